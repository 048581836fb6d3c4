/- Part of the proof: Q115, PS2, Q116, PS3, PS4, Q108, Q97, PS5, Q75, Q52, Q92. -/
import Derived.Test.YtmekcfdllhphlaaGreatDoorK7
set_option linter.unusedVariables false
set_option linter.unusedSimpArgs false
set_option maxRecDepth 100000
open Int renaming toNat_natCast → aaH
open List renaming append_assoc → aaM, cons_append → aa0, nil_append → aa5
open Nat renaming le_refl → aaE, zero_add → aaZ, mul_le_mul_right → abq
open Option renaming bind_some → aaA
open Prod.mk renaming injEq → aaJ
namespace Go.Proofs.YtmekcfdllhphlaaGreatDoor
open Go Go.R
open Go.IntKind (i64 u64 u8 u32)
def si:b9:=gm [0,1,2,3,8,9,14,34] [] [224,160,224,192,64,192,192] [] []
def ba.l1 (m:Nat)(a0:Int)(a6:Int→Int→Option (Int)):Nat→(List Int)→Int→Option ((List Int) × Int)
 | 0,_,_=>none
 | k+1,dE,j0=>if (decide (j0 > a0))=true then ((ix dE j0).bind fun v0=>(ix dE (i64.wrap (j0 - (1:Int)))).bind fun v1=>(a6 v0 v1).bind fun r0=>if (decide (r0<(0:Int)))=true then ((ix dE (i64.wrap (j0 - (1:Int)))).bind fun v2=>(ix dE j0).bind fun v3=>(ix dE j0).bind fun v4=>(ix (dE.set j0.toNat v2) (i64.wrap (j0 - (1:Int)))).bind fun v5=>ba.l1 m a0 a6 k ((dE.set j0.toNat v2).set (i64.wrap (j0 - (1:Int))).toNat v3) (i64.wrap (j0 - (1:Int)))) else (some ((dE,j0)))) else (some ((dE,j0)))
def ba.l0 (m:Nat)(a0:Int)(b0:Int)(a6:Int→Int→Option (Int)):Nat→(List Int)→Int→Option ((List Int) × Int)
 | 0,_,_=>none
 | k+1,bI,i0=>if (decide (i0<b0))=true then ((ba.l1 m a0 a6 m bI i0).bind fun aF=>match aF with | (dY,j1)=>ba.l0 m a0 b0 a6 k dY (i64.wrap (i0+(1:Int)))) else (some ((bI,i0)))
def ba.f (m:Nat)(aw:List Int)(a0:Int)(b0:Int)(a6:Int→Int→Option (Int)):Option ((List Int)):=(ba.l0 m a0 b0 a6 m aw (i64.wrap (a0+(1:Int)))).bind fun bm=>match bm with | (ko,i1)=>some ko
def ba.fin (L:Mem)(az:Nat)(aw:List Int)(a0:Int)(b0:Int)(a6:Int→Int→Option (Int))(r:(List Int))(s:St):Prop:=aH Tryz.prog (s.open si) Tryz.f115.results.toList=some (.tup [])∧Has s.h ((az,.sl aw.length 1 (aa.l r))::L)
def NK (cf:CallF)(m:Nat):Prop:=∀(aw:List Int) (a0:Int) (b0:Int) (a6:Int→Int→Option (Int)) (r:(List Int)),ba.f m aw a0 b0 a6=some r→∀h L (dh:Nat) (az:Nat),Has h ((az,.sl dh 1 (aa.l aw))::L)→∀(tj:FuncId) (gy:List AV),aC (.fn tj gy) = .fn tj gy→(∀h K,Has h (K++L)→∀(a0:Int) (a1:Int) r,a6 a0 a1=some r→cf tj ([.int .i64 a0,.int .i64 a1]++gy) h=some (.int .i64 r,h))→∀xs,xs.map aC=[.rs az 0 dh 1,.int .i64 a0,.int .i64 b0,.fn tj gy]→∃h',cf 115 xs h=some (.tup [],h')∧Has h' ((az,.sl dh 1 (aa.l r))::L)
section
variable {cf:CallF}{m:Nat}
theorem ba.eO (L:Mem)(az:Nat)(tj:FuncId)(gy:List AV)(aw:List Int)(a0:Int)(b0:Int)(a6:Int→Int→Option (Int))(i0:Int)  (Gc:aC (.fn tj gy) = .fn tj gy)(CZ:∀h K,Has h (K++L)→∀(a0:Int) (a1:Int) r,a6 a0 a1=some r→cf tj ([.int .i64 a0,.int .i64 a1]++gy) h=some (.int .i64 r,h))  : bC Tryz.prog cf si m (sub [1,0,0,1,0,0,1,0,0] (codeOf Tryz.f115)) (fun k (σ:(List Int) × Int)=>ba.l1 m a0 a6 k σ.1 σ.2) (fun σ s=>match σ with | (dE,j0)=>∃h1,s=⟨[.rs az 0 aw.length 1,.int .i64 a0,.int .i64 b0,.fn tj gy,.int .i64 i0,.int .i64 j0,.any,.any],[],h1⟩∧Has h1 ((az,.sl aw.length 1 (aa.l dE))::L)) (fun out e s=>(e = .exit 2∧∃dE j0,(dE,j0)=out∧∃qQ NL h1,s=⟨[.rs az 0 aw.length 1,.int .i64 a0,.int .i64 b0,.fn tj gy,.int .i64 i0,qQ,.any,NL],[],h1⟩∧Has h1 ((az,.sl aw.length 1 (aa.l dE))::L))):=by
 refine gk (fun _=>rfl) ?_
 rintro k ⟨dE,j0⟩ s out ⟨h1,rfl,o1⟩ H
 have H:ba.l1 m a0 a6 (k+1) dE j0=some out:=H
 refine qq <| qq ?_
 rcases dX H with⟨c1,H⟩| ⟨c1,H⟩
 ·obtain⟨v0,e0,H⟩:=aG H
  obtain⟨v1,e1,H⟩:=aG H
  obtain⟨r0,e2,H⟩:=aG H
  refine qr [.b 3 c1,.v 7 (aJ (k:=.i64) (E:=aa) (l:=dE) (q:=0) dK o1 rfl e0),.v 8 (bA  (E:=aa) (l:=dE) (q:=0) o1 rfl A3 e0 rfl),.v 12 (aJ (k:=.i64) (E:=aa) (l:=dE) (q:=0) dK o1 rfl e1),.v 13 (bA  (E:=aa) (l:=dE) (q:=0) o1 rfl A3 e1 rfl),.a 14 (CZ h1 [(az,.sl aw.length 1 (aa.l dE))] o1 _ _ _ e2)] <| qc H (fun c2 H=>?_) (fun c2 H=>?_)
  ·refine qk <| qq <| qb 3 ?_
   obtain⟨v2,e3,H⟩:=aG H
   obtain⟨v3,e4,H⟩:=aG H
   obtain⟨v4,e5,H⟩:=aG H
   obtain⟨h2,e6,o2⟩:=eG (P:=Tryz.prog) (tf:=3) (E:=aa) (l:=dE) (q:=0) (v:=v2) (x:=.int .i64 v2) o1 rfl Z3 e5 rfl rfl
   obtain⟨v5,e7,H⟩:=aG H
   obtain⟨h3,e8,o3⟩:=eG (P:=Tryz.prog) (tf:=3) (E:=aa) (l:=(dE.set j0.toNat v2)) (q:=0) (v:=v3) (x:=.int .i64 v3) o2 rfl Z3 e7 rfl rfl
   exact qr [.v 8 (aJ (k:=.i64) (E:=aa) (l:=dE) (q:=0) dK o1 rfl e3),.v 9 (bA  (E:=aa) (l:=dE) (q:=0) o1 rfl A3 e3 rfl),.v 12 (aJ (k:=.i64) (E:=aa) (l:=dE) (q:=0) dK o1 rfl e4),.v 13 (bA  (E:=aa) (l:=dE) (q:=0) o1 rfl A3 e4 rfl),.v 14 (aJ (k:=.i64) (E:=aa) (l:=dE) (q:=0) dK o1 rfl e5),.w 15 e6,.v 16 (aJ (k:=.i64) (E:=aa) (l:=(dE.set j0.toNat v2)) (q:=0) dK o2 rfl e7),.w 17 e8] <| q0 <| ⟨((dE.set j0.toNat v2).set (i64.wrap (j0 - (1:Int))).toNat v3,i64.wrap (j0 - (1:Int))),⟨h3,by kernel_rfl,o3⟩,H⟩
  ·exact qx 2 <| ⟨rfl,dE,j0,oi H,.int .i64 j0,.bool (decide (r0<(0:Int))),h1,by kernel_rfl,o1⟩
 ·exact qr [.b 3 c1] <| AU <| qx 2 <| ⟨rfl,dE,j0,oi H,.int .i64 j0,.bool false,h1,by kernel_rfl,o1⟩
theorem ba.bu (L:Mem)(az:Nat)(tj:FuncId)(gy:List AV)(aw:List Int)(a0:Int)(b0:Int)(a6:Int→Int→Option (Int))  (Gc:aC (.fn tj gy) = .fn tj gy)(CZ:∀h K,Has h (K++L)→∀(a0:Int) (a1:Int) r,a6 a0 a1=some r→cf tj ([.int .i64 a0,.int .i64 a1]++gy) h=some (.int .i64 r,h))  : bC Tryz.prog cf si m (sub [1,0,0] (codeOf Tryz.f115)) (fun k (σ:(List Int) × Int)=>ba.l0 m a0 b0 a6 k σ.1 σ.2) (fun σ s=>match σ with | (bI,i0)=>∃h0,s=⟨.rs az 0 aw.length 1 :: .int .i64 a0 :: .int .i64 b0 :: .fn tj gy :: .int .i64 i0::jE [],[],h0⟩∧Has h0 ((az,.sl aw.length 1 (aa.l bI))::L)) (fun out e s=>(e = .exit 0∧∃bI i0,(bI,i0)=out∧∃kM qM F5 tG pG sj h0,s=⟨[kM,qM,F5,tG,pG,.any,sj,.any],[],h0⟩∧Has h0 ((az,.sl aw.length 1 (aa.l bI))::L))):=by
 refine gk (fun _=>rfl) ?_
 rintro k ⟨bI,i0⟩ s out ⟨h0,rfl,o0⟩ H
 have H:ba.l0 m a0 b0 a6 (k+1) bI i0=some out:=H
 refine qq <| qq <| q0 <| qc H (fun c0 H=>?_) (fun c0 H=>?_)
 ·refine qk <| qq <| qb 1 <| qq <| q0 <| qb 2 ?_
  obtain⟨aF,e9,H⟩:=aG H
  refine ql (ba.eO L az tj gy aw a0 b0 a6 i0  Gc CZ  (bI,i0) _ _ ⟨h0,by kernel_rfl,o0⟩ e9) ?_
  rintro e s ⟨rfl,dY,j1,rfl,g0,g1,h4,rfl,o4⟩
  try dsimp only at H
  exact q0 <| ⟨(dY,i64.wrap (i0+(1:Int))),⟨h4,by kernel_rfl,o4⟩,H⟩
 ·exact qx 0 <| ⟨rfl,bI,i0,oi H,.rs az 0 aw.length 1,.int .i64 a0,.int .i64 b0,.fn tj gy,.int .i64 i0,.bool (decide (i0<b0)),h0,by kernel_rfl,o0⟩
theorem oG {aV:FuncId→b9}(ha:aV 115=si)  (aw:List Int)(a0:Int)(b0:Int)(a6:Int→Int→Option (Int))(h:AHeap)(L:Mem)(az:Nat)(tj:FuncId)(gy:List AV)  (Gc:aC (.fn tj gy) = .fn tj gy)(CZ:∀h K,Has h (K++L)→∀(a0:Int) (a1:Int) r,a6 a0 a1=some r→cf tj ([.int .i64 a0,.int .i64 a1]++gy) h=some (.int .i64 r,h))(o:Has h ((az,.sl aw.length 1 (aa.l aw))::L)){out:(List Int)}(H:ba.f m aw a0 b0 a6=some out) :
  ∃r h',bg Tryz.prog aV cf m 115 [.rs az 0 aw.length 1,.int .i64 a0,.int .i64 b0,.fn tj gy] h=some (r,h')∧r = .tup []∧Has h' ((az,.sl aw.length 1 (aa.l out))::L):=by
 refine aj (fn:=Tryz.f115) ha Tryz.func115 (by kernel_rfl) (by kernel_rfl) ?_
 refine aD (Q:=fun s=>ba.fin L az aw a0 b0 a6 out s) (fun _ _ ⟨h1,h2,h3⟩=>⟨h1,_,h2,rfl,h3⟩) ?_
 have H:_=some out:=H
 unfold ba.f at H
 show dA _ cf si m _ ⟨.rs az 0 aw.length 1 :: .int .i64 a0 :: .int .i64 b0 :: .fn tj gy::mT [],[],h⟩ _
 refine q1 <| qb 0 ?_
 obtain⟨bm,lF,H⟩:=aG H
 refine ql (ba.bu L az tj gy aw a0 b0 a6  Gc CZ  (aw,i64.wrap (a0+(1:Int))) _ _ ⟨h,by kernel_rfl,o⟩ lF) ?_
 rintro e s ⟨rfl,ko,i1,rfl,g2,g3,g4,g5,g6,g7,h5,rfl,o5⟩
 try dsimp only at H
 obtain rfl:=oi H
 exact⟨.inr rfl,⟨by kernel_rfl,he o5⟩⟩
end
end Go.Proofs.YtmekcfdllhphlaaGreatDoor
namespace Go.Proofs.YtmekcfdllhphlaaGreatDoor
open Go Go.R
open Go.IntKind (i64 u64 u8 u32)
structure Mv (lo hi:Nat)(l d:List Int):Prop where
 perm:d.Perm l
 out:∀k,k<lo∨hi≤k→gt d k=gt l k
 im:∀k,lo≤k→k<hi→∃k',lo≤k'∧k'<hi∧gt d k=gt l k'
theorem Mv.refl {lo hi:Nat}{l:List Int}:Mv lo hi l l:=⟨List.Perm.refl _,fun _ _=>rfl,fun k h1 h2=>⟨k,h1,h2,rfl⟩⟩
theorem Mv.trans {lo hi:Nat}{l d e:List Int}(a:Mv lo hi l d)(b:Mv lo hi d e):Mv lo hi l e:=
 ⟨b.perm.trans a.perm,fun k hk=>(b.out k hk).trans (a.out k hk),fun k h1 h2=>by
  obtain⟨k',g1,g2,g3⟩:=b.im k h1 h2
  obtain⟨YG,g4,g5,g6⟩:=a.im k' g1 g2
  exact⟨YG,g4,g5,g3.trans g6⟩⟩
theorem Mv.length {lo hi:Nat}{l d:List Int}(a:Mv lo hi l d):d.length=l.length:=a.perm.length_eq
theorem Mv.wide {lo hi J2 mQ:Nat}{l d:List Int}(a:Mv lo hi l d)(h1:J2≤lo)(h2:hi≤mQ):Mv J2 mQ l d:=
 ⟨a.perm,fun k hk=>a.out k (by omega),fun k h3 h4=>by
  by_cases h:lo≤k∧k<hi
  ·obtain⟨k',g1,g2,g3⟩:=a.im k h.1 h.2
   exact⟨k',by omega,by omega,g3⟩
  ·exact⟨k,h3,h4,a.out k (by omega)⟩⟩
theorem C0 {lo hi i j:Nat}{l:List Int}(RH:lo≤i)(Cb:i<hi)(RV:lo≤j)(Hh:j<hi)(h:hi≤l.length):Mv lo hi l (swp l i j):=
 ⟨qN (by omega) (by omega),fun k hk=>by rw [mI (by omega) (by omega),if_neg (by omega),if_neg (by omega)],fun k h1 h2=>by
  rw [mI (by omega) (by omega)]
  split
  ·exact⟨i,RH,Cb,rfl⟩
  split
  ·exact⟨j,RV,Hh,rfl⟩
  ·exact⟨k,h1,h2,rfl⟩⟩
def Cm (cmp:Int→Int→Option Int)(c:Int→Int→Int)(l:List Int):Prop:=∀x∈l,∀y∈l,cmp x y=some (c x y)
theorem Cm.perm {cmp c l d}(h:Cm cmp c l)(p:List.Perm d l):Cm cmp c d:=fun x hx y hy=>h x (p.mem_iff.1 hx) y (p.mem_iff.1 hy)
theorem Cm.at {cmp c}{l:List Int}(h:Cm cmp c l){i j:Nat}(hi:i<l.length)(hj:j<l.length):cmp (gt l i) (gt l j)=some (c (gt l i) (gt l j)):=h _ (a8 hi) _ (a8 hj)
structure Ord (c:Int→Int→Int)(l:List Int):Prop where
 tr:∀x∈l,∀y∈l,∀z∈l,0≤c y x→0≤c z y→0≤c z x
 OY:∀x∈l,∀y∈l,c x y<0→0≤c y x
theorem Ord.perm {c l d}(h:Ord c l)(p:List.Perm d l):Ord c d:=⟨fun x hx y hy z hz=>h.tr x (p.mem_iff.1 hx) y (p.mem_iff.1 hy) z (p.mem_iff.1 hz),fun x hx y hy=>h.OY x (p.mem_iff.1 hx) y (p.mem_iff.1 hy)⟩
def Sg (c:Int→Int→Int)(l:List Int)(a b:Nat):Prop:=∀i j,a≤i→i<j→j<b→0≤c (gt l j) (gt l i)
theorem H8 {m:Nat}{a i:Nat}{cmp:Int→Int→Option Int}{c:Int→Int→Int}:∀(f j:Nat) (d:List Int),j - a<f→a≤j→j≤i→i<d.length→d.length<2 ^ 40→Cm cmp c d→
  ∃d' x,ba.l1 m (a:Int) cmp f d (j:Int)=some (d',x)∧Mv a (i+1) d d'∧
   (Ord c d→(∀x y,a≤x→x<y→y≤i→x≠j→y≠j→0≤c (gt d y) (gt d x))→(∀y,j<y→y≤i→0≤c (gt d y) (gt d j))→Sg c d' a (i+1))
 | 0,j,d,hf,_,_,_,_,_=>absurd hf (by omega)
 | f+1,j,d,hf,h1,h2,h3,hs,C=>by
  have mZ:(2:Nat) ^ 40=1099511627776:=by decide
  unfold ba.l1
  by_cases h:a<j
  ·have e1:i64.wrap ((j:Int) - 1)=((j - 1:Nat):Int):=by rw [ay (by omega) (by omega)]; omega
   rw [if_pos (by simp; omega),e1,db (by omega),db (by omega),aaA,aaA,C.at (by omega) (by omega),aaA]
   by_cases hc:c (gt d j) (gt d (j - 1))<0
   ·rw [if_pos (by simpa using hc),aaA,aaA,aaA,aaH,aaH,db (by simp; omega),aaA]
    obtain⟨d',x,k1,k2,k3⟩:=H8 (m:=m) (a:=a) (i:=i) (cmp:=cmp) (c:=c) f (j - 1) (swp d j (j - 1)) (by omega) (by omega) (by omega) (by rw [vH]; omega) (by rw [vH]; omega) (C.perm (qN (by omega) (by omega)))
    refine⟨d',x,k1,(C0 (by omega) (by omega) (by omega) (by omega) (by omega)).trans k2,fun O g1 g2=>k3 (O.perm (qN (by omega) (by omega))) (fun x y x1 x2 x3 x4 x5=>?_) (fun y y1 y2=>?_)⟩
    ·rw [mI (by omega) (by omega),mI (by omega) (by omega),if_neg x5,if_neg x4]
     by_cases hy:y=j
     ·subst hy
      rw [if_pos rfl,if_neg (by omega)]
      exact g1 _ _ (by omega) (by omega) (by omega) (by omega) (by omega)
     ·rw [if_neg hy]
      by_cases hx:x=j
      ·subst hx
       rw [if_pos rfl]
       exact g1 _ _ (by omega) (by omega) (by omega) (by omega) (by omega)
      ·rw [if_neg hx]
       exact g1 _ _ (by omega) (by omega) (by omega) (by omega) (by omega)
    ·rw [mI (by omega) (by omega),mI (by omega) (by omega),if_neg (by omega),if_pos rfl]
     by_cases hy:y=j
     ·subst hy
      rw [if_pos rfl]
      exact O.OY _ (a8 (by omega)) _ (a8 (by omega)) hc
     ·rw [if_neg hy]
      exact g2 _ (by omega) (by omega)
   ·rw [if_neg (by simpa using hc)]
    refine⟨d,j,rfl,Mv.refl,fun O g1 g2 x y x1 x2 x3=>?_⟩
    have hc:0≤c (gt d j) (gt d (j - 1)):=by omega
    by_cases hx:x=j
    ·subst hx; exact g2 _ x2 (by omega)
    ·by_cases hy:y=j
     ·subst hy
      by_cases hx1:x=y - 1
      ·subst hx1; exact hc
      ·exact O.tr _ (a8 (by omega)) (gt d (y - 1)) (a8 (by omega)) _ (a8 (by omega)) (g1 _ _ x1 (by omega) (by omega) hx (by omega)) hc
     ·exact g1 _ _ x1 x2 (by omega) hx hy
  ·have:j=a:=by omega
   subst this
   rw [if_neg (by simp)]
   refine⟨d,j,rfl,Mv.refl,fun O g1 g2 x y x1 x2 x3=>?_⟩
   by_cases hx:x=j
   ·subst hx; exact g2 _ x2 (by omega)
   ·exact g1 _ _ x1 x2 (by omega) hx (by omega)
theorem H9 {m:Nat}{a b:Nat}{cmp:Int→Int→Option Int}{c:Int→Int→Int}(hm:2 ^ 41≤m):∀(f i:Nat) (d:List Int),b - i<f→a<i→b≤d.length→d.length<2 ^ 40→Cm cmp c d→
  ∃d' x,ba.l0 m (a:Int) (b:Int) cmp f d (i:Int)=some (d',x)∧Mv a b d d'∧(Ord c d→Sg c d a i→Sg c d' a b)
 | 0,i,d,hf,_,_,_,_=>absurd hf (by omega)
 | f+1,i,d,hf,h1,h2,hs,C=>by
  have mZ:(2:Nat) ^ 40=1099511627776:=by decide
  have qO:(2:Nat) ^ 41=2199023255552:=by decide
  unfold ba.l0
  by_cases h:i<b
  ·obtain⟨d1,x1,k1,k2,k3⟩:=H8 (m:=m) (a:=a) (i:=i) (cmp:=cmp) (c:=c) m i d (by omega) (by omega) (by omega) (by omega) hs C
   have e3:i64.wrap ((i:Int)+1)=((i+1:Nat):Int):=by rw [ay (by omega) (by omega)]; omega
   rw [if_pos (by simp; omega),k1,aaA]
   dsimp only
   rw [e3]
   have hl:=k2.length
   obtain⟨d',x,g1,g2,g3⟩:=H9 (a:=a) (b:=b) (cmp:=cmp) (c:=c) hm f (i+1) d1 (by omega) (by omega) (by omega) (by omega) (C.perm k2.perm)
   exact⟨d',x,g1,(k2.wide (aaE _) (by omega)).trans g2,fun O S=>g3 (O.perm k2.perm) (k3 O (fun x y q1 q2 q3 q4 q5=>S x y q1 q2 (by omega)) (fun y q1 q2=>absurd q1 (by omega)))⟩
  ·exact⟨d,i,by rw [if_neg (by simp; omega)],Mv.refl,fun O S x y q1 q2 q3=>S x y q1 q2 (by omega)⟩
theorem Ba {m:Nat}{a b:Nat}{cmp:Int→Int→Option Int}{c:Int→Int→Int}(hm:2 ^ 41≤m){l:List Int}(ha:a≤l.length)(hb:b≤l.length)(hs:l.length<2 ^ 40)(C:Cm cmp c l) :
  ∃d,ba.f m l (a:Int) (b:Int) cmp=some d∧Mv a b l d∧(Ord c l→Sg c d a b):=by
 have mZ:(2:Nat) ^ 40=1099511627776:=by decide
 have qO:(2:Nat) ^ 41=2199023255552:=by decide
 have e3:i64.wrap ((a:Int)+1)=((a+1:Nat):Int):=by rw [ay (by omega) (by omega)]; omega
 obtain⟨d',x,g1,g2,g3⟩:=H9 (a:=a) (b:=b) (cmp:=cmp) (c:=c) hm m (a+1) l (by omega) (by omega) hb hs C
 exact⟨d',by unfold ba.f; rw [e3,g1]; rfl,g2,fun O=>g3 O fun x y q1 q2 q3=>absurd q3 (by omega)⟩
end Go.Proofs.YtmekcfdllhphlaaGreatDoor
namespace Go.Proofs.YtmekcfdllhphlaaGreatDoor
open Go Go.R
open Go.IntKind (i64 u64 u8 u32)
def mK:b9:=gm [0,1,2,3,4,10,11,12,13,14,15,16,17,18,19,20,21,22,23,24,28,33,50,58,80,85,103,110,140,151,171,185,199,213] [] [17178820576,17179869124,17179869068,17177771916,17179868940,17175674636,17179869068,17179869068,17179868894,17171480286,17179868894,17179868894,17163091936,17179868650,17179867626,17146313194,17179865578,17112756714,17179867626,17179867626,17179864574,17045646846,17179864574,17179864574,17179860960,17179844576,17179844576,16911409120,17179811808,17179746272,17179811808,17179746272,17179615200,16642744288,17179353056,16105611232,17179615200,17179615200,17179303904,15031820256,17179303908,12884336612,17179336678,8589402086,17179869183] [] []
def aI.l0 (m:Nat)(aw:List Int)(a0:Int)(a6:Int→Int→Option (Int)):Nat→Int→Int→Option (Int × Int)
 | 0,_,_=>none
 | k+1,i0,j0=>if (decide (i0<j0))=true then ((ix aw (i64.wrap (gO .u64 (u64.wrap (i64.wrap (i0+j0))) 1))).bind fun v0=>(ix aw a0).bind fun v1=>(a6 v0 v1).bind fun r0=>if (decide (r0<(0:Int)))=true then (aI.l0 m aw a0 a6 k (i64.wrap (i64.wrap (gO .u64 (u64.wrap (i64.wrap (i0+j0))) 1)+(1:Int))) j0) else (aI.l0 m aw a0 a6 k i0 (i64.wrap (gO .u64 (u64.wrap (i64.wrap (i0+j0))) 1)))) else (some ((i0,j0)))
def aI.l1 (m:Nat)(i1:Int):Nat→(List Int)→Int→Option ((List Int) × Int)
 | 0,_,_=>none
 | k+1,bI,k0=>if (decide (k0<(i64.wrap (i1 - (1:Int)))))=true then ((ix bI (i64.wrap (k0+(1:Int)))).bind fun v2=>(ix bI k0).bind fun v3=>(ix bI k0).bind fun v4=>(ix (bI.set k0.toNat v2) (i64.wrap (k0+(1:Int)))).bind fun v5=>aI.l1 m i1 k ((bI.set k0.toNat v2).set (i64.wrap (k0+(1:Int))).toNat v3) (i64.wrap (k0+(1:Int)))) else (some ((bI,k0)))
def aI.l2 (m:Nat)(aw:List Int)(m0:Int)(a6:Int→Int→Option (Int)):Nat→Int→Int→Option (Int × Int)
 | 0,_,_=>none
 | k+1,i2,j2=>if (decide (i2<j2))=true then ((ix aw m0).bind fun v6=>(ix aw (i64.wrap (gO .u64 (u64.wrap (i64.wrap (i2+j2))) 1))).bind fun v7=>(a6 v6 v7).bind fun r1=>if (!(decide (r1<(0:Int))))=true then (aI.l2 m aw m0 a6 k (i64.wrap (i64.wrap (gO .u64 (u64.wrap (i64.wrap (i2+j2))) 1)+(1:Int))) j2) else (aI.l2 m aw m0 a6 k i2 (i64.wrap (gO .u64 (u64.wrap (i64.wrap (i2+j2))) 1)))) else (some ((i2,j2)))
def aI.l3 (m:Nat)(i3:Int):Nat→(List Int)→Int→Option ((List Int) × Int)
 | 0,_,_=>none
 | k+1,dY,k2=>if (decide (k2 > i3))=true then ((ix dY (i64.wrap (k2 - (1:Int)))).bind fun v8=>(ix dY k2).bind fun v9=>(ix dY k2).bind fun v10=>(ix (dY.set k2.toNat v8) (i64.wrap (k2 - (1:Int)))).bind fun v11=>aI.l3 m i3 k ((dY.set k2.toNat v8).set (i64.wrap (k2 - (1:Int))).toNat v9) (i64.wrap (k2 - (1:Int)))) else (some ((dY,k2)))
def aI.l4 (m:Nat)(aw:List Int)(a0:Int)(m0:Int)(b0:Int)(a6:Int→Int→Option (Int)):Nat→Int→Int→Option (Int × Int)
 | 0,_,_=>none
 | k+1,gF,r3=>if (decide (gF<r3))=true then ((ix aw (i64.wrap (i64.wrap (i64.wrap (i64.wrap (gO .u64 (u64.wrap (i64.wrap (a0+b0))) 1)+m0) - (1:Int)) - i64.wrap (gO .u64 (u64.wrap (i64.wrap (gF+r3))) 1)))).bind fun v12=>(ix aw (i64.wrap (gO .u64 (u64.wrap (i64.wrap (gF+r3))) 1))).bind fun KS=>(a6 v12 KS).bind fun r4=>if (!(decide (r4<(0:Int))))=true then (aI.l4 m aw a0 m0 b0 a6 k (i64.wrap (i64.wrap (gO .u64 (u64.wrap (i64.wrap (gF+r3))) 1)+(1:Int))) r3) else (aI.l4 m aw a0 m0 b0 a6 k gF (i64.wrap (gO .u64 (u64.wrap (i64.wrap (gF+r3))) 1)))) else (some ((gF,r3)))
def aI.b (m:Nat)(rec:(List Int)→Int→Int→Int→(Int→Int→Option (Int))→Option ((List Int)))(aw:List Int)(a0:Int)(m0:Int)(b0:Int)(a6:Int→Int→Option (Int)):Option ((List Int)):=if ((i64.wrap (m0 - a0))==(1:Int))=true then ((aI.l0 m aw a0 a6 m m0 b0).bind fun aF=>match aF with | (i1,j1)=>(aI.l1 m i1 m aw a0).bind fun bm=>match bm with | (dE,k1)=>some dE) else (if ((i64.wrap (b0 - m0))==(1:Int))=true then ((aI.l2 m aw m0 a6 m a0 m0).bind fun cw=>match cw with | (i3,j3)=>(aI.l3 m i3 m aw m0).bind fun jR=>match jR with | (ko,k3)=>some ko) else (jn (fun (σ:Int × Int)=>match σ with | (vP,r2)=>(aI.l4 m aw a0 m0 b0 a6 m vP r2).bind fun cE=>match cE with | (fI,r5)=>jn (fun (σ:(List Int))=>match σ with | l9=>jn (fun (σ:(List Int))=>match σ with | qS=>if (decide ((i64.wrap (gO .u64 (u64.wrap (i64.wrap (a0+b0))) 1))<(i64.wrap (i64.wrap (i64.wrap (gO .u64 (u64.wrap (i64.wrap (a0+b0))) 1)+m0) - fI))))=true then (if (decide ((i64.wrap (i64.wrap (i64.wrap (gO .u64 (u64.wrap (i64.wrap (a0+b0))) 1)+m0) - fI))<b0))=true then ((rec qS (i64.wrap (gO .u64 (u64.wrap (i64.wrap (a0+b0))) 1)) (i64.wrap (i64.wrap (i64.wrap (gO .u64 (u64.wrap (i64.wrap (a0+b0))) 1)+m0) - fI)) b0 a6).bind fun x2=>some x2) else (some qS)) else (some qS)) fun Qu=>(if (decide (a0<fI))=true then (if (decide (fI<(i64.wrap (gO .u64 (u64.wrap (i64.wrap (a0+b0))) 1))))=true then ((rec l9 a0 fI (i64.wrap (gO .u64 (u64.wrap (i64.wrap (a0+b0))) 1)) a6).bind fun x1=>Qu x1) else (Qu l9)) else (Qu l9))) fun Qv=>(if (decide (fI<m0))=true then (if (decide (m0<(i64.wrap (i64.wrap (i64.wrap (gO .u64 (u64.wrap (i64.wrap (a0+b0))) 1)+m0) - fI))))=true then ((fw.f m aw fI m0 (i64.wrap (i64.wrap (i64.wrap (gO .u64 (u64.wrap (i64.wrap (a0+b0))) 1)+m0) - fI)) a6).bind fun x0=>Qv x0) else (Qv aw)) else (Qv aw))) fun RW=>(if (decide (m0 > (i64.wrap (gO .u64 (u64.wrap (i64.wrap (a0+b0))) 1))))=true then (RW (i64.wrap (i64.wrap (i64.wrap (gO .u64 (u64.wrap (i64.wrap (a0+b0))) 1)+m0) - b0),i64.wrap (gO .u64 (u64.wrap (i64.wrap (a0+b0))) 1))) else (RW (a0,m0)))))
def aI.f (m:Nat):Nat→(List Int)→Int→Int→Int→(Int→Int→Option (Int))→Option ((List Int))
 | 0,_,_,_,_,_=>none
 | k+1,aw,a0,m0,b0,a6=>aI.b m (aI.f m k) aw a0 m0 b0 a6
def aI.fin (L:Mem)(az:Nat)(aw:List Int)(a0:Int)(m0:Int)(b0:Int)(a6:Int→Int→Option (Int))(r:(List Int))(s:St):Prop:=aH Tryz.prog (s.open mK) Tryz.f116.results.toList=some (.tup [])∧Has s.h ((az,.sl aw.length 1 (aa.l r))::L)
def xg (cf:CallF)(m:Nat)(kk:Nat):Prop:=∀(aw:List Int) (a0:Int) (m0:Int) (b0:Int) (a6:Int→Int→Option (Int)) (r:(List Int)),aI.f m kk aw a0 m0 b0 a6=some r→∀h L (dh:Nat) (az:Nat),Has h ((az,.sl dh 1 (aa.l aw))::L)→∀(eZ:FuncId) (bl:List AV),aC (.fn eZ bl) = .fn eZ bl→(∀h K,Has h (K++L)→∀(a0:Int) (a1:Int) r,a6 a0 a1=some r→cf eZ ([.int .i64 a0,.int .i64 a1]++bl) h=some (.int .i64 r,h))→∀xs,xs.map aC=[.rs az 0 dh 1,.int .i64 a0,.int .i64 m0,.int .i64 b0,.fn eZ bl]→∃h',cf 116 xs h=some (.tup [],h')∧Has h' ((az,.sl dh 1 (aa.l r))::L)
section
variable {cf:CallF}{m:Nat}
theorem aI.bu (L:Mem)(az:Nat)(eZ:FuncId)(bl:List AV)(aw:List Int)(a0:Int)(m0:Int)(b0:Int)(a6:Int→Int→Option (Int))  {kk:Nat}(jy:xg cf m kk)(ir:aC (.fn eZ bl) = .fn eZ bl)(iS:∀h K,Has h (K++L)→∀(a0:Int) (a1:Int) r,a6 a0 a1=some r→cf eZ ([.int .i64 a0,.int .i64 a1]++bl) h=some (.int .i64 r,h))  : bC Tryz.prog cf mK m (sub [0,1,0,1,1,0,0,0] (codeOf Tryz.f116)) (fun k (σ:Int × Int)=>aI.l0 m aw a0 a6 k σ.1 σ.2) (fun σ s=>match σ with | (i0,j0)=>∃h0,s=⟨.rs az 0 aw.length 1 :: .int .i64 a0 :: .any :: .any :: .fn eZ bl :: .int .i64 i0 :: .int .i64 j0::Qc [],[],h0⟩∧Has h0 ((az,.sl aw.length 1 (aa.l aw))::L)) (fun out e s=>(e = .exit 0∧∃i0 j0,(i0,j0)=out∧∃zp zj TN h0,s=⟨.rs az 0 aw.length 1 :: .int .i64 a0 :: .any :: .any::zp :: .int .i64 i0::zj::qG (TN::oE []),[],h0⟩∧Has h0 ((az,.sl aw.length 1 (aa.l aw))::L))):=by
 refine gk (fun _=>rfl) ?_
 rintro k ⟨i0,j0⟩ s out ⟨h0,rfl,o0⟩ H
 have H:aI.l0 m aw a0 a6 (k+1) i0 j0=some out:=H
 refine qq <| qq <| q0 <| qc H (fun c1 H=>?_) (fun c1 H=>?_)
 ·refine qk <| qb 1 <| qq <| q0 <| qq ?_
  obtain⟨v0,e0,H⟩:=aG H
  obtain⟨v1,e1,H⟩:=aG H
  obtain⟨r0,e2,H⟩:=aG H
  refine qr [.v 3 (aJ (k:=.i64) (E:=aa) (l:=aw) (q:=0) dK o0 rfl e0),.v 4 (bA  (E:=aa) (l:=aw) (q:=0) o0 rfl A3 e0 rfl),.v 7 (aJ (k:=.i64) (E:=aa) (l:=aw) (q:=0) dK o0 rfl e1),.v 8 (bA  (E:=aa) (l:=aw) (q:=0) o0 rfl A3 e1 rfl),.a 9 (iS h0 [(az,.sl aw.length 1 (aa.l aw))] o0 _ _ _ e2)] <| qc H (fun c2 H=>?_) (fun c2 H=>?_)
  ·exact q0 <| ⟨(i64.wrap (i64.wrap (gO .u64 (u64.wrap (i64.wrap (i0+j0))) 1)+(1:Int)),j0),⟨h0,by kernel_rfl,o0⟩,H⟩
  ·exact q0 <| ⟨(i0,i64.wrap (gO .u64 (u64.wrap (i64.wrap (i0+j0))) 1)),⟨h0,by kernel_rfl,o0⟩,H⟩
 ·exact qx 0 <| ⟨rfl,i0,j0,oi H,.fn eZ bl,.int .i64 j0,.bool (decide (i0<j0)),h0,by kernel_rfl,o0⟩
theorem aI.eO (L:Mem)(az:Nat)(eZ:FuncId)(bl:List AV)(aw:List Int)(a0:Int)(m0:Int)(b0:Int)(a6:Int→Int→Option (Int))(i1:Int)  {kk:Nat}(jy:xg cf m kk)(ir:aC (.fn eZ bl) = .fn eZ bl)(iS:∀h K,Has h (K++L)→∀(a0:Int) (a1:Int) r,a6 a0 a1=some r→cf eZ ([.int .i64 a0,.int .i64 a1]++bl) h=some (.int .i64 r,h))  : bC Tryz.prog cf mK m (sub [0,1,0,1,1,1,0,1,0,0] (codeOf Tryz.f116)) (fun k (σ:(List Int) × Int)=>aI.l1 m i1 k σ.1 σ.2) (fun σ s=>match σ with | (bI,k0)=>∃h2,s=⟨.rs az 0 aw.length 1::mT (.int .i64 i1 :: .any :: .any :: .int .i64 k0::Ty []),[],h2⟩∧Has h2 ((az,.sl aw.length 1 (aa.l bI))::L)) (fun out e s=>(e = .exit 2∧∃bI k0,(bI,k0)=out∧∃kM pE pF TO h2,s=⟨kM::mT (pE :: .any :: .any::pF::qG (TO::xd [])),[],h2⟩∧Has h2 ((az,.sl aw.length 1 (aa.l bI))::L))):=by
 refine gk (fun _=>rfl) ?_
 rintro k ⟨bI,k0⟩ s out ⟨h2,rfl,o2⟩ H
 have H:aI.l1 m i1 (k+1) bI k0=some out:=H
 refine qq <| qq <| q0 <| qc H (fun c3 H=>?_) (fun c3 H=>?_)
 ·refine qk <| qq <| qb 3 ?_
  obtain⟨v2,e4,H⟩:=aG H
  obtain⟨v3,e5,H⟩:=aG H
  obtain⟨v4,e6,H⟩:=aG H
  obtain⟨h3,e7,o3⟩:=eG (P:=Tryz.prog) (tf:=3) (E:=aa) (l:=bI) (q:=0) (v:=v2) (x:=.int .i64 v2) o2 rfl Z3 e6 rfl rfl
  obtain⟨v5,e8,H⟩:=aG H
  obtain⟨h4,e9,o4⟩:=eG (P:=Tryz.prog) (tf:=3) (E:=aa) (l:=(bI.set k0.toNat v2)) (q:=0) (v:=v3) (x:=.int .i64 v3) o3 rfl Z3 e8 rfl rfl
  exact qr [.v 8 (aJ (k:=.i64) (E:=aa) (l:=bI) (q:=0) dK o2 rfl e4),.v 9 (bA  (E:=aa) (l:=bI) (q:=0) o2 rfl A3 e4 rfl),.v 12 (aJ (k:=.i64) (E:=aa) (l:=bI) (q:=0) dK o2 rfl e5),.v 13 (bA  (E:=aa) (l:=bI) (q:=0) o2 rfl A3 e5 rfl),.v 14 (aJ (k:=.i64) (E:=aa) (l:=bI) (q:=0) dK o2 rfl e6),.w 15 e7,.v 16 (aJ (k:=.i64) (E:=aa) (l:=(bI.set k0.toNat v2)) (q:=0) dK o3 rfl e8),.w 17 e9] <| q0 <| ⟨((bI.set k0.toNat v2).set (i64.wrap (k0+(1:Int))).toNat v3,i64.wrap (k0+(1:Int))),⟨h4,by kernel_rfl,o4⟩,H⟩
 ·exact qx 2 <| ⟨rfl,bI,k0,oi H,.rs az 0 aw.length 1,.int .i64 i1,.int .i64 k0,.bool (decide (k0<(i64.wrap (i1 - (1:Int))))),h2,by kernel_rfl,o2⟩
theorem aI.ma (L:Mem)(az:Nat)(eZ:FuncId)(bl:List AV)(aw:List Int)(a0:Int)(m0:Int)(b0:Int)(a6:Int→Int→Option (Int))  {kk:Nat}(jy:xg cf m kk)(ir:aC (.fn eZ bl) = .fn eZ bl)(iS:∀h K,Has h (K++L)→∀(a0:Int) (a1:Int) r,a6 a0 a1=some r→cf eZ ([.int .i64 a0,.int .i64 a1]++bl) h=some (.int .i64 r,h))  : bC Tryz.prog cf mK m (sub [1,0,1,0,1,1,0,0,0] (codeOf Tryz.f116)) (fun k (σ:Int × Int)=>aI.l2 m aw m0 a6 k σ.1 σ.2) (fun σ s=>match σ with | (i2,j2)=>∃h6,s=⟨.rs az 0 aw.length 1 :: .any :: .int .i64 m0 :: .any :: .fn eZ bl::mT (.int .i64 i2 :: .int .i64 j2::Qb []),[],h6⟩∧Has h6 ((az,.sl aw.length 1 (aa.l aw))::L)) (fun out e s=>(e = .exit 4∧∃i2 j2,(i2,j2)=out∧∃zp sk TP h6,s=⟨.rs az 0 aw.length 1 :: .any :: .int .i64 m0 :: .any::zp::mT (.int .i64 i2::sk::qG (TP::r9 [])),[],h6⟩∧Has h6 ((az,.sl aw.length 1 (aa.l aw))::L))):=by
 refine gk (fun _=>rfl) ?_
 rintro k ⟨i2,j2⟩ s out ⟨h6,rfl,o6⟩ H
 have H:aI.l2 m aw m0 a6 (k+1) i2 j2=some out:=H
 refine qq <| qq <| q0 <| qc H (fun c5 H=>?_) (fun c5 H=>?_)
 ·refine qk <| qb 5 <| qq <| q0 <| qq ?_
  obtain⟨v6,nb,H⟩:=aG H
  obtain⟨v7,nK,H⟩:=aG H
  obtain⟨r1,pa,H⟩:=aG H
  refine qr [.v 3 (aJ (k:=.i64) (E:=aa) (l:=aw) (q:=0) dK o6 rfl nb),.v 4 (bA  (E:=aa) (l:=aw) (q:=0) o6 rfl A3 nb rfl),.v 7 (aJ (k:=.i64) (E:=aa) (l:=aw) (q:=0) dK o6 rfl nK),.v 8 (bA  (E:=aa) (l:=aw) (q:=0) o6 rfl A3 nK rfl),.a 9 (iS h6 [(az,.sl aw.length 1 (aa.l aw))] o6 _ _ _ pa)] <| qc H (fun c6 H=>?_) (fun c6 H=>?_)
  ·exact q0 <| ⟨(i64.wrap (i64.wrap (gO .u64 (u64.wrap (i64.wrap (i2+j2))) 1)+(1:Int)),j2),⟨h6,by kernel_rfl,o6⟩,H⟩
  ·exact q0 <| ⟨(i2,i64.wrap (gO .u64 (u64.wrap (i64.wrap (i2+j2))) 1)),⟨h6,by kernel_rfl,o6⟩,H⟩
 ·exact qx 4 <| ⟨rfl,i2,j2,oi H,.fn eZ bl,.int .i64 j2,.bool (decide (i2<j2)),h6,by kernel_rfl,o6⟩
theorem aI.qT (L:Mem)(az:Nat)(eZ:FuncId)(bl:List AV)(aw:List Int)(a0:Int)(m0:Int)(b0:Int)(a6:Int→Int→Option (Int))(i3:Int)  {kk:Nat}(jy:xg cf m kk)(ir:aC (.fn eZ bl) = .fn eZ bl)(iS:∀h K,Has h (K++L)→∀(a0:Int) (a1:Int) r,a6 a0 a1=some r→cf eZ ([.int .i64 a0,.int .i64 a1]++bl) h=some (.int .i64 r,h))  : bC Tryz.prog cf mK m (sub [1,0,1,0,1,1,1,0,1,0,0] (codeOf Tryz.f116)) (fun k (σ:(List Int) × Int)=>aI.l3 m i3 k σ.1 σ.2) (fun σ s=>match σ with | (dY,k2)=>∃h8,s=⟨.rs az 0 aw.length 1::r9 (.int .i64 i3 :: .any :: .any :: .int .i64 k2::P9 []),[],h8⟩∧Has h8 ((az,.sl aw.length 1 (aa.l dY))::L)) (fun out e s=>(e = .exit 6∧∃dY k2,(dY,k2)=out∧∃kM sj Ia Qw h8,s=⟨kM::r9 (sj :: .any :: .any::Ia::qG (Qw::zX [])),[],h8⟩∧Has h8 ((az,.sl aw.length 1 (aa.l dY))::L))):=by
 refine gk (fun _=>rfl) ?_
 rintro k ⟨dY,k2⟩ s out ⟨h8,rfl,o8⟩ H
 have H:aI.l3 m i3 (k+1) dY k2=some out:=H
 refine qq <| qq <| q0 <| qc H (fun c7 H=>?_) (fun c7 H=>?_)
 ·refine qk <| qq <| qb 7 ?_
  obtain⟨v8,pb,H⟩:=aG H
  obtain⟨v9,qU,H⟩:=aG H
  obtain⟨v10,pP,H⟩:=aG H
  obtain⟨h9,tO,o9⟩:=eG (P:=Tryz.prog) (tf:=3) (E:=aa) (l:=dY) (q:=0) (v:=v8) (x:=.int .i64 v8) o8 rfl Z3 pP rfl rfl
  obtain⟨v11,rF,H⟩:=aG H
  obtain⟨h10,ye,oz⟩:=eG (P:=Tryz.prog) (tf:=3) (E:=aa) (l:=(dY.set k2.toNat v8)) (q:=0) (v:=v9) (x:=.int .i64 v9) o9 rfl Z3 rF rfl rfl
  exact qr [.v 8 (aJ (k:=.i64) (E:=aa) (l:=dY) (q:=0) dK o8 rfl pb),.v 9 (bA  (E:=aa) (l:=dY) (q:=0) o8 rfl A3 pb rfl),.v 12 (aJ (k:=.i64) (E:=aa) (l:=dY) (q:=0) dK o8 rfl qU),.v 13 (bA  (E:=aa) (l:=dY) (q:=0) o8 rfl A3 qU rfl),.v 14 (aJ (k:=.i64) (E:=aa) (l:=dY) (q:=0) dK o8 rfl pP),.w 15 tO,.v 16 (aJ (k:=.i64) (E:=aa) (l:=(dY.set k2.toNat v8)) (q:=0) dK o9 rfl rF),.w 17 ye] <| q0 <| ⟨((dY.set k2.toNat v8).set (i64.wrap (k2 - (1:Int))).toNat v9,i64.wrap (k2 - (1:Int))),⟨h10,by kernel_rfl,oz⟩,H⟩
 ·exact qx 6 <| ⟨rfl,dY,k2,oi H,.rs az 0 aw.length 1,.int .i64 i3,.int .i64 k2,.bool (decide (k2 > i3)),h8,by kernel_rfl,o8⟩
theorem aI.vQ (L:Mem)(az:Nat)(eZ:FuncId)(bl:List AV)(aw:List Int)(a0:Int)(m0:Int)(b0:Int)(a6:Int→Int→Option (Int))  {kk:Nat}(jy:xg cf m kk)(ir:aC (.fn eZ bl) = .fn eZ bl)(iS:∀h K,Has h (K++L)→∀(a0:Int) (a1:Int) r,a6 a0 a1=some r→cf eZ ([.int .i64 a0,.int .i64 a1]++bl) h=some (.int .i64 r,h))  : bC Tryz.prog cf mK m (sub [1,1,1,1,1,1,1,0,0,0] (codeOf Tryz.f116)) (fun k (σ:Int × Int)=>aI.l4 m aw a0 m0 b0 a6 k σ.1 σ.2) (fun σ s=>match σ with | (gF,r3)=>∃h13,s=⟨.rs az 0 aw.length 1 :: .int .i64 a0 :: .int .i64 m0 :: .int .i64 b0 :: .fn eZ bl::r9 (.int .i64 (i64.wrap (gO .u64 (u64.wrap (i64.wrap (a0+b0))) 1)) :: .int .i64 (i64.wrap (i64.wrap (gO .u64 (u64.wrap (i64.wrap (a0+b0))) 1)+m0)) :: .int .i64 gF :: .int .i64 r3 :: .int .i64 (i64.wrap (i64.wrap (i64.wrap (gO .u64 (u64.wrap (i64.wrap (a0+b0))) 1)+m0) - (1:Int)))::HR []),[],h13⟩∧Has h13 ((az,.sl aw.length 1 (aa.l aw))::L)) (fun out e s=>(e = .exit 8∧∃gF r3,(gF,r3)=out∧∃NM zq Qx h13,s=⟨.rs az 0 aw.length 1 :: .int .i64 a0 :: .int .i64 m0 :: .int .i64 b0 :: .fn eZ bl::r9 (.int .i64 (i64.wrap (gO .u64 (u64.wrap (i64.wrap (a0+b0))) 1)) :: .int .i64 (i64.wrap (i64.wrap (gO .u64 (u64.wrap (i64.wrap (a0+b0))) 1)+m0)) :: .int .i64 gF::NM::zq::nE (Qx::mT [])),[],h13⟩∧Has h13 ((az,.sl aw.length 1 (aa.l aw))::L))):=by
 refine gk (fun _=>rfl) ?_
 rintro k ⟨gF,r3⟩ s out ⟨h13,rfl,kN⟩ H
 have H:aI.l4 m aw a0 m0 b0 a6 (k+1) gF r3=some out:=H
 refine qq <| qq <| q0 <| qc H (fun c9 H=>?_) (fun c9 H=>?_)
 ·refine qk <| qb 9 <| qq <| q0 <| qq ?_
  obtain⟨v12,zZ,H⟩:=aG H
  obtain⟨KS,Bb,H⟩:=aG H
  obtain⟨r4,z6,H⟩:=aG H
  refine qr [.v 5 (aJ (k:=.i64) (E:=aa) (l:=aw) (q:=0) dK kN rfl zZ),.v 6 (bA  (E:=aa) (l:=aw) (q:=0) kN rfl A3 zZ rfl),.v 9 (aJ (k:=.i64) (E:=aa) (l:=aw) (q:=0) dK kN rfl Bb),.v 10 (bA  (E:=aa) (l:=aw) (q:=0) kN rfl A3 Bb rfl),.a 11 (iS h13 [(az,.sl aw.length 1 (aa.l aw))] kN _ _ _ z6)] <| qc H (fun vJ H=>?_) (fun vJ H=>?_)
  ·exact q0 <| ⟨(i64.wrap (i64.wrap (gO .u64 (u64.wrap (i64.wrap (gF+r3))) 1)+(1:Int)),r3),⟨h13,by kernel_rfl,kN⟩,H⟩
  ·exact q0 <| ⟨(gF,i64.wrap (gO .u64 (u64.wrap (i64.wrap (gF+r3))) 1)),⟨h13,by kernel_rfl,kN⟩,H⟩
 ·exact qx 8 <| ⟨rfl,gF,r3,oi H,.int .i64 r3,.int .i64 (i64.wrap (i64.wrap (i64.wrap (gO .u64 (u64.wrap (i64.wrap (a0+b0))) 1)+m0) - (1:Int))),.bool (decide (gF<r3)),h13,by kernel_rfl,kN⟩
theorem vR {aV:FuncId→b9}(ha:aV 116=mK)(Qy:Qn cf m)(aw:List Int)(a0:Int)(m0:Int)(b0:Int)(a6:Int→Int→Option (Int))(h:AHeap)(L:Mem)(az:Nat)(eZ:FuncId)(bl:List AV)  {kk:Nat}(jy:xg cf m kk)(ir:aC (.fn eZ bl) = .fn eZ bl)(iS:∀h K,Has h (K++L)→∀(a0:Int) (a1:Int) r,a6 a0 a1=some r→cf eZ ([.int .i64 a0,.int .i64 a1]++bl) h=some (.int .i64 r,h))(o:Has h ((az,.sl aw.length 1 (aa.l aw))::L)){out:(List Int)}(H:aI.f m (kk+1) aw a0 m0 b0 a6=some out) :
  ∃r h',bg Tryz.prog aV cf m 116 [.rs az 0 aw.length 1,.int .i64 a0,.int .i64 m0,.int .i64 b0,.fn eZ bl] h=some (r,h')∧r = .tup []∧Has h' ((az,.sl aw.length 1 (aa.l out))::L):=by
 refine aj (fn:=Tryz.f116) ha Tryz.func116 (by kernel_rfl) (by kernel_rfl) ?_
 refine aD (Q:=fun s=>aI.fin L az aw a0 m0 b0 a6 out s) (fun _ _ ⟨h1,h2,h3⟩=>⟨h1,_,h2,rfl,h3⟩) ?_
 have H:aI.b m (aI.f m kk) aw a0 m0 b0 a6=some out:=H
 unfold aI.b at H
 show dA _ cf mK m _ ⟨.rs az 0 aw.length 1 :: .int .i64 a0 :: .int .i64 m0 :: .int .i64 b0 :: .fn eZ bl::TA [],[],h⟩ _
 refine qq <| qq <| q0 <| qc H (fun c0 H=>?_) (fun c0 H=>?_)
 ·refine q1 <| qq <| q0 <| qq <| qb 0 ?_
  obtain⟨aF,e3,H⟩:=aG H
  refine ql (aI.bu L az eZ bl aw a0 m0 b0 a6  jy ir iS  (m0,b0) _ _ ⟨h,by kernel_rfl,o⟩ e3) ?_
  rintro e s ⟨rfl,i1,j1,rfl,g0,g1,g2,h1,rfl,o1⟩
  try dsimp only at H
  refine qq <| qq <| q0 <| qb 2 ?_
  obtain⟨bm,lF,H⟩:=aG H
  refine ql (aI.eO L az eZ bl aw a0 m0 b0 a6 i1  jy ir iS  (aw,a0) _ _ ⟨h1,by kernel_rfl,o1⟩ lF) ?_
  rintro e s ⟨rfl,dE,k1,rfl,g3,g4,g5,g6,h5,rfl,o5⟩
  try dsimp only at H
  obtain rfl:=oi H
  exact qt <| ⟨.inl rfl,⟨by kernel_rfl,he o5⟩⟩
 ·refine qk <| qq <| qq <| q0 <| qc H (fun c4 H=>?_) (fun c4 H=>?_)
  ·refine q1 <| qq <| q0 <| qq <| qb 4 ?_
   obtain⟨cw,pc,H⟩:=aG H
   refine ql (aI.ma L az eZ bl aw a0 m0 b0 a6  jy ir iS  (a0,m0) _ _ ⟨h,by kernel_rfl,o⟩ pc) ?_
   rintro e s ⟨rfl,i3,j3,rfl,g7,g8,g9,h7,rfl,o7⟩
   try dsimp only at H
   refine qq <| qq <| q0 <| qb 6 ?_
   obtain⟨jR,z7,H⟩:=aG H
   refine ql (aI.qT L az eZ bl aw a0 m0 b0 a6 i3  jy ir iS  (aw,m0) _ _ ⟨h7,by kernel_rfl,o7⟩ z7) ?_
   rintro e s ⟨rfl,ko,k3,rfl,g10,g11,g12,g13,h11,rfl,sg⟩
   try dsimp only at H
   obtain rfl:=oi H
   exact qt <| ⟨.inl rfl,⟨by kernel_rfl,he sg⟩⟩
  ·refine qk <| qq <| q0 <| qq <| q0 <| qq <| q0 ?_
   obtain⟨RW,Wr,H⟩:=zh H
   refine qj (S:=fun (σ:Int × Int) s=>match σ with | (vP,r2)=>∃(h12:AHeap),s=⟨.rs az 0 aw.length 1 :: .int .i64 a0 :: .int .i64 m0 :: .int .i64 b0 :: .fn eZ bl::r9 (.int .i64 (i64.wrap (gO .u64 (u64.wrap (i64.wrap (a0+b0))) 1)) :: .int .i64 (i64.wrap (i64.wrap (gO .u64 (u64.wrap (i64.wrap (a0+b0))) 1)+m0)) :: .int .i64 vP :: .int .i64 r2::CT []),[],h12⟩∧Has h12 ((az,.sl aw.length 1 (aa.l aw))::L)) RW H ?_ ?_
   ·rintro⟨vP,r2⟩ s ⟨h12,rfl,oZ⟩ H
    have H:=(Wr _).symm.trans H
    try dsimp only at H
    refine q1 <| qq <| qb 8 ?_
    obtain⟨cE,z8,H⟩:=aG H
    refine ql (aI.vQ L az eZ bl aw a0 m0 b0 a6  jy ir iS  (vP,r2) _ _ ⟨h12,by kernel_rfl,oZ⟩ z8) ?_
    rintro e s ⟨rfl,fI,r5,rfl,g14,g15,g16,h14,rfl,tL⟩
    try dsimp only at H
    refine q1 ?_
    obtain⟨Qv,RV,H⟩:=zh H
    refine qj (S:=fun (σ:(List Int)) s=>match σ with | l9=>∃(g17:AV) (g18:AV) (h16:AHeap),s=⟨.rs az 0 aw.length 1 :: .int .i64 a0::g17 :: .int .i64 b0 :: .fn eZ bl::r9 (.int .i64 (i64.wrap (gO .u64 (u64.wrap (i64.wrap (a0+b0))) 1)) :: .any :: .int .i64 fI::jE (.int .i64 (i64.wrap (i64.wrap (i64.wrap (gO .u64 (u64.wrap (i64.wrap (a0+b0))) 1)+m0) - fI))::nE [g18,.any,.any])),[],h16⟩∧Has h16 ((az,.sl aw.length 1 (aa.l l9))::L)) Qv H ?_ ?_
    ·rintro l9 s ⟨g17,g18,h16,rfl,kO⟩ H
     have H:=(RV _).symm.trans H
     try dsimp only at H
     obtain⟨Qu,Hh,H⟩:=zh H
     refine qj (S:=fun (σ:(List Int)) s=>match σ with | qS=>∃(g19:AV) (g20:AV) (g21:AV) (h18:AHeap),s=⟨.rs az 0 aw.length 1::g19 :: .any :: .int .i64 b0 :: .fn eZ bl::r9 (.int .i64 (i64.wrap (gO .u64 (u64.wrap (i64.wrap (a0+b0))) 1)) :: .any::g20::jE (.int .i64 (i64.wrap (i64.wrap (i64.wrap (gO .u64 (u64.wrap (i64.wrap (a0+b0))) 1)+m0) - fI))::oE [g21,.any])),[],h18⟩∧Has h18 ((az,.sl aw.length 1 (aa.l qS))::L)) Qu H ?_ ?_
     ·rintro qS s ⟨g19,g20,g21,h18,rfl,yf⟩ H
      have H:=(Hh _).symm.trans H
      try dsimp only at H
      refine qq ?_
      rcases dX H with⟨F7,H⟩| ⟨F7,H⟩
      ·refine qr [.b 3 F7] <| qc H (fun NN H=>?_) (fun NN H=>?_)
       ·obtain⟨x2,Gd,H⟩:=aG H
        obtain⟨h19,KT,qV⟩:=jy _ _ _ _ _ _ Gd h18 _ _ _ (yf) eZ bl ir (fun h' K' o'=>iS h' (K'++[]) (by simpa only [aaM,aa0,aa5] using o')) [.rs az 0 aw.length 1,.int .i64 (i64.wrap (gO .u64 (u64.wrap (i64.wrap (a0+b0))) 1)),.int .i64 (i64.wrap (i64.wrap (i64.wrap (gO .u64 (u64.wrap (i64.wrap (a0+b0))) 1)+m0) - fI)),.int .i64 b0,.fn eZ bl] (an (rfl) (an (aP (bD)) (an (aP (bD)) (an (aP (bD)) (an (ir) (aT))))))
        obtain rfl:=oi H
        exact qr [.a 5 KT] <| ⟨.inr rfl,⟨by kernel_rfl,he qV⟩⟩
       ·obtain rfl:=oi H
        exact qk <| ⟨.inr rfl,⟨by kernel_rfl,he yf⟩⟩
      ·obtain rfl:=oi H
       exact qr [.b 3 F7] <| AU <| qk <| ⟨.inr rfl,⟨by kernel_rfl,he yf⟩⟩
     clear Hh
     intro NO
     refine qq ?_
     rcases dX H with⟨qP,H⟩| ⟨qP,H⟩
     ·refine qr [.b 3 qP] <| qc H (fun Eg H=>?_) (fun Eg H=>?_)
      ·obtain⟨x1,C1,H⟩:=aG H
       obtain⟨h17,C2,uF⟩:=jy _ _ _ _ _ _ C1 h16 _ _ _ (kO) eZ bl ir (fun h' K' o'=>iS h' (K'++[]) (by simpa only [aaM,aa0,aa5] using o')) [.rs az 0 aw.length 1,.int .i64 a0,.int .i64 fI,.int .i64 (i64.wrap (gO .u64 (u64.wrap (i64.wrap (a0+b0))) 1)),.fn eZ bl] (an (rfl) (an (aP (bD)) (an (aP (bD)) (an (aP (bD)) (an (ir) (aT))))))
       exact qr [.a 5 C2] <| NO x1 _ ⟨.any,.any,.any,h17,by kernel_rfl,uF⟩ H
      ·exact qk <| NO l9 _ ⟨.int .i64 a0,.int .i64 fI,.bool (decide (fI<(i64.wrap (gO .u64 (u64.wrap (i64.wrap (a0+b0))) 1)))),h16,by kernel_rfl,kO⟩ H
     ·exact qr [.b 3 qP] <| AU <| qk <| NO l9 _ ⟨.int .i64 a0,.int .i64 fI,.bool false,h16,by kernel_rfl,kO⟩ H
    clear RV
    intro NP
    refine qq ?_
    rcases dX H with⟨nH,H⟩| ⟨nH,H⟩
    ·refine qr [.b 3 nH] <| qc H (fun sd H=>?_) (fun sd H=>?_)
     ·obtain⟨x0,C3,H⟩:=aG H
      obtain⟨h15,El,qR⟩:=Qy _ _ _ _ _ _ C3 h14 _ _ _ (tL) eZ bl ir (fun h' K' o'=>iS h' (K'++[]) (by simpa only [aaM,aa0,aa5] using o')) [.rs az 0 aw.length 1,.int .i64 fI,.int .i64 m0,.int .i64 (i64.wrap (i64.wrap (i64.wrap (gO .u64 (u64.wrap (i64.wrap (a0+b0))) 1)+m0) - fI)),.fn eZ bl] (an (rfl) (an (aP (bD)) (an (aP (bD)) (an (aP (bD)) (an (ir) (aT))))))
      exact qr [.a 5 El] <| NP x0 _ ⟨.any,.any,h15,by kernel_rfl,qR⟩ H
     ·exact qk <| NP aw _ ⟨.int .i64 m0,.bool (decide (m0<(i64.wrap (i64.wrap (i64.wrap (gO .u64 (u64.wrap (i64.wrap (a0+b0))) 1)+m0) - fI)))),h14,by kernel_rfl,tL⟩ H
    ·exact qr [.b 3 nH] <| AU <| qk <| NP aw _ ⟨.int .i64 m0,.bool false,h14,by kernel_rfl,tL⟩ H
   clear Wr
   intro Qz
   refine q1 <| qc H (fun c8 H=>?_) (fun c8 H=>?_)
   ·exact q1 <| q0 <| Qz (i64.wrap (i64.wrap (i64.wrap (gO .u64 (u64.wrap (i64.wrap (a0+b0))) 1)+m0) - b0),i64.wrap (gO .u64 (u64.wrap (i64.wrap (a0+b0))) 1)) _ ⟨h,by kernel_rfl,o⟩ H
   ·exact q1 <| q0 <| Qz (a0,m0) _ ⟨h,by kernel_rfl,o⟩ H
end
end Go.Proofs.YtmekcfdllhphlaaGreatDoor
namespace Go.Proofs.YtmekcfdllhphlaaGreatDoor
open Go Go.R
open Go.IntKind (i64 u64 u8 u32)
theorem Ib {α β:Type}{B:α→Option β}{c1 c2:Bool}{X:Option α}{d0:α}{G:β→Prop}(D:α→Prop)(h1:c1=true→c2=true→∃x,X=some x∧D x)(h0:¬(c1=true∧c2=true)→D d0)
  (h:∀x,D x→∃d,B x=some d∧G d):∃d,jn B (fun j=>if c1=true then (if c2=true then (X.bind fun x0=>j x0) else j d0) else j d0)=some d∧G d:=by
 unfold jn
 dsimp only
 by_cases a1:c1=true
 ·by_cases a2:c2=true
  ·obtain⟨x,e,hx⟩:=h1 a1 a2
   rw [if_pos a1,if_pos a2,e]; exact h x hx
  ·rw [if_pos a1,if_neg a2]; exact h _ (h0 fun z=>a2 z.2)
 ·rw [if_neg a1]; exact h _ (h0 fun z=>a1 z.1)
theorem TQ {α:Type}{c1 c2:Bool}{X:Option α}{d0:α}{G:α→Prop}(h1:c1=true→c2=true→∃x,X=some x∧G x)(h0:¬(c1=true∧c2=true)→G d0) :
  ∃d,(if c1=true then (if c2=true then (X.bind fun x0=>some x0) else some d0) else some d0)=some d∧G d:=by
 by_cases a1:c1=true
 ·by_cases a2:c2=true
  ·obtain⟨x,e,hx⟩:=h1 a1 a2
   rw [if_pos a1,if_pos a2,e]; exact⟨x,rfl,hx⟩
  ·rw [if_pos a1,if_neg a2]; exact⟨_,rfl,h0 fun z=>a2 z.2⟩
 ·rw [if_neg a1]; exact⟨_,rfl,h0 fun z=>a1 z.1⟩
theorem NQ {α β:Type}{B:α→Option β}{c:Bool}{x y:α}{G:β→Prop}(h:∀z,(c=true∧z=x)∨(c=false∧z=y)→∃d,B z=some d∧G d):∃d,jn B (fun j=>if c=true then j x else j y)=some d∧G d:=by
 unfold jn
 dsimp only
 cases c with
 | true=>exact h _ (.inl ⟨rfl,rfl⟩)
 | false=>exact h _ (.inr ⟨rfl,rfl⟩)
theorem Ord.refl {c:Int→Int→Int}{l:List Int}(O:Ord c l){x:Int}(hx:x∈l):0≤c x x:=by
 by_cases h:c x x<0
 ·exact O.OY x hx x hx h
 ·omega
theorem Sg.le {c:Int→Int→Int}{l:List Int}{a b:Nat}(S:Sg c l a b)(O:Ord c l){i j:Nat}(h1:a≤i)(h2:i≤j)(h3:j<b)(h4:b≤l.length):0≤c (gt l j) (gt l i):=by
 by_cases h:i=j
 ·subst h; exact O.refl (a8 (by omega))
 ·exact S i j h1 (by omega) h3
section
variable {m:Nat}{cmp:Int→Int→Option Int}{c:Int→Int→Int}
theorem C4 {l:List Int}{a:Nat}(ha:a<l.length)(hs:l.length<2 ^ 40)(C:Cm cmp c l):∀(f i j:Nat),j - i<f→i≤j→j≤l.length→
  ∃x:Nat,aI.l0 m l (a:Int) cmp f (i:Int) (j:Int)=some ((x:Int),(x:Int))∧i≤x∧x≤j∧(i<x→c (gt l (x - 1)) (gt l a)<0)∧(x<j→0≤c (gt l x) (gt l a))
 | 0,i,j,hf,_,_=>absurd hf (by omega)
 | f+1,i,j,hf,h1,h2=>by
  have mZ:(2:Nat) ^ 40=1099511627776:=by decide
  unfold aI.l0
  by_cases h:i<j
  ·have hh:=AY (a:=i) (b:=j) (by omega)
   rw [if_pos (by simp; omega),hh,db (by omega),db ha,aaA,aaA,C.at (by omega) ha,aaA]
   by_cases g:c (gt l ((i+j) / 2)) (gt l a)<0
   ·obtain⟨x,e,x1,x2,x3,x4⟩:=C4 ha hs C f ((i+j) / 2+1) j (by omega) (by omega) h2
    rw [if_pos (by simpa using g),ay (by omega) (by omega),show (((i+j) / 2:Nat):Int)+1=(((i+j) / 2+1:Nat):Int) by omega,e]
    refine⟨x,rfl,by omega,x2,fun _=>?_,x4⟩
    by_cases hx:x=(i+j) / 2+1
    ·rw [hx]; simpa using g
    ·exact x3 (by omega)
   ·obtain⟨x,e,x1,x2,x3,x4⟩:=C4 ha hs C f i ((i+j) / 2) (by omega) (by omega) (by omega)
    rw [if_neg (by simpa using g),e]
    refine⟨x,rfl,x1,by omega,x3,fun _=>?_⟩
    by_cases hx:x=(i+j) / 2
    ·rw [hx]; omega
    ·exact x4 (by omega)
  ·have:i=j:=by omega
   subst this
   exact⟨i,by rw [if_neg (by simp)],aaE _,aaE _,fun h=>absurd h (by omega),fun h=>absurd h (by omega)⟩
theorem C5 {l:List Int}{q:Nat}(hq:q<l.length)(hs:l.length<2 ^ 40)(C:Cm cmp c l):∀(f i j:Nat),j - i<f→i≤j→j≤l.length→
  ∃x:Nat,aI.l2 m l (q:Int) cmp f (i:Int) (j:Int)=some ((x:Int),(x:Int))∧i≤x∧x≤j∧(i<x→0≤c (gt l q) (gt l (x - 1)))∧(x<j→c (gt l q) (gt l x)<0)
 | 0,i,j,hf,_,_=>absurd hf (by omega)
 | f+1,i,j,hf,h1,h2=>by
  have mZ:(2:Nat) ^ 40=1099511627776:=by decide
  unfold aI.l2
  by_cases h:i<j
  ·have hh:=AY (a:=i) (b:=j) (by omega)
   rw [if_pos (by simp; omega),hh,db hq,db (by omega),aaA,aaA,C.at hq (by omega),aaA]
   by_cases g:c (gt l q) (gt l ((i+j) / 2))<0
   ·obtain⟨x,e,x1,x2,x3,x4⟩:=C5 hq hs C f i ((i+j) / 2) (by omega) (by omega) (by omega)
    rw [if_neg (by simpa using g),e]
    refine⟨x,rfl,x1,by omega,x3,fun _=>?_⟩
    by_cases hx:x=(i+j) / 2
    ·rw [hx]; omega
    ·exact x4 (by omega)
   ·obtain⟨x,e,x1,x2,x3,x4⟩:=C5 hq hs C f ((i+j) / 2+1) j (by omega) (by omega) h2
    rw [if_pos (by simpa using g),ay (by omega) (by omega),show (((i+j) / 2:Nat):Int)+1=(((i+j) / 2+1:Nat):Int) by omega,e]
    refine⟨x,rfl,by omega,x2,fun _=>?_,x4⟩
    by_cases hx:x=(i+j) / 2+1
    ·rw [hx]; simp; omega
    ·exact x3 (by omega)
  ·have:i=j:=by omega
   subst this
   exact⟨i,by rw [if_neg (by simp)],aaE _,aaE _,fun h=>absurd h (by omega),fun h=>absurd h (by omega)⟩
theorem Ic {l:List Int}{a x:Nat}(hx:x≤l.length)(TR:a<x)(hs:l.length<2 ^ 40):∀(f k:Nat) (d:List Int),x - k<f→a≤k→k<x→Mv a x l d→
  (∀t,gt d t=if a≤t∧t<k then gt l (t+1) else if t=k then gt l a else gt l t)→
  ∃d' y,aI.l1 m (x:Int) f d (k:Int)=some (d',y)∧Mv a x l d'∧∀t,gt d' t=if a≤t∧t+1<x then gt l (t+1) else if t+1=x then gt l a else gt l t
 | 0,k,d,hf,_,_,_,_=>absurd hf (by omega)
 | f+1,k,d,hf,h1,h2,M,hg=>by
  have mZ:(2:Nat) ^ 40=1099511627776:=by decide
  have hl:=M.length
  unfold aI.l1
  have e0:i64.wrap ((x:Int) - 1)=((x - 1:Nat):Int):=by rw [ay (by omega) (by omega)]; omega
  rw [e0]
  by_cases h:k<x - 1
  ·have e1:i64.wrap ((k:Int)+1)=((k+1:Nat):Int):=by rw [ay (by omega) (by omega)]; omega
   rw [if_pos (by simp; omega),e1,db (by omega),db (by omega),aaA,aaA,aaA,aaH,aaH,db (by simp; omega),aaA]
   refine Ic hx TR hs f (k+1) (swp d k (k+1)) (by omega) (by omega) (by omega) (M.trans (C0 (by omega) (by omega) (by omega) (by omega) (by omega))) fun t=>?_
   rw [mI (by omega) (by omega),hg k,hg (k+1),hg t]
   by_cases t1:t=k+1
   ·subst t1; rw [if_pos rfl,if_neg (by omega),if_pos rfl,if_neg (by omega),if_pos rfl]
   ·rw [if_neg t1]
    by_cases t2:t=k
    ·subst t2; rw [if_pos rfl,if_neg (by omega),if_neg (by omega),if_pos (by omega)]
    ·rw [if_neg t2,if_neg t2,if_neg t1]
     by_cases t3:a≤t∧t<k
     ·rw [if_pos t3,if_pos (by omega)]
     ·rw [if_neg t3,if_neg (by omega)]
  ·refine⟨d,k,by rw [if_neg (by simp; omega)],M,fun t=>?_⟩
   rw [hg]
   by_cases t3:a≤t∧t<k
   ·rw [if_pos t3,if_pos (by omega)]
   ·rw [if_neg t3,if_neg (show ¬(a≤t∧t+1<x) by omega)]
    by_cases t4:t=k
    ·rw [if_pos t4,if_pos (by omega)]
    ·rw [if_neg t4,if_neg (by omega)]
theorem Ie {l:List Int}{q x:Nat}(hx:q<l.length)(TR:x≤q)(hs:l.length<2 ^ 40):∀(f k:Nat) (d:List Int),k - x<f→x≤k→k≤q→Mv x (q+1) l d→
  (∀t,gt d t=if k<t∧t≤q then gt l (t - 1) else if t=k then gt l q else gt l t)→
  ∃d' y,aI.l3 m (x:Int) f d (k:Int)=some (d',y)∧Mv x (q+1) l d'∧∀t,gt d' t=if x<t∧t≤q then gt l (t - 1) else if t=x then gt l q else gt l t
 | 0,k,d,hf,_,_,_,_=>absurd hf (by omega)
 | f+1,k,d,hf,h1,h2,M,hg=>by
  have mZ:(2:Nat) ^ 40=1099511627776:=by decide
  have hl:=M.length
  unfold aI.l3
  by_cases h:x<k
  ·have e1:i64.wrap ((k:Int) - 1)=((k - 1:Nat):Int):=by rw [ay (by omega) (by omega)]; omega
   rw [if_pos (by simp; omega),e1,db (by omega),db (by omega),aaA,aaA,aaA,aaH,aaH,db (by simp; omega),aaA]
   refine Ie hx TR hs f (k - 1) (swp d k (k - 1)) (by omega) (by omega) (by omega) (M.trans (C0 (by omega) (by omega) (by omega) (by omega) (by omega))) fun t=>?_
   rw [mI (by omega) (by omega),hg k,hg (k - 1),hg t]
   by_cases t1:t=k - 1
   ·subst t1; rw [if_pos rfl,if_neg (by omega),if_pos rfl,if_neg (by omega),if_pos rfl]
   ·rw [if_neg t1]
    by_cases t2:t=k
    ·subst t2; rw [if_pos rfl,if_neg (by omega),if_neg (by omega),if_pos (by omega)]
    ·rw [if_neg t2,if_neg t2,if_neg t1]
     by_cases t3:k<t∧t≤q
     ·rw [if_pos t3,if_pos (by omega)]
     ·rw [if_neg t3,if_neg (by omega)]
  ·have:k=x:=by omega
   subst this
   exact⟨d,k,by rw [if_neg (by simp)],M,hg⟩
theorem C6 {l:List Int}{a b q:Nat}(Ta:a+b<2 ^ 42)(hs:l.length<2 ^ 40)(C:Cm cmp c l):∀(f s r:Nat),r - s<f→s≤r→r≤l.length→r≤(a+b) / 2+q→(a+b) / 2+q≤l.length+s→
  ∃x:Nat,aI.l4 m l (a:Int) (q:Int) (b:Int) cmp f (s:Int) (r:Int)=some ((x:Int),(x:Int))∧s≤x∧x≤r∧(s<x→0≤c (gt l ((a+b) / 2+q - x)) (gt l (x - 1)))∧(x<r→c (gt l ((a+b) / 2+q - x - 1)) (gt l x)<0)
 | 0,i,j,hf,_,_,_,_=>absurd hf (by omega)
 | f+1,s,r,hf,h1,h2,h3,h4=>by
  have mZ:(2:Nat) ^ 40=1099511627776:=by decide
  have KU:(2:Nat) ^ 42=4398046511104:=by decide
  unfold aI.l4
  by_cases h:s<r
  ·have hh:=AY (a:=s) (b:=r) (by omega)
   have Ta:=AY (a:=a) (b:=b) (by omega)
   have e1:i64.wrap (i64.wrap (i64.wrap ((((a+b) / 2:Nat):Int)+(q:Int)) - 1) - (((s+r) / 2:Nat):Int))=(((a+b) / 2+q - (s+r) / 2 - 1:Nat):Int):=by
    rw [ay (x:=(((a+b) / 2:Nat):Int)+(q:Int)) (by omega) (by omega),ay (x:=(((a+b) / 2:Nat):Int)+(q:Int) - 1) (by omega) (by omega),ay (by omega) (by omega)]
    omega
   rw [if_pos (by simp; omega),hh,Ta,e1,db (by omega),db (by omega),aaA,aaA,C.at (by omega) (by omega),aaA]
   by_cases g:c (gt l ((a+b) / 2+q - (s+r) / 2 - 1)) (gt l ((s+r) / 2))<0
   ·obtain⟨x,e,x1,x2,x3,x4⟩:=C6 (a:=a) (b:=b) (q:=q) (by omega) hs C f s ((s+r) / 2) (by omega) (by omega) (by omega) (by omega) (by omega)
    rw [if_neg (by simpa using g),e]
    refine⟨x,rfl,x1,by omega,x3,fun _=>?_⟩
    by_cases hx:x=(s+r) / 2
    ·rw [hx]; exact g
    ·exact x4 (by omega)
   ·obtain⟨x,e,x1,x2,x3,x4⟩:=C6 (a:=a) (b:=b) (q:=q) (by omega) hs C f ((s+r) / 2+1) r (by omega) (by omega) h2 h3 (by omega)
    rw [if_pos (by simpa using g),ay (by omega) (by omega),show (((s+r) / 2:Nat):Int)+1=(((s+r) / 2+1:Nat):Int) by omega,e]
    refine⟨x,rfl,by omega,x2,fun _=>?_,x4⟩
    by_cases hx:x=(s+r) / 2+1
    ·rw [hx,show (a+b) / 2+q - ((s+r) / 2+1)=(a+b) / 2+q - (s+r) / 2 - 1 by omega,Nat.add_sub_cancel]; omega
    ·exact x3 (by omega)
  ·have:s=r:=by omega
   subst this
   exact⟨s,by rw [if_neg (by simp)],aaE _,aaE _,fun h=>absurd h (by omega),fun h=>absurd h (by omega)⟩
end
end Go.Proofs.YtmekcfdllhphlaaGreatDoor
namespace Go.Proofs.YtmekcfdllhphlaaGreatDoor
open Go Go.R
open Go.IntKind (i64 u64 u8 u32)
section
variable {m:Nat}{cmp:Int→Int→Option Int}{c:Int→Int→Int}
theorem vS {l d:List Int}{a q b M E x:Nat}(h1:a≤x)(h2:x≤M)(h3:x≤q)(h4:q≤E)(h5:E≤b)(h6:E+x=M+q)(hb:b≤l.length)
  (R:OW l d x (q - x) (E - q)) (O:Ord c l) (F1:a<x→E<b→0≤c (gt l E) (gt l (x - 1))) (F2:x<q→q<E→c (gt l (E - 1)) (gt l x)<0)
  (S1:Sg c l a q) (S2:Sg c l q b) :
  Sg c d a x∧Sg c d x M∧Sg c d M E∧Sg c d E b∧(∀i j,a≤i→i<M→M≤j→j<b→0≤c (gt d j) (gt d i)):=by
 obtain⟨R1,R2,R3,R4⟩:=R
 have g1:∀k,k<x→gt d k=gt l k:=fun k hk=>R4 k (.inl hk)
 have g2:∀k,x≤k→k<M→gt d k=gt l (q+(k - x)):=fun k hk rS=>by
  have:=R2 (k - x) (by omega)
  rw [show x+(k - x)=k by omega,show x+(q - x)+(k - x)=q+(k - x) by omega] at this
  exact this
 have g3:∀k,M≤k→k<E→gt d k=gt l (x+(k - M)):=fun k hk rS=>by
  have:=R3 (k - M) (by omega)
  rw [show x+(E - q)+(k - M)=k by omega] at this
  exact this
 have g4:∀k,E≤k→gt d k=gt l k:=fun k hk=>R4 k (.inr (by omega))
 refine⟨fun i j k1 k2 k3=>?_,fun i j k1 k2 k3=>?_,fun i j k1 k2 k3=>?_,fun i j k1 k2 k3=>?_,fun i j k1 k2 k3 k4=>?_⟩
 ·rw [g1 i (by omega),g1 j (by omega)]; exact S1 _ _ k1 k2 (by omega)
 ·rw [g2 i (by omega) (by omega),g2 j (by omega) (by omega)]; exact S2 _ _ (by omega) (by omega) (by omega)
 ·rw [g3 i (by omega) (by omega),g3 j (by omega) (by omega)]; exact S1 _ _ (by omega) (by omega) (by omega)
 ·rw [g4 i (by omega),g4 j (by omega)]; exact S2 _ _ (by omega) (by omega) (by omega)
 ·by_cases hi:i<x
  ·rw [g1 i hi]
   by_cases hj:j<E
   ·rw [g3 j k3 hj]; exact S1 _ _ k1 (by omega) (by omega)
   ·rw [g4 j (by omega)]
    have f1:=F1 (by omega) (by omega)
    have f2:=S1.le O k1 (show i≤x - 1 by omega) (by omega) (by omega)
    have f3:=S2.le O (show q≤E from h4) (show E≤j by omega) k4 hb
    exact O.tr _ (a8 (by omega)) _ (a8 (show E<l.length by omega)) _ (a8 (by omega)) (O.tr _ (a8 (by omega)) _ (a8 (show x - 1<l.length by omega)) _ (a8 (by omega)) f2 f1) f3
  ·rw [g2 i (by omega) k2]
   by_cases hj:j<E
   ·rw [g3 j k3 hj]
    have f1:=O.OY _ (a8 (show E - 1<l.length by omega)) _ (a8 (show x<l.length by omega)) (F2 (by omega) (by omega))
    have f2:=S2.le O (show q≤q+(i - x) by omega) (show q+(i - x)≤E - 1 by omega) (by omega) hb
    have f3:=S1.le O h1 (show x≤x+(j - M) by omega) (by omega) (by omega)
    exact O.tr _ (a8 (by omega)) _ (a8 (show x<l.length by omega)) _ (a8 (by omega)) (O.tr _ (a8 (by omega)) _ (a8 (show E - 1<l.length by omega)) _ (a8 (by omega)) f2 f1) f3
   ·rw [g4 j (by omega)]; exact S2 _ _ (by omega) (by omega) k4
theorem If {l:List Int}{x i j:Nat}(h:i=0∨j=0):OW l l x i j:=
 ⟨List.Perm.refl _,fun k hk=>by rw [show i=0 by omega,Nat.add_zero],fun k hk=>by rw [show j=0 by omega,Nat.add_zero],fun _ _=>rfl⟩
theorem NR {l d:List Int}{x i j a b:Nat}(R:OW l d x i j)(h1:a≤x)(h2:x+i+j≤b):Mv a b l d:=by
 obtain⟨R1,R2,R3,R4⟩:=R
 refine⟨R1,fun k hk=>R4 k (by omega),fun k k1 k2=>?_⟩
 by_cases g1:k<x∨x+i+j≤k
 ·exact⟨k,k1,k2,R4 k g1⟩
 ·by_cases g2:k<x+j
  ·have:=R2 (k - x) (by omega)
   rw [show x+(k - x)=k by omega] at this
   exact⟨_,by omega,by omega,this⟩
  ·have:=R3 (k - x - j) (by omega)
   rw [show x+j+(k - x - j)=k by omega] at this
   exact⟨_,by omega,by omega,this⟩
theorem qW (hm:2 ^ 41≤m):∀(f:Nat) (l:List Int) (a q b:Nat),b - a<f→a<q→q<b→b≤l.length→l.length<2 ^ 40→Cm cmp c l→
  ∃d,aI.f m f l (a:Int) (q:Int) (b:Int) cmp=some d∧Mv a b l d∧(Ord c l→Sg c l a q→Sg c l q b→Sg c d a b)
 | 0,l,a,q,b,hf,_,_,_,_,_=>absurd hf (by omega)
 | f+1,l,a,q,b,hf,h1,h2,h3,hs,C=>by
  have mZ:(2:Nat) ^ 40=1099511627776:=by decide
  have qO:(2:Nat) ^ 41=2199023255552:=by decide
  have KU:(2:Nat) ^ 42=4398046511104:=by decide
  unfold aI.f
  unfold aI.b
  have e1:i64.wrap ((q:Int) - (a:Int))=((q - a:Nat):Int):=by rw [ay (by omega) (by omega)]; omega
  have e2:i64.wrap ((b:Int) - (q:Int))=((b - q:Nat):Int):=by rw [ay (by omega) (by omega)]; omega
  have hM:=AY (a:=a) (b:=b) (by omega)
  rw [e1,e2,hM]
  by_cases hq1:q - a=1
  ·obtain⟨x,k1,k2,k3,k4,k5⟩:=C4 (m:=m) (a:=a) (by omega) hs C m q b (by omega) (by omega) h3
   obtain⟨d,y,g1,g2,g3⟩:=Ic (m:=m) (l:=l) (a:=a) (x:=x) (by omega) (by omega) hs m a l (by omega) (aaE _) (by omega) Mv.refl (fun t=>by rw [if_neg (by omega)]; split<;>simp_all)
   rw [if_pos (by simp; omega),k1,aaA]
   dsimp only
   rw [g1]
   refine⟨d,rfl,g2.wide (aaE _) k3,fun O S1 S2 i j r1 r2 r3=>?_⟩
   have A1:∀t,a≤t→t+1<x→gt d t=gt l (t+1):=fun t w1 w2=>by rw [g3 t,if_pos ⟨w1,w2⟩]
   have A2:∀t,t+1=x→gt d t=gt l a:=fun t w1=>by rw [g3 t,if_neg (by omega),if_pos w1]
   have A3:∀t,x≤t→gt d t=gt l t:=fun t w1=>by rw [g3 t,if_neg (by omega),if_neg (by omega)]
   by_cases i1:i+1<x
   ·rw [A1 i r1 i1]
    by_cases j1:j+1<x
    ·rw [A1 j (by omega) j1]; exact S2 _ _ (by omega) (by omega) (by omega)
    ·have f1:=O.OY _ (a8 (show x - 1<l.length by omega)) _ (a8 (show a<l.length by omega)) (k4 (by omega))
     have f2:=S2.le O (show q≤i+1 by omega) (show i+1≤x - 1 by omega) (by omega) h3
     by_cases j2:j+1=x
     ·rw [A2 j j2]
      exact O.tr _ (a8 (by omega)) _ (a8 (show x - 1<l.length by omega)) _ (a8 (by omega)) f2 f1
     ·rw [A3 j (by omega)]; exact S2 _ _ (by omega) (by omega) (by omega)
   ·rw [A3 j (by omega)]
    by_cases i2:i+1=x
    ·rw [A2 i i2]
     have f1:=k5 (by omega)
     have f2:=S2.le O (show q≤x by omega) (show x≤j by omega) r3 h3
     exact O.tr _ (a8 (by omega)) _ (a8 (show x<l.length by omega)) _ (a8 (by omega)) f1 f2
    ·rw [A3 i (by omega)]; exact S2 _ _ (by omega) r2 r3
  rw [if_neg (by simp; omega)]
  by_cases hb1:b - q=1
  ·obtain⟨x,k1,k2,k3,k4,k5⟩:=C5 (m:=m) (q:=q) (by omega) hs C m a q (by omega) (by omega) (by omega)
   obtain⟨d,y,g1,g2,g3⟩:=Ie (m:=m) (l:=l) (q:=q) (x:=x) (by omega) (by omega) hs m q l (by omega) (by omega) (aaE _) Mv.refl (fun t=>by rw [if_neg (by omega)]; split<;>simp_all)
   rw [if_pos (by simp; omega),k1,aaA]
   dsimp only
   rw [g1]
   refine⟨d,rfl,g2.wide k2 (by omega),fun O S1 S2 i j r1 r2 r3=>?_⟩
   have A1:∀t,x<t→t≤q→gt d t=gt l (t - 1):=fun t w1 w2=>by rw [g3 t,if_pos ⟨w1,w2⟩]
   have A2:gt d x=gt l q:=by rw [g3 x,if_neg (by omega),if_pos rfl]
   have A3:∀t,t<x→gt d t=gt l t:=fun t w1=>by rw [g3 t,if_neg (by omega),if_neg (by omega)]
   by_cases i1:x<i
   ·rw [A1 i i1 (by omega),A1 j (by omega) (by omega)]
    exact S1 _ _ (by omega) (by omega) (by omega)
   ·by_cases i2:i=x
    ·subst i2
     rw [A2,A1 j (by omega) (by omega)]
     have f1:=O.OY _ (a8 (show q<l.length by omega)) _ (a8 (show i<l.length by omega)) (k5 (by omega))
     have f2:=S1.le O r1 (show i≤j - 1 by omega) (by omega) (by omega)
     exact O.tr _ (a8 (by omega)) _ (a8 (show i<l.length by omega)) _ (a8 (by omega)) f1 f2
    ·rw [A3 i (by omega)]
     by_cases j1:x<j
     ·rw [A1 j j1 (by omega)]
      exact S1.le O r1 (by omega) (by omega) (by omega)
     ·have f1:=k4 (by omega)
      have f2:=S1.le O r1 (show i≤x - 1 by omega) (by omega) (by omega)
      by_cases j2:j=x
      ·subst j2
       rw [A2]
       exact O.tr _ (a8 (by omega)) _ (a8 (show j - 1<l.length by omega)) _ (a8 (by omega)) f2 f1
      ·rw [A3 j (by omega)]; exact S1 _ _ r1 r2 (by omega)
  rw [if_neg (by simp; omega)]
  refine NQ ?_
  intro z hz
  have NS:∃s r:Nat,z=((s:Int),(r:Int))∧((q > (a+b) / 2∧s=(a+b) / 2+q - b∧r=(a+b) / 2)∨(q≤(a+b) / 2∧s=a∧r=q)):=by
   rcases hz with⟨hc,rfl⟩| ⟨hc,rfl⟩
   ·refine⟨(a+b) / 2+q - b,(a+b) / 2,?_,.inl ⟨by simp only [decide_eq_true_eq] at hc; omega,rfl,rfl⟩⟩
    simp only [aaJ,and_true]
    simp only [decide_eq_true_eq] at hc
    rw [ay (x:=(((a+b) / 2:Nat):Int)+(q:Int)) (by omega) (by omega),ay (by omega) (by omega)]
    omega
   ·refine⟨a,q,rfl,.inr ⟨?_,rfl,rfl⟩⟩
    simp only [decide_eq_false_iff_not] at hc
    omega
  obtain⟨s,r,rfl,NS⟩:=NS
  clear hz
  dsimp only
  obtain⟨x,k1,k2,k3,k4,k5⟩:=C6 (m:=m) (a:=a) (b:=b) (q:=q) (by omega) hs C m s r (by omega) (by omega) (by omega) (by omega) (by omega)
  rw [k1,aaA]
  dsimp only
  generalize hMM:(a+b) / 2=M at *
  obtain⟨E,hE⟩:∃E,E=M+q - x:=⟨_,rfl⟩
  have eE:i64.wrap (i64.wrap ((M:Int)+(q:Int)) - (x:Int))=(E:Int):=by
   rw [ay (x:=(M:Int)+(q:Int)) (by omega) (by omega),ay (by omega) (by omega)]
   omega
  rw [eE]
  rw [←hE] at k4 k5
  have c1:a≤x:=by omega
  have c2:x≤M:=by omega
  have c3:x≤q:=by omega
  have c4:q≤E:=by omega
  have c5:E≤b:=by omega
  have c6:E+x=M+q:=by omega
  have c7:M≤E:=by omega
  have F1:a<x→E<b→0≤c (gt l E) (gt l (x - 1)):=fun _ _=>k4 (by omega)
  have F2:x<q→q<E→c (gt l (E - 1)) (gt l x)<0:=fun _ _=>k5 (by omega)
  refine Ib (fun d=>OW l d x (q - x) (E - q)) (fun u1 u2=>?_) (fun u=>?_) ?_
  ·simp only [decide_eq_true_eq] at u1 u2
   exact H2 hm (by omega) (by omega) (by omega) hs
  ·simp only [decide_eq_true_eq] at u
   exact If (by omega)
  intro d5 R
  try dsimp only
  have M5:Mv a b l d5:=NR R c1 (by omega)
  have l5:=M5.length
  refine Ib (fun d=>Mv a M d5 d∧(Ord c l→Sg c l a q→Sg c l q b→Sg c d a M)) (fun u1 u2=>?_) (fun u=>?_) ?_
  ·simp only [decide_eq_true_eq] at u1 u2
   obtain⟨d,g1,g2,g3⟩:=qW hm f d5 a x M (by omega) (by omega) (by omega) (by omega) (by omega) (C.perm M5.perm)
   refine⟨d,g1,g2,fun O S1 S2=>?_⟩
   obtain⟨v1,v2,v3,v4,v5⟩:=vS c1 c2 c3 c4 c5 c6 h3 R O F1 F2 S1 S2
   exact g3 (O.perm M5.perm) v1 v2
  ·simp only [decide_eq_true_eq] at u
   refine⟨Mv.refl,fun O S1 S2=>?_⟩
   obtain⟨v1,v2,v3,v4,v5⟩:=vS c1 c2 c3 c4 c5 c6 h3 R O F1 F2 S1 S2
   by_cases ua:a=x
   ·rw [ua]; exact v2
   ·rw [show M=x by omega]; exact v1
  rintro d6 ⟨M6,S6⟩
  try dsimp only
  have l6:=M6.length
  have TS:=M5.trans (M6.wide (aaE _) (by omega))
  have fin:∀d,Mv M b d6 d→(Ord c l→Sg c l a q→Sg c l q b→Sg c d M b)→Mv a b l d∧(Ord c l→Sg c l a q→Sg c l q b→Sg c d a b):=by
   intro d M7 S7
   refine⟨TS.trans (M7.wide (by omega) (aaE _)),fun O S1 S2 i j r1 r2 r3=>?_⟩
   obtain⟨v1,v2,v3,v4,v5⟩:=vS c1 c2 c3 c4 c5 c6 h3 R O F1 F2 S1 S2
   by_cases hj:j<M
   ·rw [M7.out i (by omega),M7.out j (by omega)]
    exact S6 O S1 S2 _ _ r1 r2 hj
   ·by_cases hi:M≤i
    ·exact S7 O S1 S2 _ _ hi r2 r3
    ·obtain⟨j',y1,y2,y3⟩:=M7.im j (by omega) r3
     obtain⟨i',w1,w2,w3⟩:=M6.im i r1 (by omega)
     rw [M7.out i (by omega),y3,M6.out j' (by omega),w3]
     exact v5 _ _ w1 w2 y1 y2
  refine TQ (fun u1 u2=>?_) (fun u=>?_)
  ·simp only [decide_eq_true_eq] at u1 u2
   obtain⟨d,g1,g2,g3⟩:=qW hm f d6 M E b (by omega) (by omega) (by omega) (by omega) (by omega) (C.perm TS.perm)
   refine⟨d,g1,fin d g2 fun O S1 S2=>?_⟩
   obtain⟨v1,v2,v3,v4,v5⟩:=vS c1 c2 c3 c4 c5 c6 h3 R O F1 F2 S1 S2
   refine g3 (O.perm TS.perm) (fun i j y1 y2 y3=>?_) (fun i j y1 y2 y3=>?_)
   ·rw [M6.out i (by omega),M6.out j (by omega)]; exact v3 _ _ y1 y2 y3
   ·rw [M6.out i (by omega),M6.out j (by omega)]; exact v4 _ _ y1 y2 y3
  ·simp only [decide_eq_true_eq] at u
   refine fin d6 Mv.refl fun O S1 S2 i j y1 y2 y3=>?_
   obtain⟨v1,v2,v3,v4,v5⟩:=vS c1 c2 c3 c4 c5 c6 h3 R O F1 F2 S1 S2
   rw [M6.out i (by omega),M6.out j (by omega)]
   by_cases ue:M=E
   ·exact v4 _ _ (by omega) y2 y3
   ·exact v3 _ _ y1 y2 (by omega)
end
end Go.Proofs.YtmekcfdllhphlaaGreatDoor
namespace Go.Proofs.YtmekcfdllhphlaaGreatDoor
open Go Go.R
open Go.IntKind (i64 u64 u8 u32)
def pH:b9:=gm [0,1,2,6,7,8,9,13,30,35,54] [] [2032,1984,1856,2000,1984,1984,2032,1776,1984,1472,2000,1984,1984,1952,928,2032,2032] [] []
def b6.l0 (m:Nat)(n0:Int)(a6:Int→Int→Option (Int)):Nat→(List Int)→Int→Int→Option ((List Int) × Int × Int)
 | 0,_,_,_=>none
 | k+1,bI,a0,b0=>if (decide (b0≤n0))=true then ((ba.f m bI a0 b0 a6).bind fun x0=>b6.l0 m n0 a6 k x0 b0 (i64.wrap (b0+(20:Int)))) else (some ((bI,a0,b0)))
def b6.l2 (m:Nat)(n0:Int)(a6:Int→Int→Option (Int))(bq:Int):Nat→(List Int)→Int→Int→Option ((List Int) × Int × Int)
 | 0,_,_,_=>none
 | k+1,ko,a2,b2=>if (decide (b2≤n0))=true then ((aI.f m m ko a2 (i64.wrap (a2+bq)) b2 a6).bind fun x2=>b6.l2 m n0 a6 bq k x2 b2 (i64.wrap (b2+i64.wrap ((2:Int)*bq)))) else (some ((ko,a2,b2)))
def b6.l1 (m:Nat)(n0:Int)(a6:Int→Int→Option (Int)):Nat→(List Int)→Int→Option ((List Int) × Int)
 | 0,_,_=>none
 | k+1,dY,bq=>if (decide (bq<n0))=true then ((b6.l2 m n0 a6 bq m dY (0:Int) (i64.wrap ((2:Int)*bq))).bind fun bm=>match bm with | (l9,a3,b3)=>if (decide ((i64.wrap (a3+bq))<n0))=true then ((aI.f m m l9 a3 (i64.wrap (a3+bq)) n0 a6).bind fun x3=>b6.l1 m n0 a6 k x3 (i64.wrap (bq*(2:Int)))) else (b6.l1 m n0 a6 k l9 (i64.wrap (bq*(2:Int))))) else (some ((dY,bq)))
def b6.f (m:Nat)(aw:List Int)(n0:Int)(a6:Int→Int→Option (Int)):Option ((List Int)):=(b6.l0 m n0 a6 m aw (0:Int) (20:Int)).bind fun aF=>match aF with | (dE,a1,b1)=>(ba.f m dE a1 n0 a6).bind fun x1=>(b6.l1 m n0 a6 m x1 (20:Int)).bind fun cw=>match cw with | (qS,C7)=>some qS
def b6.fin (L:Mem)(az:Nat)(aw:List Int)(n0:Int)(a6:Int→Int→Option (Int))(r:(List Int))(s:St):Prop:=aH Tryz.prog (s.open pH) Tryz.f108.results.toList=some (.tup [])∧Has s.h ((az,.sl aw.length 1 (aa.l r))::L)
def QA (cf:CallF)(m:Nat):Prop:=∀(aw:List Int) (n0:Int) (a6:Int→Int→Option (Int)) (r:(List Int)),b6.f m aw n0 a6=some r→∀h L (dh:Nat) (az:Nat),Has h ((az,.sl dh 1 (aa.l aw))::L)→∀(mb:FuncId) (dO:List AV),aC (.fn mb dO) = .fn mb dO→(∀h K,Has h (K++L)→∀(a0:Int) (a1:Int) r,a6 a0 a1=some r→cf mb ([.int .i64 a0,.int .i64 a1]++dO) h=some (.int .i64 r,h))→∀xs,xs.map aC=[.rs az 0 dh 1,.int .i64 n0,.fn mb dO]→∃h',cf 108 xs h=some (.tup [],h')∧Has h' ((az,.sl dh 1 (aa.l r))::L)
section
variable {cf:CallF}{m:Nat}
theorem b6.bu (L:Mem)(az:Nat)(mb:FuncId)(dO:List AV)(aw:List Int)(n0:Int)(a6:Int→Int→Option (Int))  (oH:aC (.fn mb dO) = .fn mb dO)(tP:∀h K,Has h (K++L)→∀(a0:Int) (a1:Int) r,a6 a0 a1=some r→cf mb ([.int .i64 a0,.int .i64 a1]++dO) h=some (.int .i64 r,h))(Em:NK cf m):bC Tryz.prog cf pH m (sub [1,1,0,0,0] (codeOf Tryz.f108)) (fun k (σ:(List Int) × Int × Int)=>b6.l0 m n0 a6 k σ.1 σ.2.1 σ.2.2) (fun σ s=>match σ with | (bI,a0,b0)=>∃h0,s=⟨.rs az 0 aw.length 1 :: .int .i64 n0 :: .fn mb dO :: .int .i64 (20:Int) :: .int .i64 a0 :: .int .i64 b0::qF [],[],h0⟩∧Has h0 ((az,.sl aw.length 1 (aa.l bI))::L)) (fun out e s=>(e = .exit 0∧∃bI a0 b0,(bI,a0,b0)=out∧∃pG pF h0,s=⟨.rs az 0 aw.length 1 :: .int .i64 n0 :: .fn mb dO :: .int .i64 (20:Int) :: .int .i64 a0::pG :: .any::pF::jE [],[],h0⟩∧Has h0 ((az,.sl aw.length 1 (aa.l bI))::L))):=by
 refine gk (fun _=>rfl) ?_
 rintro k ⟨bI,a0,b0⟩ s out ⟨h0,rfl,o0⟩ H
 have H:b6.l0 m n0 a6 (k+1) bI a0 b0=some out:=H
 refine qq <| qq <| q0 <| qc H (fun c0 H=>?_) (fun c0 H=>?_)
 ·refine qk <| qb 1 <| qq ?_
  obtain⟨x0,e0,H⟩:=aG H
  obtain⟨h1,e1,o1⟩:=Em _ _ _ _ _ e0 h0 _ _ _ (o0) mb dO oH (fun h' K' o'=>tP h' (K'++[]) (by simpa only [aaM,aa0,aa5] using o')) [.rs az 0 aw.length 1,.int .i64 a0,.int .i64 b0,.fn mb dO] (an (rfl) (an (aP (bD)) (an (aP (bD)) (an (oH) (aT)))))
  exact qr [.a 4 e1] <| qq <| q0 <| q0 <| ⟨(x0,b0,i64.wrap (b0+(20:Int))),⟨h1,by kernel_rfl,o1⟩,H⟩
 ·exact qx 0 <| ⟨rfl,bI,a0,b0,oi H,.int .i64 b0,.bool (decide (b0≤n0)),h0,by kernel_rfl,o0⟩
theorem b6.ma (L:Mem)(az:Nat)(mb:FuncId)(dO:List AV)(aw:List Int)(n0:Int)(a6:Int→Int→Option (Int))(bq:Int)  (oH:aC (.fn mb dO) = .fn mb dO)(tP:∀h K,Has h (K++L)→∀(a0:Int) (a1:Int) r,a6 a0 a1=some r→cf mb ([.int .i64 a0,.int .i64 a1]++dO) h=some (.int .i64 r,h))(jy:xg cf m m):bC Tryz.prog cf pH m (sub [1,1,1,1,0,0,1,0,1,0,0,0] (codeOf Tryz.f108)) (fun k (σ:(List Int) × Int × Int)=>b6.l2 m n0 a6 bq k σ.1 σ.2.1 σ.2.2) (fun σ s=>match σ with | (ko,a2,b2)=>∃h5,s=⟨.rs az 0 aw.length 1 :: .int .i64 n0 :: .fn mb dO :: .int .i64 bq :: .int .i64 a2 :: .int .i64 b2::qF [],[],h5⟩∧Has h5 ((az,.sl aw.length 1 (aa.l ko))::L)) (fun out e s=>(e = .exit 4∧∃ko a2 b2,(ko,a2,b2)=out∧∃pG NT h5,s=⟨.rs az 0 aw.length 1 :: .int .i64 n0 :: .fn mb dO :: .int .i64 bq :: .int .i64 a2::pG::jE [NT,.any],[],h5⟩∧Has h5 ((az,.sl aw.length 1 (aa.l ko))::L))):=by
 refine gk (fun _=>rfl) ?_
 rintro k ⟨ko,a2,b2⟩ s out ⟨h5,rfl,o5⟩ H
 have H:b6.l2 m n0 a6 bq (k+1) ko a2 b2=some out:=H
 refine qq <| qq <| q0 <| qc H (fun c2 H=>?_) (fun c2 H=>?_)
 ·refine qk <| qb 5 <| qq ?_
  obtain⟨x2,e5,H⟩:=aG H
  obtain⟨h6,e6,o6⟩:=jy _ _ _ _ _ _ e5 h5 _ _ _ (o5) mb dO oH (fun h' K' o'=>tP h' (K'++[]) (by simpa only [aaM,aa0,aa5] using o')) [.rs az 0 aw.length 1,.int .i64 a2,.int .i64 (i64.wrap (a2+bq)),.int .i64 b2,.fn mb dO] (an (rfl) (an (aP (bD)) (an (aP (bD)) (an (aP (bD)) (an (oH) (aT))))))
  exact qr [.a 7 e6] <| qq <| q0 <| q0 <| ⟨(x2,b2,i64.wrap (b2+i64.wrap ((2:Int)*bq))),⟨h6,by kernel_rfl,o6⟩,H⟩
 ·exact qx 4 <| ⟨rfl,ko,a2,b2,oi H,.int .i64 b2,.bool (decide (b2≤n0)),h5,by kernel_rfl,o5⟩
theorem b6.eO (L:Mem)(az:Nat)(mb:FuncId)(dO:List AV)(aw:List Int)(n0:Int)(a6:Int→Int→Option (Int))  (oH:aC (.fn mb dO) = .fn mb dO)(tP:∀h K,Has h (K++L)→∀(a0:Int) (a1:Int) r,a6 a0 a1=some r→cf mb ([.int .i64 a0,.int .i64 a1]++dO) h=some (.int .i64 r,h))(jy:xg cf m m):bC Tryz.prog cf pH m (sub [1,1,1,1,0,0] (codeOf Tryz.f108)) (fun k (σ:(List Int) × Int)=>b6.l1 m n0 a6 k σ.1 σ.2) (fun σ s=>match σ with | (dY,bq)=>∃h4,s=⟨.rs az 0 aw.length 1 :: .int .i64 n0 :: .fn mb dO :: .int .i64 bq::zY [],[],h4⟩∧Has h4 ((az,.sl aw.length 1 (aa.l dY))::L)) (fun out e s=>(e = .exit 2∧∃dY bq,(dY,bq)=out∧∃kM qM F5 C8 H4 h4,s=⟨kM::qM::F5::C8::mT [H4,.any,.any],[],h4⟩∧Has h4 ((az,.sl aw.length 1 (aa.l dY))::L))):=by
 refine gk (fun _=>rfl) ?_
 rintro k ⟨dY,bq⟩ s out ⟨h4,rfl,o4⟩ H
 have H:b6.l1 m n0 a6 (k+1) dY bq=some out:=H
 refine qq <| qq <| q0 <| qc H (fun c1 H=>?_) (fun c1 H=>?_)
 ·refine qk <| qb 3 <| qq <| q0 <| qq <| qb 4 ?_
  obtain⟨bm,e7,H⟩:=aG H
  refine ql (b6.ma L az mb dO aw n0 a6 bq  oH tP jy (dY,(0:Int),i64.wrap ((2:Int)*bq)) _ _ ⟨h4,by kernel_rfl,o4⟩ e7) ?_
  rintro e s ⟨rfl,l9,a3,b3,rfl,g2,g3,h7,rfl,o7⟩
  try dsimp only at H
  refine qq <| qq <| q0 <| qq <| q0 <| qc H (fun c3 H=>?_) (fun c3 H=>?_)
  ·obtain⟨x3,e8,H⟩:=aG H
   obtain⟨h8,e9,o8⟩:=jy _ _ _ _ _ _ e8 h7 _ _ _ (o7) mb dO oH (fun h' K' o'=>tP h' (K'++[]) (by simpa only [aaM,aa0,aa5] using o')) [.rs az 0 aw.length 1,.int .i64 a3,.int .i64 (i64.wrap (a3+bq)),.int .i64 n0,.fn mb dO] (an (rfl) (an (aP (bD)) (an (aP (bD)) (an (aP (bD)) (an (oH) (aT))))))
   exact qr [.a 5 e9] <| q0 <| ⟨(x3,i64.wrap (bq*(2:Int))),⟨h8,by kernel_rfl,o8⟩,H⟩
  ·exact qk <| q0 <| ⟨(l9,i64.wrap (bq*(2:Int))),⟨h7,by kernel_rfl,o7⟩,H⟩
 ·exact qx 2 <| ⟨rfl,dY,bq,oi H,.rs az 0 aw.length 1,.int .i64 n0,.fn mb dO,.int .i64 bq,.bool (decide (bq<n0)),h4,by kernel_rfl,o4⟩
theorem zr {aV:FuncId→b9}(ha:aV 108=pH)(Em:NK cf m)(jy:xg cf m m)(aw:List Int)(n0:Int)(a6:Int→Int→Option (Int))(h:AHeap)(L:Mem)(az:Nat)(mb:FuncId)(dO:List AV)  (oH:aC (.fn mb dO) = .fn mb dO)(tP:∀h K,Has h (K++L)→∀(a0:Int) (a1:Int) r,a6 a0 a1=some r→cf mb ([.int .i64 a0,.int .i64 a1]++dO) h=some (.int .i64 r,h))(o:Has h ((az,.sl aw.length 1 (aa.l aw))::L)){out:(List Int)}(H:b6.f m aw n0 a6=some out) :
  ∃r h',bg Tryz.prog aV cf m 108 [.rs az 0 aw.length 1,.int .i64 n0,.fn mb dO] h=some (r,h')∧r = .tup []∧Has h' ((az,.sl aw.length 1 (aa.l out))::L):=by
 refine aj (fn:=Tryz.f108) ha Tryz.func108 (by kernel_rfl) (by kernel_rfl) ?_
 refine aD (Q:=fun s=>b6.fin L az aw n0 a6 out s) (fun _ _ ⟨h1,h2,h3⟩=>⟨h1,_,h2,rfl,h3⟩) ?_
 have H:_=some out:=H
 unfold b6.f at H
 show dA _ cf pH m _ ⟨.rs az 0 aw.length 1 :: .int .i64 n0 :: .fn mb dO::r9 [],[],h⟩ _
 refine q1 <| qq <| q0 <| qq <| qb 0 ?_
 obtain⟨aF,e2,H⟩:=aG H
 refine ql (b6.bu L az mb dO aw n0 a6  oH tP Em (aw,(0:Int),(20:Int)) _ _ ⟨h,by kernel_rfl,o⟩ e2) ?_
 rintro e s ⟨rfl,dE,a1,b1,rfl,g0,g1,h2,rfl,o2⟩
 try dsimp only at H
 refine qq ?_
 obtain⟨x1,e3,H⟩:=aG H
 obtain⟨h3,e4,o3⟩:=Em _ _ _ _ _ e3 h2 _ _ _ (o2) mb dO oH (fun h' K' o'=>tP h' (K'++[]) (by simpa only [aaM,aa0,aa5] using o')) [.rs az 0 aw.length 1,.int .i64 a1,.int .i64 n0,.fn mb dO] (an (rfl) (an (aP (bD)) (an (aP (bD)) (an (oH) (aT)))))
 refine qr [.a 4 e4] <| qb 2 ?_
 obtain⟨cw,lF,H⟩:=aG H
 refine ql (b6.eO L az mb dO aw n0 a6  oH tP jy (x1,(20:Int)) _ _ ⟨h3,by kernel_rfl,o3⟩ lF) ?_
 rintro e s ⟨rfl,qS,C7,rfl,g4,g5,g6,g7,g8,h9,rfl,o9⟩
 try dsimp only at H
 obtain rfl:=oi H
 exact⟨.inr rfl,⟨by kernel_rfl,he o9⟩⟩
end
end Go.Proofs.YtmekcfdllhphlaaGreatDoor
namespace Go.Proofs.YtmekcfdllhphlaaGreatDoor
open Go Go.R
open Go.IntKind (i64 u64 u8 u32)
def En:b9:=gm [0,1] [] [3] [] []
def fN.f (m:Nat)(x0:List Int)(a6:Int→Int→Option (Int)):Option ((List Int)):=(b6.f m x0 (x0.length:Int) a6).bind fun x1=>some x1
def fN.fin (L:Mem)(az:Nat)(x0:List Int)(a6:Int→Int→Option (Int))(r:(List Int))(s:St):Prop:=aH Tryz.prog (s.open En) Tryz.f97.results.toList=some (.tup [])∧Has s.h ((az,.sl x0.length 1 (aa.l r))::L)
def Ws (cf:CallF)(m:Nat):Prop:=∀(x0:List Int) (a6:Int→Int→Option (Int)) (r:(List Int)),fN.f m x0 a6=some r→∀h L (Ig:Nat) (az:Nat),Has h ((az,.sl Ig 1 (aa.l x0))::L)→∀(eh:FuncId) (aX:List AV),aC (.fn eh aX) = .fn eh aX→(∀h K,Has h (K++L)→∀(a0:Int) (a1:Int) r,a6 a0 a1=some r→cf eh ([.int .i64 a0,.int .i64 a1]++aX) h=some (.int .i64 r,h))→∀xs,xs.map aC=[.rs az 0 Ig 1,.fn eh aX]→∃h',cf 97 xs h=some (.tup [],h')∧Has h' ((az,.sl Ig 1 (aa.l r))::L)
section
variable {cf:CallF}{m:Nat}
theorem qX {aV:FuncId→b9}(ha:aV 97=En)(QB:QA cf m)(x0:List Int)(a6:Int→Int→Option (Int))(h:AHeap)(L:Mem)(az:Nat)(eh:FuncId)(aX:List AV)  (iH:aC (.fn eh aX) = .fn eh aX)(iM:∀h K,Has h (K++L)→∀(a0:Int) (a1:Int) r,a6 a0 a1=some r→cf eh ([.int .i64 a0,.int .i64 a1]++aX) h=some (.int .i64 r,h))(o:Has h ((az,.sl x0.length 1 (aa.l x0))::L)){out:(List Int)}(H:fN.f m x0 a6=some out) :
  ∃r h',bg Tryz.prog aV cf m 97 [.rs az 0 x0.length 1,.fn eh aX] h=some (r,h')∧r = .tup []∧Has h' ((az,.sl x0.length 1 (aa.l out))::L):=by
 refine aj (fn:=Tryz.f97) ha Tryz.func97 (by kernel_rfl) (by kernel_rfl) ?_
 refine aD (Q:=fun s=>fN.fin L az x0 a6 out s) (fun _ _ ⟨h1,h2,h3⟩=>⟨h1,_,h2,rfl,h3⟩) ?_
 have H:_=some out:=H
 unfold fN.f at H
 show dA _ cf En m _ ⟨[.rs az 0 x0.length 1,.fn eh aX],[],h⟩ _
 obtain⟨x1,e0,H⟩:=aG H
 obtain⟨h0,e1,o0⟩:=QB _ _ _ _ e0 h _ _ _ (o) eh aX iH (fun h' K' o'=>iM h' (K'++[]) (by simpa only [aaM,aa0,aa5] using o')) [.rs az 0 x0.length 1,.int .i64 (x0.length:Int),.fn eh aX] (an (rfl) (an (aP (bD)) (an (iH) (aT))))
 obtain rfl:=oi H
 exact qr [.a 4 e1] <| ⟨.inr rfl,⟨by kernel_rfl,he o0⟩⟩
end
end Go.Proofs.YtmekcfdllhphlaaGreatDoor
namespace Go.Proofs.YtmekcfdllhphlaaGreatDoor
open Go Go.R
open Go.IntKind (i64 u64 u8 u32)
section
variable {m:Nat}{cmp:Int→Int→Option Int}{c:Int→Int→Int}
def QC (c:Int→Int→Int)(d:List Int)(bs n:Nat):Prop:=∀k i j,k*bs≤i→i<j→j<k*bs+bs→j<n→0≤c (gt d j) (gt d i)
theorem Ih (hm:2 ^ 41≤m){n:Nat}{l:List Int}(hn:n=l.length)(hs:l.length<2 ^ 40)(C:Cm cmp c l):∀(f t:Nat) (d:List Int),n - 20*t<f→20*t≤n→Mv 0 (20*t) l d→
  (Ord c l→∀k,k<t→Sg c d (20*k) (20*k+20))→
  ∃d' t' y,b6.l0 m (n:Int) cmp f d ((20*t:Nat):Int) ((20*t+20:Nat):Int)=some (d',((20*t':Nat):Int),y)∧20*t'≤n∧n<20*t'+20∧Mv 0 (20*t') l d'∧(Ord c l→∀k,k<t'→Sg c d' (20*k) (20*k+20))
 | 0,t,d,hf,_,_,_=>absurd hf (by omega)
 | f+1,t,d,hf,h1,M,S=>by
  have mZ:(2:Nat) ^ 40=1099511627776:=by decide
  have qO:(2:Nat) ^ 41=2199023255552:=by decide
  have hl:=M.length
  unfold b6.l0
  by_cases h:20*t+20≤n
  ·obtain⟨d1,e1,M1,S1⟩:=Ba (a:=20*t) (b:=20*t+20) (cmp:=cmp) (c:=c) hm (l:=d) (by omega) (by omega) (by omega) (C.perm M.perm)
   rw [if_pos (by simp only [decide_eq_true_eq]; omega),e1,aaA,ay (x:=((20*t+20:Nat):Int)+20) (by omega) (by omega)]
   have:=Ih hm hn hs C f (t+1) d1 (by omega) (by omega) ((M.wide (aaE _) (by omega)).trans (M1.wide (by omega) (by omega))) (fun O k hk i j k1 k2 k3=>by
    by_cases Kp:k=t
    ·subst Kp; exact S1 (O.perm M.perm) _ _ k1 k2 k3
    ·rw [M1.out i (by omega),M1.out j (by omega)]; exact S O k (by omega) _ _ k1 k2 k3)
   rw [show ((20*(t+1):Nat):Int)=((20*t+20:Nat):Int) by omega,show ((20*(t+1)+20:Nat):Int)=((20*t+20:Nat):Int)+20 by omega] at this
   exact this
  ·exact⟨d,t,_,by rw [if_neg (by simp only [decide_eq_true_eq]; omega)],h1,by omega,M,S⟩
theorem Ii (hm:2 ^ 41≤m){n bs:Nat}{l:List Int}(hn:n=l.length)(hs:l.length<2 ^ 40)(hb:0<bs)(RU:bs<n)(C:Cm cmp c l)(B:Ord c l→QC c l bs n):∀(f t:Nat) (d:List Int),n - t*(2*bs)<f→t*(2*bs)≤n→Mv 0 (t*(2*bs)) l d→
  (Ord c l→∀k,k<t→Sg c d (k*(2*bs)) (k*(2*bs)+2*bs))→
  ∃d' t' y,b6.l2 m (n:Int) cmp (bs:Int) f d ((t*(2*bs):Nat):Int) ((t*(2*bs)+2*bs:Nat):Int)=some (d',((t'*(2*bs):Nat):Int),y)∧t'*(2*bs)≤n∧n<t'*(2*bs)+2*bs∧Mv 0 (t'*(2*bs)) l d'∧(Ord c l→∀k,k<t'→Sg c d' (k*(2*bs)) (k*(2*bs)+2*bs))
 | 0,t,d,hf,_,_,_=>absurd hf (by omega)
 | f+1,t,d,hf,h1,M,S=>by
  have mZ:(2:Nat) ^ 40=1099511627776:=by decide
  have qO:(2:Nat) ^ 41=2199023255552:=by decide
  have hl:=M.length
  unfold b6.l2
  have ht:(t+1)*(2*bs)=t*(2*bs)+2*bs:=Nat.succ_mul _ _
  have q1:(2*t)*bs=t*(2*bs):=by rw [Nat.mul_assoc,Nat.mul_left_comm]
  have q2:(2*t+1)*bs=t*(2*bs)+bs:=by rw [Nat.succ_mul,q1]
  by_cases h:t*(2*bs)+2*bs≤n
  ·have S0:Ord c l→Sg c d (t*(2*bs)) (t*(2*bs)+bs):=fun O i j k1 k2 k3=>by
    rw [M.out i (by omega),M.out j (by omega)]; exact B O (2*t) i j (by omega) k2 (by omega) (by omega)
   have YH:Ord c l→Sg c d (t*(2*bs)+bs) (t*(2*bs)+2*bs):=fun O i j k1 k2 k3=>by
    rw [M.out i (by omega),M.out j (by omega)]; exact B O (2*t+1) i j (by omega) k2 (by omega) (by omega)
   have hk:∀k,k<t→k*(2*bs)+2*bs≤t*(2*bs):=fun k hk=>by
    rw [←Nat.succ_mul]; exact abq _ hk
   generalize hA:t*(2*bs)=A at *
   obtain⟨d1,e1,M1,S1⟩:=qW (cmp:=cmp) (c:=c) hm m d A (A+bs) (A+2*bs) (by omega) (by omega) (by omega) (by omega) (by omega) (C.perm M.perm)
   have e0:i64.wrap ((A:Int)+(bs:Int))=((A+bs:Nat):Int):=by rw [ay (by omega) (by omega)]; omega
   have e2:i64.wrap ((2:Int)*(bs:Int))=((2*bs:Nat):Int):=by rw [ay (by omega) (by omega)]; omega
   have e3:i64.wrap (((A+2*bs:Nat):Int)+((2*bs:Nat):Int))=((A+2*bs+2*bs:Nat):Int):=by rw [ay (by omega) (by omega)]; omega
   rw [if_pos (by simp only [decide_eq_true_eq]; omega),e0,e1,aaA,e2,e3]
   have:=Ii hm hn hs hb RU C B f (t+1) d1 (by omega) (by omega) (by rw [ht]; exact (M.wide (aaE _) (by omega)).trans (M1.wide (by omega) (by omega))) (fun O k rS i j k1 k2 k3=>by
    by_cases Kp:k=t
    ·subst Kp; rw [hA] at k1 k3; exact S1 (O.perm M.perm) (S0 O) (YH O) _ _ k1 k2 k3
    ·have:=hk k (by omega)
     rw [M1.out i (by omega),M1.out j (by omega)]; exact S O k (by omega) _ _ k1 k2 k3)
   rw [ht] at this
   exact this
  ·exact⟨d,t,_,by rw [if_neg (by simp only [decide_eq_true_eq]; omega)],h1,by omega,M,S⟩
theorem C9 (hm:2 ^ 41≤m){n:Nat}:∀(f bs:Nat) (l:List Int),n=l.length→l.length<2 ^ 40→Cm cmp c l→n - bs<f→0<bs→bs<2 ^ 42→(Ord c l→QC c l bs n)→
  ∃d y,b6.l1 m (n:Int) cmp f l (bs:Int)=some (d,y)∧d.Perm l∧(Ord c l→Sg c d 0 n)
 | 0,bs,l,_,_,_,hf,_,_,_=>absurd hf (by omega)
 | f+1,bs,l,hn,hs,C,hf,hb,hb2,B=>by
  have mZ:(2:Nat) ^ 40=1099511627776:=by decide
  have qO:(2:Nat) ^ 41=2199023255552:=by decide
  have KU:(2:Nat) ^ 42=4398046511104:=by decide
  unfold b6.l1
  by_cases h:bs<n
  ·have e2:i64.wrap ((2:Int)*(bs:Int))=((2*bs:Nat):Int):=by rw [ay (by omega) (by omega)]; omega
   have e3:i64.wrap ((bs:Int)*(2:Int))=((2*bs:Nat):Int):=by rw [ay (by omega) (by omega)]; omega
   obtain⟨d1,t,y,k1,k2,k3,M1,S1⟩:=Ii (cmp:=cmp) (c:=c) hm hn hs hb h C B m 0 l (by omega) (by omega) Mv.refl (fun O k hk=>absurd hk (by omega))
   have l1:=M1.length
   simp only [Nat.zero_mul,aaZ] at k1
   have k1:b6.l2 m (n:Int) cmp (bs:Int) m l (0:Int) ((2*bs:Nat):Int)=_:=k1
   rw [if_pos (by simp only [decide_eq_true_eq]; omega),e2,k1,aaA]
   dsimp only
   rw [e3]
   have q1:(2*t)*bs=t*(2*bs):=by rw [Nat.mul_assoc,Nat.mul_left_comm]
   have q2:(2*t+1)*bs=t*(2*bs)+bs:=by rw [Nat.succ_mul,q1]
   have hk:∀k,k<t→k*(2*bs)+2*bs≤t*(2*bs):=fun k hk=>by
    rw [←Nat.succ_mul]; exact abq _ hk
   have rS:∀k,t<k→t*(2*bs)+2*bs≤k*(2*bs):=fun k hk=>by
    rw [←Nat.succ_mul]; exact abq _ hk
   have e0:i64.wrap (((t*(2*bs):Nat):Int)+(bs:Int))=((t*(2*bs)+bs:Nat):Int):=by rw [ay (by omega) (by omega)]; omega
   rw [e0]
   by_cases h2:t*(2*bs)+bs<n
   ·obtain⟨d2,e4,M2,S2⟩:=qW (cmp:=cmp) (c:=c) hm m d1 (t*(2*bs)) (t*(2*bs)+bs) n (by omega) (by omega) (by omega) (by omega) (by omega) (C.perm M1.perm)
    rw [if_pos (by simp only [decide_eq_true_eq]; omega),e4,aaA]
    have P2:=M2.perm.trans M1.perm
    obtain⟨d,y,g1,g2,g3⟩:=C9 (n:=n) hm f (2*bs) d2 (by have:=P2.length_eq; omega) (by have:=P2.length_eq; omega) (C.perm P2) (by omega) (by omega) (by omega) (fun O k i j w1 w2 w3 w4=>by
     have O:=O.perm P2.symm
     by_cases u1:k<t
     ·have:=hk k u1
      rw [M2.out i (by omega),M2.out j (by omega)]; exact S1 O k u1 _ _ w1 w2 w3
     ·by_cases u2:k=t
      ·subst u2
       refine S2 (O.perm M1.perm) (fun i j x1 x2 x3=>?_) (fun i j x1 x2 x3=>?_) _ _ w1 w2 w4
       ·rw [M1.out i (by omega),M1.out j (by omega)]; exact B O (2*k) i j (by omega) x2 (by omega) (by omega)
       ·rw [M1.out i (by omega),M1.out j (by omega)]; exact B O (2*k+1) i j (by omega) x2 (by omega) (by omega)
      ·have:=rS k (by omega); omega)
    exact⟨d,y,g1,g2.trans P2,fun O=>g3 (O.perm P2)⟩
   ·rw [if_neg (by simp only [decide_eq_true_eq]; omega)]
    have P2:=M1.perm
    obtain⟨d,y,g1,g2,g3⟩:=C9 (n:=n) hm f (2*bs) d1 (by have:=P2.length_eq; omega) (by have:=P2.length_eq; omega) (C.perm P2) (by omega) (by omega) (by omega) (fun O k i j w1 w2 w3 w4=>by
     have O:=O.perm P2.symm
     by_cases u1:k<t
     ·exact S1 O k u1 _ _ w1 w2 w3
     ·by_cases u2:k=t
      ·subst u2
       rw [M1.out i (by omega),M1.out j (by omega)]; exact B O (2*k) i j (by omega) w2 (by omega) (by omega)
      ·have:=rS k (by omega); omega)
    exact⟨d,y,g1,g2.trans P2,fun O=>g3 (O.perm P2)⟩
  ·refine⟨l,bs,by rw [if_neg (by simp only [decide_eq_true_eq]; omega)],List.Perm.refl _,fun O i j w1 w2 w3=>B O 0 i j (by omega) w2 (by omega) w3⟩
theorem Ge (hm:2 ^ 41≤m){l:List Int}(hs:l.length<2 ^ 40)(C:Cm cmp c l):∃d,fN.f m l cmp=some d∧d.Perm l∧(Ord c l→Sg c d 0 l.length):=by
 have mZ:(2:Nat) ^ 40=1099511627776:=by decide
 have qO:(2:Nat) ^ 41=2199023255552:=by decide
 have KU:(2:Nat) ^ 42=4398046511104:=by decide
 unfold fN.f b6.f
 obtain⟨d1,t,y,k1,k2,k3,M1,S1⟩:=Ih (cmp:=cmp) (c:=c) hm rfl hs C m 0 l (by omega) (by omega) Mv.refl (fun O k hk=>absurd hk (by omega))
 have k1:b6.l0 m (l.length:Int) cmp m l (0:Int) (20:Int)=_:=k1
 have l1:=M1.length
 rw [k1,aaA]
 dsimp only
 obtain⟨d2,e2,M2,S2⟩:=Ba (a:=20*t) (b:=l.length) (cmp:=cmp) (c:=c) hm (l:=d1) (by omega) (by omega) (by omega) (C.perm M1.perm)
 rw [e2,aaA]
 have P2:=M2.perm.trans M1.perm
 obtain⟨d,y,g1,g2,g3⟩:=C9 (cmp:=cmp) (c:=c) (n:=l.length) hm m 20 d2 P2.length_eq.symm (by rw [P2.length_eq]; exact hs) (C.perm P2) (by omega) (by omega) (by omega) (fun O k i j w1 w2 w3 w4=>by
  have O:=O.perm P2.symm
  by_cases u1:k<t
  ·rw [M2.out i (by omega),M2.out j (by omega)]; exact S1 O k u1 _ _ (by omega) w2 (by omega)
  ·exact S2 (O.perm M1.perm) _ _ (by omega) w2 (by omega))
 have g1:b6.l1 m (l.length:Int) cmp m d2 (20:Int)=_:=g1
 rw [g1]
 exact⟨d,rfl,g2.trans P2,fun O=>g3 (O.perm P2)⟩
end
end Go.Proofs.YtmekcfdllhphlaaGreatDoor
namespace Go.Proofs.YtmekcfdllhphlaaGreatDoor
open Go Go.R
open Go.IntKind (i64 u64 u8 u32)
def Eo:b9:=gm [0,1,2,3] [2] [9,7] [] []
def gG.f (m:Nat)(n0:ae)(x0:ak):Option (Bool):=(jg.f m n0 (x0.nodes.length:Int)).bind fun x1=>some (!x1)
def gG.fin (h:AHeap)(r:Bool)(s:St):Prop:=aH Tryz.prog (s.open Eo) Tryz.f75.results.toList=some (.bool r)∧s.h=h
def Wt (cf:CallF)(m:Nat):Prop:=∀(n0:ae) (x0:ak) (r:Bool),gG.f m n0 x0=some r→∀h L (fA cj:Nat),Has h L→L[fA]? = some (cj,.ob [ah.fz x0.nodes,.int .i64 x0.root])→cf 75 [.agg [.int .i64 n0.kind,.int .i64 n0.int,.str n0.label,aa.fz n0.args],.ptr cj 0] h=some (.bool r,h)
section
variable {cf:CallF}{m:Nat}
theorem qY {aV:FuncId→b9}(ha:aV 75=Eo)(TT:Wn cf m)(n0:ae)(x0:ak)(h:AHeap)(L:Mem)  {fA cj:Nat}(gR:L[fA]? = some (cj,.ob [ah.fz x0.nodes,.int .i64 x0.root]))(o:Has h (L)){out:Bool}(H:gG.f m n0 x0=some out) :
  ∃r h',bg Tryz.prog aV cf m 75 [.agg [.int .i64 n0.kind,.int .i64 n0.int,.str n0.label,aa.fz n0.args],.ptr cj 0] h=some (r,h')∧r=(.bool out)∧h'=h:=by
 refine aj (fn:=Tryz.f75) ha Tryz.func75 (by kernel_rfl) (by kernel_rfl) ?_
 refine aD (Q:=fun s=>gG.fin h out s) (fun _ _ ⟨h1,h2,h3⟩=>⟨h1,_,h2,rfl,h3⟩) ?_
 have H:_=some out:=H
 unfold gG.f at H
 show dA _ cf Eo m _ ⟨[.agg [.int .i64 n0.kind,.int .i64 n0.int,.str n0.label,aa.fz n0.args],.ptr cj 0,.any,.any],[none],h⟩ _
 refine q1 <| qq ?_
 obtain⟨x1,e0,H⟩:=aG H
 obtain rfl:=oi H
 exact qr [.v 2 (show bp Tryz.prog h 42 (.ptr cj 0)=some (ah.fz x0.nodes) from cg (q:=fA) (cs:=[ah.fz x0.nodes,.int .i64 x0.root]) o gR (by kernel_rfl)),.a 4 (TT _ _ _ e0 h _ (fT (ab (dJ (ab (aQ) (ab (aQ) (ab (cF) (ab (bB (E:=aa)) (aA)))))) (ab (aQ) (aA)))))] <| qt <| ⟨.inl rfl,⟨by kernel_rfl,by kernel_rfl⟩⟩
end
end Go.Proofs.YtmekcfdllhphlaaGreatDoor
namespace Go.Proofs.YtmekcfdllhphlaaGreatDoor
open Go Go.R
open Go.IntKind (i64 u64 u8 u32)
def Ep:b9:=gm [0,1,2] [] [5,3] [] []
def iy.f (m:Nat)(t0:ak):Option (Bool):=if (decide ((t0.nodes.length:Int)≥(1:Int)))=true then (if (decide ((t0.nodes.length:Int)≤(8000:Int)))=true then (if (decide (t0.root≥(0:Int)))=true then (if (decide (t0.root<(t0.nodes.length:Int)))=true then ((gD.f m t0.nodes (fun y0=>gG.f m y0 t0)).bind fun x0=>some (!x0)) else (some false)) else (some false)) else (some false)) else (some false)
def iy.fin (L:Mem)(r:Bool)(s:St):Prop:=∃av,aH Tryz.prog (s.open Ep) Tryz.f52.results.toList=some av∧gf s.h av (.bool r)
def Wu (cf:CallF)(m:Nat):Prop:=∀(t0:ak) (r:Bool),iy.f m t0=some r→∀h xs,eR fh h xs [.agg [ah.fz t0.nodes,.int .i64 t0.root]]→cf 52 xs h=some (.bool r,h)
section
variable {cf:CallF}{m:Nat}
theorem tQ {aV:FuncId→b9}(ha:aV 52=Ep)(NU:TK cf m)(TU:Wt cf m)(t0:ak)(h:AHeap)(L:Mem)  (o:Has h (L)){out:Bool}(H:iy.f m t0=some out) :
  ∃r h',bg Tryz.prog aV cf m 52 [.agg [ah.fz t0.nodes,.int .i64 t0.root]] h=some (r,h')∧gf h' r (.bool out):=by
 refine aj (fn:=Tryz.f52) ha Tryz.func52 (by kernel_rfl) (by kernel_rfl) ?_
 refine aD (Q:=fun s=>iy.fin L out s) (fun _ _ h=>h) ?_
 have H:_=some out:=H
 unfold iy.f at H
 show dA _ cf Ep m _ ⟨[.agg [ah.fz t0.nodes,.int .i64 t0.root],.any,.any],[],h⟩ _
 refine qq ?_
 obtain⟨az,h0,e0,o0⟩:=kL (cs:=[ah.fz t0.nodes,.int .i64 t0.root]) o (by kernel_rfl)
 refine qr [.a 0 e0] <| qq ?_
 rcases dX H with⟨c0,H⟩| ⟨c0,H⟩
 ·rcases dX H with⟨c1,H⟩| ⟨c1,H⟩
  ·rcases dX H with⟨c2,H⟩| ⟨c2,H⟩
   ·rcases dX H with⟨c3,H⟩| ⟨c3,H⟩
    ·obtain⟨x0,e1,H⟩:=aG H
     refine qr [.v 1 (show bp Tryz.prog h0 42 (.ptr az 0)=some (ah.fz t0.nodes) from cg (q:=0) (cs:=[ah.fz t0.nodes,.int .i64 t0.root]) o0 rfl (by kernel_rfl)),.b 4 c0,.v 6 (show bp Tryz.prog h0 42 (.ptr az 0)=some (ah.fz t0.nodes) from cg (q:=0) (cs:=[ah.fz t0.nodes,.int .i64 t0.root]) o0 rfl (by kernel_rfl)),.b 10 c1,.v 12 (show bp Tryz.prog h0 3 (.ptr az 1)=some (.int .i64 t0.root) from cg (q:=0) (cs:=[ah.fz t0.nodes,.int .i64 t0.root]) o0 rfl (by kernel_rfl)),.b 15 c2,.v 17 (show bp Tryz.prog h0 3 (.ptr az 1)=some (.int .i64 t0.root) from cg (q:=0) (cs:=[ah.fz t0.nodes,.int .i64 t0.root]) o0 rfl (by kernel_rfl)),.v 19 (show bp Tryz.prog h0 42 (.ptr az 0)=some (ah.fz t0.nodes) from cg (q:=0) (cs:=[ah.fz t0.nodes,.int .i64 t0.root]) o0 rfl (by kernel_rfl)),.b 23 c3,.v 25 (show bp Tryz.prog h0 42 (.ptr az 0)=some (ah.fz t0.nodes) from cg (q:=0) (cs:=[ah.fz t0.nodes,.int .i64 t0.root]) o0 rfl (by kernel_rfl)),.a 27 (NU _ _ _ e1 h0 (Has.pos o0) 75 [.ptr az 0] rfl (fun y0 r hr=>TU y0 _ r hr h0 _ 0 _ o0 rfl) _ (an (aP (gP (E:=ah))) (an ((rfl:aC (.fn 75 [.ptr az 0])=_)) (aT))))] ?_
     have o1:Has h0 (L):=Has.del o0 0
     obtain rfl:=oi H
     exact qt <| ⟨.inl rfl,cp (.bool (!x0)) h0 (cn (au))⟩
    ·refine qr [.v 1 (show bp Tryz.prog h0 42 (.ptr az 0)=some (ah.fz t0.nodes) from cg (q:=0) (cs:=[ah.fz t0.nodes,.int .i64 t0.root]) o0 rfl (by kernel_rfl)),.b 4 c0,.v 6 (show bp Tryz.prog h0 42 (.ptr az 0)=some (ah.fz t0.nodes) from cg (q:=0) (cs:=[ah.fz t0.nodes,.int .i64 t0.root]) o0 rfl (by kernel_rfl)),.b 10 c1,.v 12 (show bp Tryz.prog h0 3 (.ptr az 1)=some (.int .i64 t0.root) from cg (q:=0) (cs:=[ah.fz t0.nodes,.int .i64 t0.root]) o0 rfl (by kernel_rfl)),.b 15 c2,.v 17 (show bp Tryz.prog h0 3 (.ptr az 1)=some (.int .i64 t0.root) from cg (q:=0) (cs:=[ah.fz t0.nodes,.int .i64 t0.root]) o0 rfl (by kernel_rfl)),.v 19 (show bp Tryz.prog h0 42 (.ptr az 0)=some (ah.fz t0.nodes) from cg (q:=0) (cs:=[ah.fz t0.nodes,.int .i64 t0.root]) o0 rfl (by kernel_rfl)),.b 23 c3] ?_
     have o2:Has h0 (L):=Has.del o0 0
     obtain rfl:=oi H
     exact qt <| ⟨.inl rfl,cp (.bool false) h0 (cn (au))⟩
   ·refine qr [.v 1 (show bp Tryz.prog h0 42 (.ptr az 0)=some (ah.fz t0.nodes) from cg (q:=0) (cs:=[ah.fz t0.nodes,.int .i64 t0.root]) o0 rfl (by kernel_rfl)),.b 4 c0,.v 6 (show bp Tryz.prog h0 42 (.ptr az 0)=some (ah.fz t0.nodes) from cg (q:=0) (cs:=[ah.fz t0.nodes,.int .i64 t0.root]) o0 rfl (by kernel_rfl)),.b 10 c1,.v 12 (show bp Tryz.prog h0 3 (.ptr az 1)=some (.int .i64 t0.root) from cg (q:=0) (cs:=[ah.fz t0.nodes,.int .i64 t0.root]) o0 rfl (by kernel_rfl)),.b 15 c2] ?_
    have o3:Has h0 (L):=Has.del o0 0
    obtain rfl:=oi H
    exact qt <| ⟨.inl rfl,cp (.bool false) h0 (cn (au))⟩
  ·refine qr [.v 1 (show bp Tryz.prog h0 42 (.ptr az 0)=some (ah.fz t0.nodes) from cg (q:=0) (cs:=[ah.fz t0.nodes,.int .i64 t0.root]) o0 rfl (by kernel_rfl)),.b 4 c0,.v 6 (show bp Tryz.prog h0 42 (.ptr az 0)=some (ah.fz t0.nodes) from cg (q:=0) (cs:=[ah.fz t0.nodes,.int .i64 t0.root]) o0 rfl (by kernel_rfl)),.b 10 c1] ?_
   have o4:Has h0 (L):=Has.del o0 0
   obtain rfl:=oi H
   exact qt <| ⟨.inl rfl,cp (.bool false) h0 (cn (au))⟩
 ·refine qr [.v 1 (show bp Tryz.prog h0 42 (.ptr az 0)=some (ah.fz t0.nodes) from cg (q:=0) (cs:=[ah.fz t0.nodes,.int .i64 t0.root]) o0 rfl (by kernel_rfl)),.b 4 c0] ?_
  have o5:Has h0 (L):=Has.del o0 0
  obtain rfl:=oi H
  exact qt <| ⟨.inl rfl,cp (.bool false) h0 (cn (au))⟩
end
end Go.Proofs.YtmekcfdllhphlaaGreatDoor
namespace Go.Proofs.YtmekcfdllhphlaaGreatDoor
open Go Go.R
open Go.IntKind (i64 u64 u8 u32)
def Er:b9:=gm [0,2] [] [2,1] [] []
def cmp_isNaN_int.f (m:Nat)(x0:Int):Option (Bool):=some (!(x0==x0))
def cmp_isNaN_int.fin (L:Mem)(r:Bool)(s:St):Prop:=∃av,aH Tryz.prog (s.open Er) Tryz.f92.results.toList=some av∧gf s.h av (.bool r)
def Wv (cf:CallF)(m:Nat):Prop:=∀(x0:Int) (r:Bool),cmp_isNaN_int.f m x0=some r→∀h xs,eR fh h xs [.int .i64 x0]→cf 92 xs h=some (.bool r,h)
section
variable {cf:CallF}{m:Nat}
theorem pI {aV:FuncId→b9}(ha:aV 92=Er)  (x0:Int)(h:AHeap)(L:Mem)  (o:Has h (L)){out:Bool}(H:cmp_isNaN_int.f m x0=some out) :
  ∃r h',bg Tryz.prog aV cf m 92 [.int .i64 x0] h=some (r,h')∧gf h' r (.bool out):=by
 refine aj (fn:=Tryz.f92) ha Tryz.func92 (by kernel_rfl) (by kernel_rfl) ?_
 refine aD (Q:=fun s=>cmp_isNaN_int.fin L out s) (fun _ _ h=>h) ?_
 have H:_=some out:=H
 unfold cmp_isNaN_int.f at H
 show dA _ cf Er m _ ⟨[.int .i64 x0,.any],[],h⟩ _
 obtain rfl:=oi H
 exact q1 <| qq <| q0 <| qt <| ⟨.inl rfl,cp (.bool (!(x0==x0))) h (cn (au))⟩
end
end Go.Proofs.YtmekcfdllhphlaaGreatDoor
