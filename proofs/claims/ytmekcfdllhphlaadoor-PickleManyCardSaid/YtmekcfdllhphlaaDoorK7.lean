/- Part of the proof: Q120, PS3, PS4, Q110, Q84, PS5, Q61, Q45, Q108, Q81, Q82, Q109, Q83, Q65, Q85. -/
import Derived.Test.YtmekcfdllhphlaaDoorK6
set_option linter.unusedVariables false
set_option linter.unusedSimpArgs false
set_option maxRecDepth 100000
open Int renaming toNat_natCast → V9
open List renaming append_assoc → Wg, cons_append → Wt, nil_append → Wz
open Nat renaming le_refl → V7, zero_add → Wr, mul_le_mul_right → WX
open Option renaming bind_some → V3
open Or renaming inr → WZ, inl → Xt
open Prod.mk renaming injEq → Wc
namespace Go.Proofs.YtmekcfdllhphlaaDoor
open Go Go.R
open Go.IntKind (i64 u64 u8 u32)
def kX:cb:=gJ [0,1,2,3,4,10,11,12,13,14,15,16,17,18,19,20,21,22,23,24,28,33,50,58,80,85,103,110,140,151,171,185,199,213] [] [17178820576,17179869124,17179869068,17177771916,17179868940,17175674636,17179869068,17179869068,17179868894,17171480286,17179868894,17179868894,17163091936,17179868650,17179867626,17146313194,17179865578,17112756714,17179867626,17179867626,17179864574,17045646846,17179864574,17179864574,17179860960,17179844576,17179844576,16911409120,17179811808,17179746272,17179811808,17179746272,17179615200,16642744288,17179353056,16105611232,17179615200,17179615200,17179303904,15031820256,17179303908,12884336612,17179336678,8589402086,17179869183] [] []
def aB.l0 (m:Nat)(ao:List Int)(a0:Int)(aO:Int→Int→Option (Int)):Nat→Int→Int→Option (Int × Int)
 | 0,_,_=>none
 | k+1,i0,j0=>if (decide (i0<j0))=true then ((ix ao (i64.wrap (fX .u64 (u64.wrap (i64.wrap (i0+j0))) 1))).bind fun v0=>(ix ao a0).bind fun v1=>(aO v0 v1).bind fun r0=>if (decide (r0<(0:Int)))=true then (aB.l0 m ao a0 aO k (i64.wrap (i64.wrap (fX .u64 (u64.wrap (i64.wrap (i0+j0))) 1)+(1:Int))) j0) else (aB.l0 m ao a0 aO k i0 (i64.wrap (fX .u64 (u64.wrap (i64.wrap (i0+j0))) 1)))) else (some ((i0,j0)))
def aB.l1 (m:Nat)(i1:Int):Nat→(List Int)→Int→Option ((List Int) × Int)
 | 0,_,_=>none
 | k+1,bk,k0=>if (decide (k0<(i64.wrap (i1 - (1:Int)))))=true then ((ix bk (i64.wrap (k0+(1:Int)))).bind fun v2=>(ix bk k0).bind fun v3=>(ix bk k0).bind fun v4=>(ix (bk.set k0.toNat v2) (i64.wrap (k0+(1:Int)))).bind fun v5=>aB.l1 m i1 k ((bk.set k0.toNat v2).set (i64.wrap (k0+(1:Int))).toNat v3) (i64.wrap (k0+(1:Int)))) else (some ((bk,k0)))
def aB.l2 (m:Nat)(ao:List Int)(m0:Int)(aO:Int→Int→Option (Int)):Nat→Int→Int→Option (Int × Int)
 | 0,_,_=>none
 | k+1,i2,j2=>if (decide (i2<j2))=true then ((ix ao m0).bind fun v6=>(ix ao (i64.wrap (fX .u64 (u64.wrap (i64.wrap (i2+j2))) 1))).bind fun v7=>(aO v6 v7).bind fun r1=>if (!(decide (r1<(0:Int))))=true then (aB.l2 m ao m0 aO k (i64.wrap (i64.wrap (fX .u64 (u64.wrap (i64.wrap (i2+j2))) 1)+(1:Int))) j2) else (aB.l2 m ao m0 aO k i2 (i64.wrap (fX .u64 (u64.wrap (i64.wrap (i2+j2))) 1)))) else (some ((i2,j2)))
def aB.l3 (m:Nat)(i3:Int):Nat→(List Int)→Int→Option ((List Int) × Int)
 | 0,_,_=>none
 | k+1,dk,k2=>if (decide (k2 > i3))=true then ((ix dk (i64.wrap (k2 - (1:Int)))).bind fun v8=>(ix dk k2).bind fun v9=>(ix dk k2).bind fun v10=>(ix (dk.set k2.toNat v8) (i64.wrap (k2 - (1:Int)))).bind fun v11=>aB.l3 m i3 k ((dk.set k2.toNat v8).set (i64.wrap (k2 - (1:Int))).toNat v9) (i64.wrap (k2 - (1:Int)))) else (some ((dk,k2)))
def aB.l4 (m:Nat)(ao:List Int)(a0:Int)(m0:Int)(b0:Int)(aO:Int→Int→Option (Int)):Nat→Int→Int→Option (Int × Int)
 | 0,_,_=>none
 | k+1,fF,r3=>if (decide (fF<r3))=true then ((ix ao (i64.wrap (i64.wrap (i64.wrap (i64.wrap (fX .u64 (u64.wrap (i64.wrap (a0+b0))) 1)+m0) - (1:Int)) - i64.wrap (fX .u64 (u64.wrap (i64.wrap (fF+r3))) 1)))).bind fun v12=>(ix ao (i64.wrap (fX .u64 (u64.wrap (i64.wrap (fF+r3))) 1))).bind fun HK=>(aO v12 HK).bind fun r4=>if (!(decide (r4<(0:Int))))=true then (aB.l4 m ao a0 m0 b0 aO k (i64.wrap (i64.wrap (fX .u64 (u64.wrap (i64.wrap (fF+r3))) 1)+(1:Int))) r3) else (aB.l4 m ao a0 m0 b0 aO k fF (i64.wrap (fX .u64 (u64.wrap (i64.wrap (fF+r3))) 1)))) else (some ((fF,r3)))
def aB.b (m:Nat)(rec:(List Int)→Int→Int→Int→(Int→Int→Option (Int))→Option ((List Int)))(ao:List Int)(a0:Int)(m0:Int)(b0:Int)(aO:Int→Int→Option (Int)):Option ((List Int)):=if ((i64.wrap (m0 - a0))==(1:Int))=true then ((aB.l0 m ao a0 aO m m0 b0).bind fun bq=>match bq with | (i1,j1)=>(aB.l1 m i1 m ao a0).bind fun b9=>match b9 with | (cU,k1)=>some cU) else (if ((i64.wrap (b0 - m0))==(1:Int))=true then ((aB.l2 m ao m0 aO m a0 m0).bind fun je=>match je with | (i3,j3)=>(aB.l3 m i3 m ao m0).bind fun oS=>match oS with | (jk,k3)=>some jk) else (jn (fun (σ:Int × Int)=>match σ with | (tt,r2)=>(aB.l4 m ao a0 m0 b0 aO m tt r2).bind fun cF=>match cF with | (eJ,r5)=>jn (fun (σ:(List Int))=>match σ with | kD=>jn (fun (σ:(List Int))=>match σ with | oT=>if (decide ((i64.wrap (fX .u64 (u64.wrap (i64.wrap (a0+b0))) 1))<(i64.wrap (i64.wrap (i64.wrap (fX .u64 (u64.wrap (i64.wrap (a0+b0))) 1)+m0) - eJ))))=true then (if (decide ((i64.wrap (i64.wrap (i64.wrap (fX .u64 (u64.wrap (i64.wrap (a0+b0))) 1)+m0) - eJ))<b0))=true then ((rec oT (i64.wrap (fX .u64 (u64.wrap (i64.wrap (a0+b0))) 1)) (i64.wrap (i64.wrap (i64.wrap (fX .u64 (u64.wrap (i64.wrap (a0+b0))) 1)+m0) - eJ)) b0 aO).bind fun x2=>some x2) else (some oT)) else (some oT)) fun Mx=>(if (decide (a0<eJ))=true then (if (decide (eJ<(i64.wrap (fX .u64 (u64.wrap (i64.wrap (a0+b0))) 1))))=true then ((rec kD a0 eJ (i64.wrap (fX .u64 (u64.wrap (i64.wrap (a0+b0))) 1)) aO).bind fun x1=>Mx x1) else (Mx kD)) else (Mx kD))) fun My=>(if (decide (eJ<m0))=true then (if (decide (m0<(i64.wrap (i64.wrap (i64.wrap (fX .u64 (u64.wrap (i64.wrap (a0+b0))) 1)+m0) - eJ))))=true then ((eu.f m ao eJ m0 (i64.wrap (i64.wrap (i64.wrap (fX .u64 (u64.wrap (i64.wrap (a0+b0))) 1)+m0) - eJ)) aO).bind fun x0=>My x0) else (My ao)) else (My ao))) fun NX=>(if (decide (m0 > (i64.wrap (fX .u64 (u64.wrap (i64.wrap (a0+b0))) 1))))=true then (NX (i64.wrap (i64.wrap (i64.wrap (fX .u64 (u64.wrap (i64.wrap (a0+b0))) 1)+m0) - b0),i64.wrap (fX .u64 (u64.wrap (i64.wrap (a0+b0))) 1))) else (NX (a0,m0)))))
def aB.f (m:Nat):Nat→(List Int)→Int→Int→Int→(Int→Int→Option (Int))→Option ((List Int))
 | 0,_,_,_,_,_=>none
 | k+1,ao,a0,m0,b0,aO=>aB.b m (aB.f m k) ao a0 m0 b0 aO
def aB.fin (L:Mem)(aA:Nat)(ao:List Int)(a0:Int)(m0:Int)(b0:Int)(aO:Int→Int→Option (Int))(r:(List Int))(s:St):Prop:=aI Tryd.prog (s.open kX) Tryd.f120.results.toList=some (.tup [])∧Has s.h ((aA,.sl ao.length 1 (aa.l r))::L)
def uB (cf:CallF)(m:Nat)(kk:Nat):Prop:=∀(ao:List Int) (a0:Int) (m0:Int) (b0:Int) (aO:Int→Int→Option (Int)) (r:(List Int)),aB.f m kk ao a0 m0 b0 aO=some r→∀h L (cm:Nat) (aA:Nat),Has h ((aA,.sl cm 1 (aa.l ao))::L)→∀(dX:FuncId) (aW:List AV),ay (.fn dX aW) = .fn dX aW→(∀h K,Has h (K++L)→∀(a0:Int) (a1:Int) r,aO a0 a1=some r→cf dX ([.int .i64 a0,.int .i64 a1]++aW) h=some (.int .i64 r,h))→∀xs,xs.map ay=[.rs aA 0 cm 1,.int .i64 a0,.int .i64 m0,.int .i64 b0,.fn dX aW]→∃h',cf 120 xs h=some (.tup [],h')∧Has h' ((aA,.sl cm 1 (aa.l r))::L)
section
variable {cf:CallF}{m:Nat}
theorem aB.bI (L:Mem)(aA:Nat)(dX:FuncId)(aW:List AV)(ao:List Int)(a0:Int)(m0:Int)(b0:Int)(aO:Int→Int→Option (Int))  {kk:Nat}(iB:uB cf m kk)(gk:ay (.fn dX aW) = .fn dX aW)(gU:∀h K,Has h (K++L)→∀(a0:Int) (a1:Int) r,aO a0 a1=some r→cf dX ([.int .i64 a0,.int .i64 a1]++aW) h=some (.int .i64 r,h))  : bE Tryd.prog cf kX m (sub [0,1,0,1,1,0,0,0] (codeOf Tryd.f120)) (fun k (σ:Int × Int)=>aB.l0 m ao a0 aO k σ.1 σ.2) (fun σ s=>match σ with | (i0,j0)=>∃h0,s=⟨.rs aA 0 ao.length 1 :: .int .i64 a0 :: .any :: .any :: .fn dX aW :: .int .i64 i0 :: .int .i64 j0::Mh [],[],h0⟩∧Has h0 ((aA,.sl ao.length 1 (aa.l ao))::L)) (fun out e s=>(e = .exit 0∧∃i0 j0,(i0,j0)=out∧∃Dh Af Pu h0,s=⟨.rs aA 0 ao.length 1 :: .int .i64 a0 :: .any :: .any::Dh :: .int .i64 i0::Af::pS (Pu::mD []),[],h0⟩∧Has h0 ((aA,.sl ao.length 1 (aa.l ao))::L))):=by
 refine gP (fun _=>rfl) ?_
 rintro k ⟨i0,j0⟩ s out ⟨h0,rfl,o0⟩ H
 have H:aB.l0 m ao a0 aO (k+1) i0 j0=some out:=H
 refine qq <| qq <| q0 <| qc H (fun c1 H=>?_) (fun c1 H=>?_)
 ·refine qk <| qb 1 <| qq <| q0 <| qq ?_
  obtain⟨v0,e0,H⟩:=aH H
  obtain⟨v1,e1,H⟩:=aH H
  obtain⟨r0,e2,H⟩:=aH H
  refine qr [.v 3 (aE (k:=.i64) (E:=aa) (l:=ao) (q:=0) dz o0 rfl e0),.v 4 (bf  (E:=aa) (l:=ao) (q:=0) o0 rfl A3 e0 rfl),.v 7 (aE (k:=.i64) (E:=aa) (l:=ao) (q:=0) dz o0 rfl e1),.v 8 (bf  (E:=aa) (l:=ao) (q:=0) o0 rfl A3 e1 rfl),.a 9 (gU h0 [(aA,.sl ao.length 1 (aa.l ao))] o0 _ _ _ e2)] <| qc H (fun c2 H=>?_) (fun c2 H=>?_)
  ·exact q0 <| ⟨(i64.wrap (i64.wrap (fX .u64 (u64.wrap (i64.wrap (i0+j0))) 1)+(1:Int)),j0),⟨h0,by kernel_rfl,o0⟩,H⟩
  ·exact q0 <| ⟨(i0,i64.wrap (fX .u64 (u64.wrap (i64.wrap (i0+j0))) 1)),⟨h0,by kernel_rfl,o0⟩,H⟩
 ·exact qx 0 <| ⟨rfl,i0,j0,oi H,.fn dX aW,.int .i64 j0,.bool (decide (i0<j0)),h0,by kernel_rfl,o0⟩
theorem aB.eQ (L:Mem)(aA:Nat)(dX:FuncId)(aW:List AV)(ao:List Int)(a0:Int)(m0:Int)(b0:Int)(aO:Int→Int→Option (Int))(i1:Int)  {kk:Nat}(iB:uB cf m kk)(gk:ay (.fn dX aW) = .fn dX aW)(gU:∀h K,Has h (K++L)→∀(a0:Int) (a1:Int) r,aO a0 a1=some r→cf dX ([.int .i64 a0,.int .i64 a1]++aW) h=some (.int .i64 r,h))  : bE Tryd.prog cf kX m (sub [0,1,0,1,1,1,0,1,0,0] (codeOf Tryd.f120)) (fun k (σ:(List Int) × Int)=>aB.l1 m i1 k σ.1 σ.2) (fun σ s=>match σ with | (bk,k0)=>∃h2,s=⟨.rs aA 0 ao.length 1::qQ (.int .i64 i1 :: .any :: .any :: .int .i64 k0::O9 []),[],h2⟩∧Has h2 ((aA,.sl ao.length 1 (aa.l bk))::L)) (fun out e s=>(e = .exit 2∧∃bk k0,(bk,k0)=out∧∃kC tc nE Pv h2,s=⟨kC::qQ (tc :: .any :: .any::nE::pS (Pv::wK [])),[],h2⟩∧Has h2 ((aA,.sl ao.length 1 (aa.l bk))::L))):=by
 refine gP (fun _=>rfl) ?_
 rintro k ⟨bk,k0⟩ s out ⟨h2,rfl,o2⟩ H
 have H:aB.l1 m i1 (k+1) bk k0=some out:=H
 refine qq <| qq <| q0 <| qc H (fun c3 H=>?_) (fun c3 H=>?_)
 ·refine qk <| qq <| qb 3 ?_
  obtain⟨v2,e4,H⟩:=aH H
  obtain⟨v3,e5,H⟩:=aH H
  obtain⟨v4,e6,H⟩:=aH H
  obtain⟨h3,e7,o3⟩:=dF (P:=Tryd.prog) (tf:=3) (E:=aa) (l:=bk) (q:=0) (v:=v2) (x:=.int .i64 v2) o2 rfl Z3 e6 rfl rfl
  obtain⟨v5,e8,H⟩:=aH H
  obtain⟨h4,e9,o4⟩:=dF (P:=Tryd.prog) (tf:=3) (E:=aa) (l:=(bk.set k0.toNat v2)) (q:=0) (v:=v3) (x:=.int .i64 v3) o3 rfl Z3 e8 rfl rfl
  exact qr [.v 8 (aE (k:=.i64) (E:=aa) (l:=bk) (q:=0) dz o2 rfl e4),.v 9 (bf  (E:=aa) (l:=bk) (q:=0) o2 rfl A3 e4 rfl),.v 12 (aE (k:=.i64) (E:=aa) (l:=bk) (q:=0) dz o2 rfl e5),.v 13 (bf  (E:=aa) (l:=bk) (q:=0) o2 rfl A3 e5 rfl),.v 14 (aE (k:=.i64) (E:=aa) (l:=bk) (q:=0) dz o2 rfl e6),.w 15 e7,.v 16 (aE (k:=.i64) (E:=aa) (l:=(bk.set k0.toNat v2)) (q:=0) dz o3 rfl e8),.w 17 e9] <| q0 <| ⟨((bk.set k0.toNat v2).set (i64.wrap (k0+(1:Int))).toNat v3,i64.wrap (k0+(1:Int))),⟨h4,by kernel_rfl,o4⟩,H⟩
 ·exact qx 2 <| ⟨rfl,bk,k0,oi H,.rs aA 0 ao.length 1,.int .i64 i1,.int .i64 k0,.bool (decide (k0<(i64.wrap (i1 - (1:Int))))),h2,by kernel_rfl,o2⟩
theorem aB.oU (L:Mem)(aA:Nat)(dX:FuncId)(aW:List AV)(ao:List Int)(a0:Int)(m0:Int)(b0:Int)(aO:Int→Int→Option (Int))  {kk:Nat}(iB:uB cf m kk)(gk:ay (.fn dX aW) = .fn dX aW)(gU:∀h K,Has h (K++L)→∀(a0:Int) (a1:Int) r,aO a0 a1=some r→cf dX ([.int .i64 a0,.int .i64 a1]++aW) h=some (.int .i64 r,h))  : bE Tryd.prog cf kX m (sub [1,0,1,0,1,1,0,0,0] (codeOf Tryd.f120)) (fun k (σ:Int × Int)=>aB.l2 m ao m0 aO k σ.1 σ.2) (fun σ s=>match σ with | (i2,j2)=>∃h6,s=⟨.rs aA 0 ao.length 1 :: .any :: .int .i64 m0 :: .any :: .fn dX aW::qQ (.int .i64 i2 :: .int .i64 j2::O8 []),[],h6⟩∧Has h6 ((aA,.sl ao.length 1 (aa.l ao))::L)) (fun out e s=>(e = .exit 4∧∃i2 j2,(i2,j2)=out∧∃Dh wS Pw h6,s=⟨.rs aA 0 ao.length 1 :: .any :: .int .i64 m0 :: .any::Dh::qQ (.int .i64 i2::wS::pS (Pw::ri [])),[],h6⟩∧Has h6 ((aA,.sl ao.length 1 (aa.l ao))::L))):=by
 refine gP (fun _=>rfl) ?_
 rintro k ⟨i2,j2⟩ s out ⟨h6,rfl,o6⟩ H
 have H:aB.l2 m ao m0 aO (k+1) i2 j2=some out:=H
 refine qq <| qq <| q0 <| qc H (fun c5 H=>?_) (fun c5 H=>?_)
 ·refine qk <| qb 5 <| qq <| q0 <| qq ?_
  obtain⟨v6,qS,H⟩:=aH H
  obtain⟨v7,rX,H⟩:=aH H
  obtain⟨r1,rY,H⟩:=aH H
  refine qr [.v 3 (aE (k:=.i64) (E:=aa) (l:=ao) (q:=0) dz o6 rfl qS),.v 4 (bf  (E:=aa) (l:=ao) (q:=0) o6 rfl A3 qS rfl),.v 7 (aE (k:=.i64) (E:=aa) (l:=ao) (q:=0) dz o6 rfl rX),.v 8 (bf  (E:=aa) (l:=ao) (q:=0) o6 rfl A3 rX rfl),.a 9 (gU h6 [(aA,.sl ao.length 1 (aa.l ao))] o6 _ _ _ rY)] <| qc H (fun c6 H=>?_) (fun c6 H=>?_)
  ·exact q0 <| ⟨(i64.wrap (i64.wrap (fX .u64 (u64.wrap (i64.wrap (i2+j2))) 1)+(1:Int)),j2),⟨h6,by kernel_rfl,o6⟩,H⟩
  ·exact q0 <| ⟨(i2,i64.wrap (fX .u64 (u64.wrap (i64.wrap (i2+j2))) 1)),⟨h6,by kernel_rfl,o6⟩,H⟩
 ·exact qx 4 <| ⟨rfl,i2,j2,oi H,.fn dX aW,.int .i64 j2,.bool (decide (i2<j2)),h6,by kernel_rfl,o6⟩
theorem aB.tu (L:Mem)(aA:Nat)(dX:FuncId)(aW:List AV)(ao:List Int)(a0:Int)(m0:Int)(b0:Int)(aO:Int→Int→Option (Int))(i3:Int)  {kk:Nat}(iB:uB cf m kk)(gk:ay (.fn dX aW) = .fn dX aW)(gU:∀h K,Has h (K++L)→∀(a0:Int) (a1:Int) r,aO a0 a1=some r→cf dX ([.int .i64 a0,.int .i64 a1]++aW) h=some (.int .i64 r,h))  : bE Tryd.prog cf kX m (sub [1,0,1,0,1,1,1,0,1,0,0] (codeOf Tryd.f120)) (fun k (σ:(List Int) × Int)=>aB.l3 m i3 k σ.1 σ.2) (fun σ s=>match σ with | (dk,k2)=>∃h8,s=⟨.rs aA 0 ao.length 1::ri (.int .i64 i3 :: .any :: .any :: .int .i64 k2::JV []),[],h8⟩∧Has h8 ((aA,.sl ao.length 1 (aa.l dk))::L)) (fun out e s=>(e = .exit 6∧∃dk k2,(dk,k2)=out∧∃kC Ai Ak Mz h8,s=⟨kC::ri (Ai :: .any :: .any::Ak::pS (Mz::GV [])),[],h8⟩∧Has h8 ((aA,.sl ao.length 1 (aa.l dk))::L))):=by
 refine gP (fun _=>rfl) ?_
 rintro k ⟨dk,k2⟩ s out ⟨h8,rfl,o8⟩ H
 have H:aB.l3 m i3 (k+1) dk k2=some out:=H
 refine qq <| qq <| q0 <| qc H (fun c7 H=>?_) (fun c7 H=>?_)
 ·refine qk <| qq <| qb 7 ?_
  obtain⟨v8,pX,H⟩:=aH H
  obtain⟨v9,uC,H⟩:=aH H
  obtain⟨v10,uf,H⟩:=aH H
  obtain⟨h9,yD,o9⟩:=dF (P:=Tryd.prog) (tf:=3) (E:=aa) (l:=dk) (q:=0) (v:=v8) (x:=.int .i64 v8) o8 rfl Z3 uf rfl rfl
  obtain⟨v11,uD,H⟩:=aH H
  obtain⟨h10,zw,uA⟩:=dF (P:=Tryd.prog) (tf:=3) (E:=aa) (l:=(dk.set k2.toNat v8)) (q:=0) (v:=v9) (x:=.int .i64 v9) o9 rfl Z3 uD rfl rfl
  exact qr [.v 8 (aE (k:=.i64) (E:=aa) (l:=dk) (q:=0) dz o8 rfl pX),.v 9 (bf  (E:=aa) (l:=dk) (q:=0) o8 rfl A3 pX rfl),.v 12 (aE (k:=.i64) (E:=aa) (l:=dk) (q:=0) dz o8 rfl uC),.v 13 (bf  (E:=aa) (l:=dk) (q:=0) o8 rfl A3 uC rfl),.v 14 (aE (k:=.i64) (E:=aa) (l:=dk) (q:=0) dz o8 rfl uf),.w 15 yD,.v 16 (aE (k:=.i64) (E:=aa) (l:=(dk.set k2.toNat v8)) (q:=0) dz o9 rfl uD),.w 17 zw] <| q0 <| ⟨((dk.set k2.toNat v8).set (i64.wrap (k2 - (1:Int))).toNat v9,i64.wrap (k2 - (1:Int))),⟨h10,by kernel_rfl,uA⟩,H⟩
 ·exact qx 6 <| ⟨rfl,dk,k2,oi H,.rs aA 0 ao.length 1,.int .i64 i3,.int .i64 k2,.bool (decide (k2 > i3)),h8,by kernel_rfl,o8⟩
theorem aB.tv (L:Mem)(aA:Nat)(dX:FuncId)(aW:List AV)(ao:List Int)(a0:Int)(m0:Int)(b0:Int)(aO:Int→Int→Option (Int))  {kk:Nat}(iB:uB cf m kk)(gk:ay (.fn dX aW) = .fn dX aW)(gU:∀h K,Has h (K++L)→∀(a0:Int) (a1:Int) r,aO a0 a1=some r→cf dX ([.int .i64 a0,.int .i64 a1]++aW) h=some (.int .i64 r,h))  : bE Tryd.prog cf kX m (sub [1,1,1,1,1,1,1,0,0,0] (codeOf Tryd.f120)) (fun k (σ:Int × Int)=>aB.l4 m ao a0 m0 b0 aO k σ.1 σ.2) (fun σ s=>match σ with | (fF,r3)=>∃h13,s=⟨.rs aA 0 ao.length 1 :: .int .i64 a0 :: .int .i64 m0 :: .int .i64 b0 :: .fn dX aW::ri (.int .i64 (i64.wrap (fX .u64 (u64.wrap (i64.wrap (a0+b0))) 1)) :: .int .i64 (i64.wrap (i64.wrap (fX .u64 (u64.wrap (i64.wrap (a0+b0))) 1)+m0)) :: .int .i64 fF :: .int .i64 r3 :: .int .i64 (i64.wrap (i64.wrap (i64.wrap (fX .u64 (u64.wrap (i64.wrap (a0+b0))) 1)+m0) - (1:Int)))::EO []),[],h13⟩∧Has h13 ((aA,.sl ao.length 1 (aa.l ao))::L)) (fun out e s=>(e = .exit 8∧∃fF r3,(fF,r3)=out∧∃Px Al MA h13,s=⟨.rs aA 0 ao.length 1 :: .int .i64 a0 :: .int .i64 m0 :: .int .i64 b0 :: .fn dX aW::ri (.int .i64 (i64.wrap (fX .u64 (u64.wrap (i64.wrap (a0+b0))) 1)) :: .int .i64 (i64.wrap (i64.wrap (fX .u64 (u64.wrap (i64.wrap (a0+b0))) 1)+m0)) :: .int .i64 fF::Px::Al::oI (MA::qQ [])),[],h13⟩∧Has h13 ((aA,.sl ao.length 1 (aa.l ao))::L))):=by
 refine gP (fun _=>rfl) ?_
 rintro k ⟨fF,r3⟩ s out ⟨h13,rfl,ly⟩ H
 have H:aB.l4 m ao a0 m0 b0 aO (k+1) fF r3=some out:=H
 refine qq <| qq <| q0 <| qc H (fun c9 H=>?_) (fun c9 H=>?_)
 ·refine qk <| qb 9 <| qq <| q0 <| qq ?_
  obtain⟨v12,DJ,H⟩:=aH H
  obtain⟨HK,Fe,H⟩:=aH H
  obtain⟨r4,DK,H⟩:=aH H
  refine qr [.v 5 (aE (k:=.i64) (E:=aa) (l:=ao) (q:=0) dz ly rfl DJ),.v 6 (bf  (E:=aa) (l:=ao) (q:=0) ly rfl A3 DJ rfl),.v 9 (aE (k:=.i64) (E:=aa) (l:=ao) (q:=0) dz ly rfl Fe),.v 10 (bf  (E:=aa) (l:=ao) (q:=0) ly rfl A3 Fe rfl),.a 11 (gU h13 [(aA,.sl ao.length 1 (aa.l ao))] ly _ _ _ DK)] <| qc H (fun rm H=>?_) (fun rm H=>?_)
  ·exact q0 <| ⟨(i64.wrap (i64.wrap (fX .u64 (u64.wrap (i64.wrap (fF+r3))) 1)+(1:Int)),r3),⟨h13,by kernel_rfl,ly⟩,H⟩
  ·exact q0 <| ⟨(fF,i64.wrap (fX .u64 (u64.wrap (i64.wrap (fF+r3))) 1)),⟨h13,by kernel_rfl,ly⟩,H⟩
 ·exact qx 8 <| ⟨rfl,fF,r3,oi H,.int .i64 r3,.int .i64 (i64.wrap (i64.wrap (i64.wrap (fX .u64 (u64.wrap (i64.wrap (a0+b0))) 1)+m0) - (1:Int))),.bool (decide (fF<r3)),h13,by kernel_rfl,ly⟩
theorem tw {aV:FuncId→cb}(ha:aV 120=kX)(MB:Mq cf m)(ao:List Int)(a0:Int)(m0:Int)(b0:Int)(aO:Int→Int→Option (Int))(h:AHeap)(L:Mem)(aA:Nat)(dX:FuncId)(aW:List AV)  {kk:Nat}(iB:uB cf m kk)(gk:ay (.fn dX aW) = .fn dX aW)(gU:∀h K,Has h (K++L)→∀(a0:Int) (a1:Int) r,aO a0 a1=some r→cf dX ([.int .i64 a0,.int .i64 a1]++aW) h=some (.int .i64 r,h))(o:Has h ((aA,.sl ao.length 1 (aa.l ao))::L)){out:(List Int)}(H:aB.f m (kk+1) ao a0 m0 b0 aO=some out) :
  ∃r h',be Tryd.prog aV cf m 120 [.rs aA 0 ao.length 1,.int .i64 a0,.int .i64 m0,.int .i64 b0,.fn dX aW] h=some (r,h')∧r = .tup []∧Has h' ((aA,.sl ao.length 1 (aa.l out))::L):=by
 refine aq (fn:=Tryd.f120) ha Tryd.func120 (by kernel_rfl) (by kernel_rfl) ?_
 refine aG (Q:=fun s=>aB.fin L aA ao a0 m0 b0 aO out s) (fun _ _ ⟨h1,h2,h3⟩=>⟨h1,_,h2,rfl,h3⟩) ?_
 have H:aB.b m (aB.f m kk) ao a0 m0 b0 aO=some out:=H
 unfold aB.b at H
 show de _ cf kX m _ ⟨.rs aA 0 ao.length 1 :: .int .i64 a0 :: .int .i64 m0 :: .int .i64 b0 :: .fn dX aW::Pb [],[],h⟩ _
 refine qq <| qq <| q0 <| qc H (fun c0 H=>?_) (fun c0 H=>?_)
 ·refine q1 <| qq <| q0 <| qq <| qb 0 ?_
  obtain⟨bq,e3,H⟩:=aH H
  refine ql (aB.bI L aA dX aW ao a0 m0 b0 aO  iB gk gU  (m0,b0) _ _ ⟨h,by kernel_rfl,o⟩ e3) ?_
  rintro e s ⟨rfl,i1,j1,rfl,g0,g1,g2,h1,rfl,o1⟩
  try dsimp only at H
  refine qq <| qq <| q0 <| qb 2 ?_
  obtain⟨b9,nH,H⟩:=aH H
  refine ql (aB.eQ L aA dX aW ao a0 m0 b0 aO i1  iB gk gU  (ao,a0) _ _ ⟨h1,by kernel_rfl,o1⟩ nH) ?_
  rintro e s ⟨rfl,cU,k1,rfl,g3,g4,g5,g6,h5,rfl,o5⟩
  try dsimp only at H
  obtain rfl:=oi H
  exact qt <| ⟨.inl rfl,⟨by kernel_rfl,he o5⟩⟩
 ·refine qk <| qq <| qq <| q0 <| qc H (fun c4 H=>?_) (fun c4 H=>?_)
  ·refine q1 <| qq <| q0 <| qq <| qb 4 ?_
   obtain⟨je,qT,H⟩:=aH H
   refine ql (aB.oU L aA dX aW ao a0 m0 b0 aO  iB gk gU  (a0,m0) _ _ ⟨h,by kernel_rfl,o⟩ qT) ?_
   rintro e s ⟨rfl,i3,j3,rfl,g7,g8,g9,h7,rfl,o7⟩
   try dsimp only at H
   refine qq <| qq <| q0 <| qb 6 ?_
   obtain⟨oS,BG,H⟩:=aH H
   refine ql (aB.tu L aA dX aW ao a0 m0 b0 aO i3  iB gk gU  (ao,m0) _ _ ⟨h7,by kernel_rfl,o7⟩ BG) ?_
   rintro e s ⟨rfl,jk,k3,rfl,g10,g11,g12,g13,h11,rfl,vk⟩
   try dsimp only at H
   obtain rfl:=oi H
   exact qt <| ⟨.inl rfl,⟨by kernel_rfl,he vk⟩⟩
  ·refine qk <| qq <| q0 <| qq <| q0 <| qq <| q0 ?_
   obtain⟨NX,RU,H⟩:=wJ H
   refine qj (S:=fun (σ:Int × Int) s=>match σ with | (tt,r2)=>∃(h12:AHeap),s=⟨.rs aA 0 ao.length 1 :: .int .i64 a0 :: .int .i64 m0 :: .int .i64 b0 :: .fn dX aW::ri (.int .i64 (i64.wrap (fX .u64 (u64.wrap (i64.wrap (a0+b0))) 1)) :: .int .i64 (i64.wrap (i64.wrap (fX .u64 (u64.wrap (i64.wrap (a0+b0))) 1)+m0)) :: .int .i64 tt :: .int .i64 r2::EP []),[],h12⟩∧Has h12 ((aA,.sl ao.length 1 (aa.l ao))::L)) NX H ?_ ?_
   ·rintro⟨tt,r2⟩ s ⟨h12,rfl,tq⟩ H
    have H:=(RU _).symm.trans H
    try dsimp only at H
    refine q1 <| qq <| qb 8 ?_
    obtain⟨cF,Ff,H⟩:=aH H
    refine ql (aB.tv L aA dX aW ao a0 m0 b0 aO  iB gk gU  (tt,r2) _ _ ⟨h12,by kernel_rfl,tq⟩ Ff) ?_
    rintro e s ⟨rfl,eJ,r5,rfl,g14,g15,g16,h14,rfl,yv⟩
    try dsimp only at H
    refine q1 ?_
    obtain⟨My,NW,H⟩:=wJ H
    refine qj (S:=fun (σ:(List Int)) s=>match σ with | kD=>∃(g17:AV) (g18:AV) (h16:AHeap),s=⟨.rs aA 0 ao.length 1 :: .int .i64 a0::g17 :: .int .i64 b0 :: .fn dX aW::ri (.int .i64 (i64.wrap (fX .u64 (u64.wrap (i64.wrap (a0+b0))) 1)) :: .any :: .int .i64 eJ::ke (.int .i64 (i64.wrap (i64.wrap (i64.wrap (fX .u64 (u64.wrap (i64.wrap (a0+b0))) 1)+m0) - eJ))::oI [g18,.any,.any])),[],h16⟩∧Has h16 ((aA,.sl ao.length 1 (aa.l kD))::L)) My H ?_ ?_
    ·rintro kD s ⟨g17,g18,h16,rfl,lC⟩ H
     have H:=(NW _).symm.trans H
     try dsimp only at H
     obtain⟨Mx,Ee,H⟩:=wJ H
     refine qj (S:=fun (σ:(List Int)) s=>match σ with | oT=>∃(g19:AV) (g20:AV) (g21:AV) (h18:AHeap),s=⟨.rs aA 0 ao.length 1::g19 :: .any :: .int .i64 b0 :: .fn dX aW::ri (.int .i64 (i64.wrap (fX .u64 (u64.wrap (i64.wrap (a0+b0))) 1)) :: .any::g20::ke (.int .i64 (i64.wrap (i64.wrap (i64.wrap (fX .u64 (u64.wrap (i64.wrap (a0+b0))) 1)+m0) - eJ))::mD [g21,.any])),[],h18⟩∧Has h18 ((aA,.sl ao.length 1 (aa.l oT))::L)) Mx H ?_ ?_
     ·rintro oT s ⟨g19,g20,g21,h18,rfl,Di⟩ H
      have H:=(Ee _).symm.trans H
      try dsimp only at H
      refine qq ?_
      rcases dt H with⟨Da,H⟩| ⟨Da,H⟩
      ·refine qr [.b 3 Da] <| qc H (fun DL H=>?_) (fun DL H=>?_)
       ·obtain⟨x2,Fg,H⟩:=aH H
        obtain⟨h19,HL,Dj⟩:=iB _ _ _ _ _ _ Fg h18 _ _ _ (Di) dX aW gk (fun h' K' o'=>gU h' (K'++[]) (by simpa only [Wg,Wt,Wz] using o')) [.rs aA 0 ao.length 1,.int .i64 (i64.wrap (fX .u64 (u64.wrap (i64.wrap (a0+b0))) 1)),.int .i64 (i64.wrap (i64.wrap (i64.wrap (fX .u64 (u64.wrap (i64.wrap (a0+b0))) 1)+m0) - eJ)),.int .i64 b0,.fn dX aW] (an (rfl) (an (aQ (bD)) (an (aQ (bD)) (an (aQ (bD)) (an (gk) (bm))))))
        obtain rfl:=oi H
        exact qr [.a 5 HL] <| ⟨.inr rfl,⟨by kernel_rfl,he Dj⟩⟩
       ·obtain rfl:=oi H
        exact qk <| ⟨.inr rfl,⟨by kernel_rfl,he Di⟩⟩
      ·obtain rfl:=oi H
       exact qr [.b 3 Da] <| C7 <| qk <| ⟨.inr rfl,⟨by kernel_rfl,he Di⟩⟩
     clear Ee
     intro J6
     refine qq ?_
     rcases dt H with⟨mY,H⟩| ⟨mY,H⟩
     ·refine qr [.b 3 mY] <| qc H (fun BC H=>?_) (fun BC H=>?_)
      ·obtain⟨x1,Fh,H⟩:=aH H
       obtain⟨h17,Fi,Am⟩:=iB _ _ _ _ _ _ Fh h16 _ _ _ (lC) dX aW gk (fun h' K' o'=>gU h' (K'++[]) (by simpa only [Wg,Wt,Wz] using o')) [.rs aA 0 ao.length 1,.int .i64 a0,.int .i64 eJ,.int .i64 (i64.wrap (fX .u64 (u64.wrap (i64.wrap (a0+b0))) 1)),.fn dX aW] (an (rfl) (an (aQ (bD)) (an (aQ (bD)) (an (aQ (bD)) (an (gk) (bm))))))
       exact qr [.a 5 Fi] <| J6 x1 _ ⟨.any,.any,.any,h17,by kernel_rfl,Am⟩ H
      ·exact qk <| J6 kD _ ⟨.int .i64 a0,.int .i64 eJ,.bool (decide (eJ<(i64.wrap (fX .u64 (u64.wrap (i64.wrap (a0+b0))) 1)))),h16,by kernel_rfl,lC⟩ H
     ·exact qr [.b 3 mY] <| C7 <| qk <| J6 kD _ ⟨.int .i64 a0,.int .i64 eJ,.bool false,h16,by kernel_rfl,lC⟩ H
    clear NW
    intro J7
    refine qq ?_
    rcases dt H with⟨nG,H⟩| ⟨nG,H⟩
    ·refine qr [.b 3 nG] <| qc H (fun oQ H=>?_) (fun oQ H=>?_)
     ·obtain⟨x0,Fj,H⟩:=aH H
      obtain⟨h15,GX,zu⟩:=MB _ _ _ _ _ _ Fj h14 _ _ _ (yv) dX aW gk (fun h' K' o'=>gU h' (K'++[]) (by simpa only [Wg,Wt,Wz] using o')) [.rs aA 0 ao.length 1,.int .i64 eJ,.int .i64 m0,.int .i64 (i64.wrap (i64.wrap (i64.wrap (fX .u64 (u64.wrap (i64.wrap (a0+b0))) 1)+m0) - eJ)),.fn dX aW] (an (rfl) (an (aQ (bD)) (an (aQ (bD)) (an (aQ (bD)) (an (gk) (bm))))))
      exact qr [.a 5 GX] <| J7 x0 _ ⟨.any,.any,h15,by kernel_rfl,zu⟩ H
     ·exact qk <| J7 ao _ ⟨.int .i64 m0,.bool (decide (m0<(i64.wrap (i64.wrap (i64.wrap (fX .u64 (u64.wrap (i64.wrap (a0+b0))) 1)+m0) - eJ)))),h14,by kernel_rfl,yv⟩ H
    ·exact qr [.b 3 nG] <| C7 <| qk <| J7 ao _ ⟨.int .i64 m0,.bool false,h14,by kernel_rfl,yv⟩ H
   clear RU
   intro MC
   refine q1 <| qc H (fun c8 H=>?_) (fun c8 H=>?_)
   ·exact q1 <| q0 <| MC (i64.wrap (i64.wrap (i64.wrap (fX .u64 (u64.wrap (i64.wrap (a0+b0))) 1)+m0) - b0),i64.wrap (fX .u64 (u64.wrap (i64.wrap (a0+b0))) 1)) _ ⟨h,by kernel_rfl,o⟩ H
   ·exact q1 <| q0 <| MC (a0,m0) _ ⟨h,by kernel_rfl,o⟩ H
end
end Go.Proofs.YtmekcfdllhphlaaDoor
namespace Go.Proofs.YtmekcfdllhphlaaDoor
open Go Go.R
open Go.IntKind (i64 u64 u8 u32)
theorem Fk {α β:Type}{B:α→Option β}{c1 c2:Bool}{X:Option α}{d0:α}{G:β→Prop}(D:α→Prop)(h1:c1=true→c2=true→∃x,X=some x∧D x)(h0:¬(c1=true∧c2=true)→D d0)
  (h:∀x,D x→∃d,B x=some d∧G d):∃d,jn B (fun j=>if c1=true then (if c2=true then (X.bind fun x0=>j x0) else j d0) else j d0)=some d∧G d:=by
 unfold jn
 dsimp only
 by_cases a1:c1=true
 ·by_cases a2:c2=true
  ·obtain⟨x,e,hx⟩:=h1 a1 a2
   rw [if_pos a1,if_pos a2,e]; exact h x hx
  ·rw [if_pos a1,if_neg a2]; exact h _ (h0 fun z=>a2 z.2)
 ·rw [if_neg a1]; exact h _ (h0 fun z=>a1 z.1)
theorem Py {α:Type}{c1 c2:Bool}{X:Option α}{d0:α}{G:α→Prop}(h1:c1=true→c2=true→∃x,X=some x∧G x)(h0:¬(c1=true∧c2=true)→G d0) :
  ∃d,(if c1=true then (if c2=true then (X.bind fun x0=>some x0) else some d0) else some d0)=some d∧G d:=by
 by_cases a1:c1=true
 ·by_cases a2:c2=true
  ·obtain⟨x,e,hx⟩:=h1 a1 a2
   rw [if_pos a1,if_pos a2,e]; exact⟨x,rfl,hx⟩
  ·rw [if_pos a1,if_neg a2]; exact⟨_,rfl,h0 fun z=>a2 z.2⟩
 ·rw [if_neg a1]; exact⟨_,rfl,h0 fun z=>a1 z.1⟩
theorem J8 {α β:Type}{B:α→Option β}{c:Bool}{x y:α}{G:β→Prop}(h:∀z,(c=true∧z=x)∨(c=false∧z=y)→∃d,B z=some d∧G d):∃d,jn B (fun j=>if c=true then j x else j y)=some d∧G d:=by
 unfold jn
 dsimp only
 cases c with
 | true=>exact h _ (.inl ⟨rfl,rfl⟩)
 | false=>exact h _ (.inr ⟨rfl,rfl⟩)
theorem Ord.refl {c:Int→Int→Int}{l:List Int}(O:Ord c l){x:Int}(hx:x∈l):0≤c x x:=by
 by_cases h:c x x<0
 ·exact O.Lc x hx x hx h
 ·omega
theorem Sg.le {c:Int→Int→Int}{l:List Int}{a b:Nat}(S:Sg c l a b)(O:Ord c l){i j:Nat}(h1:a≤i)(h2:i≤j)(h3:j<b)(h4:b≤l.length):0≤c (gt l j) (gt l i):=by
 by_cases h:i=j
 ·subst h; exact O.refl (aN (by omega))
 ·exact S i j h1 (by omega) h3
section
variable {m:Nat}{cmp:Int→Int→Option Int}{c:Int→Int→Int}
theorem An {l:List Int}{a:Nat}(ha:a<l.length)(hs:l.length<2 ^ 40)(C:Cm cmp c l):∀(f i j:Nat),j - i<f→i≤j→j≤l.length→
  ∃x:Nat,aB.l0 m l (a:Int) cmp f (i:Int) (j:Int)=some ((x:Int),(x:Int))∧i≤x∧x≤j∧(i<x→c (gt l (x - 1)) (gt l a)<0)∧(x<j→0≤c (gt l x) (gt l a))
 | 0,i,j,hf,_,_=>absurd hf (by omega)
 | f+1,i,j,hf,h1,h2=>by
  have nF:(2:Nat) ^ 40=1099511627776:=by decide
  unfold aB.l0
  by_cases h:i<j
  ·have hh:=yu (a:=i) (b:=j) (by omega)
   rw [if_pos (by simp; omega),hh,cn (by omega),cn ha,V3,V3,C.at (by omega) ha,V3]
   by_cases g:c (gt l ((i+j) / 2)) (gt l a)<0
   ·obtain⟨x,e,x1,x2,x3,x4⟩:=An ha hs C f ((i+j) / 2+1) j (by omega) (by omega) h2
    rw [if_pos (by simpa using g),aC (by omega) (by omega),show (((i+j) / 2:Nat):Int)+1=(((i+j) / 2+1:Nat):Int) by omega,e]
    refine⟨x,rfl,by omega,x2,fun _=>?_,x4⟩
    by_cases hx:x=(i+j) / 2+1
    ·rw [hx]; simpa using g
    ·exact x3 (by omega)
   ·obtain⟨x,e,x1,x2,x3,x4⟩:=An ha hs C f i ((i+j) / 2) (by omega) (by omega) (by omega)
    rw [if_neg (by simpa using g),e]
    refine⟨x,rfl,x1,by omega,x3,fun _=>?_⟩
    by_cases hx:x=(i+j) / 2
    ·rw [hx]; omega
    ·exact x4 (by omega)
  ·have:i=j:=by omega
   subst this
   exact⟨i,by rw [if_neg (by simp)],V7 _,V7 _,fun h=>absurd h (by omega),fun h=>absurd h (by omega)⟩
theorem Ao {l:List Int}{q:Nat}(hq:q<l.length)(hs:l.length<2 ^ 40)(C:Cm cmp c l):∀(f i j:Nat),j - i<f→i≤j→j≤l.length→
  ∃x:Nat,aB.l2 m l (q:Int) cmp f (i:Int) (j:Int)=some ((x:Int),(x:Int))∧i≤x∧x≤j∧(i<x→0≤c (gt l q) (gt l (x - 1)))∧(x<j→c (gt l q) (gt l x)<0)
 | 0,i,j,hf,_,_=>absurd hf (by omega)
 | f+1,i,j,hf,h1,h2=>by
  have nF:(2:Nat) ^ 40=1099511627776:=by decide
  unfold aB.l2
  by_cases h:i<j
  ·have hh:=yu (a:=i) (b:=j) (by omega)
   rw [if_pos (by simp; omega),hh,cn hq,cn (by omega),V3,V3,C.at hq (by omega),V3]
   by_cases g:c (gt l q) (gt l ((i+j) / 2))<0
   ·obtain⟨x,e,x1,x2,x3,x4⟩:=Ao hq hs C f i ((i+j) / 2) (by omega) (by omega) (by omega)
    rw [if_neg (by simpa using g),e]
    refine⟨x,rfl,x1,by omega,x3,fun _=>?_⟩
    by_cases hx:x=(i+j) / 2
    ·rw [hx]; omega
    ·exact x4 (by omega)
   ·obtain⟨x,e,x1,x2,x3,x4⟩:=Ao hq hs C f ((i+j) / 2+1) j (by omega) (by omega) h2
    rw [if_pos (by simpa using g),aC (by omega) (by omega),show (((i+j) / 2:Nat):Int)+1=(((i+j) / 2+1:Nat):Int) by omega,e]
    refine⟨x,rfl,by omega,x2,fun _=>?_,x4⟩
    by_cases hx:x=(i+j) / 2+1
    ·rw [hx]; simp; omega
    ·exact x3 (by omega)
  ·have:i=j:=by omega
   subst this
   exact⟨i,by rw [if_neg (by simp)],V7 _,V7 _,fun h=>absurd h (by omega),fun h=>absurd h (by omega)⟩
theorem Fl {l:List Int}{a x:Nat}(hx:x≤l.length)(Pz:a<x)(hs:l.length<2 ^ 40):∀(f k:Nat) (d:List Int),x - k<f→a≤k→k<x→Mv a x l d→
  (∀t,gt d t=if a≤t∧t<k then gt l (t+1) else if t=k then gt l a else gt l t)→
  ∃d' y,aB.l1 m (x:Int) f d (k:Int)=some (d',y)∧Mv a x l d'∧∀t,gt d' t=if a≤t∧t+1<x then gt l (t+1) else if t+1=x then gt l a else gt l t
 | 0,k,d,hf,_,_,_,_=>absurd hf (by omega)
 | f+1,k,d,hf,h1,h2,M,hg=>by
  have nF:(2:Nat) ^ 40=1099511627776:=by decide
  have hl:=M.length
  unfold aB.l1
  have e0:i64.wrap ((x:Int) - 1)=((x - 1:Nat):Int):=by rw [aC (by omega) (by omega)]; omega
  rw [e0]
  by_cases h:k<x - 1
  ·have e1:i64.wrap ((k:Int)+1)=((k+1:Nat):Int):=by rw [aC (by omega) (by omega)]; omega
   rw [if_pos (by simp; omega),e1,cn (by omega),cn (by omega),V3,V3,V3,V9,V9,cn (by simp; omega),V3]
   refine Fl hx Pz hs f (k+1) (E3 d k (k+1)) (by omega) (by omega) (by omega) (M.trans (Aj (by omega) (by omega) (by omega) (by omega) (by omega))) fun t=>?_
   rw [kW (by omega) (by omega),hg k,hg (k+1),hg t]
   by_cases t1:t=k+1
   ·subst t1; rw [if_pos rfl,if_neg (by omega),if_pos rfl,if_neg (by omega),if_pos rfl]
   ·rw [if_neg t1]
    by_cases t2:t=k
    ·subst t2; rw [if_pos rfl,if_neg (by omega),if_neg (by omega),if_pos (by omega)]
    ·rw [if_neg t2,if_neg t2,if_neg t1]
     by_cases t3:a≤t∧t<k
     ·rw [if_pos t3,if_pos (by omega)]
     ·rw [if_neg t3,if_neg (by omega)]
  ·refine⟨d,k,by rw [if_neg (by simp; omega)],M,fun t=>?_⟩
   rw [hg]
   by_cases t3:a≤t∧t<k
   ·rw [if_pos t3,if_pos (by omega)]
   ·rw [if_neg t3,if_neg (show ¬(a≤t∧t+1<x) by omega)]
    by_cases t4:t=k
    ·rw [if_pos t4,if_pos (by omega)]
    ·rw [if_neg t4,if_neg (by omega)]
theorem Fm {l:List Int}{q x:Nat}(hx:q<l.length)(Pz:x≤q)(hs:l.length<2 ^ 40):∀(f k:Nat) (d:List Int),k - x<f→x≤k→k≤q→Mv x (q+1) l d→
  (∀t,gt d t=if k<t∧t≤q then gt l (t - 1) else if t=k then gt l q else gt l t)→
  ∃d' y,aB.l3 m (x:Int) f d (k:Int)=some (d',y)∧Mv x (q+1) l d'∧∀t,gt d' t=if x<t∧t≤q then gt l (t - 1) else if t=x then gt l q else gt l t
 | 0,k,d,hf,_,_,_,_=>absurd hf (by omega)
 | f+1,k,d,hf,h1,h2,M,hg=>by
  have nF:(2:Nat) ^ 40=1099511627776:=by decide
  have hl:=M.length
  unfold aB.l3
  by_cases h:x<k
  ·have e1:i64.wrap ((k:Int) - 1)=((k - 1:Nat):Int):=by rw [aC (by omega) (by omega)]; omega
   rw [if_pos (by simp; omega),e1,cn (by omega),cn (by omega),V3,V3,V3,V9,V9,cn (by simp; omega),V3]
   refine Fm hx Pz hs f (k - 1) (E3 d k (k - 1)) (by omega) (by omega) (by omega) (M.trans (Aj (by omega) (by omega) (by omega) (by omega) (by omega))) fun t=>?_
   rw [kW (by omega) (by omega),hg k,hg (k - 1),hg t]
   by_cases t1:t=k - 1
   ·subst t1; rw [if_pos rfl,if_neg (by omega),if_pos rfl,if_neg (by omega),if_pos rfl]
   ·rw [if_neg t1]
    by_cases t2:t=k
    ·subst t2; rw [if_pos rfl,if_neg (by omega),if_neg (by omega),if_pos (by omega)]
    ·rw [if_neg t2,if_neg t2,if_neg t1]
     by_cases t3:k<t∧t≤q
     ·rw [if_pos t3,if_pos (by omega)]
     ·rw [if_neg t3,if_neg (by omega)]
  ·have:k=x:=by omega
   subst this
   exact⟨d,k,by rw [if_neg (by simp)],M,hg⟩
theorem Ap {l:List Int}{a b q:Nat}(ON:a+b<2 ^ 42)(hs:l.length<2 ^ 40)(C:Cm cmp c l):∀(f s r:Nat),r - s<f→s≤r→r≤l.length→r≤(a+b) / 2+q→(a+b) / 2+q≤l.length+s→
  ∃x:Nat,aB.l4 m l (a:Int) (q:Int) (b:Int) cmp f (s:Int) (r:Int)=some ((x:Int),(x:Int))∧s≤x∧x≤r∧(s<x→0≤c (gt l ((a+b) / 2+q - x)) (gt l (x - 1)))∧(x<r→c (gt l ((a+b) / 2+q - x - 1)) (gt l x)<0)
 | 0,i,j,hf,_,_,_,_=>absurd hf (by omega)
 | f+1,s,r,hf,h1,h2,h3,h4=>by
  have nF:(2:Nat) ^ 40=1099511627776:=by decide
  have MD:(2:Nat) ^ 42=4398046511104:=by decide
  unfold aB.l4
  by_cases h:s<r
  ·have hh:=yu (a:=s) (b:=r) (by omega)
   have ON:=yu (a:=a) (b:=b) (by omega)
   have e1:i64.wrap (i64.wrap (i64.wrap ((((a+b) / 2:Nat):Int)+(q:Int)) - 1) - (((s+r) / 2:Nat):Int))=(((a+b) / 2+q - (s+r) / 2 - 1:Nat):Int):=by
    rw [aC (x:=(((a+b) / 2:Nat):Int)+(q:Int)) (by omega) (by omega),aC (x:=(((a+b) / 2:Nat):Int)+(q:Int) - 1) (by omega) (by omega),aC (by omega) (by omega)]
    omega
   rw [if_pos (by simp; omega),hh,ON,e1,cn (by omega),cn (by omega),V3,V3,C.at (by omega) (by omega),V3]
   by_cases g:c (gt l ((a+b) / 2+q - (s+r) / 2 - 1)) (gt l ((s+r) / 2))<0
   ·obtain⟨x,e,x1,x2,x3,x4⟩:=Ap (a:=a) (b:=b) (q:=q) (by omega) hs C f s ((s+r) / 2) (by omega) (by omega) (by omega) (by omega) (by omega)
    rw [if_neg (by simpa using g),e]
    refine⟨x,rfl,x1,by omega,x3,fun _=>?_⟩
    by_cases hx:x=(s+r) / 2
    ·rw [hx]; exact g
    ·exact x4 (by omega)
   ·obtain⟨x,e,x1,x2,x3,x4⟩:=Ap (a:=a) (b:=b) (q:=q) (by omega) hs C f ((s+r) / 2+1) r (by omega) (by omega) h2 h3 (by omega)
    rw [if_pos (by simpa using g),aC (by omega) (by omega),show (((s+r) / 2:Nat):Int)+1=(((s+r) / 2+1:Nat):Int) by omega,e]
    refine⟨x,rfl,by omega,x2,fun _=>?_,x4⟩
    by_cases hx:x=(s+r) / 2+1
    ·rw [hx,show (a+b) / 2+q - ((s+r) / 2+1)=(a+b) / 2+q - (s+r) / 2 - 1 by omega,Nat.add_sub_cancel]; omega
    ·exact x3 (by omega)
  ·have:s=r:=by omega
   subst this
   exact⟨s,by rw [if_neg (by simp)],V7 _,V7 _,fun h=>absurd h (by omega),fun h=>absurd h (by omega)⟩
end
end Go.Proofs.YtmekcfdllhphlaaDoor
namespace Go.Proofs.YtmekcfdllhphlaaDoor
open Go Go.R
open Go.IntKind (i64 u64 u8 u32)
section
variable {m:Nat}{cmp:Int→Int→Option Int}{c:Int→Int→Int}
theorem tz {l d:List Int}{a q b M E x:Nat}(h1:a≤x)(h2:x≤M)(h3:x≤q)(h4:q≤E)(h5:E≤b)(h6:E+x=M+q)(hb:b≤l.length)
  (R:La l d x (q - x) (E - q)) (O:Ord c l) (F1:a<x→E<b→0≤c (gt l E) (gt l (x - 1))) (F2:x<q→q<E→c (gt l (E - 1)) (gt l x)<0)
  (S1:Sg c l a q) (S2:Sg c l q b) :
  Sg c d a x∧Sg c d x M∧Sg c d M E∧Sg c d E b∧(∀i j,a≤i→i<M→M≤j→j<b→0≤c (gt d j) (gt d i)):=by
 obtain⟨R1,R2,R3,R4⟩:=R
 have g1:∀k,k<x→gt d k=gt l k:=fun k hk=>R4 k (.inl hk)
 have g2:∀k,x≤k→k<M→gt d k=gt l (q+(k - x)):=fun k hk pJ=>by
  have:=R2 (k - x) (by omega)
  rw [show x+(k - x)=k by omega,show x+(q - x)+(k - x)=q+(k - x) by omega] at this
  exact this
 have g3:∀k,M≤k→k<E→gt d k=gt l (x+(k - M)):=fun k hk pJ=>by
  have:=R3 (k - M) (by omega)
  rw [show x+(E - q)+(k - M)=k by omega] at this
  exact this
 have g4:∀k,E≤k→gt d k=gt l k:=fun k hk=>R4 k (.inr (by omega))
 refine⟨fun i j k1 k2 k3=>?_,fun i j k1 k2 k3=>?_,fun i j k1 k2 k3=>?_,fun i j k1 k2 k3=>?_,fun i j k1 k2 k3 k4=>?_⟩
 ·rw [g1 i (by omega),g1 j (by omega)]; exact S1 _ _ k1 k2 (by omega)
 ·rw [g2 i (by omega) (by omega),g2 j (by omega) (by omega)]; exact S2 _ _ (by omega) (by omega) (by omega)
 ·rw [g3 i (by omega) (by omega),g3 j (by omega) (by omega)]; exact S1 _ _ (by omega) (by omega) (by omega)
 ·rw [g4 i (by omega),g4 j (by omega)]; exact S2 _ _ (by omega) (by omega) (by omega)
 ·by_cases hi:i<x
  ·rw [g1 i hi]
   by_cases hj:j<E
   ·rw [g3 j k3 hj]; exact S1 _ _ k1 (by omega) (by omega)
   ·rw [g4 j (by omega)]
    have f1:=F1 (by omega) (by omega)
    have f2:=S1.le O k1 (show i≤x - 1 by omega) (by omega) (by omega)
    have f3:=S2.le O (show q≤E from h4) (show E≤j by omega) k4 hb
    exact O.tr _ (aN (by omega)) _ (aN (show E<l.length by omega)) _ (aN (by omega)) (O.tr _ (aN (by omega)) _ (aN (show x - 1<l.length by omega)) _ (aN (by omega)) f2 f1) f3
  ·rw [g2 i (by omega) k2]
   by_cases hj:j<E
   ·rw [g3 j k3 hj]
    have f1:=O.Lc _ (aN (show E - 1<l.length by omega)) _ (aN (show x<l.length by omega)) (F2 (by omega) (by omega))
    have f2:=S2.le O (show q≤q+(i - x) by omega) (show q+(i - x)≤E - 1 by omega) (by omega) hb
    have f3:=S1.le O h1 (show x≤x+(j - M) by omega) (by omega) (by omega)
    exact O.tr _ (aN (by omega)) _ (aN (show x<l.length by omega)) _ (aN (by omega)) (O.tr _ (aN (by omega)) _ (aN (show E - 1<l.length by omega)) _ (aN (by omega)) f2 f1) f3
   ·rw [g4 j (by omega)]; exact S2 _ _ (by omega) (by omega) k4
theorem Fo {l:List Int}{x i j:Nat}(h:i=0∨j=0):La l l x i j:=
 ⟨List.Perm.refl _,fun k hk=>by rw [show i=0 by omega,Nat.add_zero],fun k hk=>by rw [show j=0 by omega,Nat.add_zero],fun _ _=>rfl⟩
theorem J9 {l d:List Int}{x i j a b:Nat}(R:La l d x i j)(h1:a≤x)(h2:x+i+j≤b):Mv a b l d:=by
 obtain⟨R1,R2,R3,R4⟩:=R
 refine⟨R1,fun k hk=>R4 k (by omega),fun k k1 k2=>?_⟩
 by_cases g1:k<x∨x+i+j≤k
 ·exact⟨k,k1,k2,R4 k g1⟩
 ·by_cases g2:k<x+j
  ·have:=R2 (k - x) (by omega)
   rw [show x+(k - x)=k by omega] at this
   exact⟨_,by omega,by omega,this⟩
  ·have:=R3 (k - x - j) (by omega)
   rw [show x+j+(k - x - j)=k by omega] at this
   exact⟨_,by omega,by omega,this⟩
theorem oV (hm:2 ^ 41≤m):∀(f:Nat) (l:List Int) (a q b:Nat),b - a<f→a<q→q<b→b≤l.length→l.length<2 ^ 40→Cm cmp c l→
  ∃d,aB.f m f l (a:Int) (q:Int) (b:Int) cmp=some d∧Mv a b l d∧(Ord c l→Sg c l a q→Sg c l q b→Sg c d a b)
 | 0,l,a,q,b,hf,_,_,_,_,_=>absurd hf (by omega)
 | f+1,l,a,q,b,hf,h1,h2,h3,hs,C=>by
  have nF:(2:Nat) ^ 40=1099511627776:=by decide
  have rl:(2:Nat) ^ 41=2199023255552:=by decide
  have MD:(2:Nat) ^ 42=4398046511104:=by decide
  unfold aB.f
  unfold aB.b
  have e1:i64.wrap ((q:Int) - (a:Int))=((q - a:Nat):Int):=by rw [aC (by omega) (by omega)]; omega
  have e2:i64.wrap ((b:Int) - (q:Int))=((b - q:Nat):Int):=by rw [aC (by omega) (by omega)]; omega
  have hM:=yu (a:=a) (b:=b) (by omega)
  rw [e1,e2,hM]
  by_cases VL:q - a=1
  ·obtain⟨x,k1,k2,k3,k4,k5⟩:=An (m:=m) (a:=a) (by omega) hs C m q b (by omega) (by omega) h3
   obtain⟨d,y,g1,g2,g3⟩:=Fl (m:=m) (l:=l) (a:=a) (x:=x) (by omega) (by omega) hs m a l (by omega) (V7 _) (by omega) Mv.refl (fun t=>by rw [if_neg (by omega)]; split<;>simp_all)
   rw [if_pos (by simp; omega),k1,V3]
   dsimp only
   rw [g1]
   refine⟨d,rfl,g2.wide (V7 _) k3,fun O S1 S2 i j r1 r2 r3=>?_⟩
   have A1:∀t,a≤t→t+1<x→gt d t=gt l (t+1):=fun t w1 w2=>by rw [g3 t,if_pos ⟨w1,w2⟩]
   have A2:∀t,t+1=x→gt d t=gt l a:=fun t w1=>by rw [g3 t,if_neg (by omega),if_pos w1]
   have A3:∀t,x≤t→gt d t=gt l t:=fun t w1=>by rw [g3 t,if_neg (by omega),if_neg (by omega)]
   by_cases i1:i+1<x
   ·rw [A1 i r1 i1]
    by_cases j1:j+1<x
    ·rw [A1 j (by omega) j1]; exact S2 _ _ (by omega) (by omega) (by omega)
    ·have f1:=O.Lc _ (aN (show x - 1<l.length by omega)) _ (aN (show a<l.length by omega)) (k4 (by omega))
     have f2:=S2.le O (show q≤i+1 by omega) (show i+1≤x - 1 by omega) (by omega) h3
     by_cases j2:j+1=x
     ·rw [A2 j j2]
      exact O.tr _ (aN (by omega)) _ (aN (show x - 1<l.length by omega)) _ (aN (by omega)) f2 f1
     ·rw [A3 j (by omega)]; exact S2 _ _ (by omega) (by omega) (by omega)
   ·rw [A3 j (by omega)]
    by_cases i2:i+1=x
    ·rw [A2 i i2]
     have f1:=k5 (by omega)
     have f2:=S2.le O (show q≤x by omega) (show x≤j by omega) r3 h3
     exact O.tr _ (aN (by omega)) _ (aN (show x<l.length by omega)) _ (aN (by omega)) f1 f2
    ·rw [A3 i (by omega)]; exact S2 _ _ (by omega) r2 r3
  rw [if_neg (by simp; omega)]
  by_cases hb1:b - q=1
  ·obtain⟨x,k1,k2,k3,k4,k5⟩:=Ao (m:=m) (q:=q) (by omega) hs C m a q (by omega) (by omega) (by omega)
   obtain⟨d,y,g1,g2,g3⟩:=Fm (m:=m) (l:=l) (q:=q) (x:=x) (by omega) (by omega) hs m q l (by omega) (by omega) (V7 _) Mv.refl (fun t=>by rw [if_neg (by omega)]; split<;>simp_all)
   rw [if_pos (by simp; omega),k1,V3]
   dsimp only
   rw [g1]
   refine⟨d,rfl,g2.wide k2 (by omega),fun O S1 S2 i j r1 r2 r3=>?_⟩
   have A1:∀t,x<t→t≤q→gt d t=gt l (t - 1):=fun t w1 w2=>by rw [g3 t,if_pos ⟨w1,w2⟩]
   have A2:gt d x=gt l q:=by rw [g3 x,if_neg (by omega),if_pos rfl]
   have A3:∀t,t<x→gt d t=gt l t:=fun t w1=>by rw [g3 t,if_neg (by omega),if_neg (by omega)]
   by_cases i1:x<i
   ·rw [A1 i i1 (by omega),A1 j (by omega) (by omega)]
    exact S1 _ _ (by omega) (by omega) (by omega)
   ·by_cases i2:i=x
    ·subst i2
     rw [A2,A1 j (by omega) (by omega)]
     have f1:=O.Lc _ (aN (show q<l.length by omega)) _ (aN (show i<l.length by omega)) (k5 (by omega))
     have f2:=S1.le O r1 (show i≤j - 1 by omega) (by omega) (by omega)
     exact O.tr _ (aN (by omega)) _ (aN (show i<l.length by omega)) _ (aN (by omega)) f1 f2
    ·rw [A3 i (by omega)]
     by_cases j1:x<j
     ·rw [A1 j j1 (by omega)]
      exact S1.le O r1 (by omega) (by omega) (by omega)
     ·have f1:=k4 (by omega)
      have f2:=S1.le O r1 (show i≤x - 1 by omega) (by omega) (by omega)
      by_cases j2:j=x
      ·subst j2
       rw [A2]
       exact O.tr _ (aN (by omega)) _ (aN (show j - 1<l.length by omega)) _ (aN (by omega)) f2 f1
      ·rw [A3 j (by omega)]; exact S1 _ _ r1 r2 (by omega)
  rw [if_neg (by simp; omega)]
  refine J8 ?_
  intro z hz
  have Ka:∃s r:Nat,z=((s:Int),(r:Int))∧((q > (a+b) / 2∧s=(a+b) / 2+q - b∧r=(a+b) / 2)∨(q≤(a+b) / 2∧s=a∧r=q)):=by
   rcases hz with⟨hc,rfl⟩| ⟨hc,rfl⟩
   ·refine⟨(a+b) / 2+q - b,(a+b) / 2,?_,.inl ⟨by simp only [decide_eq_true_eq] at hc; omega,rfl,rfl⟩⟩
    simp only [Wc,and_true]
    simp only [decide_eq_true_eq] at hc
    rw [aC (x:=(((a+b) / 2:Nat):Int)+(q:Int)) (by omega) (by omega),aC (by omega) (by omega)]
    omega
   ·refine⟨a,q,rfl,.inr ⟨?_,rfl,rfl⟩⟩
    simp only [decide_eq_false_iff_not] at hc
    omega
  obtain⟨s,r,rfl,Ka⟩:=Ka
  clear hz
  dsimp only
  obtain⟨x,k1,k2,k3,k4,k5⟩:=Ap (m:=m) (a:=a) (b:=b) (q:=q) (by omega) hs C m s r (by omega) (by omega) (by omega) (by omega) (by omega)
  rw [k1,V3]
  dsimp only
  generalize VM:(a+b) / 2=M at *
  obtain⟨E,hE⟩:∃E,E=M+q - x:=⟨_,rfl⟩
  have eE:i64.wrap (i64.wrap ((M:Int)+(q:Int)) - (x:Int))=(E:Int):=by
   rw [aC (x:=(M:Int)+(q:Int)) (by omega) (by omega),aC (by omega) (by omega)]
   omega
  rw [eE]
  rw [←hE] at k4 k5
  have c1:a≤x:=by omega
  have c2:x≤M:=by omega
  have c3:x≤q:=by omega
  have c4:q≤E:=by omega
  have c5:E≤b:=by omega
  have c6:E+x=M+q:=by omega
  have c7:M≤E:=by omega
  have F1:a<x→E<b→0≤c (gt l E) (gt l (x - 1)):=fun _ _=>k4 (by omega)
  have F2:x<q→q<E→c (gt l (E - 1)) (gt l x)<0:=fun _ _=>k5 (by omega)
  refine Fk (fun d=>La l d x (q - x) (E - q)) (fun u1 u2=>?_) (fun u=>?_) ?_
  ·simp only [decide_eq_true_eq] at u1 u2
   exact E5 hm (by omega) (by omega) (by omega) hs
  ·simp only [decide_eq_true_eq] at u
   exact Fo (by omega)
  intro d5 R
  try dsimp only
  have M5:Mv a b l d5:=J9 R c1 (by omega)
  have l5:=M5.length
  refine Fk (fun d=>Mv a M d5 d∧(Ord c l→Sg c l a q→Sg c l q b→Sg c d a M)) (fun u1 u2=>?_) (fun u=>?_) ?_
  ·simp only [decide_eq_true_eq] at u1 u2
   obtain⟨d,g1,g2,g3⟩:=oV hm f d5 a x M (by omega) (by omega) (by omega) (by omega) (by omega) (C.perm M5.perm)
   refine⟨d,g1,g2,fun O S1 S2=>?_⟩
   obtain⟨v1,v2,v3,v4,v5⟩:=tz c1 c2 c3 c4 c5 c6 h3 R O F1 F2 S1 S2
   exact g3 (O.perm M5.perm) v1 v2
  ·simp only [decide_eq_true_eq] at u
   refine⟨Mv.refl,fun O S1 S2=>?_⟩
   obtain⟨v1,v2,v3,v4,v5⟩:=tz c1 c2 c3 c4 c5 c6 h3 R O F1 F2 S1 S2
   by_cases ua:a=x
   ·rw [ua]; exact v2
   ·rw [show M=x by omega]; exact v1
  rintro d6 ⟨M6,S6⟩
  try dsimp only
  have l6:=M6.length
  have PA:=M5.trans (M6.wide (V7 _) (by omega))
  have fin:∀d,Mv M b d6 d→(Ord c l→Sg c l a q→Sg c l q b→Sg c d M b)→Mv a b l d∧(Ord c l→Sg c l a q→Sg c l q b→Sg c d a b):=by
   intro d M7 S7
   refine⟨PA.trans (M7.wide (by omega) (V7 _)),fun O S1 S2 i j r1 r2 r3=>?_⟩
   obtain⟨v1,v2,v3,v4,v5⟩:=tz c1 c2 c3 c4 c5 c6 h3 R O F1 F2 S1 S2
   by_cases hj:j<M
   ·rw [M7.out i (by omega),M7.out j (by omega)]
    exact S6 O S1 S2 _ _ r1 r2 hj
   ·by_cases hi:M≤i
    ·exact S7 O S1 S2 _ _ hi r2 r3
    ·obtain⟨j',y1,y2,y3⟩:=M7.im j (by omega) r3
     obtain⟨i',w1,w2,w3⟩:=M6.im i r1 (by omega)
     rw [M7.out i (by omega),y3,M6.out j' (by omega),w3]
     exact v5 _ _ w1 w2 y1 y2
  refine Py (fun u1 u2=>?_) (fun u=>?_)
  ·simp only [decide_eq_true_eq] at u1 u2
   obtain⟨d,g1,g2,g3⟩:=oV hm f d6 M E b (by omega) (by omega) (by omega) (by omega) (by omega) (C.perm PA.perm)
   refine⟨d,g1,fin d g2 fun O S1 S2=>?_⟩
   obtain⟨v1,v2,v3,v4,v5⟩:=tz c1 c2 c3 c4 c5 c6 h3 R O F1 F2 S1 S2
   refine g3 (O.perm PA.perm) (fun i j y1 y2 y3=>?_) (fun i j y1 y2 y3=>?_)
   ·rw [M6.out i (by omega),M6.out j (by omega)]; exact v3 _ _ y1 y2 y3
   ·rw [M6.out i (by omega),M6.out j (by omega)]; exact v4 _ _ y1 y2 y3
  ·simp only [decide_eq_true_eq] at u
   refine fin d6 Mv.refl fun O S1 S2 i j y1 y2 y3=>?_
   obtain⟨v1,v2,v3,v4,v5⟩:=tz c1 c2 c3 c4 c5 c6 h3 R O F1 F2 S1 S2
   rw [M6.out i (by omega),M6.out j (by omega)]
   by_cases ue:M=E
   ·exact v4 _ _ (by omega) y2 y3
   ·exact v3 _ _ y1 y2 (by omega)
end
end Go.Proofs.YtmekcfdllhphlaaDoor
namespace Go.Proofs.YtmekcfdllhphlaaDoor
open Go Go.R
open Go.IntKind (i64 u64 u8 u32)
def nI:cb:=gJ [0,1,2,6,7,8,9,13,30,35,54] [] [2032,1984,1856,2000,1984,1984,2032,1776,1984,1472,2000,1984,1984,1952,928,2032,2032] [] []
def bK.l0 (m:Nat)(n0:Int)(aO:Int→Int→Option (Int)):Nat→(List Int)→Int→Int→Option ((List Int) × Int × Int)
 | 0,_,_,_=>none
 | k+1,bk,a0,b0=>if (decide (b0≤n0))=true then ((aP.f m bk a0 b0 aO).bind fun x0=>bK.l0 m n0 aO k x0 b0 (i64.wrap (b0+(20:Int)))) else (some ((bk,a0,b0)))
def bK.l2 (m:Nat)(n0:Int)(aO:Int→Int→Option (Int))(a8:Int):Nat→(List Int)→Int→Int→Option ((List Int) × Int × Int)
 | 0,_,_,_=>none
 | k+1,jk,a2,b2=>if (decide (b2≤n0))=true then ((aB.f m m jk a2 (i64.wrap (a2+a8)) b2 aO).bind fun x2=>bK.l2 m n0 aO a8 k x2 b2 (i64.wrap (b2+i64.wrap ((2:Int)*a8)))) else (some ((jk,a2,b2)))
def bK.l1 (m:Nat)(n0:Int)(aO:Int→Int→Option (Int)):Nat→(List Int)→Int→Option ((List Int) × Int)
 | 0,_,_=>none
 | k+1,dk,a8=>if (decide (a8<n0))=true then ((bK.l2 m n0 aO a8 m dk (0:Int) (i64.wrap ((2:Int)*a8))).bind fun b9=>match b9 with | (kD,a3,b3)=>if (decide ((i64.wrap (a3+a8))<n0))=true then ((aB.f m m kD a3 (i64.wrap (a3+a8)) n0 aO).bind fun x3=>bK.l1 m n0 aO k x3 (i64.wrap (a8*(2:Int)))) else (bK.l1 m n0 aO k kD (i64.wrap (a8*(2:Int))))) else (some ((dk,a8)))
def bK.f (m:Nat)(ao:List Int)(n0:Int)(aO:Int→Int→Option (Int)):Option ((List Int)):=(bK.l0 m n0 aO m ao (0:Int) (20:Int)).bind fun bq=>match bq with | (cU,a1,b1)=>(aP.f m cU a1 n0 aO).bind fun x1=>(bK.l1 m n0 aO m x1 (20:Int)).bind fun je=>match je with | (oT,Aq)=>some oT
def bK.fin (L:Mem)(aA:Nat)(ao:List Int)(n0:Int)(aO:Int→Int→Option (Int))(r:(List Int))(s:St):Prop:=aI Tryd.prog (s.open nI) Tryd.f110.results.toList=some (.tup [])∧Has s.h ((aA,.sl ao.length 1 (aa.l r))::L)
def ME (cf:CallF)(m:Nat):Prop:=∀(ao:List Int) (n0:Int) (aO:Int→Int→Option (Int)) (r:(List Int)),bK.f m ao n0 aO=some r→∀h L (cm:Nat) (aA:Nat),Has h ((aA,.sl cm 1 (aa.l ao))::L)→∀(kE:FuncId) (db:List AV),ay (.fn kE db) = .fn kE db→(∀h K,Has h (K++L)→∀(a0:Int) (a1:Int) r,aO a0 a1=some r→cf kE ([.int .i64 a0,.int .i64 a1]++db) h=some (.int .i64 r,h))→∀xs,xs.map ay=[.rs aA 0 cm 1,.int .i64 n0,.fn kE db]→∃h',cf 110 xs h=some (.tup [],h')∧Has h' ((aA,.sl cm 1 (aa.l r))::L)
section
variable {cf:CallF}{m:Nat}
theorem bK.bI (L:Mem)(aA:Nat)(kE:FuncId)(db:List AV)(ao:List Int)(n0:Int)(aO:Int→Int→Option (Int))  (mG:ay (.fn kE db) = .fn kE db)(rv:∀h K,Has h (K++L)→∀(a0:Int) (a1:Int) r,aO a0 a1=some r→cf kE ([.int .i64 a0,.int .i64 a1]++db) h=some (.int .i64 r,h))(BH:J5 cf m):bE Tryd.prog cf nI m (sub [1,1,0,0,0] (codeOf Tryd.f110)) (fun k (σ:(List Int) × Int × Int)=>bK.l0 m n0 aO k σ.1 σ.2.1 σ.2.2) (fun σ s=>match σ with | (bk,a0,b0)=>∃h0,s=⟨.rs aA 0 ao.length 1 :: .int .i64 n0 :: .fn kE db :: .int .i64 (20:Int) :: .int .i64 a0 :: .int .i64 b0::sY [],[],h0⟩∧Has h0 ((aA,.sl ao.length 1 (aa.l bk))::L)) (fun out e s=>(e = .exit 0∧∃bk a0 b0,(bk,a0,b0)=out∧∃oR nE h0,s=⟨.rs aA 0 ao.length 1 :: .int .i64 n0 :: .fn kE db :: .int .i64 (20:Int) :: .int .i64 a0::oR :: .any::nE::ke [],[],h0⟩∧Has h0 ((aA,.sl ao.length 1 (aa.l bk))::L))):=by
 refine gP (fun _=>rfl) ?_
 rintro k ⟨bk,a0,b0⟩ s out ⟨h0,rfl,o0⟩ H
 have H:bK.l0 m n0 aO (k+1) bk a0 b0=some out:=H
 refine qq <| qq <| q0 <| qc H (fun c0 H=>?_) (fun c0 H=>?_)
 ·refine qk <| qb 1 <| qq ?_
  obtain⟨x0,e0,H⟩:=aH H
  obtain⟨h1,e1,o1⟩:=BH _ _ _ _ _ e0 h0 _ _ _ (o0) kE db mG (fun h' K' o'=>rv h' (K'++[]) (by simpa only [Wg,Wt,Wz] using o')) [.rs aA 0 ao.length 1,.int .i64 a0,.int .i64 b0,.fn kE db] (an (rfl) (an (aQ (bD)) (an (aQ (bD)) (an (mG) (bm)))))
  exact qr [.a 4 e1] <| qq <| q0 <| q0 <| ⟨(x0,b0,i64.wrap (b0+(20:Int))),⟨h1,by kernel_rfl,o1⟩,H⟩
 ·exact qx 0 <| ⟨rfl,bk,a0,b0,oi H,.int .i64 b0,.bool (decide (b0≤n0)),h0,by kernel_rfl,o0⟩
theorem bK.oU (L:Mem)(aA:Nat)(kE:FuncId)(db:List AV)(ao:List Int)(n0:Int)(aO:Int→Int→Option (Int))(a8:Int)  (mG:ay (.fn kE db) = .fn kE db)(rv:∀h K,Has h (K++L)→∀(a0:Int) (a1:Int) r,aO a0 a1=some r→cf kE ([.int .i64 a0,.int .i64 a1]++db) h=some (.int .i64 r,h))(iB:uB cf m m):bE Tryd.prog cf nI m (sub [1,1,1,1,0,0,1,0,1,0,0,0] (codeOf Tryd.f110)) (fun k (σ:(List Int) × Int × Int)=>bK.l2 m n0 aO a8 k σ.1 σ.2.1 σ.2.2) (fun σ s=>match σ with | (jk,a2,b2)=>∃h5,s=⟨.rs aA 0 ao.length 1 :: .int .i64 n0 :: .fn kE db :: .int .i64 a8 :: .int .i64 a2 :: .int .i64 b2::sY [],[],h5⟩∧Has h5 ((aA,.sl ao.length 1 (aa.l jk))::L)) (fun out e s=>(e = .exit 4∧∃jk a2 b2,(jk,a2,b2)=out∧∃oR PB h5,s=⟨.rs aA 0 ao.length 1 :: .int .i64 n0 :: .fn kE db :: .int .i64 a8 :: .int .i64 a2::oR::ke [PB,.any],[],h5⟩∧Has h5 ((aA,.sl ao.length 1 (aa.l jk))::L))):=by
 refine gP (fun _=>rfl) ?_
 rintro k ⟨jk,a2,b2⟩ s out ⟨h5,rfl,o5⟩ H
 have H:bK.l2 m n0 aO a8 (k+1) jk a2 b2=some out:=H
 refine qq <| qq <| q0 <| qc H (fun c2 H=>?_) (fun c2 H=>?_)
 ·refine qk <| qb 5 <| qq ?_
  obtain⟨x2,e5,H⟩:=aH H
  obtain⟨h6,e6,o6⟩:=iB _ _ _ _ _ _ e5 h5 _ _ _ (o5) kE db mG (fun h' K' o'=>rv h' (K'++[]) (by simpa only [Wg,Wt,Wz] using o')) [.rs aA 0 ao.length 1,.int .i64 a2,.int .i64 (i64.wrap (a2+a8)),.int .i64 b2,.fn kE db] (an (rfl) (an (aQ (bD)) (an (aQ (bD)) (an (aQ (bD)) (an (mG) (bm))))))
  exact qr [.a 7 e6] <| qq <| q0 <| q0 <| ⟨(x2,b2,i64.wrap (b2+i64.wrap ((2:Int)*a8))),⟨h6,by kernel_rfl,o6⟩,H⟩
 ·exact qx 4 <| ⟨rfl,jk,a2,b2,oi H,.int .i64 b2,.bool (decide (b2≤n0)),h5,by kernel_rfl,o5⟩
theorem bK.eQ (L:Mem)(aA:Nat)(kE:FuncId)(db:List AV)(ao:List Int)(n0:Int)(aO:Int→Int→Option (Int))  (mG:ay (.fn kE db) = .fn kE db)(rv:∀h K,Has h (K++L)→∀(a0:Int) (a1:Int) r,aO a0 a1=some r→cf kE ([.int .i64 a0,.int .i64 a1]++db) h=some (.int .i64 r,h))(iB:uB cf m m):bE Tryd.prog cf nI m (sub [1,1,1,1,0,0] (codeOf Tryd.f110)) (fun k (σ:(List Int) × Int)=>bK.l1 m n0 aO k σ.1 σ.2) (fun σ s=>match σ with | (dk,a8)=>∃h4,s=⟨.rs aA 0 ao.length 1 :: .int .i64 n0 :: .fn kE db :: .int .i64 a8::C2 [],[],h4⟩∧Has h4 ((aA,.sl ao.length 1 (aa.l dk))::L)) (fun out e s=>(e = .exit 2∧∃dk a8,(dk,a8)=out∧∃kC uy C8 Ar J3 h4,s=⟨kC::uy::C8::Ar::qQ [J3,.any,.any],[],h4⟩∧Has h4 ((aA,.sl ao.length 1 (aa.l dk))::L))):=by
 refine gP (fun _=>rfl) ?_
 rintro k ⟨dk,a8⟩ s out ⟨h4,rfl,o4⟩ H
 have H:bK.l1 m n0 aO (k+1) dk a8=some out:=H
 refine qq <| qq <| q0 <| qc H (fun c1 H=>?_) (fun c1 H=>?_)
 ·refine qk <| qb 3 <| qq <| q0 <| qq <| qb 4 ?_
  obtain⟨b9,e7,H⟩:=aH H
  refine ql (bK.oU L aA kE db ao n0 aO a8  mG rv iB (dk,(0:Int),i64.wrap ((2:Int)*a8)) _ _ ⟨h4,by kernel_rfl,o4⟩ e7) ?_
  rintro e s ⟨rfl,kD,a3,b3,rfl,g2,g3,h7,rfl,o7⟩
  try dsimp only at H
  refine qq <| qq <| q0 <| qq <| q0 <| qc H (fun c3 H=>?_) (fun c3 H=>?_)
  ·obtain⟨x3,e8,H⟩:=aH H
   obtain⟨h8,e9,o8⟩:=iB _ _ _ _ _ _ e8 h7 _ _ _ (o7) kE db mG (fun h' K' o'=>rv h' (K'++[]) (by simpa only [Wg,Wt,Wz] using o')) [.rs aA 0 ao.length 1,.int .i64 a3,.int .i64 (i64.wrap (a3+a8)),.int .i64 n0,.fn kE db] (an (rfl) (an (aQ (bD)) (an (aQ (bD)) (an (aQ (bD)) (an (mG) (bm))))))
   exact qr [.a 5 e9] <| q0 <| ⟨(x3,i64.wrap (a8*(2:Int))),⟨h8,by kernel_rfl,o8⟩,H⟩
  ·exact qk <| q0 <| ⟨(kD,i64.wrap (a8*(2:Int))),⟨h7,by kernel_rfl,o7⟩,H⟩
 ·exact qx 2 <| ⟨rfl,dk,a8,oi H,.rs aA 0 ao.length 1,.int .i64 n0,.fn kE db,.int .i64 a8,.bool (decide (a8<n0)),h4,by kernel_rfl,o4⟩
theorem wT {aV:FuncId→cb}(ha:aV 110=nI)(BH:J5 cf m)(iB:uB cf m m)(ao:List Int)(n0:Int)(aO:Int→Int→Option (Int))(h:AHeap)(L:Mem)(aA:Nat)(kE:FuncId)(db:List AV)  (mG:ay (.fn kE db) = .fn kE db)(rv:∀h K,Has h (K++L)→∀(a0:Int) (a1:Int) r,aO a0 a1=some r→cf kE ([.int .i64 a0,.int .i64 a1]++db) h=some (.int .i64 r,h))(o:Has h ((aA,.sl ao.length 1 (aa.l ao))::L)){out:(List Int)}(H:bK.f m ao n0 aO=some out) :
  ∃r h',be Tryd.prog aV cf m 110 [.rs aA 0 ao.length 1,.int .i64 n0,.fn kE db] h=some (r,h')∧r = .tup []∧Has h' ((aA,.sl ao.length 1 (aa.l out))::L):=by
 refine aq (fn:=Tryd.f110) ha Tryd.func110 (by kernel_rfl) (by kernel_rfl) ?_
 refine aG (Q:=fun s=>bK.fin L aA ao n0 aO out s) (fun _ _ ⟨h1,h2,h3⟩=>⟨h1,_,h2,rfl,h3⟩) ?_
 have H:_=some out:=H
 unfold bK.f at H
 show de _ cf nI m _ ⟨.rs aA 0 ao.length 1 :: .int .i64 n0 :: .fn kE db::ri [],[],h⟩ _
 refine q1 <| qq <| q0 <| qq <| qb 0 ?_
 obtain⟨bq,e2,H⟩:=aH H
 refine ql (bK.bI L aA kE db ao n0 aO  mG rv BH (ao,(0:Int),(20:Int)) _ _ ⟨h,by kernel_rfl,o⟩ e2) ?_
 rintro e s ⟨rfl,cU,a1,b1,rfl,g0,g1,h2,rfl,o2⟩
 try dsimp only at H
 refine qq ?_
 obtain⟨x1,e3,H⟩:=aH H
 obtain⟨h3,e4,o3⟩:=BH _ _ _ _ _ e3 h2 _ _ _ (o2) kE db mG (fun h' K' o'=>rv h' (K'++[]) (by simpa only [Wg,Wt,Wz] using o')) [.rs aA 0 ao.length 1,.int .i64 a1,.int .i64 n0,.fn kE db] (an (rfl) (an (aQ (bD)) (an (aQ (bD)) (an (mG) (bm)))))
 refine qr [.a 4 e4] <| qb 2 ?_
 obtain⟨je,nH,H⟩:=aH H
 refine ql (bK.eQ L aA kE db ao n0 aO  mG rv iB (x1,(20:Int)) _ _ ⟨h3,by kernel_rfl,o3⟩ nH) ?_
 rintro e s ⟨rfl,oT,Aq,rfl,g4,g5,g6,g7,g8,h9,rfl,o9⟩
 try dsimp only at H
 obtain rfl:=oi H
 exact⟨.inr rfl,⟨by kernel_rfl,he o9⟩⟩
end
end Go.Proofs.YtmekcfdllhphlaaDoor
namespace Go.Proofs.YtmekcfdllhphlaaDoor
open Go Go.R
open Go.IntKind (i64 u64 u8 u32)
def BI:cb:=gJ [0,1] [] [3] [] []
def eR.f (m:Nat)(x0:List Int)(aO:Int→Int→Option (Int)):Option ((List Int)):=(bK.f m x0 (x0.length:Int) aO).bind fun x1=>some x1
def eR.fin (L:Mem)(aA:Nat)(x0:List Int)(aO:Int→Int→Option (Int))(r:(List Int))(s:St):Prop:=aI Tryd.prog (s.open BI) Tryd.f84.results.toList=some (.tup [])∧Has s.h ((aA,.sl x0.length 1 (aa.l r))::L)
def RV (cf:CallF)(m:Nat):Prop:=∀(x0:List Int) (aO:Int→Int→Option (Int)) (r:(List Int)),eR.f m x0 aO=some r→∀h L (Fp:Nat) (aA:Nat),Has h ((aA,.sl Fp 1 (aa.l x0))::L)→∀(du:FuncId) (aL:List AV),ay (.fn du aL) = .fn du aL→(∀h K,Has h (K++L)→∀(a0:Int) (a1:Int) r,aO a0 a1=some r→cf du ([.int .i64 a0,.int .i64 a1]++aL) h=some (.int .i64 r,h))→∀xs,xs.map ay=[.rs aA 0 Fp 1,.fn du aL]→∃h',cf 84 xs h=some (.tup [],h')∧Has h' ((aA,.sl Fp 1 (aa.l r))::L)
section
variable {cf:CallF}{m:Nat}
theorem oW {aV:FuncId→cb}(ha:aV 84=BI)(MF:ME cf m)(x0:List Int)(aO:Int→Int→Option (Int))(h:AHeap)(L:Mem)(aA:Nat)(du:FuncId)(aL:List AV)  (gF:ay (.fn du aL) = .fn du aL)(gK:∀h K,Has h (K++L)→∀(a0:Int) (a1:Int) r,aO a0 a1=some r→cf du ([.int .i64 a0,.int .i64 a1]++aL) h=some (.int .i64 r,h))(o:Has h ((aA,.sl x0.length 1 (aa.l x0))::L)){out:(List Int)}(H:eR.f m x0 aO=some out) :
  ∃r h',be Tryd.prog aV cf m 84 [.rs aA 0 x0.length 1,.fn du aL] h=some (r,h')∧r = .tup []∧Has h' ((aA,.sl x0.length 1 (aa.l out))::L):=by
 refine aq (fn:=Tryd.f84) ha Tryd.func84 (by kernel_rfl) (by kernel_rfl) ?_
 refine aG (Q:=fun s=>eR.fin L aA x0 aO out s) (fun _ _ ⟨h1,h2,h3⟩=>⟨h1,_,h2,rfl,h3⟩) ?_
 have H:_=some out:=H
 unfold eR.f at H
 show de _ cf BI m _ ⟨[.rs aA 0 x0.length 1,.fn du aL],[],h⟩ _
 obtain⟨x1,e0,H⟩:=aH H
 obtain⟨h0,e1,o0⟩:=MF _ _ _ _ e0 h _ _ _ (o) du aL gF (fun h' K' o'=>gK h' (K'++[]) (by simpa only [Wg,Wt,Wz] using o')) [.rs aA 0 x0.length 1,.int .i64 (x0.length:Int),.fn du aL] (an (rfl) (an (aQ (bD)) (an (gF) (bm))))
 obtain rfl:=oi H
 exact qr [.a 4 e1] <| ⟨.inr rfl,⟨by kernel_rfl,he o0⟩⟩
end
end Go.Proofs.YtmekcfdllhphlaaDoor
namespace Go.Proofs.YtmekcfdllhphlaaDoor
open Go Go.R
open Go.IntKind (i64 u64 u8 u32)
section
variable {m:Nat}{cmp:Int→Int→Option Int}{c:Int→Int→Int}
def MG (c:Int→Int→Int)(d:List Int)(bs n:Nat):Prop:=∀k i j,k*bs≤i→i<j→j<k*bs+bs→j<n→0≤c (gt d j) (gt d i)
theorem Fq (hm:2 ^ 41≤m){n:Nat}{l:List Int}(hn:n=l.length)(hs:l.length<2 ^ 40)(C:Cm cmp c l):∀(f t:Nat) (d:List Int),n - 20*t<f→20*t≤n→Mv 0 (20*t) l d→
  (Ord c l→∀k,k<t→Sg c d (20*k) (20*k+20))→
  ∃d' t' y,bK.l0 m (n:Int) cmp f d ((20*t:Nat):Int) ((20*t+20:Nat):Int)=some (d',((20*t':Nat):Int),y)∧20*t'≤n∧n<20*t'+20∧Mv 0 (20*t') l d'∧(Ord c l→∀k,k<t'→Sg c d' (20*k) (20*k+20))
 | 0,t,d,hf,_,_,_=>absurd hf (by omega)
 | f+1,t,d,hf,h1,M,S=>by
  have nF:(2:Nat) ^ 40=1099511627776:=by decide
  have rl:(2:Nat) ^ 41=2199023255552:=by decide
  have hl:=M.length
  unfold bK.l0
  by_cases h:20*t+20≤n
  ·obtain⟨d1,e1,M1,S1⟩:=yC (a:=20*t) (b:=20*t+20) (cmp:=cmp) (c:=c) hm (l:=d) (by omega) (by omega) (by omega) (C.perm M.perm)
   rw [if_pos (by simp only [decide_eq_true_eq]; omega),e1,V3,aC (x:=((20*t+20:Nat):Int)+20) (by omega) (by omega)]
   have:=Fq hm hn hs C f (t+1) d1 (by omega) (by omega) ((M.wide (V7 _) (by omega)).trans (M1.wide (by omega) (by omega))) (fun O k hk i j k1 k2 k3=>by
    by_cases Hg:k=t
    ·subst Hg; exact S1 (O.perm M.perm) _ _ k1 k2 k3
    ·rw [M1.out i (by omega),M1.out j (by omega)]; exact S O k (by omega) _ _ k1 k2 k3)
   rw [show ((20*(t+1):Nat):Int)=((20*t+20:Nat):Int) by omega,show ((20*(t+1)+20:Nat):Int)=((20*t+20:Nat):Int)+20 by omega] at this
   exact this
  ·exact⟨d,t,_,by rw [if_neg (by simp only [decide_eq_true_eq]; omega)],h1,by omega,M,S⟩
theorem Fs (hm:2 ^ 41≤m){n bs:Nat}{l:List Int}(hn:n=l.length)(hs:l.length<2 ^ 40)(hb:0<bs)(O7:bs<n)(C:Cm cmp c l)(B:Ord c l→MG c l bs n):∀(f t:Nat) (d:List Int),n - t*(2*bs)<f→t*(2*bs)≤n→Mv 0 (t*(2*bs)) l d→
  (Ord c l→∀k,k<t→Sg c d (k*(2*bs)) (k*(2*bs)+2*bs))→
  ∃d' t' y,bK.l2 m (n:Int) cmp (bs:Int) f d ((t*(2*bs):Nat):Int) ((t*(2*bs)+2*bs:Nat):Int)=some (d',((t'*(2*bs):Nat):Int),y)∧t'*(2*bs)≤n∧n<t'*(2*bs)+2*bs∧Mv 0 (t'*(2*bs)) l d'∧(Ord c l→∀k,k<t'→Sg c d' (k*(2*bs)) (k*(2*bs)+2*bs))
 | 0,t,d,hf,_,_,_=>absurd hf (by omega)
 | f+1,t,d,hf,h1,M,S=>by
  have nF:(2:Nat) ^ 40=1099511627776:=by decide
  have rl:(2:Nat) ^ 41=2199023255552:=by decide
  have hl:=M.length
  unfold bK.l2
  have ht:(t+1)*(2*bs)=t*(2*bs)+2*bs:=Nat.succ_mul _ _
  have q1:(2*t)*bs=t*(2*bs):=by rw [Nat.mul_assoc,Nat.mul_left_comm]
  have q2:(2*t+1)*bs=t*(2*bs)+bs:=by rw [Nat.succ_mul,q1]
  by_cases h:t*(2*bs)+2*bs≤n
  ·have S0:Ord c l→Sg c d (t*(2*bs)) (t*(2*bs)+bs):=fun O i j k1 k2 k3=>by
    rw [M.out i (by omega),M.out j (by omega)]; exact B O (2*t) i j (by omega) k2 (by omega) (by omega)
   have Uk:Ord c l→Sg c d (t*(2*bs)+bs) (t*(2*bs)+2*bs):=fun O i j k1 k2 k3=>by
    rw [M.out i (by omega),M.out j (by omega)]; exact B O (2*t+1) i j (by omega) k2 (by omega) (by omega)
   have hk:∀k,k<t→k*(2*bs)+2*bs≤t*(2*bs):=fun k hk=>by
    rw [←Nat.succ_mul]; exact WX _ hk
   generalize hA:t*(2*bs)=A at *
   obtain⟨d1,e1,M1,S1⟩:=oV (cmp:=cmp) (c:=c) hm m d A (A+bs) (A+2*bs) (by omega) (by omega) (by omega) (by omega) (by omega) (C.perm M.perm)
   have e0:i64.wrap ((A:Int)+(bs:Int))=((A+bs:Nat):Int):=by rw [aC (by omega) (by omega)]; omega
   have e2:i64.wrap ((2:Int)*(bs:Int))=((2*bs:Nat):Int):=by rw [aC (by omega) (by omega)]; omega
   have e3:i64.wrap (((A+2*bs:Nat):Int)+((2*bs:Nat):Int))=((A+2*bs+2*bs:Nat):Int):=by rw [aC (by omega) (by omega)]; omega
   rw [if_pos (by simp only [decide_eq_true_eq]; omega),e0,e1,V3,e2,e3]
   have:=Fs hm hn hs hb O7 C B f (t+1) d1 (by omega) (by omega) (by rw [ht]; exact (M.wide (V7 _) (by omega)).trans (M1.wide (by omega) (by omega))) (fun O k pJ i j k1 k2 k3=>by
    by_cases Hg:k=t
    ·subst Hg; rw [hA] at k1 k3; exact S1 (O.perm M.perm) (S0 O) (Uk O) _ _ k1 k2 k3
    ·have:=hk k (by omega)
     rw [M1.out i (by omega),M1.out j (by omega)]; exact S O k (by omega) _ _ k1 k2 k3)
   rw [ht] at this
   exact this
  ·exact⟨d,t,_,by rw [if_neg (by simp only [decide_eq_true_eq]; omega)],h1,by omega,M,S⟩
theorem As (hm:2 ^ 41≤m){n:Nat}:∀(f bs:Nat) (l:List Int),n=l.length→l.length<2 ^ 40→Cm cmp c l→n - bs<f→0<bs→bs<2 ^ 42→(Ord c l→MG c l bs n)→
  ∃d y,bK.l1 m (n:Int) cmp f l (bs:Int)=some (d,y)∧d.Perm l∧(Ord c l→Sg c d 0 n)
 | 0,bs,l,_,_,_,hf,_,_,_=>absurd hf (by omega)
 | f+1,bs,l,hn,hs,C,hf,hb,hb2,B=>by
  have nF:(2:Nat) ^ 40=1099511627776:=by decide
  have rl:(2:Nat) ^ 41=2199023255552:=by decide
  have MD:(2:Nat) ^ 42=4398046511104:=by decide
  unfold bK.l1
  by_cases h:bs<n
  ·have e2:i64.wrap ((2:Int)*(bs:Int))=((2*bs:Nat):Int):=by rw [aC (by omega) (by omega)]; omega
   have e3:i64.wrap ((bs:Int)*(2:Int))=((2*bs:Nat):Int):=by rw [aC (by omega) (by omega)]; omega
   obtain⟨d1,t,y,k1,k2,k3,M1,S1⟩:=Fs (cmp:=cmp) (c:=c) hm hn hs hb h C B m 0 l (by omega) (by omega) Mv.refl (fun O k hk=>absurd hk (by omega))
   have l1:=M1.length
   simp only [Nat.zero_mul,Wr] at k1
   have k1:bK.l2 m (n:Int) cmp (bs:Int) m l (0:Int) ((2*bs:Nat):Int)=_:=k1
   rw [if_pos (by simp only [decide_eq_true_eq]; omega),e2,k1,V3]
   dsimp only
   rw [e3]
   have q1:(2*t)*bs=t*(2*bs):=by rw [Nat.mul_assoc,Nat.mul_left_comm]
   have q2:(2*t+1)*bs=t*(2*bs)+bs:=by rw [Nat.succ_mul,q1]
   have hk:∀k,k<t→k*(2*bs)+2*bs≤t*(2*bs):=fun k hk=>by
    rw [←Nat.succ_mul]; exact WX _ hk
   have pJ:∀k,t<k→t*(2*bs)+2*bs≤k*(2*bs):=fun k hk=>by
    rw [←Nat.succ_mul]; exact WX _ hk
   have e0:i64.wrap (((t*(2*bs):Nat):Int)+(bs:Int))=((t*(2*bs)+bs:Nat):Int):=by rw [aC (by omega) (by omega)]; omega
   rw [e0]
   by_cases h2:t*(2*bs)+bs<n
   ·obtain⟨d2,e4,M2,S2⟩:=oV (cmp:=cmp) (c:=c) hm m d1 (t*(2*bs)) (t*(2*bs)+bs) n (by omega) (by omega) (by omega) (by omega) (by omega) (C.perm M1.perm)
    rw [if_pos (by simp only [decide_eq_true_eq]; omega),e4,V3]
    have P2:=M2.perm.trans M1.perm
    obtain⟨d,y,g1,g2,g3⟩:=As (n:=n) hm f (2*bs) d2 (by have:=P2.length_eq; omega) (by have:=P2.length_eq; omega) (C.perm P2) (by omega) (by omega) (by omega) (fun O k i j w1 w2 w3 w4=>by
     have O:=O.perm P2.symm
     by_cases u1:k<t
     ·have:=hk k u1
      rw [M2.out i (by omega),M2.out j (by omega)]; exact S1 O k u1 _ _ w1 w2 w3
     ·by_cases u2:k=t
      ·subst u2
       refine S2 (O.perm M1.perm) (fun i j x1 x2 x3=>?_) (fun i j x1 x2 x3=>?_) _ _ w1 w2 w4
       ·rw [M1.out i (by omega),M1.out j (by omega)]; exact B O (2*k) i j (by omega) x2 (by omega) (by omega)
       ·rw [M1.out i (by omega),M1.out j (by omega)]; exact B O (2*k+1) i j (by omega) x2 (by omega) (by omega)
      ·have:=pJ k (by omega); omega)
    exact⟨d,y,g1,g2.trans P2,fun O=>g3 (O.perm P2)⟩
   ·rw [if_neg (by simp only [decide_eq_true_eq]; omega)]
    have P2:=M1.perm
    obtain⟨d,y,g1,g2,g3⟩:=As (n:=n) hm f (2*bs) d1 (by have:=P2.length_eq; omega) (by have:=P2.length_eq; omega) (C.perm P2) (by omega) (by omega) (by omega) (fun O k i j w1 w2 w3 w4=>by
     have O:=O.perm P2.symm
     by_cases u1:k<t
     ·exact S1 O k u1 _ _ w1 w2 w3
     ·by_cases u2:k=t
      ·subst u2
       rw [M1.out i (by omega),M1.out j (by omega)]; exact B O (2*k) i j (by omega) w2 (by omega) (by omega)
      ·have:=pJ k (by omega); omega)
    exact⟨d,y,g1,g2.trans P2,fun O=>g3 (O.perm P2)⟩
  ·refine⟨l,bs,by rw [if_neg (by simp only [decide_eq_true_eq]; omega)],List.Perm.refl _,fun O i j w1 w2 w3=>B O 0 i j (by omega) w2 (by omega) w3⟩
theorem Dk (hm:2 ^ 41≤m){l:List Int}(hs:l.length<2 ^ 40)(C:Cm cmp c l):∃d,eR.f m l cmp=some d∧d.Perm l∧(Ord c l→Sg c d 0 l.length):=by
 have nF:(2:Nat) ^ 40=1099511627776:=by decide
 have rl:(2:Nat) ^ 41=2199023255552:=by decide
 have MD:(2:Nat) ^ 42=4398046511104:=by decide
 unfold eR.f bK.f
 obtain⟨d1,t,y,k1,k2,k3,M1,S1⟩:=Fq (cmp:=cmp) (c:=c) hm rfl hs C m 0 l (by omega) (by omega) Mv.refl (fun O k hk=>absurd hk (by omega))
 have k1:bK.l0 m (l.length:Int) cmp m l (0:Int) (20:Int)=_:=k1
 have l1:=M1.length
 rw [k1,V3]
 dsimp only
 obtain⟨d2,e2,M2,S2⟩:=yC (a:=20*t) (b:=l.length) (cmp:=cmp) (c:=c) hm (l:=d1) (by omega) (by omega) (by omega) (C.perm M1.perm)
 rw [e2,V3]
 have P2:=M2.perm.trans M1.perm
 obtain⟨d,y,g1,g2,g3⟩:=As (cmp:=cmp) (c:=c) (n:=l.length) hm m 20 d2 P2.length_eq.symm (by rw [P2.length_eq]; exact hs) (C.perm P2) (by omega) (by omega) (by omega) (fun O k i j w1 w2 w3 w4=>by
  have O:=O.perm P2.symm
  by_cases u1:k<t
  ·rw [M2.out i (by omega),M2.out j (by omega)]; exact S1 O k u1 _ _ (by omega) w2 (by omega)
  ·exact S2 (O.perm M1.perm) _ _ (by omega) w2 (by omega))
 have g1:bK.l1 m (l.length:Int) cmp m d2 (20:Int)=_:=g1
 rw [g1]
 exact⟨d,rfl,g2.trans P2,fun O=>g3 (O.perm P2)⟩
end
end Go.Proofs.YtmekcfdllhphlaaDoor
namespace Go.Proofs.YtmekcfdllhphlaaDoor
open Go Go.R
open Go.IntKind (i64 u64 u8 u32)
def BJ:cb:=gJ [0,1,2,3] [2] [9,7] [] []
def fG.f (m:Nat)(n0:ab)(x0:aj):Option (Bool):=(ic.f m n0 (x0.nodes.length:Int)).bind fun x1=>some (!x1)
def fG.fin (h:AHeap)(r:Bool)(s:St):Prop:=aI Tryd.prog (s.open BJ) Tryd.f61.results.toList=some (.bool r)∧s.h=h
def RW (cf:CallF)(m:Nat):Prop:=∀(n0:ab) (x0:aj) (r:Bool),fG.f m n0 x0=some r→∀h L (ez bO:Nat),Has h L→L[ez]? = some (bO,.ob [af.fz x0.nodes,.int .i64 x0.root])→cf 61 [.agg [.int .i64 n0.kind,.int .i64 n0.int,.str n0.label,aa.fz n0.args],.ptr bO 0] h=some (.bool r,h)
section
variable {cf:CallF}{m:Nat}
theorem oX {aV:FuncId→cb}(ha:aV 61=BJ)(PC:RN cf m)(n0:ab)(x0:aj)(h:AHeap)(L:Mem)  {ez bO:Nat}(fO:L[ez]? = some (bO,.ob [af.fz x0.nodes,.int .i64 x0.root]))(o:Has h (L)){out:Bool}(H:fG.f m n0 x0=some out) :
  ∃r h',be Tryd.prog aV cf m 61 [.agg [.int .i64 n0.kind,.int .i64 n0.int,.str n0.label,aa.fz n0.args],.ptr bO 0] h=some (r,h')∧r=(.bool out)∧h'=h:=by
 refine aq (fn:=Tryd.f61) ha Tryd.func61 (by kernel_rfl) (by kernel_rfl) ?_
 refine aG (Q:=fun s=>fG.fin h out s) (fun _ _ ⟨h1,h2,h3⟩=>⟨h1,_,h2,rfl,h3⟩) ?_
 have H:_=some out:=H
 unfold fG.f at H
 show de _ cf BJ m _ ⟨[.agg [.int .i64 n0.kind,.int .i64 n0.int,.str n0.label,aa.fz n0.args],.ptr bO 0,.any,.any],[none],h⟩ _
 refine q1 <| qq ?_
 obtain⟨x1,e0,H⟩:=aH H
 obtain rfl:=oi H
 exact qr [.v 2 (show bj Tryd.prog h 29 (.ptr bO 0)=some (af.fz x0.nodes) from ca (q:=ez) (cs:=[af.fz x0.nodes,.int .i64 x0.root]) o fO (by kernel_rfl)),.a 4 (PC _ _ _ e0 h _ (gO (ae (cP (ae (aM) (ae (aM) (ae (bY) (ae (cK (E:=aa)) (az)))))) (ae (aM) (az)))))] <| qt <| ⟨.inl rfl,⟨by kernel_rfl,by kernel_rfl⟩⟩
end
end Go.Proofs.YtmekcfdllhphlaaDoor
namespace Go.Proofs.YtmekcfdllhphlaaDoor
open Go Go.R
open Go.IntKind (i64 u64 u8 u32)
def BK:cb:=gJ [0,1,2] [] [5,3] [] []
def gr.f (m:Nat)(t0:aj):Option (Bool):=if (decide ((t0.nodes.length:Int)≥(1:Int)))=true then (if (decide ((t0.nodes.length:Int)≤(8000:Int)))=true then (if (decide (t0.root≥(0:Int)))=true then (if (decide (t0.root<(t0.nodes.length:Int)))=true then ((fE.f m t0.nodes (fun y0=>fG.f m y0 t0)).bind fun x0=>some (!x0)) else (some false)) else (some false)) else (some false)) else (some false)
def gr.fin (L:Mem)(r:Bool)(s:St):Prop:=∃av,aI Tryd.prog (s.open BK) Tryd.f45.results.toList=some av∧fT s.h av (.bool r)
def RX (cf:CallF)(m:Nat):Prop:=∀(t0:aj) (r:Bool),gr.f m t0=some r→∀h xs,eN fc h xs [.agg [af.fz t0.nodes,.int .i64 t0.root]]→cf 45 xs h=some (.bool r,h)
section
variable {cf:CallF}{m:Nat}
theorem ry {aV:FuncId→cb}(ha:aV 45=BK)(Kb:Pp cf m)(PD:RW cf m)(t0:aj)(h:AHeap)(L:Mem)  (o:Has h (L)){out:Bool}(H:gr.f m t0=some out) :
  ∃r h',be Tryd.prog aV cf m 45 [.agg [af.fz t0.nodes,.int .i64 t0.root]] h=some (r,h')∧fT h' r (.bool out):=by
 refine aq (fn:=Tryd.f45) ha Tryd.func45 (by kernel_rfl) (by kernel_rfl) ?_
 refine aG (Q:=fun s=>gr.fin L out s) (fun _ _ h=>h) ?_
 have H:_=some out:=H
 unfold gr.f at H
 show de _ cf BK m _ ⟨[.agg [af.fz t0.nodes,.int .i64 t0.root],.any,.any],[],h⟩ _
 refine qq ?_
 obtain⟨aA,h0,e0,o0⟩:=kc (cs:=[af.fz t0.nodes,.int .i64 t0.root]) o (by kernel_rfl)
 refine qr [.a 0 e0] <| qq ?_
 rcases dt H with⟨c0,H⟩| ⟨c0,H⟩
 ·rcases dt H with⟨c1,H⟩| ⟨c1,H⟩
  ·rcases dt H with⟨c2,H⟩| ⟨c2,H⟩
   ·rcases dt H with⟨c3,H⟩| ⟨c3,H⟩
    ·obtain⟨x0,e1,H⟩:=aH H
     refine qr [.v 1 (show bj Tryd.prog h0 29 (.ptr aA 0)=some (af.fz t0.nodes) from ca (q:=0) (cs:=[af.fz t0.nodes,.int .i64 t0.root]) o0 rfl (by kernel_rfl)),.b 4 c0,.v 6 (show bj Tryd.prog h0 29 (.ptr aA 0)=some (af.fz t0.nodes) from ca (q:=0) (cs:=[af.fz t0.nodes,.int .i64 t0.root]) o0 rfl (by kernel_rfl)),.b 10 c1,.v 12 (show bj Tryd.prog h0 3 (.ptr aA 1)=some (.int .i64 t0.root) from ca (q:=0) (cs:=[af.fz t0.nodes,.int .i64 t0.root]) o0 rfl (by kernel_rfl)),.b 15 c2,.v 17 (show bj Tryd.prog h0 3 (.ptr aA 1)=some (.int .i64 t0.root) from ca (q:=0) (cs:=[af.fz t0.nodes,.int .i64 t0.root]) o0 rfl (by kernel_rfl)),.v 19 (show bj Tryd.prog h0 29 (.ptr aA 0)=some (af.fz t0.nodes) from ca (q:=0) (cs:=[af.fz t0.nodes,.int .i64 t0.root]) o0 rfl (by kernel_rfl)),.b 23 c3,.v 25 (show bj Tryd.prog h0 29 (.ptr aA 0)=some (af.fz t0.nodes) from ca (q:=0) (cs:=[af.fz t0.nodes,.int .i64 t0.root]) o0 rfl (by kernel_rfl)),.a 27 (Kb _ _ _ e1 h0 (Has.pos o0) 61 [.ptr aA 0] rfl (fun y0 r hr=>PD y0 _ r hr h0 _ 0 _ o0 rfl) _ (an (aQ (ib (E:=af))) (an ((rfl:ay (.fn 61 [.ptr aA 0])=_)) (bm))))] ?_
     have o1:Has h0 (L):=Has.del o0 0
     obtain rfl:=oi H
     exact qt <| ⟨.inl rfl,bZ (.bool (!x0)) h0 (bX (ak))⟩
    ·refine qr [.v 1 (show bj Tryd.prog h0 29 (.ptr aA 0)=some (af.fz t0.nodes) from ca (q:=0) (cs:=[af.fz t0.nodes,.int .i64 t0.root]) o0 rfl (by kernel_rfl)),.b 4 c0,.v 6 (show bj Tryd.prog h0 29 (.ptr aA 0)=some (af.fz t0.nodes) from ca (q:=0) (cs:=[af.fz t0.nodes,.int .i64 t0.root]) o0 rfl (by kernel_rfl)),.b 10 c1,.v 12 (show bj Tryd.prog h0 3 (.ptr aA 1)=some (.int .i64 t0.root) from ca (q:=0) (cs:=[af.fz t0.nodes,.int .i64 t0.root]) o0 rfl (by kernel_rfl)),.b 15 c2,.v 17 (show bj Tryd.prog h0 3 (.ptr aA 1)=some (.int .i64 t0.root) from ca (q:=0) (cs:=[af.fz t0.nodes,.int .i64 t0.root]) o0 rfl (by kernel_rfl)),.v 19 (show bj Tryd.prog h0 29 (.ptr aA 0)=some (af.fz t0.nodes) from ca (q:=0) (cs:=[af.fz t0.nodes,.int .i64 t0.root]) o0 rfl (by kernel_rfl)),.b 23 c3] ?_
     have o2:Has h0 (L):=Has.del o0 0
     obtain rfl:=oi H
     exact qt <| ⟨.inl rfl,bZ (.bool false) h0 (bX (ak))⟩
   ·refine qr [.v 1 (show bj Tryd.prog h0 29 (.ptr aA 0)=some (af.fz t0.nodes) from ca (q:=0) (cs:=[af.fz t0.nodes,.int .i64 t0.root]) o0 rfl (by kernel_rfl)),.b 4 c0,.v 6 (show bj Tryd.prog h0 29 (.ptr aA 0)=some (af.fz t0.nodes) from ca (q:=0) (cs:=[af.fz t0.nodes,.int .i64 t0.root]) o0 rfl (by kernel_rfl)),.b 10 c1,.v 12 (show bj Tryd.prog h0 3 (.ptr aA 1)=some (.int .i64 t0.root) from ca (q:=0) (cs:=[af.fz t0.nodes,.int .i64 t0.root]) o0 rfl (by kernel_rfl)),.b 15 c2] ?_
    have o3:Has h0 (L):=Has.del o0 0
    obtain rfl:=oi H
    exact qt <| ⟨.inl rfl,bZ (.bool false) h0 (bX (ak))⟩
  ·refine qr [.v 1 (show bj Tryd.prog h0 29 (.ptr aA 0)=some (af.fz t0.nodes) from ca (q:=0) (cs:=[af.fz t0.nodes,.int .i64 t0.root]) o0 rfl (by kernel_rfl)),.b 4 c0,.v 6 (show bj Tryd.prog h0 29 (.ptr aA 0)=some (af.fz t0.nodes) from ca (q:=0) (cs:=[af.fz t0.nodes,.int .i64 t0.root]) o0 rfl (by kernel_rfl)),.b 10 c1] ?_
   have o4:Has h0 (L):=Has.del o0 0
   obtain rfl:=oi H
   exact qt <| ⟨.inl rfl,bZ (.bool false) h0 (bX (ak))⟩
 ·refine qr [.v 1 (show bj Tryd.prog h0 29 (.ptr aA 0)=some (af.fz t0.nodes) from ca (q:=0) (cs:=[af.fz t0.nodes,.int .i64 t0.root]) o0 rfl (by kernel_rfl)),.b 4 c0] ?_
  have o5:Has h0 (L):=Has.del o0 0
  obtain rfl:=oi H
  exact qt <| ⟨.inl rfl,bZ (.bool false) h0 (bX (ak))⟩
end
end Go.Proofs.YtmekcfdllhphlaaDoor
namespace Go.Proofs.YtmekcfdllhphlaaDoor
open Go Go.R
open Go.IntKind (i64 u64 u8 u32)
def wU:cb:=gJ [0,2] [] [2,1] [] []
def dU.f (m:Nat)(x0:Int):Option (Bool):=some (!(x0==x0))
def dU.fin (L:Mem)(r:Bool)(s:St):Prop:=∃av,aI Tryd.prog (s.open wU) Tryd.f108.results.toList=some av∧fT s.h av (.bool r)
def MH (cf:CallF)(m:Nat):Prop:=∀(x0:Int) (r:Bool),dU.f m x0=some r→∀h xs,eN fc h xs [.int .i64 x0]→cf 108 xs h=some (.bool r,h)
section
variable {cf:CallF}{m:Nat}
theorem nJ {aV:FuncId→cb}(ha:aV 108=wU)  (x0:Int)(h:AHeap)(L:Mem)  (o:Has h (L)){out:Bool}(H:dU.f m x0=some out) :
  ∃r h',be Tryd.prog aV cf m 108 [.int .i64 x0] h=some (r,h')∧fT h' r (.bool out):=by
 refine aq (fn:=Tryd.f108) ha Tryd.func108 (by kernel_rfl) (by kernel_rfl) ?_
 refine aG (Q:=fun s=>dU.fin L out s) (fun _ _ h=>h) ?_
 have H:_=some out:=H
 unfold dU.f at H
 show de _ cf wU m _ ⟨[.int .i64 x0,.any],[],h⟩ _
 obtain rfl:=oi H
 exact q1 <| qq <| q0 <| qt <| ⟨.inl rfl,bZ (.bool (!(x0==x0))) h (bX (ak))⟩
end
end Go.Proofs.YtmekcfdllhphlaaDoor
namespace Go.Proofs.YtmekcfdllhphlaaDoor
open Go Go.R
open Go.IntKind (i64 u64 u8 u32)
def BL:cb:=gJ [0,1,4,5,6,11,12,13,16,19] [] [1020,1012,996,972,959,1019,1019,892,1019,764,1019,511,1019,1019] [] []
def cJ.f (m:Nat)(x0:Int)(y0:Int):Option (Int):=(dU.f m x0).bind fun x1=>(dU.f m y0).bind fun x2=>if x1=true then (if x2=true then (some (0:Int)) else (some (-1:Int))) else (if x2=true then (some (1:Int)) else (if (decide (x0<y0))=true then (some (-1:Int)) else (if (decide (x0 > y0))=true then (some (1:Int)) else (some (0:Int)))))
def cJ.fin (L:Mem)(r:Int)(s:St):Prop:=∃av,aI Tryd.prog (s.open BL) Tryd.f81.results.toList=some av∧fT s.h av (.int .i64 r)
def RY (cf:CallF)(m:Nat):Prop:=∀(x0:Int) (y0:Int) (r:Int),cJ.f m x0 y0=some r→∀h xs,eN fc h xs [.int .i64 x0,.int .i64 y0]→cf 81 xs h=some (.int .i64 r,h)
section
variable {cf:CallF}{m:Nat}
theorem lY {aV:FuncId→cb}(ha:aV 81=BL)(IG:MH cf m)(x0:Int)(y0:Int)(h:AHeap)(L:Mem)  (o:Has h (L)){out:Int}(H:cJ.f m x0 y0=some out) :
  ∃r h',be Tryd.prog aV cf m 81 [.int .i64 x0,.int .i64 y0] h=some (r,h')∧fT h' r (.int .i64 out):=by
 refine aq (fn:=Tryd.f81) ha Tryd.func81 (by kernel_rfl) (by kernel_rfl) ?_
 refine aG (Q:=fun s=>cJ.fin L out s) (fun _ _ h=>h) ?_
 have H:_=some out:=H
 unfold cJ.f at H
 show de _ cf BL m _ ⟨.int .i64 x0 :: .int .i64 y0::ri [],[],h⟩ _
 refine q1 <| qq ?_
 obtain⟨x1,e0,H⟩:=aH H
 refine qr [.a 1 (IG _ _ e0 h _ (gO (ae (aM) (az))))] <| qq ?_
 obtain⟨x2,e1,H⟩:=aH H
 refine qr [.a 1 (IG _ _ e1 h _ (gO (ae (aM) (az))))] <| qq <| qq <| q0 <| qc H (fun c0 H=>?_) (fun c0 H=>?_)
 ·refine qq <| qq <| q0 <| qc H (fun c1 H=>?_) (fun c1 H=>?_)
  ·obtain rfl:=oi H
   exact q1 <| qt <| ⟨.inl rfl,bZ (.int .i64 (0:Int)) h (bX (fh))⟩
  ·obtain rfl:=oi H
   exact qk <| qq <| q0 <| qt <| ⟨.inl rfl,bZ (.int .i64 (-1:Int)) h (bX (fh))⟩
 ·refine qk <| qq <| qq <| q0 <| qc H (fun c2 H=>?_) (fun c2 H=>?_)
  ·obtain rfl:=oi H
   exact q1 <| qt <| ⟨.inl rfl,bZ (.int .i64 (1:Int)) h (bX (fh))⟩
  ·refine qk <| qq <| qq <| q0 <| qc H (fun c3 H=>?_) (fun c3 H=>?_)
   ·obtain rfl:=oi H
    exact q1 <| qt <| ⟨.inl rfl,bZ (.int .i64 (-1:Int)) h (bX (fh))⟩
   ·refine qk <| qq <| qq <| q0 <| qc H (fun c4 H=>?_) (fun c4 H=>?_)
    ·obtain rfl:=oi H
     exact q1 <| qt <| ⟨.inl rfl,bZ (.int .i64 (1:Int)) h (bX (fh))⟩
    ·obtain rfl:=oi H
     exact qk <| qq <| q0 <| qt <| ⟨.inl rfl,bZ (.int .i64 (0:Int)) h (bX (fh))⟩
end
end Go.Proofs.YtmekcfdllhphlaaDoor
namespace Go.Proofs.YtmekcfdllhphlaaDoor
open Go Go.R
open Go.IntKind (i64 u64 u8 u32)
def yE:cb:=gJ [0,2,3,5,6,7,8,9,14] [] [510,506,395,267,387,131,509,395,509] [] []
def b8.l0 (m:Nat)(fP:List Int):Nat→Int→Option (Sum Int (Int))
 | 0,_=>none
 | k+1,x0=>if (decide (x0<(fP.length:Int)))=true then ((ix fP x0).bind fun v0=>if (!(v0==(0:Int)))=true then (some (.inl v0)) else (b8.l0 m fP k (i64.wrap (x0+(1:Int))))) else (some (.inr x0))
def b8.f (m:Nat)(fP:List Int):Option (Int):=(b8.l0 m fP m (0:Int)).bind fun bq=>match bq with | .inl r0=>some r0 | .inr x1=>some (0:Int)
def b8.fin (L:Mem)(r:Int)(s:St):Prop:=∃av,aI Tryd.prog (s.open yE) Tryd.f82.results.toList=some av∧fT s.h av (.int .i64 r)
def RZ (cf:CallF)(m:Nat):Prop:=∀(fP:List Int) (r:Int),b8.f m fP=some r→∀h xs,eN fc h xs [aa.fz fP]→cf 82 xs h=some (.int .i64 r,h)
section
variable {cf:CallF}{m:Nat}
theorem b8.bI (L:Mem)(fP:List Int)   : bE Tryd.prog cf yE m (sub [1,1,0,1,0,0] (codeOf Tryd.f82)) (fun k (σ:Int)=>b8.l0 m fP k σ) (fun σ s=>match σ with | x0=>∃h0,s=⟨[.any,.any,.int .i64 (0:Int),.any,aa.fz fP,.int .i64 (fP.length:Int),.int .i64 x0,.any,.any],[],h0⟩∧Has h0 (L)) (fun out e s=>(e = .exit 0∧∃x0,.inr x0=out∧∃Ar uz oR tm h0,s=⟨[.any,.any,.int .i64 (0:Int),.any,Ar,uz,oR,tm,.any],[],h0⟩∧Has h0 (L))∨(e = .ret∧∃r,.inl r=out∧b8.fin L r s)):=by
 refine gP (fun _=>rfl) ?_
 rintro k x0 s out ⟨h0,rfl,o0⟩ H
 have H:b8.l0 m fP (k+1) x0=some out:=H
 refine q1 <| qq <| qc H (fun c0 H=>?_) (fun c0 H=>?_)
 ·refine qk <| qq <| qb 1 <| qq ?_
  obtain⟨v0,e0,H⟩:=aH H
  refine qr [.v 0 (bo (k:=.i64) (E:=aa) (l:=fP) dz e0),.v 1 (cZ  (E:=aa) (l:=fP) h0 A3 e0 rfl)] <| qq <| q0 <| qc H (fun c1 H=>?_) (fun c1 H=>?_)
  ·exact q1 <| qt <| WZ (⟨rfl,_,oi H,bZ (.int .i64 v0) h0 (bX (fh))⟩)
  ·exact qk <| q0 <| ⟨i64.wrap (x0+(1:Int)),⟨h0,by kernel_rfl,o0⟩,H⟩
 ·exact qx 0 <| Xt (⟨rfl,x0,oi H,aa.fz fP,.int .i64 (fP.length:Int),.int .i64 x0,.bool (decide (x0<(fP.length:Int))),h0,by kernel_rfl,o0⟩)
theorem rz {aV:FuncId→cb}(ha:aV 82=yE)  (fP:List Int)(h:AHeap)(L:Mem)  (o:Has h (L)){out:Int}(H:b8.f m fP=some out) :
  ∃r h',be Tryd.prog aV cf m 82 [aa.fz fP] h=some (r,h')∧fT h' r (.int .i64 out):=by
 refine aq (fn:=Tryd.f82) ha Tryd.func82 (by kernel_rfl) (by kernel_rfl) ?_
 refine aG (Q:=fun s=>b8.fin L out s) (fun _ _ h=>h) ?_
 have H:_=some out:=H
 unfold b8.f at H
 show de _ cf yE m _ ⟨aa.fz fP::ri [],[],h⟩ _
 refine q1 <| qq <| q0 <| qq <| qq <| q0 <| qb 0 ?_
 obtain⟨bq,e1,H⟩:=aH H
 refine ql (b8.bI L fP   (0:Int) _ _ ⟨h,by kernel_rfl,o⟩ e1) ?_
 rintro e s (⟨rfl,x1,rfl,g0,g1,g2,g3,h1,rfl,o1⟩| ⟨rfl,r0,rfl,mE⟩)
 ·try dsimp only at H
  obtain rfl:=oi H
  exact q1 <| qt <| ⟨.inl rfl,bZ (.int .i64 (0:Int)) h1 (bX (fh))⟩
 ·try dsimp only at H
  obtain rfl:=oi H
  exact⟨.inl rfl,mE⟩
end
end Go.Proofs.YtmekcfdllhphlaaDoor
namespace Go.Proofs.YtmekcfdllhphlaaDoor
open Go Go.R
open Go.IntKind (i64 u64 u8 u32)
def wV:cb:=gJ [0,2] [] [2,1] [] []
def dc.f (m:Nat)(x0:ByteArray):Option (Bool):=some (!(x0.data.toList==x0.data.toList))
def dc.fin (L:Mem)(r:Bool)(s:St):Prop:=∃av,aI Tryd.prog (s.open wV) Tryd.f109.results.toList=some av∧fT s.h av (.bool r)
def MI (cf:CallF)(m:Nat):Prop:=∀(x0:ByteArray) (r:Bool),dc.f m x0=some r→∀h xs,eN fc h xs [.str x0]→cf 109 xs h=some (.bool r,h)
section
variable {cf:CallF}{m:Nat}
theorem lz {aV:FuncId→cb}(ha:aV 109=wV)  (x0:ByteArray)(h:AHeap)(L:Mem)  (o:Has h (L)){out:Bool}(H:dc.f m x0=some out) :
  ∃r h',be Tryd.prog aV cf m 109 [.str x0] h=some (r,h')∧fT h' r (.bool out):=by
 refine aq (fn:=Tryd.f109) ha Tryd.func109 (by kernel_rfl) (by kernel_rfl) ?_
 refine aG (Q:=fun s=>dc.fin L out s) (fun _ _ h=>h) ?_
 have H:_=some out:=H
 unfold dc.f at H
 show de _ cf wV m _ ⟨[.str x0,.any],[],h⟩ _
 obtain rfl:=oi H
 exact q1 <| qq <| q0 <| qt <| ⟨.inl rfl,bZ (.bool (!(x0.data.toList==x0.data.toList))) h (bX (ak))⟩
end
end Go.Proofs.YtmekcfdllhphlaaDoor
namespace Go.Proofs.YtmekcfdllhphlaaDoor
open Go Go.R
open Go.IntKind (i64 u64 u8 u32)
def BM:cb:=gJ [0,1,4,5,6,11,12,13,16,19] [] [1020,1012,996,972,959,1019,1019,892,1019,764,1019,511,1019,1019] [] []
def cg.f (m:Nat)(x0:ByteArray)(y0:ByteArray):Option (Int):=(dc.f m x0).bind fun x1=>(dc.f m y0).bind fun x2=>if x1=true then (if x2=true then (some (0:Int)) else (some (-1:Int))) else (if x2=true then (some (1:Int)) else (if (Op.bytesLess x0.data.toList y0.data.toList)=true then (some (-1:Int)) else (if (!ED x0 y0)=true then (some (1:Int)) else (some (0:Int)))))
def cg.fin (L:Mem)(r:Int)(s:St):Prop:=∃av,aI Tryd.prog (s.open BM) Tryd.f83.results.toList=some av∧fT s.h av (.int .i64 r)
def R0 (cf:CallF)(m:Nat):Prop:=∀(x0:ByteArray) (y0:ByteArray) (r:Int),cg.f m x0 y0=some r→∀h xs,eN fc h xs [.str x0,.str y0]→cf 83 xs h=some (.int .i64 r,h)
section
variable {cf:CallF}{m:Nat}
theorem kF {aV:FuncId→cb}(ha:aV 83=BM)(II:MI cf m)(x0:ByteArray)(y0:ByteArray)(h:AHeap)(L:Mem)  (o:Has h (L)){out:Int}(H:cg.f m x0 y0=some out) :
  ∃r h',be Tryd.prog aV cf m 83 [.str x0,.str y0] h=some (r,h')∧fT h' r (.int .i64 out):=by
 refine aq (fn:=Tryd.f83) ha Tryd.func83 (by kernel_rfl) (by kernel_rfl) ?_
 refine aG (Q:=fun s=>cg.fin L out s) (fun _ _ h=>h) ?_
 have H:_=some out:=H
 unfold cg.f at H
 show de _ cf BM m _ ⟨.str x0 :: .str y0::ri [],[],h⟩ _
 refine q1 <| qq ?_
 obtain⟨x1,e0,H⟩:=aH H
 refine qr [.a 1 (II _ _ e0 h _ (gO (ae (bY) (az))))] <| qq ?_
 obtain⟨x2,e1,H⟩:=aH H
 refine qr [.a 1 (II _ _ e1 h _ (gO (ae (bY) (az))))] <| qq <| qq <| q0 <| qc H (fun c0 H=>?_) (fun c0 H=>?_)
 ·refine qq <| qq <| q0 <| qc H (fun c1 H=>?_) (fun c1 H=>?_)
  ·obtain rfl:=oi H
   exact q1 <| qt <| ⟨.inl rfl,bZ (.int .i64 (0:Int)) h (bX (fh))⟩
  ·obtain rfl:=oi H
   exact qk <| qq <| q0 <| qt <| ⟨.inl rfl,bZ (.int .i64 (-1:Int)) h (bX (fh))⟩
 ·refine qk <| qq <| qq <| q0 <| qc H (fun c2 H=>?_) (fun c2 H=>?_)
  ·obtain rfl:=oi H
   exact q1 <| qt <| ⟨.inl rfl,bZ (.int .i64 (1:Int)) h (bX (fh))⟩
  ·refine qk <| qq <| qq <| q0 <| qc H (fun c3 H=>?_) (fun c3 H=>?_)
   ·obtain rfl:=oi H
    exact q1 <| qt <| ⟨.inl rfl,bZ (.int .i64 (-1:Int)) h (bX (fh))⟩
   ·refine qk <| qq <| qq <| q0 <| qc H (fun c4 H=>?_) (fun c4 H=>?_)
    ·obtain rfl:=oi H
     exact q1 <| qt <| ⟨.inl rfl,bZ (.int .i64 (1:Int)) h (bX (fh))⟩
    ·obtain rfl:=oi H
     exact qk <| qq <| q0 <| qt <| ⟨.inl rfl,bZ (.int .i64 (0:Int)) h (bX (fh))⟩
end
end Go.Proofs.YtmekcfdllhphlaaDoor
namespace Go.Proofs.YtmekcfdllhphlaaDoor
open Go Go.R
open Go.IntKind (i64 u64 u8 u32)
def BN:cb:=gJ [0,1,2,3,4,5,16] [2,3] [115,83,111,51,111,111] [] []
def cY.f (m:Nat)(a0:ab)(b0:ab):Option (Int):=if (!(a0.kind==b0.kind))=true then ((cJ.f m a0.kind b0.kind).bind fun x0=>some x0) else (if (a0.kind==(3:Int))=true then ((cJ.f m (a0.args.length:Int) (b0.args.length:Int)).bind fun x1=>(cg.f m a0.label b0.label).bind fun x2=>(b8.f m ([x1,x2])).bind fun x3=>some x3) else ((cg.f m a0.label b0.label).bind fun x4=>(cJ.f m a0.int b0.int).bind fun x5=>(b8.f m ([x4,x5])).bind fun x6=>some x6))
def cY.fin (L:Mem)(r:Int)(s:St):Prop:=∃av,aI Tryd.prog (s.open BN) Tryd.f65.results.toList=some av∧fT s.h av (.int .i64 r)
def NY (cf:CallF)(m:Nat):Prop:=∀(a0:ab) (b0:ab) (r:Int),cY.f m a0 b0=some r→∀h xs,eN fc h xs [.agg [.int .i64 a0.kind,.int .i64 a0.int,.str a0.label,aa.fz a0.args],.agg [.int .i64 b0.kind,.int .i64 b0.int,.str b0.label,aa.fz b0.args]]→cf 65 xs h=some (.int .i64 r,h)
section
variable {cf:CallF}{m:Nat}
theorem lZ {aV:FuncId→cb}(ha:aV 65=BN)(Kc:RY cf m)(MJ:RZ cf m)(MK:R0 cf m)(a0:ab)(b0:ab)(h:AHeap)(L:Mem)  (o:Has h (L)){out:Int}(H:cY.f m a0 b0=some out) :
  ∃r h',be Tryd.prog aV cf m 65 [.agg [.int .i64 a0.kind,.int .i64 a0.int,.str a0.label,aa.fz a0.args],.agg [.int .i64 b0.kind,.int .i64 b0.int,.str b0.label,aa.fz b0.args]] h=some (r,h')∧fT h' r (.int .i64 out):=by
 refine aq (fn:=Tryd.f65) ha Tryd.func65 (by kernel_rfl) (by kernel_rfl) ?_
 refine aG (Q:=fun s=>cY.fin L out s) (fun _ _ h=>h) ?_
 have H:_=some out:=H
 unfold cY.f at H
 show de _ cf BN m _ ⟨.agg [.int .i64 a0.kind,.int .i64 a0.int,.str a0.label,aa.fz a0.args] :: .agg [.int .i64 b0.kind,.int .i64 b0.int,.str b0.label,aa.fz b0.args]::sY [],[none,none],h⟩ _
 refine q1 <| qq <| qb 0 <| qq <| q0 <| qc H (fun c0 H=>?_) (fun c0 H=>?_)
 ·refine qq ?_
  obtain⟨x0,e0,H⟩:=aH H
  obtain rfl:=oi H
  exact qr [.a 4 (Kc _ _ _ e0 h _ (gO (ae (aM) (ae (aM) (az)))))] <| qt <| ⟨.inl rfl,bZ (.int .i64 x0) h (bX (fh))⟩
 ·refine q1 <| qc H (fun c1 H=>?_) (fun c1 H=>?_)
  ·refine qq ?_
   obtain⟨x1,e1,H⟩:=aH H
   obtain⟨x2,e2,H⟩:=aH H
   obtain⟨x3,e3,H⟩:=aH H
   obtain rfl:=oi H
   exact qr [.a 6 (Kc _ _ _ e1 h _ (gO (ae (aM) (ae (aM) (az))))),.a 11 (MK _ _ _ e2 h _ (gO (ae (bY) (ae (bY) (az))))),.a 13 (MJ _ _ e3 h _ (gO (ae (EA (E:=aa) (l:=[x1,x2]) (cs:=[.int .i64 x1,.int .i64 x2]) (b:=true) (by kernel_rfl) (by kernel_rfl) rfl) (az))))] <| qt <| ⟨.inl rfl,bZ (.int .i64 x3) h (bX (fh))⟩
  ·refine qk <| qq ?_
   obtain⟨x4,e4,H⟩:=aH H
   obtain⟨x5,e5,H⟩:=aH H
   obtain⟨x6,e6,H⟩:=aH H
   obtain rfl:=oi H
   exact qr [.a 4 (MK _ _ _ e4 h _ (gO (ae (bY) (ae (bY) (az))))),.a 9 (Kc _ _ _ e5 h _ (gO (ae (aM) (ae (aM) (az))))),.a 11 (MJ _ _ e6 h _ (gO (ae (EA (E:=aa) (l:=[x4,x5]) (cs:=[.int .i64 x4,.int .i64 x5]) (b:=true) (by kernel_rfl) (by kernel_rfl) rfl) (az))))] <| qt <| ⟨.inl rfl,bZ (.int .i64 x6) h (bX (fh))⟩
end
end Go.Proofs.YtmekcfdllhphlaaDoor
namespace Go.Proofs.YtmekcfdllhphlaaDoor
open Go Go.R
open Go.IntKind (i64 u64 u8 u32)
def BO:cb:=gJ [0,1,2,5] [] [8,7] [] []
def dm.f (m:Nat)(i0:Int)(j0:Int)(x0:List ab):Option (Int):=(ix x0 i0).bind fun v0=>(ix x0 j0).bind fun v1=>(cY.f m v0 v1).bind fun x1=>some x1
def dm.fin (h:AHeap)(r:Int)(s:St):Prop:=aI Tryd.prog (s.open BO) Tryd.f85.results.toList=some (.int .i64 r)∧s.h=h
def R5 (cf:CallF)(m:Nat):Prop:=∀(i0:Int) (j0:Int) (x0:List ab) (r:Int),dm.f m i0 j0 x0=some r→∀h L (ez bO:Nat),Has h L→L[ez]? = some (bO,.ob [af.fz x0])→cf 85 [.int .i64 i0,.int .i64 j0,.ptr bO 0] h=some (.int .i64 r,h)
section
variable {cf:CallF}{m:Nat}
theorem mH {aV:FuncId→cb}(ha:aV 85=BO)(Ft:NY cf m)(i0:Int)(j0:Int)(x0:List ab)(h:AHeap)(L:Mem)  {ez bO:Nat}(fO:L[ez]? = some (bO,.ob [af.fz x0]))(o:Has h (L)){out:Int}(H:dm.f m i0 j0 x0=some out) :
  ∃r h',be Tryd.prog aV cf m 85 [.int .i64 i0,.int .i64 j0,.ptr bO 0] h=some (r,h')∧r=(.int .i64 out)∧h'=h:=by
 refine aq (fn:=Tryd.f85) ha Tryd.func85 (by kernel_rfl) (by kernel_rfl) ?_
 refine aG (Q:=fun s=>dm.fin h out s) (fun _ _ ⟨h1,h2,h3⟩=>⟨h1,_,h2,rfl,h3⟩) ?_
 have H:_=some out:=H
 unfold dm.f at H
 show de _ cf BO m _ ⟨[.int .i64 i0,.int .i64 j0,.ptr bO 0,.any],[],h⟩ _
 refine q1 <| qq ?_
 obtain⟨v0,e0,H⟩:=aH H
 obtain⟨v1,e1,H⟩:=aH H
 obtain⟨x1,e2,H⟩:=aH H
 obtain rfl:=oi H
 exact qr [.v 0 (show bj Tryd.prog h 29 (.ptr bO 0)=some (af.fz x0) from ca (q:=ez) (cs:=[af.fz x0]) o fO (by kernel_rfl)),.v 2 (bo (k:=.i64) (E:=af) (l:=x0) lh e0),.v 3 (cL  (E:=af) (l:=x0) h rU rV e0),.v 4 (show bj Tryd.prog h 29 (.ptr bO 0)=some (af.fz x0) from ca (q:=ez) (cs:=[af.fz x0]) o fO (by kernel_rfl)),.v 6 (bo (k:=.i64) (E:=af) (l:=x0) lh e1),.v 7 (cL  (E:=af) (l:=x0) h rU rV e1),.a 8 (Ft _ _ _ e2 h _ (gO (ae (cP (ae (aM) (ae (aM) (ae (bY) (ae (cK (E:=aa)) (az)))))) (ae (cP (ae (aM) (ae (aM) (ae (bY) (ae (cK (E:=aa)) (az)))))) (az)))))] <| qt <| ⟨.inl rfl,⟨by kernel_rfl,by kernel_rfl⟩⟩
end
end Go.Proofs.YtmekcfdllhphlaaDoor
