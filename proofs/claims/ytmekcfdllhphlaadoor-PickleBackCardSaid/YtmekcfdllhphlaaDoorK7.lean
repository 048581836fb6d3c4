/- Part of the proof: Q120, PS3, PS4, Q110, Q84, PS5, Q61, Q45, Q108, Q81, Q82, Q109, Q83, Q65, Q85. -/
import Derived.Test.YtmekcfdllhphlaaDoorK6
set_option linter.unusedVariables false
set_option linter.unusedSimpArgs false
set_option maxRecDepth 100000
open Int renaming toNat_natCast → WT
open List renaming append_assoc → W3, cons_append → Xe, nil_append → Xm
open Nat renaming le_refl → WQ, zero_add → Xb, mul_le_mul_right → XG
open Option renaming bind_some → WL
open Or renaming inr → XH, inl → X6
open Prod.mk renaming injEq → WV
namespace Go.Proofs.YtmekcfdllhphlaaDoor
open Go Go.R
open Go.IntKind (i64 u64 u8 u32)
def ll:cg:=gk [0,1,2,3,4,10,11,12,13,14,15,16,17,18,19,20,21,22,23,24,28,33,50,58,80,85,103,110,140,151,171,185,199,213] [] [17178820576,17179869124,17179869068,17177771916,17179868940,17175674636,17179869068,17179869068,17179868894,17171480286,17179868894,17179868894,17163091936,17179868650,17179867626,17146313194,17179865578,17112756714,17179867626,17179867626,17179864574,17045646846,17179864574,17179864574,17179860960,17179844576,17179844576,16911409120,17179811808,17179746272,17179811808,17179746272,17179615200,16642744288,17179353056,16105611232,17179615200,17179615200,17179303904,15031820256,17179303908,12884336612,17179336678,8589402086,17179869183] [] []
def aA.l0 (m:Nat)(aq:List Int)(a0:Int)(aN:Int→Int→Option (Int)):Nat→Int→Int→Option (Int × Int)
 | 0,_,_=>none
 | k+1,i0,j0=>if (decide (i0<j0))=true then ((ix aq (i64.wrap (gj .u64 (u64.wrap (i64.wrap (i0+j0))) 1))).bind fun v0=>(ix aq a0).bind fun v1=>(aN v0 v1).bind fun r0=>if (decide (r0<(0:Int)))=true then (aA.l0 m aq a0 aN k (i64.wrap (i64.wrap (gj .u64 (u64.wrap (i64.wrap (i0+j0))) 1)+(1:Int))) j0) else (aA.l0 m aq a0 aN k i0 (i64.wrap (gj .u64 (u64.wrap (i64.wrap (i0+j0))) 1)))) else (some ((i0,j0)))
def aA.l1 (m:Nat)(i1:Int):Nat→(List Int)→Int→Option ((List Int) × Int)
 | 0,_,_=>none
 | k+1,bl,k0=>if (decide (k0<(i64.wrap (i1 - (1:Int)))))=true then ((ix bl (i64.wrap (k0+(1:Int)))).bind fun v2=>(ix bl k0).bind fun v3=>(ix bl k0).bind fun v4=>(ix (bl.set k0.toNat v2) (i64.wrap (k0+(1:Int)))).bind fun v5=>aA.l1 m i1 k ((bl.set k0.toNat v2).set (i64.wrap (k0+(1:Int))).toNat v3) (i64.wrap (k0+(1:Int)))) else (some ((bl,k0)))
def aA.l2 (m:Nat)(aq:List Int)(m0:Int)(aN:Int→Int→Option (Int)):Nat→Int→Int→Option (Int × Int)
 | 0,_,_=>none
 | k+1,i2,j2=>if (decide (i2<j2))=true then ((ix aq m0).bind fun v6=>(ix aq (i64.wrap (gj .u64 (u64.wrap (i64.wrap (i2+j2))) 1))).bind fun v7=>(aN v6 v7).bind fun r1=>if (!(decide (r1<(0:Int))))=true then (aA.l2 m aq m0 aN k (i64.wrap (i64.wrap (gj .u64 (u64.wrap (i64.wrap (i2+j2))) 1)+(1:Int))) j2) else (aA.l2 m aq m0 aN k i2 (i64.wrap (gj .u64 (u64.wrap (i64.wrap (i2+j2))) 1)))) else (some ((i2,j2)))
def aA.l3 (m:Nat)(i3:Int):Nat→(List Int)→Int→Option ((List Int) × Int)
 | 0,_,_=>none
 | k+1,dq,k2=>if (decide (k2 > i3))=true then ((ix dq (i64.wrap (k2 - (1:Int)))).bind fun v8=>(ix dq k2).bind fun v9=>(ix dq k2).bind fun v10=>(ix (dq.set k2.toNat v8) (i64.wrap (k2 - (1:Int)))).bind fun v11=>aA.l3 m i3 k ((dq.set k2.toNat v8).set (i64.wrap (k2 - (1:Int))).toNat v9) (i64.wrap (k2 - (1:Int)))) else (some ((dq,k2)))
def aA.l4 (m:Nat)(aq:List Int)(a0:Int)(m0:Int)(b0:Int)(aN:Int→Int→Option (Int)):Nat→Int→Int→Option (Int × Int)
 | 0,_,_=>none
 | k+1,fN,r3=>if (decide (fN<r3))=true then ((ix aq (i64.wrap (i64.wrap (i64.wrap (i64.wrap (gj .u64 (u64.wrap (i64.wrap (a0+b0))) 1)+m0) - (1:Int)) - i64.wrap (gj .u64 (u64.wrap (i64.wrap (fN+r3))) 1)))).bind fun v12=>(ix aq (i64.wrap (gj .u64 (u64.wrap (i64.wrap (fN+r3))) 1))).bind fun H5=>(aN v12 H5).bind fun r4=>if (!(decide (r4<(0:Int))))=true then (aA.l4 m aq a0 m0 b0 aN k (i64.wrap (i64.wrap (gj .u64 (u64.wrap (i64.wrap (fN+r3))) 1)+(1:Int))) r3) else (aA.l4 m aq a0 m0 b0 aN k fN (i64.wrap (gj .u64 (u64.wrap (i64.wrap (fN+r3))) 1)))) else (some ((fN,r3)))
def aA.b (m:Nat)(rec:(List Int)→Int→Int→Int→(Int→Int→Option (Int))→Option ((List Int)))(aq:List Int)(a0:Int)(m0:Int)(b0:Int)(aN:Int→Int→Option (Int)):Option ((List Int)):=if ((i64.wrap (m0 - a0))==(1:Int))=true then ((aA.l0 m aq a0 aN m m0 b0).bind fun bq=>match bq with | (i1,j1)=>(aA.l1 m i1 m aq a0).bind fun cq=>match cq with | (da,k1)=>some da) else (if ((i64.wrap (b0 - m0))==(1:Int))=true then ((aA.l2 m aq m0 aN m a0 m0).bind fun jm=>match jm with | (i3,j3)=>(aA.l3 m i3 m aq m0).bind fun pc=>match pc with | (jv,k3)=>some jv) else (jn (fun (σ:Int × Int)=>match σ with | (tJ,r2)=>(aA.l4 m aq a0 m0 b0 aN m tJ r2).bind fun cP=>match cP with | (eP,r5)=>jn (fun (σ:(List Int))=>match σ with | kM=>jn (fun (σ:(List Int))=>match σ with | pd=>if (decide ((i64.wrap (gj .u64 (u64.wrap (i64.wrap (a0+b0))) 1))<(i64.wrap (i64.wrap (i64.wrap (gj .u64 (u64.wrap (i64.wrap (a0+b0))) 1)+m0) - eP))))=true then (if (decide ((i64.wrap (i64.wrap (i64.wrap (gj .u64 (u64.wrap (i64.wrap (a0+b0))) 1)+m0) - eP))<b0))=true then ((rec pd (i64.wrap (gj .u64 (u64.wrap (i64.wrap (a0+b0))) 1)) (i64.wrap (i64.wrap (i64.wrap (gj .u64 (u64.wrap (i64.wrap (a0+b0))) 1)+m0) - eP)) b0 aN).bind fun x2=>some x2) else (some pd)) else (some pd)) fun MU=>(if (decide (a0<eP))=true then (if (decide (eP<(i64.wrap (gj .u64 (u64.wrap (i64.wrap (a0+b0))) 1))))=true then ((rec kM a0 eP (i64.wrap (gj .u64 (u64.wrap (i64.wrap (a0+b0))) 1)) aN).bind fun x1=>MU x1) else (MU kM)) else (MU kM))) fun MV=>(if (decide (eP<m0))=true then (if (decide (m0<(i64.wrap (i64.wrap (i64.wrap (gj .u64 (u64.wrap (i64.wrap (a0+b0))) 1)+m0) - eP))))=true then ((eD.f m aq eP m0 (i64.wrap (i64.wrap (i64.wrap (gj .u64 (u64.wrap (i64.wrap (a0+b0))) 1)+m0) - eP)) aN).bind fun x0=>MV x0) else (MV aq)) else (MV aq))) fun Ok=>(if (decide (m0 > (i64.wrap (gj .u64 (u64.wrap (i64.wrap (a0+b0))) 1))))=true then (Ok (i64.wrap (i64.wrap (i64.wrap (gj .u64 (u64.wrap (i64.wrap (a0+b0))) 1)+m0) - b0),i64.wrap (gj .u64 (u64.wrap (i64.wrap (a0+b0))) 1))) else (Ok (a0,m0)))))
def aA.f (m:Nat):Nat→(List Int)→Int→Int→Int→(Int→Int→Option (Int))→Option ((List Int))
 | 0,_,_,_,_,_=>none
 | k+1,aq,a0,m0,b0,aN=>aA.b m (aA.f m k) aq a0 m0 b0 aN
def aA.fin (L:Mem)(aB:Nat)(aq:List Int)(a0:Int)(m0:Int)(b0:Int)(aN:Int→Int→Option (Int))(r:(List Int))(s:St):Prop:=aI Tryd.prog (s.open ll) Tryd.f120.results.toList=some (.tup [])∧Has s.h ((aB,.sl aq.length 1 (aa.l r))::L)
def uR (cf:CallF)(m:Nat)(kk:Nat):Prop:=∀(aq:List Int) (a0:Int) (m0:Int) (b0:Int) (aN:Int→Int→Option (Int)) (r:(List Int)),aA.f m kk aq a0 m0 b0 aN=some r→∀h L (cz:Nat) (aB:Nat),Has h ((aB,.sl cz 1 (aa.l aq))::L)→∀(en:FuncId) (aW:List AV),ay (.fn en aW) = .fn en aW→(∀h K,Has h (K++L)→∀(a0:Int) (a1:Int) r,aN a0 a1=some r→cf en ([.int .i64 a0,.int .i64 a1]++aW) h=some (.int .i64 r,h))→∀xs,xs.map ay=[.rs aB 0 cz 1,.int .i64 a0,.int .i64 m0,.int .i64 b0,.fn en aW]→∃h',cf 120 xs h=some (.tup [],h')∧Has h' ((aB,.sl cz 1 (aa.l r))::L)
section
variable {cf:CallF}{m:Nat}
theorem aA.bG (L:Mem)(aB:Nat)(en:FuncId)(aW:List AV)(aq:List Int)(a0:Int)(m0:Int)(b0:Int)(aN:Int→Int→Option (Int))  {kk:Nat}(iH:uR cf m kk)(gz:ay (.fn en aW) = .fn en aW)(hH:∀h K,Has h (K++L)→∀(a0:Int) (a1:Int) r,aN a0 a1=some r→cf en ([.int .i64 a0,.int .i64 a1]++aW) h=some (.int .i64 r,h))  : bI Tryd.prog cf ll m (sub [0,1,0,1,1,0,0,0] (codeOf Tryd.f120)) (fun k (σ:Int × Int)=>aA.l0 m aq a0 aN k σ.1 σ.2) (fun σ s=>match σ with | (i0,j0)=>∃h0,s=⟨.rs aB 0 aq.length 1 :: .int .i64 a0 :: .any :: .any :: .fn en aW :: .int .i64 i0 :: .int .i64 j0::MF [],[],h0⟩∧Has h0 ((aB,.sl aq.length 1 (aa.l aq))::L)) (fun out e s=>(e = .exit 0∧∃i0 j0,(i0,j0)=out∧∃Dz Fh PQ h0,s=⟨.rs aB 0 aq.length 1 :: .int .i64 a0 :: .any :: .any::Dz :: .int .i64 i0::Fh::rE (PQ::mS []),[],h0⟩∧Has h0 ((aB,.sl aq.length 1 (aa.l aq))::L))):=by
 refine gS (fun _=>rfl) ?_
 rintro k ⟨i0,j0⟩ s out ⟨h0,rfl,o0⟩ H
 have H:aA.l0 m aq a0 aN (k+1) i0 j0=some out:=H
 refine qq <| qq <| q0 <| qc H (fun c1 H=>?_) (fun c1 H=>?_)
 ·refine qk <| qb 1 <| qq <| q0 <| qq ?_
  obtain⟨v0,e0,H⟩:=aJ H
  obtain⟨v1,e1,H⟩:=aJ H
  obtain⟨r0,e2,H⟩:=aJ H
  refine qr [.v 3 (aH (k:=.i64) (E:=aa) (l:=aq) (q:=0) dC o0 rfl e0),.v 4 (bg  (E:=aa) (l:=aq) (q:=0) o0 rfl A3 e0 rfl),.v 7 (aH (k:=.i64) (E:=aa) (l:=aq) (q:=0) dC o0 rfl e1),.v 8 (bg  (E:=aa) (l:=aq) (q:=0) o0 rfl A3 e1 rfl),.a 9 (hH h0 [(aB,.sl aq.length 1 (aa.l aq))] o0 _ _ _ e2)] <| qc H (fun c2 H=>?_) (fun c2 H=>?_)
  ·exact q0 <| ⟨(i64.wrap (i64.wrap (gj .u64 (u64.wrap (i64.wrap (i0+j0))) 1)+(1:Int)),j0),⟨h0,by kernel_rfl,o0⟩,H⟩
  ·exact q0 <| ⟨(i0,i64.wrap (gj .u64 (u64.wrap (i64.wrap (i0+j0))) 1)),⟨h0,by kernel_rfl,o0⟩,H⟩
 ·exact qx 0 <| ⟨rfl,i0,j0,oi H,.fn en aW,.int .i64 j0,.bool (decide (i0<j0)),h0,by kernel_rfl,o0⟩
theorem aA.fu (L:Mem)(aB:Nat)(en:FuncId)(aW:List AV)(aq:List Int)(a0:Int)(m0:Int)(b0:Int)(aN:Int→Int→Option (Int))(i1:Int)  {kk:Nat}(iH:uR cf m kk)(gz:ay (.fn en aW) = .fn en aW)(hH:∀h K,Has h (K++L)→∀(a0:Int) (a1:Int) r,aN a0 a1=some r→cf en ([.int .i64 a0,.int .i64 a1]++aW) h=some (.int .i64 r,h))  : bI Tryd.prog cf ll m (sub [0,1,0,1,1,1,0,1,0,0] (codeOf Tryd.f120)) (fun k (σ:(List Int) × Int)=>aA.l1 m i1 k σ.1 σ.2) (fun σ s=>match σ with | (bl,k0)=>∃h2,s=⟨.rs aB 0 aq.length 1::re (.int .i64 i1 :: .any :: .any :: .int .i64 k0::Py []),[],h2⟩∧Has h2 ((aB,.sl aq.length 1 (aa.l bl))::L)) (fun out e s=>(e = .exit 2∧∃bl k0,(bl,k0)=out∧∃kp tv nQ PR h2,s=⟨kp::re (tv :: .any :: .any::nQ::rE (PR::uN [])),[],h2⟩∧Has h2 ((aB,.sl aq.length 1 (aa.l bl))::L))):=by
 refine gS (fun _=>rfl) ?_
 rintro k ⟨bl,k0⟩ s out ⟨h2,rfl,o2⟩ H
 have H:aA.l1 m i1 (k+1) bl k0=some out:=H
 refine qq <| qq <| q0 <| qc H (fun c3 H=>?_) (fun c3 H=>?_)
 ·refine qk <| qq <| qb 3 ?_
  obtain⟨v2,e4,H⟩:=aJ H
  obtain⟨v3,e5,H⟩:=aJ H
  obtain⟨v4,e6,H⟩:=aJ H
  obtain⟨h3,e7,o3⟩:=dJ (P:=Tryd.prog) (tf:=3) (E:=aa) (l:=bl) (q:=0) (v:=v2) (x:=.int .i64 v2) o2 rfl Z3 e6 rfl rfl
  obtain⟨v5,e8,H⟩:=aJ H
  obtain⟨h4,e9,o4⟩:=dJ (P:=Tryd.prog) (tf:=3) (E:=aa) (l:=(bl.set k0.toNat v2)) (q:=0) (v:=v3) (x:=.int .i64 v3) o3 rfl Z3 e8 rfl rfl
  exact qr [.v 8 (aH (k:=.i64) (E:=aa) (l:=bl) (q:=0) dC o2 rfl e4),.v 9 (bg  (E:=aa) (l:=bl) (q:=0) o2 rfl A3 e4 rfl),.v 12 (aH (k:=.i64) (E:=aa) (l:=bl) (q:=0) dC o2 rfl e5),.v 13 (bg  (E:=aa) (l:=bl) (q:=0) o2 rfl A3 e5 rfl),.v 14 (aH (k:=.i64) (E:=aa) (l:=bl) (q:=0) dC o2 rfl e6),.w 15 e7,.v 16 (aH (k:=.i64) (E:=aa) (l:=(bl.set k0.toNat v2)) (q:=0) dC o3 rfl e8),.w 17 e9] <| q0 <| ⟨((bl.set k0.toNat v2).set (i64.wrap (k0+(1:Int))).toNat v3,i64.wrap (k0+(1:Int))),⟨h4,by kernel_rfl,o4⟩,H⟩
 ·exact qx 2 <| ⟨rfl,bl,k0,oi H,.rs aB 0 aq.length 1,.int .i64 i1,.int .i64 k0,.bool (decide (k0<(i64.wrap (i1 - (1:Int))))),h2,by kernel_rfl,o2⟩
theorem aA.pe (L:Mem)(aB:Nat)(en:FuncId)(aW:List AV)(aq:List Int)(a0:Int)(m0:Int)(b0:Int)(aN:Int→Int→Option (Int))  {kk:Nat}(iH:uR cf m kk)(gz:ay (.fn en aW) = .fn en aW)(hH:∀h K,Has h (K++L)→∀(a0:Int) (a1:Int) r,aN a0 a1=some r→cf en ([.int .i64 a0,.int .i64 a1]++aW) h=some (.int .i64 r,h))  : bI Tryd.prog cf ll m (sub [1,0,1,0,1,1,0,0,0] (codeOf Tryd.f120)) (fun k (σ:Int × Int)=>aA.l2 m aq m0 aN k σ.1 σ.2) (fun σ s=>match σ with | (i2,j2)=>∃h6,s=⟨.rs aB 0 aq.length 1 :: .any :: .int .i64 m0 :: .any :: .fn en aW::re (.int .i64 i2 :: .int .i64 j2::Px []),[],h6⟩∧Has h6 ((aB,.sl aq.length 1 (aa.l aq))::L)) (fun out e s=>(e = .exit 4∧∃i2 j2,(i2,j2)=out∧∃Dz tK PS h6,s=⟨.rs aB 0 aq.length 1 :: .any :: .int .i64 m0 :: .any::Dz::re (.int .i64 i2::tK::rE (PS::rf [])),[],h6⟩∧Has h6 ((aB,.sl aq.length 1 (aa.l aq))::L))):=by
 refine gS (fun _=>rfl) ?_
 rintro k ⟨i2,j2⟩ s out ⟨h6,rfl,o6⟩ H
 have H:aA.l2 m aq m0 aN (k+1) i2 j2=some out:=H
 refine qq <| qq <| q0 <| qc H (fun c5 H=>?_) (fun c5 H=>?_)
 ·refine qk <| qb 5 <| qq <| q0 <| qq ?_
  obtain⟨v6,rn,H⟩:=aJ H
  obtain⟨v7,si,H⟩:=aJ H
  obtain⟨r1,sj,H⟩:=aJ H
  refine qr [.v 3 (aH (k:=.i64) (E:=aa) (l:=aq) (q:=0) dC o6 rfl rn),.v 4 (bg  (E:=aa) (l:=aq) (q:=0) o6 rfl A3 rn rfl),.v 7 (aH (k:=.i64) (E:=aa) (l:=aq) (q:=0) dC o6 rfl si),.v 8 (bg  (E:=aa) (l:=aq) (q:=0) o6 rfl A3 si rfl),.a 9 (hH h6 [(aB,.sl aq.length 1 (aa.l aq))] o6 _ _ _ sj)] <| qc H (fun c6 H=>?_) (fun c6 H=>?_)
  ·exact q0 <| ⟨(i64.wrap (i64.wrap (gj .u64 (u64.wrap (i64.wrap (i2+j2))) 1)+(1:Int)),j2),⟨h6,by kernel_rfl,o6⟩,H⟩
  ·exact q0 <| ⟨(i2,i64.wrap (gj .u64 (u64.wrap (i64.wrap (i2+j2))) 1)),⟨h6,by kernel_rfl,o6⟩,H⟩
 ·exact qx 4 <| ⟨rfl,i2,j2,oi H,.fn en aW,.int .i64 j2,.bool (decide (i2<j2)),h6,by kernel_rfl,o6⟩
theorem aA.tL (L:Mem)(aB:Nat)(en:FuncId)(aW:List AV)(aq:List Int)(a0:Int)(m0:Int)(b0:Int)(aN:Int→Int→Option (Int))(i3:Int)  {kk:Nat}(iH:uR cf m kk)(gz:ay (.fn en aW) = .fn en aW)(hH:∀h K,Has h (K++L)→∀(a0:Int) (a1:Int) r,aN a0 a1=some r→cf en ([.int .i64 a0,.int .i64 a1]++aW) h=some (.int .i64 r,h))  : bI Tryd.prog cf ll m (sub [1,0,1,0,1,1,1,0,1,0,0] (codeOf Tryd.f120)) (fun k (σ:(List Int) × Int)=>aA.l3 m i3 k σ.1 σ.2) (fun σ s=>match σ with | (dq,k2)=>∃h8,s=⟨.rs aB 0 aq.length 1::rf (.int .i64 i3 :: .any :: .any :: .int .i64 k2::MD []),[],h8⟩∧Has h8 ((aB,.sl aq.length 1 (aa.l dq))::L)) (fun out e s=>(e = .exit 6∧∃dq k2,(dq,k2)=out∧∃kp w7 w8 MW h8,s=⟨kp::rf (w7 :: .any :: .any::w8::rE (MW::Ha [])),[],h8⟩∧Has h8 ((aB,.sl aq.length 1 (aa.l dq))::L))):=by
 refine gS (fun _=>rfl) ?_
 rintro k ⟨dq,k2⟩ s out ⟨h8,rfl,o8⟩ H
 have H:aA.l3 m i3 (k+1) dq k2=some out:=H
 refine qq <| qq <| q0 <| qc H (fun c7 H=>?_) (fun c7 H=>?_)
 ·refine qk <| qq <| qb 7 ?_
  obtain⟨v8,uz,H⟩:=aJ H
  obtain⟨v9,xM,H⟩:=aJ H
  obtain⟨v10,w9,H⟩:=aJ H
  obtain⟨h9,BY,o9⟩:=dJ (P:=Tryd.prog) (tf:=3) (E:=aa) (l:=dq) (q:=0) (v:=v8) (x:=.int .i64 v8) o8 rfl Z3 w9 rfl rfl
  obtain⟨v11,xb,H⟩:=aJ H
  obtain⟨h10,BZ,uQ⟩:=dJ (P:=Tryd.prog) (tf:=3) (E:=aa) (l:=(dq.set k2.toNat v8)) (q:=0) (v:=v9) (x:=.int .i64 v9) o9 rfl Z3 xb rfl rfl
  exact qr [.v 8 (aH (k:=.i64) (E:=aa) (l:=dq) (q:=0) dC o8 rfl uz),.v 9 (bg  (E:=aa) (l:=dq) (q:=0) o8 rfl A3 uz rfl),.v 12 (aH (k:=.i64) (E:=aa) (l:=dq) (q:=0) dC o8 rfl xM),.v 13 (bg  (E:=aa) (l:=dq) (q:=0) o8 rfl A3 xM rfl),.v 14 (aH (k:=.i64) (E:=aa) (l:=dq) (q:=0) dC o8 rfl w9),.w 15 BY,.v 16 (aH (k:=.i64) (E:=aa) (l:=(dq.set k2.toNat v8)) (q:=0) dC o9 rfl xb),.w 17 BZ] <| q0 <| ⟨((dq.set k2.toNat v8).set (i64.wrap (k2 - (1:Int))).toNat v9,i64.wrap (k2 - (1:Int))),⟨h10,by kernel_rfl,uQ⟩,H⟩
 ·exact qx 6 <| ⟨rfl,dq,k2,oi H,.rs aB 0 aq.length 1,.int .i64 i3,.int .i64 k2,.bool (decide (k2 > i3)),h8,by kernel_rfl,o8⟩
theorem aA.tM (L:Mem)(aB:Nat)(en:FuncId)(aW:List AV)(aq:List Int)(a0:Int)(m0:Int)(b0:Int)(aN:Int→Int→Option (Int))  {kk:Nat}(iH:uR cf m kk)(gz:ay (.fn en aW) = .fn en aW)(hH:∀h K,Has h (K++L)→∀(a0:Int) (a1:Int) r,aN a0 a1=some r→cf en ([.int .i64 a0,.int .i64 a1]++aW) h=some (.int .i64 r,h))  : bI Tryd.prog cf ll m (sub [1,1,1,1,1,1,1,0,0,0] (codeOf Tryd.f120)) (fun k (σ:Int × Int)=>aA.l4 m aq a0 m0 b0 aN k σ.1 σ.2) (fun σ s=>match σ with | (fN,r3)=>∃h13,s=⟨.rs aB 0 aq.length 1 :: .int .i64 a0 :: .int .i64 m0 :: .int .i64 b0 :: .fn en aW::rf (.int .i64 (i64.wrap (gj .u64 (u64.wrap (i64.wrap (a0+b0))) 1)) :: .int .i64 (i64.wrap (i64.wrap (gj .u64 (u64.wrap (i64.wrap (a0+b0))) 1)+m0)) :: .int .i64 fN :: .int .i64 r3 :: .int .i64 (i64.wrap (i64.wrap (i64.wrap (gj .u64 (u64.wrap (i64.wrap (a0+b0))) 1)+m0) - (1:Int)))::Dl []),[],h13⟩∧Has h13 ((aB,.sl aq.length 1 (aa.l aq))::L)) (fun out e s=>(e = .exit 8∧∃fN r3,(fN,r3)=out∧∃PT AD MX h13,s=⟨.rs aB 0 aq.length 1 :: .int .i64 a0 :: .int .i64 m0 :: .int .i64 b0 :: .fn en aW::rf (.int .i64 (i64.wrap (gj .u64 (u64.wrap (i64.wrap (a0+b0))) 1)) :: .int .i64 (i64.wrap (i64.wrap (gj .u64 (u64.wrap (i64.wrap (a0+b0))) 1)+m0)) :: .int .i64 fN::PT::AD::oV (MX::re [])),[],h13⟩∧Has h13 ((aB,.sl aq.length 1 (aa.l aq))::L))):=by
 refine gS (fun _=>rfl) ?_
 rintro k ⟨fN,r3⟩ s out ⟨h13,rfl,lK⟩ H
 have H:aA.l4 m aq a0 m0 b0 aN (k+1) fN r3=some out:=H
 refine qq <| qq <| q0 <| qc H (fun c9 H=>?_) (fun c9 H=>?_)
 ·refine qk <| qb 9 <| qq <| q0 <| qq ?_
  obtain⟨v12,D2,H⟩:=aJ H
  obtain⟨H5,Fv,H⟩:=aJ H
  obtain⟨r4,D3,H⟩:=aJ H
  refine qr [.v 5 (aH (k:=.i64) (E:=aa) (l:=aq) (q:=0) dC lK rfl D2),.v 6 (bg  (E:=aa) (l:=aq) (q:=0) lK rfl A3 D2 rfl),.v 9 (aH (k:=.i64) (E:=aa) (l:=aq) (q:=0) dC lK rfl Fv),.v 10 (bg  (E:=aa) (l:=aq) (q:=0) lK rfl A3 Fv rfl),.a 11 (hH h13 [(aB,.sl aq.length 1 (aa.l aq))] lK _ _ _ D3)] <| qc H (fun uP H=>?_) (fun uP H=>?_)
  ·exact q0 <| ⟨(i64.wrap (i64.wrap (gj .u64 (u64.wrap (i64.wrap (fN+r3))) 1)+(1:Int)),r3),⟨h13,by kernel_rfl,lK⟩,H⟩
  ·exact q0 <| ⟨(fN,i64.wrap (gj .u64 (u64.wrap (i64.wrap (fN+r3))) 1)),⟨h13,by kernel_rfl,lK⟩,H⟩
 ·exact qx 8 <| ⟨rfl,fN,r3,oi H,.int .i64 r3,.int .i64 (i64.wrap (i64.wrap (i64.wrap (gj .u64 (u64.wrap (i64.wrap (a0+b0))) 1)+m0) - (1:Int))),.bool (decide (fN<r3)),h13,by kernel_rfl,lK⟩
theorem tN {aS:FuncId→cg}(ha:aS 120=ll)(MY:MO cf m)(aq:List Int)(a0:Int)(m0:Int)(b0:Int)(aN:Int→Int→Option (Int))(h:AHeap)(L:Mem)(aB:Nat)(en:FuncId)(aW:List AV)  {kk:Nat}(iH:uR cf m kk)(gz:ay (.fn en aW) = .fn en aW)(hH:∀h K,Has h (K++L)→∀(a0:Int) (a1:Int) r,aN a0 a1=some r→cf en ([.int .i64 a0,.int .i64 a1]++aW) h=some (.int .i64 r,h))(o:Has h ((aB,.sl aq.length 1 (aa.l aq))::L)){out:(List Int)}(H:aA.f m (kk+1) aq a0 m0 b0 aN=some out) :
  ∃r h',a7 Tryd.prog aS cf m 120 [.rs aB 0 aq.length 1,.int .i64 a0,.int .i64 m0,.int .i64 b0,.fn en aW] h=some (r,h')∧r = .tup []∧Has h' ((aB,.sl aq.length 1 (aa.l out))::L):=by
 refine ak (fn:=Tryd.f120) ha Tryd.func120 (by kernel_rfl) (by kernel_rfl) ?_
 refine aF (Q:=fun s=>aA.fin L aB aq a0 m0 b0 aN out s) (fun _ _ ⟨h1,h2,h3⟩=>⟨h1,_,h2,rfl,h3⟩) ?_
 have H:aA.b m (aA.f m kk) aq a0 m0 b0 aN=some out:=H
 unfold aA.b at H
 show de _ cf ll m _ ⟨.rs aB 0 aq.length 1 :: .int .i64 a0 :: .int .i64 m0 :: .int .i64 b0 :: .fn en aW::PA [],[],h⟩ _
 refine qq <| qq <| q0 <| qc H (fun c0 H=>?_) (fun c0 H=>?_)
 ·refine q1 <| qq <| q0 <| qq <| qb 0 ?_
  obtain⟨bq,e3,H⟩:=aJ H
  refine ql (aA.bG L aB en aW aq a0 m0 b0 aN  iH gz hH  (m0,b0) _ _ ⟨h,by kernel_rfl,o⟩ e3) ?_
  rintro e s ⟨rfl,i1,j1,rfl,g0,g1,g2,h1,rfl,o1⟩
  try dsimp only at H
  refine qq <| qq <| q0 <| qb 2 ?_
  obtain⟨cq,mU,H⟩:=aJ H
  refine ql (aA.fu L aB en aW aq a0 m0 b0 aN i1  iH gz hH  (aq,a0) _ _ ⟨h1,by kernel_rfl,o1⟩ mU) ?_
  rintro e s ⟨rfl,da,k1,rfl,g3,g4,g5,g6,h5,rfl,o5⟩
  try dsimp only at H
  obtain rfl:=oi H
  exact qt <| ⟨.inl rfl,⟨by kernel_rfl,he o5⟩⟩
 ·refine qk <| qq <| qq <| q0 <| qc H (fun c4 H=>?_) (fun c4 H=>?_)
  ·refine q1 <| qq <| q0 <| qq <| qb 4 ?_
   obtain⟨jm,uS,H⟩:=aJ H
   refine ql (aA.pe L aB en aW aq a0 m0 b0 aN  iH gz hH  (a0,m0) _ _ ⟨h,by kernel_rfl,o⟩ uS) ?_
   rintro e s ⟨rfl,i3,j3,rfl,g7,g8,g9,h7,rfl,o7⟩
   try dsimp only at H
   refine qq <| qq <| q0 <| qb 6 ?_
   obtain⟨pc,D4,H⟩:=aJ H
   refine ql (aA.tL L aB en aW aq a0 m0 b0 aN i3  iH gz hH  (aq,m0) _ _ ⟨h7,by kernel_rfl,o7⟩ D4) ?_
   rintro e s ⟨rfl,jv,k3,rfl,g10,g11,g12,g13,h11,rfl,vB⟩
   try dsimp only at H
   obtain rfl:=oi H
   exact qt <| ⟨.inl rfl,⟨by kernel_rfl,he vB⟩⟩
  ·refine qk <| qq <| q0 <| qq <| q0 <| qq <| q0 ?_
   obtain⟨Ok,SE,H⟩:=wV H
   refine qj (S:=fun (σ:Int × Int) s=>match σ with | (tJ,r2)=>∃(h12:AHeap),s=⟨.rs aB 0 aq.length 1 :: .int .i64 a0 :: .int .i64 m0 :: .int .i64 b0 :: .fn en aW::rf (.int .i64 (i64.wrap (gj .u64 (u64.wrap (i64.wrap (a0+b0))) 1)) :: .int .i64 (i64.wrap (i64.wrap (gj .u64 (u64.wrap (i64.wrap (a0+b0))) 1)+m0)) :: .int .i64 tJ :: .int .i64 r2::E6 []),[],h12⟩∧Has h12 ((aB,.sl aq.length 1 (aa.l aq))::L)) Ok H ?_ ?_
   ·rintro⟨tJ,r2⟩ s ⟨h12,rfl,tI⟩ H
    have H:=(SE _).symm.trans H
    try dsimp only at H
    refine q1 <| qq <| qb 8 ?_
    obtain⟨cP,Fw,H⟩:=aJ H
    refine ql (aA.tM L aB en aW aq a0 m0 b0 aN  iH gz hH  (tJ,r2) _ _ ⟨h12,by kernel_rfl,tI⟩ Fw) ?_
    rintro e s ⟨rfl,eP,r5,rfl,g14,g15,g16,h14,rfl,yL⟩
    try dsimp only at H
    refine q1 ?_
    obtain⟨MV,Oj,H⟩:=wV H
    refine qj (S:=fun (σ:(List Int)) s=>match σ with | kM=>∃(g17:AV) (g18:AV) (h16:AHeap),s=⟨.rs aB 0 aq.length 1 :: .int .i64 a0::g17 :: .int .i64 b0 :: .fn en aW::rf (.int .i64 (i64.wrap (gj .u64 (u64.wrap (i64.wrap (a0+b0))) 1)) :: .any :: .int .i64 eP::jW (.int .i64 (i64.wrap (i64.wrap (i64.wrap (gj .u64 (u64.wrap (i64.wrap (a0+b0))) 1)+m0) - eP))::oV [g18,.any,.any])),[],h16⟩∧Has h16 ((aB,.sl aq.length 1 (aa.l kM))::L)) MV H ?_ ?_
    ·rintro kM s ⟨g17,g18,h16,rfl,lQ⟩ H
     have H:=(Oj _).symm.trans H
     try dsimp only at H
     obtain⟨MU,Ey,H⟩:=wV H
     refine qj (S:=fun (σ:(List Int)) s=>match σ with | pd=>∃(g19:AV) (g20:AV) (g21:AV) (h18:AHeap),s=⟨.rs aB 0 aq.length 1::g19 :: .any :: .int .i64 b0 :: .fn en aW::rf (.int .i64 (i64.wrap (gj .u64 (u64.wrap (i64.wrap (a0+b0))) 1)) :: .any::g20::jW (.int .i64 (i64.wrap (i64.wrap (i64.wrap (gj .u64 (u64.wrap (i64.wrap (a0+b0))) 1)+m0) - eP))::mS [g21,.any])),[],h18⟩∧Has h18 ((aB,.sl aq.length 1 (aa.l pd))::L)) MU H ?_ ?_
     ·rintro pd s ⟨g19,g20,g21,h18,rfl,DA⟩ H
      have H:=(Ey _).symm.trans H
      try dsimp only at H
      refine qq ?_
      rcases dw H with⟨Ds,H⟩| ⟨Ds,H⟩
      ·refine qr [.b 3 Ds] <| qc H (fun Kr H=>?_) (fun Kr H=>?_)
       ·obtain⟨x2,Fx,H⟩:=aJ H
        obtain⟨h19,H6,DB⟩:=iH _ _ _ _ _ _ Fx h18 _ _ _ (DA) en aW gz (fun h' K' o'=>hH h' (K'++[]) (by simpa only [W3,Xe,Xm] using o')) [.rs aB 0 aq.length 1,.int .i64 (i64.wrap (gj .u64 (u64.wrap (i64.wrap (a0+b0))) 1)),.int .i64 (i64.wrap (i64.wrap (i64.wrap (gj .u64 (u64.wrap (i64.wrap (a0+b0))) 1)+m0) - eP)),.int .i64 b0,.fn en aW] (ao (rfl) (ao (aO (bD)) (ao (aO (bD)) (ao (aO (bD)) (ao (gz) (bj))))))
        obtain rfl:=oi H
        exact qr [.a 5 H6] <| ⟨.inr rfl,⟨by kernel_rfl,he DB⟩⟩
       ·obtain rfl:=oi H
        exact qk <| ⟨.inr rfl,⟨by kernel_rfl,he DA⟩⟩
      ·obtain rfl:=oi H
       exact qr [.b 3 Ds] <| Dq <| qk <| ⟨.inr rfl,⟨by kernel_rfl,he DA⟩⟩
     clear Ey
     intro Ks
     refine qq ?_
     rcases dw H with⟨og,H⟩| ⟨og,H⟩
     ·refine qr [.b 3 og] <| qc H (fun xL H=>?_) (fun xL H=>?_)
      ·obtain⟨x1,Fy,H⟩:=aJ H
       obtain⟨h17,Fz,AE⟩:=iH _ _ _ _ _ _ Fy h16 _ _ _ (lQ) en aW gz (fun h' K' o'=>hH h' (K'++[]) (by simpa only [W3,Xe,Xm] using o')) [.rs aB 0 aq.length 1,.int .i64 a0,.int .i64 eP,.int .i64 (i64.wrap (gj .u64 (u64.wrap (i64.wrap (a0+b0))) 1)),.fn en aW] (ao (rfl) (ao (aO (bD)) (ao (aO (bD)) (ao (aO (bD)) (ao (gz) (bj))))))
       exact qr [.a 5 Fz] <| Ks x1 _ ⟨.any,.any,.any,h17,by kernel_rfl,AE⟩ H
      ·exact qk <| Ks kM _ ⟨.int .i64 a0,.int .i64 eP,.bool (decide (eP<(i64.wrap (gj .u64 (u64.wrap (i64.wrap (a0+b0))) 1)))),h16,by kernel_rfl,lQ⟩ H
     ·exact qr [.b 3 og] <| Dq <| qk <| Ks kM _ ⟨.int .i64 a0,.int .i64 eP,.bool false,h16,by kernel_rfl,lQ⟩ H
    clear Oj
    intro Kt
    refine qq ?_
    rcases dw H with⟨ml,H⟩| ⟨ml,H⟩
    ·refine qr [.b 3 ml] <| qc H (fun qm H=>?_) (fun qm H=>?_)
     ·obtain⟨x0,FA,H⟩:=aJ H
      obtain⟨h15,He,zO⟩:=MY _ _ _ _ _ _ FA h14 _ _ _ (yL) en aW gz (fun h' K' o'=>hH h' (K'++[]) (by simpa only [W3,Xe,Xm] using o')) [.rs aB 0 aq.length 1,.int .i64 eP,.int .i64 m0,.int .i64 (i64.wrap (i64.wrap (i64.wrap (gj .u64 (u64.wrap (i64.wrap (a0+b0))) 1)+m0) - eP)),.fn en aW] (ao (rfl) (ao (aO (bD)) (ao (aO (bD)) (ao (aO (bD)) (ao (gz) (bj))))))
      exact qr [.a 5 He] <| Kt x0 _ ⟨.any,.any,h15,by kernel_rfl,zO⟩ H
     ·exact qk <| Kt aq _ ⟨.int .i64 m0,.bool (decide (m0<(i64.wrap (i64.wrap (i64.wrap (gj .u64 (u64.wrap (i64.wrap (a0+b0))) 1)+m0) - eP)))),h14,by kernel_rfl,yL⟩ H
    ·exact qr [.b 3 ml] <| Dq <| qk <| Kt aq _ ⟨.int .i64 m0,.bool false,h14,by kernel_rfl,yL⟩ H
   clear SE
   intro MZ
   refine q1 <| qc H (fun c8 H=>?_) (fun c8 H=>?_)
   ·exact q1 <| q0 <| MZ (i64.wrap (i64.wrap (i64.wrap (gj .u64 (u64.wrap (i64.wrap (a0+b0))) 1)+m0) - b0),i64.wrap (gj .u64 (u64.wrap (i64.wrap (a0+b0))) 1)) _ ⟨h,by kernel_rfl,o⟩ H
   ·exact q1 <| q0 <| MZ (a0,m0) _ ⟨h,by kernel_rfl,o⟩ H
end
end Go.Proofs.YtmekcfdllhphlaaDoor
namespace Go.Proofs.YtmekcfdllhphlaaDoor
open Go Go.R
open Go.IntKind (i64 u64 u8 u32)
theorem FB {α β:Type}{B:α→Option β}{c1 c2:Bool}{X:Option α}{d0:α}{G:β→Prop}(D:α→Prop)(h1:c1=true→c2=true→∃x,X=some x∧D x)(h0:¬(c1=true∧c2=true)→D d0)
  (h:∀x,D x→∃d,B x=some d∧G d):∃d,jn B (fun j=>if c1=true then (if c2=true then (X.bind fun x0=>j x0) else j d0) else j d0)=some d∧G d:=by
 unfold jn
 dsimp only
 by_cases a1:c1=true
 ·by_cases a2:c2=true
  ·obtain⟨x,e,hx⟩:=h1 a1 a2
   rw [if_pos a1,if_pos a2,e]; exact h x hx
  ·rw [if_pos a1,if_neg a2]; exact h _ (h0 fun z=>a2 z.2)
 ·rw [if_neg a1]; exact h _ (h0 fun z=>a1 z.1)
theorem PU {α:Type}{c1 c2:Bool}{X:Option α}{d0:α}{G:α→Prop}(h1:c1=true→c2=true→∃x,X=some x∧G x)(h0:¬(c1=true∧c2=true)→G d0) :
  ∃d,(if c1=true then (if c2=true then (X.bind fun x0=>some x0) else some d0) else some d0)=some d∧G d:=by
 by_cases a1:c1=true
 ·by_cases a2:c2=true
  ·obtain⟨x,e,hx⟩:=h1 a1 a2
   rw [if_pos a1,if_pos a2,e]; exact⟨x,rfl,hx⟩
  ·rw [if_pos a1,if_neg a2]; exact⟨_,rfl,h0 fun z=>a2 z.2⟩
 ·rw [if_neg a1]; exact⟨_,rfl,h0 fun z=>a1 z.1⟩
theorem Ku {α β:Type}{B:α→Option β}{c:Bool}{x y:α}{G:β→Prop}(h:∀z,(c=true∧z=x)∨(c=false∧z=y)→∃d,B z=some d∧G d):∃d,jn B (fun j=>if c=true then j x else j y)=some d∧G d:=by
 unfold jn
 dsimp only
 cases c with
 | true=>exact h _ (.inl ⟨rfl,rfl⟩)
 | false=>exact h _ (.inr ⟨rfl,rfl⟩)
theorem Ord.refl {c:Int→Int→Int}{l:List Int}(O:Ord c l){x:Int}(hx:x∈l):0≤c x x:=by
 by_cases h:c x x<0
 ·exact O.LA x hx x hx h
 ·omega
theorem Sg.le {c:Int→Int→Int}{l:List Int}{a b:Nat}(S:Sg c l a b)(O:Ord c l){i j:Nat}(h1:a≤i)(h2:i≤j)(h3:j<b)(h4:b≤l.length):0≤c (gt l j) (gt l i):=by
 by_cases h:i=j
 ·subst h; exact O.refl (aM (by omega))
 ·exact S i j h1 (by omega) h3
section
variable {m:Nat}{cmp:Int→Int→Option Int}{c:Int→Int→Int}
theorem AF {l:List Int}{a:Nat}(ha:a<l.length)(hs:l.length<2 ^ 40)(C:Cm cmp c l):∀(f i j:Nat),j - i<f→i≤j→j≤l.length→
  ∃x:Nat,aA.l0 m l (a:Int) cmp f (i:Int) (j:Int)=some ((x:Int),(x:Int))∧i≤x∧x≤j∧(i<x→c (gt l (x - 1)) (gt l a)<0)∧(x<j→0≤c (gt l x) (gt l a))
 | 0,i,j,hf,_,_=>absurd hf (by omega)
 | f+1,i,j,hf,h1,h2=>by
  have nR:(2:Nat) ^ 40=1099511627776:=by decide
  unfold aA.l0
  by_cases h:i<j
  ·have hh:=yK (a:=i) (b:=j) (by omega)
   rw [if_pos (by simp; omega),hh,cC (by omega),cC ha,WL,WL,C.at (by omega) ha,WL]
   by_cases g:c (gt l ((i+j) / 2)) (gt l a)<0
   ·obtain⟨x,e,x1,x2,x3,x4⟩:=AF ha hs C f ((i+j) / 2+1) j (by omega) (by omega) h2
    rw [if_pos (by simpa using g),aD (by omega) (by omega),show (((i+j) / 2:Nat):Int)+1=(((i+j) / 2+1:Nat):Int) by omega,e]
    refine⟨x,rfl,by omega,x2,fun _=>?_,x4⟩
    by_cases hx:x=(i+j) / 2+1
    ·rw [hx]; simpa using g
    ·exact x3 (by omega)
   ·obtain⟨x,e,x1,x2,x3,x4⟩:=AF ha hs C f i ((i+j) / 2) (by omega) (by omega) (by omega)
    rw [if_neg (by simpa using g),e]
    refine⟨x,rfl,x1,by omega,x3,fun _=>?_⟩
    by_cases hx:x=(i+j) / 2
    ·rw [hx]; omega
    ·exact x4 (by omega)
  ·have:i=j:=by omega
   subst this
   exact⟨i,by rw [if_neg (by simp)],WQ _,WQ _,fun h=>absurd h (by omega),fun h=>absurd h (by omega)⟩
theorem AG {l:List Int}{q:Nat}(hq:q<l.length)(hs:l.length<2 ^ 40)(C:Cm cmp c l):∀(f i j:Nat),j - i<f→i≤j→j≤l.length→
  ∃x:Nat,aA.l2 m l (q:Int) cmp f (i:Int) (j:Int)=some ((x:Int),(x:Int))∧i≤x∧x≤j∧(i<x→0≤c (gt l q) (gt l (x - 1)))∧(x<j→c (gt l q) (gt l x)<0)
 | 0,i,j,hf,_,_=>absurd hf (by omega)
 | f+1,i,j,hf,h1,h2=>by
  have nR:(2:Nat) ^ 40=1099511627776:=by decide
  unfold aA.l2
  by_cases h:i<j
  ·have hh:=yK (a:=i) (b:=j) (by omega)
   rw [if_pos (by simp; omega),hh,cC hq,cC (by omega),WL,WL,C.at hq (by omega),WL]
   by_cases g:c (gt l q) (gt l ((i+j) / 2))<0
   ·obtain⟨x,e,x1,x2,x3,x4⟩:=AG hq hs C f i ((i+j) / 2) (by omega) (by omega) (by omega)
    rw [if_neg (by simpa using g),e]
    refine⟨x,rfl,x1,by omega,x3,fun _=>?_⟩
    by_cases hx:x=(i+j) / 2
    ·rw [hx]; omega
    ·exact x4 (by omega)
   ·obtain⟨x,e,x1,x2,x3,x4⟩:=AG hq hs C f ((i+j) / 2+1) j (by omega) (by omega) h2
    rw [if_pos (by simpa using g),aD (by omega) (by omega),show (((i+j) / 2:Nat):Int)+1=(((i+j) / 2+1:Nat):Int) by omega,e]
    refine⟨x,rfl,by omega,x2,fun _=>?_,x4⟩
    by_cases hx:x=(i+j) / 2+1
    ·rw [hx]; simp; omega
    ·exact x3 (by omega)
  ·have:i=j:=by omega
   subst this
   exact⟨i,by rw [if_neg (by simp)],WQ _,WQ _,fun h=>absurd h (by omega),fun h=>absurd h (by omega)⟩
theorem FC {l:List Int}{a x:Nat}(hx:x≤l.length)(PV:a<x)(hs:l.length<2 ^ 40):∀(f k:Nat) (d:List Int),x - k<f→a≤k→k<x→Mv a x l d→
  (∀t,gt d t=if a≤t∧t<k then gt l (t+1) else if t=k then gt l a else gt l t)→
  ∃d' y,aA.l1 m (x:Int) f d (k:Int)=some (d',y)∧Mv a x l d'∧∀t,gt d' t=if a≤t∧t+1<x then gt l (t+1) else if t+1=x then gt l a else gt l t
 | 0,k,d,hf,_,_,_,_=>absurd hf (by omega)
 | f+1,k,d,hf,h1,h2,M,hg=>by
  have nR:(2:Nat) ^ 40=1099511627776:=by decide
  have hl:=M.length
  unfold aA.l1
  have e0:i64.wrap ((x:Int) - 1)=((x - 1:Nat):Int):=by rw [aD (by omega) (by omega)]; omega
  rw [e0]
  by_cases h:k<x - 1
  ·have e1:i64.wrap ((k:Int)+1)=((k+1:Nat):Int):=by rw [aD (by omega) (by omega)]; omega
   rw [if_pos (by simp; omega),e1,cC (by omega),cC (by omega),WL,WL,WL,WT,WT,cC (by simp; omega),WL]
   refine FC hx PV hs f (k+1) (Fj d k (k+1)) (by omega) (by omega) (by omega) (M.trans (AB (by omega) (by omega) (by omega) (by omega) (by omega))) fun t=>?_
   rw [lk (by omega) (by omega),hg k,hg (k+1),hg t]
   by_cases t1:t=k+1
   ·subst t1; rw [if_pos rfl,if_neg (by omega),if_pos rfl,if_neg (by omega),if_pos rfl]
   ·rw [if_neg t1]
    by_cases t2:t=k
    ·subst t2; rw [if_pos rfl,if_neg (by omega),if_neg (by omega),if_pos (by omega)]
    ·rw [if_neg t2,if_neg t2,if_neg t1]
     by_cases t3:a≤t∧t<k
     ·rw [if_pos t3,if_pos (by omega)]
     ·rw [if_neg t3,if_neg (by omega)]
  ·refine⟨d,k,by rw [if_neg (by simp; omega)],M,fun t=>?_⟩
   rw [hg]
   by_cases t3:a≤t∧t<k
   ·rw [if_pos t3,if_pos (by omega)]
   ·rw [if_neg t3,if_neg (show ¬(a≤t∧t+1<x) by omega)]
    by_cases t4:t=k
    ·rw [if_pos t4,if_pos (by omega)]
    ·rw [if_neg t4,if_neg (by omega)]
theorem FD {l:List Int}{q x:Nat}(hx:q<l.length)(PV:x≤q)(hs:l.length<2 ^ 40):∀(f k:Nat) (d:List Int),k - x<f→x≤k→k≤q→Mv x (q+1) l d→
  (∀t,gt d t=if k<t∧t≤q then gt l (t - 1) else if t=k then gt l q else gt l t)→
  ∃d' y,aA.l3 m (x:Int) f d (k:Int)=some (d',y)∧Mv x (q+1) l d'∧∀t,gt d' t=if x<t∧t≤q then gt l (t - 1) else if t=x then gt l q else gt l t
 | 0,k,d,hf,_,_,_,_=>absurd hf (by omega)
 | f+1,k,d,hf,h1,h2,M,hg=>by
  have nR:(2:Nat) ^ 40=1099511627776:=by decide
  have hl:=M.length
  unfold aA.l3
  by_cases h:x<k
  ·have e1:i64.wrap ((k:Int) - 1)=((k - 1:Nat):Int):=by rw [aD (by omega) (by omega)]; omega
   rw [if_pos (by simp; omega),e1,cC (by omega),cC (by omega),WL,WL,WL,WT,WT,cC (by simp; omega),WL]
   refine FD hx PV hs f (k - 1) (Fj d k (k - 1)) (by omega) (by omega) (by omega) (M.trans (AB (by omega) (by omega) (by omega) (by omega) (by omega))) fun t=>?_
   rw [lk (by omega) (by omega),hg k,hg (k - 1),hg t]
   by_cases t1:t=k - 1
   ·subst t1; rw [if_pos rfl,if_neg (by omega),if_pos rfl,if_neg (by omega),if_pos rfl]
   ·rw [if_neg t1]
    by_cases t2:t=k
    ·subst t2; rw [if_pos rfl,if_neg (by omega),if_neg (by omega),if_pos (by omega)]
    ·rw [if_neg t2,if_neg t2,if_neg t1]
     by_cases t3:k<t∧t≤q
     ·rw [if_pos t3,if_pos (by omega)]
     ·rw [if_neg t3,if_neg (by omega)]
  ·have:k=x:=by omega
   subst this
   exact⟨d,k,by rw [if_neg (by simp)],M,hg⟩
theorem AH {l:List Int}{a b q:Nat}(Pb:a+b<2 ^ 42)(hs:l.length<2 ^ 40)(C:Cm cmp c l):∀(f s r:Nat),r - s<f→s≤r→r≤l.length→r≤(a+b) / 2+q→(a+b) / 2+q≤l.length+s→
  ∃x:Nat,aA.l4 m l (a:Int) (q:Int) (b:Int) cmp f (s:Int) (r:Int)=some ((x:Int),(x:Int))∧s≤x∧x≤r∧(s<x→0≤c (gt l ((a+b) / 2+q - x)) (gt l (x - 1)))∧(x<r→c (gt l ((a+b) / 2+q - x - 1)) (gt l x)<0)
 | 0,i,j,hf,_,_,_,_=>absurd hf (by omega)
 | f+1,s,r,hf,h1,h2,h3,h4=>by
  have nR:(2:Nat) ^ 40=1099511627776:=by decide
  have M0:(2:Nat) ^ 42=4398046511104:=by decide
  unfold aA.l4
  by_cases h:s<r
  ·have hh:=yK (a:=s) (b:=r) (by omega)
   have Pb:=yK (a:=a) (b:=b) (by omega)
   have e1:i64.wrap (i64.wrap (i64.wrap ((((a+b) / 2:Nat):Int)+(q:Int)) - 1) - (((s+r) / 2:Nat):Int))=(((a+b) / 2+q - (s+r) / 2 - 1:Nat):Int):=by
    rw [aD (x:=(((a+b) / 2:Nat):Int)+(q:Int)) (by omega) (by omega),aD (x:=(((a+b) / 2:Nat):Int)+(q:Int) - 1) (by omega) (by omega),aD (by omega) (by omega)]
    omega
   rw [if_pos (by simp; omega),hh,Pb,e1,cC (by omega),cC (by omega),WL,WL,C.at (by omega) (by omega),WL]
   by_cases g:c (gt l ((a+b) / 2+q - (s+r) / 2 - 1)) (gt l ((s+r) / 2))<0
   ·obtain⟨x,e,x1,x2,x3,x4⟩:=AH (a:=a) (b:=b) (q:=q) (by omega) hs C f s ((s+r) / 2) (by omega) (by omega) (by omega) (by omega) (by omega)
    rw [if_neg (by simpa using g),e]
    refine⟨x,rfl,x1,by omega,x3,fun _=>?_⟩
    by_cases hx:x=(s+r) / 2
    ·rw [hx]; exact g
    ·exact x4 (by omega)
   ·obtain⟨x,e,x1,x2,x3,x4⟩:=AH (a:=a) (b:=b) (q:=q) (by omega) hs C f ((s+r) / 2+1) r (by omega) (by omega) h2 h3 (by omega)
    rw [if_pos (by simpa using g),aD (by omega) (by omega),show (((s+r) / 2:Nat):Int)+1=(((s+r) / 2+1:Nat):Int) by omega,e]
    refine⟨x,rfl,by omega,x2,fun _=>?_,x4⟩
    by_cases hx:x=(s+r) / 2+1
    ·rw [hx,show (a+b) / 2+q - ((s+r) / 2+1)=(a+b) / 2+q - (s+r) / 2 - 1 by omega,Nat.add_sub_cancel]; omega
    ·exact x3 (by omega)
  ·have:s=r:=by omega
   subst this
   exact⟨s,by rw [if_neg (by simp)],WQ _,WQ _,fun h=>absurd h (by omega),fun h=>absurd h (by omega)⟩
end
end Go.Proofs.YtmekcfdllhphlaaDoor
namespace Go.Proofs.YtmekcfdllhphlaaDoor
open Go Go.R
open Go.IntKind (i64 u64 u8 u32)
section
variable {m:Nat}{cmp:Int→Int→Option Int}{c:Int→Int→Int}
theorem tO {l d:List Int}{a q b M E x:Nat}(h1:a≤x)(h2:x≤M)(h3:x≤q)(h4:q≤E)(h5:E≤b)(h6:E+x=M+q)(hb:b≤l.length)
  (R:Ly l d x (q - x) (E - q)) (O:Ord c l) (F1:a<x→E<b→0≤c (gt l E) (gt l (x - 1))) (F2:x<q→q<E→c (gt l (E - 1)) (gt l x)<0)
  (S1:Sg c l a q) (S2:Sg c l q b) :
  Sg c d a x∧Sg c d x M∧Sg c d M E∧Sg c d E b∧(∀i j,a≤i→i<M→M≤j→j<b→0≤c (gt d j) (gt d i)):=by
 obtain⟨R1,R2,R3,R4⟩:=R
 have g1:∀k,k<x→gt d k=gt l k:=fun k hk=>R4 k (.inl hk)
 have g2:∀k,x≤k→k<M→gt d k=gt l (q+(k - x)):=fun k hk pW=>by
  have:=R2 (k - x) (by omega)
  rw [show x+(k - x)=k by omega,show x+(q - x)+(k - x)=q+(k - x) by omega] at this
  exact this
 have g3:∀k,M≤k→k<E→gt d k=gt l (x+(k - M)):=fun k hk pW=>by
  have:=R3 (k - M) (by omega)
  rw [show x+(E - q)+(k - M)=k by omega] at this
  exact this
 have g4:∀k,E≤k→gt d k=gt l k:=fun k hk=>R4 k (.inr (by omega))
 refine⟨fun i j k1 k2 k3=>?_,fun i j k1 k2 k3=>?_,fun i j k1 k2 k3=>?_,fun i j k1 k2 k3=>?_,fun i j k1 k2 k3 k4=>?_⟩
 ·rw [g1 i (by omega),g1 j (by omega)]; exact S1 _ _ k1 k2 (by omega)
 ·rw [g2 i (by omega) (by omega),g2 j (by omega) (by omega)]; exact S2 _ _ (by omega) (by omega) (by omega)
 ·rw [g3 i (by omega) (by omega),g3 j (by omega) (by omega)]; exact S1 _ _ (by omega) (by omega) (by omega)
 ·rw [g4 i (by omega),g4 j (by omega)]; exact S2 _ _ (by omega) (by omega) (by omega)
 ·by_cases hi:i<x
  ·rw [g1 i hi]
   by_cases hj:j<E
   ·rw [g3 j k3 hj]; exact S1 _ _ k1 (by omega) (by omega)
   ·rw [g4 j (by omega)]
    have f1:=F1 (by omega) (by omega)
    have f2:=S1.le O k1 (show i≤x - 1 by omega) (by omega) (by omega)
    have f3:=S2.le O (show q≤E from h4) (show E≤j by omega) k4 hb
    exact O.tr _ (aM (by omega)) _ (aM (show E<l.length by omega)) _ (aM (by omega)) (O.tr _ (aM (by omega)) _ (aM (show x - 1<l.length by omega)) _ (aM (by omega)) f2 f1) f3
  ·rw [g2 i (by omega) k2]
   by_cases hj:j<E
   ·rw [g3 j k3 hj]
    have f1:=O.LA _ (aM (show E - 1<l.length by omega)) _ (aM (show x<l.length by omega)) (F2 (by omega) (by omega))
    have f2:=S2.le O (show q≤q+(i - x) by omega) (show q+(i - x)≤E - 1 by omega) (by omega) hb
    have f3:=S1.le O h1 (show x≤x+(j - M) by omega) (by omega) (by omega)
    exact O.tr _ (aM (by omega)) _ (aM (show x<l.length by omega)) _ (aM (by omega)) (O.tr _ (aM (by omega)) _ (aM (show E - 1<l.length by omega)) _ (aM (by omega)) f2 f1) f3
   ·rw [g4 j (by omega)]; exact S2 _ _ (by omega) (by omega) k4
theorem FE {l:List Int}{x i j:Nat}(h:i=0∨j=0):Ly l l x i j:=
 ⟨List.Perm.refl _,fun k hk=>by rw [show i=0 by omega,Nat.add_zero],fun k hk=>by rw [show j=0 by omega,Nat.add_zero],fun _ _=>rfl⟩
theorem Kv {l d:List Int}{x i j a b:Nat}(R:Ly l d x i j)(h1:a≤x)(h2:x+i+j≤b):Mv a b l d:=by
 obtain⟨R1,R2,R3,R4⟩:=R
 refine⟨R1,fun k hk=>R4 k (by omega),fun k k1 k2=>?_⟩
 by_cases g1:k<x∨x+i+j≤k
 ·exact⟨k,k1,k2,R4 k g1⟩
 ·by_cases g2:k<x+j
  ·have:=R2 (k - x) (by omega)
   rw [show x+(k - x)=k by omega] at this
   exact⟨_,by omega,by omega,this⟩
  ·have:=R3 (k - x - j) (by omega)
   rw [show x+j+(k - x - j)=k by omega] at this
   exact⟨_,by omega,by omega,this⟩
theorem pf (hm:2 ^ 41≤m):∀(f:Nat) (l:List Int) (a q b:Nat),b - a<f→a<q→q<b→b≤l.length→l.length<2 ^ 40→Cm cmp c l→
  ∃d,aA.f m f l (a:Int) (q:Int) (b:Int) cmp=some d∧Mv a b l d∧(Ord c l→Sg c l a q→Sg c l q b→Sg c d a b)
 | 0,l,a,q,b,hf,_,_,_,_,_=>absurd hf (by omega)
 | f+1,l,a,q,b,hf,h1,h2,h3,hs,C=>by
  have nR:(2:Nat) ^ 40=1099511627776:=by decide
  have rl:(2:Nat) ^ 41=2199023255552:=by decide
  have M0:(2:Nat) ^ 42=4398046511104:=by decide
  unfold aA.f
  unfold aA.b
  have e1:i64.wrap ((q:Int) - (a:Int))=((q - a:Nat):Int):=by rw [aD (by omega) (by omega)]; omega
  have e2:i64.wrap ((b:Int) - (q:Int))=((b - q:Nat):Int):=by rw [aD (by omega) (by omega)]; omega
  have hM:=yK (a:=a) (b:=b) (by omega)
  rw [e1,e2,hM]
  by_cases Wt:q - a=1
  ·obtain⟨x,k1,k2,k3,k4,k5⟩:=AF (m:=m) (a:=a) (by omega) hs C m q b (by omega) (by omega) h3
   obtain⟨d,y,g1,g2,g3⟩:=FC (m:=m) (l:=l) (a:=a) (x:=x) (by omega) (by omega) hs m a l (by omega) (WQ _) (by omega) Mv.refl (fun t=>by rw [if_neg (by omega)]; split<;>simp_all)
   rw [if_pos (by simp; omega),k1,WL]
   dsimp only
   rw [g1]
   refine⟨d,rfl,g2.wide (WQ _) k3,fun O S1 S2 i j r1 r2 r3=>?_⟩
   have A1:∀t,a≤t→t+1<x→gt d t=gt l (t+1):=fun t w1 w2=>by rw [g3 t,if_pos ⟨w1,w2⟩]
   have A2:∀t,t+1=x→gt d t=gt l a:=fun t w1=>by rw [g3 t,if_neg (by omega),if_pos w1]
   have A3:∀t,x≤t→gt d t=gt l t:=fun t w1=>by rw [g3 t,if_neg (by omega),if_neg (by omega)]
   by_cases i1:i+1<x
   ·rw [A1 i r1 i1]
    by_cases j1:j+1<x
    ·rw [A1 j (by omega) j1]; exact S2 _ _ (by omega) (by omega) (by omega)
    ·have f1:=O.LA _ (aM (show x - 1<l.length by omega)) _ (aM (show a<l.length by omega)) (k4 (by omega))
     have f2:=S2.le O (show q≤i+1 by omega) (show i+1≤x - 1 by omega) (by omega) h3
     by_cases j2:j+1=x
     ·rw [A2 j j2]
      exact O.tr _ (aM (by omega)) _ (aM (show x - 1<l.length by omega)) _ (aM (by omega)) f2 f1
     ·rw [A3 j (by omega)]; exact S2 _ _ (by omega) (by omega) (by omega)
   ·rw [A3 j (by omega)]
    by_cases i2:i+1=x
    ·rw [A2 i i2]
     have f1:=k5 (by omega)
     have f2:=S2.le O (show q≤x by omega) (show x≤j by omega) r3 h3
     exact O.tr _ (aM (by omega)) _ (aM (show x<l.length by omega)) _ (aM (by omega)) f1 f2
    ·rw [A3 i (by omega)]; exact S2 _ _ (by omega) r2 r3
  rw [if_neg (by simp; omega)]
  by_cases hb1:b - q=1
  ·obtain⟨x,k1,k2,k3,k4,k5⟩:=AG (m:=m) (q:=q) (by omega) hs C m a q (by omega) (by omega) (by omega)
   obtain⟨d,y,g1,g2,g3⟩:=FD (m:=m) (l:=l) (q:=q) (x:=x) (by omega) (by omega) hs m q l (by omega) (by omega) (WQ _) Mv.refl (fun t=>by rw [if_neg (by omega)]; split<;>simp_all)
   rw [if_pos (by simp; omega),k1,WL]
   dsimp only
   rw [g1]
   refine⟨d,rfl,g2.wide k2 (by omega),fun O S1 S2 i j r1 r2 r3=>?_⟩
   have A1:∀t,x<t→t≤q→gt d t=gt l (t - 1):=fun t w1 w2=>by rw [g3 t,if_pos ⟨w1,w2⟩]
   have A2:gt d x=gt l q:=by rw [g3 x,if_neg (by omega),if_pos rfl]
   have A3:∀t,t<x→gt d t=gt l t:=fun t w1=>by rw [g3 t,if_neg (by omega),if_neg (by omega)]
   by_cases i1:x<i
   ·rw [A1 i i1 (by omega),A1 j (by omega) (by omega)]
    exact S1 _ _ (by omega) (by omega) (by omega)
   ·by_cases i2:i=x
    ·subst i2
     rw [A2,A1 j (by omega) (by omega)]
     have f1:=O.LA _ (aM (show q<l.length by omega)) _ (aM (show i<l.length by omega)) (k5 (by omega))
     have f2:=S1.le O r1 (show i≤j - 1 by omega) (by omega) (by omega)
     exact O.tr _ (aM (by omega)) _ (aM (show i<l.length by omega)) _ (aM (by omega)) f1 f2
    ·rw [A3 i (by omega)]
     by_cases j1:x<j
     ·rw [A1 j j1 (by omega)]
      exact S1.le O r1 (by omega) (by omega) (by omega)
     ·have f1:=k4 (by omega)
      have f2:=S1.le O r1 (show i≤x - 1 by omega) (by omega) (by omega)
      by_cases j2:j=x
      ·subst j2
       rw [A2]
       exact O.tr _ (aM (by omega)) _ (aM (show j - 1<l.length by omega)) _ (aM (by omega)) f2 f1
      ·rw [A3 j (by omega)]; exact S1 _ _ r1 r2 (by omega)
  rw [if_neg (by simp; omega)]
  refine Ku ?_
  intro z hz
  have Kw:∃s r:Nat,z=((s:Int),(r:Int))∧((q > (a+b) / 2∧s=(a+b) / 2+q - b∧r=(a+b) / 2)∨(q≤(a+b) / 2∧s=a∧r=q)):=by
   rcases hz with⟨hc,rfl⟩| ⟨hc,rfl⟩
   ·refine⟨(a+b) / 2+q - b,(a+b) / 2,?_,.inl ⟨by simp only [decide_eq_true_eq] at hc; omega,rfl,rfl⟩⟩
    simp only [WV,and_true]
    simp only [decide_eq_true_eq] at hc
    rw [aD (x:=(((a+b) / 2:Nat):Int)+(q:Int)) (by omega) (by omega),aD (by omega) (by omega)]
    omega
   ·refine⟨a,q,rfl,.inr ⟨?_,rfl,rfl⟩⟩
    simp only [decide_eq_false_iff_not] at hc
    omega
  obtain⟨s,r,rfl,Kw⟩:=Kw
  clear hz
  dsimp only
  obtain⟨x,k1,k2,k3,k4,k5⟩:=AH (m:=m) (a:=a) (b:=b) (q:=q) (by omega) hs C m s r (by omega) (by omega) (by omega) (by omega) (by omega)
  rw [k1,WL]
  dsimp only
  generalize Wu:(a+b) / 2=M at *
  obtain⟨E,hE⟩:∃E,E=M+q - x:=⟨_,rfl⟩
  have eE:i64.wrap (i64.wrap ((M:Int)+(q:Int)) - (x:Int))=(E:Int):=by
   rw [aD (x:=(M:Int)+(q:Int)) (by omega) (by omega),aD (by omega) (by omega)]
   omega
  rw [eE]
  rw [←hE] at k4 k5
  have c1:a≤x:=by omega
  have c2:x≤M:=by omega
  have c3:x≤q:=by omega
  have c4:q≤E:=by omega
  have c5:E≤b:=by omega
  have c6:E+x=M+q:=by omega
  have c7:M≤E:=by omega
  have F1:a<x→E<b→0≤c (gt l E) (gt l (x - 1)):=fun _ _=>k4 (by omega)
  have F2:x<q→q<E→c (gt l (E - 1)) (gt l x)<0:=fun _ _=>k5 (by omega)
  refine FB (fun d=>Ly l d x (q - x) (E - q)) (fun u1 u2=>?_) (fun u=>?_) ?_
  ·simp only [decide_eq_true_eq] at u1 u2
   exact Fl hm (by omega) (by omega) (by omega) hs
  ·simp only [decide_eq_true_eq] at u
   exact FE (by omega)
  intro d5 R
  try dsimp only
  have M5:Mv a b l d5:=Kv R c1 (by omega)
  have l5:=M5.length
  refine FB (fun d=>Mv a M d5 d∧(Ord c l→Sg c l a q→Sg c l q b→Sg c d a M)) (fun u1 u2=>?_) (fun u=>?_) ?_
  ·simp only [decide_eq_true_eq] at u1 u2
   obtain⟨d,g1,g2,g3⟩:=pf hm f d5 a x M (by omega) (by omega) (by omega) (by omega) (by omega) (C.perm M5.perm)
   refine⟨d,g1,g2,fun O S1 S2=>?_⟩
   obtain⟨v1,v2,v3,v4,v5⟩:=tO c1 c2 c3 c4 c5 c6 h3 R O F1 F2 S1 S2
   exact g3 (O.perm M5.perm) v1 v2
  ·simp only [decide_eq_true_eq] at u
   refine⟨Mv.refl,fun O S1 S2=>?_⟩
   obtain⟨v1,v2,v3,v4,v5⟩:=tO c1 c2 c3 c4 c5 c6 h3 R O F1 F2 S1 S2
   by_cases ua:a=x
   ·rw [ua]; exact v2
   ·rw [show M=x by omega]; exact v1
  rintro d6 ⟨M6,S6⟩
  try dsimp only
  have l6:=M6.length
  have PW:=M5.trans (M6.wide (WQ _) (by omega))
  have fin:∀d,Mv M b d6 d→(Ord c l→Sg c l a q→Sg c l q b→Sg c d M b)→Mv a b l d∧(Ord c l→Sg c l a q→Sg c l q b→Sg c d a b):=by
   intro d M7 S7
   refine⟨PW.trans (M7.wide (by omega) (WQ _)),fun O S1 S2 i j r1 r2 r3=>?_⟩
   obtain⟨v1,v2,v3,v4,v5⟩:=tO c1 c2 c3 c4 c5 c6 h3 R O F1 F2 S1 S2
   by_cases hj:j<M
   ·rw [M7.out i (by omega),M7.out j (by omega)]
    exact S6 O S1 S2 _ _ r1 r2 hj
   ·by_cases hi:M≤i
    ·exact S7 O S1 S2 _ _ hi r2 r3
    ·obtain⟨j',y1,y2,y3⟩:=M7.im j (by omega) r3
     obtain⟨i',w1,w2,w3⟩:=M6.im i r1 (by omega)
     rw [M7.out i (by omega),y3,M6.out j' (by omega),w3]
     exact v5 _ _ w1 w2 y1 y2
  refine PU (fun u1 u2=>?_) (fun u=>?_)
  ·simp only [decide_eq_true_eq] at u1 u2
   obtain⟨d,g1,g2,g3⟩:=pf hm f d6 M E b (by omega) (by omega) (by omega) (by omega) (by omega) (C.perm PW.perm)
   refine⟨d,g1,fin d g2 fun O S1 S2=>?_⟩
   obtain⟨v1,v2,v3,v4,v5⟩:=tO c1 c2 c3 c4 c5 c6 h3 R O F1 F2 S1 S2
   refine g3 (O.perm PW.perm) (fun i j y1 y2 y3=>?_) (fun i j y1 y2 y3=>?_)
   ·rw [M6.out i (by omega),M6.out j (by omega)]; exact v3 _ _ y1 y2 y3
   ·rw [M6.out i (by omega),M6.out j (by omega)]; exact v4 _ _ y1 y2 y3
  ·simp only [decide_eq_true_eq] at u
   refine fin d6 Mv.refl fun O S1 S2 i j y1 y2 y3=>?_
   obtain⟨v1,v2,v3,v4,v5⟩:=tO c1 c2 c3 c4 c5 c6 h3 R O F1 F2 S1 S2
   rw [M6.out i (by omega),M6.out j (by omega)]
   by_cases ue:M=E
   ·exact v4 _ _ (by omega) y2 y3
   ·exact v3 _ _ y1 y2 (by omega)
end
end Go.Proofs.YtmekcfdllhphlaaDoor
namespace Go.Proofs.YtmekcfdllhphlaaDoor
open Go Go.R
open Go.IntKind (i64 u64 u8 u32)
def nS:cg:=gk [0,1,2,6,7,8,9,13,30,35,54] [] [2032,1984,1856,2000,1984,1984,2032,1776,1984,1472,2000,1984,1984,1952,928,2032,2032] [] []
def bO.l0 (m:Nat)(n0:Int)(aN:Int→Int→Option (Int)):Nat→(List Int)→Int→Int→Option ((List Int) × Int × Int)
 | 0,_,_,_=>none
 | k+1,bl,a0,b0=>if (decide (b0≤n0))=true then ((aP.f m bl a0 b0 aN).bind fun x0=>bO.l0 m n0 aN k x0 b0 (i64.wrap (b0+(20:Int)))) else (some ((bl,a0,b0)))
def bO.l2 (m:Nat)(n0:Int)(aN:Int→Int→Option (Int))(bc:Int):Nat→(List Int)→Int→Int→Option ((List Int) × Int × Int)
 | 0,_,_,_=>none
 | k+1,jv,a2,b2=>if (decide (b2≤n0))=true then ((aA.f m m jv a2 (i64.wrap (a2+bc)) b2 aN).bind fun x2=>bO.l2 m n0 aN bc k x2 b2 (i64.wrap (b2+i64.wrap ((2:Int)*bc)))) else (some ((jv,a2,b2)))
def bO.l1 (m:Nat)(n0:Int)(aN:Int→Int→Option (Int)):Nat→(List Int)→Int→Option ((List Int) × Int)
 | 0,_,_=>none
 | k+1,dq,bc=>if (decide (bc<n0))=true then ((bO.l2 m n0 aN bc m dq (0:Int) (i64.wrap ((2:Int)*bc))).bind fun cq=>match cq with | (kM,a3,b3)=>if (decide ((i64.wrap (a3+bc))<n0))=true then ((aA.f m m kM a3 (i64.wrap (a3+bc)) n0 aN).bind fun x3=>bO.l1 m n0 aN k x3 (i64.wrap (bc*(2:Int)))) else (bO.l1 m n0 aN k kM (i64.wrap (bc*(2:Int))))) else (some ((dq,bc)))
def bO.f (m:Nat)(aq:List Int)(n0:Int)(aN:Int→Int→Option (Int)):Option ((List Int)):=(bO.l0 m n0 aN m aq (0:Int) (20:Int)).bind fun bq=>match bq with | (da,a1,b1)=>(aP.f m da a1 n0 aN).bind fun x1=>(bO.l1 m n0 aN m x1 (20:Int)).bind fun jm=>match jm with | (pd,AI)=>some pd
def bO.fin (L:Mem)(aB:Nat)(aq:List Int)(n0:Int)(aN:Int→Int→Option (Int))(r:(List Int))(s:St):Prop:=aI Tryd.prog (s.open nS) Tryd.f110.results.toList=some (.tup [])∧Has s.h ((aB,.sl aq.length 1 (aa.l r))::L)
def M3 (cf:CallF)(m:Nat):Prop:=∀(aq:List Int) (n0:Int) (aN:Int→Int→Option (Int)) (r:(List Int)),bO.f m aq n0 aN=some r→∀h L (cz:Nat) (aB:Nat),Has h ((aB,.sl cz 1 (aa.l aq))::L)→∀(iv:FuncId) (bU:List AV),ay (.fn iv bU) = .fn iv bU→(∀h K,Has h (K++L)→∀(a0:Int) (a1:Int) r,aN a0 a1=some r→cf iv ([.int .i64 a0,.int .i64 a1]++bU) h=some (.int .i64 r,h))→∀xs,xs.map ay=[.rs aB 0 cz 1,.int .i64 n0,.fn iv bU]→∃h',cf 110 xs h=some (.tup [],h')∧Has h' ((aB,.sl cz 1 (aa.l r))::L)
section
variable {cf:CallF}{m:Nat}
theorem bO.bG (L:Mem)(aB:Nat)(iv:FuncId)(bU:List AV)(aq:List Int)(n0:Int)(aN:Int→Int→Option (Int))  (kr:ay (.fn iv bU) = .fn iv bU)(lL:∀h K,Has h (K++L)→∀(a0:Int) (a1:Int) r,aN a0 a1=some r→cf iv ([.int .i64 a0,.int .i64 a1]++bU) h=some (.int .i64 r,h))(B0:Kq cf m):bI Tryd.prog cf nS m (sub [1,1,0,0,0] (codeOf Tryd.f110)) (fun k (σ:(List Int) × Int × Int)=>bO.l0 m n0 aN k σ.1 σ.2.1 σ.2.2) (fun σ s=>match σ with | (bl,a0,b0)=>∃h0,s=⟨.rs aB 0 aq.length 1 :: .int .i64 n0 :: .fn iv bU :: .int .i64 (20:Int) :: .int .i64 a0 :: .int .i64 b0::sf [],[],h0⟩∧Has h0 ((aB,.sl aq.length 1 (aa.l bl))::L)) (fun out e s=>(e = .exit 0∧∃bl a0 b0,(bl,a0,b0)=out∧∃qn nQ h0,s=⟨.rs aB 0 aq.length 1 :: .int .i64 n0 :: .fn iv bU :: .int .i64 (20:Int) :: .int .i64 a0::qn :: .any::nQ::jW [],[],h0⟩∧Has h0 ((aB,.sl aq.length 1 (aa.l bl))::L))):=by
 refine gS (fun _=>rfl) ?_
 rintro k ⟨bl,a0,b0⟩ s out ⟨h0,rfl,o0⟩ H
 have H:bO.l0 m n0 aN (k+1) bl a0 b0=some out:=H
 refine qq <| qq <| q0 <| qc H (fun c0 H=>?_) (fun c0 H=>?_)
 ·refine qk <| qb 1 <| qq ?_
  obtain⟨x0,e0,H⟩:=aJ H
  obtain⟨h1,e1,o1⟩:=B0 _ _ _ _ _ e0 h0 _ _ _ (o0) iv bU kr (fun h' K' o'=>lL h' (K'++[]) (by simpa only [W3,Xe,Xm] using o')) [.rs aB 0 aq.length 1,.int .i64 a0,.int .i64 b0,.fn iv bU] (ao (rfl) (ao (aO (bD)) (ao (aO (bD)) (ao (kr) (bj)))))
  exact qr [.a 4 e1] <| qq <| q0 <| q0 <| ⟨(x0,b0,i64.wrap (b0+(20:Int))),⟨h1,by kernel_rfl,o1⟩,H⟩
 ·exact qx 0 <| ⟨rfl,bl,a0,b0,oi H,.int .i64 b0,.bool (decide (b0≤n0)),h0,by kernel_rfl,o0⟩
theorem bO.pe (L:Mem)(aB:Nat)(iv:FuncId)(bU:List AV)(aq:List Int)(n0:Int)(aN:Int→Int→Option (Int))(bc:Int)  (kr:ay (.fn iv bU) = .fn iv bU)(lL:∀h K,Has h (K++L)→∀(a0:Int) (a1:Int) r,aN a0 a1=some r→cf iv ([.int .i64 a0,.int .i64 a1]++bU) h=some (.int .i64 r,h))(iH:uR cf m m):bI Tryd.prog cf nS m (sub [1,1,1,1,0,0,1,0,1,0,0,0] (codeOf Tryd.f110)) (fun k (σ:(List Int) × Int × Int)=>bO.l2 m n0 aN bc k σ.1 σ.2.1 σ.2.2) (fun σ s=>match σ with | (jv,a2,b2)=>∃h5,s=⟨.rs aB 0 aq.length 1 :: .int .i64 n0 :: .fn iv bU :: .int .i64 bc :: .int .i64 a2 :: .int .i64 b2::sf [],[],h5⟩∧Has h5 ((aB,.sl aq.length 1 (aa.l jv))::L)) (fun out e s=>(e = .exit 4∧∃jv a2 b2,(jv,a2,b2)=out∧∃qn PX h5,s=⟨.rs aB 0 aq.length 1 :: .int .i64 n0 :: .fn iv bU :: .int .i64 bc :: .int .i64 a2::qn::jW [PX,.any],[],h5⟩∧Has h5 ((aB,.sl aq.length 1 (aa.l jv))::L))):=by
 refine gS (fun _=>rfl) ?_
 rintro k ⟨jv,a2,b2⟩ s out ⟨h5,rfl,o5⟩ H
 have H:bO.l2 m n0 aN bc (k+1) jv a2 b2=some out:=H
 refine qq <| qq <| q0 <| qc H (fun c2 H=>?_) (fun c2 H=>?_)
 ·refine qk <| qb 5 <| qq ?_
  obtain⟨x2,e5,H⟩:=aJ H
  obtain⟨h6,e6,o6⟩:=iH _ _ _ _ _ _ e5 h5 _ _ _ (o5) iv bU kr (fun h' K' o'=>lL h' (K'++[]) (by simpa only [W3,Xe,Xm] using o')) [.rs aB 0 aq.length 1,.int .i64 a2,.int .i64 (i64.wrap (a2+bc)),.int .i64 b2,.fn iv bU] (ao (rfl) (ao (aO (bD)) (ao (aO (bD)) (ao (aO (bD)) (ao (kr) (bj))))))
  exact qr [.a 7 e6] <| qq <| q0 <| q0 <| ⟨(x2,b2,i64.wrap (b2+i64.wrap ((2:Int)*bc))),⟨h6,by kernel_rfl,o6⟩,H⟩
 ·exact qx 4 <| ⟨rfl,jv,a2,b2,oi H,.int .i64 b2,.bool (decide (b2≤n0)),h5,by kernel_rfl,o5⟩
theorem bO.fu (L:Mem)(aB:Nat)(iv:FuncId)(bU:List AV)(aq:List Int)(n0:Int)(aN:Int→Int→Option (Int))  (kr:ay (.fn iv bU) = .fn iv bU)(lL:∀h K,Has h (K++L)→∀(a0:Int) (a1:Int) r,aN a0 a1=some r→cf iv ([.int .i64 a0,.int .i64 a1]++bU) h=some (.int .i64 r,h))(iH:uR cf m m):bI Tryd.prog cf nS m (sub [1,1,1,1,0,0] (codeOf Tryd.f110)) (fun k (σ:(List Int) × Int)=>bO.l1 m n0 aN k σ.1 σ.2) (fun σ s=>match σ with | (dq,bc)=>∃h4,s=⟨.rs aB 0 aq.length 1 :: .int .i64 n0 :: .fn iv bU :: .int .i64 bc::Dk [],[],h4⟩∧Has h4 ((aB,.sl aq.length 1 (aa.l dq))::L)) (fun out e s=>(e = .exit 2∧∃dq bc,(dq,bc)=out∧∃kp rF Ay AJ Ko h4,s=⟨kp::rF::Ay::AJ::re [Ko,.any,.any],[],h4⟩∧Has h4 ((aB,.sl aq.length 1 (aa.l dq))::L))):=by
 refine gS (fun _=>rfl) ?_
 rintro k ⟨dq,bc⟩ s out ⟨h4,rfl,o4⟩ H
 have H:bO.l1 m n0 aN (k+1) dq bc=some out:=H
 refine qq <| qq <| q0 <| qc H (fun c1 H=>?_) (fun c1 H=>?_)
 ·refine qk <| qb 3 <| qq <| q0 <| qq <| qb 4 ?_
  obtain⟨cq,e7,H⟩:=aJ H
  refine ql (bO.pe L aB iv bU aq n0 aN bc  kr lL iH (dq,(0:Int),i64.wrap ((2:Int)*bc)) _ _ ⟨h4,by kernel_rfl,o4⟩ e7) ?_
  rintro e s ⟨rfl,kM,a3,b3,rfl,g2,g3,h7,rfl,o7⟩
  try dsimp only at H
  refine qq <| qq <| q0 <| qq <| q0 <| qc H (fun c3 H=>?_) (fun c3 H=>?_)
  ·obtain⟨x3,e8,H⟩:=aJ H
   obtain⟨h8,e9,o8⟩:=iH _ _ _ _ _ _ e8 h7 _ _ _ (o7) iv bU kr (fun h' K' o'=>lL h' (K'++[]) (by simpa only [W3,Xe,Xm] using o')) [.rs aB 0 aq.length 1,.int .i64 a3,.int .i64 (i64.wrap (a3+bc)),.int .i64 n0,.fn iv bU] (ao (rfl) (ao (aO (bD)) (ao (aO (bD)) (ao (aO (bD)) (ao (kr) (bj))))))
   exact qr [.a 5 e9] <| q0 <| ⟨(x3,i64.wrap (bc*(2:Int))),⟨h8,by kernel_rfl,o8⟩,H⟩
  ·exact qk <| q0 <| ⟨(kM,i64.wrap (bc*(2:Int))),⟨h7,by kernel_rfl,o7⟩,H⟩
 ·exact qx 2 <| ⟨rfl,dq,bc,oi H,.rs aB 0 aq.length 1,.int .i64 n0,.fn iv bU,.int .i64 bc,.bool (decide (bc<n0)),h4,by kernel_rfl,o4⟩
theorem xc {aS:FuncId→cg}(ha:aS 110=nS)(B0:Kq cf m)(iH:uR cf m m)(aq:List Int)(n0:Int)(aN:Int→Int→Option (Int))(h:AHeap)(L:Mem)(aB:Nat)(iv:FuncId)(bU:List AV)  (kr:ay (.fn iv bU) = .fn iv bU)(lL:∀h K,Has h (K++L)→∀(a0:Int) (a1:Int) r,aN a0 a1=some r→cf iv ([.int .i64 a0,.int .i64 a1]++bU) h=some (.int .i64 r,h))(o:Has h ((aB,.sl aq.length 1 (aa.l aq))::L)){out:(List Int)}(H:bO.f m aq n0 aN=some out) :
  ∃r h',a7 Tryd.prog aS cf m 110 [.rs aB 0 aq.length 1,.int .i64 n0,.fn iv bU] h=some (r,h')∧r = .tup []∧Has h' ((aB,.sl aq.length 1 (aa.l out))::L):=by
 refine ak (fn:=Tryd.f110) ha Tryd.func110 (by kernel_rfl) (by kernel_rfl) ?_
 refine aF (Q:=fun s=>bO.fin L aB aq n0 aN out s) (fun _ _ ⟨h1,h2,h3⟩=>⟨h1,_,h2,rfl,h3⟩) ?_
 have H:_=some out:=H
 unfold bO.f at H
 show de _ cf nS m _ ⟨.rs aB 0 aq.length 1 :: .int .i64 n0 :: .fn iv bU::rf [],[],h⟩ _
 refine q1 <| qq <| q0 <| qq <| qb 0 ?_
 obtain⟨bq,e2,H⟩:=aJ H
 refine ql (bO.bG L aB iv bU aq n0 aN  kr lL B0 (aq,(0:Int),(20:Int)) _ _ ⟨h,by kernel_rfl,o⟩ e2) ?_
 rintro e s ⟨rfl,da,a1,b1,rfl,g0,g1,h2,rfl,o2⟩
 try dsimp only at H
 refine qq ?_
 obtain⟨x1,e3,H⟩:=aJ H
 obtain⟨h3,e4,o3⟩:=B0 _ _ _ _ _ e3 h2 _ _ _ (o2) iv bU kr (fun h' K' o'=>lL h' (K'++[]) (by simpa only [W3,Xe,Xm] using o')) [.rs aB 0 aq.length 1,.int .i64 a1,.int .i64 n0,.fn iv bU] (ao (rfl) (ao (aO (bD)) (ao (aO (bD)) (ao (kr) (bj)))))
 refine qr [.a 4 e4] <| qb 2 ?_
 obtain⟨jm,mU,H⟩:=aJ H
 refine ql (bO.fu L aB iv bU aq n0 aN  kr lL iH (x1,(20:Int)) _ _ ⟨h3,by kernel_rfl,o3⟩ mU) ?_
 rintro e s ⟨rfl,pd,AI,rfl,g4,g5,g6,g7,g8,h9,rfl,o9⟩
 try dsimp only at H
 obtain rfl:=oi H
 exact⟨.inr rfl,⟨by kernel_rfl,he o9⟩⟩
end
end Go.Proofs.YtmekcfdllhphlaaDoor
namespace Go.Proofs.YtmekcfdllhphlaaDoor
open Go Go.R
open Go.IntKind (i64 u64 u8 u32)
def B1:cg:=gk [0,1] [] [3] [] []
def eV.f (m:Nat)(x0:List Int)(aN:Int→Int→Option (Int)):Option ((List Int)):=(bO.f m x0 (x0.length:Int) aN).bind fun x1=>some x1
def eV.fin (L:Mem)(aB:Nat)(x0:List Int)(aN:Int→Int→Option (Int))(r:(List Int))(s:St):Prop:=aI Tryd.prog (s.open B1) Tryd.f84.results.toList=some (.tup [])∧Has s.h ((aB,.sl x0.length 1 (aa.l r))::L)
def SF (cf:CallF)(m:Nat):Prop:=∀(x0:List Int) (aN:Int→Int→Option (Int)) (r:(List Int)),eV.f m x0 aN=some r→∀h L (FF:Nat) (aB:Nat),Has h ((aB,.sl FF 1 (aa.l x0))::L)→∀(dy:FuncId) (aL:List AV),ay (.fn dy aL) = .fn dy aL→(∀h K,Has h (K++L)→∀(a0:Int) (a1:Int) r,aN a0 a1=some r→cf dy ([.int .i64 a0,.int .i64 a1]++aL) h=some (.int .i64 r,h))→∀xs,xs.map ay=[.rs aB 0 FF 1,.fn dy aL]→∃h',cf 84 xs h=some (.tup [],h')∧Has h' ((aB,.sl FF 1 (aa.l r))::L)
section
variable {cf:CallF}{m:Nat}
theorem pg {aS:FuncId→cg}(ha:aS 84=B1)(M4:M3 cf m)(x0:List Int)(aN:Int→Int→Option (Int))(h:AHeap)(L:Mem)(aB:Nat)(dy:FuncId)(aL:List AV)  (gP:ay (.fn dy aL) = .fn dy aL)(gT:∀h K,Has h (K++L)→∀(a0:Int) (a1:Int) r,aN a0 a1=some r→cf dy ([.int .i64 a0,.int .i64 a1]++aL) h=some (.int .i64 r,h))(o:Has h ((aB,.sl x0.length 1 (aa.l x0))::L)){out:(List Int)}(H:eV.f m x0 aN=some out) :
  ∃r h',a7 Tryd.prog aS cf m 84 [.rs aB 0 x0.length 1,.fn dy aL] h=some (r,h')∧r = .tup []∧Has h' ((aB,.sl x0.length 1 (aa.l out))::L):=by
 refine ak (fn:=Tryd.f84) ha Tryd.func84 (by kernel_rfl) (by kernel_rfl) ?_
 refine aF (Q:=fun s=>eV.fin L aB x0 aN out s) (fun _ _ ⟨h1,h2,h3⟩=>⟨h1,_,h2,rfl,h3⟩) ?_
 have H:_=some out:=H
 unfold eV.f at H
 show de _ cf B1 m _ ⟨[.rs aB 0 x0.length 1,.fn dy aL],[],h⟩ _
 obtain⟨x1,e0,H⟩:=aJ H
 obtain⟨h0,e1,o0⟩:=M4 _ _ _ _ e0 h _ _ _ (o) dy aL gP (fun h' K' o'=>gT h' (K'++[]) (by simpa only [W3,Xe,Xm] using o')) [.rs aB 0 x0.length 1,.int .i64 (x0.length:Int),.fn dy aL] (ao (rfl) (ao (aO (bD)) (ao (gP) (bj))))
 obtain rfl:=oi H
 exact qr [.a 4 e1] <| ⟨.inr rfl,⟨by kernel_rfl,he o0⟩⟩
end
end Go.Proofs.YtmekcfdllhphlaaDoor
namespace Go.Proofs.YtmekcfdllhphlaaDoor
open Go Go.R
open Go.IntKind (i64 u64 u8 u32)
section
variable {m:Nat}{cmp:Int→Int→Option Int}{c:Int→Int→Int}
def M8 (c:Int→Int→Int)(d:List Int)(bs n:Nat):Prop:=∀k i j,k*bs≤i→i<j→j<k*bs+bs→j<n→0≤c (gt d j) (gt d i)
theorem FG (hm:2 ^ 41≤m){n:Nat}{l:List Int}(hn:n=l.length)(hs:l.length<2 ^ 40)(C:Cm cmp c l):∀(f t:Nat) (d:List Int),n - 20*t<f→20*t≤n→Mv 0 (20*t) l d→
  (Ord c l→∀k,k<t→Sg c d (20*k) (20*k+20))→
  ∃d' t' y,bO.l0 m (n:Int) cmp f d ((20*t:Nat):Int) ((20*t+20:Nat):Int)=some (d',((20*t':Nat):Int),y)∧20*t'≤n∧n<20*t'+20∧Mv 0 (20*t') l d'∧(Ord c l→∀k,k<t'→Sg c d' (20*k) (20*k+20))
 | 0,t,d,hf,_,_,_=>absurd hf (by omega)
 | f+1,t,d,hf,h1,M,S=>by
  have nR:(2:Nat) ^ 40=1099511627776:=by decide
  have rl:(2:Nat) ^ 41=2199023255552:=by decide
  have hl:=M.length
  unfold bO.l0
  by_cases h:20*t+20≤n
  ·obtain⟨d1,e1,M1,S1⟩:=yS (a:=20*t) (b:=20*t+20) (cmp:=cmp) (c:=c) hm (l:=d) (by omega) (by omega) (by omega) (C.perm M.perm)
   rw [if_pos (by simp only [decide_eq_true_eq]; omega),e1,WL,aD (x:=((20*t+20:Nat):Int)+20) (by omega) (by omega)]
   have:=FG hm hn hs C f (t+1) d1 (by omega) (by omega) ((M.wide (WQ _) (by omega)).trans (M1.wide (by omega) (by omega))) (fun O k hk i j k1 k2 k3=>by
    by_cases Hy:k=t
    ·subst Hy; exact S1 (O.perm M.perm) _ _ k1 k2 k3
    ·rw [M1.out i (by omega),M1.out j (by omega)]; exact S O k (by omega) _ _ k1 k2 k3)
   rw [show ((20*(t+1):Nat):Int)=((20*t+20:Nat):Int) by omega,show ((20*(t+1)+20:Nat):Int)=((20*t+20:Nat):Int)+20 by omega] at this
   exact this
  ·exact⟨d,t,_,by rw [if_neg (by simp only [decide_eq_true_eq]; omega)],h1,by omega,M,S⟩
theorem FH (hm:2 ^ 41≤m){n bs:Nat}{l:List Int}(hn:n=l.length)(hs:l.length<2 ^ 40)(hb:0<bs)(Pw:bs<n)(C:Cm cmp c l)(B:Ord c l→M8 c l bs n):∀(f t:Nat) (d:List Int),n - t*(2*bs)<f→t*(2*bs)≤n→Mv 0 (t*(2*bs)) l d→
  (Ord c l→∀k,k<t→Sg c d (k*(2*bs)) (k*(2*bs)+2*bs))→
  ∃d' t' y,bO.l2 m (n:Int) cmp (bs:Int) f d ((t*(2*bs):Nat):Int) ((t*(2*bs)+2*bs:Nat):Int)=some (d',((t'*(2*bs):Nat):Int),y)∧t'*(2*bs)≤n∧n<t'*(2*bs)+2*bs∧Mv 0 (t'*(2*bs)) l d'∧(Ord c l→∀k,k<t'→Sg c d' (k*(2*bs)) (k*(2*bs)+2*bs))
 | 0,t,d,hf,_,_,_=>absurd hf (by omega)
 | f+1,t,d,hf,h1,M,S=>by
  have nR:(2:Nat) ^ 40=1099511627776:=by decide
  have rl:(2:Nat) ^ 41=2199023255552:=by decide
  have hl:=M.length
  unfold bO.l2
  have ht:(t+1)*(2*bs)=t*(2*bs)+2*bs:=Nat.succ_mul _ _
  have q1:(2*t)*bs=t*(2*bs):=by rw [Nat.mul_assoc,Nat.mul_left_comm]
  have q2:(2*t+1)*bs=t*(2*bs)+bs:=by rw [Nat.succ_mul,q1]
  by_cases h:t*(2*bs)+2*bs≤n
  ·have S0:Ord c l→Sg c d (t*(2*bs)) (t*(2*bs)+bs):=fun O i j k1 k2 k3=>by
    rw [M.out i (by omega),M.out j (by omega)]; exact B O (2*t) i j (by omega) k2 (by omega) (by omega)
   have UX:Ord c l→Sg c d (t*(2*bs)+bs) (t*(2*bs)+2*bs):=fun O i j k1 k2 k3=>by
    rw [M.out i (by omega),M.out j (by omega)]; exact B O (2*t+1) i j (by omega) k2 (by omega) (by omega)
   have hk:∀k,k<t→k*(2*bs)+2*bs≤t*(2*bs):=fun k hk=>by
    rw [←Nat.succ_mul]; exact XG _ hk
   generalize hA:t*(2*bs)=A at *
   obtain⟨d1,e1,M1,S1⟩:=pf (cmp:=cmp) (c:=c) hm m d A (A+bs) (A+2*bs) (by omega) (by omega) (by omega) (by omega) (by omega) (C.perm M.perm)
   have e0:i64.wrap ((A:Int)+(bs:Int))=((A+bs:Nat):Int):=by rw [aD (by omega) (by omega)]; omega
   have e2:i64.wrap ((2:Int)*(bs:Int))=((2*bs:Nat):Int):=by rw [aD (by omega) (by omega)]; omega
   have e3:i64.wrap (((A+2*bs:Nat):Int)+((2*bs:Nat):Int))=((A+2*bs+2*bs:Nat):Int):=by rw [aD (by omega) (by omega)]; omega
   rw [if_pos (by simp only [decide_eq_true_eq]; omega),e0,e1,WL,e2,e3]
   have:=FH hm hn hs hb Pw C B f (t+1) d1 (by omega) (by omega) (by rw [ht]; exact (M.wide (WQ _) (by omega)).trans (M1.wide (by omega) (by omega))) (fun O k pW i j k1 k2 k3=>by
    by_cases Hy:k=t
    ·subst Hy; rw [hA] at k1 k3; exact S1 (O.perm M.perm) (S0 O) (UX O) _ _ k1 k2 k3
    ·have:=hk k (by omega)
     rw [M1.out i (by omega),M1.out j (by omega)]; exact S O k (by omega) _ _ k1 k2 k3)
   rw [ht] at this
   exact this
  ·exact⟨d,t,_,by rw [if_neg (by simp only [decide_eq_true_eq]; omega)],h1,by omega,M,S⟩
theorem AK (hm:2 ^ 41≤m){n:Nat}:∀(f bs:Nat) (l:List Int),n=l.length→l.length<2 ^ 40→Cm cmp c l→n - bs<f→0<bs→bs<2 ^ 42→(Ord c l→M8 c l bs n)→
  ∃d y,bO.l1 m (n:Int) cmp f l (bs:Int)=some (d,y)∧d.Perm l∧(Ord c l→Sg c d 0 n)
 | 0,bs,l,_,_,_,hf,_,_,_=>absurd hf (by omega)
 | f+1,bs,l,hn,hs,C,hf,hb,hb2,B=>by
  have nR:(2:Nat) ^ 40=1099511627776:=by decide
  have rl:(2:Nat) ^ 41=2199023255552:=by decide
  have M0:(2:Nat) ^ 42=4398046511104:=by decide
  unfold bO.l1
  by_cases h:bs<n
  ·have e2:i64.wrap ((2:Int)*(bs:Int))=((2*bs:Nat):Int):=by rw [aD (by omega) (by omega)]; omega
   have e3:i64.wrap ((bs:Int)*(2:Int))=((2*bs:Nat):Int):=by rw [aD (by omega) (by omega)]; omega
   obtain⟨d1,t,y,k1,k2,k3,M1,S1⟩:=FH (cmp:=cmp) (c:=c) hm hn hs hb h C B m 0 l (by omega) (by omega) Mv.refl (fun O k hk=>absurd hk (by omega))
   have l1:=M1.length
   simp only [Nat.zero_mul,Xb] at k1
   have k1:bO.l2 m (n:Int) cmp (bs:Int) m l (0:Int) ((2*bs:Nat):Int)=_:=k1
   rw [if_pos (by simp only [decide_eq_true_eq]; omega),e2,k1,WL]
   dsimp only
   rw [e3]
   have q1:(2*t)*bs=t*(2*bs):=by rw [Nat.mul_assoc,Nat.mul_left_comm]
   have q2:(2*t+1)*bs=t*(2*bs)+bs:=by rw [Nat.succ_mul,q1]
   have hk:∀k,k<t→k*(2*bs)+2*bs≤t*(2*bs):=fun k hk=>by
    rw [←Nat.succ_mul]; exact XG _ hk
   have pW:∀k,t<k→t*(2*bs)+2*bs≤k*(2*bs):=fun k hk=>by
    rw [←Nat.succ_mul]; exact XG _ hk
   have e0:i64.wrap (((t*(2*bs):Nat):Int)+(bs:Int))=((t*(2*bs)+bs:Nat):Int):=by rw [aD (by omega) (by omega)]; omega
   rw [e0]
   by_cases h2:t*(2*bs)+bs<n
   ·obtain⟨d2,e4,M2,S2⟩:=pf (cmp:=cmp) (c:=c) hm m d1 (t*(2*bs)) (t*(2*bs)+bs) n (by omega) (by omega) (by omega) (by omega) (by omega) (C.perm M1.perm)
    rw [if_pos (by simp only [decide_eq_true_eq]; omega),e4,WL]
    have P2:=M2.perm.trans M1.perm
    obtain⟨d,y,g1,g2,g3⟩:=AK (n:=n) hm f (2*bs) d2 (by have:=P2.length_eq; omega) (by have:=P2.length_eq; omega) (C.perm P2) (by omega) (by omega) (by omega) (fun O k i j w1 w2 w3 w4=>by
     have O:=O.perm P2.symm
     by_cases u1:k<t
     ·have:=hk k u1
      rw [M2.out i (by omega),M2.out j (by omega)]; exact S1 O k u1 _ _ w1 w2 w3
     ·by_cases u2:k=t
      ·subst u2
       refine S2 (O.perm M1.perm) (fun i j x1 x2 x3=>?_) (fun i j x1 x2 x3=>?_) _ _ w1 w2 w4
       ·rw [M1.out i (by omega),M1.out j (by omega)]; exact B O (2*k) i j (by omega) x2 (by omega) (by omega)
       ·rw [M1.out i (by omega),M1.out j (by omega)]; exact B O (2*k+1) i j (by omega) x2 (by omega) (by omega)
      ·have:=pW k (by omega); omega)
    exact⟨d,y,g1,g2.trans P2,fun O=>g3 (O.perm P2)⟩
   ·rw [if_neg (by simp only [decide_eq_true_eq]; omega)]
    have P2:=M1.perm
    obtain⟨d,y,g1,g2,g3⟩:=AK (n:=n) hm f (2*bs) d1 (by have:=P2.length_eq; omega) (by have:=P2.length_eq; omega) (C.perm P2) (by omega) (by omega) (by omega) (fun O k i j w1 w2 w3 w4=>by
     have O:=O.perm P2.symm
     by_cases u1:k<t
     ·exact S1 O k u1 _ _ w1 w2 w3
     ·by_cases u2:k=t
      ·subst u2
       rw [M1.out i (by omega),M1.out j (by omega)]; exact B O (2*k) i j (by omega) w2 (by omega) (by omega)
      ·have:=pW k (by omega); omega)
    exact⟨d,y,g1,g2.trans P2,fun O=>g3 (O.perm P2)⟩
  ·refine⟨l,bs,by rw [if_neg (by simp only [decide_eq_true_eq]; omega)],List.Perm.refl _,fun O i j w1 w2 w3=>B O 0 i j (by omega) w2 (by omega) w3⟩
theorem DC (hm:2 ^ 41≤m){l:List Int}(hs:l.length<2 ^ 40)(C:Cm cmp c l):∃d,eV.f m l cmp=some d∧d.Perm l∧(Ord c l→Sg c d 0 l.length):=by
 have nR:(2:Nat) ^ 40=1099511627776:=by decide
 have rl:(2:Nat) ^ 41=2199023255552:=by decide
 have M0:(2:Nat) ^ 42=4398046511104:=by decide
 unfold eV.f bO.f
 obtain⟨d1,t,y,k1,k2,k3,M1,S1⟩:=FG (cmp:=cmp) (c:=c) hm rfl hs C m 0 l (by omega) (by omega) Mv.refl (fun O k hk=>absurd hk (by omega))
 have k1:bO.l0 m (l.length:Int) cmp m l (0:Int) (20:Int)=_:=k1
 have l1:=M1.length
 rw [k1,WL]
 dsimp only
 obtain⟨d2,e2,M2,S2⟩:=yS (a:=20*t) (b:=l.length) (cmp:=cmp) (c:=c) hm (l:=d1) (by omega) (by omega) (by omega) (C.perm M1.perm)
 rw [e2,WL]
 have P2:=M2.perm.trans M1.perm
 obtain⟨d,y,g1,g2,g3⟩:=AK (cmp:=cmp) (c:=c) (n:=l.length) hm m 20 d2 P2.length_eq.symm (by rw [P2.length_eq]; exact hs) (C.perm P2) (by omega) (by omega) (by omega) (fun O k i j w1 w2 w3 w4=>by
  have O:=O.perm P2.symm
  by_cases u1:k<t
  ·rw [M2.out i (by omega),M2.out j (by omega)]; exact S1 O k u1 _ _ (by omega) w2 (by omega)
  ·exact S2 (O.perm M1.perm) _ _ (by omega) w2 (by omega))
 have g1:bO.l1 m (l.length:Int) cmp m d2 (20:Int)=_:=g1
 rw [g1]
 exact⟨d,rfl,g2.trans P2,fun O=>g3 (O.perm P2)⟩
end
end Go.Proofs.YtmekcfdllhphlaaDoor
namespace Go.Proofs.YtmekcfdllhphlaaDoor
open Go Go.R
open Go.IntKind (i64 u64 u8 u32)
def B2:cg:=gk [0,1,2,3] [2] [9,7] [] []
def fO.f (m:Nat)(n0:ae)(x0:an):Option (Bool):=(il.f m n0 (x0.nodes.length:Int)).bind fun x1=>some (!x1)
def fO.fin (h:AHeap)(r:Bool)(s:St):Prop:=aI Tryd.prog (s.open B2) Tryd.f61.results.toList=some (.bool r)∧s.h=h
def SG (cf:CallF)(m:Nat):Prop:=∀(n0:ae) (x0:an) (r:Bool),fO.f m n0 x0=some r→∀h L (eG bT:Nat),Has h L→L[eG]? = some (bT,.ob [af.fz x0.nodes,.int .i64 x0.root])→cf 61 [.agg [.int .i64 n0.kind,.int .i64 n0.int,.str n0.label,aa.fz n0.args],.ptr bT 0] h=some (.bool r,h)
section
variable {cf:CallF}{m:Nat}
theorem ph {aS:FuncId→cg}(ha:aS 61=B2)(PY:Sz cf m)(n0:ae)(x0:an)(h:AHeap)(L:Mem)  {eG bT:Nat}(fW:L[eG]? = some (bT,.ob [af.fz x0.nodes,.int .i64 x0.root]))(o:Has h (L)){out:Bool}(H:fO.f m n0 x0=some out) :
  ∃r h',a7 Tryd.prog aS cf m 61 [.agg [.int .i64 n0.kind,.int .i64 n0.int,.str n0.label,aa.fz n0.args],.ptr bT 0] h=some (r,h')∧r=(.bool out)∧h'=h:=by
 refine ak (fn:=Tryd.f61) ha Tryd.func61 (by kernel_rfl) (by kernel_rfl) ?_
 refine aF (Q:=fun s=>fO.fin h out s) (fun _ _ ⟨h1,h2,h3⟩=>⟨h1,_,h2,rfl,h3⟩) ?_
 have H:_=some out:=H
 unfold fO.f at H
 show de _ cf B2 m _ ⟨[.agg [.int .i64 n0.kind,.int .i64 n0.int,.str n0.label,aa.fz n0.args],.ptr bT 0,.any,.any],[none],h⟩ _
 refine q1 <| qq ?_
 obtain⟨x1,e0,H⟩:=aJ H
 obtain rfl:=oi H
 exact qr [.v 2 (show bk Tryd.prog h 29 (.ptr bT 0)=some (af.fz x0.nodes) from cn (q:=eG) (cs:=[af.fz x0.nodes,.int .i64 x0.root]) o fW (by kernel_rfl)),.a 4 (PY _ _ _ e0 h _ (ga (ab (bQ (ab (aE) (ab (aE) (ab (bK) (ab (bS (E:=aa)) (ax)))))) (ab (aE) (ax)))))] <| qt <| ⟨.inl rfl,⟨by kernel_rfl,by kernel_rfl⟩⟩
end
end Go.Proofs.YtmekcfdllhphlaaDoor
namespace Go.Proofs.YtmekcfdllhphlaaDoor
open Go Go.R
open Go.IntKind (i64 u64 u8 u32)
def B3:cg:=gk [0,1,2] [] [5,3] [] []
def ff.f (m:Nat)(t0:an):Option (Bool):=if (decide ((t0.nodes.length:Int)≥(1:Int)))=true then (if (decide ((t0.nodes.length:Int)≤(8000:Int)))=true then (if (decide (t0.root≥(0:Int)))=true then (if (decide (t0.root<(t0.nodes.length:Int)))=true then ((fM.f m t0.nodes (fun y0=>fO.f m y0 t0)).bind fun x0=>some (!x0)) else (some false)) else (some false)) else (some false)) else (some false)
def ff.fin (L:Mem)(r:Bool)(s:St):Prop:=∃av,aI Tryd.prog (s.open B3) Tryd.f45.results.toList=some av∧fB s.h av (.bool r)
def PZ (cf:CallF)(m:Nat):Prop:=∀(t0:an) (r:Bool),ff.f m t0=some r→∀h xs,ej eL h xs [.agg [af.fz t0.nodes,.int .i64 t0.root]]→cf 45 xs h=some (.bool r,h)
section
variable {cf:CallF}{m:Nat}
theorem rM {aS:FuncId→cg}(ha:aS 45=B3)(Kx:PM cf m)(P4:SG cf m)(t0:an)(h:AHeap)(L:Mem)  (o:Has h (L)){out:Bool}(H:ff.f m t0=some out) :
  ∃r h',a7 Tryd.prog aS cf m 45 [.agg [af.fz t0.nodes,.int .i64 t0.root]] h=some (r,h')∧fB h' r (.bool out):=by
 refine ak (fn:=Tryd.f45) ha Tryd.func45 (by kernel_rfl) (by kernel_rfl) ?_
 refine aF (Q:=fun s=>ff.fin L out s) (fun _ _ h=>h) ?_
 have H:_=some out:=H
 unfold ff.f at H
 show de _ cf B3 m _ ⟨[.agg [af.fz t0.nodes,.int .i64 t0.root],.any,.any],[],h⟩ _
 refine qq ?_
 obtain⟨aB,h0,e0,o0⟩:=ko (cs:=[af.fz t0.nodes,.int .i64 t0.root]) o (by kernel_rfl)
 refine qr [.a 0 e0] <| qq ?_
 rcases dw H with⟨c0,H⟩| ⟨c0,H⟩
 ·rcases dw H with⟨c1,H⟩| ⟨c1,H⟩
  ·rcases dw H with⟨c2,H⟩| ⟨c2,H⟩
   ·rcases dw H with⟨c3,H⟩| ⟨c3,H⟩
    ·obtain⟨x0,e1,H⟩:=aJ H
     refine qr [.v 1 (show bk Tryd.prog h0 29 (.ptr aB 0)=some (af.fz t0.nodes) from cn (q:=0) (cs:=[af.fz t0.nodes,.int .i64 t0.root]) o0 rfl (by kernel_rfl)),.b 4 c0,.v 6 (show bk Tryd.prog h0 29 (.ptr aB 0)=some (af.fz t0.nodes) from cn (q:=0) (cs:=[af.fz t0.nodes,.int .i64 t0.root]) o0 rfl (by kernel_rfl)),.b 10 c1,.v 12 (show bk Tryd.prog h0 3 (.ptr aB 1)=some (.int .i64 t0.root) from cn (q:=0) (cs:=[af.fz t0.nodes,.int .i64 t0.root]) o0 rfl (by kernel_rfl)),.b 15 c2,.v 17 (show bk Tryd.prog h0 3 (.ptr aB 1)=some (.int .i64 t0.root) from cn (q:=0) (cs:=[af.fz t0.nodes,.int .i64 t0.root]) o0 rfl (by kernel_rfl)),.v 19 (show bk Tryd.prog h0 29 (.ptr aB 0)=some (af.fz t0.nodes) from cn (q:=0) (cs:=[af.fz t0.nodes,.int .i64 t0.root]) o0 rfl (by kernel_rfl)),.b 23 c3,.v 25 (show bk Tryd.prog h0 29 (.ptr aB 0)=some (af.fz t0.nodes) from cn (q:=0) (cs:=[af.fz t0.nodes,.int .i64 t0.root]) o0 rfl (by kernel_rfl)),.a 27 (Kx _ _ _ e1 h0 (Has.pos o0) 61 [.ptr aB 0] rfl (fun y0 r hr=>P4 y0 _ r hr h0 _ 0 _ o0 rfl) _ (ao (aO (gy (E:=af))) (ao ((rfl:ay (.fn 61 [.ptr aB 0])=_)) (bj))))] ?_
     have o1:Has h0 (L):=Has.del o0 0
     obtain rfl:=oi H
     exact qt <| ⟨.inl rfl,bZ (.bool (!x0)) h0 (bX (aj))⟩
    ·refine qr [.v 1 (show bk Tryd.prog h0 29 (.ptr aB 0)=some (af.fz t0.nodes) from cn (q:=0) (cs:=[af.fz t0.nodes,.int .i64 t0.root]) o0 rfl (by kernel_rfl)),.b 4 c0,.v 6 (show bk Tryd.prog h0 29 (.ptr aB 0)=some (af.fz t0.nodes) from cn (q:=0) (cs:=[af.fz t0.nodes,.int .i64 t0.root]) o0 rfl (by kernel_rfl)),.b 10 c1,.v 12 (show bk Tryd.prog h0 3 (.ptr aB 1)=some (.int .i64 t0.root) from cn (q:=0) (cs:=[af.fz t0.nodes,.int .i64 t0.root]) o0 rfl (by kernel_rfl)),.b 15 c2,.v 17 (show bk Tryd.prog h0 3 (.ptr aB 1)=some (.int .i64 t0.root) from cn (q:=0) (cs:=[af.fz t0.nodes,.int .i64 t0.root]) o0 rfl (by kernel_rfl)),.v 19 (show bk Tryd.prog h0 29 (.ptr aB 0)=some (af.fz t0.nodes) from cn (q:=0) (cs:=[af.fz t0.nodes,.int .i64 t0.root]) o0 rfl (by kernel_rfl)),.b 23 c3] ?_
     have o2:Has h0 (L):=Has.del o0 0
     obtain rfl:=oi H
     exact qt <| ⟨.inl rfl,bZ (.bool false) h0 (bX (aj))⟩
   ·refine qr [.v 1 (show bk Tryd.prog h0 29 (.ptr aB 0)=some (af.fz t0.nodes) from cn (q:=0) (cs:=[af.fz t0.nodes,.int .i64 t0.root]) o0 rfl (by kernel_rfl)),.b 4 c0,.v 6 (show bk Tryd.prog h0 29 (.ptr aB 0)=some (af.fz t0.nodes) from cn (q:=0) (cs:=[af.fz t0.nodes,.int .i64 t0.root]) o0 rfl (by kernel_rfl)),.b 10 c1,.v 12 (show bk Tryd.prog h0 3 (.ptr aB 1)=some (.int .i64 t0.root) from cn (q:=0) (cs:=[af.fz t0.nodes,.int .i64 t0.root]) o0 rfl (by kernel_rfl)),.b 15 c2] ?_
    have o3:Has h0 (L):=Has.del o0 0
    obtain rfl:=oi H
    exact qt <| ⟨.inl rfl,bZ (.bool false) h0 (bX (aj))⟩
  ·refine qr [.v 1 (show bk Tryd.prog h0 29 (.ptr aB 0)=some (af.fz t0.nodes) from cn (q:=0) (cs:=[af.fz t0.nodes,.int .i64 t0.root]) o0 rfl (by kernel_rfl)),.b 4 c0,.v 6 (show bk Tryd.prog h0 29 (.ptr aB 0)=some (af.fz t0.nodes) from cn (q:=0) (cs:=[af.fz t0.nodes,.int .i64 t0.root]) o0 rfl (by kernel_rfl)),.b 10 c1] ?_
   have o4:Has h0 (L):=Has.del o0 0
   obtain rfl:=oi H
   exact qt <| ⟨.inl rfl,bZ (.bool false) h0 (bX (aj))⟩
 ·refine qr [.v 1 (show bk Tryd.prog h0 29 (.ptr aB 0)=some (af.fz t0.nodes) from cn (q:=0) (cs:=[af.fz t0.nodes,.int .i64 t0.root]) o0 rfl (by kernel_rfl)),.b 4 c0] ?_
  have o5:Has h0 (L):=Has.del o0 0
  obtain rfl:=oi H
  exact qt <| ⟨.inl rfl,bZ (.bool false) h0 (bX (aj))⟩
end
end Go.Proofs.YtmekcfdllhphlaaDoor
namespace Go.Proofs.YtmekcfdllhphlaaDoor
open Go Go.R
open Go.IntKind (i64 u64 u8 u32)
def xd:cg:=gk [0,2] [] [2,1] [] []
def ec.f (m:Nat)(x0:Int):Option (Bool):=some (!(x0==x0))
def ec.fin (L:Mem)(r:Bool)(s:St):Prop:=∃av,aI Tryd.prog (s.open xd) Tryd.f108.results.toList=some av∧fB s.h av (.bool r)
def M9 (cf:CallF)(m:Nat):Prop:=∀(x0:Int) (r:Bool),ec.f m x0=some r→∀h xs,ej eL h xs [.int .i64 x0]→cf 108 xs h=some (.bool r,h)
section
variable {cf:CallF}{m:Nat}
theorem nT {aS:FuncId→cg}(ha:aS 108=xd)  (x0:Int)(h:AHeap)(L:Mem)  (o:Has h (L)){out:Bool}(H:ec.f m x0=some out) :
  ∃r h',a7 Tryd.prog aS cf m 108 [.int .i64 x0] h=some (r,h')∧fB h' r (.bool out):=by
 refine ak (fn:=Tryd.f108) ha Tryd.func108 (by kernel_rfl) (by kernel_rfl) ?_
 refine aF (Q:=fun s=>ec.fin L out s) (fun _ _ h=>h) ?_
 have H:_=some out:=H
 unfold ec.f at H
 show de _ cf xd m _ ⟨[.int .i64 x0,.any],[],h⟩ _
 obtain rfl:=oi H
 exact q1 <| qq <| q0 <| qt <| ⟨.inl rfl,bZ (.bool (!(x0==x0))) h (bX (aj))⟩
end
end Go.Proofs.YtmekcfdllhphlaaDoor
namespace Go.Proofs.YtmekcfdllhphlaaDoor
open Go Go.R
open Go.IntKind (i64 u64 u8 u32)
def B4:cg:=gk [0,1,4,5,6,11,12,13,16,19] [] [1020,1012,996,972,959,1019,1019,892,1019,764,1019,511,1019,1019] [] []
def cU.f (m:Nat)(x0:Int)(y0:Int):Option (Int):=(ec.f m x0).bind fun x1=>(ec.f m y0).bind fun x2=>if x1=true then (if x2=true then (some (0:Int)) else (some (-1:Int))) else (if x2=true then (some (1:Int)) else (if (decide (x0<y0))=true then (some (-1:Int)) else (if (decide (x0 > y0))=true then (some (1:Int)) else (some (0:Int)))))
def cU.fin (L:Mem)(r:Int)(s:St):Prop:=∃av,aI Tryd.prog (s.open B4) Tryd.f81.results.toList=some av∧fB s.h av (.int .i64 r)
def SH (cf:CallF)(m:Nat):Prop:=∀(x0:Int) (y0:Int) (r:Int),cU.f m x0 y0=some r→∀h xs,ej eL h xs [.int .i64 x0,.int .i64 y0]→cf 81 xs h=some (.int .i64 r,h)
section
variable {cf:CallF}{m:Nat}
theorem mr {aS:FuncId→cg}(ha:aS 81=B4)(I4:M9 cf m)(x0:Int)(y0:Int)(h:AHeap)(L:Mem)  (o:Has h (L)){out:Int}(H:cU.f m x0 y0=some out) :
  ∃r h',a7 Tryd.prog aS cf m 81 [.int .i64 x0,.int .i64 y0] h=some (r,h')∧fB h' r (.int .i64 out):=by
 refine ak (fn:=Tryd.f81) ha Tryd.func81 (by kernel_rfl) (by kernel_rfl) ?_
 refine aF (Q:=fun s=>cU.fin L out s) (fun _ _ h=>h) ?_
 have H:_=some out:=H
 unfold cU.f at H
 show de _ cf B4 m _ ⟨.int .i64 x0 :: .int .i64 y0::rf [],[],h⟩ _
 refine q1 <| qq ?_
 obtain⟨x1,e0,H⟩:=aJ H
 refine qr [.a 1 (I4 _ _ e0 h _ (ga (ab (aE) (ax))))] <| qq ?_
 obtain⟨x2,e1,H⟩:=aJ H
 refine qr [.a 1 (I4 _ _ e1 h _ (ga (ab (aE) (ax))))] <| qq <| qq <| q0 <| qc H (fun c0 H=>?_) (fun c0 H=>?_)
 ·refine qq <| qq <| q0 <| qc H (fun c1 H=>?_) (fun c1 H=>?_)
  ·obtain rfl:=oi H
   exact q1 <| qt <| ⟨.inl rfl,bZ (.int .i64 (0:Int)) h (bX (eu))⟩
  ·obtain rfl:=oi H
   exact qk <| qq <| q0 <| qt <| ⟨.inl rfl,bZ (.int .i64 (-1:Int)) h (bX (eu))⟩
 ·refine qk <| qq <| qq <| q0 <| qc H (fun c2 H=>?_) (fun c2 H=>?_)
  ·obtain rfl:=oi H
   exact q1 <| qt <| ⟨.inl rfl,bZ (.int .i64 (1:Int)) h (bX (eu))⟩
  ·refine qk <| qq <| qq <| q0 <| qc H (fun c3 H=>?_) (fun c3 H=>?_)
   ·obtain rfl:=oi H
    exact q1 <| qt <| ⟨.inl rfl,bZ (.int .i64 (-1:Int)) h (bX (eu))⟩
   ·refine qk <| qq <| qq <| q0 <| qc H (fun c4 H=>?_) (fun c4 H=>?_)
    ·obtain rfl:=oi H
     exact q1 <| qt <| ⟨.inl rfl,bZ (.int .i64 (1:Int)) h (bX (eu))⟩
    ·obtain rfl:=oi H
     exact qk <| qq <| q0 <| qt <| ⟨.inl rfl,bZ (.int .i64 (0:Int)) h (bX (eu))⟩
end
end Go.Proofs.YtmekcfdllhphlaaDoor
namespace Go.Proofs.YtmekcfdllhphlaaDoor
open Go Go.R
open Go.IntKind (i64 u64 u8 u32)
def yT:cg:=gk [0,2,3,5,6,7,8,9,14] [] [510,506,395,267,387,131,509,395,509] [] []
def ck.l0 (m:Nat)(fX:List Int):Nat→Int→Option (Sum Int (Int))
 | 0,_=>none
 | k+1,x0=>if (decide (x0<(fX.length:Int)))=true then ((ix fX x0).bind fun v0=>if (!(v0==(0:Int)))=true then (some (.inl v0)) else (ck.l0 m fX k (i64.wrap (x0+(1:Int))))) else (some (.inr x0))
def ck.f (m:Nat)(fX:List Int):Option (Int):=(ck.l0 m fX m (0:Int)).bind fun bq=>match bq with | .inl r0=>some r0 | .inr x1=>some (0:Int)
def ck.fin (L:Mem)(r:Int)(s:St):Prop:=∃av,aI Tryd.prog (s.open yT) Tryd.f82.results.toList=some av∧fB s.h av (.int .i64 r)
def SI (cf:CallF)(m:Nat):Prop:=∀(fX:List Int) (r:Int),ck.f m fX=some r→∀h xs,ej eL h xs [aa.fz fX]→cf 82 xs h=some (.int .i64 r,h)
section
variable {cf:CallF}{m:Nat}
theorem ck.bG (L:Mem)(fX:List Int)   : bI Tryd.prog cf yT m (sub [1,1,0,1,0,0] (codeOf Tryd.f82)) (fun k (σ:Int)=>ck.l0 m fX k σ) (fun σ s=>match σ with | x0=>∃h0,s=⟨[.any,.any,.int .i64 (0:Int),.any,aa.fz fX,.int .i64 (fX.length:Int),.int .i64 x0,.any,.any],[],h0⟩∧Has h0 (L)) (fun out e s=>(e = .exit 0∧∃x0,.inr x0=out∧∃AJ tF qn tG h0,s=⟨[.any,.any,.int .i64 (0:Int),.any,AJ,tF,qn,tG,.any],[],h0⟩∧Has h0 (L))∨(e = .ret∧∃r,.inl r=out∧ck.fin L r s)):=by
 refine gS (fun _=>rfl) ?_
 rintro k x0 s out ⟨h0,rfl,o0⟩ H
 have H:ck.l0 m fX (k+1) x0=some out:=H
 refine q1 <| qq <| qc H (fun c0 H=>?_) (fun c0 H=>?_)
 ·refine qk <| qq <| qb 1 <| qq ?_
  obtain⟨v0,e0,H⟩:=aJ H
  refine qr [.v 0 (bo (k:=.i64) (E:=aa) (l:=fX) dC e0),.v 1 (cY  (E:=aa) (l:=fX) h0 A3 e0 rfl)] <| qq <| q0 <| qc H (fun c1 H=>?_) (fun c1 H=>?_)
  ·exact q1 <| qt <| XH (⟨rfl,_,oi H,bZ (.int .i64 v0) h0 (bX (eu))⟩)
  ·exact qk <| q0 <| ⟨i64.wrap (x0+(1:Int)),⟨h0,by kernel_rfl,o0⟩,H⟩
 ·exact qx 0 <| X6 (⟨rfl,x0,oi H,aa.fz fX,.int .i64 (fX.length:Int),.int .i64 x0,.bool (decide (x0<(fX.length:Int))),h0,by kernel_rfl,o0⟩)
theorem rN {aS:FuncId→cg}(ha:aS 82=yT)  (fX:List Int)(h:AHeap)(L:Mem)  (o:Has h (L)){out:Int}(H:ck.f m fX=some out) :
  ∃r h',a7 Tryd.prog aS cf m 82 [aa.fz fX] h=some (r,h')∧fB h' r (.int .i64 out):=by
 refine ak (fn:=Tryd.f82) ha Tryd.func82 (by kernel_rfl) (by kernel_rfl) ?_
 refine aF (Q:=fun s=>ck.fin L out s) (fun _ _ h=>h) ?_
 have H:_=some out:=H
 unfold ck.f at H
 show de _ cf yT m _ ⟨aa.fz fX::rf [],[],h⟩ _
 refine q1 <| qq <| q0 <| qq <| qq <| q0 <| qb 0 ?_
 obtain⟨bq,e1,H⟩:=aJ H
 refine ql (ck.bG L fX   (0:Int) _ _ ⟨h,by kernel_rfl,o⟩ e1) ?_
 rintro e s (⟨rfl,x1,rfl,g0,g1,g2,g3,h1,rfl,o1⟩| ⟨rfl,r0,rfl,lJ⟩)
 ·try dsimp only at H
  obtain rfl:=oi H
  exact q1 <| qt <| ⟨.inl rfl,bZ (.int .i64 (0:Int)) h1 (bX (eu))⟩
 ·try dsimp only at H
  obtain rfl:=oi H
  exact⟨.inl rfl,lJ⟩
end
end Go.Proofs.YtmekcfdllhphlaaDoor
namespace Go.Proofs.YtmekcfdllhphlaaDoor
open Go Go.R
open Go.IntKind (i64 u64 u8 u32)
def xe:cg:=gk [0,2] [] [2,1] [] []
def di.f (m:Nat)(x0:ByteArray):Option (Bool):=some (!(x0.data.toList==x0.data.toList))
def di.fin (L:Mem)(r:Bool)(s:St):Prop:=∃av,aI Tryd.prog (s.open xe) Tryd.f109.results.toList=some av∧fB s.h av (.bool r)
def Na (cf:CallF)(m:Nat):Prop:=∀(x0:ByteArray) (r:Bool),di.f m x0=some r→∀h xs,ej eL h xs [.str x0]→cf 109 xs h=some (.bool r,h)
section
variable {cf:CallF}{m:Nat}
theorem lM {aS:FuncId→cg}(ha:aS 109=xe)  (x0:ByteArray)(h:AHeap)(L:Mem)  (o:Has h (L)){out:Bool}(H:di.f m x0=some out) :
  ∃r h',a7 Tryd.prog aS cf m 109 [.str x0] h=some (r,h')∧fB h' r (.bool out):=by
 refine ak (fn:=Tryd.f109) ha Tryd.func109 (by kernel_rfl) (by kernel_rfl) ?_
 refine aF (Q:=fun s=>di.fin L out s) (fun _ _ h=>h) ?_
 have H:_=some out:=H
 unfold di.f at H
 show de _ cf xe m _ ⟨[.str x0,.any],[],h⟩ _
 obtain rfl:=oi H
 exact q1 <| qq <| q0 <| qt <| ⟨.inl rfl,bZ (.bool (!(x0.data.toList==x0.data.toList))) h (bX (aj))⟩
end
end Go.Proofs.YtmekcfdllhphlaaDoor
namespace Go.Proofs.YtmekcfdllhphlaaDoor
open Go Go.R
open Go.IntKind (i64 u64 u8 u32)
def B5:cg:=gk [0,1,4,5,6,11,12,13,16,19] [] [1020,1012,996,972,959,1019,1019,892,1019,764,1019,511,1019,1019] [] []
def cu.f (m:Nat)(x0:ByteArray)(y0:ByteArray):Option (Int):=(di.f m x0).bind fun x1=>(di.f m y0).bind fun x2=>if x1=true then (if x2=true then (some (0:Int)) else (some (-1:Int))) else (if x2=true then (some (1:Int)) else (if (Op.bytesLess x0.data.toList y0.data.toList)=true then (some (-1:Int)) else (if (!EW x0 y0)=true then (some (1:Int)) else (some (0:Int)))))
def cu.fin (L:Mem)(r:Int)(s:St):Prop:=∃av,aI Tryd.prog (s.open B5) Tryd.f83.results.toList=some av∧fB s.h av (.int .i64 r)
def SJ (cf:CallF)(m:Nat):Prop:=∀(x0:ByteArray) (y0:ByteArray) (r:Int),cu.f m x0 y0=some r→∀h xs,ej eL h xs [.str x0,.str y0]→cf 83 xs h=some (.int .i64 r,h)
section
variable {cf:CallF}{m:Nat}
theorem kN {aS:FuncId→cg}(ha:aS 83=B5)(I5:Na cf m)(x0:ByteArray)(y0:ByteArray)(h:AHeap)(L:Mem)  (o:Has h (L)){out:Int}(H:cu.f m x0 y0=some out) :
  ∃r h',a7 Tryd.prog aS cf m 83 [.str x0,.str y0] h=some (r,h')∧fB h' r (.int .i64 out):=by
 refine ak (fn:=Tryd.f83) ha Tryd.func83 (by kernel_rfl) (by kernel_rfl) ?_
 refine aF (Q:=fun s=>cu.fin L out s) (fun _ _ h=>h) ?_
 have H:_=some out:=H
 unfold cu.f at H
 show de _ cf B5 m _ ⟨.str x0 :: .str y0::rf [],[],h⟩ _
 refine q1 <| qq ?_
 obtain⟨x1,e0,H⟩:=aJ H
 refine qr [.a 1 (I5 _ _ e0 h _ (ga (ab (bK) (ax))))] <| qq ?_
 obtain⟨x2,e1,H⟩:=aJ H
 refine qr [.a 1 (I5 _ _ e1 h _ (ga (ab (bK) (ax))))] <| qq <| qq <| q0 <| qc H (fun c0 H=>?_) (fun c0 H=>?_)
 ·refine qq <| qq <| q0 <| qc H (fun c1 H=>?_) (fun c1 H=>?_)
  ·obtain rfl:=oi H
   exact q1 <| qt <| ⟨.inl rfl,bZ (.int .i64 (0:Int)) h (bX (eu))⟩
  ·obtain rfl:=oi H
   exact qk <| qq <| q0 <| qt <| ⟨.inl rfl,bZ (.int .i64 (-1:Int)) h (bX (eu))⟩
 ·refine qk <| qq <| qq <| q0 <| qc H (fun c2 H=>?_) (fun c2 H=>?_)
  ·obtain rfl:=oi H
   exact q1 <| qt <| ⟨.inl rfl,bZ (.int .i64 (1:Int)) h (bX (eu))⟩
  ·refine qk <| qq <| qq <| q0 <| qc H (fun c3 H=>?_) (fun c3 H=>?_)
   ·obtain rfl:=oi H
    exact q1 <| qt <| ⟨.inl rfl,bZ (.int .i64 (-1:Int)) h (bX (eu))⟩
   ·refine qk <| qq <| qq <| q0 <| qc H (fun c4 H=>?_) (fun c4 H=>?_)
    ·obtain rfl:=oi H
     exact q1 <| qt <| ⟨.inl rfl,bZ (.int .i64 (1:Int)) h (bX (eu))⟩
    ·obtain rfl:=oi H
     exact qk <| qq <| q0 <| qt <| ⟨.inl rfl,bZ (.int .i64 (0:Int)) h (bX (eu))⟩
end
end Go.Proofs.YtmekcfdllhphlaaDoor
namespace Go.Proofs.YtmekcfdllhphlaaDoor
open Go Go.R
open Go.IntKind (i64 u64 u8 u32)
def B6:cg:=gk [0,1,2,3,4,5,16] [2,3] [115,83,111,51,111,111] [] []
def cV.f (m:Nat)(a0:ae)(b0:ae):Option (Int):=if (!(a0.kind==b0.kind))=true then ((cU.f m a0.kind b0.kind).bind fun x0=>some x0) else (if (a0.kind==(3:Int))=true then ((cU.f m (a0.args.length:Int) (b0.args.length:Int)).bind fun x1=>(cu.f m a0.label b0.label).bind fun x2=>(ck.f m ([x1,x2])).bind fun x3=>some x3) else ((cu.f m a0.label b0.label).bind fun x4=>(cU.f m a0.int b0.int).bind fun x5=>(ck.f m ([x4,x5])).bind fun x6=>some x6))
def cV.fin (L:Mem)(r:Int)(s:St):Prop:=∃av,aI Tryd.prog (s.open B6) Tryd.f65.results.toList=some av∧fB s.h av (.int .i64 r)
def Nb (cf:CallF)(m:Nat):Prop:=∀(a0:ae) (b0:ae) (r:Int),cV.f m a0 b0=some r→∀h xs,ej eL h xs [.agg [.int .i64 a0.kind,.int .i64 a0.int,.str a0.label,aa.fz a0.args],.agg [.int .i64 b0.kind,.int .i64 b0.int,.str b0.label,aa.fz b0.args]]→cf 65 xs h=some (.int .i64 r,h)
section
variable {cf:CallF}{m:Nat}
theorem mu {aS:FuncId→cg}(ha:aS 65=B6)(Ky:SH cf m)(Nc:SI cf m)(Nd:SJ cf m)(a0:ae)(b0:ae)(h:AHeap)(L:Mem)  (o:Has h (L)){out:Int}(H:cV.f m a0 b0=some out) :
  ∃r h',a7 Tryd.prog aS cf m 65 [.agg [.int .i64 a0.kind,.int .i64 a0.int,.str a0.label,aa.fz a0.args],.agg [.int .i64 b0.kind,.int .i64 b0.int,.str b0.label,aa.fz b0.args]] h=some (r,h')∧fB h' r (.int .i64 out):=by
 refine ak (fn:=Tryd.f65) ha Tryd.func65 (by kernel_rfl) (by kernel_rfl) ?_
 refine aF (Q:=fun s=>cV.fin L out s) (fun _ _ h=>h) ?_
 have H:_=some out:=H
 unfold cV.f at H
 show de _ cf B6 m _ ⟨.agg [.int .i64 a0.kind,.int .i64 a0.int,.str a0.label,aa.fz a0.args] :: .agg [.int .i64 b0.kind,.int .i64 b0.int,.str b0.label,aa.fz b0.args]::sf [],[none,none],h⟩ _
 refine q1 <| qq <| qb 0 <| qq <| q0 <| qc H (fun c0 H=>?_) (fun c0 H=>?_)
 ·refine qq ?_
  obtain⟨x0,e0,H⟩:=aJ H
  obtain rfl:=oi H
  exact qr [.a 4 (Ky _ _ _ e0 h _ (ga (ab (aE) (ab (aE) (ax)))))] <| qt <| ⟨.inl rfl,bZ (.int .i64 x0) h (bX (eu))⟩
 ·refine q1 <| qc H (fun c1 H=>?_) (fun c1 H=>?_)
  ·refine qq ?_
   obtain⟨x1,e1,H⟩:=aJ H
   obtain⟨x2,e2,H⟩:=aJ H
   obtain⟨x3,e3,H⟩:=aJ H
   obtain rfl:=oi H
   exact qr [.a 6 (Ky _ _ _ e1 h _ (ga (ab (aE) (ab (aE) (ax))))),.a 11 (Nd _ _ _ e2 h _ (ga (ab (bK) (ab (bK) (ax))))),.a 13 (Nc _ _ e3 h _ (ga (ab (ET (E:=aa) (l:=[x1,x2]) (cs:=[.int .i64 x1,.int .i64 x2]) (b:=true) (by kernel_rfl) (by kernel_rfl) rfl) (ax))))] <| qt <| ⟨.inl rfl,bZ (.int .i64 x3) h (bX (eu))⟩
  ·refine qk <| qq ?_
   obtain⟨x4,e4,H⟩:=aJ H
   obtain⟨x5,e5,H⟩:=aJ H
   obtain⟨x6,e6,H⟩:=aJ H
   obtain rfl:=oi H
   exact qr [.a 4 (Nd _ _ _ e4 h _ (ga (ab (bK) (ab (bK) (ax))))),.a 9 (Ky _ _ _ e5 h _ (ga (ab (aE) (ab (aE) (ax))))),.a 11 (Nc _ _ e6 h _ (ga (ab (ET (E:=aa) (l:=[x4,x5]) (cs:=[.int .i64 x4,.int .i64 x5]) (b:=true) (by kernel_rfl) (by kernel_rfl) rfl) (ax))))] <| qt <| ⟨.inl rfl,bZ (.int .i64 x6) h (bX (eu))⟩
end
end Go.Proofs.YtmekcfdllhphlaaDoor
namespace Go.Proofs.YtmekcfdllhphlaaDoor
open Go Go.R
open Go.IntKind (i64 u64 u8 u32)
def B7:cg:=gk [0,1,2,5] [] [8,7] [] []
def dr.f (m:Nat)(i0:Int)(j0:Int)(x0:List ae):Option (Int):=(ix x0 i0).bind fun v0=>(ix x0 j0).bind fun v1=>(cV.f m v0 v1).bind fun x1=>some x1
def dr.fin (h:AHeap)(r:Int)(s:St):Prop:=aI Tryd.prog (s.open B7) Tryd.f85.results.toList=some (.int .i64 r)∧s.h=h
def SK (cf:CallF)(m:Nat):Prop:=∀(i0:Int) (j0:Int) (x0:List ae) (r:Int),dr.f m i0 j0 x0=some r→∀h L (eG bT:Nat),Has h L→L[eG]? = some (bT,.ob [af.fz x0])→cf 85 [.int .i64 i0,.int .i64 j0,.ptr bT 0] h=some (.int .i64 r,h)
section
variable {cf:CallF}{m:Nat}
theorem mV {aS:FuncId→cg}(ha:aS 85=B7)(yU:Nb cf m)(i0:Int)(j0:Int)(x0:List ae)(h:AHeap)(L:Mem)  {eG bT:Nat}(fW:L[eG]? = some (bT,.ob [af.fz x0]))(o:Has h (L)){out:Int}(H:dr.f m i0 j0 x0=some out) :
  ∃r h',a7 Tryd.prog aS cf m 85 [.int .i64 i0,.int .i64 j0,.ptr bT 0] h=some (r,h')∧r=(.int .i64 out)∧h'=h:=by
 refine ak (fn:=Tryd.f85) ha Tryd.func85 (by kernel_rfl) (by kernel_rfl) ?_
 refine aF (Q:=fun s=>dr.fin h out s) (fun _ _ ⟨h1,h2,h3⟩=>⟨h1,_,h2,rfl,h3⟩) ?_
 have H:_=some out:=H
 unfold dr.f at H
 show de _ cf B7 m _ ⟨[.int .i64 i0,.int .i64 j0,.ptr bT 0,.any],[],h⟩ _
 refine q1 <| qq ?_
 obtain⟨v0,e0,H⟩:=aJ H
 obtain⟨v1,e1,H⟩:=aJ H
 obtain⟨x1,e2,H⟩:=aJ H
 obtain rfl:=oi H
 exact qr [.v 0 (show bk Tryd.prog h 29 (.ptr bT 0)=some (af.fz x0) from cn (q:=eG) (cs:=[af.fz x0]) o fW (by kernel_rfl)),.v 2 (bo (k:=.i64) (E:=af) (l:=x0) kT e0),.v 3 (cO  (E:=af) (l:=x0) h ri rj e0),.v 4 (show bk Tryd.prog h 29 (.ptr bT 0)=some (af.fz x0) from cn (q:=eG) (cs:=[af.fz x0]) o fW (by kernel_rfl)),.v 6 (bo (k:=.i64) (E:=af) (l:=x0) kT e1),.v 7 (cO  (E:=af) (l:=x0) h ri rj e1),.a 8 (yU _ _ _ e2 h _ (ga (ab (bQ (ab (aE) (ab (aE) (ab (bK) (ab (bS (E:=aa)) (ax)))))) (ab (bQ (ab (aE) (ab (aE) (ab (bK) (ab (bS (E:=aa)) (ax)))))) (ax)))))] <| qt <| ⟨.inl rfl,⟨by kernel_rfl,by kernel_rfl⟩⟩
end
end Go.Proofs.YtmekcfdllhphlaaDoor
