/- Part of the proof: Q120, PS3, PS4, Q110, Q84, PS5, Q61, Q45, Q108, Q81, Q82, Q109, Q83, Q65, Q85. -/
import Derived.Test.YtmekcfdllhphlaaDoorK7
set_option linter.unusedVariables false
set_option linter.unusedSimpArgs false
set_option maxRecDepth 100000
open Int renaming toNat_natCast → QT
open List renaming append_assoc → Rm, cons_append → Ru, nil_append → Rv
open Nat renaming le_refl → QS, zero_add → Re, mul_le_mul_right → RY
open Option renaming bind_some → QM
open Or renaming inr → Sa
open Prod.mk renaming injEq → QV
namespace Go.Proofs.YtmekcfdllhphlaaDoor
open Go Go.R
open Go.IntKind (i64 u64 u8 u32)
def jl:ca:=ff [0,1,2,3,4,10,11,12,13,14,15,16,17,18,19,20,21,22,23,24,28,33,50,58,80,85,103,110,140,151,171,185,199,213] [] [17178820576,17179869124,17179869068,17177771916,17179868940,17175674636,17179869068,17179869068,17179868894,17171480286,17179868894,17179868894,17163091936,17179868650,17179867626,17146313194,17179865578,17112756714,17179867626,17179867626,17179864574,17045646846,17179864574,17179864574,17179860960,17179844576,17179844576,16911409120,17179811808,17179746272,17179811808,17179746272,17179615200,16642744288,17179353056,16105611232,17179615200,17179615200,17179303904,15031820256,17179303908,12884336612,17179336678,8589402086,17179869183] [] []
def ay.l0 (m:Nat)(ai:List Int)(a0:Int)(aF:Int→Int→Option (Int)):Nat→Int→Int→Option (Int × Int)
 | 0,_,_=>none
 | k+1,i0,j0=>if (decide (i0<j0))=true then ((ix ai (i64.wrap (gA .u64 (u64.wrap (i64.wrap (i0+j0))) 1))).bind fun v0=>(ix ai a0).bind fun v1=>(aF v0 v1).bind fun r0=>if (decide (r0<(0:Int)))=true then (ay.l0 m ai a0 aF k (i64.wrap (i64.wrap (gA .u64 (u64.wrap (i64.wrap (i0+j0))) 1)+(1:Int))) j0) else (ay.l0 m ai a0 aF k i0 (i64.wrap (gA .u64 (u64.wrap (i64.wrap (i0+j0))) 1)))) else (some ((i0,j0)))
def ay.l1 (m:Nat)(i1:Int):Nat→(List Int)→Int→Option ((List Int) × Int)
 | 0,_,_=>none
 | k+1,aS,k0=>if (decide (k0<(i64.wrap (i1 - (1:Int)))))=true then ((ix aS (i64.wrap (k0+(1:Int)))).bind fun v2=>(ix aS k0).bind fun v3=>(ix aS k0).bind fun v4=>(ix (aS.set k0.toNat v2) (i64.wrap (k0+(1:Int)))).bind fun v5=>ay.l1 m i1 k ((aS.set k0.toNat v2).set (i64.wrap (k0+(1:Int))).toNat v3) (i64.wrap (k0+(1:Int)))) else (some ((aS,k0)))
def ay.l2 (m:Nat)(ai:List Int)(m0:Int)(aF:Int→Int→Option (Int)):Nat→Int→Int→Option (Int × Int)
 | 0,_,_=>none
 | k+1,i2,j2=>if (decide (i2<j2))=true then ((ix ai m0).bind fun v6=>(ix ai (i64.wrap (gA .u64 (u64.wrap (i64.wrap (i2+j2))) 1))).bind fun v7=>(aF v6 v7).bind fun r1=>if (!(decide (r1<(0:Int))))=true then (ay.l2 m ai m0 aF k (i64.wrap (i64.wrap (gA .u64 (u64.wrap (i64.wrap (i2+j2))) 1)+(1:Int))) j2) else (ay.l2 m ai m0 aF k i2 (i64.wrap (gA .u64 (u64.wrap (i64.wrap (i2+j2))) 1)))) else (some ((i2,j2)))
def ay.l3 (m:Nat)(i3:Int):Nat→(List Int)→Int→Option ((List Int) × Int)
 | 0,_,_=>none
 | k+1,cj,k2=>if (decide (k2 > i3))=true then ((ix cj (i64.wrap (k2 - (1:Int)))).bind fun v8=>(ix cj k2).bind fun v9=>(ix cj k2).bind fun v10=>(ix (cj.set k2.toNat v8) (i64.wrap (k2 - (1:Int)))).bind fun v11=>ay.l3 m i3 k ((cj.set k2.toNat v8).set (i64.wrap (k2 - (1:Int))).toNat v9) (i64.wrap (k2 - (1:Int)))) else (some ((cj,k2)))
def ay.l4 (m:Nat)(ai:List Int)(a0:Int)(m0:Int)(b0:Int)(aF:Int→Int→Option (Int)):Nat→Int→Int→Option (Int × Int)
 | 0,_,_=>none
 | k+1,dS,r3=>if (decide (dS<r3))=true then ((ix ai (i64.wrap (i64.wrap (i64.wrap (i64.wrap (gA .u64 (u64.wrap (i64.wrap (a0+b0))) 1)+m0) - (1:Int)) - i64.wrap (gA .u64 (u64.wrap (i64.wrap (dS+r3))) 1)))).bind fun v12=>(ix ai (i64.wrap (gA .u64 (u64.wrap (i64.wrap (dS+r3))) 1))).bind fun FG=>(aF v12 FG).bind fun r4=>if (!(decide (r4<(0:Int))))=true then (ay.l4 m ai a0 m0 b0 aF k (i64.wrap (i64.wrap (gA .u64 (u64.wrap (i64.wrap (dS+r3))) 1)+(1:Int))) r3) else (ay.l4 m ai a0 m0 b0 aF k dS (i64.wrap (gA .u64 (u64.wrap (i64.wrap (dS+r3))) 1)))) else (some ((dS,r3)))
def ay.b (m:Nat)(rec:(List Int)→Int→Int→Int→(Int→Int→Option (Int))→Option ((List Int)))(ai:List Int)(a0:Int)(m0:Int)(b0:Int)(aF:Int→Int→Option (Int)):Option ((List Int)):=if ((i64.wrap (m0 - a0))==(1:Int))=true then ((ay.l0 m ai a0 aF m m0 b0).bind fun bR=>match bR with | (i1,j1)=>(ay.l1 m i1 m ai a0).bind fun b5=>match b5 with | (bX,k1)=>some bX) else (if ((i64.wrap (b0 - m0))==(1:Int))=true then ((ay.l2 m ai m0 aF m a0 m0).bind fun iT=>match iT with | (i3,j3)=>(ay.l3 m i3 m ai m0).bind fun mb=>match mb with | (gD,k3)=>some gD) else (jn (fun (σ:Int × Int)=>match σ with | (qa,r2)=>(ay.l4 m ai a0 m0 b0 aF m qa r2).bind fun bV=>match bV with | (dp,r5)=>jn (fun (σ:(List Int))=>match σ with | iU=>jn (fun (σ:(List Int))=>match σ with | mc=>if (decide ((i64.wrap (gA .u64 (u64.wrap (i64.wrap (a0+b0))) 1))<(i64.wrap (i64.wrap (i64.wrap (gA .u64 (u64.wrap (i64.wrap (a0+b0))) 1)+m0) - dp))))=true then (if (decide ((i64.wrap (i64.wrap (i64.wrap (gA .u64 (u64.wrap (i64.wrap (a0+b0))) 1)+m0) - dp))<b0))=true then ((rec mc (i64.wrap (gA .u64 (u64.wrap (i64.wrap (a0+b0))) 1)) (i64.wrap (i64.wrap (i64.wrap (gA .u64 (u64.wrap (i64.wrap (a0+b0))) 1)+m0) - dp)) b0 aF).bind fun x2=>some x2) else (some mc)) else (some mc)) fun HX=>(if (decide (a0<dp))=true then (if (decide (dp<(i64.wrap (gA .u64 (u64.wrap (i64.wrap (a0+b0))) 1))))=true then ((rec iU a0 dp (i64.wrap (gA .u64 (u64.wrap (i64.wrap (a0+b0))) 1)) aF).bind fun x1=>HX x1) else (HX iU)) else (HX iU))) fun HY=>(if (decide (dp<m0))=true then (if (decide (m0<(i64.wrap (i64.wrap (i64.wrap (gA .u64 (u64.wrap (i64.wrap (a0+b0))) 1)+m0) - dp))))=true then ((dh.f m ai dp m0 (i64.wrap (i64.wrap (i64.wrap (gA .u64 (u64.wrap (i64.wrap (a0+b0))) 1)+m0) - dp)) aF).bind fun x0=>HY x0) else (HY ai)) else (HY ai))) fun I8=>(if (decide (m0 > (i64.wrap (gA .u64 (u64.wrap (i64.wrap (a0+b0))) 1))))=true then (I8 (i64.wrap (i64.wrap (i64.wrap (gA .u64 (u64.wrap (i64.wrap (a0+b0))) 1)+m0) - b0),i64.wrap (gA .u64 (u64.wrap (i64.wrap (a0+b0))) 1))) else (I8 (a0,m0)))))
def ay.f (m:Nat):Nat→(List Int)→Int→Int→Int→(Int→Int→Option (Int))→Option ((List Int))
 | 0,_,_,_,_,_=>none
 | k+1,ai,a0,m0,b0,aF=>ay.b m (ay.f m k) ai a0 m0 b0 aF
def ay.fin (L:Mem)(aL:Nat)(ai:List Int)(a0:Int)(m0:Int)(b0:Int)(aF:Int→Int→Option (Int))(r:(List Int))(s:St):Prop:=aP Tryd.prog (s.open jl) Tryd.f120.results.toList=some (.tup [])∧Has s.h ((aL,.sl ai.length 1 (af.l r))::L)
def qU (cf:CallF)(m:Nat)(kk:Nat):Prop:=∀(ai:List Int) (a0:Int) (m0:Int) (b0:Int) (aF:Int→Int→Option (Int)) (r:(List Int)),ay.f m kk ai a0 m0 b0 aF=some r→∀h L (bI:Nat) (aL:Nat),Has h ((aL,.sl bI 1 (af.l ai))::L)→∀(cY:FuncId) (aK:List AV),aC (.fn cY aK) = .fn cY aK→(∀h K,Has h (K++L)→∀(a0:Int) (a1:Int) r,aF a0 a1=some r→cf cY ([.int .i64 a0,.int .i64 a1]++aK) h=some (.int .i64 r,h))→∀xs,xs.map aC=[.rs aL 0 bI 1,.int .i64 a0,.int .i64 m0,.int .i64 b0,.fn cY aK]→∃h',cf 120 xs h=some (.tup [],h')∧Has h' ((aL,.sl bI 1 (af.l r))::L)
section
variable {cf:CallF}{m:Nat}
theorem ay.cw (L:Mem)(aL:Nat)(cY:FuncId)(aK:List AV)(ai:List Int)(a0:Int)(m0:Int)(b0:Int)(aF:Int→Int→Option (Int))  {kk:Nat}(fO:qU cf m kk)(eB:aC (.fn cY aK) = .fn cY aK)(eW:∀h K,Has h (K++L)→∀(a0:Int) (a1:Int) r,aF a0 a1=some r→cf cY ([.int .i64 a0,.int .i64 a1]++aK) h=some (.int .i64 r,h))  : cD Tryd.prog cf jl m (sub [0,1,0,1,1,0,0,0] (codeOf Tryd.f120)) (fun k (σ:Int × Int)=>ay.l0 m ai a0 aF k σ.1 σ.2) (fun σ s=>match σ with | (i0,j0)=>∃h0,s=⟨.rs aL 0 ai.length 1 :: .int .i64 a0 :: .any :: .any :: .fn cY aK :: .int .i64 i0 :: .int .i64 j0::Kg [],[],h0⟩∧Has h0 ((aL,.sl ai.length 1 (af.l ai))::L)) (fun out e s=>(e = .exit 0∧∃i0 j0,(i0,j0)=out∧∃HZ Fy Ku h0,s=⟨.rs aL 0 ai.length 1 :: .int .i64 a0 :: .any :: .any::HZ :: .int .i64 i0::Fy::sO (Ku::pK []),[],h0⟩∧Has h0 ((aL,.sl ai.length 1 (af.l ai))::L))):=by
 refine jW (fun _=>rfl) ?_
 rintro k ⟨i0,j0⟩ s out ⟨h0,rfl,o0⟩ H
 have H:ay.l0 m ai a0 aF (k+1) i0 j0=some out:=H
 refine qq <| qq <| q0 <| qc H (fun c1 H=>?_) (fun c1 H=>?_)
 ·refine qk <| qb 1 <| qq <| q0 <| qq ?_
  obtain⟨v0,e0,H⟩:=bb H
  obtain⟨v1,e1,H⟩:=bb H
  obtain⟨r0,e2,H⟩:=bb H
  refine qr [.v 3 (aY (k:=.i64) (E:=af) (l:=ai) (q:=0) fV o0 rfl e0),.v 4 (cp  (E:=af) (l:=ai) (q:=0) o0 rfl A3 e0 rfl),.v 7 (aY (k:=.i64) (E:=af) (l:=ai) (q:=0) fV o0 rfl e1),.v 8 (cp  (E:=af) (l:=ai) (q:=0) o0 rfl A3 e1 rfl),.a 9 (eW h0 [(aL,.sl ai.length 1 (af.l ai))] o0 _ _ _ e2)] <| qc H (fun c2 H=>?_) (fun c2 H=>?_)
  ·exact q0 <| ⟨(i64.wrap (i64.wrap (gA .u64 (u64.wrap (i64.wrap (i0+j0))) 1)+(1:Int)),j0),⟨h0,by kernel_rfl,o0⟩,H⟩
  ·exact q0 <| ⟨(i0,i64.wrap (gA .u64 (u64.wrap (i64.wrap (i0+j0))) 1)),⟨h0,by kernel_rfl,o0⟩,H⟩
 ·exact qx 0 <| ⟨rfl,i0,j0,oi H,.fn cY aK,.int .i64 j0,.bool (decide (i0<j0)),h0,by kernel_rfl,o0⟩
theorem ay.iS (L:Mem)(aL:Nat)(cY:FuncId)(aK:List AV)(ai:List Int)(a0:Int)(m0:Int)(b0:Int)(aF:Int→Int→Option (Int))(i1:Int)  {kk:Nat}(fO:qU cf m kk)(eB:aC (.fn cY aK) = .fn cY aK)(eW:∀h K,Has h (K++L)→∀(a0:Int) (a1:Int) r,aF a0 a1=some r→cf cY ([.int .i64 a0,.int .i64 a1]++aK) h=some (.int .i64 r,h))  : cD Tryd.prog cf jl m (sub [0,1,0,1,1,1,0,1,0,0] (codeOf Tryd.f120)) (fun k (σ:(List Int) × Int)=>ay.l1 m i1 k σ.1 σ.2) (fun σ s=>match σ with | (aS,k0)=>∃h2,s=⟨.rs aL 0 ai.length 1::AW (.int .i64 i1 :: .any :: .any :: .int .i64 k0::Kf []),[],h2⟩∧Has h2 ((aL,.sl ai.length 1 (af.l aS))::L)) (fun out e s=>(e = .exit 2∧∃aS k0,(aS,k0)=out∧∃qR Fx wq FH h2,s=⟨qR::AW (Fx :: .any :: .any::wq::sO (FH::HK [])),[],h2⟩∧Has h2 ((aL,.sl ai.length 1 (af.l aS))::L))):=by
 refine jW (fun _=>rfl) ?_
 rintro k ⟨aS,k0⟩ s out ⟨h2,rfl,o2⟩ H
 have H:ay.l1 m i1 (k+1) aS k0=some out:=H
 refine qq <| qq <| q0 <| qc H (fun c3 H=>?_) (fun c3 H=>?_)
 ·refine qk <| qq <| qb 3 ?_
  obtain⟨v2,e4,H⟩:=bb H
  obtain⟨v3,e5,H⟩:=bb H
  obtain⟨v4,e6,H⟩:=bb H
  obtain⟨h3,e7,o3⟩:=eR (P:=Tryd.prog) (tf:=3) (E:=af) (l:=aS) (q:=0) (v:=v2) (x:=.int .i64 v2) o2 rfl Z3 e6 rfl rfl
  obtain⟨v5,e8,H⟩:=bb H
  obtain⟨h4,e9,o4⟩:=eR (P:=Tryd.prog) (tf:=3) (E:=af) (l:=(aS.set k0.toNat v2)) (q:=0) (v:=v3) (x:=.int .i64 v3) o3 rfl Z3 e8 rfl rfl
  exact qr [.v 8 (aY (k:=.i64) (E:=af) (l:=aS) (q:=0) fV o2 rfl e4),.v 9 (cp  (E:=af) (l:=aS) (q:=0) o2 rfl A3 e4 rfl),.v 12 (aY (k:=.i64) (E:=af) (l:=aS) (q:=0) fV o2 rfl e5),.v 13 (cp  (E:=af) (l:=aS) (q:=0) o2 rfl A3 e5 rfl),.v 14 (aY (k:=.i64) (E:=af) (l:=aS) (q:=0) fV o2 rfl e6),.w 15 e7,.v 16 (aY (k:=.i64) (E:=af) (l:=(aS.set k0.toNat v2)) (q:=0) fV o3 rfl e8),.w 17 e9] <| q0 <| ⟨((aS.set k0.toNat v2).set (i64.wrap (k0+(1:Int))).toNat v3,i64.wrap (k0+(1:Int))),⟨h4,by kernel_rfl,o4⟩,H⟩
 ·exact qx 2 <| ⟨rfl,aS,k0,oi H,.rs aL 0 ai.length 1,.int .i64 i1,.int .i64 k0,.bool (decide (k0<(i64.wrap (i1 - (1:Int))))),h2,by kernel_rfl,o2⟩
theorem ay.qd (L:Mem)(aL:Nat)(cY:FuncId)(aK:List AV)(ai:List Int)(a0:Int)(m0:Int)(b0:Int)(aF:Int→Int→Option (Int))  {kk:Nat}(fO:qU cf m kk)(eB:aC (.fn cY aK) = .fn cY aK)(eW:∀h K,Has h (K++L)→∀(a0:Int) (a1:Int) r,aF a0 a1=some r→cf cY ([.int .i64 a0,.int .i64 a1]++aK) h=some (.int .i64 r,h))  : cD Tryd.prog cf jl m (sub [1,0,1,0,1,1,0,0,0] (codeOf Tryd.f120)) (fun k (σ:Int × Int)=>ay.l2 m ai m0 aF k σ.1 σ.2) (fun σ s=>match σ with | (i2,j2)=>∃h6,s=⟨.rs aL 0 ai.length 1 :: .any :: .int .i64 m0 :: .any :: .fn cY aK::AW (.int .i64 i2 :: .int .i64 j2::Kd []),[],h6⟩∧Has h6 ((aL,.sl ai.length 1 (af.l ai))::L)) (fun out e s=>(e = .exit 4∧∃i2 j2,(i2,j2)=out∧∃HZ wC Kv h6,s=⟨.rs aL 0 ai.length 1 :: .any :: .int .i64 m0 :: .any::HZ::AW (.int .i64 i2::wC::sO (Kv::vl [])),[],h6⟩∧Has h6 ((aL,.sl ai.length 1 (af.l ai))::L))):=by
 refine jW (fun _=>rfl) ?_
 rintro k ⟨i2,j2⟩ s out ⟨h6,rfl,o6⟩ H
 have H:ay.l2 m ai m0 aF (k+1) i2 j2=some out:=H
 refine qq <| qq <| q0 <| qc H (fun c5 H=>?_) (fun c5 H=>?_)
 ·refine qk <| qb 5 <| qq <| q0 <| qq ?_
  obtain⟨v6,Bl,H⟩:=bb H
  obtain⟨v7,Dn,H⟩:=bb H
  obtain⟨r1,Ed,H⟩:=bb H
  refine qr [.v 3 (aY (k:=.i64) (E:=af) (l:=ai) (q:=0) fV o6 rfl Bl),.v 4 (cp  (E:=af) (l:=ai) (q:=0) o6 rfl A3 Bl rfl),.v 7 (aY (k:=.i64) (E:=af) (l:=ai) (q:=0) fV o6 rfl Dn),.v 8 (cp  (E:=af) (l:=ai) (q:=0) o6 rfl A3 Dn rfl),.a 9 (eW h6 [(aL,.sl ai.length 1 (af.l ai))] o6 _ _ _ Ed)] <| qc H (fun c6 H=>?_) (fun c6 H=>?_)
  ·exact q0 <| ⟨(i64.wrap (i64.wrap (gA .u64 (u64.wrap (i64.wrap (i2+j2))) 1)+(1:Int)),j2),⟨h6,by kernel_rfl,o6⟩,H⟩
  ·exact q0 <| ⟨(i2,i64.wrap (gA .u64 (u64.wrap (i64.wrap (i2+j2))) 1)),⟨h6,by kernel_rfl,o6⟩,H⟩
 ·exact qx 4 <| ⟨rfl,i2,j2,oi H,.fn cY aK,.int .i64 j2,.bool (decide (i2<j2)),h6,by kernel_rfl,o6⟩
theorem ay.ux (L:Mem)(aL:Nat)(cY:FuncId)(aK:List AV)(ai:List Int)(a0:Int)(m0:Int)(b0:Int)(aF:Int→Int→Option (Int))(i3:Int)  {kk:Nat}(fO:qU cf m kk)(eB:aC (.fn cY aK) = .fn cY aK)(eW:∀h K,Has h (K++L)→∀(a0:Int) (a1:Int) r,aF a0 a1=some r→cf cY ([.int .i64 a0,.int .i64 a1]++aK) h=some (.int .i64 r,h))  : cD Tryd.prog cf jl m (sub [1,0,1,0,1,1,1,0,1,0,0] (codeOf Tryd.f120)) (fun k (σ:(List Int) × Int)=>ay.l3 m i3 k σ.1 σ.2) (fun σ s=>match σ with | (cj,k2)=>∃h8,s=⟨.rs aL 0 ai.length 1::vl (.int .i64 i3 :: .any :: .any :: .int .i64 k2::Kc []),[],h8⟩∧Has h8 ((aL,.sl ai.length 1 (af.l cj))::L)) (fun out e s=>(e = .exit 6∧∃cj k2,(cj,k2)=out∧∃qR wA Bm H0 h8,s=⟨qR::vl (wA :: .any :: .any::Bm::sO (H0::Dg [])),[],h8⟩∧Has h8 ((aL,.sl ai.length 1 (af.l cj))::L))):=by
 refine jW (fun _=>rfl) ?_
 rintro k ⟨cj,k2⟩ s out ⟨h8,rfl,o8⟩ H
 have H:ay.l3 m i3 (k+1) cj k2=some out:=H
 refine qq <| qq <| q0 <| qc H (fun c7 H=>?_) (fun c7 H=>?_)
 ·refine qk <| qq <| qb 7 ?_
  obtain⟨v8,Dp,H⟩:=bb H
  obtain⟨v9,Ee,H⟩:=bb H
  obtain⟨v10,FI,H⟩:=bb H
  obtain⟨h9,H2,o9⟩:=eR (P:=Tryd.prog) (tf:=3) (E:=af) (l:=cj) (q:=0) (v:=v8) (x:=.int .i64 v8) o8 rfl Z3 FI rfl rfl
  obtain⟨v11,FJ,H⟩:=bb H
  obtain⟨h10,H3,CD⟩:=eR (P:=Tryd.prog) (tf:=3) (E:=af) (l:=(cj.set k2.toNat v8)) (q:=0) (v:=v9) (x:=.int .i64 v9) o9 rfl Z3 FJ rfl rfl
  exact qr [.v 8 (aY (k:=.i64) (E:=af) (l:=cj) (q:=0) fV o8 rfl Dp),.v 9 (cp  (E:=af) (l:=cj) (q:=0) o8 rfl A3 Dp rfl),.v 12 (aY (k:=.i64) (E:=af) (l:=cj) (q:=0) fV o8 rfl Ee),.v 13 (cp  (E:=af) (l:=cj) (q:=0) o8 rfl A3 Ee rfl),.v 14 (aY (k:=.i64) (E:=af) (l:=cj) (q:=0) fV o8 rfl FI),.w 15 H2,.v 16 (aY (k:=.i64) (E:=af) (l:=(cj.set k2.toNat v8)) (q:=0) fV o9 rfl FJ),.w 17 H3] <| q0 <| ⟨((cj.set k2.toNat v8).set (i64.wrap (k2 - (1:Int))).toNat v9,i64.wrap (k2 - (1:Int))),⟨h10,by kernel_rfl,CD⟩,H⟩
 ·exact qx 6 <| ⟨rfl,cj,k2,oi H,.rs aL 0 ai.length 1,.int .i64 i3,.int .i64 k2,.bool (decide (k2 > i3)),h8,by kernel_rfl,o8⟩
theorem ay.Bn (L:Mem)(aL:Nat)(cY:FuncId)(aK:List AV)(ai:List Int)(a0:Int)(m0:Int)(b0:Int)(aF:Int→Int→Option (Int))  {kk:Nat}(fO:qU cf m kk)(eB:aC (.fn cY aK) = .fn cY aK)(eW:∀h K,Has h (K++L)→∀(a0:Int) (a1:Int) r,aF a0 a1=some r→cf cY ([.int .i64 a0,.int .i64 a1]++aK) h=some (.int .i64 r,h))  : cD Tryd.prog cf jl m (sub [1,1,1,1,1,1,1,0,0,0] (codeOf Tryd.f120)) (fun k (σ:Int × Int)=>ay.l4 m ai a0 m0 b0 aF k σ.1 σ.2) (fun σ s=>match σ with | (dS,r3)=>∃h13,s=⟨.rs aL 0 ai.length 1 :: .int .i64 a0 :: .int .i64 m0 :: .int .i64 b0 :: .fn cY aK::vl (.int .i64 (i64.wrap (gA .u64 (u64.wrap (i64.wrap (a0+b0))) 1)) :: .int .i64 (i64.wrap (i64.wrap (gA .u64 (u64.wrap (i64.wrap (a0+b0))) 1)+m0)) :: .int .i64 dS :: .int .i64 r3 :: .int .i64 (i64.wrap (i64.wrap (i64.wrap (gA .u64 (u64.wrap (i64.wrap (a0+b0))) 1)+m0) - (1:Int)))::Fq []),[],h13⟩∧Has h13 ((aL,.sl ai.length 1 (af.l ai))::L)) (fun out e s=>(e = .exit 8∧∃dS r3,(dS,r3)=out∧∃Kw FK H4 h13,s=⟨.rs aL 0 ai.length 1 :: .int .i64 a0 :: .int .i64 m0 :: .int .i64 b0 :: .fn cY aK::vl (.int .i64 (i64.wrap (gA .u64 (u64.wrap (i64.wrap (a0+b0))) 1)) :: .int .i64 (i64.wrap (i64.wrap (gA .u64 (u64.wrap (i64.wrap (a0+b0))) 1)+m0)) :: .int .i64 dS::Kw::FK::uf (H4::AW [])),[],h13⟩∧Has h13 ((aL,.sl ai.length 1 (af.l ai))::L))):=by
 refine jW (fun _=>rfl) ?_
 rintro k ⟨dS,r3⟩ s out ⟨h13,rfl,wv⟩ H
 have H:ay.l4 m ai a0 m0 b0 aF (k+1) dS r3=some out:=H
 refine qq <| qq <| q0 <| qc H (fun c9 H=>?_) (fun c9 H=>?_)
 ·refine qk <| qb 9 <| qq <| q0 <| qq ?_
  obtain⟨v12,zq,H⟩:=bb H
  obtain⟨FG,Dq,H⟩:=bb H
  obtain⟨r4,Ef,H⟩:=bb H
  refine qr [.v 5 (aY (k:=.i64) (E:=af) (l:=ai) (q:=0) fV wv rfl zq),.v 6 (cp  (E:=af) (l:=ai) (q:=0) wv rfl A3 zq rfl),.v 9 (aY (k:=.i64) (E:=af) (l:=ai) (q:=0) fV wv rfl Dq),.v 10 (cp  (E:=af) (l:=ai) (q:=0) wv rfl A3 Dq rfl),.a 11 (eW h13 [(aL,.sl ai.length 1 (af.l ai))] wv _ _ _ Ef)] <| qc H (fun qT H=>?_) (fun qT H=>?_)
  ·exact q0 <| ⟨(i64.wrap (i64.wrap (gA .u64 (u64.wrap (i64.wrap (dS+r3))) 1)+(1:Int)),r3),⟨h13,by kernel_rfl,wv⟩,H⟩
  ·exact q0 <| ⟨(dS,i64.wrap (gA .u64 (u64.wrap (i64.wrap (dS+r3))) 1)),⟨h13,by kernel_rfl,wv⟩,H⟩
 ·exact qx 8 <| ⟨rfl,dS,r3,oi H,.int .i64 r3,.int .i64 (i64.wrap (i64.wrap (i64.wrap (gA .u64 (u64.wrap (i64.wrap (a0+b0))) 1)+m0) - (1:Int))),.bool (decide (dS<r3)),h13,by kernel_rfl,wv⟩
theorem qe {a7:FuncId→ca}(ha:a7 120=jl)(H5:HR cf m)(ai:List Int)(a0:Int)(m0:Int)(b0:Int)(aF:Int→Int→Option (Int))(h:AHeap)(L:Mem)(aL:Nat)(cY:FuncId)(aK:List AV)  {kk:Nat}(fO:qU cf m kk)(eB:aC (.fn cY aK) = .fn cY aK)(eW:∀h K,Has h (K++L)→∀(a0:Int) (a1:Int) r,aF a0 a1=some r→cf cY ([.int .i64 a0,.int .i64 a1]++aK) h=some (.int .i64 r,h))(o:Has h ((aL,.sl ai.length 1 (af.l ai))::L)){out:(List Int)}(H:ay.f m (kk+1) ai a0 m0 b0 aF=some out) :
  ∃r h',bf Tryd.prog a7 cf m 120 [.rs aL 0 ai.length 1,.int .i64 a0,.int .i64 m0,.int .i64 b0,.fn cY aK] h=some (r,h')∧r = .tup []∧Has h' ((aL,.sl ai.length 1 (af.l out))::L):=by
 refine aq (fn:=Tryd.f120) ha Tryd.func120 (by kernel_rfl) (by kernel_rfl) ?_
 refine aQ (Q:=fun s=>ay.fin L aL ai a0 m0 b0 aF out s) (fun _ _ ⟨h1,h2,h3⟩=>⟨h1,_,h2,rfl,h3⟩) ?_
 have H:ay.b m (ay.f m kk) ai a0 m0 b0 aF=some out:=H
 unfold ay.b at H
 show cX _ cf jl m _ ⟨.rs aL 0 ai.length 1 :: .int .i64 a0 :: .int .i64 m0 :: .int .i64 b0 :: .fn cY aK::Kh [],[],h⟩ _
 refine qq <| qq <| q0 <| qc H (fun c0 H=>?_) (fun c0 H=>?_)
 ·refine q1 <| qq <| q0 <| qq <| qb 0 ?_
  obtain⟨bR,e3,H⟩:=bb H
  refine ql (ay.cw L aL cY aK ai a0 m0 b0 aF  fO eB eW  (m0,b0) _ _ ⟨h,by kernel_rfl,o⟩ e3) ?_
  rintro e s ⟨rfl,i1,j1,rfl,g0,g1,g2,h1,rfl,o1⟩
  try dsimp only at H
  refine qq <| qq <| q0 <| qb 2 ?_
  obtain⟨b5,xP,H⟩:=bb H
  refine ql (ay.iS L aL cY aK ai a0 m0 b0 aF i1  fO eB eW  (ai,a0) _ _ ⟨h1,by kernel_rfl,o1⟩ xP) ?_
  rintro e s ⟨rfl,bX,k1,rfl,g3,g4,g5,g6,h5,rfl,o5⟩
  try dsimp only at H
  obtain rfl:=oi H
  exact qt <| ⟨.inl rfl,⟨by kernel_rfl,he o5⟩⟩
 ·refine qk <| qq <| qq <| q0 <| qc H (fun c4 H=>?_) (fun c4 H=>?_)
  ·refine q1 <| qq <| q0 <| qq <| qb 4 ?_
   obtain⟨iT,Dr,H⟩:=bb H
   refine ql (ay.qd L aL cY aK ai a0 m0 b0 aF  fO eB eW  (a0,m0) _ _ ⟨h,by kernel_rfl,o⟩ Dr) ?_
   rintro e s ⟨rfl,i3,j3,rfl,g7,g8,g9,h7,rfl,o7⟩
   try dsimp only at H
   refine qq <| qq <| q0 <| qb 6 ?_
   obtain⟨mb,GP,H⟩:=bb H
   refine ql (ay.ux L aL cY aK ai a0 m0 b0 aF i3  fO eB eW  (ai,m0) _ _ ⟨h7,by kernel_rfl,o7⟩ GP) ?_
   rintro e s ⟨rfl,gD,k3,rfl,g10,g11,g12,g13,h11,rfl,Eb⟩
   try dsimp only at H
   obtain rfl:=oi H
   exact qt <| ⟨.inl rfl,⟨by kernel_rfl,he Eb⟩⟩
  ·refine qk <| qq <| q0 <| qq <| q0 <| qq <| q0 ?_
   obtain⟨I8,MI,H⟩:=sN H
   refine qj (S:=fun (σ:Int × Int) s=>match σ with | (qa,r2)=>∃(h12:AHeap),s=⟨.rs aL 0 ai.length 1 :: .int .i64 a0 :: .int .i64 m0 :: .int .i64 b0 :: .fn cY aK::vl (.int .i64 (i64.wrap (gA .u64 (u64.wrap (i64.wrap (a0+b0))) 1)) :: .int .i64 (i64.wrap (i64.wrap (gA .u64 (u64.wrap (i64.wrap (a0+b0))) 1)+m0)) :: .int .i64 qa :: .int .i64 r2::Kb []),[],h12⟩∧Has h12 ((aL,.sl ai.length 1 (af.l ai))::L)) I8 H ?_ ?_
   ·rintro⟨qa,r2⟩ s ⟨h12,rfl,Ec⟩ H
    have H:=(MI _).symm.trans H
    try dsimp only at H
    refine q1 <| qq <| qb 8 ?_
    obtain⟨bV,FL,H⟩:=bb H
    refine ql (ay.Bn L aL cY aK ai a0 m0 b0 aF  fO eB eW  (qa,r2) _ _ ⟨h12,by kernel_rfl,Ec⟩ FL) ?_
    rintro e s ⟨rfl,dp,r5,rfl,g14,g15,g16,h14,rfl,CE⟩
    try dsimp only at H
    refine q1 ?_
    obtain⟨HY,I7,H⟩:=sN H
    refine qj (S:=fun (σ:(List Int)) s=>match σ with | iU=>∃(g17:AV) (g18:AV) (h16:AHeap),s=⟨.rs aL 0 ai.length 1 :: .int .i64 a0::g17 :: .int .i64 b0 :: .fn cY aK::vl (.int .i64 (i64.wrap (gA .u64 (u64.wrap (i64.wrap (a0+b0))) 1)) :: .any :: .int .i64 dp::mD (.int .i64 (i64.wrap (i64.wrap (i64.wrap (gA .u64 (u64.wrap (i64.wrap (a0+b0))) 1)+m0) - dp))::uf [g18,.any,.any])),[],h16⟩∧Has h16 ((aL,.sl ai.length 1 (af.l iU))::L)) HY H ?_ ?_
    ·rintro iU s ⟨g17,g18,h16,rfl,zO⟩ H
     have H:=(I7 _).symm.trans H
     try dsimp only at H
     obtain⟨HX,Ap,H⟩:=sN H
     refine qj (S:=fun (σ:(List Int)) s=>match σ with | mc=>∃(g19:AV) (g20:AV) (g21:AV) (h18:AHeap),s=⟨.rs aL 0 ai.length 1::g19 :: .any :: .int .i64 b0 :: .fn cY aK::vl (.int .i64 (i64.wrap (gA .u64 (u64.wrap (i64.wrap (a0+b0))) 1)) :: .any::g20::mD (.int .i64 (i64.wrap (i64.wrap (i64.wrap (gA .u64 (u64.wrap (i64.wrap (a0+b0))) 1)+m0) - dp))::pK [g21,.any])),[],h18⟩∧Has h18 ((aL,.sl ai.length 1 (af.l mc))::L)) HX H ?_ ?_
     ·rintro mc s ⟨g19,g20,g21,h18,rfl,FM⟩ H
      have H:=(Ap _).symm.trans H
      try dsimp only at H
      refine qq ?_
      rcases cO H with⟨wy,H⟩| ⟨wy,H⟩
      ·refine qr [.b 3 wy] <| qc H (fun zP H=>?_) (fun zP H=>?_)
       ·obtain⟨x2,GQ,H⟩:=bb H
        obtain⟨h19,GR,FN⟩:=fO _ _ _ _ _ _ GQ h18 _ _ _ (FM) cY aK eB (fun h' K' o'=>eW h' (K'++[]) (by simpa only [Rm,Ru,Rv] using o')) [.rs aL 0 ai.length 1,.int .i64 (i64.wrap (gA .u64 (u64.wrap (i64.wrap (a0+b0))) 1)),.int .i64 (i64.wrap (i64.wrap (i64.wrap (gA .u64 (u64.wrap (i64.wrap (a0+b0))) 1)+m0) - dp)),.int .i64 b0,.fn cY aK] (ao (rfl) (ao (aR (br)) (ao (aR (br)) (ao (aR (br)) (ao (eB) (cq))))))
        obtain rfl:=oi H
        exact qr [.a 5 GR] <| ⟨.inr rfl,⟨by kernel_rfl,he FN⟩⟩
       ·obtain rfl:=oi H
        exact qk <| ⟨.inr rfl,⟨by kernel_rfl,he FM⟩⟩
      ·obtain rfl:=oi H
       exact qr [.b 3 wy] <| GK <| qk <| ⟨.inr rfl,⟨by kernel_rfl,he FM⟩⟩
     clear Ap
     intro FO
     refine qq ?_
     rcases cO H with⟨mE,H⟩| ⟨mE,H⟩
     ·refine qr [.b 3 mE] <| qc H (fun vn H=>?_) (fun vn H=>?_)
      ·obtain⟨x1,H6,H⟩:=bb H
       obtain⟨h17,GS,H7⟩:=fO _ _ _ _ _ _ H6 h16 _ _ _ (zO) cY aK eB (fun h' K' o'=>eW h' (K'++[]) (by simpa only [Rm,Ru,Rv] using o')) [.rs aL 0 ai.length 1,.int .i64 a0,.int .i64 dp,.int .i64 (i64.wrap (gA .u64 (u64.wrap (i64.wrap (a0+b0))) 1)),.fn cY aK] (ao (rfl) (ao (aR (br)) (ao (aR (br)) (ao (aR (br)) (ao (eB) (cq))))))
       exact qr [.a 5 GS] <| FO x1 _ ⟨.any,.any,.any,h17,by kernel_rfl,H7⟩ H
      ·exact qk <| FO iU _ ⟨.int .i64 a0,.int .i64 dp,.bool (decide (dp<(i64.wrap (gA .u64 (u64.wrap (i64.wrap (a0+b0))) 1)))),h16,by kernel_rfl,zO⟩ H
     ·exact qr [.b 3 mE] <| GK <| qk <| FO iU _ ⟨.int .i64 a0,.int .i64 dp,.bool false,h16,by kernel_rfl,zO⟩ H
    clear I7
    intro FP
    refine qq ?_
    rcases cO H with⟨la,H⟩| ⟨la,H⟩
    ·refine qr [.b 3 la] <| qc H (fun kK H=>?_) (fun kK H=>?_)
     ·obtain⟨x0,GU,H⟩:=bb H
      obtain⟨h15,H8,FE⟩:=H5 _ _ _ _ _ _ GU h14 _ _ _ (CE) cY aK eB (fun h' K' o'=>eW h' (K'++[]) (by simpa only [Rm,Ru,Rv] using o')) [.rs aL 0 ai.length 1,.int .i64 dp,.int .i64 m0,.int .i64 (i64.wrap (i64.wrap (i64.wrap (gA .u64 (u64.wrap (i64.wrap (a0+b0))) 1)+m0) - dp)),.fn cY aK] (ao (rfl) (ao (aR (br)) (ao (aR (br)) (ao (aR (br)) (ao (eB) (cq))))))
      exact qr [.a 5 H8] <| FP x0 _ ⟨.any,.any,h15,by kernel_rfl,FE⟩ H
     ·exact qk <| FP ai _ ⟨.int .i64 m0,.bool (decide (m0<(i64.wrap (i64.wrap (i64.wrap (gA .u64 (u64.wrap (i64.wrap (a0+b0))) 1)+m0) - dp)))),h14,by kernel_rfl,CE⟩ H
    ·exact qr [.b 3 la] <| GK <| qk <| FP ai _ ⟨.int .i64 m0,.bool false,h14,by kernel_rfl,CE⟩ H
   clear MI
   intro H9
   refine q1 <| qc H (fun c8 H=>?_) (fun c8 H=>?_)
   ·exact q1 <| q0 <| H9 (i64.wrap (i64.wrap (i64.wrap (gA .u64 (u64.wrap (i64.wrap (a0+b0))) 1)+m0) - b0),i64.wrap (gA .u64 (u64.wrap (i64.wrap (a0+b0))) 1)) _ ⟨h,by kernel_rfl,o⟩ H
   ·exact q1 <| q0 <| H9 (a0,m0) _ ⟨h,by kernel_rfl,o⟩ H
end
end Go.Proofs.YtmekcfdllhphlaaDoor
namespace Go.Proofs.YtmekcfdllhphlaaDoor
open Go Go.R
open Go.IntKind (i64 u64 u8 u32)
theorem Bo {α β:Type}{B:α→Option β}{c1 c2:Bool}{X:Option α}{d0:α}{G:β→Prop}(D:α→Prop)(h1:c1=true→c2=true→∃x,X=some x∧D x)(h0:¬(c1=true∧c2=true)→D d0)
  (h:∀x,D x→∃d,B x=some d∧G d):∃d,jn B (fun j=>if c1=true then (if c2=true then (X.bind fun x0=>j x0) else j d0) else j d0)=some d∧G d:=by
 unfold jn
 dsimp only
 by_cases a1:c1=true
 ·by_cases a2:c2=true
  ·obtain⟨x,e,hx⟩:=h1 a1 a2
   rw [if_pos a1,if_pos a2,e]; exact h x hx
  ·rw [if_pos a1,if_neg a2]; exact h _ (h0 fun z=>a2 z.2)
 ·rw [if_neg a1]; exact h _ (h0 fun z=>a1 z.1)
theorem Kx {α:Type}{c1 c2:Bool}{X:Option α}{d0:α}{G:α→Prop}(h1:c1=true→c2=true→∃x,X=some x∧G x)(h0:¬(c1=true∧c2=true)→G d0) :
  ∃d,(if c1=true then (if c2=true then (X.bind fun x0=>some x0) else some d0) else some d0)=some d∧G d:=by
 by_cases a1:c1=true
 ·by_cases a2:c2=true
  ·obtain⟨x,e,hx⟩:=h1 a1 a2
   rw [if_pos a1,if_pos a2,e]; exact⟨x,rfl,hx⟩
  ·rw [if_pos a1,if_neg a2]; exact⟨_,rfl,h0 fun z=>a2 z.2⟩
 ·rw [if_neg a1]; exact⟨_,rfl,h0 fun z=>a1 z.1⟩
theorem FQ {α β:Type}{B:α→Option β}{c:Bool}{x y:α}{G:β→Prop}(h:∀z,(c=true∧z=x)∨(c=false∧z=y)→∃d,B z=some d∧G d):∃d,jn B (fun j=>if c=true then j x else j y)=some d∧G d:=by
 unfold jn
 dsimp only
 cases c with
 | true=>exact h _ (.inl ⟨rfl,rfl⟩)
 | false=>exact h _ (.inr ⟨rfl,rfl⟩)
theorem Ord.refl {c:Int→Int→Int}{l:List Int}(O:Ord c l){x:Int}(hx:x∈l):0≤c x x:=by
 by_cases h:c x x<0
 ·exact O.GO x hx x hx h
 ·omega
theorem Sg.le {c:Int→Int→Int}{l:List Int}{a b:Nat}(S:Sg c l a b)(O:Ord c l){i j:Nat}(h1:a≤i)(h2:i≤j)(h3:j<b)(h4:b≤l.length):0≤c (gt l j) (gt l i):=by
 by_cases h:i=j
 ·subst h; exact O.refl (aE (by omega))
 ·exact S i j h1 (by omega) h3
section
variable {m:Nat}{cmp:Int→Int→Option Int}{c:Int→Int→Int}
theorem wD {l:List Int}{a:Nat}(ha:a<l.length)(hs:l.length<2 ^ 40)(C:Cm cmp c l):∀(f i j:Nat),j - i<f→i≤j→j≤l.length→
  ∃x:Nat,ay.l0 m l (a:Int) cmp f (i:Int) (j:Int)=some ((x:Int),(x:Int))∧i≤x∧x≤j∧(i<x→c (gt l (x - 1)) (gt l a)<0)∧(x<j→0≤c (gt l x) (gt l a))
 | 0,i,j,hf,_,_=>absurd hf (by omega)
 | f+1,i,j,hf,h1,h2=>by
  have pS:(2:Nat) ^ 40=1099511627776:=by decide
  unfold ay.l0
  by_cases h:i<j
  ·have hh:=um (a:=i) (b:=j) (by omega)
   rw [if_pos (by simp; omega),hh,bH (by omega),bH ha,QM,QM,C.at (by omega) ha,QM]
   by_cases g:c (gt l ((i+j) / 2)) (gt l a)<0
   ·obtain⟨x,e,x1,x2,x3,x4⟩:=wD ha hs C f ((i+j) / 2+1) j (by omega) (by omega) h2
    rw [if_pos (by simpa using g),aD (by omega) (by omega),show (((i+j) / 2:Nat):Int)+1=(((i+j) / 2+1:Nat):Int) by omega,e]
    refine⟨x,rfl,by omega,x2,fun _=>?_,x4⟩
    by_cases hx:x=(i+j) / 2+1
    ·rw [hx]; simpa using g
    ·exact x3 (by omega)
   ·obtain⟨x,e,x1,x2,x3,x4⟩:=wD ha hs C f i ((i+j) / 2) (by omega) (by omega) (by omega)
    rw [if_neg (by simpa using g),e]
    refine⟨x,rfl,x1,by omega,x3,fun _=>?_⟩
    by_cases hx:x=(i+j) / 2
    ·rw [hx]; omega
    ·exact x4 (by omega)
  ·have:i=j:=by omega
   subst this
   exact⟨i,by rw [if_neg (by simp)],QS _,QS _,fun h=>absurd h (by omega),fun h=>absurd h (by omega)⟩
theorem wE {l:List Int}{q:Nat}(hq:q<l.length)(hs:l.length<2 ^ 40)(C:Cm cmp c l):∀(f i j:Nat),j - i<f→i≤j→j≤l.length→
  ∃x:Nat,ay.l2 m l (q:Int) cmp f (i:Int) (j:Int)=some ((x:Int),(x:Int))∧i≤x∧x≤j∧(i<x→0≤c (gt l q) (gt l (x - 1)))∧(x<j→c (gt l q) (gt l x)<0)
 | 0,i,j,hf,_,_=>absurd hf (by omega)
 | f+1,i,j,hf,h1,h2=>by
  have pS:(2:Nat) ^ 40=1099511627776:=by decide
  unfold ay.l2
  by_cases h:i<j
  ·have hh:=um (a:=i) (b:=j) (by omega)
   rw [if_pos (by simp; omega),hh,bH hq,bH (by omega),QM,QM,C.at hq (by omega),QM]
   by_cases g:c (gt l q) (gt l ((i+j) / 2))<0
   ·obtain⟨x,e,x1,x2,x3,x4⟩:=wE hq hs C f i ((i+j) / 2) (by omega) (by omega) (by omega)
    rw [if_neg (by simpa using g),e]
    refine⟨x,rfl,x1,by omega,x3,fun _=>?_⟩
    by_cases hx:x=(i+j) / 2
    ·rw [hx]; omega
    ·exact x4 (by omega)
   ·obtain⟨x,e,x1,x2,x3,x4⟩:=wE hq hs C f ((i+j) / 2+1) j (by omega) (by omega) h2
    rw [if_pos (by simpa using g),aD (by omega) (by omega),show (((i+j) / 2:Nat):Int)+1=(((i+j) / 2+1:Nat):Int) by omega,e]
    refine⟨x,rfl,by omega,x2,fun _=>?_,x4⟩
    by_cases hx:x=(i+j) / 2+1
    ·rw [hx]; simp; omega
    ·exact x3 (by omega)
  ·have:i=j:=by omega
   subst this
   exact⟨i,by rw [if_neg (by simp)],QS _,QS _,fun h=>absurd h (by omega),fun h=>absurd h (by omega)⟩
theorem Bp {l:List Int}{a x:Nat}(hx:x≤l.length)(Ky:a<x)(hs:l.length<2 ^ 40):∀(f k:Nat) (d:List Int),x - k<f→a≤k→k<x→Mv a x l d→
  (∀t,gt d t=if a≤t∧t<k then gt l (t+1) else if t=k then gt l a else gt l t)→
  ∃d' y,ay.l1 m (x:Int) f d (k:Int)=some (d',y)∧Mv a x l d'∧∀t,gt d' t=if a≤t∧t+1<x then gt l (t+1) else if t+1=x then gt l a else gt l t
 | 0,k,d,hf,_,_,_,_=>absurd hf (by omega)
 | f+1,k,d,hf,h1,h2,M,hg=>by
  have pS:(2:Nat) ^ 40=1099511627776:=by decide
  have hl:=M.length
  unfold ay.l1
  have e0:i64.wrap ((x:Int) - 1)=((x - 1:Nat):Int):=by rw [aD (by omega) (by omega)]; omega
  rw [e0]
  by_cases h:k<x - 1
  ·have e1:i64.wrap ((k:Int)+1)=((k+1:Nat):Int):=by rw [aD (by omega) (by omega)]; omega
   rw [if_pos (by simp; omega),e1,bH (by omega),bH (by omega),QM,QM,QM,QT,QT,bH (by simp; omega),QM]
   refine Bp hx Ky hs f (k+1) (Bd d k (k+1)) (by omega) (by omega) (by omega) (M.trans (wB (by omega) (by omega) (by omega) (by omega) (by omega))) fun t=>?_
   rw [jk (by omega) (by omega),hg k,hg (k+1),hg t]
   by_cases t1:t=k+1
   ·subst t1; rw [if_pos rfl,if_neg (by omega),if_pos rfl,if_neg (by omega),if_pos rfl]
   ·rw [if_neg t1]
    by_cases t2:t=k
    ·subst t2; rw [if_pos rfl,if_neg (by omega),if_neg (by omega),if_pos (by omega)]
    ·rw [if_neg t2,if_neg t2,if_neg t1]
     by_cases t3:a≤t∧t<k
     ·rw [if_pos t3,if_pos (by omega)]
     ·rw [if_neg t3,if_neg (by omega)]
  ·refine⟨d,k,by rw [if_neg (by simp; omega)],M,fun t=>?_⟩
   rw [hg]
   by_cases t3:a≤t∧t<k
   ·rw [if_pos t3,if_pos (by omega)]
   ·rw [if_neg t3,if_neg (show ¬(a≤t∧t+1<x) by omega)]
    by_cases t4:t=k
    ·rw [if_pos t4,if_pos (by omega)]
    ·rw [if_neg t4,if_neg (by omega)]
theorem Bq {l:List Int}{q x:Nat}(hx:q<l.length)(Ky:x≤q)(hs:l.length<2 ^ 40):∀(f k:Nat) (d:List Int),k - x<f→x≤k→k≤q→Mv x (q+1) l d→
  (∀t,gt d t=if k<t∧t≤q then gt l (t - 1) else if t=k then gt l q else gt l t)→
  ∃d' y,ay.l3 m (x:Int) f d (k:Int)=some (d',y)∧Mv x (q+1) l d'∧∀t,gt d' t=if x<t∧t≤q then gt l (t - 1) else if t=x then gt l q else gt l t
 | 0,k,d,hf,_,_,_,_=>absurd hf (by omega)
 | f+1,k,d,hf,h1,h2,M,hg=>by
  have pS:(2:Nat) ^ 40=1099511627776:=by decide
  have hl:=M.length
  unfold ay.l3
  by_cases h:x<k
  ·have e1:i64.wrap ((k:Int) - 1)=((k - 1:Nat):Int):=by rw [aD (by omega) (by omega)]; omega
   rw [if_pos (by simp; omega),e1,bH (by omega),bH (by omega),QM,QM,QM,QT,QT,bH (by simp; omega),QM]
   refine Bq hx Ky hs f (k - 1) (Bd d k (k - 1)) (by omega) (by omega) (by omega) (M.trans (wB (by omega) (by omega) (by omega) (by omega) (by omega))) fun t=>?_
   rw [jk (by omega) (by omega),hg k,hg (k - 1),hg t]
   by_cases t1:t=k - 1
   ·subst t1; rw [if_pos rfl,if_neg (by omega),if_pos rfl,if_neg (by omega),if_pos rfl]
   ·rw [if_neg t1]
    by_cases t2:t=k
    ·subst t2; rw [if_pos rfl,if_neg (by omega),if_neg (by omega),if_pos (by omega)]
    ·rw [if_neg t2,if_neg t2,if_neg t1]
     by_cases t3:k<t∧t≤q
     ·rw [if_pos t3,if_pos (by omega)]
     ·rw [if_neg t3,if_neg (by omega)]
  ·have:k=x:=by omega
   subst this
   exact⟨d,k,by rw [if_neg (by simp)],M,hg⟩
theorem wF {l:List Int}{a b q:Nat}(JQ:a+b<2 ^ 42)(hs:l.length<2 ^ 40)(C:Cm cmp c l):∀(f s r:Nat),r - s<f→s≤r→r≤l.length→r≤(a+b) / 2+q→(a+b) / 2+q≤l.length+s→
  ∃x:Nat,ay.l4 m l (a:Int) (q:Int) (b:Int) cmp f (s:Int) (r:Int)=some ((x:Int),(x:Int))∧s≤x∧x≤r∧(s<x→0≤c (gt l ((a+b) / 2+q - x)) (gt l (x - 1)))∧(x<r→c (gt l ((a+b) / 2+q - x - 1)) (gt l x)<0)
 | 0,i,j,hf,_,_,_,_=>absurd hf (by omega)
 | f+1,s,r,hf,h1,h2,h3,h4=>by
  have pS:(2:Nat) ^ 40=1099511627776:=by decide
  have Kz:(2:Nat) ^ 42=4398046511104:=by decide
  unfold ay.l4
  by_cases h:s<r
  ·have hh:=um (a:=s) (b:=r) (by omega)
   have JQ:=um (a:=a) (b:=b) (by omega)
   have e1:i64.wrap (i64.wrap (i64.wrap ((((a+b) / 2:Nat):Int)+(q:Int)) - 1) - (((s+r) / 2:Nat):Int))=(((a+b) / 2+q - (s+r) / 2 - 1:Nat):Int):=by
    rw [aD (x:=(((a+b) / 2:Nat):Int)+(q:Int)) (by omega) (by omega),aD (x:=(((a+b) / 2:Nat):Int)+(q:Int) - 1) (by omega) (by omega),aD (by omega) (by omega)]
    omega
   rw [if_pos (by simp; omega),hh,JQ,e1,bH (by omega),bH (by omega),QM,QM,C.at (by omega) (by omega),QM]
   by_cases g:c (gt l ((a+b) / 2+q - (s+r) / 2 - 1)) (gt l ((s+r) / 2))<0
   ·obtain⟨x,e,x1,x2,x3,x4⟩:=wF (a:=a) (b:=b) (q:=q) (by omega) hs C f s ((s+r) / 2) (by omega) (by omega) (by omega) (by omega) (by omega)
    rw [if_neg (by simpa using g),e]
    refine⟨x,rfl,x1,by omega,x3,fun _=>?_⟩
    by_cases hx:x=(s+r) / 2
    ·rw [hx]; exact g
    ·exact x4 (by omega)
   ·obtain⟨x,e,x1,x2,x3,x4⟩:=wF (a:=a) (b:=b) (q:=q) (by omega) hs C f ((s+r) / 2+1) r (by omega) (by omega) h2 h3 (by omega)
    rw [if_pos (by simpa using g),aD (by omega) (by omega),show (((s+r) / 2:Nat):Int)+1=(((s+r) / 2+1:Nat):Int) by omega,e]
    refine⟨x,rfl,by omega,x2,fun _=>?_,x4⟩
    by_cases hx:x=(s+r) / 2+1
    ·rw [hx,show (a+b) / 2+q - ((s+r) / 2+1)=(a+b) / 2+q - (s+r) / 2 - 1 by omega,Nat.add_sub_cancel]; omega
    ·exact x3 (by omega)
  ·have:s=r:=by omega
   subst this
   exact⟨s,by rw [if_neg (by simp)],QS _,QS _,fun h=>absurd h (by omega),fun h=>absurd h (by omega)⟩
end
end Go.Proofs.YtmekcfdllhphlaaDoor
namespace Go.Proofs.YtmekcfdllhphlaaDoor
open Go Go.R
open Go.IntKind (i64 u64 u8 u32)
section
variable {m:Nat}{cmp:Int→Int→Option Int}{c:Int→Int→Int}
theorem qf {l d:List Int}{a q b M E x:Nat}(h1:a≤x)(h2:x≤M)(h3:x≤q)(h4:q≤E)(h5:E≤b)(h6:E+x=M+q)(hb:b≤l.length)
  (R:GM l d x (q - x) (E - q)) (O:Ord c l) (F1:a<x→E<b→0≤c (gt l E) (gt l (x - 1))) (F2:x<q→q<E→c (gt l (E - 1)) (gt l x)<0)
  (S1:Sg c l a q) (S2:Sg c l q b) :
  Sg c d a x∧Sg c d x M∧Sg c d M E∧Sg c d E b∧(∀i j,a≤i→i<M→M≤j→j<b→0≤c (gt d j) (gt d i)):=by
 obtain⟨R1,R2,R3,R4⟩:=R
 have g1:∀k,k<x→gt d k=gt l k:=fun k hk=>R4 k (.inl hk)
 have g2:∀k,x≤k→k<M→gt d k=gt l (q+(k - x)):=fun k hk mR=>by
  have:=R2 (k - x) (by omega)
  rw [show x+(k - x)=k by omega,show x+(q - x)+(k - x)=q+(k - x) by omega] at this
  exact this
 have g3:∀k,M≤k→k<E→gt d k=gt l (x+(k - M)):=fun k hk mR=>by
  have:=R3 (k - M) (by omega)
  rw [show x+(E - q)+(k - M)=k by omega] at this
  exact this
 have g4:∀k,E≤k→gt d k=gt l k:=fun k hk=>R4 k (.inr (by omega))
 refine⟨fun i j k1 k2 k3=>?_,fun i j k1 k2 k3=>?_,fun i j k1 k2 k3=>?_,fun i j k1 k2 k3=>?_,fun i j k1 k2 k3 k4=>?_⟩
 ·rw [g1 i (by omega),g1 j (by omega)]; exact S1 _ _ k1 k2 (by omega)
 ·rw [g2 i (by omega) (by omega),g2 j (by omega) (by omega)]; exact S2 _ _ (by omega) (by omega) (by omega)
 ·rw [g3 i (by omega) (by omega),g3 j (by omega) (by omega)]; exact S1 _ _ (by omega) (by omega) (by omega)
 ·rw [g4 i (by omega),g4 j (by omega)]; exact S2 _ _ (by omega) (by omega) (by omega)
 ·by_cases hi:i<x
  ·rw [g1 i hi]
   by_cases hj:j<E
   ·rw [g3 j k3 hj]; exact S1 _ _ k1 (by omega) (by omega)
   ·rw [g4 j (by omega)]
    have f1:=F1 (by omega) (by omega)
    have f2:=S1.le O k1 (show i≤x - 1 by omega) (by omega) (by omega)
    have f3:=S2.le O (show q≤E from h4) (show E≤j by omega) k4 hb
    exact O.tr _ (aE (by omega)) _ (aE (show E<l.length by omega)) _ (aE (by omega)) (O.tr _ (aE (by omega)) _ (aE (show x - 1<l.length by omega)) _ (aE (by omega)) f2 f1) f3
  ·rw [g2 i (by omega) k2]
   by_cases hj:j<E
   ·rw [g3 j k3 hj]
    have f1:=O.GO _ (aE (show E - 1<l.length by omega)) _ (aE (show x<l.length by omega)) (F2 (by omega) (by omega))
    have f2:=S2.le O (show q≤q+(i - x) by omega) (show q+(i - x)≤E - 1 by omega) (by omega) hb
    have f3:=S1.le O h1 (show x≤x+(j - M) by omega) (by omega) (by omega)
    exact O.tr _ (aE (by omega)) _ (aE (show x<l.length by omega)) _ (aE (by omega)) (O.tr _ (aE (by omega)) _ (aE (show E - 1<l.length by omega)) _ (aE (by omega)) f2 f1) f3
   ·rw [g4 j (by omega)]; exact S2 _ _ (by omega) (by omega) k4
theorem Br {l:List Int}{x i j:Nat}(h:i=0∨j=0):GM l l x i j:=
 ⟨List.Perm.refl _,fun k hk=>by rw [show i=0 by omega,Nat.add_zero],fun k hk=>by rw [show j=0 by omega,Nat.add_zero],fun _ _=>rfl⟩
theorem FR {l d:List Int}{x i j a b:Nat}(R:GM l d x i j)(h1:a≤x)(h2:x+i+j≤b):Mv a b l d:=by
 obtain⟨R1,R2,R3,R4⟩:=R
 refine⟨R1,fun k hk=>R4 k (by omega),fun k k1 k2=>?_⟩
 by_cases g1:k<x∨x+i+j≤k
 ·exact⟨k,k1,k2,R4 k g1⟩
 ·by_cases g2:k<x+j
  ·have:=R2 (k - x) (by omega)
   rw [show x+(k - x)=k by omega] at this
   exact⟨_,by omega,by omega,this⟩
  ·have:=R3 (k - x - j) (by omega)
   rw [show x+j+(k - x - j)=k by omega] at this
   exact⟨_,by omega,by omega,this⟩
theorem me (hm:2 ^ 41≤m):∀(f:Nat) (l:List Int) (a q b:Nat),b - a<f→a<q→q<b→b≤l.length→l.length<2 ^ 40→Cm cmp c l→
  ∃d,ay.f m f l (a:Int) (q:Int) (b:Int) cmp=some d∧Mv a b l d∧(Ord c l→Sg c l a q→Sg c l q b→Sg c d a b)
 | 0,l,a,q,b,hf,_,_,_,_,_=>absurd hf (by omega)
 | f+1,l,a,q,b,hf,h1,h2,h3,hs,C=>by
  have pS:(2:Nat) ^ 40=1099511627776:=by decide
  have tj:(2:Nat) ^ 41=2199023255552:=by decide
  have Kz:(2:Nat) ^ 42=4398046511104:=by decide
  unfold ay.f
  unfold ay.b
  have e1:i64.wrap ((q:Int) - (a:Int))=((q - a:Nat):Int):=by rw [aD (by omega) (by omega)]; omega
  have e2:i64.wrap ((b:Int) - (q:Int))=((b - q:Nat):Int):=by rw [aD (by omega) (by omega)]; omega
  have hM:=um (a:=a) (b:=b) (by omega)
  rw [e1,e2,hM]
  by_cases Qy:q - a=1
  ·obtain⟨x,k1,k2,k3,k4,k5⟩:=wD (m:=m) (a:=a) (by omega) hs C m q b (by omega) (by omega) h3
   obtain⟨d,y,g1,g2,g3⟩:=Bp (m:=m) (l:=l) (a:=a) (x:=x) (by omega) (by omega) hs m a l (by omega) (QS _) (by omega) Mv.refl (fun t=>by rw [if_neg (by omega)]; split<;>simp_all)
   rw [if_pos (by simp; omega),k1,QM]
   dsimp only
   rw [g1]
   refine⟨d,rfl,g2.wide (QS _) k3,fun O S1 S2 i j r1 r2 r3=>?_⟩
   have A1:∀t,a≤t→t+1<x→gt d t=gt l (t+1):=fun t w1 w2=>by rw [g3 t,if_pos ⟨w1,w2⟩]
   have A2:∀t,t+1=x→gt d t=gt l a:=fun t w1=>by rw [g3 t,if_neg (by omega),if_pos w1]
   have A3:∀t,x≤t→gt d t=gt l t:=fun t w1=>by rw [g3 t,if_neg (by omega),if_neg (by omega)]
   by_cases i1:i+1<x
   ·rw [A1 i r1 i1]
    by_cases j1:j+1<x
    ·rw [A1 j (by omega) j1]; exact S2 _ _ (by omega) (by omega) (by omega)
    ·have f1:=O.GO _ (aE (show x - 1<l.length by omega)) _ (aE (show a<l.length by omega)) (k4 (by omega))
     have f2:=S2.le O (show q≤i+1 by omega) (show i+1≤x - 1 by omega) (by omega) h3
     by_cases j2:j+1=x
     ·rw [A2 j j2]
      exact O.tr _ (aE (by omega)) _ (aE (show x - 1<l.length by omega)) _ (aE (by omega)) f2 f1
     ·rw [A3 j (by omega)]; exact S2 _ _ (by omega) (by omega) (by omega)
   ·rw [A3 j (by omega)]
    by_cases i2:i+1=x
    ·rw [A2 i i2]
     have f1:=k5 (by omega)
     have f2:=S2.le O (show q≤x by omega) (show x≤j by omega) r3 h3
     exact O.tr _ (aE (by omega)) _ (aE (show x<l.length by omega)) _ (aE (by omega)) f1 f2
    ·rw [A3 i (by omega)]; exact S2 _ _ (by omega) r2 r3
  rw [if_neg (by simp; omega)]
  by_cases hb1:b - q=1
  ·obtain⟨x,k1,k2,k3,k4,k5⟩:=wE (m:=m) (q:=q) (by omega) hs C m a q (by omega) (by omega) (by omega)
   obtain⟨d,y,g1,g2,g3⟩:=Bq (m:=m) (l:=l) (q:=q) (x:=x) (by omega) (by omega) hs m q l (by omega) (by omega) (QS _) Mv.refl (fun t=>by rw [if_neg (by omega)]; split<;>simp_all)
   rw [if_pos (by simp; omega),k1,QM]
   dsimp only
   rw [g1]
   refine⟨d,rfl,g2.wide k2 (by omega),fun O S1 S2 i j r1 r2 r3=>?_⟩
   have A1:∀t,x<t→t≤q→gt d t=gt l (t - 1):=fun t w1 w2=>by rw [g3 t,if_pos ⟨w1,w2⟩]
   have A2:gt d x=gt l q:=by rw [g3 x,if_neg (by omega),if_pos rfl]
   have A3:∀t,t<x→gt d t=gt l t:=fun t w1=>by rw [g3 t,if_neg (by omega),if_neg (by omega)]
   by_cases i1:x<i
   ·rw [A1 i i1 (by omega),A1 j (by omega) (by omega)]
    exact S1 _ _ (by omega) (by omega) (by omega)
   ·by_cases i2:i=x
    ·subst i2
     rw [A2,A1 j (by omega) (by omega)]
     have f1:=O.GO _ (aE (show q<l.length by omega)) _ (aE (show i<l.length by omega)) (k5 (by omega))
     have f2:=S1.le O r1 (show i≤j - 1 by omega) (by omega) (by omega)
     exact O.tr _ (aE (by omega)) _ (aE (show i<l.length by omega)) _ (aE (by omega)) f1 f2
    ·rw [A3 i (by omega)]
     by_cases j1:x<j
     ·rw [A1 j j1 (by omega)]
      exact S1.le O r1 (by omega) (by omega) (by omega)
     ·have f1:=k4 (by omega)
      have f2:=S1.le O r1 (show i≤x - 1 by omega) (by omega) (by omega)
      by_cases j2:j=x
      ·subst j2
       rw [A2]
       exact O.tr _ (aE (by omega)) _ (aE (show j - 1<l.length by omega)) _ (aE (by omega)) f2 f1
      ·rw [A3 j (by omega)]; exact S1 _ _ r1 r2 (by omega)
  rw [if_neg (by simp; omega)]
  refine FQ ?_
  intro z hz
  have FT:∃s r:Nat,z=((s:Int),(r:Int))∧((q > (a+b) / 2∧s=(a+b) / 2+q - b∧r=(a+b) / 2)∨(q≤(a+b) / 2∧s=a∧r=q)):=by
   rcases hz with⟨hc,rfl⟩| ⟨hc,rfl⟩
   ·refine⟨(a+b) / 2+q - b,(a+b) / 2,?_,.inl ⟨by simp only [decide_eq_true_eq] at hc; omega,rfl,rfl⟩⟩
    simp only [QV,and_true]
    simp only [decide_eq_true_eq] at hc
    rw [aD (x:=(((a+b) / 2:Nat):Int)+(q:Int)) (by omega) (by omega),aD (by omega) (by omega)]
    omega
   ·refine⟨a,q,rfl,.inr ⟨?_,rfl,rfl⟩⟩
    simp only [decide_eq_false_iff_not] at hc
    omega
  obtain⟨s,r,rfl,FT⟩:=FT
  clear hz
  dsimp only
  obtain⟨x,k1,k2,k3,k4,k5⟩:=wF (m:=m) (a:=a) (b:=b) (q:=q) (by omega) hs C m s r (by omega) (by omega) (by omega) (by omega) (by omega)
  rw [k1,QM]
  dsimp only
  generalize Qz:(a+b) / 2=M at *
  obtain⟨E,hE⟩:∃E,E=M+q - x:=⟨_,rfl⟩
  have eE:i64.wrap (i64.wrap ((M:Int)+(q:Int)) - (x:Int))=(E:Int):=by
   rw [aD (x:=(M:Int)+(q:Int)) (by omega) (by omega),aD (by omega) (by omega)]
   omega
  rw [eE]
  rw [←hE] at k4 k5
  have c1:a≤x:=by omega
  have c2:x≤M:=by omega
  have c3:x≤q:=by omega
  have c4:q≤E:=by omega
  have c5:E≤b:=by omega
  have c6:E+x=M+q:=by omega
  have c7:M≤E:=by omega
  have F1:a<x→E<b→0≤c (gt l E) (gt l (x - 1)):=fun _ _=>k4 (by omega)
  have F2:x<q→q<E→c (gt l (E - 1)) (gt l x)<0:=fun _ _=>k5 (by omega)
  refine Bo (fun d=>GM l d x (q - x) (E - q)) (fun u1 u2=>?_) (fun u=>?_) ?_
  ·simp only [decide_eq_true_eq] at u1 u2
   exact Bf hm (by omega) (by omega) (by omega) hs
  ·simp only [decide_eq_true_eq] at u
   exact Br (by omega)
  intro d5 R
  try dsimp only
  have M5:Mv a b l d5:=FR R c1 (by omega)
  have l5:=M5.length
  refine Bo (fun d=>Mv a M d5 d∧(Ord c l→Sg c l a q→Sg c l q b→Sg c d a M)) (fun u1 u2=>?_) (fun u=>?_) ?_
  ·simp only [decide_eq_true_eq] at u1 u2
   obtain⟨d,g1,g2,g3⟩:=me hm f d5 a x M (by omega) (by omega) (by omega) (by omega) (by omega) (C.perm M5.perm)
   refine⟨d,g1,g2,fun O S1 S2=>?_⟩
   obtain⟨v1,v2,v3,v4,v5⟩:=qf c1 c2 c3 c4 c5 c6 h3 R O F1 F2 S1 S2
   exact g3 (O.perm M5.perm) v1 v2
  ·simp only [decide_eq_true_eq] at u
   refine⟨Mv.refl,fun O S1 S2=>?_⟩
   obtain⟨v1,v2,v3,v4,v5⟩:=qf c1 c2 c3 c4 c5 c6 h3 R O F1 F2 S1 S2
   by_cases ua:a=x
   ·rw [ua]; exact v2
   ·rw [show M=x by omega]; exact v1
  rintro d6 ⟨M6,S6⟩
  try dsimp only
  have l6:=M6.length
  have KA:=M5.trans (M6.wide (QS _) (by omega))
  have fin:∀d,Mv M b d6 d→(Ord c l→Sg c l a q→Sg c l q b→Sg c d M b)→Mv a b l d∧(Ord c l→Sg c l a q→Sg c l q b→Sg c d a b):=by
   intro d M7 S7
   refine⟨KA.trans (M7.wide (by omega) (QS _)),fun O S1 S2 i j r1 r2 r3=>?_⟩
   obtain⟨v1,v2,v3,v4,v5⟩:=qf c1 c2 c3 c4 c5 c6 h3 R O F1 F2 S1 S2
   by_cases hj:j<M
   ·rw [M7.out i (by omega),M7.out j (by omega)]
    exact S6 O S1 S2 _ _ r1 r2 hj
   ·by_cases hi:M≤i
    ·exact S7 O S1 S2 _ _ hi r2 r3
    ·obtain⟨j',y1,y2,y3⟩:=M7.im j (by omega) r3
     obtain⟨i',w1,w2,w3⟩:=M6.im i r1 (by omega)
     rw [M7.out i (by omega),y3,M6.out j' (by omega),w3]
     exact v5 _ _ w1 w2 y1 y2
  refine Kx (fun u1 u2=>?_) (fun u=>?_)
  ·simp only [decide_eq_true_eq] at u1 u2
   obtain⟨d,g1,g2,g3⟩:=me hm f d6 M E b (by omega) (by omega) (by omega) (by omega) (by omega) (C.perm KA.perm)
   refine⟨d,g1,fin d g2 fun O S1 S2=>?_⟩
   obtain⟨v1,v2,v3,v4,v5⟩:=qf c1 c2 c3 c4 c5 c6 h3 R O F1 F2 S1 S2
   refine g3 (O.perm KA.perm) (fun i j y1 y2 y3=>?_) (fun i j y1 y2 y3=>?_)
   ·rw [M6.out i (by omega),M6.out j (by omega)]; exact v3 _ _ y1 y2 y3
   ·rw [M6.out i (by omega),M6.out j (by omega)]; exact v4 _ _ y1 y2 y3
  ·simp only [decide_eq_true_eq] at u
   refine fin d6 Mv.refl fun O S1 S2 i j y1 y2 y3=>?_
   obtain⟨v1,v2,v3,v4,v5⟩:=qf c1 c2 c3 c4 c5 c6 h3 R O F1 F2 S1 S2
   rw [M6.out i (by omega),M6.out j (by omega)]
   by_cases ue:M=E
   ·exact v4 _ _ (by omega) y2 y3
   ·exact v3 _ _ y1 y2 (by omega)
end
end Go.Proofs.YtmekcfdllhphlaaDoor
namespace Go.Proofs.YtmekcfdllhphlaaDoor
open Go Go.R
open Go.IntKind (i64 u64 u8 u32)
def lg:ca:=ff [0,1,2,6,7,8,9,13,30,35,54] [] [2032,1984,1856,2000,1984,1984,2032,1776,1984,1472,2000,1984,1984,1952,928,2032,2032] [] []
def bh.l0 (m:Nat)(n0:Int)(aF:Int→Int→Option (Int)):Nat→(List Int)→Int→Int→Option ((List Int) × Int × Int)
 | 0,_,_,_=>none
 | k+1,aS,a0,b0=>if (decide (b0≤n0))=true then ((aG.f m aS a0 b0 aF).bind fun x0=>bh.l0 m n0 aF k x0 b0 (i64.wrap (b0+(20:Int)))) else (some ((aS,a0,b0)))
def bh.l2 (m:Nat)(n0:Int)(aF:Int→Int→Option (Int))(aO:Int):Nat→(List Int)→Int→Int→Option ((List Int) × Int × Int)
 | 0,_,_,_=>none
 | k+1,gD,a2,b2=>if (decide (b2≤n0))=true then ((ay.f m m gD a2 (i64.wrap (a2+aO)) b2 aF).bind fun x2=>bh.l2 m n0 aF aO k x2 b2 (i64.wrap (b2+i64.wrap ((2:Int)*aO)))) else (some ((gD,a2,b2)))
def bh.l1 (m:Nat)(n0:Int)(aF:Int→Int→Option (Int)):Nat→(List Int)→Int→Option ((List Int) × Int)
 | 0,_,_=>none
 | k+1,cj,aO=>if (decide (aO<n0))=true then ((bh.l2 m n0 aF aO m cj (0:Int) (i64.wrap ((2:Int)*aO))).bind fun b5=>match b5 with | (iU,a3,b3)=>if (decide ((i64.wrap (a3+aO))<n0))=true then ((ay.f m m iU a3 (i64.wrap (a3+aO)) n0 aF).bind fun x3=>bh.l1 m n0 aF k x3 (i64.wrap (aO*(2:Int)))) else (bh.l1 m n0 aF k iU (i64.wrap (aO*(2:Int))))) else (some ((cj,aO)))
def bh.f (m:Nat)(ai:List Int)(n0:Int)(aF:Int→Int→Option (Int)):Option ((List Int)):=(bh.l0 m n0 aF m ai (0:Int) (20:Int)).bind fun bR=>match bR with | (bX,a1,b1)=>(aG.f m bX a1 n0 aF).bind fun x1=>(bh.l1 m n0 aF m x1 (20:Int)).bind fun iT=>match iT with | (mc,wG)=>some mc
def bh.fin (L:Mem)(aL:Nat)(ai:List Int)(n0:Int)(aF:Int→Int→Option (Int))(r:(List Int))(s:St):Prop:=aP Tryd.prog (s.open lg) Tryd.f110.results.toList=some (.tup [])∧Has s.h ((aL,.sl ai.length 1 (af.l r))::L)
def Ia (cf:CallF)(m:Nat):Prop:=∀(ai:List Int) (n0:Int) (aF:Int→Int→Option (Int)) (r:(List Int)),bh.f m ai n0 aF=some r→∀h L (bI:Nat) (aL:Nat),Has h ((aL,.sl bI 1 (af.l ai))::L)→∀(fA:FuncId) (bm:List AV),aC (.fn fA bm) = .fn fA bm→(∀h K,Has h (K++L)→∀(a0:Int) (a1:Int) r,aF a0 a1=some r→cf fA ([.int .i64 a0,.int .i64 a1]++bm) h=some (.int .i64 r,h))→∀xs,xs.map aC=[.rs aL 0 bI 1,.int .i64 n0,.fn fA bm]→∃h',cf 110 xs h=some (.tup [],h')∧Has h' ((aL,.sl bI 1 (af.l r))::L)
section
variable {cf:CallF}{m:Nat}
theorem bh.cw (L:Mem)(aL:Nat)(fA:FuncId)(bm:List AV)(ai:List Int)(n0:Int)(aF:Int→Int→Option (Int))  (iC:aC (.fn fA bm) = .fn fA bm)(jA:∀h K,Has h (K++L)→∀(a0:Int) (a1:Int) r,aF a0 a1=some r→cf fA ([.int .i64 a0,.int .i64 a1]++bm) h=some (.int .i64 r,h))(xQ:FF cf m):cD Tryd.prog cf lg m (sub [1,1,0,0,0] (codeOf Tryd.f110)) (fun k (σ:(List Int) × Int × Int)=>bh.l0 m n0 aF k σ.1 σ.2.1 σ.2.2) (fun σ s=>match σ with | (aS,a0,b0)=>∃h0,s=⟨.rs aL 0 ai.length 1 :: .int .i64 n0 :: .fn fA bm :: .int .i64 (20:Int) :: .int .i64 a0 :: .int .i64 b0::AX [],[],h0⟩∧Has h0 ((aL,.sl ai.length 1 (af.l aS))::L)) (fun out e s=>(e = .exit 0∧∃aS a0 b0,(aS,a0,b0)=out∧∃zi wq h0,s=⟨.rs aL 0 ai.length 1 :: .int .i64 n0 :: .fn fA bm :: .int .i64 (20:Int) :: .int .i64 a0::zi :: .any::wq::mD [],[],h0⟩∧Has h0 ((aL,.sl ai.length 1 (af.l aS))::L))):=by
 refine jW (fun _=>rfl) ?_
 rintro k ⟨aS,a0,b0⟩ s out ⟨h0,rfl,o0⟩ H
 have H:bh.l0 m n0 aF (k+1) aS a0 b0=some out:=H
 refine qq <| qq <| q0 <| qc H (fun c0 H=>?_) (fun c0 H=>?_)
 ·refine qk <| qb 1 <| qq ?_
  obtain⟨x0,e0,H⟩:=bb H
  obtain⟨h1,e1,o1⟩:=xQ _ _ _ _ _ e0 h0 _ _ _ (o0) fA bm iC (fun h' K' o'=>jA h' (K'++[]) (by simpa only [Rm,Ru,Rv] using o')) [.rs aL 0 ai.length 1,.int .i64 a0,.int .i64 b0,.fn fA bm] (ao (rfl) (ao (aR (br)) (ao (aR (br)) (ao (iC) (cq)))))
  exact qr [.a 4 e1] <| qq <| q0 <| q0 <| ⟨(x0,b0,i64.wrap (b0+(20:Int))),⟨h1,by kernel_rfl,o1⟩,H⟩
 ·exact qx 0 <| ⟨rfl,aS,a0,b0,oi H,.int .i64 b0,.bool (decide (b0≤n0)),h0,by kernel_rfl,o0⟩
theorem bh.qd (L:Mem)(aL:Nat)(fA:FuncId)(bm:List AV)(ai:List Int)(n0:Int)(aF:Int→Int→Option (Int))(aO:Int)  (iC:aC (.fn fA bm) = .fn fA bm)(jA:∀h K,Has h (K++L)→∀(a0:Int) (a1:Int) r,aF a0 a1=some r→cf fA ([.int .i64 a0,.int .i64 a1]++bm) h=some (.int .i64 r,h))(fO:qU cf m m):cD Tryd.prog cf lg m (sub [1,1,1,1,0,0,1,0,1,0,0,0] (codeOf Tryd.f110)) (fun k (σ:(List Int) × Int × Int)=>bh.l2 m n0 aF aO k σ.1 σ.2.1 σ.2.2) (fun σ s=>match σ with | (gD,a2,b2)=>∃h5,s=⟨.rs aL 0 ai.length 1 :: .int .i64 n0 :: .fn fA bm :: .int .i64 aO :: .int .i64 a2 :: .int .i64 b2::AX [],[],h5⟩∧Has h5 ((aL,.sl ai.length 1 (af.l gD))::L)) (fun out e s=>(e = .exit 4∧∃gD a2 b2,(gD,a2,b2)=out∧∃zi KB h5,s=⟨.rs aL 0 ai.length 1 :: .int .i64 n0 :: .fn fA bm :: .int .i64 aO :: .int .i64 a2::zi::mD [KB,.any],[],h5⟩∧Has h5 ((aL,.sl ai.length 1 (af.l gD))::L))):=by
 refine jW (fun _=>rfl) ?_
 rintro k ⟨gD,a2,b2⟩ s out ⟨h5,rfl,o5⟩ H
 have H:bh.l2 m n0 aF aO (k+1) gD a2 b2=some out:=H
 refine qq <| qq <| q0 <| qc H (fun c2 H=>?_) (fun c2 H=>?_)
 ·refine qk <| qb 5 <| qq ?_
  obtain⟨x2,e5,H⟩:=bb H
  obtain⟨h6,e6,o6⟩:=fO _ _ _ _ _ _ e5 h5 _ _ _ (o5) fA bm iC (fun h' K' o'=>jA h' (K'++[]) (by simpa only [Rm,Ru,Rv] using o')) [.rs aL 0 ai.length 1,.int .i64 a2,.int .i64 (i64.wrap (a2+aO)),.int .i64 b2,.fn fA bm] (ao (rfl) (ao (aR (br)) (ao (aR (br)) (ao (aR (br)) (ao (iC) (cq))))))
  exact qr [.a 7 e6] <| qq <| q0 <| q0 <| ⟨(x2,b2,i64.wrap (b2+i64.wrap ((2:Int)*aO))),⟨h6,by kernel_rfl,o6⟩,H⟩
 ·exact qx 4 <| ⟨rfl,gD,a2,b2,oi H,.int .i64 b2,.bool (decide (b2≤n0)),h5,by kernel_rfl,o5⟩
theorem bh.iS (L:Mem)(aL:Nat)(fA:FuncId)(bm:List AV)(ai:List Int)(n0:Int)(aF:Int→Int→Option (Int))  (iC:aC (.fn fA bm) = .fn fA bm)(jA:∀h K,Has h (K++L)→∀(a0:Int) (a1:Int) r,aF a0 a1=some r→cf fA ([.int .i64 a0,.int .i64 a1]++bm) h=some (.int .i64 r,h))(fO:qU cf m m):cD Tryd.prog cf lg m (sub [1,1,1,1,0,0] (codeOf Tryd.f110)) (fun k (σ:(List Int) × Int)=>bh.l1 m n0 aF k σ.1 σ.2) (fun σ s=>match σ with | (cj,aO)=>∃h4,s=⟨.rs aL 0 ai.length 1 :: .int .i64 n0 :: .fn fA bm :: .int .i64 aO::Fp [],[],h4⟩∧Has h4 ((aL,.sl ai.length 1 (af.l cj))::L)) (fun out e s=>(e = .exit 2∧∃cj aO,(cj,aO)=out∧∃qR qS Bb FU FA h4,s=⟨qR::qS::Bb::FU::AW [FA,.any,.any],[],h4⟩∧Has h4 ((aL,.sl ai.length 1 (af.l cj))::L))):=by
 refine jW (fun _=>rfl) ?_
 rintro k ⟨cj,aO⟩ s out ⟨h4,rfl,o4⟩ H
 have H:bh.l1 m n0 aF (k+1) cj aO=some out:=H
 refine qq <| qq <| q0 <| qc H (fun c1 H=>?_) (fun c1 H=>?_)
 ·refine qk <| qb 3 <| qq <| q0 <| qq <| qb 4 ?_
  obtain⟨b5,e7,H⟩:=bb H
  refine ql (bh.qd L aL fA bm ai n0 aF aO  iC jA fO (cj,(0:Int),i64.wrap ((2:Int)*aO)) _ _ ⟨h4,by kernel_rfl,o4⟩ e7) ?_
  rintro e s ⟨rfl,iU,a3,b3,rfl,g2,g3,h7,rfl,o7⟩
  try dsimp only at H
  refine qq <| qq <| q0 <| qq <| q0 <| qc H (fun c3 H=>?_) (fun c3 H=>?_)
  ·obtain⟨x3,e8,H⟩:=bb H
   obtain⟨h8,e9,o8⟩:=fO _ _ _ _ _ _ e8 h7 _ _ _ (o7) fA bm iC (fun h' K' o'=>jA h' (K'++[]) (by simpa only [Rm,Ru,Rv] using o')) [.rs aL 0 ai.length 1,.int .i64 a3,.int .i64 (i64.wrap (a3+aO)),.int .i64 n0,.fn fA bm] (ao (rfl) (ao (aR (br)) (ao (aR (br)) (ao (aR (br)) (ao (iC) (cq))))))
   exact qr [.a 5 e9] <| q0 <| ⟨(x3,i64.wrap (aO*(2:Int))),⟨h8,by kernel_rfl,o8⟩,H⟩
  ·exact qk <| q0 <| ⟨(iU,i64.wrap (aO*(2:Int))),⟨h7,by kernel_rfl,o7⟩,H⟩
 ·exact qx 2 <| ⟨rfl,cj,aO,oi H,.rs aL 0 ai.length 1,.int .i64 n0,.fn fA bm,.int .i64 aO,.bool (decide (aO<n0)),h4,by kernel_rfl,o4⟩
theorem sV {a7:FuncId→ca}(ha:a7 110=lg)(xQ:FF cf m)(fO:qU cf m m)(ai:List Int)(n0:Int)(aF:Int→Int→Option (Int))(h:AHeap)(L:Mem)(aL:Nat)(fA:FuncId)(bm:List AV)  (iC:aC (.fn fA bm) = .fn fA bm)(jA:∀h K,Has h (K++L)→∀(a0:Int) (a1:Int) r,aF a0 a1=some r→cf fA ([.int .i64 a0,.int .i64 a1]++bm) h=some (.int .i64 r,h))(o:Has h ((aL,.sl ai.length 1 (af.l ai))::L)){out:(List Int)}(H:bh.f m ai n0 aF=some out) :
  ∃r h',bf Tryd.prog a7 cf m 110 [.rs aL 0 ai.length 1,.int .i64 n0,.fn fA bm] h=some (r,h')∧r = .tup []∧Has h' ((aL,.sl ai.length 1 (af.l out))::L):=by
 refine aq (fn:=Tryd.f110) ha Tryd.func110 (by kernel_rfl) (by kernel_rfl) ?_
 refine aQ (Q:=fun s=>bh.fin L aL ai n0 aF out s) (fun _ _ ⟨h1,h2,h3⟩=>⟨h1,_,h2,rfl,h3⟩) ?_
 have H:_=some out:=H
 unfold bh.f at H
 show cX _ cf lg m _ ⟨.rs aL 0 ai.length 1 :: .int .i64 n0 :: .fn fA bm::vl [],[],h⟩ _
 refine q1 <| qq <| q0 <| qq <| qb 0 ?_
 obtain⟨bR,e2,H⟩:=bb H
 refine ql (bh.cw L aL fA bm ai n0 aF  iC jA xQ (ai,(0:Int),(20:Int)) _ _ ⟨h,by kernel_rfl,o⟩ e2) ?_
 rintro e s ⟨rfl,bX,a1,b1,rfl,g0,g1,h2,rfl,o2⟩
 try dsimp only at H
 refine qq ?_
 obtain⟨x1,e3,H⟩:=bb H
 obtain⟨h3,e4,o3⟩:=xQ _ _ _ _ _ e3 h2 _ _ _ (o2) fA bm iC (fun h' K' o'=>jA h' (K'++[]) (by simpa only [Rm,Ru,Rv] using o')) [.rs aL 0 ai.length 1,.int .i64 a1,.int .i64 n0,.fn fA bm] (ao (rfl) (ao (aR (br)) (ao (aR (br)) (ao (iC) (cq)))))
 refine qr [.a 4 e4] <| qb 2 ?_
 obtain⟨iT,xP,H⟩:=bb H
 refine ql (bh.iS L aL fA bm ai n0 aF  iC jA fO (x1,(20:Int)) _ _ ⟨h3,by kernel_rfl,o3⟩ xP) ?_
 rintro e s ⟨rfl,mc,wG,rfl,g4,g5,g6,g7,g8,h9,rfl,o9⟩
 try dsimp only at H
 obtain rfl:=oi H
 exact⟨.inr rfl,⟨by kernel_rfl,he o9⟩⟩
end
end Go.Proofs.YtmekcfdllhphlaaDoor
namespace Go.Proofs.YtmekcfdllhphlaaDoor
open Go Go.R
open Go.IntKind (i64 u64 u8 u32)
def xR:ca:=ff [0,1] [] [3] [] []
def dy.f (m:Nat)(x0:List Int)(aF:Int→Int→Option (Int)):Option ((List Int)):=(bh.f m x0 (x0.length:Int) aF).bind fun x1=>some x1
def dy.fin (L:Mem)(aL:Nat)(x0:List Int)(aF:Int→Int→Option (Int))(r:(List Int))(s:St):Prop:=aP Tryd.prog (s.open xR) Tryd.f84.results.toList=some (.tup [])∧Has s.h ((aL,.sl x0.length 1 (af.l r))::L)
def MJ (cf:CallF)(m:Nat):Prop:=∀(x0:List Int) (aF:Int→Int→Option (Int)) (r:(List Int)),dy.f m x0 aF=some r→∀h L (Bs:Nat) (aL:Nat),Has h ((aL,.sl Bs 1 (af.l x0))::L)→∀(dJ:FuncId) (aT:List AV),aC (.fn dJ aT) = .fn dJ aT→(∀h K,Has h (K++L)→∀(a0:Int) (a1:Int) r,aF a0 a1=some r→cf dJ ([.int .i64 a0,.int .i64 a1]++aT) h=some (.int .i64 r,h))→∀xs,xs.map aC=[.rs aL 0 Bs 1,.fn dJ aT]→∃h',cf 84 xs h=some (.tup [],h')∧Has h' ((aL,.sl Bs 1 (af.l r))::L)
section
variable {cf:CallF}{m:Nat}
theorem mf {a7:FuncId→ca}(ha:a7 84=xR)(Ib:Ia cf m)(x0:List Int)(aF:Int→Int→Option (Int))(h:AHeap)(L:Mem)(aL:Nat)(dJ:FuncId)(aT:List AV)  (gH:aC (.fn dJ aT) = .fn dJ aT)(gZ:∀h K,Has h (K++L)→∀(a0:Int) (a1:Int) r,aF a0 a1=some r→cf dJ ([.int .i64 a0,.int .i64 a1]++aT) h=some (.int .i64 r,h))(o:Has h ((aL,.sl x0.length 1 (af.l x0))::L)){out:(List Int)}(H:dy.f m x0 aF=some out) :
  ∃r h',bf Tryd.prog a7 cf m 84 [.rs aL 0 x0.length 1,.fn dJ aT] h=some (r,h')∧r = .tup []∧Has h' ((aL,.sl x0.length 1 (af.l out))::L):=by
 refine aq (fn:=Tryd.f84) ha Tryd.func84 (by kernel_rfl) (by kernel_rfl) ?_
 refine aQ (Q:=fun s=>dy.fin L aL x0 aF out s) (fun _ _ ⟨h1,h2,h3⟩=>⟨h1,_,h2,rfl,h3⟩) ?_
 have H:_=some out:=H
 unfold dy.f at H
 show cX _ cf xR m _ ⟨[.rs aL 0 x0.length 1,.fn dJ aT],[],h⟩ _
 obtain⟨x1,e0,H⟩:=bb H
 obtain⟨h0,e1,o0⟩:=Ib _ _ _ _ e0 h _ _ _ (o) dJ aT gH (fun h' K' o'=>gZ h' (K'++[]) (by simpa only [Rm,Ru,Rv] using o')) [.rs aL 0 x0.length 1,.int .i64 (x0.length:Int),.fn dJ aT] (ao (rfl) (ao (aR (br)) (ao (gH) (cq))))
 obtain rfl:=oi H
 exact qr [.a 4 e1] <| ⟨.inr rfl,⟨by kernel_rfl,he o0⟩⟩
end
end Go.Proofs.YtmekcfdllhphlaaDoor
namespace Go.Proofs.YtmekcfdllhphlaaDoor
open Go Go.R
open Go.IntKind (i64 u64 u8 u32)
section
variable {m:Nat}{cmp:Int→Int→Option Int}{c:Int→Int→Int}
def Ic (c:Int→Int→Int)(d:List Int)(bs n:Nat):Prop:=∀k i j,k*bs≤i→i<j→j<k*bs+bs→j<n→0≤c (gt d j) (gt d i)
theorem Bt (hm:2 ^ 41≤m){n:Nat}{l:List Int}(hn:n=l.length)(hs:l.length<2 ^ 40)(C:Cm cmp c l):∀(f t:Nat) (d:List Int),n - 20*t<f→20*t≤n→Mv 0 (20*t) l d→
  (Ord c l→∀k,k<t→Sg c d (20*k) (20*k+20))→
  ∃d' t' y,bh.l0 m (n:Int) cmp f d ((20*t:Nat):Int) ((20*t+20:Nat):Int)=some (d',((20*t':Nat):Int),y)∧20*t'≤n∧n<20*t'+20∧Mv 0 (20*t') l d'∧(Ord c l→∀k,k<t'→Sg c d' (20*k) (20*k+20))
 | 0,t,d,hf,_,_,_=>absurd hf (by omega)
 | f+1,t,d,hf,h1,M,S=>by
  have pS:(2:Nat) ^ 40=1099511627776:=by decide
  have tj:(2:Nat) ^ 41=2199023255552:=by decide
  have hl:=M.length
  unfold bh.l0
  by_cases h:20*t+20≤n
  ·obtain⟨d1,e1,M1,S1⟩:=uw (a:=20*t) (b:=20*t+20) (cmp:=cmp) (c:=c) hm (l:=d) (by omega) (by omega) (by omega) (C.perm M.perm)
   rw [if_pos (by simp only [decide_eq_true_eq]; omega),e1,QM,aD (x:=((20*t+20:Nat):Int)+20) (by omega) (by omega)]
   have:=Bt hm hn hs C f (t+1) d1 (by omega) (by omega) ((M.wide (QS _) (by omega)).trans (M1.wide (by omega) (by omega))) (fun O k hk i j k1 k2 k3=>by
    by_cases CU:k=t
    ·subst CU; exact S1 (O.perm M.perm) _ _ k1 k2 k3
    ·rw [M1.out i (by omega),M1.out j (by omega)]; exact S O k (by omega) _ _ k1 k2 k3)
   rw [show ((20*(t+1):Nat):Int)=((20*t+20:Nat):Int) by omega,show ((20*(t+1)+20:Nat):Int)=((20*t+20:Nat):Int)+20 by omega] at this
   exact this
  ·exact⟨d,t,_,by rw [if_neg (by simp only [decide_eq_true_eq]; omega)],h1,by omega,M,S⟩
theorem Bu (hm:2 ^ 41≤m){n bs:Nat}{l:List Int}(hn:n=l.length)(hs:l.length<2 ^ 40)(hb:0<bs)(OJ:bs<n)(C:Cm cmp c l)(B:Ord c l→Ic c l bs n):∀(f t:Nat) (d:List Int),n - t*(2*bs)<f→t*(2*bs)≤n→Mv 0 (t*(2*bs)) l d→
  (Ord c l→∀k,k<t→Sg c d (k*(2*bs)) (k*(2*bs)+2*bs))→
  ∃d' t' y,bh.l2 m (n:Int) cmp (bs:Int) f d ((t*(2*bs):Nat):Int) ((t*(2*bs)+2*bs:Nat):Int)=some (d',((t'*(2*bs):Nat):Int),y)∧t'*(2*bs)≤n∧n<t'*(2*bs)+2*bs∧Mv 0 (t'*(2*bs)) l d'∧(Ord c l→∀k,k<t'→Sg c d' (k*(2*bs)) (k*(2*bs)+2*bs))
 | 0,t,d,hf,_,_,_=>absurd hf (by omega)
 | f+1,t,d,hf,h1,M,S=>by
  have pS:(2:Nat) ^ 40=1099511627776:=by decide
  have tj:(2:Nat) ^ 41=2199023255552:=by decide
  have hl:=M.length
  unfold bh.l2
  have ht:(t+1)*(2*bs)=t*(2*bs)+2*bs:=Nat.succ_mul _ _
  have q1:(2*t)*bs=t*(2*bs):=by rw [Nat.mul_assoc,Nat.mul_left_comm]
  have q2:(2*t+1)*bs=t*(2*bs)+bs:=by rw [Nat.succ_mul,q1]
  by_cases h:t*(2*bs)+2*bs≤n
  ·have S0:Ord c l→Sg c d (t*(2*bs)) (t*(2*bs)+bs):=fun O i j k1 k2 k3=>by
    rw [M.out i (by omega),M.out j (by omega)]; exact B O (2*t) i j (by omega) k2 (by omega) (by omega)
   have OL:Ord c l→Sg c d (t*(2*bs)+bs) (t*(2*bs)+2*bs):=fun O i j k1 k2 k3=>by
    rw [M.out i (by omega),M.out j (by omega)]; exact B O (2*t+1) i j (by omega) k2 (by omega) (by omega)
   have hk:∀k,k<t→k*(2*bs)+2*bs≤t*(2*bs):=fun k hk=>by
    rw [←Nat.succ_mul]; exact RY _ hk
   generalize hA:t*(2*bs)=A at *
   obtain⟨d1,e1,M1,S1⟩:=me (cmp:=cmp) (c:=c) hm m d A (A+bs) (A+2*bs) (by omega) (by omega) (by omega) (by omega) (by omega) (C.perm M.perm)
   have e0:i64.wrap ((A:Int)+(bs:Int))=((A+bs:Nat):Int):=by rw [aD (by omega) (by omega)]; omega
   have e2:i64.wrap ((2:Int)*(bs:Int))=((2*bs:Nat):Int):=by rw [aD (by omega) (by omega)]; omega
   have e3:i64.wrap (((A+2*bs:Nat):Int)+((2*bs:Nat):Int))=((A+2*bs+2*bs:Nat):Int):=by rw [aD (by omega) (by omega)]; omega
   rw [if_pos (by simp only [decide_eq_true_eq]; omega),e0,e1,QM,e2,e3]
   have:=Bu hm hn hs hb OJ C B f (t+1) d1 (by omega) (by omega) (by rw [ht]; exact (M.wide (QS _) (by omega)).trans (M1.wide (by omega) (by omega))) (fun O k mR i j k1 k2 k3=>by
    by_cases CU:k=t
    ·subst CU; rw [hA] at k1 k3; exact S1 (O.perm M.perm) (S0 O) (OL O) _ _ k1 k2 k3
    ·have:=hk k (by omega)
     rw [M1.out i (by omega),M1.out j (by omega)]; exact S O k (by omega) _ _ k1 k2 k3)
   rw [ht] at this
   exact this
  ·exact⟨d,t,_,by rw [if_neg (by simp only [decide_eq_true_eq]; omega)],h1,by omega,M,S⟩
theorem wH (hm:2 ^ 41≤m){n:Nat}:∀(f bs:Nat) (l:List Int),n=l.length→l.length<2 ^ 40→Cm cmp c l→n - bs<f→0<bs→bs<2 ^ 42→(Ord c l→Ic c l bs n)→
  ∃d y,bh.l1 m (n:Int) cmp f l (bs:Int)=some (d,y)∧d.Perm l∧(Ord c l→Sg c d 0 n)
 | 0,bs,l,_,_,_,hf,_,_,_=>absurd hf (by omega)
 | f+1,bs,l,hn,hs,C,hf,hb,hb2,B=>by
  have pS:(2:Nat) ^ 40=1099511627776:=by decide
  have tj:(2:Nat) ^ 41=2199023255552:=by decide
  have Kz:(2:Nat) ^ 42=4398046511104:=by decide
  unfold bh.l1
  by_cases h:bs<n
  ·have e2:i64.wrap ((2:Int)*(bs:Int))=((2*bs:Nat):Int):=by rw [aD (by omega) (by omega)]; omega
   have e3:i64.wrap ((bs:Int)*(2:Int))=((2*bs:Nat):Int):=by rw [aD (by omega) (by omega)]; omega
   obtain⟨d1,t,y,k1,k2,k3,M1,S1⟩:=Bu (cmp:=cmp) (c:=c) hm hn hs hb h C B m 0 l (by omega) (by omega) Mv.refl (fun O k hk=>absurd hk (by omega))
   have l1:=M1.length
   simp only [Nat.zero_mul,Re] at k1
   have k1:bh.l2 m (n:Int) cmp (bs:Int) m l (0:Int) ((2*bs:Nat):Int)=_:=k1
   rw [if_pos (by simp only [decide_eq_true_eq]; omega),e2,k1,QM]
   dsimp only
   rw [e3]
   have q1:(2*t)*bs=t*(2*bs):=by rw [Nat.mul_assoc,Nat.mul_left_comm]
   have q2:(2*t+1)*bs=t*(2*bs)+bs:=by rw [Nat.succ_mul,q1]
   have hk:∀k,k<t→k*(2*bs)+2*bs≤t*(2*bs):=fun k hk=>by
    rw [←Nat.succ_mul]; exact RY _ hk
   have mR:∀k,t<k→t*(2*bs)+2*bs≤k*(2*bs):=fun k hk=>by
    rw [←Nat.succ_mul]; exact RY _ hk
   have e0:i64.wrap (((t*(2*bs):Nat):Int)+(bs:Int))=((t*(2*bs)+bs:Nat):Int):=by rw [aD (by omega) (by omega)]; omega
   rw [e0]
   by_cases h2:t*(2*bs)+bs<n
   ·obtain⟨d2,e4,M2,S2⟩:=me (cmp:=cmp) (c:=c) hm m d1 (t*(2*bs)) (t*(2*bs)+bs) n (by omega) (by omega) (by omega) (by omega) (by omega) (C.perm M1.perm)
    rw [if_pos (by simp only [decide_eq_true_eq]; omega),e4,QM]
    have P2:=M2.perm.trans M1.perm
    obtain⟨d,y,g1,g2,g3⟩:=wH (n:=n) hm f (2*bs) d2 (by have:=P2.length_eq; omega) (by have:=P2.length_eq; omega) (C.perm P2) (by omega) (by omega) (by omega) (fun O k i j w1 w2 w3 w4=>by
     have O:=O.perm P2.symm
     by_cases u1:k<t
     ·have:=hk k u1
      rw [M2.out i (by omega),M2.out j (by omega)]; exact S1 O k u1 _ _ w1 w2 w3
     ·by_cases u2:k=t
      ·subst u2
       refine S2 (O.perm M1.perm) (fun i j x1 x2 x3=>?_) (fun i j x1 x2 x3=>?_) _ _ w1 w2 w4
       ·rw [M1.out i (by omega),M1.out j (by omega)]; exact B O (2*k) i j (by omega) x2 (by omega) (by omega)
       ·rw [M1.out i (by omega),M1.out j (by omega)]; exact B O (2*k+1) i j (by omega) x2 (by omega) (by omega)
      ·have:=mR k (by omega); omega)
    exact⟨d,y,g1,g2.trans P2,fun O=>g3 (O.perm P2)⟩
   ·rw [if_neg (by simp only [decide_eq_true_eq]; omega)]
    have P2:=M1.perm
    obtain⟨d,y,g1,g2,g3⟩:=wH (n:=n) hm f (2*bs) d1 (by have:=P2.length_eq; omega) (by have:=P2.length_eq; omega) (C.perm P2) (by omega) (by omega) (by omega) (fun O k i j w1 w2 w3 w4=>by
     have O:=O.perm P2.symm
     by_cases u1:k<t
     ·exact S1 O k u1 _ _ w1 w2 w3
     ·by_cases u2:k=t
      ·subst u2
       rw [M1.out i (by omega),M1.out j (by omega)]; exact B O (2*k) i j (by omega) w2 (by omega) (by omega)
      ·have:=mR k (by omega); omega)
    exact⟨d,y,g1,g2.trans P2,fun O=>g3 (O.perm P2)⟩
  ·refine⟨l,bs,by rw [if_neg (by simp only [decide_eq_true_eq]; omega)],List.Perm.refl _,fun O i j w1 w2 w3=>B O 0 i j (by omega) w2 (by omega) w3⟩
theorem zr (hm:2 ^ 41≤m){l:List Int}(hs:l.length<2 ^ 40)(C:Cm cmp c l):∃d,dy.f m l cmp=some d∧d.Perm l∧(Ord c l→Sg c d 0 l.length):=by
 have pS:(2:Nat) ^ 40=1099511627776:=by decide
 have tj:(2:Nat) ^ 41=2199023255552:=by decide
 have Kz:(2:Nat) ^ 42=4398046511104:=by decide
 unfold dy.f bh.f
 obtain⟨d1,t,y,k1,k2,k3,M1,S1⟩:=Bt (cmp:=cmp) (c:=c) hm rfl hs C m 0 l (by omega) (by omega) Mv.refl (fun O k hk=>absurd hk (by omega))
 have k1:bh.l0 m (l.length:Int) cmp m l (0:Int) (20:Int)=_:=k1
 have l1:=M1.length
 rw [k1,QM]
 dsimp only
 obtain⟨d2,e2,M2,S2⟩:=uw (a:=20*t) (b:=l.length) (cmp:=cmp) (c:=c) hm (l:=d1) (by omega) (by omega) (by omega) (C.perm M1.perm)
 rw [e2,QM]
 have P2:=M2.perm.trans M1.perm
 obtain⟨d,y,g1,g2,g3⟩:=wH (cmp:=cmp) (c:=c) (n:=l.length) hm m 20 d2 P2.length_eq.symm (by rw [P2.length_eq]; exact hs) (C.perm P2) (by omega) (by omega) (by omega) (fun O k i j w1 w2 w3 w4=>by
  have O:=O.perm P2.symm
  by_cases u1:k<t
  ·rw [M2.out i (by omega),M2.out j (by omega)]; exact S1 O k u1 _ _ (by omega) w2 (by omega)
  ·exact S2 (O.perm M1.perm) _ _ (by omega) w2 (by omega))
 have g1:bh.l1 m (l.length:Int) cmp m d2 (20:Int)=_:=g1
 rw [g1]
 exact⟨d,rfl,g2.trans P2,fun O=>g3 (O.perm P2)⟩
end
end Go.Proofs.YtmekcfdllhphlaaDoor
namespace Go.Proofs.YtmekcfdllhphlaaDoor
open Go Go.R
open Go.IntKind (i64 u64 u8 u32)
def xS:ca:=ff [0,1,2,3] [2] [9,7] [] []
def dT.f (m:Nat)(n0:aa)(x0:aw):Option (Bool):=(fm.f m n0 (x0.nodes.length:Int)).bind fun x1=>some (!x1)
def dT.fin (h:AHeap)(r:Bool)(s:St):Prop:=aP Tryd.prog (s.open xS) Tryd.f61.results.toList=some (.bool r)∧s.h=h
def MK (cf:CallF)(m:Nat):Prop:=∀(n0:aa) (x0:aw) (r:Bool),dT.f m n0 x0=some r→∀h L (dj bk:Nat),Has h L→L[dj]? = some (bk,.ob [ae.fz x0.nodes,.int .i64 x0.root])→cf 61 [.agg [.int .i64 n0.kind,.int .i64 n0.int,.str n0.label,af.fz n0.args],.ptr bk 0] h=some (.bool r,h)
section
variable {cf:CallF}{m:Nat}
theorem mg {a7:FuncId→ca}(ha:a7 61=xS)(KC:MF cf m)(n0:aa)(x0:aw)(h:AHeap)(L:Mem)  {dj bk:Nat}(dZ:L[dj]? = some (bk,.ob [ae.fz x0.nodes,.int .i64 x0.root]))(o:Has h (L)){out:Bool}(H:dT.f m n0 x0=some out) :
  ∃r h',bf Tryd.prog a7 cf m 61 [.agg [.int .i64 n0.kind,.int .i64 n0.int,.str n0.label,af.fz n0.args],.ptr bk 0] h=some (r,h')∧r=(.bool out)∧h'=h:=by
 refine aq (fn:=Tryd.f61) ha Tryd.func61 (by kernel_rfl) (by kernel_rfl) ?_
 refine aQ (Q:=fun s=>dT.fin h out s) (fun _ _ ⟨h1,h2,h3⟩=>⟨h1,_,h2,rfl,h3⟩) ?_
 have H:_=some out:=H
 unfold dT.f at H
 show cX _ cf xS m _ ⟨[.agg [.int .i64 n0.kind,.int .i64 n0.int,.str n0.label,af.fz n0.args],.ptr bk 0,.any,.any],[none],h⟩ _
 refine q1 <| qq ?_
 obtain⟨x1,e0,H⟩:=bb H
 obtain rfl:=oi H
 exact qr [.v 2 (show bg Tryd.prog h 29 (.ptr bk 0)=some (ae.fz x0.nodes) from b9 (q:=dj) (cs:=[ae.fz x0.nodes,.int .i64 x0.root]) o dZ (by kernel_rfl)),.a 4 (KC _ _ _ e0 h _ (eZ (ab (bw (ab (aM) (ab (aM) (ab (bJ) (ab (b7 (E:=af)) (aA)))))) (ab (aM) (aA)))))] <| qt <| ⟨.inl rfl,⟨by kernel_rfl,by kernel_rfl⟩⟩
end
end Go.Proofs.YtmekcfdllhphlaaDoor
namespace Go.Proofs.YtmekcfdllhphlaaDoor
open Go Go.R
open Go.IntKind (i64 u64 u8 u32)
def xT:ca:=ff [0,1,2] [] [5,3] [] []
def dB.f (m:Nat)(t0:aw):Option (Bool):=if (decide ((t0.nodes.length:Int)≥(1:Int)))=true then (if (decide ((t0.nodes.length:Int)≤(8000:Int)))=true then (if (decide (t0.root≥(0:Int)))=true then (if (decide (t0.root<(t0.nodes.length:Int)))=true then ((eG.f m t0.nodes (fun y0=>dT.f m y0 t0)).bind fun x0=>some (!x0)) else (some false)) else (some false)) else (some false)) else (some false)
def dB.fin (L:Mem)(r:Bool)(s:St):Prop:=∃av,aP Tryd.prog (s.open xT) Tryd.f45.results.toList=some av∧fT s.h av (.bool r)
def KD (cf:CallF)(m:Nat):Prop:=∀(t0:aw) (r:Bool),dB.f m t0=some r→∀h xs,eO eV h xs [.agg [ae.fz t0.nodes,.int .i64 t0.root]]→cf 45 xs h=some (.bool r,h)
section
variable {cf:CallF}{m:Nat}
theorem oo {a7:FuncId→ca}(ha:a7 45=xT)(KE:MH cf m)(KF:MK cf m)(t0:aw)(h:AHeap)(L:Mem)  (o:Has h (L)){out:Bool}(H:dB.f m t0=some out) :
  ∃r h',bf Tryd.prog a7 cf m 45 [.agg [ae.fz t0.nodes,.int .i64 t0.root]] h=some (r,h')∧fT h' r (.bool out):=by
 refine aq (fn:=Tryd.f45) ha Tryd.func45 (by kernel_rfl) (by kernel_rfl) ?_
 refine aQ (Q:=fun s=>dB.fin L out s) (fun _ _ h=>h) ?_
 have H:_=some out:=H
 unfold dB.f at H
 show cX _ cf xT m _ ⟨[.agg [ae.fz t0.nodes,.int .i64 t0.root],.any,.any],[],h⟩ _
 refine qq ?_
 obtain⟨aL,h0,e0,o0⟩:=jV (cs:=[ae.fz t0.nodes,.int .i64 t0.root]) o (by kernel_rfl)
 refine qr [.a 0 e0] <| qq ?_
 rcases cO H with⟨c0,H⟩| ⟨c0,H⟩
 ·rcases cO H with⟨c1,H⟩| ⟨c1,H⟩
  ·rcases cO H with⟨c2,H⟩| ⟨c2,H⟩
   ·rcases cO H with⟨c3,H⟩| ⟨c3,H⟩
    ·obtain⟨x0,e1,H⟩:=bb H
     refine qr [.v 1 (show bg Tryd.prog h0 29 (.ptr aL 0)=some (ae.fz t0.nodes) from b9 (q:=0) (cs:=[ae.fz t0.nodes,.int .i64 t0.root]) o0 rfl (by kernel_rfl)),.b 4 c0,.v 6 (show bg Tryd.prog h0 29 (.ptr aL 0)=some (ae.fz t0.nodes) from b9 (q:=0) (cs:=[ae.fz t0.nodes,.int .i64 t0.root]) o0 rfl (by kernel_rfl)),.b 10 c1,.v 12 (show bg Tryd.prog h0 3 (.ptr aL 1)=some (.int .i64 t0.root) from b9 (q:=0) (cs:=[ae.fz t0.nodes,.int .i64 t0.root]) o0 rfl (by kernel_rfl)),.b 15 c2,.v 17 (show bg Tryd.prog h0 3 (.ptr aL 1)=some (.int .i64 t0.root) from b9 (q:=0) (cs:=[ae.fz t0.nodes,.int .i64 t0.root]) o0 rfl (by kernel_rfl)),.v 19 (show bg Tryd.prog h0 29 (.ptr aL 0)=some (ae.fz t0.nodes) from b9 (q:=0) (cs:=[ae.fz t0.nodes,.int .i64 t0.root]) o0 rfl (by kernel_rfl)),.b 23 c3,.v 25 (show bg Tryd.prog h0 29 (.ptr aL 0)=some (ae.fz t0.nodes) from b9 (q:=0) (cs:=[ae.fz t0.nodes,.int .i64 t0.root]) o0 rfl (by kernel_rfl)),.a 27 (KE _ _ _ e1 h0 (Has.pos o0) 61 [.ptr aL 0] rfl (fun y0 r hr=>KF y0 _ r hr h0 _ 0 _ o0 rfl) _ (ao (aR (ik (E:=ae))) (ao ((rfl:aC (.fn 61 [.ptr aL 0])=_)) (cq))))] ?_
     have o1:Has h0 (L):=Has.del o0 0
     obtain rfl:=oi H
     exact qt <| ⟨.inl rfl,bD (.bool (!x0)) h0 (bB (aj))⟩
    ·refine qr [.v 1 (show bg Tryd.prog h0 29 (.ptr aL 0)=some (ae.fz t0.nodes) from b9 (q:=0) (cs:=[ae.fz t0.nodes,.int .i64 t0.root]) o0 rfl (by kernel_rfl)),.b 4 c0,.v 6 (show bg Tryd.prog h0 29 (.ptr aL 0)=some (ae.fz t0.nodes) from b9 (q:=0) (cs:=[ae.fz t0.nodes,.int .i64 t0.root]) o0 rfl (by kernel_rfl)),.b 10 c1,.v 12 (show bg Tryd.prog h0 3 (.ptr aL 1)=some (.int .i64 t0.root) from b9 (q:=0) (cs:=[ae.fz t0.nodes,.int .i64 t0.root]) o0 rfl (by kernel_rfl)),.b 15 c2,.v 17 (show bg Tryd.prog h0 3 (.ptr aL 1)=some (.int .i64 t0.root) from b9 (q:=0) (cs:=[ae.fz t0.nodes,.int .i64 t0.root]) o0 rfl (by kernel_rfl)),.v 19 (show bg Tryd.prog h0 29 (.ptr aL 0)=some (ae.fz t0.nodes) from b9 (q:=0) (cs:=[ae.fz t0.nodes,.int .i64 t0.root]) o0 rfl (by kernel_rfl)),.b 23 c3] ?_
     have o2:Has h0 (L):=Has.del o0 0
     obtain rfl:=oi H
     exact qt <| ⟨.inl rfl,bD (.bool false) h0 (bB (aj))⟩
   ·refine qr [.v 1 (show bg Tryd.prog h0 29 (.ptr aL 0)=some (ae.fz t0.nodes) from b9 (q:=0) (cs:=[ae.fz t0.nodes,.int .i64 t0.root]) o0 rfl (by kernel_rfl)),.b 4 c0,.v 6 (show bg Tryd.prog h0 29 (.ptr aL 0)=some (ae.fz t0.nodes) from b9 (q:=0) (cs:=[ae.fz t0.nodes,.int .i64 t0.root]) o0 rfl (by kernel_rfl)),.b 10 c1,.v 12 (show bg Tryd.prog h0 3 (.ptr aL 1)=some (.int .i64 t0.root) from b9 (q:=0) (cs:=[ae.fz t0.nodes,.int .i64 t0.root]) o0 rfl (by kernel_rfl)),.b 15 c2] ?_
    have o3:Has h0 (L):=Has.del o0 0
    obtain rfl:=oi H
    exact qt <| ⟨.inl rfl,bD (.bool false) h0 (bB (aj))⟩
  ·refine qr [.v 1 (show bg Tryd.prog h0 29 (.ptr aL 0)=some (ae.fz t0.nodes) from b9 (q:=0) (cs:=[ae.fz t0.nodes,.int .i64 t0.root]) o0 rfl (by kernel_rfl)),.b 4 c0,.v 6 (show bg Tryd.prog h0 29 (.ptr aL 0)=some (ae.fz t0.nodes) from b9 (q:=0) (cs:=[ae.fz t0.nodes,.int .i64 t0.root]) o0 rfl (by kernel_rfl)),.b 10 c1] ?_
   have o4:Has h0 (L):=Has.del o0 0
   obtain rfl:=oi H
   exact qt <| ⟨.inl rfl,bD (.bool false) h0 (bB (aj))⟩
 ·refine qr [.v 1 (show bg Tryd.prog h0 29 (.ptr aL 0)=some (ae.fz t0.nodes) from b9 (q:=0) (cs:=[ae.fz t0.nodes,.int .i64 t0.root]) o0 rfl (by kernel_rfl)),.b 4 c0] ?_
  have o5:Has h0 (L):=Has.del o0 0
  obtain rfl:=oi H
  exact qt <| ⟨.inl rfl,bD (.bool false) h0 (bB (aj))⟩
end
end Go.Proofs.YtmekcfdllhphlaaDoor
namespace Go.Proofs.YtmekcfdllhphlaaDoor
open Go Go.R
open Go.IntKind (i64 u64 u8 u32)
def sW:ca:=ff [0,2] [] [2,1] [] []
def cV.f (m:Nat)(x0:Int):Option (Bool):=some (!(x0==x0))
def cV.fin (L:Mem)(r:Bool)(s:St):Prop:=∃av,aP Tryd.prog (s.open sW) Tryd.f108.results.toList=some av∧fT s.h av (.bool r)
def Ie (cf:CallF)(m:Nat):Prop:=∀(x0:Int) (r:Bool),cV.f m x0=some r→∀h xs,eO eV h xs [.int .i64 x0]→cf 108 xs h=some (.bool r,h)
section
variable {cf:CallF}{m:Nat}
theorem lh {a7:FuncId→ca}(ha:a7 108=sW)  (x0:Int)(h:AHeap)(L:Mem)  (o:Has h (L)){out:Bool}(H:cV.f m x0=some out) :
  ∃r h',bf Tryd.prog a7 cf m 108 [.int .i64 x0] h=some (r,h')∧fT h' r (.bool out):=by
 refine aq (fn:=Tryd.f108) ha Tryd.func108 (by kernel_rfl) (by kernel_rfl) ?_
 refine aQ (Q:=fun s=>cV.fin L out s) (fun _ _ h=>h) ?_
 have H:_=some out:=H
 unfold cV.f at H
 show cX _ cf sW m _ ⟨[.int .i64 x0,.any],[],h⟩ _
 obtain rfl:=oi H
 exact q1 <| qq <| q0 <| qt <| ⟨.inl rfl,bD (.bool (!(x0==x0))) h (bB (aj))⟩
end
end Go.Proofs.YtmekcfdllhphlaaDoor
namespace Go.Proofs.YtmekcfdllhphlaaDoor
open Go Go.R
open Go.IntKind (i64 u64 u8 u32)
def xU:ca:=ff [0,1,4,5,6,11,12,13,16,19] [] [1020,1012,996,972,959,1019,1019,892,1019,764,1019,511,1019,1019] [] []
def bO.f (m:Nat)(x0:Int)(y0:Int):Option (Int):=(cV.f m x0).bind fun x1=>(cV.f m y0).bind fun x2=>if x1=true then (if x2=true then (some (0:Int)) else (some (-1:Int))) else (if x2=true then (some (1:Int)) else (if (decide (x0<y0))=true then (some (-1:Int)) else (if (decide (x0 > y0))=true then (some (1:Int)) else (some (0:Int)))))
def bO.fin (L:Mem)(r:Int)(s:St):Prop:=∃av,aP Tryd.prog (s.open xU) Tryd.f81.results.toList=some av∧fT s.h av (.int .i64 r)
def ML (cf:CallF)(m:Nat):Prop:=∀(x0:Int) (y0:Int) (r:Int),bO.f m x0 y0=some r→∀h xs,eO eV h xs [.int .i64 x0,.int .i64 y0]→cf 81 xs h=some (.int .i64 r,h)
section
variable {cf:CallF}{m:Nat}
theorem jY {a7:FuncId→ca}(ha:a7 81=xU)(Eg:Ie cf m)(x0:Int)(y0:Int)(h:AHeap)(L:Mem)  (o:Has h (L)){out:Int}(H:bO.f m x0 y0=some out) :
  ∃r h',bf Tryd.prog a7 cf m 81 [.int .i64 x0,.int .i64 y0] h=some (r,h')∧fT h' r (.int .i64 out):=by
 refine aq (fn:=Tryd.f81) ha Tryd.func81 (by kernel_rfl) (by kernel_rfl) ?_
 refine aQ (Q:=fun s=>bO.fin L out s) (fun _ _ h=>h) ?_
 have H:_=some out:=H
 unfold bO.f at H
 show cX _ cf xU m _ ⟨.int .i64 x0 :: .int .i64 y0::vl [],[],h⟩ _
 refine q1 <| qq ?_
 obtain⟨x1,e0,H⟩:=bb H
 refine qr [.a 1 (Eg _ _ e0 h _ (eZ (ab (aM) (aA))))] <| qq ?_
 obtain⟨x2,e1,H⟩:=bb H
 refine qr [.a 1 (Eg _ _ e1 h _ (eZ (ab (aM) (aA))))] <| qq <| qq <| q0 <| qc H (fun c0 H=>?_) (fun c0 H=>?_)
 ·refine qq <| qq <| q0 <| qc H (fun c1 H=>?_) (fun c1 H=>?_)
  ·obtain rfl:=oi H
   exact q1 <| qt <| ⟨.inl rfl,bD (.int .i64 (0:Int)) h (bB (dG))⟩
  ·obtain rfl:=oi H
   exact qk <| qq <| q0 <| qt <| ⟨.inl rfl,bD (.int .i64 (-1:Int)) h (bB (dG))⟩
 ·refine qk <| qq <| qq <| q0 <| qc H (fun c2 H=>?_) (fun c2 H=>?_)
  ·obtain rfl:=oi H
   exact q1 <| qt <| ⟨.inl rfl,bD (.int .i64 (1:Int)) h (bB (dG))⟩
  ·refine qk <| qq <| qq <| q0 <| qc H (fun c3 H=>?_) (fun c3 H=>?_)
   ·obtain rfl:=oi H
    exact q1 <| qt <| ⟨.inl rfl,bD (.int .i64 (-1:Int)) h (bB (dG))⟩
   ·refine qk <| qq <| qq <| q0 <| qc H (fun c4 H=>?_) (fun c4 H=>?_)
    ·obtain rfl:=oi H
     exact q1 <| qt <| ⟨.inl rfl,bD (.int .i64 (1:Int)) h (bB (dG))⟩
    ·obtain rfl:=oi H
     exact qk <| qq <| q0 <| qt <| ⟨.inl rfl,bD (.int .i64 (0:Int)) h (bB (dG))⟩
end
end Go.Proofs.YtmekcfdllhphlaaDoor
namespace Go.Proofs.YtmekcfdllhphlaaDoor
open Go Go.R
open Go.IntKind (i64 u64 u8 u32)
def uy:ca:=ff [0,2,3,5,6,7,8,9,14] [] [510,506,395,267,387,131,509,395,509] [] []
def bz.l0 (m:Nat)(ec:List Int):Nat→Int→Option (Sum Int (Int))
 | 0,_=>none
 | k+1,x0=>if (decide (x0<(ec.length:Int)))=true then ((ix ec x0).bind fun v0=>if (!(v0==(0:Int)))=true then (some (.inl v0)) else (bz.l0 m ec k (i64.wrap (x0+(1:Int))))) else (some (.inr x0))
def bz.f (m:Nat)(ec:List Int):Option (Int):=(bz.l0 m ec m (0:Int)).bind fun bR=>match bR with | .inl r0=>some r0 | .inr x1=>some (0:Int)
def bz.fin (L:Mem)(r:Int)(s:St):Prop:=∃av,aP Tryd.prog (s.open uy) Tryd.f82.results.toList=some av∧fT s.h av (.int .i64 r)
def MM (cf:CallF)(m:Nat):Prop:=∀(ec:List Int) (r:Int),bz.f m ec=some r→∀h xs,eO eV h xs [af.fz ec]→cf 82 xs h=some (.int .i64 r,h)
section
variable {cf:CallF}{m:Nat}
theorem bz.cw (L:Mem)(ec:List Int)   : cD Tryd.prog cf uy m (sub [1,1,0,1,0,0] (codeOf Tryd.f82)) (fun k (σ:Int)=>bz.l0 m ec k σ) (fun σ s=>match σ with | x0=>∃h0,s=⟨[.any,.any,.int .i64 (0:Int),.any,af.fz ec,.int .i64 (ec.length:Int),.int .i64 x0,.any,.any],[],h0⟩∧Has h0 (L)) (fun out e s=>(e = .exit 0∧∃x0,.inr x0=out∧∃FU FC zi FD h0,s=⟨[.any,.any,.int .i64 (0:Int),.any,FU,FC,zi,FD,.any],[],h0⟩∧Has h0 (L))∨(e = .ret∧∃r,.inl r=out∧bz.fin L r s)):=by
 refine jW (fun _=>rfl) ?_
 rintro k x0 s out ⟨h0,rfl,o0⟩ H
 have H:bz.l0 m ec (k+1) x0=some out:=H
 refine q1 <| qq <| qc H (fun c0 H=>?_) (fun c0 H=>?_)
 ·refine qk <| qq <| qb 1 <| qq ?_
  obtain⟨v0,e0,H⟩:=bb H
  refine qr [.v 0 (cH (k:=.i64) (E:=af) (l:=ec) fV e0),.v 1 (fK  (E:=af) (l:=ec) h0 A3 e0 rfl)] <| qq <| q0 <| qc H (fun c1 H=>?_) (fun c1 H=>?_)
  ·exact q1 <| qt <| Sa (⟨rfl,_,oi H,bD (.int .i64 v0) h0 (bB (dG))⟩)
  ·exact qk <| q0 <| ⟨i64.wrap (x0+(1:Int)),⟨h0,by kernel_rfl,o0⟩,H⟩
 ·exact qx 0 <| Or.inl (⟨rfl,x0,oi H,af.fz ec,.int .i64 (ec.length:Int),.int .i64 x0,.bool (decide (x0<(ec.length:Int))),h0,by kernel_rfl,o0⟩)
theorem oq {a7:FuncId→ca}(ha:a7 82=uy)  (ec:List Int)(h:AHeap)(L:Mem)  (o:Has h (L)){out:Int}(H:bz.f m ec=some out) :
  ∃r h',bf Tryd.prog a7 cf m 82 [af.fz ec] h=some (r,h')∧fT h' r (.int .i64 out):=by
 refine aq (fn:=Tryd.f82) ha Tryd.func82 (by kernel_rfl) (by kernel_rfl) ?_
 refine aQ (Q:=fun s=>bz.fin L out s) (fun _ _ h=>h) ?_
 have H:_=some out:=H
 unfold bz.f at H
 show cX _ cf uy m _ ⟨af.fz ec::vl [],[],h⟩ _
 refine q1 <| qq <| q0 <| qq <| qq <| q0 <| qb 0 ?_
 obtain⟨bR,e1,H⟩:=bb H
 refine ql (bz.cw L ec   (0:Int) _ _ ⟨h,by kernel_rfl,o⟩ e1) ?_
 rintro e s (⟨rfl,x1,rfl,g0,g1,g2,g3,h1,rfl,o1⟩| ⟨rfl,r0,rfl,pW⟩)
 ·try dsimp only at H
  obtain rfl:=oi H
  exact q1 <| qt <| ⟨.inl rfl,bD (.int .i64 (0:Int)) h1 (bB (dG))⟩
 ·try dsimp only at H
  obtain rfl:=oi H
  exact⟨.inl rfl,pW⟩
end
end Go.Proofs.YtmekcfdllhphlaaDoor
namespace Go.Proofs.YtmekcfdllhphlaaDoor
open Go Go.R
open Go.IntKind (i64 u64 u8 u32)
def sX:ca:=ff [0,2] [] [2,1] [] []
def b8.f (m:Nat)(x0:ByteArray):Option (Bool):=some (!(x0.data.toList==x0.data.toList))
def b8.fin (L:Mem)(r:Bool)(s:St):Prop:=∃av,aP Tryd.prog (s.open sX) Tryd.f109.results.toList=some av∧fT s.h av (.bool r)
def If (cf:CallF)(m:Nat):Prop:=∀(x0:ByteArray) (r:Bool),b8.f m x0=some r→∀h xs,eO eV h xs [.str x0]→cf 109 xs h=some (.bool r,h)
section
variable {cf:CallF}{m:Nat}
theorem jB {a7:FuncId→ca}(ha:a7 109=sX)  (x0:ByteArray)(h:AHeap)(L:Mem)  (o:Has h (L)){out:Bool}(H:b8.f m x0=some out) :
  ∃r h',bf Tryd.prog a7 cf m 109 [.str x0] h=some (r,h')∧fT h' r (.bool out):=by
 refine aq (fn:=Tryd.f109) ha Tryd.func109 (by kernel_rfl) (by kernel_rfl) ?_
 refine aQ (Q:=fun s=>b8.fin L out s) (fun _ _ h=>h) ?_
 have H:_=some out:=H
 unfold b8.f at H
 show cX _ cf sX m _ ⟨[.str x0,.any],[],h⟩ _
 obtain rfl:=oi H
 exact q1 <| qq <| q0 <| qt <| ⟨.inl rfl,bD (.bool (!(x0.data.toList==x0.data.toList))) h (bB (aj))⟩
end
end Go.Proofs.YtmekcfdllhphlaaDoor
namespace Go.Proofs.YtmekcfdllhphlaaDoor
open Go Go.R
open Go.IntKind (i64 u64 u8 u32)
def xV:ca:=ff [0,1,4,5,6,11,12,13,16,19] [] [1020,1012,996,972,959,1019,1019,892,1019,764,1019,511,1019,1019] [] []
def bE.f (m:Nat)(x0:ByteArray)(y0:ByteArray):Option (Int):=(b8.f m x0).bind fun x1=>(b8.f m y0).bind fun x2=>if x1=true then (if x2=true then (some (0:Int)) else (some (-1:Int))) else (if x2=true then (some (1:Int)) else (if (Op.bytesLess x0.data.toList y0.data.toList)=true then (some (-1:Int)) else (if (!AO x0 y0)=true then (some (1:Int)) else (some (0:Int)))))
def bE.fin (L:Mem)(r:Int)(s:St):Prop:=∃av,aP Tryd.prog (s.open xV) Tryd.f83.results.toList=some av∧fT s.h av (.int .i64 r)
def MN (cf:CallF)(m:Nat):Prop:=∀(x0:ByteArray) (y0:ByteArray) (r:Int),bE.f m x0 y0=some r→∀h xs,eO eV h xs [.str x0,.str y0]→cf 83 xs h=some (.int .i64 r,h)
section
variable {cf:CallF}{m:Nat}
theorem iV {a7:FuncId→ca}(ha:a7 83=xV)(Eh:If cf m)(x0:ByteArray)(y0:ByteArray)(h:AHeap)(L:Mem)  (o:Has h (L)){out:Int}(H:bE.f m x0 y0=some out) :
  ∃r h',bf Tryd.prog a7 cf m 83 [.str x0,.str y0] h=some (r,h')∧fT h' r (.int .i64 out):=by
 refine aq (fn:=Tryd.f83) ha Tryd.func83 (by kernel_rfl) (by kernel_rfl) ?_
 refine aQ (Q:=fun s=>bE.fin L out s) (fun _ _ h=>h) ?_
 have H:_=some out:=H
 unfold bE.f at H
 show cX _ cf xV m _ ⟨.str x0 :: .str y0::vl [],[],h⟩ _
 refine q1 <| qq ?_
 obtain⟨x1,e0,H⟩:=bb H
 refine qr [.a 1 (Eh _ _ e0 h _ (eZ (ab (bJ) (aA))))] <| qq ?_
 obtain⟨x2,e1,H⟩:=bb H
 refine qr [.a 1 (Eh _ _ e1 h _ (eZ (ab (bJ) (aA))))] <| qq <| qq <| q0 <| qc H (fun c0 H=>?_) (fun c0 H=>?_)
 ·refine qq <| qq <| q0 <| qc H (fun c1 H=>?_) (fun c1 H=>?_)
  ·obtain rfl:=oi H
   exact q1 <| qt <| ⟨.inl rfl,bD (.int .i64 (0:Int)) h (bB (dG))⟩
  ·obtain rfl:=oi H
   exact qk <| qq <| q0 <| qt <| ⟨.inl rfl,bD (.int .i64 (-1:Int)) h (bB (dG))⟩
 ·refine qk <| qq <| qq <| q0 <| qc H (fun c2 H=>?_) (fun c2 H=>?_)
  ·obtain rfl:=oi H
   exact q1 <| qt <| ⟨.inl rfl,bD (.int .i64 (1:Int)) h (bB (dG))⟩
  ·refine qk <| qq <| qq <| q0 <| qc H (fun c3 H=>?_) (fun c3 H=>?_)
   ·obtain rfl:=oi H
    exact q1 <| qt <| ⟨.inl rfl,bD (.int .i64 (-1:Int)) h (bB (dG))⟩
   ·refine qk <| qq <| qq <| q0 <| qc H (fun c4 H=>?_) (fun c4 H=>?_)
    ·obtain rfl:=oi H
     exact q1 <| qt <| ⟨.inl rfl,bD (.int .i64 (1:Int)) h (bB (dG))⟩
    ·obtain rfl:=oi H
     exact qk <| qq <| q0 <| qt <| ⟨.inl rfl,bD (.int .i64 (0:Int)) h (bB (dG))⟩
end
end Go.Proofs.YtmekcfdllhphlaaDoor
namespace Go.Proofs.YtmekcfdllhphlaaDoor
open Go Go.R
open Go.IntKind (i64 u64 u8 u32)
def xW:ca:=ff [0,1,2,3,4,5,16] [2,3] [115,83,111,51,111,111] [] []
def bP.f (m:Nat)(a0:aa)(b0:aa):Option (Int):=if (!(a0.kind==b0.kind))=true then ((bO.f m a0.kind b0.kind).bind fun x0=>some x0) else (if (a0.kind==(3:Int))=true then ((bO.f m (a0.args.length:Int) (b0.args.length:Int)).bind fun x1=>(bE.f m a0.label b0.label).bind fun x2=>(bz.f m ([x1,x2])).bind fun x3=>some x3) else ((bE.f m a0.label b0.label).bind fun x4=>(bO.f m a0.int b0.int).bind fun x5=>(bz.f m ([x4,x5])).bind fun x6=>some x6))
def bP.fin (L:Mem)(r:Int)(s:St):Prop:=∃av,aP Tryd.prog (s.open xW) Tryd.f65.results.toList=some av∧fT s.h av (.int .i64 r)
def Ig (cf:CallF)(m:Nat):Prop:=∀(a0:aa) (b0:aa) (r:Int),bP.f m a0 b0=some r→∀h xs,eO eV h xs [.agg [.int .i64 a0.kind,.int .i64 a0.int,.str a0.label,af.fz a0.args],.agg [.int .i64 b0.kind,.int .i64 b0.int,.str b0.label,af.fz b0.args]]→cf 65 xs h=some (.int .i64 r,h)
section
variable {cf:CallF}{m:Nat}
theorem jZ {a7:FuncId→ca}(ha:a7 65=xW)(FV:ML cf m)(Ih:MM cf m)(Ii:MN cf m)(a0:aa)(b0:aa)(h:AHeap)(L:Mem)  (o:Has h (L)){out:Int}(H:bP.f m a0 b0=some out) :
  ∃r h',bf Tryd.prog a7 cf m 65 [.agg [.int .i64 a0.kind,.int .i64 a0.int,.str a0.label,af.fz a0.args],.agg [.int .i64 b0.kind,.int .i64 b0.int,.str b0.label,af.fz b0.args]] h=some (r,h')∧fT h' r (.int .i64 out):=by
 refine aq (fn:=Tryd.f65) ha Tryd.func65 (by kernel_rfl) (by kernel_rfl) ?_
 refine aQ (Q:=fun s=>bP.fin L out s) (fun _ _ h=>h) ?_
 have H:_=some out:=H
 unfold bP.f at H
 show cX _ cf xW m _ ⟨.agg [.int .i64 a0.kind,.int .i64 a0.int,.str a0.label,af.fz a0.args] :: .agg [.int .i64 b0.kind,.int .i64 b0.int,.str b0.label,af.fz b0.args]::AX [],[none,none],h⟩ _
 refine q1 <| qq <| qb 0 <| qq <| q0 <| qc H (fun c0 H=>?_) (fun c0 H=>?_)
 ·refine qq ?_
  obtain⟨x0,e0,H⟩:=bb H
  obtain rfl:=oi H
  exact qr [.a 4 (FV _ _ _ e0 h _ (eZ (ab (aM) (ab (aM) (aA)))))] <| qt <| ⟨.inl rfl,bD (.int .i64 x0) h (bB (dG))⟩
 ·refine q1 <| qc H (fun c1 H=>?_) (fun c1 H=>?_)
  ·refine qq ?_
   obtain⟨x1,e1,H⟩:=bb H
   obtain⟨x2,e2,H⟩:=bb H
   obtain⟨x3,e3,H⟩:=bb H
   obtain rfl:=oi H
   exact qr [.a 6 (FV _ _ _ e1 h _ (eZ (ab (aM) (ab (aM) (aA))))),.a 11 (Ii _ _ _ e2 h _ (eZ (ab (bJ) (ab (bJ) (aA))))),.a 13 (Ih _ _ e3 h _ (eZ (ab (pE (E:=af) (l:=[x1,x2]) (cs:=[.int .i64 x1,.int .i64 x2]) (b:=true) (by kernel_rfl) (by kernel_rfl) rfl) (aA))))] <| qt <| ⟨.inl rfl,bD (.int .i64 x3) h (bB (dG))⟩
  ·refine qk <| qq ?_
   obtain⟨x4,e4,H⟩:=bb H
   obtain⟨x5,e5,H⟩:=bb H
   obtain⟨x6,e6,H⟩:=bb H
   obtain rfl:=oi H
   exact qr [.a 4 (Ii _ _ _ e4 h _ (eZ (ab (bJ) (ab (bJ) (aA))))),.a 9 (FV _ _ _ e5 h _ (eZ (ab (aM) (ab (aM) (aA))))),.a 11 (Ih _ _ e6 h _ (eZ (ab (pE (E:=af) (l:=[x4,x5]) (cs:=[.int .i64 x4,.int .i64 x5]) (b:=true) (by kernel_rfl) (by kernel_rfl) rfl) (aA))))] <| qt <| ⟨.inl rfl,bD (.int .i64 x6) h (bB (dG))⟩
end
end Go.Proofs.YtmekcfdllhphlaaDoor
namespace Go.Proofs.YtmekcfdllhphlaaDoor
open Go Go.R
open Go.IntKind (i64 u64 u8 u32)
def xX:ca:=ff [0,1,2,5] [] [8,7] [] []
def ck.f (m:Nat)(i0:Int)(j0:Int)(x0:List aa):Option (Int):=(ix x0 i0).bind fun v0=>(ix x0 j0).bind fun v1=>(bP.f m v0 v1).bind fun x1=>some x1
def ck.fin (h:AHeap)(r:Int)(s:St):Prop:=aP Tryd.prog (s.open xX) Tryd.f85.results.toList=some (.int .i64 r)∧s.h=h
def MO (cf:CallF)(m:Nat):Prop:=∀(i0:Int) (j0:Int) (x0:List aa) (r:Int),ck.f m i0 j0 x0=some r→∀h L (dj bk:Nat),Has h L→L[dj]? = some (bk,.ob [ae.fz x0])→cf 85 [.int .i64 i0,.int .i64 j0,.ptr bk 0] h=some (.int .i64 r,h)
section
variable {cf:CallF}{m:Nat}
theorem kz {a7:FuncId→ca}(ha:a7 85=xX)(uz:Ig cf m)(i0:Int)(j0:Int)(x0:List aa)(h:AHeap)(L:Mem)  {dj bk:Nat}(dZ:L[dj]? = some (bk,.ob [ae.fz x0]))(o:Has h (L)){out:Int}(H:ck.f m i0 j0 x0=some out) :
  ∃r h',bf Tryd.prog a7 cf m 85 [.int .i64 i0,.int .i64 j0,.ptr bk 0] h=some (r,h')∧r=(.int .i64 out)∧h'=h:=by
 refine aq (fn:=Tryd.f85) ha Tryd.func85 (by kernel_rfl) (by kernel_rfl) ?_
 refine aQ (Q:=fun s=>ck.fin h out s) (fun _ _ ⟨h1,h2,h3⟩=>⟨h1,_,h2,rfl,h3⟩) ?_
 have H:_=some out:=H
 unfold ck.f at H
 show cX _ cf xX m _ ⟨[.int .i64 i0,.int .i64 j0,.ptr bk 0,.any],[],h⟩ _
 refine q1 <| qq ?_
 obtain⟨v0,e0,H⟩:=bb H
 obtain⟨v1,e1,H⟩:=bb H
 obtain⟨x1,e2,H⟩:=bb H
 obtain rfl:=oi H
 exact qr [.v 0 (show bg Tryd.prog h 29 (.ptr bk 0)=some (ae.fz x0) from b9 (q:=dj) (cs:=[ae.fz x0]) o dZ (by kernel_rfl)),.v 2 (cH (k:=.i64) (E:=ae) (l:=x0) oa e0),.v 3 (gf  (E:=ae) (l:=x0) h xF xG e0),.v 4 (show bg Tryd.prog h 29 (.ptr bk 0)=some (ae.fz x0) from b9 (q:=dj) (cs:=[ae.fz x0]) o dZ (by kernel_rfl)),.v 6 (cH (k:=.i64) (E:=ae) (l:=x0) oa e1),.v 7 (gf  (E:=ae) (l:=x0) h xF xG e1),.a 8 (uz _ _ _ e2 h _ (eZ (ab (bw (ab (aM) (ab (aM) (ab (bJ) (ab (b7 (E:=af)) (aA)))))) (ab (bw (ab (aM) (ab (aM) (ab (bJ) (ab (b7 (E:=af)) (aA)))))) (aA)))))] <| qt <| ⟨.inl rfl,⟨by kernel_rfl,by kernel_rfl⟩⟩
end
end Go.Proofs.YtmekcfdllhphlaaDoor
