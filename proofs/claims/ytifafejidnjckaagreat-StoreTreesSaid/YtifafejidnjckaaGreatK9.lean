/- Part of the proof: Q121, Q133, Q139, Q146, Q27, Q29, Q32, Q33, Q38, Q42, Q53, Q73, Q78, Q81, Q102, Q112, Q134, Q138, Q11, Q23, Q31, Q36, Q39, Q40, Q41, Q43, Q45, Q67, Q88, Q114, Q119, Q10, Q46, Q55. -/
import Derived.Test.YtifafejidnjckaaGreatK8
set_option linter.unusedVariables false
set_option linter.unusedSimpArgs false
set_option maxRecDepth 100000
open ByteArray renaming mk → abp
open List renaming append_assoc → aa0, cons_append → abm, nil_append → abr
namespace Go.Proofs.YtifafejidnjckaaGreat
open Go Go.R
open Go.IntKind (i64 u64 u8 u32)
def ni:bR:=gC [0,1,2,3,4,10,11,12,13,14,15,16,17,18,19,20,21,22,23,24,28,33,50,58,80,85,103,110,140,151,171,185,199,213] [] [17178820576,17179869124,17179869068,17177771916,17179868940,17175674636,17179869068,17179869068,17179868894,17171480286,17179868894,17179868894,17163091936,17179868650,17179867626,17146313194,17179865578,17112756714,17179867626,17179867626,17179864574,17045646846,17179864574,17179864574,17179860960,17179844576,17179844576,16911409120,17179811808,17179746272,17179811808,17179746272,17179615200,16642744288,17179353056,16105611232,17179615200,17179615200,17179303904,15031820256,17179303908,12884336612,17179336678,8589402086,17179869183] [] []
def aJ.l0 (m:Nat)(au:List Int)(a0:Int)(aX:Int→Int→Option (Int)):Nat→Int→Int→Option (Int × Int)
 | 0,_,_=>none
 | k+1,i0,j0=>if (decide (i0<j0))=true then ((ix au (i64.wrap (jZ .u64 (u64.wrap (i64.wrap (i0+j0))) 1))).bind fun v0=>(ix au a0).bind fun v1=>(aX v0 v1).bind fun r0=>if (decide (r0<0))=true then (aJ.l0 m au a0 aX k (i64.wrap (i64.wrap (jZ .u64 (u64.wrap (i64.wrap (i0+j0))) 1)+1)) j0) else (aJ.l0 m au a0 aX k i0 (i64.wrap (jZ .u64 (u64.wrap (i64.wrap (i0+j0))) 1)))) else (some ((i0,j0)))
def aJ.l1 (m:Nat)(i1:Int):Nat→(List Int)→Int→Option ((List Int) × Int)
 | 0,_,_=>none
 | k+1,bz,k0=>if (decide (k0<(i64.wrap (i1 - 1))))=true then ((ix bz (i64.wrap (k0+1))).bind fun v2=>(ix bz k0).bind fun v3=>(ix bz k0).bind fun v4=>(ix (bz.set k0.toNat v2) (i64.wrap (k0+1))).bind fun v5=>aJ.l1 m i1 k ((bz.set k0.toNat v2).set (i64.wrap (k0+1)).toNat v3) (i64.wrap (k0+1))) else (some ((bz,k0)))
def aJ.l2 (m:Nat)(au:List Int)(m0:Int)(aX:Int→Int→Option (Int)):Nat→Int→Int→Option (Int × Int)
 | 0,_,_=>none
 | k+1,i2,j2=>if (decide (i2<j2))=true then ((ix au m0).bind fun v6=>(ix au (i64.wrap (jZ .u64 (u64.wrap (i64.wrap (i2+j2))) 1))).bind fun v7=>(aX v6 v7).bind fun r1=>if (!(decide (r1<0)))=true then (aJ.l2 m au m0 aX k (i64.wrap (i64.wrap (jZ .u64 (u64.wrap (i64.wrap (i2+j2))) 1)+1)) j2) else (aJ.l2 m au m0 aX k i2 (i64.wrap (jZ .u64 (u64.wrap (i64.wrap (i2+j2))) 1)))) else (some ((i2,j2)))
def aJ.l3 (m:Nat)(i3:Int):Nat→(List Int)→Int→Option ((List Int) × Int)
 | 0,_,_=>none
 | k+1,dU,k2=>if (decide (k2 > i3))=true then ((ix dU (i64.wrap (k2 - 1))).bind fun v8=>(ix dU k2).bind fun v9=>(ix dU k2).bind fun v10=>(ix (dU.set k2.toNat v8) (i64.wrap (k2 - 1))).bind fun v11=>aJ.l3 m i3 k ((dU.set k2.toNat v8).set (i64.wrap (k2 - 1)).toNat v9) (i64.wrap (k2 - 1))) else (some ((dU,k2)))
def aJ.l4 (m:Nat)(au:List Int)(a0:Int)(m0:Int)(b0:Int)(aX:Int→Int→Option (Int)):Nat→Int→Int→Option (Int × Int)
 | 0,_,_=>none
 | k+1,gO,r3=>if (decide (gO<r3))=true then ((ix au (i64.wrap (i64.wrap (i64.wrap (i64.wrap (jZ .u64 (u64.wrap (i64.wrap (a0+b0))) 1)+m0) - 1) - i64.wrap (jZ .u64 (u64.wrap (i64.wrap (gO+r3))) 1)))).bind fun v12=>(ix au (i64.wrap (jZ .u64 (u64.wrap (i64.wrap (gO+r3))) 1))).bind fun RQ=>(aX v12 RQ).bind fun r4=>if (!(decide (r4<0)))=true then (aJ.l4 m au a0 m0 b0 aX k (i64.wrap (i64.wrap (jZ .u64 (u64.wrap (i64.wrap (gO+r3))) 1)+1)) r3) else (aJ.l4 m au a0 m0 b0 aX k gO (i64.wrap (jZ .u64 (u64.wrap (i64.wrap (gO+r3))) 1)))) else (some ((gO,r3)))
def aJ.b (m:Nat)(rec:(List Int)→Int→Int→Int→(Int→Int→Option (Int))→Option ((List Int)))(au:List Int)(a0:Int)(m0:Int)(b0:Int)(aX:Int→Int→Option (Int)):Option ((List Int)):=if ((i64.wrap (m0 - a0))==1)=true then ((aJ.l0 m au a0 aX m m0 b0).bind fun bP=>match bP with | (i1,j1)=>(aJ.l1 m i1 m au a0).bind fun dA=>match dA with | (dr,k1)=>some dr) else (if ((i64.wrap (b0 - m0))==1)=true then ((aJ.l2 m au m0 aX m a0 m0).bind fun lV=>match lV with | (i3,j3)=>(aJ.l3 m i3 m au m0).bind fun AR=>match AR with | (ko,k3)=>some ko) else (jn (fun (σ:Int × Int)=>match σ with | (vE,r2)=>(aJ.l4 m au a0 m0 b0 aX m vE r2).bind fun dB=>match dB with | (fO,r5)=>jn (fun (σ:(List Int))=>match σ with | mA=>jn (fun (σ:(List Int))=>match σ with | qS=>if (decide ((i64.wrap (jZ .u64 (u64.wrap (i64.wrap (a0+b0))) 1))<(i64.wrap (i64.wrap (i64.wrap (jZ .u64 (u64.wrap (i64.wrap (a0+b0))) 1)+m0) - fO))))=true then (if (decide ((i64.wrap (i64.wrap (i64.wrap (jZ .u64 (u64.wrap (i64.wrap (a0+b0))) 1)+m0) - fO))<b0))=true then ((rec qS (i64.wrap (jZ .u64 (u64.wrap (i64.wrap (a0+b0))) 1)) (i64.wrap (i64.wrap (i64.wrap (jZ .u64 (u64.wrap (i64.wrap (a0+b0))) 1)+m0) - fO)) b0 aX).bind fun x2=>some x2) else (some qS)) else (some qS)) fun vF=>(if (decide (a0<fO))=true then (if (decide (fO<(i64.wrap (jZ .u64 (u64.wrap (i64.wrap (a0+b0))) 1))))=true then ((rec mA a0 fO (i64.wrap (jZ .u64 (u64.wrap (i64.wrap (a0+b0))) 1)) aX).bind fun x1=>vF x1) else (vF mA)) else (vF mA))) fun Qq=>(if (decide (fO<m0))=true then (if (decide (m0<(i64.wrap (i64.wrap (i64.wrap (jZ .u64 (u64.wrap (i64.wrap (a0+b0))) 1)+m0) - fO))))=true then ((fK.f m au fO m0 (i64.wrap (i64.wrap (i64.wrap (jZ .u64 (u64.wrap (i64.wrap (a0+b0))) 1)+m0) - fO)) aX).bind fun x0=>Qq x0) else (Qq au)) else (Qq au))) fun BO=>(if (decide (m0 > (i64.wrap (jZ .u64 (u64.wrap (i64.wrap (a0+b0))) 1))))=true then (BO (i64.wrap (i64.wrap (i64.wrap (jZ .u64 (u64.wrap (i64.wrap (a0+b0))) 1)+m0) - b0),i64.wrap (jZ .u64 (u64.wrap (i64.wrap (a0+b0))) 1))) else (BO (a0,m0)))))
def aJ.f (m:Nat):Nat→(List Int)→Int→Int→Int→(Int→Int→Option (Int))→Option ((List Int))
 | 0,_,_,_,_,_=>none
 | k+1,au,a0,m0,b0,aX=>aJ.b m (aJ.f m k) au a0 m0 b0 aX
def aJ.fin (L:Mem)(aM:Nat)(au:List Int)(a0:Int)(m0:Int)(b0:Int)(aX:Int→Int→Option (Int))(r:(List Int))(s:St):Prop:=aE Tryz.prog (s.open ni) Tryz.f146.results.toList=some (.tup [])∧Has s.h ((aM,.sl au.length 1 (af.l r))::L)
def wN (cf:CallF)(m:Nat)(kk:Nat):Prop:=∀(au:List Int) (a0:Int) (m0:Int) (b0:Int) (aX:Int→Int→Option (Int)) (r:(List Int)),aJ.f m kk au a0 m0 b0 aX=some r→∀h L (cF:Nat) (aM:Nat),Has h ((aM,.sl cF 1 (af.l au))::L)→∀(fC:FuncId) (bf aY:List AV),(aN (.fn fC bf) = .fn fC bf)→(∀(h:AHeap) (xs:List AV) (a0:Int) (a1:Int) r,aX a0 a1=some r→aP bH h xs ([.i a0,.i a1]++aY)→cf fC xs h=some (.i r,h))→(∀h K,Has h (K++(L))→aP cC h bf aY)→(∀h,aP cC h aY aY)→∀xs,xs.map aN=[.rs aM 0 cF 1,.i a0,.i m0,.i b0,.fn fC bf]→∃h',cf 146 xs h=some (.tup [],h')∧Has h' ((aM,.sl cF 1 (af.l r))::L)
section
variable {cf:CallF}{m:Nat}
theorem aJ.cb (L:Mem)(aM:Nat)(fC:FuncId)(bf aY:List AV)(au:List Int)(a0:Int)(m0:Int)(b0:Int)(aX:Int→Int→Option (Int))  {kk:Nat}(jy:wN cf m kk)(jw:aN (.fn fC bf) = .fn fC bf)(iS:∀(h:AHeap) (xs:List AV) (a0:Int) (a1:Int) r,aX a0 a1=some r→aP bH h xs ([.i a0,.i a1]++aY)→cf fC xs h=some (.i r,h))(iT:∀h K,Has h (K++(L))→aP cC h bf aY)(jx:∀h,aP cC h aY aY)  : cY Tryz.prog cf ni m (sub [0,1,0,1,1,0,0,0] (bN Tryz.f146)) (fun k (σ:Int × Int)=>aJ.l0 m au a0 aX k σ.1 σ.2) (fun σ s=>match σ with | (i0,j0)=>∃h0,s=⟨.rs aM 0 au.length 1 :: .i a0 :: .any :: .any :: .fn fC bf :: .i i0 :: .i j0::PK [],[],h0⟩∧Has h0 ((aM,.sl au.length 1 (af.l au))::L)) (fun out e s=>(e = .exit 0∧∃i0 j0,(i0,j0)=out∧∃Qr ND TY h0,s=⟨.rs aM 0 au.length 1 :: .i a0 :: .any :: .any::Qr :: .i i0::ND::Cy (TY::Ay []),[],h0⟩∧Has h0 ((aM,.sl au.length 1 (af.l au))::L))):=by
 refine ln (fun _=>rfl) ?_
 rintro k ⟨i0,j0⟩ s out ⟨h0,rfl,o0⟩ H
 have H:aJ.l0 m au a0 aX (k+1) i0 j0=some out:=H
 refine qq <| qq <| q0 <| qc H (fun c1 H=>?_) (fun c1 H=>?_)
 ·refine qk <| qb 1 <| qq <| q0 <| qq ?_
  obtain⟨v0,e0,H⟩:=aW H
  obtain⟨v1,e1,H⟩:=aW H
  obtain⟨r0,e2,H⟩:=aW H
  refine qr [.v 3 (be (k:=.i64) (E:=af) (l:=au) (q:=0) gj o0 rfl e0),.v 4 (cL  (E:=af) (l:=au) (q:=0) o0 rfl A3 e0 rfl),.v 7 (be (k:=.i64) (E:=af) (l:=au) (q:=0) gj o0 rfl e1),.v 8 (cL  (E:=af) (l:=au) (q:=0) o0 rfl A3 e1 rfl),.a 9 (iS _ _ _ _ _ e2 (KE (ak (bO) (ak (bO) (aG))) (iT h0 [(aM,.sl au.length 1 (af.l au))] o0)))] <| qc H (fun c2 H=>?_) (fun c2 H=>?_)
  ·exact q0 <| ⟨(i64.wrap (i64.wrap (jZ .u64 (u64.wrap (i64.wrap (i0+j0))) 1)+1),j0),⟨h0,kr,o0⟩,H⟩
  ·exact q0 <| ⟨(i0,i64.wrap (jZ .u64 (u64.wrap (i64.wrap (i0+j0))) 1)),⟨h0,kr,o0⟩,H⟩
 ·exact qx 0 <| ⟨rfl,i0,j0,oi H,.fn fC bf,.i j0,.bool (decide (i0<j0)),h0,kr,o0⟩
theorem aJ.k8 (L:Mem)(aM:Nat)(fC:FuncId)(bf aY:List AV)(au:List Int)(a0:Int)(m0:Int)(b0:Int)(aX:Int→Int→Option (Int))(i1:Int)  {kk:Nat}(jy:wN cf m kk)(jw:aN (.fn fC bf) = .fn fC bf)(iS:∀(h:AHeap) (xs:List AV) (a0:Int) (a1:Int) r,aX a0 a1=some r→aP bH h xs ([.i a0,.i a1]++aY)→cf fC xs h=some (.i r,h))(iT:∀h K,Has h (K++(L))→aP cC h bf aY)(jx:∀h,aP cC h aY aY)  : cY Tryz.prog cf ni m (sub [0,1,0,1,1,1,0,1,0,0] (bN Tryz.f146)) (fun k (σ:(List Int) × Int)=>aJ.l1 m i1 k σ.1 σ.2) (fun σ s=>match σ with | (bz,k0)=>∃h2,s=⟨.rs aM 0 au.length 1::rN (.i i1 :: .any :: .any :: .i k0::MV []),[],h2⟩∧Has h2 ((aM,.sl au.length 1 (af.l bz))::L)) (fun out e s=>(e = .exit 2∧∃bz k0,(bz,k0)=out∧∃nC Ib vf TZ h2,s=⟨nC::rN (Ib :: .any :: .any::vf::Cy (TZ::Kr [])),[],h2⟩∧Has h2 ((aM,.sl au.length 1 (af.l bz))::L))):=by
 refine ln (fun _=>rfl) ?_
 rintro k ⟨bz,k0⟩ s out ⟨h2,rfl,o2⟩ H
 have H:aJ.l1 m i1 (k+1) bz k0=some out:=H
 refine qq <| qq <| q0 <| qc H (fun c3 H=>?_) (fun c3 H=>?_)
 ·refine qk <| qq <| qb 3 ?_
  obtain⟨v2,e4,H⟩:=aW H
  obtain⟨v3,e5,H⟩:=aW H
  obtain⟨v4,e6,H⟩:=aW H
  obtain⟨h3,e7,o3⟩:=fN (P:=Tryz.prog) (tf:=3) (E:=af) (l:=bz) (q:=0) (v:=v2) (x:=.i v2) o2 rfl Z3 e6 rfl rfl
  obtain⟨v5,e8,H⟩:=aW H
  obtain⟨h4,e9,o4⟩:=fN (P:=Tryz.prog) (tf:=3) (E:=af) (l:=(bz.set k0.toNat v2)) (q:=0) (v:=v3) (x:=.i v3) o3 rfl Z3 e8 rfl rfl
  exact qr [.v 8 (be (k:=.i64) (E:=af) (l:=bz) (q:=0) gj o2 rfl e4),.v 9 (cL  (E:=af) (l:=bz) (q:=0) o2 rfl A3 e4 rfl),.v 12 (be (k:=.i64) (E:=af) (l:=bz) (q:=0) gj o2 rfl e5),.v 13 (cL  (E:=af) (l:=bz) (q:=0) o2 rfl A3 e5 rfl),.v 14 (be (k:=.i64) (E:=af) (l:=bz) (q:=0) gj o2 rfl e6),.w 15 e7,.v 16 (be (k:=.i64) (E:=af) (l:=(bz.set k0.toNat v2)) (q:=0) gj o3 rfl e8),.w 17 e9] <| q0 <| ⟨((bz.set k0.toNat v2).set (i64.wrap (k0+1)).toNat v3,i64.wrap (k0+1)),⟨h4,kr,o4⟩,H⟩
 ·exact qx 2 <| ⟨rfl,bz,k0,oi H,.rs aM 0 au.length 1,.i i1,.i k0,.bool (decide (k0<(i64.wrap (i1 - 1)))),h2,kr,o2⟩
theorem aJ.qT (L:Mem)(aM:Nat)(fC:FuncId)(bf aY:List AV)(au:List Int)(a0:Int)(m0:Int)(b0:Int)(aX:Int→Int→Option (Int))  {kk:Nat}(jy:wN cf m kk)(jw:aN (.fn fC bf) = .fn fC bf)(iS:∀(h:AHeap) (xs:List AV) (a0:Int) (a1:Int) r,aX a0 a1=some r→aP bH h xs ([.i a0,.i a1]++aY)→cf fC xs h=some (.i r,h))(iT:∀h K,Has h (K++(L))→aP cC h bf aY)(jx:∀h,aP cC h aY aY)  : cY Tryz.prog cf ni m (sub [1,0,1,0,1,1,0,0,0] (bN Tryz.f146)) (fun k (σ:Int × Int)=>aJ.l2 m au m0 aX k σ.1 σ.2) (fun σ s=>match σ with | (i2,j2)=>∃h6,s=⟨.rs aM 0 au.length 1 :: .any :: .i m0 :: .any :: .fn fC bf::rN (.i i2 :: .i j2::MU []),[],h6⟩∧Has h6 ((aM,.sl au.length 1 (af.l au))::L)) (fun out e s=>(e = .exit 4∧∃i2 j2,(i2,j2)=out∧∃Qr H8 T0 h6,s=⟨.rs aM 0 au.length 1 :: .any :: .i m0 :: .any::Qr::rN (.i i2::H8::Cy (T0::xg [])),[],h6⟩∧Has h6 ((aM,.sl au.length 1 (af.l au))::L))):=by
 refine ln (fun _=>rfl) ?_
 rintro k ⟨i2,j2⟩ s out ⟨h6,rfl,o6⟩ H
 have H:aJ.l2 m au m0 aX (k+1) i2 j2=some out:=H
 refine qq <| qq <| q0 <| qc H (fun c5 H=>?_) (fun c5 H=>?_)
 ·refine qk <| qb 5 <| qq <| q0 <| qq ?_
  obtain⟨v6,vg,H⟩:=aW H
  obtain⟨v7,yQ,H⟩:=aW H
  obtain⟨r1,wo,H⟩:=aW H
  refine qr [.v 3 (be (k:=.i64) (E:=af) (l:=au) (q:=0) gj o6 rfl vg),.v 4 (cL  (E:=af) (l:=au) (q:=0) o6 rfl A3 vg rfl),.v 7 (be (k:=.i64) (E:=af) (l:=au) (q:=0) gj o6 rfl yQ),.v 8 (cL  (E:=af) (l:=au) (q:=0) o6 rfl A3 yQ rfl),.a 9 (iS _ _ _ _ _ wo (KE (ak (bO) (ak (bO) (aG))) (iT h6 [(aM,.sl au.length 1 (af.l au))] o6)))] <| qc H (fun c6 H=>?_) (fun c6 H=>?_)
  ·exact q0 <| ⟨(i64.wrap (i64.wrap (jZ .u64 (u64.wrap (i64.wrap (i2+j2))) 1)+1),j2),⟨h6,kr,o6⟩,H⟩
  ·exact q0 <| ⟨(i2,i64.wrap (jZ .u64 (u64.wrap (i64.wrap (i2+j2))) 1)),⟨h6,kr,o6⟩,H⟩
 ·exact qx 4 <| ⟨rfl,i2,j2,oi H,.fn fC bf,.i j2,.bool (decide (i2<j2)),h6,kr,o6⟩
theorem aJ.Ix (L:Mem)(aM:Nat)(fC:FuncId)(bf aY:List AV)(au:List Int)(a0:Int)(m0:Int)(b0:Int)(aX:Int→Int→Option (Int))(i3:Int)  {kk:Nat}(jy:wN cf m kk)(jw:aN (.fn fC bf) = .fn fC bf)(iS:∀(h:AHeap) (xs:List AV) (a0:Int) (a1:Int) r,aX a0 a1=some r→aP bH h xs ([.i a0,.i a1]++aY)→cf fC xs h=some (.i r,h))(iT:∀h K,Has h (K++(L))→aP cC h bf aY)(jx:∀h,aP cC h aY aY)  : cY Tryz.prog cf ni m (sub [1,0,1,0,1,1,1,0,1,0,0] (bN Tryz.f146)) (fun k (σ:(List Int) × Int)=>aJ.l3 m i3 k σ.1 σ.2) (fun σ s=>match σ with | (dU,k2)=>∃h8,s=⟨.rs aM 0 au.length 1::xg (.i i3 :: .any :: .any :: .i k2::PJ []),[],h8⟩∧Has h8 ((aM,.sl au.length 1 (af.l dU))::L)) (fun out e s=>(e = .exit 6∧∃dU k2,(dU,k2)=out∧∃nC yO H9 Qs h8,s=⟨nC::xg (yO :: .any :: .any::H9::Cy (Qs::zA [])),[],h8⟩∧Has h8 ((aM,.sl au.length 1 (af.l dU))::L))):=by
 refine ln (fun _=>rfl) ?_
 rintro k ⟨dU,k2⟩ s out ⟨h8,rfl,o8⟩ H
 have H:aJ.l3 m i3 (k+1) dU k2=some out:=H
 refine qq <| qq <| q0 <| qc H (fun c7 H=>?_) (fun c7 H=>?_)
 ·refine qk <| qq <| qb 7 ?_
  obtain⟨v8,AW,H⟩:=aW H
  obtain⟨v9,FZ,H⟩:=aW H
  obtain⟨v10,F0,H⟩:=aW H
  obtain⟨h9,GC,o9⟩:=fN (P:=Tryz.prog) (tf:=3) (E:=af) (l:=dU) (q:=0) (v:=v8) (x:=.i v8) o8 rfl Z3 F0 rfl rfl
  obtain⟨v11,F3,H⟩:=aW H
  obtain⟨h10,GD,BP⟩:=fN (P:=Tryz.prog) (tf:=3) (E:=af) (l:=(dU.set k2.toNat v8)) (q:=0) (v:=v9) (x:=.i v9) o9 rfl Z3 F3 rfl rfl
  exact qr [.v 8 (be (k:=.i64) (E:=af) (l:=dU) (q:=0) gj o8 rfl AW),.v 9 (cL  (E:=af) (l:=dU) (q:=0) o8 rfl A3 AW rfl),.v 12 (be (k:=.i64) (E:=af) (l:=dU) (q:=0) gj o8 rfl FZ),.v 13 (cL  (E:=af) (l:=dU) (q:=0) o8 rfl A3 FZ rfl),.v 14 (be (k:=.i64) (E:=af) (l:=dU) (q:=0) gj o8 rfl F0),.w 15 GC,.v 16 (be (k:=.i64) (E:=af) (l:=(dU.set k2.toNat v8)) (q:=0) gj o9 rfl F3),.w 17 GD] <| q0 <| ⟨((dU.set k2.toNat v8).set (i64.wrap (k2 - 1)).toNat v9,i64.wrap (k2 - 1)),⟨h10,kr,BP⟩,H⟩
 ·exact qx 6 <| ⟨rfl,dU,k2,oi H,.rs aM 0 au.length 1,.i i3,.i k2,.bool (decide (k2 > i3)),h8,kr,o8⟩
theorem aJ.Iy (L:Mem)(aM:Nat)(fC:FuncId)(bf aY:List AV)(au:List Int)(a0:Int)(m0:Int)(b0:Int)(aX:Int→Int→Option (Int))  {kk:Nat}(jy:wN cf m kk)(jw:aN (.fn fC bf) = .fn fC bf)(iS:∀(h:AHeap) (xs:List AV) (a0:Int) (a1:Int) r,aX a0 a1=some r→aP bH h xs ([.i a0,.i a1]++aY)→cf fC xs h=some (.i r,h))(iT:∀h K,Has h (K++(L))→aP cC h bf aY)(jx:∀h,aP cC h aY aY)  : cY Tryz.prog cf ni m (sub [1,1,1,1,1,1,1,0,0,0] (bN Tryz.f146)) (fun k (σ:Int × Int)=>aJ.l4 m au a0 m0 b0 aX k σ.1 σ.2) (fun σ s=>match σ with | (gO,r3)=>∃h13,s=⟨.rs aM 0 au.length 1 :: .i a0 :: .i m0 :: .i b0 :: .fn fC bf::xg (.i (i64.wrap (jZ .u64 (u64.wrap (i64.wrap (a0+b0))) 1)) :: .i (i64.wrap (i64.wrap (jZ .u64 (u64.wrap (i64.wrap (a0+b0))) 1)+m0)) :: .i gO :: .i r3 :: .i (i64.wrap (i64.wrap (i64.wrap (jZ .u64 (u64.wrap (i64.wrap (a0+b0))) 1)+m0) - 1))::Ks []),[],h13⟩∧Has h13 ((aM,.sl au.length 1 (af.l au))::L)) (fun out e s=>(e = .exit 8∧∃gO r3,(gO,r3)=out∧∃Nv CN Qt h13,s=⟨.rs aM 0 au.length 1 :: .i a0 :: .i m0 :: .i b0 :: .fn fC bf::xg (.i (i64.wrap (jZ .u64 (u64.wrap (i64.wrap (a0+b0))) 1)) :: .i (i64.wrap (i64.wrap (jZ .u64 (u64.wrap (i64.wrap (a0+b0))) 1)+m0)) :: .i gO::Nv::CN::wG (Qt::rN [])),[],h13⟩∧Has h13 ((aM,.sl au.length 1 (af.l au))::L))):=by
 refine ln (fun _=>rfl) ?_
 rintro k ⟨gO,r3⟩ s out ⟨h13,rfl,zC⟩ H
 have H:aJ.l4 m au a0 m0 b0 aX (k+1) gO r3=some out:=H
 refine qq <| qq <| q0 <| qc H (fun c9 H=>?_) (fun c9 H=>?_)
 ·refine qk <| qb 9 <| qq <| q0 <| qq ?_
  obtain⟨v12,Il,H⟩:=aW H
  obtain⟨RQ,JO,H⟩:=aW H
  obtain⟨r4,KK,H⟩:=aW H
  refine qr [.v 5 (be (k:=.i64) (E:=af) (l:=au) (q:=0) gj zC rfl Il),.v 6 (cL  (E:=af) (l:=au) (q:=0) zC rfl A3 Il rfl),.v 9 (be (k:=.i64) (E:=af) (l:=au) (q:=0) gj zC rfl JO),.v 10 (cL  (E:=af) (l:=au) (q:=0) zC rfl A3 JO rfl),.a 11 (iS _ _ _ _ _ KK (KE (ak (bO) (ak (bO) (aG))) (iT h13 [(aM,.sl au.length 1 (af.l au))] zC)))] <| qc H (fun vl H=>?_) (fun vl H=>?_)
  ·exact q0 <| ⟨(i64.wrap (i64.wrap (jZ .u64 (u64.wrap (i64.wrap (gO+r3))) 1)+1),r3),⟨h13,kr,zC⟩,H⟩
  ·exact q0 <| ⟨(gO,i64.wrap (jZ .u64 (u64.wrap (i64.wrap (gO+r3))) 1)),⟨h13,kr,zC⟩,H⟩
 ·exact qx 8 <| ⟨rfl,gO,r3,oi H,.i r3,.i (i64.wrap (i64.wrap (i64.wrap (jZ .u64 (u64.wrap (i64.wrap (a0+b0))) 1)+m0) - 1)),.bool (decide (gO<r3)),h13,kr,zC⟩
theorem vG {aS:FuncId→bR}(ha:aS 146=ni)(Qu:Ql cf m)(au:List Int)(a0:Int)(m0:Int)(b0:Int)(aX:Int→Int→Option (Int))(h:AHeap)(L:Mem)(aM:Nat)(fC:FuncId)(bf aY:List AV)  {kk:Nat}(jy:wN cf m kk)(jw:aN (.fn fC bf) = .fn fC bf)(iS:∀(h:AHeap) (xs:List AV) (a0:Int) (a1:Int) r,aX a0 a1=some r→aP bH h xs ([.i a0,.i a1]++aY)→cf fC xs h=some (.i r,h))(iT:∀h K,Has h (K++(L))→aP cC h bf aY)(jx:∀h,aP cC h aY aY)(o:Has h ((aM,.sl au.length 1 (af.l au))::L)){out:(List Int)}(H:aJ.f m (kk+1) au a0 m0 b0 aX=some out) :
  ∃r h',a6 Tryz.prog aS cf m 146 [.rs aM 0 au.length 1,.i a0,.i m0,.i b0,.fn fC bf] h=some (r,h')∧r = .tup []∧Has h' ((aM,.sl au.length 1 (af.l out))::L):=by
 refine aq (fn:=Tryz.f146) ha Tryz.func146 kr kr ?_
 refine aC (Q:=fun s=>aJ.fin L aM au a0 m0 b0 aX out s) (fun _ _ ⟨h1,h2,h3⟩=>⟨h1,_,h2,rfl,h3⟩) ?_
 have H:aJ.b m (aJ.f m kk) au a0 m0 b0 aX=some out:=H
 unfold aJ.b at H
 show cZ _ cf ni m _ ⟨.rs aM 0 au.length 1 :: .i a0 :: .i m0 :: .i b0 :: .fn fC bf::PL [],[],h⟩ _
 refine qq <| qq <| q0 <| qc H (fun c0 H=>?_) (fun c0 H=>?_)
 ·refine q1 <| qq <| q0 <| qq <| qb 0 ?_
  obtain⟨bP,e3,H⟩:=aW H
  refine ql (aJ.cb L aM fC bf aY au a0 m0 b0 aX  jy jw iS iT jx  (m0,b0) _ _ ⟨h,kr,o⟩ e3) ?_
  rintro e s ⟨rfl,i1,j1,rfl,g0,g1,g2,h1,rfl,o1⟩
  try dsimp only at H
  refine qq <| qq <| q0 <| qb 2 ?_
  obtain⟨dA,sL,H⟩:=aW H
  refine ql (aJ.k8 L aM fC bf aY au a0 m0 b0 aX i1  jy jw iS iT jx  (au,a0) _ _ ⟨h1,kr,o1⟩ sL) ?_
  rintro e s ⟨rfl,dr,k1,rfl,g3,g4,g5,g6,h5,rfl,o5⟩
  try dsimp only at H
  obtain rfl:=oi H
  exact qt <| ⟨.inl rfl,⟨kr,he o5⟩⟩
 ·refine qk <| qq <| qq <| q0 <| qc H (fun c4 H=>?_) (fun c4 H=>?_)
  ·refine q1 <| qq <| q0 <| qq <| qb 4 ?_
   obtain⟨lV,CH,H⟩:=aW H
   refine ql (aJ.qT L aM fC bf aY au a0 m0 b0 aX  jy jw iS iT jx  (a0,m0) _ _ ⟨h,kr,o⟩ CH) ?_
   rintro e s ⟨rfl,i3,j3,rfl,g7,g8,g9,h7,rfl,o7⟩
   try dsimp only at H
   refine qq <| qq <| q0 <| qb 6 ?_
   obtain⟨AR,JN,H⟩:=aW H
   refine ql (aJ.Ix L aM fC bf aY au a0 m0 b0 aX i3  jy jw iS iT jx  (au,m0) _ _ ⟨h7,kr,o7⟩ JN) ?_
   rintro e s ⟨rfl,ko,k3,rfl,g10,g11,g12,g13,h11,rfl,BQ⟩
   try dsimp only at H
   obtain rfl:=oi H
   exact qt <| ⟨.inl rfl,⟨kr,he BQ⟩⟩
  ·refine qk <| qq <| q0 <| qq <| q0 <| qq <| q0 ?_
   obtain⟨BO,LU,H⟩:=qH H
   refine qj (S:=fun (σ:Int × Int) s=>match σ with | (vE,r2)=>∃(h12:AHeap),s=⟨.rs aM 0 au.length 1 :: .i a0 :: .i m0 :: .i b0 :: .fn fC bf::xg (.i (i64.wrap (jZ .u64 (u64.wrap (i64.wrap (a0+b0))) 1)) :: .i (i64.wrap (i64.wrap (jZ .u64 (u64.wrap (i64.wrap (a0+b0))) 1)+m0)) :: .i vE :: .i r2::PG []),[],h12⟩∧Has h12 ((aM,.sl au.length 1 (af.l au))::L)) BO H ?_ ?_
   ·rintro⟨vE,r2⟩ s ⟨h12,rfl,Im⟩ H
    have H:=(LU _).symm.trans H
    try dsimp only at H
    refine q1 <| qq <| qb 8 ?_
    obtain⟨dB,JP,H⟩:=aW H
    refine ql (aJ.Iy L aM fC bf aY au a0 m0 b0 aX  jy jw iS iT jx  (vE,r2) _ _ ⟨h12,kr,Im⟩ JP) ?_
    rintro e s ⟨rfl,fO,r5,rfl,g14,g15,g16,h14,rfl,zD⟩
    try dsimp only at H
    refine q1 ?_
    obtain⟨Qq,RR,H⟩:=qH H
    refine qj (S:=fun (σ:(List Int)) s=>match σ with | mA=>∃(g17:AV) (g18:AV) (h16:AHeap),s=⟨.rs aM 0 au.length 1 :: .i a0::g17 :: .i b0 :: .fn fC bf::xg (.i (i64.wrap (jZ .u64 (u64.wrap (i64.wrap (a0+b0))) 1)) :: .any :: .i fO::nU (.i (i64.wrap (i64.wrap (i64.wrap (jZ .u64 (u64.wrap (i64.wrap (a0+b0))) 1)+m0) - fO))::wG [g18,.any,.any])),[],h16⟩∧Has h16 ((aM,.sl au.length 1 (af.l mA))::L)) Qq H ?_ ?_
    ·rintro mA s ⟨g17,g18,h16,rfl,CS⟩ H
     have H:=(RR _).symm.trans H
     try dsimp only at H
     obtain⟨vF,JI,H⟩:=qH H
     refine qj (S:=fun (σ:(List Int)) s=>match σ with | qS=>∃(g19:AV) (g20:AV) (g21:AV) (h18:AHeap),s=⟨.rs aM 0 au.length 1::g19 :: .any :: .i b0 :: .fn fC bf::xg (.i (i64.wrap (jZ .u64 (u64.wrap (i64.wrap (a0+b0))) 1)) :: .any::g20::nU (.i (i64.wrap (i64.wrap (i64.wrap (jZ .u64 (u64.wrap (i64.wrap (a0+b0))) 1)+m0) - fO))::Ay [g21,.any])),[],h18⟩∧Has h18 ((aM,.sl au.length 1 (af.l qS))::L)) vF H ?_ ?_
     ·rintro qS s ⟨g19,g20,g21,h18,rfl,GG⟩ H
      have H:=(JI _).symm.trans H
      try dsimp only at H
      refine qq ?_
      rcases du H with⟨CR,H⟩| ⟨CR,H⟩
      ·refine qr [.b 3 CR] <| qc H (fun GH H=>?_) (fun GH H=>?_)
       ·obtain⟨x2,OD,H⟩:=aW H
        obtain⟨h19,OE,F5⟩:=jy _ _ _ _ _ _ OD h18 _ _ _ (GG) fC bf aY jw iS (fun h' K' o'=>iT h' (K'++[]) (by simpa only [aa0,abm,abr] using o')) jx [.rs aM 0 au.length 1,.i (i64.wrap (jZ .u64 (u64.wrap (i64.wrap (a0+b0))) 1)),.i (i64.wrap (i64.wrap (i64.wrap (jZ .u64 (u64.wrap (i64.wrap (a0+b0))) 1)+m0) - fO)),.i b0,.fn fC bf] cq
        obtain rfl:=oi H
        exact qr [.a 5 OE] <| ⟨.inr rfl,⟨kr,he F5⟩⟩
       ·obtain rfl:=oi H
        exact qk <| ⟨.inr rfl,⟨kr,he GG⟩⟩
      ·obtain rfl:=oi H
       exact qr [.b 3 CR] <| JM <| qk <| ⟨.inr rfl,⟨kr,he GG⟩⟩
     clear JI
     intro NF
     refine qq ?_
     rcases du H with⟨rm,H⟩| ⟨rm,H⟩
     ·refine qr [.b 3 rm] <| qc H (fun F4 H=>?_) (fun F4 H=>?_)
      ·obtain⟨x1,L2,H⟩:=aW H
       obtain⟨h17,KL,GI⟩:=jy _ _ _ _ _ _ L2 h16 _ _ _ (CS) fC bf aY jw iS (fun h' K' o'=>iT h' (K'++[]) (by simpa only [aa0,abm,abr] using o')) jx [.rs aM 0 au.length 1,.i a0,.i fO,.i (i64.wrap (jZ .u64 (u64.wrap (i64.wrap (a0+b0))) 1)),.fn fC bf] cq
       exact qr [.a 5 KL] <| NF x1 _ ⟨.any,.any,.any,h17,kr,GI⟩ H
      ·exact qk <| NF mA _ ⟨.i a0,.i fO,.bool (decide (fO<(i64.wrap (jZ .u64 (u64.wrap (i64.wrap (a0+b0))) 1)))),h16,kr,CS⟩ H
     ·exact qr [.b 3 rm] <| JM <| qk <| NF mA _ ⟨.i a0,.i fO,.bool false,h16,kr,CS⟩ H
    clear RR
    intro NG
    refine qq ?_
    rcases du H with⟨oY,H⟩| ⟨oY,H⟩
    ·refine qr [.b 3 oY] <| qc H (fun vm H=>?_) (fun vm H=>?_)
     ·obtain⟨x0,L3,H⟩:=aW H
      obtain⟨h15,Qv,JQ⟩:=Qu _ _ _ _ _ _ L3 h14 _ _ _ (zD) fC bf aY jw iS (fun h' K' o'=>iT h' (K'++[]) (by simpa only [aa0,abm,abr] using o')) jx [.rs aM 0 au.length 1,.i fO,.i m0,.i (i64.wrap (i64.wrap (i64.wrap (jZ .u64 (u64.wrap (i64.wrap (a0+b0))) 1)+m0) - fO)),.fn fC bf] cq
      exact qr [.a 5 Qv] <| NG x0 _ ⟨.any,.any,h15,kr,JQ⟩ H
     ·exact qk <| NG au _ ⟨.i m0,.bool (decide (m0<(i64.wrap (i64.wrap (i64.wrap (jZ .u64 (u64.wrap (i64.wrap (a0+b0))) 1)+m0) - fO)))),h14,kr,zD⟩ H
    ·exact qr [.b 3 oY] <| JM <| qk <| NG au _ ⟨.i m0,.bool false,h14,kr,zD⟩ H
   clear LU
   intro wL
   refine q1 <| qc H (fun c8 H=>?_) (fun c8 H=>?_)
   ·exact q1 <| q0 <| wL (i64.wrap (i64.wrap (i64.wrap (jZ .u64 (u64.wrap (i64.wrap (a0+b0))) 1)+m0) - b0),i64.wrap (jZ .u64 (u64.wrap (i64.wrap (a0+b0))) 1)) _ ⟨h,kr,o⟩ H
   ·exact q1 <| q0 <| wL (a0,m0) _ ⟨h,kr,o⟩ H
end
def Et:bR:=gC [0,1,2,4,5,6,7,13] [] [249,217,89,231,191,191,231] [] []
def dL.f (m:Nat)(s0:ab)(n0:Int):Option ((List Int) × Int):=(b7.f m s0 ([n0])).bind fun x0=>if (!(x0==0))=true then (some ([],x0)) else ((aF.f m s0 n0).bind fun x1=>(dK.f m x1 (fun y0=>cU.f m y0 s0)).bind fun x2=>some (kZ x2,0))
def dL.fin (L:Mem)(r:(List Int) × Int)(s:St):Prop:=∃av,aE Tryz.prog (s.open Et) Tryz.f27.results.toList=some av∧eR s.h av (.tup [af.fz r.1,.i r.2])
def Wu (cf:CallF)(m:Nat):Prop:=∀(s0:ab) (n0:Int) (r:(List Int) × Int),dL.f m s0 n0=some r→∀h xs,aP bH h xs [.fp [.bool s0.aj,ah.fz s0.aa,af.fz s0.ae] 0,.i n0]→cf 27 xs h=some (.tup [af.fz r.1,.i r.2],h)
section
variable {cf:CallF}{m:Nat}
theorem nL {aS:FuncId→bR}(ha:aS 27=Et)(CT:Qm cf m)(NH:TJ cf m)(NA:TL cf m)(T3:Wl cf m)(NB:Ts cf m)(s0:ab)(n0:Int)(h:AHeap)(L:Mem)  (o:Has h (L)){out:(List Int) × Int}(H:dL.f m s0 n0=some out) :
  ∃r h',a6 Tryz.prog aS cf m 27 [.fp [.bool s0.aj,ah.fz s0.aa,af.fz s0.ae] 0,.i n0] h=some (r,h')∧eR h' r (.tup [af.fz out.1,.i out.2]):=by
 refine aq (fn:=Tryz.f27) ha Tryz.func27 kr kr ?_
 refine aC (Q:=fun s=>dL.fin L out s) (fun _ _ h=>h) ?_
 have H:_=some out:=H
 unfold dL.f at H
 show cZ _ cf Et m _ ⟨.fp [.bool s0.aj,ah.fz s0.aa,af.fz s0.ae] 0 :: .i n0::zA [],[],h⟩ _
 refine qq ?_
 obtain⟨aM,h0,e0,o0⟩:=gM (cs:=[.fp [.bool s0.aj,ah.fz s0.aa,af.fz s0.ae] 0]) o kr
 refine qr [.a 0 e0] <| qq <| qq ?_
 obtain⟨x0,e1,H⟩:=aW H
 refine qr [.v 0 (show bw Tryz.prog h0 31 (.ptr aM 0)=some (.fp [.bool s0.aj,ah.fz s0.aa,af.fz s0.ae] 0) from b6 (q:=0) (cs:=[.fp [.bool s0.aj,ah.fz s0.aa,af.fz s0.ae] 0]) o0 rfl kr),.a 3 (CT _ _ _ e1 h0 _ (lZ (ak (fE (pure_cons (cu) (pure_cons (bL.bp (E:=ah) (l:=s0.aa)) (pure_cons (bL.bp (E:=af) (l:=s0.ae)) (pure_nil))))) (ak (rL (E:=af) (l:=[n0]) (cs:=[.i n0]) (b:=true) kr kr rfl) (aG)))))] <| qq <| q0 <| qc H (fun c0 H=>?_) (fun c0 H=>?_)
 ·refine q1 ?_
  obtain rfl:=oi H
  exact qt <| ⟨.inl rfl,wI (.tup [.nils,.i x0]) h0 (tP (uM (jQ (Km) (jQ (mU) (uL)))))⟩
 ·refine qk <| qq ?_
  obtain⟨x1,e2,H⟩:=aW H
  obtain⟨cr,h1,e3,o2,GX⟩:=NH _ _ _ e2 h0 _ _ o0 (lZ (ak (fE (pure_cons (cu) (pure_cons (bL.bp (E:=ah) (l:=s0.aa)) (pure_cons (bL.bp (E:=af) (l:=s0.ae)) (pure_nil))))) (ak (bO) (aG))))
  obtain⟨x2,e4,H⟩:=aW H
  obtain⟨h2,e5,o3⟩:=NA _ _ _ e4 h1 _ _ _ (o2) 64 [.ptr aM 0] [.fp [.fp [.bool s0.aj,ah.fz s0.aa,af.fz s0.ae] 0] 0] rfl (fun h' tj y0 r hr hx=>T3 y0 _ r hr h' tj hx) (fun h' K' o'=>iR (ak (eC (q:=(K'.length+0)) o' (jG rfl) (ak (fE (pure_cons (cu) (pure_cons (bL.bp (E:=ah) (l:=s0.aa)) (pure_cons (bL.bp (E:=af) (l:=s0.ae)) (pure_nil))))) (aG))) (aG))) (fun h_=>iR (ak (fE (pure_cons (lK (pure_cons (cu) (pure_cons (bL.bp (E:=ah) (l:=s0.aa)) (pure_cons (bL.bp (E:=af) (l:=s0.ae)) (pure_nil))))) (pure_nil))) (aG))) [.rs cr 0 x1.length 1,.fn 64 [.ptr aM 0]] cq
  refine qr [.v 0 (show bw Tryz.prog h0 31 (.ptr aM 0)=some (.fp [.bool s0.aj,ah.fz s0.aa,af.fz s0.ae] 0) from b6 (q:=0) (cs:=[.fp [.bool s0.aj,ah.fz s0.aa,af.fz s0.ae] 0]) o0 rfl kr),.a 2 e3,.a 4 e5] ?_
  have o4:Has h2 ((cr,.sl x2.length 1 (af.l x2))::L):=iJ o3 1
  refine qq ?_
  obtain⟨h3,e6,o5⟩:=HJ (l:=x2) NB o4
  obtain rfl:=oi H
  exact qr [.a 1 e6] <| qq <| q0 <| qt <| ⟨.inl rfl,wI (.tup [.rs cr 0 x2.length 1,.i 0]) h3 (tP (uM (jQ (LQ (E:=af) (l:=(kZ x2)) (q:=0) o5 rfl (fun _=>rfl)) (jQ (mU) (uL)))))⟩
end
def Eu:bR:=gC [0,1,2,6,7,8,9,10,17,27] [] [1016,984,728,999,830,446,1023,999,999] [(6,[(9,none,0)])] [(0,[(6,none,1)]),(3,[(6,none,1)]),(7,[(6,none,1)])]
def cm.f (m:Nat)(s0:ab)(a0:Int)(b0:Int):Option ((List Int) × Int × ab):=(b7.f m s0 ([a0,b0])).bind fun x0=>if (!(x0==0))=true then (some (([]:List Int),x0,s0)) else ((ay.f m s0 a0 b0).bind fun x1=>if (!x1.2.1)=true then ((bl.f m x1.2.2 x1.1).bind fun x2=>some (([]:List Int),8,x2)) else ((cN.f m x1.2.2 x1.1).bind fun x3=>some (x3,0,x1.2.2)))
def cm.fin (L:Mem)(ar:Nat)(an:Nat)(ao:Nat)(s0:ab)(a0:Int)(b0:Int)(r:(List Int) × Int × ab)(s:St):Prop:=∃dz aA aB:Nat,aE Tryz.prog (s.open Eu) Tryz.f29.results.toList=some (.tup [.rs dz 0 r.1.length 1,.i r.2.1])∧Has s.h ((dz,.sl r.1.length 1 (af.l r.1))::(ar,.ob [.bool r.2.2.aj,.rs aA 0 r.2.2.aa.length 4,.rs aB 0 r.2.2.ae.length 1])::(aA,.sl r.2.2.aa.length 4 (ah.l r.2.2.aa))::(aB,.sl r.2.2.ae.length 1 (af.l r.2.2.ae))::L)
def T4 (cf:CallF)(m:Nat):Prop:=∀(s0:ab) (a0:Int) (b0:Int) (r:(List Int) × Int × ab),cm.f m s0 a0 b0=some r→∀h L (ar:Nat) (an:Nat) (ao:Nat),Has h ((ar,.ob [.bool s0.aj,.rs an 0 s0.aa.length 4,.rs ao 0 s0.ae.length 1])::(an,.sl s0.aa.length 4 (ah.l s0.aa))::(ao,.sl s0.ae.length 1 (af.l s0.ae))::L)→∀xs,xs.map aN=[.ptr ar 0,.i a0,.i b0]→∃dz aA aB h',cf 29 xs h=some (.tup [.rs dz 0 r.1.length 1,.i r.2.1],h')∧Has h' ((dz,.sl r.1.length 1 (af.l r.1))::(ar,.ob [.bool r.2.2.aj,.rs aA 0 r.2.2.aa.length 4,.rs aB 0 r.2.2.ae.length 1])::(aA,.sl r.2.2.aa.length 4 (ah.l r.2.2.aa))::(aB,.sl r.2.2.ae.length 1 (af.l r.2.2.ae))::L)
section
variable {cf:CallF}{m:Nat}
theorem nj {aS:FuncId→bR}(ha:aS 29=Eu)(CT:Qm cf m)(NI:TP cf m)(NJ:Tt cf m)(NK:TU cf m)(s0:ab)(a0:Int)(b0:Int)(h:AHeap)(L:Mem)(ar:Nat)(an:Nat)(ao:Nat)  (o:Has h ((ar,.ob [.bool s0.aj,.rs an 0 s0.aa.length 4,.rs ao 0 s0.ae.length 1])::(an,.sl s0.aa.length 4 (ah.l s0.aa))::(ao,.sl s0.ae.length 1 (af.l s0.ae))::L)){out:(List Int) × Int × ab}(H:cm.f m s0 a0 b0=some out) :
  ∃r h',a6 Tryz.prog aS cf m 29 [.ptr ar 0,.i a0,.i b0] h=some (r,h')∧∃dz aA aB:Nat,r = .tup [.rs dz 0 out.1.length 1,.i out.2.1]∧Has h' ((dz,.sl out.1.length 1 (af.l out.1))::(ar,.ob [.bool out.2.2.aj,.rs aA 0 out.2.2.aa.length 4,.rs aB 0 out.2.2.ae.length 1])::(aA,.sl out.2.2.aa.length 4 (ah.l out.2.2.aa))::(aB,.sl out.2.2.ae.length 1 (af.l out.2.2.ae))::L):=by
 refine aq (fn:=Tryz.f29) ha Tryz.func29 kr kr ?_
 refine aC (Q:=fun s=>cm.fin L ar an ao s0 a0 b0 out s) (fun _ _ ⟨h1,dz,aA,aB,h2,h3⟩=>⟨h1,_,h2,dz,aA,aB,rfl,h3⟩) ?_
 have H:_=some out:=H
 unfold cm.f at H
 show cZ _ cf Eu m _ ⟨.ptr ar 0 :: .i a0 :: .i b0::JL [],[],h⟩ _
 refine q1 <| qq <| qq ?_
 obtain⟨x0,e0,H⟩:=aW H
 refine qr [.a 4 (CT _ _ _ e0 h _ (lZ (ak (eC (q:=0) o rfl (ak (gL) (ak (eM (E:=ah) (l:=s0.aa) (q:=1) o rfl (fun _=>rfl)) (ak (eM (E:=af) (l:=s0.ae) (q:=2) o rfl (fun _=>rfl)) (aG))))) (ak (rL (E:=af) (l:=[a0,b0]) (cs:=[.i a0,.i b0]) (b:=true) kr kr rfl) (aG)))))] <| qq <| q0 <| qc H (fun c0 H=>?_) (fun c0 H=>?_)
 ·refine q1 ?_
  have o0:Has h (((0),.sl (([]:List Int).length) 1 (af.l ([]:List Int)))::(ar,.ob [.bool s0.aj,.rs an 0 s0.aa.length 4,.rs ao 0 s0.ae.length 1])::(an,.sl s0.aa.length 4 (ah.l s0.aa))::(ao,.sl s0.ae.length 1 (af.l s0.ae))::L):=Has.nil o 1
  obtain rfl:=oi H
  exact qt <| ⟨.inl rfl,⟨(0),an,ao,kr,he o0⟩⟩
 ·refine qk <| qq ?_
  obtain⟨x1,e1,H⟩:=aW H
  obtain⟨aM,cr,dY,h0,e2,o1⟩:=NI _ _ _ _ e1 h _ _ _ _ (o)  [.ptr ar 0,.i a0,.i b0] cq
  refine qr [.a 3 e2] <| qq <| qq <| q0 <| qc H (fun c1 H=>?_) (fun c1 H=>?_)
  ·refine qq ?_
   obtain⟨h1,e3,o2⟩:=rK (E:=af) (l:=x1.1) (q:=0) o1 rfl
   obtain⟨x2,e4,H⟩:=aW H
   obtain⟨fk,fR,h2,e5,o3⟩:=NJ _ _ _ e4 h1 _ _ _ _ (o2)  [.ptr ar 0,af.fz x1.1] cq
   refine OA [.a 0 e3] [.a 2 e5] <| qq <| q0 ?_
   have o4:Has h2 ((((0)),.sl (([]:List Int).length) 1 (af.l ([]:List Int)))::(ar,.ob [.bool x2.aj,.rs fk 0 x2.aa.length 4,.rs fR 0 x2.ae.length 1])::(fk,.sl x2.aa.length 4 (ah.l x2.aa))::(fR,.sl x2.ae.length 1 (af.l x2.ae))::L):=Has.nil o3 1
   obtain rfl:=oi H
   exact qt <| ⟨.inl rfl,⟨((0)),fk,fR,kr,he o4⟩⟩
  ·refine qk <| qq ?_
   obtain⟨x3,e6,H⟩:=aW H
   obtain⟨fj,h3,e7,o5,GX⟩:=NK _ _ _ e6 h0 _ _ o1 (lZ (ak (eC (q:=1) o1 rfl (ak (gL) (ak (eM (E:=ah) (l:=x1.2.2.aa) (q:=2) o1 rfl (fun _=>rfl)) (ak (eM (E:=af) (l:=x1.2.2.ae) (q:=3) o1 rfl (fun _=>rfl)) (aG))))) (ak (eM (E:=af) (l:=x1.1) (q:=0) o1 rfl (fun _=>rfl)) (aG))))
   refine qr [.a 2 e7] ?_
   have o6:Has h3 ((fj,.sl x3.length 1 (af.l x3))::(ar,.ob [.bool x1.2.2.aj,.rs cr 0 x1.2.2.aa.length 4,.rs dY 0 x1.2.2.ae.length 1])::(cr,.sl x1.2.2.aa.length 4 (ah.l x1.2.2.aa))::(dY,.sl x1.2.2.ae.length 1 (af.l x1.2.2.ae))::L):=iJ o5 1
   obtain rfl:=oi H
   exact qt <| ⟨.inl rfl,⟨fj,cr,dY,kr,he o6⟩⟩
end
def Ev:bR:=gC [0,1,2,6,7,8,9,10,11,12,19,34,37] [] [8184,8120,7096,8135,7806,7806,7423,5631,8135,3583,8135,8135] [(5,[(10,none,0)])] [(0,[(7,none,1)]),(3,[(7,none,1)]),(8,[(7,none,1)]),(10,[(7,none,1)])]
def dM.f (m:Nat)(s0:ab)(a0:Int)(b0:Int):Option (Int × (List Int) × Int × ab):=(b7.f m s0 ([a0,b0])).bind fun x0=>if (!(x0==0))=true then (some (0,([]:List Int),x0,s0)) else ((ay.f m s0 a0 b0).bind fun x1=>(bl.f m x1.2.2 x1.1).bind fun x2=>(cN.f m x2 x1.1).bind fun x3=>if (!x1.2.1)=true then (some (0,([]:List Int),0,x2)) else (if ((x3.length:Int)==0)=true then (some (1,([]:List Int),0,x2)) else (some ((-1:Int),x3,0,x2))))
def dM.fin (L:Mem)(ar:Nat)(an:Nat)(ao:Nat)(s0:ab)(a0:Int)(b0:Int)(r:Int × (List Int) × Int × ab)(s:St):Prop:=∃GJ aA aB:Nat,aE Tryz.prog (s.open Ev) Tryz.f33.results.toList=some (.tup [.i r.1,.rs GJ 0 r.2.1.length 1,.i r.2.2.1])∧Has s.h ((GJ,.sl r.2.1.length 1 (af.l r.2.1))::(ar,.ob [.bool r.2.2.2.aj,.rs aA 0 r.2.2.2.aa.length 4,.rs aB 0 r.2.2.2.ae.length 1])::(aA,.sl r.2.2.2.aa.length 4 (ah.l r.2.2.2.aa))::(aB,.sl r.2.2.2.ae.length 1 (af.l r.2.2.2.ae))::L)
def Wv (cf:CallF)(m:Nat):Prop:=∀(s0:ab) (a0:Int) (b0:Int) (r:Int × (List Int) × Int × ab),dM.f m s0 a0 b0=some r→∀h L (ar:Nat) (an:Nat) (ao:Nat),Has h ((ar,.ob [.bool s0.aj,.rs an 0 s0.aa.length 4,.rs ao 0 s0.ae.length 1])::(an,.sl s0.aa.length 4 (ah.l s0.aa))::(ao,.sl s0.ae.length 1 (af.l s0.ae))::L)→∀xs,xs.map aN=[.ptr ar 0,.i a0,.i b0]→∃GJ aA aB h',cf 33 xs h=some (.tup [.i r.1,.rs GJ 0 r.2.1.length 1,.i r.2.2.1],h')∧Has h' ((GJ,.sl r.2.1.length 1 (af.l r.2.1))::(ar,.ob [.bool r.2.2.2.aj,.rs aA 0 r.2.2.2.aa.length 4,.rs aB 0 r.2.2.2.ae.length 1])::(aA,.sl r.2.2.2.aa.length 4 (ah.l r.2.2.2.aa))::(aB,.sl r.2.2.2.ae.length 1 (af.l r.2.2.2.ae))::L)
section
variable {cf:CallF}{m:Nat}
theorem nM {aS:FuncId→bR}(ha:aS 33=Ev)(CT:Qm cf m)(NI:TP cf m)(NJ:Tt cf m)(NK:TU cf m)(s0:ab)(a0:Int)(b0:Int)(h:AHeap)(L:Mem)(ar:Nat)(an:Nat)(ao:Nat)  (o:Has h ((ar,.ob [.bool s0.aj,.rs an 0 s0.aa.length 4,.rs ao 0 s0.ae.length 1])::(an,.sl s0.aa.length 4 (ah.l s0.aa))::(ao,.sl s0.ae.length 1 (af.l s0.ae))::L)){out:Int × (List Int) × Int × ab}(H:dM.f m s0 a0 b0=some out) :
  ∃r h',a6 Tryz.prog aS cf m 33 [.ptr ar 0,.i a0,.i b0] h=some (r,h')∧∃GJ aA aB:Nat,r = .tup [.i out.1,.rs GJ 0 out.2.1.length 1,.i out.2.2.1]∧Has h' ((GJ,.sl out.2.1.length 1 (af.l out.2.1))::(ar,.ob [.bool out.2.2.2.aj,.rs aA 0 out.2.2.2.aa.length 4,.rs aB 0 out.2.2.2.ae.length 1])::(aA,.sl out.2.2.2.aa.length 4 (ah.l out.2.2.2.aa))::(aB,.sl out.2.2.2.ae.length 1 (af.l out.2.2.2.ae))::L):=by
 refine aq (fn:=Tryz.f33) ha Tryz.func33 kr kr ?_
 refine aC (Q:=fun s=>dM.fin L ar an ao s0 a0 b0 out s) (fun _ _ ⟨h1,GJ,aA,aB,h2,h3⟩=>⟨h1,_,h2,GJ,aA,aB,rfl,h3⟩) ?_
 have H:_=some out:=H
 unfold dM.f at H
 show cZ _ cf Ev m _ ⟨.ptr ar 0 :: .i a0 :: .i b0::Kr [],[],h⟩ _
 refine q1 <| qq <| qq ?_
 obtain⟨x0,e0,H⟩:=aW H
 refine qr [.a 4 (CT _ _ _ e0 h _ (lZ (ak (eC (q:=0) o rfl (ak (gL) (ak (eM (E:=ah) (l:=s0.aa) (q:=1) o rfl (fun _=>rfl)) (ak (eM (E:=af) (l:=s0.ae) (q:=2) o rfl (fun _=>rfl)) (aG))))) (ak (rL (E:=af) (l:=[a0,b0]) (cs:=[.i a0,.i b0]) (b:=true) kr kr rfl) (aG)))))] <| qq <| q0 <| qc H (fun c0 H=>?_) (fun c0 H=>?_)
 ·refine q1 ?_
  have o0:Has h (((0),.sl (([]:List Int).length) 1 (af.l ([]:List Int)))::(ar,.ob [.bool s0.aj,.rs an 0 s0.aa.length 4,.rs ao 0 s0.ae.length 1])::(an,.sl s0.aa.length 4 (ah.l s0.aa))::(ao,.sl s0.ae.length 1 (af.l s0.ae))::L):=Has.nil o 1
  obtain rfl:=oi H
  exact qt <| ⟨.inl rfl,⟨(0),an,ao,kr,he o0⟩⟩
 ·refine qk <| qq ?_
  obtain⟨x1,e1,H⟩:=aW H
  obtain⟨aM,cr,dY,h0,e2,o1⟩:=NI _ _ _ _ e1 h _ _ _ _ (o)  [.ptr ar 0,.i a0,.i b0] cq
  refine qr [.a 3 e2] <| qq ?_
  obtain⟨h1,e3,o2⟩:=rK (E:=af) (l:=x1.1) (q:=0) o1 rfl
  obtain⟨x2,e4,H⟩:=aW H
  obtain⟨fk,fR,h2,e5,o3⟩:=NJ _ _ _ e4 h1 _ _ _ _ (o2)  [.ptr ar 0,af.fz x1.1] cq
  refine OA [.a 0 e3] [.a 2 e5] <| qq ?_
  obtain⟨x3,e6,H⟩:=aW H
  obtain⟨fj,h3,e7,o4,GX⟩:=NK _ _ _ e6 h2 _ _ o3 (lZ (ak (eC (q:=0) o3 rfl (ak (gL) (ak (eM (E:=ah) (l:=x2.aa) (q:=1) o3 rfl (fun _=>rfl)) (ak (eM (E:=af) (l:=x2.ae) (q:=2) o3 rfl (fun _=>rfl)) (aG))))) (ak (km (E:=af)) (aG))))
  refine qr [.a 2 e7] <| qq <| qb 0 <| qq <| q0 <| qc H (fun c1 H=>?_) (fun c1 H=>?_)
  ·refine q1 ?_
   have o5:Has h3 ((((0)),.sl (([]:List Int).length) 1 (af.l ([]:List Int)))::(fj,.sl x3.length 1 (af.l x3))::(ar,.ob [.bool x2.aj,.rs fk 0 x2.aa.length 4,.rs fR 0 x2.ae.length 1])::(fk,.sl x2.aa.length 4 (ah.l x2.aa))::(fR,.sl x2.ae.length 1 (af.l x2.ae))::L):=Has.nil o4 1
   have o6:Has h3 ((((0)),.sl (([]:List Int).length) 1 (af.l ([]:List Int)))::(ar,.ob [.bool x2.aj,.rs fk 0 x2.aa.length 4,.rs fR 0 x2.ae.length 1])::(fk,.sl x2.aa.length 4 (ah.l x2.aa))::(fR,.sl x2.ae.length 1 (af.l x2.ae))::L):=iJ o5 1
   obtain rfl:=oi H
   exact qt <| ⟨.inl rfl,⟨((0)),fk,fR,kr,he o6⟩⟩
  ·refine q1 <| qc H (fun c2 H=>?_) (fun c2 H=>?_)
   ·refine q1 ?_
    have o7:Has h3 (((((0))),.sl (([]:List Int).length) 1 (af.l ([]:List Int)))::(fj,.sl x3.length 1 (af.l x3))::(ar,.ob [.bool x2.aj,.rs fk 0 x2.aa.length 4,.rs fR 0 x2.ae.length 1])::(fk,.sl x2.aa.length 4 (ah.l x2.aa))::(fR,.sl x2.ae.length 1 (af.l x2.ae))::L):=Has.nil o4 1
    have o8:Has h3 (((((0))),.sl (([]:List Int).length) 1 (af.l ([]:List Int)))::(ar,.ob [.bool x2.aj,.rs fk 0 x2.aa.length 4,.rs fR 0 x2.ae.length 1])::(fk,.sl x2.aa.length 4 (ah.l x2.aa))::(fR,.sl x2.ae.length 1 (af.l x2.ae))::L):=iJ o7 1
    obtain rfl:=oi H
    exact qt <| ⟨.inl rfl,⟨(((0))),fk,fR,kr,he o8⟩⟩
   ·obtain rfl:=oi H
    exact qk <| qq <| q0 <| qt <| ⟨.inl rfl,⟨fj,fk,fR,kr,he o4⟩⟩
end
def AY:bR:=gC [0,1,2,4,5,7,8,24,45,61,87,109,114,131] [2] [16377,16345,16281,16375,16217,16375,16089,16375,15833,16375,15353,14329,16375,16361,12265,16361,8169,16375,16375,16375] [] []
def b8.l0 (m:Nat)(n0:ai)(aL:Int):Nat→Int→Option (Sum Bool (Int))
 | 0,_=>none
 | k+1,i0=>if (decide (i0<(n0.args.length:Int)))=true then ((ix n0.args i0).bind fun v0=>if (decide (v0<0))=true then (some (.inl false)) else ((ix n0.args i0).bind fun v1=>if (decide (v1≥aL))=true then (some (.inl false)) else (b8.l0 m n0 aL k (i64.wrap (i0+1))))) else (some (.inr i0))
def b8.f (m:Nat)(n0:ai)(aL:Int):Option (Bool):=if (n0.kind==0)=true then (if (decide (n0.int≥0))=true then (if (n0.label.data.toList==(abp #[]).data.toList)=true then (some ((n0.args.length:Int)==0)) else (some false)) else (some false)) else (if (n0.kind==1)=true then (if (decide (n0.int≥(-1099511627776:Int)))=true then (if (decide (n0.int≤1099511627776))=true then (if (n0.label.data.toList==(abp #[]).data.toList)=true then (some ((n0.args.length:Int)==0)) else (some false)) else (some false)) else (some false)) else (if (n0.kind==2)=true then ((fu.f m n0.label).bind fun x0=>if x0=true then (if (n0.int==0)=true then (some ((n0.args.length:Int)==0)) else (some false)) else (some false)) else (if (n0.kind==4)=true then (if (n0.label.data.toList==(abp #[112,114,111,99]).data.toList)=true then (if (decide (n0.int≥0))=true then (some ((n0.args.length:Int)==0)) else (some false)) else (if (n0.label.data.toList==(abp #[99,101,108,108]).data.toList)=true then (if (decide (n0.int≥0))=true then (some ((n0.args.length:Int)==0)) else (some false)) else (if (n0.label.data.toList==(abp #[112,111,114,116]).data.toList)=true then (if (decide (n0.int≥0))=true then (some ((n0.args.length:Int)==0)) else (some false)) else (some false)))) else (if (n0.kind==3)=true then ((fu.f m n0.label).bind fun x1=>if (!x1)=true then (some false) else (if (!(n0.int==0))=true then (some false) else (if (decide ((n0.args.length:Int)<1))=true then (some false) else (if (decide ((n0.args.length:Int) > 8))=true then (some false) else ((b8.l0 m n0 aL m 0).bind fun bP=>match bP with | .inl r0=>some r0 | .inr i1=>some true))))) else (some false)))))
def b8.fin (L:Mem)(r:Bool)(s:St):Prop:=∃av,aE Tryz.prog (s.open AY) Tryz.f38.results.toList=some av∧eR s.h av (.bool r)
def T5 (cf:CallF)(m:Nat):Prop:=∀(n0:ai) (aL:Int) (r:Bool),b8.f m n0 aL=some r→∀h xs,aP bH h xs [.agg [.i n0.kind,.i n0.int,.str n0.label,af.fz n0.args],.i aL]→cf 38 xs h=some (.bool r,h)
section
variable {cf:CallF}{m:Nat}
theorem b8.cb (L:Mem)(n0:ai)(aL:Int)   : cY Tryz.prog cf AY m (sub [1,0,1,0,1,1,1,1,1,1,1,1,1,0,1,0,1,0,0] (bN Tryz.f38)) (fun k (σ:Int)=>b8.l0 m n0 aL k σ) (fun σ s=>match σ with | i0=>∃h0,s=⟨.any :: .i aL :: .lp 2 0 :: .any :: .i i0::Oz [],[some [.i n0.kind,.i n0.int,.str n0.label,af.fz n0.args]],h0⟩∧Has h0 (L)) (fun out e s=>(e = .exit 1∧∃i0,.inr i0=out∧∃vd KI Nj Qw Yy h0,s=⟨.any::vd::KI :: .any::Nj::JL [Qw,.any],[Yy],h0⟩∧Has h0 (L))∨(e = .ret∧∃r,.inl r=out∧b8.fin L r s)):=by
 refine ln (fun _=>rfl) ?_
 rintro k i0 s out ⟨h0,rfl,o0⟩ H
 have H:b8.l0 m n0 aL (k+1) i0=some out:=H
 refine qq <| qq <| q0 <| qc H (fun NL H=>?_) (fun NL H=>?_)
 ·refine qk <| qq <| qb 2 <| qq ?_
  obtain⟨v0,e2,H⟩:=aW H
  rcases du H with⟨L4,H⟩| ⟨L4,H⟩
  ·exact qr [.v 3 (eK (k:=.i64) (E:=af) (l:=n0.args) gj e2),.v 4 (gK  (E:=af) (l:=n0.args) h0 A3 e2 rfl),.b 6 L4] <| BK <| qq <| q0 <| qt <| Or.inr (⟨rfl,_,oi H,wI (.bool false) h0 (tP (fU))⟩)
  ·obtain⟨v1,e3,H⟩:=aW H
   refine qr [.v 3 (eK (k:=.i64) (E:=af) (l:=n0.args) gj e2),.v 4 (gK  (E:=af) (l:=n0.args) h0 A3 e2 rfl),.b 6 L4,.v 10 (eK (k:=.i64) (E:=af) (l:=n0.args) gj e3),.v 11 (gK  (E:=af) (l:=n0.args) h0 A3 e3 rfl)] <| qc H (fun Yz H=>?_) (fun Yz H=>?_)
   ·exact q1 <| qt <| Or.inr (⟨rfl,_,oi H,wI (.bool false) h0 (tP (fU))⟩)
   ·exact qk <| q0 <| ⟨i64.wrap (i0+1),⟨h0,kr,o0⟩,H⟩
 ·exact qx 1 <| Or.inl (⟨rfl,i0,oi H,.i aL,.lp 2 0,.i i0,.bool (decide (i0<(n0.args.length:Int))),some [.i n0.kind,.i n0.int,.str n0.label,af.fz n0.args],h0,kr,o0⟩)
theorem rZ {aS:FuncId→bR}(ha:aS 38=AY)(CU:Ws cf m)(n0:ai)(aL:Int)(h:AHeap)(L:Mem)  (o:Has h (L)){out:Bool}(H:b8.f m n0 aL=some out) :
  ∃r h',a6 Tryz.prog aS cf m 38 [.agg [.i n0.kind,.i n0.int,.str n0.label,af.fz n0.args],.i aL] h=some (r,h')∧eR h' r (.bool out):=by
 refine aq (fn:=Tryz.f38) ha Tryz.func38 kr kr ?_
 refine aC (Q:=fun s=>b8.fin L out s) (fun _ _ h=>h) ?_
 have H:_=some out:=H
 unfold b8.f at H
 show cZ _ cf AY m _ ⟨.agg [.i n0.kind,.i n0.int,.str n0.label,af.fz n0.args] :: .i aL::Ay [],[none],h⟩ _
 refine q1 <| qq <| qq <| q0 <| qb 0 <| qq <| q0 <| qc H (fun c0 H=>?_) (fun c0 H=>?_)
 ·refine qq ?_
  rcases du H with⟨c1,H⟩| ⟨c1,H⟩
  ·rcases du H with⟨c2,H⟩| ⟨c2,H⟩
   ·exact qr [.b 3 c1,.b 8 c2] <| qt <| fB H
   ·exact qr [.b 3 c1,.b 8 c2] <| qt <| fB H
  ·exact qr [.b 3 c1] <| qt <| fB H
 ·refine q1 <| qc H (fun c3 H=>?_) (fun c3 H=>?_)
  ·refine qq ?_
   rcases du H with⟨c4,H⟩| ⟨c4,H⟩
   ·rcases du H with⟨c5,H⟩| ⟨c5,H⟩
    ·rcases du H with⟨c6,H⟩| ⟨c6,H⟩
     ·exact qr [.b 3 c4,.b 8 c5,.b 13 c6] <| qt <| fB H
     ·exact qr [.b 3 c4,.b 8 c5,.b 13 c6] <| qt <| fB H
    ·exact qr [.b 3 c4,.b 8 c5] <| qt <| fB H
   ·exact qr [.b 3 c4] <| qt <| fB H
  ·refine q1 <| qc H (fun c7 H=>?_) (fun c7 H=>?_)
   ·refine qq ?_
    obtain⟨x0,e0,H⟩:=aW H
    rcases du H with⟨c8,H⟩| ⟨c8,H⟩
    ·rcases du H with⟨c9,H⟩| ⟨c9,H⟩
     ·exact qr [.a 2 (CU _ _ e0 h _ fq),.b 3 c8,.b 8 c9] <| qt <| fB H
     ·exact qr [.a 2 (CU _ _ e0 h _ fq),.b 3 c8,.b 8 c9] <| qt <| fB H
    ·exact qr [.a 2 (CU _ _ e0 h _ fq),.b 3 c8] <| qt <| fB H
   ·refine q1 <| qc H (fun vl H=>?_) (fun vl H=>?_)
    ·refine qq ?_
     rcases du H with⟨oY,H⟩| ⟨oY,H⟩
     ·rcases du H with⟨vm,H⟩| ⟨vm,H⟩
      ·exact qr [.b 3 oY,.b 18 vm] <| qt <| fB H
      ·exact qr [.b 3 oY,.b 18 vm] <| qt <| fB H
     ·rcases du H with⟨vo,H⟩| ⟨vo,H⟩
      ·rcases du H with⟨rm,H⟩| ⟨rm,H⟩
       ·exact qr [.b 3 oY,.b 8 vo,.b 18 rm] <| qt <| fB H
       ·exact qr [.b 3 oY,.b 8 vo,.b 18 rm] <| qt <| fB H
      ·rcases du H with⟨F4,H⟩| ⟨F4,H⟩
       ·rcases du H with⟨GF,H⟩| ⟨GF,H⟩
        ·exact qr [.b 3 oY,.b 8 vo,.b 13 F4,.b 18 GF] <| qt <| fB H
        ·exact qr [.b 3 oY,.b 8 vo,.b 13 F4,.b 18 GF] <| qt <| fB H
       ·exact qr [.b 3 oY,.b 8 vo,.b 13 F4] <| qt <| fB H
    ·refine q1 <| qc H (fun CR H=>?_) (fun CR H=>?_)
     ·refine qq <| qq ?_
      obtain⟨x1,e1,H⟩:=aW H
      rcases du H with⟨GH,H⟩| ⟨GH,H⟩
      ·exact qr [.a 2 (CU _ _ e1 h _ fq),.b 4 GH] <| BK <| qq <| q0 <| qt <| fB H
      ·rcases du H with⟨OF,H⟩| ⟨OF,H⟩
       ·exact qr [.a 2 (CU _ _ e1 h _ fq),.b 4 GH,.b 9 OF] <| BK <| qq <| q0 <| qt <| fB H
       ·rcases du H with⟨Qx,H⟩| ⟨Qx,H⟩
        ·exact qr [.a 2 (CU _ _ e1 h _ fq),.b 4 GH,.b 9 OF,.b 15 Qx] <| BK <| qq <| q0 <| qt <| fB H
        ·refine qr [.a 2 (CU _ _ e1 h _ fq),.b 4 GH,.b 9 OF,.b 15 Qx] <| qc H (fun T6 H=>?_) (fun T6 H=>?_)
         ·exact q1 <| qt <| fB H
         ·refine qk <| qq <| qq <| q0 <| qb 1 ?_
          obtain⟨bP,e4,H⟩:=aW H
          refine ql (b8.cb L n0 aL   0 _ _ ⟨h,kr,o⟩ e4) ?_
          rintro e s (⟨rfl,i1,rfl,g0,g1,g2,g3,g4,h1,rfl,o1⟩| ⟨rfl,r0,rfl,rS⟩)
          ·try dsimp only at H
           exact q1 <| qt <| fB H
          ·try dsimp only at H
           obtain rfl:=oi H
           exact⟨.inl rfl,rS⟩
     ·exact qk <| qq <| q0 <| qt <| fB H
end
def Ew:bR:=gC [0,1,2,3,4,5,6,7,8] [1000000014] [455,199,319] [] []
def dW.f (m:Nat)(s0:ab)(cD:ByteArray)(dI:List Int):Option (Int × Int × ab):=(Ky 1 dI).bind fun x0=>(bT.f m s0 (cH.f m cD dI s0) (ai.mk 3 0 cD x0)).bind fun x1=>some (x1.1,x1.2.1,x1.2.2)
def dW.fin (L:Mem)(ar:Nat)(an:Nat)(ao:Nat)(s0:ab)(cD:ByteArray)(dI:List Int)(r:Int × Int × ab)(s:St):Prop:=∃aA aB:Nat,aE Tryz.prog (s.open Ew) Tryz.f42.results.toList=some (.tup [.i r.1,.i r.2.1])∧Has s.h ((ar,.ob [.bool r.2.2.aj,.rs aA 0 r.2.2.aa.length 4,.rs aB 0 r.2.2.ae.length 1])::(aA,.sl r.2.2.aa.length 4 (ah.l r.2.2.aa))::(aB,.sl r.2.2.ae.length 1 (af.l r.2.2.ae))::L)
def Ww (cf:CallF)(m:Nat):Prop:=∀(s0:ab) (cD:ByteArray) (dI:List Int) (r:Int × Int × ab),dW.f m s0 cD dI=some r→∀h L (ar:Nat) (an:Nat) (ao:Nat),Has h ((ar,.ob [.bool s0.aj,.rs an 0 s0.aa.length 4,.rs ao 0 s0.ae.length 1])::(an,.sl s0.aa.length 4 (ah.l s0.aa))::(ao,.sl s0.ae.length 1 (af.l s0.ae))::L)→∀xs,xs.map aN=[.ptr ar 0,.str cD,af.fz dI]→∃aA aB h',cf 42 xs h=some (.tup [.i r.1,.i r.2.1],h')∧Has h' ((ar,.ob [.bool r.2.2.aj,.rs aA 0 r.2.2.aa.length 4,.rs aB 0 r.2.2.ae.length 1])::(aA,.sl r.2.2.aa.length 4 (ah.l r.2.2.aa))::(aB,.sl r.2.2.ae.length 1 (af.l r.2.2.ae))::L)
section
variable {cf:CallF}{m:Nat}
theorem nk {aS:FuncId→bR}(ha:aS 42=Ew)(Ih:Tr cf m)(y5:OC cf m)(T7:Wt cf m)(s0:ab)(cD:ByteArray)(dI:List Int)(h:AHeap)(L:Mem)(ar:Nat)(an:Nat)(ao:Nat)  (o:Has h ((ar,.ob [.bool s0.aj,.rs an 0 s0.aa.length 4,.rs ao 0 s0.ae.length 1])::(an,.sl s0.aa.length 4 (ah.l s0.aa))::(ao,.sl s0.ae.length 1 (af.l s0.ae))::L)){out:Int × Int × ab}(H:dW.f m s0 cD dI=some out) :
  ∃r h',a6 Tryz.prog aS cf m 42 [.ptr ar 0,.str cD,af.fz dI] h=some (r,h')∧∃aA aB:Nat,r = .tup [.i out.1,.i out.2.1]∧Has h' ((ar,.ob [.bool out.2.2.aj,.rs aA 0 out.2.2.aa.length 4,.rs aB 0 out.2.2.ae.length 1])::(aA,.sl out.2.2.aa.length 4 (ah.l out.2.2.aa))::(aB,.sl out.2.2.ae.length 1 (af.l out.2.2.ae))::L):=by
 refine aq (fn:=Tryz.f42) ha Tryz.func42 kr kr ?_
 refine aC (Q:=fun s=>dW.fin L ar an ao s0 cD dI out s) (fun _ _ ⟨h1,aA,aB,h2,h3⟩=>⟨h1,_,h2,aA,aB,rfl,h3⟩) ?_
 have H:_=some out:=H
 unfold dW.f at H
 show cZ _ cf Ew m _ ⟨.ptr ar 0 :: .str cD::af.fz dI::zA [],[none],h⟩ _
 refine qq ?_
 obtain⟨aM,h0,e0,o0⟩:=gM (cs:=[.ptr ar 0]) o kr
 obtain⟨cr,h1,e1,o1⟩:=gM (cs:=[.str cD]) o0 kr
 obtain⟨dY,h2,e2,o2⟩:=gM (cs:=[af.fz dI]) o1 kr
 refine qr [.a 0 e0,.a 1 e1,.a 2 e2] <| qq <| q0 <| qq ?_
 obtain⟨x0,e3,H⟩:=aW H
 obtain⟨fk,h3,e4,o3⟩:=LS (E:=af) (l:=dI) Ih o2 e3
 obtain⟨h4,e5,o4⟩:=rK (E:=af) (l:=x0) (q:=0) o3 rfl
 obtain⟨x1,e6,H⟩:=aW H
 obtain⟨fR,fj,h5,e7,o5⟩:=y5 _ _ _ _ e6 h4 _ _ _ _ ((fe (fe (fe (fe (fe (fe o4 2) 2) 2) 5) 5) 5)) 82 [.ptr cr 0,.ptr dY 0,.ptr aM 0] [.fp [.str cD] 0,.fp [af.fz dI] 0,.fp [.fp [.bool s0.aj,ah.fz s0.aa,af.fz s0.ae] 0] 0] rfl (fun h' tj  r hr hx=>T7 _ _ _ r hr h' tj hx) (fun h' K' o'=>iR (ak (eC (q:=(K'.length+4)) o' (jG rfl) (ak (kY) (aG))) (ak (eC (q:=(K'.length+3)) o' (jG rfl) (ak (km (E:=af)) (aG))) (ak (eC (q:=(K'.length+5)) o' (jG rfl) (ak (eC (q:=(K'.length+0)) o' (jG rfl) (ak (gL) (ak (eM (E:=ah) (l:=s0.aa) (q:=(K'.length+1)) o' (jG rfl) (fun _=>rfl)) (ak (eM (E:=af) (l:=s0.ae) (q:=(K'.length+2)) o' (jG rfl) (fun _=>rfl)) (aG))))) (aG))) (aG))))) (fun h_=>iR (ak (fE (pure_cons (ov) (pure_nil))) (ak (fE (pure_cons (bL.bp (E:=af) (l:=dI)) (pure_nil))) (ak (fE (pure_cons (lK (pure_cons (cu) (pure_cons (bL.bp (E:=ah) (l:=s0.aa)) (pure_cons (bL.bp (E:=af) (l:=s0.ae)) (pure_nil))))) (pure_nil))) (aG))))) [.ptr ar 0,.fn 82 [.ptr cr 0,.ptr dY 0,.ptr aM 0],.agg [.i 3,.i 0,.str cD,af.fz x0]] cq
 refine PR [] [.v 0 (show bw Tryz.prog h2 31 (.ptr aM 0)=some (.ptr ar 0) from b6 (q:=2) (cs:=[.ptr ar 0]) o2 rfl kr),.v 2 (show bw Tryz.prog h2 9 (.ptr cr 0)=some (.str cD) from b6 (q:=1) (cs:=[.str cD]) o2 rfl kr),.v 3 (show bw Tryz.prog h2 22 (.ptr dY 0)=some (af.fz dI) from b6 (q:=0) (cs:=[af.fz dI]) o2 rfl kr),.a 4 (PS e4 e5),.a 6 e7] [.mk ((HQ Ih o2 (q2:=2) rfl e4).trans (HT (E:=af) (l:=x0) o3 (q:=0) (q2:=3) rfl rfl e5)),.mk ((HQ Ih o2 (q2:=1) rfl e4).trans (HT (E:=af) (l:=x0) o3 (q:=0) (q2:=2) rfl rfl e5))] ?_
 have o6:Has h5 ((ar,.ob [.bool x1.2.2.aj,.rs fR 0 x1.2.2.aa.length 4,.rs fj 0 x1.2.2.ae.length 1])::(fR,.sl x1.2.2.aa.length 4 (ah.l x1.2.2.aa))::(fj,.sl x1.2.2.ae.length 1 (af.l x1.2.2.ae))::(dY,.ob [af.fz dI])::(cr,.ob [.str cD])::L):=iJ o5 5
 have o7:Has h5 ((ar,.ob [.bool x1.2.2.aj,.rs fR 0 x1.2.2.aa.length 4,.rs fj 0 x1.2.2.ae.length 1])::(fR,.sl x1.2.2.aa.length 4 (ah.l x1.2.2.aa))::(fj,.sl x1.2.2.ae.length 1 (af.l x1.2.2.ae))::(dY,.ob [af.fz dI])::L):=iJ o6 4
 have o8:Has h5 ((ar,.ob [.bool x1.2.2.aj,.rs fR 0 x1.2.2.aa.length 4,.rs fj 0 x1.2.2.ae.length 1])::(fR,.sl x1.2.2.aa.length 4 (ah.l x1.2.2.aa))::(fj,.sl x1.2.2.ae.length 1 (af.l x1.2.2.ae))::L):=iJ o7 3
 obtain rfl:=oi H
 exact qt <| ⟨.inl rfl,⟨fR,fj,kr,he o8⟩⟩
end
def Ey:bR:=gC [0,1] [] [2,1] [] []
def dF.f (m:Nat)(x0:ByteArray):Option (Bool):=(gA.f m x0).bind fun x1=>some x1
def dF.fin (L:Mem)(r:Bool)(s:St):Prop:=∃av,aE Tryz.prog (s.open Ey) Tryz.f73.results.toList=some av∧eR s.h av (.bool r)
def Wx (cf:CallF)(m:Nat):Prop:=∀(x0:ByteArray) (r:Bool),dF.f m x0=some r→∀h xs,aP bH h xs [.fp [.str x0] 0]→cf 73 xs h=some (.bool r,h)
section
variable {cf:CallF}{m:Nat}
theorem mB {aS:FuncId→bR}(ha:aS 73=Ey)(rY:RP cf m)(x0:ByteArray)(h:AHeap)(L:Mem)  (o:Has h (L)){out:Bool}(H:dF.f m x0=some out) :
  ∃r h',a6 Tryz.prog aS cf m 73 [.fp [.str x0] 0] h=some (r,h')∧eR h' r (.bool out):=by
 refine aq (fn:=Tryz.f73) ha Tryz.func73 kr kr ?_
 refine aC (Q:=fun s=>dF.fin L out s) (fun _ _ h=>h) ?_
 have H:_=some out:=H
 unfold dF.f at H
 show cZ _ cf Ey m _ ⟨[.fp [.str x0] 0,.any],[],h⟩ _
 refine q1 <| qq ?_
 obtain⟨x1,e0,H⟩:=aW H
 exact qr [.a 1 (rY _ _ e0 h _ fq)] <| qt <| fB H
end
def Ez:bR:=gC [0,1,2,3] [2] [9,7] [] []
def gP.f (m:Nat)(n0:ai)(x0:aI):Option (Bool):=(jh.f m n0 (x0.nodes.length:Int)).bind fun x1=>some (!x1)
def gP.fin (L:Mem)(r:Bool)(s:St):Prop:=∃av,aE Tryz.prog (s.open Ez) Tryz.f78.results.toList=some av∧eR s.h av (.bool r)
def Wy (cf:CallF)(m:Nat):Prop:=∀(n0:ai) (x0:aI) (r:Bool),gP.f m n0 x0=some r→∀h xs,aP bH h xs [.agg [.i n0.kind,.i n0.int,.str n0.label,af.fz n0.args],.fp [ah.fz x0.nodes,.i x0.root] 0]→cf 78 xs h=some (.bool r,h)
section
variable {cf:CallF}{m:Nat}
theorem qU {aS:FuncId→bR}(ha:aS 78=Ez)(T8:Wr cf m)(n0:ai)(x0:aI)(h:AHeap)(L:Mem)  (o:Has h (L)){out:Bool}(H:gP.f m n0 x0=some out) :
  ∃r h',a6 Tryz.prog aS cf m 78 [.agg [.i n0.kind,.i n0.int,.str n0.label,af.fz n0.args],.fp [ah.fz x0.nodes,.i x0.root] 0] h=some (r,h')∧eR h' r (.bool out):=by
 refine aq (fn:=Tryz.f78) ha Tryz.func78 kr kr ?_
 refine aC (Q:=fun s=>gP.fin L out s) (fun _ _ h=>h) ?_
 have H:_=some out:=H
 unfold gP.f at H
 show cZ _ cf Ez m _ ⟨[.agg [.i n0.kind,.i n0.int,.str n0.label,af.fz n0.args],.fp [ah.fz x0.nodes,.i x0.root] 0,.any,.any],[none],h⟩ _
 refine q1 <| qq ?_
 obtain⟨x1,e0,H⟩:=aW H
 exact qr [.a 4 (T8 _ _ _ e0 h _ fq)] <| qt <| fB H
end
def zb:bR:=gC [0,1,2,3,4] [2,3] [19,15] [] []
def dC.f (m:Nat)(m0:ai)(n0:ai):Option (Bool):=(cX.f m m0 n0).bind fun x0=>if (x0==0)=true then ((bE.f m m0.args n0.args).bind fun x1=>some x1) else (some false)
def dC.fin (L:Mem)(r:Bool)(s:St):Prop:=∃av,aE Tryz.prog (s.open zb) Tryz.f102.results.toList=some av∧eR s.h av (.bool r)
def Qy (cf:CallF)(m:Nat):Prop:=∀(m0:ai) (n0:ai) (r:Bool),dC.f m m0 n0=some r→∀h xs,aP bH h xs [.agg [.i m0.kind,.i m0.int,.str m0.label,af.fz m0.args],.agg [.i n0.kind,.i n0.int,.str n0.label,af.fz n0.args]]→cf 102 xs h=some (.bool r,h)
section
variable {cf:CallF}{m:Nat}
theorem qV {aS:FuncId→bR}(ha:aS 102=zb)(sN:Iv cf m)(Qz:P5 cf m)(m0:ai)(n0:ai)(h:AHeap)(L:Mem)  (o:Has h (L)){out:Bool}(H:dC.f m m0 n0=some out) :
  ∃r h',a6 Tryz.prog aS cf m 102 [.agg [.i m0.kind,.i m0.int,.str m0.label,af.fz m0.args],.agg [.i n0.kind,.i n0.int,.str n0.label,af.fz n0.args]] h=some (r,h')∧eR h' r (.bool out):=by
 refine aq (fn:=Tryz.f102) ha Tryz.func102 kr kr ?_
 refine aC (Q:=fun s=>dC.fin L out s) (fun _ _ h=>h) ?_
 have H:_=some out:=H
 unfold dC.f at H
 show cZ _ cf zb m _ ⟨.agg [.i m0.kind,.i m0.int,.str m0.label,af.fz m0.args] :: .agg [.i n0.kind,.i n0.int,.str n0.label,af.fz n0.args]::nU [],[none,none],h⟩ _
 refine q1 <| qq ?_
 obtain⟨x0,e0,H⟩:=aW H
 rcases du H with⟨c0,H⟩| ⟨c0,H⟩
 ·obtain⟨x1,e1,H⟩:=aW H
  exact qr [.a 2 (sN _ _ _ e0 h _ fq),.b 4 c0,.a 9 (Qz _ _ _ e1 h _ fq)] <| qt <| fB H
 ·exact qr [.a 2 (sN _ _ _ e0 h _ fq),.b 4 c0] <| qt <| fB H
end
def pV:bR:=gC [0,1,2,6,7,8,9,13,30,35,54] [] [2032,1984,1856,2000,1984,1984,2032,1776,1984,1472,2000,1984,1984,1952,928,2032,2032] [] []
def bU.l0 (m:Nat)(n0:Int)(aX:Int→Int→Option (Int)):Nat→(List Int)→Int→Int→Option ((List Int) × Int × Int)
 | 0,_,_,_=>none
 | k+1,bz,a0,b0=>if (decide (b0≤n0))=true then ((aZ.f m bz a0 b0 aX).bind fun x0=>bU.l0 m n0 aX k x0 b0 (i64.wrap (b0+20))) else (some ((bz,a0,b0)))
def bU.l2 (m:Nat)(n0:Int)(aX:Int→Int→Option (Int))(bn:Int):Nat→(List Int)→Int→Int→Option ((List Int) × Int × Int)
 | 0,_,_,_=>none
 | k+1,ko,a2,b2=>if (decide (b2≤n0))=true then ((aJ.f m m ko a2 (i64.wrap (a2+bn)) b2 aX).bind fun x2=>bU.l2 m n0 aX bn k x2 b2 (i64.wrap (b2+i64.wrap (2*bn)))) else (some ((ko,a2,b2)))
def bU.l1 (m:Nat)(n0:Int)(aX:Int→Int→Option (Int)):Nat→(List Int)→Int→Option ((List Int) × Int)
 | 0,_,_=>none
 | k+1,dU,bn=>if (decide (bn<n0))=true then ((bU.l2 m n0 aX bn m dU 0 (i64.wrap (2*bn))).bind fun dA=>match dA with | (mA,a3,b3)=>if (decide ((i64.wrap (a3+bn))<n0))=true then ((aJ.f m m mA a3 (i64.wrap (a3+bn)) n0 aX).bind fun x3=>bU.l1 m n0 aX k x3 (i64.wrap (bn*2))) else (bU.l1 m n0 aX k mA (i64.wrap (bn*2)))) else (some ((dU,bn)))
def bU.f (m:Nat)(au:List Int)(n0:Int)(aX:Int→Int→Option (Int)):Option ((List Int)):=(bU.l0 m n0 aX m au 0 20).bind fun bP=>match bP with | (dr,a1,b1)=>(aZ.f m dr a1 n0 aX).bind fun x1=>(bU.l1 m n0 aX m x1 20).bind fun lV=>match lV with | (qS,CV)=>some qS
def bU.fin (L:Mem)(aM:Nat)(au:List Int)(n0:Int)(aX:Int→Int→Option (Int))(r:(List Int))(s:St):Prop:=aE Tryz.prog (s.open pV) Tryz.f134.results.toList=some (.tup [])∧Has s.h ((aM,.sl au.length 1 (af.l r))::L)
def QB (cf:CallF)(m:Nat):Prop:=∀(au:List Int) (n0:Int) (aX:Int→Int→Option (Int)) (r:(List Int)),bU.f m au n0 aX=some r→∀h L (cF:Nat) (aM:Nat),Has h ((aM,.sl cF 1 (af.l au))::L)→∀(jK:FuncId) (bW dp:List AV),(aN (.fn jK bW) = .fn jK bW)→(∀(h:AHeap) (xs:List AV) (a0:Int) (a1:Int) r,aX a0 a1=some r→aP bH h xs ([.i a0,.i a1]++dp)→cf jK xs h=some (.i r,h))→(∀h K,Has h (K++(L))→aP cC h bW dp)→(∀h,aP cC h dp dp)→∀xs,xs.map aN=[.rs aM 0 cF 1,.i n0,.fn jK bW]→∃h',cf 134 xs h=some (.tup [],h')∧Has h' ((aM,.sl cF 1 (af.l r))::L)
section
variable {cf:CallF}{m:Nat}
theorem bU.cb (L:Mem)(aM:Nat)(jK:FuncId)(bW dp:List AV)(au:List Int)(n0:Int)(aX:Int→Int→Option (Int))  (tu:aN (.fn jK bW) = .fn jK bW)(nG:∀(h:AHeap) (xs:List AV) (a0:Int) (a1:Int) r,aX a0 a1=some r→aP bH h xs ([.i a0,.i a1]++dp)→cf jK xs h=some (.i r,h))(tv:∀h K,Has h (K++(L))→aP cC h bW dp)(nH:∀h,aP cC h dp dp)(EC:Nr cf m):cY Tryz.prog cf pV m (sub [1,1,0,0,0] (bN Tryz.f134)) (fun k (σ:(List Int) × Int × Int)=>bU.l0 m n0 aX k σ.1 σ.2.1 σ.2.2) (fun σ s=>match σ with | (bz,a0,b0)=>∃h0,s=⟨.rs aM 0 au.length 1 :: .i n0 :: .fn jK bW :: .i 20 :: .i a0 :: .i b0::Ax [],[],h0⟩∧Has h0 ((aM,.sl au.length 1 (af.l bz))::L)) (fun out e s=>(e = .exit 0∧∃bz a0 b0,(bz,a0,b0)=out∧∃CF vf h0,s=⟨.rs aM 0 au.length 1 :: .i n0 :: .fn jK bW :: .i 20 :: .i a0::CF :: .any::vf::nU [],[],h0⟩∧Has h0 ((aM,.sl au.length 1 (af.l bz))::L))):=by
 refine ln (fun _=>rfl) ?_
 rintro k ⟨bz,a0,b0⟩ s out ⟨h0,rfl,o0⟩ H
 have H:bU.l0 m n0 aX (k+1) bz a0 b0=some out:=H
 refine qq <| qq <| q0 <| qc H (fun c0 H=>?_) (fun c0 H=>?_)
 ·refine qk <| qb 1 <| qq ?_
  obtain⟨x0,e0,H⟩:=aW H
  obtain⟨h1,e1,o1⟩:=EC _ _ _ _ _ e0 h0 _ _ _ (o0) jK bW dp tu nG (fun h' K' o'=>tv h' (K'++[]) (by simpa only [aa0,abm,abr] using o')) nH [.rs aM 0 au.length 1,.i a0,.i b0,.fn jK bW] cq
  exact qr [.a 4 e1] <| qq <| q0 <| q0 <| ⟨(x0,b0,i64.wrap (b0+20)),⟨h1,kr,o1⟩,H⟩
 ·exact qx 0 <| ⟨rfl,bz,a0,b0,oi H,.i b0,.bool (decide (b0≤n0)),h0,kr,o0⟩
theorem bU.qT (L:Mem)(aM:Nat)(jK:FuncId)(bW dp:List AV)(au:List Int)(n0:Int)(aX:Int→Int→Option (Int))(bn:Int)  (tu:aN (.fn jK bW) = .fn jK bW)(nG:∀(h:AHeap) (xs:List AV) (a0:Int) (a1:Int) r,aX a0 a1=some r→aP bH h xs ([.i a0,.i a1]++dp)→cf jK xs h=some (.i r,h))(tv:∀h K,Has h (K++(L))→aP cC h bW dp)(nH:∀h,aP cC h dp dp)(jy:wN cf m m):cY Tryz.prog cf pV m (sub [1,1,1,1,0,0,1,0,1,0,0,0] (bN Tryz.f134)) (fun k (σ:(List Int) × Int × Int)=>bU.l2 m n0 aX bn k σ.1 σ.2.1 σ.2.2) (fun σ s=>match σ with | (ko,a2,b2)=>∃h5,s=⟨.rs aM 0 au.length 1 :: .i n0 :: .fn jK bW :: .i bn :: .i a2 :: .i b2::Ax [],[],h5⟩∧Has h5 ((aM,.sl au.length 1 (af.l ko))::L)) (fun out e s=>(e = .exit 4∧∃ko a2 b2,(ko,a2,b2)=out∧∃CF NM h5,s=⟨.rs aM 0 au.length 1 :: .i n0 :: .fn jK bW :: .i bn :: .i a2::CF::nU [NM,.any],[],h5⟩∧Has h5 ((aM,.sl au.length 1 (af.l ko))::L))):=by
 refine ln (fun _=>rfl) ?_
 rintro k ⟨ko,a2,b2⟩ s out ⟨h5,rfl,o5⟩ H
 have H:bU.l2 m n0 aX bn (k+1) ko a2 b2=some out:=H
 refine qq <| qq <| q0 <| qc H (fun c2 H=>?_) (fun c2 H=>?_)
 ·refine qk <| qb 5 <| qq ?_
  obtain⟨x2,e5,H⟩:=aW H
  obtain⟨h6,e6,o6⟩:=jy _ _ _ _ _ _ e5 h5 _ _ _ (o5) jK bW dp tu nG (fun h' K' o'=>tv h' (K'++[]) (by simpa only [aa0,abm,abr] using o')) nH [.rs aM 0 au.length 1,.i a2,.i (i64.wrap (a2+bn)),.i b2,.fn jK bW] cq
  exact qr [.a 7 e6] <| qq <| q0 <| q0 <| ⟨(x2,b2,i64.wrap (b2+i64.wrap (2*bn))),⟨h6,kr,o6⟩,H⟩
 ·exact qx 4 <| ⟨rfl,ko,a2,b2,oi H,.i b2,.bool (decide (b2≤n0)),h5,kr,o5⟩
theorem bU.k8 (L:Mem)(aM:Nat)(jK:FuncId)(bW dp:List AV)(au:List Int)(n0:Int)(aX:Int→Int→Option (Int))  (tu:aN (.fn jK bW) = .fn jK bW)(nG:∀(h:AHeap) (xs:List AV) (a0:Int) (a1:Int) r,aX a0 a1=some r→aP bH h xs ([.i a0,.i a1]++dp)→cf jK xs h=some (.i r,h))(tv:∀h K,Has h (K++(L))→aP cC h bW dp)(nH:∀h,aP cC h dp dp)(jy:wN cf m m):cY Tryz.prog cf pV m (sub [1,1,1,1,0,0] (bN Tryz.f134)) (fun k (σ:(List Int) × Int)=>bU.l1 m n0 aX k σ.1 σ.2) (fun σ s=>match σ with | (dU,bn)=>∃h4,s=⟨.rs aM 0 au.length 1 :: .i n0 :: .fn jK bW :: .i bn::JL [],[],h4⟩∧Has h4 ((aM,.sl au.length 1 (af.l dU))::L)) (fun out e s=>(e = .exit 2∧∃dU bn,(dU,bn)=out∧∃nC vd KI H3 Iq h4,s=⟨nC::vd::KI::H3::rN [Iq,.any,.any],[],h4⟩∧Has h4 ((aM,.sl au.length 1 (af.l dU))::L))):=by
 refine ln (fun _=>rfl) ?_
 rintro k ⟨dU,bn⟩ s out ⟨h4,rfl,o4⟩ H
 have H:bU.l1 m n0 aX (k+1) dU bn=some out:=H
 refine qq <| qq <| q0 <| qc H (fun c1 H=>?_) (fun c1 H=>?_)
 ·refine qk <| qb 3 <| qq <| q0 <| qq <| qb 4 ?_
  obtain⟨dA,e7,H⟩:=aW H
  refine ql (bU.qT L aM jK bW dp au n0 aX bn  tu nG tv nH jy (dU,0,i64.wrap (2*bn)) _ _ ⟨h4,kr,o4⟩ e7) ?_
  rintro e s ⟨rfl,mA,a3,b3,rfl,g2,g3,h7,rfl,o7⟩
  try dsimp only at H
  refine qq <| qq <| q0 <| qq <| q0 <| qc H (fun c3 H=>?_) (fun c3 H=>?_)
  ·obtain⟨x3,e8,H⟩:=aW H
   obtain⟨h8,e9,o8⟩:=jy _ _ _ _ _ _ e8 h7 _ _ _ (o7) jK bW dp tu nG (fun h' K' o'=>tv h' (K'++[]) (by simpa only [aa0,abm,abr] using o')) nH [.rs aM 0 au.length 1,.i a3,.i (i64.wrap (a3+bn)),.i n0,.fn jK bW] cq
   exact qr [.a 5 e9] <| q0 <| ⟨(x3,i64.wrap (bn*2)),⟨h8,kr,o8⟩,H⟩
  ·exact qk <| q0 <| ⟨(mA,i64.wrap (bn*2)),⟨h7,kr,o7⟩,H⟩
 ·exact qx 2 <| ⟨rfl,dU,bn,oi H,.rs aM 0 au.length 1,.i n0,.fn jK bW,.i bn,.bool (decide (bn<n0)),h4,kr,o4⟩
theorem zc {aS:FuncId→bR}(ha:aS 134=pV)(EC:Nr cf m)(jy:wN cf m m)(au:List Int)(n0:Int)(aX:Int→Int→Option (Int))(h:AHeap)(L:Mem)(aM:Nat)(jK:FuncId)(bW dp:List AV)  (tu:aN (.fn jK bW) = .fn jK bW)(nG:∀(h:AHeap) (xs:List AV) (a0:Int) (a1:Int) r,aX a0 a1=some r→aP bH h xs ([.i a0,.i a1]++dp)→cf jK xs h=some (.i r,h))(tv:∀h K,Has h (K++(L))→aP cC h bW dp)(nH:∀h,aP cC h dp dp)(o:Has h ((aM,.sl au.length 1 (af.l au))::L)){out:(List Int)}(H:bU.f m au n0 aX=some out) :
  ∃r h',a6 Tryz.prog aS cf m 134 [.rs aM 0 au.length 1,.i n0,.fn jK bW] h=some (r,h')∧r = .tup []∧Has h' ((aM,.sl au.length 1 (af.l out))::L):=by
 refine aq (fn:=Tryz.f134) ha Tryz.func134 kr kr ?_
 refine aC (Q:=fun s=>bU.fin L aM au n0 aX out s) (fun _ _ ⟨h1,h2,h3⟩=>⟨h1,_,h2,rfl,h3⟩) ?_
 have H:_=some out:=H
 unfold bU.f at H
 show cZ _ cf pV m _ ⟨.rs aM 0 au.length 1 :: .i n0 :: .fn jK bW::xg [],[],h⟩ _
 refine q1 <| qq <| q0 <| qq <| qb 0 ?_
 obtain⟨bP,e2,H⟩:=aW H
 refine ql (bU.cb L aM jK bW dp au n0 aX  tu nG tv nH EC (au,0,20) _ _ ⟨h,kr,o⟩ e2) ?_
 rintro e s ⟨rfl,dr,a1,b1,rfl,g0,g1,h2,rfl,o2⟩
 try dsimp only at H
 refine qq ?_
 obtain⟨x1,e3,H⟩:=aW H
 obtain⟨h3,e4,o3⟩:=EC _ _ _ _ _ e3 h2 _ _ _ (o2) jK bW dp tu nG (fun h' K' o'=>tv h' (K'++[]) (by simpa only [aa0,abm,abr] using o')) nH [.rs aM 0 au.length 1,.i a1,.i n0,.fn jK bW] cq
 refine qr [.a 4 e4] <| qb 2 ?_
 obtain⟨lV,sL,H⟩:=aW H
 refine ql (bU.k8 L aM jK bW dp au n0 aX  tu nG tv nH jy (x1,20) _ _ ⟨h3,kr,o3⟩ sL) ?_
 rintro e s ⟨rfl,qS,CV,rfl,g4,g5,g6,g7,g8,h9,rfl,o9⟩
 try dsimp only at H
 obtain rfl:=oi H
 exact⟨.inr rfl,⟨kr,he o9⟩⟩
end
def AZ:bR:=gC [0,1,2,3,26,31,43] [1] [125,109,123,117,85,117,53,123,123] [] []
def bG.l0 (m:Nat)(t0:aI):Nat→Int→Option (Sum Bool (Int))
 | 0,_=>none
 | k+1,i0=>if (decide (i0<(t0.nodes.length:Int)))=true then ((ix t0.nodes i0).bind fun v0=>(b8.f m v0 (t0.nodes.length:Int)).bind fun x0=>if (!x0)=true then (some (.inl false)) else (bG.l0 m t0 k (i64.wrap (i0+1)))) else (some (.inr i0))
def bG.f (m:Nat)(t0:aI):Option (Bool):=if (decide ((t0.nodes.length:Int)<1))=true then (some false) else (if (decide ((t0.nodes.length:Int) > 8000))=true then (some false) else (if (decide (t0.root<0))=true then (some false) else (if (decide (t0.root≥(t0.nodes.length:Int)))=true then (some false) else ((bG.l0 m t0 m 0).bind fun bP=>match bP with | .inl r0=>some r0 | .inr i1=>some true))))
def bG.fin (L:Mem)(r:Bool)(s:St):Prop:=∃av,aE Tryz.prog (s.open AZ) Tryz.f23.results.toList=some av∧eR s.h av (.bool r)
def Wz (cf:CallF)(m:Nat):Prop:=∀(t0:aI) (r:Bool),bG.f m t0=some r→∀h xs,aP bH h xs [.agg [ah.fz t0.nodes,.i t0.root]]→cf 23 xs h=some (.bool r,h)
section
variable {cf:CallF}{m:Nat}
theorem bG.cb (L:Mem)(t0:aI)  (NN:T5 cf m):cY Tryz.prog cf AZ m (sub [1,1,0,1,0,0] (bN Tryz.f23)) (fun k (σ:Int)=>bG.l0 m t0 k σ) (fun σ s=>match σ with | i0=>∃h0,s=⟨.any :: .lp 1 0 :: .any :: .i i0::nU [],[some [ah.fz t0.nodes,.i t0.root]],h0⟩∧Has h0 (L)) (fun out e s=>(e = .exit 0∧∃i0,.inr i0=out∧∃vd FU Ir YA h0,s=⟨[.any,vd,.any,FU,.any,Ir,.any],[YA],h0⟩∧Has h0 (L))∨(e = .ret∧∃r,.inl r=out∧bG.fin L r s)):=by
 refine ln (fun _=>rfl) ?_
 rintro k i0 s out ⟨h0,rfl,o0⟩ H
 have H:bG.l0 m t0 (k+1) i0=some out:=H
 refine qq <| qq <| q0 <| qc H (fun c7 H=>?_) (fun c7 H=>?_)
 ·refine qk <| qq <| qb 1 <| qq ?_
  obtain⟨v0,e0,H⟩:=aW H
  obtain⟨x0,e1,H⟩:=aW H
  refine qr [.v 3 (eK (k:=.i64) (E:=ah) (l:=t0.nodes) tS e0),.v 4 (ke  (E:=ah) (l:=t0.nodes) h0 BM BN e0),.a 8 (NN _ _ _ e1 h0 _ fq)] <| qc H (fun c8 H=>?_) (fun c8 H=>?_)
  ·exact q1 <| qt <| Or.inr (⟨rfl,_,oi H,wI (.bool false) h0 (tP (fU))⟩)
  ·exact qk <| q0 <| ⟨i64.wrap (i0+1),⟨h0,kr,o0⟩,H⟩
 ·exact qx 0 <| Or.inl (⟨rfl,i0,oi H,.lp 1 0,.i i0,.bool (decide (i0<(t0.nodes.length:Int))),some [ah.fz t0.nodes,.i t0.root],h0,kr,o0⟩)
theorem r6 {aS:FuncId→bR}(ha:aS 23=AZ)(NN:T5 cf m)(t0:aI)(h:AHeap)(L:Mem)  (o:Has h (L)){out:Bool}(H:bG.f m t0=some out) :
  ∃r h',a6 Tryz.prog aS cf m 23 [.agg [ah.fz t0.nodes,.i t0.root]] h=some (r,h')∧eR h' r (.bool out):=by
 refine aq (fn:=Tryz.f23) ha Tryz.func23 kr kr ?_
 refine aC (Q:=fun s=>bG.fin L out s) (fun _ _ h=>h) ?_
 have H:_=some out:=H
 unfold bG.f at H
 show cZ _ cf AZ m _ ⟨.agg [ah.fz t0.nodes,.i t0.root]::zA [],[none],h⟩ _
 refine q1 <| qq <| qq ?_
 rcases du H with⟨c0,H⟩| ⟨c0,H⟩
 ·exact qr [.b 4 c0] <| BK <| qq <| q0 <| qt <| fB H
 ·rcases du H with⟨c2,H⟩| ⟨c2,H⟩
  ·exact qr [.b 4 c0,.b 10 c2] <| BK <| qq <| q0 <| qt <| fB H
  ·rcases du H with⟨c4,H⟩| ⟨c4,H⟩
   ·exact qr [.b 4 c0,.b 10 c2,.b 15 c4] <| BK <| qq <| q0 <| qt <| fB H
   ·refine qr [.b 4 c0,.b 10 c2,.b 15 c4] <| qc H (fun c6 H=>?_) (fun c6 H=>?_)
    ·exact q1 <| qt <| fB H
    ·refine qk <| qq <| qq <| q0 <| qb 0 ?_
     obtain⟨bP,e2,H⟩:=aW H
     refine ql (bG.cb L t0  NN 0 _ _ ⟨h,kr,o⟩ e2) ?_
     rintro e s (⟨rfl,i1,rfl,g0,g1,g2,g3,h1,rfl,o1⟩| ⟨rfl,r0,rfl,rS⟩)
     ·try dsimp only at H
      exact q1 <| qt <| fB H
     ·try dsimp only at H
      obtain rfl:=oi H
      exact⟨.inl rfl,rS⟩
end
def ED:bR:=gC [0,1,3,4,5] [] [26,7] [] []
def eH.f (m:Nat)(s0:ab)(a0:ByteArray):Option (Int × Int × ab):=(bT.f m s0 (dF.f m a0) (ai.mk 2 0 a0 ([]))).bind fun x0=>some (x0.1,x0.2.1,x0.2.2)
def eH.fin (L:Mem)(ar:Nat)(an:Nat)(ao:Nat)(s0:ab)(a0:ByteArray)(r:Int × Int × ab)(s:St):Prop:=∃aA aB:Nat,aE Tryz.prog (s.open ED) Tryz.f31.results.toList=some (.tup [.i r.1,.i r.2.1])∧Has s.h ((ar,.ob [.bool r.2.2.aj,.rs aA 0 r.2.2.aa.length 4,.rs aB 0 r.2.2.ae.length 1])::(aA,.sl r.2.2.aa.length 4 (ah.l r.2.2.aa))::(aB,.sl r.2.2.ae.length 1 (af.l r.2.2.ae))::L)
def WA (cf:CallF)(m:Nat):Prop:=∀(s0:ab) (a0:ByteArray) (r:Int × Int × ab),eH.f m s0 a0=some r→∀h L (ar:Nat) (an:Nat) (ao:Nat),Has h ((ar,.ob [.bool s0.aj,.rs an 0 s0.aa.length 4,.rs ao 0 s0.ae.length 1])::(an,.sl s0.aa.length 4 (ah.l s0.aa))::(ao,.sl s0.ae.length 1 (af.l s0.ae))::L)→∀xs,xs.map aN=[.ptr ar 0,.str a0]→∃aA aB h',cf 31 xs h=some (.tup [.i r.1,.i r.2.1],h')∧Has h' ((ar,.ob [.bool r.2.2.aj,.rs aA 0 r.2.2.aa.length 4,.rs aB 0 r.2.2.ae.length 1])::(aA,.sl r.2.2.aa.length 4 (ah.l r.2.2.aa))::(aB,.sl r.2.2.ae.length 1 (af.l r.2.2.ae))::L)
section
variable {cf:CallF}{m:Nat}
theorem nN {aS:FuncId→bR}(ha:aS 31=ED)(y5:OC cf m)(T9:Wx cf m)(s0:ab)(a0:ByteArray)(h:AHeap)(L:Mem)(ar:Nat)(an:Nat)(ao:Nat)  (o:Has h ((ar,.ob [.bool s0.aj,.rs an 0 s0.aa.length 4,.rs ao 0 s0.ae.length 1])::(an,.sl s0.aa.length 4 (ah.l s0.aa))::(ao,.sl s0.ae.length 1 (af.l s0.ae))::L)){out:Int × Int × ab}(H:eH.f m s0 a0=some out) :
  ∃r h',a6 Tryz.prog aS cf m 31 [.ptr ar 0,.str a0] h=some (r,h')∧∃aA aB:Nat,r = .tup [.i out.1,.i out.2.1]∧Has h' ((ar,.ob [.bool out.2.2.aj,.rs aA 0 out.2.2.aa.length 4,.rs aB 0 out.2.2.ae.length 1])::(aA,.sl out.2.2.aa.length 4 (ah.l out.2.2.aa))::(aB,.sl out.2.2.ae.length 1 (af.l out.2.2.ae))::L):=by
 refine aq (fn:=Tryz.f31) ha Tryz.func31 kr kr ?_
 refine aC (Q:=fun s=>eH.fin L ar an ao s0 a0 out s) (fun _ _ ⟨h1,aA,aB,h2,h3⟩=>⟨h1,_,h2,aA,aB,rfl,h3⟩) ?_
 have H:_=some out:=H
 unfold eH.f at H
 show cZ _ cf ED m _ ⟨.ptr ar 0 :: .str a0::nU [],[],h⟩ _
 refine qq ?_
 obtain⟨aM,h0,e0,o0⟩:=gM (cs:=[.str a0]) o kr
 refine qr [.a 0 e0] <| qq ?_
 obtain⟨x0,e1,H⟩:=aW H
 obtain⟨cr,dY,h1,e2,o1⟩:=y5 _ _ _ _ e1 h0 _ _ _ _ ((fe (fe (fe (fe o0 0) 3) 3) 3)) 73 [.ptr aM 0] [.fp [.str a0] 0] rfl (fun h' tj  r hr hx=>T9 _ r hr h' tj hx) (fun h' K' o'=>iR (ak (eC (q:=(K'.length+3)) o' (jG rfl) (ak (kY) (aG))) (aG))) (fun h_=>iR (ak (fE (pure_cons (ov) (pure_nil))) (aG))) [.ptr ar 0,.fn 73 [.ptr aM 0],.agg [.i 2,.i 0,.str a0,.nils]] (gw (rfl) (gw (rfl) (gw (oy (uP (fV (mV) (fV (mV) (fV (uN) (fV (tQ (E:=af)) (uO))))))) cq)))
 refine qr [.v 2 (show bw Tryz.prog h0 9 (.ptr aM 0)=some (.str a0) from b6 (q:=0) (cs:=[.str a0]) o0 rfl kr),.a 4 e2] ?_
 have o2:Has h1 ((ar,.ob [.bool x0.2.2.aj,.rs cr 0 x0.2.2.aa.length 4,.rs dY 0 x0.2.2.ae.length 1])::(cr,.sl x0.2.2.aa.length 4 (ah.l x0.2.2.aa))::(dY,.sl x0.2.2.ae.length 1 (af.l x0.2.2.ae))::L):=iJ o1 3
 obtain rfl:=oi H
 exact qt <| ⟨.inl rfl,⟨cr,dY,kr,he o2⟩⟩
end
def EE:bR:=gC [0,1,2] [] [5,3] [] []
def gf.f (m:Nat)(t0:aI):Option (Bool):=if (decide ((t0.nodes.length:Int)≥1))=true then (if (decide ((t0.nodes.length:Int)≤8000))=true then (if (decide (t0.root≥0))=true then (if (decide (t0.root<(t0.nodes.length:Int)))=true then ((iu.f m t0.nodes (fun y0=>gP.f m y0 t0)).bind fun x0=>some (!x0)) else (some false)) else (some false)) else (some false)) else (some false)
def gf.fin (L:Mem)(r:Bool)(s:St):Prop:=∃av,aE Tryz.prog (s.open EE) Tryz.f36.results.toList=some av∧eR s.h av (.bool r)
def Ua (cf:CallF)(m:Nat):Prop:=∀(t0:aI) (r:Bool),gf.f m t0=some r→∀h xs,aP bH h xs [.agg [ah.fz t0.nodes,.i t0.root]]→cf 36 xs h=some (.bool r,h)
section
variable {cf:CallF}{m:Nat}
theorem tw {aS:FuncId→bR}(ha:aS 36=EE)(Ub:Wn cf m)(Uc:Wy cf m)(t0:aI)(h:AHeap)(L:Mem)  (o:Has h (L)){out:Bool}(H:gf.f m t0=some out) :
  ∃r h',a6 Tryz.prog aS cf m 36 [.agg [ah.fz t0.nodes,.i t0.root]] h=some (r,h')∧eR h' r (.bool out):=by
 refine aq (fn:=Tryz.f36) ha Tryz.func36 kr kr ?_
 refine aC (Q:=fun s=>gf.fin L out s) (fun _ _ h=>h) ?_
 have H:_=some out:=H
 unfold gf.f at H
 show cZ _ cf EE m _ ⟨[.agg [ah.fz t0.nodes,.i t0.root],.any,.any],[],h⟩ _
 refine qq ?_
 obtain⟨aM,h0,e0,o0⟩:=gM (cs:=[ah.fz t0.nodes,.i t0.root]) o kr
 refine qr [.a 0 e0] <| qq ?_
 rcases du H with⟨c0,H⟩| ⟨c0,H⟩
 ·rcases du H with⟨c1,H⟩| ⟨c1,H⟩
  ·rcases du H with⟨c2,H⟩| ⟨c2,H⟩
   ·rcases du H with⟨c3,H⟩| ⟨c3,H⟩
    ·obtain⟨x0,e1,H⟩:=aW H
     refine qr [.v 1 (show bw Tryz.prog h0 23 (.ptr aM 0)=some (ah.fz t0.nodes) from b6 (q:=0) (cs:=[ah.fz t0.nodes,.i t0.root]) o0 rfl kr),.b 4 c0,.v 6 (show bw Tryz.prog h0 23 (.ptr aM 0)=some (ah.fz t0.nodes) from b6 (q:=0) (cs:=[ah.fz t0.nodes,.i t0.root]) o0 rfl kr),.b 10 c1,.v 12 (show bw Tryz.prog h0 3 (.ptr aM 1)=some (.i t0.root) from b6 (q:=0) (cs:=[ah.fz t0.nodes,.i t0.root]) o0 rfl kr),.b 15 c2,.v 17 (show bw Tryz.prog h0 3 (.ptr aM 1)=some (.i t0.root) from b6 (q:=0) (cs:=[ah.fz t0.nodes,.i t0.root]) o0 rfl kr),.v 19 (show bw Tryz.prog h0 23 (.ptr aM 0)=some (ah.fz t0.nodes) from b6 (q:=0) (cs:=[ah.fz t0.nodes,.i t0.root]) o0 rfl kr),.b 23 c3,.v 25 (show bw Tryz.prog h0 23 (.ptr aM 0)=some (ah.fz t0.nodes) from b6 (q:=0) (cs:=[ah.fz t0.nodes,.i t0.root]) o0 rfl kr),.a 27 (Ub _ _ _ e1 78 [.fp [ah.fz t0.nodes,.i t0.root] 0] (fun h' tj y0 r hr hx=>Uc y0 _ r hr h' tj hx) (fun h_=>iR (ak (fE (pure_cons (bL.bp (E:=ah) (l:=t0.nodes)) (pure_cons (gW) (pure_nil)))) (aG))) h0 _ (lZ (ak (km (E:=ah)) (ak (sJ (ak (eC (q:=0) o0 rfl (ak (km (E:=ah)) (ak (bO) (aG)))) (aG))) (aG)))))] ?_
     exact qt <| fB H
    ·refine qr [.v 1 (show bw Tryz.prog h0 23 (.ptr aM 0)=some (ah.fz t0.nodes) from b6 (q:=0) (cs:=[ah.fz t0.nodes,.i t0.root]) o0 rfl kr),.b 4 c0,.v 6 (show bw Tryz.prog h0 23 (.ptr aM 0)=some (ah.fz t0.nodes) from b6 (q:=0) (cs:=[ah.fz t0.nodes,.i t0.root]) o0 rfl kr),.b 10 c1,.v 12 (show bw Tryz.prog h0 3 (.ptr aM 1)=some (.i t0.root) from b6 (q:=0) (cs:=[ah.fz t0.nodes,.i t0.root]) o0 rfl kr),.b 15 c2,.v 17 (show bw Tryz.prog h0 3 (.ptr aM 1)=some (.i t0.root) from b6 (q:=0) (cs:=[ah.fz t0.nodes,.i t0.root]) o0 rfl kr),.v 19 (show bw Tryz.prog h0 23 (.ptr aM 0)=some (ah.fz t0.nodes) from b6 (q:=0) (cs:=[ah.fz t0.nodes,.i t0.root]) o0 rfl kr),.b 23 c3] ?_
     exact qt <| fB H
   ·refine qr [.v 1 (show bw Tryz.prog h0 23 (.ptr aM 0)=some (ah.fz t0.nodes) from b6 (q:=0) (cs:=[ah.fz t0.nodes,.i t0.root]) o0 rfl kr),.b 4 c0,.v 6 (show bw Tryz.prog h0 23 (.ptr aM 0)=some (ah.fz t0.nodes) from b6 (q:=0) (cs:=[ah.fz t0.nodes,.i t0.root]) o0 rfl kr),.b 10 c1,.v 12 (show bw Tryz.prog h0 3 (.ptr aM 1)=some (.i t0.root) from b6 (q:=0) (cs:=[ah.fz t0.nodes,.i t0.root]) o0 rfl kr),.b 15 c2] ?_
    exact qt <| fB H
  ·refine qr [.v 1 (show bw Tryz.prog h0 23 (.ptr aM 0)=some (ah.fz t0.nodes) from b6 (q:=0) (cs:=[ah.fz t0.nodes,.i t0.root]) o0 rfl kr),.b 4 c0,.v 6 (show bw Tryz.prog h0 23 (.ptr aM 0)=some (ah.fz t0.nodes) from b6 (q:=0) (cs:=[ah.fz t0.nodes,.i t0.root]) o0 rfl kr),.b 10 c1] ?_
   exact qt <| fB H
 ·refine qr [.v 1 (show bw Tryz.prog h0 23 (.ptr aM 0)=some (ah.fz t0.nodes) from b6 (q:=0) (cs:=[ah.fz t0.nodes,.i t0.root]) o0 rfl kr),.b 4 c0] ?_
  exact qt <| fB H
end
def EG:bR:=gC [0,1,2,3,4] [2,3] [19,15] [] []
def iv.f (m:Nat)(a0:aI)(b0:aI):Option (Bool):=(aD.f m a0.nodes b0.nodes (fun y0 y1=>dC.f m y0 y1)).bind fun x0=>some x0
def iv.fin (L:Mem)(r:Bool)(s:St):Prop:=∃av,aE Tryz.prog (s.open EG) Tryz.f67.results.toList=some av∧eR s.h av (.bool r)
def WB (cf:CallF)(m:Nat):Prop:=∀(a0:aI) (b0:aI) (r:Bool),iv.f m a0 b0=some r→∀h xs,aP bH h xs [.agg [ah.fz a0.nodes,.i a0.root],.agg [ah.fz b0.nodes,.i b0.root]]→cf 67 xs h=some (.bool r,h)
section
variable {cf:CallF}{m:Nat}
theorem tz {aS:FuncId→bR}(ha:aS 67=EG)(QC:P4 cf m)(QD:Qy cf m)(a0:aI)(b0:aI)(h:AHeap)(L:Mem)  (o:Has h (L)){out:Bool}(H:iv.f m a0 b0=some out) :
  ∃r h',a6 Tryz.prog aS cf m 67 [.agg [ah.fz a0.nodes,.i a0.root],.agg [ah.fz b0.nodes,.i b0.root]] h=some (r,h')∧eR h' r (.bool out):=by
 refine aq (fn:=Tryz.f67) ha Tryz.func67 kr kr ?_
 refine aC (Q:=fun s=>iv.fin L out s) (fun _ _ h=>h) ?_
 have H:_=some out:=H
 unfold iv.f at H
 show cZ _ cf EG m _ ⟨.agg [ah.fz a0.nodes,.i a0.root] :: .agg [ah.fz b0.nodes,.i b0.root]::nU [],[none,none],h⟩ _
 refine q1 <| qq ?_
 obtain⟨x0,e0,H⟩:=aW H
 exact qr [.a 4 (QC _ _ _ _ e0 102 [] (fun h' tj y0 y1 r hr hx=>QD y0 y1 r hr h' tj hx) (fun h_=>iR (aG)) h _ (lZ (ak (km (E:=ah)) (ak (km (E:=ah)) (ak (sJ (aG)) (aG))))))] <| qt <| fB H
end
def zd:bR:=gC [0,1] [] [3] [] []
def gd.f (m:Nat)(x0:List Int)(aX:Int→Int→Option (Int)):Option ((List Int)):=(bU.f m x0 (x0.length:Int) aX).bind fun x1=>some x1
def gd.fin (L:Mem)(aM:Nat)(x0:List Int)(aX:Int→Int→Option (Int))(r:(List Int))(s:St):Prop:=aE Tryz.prog (s.open zd) Tryz.f114.results.toList=some (.tup [])∧Has s.h ((aM,.sl x0.length 1 (af.l r))::L)
def QE (cf:CallF)(m:Nat):Prop:=∀(x0:List Int) (aX:Int→Int→Option (Int)) (r:(List Int)),gd.f m x0 aX=some r→∀h L (Iz:Nat) (aM:Nat),Has h ((aM,.sl Iz 1 (af.l x0))::L)→∀(fA:FuncId) (aU b9:List AV),(aN (.fn fA aU) = .fn fA aU)→(∀(h:AHeap) (xs:List AV) (a0:Int) (a1:Int) r,aX a0 a1=some r→aP bH h xs ([.i a0,.i a1]++b9)→cf fA xs h=some (.i r,h))→(∀h K,Has h (K++(L))→aP cC h aU b9)→(∀h,aP cC h b9 b9)→∀xs,xs.map aN=[.rs aM 0 Iz 1,.fn fA aU]→∃h',cf 114 xs h=some (.tup [],h')∧Has h' ((aM,.sl Iz 1 (af.l r))::L)
section
variable {cf:CallF}{m:Nat}
theorem qW {aS:FuncId→bR}(ha:aS 114=zd)(QF:QB cf m)(x0:List Int)(aX:Int→Int→Option (Int))(h:AHeap)(L:Mem)(aM:Nat)(fA:FuncId)(aU b9:List AV)  (ve:aN (.fn fA aU) = .fn fA aU)(iF:∀(h:AHeap) (xs:List AV) (a0:Int) (a1:Int) r,aX a0 a1=some r→aP bH h xs ([.i a0,.i a1]++b9)→cf fA xs h=some (.i r,h))(qM:∀h K,Has h (K++(L))→aP cC h aU b9)(iG:∀h,aP cC h b9 b9)(o:Has h ((aM,.sl x0.length 1 (af.l x0))::L)){out:(List Int)}(H:gd.f m x0 aX=some out) :
  ∃r h',a6 Tryz.prog aS cf m 114 [.rs aM 0 x0.length 1,.fn fA aU] h=some (r,h')∧r = .tup []∧Has h' ((aM,.sl x0.length 1 (af.l out))::L):=by
 refine aq (fn:=Tryz.f114) ha Tryz.func114 kr kr ?_
 refine aC (Q:=fun s=>gd.fin L aM x0 aX out s) (fun _ _ ⟨h1,h2,h3⟩=>⟨h1,_,h2,rfl,h3⟩) ?_
 have H:_=some out:=H
 unfold gd.f at H
 show cZ _ cf zd m _ ⟨[.rs aM 0 x0.length 1,.fn fA aU],[],h⟩ _
 obtain⟨x1,e0,H⟩:=aW H
 obtain⟨h0,e1,o0⟩:=QF _ _ _ _ e0 h _ _ _ (o) fA aU b9 ve iF (fun h' K' o'=>qM h' (K'++[]) (by simpa only [aa0,abm,abr] using o')) iG [.rs aM 0 x0.length 1,.i (x0.length:Int),.fn fA aU] cq
 obtain rfl:=oi H
 exact qr [.a 4 e1] <| ⟨.inr rfl,⟨kr,he o0⟩⟩
end
end Go.Proofs.YtifafejidnjckaaGreat
