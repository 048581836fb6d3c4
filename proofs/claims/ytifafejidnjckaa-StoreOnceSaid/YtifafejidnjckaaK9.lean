/- Part of the proof: Q106, Q16, Q20, Q23, Q24, Q34, Q49, Q66, Q69, Q99, Q103, Q13, Q15, Q28, Q44, Q45, Q83, Q89. -/
import Derived.Test.YtifafejidnjckaaK8
set_option linter.unusedVariables false
set_option linter.unusedSimpArgs false
set_option maxRecDepth 100000
open ByteArray renaming mk → UU
open List renaming append_assoc → Uq, cons_append → UM, nil_append → UN
namespace Go.Proofs.Ytifafejidnjckaa
open Go Go.R
open Go.IntKind (i64 u64 u8 u32)
def lk:b4:=gK [0,1,2,3,4,10,11,12,13,14,15,16,17,18,19,20,21,22,23,24,28,33,50,58,80,85,103,110,140,151,171,185,199,213] [] [17178820576,17179869124,17179869068,17177771916,17179868940,17175674636,17179869068,17179869068,17179868894,17171480286,17179868894,17179868894,17163091936,17179868650,17179867626,17146313194,17179865578,17112756714,17179867626,17179867626,17179864574,17045646846,17179864574,17179864574,17179860960,17179844576,17179844576,16911409120,17179811808,17179746272,17179811808,17179746272,17179615200,16642744288,17179353056,16105611232,17179615200,17179615200,17179303904,15031820256,17179303908,12884336612,17179336678,8589402086,17179869183] [] []
def aG.l0 (m:Nat)(aw:List Int)(a0:Int)(aS:Int→Int→Option (Int)):Nat→Int→Int→Option (Int × Int)
 | 0,_,_=>none
 | k+1,i0,j0=>if (decide (i0<j0))=true then ((ix aw (i64.wrap (iR .u64 (u64.wrap (i64.wrap (i0+j0))) 1))).bind fun v0=>(ix aw a0).bind fun v1=>(aS v0 v1).bind fun r0=>if (decide (r0<(0:Int)))=true then (aG.l0 m aw a0 aS k (i64.wrap (i64.wrap (iR .u64 (u64.wrap (i64.wrap (i0+j0))) 1)+(1:Int))) j0) else (aG.l0 m aw a0 aS k i0 (i64.wrap (iR .u64 (u64.wrap (i64.wrap (i0+j0))) 1)))) else (some ((i0,j0)))
def aG.l1 (m:Nat)(i1:Int):Nat→(List Int)→Int→Option ((List Int) × Int)
 | 0,_,_=>none
 | k+1,bk,k0=>if (decide (k0<(i64.wrap (i1 - (1:Int)))))=true then ((ix bk (i64.wrap (k0+(1:Int)))).bind fun v2=>(ix bk k0).bind fun v3=>(ix bk k0).bind fun v4=>(ix (bk.set k0.toNat v2) (i64.wrap (k0+(1:Int)))).bind fun v5=>aG.l1 m i1 k ((bk.set k0.toNat v2).set (i64.wrap (k0+(1:Int))).toNat v3) (i64.wrap (k0+(1:Int)))) else (some ((bk,k0)))
def aG.l2 (m:Nat)(aw:List Int)(m0:Int)(aS:Int→Int→Option (Int)):Nat→Int→Int→Option (Int × Int)
 | 0,_,_=>none
 | k+1,i2,j2=>if (decide (i2<j2))=true then ((ix aw m0).bind fun v6=>(ix aw (i64.wrap (iR .u64 (u64.wrap (i64.wrap (i2+j2))) 1))).bind fun v7=>(aS v6 v7).bind fun r1=>if (!(decide (r1<(0:Int))))=true then (aG.l2 m aw m0 aS k (i64.wrap (i64.wrap (iR .u64 (u64.wrap (i64.wrap (i2+j2))) 1)+(1:Int))) j2) else (aG.l2 m aw m0 aS k i2 (i64.wrap (iR .u64 (u64.wrap (i64.wrap (i2+j2))) 1)))) else (some ((i2,j2)))
def aG.l3 (m:Nat)(i3:Int):Nat→(List Int)→Int→Option ((List Int) × Int)
 | 0,_,_=>none
 | k+1,dD,k2=>if (decide (k2 > i3))=true then ((ix dD (i64.wrap (k2 - (1:Int)))).bind fun v8=>(ix dD k2).bind fun v9=>(ix dD k2).bind fun v10=>(ix (dD.set k2.toNat v8) (i64.wrap (k2 - (1:Int)))).bind fun v11=>aG.l3 m i3 k ((dD.set k2.toNat v8).set (i64.wrap (k2 - (1:Int))).toNat v9) (i64.wrap (k2 - (1:Int)))) else (some ((dD,k2)))
def aG.l4 (m:Nat)(aw:List Int)(a0:Int)(m0:Int)(b0:Int)(aS:Int→Int→Option (Int)):Nat→Int→Int→Option (Int × Int)
 | 0,_,_=>none
 | k+1,fI,r3=>if (decide (fI<r3))=true then ((ix aw (i64.wrap (i64.wrap (i64.wrap (i64.wrap (iR .u64 (u64.wrap (i64.wrap (a0+b0))) 1)+m0) - (1:Int)) - i64.wrap (iR .u64 (u64.wrap (i64.wrap (fI+r3))) 1)))).bind fun v12=>(ix aw (i64.wrap (iR .u64 (u64.wrap (i64.wrap (fI+r3))) 1))).bind fun LO=>(aS v12 LO).bind fun r4=>if (!(decide (r4<(0:Int))))=true then (aG.l4 m aw a0 m0 b0 aS k (i64.wrap (i64.wrap (iR .u64 (u64.wrap (i64.wrap (fI+r3))) 1)+(1:Int))) r3) else (aG.l4 m aw a0 m0 b0 aS k fI (i64.wrap (iR .u64 (u64.wrap (i64.wrap (fI+r3))) 1)))) else (some ((fI,r3)))
def aG.b (m:Nat)(rec:(List Int)→Int→Int→Int→(Int→Int→Option (Int))→Option ((List Int)))(aw:List Int)(a0:Int)(m0:Int)(b0:Int)(aS:Int→Int→Option (Int)):Option ((List Int)):=if ((i64.wrap (m0 - a0))==(1:Int))=true then ((aG.l0 m aw a0 aS m m0 b0).bind fun cJ=>match cJ with | (i1,j1)=>(aG.l1 m i1 m aw a0).bind fun dE=>match dE with | (cU,k1)=>some cU) else (if ((i64.wrap (b0 - m0))==(1:Int))=true then ((aG.l2 m aw m0 aS m a0 m0).bind fun mS=>match mS with | (i3,j3)=>(aG.l3 m i3 m aw m0).bind fun D5=>match D5 with | (iY,k3)=>some iY) else (jn (fun (σ:Int × Int)=>match σ with | (sg,r2)=>(aG.l4 m aw a0 m0 b0 aS m sg r2).bind fun da=>match da with | (eM,r5)=>jn (fun (σ:(List Int))=>match σ with | kF=>jn (fun (σ:(List Int))=>match σ with | oE=>if (decide ((i64.wrap (iR .u64 (u64.wrap (i64.wrap (a0+b0))) 1))<(i64.wrap (i64.wrap (i64.wrap (iR .u64 (u64.wrap (i64.wrap (a0+b0))) 1)+m0) - eM))))=true then (if (decide ((i64.wrap (i64.wrap (i64.wrap (iR .u64 (u64.wrap (i64.wrap (a0+b0))) 1)+m0) - eM))<b0))=true then ((rec oE (i64.wrap (iR .u64 (u64.wrap (i64.wrap (a0+b0))) 1)) (i64.wrap (i64.wrap (i64.wrap (iR .u64 (u64.wrap (i64.wrap (a0+b0))) 1)+m0) - eM)) b0 aS).bind fun x2=>some x2) else (some oE)) else (some oE)) fun sh=>(if (decide (a0<eM))=true then (if (decide (eM<(i64.wrap (iR .u64 (u64.wrap (i64.wrap (a0+b0))) 1))))=true then ((rec kF a0 eM (i64.wrap (iR .u64 (u64.wrap (i64.wrap (a0+b0))) 1)) aS).bind fun x1=>sh x1) else (sh kF)) else (sh kF))) fun KK=>(if (decide (eM<m0))=true then (if (decide (m0<(i64.wrap (i64.wrap (i64.wrap (iR .u64 (u64.wrap (i64.wrap (a0+b0))) 1)+m0) - eM))))=true then ((eJ.f m aw eM m0 (i64.wrap (i64.wrap (i64.wrap (iR .u64 (u64.wrap (i64.wrap (a0+b0))) 1)+m0) - eM)) aS).bind fun x0=>KK x0) else (KK aw)) else (KK aw))) fun xM=>(if (decide (m0 > (i64.wrap (iR .u64 (u64.wrap (i64.wrap (a0+b0))) 1))))=true then (xM (i64.wrap (i64.wrap (i64.wrap (iR .u64 (u64.wrap (i64.wrap (a0+b0))) 1)+m0) - b0),i64.wrap (iR .u64 (u64.wrap (i64.wrap (a0+b0))) 1))) else (xM (a0,m0)))))
def aG.f (m:Nat):Nat→(List Int)→Int→Int→Int→(Int→Int→Option (Int))→Option ((List Int))
 | 0,_,_,_,_,_=>none
 | k+1,aw,a0,m0,b0,aS=>aG.b m (aG.f m k) aw a0 m0 b0 aS
def aG.fin (L:Mem)(aH:Nat)(aw:List Int)(a0:Int)(m0:Int)(b0:Int)(aS:Int→Int→Option (Int))(r:(List Int))(s:St):Prop:=aM Try.prog (s.open lk) Try.f106.results.toList=some (.tup [])∧Has s.h ((aH,.sl aw.length 1 (af.l r))::L)
def sY (cf:CallF)(m:Nat)(kk:Nat):Prop:=∀(aw:List Int) (a0:Int) (m0:Int) (b0:Int) (aS:Int→Int→Option (Int)) (r:(List Int)),aG.f m kk aw a0 m0 b0 aS=some r→∀h L (ca:Nat) (aH:Nat),Has h ((aH,.sl ca 1 (af.l aw))::L)→∀(eC:FuncId) (aY aT:List AV),(aK (.fn eC aY) = .fn eC aY)→(∀(h:AHeap) (xs:List AV) (a0:Int) (a1:Int) r,aS a0 a1=some r→aP bQ h xs ([.int .i64 a0,.int .i64 a1]++aT)→cf eC xs h=some (.int .i64 r,h))→(∀h K,Has h (K++(L))→aP cq h aY aT)→(∀h,aP cq h aT aT)→∀xs,xs.map aK=[.rs aH 0 ca 1,.int .i64 a0,.int .i64 m0,.int .i64 b0,.fn eC aY]→∃h',cf 106 xs h=some (.tup [],h')∧Has h' ((aH,.sl ca 1 (af.l r))::L)
section
variable {cf:CallF}{m:Nat}
theorem aG.dB (L:Mem)(aH:Nat)(eC:FuncId)(aY aT:List AV)(aw:List Int)(a0:Int)(m0:Int)(b0:Int)(aS:Int→Int→Option (Int))  {kk:Nat}(iw:sY cf m kk)(gy:aK (.fn eC aY) = .fn eC aY)(gT:∀(h:AHeap) (xs:List AV) (a0:Int) (a1:Int) r,aS a0 a1=some r→aP bQ h xs ([.int .i64 a0,.int .i64 a1]++aT)→cf eC xs h=some (.int .i64 r,h))(gU:∀h K,Has h (K++(L))→aP cq h aY aT)(iv:∀h,aP cq h aT aT)  : dU Try.prog cf lk m (sub [0,1,0,1,1,0,0,0] (b6 Try.f106)) (fun k (σ:Int × Int)=>aG.l0 m aw a0 aS k σ.1 σ.2) (fun σ s=>match σ with | (i0,j0)=>∃h0,s=⟨.rs aH 0 aw.length 1 :: .int .i64 a0 :: .any :: .any :: .fn eC aY :: .int .i64 i0 :: .int .i64 j0::MV [],[],h0⟩∧Has h0 ((aH,.sl aw.length 1 (af.l aw))::L)) (fun out e s=>(e = .exit 0∧∃i0 j0,(i0,j0)=out∧∃KL Iw NS h0,s=⟨.rs aH 0 aw.length 1 :: .int .i64 a0 :: .any :: .any::KL :: .int .i64 i0::Iw::wN (NS::uV []),[],h0⟩∧Has h0 ((aH,.sl aw.length 1 (af.l aw))::L))):=by
 refine mK (fun _=>rfl) ?_
 rintro k ⟨i0,j0⟩ s out ⟨h0,rfl,o0⟩ H
 have H:aG.l0 m aw a0 aS (k+1) i0 j0=some out:=H
 refine qq <| qq <| q0 <| qc H (fun c1 H=>?_) (fun c1 H=>?_)
 ·refine qk <| qb 1 <| qq <| q0 <| qq ?_
  obtain⟨v0,e0,H⟩:=bl H
  obtain⟨v1,e1,H⟩:=bl H
  obtain⟨r0,e2,H⟩:=bl H
  refine qr [.v 3 (bj (k:=.i64) (E:=af) (l:=aw) (q:=0) gH o0 rfl e0),.v 4 (dr  (E:=af) (l:=aw) (q:=0) o0 rfl A3 e0 rfl),.v 7 (bj (k:=.i64) (E:=af) (l:=aw) (q:=0) gH o0 rfl e1),.v 8 (dr  (E:=af) (l:=aw) (q:=0) o0 rfl A3 e1 rfl),.a 9 (gT _ _ _ _ _ e2 (G7 (ai (br) (ai (br) (ay))) (gU h0 [(aH,.sl aw.length 1 (af.l aw))] o0)))] <| qc H (fun c2 H=>?_) (fun c2 H=>?_)
  ·exact q0 <| ⟨(i64.wrap (i64.wrap (iR .u64 (u64.wrap (i64.wrap (i0+j0))) 1)+(1:Int)),j0),⟨h0,by kernel_rfl,o0⟩,H⟩
  ·exact q0 <| ⟨(i0,i64.wrap (iR .u64 (u64.wrap (i64.wrap (i0+j0))) 1)),⟨h0,by kernel_rfl,o0⟩,H⟩
 ·exact qx 0 <| ⟨rfl,i0,j0,oi H,.fn eC aY,.int .i64 j0,.bool (decide (i0<j0)),h0,by kernel_rfl,o0⟩
theorem aG.mi (L:Mem)(aH:Nat)(eC:FuncId)(aY aT:List AV)(aw:List Int)(a0:Int)(m0:Int)(b0:Int)(aS:Int→Int→Option (Int))(i1:Int)  {kk:Nat}(iw:sY cf m kk)(gy:aK (.fn eC aY) = .fn eC aY)(gT:∀(h:AHeap) (xs:List AV) (a0:Int) (a1:Int) r,aS a0 a1=some r→aP bQ h xs ([.int .i64 a0,.int .i64 a1]++aT)→cf eC xs h=some (.int .i64 r,h))(gU:∀h K,Has h (K++(L))→aP cq h aY aT)(iv:∀h,aP cq h aT aT)  : dU Try.prog cf lk m (sub [0,1,0,1,1,1,0,1,0,0] (b6 Try.f106)) (fun k (σ:(List Int) × Int)=>aG.l1 m i1 k σ.1 σ.2) (fun σ s=>match σ with | (bk,k0)=>∃h2,s=⟨.rs aH 0 aw.length 1::nK (.int .i64 i1 :: .any :: .any :: .int .i64 k0::MU []),[],h2⟩∧Has h2 ((aH,.sl aw.length 1 (af.l bk))::L)) (fun out e s=>(e = .exit 2∧∃bk k0,(bk,k0)=out∧∃po yI vb NT h2,s=⟨po::nK (yI :: .any :: .any::vb::wN (NT::Ko [])),[],h2⟩∧Has h2 ((aH,.sl aw.length 1 (af.l bk))::L))):=by
 refine mK (fun _=>rfl) ?_
 rintro k ⟨bk,k0⟩ s out ⟨h2,rfl,o2⟩ H
 have H:aG.l1 m i1 (k+1) bk k0=some out:=H
 refine qq <| qq <| q0 <| qc H (fun c3 H=>?_) (fun c3 H=>?_)
 ·refine qk <| qq <| qb 3 ?_
  obtain⟨v2,e4,H⟩:=bl H
  obtain⟨v3,e5,H⟩:=bl H
  obtain⟨v4,e6,H⟩:=bl H
  obtain⟨h3,e7,o3⟩:=eV (P:=Try.prog) (tf:=3) (E:=af) (l:=bk) (q:=0) (v:=v2) (x:=.int .i64 v2) o2 rfl Z3 e6 rfl rfl
  obtain⟨v5,e8,H⟩:=bl H
  obtain⟨h4,e9,o4⟩:=eV (P:=Try.prog) (tf:=3) (E:=af) (l:=(bk.set k0.toNat v2)) (q:=0) (v:=v3) (x:=.int .i64 v3) o3 rfl Z3 e8 rfl rfl
  exact qr [.v 8 (bj (k:=.i64) (E:=af) (l:=bk) (q:=0) gH o2 rfl e4),.v 9 (dr  (E:=af) (l:=bk) (q:=0) o2 rfl A3 e4 rfl),.v 12 (bj (k:=.i64) (E:=af) (l:=bk) (q:=0) gH o2 rfl e5),.v 13 (dr  (E:=af) (l:=bk) (q:=0) o2 rfl A3 e5 rfl),.v 14 (bj (k:=.i64) (E:=af) (l:=bk) (q:=0) gH o2 rfl e6),.w 15 e7,.v 16 (bj (k:=.i64) (E:=af) (l:=(bk.set k0.toNat v2)) (q:=0) gH o3 rfl e8),.w 17 e9] <| q0 <| ⟨((bk.set k0.toNat v2).set (i64.wrap (k0+(1:Int))).toNat v3,i64.wrap (k0+(1:Int))),⟨h4,by kernel_rfl,o4⟩,H⟩
 ·exact qx 2 <| ⟨rfl,bk,k0,oi H,.rs aH 0 aw.length 1,.int .i64 i1,.int .i64 k0,.bool (decide (k0<(i64.wrap (i1 - (1:Int))))),h2,by kernel_rfl,o2⟩
theorem aG.si (L:Mem)(aH:Nat)(eC:FuncId)(aY aT:List AV)(aw:List Int)(a0:Int)(m0:Int)(b0:Int)(aS:Int→Int→Option (Int))  {kk:Nat}(iw:sY cf m kk)(gy:aK (.fn eC aY) = .fn eC aY)(gT:∀(h:AHeap) (xs:List AV) (a0:Int) (a1:Int) r,aS a0 a1=some r→aP bQ h xs ([.int .i64 a0,.int .i64 a1]++aT)→cf eC xs h=some (.int .i64 r,h))(gU:∀h K,Has h (K++(L))→aP cq h aY aT)(iv:∀h,aP cq h aT aT)  : dU Try.prog cf lk m (sub [1,0,1,0,1,1,0,0,0] (b6 Try.f106)) (fun k (σ:Int × Int)=>aG.l2 m aw m0 aS k σ.1 σ.2) (fun σ s=>match σ with | (i2,j2)=>∃h6,s=⟨.rs aH 0 aw.length 1 :: .any :: .int .i64 m0 :: .any :: .fn eC aY::nK (.int .i64 i2 :: .int .i64 j2::MT []),[],h6⟩∧Has h6 ((aH,.sl aw.length 1 (af.l aw))::L)) (fun out e s=>(e = .exit 4∧∃i2 j2,(i2,j2)=out∧∃KL NU NV h6,s=⟨.rs aH 0 aw.length 1 :: .any :: .int .i64 m0 :: .any::KL::nK (.int .i64 i2::NU::wN (NV::zI [])),[],h6⟩∧Has h6 ((aH,.sl aw.length 1 (af.l aw))::L))):=by
 refine mK (fun _=>rfl) ?_
 rintro k ⟨i2,j2⟩ s out ⟨h6,rfl,o6⟩ H
 have H:aG.l2 m aw m0 aS (k+1) i2 j2=some out:=H
 refine qq <| qq <| q0 <| qc H (fun c5 H=>?_) (fun c5 H=>?_)
 ·refine qk <| qb 5 <| qq <| q0 <| qq ?_
  obtain⟨v6,w6,H⟩:=bl H
  obtain⟨v7,yD,H⟩:=bl H
  obtain⟨r1,yE,H⟩:=bl H
  refine qr [.v 3 (bj (k:=.i64) (E:=af) (l:=aw) (q:=0) gH o6 rfl w6),.v 4 (dr  (E:=af) (l:=aw) (q:=0) o6 rfl A3 w6 rfl),.v 7 (bj (k:=.i64) (E:=af) (l:=aw) (q:=0) gH o6 rfl yD),.v 8 (dr  (E:=af) (l:=aw) (q:=0) o6 rfl A3 yD rfl),.a 9 (gT _ _ _ _ _ yE (G7 (ai (br) (ai (br) (ay))) (gU h6 [(aH,.sl aw.length 1 (af.l aw))] o6)))] <| qc H (fun c6 H=>?_) (fun c6 H=>?_)
  ·exact q0 <| ⟨(i64.wrap (i64.wrap (iR .u64 (u64.wrap (i64.wrap (i2+j2))) 1)+(1:Int)),j2),⟨h6,by kernel_rfl,o6⟩,H⟩
  ·exact q0 <| ⟨(i2,i64.wrap (iR .u64 (u64.wrap (i64.wrap (i2+j2))) 1)),⟨h6,by kernel_rfl,o6⟩,H⟩
 ·exact qx 4 <| ⟨rfl,i2,j2,oi H,.fn eC aY,.int .i64 j2,.bool (decide (i2<j2)),h6,by kernel_rfl,o6⟩
theorem aG.D6 (L:Mem)(aH:Nat)(eC:FuncId)(aY aT:List AV)(aw:List Int)(a0:Int)(m0:Int)(b0:Int)(aS:Int→Int→Option (Int))(i3:Int)  {kk:Nat}(iw:sY cf m kk)(gy:aK (.fn eC aY) = .fn eC aY)(gT:∀(h:AHeap) (xs:List AV) (a0:Int) (a1:Int) r,aS a0 a1=some r→aP bQ h xs ([.int .i64 a0,.int .i64 a1]++aT)→cf eC xs h=some (.int .i64 r,h))(gU:∀h K,Has h (K++(L))→aP cq h aY aT)(iv:∀h,aP cq h aT aT)  : dU Try.prog cf lk m (sub [1,0,1,0,1,1,1,0,1,0,0] (b6 Try.f106)) (fun k (σ:(List Int) × Int)=>aG.l3 m i3 k σ.1 σ.2) (fun σ s=>match σ with | (dD,k2)=>∃h8,s=⟨.rs aH 0 aw.length 1::zI (.int .i64 i3 :: .any :: .any :: .int .i64 k2::MS []),[],h8⟩∧Has h8 ((aH,.sl aw.length 1 (af.l dD))::L)) (fun out e s=>(e = .exit 6∧∃dD k2,(dD,k2)=out∧∃po Io NW KM h8,s=⟨po::zI (Io :: .any :: .any::NW::wN (KM::vD [])),[],h8⟩∧Has h8 ((aH,.sl aw.length 1 (af.l dD))::L))):=by
 refine mK (fun _=>rfl) ?_
 rintro k ⟨dD,k2⟩ s out ⟨h8,rfl,o8⟩ H
 have H:aG.l3 m i3 (k+1) dD k2=some out:=H
 refine qq <| qq <| q0 <| qc H (fun c7 H=>?_) (fun c7 H=>?_)
 ·refine qk <| qq <| qb 7 ?_
  obtain⟨v8,Al,H⟩:=bl H
  obtain⟨v9,D1,H⟩:=bl H
  obtain⟨v10,Gf,H⟩:=bl H
  obtain⟨h9,Iy,o9⟩:=eV (P:=Try.prog) (tf:=3) (E:=af) (l:=dD) (q:=0) (v:=v8) (x:=.int .i64 v8) o8 rfl Z3 Gf rfl rfl
  obtain⟨v11,Gg,H⟩:=bl H
  obtain⟨h10,Iz,vF⟩:=eV (P:=Try.prog) (tf:=3) (E:=af) (l:=(dD.set k2.toNat v8)) (q:=0) (v:=v9) (x:=.int .i64 v9) o9 rfl Z3 Gg rfl rfl
  exact qr [.v 8 (bj (k:=.i64) (E:=af) (l:=dD) (q:=0) gH o8 rfl Al),.v 9 (dr  (E:=af) (l:=dD) (q:=0) o8 rfl A3 Al rfl),.v 12 (bj (k:=.i64) (E:=af) (l:=dD) (q:=0) gH o8 rfl D1),.v 13 (dr  (E:=af) (l:=dD) (q:=0) o8 rfl A3 D1 rfl),.v 14 (bj (k:=.i64) (E:=af) (l:=dD) (q:=0) gH o8 rfl Gf),.w 15 Iy,.v 16 (bj (k:=.i64) (E:=af) (l:=(dD.set k2.toNat v8)) (q:=0) gH o9 rfl Gg),.w 17 Iz] <| q0 <| ⟨((dD.set k2.toNat v8).set (i64.wrap (k2 - (1:Int))).toNat v9,i64.wrap (k2 - (1:Int))),⟨h10,by kernel_rfl,vF⟩,H⟩
 ·exact qx 6 <| ⟨rfl,dD,k2,oi H,.rs aH 0 aw.length 1,.int .i64 i3,.int .i64 k2,.bool (decide (k2 > i3)),h8,by kernel_rfl,o8⟩
theorem aG.D7 (L:Mem)(aH:Nat)(eC:FuncId)(aY aT:List AV)(aw:List Int)(a0:Int)(m0:Int)(b0:Int)(aS:Int→Int→Option (Int))  {kk:Nat}(iw:sY cf m kk)(gy:aK (.fn eC aY) = .fn eC aY)(gT:∀(h:AHeap) (xs:List AV) (a0:Int) (a1:Int) r,aS a0 a1=some r→aP bQ h xs ([.int .i64 a0,.int .i64 a1]++aT)→cf eC xs h=some (.int .i64 r,h))(gU:∀h K,Has h (K++(L))→aP cq h aY aT)(iv:∀h,aP cq h aT aT)  : dU Try.prog cf lk m (sub [1,1,1,1,1,1,1,0,0,0] (b6 Try.f106)) (fun k (σ:Int × Int)=>aG.l4 m aw a0 m0 b0 aS k σ.1 σ.2) (fun σ s=>match σ with | (fI,r3)=>∃h13,s=⟨.rs aH 0 aw.length 1 :: .int .i64 a0 :: .int .i64 m0 :: .int .i64 b0 :: .fn eC aY::zI (.int .i64 (i64.wrap (iR .u64 (u64.wrap (i64.wrap (a0+b0))) 1)) :: .int .i64 (i64.wrap (i64.wrap (iR .u64 (u64.wrap (i64.wrap (a0+b0))) 1)+m0)) :: .int .i64 fI :: .int .i64 r3 :: .int .i64 (i64.wrap (i64.wrap (i64.wrap (iR .u64 (u64.wrap (i64.wrap (a0+b0))) 1)+m0) - (1:Int)))::FV []),[],h13⟩∧Has h13 ((aH,.sl aw.length 1 (af.l aw))::L)) (fun out e s=>(e = .exit 8∧∃fI r3,(fI,r3)=out∧∃Ir yJ KN h13,s=⟨.rs aH 0 aw.length 1 :: .int .i64 a0 :: .int .i64 m0 :: .int .i64 b0 :: .fn eC aY::zI (.int .i64 (i64.wrap (iR .u64 (u64.wrap (i64.wrap (a0+b0))) 1)) :: .int .i64 (i64.wrap (i64.wrap (iR .u64 (u64.wrap (i64.wrap (a0+b0))) 1)+m0)) :: .int .i64 fI::Ir::yJ::rV (KN::nK [])),[],h13⟩∧Has h13 ((aH,.sl aw.length 1 (af.l aw))::L))):=by
 refine mK (fun _=>rfl) ?_
 rintro k ⟨fI,r3⟩ s out ⟨h13,rfl,vh⟩ H
 have H:aG.l4 m aw a0 m0 b0 aS (k+1) fI r3=some out:=H
 refine qq <| qq <| q0 <| qc H (fun c9 H=>?_) (fun c9 H=>?_)
 ·refine qk <| qb 9 <| qq <| q0 <| qq ?_
  obtain⟨v12,Hc,H⟩:=bl H
  obtain⟨LO,Hd,H⟩:=bl H
  obtain⟨r4,IA,H⟩:=bl H
  refine qr [.v 5 (bj (k:=.i64) (E:=af) (l:=aw) (q:=0) gH vh rfl Hc),.v 6 (dr  (E:=af) (l:=aw) (q:=0) vh rfl A3 Hc rfl),.v 9 (bj (k:=.i64) (E:=af) (l:=aw) (q:=0) gH vh rfl Hd),.v 10 (dr  (E:=af) (l:=aw) (q:=0) vh rfl A3 Hd rfl),.a 11 (gT _ _ _ _ _ IA (G7 (ai (br) (ai (br) (ay))) (gU h13 [(aH,.sl aw.length 1 (af.l aw))] vh)))] <| qc H (fun Gd H=>?_) (fun Gd H=>?_)
  ·exact q0 <| ⟨(i64.wrap (i64.wrap (iR .u64 (u64.wrap (i64.wrap (fI+r3))) 1)+(1:Int)),r3),⟨h13,by kernel_rfl,vh⟩,H⟩
  ·exact q0 <| ⟨(fI,i64.wrap (iR .u64 (u64.wrap (i64.wrap (fI+r3))) 1)),⟨h13,by kernel_rfl,vh⟩,H⟩
 ·exact qx 8 <| ⟨rfl,fI,r3,oi H,.int .i64 r3,.int .i64 (i64.wrap (i64.wrap (i64.wrap (iR .u64 (u64.wrap (i64.wrap (a0+b0))) 1)+m0) - (1:Int))),.bool (decide (fI<r3)),h13,by kernel_rfl,vh⟩
theorem sj {aV:FuncId→b4}(ha:aV 106=lk)(KO:KE cf m)(aw:List Int)(a0:Int)(m0:Int)(b0:Int)(aS:Int→Int→Option (Int))(h:AHeap)(L:Mem)(aH:Nat)(eC:FuncId)(aY aT:List AV)  {kk:Nat}(iw:sY cf m kk)(gy:aK (.fn eC aY) = .fn eC aY)(gT:∀(h:AHeap) (xs:List AV) (a0:Int) (a1:Int) r,aS a0 a1=some r→aP bQ h xs ([.int .i64 a0,.int .i64 a1]++aT)→cf eC xs h=some (.int .i64 r,h))(gU:∀h K,Has h (K++(L))→aP cq h aY aT)(iv:∀h,aP cq h aT aT)(o:Has h ((aH,.sl aw.length 1 (af.l aw))::L)){out:(List Int)}(H:aG.f m (kk+1) aw a0 m0 b0 aS=some out) :
  ∃r h',ba Try.prog aV cf m 106 [.rs aH 0 aw.length 1,.int .i64 a0,.int .i64 m0,.int .i64 b0,.fn eC aY] h=some (r,h')∧r = .tup []∧Has h' ((aH,.sl aw.length 1 (af.l out))::L):=by
 refine ar (fn:=Try.f106) ha Try.func106 (by kernel_rfl) (by kernel_rfl) ?_
 refine aI (Q:=fun s=>aG.fin L aH aw a0 m0 b0 aS out s) (fun _ _ ⟨h1,h2,h3⟩=>⟨h1,_,h2,rfl,h3⟩) ?_
 have H:aG.b m (aG.f m kk) aw a0 m0 b0 aS=some out:=H
 unfold aG.b at H
 show dt _ cf lk m _ ⟨.rs aH 0 aw.length 1 :: .int .i64 a0 :: .int .i64 m0 :: .int .i64 b0 :: .fn eC aY::MW [],[],h⟩ _
 refine qq <| qq <| q0 <| qc H (fun c0 H=>?_) (fun c0 H=>?_)
 ·refine q1 <| qq <| q0 <| qq <| qb 0 ?_
  obtain⟨cJ,e3,H⟩:=bl H
  refine ql (aG.dB L aH eC aY aT aw a0 m0 b0 aS  iw gy gT gU iv  (m0,b0) _ _ ⟨h,by kernel_rfl,o⟩ e3) ?_
  rintro e s ⟨rfl,i1,j1,rfl,g0,g1,g2,h1,rfl,o1⟩
  try dsimp only at H
  refine qq <| qq <| q0 <| qb 2 ?_
  obtain⟨dE,sF,H⟩:=bl H
  refine ql (aG.mi L aH eC aY aT aw a0 m0 b0 aS i1  iw gy gT gU iv  (aw,a0) _ _ ⟨h1,by kernel_rfl,o1⟩ sF) ?_
  rintro e s ⟨rfl,cU,k1,rfl,g3,g4,g5,g6,h5,rfl,o5⟩
  try dsimp only at H
  obtain rfl:=oi H
  exact qt <| ⟨.inl rfl,⟨by kernel_rfl,he o5⟩⟩
 ·refine qk <| qq <| qq <| q0 <| qc H (fun c4 H=>?_) (fun c4 H=>?_)
  ·refine q1 <| qq <| q0 <| qq <| qb 4 ?_
   obtain⟨mS,BU,H⟩:=bl H
   refine ql (aG.si L aH eC aY aT aw a0 m0 b0 aS  iw gy gT gU iv  (a0,m0) _ _ ⟨h,by kernel_rfl,o⟩ BU) ?_
   rintro e s ⟨rfl,i3,j3,rfl,g7,g8,g9,h7,rfl,o7⟩
   try dsimp only at H
   refine qq <| qq <| q0 <| qb 6 ?_
   obtain⟨D5,Hb,H⟩:=bl H
   refine ql (aG.D6 L aH eC aY aT aw a0 m0 b0 aS i3  iw gy gT gU iv  (aw,m0) _ _ ⟨h7,by kernel_rfl,o7⟩ Hb) ?_
   rintro e s ⟨rfl,iY,k3,rfl,g10,g11,g12,g13,h11,rfl,yN⟩
   try dsimp only at H
   obtain rfl:=oi H
   exact qt <| ⟨.inl rfl,⟨by kernel_rfl,he yN⟩⟩
  ·refine qk <| qq <| q0 <| qq <| q0 <| qq <| q0 ?_
   obtain⟨xM,G9,H⟩:=ov H
   refine qj (S:=fun (σ:Int × Int) s=>match σ with | (sg,r2)=>∃(h12:AHeap),s=⟨.rs aH 0 aw.length 1 :: .int .i64 a0 :: .int .i64 m0 :: .int .i64 b0 :: .fn eC aY::zI (.int .i64 (i64.wrap (iR .u64 (u64.wrap (i64.wrap (a0+b0))) 1)) :: .int .i64 (i64.wrap (i64.wrap (iR .u64 (u64.wrap (i64.wrap (a0+b0))) 1)+m0)) :: .int .i64 sg :: .int .i64 r2::MQ []),[],h12⟩∧Has h12 ((aH,.sl aw.length 1 (af.l aw))::L)) xM H ?_ ?_
   ·rintro⟨sg,r2⟩ s ⟨h12,rfl,xN⟩ H
    have H:=(G9 _).symm.trans H
    try dsimp only at H
    refine q1 <| qq <| qb 8 ?_
    obtain⟨da,He,H⟩:=bl H
    refine ql (aG.D7 L aH eC aY aT aw a0 m0 b0 aS  iw gy gT gU iv  (sg,r2) _ _ ⟨h12,by kernel_rfl,xN⟩ He) ?_
    rintro e s ⟨rfl,eM,r5,rfl,g14,g15,g16,h14,rfl,vi⟩
    try dsimp only at H
    refine q1 ?_
    obtain⟨KK,LP,H⟩:=ov H
    refine qj (S:=fun (σ:(List Int)) s=>match σ with | kF=>∃(g17:AV) (g18:AV) (h16:AHeap),s=⟨.rs aH 0 aw.length 1 :: .int .i64 a0::g17 :: .int .i64 b0 :: .fn eC aY::zI (.int .i64 (i64.wrap (iR .u64 (u64.wrap (i64.wrap (a0+b0))) 1)) :: .any :: .int .i64 eM::sQ (.int .i64 (i64.wrap (i64.wrap (i64.wrap (iR .u64 (u64.wrap (i64.wrap (a0+b0))) 1)+m0) - eM))::rV [g18,.any,.any])),[],h16⟩∧Has h16 ((aH,.sl aw.length 1 (af.l kF))::L)) KK H ?_ ?_
    ·rintro kF s ⟨g17,g18,h16,rfl,yP⟩ H
     have H:=(LP _).symm.trans H
     try dsimp only at H
     obtain⟨sh,Fe,H⟩:=ov H
     refine qj (S:=fun (σ:(List Int)) s=>match σ with | oE=>∃(g19:AV) (g20:AV) (g21:AV) (h18:AHeap),s=⟨.rs aH 0 aw.length 1::g19 :: .any :: .int .i64 b0 :: .fn eC aY::zI (.int .i64 (i64.wrap (iR .u64 (u64.wrap (i64.wrap (a0+b0))) 1)) :: .any::g20::sQ (.int .i64 (i64.wrap (i64.wrap (i64.wrap (iR .u64 (u64.wrap (i64.wrap (a0+b0))) 1)+m0) - eM))::uV [g21,.any])),[],h18⟩∧Has h18 ((aH,.sl aw.length 1 (af.l oE))::L)) sh H ?_ ?_
     ·rintro oE s ⟨g19,g20,g21,h18,rfl,Cy⟩ H
      have H:=(Fe _).symm.trans H
      try dsimp only at H
      refine qq ?_
      rcases hZ H with⟨ID,H⟩| ⟨ID,H⟩
      ·refine qr [.b 3 ID] <| qc H (fun RX H=>?_) (fun RX H=>?_)
       ·obtain⟨x2,LQ,H⟩:=bl H
        obtain⟨h19,LR,BZ⟩:=iw _ _ _ _ _ _ LQ h18 _ _ _ (Cy) eC aY aT gy gT (fun h' K' o'=>gU h' (K'++[]) (by simpa only [Uq,UM,UN] using o')) iv [.rs aH 0 aw.length 1,.int .i64 (i64.wrap (iR .u64 (u64.wrap (i64.wrap (a0+b0))) 1)),.int .i64 (i64.wrap (i64.wrap (i64.wrap (iR .u64 (u64.wrap (i64.wrap (a0+b0))) 1)+m0) - eM)),.int .i64 b0,.fn eC aY] (au (rfl) (au (aN (bf)) (au (aN (bf)) (au (aN (bf)) (au (gy) (bI))))))
        obtain rfl:=oi H
        exact qr [.a 5 LR] <| ⟨.inr rfl,⟨by kernel_rfl,he BZ⟩⟩
       ·obtain rfl:=oi H
        exact qk <| ⟨.inr rfl,⟨by kernel_rfl,he Cy⟩⟩
      ·obtain rfl:=oi H
       exact qr [.b 3 ID] <| Fh <| qk <| ⟨.inr rfl,⟨by kernel_rfl,he Cy⟩⟩
     clear Fe
     intro IF
     refine qq ?_
     rcases hZ H with⟨DU,H⟩| ⟨DU,H⟩
     ·refine qr [.b 3 DU] <| qc H (fun KH H=>?_) (fun KH H=>?_)
      ·obtain⟨x1,NX,H⟩:=bl H
       obtain⟨h17,LS,D8⟩:=iw _ _ _ _ _ _ NX h16 _ _ _ (yP) eC aY aT gy gT (fun h' K' o'=>gU h' (K'++[]) (by simpa only [Uq,UM,UN] using o')) iv [.rs aH 0 aw.length 1,.int .i64 a0,.int .i64 eM,.int .i64 (i64.wrap (iR .u64 (u64.wrap (i64.wrap (a0+b0))) 1)),.fn eC aY] (au (rfl) (au (aN (bf)) (au (aN (bf)) (au (aN (bf)) (au (gy) (bI))))))
       exact qr [.a 5 LS] <| IF x1 _ ⟨.any,.any,.any,h17,by kernel_rfl,D8⟩ H
      ·exact qk <| IF kF _ ⟨.int .i64 a0,.int .i64 eM,.bool (decide (eM<(i64.wrap (iR .u64 (u64.wrap (i64.wrap (a0+b0))) 1)))),h16,by kernel_rfl,yP⟩ H
     ·exact qr [.b 3 DU] <| Fh <| qk <| IF kF _ ⟨.int .i64 a0,.int .i64 eM,.bool false,h16,by kernel_rfl,yP⟩ H
    clear LP
    intro IG
    refine qq ?_
    rcases hZ H with⟨tN,H⟩| ⟨tN,H⟩
    ·refine qr [.b 3 tN] <| qc H (fun DT H=>?_) (fun DT H=>?_)
     ·obtain⟨x0,Jx,H⟩:=bl H
      obtain⟨h15,NY,D3⟩:=KO _ _ _ _ _ _ Jx h14 _ _ _ (vi) eC aY aT gy gT (fun h' K' o'=>gU h' (K'++[]) (by simpa only [Uq,UM,UN] using o')) iv [.rs aH 0 aw.length 1,.int .i64 eM,.int .i64 m0,.int .i64 (i64.wrap (i64.wrap (i64.wrap (iR .u64 (u64.wrap (i64.wrap (a0+b0))) 1)+m0) - eM)),.fn eC aY] (au (rfl) (au (aN (bf)) (au (aN (bf)) (au (aN (bf)) (au (gy) (bI))))))
      exact qr [.a 5 NY] <| IG x0 _ ⟨.any,.any,h15,by kernel_rfl,D3⟩ H
     ·exact qk <| IG aw _ ⟨.int .i64 m0,.bool (decide (m0<(i64.wrap (i64.wrap (i64.wrap (iR .u64 (u64.wrap (i64.wrap (a0+b0))) 1)+m0) - eM)))),h14,by kernel_rfl,vi⟩ H
    ·exact qr [.b 3 tN] <| Fh <| qk <| IG aw _ ⟨.int .i64 m0,.bool false,h14,by kernel_rfl,vi⟩ H
   clear G9
   intro sU
   refine q1 <| qc H (fun c8 H=>?_) (fun c8 H=>?_)
   ·exact q1 <| q0 <| sU (i64.wrap (i64.wrap (i64.wrap (iR .u64 (u64.wrap (i64.wrap (a0+b0))) 1)+m0) - b0),i64.wrap (iR .u64 (u64.wrap (i64.wrap (a0+b0))) 1)) _ ⟨h,by kernel_rfl,o⟩ H
   ·exact q1 <| q0 <| sU (a0,m0) _ ⟨h,by kernel_rfl,o⟩ H
end
end Go.Proofs.Ytifafejidnjckaa
namespace Go.Proofs.Ytifafejidnjckaa
open Go Go.R
open Go.IntKind (i64 u64 u8 u32)
def Au:b4:=gK [0,1,2,6,7,8,9,10,17,27] [] [1016,984,728,999,830,446,1023,999,999] [(6,[(9,none,0)])] [(0,[(6,none,1)]),(3,[(6,none,1)]),(7,[(6,none,1)])]
def cV.f (m:Nat)(s0:ab)(a0:Int)(b0:Int):Option ((List Int) × Int × ab):=(bS.f m s0 ([a0,b0])).bind fun x0=>if (!(x0==(0:Int)))=true then (some (([]:List Int),x0,s0)) else ((az.f m s0 a0 b0).bind fun x1=>if (!x1.2.1)=true then ((bb.f m x1.2.2 x1.1).bind fun x2=>some (([]:List Int),(8:Int),x2)) else ((ck.f m x1.2.2 x1.1).bind fun x3=>some (x3,(0:Int),x1.2.2)))
def cV.fin (L:Mem)(aq:Nat)(ak:Nat)(an:Nat)(s0:ab)(a0:Int)(b0:Int)(r:(List Int) × Int × ab)(s:St):Prop:=∃dI aB aC:Nat,aM Try.prog (s.open Au) Try.f16.results.toList=some (.tup [.rs dI 0 r.1.length 1,.int .i64 r.2.1])∧Has s.h ((dI,.sl r.1.length 1 (af.l r.1))::(aq,.ob [.bool r.2.2.aj,.rs aB 0 r.2.2.aa.length 4,.rs aC 0 r.2.2.ae.length 1])::(aB,.sl r.2.2.aa.length 4 (ah.l r.2.2.aa))::(aC,.sl r.2.2.ae.length 1 (af.l r.2.2.ae))::L)
def P9 (cf:CallF)(m:Nat):Prop:=∀(s0:ab) (a0:Int) (b0:Int) (r:(List Int) × Int × ab),cV.f m s0 a0 b0=some r→∀h L (aq:Nat) (ak:Nat) (an:Nat),Has h ((aq,.ob [.bool s0.aj,.rs ak 0 s0.aa.length 4,.rs an 0 s0.ae.length 1])::(ak,.sl s0.aa.length 4 (ah.l s0.aa))::(an,.sl s0.ae.length 1 (af.l s0.ae))::L)→∀xs,xs.map aK=[.ptr aq 0,.int .i64 a0,.int .i64 b0]→∃dI aB aC h',cf 16 xs h=some (.tup [.rs dI 0 r.1.length 1,.int .i64 r.2.1],h')∧Has h' ((dI,.sl r.1.length 1 (af.l r.1))::(aq,.ob [.bool r.2.2.aj,.rs aB 0 r.2.2.aa.length 4,.rs aC 0 r.2.2.ae.length 1])::(aB,.sl r.2.2.aa.length 4 (ah.l r.2.2.aa))::(aC,.sl r.2.2.ae.length 1 (af.l r.2.2.ae))::L)
section
variable {cf:CallF}{m:Nat}
theorem ll {aV:FuncId→b4}(ha:aV 16=Au)(D9:LK cf m)(II:NC cf m)(IJ:Ng cf m)(IK:NK cf m)(s0:ab)(a0:Int)(b0:Int)(h:AHeap)(L:Mem)(aq:Nat)(ak:Nat)(an:Nat)  (o:Has h ((aq,.ob [.bool s0.aj,.rs ak 0 s0.aa.length 4,.rs an 0 s0.ae.length 1])::(ak,.sl s0.aa.length 4 (ah.l s0.aa))::(an,.sl s0.ae.length 1 (af.l s0.ae))::L)){out:(List Int) × Int × ab}(H:cV.f m s0 a0 b0=some out) :
  ∃r h',ba Try.prog aV cf m 16 [.ptr aq 0,.int .i64 a0,.int .i64 b0] h=some (r,h')∧∃dI aB aC:Nat,r = .tup [.rs dI 0 out.1.length 1,.int .i64 out.2.1]∧Has h' ((dI,.sl out.1.length 1 (af.l out.1))::(aq,.ob [.bool out.2.2.aj,.rs aB 0 out.2.2.aa.length 4,.rs aC 0 out.2.2.ae.length 1])::(aB,.sl out.2.2.aa.length 4 (ah.l out.2.2.aa))::(aC,.sl out.2.2.ae.length 1 (af.l out.2.2.ae))::L):=by
 refine ar (fn:=Try.f16) ha Try.func16 (by kernel_rfl) (by kernel_rfl) ?_
 refine aI (Q:=fun s=>cV.fin L aq ak an s0 a0 b0 out s) (fun _ _ ⟨h1,dI,aB,aC,h2,h3⟩=>⟨h1,_,h2,dI,aB,aC,rfl,h3⟩) ?_
 have H:_=some out:=H
 unfold cV.f at H
 show dt _ cf Au m _ ⟨.ptr aq 0 :: .int .i64 a0 :: .int .i64 b0::H3 [],[],h⟩ _
 refine q1 <| qq <| qq ?_
 obtain⟨x0,e0,H⟩:=bl H
 refine qr [.a 4 (D9 _ _ _ e0 h _ (gm (ai (dV (q:=0) o rfl (ai (gi) (ai (eK (E:=ah) (l:=s0.aa) (q:=1) o rfl (fun _=>rfl)) (ai (eK (E:=af) (l:=s0.ae) (q:=2) o rfl (fun _=>rfl)) (ay))))) (ai (rP (E:=af) (l:=[a0,b0]) (cs:=[.int .i64 a0,.int .i64 b0]) (b:=true) (by kernel_rfl) (by kernel_rfl) rfl) (ay)))))] <| qq <| q0 <| qc H (fun c0 H=>?_) (fun c0 H=>?_)
 ·refine q1 ?_
  have o0:Has h (((0),.sl (([]:List Int).length) 1 (af.l ([]:List Int)))::(aq,.ob [.bool s0.aj,.rs ak 0 s0.aa.length 4,.rs an 0 s0.ae.length 1])::(ak,.sl s0.aa.length 4 (ah.l s0.aa))::(an,.sl s0.ae.length 1 (af.l s0.ae))::L):=Has.nil o 1
  obtain rfl:=oi H
  exact qt <| ⟨.inl rfl,⟨(0),ak,an,by kernel_rfl,he o0⟩⟩
 ·refine qk <| qq ?_
  obtain⟨x1,e1,H⟩:=bl H
  obtain⟨aH,di,ez,h0,e2,o1⟩:=II _ _ _ _ e1 h _ _ _ _ (o)  [.ptr aq 0,.int .i64 a0,.int .i64 b0] (au (rfl) (au (aN (bf)) (au (aN (bf)) (bI))))
  refine qr [.a 3 e2] <| qq <| qq <| q0 <| qc H (fun c1 H=>?_) (fun c1 H=>?_)
  ·refine qq ?_
   obtain⟨h1,e3,o2⟩:=rO (E:=af) (l:=x1.1) (q:=0) o1 rfl
   obtain⟨x2,e4,H⟩:=bl H
   obtain⟨dd,eU,h2,e5,o3⟩:=IJ _ _ _ e4 h1 _ _ _ _ (o2)  [.ptr aq 0,af.fz x1.1] (au (rfl) (au (aN (ng (E:=af))) (bI)))
   refine Kq [.a 0 e3] [.a 2 e5] <| qq <| q0 ?_
   have o4:Has h2 ((((0)),.sl (([]:List Int).length) 1 (af.l ([]:List Int)))::(aq,.ob [.bool x2.aj,.rs dd 0 x2.aa.length 4,.rs eU 0 x2.ae.length 1])::(dd,.sl x2.aa.length 4 (ah.l x2.aa))::(eU,.sl x2.ae.length 1 (af.l x2.ae))::L):=Has.nil o3 1
   obtain rfl:=oi H
   exact qt <| ⟨.inl rfl,⟨((0)),dd,eU,by kernel_rfl,he o4⟩⟩
  ·refine qk <| qq ?_
   obtain⟨x3,e6,H⟩:=bl H
   obtain⟨fX,h3,e7,o5,Fp⟩:=IK _ _ _ e6 h0 _ _ o1 (gm (ai (dV (q:=1) o1 rfl (ai (gi) (ai (eK (E:=ah) (l:=x1.2.2.aa) (q:=2) o1 rfl (fun _=>rfl)) (ai (eK (E:=af) (l:=x1.2.2.ae) (q:=3) o1 rfl (fun _=>rfl)) (ay))))) (ai (eK (E:=af) (l:=x1.1) (q:=0) o1 rfl (fun _=>rfl)) (ay))))
   refine qr [.a 2 e7] ?_
   have o6:Has h3 ((fX,.sl x3.length 1 (af.l x3))::(aq,.ob [.bool x1.2.2.aj,.rs di 0 x1.2.2.aa.length 4,.rs ez 0 x1.2.2.ae.length 1])::(di,.sl x1.2.2.aa.length 4 (ah.l x1.2.2.aa))::(ez,.sl x1.2.2.ae.length 1 (af.l x1.2.2.ae))::L):=Has.del o5 1
   obtain rfl:=oi H
   exact qt <| ⟨.inl rfl,⟨fX,di,ez,by kernel_rfl,he o6⟩⟩
end
end Go.Proofs.Ytifafejidnjckaa
namespace Go.Proofs.Ytifafejidnjckaa
open Go Go.R
open Go.IntKind (i64 u64 u8 u32)
def Av:b4:=gK [0,1,4,5,6,12] [4] [56,40,8,51,51] [] [(0,[(4,some 3,1)]),(3,[(4,some 3,1)])]
def cm.f (m:Nat)(s0:ab)(n0:Int):Option (ao × Int):=(bS.f m s0 ([n0])).bind fun x0=>if (!(x0==(0:Int)))=true then (some ((ao.mk (0:Int) (0:Int) (UU #[]) ([]:List Int)),x0)) else ((a6.f m s0 n0).bind fun x1=>(a7.f m s0 x1).bind fun x2=>some (x2,(0:Int)))
def cm.fin (L:Mem)  (r:ao × Int)(s:St):Prop:=∃dI:Nat,aM Try.prog (s.open Av) Try.f20.results.toList=some (.tup [.agg [.int .i64 r.1.kind,.int .i64 r.1.int,.str r.1.label,.rs dI 0 r.1.args.length 1],.int .i64 r.2])∧Has s.h ((dI,.sl r.1.args.length 1 (af.l r.1.args))::L)
def NZ (cf:CallF)(m:Nat):Prop:=∀(s0:ab) (n0:Int) (r:ao × Int),cm.f m s0 n0=some r→∀h L xs,Has h L→aP bQ h xs [.fp [.bool s0.aj,ah.fz s0.aa,af.fz s0.ae] 0,.int .i64 n0]→∃dI h',cf 20 xs h=some (.tup [.agg [.int .i64 r.1.kind,.int .i64 r.1.int,.str r.1.label,.rs dI 0 r.1.args.length 1],.int .i64 r.2],h')∧Has h' ((dI,.sl r.1.args.length 1 (af.l r.1.args))::L)∧∀j,j<h.next→h.ver j=h'.ver j
section
variable {cf:CallF}{m:Nat}
theorem ln {aV:FuncId→b4}(ha:aV 20=Av)(D9:LK cf m)(N0:PS cf m)(sW:Jv cf m)(s0:ab)(n0:Int)(h:AHeap)(L:Mem)  (o:Has h (L)){out:ao × Int}(H:cm.f m s0 n0=some out) :
  ∃r h',ba Try.prog aV cf m 20 [.fp [.bool s0.aj,ah.fz s0.aa,af.fz s0.ae] 0,.int .i64 n0] h=some (r,h')∧∃dI:Nat,r = .tup [.agg [.int .i64 out.1.kind,.int .i64 out.1.int,.str out.1.label,.rs dI 0 out.1.args.length 1],.int .i64 out.2]∧Has h' ((dI,.sl out.1.args.length 1 (af.l out.1.args))::L):=by
 refine ar (fn:=Try.f20) ha Try.func20 (by kernel_rfl) (by kernel_rfl) ?_
 refine aI (Q:=fun s=>cm.fin L out s) (fun _ _ ⟨h1,dI,h2,h3⟩=>⟨h1,_,h2,dI,rfl,h3⟩) ?_
 have H:_=some out:=H
 unfold cm.f at H
 show dt _ cf Av m _ ⟨.fp [.bool s0.aj,ah.fz s0.aa,af.fz s0.ae] 0 :: .int .i64 n0::nK [],[none],h⟩ _
 refine q1 ?_
 have o0:Has h (((0),.sl (([]:List Int).length) 1 (af.l ([]:List Int)))::L):=Has.nil o 1
 refine qq <| qq ?_
 obtain⟨x0,e0,H⟩:=bl H
 refine qr [.a 3 (D9 _ _ _ e0 h _ (gm (ai (gj (pure_cons (dO) (pure_cons (bL.bH (E:=ah) (l:=s0.aa)) (pure_cons (bL.bH (E:=af) (l:=s0.ae)) (pure_nil))))) (ai (rP (E:=af) (l:=[n0]) (cs:=[.int .i64 n0]) (b:=true) (by kernel_rfl) (by kernel_rfl) rfl) (ay)))))] <| qq <| q0 <| qc H (fun c0 H=>?_) (fun c0 H=>?_)
 ·refine q1 ?_
  have o1:Has h ((((0)),.sl (([]:List Int).length) 1 (af.l ([]:List Int)))::((0),.sl (([]:List Int).length) 1 (af.l ([]:List Int)))::L):=Has.nil o0 1
  have o2:Has h ((((0)),.sl (([]:List Int).length) 1 (af.l ([]:List Int)))::L):=Has.del o1 1
  obtain rfl:=oi H
  exact qt <| ⟨.inl rfl,⟨((0)),by kernel_rfl,he o2⟩⟩
 ·refine qk <| qq ?_
  obtain⟨x1,e1,H⟩:=bl H
  obtain⟨x2,e2,H⟩:=bl H
  obtain⟨aH,h0,e3,o3,Fp⟩:=N0 _ _ _ e2 h _ _ o0 (gm (ai (gj (pure_cons (dO) (pure_cons (bL.bH (E:=ah) (l:=s0.aa)) (pure_cons (bL.bH (E:=af) (l:=s0.ae)) (pure_nil))))) (ai (br) (ay))))
  refine qr [.a 3 (sW _ _ _ e1 h _ (gm (ai (gj (pure_cons (dO) (pure_cons (bL.bH (E:=ah) (l:=s0.aa)) (pure_cons (bL.bH (E:=af) (l:=s0.ae)) (pure_nil))))) (ai (br) (ay))))),.a 4 e3] ?_
  have o4:Has h0 ((aH,.sl x2.args.length 1 (af.l x2.args))::L):=Has.del o3 1
  obtain rfl:=oi H
  exact qt <| ⟨.inl rfl,⟨aH,by kernel_rfl,he o4⟩⟩
end
end Go.Proofs.Ytifafejidnjckaa
namespace Go.Proofs.Ytifafejidnjckaa
open Go Go.R
open Go.IntKind (i64 u64 u8 u32)
def Aw:b4:=gK [0,1,2,6,7,8,9,10,11,12,19,34,37] [] [8184,8120,7096,8135,7806,7806,7423,5631,8135,3583,8135,8135] [(5,[(10,none,0)])] [(0,[(7,none,1)]),(3,[(7,none,1)]),(8,[(7,none,1)]),(10,[(7,none,1)])]
def dm.f (m:Nat)(s0:ab)(a0:Int)(b0:Int):Option (Int × (List Int) × Int × ab):=(bS.f m s0 ([a0,b0])).bind fun x0=>if (!(x0==(0:Int)))=true then (some ((0:Int),([]:List Int),x0,s0)) else ((az.f m s0 a0 b0).bind fun x1=>(bb.f m x1.2.2 x1.1).bind fun x2=>(ck.f m x2 x1.1).bind fun x3=>if (!x1.2.1)=true then (some ((0:Int),([]:List Int),(0:Int),x2)) else (if ((x3.length:Int)==(0:Int))=true then (some ((1:Int),([]:List Int),(0:Int),x2)) else (some ((-1:Int),x3,(0:Int),x2))))
def dm.fin (L:Mem)(aq:Nat)(ak:Nat)(an:Nat)(s0:ab)(a0:Int)(b0:Int)(r:Int × (List Int) × Int × ab)(s:St):Prop:=∃Cz aB aC:Nat,aM Try.prog (s.open Aw) Try.f23.results.toList=some (.tup [.int .i64 r.1,.rs Cz 0 r.2.1.length 1,.int .i64 r.2.2.1])∧Has s.h ((Cz,.sl r.2.1.length 1 (af.l r.2.1))::(aq,.ob [.bool r.2.2.2.aj,.rs aB 0 r.2.2.2.aa.length 4,.rs aC 0 r.2.2.2.ae.length 1])::(aB,.sl r.2.2.2.aa.length 4 (ah.l r.2.2.2.aa))::(aC,.sl r.2.2.2.ae.length 1 (af.l r.2.2.2.ae))::L)
def Qa (cf:CallF)(m:Nat):Prop:=∀(s0:ab) (a0:Int) (b0:Int) (r:Int × (List Int) × Int × ab),dm.f m s0 a0 b0=some r→∀h L (aq:Nat) (ak:Nat) (an:Nat),Has h ((aq,.ob [.bool s0.aj,.rs ak 0 s0.aa.length 4,.rs an 0 s0.ae.length 1])::(ak,.sl s0.aa.length 4 (ah.l s0.aa))::(an,.sl s0.ae.length 1 (af.l s0.ae))::L)→∀xs,xs.map aK=[.ptr aq 0,.int .i64 a0,.int .i64 b0]→∃Cz aB aC h',cf 23 xs h=some (.tup [.int .i64 r.1,.rs Cz 0 r.2.1.length 1,.int .i64 r.2.2.1],h')∧Has h' ((Cz,.sl r.2.1.length 1 (af.l r.2.1))::(aq,.ob [.bool r.2.2.2.aj,.rs aB 0 r.2.2.2.aa.length 4,.rs aC 0 r.2.2.2.ae.length 1])::(aB,.sl r.2.2.2.aa.length 4 (ah.l r.2.2.2.aa))::(aC,.sl r.2.2.2.ae.length 1 (af.l r.2.2.2.ae))::L)
section
variable {cf:CallF}{m:Nat}
theorem lK {aV:FuncId→b4}(ha:aV 23=Aw)(D9:LK cf m)(II:NC cf m)(IJ:Ng cf m)(IK:NK cf m)(s0:ab)(a0:Int)(b0:Int)(h:AHeap)(L:Mem)(aq:Nat)(ak:Nat)(an:Nat)  (o:Has h ((aq,.ob [.bool s0.aj,.rs ak 0 s0.aa.length 4,.rs an 0 s0.ae.length 1])::(ak,.sl s0.aa.length 4 (ah.l s0.aa))::(an,.sl s0.ae.length 1 (af.l s0.ae))::L)){out:Int × (List Int) × Int × ab}(H:dm.f m s0 a0 b0=some out) :
  ∃r h',ba Try.prog aV cf m 23 [.ptr aq 0,.int .i64 a0,.int .i64 b0] h=some (r,h')∧∃Cz aB aC:Nat,r = .tup [.int .i64 out.1,.rs Cz 0 out.2.1.length 1,.int .i64 out.2.2.1]∧Has h' ((Cz,.sl out.2.1.length 1 (af.l out.2.1))::(aq,.ob [.bool out.2.2.2.aj,.rs aB 0 out.2.2.2.aa.length 4,.rs aC 0 out.2.2.2.ae.length 1])::(aB,.sl out.2.2.2.aa.length 4 (ah.l out.2.2.2.aa))::(aC,.sl out.2.2.2.ae.length 1 (af.l out.2.2.2.ae))::L):=by
 refine ar (fn:=Try.f23) ha Try.func23 (by kernel_rfl) (by kernel_rfl) ?_
 refine aI (Q:=fun s=>dm.fin L aq ak an s0 a0 b0 out s) (fun _ _ ⟨h1,Cz,aB,aC,h2,h3⟩=>⟨h1,_,h2,Cz,aB,aC,rfl,h3⟩) ?_
 have H:_=some out:=H
 unfold dm.f at H
 show dt _ cf Aw m _ ⟨.ptr aq 0 :: .int .i64 a0 :: .int .i64 b0::Ko [],[],h⟩ _
 refine q1 <| qq <| qq ?_
 obtain⟨x0,e0,H⟩:=bl H
 refine qr [.a 4 (D9 _ _ _ e0 h _ (gm (ai (dV (q:=0) o rfl (ai (gi) (ai (eK (E:=ah) (l:=s0.aa) (q:=1) o rfl (fun _=>rfl)) (ai (eK (E:=af) (l:=s0.ae) (q:=2) o rfl (fun _=>rfl)) (ay))))) (ai (rP (E:=af) (l:=[a0,b0]) (cs:=[.int .i64 a0,.int .i64 b0]) (b:=true) (by kernel_rfl) (by kernel_rfl) rfl) (ay)))))] <| qq <| q0 <| qc H (fun c0 H=>?_) (fun c0 H=>?_)
 ·refine q1 ?_
  have o0:Has h (((0),.sl (([]:List Int).length) 1 (af.l ([]:List Int)))::(aq,.ob [.bool s0.aj,.rs ak 0 s0.aa.length 4,.rs an 0 s0.ae.length 1])::(ak,.sl s0.aa.length 4 (ah.l s0.aa))::(an,.sl s0.ae.length 1 (af.l s0.ae))::L):=Has.nil o 1
  obtain rfl:=oi H
  exact qt <| ⟨.inl rfl,⟨(0),ak,an,by kernel_rfl,he o0⟩⟩
 ·refine qk <| qq ?_
  obtain⟨x1,e1,H⟩:=bl H
  obtain⟨aH,di,ez,h0,e2,o1⟩:=II _ _ _ _ e1 h _ _ _ _ (o)  [.ptr aq 0,.int .i64 a0,.int .i64 b0] (au (rfl) (au (aN (bf)) (au (aN (bf)) (bI))))
  refine qr [.a 3 e2] <| qq ?_
  obtain⟨h1,e3,o2⟩:=rO (E:=af) (l:=x1.1) (q:=0) o1 rfl
  obtain⟨x2,e4,H⟩:=bl H
  obtain⟨dd,eU,h2,e5,o3⟩:=IJ _ _ _ e4 h1 _ _ _ _ (o2)  [.ptr aq 0,af.fz x1.1] (au (rfl) (au (aN (ng (E:=af))) (bI)))
  refine Kq [.a 0 e3] [.a 2 e5] <| qq ?_
  obtain⟨x3,e6,H⟩:=bl H
  obtain⟨fX,h3,e7,o4,Fp⟩:=IK _ _ _ e6 h2 _ _ o3 (gm (ai (dV (q:=0) o3 rfl (ai (gi) (ai (eK (E:=ah) (l:=x2.aa) (q:=1) o3 rfl (fun _=>rfl)) (ai (eK (E:=af) (l:=x2.ae) (q:=2) o3 rfl (fun _=>rfl)) (ay))))) (ai (fT (E:=af)) (ay))))
  refine qr [.a 2 e7] <| qq <| qb 0 <| qq <| q0 <| qc H (fun c1 H=>?_) (fun c1 H=>?_)
  ·refine q1 ?_
   have o5:Has h3 ((((0)),.sl (([]:List Int).length) 1 (af.l ([]:List Int)))::(fX,.sl x3.length 1 (af.l x3))::(aq,.ob [.bool x2.aj,.rs dd 0 x2.aa.length 4,.rs eU 0 x2.ae.length 1])::(dd,.sl x2.aa.length 4 (ah.l x2.aa))::(eU,.sl x2.ae.length 1 (af.l x2.ae))::L):=Has.nil o4 1
   have o6:Has h3 ((((0)),.sl (([]:List Int).length) 1 (af.l ([]:List Int)))::(aq,.ob [.bool x2.aj,.rs dd 0 x2.aa.length 4,.rs eU 0 x2.ae.length 1])::(dd,.sl x2.aa.length 4 (ah.l x2.aa))::(eU,.sl x2.ae.length 1 (af.l x2.ae))::L):=Has.del o5 1
   obtain rfl:=oi H
   exact qt <| ⟨.inl rfl,⟨((0)),dd,eU,by kernel_rfl,he o6⟩⟩
  ·refine q1 <| qc H (fun c2 H=>?_) (fun c2 H=>?_)
   ·refine q1 ?_
    have o7:Has h3 (((((0))),.sl (([]:List Int).length) 1 (af.l ([]:List Int)))::(fX,.sl x3.length 1 (af.l x3))::(aq,.ob [.bool x2.aj,.rs dd 0 x2.aa.length 4,.rs eU 0 x2.ae.length 1])::(dd,.sl x2.aa.length 4 (ah.l x2.aa))::(eU,.sl x2.ae.length 1 (af.l x2.ae))::L):=Has.nil o4 1
    have o8:Has h3 (((((0))),.sl (([]:List Int).length) 1 (af.l ([]:List Int)))::(aq,.ob [.bool x2.aj,.rs dd 0 x2.aa.length 4,.rs eU 0 x2.ae.length 1])::(dd,.sl x2.aa.length 4 (ah.l x2.aa))::(eU,.sl x2.ae.length 1 (af.l x2.ae))::L):=Has.del o7 1
    obtain rfl:=oi H
    exact qt <| ⟨.inl rfl,⟨(((0))),dd,eU,by kernel_rfl,he o8⟩⟩
   ·obtain rfl:=oi H
    exact qk <| qq <| q0 <| qt <| ⟨.inl rfl,⟨fX,dd,eU,by kernel_rfl,he o4⟩⟩
end
end Go.Proofs.Ytifafejidnjckaa
namespace Go.Proofs.Ytifafejidnjckaa
open Go Go.R
open Go.IntKind (i64 u64 u8 u32)
def qA.f (m:Nat)(s0:ab)(n0:Int):Option (Int × Int):=(bS.f m s0 ([n0])).bind fun x0=>if (!(x0==(0:Int)))=true then (some ((0:Int),x0)) else ((a6.f m s0 n0).bind fun x1=>some (x1,(0:Int)))
end Go.Proofs.Ytifafejidnjckaa
namespace Go.Proofs.Ytifafejidnjckaa
open Go Go.R
open Go.IntKind (i64 u64 u8 u32)
def Ax:b4:=gK [0,1,2,3,4,5,6,7,8] [1000000014] [455,199,319] [] []
def dH.f (m:Nat)(s0:ab)(b8:ByteArray)(dj:List Int):Option (Int × Int × ab):=(Dy 1 dj).bind fun x0=>(bW.f m s0 (cd.f m b8 dj s0) (ao.mk (3:Int) (0:Int) b8 x0)).bind fun x1=>some (x1.1,x1.2.1,x1.2.2)
def dH.fin (L:Mem)(aq:Nat)(ak:Nat)(an:Nat)(s0:ab)(b8:ByteArray)(dj:List Int)(r:Int × Int × ab)(s:St):Prop:=∃aB aC:Nat,aM Try.prog (s.open Ax) Try.f34.results.toList=some (.tup [.int .i64 r.1,.int .i64 r.2.1])∧Has s.h ((aq,.ob [.bool r.2.2.aj,.rs aB 0 r.2.2.aa.length 4,.rs aC 0 r.2.2.ae.length 1])::(aB,.sl r.2.2.aa.length 4 (ah.l r.2.2.aa))::(aC,.sl r.2.2.ae.length 1 (af.l r.2.2.ae))::L)
def Qb (cf:CallF)(m:Nat):Prop:=∀(s0:ab) (b8:ByteArray) (dj:List Int) (r:Int × Int × ab),dH.f m s0 b8 dj=some r→∀h L (aq:Nat) (ak:Nat) (an:Nat),Has h ((aq,.ob [.bool s0.aj,.rs ak 0 s0.aa.length 4,.rs an 0 s0.ae.length 1])::(ak,.sl s0.aa.length 4 (ah.l s0.aa))::(an,.sl s0.ae.length 1 (af.l s0.ae))::L)→∀xs,xs.map aK=[.ptr aq 0,.str b8,af.fz dj]→∃aB aC h',cf 34 xs h=some (.tup [.int .i64 r.1,.int .i64 r.2.1],h')∧Has h' ((aq,.ob [.bool r.2.2.aj,.rs aB 0 r.2.2.aa.length 4,.rs aC 0 r.2.2.ae.length 1])::(aB,.sl r.2.2.aa.length 4 (ah.l r.2.2.aa))::(aC,.sl r.2.2.ae.length 1 (af.l r.2.2.ae))::L)
section
variable {cf:CallF}{m:Nat}
theorem lq {aV:FuncId→b4}(ha:aV 34=Ax)(DV:Nd cf m)(vf:Jw cf m)(N1:P6 cf m)(s0:ab)(b8:ByteArray)(dj:List Int)(h:AHeap)(L:Mem)(aq:Nat)(ak:Nat)(an:Nat)  (o:Has h ((aq,.ob [.bool s0.aj,.rs ak 0 s0.aa.length 4,.rs an 0 s0.ae.length 1])::(ak,.sl s0.aa.length 4 (ah.l s0.aa))::(an,.sl s0.ae.length 1 (af.l s0.ae))::L)){out:Int × Int × ab}(H:dH.f m s0 b8 dj=some out) :
  ∃r h',ba Try.prog aV cf m 34 [.ptr aq 0,.str b8,af.fz dj] h=some (r,h')∧∃aB aC:Nat,r = .tup [.int .i64 out.1,.int .i64 out.2.1]∧Has h' ((aq,.ob [.bool out.2.2.aj,.rs aB 0 out.2.2.aa.length 4,.rs aC 0 out.2.2.ae.length 1])::(aB,.sl out.2.2.aa.length 4 (ah.l out.2.2.aa))::(aC,.sl out.2.2.ae.length 1 (af.l out.2.2.ae))::L):=by
 refine ar (fn:=Try.f34) ha Try.func34 (by kernel_rfl) (by kernel_rfl) ?_
 refine aI (Q:=fun s=>dH.fin L aq ak an s0 b8 dj out s) (fun _ _ ⟨h1,aB,aC,h2,h3⟩=>⟨h1,_,h2,aB,aC,rfl,h3⟩) ?_
 have H:_=some out:=H
 unfold dH.f at H
 show dt _ cf Ax m _ ⟨.ptr aq 0 :: .str b8::af.fz dj::vD [],[none],h⟩ _
 refine qq ?_
 obtain⟨aH,h0,e0,o0⟩:=gd (cs:=[.ptr aq 0]) o (by kernel_rfl)
 obtain⟨di,h1,e1,o1⟩:=gd (cs:=[.str b8]) o0 (by kernel_rfl)
 obtain⟨ez,h2,e2,o2⟩:=gd (cs:=[af.fz dj]) o1 (by kernel_rfl)
 refine qr [.a 0 e0,.a 1 e1,.a 2 e2] <| qq <| q0 <| qq ?_
 obtain⟨x0,e3,H⟩:=bl H
 obtain⟨dd,h3,e4,o3⟩:=G6 (E:=af) (l:=dj) DV o2 e3
 obtain⟨h4,e5,o4⟩:=rO (E:=af) (l:=x0) (q:=0) o3 rfl
 obtain⟨x1,e6,H⟩:=bl H
 obtain⟨eU,fX,h5,e7,o5⟩:=vf _ _ _ _ e6 h4 _ _ _ _ ((Has.front (Has.front (Has.front (Has.front (Has.front (Has.front o4 2 rfl) 2 rfl) 2 rfl) 5 rfl) 5 rfl) 5 rfl)) 61 [.ptr di 0,.ptr ez 0,.ptr aH 0] [.fp [.str b8] 0,.fp [af.fz dj] 0,.fp [.fp [.bool s0.aj,ah.fz s0.aa,af.fz s0.ae] 0] 0] rfl (fun h' sV  r hr hx=>N1 _ _ _ r hr h' sV hx) (fun h' K' o'=>iA (ai (dV (q:=(K'.length+4)) o' (iW rfl) (ai (cH) (ay))) (ai (dV (q:=(K'.length+3)) o' (iW rfl) (ai (fT (E:=af)) (ay))) (ai (dV (q:=(K'.length+5)) o' (iW rfl) (ai (dV (q:=(K'.length+0)) o' (iW rfl) (ai (gi) (ai (eK (E:=ah) (l:=s0.aa) (q:=(K'.length+1)) o' (iW rfl) (fun _=>rfl)) (ai (eK (E:=af) (l:=s0.ae) (q:=(K'.length+2)) o' (iW rfl) (fun _=>rfl)) (ay))))) (ay))) (ay))))) (fun h_=>iA (ai (gj (pure_cons (l8) (pure_nil))) (ai (gj (pure_cons (bL.bH (E:=af) (l:=dj)) (pure_nil))) (ai (gj (pure_cons (k8 (pure_cons (dO) (pure_cons (bL.bH (E:=ah) (l:=s0.aa)) (pure_cons (bL.bH (E:=af) (l:=s0.ae)) (pure_nil))))) (pure_nil))) (ay))))) [.ptr aq 0,.fn 61 [.ptr di 0,.ptr ez 0,.ptr aH 0],.agg [.int .i64 (3:Int),.int .i64 (0:Int),.str b8,af.fz x0]] (au (rfl) (au (rfl) (au (aN (mb (bO (bf) (bO (bf) (bO (j6) (bO (ng (E:=af)) (ma))))))) (bI))))
 refine Ku [] [.v 0 (show bn Try.prog h2 28 (.ptr aH 0)=some (.ptr aq 0) from bV (q:=2) (cs:=[.ptr aq 0]) o2 rfl (by kernel_rfl)),.v 2 (show bn Try.prog h2 9 (.ptr di 0)=some (.str b8) from bV (q:=1) (cs:=[.str b8]) o2 rfl (by kernel_rfl)),.v 3 (show bn Try.prog h2 33 (.ptr ez 0)=some (af.fz dj) from bV (q:=0) (cs:=[af.fz dj]) o2 rfl (by kernel_rfl)),.a 4 (Kv e4 e5),.a 6 e7] [.mk ((DE DV o2 (q2:=2) rfl e4).trans (DG (E:=af) (l:=x0) o3 (q:=0) (q2:=3) rfl rfl e5)),.mk ((DE DV o2 (q2:=1) rfl e4).trans (DG (E:=af) (l:=x0) o3 (q:=0) (q2:=2) rfl rfl e5))] ?_
 have o6:Has h5 ((aq,.ob [.bool x1.2.2.aj,.rs eU 0 x1.2.2.aa.length 4,.rs fX 0 x1.2.2.ae.length 1])::(eU,.sl x1.2.2.aa.length 4 (ah.l x1.2.2.aa))::(fX,.sl x1.2.2.ae.length 1 (af.l x1.2.2.ae))::(ez,.ob [af.fz dj])::(di,.ob [.str b8])::L):=Has.del o5 5
 have o7:Has h5 ((aq,.ob [.bool x1.2.2.aj,.rs eU 0 x1.2.2.aa.length 4,.rs fX 0 x1.2.2.ae.length 1])::(eU,.sl x1.2.2.aa.length 4 (ah.l x1.2.2.aa))::(fX,.sl x1.2.2.ae.length 1 (af.l x1.2.2.ae))::(ez,.ob [af.fz dj])::L):=Has.del o6 4
 have o8:Has h5 ((aq,.ob [.bool x1.2.2.aj,.rs eU 0 x1.2.2.aa.length 4,.rs fX 0 x1.2.2.ae.length 1])::(eU,.sl x1.2.2.aa.length 4 (ah.l x1.2.2.aa))::(fX,.sl x1.2.2.ae.length 1 (af.l x1.2.2.ae))::L):=Has.del o7 3
 obtain rfl:=oi H
 exact qt <| ⟨.inl rfl,⟨eU,fX,by kernel_rfl,he o8⟩⟩
end
end Go.Proofs.Ytifafejidnjckaa
namespace Go.Proofs.Ytifafejidnjckaa
open Go Go.R
open Go.IntKind (i64 u64 u8 u32)
def Ay:b4:=gK [0,1] [] [2,1] [] []
def de.f (m:Nat)(x0:ByteArray):Option (Bool):=(fi.f m x0).bind fun x1=>some x1
def de.fin (L:Mem)(r:Bool)(s:St):Prop:=∃av,aM Try.prog (s.open Ay) Try.f49.results.toList=some av∧fL s.h av (.bool r)
def Qc (cf:CallF)(m:Nat):Prop:=∀(x0:ByteArray) (r:Bool),de.f m x0=some r→∀h xs,aP bQ h xs [.fp [.str x0] 0]→cf 49 xs h=some (.bool r,h)
section
variable {cf:CallF}{m:Nat}
theorem kG {aV:FuncId→b4}(ha:aV 49=Ay)(pw:LL cf m)(x0:ByteArray)(h:AHeap)(L:Mem)  (o:Has h (L)){out:Bool}(H:de.f m x0=some out) :
  ∃r h',ba Try.prog aV cf m 49 [.fp [.str x0] 0] h=some (r,h')∧fL h' r (.bool out):=by
 refine ar (fn:=Try.f49) ha Try.func49 (by kernel_rfl) (by kernel_rfl) ?_
 refine aI (Q:=fun s=>de.fin L out s) (fun _ _ h=>h) ?_
 have H:_=some out:=H
 unfold de.f at H
 show dt _ cf Ay m _ ⟨[.fp [.str x0] 0,.any],[],h⟩ _
 refine q1 <| qq ?_
 obtain⟨x1,e0,H⟩:=bl H
 obtain rfl:=oi H
 exact qr [.a 1 (pw _ _ e0 h _ (gm (ai (cH) (ay))))] <| qt <| ⟨.inl rfl,dz (.bool x1) h (du (aD))⟩
end
end Go.Proofs.Ytifafejidnjckaa
namespace Go.Proofs.Ytifafejidnjckaa
open Go Go.R
open Go.IntKind (i64 u64 u8 u32)
def Az:b4:=gK [0,1,2,3] [2] [9,7] [] []
def fJ.f (m:Nat)(n0:ao)(x0:bu):Option (Bool):=(hY.f m n0 (x0.nodes.length:Int)).bind fun x1=>some (!x1)
def fJ.fin (L:Mem)(r:Bool)(s:St):Prop:=∃av,aM Try.prog (s.open Az) Try.f66.results.toList=some av∧fL s.h av (.bool r)
def Qd (cf:CallF)(m:Nat):Prop:=∀(n0:ao) (x0:bu) (r:Bool),fJ.f m n0 x0=some r→∀h xs,aP bQ h xs [.agg [.int .i64 n0.kind,.int .i64 n0.int,.str n0.label,af.fz n0.args],.fp [ah.fz x0.nodes,.int .i64 x0.root] 0]→cf 66 xs h=some (.bool r,h)
section
variable {cf:CallF}{m:Nat}
theorem oF {aV:FuncId→b4}(ha:aV 66=Az)(N2:P7 cf m)(n0:ao)(x0:bu)(h:AHeap)(L:Mem)  (o:Has h (L)){out:Bool}(H:fJ.f m n0 x0=some out) :
  ∃r h',ba Try.prog aV cf m 66 [.agg [.int .i64 n0.kind,.int .i64 n0.int,.str n0.label,af.fz n0.args],.fp [ah.fz x0.nodes,.int .i64 x0.root] 0] h=some (r,h')∧fL h' r (.bool out):=by
 refine ar (fn:=Try.f66) ha Try.func66 (by kernel_rfl) (by kernel_rfl) ?_
 refine aI (Q:=fun s=>fJ.fin L out s) (fun _ _ h=>h) ?_
 have H:_=some out:=H
 unfold fJ.f at H
 show dt _ cf Az m _ ⟨[.agg [.int .i64 n0.kind,.int .i64 n0.int,.str n0.label,af.fz n0.args],.fp [ah.fz x0.nodes,.int .i64 x0.root] 0,.any,.any],[none],h⟩ _
 refine q1 <| qq ?_
 obtain⟨x1,e0,H⟩:=bl H
 obtain rfl:=oi H
 exact qr [.a 4 (N2 _ _ _ e0 h _ (gm (ai (jB (ai (br) (ai (br) (ai (cH) (ai (fT (E:=af)) (ay)))))) (ai (br) (ay)))))] <| qt <| ⟨.inl rfl,dz (.bool (!x1)) h (du (aD))⟩
end
end Go.Proofs.Ytifafejidnjckaa
namespace Go.Proofs.Ytifafejidnjckaa
open Go Go.R
open Go.IntKind (i64 u64 u8 u32)
end Go.Proofs.Ytifafejidnjckaa
namespace Go.Proofs.Ytifafejidnjckaa
open Go Go.R
open Go.IntKind (i64 u64 u8 u32)
def sk:b4:=gK [0,1,2,6,7,8,9,13,30,35,54] [] [2032,1984,1856,2000,1984,1984,2032,1776,1984,1472,2000,1984,1984,1952,928,2032,2032] [] []
def bM.l0 (m:Nat)(n0:Int)(aS:Int→Int→Option (Int)):Nat→(List Int)→Int→Int→Option ((List Int) × Int × Int)
 | 0,_,_,_=>none
 | k+1,bk,a0,b0=>if (decide (b0≤n0))=true then ((aU.f m bk a0 b0 aS).bind fun x0=>bM.l0 m n0 aS k x0 b0 (i64.wrap (b0+(20:Int)))) else (some ((bk,a0,b0)))
def bM.l2 (m:Nat)(n0:Int)(aS:Int→Int→Option (Int))(be:Int):Nat→(List Int)→Int→Int→Option ((List Int) × Int × Int)
 | 0,_,_,_=>none
 | k+1,iY,a2,b2=>if (decide (b2≤n0))=true then ((aG.f m m iY a2 (i64.wrap (a2+be)) b2 aS).bind fun x2=>bM.l2 m n0 aS be k x2 b2 (i64.wrap (b2+i64.wrap ((2:Int)*be)))) else (some ((iY,a2,b2)))
def bM.l1 (m:Nat)(n0:Int)(aS:Int→Int→Option (Int)):Nat→(List Int)→Int→Option ((List Int) × Int)
 | 0,_,_=>none
 | k+1,dD,be=>if (decide (be<n0))=true then ((bM.l2 m n0 aS be m dD (0:Int) (i64.wrap ((2:Int)*be))).bind fun dE=>match dE with | (kF,a3,b3)=>if (decide ((i64.wrap (a3+be))<n0))=true then ((aG.f m m kF a3 (i64.wrap (a3+be)) n0 aS).bind fun x3=>bM.l1 m n0 aS k x3 (i64.wrap (be*(2:Int)))) else (bM.l1 m n0 aS k kF (i64.wrap (be*(2:Int))))) else (some ((dD,be)))
def bM.f (m:Nat)(aw:List Int)(n0:Int)(aS:Int→Int→Option (Int)):Option ((List Int)):=(bM.l0 m n0 aS m aw (0:Int) (20:Int)).bind fun cJ=>match cJ with | (cU,a1,b1)=>(aU.f m cU a1 n0 aS).bind fun x1=>(bM.l1 m n0 aS m x1 (20:Int)).bind fun mS=>match mS with | (oE,yQ)=>some oE
def bM.fin (L:Mem)(aH:Nat)(aw:List Int)(n0:Int)(aS:Int→Int→Option (Int))(r:(List Int))(s:St):Prop:=aM Try.prog (s.open sk) Try.f99.results.toList=some (.tup [])∧Has s.h ((aH,.sl aw.length 1 (af.l r))::L)
def Qe (cf:CallF)(m:Nat):Prop:=∀(aw:List Int) (n0:Int) (aS:Int→Int→Option (Int)) (r:(List Int)),bM.f m aw n0 aS=some r→∀h L (ca:Nat) (aH:Nat),Has h ((aH,.sl ca 1 (af.l aw))::L)→∀(kH:FuncId) (dn cM:List AV),(aK (.fn kH dn) = .fn kH dn)→(∀(h:AHeap) (xs:List AV) (a0:Int) (a1:Int) r,aS a0 a1=some r→aP bQ h xs ([.int .i64 a0,.int .i64 a1]++cM)→cf kH xs h=some (.int .i64 r,h))→(∀h K,Has h (K++(L))→aP cq h dn cM)→(∀h,aP cq h cM cM)→∀xs,xs.map aK=[.rs aH 0 ca 1,.int .i64 n0,.fn kH dn]→∃h',cf 99 xs h=some (.tup [],h')∧Has h' ((aH,.sl ca 1 (af.l r))::L)
section
variable {cf:CallF}{m:Nat}
theorem bM.dB (L:Mem)(aH:Nat)(kH:FuncId)(dn cM:List AV)(aw:List Int)(n0:Int)(aS:Int→Int→Option (Int))  (mT:aK (.fn kH dn) = .fn kH dn)(qB:∀(h:AHeap) (xs:List AV) (a0:Int) (a1:Int) r,aS a0 a1=some r→aP bQ h xs ([.int .i64 a0,.int .i64 a1]++cM)→cf kH xs h=some (.int .i64 r,h))(qC:∀h K,Has h (K++(L))→aP cq h dn cM)(qD:∀h,aP cq h cM cM)(AA:Il cf m):dU Try.prog cf sk m (sub [1,1,0,0,0] (b6 Try.f99)) (fun k (σ:(List Int) × Int × Int)=>bM.l0 m n0 aS k σ.1 σ.2.1 σ.2.2) (fun σ s=>match σ with | (bk,a0,b0)=>∃h0,s=⟨.rs aH 0 aw.length 1 :: .int .i64 n0 :: .fn kH dn :: .int .i64 (20:Int) :: .int .i64 a0 :: .int .i64 b0::FU [],[],h0⟩∧Has h0 ((aH,.sl aw.length 1 (af.l bk))::L)) (fun out e s=>(e = .exit 0∧∃bk a0 b0,(bk,a0,b0)=out∧∃yC vb h0,s=⟨.rs aH 0 aw.length 1 :: .int .i64 n0 :: .fn kH dn :: .int .i64 (20:Int) :: .int .i64 a0::yC :: .any::vb::sQ [],[],h0⟩∧Has h0 ((aH,.sl aw.length 1 (af.l bk))::L))):=by
 refine mK (fun _=>rfl) ?_
 rintro k ⟨bk,a0,b0⟩ s out ⟨h0,rfl,o0⟩ H
 have H:bM.l0 m n0 aS (k+1) bk a0 b0=some out:=H
 refine qq <| qq <| q0 <| qc H (fun c0 H=>?_) (fun c0 H=>?_)
 ·refine qk <| qb 1 <| qq ?_
  obtain⟨x0,e0,H⟩:=bl H
  obtain⟨h1,e1,o1⟩:=AA _ _ _ _ _ e0 h0 _ _ _ (o0) kH dn cM mT qB (fun h' K' o'=>qC h' (K'++[]) (by simpa only [Uq,UM,UN] using o')) qD [.rs aH 0 aw.length 1,.int .i64 a0,.int .i64 b0,.fn kH dn] (au (rfl) (au (aN (bf)) (au (aN (bf)) (au (mT) (bI)))))
  exact qr [.a 4 e1] <| qq <| q0 <| q0 <| ⟨(x0,b0,i64.wrap (b0+(20:Int))),⟨h1,by kernel_rfl,o1⟩,H⟩
 ·exact qx 0 <| ⟨rfl,bk,a0,b0,oi H,.int .i64 b0,.bool (decide (b0≤n0)),h0,by kernel_rfl,o0⟩
theorem bM.si (L:Mem)(aH:Nat)(kH:FuncId)(dn cM:List AV)(aw:List Int)(n0:Int)(aS:Int→Int→Option (Int))(be:Int)  (mT:aK (.fn kH dn) = .fn kH dn)(qB:∀(h:AHeap) (xs:List AV) (a0:Int) (a1:Int) r,aS a0 a1=some r→aP bQ h xs ([.int .i64 a0,.int .i64 a1]++cM)→cf kH xs h=some (.int .i64 r,h))(qC:∀h K,Has h (K++(L))→aP cq h dn cM)(qD:∀h,aP cq h cM cM)(iw:sY cf m m):dU Try.prog cf sk m (sub [1,1,1,1,0,0,1,0,1,0,0,0] (b6 Try.f99)) (fun k (σ:(List Int) × Int × Int)=>bM.l2 m n0 aS be k σ.1 σ.2.1 σ.2.2) (fun σ s=>match σ with | (iY,a2,b2)=>∃h5,s=⟨.rs aH 0 aw.length 1 :: .int .i64 n0 :: .fn kH dn :: .int .i64 be :: .int .i64 a2 :: .int .i64 b2::FU [],[],h5⟩∧Has h5 ((aH,.sl aw.length 1 (af.l iY))::L)) (fun out e s=>(e = .exit 4∧∃iY a2 b2,(iY,a2,b2)=out∧∃yC IL h5,s=⟨.rs aH 0 aw.length 1 :: .int .i64 n0 :: .fn kH dn :: .int .i64 be :: .int .i64 a2::yC::sQ [IL,.any],[],h5⟩∧Has h5 ((aH,.sl aw.length 1 (af.l iY))::L))):=by
 refine mK (fun _=>rfl) ?_
 rintro k ⟨iY,a2,b2⟩ s out ⟨h5,rfl,o5⟩ H
 have H:bM.l2 m n0 aS be (k+1) iY a2 b2=some out:=H
 refine qq <| qq <| q0 <| qc H (fun c2 H=>?_) (fun c2 H=>?_)
 ·refine qk <| qb 5 <| qq ?_
  obtain⟨x2,e5,H⟩:=bl H
  obtain⟨h6,e6,o6⟩:=iw _ _ _ _ _ _ e5 h5 _ _ _ (o5) kH dn cM mT qB (fun h' K' o'=>qC h' (K'++[]) (by simpa only [Uq,UM,UN] using o')) qD [.rs aH 0 aw.length 1,.int .i64 a2,.int .i64 (i64.wrap (a2+be)),.int .i64 b2,.fn kH dn] (au (rfl) (au (aN (bf)) (au (aN (bf)) (au (aN (bf)) (au (mT) (bI))))))
  exact qr [.a 7 e6] <| qq <| q0 <| q0 <| ⟨(x2,b2,i64.wrap (b2+i64.wrap ((2:Int)*be))),⟨h6,by kernel_rfl,o6⟩,H⟩
 ·exact qx 4 <| ⟨rfl,iY,a2,b2,oi H,.int .i64 b2,.bool (decide (b2≤n0)),h5,by kernel_rfl,o5⟩
theorem bM.mi (L:Mem)(aH:Nat)(kH:FuncId)(dn cM:List AV)(aw:List Int)(n0:Int)(aS:Int→Int→Option (Int))  (mT:aK (.fn kH dn) = .fn kH dn)(qB:∀(h:AHeap) (xs:List AV) (a0:Int) (a1:Int) r,aS a0 a1=some r→aP bQ h xs ([.int .i64 a0,.int .i64 a1]++cM)→cf kH xs h=some (.int .i64 r,h))(qC:∀h K,Has h (K++(L))→aP cq h dn cM)(qD:∀h,aP cq h cM cM)(iw:sY cf m m):dU Try.prog cf sk m (sub [1,1,1,1,0,0] (b6 Try.f99)) (fun k (σ:(List Int) × Int)=>bM.l1 m n0 aS k σ.1 σ.2) (fun σ s=>match σ with | (dD,be)=>∃h4,s=⟨.rs aH 0 aw.length 1 :: .int .i64 n0 :: .fn kH dn :: .int .i64 be::H3 [],[],h4⟩∧Has h4 ((aH,.sl aw.length 1 (af.l dD))::L)) (fun out e s=>(e = .exit 2∧∃dD be,(dD,be)=out∧∃po yF Im Gb Iv h4,s=⟨po::yF::Im::Gb::nK [Iv,.any,.any],[],h4⟩∧Has h4 ((aH,.sl aw.length 1 (af.l dD))::L))):=by
 refine mK (fun _=>rfl) ?_
 rintro k ⟨dD,be⟩ s out ⟨h4,rfl,o4⟩ H
 have H:bM.l1 m n0 aS (k+1) dD be=some out:=H
 refine qq <| qq <| q0 <| qc H (fun c1 H=>?_) (fun c1 H=>?_)
 ·refine qk <| qb 3 <| qq <| q0 <| qq <| qb 4 ?_
  obtain⟨dE,e7,H⟩:=bl H
  refine ql (bM.si L aH kH dn cM aw n0 aS be  mT qB qC qD iw (dD,(0:Int),i64.wrap ((2:Int)*be)) _ _ ⟨h4,by kernel_rfl,o4⟩ e7) ?_
  rintro e s ⟨rfl,kF,a3,b3,rfl,g2,g3,h7,rfl,o7⟩
  try dsimp only at H
  refine qq <| qq <| q0 <| qq <| q0 <| qc H (fun c3 H=>?_) (fun c3 H=>?_)
  ·obtain⟨x3,e8,H⟩:=bl H
   obtain⟨h8,e9,o8⟩:=iw _ _ _ _ _ _ e8 h7 _ _ _ (o7) kH dn cM mT qB (fun h' K' o'=>qC h' (K'++[]) (by simpa only [Uq,UM,UN] using o')) qD [.rs aH 0 aw.length 1,.int .i64 a3,.int .i64 (i64.wrap (a3+be)),.int .i64 n0,.fn kH dn] (au (rfl) (au (aN (bf)) (au (aN (bf)) (au (aN (bf)) (au (mT) (bI))))))
   exact qr [.a 5 e9] <| q0 <| ⟨(x3,i64.wrap (be*(2:Int))),⟨h8,by kernel_rfl,o8⟩,H⟩
  ·exact qk <| q0 <| ⟨(kF,i64.wrap (be*(2:Int))),⟨h7,by kernel_rfl,o7⟩,H⟩
 ·exact qx 2 <| ⟨rfl,dD,be,oi H,.rs aH 0 aw.length 1,.int .i64 n0,.fn kH dn,.int .i64 be,.bool (decide (be<n0)),h4,by kernel_rfl,o4⟩
theorem vj {aV:FuncId→b4}(ha:aV 99=sk)(AA:Il cf m)(iw:sY cf m m)(aw:List Int)(n0:Int)(aS:Int→Int→Option (Int))(h:AHeap)(L:Mem)(aH:Nat)(kH:FuncId)(dn cM:List AV)  (mT:aK (.fn kH dn) = .fn kH dn)(qB:∀(h:AHeap) (xs:List AV) (a0:Int) (a1:Int) r,aS a0 a1=some r→aP bQ h xs ([.int .i64 a0,.int .i64 a1]++cM)→cf kH xs h=some (.int .i64 r,h))(qC:∀h K,Has h (K++(L))→aP cq h dn cM)(qD:∀h,aP cq h cM cM)(o:Has h ((aH,.sl aw.length 1 (af.l aw))::L)){out:(List Int)}(H:bM.f m aw n0 aS=some out) :
  ∃r h',ba Try.prog aV cf m 99 [.rs aH 0 aw.length 1,.int .i64 n0,.fn kH dn] h=some (r,h')∧r = .tup []∧Has h' ((aH,.sl aw.length 1 (af.l out))::L):=by
 refine ar (fn:=Try.f99) ha Try.func99 (by kernel_rfl) (by kernel_rfl) ?_
 refine aI (Q:=fun s=>bM.fin L aH aw n0 aS out s) (fun _ _ ⟨h1,h2,h3⟩=>⟨h1,_,h2,rfl,h3⟩) ?_
 have H:_=some out:=H
 unfold bM.f at H
 show dt _ cf sk m _ ⟨.rs aH 0 aw.length 1 :: .int .i64 n0 :: .fn kH dn::zI [],[],h⟩ _
 refine q1 <| qq <| q0 <| qq <| qb 0 ?_
 obtain⟨cJ,e2,H⟩:=bl H
 refine ql (bM.dB L aH kH dn cM aw n0 aS  mT qB qC qD AA (aw,(0:Int),(20:Int)) _ _ ⟨h,by kernel_rfl,o⟩ e2) ?_
 rintro e s ⟨rfl,cU,a1,b1,rfl,g0,g1,h2,rfl,o2⟩
 try dsimp only at H
 refine qq ?_
 obtain⟨x1,e3,H⟩:=bl H
 obtain⟨h3,e4,o3⟩:=AA _ _ _ _ _ e3 h2 _ _ _ (o2) kH dn cM mT qB (fun h' K' o'=>qC h' (K'++[]) (by simpa only [Uq,UM,UN] using o')) qD [.rs aH 0 aw.length 1,.int .i64 a1,.int .i64 n0,.fn kH dn] (au (rfl) (au (aN (bf)) (au (aN (bf)) (au (mT) (bI)))))
 refine qr [.a 4 e4] <| qb 2 ?_
 obtain⟨mS,sF,H⟩:=bl H
 refine ql (bM.mi L aH kH dn cM aw n0 aS  mT qB qC qD iw (x1,(20:Int)) _ _ ⟨h3,by kernel_rfl,o3⟩ sF) ?_
 rintro e s ⟨rfl,oE,yQ,rfl,g4,g5,g6,g7,g8,h9,rfl,o9⟩
 try dsimp only at H
 obtain rfl:=oi H
 exact⟨.inr rfl,⟨by kernel_rfl,he o9⟩⟩
end
end Go.Proofs.Ytifafejidnjckaa
namespace Go.Proofs.Ytifafejidnjckaa
open Go Go.R
open Go.IntKind (i64 u64 u8 u32)
end Go.Proofs.Ytifafejidnjckaa
namespace Go.Proofs.Ytifafejidnjckaa
open Go Go.R
open Go.IntKind (i64 u64 u8 u32)
end Go.Proofs.Ytifafejidnjckaa
namespace Go.Proofs.Ytifafejidnjckaa
open Go Go.R
open Go.IntKind (i64 u64 u8 u32)
def gA.l0 (m:Nat)(s0:ab):Nat→(List Int)→Int→Option ((List Int) × Int)
 | 0,_,_=>none
 | k+1,cJ,n0=>(fh.f m s0).bind fun x0=>if (decide (n0<x0))=true then ((qA.f m s0 n0).bind fun x1=>if (!(x1.2==(0:Int)))=true then ((app 8 cJ ([(-1:Int)])).bind fun x2=>gA.l0 m s0 k x2 (i64.wrap (n0+(1:Int)))) else ((app 8 cJ ([x1.1])).bind fun x3=>gA.l0 m s0 k x3 (i64.wrap (n0+(1:Int))))) else (some ((cJ,n0)))
def gA.f (m:Nat)(s0:ab):Option ((List Int)):=(gA.l0 m s0 m ([]:List Int) (0:Int)).bind fun mS=>match mS with | (dE,n1)=>some dE
end Go.Proofs.Ytifafejidnjckaa
namespace Go.Proofs.Ytifafejidnjckaa
open Go Go.R
open Go.IntKind (i64 u64 u8 u32)
def AB:b4:=gK [0,1,3,4,5] [] [26,7] [] []
def dQ.f (m:Nat)(s0:ab)(a0:ByteArray):Option (Int × Int × ab):=(bW.f m s0 (de.f m a0) (ao.mk (2:Int) (0:Int) a0 ([]))).bind fun x0=>some (x0.1,x0.2.1,x0.2.2)
def dQ.fin (L:Mem)(aq:Nat)(ak:Nat)(an:Nat)(s0:ab)(a0:ByteArray)(r:Int × Int × ab)(s:St):Prop:=∃aB aC:Nat,aM Try.prog (s.open AB) Try.f28.results.toList=some (.tup [.int .i64 r.1,.int .i64 r.2.1])∧Has s.h ((aq,.ob [.bool r.2.2.aj,.rs aB 0 r.2.2.aa.length 4,.rs aC 0 r.2.2.ae.length 1])::(aB,.sl r.2.2.aa.length 4 (ah.l r.2.2.aa))::(aC,.sl r.2.2.ae.length 1 (af.l r.2.2.ae))::L)
def Qf (cf:CallF)(m:Nat):Prop:=∀(s0:ab) (a0:ByteArray) (r:Int × Int × ab),dQ.f m s0 a0=some r→∀h L (aq:Nat) (ak:Nat) (an:Nat),Has h ((aq,.ob [.bool s0.aj,.rs ak 0 s0.aa.length 4,.rs an 0 s0.ae.length 1])::(ak,.sl s0.aa.length 4 (ah.l s0.aa))::(an,.sl s0.ae.length 1 (af.l s0.ae))::L)→∀xs,xs.map aK=[.ptr aq 0,.str a0]→∃aB aC h',cf 28 xs h=some (.tup [.int .i64 r.1,.int .i64 r.2.1],h')∧Has h' ((aq,.ob [.bool r.2.2.aj,.rs aB 0 r.2.2.aa.length 4,.rs aC 0 r.2.2.ae.length 1])::(aB,.sl r.2.2.aa.length 4 (ah.l r.2.2.aa))::(aC,.sl r.2.2.ae.length 1 (af.l r.2.2.ae))::L)
section
variable {cf:CallF}{m:Nat}
theorem lL {aV:FuncId→b4}(ha:aV 28=AB)(vf:Jw cf m)(N3:Qc cf m)(s0:ab)(a0:ByteArray)(h:AHeap)(L:Mem)(aq:Nat)(ak:Nat)(an:Nat)  (o:Has h ((aq,.ob [.bool s0.aj,.rs ak 0 s0.aa.length 4,.rs an 0 s0.ae.length 1])::(ak,.sl s0.aa.length 4 (ah.l s0.aa))::(an,.sl s0.ae.length 1 (af.l s0.ae))::L)){out:Int × Int × ab}(H:dQ.f m s0 a0=some out) :
  ∃r h',ba Try.prog aV cf m 28 [.ptr aq 0,.str a0] h=some (r,h')∧∃aB aC:Nat,r = .tup [.int .i64 out.1,.int .i64 out.2.1]∧Has h' ((aq,.ob [.bool out.2.2.aj,.rs aB 0 out.2.2.aa.length 4,.rs aC 0 out.2.2.ae.length 1])::(aB,.sl out.2.2.aa.length 4 (ah.l out.2.2.aa))::(aC,.sl out.2.2.ae.length 1 (af.l out.2.2.ae))::L):=by
 refine ar (fn:=Try.f28) ha Try.func28 (by kernel_rfl) (by kernel_rfl) ?_
 refine aI (Q:=fun s=>dQ.fin L aq ak an s0 a0 out s) (fun _ _ ⟨h1,aB,aC,h2,h3⟩=>⟨h1,_,h2,aB,aC,rfl,h3⟩) ?_
 have H:_=some out:=H
 unfold dQ.f at H
 show dt _ cf AB m _ ⟨.ptr aq 0 :: .str a0::sQ [],[],h⟩ _
 refine qq ?_
 obtain⟨aH,h0,e0,o0⟩:=gd (cs:=[.str a0]) o (by kernel_rfl)
 refine qr [.a 0 e0] <| qq ?_
 obtain⟨x0,e1,H⟩:=bl H
 obtain⟨di,ez,h1,e2,o1⟩:=vf _ _ _ _ e1 h0 _ _ _ _ ((Has.front (Has.front (Has.front (Has.front o0 0 rfl) 3 rfl) 3 rfl) 3 rfl)) 49 [.ptr aH 0] [.fp [.str a0] 0] rfl (fun h' sV  r hr hx=>N3 _ r hr h' sV hx) (fun h' K' o'=>iA (ai (dV (q:=(K'.length+3)) o' (iW rfl) (ai (cH) (ay))) (ay))) (fun h_=>iA (ai (gj (pure_cons (l8) (pure_nil))) (ay))) [.ptr aq 0,.fn 49 [.ptr aH 0],.agg [.int .i64 (2:Int),.int .i64 (0:Int),.str a0,.nils]] (au (rfl) (au (rfl) (au (aN (mb (bO (bf) (bO (bf) (bO (j6) (bO (qT (E:=af)) (ma))))))) (bI))))
 refine qr [.v 2 (show bn Try.prog h0 9 (.ptr aH 0)=some (.str a0) from bV (q:=0) (cs:=[.str a0]) o0 rfl (by kernel_rfl)),.a 4 e2] ?_
 have o2:Has h1 ((aq,.ob [.bool x0.2.2.aj,.rs di 0 x0.2.2.aa.length 4,.rs ez 0 x0.2.2.ae.length 1])::(di,.sl x0.2.2.aa.length 4 (ah.l x0.2.2.aa))::(ez,.sl x0.2.2.ae.length 1 (af.l x0.2.2.ae))::L):=Has.del o1 3
 obtain rfl:=oi H
 exact qt <| ⟨.inl rfl,⟨di,ez,by kernel_rfl,he o2⟩⟩
end
end Go.Proofs.Ytifafejidnjckaa
namespace Go.Proofs.Ytifafejidnjckaa
open Go Go.R
open Go.IntKind (i64 u64 u8 u32)
def AD:b4:=gK [0,1,2] [] [5,3] [] []
def gB.f (m:Nat)(t0:bu):Option (Bool):=if (decide ((t0.nodes.length:Int)≥(1:Int)))=true then (if (decide ((t0.nodes.length:Int)≤(8000:Int)))=true then (if (decide (t0.root≥(0:Int)))=true then (if (decide (t0.root<(t0.nodes.length:Int)))=true then ((gz.f m t0.nodes (fun y0=>fJ.f m y0 t0)).bind fun x0=>some (!x0)) else (some false)) else (some false)) else (some false)) else (some false)
def gB.fin (L:Mem)(r:Bool)(s:St):Prop:=∃av,aM Try.prog (s.open AD) Try.f44.results.toList=some av∧fL s.h av (.bool r)
def Qg (cf:CallF)(m:Nat):Prop:=∀(t0:bu) (r:Bool),gB.f m t0=some r→∀h xs,aP bQ h xs [.agg [ah.fz t0.nodes,.int .i64 t0.root]]→cf 44 xs h=some (.bool r,h)
section
variable {cf:CallF}{m:Nat}
theorem qE {aV:FuncId→b4}(ha:aV 44=AD)(N4:PX cf m)(N5:Qd cf m)(t0:bu)(h:AHeap)(L:Mem)  (o:Has h (L)){out:Bool}(H:gB.f m t0=some out) :
  ∃r h',ba Try.prog aV cf m 44 [.agg [ah.fz t0.nodes,.int .i64 t0.root]] h=some (r,h')∧fL h' r (.bool out):=by
 refine ar (fn:=Try.f44) ha Try.func44 (by kernel_rfl) (by kernel_rfl) ?_
 refine aI (Q:=fun s=>gB.fin L out s) (fun _ _ h=>h) ?_
 have H:_=some out:=H
 unfold gB.f at H
 show dt _ cf AD m _ ⟨[.agg [ah.fz t0.nodes,.int .i64 t0.root],.any,.any],[],h⟩ _
 refine qq ?_
 obtain⟨aH,h0,e0,o0⟩:=gd (cs:=[ah.fz t0.nodes,.int .i64 t0.root]) o (by kernel_rfl)
 refine qr [.a 0 e0] <| qq ?_
 rcases hZ H with⟨c0,H⟩| ⟨c0,H⟩
 ·rcases hZ H with⟨c1,H⟩| ⟨c1,H⟩
  ·rcases hZ H with⟨c2,H⟩| ⟨c2,H⟩
   ·rcases hZ H with⟨c3,H⟩| ⟨c3,H⟩
    ·obtain⟨x0,e1,H⟩:=bl H
     refine qr [.v 1 (show bn Try.prog h0 40 (.ptr aH 0)=some (ah.fz t0.nodes) from bV (q:=0) (cs:=[ah.fz t0.nodes,.int .i64 t0.root]) o0 rfl (by kernel_rfl)),.b 4 c0,.v 6 (show bn Try.prog h0 40 (.ptr aH 0)=some (ah.fz t0.nodes) from bV (q:=0) (cs:=[ah.fz t0.nodes,.int .i64 t0.root]) o0 rfl (by kernel_rfl)),.b 10 c1,.v 12 (show bn Try.prog h0 3 (.ptr aH 1)=some (.int .i64 t0.root) from bV (q:=0) (cs:=[ah.fz t0.nodes,.int .i64 t0.root]) o0 rfl (by kernel_rfl)),.b 15 c2,.v 17 (show bn Try.prog h0 3 (.ptr aH 1)=some (.int .i64 t0.root) from bV (q:=0) (cs:=[ah.fz t0.nodes,.int .i64 t0.root]) o0 rfl (by kernel_rfl)),.v 19 (show bn Try.prog h0 40 (.ptr aH 0)=some (ah.fz t0.nodes) from bV (q:=0) (cs:=[ah.fz t0.nodes,.int .i64 t0.root]) o0 rfl (by kernel_rfl)),.b 23 c3,.v 25 (show bn Try.prog h0 40 (.ptr aH 0)=some (ah.fz t0.nodes) from bV (q:=0) (cs:=[ah.fz t0.nodes,.int .i64 t0.root]) o0 rfl (by kernel_rfl)),.a 27 (N4 _ _ _ e1 66 [.fp [ah.fz t0.nodes,.int .i64 t0.root] 0] (fun h' sV y0 r hr hx=>N5 y0 _ r hr h' sV hx) (fun h_=>iA (ai (gj (pure_cons (bL.bH (E:=ah) (l:=t0.nodes)) (pure_cons (fS) (pure_nil)))) (ay))) h0 _ (gm (ai (fT (E:=ah)) (ai (r8 (ai (dV (q:=0) o0 rfl (ai (fT (E:=ah)) (ai (br) (ay)))) (ay))) (ay)))))] ?_
     have o1:Has h0 (L):=Has.del o0 0
     obtain rfl:=oi H
     exact qt <| ⟨.inl rfl,dz (.bool (!x0)) h0 (du (aD))⟩
    ·refine qr [.v 1 (show bn Try.prog h0 40 (.ptr aH 0)=some (ah.fz t0.nodes) from bV (q:=0) (cs:=[ah.fz t0.nodes,.int .i64 t0.root]) o0 rfl (by kernel_rfl)),.b 4 c0,.v 6 (show bn Try.prog h0 40 (.ptr aH 0)=some (ah.fz t0.nodes) from bV (q:=0) (cs:=[ah.fz t0.nodes,.int .i64 t0.root]) o0 rfl (by kernel_rfl)),.b 10 c1,.v 12 (show bn Try.prog h0 3 (.ptr aH 1)=some (.int .i64 t0.root) from bV (q:=0) (cs:=[ah.fz t0.nodes,.int .i64 t0.root]) o0 rfl (by kernel_rfl)),.b 15 c2,.v 17 (show bn Try.prog h0 3 (.ptr aH 1)=some (.int .i64 t0.root) from bV (q:=0) (cs:=[ah.fz t0.nodes,.int .i64 t0.root]) o0 rfl (by kernel_rfl)),.v 19 (show bn Try.prog h0 40 (.ptr aH 0)=some (ah.fz t0.nodes) from bV (q:=0) (cs:=[ah.fz t0.nodes,.int .i64 t0.root]) o0 rfl (by kernel_rfl)),.b 23 c3] ?_
     have o2:Has h0 (L):=Has.del o0 0
     obtain rfl:=oi H
     exact qt <| ⟨.inl rfl,dz (.bool false) h0 (du (aD))⟩
   ·refine qr [.v 1 (show bn Try.prog h0 40 (.ptr aH 0)=some (ah.fz t0.nodes) from bV (q:=0) (cs:=[ah.fz t0.nodes,.int .i64 t0.root]) o0 rfl (by kernel_rfl)),.b 4 c0,.v 6 (show bn Try.prog h0 40 (.ptr aH 0)=some (ah.fz t0.nodes) from bV (q:=0) (cs:=[ah.fz t0.nodes,.int .i64 t0.root]) o0 rfl (by kernel_rfl)),.b 10 c1,.v 12 (show bn Try.prog h0 3 (.ptr aH 1)=some (.int .i64 t0.root) from bV (q:=0) (cs:=[ah.fz t0.nodes,.int .i64 t0.root]) o0 rfl (by kernel_rfl)),.b 15 c2] ?_
    have o3:Has h0 (L):=Has.del o0 0
    obtain rfl:=oi H
    exact qt <| ⟨.inl rfl,dz (.bool false) h0 (du (aD))⟩
  ·refine qr [.v 1 (show bn Try.prog h0 40 (.ptr aH 0)=some (ah.fz t0.nodes) from bV (q:=0) (cs:=[ah.fz t0.nodes,.int .i64 t0.root]) o0 rfl (by kernel_rfl)),.b 4 c0,.v 6 (show bn Try.prog h0 40 (.ptr aH 0)=some (ah.fz t0.nodes) from bV (q:=0) (cs:=[ah.fz t0.nodes,.int .i64 t0.root]) o0 rfl (by kernel_rfl)),.b 10 c1] ?_
   have o4:Has h0 (L):=Has.del o0 0
   obtain rfl:=oi H
   exact qt <| ⟨.inl rfl,dz (.bool false) h0 (du (aD))⟩
 ·refine qr [.v 1 (show bn Try.prog h0 40 (.ptr aH 0)=some (ah.fz t0.nodes) from bV (q:=0) (cs:=[ah.fz t0.nodes,.int .i64 t0.root]) o0 rfl (by kernel_rfl)),.b 4 c0] ?_
  have o5:Has h0 (L):=Has.del o0 0
  obtain rfl:=oi H
  exact qt <| ⟨.inl rfl,dz (.bool false) h0 (du (aD))⟩
end
end Go.Proofs.Ytifafejidnjckaa
namespace Go.Proofs.Ytifafejidnjckaa
open Go Go.R
open Go.IntKind (i64 u64 u8 u32)
end Go.Proofs.Ytifafejidnjckaa
namespace Go.Proofs.Ytifafejidnjckaa
open Go Go.R
open Go.IntKind (i64 u64 u8 u32)
def AE:b4:=gK [0,1] [] [3] [] []
def eS.f (m:Nat)(x0:List Int)(aS:Int→Int→Option (Int)):Option ((List Int)):=(bM.f m x0 (x0.length:Int) aS).bind fun x1=>some x1
def eS.fin (L:Mem)(aH:Nat)(x0:List Int)(aS:Int→Int→Option (Int))(r:(List Int))(s:St):Prop:=aM Try.prog (s.open AE) Try.f83.results.toList=some (.tup [])∧Has s.h ((aH,.sl x0.length 1 (af.l r))::L)
def Qh (cf:CallF)(m:Nat):Prop:=∀(x0:List Int) (aS:Int→Int→Option (Int)) (r:(List Int)),eS.f m x0 aS=some r→∀h L (Ea:Nat) (aH:Nat),Has h ((aH,.sl Ea 1 (af.l x0))::L)→∀(eB:FuncId) (aQ bT:List AV),(aK (.fn eB aQ) = .fn eB aQ)→(∀(h:AHeap) (xs:List AV) (a0:Int) (a1:Int) r,aS a0 a1=some r→aP bQ h xs ([.int .i64 a0,.int .i64 a1]++bT)→cf eB xs h=some (.int .i64 r,h))→(∀h K,Has h (K++(L))→aP cq h aQ bT)→(∀h,aP cq h bT bT)→∀xs,xs.map aK=[.rs aH 0 Ea 1,.fn eB aQ]→∃h',cf 83 xs h=some (.tup [],h')∧Has h' ((aH,.sl Ea 1 (af.l r))::L)
section
variable {cf:CallF}{m:Nat}
theorem oG {aV:FuncId→b4}(ha:aV 83=AE)(N6:Qe cf m)(x0:List Int)(aS:Int→Int→Option (Int))(h:AHeap)(L:Mem)(aH:Nat)(eB:FuncId)(aQ bT:List AV)  (qo:aK (.fn eB aQ) = .fn eB aQ)(gI:∀(h:AHeap) (xs:List AV) (a0:Int) (a1:Int) r,aS a0 a1=some r→aP bQ h xs ([.int .i64 a0,.int .i64 a1]++bT)→cf eB xs h=some (.int .i64 r,h))(oz:∀h K,Has h (K++(L))→aP cq h aQ bT)(gJ:∀h,aP cq h bT bT)(o:Has h ((aH,.sl x0.length 1 (af.l x0))::L)){out:(List Int)}(H:eS.f m x0 aS=some out) :
  ∃r h',ba Try.prog aV cf m 83 [.rs aH 0 x0.length 1,.fn eB aQ] h=some (r,h')∧r = .tup []∧Has h' ((aH,.sl x0.length 1 (af.l out))::L):=by
 refine ar (fn:=Try.f83) ha Try.func83 (by kernel_rfl) (by kernel_rfl) ?_
 refine aI (Q:=fun s=>eS.fin L aH x0 aS out s) (fun _ _ ⟨h1,h2,h3⟩=>⟨h1,_,h2,rfl,h3⟩) ?_
 have H:_=some out:=H
 unfold eS.f at H
 show dt _ cf AE m _ ⟨[.rs aH 0 x0.length 1,.fn eB aQ],[],h⟩ _
 obtain⟨x1,e0,H⟩:=bl H
 obtain⟨h0,e1,o0⟩:=N6 _ _ _ _ e0 h _ _ _ (o) eB aQ bT qo gI (fun h' K' o'=>oz h' (K'++[]) (by simpa only [Uq,UM,UN] using o')) gJ [.rs aH 0 x0.length 1,.int .i64 (x0.length:Int),.fn eB aQ] (au (rfl) (au (aN (bf)) (au (qo) (bI))))
 obtain rfl:=oi H
 exact qr [.a 4 e1] <| ⟨.inr rfl,⟨by kernel_rfl,he o0⟩⟩
end
end Go.Proofs.Ytifafejidnjckaa
namespace Go.Proofs.Ytifafejidnjckaa
open Go Go.R
open Go.IntKind (i64 u64 u8 u32)
end Go.Proofs.Ytifafejidnjckaa
