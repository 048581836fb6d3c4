/- Part of the proof: Q146, Q27, Q29, Q32, Q33, Q38, Q42, Q53, Q73, Q78, Q81, Q102, Q112. -/
import Derived.Test.YtifafejidnjckaaGreatK9
set_option linter.unusedVariables false
set_option linter.unusedSimpArgs false
set_option maxRecDepth 100000
open ByteArray renaming mk → afC
open List renaming append_assoc → afn, nil_append → afz, cons_append → afF
open Or renaming inr → agv
namespace Go.Proofs.YtifafejidnjckaaGreat
open Go Go.R
open Go.IntKind (i64 u64 u8 u32)
def pd:bX:=gP [0,1,2,3,4,10,11,12,13,14,15,16,17,18,19,20,21,22,23,24,28,33,50,58,80,85,103,110,140,151,171,185,199,213] [] [17178820576,17179869124,17179869068,17177771916,17179868940,17175674636,17179869068,17179869068,17179868894,17171480286,17179868894,17179868894,17163091936,17179868650,17179867626,17146313194,17179865578,17112756714,17179867626,17179867626,17179864574,17045646846,17179864574,17179864574,17179860960,17179844576,17179844576,16911409120,17179811808,17179746272,17179811808,17179746272,17179615200,16642744288,17179353056,16105611232,17179615200,17179615200,17179303904,15031820256,17179303908,12884336612,17179336678,8589402086,17179869183] [] []
def aT.l0 (m:Nat)(aF:List Int)(a0:Int)(bf:Int→Int→Option (Int)):Nat→Int→Int→Option (Int × Int)
 | 0,_,_=>none
 | k+1,i0,j0=>if (decide (i0<j0))=true then ((ix aF (i64.wrap (lP .u64 (u64.wrap (i64.wrap (i0+j0))) 1))).bind fun v0=>(ix aF a0).bind fun v1=>(bf v0 v1).bind fun r0=>if (decide (r0<0))=true then (aT.l0 m aF a0 bf k (i64.wrap (i64.wrap (lP .u64 (u64.wrap (i64.wrap (i0+j0))) 1)+1)) j0) else (aT.l0 m aF a0 bf k i0 (i64.wrap (lP .u64 (u64.wrap (i64.wrap (i0+j0))) 1)))) else (some ((i0,j0)))
def aT.l1 (m:Nat)(i1:Int):Nat→(List Int)→Int→Option ((List Int) × Int)
 | 0,_,_=>none
 | k+1,bO,k0=>if (decide (k0<(i64.wrap (i1 - 1))))=true then ((ix bO (i64.wrap (k0+1))).bind fun v2=>(ix bO k0).bind fun v3=>(ix bO k0).bind fun v4=>(ix (bO.set k0.toNat v2) (i64.wrap (k0+1))).bind fun v5=>aT.l1 m i1 k ((bO.set k0.toNat v2).set (i64.wrap (k0+1)).toNat v3) (i64.wrap (k0+1))) else (some ((bO,k0)))
def aT.l2 (m:Nat)(aF:List Int)(m0:Int)(bf:Int→Int→Option (Int)):Nat→Int→Int→Option (Int × Int)
 | 0,_,_=>none
 | k+1,i2,j2=>if (decide (i2<j2))=true then ((ix aF m0).bind fun v6=>(ix aF (i64.wrap (lP .u64 (u64.wrap (i64.wrap (i2+j2))) 1))).bind fun v7=>(bf v6 v7).bind fun r1=>if (!(decide (r1<0)))=true then (aT.l2 m aF m0 bf k (i64.wrap (i64.wrap (lP .u64 (u64.wrap (i64.wrap (i2+j2))) 1)+1)) j2) else (aT.l2 m aF m0 bf k i2 (i64.wrap (lP .u64 (u64.wrap (i64.wrap (i2+j2))) 1)))) else (some ((i2,j2)))
def aT.l3 (m:Nat)(i3:Int):Nat→(List Int)→Int→Option ((List Int) × Int)
 | 0,_,_=>none
 | k+1,fu,k2=>if (decide (k2 > i3))=true then ((ix fu (i64.wrap (k2 - 1))).bind fun v8=>(ix fu k2).bind fun v9=>(ix fu k2).bind fun v10=>(ix (fu.set k2.toNat v8) (i64.wrap (k2 - 1))).bind fun v11=>aT.l3 m i3 k ((fu.set k2.toNat v8).set (i64.wrap (k2 - 1)).toNat v9) (i64.wrap (k2 - 1))) else (some ((fu,k2)))
def aT.l4 (m:Nat)(aF:List Int)(a0:Int)(m0:Int)(b0:Int)(bf:Int→Int→Option (Int)):Nat→Int→Int→Option (Int × Int)
 | 0,_,_=>none
 | k+1,ja,r3=>if (decide (ja<r3))=true then ((ix aF (i64.wrap (i64.wrap (i64.wrap (i64.wrap (lP .u64 (u64.wrap (i64.wrap (a0+b0))) 1)+m0) - 1) - i64.wrap (lP .u64 (u64.wrap (i64.wrap (ja+r3))) 1)))).bind fun v12=>(ix aF (i64.wrap (lP .u64 (u64.wrap (i64.wrap (ja+r3))) 1))).bind fun LG=>(bf v12 LG).bind fun r4=>if (!(decide (r4<0)))=true then (aT.l4 m aF a0 m0 b0 bf k (i64.wrap (i64.wrap (lP .u64 (u64.wrap (i64.wrap (ja+r3))) 1)+1)) r3) else (aT.l4 m aF a0 m0 b0 bf k ja (i64.wrap (lP .u64 (u64.wrap (i64.wrap (ja+r3))) 1)))) else (some ((ja,r3)))
def aT.b (m:Nat)(rec:(List Int)→Int→Int→Int→(Int→Int→Option (Int))→Option ((List Int)))(aF:List Int)(a0:Int)(m0:Int)(b0:Int)(bf:Int→Int→Option (Int)):Option ((List Int)):=if ((i64.wrap (m0 - a0))==1)=true then ((aT.l0 m aF a0 bf m m0 b0).bind fun bI=>match bI with | (i1,j1)=>(aT.l1 m i1 m aF a0).bind fun eT=>match eT with | (eJ,k1)=>some eJ) else (if ((i64.wrap (b0 - m0))==1)=true then ((aT.l2 m aF m0 bf m a0 m0).bind fun jD=>match jD with | (i3,j3)=>(aT.l3 m i3 m aF m0).bind fun qJ=>match qJ with | (l9,k3)=>some l9) else (jn (fun (σ:Int × Int)=>match σ with | (yT,r2)=>(aT.l4 m aF a0 m0 b0 bf m yT r2).bind fun eA=>match eA with | (hX,r5)=>jn (fun (σ:(List Int))=>match σ with | oa=>jn (fun (σ:(List Int))=>match σ with | tO=>if (decide ((i64.wrap (lP .u64 (u64.wrap (i64.wrap (a0+b0))) 1))<(i64.wrap (i64.wrap (i64.wrap (lP .u64 (u64.wrap (i64.wrap (a0+b0))) 1)+m0) - hX))))=true then (if (decide ((i64.wrap (i64.wrap (i64.wrap (lP .u64 (u64.wrap (i64.wrap (a0+b0))) 1)+m0) - hX))<b0))=true then ((rec tO (i64.wrap (lP .u64 (u64.wrap (i64.wrap (a0+b0))) 1)) (i64.wrap (i64.wrap (i64.wrap (lP .u64 (u64.wrap (i64.wrap (a0+b0))) 1)+m0) - hX)) b0 bf).bind fun x2=>some x2) else (some tO)) else (some tO)) fun tP=>(if (decide (a0<hX))=true then (if (decide (hX<(i64.wrap (lP .u64 (u64.wrap (i64.wrap (a0+b0))) 1))))=true then ((rec oa a0 hX (i64.wrap (lP .u64 (u64.wrap (i64.wrap (a0+b0))) 1)) bf).bind fun x1=>tP x1) else (tP oa)) else (tP oa))) fun CR=>(if (decide (hX<m0))=true then (if (decide (m0<(i64.wrap (i64.wrap (i64.wrap (lP .u64 (u64.wrap (i64.wrap (a0+b0))) 1)+m0) - hX))))=true then ((gZ.f m aF hX m0 (i64.wrap (i64.wrap (i64.wrap (lP .u64 (u64.wrap (i64.wrap (a0+b0))) 1)+m0) - hX)) bf).bind fun x0=>CR x0) else (CR aF)) else (CR aF))) fun oU=>(if (decide (m0 > (i64.wrap (lP .u64 (u64.wrap (i64.wrap (a0+b0))) 1))))=true then (oU (i64.wrap (i64.wrap (i64.wrap (lP .u64 (u64.wrap (i64.wrap (a0+b0))) 1)+m0) - b0),i64.wrap (lP .u64 (u64.wrap (i64.wrap (a0+b0))) 1))) else (oU (a0,m0)))))
def aT.f (m:Nat):Nat→(List Int)→Int→Int→Int→(Int→Int→Option (Int))→Option ((List Int))
 | 0,_,_,_,_,_=>none
 | k+1,aF,a0,m0,b0,bf=>aT.b m (aT.f m k) aF a0 m0 b0 bf
def aT.fin (L:Mem)(aV:Nat)(aF:List Int)(a0:Int)(m0:Int)(b0:Int)(bf:Int→Int→Option (Int))(r:(List Int))(s:St):Prop:=aM Tryz.prog (s.open pd) Tryz.f146.results.toList=some (.tup [])∧Has s.h ((aV,.sl aF.length 1 (ae.l r))::L)
def zK (cf:CallF)(m:Nat)(kk:Nat):Prop:=∀(aF:List Int) (a0:Int) (m0:Int) (b0:Int) (bf:Int→Int→Option (Int)) (r:(List Int)),aT.f m kk aF a0 m0 b0 bf=some r→∀h L (dE:Nat) (aV:Nat),Has h ((aV,.sl dE 1 (ae.l aF))::L)→∀(gR:FuncId) (bw bg:List AV),(aP (.fn gR bw) = .fn gR bw)→(∀(h:AHeap) (xs:List AV) (a0:Int) (a1:Int) r,bf a0 a1=some r→aZ b5 h xs ([.i a0,.i a1]++bg)→cf gR xs h=some (.i r,h))→(∀h K,Has h (K++(L))→aZ dK h bw bg)→(∀h,aZ dK h bg bg)→∀xs,xs.map aP=[.rs aV 0 dE 1,.i a0,.i m0,.i b0,.fn gR bw]→∃h',cf 146 xs h=some (.tup [],h')∧Has h' ((aV,.sl dE 1 (ae.l r))::L)
section
variable {cf:CallF}{m:Nat}
theorem aT.cF (L:Mem)(aV:Nat)(gR:FuncId)(bw bg:List AV)(aF:List Int)(a0:Int)(m0:Int)(b0:Int)(bf:Int→Int→Option (Int))  {kk:Nat}(k8:zK cf m kk)(kY:aP (.fn gR bw) = .fn gR bw)(kc:∀(h:AHeap) (xs:List AV) (a0:Int) (a1:Int) r,bf a0 a1=some r→aZ b5 h xs ([.i a0,.i a1]++bg)→cf gR xs h=some (.i r,h))(ke:∀h K,Has h (K++(L))→aZ dK h bw bg)(kZ:∀h,aZ dK h bg bg)  : cd Tryz.prog cf pd m (sub [0,1,0,1,1,0,0,0] (bA Tryz.f146)) (fun k (σ:Int × Int)=>aT.l0 m aF a0 bf k σ.1 σ.2) (fun σ s=>match σ with | (i0,j0)=>∃h0,s=⟨.rs aV 0 aF.length 1 :: .i a0 :: .any :: .any :: .fn gR bw :: .i i0 :: .i j0::Re [],[],h0⟩∧Has h0 ((aV,.sl aF.length 1 (ae.l aF))::L)) (fun out e s=>(e = .exit 0∧∃i0 j0,(i0,j0)=out∧∃RF yH Yd h0,s=⟨.rs aV 0 aF.length 1 :: .i a0 :: .any :: .any::RF :: .i i0::yH::yi (Yd::BI []),[],h0⟩∧Has h0 ((aV,.sl aF.length 1 (ae.l aF))::L))):=by
 refine jW (fun _=>rfl) ?_
 rintro k ⟨i0,j0⟩ s out ⟨h0,rfl,o0⟩ H
 have H:aT.l0 m aF a0 bf (k+1) i0 j0=some out:=H
 refine qq <| qq <| q0 <| qc H (fun c1 H=>?_) (fun c1 H=>?_)
 ·refine qk <| qb 1 <| qq <| q0 <| qq ?_
  obtain⟨v0,e0,H⟩:=aQ H
  obtain⟨v1,e1,H⟩:=aQ H
  obtain⟨r0,e2,H⟩:=aQ H
  refine qr [.v 3 (aL (k:=.i64) (E:=ae) (l:=aF) (q:=0) de o0 rfl e0),.v 4 (bn  (E:=ae) (l:=aF) (q:=0) o0 rfl A3 e0 rfl),.v 7 (aL (k:=.i64) (E:=ae) (l:=aF) (q:=0) de o0 rfl e1),.v 8 (bn  (E:=ae) (l:=aF) (q:=0) o0 rfl A3 e1 rfl),.a 9 (kc _ _ _ _ _ e2 (PQ (ao (bP) (ao (bP) (aJ))) (ke h0 [(aV,.sl aF.length 1 (ae.l aF))] o0)))] <| qc H (fun c2 H=>?_) (fun c2 H=>?_)
  ·exact q0 <| ⟨(i64.wrap (i64.wrap (lP .u64 (u64.wrap (i64.wrap (i0+j0))) 1)+1),j0),⟨h0,kr,o0⟩,H⟩
  ·exact q0 <| ⟨(i0,i64.wrap (lP .u64 (u64.wrap (i64.wrap (i0+j0))) 1)),⟨h0,kr,o0⟩,H⟩
 ·exact qx 0 <| ⟨rfl,i0,j0,oi H,.fn gR bw,.i j0,.bool (decide (i0<j0)),h0,kr,o0⟩
theorem aT.jG (L:Mem)(aV:Nat)(gR:FuncId)(bw bg:List AV)(aF:List Int)(a0:Int)(m0:Int)(b0:Int)(bf:Int→Int→Option (Int))(i1:Int)  {kk:Nat}(k8:zK cf m kk)(kY:aP (.fn gR bw) = .fn gR bw)(kc:∀(h:AHeap) (xs:List AV) (a0:Int) (a1:Int) r,bf a0 a1=some r→aZ b5 h xs ([.i a0,.i a1]++bg)→cf gR xs h=some (.i r,h))(ke:∀h K,Has h (K++(L))→aZ dK h bw bg)(kZ:∀h,aZ dK h bg bg)  : cd Tryz.prog cf pd m (sub [0,1,0,1,1,1,0,1,0,0] (bA Tryz.f146)) (fun k (σ:(List Int) × Int)=>aT.l1 m i1 k σ.1 σ.2) (fun σ s=>match σ with | (bO,k0)=>∃h2,s=⟨.rs aV 0 aF.length 1::lW (.i i1 :: .any :: .any :: .i k0::Rc []),[],h2⟩∧Has h2 ((aV,.sl aF.length 1 (ae.l bO))::L)) (fun out e s=>(e = .exit 2∧∃bO k0,(bO,k0)=out∧∃nA uK qF Ye h2,s=⟨nA::lW (uK :: .any :: .any::qF::yi (Ye::zB [])),[],h2⟩∧Has h2 ((aV,.sl aF.length 1 (ae.l bO))::L))):=by
 refine jW (fun _=>rfl) ?_
 rintro k ⟨bO,k0⟩ s out ⟨h2,rfl,o2⟩ H
 have H:aT.l1 m i1 (k+1) bO k0=some out:=H
 refine qq <| qq <| q0 <| qc H (fun c3 H=>?_) (fun c3 H=>?_)
 ·refine qk <| qq <| qb 3 ?_
  obtain⟨v2,e4,H⟩:=aQ H
  obtain⟨v3,e5,H⟩:=aQ H
  obtain⟨v4,e6,H⟩:=aQ H
  obtain⟨h3,e7,o3⟩:=dJ (P:=Tryz.prog) (tf:=3) (E:=ae) (l:=bO) (q:=0) (v:=v2) (x:=.i v2) o2 rfl Z3 e6 rfl rfl
  obtain⟨v5,e8,H⟩:=aQ H
  obtain⟨h4,e9,o4⟩:=dJ (P:=Tryz.prog) (tf:=3) (E:=ae) (l:=(bO.set k0.toNat v2)) (q:=0) (v:=v3) (x:=.i v3) o3 rfl Z3 e8 rfl rfl
  exact qr [.v 8 (aL (k:=.i64) (E:=ae) (l:=bO) (q:=0) de o2 rfl e4),.v 9 (bn  (E:=ae) (l:=bO) (q:=0) o2 rfl A3 e4 rfl),.v 12 (aL (k:=.i64) (E:=ae) (l:=bO) (q:=0) de o2 rfl e5),.v 13 (bn  (E:=ae) (l:=bO) (q:=0) o2 rfl A3 e5 rfl),.v 14 (aL (k:=.i64) (E:=ae) (l:=bO) (q:=0) de o2 rfl e6),.w 15 e7,.v 16 (aL (k:=.i64) (E:=ae) (l:=(bO.set k0.toNat v2)) (q:=0) de o3 rfl e8),.w 17 e9] <| q0 <| ⟨((bO.set k0.toNat v2).set (i64.wrap (k0+1)).toNat v3,i64.wrap (k0+1)),⟨h4,kr,o4⟩,H⟩
 ·exact qx 2 <| ⟨rfl,bO,k0,oi H,.rs aV 0 aF.length 1,.i i1,.i k0,.bool (decide (k0<(i64.wrap (i1 - 1)))),h2,kr,o2⟩
theorem aT.n5 (L:Mem)(aV:Nat)(gR:FuncId)(bw bg:List AV)(aF:List Int)(a0:Int)(m0:Int)(b0:Int)(bf:Int→Int→Option (Int))  {kk:Nat}(k8:zK cf m kk)(kY:aP (.fn gR bw) = .fn gR bw)(kc:∀(h:AHeap) (xs:List AV) (a0:Int) (a1:Int) r,bf a0 a1=some r→aZ b5 h xs ([.i a0,.i a1]++bg)→cf gR xs h=some (.i r,h))(ke:∀h K,Has h (K++(L))→aZ dK h bw bg)(kZ:∀h,aZ dK h bg bg)  : cd Tryz.prog cf pd m (sub [1,0,1,0,1,1,0,0,0] (bA Tryz.f146)) (fun k (σ:Int × Int)=>aT.l2 m aF m0 bf k σ.1 σ.2) (fun σ s=>match σ with | (i2,j2)=>∃h6,s=⟨.rs aV 0 aF.length 1 :: .any :: .i m0 :: .any :: .fn gR bw::lW (.i i2 :: .i j2::Ul []),[],h6⟩∧Has h6 ((aV,.sl aF.length 1 (ae.l aF))::L)) (fun out e s=>(e = .exit 4∧∃i2 j2,(i2,j2)=out∧∃RF B4 Yf h6,s=⟨.rs aV 0 aF.length 1 :: .any :: .i m0 :: .any::RF::lW (.i i2::B4::yi (Yf::wA [])),[],h6⟩∧Has h6 ((aV,.sl aF.length 1 (ae.l aF))::L))):=by
 refine jW (fun _=>rfl) ?_
 rintro k ⟨i2,j2⟩ s out ⟨h6,rfl,o6⟩ H
 have H:aT.l2 m aF m0 bf (k+1) i2 j2=some out:=H
 refine qq <| qq <| q0 <| qc H (fun c5 H=>?_) (fun c5 H=>?_)
 ·refine qk <| qb 5 <| qq <| q0 <| qq ?_
  obtain⟨v6,rG,H⟩:=aQ H
  obtain⟨v7,sy,H⟩:=aQ H
  obtain⟨r1,rZ,H⟩:=aQ H
  refine qr [.v 3 (aL (k:=.i64) (E:=ae) (l:=aF) (q:=0) de o6 rfl rG),.v 4 (bn  (E:=ae) (l:=aF) (q:=0) o6 rfl A3 rG rfl),.v 7 (aL (k:=.i64) (E:=ae) (l:=aF) (q:=0) de o6 rfl sy),.v 8 (bn  (E:=ae) (l:=aF) (q:=0) o6 rfl A3 sy rfl),.a 9 (kc _ _ _ _ _ rZ (PQ (ao (bP) (ao (bP) (aJ))) (ke h6 [(aV,.sl aF.length 1 (ae.l aF))] o6)))] <| qc H (fun c6 H=>?_) (fun c6 H=>?_)
  ·exact q0 <| ⟨(i64.wrap (i64.wrap (lP .u64 (u64.wrap (i64.wrap (i2+j2))) 1)+1),j2),⟨h6,kr,o6⟩,H⟩
  ·exact q0 <| ⟨(i2,i64.wrap (lP .u64 (u64.wrap (i64.wrap (i2+j2))) 1)),⟨h6,kr,o6⟩,H⟩
 ·exact qx 4 <| ⟨rfl,i2,j2,oi H,.fn gR bw,.i j2,.bool (decide (i2<j2)),h6,kr,o6⟩
theorem aT.tL (L:Mem)(aV:Nat)(gR:FuncId)(bw bg:List AV)(aF:List Int)(a0:Int)(m0:Int)(b0:Int)(bf:Int→Int→Option (Int))(i3:Int)  {kk:Nat}(k8:zK cf m kk)(kY:aP (.fn gR bw) = .fn gR bw)(kc:∀(h:AHeap) (xs:List AV) (a0:Int) (a1:Int) r,bf a0 a1=some r→aZ b5 h xs ([.i a0,.i a1]++bg)→cf gR xs h=some (.i r,h))(ke:∀h K,Has h (K++(L))→aZ dK h bw bg)(kZ:∀h,aZ dK h bg bg)  : cd Tryz.prog cf pd m (sub [1,0,1,0,1,1,1,0,1,0,0] (bA Tryz.f146)) (fun k (σ:(List Int) × Int)=>aT.l3 m i3 k σ.1 σ.2) (fun σ s=>match σ with | (fu,k2)=>∃h8,s=⟨.rs aV 0 aF.length 1::wA (.i i3 :: .any :: .any :: .i k2::Rb []),[],h8⟩∧Has h8 ((aV,.sl aF.length 1 (ae.l fu))::L)) (fun out e s=>(e = .exit 6∧∃fu k2,(fu,k2)=out∧∃nA yw B5 U5 h8,s=⟨nA::wA (yw :: .any :: .any::B5::yi (U5::yh [])),[],h8⟩∧Has h8 ((aV,.sl aF.length 1 (ae.l fu))::L))):=by
 refine jW (fun _=>rfl) ?_
 rintro k ⟨fu,k2⟩ s out ⟨h8,rfl,o8⟩ H
 have H:aT.l3 m i3 (k+1) fu k2=some out:=H
 refine qq <| qq <| q0 <| qc H (fun c7 H=>?_) (fun c7 H=>?_)
 ·refine qk <| qq <| qb 7 ?_
  obtain⟨v8,sA,H⟩:=aQ H
  obtain⟨v9,uP,H⟩:=aQ H
  obtain⟨v10,wK,H⟩:=aQ H
  obtain⟨h9,zk,o9⟩:=dJ (P:=Tryz.prog) (tf:=3) (E:=ae) (l:=fu) (q:=0) (v:=v8) (x:=.i v8) o8 rfl Z3 wK rfl rfl
  obtain⟨v11,vU,H⟩:=aQ H
  obtain⟨h10,Av,sO⟩:=dJ (P:=Tryz.prog) (tf:=3) (E:=ae) (l:=(fu.set k2.toNat v8)) (q:=0) (v:=v9) (x:=.i v9) o9 rfl Z3 vU rfl rfl
  exact qr [.v 8 (aL (k:=.i64) (E:=ae) (l:=fu) (q:=0) de o8 rfl sA),.v 9 (bn  (E:=ae) (l:=fu) (q:=0) o8 rfl A3 sA rfl),.v 12 (aL (k:=.i64) (E:=ae) (l:=fu) (q:=0) de o8 rfl uP),.v 13 (bn  (E:=ae) (l:=fu) (q:=0) o8 rfl A3 uP rfl),.v 14 (aL (k:=.i64) (E:=ae) (l:=fu) (q:=0) de o8 rfl wK),.w 15 zk,.v 16 (aL (k:=.i64) (E:=ae) (l:=(fu.set k2.toNat v8)) (q:=0) de o9 rfl vU),.w 17 Av] <| q0 <| ⟨((fu.set k2.toNat v8).set (i64.wrap (k2 - 1)).toNat v9,i64.wrap (k2 - 1)),⟨h10,kr,sO⟩,H⟩
 ·exact qx 6 <| ⟨rfl,fu,k2,oi H,.rs aV 0 aF.length 1,.i i3,.i k2,.bool (decide (k2 > i3)),h8,kr,o8⟩
theorem aT.tM (L:Mem)(aV:Nat)(gR:FuncId)(bw bg:List AV)(aF:List Int)(a0:Int)(m0:Int)(b0:Int)(bf:Int→Int→Option (Int))  {kk:Nat}(k8:zK cf m kk)(kY:aP (.fn gR bw) = .fn gR bw)(kc:∀(h:AHeap) (xs:List AV) (a0:Int) (a1:Int) r,bf a0 a1=some r→aZ b5 h xs ([.i a0,.i a1]++bg)→cf gR xs h=some (.i r,h))(ke:∀h K,Has h (K++(L))→aZ dK h bw bg)(kZ:∀h,aZ dK h bg bg)  : cd Tryz.prog cf pd m (sub [1,1,1,1,1,1,1,0,0,0] (bA Tryz.f146)) (fun k (σ:Int × Int)=>aT.l4 m aF a0 m0 b0 bf k σ.1 σ.2) (fun σ s=>match σ with | (ja,r3)=>∃h13,s=⟨.rs aV 0 aF.length 1 :: .i a0 :: .i m0 :: .i b0 :: .fn gR bw::wA (.i (i64.wrap (lP .u64 (u64.wrap (i64.wrap (a0+b0))) 1)) :: .i (i64.wrap (i64.wrap (lP .u64 (u64.wrap (i64.wrap (a0+b0))) 1)+m0)) :: .i ja :: .i r3 :: .i (i64.wrap (i64.wrap (i64.wrap (lP .u64 (u64.wrap (i64.wrap (a0+b0))) 1)+m0) - 1))::FF []),[],h13⟩∧Has h13 ((aV,.sl aF.length 1 (ae.l aF))::L)) (fun out e s=>(e = .exit 8∧∃ja r3,(ja,r3)=out∧∃Yg uT U6 h13,s=⟨.rs aV 0 aF.length 1 :: .i a0 :: .i m0 :: .i b0 :: .fn gR bw::wA (.i (i64.wrap (lP .u64 (u64.wrap (i64.wrap (a0+b0))) 1)) :: .i (i64.wrap (i64.wrap (lP .u64 (u64.wrap (i64.wrap (a0+b0))) 1)+m0)) :: .i ja::Yg::uT::ss (U6::lW [])),[],h13⟩∧Has h13 ((aV,.sl aF.length 1 (ae.l aF))::L))):=by
 refine jW (fun _=>rfl) ?_
 rintro k ⟨ja,r3⟩ s out ⟨h13,rfl,mK⟩ H
 have H:aT.l4 m aF a0 m0 b0 bf (k+1) ja r3=some out:=H
 refine qq <| qq <| q0 <| qc H (fun c9 H=>?_) (fun c9 H=>?_)
 ·refine qk <| qb 9 <| qq <| q0 <| qq ?_
  obtain⟨v12,Ax,H⟩:=aQ H
  obtain⟨LG,zl,H⟩:=aQ H
  obtain⟨r4,zH,H⟩:=aQ H
  refine qr [.v 5 (aL (k:=.i64) (E:=ae) (l:=aF) (q:=0) de mK rfl Ax),.v 6 (bn  (E:=ae) (l:=aF) (q:=0) mK rfl A3 Ax rfl),.v 9 (aL (k:=.i64) (E:=ae) (l:=aF) (q:=0) de mK rfl zl),.v 10 (bn  (E:=ae) (l:=aF) (q:=0) mK rfl A3 zl rfl),.a 11 (kc _ _ _ _ _ zH (PQ (ao (bP) (ao (bP) (aJ))) (ke h13 [(aV,.sl aF.length 1 (ae.l aF))] mK)))] <| qc H (fun yD H=>?_) (fun yD H=>?_)
  ·exact q0 <| ⟨(i64.wrap (i64.wrap (lP .u64 (u64.wrap (i64.wrap (ja+r3))) 1)+1),r3),⟨h13,kr,mK⟩,H⟩
  ·exact q0 <| ⟨(ja,i64.wrap (lP .u64 (u64.wrap (i64.wrap (ja+r3))) 1)),⟨h13,kr,mK⟩,H⟩
 ·exact qx 8 <| ⟨rfl,ja,r3,oi H,.i r3,.i (i64.wrap (i64.wrap (i64.wrap (lP .u64 (u64.wrap (i64.wrap (a0+b0))) 1)+m0) - 1)),.bool (decide (ja<r3)),h13,kr,mK⟩
theorem yU {aX:FuncId→bX}(ha:aX 146=pd)(U7:UT cf m)(aF:List Int)(a0:Int)(m0:Int)(b0:Int)(bf:Int→Int→Option (Int))(h:AHeap)(L:Mem)(aV:Nat)(gR:FuncId)(bw bg:List AV)  {kk:Nat}(k8:zK cf m kk)(kY:aP (.fn gR bw) = .fn gR bw)(kc:∀(h:AHeap) (xs:List AV) (a0:Int) (a1:Int) r,bf a0 a1=some r→aZ b5 h xs ([.i a0,.i a1]++bg)→cf gR xs h=some (.i r,h))(ke:∀h K,Has h (K++(L))→aZ dK h bw bg)(kZ:∀h,aZ dK h bg bg)(o:Has h ((aV,.sl aF.length 1 (ae.l aF))::L)){out:(List Int)}(H:aT.f m (kk+1) aF a0 m0 b0 bf=some out) :
  ∃r h',ba Tryz.prog aX cf m 146 [.rs aV 0 aF.length 1,.i a0,.i m0,.i b0,.fn gR bw] h=some (r,h')∧r = .tup []∧Has h' ((aV,.sl aF.length 1 (ae.l out))::L):=by
 refine ax (fn:=Tryz.f146) ha Tryz.func146 kr kr ?_
 refine aI (Q:=fun s=>aT.fin L aV aF a0 m0 b0 bf out s) (fun _ _ ⟨h1,h2,h3⟩=>⟨h1,_,h2,rfl,h3⟩) ?_
 have H:aT.b m (aT.f m kk) aF a0 m0 b0 bf=some out:=H
 unfold aT.b at H
 show dB _ cf pd m _ ⟨.rs aV 0 aF.length 1 :: .i a0 :: .i m0 :: .i b0 :: .fn gR bw::Un [],[],h⟩ _
 refine qq <| qq <| q0 <| qc H (fun c0 H=>?_) (fun c0 H=>?_)
 ·refine q1 <| qq <| q0 <| qq <| qb 0 ?_
  obtain⟨bI,e3,H⟩:=aQ H
  refine ql (aT.cF L aV gR bw bg aF a0 m0 b0 bf  k8 kY kc ke kZ  (m0,b0) _ _ ⟨h,kr,o⟩ e3) ?_
  rintro e s ⟨rfl,i1,j1,rfl,g0,g1,g2,h1,rfl,o1⟩
  try dsimp only at H
  refine qq <| qq <| q0 <| qb 2 ?_
  obtain⟨eT,nW,H⟩:=aQ H
  refine ql (aT.jG L aV gR bw bg aF a0 m0 b0 bf i1  k8 kY kc ke kZ  (aF,a0) _ _ ⟨h1,kr,o1⟩ nW) ?_
  rintro e s ⟨rfl,eJ,k1,rfl,g3,g4,g5,g6,h5,rfl,o5⟩
  try dsimp only at H
  obtain rfl:=oi H
  exact qt <| ⟨.inl rfl,⟨kr,he o5⟩⟩
 ·refine qk <| qq <| qq <| q0 <| qc H (fun c4 H=>?_) (fun c4 H=>?_)
  ·refine q1 <| qq <| q0 <| qq <| qb 4 ?_
   obtain⟨jD,wG,H⟩:=aQ H
   refine ql (aT.n5 L aV gR bw bg aF a0 m0 b0 bf  k8 kY kc ke kZ  (a0,m0) _ _ ⟨h,kr,o⟩ wG) ?_
   rintro e s ⟨rfl,i3,j3,rfl,g7,g8,g9,h7,rfl,o7⟩
   try dsimp only at H
   refine qq <| qq <| q0 <| qb 6 ?_
   obtain⟨qJ,Aw,H⟩:=aQ H
   refine ql (aT.tL L aV gR bw bg aF a0 m0 b0 bf i3  k8 kY kc ke kZ  (aF,m0) _ _ ⟨h7,kr,o7⟩ Aw) ?_
   rintro e s ⟨rfl,l9,k3,rfl,g10,g11,g12,g13,h11,rfl,tH⟩
   try dsimp only at H
   obtain rfl:=oi H
   exact qt <| ⟨.inl rfl,⟨kr,he tH⟩⟩
  ·refine qk <| qq <| q0 <| qq <| q0 <| qq <| q0 ?_
   obtain⟨oU,As,H⟩:=kX H
   refine qj (S:=fun (σ:Int × Int) s=>match σ with | (yT,r2)=>∃(h12:AHeap),s=⟨.rs aV 0 aF.length 1 :: .i a0 :: .i m0 :: .i b0 :: .fn gR bw::wA (.i (i64.wrap (lP .u64 (u64.wrap (i64.wrap (a0+b0))) 1)) :: .i (i64.wrap (i64.wrap (lP .u64 (u64.wrap (i64.wrap (a0+b0))) 1)+m0)) :: .i yT :: .i r2::Q3 []),[],h12⟩∧Has h12 ((aV,.sl aF.length 1 (ae.l aF))::L)) oU H ?_ ?_
   ·rintro⟨yT,r2⟩ s ⟨h12,rfl,xj⟩ H
    have H:=(As _).symm.trans H
    try dsimp only at H
    refine q1 <| qq <| qb 8 ?_
    obtain⟨eA,B3,H⟩:=aQ H
    refine ql (aT.tM L aV gR bw bg aF a0 m0 b0 bf  k8 kY kc ke kZ  (yT,r2) _ _ ⟨h12,kr,xj⟩ B3) ?_
    rintro e s ⟨rfl,hX,r5,rfl,g14,g15,g16,h14,rfl,rJ⟩
    try dsimp only at H
    refine q1 ?_
    obtain⟨CR,NJ,H⟩:=kX H
    refine qj (S:=fun (σ:(List Int)) s=>match σ with | oa=>∃(g17:AV) (g18:AV) (h16:AHeap),s=⟨.rs aV 0 aF.length 1 :: .i a0::g17 :: .i b0 :: .fn gR bw::wA (.i (i64.wrap (lP .u64 (u64.wrap (i64.wrap (a0+b0))) 1)) :: .any :: .i hX::mU (.i (i64.wrap (i64.wrap (i64.wrap (lP .u64 (u64.wrap (i64.wrap (a0+b0))) 1)+m0) - hX))::ss [g18,.any,.any])),[],h16⟩∧Has h16 ((aV,.sl aF.length 1 (ae.l oa))::L)) CR H ?_ ?_
    ·rintro oa s ⟨g17,g18,h16,rfl,pa⟩ H
     have H:=(NJ _).symm.trans H
     try dsimp only at H
     obtain⟨tP,Fv,H⟩:=kX H
     refine qj (S:=fun (σ:(List Int)) s=>match σ with | tO=>∃(g19:AV) (g20:AV) (g21:AV) (h18:AHeap),s=⟨.rs aV 0 aF.length 1::g19 :: .any :: .i b0 :: .fn gR bw::wA (.i (i64.wrap (lP .u64 (u64.wrap (i64.wrap (a0+b0))) 1)) :: .any::g20::mU (.i (i64.wrap (i64.wrap (i64.wrap (lP .u64 (u64.wrap (i64.wrap (a0+b0))) 1)+m0) - hX))::BI [g21,.any])),[],h18⟩∧Has h18 ((aV,.sl aF.length 1 (ae.l tO))::L)) tP H ?_ ?_
     ·rintro tO s ⟨g19,g20,g21,h18,rfl,px⟩ H
      have H:=(Fv _).symm.trans H
      try dsimp only at H
      refine qq ?_
      rcases dZ H with⟨B6,H⟩| ⟨B6,H⟩
      ·refine qr [.b 3 B6] <| qc H (fun LZ H=>?_) (fun LZ H=>?_)
       ·obtain⟨x2,Jp,H⟩:=aQ H
        obtain⟨h19,E0,zI⟩:=k8 _ _ _ _ _ _ Jp h18 _ _ _ (px) gR bw bg kY kc (fun h' K' o'=>ke h' (K'++[]) (by simpa only [afn,afF,afz] using o')) kZ [.rs aV 0 aF.length 1,.i (i64.wrap (lP .u64 (u64.wrap (i64.wrap (a0+b0))) 1)),.i (i64.wrap (i64.wrap (i64.wrap (lP .u64 (u64.wrap (i64.wrap (a0+b0))) 1)+m0) - hX)),.i b0,.fn gR bw] cq
        obtain rfl:=oi H
        exact qr [.a 5 E0] <| ⟨.inr rfl,⟨kr,he zI⟩⟩
       ·obtain rfl:=oi H
        exact qk <| ⟨.inr rfl,⟨kr,he px⟩⟩
      ·obtain rfl:=oi H
       exact qr [.b 3 B6] <| zD <| qk <| ⟨.inr rfl,⟨kr,he px⟩⟩
     clear Fv
     intro RX
     refine qq ?_
     rcases dZ H with⟨wJ,H⟩| ⟨wJ,H⟩
     ·refine qr [.b 3 wJ] <| qc H (fun D0 H=>?_) (fun D0 H=>?_)
      ·obtain⟨x1,Hy,H⟩:=aQ H
       obtain⟨h17,Jo,zn⟩:=k8 _ _ _ _ _ _ Hy h16 _ _ _ (pa) gR bw bg kY kc (fun h' K' o'=>ke h' (K'++[]) (by simpa only [afn,afF,afz] using o')) kZ [.rs aV 0 aF.length 1,.i a0,.i hX,.i (i64.wrap (lP .u64 (u64.wrap (i64.wrap (a0+b0))) 1)),.fn gR bw] cq
       exact qr [.a 5 Jo] <| RX x1 _ ⟨.any,.any,.any,h17,kr,zn⟩ H
      ·exact qk <| RX oa _ ⟨.i a0,.i hX,.bool (decide (hX<(i64.wrap (lP .u64 (u64.wrap (i64.wrap (a0+b0))) 1)))),h16,kr,pa⟩ H
     ·exact qr [.b 3 wJ] <| zD <| qk <| RX oa _ ⟨.i a0,.i hX,.bool false,h16,kr,pa⟩ H
    clear NJ
    intro Cd
    refine qq ?_
    rcases dZ H with⟨oy,H⟩| ⟨oy,H⟩
    ·refine qr [.b 3 oy] <| qc H (fun wI H=>?_) (fun wI H=>?_)
     ·obtain⟨x0,CQ,H⟩:=aQ H
      obtain⟨h15,Jm,zm⟩:=U7 _ _ _ _ _ _ CQ h14 _ _ _ (rJ) gR bw bg kY kc (fun h' K' o'=>ke h' (K'++[]) (by simpa only [afn,afF,afz] using o')) kZ [.rs aV 0 aF.length 1,.i hX,.i m0,.i (i64.wrap (i64.wrap (i64.wrap (lP .u64 (u64.wrap (i64.wrap (a0+b0))) 1)+m0) - hX)),.fn gR bw] cq
      exact qr [.a 5 Jm] <| Cd x0 _ ⟨.any,.any,h15,kr,zm⟩ H
     ·exact qk <| Cd aF _ ⟨.i m0,.bool (decide (m0<(i64.wrap (i64.wrap (i64.wrap (lP .u64 (u64.wrap (i64.wrap (a0+b0))) 1)+m0) - hX)))),h14,kr,rJ⟩ H
    ·exact qr [.b 3 oy] <| zD <| qk <| Cd aF _ ⟨.i m0,.bool false,h14,kr,rJ⟩ H
   clear As
   intro mW
   refine q1 <| qc H (fun c8 H=>?_) (fun c8 H=>?_)
   ·exact q1 <| q0 <| mW (i64.wrap (i64.wrap (i64.wrap (lP .u64 (u64.wrap (i64.wrap (a0+b0))) 1)+m0) - b0),i64.wrap (lP .u64 (u64.wrap (i64.wrap (a0+b0))) 1)) _ ⟨h,kr,o⟩ H
   ·exact q1 <| q0 <| mW (a0,m0) _ ⟨h,kr,o⟩ H
end
def HH:bX:=gP [0,1,2,6,7,8,9,10,17,27] [] [1016,984,728,999,830,446,1023,999,999] [(6,[(9,none,0)])] [(0,[(6,none,1)]),(3,[(6,none,1)]),(7,[(6,none,1)])]
def di.f (m:Nat)(s0:ab)(a0:Int)(b0:Int):Option ((List Int) × Int × ab):=(dQ.f m s0 ([a0,b0])).bind fun x0=>if (!(x0==0))=true then (some (([]:List Int),x0,s0)) else ((aN.f m s0 a0 b0).bind fun x1=>if (!x1.2.1)=true then ((bD.f m x1.2.2 x1.1).bind fun x2=>some (([]:List Int),8,x2)) else ((dP.f m x1.2.2 x1.1).bind fun x3=>some (x3,0,x1.2.2)))
def di.fin (L:Mem)(aq:Nat)(ak:Nat)(az:Nat)(s0:ab)(a0:Int)(b0:Int)(r:(List Int) × Int × ab)(s:St):Prop:=∃du aB aC:Nat,aM Tryz.prog (s.open HH) Tryz.f29.results.toList=some (.tup [.rs du 0 r.1.length 1,.i r.2.1])∧Has s.h ((du,.sl r.1.length 1 (ae.l r.1))::(aq,.ob [.bool r.2.2.aA,.rs aB 0 r.2.2.aa.length 4,.rs aC 0 r.2.2.an.length 1])::(aB,.sl r.2.2.aa.length 4 (af.l r.2.2.aa))::(aC,.sl r.2.2.an.length 1 (ae.l r.2.2.an))::L)
def S29 (cf:CallF)(m:Nat):Prop:=∀(s0:ab) (a0:Int) (b0:Int) (r:(List Int) × Int × ab),di.f m s0 a0 b0=some r→∀h L (aq:Nat) (ak:Nat) (az:Nat),Has h ((aq,.ob [.bool s0.aA,.rs ak 0 s0.aa.length 4,.rs az 0 s0.an.length 1])::(ak,.sl s0.aa.length 4 (af.l s0.aa))::(az,.sl s0.an.length 1 (ae.l s0.an))::L)→∀xs,xs.map aP=[.ptr aq 0,.i a0,.i b0]→∃du aB aC h',cf 29 xs h=some (.tup [.rs du 0 r.1.length 1,.i r.2.1],h')∧Has h' ((du,.sl r.1.length 1 (ae.l r.1))::(aq,.ob [.bool r.2.2.aA,.rs aB 0 r.2.2.aa.length 4,.rs aC 0 r.2.2.an.length 1])::(aB,.sl r.2.2.aa.length 4 (af.l r.2.2.aa))::(aC,.sl r.2.2.an.length 1 (ae.l r.2.2.an))::L)
section
variable {cf:CallF}{m:Nat}
theorem pe {aX:FuncId→bX}(ha:aX 29=HH)(RY:X6 cf m)(RZ:XS cf m)(R0:XC cf m)(R5:XX cf m)(s0:ab)(a0:Int)(b0:Int)(h:AHeap)(L:Mem)(aq:Nat)(ak:Nat)(az:Nat)  (o:Has h ((aq,.ob [.bool s0.aA,.rs ak 0 s0.aa.length 4,.rs az 0 s0.an.length 1])::(ak,.sl s0.aa.length 4 (af.l s0.aa))::(az,.sl s0.an.length 1 (ae.l s0.an))::L)){out:(List Int) × Int × ab}(H:di.f m s0 a0 b0=some out) :
  ∃r h',ba Tryz.prog aX cf m 29 [.ptr aq 0,.i a0,.i b0] h=some (r,h')∧∃du aB aC:Nat,r = .tup [.rs du 0 out.1.length 1,.i out.2.1]∧Has h' ((du,.sl out.1.length 1 (ae.l out.1))::(aq,.ob [.bool out.2.2.aA,.rs aB 0 out.2.2.aa.length 4,.rs aC 0 out.2.2.an.length 1])::(aB,.sl out.2.2.aa.length 4 (af.l out.2.2.aa))::(aC,.sl out.2.2.an.length 1 (ae.l out.2.2.an))::L):=by
 refine ax (fn:=Tryz.f29) ha Tryz.func29 kr kr ?_
 refine aI (Q:=fun s=>di.fin L aq ak az s0 a0 b0 out s) (fun _ _ ⟨h1,du,aB,aC,h2,h3⟩=>⟨h1,_,h2,du,aB,aC,rfl,h3⟩) ?_
 have H:_=some out:=H
 unfold di.f at H
 show dB _ cf HH m _ ⟨.ptr aq 0 :: .i a0 :: .i b0::EY [],[],h⟩ _
 refine q1 <| qq <| qq ?_
 obtain⟨x0,e0,H⟩:=aQ H
 refine qr [.a 4 (RY _ _ _ e0 h _ (km (ao (da (q:=0) o rfl (ao (dD) (ao (b4 (E:=af) (l:=s0.aa) (q:=1) o rfl (fun _=>rfl)) (ao (b4 (E:=ae) (l:=s0.an) (q:=2) o rfl (fun _=>rfl)) (aJ))))) (ao (yb (E:=ae) (l:=[a0,b0]) (cs:=[.i a0,.i b0]) (b:=true) kr kr rfl) (aJ)))))] <| qq <| q0 <| qc H (fun c0 H=>?_) (fun c0 H=>?_)
 ·refine q1 ?_
  have o0:Has h (((0),.sl (([]:List Int).length) 1 (ae.l ([]:List Int)))::(aq,.ob [.bool s0.aA,.rs ak 0 s0.aa.length 4,.rs az 0 s0.an.length 1])::(ak,.sl s0.aa.length 4 (af.l s0.aa))::(az,.sl s0.an.length 1 (ae.l s0.an))::L):=Has.nil o 1
  obtain rfl:=oi H
  exact qt <| ⟨.inl rfl,⟨(0),ak,az,kr,he o0⟩⟩
 ·refine qk <| qq ?_
  obtain⟨x1,e1,H⟩:=aQ H
  obtain⟨aV,dr,cm,h0,e2,o1⟩:=RZ _ _ _ _ e1 h _ _ _ _ (o)  [.ptr aq 0,.i a0,.i b0] cq
  refine qr [.a 3 e2] <| qq <| qq <| q0 <| qc H (fun c1 H=>?_) (fun c1 H=>?_)
  ·refine qq ?_
   obtain⟨h1,e3,o2⟩:=lT (E:=ae) (l:=x1.1) (q:=0) o1 rfl
   obtain⟨x2,e4,H⟩:=aQ H
   obtain⟨cE,dT,h2,e5,o3⟩:=R0 _ _ _ e4 h1 _ _ _ _ (o2)  [.ptr aq 0,ae.fz x1.1] cq
   refine JV [.a 0 e3] [.a 2 e5] <| qq <| q0 ?_
   have o4:Has h2 ((((0)),.sl (([]:List Int).length) 1 (ae.l ([]:List Int)))::(aq,.ob [.bool x2.aA,.rs cE 0 x2.aa.length 4,.rs dT 0 x2.an.length 1])::(cE,.sl x2.aa.length 4 (af.l x2.aa))::(dT,.sl x2.an.length 1 (ae.l x2.an))::L):=Has.nil o3 1
   obtain rfl:=oi H
   exact qt <| ⟨.inl rfl,⟨((0)),cE,dT,kr,he o4⟩⟩
  ·refine qk <| qq ?_
   obtain⟨x3,e6,H⟩:=aQ H
   obtain⟨ir,h3,e7,o5,NT⟩:=R5 _ _ _ e6 h0 _ _ o1 (km (ao (da (q:=1) o1 rfl (ao (dD) (ao (b4 (E:=af) (l:=x1.2.2.aa) (q:=2) o1 rfl (fun _=>rfl)) (ao (b4 (E:=ae) (l:=x1.2.2.an) (q:=3) o1 rfl (fun _=>rfl)) (aJ))))) (ao (b4 (E:=ae) (l:=x1.1) (q:=0) o1 rfl (fun _=>rfl)) (aJ))))
   refine qr [.a 2 e7] ?_
   have o6:Has h3 ((ir,.sl x3.length 1 (ae.l x3))::(aq,.ob [.bool x1.2.2.aA,.rs dr 0 x1.2.2.aa.length 4,.rs cm 0 x1.2.2.an.length 1])::(dr,.sl x1.2.2.aa.length 4 (af.l x1.2.2.aa))::(cm,.sl x1.2.2.an.length 1 (ae.l x1.2.2.an))::L):=jV o5 1
   obtain rfl:=oi H
   exact qt <| ⟨.inl rfl,⟨ir,dr,cm,kr,he o6⟩⟩
end
def HI:bX:=gP [0,1,2,6,7,8,9,10,11,12,19,34,37] [] [8184,8120,7096,8135,7806,7806,7423,5631,8135,3583,8135,8135] [(5,[(10,none,0)])] [(0,[(7,none,1)]),(3,[(7,none,1)]),(8,[(7,none,1)]),(10,[(7,none,1)])]
def dG.f (m:Nat)(s0:ab)(a0:Int)(b0:Int):Option (Int × (List Int) × Int × ab):=(dQ.f m s0 ([a0,b0])).bind fun x0=>if (!(x0==0))=true then (some (0,([]:List Int),x0,s0)) else ((aN.f m s0 a0 b0).bind fun x1=>(bD.f m x1.2.2 x1.1).bind fun x2=>(dP.f m x2 x1.1).bind fun x3=>if (!x1.2.1)=true then (some (0,([]:List Int),0,x2)) else (if ((x3.length:Int)==0)=true then (some (1,([]:List Int),0,x2)) else (some ((-1:Int),x3,0,x2))))
def dG.fin (L:Mem)(aq:Nat)(ak:Nat)(az:Nat)(s0:ab)(a0:Int)(b0:Int)(r:Int × (List Int) × Int × ab)(s:St):Prop:=∃J0 aB aC:Nat,aM Tryz.prog (s.open HI) Tryz.f33.results.toList=some (.tup [.i r.1,.rs J0 0 r.2.1.length 1,.i r.2.2.1])∧Has s.h ((J0,.sl r.2.1.length 1 (ae.l r.2.1))::(aq,.ob [.bool r.2.2.2.aA,.rs aB 0 r.2.2.2.aa.length 4,.rs aC 0 r.2.2.2.an.length 1])::(aB,.sl r.2.2.2.aa.length 4 (af.l r.2.2.2.aa))::(aC,.sl r.2.2.2.an.length 1 (ae.l r.2.2.2.an))::L)
def S33 (cf:CallF)(m:Nat):Prop:=∀(s0:ab) (a0:Int) (b0:Int) (r:Int × (List Int) × Int × ab),dG.f m s0 a0 b0=some r→∀h L (aq:Nat) (ak:Nat) (az:Nat),Has h ((aq,.ob [.bool s0.aA,.rs ak 0 s0.aa.length 4,.rs az 0 s0.an.length 1])::(ak,.sl s0.aa.length 4 (af.l s0.aa))::(az,.sl s0.an.length 1 (ae.l s0.an))::L)→∀xs,xs.map aP=[.ptr aq 0,.i a0,.i b0]→∃J0 aB aC h',cf 33 xs h=some (.tup [.i r.1,.rs J0 0 r.2.1.length 1,.i r.2.2.1],h')∧Has h' ((J0,.sl r.2.1.length 1 (ae.l r.2.1))::(aq,.ob [.bool r.2.2.2.aA,.rs aB 0 r.2.2.2.aa.length 4,.rs aC 0 r.2.2.2.an.length 1])::(aB,.sl r.2.2.2.aa.length 4 (af.l r.2.2.2.aa))::(aC,.sl r.2.2.2.an.length 1 (ae.l r.2.2.2.an))::L)
section
variable {cf:CallF}{m:Nat}
theorem pO {aX:FuncId→bX}(ha:aX 33=HI)(RY:X6 cf m)(RZ:XS cf m)(R0:XC cf m)(R5:XX cf m)(s0:ab)(a0:Int)(b0:Int)(h:AHeap)(L:Mem)(aq:Nat)(ak:Nat)(az:Nat)  (o:Has h ((aq,.ob [.bool s0.aA,.rs ak 0 s0.aa.length 4,.rs az 0 s0.an.length 1])::(ak,.sl s0.aa.length 4 (af.l s0.aa))::(az,.sl s0.an.length 1 (ae.l s0.an))::L)){out:Int × (List Int) × Int × ab}(H:dG.f m s0 a0 b0=some out) :
  ∃r h',ba Tryz.prog aX cf m 33 [.ptr aq 0,.i a0,.i b0] h=some (r,h')∧∃J0 aB aC:Nat,r = .tup [.i out.1,.rs J0 0 out.2.1.length 1,.i out.2.2.1]∧Has h' ((J0,.sl out.2.1.length 1 (ae.l out.2.1))::(aq,.ob [.bool out.2.2.2.aA,.rs aB 0 out.2.2.2.aa.length 4,.rs aC 0 out.2.2.2.an.length 1])::(aB,.sl out.2.2.2.aa.length 4 (af.l out.2.2.2.aa))::(aC,.sl out.2.2.2.an.length 1 (ae.l out.2.2.2.an))::L):=by
 refine ax (fn:=Tryz.f33) ha Tryz.func33 kr kr ?_
 refine aI (Q:=fun s=>dG.fin L aq ak az s0 a0 b0 out s) (fun _ _ ⟨h1,J0,aB,aC,h2,h3⟩=>⟨h1,_,h2,J0,aB,aC,rfl,h3⟩) ?_
 have H:_=some out:=H
 unfold dG.f at H
 show dB _ cf HI m _ ⟨.ptr aq 0 :: .i a0 :: .i b0::zB [],[],h⟩ _
 refine q1 <| qq <| qq ?_
 obtain⟨x0,e0,H⟩:=aQ H
 refine qr [.a 4 (RY _ _ _ e0 h _ (km (ao (da (q:=0) o rfl (ao (dD) (ao (b4 (E:=af) (l:=s0.aa) (q:=1) o rfl (fun _=>rfl)) (ao (b4 (E:=ae) (l:=s0.an) (q:=2) o rfl (fun _=>rfl)) (aJ))))) (ao (yb (E:=ae) (l:=[a0,b0]) (cs:=[.i a0,.i b0]) (b:=true) kr kr rfl) (aJ)))))] <| qq <| q0 <| qc H (fun c0 H=>?_) (fun c0 H=>?_)
 ·refine q1 ?_
  have o0:Has h (((0),.sl (([]:List Int).length) 1 (ae.l ([]:List Int)))::(aq,.ob [.bool s0.aA,.rs ak 0 s0.aa.length 4,.rs az 0 s0.an.length 1])::(ak,.sl s0.aa.length 4 (af.l s0.aa))::(az,.sl s0.an.length 1 (ae.l s0.an))::L):=Has.nil o 1
  obtain rfl:=oi H
  exact qt <| ⟨.inl rfl,⟨(0),ak,az,kr,he o0⟩⟩
 ·refine qk <| qq ?_
  obtain⟨x1,e1,H⟩:=aQ H
  obtain⟨aV,dr,cm,h0,e2,o1⟩:=RZ _ _ _ _ e1 h _ _ _ _ (o)  [.ptr aq 0,.i a0,.i b0] cq
  refine qr [.a 3 e2] <| qq ?_
  obtain⟨h1,e3,o2⟩:=lT (E:=ae) (l:=x1.1) (q:=0) o1 rfl
  obtain⟨x2,e4,H⟩:=aQ H
  obtain⟨cE,dT,h2,e5,o3⟩:=R0 _ _ _ e4 h1 _ _ _ _ (o2)  [.ptr aq 0,ae.fz x1.1] cq
  refine JV [.a 0 e3] [.a 2 e5] <| qq ?_
  obtain⟨x3,e6,H⟩:=aQ H
  obtain⟨ir,h3,e7,o4,NT⟩:=R5 _ _ _ e6 h2 _ _ o3 (km (ao (da (q:=0) o3 rfl (ao (dD) (ao (b4 (E:=af) (l:=x2.aa) (q:=1) o3 rfl (fun _=>rfl)) (ao (b4 (E:=ae) (l:=x2.an) (q:=2) o3 rfl (fun _=>rfl)) (aJ))))) (ao (kF (E:=ae)) (aJ))))
  refine qr [.a 2 e7] <| qq <| qb 0 <| qq <| q0 <| qc H (fun c1 H=>?_) (fun c1 H=>?_)
  ·refine q1 ?_
   have o5:Has h3 ((((0)),.sl (([]:List Int).length) 1 (ae.l ([]:List Int)))::(ir,.sl x3.length 1 (ae.l x3))::(aq,.ob [.bool x2.aA,.rs cE 0 x2.aa.length 4,.rs dT 0 x2.an.length 1])::(cE,.sl x2.aa.length 4 (af.l x2.aa))::(dT,.sl x2.an.length 1 (ae.l x2.an))::L):=Has.nil o4 1
   have o6:Has h3 ((((0)),.sl (([]:List Int).length) 1 (ae.l ([]:List Int)))::(aq,.ob [.bool x2.aA,.rs cE 0 x2.aa.length 4,.rs dT 0 x2.an.length 1])::(cE,.sl x2.aa.length 4 (af.l x2.aa))::(dT,.sl x2.an.length 1 (ae.l x2.an))::L):=jV o5 1
   obtain rfl:=oi H
   exact qt <| ⟨.inl rfl,⟨((0)),cE,dT,kr,he o6⟩⟩
  ·refine q1 <| qc H (fun c2 H=>?_) (fun c2 H=>?_)
   ·refine q1 ?_
    have o7:Has h3 (((((0))),.sl (([]:List Int).length) 1 (ae.l ([]:List Int)))::(ir,.sl x3.length 1 (ae.l x3))::(aq,.ob [.bool x2.aA,.rs cE 0 x2.aa.length 4,.rs dT 0 x2.an.length 1])::(cE,.sl x2.aa.length 4 (af.l x2.aa))::(dT,.sl x2.an.length 1 (ae.l x2.an))::L):=Has.nil o4 1
    have o8:Has h3 (((((0))),.sl (([]:List Int).length) 1 (ae.l ([]:List Int)))::(aq,.ob [.bool x2.aA,.rs cE 0 x2.aa.length 4,.rs dT 0 x2.an.length 1])::(cE,.sl x2.aa.length 4 (af.l x2.aa))::(dT,.sl x2.an.length 1 (ae.l x2.an))::L):=jV o7 1
    obtain rfl:=oi H
    exact qt <| ⟨.inl rfl,⟨(((0))),cE,dT,kr,he o8⟩⟩
   ·obtain rfl:=oi H
    exact qk <| qq <| q0 <| qt <| ⟨.inl rfl,⟨ir,cE,dT,kr,he o4⟩⟩
end
def D8:bX:=gP [0,1,2,4,5,7,8,24,45,61,87,109,114,131] [2] [16377,16345,16281,16375,16217,16375,16089,16375,15833,16375,15353,14329,16375,16361,12265,16361,8169,16375,16375,16375] [] []
def ca.l0 (m:Nat)(n0:ai)(aE:Int):Nat→Int→Option (Sum Bool (Int))
 | 0,_=>none
 | k+1,i0=>if (decide (i0<(n0.args.length:Int)))=true then ((ix n0.args i0).bind fun v0=>if (decide (v0<0))=true then (some (.inl false)) else ((ix n0.args i0).bind fun v1=>if (decide (v1≥aE))=true then (some (.inl false)) else (ca.l0 m n0 aE k (i64.wrap (i0+1))))) else (some (.inr i0))
def ca.f (m:Nat)(n0:ai)(aE:Int):Option (Bool):=if (n0.kind==0)=true then (if (decide (n0.int≥0))=true then (if (n0.label.data.toList==(afC #[]).data.toList)=true then (some ((n0.args.length:Int)==0)) else (some false)) else (some false)) else (if (n0.kind==1)=true then (if (decide (n0.int≥(-1099511627776:Int)))=true then (if (decide (n0.int≤1099511627776))=true then (if (n0.label.data.toList==(afC #[]).data.toList)=true then (some ((n0.args.length:Int)==0)) else (some false)) else (some false)) else (some false)) else (if (n0.kind==2)=true then ((gJ.f m n0.label).bind fun x0=>if x0=true then (if (n0.int==0)=true then (some ((n0.args.length:Int)==0)) else (some false)) else (some false)) else (if (n0.kind==4)=true then (if (n0.label.data.toList==(afC #[112,114,111,99]).data.toList)=true then (if (decide (n0.int≥0))=true then (some ((n0.args.length:Int)==0)) else (some false)) else (if (n0.label.data.toList==(afC #[99,101,108,108]).data.toList)=true then (if (decide (n0.int≥0))=true then (some ((n0.args.length:Int)==0)) else (some false)) else (if (n0.label.data.toList==(afC #[112,111,114,116]).data.toList)=true then (if (decide (n0.int≥0))=true then (some ((n0.args.length:Int)==0)) else (some false)) else (some false)))) else (if (n0.kind==3)=true then ((gJ.f m n0.label).bind fun x1=>if (!x1)=true then (some false) else (if (!(n0.int==0))=true then (some false) else (if (decide ((n0.args.length:Int)<1))=true then (some false) else (if (decide ((n0.args.length:Int) > 8))=true then (some false) else ((ca.l0 m n0 aE m 0).bind fun bI=>match bI with | .inl r0=>some r0 | .inr i1=>some true))))) else (some false)))))
def ca.fin (L:Mem)(r:Bool)(s:St):Prop:=∃av,aM Tryz.prog (s.open D8) Tryz.f38.results.toList=some av∧fG s.h av (.bool r)
def Tf (cf:CallF)(m:Nat):Prop:=∀(n0:ai) (aE:Int) (r:Bool),ca.f m n0 aE=some r→∀h xs,aZ b5 h xs [.agg [.i n0.kind,.i n0.int,.str n0.label,ae.fz n0.args],.i aE]→cf 38 xs h=some (.bool r,h)
section
variable {cf:CallF}{m:Nat}
theorem ca.cF (L:Mem)(n0:ai)(aE:Int)   : cd Tryz.prog cf D8 m (sub [1,0,1,0,1,1,1,1,1,1,1,1,1,0,1,0,1,0,0] (bA Tryz.f38)) (fun k (σ:Int)=>ca.l0 m n0 aE k σ) (fun σ s=>match σ with | i0=>∃h0,s=⟨.any :: .i aE :: .lp 2 0 :: .any :: .i i0::Ot [],[some [.i n0.kind,.i n0.int,.str n0.label,ae.fz n0.args]],h0⟩∧Has h0 (L)) (fun out e s=>(e = .exit 1∧∃i0,.inr i0=out∧∃wC LB DP U8 XO h0,s=⟨.any::wC::LB :: .any::DP::EY [U8,.any],[XO],h0⟩∧Has h0 (L))∨(e = .ret∧∃r,.inl r=out∧ca.fin L r s)):=by
 refine jW (fun _=>rfl) ?_
 rintro k i0 s out ⟨h0,rfl,o0⟩ H
 have H:ca.l0 m n0 aE (k+1) i0=some out:=H
 refine qq <| qq <| q0 <| qc H (fun c25 H=>?_) (fun c25 H=>?_)
 ·refine qk <| qq <| qb 2 <| qq ?_
  obtain⟨v0,e2,H⟩:=aQ H
  rcases dZ H with⟨Yh,H⟩| ⟨Yh,H⟩
  ·exact qr [.v 3 (bW (k:=.i64) (E:=ae) (l:=n0.args) de e2),.v 4 (dk  (E:=ae) (l:=n0.args) h0 A3 e2 rfl),.b 6 Yh] <| rW <| qq <| q0 <| qt <| agv (⟨rfl,_,oi H,yo (.bool false) h0 (vP (kl))⟩)
  ·obtain⟨v1,e3,H⟩:=aQ H
   refine qr [.v 3 (bW (k:=.i64) (E:=ae) (l:=n0.args) de e2),.v 4 (dk  (E:=ae) (l:=n0.args) h0 A3 e2 rfl),.b 6 Yh,.v 10 (bW (k:=.i64) (E:=ae) (l:=n0.args) de e3),.v 11 (dk  (E:=ae) (l:=n0.args) h0 A3 e3 rfl)] <| qc H (fun c28 H=>?_) (fun c28 H=>?_)
   ·exact q1 <| qt <| agv (⟨rfl,_,oi H,yo (.bool false) h0 (vP (kl))⟩)
   ·exact qk <| q0 <| ⟨i64.wrap (i0+1),⟨h0,kr,o0⟩,H⟩
 ·exact qx 1 <| Or.inl (⟨rfl,i0,oi H,.i aE,.lp 2 0,.i i0,.bool (decide (i0<(n0.args.length:Int))),some [.i n0.kind,.i n0.int,.str n0.label,ae.fz n0.args],h0,kr,o0⟩)
theorem u9 {aX:FuncId→bX}(ha:aX 38=D8)(FW:S80 cf m)(n0:ai)(aE:Int)(h:AHeap)(L:Mem)  (o:Has h (L)){out:Bool}(H:ca.f m n0 aE=some out) :
  ∃r h',ba Tryz.prog aX cf m 38 [.agg [.i n0.kind,.i n0.int,.str n0.label,ae.fz n0.args],.i aE] h=some (r,h')∧fG h' r (.bool out):=by
 refine ax (fn:=Tryz.f38) ha Tryz.func38 kr kr ?_
 refine aI (Q:=fun s=>ca.fin L out s) (fun _ _ h=>h) ?_
 have H:_=some out:=H
 unfold ca.f at H
 show dB _ cf D8 m _ ⟨.agg [.i n0.kind,.i n0.int,.str n0.label,ae.fz n0.args] :: .i aE::BI [],[none],h⟩ _
 refine q1 <| qq <| qq <| q0 <| qb 0 <| qq <| q0 <| qc H (fun c0 H=>?_) (fun c0 H=>?_)
 ·refine qq ?_
  rcases dZ H with⟨c1,H⟩| ⟨c1,H⟩
  ·rcases dZ H with⟨c2,H⟩| ⟨c2,H⟩
   ·exact qr [.b 3 c1,.b 8 c2] <| qt <| fB H
   ·exact qr [.b 3 c1,.b 8 c2] <| qt <| fB H
  ·exact qr [.b 3 c1] <| qt <| fB H
 ·refine q1 <| qc H (fun c3 H=>?_) (fun c3 H=>?_)
  ·refine qq ?_
   rcases dZ H with⟨c4,H⟩| ⟨c4,H⟩
   ·rcases dZ H with⟨c5,H⟩| ⟨c5,H⟩
    ·rcases dZ H with⟨c6,H⟩| ⟨c6,H⟩
     ·exact qr [.b 3 c4,.b 8 c5,.b 13 c6] <| qt <| fB H
     ·exact qr [.b 3 c4,.b 8 c5,.b 13 c6] <| qt <| fB H
    ·exact qr [.b 3 c4,.b 8 c5] <| qt <| fB H
   ·exact qr [.b 3 c4] <| qt <| fB H
  ·refine q1 <| qc H (fun c7 H=>?_) (fun c7 H=>?_)
   ·refine qq ?_
    obtain⟨x0,e0,H⟩:=aQ H
    rcases dZ H with⟨c8,H⟩| ⟨c8,H⟩
    ·rcases dZ H with⟨c9,H⟩| ⟨c9,H⟩
     ·exact qr [.a 2 (FW _ _ e0 h _ fq),.b 3 c8,.b 8 c9] <| qt <| fB H
     ·exact qr [.a 2 (FW _ _ e0 h _ fq),.b 3 c8,.b 8 c9] <| qt <| fB H
    ·exact qr [.a 2 (FW _ _ e0 h _ fq),.b 3 c8] <| qt <| fB H
   ·refine q1 <| qc H (fun yD H=>?_) (fun yD H=>?_)
    ·refine qq ?_
     rcases dZ H with⟨oy,H⟩| ⟨oy,H⟩
     ·rcases dZ H with⟨wI,H⟩| ⟨wI,H⟩
      ·exact qr [.b 3 oy,.b 18 wI] <| qt <| fB H
      ·exact qr [.b 3 oy,.b 18 wI] <| qt <| fB H
     ·rcases dZ H with⟨qI,H⟩| ⟨qI,H⟩
      ·rcases dZ H with⟨wJ,H⟩| ⟨wJ,H⟩
       ·exact qr [.b 3 oy,.b 8 qI,.b 18 wJ] <| qt <| fB H
       ·exact qr [.b 3 oy,.b 8 qI,.b 18 wJ] <| qt <| fB H
      ·rcases dZ H with⟨D0,H⟩| ⟨D0,H⟩
       ·rcases dZ H with⟨yI,H⟩| ⟨yI,H⟩
        ·exact qr [.b 3 oy,.b 8 qI,.b 13 D0,.b 18 yI] <| qt <| fB H
        ·exact qr [.b 3 oy,.b 8 qI,.b 13 D0,.b 18 yI] <| qt <| fB H
       ·exact qr [.b 3 oy,.b 8 qI,.b 13 D0] <| qt <| fB H
    ·refine q1 <| qc H (fun B6 H=>?_) (fun B6 H=>?_)
     ·refine qq <| qq ?_
      obtain⟨x1,e1,H⟩:=aQ H
      rcases dZ H with⟨LZ,H⟩| ⟨LZ,H⟩
      ·exact qr [.a 2 (FW _ _ e1 h _ fq),.b 4 LZ] <| rW <| qq <| q0 <| qt <| fB H
      ·rcases dZ H with⟨PZ,H⟩| ⟨PZ,H⟩
       ·exact qr [.a 2 (FW _ _ e1 h _ fq),.b 4 LZ,.b 9 PZ] <| rW <| qq <| q0 <| qt <| fB H
       ·rcases dZ H with⟨JX,H⟩| ⟨JX,H⟩
        ·exact qr [.a 2 (FW _ _ e1 h _ fq),.b 4 LZ,.b 9 PZ,.b 15 JX] <| rW <| qq <| q0 <| qt <| fB H
        ·refine qr [.a 2 (FW _ _ e1 h _ fq),.b 4 LZ,.b 9 PZ,.b 15 JX] <| qc H (fun X2 H=>?_) (fun X2 H=>?_)
         ·exact q1 <| qt <| fB H
         ·refine qk <| qq <| qq <| q0 <| qb 1 ?_
          obtain⟨bI,e4,H⟩:=aQ H
          refine ql (ca.cF L n0 aE   0 _ _ ⟨h,kr,o⟩ e4) ?_
          rintro e s (⟨rfl,i1,rfl,g0,g1,g2,g3,g4,h1,rfl,o1⟩| ⟨rfl,r0,rfl,sw⟩)
          ·try dsimp only at H
           exact q1 <| qt <| fB H
          ·try dsimp only at H
           obtain rfl:=oi H
           exact⟨.inl rfl,sw⟩
     ·exact qk <| qq <| q0 <| qt <| fB H
end
def HJ:bX:=gP [0,1,2,3,4,5,6,7,8] [1000000014] [455,199,319] [] []
def fD.f (m:Nat)(s0:ab)(bG:ByteArray)(bH:List Int):Option (Int × Int × ab):=(NG 1 bH).bind fun x0=>(cY.f m s0 (dI.f m bG bH s0) (ai.mk 3 0 bG x0)).bind fun x1=>some (x1.1,x1.2.1,x1.2.2)
def fD.fin (L:Mem)(aq:Nat)(ak:Nat)(az:Nat)(s0:ab)(bG:ByteArray)(bH:List Int)(r:Int × Int × ab)(s:St):Prop:=∃aB aC:Nat,aM Tryz.prog (s.open HJ) Tryz.f42.results.toList=some (.tup [.i r.1,.i r.2.1])∧Has s.h ((aq,.ob [.bool r.2.2.aA,.rs aB 0 r.2.2.aa.length 4,.rs aC 0 r.2.2.an.length 1])::(aB,.sl r.2.2.aa.length 4 (af.l r.2.2.aa))::(aC,.sl r.2.2.an.length 1 (ae.l r.2.2.an))::L)
def S42 (cf:CallF)(m:Nat):Prop:=∀(s0:ab) (bG:ByteArray) (bH:List Int) (r:Int × Int × ab),fD.f m s0 bG bH=some r→∀h L (aq:Nat) (ak:Nat) (az:Nat),Has h ((aq,.ob [.bool s0.aA,.rs ak 0 s0.aa.length 4,.rs az 0 s0.an.length 1])::(ak,.sl s0.aa.length 4 (af.l s0.aa))::(az,.sl s0.an.length 1 (ae.l s0.an))::L)→∀xs,xs.map aP=[.ptr aq 0,.str bG,ae.fz bH]→∃aB aC h',cf 42 xs h=some (.tup [.i r.1,.i r.2.1],h')∧Has h' ((aq,.ob [.bool r.2.2.aA,.rs aB 0 r.2.2.aa.length 4,.rs aC 0 r.2.2.an.length 1])::(aB,.sl r.2.2.aa.length 4 (af.l r.2.2.aa))::(aC,.sl r.2.2.an.length 1 (ae.l r.2.2.an))::L)
section
variable {cf:CallF}{m:Nat}
theorem pf {aX:FuncId→bX}(ha:aX 42=HJ)(zL:UA cf m)(B2:S5 cf m)(Yi:S82 cf m)(s0:ab)(bG:ByteArray)(bH:List Int)(h:AHeap)(L:Mem)(aq:Nat)(ak:Nat)(az:Nat)  (o:Has h ((aq,.ob [.bool s0.aA,.rs ak 0 s0.aa.length 4,.rs az 0 s0.an.length 1])::(ak,.sl s0.aa.length 4 (af.l s0.aa))::(az,.sl s0.an.length 1 (ae.l s0.an))::L)){out:Int × Int × ab}(H:fD.f m s0 bG bH=some out) :
  ∃r h',ba Tryz.prog aX cf m 42 [.ptr aq 0,.str bG,ae.fz bH] h=some (r,h')∧∃aB aC:Nat,r = .tup [.i out.1,.i out.2.1]∧Has h' ((aq,.ob [.bool out.2.2.aA,.rs aB 0 out.2.2.aa.length 4,.rs aC 0 out.2.2.an.length 1])::(aB,.sl out.2.2.aa.length 4 (af.l out.2.2.aa))::(aC,.sl out.2.2.an.length 1 (ae.l out.2.2.an))::L):=by
 refine ax (fn:=Tryz.f42) ha Tryz.func42 kr kr ?_
 refine aI (Q:=fun s=>fD.fin L aq ak az s0 bG bH out s) (fun _ _ ⟨h1,aB,aC,h2,h3⟩=>⟨h1,_,h2,aB,aC,rfl,h3⟩) ?_
 have H:_=some out:=H
 unfold fD.f at H
 show dB _ cf HJ m _ ⟨.ptr aq 0 :: .str bG::ae.fz bH::yh [],[none],h⟩ _
 refine qq ?_
 obtain⟨aV,h0,e0,o0⟩:=iX (cs:=[.ptr aq 0]) o kr
 obtain⟨dr,h1,e1,o1⟩:=iX (cs:=[.str bG]) o0 kr
 obtain⟨cm,h2,e2,o2⟩:=iX (cs:=[ae.fz bH]) o1 kr
 refine qr [.a 0 e0,.a 1 e1,.a 2 e2] <| qq <| q0 <| qq ?_
 obtain⟨x0,e3,H⟩:=aQ H
 obtain⟨cE,h3,e4,o3⟩:=Lf (E:=ae) (l:=bH) zL o2 e3
 obtain⟨h4,e5,o4⟩:=lT (E:=ae) (l:=x0) (q:=0) o3 rfl
 obtain⟨x1,e6,H⟩:=aQ H
 obtain⟨dT,ir,h5,e7,o5⟩:=B2 _ _ _ _ e6 h4 _ _ _ _ ((bN (bN (bN (bN (bN (bN o4 2) 2) 2) 5) 5) 5)) 82 [.ptr dr 0,.ptr cm 0,.ptr aV 0] [.fp [.str bG] 0,.fp [ae.fz bH] 0,.fp [.fp [.bool s0.aA,af.fz s0.aa,ae.fz s0.an] 0] 0] rfl (fun h' zF  r hr hx=>Yi _ _ _ r hr h' zF hx) (fun h' K' o'=>ll (ao (da (q:=(K'.length+4)) o' (lV rfl) (ao (oN) (aJ))) (ao (da (q:=(K'.length+3)) o' (lV rfl) (ao (kF (E:=ae)) (aJ))) (ao (da (q:=(K'.length+5)) o' (lV rfl) (ao (da (q:=(K'.length+0)) o' (lV rfl) (ao (dD) (ao (b4 (E:=af) (l:=s0.aa) (q:=(K'.length+1)) o' (lV rfl) (fun _=>rfl)) (ao (b4 (E:=ae) (l:=s0.an) (q:=(K'.length+2)) o' (lV rfl) (fun _=>rfl)) (aJ))))) (aJ))) (aJ))))) (fun h_=>ll (ao (gT (pure_cons (mG) (pure_nil))) (ao (gT (pure_cons (bY.bz (E:=ae) (l:=bH)) (pure_nil))) (ao (gT (pure_cons (oT (pure_cons (dj) (pure_cons (bY.bz (E:=af) (l:=s0.aa)) (pure_cons (bY.bz (E:=ae) (l:=s0.an)) (pure_nil))))) (pure_nil))) (aJ))))) [.ptr aq 0,.fn 82 [.ptr dr 0,.ptr cm 0,.ptr aV 0],.agg [.i 3,.i 0,.str bG,ae.fz x0]] cq
 refine Ro [] [.v 0 (show bB Tryz.prog h2 31 (.ptr aV 0)=some (.ptr aq 0) from b7 (q:=2) (cs:=[.ptr aq 0]) o2 rfl kr),.v 2 (show bB Tryz.prog h2 9 (.ptr dr 0)=some (.str bG) from b7 (q:=1) (cs:=[.str bG]) o2 rfl kr),.v 3 (show bB Tryz.prog h2 22 (.ptr cm 0)=some (ae.fz bH) from b7 (q:=0) (cs:=[ae.fz bH]) o2 rfl kr),.a 4 (Us e4 e5),.a 6 e7] [.mk ((Lm zL o2 (q2:=2) rfl e4).trans (Lp (E:=ae) (l:=x0) o3 (q:=0) (q2:=3) rfl rfl e5)),.mk ((Lm zL o2 (q2:=1) rfl e4).trans (Lp (E:=ae) (l:=x0) o3 (q:=0) (q2:=2) rfl rfl e5))] ?_
 have o6:Has h5 ((aq,.ob [.bool x1.2.2.aA,.rs dT 0 x1.2.2.aa.length 4,.rs ir 0 x1.2.2.an.length 1])::(dT,.sl x1.2.2.aa.length 4 (af.l x1.2.2.aa))::(ir,.sl x1.2.2.an.length 1 (ae.l x1.2.2.an))::(cm,.ob [ae.fz bH])::(dr,.ob [.str bG])::L):=jV o5 5
 have o7:Has h5 ((aq,.ob [.bool x1.2.2.aA,.rs dT 0 x1.2.2.aa.length 4,.rs ir 0 x1.2.2.an.length 1])::(dT,.sl x1.2.2.aa.length 4 (af.l x1.2.2.aa))::(ir,.sl x1.2.2.an.length 1 (ae.l x1.2.2.an))::(cm,.ob [ae.fz bH])::L):=jV o6 4
 have o8:Has h5 ((aq,.ob [.bool x1.2.2.aA,.rs dT 0 x1.2.2.aa.length 4,.rs ir 0 x1.2.2.an.length 1])::(dT,.sl x1.2.2.aa.length 4 (af.l x1.2.2.aa))::(ir,.sl x1.2.2.an.length 1 (ae.l x1.2.2.an))::L):=jV o7 3
 obtain rfl:=oi H
 exact qt <| ⟨.inl rfl,⟨dT,ir,kr,he o8⟩⟩
end
def HK:bX:=gP [0,1] [] [2,1] [] []
def dW.f (m:Nat)(x0:ByteArray):Option (Bool):=(iF.f m x0).bind fun x1=>some x1
def dW.fin (L:Mem)(r:Bool)(s:St):Prop:=∃av,aM Tryz.prog (s.open HK) Tryz.f73.results.toList=some av∧fG s.h av (.bool r)
def S73 (cf:CallF)(m:Nat):Prop:=∀(x0:ByteArray) (r:Bool),dW.f m x0=some r→∀h xs,aZ b5 h xs [.fp [.str x0] 0]→cf 73 xs h=some (.bool r,h)
section
variable {cf:CallF}{m:Nat}
theorem oc {aX:FuncId→bX}(ha:aX 73=HK)(uW:Wj cf m)(x0:ByteArray)(h:AHeap)(L:Mem)  (o:Has h (L)){out:Bool}(H:dW.f m x0=some out) :
  ∃r h',ba Tryz.prog aX cf m 73 [.fp [.str x0] 0] h=some (r,h')∧fG h' r (.bool out):=by
 refine ax (fn:=Tryz.f73) ha Tryz.func73 kr kr ?_
 refine aI (Q:=fun s=>dW.fin L out s) (fun _ _ h=>h) ?_
 have H:_=some out:=H
 unfold dW.f at H
 show dB _ cf HK m _ ⟨[.fp [.str x0] 0,.any],[],h⟩ _
 refine q1 <| qq ?_
 obtain⟨x1,e0,H⟩:=aQ H
 exact qr [.a 1 (uW _ _ e0 h _ fq)] <| qt <| fB H
end
def HL:bX:=gP [0,1,2,3] [2] [9,7] [] []
def jb.f (m:Nat)(n0:ai)(x0:bm):Option (Bool):=(kH.f m n0 (x0.nodes.length:Int)).bind fun x1=>some (!x1)
def jb.fin (L:Mem)(r:Bool)(s:St):Prop:=∃av,aM Tryz.prog (s.open HL) Tryz.f78.results.toList=some av∧fG s.h av (.bool r)
def S78 (cf:CallF)(m:Nat):Prop:=∀(n0:ai) (x0:bm) (r:Bool),jb.f m n0 x0=some r→∀h xs,aZ b5 h xs [.agg [.i n0.kind,.i n0.int,.str n0.label,ae.fz n0.args],.fp [af.fz x0.nodes,.i x0.root] 0]→cf 78 xs h=some (.bool r,h)
section
variable {cf:CallF}{m:Nat}
theorem tQ {aX:FuncId→bX}(ha:aX 78=HL)(Yj:S79 cf m)(n0:ai)(x0:bm)(h:AHeap)(L:Mem)  (o:Has h (L)){out:Bool}(H:jb.f m n0 x0=some out) :
  ∃r h',ba Tryz.prog aX cf m 78 [.agg [.i n0.kind,.i n0.int,.str n0.label,ae.fz n0.args],.fp [af.fz x0.nodes,.i x0.root] 0] h=some (r,h')∧fG h' r (.bool out):=by
 refine ax (fn:=Tryz.f78) ha Tryz.func78 kr kr ?_
 refine aI (Q:=fun s=>jb.fin L out s) (fun _ _ h=>h) ?_
 have H:_=some out:=H
 unfold jb.f at H
 show dB _ cf HL m _ ⟨[.agg [.i n0.kind,.i n0.int,.str n0.label,ae.fz n0.args],.fp [af.fz x0.nodes,.i x0.root] 0,.any,.any],[none],h⟩ _
 refine q1 <| qq ?_
 obtain⟨x1,e0,H⟩:=aQ H
 exact qr [.a 4 (Yj _ _ _ e0 h _ fq)] <| qt <| fB H
end
def HM:bX:=gP [0,1,3,4,5,6,9,22,28,41] [3] [1018,954,999,890,999,762,999,986,986,474,986,990,991,999] [(11,[(3,some 3,0)])] []
def cO.f (m:Nat)(s0:aj)(n0:ai):Option (Int × Int × aj):=(cN.f m s0).bind fun x0=>if (!x0)=true then (some (0,6,s0)) else (jn (fun (σ:Bool)=>match σ with | x2=>if (decide ((s0.ah.length:Int)≥8000))=true then (some (0,7,s0)) else ((app 8 ([]) n0.args).bind fun x3=>jn (fun (σ:Int)=>match σ with | n1=>(app 56 s0.ah ([(ai.mk n0.kind n1 n0.label x3)])).bind fun x4=>(app 8 s0.au ([(s0.ah.length:Int)])).bind fun x5=>some ((s0.ah.length:Int),0,(aj.mk x4 x5 s0.aK))) fun CR=>(if (n0.kind==0)=true then (CR (s0.ah.length:Int)) else (CR n0.int)))) fun oU=>(if (!(n0.kind==0))=true then ((ca.f m n0 (s0.ah.length:Int)).bind fun x1=>if (!x1)=true then (some (0,1,s0)) else (oU (!x1))) else (oU false)))
def cO.fin (L:Mem)(aq:Nat)(aG:Nat)(ak:Nat)(s0:aj)(n0:ai)(r:Int × Int × aj)(s:St):Prop:=∃aB aC:Nat,aM Tryz.prog (s.open HM) Tryz.f81.results.toList=some (.tup [.i r.1,.i r.2.1])∧Has s.h ((aq,.ob [.rs aB 0 r.2.2.ah.length 4,.rs aC 0 r.2.2.au.length 1,.bool r.2.2.aK])::(aB,.sl r.2.2.ah.length 4 (af.l r.2.2.ah))::(aC,.sl r.2.2.au.length 1 (ae.l r.2.2.au))::L)
def Tg (cf:CallF)(m:Nat):Prop:=∀(s0:aj) (n0:ai) (r:Int × Int × aj),cO.f m s0 n0=some r→∀h L (aq:Nat) (aG:Nat) (ak:Nat),Has h ((aq,.ob [.rs aG 0 s0.ah.length 4,.rs ak 0 s0.au.length 1,.bool s0.aK])::(aG,.sl s0.ah.length 4 (af.l s0.ah))::(ak,.sl s0.au.length 1 (ae.l s0.au))::L)→∀xs,xs.map aP=[.ptr aq 0,.agg [.i n0.kind,.i n0.int,.str n0.label,ae.fz n0.args]]→∃aB aC h',cf 81 xs h=some (.tup [.i r.1,.i r.2.1],h')∧Has h' ((aq,.ob [.rs aB 0 r.2.2.ah.length 4,.rs aC 0 r.2.2.au.length 1,.bool r.2.2.aK])::(aB,.sl r.2.2.ah.length 4 (af.l r.2.2.ah))::(aC,.sl r.2.2.au.length 1 (ae.l r.2.2.au))::L)
section
variable {cf:CallF}{m:Nat}
theorem pP {aX:FuncId→bX}(ha:aX 81=HM)(Ce:Tf cf m)(B1:S4 cf m)(s0:aj)(n0:ai)(h:AHeap)(L:Mem)(aq:Nat)(aG:Nat)(ak:Nat)  (o:Has h ((aq,.ob [.rs aG 0 s0.ah.length 4,.rs ak 0 s0.au.length 1,.bool s0.aK])::(aG,.sl s0.ah.length 4 (af.l s0.ah))::(ak,.sl s0.au.length 1 (ae.l s0.au))::L)){out:Int × Int × aj}(H:cO.f m s0 n0=some out) :
  ∃r h',ba Tryz.prog aX cf m 81 [.ptr aq 0,.agg [.i n0.kind,.i n0.int,.str n0.label,ae.fz n0.args]] h=some (r,h')∧∃aB aC:Nat,r = .tup [.i out.1,.i out.2.1]∧Has h' ((aq,.ob [.rs aB 0 out.2.2.ah.length 4,.rs aC 0 out.2.2.au.length 1,.bool out.2.2.aK])::(aB,.sl out.2.2.ah.length 4 (af.l out.2.2.ah))::(aC,.sl out.2.2.au.length 1 (ae.l out.2.2.au))::L):=by
 refine ax (fn:=Tryz.f81) ha Tryz.func81 kr kr ?_
 refine aI (Q:=fun s=>cO.fin L aq aG ak s0 n0 out s) (fun _ _ ⟨h1,aB,aC,h2,h3⟩=>⟨h1,_,h2,aB,aC,rfl,h3⟩) ?_
 have H:_=some out:=H
 unfold cO.f at H
 show dB _ cf HM m _ ⟨.ptr aq 0 :: .agg [.i n0.kind,.i n0.int,.str n0.label,ae.fz n0.args]::wA [],[none],h⟩ _
 refine q1 <| qq <| qq ?_
 obtain⟨x0,e0,H⟩:=aQ H
 refine qr [.a 1 (B1 _ _ e0 h _ (km (ao (da (q:=0) o rfl (ao (b4 (E:=af) (l:=s0.ah) (q:=1) o rfl (fun _=>rfl)) (ao (b4 (E:=ae) (l:=s0.au) (q:=2) o rfl (fun _=>rfl)) (ao (dD) (aJ))))) (aJ))))] <| qc H (fun c0 H=>?_) (fun c0 H=>?_)
 ·obtain rfl:=oi H
  exact q1 <| qt <| ⟨.inl rfl,⟨aG,ak,kr,he o⟩⟩
 ·refine qk ?_
  obtain⟨oU,As,H⟩:=kX H
  refine qj (S:=fun (σ:Bool) s=>match σ with | x2=>∃(h0:AHeap),s=⟨.ptr aq 0 :: .any :: .lp 3 0::lW [.bool x2,.any,.any],[some [.i n0.kind,.i n0.int,.str n0.label,ae.fz n0.args]],h0⟩∧Has h0 ((aq,.ob [.rs aG 0 s0.ah.length 4,.rs ak 0 s0.au.length 1,.bool s0.aK])::(aG,.sl s0.ah.length 4 (af.l s0.ah))::(ak,.sl s0.au.length 1 (ae.l s0.au))::L)) oU H ?_ ?_
  ·rintro x2 s ⟨h0,rfl,o0⟩ H
   have H:=(As _).symm.trans H
   try dsimp only at H
   refine qq <| qq <| qr [.v 3 (show bB Tryz.prog h0 23 (.ptr aq 0)=some (.rs aG 0 s0.ah.length 4) from b7 (q:=0) (cs:=[.rs aG 0 s0.ah.length 4,.rs ak 0 s0.au.length 1,.bool s0.aK]) o0 rfl kr)] <| qc H (fun c4 H=>?_) (fun c4 H=>?_)
   ·obtain rfl:=oi H
    exact q1 <| qt <| ⟨.inl rfl,⟨aG,ak,kr,he o0⟩⟩
   ·refine qk <| qq <| qr [.v 3 (show bB Tryz.prog h0 23 (.ptr aq 0)=some (.rs aG 0 s0.ah.length 4) from b7 (q:=0) (cs:=[.rs aG 0 s0.ah.length 4,.rs ak 0 s0.au.length 1,.bool s0.aK]) o0 rfl kr)] <| qq ?_
    obtain⟨x3,e2,H⟩:=aQ H
    obtain⟨aV,h1,e3,o1⟩:=FB (P:=Tryz.prog) (E:=ae) (s:=.fz [] 0 true) (t2:=22) (x:=ae.fz n0.args) (l2:=n0.args) (.inr rfl) de o0 (ya (E:=ae) (l2:=n0.args) _) rfl e2
    refine qr [.a 3 e3] ?_
    obtain⟨CR,NJ,H⟩:=kX H
    refine qj (S:=fun (σ:Int) s=>match σ with | n1=>∃(g0:AV) (h2:AHeap),s=⟨.ptr aq 0 :: .any :: .lp 3 0 :: .any :: .any :: .i (s0.ah.length:Int)::mU [g0],[some [.i n0.kind,.i n1,.str n0.label,.rs aV 0 x3.length 1]],h2⟩∧Has h2 ((aV,.sl x3.length 1 (ae.l x3))::(aq,.ob [.rs aG 0 s0.ah.length 4,.rs ak 0 s0.au.length 1,.bool s0.aK])::(aG,.sl s0.ah.length 4 (af.l s0.ah))::(ak,.sl s0.au.length 1 (ae.l s0.au))::L)) CR H ?_ ?_
    ·rintro n1 s ⟨g0,h2,rfl,o2⟩ H
     have H:=(NJ _).symm.trans H
     try dsimp only at H
     refine qq ?_
     obtain⟨h3,e4,o3⟩:=lT (E:=ae) (l:=x3) (q:=0) o2 rfl
     obtain⟨x4,e5,H⟩:=aQ H
     obtain⟨dr,h4,e6,o4⟩:=dY (P:=Tryz.prog) (E:=af) (l:=s0.ah) (q:=1) (t2:=23) (x:=.fz [.i n0.kind,.i n1,.str n0.label,ae.fz x3] 1 true) (l2:=([(ai.mk n0.kind n1 n0.label x3)])) lF o3 rfl kr rfl e5
     obtain⟨h5,e7,o5⟩:=kb (P:=Tryz.prog) (t:=23) (off:=0) (q:=0) (cs:=[.rs aG 0 s0.ah.length 4,.rs ak 0 s0.au.length 1,.bool s0.aK]) (gF:=[.rs dr 0 x4.length 4,.rs ak 0 s0.au.length 1,.bool s0.aK]) (x:=.rs dr 0 x4.length 4) o4 rfl kr
     refine JV [.a 0 e4] [.v 4 (show bB Tryz.prog h3 23 (.ptr aq 0)=some (.rs aG 0 s0.ah.length 4) from b7 (q:=0) (cs:=[.rs aG 0 s0.ah.length 4,.rs ak 0 s0.au.length 1,.bool s0.aK]) o3 rfl kr),.a 7 e6,.w 10 e7] <| qq ?_
     obtain⟨x5,e8,H⟩:=aQ H
     obtain⟨cm,h6,e9,o6⟩:=dY (P:=Tryz.prog) (E:=ae) (l:=s0.au) (q:=2) (t2:=22) (x:=.fz [.i (s0.ah.length:Int)] 1 true) (l2:=([(s0.ah.length:Int)])) de o5 rfl kr rfl e8
     obtain⟨h7,nW,o7⟩:=kb (P:=Tryz.prog) (t:=22) (off:=1) (q:=0) (cs:=[.rs dr 0 x4.length 4,.rs ak 0 s0.au.length 1,.bool s0.aK]) (gF:=[.rs dr 0 x4.length 4,.rs cm 0 x5.length 1,.bool s0.aK]) (x:=.rs cm 0 x5.length 1) o6 rfl kr
     obtain rfl:=oi H
     exact qr [.v 4 (show bB Tryz.prog h5 22 (.ptr aq 1)=some (.rs ak 0 s0.au.length 1) from b7 (q:=0) (cs:=[.rs dr 0 x4.length 4,.rs ak 0 s0.au.length 1,.bool s0.aK]) o5 rfl kr),.a 7 e9,.w 10 nW] <| qq <| q0 <| qt <| ⟨.inl rfl,⟨dr,cm,kr,he o7⟩⟩
    clear NJ
    intro Cd
    refine q1 <| qc H (fun c5 H=>?_) (fun c5 H=>?_)
    ·exact q0 <| Cd (s0.ah.length:Int) _ ⟨.any,h1,kr,o1⟩ H
    ·exact qk <| Cd n0.int _ ⟨.bool (n0.kind==0),h1,kr,o1⟩ H
  clear As
  intro mW
  refine qq ?_
  rcases dZ H with⟨c1,H⟩| ⟨c1,H⟩
  ·obtain⟨x1,e1,H⟩:=aQ H
   refine qr [.b 3 c1,.v 8 (show bB Tryz.prog h 23 (.ptr aq 0)=some (.rs aG 0 s0.ah.length 4) from b7 (q:=0) (cs:=[.rs aG 0 s0.ah.length 4,.rs ak 0 s0.au.length 1,.bool s0.aK]) o rfl kr),.a 10 (Ce _ _ _ e1 h _ fq)] <| qc H (fun c2 H=>?_) (fun c2 H=>?_)
   ·obtain rfl:=oi H
    exact q1 <| qt <| ⟨.inl rfl,⟨aG,ak,kr,he o⟩⟩
   ·exact qk <| mW (!x1) _ ⟨h,kr,o⟩ H
  ·exact qr [.b 3 c1] <| zD <| qk <| mW false _ ⟨h,kr,o⟩ H
end
def lZ:bX:=gP [0,1,4,5,6,7,8,9,10,11,12,13,14,15,16,17,18,19,20,21,22,32,45,59,84,94,120,133,147] [4,10,18,20] [536870904,536870898,536870882,536870850,536870786,534773634,536870786,536870786,536870722,532676418,536870722,536870466,536869954,536868930,528480322,536868930,536868930,536870466,536870722,536868811,536864715,520087499,536864715,536856523,503302091,536856523,536856523,536854475,536821707,469712843,536821707,536821707,536788939,536657867,402440139,536657867,536395723,535871435,534822859,266387403,534822859,534822859,536395723,536657867,536870907] [(42,[(21,none,0)]),(44,[(18,some 0,0)])] [(3,[(7,none,4)]),(12,[(11,none,1)]),(32,[(18,some 0,4)]),(37,[(21,none,1)])]
def aD.l0 (m:Nat)(x0:(List Int)):Nat→(List Int)→Int→Option ((List Int) × Int)
 | 0,_,_=>none
 | k+1,js,i0=>if (decide (i0<(x0.length:Int)))=true then ((ix x0 i0).bind fun v0=>(ix js v0).bind fun v1=>aD.l0 m x0 k (js.set v0.toNat i0) (i64.wrap (i0+1))) else (some ((js,i0)))
def aD.l2 (m:Nat)(bJ:List Int)(v3:ai):Nat→(List Int)→Int→Option ((List Int) × Int)
 | 0,_,_=>none
 | k+1,bH,k0=>if (decide (k0<(v3.args.length:Int)))=true then ((ix v3.args k0).bind fun v4=>(ix bJ v4).bind fun v5=>(app 8 bH ([v5])).bind fun x2=>aD.l2 m bJ v3 k x2 (i64.wrap (k0+1))) else (some ((bH,k0)))
def aD.l1 (m:Nat)(l0:List ai)(x0:(List Int))(bJ:List Int):Nat→(List ai)→Int→Option ((List ai) × Int)
 | 0,_,_=>none
 | k+1,hU,i2=>if (decide (i2<(x0.length:Int)))=true then ((ix x0 i2).bind fun v2=>(ix l0 v2).bind fun v3=>(aD.l2 m bJ v3 m ([]:List Int) 0).bind fun eT=>match eT with | (mH,k1)=>(app 56 hU [ai.mk v3.kind v3.int v3.label mH]).bind fun x3=>aD.l1 m l0 x0 bJ k x3 (i64.wrap (i2+1))) else (some ((hU,i2)))
def aD.l4 (m:Nat)(x4:(List Int))(i4:Int):Nat→(List ai)→Int→Option ((List ai) × Int)
 | 0,_,_=>none
 | k+1,gM,k2=>(ix gM i4).bind fun v6=>if (decide (k2<(v6.args.length:Int)))=true then ((ix gM i4).bind fun v7=>(ix gM i4).bind fun v8=>(ix v8.args k2).bind fun v9=>(ix x4 v9).bind fun v10=>(ix v7.args k2).bind fun v11=>aD.l4 m x4 i4 k (gM.set i4.toNat (ai.mk v7.kind v7.int v7.label (v7.args.set k2.toNat v10))) (i64.wrap (k2+1))) else (some ((gM,k2)))
def aD.l3 (m:Nat)(x4:(List Int)):Nat→(List ai)→Int→Option ((List ai) × Int)
 | 0,_,_=>none
 | k+1,k9,i4=>if (decide (i4<(k9.length:Int)))=true then ((aD.l4 m x4 i4 m k9 0).bind fun qJ=>match qJ with | (L2,k3)=>aD.l3 m x4 k L2 (i64.wrap (i4+1))) else (some ((k9,i4)))
def aD.l5 (m:Nat)(x5:(List Int)):Nat→(List Int)→Int→Option ((List Int) × Int)
 | 0,_,_=>none
 | k+1,jt,i6=>if (decide (i6<(x5.length:Int)))=true then ((ix x5 i6).bind fun v12=>(ix jt v12).bind fun LG=>aD.l5 m x5 k (jt.set v12.toNat i6) (i64.wrap (i6+1))) else (some ((jt,i6)))
def aD.l7 (m:Nat)(dz:List Int)(qN:ai):Nat→(List Int)→Int→Option ((List Int) × Int)
 | 0,_,_=>none
 | k+1,la,k4=>if (decide (k4<(qN.args.length:Int)))=true then ((ix qN.args k4).bind fun rA=>(ix dz rA).bind fun PS=>(app 8 la ([PS])).bind fun x6=>aD.l7 m dz qN k x6 (i64.wrap (k4+1))) else (some ((la,k4)))
def aD.l6 (m:Nat)(cX:List ai)(x5:(List Int))(dz:List Int):Nat→Int→(List ai)→Int→Option (Int × (List ai) × Int)
 | 0,_,_,_=>none
 | k+1,i8,jI,qS=>if (decide (i8<(x5.length:Int)))=true then ((ix x5 i8).bind fun CP=>(ix cX CP).bind fun qN=>(aD.l7 m dz qN m ([]:List Int) 0).bind fun L3=>match L3 with | (D9,k5)=>(app 56 jI ([(ai.mk qN.kind qN.int qN.label D9)])).bind fun x7=>aD.l6 m cX x5 dz k (i64.wrap (i8+1)) x7 qS) else (some ((i8,jI,qS)))
def aD.f (m:Nat)(l0:List ai)(jF:Int):Option (bm):=(bb.f m l0 jF).bind fun x0=>(sr 8 (l0.length:Int) 0).bind fun x1=>(aD.l0 m x0 m x1 0).bind fun bI=>match bI with | (bJ,i1)=>(aD.l1 m l0 x0 bJ m ([]:List ai) 0).bind fun jD=>match jD with | (yV,i3)=>(ay.f m yV).bind fun x4=>(aD.l3 m x4 m yV 0).bind fun eA=>match eA with | (cX,i5)=>(bb.f m cX 0).bind fun x5=>(aD.l5 m x5 m bJ 0).bind fun D4=>match D4 with | (dz,i7)=>(aD.l6 m cX x5 dz m 0 ([]:List ai) 0).bind fun P4=>match P4 with | (i9,OQ,L4)=>some (bm.mk OQ L4)
def aD.fin (L:Mem)(r:bm)(s:St):Prop:=∃av,aM Tryz.prog (s.open lZ) Tryz.f112.results.toList=some av∧Oh s.h av (.agg [af.fz r.nodes,.i r.root])
def Va (cf:CallF)(m:Nat):Prop:=∀(l0:List ai) (jF:Int) (r:bm),aD.f m l0 jF=some r→∀h xs,yc xs [af.fz l0,.i jF]→cf 112 xs h=some (.agg [af.fz r.nodes,.i r.root],h)
section
variable {cf:CallF}{m:Nat}
theorem aD.cF (L:Mem)(l0:List ai)(x0:(List Int))   : cd Tryz.prog cf lZ m (sub [1,1,1,1,0,1,0,0] (bA Tryz.f112)) (fun k (σ:(List Int) × Int)=>aD.l0 m x0 k σ.1 σ.2) (fun σ s=>match σ with | (js,i0)=>∃dr h1,s=⟨af.fz l0 :: .any :: .lp 4 0::ae.fz x0 :: .rs dr 0 js.length 1 :: .rs (0) 0 (([]:List ai).length) 4 :: .i i0::Uk [],[some [.nils,.i 0],none,none,none],h1⟩∧Has h1 (((0),.sl (([]:List ai).length) 4 (eM.l (bl ([]:List ai) ([]:List Nat))))::(dr,.sl js.length 1 (ae.l js))::L)) (fun out e s=>(e = .exit 0∧∃js i0,(js,i0)=out∧∃yx Yk dr h1,s=⟨af.fz l0 :: .any :: .lp 4 0::ae.fz x0 :: .rs dr 0 js.length 1 :: .rs (0) 0 (([]:List ai).length) 4::yx::yi (Yk::EY []),[some [.nils,.i 0],none,none,none],h1⟩∧Has h1 (((0),.sl (([]:List ai).length) 4 (eM.l (bl ([]:List ai) ([]:List Nat))))::(dr,.sl js.length 1 (ae.l js))::L))):=by
 refine jW (fun _=>rfl) ?_
 rintro k ⟨js,i0⟩ s out ⟨dr,h1,rfl,o2⟩ H
 have H:aD.l0 m x0 (k+1) js i0=some out:=H
 refine qq <| qq <| q0 <| qc H (fun c0 H=>?_) (fun c0 H=>?_)
 ·refine qk <| qq <| qb 1 ?_
  obtain⟨v0,e3,H⟩:=aQ H
  obtain⟨v1,e4,H⟩:=aQ H
  obtain⟨h2,e5,o3⟩:=dJ (P:=Tryz.prog) (tf:=3) (E:=ae) (l:=js) (q:=1) (v:=i0) (x:=.i i0) o2 rfl Z3 e4 rfl rfl
  exact qr [.v 3 (bW (k:=.i64) (E:=ae) (l:=x0) de e3),.v 4 (dk  (E:=ae) (l:=x0) h1 A3 e3 rfl),.v 6 (aL (k:=.i64) (E:=ae) (l:=js) (q:=1) de o2 rfl e4),.w 7 e5] <| q0 <| ⟨(js.set v0.toNat i0,i64.wrap (i0+1)),⟨dr,h2,ld,(rz o3)⟩,H⟩
 ·exact qx 0 <| ⟨rfl,js,i0,oi H,.i i0,.bool (decide (i0<(x0.length:Int))),dr,h1,kr,o2⟩
theorem aD.n5 (L:Mem)(l0:List ai)(x0:(List Int))(cm:Nat)(bJ:List Int)(cm:Nat)(cE:Nat)(hU:List ai)(i2:Int)(cE:Nat)(eU:List Nat)(v3:ai)   : cd Tryz.prog cf lZ m (sub [1,1,1,1,1,0,1,0,0,1,0,0,1,1,0,1,0,0] (bA Tryz.f112)) (fun k (σ:(List Int) × Int)=>aD.l2 m bJ v3 k σ.1 σ.2) (fun σ s=>match σ with | (bH,k0)=>∃dT h5,s=⟨af.fz l0 :: .any :: .lp 4 0::ae.fz x0 :: .rs cm 0 bJ.length 1 :: .rs cE 0 hU.length 4 :: .any :: .i i2 :: .lp 10 0 :: .rs dT 0 bH.length 1 :: .i k0::Q9 [],[some [.nils,.i 0],some [.i v3.kind,.i v3.int,.str v3.label,ae.fz v3.args],none,none],h5⟩∧Has h5 ((dT,.sl bH.length 1 (ae.l bH))::(cE,.sl hU.length 4 (eM.l (bl hU eU)))::(cm,.sl bJ.length 1 (ae.l bJ))::(fQ hU eU++L))) (fun out e s=>(e = .exit 4∧∃bH k0,(bH,k0)=out∧∃uR Yl dT h5,s=⟨af.fz l0 :: .any :: .lp 4 0::ae.fz x0 :: .rs cm 0 bJ.length 1 :: .rs cE 0 hU.length 4 :: .any :: .i i2 :: .lp 10 0 :: .rs dT 0 bH.length 1::uR::BI (Yl::wz []),[some [.nils,.i 0],some [.i v3.kind,.i v3.int,.str v3.label,ae.fz v3.args],none,none],h5⟩∧Has h5 ((dT,.sl bH.length 1 (ae.l bH))::(cE,.sl hU.length 4 (eM.l (bl hU eU)))::(cm,.sl bJ.length 1 (ae.l bJ))::(fQ hU eU++L)))):=by
 refine jW (fun _=>rfl) ?_
 rintro k ⟨bH,k0⟩ s out ⟨dT,h5,rfl,o7⟩ H
 have H:aD.l2 m bJ v3 (k+1) bH k0=some out:=H
 refine qq <| qq <| q0 <| qc H (fun c2 H=>?_) (fun c2 H=>?_)
 ·refine qk <| qq <| qb 5 ?_
  obtain⟨v4,e9,H⟩:=aQ H
  obtain⟨v5,nW,H⟩:=aQ H
  obtain⟨x2,rG,H⟩:=aQ H
  obtain⟨ir,h6,sy,o8⟩:=dY (P:=Tryz.prog) (E:=ae) (l:=bH) (q:=0) (t2:=22) (x:=.fz [.i v5] 1 true) (l2:=([v5])) de o7 rfl kr rfl rG
  exact qr [.v 5 (bW (k:=.i64) (E:=ae) (l:=v3.args) de e9),.v 6 (dk  (E:=ae) (l:=v3.args) h5 A3 e9 rfl),.v 7 (aL (k:=.i64) (E:=ae) (l:=bJ) (q:=2) de o7 rfl nW),.v 8 (bn  (E:=ae) (l:=bJ) (q:=2) o7 rfl A3 nW rfl),.a 10 sy] <| q0 <| ⟨(x2,i64.wrap (k0+1)),⟨ir,h6,kr,o8⟩,H⟩
 ·exact qx 4 <| ⟨rfl,bH,k0,oi H,.i k0,.bool (decide (k0<(v3.args.length:Int))),dT,h5,kr,o7⟩
theorem aD.jG (L:Mem)(l0:List ai)(x0:(List Int))(cm:Nat)(bJ:List Int)(cm:Nat)   : cd Tryz.prog cf lZ m (sub [1,1,1,1,1,0,1,0,0] (bA Tryz.f112)) (fun k (σ:(List ai) × Int)=>aD.l1 m l0 x0 bJ k σ.1 σ.2) (fun σ s=>match σ with | (hU,i2)=>∃cE eU h4,s=⟨af.fz l0 :: .any :: .lp 4 0::ae.fz x0 :: .rs cm 0 bJ.length 1 :: .rs cE 0 hU.length 4 :: .any :: .i i2::Rb [],[some [.nils,.i 0],none,none,none],h4⟩∧Has h4 ((cE,.sl hU.length 4 (eM.l (bl hU eU)))::(cm,.sl bJ.length 1 (ae.l bJ))::(fQ hU eU++L))) (fun out e s=>(e = .exit 2∧∃hU i2,(hU,i2)=out∧∃nA DP wE Ym cE eU h4,s=⟨nA :: .any :: .lp 4 0::DP :: .rs cm 0 bJ.length 1 :: .rs cE 0 hU.length 4 :: .any::wE::yi (Ym::yh []),[some [.nils,.i 0],none,none,none],h4⟩∧Has h4 ((cE,.sl hU.length 4 (eM.l (bl hU eU)))::(cm,.sl bJ.length 1 (ae.l bJ))::(fQ hU eU++L)))):=by
 refine jW (fun _=>rfl) ?_
 rintro k ⟨hU,i2⟩ s out ⟨cE,eU,h4,rfl,o5⟩ H
 have H:aD.l1 m l0 x0 bJ (k+1) hU i2=some out:=H
 refine qq <| qq <| q0 <| qc H (fun c1 H=>?_) (fun c1 H=>?_)
 ·refine qk <| qq <| qb 3 <| qq ?_
  obtain⟨v2,e7,H⟩:=aQ H
  obtain⟨v3,e8,H⟩:=aQ H
  refine qr [.v 3 (bW (k:=.i64) (E:=ae) (l:=x0) de e7),.v 4 (dk  (E:=ae) (l:=x0) h4 A3 e7 rfl),.v 5 (bW (k:=.i64) (E:=af) (l:=l0) lF e8),.v 6 (gf  (E:=af) (l:=l0) h4 sM sN e8)] <| qq <| q0 ?_
  have o6:Has h4 ((((0)),.sl (([]:List Int).length) 1 (ae.l ([]:List Int)))::(cE,.sl hU.length 4 (eM.l (bl hU eU)))::(cm,.sl bJ.length 1 (ae.l bJ))::(fQ hU eU++L)):=Has.nil o5 1
  refine qq <| qq <| q0 <| qb 4 ?_
  obtain⟨eT,rZ,H⟩:=aQ H
  refine ql (aD.n5 L l0 x0 cm bJ cm cE hU i2 cE eU v3   (([]:List Int),0) _ _ ⟨((0)),h4,kr,o6⟩ rZ) ?_
  rintro e s ⟨rfl,mH,k1,rfl,g2,g3,iy,h7,rfl,o9⟩
  try dsimp only at H
  refine q1 ?_
  obtain⟨x3,wG,H⟩:=aQ H
  obtain⟨iA,yz,h8,sA,sO⟩:=Lb (P:=Tryz.prog) (t2:=23) (pre:=[(cm,.sl bJ.length 1 (ae.l bJ))]) (ns:=hU) (ids:=eU) (kind:=v3.kind) (int:=v3.int) (label:=v3.label) (args:=mH) (x:=.fz [.i v3.kind,.i v3.int,.str v3.label,.rs iy 0 mH.length 1] 1 true) lF (bN (bN (bN o9 2) 1) 2) kr rfl wG
  exact qr [.a 3 sA] <| q0 <| ⟨(x3,i64.wrap (i2+1)),⟨iA,yz,h8,kr,sO⟩,H⟩
 ·exact qx 2 <| ⟨rfl,hU,i2,oi H,af.fz l0,ae.fz x0,.i i2,.bool (decide (i2<(x0.length:Int))),cE,eU,h4,kr,o5⟩
theorem aD.tM (L:Mem)(cm:Nat)(bJ:List Int)(cm:Nat)(x4:(List Int))(i4:Int)   : cd Tryz.prog cf lZ m (sub [1,1,1,1,1,1,1,0,1,0,0,1,0,0,1,0,0] (bA Tryz.f112)) (fun k (σ:(List ai) × Int)=>aD.l4 m x4 i4 k σ.1 σ.2) (fun σ s=>match σ with | (gM,k2)=>∃eR oe h11,s=⟨.any :: .any :: .lp 4 0 :: .any :: .rs cm 0 bJ.length 1 :: .rs eR 0 gM.length 4::wz (ae.fz x4 :: .i i4 :: .i k2::Q2 []),[some [.nils,.i 0],none,none,none],h11⟩∧Has h11 ((eR,.sl gM.length 4 (eM.l (bl gM oe)))::(cm,.sl bJ.length 1 (ae.l bJ))::(fQ gM oe++L))) (fun out e s=>(e = .exit 8∧∃gM k2,(gM,k2)=out∧∃B4 Yn eR oe h11,s=⟨.any :: .any :: .lp 4 0 :: .any :: .rs cm 0 bJ.length 1 :: .rs eR 0 gM.length 4::wz (ae.fz x4 :: .i i4::B4::ss (Yn::mU [])),[some [.nils,.i 0],none,none,none],h11⟩∧Has h11 ((eR,.sl gM.length 4 (eM.l (bl gM oe)))::(cm,.sl bJ.length 1 (ae.l bJ))::(fQ gM oe++L)))):=by
 refine jW (fun _=>rfl) ?_
 rintro k ⟨gM,k2⟩ s out ⟨eR,oe,h11,rfl,mK⟩ H
 have H:aD.l4 m x4 i4 (k+1) gM k2=some out:=H
 refine qq <| qq ?_
 obtain⟨v6,zk,H⟩:=aQ H
 refine qr [.v 3 (aL (k:=.i64) (E:=eM) (l:=(bl gM oe)) (q:=0) lF mK rfl (kn zk)),.v 5 (oL  (E:=eM) (l:=(bl gM oe)) (q:=0) (off:=3) mK rfl SZ (kn zk) rfl)] <| qc H (fun c4 H=>?_) (fun c4 H=>?_)
 ·refine qk <| qq <| qb 9 ?_
  obtain⟨v7,vU,H⟩:=aQ H
  obtain⟨v8,Av,H⟩:=aQ H
  obtain⟨v9,Aw,H⟩:=aQ H
  obtain⟨v10,Ax,H⟩:=aQ H
  obtain⟨v11,zl,H⟩:=aQ H
  obtain⟨h12,zH,rJ⟩:=Rf (P:=Tryz.prog) (tf:=3) (pre:=[(cm,.sl bJ.length 1 (ae.l bJ))]) (v:=v10) mK Z3 vU zl
  refine qr [.v 2 (aL (k:=.i64) (E:=eM) (l:=(bl gM oe)) (q:=0) lF mK rfl (kn vU)),.v 4 (oL  (E:=eM) (l:=(bl gM oe)) (q:=0) (off:=3) mK rfl SZ (kn vU) rfl),.v 9 (aL (k:=.i64) (E:=eM) (l:=(bl gM oe)) (q:=0) lF mK rfl (kn Av)),.v 11 (oL  (E:=eM) (l:=(bl gM oe)) (q:=0) (off:=3) mK rfl SZ (kn Av) rfl),.v 13 (aL (k:=.i64) (E:=ae) (l:=v8.args) de mK (uF (pre:=[(eR,.sl gM.length 4 (eM.l (bl gM oe))),(cm,.sl bJ.length 1 (ae.l bJ))]) (ids:=oe) Av) Aw),.v 14 (bn  (E:=ae) (l:=v8.args) mK (uF (pre:=[(eR,.sl gM.length 4 (eM.l (bl gM oe))),(cm,.sl bJ.length 1 (ae.l bJ))]) (ids:=oe) Av) A3 Aw rfl),.v 15 (bW (k:=.i64) (E:=ae) (l:=x4) de Ax),.v 16 (dk  (E:=ae) (l:=x4) h11 A3 Ax rfl),.v 17 (aL (k:=.i64) (E:=ae) (l:=v7.args) de mK (uF (pre:=[(eR,.sl gM.length 4 (eM.l (bl gM oe))),(cm,.sl bJ.length 1 (ae.l bJ))]) (ids:=oe) vU) zl),.w 18 zH] ?_
  exact q0 <| ⟨(gM.set i4.toNat (ai.mk v7.kind v7.int v7.label (v7.args.set k2.toNat v10)),i64.wrap (k2+1)),⟨eR,oe,h12,ld,(rz rJ)⟩,H⟩
 ·exact qx 8 <| ⟨rfl,gM,k2,oi H,.i k2,.bool (decide (k2<(v6.args.length:Int))),eR,oe,h11,kr,mK⟩
theorem aD.tL (L:Mem)(cm:Nat)(bJ:List Int)(cm:Nat)(x4:(List Int))   : cd Tryz.prog cf lZ m (sub [1,1,1,1,1,1,1,0,1,0,0] (bA Tryz.f112)) (fun k (σ:(List ai) × Int)=>aD.l3 m x4 k σ.1 σ.2) (fun σ s=>match σ with | (k9,i4)=>∃ml yA h10,s=⟨.any :: .any :: .lp 4 0 :: .any :: .rs cm 0 bJ.length 1 :: .rs ml 0 k9.length 4::wz (ae.fz x4 :: .i i4::FF []),[some [.nils,.i 0],none,none,none],h10⟩∧Has h10 ((ml,.sl k9.length 4 (eM.l (bl k9 yA)))::(cm,.sl bJ.length 1 (ae.l bJ))::(fQ k9 yA++L))) (fun out e s=>(e = .exit 6∧∃k9 i4,(k9,i4)=out∧∃qF yw Yo ml yA h10,s=⟨.any :: .any :: .lp 4 0 :: .any :: .rs cm 0 bJ.length 1 :: .rs ml 0 k9.length 4::wz (qF::yw::ss (Yo::lW [])),[some [.nils,.i 0],none,none,none],h10⟩∧Has h10 ((ml,.sl k9.length 4 (eM.l (bl k9 yA)))::(cm,.sl bJ.length 1 (ae.l bJ))::(fQ k9 yA++L)))):=by
 refine jW (fun _=>rfl) ?_
 rintro k ⟨k9,i4⟩ s out ⟨ml,yA,h10,rfl,xj⟩ H
 have H:aD.l3 m x4 (k+1) k9 i4=some out:=H
 refine qq <| qq <| q0 <| qc H (fun c3 H=>?_) (fun c3 H=>?_)
 ·refine qk <| qq <| qb 7 <| qq <| q0 <| qb 8 ?_
  obtain⟨qJ,B3,H⟩:=aQ H
  refine ql (aD.tM L cm bJ cm x4 i4   (k9,0) _ _ ⟨ml,yA,h10,kr,xj⟩ B3) ?_
  rintro e s ⟨rfl,L2,k3,rfl,g8,g9,ij,Yp,h13,rfl,zm⟩
  try dsimp only at H
  exact q0 <| ⟨(L2,i64.wrap (i4+1)),⟨ij,Yp,h13,kr,zm⟩,H⟩
 ·exact qx 6 <| ⟨rfl,k9,i4,oi H,ae.fz x4,.i i4,.bool (decide (i4<(k9.length:Int))),ml,yA,h10,kr,xj⟩
theorem aD.LW (L:Mem)(fF:Nat)(cX:List ai)(fF:Nat)(jS:List Nat)(x5:(List Int))   : cd Tryz.prog cf lZ m (sub [1,1,1,1,1,1,1,1,1,0,1,0,0] (bA Tryz.f112)) (fun k (σ:(List Int) × Int)=>aD.l5 m x5 k σ.1 σ.2) (fun σ s=>match σ with | (jt,i6)=>∃fP h15,s=⟨.any :: .any :: .lp 4 0 :: .any :: .rs fP 0 jt.length 1 :: .rs fF 0 cX.length 4::wA (ae.fz x5 :: .i i6::DC []),[some [.nils,.i 0],none,none,none],h15⟩∧Has h15 ((fF,.sl cX.length 4 (eM.l (bl cX jS)))::(fP,.sl jt.length 1 (ae.l jt))::(fQ cX jS++L))) (fun out e s=>(e = .exit 10∧∃jt i6,(jt,i6)=out∧∃B5 LX fP h15,s=⟨.any :: .any :: .lp 4 0 :: .any :: .rs fP 0 jt.length 1 :: .rs fF 0 cX.length 4::wA (ae.fz x5::B5::zB [LX,.any,.any]),[some [.nils,.i 0],none,none,none],h15⟩∧Has h15 ((fF,.sl cX.length 4 (eM.l (bl cX jS)))::(fP,.sl jt.length 1 (ae.l jt))::(fQ cX jS++L)))):=by
 refine jW (fun _=>rfl) ?_
 rintro k ⟨jt,i6⟩ s out ⟨fP,h15,rfl,zn⟩ H
 have H:aD.l5 m x5 (k+1) jt i6=some out:=H
 refine qq <| qq <| q0 <| qc H (fun c5 H=>?_) (fun c5 H=>?_)
 ·refine qk <| qq <| qb 11 ?_
  obtain⟨v12,Hy,H⟩:=aQ H
  obtain⟨LG,Jo,H⟩:=aQ H
  obtain⟨h16,Jp,px⟩:=dJ (P:=Tryz.prog) (tf:=3) (E:=ae) (l:=jt) (q:=1) (v:=i6) (x:=.i i6) zn rfl Z3 Jo rfl rfl
  exact qr [.v 3 (bW (k:=.i64) (E:=ae) (l:=x5) de Hy),.v 4 (dk  (E:=ae) (l:=x5) h15 A3 Hy rfl),.v 6 (aL (k:=.i64) (E:=ae) (l:=jt) (q:=1) de zn rfl Jo),.w 7 Jp] <| q0 <| ⟨(jt.set v12.toNat i6,i64.wrap (i6+1)),⟨fP,h16,ld,(rz px)⟩,H⟩
 ·exact qx 10 <| ⟨rfl,jt,i6,oi H,.i i6,.bool (decide (i6<(x5.length:Int))),fP,h15,kr,zn⟩
theorem aD.Vb (L:Mem)(fF:Nat)(cX:List ai)(fF:Nat)(jS:List Nat)(x5:(List Int))(gI:Nat)(dz:List Int)(gI:Nat)(iJ:Nat)(i8:Int)(jI:List ai)(qS:Int)(iJ:Nat)(CP:Int)(qN:ai)(JY:ix cX CP=some qN)   : cd Tryz.prog cf lZ m (sub [1,1,1,1,1,1,1,1,1,1,1,0,1,0,0,1,0,0,1,1,0,1,0,0] (bA Tryz.f112)) (fun k (σ:(List Int) × Int)=>aD.l7 m dz qN k σ.1 σ.2) (fun σ s=>match σ with | (la,k4)=>∃jm h19,s=⟨.any :: .any :: .lp 4 0 :: .any :: .rs gI 0 dz.length 1 :: .rs fF 0 cX.length 4::wA (ae.fz x5 :: .any :: .lp 18 0 :: .i i8 :: .lp 20 0 :: .rs jm 0 la.length 1 :: .i k4::wA []),[some [.nils,.i 0],none,some [.rs iJ 0 jI.length 4,.i qS],some [.i qN.kind,.i qN.int,.str qN.label,.rs (JU jS CP) 0 qN.args.length 1]],h19⟩∧Has h19 ((jm,.sl la.length 1 (ae.l la))::(iJ,.sl jI.length 4 (af.l jI))::(fF,.sl cX.length 4 (eM.l (bl cX jS)))::(gI,.sl dz.length 1 (ae.l dz))::(fQ cX jS++L))) (fun out e s=>(e = .exit 14∧∃la k4,(la,k4)=out∧∃uT Vc jm h19,s=⟨.any :: .any :: .lp 4 0 :: .any :: .rs gI 0 dz.length 1 :: .rs fF 0 cX.length 4::wA (ae.fz x5 :: .any :: .lp 18 0 :: .i i8 :: .lp 20 0 :: .rs jm 0 la.length 1::uT::EY [Vc]),[some [.nils,.i 0],none,some [.rs iJ 0 jI.length 4,.i qS],some [.i qN.kind,.i qN.int,.str qN.label,.rs (JU jS CP) 0 qN.args.length 1]],h19⟩∧Has h19 ((jm,.sl la.length 1 (ae.l la))::(iJ,.sl jI.length 4 (af.l jI))::(fF,.sl cX.length 4 (eM.l (bl cX jS)))::(gI,.sl dz.length 1 (ae.l dz))::(fQ cX jS++L)))):=by
 refine jW (fun _=>rfl) ?_
 rintro k ⟨la,k4⟩ s out ⟨jm,h19,rfl,Hx⟩ H
 have H:aD.l7 m dz qN (k+1) la k4=some out:=H
 refine qq <| qq <| q0 <| qc H (fun c7 H=>?_) (fun c7 H=>?_)
 ·refine qk <| qq <| qb 15 ?_
  obtain⟨rA,OI,H⟩:=aQ H
  obtain⟨PS,OJ,H⟩:=aQ H
  obtain⟨x6,RL,H⟩:=aQ H
  obtain⟨lY,h20,RN,LK⟩:=dY (P:=Tryz.prog) (E:=ae) (l:=la) (q:=0) (t2:=22) (x:=.fz [.i PS] 1 true) (l2:=([PS])) de Hx rfl kr rfl RL
  exact qr [.v 5 (aL (k:=.i64) (E:=ae) (l:=qN.args) de Hx (uF (pre:=[(jm,.sl la.length 1 (ae.l la)),(iJ,.sl jI.length 4 (af.l jI)),(fF,.sl cX.length 4 (eM.l (bl cX jS))),(gI,.sl dz.length 1 (ae.l dz))]) (ids:=jS) JY) OI),.v 6 (bn  (E:=ae) (l:=qN.args) Hx (uF (pre:=[(jm,.sl la.length 1 (ae.l la)),(iJ,.sl jI.length 4 (af.l jI)),(fF,.sl cX.length 4 (eM.l (bl cX jS))),(gI,.sl dz.length 1 (ae.l dz))]) (ids:=jS) JY) A3 OI rfl),.v 7 (aL (k:=.i64) (E:=ae) (l:=dz) (q:=3) de Hx rfl OJ),.v 8 (bn  (E:=ae) (l:=dz) (q:=3) Hx rfl A3 OJ rfl),.a 10 RN] <| q0 <| ⟨(x6,i64.wrap (k4+1)),⟨lY,h20,kr,LK⟩,H⟩
 ·exact qx 14 <| ⟨rfl,la,k4,oi H,.i k4,.bool (decide (k4<(qN.args.length:Int))),jm,h19,kr,Hx⟩
theorem aD.LV (L:Mem)(fF:Nat)(cX:List ai)(fF:Nat)(jS:List Nat)(x5:(List Int))(gI:Nat)(dz:List Int)(gI:Nat)   : cd Tryz.prog cf lZ m (sub [1,1,1,1,1,1,1,1,1,1,1,0,1,0,0] (bA Tryz.f112)) (fun k (σ:Int × (List ai) × Int)=>aD.l6 m cX x5 dz k σ.1 σ.2.1 σ.2.2) (fun σ s=>match σ with | (i8,jI,qS)=>∃iJ h18,s=⟨.any :: .any :: .lp 4 0 :: .any :: .rs gI 0 dz.length 1 :: .rs fF 0 cX.length 4::wA (ae.fz x5 :: .any :: .lp 18 0 :: .i i8::ss []),[some [.nils,.i 0],none,some [.rs iJ 0 jI.length 4,.i qS],none],h18⟩∧Has h18 ((iJ,.sl jI.length 4 (af.l jI))::(fF,.sl cX.length 4 (eM.l (bl cX jS)))::(gI,.sl dz.length 1 (ae.l dz))::(fQ cX jS++L))) (fun out e s=>(e = .exit 12∧∃i8 jI qS,(i8,jI,qS)=out∧∃DR DN FR LA Vd iJ h18,s=⟨.any :: .any :: .lp 4 0 :: .any::DR::DN::wA (FR :: .any :: .lp 18 0::LA::Ot [Vd,.any]),[some [.nils,.i 0],none,some [.rs iJ 0 jI.length 4,.i qS],none],h18⟩∧Has h18 ((iJ,.sl jI.length 4 (af.l jI))::(fF,.sl cX.length 4 (eM.l (bl cX jS)))::(gI,.sl dz.length 1 (ae.l dz))::(fQ cX jS++L)))):=by
 refine jW (fun _=>rfl) ?_
 rintro k ⟨i8,jI,qS⟩ s out ⟨iJ,h18,rfl,yJ⟩ H
 have H:aD.l6 m cX x5 dz (k+1) i8 jI qS=some out:=H
 refine qq <| qq <| q0 <| qc H (fun c6 H=>?_) (fun c6 H=>?_)
 ·refine qk <| qq <| qb 13 <| qq ?_
  obtain⟨CP,Jn,H⟩:=aQ H
  obtain⟨qN,JY,H⟩:=aQ H
  refine qr [.v 3 (bW (k:=.i64) (E:=ae) (l:=x5) de Jn),.v 4 (dk  (E:=ae) (l:=x5) h18 A3 Jn rfl),.v 5 (aL (k:=.i64) (E:=eM) (l:=(bl cX jS)) (q:=1) lF yJ rfl (kn JY)),.v 6 (xg  (E:=eM) (l:=(bl cX jS)) (q:=1) yJ rfl sM sN (kn JY))] <| qq <| q0 ?_
  have uV:Has h18 ((((((0)))),.sl (([]:List Int).length) 1 (ae.l ([]:List Int)))::(iJ,.sl jI.length 4 (af.l jI))::(fF,.sl cX.length 4 (eM.l (bl cX jS)))::(gI,.sl dz.length 1 (ae.l dz))::(fQ cX jS++L)):=Has.nil yJ 1
  refine qq <| qq <| q0 <| qb 14 ?_
  obtain⟨L3,OL,H⟩:=aQ H
  refine ql (aD.Vb L fF cX fF jS x5 gI dz gI iJ i8 jI qS iJ CP qN JY   (([]:List Int),0) _ _ ⟨((((0)))),h18,kr,uV⟩ OL) ?_
  rintro e s ⟨rfl,D9,k5,rfl,g15,g16,mM,h21,rfl,RM⟩
  try dsimp only at H
  refine qq ?_
  obtain⟨h22,Te,mS⟩:=lT (E:=ae) (l:=D9) (q:=0) RM rfl
  refine JV [.a 0 Te] [] ?_
  obtain⟨x7,U4,H⟩:=aQ H
  obtain⟨qM,h23,OP,NI⟩:=dY (P:=Tryz.prog) (E:=af) (l:=jI) (q:=0) (t2:=23) (x:=.fz [.i qN.kind,.i qN.int,.str qN.label,ae.fz D9] 1 true) (l2:=([(ai.mk qN.kind qN.int qN.label D9)])) lF mS rfl kr rfl U4
  exact qr [.a 4 OP] <| q0 <| ⟨(i64.wrap (i8+1),x7,qS),⟨qM,h23,kr,NI⟩,H⟩
 ·exact qx 12 <| ⟨rfl,i8,jI,qS,oi H,.rs gI 0 dz.length 1,.rs fF 0 cX.length 4,ae.fz x5,.i i8,.bool (decide (i8<(x5.length:Int))),iJ,h18,kr,yJ⟩
theorem va {aX:FuncId→bX}(ha:aX 112=lZ)(P6:UG cf m)(Ve:U1 cf m)(l0:List ai)(jF:Int)(h:AHeap)(L:Mem)  (o:Has h (L)){out:bm}(H:aD.f m l0 jF=some out) :
  ∃r h',ba Tryz.prog aX cf m 112 [af.fz l0,.i jF] h=some (r,h')∧Oh h' r (.agg [af.fz out.nodes,.i out.root]):=by
 refine ax (fn:=Tryz.f112) ha Tryz.func112 kr kr ?_
 refine aI (Q:=fun s=>aD.fin L out s) (fun _ _ h=>h) ?_
 have H:_=some out:=H
 unfold aD.f at H
 show dB _ cf lZ m _ ⟨af.fz l0 :: .i jF::Re [],[none,none,none,none],h⟩ _
 refine q1 <| qq ?_
 obtain⟨x0,e0,H⟩:=aQ H
 refine qr [.a 2 (P6 _ _ _ e0 h _ fq)] <| qq ?_
 obtain⟨x1,e1,H⟩:=aQ H
 obtain⟨aV,h0,e2,o0⟩:=qv (P:=Tryz.prog) (E:=ae) (z:=0) (zv:=.i 0) de o 3 rfl rfl rfl rfl e1
 refine qr [.a 2 e2] <| qq <| q0 ?_
 have o1:Has h0 (((0),.sl (([]:List ai).length) 4 (eM.l (bl ([]:List ai) ([]:List Nat))))::(aV,.sl x1.length 1 (ae.l x1))::L):=Has.nil o0 4
 refine qq <| qq <| q0 <| qb 0 ?_
 obtain⟨bI,e6,H⟩:=aQ H
 refine ql (aD.cF L l0 x0   (x1,0) _ _ ⟨aV,h0,kr,o1⟩ e6) ?_
 rintro e s ⟨rfl,bJ,i1,rfl,g0,g1,cm,h3,rfl,o4⟩
 try dsimp only at H
 refine qq <| qq <| q0 <| qb 2 ?_
 obtain⟨jD,uP,H⟩:=aQ H
 refine ql (aD.jG L l0 x0 cm bJ cm   (([]:List ai),0) _ _ ⟨(0),([]:List Nat),h3,kr,o4⟩ uP) ?_
 rintro e s ⟨rfl,yV,i3,rfl,g4,g5,g6,g7,lh,FK,h9,rfl,tH⟩
 try dsimp only at H
 refine qq ?_
 obtain⟨x4,wK,H⟩:=aQ H
 refine qr [.a 1 (Ve _ _ wK h9 _ (km (ao (Lc (pre:=[(lh,.sl yV.length 4 (eM.l (bl yV FK))),(cm,.sl bJ.length 1 (ae.l bJ))]) (ns:=yV) (ids:=FK) (q:=0) tH rfl) (aJ))))] <| qq <| qq <| q0 <| qb 6 ?_
 obtain⟨eA,CQ,H⟩:=aQ H
 refine ql (aD.tL L cm bJ cm x4   (yV,0) _ _ ⟨lh,FK,h9,kr,tH⟩ CQ) ?_
 rintro e s ⟨rfl,cX,i5,rfl,g10,g11,g12,fF,jS,h14,rfl,pa⟩
 try dsimp only at H
 refine qq ?_
 obtain⟨x5,Jm,H⟩:=aQ H
 refine qr [.a 1 (P6 _ _ _ Jm h14 _ (km (ao (Lc (pre:=[(fF,.sl cX.length 4 (eM.l (bl cX jS))),(cm,.sl bJ.length 1 (ae.l bJ))]) (ns:=cX) (ids:=jS) (q:=0) pa rfl) (ao (bP) (aJ)))))] <| qq <| qq <| q0 <| qb 10 ?_
 obtain⟨D4,E0,H⟩:=aQ H
 refine ql (aD.LW L fF cX fF jS x5   (bJ,0) _ _ ⟨cm,h14,kr,pa⟩ E0) ?_
 rintro e s ⟨rfl,dz,i7,rfl,g13,g14,gI,h17,rfl,zI⟩
 try dsimp only at H
 refine q1 ?_
 have LJ:Has h17 (((((0))),.sl (([]:List ai).length) 4 (af.l ([]:List ai)))::(fF,.sl cX.length 4 (eM.l (bl cX jS)))::(gI,.sl dz.length 1 (ae.l dz))::(fQ cX jS++L)):=Has.nil zI 4
 refine qq <| qq <| q0 <| qb 12 ?_
 obtain⟨P4,PX,H⟩:=aQ H
 refine ql (aD.LV L fF cX fF jS x5 gI dz gI   (0,([]:List ai),0) _ _ ⟨(((0))),h17,kr,LJ⟩ PX) ?_
 rintro e s ⟨rfl,i9,OQ,L4,rfl,g17,g18,g19,g20,g21,iK,h24,rfl,JZ⟩
 try dsimp only at H
 refine qq ?_
 obtain⟨h25,PY,RP⟩:=lT (E:=af) (l:=OQ) (q:=0) JZ rfl
 refine JV [.a 0 PY] [] ?_
 have RQ:Has h25 ((fF,.sl cX.length 4 (eM.l (bl cX jS)))::(fQ cX jS++L)):=jV RP 1
 have Tb:Has h25 (L):=Has.gone (pre:=[]) (jV RQ 0)
 obtain rfl:=oi H
 exact qt <| ⟨.inl rfl,Xw (.agg [af.fz OQ,.i L4]) h25 (JP (oO (ao (kF) (ao (bP) (aJ)))))⟩
end
end Go.Proofs.YtifafejidnjckaaGreat
