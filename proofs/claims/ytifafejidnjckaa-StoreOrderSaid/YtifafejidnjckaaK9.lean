/- Part of the proof: Q106, Q16, Q20, Q23, Q24, Q34, Q49, Q66, Q69, Q99, Q103, Q13, Q15, Q28, Q44, Q45, Q83, Q89. -/
import Derived.Test.YtifafejidnjckaaK8
set_option linter.unusedVariables false
set_option linter.unusedSimpArgs false
set_option maxRecDepth 100000
open ByteArray renaming mk → Wo
open List renaming append_assoc → VK, nil_append → V9, cons_append → Wb
namespace Go.Proofs.Ytifafejidnjckaa
open Go Go.R
open Go.IntKind (i64 u64 u8 u32)
def lH:b5:=gX [0,1,2,3,4,10,11,12,13,14,15,16,17,18,19,20,21,22,23,24,28,33,50,58,80,85,103,110,140,151,171,185,199,213] [] [17178820576,17179869124,17179869068,17177771916,17179868940,17175674636,17179869068,17179869068,17179868894,17171480286,17179868894,17179868894,17163091936,17179868650,17179867626,17146313194,17179865578,17112756714,17179867626,17179867626,17179864574,17045646846,17179864574,17179864574,17179860960,17179844576,17179844576,16911409120,17179811808,17179746272,17179811808,17179746272,17179615200,16642744288,17179353056,16105611232,17179615200,17179615200,17179303904,15031820256,17179303908,12884336612,17179336678,8589402086,17179869183] [] []
def aG.l0 (m:Nat)(aw:List Int)(a0:Int)(aQ:Int→Int→Option (Int)):Nat→Int→Int→Option (Int × Int)
 | 0,_,_=>none
 | k+1,i0,j0=>if (decide (i0<j0))=true then ((ix aw (i64.wrap (jl .u64 (u64.wrap (i64.wrap (i0+j0))) 1))).bind fun v0=>(ix aw a0).bind fun v1=>(aQ v0 v1).bind fun r0=>if (decide (r0<(0:Int)))=true then (aG.l0 m aw a0 aQ k (i64.wrap (i64.wrap (jl .u64 (u64.wrap (i64.wrap (i0+j0))) 1)+(1:Int))) j0) else (aG.l0 m aw a0 aQ k i0 (i64.wrap (jl .u64 (u64.wrap (i64.wrap (i0+j0))) 1)))) else (some ((i0,j0)))
def aG.l1 (m:Nat)(i1:Int):Nat→(List Int)→Int→Option ((List Int) × Int)
 | 0,_,_=>none
 | k+1,bl,k0=>if (decide (k0<(i64.wrap (i1 - (1:Int)))))=true then ((ix bl (i64.wrap (k0+(1:Int)))).bind fun v2=>(ix bl k0).bind fun v3=>(ix bl k0).bind fun v4=>(ix (bl.set k0.toNat v2) (i64.wrap (k0+(1:Int)))).bind fun v5=>aG.l1 m i1 k ((bl.set k0.toNat v2).set (i64.wrap (k0+(1:Int))).toNat v3) (i64.wrap (k0+(1:Int)))) else (some ((bl,k0)))
def aG.l2 (m:Nat)(aw:List Int)(m0:Int)(aQ:Int→Int→Option (Int)):Nat→Int→Int→Option (Int × Int)
 | 0,_,_=>none
 | k+1,i2,j2=>if (decide (i2<j2))=true then ((ix aw m0).bind fun v6=>(ix aw (i64.wrap (jl .u64 (u64.wrap (i64.wrap (i2+j2))) 1))).bind fun v7=>(aQ v6 v7).bind fun r1=>if (!(decide (r1<(0:Int))))=true then (aG.l2 m aw m0 aQ k (i64.wrap (i64.wrap (jl .u64 (u64.wrap (i64.wrap (i2+j2))) 1)+(1:Int))) j2) else (aG.l2 m aw m0 aQ k i2 (i64.wrap (jl .u64 (u64.wrap (i64.wrap (i2+j2))) 1)))) else (some ((i2,j2)))
def aG.l3 (m:Nat)(i3:Int):Nat→(List Int)→Int→Option ((List Int) × Int)
 | 0,_,_=>none
 | k+1,dI,k2=>if (decide (k2 > i3))=true then ((ix dI (i64.wrap (k2 - (1:Int)))).bind fun v8=>(ix dI k2).bind fun v9=>(ix dI k2).bind fun v10=>(ix (dI.set k2.toNat v8) (i64.wrap (k2 - (1:Int)))).bind fun v11=>aG.l3 m i3 k ((dI.set k2.toNat v8).set (i64.wrap (k2 - (1:Int))).toNat v9) (i64.wrap (k2 - (1:Int)))) else (some ((dI,k2)))
def aG.l4 (m:Nat)(aw:List Int)(a0:Int)(m0:Int)(b0:Int)(aQ:Int→Int→Option (Int)):Nat→Int→Int→Option (Int × Int)
 | 0,_,_=>none
 | k+1,fX,r3=>if (decide (fX<r3))=true then ((ix aw (i64.wrap (i64.wrap (i64.wrap (i64.wrap (jl .u64 (u64.wrap (i64.wrap (a0+b0))) 1)+m0) - (1:Int)) - i64.wrap (jl .u64 (u64.wrap (i64.wrap (fX+r3))) 1)))).bind fun v12=>(ix aw (i64.wrap (jl .u64 (u64.wrap (i64.wrap (fX+r3))) 1))).bind fun M0=>(aQ v12 M0).bind fun r4=>if (!(decide (r4<(0:Int))))=true then (aG.l4 m aw a0 m0 b0 aQ k (i64.wrap (i64.wrap (jl .u64 (u64.wrap (i64.wrap (fX+r3))) 1)+(1:Int))) r3) else (aG.l4 m aw a0 m0 b0 aQ k fX (i64.wrap (jl .u64 (u64.wrap (i64.wrap (fX+r3))) 1)))) else (some ((fX,r3)))
def aG.b (m:Nat)(rec:(List Int)→Int→Int→Int→(Int→Int→Option (Int))→Option ((List Int)))(aw:List Int)(a0:Int)(m0:Int)(b0:Int)(aQ:Int→Int→Option (Int)):Option ((List Int)):=if ((i64.wrap (m0 - a0))==(1:Int))=true then ((aG.l0 m aw a0 aQ m m0 b0).bind fun b4=>match b4 with | (i1,j1)=>(aG.l1 m i1 m aw a0).bind fun dv=>match dv with | (dc,k1)=>some dc) else (if ((i64.wrap (b0 - m0))==(1:Int))=true then ((aG.l2 m aw m0 aQ m a0 m0).bind fun mP=>match mP with | (i3,j3)=>(aG.l3 m i3 m aw m0).bind fun EX=>match EX with | (ju,k3)=>some ju) else (jn (fun (σ:Int × Int)=>match σ with | (sQ,r2)=>(aG.l4 m aw a0 m0 b0 aQ m sQ r2).bind fun dk=>match dk with | (eZ,r5)=>jn (fun (σ:(List Int))=>match σ with | kV=>jn (fun (σ:(List Int))=>match σ with | pa=>if (decide ((i64.wrap (jl .u64 (u64.wrap (i64.wrap (a0+b0))) 1))<(i64.wrap (i64.wrap (i64.wrap (jl .u64 (u64.wrap (i64.wrap (a0+b0))) 1)+m0) - eZ))))=true then (if (decide ((i64.wrap (i64.wrap (i64.wrap (jl .u64 (u64.wrap (i64.wrap (a0+b0))) 1)+m0) - eZ))<b0))=true then ((rec pa (i64.wrap (jl .u64 (u64.wrap (i64.wrap (a0+b0))) 1)) (i64.wrap (i64.wrap (i64.wrap (jl .u64 (u64.wrap (i64.wrap (a0+b0))) 1)+m0) - eZ)) b0 aQ).bind fun x2=>some x2) else (some pa)) else (some pa)) fun sR=>(if (decide (a0<eZ))=true then (if (decide (eZ<(i64.wrap (jl .u64 (u64.wrap (i64.wrap (a0+b0))) 1))))=true then ((rec kV a0 eZ (i64.wrap (jl .u64 (u64.wrap (i64.wrap (a0+b0))) 1)) aQ).bind fun x1=>sR x1) else (sR kV)) else (sR kV))) fun Gl=>(if (decide (eZ<m0))=true then (if (decide (m0<(i64.wrap (i64.wrap (i64.wrap (jl .u64 (u64.wrap (i64.wrap (a0+b0))) 1)+m0) - eZ))))=true then ((eU.f m aw eZ m0 (i64.wrap (i64.wrap (i64.wrap (jl .u64 (u64.wrap (i64.wrap (a0+b0))) 1)+m0) - eZ)) aQ).bind fun x0=>Gl x0) else (Gl aw)) else (Gl aw))) fun tv=>(if (decide (m0 > (i64.wrap (jl .u64 (u64.wrap (i64.wrap (a0+b0))) 1))))=true then (tv (i64.wrap (i64.wrap (i64.wrap (jl .u64 (u64.wrap (i64.wrap (a0+b0))) 1)+m0) - b0),i64.wrap (jl .u64 (u64.wrap (i64.wrap (a0+b0))) 1))) else (tv (a0,m0)))))
def aG.f (m:Nat):Nat→(List Int)→Int→Int→Int→(Int→Int→Option (Int))→Option ((List Int))
 | 0,_,_,_,_,_=>none
 | k+1,aw,a0,m0,b0,aQ=>aG.b m (aG.f m k) aw a0 m0 b0 aQ
def aG.fin (L:Mem)(aI:Nat)(aw:List Int)(a0:Int)(m0:Int)(b0:Int)(aQ:Int→Int→Option (Int))(r:(List Int))(s:St):Prop:=aM Try.prog (s.open lH) Try.f106.results.toList=some (.tup [])∧Has s.h ((aI,.sl aw.length 1 (af.l r))::L)
def tM (cf:CallF)(m:Nat)(kk:Nat):Prop:=∀(aw:List Int) (a0:Int) (m0:Int) (b0:Int) (aQ:Int→Int→Option (Int)) (r:(List Int)),aG.f m kk aw a0 m0 b0 aQ=some r→∀h L (cm:Nat) (aI:Nat),Has h ((aI,.sl cm 1 (af.l aw))::L)→∀(eL:FuncId) (a6 aS:List AV),(aK (.fn eL a6) = .fn eL a6)→(∀(h:AHeap) (xs:List AV) (a0:Int) (a1:Int) r,aQ a0 a1=some r→aO bR h xs ([.int .i64 a0,.int .i64 a1]++aS)→cf eL xs h=some (.int .i64 r,h))→(∀h K,Has h (K++(L))→aO cE h a6 aS)→(∀h,aO cE h aS aS)→∀xs,xs.map aK=[.rs aI 0 cm 1,.int .i64 a0,.int .i64 m0,.int .i64 b0,.fn eL a6]→∃h',cf 106 xs h=some (.tup [],h')∧Has h' ((aI,.sl cm 1 (af.l r))::L)
section
variable {cf:CallF}{m:Nat}
theorem aG.di (L:Mem)(aI:Nat)(eL:FuncId)(a6 aS:List AV)(aw:List Int)(a0:Int)(m0:Int)(b0:Int)(aQ:Int→Int→Option (Int))  {kk:Nat}(iM:tM cf m kk)(gM:aK (.fn eL a6) = .fn eL a6)(hY:∀(h:AHeap) (xs:List AV) (a0:Int) (a1:Int) r,aQ a0 a1=some r→aO bR h xs ([.int .i64 a0,.int .i64 a1]++aS)→cf eL xs h=some (.int .i64 r,h))(hZ:∀h K,Has h (K++(L))→aO cE h a6 aS)(iL:∀h,aO cE h aS aS)  : dV Try.prog cf lH m (sub [0,1,0,1,1,0,0,0] (b7 Try.f106)) (fun k (σ:Int × Int)=>aG.l0 m aw a0 aQ k σ.1 σ.2) (fun σ s=>match σ with | (i0,j0)=>∃h0,s=⟨.rs aI 0 aw.length 1 :: .int .i64 a0 :: .any :: .any :: .fn eL a6 :: .int .i64 i0 :: .int .i64 j0::Oe [],[],h0⟩∧Has h0 ((aI,.sl aw.length 1 (af.l aw))::L)) (fun out e s=>(e = .exit 0∧∃i0 j0,(i0,j0)=out∧∃JE EL O7 h0,s=⟨.rs aI 0 aw.length 1 :: .int .i64 a0 :: .any :: .any::JE :: .int .i64 i0::EL::vD (O7::vC []),[],h0⟩∧Has h0 ((aI,.sl aw.length 1 (af.l aw))::L))):=by
 refine me (fun _=>rfl) ?_
 rintro k ⟨i0,j0⟩ s out ⟨h0,rfl,o0⟩ H
 have H:aG.l0 m aw a0 aQ (k+1) i0 j0=some out:=H
 refine qq <| qq <| q0 <| qc H (fun c1 H=>?_) (fun c1 H=>?_)
 ·refine qk <| qb 1 <| qq <| q0 <| qq ?_
  obtain⟨v0,e0,H⟩:=bh H
  obtain⟨v1,e1,H⟩:=bh H
  obtain⟨r0,e2,H⟩:=bh H
  refine qr [.v 3 (bo (k:=.i64) (E:=af) (l:=aw) (q:=0) gK o0 rfl e0),.v 4 (dF  (E:=af) (l:=aw) (q:=0) o0 rfl A3 e0 rfl),.v 7 (bo (k:=.i64) (E:=af) (l:=aw) (q:=0) gK o0 rfl e1),.v 8 (dF  (E:=af) (l:=aw) (q:=0) o0 rfl A3 e1 rfl),.a 9 (hY _ _ _ _ _ e2 (Ib (ai (bB) (ai (bB) (ay))) (hZ h0 [(aI,.sl aw.length 1 (af.l aw))] o0)))] <| qc H (fun c2 H=>?_) (fun c2 H=>?_)
  ·exact q0 <| ⟨(i64.wrap (i64.wrap (jl .u64 (u64.wrap (i64.wrap (i0+j0))) 1)+(1:Int)),j0),⟨h0,by kernel_rfl,o0⟩,H⟩
  ·exact q0 <| ⟨(i0,i64.wrap (jl .u64 (u64.wrap (i64.wrap (i0+j0))) 1)),⟨h0,by kernel_rfl,o0⟩,H⟩
 ·exact qx 0 <| ⟨rfl,i0,j0,oi H,.fn eL a6,.int .i64 j0,.bool (decide (i0<j0)),h0,by kernel_rfl,o0⟩
theorem aG.mK (L:Mem)(aI:Nat)(eL:FuncId)(a6 aS:List AV)(aw:List Int)(a0:Int)(m0:Int)(b0:Int)(aQ:Int→Int→Option (Int))(i1:Int)  {kk:Nat}(iM:tM cf m kk)(gM:aK (.fn eL a6) = .fn eL a6)(hY:∀(h:AHeap) (xs:List AV) (a0:Int) (a1:Int) r,aQ a0 a1=some r→aO bR h xs ([.int .i64 a0,.int .i64 a1]++aS)→cf eL xs h=some (.int .i64 r,h))(hZ:∀h K,Has h (K++(L))→aO cE h a6 aS)(iL:∀h,aO cE h aS aS)  : dV Try.prog cf lH m (sub [0,1,0,1,1,1,0,1,0,0] (b7 Try.f106)) (fun k (σ:(List Int) × Int)=>aG.l1 m i1 k σ.1 σ.2) (fun σ s=>match σ with | (bl,k0)=>∃h2,s=⟨.rs aI 0 aw.length 1::og (.int .i64 i1 :: .any :: .any :: .int .i64 k0::Od []),[],h2⟩∧Has h2 ((aI,.sl aw.length 1 (af.l bl))::L)) (fun out e s=>(e = .exit 2∧∃bl k0,(bl,k0)=out∧∃n7 zn sI O8 h2,s=⟨n7::og (zn :: .any :: .any::sI::vD (O8::LA [])),[],h2⟩∧Has h2 ((aI,.sl aw.length 1 (af.l bl))::L))):=by
 refine me (fun _=>rfl) ?_
 rintro k ⟨bl,k0⟩ s out ⟨h2,rfl,o2⟩ H
 have H:aG.l1 m i1 (k+1) bl k0=some out:=H
 refine qq <| qq <| q0 <| qc H (fun c3 H=>?_) (fun c3 H=>?_)
 ·refine qk <| qq <| qb 3 ?_
  obtain⟨v2,e4,H⟩:=bh H
  obtain⟨v3,e5,H⟩:=bh H
  obtain⟨v4,e6,H⟩:=bh H
  obtain⟨h3,e7,o3⟩:=fF (P:=Try.prog) (tf:=3) (E:=af) (l:=bl) (q:=0) (v:=v2) (x:=.int .i64 v2) o2 rfl Z3 e6 rfl rfl
  obtain⟨v5,e8,H⟩:=bh H
  obtain⟨h4,e9,o4⟩:=fF (P:=Try.prog) (tf:=3) (E:=af) (l:=(bl.set k0.toNat v2)) (q:=0) (v:=v3) (x:=.int .i64 v3) o3 rfl Z3 e8 rfl rfl
  exact qr [.v 8 (bo (k:=.i64) (E:=af) (l:=bl) (q:=0) gK o2 rfl e4),.v 9 (dF  (E:=af) (l:=bl) (q:=0) o2 rfl A3 e4 rfl),.v 12 (bo (k:=.i64) (E:=af) (l:=bl) (q:=0) gK o2 rfl e5),.v 13 (dF  (E:=af) (l:=bl) (q:=0) o2 rfl A3 e5 rfl),.v 14 (bo (k:=.i64) (E:=af) (l:=bl) (q:=0) gK o2 rfl e6),.w 15 e7,.v 16 (bo (k:=.i64) (E:=af) (l:=(bl.set k0.toNat v2)) (q:=0) gK o3 rfl e8),.w 17 e9] <| q0 <| ⟨((bl.set k0.toNat v2).set (i64.wrap (k0+(1:Int))).toNat v3,i64.wrap (k0+(1:Int))),⟨h4,by kernel_rfl,o4⟩,H⟩
 ·exact qx 2 <| ⟨rfl,bl,k0,oi H,.rs aI 0 aw.length 1,.int .i64 i1,.int .i64 k0,.bool (decide (k0<(i64.wrap (i1 - (1:Int))))),h2,by kernel_rfl,o2⟩
theorem aG.sS (L:Mem)(aI:Nat)(eL:FuncId)(a6 aS:List AV)(aw:List Int)(a0:Int)(m0:Int)(b0:Int)(aQ:Int→Int→Option (Int))  {kk:Nat}(iM:tM cf m kk)(gM:aK (.fn eL a6) = .fn eL a6)(hY:∀(h:AHeap) (xs:List AV) (a0:Int) (a1:Int) r,aQ a0 a1=some r→aO bR h xs ([.int .i64 a0,.int .i64 a1]++aS)→cf eL xs h=some (.int .i64 r,h))(hZ:∀h K,Has h (K++(L))→aO cE h a6 aS)(iL:∀h,aO cE h aS aS)  : dV Try.prog cf lH m (sub [1,0,1,0,1,1,0,0,0] (b7 Try.f106)) (fun k (σ:Int × Int)=>aG.l2 m aw m0 aQ k σ.1 σ.2) (fun σ s=>match σ with | (i2,j2)=>∃h6,s=⟨.rs aI 0 aw.length 1 :: .any :: .int .i64 m0 :: .any :: .fn eL a6::og (.int .i64 i2 :: .int .i64 j2::Oc []),[],h6⟩∧Has h6 ((aI,.sl aw.length 1 (af.l aw))::L)) (fun out e s=>(e = .exit 4∧∃i2 j2,(i2,j2)=out∧∃JE O9 Pa h6,s=⟨.rs aI 0 aw.length 1 :: .any :: .int .i64 m0 :: .any::JE::og (.int .i64 i2::O9::vD (Pa::Aq [])),[],h6⟩∧Has h6 ((aI,.sl aw.length 1 (af.l aw))::L))):=by
 refine me (fun _=>rfl) ?_
 rintro k ⟨i2,j2⟩ s out ⟨h6,rfl,o6⟩ H
 have H:aG.l2 m aw m0 aQ (k+1) i2 j2=some out:=H
 refine qq <| qq <| q0 <| qc H (fun c5 H=>?_) (fun c5 H=>?_)
 ·refine qk <| qb 5 <| qq <| q0 <| qq ?_
  obtain⟨v6,wv,H⟩:=bh H
  obtain⟨v7,zj,H⟩:=bh H
  obtain⟨r1,yy,H⟩:=bh H
  refine qr [.v 3 (bo (k:=.i64) (E:=af) (l:=aw) (q:=0) gK o6 rfl wv),.v 4 (dF  (E:=af) (l:=aw) (q:=0) o6 rfl A3 wv rfl),.v 7 (bo (k:=.i64) (E:=af) (l:=aw) (q:=0) gK o6 rfl zj),.v 8 (dF  (E:=af) (l:=aw) (q:=0) o6 rfl A3 zj rfl),.a 9 (hY _ _ _ _ _ yy (Ib (ai (bB) (ai (bB) (ay))) (hZ h6 [(aI,.sl aw.length 1 (af.l aw))] o6)))] <| qc H (fun c6 H=>?_) (fun c6 H=>?_)
  ·exact q0 <| ⟨(i64.wrap (i64.wrap (jl .u64 (u64.wrap (i64.wrap (i2+j2))) 1)+(1:Int)),j2),⟨h6,by kernel_rfl,o6⟩,H⟩
  ·exact q0 <| ⟨(i2,i64.wrap (jl .u64 (u64.wrap (i64.wrap (i2+j2))) 1)),⟨h6,by kernel_rfl,o6⟩,H⟩
 ·exact qx 4 <| ⟨rfl,i2,j2,oi H,.fn eL a6,.int .i64 j2,.bool (decide (i2<j2)),h6,by kernel_rfl,o6⟩
theorem aG.EY (L:Mem)(aI:Nat)(eL:FuncId)(a6 aS:List AV)(aw:List Int)(a0:Int)(m0:Int)(b0:Int)(aQ:Int→Int→Option (Int))(i3:Int)  {kk:Nat}(iM:tM cf m kk)(gM:aK (.fn eL a6) = .fn eL a6)(hY:∀(h:AHeap) (xs:List AV) (a0:Int) (a1:Int) r,aQ a0 a1=some r→aO bR h xs ([.int .i64 a0,.int .i64 a1]++aS)→cf eL xs h=some (.int .i64 r,h))(hZ:∀h K,Has h (K++(L))→aO cE h a6 aS)(iL:∀h,aO cE h aS aS)  : dV Try.prog cf lH m (sub [1,0,1,0,1,1,1,0,1,0,0] (b7 Try.f106)) (fun k (σ:(List Int) × Int)=>aG.l3 m i3 k σ.1 σ.2) (fun σ s=>match σ with | (dI,k2)=>∃h8,s=⟨.rs aI 0 aw.length 1::Aq (.int .i64 i3 :: .any :: .any :: .int .i64 k2::Ob []),[],h8⟩∧Has h8 ((aI,.sl aw.length 1 (af.l dI))::L)) (fun out e s=>(e = .exit 6∧∃dI k2,(dI,k2)=out∧∃n7 EB Pb LY h8,s=⟨n7::Aq (EB :: .any :: .any::Pb::vD (LY::xo [])),[],h8⟩∧Has h8 ((aI,.sl aw.length 1 (af.l dI))::L))):=by
 refine me (fun _=>rfl) ?_
 rintro k ⟨dI,k2⟩ s out ⟨h8,rfl,o8⟩ H
 have H:aG.l3 m i3 (k+1) dI k2=some out:=H
 refine qq <| qq <| q0 <| qc H (fun c7 H=>?_) (fun c7 H=>?_)
 ·refine qk <| qq <| qb 7 ?_
  obtain⟨v8,A6,H⟩:=bh H
  obtain⟨v9,ER,H⟩:=bh H
  obtain⟨v10,ES,H⟩:=bh H
  obtain⟨h9,Gg,o9⟩:=fF (P:=Try.prog) (tf:=3) (E:=af) (l:=dI) (q:=0) (v:=v8) (x:=.int .i64 v8) o8 rfl Z3 ES rfl rfl
  obtain⟨v11,ET,H⟩:=bh H
  obtain⟨h10,Hg,xI⟩:=fF (P:=Try.prog) (tf:=3) (E:=af) (l:=(dI.set k2.toNat v8)) (q:=0) (v:=v9) (x:=.int .i64 v9) o9 rfl Z3 ET rfl rfl
  exact qr [.v 8 (bo (k:=.i64) (E:=af) (l:=dI) (q:=0) gK o8 rfl A6),.v 9 (dF  (E:=af) (l:=dI) (q:=0) o8 rfl A3 A6 rfl),.v 12 (bo (k:=.i64) (E:=af) (l:=dI) (q:=0) gK o8 rfl ER),.v 13 (dF  (E:=af) (l:=dI) (q:=0) o8 rfl A3 ER rfl),.v 14 (bo (k:=.i64) (E:=af) (l:=dI) (q:=0) gK o8 rfl ES),.w 15 Gg,.v 16 (bo (k:=.i64) (E:=af) (l:=(dI.set k2.toNat v8)) (q:=0) gK o9 rfl ET),.w 17 Hg] <| q0 <| ⟨((dI.set k2.toNat v8).set (i64.wrap (k2 - (1:Int))).toNat v9,i64.wrap (k2 - (1:Int))),⟨h10,by kernel_rfl,xI⟩,H⟩
 ·exact qx 6 <| ⟨rfl,dI,k2,oi H,.rs aI 0 aw.length 1,.int .i64 i3,.int .i64 k2,.bool (decide (k2 > i3)),h8,by kernel_rfl,o8⟩
theorem aG.EZ (L:Mem)(aI:Nat)(eL:FuncId)(a6 aS:List AV)(aw:List Int)(a0:Int)(m0:Int)(b0:Int)(aQ:Int→Int→Option (Int))  {kk:Nat}(iM:tM cf m kk)(gM:aK (.fn eL a6) = .fn eL a6)(hY:∀(h:AHeap) (xs:List AV) (a0:Int) (a1:Int) r,aQ a0 a1=some r→aO bR h xs ([.int .i64 a0,.int .i64 a1]++aS)→cf eL xs h=some (.int .i64 r,h))(hZ:∀h K,Has h (K++(L))→aO cE h a6 aS)(iL:∀h,aO cE h aS aS)  : dV Try.prog cf lH m (sub [1,1,1,1,1,1,1,0,0,0] (b7 Try.f106)) (fun k (σ:Int × Int)=>aG.l4 m aw a0 m0 b0 aQ k σ.1 σ.2) (fun σ s=>match σ with | (fX,r3)=>∃h13,s=⟨.rs aI 0 aw.length 1 :: .int .i64 a0 :: .int .i64 m0 :: .int .i64 b0 :: .fn eL a6::Aq (.int .i64 (i64.wrap (jl .u64 (u64.wrap (i64.wrap (a0+b0))) 1)) :: .int .i64 (i64.wrap (i64.wrap (jl .u64 (u64.wrap (i64.wrap (a0+b0))) 1)+m0)) :: .int .i64 fX :: .int .i64 r3 :: .int .i64 (i64.wrap (i64.wrap (i64.wrap (jl .u64 (u64.wrap (i64.wrap (a0+b0))) 1)+m0) - (1:Int)))::GX []),[],h13⟩∧Has h13 ((aI,.sl aw.length 1 (af.l aw))::L)) (fun out e s=>(e = .exit 8∧∃fX r3,(fX,r3)=out∧∃Pc EP LZ h13,s=⟨.rs aI 0 aw.length 1 :: .int .i64 a0 :: .int .i64 m0 :: .int .i64 b0 :: .fn eL a6::Aq (.int .i64 (i64.wrap (jl .u64 (u64.wrap (i64.wrap (a0+b0))) 1)) :: .int .i64 (i64.wrap (i64.wrap (jl .u64 (u64.wrap (i64.wrap (a0+b0))) 1)+m0)) :: .int .i64 fX::Pc::EP::tI (LZ::og [])),[],h13⟩∧Has h13 ((aI,.sl aw.length 1 (af.l aw))::L))):=by
 refine me (fun _=>rfl) ?_
 rintro k ⟨fX,r3⟩ s out ⟨h13,rfl,vQ⟩ H
 have H:aG.l4 m aw a0 m0 b0 aQ (k+1) fX r3=some out:=H
 refine qq <| qq <| q0 <| qc H (fun c9 H=>?_) (fun c9 H=>?_)
 ·refine qk <| qb 9 <| qq <| q0 <| qq ?_
  obtain⟨v12,Gi,H⟩:=bh H
  obtain⟨M0,Gj,H⟩:=bh H
  obtain⟨r4,Hh,H⟩:=bh H
  refine qr [.v 5 (bo (k:=.i64) (E:=af) (l:=aw) (q:=0) gK vQ rfl Gi),.v 6 (dF  (E:=af) (l:=aw) (q:=0) vQ rfl A3 Gi rfl),.v 9 (bo (k:=.i64) (E:=af) (l:=aw) (q:=0) gK vQ rfl Gj),.v 10 (dF  (E:=af) (l:=aw) (q:=0) vQ rfl A3 Gj rfl),.a 11 (hY _ _ _ _ _ Hh (Ib (ai (bB) (ai (bB) (ay))) (hZ h13 [(aI,.sl aw.length 1 (af.l aw))] vQ)))] <| qc H (fun CH H=>?_) (fun CH H=>?_)
  ·exact q0 <| ⟨(i64.wrap (i64.wrap (jl .u64 (u64.wrap (i64.wrap (fX+r3))) 1)+(1:Int)),r3),⟨h13,by kernel_rfl,vQ⟩,H⟩
  ·exact q0 <| ⟨(fX,i64.wrap (jl .u64 (u64.wrap (i64.wrap (fX+r3))) 1)),⟨h13,by kernel_rfl,vQ⟩,H⟩
 ·exact qx 8 <| ⟨rfl,fX,r3,oi H,.int .i64 r3,.int .i64 (i64.wrap (i64.wrap (i64.wrap (jl .u64 (u64.wrap (i64.wrap (a0+b0))) 1)+m0) - (1:Int))),.bool (decide (fX<r3)),h13,by kernel_rfl,vQ⟩
theorem sU {aV:FuncId→b5}(ha:aV 106=lH)(L2:LS cf m)(aw:List Int)(a0:Int)(m0:Int)(b0:Int)(aQ:Int→Int→Option (Int))(h:AHeap)(L:Mem)(aI:Nat)(eL:FuncId)(a6 aS:List AV)  {kk:Nat}(iM:tM cf m kk)(gM:aK (.fn eL a6) = .fn eL a6)(hY:∀(h:AHeap) (xs:List AV) (a0:Int) (a1:Int) r,aQ a0 a1=some r→aO bR h xs ([.int .i64 a0,.int .i64 a1]++aS)→cf eL xs h=some (.int .i64 r,h))(hZ:∀h K,Has h (K++(L))→aO cE h a6 aS)(iL:∀h,aO cE h aS aS)(o:Has h ((aI,.sl aw.length 1 (af.l aw))::L)){out:(List Int)}(H:aG.f m (kk+1) aw a0 m0 b0 aQ=some out) :
  ∃r h',aZ Try.prog aV cf m 106 [.rs aI 0 aw.length 1,.int .i64 a0,.int .i64 m0,.int .i64 b0,.fn eL a6] h=some (r,h')∧r = .tup []∧Has h' ((aI,.sl aw.length 1 (af.l out))::L):=by
 refine ar (fn:=Try.f106) ha Try.func106 (by kernel_rfl) (by kernel_rfl) ?_
 refine aH (Q:=fun s=>aG.fin L aI aw a0 m0 b0 aQ out s) (fun _ _ ⟨h1,h2,h3⟩=>⟨h1,_,h2,rfl,h3⟩) ?_
 have H:aG.b m (aG.f m kk) aw a0 m0 b0 aQ=some out:=H
 unfold aG.b at H
 show dp _ cf lH m _ ⟨.rs aI 0 aw.length 1 :: .int .i64 a0 :: .int .i64 m0 :: .int .i64 b0 :: .fn eL a6::Of [],[],h⟩ _
 refine qq <| qq <| q0 <| qc H (fun c0 H=>?_) (fun c0 H=>?_)
 ·refine q1 <| qq <| q0 <| qq <| qb 0 ?_
  obtain⟨b4,e3,H⟩:=bh H
  refine ql (aG.di L aI eL a6 aS aw a0 m0 b0 aQ  iM gM hY hZ iL  (m0,b0) _ _ ⟨h,by kernel_rfl,o⟩ e3) ?_
  rintro e s ⟨rfl,i1,j1,rfl,g0,g1,g2,h1,rfl,o1⟩
  try dsimp only at H
  refine qq <| qq <| q0 <| qb 2 ?_
  obtain⟨dv,tw,H⟩:=bh H
  refine ql (aG.mK L aI eL a6 aS aw a0 m0 b0 aQ i1  iM gM hY hZ iL  (aw,a0) _ _ ⟨h1,by kernel_rfl,o1⟩ tw) ?_
  rintro e s ⟨rfl,dc,k1,rfl,g3,g4,g5,g6,h5,rfl,o5⟩
  try dsimp only at H
  obtain rfl:=oi H
  exact qt <| ⟨.inl rfl,⟨by kernel_rfl,he o5⟩⟩
 ·refine qk <| qq <| qq <| q0 <| qc H (fun c4 H=>?_) (fun c4 H=>?_)
  ·refine q1 <| qq <| q0 <| qq <| qb 4 ?_
   obtain⟨mP,CG,H⟩:=bh H
   refine ql (aG.sS L aI eL a6 aS aw a0 m0 b0 aQ  iM gM hY hZ iL  (a0,m0) _ _ ⟨h,by kernel_rfl,o⟩ CG) ?_
   rintro e s ⟨rfl,i3,j3,rfl,g7,g8,g9,h7,rfl,o7⟩
   try dsimp only at H
   refine qq <| qq <| q0 <| qb 6 ?_
   obtain⟨EX,Gh,H⟩:=bh H
   refine ql (aG.EY L aI eL a6 aS aw a0 m0 b0 aQ i3  iM gM hY hZ iL  (aw,m0) _ _ ⟨h7,by kernel_rfl,o7⟩ Gh) ?_
   rintro e s ⟨rfl,ju,k3,rfl,g10,g11,g12,g13,h11,rfl,Di⟩
   try dsimp only at H
   obtain rfl:=oi H
   exact qt <| ⟨.inl rfl,⟨by kernel_rfl,he Di⟩⟩
  ·refine qk <| qq <| q0 <| qq <| q0 <| qq <| q0 ?_
   obtain⟨tv,ED,H⟩:=lA H
   refine qj (S:=fun (σ:Int × Int) s=>match σ with | (sQ,r2)=>∃(h12:AHeap),s=⟨.rs aI 0 aw.length 1 :: .int .i64 a0 :: .int .i64 m0 :: .int .i64 b0 :: .fn eL a6::Aq (.int .i64 (i64.wrap (jl .u64 (u64.wrap (i64.wrap (a0+b0))) 1)) :: .int .i64 (i64.wrap (i64.wrap (jl .u64 (u64.wrap (i64.wrap (a0+b0))) 1)+m0)) :: .int .i64 sQ :: .int .i64 r2::N9 []),[],h12⟩∧Has h12 ((aI,.sl aw.length 1 (af.l aw))::L)) tv H ?_ ?_
   ·rintro⟨sQ,r2⟩ s ⟨h12,rfl,Dj⟩ H
    have H:=(ED _).symm.trans H
    try dsimp only at H
    refine q1 <| qq <| qb 8 ?_
    obtain⟨dk,Gk,H⟩:=bh H
    refine ql (aG.EZ L aI eL a6 aS aw a0 m0 b0 aQ  iM gM hY hZ iL  (sQ,r2) _ _ ⟨h12,by kernel_rfl,Dj⟩ Gk) ?_
    rintro e s ⟨rfl,eZ,r5,rfl,g14,g15,g16,h14,rfl,nl⟩
    try dsimp only at H
    refine q1 ?_
    obtain⟨Gl,Ig,H⟩:=lA H
    refine qj (S:=fun (σ:(List Int)) s=>match σ with | kV=>∃(g17:AV) (g18:AV) (h16:AHeap),s=⟨.rs aI 0 aw.length 1 :: .int .i64 a0::g17 :: .int .i64 b0 :: .fn eL a6::Aq (.int .i64 (i64.wrap (jl .u64 (u64.wrap (i64.wrap (a0+b0))) 1)) :: .any :: .int .i64 eZ::sv (.int .i64 (i64.wrap (i64.wrap (i64.wrap (jl .u64 (u64.wrap (i64.wrap (a0+b0))) 1)+m0) - eZ))::tI [g18,.any,.any])),[],h16⟩∧Has h16 ((aI,.sl aw.length 1 (af.l kV))::L)) Gl H ?_ ?_
    ·rintro kV s ⟨g17,g18,h16,rfl,zr⟩ H
     have H:=(Ig _).symm.trans H
     try dsimp only at H
     obtain⟨sR,Cd,H⟩:=lA H
     refine qj (S:=fun (σ:(List Int)) s=>match σ with | pa=>∃(g19:AV) (g20:AV) (g21:AV) (h18:AHeap),s=⟨.rs aI 0 aw.length 1::g19 :: .any :: .int .i64 b0 :: .fn eL a6::Aq (.int .i64 (i64.wrap (jl .u64 (u64.wrap (i64.wrap (a0+b0))) 1)) :: .any::g20::sv (.int .i64 (i64.wrap (i64.wrap (i64.wrap (jl .u64 (u64.wrap (i64.wrap (a0+b0))) 1)+m0) - eZ))::vC [g21,.any])),[],h18⟩∧Has h18 ((aI,.sl aw.length 1 (af.l pa))::L)) sR H ?_ ?_
     ·rintro pa s ⟨g19,g20,g21,h18,rfl,Dk⟩ H
      have H:=(Cd _).symm.trans H
      try dsimp only at H
      refine qq ?_
      rcases iA H with⟨JC,H⟩| ⟨JC,H⟩
      ·refine qr [.b 3 JC] <| qc H (fun Tx H=>?_) (fun Tx H=>?_)
       ·obtain⟨x2,M3,H⟩:=bh H
        obtain⟨h19,M4,CL⟩:=iM _ _ _ _ _ _ M3 h18 _ _ _ (Dk) eL a6 aS gM hY (fun h' K' o'=>hZ h' (K'++[]) (by simpa only [VK,Wb,V9] using o')) iL [.rs aI 0 aw.length 1,.int .i64 (i64.wrap (jl .u64 (u64.wrap (i64.wrap (a0+b0))) 1)),.int .i64 (i64.wrap (i64.wrap (i64.wrap (jl .u64 (u64.wrap (i64.wrap (a0+b0))) 1)+m0) - eZ)),.int .i64 b0,.fn eL a6] (au (rfl) (au (aL (bj)) (au (aL (bj)) (au (aL (bj)) (au (gM) (bE))))))
        obtain rfl:=oi H
        exact qr [.a 5 M4] <| ⟨.inr rfl,⟨by kernel_rfl,he CL⟩⟩
       ·obtain rfl:=oi H
        exact qk <| ⟨.inr rfl,⟨by kernel_rfl,he Dk⟩⟩
      ·obtain rfl:=oi H
       exact qr [.b 3 JC] <| Ek <| qk <| ⟨.inr rfl,⟨by kernel_rfl,he Dk⟩⟩
     clear Cd
     intro JF
     refine qq ?_
     rcases iA H with⟨EI,H⟩| ⟨EI,H⟩
     ·refine qr [.b 3 EI] <| qc H (fun O6 H=>?_) (fun O6 H=>?_)
      ·obtain⟨x1,Kw,H⟩:=bh H
       obtain⟨h17,Kx,Dl⟩:=iM _ _ _ _ _ _ Kw h16 _ _ _ (zr) eL a6 aS gM hY (fun h' K' o'=>hZ h' (K'++[]) (by simpa only [VK,Wb,V9] using o')) iL [.rs aI 0 aw.length 1,.int .i64 a0,.int .i64 eZ,.int .i64 (i64.wrap (jl .u64 (u64.wrap (i64.wrap (a0+b0))) 1)),.fn eL a6] (au (rfl) (au (aL (bj)) (au (aL (bj)) (au (aL (bj)) (au (gM) (bE))))))
       exact qr [.a 5 Kx] <| JF x1 _ ⟨.any,.any,.any,h17,by kernel_rfl,Dl⟩ H
      ·exact qk <| JF kV _ ⟨.int .i64 a0,.int .i64 eZ,.bool (decide (eZ<(i64.wrap (jl .u64 (u64.wrap (i64.wrap (a0+b0))) 1)))),h16,by kernel_rfl,zr⟩ H
     ·exact qr [.b 3 EI] <| Ek <| qk <| JF kV _ ⟨.int .i64 a0,.int .i64 eZ,.bool false,h16,by kernel_rfl,zr⟩ H
    clear Ig
    intro CM
    refine qq ?_
    rcases iA H with⟨zk,H⟩| ⟨zk,H⟩
    ·refine qr [.b 3 zk] <| qc H (fun EH H=>?_) (fun EH H=>?_)
     ·obtain⟨x0,Hi,H⟩:=bh H
      obtain⟨h15,Ky,EV⟩:=L2 _ _ _ _ _ _ Hi h14 _ _ _ (nl) eL a6 aS gM hY (fun h' K' o'=>hZ h' (K'++[]) (by simpa only [VK,Wb,V9] using o')) iL [.rs aI 0 aw.length 1,.int .i64 eZ,.int .i64 m0,.int .i64 (i64.wrap (i64.wrap (i64.wrap (jl .u64 (u64.wrap (i64.wrap (a0+b0))) 1)+m0) - eZ)),.fn eL a6] (au (rfl) (au (aL (bj)) (au (aL (bj)) (au (aL (bj)) (au (gM) (bE))))))
      exact qr [.a 5 Ky] <| CM x0 _ ⟨.any,.any,h15,by kernel_rfl,EV⟩ H
     ·exact qk <| CM aw _ ⟨.int .i64 m0,.bool (decide (m0<(i64.wrap (i64.wrap (i64.wrap (jl .u64 (u64.wrap (i64.wrap (a0+b0))) 1)+m0) - eZ)))),h14,by kernel_rfl,nl⟩ H
    ·exact qr [.b 3 zk] <| Ek <| qk <| CM aw _ ⟨.int .i64 m0,.bool false,h14,by kernel_rfl,nl⟩ H
   clear ED
   intro oV
   refine q1 <| qc H (fun c8 H=>?_) (fun c8 H=>?_)
   ·exact q1 <| q0 <| oV (i64.wrap (i64.wrap (i64.wrap (jl .u64 (u64.wrap (i64.wrap (a0+b0))) 1)+m0) - b0),i64.wrap (jl .u64 (u64.wrap (i64.wrap (a0+b0))) 1)) _ ⟨h,by kernel_rfl,o⟩ H
   ·exact q1 <| q0 <| oV (a0,m0) _ ⟨h,by kernel_rfl,o⟩ H
end
end Go.Proofs.Ytifafejidnjckaa
namespace Go.Proofs.Ytifafejidnjckaa
open Go Go.R
open Go.IntKind (i64 u64 u8 u32)
def Be:b5:=gX [0,1,2,6,7,8,9,10,17,27] [] [1016,984,728,999,830,446,1023,999,999] [(6,[(9,none,0)])] [(0,[(6,none,1)]),(3,[(6,none,1)]),(7,[(6,none,1)])]
def cz.f (m:Nat)(s0:ab)(a0:Int)(b0:Int):Option ((List Int) × Int × ab):=(bV.f m s0 ([a0,b0])).bind fun x0=>if (!(x0==(0:Int)))=true then (some (([]:List Int),x0,s0)) else ((az.f m s0 a0 b0).bind fun x1=>if (!x1.2.1)=true then ((bb.f m x1.2.2 x1.1).bind fun x2=>some (([]:List Int),(8:Int),x2)) else ((cy.f m x1.2.2 x1.1).bind fun x3=>some (x3,(0:Int),x1.2.2)))
def cz.fin (L:Mem)(ao:Nat)(ak:Nat)(an:Nat)(s0:ab)(a0:Int)(b0:Int)(r:(List Int) × Int × ab)(s:St):Prop:=∃fc aA aB:Nat,aM Try.prog (s.open Be) Try.f16.results.toList=some (.tup [.rs fc 0 r.1.length 1,.int .i64 r.2.1])∧Has s.h ((fc,.sl r.1.length 1 (af.l r.1))::(ao,.ob [.bool r.2.2.aj,.rs aA 0 r.2.2.aa.length 4,.rs aB 0 r.2.2.ae.length 1])::(aA,.sl r.2.2.aa.length 4 (ah.l r.2.2.aa))::(aB,.sl r.2.2.ae.length 1 (af.l r.2.2.ae))::L)
def M8 (cf:CallF)(m:Nat):Prop:=∀(s0:ab) (a0:Int) (b0:Int) (r:(List Int) × Int × ab),cz.f m s0 a0 b0=some r→∀h L (ao:Nat) (ak:Nat) (an:Nat),Has h ((ao,.ob [.bool s0.aj,.rs ak 0 s0.aa.length 4,.rs an 0 s0.ae.length 1])::(ak,.sl s0.aa.length 4 (ah.l s0.aa))::(an,.sl s0.ae.length 1 (af.l s0.ae))::L)→∀xs,xs.map aK=[.ptr ao 0,.int .i64 a0,.int .i64 b0]→∃fc aA aB h',cf 16 xs h=some (.tup [.rs fc 0 r.1.length 1,.int .i64 r.2.1],h')∧Has h' ((fc,.sl r.1.length 1 (af.l r.1))::(ao,.ob [.bool r.2.2.aj,.rs aA 0 r.2.2.aa.length 4,.rs aB 0 r.2.2.ae.length 1])::(aA,.sl r.2.2.aa.length 4 (ah.l r.2.2.aa))::(aB,.sl r.2.2.ae.length 1 (af.l r.2.2.ae))::L)
section
variable {cf:CallF}{m:Nat}
theorem lI {aV:FuncId→b5}(ha:aV 16=Be)(E0:MW cf m)(JG:OR cf m)(JH:Ov cf m)(JI:OY cf m)(s0:ab)(a0:Int)(b0:Int)(h:AHeap)(L:Mem)(ao:Nat)(ak:Nat)(an:Nat)  (o:Has h ((ao,.ob [.bool s0.aj,.rs ak 0 s0.aa.length 4,.rs an 0 s0.ae.length 1])::(ak,.sl s0.aa.length 4 (ah.l s0.aa))::(an,.sl s0.ae.length 1 (af.l s0.ae))::L)){out:(List Int) × Int × ab}(H:cz.f m s0 a0 b0=some out) :
  ∃r h',aZ Try.prog aV cf m 16 [.ptr ao 0,.int .i64 a0,.int .i64 b0] h=some (r,h')∧∃fc aA aB:Nat,r = .tup [.rs fc 0 out.1.length 1,.int .i64 out.2.1]∧Has h' ((fc,.sl out.1.length 1 (af.l out.1))::(ao,.ob [.bool out.2.2.aj,.rs aA 0 out.2.2.aa.length 4,.rs aB 0 out.2.2.ae.length 1])::(aA,.sl out.2.2.aa.length 4 (ah.l out.2.2.aa))::(aB,.sl out.2.2.ae.length 1 (af.l out.2.2.ae))::L):=by
 refine ar (fn:=Try.f16) ha Try.func16 (by kernel_rfl) (by kernel_rfl) ?_
 refine aH (Q:=fun s=>cz.fin L ao ak an s0 a0 b0 out s) (fun _ _ ⟨h1,fc,aA,aB,h2,h3⟩=>⟨h1,_,h2,fc,aA,aB,rfl,h3⟩) ?_
 have H:_=some out:=H
 unfold cz.f at H
 show dp _ cf Be m _ ⟨.ptr ao 0 :: .int .i64 a0 :: .int .i64 b0::H9 [],[],h⟩ _
 refine q1 <| qq <| qq ?_
 obtain⟨x0,e0,H⟩:=bh H
 refine qr [.a 4 (E0 _ _ _ e0 h _ (gv (ai (dQ (q:=0) o rfl (ai (fD) (ai (eh (E:=ah) (l:=s0.aa) (q:=1) o rfl (fun _=>rfl)) (ai (eh (E:=af) (l:=s0.ae) (q:=2) o rfl (fun _=>rfl)) (ay))))) (ai (sm (E:=af) (l:=[a0,b0]) (cs:=[.int .i64 a0,.int .i64 b0]) (b:=true) (by kernel_rfl) (by kernel_rfl) rfl) (ay)))))] <| qq <| q0 <| qc H (fun c0 H=>?_) (fun c0 H=>?_)
 ·refine q1 ?_
  have o0:Has h (((0),.sl (([]:List Int).length) 1 (af.l ([]:List Int)))::(ao,.ob [.bool s0.aj,.rs ak 0 s0.aa.length 4,.rs an 0 s0.ae.length 1])::(ak,.sl s0.aa.length 4 (ah.l s0.aa))::(an,.sl s0.ae.length 1 (af.l s0.ae))::L):=Has.nil o 1
  obtain rfl:=oi H
  exact qt <| ⟨.inl rfl,⟨(0),ak,an,by kernel_rfl,he o0⟩⟩
 ·refine qk <| qq ?_
  obtain⟨x1,e1,H⟩:=bh H
  obtain⟨aI,dR,eS,h0,e2,o1⟩:=JG _ _ _ _ e1 h _ _ _ _ (o)  [.ptr ao 0,.int .i64 a0,.int .i64 b0] (au (rfl) (au (aL (bj)) (au (aL (bj)) (bE))))
  refine qr [.a 3 e2] <| qq <| qq <| q0 <| qc H (fun c1 H=>?_) (fun c1 H=>?_)
  ·refine qq ?_
   obtain⟨h1,e3,o2⟩:=pK (E:=af) (l:=x1.1) (q:=0) o1 rfl
   obtain⟨x2,e4,H⟩:=bh H
   obtain⟨cD,eB,h2,e5,o3⟩:=JH _ _ _ e4 h1 _ _ _ _ (o2)  [.ptr ao 0,af.fz x1.1] (au (rfl) (au (aL (mF (E:=af))) (bE)))
   refine Kt [.a 0 e3] [.a 2 e5] <| qq <| q0 ?_
   have o4:Has h2 ((((0)),.sl (([]:List Int).length) 1 (af.l ([]:List Int)))::(ao,.ob [.bool x2.aj,.rs cD 0 x2.aa.length 4,.rs eB 0 x2.ae.length 1])::(cD,.sl x2.aa.length 4 (ah.l x2.aa))::(eB,.sl x2.ae.length 1 (af.l x2.ae))::L):=Has.nil o3 1
   obtain rfl:=oi H
   exact qt <| ⟨.inl rfl,⟨((0)),cD,eB,by kernel_rfl,he o4⟩⟩
  ·refine qk <| qq ?_
   obtain⟨x3,e6,H⟩:=bh H
   obtain⟨fo,h3,e7,o5,IA⟩:=JI _ _ _ e6 h0 _ _ o1 (gv (ai (dQ (q:=1) o1 rfl (ai (fD) (ai (eh (E:=ah) (l:=x1.2.2.aa) (q:=2) o1 rfl (fun _=>rfl)) (ai (eh (E:=af) (l:=x1.2.2.ae) (q:=3) o1 rfl (fun _=>rfl)) (ay))))) (ai (eh (E:=af) (l:=x1.1) (q:=0) o1 rfl (fun _=>rfl)) (ay))))
   refine qr [.a 2 e7] ?_
   have o6:Has h3 ((fo,.sl x3.length 1 (af.l x3))::(ao,.ob [.bool x1.2.2.aj,.rs dR 0 x1.2.2.aa.length 4,.rs eS 0 x1.2.2.ae.length 1])::(dR,.sl x1.2.2.aa.length 4 (ah.l x1.2.2.aa))::(eS,.sl x1.2.2.ae.length 1 (af.l x1.2.2.ae))::L):=Has.del o5 1
   obtain rfl:=oi H
   exact qt <| ⟨.inl rfl,⟨fo,dR,eS,by kernel_rfl,he o6⟩⟩
end
end Go.Proofs.Ytifafejidnjckaa
namespace Go.Proofs.Ytifafejidnjckaa
open Go Go.R
open Go.IntKind (i64 u64 u8 u32)
def kg.f (m:Nat)(s0:ab)(n0:Int):Option (aq × Int):=(bV.f m s0 ([n0])).bind fun x0=>if (!(x0==(0:Int)))=true then (some ((aq.mk (0:Int) (0:Int) (Wo #[]) ([]:List Int)),x0)) else ((ba.f m s0 n0).bind fun x1=>(gz.f m s0 x1).bind fun x2=>some (x2,(0:Int)))
end Go.Proofs.Ytifafejidnjckaa
namespace Go.Proofs.Ytifafejidnjckaa
open Go Go.R
open Go.IntKind (i64 u64 u8 u32)
def Bf:b5:=gX [0,1,2,6,7,8,9,10,11,12,19,34,37] [] [8184,8120,7096,8135,7806,7806,7423,5631,8135,3583,8135,8135] [(5,[(10,none,0)])] [(0,[(7,none,1)]),(3,[(7,none,1)]),(8,[(7,none,1)]),(10,[(7,none,1)])]
def dw.f (m:Nat)(s0:ab)(a0:Int)(b0:Int):Option (Int × (List Int) × Int × ab):=(bV.f m s0 ([a0,b0])).bind fun x0=>if (!(x0==(0:Int)))=true then (some ((0:Int),([]:List Int),x0,s0)) else ((az.f m s0 a0 b0).bind fun x1=>(bb.f m x1.2.2 x1.1).bind fun x2=>(cy.f m x2 x1.1).bind fun x3=>if (!x1.2.1)=true then (some ((0:Int),([]:List Int),(0:Int),x2)) else (if ((x3.length:Int)==(0:Int))=true then (some ((1:Int),([]:List Int),(0:Int),x2)) else (some ((-1:Int),x3,(0:Int),x2))))
def dw.fin (L:Mem)(ao:Nat)(ak:Nat)(an:Nat)(s0:ab)(a0:Int)(b0:Int)(r:Int × (List Int) × Int × ab)(s:St):Prop:=∃Dm aA aB:Nat,aM Try.prog (s.open Bf) Try.f23.results.toList=some (.tup [.int .i64 r.1,.rs Dm 0 r.2.1.length 1,.int .i64 r.2.2.1])∧Has s.h ((Dm,.sl r.2.1.length 1 (af.l r.2.1))::(ao,.ob [.bool r.2.2.2.aj,.rs aA 0 r.2.2.2.aa.length 4,.rs aB 0 r.2.2.2.ae.length 1])::(aA,.sl r.2.2.2.aa.length 4 (ah.l r.2.2.2.aa))::(aB,.sl r.2.2.2.ae.length 1 (af.l r.2.2.2.ae))::L)
def Rp (cf:CallF)(m:Nat):Prop:=∀(s0:ab) (a0:Int) (b0:Int) (r:Int × (List Int) × Int × ab),dw.f m s0 a0 b0=some r→∀h L (ao:Nat) (ak:Nat) (an:Nat),Has h ((ao,.ob [.bool s0.aj,.rs ak 0 s0.aa.length 4,.rs an 0 s0.ae.length 1])::(ak,.sl s0.aa.length 4 (ah.l s0.aa))::(an,.sl s0.ae.length 1 (af.l s0.ae))::L)→∀xs,xs.map aK=[.ptr ao 0,.int .i64 a0,.int .i64 b0]→∃Dm aA aB h',cf 23 xs h=some (.tup [.int .i64 r.1,.rs Dm 0 r.2.1.length 1,.int .i64 r.2.2.1],h')∧Has h' ((Dm,.sl r.2.1.length 1 (af.l r.2.1))::(ao,.ob [.bool r.2.2.2.aj,.rs aA 0 r.2.2.2.aa.length 4,.rs aB 0 r.2.2.2.ae.length 1])::(aA,.sl r.2.2.2.aa.length 4 (ah.l r.2.2.2.aa))::(aB,.sl r.2.2.2.ae.length 1 (af.l r.2.2.2.ae))::L)
section
variable {cf:CallF}{m:Nat}
theorem ma {aV:FuncId→b5}(ha:aV 23=Bf)(E0:MW cf m)(JG:OR cf m)(JH:Ov cf m)(JI:OY cf m)(s0:ab)(a0:Int)(b0:Int)(h:AHeap)(L:Mem)(ao:Nat)(ak:Nat)(an:Nat)  (o:Has h ((ao,.ob [.bool s0.aj,.rs ak 0 s0.aa.length 4,.rs an 0 s0.ae.length 1])::(ak,.sl s0.aa.length 4 (ah.l s0.aa))::(an,.sl s0.ae.length 1 (af.l s0.ae))::L)){out:Int × (List Int) × Int × ab}(H:dw.f m s0 a0 b0=some out) :
  ∃r h',aZ Try.prog aV cf m 23 [.ptr ao 0,.int .i64 a0,.int .i64 b0] h=some (r,h')∧∃Dm aA aB:Nat,r = .tup [.int .i64 out.1,.rs Dm 0 out.2.1.length 1,.int .i64 out.2.2.1]∧Has h' ((Dm,.sl out.2.1.length 1 (af.l out.2.1))::(ao,.ob [.bool out.2.2.2.aj,.rs aA 0 out.2.2.2.aa.length 4,.rs aB 0 out.2.2.2.ae.length 1])::(aA,.sl out.2.2.2.aa.length 4 (ah.l out.2.2.2.aa))::(aB,.sl out.2.2.2.ae.length 1 (af.l out.2.2.2.ae))::L):=by
 refine ar (fn:=Try.f23) ha Try.func23 (by kernel_rfl) (by kernel_rfl) ?_
 refine aH (Q:=fun s=>dw.fin L ao ak an s0 a0 b0 out s) (fun _ _ ⟨h1,Dm,aA,aB,h2,h3⟩=>⟨h1,_,h2,Dm,aA,aB,rfl,h3⟩) ?_
 have H:_=some out:=H
 unfold dw.f at H
 show dp _ cf Bf m _ ⟨.ptr ao 0 :: .int .i64 a0 :: .int .i64 b0::LA [],[],h⟩ _
 refine q1 <| qq <| qq ?_
 obtain⟨x0,e0,H⟩:=bh H
 refine qr [.a 4 (E0 _ _ _ e0 h _ (gv (ai (dQ (q:=0) o rfl (ai (fD) (ai (eh (E:=ah) (l:=s0.aa) (q:=1) o rfl (fun _=>rfl)) (ai (eh (E:=af) (l:=s0.ae) (q:=2) o rfl (fun _=>rfl)) (ay))))) (ai (sm (E:=af) (l:=[a0,b0]) (cs:=[.int .i64 a0,.int .i64 b0]) (b:=true) (by kernel_rfl) (by kernel_rfl) rfl) (ay)))))] <| qq <| q0 <| qc H (fun c0 H=>?_) (fun c0 H=>?_)
 ·refine q1 ?_
  have o0:Has h (((0),.sl (([]:List Int).length) 1 (af.l ([]:List Int)))::(ao,.ob [.bool s0.aj,.rs ak 0 s0.aa.length 4,.rs an 0 s0.ae.length 1])::(ak,.sl s0.aa.length 4 (ah.l s0.aa))::(an,.sl s0.ae.length 1 (af.l s0.ae))::L):=Has.nil o 1
  obtain rfl:=oi H
  exact qt <| ⟨.inl rfl,⟨(0),ak,an,by kernel_rfl,he o0⟩⟩
 ·refine qk <| qq ?_
  obtain⟨x1,e1,H⟩:=bh H
  obtain⟨aI,dR,eS,h0,e2,o1⟩:=JG _ _ _ _ e1 h _ _ _ _ (o)  [.ptr ao 0,.int .i64 a0,.int .i64 b0] (au (rfl) (au (aL (bj)) (au (aL (bj)) (bE))))
  refine qr [.a 3 e2] <| qq ?_
  obtain⟨h1,e3,o2⟩:=pK (E:=af) (l:=x1.1) (q:=0) o1 rfl
  obtain⟨x2,e4,H⟩:=bh H
  obtain⟨cD,eB,h2,e5,o3⟩:=JH _ _ _ e4 h1 _ _ _ _ (o2)  [.ptr ao 0,af.fz x1.1] (au (rfl) (au (aL (mF (E:=af))) (bE)))
  refine Kt [.a 0 e3] [.a 2 e5] <| qq ?_
  obtain⟨x3,e6,H⟩:=bh H
  obtain⟨fo,h3,e7,o4,IA⟩:=JI _ _ _ e6 h2 _ _ o3 (gv (ai (dQ (q:=0) o3 rfl (ai (fD) (ai (eh (E:=ah) (l:=x2.aa) (q:=1) o3 rfl (fun _=>rfl)) (ai (eh (E:=af) (l:=x2.ae) (q:=2) o3 rfl (fun _=>rfl)) (ay))))) (ai (fy (E:=af)) (ay))))
  refine qr [.a 2 e7] <| qq <| qb 0 <| qq <| q0 <| qc H (fun c1 H=>?_) (fun c1 H=>?_)
  ·refine q1 ?_
   have o5:Has h3 ((((0)),.sl (([]:List Int).length) 1 (af.l ([]:List Int)))::(fo,.sl x3.length 1 (af.l x3))::(ao,.ob [.bool x2.aj,.rs cD 0 x2.aa.length 4,.rs eB 0 x2.ae.length 1])::(cD,.sl x2.aa.length 4 (ah.l x2.aa))::(eB,.sl x2.ae.length 1 (af.l x2.ae))::L):=Has.nil o4 1
   have o6:Has h3 ((((0)),.sl (([]:List Int).length) 1 (af.l ([]:List Int)))::(ao,.ob [.bool x2.aj,.rs cD 0 x2.aa.length 4,.rs eB 0 x2.ae.length 1])::(cD,.sl x2.aa.length 4 (ah.l x2.aa))::(eB,.sl x2.ae.length 1 (af.l x2.ae))::L):=Has.del o5 1
   obtain rfl:=oi H
   exact qt <| ⟨.inl rfl,⟨((0)),cD,eB,by kernel_rfl,he o6⟩⟩
  ·refine q1 <| qc H (fun c2 H=>?_) (fun c2 H=>?_)
   ·refine q1 ?_
    have o7:Has h3 (((((0))),.sl (([]:List Int).length) 1 (af.l ([]:List Int)))::(fo,.sl x3.length 1 (af.l x3))::(ao,.ob [.bool x2.aj,.rs cD 0 x2.aa.length 4,.rs eB 0 x2.ae.length 1])::(cD,.sl x2.aa.length 4 (ah.l x2.aa))::(eB,.sl x2.ae.length 1 (af.l x2.ae))::L):=Has.nil o4 1
    have o8:Has h3 (((((0))),.sl (([]:List Int).length) 1 (af.l ([]:List Int)))::(ao,.ob [.bool x2.aj,.rs cD 0 x2.aa.length 4,.rs eB 0 x2.ae.length 1])::(cD,.sl x2.aa.length 4 (ah.l x2.aa))::(eB,.sl x2.ae.length 1 (af.l x2.ae))::L):=Has.del o7 1
    obtain rfl:=oi H
    exact qt <| ⟨.inl rfl,⟨(((0))),cD,eB,by kernel_rfl,he o8⟩⟩
   ·obtain rfl:=oi H
    exact qk <| qq <| q0 <| qt <| ⟨.inl rfl,⟨fo,cD,eB,by kernel_rfl,he o4⟩⟩
end
end Go.Proofs.Ytifafejidnjckaa
namespace Go.Proofs.Ytifafejidnjckaa
open Go Go.R
open Go.IntKind (i64 u64 u8 u32)
def Bg:b5:=gX [0,1,4,5,6,12] [] [60,44,12,51,51] [] []
def dN.f (m:Nat)(s0:ab)(n0:Int):Option (Int × Int):=(bV.f m s0 ([n0])).bind fun x0=>if (!(x0==(0:Int)))=true then (some ((0:Int),x0)) else ((ba.f m s0 n0).bind fun x1=>some (x1,(0:Int)))
def dN.fin (L:Mem)(r:Int × Int)(s:St):Prop:=∃av,aM Try.prog (s.open Bg) Try.f24.results.toList=some av∧fA s.h av (.tup [.int .i64 r.1,.int .i64 r.2])
def Pd (cf:CallF)(m:Nat):Prop:=∀(s0:ab) (n0:Int) (r:Int × Int),dN.f m s0 n0=some r→∀h xs,aO bR h xs [.fp [.bool s0.aj,ah.fz s0.aa,af.fz s0.ae] 0,.int .i64 n0]→cf 24 xs h=some (.tup [.int .i64 r.1,.int .i64 r.2],h)
section
variable {cf:CallF}{m:Nat}
theorem mQ {aV:FuncId→b5}(ha:aV 24=Bg)(E0:MW cf m)(CK:MT cf m)(s0:ab)(n0:Int)(h:AHeap)(L:Mem)  (o:Has h (L)){out:Int × Int}(H:dN.f m s0 n0=some out) :
  ∃r h',aZ Try.prog aV cf m 24 [.fp [.bool s0.aj,ah.fz s0.aa,af.fz s0.ae] 0,.int .i64 n0] h=some (r,h')∧fA h' r (.tup [.int .i64 out.1,.int .i64 out.2]):=by
 refine ar (fn:=Try.f24) ha Try.func24 (by kernel_rfl) (by kernel_rfl) ?_
 refine aH (Q:=fun s=>dN.fin L out s) (fun _ _ h=>h) ?_
 have H:_=some out:=H
 unfold dN.f at H
 show dp _ cf Bg m _ ⟨.fp [.bool s0.aj,ah.fz s0.aa,af.fz s0.ae] 0 :: .int .i64 n0::og [],[],h⟩ _
 refine q1 <| qq <| qq ?_
 obtain⟨x0,e0,H⟩:=bh H
 refine qr [.a 3 (E0 _ _ _ e0 h _ (gv (ai (gk (pure_cons (dM) (pure_cons (bL.bG (E:=ah) (l:=s0.aa)) (pure_cons (bL.bG (E:=af) (l:=s0.ae)) (pure_nil))))) (ai (sm (E:=af) (l:=[n0]) (cs:=[.int .i64 n0]) (b:=true) (by kernel_rfl) (by kernel_rfl) rfl) (ay)))))] <| qq <| q0 <| qc H (fun c0 H=>?_) (fun c0 H=>?_)
 ·obtain rfl:=oi H
  exact q1 <| qt <| ⟨.inl rfl,dC (.tup [.int .i64 (0:Int),.int .i64 x0]) h (dB (Ee (rC (dh) (rC (dh) (Ed)))))⟩
 ·refine qk <| qq ?_
  obtain⟨x1,e1,H⟩:=bh H
  obtain rfl:=oi H
  exact qr [.a 2 (CK _ _ _ e1 h _ (gv (ai (gk (pure_cons (dM) (pure_cons (bL.bG (E:=ah) (l:=s0.aa)) (pure_cons (bL.bG (E:=af) (l:=s0.ae)) (pure_nil))))) (ai (bB) (ay)))))] <| qt <| ⟨.inl rfl,dC (.tup [.int .i64 x1,.int .i64 (0:Int)]) h (dB (Ee (rC (dh) (rC (dh) (Ed)))))⟩
end
end Go.Proofs.Ytifafejidnjckaa
namespace Go.Proofs.Ytifafejidnjckaa
open Go Go.R
open Go.IntKind (i64 u64 u8 u32)
def Bh:b5:=gX [0,1,2,3,4,5,6,7,8] [1000000014] [455,199,319] [] []
def dL.f (m:Nat)(s0:ab)(cg:ByteArray)(dt:List Int):Option (Int × Int × ab):=(G3 1 dt).bind fun x0=>(b6.f m s0 (cq.f m cg dt s0) (aq.mk (3:Int) (0:Int) cg x0)).bind fun x1=>some (x1.1,x1.2.1,x1.2.2)
def dL.fin (L:Mem)(ao:Nat)(ak:Nat)(an:Nat)(s0:ab)(cg:ByteArray)(dt:List Int)(r:Int × Int × ab)(s:St):Prop:=∃aA aB:Nat,aM Try.prog (s.open Bh) Try.f34.results.toList=some (.tup [.int .i64 r.1,.int .i64 r.2.1])∧Has s.h ((ao,.ob [.bool r.2.2.aj,.rs aA 0 r.2.2.aa.length 4,.rs aB 0 r.2.2.ae.length 1])::(aA,.sl r.2.2.aa.length 4 (ah.l r.2.2.aa))::(aB,.sl r.2.2.ae.length 1 (af.l r.2.2.ae))::L)
def Rq (cf:CallF)(m:Nat):Prop:=∀(s0:ab) (cg:ByteArray) (dt:List Int) (r:Int × Int × ab),dL.f m s0 cg dt=some r→∀h L (ao:Nat) (ak:Nat) (an:Nat),Has h ((ao,.ob [.bool s0.aj,.rs ak 0 s0.aa.length 4,.rs an 0 s0.ae.length 1])::(ak,.sl s0.aa.length 4 (ah.l s0.aa))::(an,.sl s0.ae.length 1 (af.l s0.ae))::L)→∀xs,xs.map aK=[.ptr ao 0,.str cg,af.fz dt]→∃aA aB h',cf 34 xs h=some (.tup [.int .i64 r.1,.int .i64 r.2.1],h')∧Has h' ((ao,.ob [.bool r.2.2.aj,.rs aA 0 r.2.2.aa.length 4,.rs aB 0 r.2.2.ae.length 1])::(aA,.sl r.2.2.aa.length 4 (ah.l r.2.2.aa))::(aB,.sl r.2.2.ae.length 1 (af.l r.2.2.ae))::L)
section
variable {cf:CallF}{m:Nat}
theorem lJ {aV:FuncId→b5}(ha:aV 34=Bh)(JJ:QP cf m)(vO:Kv cf m)(Pe:Rm cf m)(s0:ab)(cg:ByteArray)(dt:List Int)(h:AHeap)(L:Mem)(ao:Nat)(ak:Nat)(an:Nat)  (o:Has h ((ao,.ob [.bool s0.aj,.rs ak 0 s0.aa.length 4,.rs an 0 s0.ae.length 1])::(ak,.sl s0.aa.length 4 (ah.l s0.aa))::(an,.sl s0.ae.length 1 (af.l s0.ae))::L)){out:Int × Int × ab}(H:dL.f m s0 cg dt=some out) :
  ∃r h',aZ Try.prog aV cf m 34 [.ptr ao 0,.str cg,af.fz dt] h=some (r,h')∧∃aA aB:Nat,r = .tup [.int .i64 out.1,.int .i64 out.2.1]∧Has h' ((ao,.ob [.bool out.2.2.aj,.rs aA 0 out.2.2.aa.length 4,.rs aB 0 out.2.2.ae.length 1])::(aA,.sl out.2.2.aa.length 4 (ah.l out.2.2.aa))::(aB,.sl out.2.2.ae.length 1 (af.l out.2.2.ae))::L):=by
 refine ar (fn:=Try.f34) ha Try.func34 (by kernel_rfl) (by kernel_rfl) ?_
 refine aH (Q:=fun s=>dL.fin L ao ak an s0 cg dt out s) (fun _ _ ⟨h1,aA,aB,h2,h3⟩=>⟨h1,_,h2,aA,aB,rfl,h3⟩) ?_
 have H:_=some out:=H
 unfold dL.f at H
 show dp _ cf Bh m _ ⟨.ptr ao 0 :: .str cg::af.fz dt::xo [],[none],h⟩ _
 refine qq ?_
 obtain⟨aI,h0,e0,o0⟩:=gw (cs:=[.ptr ao 0]) o (by kernel_rfl)
 obtain⟨dR,h1,e1,o1⟩:=gw (cs:=[.str cg]) o0 (by kernel_rfl)
 obtain⟨eS,h2,e2,o2⟩:=gw (cs:=[af.fz dt]) o1 (by kernel_rfl)
 refine qr [.a 0 e0,.a 1 e1,.a 2 e2] <| qq <| q0 <| qq ?_
 obtain⟨x0,e3,H⟩:=bh H
 obtain⟨cD,h3,e4,o3⟩:=LH (E:=af) (l:=dt) JJ o2 e3
 obtain⟨h4,e5,o4⟩:=pK (E:=af) (l:=x0) (q:=0) o3 rfl
 obtain⟨x1,e6,H⟩:=bh H
 obtain⟨eB,fo,h5,e7,o5⟩:=vO _ _ _ _ e6 h4 _ _ _ _ ((Has.front (Has.front (Has.front (Has.front (Has.front (Has.front o4 2 rfl) 2 rfl) 2 rfl) 5 rfl) 5 rfl) 5 rfl)) 61 [.ptr dR 0,.ptr eS 0,.ptr aI 0] [.fp [.str cg] 0,.fp [af.fz dt] 0,.fp [.fp [.bool s0.aj,ah.fz s0.aa,af.fz s0.ae] 0] 0] rfl (fun h' tK  r hr hx=>Pe _ _ _ r hr h' tK hx) (fun h' K' o'=>iP (ai (dQ (q:=(K'.length+4)) o' (jt rfl) (ai (cU) (ay))) (ai (dQ (q:=(K'.length+3)) o' (jt rfl) (ai (fy (E:=af)) (ay))) (ai (dQ (q:=(K'.length+5)) o' (jt rfl) (ai (dQ (q:=(K'.length+0)) o' (jt rfl) (ai (fD) (ai (eh (E:=ah) (l:=s0.aa) (q:=(K'.length+1)) o' (jt rfl) (fun _=>rfl)) (ai (eh (E:=af) (l:=s0.ae) (q:=(K'.length+2)) o' (jt rfl) (fun _=>rfl)) (ay))))) (ay))) (ay))))) (fun h_=>iP (ai (gk (pure_cons (mD) (pure_nil))) (ai (gk (pure_cons (bL.bG (E:=af) (l:=dt)) (pure_nil))) (ai (gk (pure_cons (lB (pure_cons (dM) (pure_cons (bL.bG (E:=ah) (l:=s0.aa)) (pure_cons (bL.bG (E:=af) (l:=s0.ae)) (pure_nil))))) (pure_nil))) (ay))))) [.ptr ao 0,.fn 61 [.ptr dR 0,.ptr eS 0,.ptr aI 0],.agg [.int .i64 (3:Int),.int .i64 (0:Int),.str cg,af.fz x0]] (au (rfl) (au (rfl) (au (aL (nZ (cu (bj) (cu (bj) (cu (ly) (cu (mF (E:=af)) (nY))))))) (bE))))
 refine LI [] [.v 0 (show bm Try.prog h2 28 (.ptr aI 0)=some (.ptr ao 0) from bZ (q:=2) (cs:=[.ptr ao 0]) o2 rfl (by kernel_rfl)),.v 2 (show bm Try.prog h2 9 (.ptr dR 0)=some (.str cg) from bZ (q:=1) (cs:=[.str cg]) o2 rfl (by kernel_rfl)),.v 3 (show bm Try.prog h2 33 (.ptr eS 0)=some (af.fz dt) from bZ (q:=0) (cs:=[af.fz dt]) o2 rfl (by kernel_rfl)),.a 4 (LJ e4 e5),.a 6 e7] [.mk ((Es JJ o2 (q2:=2) rfl e4).trans (Eu (E:=af) (l:=x0) o3 (q:=0) (q2:=3) rfl rfl e5)),.mk ((Es JJ o2 (q2:=1) rfl e4).trans (Eu (E:=af) (l:=x0) o3 (q:=0) (q2:=2) rfl rfl e5))] ?_
 have o6:Has h5 ((ao,.ob [.bool x1.2.2.aj,.rs eB 0 x1.2.2.aa.length 4,.rs fo 0 x1.2.2.ae.length 1])::(eB,.sl x1.2.2.aa.length 4 (ah.l x1.2.2.aa))::(fo,.sl x1.2.2.ae.length 1 (af.l x1.2.2.ae))::(eS,.ob [af.fz dt])::(dR,.ob [.str cg])::L):=Has.del o5 5
 have o7:Has h5 ((ao,.ob [.bool x1.2.2.aj,.rs eB 0 x1.2.2.aa.length 4,.rs fo 0 x1.2.2.ae.length 1])::(eB,.sl x1.2.2.aa.length 4 (ah.l x1.2.2.aa))::(fo,.sl x1.2.2.ae.length 1 (af.l x1.2.2.ae))::(eS,.ob [af.fz dt])::L):=Has.del o6 4
 have o8:Has h5 ((ao,.ob [.bool x1.2.2.aj,.rs eB 0 x1.2.2.aa.length 4,.rs fo 0 x1.2.2.ae.length 1])::(eB,.sl x1.2.2.aa.length 4 (ah.l x1.2.2.aa))::(fo,.sl x1.2.2.ae.length 1 (af.l x1.2.2.ae))::L):=Has.del o7 3
 obtain rfl:=oi H
 exact qt <| ⟨.inl rfl,⟨eB,fo,by kernel_rfl,he o8⟩⟩
end
end Go.Proofs.Ytifafejidnjckaa
namespace Go.Proofs.Ytifafejidnjckaa
open Go Go.R
open Go.IntKind (i64 u64 u8 u32)
def Bi:b5:=gX [0,1] [] [2,1] [] []
def dq.f (m:Nat)(x0:ByteArray):Option (Bool):=(fG.f m x0).bind fun x1=>some x1
def dq.fin (L:Mem)(r:Bool)(s:St):Prop:=∃av,aM Try.prog (s.open Bi) Try.f49.results.toList=some av∧fA s.h av (.bool r)
def Rr (cf:CallF)(m:Nat):Prop:=∀(x0:ByteArray) (r:Bool),dq.f m x0=some r→∀h xs,aO bR h xs [.fp [.str x0] 0]→cf 49 xs h=some (.bool r,h)
section
variable {cf:CallF}{m:Nat}
theorem kW {aV:FuncId→b5}(ha:aV 49=Bi)(pS:MX cf m)(x0:ByteArray)(h:AHeap)(L:Mem)  (o:Has h (L)){out:Bool}(H:dq.f m x0=some out) :
  ∃r h',aZ Try.prog aV cf m 49 [.fp [.str x0] 0] h=some (r,h')∧fA h' r (.bool out):=by
 refine ar (fn:=Try.f49) ha Try.func49 (by kernel_rfl) (by kernel_rfl) ?_
 refine aH (Q:=fun s=>dq.fin L out s) (fun _ _ h=>h) ?_
 have H:_=some out:=H
 unfold dq.f at H
 show dp _ cf Bi m _ ⟨[.fp [.str x0] 0,.any],[],h⟩ _
 refine q1 <| qq ?_
 obtain⟨x1,e0,H⟩:=bh H
 obtain rfl:=oi H
 exact qr [.a 1 (pS _ _ e0 h _ (gv (ai (cU) (ay))))] <| qt <| ⟨.inl rfl,dC (.bool x1) h (dB (aD))⟩
end
end Go.Proofs.Ytifafejidnjckaa
namespace Go.Proofs.Ytifafejidnjckaa
open Go Go.R
open Go.IntKind (i64 u64 u8 u32)
def Bj:b5:=gX [0,1,2,3] [2] [9,7] [] []
def fY.f (m:Nat)(n0:aq)(x0:br):Option (Bool):=(iy.f m n0 (x0.nodes.length:Int)).bind fun x1=>some (!x1)
def fY.fin (L:Mem)(r:Bool)(s:St):Prop:=∃av,aM Try.prog (s.open Bj) Try.f66.results.toList=some av∧fA s.h av (.bool r)
def Rs (cf:CallF)(m:Nat):Prop:=∀(n0:aq) (x0:br) (r:Bool),fY.f m n0 x0=some r→∀h xs,aO bR h xs [.agg [.int .i64 n0.kind,.int .i64 n0.int,.str n0.label,af.fz n0.args],.fp [ah.fz x0.nodes,.int .i64 x0.root] 0]→cf 66 xs h=some (.bool r,h)
section
variable {cf:CallF}{m:Nat}
theorem pb {aV:FuncId→b5}(ha:aV 66=Bj)(Pf:Rn cf m)(n0:aq)(x0:br)(h:AHeap)(L:Mem)  (o:Has h (L)){out:Bool}(H:fY.f m n0 x0=some out) :
  ∃r h',aZ Try.prog aV cf m 66 [.agg [.int .i64 n0.kind,.int .i64 n0.int,.str n0.label,af.fz n0.args],.fp [ah.fz x0.nodes,.int .i64 x0.root] 0] h=some (r,h')∧fA h' r (.bool out):=by
 refine ar (fn:=Try.f66) ha Try.func66 (by kernel_rfl) (by kernel_rfl) ?_
 refine aH (Q:=fun s=>fY.fin L out s) (fun _ _ h=>h) ?_
 have H:_=some out:=H
 unfold fY.f at H
 show dp _ cf Bj m _ ⟨[.agg [.int .i64 n0.kind,.int .i64 n0.int,.str n0.label,af.fz n0.args],.fp [ah.fz x0.nodes,.int .i64 x0.root] 0,.any,.any],[none],h⟩ _
 refine q1 <| qq ?_
 obtain⟨x1,e0,H⟩:=bh H
 obtain rfl:=oi H
 exact qr [.a 4 (Pf _ _ _ e0 h _ (gv (ai (jS (ai (bB) (ai (bB) (ai (cU) (ai (fy (E:=af)) (ay)))))) (ai (bB) (ay)))))] <| qt <| ⟨.inl rfl,dC (.bool (!x1)) h (dB (aD))⟩
end
end Go.Proofs.Ytifafejidnjckaa
namespace Go.Proofs.Ytifafejidnjckaa
open Go Go.R
open Go.IntKind (i64 u64 u8 u32)
end Go.Proofs.Ytifafejidnjckaa
namespace Go.Proofs.Ytifafejidnjckaa
open Go Go.R
open Go.IntKind (i64 u64 u8 u32)
def sV:b5:=gX [0,1,2,6,7,8,9,13,30,35,54] [] [2032,1984,1856,2000,1984,1984,2032,1776,1984,1472,2000,1984,1984,1952,928,2032,2032] [] []
def bO.l0 (m:Nat)(n0:Int)(aQ:Int→Int→Option (Int)):Nat→(List Int)→Int→Int→Option ((List Int) × Int × Int)
 | 0,_,_,_=>none
 | k+1,bl,a0,b0=>if (decide (b0≤n0))=true then ((aT.f m bl a0 b0 aQ).bind fun x0=>bO.l0 m n0 aQ k x0 b0 (i64.wrap (b0+(20:Int)))) else (some ((bl,a0,b0)))
def bO.l2 (m:Nat)(n0:Int)(aQ:Int→Int→Option (Int))(be:Int):Nat→(List Int)→Int→Int→Option ((List Int) × Int × Int)
 | 0,_,_,_=>none
 | k+1,ju,a2,b2=>if (decide (b2≤n0))=true then ((aG.f m m ju a2 (i64.wrap (a2+be)) b2 aQ).bind fun x2=>bO.l2 m n0 aQ be k x2 b2 (i64.wrap (b2+i64.wrap ((2:Int)*be)))) else (some ((ju,a2,b2)))
def bO.l1 (m:Nat)(n0:Int)(aQ:Int→Int→Option (Int)):Nat→(List Int)→Int→Option ((List Int) × Int)
 | 0,_,_=>none
 | k+1,dI,be=>if (decide (be<n0))=true then ((bO.l2 m n0 aQ be m dI (0:Int) (i64.wrap ((2:Int)*be))).bind fun dv=>match dv with | (kV,a3,b3)=>if (decide ((i64.wrap (a3+be))<n0))=true then ((aG.f m m kV a3 (i64.wrap (a3+be)) n0 aQ).bind fun x3=>bO.l1 m n0 aQ k x3 (i64.wrap (be*(2:Int)))) else (bO.l1 m n0 aQ k kV (i64.wrap (be*(2:Int))))) else (some ((dI,be)))
def bO.f (m:Nat)(aw:List Int)(n0:Int)(aQ:Int→Int→Option (Int)):Option ((List Int)):=(bO.l0 m n0 aQ m aw (0:Int) (20:Int)).bind fun b4=>match b4 with | (dc,a1,b1)=>(aT.f m dc a1 n0 aQ).bind fun x1=>(bO.l1 m n0 aQ m x1 (20:Int)).bind fun mP=>match mP with | (pa,zt)=>some pa
def bO.fin (L:Mem)(aI:Nat)(aw:List Int)(n0:Int)(aQ:Int→Int→Option (Int))(r:(List Int))(s:St):Prop:=aM Try.prog (s.open sV) Try.f99.results.toList=some (.tup [])∧Has s.h ((aI,.sl aw.length 1 (af.l r))::L)
def Rt (cf:CallF)(m:Nat):Prop:=∀(aw:List Int) (n0:Int) (aQ:Int→Int→Option (Int)) (r:(List Int)),bO.f m aw n0 aQ=some r→∀h L (cm:Nat) (aI:Nat),Has h ((aI,.sl cm 1 (af.l aw))::L)→∀(kX:FuncId) (dy cX:List AV),(aK (.fn kX dy) = .fn kX dy)→(∀(h:AHeap) (xs:List AV) (a0:Int) (a1:Int) r,aQ a0 a1=some r→aO bR h xs ([.int .i64 a0,.int .i64 a1]++cX)→cf kX xs h=some (.int .i64 r,h))→(∀h K,Has h (K++(L))→aO cE h dy cX)→(∀h,aO cE h cX cX)→∀xs,xs.map aK=[.rs aI 0 cm 1,.int .i64 n0,.fn kX dy]→∃h',cf 99 xs h=some (.tup [],h')∧Has h' ((aI,.sl cm 1 (af.l r))::L)
section
variable {cf:CallF}{m:Nat}
theorem bO.di (L:Mem)(aI:Nat)(kX:FuncId)(dy cX:List AV)(aw:List Int)(n0:Int)(aQ:Int→Int→Option (Int))  (nv:aK (.fn kX dy) = .fn kX dy)(qZ:∀(h:AHeap) (xs:List AV) (a0:Int) (a1:Int) r,aQ a0 a1=some r→aO bR h xs ([.int .i64 a0,.int .i64 a1]++cX)→cf kX xs h=some (.int .i64 r,h))(q6:∀h K,Has h (K++(L))→aO cE h dy cX)(q7:∀h,aO cE h cX cX)(Bk:Jt cf m):dV Try.prog cf sV m (sub [1,1,0,0,0] (b7 Try.f99)) (fun k (σ:(List Int) × Int × Int)=>bO.l0 m n0 aQ k σ.1 σ.2.1 σ.2.2) (fun σ s=>match σ with | (bl,a0,b0)=>∃h0,s=⟨.rs aI 0 aw.length 1 :: .int .i64 n0 :: .fn kX dy :: .int .i64 (20:Int) :: .int .i64 a0 :: .int .i64 b0::Ap [],[],h0⟩∧Has h0 ((aI,.sl aw.length 1 (af.l bl))::L)) (fun out e s=>(e = .exit 0∧∃bl a0 b0,(bl,a0,b0)=out∧∃CE sI h0,s=⟨.rs aI 0 aw.length 1 :: .int .i64 n0 :: .fn kX dy :: .int .i64 (20:Int) :: .int .i64 a0::CE :: .any::sI::sv [],[],h0⟩∧Has h0 ((aI,.sl aw.length 1 (af.l bl))::L))):=by
 refine me (fun _=>rfl) ?_
 rintro k ⟨bl,a0,b0⟩ s out ⟨h0,rfl,o0⟩ H
 have H:bO.l0 m n0 aQ (k+1) bl a0 b0=some out:=H
 refine qq <| qq <| q0 <| qc H (fun c0 H=>?_) (fun c0 H=>?_)
 ·refine qk <| qb 1 <| qq ?_
  obtain⟨x0,e0,H⟩:=bh H
  obtain⟨h1,e1,o1⟩:=Bk _ _ _ _ _ e0 h0 _ _ _ (o0) kX dy cX nv qZ (fun h' K' o'=>q6 h' (K'++[]) (by simpa only [VK,Wb,V9] using o')) q7 [.rs aI 0 aw.length 1,.int .i64 a0,.int .i64 b0,.fn kX dy] (au (rfl) (au (aL (bj)) (au (aL (bj)) (au (nv) (bE)))))
  exact qr [.a 4 e1] <| qq <| q0 <| q0 <| ⟨(x0,b0,i64.wrap (b0+(20:Int))),⟨h1,by kernel_rfl,o1⟩,H⟩
 ·exact qx 0 <| ⟨rfl,bl,a0,b0,oi H,.int .i64 b0,.bool (decide (b0≤n0)),h0,by kernel_rfl,o0⟩
theorem bO.sS (L:Mem)(aI:Nat)(kX:FuncId)(dy cX:List AV)(aw:List Int)(n0:Int)(aQ:Int→Int→Option (Int))(be:Int)  (nv:aK (.fn kX dy) = .fn kX dy)(qZ:∀(h:AHeap) (xs:List AV) (a0:Int) (a1:Int) r,aQ a0 a1=some r→aO bR h xs ([.int .i64 a0,.int .i64 a1]++cX)→cf kX xs h=some (.int .i64 r,h))(q6:∀h K,Has h (K++(L))→aO cE h dy cX)(q7:∀h,aO cE h cX cX)(iM:tM cf m m):dV Try.prog cf sV m (sub [1,1,1,1,0,0,1,0,1,0,0,0] (b7 Try.f99)) (fun k (σ:(List Int) × Int × Int)=>bO.l2 m n0 aQ be k σ.1 σ.2.1 σ.2.2) (fun σ s=>match σ with | (ju,a2,b2)=>∃h5,s=⟨.rs aI 0 aw.length 1 :: .int .i64 n0 :: .fn kX dy :: .int .i64 be :: .int .i64 a2 :: .int .i64 b2::Ap [],[],h5⟩∧Has h5 ((aI,.sl aw.length 1 (af.l ju))::L)) (fun out e s=>(e = .exit 4∧∃ju a2 b2,(ju,a2,b2)=out∧∃CE JK h5,s=⟨.rs aI 0 aw.length 1 :: .int .i64 n0 :: .fn kX dy :: .int .i64 be :: .int .i64 a2::CE::sv [JK,.any],[],h5⟩∧Has h5 ((aI,.sl aw.length 1 (af.l ju))::L))):=by
 refine me (fun _=>rfl) ?_
 rintro k ⟨ju,a2,b2⟩ s out ⟨h5,rfl,o5⟩ H
 have H:bO.l2 m n0 aQ be (k+1) ju a2 b2=some out:=H
 refine qq <| qq <| q0 <| qc H (fun c2 H=>?_) (fun c2 H=>?_)
 ·refine qk <| qb 5 <| qq ?_
  obtain⟨x2,e5,H⟩:=bh H
  obtain⟨h6,e6,o6⟩:=iM _ _ _ _ _ _ e5 h5 _ _ _ (o5) kX dy cX nv qZ (fun h' K' o'=>q6 h' (K'++[]) (by simpa only [VK,Wb,V9] using o')) q7 [.rs aI 0 aw.length 1,.int .i64 a2,.int .i64 (i64.wrap (a2+be)),.int .i64 b2,.fn kX dy] (au (rfl) (au (aL (bj)) (au (aL (bj)) (au (aL (bj)) (au (nv) (bE))))))
  exact qr [.a 7 e6] <| qq <| q0 <| q0 <| ⟨(x2,b2,i64.wrap (b2+i64.wrap ((2:Int)*be))),⟨h6,by kernel_rfl,o6⟩,H⟩
 ·exact qx 4 <| ⟨rfl,ju,a2,b2,oi H,.int .i64 b2,.bool (decide (b2≤n0)),h5,by kernel_rfl,o5⟩
theorem bO.mK (L:Mem)(aI:Nat)(kX:FuncId)(dy cX:List AV)(aw:List Int)(n0:Int)(aQ:Int→Int→Option (Int))  (nv:aK (.fn kX dy) = .fn kX dy)(qZ:∀(h:AHeap) (xs:List AV) (a0:Int) (a1:Int) r,aQ a0 a1=some r→aO bR h xs ([.int .i64 a0,.int .i64 a1]++cX)→cf kX xs h=some (.int .i64 r,h))(q6:∀h K,Has h (K++(L))→aO cE h dy cX)(q7:∀h,aO cE h cX cX)(iM:tM cf m m):dV Try.prog cf sV m (sub [1,1,1,1,0,0] (b7 Try.f99)) (fun k (σ:(List Int) × Int)=>bO.l1 m n0 aQ k σ.1 σ.2) (fun σ s=>match σ with | (dI,be)=>∃h4,s=⟨.rs aI 0 aw.length 1 :: .int .i64 n0 :: .fn kX dy :: .int .i64 be::H9 [],[],h4⟩∧Has h4 ((aI,.sl aw.length 1 (af.l dI))::L)) (fun out e s=>(e = .exit 2∧∃dI be,(dI,be)=out∧∃n7 vK Ju Hc Jy h4,s=⟨n7::vK::Ju::Hc::og [Jy,.any,.any],[],h4⟩∧Has h4 ((aI,.sl aw.length 1 (af.l dI))::L))):=by
 refine me (fun _=>rfl) ?_
 rintro k ⟨dI,be⟩ s out ⟨h4,rfl,o4⟩ H
 have H:bO.l1 m n0 aQ (k+1) dI be=some out:=H
 refine qq <| qq <| q0 <| qc H (fun c1 H=>?_) (fun c1 H=>?_)
 ·refine qk <| qb 3 <| qq <| q0 <| qq <| qb 4 ?_
  obtain⟨dv,e7,H⟩:=bh H
  refine ql (bO.sS L aI kX dy cX aw n0 aQ be  nv qZ q6 q7 iM (dI,(0:Int),i64.wrap ((2:Int)*be)) _ _ ⟨h4,by kernel_rfl,o4⟩ e7) ?_
  rintro e s ⟨rfl,kV,a3,b3,rfl,g2,g3,h7,rfl,o7⟩
  try dsimp only at H
  refine qq <| qq <| q0 <| qq <| q0 <| qc H (fun c3 H=>?_) (fun c3 H=>?_)
  ·obtain⟨x3,e8,H⟩:=bh H
   obtain⟨h8,e9,o8⟩:=iM _ _ _ _ _ _ e8 h7 _ _ _ (o7) kX dy cX nv qZ (fun h' K' o'=>q6 h' (K'++[]) (by simpa only [VK,Wb,V9] using o')) q7 [.rs aI 0 aw.length 1,.int .i64 a3,.int .i64 (i64.wrap (a3+be)),.int .i64 n0,.fn kX dy] (au (rfl) (au (aL (bj)) (au (aL (bj)) (au (aL (bj)) (au (nv) (bE))))))
   exact qr [.a 5 e9] <| q0 <| ⟨(x3,i64.wrap (be*(2:Int))),⟨h8,by kernel_rfl,o8⟩,H⟩
  ·exact qk <| q0 <| ⟨(kV,i64.wrap (be*(2:Int))),⟨h7,by kernel_rfl,o7⟩,H⟩
 ·exact qx 2 <| ⟨rfl,dI,be,oi H,.rs aI 0 aw.length 1,.int .i64 n0,.fn kX dy,.int .i64 be,.bool (decide (be<n0)),h4,by kernel_rfl,o4⟩
theorem vR {aV:FuncId→b5}(ha:aV 99=sV)(Bk:Jt cf m)(iM:tM cf m m)(aw:List Int)(n0:Int)(aQ:Int→Int→Option (Int))(h:AHeap)(L:Mem)(aI:Nat)(kX:FuncId)(dy cX:List AV)  (nv:aK (.fn kX dy) = .fn kX dy)(qZ:∀(h:AHeap) (xs:List AV) (a0:Int) (a1:Int) r,aQ a0 a1=some r→aO bR h xs ([.int .i64 a0,.int .i64 a1]++cX)→cf kX xs h=some (.int .i64 r,h))(q6:∀h K,Has h (K++(L))→aO cE h dy cX)(q7:∀h,aO cE h cX cX)(o:Has h ((aI,.sl aw.length 1 (af.l aw))::L)){out:(List Int)}(H:bO.f m aw n0 aQ=some out) :
  ∃r h',aZ Try.prog aV cf m 99 [.rs aI 0 aw.length 1,.int .i64 n0,.fn kX dy] h=some (r,h')∧r = .tup []∧Has h' ((aI,.sl aw.length 1 (af.l out))::L):=by
 refine ar (fn:=Try.f99) ha Try.func99 (by kernel_rfl) (by kernel_rfl) ?_
 refine aH (Q:=fun s=>bO.fin L aI aw n0 aQ out s) (fun _ _ ⟨h1,h2,h3⟩=>⟨h1,_,h2,rfl,h3⟩) ?_
 have H:_=some out:=H
 unfold bO.f at H
 show dp _ cf sV m _ ⟨.rs aI 0 aw.length 1 :: .int .i64 n0 :: .fn kX dy::Aq [],[],h⟩ _
 refine q1 <| qq <| q0 <| qq <| qb 0 ?_
 obtain⟨b4,e2,H⟩:=bh H
 refine ql (bO.di L aI kX dy cX aw n0 aQ  nv qZ q6 q7 Bk (aw,(0:Int),(20:Int)) _ _ ⟨h,by kernel_rfl,o⟩ e2) ?_
 rintro e s ⟨rfl,dc,a1,b1,rfl,g0,g1,h2,rfl,o2⟩
 try dsimp only at H
 refine qq ?_
 obtain⟨x1,e3,H⟩:=bh H
 obtain⟨h3,e4,o3⟩:=Bk _ _ _ _ _ e3 h2 _ _ _ (o2) kX dy cX nv qZ (fun h' K' o'=>q6 h' (K'++[]) (by simpa only [VK,Wb,V9] using o')) q7 [.rs aI 0 aw.length 1,.int .i64 a1,.int .i64 n0,.fn kX dy] (au (rfl) (au (aL (bj)) (au (aL (bj)) (au (nv) (bE)))))
 refine qr [.a 4 e4] <| qb 2 ?_
 obtain⟨mP,tw,H⟩:=bh H
 refine ql (bO.mK L aI kX dy cX aw n0 aQ  nv qZ q6 q7 iM (x1,(20:Int)) _ _ ⟨h3,by kernel_rfl,o3⟩ tw) ?_
 rintro e s ⟨rfl,pa,zt,rfl,g4,g5,g6,g7,g8,h9,rfl,o9⟩
 try dsimp only at H
 obtain rfl:=oi H
 exact⟨.inr rfl,⟨by kernel_rfl,he o9⟩⟩
end
end Go.Proofs.Ytifafejidnjckaa
namespace Go.Proofs.Ytifafejidnjckaa
open Go Go.R
open Go.IntKind (i64 u64 u8 u32)
end Go.Proofs.Ytifafejidnjckaa
namespace Go.Proofs.Ytifafejidnjckaa
open Go Go.R
open Go.IntKind (i64 u64 u8 u32)
def xP:b5:=gX [0,1,4,5,7,11,30] [] [124,116,84,116,100,52,123,123] [] []
def bA.l0 (m:Nat)(l0:List ko):Nat→Int→ab→Option (Sum (Bool × ab) (Int × ab))
 | 0,_,_=>none
 | k+1,i0,s1=>if (decide (i0<(l0.length:Int)))=true then ((ix l0 i0).bind fun v0=>(ix l0 i0).bind fun v1=>(cz.f m s1 v0.a0 v1.a1).bind fun x0=>if (x0.2.1==(8:Int))=true then (some (.inl (false,x0.2.2))) else (bA.l0 m l0 k (i64.wrap (i0+(1:Int))) x0.2.2)) else (some (.inr (i0,s1)))
def bA.f (m:Nat)(s0:ab)(l0:List ko):Option (Bool × ab):=(bA.l0 m l0 m (0:Int) s0).bind fun b4=>match b4 with | .inl r0=>some r0 | .inr (i1,s2)=>some (true,s2)
def bA.fin (L:Mem)(ao:Nat)(ak:Nat)(an:Nat)(s0:ab)(l0:List ko)(r:Bool × ab)(s:St):Prop:=∃aA aB:Nat,aM Try.prog (s.open xP) Try.f13.results.toList=some (.bool r.1)∧Has s.h ((ao,.ob [.bool r.2.aj,.rs aA 0 r.2.aa.length 4,.rs aB 0 r.2.ae.length 1])::(aA,.sl r.2.aa.length 4 (ah.l r.2.aa))::(aB,.sl r.2.ae.length 1 (af.l r.2.ae))::L)
def Ru (cf:CallF)(m:Nat):Prop:=∀(s0:ab) (l0:List ko) (r:Bool × ab),bA.f m s0 l0=some r→∀h L (ao:Nat) (ak:Nat) (an:Nat),Has h ((ao,.ob [.bool s0.aj,.rs ak 0 s0.aa.length 4,.rs an 0 s0.ae.length 1])::(ak,.sl s0.aa.length 4 (ah.l s0.aa))::(an,.sl s0.ae.length 1 (af.l s0.ae))::L)→∀xs,xs.map aK=[.ptr ao 0,kA.fz l0]→∃aA aB h',cf 13 xs h=some (.bool r.1,h')∧Has h' ((ao,.ob [.bool r.2.aj,.rs aA 0 r.2.aa.length 4,.rs aB 0 r.2.ae.length 1])::(aA,.sl r.2.aa.length 4 (ah.l r.2.aa))::(aB,.sl r.2.ae.length 1 (af.l r.2.ae))::L)
section
variable {cf:CallF}{m:Nat}
theorem bA.di (L:Mem)(ao:Nat)(ak:Nat)(an:Nat)(s0:ab)(l0:List ko)  (E1:M8 cf m):dV Try.prog cf xP m (sub [1,0,1,0,0] (b7 Try.f13)) (fun k (σ:Int × ab)=>bA.l0 m l0 k σ.1 σ.2) (fun σ s=>match σ with | (i0,s1)=>∃aI dR h0,s=⟨.ptr ao 0::kA.fz l0 :: .any :: .int .i64 i0::sv [],[],h0⟩∧Has h0 ((ao,.ob [.bool s1.aj,.rs aI 0 s1.aa.length 4,.rs dR 0 s1.ae.length 1])::(aI,.sl s1.aa.length 4 (ah.l s1.aa))::(dR,.sl s1.ae.length 1 (af.l s1.ae))::L)) (fun out e s=>(e = .exit 0∧∃i0 s1,.inr (i0,s1)=out∧∃n7 vK Jq EL aI dR h0,s=⟨[n7,vK,.any,Jq,.any,EL,.any],[],h0⟩∧Has h0 ((ao,.ob [.bool s1.aj,.rs aI 0 s1.aa.length 4,.rs dR 0 s1.ae.length 1])::(aI,.sl s1.aa.length 4 (ah.l s1.aa))::(dR,.sl s1.ae.length 1 (af.l s1.ae))::L))∨(e = .ret∧∃r,.inl r=out∧bA.fin L ao ak an s0 l0 r s)):=by
 refine me (fun _=>rfl) ?_
 rintro k ⟨i0,s1⟩ s out ⟨aI,dR,h0,rfl,o0⟩ H
 have H:bA.l0 m l0 (k+1) i0 s1=some out:=H
 refine qq <| qq <| q0 <| qc H (fun c0 H=>?_) (fun c0 H=>?_)
 ·refine qk <| qq <| qb 1 <| qq ?_
  obtain⟨v0,e0,H⟩:=bh H
  obtain⟨v1,e1,H⟩:=bh H
  obtain⟨x0,e2,H⟩:=bh H
  obtain⟨eS,cD,eB,h1,e3,o1⟩:=E1 _ _ _ _ e2 h0 _ _ _ _ (o0)  [.ptr ao 0,.int .i64 v0.a0,.int .i64 v1.a1] (au (rfl) (au (aL (bj)) (au (aL (bj)) (bE))))
  refine qr [.v 3 (eW (k:=.i64) (E:=kA) (l:=l0) If e0),.v 5 (nX  (E:=kA) (l:=l0) (off:=0) h0 A3 e0 rfl),.v 8 (eW (k:=.i64) (E:=kA) (l:=l0) If e1),.v 10 (nX  (E:=kA) (l:=l0) (off:=1) h0 A3 e1 rfl),.a 11 e3] ?_
  have o2:Has h1 ((ao,.ob [.bool x0.2.2.aj,.rs cD 0 x0.2.2.aa.length 4,.rs eB 0 x0.2.2.ae.length 1])::(cD,.sl x0.2.2.aa.length 4 (ah.l x0.2.2.aa))::(eB,.sl x0.2.2.ae.length 1 (af.l x0.2.2.ae))::L):=Has.del o1 0
  refine q1 <| qc H (fun c1 H=>?_) (fun c1 H=>?_)
  ·exact q1 <| qt <| Or.inr (⟨rfl,_,oi H,⟨cD,eB,by kernel_rfl,he o2⟩⟩)
  ·exact qk <| q0 <| ⟨(i64.wrap (i0+(1:Int)),x0.2.2),⟨cD,eB,h1,by kernel_rfl,o2⟩,H⟩
 ·exact qx 0 <| Or.inl (⟨rfl,i0,s1,oi H,.ptr ao 0,kA.fz l0,.int .i64 i0,.bool (decide (i0<(l0.length:Int))),aI,dR,h0,by kernel_rfl,o0⟩)
theorem pU {aV:FuncId→b5}(ha:aV 13=xP)(E1:M8 cf m)(s0:ab)(l0:List ko)(h:AHeap)(L:Mem)(ao:Nat)(ak:Nat)(an:Nat)  (o:Has h ((ao,.ob [.bool s0.aj,.rs ak 0 s0.aa.length 4,.rs an 0 s0.ae.length 1])::(ak,.sl s0.aa.length 4 (ah.l s0.aa))::(an,.sl s0.ae.length 1 (af.l s0.ae))::L)){out:Bool × ab}(H:bA.f m s0 l0=some out) :
  ∃r h',aZ Try.prog aV cf m 13 [.ptr ao 0,kA.fz l0] h=some (r,h')∧∃aA aB:Nat,r = .bool out.1∧Has h' ((ao,.ob [.bool out.2.aj,.rs aA 0 out.2.aa.length 4,.rs aB 0 out.2.ae.length 1])::(aA,.sl out.2.aa.length 4 (ah.l out.2.aa))::(aB,.sl out.2.ae.length 1 (af.l out.2.ae))::L):=by
 refine ar (fn:=Try.f13) ha Try.func13 (by kernel_rfl) (by kernel_rfl) ?_
 refine aH (Q:=fun s=>bA.fin L ao ak an s0 l0 out s) (fun _ _ ⟨h1,aA,aB,h2,h3⟩=>⟨h1,_,h2,aA,aB,rfl,h3⟩) ?_
 have H:_=some out:=H
 unfold bA.f at H
 show dp _ cf xP m _ ⟨.ptr ao 0::kA.fz l0::Ap [],[],h⟩ _
 refine q1 <| qq <| qq <| q0 <| qb 0 ?_
 obtain⟨b4,e4,H⟩:=bh H
 refine ql (bA.di L ao ak an s0 l0  E1 ((0:Int),s0) _ _ ⟨ak,an,h,by kernel_rfl,o⟩ e4) ?_
 rintro e s (⟨rfl,i1,s2,rfl,g0,g1,g2,g3,fo,gC,h2,rfl,o3⟩| ⟨rfl,r0,rfl,xC⟩)
 ·try dsimp only at H
  obtain rfl:=oi H
  exact q1 <| qt <| ⟨.inl rfl,⟨fo,gC,by kernel_rfl,he o3⟩⟩
 ·try dsimp only at H
  obtain rfl:=oi H
  exact⟨.inl rfl,xC⟩
end
end Go.Proofs.Ytifafejidnjckaa
namespace Go.Proofs.Ytifafejidnjckaa
open Go Go.R
open Go.IntKind (i64 u64 u8 u32)
def xQ:b5:=gX [0,2,3,4,5,6,10,20] [] [254,250,242,178,242,194,98,226,242,253] [] [(1,[(3,none,1)])]
def bM.l0 (m:Nat)(s0:ab):Nat→(List Int)→Int→Option ((List Int) × Int)
 | 0,_,_=>none
 | k+1,b4,n0=>(ca.f m s0).bind fun x0=>if (decide (n0<x0))=true then ((dN.f m s0 n0).bind fun x1=>if (!(x1.2==(0:Int)))=true then ((app 8 b4 ([(-1:Int)])).bind fun x2=>bM.l0 m s0 k x2 (i64.wrap (n0+(1:Int)))) else ((app 8 b4 ([x1.1])).bind fun x3=>bM.l0 m s0 k x3 (i64.wrap (n0+(1:Int))))) else (some ((b4,n0)))
def bM.f (m:Nat)(s0:ab):Option ((List Int)):=(bM.l0 m s0 m ([]:List Int) (0:Int)).bind fun mP=>match mP with | (dv,n1)=>some dv
def bM.fin (L:Mem)(r:(List Int))(s:St):Prop:=∃av,aM Try.prog (s.open xQ) Try.f15.results.toList=some av∧fA s.h av (af.fz r)
def Rv (cf:CallF)(m:Nat):Prop:=∀(s0:ab) (r:(List Int)),bM.f m s0=some r→∀h xs,aO bR h xs [.fp [.bool s0.aj,ah.fz s0.aa,af.fz s0.ae] 0]→cf 15 xs h=some (af.fz r,h)
section
variable {cf:CallF}{m:Nat}
theorem bM.di (L:Mem)(s0:ab)  (JL:OG cf m)(JM:Pd cf m):dV Try.prog cf xQ m (sub [1,1,0,1,0,0] (b7 Try.f15)) (fun k (σ:(List Int) × Int)=>bM.l0 m s0 k σ.1 σ.2) (fun σ s=>match σ with | (b4,n0)=>∃aI h0,s=⟨.fp [.bool s0.aj,ah.fz s0.aa,af.fz s0.ae] 0 :: .any :: .rs aI 0 b4.length 1 :: .int .i64 n0::og [],[],h0⟩∧Has h0 ((aI,.sl b4.length 1 (af.l b4))::L)) (fun out e s=>(e = .exit 0∧∃b4 n0,(b4,n0)=out∧∃n7 JE zn aI h0,s=⟨[n7,.any,.rs aI 0 b4.length 1,JE,.any,.any,zn,.any],[],h0⟩∧Has h0 ((aI,.sl b4.length 1 (af.l b4))::L))):=by
 refine me (fun _=>rfl) ?_
 rintro k ⟨b4,n0⟩ s out ⟨aI,h0,rfl,o1⟩ H
 have H:bM.l0 m s0 (k+1) b4 n0=some out:=H
 refine qq <| qq ?_
 obtain⟨x0,e0,H⟩:=bh H
 refine qr [.a 2 (JL _ _ e0 h0 _ (gv (ai (gk (pure_cons (dM) (pure_cons (bL.bG (E:=ah) (l:=s0.aa)) (pure_cons (bL.bG (E:=af) (l:=s0.ae)) (pure_nil))))) (ay))))] <| qc H (fun c0 H=>?_) (fun c0 H=>?_)
 ·refine qk <| qq <| qb 1 <| qq ?_
  obtain⟨x1,e1,H⟩:=bh H
  refine qr [.a 2 (JM _ _ _ e1 h0 _ (gv (ai (gk (pure_cons (dM) (pure_cons (bL.bG (E:=ah) (l:=s0.aa)) (pure_cons (bL.bG (E:=af) (l:=s0.ae)) (pure_nil))))) (ai (bB) (ay)))))] <| qq <| qq <| q0 <| qc H (fun c1 H=>?_) (fun c1 H=>?_)
  ·refine q0 ?_
   obtain⟨x2,e2,H⟩:=bh H
   obtain⟨dR,h1,e3,o2⟩:=gH (P:=Try.prog) (E:=af) (l:=b4) (q:=0) (t2:=33) (x:=.fz [.int .i64 (-1:Int)] 1 true) (l2:=([(-1:Int)])) gK o1 rfl (by kernel_rfl) rfl e2
   exact qr [.a 3 e3] <| q0 <| ⟨(x2,i64.wrap (n0+(1:Int))),⟨dR,h1,by kernel_rfl,o2⟩,H⟩
  ·refine qk ?_
   obtain⟨x3,e4,H⟩:=bh H
   obtain⟨eS,h2,e5,o3⟩:=gH (P:=Try.prog) (E:=af) (l:=b4) (q:=0) (t2:=33) (x:=.fz [.int .i64 x1.1] 1 true) (l2:=([x1.1])) gK o1 rfl (by kernel_rfl) rfl e4
   exact qr [.a 3 e5] <| q0 <| ⟨(x3,i64.wrap (n0+(1:Int))),⟨eS,h2,by kernel_rfl,o3⟩,H⟩
 ·exact qx 0 <| ⟨rfl,b4,n0,oi H,.fp [.bool s0.aj,ah.fz s0.aa,af.fz s0.ae] 0,.int .i64 n0,.bool (decide (n0<x0)),aI,h0,by kernel_rfl,o1⟩
theorem q8 {aV:FuncId→b5}(ha:aV 15=xQ)(JL:OG cf m)(JM:Pd cf m)(s0:ab)(h:AHeap)(L:Mem)  (o:Has h (L)){out:(List Int)}(H:bM.f m s0=some out) :
  ∃r h',aZ Try.prog aV cf m 15 [.fp [.bool s0.aj,ah.fz s0.aa,af.fz s0.ae] 0] h=some (r,h')∧fA h' r (af.fz out):=by
 refine ar (fn:=Try.f15) ha Try.func15 (by kernel_rfl) (by kernel_rfl) ?_
 refine aH (Q:=fun s=>bM.fin L out s) (fun _ _ h=>h) ?_
 have H:_=some out:=H
 unfold bM.f at H
 show dp _ cf xQ m _ ⟨.fp [.bool s0.aj,ah.fz s0.aa,af.fz s0.ae] 0::H9 [],[],h⟩ _
 refine q1 <| qq <| q0 ?_
 have o0:Has h (((0),.sl (([]:List Int).length) 1 (af.l ([]:List Int)))::L):=Has.nil o 1
 refine qq <| qq <| q0 <| qb 0 ?_
 obtain⟨mP,e6,H⟩:=bh H
 refine ql (bM.di L s0  JL JM (([]:List Int),(0:Int)) _ _ ⟨(0),h,by kernel_rfl,o0⟩ e6) ?_
 rintro e s ⟨rfl,dv,n1,rfl,g0,g1,g2,cD,h3,rfl,o4⟩
 try dsimp only at H
 obtain rfl:=oi H
 exact q1 <| qt <| ⟨.inl rfl,dC (.rs cD 0 dv.length 1) h3 (dB (H8 (E:=af) (l:=dv) (q:=0) o4 rfl (fun _=>rfl)))⟩
end
end Go.Proofs.Ytifafejidnjckaa
namespace Go.Proofs.Ytifafejidnjckaa
open Go Go.R
open Go.IntKind (i64 u64 u8 u32)
def Bl:b5:=gX [0,1,3,4,5] [] [26,7] [] []
def dY.f (m:Nat)(s0:ab)(a0:ByteArray):Option (Int × Int × ab):=(b6.f m s0 (dq.f m a0) (aq.mk (2:Int) (0:Int) a0 ([]))).bind fun x0=>some (x0.1,x0.2.1,x0.2.2)
def dY.fin (L:Mem)(ao:Nat)(ak:Nat)(an:Nat)(s0:ab)(a0:ByteArray)(r:Int × Int × ab)(s:St):Prop:=∃aA aB:Nat,aM Try.prog (s.open Bl) Try.f28.results.toList=some (.tup [.int .i64 r.1,.int .i64 r.2.1])∧Has s.h ((ao,.ob [.bool r.2.2.aj,.rs aA 0 r.2.2.aa.length 4,.rs aB 0 r.2.2.ae.length 1])::(aA,.sl r.2.2.aa.length 4 (ah.l r.2.2.aa))::(aB,.sl r.2.2.ae.length 1 (af.l r.2.2.ae))::L)
def Rw (cf:CallF)(m:Nat):Prop:=∀(s0:ab) (a0:ByteArray) (r:Int × Int × ab),dY.f m s0 a0=some r→∀h L (ao:Nat) (ak:Nat) (an:Nat),Has h ((ao,.ob [.bool s0.aj,.rs ak 0 s0.aa.length 4,.rs an 0 s0.ae.length 1])::(ak,.sl s0.aa.length 4 (ah.l s0.aa))::(an,.sl s0.ae.length 1 (af.l s0.ae))::L)→∀xs,xs.map aK=[.ptr ao 0,.str a0]→∃aA aB h',cf 28 xs h=some (.tup [.int .i64 r.1,.int .i64 r.2.1],h')∧Has h' ((ao,.ob [.bool r.2.2.aj,.rs aA 0 r.2.2.aa.length 4,.rs aB 0 r.2.2.ae.length 1])::(aA,.sl r.2.2.aa.length 4 (ah.l r.2.2.aa))::(aB,.sl r.2.2.ae.length 1 (af.l r.2.2.ae))::L)
section
variable {cf:CallF}{m:Nat}
theorem mb {aV:FuncId→b5}(ha:aV 28=Bl)(vO:Kv cf m)(Pg:Rr cf m)(s0:ab)(a0:ByteArray)(h:AHeap)(L:Mem)(ao:Nat)(ak:Nat)(an:Nat)  (o:Has h ((ao,.ob [.bool s0.aj,.rs ak 0 s0.aa.length 4,.rs an 0 s0.ae.length 1])::(ak,.sl s0.aa.length 4 (ah.l s0.aa))::(an,.sl s0.ae.length 1 (af.l s0.ae))::L)){out:Int × Int × ab}(H:dY.f m s0 a0=some out) :
  ∃r h',aZ Try.prog aV cf m 28 [.ptr ao 0,.str a0] h=some (r,h')∧∃aA aB:Nat,r = .tup [.int .i64 out.1,.int .i64 out.2.1]∧Has h' ((ao,.ob [.bool out.2.2.aj,.rs aA 0 out.2.2.aa.length 4,.rs aB 0 out.2.2.ae.length 1])::(aA,.sl out.2.2.aa.length 4 (ah.l out.2.2.aa))::(aB,.sl out.2.2.ae.length 1 (af.l out.2.2.ae))::L):=by
 refine ar (fn:=Try.f28) ha Try.func28 (by kernel_rfl) (by kernel_rfl) ?_
 refine aH (Q:=fun s=>dY.fin L ao ak an s0 a0 out s) (fun _ _ ⟨h1,aA,aB,h2,h3⟩=>⟨h1,_,h2,aA,aB,rfl,h3⟩) ?_
 have H:_=some out:=H
 unfold dY.f at H
 show dp _ cf Bl m _ ⟨.ptr ao 0 :: .str a0::sv [],[],h⟩ _
 refine qq ?_
 obtain⟨aI,h0,e0,o0⟩:=gw (cs:=[.str a0]) o (by kernel_rfl)
 refine qr [.a 0 e0] <| qq ?_
 obtain⟨x0,e1,H⟩:=bh H
 obtain⟨dR,eS,h1,e2,o1⟩:=vO _ _ _ _ e1 h0 _ _ _ _ ((Has.front (Has.front (Has.front (Has.front o0 0 rfl) 3 rfl) 3 rfl) 3 rfl)) 49 [.ptr aI 0] [.fp [.str a0] 0] rfl (fun h' tK  r hr hx=>Pg _ r hr h' tK hx) (fun h' K' o'=>iP (ai (dQ (q:=(K'.length+3)) o' (jt rfl) (ai (cU) (ay))) (ay))) (fun h_=>iP (ai (gk (pure_cons (mD) (pure_nil))) (ay))) [.ptr ao 0,.fn 49 [.ptr aI 0],.agg [.int .i64 (2:Int),.int .i64 (0:Int),.str a0,.nils]] (au (rfl) (au (rfl) (au (aL (nZ (cu (bj) (cu (bj) (cu (ly) (cu (rD (E:=af)) (nY))))))) (bE))))
 refine qr [.v 2 (show bm Try.prog h0 9 (.ptr aI 0)=some (.str a0) from bZ (q:=0) (cs:=[.str a0]) o0 rfl (by kernel_rfl)),.a 4 e2] ?_
 have o2:Has h1 ((ao,.ob [.bool x0.2.2.aj,.rs dR 0 x0.2.2.aa.length 4,.rs eS 0 x0.2.2.ae.length 1])::(dR,.sl x0.2.2.aa.length 4 (ah.l x0.2.2.aa))::(eS,.sl x0.2.2.ae.length 1 (af.l x0.2.2.ae))::L):=Has.del o1 3
 obtain rfl:=oi H
 exact qt <| ⟨.inl rfl,⟨dR,eS,by kernel_rfl,he o2⟩⟩
end
end Go.Proofs.Ytifafejidnjckaa
namespace Go.Proofs.Ytifafejidnjckaa
open Go Go.R
open Go.IntKind (i64 u64 u8 u32)
def Bm:b5:=gX [0,1,2] [] [5,3] [] []
def gO.f (m:Nat)(t0:br):Option (Bool):=if (decide ((t0.nodes.length:Int)≥(1:Int)))=true then (if (decide ((t0.nodes.length:Int)≤(8000:Int)))=true then (if (decide (t0.root≥(0:Int)))=true then (if (decide (t0.root<(t0.nodes.length:Int)))=true then ((gN.f m t0.nodes (fun y0=>fY.f m y0 t0)).bind fun x0=>some (!x0)) else (some false)) else (some false)) else (some false)) else (some false)
def gO.fin (L:Mem)(r:Bool)(s:St):Prop:=∃av,aM Try.prog (s.open Bm) Try.f44.results.toList=some av∧fA s.h av (.bool r)
def Rx (cf:CallF)(m:Nat):Prop:=∀(t0:br) (r:Bool),gO.f m t0=some r→∀h xs,aO bR h xs [.agg [ah.fz t0.nodes,.int .i64 t0.root]]→cf 44 xs h=some (.bool r,h)
section
variable {cf:CallF}{m:Nat}
theorem q9 {aV:FuncId→b5}(ha:aV 44=Bm)(Ph:Rf cf m)(Pj:Rs cf m)(t0:br)(h:AHeap)(L:Mem)  (o:Has h (L)){out:Bool}(H:gO.f m t0=some out) :
  ∃r h',aZ Try.prog aV cf m 44 [.agg [ah.fz t0.nodes,.int .i64 t0.root]] h=some (r,h')∧fA h' r (.bool out):=by
 refine ar (fn:=Try.f44) ha Try.func44 (by kernel_rfl) (by kernel_rfl) ?_
 refine aH (Q:=fun s=>gO.fin L out s) (fun _ _ h=>h) ?_
 have H:_=some out:=H
 unfold gO.f at H
 show dp _ cf Bm m _ ⟨[.agg [ah.fz t0.nodes,.int .i64 t0.root],.any,.any],[],h⟩ _
 refine qq ?_
 obtain⟨aI,h0,e0,o0⟩:=gw (cs:=[ah.fz t0.nodes,.int .i64 t0.root]) o (by kernel_rfl)
 refine qr [.a 0 e0] <| qq ?_
 rcases iA H with⟨c0,H⟩| ⟨c0,H⟩
 ·rcases iA H with⟨c1,H⟩| ⟨c1,H⟩
  ·rcases iA H with⟨c2,H⟩| ⟨c2,H⟩
   ·rcases iA H with⟨c3,H⟩| ⟨c3,H⟩
    ·obtain⟨x0,e1,H⟩:=bh H
     refine qr [.v 1 (show bm Try.prog h0 40 (.ptr aI 0)=some (ah.fz t0.nodes) from bZ (q:=0) (cs:=[ah.fz t0.nodes,.int .i64 t0.root]) o0 rfl (by kernel_rfl)),.b 4 c0,.v 6 (show bm Try.prog h0 40 (.ptr aI 0)=some (ah.fz t0.nodes) from bZ (q:=0) (cs:=[ah.fz t0.nodes,.int .i64 t0.root]) o0 rfl (by kernel_rfl)),.b 10 c1,.v 12 (show bm Try.prog h0 3 (.ptr aI 1)=some (.int .i64 t0.root) from bZ (q:=0) (cs:=[ah.fz t0.nodes,.int .i64 t0.root]) o0 rfl (by kernel_rfl)),.b 15 c2,.v 17 (show bm Try.prog h0 3 (.ptr aI 1)=some (.int .i64 t0.root) from bZ (q:=0) (cs:=[ah.fz t0.nodes,.int .i64 t0.root]) o0 rfl (by kernel_rfl)),.v 19 (show bm Try.prog h0 40 (.ptr aI 0)=some (ah.fz t0.nodes) from bZ (q:=0) (cs:=[ah.fz t0.nodes,.int .i64 t0.root]) o0 rfl (by kernel_rfl)),.b 23 c3,.v 25 (show bm Try.prog h0 40 (.ptr aI 0)=some (ah.fz t0.nodes) from bZ (q:=0) (cs:=[ah.fz t0.nodes,.int .i64 t0.root]) o0 rfl (by kernel_rfl)),.a 27 (Ph _ _ _ e1 66 [.fp [ah.fz t0.nodes,.int .i64 t0.root] 0] (fun h' tK y0 r hr hx=>Pj y0 _ r hr h' tK hx) (fun h_=>iP (ai (gk (pure_cons (bL.bG (E:=ah) (l:=t0.nodes)) (pure_cons (ff) (pure_nil)))) (ay))) h0 _ (gv (ai (fy (E:=ah)) (ai (sE (ai (dQ (q:=0) o0 rfl (ai (fy (E:=ah)) (ai (bB) (ay)))) (ay))) (ay)))))] ?_
     have o1:Has h0 (L):=Has.del o0 0
     obtain rfl:=oi H
     exact qt <| ⟨.inl rfl,dC (.bool (!x0)) h0 (dB (aD))⟩
    ·refine qr [.v 1 (show bm Try.prog h0 40 (.ptr aI 0)=some (ah.fz t0.nodes) from bZ (q:=0) (cs:=[ah.fz t0.nodes,.int .i64 t0.root]) o0 rfl (by kernel_rfl)),.b 4 c0,.v 6 (show bm Try.prog h0 40 (.ptr aI 0)=some (ah.fz t0.nodes) from bZ (q:=0) (cs:=[ah.fz t0.nodes,.int .i64 t0.root]) o0 rfl (by kernel_rfl)),.b 10 c1,.v 12 (show bm Try.prog h0 3 (.ptr aI 1)=some (.int .i64 t0.root) from bZ (q:=0) (cs:=[ah.fz t0.nodes,.int .i64 t0.root]) o0 rfl (by kernel_rfl)),.b 15 c2,.v 17 (show bm Try.prog h0 3 (.ptr aI 1)=some (.int .i64 t0.root) from bZ (q:=0) (cs:=[ah.fz t0.nodes,.int .i64 t0.root]) o0 rfl (by kernel_rfl)),.v 19 (show bm Try.prog h0 40 (.ptr aI 0)=some (ah.fz t0.nodes) from bZ (q:=0) (cs:=[ah.fz t0.nodes,.int .i64 t0.root]) o0 rfl (by kernel_rfl)),.b 23 c3] ?_
     have o2:Has h0 (L):=Has.del o0 0
     obtain rfl:=oi H
     exact qt <| ⟨.inl rfl,dC (.bool false) h0 (dB (aD))⟩
   ·refine qr [.v 1 (show bm Try.prog h0 40 (.ptr aI 0)=some (ah.fz t0.nodes) from bZ (q:=0) (cs:=[ah.fz t0.nodes,.int .i64 t0.root]) o0 rfl (by kernel_rfl)),.b 4 c0,.v 6 (show bm Try.prog h0 40 (.ptr aI 0)=some (ah.fz t0.nodes) from bZ (q:=0) (cs:=[ah.fz t0.nodes,.int .i64 t0.root]) o0 rfl (by kernel_rfl)),.b 10 c1,.v 12 (show bm Try.prog h0 3 (.ptr aI 1)=some (.int .i64 t0.root) from bZ (q:=0) (cs:=[ah.fz t0.nodes,.int .i64 t0.root]) o0 rfl (by kernel_rfl)),.b 15 c2] ?_
    have o3:Has h0 (L):=Has.del o0 0
    obtain rfl:=oi H
    exact qt <| ⟨.inl rfl,dC (.bool false) h0 (dB (aD))⟩
  ·refine qr [.v 1 (show bm Try.prog h0 40 (.ptr aI 0)=some (ah.fz t0.nodes) from bZ (q:=0) (cs:=[ah.fz t0.nodes,.int .i64 t0.root]) o0 rfl (by kernel_rfl)),.b 4 c0,.v 6 (show bm Try.prog h0 40 (.ptr aI 0)=some (ah.fz t0.nodes) from bZ (q:=0) (cs:=[ah.fz t0.nodes,.int .i64 t0.root]) o0 rfl (by kernel_rfl)),.b 10 c1] ?_
   have o4:Has h0 (L):=Has.del o0 0
   obtain rfl:=oi H
   exact qt <| ⟨.inl rfl,dC (.bool false) h0 (dB (aD))⟩
 ·refine qr [.v 1 (show bm Try.prog h0 40 (.ptr aI 0)=some (ah.fz t0.nodes) from bZ (q:=0) (cs:=[ah.fz t0.nodes,.int .i64 t0.root]) o0 rfl (by kernel_rfl)),.b 4 c0] ?_
  have o5:Has h0 (L):=Has.del o0 0
  obtain rfl:=oi H
  exact qt <| ⟨.inl rfl,dC (.bool false) h0 (dB (aD))⟩
end
end Go.Proofs.Ytifafejidnjckaa
namespace Go.Proofs.Ytifafejidnjckaa
open Go Go.R
open Go.IntKind (i64 u64 u8 u32)
end Go.Proofs.Ytifafejidnjckaa
namespace Go.Proofs.Ytifafejidnjckaa
open Go Go.R
open Go.IntKind (i64 u64 u8 u32)
def Bn:b5:=gX [0,1] [] [3] [] []
def fj.f (m:Nat)(x0:List Int)(aQ:Int→Int→Option (Int)):Option ((List Int)):=(bO.f m x0 (x0.length:Int) aQ).bind fun x1=>some x1
def fj.fin (L:Mem)(aI:Nat)(x0:List Int)(aQ:Int→Int→Option (Int))(r:(List Int))(s:St):Prop:=aM Try.prog (s.open Bn) Try.f83.results.toList=some (.tup [])∧Has s.h ((aI,.sl x0.length 1 (af.l r))::L)
def Ry (cf:CallF)(m:Nat):Prop:=∀(x0:List Int) (aQ:Int→Int→Option (Int)) (r:(List Int)),fj.f m x0 aQ=some r→∀h L (E2:Nat) (aI:Nat),Has h ((aI,.sl E2 1 (af.l x0))::L)→∀(eK:FuncId) (aP bX:List AV),(aK (.fn eK aP) = .fn eK aP)→(∀(h:AHeap) (xs:List AV) (a0:Int) (a1:Int) r,aQ a0 a1=some r→aO bR h xs ([.int .i64 a0,.int .i64 a1]++bX)→cf eK xs h=some (.int .i64 r,h))→(∀h K,Has h (K++(L))→aO cE h aP bX)→(∀h,aO cE h bX bX)→∀xs,xs.map aK=[.rs aI 0 E2 1,.fn eK aP]→∃h',cf 83 xs h=some (.tup [],h')∧Has h' ((aI,.sl E2 1 (af.l r))::L)
section
variable {cf:CallF}{m:Nat}
theorem pc {aV:FuncId→b5}(ha:aV 83=Bn)(Pk:Rt cf m)(x0:List Int)(aQ:Int→Int→Option (Int))(h:AHeap)(L:Mem)(aI:Nat)(eK:FuncId)(aP bX:List AV)  (qS:aK (.fn eK aP) = .fn eK aP)(gU:∀(h:AHeap) (xs:List AV) (a0:Int) (a1:Int) r,aQ a0 a1=some r→aO bR h xs ([.int .i64 a0,.int .i64 a1]++bX)→cf eK xs h=some (.int .i64 r,h))(oU:∀h K,Has h (K++(L))→aO cE h aP bX)(gV:∀h,aO cE h bX bX)(o:Has h ((aI,.sl x0.length 1 (af.l x0))::L)){out:(List Int)}(H:fj.f m x0 aQ=some out) :
  ∃r h',aZ Try.prog aV cf m 83 [.rs aI 0 x0.length 1,.fn eK aP] h=some (r,h')∧r = .tup []∧Has h' ((aI,.sl x0.length 1 (af.l out))::L):=by
 refine ar (fn:=Try.f83) ha Try.func83 (by kernel_rfl) (by kernel_rfl) ?_
 refine aH (Q:=fun s=>fj.fin L aI x0 aQ out s) (fun _ _ ⟨h1,h2,h3⟩=>⟨h1,_,h2,rfl,h3⟩) ?_
 have H:_=some out:=H
 unfold fj.f at H
 show dp _ cf Bn m _ ⟨[.rs aI 0 x0.length 1,.fn eK aP],[],h⟩ _
 obtain⟨x1,e0,H⟩:=bh H
 obtain⟨h0,e1,o0⟩:=Pk _ _ _ _ e0 h _ _ _ (o) eK aP bX qS gU (fun h' K' o'=>oU h' (K'++[]) (by simpa only [VK,Wb,V9] using o')) gV [.rs aI 0 x0.length 1,.int .i64 (x0.length:Int),.fn eK aP] (au (rfl) (au (aL (bj)) (au (qS) (bE))))
 obtain rfl:=oi H
 exact qr [.a 4 e1] <| ⟨.inr rfl,⟨by kernel_rfl,he o0⟩⟩
end
end Go.Proofs.Ytifafejidnjckaa
namespace Go.Proofs.Ytifafejidnjckaa
open Go Go.R
open Go.IntKind (i64 u64 u8 u32)
end Go.Proofs.Ytifafejidnjckaa
