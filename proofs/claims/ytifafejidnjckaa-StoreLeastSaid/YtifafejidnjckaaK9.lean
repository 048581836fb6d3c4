/- Part of the proof: Q106, Q16, Q20, Q23, Q24, Q34, Q49, Q66, Q69, Q99, Q103, Q13, Q15, Q28, Q44, Q45, Q83, Q89. -/
import Derived.Test.YtifafejidnjckaaK8
set_option linter.unusedVariables false
set_option linter.unusedSimpArgs false
set_option maxRecDepth 100000
open ByteArray renaming mk → Vk
open List renaming append_assoc → UK, cons_append → U6, nil_append → U7
namespace Go.Proofs.Ytifafejidnjckaa
open Go Go.R
open Go.IntKind (i64 u64 u8 u32)
def lg:bX:=gQ [0,1,2,3,4,10,11,12,13,14,15,16,17,18,19,20,21,22,23,24,28,33,50,58,80,85,103,110,140,151,171,185,199,213] [] [17178820576,17179869124,17179869068,17177771916,17179868940,17175674636,17179869068,17179869068,17179868894,17171480286,17179868894,17179868894,17163091936,17179868650,17179867626,17146313194,17179865578,17112756714,17179867626,17179867626,17179864574,17045646846,17179864574,17179864574,17179860960,17179844576,17179844576,16911409120,17179811808,17179746272,17179811808,17179746272,17179615200,16642744288,17179353056,16105611232,17179615200,17179615200,17179303904,15031820256,17179303908,12884336612,17179336678,8589402086,17179869183] [] []
def aG.l0 (m:Nat)(aw:List Int)(a0:Int)(aQ:Int→Int→Option (Int)):Nat→Int→Int→Option (Int × Int)
 | 0,_,_=>none
 | k+1,i0,j0=>if (decide (i0<j0))=true then ((ix aw (i64.wrap (jb .u64 (u64.wrap (i64.wrap (i0+j0))) 1))).bind fun v0=>(ix aw a0).bind fun v1=>(aQ v0 v1).bind fun r0=>if (decide (r0<(0:Int)))=true then (aG.l0 m aw a0 aQ k (i64.wrap (i64.wrap (jb .u64 (u64.wrap (i64.wrap (i0+j0))) 1)+(1:Int))) j0) else (aG.l0 m aw a0 aQ k i0 (i64.wrap (jb .u64 (u64.wrap (i64.wrap (i0+j0))) 1)))) else (some ((i0,j0)))
def aG.l1 (m:Nat)(i1:Int):Nat→(List Int)→Int→Option ((List Int) × Int)
 | 0,_,_=>none
 | k+1,bl,k0=>if (decide (k0<(i64.wrap (i1 - (1:Int)))))=true then ((ix bl (i64.wrap (k0+(1:Int)))).bind fun v2=>(ix bl k0).bind fun v3=>(ix bl k0).bind fun v4=>(ix (bl.set k0.toNat v2) (i64.wrap (k0+(1:Int)))).bind fun v5=>aG.l1 m i1 k ((bl.set k0.toNat v2).set (i64.wrap (k0+(1:Int))).toNat v3) (i64.wrap (k0+(1:Int)))) else (some ((bl,k0)))
def aG.l2 (m:Nat)(aw:List Int)(m0:Int)(aQ:Int→Int→Option (Int)):Nat→Int→Int→Option (Int × Int)
 | 0,_,_=>none
 | k+1,i2,j2=>if (decide (i2<j2))=true then ((ix aw m0).bind fun v6=>(ix aw (i64.wrap (jb .u64 (u64.wrap (i64.wrap (i2+j2))) 1))).bind fun v7=>(aQ v6 v7).bind fun r1=>if (!(decide (r1<(0:Int))))=true then (aG.l2 m aw m0 aQ k (i64.wrap (i64.wrap (jb .u64 (u64.wrap (i64.wrap (i2+j2))) 1)+(1:Int))) j2) else (aG.l2 m aw m0 aQ k i2 (i64.wrap (jb .u64 (u64.wrap (i64.wrap (i2+j2))) 1)))) else (some ((i2,j2)))
def aG.l3 (m:Nat)(i3:Int):Nat→(List Int)→Int→Option ((List Int) × Int)
 | 0,_,_=>none
 | k+1,dE,k2=>if (decide (k2 > i3))=true then ((ix dE (i64.wrap (k2 - (1:Int)))).bind fun v8=>(ix dE k2).bind fun v9=>(ix dE k2).bind fun v10=>(ix (dE.set k2.toNat v8) (i64.wrap (k2 - (1:Int)))).bind fun v11=>aG.l3 m i3 k ((dE.set k2.toNat v8).set (i64.wrap (k2 - (1:Int))).toNat v9) (i64.wrap (k2 - (1:Int)))) else (some ((dE,k2)))
def aG.l4 (m:Nat)(aw:List Int)(a0:Int)(m0:Int)(b0:Int)(aQ:Int→Int→Option (Int)):Nat→Int→Int→Option (Int × Int)
 | 0,_,_=>none
 | k+1,fQ,r3=>if (decide (fQ<r3))=true then ((ix aw (i64.wrap (i64.wrap (i64.wrap (i64.wrap (jb .u64 (u64.wrap (i64.wrap (a0+b0))) 1)+m0) - (1:Int)) - i64.wrap (jb .u64 (u64.wrap (i64.wrap (fQ+r3))) 1)))).bind fun v12=>(ix aw (i64.wrap (jb .u64 (u64.wrap (i64.wrap (fQ+r3))) 1))).bind fun Mc=>(aQ v12 Mc).bind fun r4=>if (!(decide (r4<(0:Int))))=true then (aG.l4 m aw a0 m0 b0 aQ k (i64.wrap (i64.wrap (jb .u64 (u64.wrap (i64.wrap (fQ+r3))) 1)+(1:Int))) r3) else (aG.l4 m aw a0 m0 b0 aQ k fQ (i64.wrap (jb .u64 (u64.wrap (i64.wrap (fQ+r3))) 1)))) else (some ((fQ,r3)))
def aG.b (m:Nat)(rec:(List Int)→Int→Int→Int→(Int→Int→Option (Int))→Option ((List Int)))(aw:List Int)(a0:Int)(m0:Int)(b0:Int)(aQ:Int→Int→Option (Int)):Option ((List Int)):=if ((i64.wrap (m0 - a0))==(1:Int))=true then ((aG.l0 m aw a0 aQ m m0 b0).bind fun bZ=>match bZ with | (i1,j1)=>(aG.l1 m i1 m aw a0).bind fun dq=>match dq with | (cY,k1)=>some cY) else (if ((i64.wrap (b0 - m0))==(1:Int))=true then ((aG.l2 m aw m0 aQ m a0 m0).bind fun mu=>match mu with | (i3,j3)=>(aG.l3 m i3 m aw m0).bind fun Eh=>match Eh with | (jh,k3)=>some jh) else (jn (fun (σ:Int × Int)=>match σ with | (sk,r2)=>(aG.l4 m aw a0 m0 b0 aQ m sk r2).bind fun de=>match de with | (eP,r5)=>jn (fun (σ:(List Int))=>match σ with | kG=>jn (fun (σ:(List Int))=>match σ with | oF=>if (decide ((i64.wrap (jb .u64 (u64.wrap (i64.wrap (a0+b0))) 1))<(i64.wrap (i64.wrap (i64.wrap (jb .u64 (u64.wrap (i64.wrap (a0+b0))) 1)+m0) - eP))))=true then (if (decide ((i64.wrap (i64.wrap (i64.wrap (jb .u64 (u64.wrap (i64.wrap (a0+b0))) 1)+m0) - eP))<b0))=true then ((rec oF (i64.wrap (jb .u64 (u64.wrap (i64.wrap (a0+b0))) 1)) (i64.wrap (i64.wrap (i64.wrap (jb .u64 (u64.wrap (i64.wrap (a0+b0))) 1)+m0) - eP)) b0 aQ).bind fun x2=>some x2) else (some oF)) else (some oF)) fun sm=>(if (decide (a0<eP))=true then (if (decide (eP<(i64.wrap (jb .u64 (u64.wrap (i64.wrap (a0+b0))) 1))))=true then ((rec kG a0 eP (i64.wrap (jb .u64 (u64.wrap (i64.wrap (a0+b0))) 1)) aQ).bind fun x1=>sm x1) else (sm kG)) else (sm kG))) fun Le=>(if (decide (eP<m0))=true then (if (decide (m0<(i64.wrap (i64.wrap (i64.wrap (jb .u64 (u64.wrap (i64.wrap (a0+b0))) 1)+m0) - eP))))=true then ((eL.f m aw eP m0 (i64.wrap (i64.wrap (i64.wrap (jb .u64 (u64.wrap (i64.wrap (a0+b0))) 1)+m0) - eP)) aQ).bind fun x0=>Le x0) else (Le aw)) else (Le aw))) fun sX=>(if (decide (m0 > (i64.wrap (jb .u64 (u64.wrap (i64.wrap (a0+b0))) 1))))=true then (sX (i64.wrap (i64.wrap (i64.wrap (jb .u64 (u64.wrap (i64.wrap (a0+b0))) 1)+m0) - b0),i64.wrap (jb .u64 (u64.wrap (i64.wrap (a0+b0))) 1))) else (sX (a0,m0)))))
def aG.f (m:Nat):Nat→(List Int)→Int→Int→Int→(Int→Int→Option (Int))→Option ((List Int))
 | 0,_,_,_,_,_=>none
 | k+1,aw,a0,m0,b0,aQ=>aG.b m (aG.f m k) aw a0 m0 b0 aQ
def aG.fin (L:Mem)(aJ:Nat)(aw:List Int)(a0:Int)(m0:Int)(b0:Int)(aQ:Int→Int→Option (Int))(r:(List Int))(s:St):Prop:=aM Try.prog (s.open lg) Try.f106.results.toList=some (.tup [])∧Has s.h ((aJ,.sl aw.length 1 (af.l r))::L)
def tc (cf:CallF)(m:Nat)(kk:Nat):Prop:=∀(aw:List Int) (a0:Int) (m0:Int) (b0:Int) (aQ:Int→Int→Option (Int)) (r:(List Int)),aG.f m kk aw a0 m0 b0 aQ=some r→∀h L (cg:Nat) (aJ:Nat),Has h ((aJ,.sl cg 1 (af.l aw))::L)→∀(eC:FuncId) (aZ aS:List AV),(aK (.fn eC aZ) = .fn eC aZ)→(∀(h:AHeap) (xs:List AV) (a0:Int) (a1:Int) r,aQ a0 a1=some r→aO bO h xs ([.int .i64 a0,.int .i64 a1]++aS)→cf eC xs h=some (.int .i64 r,h))→(∀h K,Has h (K++(L))→aO cw h aZ aS)→(∀h,aO cw h aS aS)→∀xs,xs.map aK=[.rs aJ 0 cg 1,.int .i64 a0,.int .i64 m0,.int .i64 b0,.fn eC aZ]→∃h',cf 106 xs h=some (.tup [],h')∧Has h' ((aJ,.sl cg 1 (af.l r))::L)
section
variable {cf:CallF}{m:Nat}
theorem aG.dm (L:Mem)(aJ:Nat)(eC:FuncId)(aZ aS:List AV)(aw:List Int)(a0:Int)(m0:Int)(b0:Int)(aQ:Int→Int→Option (Int))  {kk:Nat}(iF:tc cf m kk)(gE:aK (.fn eC aZ) = .fn eC aZ)(gY:∀(h:AHeap) (xs:List AV) (a0:Int) (a1:Int) r,aQ a0 a1=some r→aO bO h xs ([.int .i64 a0,.int .i64 a1]++aS)→cf eC xs h=some (.int .i64 r,h))(gZ:∀h K,Has h (K++(L))→aO cw h aZ aS)(iE:∀h,aO cw h aS aS)  : dS Try.prog cf lg m (sub [0,1,0,1,1,0,0,0] (b8 Try.f106)) (fun k (σ:Int × Int)=>aG.l0 m aw a0 aQ k σ.1 σ.2) (fun σ s=>match σ with | (i0,j0)=>∃h0,s=⟨.rs aJ 0 aw.length 1 :: .int .i64 a0 :: .any :: .any :: .fn eC aZ :: .int .i64 i0 :: .int .i64 j0::Nr [],[],h0⟩∧Has h0 ((aJ,.sl aw.length 1 (af.l aw))::L)) (fun out e s=>(e = .exit 0∧∃i0 j0,(i0,j0)=out∧∃IU D7 Oh h0,s=⟨.rs aJ 0 aw.length 1 :: .int .i64 a0 :: .any :: .any::IU :: .int .i64 i0::D7::u7 (Oh::u6 []),[],h0⟩∧Has h0 ((aJ,.sl aw.length 1 (af.l aw))::L))):=by
 refine me (fun _=>rfl) ?_
 rintro k ⟨i0,j0⟩ s out ⟨h0,rfl,o0⟩ H
 have H:aG.l0 m aw a0 aQ (k+1) i0 j0=some out:=H
 refine qq <| qq <| q0 <| qc H (fun c1 H=>?_) (fun c1 H=>?_)
 ·refine qk <| qb 1 <| qq <| q0 <| qq ?_
  obtain⟨v0,e0,H⟩:=bj H
  obtain⟨v1,e1,H⟩:=bj H
  obtain⟨r0,e2,H⟩:=bj H
  refine qr [.v 3 (bo (k:=.i64) (E:=af) (l:=aw) (q:=0) fU o0 rfl e0),.v 4 (dB  (E:=af) (l:=aw) (q:=0) o0 rfl A3 e0 rfl),.v 7 (bo (k:=.i64) (E:=af) (l:=aw) (q:=0) fU o0 rfl e1),.v 8 (dB  (E:=af) (l:=aw) (q:=0) o0 rfl A3 e1 rfl),.a 9 (gY _ _ _ _ _ e2 (Hq (ah (bz) (ah (bz) (ay))) (gZ h0 [(aJ,.sl aw.length 1 (af.l aw))] o0)))] <| qc H (fun c2 H=>?_) (fun c2 H=>?_)
  ·exact q0 <| ⟨(i64.wrap (i64.wrap (jb .u64 (u64.wrap (i64.wrap (i0+j0))) 1)+(1:Int)),j0),⟨h0,by kernel_rfl,o0⟩,H⟩
  ·exact q0 <| ⟨(i0,i64.wrap (jb .u64 (u64.wrap (i64.wrap (i0+j0))) 1)),⟨h0,by kernel_rfl,o0⟩,H⟩
 ·exact qx 0 <| ⟨rfl,i0,j0,oi H,.fn eC aZ,.int .i64 j0,.bool (decide (i0<j0)),h0,by kernel_rfl,o0⟩
theorem aG.mj (L:Mem)(aJ:Nat)(eC:FuncId)(aZ aS:List AV)(aw:List Int)(a0:Int)(m0:Int)(b0:Int)(aQ:Int→Int→Option (Int))(i1:Int)  {kk:Nat}(iF:tc cf m kk)(gE:aK (.fn eC aZ) = .fn eC aZ)(gY:∀(h:AHeap) (xs:List AV) (a0:Int) (a1:Int) r,aQ a0 a1=some r→aO bO h xs ([.int .i64 a0,.int .i64 a1]++aS)→cf eC xs h=some (.int .i64 r,h))(gZ:∀h K,Has h (K++(L))→aO cw h aZ aS)(iE:∀h,aO cw h aS aS)  : dS Try.prog cf lg m (sub [0,1,0,1,1,1,0,1,0,0] (b8 Try.f106)) (fun k (σ:(List Int) × Int)=>aG.l1 m i1 k σ.1 σ.2) (fun σ s=>match σ with | (bl,k0)=>∃h2,s=⟨.rs aJ 0 aw.length 1::nh (.int .i64 i1 :: .any :: .any :: .int .i64 k0::Nq []),[],h2⟩∧Has h2 ((aJ,.sl aw.length 1 (af.l bl))::L)) (fun out e s=>(e = .exit 2∧∃bl k0,(bl,k0)=out∧∃oz yO vf Oi h2,s=⟨oz::nh (yO :: .any :: .any::vf::u7 (Oi::KG [])),[],h2⟩∧Has h2 ((aJ,.sl aw.length 1 (af.l bl))::L))):=by
 refine me (fun _=>rfl) ?_
 rintro k ⟨bl,k0⟩ s out ⟨h2,rfl,o2⟩ H
 have H:aG.l1 m i1 (k+1) bl k0=some out:=H
 refine qq <| qq <| q0 <| qc H (fun c3 H=>?_) (fun c3 H=>?_)
 ·refine qk <| qq <| qb 3 ?_
  obtain⟨v2,e4,H⟩:=bj H
  obtain⟨v3,e5,H⟩:=bj H
  obtain⟨v4,e6,H⟩:=bj H
  obtain⟨h3,e7,o3⟩:=fw (P:=Try.prog) (tf:=3) (E:=af) (l:=bl) (q:=0) (v:=v2) (x:=.int .i64 v2) o2 rfl Z3 e6 rfl rfl
  obtain⟨v5,e8,H⟩:=bj H
  obtain⟨h4,e9,o4⟩:=fw (P:=Try.prog) (tf:=3) (E:=af) (l:=(bl.set k0.toNat v2)) (q:=0) (v:=v3) (x:=.int .i64 v3) o3 rfl Z3 e8 rfl rfl
  exact qr [.v 8 (bo (k:=.i64) (E:=af) (l:=bl) (q:=0) fU o2 rfl e4),.v 9 (dB  (E:=af) (l:=bl) (q:=0) o2 rfl A3 e4 rfl),.v 12 (bo (k:=.i64) (E:=af) (l:=bl) (q:=0) fU o2 rfl e5),.v 13 (dB  (E:=af) (l:=bl) (q:=0) o2 rfl A3 e5 rfl),.v 14 (bo (k:=.i64) (E:=af) (l:=bl) (q:=0) fU o2 rfl e6),.w 15 e7,.v 16 (bo (k:=.i64) (E:=af) (l:=(bl.set k0.toNat v2)) (q:=0) fU o3 rfl e8),.w 17 e9] <| q0 <| ⟨((bl.set k0.toNat v2).set (i64.wrap (k0+(1:Int))).toNat v3,i64.wrap (k0+(1:Int))),⟨h4,by kernel_rfl,o4⟩,H⟩
 ·exact qx 2 <| ⟨rfl,bl,k0,oi H,.rs aJ 0 aw.length 1,.int .i64 i1,.int .i64 k0,.bool (decide (k0<(i64.wrap (i1 - (1:Int))))),h2,by kernel_rfl,o2⟩
theorem aG.so (L:Mem)(aJ:Nat)(eC:FuncId)(aZ aS:List AV)(aw:List Int)(a0:Int)(m0:Int)(b0:Int)(aQ:Int→Int→Option (Int))  {kk:Nat}(iF:tc cf m kk)(gE:aK (.fn eC aZ) = .fn eC aZ)(gY:∀(h:AHeap) (xs:List AV) (a0:Int) (a1:Int) r,aQ a0 a1=some r→aO bO h xs ([.int .i64 a0,.int .i64 a1]++aS)→cf eC xs h=some (.int .i64 r,h))(gZ:∀h K,Has h (K++(L))→aO cw h aZ aS)(iE:∀h,aO cw h aS aS)  : dS Try.prog cf lg m (sub [1,0,1,0,1,1,0,0,0] (b8 Try.f106)) (fun k (σ:Int × Int)=>aG.l2 m aw m0 aQ k σ.1 σ.2) (fun σ s=>match σ with | (i2,j2)=>∃h6,s=⟨.rs aJ 0 aw.length 1 :: .any :: .int .i64 m0 :: .any :: .fn eC aZ::nh (.int .i64 i2 :: .int .i64 j2::Np []),[],h6⟩∧Has h6 ((aJ,.sl aw.length 1 (af.l aw))::L)) (fun out e s=>(e = .exit 4∧∃i2 j2,(i2,j2)=out∧∃IU IV Oj h6,s=⟨.rs aJ 0 aw.length 1 :: .any :: .int .i64 m0 :: .any::IU::nh (.int .i64 i2::IV::u7 (Oj::BS [])),[],h6⟩∧Has h6 ((aJ,.sl aw.length 1 (af.l aw))::L))):=by
 refine me (fun _=>rfl) ?_
 rintro k ⟨i2,j2⟩ s out ⟨h6,rfl,o6⟩ H
 have H:aG.l2 m aw m0 aQ (k+1) i2 j2=some out:=H
 refine qq <| qq <| q0 <| qc H (fun c5 H=>?_) (fun c5 H=>?_)
 ·refine qk <| qb 5 <| qq <| q0 <| qq ?_
  obtain⟨v6,tS,H⟩:=bj H
  obtain⟨v7,vI,H⟩:=bj H
  obtain⟨r1,xT,H⟩:=bj H
  refine qr [.v 3 (bo (k:=.i64) (E:=af) (l:=aw) (q:=0) fU o6 rfl tS),.v 4 (dB  (E:=af) (l:=aw) (q:=0) o6 rfl A3 tS rfl),.v 7 (bo (k:=.i64) (E:=af) (l:=aw) (q:=0) fU o6 rfl vI),.v 8 (dB  (E:=af) (l:=aw) (q:=0) o6 rfl A3 vI rfl),.a 9 (gY _ _ _ _ _ xT (Hq (ah (bz) (ah (bz) (ay))) (gZ h6 [(aJ,.sl aw.length 1 (af.l aw))] o6)))] <| qc H (fun c6 H=>?_) (fun c6 H=>?_)
  ·exact q0 <| ⟨(i64.wrap (i64.wrap (jb .u64 (u64.wrap (i64.wrap (i2+j2))) 1)+(1:Int)),j2),⟨h6,by kernel_rfl,o6⟩,H⟩
  ·exact q0 <| ⟨(i2,i64.wrap (jb .u64 (u64.wrap (i64.wrap (i2+j2))) 1)),⟨h6,by kernel_rfl,o6⟩,H⟩
 ·exact qx 4 <| ⟨rfl,i2,j2,oi H,.fn eC aZ,.int .i64 j2,.bool (decide (i2<j2)),h6,by kernel_rfl,o6⟩
theorem aG.Ei (L:Mem)(aJ:Nat)(eC:FuncId)(aZ aS:List AV)(aw:List Int)(a0:Int)(m0:Int)(b0:Int)(aQ:Int→Int→Option (Int))(i3:Int)  {kk:Nat}(iF:tc cf m kk)(gE:aK (.fn eC aZ) = .fn eC aZ)(gY:∀(h:AHeap) (xs:List AV) (a0:Int) (a1:Int) r,aQ a0 a1=some r→aO bO h xs ([.int .i64 a0,.int .i64 a1]++aS)→cf eC xs h=some (.int .i64 r,h))(gZ:∀h K,Has h (K++(L))→aO cw h aZ aS)(iE:∀h,aO cw h aS aS)  : dS Try.prog cf lg m (sub [1,0,1,0,1,1,1,0,1,0,0] (b8 Try.f106)) (fun k (σ:(List Int) × Int)=>aG.l3 m i3 k σ.1 σ.2) (fun σ s=>match σ with | (dE,k2)=>∃h8,s=⟨.rs aJ 0 aw.length 1::BS (.int .i64 i3 :: .any :: .any :: .int .i64 k2::No []),[],h8⟩∧Has h8 ((aJ,.sl aw.length 1 (af.l dE))::L)) (fun out e s=>(e = .exit 6∧∃dE k2,(dE,k2)=out∧∃oz DY Ol Lf h8,s=⟨oz::BS (DY :: .any :: .any::Ol::u7 (Lf::wS [])),[],h8⟩∧Has h8 ((aJ,.sl aw.length 1 (af.l dE))::L))):=by
 refine me (fun _=>rfl) ?_
 rintro k ⟨dE,k2⟩ s out ⟨h8,rfl,o8⟩ H
 have H:aG.l3 m i3 (k+1) dE k2=some out:=H
 refine qq <| qq <| q0 <| qc H (fun c7 H=>?_) (fun c7 H=>?_)
 ·refine qk <| qq <| qb 7 ?_
  obtain⟨v8,yP,H⟩:=bj H
  obtain⟨v9,Ec,H⟩:=bj H
  obtain⟨v10,Ed,H⟩:=bj H
  obtain⟨h9,GA,o9⟩:=fw (P:=Try.prog) (tf:=3) (E:=af) (l:=dE) (q:=0) (v:=v8) (x:=.int .i64 v8) o8 rfl Z3 Ed rfl rfl
  obtain⟨v11,CF,H⟩:=bj H
  obtain⟨h10,FB,xd⟩:=fw (P:=Try.prog) (tf:=3) (E:=af) (l:=(dE.set k2.toNat v8)) (q:=0) (v:=v9) (x:=.int .i64 v9) o9 rfl Z3 CF rfl rfl
  exact qr [.v 8 (bo (k:=.i64) (E:=af) (l:=dE) (q:=0) fU o8 rfl yP),.v 9 (dB  (E:=af) (l:=dE) (q:=0) o8 rfl A3 yP rfl),.v 12 (bo (k:=.i64) (E:=af) (l:=dE) (q:=0) fU o8 rfl Ec),.v 13 (dB  (E:=af) (l:=dE) (q:=0) o8 rfl A3 Ec rfl),.v 14 (bo (k:=.i64) (E:=af) (l:=dE) (q:=0) fU o8 rfl Ed),.w 15 GA,.v 16 (bo (k:=.i64) (E:=af) (l:=(dE.set k2.toNat v8)) (q:=0) fU o9 rfl CF),.w 17 FB] <| q0 <| ⟨((dE.set k2.toNat v8).set (i64.wrap (k2 - (1:Int))).toNat v9,i64.wrap (k2 - (1:Int))),⟨h10,by kernel_rfl,xd⟩,H⟩
 ·exact qx 6 <| ⟨rfl,dE,k2,oi H,.rs aJ 0 aw.length 1,.int .i64 i3,.int .i64 k2,.bool (decide (k2 > i3)),h8,by kernel_rfl,o8⟩
theorem aG.Ej (L:Mem)(aJ:Nat)(eC:FuncId)(aZ aS:List AV)(aw:List Int)(a0:Int)(m0:Int)(b0:Int)(aQ:Int→Int→Option (Int))  {kk:Nat}(iF:tc cf m kk)(gE:aK (.fn eC aZ) = .fn eC aZ)(gY:∀(h:AHeap) (xs:List AV) (a0:Int) (a1:Int) r,aQ a0 a1=some r→aO bO h xs ([.int .i64 a0,.int .i64 a1]++aS)→cf eC xs h=some (.int .i64 r,h))(gZ:∀h K,Has h (K++(L))→aO cw h aZ aS)(iE:∀h,aO cw h aS aS)  : dS Try.prog cf lg m (sub [1,1,1,1,1,1,1,0,0,0] (b8 Try.f106)) (fun k (σ:Int × Int)=>aG.l4 m aw a0 m0 b0 aQ k σ.1 σ.2) (fun σ s=>match σ with | (fQ,r3)=>∃h13,s=⟨.rs aJ 0 aw.length 1 :: .int .i64 a0 :: .int .i64 m0 :: .int .i64 b0 :: .fn eC aZ::BS (.int .i64 (i64.wrap (jb .u64 (u64.wrap (i64.wrap (a0+b0))) 1)) :: .int .i64 (i64.wrap (i64.wrap (jb .u64 (u64.wrap (i64.wrap (a0+b0))) 1)+m0)) :: .int .i64 fQ :: .int .i64 r3 :: .int .i64 (i64.wrap (i64.wrap (i64.wrap (jb .u64 (u64.wrap (i64.wrap (a0+b0))) 1)+m0) - (1:Int)))::Gf []),[],h13⟩∧Has h13 ((aJ,.sl aw.length 1 (af.l aw))::L)) (fun out e s=>(e = .exit 8∧∃fQ r3,(fQ,r3)=out∧∃Om Eb Lg h13,s=⟨.rs aJ 0 aw.length 1 :: .int .i64 a0 :: .int .i64 m0 :: .int .i64 b0 :: .fn eC aZ::BS (.int .i64 (i64.wrap (jb .u64 (u64.wrap (i64.wrap (a0+b0))) 1)) :: .int .i64 (i64.wrap (i64.wrap (jb .u64 (u64.wrap (i64.wrap (a0+b0))) 1)+m0)) :: .int .i64 fQ::Om::Eb::sV (Lg::nh [])),[],h13⟩∧Has h13 ((aJ,.sl aw.length 1 (af.l aw))::L))):=by
 refine me (fun _=>rfl) ?_
 rintro k ⟨fQ,r3⟩ s out ⟨h13,rfl,s8⟩ H
 have H:aG.l4 m aw a0 m0 b0 aQ (k+1) fQ r3=some out:=H
 refine qq <| qq <| q0 <| qc H (fun c9 H=>?_) (fun c9 H=>?_)
 ·refine qk <| qb 9 <| qq <| q0 <| qq ?_
  obtain⟨v12,Hu,H⟩:=bj H
  obtain⟨Mc,Hv,H⟩:=bj H
  obtain⟨r4,IN,H⟩:=bj H
  refine qr [.v 5 (bo (k:=.i64) (E:=af) (l:=aw) (q:=0) fU s8 rfl Hu),.v 6 (dB  (E:=af) (l:=aw) (q:=0) s8 rfl A3 Hu rfl),.v 9 (bo (k:=.i64) (E:=af) (l:=aw) (q:=0) fU s8 rfl Hv),.v 10 (dB  (E:=af) (l:=aw) (q:=0) s8 rfl A3 Hv rfl),.a 11 (gY _ _ _ _ _ IN (Hq (ah (bz) (ah (bz) (ay))) (gZ h13 [(aJ,.sl aw.length 1 (af.l aw))] s8)))] <| qc H (fun Gx H=>?_) (fun Gx H=>?_)
  ·exact q0 <| ⟨(i64.wrap (i64.wrap (jb .u64 (u64.wrap (i64.wrap (fQ+r3))) 1)+(1:Int)),r3),⟨h13,by kernel_rfl,s8⟩,H⟩
  ·exact q0 <| ⟨(fQ,i64.wrap (jb .u64 (u64.wrap (i64.wrap (fQ+r3))) 1)),⟨h13,by kernel_rfl,s8⟩,H⟩
 ·exact qx 8 <| ⟨rfl,fQ,r3,oi H,.int .i64 r3,.int .i64 (i64.wrap (i64.wrap (i64.wrap (jb .u64 (u64.wrap (i64.wrap (a0+b0))) 1)+m0) - (1:Int))),.bool (decide (fQ<r3)),h13,by kernel_rfl,s8⟩
theorem sq {aV:FuncId→bX}(ha:aV 106=lg)(Lh:KZ cf m)(aw:List Int)(a0:Int)(m0:Int)(b0:Int)(aQ:Int→Int→Option (Int))(h:AHeap)(L:Mem)(aJ:Nat)(eC:FuncId)(aZ aS:List AV)  {kk:Nat}(iF:tc cf m kk)(gE:aK (.fn eC aZ) = .fn eC aZ)(gY:∀(h:AHeap) (xs:List AV) (a0:Int) (a1:Int) r,aQ a0 a1=some r→aO bO h xs ([.int .i64 a0,.int .i64 a1]++aS)→cf eC xs h=some (.int .i64 r,h))(gZ:∀h K,Has h (K++(L))→aO cw h aZ aS)(iE:∀h,aO cw h aS aS)(o:Has h ((aJ,.sl aw.length 1 (af.l aw))::L)){out:(List Int)}(H:aG.f m (kk+1) aw a0 m0 b0 aQ=some out) :
  ∃r h',a7 Try.prog aV cf m 106 [.rs aJ 0 aw.length 1,.int .i64 a0,.int .i64 m0,.int .i64 b0,.fn eC aZ] h=some (r,h')∧r = .tup []∧Has h' ((aJ,.sl aw.length 1 (af.l out))::L):=by
 refine au (fn:=Try.f106) ha Try.func106 (by kernel_rfl) (by kernel_rfl) ?_
 refine aH (Q:=fun s=>aG.fin L aJ aw a0 m0 b0 aQ out s) (fun _ _ ⟨h1,h2,h3⟩=>⟨h1,_,h2,rfl,h3⟩) ?_
 have H:aG.b m (aG.f m kk) aw a0 m0 b0 aQ=some out:=H
 unfold aG.b at H
 show dj _ cf lg m _ ⟨.rs aJ 0 aw.length 1 :: .int .i64 a0 :: .int .i64 m0 :: .int .i64 b0 :: .fn eC aZ::Ns [],[],h⟩ _
 refine qq <| qq <| q0 <| qc H (fun c0 H=>?_) (fun c0 H=>?_)
 ·refine q1 <| qq <| q0 <| qq <| qb 0 ?_
  obtain⟨bZ,e3,H⟩:=bj H
  refine ql (aG.dm L aJ eC aZ aS aw a0 m0 b0 aQ  iF gE gY gZ iE  (m0,b0) _ _ ⟨h,by kernel_rfl,o⟩ e3) ?_
  rintro e s ⟨rfl,i1,j1,rfl,g0,g1,g2,h1,rfl,o1⟩
  try dsimp only at H
  refine qq <| qq <| q0 <| qb 2 ?_
  obtain⟨dq,sY,H⟩:=bj H
  refine ql (aG.mj L aJ eC aZ aS aw a0 m0 b0 aQ i1  iF gE gY gZ iE  (aw,a0) _ _ ⟨h1,by kernel_rfl,o1⟩ sY) ?_
  rintro e s ⟨rfl,cY,k1,rfl,g3,g4,g5,g6,h5,rfl,o5⟩
  try dsimp only at H
  obtain rfl:=oi H
  exact qt <| ⟨.inl rfl,⟨by kernel_rfl,he o5⟩⟩
 ·refine qk <| qq <| qq <| q0 <| qc H (fun c4 H=>?_) (fun c4 H=>?_)
  ·refine q1 <| qq <| q0 <| qq <| qb 4 ?_
   obtain⟨mu,Ad,H⟩:=bj H
   refine ql (aG.so L aJ eC aZ aS aw a0 m0 b0 aQ  iF gE gY gZ iE  (a0,m0) _ _ ⟨h,by kernel_rfl,o⟩ Ad) ?_
   rintro e s ⟨rfl,i3,j3,rfl,g7,g8,g9,h7,rfl,o7⟩
   try dsimp only at H
   refine qq <| qq <| q0 <| qb 6 ?_
   obtain⟨Eh,FC,H⟩:=bj H
   refine ql (aG.Ei L aJ eC aZ aS aw a0 m0 b0 aQ i3  iF gE gY gZ iE  (aw,m0) _ _ ⟨h7,by kernel_rfl,o7⟩ FC) ?_
   rintro e s ⟨rfl,jh,k3,rfl,g10,g11,g12,g13,h11,rfl,CG⟩
   try dsimp only at H
   obtain rfl:=oi H
   exact qt <| ⟨.inl rfl,⟨by kernel_rfl,he CG⟩⟩
  ·refine qk <| qq <| q0 <| qq <| q0 <| qq <| q0 ?_
   obtain⟨sX,D0,H⟩:=mN H
   refine qj (S:=fun (σ:Int × Int) s=>match σ with | (sk,r2)=>∃(h12:AHeap),s=⟨.rs aJ 0 aw.length 1 :: .int .i64 a0 :: .int .i64 m0 :: .int .i64 b0 :: .fn eC aZ::BS (.int .i64 (i64.wrap (jb .u64 (u64.wrap (i64.wrap (a0+b0))) 1)) :: .int .i64 (i64.wrap (i64.wrap (jb .u64 (u64.wrap (i64.wrap (a0+b0))) 1)+m0)) :: .int .i64 sk :: .int .i64 r2::Nl []),[],h12⟩∧Has h12 ((aJ,.sl aw.length 1 (af.l aw))::L)) sX H ?_ ?_
   ·rintro⟨sk,r2⟩ s ⟨h12,rfl,CH⟩ H
    have H:=(D0 _).symm.trans H
    try dsimp only at H
    refine q1 <| qq <| qb 8 ?_
    obtain⟨de,Hw,H⟩:=bj H
    refine ql (aG.Ej L aJ eC aZ aS aw a0 m0 b0 aQ  iF gE gY gZ iE  (sk,r2) _ _ ⟨h12,by kernel_rfl,CH⟩ Hw) ?_
    rintro e s ⟨rfl,eP,r5,rfl,g14,g15,g16,h14,rfl,s9⟩
    try dsimp only at H
    refine q1 ?_
    obtain⟨Le,Md,H⟩:=mN H
    refine qj (S:=fun (σ:(List Int)) s=>match σ with | kG=>∃(g17:AV) (g18:AV) (h16:AHeap),s=⟨.rs aJ 0 aw.length 1 :: .int .i64 a0::g17 :: .int .i64 b0 :: .fn eC aZ::BS (.int .i64 (i64.wrap (jb .u64 (u64.wrap (i64.wrap (a0+b0))) 1)) :: .any :: .int .i64 eP::sJ (.int .i64 (i64.wrap (i64.wrap (i64.wrap (jb .u64 (u64.wrap (i64.wrap (a0+b0))) 1)+m0) - eP))::sV [g18,.any,.any])),[],h16⟩∧Has h16 ((aJ,.sl aw.length 1 (af.l kG))::L)) Le H ?_ ?_
    ·rintro kG s ⟨g17,g18,h16,rfl,yT⟩ H
     have H:=(Md _).symm.trans H
     try dsimp only at H
     obtain⟨sm,Fv,H⟩:=mN H
     refine qj (S:=fun (σ:(List Int)) s=>match σ with | oF=>∃(g19:AV) (g20:AV) (g21:AV) (h18:AHeap),s=⟨.rs aJ 0 aw.length 1::g19 :: .any :: .int .i64 b0 :: .fn eC aZ::BS (.int .i64 (i64.wrap (jb .u64 (u64.wrap (i64.wrap (a0+b0))) 1)) :: .any::g20::sJ (.int .i64 (i64.wrap (i64.wrap (i64.wrap (jb .u64 (u64.wrap (i64.wrap (a0+b0))) 1)+m0) - eP))::u6 [g21,.any])),[],h18⟩∧Has h18 ((aJ,.sl aw.length 1 (af.l oF))::L)) sm H ?_ ?_
     ·rintro oF s ⟨g19,g20,g21,h18,rfl,CI⟩ H
      have H:=(Fv _).symm.trans H
      try dsimp only at H
      refine qq ?_
      rcases iG H with⟨IS,H⟩| ⟨IS,H⟩
      ·refine qr [.b 3 IS] <| qc H (fun Sr H=>?_) (fun Sr H=>?_)
       ·obtain⟨x2,Me,H⟩:=bj H
        obtain⟨h19,Mf,B5⟩:=iF _ _ _ _ _ _ Me h18 _ _ _ (CI) eC aZ aS gE gY (fun h' K' o'=>gZ h' (K'++[]) (by simpa only [UK,U6,U7] using o')) iE [.rs aJ 0 aw.length 1,.int .i64 (i64.wrap (jb .u64 (u64.wrap (i64.wrap (a0+b0))) 1)),.int .i64 (i64.wrap (i64.wrap (i64.wrap (jb .u64 (u64.wrap (i64.wrap (a0+b0))) 1)+m0) - eP)),.int .i64 b0,.fn eC aZ] (ar (rfl) (ar (aL (bh)) (ar (aL (bh)) (ar (aL (bh)) (ar (gE) (bE))))))
        obtain rfl:=oi H
        exact qr [.a 5 Mf] <| ⟨.inr rfl,⟨by kernel_rfl,he B5⟩⟩
       ·obtain rfl:=oi H
        exact qk <| ⟨.inr rfl,⟨by kernel_rfl,he CI⟩⟩
      ·obtain rfl:=oi H
       exact qr [.b 3 IS] <| DJ <| qk <| ⟨.inr rfl,⟨by kernel_rfl,he CI⟩⟩
     clear Fv
     intro IW
     refine qq ?_
     rcases iG H with⟨D4,H⟩| ⟨D4,H⟩
     ·refine qr [.b 3 D4] <| qc H (fun Og H=>?_) (fun Og H=>?_)
      ·obtain⟨x1,On,H⟩:=bj H
       obtain⟨h17,Mg,Ek⟩:=iF _ _ _ _ _ _ On h16 _ _ _ (yT) eC aZ aS gE gY (fun h' K' o'=>gZ h' (K'++[]) (by simpa only [UK,U6,U7] using o')) iE [.rs aJ 0 aw.length 1,.int .i64 a0,.int .i64 eP,.int .i64 (i64.wrap (jb .u64 (u64.wrap (i64.wrap (a0+b0))) 1)),.fn eC aZ] (ar (rfl) (ar (aL (bh)) (ar (aL (bh)) (ar (aL (bh)) (ar (gE) (bE))))))
       exact qr [.a 5 Mg] <| IW x1 _ ⟨.any,.any,.any,h17,by kernel_rfl,Ek⟩ H
      ·exact qk <| IW kG _ ⟨.int .i64 a0,.int .i64 eP,.bool (decide (eP<(i64.wrap (jb .u64 (u64.wrap (i64.wrap (a0+b0))) 1)))),h16,by kernel_rfl,yT⟩ H
     ·exact qr [.b 3 D4] <| DJ <| qk <| IW kG _ ⟨.int .i64 a0,.int .i64 eP,.bool false,h16,by kernel_rfl,yT⟩ H
    clear Md
    intro IX
    refine qq ?_
    rcases iG H with⟨yL,H⟩| ⟨yL,H⟩
    ·refine qr [.b 3 yL] <| qc H (fun D3 H=>?_) (fun D3 H=>?_)
     ·obtain⟨x0,JP,H⟩:=bj H
      obtain⟨h15,Oo,Ef⟩:=Lh _ _ _ _ _ _ JP h14 _ _ _ (s9) eC aZ aS gE gY (fun h' K' o'=>gZ h' (K'++[]) (by simpa only [UK,U6,U7] using o')) iE [.rs aJ 0 aw.length 1,.int .i64 eP,.int .i64 m0,.int .i64 (i64.wrap (i64.wrap (i64.wrap (jb .u64 (u64.wrap (i64.wrap (a0+b0))) 1)+m0) - eP)),.fn eC aZ] (ar (rfl) (ar (aL (bh)) (ar (aL (bh)) (ar (aL (bh)) (ar (gE) (bE))))))
      exact qr [.a 5 Oo] <| IX x0 _ ⟨.any,.any,h15,by kernel_rfl,Ef⟩ H
     ·exact qk <| IX aw _ ⟨.int .i64 m0,.bool (decide (m0<(i64.wrap (i64.wrap (i64.wrap (jb .u64 (u64.wrap (i64.wrap (a0+b0))) 1)+m0) - eP)))),h14,by kernel_rfl,s9⟩ H
    ·exact qr [.b 3 yL] <| DJ <| qk <| IX aw _ ⟨.int .i64 m0,.bool false,h14,by kernel_rfl,s9⟩ H
   clear D0
   intro pv
   refine q1 <| qc H (fun c8 H=>?_) (fun c8 H=>?_)
   ·exact q1 <| q0 <| pv (i64.wrap (i64.wrap (i64.wrap (jb .u64 (u64.wrap (i64.wrap (a0+b0))) 1)+m0) - b0),i64.wrap (jb .u64 (u64.wrap (i64.wrap (a0+b0))) 1)) _ ⟨h,by kernel_rfl,o⟩ H
   ·exact q1 <| q0 <| pv (a0,m0) _ ⟨h,by kernel_rfl,o⟩ H
end
end Go.Proofs.Ytifafejidnjckaa
namespace Go.Proofs.Ytifafejidnjckaa
open Go Go.R
open Go.IntKind (i64 u64 u8 u32)
def AD:bX:=gQ [0,1,2,6,7,8,9,10,17,27] [] [1016,984,728,999,830,446,1023,999,999] [(6,[(9,none,0)])] [(0,[(6,none,1)]),(3,[(6,none,1)]),(7,[(6,none,1)])]
def b7.f (m:Nat)(s0:ab)(a0:Int)(b0:Int):Option ((List Int) × Int × ab):=(bS.f m s0 ([a0,b0])).bind fun x0=>if (!(x0==(0:Int)))=true then (some (([]:List Int),x0,s0)) else ((az.f m s0 a0 b0).bind fun x1=>if (!x1.2.1)=true then ((bb.f m x1.2.2 x1.1).bind fun x2=>some (([]:List Int),(8:Int),x2)) else ((cr.f m x1.2.2 x1.1).bind fun x3=>some (x3,(0:Int),x1.2.2)))
def b7.fin (L:Mem)(ao:Nat)(ak:Nat)(an:Nat)(s0:ab)(a0:Int)(b0:Int)(r:(List Int) × Int × ab)(s:St):Prop:=∃eR aB aC:Nat,aM Try.prog (s.open AD) Try.f16.results.toList=some (.tup [.rs eR 0 r.1.length 1,.int .i64 r.2.1])∧Has s.h ((eR,.sl r.1.length 1 (af.l r.1))::(ao,.ob [.bool r.2.2.aj,.rs aB 0 r.2.2.aa.length 4,.rs aC 0 r.2.2.ae.length 1])::(aB,.sl r.2.2.aa.length 4 (ai.l r.2.2.aa))::(aC,.sl r.2.2.ae.length 1 (af.l r.2.2.ae))::L)
def Oq (cf:CallF)(m:Nat):Prop:=∀(s0:ab) (a0:Int) (b0:Int) (r:(List Int) × Int × ab),b7.f m s0 a0 b0=some r→∀h L (ao:Nat) (ak:Nat) (an:Nat),Has h ((ao,.ob [.bool s0.aj,.rs ak 0 s0.aa.length 4,.rs an 0 s0.ae.length 1])::(ak,.sl s0.aa.length 4 (ai.l s0.aa))::(an,.sl s0.ae.length 1 (af.l s0.ae))::L)→∀xs,xs.map aK=[.ptr ao 0,.int .i64 a0,.int .i64 b0]→∃eR aB aC h',cf 16 xs h=some (.tup [.rs eR 0 r.1.length 1,.int .i64 r.2.1],h')∧Has h' ((eR,.sl r.1.length 1 (af.l r.1))::(ao,.ob [.bool r.2.2.aj,.rs aB 0 r.2.2.aa.length 4,.rs aC 0 r.2.2.ae.length 1])::(aB,.sl r.2.2.aa.length 4 (ai.l r.2.2.aa))::(aC,.sl r.2.2.ae.length 1 (af.l r.2.2.ae))::L)
section
variable {cf:CallF}{m:Nat}
theorem lh {aV:FuncId→bX}(ha:aV 16=AD)(El:L8 cf m)(IY:N1 cf m)(IZ:NF cf m)(I0:N8 cf m)(s0:ab)(a0:Int)(b0:Int)(h:AHeap)(L:Mem)(ao:Nat)(ak:Nat)(an:Nat)  (o:Has h ((ao,.ob [.bool s0.aj,.rs ak 0 s0.aa.length 4,.rs an 0 s0.ae.length 1])::(ak,.sl s0.aa.length 4 (ai.l s0.aa))::(an,.sl s0.ae.length 1 (af.l s0.ae))::L)){out:(List Int) × Int × ab}(H:b7.f m s0 a0 b0=some out) :
  ∃r h',a7 Try.prog aV cf m 16 [.ptr ao 0,.int .i64 a0,.int .i64 b0] h=some (r,h')∧∃eR aB aC:Nat,r = .tup [.rs eR 0 out.1.length 1,.int .i64 out.2.1]∧Has h' ((eR,.sl out.1.length 1 (af.l out.1))::(ao,.ob [.bool out.2.2.aj,.rs aB 0 out.2.2.aa.length 4,.rs aC 0 out.2.2.ae.length 1])::(aB,.sl out.2.2.aa.length 4 (ai.l out.2.2.aa))::(aC,.sl out.2.2.ae.length 1 (af.l out.2.2.ae))::L):=by
 refine au (fn:=Try.f16) ha Try.func16 (by kernel_rfl) (by kernel_rfl) ?_
 refine aH (Q:=fun s=>b7.fin L ao ak an s0 a0 b0 out s) (fun _ _ ⟨h1,eR,aB,aC,h2,h3⟩=>⟨h1,_,h2,eR,aB,aC,rfl,h3⟩) ?_
 have H:_=some out:=H
 unfold b7.f at H
 show dj _ cf AD m _ ⟨.ptr ao 0 :: .int .i64 a0 :: .int .i64 b0::Ge [],[],h⟩ _
 refine q1 <| qq <| qq ?_
 obtain⟨x0,e0,H⟩:=bj H
 refine qr [.a 4 (El _ _ _ e0 h _ (gp (ah (dM (q:=0) o rfl (ah (eU) (ah (dW (E:=ai) (l:=s0.aa) (q:=1) o rfl (fun _=>rfl)) (ah (dW (E:=af) (l:=s0.ae) (q:=2) o rfl (fun _=>rfl)) (ay))))) (ah (rT (E:=af) (l:=[a0,b0]) (cs:=[.int .i64 a0,.int .i64 b0]) (b:=true) (by kernel_rfl) (by kernel_rfl) rfl) (ay)))))] <| qq <| q0 <| qc H (fun c0 H=>?_) (fun c0 H=>?_)
 ·refine q1 ?_
  have o0:Has h (((0),.sl (([]:List Int).length) 1 (af.l ([]:List Int)))::(ao,.ob [.bool s0.aj,.rs ak 0 s0.aa.length 4,.rs an 0 s0.ae.length 1])::(ak,.sl s0.aa.length 4 (ai.l s0.aa))::(an,.sl s0.ae.length 1 (af.l s0.ae))::L):=Has.nil o 1
  obtain rfl:=oi H
  exact qt <| ⟨.inl rfl,⟨(0),ak,an,by kernel_rfl,he o0⟩⟩
 ·refine qk <| qq ?_
  obtain⟨x1,e1,H⟩:=bj H
  obtain⟨aJ,dV,eM,h0,e2,o1⟩:=IY _ _ _ _ e1 h _ _ _ _ (o)  [.ptr ao 0,.int .i64 a0,.int .i64 b0] (ar (rfl) (ar (aL (bh)) (ar (aL (bh)) (bE))))
  refine qr [.a 3 e2] <| qq <| qq <| q0 <| qc H (fun c1 H=>?_) (fun c1 H=>?_)
  ·refine qq ?_
   obtain⟨h1,e3,o2⟩:=rS (E:=af) (l:=x1.1) (q:=0) o1 rfl
   obtain⟨x2,e4,H⟩:=bj H
   obtain⟨cZ,dZ,h2,e5,o3⟩:=IZ _ _ _ e4 h1 _ _ _ _ (o2)  [.ptr ao 0,af.fz x1.1] (ar (rfl) (ar (aL (ou (E:=af))) (bE)))
   refine KI [.a 0 e3] [.a 2 e5] <| qq <| q0 ?_
   have o4:Has h2 ((((0)),.sl (([]:List Int).length) 1 (af.l ([]:List Int)))::(ao,.ob [.bool x2.aj,.rs cZ 0 x2.aa.length 4,.rs dZ 0 x2.ae.length 1])::(cZ,.sl x2.aa.length 4 (ai.l x2.aa))::(dZ,.sl x2.ae.length 1 (af.l x2.ae))::L):=Has.nil o3 1
   obtain rfl:=oi H
   exact qt <| ⟨.inl rfl,⟨((0)),cZ,dZ,by kernel_rfl,he o4⟩⟩
  ·refine qk <| qq ?_
   obtain⟨x3,e6,H⟩:=bj H
   obtain⟨eS,h3,e7,o5,HP⟩:=I0 _ _ _ e6 h0 _ _ o1 (gp (ah (dM (q:=1) o1 rfl (ah (eU) (ah (dW (E:=ai) (l:=x1.2.2.aa) (q:=2) o1 rfl (fun _=>rfl)) (ah (dW (E:=af) (l:=x1.2.2.ae) (q:=3) o1 rfl (fun _=>rfl)) (ay))))) (ah (dW (E:=af) (l:=x1.1) (q:=0) o1 rfl (fun _=>rfl)) (ay))))
   refine qr [.a 2 e7] ?_
   have o6:Has h3 ((eS,.sl x3.length 1 (af.l x3))::(ao,.ob [.bool x1.2.2.aj,.rs dV 0 x1.2.2.aa.length 4,.rs eM 0 x1.2.2.ae.length 1])::(dV,.sl x1.2.2.aa.length 4 (ai.l x1.2.2.aa))::(eM,.sl x1.2.2.ae.length 1 (af.l x1.2.2.ae))::L):=Has.del o5 1
   obtain rfl:=oi H
   exact qt <| ⟨.inl rfl,⟨eS,dV,eM,by kernel_rfl,he o6⟩⟩
end
end Go.Proofs.Ytifafejidnjckaa
namespace Go.Proofs.Ytifafejidnjckaa
open Go Go.R
open Go.IntKind (i64 u64 u8 u32)
def jX.f (m:Nat)(s0:ab)(n0:Int):Option (aq × Int):=(bS.f m s0 ([n0])).bind fun x0=>if (!(x0==(0:Int)))=true then (some ((aq.mk (0:Int) (0:Int) (Vk #[]) ([]:List Int)),x0)) else ((ba.f m s0 n0).bind fun x1=>(gr.f m s0 x1).bind fun x2=>some (x2,(0:Int)))
end Go.Proofs.Ytifafejidnjckaa
namespace Go.Proofs.Ytifafejidnjckaa
open Go Go.R
open Go.IntKind (i64 u64 u8 u32)
def AE:bX:=gQ [0,1,2,6,7,8,9,10,11,12,19,34,37] [] [8184,8120,7096,8135,7806,7806,7423,5631,8135,3583,8135,8135] [(5,[(10,none,0)])] [(0,[(7,none,1)]),(3,[(7,none,1)]),(8,[(7,none,1)]),(10,[(7,none,1)])]
def dr.f (m:Nat)(s0:ab)(a0:Int)(b0:Int):Option (Int × (List Int) × Int × ab):=(bS.f m s0 ([a0,b0])).bind fun x0=>if (!(x0==(0:Int)))=true then (some ((0:Int),([]:List Int),x0,s0)) else ((az.f m s0 a0 b0).bind fun x1=>(bb.f m x1.2.2 x1.1).bind fun x2=>(cr.f m x2 x1.1).bind fun x3=>if (!x1.2.1)=true then (some ((0:Int),([]:List Int),(0:Int),x2)) else (if ((x3.length:Int)==(0:Int))=true then (some ((1:Int),([]:List Int),(0:Int),x2)) else (some ((-1:Int),x3,(0:Int),x2))))
def dr.fin (L:Mem)(ao:Nat)(ak:Nat)(an:Nat)(s0:ab)(a0:Int)(b0:Int)(r:Int × (List Int) × Int × ab)(s:St):Prop:=∃CJ aB aC:Nat,aM Try.prog (s.open AE) Try.f23.results.toList=some (.tup [.int .i64 r.1,.rs CJ 0 r.2.1.length 1,.int .i64 r.2.2.1])∧Has s.h ((CJ,.sl r.2.1.length 1 (af.l r.2.1))::(ao,.ob [.bool r.2.2.2.aj,.rs aB 0 r.2.2.2.aa.length 4,.rs aC 0 r.2.2.2.ae.length 1])::(aB,.sl r.2.2.2.aa.length 4 (ai.l r.2.2.2.aa))::(aC,.sl r.2.2.2.ae.length 1 (af.l r.2.2.2.ae))::L)
def Qs (cf:CallF)(m:Nat):Prop:=∀(s0:ab) (a0:Int) (b0:Int) (r:Int × (List Int) × Int × ab),dr.f m s0 a0 b0=some r→∀h L (ao:Nat) (ak:Nat) (an:Nat),Has h ((ao,.ob [.bool s0.aj,.rs ak 0 s0.aa.length 4,.rs an 0 s0.ae.length 1])::(ak,.sl s0.aa.length 4 (ai.l s0.aa))::(an,.sl s0.ae.length 1 (af.l s0.ae))::L)→∀xs,xs.map aK=[.ptr ao 0,.int .i64 a0,.int .i64 b0]→∃CJ aB aC h',cf 23 xs h=some (.tup [.int .i64 r.1,.rs CJ 0 r.2.1.length 1,.int .i64 r.2.2.1],h')∧Has h' ((CJ,.sl r.2.1.length 1 (af.l r.2.1))::(ao,.ob [.bool r.2.2.2.aj,.rs aB 0 r.2.2.2.aa.length 4,.rs aC 0 r.2.2.2.ae.length 1])::(aB,.sl r.2.2.2.aa.length 4 (ai.l r.2.2.2.aa))::(aC,.sl r.2.2.2.ae.length 1 (af.l r.2.2.2.ae))::L)
section
variable {cf:CallF}{m:Nat}
theorem lK {aV:FuncId→bX}(ha:aV 23=AE)(El:L8 cf m)(IY:N1 cf m)(IZ:NF cf m)(I0:N8 cf m)(s0:ab)(a0:Int)(b0:Int)(h:AHeap)(L:Mem)(ao:Nat)(ak:Nat)(an:Nat)  (o:Has h ((ao,.ob [.bool s0.aj,.rs ak 0 s0.aa.length 4,.rs an 0 s0.ae.length 1])::(ak,.sl s0.aa.length 4 (ai.l s0.aa))::(an,.sl s0.ae.length 1 (af.l s0.ae))::L)){out:Int × (List Int) × Int × ab}(H:dr.f m s0 a0 b0=some out) :
  ∃r h',a7 Try.prog aV cf m 23 [.ptr ao 0,.int .i64 a0,.int .i64 b0] h=some (r,h')∧∃CJ aB aC:Nat,r = .tup [.int .i64 out.1,.rs CJ 0 out.2.1.length 1,.int .i64 out.2.2.1]∧Has h' ((CJ,.sl out.2.1.length 1 (af.l out.2.1))::(ao,.ob [.bool out.2.2.2.aj,.rs aB 0 out.2.2.2.aa.length 4,.rs aC 0 out.2.2.2.ae.length 1])::(aB,.sl out.2.2.2.aa.length 4 (ai.l out.2.2.2.aa))::(aC,.sl out.2.2.2.ae.length 1 (af.l out.2.2.2.ae))::L):=by
 refine au (fn:=Try.f23) ha Try.func23 (by kernel_rfl) (by kernel_rfl) ?_
 refine aH (Q:=fun s=>dr.fin L ao ak an s0 a0 b0 out s) (fun _ _ ⟨h1,CJ,aB,aC,h2,h3⟩=>⟨h1,_,h2,CJ,aB,aC,rfl,h3⟩) ?_
 have H:_=some out:=H
 unfold dr.f at H
 show dj _ cf AE m _ ⟨.ptr ao 0 :: .int .i64 a0 :: .int .i64 b0::KG [],[],h⟩ _
 refine q1 <| qq <| qq ?_
 obtain⟨x0,e0,H⟩:=bj H
 refine qr [.a 4 (El _ _ _ e0 h _ (gp (ah (dM (q:=0) o rfl (ah (eU) (ah (dW (E:=ai) (l:=s0.aa) (q:=1) o rfl (fun _=>rfl)) (ah (dW (E:=af) (l:=s0.ae) (q:=2) o rfl (fun _=>rfl)) (ay))))) (ah (rT (E:=af) (l:=[a0,b0]) (cs:=[.int .i64 a0,.int .i64 b0]) (b:=true) (by kernel_rfl) (by kernel_rfl) rfl) (ay)))))] <| qq <| q0 <| qc H (fun c0 H=>?_) (fun c0 H=>?_)
 ·refine q1 ?_
  have o0:Has h (((0),.sl (([]:List Int).length) 1 (af.l ([]:List Int)))::(ao,.ob [.bool s0.aj,.rs ak 0 s0.aa.length 4,.rs an 0 s0.ae.length 1])::(ak,.sl s0.aa.length 4 (ai.l s0.aa))::(an,.sl s0.ae.length 1 (af.l s0.ae))::L):=Has.nil o 1
  obtain rfl:=oi H
  exact qt <| ⟨.inl rfl,⟨(0),ak,an,by kernel_rfl,he o0⟩⟩
 ·refine qk <| qq ?_
  obtain⟨x1,e1,H⟩:=bj H
  obtain⟨aJ,dV,eM,h0,e2,o1⟩:=IY _ _ _ _ e1 h _ _ _ _ (o)  [.ptr ao 0,.int .i64 a0,.int .i64 b0] (ar (rfl) (ar (aL (bh)) (ar (aL (bh)) (bE))))
  refine qr [.a 3 e2] <| qq ?_
  obtain⟨h1,e3,o2⟩:=rS (E:=af) (l:=x1.1) (q:=0) o1 rfl
  obtain⟨x2,e4,H⟩:=bj H
  obtain⟨cZ,dZ,h2,e5,o3⟩:=IZ _ _ _ e4 h1 _ _ _ _ (o2)  [.ptr ao 0,af.fz x1.1] (ar (rfl) (ar (aL (ou (E:=af))) (bE)))
  refine KI [.a 0 e3] [.a 2 e5] <| qq ?_
  obtain⟨x3,e6,H⟩:=bj H
  obtain⟨eS,h3,e7,o4,HP⟩:=I0 _ _ _ e6 h2 _ _ o3 (gp (ah (dM (q:=0) o3 rfl (ah (eU) (ah (dW (E:=ai) (l:=x2.aa) (q:=1) o3 rfl (fun _=>rfl)) (ah (dW (E:=af) (l:=x2.ae) (q:=2) o3 rfl (fun _=>rfl)) (ay))))) (ah (fy (E:=af)) (ay))))
  refine qr [.a 2 e7] <| qq <| qb 0 <| qq <| q0 <| qc H (fun c1 H=>?_) (fun c1 H=>?_)
  ·refine q1 ?_
   have o5:Has h3 ((((0)),.sl (([]:List Int).length) 1 (af.l ([]:List Int)))::(eS,.sl x3.length 1 (af.l x3))::(ao,.ob [.bool x2.aj,.rs cZ 0 x2.aa.length 4,.rs dZ 0 x2.ae.length 1])::(cZ,.sl x2.aa.length 4 (ai.l x2.aa))::(dZ,.sl x2.ae.length 1 (af.l x2.ae))::L):=Has.nil o4 1
   have o6:Has h3 ((((0)),.sl (([]:List Int).length) 1 (af.l ([]:List Int)))::(ao,.ob [.bool x2.aj,.rs cZ 0 x2.aa.length 4,.rs dZ 0 x2.ae.length 1])::(cZ,.sl x2.aa.length 4 (ai.l x2.aa))::(dZ,.sl x2.ae.length 1 (af.l x2.ae))::L):=Has.del o5 1
   obtain rfl:=oi H
   exact qt <| ⟨.inl rfl,⟨((0)),cZ,dZ,by kernel_rfl,he o6⟩⟩
  ·refine q1 <| qc H (fun c2 H=>?_) (fun c2 H=>?_)
   ·refine q1 ?_
    have o7:Has h3 (((((0))),.sl (([]:List Int).length) 1 (af.l ([]:List Int)))::(eS,.sl x3.length 1 (af.l x3))::(ao,.ob [.bool x2.aj,.rs cZ 0 x2.aa.length 4,.rs dZ 0 x2.ae.length 1])::(cZ,.sl x2.aa.length 4 (ai.l x2.aa))::(dZ,.sl x2.ae.length 1 (af.l x2.ae))::L):=Has.nil o4 1
    have o8:Has h3 (((((0))),.sl (([]:List Int).length) 1 (af.l ([]:List Int)))::(ao,.ob [.bool x2.aj,.rs cZ 0 x2.aa.length 4,.rs dZ 0 x2.ae.length 1])::(cZ,.sl x2.aa.length 4 (ai.l x2.aa))::(dZ,.sl x2.ae.length 1 (af.l x2.ae))::L):=Has.del o7 1
    obtain rfl:=oi H
    exact qt <| ⟨.inl rfl,⟨(((0))),cZ,dZ,by kernel_rfl,he o8⟩⟩
   ·obtain rfl:=oi H
    exact qk <| qq <| q0 <| qt <| ⟨.inl rfl,⟨eS,cZ,dZ,by kernel_rfl,he o4⟩⟩
end
end Go.Proofs.Ytifafejidnjckaa
namespace Go.Proofs.Ytifafejidnjckaa
open Go Go.R
open Go.IntKind (i64 u64 u8 u32)
def AF:bX:=gQ [0,1,4,5,6,12] [] [60,44,12,51,51] [] []
def dJ.f (m:Nat)(s0:ab)(n0:Int):Option (Int × Int):=(bS.f m s0 ([n0])).bind fun x0=>if (!(x0==(0:Int)))=true then (some ((0:Int),x0)) else ((ba.f m s0 n0).bind fun x1=>some (x1,(0:Int)))
def dJ.fin (L:Mem)(r:Int × Int)(s:St):Prop:=∃av,aM Try.prog (s.open AF) Try.f24.results.toList=some av∧ff s.h av (.tup [.int .i64 r.1,.int .i64 r.2])
def Ot (cf:CallF)(m:Nat):Prop:=∀(s0:ab) (n0:Int) (r:Int × Int),dJ.f m s0 n0=some r→∀h xs,aO bO h xs [.fp [.bool s0.aj,ai.fz s0.aa,af.fz s0.ae] 0,.int .i64 n0]→cf 24 xs h=some (.tup [.int .i64 r.1,.int .i64 r.2],h)
section
variable {cf:CallF}{m:Nat}
theorem mw {aV:FuncId→bX}(ha:aV 24=AF)(El:L8 cf m)(B3:L5 cf m)(s0:ab)(n0:Int)(h:AHeap)(L:Mem)  (o:Has h (L)){out:Int × Int}(H:dJ.f m s0 n0=some out) :
  ∃r h',a7 Try.prog aV cf m 24 [.fp [.bool s0.aj,ai.fz s0.aa,af.fz s0.ae] 0,.int .i64 n0] h=some (r,h')∧ff h' r (.tup [.int .i64 out.1,.int .i64 out.2]):=by
 refine au (fn:=Try.f24) ha Try.func24 (by kernel_rfl) (by kernel_rfl) ?_
 refine aH (Q:=fun s=>dJ.fin L out s) (fun _ _ h=>h) ?_
 have H:_=some out:=H
 unfold dJ.f at H
 show dj _ cf AF m _ ⟨.fp [.bool s0.aj,ai.fz s0.aa,af.fz s0.ae] 0 :: .int .i64 n0::nh [],[],h⟩ _
 refine q1 <| qq <| qq ?_
 obtain⟨x0,e0,H⟩:=bj H
 refine qr [.a 3 (El _ _ _ e0 h _ (gp (ah (gf (pure_cons (dI) (pure_cons (bL.bD (E:=ai) (l:=s0.aa)) (pure_cons (bL.bD (E:=af) (l:=s0.ae)) (pure_nil))))) (ah (rT (E:=af) (l:=[n0]) (cs:=[.int .i64 n0]) (b:=true) (by kernel_rfl) (by kernel_rfl) rfl) (ay)))))] <| qq <| q0 <| qc H (fun c0 H=>?_) (fun c0 H=>?_)
 ·obtain rfl:=oi H
  exact q1 <| qt <| ⟨.inl rfl,dy (.tup [.int .i64 (0:Int),.int .i64 x0]) h (dw (DD (qV (dc) (qV (dc) (DC)))))⟩
 ·refine qk <| qq ?_
  obtain⟨x1,e1,H⟩:=bj H
  obtain rfl:=oi H
  exact qr [.a 2 (B3 _ _ _ e1 h _ (gp (ah (gf (pure_cons (dI) (pure_cons (bL.bD (E:=ai) (l:=s0.aa)) (pure_cons (bL.bD (E:=af) (l:=s0.ae)) (pure_nil))))) (ah (bz) (ay)))))] <| qt <| ⟨.inl rfl,dy (.tup [.int .i64 x1,.int .i64 (0:Int)]) h (dw (DD (qV (dc) (qV (dc) (DC)))))⟩
end
end Go.Proofs.Ytifafejidnjckaa
namespace Go.Proofs.Ytifafejidnjckaa
open Go Go.R
open Go.IntKind (i64 u64 u8 u32)
def AG:bX:=gQ [0,1,2,3,4,5,6,7,8] [1000000014] [455,199,319] [] []
def dH.f (m:Nat)(s0:ab)(cb:ByteArray)(dn:List Int):Option (Int × Int × ab):=(Gl 1 dn).bind fun x0=>(bY.f m s0 (ck.f m cb dn s0) (aq.mk (3:Int) (0:Int) cb x0)).bind fun x1=>some (x1.1,x1.2.1,x1.2.2)
def dH.fin (L:Mem)(ao:Nat)(ak:Nat)(an:Nat)(s0:ab)(cb:ByteArray)(dn:List Int)(r:Int × Int × ab)(s:St):Prop:=∃aB aC:Nat,aM Try.prog (s.open AG) Try.f34.results.toList=some (.tup [.int .i64 r.1,.int .i64 r.2.1])∧Has s.h ((ao,.ob [.bool r.2.2.aj,.rs aB 0 r.2.2.aa.length 4,.rs aC 0 r.2.2.ae.length 1])::(aB,.sl r.2.2.aa.length 4 (ai.l r.2.2.aa))::(aC,.sl r.2.2.ae.length 1 (af.l r.2.2.ae))::L)
def Qt (cf:CallF)(m:Nat):Prop:=∀(s0:ab) (cb:ByteArray) (dn:List Int) (r:Int × Int × ab),dH.f m s0 cb dn=some r→∀h L (ao:Nat) (ak:Nat) (an:Nat),Has h ((ao,.ob [.bool s0.aj,.rs ak 0 s0.aa.length 4,.rs an 0 s0.ae.length 1])::(ak,.sl s0.aa.length 4 (ai.l s0.aa))::(an,.sl s0.ae.length 1 (af.l s0.ae))::L)→∀xs,xs.map aK=[.ptr ao 0,.str cb,af.fz dn]→∃aB aC h',cf 34 xs h=some (.tup [.int .i64 r.1,.int .i64 r.2.1],h')∧Has h' ((ao,.ob [.bool r.2.2.aj,.rs aB 0 r.2.2.aa.length 4,.rs aC 0 r.2.2.ae.length 1])::(aB,.sl r.2.2.aa.length 4 (ai.l r.2.2.aa))::(aC,.sl r.2.2.ae.length 1 (af.l r.2.2.ae))::L)
section
variable {cf:CallF}{m:Nat}
theorem lj {aV:FuncId→bX}(ha:aV 34=AG)(I1:PX cf m)(vj:JO cf m)(Ou:Qp cf m)(s0:ab)(cb:ByteArray)(dn:List Int)(h:AHeap)(L:Mem)(ao:Nat)(ak:Nat)(an:Nat)  (o:Has h ((ao,.ob [.bool s0.aj,.rs ak 0 s0.aa.length 4,.rs an 0 s0.ae.length 1])::(ak,.sl s0.aa.length 4 (ai.l s0.aa))::(an,.sl s0.ae.length 1 (af.l s0.ae))::L)){out:Int × Int × ab}(H:dH.f m s0 cb dn=some out) :
  ∃r h',a7 Try.prog aV cf m 34 [.ptr ao 0,.str cb,af.fz dn] h=some (r,h')∧∃aB aC:Nat,r = .tup [.int .i64 out.1,.int .i64 out.2.1]∧Has h' ((ao,.ob [.bool out.2.2.aj,.rs aB 0 out.2.2.aa.length 4,.rs aC 0 out.2.2.ae.length 1])::(aB,.sl out.2.2.aa.length 4 (ai.l out.2.2.aa))::(aC,.sl out.2.2.ae.length 1 (af.l out.2.2.ae))::L):=by
 refine au (fn:=Try.f34) ha Try.func34 (by kernel_rfl) (by kernel_rfl) ?_
 refine aH (Q:=fun s=>dH.fin L ao ak an s0 cb dn out s) (fun _ _ ⟨h1,aB,aC,h2,h3⟩=>⟨h1,_,h2,aB,aC,rfl,h3⟩) ?_
 have H:_=some out:=H
 unfold dH.f at H
 show dj _ cf AG m _ ⟨.ptr ao 0 :: .str cb::af.fz dn::wS [],[none],h⟩ _
 refine qq ?_
 obtain⟨aJ,h0,e0,o0⟩:=gk (cs:=[.ptr ao 0]) o (by kernel_rfl)
 obtain⟨dV,h1,e1,o1⟩:=gk (cs:=[.str cb]) o0 (by kernel_rfl)
 obtain⟨eM,h2,e2,o2⟩:=gk (cs:=[af.fz dn]) o1 (by kernel_rfl)
 refine qr [.a 0 e0,.a 1 e1,.a 2 e2] <| qq <| q0 <| qq ?_
 obtain⟨x0,e3,H⟩:=bj H
 obtain⟨cZ,h3,e4,o3⟩:=KM (E:=af) (l:=dn) I1 o2 e3
 obtain⟨h4,e5,o4⟩:=rS (E:=af) (l:=x0) (q:=0) o3 rfl
 obtain⟨x1,e6,H⟩:=bj H
 obtain⟨dZ,eS,h5,e7,o5⟩:=vj _ _ _ _ e6 h4 _ _ _ _ ((Has.front (Has.front (Has.front (Has.front (Has.front (Has.front o4 2 rfl) 2 rfl) 2 rfl) 5 rfl) 5 rfl) 5 rfl)) 61 [.ptr dV 0,.ptr eM 0,.ptr aJ 0] [.fp [.str cb] 0,.fp [af.fz dn] 0,.fp [.fp [.bool s0.aj,ai.fz s0.aa,af.fz s0.ae] 0] 0] rfl (fun h' sZ  r hr hx=>Ou _ _ _ r hr h' sZ hx) (fun h' K' o'=>iJ (ah (dM (q:=(K'.length+4)) o' (jg rfl) (ah (cN) (ay))) (ah (dM (q:=(K'.length+3)) o' (jg rfl) (ah (fy (E:=af)) (ay))) (ah (dM (q:=(K'.length+5)) o' (jg rfl) (ah (dM (q:=(K'.length+0)) o' (jg rfl) (ah (eU) (ah (dW (E:=ai) (l:=s0.aa) (q:=(K'.length+1)) o' (jg rfl) (fun _=>rfl)) (ah (dW (E:=af) (l:=s0.ae) (q:=(K'.length+2)) o' (jg rfl) (fun _=>rfl)) (ay))))) (ay))) (ay))))) (fun h_=>iJ (ah (gf (pure_cons (mb) (pure_nil))) (ah (gf (pure_cons (bL.bD (E:=af) (l:=dn)) (pure_nil))) (ah (gf (pure_cons (kZ (pure_cons (dI) (pure_cons (bL.bD (E:=ai) (l:=s0.aa)) (pure_cons (bL.bD (E:=af) (l:=s0.ae)) (pure_nil))))) (pure_nil))) (ay))))) [.ptr ao 0,.fn 61 [.ptr dV 0,.ptr eM 0,.ptr aJ 0],.agg [.int .i64 (3:Int),.int .i64 (0:Int),.str cb,af.fz x0]] (ar (rfl) (ar (rfl) (ar (aL (nC (cp (bh) (cp (bh) (cp (kX) (cp (ou (E:=af)) (nB))))))) (bE))))
 refine KN [] [.v 0 (show bm Try.prog h2 28 (.ptr aJ 0)=some (.ptr ao 0) from bW (q:=2) (cs:=[.ptr ao 0]) o2 rfl (by kernel_rfl)),.v 2 (show bm Try.prog h2 9 (.ptr dV 0)=some (.str cb) from bW (q:=1) (cs:=[.str cb]) o2 rfl (by kernel_rfl)),.v 3 (show bm Try.prog h2 33 (.ptr eM 0)=some (af.fz dn) from bW (q:=0) (cs:=[af.fz dn]) o2 rfl (by kernel_rfl)),.a 4 (KO e4 e5),.a 6 e7] [.mk ((DQ I1 o2 (q2:=2) rfl e4).trans (DS (E:=af) (l:=x0) o3 (q:=0) (q2:=3) rfl rfl e5)),.mk ((DQ I1 o2 (q2:=1) rfl e4).trans (DS (E:=af) (l:=x0) o3 (q:=0) (q2:=2) rfl rfl e5))] ?_
 have o6:Has h5 ((ao,.ob [.bool x1.2.2.aj,.rs dZ 0 x1.2.2.aa.length 4,.rs eS 0 x1.2.2.ae.length 1])::(dZ,.sl x1.2.2.aa.length 4 (ai.l x1.2.2.aa))::(eS,.sl x1.2.2.ae.length 1 (af.l x1.2.2.ae))::(eM,.ob [af.fz dn])::(dV,.ob [.str cb])::L):=Has.del o5 5
 have o7:Has h5 ((ao,.ob [.bool x1.2.2.aj,.rs dZ 0 x1.2.2.aa.length 4,.rs eS 0 x1.2.2.ae.length 1])::(dZ,.sl x1.2.2.aa.length 4 (ai.l x1.2.2.aa))::(eS,.sl x1.2.2.ae.length 1 (af.l x1.2.2.ae))::(eM,.ob [af.fz dn])::L):=Has.del o6 4
 have o8:Has h5 ((ao,.ob [.bool x1.2.2.aj,.rs dZ 0 x1.2.2.aa.length 4,.rs eS 0 x1.2.2.ae.length 1])::(dZ,.sl x1.2.2.aa.length 4 (ai.l x1.2.2.aa))::(eS,.sl x1.2.2.ae.length 1 (af.l x1.2.2.ae))::L):=Has.del o7 3
 obtain rfl:=oi H
 exact qt <| ⟨.inl rfl,⟨dZ,eS,by kernel_rfl,he o8⟩⟩
end
end Go.Proofs.Ytifafejidnjckaa
namespace Go.Proofs.Ytifafejidnjckaa
open Go Go.R
open Go.IntKind (i64 u64 u8 u32)
def AH:bX:=gQ [0,1] [] [2,1] [] []
def di.f (m:Nat)(x0:ByteArray):Option (Bool):=(fA.f m x0).bind fun x1=>some x1
def di.fin (L:Mem)(r:Bool)(s:St):Prop:=∃av,aM Try.prog (s.open AH) Try.f49.results.toList=some av∧ff s.h av (.bool r)
def Qu (cf:CallF)(m:Nat):Prop:=∀(x0:ByteArray) (r:Bool),di.f m x0=some r→∀h xs,aO bO h xs [.fp [.str x0] 0]→cf 49 xs h=some (.bool r,h)
section
variable {cf:CallF}{m:Nat}
theorem kH {aV:FuncId→bX}(ha:aV 49=AH)(pz:L9 cf m)(x0:ByteArray)(h:AHeap)(L:Mem)  (o:Has h (L)){out:Bool}(H:di.f m x0=some out) :
  ∃r h',a7 Try.prog aV cf m 49 [.fp [.str x0] 0] h=some (r,h')∧ff h' r (.bool out):=by
 refine au (fn:=Try.f49) ha Try.func49 (by kernel_rfl) (by kernel_rfl) ?_
 refine aH (Q:=fun s=>di.fin L out s) (fun _ _ h=>h) ?_
 have H:_=some out:=H
 unfold di.f at H
 show dj _ cf AH m _ ⟨[.fp [.str x0] 0,.any],[],h⟩ _
 refine q1 <| qq ?_
 obtain⟨x1,e0,H⟩:=bj H
 obtain rfl:=oi H
 exact qr [.a 1 (pz _ _ e0 h _ (gp (ah (cN) (ay))))] <| qt <| ⟨.inl rfl,dy (.bool x1) h (dw (aD))⟩
end
end Go.Proofs.Ytifafejidnjckaa
namespace Go.Proofs.Ytifafejidnjckaa
open Go Go.R
open Go.IntKind (i64 u64 u8 u32)
def AI:bX:=gQ [0,1,2,3] [2] [9,7] [] []
def fR.f (m:Nat)(n0:aq)(x0:br):Option (Bool):=(ik.f m n0 (x0.nodes.length:Int)).bind fun x1=>some (!x1)
def fR.fin (L:Mem)(r:Bool)(s:St):Prop:=∃av,aM Try.prog (s.open AI) Try.f66.results.toList=some av∧ff s.h av (.bool r)
def Qv (cf:CallF)(m:Nat):Prop:=∀(n0:aq) (x0:br) (r:Bool),fR.f m n0 x0=some r→∀h xs,aO bO h xs [.agg [.int .i64 n0.kind,.int .i64 n0.int,.str n0.label,af.fz n0.args],.fp [ai.fz x0.nodes,.int .i64 x0.root] 0]→cf 66 xs h=some (.bool r,h)
section
variable {cf:CallF}{m:Nat}
theorem oG {aV:FuncId→bX}(ha:aV 66=AI)(Ov:Qq cf m)(n0:aq)(x0:br)(h:AHeap)(L:Mem)  (o:Has h (L)){out:Bool}(H:fR.f m n0 x0=some out) :
  ∃r h',a7 Try.prog aV cf m 66 [.agg [.int .i64 n0.kind,.int .i64 n0.int,.str n0.label,af.fz n0.args],.fp [ai.fz x0.nodes,.int .i64 x0.root] 0] h=some (r,h')∧ff h' r (.bool out):=by
 refine au (fn:=Try.f66) ha Try.func66 (by kernel_rfl) (by kernel_rfl) ?_
 refine aH (Q:=fun s=>fR.fin L out s) (fun _ _ h=>h) ?_
 have H:_=some out:=H
 unfold fR.f at H
 show dj _ cf AI m _ ⟨[.agg [.int .i64 n0.kind,.int .i64 n0.int,.str n0.label,af.fz n0.args],.fp [ai.fz x0.nodes,.int .i64 x0.root] 0,.any,.any],[none],h⟩ _
 refine q1 <| qq ?_
 obtain⟨x1,e0,H⟩:=bj H
 obtain rfl:=oi H
 exact qr [.a 4 (Ov _ _ _ e0 h _ (gp (ah (jG (ah (bz) (ah (bz) (ah (cN) (ah (fy (E:=af)) (ay)))))) (ah (bz) (ay)))))] <| qt <| ⟨.inl rfl,dy (.bool (!x1)) h (dw (aD))⟩
end
end Go.Proofs.Ytifafejidnjckaa
namespace Go.Proofs.Ytifafejidnjckaa
open Go Go.R
open Go.IntKind (i64 u64 u8 u32)
end Go.Proofs.Ytifafejidnjckaa
namespace Go.Proofs.Ytifafejidnjckaa
open Go Go.R
open Go.IntKind (i64 u64 u8 u32)
def sr:bX:=gQ [0,1,2,6,7,8,9,13,30,35,54] [] [2032,1984,1856,2000,1984,1984,2032,1776,1984,1472,2000,1984,1984,1952,928,2032,2032] [] []
def bM.l0 (m:Nat)(n0:Int)(aQ:Int→Int→Option (Int)):Nat→(List Int)→Int→Int→Option ((List Int) × Int × Int)
 | 0,_,_,_=>none
 | k+1,bl,a0,b0=>if (decide (b0≤n0))=true then ((aT.f m bl a0 b0 aQ).bind fun x0=>bM.l0 m n0 aQ k x0 b0 (i64.wrap (b0+(20:Int)))) else (some ((bl,a0,b0)))
def bM.l2 (m:Nat)(n0:Int)(aQ:Int→Int→Option (Int))(be:Int):Nat→(List Int)→Int→Int→Option ((List Int) × Int × Int)
 | 0,_,_,_=>none
 | k+1,jh,a2,b2=>if (decide (b2≤n0))=true then ((aG.f m m jh a2 (i64.wrap (a2+be)) b2 aQ).bind fun x2=>bM.l2 m n0 aQ be k x2 b2 (i64.wrap (b2+i64.wrap ((2:Int)*be)))) else (some ((jh,a2,b2)))
def bM.l1 (m:Nat)(n0:Int)(aQ:Int→Int→Option (Int)):Nat→(List Int)→Int→Option ((List Int) × Int)
 | 0,_,_=>none
 | k+1,dE,be=>if (decide (be<n0))=true then ((bM.l2 m n0 aQ be m dE (0:Int) (i64.wrap ((2:Int)*be))).bind fun dq=>match dq with | (kG,a3,b3)=>if (decide ((i64.wrap (a3+be))<n0))=true then ((aG.f m m kG a3 (i64.wrap (a3+be)) n0 aQ).bind fun x3=>bM.l1 m n0 aQ k x3 (i64.wrap (be*(2:Int)))) else (bM.l1 m n0 aQ k kG (i64.wrap (be*(2:Int))))) else (some ((dE,be)))
def bM.f (m:Nat)(aw:List Int)(n0:Int)(aQ:Int→Int→Option (Int)):Option ((List Int)):=(bM.l0 m n0 aQ m aw (0:Int) (20:Int)).bind fun bZ=>match bZ with | (cY,a1,b1)=>(aT.f m cY a1 n0 aQ).bind fun x1=>(bM.l1 m n0 aQ m x1 (20:Int)).bind fun mu=>match mu with | (oF,yU)=>some oF
def bM.fin (L:Mem)(aJ:Nat)(aw:List Int)(n0:Int)(aQ:Int→Int→Option (Int))(r:(List Int))(s:St):Prop:=aM Try.prog (s.open sr) Try.f99.results.toList=some (.tup [])∧Has s.h ((aJ,.sl aw.length 1 (af.l r))::L)
def Qw (cf:CallF)(m:Nat):Prop:=∀(aw:List Int) (n0:Int) (aQ:Int→Int→Option (Int)) (r:(List Int)),bM.f m aw n0 aQ=some r→∀h L (cg:Nat) (aJ:Nat),Has h ((aJ,.sl cg 1 (af.l aw))::L)→∀(kI:FuncId) (dt cQ:List AV),(aK (.fn kI dt) = .fn kI dt)→(∀(h:AHeap) (xs:List AV) (a0:Int) (a1:Int) r,aQ a0 a1=some r→aO bO h xs ([.int .i64 a0,.int .i64 a1]++cQ)→cf kI xs h=some (.int .i64 r,h))→(∀h K,Has h (K++(L))→aO cw h dt cQ)→(∀h,aO cw h cQ cQ)→∀xs,xs.map aK=[.rs aJ 0 cg 1,.int .i64 n0,.fn kI dt]→∃h',cf 99 xs h=some (.tup [],h')∧Has h' ((aJ,.sl cg 1 (af.l r))::L)
section
variable {cf:CallF}{m:Nat}
theorem bM.dm (L:Mem)(aJ:Nat)(kI:FuncId)(dt cQ:List AV)(aw:List Int)(n0:Int)(aQ:Int→Int→Option (Int))  (mV:aK (.fn kI dt) = .fn kI dt)(qC:∀(h:AHeap) (xs:List AV) (a0:Int) (a1:Int) r,aQ a0 a1=some r→aO bO h xs ([.int .i64 a0,.int .i64 a1]++cQ)→cf kI xs h=some (.int .i64 r,h))(qD:∀h K,Has h (K++(L))→aO cw h dt cQ)(qE:∀h,aO cw h cQ cQ)(AJ:IG cf m):dS Try.prog cf sr m (sub [1,1,0,0,0] (b8 Try.f99)) (fun k (σ:(List Int) × Int × Int)=>bM.l0 m n0 aQ k σ.1 σ.2.1 σ.2.2) (fun σ s=>match σ with | (bl,a0,b0)=>∃h0,s=⟨.rs aJ 0 aw.length 1 :: .int .i64 n0 :: .fn kI dt :: .int .i64 (20:Int) :: .int .i64 a0 :: .int .i64 b0::Fy [],[],h0⟩∧Has h0 ((aJ,.sl aw.length 1 (af.l bl))::L)) (fun out e s=>(e = .exit 0∧∃bl a0 b0,(bl,a0,b0)=out∧∃BZ vf h0,s=⟨.rs aJ 0 aw.length 1 :: .int .i64 n0 :: .fn kI dt :: .int .i64 (20:Int) :: .int .i64 a0::BZ :: .any::vf::sJ [],[],h0⟩∧Has h0 ((aJ,.sl aw.length 1 (af.l bl))::L))):=by
 refine me (fun _=>rfl) ?_
 rintro k ⟨bl,a0,b0⟩ s out ⟨h0,rfl,o0⟩ H
 have H:bM.l0 m n0 aQ (k+1) bl a0 b0=some out:=H
 refine qq <| qq <| q0 <| qc H (fun c0 H=>?_) (fun c0 H=>?_)
 ·refine qk <| qb 1 <| qq ?_
  obtain⟨x0,e0,H⟩:=bj H
  obtain⟨h1,e1,o1⟩:=AJ _ _ _ _ _ e0 h0 _ _ _ (o0) kI dt cQ mV qC (fun h' K' o'=>qD h' (K'++[]) (by simpa only [UK,U6,U7] using o')) qE [.rs aJ 0 aw.length 1,.int .i64 a0,.int .i64 b0,.fn kI dt] (ar (rfl) (ar (aL (bh)) (ar (aL (bh)) (ar (mV) (bE)))))
  exact qr [.a 4 e1] <| qq <| q0 <| q0 <| ⟨(x0,b0,i64.wrap (b0+(20:Int))),⟨h1,by kernel_rfl,o1⟩,H⟩
 ·exact qx 0 <| ⟨rfl,bl,a0,b0,oi H,.int .i64 b0,.bool (decide (b0≤n0)),h0,by kernel_rfl,o0⟩
theorem bM.so (L:Mem)(aJ:Nat)(kI:FuncId)(dt cQ:List AV)(aw:List Int)(n0:Int)(aQ:Int→Int→Option (Int))(be:Int)  (mV:aK (.fn kI dt) = .fn kI dt)(qC:∀(h:AHeap) (xs:List AV) (a0:Int) (a1:Int) r,aQ a0 a1=some r→aO bO h xs ([.int .i64 a0,.int .i64 a1]++cQ)→cf kI xs h=some (.int .i64 r,h))(qD:∀h K,Has h (K++(L))→aO cw h dt cQ)(qE:∀h,aO cw h cQ cQ)(iF:tc cf m m):dS Try.prog cf sr m (sub [1,1,1,1,0,0,1,0,1,0,0,0] (b8 Try.f99)) (fun k (σ:(List Int) × Int × Int)=>bM.l2 m n0 aQ be k σ.1 σ.2.1 σ.2.2) (fun σ s=>match σ with | (jh,a2,b2)=>∃h5,s=⟨.rs aJ 0 aw.length 1 :: .int .i64 n0 :: .fn kI dt :: .int .i64 be :: .int .i64 a2 :: .int .i64 b2::Fy [],[],h5⟩∧Has h5 ((aJ,.sl aw.length 1 (af.l jh))::L)) (fun out e s=>(e = .exit 4∧∃jh a2 b2,(jh,a2,b2)=out∧∃BZ I2 h5,s=⟨.rs aJ 0 aw.length 1 :: .int .i64 n0 :: .fn kI dt :: .int .i64 be :: .int .i64 a2::BZ::sJ [I2,.any],[],h5⟩∧Has h5 ((aJ,.sl aw.length 1 (af.l jh))::L))):=by
 refine me (fun _=>rfl) ?_
 rintro k ⟨jh,a2,b2⟩ s out ⟨h5,rfl,o5⟩ H
 have H:bM.l2 m n0 aQ be (k+1) jh a2 b2=some out:=H
 refine qq <| qq <| q0 <| qc H (fun c2 H=>?_) (fun c2 H=>?_)
 ·refine qk <| qb 5 <| qq ?_
  obtain⟨x2,e5,H⟩:=bj H
  obtain⟨h6,e6,o6⟩:=iF _ _ _ _ _ _ e5 h5 _ _ _ (o5) kI dt cQ mV qC (fun h' K' o'=>qD h' (K'++[]) (by simpa only [UK,U6,U7] using o')) qE [.rs aJ 0 aw.length 1,.int .i64 a2,.int .i64 (i64.wrap (a2+be)),.int .i64 b2,.fn kI dt] (ar (rfl) (ar (aL (bh)) (ar (aL (bh)) (ar (aL (bh)) (ar (mV) (bE))))))
  exact qr [.a 7 e6] <| qq <| q0 <| q0 <| ⟨(x2,b2,i64.wrap (b2+i64.wrap ((2:Int)*be))),⟨h6,by kernel_rfl,o6⟩,H⟩
 ·exact qx 4 <| ⟨rfl,jh,a2,b2,oi H,.int .i64 b2,.bool (decide (b2≤n0)),h5,by kernel_rfl,o5⟩
theorem bM.mj (L:Mem)(aJ:Nat)(kI:FuncId)(dt cQ:List AV)(aw:List Int)(n0:Int)(aQ:Int→Int→Option (Int))  (mV:aK (.fn kI dt) = .fn kI dt)(qC:∀(h:AHeap) (xs:List AV) (a0:Int) (a1:Int) r,aQ a0 a1=some r→aO bO h xs ([.int .i64 a0,.int .i64 a1]++cQ)→cf kI xs h=some (.int .i64 r,h))(qD:∀h K,Has h (K++(L))→aO cw h dt cQ)(qE:∀h,aO cw h cQ cQ)(iF:tc cf m m):dS Try.prog cf sr m (sub [1,1,1,1,0,0] (b8 Try.f99)) (fun k (σ:(List Int) × Int)=>bM.l1 m n0 aQ k σ.1 σ.2) (fun σ s=>match σ with | (dE,be)=>∃h4,s=⟨.rs aJ 0 aw.length 1 :: .int .i64 n0 :: .fn kI dt :: .int .i64 be::Ge [],[],h4⟩∧Has h4 ((aJ,.sl aw.length 1 (af.l dE))::L)) (fun out e s=>(e = .exit 2∧∃dE be,(dE,be)=out∧∃oz yI KW Gv IL h4,s=⟨oz::yI::KW::Gv::nh [IL,.any,.any],[],h4⟩∧Has h4 ((aJ,.sl aw.length 1 (af.l dE))::L))):=by
 refine me (fun _=>rfl) ?_
 rintro k ⟨dE,be⟩ s out ⟨h4,rfl,o4⟩ H
 have H:bM.l1 m n0 aQ (k+1) dE be=some out:=H
 refine qq <| qq <| q0 <| qc H (fun c1 H=>?_) (fun c1 H=>?_)
 ·refine qk <| qb 3 <| qq <| q0 <| qq <| qb 4 ?_
  obtain⟨dq,e7,H⟩:=bj H
  refine ql (bM.so L aJ kI dt cQ aw n0 aQ be  mV qC qD qE iF (dE,(0:Int),i64.wrap ((2:Int)*be)) _ _ ⟨h4,by kernel_rfl,o4⟩ e7) ?_
  rintro e s ⟨rfl,kG,a3,b3,rfl,g2,g3,h7,rfl,o7⟩
  try dsimp only at H
  refine qq <| qq <| q0 <| qq <| q0 <| qc H (fun c3 H=>?_) (fun c3 H=>?_)
  ·obtain⟨x3,e8,H⟩:=bj H
   obtain⟨h8,e9,o8⟩:=iF _ _ _ _ _ _ e8 h7 _ _ _ (o7) kI dt cQ mV qC (fun h' K' o'=>qD h' (K'++[]) (by simpa only [UK,U6,U7] using o')) qE [.rs aJ 0 aw.length 1,.int .i64 a3,.int .i64 (i64.wrap (a3+be)),.int .i64 n0,.fn kI dt] (ar (rfl) (ar (aL (bh)) (ar (aL (bh)) (ar (aL (bh)) (ar (mV) (bE))))))
   exact qr [.a 5 e9] <| q0 <| ⟨(x3,i64.wrap (be*(2:Int))),⟨h8,by kernel_rfl,o8⟩,H⟩
  ·exact qk <| q0 <| ⟨(kG,i64.wrap (be*(2:Int))),⟨h7,by kernel_rfl,o7⟩,H⟩
 ·exact qx 2 <| ⟨rfl,dE,be,oi H,.rs aJ 0 aw.length 1,.int .i64 n0,.fn kI dt,.int .i64 be,.bool (decide (be<n0)),h4,by kernel_rfl,o4⟩
theorem vl {aV:FuncId→bX}(ha:aV 99=sr)(AJ:IG cf m)(iF:tc cf m m)(aw:List Int)(n0:Int)(aQ:Int→Int→Option (Int))(h:AHeap)(L:Mem)(aJ:Nat)(kI:FuncId)(dt cQ:List AV)  (mV:aK (.fn kI dt) = .fn kI dt)(qC:∀(h:AHeap) (xs:List AV) (a0:Int) (a1:Int) r,aQ a0 a1=some r→aO bO h xs ([.int .i64 a0,.int .i64 a1]++cQ)→cf kI xs h=some (.int .i64 r,h))(qD:∀h K,Has h (K++(L))→aO cw h dt cQ)(qE:∀h,aO cw h cQ cQ)(o:Has h ((aJ,.sl aw.length 1 (af.l aw))::L)){out:(List Int)}(H:bM.f m aw n0 aQ=some out) :
  ∃r h',a7 Try.prog aV cf m 99 [.rs aJ 0 aw.length 1,.int .i64 n0,.fn kI dt] h=some (r,h')∧r = .tup []∧Has h' ((aJ,.sl aw.length 1 (af.l out))::L):=by
 refine au (fn:=Try.f99) ha Try.func99 (by kernel_rfl) (by kernel_rfl) ?_
 refine aH (Q:=fun s=>bM.fin L aJ aw n0 aQ out s) (fun _ _ ⟨h1,h2,h3⟩=>⟨h1,_,h2,rfl,h3⟩) ?_
 have H:_=some out:=H
 unfold bM.f at H
 show dj _ cf sr m _ ⟨.rs aJ 0 aw.length 1 :: .int .i64 n0 :: .fn kI dt::BS [],[],h⟩ _
 refine q1 <| qq <| q0 <| qq <| qb 0 ?_
 obtain⟨bZ,e2,H⟩:=bj H
 refine ql (bM.dm L aJ kI dt cQ aw n0 aQ  mV qC qD qE AJ (aw,(0:Int),(20:Int)) _ _ ⟨h,by kernel_rfl,o⟩ e2) ?_
 rintro e s ⟨rfl,cY,a1,b1,rfl,g0,g1,h2,rfl,o2⟩
 try dsimp only at H
 refine qq ?_
 obtain⟨x1,e3,H⟩:=bj H
 obtain⟨h3,e4,o3⟩:=AJ _ _ _ _ _ e3 h2 _ _ _ (o2) kI dt cQ mV qC (fun h' K' o'=>qD h' (K'++[]) (by simpa only [UK,U6,U7] using o')) qE [.rs aJ 0 aw.length 1,.int .i64 a1,.int .i64 n0,.fn kI dt] (ar (rfl) (ar (aL (bh)) (ar (aL (bh)) (ar (mV) (bE)))))
 refine qr [.a 4 e4] <| qb 2 ?_
 obtain⟨mu,sY,H⟩:=bj H
 refine ql (bM.mj L aJ kI dt cQ aw n0 aQ  mV qC qD qE iF (x1,(20:Int)) _ _ ⟨h3,by kernel_rfl,o3⟩ sY) ?_
 rintro e s ⟨rfl,oF,yU,rfl,g4,g5,g6,g7,g8,h9,rfl,o9⟩
 try dsimp only at H
 obtain rfl:=oi H
 exact⟨.inr rfl,⟨by kernel_rfl,he o9⟩⟩
end
end Go.Proofs.Ytifafejidnjckaa
namespace Go.Proofs.Ytifafejidnjckaa
open Go Go.R
open Go.IntKind (i64 u64 u8 u32)
end Go.Proofs.Ytifafejidnjckaa
namespace Go.Proofs.Ytifafejidnjckaa
open Go Go.R
open Go.IntKind (i64 u64 u8 u32)
end Go.Proofs.Ytifafejidnjckaa
namespace Go.Proofs.Ytifafejidnjckaa
open Go Go.R
open Go.IntKind (i64 u64 u8 u32)
def xk:bX:=gQ [0,2,3,4,5,6,10,20] [] [254,250,242,178,242,194,98,226,242,253] [] [(1,[(3,none,1)])]
def bG.l0 (m:Nat)(s0:ab):Nat→(List Int)→Int→Option ((List Int) × Int)
 | 0,_,_=>none
 | k+1,bZ,n0=>(b6.f m s0).bind fun x0=>if (decide (n0<x0))=true then ((dJ.f m s0 n0).bind fun x1=>if (!(x1.2==(0:Int)))=true then ((app 8 bZ ([(-1:Int)])).bind fun x2=>bG.l0 m s0 k x2 (i64.wrap (n0+(1:Int)))) else ((app 8 bZ ([x1.1])).bind fun x3=>bG.l0 m s0 k x3 (i64.wrap (n0+(1:Int))))) else (some ((bZ,n0)))
def bG.f (m:Nat)(s0:ab):Option ((List Int)):=(bG.l0 m s0 m ([]:List Int) (0:Int)).bind fun mu=>match mu with | (dq,n1)=>some dq
def bG.fin (L:Mem)(r:(List Int))(s:St):Prop:=∃av,aM Try.prog (s.open xk) Try.f15.results.toList=some av∧ff s.h av (af.fz r)
def Qx (cf:CallF)(m:Nat):Prop:=∀(s0:ab) (r:(List Int)),bG.f m s0=some r→∀h xs,aO bO h xs [.fp [.bool s0.aj,ai.fz s0.aa,af.fz s0.ae] 0]→cf 15 xs h=some (af.fz r,h)
section
variable {cf:CallF}{m:Nat}
theorem bG.dm (L:Mem)(s0:ab)  (I3:NQ cf m)(I4:Ot cf m):dS Try.prog cf xk m (sub [1,1,0,1,0,0] (b8 Try.f15)) (fun k (σ:(List Int) × Int)=>bG.l0 m s0 k σ.1 σ.2) (fun σ s=>match σ with | (bZ,n0)=>∃aJ h0,s=⟨.fp [.bool s0.aj,ai.fz s0.aa,af.fz s0.ae] 0 :: .any :: .rs aJ 0 bZ.length 1 :: .int .i64 n0::nh [],[],h0⟩∧Has h0 ((aJ,.sl bZ.length 1 (af.l bZ))::L)) (fun out e s=>(e = .exit 0∧∃bZ n0,(bZ,n0)=out∧∃oz IU yO aJ h0,s=⟨[oz,.any,.rs aJ 0 bZ.length 1,IU,.any,.any,yO,.any],[],h0⟩∧Has h0 ((aJ,.sl bZ.length 1 (af.l bZ))::L))):=by
 refine me (fun _=>rfl) ?_
 rintro k ⟨bZ,n0⟩ s out ⟨aJ,h0,rfl,o1⟩ H
 have H:bG.l0 m s0 (k+1) bZ n0=some out:=H
 refine qq <| qq ?_
 obtain⟨x0,e0,H⟩:=bj H
 refine qr [.a 2 (I3 _ _ e0 h0 _ (gp (ah (gf (pure_cons (dI) (pure_cons (bL.bD (E:=ai) (l:=s0.aa)) (pure_cons (bL.bD (E:=af) (l:=s0.ae)) (pure_nil))))) (ay))))] <| qc H (fun c0 H=>?_) (fun c0 H=>?_)
 ·refine qk <| qq <| qb 1 <| qq ?_
  obtain⟨x1,e1,H⟩:=bj H
  refine qr [.a 2 (I4 _ _ _ e1 h0 _ (gp (ah (gf (pure_cons (dI) (pure_cons (bL.bD (E:=ai) (l:=s0.aa)) (pure_cons (bL.bD (E:=af) (l:=s0.ae)) (pure_nil))))) (ah (bz) (ay)))))] <| qq <| qq <| q0 <| qc H (fun c1 H=>?_) (fun c1 H=>?_)
  ·refine q0 ?_
   obtain⟨x2,e2,H⟩:=bj H
   obtain⟨dV,h1,e3,o2⟩:=iD (P:=Try.prog) (E:=af) (l:=bZ) (q:=0) (t2:=33) (x:=.fz [.int .i64 (-1:Int)] 1 true) (l2:=([(-1:Int)])) fU o1 rfl (by kernel_rfl) rfl e2
   exact qr [.a 3 e3] <| q0 <| ⟨(x2,i64.wrap (n0+(1:Int))),⟨dV,h1,by kernel_rfl,o2⟩,H⟩
  ·refine qk ?_
   obtain⟨x3,e4,H⟩:=bj H
   obtain⟨eM,h2,e5,o3⟩:=iD (P:=Try.prog) (E:=af) (l:=bZ) (q:=0) (t2:=33) (x:=.fz [.int .i64 x1.1] 1 true) (l2:=([x1.1])) fU o1 rfl (by kernel_rfl) rfl e4
   exact qr [.a 3 e5] <| q0 <| ⟨(x3,i64.wrap (n0+(1:Int))),⟨eM,h2,by kernel_rfl,o3⟩,H⟩
 ·exact qx 0 <| ⟨rfl,bZ,n0,oi H,.fp [.bool s0.aj,ai.fz s0.aa,af.fz s0.ae] 0,.int .i64 n0,.bool (decide (n0<x0)),aJ,h0,by kernel_rfl,o1⟩
theorem qF {aV:FuncId→bX}(ha:aV 15=xk)(I3:NQ cf m)(I4:Ot cf m)(s0:ab)(h:AHeap)(L:Mem)  (o:Has h (L)){out:(List Int)}(H:bG.f m s0=some out) :
  ∃r h',a7 Try.prog aV cf m 15 [.fp [.bool s0.aj,ai.fz s0.aa,af.fz s0.ae] 0] h=some (r,h')∧ff h' r (af.fz out):=by
 refine au (fn:=Try.f15) ha Try.func15 (by kernel_rfl) (by kernel_rfl) ?_
 refine aH (Q:=fun s=>bG.fin L out s) (fun _ _ h=>h) ?_
 have H:_=some out:=H
 unfold bG.f at H
 show dj _ cf xk m _ ⟨.fp [.bool s0.aj,ai.fz s0.aa,af.fz s0.ae] 0::Ge [],[],h⟩ _
 refine q1 <| qq <| q0 ?_
 have o0:Has h (((0),.sl (([]:List Int).length) 1 (af.l ([]:List Int)))::L):=Has.nil o 1
 refine qq <| qq <| q0 <| qb 0 ?_
 obtain⟨mu,e6,H⟩:=bj H
 refine ql (bG.dm L s0  I3 I4 (([]:List Int),(0:Int)) _ _ ⟨(0),h,by kernel_rfl,o0⟩ e6) ?_
 rintro e s ⟨rfl,dq,n1,rfl,g0,g1,g2,cZ,h3,rfl,o4⟩
 try dsimp only at H
 obtain rfl:=oi H
 exact q1 <| qt <| ⟨.inl rfl,dy (.rs cZ 0 dq.length 1) h3 (dw (Ho (E:=af) (l:=dq) (q:=0) o4 rfl (fun _=>rfl)))⟩
end
end Go.Proofs.Ytifafejidnjckaa
namespace Go.Proofs.Ytifafejidnjckaa
open Go Go.R
open Go.IntKind (i64 u64 u8 u32)
def AK:bX:=gQ [0,1,3,4,5] [] [26,7] [] []
def dR.f (m:Nat)(s0:ab)(a0:ByteArray):Option (Int × Int × ab):=(bY.f m s0 (di.f m a0) (aq.mk (2:Int) (0:Int) a0 ([]))).bind fun x0=>some (x0.1,x0.2.1,x0.2.2)
def dR.fin (L:Mem)(ao:Nat)(ak:Nat)(an:Nat)(s0:ab)(a0:ByteArray)(r:Int × Int × ab)(s:St):Prop:=∃aB aC:Nat,aM Try.prog (s.open AK) Try.f28.results.toList=some (.tup [.int .i64 r.1,.int .i64 r.2.1])∧Has s.h ((ao,.ob [.bool r.2.2.aj,.rs aB 0 r.2.2.aa.length 4,.rs aC 0 r.2.2.ae.length 1])::(aB,.sl r.2.2.aa.length 4 (ai.l r.2.2.aa))::(aC,.sl r.2.2.ae.length 1 (af.l r.2.2.ae))::L)
def Qy (cf:CallF)(m:Nat):Prop:=∀(s0:ab) (a0:ByteArray) (r:Int × Int × ab),dR.f m s0 a0=some r→∀h L (ao:Nat) (ak:Nat) (an:Nat),Has h ((ao,.ob [.bool s0.aj,.rs ak 0 s0.aa.length 4,.rs an 0 s0.ae.length 1])::(ak,.sl s0.aa.length 4 (ai.l s0.aa))::(an,.sl s0.ae.length 1 (af.l s0.ae))::L)→∀xs,xs.map aK=[.ptr ao 0,.str a0]→∃aB aC h',cf 28 xs h=some (.tup [.int .i64 r.1,.int .i64 r.2.1],h')∧Has h' ((ao,.ob [.bool r.2.2.aj,.rs aB 0 r.2.2.aa.length 4,.rs aC 0 r.2.2.ae.length 1])::(aB,.sl r.2.2.aa.length 4 (ai.l r.2.2.aa))::(aC,.sl r.2.2.ae.length 1 (af.l r.2.2.ae))::L)
section
variable {cf:CallF}{m:Nat}
theorem lL {aV:FuncId→bX}(ha:aV 28=AK)(vj:JO cf m)(Ow:Qu cf m)(s0:ab)(a0:ByteArray)(h:AHeap)(L:Mem)(ao:Nat)(ak:Nat)(an:Nat)  (o:Has h ((ao,.ob [.bool s0.aj,.rs ak 0 s0.aa.length 4,.rs an 0 s0.ae.length 1])::(ak,.sl s0.aa.length 4 (ai.l s0.aa))::(an,.sl s0.ae.length 1 (af.l s0.ae))::L)){out:Int × Int × ab}(H:dR.f m s0 a0=some out) :
  ∃r h',a7 Try.prog aV cf m 28 [.ptr ao 0,.str a0] h=some (r,h')∧∃aB aC:Nat,r = .tup [.int .i64 out.1,.int .i64 out.2.1]∧Has h' ((ao,.ob [.bool out.2.2.aj,.rs aB 0 out.2.2.aa.length 4,.rs aC 0 out.2.2.ae.length 1])::(aB,.sl out.2.2.aa.length 4 (ai.l out.2.2.aa))::(aC,.sl out.2.2.ae.length 1 (af.l out.2.2.ae))::L):=by
 refine au (fn:=Try.f28) ha Try.func28 (by kernel_rfl) (by kernel_rfl) ?_
 refine aH (Q:=fun s=>dR.fin L ao ak an s0 a0 out s) (fun _ _ ⟨h1,aB,aC,h2,h3⟩=>⟨h1,_,h2,aB,aC,rfl,h3⟩) ?_
 have H:_=some out:=H
 unfold dR.f at H
 show dj _ cf AK m _ ⟨.ptr ao 0 :: .str a0::sJ [],[],h⟩ _
 refine qq ?_
 obtain⟨aJ,h0,e0,o0⟩:=gk (cs:=[.str a0]) o (by kernel_rfl)
 refine qr [.a 0 e0] <| qq ?_
 obtain⟨x0,e1,H⟩:=bj H
 obtain⟨dV,eM,h1,e2,o1⟩:=vj _ _ _ _ e1 h0 _ _ _ _ ((Has.front (Has.front (Has.front (Has.front o0 0 rfl) 3 rfl) 3 rfl) 3 rfl)) 49 [.ptr aJ 0] [.fp [.str a0] 0] rfl (fun h' sZ  r hr hx=>Ow _ r hr h' sZ hx) (fun h' K' o'=>iJ (ah (dM (q:=(K'.length+3)) o' (jg rfl) (ah (cN) (ay))) (ay))) (fun h_=>iJ (ah (gf (pure_cons (mb) (pure_nil))) (ay))) [.ptr ao 0,.fn 49 [.ptr aJ 0],.agg [.int .i64 (2:Int),.int .i64 (0:Int),.str a0,.nils]] (ar (rfl) (ar (rfl) (ar (aL (nC (cp (bh) (cp (bh) (cp (kX) (cp (qW (E:=af)) (nB))))))) (bE))))
 refine qr [.v 2 (show bm Try.prog h0 9 (.ptr aJ 0)=some (.str a0) from bW (q:=0) (cs:=[.str a0]) o0 rfl (by kernel_rfl)),.a 4 e2] ?_
 have o2:Has h1 ((ao,.ob [.bool x0.2.2.aj,.rs dV 0 x0.2.2.aa.length 4,.rs eM 0 x0.2.2.ae.length 1])::(dV,.sl x0.2.2.aa.length 4 (ai.l x0.2.2.aa))::(eM,.sl x0.2.2.ae.length 1 (af.l x0.2.2.ae))::L):=Has.del o1 3
 obtain rfl:=oi H
 exact qt <| ⟨.inl rfl,⟨dV,eM,by kernel_rfl,he o2⟩⟩
end
end Go.Proofs.Ytifafejidnjckaa
namespace Go.Proofs.Ytifafejidnjckaa
open Go Go.R
open Go.IntKind (i64 u64 u8 u32)
def AL:bX:=gQ [0,1,2] [] [5,3] [] []
def gG.f (m:Nat)(t0:br):Option (Bool):=if (decide ((t0.nodes.length:Int)≥(1:Int)))=true then (if (decide ((t0.nodes.length:Int)≤(8000:Int)))=true then (if (decide (t0.root≥(0:Int)))=true then (if (decide (t0.root<(t0.nodes.length:Int)))=true then ((gF.f m t0.nodes (fun y0=>fR.f m y0 t0)).bind fun x0=>some (!x0)) else (some false)) else (some false)) else (some false)) else (some false)
def gG.fin (L:Mem)(r:Bool)(s:St):Prop:=∃av,aM Try.prog (s.open AL) Try.f44.results.toList=some av∧ff s.h av (.bool r)
def Qz (cf:CallF)(m:Nat):Prop:=∀(t0:br) (r:Bool),gG.f m t0=some r→∀h xs,aO bO h xs [.agg [ai.fz t0.nodes,.int .i64 t0.root]]→cf 44 xs h=some (.bool r,h)
section
variable {cf:CallF}{m:Nat}
theorem qG {aV:FuncId→bX}(ha:aV 44=AL)(Ox:Qj cf m)(Oy:Qv cf m)(t0:br)(h:AHeap)(L:Mem)  (o:Has h (L)){out:Bool}(H:gG.f m t0=some out) :
  ∃r h',a7 Try.prog aV cf m 44 [.agg [ai.fz t0.nodes,.int .i64 t0.root]] h=some (r,h')∧ff h' r (.bool out):=by
 refine au (fn:=Try.f44) ha Try.func44 (by kernel_rfl) (by kernel_rfl) ?_
 refine aH (Q:=fun s=>gG.fin L out s) (fun _ _ h=>h) ?_
 have H:_=some out:=H
 unfold gG.f at H
 show dj _ cf AL m _ ⟨[.agg [ai.fz t0.nodes,.int .i64 t0.root],.any,.any],[],h⟩ _
 refine qq ?_
 obtain⟨aJ,h0,e0,o0⟩:=gk (cs:=[ai.fz t0.nodes,.int .i64 t0.root]) o (by kernel_rfl)
 refine qr [.a 0 e0] <| qq ?_
 rcases iG H with⟨c0,H⟩| ⟨c0,H⟩
 ·rcases iG H with⟨c1,H⟩| ⟨c1,H⟩
  ·rcases iG H with⟨c2,H⟩| ⟨c2,H⟩
   ·rcases iG H with⟨c3,H⟩| ⟨c3,H⟩
    ·obtain⟨x0,e1,H⟩:=bj H
     refine qr [.v 1 (show bm Try.prog h0 40 (.ptr aJ 0)=some (ai.fz t0.nodes) from bW (q:=0) (cs:=[ai.fz t0.nodes,.int .i64 t0.root]) o0 rfl (by kernel_rfl)),.b 4 c0,.v 6 (show bm Try.prog h0 40 (.ptr aJ 0)=some (ai.fz t0.nodes) from bW (q:=0) (cs:=[ai.fz t0.nodes,.int .i64 t0.root]) o0 rfl (by kernel_rfl)),.b 10 c1,.v 12 (show bm Try.prog h0 3 (.ptr aJ 1)=some (.int .i64 t0.root) from bW (q:=0) (cs:=[ai.fz t0.nodes,.int .i64 t0.root]) o0 rfl (by kernel_rfl)),.b 15 c2,.v 17 (show bm Try.prog h0 3 (.ptr aJ 1)=some (.int .i64 t0.root) from bW (q:=0) (cs:=[ai.fz t0.nodes,.int .i64 t0.root]) o0 rfl (by kernel_rfl)),.v 19 (show bm Try.prog h0 40 (.ptr aJ 0)=some (ai.fz t0.nodes) from bW (q:=0) (cs:=[ai.fz t0.nodes,.int .i64 t0.root]) o0 rfl (by kernel_rfl)),.b 23 c3,.v 25 (show bm Try.prog h0 40 (.ptr aJ 0)=some (ai.fz t0.nodes) from bW (q:=0) (cs:=[ai.fz t0.nodes,.int .i64 t0.root]) o0 rfl (by kernel_rfl)),.a 27 (Ox _ _ _ e1 66 [.fp [ai.fz t0.nodes,.int .i64 t0.root] 0] (fun h' sZ y0 r hr hx=>Oy y0 _ r hr h' sZ hx) (fun h_=>iJ (ah (gf (pure_cons (bL.bD (E:=ai) (l:=t0.nodes)) (pure_cons (fZ) (pure_nil)))) (ay))) h0 _ (gp (ah (fy (E:=ai)) (ah (sb (ah (dM (q:=0) o0 rfl (ah (fy (E:=ai)) (ah (bz) (ay)))) (ay))) (ay)))))] ?_
     have o1:Has h0 (L):=Has.del o0 0
     obtain rfl:=oi H
     exact qt <| ⟨.inl rfl,dy (.bool (!x0)) h0 (dw (aD))⟩
    ·refine qr [.v 1 (show bm Try.prog h0 40 (.ptr aJ 0)=some (ai.fz t0.nodes) from bW (q:=0) (cs:=[ai.fz t0.nodes,.int .i64 t0.root]) o0 rfl (by kernel_rfl)),.b 4 c0,.v 6 (show bm Try.prog h0 40 (.ptr aJ 0)=some (ai.fz t0.nodes) from bW (q:=0) (cs:=[ai.fz t0.nodes,.int .i64 t0.root]) o0 rfl (by kernel_rfl)),.b 10 c1,.v 12 (show bm Try.prog h0 3 (.ptr aJ 1)=some (.int .i64 t0.root) from bW (q:=0) (cs:=[ai.fz t0.nodes,.int .i64 t0.root]) o0 rfl (by kernel_rfl)),.b 15 c2,.v 17 (show bm Try.prog h0 3 (.ptr aJ 1)=some (.int .i64 t0.root) from bW (q:=0) (cs:=[ai.fz t0.nodes,.int .i64 t0.root]) o0 rfl (by kernel_rfl)),.v 19 (show bm Try.prog h0 40 (.ptr aJ 0)=some (ai.fz t0.nodes) from bW (q:=0) (cs:=[ai.fz t0.nodes,.int .i64 t0.root]) o0 rfl (by kernel_rfl)),.b 23 c3] ?_
     have o2:Has h0 (L):=Has.del o0 0
     obtain rfl:=oi H
     exact qt <| ⟨.inl rfl,dy (.bool false) h0 (dw (aD))⟩
   ·refine qr [.v 1 (show bm Try.prog h0 40 (.ptr aJ 0)=some (ai.fz t0.nodes) from bW (q:=0) (cs:=[ai.fz t0.nodes,.int .i64 t0.root]) o0 rfl (by kernel_rfl)),.b 4 c0,.v 6 (show bm Try.prog h0 40 (.ptr aJ 0)=some (ai.fz t0.nodes) from bW (q:=0) (cs:=[ai.fz t0.nodes,.int .i64 t0.root]) o0 rfl (by kernel_rfl)),.b 10 c1,.v 12 (show bm Try.prog h0 3 (.ptr aJ 1)=some (.int .i64 t0.root) from bW (q:=0) (cs:=[ai.fz t0.nodes,.int .i64 t0.root]) o0 rfl (by kernel_rfl)),.b 15 c2] ?_
    have o3:Has h0 (L):=Has.del o0 0
    obtain rfl:=oi H
    exact qt <| ⟨.inl rfl,dy (.bool false) h0 (dw (aD))⟩
  ·refine qr [.v 1 (show bm Try.prog h0 40 (.ptr aJ 0)=some (ai.fz t0.nodes) from bW (q:=0) (cs:=[ai.fz t0.nodes,.int .i64 t0.root]) o0 rfl (by kernel_rfl)),.b 4 c0,.v 6 (show bm Try.prog h0 40 (.ptr aJ 0)=some (ai.fz t0.nodes) from bW (q:=0) (cs:=[ai.fz t0.nodes,.int .i64 t0.root]) o0 rfl (by kernel_rfl)),.b 10 c1] ?_
   have o4:Has h0 (L):=Has.del o0 0
   obtain rfl:=oi H
   exact qt <| ⟨.inl rfl,dy (.bool false) h0 (dw (aD))⟩
 ·refine qr [.v 1 (show bm Try.prog h0 40 (.ptr aJ 0)=some (ai.fz t0.nodes) from bW (q:=0) (cs:=[ai.fz t0.nodes,.int .i64 t0.root]) o0 rfl (by kernel_rfl)),.b 4 c0] ?_
  have o5:Has h0 (L):=Has.del o0 0
  obtain rfl:=oi H
  exact qt <| ⟨.inl rfl,dy (.bool false) h0 (dw (aD))⟩
end
end Go.Proofs.Ytifafejidnjckaa
namespace Go.Proofs.Ytifafejidnjckaa
open Go Go.R
open Go.IntKind (i64 u64 u8 u32)
end Go.Proofs.Ytifafejidnjckaa
namespace Go.Proofs.Ytifafejidnjckaa
open Go Go.R
open Go.IntKind (i64 u64 u8 u32)
def AM:bX:=gQ [0,1] [] [3] [] []
def eX.f (m:Nat)(x0:List Int)(aQ:Int→Int→Option (Int)):Option ((List Int)):=(bM.f m x0 (x0.length:Int) aQ).bind fun x1=>some x1
def eX.fin (L:Mem)(aJ:Nat)(x0:List Int)(aQ:Int→Int→Option (Int))(r:(List Int))(s:St):Prop:=aM Try.prog (s.open AM) Try.f83.results.toList=some (.tup [])∧Has s.h ((aJ,.sl x0.length 1 (af.l r))::L)
def QB (cf:CallF)(m:Nat):Prop:=∀(x0:List Int) (aQ:Int→Int→Option (Int)) (r:(List Int)),eX.f m x0 aQ=some r→∀h L (Em:Nat) (aJ:Nat),Has h ((aJ,.sl Em 1 (af.l x0))::L)→∀(eB:FuncId) (aP bU:List AV),(aK (.fn eB aP) = .fn eB aP)→(∀(h:AHeap) (xs:List AV) (a0:Int) (a1:Int) r,aQ a0 a1=some r→aO bO h xs ([.int .i64 a0,.int .i64 a1]++bU)→cf eB xs h=some (.int .i64 r,h))→(∀h K,Has h (K++(L))→aO cw h aP bU)→(∀h,aO cw h bU bU)→∀xs,xs.map aK=[.rs aJ 0 Em 1,.fn eB aP]→∃h',cf 83 xs h=some (.tup [],h')∧Has h' ((aJ,.sl Em 1 (af.l r))::L)
section
variable {cf:CallF}{m:Nat}
theorem oH {aV:FuncId→bX}(ha:aV 83=AM)(Oz:Qw cf m)(x0:List Int)(aQ:Int→Int→Option (Int))(h:AHeap)(L:Mem)(aJ:Nat)(eB:FuncId)(aP bU:List AV)  (qu:aK (.fn eB aP) = .fn eB aP)(gM:∀(h:AHeap) (xs:List AV) (a0:Int) (a1:Int) r,aQ a0 a1=some r→aO bO h xs ([.int .i64 a0,.int .i64 a1]++bU)→cf eB xs h=some (.int .i64 r,h))(oA:∀h K,Has h (K++(L))→aO cw h aP bU)(gN:∀h,aO cw h bU bU)(o:Has h ((aJ,.sl x0.length 1 (af.l x0))::L)){out:(List Int)}(H:eX.f m x0 aQ=some out) :
  ∃r h',a7 Try.prog aV cf m 83 [.rs aJ 0 x0.length 1,.fn eB aP] h=some (r,h')∧r = .tup []∧Has h' ((aJ,.sl x0.length 1 (af.l out))::L):=by
 refine au (fn:=Try.f83) ha Try.func83 (by kernel_rfl) (by kernel_rfl) ?_
 refine aH (Q:=fun s=>eX.fin L aJ x0 aQ out s) (fun _ _ ⟨h1,h2,h3⟩=>⟨h1,_,h2,rfl,h3⟩) ?_
 have H:_=some out:=H
 unfold eX.f at H
 show dj _ cf AM m _ ⟨[.rs aJ 0 x0.length 1,.fn eB aP],[],h⟩ _
 obtain⟨x1,e0,H⟩:=bj H
 obtain⟨h0,e1,o0⟩:=Oz _ _ _ _ e0 h _ _ _ (o) eB aP bU qu gM (fun h' K' o'=>oA h' (K'++[]) (by simpa only [UK,U6,U7] using o')) gN [.rs aJ 0 x0.length 1,.int .i64 (x0.length:Int),.fn eB aP] (ar (rfl) (ar (aL (bh)) (ar (qu) (bE))))
 obtain rfl:=oi H
 exact qr [.a 4 e1] <| ⟨.inr rfl,⟨by kernel_rfl,he o0⟩⟩
end
end Go.Proofs.Ytifafejidnjckaa
namespace Go.Proofs.Ytifafejidnjckaa
open Go Go.R
open Go.IntKind (i64 u64 u8 u32)
end Go.Proofs.Ytifafejidnjckaa
