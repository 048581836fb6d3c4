/- Part of the proof: Q106, Q16, Q20, Q23, Q24, Q34, Q49, Q66, Q69, Q99, Q103, Q13, Q15, Q28, Q44, Q45, Q83, Q89. -/
import Derived.Test.YtifafejidnjckaaK8
set_option linter.unusedVariables false
set_option linter.unusedSimpArgs false
set_option maxRecDepth 100000
open ByteArray renaming mk → U3
open List renaming append_assoc → Uv, cons_append → UQ, nil_append → UR
namespace Go.Proofs.Ytifafejidnjckaa
open Go Go.R
open Go.IntKind (i64 u64 u8 u32)
def lb:bY:=gK [0,1,2,3,4,10,11,12,13,14,15,16,17,18,19,20,21,22,23,24,28,33,50,58,80,85,103,110,140,151,171,185,199,213] [] [17178820576,17179869124,17179869068,17177771916,17179868940,17175674636,17179869068,17179869068,17179868894,17171480286,17179868894,17179868894,17163091936,17179868650,17179867626,17146313194,17179865578,17112756714,17179867626,17179867626,17179864574,17045646846,17179864574,17179864574,17179860960,17179844576,17179844576,16911409120,17179811808,17179746272,17179811808,17179746272,17179615200,16642744288,17179353056,16105611232,17179615200,17179615200,17179303904,15031820256,17179303908,12884336612,17179336678,8589402086,17179869183] [] []
def aG.l0 (m:Nat)(aw:List Int)(a0:Int)(aS:Int→Int→Option (Int)):Nat→Int→Int→Option (Int × Int)
 | 0,_,_=>none
 | k+1,i0,j0=>if (decide (i0<j0))=true then ((ix aw (i64.wrap (iU .u64 (u64.wrap (i64.wrap (i0+j0))) 1))).bind fun v0=>(ix aw a0).bind fun v1=>(aS v0 v1).bind fun r0=>if (decide (r0<(0:Int)))=true then (aG.l0 m aw a0 aS k (i64.wrap (i64.wrap (iU .u64 (u64.wrap (i64.wrap (i0+j0))) 1)+(1:Int))) j0) else (aG.l0 m aw a0 aS k i0 (i64.wrap (iU .u64 (u64.wrap (i64.wrap (i0+j0))) 1)))) else (some ((i0,j0)))
def aG.l1 (m:Nat)(i1:Int):Nat→(List Int)→Int→Option ((List Int) × Int)
 | 0,_,_=>none
 | k+1,bk,k0=>if (decide (k0<(i64.wrap (i1 - (1:Int)))))=true then ((ix bk (i64.wrap (k0+(1:Int)))).bind fun v2=>(ix bk k0).bind fun v3=>(ix bk k0).bind fun v4=>(ix (bk.set k0.toNat v2) (i64.wrap (k0+(1:Int)))).bind fun v5=>aG.l1 m i1 k ((bk.set k0.toNat v2).set (i64.wrap (k0+(1:Int))).toNat v3) (i64.wrap (k0+(1:Int)))) else (some ((bk,k0)))
def aG.l2 (m:Nat)(aw:List Int)(m0:Int)(aS:Int→Int→Option (Int)):Nat→Int→Int→Option (Int × Int)
 | 0,_,_=>none
 | k+1,i2,j2=>if (decide (i2<j2))=true then ((ix aw m0).bind fun v6=>(ix aw (i64.wrap (iU .u64 (u64.wrap (i64.wrap (i2+j2))) 1))).bind fun v7=>(aS v6 v7).bind fun r1=>if (!(decide (r1<(0:Int))))=true then (aG.l2 m aw m0 aS k (i64.wrap (i64.wrap (iU .u64 (u64.wrap (i64.wrap (i2+j2))) 1)+(1:Int))) j2) else (aG.l2 m aw m0 aS k i2 (i64.wrap (iU .u64 (u64.wrap (i64.wrap (i2+j2))) 1)))) else (some ((i2,j2)))
def aG.l3 (m:Nat)(i3:Int):Nat→(List Int)→Int→Option ((List Int) × Int)
 | 0,_,_=>none
 | k+1,dI,k2=>if (decide (k2 > i3))=true then ((ix dI (i64.wrap (k2 - (1:Int)))).bind fun v8=>(ix dI k2).bind fun v9=>(ix dI k2).bind fun v10=>(ix (dI.set k2.toNat v8) (i64.wrap (k2 - (1:Int)))).bind fun v11=>aG.l3 m i3 k ((dI.set k2.toNat v8).set (i64.wrap (k2 - (1:Int))).toNat v9) (i64.wrap (k2 - (1:Int)))) else (some ((dI,k2)))
def aG.l4 (m:Nat)(aw:List Int)(a0:Int)(m0:Int)(b0:Int)(aS:Int→Int→Option (Int)):Nat→Int→Int→Option (Int × Int)
 | 0,_,_=>none
 | k+1,fN,r3=>if (decide (fN<r3))=true then ((ix aw (i64.wrap (i64.wrap (i64.wrap (i64.wrap (iU .u64 (u64.wrap (i64.wrap (a0+b0))) 1)+m0) - (1:Int)) - i64.wrap (iU .u64 (u64.wrap (i64.wrap (fN+r3))) 1)))).bind fun v12=>(ix aw (i64.wrap (iU .u64 (u64.wrap (i64.wrap (fN+r3))) 1))).bind fun L2=>(aS v12 L2).bind fun r4=>if (!(decide (r4<(0:Int))))=true then (aG.l4 m aw a0 m0 b0 aS k (i64.wrap (i64.wrap (iU .u64 (u64.wrap (i64.wrap (fN+r3))) 1)+(1:Int))) r3) else (aG.l4 m aw a0 m0 b0 aS k fN (i64.wrap (iU .u64 (u64.wrap (i64.wrap (fN+r3))) 1)))) else (some ((fN,r3)))
def aG.b (m:Nat)(rec:(List Int)→Int→Int→Int→(Int→Int→Option (Int))→Option ((List Int)))(aw:List Int)(a0:Int)(m0:Int)(b0:Int)(aS:Int→Int→Option (Int)):Option ((List Int)):=if ((i64.wrap (m0 - a0))==(1:Int))=true then ((aG.l0 m aw a0 aS m m0 b0).bind fun b6=>match b6 with | (i1,j1)=>(aG.l1 m i1 m aw a0).bind fun dt=>match dt with | (cZ,k1)=>some cZ) else (if ((i64.wrap (b0 - m0))==(1:Int))=true then ((aG.l2 m aw m0 aS m a0 m0).bind fun ml=>match ml with | (i3,j3)=>(aG.l3 m i3 m aw m0).bind fun D6=>match D6 with | (jb,k3)=>some jb) else (jn (fun (σ:Int × Int)=>match σ with | (sj,r2)=>(aG.l4 m aw a0 m0 b0 aS m sj r2).bind fun dh=>match dh with | (eQ,r5)=>jn (fun (σ:(List Int))=>match σ with | kD=>jn (fun (σ:(List Int))=>match σ with | oC=>if (decide ((i64.wrap (iU .u64 (u64.wrap (i64.wrap (a0+b0))) 1))<(i64.wrap (i64.wrap (i64.wrap (iU .u64 (u64.wrap (i64.wrap (a0+b0))) 1)+m0) - eQ))))=true then (if (decide ((i64.wrap (i64.wrap (i64.wrap (iU .u64 (u64.wrap (i64.wrap (a0+b0))) 1)+m0) - eQ))<b0))=true then ((rec oC (i64.wrap (iU .u64 (u64.wrap (i64.wrap (a0+b0))) 1)) (i64.wrap (i64.wrap (i64.wrap (iU .u64 (u64.wrap (i64.wrap (a0+b0))) 1)+m0) - eQ)) b0 aS).bind fun x2=>some x2) else (some oC)) else (some oC)) fun sk=>(if (decide (a0<eQ))=true then (if (decide (eQ<(i64.wrap (iU .u64 (u64.wrap (i64.wrap (a0+b0))) 1))))=true then ((rec kD a0 eQ (i64.wrap (iU .u64 (u64.wrap (i64.wrap (a0+b0))) 1)) aS).bind fun x1=>sk x1) else (sk kD)) else (sk kD))) fun KQ=>(if (decide (eQ<m0))=true then (if (decide (m0<(i64.wrap (i64.wrap (i64.wrap (iU .u64 (u64.wrap (i64.wrap (a0+b0))) 1)+m0) - eQ))))=true then ((eM.f m aw eQ m0 (i64.wrap (i64.wrap (i64.wrap (iU .u64 (u64.wrap (i64.wrap (a0+b0))) 1)+m0) - eQ)) aS).bind fun x0=>KQ x0) else (KQ aw)) else (KQ aw))) fun sW=>(if (decide (m0 > (i64.wrap (iU .u64 (u64.wrap (i64.wrap (a0+b0))) 1))))=true then (sW (i64.wrap (i64.wrap (i64.wrap (iU .u64 (u64.wrap (i64.wrap (a0+b0))) 1)+m0) - b0),i64.wrap (iU .u64 (u64.wrap (i64.wrap (a0+b0))) 1))) else (sW (a0,m0)))))
def aG.f (m:Nat):Nat→(List Int)→Int→Int→Int→(Int→Int→Option (Int))→Option ((List Int))
 | 0,_,_,_,_,_=>none
 | k+1,aw,a0,m0,b0,aS=>aG.b m (aG.f m k) aw a0 m0 b0 aS
def aG.fin (L:Mem)(aI:Nat)(aw:List Int)(a0:Int)(m0:Int)(b0:Int)(aS:Int→Int→Option (Int))(r:(List Int))(s:St):Prop:=aM Try.prog (s.open lb) Try.f106.results.toList=some (.tup [])∧Has s.h ((aI,.sl aw.length 1 (af.l r))::L)
def s7 (cf:CallF)(m:Nat)(kk:Nat):Prop:=∀(aw:List Int) (a0:Int) (m0:Int) (b0:Int) (aS:Int→Int→Option (Int)) (r:(List Int)),aG.f m kk aw a0 m0 b0 aS=some r→∀h L (cd:Nat) (aI:Nat),Has h ((aI,.sl cd 1 (af.l aw))::L)→∀(eF:FuncId) (aY aT:List AV),(aL (.fn eF aY) = .fn eF aY)→(∀(h:AHeap) (xs:List AV) (a0:Int) (a1:Int) r,aS a0 a1=some r→aO bO h xs ([.int .i64 a0,.int .i64 a1]++aT)→cf eF xs h=some (.int .i64 r,h))→(∀h K,Has h (K++(L))→aO cr h aY aT)→(∀h,aO cr h aT aT)→∀xs,xs.map aL=[.rs aI 0 cd 1,.int .i64 a0,.int .i64 m0,.int .i64 b0,.fn eF aY]→∃h',cf 106 xs h=some (.tup [],h')∧Has h' ((aI,.sl cd 1 (af.l r))::L)
section
variable {cf:CallF}{m:Nat}
theorem aG.dF (L:Mem)(aI:Nat)(eF:FuncId)(aY aT:List AV)(aw:List Int)(a0:Int)(m0:Int)(b0:Int)(aS:Int→Int→Option (Int))  {kk:Nat}(iz:s7 cf m kk)(gz:aL (.fn eF aY) = .fn eF aY)(gS:∀(h:AHeap) (xs:List AV) (a0:Int) (a1:Int) r,aS a0 a1=some r→aO bO h xs ([.int .i64 a0,.int .i64 a1]++aT)→cf eF xs h=some (.int .i64 r,h))(gT:∀h K,Has h (K++(L))→aO cr h aY aT)(iy:∀h,aO cr h aT aT)  : dZ Try.prog cf lb m (sub [0,1,0,1,1,0,0,0] (b8 Try.f106)) (fun k (σ:Int × Int)=>aG.l0 m aw a0 aS k σ.1 σ.2) (fun σ s=>match σ with | (i0,j0)=>∃h0,s=⟨.rs aI 0 aw.length 1 :: .int .i64 a0 :: .any :: .any :: .fn eF aY :: .int .i64 i0 :: .int .i64 j0::Ni [],[],h0⟩∧Has h0 ((aI,.sl aw.length 1 (af.l aw))::L)) (fun out e s=>(e = .exit 0∧∃i0 j0,(i0,j0)=out∧∃IJ Iz N8 h0,s=⟨.rs aI 0 aw.length 1 :: .int .i64 a0 :: .any :: .any::IJ :: .int .i64 i0::Iz::wN (N8::uV []),[],h0⟩∧Has h0 ((aI,.sl aw.length 1 (af.l aw))::L))):=by
 refine mI (fun _=>rfl) ?_
 rintro k ⟨i0,j0⟩ s out ⟨h0,rfl,o0⟩ H
 have H:aG.l0 m aw a0 aS (k+1) i0 j0=some out:=H
 refine qq <| qq <| q0 <| qc H (fun c1 H=>?_) (fun c1 H=>?_)
 ·refine qk <| qb 1 <| qq <| q0 <| qq ?_
  obtain⟨v0,e0,H⟩:=bj H
  obtain⟨v1,e1,H⟩:=bj H
  obtain⟨r0,e2,H⟩:=bj H
  refine qr [.v 3 (bn (k:=.i64) (E:=af) (l:=aw) (q:=0) gx o0 rfl e0),.v 4 (dD  (E:=af) (l:=aw) (q:=0) o0 rfl A3 e0 rfl),.v 7 (bn (k:=.i64) (E:=af) (l:=aw) (q:=0) gx o0 rfl e1),.v 8 (dD  (E:=af) (l:=aw) (q:=0) o0 rfl A3 e1 rfl),.a 9 (gS _ _ _ _ _ e2 (He (ah (br) (ah (br) (ax))) (gT h0 [(aI,.sl aw.length 1 (af.l aw))] o0)))] <| qc H (fun c2 H=>?_) (fun c2 H=>?_)
  ·exact q0 <| ⟨(i64.wrap (i64.wrap (iU .u64 (u64.wrap (i64.wrap (i0+j0))) 1)+(1:Int)),j0),⟨h0,by kernel_rfl,o0⟩,H⟩
  ·exact q0 <| ⟨(i0,i64.wrap (iU .u64 (u64.wrap (i64.wrap (i0+j0))) 1)),⟨h0,by kernel_rfl,o0⟩,H⟩
 ·exact qx 0 <| ⟨rfl,i0,j0,oi H,.fn eF aY,.int .i64 j0,.bool (decide (i0<j0)),h0,by kernel_rfl,o0⟩
theorem aG.me (L:Mem)(aI:Nat)(eF:FuncId)(aY aT:List AV)(aw:List Int)(a0:Int)(m0:Int)(b0:Int)(aS:Int→Int→Option (Int))(i1:Int)  {kk:Nat}(iz:s7 cf m kk)(gz:aL (.fn eF aY) = .fn eF aY)(gS:∀(h:AHeap) (xs:List AV) (a0:Int) (a1:Int) r,aS a0 a1=some r→aO bO h xs ([.int .i64 a0,.int .i64 a1]++aT)→cf eF xs h=some (.int .i64 r,h))(gT:∀h K,Has h (K++(L))→aO cr h aY aT)(iy:∀h,aO cr h aT aT)  : dZ Try.prog cf lb m (sub [0,1,0,1,1,1,0,1,0,0] (b8 Try.f106)) (fun k (σ:(List Int) × Int)=>aG.l1 m i1 k σ.1 σ.2) (fun σ s=>match σ with | (bk,k0)=>∃h2,s=⟨.rs aI 0 aw.length 1::nw (.int .i64 i1 :: .any :: .any :: .int .i64 k0::Nh []),[],h2⟩∧Has h2 ((aI,.sl aw.length 1 (af.l bk))::L)) (fun out e s=>(e = .exit 2∧∃bk k0,(bk,k0)=out∧∃ow yI va N9 h2,s=⟨ow::nw (yI :: .any :: .any::va::wN (N9::Kr [])),[],h2⟩∧Has h2 ((aI,.sl aw.length 1 (af.l bk))::L))):=by
 refine mI (fun _=>rfl) ?_
 rintro k ⟨bk,k0⟩ s out ⟨h2,rfl,o2⟩ H
 have H:aG.l1 m i1 (k+1) bk k0=some out:=H
 refine qq <| qq <| q0 <| qc H (fun c3 H=>?_) (fun c3 H=>?_)
 ·refine qk <| qq <| qb 3 ?_
  obtain⟨v2,e4,H⟩:=bj H
  obtain⟨v3,e5,H⟩:=bj H
  obtain⟨v4,e6,H⟩:=bj H
  obtain⟨h3,e7,o3⟩:=fo (P:=Try.prog) (tf:=3) (E:=af) (l:=bk) (q:=0) (v:=v2) (x:=.int .i64 v2) o2 rfl Z3 e6 rfl rfl
  obtain⟨v5,e8,H⟩:=bj H
  obtain⟨h4,e9,o4⟩:=fo (P:=Try.prog) (tf:=3) (E:=af) (l:=(bk.set k0.toNat v2)) (q:=0) (v:=v3) (x:=.int .i64 v3) o3 rfl Z3 e8 rfl rfl
  exact qr [.v 8 (bn (k:=.i64) (E:=af) (l:=bk) (q:=0) gx o2 rfl e4),.v 9 (dD  (E:=af) (l:=bk) (q:=0) o2 rfl A3 e4 rfl),.v 12 (bn (k:=.i64) (E:=af) (l:=bk) (q:=0) gx o2 rfl e5),.v 13 (dD  (E:=af) (l:=bk) (q:=0) o2 rfl A3 e5 rfl),.v 14 (bn (k:=.i64) (E:=af) (l:=bk) (q:=0) gx o2 rfl e6),.w 15 e7,.v 16 (bn (k:=.i64) (E:=af) (l:=(bk.set k0.toNat v2)) (q:=0) gx o3 rfl e8),.w 17 e9] <| q0 <| ⟨((bk.set k0.toNat v2).set (i64.wrap (k0+(1:Int))).toNat v3,i64.wrap (k0+(1:Int))),⟨h4,by kernel_rfl,o4⟩,H⟩
 ·exact qx 2 <| ⟨rfl,bk,k0,oi H,.rs aI 0 aw.length 1,.int .i64 i1,.int .i64 k0,.bool (decide (k0<(i64.wrap (i1 - (1:Int))))),h2,by kernel_rfl,o2⟩
theorem aG.sm (L:Mem)(aI:Nat)(eF:FuncId)(aY aT:List AV)(aw:List Int)(a0:Int)(m0:Int)(b0:Int)(aS:Int→Int→Option (Int))  {kk:Nat}(iz:s7 cf m kk)(gz:aL (.fn eF aY) = .fn eF aY)(gS:∀(h:AHeap) (xs:List AV) (a0:Int) (a1:Int) r,aS a0 a1=some r→aO bO h xs ([.int .i64 a0,.int .i64 a1]++aT)→cf eF xs h=some (.int .i64 r,h))(gT:∀h K,Has h (K++(L))→aO cr h aY aT)(iy:∀h,aO cr h aT aT)  : dZ Try.prog cf lb m (sub [1,0,1,0,1,1,0,0,0] (b8 Try.f106)) (fun k (σ:Int × Int)=>aG.l2 m aw m0 aS k σ.1 σ.2) (fun σ s=>match σ with | (i2,j2)=>∃h6,s=⟨.rs aI 0 aw.length 1 :: .any :: .int .i64 m0 :: .any :: .fn eF aY::nw (.int .i64 i2 :: .int .i64 j2::Ng []),[],h6⟩∧Has h6 ((aI,.sl aw.length 1 (af.l aw))::L)) (fun out e s=>(e = .exit 4∧∃i2 j2,(i2,j2)=out∧∃IJ Oa Ob h6,s=⟨.rs aI 0 aw.length 1 :: .any :: .int .i64 m0 :: .any::IJ::nw (.int .i64 i2::Oa::wN (Ob::BL [])),[],h6⟩∧Has h6 ((aI,.sl aw.length 1 (af.l aw))::L))):=by
 refine mI (fun _=>rfl) ?_
 rintro k ⟨i2,j2⟩ s out ⟨h6,rfl,o6⟩ H
 have H:aG.l2 m aw m0 aS (k+1) i2 j2=some out:=H
 refine qq <| qq <| q0 <| qc H (fun c5 H=>?_) (fun c5 H=>?_)
 ·refine qk <| qb 5 <| qq <| q0 <| qq ?_
  obtain⟨v6,vc,H⟩:=bj H
  obtain⟨v7,w6,H⟩:=bj H
  obtain⟨r1,xN,H⟩:=bj H
  refine qr [.v 3 (bn (k:=.i64) (E:=af) (l:=aw) (q:=0) gx o6 rfl vc),.v 4 (dD  (E:=af) (l:=aw) (q:=0) o6 rfl A3 vc rfl),.v 7 (bn (k:=.i64) (E:=af) (l:=aw) (q:=0) gx o6 rfl w6),.v 8 (dD  (E:=af) (l:=aw) (q:=0) o6 rfl A3 w6 rfl),.a 9 (gS _ _ _ _ _ xN (He (ah (br) (ah (br) (ax))) (gT h6 [(aI,.sl aw.length 1 (af.l aw))] o6)))] <| qc H (fun c6 H=>?_) (fun c6 H=>?_)
  ·exact q0 <| ⟨(i64.wrap (i64.wrap (iU .u64 (u64.wrap (i64.wrap (i2+j2))) 1)+(1:Int)),j2),⟨h6,by kernel_rfl,o6⟩,H⟩
  ·exact q0 <| ⟨(i2,i64.wrap (iU .u64 (u64.wrap (i64.wrap (i2+j2))) 1)),⟨h6,by kernel_rfl,o6⟩,H⟩
 ·exact qx 4 <| ⟨rfl,i2,j2,oi H,.fn eF aY,.int .i64 j2,.bool (decide (i2<j2)),h6,by kernel_rfl,o6⟩
theorem aG.D7 (L:Mem)(aI:Nat)(eF:FuncId)(aY aT:List AV)(aw:List Int)(a0:Int)(m0:Int)(b0:Int)(aS:Int→Int→Option (Int))(i3:Int)  {kk:Nat}(iz:s7 cf m kk)(gz:aL (.fn eF aY) = .fn eF aY)(gS:∀(h:AHeap) (xs:List AV) (a0:Int) (a1:Int) r,aS a0 a1=some r→aO bO h xs ([.int .i64 a0,.int .i64 a1]++aT)→cf eF xs h=some (.int .i64 r,h))(gT:∀h K,Has h (K++(L))→aO cr h aY aT)(iy:∀h,aO cr h aT aT)  : dZ Try.prog cf lb m (sub [1,0,1,0,1,1,1,0,1,0,0] (b8 Try.f106)) (fun k (σ:(List Int) × Int)=>aG.l3 m i3 k σ.1 σ.2) (fun σ s=>match σ with | (dI,k2)=>∃h8,s=⟨.rs aI 0 aw.length 1::BL (.int .i64 i3 :: .any :: .any :: .int .i64 k2::Nd []),[],h8⟩∧Has h8 ((aI,.sl aw.length 1 (af.l dI))::L)) (fun out e s=>(e = .exit 6∧∃dI k2,(dI,k2)=out∧∃ow DO Oc KR h8,s=⟨ow::BL (DO :: .any :: .any::Oc::wN (KR::wM [])),[],h8⟩∧Has h8 ((aI,.sl aw.length 1 (af.l dI))::L))):=by
 refine mI (fun _=>rfl) ?_
 rintro k ⟨dI,k2⟩ s out ⟨h8,rfl,o8⟩ H
 have H:aG.l3 m i3 (k+1) dI k2=some out:=H
 refine qq <| qq <| q0 <| qc H (fun c7 H=>?_) (fun c7 H=>?_)
 ·refine qk <| qq <| qb 7 ?_
  obtain⟨v8,yJ,H⟩:=bj H
  obtain⟨v9,D3,H⟩:=bj H
  obtain⟨v10,Gm,H⟩:=bj H
  obtain⟨h9,IB,o9⟩:=fo (P:=Try.prog) (tf:=3) (E:=af) (l:=dI) (q:=0) (v:=v8) (x:=.int .i64 v8) o8 rfl Z3 Gm rfl rfl
  obtain⟨v11,Gn,H⟩:=bj H
  obtain⟨h10,IC,w7⟩:=fo (P:=Try.prog) (tf:=3) (E:=af) (l:=(dI.set k2.toNat v8)) (q:=0) (v:=v9) (x:=.int .i64 v9) o9 rfl Z3 Gn rfl rfl
  exact qr [.v 8 (bn (k:=.i64) (E:=af) (l:=dI) (q:=0) gx o8 rfl yJ),.v 9 (dD  (E:=af) (l:=dI) (q:=0) o8 rfl A3 yJ rfl),.v 12 (bn (k:=.i64) (E:=af) (l:=dI) (q:=0) gx o8 rfl D3),.v 13 (dD  (E:=af) (l:=dI) (q:=0) o8 rfl A3 D3 rfl),.v 14 (bn (k:=.i64) (E:=af) (l:=dI) (q:=0) gx o8 rfl Gm),.w 15 IB,.v 16 (bn (k:=.i64) (E:=af) (l:=(dI.set k2.toNat v8)) (q:=0) gx o9 rfl Gn),.w 17 IC] <| q0 <| ⟨((dI.set k2.toNat v8).set (i64.wrap (k2 - (1:Int))).toNat v9,i64.wrap (k2 - (1:Int))),⟨h10,by kernel_rfl,w7⟩,H⟩
 ·exact qx 6 <| ⟨rfl,dI,k2,oi H,.rs aI 0 aw.length 1,.int .i64 i3,.int .i64 k2,.bool (decide (k2 > i3)),h8,by kernel_rfl,o8⟩
theorem aG.D8 (L:Mem)(aI:Nat)(eF:FuncId)(aY aT:List AV)(aw:List Int)(a0:Int)(m0:Int)(b0:Int)(aS:Int→Int→Option (Int))  {kk:Nat}(iz:s7 cf m kk)(gz:aL (.fn eF aY) = .fn eF aY)(gS:∀(h:AHeap) (xs:List AV) (a0:Int) (a1:Int) r,aS a0 a1=some r→aO bO h xs ([.int .i64 a0,.int .i64 a1]++aT)→cf eF xs h=some (.int .i64 r,h))(gT:∀h K,Has h (K++(L))→aO cr h aY aT)(iy:∀h,aO cr h aT aT)  : dZ Try.prog cf lb m (sub [1,1,1,1,1,1,1,0,0,0] (b8 Try.f106)) (fun k (σ:Int × Int)=>aG.l4 m aw a0 m0 b0 aS k σ.1 σ.2) (fun σ s=>match σ with | (fN,r3)=>∃h13,s=⟨.rs aI 0 aw.length 1 :: .int .i64 a0 :: .int .i64 m0 :: .int .i64 b0 :: .fn eF aY::BL (.int .i64 (i64.wrap (iU .u64 (u64.wrap (i64.wrap (a0+b0))) 1)) :: .int .i64 (i64.wrap (i64.wrap (iU .u64 (u64.wrap (i64.wrap (a0+b0))) 1)+m0)) :: .int .i64 fN :: .int .i64 r3 :: .int .i64 (i64.wrap (i64.wrap (i64.wrap (iU .u64 (u64.wrap (i64.wrap (a0+b0))) 1)+m0) - (1:Int)))::FZ []),[],h13⟩∧Has h13 ((aI,.sl aw.length 1 (af.l aw))::L)) (fun out e s=>(e = .exit 8∧∃fN r3,(fN,r3)=out∧∃Od D1 KS h13,s=⟨.rs aI 0 aw.length 1 :: .int .i64 a0 :: .int .i64 m0 :: .int .i64 b0 :: .fn eF aY::BL (.int .i64 (i64.wrap (iU .u64 (u64.wrap (i64.wrap (a0+b0))) 1)) :: .int .i64 (i64.wrap (i64.wrap (iU .u64 (u64.wrap (i64.wrap (a0+b0))) 1)+m0)) :: .int .i64 fN::Od::D1::sU (KS::nw [])),[],h13⟩∧Has h13 ((aI,.sl aw.length 1 (af.l aw))::L))):=by
 refine mI (fun _=>rfl) ?_
 rintro k ⟨fN,r3⟩ s out ⟨h13,rfl,vh⟩ H
 have H:aG.l4 m aw a0 m0 b0 aS (k+1) fN r3=some out:=H
 refine qq <| qq <| q0 <| qc H (fun c9 H=>?_) (fun c9 H=>?_)
 ·refine qk <| qb 9 <| qq <| q0 <| qq ?_
  obtain⟨v12,Hi,H⟩:=bj H
  obtain⟨L2,Hj,H⟩:=bj H
  obtain⟨r4,ID,H⟩:=bj H
  refine qr [.v 5 (bn (k:=.i64) (E:=af) (l:=aw) (q:=0) gx vh rfl Hi),.v 6 (dD  (E:=af) (l:=aw) (q:=0) vh rfl A3 Hi rfl),.v 9 (bn (k:=.i64) (E:=af) (l:=aw) (q:=0) gx vh rfl Hj),.v 10 (dD  (E:=af) (l:=aw) (q:=0) vh rfl A3 Hj rfl),.a 11 (gS _ _ _ _ _ ID (He (ah (br) (ah (br) (ax))) (gT h13 [(aI,.sl aw.length 1 (af.l aw))] vh)))] <| qc H (fun Gj H=>?_) (fun Gj H=>?_)
  ·exact q0 <| ⟨(i64.wrap (i64.wrap (iU .u64 (u64.wrap (i64.wrap (fN+r3))) 1)+(1:Int)),r3),⟨h13,by kernel_rfl,vh⟩,H⟩
  ·exact q0 <| ⟨(fN,i64.wrap (iU .u64 (u64.wrap (i64.wrap (fN+r3))) 1)),⟨h13,by kernel_rfl,vh⟩,H⟩
 ·exact qx 8 <| ⟨rfl,fN,r3,oi H,.int .i64 r3,.int .i64 (i64.wrap (i64.wrap (i64.wrap (iU .u64 (u64.wrap (i64.wrap (a0+b0))) 1)+m0) - (1:Int))),.bool (decide (fN<r3)),h13,by kernel_rfl,vh⟩
theorem so {aV:FuncId→bY}(ha:aV 106=lb)(KT:KL cf m)(aw:List Int)(a0:Int)(m0:Int)(b0:Int)(aS:Int→Int→Option (Int))(h:AHeap)(L:Mem)(aI:Nat)(eF:FuncId)(aY aT:List AV)  {kk:Nat}(iz:s7 cf m kk)(gz:aL (.fn eF aY) = .fn eF aY)(gS:∀(h:AHeap) (xs:List AV) (a0:Int) (a1:Int) r,aS a0 a1=some r→aO bO h xs ([.int .i64 a0,.int .i64 a1]++aT)→cf eF xs h=some (.int .i64 r,h))(gT:∀h K,Has h (K++(L))→aO cr h aY aT)(iy:∀h,aO cr h aT aT)(o:Has h ((aI,.sl aw.length 1 (af.l aw))::L)){out:(List Int)}(H:aG.f m (kk+1) aw a0 m0 b0 aS=some out) :
  ∃r h',a6 Try.prog aV cf m 106 [.rs aI 0 aw.length 1,.int .i64 a0,.int .i64 m0,.int .i64 b0,.fn eF aY] h=some (r,h')∧r = .tup []∧Has h' ((aI,.sl aw.length 1 (af.l out))::L):=by
 refine ar (fn:=Try.f106) ha Try.func106 (by kernel_rfl) (by kernel_rfl) ?_
 refine aH (Q:=fun s=>aG.fin L aI aw a0 m0 b0 aS out s) (fun _ _ ⟨h1,h2,h3⟩=>⟨h1,_,h2,rfl,h3⟩) ?_
 have H:aG.b m (aG.f m kk) aw a0 m0 b0 aS=some out:=H
 unfold aG.b at H
 show dn _ cf lb m _ ⟨.rs aI 0 aw.length 1 :: .int .i64 a0 :: .int .i64 m0 :: .int .i64 b0 :: .fn eF aY::Nj [],[],h⟩ _
 refine qq <| qq <| q0 <| qc H (fun c0 H=>?_) (fun c0 H=>?_)
 ·refine q1 <| qq <| q0 <| qq <| qb 0 ?_
  obtain⟨b6,e3,H⟩:=bj H
  refine ql (aG.dF L aI eF aY aT aw a0 m0 b0 aS  iz gz gS gT iy  (m0,b0) _ _ ⟨h,by kernel_rfl,o⟩ e3) ?_
  rintro e s ⟨rfl,i1,j1,rfl,g0,g1,g2,h1,rfl,o1⟩
  try dsimp only at H
  refine qq <| qq <| q0 <| qb 2 ?_
  obtain⟨dt,sX,H⟩:=bj H
  refine ql (aG.me L aI eF aY aT aw a0 m0 b0 aS i1  iz gz gS gT iy  (aw,a0) _ _ ⟨h1,by kernel_rfl,o1⟩ sX) ?_
  rintro e s ⟨rfl,cZ,k1,rfl,g3,g4,g5,g6,h5,rfl,o5⟩
  try dsimp only at H
  obtain rfl:=oi H
  exact qt <| ⟨.inl rfl,⟨by kernel_rfl,he o5⟩⟩
 ·refine qk <| qq <| qq <| q0 <| qc H (fun c4 H=>?_) (fun c4 H=>?_)
  ·refine q1 <| qq <| q0 <| qq <| qb 4 ?_
   obtain⟨ml,zY,H⟩:=bj H
   refine ql (aG.sm L aI eF aY aT aw a0 m0 b0 aS  iz gz gS gT iy  (a0,m0) _ _ ⟨h,by kernel_rfl,o⟩ zY) ?_
   rintro e s ⟨rfl,i3,j3,rfl,g7,g8,g9,h7,rfl,o7⟩
   try dsimp only at H
   refine qq <| qq <| q0 <| qb 6 ?_
   obtain⟨D6,Hh,H⟩:=bj H
   refine ql (aG.D7 L aI eF aY aT aw a0 m0 b0 aS i3  iz gz gS gT iy  (aw,m0) _ _ ⟨h7,by kernel_rfl,o7⟩ Hh) ?_
   rintro e s ⟨rfl,jb,k3,rfl,g10,g11,g12,g13,h11,rfl,Cs⟩
   try dsimp only at H
   obtain rfl:=oi H
   exact qt <| ⟨.inl rfl,⟨by kernel_rfl,he Cs⟩⟩
  ·refine qk <| qq <| q0 <| qq <| q0 <| qq <| q0 ?_
   obtain⟨sW,DQ,H⟩:=mH H
   refine qj (S:=fun (σ:Int × Int) s=>match σ with | (sj,r2)=>∃(h12:AHeap),s=⟨.rs aI 0 aw.length 1 :: .int .i64 a0 :: .int .i64 m0 :: .int .i64 b0 :: .fn eF aY::BL (.int .i64 (i64.wrap (iU .u64 (u64.wrap (i64.wrap (a0+b0))) 1)) :: .int .i64 (i64.wrap (i64.wrap (iU .u64 (u64.wrap (i64.wrap (a0+b0))) 1)+m0)) :: .int .i64 sj :: .int .i64 r2::Nb []),[],h12⟩∧Has h12 ((aI,.sl aw.length 1 (af.l aw))::L)) sW H ?_ ?_
   ·rintro⟨sj,r2⟩ s ⟨h12,rfl,Cu⟩ H
    have H:=(DQ _).symm.trans H
    try dsimp only at H
    refine q1 <| qq <| qb 8 ?_
    obtain⟨dh,Hk,H⟩:=bj H
    refine ql (aG.D8 L aI eF aY aT aw a0 m0 b0 aS  iz gz gS gT iy  (sj,r2) _ _ ⟨h12,by kernel_rfl,Cu⟩ Hk) ?_
    rintro e s ⟨rfl,eQ,r5,rfl,g14,g15,g16,h14,rfl,vi⟩
    try dsimp only at H
    refine q1 ?_
    obtain⟨KQ,L3,H⟩:=mH H
    refine qj (S:=fun (σ:(List Int)) s=>match σ with | kD=>∃(g17:AV) (g18:AV) (h16:AHeap),s=⟨.rs aI 0 aw.length 1 :: .int .i64 a0::g17 :: .int .i64 b0 :: .fn eF aY::BL (.int .i64 (i64.wrap (iU .u64 (u64.wrap (i64.wrap (a0+b0))) 1)) :: .any :: .int .i64 eQ::sI (.int .i64 (i64.wrap (i64.wrap (i64.wrap (iU .u64 (u64.wrap (i64.wrap (a0+b0))) 1)+m0) - eQ))::sU [g18,.any,.any])),[],h16⟩∧Has h16 ((aI,.sl aw.length 1 (af.l kD))::L)) KQ H ?_ ?_
    ·rintro kD s ⟨g17,g18,h16,rfl,yN⟩ H
     have H:=(L3 _).symm.trans H
     try dsimp only at H
     obtain⟨sk,Fg,H⟩:=mH H
     refine qj (S:=fun (σ:(List Int)) s=>match σ with | oC=>∃(g19:AV) (g20:AV) (g21:AV) (h18:AHeap),s=⟨.rs aI 0 aw.length 1::g19 :: .any :: .int .i64 b0 :: .fn eF aY::BL (.int .i64 (i64.wrap (iU .u64 (u64.wrap (i64.wrap (a0+b0))) 1)) :: .any::g20::sI (.int .i64 (i64.wrap (i64.wrap (i64.wrap (iU .u64 (u64.wrap (i64.wrap (a0+b0))) 1)+m0) - eQ))::uV [g21,.any])),[],h18⟩∧Has h18 ((aI,.sl aw.length 1 (af.l oC))::L)) sk H ?_ ?_
     ·rintro oC s ⟨g19,g20,g21,h18,rfl,Cv⟩ H
      have H:=(Fg _).symm.trans H
      try dsimp only at H
      refine qq ?_
      rcases iw H with⟨IG,H⟩| ⟨IG,H⟩
      ·refine qr [.b 3 IG] <| qc H (fun Sc H=>?_) (fun Sc H=>?_)
       ·obtain⟨x2,L4,H⟩:=bj H
        obtain⟨h19,L5,BY⟩:=iz _ _ _ _ _ _ L4 h18 _ _ _ (Cv) eF aY aT gz gS (fun h' K' o'=>gT h' (K'++[]) (by simpa only [Uv,UQ,UR] using o')) iy [.rs aI 0 aw.length 1,.int .i64 (i64.wrap (iU .u64 (u64.wrap (i64.wrap (a0+b0))) 1)),.int .i64 (i64.wrap (i64.wrap (i64.wrap (iU .u64 (u64.wrap (i64.wrap (a0+b0))) 1)+m0) - eQ)),.int .i64 b0,.fn eF aY] (au (rfl) (au (aN (bg)) (au (aN (bg)) (au (aN (bg)) (au (gz) (bG))))))
        obtain rfl:=oi H
        exact qr [.a 5 L5] <| ⟨.inr rfl,⟨by kernel_rfl,he BY⟩⟩
       ·obtain rfl:=oi H
        exact qk <| ⟨.inr rfl,⟨by kernel_rfl,he Cv⟩⟩
      ·obtain rfl:=oi H
       exact qr [.b 3 IG] <| DA <| qk <| ⟨.inr rfl,⟨by kernel_rfl,he Cv⟩⟩
     clear Fg
     intro IK
     refine qq ?_
     rcases iw H with⟨DV,H⟩| ⟨DV,H⟩
     ·refine qr [.b 3 DV] <| qc H (fun N7 H=>?_) (fun N7 H=>?_)
      ·obtain⟨x1,Oe,H⟩:=bj H
       obtain⟨h17,L6,Cw⟩:=iz _ _ _ _ _ _ Oe h16 _ _ _ (yN) eF aY aT gz gS (fun h' K' o'=>gT h' (K'++[]) (by simpa only [Uv,UQ,UR] using o')) iy [.rs aI 0 aw.length 1,.int .i64 a0,.int .i64 eQ,.int .i64 (i64.wrap (iU .u64 (u64.wrap (i64.wrap (a0+b0))) 1)),.fn eF aY] (au (rfl) (au (aN (bg)) (au (aN (bg)) (au (aN (bg)) (au (gz) (bG))))))
       exact qr [.a 5 L6] <| IK x1 _ ⟨.any,.any,.any,h17,by kernel_rfl,Cw⟩ H
      ·exact qk <| IK kD _ ⟨.int .i64 a0,.int .i64 eQ,.bool (decide (eQ<(i64.wrap (iU .u64 (u64.wrap (i64.wrap (a0+b0))) 1)))),h16,by kernel_rfl,yN⟩ H
     ·exact qr [.b 3 DV] <| DA <| qk <| IK kD _ ⟨.int .i64 a0,.int .i64 eQ,.bool false,h16,by kernel_rfl,yN⟩ H
    clear L3
    intro IL
    refine qq ?_
    rcases iw H with⟨yF,H⟩| ⟨yF,H⟩
    ·refine qr [.b 3 yF] <| qc H (fun DU H=>?_) (fun DU H=>?_)
     ·obtain⟨x0,JD,H⟩:=bj H
      obtain⟨h15,Of,Fl⟩:=KT _ _ _ _ _ _ JD h14 _ _ _ (vi) eF aY aT gz gS (fun h' K' o'=>gT h' (K'++[]) (by simpa only [Uv,UQ,UR] using o')) iy [.rs aI 0 aw.length 1,.int .i64 eQ,.int .i64 m0,.int .i64 (i64.wrap (i64.wrap (i64.wrap (iU .u64 (u64.wrap (i64.wrap (a0+b0))) 1)+m0) - eQ)),.fn eF aY] (au (rfl) (au (aN (bg)) (au (aN (bg)) (au (aN (bg)) (au (gz) (bG))))))
      exact qr [.a 5 Of] <| IL x0 _ ⟨.any,.any,h15,by kernel_rfl,Fl⟩ H
     ·exact qk <| IL aw _ ⟨.int .i64 m0,.bool (decide (m0<(i64.wrap (i64.wrap (i64.wrap (iU .u64 (u64.wrap (i64.wrap (a0+b0))) 1)+m0) - eQ)))),h14,by kernel_rfl,vi⟩ H
    ·exact qr [.b 3 yF] <| DA <| qk <| IL aw _ ⟨.int .i64 m0,.bool false,h14,by kernel_rfl,vi⟩ H
   clear DQ
   intro pt
   refine q1 <| qc H (fun c8 H=>?_) (fun c8 H=>?_)
   ·exact q1 <| q0 <| pt (i64.wrap (i64.wrap (i64.wrap (iU .u64 (u64.wrap (i64.wrap (a0+b0))) 1)+m0) - b0),i64.wrap (iU .u64 (u64.wrap (i64.wrap (a0+b0))) 1)) _ ⟨h,by kernel_rfl,o⟩ H
   ·exact q1 <| q0 <| pt (a0,m0) _ ⟨h,by kernel_rfl,o⟩ H
end
end Go.Proofs.Ytifafejidnjckaa
namespace Go.Proofs.Ytifafejidnjckaa
open Go Go.R
open Go.IntKind (i64 u64 u8 u32)
def Au:bY:=gK [0,1,2,6,7,8,9,10,17,27] [] [1016,984,728,999,830,446,1023,999,999] [(6,[(9,none,0)])] [(0,[(6,none,1)]),(3,[(6,none,1)]),(7,[(6,none,1)])]
def da.f (m:Nat)(s0:ab)(a0:Int)(b0:Int):Option ((List Int) × Int × ab):=(bT.f m s0 ([a0,b0])).bind fun x0=>if (!(x0==(0:Int)))=true then (some (([]:List Int),x0,s0)) else ((az.f m s0 a0 b0).bind fun x1=>if (!x1.2.1)=true then ((ba.f m x1.2.2 x1.1).bind fun x2=>some (([]:List Int),(8:Int),x2)) else ((cp.f m x1.2.2 x1.1).bind fun x3=>some (x3,(0:Int),x1.2.2)))
def da.fin (L:Mem)(ao:Nat)(ak:Nat)(an:Nat)(s0:ab)(a0:Int)(b0:Int)(r:(List Int) × Int × ab)(s:St):Prop:=∃eT aB aC:Nat,aM Try.prog (s.open Au) Try.f16.results.toList=some (.tup [.rs eT 0 r.1.length 1,.int .i64 r.2.1])∧Has s.h ((eT,.sl r.1.length 1 (af.l r.1))::(ao,.ob [.bool r.2.2.aj,.rs aB 0 r.2.2.aa.length 4,.rs aC 0 r.2.2.ae.length 1])::(aB,.sl r.2.2.aa.length 4 (ai.l r.2.2.aa))::(aC,.sl r.2.2.ae.length 1 (af.l r.2.2.ae))::L)
def Qg (cf:CallF)(m:Nat):Prop:=∀(s0:ab) (a0:Int) (b0:Int) (r:(List Int) × Int × ab),da.f m s0 a0 b0=some r→∀h L (ao:Nat) (ak:Nat) (an:Nat),Has h ((ao,.ob [.bool s0.aj,.rs ak 0 s0.aa.length 4,.rs an 0 s0.ae.length 1])::(ak,.sl s0.aa.length 4 (ai.l s0.aa))::(an,.sl s0.ae.length 1 (af.l s0.ae))::L)→∀xs,xs.map aL=[.ptr ao 0,.int .i64 a0,.int .i64 b0]→∃eT aB aC h',cf 16 xs h=some (.tup [.rs eT 0 r.1.length 1,.int .i64 r.2.1],h')∧Has h' ((eT,.sl r.1.length 1 (af.l r.1))::(ao,.ob [.bool r.2.2.aj,.rs aB 0 r.2.2.aa.length 4,.rs aC 0 r.2.2.ae.length 1])::(aB,.sl r.2.2.aa.length 4 (ai.l r.2.2.aa))::(aC,.sl r.2.2.ae.length 1 (af.l r.2.2.ae))::L)
section
variable {cf:CallF}{m:Nat}
theorem ld {aV:FuncId→bY}(ha:aV 16=Au)(D9:LW cf m)(IM:NS cf m)(IN:Nw cf m)(IP:NZ cf m)(s0:ab)(a0:Int)(b0:Int)(h:AHeap)(L:Mem)(ao:Nat)(ak:Nat)(an:Nat)  (o:Has h ((ao,.ob [.bool s0.aj,.rs ak 0 s0.aa.length 4,.rs an 0 s0.ae.length 1])::(ak,.sl s0.aa.length 4 (ai.l s0.aa))::(an,.sl s0.ae.length 1 (af.l s0.ae))::L)){out:(List Int) × Int × ab}(H:da.f m s0 a0 b0=some out) :
  ∃r h',a6 Try.prog aV cf m 16 [.ptr ao 0,.int .i64 a0,.int .i64 b0] h=some (r,h')∧∃eT aB aC:Nat,r = .tup [.rs eT 0 out.1.length 1,.int .i64 out.2.1]∧Has h' ((eT,.sl out.1.length 1 (af.l out.1))::(ao,.ob [.bool out.2.2.aj,.rs aB 0 out.2.2.aa.length 4,.rs aC 0 out.2.2.ae.length 1])::(aB,.sl out.2.2.aa.length 4 (ai.l out.2.2.aa))::(aC,.sl out.2.2.ae.length 1 (af.l out.2.2.ae))::L):=by
 refine ar (fn:=Try.f16) ha Try.func16 (by kernel_rfl) (by kernel_rfl) ?_
 refine aH (Q:=fun s=>da.fin L ao ak an s0 a0 b0 out s) (fun _ _ ⟨h1,eT,aB,aC,h2,h3⟩=>⟨h1,_,h2,eT,aB,aC,rfl,h3⟩) ?_
 have H:_=some out:=H
 unfold da.f at H
 show dn _ cf Au m _ ⟨.ptr ao 0 :: .int .i64 a0 :: .int .i64 b0::FY [],[],h⟩ _
 refine q1 <| qq <| qq ?_
 obtain⟨x0,e0,H⟩:=bj H
 refine qr [.a 4 (D9 _ _ _ e0 h _ (fq (ah (cJ (q:=0) o rfl (ah (dR) (ah (cF (E:=ai) (l:=s0.aa) (q:=1) o rfl (fun _=>rfl)) (ah (cF (E:=af) (l:=s0.ae) (q:=2) o rfl (fun _=>rfl)) (ax))))) (ah (ph (E:=af) (l:=[a0,b0]) (cs:=[.int .i64 a0,.int .i64 b0]) (b:=true) (by kernel_rfl) (by kernel_rfl) rfl) (ax)))))] <| qq <| q0 <| qc H (fun c0 H=>?_) (fun c0 H=>?_)
 ·refine q1 ?_
  have o0:Has h (((0),.sl (([]:List Int).length) 1 (af.l ([]:List Int)))::(ao,.ob [.bool s0.aj,.rs ak 0 s0.aa.length 4,.rs an 0 s0.ae.length 1])::(ak,.sl s0.aa.length 4 (ai.l s0.aa))::(an,.sl s0.ae.length 1 (af.l s0.ae))::L):=Has.nil o 1
  obtain rfl:=oi H
  exact qt <| ⟨.inl rfl,⟨(0),ak,an,by kernel_rfl,he o0⟩⟩
 ·refine qk <| qq ?_
  obtain⟨x1,e1,H⟩:=bj H
  obtain⟨aI,eh,eO,h0,e2,o1⟩:=IM _ _ _ _ e1 h _ _ _ _ (o)  [.ptr ao 0,.int .i64 a0,.int .i64 b0] (au (rfl) (au (aN (bg)) (au (aN (bg)) (bG))))
  refine qr [.a 3 e2] <| qq <| qq <| q0 <| qc H (fun c1 H=>?_) (fun c1 H=>?_)
  ·refine qq ?_
   obtain⟨h1,e3,o2⟩:=rR (E:=af) (l:=x1.1) (q:=0) o1 rfl
   obtain⟨x2,e4,H⟩:=bj H
   obtain⟨dG,eH,h2,e5,o3⟩:=IN _ _ _ e4 h1 _ _ _ _ (o2)  [.ptr ao 0,af.fz x1.1] (au (rfl) (au (aN (lZ (E:=af))) (bG)))
   refine Kt [.a 0 e3] [.a 2 e5] <| qq <| q0 ?_
   have o4:Has h2 ((((0)),.sl (([]:List Int).length) 1 (af.l ([]:List Int)))::(ao,.ob [.bool x2.aj,.rs dG 0 x2.aa.length 4,.rs eH 0 x2.ae.length 1])::(dG,.sl x2.aa.length 4 (ai.l x2.aa))::(eH,.sl x2.ae.length 1 (af.l x2.ae))::L):=Has.nil o3 1
   obtain rfl:=oi H
   exact qt <| ⟨.inl rfl,⟨((0)),dG,eH,by kernel_rfl,he o4⟩⟩
  ·refine qk <| qq ?_
   obtain⟨x3,e6,H⟩:=bj H
   obtain⟨fE,h3,e7,o5,HD⟩:=IP _ _ _ e6 h0 _ _ o1 (fq (ah (cJ (q:=1) o1 rfl (ah (dR) (ah (cF (E:=ai) (l:=x1.2.2.aa) (q:=2) o1 rfl (fun _=>rfl)) (ah (cF (E:=af) (l:=x1.2.2.ae) (q:=3) o1 rfl (fun _=>rfl)) (ax))))) (ah (cF (E:=af) (l:=x1.1) (q:=0) o1 rfl (fun _=>rfl)) (ax))))
   refine qr [.a 2 e7] ?_
   have o6:Has h3 ((fE,.sl x3.length 1 (af.l x3))::(ao,.ob [.bool x1.2.2.aj,.rs eh 0 x1.2.2.aa.length 4,.rs eO 0 x1.2.2.ae.length 1])::(eh,.sl x1.2.2.aa.length 4 (ai.l x1.2.2.aa))::(eO,.sl x1.2.2.ae.length 1 (af.l x1.2.2.ae))::L):=Has.del o5 1
   obtain rfl:=oi H
   exact qt <| ⟨.inl rfl,⟨fE,eh,eO,by kernel_rfl,he o6⟩⟩
end
end Go.Proofs.Ytifafejidnjckaa
namespace Go.Proofs.Ytifafejidnjckaa
open Go Go.R
open Go.IntKind (i64 u64 u8 u32)
def jS.f (m:Nat)(s0:ab)(n0:Int):Option (aq × Int):=(bT.f m s0 ([n0])).bind fun x0=>if (!(x0==(0:Int)))=true then (some ((aq.mk (0:Int) (0:Int) (U3 #[]) ([]:List Int)),x0)) else ((a7.f m s0 n0).bind fun x1=>(gi.f m s0 x1).bind fun x2=>some (x2,(0:Int)))
end Go.Proofs.Ytifafejidnjckaa
namespace Go.Proofs.Ytifafejidnjckaa
open Go Go.R
open Go.IntKind (i64 u64 u8 u32)
def Av:bY:=gK [0,1,2,6,7,8,9,10,11,12,19,34,37] [] [8184,8120,7096,8135,7806,7806,7423,5631,8135,3583,8135,8135] [(5,[(10,none,0)])] [(0,[(7,none,1)]),(3,[(7,none,1)]),(8,[(7,none,1)]),(10,[(7,none,1)])]
def du.f (m:Nat)(s0:ab)(a0:Int)(b0:Int):Option (Int × (List Int) × Int × ab):=(bT.f m s0 ([a0,b0])).bind fun x0=>if (!(x0==(0:Int)))=true then (some ((0:Int),([]:List Int),x0,s0)) else ((az.f m s0 a0 b0).bind fun x1=>(ba.f m x1.2.2 x1.1).bind fun x2=>(cp.f m x2 x1.1).bind fun x3=>if (!x1.2.1)=true then (some ((0:Int),([]:List Int),(0:Int),x2)) else (if ((x3.length:Int)==(0:Int))=true then (some ((1:Int),([]:List Int),(0:Int),x2)) else (some ((-1:Int),x3,(0:Int),x2))))
def du.fin (L:Mem)(ao:Nat)(ak:Nat)(an:Nat)(s0:ab)(a0:Int)(b0:Int)(r:Int × (List Int) × Int × ab)(s:St):Prop:=∃Cy aB aC:Nat,aM Try.prog (s.open Av) Try.f23.results.toList=some (.tup [.int .i64 r.1,.rs Cy 0 r.2.1.length 1,.int .i64 r.2.2.1])∧Has s.h ((Cy,.sl r.2.1.length 1 (af.l r.2.1))::(ao,.ob [.bool r.2.2.2.aj,.rs aB 0 r.2.2.2.aa.length 4,.rs aC 0 r.2.2.2.ae.length 1])::(aB,.sl r.2.2.2.aa.length 4 (ai.l r.2.2.2.aa))::(aC,.sl r.2.2.2.ae.length 1 (af.l r.2.2.2.ae))::L)
def Qh (cf:CallF)(m:Nat):Prop:=∀(s0:ab) (a0:Int) (b0:Int) (r:Int × (List Int) × Int × ab),du.f m s0 a0 b0=some r→∀h L (ao:Nat) (ak:Nat) (an:Nat),Has h ((ao,.ob [.bool s0.aj,.rs ak 0 s0.aa.length 4,.rs an 0 s0.ae.length 1])::(ak,.sl s0.aa.length 4 (ai.l s0.aa))::(an,.sl s0.ae.length 1 (af.l s0.ae))::L)→∀xs,xs.map aL=[.ptr ao 0,.int .i64 a0,.int .i64 b0]→∃Cy aB aC h',cf 23 xs h=some (.tup [.int .i64 r.1,.rs Cy 0 r.2.1.length 1,.int .i64 r.2.2.1],h')∧Has h' ((Cy,.sl r.2.1.length 1 (af.l r.2.1))::(ao,.ob [.bool r.2.2.2.aj,.rs aB 0 r.2.2.2.aa.length 4,.rs aC 0 r.2.2.2.ae.length 1])::(aB,.sl r.2.2.2.aa.length 4 (ai.l r.2.2.2.aa))::(aC,.sl r.2.2.2.ae.length 1 (af.l r.2.2.2.ae))::L)
section
variable {cf:CallF}{m:Nat}
theorem lG {aV:FuncId→bY}(ha:aV 23=Av)(D9:LW cf m)(IM:NS cf m)(IN:Nw cf m)(IP:NZ cf m)(s0:ab)(a0:Int)(b0:Int)(h:AHeap)(L:Mem)(ao:Nat)(ak:Nat)(an:Nat)  (o:Has h ((ao,.ob [.bool s0.aj,.rs ak 0 s0.aa.length 4,.rs an 0 s0.ae.length 1])::(ak,.sl s0.aa.length 4 (ai.l s0.aa))::(an,.sl s0.ae.length 1 (af.l s0.ae))::L)){out:Int × (List Int) × Int × ab}(H:du.f m s0 a0 b0=some out) :
  ∃r h',a6 Try.prog aV cf m 23 [.ptr ao 0,.int .i64 a0,.int .i64 b0] h=some (r,h')∧∃Cy aB aC:Nat,r = .tup [.int .i64 out.1,.rs Cy 0 out.2.1.length 1,.int .i64 out.2.2.1]∧Has h' ((Cy,.sl out.2.1.length 1 (af.l out.2.1))::(ao,.ob [.bool out.2.2.2.aj,.rs aB 0 out.2.2.2.aa.length 4,.rs aC 0 out.2.2.2.ae.length 1])::(aB,.sl out.2.2.2.aa.length 4 (ai.l out.2.2.2.aa))::(aC,.sl out.2.2.2.ae.length 1 (af.l out.2.2.2.ae))::L):=by
 refine ar (fn:=Try.f23) ha Try.func23 (by kernel_rfl) (by kernel_rfl) ?_
 refine aH (Q:=fun s=>du.fin L ao ak an s0 a0 b0 out s) (fun _ _ ⟨h1,Cy,aB,aC,h2,h3⟩=>⟨h1,_,h2,Cy,aB,aC,rfl,h3⟩) ?_
 have H:_=some out:=H
 unfold du.f at H
 show dn _ cf Av m _ ⟨.ptr ao 0 :: .int .i64 a0 :: .int .i64 b0::Kr [],[],h⟩ _
 refine q1 <| qq <| qq ?_
 obtain⟨x0,e0,H⟩:=bj H
 refine qr [.a 4 (D9 _ _ _ e0 h _ (fq (ah (cJ (q:=0) o rfl (ah (dR) (ah (cF (E:=ai) (l:=s0.aa) (q:=1) o rfl (fun _=>rfl)) (ah (cF (E:=af) (l:=s0.ae) (q:=2) o rfl (fun _=>rfl)) (ax))))) (ah (ph (E:=af) (l:=[a0,b0]) (cs:=[.int .i64 a0,.int .i64 b0]) (b:=true) (by kernel_rfl) (by kernel_rfl) rfl) (ax)))))] <| qq <| q0 <| qc H (fun c0 H=>?_) (fun c0 H=>?_)
 ·refine q1 ?_
  have o0:Has h (((0),.sl (([]:List Int).length) 1 (af.l ([]:List Int)))::(ao,.ob [.bool s0.aj,.rs ak 0 s0.aa.length 4,.rs an 0 s0.ae.length 1])::(ak,.sl s0.aa.length 4 (ai.l s0.aa))::(an,.sl s0.ae.length 1 (af.l s0.ae))::L):=Has.nil o 1
  obtain rfl:=oi H
  exact qt <| ⟨.inl rfl,⟨(0),ak,an,by kernel_rfl,he o0⟩⟩
 ·refine qk <| qq ?_
  obtain⟨x1,e1,H⟩:=bj H
  obtain⟨aI,eh,eO,h0,e2,o1⟩:=IM _ _ _ _ e1 h _ _ _ _ (o)  [.ptr ao 0,.int .i64 a0,.int .i64 b0] (au (rfl) (au (aN (bg)) (au (aN (bg)) (bG))))
  refine qr [.a 3 e2] <| qq ?_
  obtain⟨h1,e3,o2⟩:=rR (E:=af) (l:=x1.1) (q:=0) o1 rfl
  obtain⟨x2,e4,H⟩:=bj H
  obtain⟨dG,eH,h2,e5,o3⟩:=IN _ _ _ e4 h1 _ _ _ _ (o2)  [.ptr ao 0,af.fz x1.1] (au (rfl) (au (aN (lZ (E:=af))) (bG)))
  refine Kt [.a 0 e3] [.a 2 e5] <| qq ?_
  obtain⟨x3,e6,H⟩:=bj H
  obtain⟨fE,h3,e7,o4,HD⟩:=IP _ _ _ e6 h2 _ _ o3 (fq (ah (cJ (q:=0) o3 rfl (ah (dR) (ah (cF (E:=ai) (l:=x2.aa) (q:=1) o3 rfl (fun _=>rfl)) (ah (cF (E:=af) (l:=x2.ae) (q:=2) o3 rfl (fun _=>rfl)) (ax))))) (ah (fe (E:=af)) (ax))))
  refine qr [.a 2 e7] <| qq <| qb 0 <| qq <| q0 <| qc H (fun c1 H=>?_) (fun c1 H=>?_)
  ·refine q1 ?_
   have o5:Has h3 ((((0)),.sl (([]:List Int).length) 1 (af.l ([]:List Int)))::(fE,.sl x3.length 1 (af.l x3))::(ao,.ob [.bool x2.aj,.rs dG 0 x2.aa.length 4,.rs eH 0 x2.ae.length 1])::(dG,.sl x2.aa.length 4 (ai.l x2.aa))::(eH,.sl x2.ae.length 1 (af.l x2.ae))::L):=Has.nil o4 1
   have o6:Has h3 ((((0)),.sl (([]:List Int).length) 1 (af.l ([]:List Int)))::(ao,.ob [.bool x2.aj,.rs dG 0 x2.aa.length 4,.rs eH 0 x2.ae.length 1])::(dG,.sl x2.aa.length 4 (ai.l x2.aa))::(eH,.sl x2.ae.length 1 (af.l x2.ae))::L):=Has.del o5 1
   obtain rfl:=oi H
   exact qt <| ⟨.inl rfl,⟨((0)),dG,eH,by kernel_rfl,he o6⟩⟩
  ·refine q1 <| qc H (fun c2 H=>?_) (fun c2 H=>?_)
   ·refine q1 ?_
    have o7:Has h3 (((((0))),.sl (([]:List Int).length) 1 (af.l ([]:List Int)))::(fE,.sl x3.length 1 (af.l x3))::(ao,.ob [.bool x2.aj,.rs dG 0 x2.aa.length 4,.rs eH 0 x2.ae.length 1])::(dG,.sl x2.aa.length 4 (ai.l x2.aa))::(eH,.sl x2.ae.length 1 (af.l x2.ae))::L):=Has.nil o4 1
    have o8:Has h3 (((((0))),.sl (([]:List Int).length) 1 (af.l ([]:List Int)))::(ao,.ob [.bool x2.aj,.rs dG 0 x2.aa.length 4,.rs eH 0 x2.ae.length 1])::(dG,.sl x2.aa.length 4 (ai.l x2.aa))::(eH,.sl x2.ae.length 1 (af.l x2.ae))::L):=Has.del o7 1
    obtain rfl:=oi H
    exact qt <| ⟨.inl rfl,⟨(((0))),dG,eH,by kernel_rfl,he o8⟩⟩
   ·obtain rfl:=oi H
    exact qk <| qq <| q0 <| qt <| ⟨.inl rfl,⟨fE,dG,eH,by kernel_rfl,he o4⟩⟩
end
end Go.Proofs.Ytifafejidnjckaa
namespace Go.Proofs.Ytifafejidnjckaa
open Go Go.R
open Go.IntKind (i64 u64 u8 u32)
def Aw:bY:=gK [0,1,4,5,6,12] [] [60,44,12,51,51] [] []
def dO.f (m:Nat)(s0:ab)(n0:Int):Option (Int × Int):=(bT.f m s0 ([n0])).bind fun x0=>if (!(x0==(0:Int)))=true then (some ((0:Int),x0)) else ((a7.f m s0 n0).bind fun x1=>some (x1,(0:Int)))
def dO.fin (L:Mem)(r:Int × Int)(s:St):Prop:=∃av,aM Try.prog (s.open Aw) Try.f24.results.toList=some av∧ff s.h av (.tup [.int .i64 r.1,.int .i64 r.2])
def Og (cf:CallF)(m:Nat):Prop:=∀(s0:ab) (n0:Int) (r:Int × Int),dO.f m s0 n0=some r→∀h xs,aO bO h xs [.fp [.bool s0.aj,ai.fz s0.aa,af.fz s0.ae] 0,.int .i64 n0]→cf 24 xs h=some (.tup [.int .i64 r.1,.int .i64 r.2],h)
section
variable {cf:CallF}{m:Nat}
theorem mn {aV:FuncId→bY}(ha:aV 24=Aw)(D9:LW cf m)(BW:LR cf m)(s0:ab)(n0:Int)(h:AHeap)(L:Mem)  (o:Has h (L)){out:Int × Int}(H:dO.f m s0 n0=some out) :
  ∃r h',a6 Try.prog aV cf m 24 [.fp [.bool s0.aj,ai.fz s0.aa,af.fz s0.ae] 0,.int .i64 n0] h=some (r,h')∧ff h' r (.tup [.int .i64 out.1,.int .i64 out.2]):=by
 refine ar (fn:=Try.f24) ha Try.func24 (by kernel_rfl) (by kernel_rfl) ?_
 refine aH (Q:=fun s=>dO.fin L out s) (fun _ _ h=>h) ?_
 have H:_=some out:=H
 unfold dO.f at H
 show dn _ cf Aw m _ ⟨.fp [.bool s0.aj,ai.fz s0.aa,af.fz s0.ae] 0 :: .int .i64 n0::nw [],[],h⟩ _
 refine q1 <| qq <| qq ?_
 obtain⟨x0,e0,H⟩:=bj H
 refine qr [.a 3 (D9 _ _ _ e0 h _ (fq (ah (fX (pure_cons (dN) (pure_cons (bJ.bw (E:=ai) (l:=s0.aa)) (pure_cons (bJ.bw (E:=af) (l:=s0.ae)) (pure_nil))))) (ah (ph (E:=af) (l:=[n0]) (cs:=[.int .i64 n0]) (b:=true) (by kernel_rfl) (by kernel_rfl) rfl) (ax)))))] <| qq <| q0 <| qc H (fun c0 H=>?_) (fun c0 H=>?_)
 ·obtain rfl:=oi H
  exact q1 <| qt <| ⟨.inl rfl,dA (.tup [.int .i64 (0:Int),.int .i64 x0]) h (dz (Du (qU (dd) (qU (dd) (Dt)))))⟩
 ·refine qk <| qq ?_
  obtain⟨x1,e1,H⟩:=bj H
  obtain rfl:=oi H
  exact qr [.a 2 (BW _ _ _ e1 h _ (fq (ah (fX (pure_cons (dN) (pure_cons (bJ.bw (E:=ai) (l:=s0.aa)) (pure_cons (bJ.bw (E:=af) (l:=s0.ae)) (pure_nil))))) (ah (br) (ax)))))] <| qt <| ⟨.inl rfl,dA (.tup [.int .i64 x1,.int .i64 (0:Int)]) h (dz (Du (qU (dd) (qU (dd) (Dt)))))⟩
end
end Go.Proofs.Ytifafejidnjckaa
namespace Go.Proofs.Ytifafejidnjckaa
open Go Go.R
open Go.IntKind (i64 u64 u8 u32)
def Ax:bY:=gK [0,1,2,3,4,5,6,7,8] [1000000014] [455,199,319] [] []
def dL.f (m:Nat)(s0:ab)(ca:ByteArray)(dq:List Int):Option (Int × Int × ab):=(F7 1 dq).bind fun x0=>(bZ.f m s0 (cj.f m ca dq s0) (aq.mk (3:Int) (0:Int) ca x0)).bind fun x1=>some (x1.1,x1.2.1,x1.2.2)
def dL.fin (L:Mem)(ao:Nat)(ak:Nat)(an:Nat)(s0:ab)(ca:ByteArray)(dq:List Int)(r:Int × Int × ab)(s:St):Prop:=∃aB aC:Nat,aM Try.prog (s.open Ax) Try.f34.results.toList=some (.tup [.int .i64 r.1,.int .i64 r.2.1])∧Has s.h ((ao,.ob [.bool r.2.2.aj,.rs aB 0 r.2.2.aa.length 4,.rs aC 0 r.2.2.ae.length 1])::(aB,.sl r.2.2.aa.length 4 (ai.l r.2.2.aa))::(aC,.sl r.2.2.ae.length 1 (af.l r.2.2.ae))::L)
def Qi (cf:CallF)(m:Nat):Prop:=∀(s0:ab) (ca:ByteArray) (dq:List Int) (r:Int × Int × ab),dL.f m s0 ca dq=some r→∀h L (ao:Nat) (ak:Nat) (an:Nat),Has h ((ao,.ob [.bool s0.aj,.rs ak 0 s0.aa.length 4,.rs an 0 s0.ae.length 1])::(ak,.sl s0.aa.length 4 (ai.l s0.aa))::(an,.sl s0.ae.length 1 (af.l s0.ae))::L)→∀xs,xs.map aL=[.ptr ao 0,.str ca,af.fz dq]→∃aB aC h',cf 34 xs h=some (.tup [.int .i64 r.1,.int .i64 r.2.1],h')∧Has h' ((ao,.ob [.bool r.2.2.aj,.rs aB 0 r.2.2.aa.length 4,.rs aC 0 r.2.2.ae.length 1])::(aB,.sl r.2.2.aa.length 4 (ai.l r.2.2.aa))::(aC,.sl r.2.2.ae.length 1 (af.l r.2.2.ae))::L)
section
variable {cf:CallF}{m:Nat}
theorem lf {aV:FuncId→bY}(ha:aV 34=Ax)(IQ:PK cf m)(vf:JC cf m)(Oh:Qd cf m)(s0:ab)(ca:ByteArray)(dq:List Int)(h:AHeap)(L:Mem)(ao:Nat)(ak:Nat)(an:Nat)  (o:Has h ((ao,.ob [.bool s0.aj,.rs ak 0 s0.aa.length 4,.rs an 0 s0.ae.length 1])::(ak,.sl s0.aa.length 4 (ai.l s0.aa))::(an,.sl s0.ae.length 1 (af.l s0.ae))::L)){out:Int × Int × ab}(H:dL.f m s0 ca dq=some out) :
  ∃r h',a6 Try.prog aV cf m 34 [.ptr ao 0,.str ca,af.fz dq] h=some (r,h')∧∃aB aC:Nat,r = .tup [.int .i64 out.1,.int .i64 out.2.1]∧Has h' ((ao,.ob [.bool out.2.2.aj,.rs aB 0 out.2.2.aa.length 4,.rs aC 0 out.2.2.ae.length 1])::(aB,.sl out.2.2.aa.length 4 (ai.l out.2.2.aa))::(aC,.sl out.2.2.ae.length 1 (af.l out.2.2.ae))::L):=by
 refine ar (fn:=Try.f34) ha Try.func34 (by kernel_rfl) (by kernel_rfl) ?_
 refine aH (Q:=fun s=>dL.fin L ao ak an s0 ca dq out s) (fun _ _ ⟨h1,aB,aC,h2,h3⟩=>⟨h1,_,h2,aB,aC,rfl,h3⟩) ?_
 have H:_=some out:=H
 unfold dL.f at H
 show dn _ cf Ax m _ ⟨.ptr ao 0 :: .str ca::af.fz dq::wM [],[none],h⟩ _
 refine qq ?_
 obtain⟨aI,h0,e0,o0⟩:=gg (cs:=[.ptr ao 0]) o (by kernel_rfl)
 obtain⟨eh,h1,e1,o1⟩:=gg (cs:=[.str ca]) o0 (by kernel_rfl)
 obtain⟨eO,h2,e2,o2⟩:=gg (cs:=[af.fz dq]) o1 (by kernel_rfl)
 refine qr [.a 0 e0,.a 1 e1,.a 2 e2] <| qq <| q0 <| qq ?_
 obtain⟨x0,e3,H⟩:=bj H
 obtain⟨dG,h3,e4,o3⟩:=Ky (E:=af) (l:=dq) IQ o2 e3
 obtain⟨h4,e5,o4⟩:=rR (E:=af) (l:=x0) (q:=0) o3 rfl
 obtain⟨x1,e6,H⟩:=bj H
 obtain⟨eH,fE,h5,e7,o5⟩:=vf _ _ _ _ e6 h4 _ _ _ _ ((Has.front (Has.front (Has.front (Has.front (Has.front (Has.front o4 2 rfl) 2 rfl) 2 rfl) 5 rfl) 5 rfl) 5 rfl)) 61 [.ptr eh 0,.ptr eO 0,.ptr aI 0] [.fp [.str ca] 0,.fp [af.fz dq] 0,.fp [.fp [.bool s0.aj,ai.fz s0.aa,af.fz s0.ae] 0] 0] rfl (fun h' sY  r hr hx=>Oh _ _ _ r hr h' sY hx) (fun h' K' o'=>iC (ah (cJ (q:=(K'.length+4)) o' (iZ rfl) (ah (cH) (ax))) (ah (cJ (q:=(K'.length+3)) o' (iZ rfl) (ah (fe (E:=af)) (ax))) (ah (cJ (q:=(K'.length+5)) o' (iZ rfl) (ah (cJ (q:=(K'.length+0)) o' (iZ rfl) (ah (dR) (ah (cF (E:=ai) (l:=s0.aa) (q:=(K'.length+1)) o' (iZ rfl) (fun _=>rfl)) (ah (cF (E:=af) (l:=s0.ae) (q:=(K'.length+2)) o' (iZ rfl) (fun _=>rfl)) (ax))))) (ax))) (ax))))) (fun h_=>iC (ah (fX (pure_cons (jB) (pure_nil))) (ah (fX (pure_cons (bJ.bw (E:=af) (l:=dq)) (pure_nil))) (ah (fX (pure_cons (kV (pure_cons (dN) (pure_cons (bJ.bw (E:=ai) (l:=s0.aa)) (pure_cons (bJ.bw (E:=af) (l:=s0.ae)) (pure_nil))))) (pure_nil))) (ax))))) [.ptr ao 0,.fn 61 [.ptr eh 0,.ptr eO 0,.ptr aI 0],.agg [.int .i64 (3:Int),.int .i64 (0:Int),.str ca,af.fz x0]] (au (rfl) (au (rfl) (au (aN (l8 (bP (bg) (bP (bg) (bP (j6) (bP (lZ (E:=af)) (l7))))))) (bG))))
 refine Kz [] [.v 0 (show bl Try.prog h2 28 (.ptr aI 0)=some (.ptr ao 0) from bX (q:=2) (cs:=[.ptr ao 0]) o2 rfl (by kernel_rfl)),.v 2 (show bl Try.prog h2 9 (.ptr eh 0)=some (.str ca) from bX (q:=1) (cs:=[.str ca]) o2 rfl (by kernel_rfl)),.v 3 (show bl Try.prog h2 33 (.ptr eO 0)=some (af.fz dq) from bX (q:=0) (cs:=[af.fz dq]) o2 rfl (by kernel_rfl)),.a 4 (KA e4 e5),.a 6 e7] [.mk ((DH IQ o2 (q2:=2) rfl e4).trans (DJ (E:=af) (l:=x0) o3 (q:=0) (q2:=3) rfl rfl e5)),.mk ((DH IQ o2 (q2:=1) rfl e4).trans (DJ (E:=af) (l:=x0) o3 (q:=0) (q2:=2) rfl rfl e5))] ?_
 have o6:Has h5 ((ao,.ob [.bool x1.2.2.aj,.rs eH 0 x1.2.2.aa.length 4,.rs fE 0 x1.2.2.ae.length 1])::(eH,.sl x1.2.2.aa.length 4 (ai.l x1.2.2.aa))::(fE,.sl x1.2.2.ae.length 1 (af.l x1.2.2.ae))::(eO,.ob [af.fz dq])::(eh,.ob [.str ca])::L):=Has.del o5 5
 have o7:Has h5 ((ao,.ob [.bool x1.2.2.aj,.rs eH 0 x1.2.2.aa.length 4,.rs fE 0 x1.2.2.ae.length 1])::(eH,.sl x1.2.2.aa.length 4 (ai.l x1.2.2.aa))::(fE,.sl x1.2.2.ae.length 1 (af.l x1.2.2.ae))::(eO,.ob [af.fz dq])::L):=Has.del o6 4
 have o8:Has h5 ((ao,.ob [.bool x1.2.2.aj,.rs eH 0 x1.2.2.aa.length 4,.rs fE 0 x1.2.2.ae.length 1])::(eH,.sl x1.2.2.aa.length 4 (ai.l x1.2.2.aa))::(fE,.sl x1.2.2.ae.length 1 (af.l x1.2.2.ae))::L):=Has.del o7 3
 obtain rfl:=oi H
 exact qt <| ⟨.inl rfl,⟨eH,fE,by kernel_rfl,he o8⟩⟩
end
end Go.Proofs.Ytifafejidnjckaa
namespace Go.Proofs.Ytifafejidnjckaa
open Go Go.R
open Go.IntKind (i64 u64 u8 u32)
def Ay:bY:=gK [0,1] [] [2,1] [] []
def dk.f (m:Nat)(x0:ByteArray):Option (Bool):=(fu.f m x0).bind fun x1=>some x1
def dk.fin (L:Mem)(r:Bool)(s:St):Prop:=∃av,aM Try.prog (s.open Ay) Try.f49.results.toList=some av∧ff s.h av (.bool r)
def Qj (cf:CallF)(m:Nat):Prop:=∀(x0:ByteArray) (r:Bool),dk.f m x0=some r→∀h xs,aO bO h xs [.fp [.str x0] 0]→cf 49 xs h=some (.bool r,h)
section
variable {cf:CallF}{m:Nat}
theorem kE {aV:FuncId→bY}(ha:aV 49=Ay)(py:LX cf m)(x0:ByteArray)(h:AHeap)(L:Mem)  (o:Has h (L)){out:Bool}(H:dk.f m x0=some out) :
  ∃r h',a6 Try.prog aV cf m 49 [.fp [.str x0] 0] h=some (r,h')∧ff h' r (.bool out):=by
 refine ar (fn:=Try.f49) ha Try.func49 (by kernel_rfl) (by kernel_rfl) ?_
 refine aH (Q:=fun s=>dk.fin L out s) (fun _ _ h=>h) ?_
 have H:_=some out:=H
 unfold dk.f at H
 show dn _ cf Ay m _ ⟨[.fp [.str x0] 0,.any],[],h⟩ _
 refine q1 <| qq ?_
 obtain⟨x1,e0,H⟩:=bj H
 obtain rfl:=oi H
 exact qr [.a 1 (py _ _ e0 h _ (fq (ah (cH) (ax))))] <| qt <| ⟨.inl rfl,dA (.bool x1) h (dz (aD))⟩
end
end Go.Proofs.Ytifafejidnjckaa
namespace Go.Proofs.Ytifafejidnjckaa
open Go Go.R
open Go.IntKind (i64 u64 u8 u32)
def Az:bY:=gK [0,1,2,3] [2] [9,7] [] []
def fO.f (m:Nat)(n0:aq)(x0:bu):Option (Bool):=(hZ.f m n0 (x0.nodes.length:Int)).bind fun x1=>some (!x1)
def fO.fin (L:Mem)(r:Bool)(s:St):Prop:=∃av,aM Try.prog (s.open Az) Try.f66.results.toList=some av∧ff s.h av (.bool r)
def Qk (cf:CallF)(m:Nat):Prop:=∀(n0:aq) (x0:bu) (r:Bool),fO.f m n0 x0=some r→∀h xs,aO bO h xs [.agg [.int .i64 n0.kind,.int .i64 n0.int,.str n0.label,af.fz n0.args],.fp [ai.fz x0.nodes,.int .i64 x0.root] 0]→cf 66 xs h=some (.bool r,h)
section
variable {cf:CallF}{m:Nat}
theorem oD {aV:FuncId→bY}(ha:aV 66=Az)(Oi:Qe cf m)(n0:aq)(x0:bu)(h:AHeap)(L:Mem)  (o:Has h (L)){out:Bool}(H:fO.f m n0 x0=some out) :
  ∃r h',a6 Try.prog aV cf m 66 [.agg [.int .i64 n0.kind,.int .i64 n0.int,.str n0.label,af.fz n0.args],.fp [ai.fz x0.nodes,.int .i64 x0.root] 0] h=some (r,h')∧ff h' r (.bool out):=by
 refine ar (fn:=Try.f66) ha Try.func66 (by kernel_rfl) (by kernel_rfl) ?_
 refine aH (Q:=fun s=>fO.fin L out s) (fun _ _ h=>h) ?_
 have H:_=some out:=H
 unfold fO.f at H
 show dn _ cf Az m _ ⟨[.agg [.int .i64 n0.kind,.int .i64 n0.int,.str n0.label,af.fz n0.args],.fp [ai.fz x0.nodes,.int .i64 x0.root] 0,.any,.any],[none],h⟩ _
 refine q1 <| qq ?_
 obtain⟨x1,e0,H⟩:=bj H
 obtain rfl:=oi H
 exact qr [.a 4 (Oi _ _ _ e0 h _ (fq (ah (iY (ah (br) (ah (br) (ah (cH) (ah (fe (E:=af)) (ax)))))) (ah (br) (ax)))))] <| qt <| ⟨.inl rfl,dA (.bool (!x1)) h (dz (aD))⟩
end
end Go.Proofs.Ytifafejidnjckaa
namespace Go.Proofs.Ytifafejidnjckaa
open Go Go.R
open Go.IntKind (i64 u64 u8 u32)
end Go.Proofs.Ytifafejidnjckaa
namespace Go.Proofs.Ytifafejidnjckaa
open Go Go.R
open Go.IntKind (i64 u64 u8 u32)
def sq:bY:=gK [0,1,2,6,7,8,9,13,30,35,54] [] [2032,1984,1856,2000,1984,1984,2032,1776,1984,1472,2000,1984,1984,1952,928,2032,2032] [] []
def bM.l0 (m:Nat)(n0:Int)(aS:Int→Int→Option (Int)):Nat→(List Int)→Int→Int→Option ((List Int) × Int × Int)
 | 0,_,_,_=>none
 | k+1,bk,a0,b0=>if (decide (b0≤n0))=true then ((aU.f m bk a0 b0 aS).bind fun x0=>bM.l0 m n0 aS k x0 b0 (i64.wrap (b0+(20:Int)))) else (some ((bk,a0,b0)))
def bM.l2 (m:Nat)(n0:Int)(aS:Int→Int→Option (Int))(bc:Int):Nat→(List Int)→Int→Int→Option ((List Int) × Int × Int)
 | 0,_,_,_=>none
 | k+1,jb,a2,b2=>if (decide (b2≤n0))=true then ((aG.f m m jb a2 (i64.wrap (a2+bc)) b2 aS).bind fun x2=>bM.l2 m n0 aS bc k x2 b2 (i64.wrap (b2+i64.wrap ((2:Int)*bc)))) else (some ((jb,a2,b2)))
def bM.l1 (m:Nat)(n0:Int)(aS:Int→Int→Option (Int)):Nat→(List Int)→Int→Option ((List Int) × Int)
 | 0,_,_=>none
 | k+1,dI,bc=>if (decide (bc<n0))=true then ((bM.l2 m n0 aS bc m dI (0:Int) (i64.wrap ((2:Int)*bc))).bind fun dt=>match dt with | (kD,a3,b3)=>if (decide ((i64.wrap (a3+bc))<n0))=true then ((aG.f m m kD a3 (i64.wrap (a3+bc)) n0 aS).bind fun x3=>bM.l1 m n0 aS k x3 (i64.wrap (bc*(2:Int)))) else (bM.l1 m n0 aS k kD (i64.wrap (bc*(2:Int))))) else (some ((dI,bc)))
def bM.f (m:Nat)(aw:List Int)(n0:Int)(aS:Int→Int→Option (Int)):Option ((List Int)):=(bM.l0 m n0 aS m aw (0:Int) (20:Int)).bind fun b6=>match b6 with | (cZ,a1,b1)=>(aU.f m cZ a1 n0 aS).bind fun x1=>(bM.l1 m n0 aS m x1 (20:Int)).bind fun ml=>match ml with | (oC,yO)=>some oC
def bM.fin (L:Mem)(aI:Nat)(aw:List Int)(n0:Int)(aS:Int→Int→Option (Int))(r:(List Int))(s:St):Prop:=aM Try.prog (s.open sq) Try.f99.results.toList=some (.tup [])∧Has s.h ((aI,.sl aw.length 1 (af.l r))::L)
def Ql (cf:CallF)(m:Nat):Prop:=∀(aw:List Int) (n0:Int) (aS:Int→Int→Option (Int)) (r:(List Int)),bM.f m aw n0 aS=some r→∀h L (cd:Nat) (aI:Nat),Has h ((aI,.sl cd 1 (af.l aw))::L)→∀(kF:FuncId) (dv cU:List AV),(aL (.fn kF dv) = .fn kF dv)→(∀(h:AHeap) (xs:List AV) (a0:Int) (a1:Int) r,aS a0 a1=some r→aO bO h xs ([.int .i64 a0,.int .i64 a1]++cU)→cf kF xs h=some (.int .i64 r,h))→(∀h K,Has h (K++(L))→aO cr h dv cU)→(∀h,aO cr h cU cU)→∀xs,xs.map aL=[.rs aI 0 cd 1,.int .i64 n0,.fn kF dv]→∃h',cf 99 xs h=some (.tup [],h')∧Has h' ((aI,.sl cd 1 (af.l r))::L)
section
variable {cf:CallF}{m:Nat}
theorem bM.dF (L:Mem)(aI:Nat)(kF:FuncId)(dv cU:List AV)(aw:List Int)(n0:Int)(aS:Int→Int→Option (Int))  (mQ:aL (.fn kF dv) = .fn kF dv)(qC:∀(h:AHeap) (xs:List AV) (a0:Int) (a1:Int) r,aS a0 a1=some r→aO bO h xs ([.int .i64 a0,.int .i64 a1]++cU)→cf kF xs h=some (.int .i64 r,h))(qD:∀h K,Has h (K++(L))→aO cr h dv cU)(qE:∀h,aO cr h cU cU)(AA:Iu cf m):dZ Try.prog cf sq m (sub [1,1,0,0,0] (b8 Try.f99)) (fun k (σ:(List Int) × Int × Int)=>bM.l0 m n0 aS k σ.1 σ.2.1 σ.2.2) (fun σ s=>match σ with | (bk,a0,b0)=>∃h0,s=⟨.rs aI 0 aw.length 1 :: .int .i64 n0 :: .fn kF dv :: .int .i64 (20:Int) :: .int .i64 a0 :: .int .i64 b0::Fi [],[],h0⟩∧Has h0 ((aI,.sl aw.length 1 (af.l bk))::L)) (fun out e s=>(e = .exit 0∧∃bk a0 b0,(bk,a0,b0)=out∧∃BS va h0,s=⟨.rs aI 0 aw.length 1 :: .int .i64 n0 :: .fn kF dv :: .int .i64 (20:Int) :: .int .i64 a0::BS :: .any::va::sI [],[],h0⟩∧Has h0 ((aI,.sl aw.length 1 (af.l bk))::L))):=by
 refine mI (fun _=>rfl) ?_
 rintro k ⟨bk,a0,b0⟩ s out ⟨h0,rfl,o0⟩ H
 have H:bM.l0 m n0 aS (k+1) bk a0 b0=some out:=H
 refine qq <| qq <| q0 <| qc H (fun c0 H=>?_) (fun c0 H=>?_)
 ·refine qk <| qb 1 <| qq ?_
  obtain⟨x0,e0,H⟩:=bj H
  obtain⟨h1,e1,o1⟩:=AA _ _ _ _ _ e0 h0 _ _ _ (o0) kF dv cU mQ qC (fun h' K' o'=>qD h' (K'++[]) (by simpa only [Uv,UQ,UR] using o')) qE [.rs aI 0 aw.length 1,.int .i64 a0,.int .i64 b0,.fn kF dv] (au (rfl) (au (aN (bg)) (au (aN (bg)) (au (mQ) (bG)))))
  exact qr [.a 4 e1] <| qq <| q0 <| q0 <| ⟨(x0,b0,i64.wrap (b0+(20:Int))),⟨h1,by kernel_rfl,o1⟩,H⟩
 ·exact qx 0 <| ⟨rfl,bk,a0,b0,oi H,.int .i64 b0,.bool (decide (b0≤n0)),h0,by kernel_rfl,o0⟩
theorem bM.sm (L:Mem)(aI:Nat)(kF:FuncId)(dv cU:List AV)(aw:List Int)(n0:Int)(aS:Int→Int→Option (Int))(bc:Int)  (mQ:aL (.fn kF dv) = .fn kF dv)(qC:∀(h:AHeap) (xs:List AV) (a0:Int) (a1:Int) r,aS a0 a1=some r→aO bO h xs ([.int .i64 a0,.int .i64 a1]++cU)→cf kF xs h=some (.int .i64 r,h))(qD:∀h K,Has h (K++(L))→aO cr h dv cU)(qE:∀h,aO cr h cU cU)(iz:s7 cf m m):dZ Try.prog cf sq m (sub [1,1,1,1,0,0,1,0,1,0,0,0] (b8 Try.f99)) (fun k (σ:(List Int) × Int × Int)=>bM.l2 m n0 aS bc k σ.1 σ.2.1 σ.2.2) (fun σ s=>match σ with | (jb,a2,b2)=>∃h5,s=⟨.rs aI 0 aw.length 1 :: .int .i64 n0 :: .fn kF dv :: .int .i64 bc :: .int .i64 a2 :: .int .i64 b2::Fi [],[],h5⟩∧Has h5 ((aI,.sl aw.length 1 (af.l jb))::L)) (fun out e s=>(e = .exit 4∧∃jb a2 b2,(jb,a2,b2)=out∧∃BS IS h5,s=⟨.rs aI 0 aw.length 1 :: .int .i64 n0 :: .fn kF dv :: .int .i64 bc :: .int .i64 a2::BS::sI [IS,.any],[],h5⟩∧Has h5 ((aI,.sl aw.length 1 (af.l jb))::L))):=by
 refine mI (fun _=>rfl) ?_
 rintro k ⟨jb,a2,b2⟩ s out ⟨h5,rfl,o5⟩ H
 have H:bM.l2 m n0 aS bc (k+1) jb a2 b2=some out:=H
 refine qq <| qq <| q0 <| qc H (fun c2 H=>?_) (fun c2 H=>?_)
 ·refine qk <| qb 5 <| qq ?_
  obtain⟨x2,e5,H⟩:=bj H
  obtain⟨h6,e6,o6⟩:=iz _ _ _ _ _ _ e5 h5 _ _ _ (o5) kF dv cU mQ qC (fun h' K' o'=>qD h' (K'++[]) (by simpa only [Uv,UQ,UR] using o')) qE [.rs aI 0 aw.length 1,.int .i64 a2,.int .i64 (i64.wrap (a2+bc)),.int .i64 b2,.fn kF dv] (au (rfl) (au (aN (bg)) (au (aN (bg)) (au (aN (bg)) (au (mQ) (bG))))))
  exact qr [.a 7 e6] <| qq <| q0 <| q0 <| ⟨(x2,b2,i64.wrap (b2+i64.wrap ((2:Int)*bc))),⟨h6,by kernel_rfl,o6⟩,H⟩
 ·exact qx 4 <| ⟨rfl,jb,a2,b2,oi H,.int .i64 b2,.bool (decide (b2≤n0)),h5,by kernel_rfl,o5⟩
theorem bM.me (L:Mem)(aI:Nat)(kF:FuncId)(dv cU:List AV)(aw:List Int)(n0:Int)(aS:Int→Int→Option (Int))  (mQ:aL (.fn kF dv) = .fn kF dv)(qC:∀(h:AHeap) (xs:List AV) (a0:Int) (a1:Int) r,aS a0 a1=some r→aO bO h xs ([.int .i64 a0,.int .i64 a1]++cU)→cf kF xs h=some (.int .i64 r,h))(qD:∀h K,Has h (K++(L))→aO cr h dv cU)(qE:∀h,aO cr h cU cU)(iz:s7 cf m m):dZ Try.prog cf sq m (sub [1,1,1,1,0,0] (b8 Try.f99)) (fun k (σ:(List Int) × Int)=>bM.l1 m n0 aS k σ.1 σ.2) (fun σ s=>match σ with | (dI,bc)=>∃h4,s=⟨.rs aI 0 aw.length 1 :: .int .i64 n0 :: .fn kF dv :: .int .i64 bc::FY [],[],h4⟩∧Has h4 ((aI,.sl aw.length 1 (af.l dI))::L)) (fun out e s=>(e = .exit 2∧∃dI bc,(dI,bc)=out∧∃ow yD KI Gh Iy h4,s=⟨ow::yD::KI::Gh::nw [Iy,.any,.any],[],h4⟩∧Has h4 ((aI,.sl aw.length 1 (af.l dI))::L))):=by
 refine mI (fun _=>rfl) ?_
 rintro k ⟨dI,bc⟩ s out ⟨h4,rfl,o4⟩ H
 have H:bM.l1 m n0 aS (k+1) dI bc=some out:=H
 refine qq <| qq <| q0 <| qc H (fun c1 H=>?_) (fun c1 H=>?_)
 ·refine qk <| qb 3 <| qq <| q0 <| qq <| qb 4 ?_
  obtain⟨dt,e7,H⟩:=bj H
  refine ql (bM.sm L aI kF dv cU aw n0 aS bc  mQ qC qD qE iz (dI,(0:Int),i64.wrap ((2:Int)*bc)) _ _ ⟨h4,by kernel_rfl,o4⟩ e7) ?_
  rintro e s ⟨rfl,kD,a3,b3,rfl,g2,g3,h7,rfl,o7⟩
  try dsimp only at H
  refine qq <| qq <| q0 <| qq <| q0 <| qc H (fun c3 H=>?_) (fun c3 H=>?_)
  ·obtain⟨x3,e8,H⟩:=bj H
   obtain⟨h8,e9,o8⟩:=iz _ _ _ _ _ _ e8 h7 _ _ _ (o7) kF dv cU mQ qC (fun h' K' o'=>qD h' (K'++[]) (by simpa only [Uv,UQ,UR] using o')) qE [.rs aI 0 aw.length 1,.int .i64 a3,.int .i64 (i64.wrap (a3+bc)),.int .i64 n0,.fn kF dv] (au (rfl) (au (aN (bg)) (au (aN (bg)) (au (aN (bg)) (au (mQ) (bG))))))
   exact qr [.a 5 e9] <| q0 <| ⟨(x3,i64.wrap (bc*(2:Int))),⟨h8,by kernel_rfl,o8⟩,H⟩
  ·exact qk <| q0 <| ⟨(kD,i64.wrap (bc*(2:Int))),⟨h7,by kernel_rfl,o7⟩,H⟩
 ·exact qx 2 <| ⟨rfl,dI,bc,oi H,.rs aI 0 aw.length 1,.int .i64 n0,.fn kF dv,.int .i64 bc,.bool (decide (bc<n0)),h4,by kernel_rfl,o4⟩
theorem vj {aV:FuncId→bY}(ha:aV 99=sq)(AA:Iu cf m)(iz:s7 cf m m)(aw:List Int)(n0:Int)(aS:Int→Int→Option (Int))(h:AHeap)(L:Mem)(aI:Nat)(kF:FuncId)(dv cU:List AV)  (mQ:aL (.fn kF dv) = .fn kF dv)(qC:∀(h:AHeap) (xs:List AV) (a0:Int) (a1:Int) r,aS a0 a1=some r→aO bO h xs ([.int .i64 a0,.int .i64 a1]++cU)→cf kF xs h=some (.int .i64 r,h))(qD:∀h K,Has h (K++(L))→aO cr h dv cU)(qE:∀h,aO cr h cU cU)(o:Has h ((aI,.sl aw.length 1 (af.l aw))::L)){out:(List Int)}(H:bM.f m aw n0 aS=some out) :
  ∃r h',a6 Try.prog aV cf m 99 [.rs aI 0 aw.length 1,.int .i64 n0,.fn kF dv] h=some (r,h')∧r = .tup []∧Has h' ((aI,.sl aw.length 1 (af.l out))::L):=by
 refine ar (fn:=Try.f99) ha Try.func99 (by kernel_rfl) (by kernel_rfl) ?_
 refine aH (Q:=fun s=>bM.fin L aI aw n0 aS out s) (fun _ _ ⟨h1,h2,h3⟩=>⟨h1,_,h2,rfl,h3⟩) ?_
 have H:_=some out:=H
 unfold bM.f at H
 show dn _ cf sq m _ ⟨.rs aI 0 aw.length 1 :: .int .i64 n0 :: .fn kF dv::BL [],[],h⟩ _
 refine q1 <| qq <| q0 <| qq <| qb 0 ?_
 obtain⟨b6,e2,H⟩:=bj H
 refine ql (bM.dF L aI kF dv cU aw n0 aS  mQ qC qD qE AA (aw,(0:Int),(20:Int)) _ _ ⟨h,by kernel_rfl,o⟩ e2) ?_
 rintro e s ⟨rfl,cZ,a1,b1,rfl,g0,g1,h2,rfl,o2⟩
 try dsimp only at H
 refine qq ?_
 obtain⟨x1,e3,H⟩:=bj H
 obtain⟨h3,e4,o3⟩:=AA _ _ _ _ _ e3 h2 _ _ _ (o2) kF dv cU mQ qC (fun h' K' o'=>qD h' (K'++[]) (by simpa only [Uv,UQ,UR] using o')) qE [.rs aI 0 aw.length 1,.int .i64 a1,.int .i64 n0,.fn kF dv] (au (rfl) (au (aN (bg)) (au (aN (bg)) (au (mQ) (bG)))))
 refine qr [.a 4 e4] <| qb 2 ?_
 obtain⟨ml,sX,H⟩:=bj H
 refine ql (bM.me L aI kF dv cU aw n0 aS  mQ qC qD qE iz (x1,(20:Int)) _ _ ⟨h3,by kernel_rfl,o3⟩ sX) ?_
 rintro e s ⟨rfl,oC,yO,rfl,g4,g5,g6,g7,g8,h9,rfl,o9⟩
 try dsimp only at H
 obtain rfl:=oi H
 exact⟨.inr rfl,⟨by kernel_rfl,he o9⟩⟩
end
end Go.Proofs.Ytifafejidnjckaa
namespace Go.Proofs.Ytifafejidnjckaa
open Go Go.R
open Go.IntKind (i64 u64 u8 u32)
end Go.Proofs.Ytifafejidnjckaa
namespace Go.Proofs.Ytifafejidnjckaa
open Go Go.R
open Go.IntKind (i64 u64 u8 u32)
end Go.Proofs.Ytifafejidnjckaa
namespace Go.Proofs.Ytifafejidnjckaa
open Go Go.R
open Go.IntKind (i64 u64 u8 u32)
def xe:bY:=gK [0,2,3,4,5,6,10,20] [] [254,250,242,178,242,194,98,226,242,253] [] [(1,[(3,none,1)])]
def bK.l0 (m:Nat)(s0:ab):Nat→(List Int)→Int→Option ((List Int) × Int)
 | 0,_,_=>none
 | k+1,b6,n0=>(bB.f m s0).bind fun x0=>if (decide (n0<x0))=true then ((dO.f m s0 n0).bind fun x1=>if (!(x1.2==(0:Int)))=true then ((app 8 b6 ([(-1:Int)])).bind fun x2=>bK.l0 m s0 k x2 (i64.wrap (n0+(1:Int)))) else ((app 8 b6 ([x1.1])).bind fun x3=>bK.l0 m s0 k x3 (i64.wrap (n0+(1:Int))))) else (some ((b6,n0)))
def bK.f (m:Nat)(s0:ab):Option ((List Int)):=(bK.l0 m s0 m ([]:List Int) (0:Int)).bind fun ml=>match ml with | (dt,n1)=>some dt
def bK.fin (L:Mem)(r:(List Int))(s:St):Prop:=∃av,aM Try.prog (s.open xe) Try.f15.results.toList=some av∧ff s.h av (af.fz r)
def Qm (cf:CallF)(m:Nat):Prop:=∀(s0:ab) (r:(List Int)),bK.f m s0=some r→∀h xs,aO bO h xs [.fp [.bool s0.aj,ai.fz s0.aa,af.fz s0.ae] 0]→cf 15 xs h=some (af.fz r,h)
section
variable {cf:CallF}{m:Nat}
theorem bK.dF (L:Mem)(s0:ab)  (s8:LU cf m)(IT:Og cf m):dZ Try.prog cf xe m (sub [1,1,0,1,0,0] (b8 Try.f15)) (fun k (σ:(List Int) × Int)=>bK.l0 m s0 k σ.1 σ.2) (fun σ s=>match σ with | (b6,n0)=>∃aI h0,s=⟨.fp [.bool s0.aj,ai.fz s0.aa,af.fz s0.ae] 0 :: .any :: .rs aI 0 b6.length 1 :: .int .i64 n0::nw [],[],h0⟩∧Has h0 ((aI,.sl b6.length 1 (af.l b6))::L)) (fun out e s=>(e = .exit 0∧∃b6 n0,(b6,n0)=out∧∃ow IJ yI aI h0,s=⟨[ow,.any,.rs aI 0 b6.length 1,IJ,.any,.any,yI,.any],[],h0⟩∧Has h0 ((aI,.sl b6.length 1 (af.l b6))::L))):=by
 refine mI (fun _=>rfl) ?_
 rintro k ⟨b6,n0⟩ s out ⟨aI,h0,rfl,o1⟩ H
 have H:bK.l0 m s0 (k+1) b6 n0=some out:=H
 refine qq <| qq ?_
 obtain⟨x0,e0,H⟩:=bj H
 refine qr [.a 2 (s8 _ _ e0 h0 _ (fq (ah (fX (pure_cons (dN) (pure_cons (bJ.bw (E:=ai) (l:=s0.aa)) (pure_cons (bJ.bw (E:=af) (l:=s0.ae)) (pure_nil))))) (ax))))] <| qc H (fun c0 H=>?_) (fun c0 H=>?_)
 ·refine qk <| qq <| qb 1 <| qq ?_
  obtain⟨x1,e1,H⟩:=bj H
  refine qr [.a 2 (IT _ _ _ e1 h0 _ (fq (ah (fX (pure_cons (dN) (pure_cons (bJ.bw (E:=ai) (l:=s0.aa)) (pure_cons (bJ.bw (E:=af) (l:=s0.ae)) (pure_nil))))) (ah (br) (ax)))))] <| qq <| qq <| q0 <| qc H (fun c1 H=>?_) (fun c1 H=>?_)
  ·refine q0 ?_
   obtain⟨x2,e2,H⟩:=bj H
   obtain⟨eh,h1,e3,o2⟩:=iv (P:=Try.prog) (E:=af) (l:=b6) (q:=0) (t2:=33) (x:=.fz [.int .i64 (-1:Int)] 1 true) (l2:=([(-1:Int)])) gx o1 rfl (by kernel_rfl) rfl e2
   exact qr [.a 3 e3] <| q0 <| ⟨(x2,i64.wrap (n0+(1:Int))),⟨eh,h1,by kernel_rfl,o2⟩,H⟩
  ·refine qk ?_
   obtain⟨x3,e4,H⟩:=bj H
   obtain⟨eO,h2,e5,o3⟩:=iv (P:=Try.prog) (E:=af) (l:=b6) (q:=0) (t2:=33) (x:=.fz [.int .i64 x1.1] 1 true) (l2:=([x1.1])) gx o1 rfl (by kernel_rfl) rfl e4
   exact qr [.a 3 e5] <| q0 <| ⟨(x3,i64.wrap (n0+(1:Int))),⟨eO,h2,by kernel_rfl,o3⟩,H⟩
 ·exact qx 0 <| ⟨rfl,b6,n0,oi H,.fp [.bool s0.aj,ai.fz s0.aa,af.fz s0.ae] 0,.int .i64 n0,.bool (decide (n0<x0)),aI,h0,by kernel_rfl,o1⟩
theorem qF {aV:FuncId→bY}(ha:aV 15=xe)(s8:LU cf m)(IT:Og cf m)(s0:ab)(h:AHeap)(L:Mem)  (o:Has h (L)){out:(List Int)}(H:bK.f m s0=some out) :
  ∃r h',a6 Try.prog aV cf m 15 [.fp [.bool s0.aj,ai.fz s0.aa,af.fz s0.ae] 0] h=some (r,h')∧ff h' r (af.fz out):=by
 refine ar (fn:=Try.f15) ha Try.func15 (by kernel_rfl) (by kernel_rfl) ?_
 refine aH (Q:=fun s=>bK.fin L out s) (fun _ _ h=>h) ?_
 have H:_=some out:=H
 unfold bK.f at H
 show dn _ cf xe m _ ⟨.fp [.bool s0.aj,ai.fz s0.aa,af.fz s0.ae] 0::FY [],[],h⟩ _
 refine q1 <| qq <| q0 ?_
 have o0:Has h (((0),.sl (([]:List Int).length) 1 (af.l ([]:List Int)))::L):=Has.nil o 1
 refine qq <| qq <| q0 <| qb 0 ?_
 obtain⟨ml,e6,H⟩:=bj H
 refine ql (bK.dF L s0  s8 IT (([]:List Int),(0:Int)) _ _ ⟨(0),h,by kernel_rfl,o0⟩ e6) ?_
 rintro e s ⟨rfl,dt,n1,rfl,g0,g1,g2,dG,h3,rfl,o4⟩
 try dsimp only at H
 obtain rfl:=oi H
 exact q1 <| qt <| ⟨.inl rfl,dA (.rs dG 0 dt.length 1) h3 (dz (Hc (E:=af) (l:=dt) (q:=0) o4 rfl (fun _=>rfl)))⟩
end
end Go.Proofs.Ytifafejidnjckaa
namespace Go.Proofs.Ytifafejidnjckaa
open Go Go.R
open Go.IntKind (i64 u64 u8 u32)
def AB:bY:=gK [0,1,3,4,5] [] [26,7] [] []
def dW.f (m:Nat)(s0:ab)(a0:ByteArray):Option (Int × Int × ab):=(bZ.f m s0 (dk.f m a0) (aq.mk (2:Int) (0:Int) a0 ([]))).bind fun x0=>some (x0.1,x0.2.1,x0.2.2)
def dW.fin (L:Mem)(ao:Nat)(ak:Nat)(an:Nat)(s0:ab)(a0:ByteArray)(r:Int × Int × ab)(s:St):Prop:=∃aB aC:Nat,aM Try.prog (s.open AB) Try.f28.results.toList=some (.tup [.int .i64 r.1,.int .i64 r.2.1])∧Has s.h ((ao,.ob [.bool r.2.2.aj,.rs aB 0 r.2.2.aa.length 4,.rs aC 0 r.2.2.ae.length 1])::(aB,.sl r.2.2.aa.length 4 (ai.l r.2.2.aa))::(aC,.sl r.2.2.ae.length 1 (af.l r.2.2.ae))::L)
def Qn (cf:CallF)(m:Nat):Prop:=∀(s0:ab) (a0:ByteArray) (r:Int × Int × ab),dW.f m s0 a0=some r→∀h L (ao:Nat) (ak:Nat) (an:Nat),Has h ((ao,.ob [.bool s0.aj,.rs ak 0 s0.aa.length 4,.rs an 0 s0.ae.length 1])::(ak,.sl s0.aa.length 4 (ai.l s0.aa))::(an,.sl s0.ae.length 1 (af.l s0.ae))::L)→∀xs,xs.map aL=[.ptr ao 0,.str a0]→∃aB aC h',cf 28 xs h=some (.tup [.int .i64 r.1,.int .i64 r.2.1],h')∧Has h' ((ao,.ob [.bool r.2.2.aj,.rs aB 0 r.2.2.aa.length 4,.rs aC 0 r.2.2.ae.length 1])::(aB,.sl r.2.2.aa.length 4 (ai.l r.2.2.aa))::(aC,.sl r.2.2.ae.length 1 (af.l r.2.2.ae))::L)
section
variable {cf:CallF}{m:Nat}
theorem lH {aV:FuncId→bY}(ha:aV 28=AB)(vf:JC cf m)(Oj:Qj cf m)(s0:ab)(a0:ByteArray)(h:AHeap)(L:Mem)(ao:Nat)(ak:Nat)(an:Nat)  (o:Has h ((ao,.ob [.bool s0.aj,.rs ak 0 s0.aa.length 4,.rs an 0 s0.ae.length 1])::(ak,.sl s0.aa.length 4 (ai.l s0.aa))::(an,.sl s0.ae.length 1 (af.l s0.ae))::L)){out:Int × Int × ab}(H:dW.f m s0 a0=some out) :
  ∃r h',a6 Try.prog aV cf m 28 [.ptr ao 0,.str a0] h=some (r,h')∧∃aB aC:Nat,r = .tup [.int .i64 out.1,.int .i64 out.2.1]∧Has h' ((ao,.ob [.bool out.2.2.aj,.rs aB 0 out.2.2.aa.length 4,.rs aC 0 out.2.2.ae.length 1])::(aB,.sl out.2.2.aa.length 4 (ai.l out.2.2.aa))::(aC,.sl out.2.2.ae.length 1 (af.l out.2.2.ae))::L):=by
 refine ar (fn:=Try.f28) ha Try.func28 (by kernel_rfl) (by kernel_rfl) ?_
 refine aH (Q:=fun s=>dW.fin L ao ak an s0 a0 out s) (fun _ _ ⟨h1,aB,aC,h2,h3⟩=>⟨h1,_,h2,aB,aC,rfl,h3⟩) ?_
 have H:_=some out:=H
 unfold dW.f at H
 show dn _ cf AB m _ ⟨.ptr ao 0 :: .str a0::sI [],[],h⟩ _
 refine qq ?_
 obtain⟨aI,h0,e0,o0⟩:=gg (cs:=[.str a0]) o (by kernel_rfl)
 refine qr [.a 0 e0] <| qq ?_
 obtain⟨x0,e1,H⟩:=bj H
 obtain⟨eh,eO,h1,e2,o1⟩:=vf _ _ _ _ e1 h0 _ _ _ _ ((Has.front (Has.front (Has.front (Has.front o0 0 rfl) 3 rfl) 3 rfl) 3 rfl)) 49 [.ptr aI 0] [.fp [.str a0] 0] rfl (fun h' sY  r hr hx=>Oj _ r hr h' sY hx) (fun h' K' o'=>iC (ah (cJ (q:=(K'.length+3)) o' (iZ rfl) (ah (cH) (ax))) (ax))) (fun h_=>iC (ah (fX (pure_cons (jB) (pure_nil))) (ax))) [.ptr ao 0,.fn 49 [.ptr aI 0],.agg [.int .i64 (2:Int),.int .i64 (0:Int),.str a0,.nils]] (au (rfl) (au (rfl) (au (aN (l8 (bP (bg) (bP (bg) (bP (j6) (bP (qV (E:=af)) (l7))))))) (bG))))
 refine qr [.v 2 (show bl Try.prog h0 9 (.ptr aI 0)=some (.str a0) from bX (q:=0) (cs:=[.str a0]) o0 rfl (by kernel_rfl)),.a 4 e2] ?_
 have o2:Has h1 ((ao,.ob [.bool x0.2.2.aj,.rs eh 0 x0.2.2.aa.length 4,.rs eO 0 x0.2.2.ae.length 1])::(eh,.sl x0.2.2.aa.length 4 (ai.l x0.2.2.aa))::(eO,.sl x0.2.2.ae.length 1 (af.l x0.2.2.ae))::L):=Has.del o1 3
 obtain rfl:=oi H
 exact qt <| ⟨.inl rfl,⟨eh,eO,by kernel_rfl,he o2⟩⟩
end
end Go.Proofs.Ytifafejidnjckaa
namespace Go.Proofs.Ytifafejidnjckaa
open Go Go.R
open Go.IntKind (i64 u64 u8 u32)
def AD:bY:=gK [0,1,2] [] [5,3] [] []
def gB.f (m:Nat)(t0:bu):Option (Bool):=if (decide ((t0.nodes.length:Int)≥(1:Int)))=true then (if (decide ((t0.nodes.length:Int)≤(8000:Int)))=true then (if (decide (t0.root≥(0:Int)))=true then (if (decide (t0.root<(t0.nodes.length:Int)))=true then ((gA.f m t0.nodes (fun y0=>fO.f m y0 t0)).bind fun x0=>some (!x0)) else (some false)) else (some false)) else (some false)) else (some false)
def gB.fin (L:Mem)(r:Bool)(s:St):Prop:=∃av,aM Try.prog (s.open AD) Try.f44.results.toList=some av∧ff s.h av (.bool r)
def Qo (cf:CallF)(m:Nat):Prop:=∀(t0:bu) (r:Bool),gB.f m t0=some r→∀h xs,aO bO h xs [.agg [ai.fz t0.nodes,.int .i64 t0.root]]→cf 44 xs h=some (.bool r,h)
section
variable {cf:CallF}{m:Nat}
theorem qG {aV:FuncId→bY}(ha:aV 44=AD)(Ol:P7 cf m)(Om:Qk cf m)(t0:bu)(h:AHeap)(L:Mem)  (o:Has h (L)){out:Bool}(H:gB.f m t0=some out) :
  ∃r h',a6 Try.prog aV cf m 44 [.agg [ai.fz t0.nodes,.int .i64 t0.root]] h=some (r,h')∧ff h' r (.bool out):=by
 refine ar (fn:=Try.f44) ha Try.func44 (by kernel_rfl) (by kernel_rfl) ?_
 refine aH (Q:=fun s=>gB.fin L out s) (fun _ _ h=>h) ?_
 have H:_=some out:=H
 unfold gB.f at H
 show dn _ cf AD m _ ⟨[.agg [ai.fz t0.nodes,.int .i64 t0.root],.any,.any],[],h⟩ _
 refine qq ?_
 obtain⟨aI,h0,e0,o0⟩:=gg (cs:=[ai.fz t0.nodes,.int .i64 t0.root]) o (by kernel_rfl)
 refine qr [.a 0 e0] <| qq ?_
 rcases iw H with⟨c0,H⟩| ⟨c0,H⟩
 ·rcases iw H with⟨c1,H⟩| ⟨c1,H⟩
  ·rcases iw H with⟨c2,H⟩| ⟨c2,H⟩
   ·rcases iw H with⟨c3,H⟩| ⟨c3,H⟩
    ·obtain⟨x0,e1,H⟩:=bj H
     refine qr [.v 1 (show bl Try.prog h0 40 (.ptr aI 0)=some (ai.fz t0.nodes) from bX (q:=0) (cs:=[ai.fz t0.nodes,.int .i64 t0.root]) o0 rfl (by kernel_rfl)),.b 4 c0,.v 6 (show bl Try.prog h0 40 (.ptr aI 0)=some (ai.fz t0.nodes) from bX (q:=0) (cs:=[ai.fz t0.nodes,.int .i64 t0.root]) o0 rfl (by kernel_rfl)),.b 10 c1,.v 12 (show bl Try.prog h0 3 (.ptr aI 1)=some (.int .i64 t0.root) from bX (q:=0) (cs:=[ai.fz t0.nodes,.int .i64 t0.root]) o0 rfl (by kernel_rfl)),.b 15 c2,.v 17 (show bl Try.prog h0 3 (.ptr aI 1)=some (.int .i64 t0.root) from bX (q:=0) (cs:=[ai.fz t0.nodes,.int .i64 t0.root]) o0 rfl (by kernel_rfl)),.v 19 (show bl Try.prog h0 40 (.ptr aI 0)=some (ai.fz t0.nodes) from bX (q:=0) (cs:=[ai.fz t0.nodes,.int .i64 t0.root]) o0 rfl (by kernel_rfl)),.b 23 c3,.v 25 (show bl Try.prog h0 40 (.ptr aI 0)=some (ai.fz t0.nodes) from bX (q:=0) (cs:=[ai.fz t0.nodes,.int .i64 t0.root]) o0 rfl (by kernel_rfl)),.a 27 (Ol _ _ _ e1 66 [.fp [ai.fz t0.nodes,.int .i64 t0.root] 0] (fun h' sY y0 r hr hx=>Om y0 _ r hr h' sY hx) (fun h_=>iC (ah (fX (pure_cons (bJ.bw (E:=ai) (l:=t0.nodes)) (pure_cons (dp) (pure_nil)))) (ax))) h0 _ (fq (ah (fe (E:=ai)) (ah (r9 (ah (cJ (q:=0) o0 rfl (ah (fe (E:=ai)) (ah (br) (ax)))) (ax))) (ax)))))] ?_
     have o1:Has h0 (L):=Has.del o0 0
     obtain rfl:=oi H
     exact qt <| ⟨.inl rfl,dA (.bool (!x0)) h0 (dz (aD))⟩
    ·refine qr [.v 1 (show bl Try.prog h0 40 (.ptr aI 0)=some (ai.fz t0.nodes) from bX (q:=0) (cs:=[ai.fz t0.nodes,.int .i64 t0.root]) o0 rfl (by kernel_rfl)),.b 4 c0,.v 6 (show bl Try.prog h0 40 (.ptr aI 0)=some (ai.fz t0.nodes) from bX (q:=0) (cs:=[ai.fz t0.nodes,.int .i64 t0.root]) o0 rfl (by kernel_rfl)),.b 10 c1,.v 12 (show bl Try.prog h0 3 (.ptr aI 1)=some (.int .i64 t0.root) from bX (q:=0) (cs:=[ai.fz t0.nodes,.int .i64 t0.root]) o0 rfl (by kernel_rfl)),.b 15 c2,.v 17 (show bl Try.prog h0 3 (.ptr aI 1)=some (.int .i64 t0.root) from bX (q:=0) (cs:=[ai.fz t0.nodes,.int .i64 t0.root]) o0 rfl (by kernel_rfl)),.v 19 (show bl Try.prog h0 40 (.ptr aI 0)=some (ai.fz t0.nodes) from bX (q:=0) (cs:=[ai.fz t0.nodes,.int .i64 t0.root]) o0 rfl (by kernel_rfl)),.b 23 c3] ?_
     have o2:Has h0 (L):=Has.del o0 0
     obtain rfl:=oi H
     exact qt <| ⟨.inl rfl,dA (.bool false) h0 (dz (aD))⟩
   ·refine qr [.v 1 (show bl Try.prog h0 40 (.ptr aI 0)=some (ai.fz t0.nodes) from bX (q:=0) (cs:=[ai.fz t0.nodes,.int .i64 t0.root]) o0 rfl (by kernel_rfl)),.b 4 c0,.v 6 (show bl Try.prog h0 40 (.ptr aI 0)=some (ai.fz t0.nodes) from bX (q:=0) (cs:=[ai.fz t0.nodes,.int .i64 t0.root]) o0 rfl (by kernel_rfl)),.b 10 c1,.v 12 (show bl Try.prog h0 3 (.ptr aI 1)=some (.int .i64 t0.root) from bX (q:=0) (cs:=[ai.fz t0.nodes,.int .i64 t0.root]) o0 rfl (by kernel_rfl)),.b 15 c2] ?_
    have o3:Has h0 (L):=Has.del o0 0
    obtain rfl:=oi H
    exact qt <| ⟨.inl rfl,dA (.bool false) h0 (dz (aD))⟩
  ·refine qr [.v 1 (show bl Try.prog h0 40 (.ptr aI 0)=some (ai.fz t0.nodes) from bX (q:=0) (cs:=[ai.fz t0.nodes,.int .i64 t0.root]) o0 rfl (by kernel_rfl)),.b 4 c0,.v 6 (show bl Try.prog h0 40 (.ptr aI 0)=some (ai.fz t0.nodes) from bX (q:=0) (cs:=[ai.fz t0.nodes,.int .i64 t0.root]) o0 rfl (by kernel_rfl)),.b 10 c1] ?_
   have o4:Has h0 (L):=Has.del o0 0
   obtain rfl:=oi H
   exact qt <| ⟨.inl rfl,dA (.bool false) h0 (dz (aD))⟩
 ·refine qr [.v 1 (show bl Try.prog h0 40 (.ptr aI 0)=some (ai.fz t0.nodes) from bX (q:=0) (cs:=[ai.fz t0.nodes,.int .i64 t0.root]) o0 rfl (by kernel_rfl)),.b 4 c0] ?_
  have o5:Has h0 (L):=Has.del o0 0
  obtain rfl:=oi H
  exact qt <| ⟨.inl rfl,dA (.bool false) h0 (dz (aD))⟩
end
end Go.Proofs.Ytifafejidnjckaa
namespace Go.Proofs.Ytifafejidnjckaa
open Go Go.R
open Go.IntKind (i64 u64 u8 u32)
end Go.Proofs.Ytifafejidnjckaa
namespace Go.Proofs.Ytifafejidnjckaa
open Go Go.R
open Go.IntKind (i64 u64 u8 u32)
def AE:bY:=gK [0,1] [] [3] [] []
def eX.f (m:Nat)(x0:List Int)(aS:Int→Int→Option (Int)):Option ((List Int)):=(bM.f m x0 (x0.length:Int) aS).bind fun x1=>some x1
def eX.fin (L:Mem)(aI:Nat)(x0:List Int)(aS:Int→Int→Option (Int))(r:(List Int))(s:St):Prop:=aM Try.prog (s.open AE) Try.f83.results.toList=some (.tup [])∧Has s.h ((aI,.sl x0.length 1 (af.l r))::L)
def Qp (cf:CallF)(m:Nat):Prop:=∀(x0:List Int) (aS:Int→Int→Option (Int)) (r:(List Int)),eX.f m x0 aS=some r→∀h L (Ea:Nat) (aI:Nat),Has h ((aI,.sl Ea 1 (af.l x0))::L)→∀(eD:FuncId) (aP bV:List AV),(aL (.fn eD aP) = .fn eD aP)→(∀(h:AHeap) (xs:List AV) (a0:Int) (a1:Int) r,aS a0 a1=some r→aO bO h xs ([.int .i64 a0,.int .i64 a1]++bV)→cf eD xs h=some (.int .i64 r,h))→(∀h K,Has h (K++(L))→aO cr h aP bV)→(∀h,aO cr h bV bV)→∀xs,xs.map aL=[.rs aI 0 Ea 1,.fn eD aP]→∃h',cf 83 xs h=some (.tup [],h')∧Has h' ((aI,.sl Ea 1 (af.l r))::L)
section
variable {cf:CallF}{m:Nat}
theorem oE {aV:FuncId→bY}(ha:aV 83=AE)(On:Ql cf m)(x0:List Int)(aS:Int→Int→Option (Int))(h:AHeap)(L:Mem)(aI:Nat)(eD:FuncId)(aP bV:List AV)  (qu:aL (.fn eD aP) = .fn eD aP)(gH:∀(h:AHeap) (xs:List AV) (a0:Int) (a1:Int) r,aS a0 a1=some r→aO bO h xs ([.int .i64 a0,.int .i64 a1]++bV)→cf eD xs h=some (.int .i64 r,h))(ox:∀h K,Has h (K++(L))→aO cr h aP bV)(gI:∀h,aO cr h bV bV)(o:Has h ((aI,.sl x0.length 1 (af.l x0))::L)){out:(List Int)}(H:eX.f m x0 aS=some out) :
  ∃r h',a6 Try.prog aV cf m 83 [.rs aI 0 x0.length 1,.fn eD aP] h=some (r,h')∧r = .tup []∧Has h' ((aI,.sl x0.length 1 (af.l out))::L):=by
 refine ar (fn:=Try.f83) ha Try.func83 (by kernel_rfl) (by kernel_rfl) ?_
 refine aH (Q:=fun s=>eX.fin L aI x0 aS out s) (fun _ _ ⟨h1,h2,h3⟩=>⟨h1,_,h2,rfl,h3⟩) ?_
 have H:_=some out:=H
 unfold eX.f at H
 show dn _ cf AE m _ ⟨[.rs aI 0 x0.length 1,.fn eD aP],[],h⟩ _
 obtain⟨x1,e0,H⟩:=bj H
 obtain⟨h0,e1,o0⟩:=On _ _ _ _ e0 h _ _ _ (o) eD aP bV qu gH (fun h' K' o'=>ox h' (K'++[]) (by simpa only [Uv,UQ,UR] using o')) gI [.rs aI 0 x0.length 1,.int .i64 (x0.length:Int),.fn eD aP] (au (rfl) (au (aN (bg)) (au (qu) (bG))))
 obtain rfl:=oi H
 exact qr [.a 4 e1] <| ⟨.inr rfl,⟨by kernel_rfl,he o0⟩⟩
end
end Go.Proofs.Ytifafejidnjckaa
namespace Go.Proofs.Ytifafejidnjckaa
open Go Go.R
open Go.IntKind (i64 u64 u8 u32)
end Go.Proofs.Ytifafejidnjckaa
