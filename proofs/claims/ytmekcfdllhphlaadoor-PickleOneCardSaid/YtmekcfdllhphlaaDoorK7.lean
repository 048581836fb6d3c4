/- Part of the proof: Q120, PS3, PS4, Q110, Q84, PS5, Q61, Q45, Q108, Q81, Q82, Q109, Q83, Q65, Q85. -/
import Derived.Test.YtmekcfdllhphlaaDoorK6
set_option linter.unusedVariables false
set_option linter.unusedSimpArgs false
set_option maxRecDepth 100000
open Int renaming toNat_natCast → WX
open List renaming append_assoc → W7, cons_append → Xj, nil_append → Xs
open Nat renaming le_refl → WU, zero_add → Xh, mul_le_mul_right → XK
open Option renaming bind_some → WQ
open Or renaming inr → XZ, inl → Yf
open Prod.mk renaming injEq → W2
namespace Go.Proofs.YtmekcfdllhphlaaDoor
open Go Go.R
open Go.IntKind (i64 u64 u8 u32)
def lu:cd:=gh [0,1,2,3,4,10,11,12,13,14,15,16,17,18,19,20,21,22,23,24,28,33,50,58,80,85,103,110,140,151,171,185,199,213] [] [17178820576,17179869124,17179869068,17177771916,17179868940,17175674636,17179869068,17179869068,17179868894,17171480286,17179868894,17179868894,17163091936,17179868650,17179867626,17146313194,17179865578,17112756714,17179867626,17179867626,17179864574,17045646846,17179864574,17179864574,17179860960,17179844576,17179844576,16911409120,17179811808,17179746272,17179811808,17179746272,17179615200,16642744288,17179353056,16105611232,17179615200,17179615200,17179303904,15031820256,17179303908,12884336612,17179336678,8589402086,17179869183] [] []
def aB.l0 (m:Nat)(aq:List Int)(a0:Int)(aN:Int→Int→Option (Int)):Nat→Int→Int→Option (Int × Int)
 | 0,_,_=>none
 | k+1,i0,j0=>if (decide (i0<j0))=true then ((ix aq (i64.wrap (gk .u64 (u64.wrap (i64.wrap (i0+j0))) 1))).bind fun v0=>(ix aq a0).bind fun v1=>(aN v0 v1).bind fun r0=>if (decide (r0<(0:Int)))=true then (aB.l0 m aq a0 aN k (i64.wrap (i64.wrap (gk .u64 (u64.wrap (i64.wrap (i0+j0))) 1)+(1:Int))) j0) else (aB.l0 m aq a0 aN k i0 (i64.wrap (gk .u64 (u64.wrap (i64.wrap (i0+j0))) 1)))) else (some ((i0,j0)))
def aB.l1 (m:Nat)(i1:Int):Nat→(List Int)→Int→Option ((List Int) × Int)
 | 0,_,_=>none
 | k+1,bj,k0=>if (decide (k0<(i64.wrap (i1 - (1:Int)))))=true then ((ix bj (i64.wrap (k0+(1:Int)))).bind fun v2=>(ix bj k0).bind fun v3=>(ix bj k0).bind fun v4=>(ix (bj.set k0.toNat v2) (i64.wrap (k0+(1:Int)))).bind fun v5=>aB.l1 m i1 k ((bj.set k0.toNat v2).set (i64.wrap (k0+(1:Int))).toNat v3) (i64.wrap (k0+(1:Int)))) else (some ((bj,k0)))
def aB.l2 (m:Nat)(aq:List Int)(m0:Int)(aN:Int→Int→Option (Int)):Nat→Int→Int→Option (Int × Int)
 | 0,_,_=>none
 | k+1,i2,j2=>if (decide (i2<j2))=true then ((ix aq m0).bind fun v6=>(ix aq (i64.wrap (gk .u64 (u64.wrap (i64.wrap (i2+j2))) 1))).bind fun v7=>(aN v6 v7).bind fun r1=>if (!(decide (r1<(0:Int))))=true then (aB.l2 m aq m0 aN k (i64.wrap (i64.wrap (gk .u64 (u64.wrap (i64.wrap (i2+j2))) 1)+(1:Int))) j2) else (aB.l2 m aq m0 aN k i2 (i64.wrap (gk .u64 (u64.wrap (i64.wrap (i2+j2))) 1)))) else (some ((i2,j2)))
def aB.l3 (m:Nat)(i3:Int):Nat→(List Int)→Int→Option ((List Int) × Int)
 | 0,_,_=>none
 | k+1,dr,k2=>if (decide (k2 > i3))=true then ((ix dr (i64.wrap (k2 - (1:Int)))).bind fun v8=>(ix dr k2).bind fun v9=>(ix dr k2).bind fun v10=>(ix (dr.set k2.toNat v8) (i64.wrap (k2 - (1:Int)))).bind fun v11=>aB.l3 m i3 k ((dr.set k2.toNat v8).set (i64.wrap (k2 - (1:Int))).toNat v9) (i64.wrap (k2 - (1:Int)))) else (some ((dr,k2)))
def aB.l4 (m:Nat)(aq:List Int)(a0:Int)(m0:Int)(b0:Int)(aN:Int→Int→Option (Int)):Nat→Int→Int→Option (Int × Int)
 | 0,_,_=>none
 | k+1,fM,r3=>if (decide (fM<r3))=true then ((ix aq (i64.wrap (i64.wrap (i64.wrap (i64.wrap (gk .u64 (u64.wrap (i64.wrap (a0+b0))) 1)+m0) - (1:Int)) - i64.wrap (gk .u64 (u64.wrap (i64.wrap (fM+r3))) 1)))).bind fun v12=>(ix aq (i64.wrap (gk .u64 (u64.wrap (i64.wrap (fM+r3))) 1))).bind fun H7=>(aN v12 H7).bind fun r4=>if (!(decide (r4<(0:Int))))=true then (aB.l4 m aq a0 m0 b0 aN k (i64.wrap (i64.wrap (gk .u64 (u64.wrap (i64.wrap (fM+r3))) 1)+(1:Int))) r3) else (aB.l4 m aq a0 m0 b0 aN k fM (i64.wrap (gk .u64 (u64.wrap (i64.wrap (fM+r3))) 1)))) else (some ((fM,r3)))
def aB.b (m:Nat)(rec:(List Int)→Int→Int→Int→(Int→Int→Option (Int))→Option ((List Int)))(aq:List Int)(a0:Int)(m0:Int)(b0:Int)(aN:Int→Int→Option (Int)):Option ((List Int)):=if ((i64.wrap (m0 - a0))==(1:Int))=true then ((aB.l0 m aq a0 aN m m0 b0).bind fun bo=>match bo with | (i1,j1)=>(aB.l1 m i1 m aq a0).bind fun cD=>match cD with | (cY,k1)=>some cY) else (if ((i64.wrap (b0 - m0))==(1:Int))=true then ((aB.l2 m aq m0 aN m a0 m0).bind fun jt=>match jt with | (i3,j3)=>(aB.l3 m i3 m aq m0).bind fun pf=>match pf with | (jA,k3)=>some jA) else (jn (fun (σ:Int × Int)=>match σ with | (tM,r2)=>(aB.l4 m aq a0 m0 b0 aN m tM r2).bind fun cN=>match cN with | (eS,r5)=>jn (fun (σ:(List Int))=>match σ with | kR=>jn (fun (σ:(List Int))=>match σ with | pg=>if (decide ((i64.wrap (gk .u64 (u64.wrap (i64.wrap (a0+b0))) 1))<(i64.wrap (i64.wrap (i64.wrap (gk .u64 (u64.wrap (i64.wrap (a0+b0))) 1)+m0) - eS))))=true then (if (decide ((i64.wrap (i64.wrap (i64.wrap (gk .u64 (u64.wrap (i64.wrap (a0+b0))) 1)+m0) - eS))<b0))=true then ((rec pg (i64.wrap (gk .u64 (u64.wrap (i64.wrap (a0+b0))) 1)) (i64.wrap (i64.wrap (i64.wrap (gk .u64 (u64.wrap (i64.wrap (a0+b0))) 1)+m0) - eS)) b0 aN).bind fun x2=>some x2) else (some pg)) else (some pg)) fun MX=>(if (decide (a0<eS))=true then (if (decide (eS<(i64.wrap (gk .u64 (u64.wrap (i64.wrap (a0+b0))) 1))))=true then ((rec kR a0 eS (i64.wrap (gk .u64 (u64.wrap (i64.wrap (a0+b0))) 1)) aN).bind fun x1=>MX x1) else (MX kR)) else (MX kR))) fun MY=>(if (decide (eS<m0))=true then (if (decide (m0<(i64.wrap (i64.wrap (i64.wrap (gk .u64 (u64.wrap (i64.wrap (a0+b0))) 1)+m0) - eS))))=true then ((eJ.f m aq eS m0 (i64.wrap (i64.wrap (i64.wrap (gk .u64 (u64.wrap (i64.wrap (a0+b0))) 1)+m0) - eS)) aN).bind fun x0=>MY x0) else (MY aq)) else (MY aq))) fun Oo=>(if (decide (m0 > (i64.wrap (gk .u64 (u64.wrap (i64.wrap (a0+b0))) 1))))=true then (Oo (i64.wrap (i64.wrap (i64.wrap (gk .u64 (u64.wrap (i64.wrap (a0+b0))) 1)+m0) - b0),i64.wrap (gk .u64 (u64.wrap (i64.wrap (a0+b0))) 1))) else (Oo (a0,m0)))))
def aB.f (m:Nat):Nat→(List Int)→Int→Int→Int→(Int→Int→Option (Int))→Option ((List Int))
 | 0,_,_,_,_,_=>none
 | k+1,aq,a0,m0,b0,aN=>aB.b m (aB.f m k) aq a0 m0 b0 aN
def aB.fin (L:Mem)(aA:Nat)(aq:List Int)(a0:Int)(m0:Int)(b0:Int)(aN:Int→Int→Option (Int))(r:(List Int))(s:St):Prop:=aI Tryd.prog (s.open lu) Tryd.f120.results.toList=some (.tup [])∧Has s.h ((aA,.sl aq.length 1 (aa.l r))::L)
def uR (cf:CallF)(m:Nat)(kk:Nat):Prop:=∀(aq:List Int) (a0:Int) (m0:Int) (b0:Int) (aN:Int→Int→Option (Int)) (r:(List Int)),aB.f m kk aq a0 m0 b0 aN=some r→∀h L (cz:Nat) (aA:Nat),Has h ((aA,.sl cz 1 (aa.l aq))::L)→∀(er:FuncId) (aV:List AV),ay (.fn er aV) = .fn er aV→(∀h K,Has h (K++L)→∀(a0:Int) (a1:Int) r,aN a0 a1=some r→cf er ([.int .i64 a0,.int .i64 a1]++aV) h=some (.int .i64 r,h))→∀xs,xs.map ay=[.rs aA 0 cz 1,.int .i64 a0,.int .i64 m0,.int .i64 b0,.fn er aV]→∃h',cf 120 xs h=some (.tup [],h')∧Has h' ((aA,.sl cz 1 (aa.l r))::L)
section
variable {cf:CallF}{m:Nat}
theorem aB.bG (L:Mem)(aA:Nat)(er:FuncId)(aV:List AV)(aq:List Int)(a0:Int)(m0:Int)(b0:Int)(aN:Int→Int→Option (Int))  {kk:Nat}(iL:uR cf m kk)(gB:ay (.fn er aV) = .fn er aV)(hY:∀h K,Has h (K++L)→∀(a0:Int) (a1:Int) r,aN a0 a1=some r→cf er ([.int .i64 a0,.int .i64 a1]++aV) h=some (.int .i64 r,h))  : bI Tryd.prog cf lu m (sub [0,1,0,1,1,0,0,0] (codeOf Tryd.f120)) (fun k (σ:Int × Int)=>aB.l0 m aq a0 aN k σ.1 σ.2) (fun σ s=>match σ with | (i0,j0)=>∃h0,s=⟨.rs aA 0 aq.length 1 :: .int .i64 a0 :: .any :: .any :: .fn er aV :: .int .i64 i0 :: .int .i64 j0::MI [],[],h0⟩∧Has h0 ((aA,.sl aq.length 1 (aa.l aq))::L)) (fun out e s=>(e = .exit 0∧∃i0 j0,(i0,j0)=out∧∃DC Fl PU h0,s=⟨.rs aA 0 aq.length 1 :: .int .i64 a0 :: .any :: .any::DC :: .int .i64 i0::Fl::rA (PU::mX []),[],h0⟩∧Has h0 ((aA,.sl aq.length 1 (aa.l aq))::L))):=by
 refine hX (fun _=>rfl) ?_
 rintro k ⟨i0,j0⟩ s out ⟨h0,rfl,o0⟩ H
 have H:aB.l0 m aq a0 aN (k+1) i0 j0=some out:=H
 refine qq <| qq <| q0 <| qc H (fun c1 H=>?_) (fun c1 H=>?_)
 ·refine qk <| qb 1 <| qq <| q0 <| qq ?_
  obtain⟨v0,e0,H⟩:=aJ H
  obtain⟨v1,e1,H⟩:=aJ H
  obtain⟨r0,e2,H⟩:=aJ H
  refine qr [.v 3 (aG (k:=.i64) (E:=aa) (l:=aq) (q:=0) dA o0 rfl e0),.v 4 (be  (E:=aa) (l:=aq) (q:=0) o0 rfl A3 e0 rfl),.v 7 (aG (k:=.i64) (E:=aa) (l:=aq) (q:=0) dA o0 rfl e1),.v 8 (be  (E:=aa) (l:=aq) (q:=0) o0 rfl A3 e1 rfl),.a 9 (hY h0 [(aA,.sl aq.length 1 (aa.l aq))] o0 _ _ _ e2)] <| qc H (fun c2 H=>?_) (fun c2 H=>?_)
  ·exact q0 <| ⟨(i64.wrap (i64.wrap (gk .u64 (u64.wrap (i64.wrap (i0+j0))) 1)+(1:Int)),j0),⟨h0,by kernel_rfl,o0⟩,H⟩
  ·exact q0 <| ⟨(i0,i64.wrap (gk .u64 (u64.wrap (i64.wrap (i0+j0))) 1)),⟨h0,by kernel_rfl,o0⟩,H⟩
 ·exact qx 0 <| ⟨rfl,i0,j0,oi H,.fn er aV,.int .i64 j0,.bool (decide (i0<j0)),h0,by kernel_rfl,o0⟩
theorem aB.fW (L:Mem)(aA:Nat)(er:FuncId)(aV:List AV)(aq:List Int)(a0:Int)(m0:Int)(b0:Int)(aN:Int→Int→Option (Int))(i1:Int)  {kk:Nat}(iL:uR cf m kk)(gB:ay (.fn er aV) = .fn er aV)(hY:∀h K,Has h (K++L)→∀(a0:Int) (a1:Int) r,aN a0 a1=some r→cf er ([.int .i64 a0,.int .i64 a1]++aV) h=some (.int .i64 r,h))  : bI Tryd.prog cf lu m (sub [0,1,0,1,1,1,0,1,0,0] (codeOf Tryd.f120)) (fun k (σ:(List Int) × Int)=>aB.l1 m i1 k σ.1 σ.2) (fun σ s=>match σ with | (bj,k0)=>∃h2,s=⟨.rs aA 0 aq.length 1::oq (.int .i64 i1 :: .any :: .any :: .int .i64 k0::PC []),[],h2⟩∧Has h2 ((aA,.sl aq.length 1 (aa.l bj))::L)) (fun out e s=>(e = .exit 2∧∃bj k0,(bj,k0)=out∧∃kQ tz mu PV h2,s=⟨kQ::oq (tz :: .any :: .any::mu::rA (PV::wW [])),[],h2⟩∧Has h2 ((aA,.sl aq.length 1 (aa.l bj))::L))):=by
 refine hX (fun _=>rfl) ?_
 rintro k ⟨bj,k0⟩ s out ⟨h2,rfl,o2⟩ H
 have H:aB.l1 m i1 (k+1) bj k0=some out:=H
 refine qq <| qq <| q0 <| qc H (fun c3 H=>?_) (fun c3 H=>?_)
 ·refine qk <| qq <| qb 3 ?_
  obtain⟨v2,e4,H⟩:=aJ H
  obtain⟨v3,e5,H⟩:=aJ H
  obtain⟨v4,e6,H⟩:=aJ H
  obtain⟨h3,e7,o3⟩:=dK (P:=Tryd.prog) (tf:=3) (E:=aa) (l:=bj) (q:=0) (v:=v2) (x:=.int .i64 v2) o2 rfl Z3 e6 rfl rfl
  obtain⟨v5,e8,H⟩:=aJ H
  obtain⟨h4,e9,o4⟩:=dK (P:=Tryd.prog) (tf:=3) (E:=aa) (l:=(bj.set k0.toNat v2)) (q:=0) (v:=v3) (x:=.int .i64 v3) o3 rfl Z3 e8 rfl rfl
  exact qr [.v 8 (aG (k:=.i64) (E:=aa) (l:=bj) (q:=0) dA o2 rfl e4),.v 9 (be  (E:=aa) (l:=bj) (q:=0) o2 rfl A3 e4 rfl),.v 12 (aG (k:=.i64) (E:=aa) (l:=bj) (q:=0) dA o2 rfl e5),.v 13 (be  (E:=aa) (l:=bj) (q:=0) o2 rfl A3 e5 rfl),.v 14 (aG (k:=.i64) (E:=aa) (l:=bj) (q:=0) dA o2 rfl e6),.w 15 e7,.v 16 (aG (k:=.i64) (E:=aa) (l:=(bj.set k0.toNat v2)) (q:=0) dA o3 rfl e8),.w 17 e9] <| q0 <| ⟨((bj.set k0.toNat v2).set (i64.wrap (k0+(1:Int))).toNat v3,i64.wrap (k0+(1:Int))),⟨h4,by kernel_rfl,o4⟩,H⟩
 ·exact qx 2 <| ⟨rfl,bj,k0,oi H,.rs aA 0 aq.length 1,.int .i64 i1,.int .i64 k0,.bool (decide (k0<(i64.wrap (i1 - (1:Int))))),h2,by kernel_rfl,o2⟩
theorem aB.ph (L:Mem)(aA:Nat)(er:FuncId)(aV:List AV)(aq:List Int)(a0:Int)(m0:Int)(b0:Int)(aN:Int→Int→Option (Int))  {kk:Nat}(iL:uR cf m kk)(gB:ay (.fn er aV) = .fn er aV)(hY:∀h K,Has h (K++L)→∀(a0:Int) (a1:Int) r,aN a0 a1=some r→cf er ([.int .i64 a0,.int .i64 a1]++aV) h=some (.int .i64 r,h))  : bI Tryd.prog cf lu m (sub [1,0,1,0,1,1,0,0,0] (codeOf Tryd.f120)) (fun k (σ:Int × Int)=>aB.l2 m aq m0 aN k σ.1 σ.2) (fun σ s=>match σ with | (i2,j2)=>∃h6,s=⟨.rs aA 0 aq.length 1 :: .any :: .int .i64 m0 :: .any :: .fn er aV::oq (.int .i64 i2 :: .int .i64 j2::PB []),[],h6⟩∧Has h6 ((aA,.sl aq.length 1 (aa.l aq))::L)) (fun out e s=>(e = .exit 4∧∃i2 j2,(i2,j2)=out∧∃DC qu PW h6,s=⟨.rs aA 0 aq.length 1 :: .any :: .int .i64 m0 :: .any::DC::oq (.int .i64 i2::qu::rA (PW::se [])),[],h6⟩∧Has h6 ((aA,.sl aq.length 1 (aa.l aq))::L))):=by
 refine hX (fun _=>rfl) ?_
 rintro k ⟨i2,j2⟩ s out ⟨h6,rfl,o6⟩ H
 have H:aB.l2 m aq m0 aN (k+1) i2 j2=some out:=H
 refine qq <| qq <| q0 <| qc H (fun c5 H=>?_) (fun c5 H=>?_)
 ·refine qk <| qb 5 <| qq <| q0 <| qq ?_
  obtain⟨v6,sj,H⟩:=aJ H
  obtain⟨v7,uA,H⟩:=aJ H
  obtain⟨r1,uB,H⟩:=aJ H
  refine qr [.v 3 (aG (k:=.i64) (E:=aa) (l:=aq) (q:=0) dA o6 rfl sj),.v 4 (be  (E:=aa) (l:=aq) (q:=0) o6 rfl A3 sj rfl),.v 7 (aG (k:=.i64) (E:=aa) (l:=aq) (q:=0) dA o6 rfl uA),.v 8 (be  (E:=aa) (l:=aq) (q:=0) o6 rfl A3 uA rfl),.a 9 (hY h6 [(aA,.sl aq.length 1 (aa.l aq))] o6 _ _ _ uB)] <| qc H (fun c6 H=>?_) (fun c6 H=>?_)
  ·exact q0 <| ⟨(i64.wrap (i64.wrap (gk .u64 (u64.wrap (i64.wrap (i2+j2))) 1)+(1:Int)),j2),⟨h6,by kernel_rfl,o6⟩,H⟩
  ·exact q0 <| ⟨(i2,i64.wrap (gk .u64 (u64.wrap (i64.wrap (i2+j2))) 1)),⟨h6,by kernel_rfl,o6⟩,H⟩
 ·exact qx 4 <| ⟨rfl,i2,j2,oi H,.fn er aV,.int .i64 j2,.bool (decide (i2<j2)),h6,by kernel_rfl,o6⟩
theorem aB.tN (L:Mem)(aA:Nat)(er:FuncId)(aV:List AV)(aq:List Int)(a0:Int)(m0:Int)(b0:Int)(aN:Int→Int→Option (Int))(i3:Int)  {kk:Nat}(iL:uR cf m kk)(gB:ay (.fn er aV) = .fn er aV)(hY:∀h K,Has h (K++L)→∀(a0:Int) (a1:Int) r,aN a0 a1=some r→cf er ([.int .i64 a0,.int .i64 a1]++aV) h=some (.int .i64 r,h))  : bI Tryd.prog cf lu m (sub [1,0,1,0,1,1,1,0,1,0,0] (codeOf Tryd.f120)) (fun k (σ:(List Int) × Int)=>aB.l3 m i3 k σ.1 σ.2) (fun σ s=>match σ with | (dr,k2)=>∃h8,s=⟨.rs aA 0 aq.length 1::se (.int .i64 i3 :: .any :: .any :: .int .i64 k2::MG []),[],h8⟩∧Has h8 ((aA,.sl aq.length 1 (aa.l dr))::L)) (fun out e s=>(e = .exit 6∧∃dr k2,(dr,k2)=out∧∃kQ tL xc MZ h8,s=⟨kQ::se (tL :: .any :: .any::xc::rA (MZ::Hf [])),[],h8⟩∧Has h8 ((aA,.sl aq.length 1 (aa.l dr))::L))):=by
 refine hX (fun _=>rfl) ?_
 rintro k ⟨dr,k2⟩ s out ⟨h8,rfl,o8⟩ H
 have H:aB.l3 m i3 (k+1) dr k2=some out:=H
 refine qq <| qq <| q0 <| qc H (fun c7 H=>?_) (fun c7 H=>?_)
 ·refine qk <| qq <| qb 7 ?_
  obtain⟨v8,uC,H⟩:=aJ H
  obtain⟨v9,xP,H⟩:=aJ H
  obtain⟨v10,xd,H⟩:=aJ H
  obtain⟨h9,B1,o9⟩:=dK (P:=Tryd.prog) (tf:=3) (E:=aa) (l:=dr) (q:=0) (v:=v8) (x:=.int .i64 v8) o8 rfl Z3 xd rfl rfl
  obtain⟨v11,xe,H⟩:=aJ H
  obtain⟨h10,B2,uQ⟩:=dK (P:=Tryd.prog) (tf:=3) (E:=aa) (l:=(dr.set k2.toNat v8)) (q:=0) (v:=v9) (x:=.int .i64 v9) o9 rfl Z3 xe rfl rfl
  exact qr [.v 8 (aG (k:=.i64) (E:=aa) (l:=dr) (q:=0) dA o8 rfl uC),.v 9 (be  (E:=aa) (l:=dr) (q:=0) o8 rfl A3 uC rfl),.v 12 (aG (k:=.i64) (E:=aa) (l:=dr) (q:=0) dA o8 rfl xP),.v 13 (be  (E:=aa) (l:=dr) (q:=0) o8 rfl A3 xP rfl),.v 14 (aG (k:=.i64) (E:=aa) (l:=dr) (q:=0) dA o8 rfl xd),.w 15 B1,.v 16 (aG (k:=.i64) (E:=aa) (l:=(dr.set k2.toNat v8)) (q:=0) dA o9 rfl xe),.w 17 B2] <| q0 <| ⟨((dr.set k2.toNat v8).set (i64.wrap (k2 - (1:Int))).toNat v9,i64.wrap (k2 - (1:Int))),⟨h10,by kernel_rfl,uQ⟩,H⟩
 ·exact qx 6 <| ⟨rfl,dr,k2,oi H,.rs aA 0 aq.length 1,.int .i64 i3,.int .i64 k2,.bool (decide (k2 > i3)),h8,by kernel_rfl,o8⟩
theorem aB.tO (L:Mem)(aA:Nat)(er:FuncId)(aV:List AV)(aq:List Int)(a0:Int)(m0:Int)(b0:Int)(aN:Int→Int→Option (Int))  {kk:Nat}(iL:uR cf m kk)(gB:ay (.fn er aV) = .fn er aV)(hY:∀h K,Has h (K++L)→∀(a0:Int) (a1:Int) r,aN a0 a1=some r→cf er ([.int .i64 a0,.int .i64 a1]++aV) h=some (.int .i64 r,h))  : bI Tryd.prog cf lu m (sub [1,1,1,1,1,1,1,0,0,0] (codeOf Tryd.f120)) (fun k (σ:Int × Int)=>aB.l4 m aq a0 m0 b0 aN k σ.1 σ.2) (fun σ s=>match σ with | (fM,r3)=>∃h13,s=⟨.rs aA 0 aq.length 1 :: .int .i64 a0 :: .int .i64 m0 :: .int .i64 b0 :: .fn er aV::se (.int .i64 (i64.wrap (gk .u64 (u64.wrap (i64.wrap (a0+b0))) 1)) :: .int .i64 (i64.wrap (i64.wrap (gk .u64 (u64.wrap (i64.wrap (a0+b0))) 1)+m0)) :: .int .i64 fM :: .int .i64 r3 :: .int .i64 (i64.wrap (i64.wrap (i64.wrap (gk .u64 (u64.wrap (i64.wrap (a0+b0))) 1)+m0) - (1:Int)))::E8 []),[],h13⟩∧Has h13 ((aA,.sl aq.length 1 (aa.l aq))::L)) (fun out e s=>(e = .exit 8∧∃fM r3,(fM,r3)=out∧∃PX AH M0 h13,s=⟨.rs aA 0 aq.length 1 :: .int .i64 a0 :: .int .i64 m0 :: .int .i64 b0 :: .fn er aV::se (.int .i64 (i64.wrap (gk .u64 (u64.wrap (i64.wrap (a0+b0))) 1)) :: .int .i64 (i64.wrap (i64.wrap (gk .u64 (u64.wrap (i64.wrap (a0+b0))) 1)+m0)) :: .int .i64 fM::PX::AH::oY (M0::oq [])),[],h13⟩∧Has h13 ((aA,.sl aq.length 1 (aa.l aq))::L))):=by
 refine hX (fun _=>rfl) ?_
 rintro k ⟨fM,r3⟩ s out ⟨h13,rfl,lM⟩ H
 have H:aB.l4 m aq a0 m0 b0 aN (k+1) fM r3=some out:=H
 refine qq <| qq <| q0 <| qc H (fun c9 H=>?_) (fun c9 H=>?_)
 ·refine qk <| qb 9 <| qq <| q0 <| qq ?_
  obtain⟨v12,D4,H⟩:=aJ H
  obtain⟨H7,Fz,H⟩:=aJ H
  obtain⟨r4,D5,H⟩:=aJ H
  refine qr [.v 5 (aG (k:=.i64) (E:=aa) (l:=aq) (q:=0) dA lM rfl D4),.v 6 (be  (E:=aa) (l:=aq) (q:=0) lM rfl A3 D4 rfl),.v 9 (aG (k:=.i64) (E:=aa) (l:=aq) (q:=0) dA lM rfl Fz),.v 10 (be  (E:=aa) (l:=aq) (q:=0) lM rfl A3 Fz rfl),.a 11 (hY h13 [(aA,.sl aq.length 1 (aa.l aq))] lM _ _ _ D5)] <| qc H (fun w6 H=>?_) (fun w6 H=>?_)
  ·exact q0 <| ⟨(i64.wrap (i64.wrap (gk .u64 (u64.wrap (i64.wrap (fM+r3))) 1)+(1:Int)),r3),⟨h13,by kernel_rfl,lM⟩,H⟩
  ·exact q0 <| ⟨(fM,i64.wrap (gk .u64 (u64.wrap (i64.wrap (fM+r3))) 1)),⟨h13,by kernel_rfl,lM⟩,H⟩
 ·exact qx 8 <| ⟨rfl,fM,r3,oi H,.int .i64 r3,.int .i64 (i64.wrap (i64.wrap (i64.wrap (gk .u64 (u64.wrap (i64.wrap (a0+b0))) 1)+m0) - (1:Int))),.bool (decide (fM<r3)),h13,by kernel_rfl,lM⟩
theorem tP {aS:FuncId→cd}(ha:aS 120=lu)(M3:MR cf m)(aq:List Int)(a0:Int)(m0:Int)(b0:Int)(aN:Int→Int→Option (Int))(h:AHeap)(L:Mem)(aA:Nat)(er:FuncId)(aV:List AV)  {kk:Nat}(iL:uR cf m kk)(gB:ay (.fn er aV) = .fn er aV)(hY:∀h K,Has h (K++L)→∀(a0:Int) (a1:Int) r,aN a0 a1=some r→cf er ([.int .i64 a0,.int .i64 a1]++aV) h=some (.int .i64 r,h))(o:Has h ((aA,.sl aq.length 1 (aa.l aq))::L)){out:(List Int)}(H:aB.f m (kk+1) aq a0 m0 b0 aN=some out) :
  ∃r h',aZ Tryd.prog aS cf m 120 [.rs aA 0 aq.length 1,.int .i64 a0,.int .i64 m0,.int .i64 b0,.fn er aV] h=some (r,h')∧r = .tup []∧Has h' ((aA,.sl aq.length 1 (aa.l out))::L):=by
 refine aj (fn:=Tryd.f120) ha Tryd.func120 (by kernel_rfl) (by kernel_rfl) ?_
 refine aD (Q:=fun s=>aB.fin L aA aq a0 m0 b0 aN out s) (fun _ _ ⟨h1,h2,h3⟩=>⟨h1,_,h2,rfl,h3⟩) ?_
 have H:aB.b m (aB.f m kk) aq a0 m0 b0 aN=some out:=H
 unfold aB.b at H
 show de _ cf lu m _ ⟨.rs aA 0 aq.length 1 :: .int .i64 a0 :: .int .i64 m0 :: .int .i64 b0 :: .fn er aV::PE [],[],h⟩ _
 refine qq <| qq <| q0 <| qc H (fun c0 H=>?_) (fun c0 H=>?_)
 ·refine q1 <| qq <| q0 <| qq <| qb 0 ?_
  obtain⟨bo,e3,H⟩:=aJ H
  refine ql (aB.bG L aA er aV aq a0 m0 b0 aN  iL gB hY  (m0,b0) _ _ ⟨h,by kernel_rfl,o⟩ e3) ?_
  rintro e s ⟨rfl,i1,j1,rfl,g0,g1,g2,h1,rfl,o1⟩
  try dsimp only at H
  refine qq <| qq <| q0 <| qb 2 ?_
  obtain⟨cD,pe,H⟩:=aJ H
  refine ql (aB.fW L aA er aV aq a0 m0 b0 aN i1  iL gB hY  (aq,a0) _ _ ⟨h1,by kernel_rfl,o1⟩ pe) ?_
  rintro e s ⟨rfl,cY,k1,rfl,g3,g4,g5,g6,h5,rfl,o5⟩
  try dsimp only at H
  obtain rfl:=oi H
  exact qt <| ⟨.inl rfl,⟨by kernel_rfl,he o5⟩⟩
 ·refine qk <| qq <| qq <| q0 <| qc H (fun c4 H=>?_) (fun c4 H=>?_)
  ·refine q1 <| qq <| q0 <| qq <| qb 4 ?_
   obtain⟨jt,uS,H⟩:=aJ H
   refine ql (aB.ph L aA er aV aq a0 m0 b0 aN  iL gB hY  (a0,m0) _ _ ⟨h,by kernel_rfl,o⟩ uS) ?_
   rintro e s ⟨rfl,i3,j3,rfl,g7,g8,g9,h7,rfl,o7⟩
   try dsimp only at H
   refine qq <| qq <| q0 <| qb 6 ?_
   obtain⟨pf,D6,H⟩:=aJ H
   refine ql (aB.tN L aA er aV aq a0 m0 b0 aN i3  iL gB hY  (aq,m0) _ _ ⟨h7,by kernel_rfl,o7⟩ D6) ?_
   rintro e s ⟨rfl,jA,k3,rfl,g10,g11,g12,g13,h11,rfl,vE⟩
   try dsimp only at H
   obtain rfl:=oi H
   exact qt <| ⟨.inl rfl,⟨by kernel_rfl,he vE⟩⟩
  ·refine qk <| qq <| q0 <| qq <| q0 <| qq <| q0 ?_
   obtain⟨Oo,SH,H⟩:=wV H
   refine qj (S:=fun (σ:Int × Int) s=>match σ with | (tM,r2)=>∃(h12:AHeap),s=⟨.rs aA 0 aq.length 1 :: .int .i64 a0 :: .int .i64 m0 :: .int .i64 b0 :: .fn er aV::se (.int .i64 (i64.wrap (gk .u64 (u64.wrap (i64.wrap (a0+b0))) 1)) :: .int .i64 (i64.wrap (i64.wrap (gk .u64 (u64.wrap (i64.wrap (a0+b0))) 1)+m0)) :: .int .i64 tM :: .int .i64 r2::E9 []),[],h12⟩∧Has h12 ((aA,.sl aq.length 1 (aa.l aq))::L)) Oo H ?_ ?_
   ·rintro⟨tM,r2⟩ s ⟨h12,rfl,tK⟩ H
    have H:=(SH _).symm.trans H
    try dsimp only at H
    refine q1 <| qq <| qb 8 ?_
    obtain⟨cN,FA,H⟩:=aJ H
    refine ql (aB.tO L aA er aV aq a0 m0 b0 aN  iL gB hY  (tM,r2) _ _ ⟨h12,by kernel_rfl,tK⟩ FA) ?_
    rintro e s ⟨rfl,eS,r5,rfl,g14,g15,g16,h14,rfl,yP⟩
    try dsimp only at H
    refine q1 ?_
    obtain⟨MY,On,H⟩:=wV H
    refine qj (S:=fun (σ:(List Int)) s=>match σ with | kR=>∃(g17:AV) (g18:AV) (h16:AHeap),s=⟨.rs aA 0 aq.length 1 :: .int .i64 a0::g17 :: .int .i64 b0 :: .fn er aV::se (.int .i64 (i64.wrap (gk .u64 (u64.wrap (i64.wrap (a0+b0))) 1)) :: .any :: .int .i64 eS::kz (.int .i64 (i64.wrap (i64.wrap (i64.wrap (gk .u64 (u64.wrap (i64.wrap (a0+b0))) 1)+m0) - eS))::oY [g18,.any,.any])),[],h16⟩∧Has h16 ((aA,.sl aq.length 1 (aa.l kR))::L)) MY H ?_ ?_
    ·rintro kR s ⟨g17,g18,h16,rfl,lR⟩ H
     have H:=(On _).symm.trans H
     try dsimp only at H
     obtain⟨MX,EA,H⟩:=wV H
     refine qj (S:=fun (σ:(List Int)) s=>match σ with | pg=>∃(g19:AV) (g20:AV) (g21:AV) (h18:AHeap),s=⟨.rs aA 0 aq.length 1::g19 :: .any :: .int .i64 b0 :: .fn er aV::se (.int .i64 (i64.wrap (gk .u64 (u64.wrap (i64.wrap (a0+b0))) 1)) :: .any::g20::kz (.int .i64 (i64.wrap (i64.wrap (i64.wrap (gk .u64 (u64.wrap (i64.wrap (a0+b0))) 1)+m0) - eS))::mX [g21,.any])),[],h18⟩∧Has h18 ((aA,.sl aq.length 1 (aa.l pg))::L)) MX H ?_ ?_
     ·rintro pg s ⟨g19,g20,g21,h18,rfl,DD⟩ H
      have H:=(EA _).symm.trans H
      try dsimp only at H
      refine qq ?_
      rcases dF H with⟨Dv,H⟩| ⟨Dv,H⟩
      ·refine qr [.b 3 Dv] <| qc H (fun Kv H=>?_) (fun Kv H=>?_)
       ·obtain⟨x2,FB,H⟩:=aJ H
        obtain⟨h19,H8,DE⟩:=iL _ _ _ _ _ _ FB h18 _ _ _ (DD) er aV gB (fun h' K' o'=>hY h' (K'++[]) (by simpa only [W7,Xj,Xs] using o')) [.rs aA 0 aq.length 1,.int .i64 (i64.wrap (gk .u64 (u64.wrap (i64.wrap (a0+b0))) 1)),.int .i64 (i64.wrap (i64.wrap (i64.wrap (gk .u64 (u64.wrap (i64.wrap (a0+b0))) 1)+m0) - eS)),.int .i64 b0,.fn er aV] (an (rfl) (an (aO (bC)) (an (aO (bC)) (an (aO (bC)) (an (gB) (bg))))))
        obtain rfl:=oi H
        exact qr [.a 5 H8] <| ⟨.inr rfl,⟨by kernel_rfl,he DE⟩⟩
       ·obtain rfl:=oi H
        exact qk <| ⟨.inr rfl,⟨by kernel_rfl,he DD⟩⟩
      ·obtain rfl:=oi H
       exact qr [.b 3 Dv] <| Ds <| qk <| ⟨.inr rfl,⟨by kernel_rfl,he DD⟩⟩
     clear EA
     intro Kw
     refine qq ?_
     rcases dF H with⟨rF,H⟩| ⟨rF,H⟩
     ·refine qr [.b 3 rF] <| qc H (fun BX H=>?_) (fun BX H=>?_)
      ·obtain⟨x1,FC,H⟩:=aJ H
       obtain⟨h17,FD,AI⟩:=iL _ _ _ _ _ _ FC h16 _ _ _ (lR) er aV gB (fun h' K' o'=>hY h' (K'++[]) (by simpa only [W7,Xj,Xs] using o')) [.rs aA 0 aq.length 1,.int .i64 a0,.int .i64 eS,.int .i64 (i64.wrap (gk .u64 (u64.wrap (i64.wrap (a0+b0))) 1)),.fn er aV] (an (rfl) (an (aO (bC)) (an (aO (bC)) (an (aO (bC)) (an (gB) (bg))))))
       exact qr [.a 5 FD] <| Kw x1 _ ⟨.any,.any,.any,h17,by kernel_rfl,AI⟩ H
      ·exact qk <| Kw kR _ ⟨.int .i64 a0,.int .i64 eS,.bool (decide (eS<(i64.wrap (gk .u64 (u64.wrap (i64.wrap (a0+b0))) 1)))),h16,by kernel_rfl,lR⟩ H
     ·exact qr [.b 3 rF] <| Ds <| qk <| Kw kR _ ⟨.int .i64 a0,.int .i64 eS,.bool false,h16,by kernel_rfl,lR⟩ H
    clear On
    intro Kx
    refine qq ?_
    rcases dF H with⟨pd,H⟩| ⟨pd,H⟩
    ·refine qr [.b 3 pd] <| qc H (fun rE H=>?_) (fun rE H=>?_)
     ·obtain⟨x0,FE,H⟩:=aJ H
      obtain⟨h15,Hh,zU⟩:=M3 _ _ _ _ _ _ FE h14 _ _ _ (yP) er aV gB (fun h' K' o'=>hY h' (K'++[]) (by simpa only [W7,Xj,Xs] using o')) [.rs aA 0 aq.length 1,.int .i64 eS,.int .i64 m0,.int .i64 (i64.wrap (i64.wrap (i64.wrap (gk .u64 (u64.wrap (i64.wrap (a0+b0))) 1)+m0) - eS)),.fn er aV] (an (rfl) (an (aO (bC)) (an (aO (bC)) (an (aO (bC)) (an (gB) (bg))))))
      exact qr [.a 5 Hh] <| Kx x0 _ ⟨.any,.any,h15,by kernel_rfl,zU⟩ H
     ·exact qk <| Kx aq _ ⟨.int .i64 m0,.bool (decide (m0<(i64.wrap (i64.wrap (i64.wrap (gk .u64 (u64.wrap (i64.wrap (a0+b0))) 1)+m0) - eS)))),h14,by kernel_rfl,yP⟩ H
    ·exact qr [.b 3 pd] <| Ds <| qk <| Kx aq _ ⟨.int .i64 m0,.bool false,h14,by kernel_rfl,yP⟩ H
   clear SH
   intro M4
   refine q1 <| qc H (fun c8 H=>?_) (fun c8 H=>?_)
   ·exact q1 <| q0 <| M4 (i64.wrap (i64.wrap (i64.wrap (gk .u64 (u64.wrap (i64.wrap (a0+b0))) 1)+m0) - b0),i64.wrap (gk .u64 (u64.wrap (i64.wrap (a0+b0))) 1)) _ ⟨h,by kernel_rfl,o⟩ H
   ·exact q1 <| q0 <| M4 (a0,m0) _ ⟨h,by kernel_rfl,o⟩ H
end
end Go.Proofs.YtmekcfdllhphlaaDoor
namespace Go.Proofs.YtmekcfdllhphlaaDoor
open Go Go.R
open Go.IntKind (i64 u64 u8 u32)
theorem FF {α β:Type}{B:α→Option β}{c1 c2:Bool}{X:Option α}{d0:α}{G:β→Prop}(D:α→Prop)(h1:c1=true→c2=true→∃x,X=some x∧D x)(h0:¬(c1=true∧c2=true)→D d0)
  (h:∀x,D x→∃d,B x=some d∧G d):∃d,jn B (fun j=>if c1=true then (if c2=true then (X.bind fun x0=>j x0) else j d0) else j d0)=some d∧G d:=by
 unfold jn
 dsimp only
 by_cases a1:c1=true
 ·by_cases a2:c2=true
  ·obtain⟨x,e,hx⟩:=h1 a1 a2
   rw [if_pos a1,if_pos a2,e]; exact h x hx
  ·rw [if_pos a1,if_neg a2]; exact h _ (h0 fun z=>a2 z.2)
 ·rw [if_neg a1]; exact h _ (h0 fun z=>a1 z.1)
theorem PY {α:Type}{c1 c2:Bool}{X:Option α}{d0:α}{G:α→Prop}(h1:c1=true→c2=true→∃x,X=some x∧G x)(h0:¬(c1=true∧c2=true)→G d0) :
  ∃d,(if c1=true then (if c2=true then (X.bind fun x0=>some x0) else some d0) else some d0)=some d∧G d:=by
 by_cases a1:c1=true
 ·by_cases a2:c2=true
  ·obtain⟨x,e,hx⟩:=h1 a1 a2
   rw [if_pos a1,if_pos a2,e]; exact⟨x,rfl,hx⟩
  ·rw [if_pos a1,if_neg a2]; exact⟨_,rfl,h0 fun z=>a2 z.2⟩
 ·rw [if_neg a1]; exact⟨_,rfl,h0 fun z=>a1 z.1⟩
theorem Ky {α β:Type}{B:α→Option β}{c:Bool}{x y:α}{G:β→Prop}(h:∀z,(c=true∧z=x)∨(c=false∧z=y)→∃d,B z=some d∧G d):∃d,jn B (fun j=>if c=true then j x else j y)=some d∧G d:=by
 unfold jn
 dsimp only
 cases c with
 | true=>exact h _ (.inl ⟨rfl,rfl⟩)
 | false=>exact h _ (.inr ⟨rfl,rfl⟩)
theorem Ord.refl {c:Int→Int→Int}{l:List Int}(O:Ord c l){x:Int}(hx:x∈l):0≤c x x:=by
 by_cases h:c x x<0
 ·exact O.LD x hx x hx h
 ·omega
theorem Sg.le {c:Int→Int→Int}{l:List Int}{a b:Nat}(S:Sg c l a b)(O:Ord c l){i j:Nat}(h1:a≤i)(h2:i≤j)(h3:j<b)(h4:b≤l.length):0≤c (gt l j) (gt l i):=by
 by_cases h:i=j
 ·subst h; exact O.refl (aM (by omega))
 ·exact S i j h1 (by omega) h3
section
variable {m:Nat}{cmp:Int→Int→Option Int}{c:Int→Int→Int}
theorem AJ {l:List Int}{a:Nat}(ha:a<l.length)(hs:l.length<2 ^ 40)(C:Cm cmp c l):∀(f i j:Nat),j - i<f→i≤j→j≤l.length→
  ∃x:Nat,aB.l0 m l (a:Int) cmp f (i:Int) (j:Int)=some ((x:Int),(x:Int))∧i≤x∧x≤j∧(i<x→c (gt l (x - 1)) (gt l a)<0)∧(x<j→0≤c (gt l x) (gt l a))
 | 0,i,j,hf,_,_=>absurd hf (by omega)
 | f+1,i,j,hf,h1,h2=>by
  have ot:(2:Nat) ^ 40=1099511627776:=by decide
  unfold aB.l0
  by_cases h:i<j
  ·have hh:=yO (a:=i) (b:=j) (by omega)
   rw [if_pos (by simp; omega),hh,cE (by omega),cE ha,WQ,WQ,C.at (by omega) ha,WQ]
   by_cases g:c (gt l ((i+j) / 2)) (gt l a)<0
   ·obtain⟨x,e,x1,x2,x3,x4⟩:=AJ ha hs C f ((i+j) / 2+1) j (by omega) (by omega) h2
    rw [if_pos (by simpa using g),aE (by omega) (by omega),show (((i+j) / 2:Nat):Int)+1=(((i+j) / 2+1:Nat):Int) by omega,e]
    refine⟨x,rfl,by omega,x2,fun _=>?_,x4⟩
    by_cases hx:x=(i+j) / 2+1
    ·rw [hx]; simpa using g
    ·exact x3 (by omega)
   ·obtain⟨x,e,x1,x2,x3,x4⟩:=AJ ha hs C f i ((i+j) / 2) (by omega) (by omega) (by omega)
    rw [if_neg (by simpa using g),e]
    refine⟨x,rfl,x1,by omega,x3,fun _=>?_⟩
    by_cases hx:x=(i+j) / 2
    ·rw [hx]; omega
    ·exact x4 (by omega)
  ·have:i=j:=by omega
   subst this
   exact⟨i,by rw [if_neg (by simp)],WU _,WU _,fun h=>absurd h (by omega),fun h=>absurd h (by omega)⟩
theorem AK {l:List Int}{q:Nat}(hq:q<l.length)(hs:l.length<2 ^ 40)(C:Cm cmp c l):∀(f i j:Nat),j - i<f→i≤j→j≤l.length→
  ∃x:Nat,aB.l2 m l (q:Int) cmp f (i:Int) (j:Int)=some ((x:Int),(x:Int))∧i≤x∧x≤j∧(i<x→0≤c (gt l q) (gt l (x - 1)))∧(x<j→c (gt l q) (gt l x)<0)
 | 0,i,j,hf,_,_=>absurd hf (by omega)
 | f+1,i,j,hf,h1,h2=>by
  have ot:(2:Nat) ^ 40=1099511627776:=by decide
  unfold aB.l2
  by_cases h:i<j
  ·have hh:=yO (a:=i) (b:=j) (by omega)
   rw [if_pos (by simp; omega),hh,cE hq,cE (by omega),WQ,WQ,C.at hq (by omega),WQ]
   by_cases g:c (gt l q) (gt l ((i+j) / 2))<0
   ·obtain⟨x,e,x1,x2,x3,x4⟩:=AK hq hs C f i ((i+j) / 2) (by omega) (by omega) (by omega)
    rw [if_neg (by simpa using g),e]
    refine⟨x,rfl,x1,by omega,x3,fun _=>?_⟩
    by_cases hx:x=(i+j) / 2
    ·rw [hx]; omega
    ·exact x4 (by omega)
   ·obtain⟨x,e,x1,x2,x3,x4⟩:=AK hq hs C f ((i+j) / 2+1) j (by omega) (by omega) h2
    rw [if_pos (by simpa using g),aE (by omega) (by omega),show (((i+j) / 2:Nat):Int)+1=(((i+j) / 2+1:Nat):Int) by omega,e]
    refine⟨x,rfl,by omega,x2,fun _=>?_,x4⟩
    by_cases hx:x=(i+j) / 2+1
    ·rw [hx]; simp; omega
    ·exact x3 (by omega)
  ·have:i=j:=by omega
   subst this
   exact⟨i,by rw [if_neg (by simp)],WU _,WU _,fun h=>absurd h (by omega),fun h=>absurd h (by omega)⟩
theorem FG {l:List Int}{a x:Nat}(hx:x≤l.length)(PZ:a<x)(hs:l.length<2 ^ 40):∀(f k:Nat) (d:List Int),x - k<f→a≤k→k<x→Mv a x l d→
  (∀t,gt d t=if a≤t∧t<k then gt l (t+1) else if t=k then gt l a else gt l t)→
  ∃d' y,aB.l1 m (x:Int) f d (k:Int)=some (d',y)∧Mv a x l d'∧∀t,gt d' t=if a≤t∧t+1<x then gt l (t+1) else if t+1=x then gt l a else gt l t
 | 0,k,d,hf,_,_,_,_=>absurd hf (by omega)
 | f+1,k,d,hf,h1,h2,M,hg=>by
  have ot:(2:Nat) ^ 40=1099511627776:=by decide
  have hl:=M.length
  unfold aB.l1
  have e0:i64.wrap ((x:Int) - 1)=((x - 1:Nat):Int):=by rw [aE (by omega) (by omega)]; omega
  rw [e0]
  by_cases h:k<x - 1
  ·have e1:i64.wrap ((k:Int)+1)=((k+1:Nat):Int):=by rw [aE (by omega) (by omega)]; omega
   rw [if_pos (by simp; omega),e1,cE (by omega),cE (by omega),WQ,WQ,WQ,WX,WX,cE (by simp; omega),WQ]
   refine FG hx PZ hs f (k+1) (Fo d k (k+1)) (by omega) (by omega) (by omega) (M.trans (AG (by omega) (by omega) (by omega) (by omega) (by omega))) fun t=>?_
   rw [ls (by omega) (by omega),hg k,hg (k+1),hg t]
   by_cases t1:t=k+1
   ·subst t1; rw [if_pos rfl,if_neg (by omega),if_pos rfl,if_neg (by omega),if_pos rfl]
   ·rw [if_neg t1]
    by_cases t2:t=k
    ·subst t2; rw [if_pos rfl,if_neg (by omega),if_neg (by omega),if_pos (by omega)]
    ·rw [if_neg t2,if_neg t2,if_neg t1]
     by_cases t3:a≤t∧t<k
     ·rw [if_pos t3,if_pos (by omega)]
     ·rw [if_neg t3,if_neg (by omega)]
  ·refine⟨d,k,by rw [if_neg (by simp; omega)],M,fun t=>?_⟩
   rw [hg]
   by_cases t3:a≤t∧t<k
   ·rw [if_pos t3,if_pos (by omega)]
   ·rw [if_neg t3,if_neg (show ¬(a≤t∧t+1<x) by omega)]
    by_cases t4:t=k
    ·rw [if_pos t4,if_pos (by omega)]
    ·rw [if_neg t4,if_neg (by omega)]
theorem FH {l:List Int}{q x:Nat}(hx:q<l.length)(PZ:x≤q)(hs:l.length<2 ^ 40):∀(f k:Nat) (d:List Int),k - x<f→x≤k→k≤q→Mv x (q+1) l d→
  (∀t,gt d t=if k<t∧t≤q then gt l (t - 1) else if t=k then gt l q else gt l t)→
  ∃d' y,aB.l3 m (x:Int) f d (k:Int)=some (d',y)∧Mv x (q+1) l d'∧∀t,gt d' t=if x<t∧t≤q then gt l (t - 1) else if t=x then gt l q else gt l t
 | 0,k,d,hf,_,_,_,_=>absurd hf (by omega)
 | f+1,k,d,hf,h1,h2,M,hg=>by
  have ot:(2:Nat) ^ 40=1099511627776:=by decide
  have hl:=M.length
  unfold aB.l3
  by_cases h:x<k
  ·have e1:i64.wrap ((k:Int) - 1)=((k - 1:Nat):Int):=by rw [aE (by omega) (by omega)]; omega
   rw [if_pos (by simp; omega),e1,cE (by omega),cE (by omega),WQ,WQ,WQ,WX,WX,cE (by simp; omega),WQ]
   refine FH hx PZ hs f (k - 1) (Fo d k (k - 1)) (by omega) (by omega) (by omega) (M.trans (AG (by omega) (by omega) (by omega) (by omega) (by omega))) fun t=>?_
   rw [ls (by omega) (by omega),hg k,hg (k - 1),hg t]
   by_cases t1:t=k - 1
   ·subst t1; rw [if_pos rfl,if_neg (by omega),if_pos rfl,if_neg (by omega),if_pos rfl]
   ·rw [if_neg t1]
    by_cases t2:t=k
    ·subst t2; rw [if_pos rfl,if_neg (by omega),if_neg (by omega),if_pos (by omega)]
    ·rw [if_neg t2,if_neg t2,if_neg t1]
     by_cases t3:k<t∧t≤q
     ·rw [if_pos t3,if_pos (by omega)]
     ·rw [if_neg t3,if_neg (by omega)]
  ·have:k=x:=by omega
   subst this
   exact⟨d,k,by rw [if_neg (by simp)],M,hg⟩
theorem AL {l:List Int}{a b q:Nat}(Lx:a+b<2 ^ 42)(hs:l.length<2 ^ 40)(C:Cm cmp c l):∀(f s r:Nat),r - s<f→s≤r→r≤l.length→r≤(a+b) / 2+q→(a+b) / 2+q≤l.length+s→
  ∃x:Nat,aB.l4 m l (a:Int) (q:Int) (b:Int) cmp f (s:Int) (r:Int)=some ((x:Int),(x:Int))∧s≤x∧x≤r∧(s<x→0≤c (gt l ((a+b) / 2+q - x)) (gt l (x - 1)))∧(x<r→c (gt l ((a+b) / 2+q - x - 1)) (gt l x)<0)
 | 0,i,j,hf,_,_,_,_=>absurd hf (by omega)
 | f+1,s,r,hf,h1,h2,h3,h4=>by
  have ot:(2:Nat) ^ 40=1099511627776:=by decide
  have M8:(2:Nat) ^ 42=4398046511104:=by decide
  unfold aB.l4
  by_cases h:s<r
  ·have hh:=yO (a:=s) (b:=r) (by omega)
   have Lx:=yO (a:=a) (b:=b) (by omega)
   have e1:i64.wrap (i64.wrap (i64.wrap ((((a+b) / 2:Nat):Int)+(q:Int)) - 1) - (((s+r) / 2:Nat):Int))=(((a+b) / 2+q - (s+r) / 2 - 1:Nat):Int):=by
    rw [aE (x:=(((a+b) / 2:Nat):Int)+(q:Int)) (by omega) (by omega),aE (x:=(((a+b) / 2:Nat):Int)+(q:Int) - 1) (by omega) (by omega),aE (by omega) (by omega)]
    omega
   rw [if_pos (by simp; omega),hh,Lx,e1,cE (by omega),cE (by omega),WQ,WQ,C.at (by omega) (by omega),WQ]
   by_cases g:c (gt l ((a+b) / 2+q - (s+r) / 2 - 1)) (gt l ((s+r) / 2))<0
   ·obtain⟨x,e,x1,x2,x3,x4⟩:=AL (a:=a) (b:=b) (q:=q) (by omega) hs C f s ((s+r) / 2) (by omega) (by omega) (by omega) (by omega) (by omega)
    rw [if_neg (by simpa using g),e]
    refine⟨x,rfl,x1,by omega,x3,fun _=>?_⟩
    by_cases hx:x=(s+r) / 2
    ·rw [hx]; exact g
    ·exact x4 (by omega)
   ·obtain⟨x,e,x1,x2,x3,x4⟩:=AL (a:=a) (b:=b) (q:=q) (by omega) hs C f ((s+r) / 2+1) r (by omega) (by omega) h2 h3 (by omega)
    rw [if_pos (by simpa using g),aE (by omega) (by omega),show (((s+r) / 2:Nat):Int)+1=(((s+r) / 2+1:Nat):Int) by omega,e]
    refine⟨x,rfl,by omega,x2,fun _=>?_,x4⟩
    by_cases hx:x=(s+r) / 2+1
    ·rw [hx,show (a+b) / 2+q - ((s+r) / 2+1)=(a+b) / 2+q - (s+r) / 2 - 1 by omega,Nat.add_sub_cancel]; omega
    ·exact x3 (by omega)
  ·have:s=r:=by omega
   subst this
   exact⟨s,by rw [if_neg (by simp)],WU _,WU _,fun h=>absurd h (by omega),fun h=>absurd h (by omega)⟩
end
end Go.Proofs.YtmekcfdllhphlaaDoor
namespace Go.Proofs.YtmekcfdllhphlaaDoor
open Go Go.R
open Go.IntKind (i64 u64 u8 u32)
section
variable {m:Nat}{cmp:Int→Int→Option Int}{c:Int→Int→Int}
theorem tQ {l d:List Int}{a q b M E x:Nat}(h1:a≤x)(h2:x≤M)(h3:x≤q)(h4:q≤E)(h5:E≤b)(h6:E+x=M+q)(hb:b≤l.length)
  (R:LB l d x (q - x) (E - q)) (O:Ord c l) (F1:a<x→E<b→0≤c (gt l E) (gt l (x - 1))) (F2:x<q→q<E→c (gt l (E - 1)) (gt l x)<0)
  (S1:Sg c l a q) (S2:Sg c l q b) :
  Sg c d a x∧Sg c d x M∧Sg c d M E∧Sg c d E b∧(∀i j,a≤i→i<M→M≤j→j<b→0≤c (gt d j) (gt d i)):=by
 obtain⟨R1,R2,R3,R4⟩:=R
 have g1:∀k,k<x→gt d k=gt l k:=fun k hk=>R4 k (.inl hk)
 have g2:∀k,x≤k→k<M→gt d k=gt l (q+(k - x)):=fun k hk pY=>by
  have:=R2 (k - x) (by omega)
  rw [show x+(k - x)=k by omega,show x+(q - x)+(k - x)=q+(k - x) by omega] at this
  exact this
 have g3:∀k,M≤k→k<E→gt d k=gt l (x+(k - M)):=fun k hk pY=>by
  have:=R3 (k - M) (by omega)
  rw [show x+(E - q)+(k - M)=k by omega] at this
  exact this
 have g4:∀k,E≤k→gt d k=gt l k:=fun k hk=>R4 k (.inr (by omega))
 refine⟨fun i j k1 k2 k3=>?_,fun i j k1 k2 k3=>?_,fun i j k1 k2 k3=>?_,fun i j k1 k2 k3=>?_,fun i j k1 k2 k3 k4=>?_⟩
 ·rw [g1 i (by omega),g1 j (by omega)]; exact S1 _ _ k1 k2 (by omega)
 ·rw [g2 i (by omega) (by omega),g2 j (by omega) (by omega)]; exact S2 _ _ (by omega) (by omega) (by omega)
 ·rw [g3 i (by omega) (by omega),g3 j (by omega) (by omega)]; exact S1 _ _ (by omega) (by omega) (by omega)
 ·rw [g4 i (by omega),g4 j (by omega)]; exact S2 _ _ (by omega) (by omega) (by omega)
 ·by_cases hi:i<x
  ·rw [g1 i hi]
   by_cases hj:j<E
   ·rw [g3 j k3 hj]; exact S1 _ _ k1 (by omega) (by omega)
   ·rw [g4 j (by omega)]
    have f1:=F1 (by omega) (by omega)
    have f2:=S1.le O k1 (show i≤x - 1 by omega) (by omega) (by omega)
    have f3:=S2.le O (show q≤E from h4) (show E≤j by omega) k4 hb
    exact O.tr _ (aM (by omega)) _ (aM (show E<l.length by omega)) _ (aM (by omega)) (O.tr _ (aM (by omega)) _ (aM (show x - 1<l.length by omega)) _ (aM (by omega)) f2 f1) f3
  ·rw [g2 i (by omega) k2]
   by_cases hj:j<E
   ·rw [g3 j k3 hj]
    have f1:=O.LD _ (aM (show E - 1<l.length by omega)) _ (aM (show x<l.length by omega)) (F2 (by omega) (by omega))
    have f2:=S2.le O (show q≤q+(i - x) by omega) (show q+(i - x)≤E - 1 by omega) (by omega) hb
    have f3:=S1.le O h1 (show x≤x+(j - M) by omega) (by omega) (by omega)
    exact O.tr _ (aM (by omega)) _ (aM (show x<l.length by omega)) _ (aM (by omega)) (O.tr _ (aM (by omega)) _ (aM (show E - 1<l.length by omega)) _ (aM (by omega)) f2 f1) f3
   ·rw [g4 j (by omega)]; exact S2 _ _ (by omega) (by omega) k4
theorem FI {l:List Int}{x i j:Nat}(h:i=0∨j=0):LB l l x i j:=
 ⟨List.Perm.refl _,fun k hk=>by rw [show i=0 by omega,Nat.add_zero],fun k hk=>by rw [show j=0 by omega,Nat.add_zero],fun _ _=>rfl⟩
theorem Kz {l d:List Int}{x i j a b:Nat}(R:LB l d x i j)(h1:a≤x)(h2:x+i+j≤b):Mv a b l d:=by
 obtain⟨R1,R2,R3,R4⟩:=R
 refine⟨R1,fun k hk=>R4 k (by omega),fun k k1 k2=>?_⟩
 by_cases g1:k<x∨x+i+j≤k
 ·exact⟨k,k1,k2,R4 k g1⟩
 ·by_cases g2:k<x+j
  ·have:=R2 (k - x) (by omega)
   rw [show x+(k - x)=k by omega] at this
   exact⟨_,by omega,by omega,this⟩
  ·have:=R3 (k - x - j) (by omega)
   rw [show x+j+(k - x - j)=k by omega] at this
   exact⟨_,by omega,by omega,this⟩
theorem pj (hm:2 ^ 41≤m):∀(f:Nat) (l:List Int) (a q b:Nat),b - a<f→a<q→q<b→b≤l.length→l.length<2 ^ 40→Cm cmp c l→
  ∃d,aB.f m f l (a:Int) (q:Int) (b:Int) cmp=some d∧Mv a b l d∧(Ord c l→Sg c l a q→Sg c l q b→Sg c d a b)
 | 0,l,a,q,b,hf,_,_,_,_,_=>absurd hf (by omega)
 | f+1,l,a,q,b,hf,h1,h2,h3,hs,C=>by
  have ot:(2:Nat) ^ 40=1099511627776:=by decide
  have rD:(2:Nat) ^ 41=2199023255552:=by decide
  have M8:(2:Nat) ^ 42=4398046511104:=by decide
  unfold aB.f
  unfold aB.b
  have e1:i64.wrap ((q:Int) - (a:Int))=((q - a:Nat):Int):=by rw [aE (by omega) (by omega)]; omega
  have e2:i64.wrap ((b:Int) - (q:Int))=((b - q:Nat):Int):=by rw [aE (by omega) (by omega)]; omega
  have hM:=yO (a:=a) (b:=b) (by omega)
  rw [e1,e2,hM]
  by_cases Wy:q - a=1
  ·obtain⟨x,k1,k2,k3,k4,k5⟩:=AJ (m:=m) (a:=a) (by omega) hs C m q b (by omega) (by omega) h3
   obtain⟨d,y,g1,g2,g3⟩:=FG (m:=m) (l:=l) (a:=a) (x:=x) (by omega) (by omega) hs m a l (by omega) (WU _) (by omega) Mv.refl (fun t=>by rw [if_neg (by omega)]; split<;>simp_all)
   rw [if_pos (by simp; omega),k1,WQ]
   dsimp only
   rw [g1]
   refine⟨d,rfl,g2.wide (WU _) k3,fun O S1 S2 i j r1 r2 r3=>?_⟩
   have A1:∀t,a≤t→t+1<x→gt d t=gt l (t+1):=fun t w1 w2=>by rw [g3 t,if_pos ⟨w1,w2⟩]
   have A2:∀t,t+1=x→gt d t=gt l a:=fun t w1=>by rw [g3 t,if_neg (by omega),if_pos w1]
   have A3:∀t,x≤t→gt d t=gt l t:=fun t w1=>by rw [g3 t,if_neg (by omega),if_neg (by omega)]
   by_cases i1:i+1<x
   ·rw [A1 i r1 i1]
    by_cases j1:j+1<x
    ·rw [A1 j (by omega) j1]; exact S2 _ _ (by omega) (by omega) (by omega)
    ·have f1:=O.LD _ (aM (show x - 1<l.length by omega)) _ (aM (show a<l.length by omega)) (k4 (by omega))
     have f2:=S2.le O (show q≤i+1 by omega) (show i+1≤x - 1 by omega) (by omega) h3
     by_cases j2:j+1=x
     ·rw [A2 j j2]
      exact O.tr _ (aM (by omega)) _ (aM (show x - 1<l.length by omega)) _ (aM (by omega)) f2 f1
     ·rw [A3 j (by omega)]; exact S2 _ _ (by omega) (by omega) (by omega)
   ·rw [A3 j (by omega)]
    by_cases i2:i+1=x
    ·rw [A2 i i2]
     have f1:=k5 (by omega)
     have f2:=S2.le O (show q≤x by omega) (show x≤j by omega) r3 h3
     exact O.tr _ (aM (by omega)) _ (aM (show x<l.length by omega)) _ (aM (by omega)) f1 f2
    ·rw [A3 i (by omega)]; exact S2 _ _ (by omega) r2 r3
  rw [if_neg (by simp; omega)]
  by_cases hb1:b - q=1
  ·obtain⟨x,k1,k2,k3,k4,k5⟩:=AK (m:=m) (q:=q) (by omega) hs C m a q (by omega) (by omega) (by omega)
   obtain⟨d,y,g1,g2,g3⟩:=FH (m:=m) (l:=l) (q:=q) (x:=x) (by omega) (by omega) hs m q l (by omega) (by omega) (WU _) Mv.refl (fun t=>by rw [if_neg (by omega)]; split<;>simp_all)
   rw [if_pos (by simp; omega),k1,WQ]
   dsimp only
   rw [g1]
   refine⟨d,rfl,g2.wide k2 (by omega),fun O S1 S2 i j r1 r2 r3=>?_⟩
   have A1:∀t,x<t→t≤q→gt d t=gt l (t - 1):=fun t w1 w2=>by rw [g3 t,if_pos ⟨w1,w2⟩]
   have A2:gt d x=gt l q:=by rw [g3 x,if_neg (by omega),if_pos rfl]
   have A3:∀t,t<x→gt d t=gt l t:=fun t w1=>by rw [g3 t,if_neg (by omega),if_neg (by omega)]
   by_cases i1:x<i
   ·rw [A1 i i1 (by omega),A1 j (by omega) (by omega)]
    exact S1 _ _ (by omega) (by omega) (by omega)
   ·by_cases i2:i=x
    ·subst i2
     rw [A2,A1 j (by omega) (by omega)]
     have f1:=O.LD _ (aM (show q<l.length by omega)) _ (aM (show i<l.length by omega)) (k5 (by omega))
     have f2:=S1.le O r1 (show i≤j - 1 by omega) (by omega) (by omega)
     exact O.tr _ (aM (by omega)) _ (aM (show i<l.length by omega)) _ (aM (by omega)) f1 f2
    ·rw [A3 i (by omega)]
     by_cases j1:x<j
     ·rw [A1 j j1 (by omega)]
      exact S1.le O r1 (by omega) (by omega) (by omega)
     ·have f1:=k4 (by omega)
      have f2:=S1.le O r1 (show i≤x - 1 by omega) (by omega) (by omega)
      by_cases j2:j=x
      ·subst j2
       rw [A2]
       exact O.tr _ (aM (by omega)) _ (aM (show j - 1<l.length by omega)) _ (aM (by omega)) f2 f1
      ·rw [A3 j (by omega)]; exact S1 _ _ r1 r2 (by omega)
  rw [if_neg (by simp; omega)]
  refine Ky ?_
  intro z hz
  have KA:∃s r:Nat,z=((s:Int),(r:Int))∧((q > (a+b) / 2∧s=(a+b) / 2+q - b∧r=(a+b) / 2)∨(q≤(a+b) / 2∧s=a∧r=q)):=by
   rcases hz with⟨hc,rfl⟩| ⟨hc,rfl⟩
   ·refine⟨(a+b) / 2+q - b,(a+b) / 2,?_,.inl ⟨by simp only [decide_eq_true_eq] at hc; omega,rfl,rfl⟩⟩
    simp only [W2,and_true]
    simp only [decide_eq_true_eq] at hc
    rw [aE (x:=(((a+b) / 2:Nat):Int)+(q:Int)) (by omega) (by omega),aE (by omega) (by omega)]
    omega
   ·refine⟨a,q,rfl,.inr ⟨?_,rfl,rfl⟩⟩
    simp only [decide_eq_false_iff_not] at hc
    omega
  obtain⟨s,r,rfl,KA⟩:=KA
  clear hz
  dsimp only
  obtain⟨x,k1,k2,k3,k4,k5⟩:=AL (m:=m) (a:=a) (b:=b) (q:=q) (by omega) hs C m s r (by omega) (by omega) (by omega) (by omega) (by omega)
  rw [k1,WQ]
  dsimp only
  generalize Wz:(a+b) / 2=M at *
  obtain⟨E,hE⟩:∃E,E=M+q - x:=⟨_,rfl⟩
  have eE:i64.wrap (i64.wrap ((M:Int)+(q:Int)) - (x:Int))=(E:Int):=by
   rw [aE (x:=(M:Int)+(q:Int)) (by omega) (by omega),aE (by omega) (by omega)]
   omega
  rw [eE]
  rw [←hE] at k4 k5
  have c1:a≤x:=by omega
  have c2:x≤M:=by omega
  have c3:x≤q:=by omega
  have c4:q≤E:=by omega
  have c5:E≤b:=by omega
  have c6:E+x=M+q:=by omega
  have c7:M≤E:=by omega
  have F1:a<x→E<b→0≤c (gt l E) (gt l (x - 1)):=fun _ _=>k4 (by omega)
  have F2:x<q→q<E→c (gt l (E - 1)) (gt l x)<0:=fun _ _=>k5 (by omega)
  refine FF (fun d=>LB l d x (q - x) (E - q)) (fun u1 u2=>?_) (fun u=>?_) ?_
  ·simp only [decide_eq_true_eq] at u1 u2
   exact Fq hm (by omega) (by omega) (by omega) hs
  ·simp only [decide_eq_true_eq] at u
   exact FI (by omega)
  intro d5 R
  try dsimp only
  have M5:Mv a b l d5:=Kz R c1 (by omega)
  have l5:=M5.length
  refine FF (fun d=>Mv a M d5 d∧(Ord c l→Sg c l a q→Sg c l q b→Sg c d a M)) (fun u1 u2=>?_) (fun u=>?_) ?_
  ·simp only [decide_eq_true_eq] at u1 u2
   obtain⟨d,g1,g2,g3⟩:=pj hm f d5 a x M (by omega) (by omega) (by omega) (by omega) (by omega) (C.perm M5.perm)
   refine⟨d,g1,g2,fun O S1 S2=>?_⟩
   obtain⟨v1,v2,v3,v4,v5⟩:=tQ c1 c2 c3 c4 c5 c6 h3 R O F1 F2 S1 S2
   exact g3 (O.perm M5.perm) v1 v2
  ·simp only [decide_eq_true_eq] at u
   refine⟨Mv.refl,fun O S1 S2=>?_⟩
   obtain⟨v1,v2,v3,v4,v5⟩:=tQ c1 c2 c3 c4 c5 c6 h3 R O F1 F2 S1 S2
   by_cases ua:a=x
   ·rw [ua]; exact v2
   ·rw [show M=x by omega]; exact v1
  rintro d6 ⟨M6,S6⟩
  try dsimp only
  have l6:=M6.length
  have P4:=M5.trans (M6.wide (WU _) (by omega))
  have fin:∀d,Mv M b d6 d→(Ord c l→Sg c l a q→Sg c l q b→Sg c d M b)→Mv a b l d∧(Ord c l→Sg c l a q→Sg c l q b→Sg c d a b):=by
   intro d M7 S7
   refine⟨P4.trans (M7.wide (by omega) (WU _)),fun O S1 S2 i j r1 r2 r3=>?_⟩
   obtain⟨v1,v2,v3,v4,v5⟩:=tQ c1 c2 c3 c4 c5 c6 h3 R O F1 F2 S1 S2
   by_cases hj:j<M
   ·rw [M7.out i (by omega),M7.out j (by omega)]
    exact S6 O S1 S2 _ _ r1 r2 hj
   ·by_cases hi:M≤i
    ·exact S7 O S1 S2 _ _ hi r2 r3
    ·obtain⟨j',y1,y2,y3⟩:=M7.im j (by omega) r3
     obtain⟨i',w1,w2,w3⟩:=M6.im i r1 (by omega)
     rw [M7.out i (by omega),y3,M6.out j' (by omega),w3]
     exact v5 _ _ w1 w2 y1 y2
  refine PY (fun u1 u2=>?_) (fun u=>?_)
  ·simp only [decide_eq_true_eq] at u1 u2
   obtain⟨d,g1,g2,g3⟩:=pj hm f d6 M E b (by omega) (by omega) (by omega) (by omega) (by omega) (C.perm P4.perm)
   refine⟨d,g1,fin d g2 fun O S1 S2=>?_⟩
   obtain⟨v1,v2,v3,v4,v5⟩:=tQ c1 c2 c3 c4 c5 c6 h3 R O F1 F2 S1 S2
   refine g3 (O.perm P4.perm) (fun i j y1 y2 y3=>?_) (fun i j y1 y2 y3=>?_)
   ·rw [M6.out i (by omega),M6.out j (by omega)]; exact v3 _ _ y1 y2 y3
   ·rw [M6.out i (by omega),M6.out j (by omega)]; exact v4 _ _ y1 y2 y3
  ·simp only [decide_eq_true_eq] at u
   refine fin d6 Mv.refl fun O S1 S2 i j y1 y2 y3=>?_
   obtain⟨v1,v2,v3,v4,v5⟩:=tQ c1 c2 c3 c4 c5 c6 h3 R O F1 F2 S1 S2
   rw [M6.out i (by omega),M6.out j (by omega)]
   by_cases ue:M=E
   ·exact v4 _ _ (by omega) y2 y3
   ·exact v3 _ _ y1 y2 (by omega)
end
end Go.Proofs.YtmekcfdllhphlaaDoor
namespace Go.Proofs.YtmekcfdllhphlaaDoor
open Go Go.R
open Go.IntKind (i64 u64 u8 u32)
def nW:cd:=gh [0,1,2,6,7,8,9,13,30,35,54] [] [2032,1984,1856,2000,1984,1984,2032,1776,1984,1472,2000,1984,1984,1952,928,2032,2032] [] []
def bO.l0 (m:Nat)(n0:Int)(aN:Int→Int→Option (Int)):Nat→(List Int)→Int→Int→Option ((List Int) × Int × Int)
 | 0,_,_,_=>none
 | k+1,bj,a0,b0=>if (decide (b0≤n0))=true then ((aP.f m bj a0 b0 aN).bind fun x0=>bO.l0 m n0 aN k x0 b0 (i64.wrap (b0+(20:Int)))) else (some ((bj,a0,b0)))
def bO.l2 (m:Nat)(n0:Int)(aN:Int→Int→Option (Int))(ba:Int):Nat→(List Int)→Int→Int→Option ((List Int) × Int × Int)
 | 0,_,_,_=>none
 | k+1,jA,a2,b2=>if (decide (b2≤n0))=true then ((aB.f m m jA a2 (i64.wrap (a2+ba)) b2 aN).bind fun x2=>bO.l2 m n0 aN ba k x2 b2 (i64.wrap (b2+i64.wrap ((2:Int)*ba)))) else (some ((jA,a2,b2)))
def bO.l1 (m:Nat)(n0:Int)(aN:Int→Int→Option (Int)):Nat→(List Int)→Int→Option ((List Int) × Int)
 | 0,_,_=>none
 | k+1,dr,ba=>if (decide (ba<n0))=true then ((bO.l2 m n0 aN ba m dr (0:Int) (i64.wrap ((2:Int)*ba))).bind fun cD=>match cD with | (kR,a3,b3)=>if (decide ((i64.wrap (a3+ba))<n0))=true then ((aB.f m m kR a3 (i64.wrap (a3+ba)) n0 aN).bind fun x3=>bO.l1 m n0 aN k x3 (i64.wrap (ba*(2:Int)))) else (bO.l1 m n0 aN k kR (i64.wrap (ba*(2:Int))))) else (some ((dr,ba)))
def bO.f (m:Nat)(aq:List Int)(n0:Int)(aN:Int→Int→Option (Int)):Option ((List Int)):=(bO.l0 m n0 aN m aq (0:Int) (20:Int)).bind fun bo=>match bo with | (cY,a1,b1)=>(aP.f m cY a1 n0 aN).bind fun x1=>(bO.l1 m n0 aN m x1 (20:Int)).bind fun jt=>match jt with | (pg,AM)=>some pg
def bO.fin (L:Mem)(aA:Nat)(aq:List Int)(n0:Int)(aN:Int→Int→Option (Int))(r:(List Int))(s:St):Prop:=aI Tryd.prog (s.open nW) Tryd.f110.results.toList=some (.tup [])∧Has s.h ((aA,.sl aq.length 1 (aa.l r))::L)
def M9 (cf:CallF)(m:Nat):Prop:=∀(aq:List Int) (n0:Int) (aN:Int→Int→Option (Int)) (r:(List Int)),bO.f m aq n0 aN=some r→∀h L (cz:Nat) (aA:Nat),Has h ((aA,.sl cz 1 (aa.l aq))::L)→∀(iz:FuncId) (bS:List AV),ay (.fn iz bS) = .fn iz bS→(∀h K,Has h (K++L)→∀(a0:Int) (a1:Int) r,aN a0 a1=some r→cf iz ([.int .i64 a0,.int .i64 a1]++bS) h=some (.int .i64 r,h))→∀xs,xs.map ay=[.rs aA 0 cz 1,.int .i64 n0,.fn iz bS]→∃h',cf 110 xs h=some (.tup [],h')∧Has h' ((aA,.sl cz 1 (aa.l r))::L)
section
variable {cf:CallF}{m:Nat}
theorem bO.bG (L:Mem)(aA:Nat)(iz:FuncId)(bS:List AV)(aq:List Int)(n0:Int)(aN:Int→Int→Option (Int))  (ky:ay (.fn iz bS) = .fn iz bS)(lN:∀h K,Has h (K++L)→∀(a0:Int) (a1:Int) r,aN a0 a1=some r→cf iz ([.int .i64 a0,.int .i64 a1]++bS) h=some (.int .i64 r,h))(B3:Ku cf m):bI Tryd.prog cf nW m (sub [1,1,0,0,0] (codeOf Tryd.f110)) (fun k (σ:(List Int) × Int × Int)=>bO.l0 m n0 aN k σ.1 σ.2.1 σ.2.2) (fun σ s=>match σ with | (bj,a0,b0)=>∃h0,s=⟨.rs aA 0 aq.length 1 :: .int .i64 n0 :: .fn iz bS :: .int .i64 (20:Int) :: .int .i64 a0 :: .int .i64 b0::tl [],[],h0⟩∧Has h0 ((aA,.sl aq.length 1 (aa.l bj))::L)) (fun out e s=>(e = .exit 0∧∃bj a0 b0,(bj,a0,b0)=out∧∃rG mu h0,s=⟨.rs aA 0 aq.length 1 :: .int .i64 n0 :: .fn iz bS :: .int .i64 (20:Int) :: .int .i64 a0::rG :: .any::mu::kz [],[],h0⟩∧Has h0 ((aA,.sl aq.length 1 (aa.l bj))::L))):=by
 refine hX (fun _=>rfl) ?_
 rintro k ⟨bj,a0,b0⟩ s out ⟨h0,rfl,o0⟩ H
 have H:bO.l0 m n0 aN (k+1) bj a0 b0=some out:=H
 refine qq <| qq <| q0 <| qc H (fun c0 H=>?_) (fun c0 H=>?_)
 ·refine qk <| qb 1 <| qq ?_
  obtain⟨x0,e0,H⟩:=aJ H
  obtain⟨h1,e1,o1⟩:=B3 _ _ _ _ _ e0 h0 _ _ _ (o0) iz bS ky (fun h' K' o'=>lN h' (K'++[]) (by simpa only [W7,Xj,Xs] using o')) [.rs aA 0 aq.length 1,.int .i64 a0,.int .i64 b0,.fn iz bS] (an (rfl) (an (aO (bC)) (an (aO (bC)) (an (ky) (bg)))))
  exact qr [.a 4 e1] <| qq <| q0 <| q0 <| ⟨(x0,b0,i64.wrap (b0+(20:Int))),⟨h1,by kernel_rfl,o1⟩,H⟩
 ·exact qx 0 <| ⟨rfl,bj,a0,b0,oi H,.int .i64 b0,.bool (decide (b0≤n0)),h0,by kernel_rfl,o0⟩
theorem bO.ph (L:Mem)(aA:Nat)(iz:FuncId)(bS:List AV)(aq:List Int)(n0:Int)(aN:Int→Int→Option (Int))(ba:Int)  (ky:ay (.fn iz bS) = .fn iz bS)(lN:∀h K,Has h (K++L)→∀(a0:Int) (a1:Int) r,aN a0 a1=some r→cf iz ([.int .i64 a0,.int .i64 a1]++bS) h=some (.int .i64 r,h))(iL:uR cf m m):bI Tryd.prog cf nW m (sub [1,1,1,1,0,0,1,0,1,0,0,0] (codeOf Tryd.f110)) (fun k (σ:(List Int) × Int × Int)=>bO.l2 m n0 aN ba k σ.1 σ.2.1 σ.2.2) (fun σ s=>match σ with | (jA,a2,b2)=>∃h5,s=⟨.rs aA 0 aq.length 1 :: .int .i64 n0 :: .fn iz bS :: .int .i64 ba :: .int .i64 a2 :: .int .i64 b2::tl [],[],h5⟩∧Has h5 ((aA,.sl aq.length 1 (aa.l jA))::L)) (fun out e s=>(e = .exit 4∧∃jA a2 b2,(jA,a2,b2)=out∧∃rG P6 h5,s=⟨.rs aA 0 aq.length 1 :: .int .i64 n0 :: .fn iz bS :: .int .i64 ba :: .int .i64 a2::rG::kz [P6,.any],[],h5⟩∧Has h5 ((aA,.sl aq.length 1 (aa.l jA))::L))):=by
 refine hX (fun _=>rfl) ?_
 rintro k ⟨jA,a2,b2⟩ s out ⟨h5,rfl,o5⟩ H
 have H:bO.l2 m n0 aN ba (k+1) jA a2 b2=some out:=H
 refine qq <| qq <| q0 <| qc H (fun c2 H=>?_) (fun c2 H=>?_)
 ·refine qk <| qb 5 <| qq ?_
  obtain⟨x2,e5,H⟩:=aJ H
  obtain⟨h6,e6,o6⟩:=iL _ _ _ _ _ _ e5 h5 _ _ _ (o5) iz bS ky (fun h' K' o'=>lN h' (K'++[]) (by simpa only [W7,Xj,Xs] using o')) [.rs aA 0 aq.length 1,.int .i64 a2,.int .i64 (i64.wrap (a2+ba)),.int .i64 b2,.fn iz bS] (an (rfl) (an (aO (bC)) (an (aO (bC)) (an (aO (bC)) (an (ky) (bg))))))
  exact qr [.a 7 e6] <| qq <| q0 <| q0 <| ⟨(x2,b2,i64.wrap (b2+i64.wrap ((2:Int)*ba))),⟨h6,by kernel_rfl,o6⟩,H⟩
 ·exact qx 4 <| ⟨rfl,jA,a2,b2,oi H,.int .i64 b2,.bool (decide (b2≤n0)),h5,by kernel_rfl,o5⟩
theorem bO.fW (L:Mem)(aA:Nat)(iz:FuncId)(bS:List AV)(aq:List Int)(n0:Int)(aN:Int→Int→Option (Int))  (ky:ay (.fn iz bS) = .fn iz bS)(lN:∀h K,Has h (K++L)→∀(a0:Int) (a1:Int) r,aN a0 a1=some r→cf iz ([.int .i64 a0,.int .i64 a1]++bS) h=some (.int .i64 r,h))(iL:uR cf m m):bI Tryd.prog cf nW m (sub [1,1,1,1,0,0] (codeOf Tryd.f110)) (fun k (σ:(List Int) × Int)=>bO.l1 m n0 aN k σ.1 σ.2) (fun σ s=>match σ with | (dr,ba)=>∃h4,s=⟨.rs aA 0 aq.length 1 :: .int .i64 n0 :: .fn iz bS :: .int .i64 ba::Dm [],[],h4⟩∧Has h4 ((aA,.sl aq.length 1 (aa.l dr))::L)) (fun out e s=>(e = .exit 2∧∃dr ba,(dr,ba)=out∧∃kQ rB Dt DF Ks h4,s=⟨kQ::rB::Dt::DF::oq [Ks,.any,.any],[],h4⟩∧Has h4 ((aA,.sl aq.length 1 (aa.l dr))::L))):=by
 refine hX (fun _=>rfl) ?_
 rintro k ⟨dr,ba⟩ s out ⟨h4,rfl,o4⟩ H
 have H:bO.l1 m n0 aN (k+1) dr ba=some out:=H
 refine qq <| qq <| q0 <| qc H (fun c1 H=>?_) (fun c1 H=>?_)
 ·refine qk <| qb 3 <| qq <| q0 <| qq <| qb 4 ?_
  obtain⟨cD,e7,H⟩:=aJ H
  refine ql (bO.ph L aA iz bS aq n0 aN ba  ky lN iL (dr,(0:Int),i64.wrap ((2:Int)*ba)) _ _ ⟨h4,by kernel_rfl,o4⟩ e7) ?_
  rintro e s ⟨rfl,kR,a3,b3,rfl,g2,g3,h7,rfl,o7⟩
  try dsimp only at H
  refine qq <| qq <| q0 <| qq <| q0 <| qc H (fun c3 H=>?_) (fun c3 H=>?_)
  ·obtain⟨x3,e8,H⟩:=aJ H
   obtain⟨h8,e9,o8⟩:=iL _ _ _ _ _ _ e8 h7 _ _ _ (o7) iz bS ky (fun h' K' o'=>lN h' (K'++[]) (by simpa only [W7,Xj,Xs] using o')) [.rs aA 0 aq.length 1,.int .i64 a3,.int .i64 (i64.wrap (a3+ba)),.int .i64 n0,.fn iz bS] (an (rfl) (an (aO (bC)) (an (aO (bC)) (an (aO (bC)) (an (ky) (bg))))))
   exact qr [.a 5 e9] <| q0 <| ⟨(x3,i64.wrap (ba*(2:Int))),⟨h8,by kernel_rfl,o8⟩,H⟩
  ·exact qk <| q0 <| ⟨(kR,i64.wrap (ba*(2:Int))),⟨h7,by kernel_rfl,o7⟩,H⟩
 ·exact qx 2 <| ⟨rfl,dr,ba,oi H,.rs aA 0 aq.length 1,.int .i64 n0,.fn iz bS,.int .i64 ba,.bool (decide (ba<n0)),h4,by kernel_rfl,o4⟩
theorem xf {aS:FuncId→cd}(ha:aS 110=nW)(B3:Ku cf m)(iL:uR cf m m)(aq:List Int)(n0:Int)(aN:Int→Int→Option (Int))(h:AHeap)(L:Mem)(aA:Nat)(iz:FuncId)(bS:List AV)  (ky:ay (.fn iz bS) = .fn iz bS)(lN:∀h K,Has h (K++L)→∀(a0:Int) (a1:Int) r,aN a0 a1=some r→cf iz ([.int .i64 a0,.int .i64 a1]++bS) h=some (.int .i64 r,h))(o:Has h ((aA,.sl aq.length 1 (aa.l aq))::L)){out:(List Int)}(H:bO.f m aq n0 aN=some out) :
  ∃r h',aZ Tryd.prog aS cf m 110 [.rs aA 0 aq.length 1,.int .i64 n0,.fn iz bS] h=some (r,h')∧r = .tup []∧Has h' ((aA,.sl aq.length 1 (aa.l out))::L):=by
 refine aj (fn:=Tryd.f110) ha Tryd.func110 (by kernel_rfl) (by kernel_rfl) ?_
 refine aD (Q:=fun s=>bO.fin L aA aq n0 aN out s) (fun _ _ ⟨h1,h2,h3⟩=>⟨h1,_,h2,rfl,h3⟩) ?_
 have H:_=some out:=H
 unfold bO.f at H
 show de _ cf nW m _ ⟨.rs aA 0 aq.length 1 :: .int .i64 n0 :: .fn iz bS::se [],[],h⟩ _
 refine q1 <| qq <| q0 <| qq <| qb 0 ?_
 obtain⟨bo,e2,H⟩:=aJ H
 refine ql (bO.bG L aA iz bS aq n0 aN  ky lN B3 (aq,(0:Int),(20:Int)) _ _ ⟨h,by kernel_rfl,o⟩ e2) ?_
 rintro e s ⟨rfl,cY,a1,b1,rfl,g0,g1,h2,rfl,o2⟩
 try dsimp only at H
 refine qq ?_
 obtain⟨x1,e3,H⟩:=aJ H
 obtain⟨h3,e4,o3⟩:=B3 _ _ _ _ _ e3 h2 _ _ _ (o2) iz bS ky (fun h' K' o'=>lN h' (K'++[]) (by simpa only [W7,Xj,Xs] using o')) [.rs aA 0 aq.length 1,.int .i64 a1,.int .i64 n0,.fn iz bS] (an (rfl) (an (aO (bC)) (an (aO (bC)) (an (ky) (bg)))))
 refine qr [.a 4 e4] <| qb 2 ?_
 obtain⟨jt,pe,H⟩:=aJ H
 refine ql (bO.fW L aA iz bS aq n0 aN  ky lN iL (x1,(20:Int)) _ _ ⟨h3,by kernel_rfl,o3⟩ pe) ?_
 rintro e s ⟨rfl,pg,AM,rfl,g4,g5,g6,g7,g8,h9,rfl,o9⟩
 try dsimp only at H
 obtain rfl:=oi H
 exact⟨.inr rfl,⟨by kernel_rfl,he o9⟩⟩
end
end Go.Proofs.YtmekcfdllhphlaaDoor
namespace Go.Proofs.YtmekcfdllhphlaaDoor
open Go Go.R
open Go.IntKind (i64 u64 u8 u32)
def B4:cd:=gh [0,1] [] [3] [] []
def eW.f (m:Nat)(x0:List Int)(aN:Int→Int→Option (Int)):Option ((List Int)):=(bO.f m x0 (x0.length:Int) aN).bind fun x1=>some x1
def eW.fin (L:Mem)(aA:Nat)(x0:List Int)(aN:Int→Int→Option (Int))(r:(List Int))(s:St):Prop:=aI Tryd.prog (s.open B4) Tryd.f84.results.toList=some (.tup [])∧Has s.h ((aA,.sl x0.length 1 (aa.l r))::L)
def SI (cf:CallF)(m:Nat):Prop:=∀(x0:List Int) (aN:Int→Int→Option (Int)) (r:(List Int)),eW.f m x0 aN=some r→∀h L (FJ:Nat) (aA:Nat),Has h ((aA,.sl FJ 1 (aa.l x0))::L)→∀(dv:FuncId) (aL:List AV),ay (.fn dv aL) = .fn dv aL→(∀h K,Has h (K++L)→∀(a0:Int) (a1:Int) r,aN a0 a1=some r→cf dv ([.int .i64 a0,.int .i64 a1]++aL) h=some (.int .i64 r,h))→∀xs,xs.map ay=[.rs aA 0 FJ 1,.fn dv aL]→∃h',cf 84 xs h=some (.tup [],h')∧Has h' ((aA,.sl FJ 1 (aa.l r))::L)
section
variable {cf:CallF}{m:Nat}
theorem pn {aS:FuncId→cd}(ha:aS 84=B4)(Na:M9 cf m)(x0:List Int)(aN:Int→Int→Option (Int))(h:AHeap)(L:Mem)(aA:Nat)(dv:FuncId)(aL:List AV)  (gS:ay (.fn dv aL) = .fn dv aL)(gV:∀h K,Has h (K++L)→∀(a0:Int) (a1:Int) r,aN a0 a1=some r→cf dv ([.int .i64 a0,.int .i64 a1]++aL) h=some (.int .i64 r,h))(o:Has h ((aA,.sl x0.length 1 (aa.l x0))::L)){out:(List Int)}(H:eW.f m x0 aN=some out) :
  ∃r h',aZ Tryd.prog aS cf m 84 [.rs aA 0 x0.length 1,.fn dv aL] h=some (r,h')∧r = .tup []∧Has h' ((aA,.sl x0.length 1 (aa.l out))::L):=by
 refine aj (fn:=Tryd.f84) ha Tryd.func84 (by kernel_rfl) (by kernel_rfl) ?_
 refine aD (Q:=fun s=>eW.fin L aA x0 aN out s) (fun _ _ ⟨h1,h2,h3⟩=>⟨h1,_,h2,rfl,h3⟩) ?_
 have H:_=some out:=H
 unfold eW.f at H
 show de _ cf B4 m _ ⟨[.rs aA 0 x0.length 1,.fn dv aL],[],h⟩ _
 obtain⟨x1,e0,H⟩:=aJ H
 obtain⟨h0,e1,o0⟩:=Na _ _ _ _ e0 h _ _ _ (o) dv aL gS (fun h' K' o'=>gV h' (K'++[]) (by simpa only [W7,Xj,Xs] using o')) [.rs aA 0 x0.length 1,.int .i64 (x0.length:Int),.fn dv aL] (an (rfl) (an (aO (bC)) (an (gS) (bg))))
 obtain rfl:=oi H
 exact qr [.a 4 e1] <| ⟨.inr rfl,⟨by kernel_rfl,he o0⟩⟩
end
end Go.Proofs.YtmekcfdllhphlaaDoor
namespace Go.Proofs.YtmekcfdllhphlaaDoor
open Go Go.R
open Go.IntKind (i64 u64 u8 u32)
section
variable {m:Nat}{cmp:Int→Int→Option Int}{c:Int→Int→Int}
def Nb (c:Int→Int→Int)(d:List Int)(bs n:Nat):Prop:=∀k i j,k*bs≤i→i<j→j<k*bs+bs→j<n→0≤c (gt d j) (gt d i)
theorem FK (hm:2 ^ 41≤m){n:Nat}{l:List Int}(hn:n=l.length)(hs:l.length<2 ^ 40)(C:Cm cmp c l):∀(f t:Nat) (d:List Int),n - 20*t<f→20*t≤n→Mv 0 (20*t) l d→
  (Ord c l→∀k,k<t→Sg c d (20*k) (20*k+20))→
  ∃d' t' y,bO.l0 m (n:Int) cmp f d ((20*t:Nat):Int) ((20*t+20:Nat):Int)=some (d',((20*t':Nat):Int),y)∧20*t'≤n∧n<20*t'+20∧Mv 0 (20*t') l d'∧(Ord c l→∀k,k<t'→Sg c d' (20*k) (20*k+20))
 | 0,t,d,hf,_,_,_=>absurd hf (by omega)
 | f+1,t,d,hf,h1,M,S=>by
  have ot:(2:Nat) ^ 40=1099511627776:=by decide
  have rD:(2:Nat) ^ 41=2199023255552:=by decide
  have hl:=M.length
  unfold bO.l0
  by_cases h:20*t+20≤n
  ·obtain⟨d1,e1,M1,S1⟩:=yW (a:=20*t) (b:=20*t+20) (cmp:=cmp) (c:=c) hm (l:=d) (by omega) (by omega) (by omega) (C.perm M.perm)
   rw [if_pos (by simp only [decide_eq_true_eq]; omega),e1,WQ,aE (x:=((20*t+20:Nat):Int)+20) (by omega) (by omega)]
   have:=FK hm hn hs C f (t+1) d1 (by omega) (by omega) ((M.wide (WU _) (by omega)).trans (M1.wide (by omega) (by omega))) (fun O k hk i j k1 k2 k3=>by
    by_cases HB:k=t
    ·subst HB; exact S1 (O.perm M.perm) _ _ k1 k2 k3
    ·rw [M1.out i (by omega),M1.out j (by omega)]; exact S O k (by omega) _ _ k1 k2 k3)
   rw [show ((20*(t+1):Nat):Int)=((20*t+20:Nat):Int) by omega,show ((20*(t+1)+20:Nat):Int)=((20*t+20:Nat):Int)+20 by omega] at this
   exact this
  ·exact⟨d,t,_,by rw [if_neg (by simp only [decide_eq_true_eq]; omega)],h1,by omega,M,S⟩
theorem FL (hm:2 ^ 41≤m){n bs:Nat}{l:List Int}(hn:n=l.length)(hs:l.length<2 ^ 40)(hb:0<bs)(PA:bs<n)(C:Cm cmp c l)(B:Ord c l→Nb c l bs n):∀(f t:Nat) (d:List Int),n - t*(2*bs)<f→t*(2*bs)≤n→Mv 0 (t*(2*bs)) l d→
  (Ord c l→∀k,k<t→Sg c d (k*(2*bs)) (k*(2*bs)+2*bs))→
  ∃d' t' y,bO.l2 m (n:Int) cmp (bs:Int) f d ((t*(2*bs):Nat):Int) ((t*(2*bs)+2*bs:Nat):Int)=some (d',((t'*(2*bs):Nat):Int),y)∧t'*(2*bs)≤n∧n<t'*(2*bs)+2*bs∧Mv 0 (t'*(2*bs)) l d'∧(Ord c l→∀k,k<t'→Sg c d' (k*(2*bs)) (k*(2*bs)+2*bs))
 | 0,t,d,hf,_,_,_=>absurd hf (by omega)
 | f+1,t,d,hf,h1,M,S=>by
  have ot:(2:Nat) ^ 40=1099511627776:=by decide
  have rD:(2:Nat) ^ 41=2199023255552:=by decide
  have hl:=M.length
  unfold bO.l2
  have ht:(t+1)*(2*bs)=t*(2*bs)+2*bs:=Nat.succ_mul _ _
  have q1:(2*t)*bs=t*(2*bs):=by rw [Nat.mul_assoc,Nat.mul_left_comm]
  have q2:(2*t+1)*bs=t*(2*bs)+bs:=by rw [Nat.succ_mul,q1]
  by_cases h:t*(2*bs)+2*bs≤n
  ·have S0:Ord c l→Sg c d (t*(2*bs)) (t*(2*bs)+bs):=fun O i j k1 k2 k3=>by
    rw [M.out i (by omega),M.out j (by omega)]; exact B O (2*t) i j (by omega) k2 (by omega) (by omega)
   have U3:Ord c l→Sg c d (t*(2*bs)+bs) (t*(2*bs)+2*bs):=fun O i j k1 k2 k3=>by
    rw [M.out i (by omega),M.out j (by omega)]; exact B O (2*t+1) i j (by omega) k2 (by omega) (by omega)
   have hk:∀k,k<t→k*(2*bs)+2*bs≤t*(2*bs):=fun k hk=>by
    rw [←Nat.succ_mul]; exact XK _ hk
   generalize hA:t*(2*bs)=A at *
   obtain⟨d1,e1,M1,S1⟩:=pj (cmp:=cmp) (c:=c) hm m d A (A+bs) (A+2*bs) (by omega) (by omega) (by omega) (by omega) (by omega) (C.perm M.perm)
   have e0:i64.wrap ((A:Int)+(bs:Int))=((A+bs:Nat):Int):=by rw [aE (by omega) (by omega)]; omega
   have e2:i64.wrap ((2:Int)*(bs:Int))=((2*bs:Nat):Int):=by rw [aE (by omega) (by omega)]; omega
   have e3:i64.wrap (((A+2*bs:Nat):Int)+((2*bs:Nat):Int))=((A+2*bs+2*bs:Nat):Int):=by rw [aE (by omega) (by omega)]; omega
   rw [if_pos (by simp only [decide_eq_true_eq]; omega),e0,e1,WQ,e2,e3]
   have:=FL hm hn hs hb PA C B f (t+1) d1 (by omega) (by omega) (by rw [ht]; exact (M.wide (WU _) (by omega)).trans (M1.wide (by omega) (by omega))) (fun O k pY i j k1 k2 k3=>by
    by_cases HB:k=t
    ·subst HB; rw [hA] at k1 k3; exact S1 (O.perm M.perm) (S0 O) (U3 O) _ _ k1 k2 k3
    ·have:=hk k (by omega)
     rw [M1.out i (by omega),M1.out j (by omega)]; exact S O k (by omega) _ _ k1 k2 k3)
   rw [ht] at this
   exact this
  ·exact⟨d,t,_,by rw [if_neg (by simp only [decide_eq_true_eq]; omega)],h1,by omega,M,S⟩
theorem AN (hm:2 ^ 41≤m){n:Nat}:∀(f bs:Nat) (l:List Int),n=l.length→l.length<2 ^ 40→Cm cmp c l→n - bs<f→0<bs→bs<2 ^ 42→(Ord c l→Nb c l bs n)→
  ∃d y,bO.l1 m (n:Int) cmp f l (bs:Int)=some (d,y)∧d.Perm l∧(Ord c l→Sg c d 0 n)
 | 0,bs,l,_,_,_,hf,_,_,_=>absurd hf (by omega)
 | f+1,bs,l,hn,hs,C,hf,hb,hb2,B=>by
  have ot:(2:Nat) ^ 40=1099511627776:=by decide
  have rD:(2:Nat) ^ 41=2199023255552:=by decide
  have M8:(2:Nat) ^ 42=4398046511104:=by decide
  unfold bO.l1
  by_cases h:bs<n
  ·have e2:i64.wrap ((2:Int)*(bs:Int))=((2*bs:Nat):Int):=by rw [aE (by omega) (by omega)]; omega
   have e3:i64.wrap ((bs:Int)*(2:Int))=((2*bs:Nat):Int):=by rw [aE (by omega) (by omega)]; omega
   obtain⟨d1,t,y,k1,k2,k3,M1,S1⟩:=FL (cmp:=cmp) (c:=c) hm hn hs hb h C B m 0 l (by omega) (by omega) Mv.refl (fun O k hk=>absurd hk (by omega))
   have l1:=M1.length
   simp only [Nat.zero_mul,Xh] at k1
   have k1:bO.l2 m (n:Int) cmp (bs:Int) m l (0:Int) ((2*bs:Nat):Int)=_:=k1
   rw [if_pos (by simp only [decide_eq_true_eq]; omega),e2,k1,WQ]
   dsimp only
   rw [e3]
   have q1:(2*t)*bs=t*(2*bs):=by rw [Nat.mul_assoc,Nat.mul_left_comm]
   have q2:(2*t+1)*bs=t*(2*bs)+bs:=by rw [Nat.succ_mul,q1]
   have hk:∀k,k<t→k*(2*bs)+2*bs≤t*(2*bs):=fun k hk=>by
    rw [←Nat.succ_mul]; exact XK _ hk
   have pY:∀k,t<k→t*(2*bs)+2*bs≤k*(2*bs):=fun k hk=>by
    rw [←Nat.succ_mul]; exact XK _ hk
   have e0:i64.wrap (((t*(2*bs):Nat):Int)+(bs:Int))=((t*(2*bs)+bs:Nat):Int):=by rw [aE (by omega) (by omega)]; omega
   rw [e0]
   by_cases h2:t*(2*bs)+bs<n
   ·obtain⟨d2,e4,M2,S2⟩:=pj (cmp:=cmp) (c:=c) hm m d1 (t*(2*bs)) (t*(2*bs)+bs) n (by omega) (by omega) (by omega) (by omega) (by omega) (C.perm M1.perm)
    rw [if_pos (by simp only [decide_eq_true_eq]; omega),e4,WQ]
    have P2:=M2.perm.trans M1.perm
    obtain⟨d,y,g1,g2,g3⟩:=AN (n:=n) hm f (2*bs) d2 (by have:=P2.length_eq; omega) (by have:=P2.length_eq; omega) (C.perm P2) (by omega) (by omega) (by omega) (fun O k i j w1 w2 w3 w4=>by
     have O:=O.perm P2.symm
     by_cases u1:k<t
     ·have:=hk k u1
      rw [M2.out i (by omega),M2.out j (by omega)]; exact S1 O k u1 _ _ w1 w2 w3
     ·by_cases u2:k=t
      ·subst u2
       refine S2 (O.perm M1.perm) (fun i j x1 x2 x3=>?_) (fun i j x1 x2 x3=>?_) _ _ w1 w2 w4
       ·rw [M1.out i (by omega),M1.out j (by omega)]; exact B O (2*k) i j (by omega) x2 (by omega) (by omega)
       ·rw [M1.out i (by omega),M1.out j (by omega)]; exact B O (2*k+1) i j (by omega) x2 (by omega) (by omega)
      ·have:=pY k (by omega); omega)
    exact⟨d,y,g1,g2.trans P2,fun O=>g3 (O.perm P2)⟩
   ·rw [if_neg (by simp only [decide_eq_true_eq]; omega)]
    have P2:=M1.perm
    obtain⟨d,y,g1,g2,g3⟩:=AN (n:=n) hm f (2*bs) d1 (by have:=P2.length_eq; omega) (by have:=P2.length_eq; omega) (C.perm P2) (by omega) (by omega) (by omega) (fun O k i j w1 w2 w3 w4=>by
     have O:=O.perm P2.symm
     by_cases u1:k<t
     ·exact S1 O k u1 _ _ w1 w2 w3
     ·by_cases u2:k=t
      ·subst u2
       rw [M1.out i (by omega),M1.out j (by omega)]; exact B O (2*k) i j (by omega) w2 (by omega) (by omega)
      ·have:=pY k (by omega); omega)
    exact⟨d,y,g1,g2.trans P2,fun O=>g3 (O.perm P2)⟩
  ·refine⟨l,bs,by rw [if_neg (by simp only [decide_eq_true_eq]; omega)],List.Perm.refl _,fun O i j w1 w2 w3=>B O 0 i j (by omega) w2 (by omega) w3⟩
theorem DG (hm:2 ^ 41≤m){l:List Int}(hs:l.length<2 ^ 40)(C:Cm cmp c l):∃d,eW.f m l cmp=some d∧d.Perm l∧(Ord c l→Sg c d 0 l.length):=by
 have ot:(2:Nat) ^ 40=1099511627776:=by decide
 have rD:(2:Nat) ^ 41=2199023255552:=by decide
 have M8:(2:Nat) ^ 42=4398046511104:=by decide
 unfold eW.f bO.f
 obtain⟨d1,t,y,k1,k2,k3,M1,S1⟩:=FK (cmp:=cmp) (c:=c) hm rfl hs C m 0 l (by omega) (by omega) Mv.refl (fun O k hk=>absurd hk (by omega))
 have k1:bO.l0 m (l.length:Int) cmp m l (0:Int) (20:Int)=_:=k1
 have l1:=M1.length
 rw [k1,WQ]
 dsimp only
 obtain⟨d2,e2,M2,S2⟩:=yW (a:=20*t) (b:=l.length) (cmp:=cmp) (c:=c) hm (l:=d1) (by omega) (by omega) (by omega) (C.perm M1.perm)
 rw [e2,WQ]
 have P2:=M2.perm.trans M1.perm
 obtain⟨d,y,g1,g2,g3⟩:=AN (cmp:=cmp) (c:=c) (n:=l.length) hm m 20 d2 P2.length_eq.symm (by rw [P2.length_eq]; exact hs) (C.perm P2) (by omega) (by omega) (by omega) (fun O k i j w1 w2 w3 w4=>by
  have O:=O.perm P2.symm
  by_cases u1:k<t
  ·rw [M2.out i (by omega),M2.out j (by omega)]; exact S1 O k u1 _ _ (by omega) w2 (by omega)
  ·exact S2 (O.perm M1.perm) _ _ (by omega) w2 (by omega))
 have g1:bO.l1 m (l.length:Int) cmp m d2 (20:Int)=_:=g1
 rw [g1]
 exact⟨d,rfl,g2.trans P2,fun O=>g3 (O.perm P2)⟩
end
end Go.Proofs.YtmekcfdllhphlaaDoor
namespace Go.Proofs.YtmekcfdllhphlaaDoor
open Go Go.R
open Go.IntKind (i64 u64 u8 u32)
def B5:cd:=gh [0,1,2,3] [2] [9,7] [] []
def fN.f (m:Nat)(n0:ae)(x0:au):Option (Bool):=(iu.f m n0 (x0.nodes.length:Int)).bind fun x1=>some (!x1)
def fN.fin (h:AHeap)(r:Bool)(s:St):Prop:=aI Tryd.prog (s.open B5) Tryd.f61.results.toList=some (.bool r)∧s.h=h
def SJ (cf:CallF)(m:Nat):Prop:=∀(n0:ae) (x0:au) (r:Bool),fN.f m n0 x0=some r→∀h L (eL bR:Nat),Has h L→L[eL]? = some (bR,.ob [af.fz x0.nodes,.int .i64 x0.root])→cf 61 [.agg [.int .i64 n0.kind,.int .i64 n0.int,.str n0.label,aa.fz n0.args],.ptr bR 0] h=some (.bool r,h)
section
variable {cf:CallF}{m:Nat}
theorem po {aS:FuncId→cd}(ha:aS 61=B5)(P7:SD cf m)(n0:ae)(x0:au)(h:AHeap)(L:Mem)  {eL bR:Nat}(fV:L[eL]? = some (bR,.ob [af.fz x0.nodes,.int .i64 x0.root]))(o:Has h (L)){out:Bool}(H:fN.f m n0 x0=some out) :
  ∃r h',aZ Tryd.prog aS cf m 61 [.agg [.int .i64 n0.kind,.int .i64 n0.int,.str n0.label,aa.fz n0.args],.ptr bR 0] h=some (r,h')∧r=(.bool out)∧h'=h:=by
 refine aj (fn:=Tryd.f61) ha Tryd.func61 (by kernel_rfl) (by kernel_rfl) ?_
 refine aD (Q:=fun s=>fN.fin h out s) (fun _ _ ⟨h1,h2,h3⟩=>⟨h1,_,h2,rfl,h3⟩) ?_
 have H:_=some out:=H
 unfold fN.f at H
 show de _ cf B5 m _ ⟨[.agg [.int .i64 n0.kind,.int .i64 n0.int,.str n0.label,aa.fz n0.args],.ptr bR 0,.any,.any],[none],h⟩ _
 refine q1 <| qq ?_
 obtain⟨x1,e0,H⟩:=aJ H
 obtain rfl:=oi H
 exact qr [.v 2 (show bh Tryd.prog h 29 (.ptr bR 0)=some (af.fz x0.nodes) from cm (q:=eL) (cs:=[af.fz x0.nodes,.int .i64 x0.root]) o fV (by kernel_rfl)),.a 4 (P7 _ _ _ e0 h _ (gf (ab (cg (ab (aH) (ab (aH) (ab (bJ) (ab (b4 (E:=aa)) (ax)))))) (ab (aH) (ax)))))] <| qt <| ⟨.inl rfl,⟨by kernel_rfl,by kernel_rfl⟩⟩
end
end Go.Proofs.YtmekcfdllhphlaaDoor
namespace Go.Proofs.YtmekcfdllhphlaaDoor
open Go Go.R
open Go.IntKind (i64 u64 u8 u32)
def B6:cd:=gh [0,1,2] [] [5,3] [] []
def ff.f (m:Nat)(t0:au):Option (Bool):=if (decide ((t0.nodes.length:Int)≥(1:Int)))=true then (if (decide ((t0.nodes.length:Int)≤(8000:Int)))=true then (if (decide (t0.root≥(0:Int)))=true then (if (decide (t0.root<(t0.nodes.length:Int)))=true then ((fL.f m t0.nodes (fun y0=>fN.f m y0 t0)).bind fun x0=>some (!x0)) else (some false)) else (some false)) else (some false)) else (some false)
def ff.fin (L:Mem)(r:Bool)(s:St):Prop:=∃av,aI Tryd.prog (s.open B6) Tryd.f45.results.toList=some av∧fA s.h av (.bool r)
def P8 (cf:CallF)(m:Nat):Prop:=∀(t0:au) (r:Bool),ff.f m t0=some r→∀h xs,eA eQ h xs [.agg [af.fz t0.nodes,.int .i64 t0.root]]→cf 45 xs h=some (.bool r,h)
section
variable {cf:CallF}{m:Nat}
theorem rL {aS:FuncId→cd}(ha:aS 45=B6)(KB:PR cf m)(P9:SJ cf m)(t0:au)(h:AHeap)(L:Mem)  (o:Has h (L)){out:Bool}(H:ff.f m t0=some out) :
  ∃r h',aZ Tryd.prog aS cf m 45 [.agg [af.fz t0.nodes,.int .i64 t0.root]] h=some (r,h')∧fA h' r (.bool out):=by
 refine aj (fn:=Tryd.f45) ha Tryd.func45 (by kernel_rfl) (by kernel_rfl) ?_
 refine aD (Q:=fun s=>ff.fin L out s) (fun _ _ h=>h) ?_
 have H:_=some out:=H
 unfold ff.f at H
 show de _ cf B6 m _ ⟨[.agg [af.fz t0.nodes,.int .i64 t0.root],.any,.any],[],h⟩ _
 refine qq ?_
 obtain⟨aA,h0,e0,o0⟩:=ku (cs:=[af.fz t0.nodes,.int .i64 t0.root]) o (by kernel_rfl)
 refine qr [.a 0 e0] <| qq ?_
 rcases dF H with⟨c0,H⟩| ⟨c0,H⟩
 ·rcases dF H with⟨c1,H⟩| ⟨c1,H⟩
  ·rcases dF H with⟨c2,H⟩| ⟨c2,H⟩
   ·rcases dF H with⟨c3,H⟩| ⟨c3,H⟩
    ·obtain⟨x0,e1,H⟩:=aJ H
     refine qr [.v 1 (show bh Tryd.prog h0 29 (.ptr aA 0)=some (af.fz t0.nodes) from cm (q:=0) (cs:=[af.fz t0.nodes,.int .i64 t0.root]) o0 rfl (by kernel_rfl)),.b 4 c0,.v 6 (show bh Tryd.prog h0 29 (.ptr aA 0)=some (af.fz t0.nodes) from cm (q:=0) (cs:=[af.fz t0.nodes,.int .i64 t0.root]) o0 rfl (by kernel_rfl)),.b 10 c1,.v 12 (show bh Tryd.prog h0 3 (.ptr aA 1)=some (.int .i64 t0.root) from cm (q:=0) (cs:=[af.fz t0.nodes,.int .i64 t0.root]) o0 rfl (by kernel_rfl)),.b 15 c2,.v 17 (show bh Tryd.prog h0 3 (.ptr aA 1)=some (.int .i64 t0.root) from cm (q:=0) (cs:=[af.fz t0.nodes,.int .i64 t0.root]) o0 rfl (by kernel_rfl)),.v 19 (show bh Tryd.prog h0 29 (.ptr aA 0)=some (af.fz t0.nodes) from cm (q:=0) (cs:=[af.fz t0.nodes,.int .i64 t0.root]) o0 rfl (by kernel_rfl)),.b 23 c3,.v 25 (show bh Tryd.prog h0 29 (.ptr aA 0)=some (af.fz t0.nodes) from cm (q:=0) (cs:=[af.fz t0.nodes,.int .i64 t0.root]) o0 rfl (by kernel_rfl)),.a 27 (KB _ _ _ e1 h0 (Has.pos o0) 61 [.ptr aA 0] rfl (fun y0 r hr=>P9 y0 _ r hr h0 _ 0 _ o0 rfl) _ (an (aO (iK (E:=af))) (an ((rfl:ay (.fn 61 [.ptr aA 0])=_)) (bg))))] ?_
     have o1:Has h0 (L):=Has.del o0 0
     obtain rfl:=oi H
     exact qt <| ⟨.inl rfl,ca (.bool (!x0)) h0 (b8 (ak))⟩
    ·refine qr [.v 1 (show bh Tryd.prog h0 29 (.ptr aA 0)=some (af.fz t0.nodes) from cm (q:=0) (cs:=[af.fz t0.nodes,.int .i64 t0.root]) o0 rfl (by kernel_rfl)),.b 4 c0,.v 6 (show bh Tryd.prog h0 29 (.ptr aA 0)=some (af.fz t0.nodes) from cm (q:=0) (cs:=[af.fz t0.nodes,.int .i64 t0.root]) o0 rfl (by kernel_rfl)),.b 10 c1,.v 12 (show bh Tryd.prog h0 3 (.ptr aA 1)=some (.int .i64 t0.root) from cm (q:=0) (cs:=[af.fz t0.nodes,.int .i64 t0.root]) o0 rfl (by kernel_rfl)),.b 15 c2,.v 17 (show bh Tryd.prog h0 3 (.ptr aA 1)=some (.int .i64 t0.root) from cm (q:=0) (cs:=[af.fz t0.nodes,.int .i64 t0.root]) o0 rfl (by kernel_rfl)),.v 19 (show bh Tryd.prog h0 29 (.ptr aA 0)=some (af.fz t0.nodes) from cm (q:=0) (cs:=[af.fz t0.nodes,.int .i64 t0.root]) o0 rfl (by kernel_rfl)),.b 23 c3] ?_
     have o2:Has h0 (L):=Has.del o0 0
     obtain rfl:=oi H
     exact qt <| ⟨.inl rfl,ca (.bool false) h0 (b8 (ak))⟩
   ·refine qr [.v 1 (show bh Tryd.prog h0 29 (.ptr aA 0)=some (af.fz t0.nodes) from cm (q:=0) (cs:=[af.fz t0.nodes,.int .i64 t0.root]) o0 rfl (by kernel_rfl)),.b 4 c0,.v 6 (show bh Tryd.prog h0 29 (.ptr aA 0)=some (af.fz t0.nodes) from cm (q:=0) (cs:=[af.fz t0.nodes,.int .i64 t0.root]) o0 rfl (by kernel_rfl)),.b 10 c1,.v 12 (show bh Tryd.prog h0 3 (.ptr aA 1)=some (.int .i64 t0.root) from cm (q:=0) (cs:=[af.fz t0.nodes,.int .i64 t0.root]) o0 rfl (by kernel_rfl)),.b 15 c2] ?_
    have o3:Has h0 (L):=Has.del o0 0
    obtain rfl:=oi H
    exact qt <| ⟨.inl rfl,ca (.bool false) h0 (b8 (ak))⟩
  ·refine qr [.v 1 (show bh Tryd.prog h0 29 (.ptr aA 0)=some (af.fz t0.nodes) from cm (q:=0) (cs:=[af.fz t0.nodes,.int .i64 t0.root]) o0 rfl (by kernel_rfl)),.b 4 c0,.v 6 (show bh Tryd.prog h0 29 (.ptr aA 0)=some (af.fz t0.nodes) from cm (q:=0) (cs:=[af.fz t0.nodes,.int .i64 t0.root]) o0 rfl (by kernel_rfl)),.b 10 c1] ?_
   have o4:Has h0 (L):=Has.del o0 0
   obtain rfl:=oi H
   exact qt <| ⟨.inl rfl,ca (.bool false) h0 (b8 (ak))⟩
 ·refine qr [.v 1 (show bh Tryd.prog h0 29 (.ptr aA 0)=some (af.fz t0.nodes) from cm (q:=0) (cs:=[af.fz t0.nodes,.int .i64 t0.root]) o0 rfl (by kernel_rfl)),.b 4 c0] ?_
  have o5:Has h0 (L):=Has.del o0 0
  obtain rfl:=oi H
  exact qt <| ⟨.inl rfl,ca (.bool false) h0 (b8 (ak))⟩
end
end Go.Proofs.YtmekcfdllhphlaaDoor
namespace Go.Proofs.YtmekcfdllhphlaaDoor
open Go Go.R
open Go.IntKind (i64 u64 u8 u32)
def xg:cd:=gh [0,2] [] [2,1] [] []
def ej.f (m:Nat)(x0:Int):Option (Bool):=some (!(x0==x0))
def ej.fin (L:Mem)(r:Bool)(s:St):Prop:=∃av,aI Tryd.prog (s.open xg) Tryd.f108.results.toList=some av∧fA s.h av (.bool r)
def Nc (cf:CallF)(m:Nat):Prop:=∀(x0:Int) (r:Bool),ej.f m x0=some r→∀h xs,eA eQ h xs [.int .i64 x0]→cf 108 xs h=some (.bool r,h)
section
variable {cf:CallF}{m:Nat}
theorem nX {aS:FuncId→cd}(ha:aS 108=xg)  (x0:Int)(h:AHeap)(L:Mem)  (o:Has h (L)){out:Bool}(H:ej.f m x0=some out) :
  ∃r h',aZ Tryd.prog aS cf m 108 [.int .i64 x0] h=some (r,h')∧fA h' r (.bool out):=by
 refine aj (fn:=Tryd.f108) ha Tryd.func108 (by kernel_rfl) (by kernel_rfl) ?_
 refine aD (Q:=fun s=>ej.fin L out s) (fun _ _ h=>h) ?_
 have H:_=some out:=H
 unfold ej.f at H
 show de _ cf xg m _ ⟨[.int .i64 x0,.any],[],h⟩ _
 obtain rfl:=oi H
 exact q1 <| qq <| q0 <| qt <| ⟨.inl rfl,ca (.bool (!(x0==x0))) h (b8 (ak))⟩
end
end Go.Proofs.YtmekcfdllhphlaaDoor
namespace Go.Proofs.YtmekcfdllhphlaaDoor
open Go Go.R
open Go.IntKind (i64 u64 u8 u32)
def B7:cd:=gh [0,1,4,5,6,11,12,13,16,19] [] [1020,1012,996,972,959,1019,1019,892,1019,764,1019,511,1019,1019] [] []
def cR.f (m:Nat)(x0:Int)(y0:Int):Option (Int):=(ej.f m x0).bind fun x1=>(ej.f m y0).bind fun x2=>if x1=true then (if x2=true then (some (0:Int)) else (some (-1:Int))) else (if x2=true then (some (1:Int)) else (if (decide (x0<y0))=true then (some (-1:Int)) else (if (decide (x0 > y0))=true then (some (1:Int)) else (some (0:Int)))))
def cR.fin (L:Mem)(r:Int)(s:St):Prop:=∃av,aI Tryd.prog (s.open B7) Tryd.f81.results.toList=some av∧fA s.h av (.int .i64 r)
def SK (cf:CallF)(m:Nat):Prop:=∀(x0:Int) (y0:Int) (r:Int),cR.f m x0 y0=some r→∀h xs,eA eQ h xs [.int .i64 x0,.int .i64 y0]→cf 81 xs h=some (.int .i64 r,h)
section
variable {cf:CallF}{m:Nat}
theorem mz {aS:FuncId→cd}(ha:aS 81=B7)(I8:Nc cf m)(x0:Int)(y0:Int)(h:AHeap)(L:Mem)  (o:Has h (L)){out:Int}(H:cR.f m x0 y0=some out) :
  ∃r h',aZ Tryd.prog aS cf m 81 [.int .i64 x0,.int .i64 y0] h=some (r,h')∧fA h' r (.int .i64 out):=by
 refine aj (fn:=Tryd.f81) ha Tryd.func81 (by kernel_rfl) (by kernel_rfl) ?_
 refine aD (Q:=fun s=>cR.fin L out s) (fun _ _ h=>h) ?_
 have H:_=some out:=H
 unfold cR.f at H
 show de _ cf B7 m _ ⟨.int .i64 x0 :: .int .i64 y0::se [],[],h⟩ _
 refine q1 <| qq ?_
 obtain⟨x1,e0,H⟩:=aJ H
 refine qr [.a 1 (I8 _ _ e0 h _ (gf (ab (aH) (ax))))] <| qq ?_
 obtain⟨x2,e1,H⟩:=aJ H
 refine qr [.a 1 (I8 _ _ e1 h _ (gf (ab (aH) (ax))))] <| qq <| qq <| q0 <| qc H (fun c0 H=>?_) (fun c0 H=>?_)
 ·refine qq <| qq <| q0 <| qc H (fun c1 H=>?_) (fun c1 H=>?_)
  ·obtain rfl:=oi H
   exact q1 <| qt <| ⟨.inl rfl,ca (.int .i64 (0:Int)) h (b8 (dS))⟩
  ·obtain rfl:=oi H
   exact qk <| qq <| q0 <| qt <| ⟨.inl rfl,ca (.int .i64 (-1:Int)) h (b8 (dS))⟩
 ·refine qk <| qq <| qq <| q0 <| qc H (fun c2 H=>?_) (fun c2 H=>?_)
  ·obtain rfl:=oi H
   exact q1 <| qt <| ⟨.inl rfl,ca (.int .i64 (1:Int)) h (b8 (dS))⟩
  ·refine qk <| qq <| qq <| q0 <| qc H (fun c3 H=>?_) (fun c3 H=>?_)
   ·obtain rfl:=oi H
    exact q1 <| qt <| ⟨.inl rfl,ca (.int .i64 (-1:Int)) h (b8 (dS))⟩
   ·refine qk <| qq <| qq <| q0 <| qc H (fun c4 H=>?_) (fun c4 H=>?_)
    ·obtain rfl:=oi H
     exact q1 <| qt <| ⟨.inl rfl,ca (.int .i64 (1:Int)) h (b8 (dS))⟩
    ·obtain rfl:=oi H
     exact qk <| qq <| q0 <| qt <| ⟨.inl rfl,ca (.int .i64 (0:Int)) h (b8 (dS))⟩
end
end Go.Proofs.YtmekcfdllhphlaaDoor
namespace Go.Proofs.YtmekcfdllhphlaaDoor
open Go Go.R
open Go.IntKind (i64 u64 u8 u32)
def yX:cd:=gh [0,2,3,5,6,7,8,9,14] [] [510,506,395,267,387,131,509,395,509] [] []
def cj.l0 (m:Nat)(fX:List Int):Nat→Int→Option (Sum Int (Int))
 | 0,_=>none
 | k+1,x0=>if (decide (x0<(fX.length:Int)))=true then ((ix fX x0).bind fun v0=>if (!(v0==(0:Int)))=true then (some (.inl v0)) else (cj.l0 m fX k (i64.wrap (x0+(1:Int))))) else (some (.inr x0))
def cj.f (m:Nat)(fX:List Int):Option (Int):=(cj.l0 m fX m (0:Int)).bind fun bo=>match bo with | .inl r0=>some r0 | .inr x1=>some (0:Int)
def cj.fin (L:Mem)(r:Int)(s:St):Prop:=∃av,aI Tryd.prog (s.open yX) Tryd.f82.results.toList=some av∧fA s.h av (.int .i64 r)
def SL (cf:CallF)(m:Nat):Prop:=∀(fX:List Int) (r:Int),cj.f m fX=some r→∀h xs,eA eQ h xs [aa.fz fX]→cf 82 xs h=some (.int .i64 r,h)
section
variable {cf:CallF}{m:Nat}
theorem cj.bG (L:Mem)(fX:List Int)   : bI Tryd.prog cf yX m (sub [1,1,0,1,0,0] (codeOf Tryd.f82)) (fun k (σ:Int)=>cj.l0 m fX k σ) (fun σ s=>match σ with | x0=>∃h0,s=⟨[.any,.any,.int .i64 (0:Int),.any,aa.fz fX,.int .i64 (fX.length:Int),.int .i64 x0,.any,.any],[],h0⟩∧Has h0 (L)) (fun out e s=>(e = .exit 0∧∃x0,.inr x0=out∧∃DF w7 rG tI h0,s=⟨[.any,.any,.int .i64 (0:Int),.any,DF,w7,rG,tI,.any],[],h0⟩∧Has h0 (L))∨(e = .ret∧∃r,.inl r=out∧cj.fin L r s)):=by
 refine hX (fun _=>rfl) ?_
 rintro k x0 s out ⟨h0,rfl,o0⟩ H
 have H:cj.l0 m fX (k+1) x0=some out:=H
 refine q1 <| qq <| qc H (fun c0 H=>?_) (fun c0 H=>?_)
 ·refine qk <| qq <| qb 1 <| qq ?_
  obtain⟨v0,e0,H⟩:=aJ H
  refine qr [.v 0 (bD (k:=.i64) (E:=aa) (l:=fX) dA e0),.v 1 (dd  (E:=aa) (l:=fX) h0 A3 e0 rfl)] <| qq <| q0 <| qc H (fun c1 H=>?_) (fun c1 H=>?_)
  ·exact q1 <| qt <| XZ (⟨rfl,_,oi H,ca (.int .i64 v0) h0 (b8 (dS))⟩)
  ·exact qk <| q0 <| ⟨i64.wrap (x0+(1:Int)),⟨h0,by kernel_rfl,o0⟩,H⟩
 ·exact qx 0 <| Yf (⟨rfl,x0,oi H,aa.fz fX,.int .i64 (fX.length:Int),.int .i64 x0,.bool (decide (x0<(fX.length:Int))),h0,by kernel_rfl,o0⟩)
theorem rM {aS:FuncId→cd}(ha:aS 82=yX)  (fX:List Int)(h:AHeap)(L:Mem)  (o:Has h (L)){out:Int}(H:cj.f m fX=some out) :
  ∃r h',aZ Tryd.prog aS cf m 82 [aa.fz fX] h=some (r,h')∧fA h' r (.int .i64 out):=by
 refine aj (fn:=Tryd.f82) ha Tryd.func82 (by kernel_rfl) (by kernel_rfl) ?_
 refine aD (Q:=fun s=>cj.fin L out s) (fun _ _ h=>h) ?_
 have H:_=some out:=H
 unfold cj.f at H
 show de _ cf yX m _ ⟨aa.fz fX::se [],[],h⟩ _
 refine q1 <| qq <| q0 <| qq <| qq <| q0 <| qb 0 ?_
 obtain⟨bo,e1,H⟩:=aJ H
 refine ql (cj.bG L fX   (0:Int) _ _ ⟨h,by kernel_rfl,o⟩ e1) ?_
 rintro e s (⟨rfl,x1,rfl,g0,g1,g2,g3,h1,rfl,o1⟩| ⟨rfl,r0,rfl,mw⟩)
 ·try dsimp only at H
  obtain rfl:=oi H
  exact q1 <| qt <| ⟨.inl rfl,ca (.int .i64 (0:Int)) h1 (b8 (dS))⟩
 ·try dsimp only at H
  obtain rfl:=oi H
  exact⟨.inl rfl,mw⟩
end
end Go.Proofs.YtmekcfdllhphlaaDoor
namespace Go.Proofs.YtmekcfdllhphlaaDoor
open Go Go.R
open Go.IntKind (i64 u64 u8 u32)
def xh:cd:=gh [0,2] [] [2,1] [] []
def dh.f (m:Nat)(x0:ByteArray):Option (Bool):=some (!(x0.data.toList==x0.data.toList))
def dh.fin (L:Mem)(r:Bool)(s:St):Prop:=∃av,aI Tryd.prog (s.open xh) Tryd.f109.results.toList=some av∧fA s.h av (.bool r)
def Nd (cf:CallF)(m:Nat):Prop:=∀(x0:ByteArray) (r:Bool),dh.f m x0=some r→∀h xs,eA eQ h xs [.str x0]→cf 109 xs h=some (.bool r,h)
section
variable {cf:CallF}{m:Nat}
theorem lO {aS:FuncId→cd}(ha:aS 109=xh)  (x0:ByteArray)(h:AHeap)(L:Mem)  (o:Has h (L)){out:Bool}(H:dh.f m x0=some out) :
  ∃r h',aZ Tryd.prog aS cf m 109 [.str x0] h=some (r,h')∧fA h' r (.bool out):=by
 refine aj (fn:=Tryd.f109) ha Tryd.func109 (by kernel_rfl) (by kernel_rfl) ?_
 refine aD (Q:=fun s=>dh.fin L out s) (fun _ _ h=>h) ?_
 have H:_=some out:=H
 unfold dh.f at H
 show de _ cf xh m _ ⟨[.str x0,.any],[],h⟩ _
 obtain rfl:=oi H
 exact q1 <| qq <| q0 <| qt <| ⟨.inl rfl,ca (.bool (!(x0.data.toList==x0.data.toList))) h (b8 (ak))⟩
end
end Go.Proofs.YtmekcfdllhphlaaDoor
namespace Go.Proofs.YtmekcfdllhphlaaDoor
open Go Go.R
open Go.IntKind (i64 u64 u8 u32)
def B8:cd:=gh [0,1,4,5,6,11,12,13,16,19] [] [1020,1012,996,972,959,1019,1019,892,1019,764,1019,511,1019,1019] [] []
def cq.f (m:Nat)(x0:ByteArray)(y0:ByteArray):Option (Int):=(dh.f m x0).bind fun x1=>(dh.f m y0).bind fun x2=>if x1=true then (if x2=true then (some (0:Int)) else (some (-1:Int))) else (if x2=true then (some (1:Int)) else (if (Op.bytesLess x0.data.toList y0.data.toList)=true then (some (-1:Int)) else (if (!EX x0 y0)=true then (some (1:Int)) else (some (0:Int)))))
def cq.fin (L:Mem)(r:Int)(s:St):Prop:=∃av,aI Tryd.prog (s.open B8) Tryd.f83.results.toList=some av∧fA s.h av (.int .i64 r)
def SM (cf:CallF)(m:Nat):Prop:=∀(x0:ByteArray) (y0:ByteArray) (r:Int),cq.f m x0 y0=some r→∀h xs,eA eQ h xs [.str x0,.str y0]→cf 83 xs h=some (.int .i64 r,h)
section
variable {cf:CallF}{m:Nat}
theorem kS {aS:FuncId→cd}(ha:aS 83=B8)(I9:Nd cf m)(x0:ByteArray)(y0:ByteArray)(h:AHeap)(L:Mem)  (o:Has h (L)){out:Int}(H:cq.f m x0 y0=some out) :
  ∃r h',aZ Tryd.prog aS cf m 83 [.str x0,.str y0] h=some (r,h')∧fA h' r (.int .i64 out):=by
 refine aj (fn:=Tryd.f83) ha Tryd.func83 (by kernel_rfl) (by kernel_rfl) ?_
 refine aD (Q:=fun s=>cq.fin L out s) (fun _ _ h=>h) ?_
 have H:_=some out:=H
 unfold cq.f at H
 show de _ cf B8 m _ ⟨.str x0 :: .str y0::se [],[],h⟩ _
 refine q1 <| qq ?_
 obtain⟨x1,e0,H⟩:=aJ H
 refine qr [.a 1 (I9 _ _ e0 h _ (gf (ab (bJ) (ax))))] <| qq ?_
 obtain⟨x2,e1,H⟩:=aJ H
 refine qr [.a 1 (I9 _ _ e1 h _ (gf (ab (bJ) (ax))))] <| qq <| qq <| q0 <| qc H (fun c0 H=>?_) (fun c0 H=>?_)
 ·refine qq <| qq <| q0 <| qc H (fun c1 H=>?_) (fun c1 H=>?_)
  ·obtain rfl:=oi H
   exact q1 <| qt <| ⟨.inl rfl,ca (.int .i64 (0:Int)) h (b8 (dS))⟩
  ·obtain rfl:=oi H
   exact qk <| qq <| q0 <| qt <| ⟨.inl rfl,ca (.int .i64 (-1:Int)) h (b8 (dS))⟩
 ·refine qk <| qq <| qq <| q0 <| qc H (fun c2 H=>?_) (fun c2 H=>?_)
  ·obtain rfl:=oi H
   exact q1 <| qt <| ⟨.inl rfl,ca (.int .i64 (1:Int)) h (b8 (dS))⟩
  ·refine qk <| qq <| qq <| q0 <| qc H (fun c3 H=>?_) (fun c3 H=>?_)
   ·obtain rfl:=oi H
    exact q1 <| qt <| ⟨.inl rfl,ca (.int .i64 (-1:Int)) h (b8 (dS))⟩
   ·refine qk <| qq <| qq <| q0 <| qc H (fun c4 H=>?_) (fun c4 H=>?_)
    ·obtain rfl:=oi H
     exact q1 <| qt <| ⟨.inl rfl,ca (.int .i64 (1:Int)) h (b8 (dS))⟩
    ·obtain rfl:=oi H
     exact qk <| qq <| q0 <| qt <| ⟨.inl rfl,ca (.int .i64 (0:Int)) h (b8 (dS))⟩
end
end Go.Proofs.YtmekcfdllhphlaaDoor
namespace Go.Proofs.YtmekcfdllhphlaaDoor
open Go Go.R
open Go.IntKind (i64 u64 u8 u32)
def B9:cd:=gh [0,1,2,3,4,5,16] [2,3] [115,83,111,51,111,111] [] []
def cU.f (m:Nat)(a0:ae)(b0:ae):Option (Int):=if (!(a0.kind==b0.kind))=true then ((cR.f m a0.kind b0.kind).bind fun x0=>some x0) else (if (a0.kind==(3:Int))=true then ((cR.f m (a0.args.length:Int) (b0.args.length:Int)).bind fun x1=>(cq.f m a0.label b0.label).bind fun x2=>(cj.f m ([x1,x2])).bind fun x3=>some x3) else ((cq.f m a0.label b0.label).bind fun x4=>(cR.f m a0.int b0.int).bind fun x5=>(cj.f m ([x4,x5])).bind fun x6=>some x6))
def cU.fin (L:Mem)(r:Int)(s:St):Prop:=∃av,aI Tryd.prog (s.open B9) Tryd.f65.results.toList=some av∧fA s.h av (.int .i64 r)
def Ng (cf:CallF)(m:Nat):Prop:=∀(a0:ae) (b0:ae) (r:Int),cU.f m a0 b0=some r→∀h xs,eA eQ h xs [.agg [.int .i64 a0.kind,.int .i64 a0.int,.str a0.label,aa.fz a0.args],.agg [.int .i64 b0.kind,.int .i64 b0.int,.str b0.label,aa.fz b0.args]]→cf 65 xs h=some (.int .i64 r,h)
section
variable {cf:CallF}{m:Nat}
theorem mA {aS:FuncId→cd}(ha:aS 65=B9)(KC:SK cf m)(Nh:SL cf m)(Ni:SM cf m)(a0:ae)(b0:ae)(h:AHeap)(L:Mem)  (o:Has h (L)){out:Int}(H:cU.f m a0 b0=some out) :
  ∃r h',aZ Tryd.prog aS cf m 65 [.agg [.int .i64 a0.kind,.int .i64 a0.int,.str a0.label,aa.fz a0.args],.agg [.int .i64 b0.kind,.int .i64 b0.int,.str b0.label,aa.fz b0.args]] h=some (r,h')∧fA h' r (.int .i64 out):=by
 refine aj (fn:=Tryd.f65) ha Tryd.func65 (by kernel_rfl) (by kernel_rfl) ?_
 refine aD (Q:=fun s=>cU.fin L out s) (fun _ _ h=>h) ?_
 have H:_=some out:=H
 unfold cU.f at H
 show de _ cf B9 m _ ⟨.agg [.int .i64 a0.kind,.int .i64 a0.int,.str a0.label,aa.fz a0.args] :: .agg [.int .i64 b0.kind,.int .i64 b0.int,.str b0.label,aa.fz b0.args]::tl [],[none,none],h⟩ _
 refine q1 <| qq <| qb 0 <| qq <| q0 <| qc H (fun c0 H=>?_) (fun c0 H=>?_)
 ·refine qq ?_
  obtain⟨x0,e0,H⟩:=aJ H
  obtain rfl:=oi H
  exact qr [.a 4 (KC _ _ _ e0 h _ (gf (ab (aH) (ab (aH) (ax)))))] <| qt <| ⟨.inl rfl,ca (.int .i64 x0) h (b8 (dS))⟩
 ·refine q1 <| qc H (fun c1 H=>?_) (fun c1 H=>?_)
  ·refine qq ?_
   obtain⟨x1,e1,H⟩:=aJ H
   obtain⟨x2,e2,H⟩:=aJ H
   obtain⟨x3,e3,H⟩:=aJ H
   obtain rfl:=oi H
   exact qr [.a 6 (KC _ _ _ e1 h _ (gf (ab (aH) (ab (aH) (ax))))),.a 11 (Ni _ _ _ e2 h _ (gf (ab (bJ) (ab (bJ) (ax))))),.a 13 (Nh _ _ e3 h _ (gf (ab (Az (E:=aa) (l:=[x1,x2]) (cs:=[.int .i64 x1,.int .i64 x2]) (b:=true) (by kernel_rfl) (by kernel_rfl) rfl) (ax))))] <| qt <| ⟨.inl rfl,ca (.int .i64 x3) h (b8 (dS))⟩
  ·refine qk <| qq ?_
   obtain⟨x4,e4,H⟩:=aJ H
   obtain⟨x5,e5,H⟩:=aJ H
   obtain⟨x6,e6,H⟩:=aJ H
   obtain rfl:=oi H
   exact qr [.a 4 (Ni _ _ _ e4 h _ (gf (ab (bJ) (ab (bJ) (ax))))),.a 9 (KC _ _ _ e5 h _ (gf (ab (aH) (ab (aH) (ax))))),.a 11 (Nh _ _ e6 h _ (gf (ab (Az (E:=aa) (l:=[x4,x5]) (cs:=[.int .i64 x4,.int .i64 x5]) (b:=true) (by kernel_rfl) (by kernel_rfl) rfl) (ax))))] <| qt <| ⟨.inl rfl,ca (.int .i64 x6) h (b8 (dS))⟩
end
end Go.Proofs.YtmekcfdllhphlaaDoor
namespace Go.Proofs.YtmekcfdllhphlaaDoor
open Go Go.R
open Go.IntKind (i64 u64 u8 u32)
def Ca:cd:=gh [0,1,2,5] [] [8,7] [] []
def dt.f (m:Nat)(i0:Int)(j0:Int)(x0:List ae):Option (Int):=(ix x0 i0).bind fun v0=>(ix x0 j0).bind fun v1=>(cU.f m v0 v1).bind fun x1=>some x1
def dt.fin (h:AHeap)(r:Int)(s:St):Prop:=aI Tryd.prog (s.open Ca) Tryd.f85.results.toList=some (.int .i64 r)∧s.h=h
def SN (cf:CallF)(m:Nat):Prop:=∀(i0:Int) (j0:Int) (x0:List ae) (r:Int),dt.f m i0 j0 x0=some r→∀h L (eL bR:Nat),Has h L→L[eL]? = some (bR,.ob [af.fz x0])→cf 85 [.int .i64 i0,.int .i64 j0,.ptr bR 0] h=some (.int .i64 r,h)
section
variable {cf:CallF}{m:Nat}
theorem mZ {aS:FuncId→cd}(ha:aS 85=Ca)(yY:Ng cf m)(i0:Int)(j0:Int)(x0:List ae)(h:AHeap)(L:Mem)  {eL bR:Nat}(fV:L[eL]? = some (bR,.ob [af.fz x0]))(o:Has h (L)){out:Int}(H:dt.f m i0 j0 x0=some out) :
  ∃r h',aZ Tryd.prog aS cf m 85 [.int .i64 i0,.int .i64 j0,.ptr bR 0] h=some (r,h')∧r=(.int .i64 out)∧h'=h:=by
 refine aj (fn:=Tryd.f85) ha Tryd.func85 (by kernel_rfl) (by kernel_rfl) ?_
 refine aD (Q:=fun s=>dt.fin h out s) (fun _ _ ⟨h1,h2,h3⟩=>⟨h1,_,h2,rfl,h3⟩) ?_
 have H:_=some out:=H
 unfold dt.f at H
 show de _ cf Ca m _ ⟨[.int .i64 i0,.int .i64 j0,.ptr bR 0,.any],[],h⟩ _
 refine q1 <| qq ?_
 obtain⟨v0,e0,H⟩:=aJ H
 obtain⟨v1,e1,H⟩:=aJ H
 obtain⟨x1,e2,H⟩:=aJ H
 obtain rfl:=oi H
 exact qr [.v 0 (show bh Tryd.prog h 29 (.ptr bR 0)=some (af.fz x0) from cm (q:=eL) (cs:=[af.fz x0]) o fV (by kernel_rfl)),.v 2 (bD (k:=.i64) (E:=af) (l:=x0) lG e0),.v 3 (dE  (E:=af) (l:=x0) h sf sh e0),.v 4 (show bh Tryd.prog h 29 (.ptr bR 0)=some (af.fz x0) from cm (q:=eL) (cs:=[af.fz x0]) o fV (by kernel_rfl)),.v 6 (bD (k:=.i64) (E:=af) (l:=x0) lG e1),.v 7 (dE  (E:=af) (l:=x0) h sf sh e1),.a 8 (yY _ _ _ e2 h _ (gf (ab (cg (ab (aH) (ab (aH) (ab (bJ) (ab (b4 (E:=aa)) (ax)))))) (ab (cg (ab (aH) (ab (aH) (ab (bJ) (ab (b4 (E:=aa)) (ax)))))) (ax)))))] <| qt <| ⟨.inl rfl,⟨by kernel_rfl,by kernel_rfl⟩⟩
end
end Go.Proofs.YtmekcfdllhphlaaDoor
