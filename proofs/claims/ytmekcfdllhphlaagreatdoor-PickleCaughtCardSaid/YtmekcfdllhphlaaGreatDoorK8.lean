/- Part of the proof: Q116, PS3, PS4, Q108, Q97, PS5, Q75, Q52, Q92, Q109, Q110, Q117, Q111, Q99, Q98. -/
import Derived.Test.YtmekcfdllhphlaaGreatDoorK7
set_option linter.unusedVariables false
set_option linter.unusedSimpArgs false
set_option maxRecDepth 100000
open Int renaming toNat_natCast → Yq
open List renaming append_assoc → Yx, cons_append → YL, nil_append → YO
open Nat renaming le_refl → Yn, zero_add → YG, mul_le_mul_right → Zb
open Option renaming bind_some → Yj
open Or renaming inr → Zx
open Prod.mk renaming injEq → Yr
namespace Go.Proofs.YtmekcfdllhphlaaGreatDoor
open Go Go.R
open Go.IntKind (i64 u64 u8 u32)
def lR:cm:=gI [0,1,2,3,4,10,11,12,13,14,15,16,17,18,19,20,21,22,23,24,28,33,50,58,80,85,103,110,140,151,171,185,199,213] [] [17178820576,17179869124,17179869068,17177771916,17179868940,17175674636,17179869068,17179869068,17179868894,17171480286,17179868894,17179868894,17163091936,17179868650,17179867626,17146313194,17179865578,17112756714,17179867626,17179867626,17179864574,17045646846,17179864574,17179864574,17179860960,17179844576,17179844576,16911409120,17179811808,17179746272,17179811808,17179746272,17179615200,16642744288,17179353056,16105611232,17179615200,17179615200,17179303904,15031820256,17179303908,12884336612,17179336678,8589402086,17179869183] [] []
def aC.l0 (m:Nat)(ao:List Int)(a0:Int)(aM:Int→Int→Option (Int)):Nat→Int→Int→Option (Int × Int)
 | 0,_,_=>none
 | k+1,i0,j0=>if (decide (i0<j0))=true then ((ix ao (i64.wrap (gh .u64 (u64.wrap (i64.wrap (i0+j0))) 1))).bind fun v0=>(ix ao a0).bind fun v1=>(aM v0 v1).bind fun r0=>if (decide (r0<(0:Int)))=true then (aC.l0 m ao a0 aM k (i64.wrap (i64.wrap (gh .u64 (u64.wrap (i64.wrap (i0+j0))) 1)+(1:Int))) j0) else (aC.l0 m ao a0 aM k i0 (i64.wrap (gh .u64 (u64.wrap (i64.wrap (i0+j0))) 1)))) else (some ((i0,j0)))
def aC.l1 (m:Nat)(i1:Int):Nat→(List Int)→Int→Option ((List Int) × Int)
 | 0,_,_=>none
 | k+1,bp,k0=>if (decide (k0<(i64.wrap (i1 - (1:Int)))))=true then ((ix bp (i64.wrap (k0+(1:Int)))).bind fun v2=>(ix bp k0).bind fun v3=>(ix bp k0).bind fun v4=>(ix (bp.set k0.toNat v2) (i64.wrap (k0+(1:Int)))).bind fun v5=>aC.l1 m i1 k ((bp.set k0.toNat v2).set (i64.wrap (k0+(1:Int))).toNat v3) (i64.wrap (k0+(1:Int)))) else (some ((bp,k0)))
def aC.l2 (m:Nat)(ao:List Int)(m0:Int)(aM:Int→Int→Option (Int)):Nat→Int→Int→Option (Int × Int)
 | 0,_,_=>none
 | k+1,i2,j2=>if (decide (i2<j2))=true then ((ix ao m0).bind fun v6=>(ix ao (i64.wrap (gh .u64 (u64.wrap (i64.wrap (i2+j2))) 1))).bind fun v7=>(aM v6 v7).bind fun r1=>if (!(decide (r1<(0:Int))))=true then (aC.l2 m ao m0 aM k (i64.wrap (i64.wrap (gh .u64 (u64.wrap (i64.wrap (i2+j2))) 1)+(1:Int))) j2) else (aC.l2 m ao m0 aM k i2 (i64.wrap (gh .u64 (u64.wrap (i64.wrap (i2+j2))) 1)))) else (some ((i2,j2)))
def aC.l3 (m:Nat)(i3:Int):Nat→(List Int)→Int→Option ((List Int) × Int)
 | 0,_,_=>none
 | k+1,dw,k2=>if (decide (k2 > i3))=true then ((ix dw (i64.wrap (k2 - (1:Int)))).bind fun v8=>(ix dw k2).bind fun v9=>(ix dw k2).bind fun v10=>(ix (dw.set k2.toNat v8) (i64.wrap (k2 - (1:Int)))).bind fun v11=>aC.l3 m i3 k ((dw.set k2.toNat v8).set (i64.wrap (k2 - (1:Int))).toNat v9) (i64.wrap (k2 - (1:Int)))) else (some ((dw,k2)))
def aC.l4 (m:Nat)(ao:List Int)(a0:Int)(m0:Int)(b0:Int)(aM:Int→Int→Option (Int)):Nat→Int→Int→Option (Int × Int)
 | 0,_,_=>none
 | k+1,fU,r3=>if (decide (fU<r3))=true then ((ix ao (i64.wrap (i64.wrap (i64.wrap (i64.wrap (gh .u64 (u64.wrap (i64.wrap (a0+b0))) 1)+m0) - (1:Int)) - i64.wrap (gh .u64 (u64.wrap (i64.wrap (fU+r3))) 1)))).bind fun v12=>(ix ao (i64.wrap (gh .u64 (u64.wrap (i64.wrap (fU+r3))) 1))).bind fun Ji=>(aM v12 Ji).bind fun r4=>if (!(decide (r4<(0:Int))))=true then (aC.l4 m ao a0 m0 b0 aM k (i64.wrap (i64.wrap (gh .u64 (u64.wrap (i64.wrap (fU+r3))) 1)+(1:Int))) r3) else (aC.l4 m ao a0 m0 b0 aM k fU (i64.wrap (gh .u64 (u64.wrap (i64.wrap (fU+r3))) 1)))) else (some ((fU,r3)))
def aC.b (m:Nat)(rec:(List Int)→Int→Int→Int→(Int→Int→Option (Int))→Option ((List Int)))(ao:List Int)(a0:Int)(m0:Int)(b0:Int)(aM:Int→Int→Option (Int)):Option ((List Int)):=if ((i64.wrap (m0 - a0))==(1:Int))=true then ((aC.l0 m ao a0 aM m m0 b0).bind fun bg=>match bg with | (i1,j1)=>(aC.l1 m i1 m ao a0).bind fun bR=>match bR with | (cZ,k1)=>some cZ) else (if ((i64.wrap (b0 - m0))==(1:Int))=true then ((aC.l2 m ao m0 aM m a0 m0).bind fun ik=>match ik with | (i3,j3)=>(aC.l3 m i3 m ao m0).bind fun mN=>match mN with | (jH,k3)=>some jH) else (jn (fun (σ:Int × Int)=>match σ with | (uh,r2)=>(aC.l4 m ao a0 m0 b0 aM m uh r2).bind fun cF=>match cF with | (eT,r5)=>jn (fun (σ:(List Int))=>match σ with | ll=>jn (fun (σ:(List Int))=>match σ with | pB=>if (decide ((i64.wrap (gh .u64 (u64.wrap (i64.wrap (a0+b0))) 1))<(i64.wrap (i64.wrap (i64.wrap (gh .u64 (u64.wrap (i64.wrap (a0+b0))) 1)+m0) - eT))))=true then (if (decide ((i64.wrap (i64.wrap (i64.wrap (gh .u64 (u64.wrap (i64.wrap (a0+b0))) 1)+m0) - eT))<b0))=true then ((rec pB (i64.wrap (gh .u64 (u64.wrap (i64.wrap (a0+b0))) 1)) (i64.wrap (i64.wrap (i64.wrap (gh .u64 (u64.wrap (i64.wrap (a0+b0))) 1)+m0) - eT)) b0 aM).bind fun x2=>some x2) else (some pB)) else (some pB)) fun Ox=>(if (decide (a0<eT))=true then (if (decide (eT<(i64.wrap (gh .u64 (u64.wrap (i64.wrap (a0+b0))) 1))))=true then ((rec ll a0 eT (i64.wrap (gh .u64 (u64.wrap (i64.wrap (a0+b0))) 1)) aM).bind fun x1=>Ox x1) else (Ox ll)) else (Ox ll))) fun Oy=>(if (decide (eT<m0))=true then (if (decide (m0<(i64.wrap (i64.wrap (i64.wrap (gh .u64 (u64.wrap (i64.wrap (a0+b0))) 1)+m0) - eT))))=true then ((eK.f m ao eT m0 (i64.wrap (i64.wrap (i64.wrap (gh .u64 (u64.wrap (i64.wrap (a0+b0))) 1)+m0) - eT)) aM).bind fun x0=>Oy x0) else (Oy ao)) else (Oy ao))) fun PT=>(if (decide (m0 > (i64.wrap (gh .u64 (u64.wrap (i64.wrap (a0+b0))) 1))))=true then (PT (i64.wrap (i64.wrap (i64.wrap (gh .u64 (u64.wrap (i64.wrap (a0+b0))) 1)+m0) - b0),i64.wrap (gh .u64 (u64.wrap (i64.wrap (a0+b0))) 1))) else (PT (a0,m0)))))
def aC.f (m:Nat):Nat→(List Int)→Int→Int→Int→(Int→Int→Option (Int))→Option ((List Int))
 | 0,_,_,_,_,_=>none
 | k+1,ao,a0,m0,b0,aM=>aC.b m (aC.f m k) ao a0 m0 b0 aM
def aC.fin (L:Mem)(az:Nat)(ao:List Int)(a0:Int)(m0:Int)(b0:Int)(aM:Int→Int→Option (Int))(r:(List Int))(s:St):Prop:=aH Tryz.prog (s.open lR) Tryz.f116.results.toList=some (.tup [])∧Has s.h ((az,.sl ao.length 1 (aa.l r))::L)
def vp (cf:CallF)(m:Nat)(kk:Nat):Prop:=∀(ao:List Int) (a0:Int) (m0:Int) (b0:Int) (aM:Int→Int→Option (Int)) (r:(List Int)),aC.f m kk ao a0 m0 b0 aM=some r→∀h L (cE:Nat) (az:Nat),Has h ((az,.sl cE 1 (aa.l ao))::L)→∀(eA:FuncId) (aX:List AV),ay (.fn eA aX) = .fn eA aX→(∀h K,Has h (K++L)→∀(a0:Int) (a1:Int) r,aM a0 a1=some r→cf eA ([.int .i64 a0,.int .i64 a1]++aX) h=some (.int .i64 r,h))→∀xs,xs.map ay=[.rs az 0 cE 1,.int .i64 a0,.int .i64 m0,.int .i64 b0,.fn eA aX]→∃h',cf 116 xs h=some (.tup [],h')∧Has h' ((az,.sl cE 1 (aa.l r))::L)
section
variable {cf:CallF}{m:Nat}
theorem aC.bP (L:Mem)(az:Nat)(eA:FuncId)(aX:List AV)(ao:List Int)(a0:Int)(m0:Int)(b0:Int)(aM:Int→Int→Option (Int))  {kk:Nat}(iU:vp cf m kk)(gJ:ay (.fn eA aX) = .fn eA aX)(ij:∀h K,Has h (K++L)→∀(a0:Int) (a1:Int) r,aM a0 a1=some r→cf eA ([.int .i64 a0,.int .i64 a1]++aX) h=some (.int .i64 r,h))  : bL Tryz.prog cf lR m (sub [0,1,0,1,1,0,0,0] (codeOf Tryz.f116)) (fun k (σ:Int × Int)=>aC.l0 m ao a0 aM k σ.1 σ.2) (fun σ s=>match σ with | (i0,j0)=>∃h0,s=⟨.rs az 0 ao.length 1 :: .int .i64 a0 :: .any :: .any :: .fn eA aX :: .int .i64 i0 :: .int .i64 j0::Oe [],[],h0⟩∧Has h0 ((az,.sl ao.length 1 (aa.l ao))::L)) (fun out e s=>(e = .exit 0∧∃i0 j0,(i0,j0)=out∧∃Et Gq Rr h0,s=⟨.rs az 0 ao.length 1 :: .int .i64 a0 :: .any :: .any::Et :: .int .i64 i0::Gq::rW (Rr::oq []),[],h0⟩∧Has h0 ((az,.sl ao.length 1 (aa.l ao))::L))):=by
 refine ig (fun _=>rfl) ?_
 rintro k ⟨i0,j0⟩ s out ⟨h0,rfl,o0⟩ H
 have H:aC.l0 m ao a0 aM (k+1) i0 j0=some out:=H
 refine qq <| qq <| q0 <| qc H (fun c1 H=>?_) (fun c1 H=>?_)
 ·refine qk <| qb 1 <| qq <| q0 <| qq ?_
  obtain⟨v0,e0,H⟩:=aI H
  obtain⟨v1,e1,H⟩:=aI H
  obtain⟨r0,e2,H⟩:=aI H
  refine qr [.v 3 (aE (k:=.i64) (E:=aa) (l:=ao) (q:=0) dJ o0 rfl e0),.v 4 (bf  (E:=aa) (l:=ao) (q:=0) o0 rfl A3 e0 rfl),.v 7 (aE (k:=.i64) (E:=aa) (l:=ao) (q:=0) dJ o0 rfl e1),.v 8 (bf  (E:=aa) (l:=ao) (q:=0) o0 rfl A3 e1 rfl),.a 9 (ij h0 [(az,.sl ao.length 1 (aa.l ao))] o0 _ _ _ e2)] <| qc H (fun c2 H=>?_) (fun c2 H=>?_)
  ·exact q0 <| ⟨(i64.wrap (i64.wrap (gh .u64 (u64.wrap (i64.wrap (i0+j0))) 1)+(1:Int)),j0),⟨h0,by kernel_rfl,o0⟩,H⟩
  ·exact q0 <| ⟨(i0,i64.wrap (gh .u64 (u64.wrap (i64.wrap (i0+j0))) 1)),⟨h0,by kernel_rfl,o0⟩,H⟩
 ·exact qx 0 <| ⟨rfl,i0,j0,oi H,.fn eA aX,.int .i64 j0,.bool (decide (i0<j0)),h0,by kernel_rfl,o0⟩
theorem aC.fC (L:Mem)(az:Nat)(eA:FuncId)(aX:List AV)(ao:List Int)(a0:Int)(m0:Int)(b0:Int)(aM:Int→Int→Option (Int))(i1:Int)  {kk:Nat}(iU:vp cf m kk)(gJ:ay (.fn eA aX) = .fn eA aX)(ij:∀h K,Has h (K++L)→∀(a0:Int) (a1:Int) r,aM a0 a1=some r→cf eA ([.int .i64 a0,.int .i64 a1]++aX) h=some (.int .i64 r,h))  : bL Tryz.prog cf lR m (sub [0,1,0,1,1,1,0,1,0,0] (codeOf Tryz.f116)) (fun k (σ:(List Int) × Int)=>aC.l1 m i1 k σ.1 σ.2) (fun σ s=>match σ with | (bp,k0)=>∃h2,s=⟨.rs az 0 ao.length 1::oH (.int .i64 i1 :: .any :: .any :: .int .i64 k0::Rb []),[],h2⟩∧Has h2 ((az,.sl ao.length 1 (aa.l bp))::L)) (fun out e s=>(e = .exit 2∧∃bp k0,(bp,k0)=out∧∃lP tT ou Rs h2,s=⟨lP::oH (tT :: .any :: .any::ou::rW (Rs::xG [])),[],h2⟩∧Has h2 ((az,.sl ao.length 1 (aa.l bp))::L))):=by
 refine ig (fun _=>rfl) ?_
 rintro k ⟨bp,k0⟩ s out ⟨h2,rfl,o2⟩ H
 have H:aC.l1 m i1 (k+1) bp k0=some out:=H
 refine qq <| qq <| q0 <| qc H (fun c3 H=>?_) (fun c3 H=>?_)
 ·refine qk <| qq <| qb 3 ?_
  obtain⟨v2,e4,H⟩:=aI H
  obtain⟨v3,e5,H⟩:=aI H
  obtain⟨v4,e6,H⟩:=aI H
  obtain⟨h3,e7,o3⟩:=dM (P:=Tryz.prog) (tf:=3) (E:=aa) (l:=bp) (q:=0) (v:=v2) (x:=.int .i64 v2) o2 rfl Z3 e6 rfl rfl
  obtain⟨v5,e8,H⟩:=aI H
  obtain⟨h4,e9,o4⟩:=dM (P:=Tryz.prog) (tf:=3) (E:=aa) (l:=(bp.set k0.toNat v2)) (q:=0) (v:=v3) (x:=.int .i64 v3) o3 rfl Z3 e8 rfl rfl
  exact qr [.v 8 (aE (k:=.i64) (E:=aa) (l:=bp) (q:=0) dJ o2 rfl e4),.v 9 (bf  (E:=aa) (l:=bp) (q:=0) o2 rfl A3 e4 rfl),.v 12 (aE (k:=.i64) (E:=aa) (l:=bp) (q:=0) dJ o2 rfl e5),.v 13 (bf  (E:=aa) (l:=bp) (q:=0) o2 rfl A3 e5 rfl),.v 14 (aE (k:=.i64) (E:=aa) (l:=bp) (q:=0) dJ o2 rfl e6),.w 15 e7,.v 16 (aE (k:=.i64) (E:=aa) (l:=(bp.set k0.toNat v2)) (q:=0) dJ o3 rfl e8),.w 17 e9] <| q0 <| ⟨((bp.set k0.toNat v2).set (i64.wrap (k0+(1:Int))).toNat v3,i64.wrap (k0+(1:Int))),⟨h4,by kernel_rfl,o4⟩,H⟩
 ·exact qx 2 <| ⟨rfl,bp,k0,oi H,.rs az 0 ao.length 1,.int .i64 i1,.int .i64 k0,.bool (decide (k0<(i64.wrap (i1 - (1:Int))))),h2,by kernel_rfl,o2⟩
theorem aC.pC (L:Mem)(az:Nat)(eA:FuncId)(aX:List AV)(ao:List Int)(a0:Int)(m0:Int)(b0:Int)(aM:Int→Int→Option (Int))  {kk:Nat}(iU:vp cf m kk)(gJ:ay (.fn eA aX) = .fn eA aX)(ij:∀h K,Has h (K++L)→∀(a0:Int) (a1:Int) r,aM a0 a1=some r→cf eA ([.int .i64 a0,.int .i64 a1]++aX) h=some (.int .i64 r,h))  : bL Tryz.prog cf lR m (sub [1,0,1,0,1,1,0,0,0] (codeOf Tryz.f116)) (fun k (σ:Int × Int)=>aC.l2 m ao m0 aM k σ.1 σ.2) (fun σ s=>match σ with | (i2,j2)=>∃h6,s=⟨.rs az 0 ao.length 1 :: .any :: .int .i64 m0 :: .any :: .fn eA aX::oH (.int .i64 i2 :: .int .i64 j2::Ra []),[],h6⟩∧Has h6 ((az,.sl ao.length 1 (aa.l ao))::L)) (fun out e s=>(e = .exit 4∧∃i2 j2,(i2,j2)=out∧∃Et ui Rt h6,s=⟨.rs az 0 ao.length 1 :: .any :: .int .i64 m0 :: .any::Et::oH (.int .i64 i2::ui::rW (Rt::sI [])),[],h6⟩∧Has h6 ((az,.sl ao.length 1 (aa.l ao))::L))):=by
 refine ig (fun _=>rfl) ?_
 rintro k ⟨i2,j2⟩ s out ⟨h6,rfl,o6⟩ H
 have H:aC.l2 m ao m0 aM (k+1) i2 j2=some out:=H
 refine qq <| qq <| q0 <| qc H (fun c5 H=>?_) (fun c5 H=>?_)
 ·refine qk <| qb 5 <| qq <| q0 <| qq ?_
  obtain⟨v6,rI,H⟩:=aI H
  obtain⟨v7,sK,H⟩:=aI H
  obtain⟨r1,sL,H⟩:=aI H
  refine qr [.v 3 (aE (k:=.i64) (E:=aa) (l:=ao) (q:=0) dJ o6 rfl rI),.v 4 (bf  (E:=aa) (l:=ao) (q:=0) o6 rfl A3 rI rfl),.v 7 (aE (k:=.i64) (E:=aa) (l:=ao) (q:=0) dJ o6 rfl sK),.v 8 (bf  (E:=aa) (l:=ao) (q:=0) o6 rfl A3 sK rfl),.a 9 (ij h6 [(az,.sl ao.length 1 (aa.l ao))] o6 _ _ _ sL)] <| qc H (fun c6 H=>?_) (fun c6 H=>?_)
  ·exact q0 <| ⟨(i64.wrap (i64.wrap (gh .u64 (u64.wrap (i64.wrap (i2+j2))) 1)+(1:Int)),j2),⟨h6,by kernel_rfl,o6⟩,H⟩
  ·exact q0 <| ⟨(i2,i64.wrap (gh .u64 (u64.wrap (i64.wrap (i2+j2))) 1)),⟨h6,by kernel_rfl,o6⟩,H⟩
 ·exact qx 4 <| ⟨rfl,i2,j2,oi H,.fn eA aX,.int .i64 j2,.bool (decide (i2<j2)),h6,by kernel_rfl,o6⟩
theorem aC.uj (L:Mem)(az:Nat)(eA:FuncId)(aX:List AV)(ao:List Int)(a0:Int)(m0:Int)(b0:Int)(aM:Int→Int→Option (Int))(i3:Int)  {kk:Nat}(iU:vp cf m kk)(gJ:ay (.fn eA aX) = .fn eA aX)(ij:∀h K,Has h (K++L)→∀(a0:Int) (a1:Int) r,aM a0 a1=some r→cf eA ([.int .i64 a0,.int .i64 a1]++aX) h=some (.int .i64 r,h))  : bL Tryz.prog cf lR m (sub [1,0,1,0,1,1,1,0,1,0,0] (codeOf Tryz.f116)) (fun k (σ:(List Int) × Int)=>aC.l3 m i3 k σ.1 σ.2) (fun σ s=>match σ with | (dw,k2)=>∃h8,s=⟨.rs az 0 ao.length 1::sI (.int .i64 i3 :: .any :: .any :: .int .i64 k2::Oc []),[],h8⟩∧Has h8 ((az,.sl ao.length 1 (aa.l dw))::L)) (fun out e s=>(e = .exit 6∧∃dw k2,(dw,k2)=out∧∃lP xP Bq Oz h8,s=⟨lP::sI (xP :: .any :: .any::Bq::rW (Oz::Gh [])),[],h8⟩∧Has h8 ((az,.sl ao.length 1 (aa.l dw))::L))):=by
 refine ig (fun _=>rfl) ?_
 rintro k ⟨dw,k2⟩ s out ⟨h8,rfl,o8⟩ H
 have H:aC.l3 m i3 (k+1) dw k2=some out:=H
 refine qq <| qq <| q0 <| qc H (fun c7 H=>?_) (fun c7 H=>?_)
 ·refine qk <| qq <| qb 7 ?_
  obtain⟨v8,sM,H⟩:=aI H
  obtain⟨v9,wy,H⟩:=aI H
  obtain⟨v10,xQ,H⟩:=aI H
  obtain⟨h9,CN,o9⟩:=dM (P:=Tryz.prog) (tf:=3) (E:=aa) (l:=dw) (q:=0) (v:=v8) (x:=.int .i64 v8) o8 rfl Z3 xQ rfl rfl
  obtain⟨v11,xR,H⟩:=aI H
  obtain⟨h10,CO,vo⟩:=dM (P:=Tryz.prog) (tf:=3) (E:=aa) (l:=(dw.set k2.toNat v8)) (q:=0) (v:=v9) (x:=.int .i64 v9) o9 rfl Z3 xR rfl rfl
  exact qr [.v 8 (aE (k:=.i64) (E:=aa) (l:=dw) (q:=0) dJ o8 rfl sM),.v 9 (bf  (E:=aa) (l:=dw) (q:=0) o8 rfl A3 sM rfl),.v 12 (aE (k:=.i64) (E:=aa) (l:=dw) (q:=0) dJ o8 rfl wy),.v 13 (bf  (E:=aa) (l:=dw) (q:=0) o8 rfl A3 wy rfl),.v 14 (aE (k:=.i64) (E:=aa) (l:=dw) (q:=0) dJ o8 rfl xQ),.w 15 CN,.v 16 (aE (k:=.i64) (E:=aa) (l:=(dw.set k2.toNat v8)) (q:=0) dJ o9 rfl xR),.w 17 CO] <| q0 <| ⟨((dw.set k2.toNat v8).set (i64.wrap (k2 - (1:Int))).toNat v9,i64.wrap (k2 - (1:Int))),⟨h10,by kernel_rfl,vo⟩,H⟩
 ·exact qx 6 <| ⟨rfl,dw,k2,oi H,.rs az 0 ao.length 1,.int .i64 i3,.int .i64 k2,.bool (decide (k2 > i3)),h8,by kernel_rfl,o8⟩
theorem aC.uk (L:Mem)(az:Nat)(eA:FuncId)(aX:List AV)(ao:List Int)(a0:Int)(m0:Int)(b0:Int)(aM:Int→Int→Option (Int))  {kk:Nat}(iU:vp cf m kk)(gJ:ay (.fn eA aX) = .fn eA aX)(ij:∀h K,Has h (K++L)→∀(a0:Int) (a1:Int) r,aM a0 a1=some r→cf eA ([.int .i64 a0,.int .i64 a1]++aX) h=some (.int .i64 r,h))  : bL Tryz.prog cf lR m (sub [1,1,1,1,1,1,1,0,0,0] (codeOf Tryz.f116)) (fun k (σ:Int × Int)=>aC.l4 m ao a0 m0 b0 aM k σ.1 σ.2) (fun σ s=>match σ with | (fU,r3)=>∃h13,s=⟨.rs az 0 ao.length 1 :: .int .i64 a0 :: .int .i64 m0 :: .int .i64 b0 :: .fn eA aX::sI (.int .i64 (i64.wrap (gh .u64 (u64.wrap (i64.wrap (a0+b0))) 1)) :: .int .i64 (i64.wrap (i64.wrap (gh .u64 (u64.wrap (i64.wrap (a0+b0))) 1)+m0)) :: .int .i64 fU :: .int .i64 r3 :: .int .i64 (i64.wrap (i64.wrap (i64.wrap (gh .u64 (u64.wrap (i64.wrap (a0+b0))) 1)+m0) - (1:Int)))::Gi []),[],h13⟩∧Has h13 ((az,.sl ao.length 1 (aa.l ao))::L)) (fun out e s=>(e = .exit 8∧∃fU r3,(fU,r3)=out∧∃LZ xS OA h13,s=⟨.rs az 0 ao.length 1 :: .int .i64 a0 :: .int .i64 m0 :: .int .i64 b0 :: .fn eA aX::sI (.int .i64 (i64.wrap (gh .u64 (u64.wrap (i64.wrap (a0+b0))) 1)) :: .int .i64 (i64.wrap (i64.wrap (gh .u64 (u64.wrap (i64.wrap (a0+b0))) 1)+m0)) :: .int .i64 fU::LZ::xS::pq (OA::oH [])),[],h13⟩∧Has h13 ((az,.sl ao.length 1 (aa.l ao))::L))):=by
 refine ig (fun _=>rfl) ?_
 rintro k ⟨fU,r3⟩ s out ⟨h13,rfl,mg⟩ H
 have H:aC.l4 m ao a0 m0 b0 aM (k+1) fU r3=some out:=H
 refine qq <| qq <| q0 <| qc H (fun c9 H=>?_) (fun c9 H=>?_)
 ·refine qk <| qb 9 <| qq <| q0 <| qq ?_
  obtain⟨v12,E4,H⟩:=aI H
  obtain⟨Ji,GC,H⟩:=aI H
  obtain⟨r4,E5,H⟩:=aI H
  refine qr [.v 5 (aE (k:=.i64) (E:=aa) (l:=ao) (q:=0) dJ mg rfl E4),.v 6 (bf  (E:=aa) (l:=ao) (q:=0) mg rfl A3 E4 rfl),.v 9 (aE (k:=.i64) (E:=aa) (l:=ao) (q:=0) dJ mg rfl GC),.v 10 (bf  (E:=aa) (l:=ao) (q:=0) mg rfl A3 GC rfl),.a 11 (ij h13 [(az,.sl ao.length 1 (aa.l ao))] mg _ _ _ E5)] <| qc H (fun xK H=>?_) (fun xK H=>?_)
  ·exact q0 <| ⟨(i64.wrap (i64.wrap (gh .u64 (u64.wrap (i64.wrap (fU+r3))) 1)+(1:Int)),r3),⟨h13,by kernel_rfl,mg⟩,H⟩
  ·exact q0 <| ⟨(fU,i64.wrap (gh .u64 (u64.wrap (i64.wrap (fU+r3))) 1)),⟨h13,by kernel_rfl,mg⟩,H⟩
 ·exact qx 8 <| ⟨rfl,fU,r3,oi H,.int .i64 r3,.int .i64 (i64.wrap (i64.wrap (i64.wrap (gh .u64 (u64.wrap (i64.wrap (a0+b0))) 1)+m0) - (1:Int))),.bool (decide (fU<r3)),h13,by kernel_rfl,mg⟩
theorem um {aU:FuncId→cm}(ha:aU 116=lR)(OB:Oo cf m)(ao:List Int)(a0:Int)(m0:Int)(b0:Int)(aM:Int→Int→Option (Int))(h:AHeap)(L:Mem)(az:Nat)(eA:FuncId)(aX:List AV)  {kk:Nat}(iU:vp cf m kk)(gJ:ay (.fn eA aX) = .fn eA aX)(ij:∀h K,Has h (K++L)→∀(a0:Int) (a1:Int) r,aM a0 a1=some r→cf eA ([.int .i64 a0,.int .i64 a1]++aX) h=some (.int .i64 r,h))(o:Has h ((az,.sl ao.length 1 (aa.l ao))::L)){out:(List Int)}(H:aC.f m (kk+1) ao a0 m0 b0 aM=some out) :
  ∃r h',be Tryz.prog aU cf m 116 [.rs az 0 ao.length 1,.int .i64 a0,.int .i64 m0,.int .i64 b0,.fn eA aX] h=some (r,h')∧r = .tup []∧Has h' ((az,.sl ao.length 1 (aa.l out))::L):=by
 refine aq (fn:=Tryz.f116) ha Tryz.func116 (by kernel_rfl) (by kernel_rfl) ?_
 refine aG (Q:=fun s=>aC.fin L az ao a0 m0 b0 aM out s) (fun _ _ ⟨h1,h2,h3⟩=>⟨h1,_,h2,rfl,h3⟩) ?_
 have H:aC.b m (aC.f m kk) ao a0 m0 b0 aM=some out:=H
 unfold aC.b at H
 show dt _ cf lR m _ ⟨.rs az 0 ao.length 1 :: .int .i64 a0 :: .int .i64 m0 :: .int .i64 b0 :: .fn eA aX::Rd [],[],h⟩ _
 refine qq <| qq <| q0 <| qc H (fun c0 H=>?_) (fun c0 H=>?_)
 ·refine q1 <| qq <| q0 <| qq <| qb 0 ?_
  obtain⟨bg,e3,H⟩:=aI H
  refine ql (aC.bP L az eA aX ao a0 m0 b0 aM  iU gJ ij  (m0,b0) _ _ ⟨h,by kernel_rfl,o⟩ e3) ?_
  rintro e s ⟨rfl,i1,j1,rfl,g0,g1,g2,h1,rfl,o1⟩
  try dsimp only at H
  refine qq <| qq <| q0 <| qb 2 ?_
  obtain⟨bR,ow,H⟩:=aI H
  refine ql (aC.fC L az eA aX ao a0 m0 b0 aM i1  iU gJ ij  (ao,a0) _ _ ⟨h1,by kernel_rfl,o1⟩ ow) ?_
  rintro e s ⟨rfl,cZ,k1,rfl,g3,g4,g5,g6,h5,rfl,o5⟩
  try dsimp only at H
  obtain rfl:=oi H
  exact qt <| ⟨.inl rfl,⟨by kernel_rfl,he o5⟩⟩
 ·refine qk <| qq <| qq <| q0 <| qc H (fun c4 H=>?_) (fun c4 H=>?_)
  ·refine q1 <| qq <| q0 <| qq <| qb 4 ?_
   obtain⟨ik,uo,H⟩:=aI H
   refine ql (aC.pC L az eA aX ao a0 m0 b0 aM  iU gJ ij  (a0,m0) _ _ ⟨h,by kernel_rfl,o⟩ uo) ?_
   rintro e s ⟨rfl,i3,j3,rfl,g7,g8,g9,h7,rfl,o7⟩
   try dsimp only at H
   refine qq <| qq <| q0 <| qb 6 ?_
   obtain⟨mN,E6,H⟩:=aI H
   refine ql (aC.uj L az eA aX ao a0 m0 b0 aM i3  iU gJ ij  (ao,m0) _ _ ⟨h7,by kernel_rfl,o7⟩ E6) ?_
   rintro e s ⟨rfl,jH,k3,rfl,g10,g11,g12,g13,h11,rfl,wq⟩
   try dsimp only at H
   obtain rfl:=oi H
   exact qt <| ⟨.inl rfl,⟨by kernel_rfl,he wq⟩⟩
  ·refine qk <| qq <| q0 <| qq <| q0 <| qq <| q0 ?_
   obtain⟨PT,Ue,H⟩:=xF H
   refine qj (S:=fun (σ:Int × Int) s=>match σ with | (uh,r2)=>∃(h12:AHeap),s=⟨.rs az 0 ao.length 1 :: .int .i64 a0 :: .int .i64 m0 :: .int .i64 b0 :: .fn eA aX::sI (.int .i64 (i64.wrap (gh .u64 (u64.wrap (i64.wrap (a0+b0))) 1)) :: .int .i64 (i64.wrap (i64.wrap (gh .u64 (u64.wrap (i64.wrap (a0+b0))) 1)+m0)) :: .int .i64 uh :: .int .i64 r2::Ef []),[],h12⟩∧Has h12 ((az,.sl ao.length 1 (aa.l ao))::L)) PT H ?_ ?_
   ·rintro⟨uh,r2⟩ s ⟨h12,rfl,ug⟩ H
    have H:=(Ue _).symm.trans H
    try dsimp only at H
    refine q1 <| qq <| qb 8 ?_
    obtain⟨cF,GD,H⟩:=aI H
    refine ql (aC.uk L az eA aX ao a0 m0 b0 aM  iU gJ ij  (uh,r2) _ _ ⟨h12,by kernel_rfl,ug⟩ GD) ?_
    rintro e s ⟨rfl,eT,r5,rfl,g14,g15,g16,h14,rfl,zx⟩
    try dsimp only at H
    refine q1 ?_
    obtain⟨Oy,PS,H⟩:=xF H
    refine qj (S:=fun (σ:(List Int)) s=>match σ with | ll=>∃(g17:AV) (g18:AV) (h16:AHeap),s=⟨.rs az 0 ao.length 1 :: .int .i64 a0::g17 :: .int .i64 b0 :: .fn eA aX::sI (.int .i64 (i64.wrap (gh .u64 (u64.wrap (i64.wrap (a0+b0))) 1)) :: .any :: .int .i64 eT::kK (.int .i64 (i64.wrap (i64.wrap (i64.wrap (gh .u64 (u64.wrap (i64.wrap (a0+b0))) 1)+m0) - eT))::pq [g18,.any,.any])),[],h16⟩∧Has h16 ((az,.sl ao.length 1 (aa.l ll))::L)) Oy H ?_ ?_
    ·rintro ll s ⟨g17,g18,h16,rfl,ml⟩ H
     have H:=(PS _).symm.trans H
     try dsimp only at H
     obtain⟨Ox,FE,H⟩:=xF H
     refine qj (S:=fun (σ:(List Int)) s=>match σ with | pB=>∃(g19:AV) (g20:AV) (g21:AV) (h18:AHeap),s=⟨.rs az 0 ao.length 1::g19 :: .any :: .int .i64 b0 :: .fn eA aX::sI (.int .i64 (i64.wrap (gh .u64 (u64.wrap (i64.wrap (a0+b0))) 1)) :: .any::g20::kK (.int .i64 (i64.wrap (i64.wrap (i64.wrap (gh .u64 (u64.wrap (i64.wrap (a0+b0))) 1)+m0) - eT))::oq [g21,.any])),[],h18⟩∧Has h18 ((az,.sl ao.length 1 (aa.l pB))::L)) Ox H ?_ ?_
     ·rintro pB s ⟨g19,g20,g21,h18,rfl,Eu⟩ H
      have H:=(FE _).symm.trans H
      try dsimp only at H
      refine qq ?_
      rcases dQ H with⟨Em,H⟩| ⟨Em,H⟩
      ·refine qr [.b 3 Em] <| qc H (fun L2 H=>?_) (fun L2 H=>?_)
       ·obtain⟨x2,GF,H⟩:=aI H
        obtain⟨h19,Jj,Ev⟩:=iU _ _ _ _ _ _ GF h18 _ _ _ (Eu) eA aX gJ (fun h' K' o'=>ij h' (K'++[]) (by simpa only [Yx,YL,YO] using o')) [.rs az 0 ao.length 1,.int .i64 (i64.wrap (gh .u64 (u64.wrap (i64.wrap (a0+b0))) 1)),.int .i64 (i64.wrap (i64.wrap (i64.wrap (gh .u64 (u64.wrap (i64.wrap (a0+b0))) 1)+m0) - eT)),.int .i64 b0,.fn eA aX] (ak (rfl) (ak (aR (bJ)) (ak (aR (bJ)) (ak (aR (bJ)) (ak (gJ) (bn))))))
        obtain rfl:=oi H
        exact qr [.a 5 Jj] <| ⟨.inr rfl,⟨by kernel_rfl,he Ev⟩⟩
       ·obtain rfl:=oi H
        exact qk <| ⟨.inr rfl,⟨by kernel_rfl,he Eu⟩⟩
      ·obtain rfl:=oi H
       exact qr [.b 3 Em] <| Ej <| qk <| ⟨.inr rfl,⟨by kernel_rfl,he Eu⟩⟩
     clear FE
     intro L3
     refine qq ?_
     rcases dQ H with⟨rZ,H⟩| ⟨rZ,H⟩
     ·refine qr [.b 3 rZ] <| qc H (fun CJ H=>?_) (fun CJ H=>?_)
      ·obtain⟨x1,GG,H⟩:=aI H
       obtain⟨h17,GH,Br⟩:=iU _ _ _ _ _ _ GG h16 _ _ _ (ml) eA aX gJ (fun h' K' o'=>ij h' (K'++[]) (by simpa only [Yx,YL,YO] using o')) [.rs az 0 ao.length 1,.int .i64 a0,.int .i64 eT,.int .i64 (i64.wrap (gh .u64 (u64.wrap (i64.wrap (a0+b0))) 1)),.fn eA aX] (ak (rfl) (ak (aR (bJ)) (ak (aR (bJ)) (ak (aR (bJ)) (ak (gJ) (bn))))))
       exact qr [.a 5 GH] <| L3 x1 _ ⟨.any,.any,.any,h17,by kernel_rfl,Br⟩ H
      ·exact qk <| L3 ll _ ⟨.int .i64 a0,.int .i64 eT,.bool (decide (eT<(i64.wrap (gh .u64 (u64.wrap (i64.wrap (a0+b0))) 1)))),h16,by kernel_rfl,ml⟩ H
     ·exact qr [.b 3 rZ] <| Ej <| qk <| L3 ll _ ⟨.int .i64 a0,.int .i64 eT,.bool false,h16,by kernel_rfl,ml⟩ H
    clear PS
    intro L4
    refine qq ?_
    rcases dQ H with⟨pA,H⟩| ⟨pA,H⟩
    ·refine qr [.b 3 pA] <| qc H (fun rY H=>?_) (fun rY H=>?_)
     ·obtain⟨x0,GI,H⟩:=aI H
      obtain⟨h15,Ir,AA⟩:=OB _ _ _ _ _ _ GI h14 _ _ _ (zx) eA aX gJ (fun h' K' o'=>ij h' (K'++[]) (by simpa only [Yx,YL,YO] using o')) [.rs az 0 ao.length 1,.int .i64 eT,.int .i64 m0,.int .i64 (i64.wrap (i64.wrap (i64.wrap (gh .u64 (u64.wrap (i64.wrap (a0+b0))) 1)+m0) - eT)),.fn eA aX] (ak (rfl) (ak (aR (bJ)) (ak (aR (bJ)) (ak (aR (bJ)) (ak (gJ) (bn))))))
      exact qr [.a 5 Ir] <| L4 x0 _ ⟨.any,.any,h15,by kernel_rfl,AA⟩ H
     ·exact qk <| L4 ao _ ⟨.int .i64 m0,.bool (decide (m0<(i64.wrap (i64.wrap (i64.wrap (gh .u64 (u64.wrap (i64.wrap (a0+b0))) 1)+m0) - eT)))),h14,by kernel_rfl,zx⟩ H
    ·exact qr [.b 3 pA] <| Ej <| qk <| L4 ao _ ⟨.int .i64 m0,.bool false,h14,by kernel_rfl,zx⟩ H
   clear Ue
   intro OC
   refine q1 <| qc H (fun c8 H=>?_) (fun c8 H=>?_)
   ·exact q1 <| q0 <| OC (i64.wrap (i64.wrap (i64.wrap (gh .u64 (u64.wrap (i64.wrap (a0+b0))) 1)+m0) - b0),i64.wrap (gh .u64 (u64.wrap (i64.wrap (a0+b0))) 1)) _ ⟨h,by kernel_rfl,o⟩ H
   ·exact q1 <| q0 <| OC (a0,m0) _ ⟨h,by kernel_rfl,o⟩ H
end
end Go.Proofs.YtmekcfdllhphlaaGreatDoor
namespace Go.Proofs.YtmekcfdllhphlaaGreatDoor
open Go Go.R
open Go.IntKind (i64 u64 u8 u32)
theorem GJ {α β:Type}{B:α→Option β}{c1 c2:Bool}{X:Option α}{d0:α}{G:β→Prop}(D:α→Prop)(h1:c1=true→c2=true→∃x,X=some x∧D x)(h0:¬(c1=true∧c2=true)→D d0)
  (h:∀x,D x→∃d,B x=some d∧G d):∃d,jn B (fun j=>if c1=true then (if c2=true then (X.bind fun x0=>j x0) else j d0) else j d0)=some d∧G d:=by
 unfold jn
 dsimp only
 by_cases a1:c1=true
 ·by_cases a2:c2=true
  ·obtain⟨x,e,hx⟩:=h1 a1 a2
   rw [if_pos a1,if_pos a2,e]; exact h x hx
  ·rw [if_pos a1,if_neg a2]; exact h _ (h0 fun z=>a2 z.2)
 ·rw [if_neg a1]; exact h _ (h0 fun z=>a1 z.1)
theorem Ru {α:Type}{c1 c2:Bool}{X:Option α}{d0:α}{G:α→Prop}(h1:c1=true→c2=true→∃x,X=some x∧G x)(h0:¬(c1=true∧c2=true)→G d0) :
  ∃d,(if c1=true then (if c2=true then (X.bind fun x0=>some x0) else some d0) else some d0)=some d∧G d:=by
 by_cases a1:c1=true
 ·by_cases a2:c2=true
  ·obtain⟨x,e,hx⟩:=h1 a1 a2
   rw [if_pos a1,if_pos a2,e]; exact⟨x,rfl,hx⟩
  ·rw [if_pos a1,if_neg a2]; exact⟨_,rfl,h0 fun z=>a2 z.2⟩
 ·rw [if_neg a1]; exact⟨_,rfl,h0 fun z=>a1 z.1⟩
theorem L5 {α β:Type}{B:α→Option β}{c:Bool}{x y:α}{G:β→Prop}(h:∀z,(c=true∧z=x)∨(c=false∧z=y)→∃d,B z=some d∧G d):∃d,jn B (fun j=>if c=true then j x else j y)=some d∧G d:=by
 unfold jn
 dsimp only
 cases c with
 | true=>exact h _ (.inl ⟨rfl,rfl⟩)
 | false=>exact h _ (.inr ⟨rfl,rfl⟩)
theorem Ord.refl {c:Int→Int→Int}{l:List Int}(O:Ord c l){x:Int}(hx:x∈l):0≤c x x:=by
 by_cases h:c x x<0
 ·exact O.Na x hx x hx h
 ·omega
theorem Sg.le {c:Int→Int→Int}{l:List Int}{a b:Nat}(S:Sg c l a b)(O:Ord c l){i j:Nat}(h1:a≤i)(h2:i≤j)(h3:j<b)(h4:b≤l.length):0≤c (gt l j) (gt l i):=by
 by_cases h:i=j
 ·subst h; exact O.refl (aJ (by omega))
 ·exact S i j h1 (by omega) h3
section
variable {m:Nat}{cmp:Int→Int→Option Int}{c:Int→Int→Int}
theorem Bs {l:List Int}{a:Nat}(ha:a<l.length)(hs:l.length<2 ^ 40)(C:Cm cmp c l):∀(f i j:Nat),j - i<f→i≤j→j≤l.length→
  ∃x:Nat,aC.l0 m l (a:Int) cmp f (i:Int) (j:Int)=some ((x:Int),(x:Int))∧i≤x∧x≤j∧(i<x→c (gt l (x - 1)) (gt l a)<0)∧(x<j→0≤c (gt l x) (gt l a))
 | 0,i,j,hf,_,_=>absurd hf (by omega)
 | f+1,i,j,hf,h1,h2=>by
  have mj:(2:Nat) ^ 40=1099511627776:=by decide
  unfold aC.l0
  by_cases h:i<j
  ·have hh:=zw (a:=i) (b:=j) (by omega)
   rw [if_pos (by simp; omega),hh,cy (by omega),cy ha,Yj,Yj,C.at (by omega) ha,Yj]
   by_cases g:c (gt l ((i+j) / 2)) (gt l a)<0
   ·obtain⟨x,e,x1,x2,x3,x4⟩:=Bs ha hs C f ((i+j) / 2+1) j (by omega) (by omega) h2
    rw [if_pos (by simpa using g),aA (by omega) (by omega),show (((i+j) / 2:Nat):Int)+1=(((i+j) / 2+1:Nat):Int) by omega,e]
    refine⟨x,rfl,by omega,x2,fun _=>?_,x4⟩
    by_cases hx:x=(i+j) / 2+1
    ·rw [hx]; simpa using g
    ·exact x3 (by omega)
   ·obtain⟨x,e,x1,x2,x3,x4⟩:=Bs ha hs C f i ((i+j) / 2) (by omega) (by omega) (by omega)
    rw [if_neg (by simpa using g),e]
    refine⟨x,rfl,x1,by omega,x3,fun _=>?_⟩
    by_cases hx:x=(i+j) / 2
    ·rw [hx]; omega
    ·exact x4 (by omega)
  ·have:i=j:=by omega
   subst this
   exact⟨i,by rw [if_neg (by simp)],Yn _,Yn _,fun h=>absurd h (by omega),fun h=>absurd h (by omega)⟩
theorem Bt {l:List Int}{q:Nat}(hq:q<l.length)(hs:l.length<2 ^ 40)(C:Cm cmp c l):∀(f i j:Nat),j - i<f→i≤j→j≤l.length→
  ∃x:Nat,aC.l2 m l (q:Int) cmp f (i:Int) (j:Int)=some ((x:Int),(x:Int))∧i≤x∧x≤j∧(i<x→0≤c (gt l q) (gt l (x - 1)))∧(x<j→c (gt l q) (gt l x)<0)
 | 0,i,j,hf,_,_=>absurd hf (by omega)
 | f+1,i,j,hf,h1,h2=>by
  have mj:(2:Nat) ^ 40=1099511627776:=by decide
  unfold aC.l2
  by_cases h:i<j
  ·have hh:=zw (a:=i) (b:=j) (by omega)
   rw [if_pos (by simp; omega),hh,cy hq,cy (by omega),Yj,Yj,C.at hq (by omega),Yj]
   by_cases g:c (gt l q) (gt l ((i+j) / 2))<0
   ·obtain⟨x,e,x1,x2,x3,x4⟩:=Bt hq hs C f i ((i+j) / 2) (by omega) (by omega) (by omega)
    rw [if_neg (by simpa using g),e]
    refine⟨x,rfl,x1,by omega,x3,fun _=>?_⟩
    by_cases hx:x=(i+j) / 2
    ·rw [hx]; omega
    ·exact x4 (by omega)
   ·obtain⟨x,e,x1,x2,x3,x4⟩:=Bt hq hs C f ((i+j) / 2+1) j (by omega) (by omega) h2
    rw [if_pos (by simpa using g),aA (by omega) (by omega),show (((i+j) / 2:Nat):Int)+1=(((i+j) / 2+1:Nat):Int) by omega,e]
    refine⟨x,rfl,by omega,x2,fun _=>?_,x4⟩
    by_cases hx:x=(i+j) / 2+1
    ·rw [hx]; simp; omega
    ·exact x3 (by omega)
  ·have:i=j:=by omega
   subst this
   exact⟨i,by rw [if_neg (by simp)],Yn _,Yn _,fun h=>absurd h (by omega),fun h=>absurd h (by omega)⟩
theorem GK {l:List Int}{a x:Nat}(hx:x≤l.length)(Rv:a<x)(hs:l.length<2 ^ 40):∀(f k:Nat) (d:List Int),x - k<f→a≤k→k<x→Mv a x l d→
  (∀t,gt d t=if a≤t∧t<k then gt l (t+1) else if t=k then gt l a else gt l t)→
  ∃d' y,aC.l1 m (x:Int) f d (k:Int)=some (d',y)∧Mv a x l d'∧∀t,gt d' t=if a≤t∧t+1<x then gt l (t+1) else if t+1=x then gt l a else gt l t
 | 0,k,d,hf,_,_,_,_=>absurd hf (by omega)
 | f+1,k,d,hf,h1,h2,M,hg=>by
  have mj:(2:Nat) ^ 40=1099511627776:=by decide
  have hl:=M.length
  unfold aC.l1
  have e0:i64.wrap ((x:Int) - 1)=((x - 1:Nat):Int):=by rw [aA (by omega) (by omega)]; omega
  rw [e0]
  by_cases h:k<x - 1
  ·have e1:i64.wrap ((k:Int)+1)=((k+1:Nat):Int):=by rw [aA (by omega) (by omega)]; omega
   rw [if_pos (by simp; omega),e1,cy (by omega),cy (by omega),Yj,Yj,Yj,Yq,Yq,cy (by simp; omega),Yj]
   refine GK hx Rv hs f (k+1) (Gs d k (k+1)) (by omega) (by omega) (by omega) (M.trans (Bp (by omega) (by omega) (by omega) (by omega) (by omega))) fun t=>?_
   rw [lQ (by omega) (by omega),hg k,hg (k+1),hg t]
   by_cases t1:t=k+1
   ·subst t1; rw [if_pos rfl,if_neg (by omega),if_pos rfl,if_neg (by omega),if_pos rfl]
   ·rw [if_neg t1]
    by_cases t2:t=k
    ·subst t2; rw [if_pos rfl,if_neg (by omega),if_neg (by omega),if_pos (by omega)]
    ·rw [if_neg t2,if_neg t2,if_neg t1]
     by_cases t3:a≤t∧t<k
     ·rw [if_pos t3,if_pos (by omega)]
     ·rw [if_neg t3,if_neg (by omega)]
  ·refine⟨d,k,by rw [if_neg (by simp; omega)],M,fun t=>?_⟩
   rw [hg]
   by_cases t3:a≤t∧t<k
   ·rw [if_pos t3,if_pos (by omega)]
   ·rw [if_neg t3,if_neg (show ¬(a≤t∧t+1<x) by omega)]
    by_cases t4:t=k
    ·rw [if_pos t4,if_pos (by omega)]
    ·rw [if_neg t4,if_neg (by omega)]
theorem GL {l:List Int}{q x:Nat}(hx:q<l.length)(Rv:x≤q)(hs:l.length<2 ^ 40):∀(f k:Nat) (d:List Int),k - x<f→x≤k→k≤q→Mv x (q+1) l d→
  (∀t,gt d t=if k<t∧t≤q then gt l (t - 1) else if t=k then gt l q else gt l t)→
  ∃d' y,aC.l3 m (x:Int) f d (k:Int)=some (d',y)∧Mv x (q+1) l d'∧∀t,gt d' t=if x<t∧t≤q then gt l (t - 1) else if t=x then gt l q else gt l t
 | 0,k,d,hf,_,_,_,_=>absurd hf (by omega)
 | f+1,k,d,hf,h1,h2,M,hg=>by
  have mj:(2:Nat) ^ 40=1099511627776:=by decide
  have hl:=M.length
  unfold aC.l3
  by_cases h:x<k
  ·have e1:i64.wrap ((k:Int) - 1)=((k - 1:Nat):Int):=by rw [aA (by omega) (by omega)]; omega
   rw [if_pos (by simp; omega),e1,cy (by omega),cy (by omega),Yj,Yj,Yj,Yq,Yq,cy (by simp; omega),Yj]
   refine GL hx Rv hs f (k - 1) (Gs d k (k - 1)) (by omega) (by omega) (by omega) (M.trans (Bp (by omega) (by omega) (by omega) (by omega) (by omega))) fun t=>?_
   rw [lQ (by omega) (by omega),hg k,hg (k - 1),hg t]
   by_cases t1:t=k - 1
   ·subst t1; rw [if_pos rfl,if_neg (by omega),if_pos rfl,if_neg (by omega),if_pos rfl]
   ·rw [if_neg t1]
    by_cases t2:t=k
    ·subst t2; rw [if_pos rfl,if_neg (by omega),if_neg (by omega),if_pos (by omega)]
    ·rw [if_neg t2,if_neg t2,if_neg t1]
     by_cases t3:k<t∧t≤q
     ·rw [if_pos t3,if_pos (by omega)]
     ·rw [if_neg t3,if_neg (by omega)]
  ·have:k=x:=by omega
   subst this
   exact⟨d,k,by rw [if_neg (by simp)],M,hg⟩
theorem Bu {l:List Int}{a b q:Nat}(QP:a+b<2 ^ 42)(hs:l.length<2 ^ 40)(C:Cm cmp c l):∀(f s r:Nat),r - s<f→s≤r→r≤l.length→r≤(a+b) / 2+q→(a+b) / 2+q≤l.length+s→
  ∃x:Nat,aC.l4 m l (a:Int) (q:Int) (b:Int) cmp f (s:Int) (r:Int)=some ((x:Int),(x:Int))∧s≤x∧x≤r∧(s<x→0≤c (gt l ((a+b) / 2+q - x)) (gt l (x - 1)))∧(x<r→c (gt l ((a+b) / 2+q - x - 1)) (gt l x)<0)
 | 0,i,j,hf,_,_,_,_=>absurd hf (by omega)
 | f+1,s,r,hf,h1,h2,h3,h4=>by
  have mj:(2:Nat) ^ 40=1099511627776:=by decide
  have L6:(2:Nat) ^ 42=4398046511104:=by decide
  unfold aC.l4
  by_cases h:s<r
  ·have hh:=zw (a:=s) (b:=r) (by omega)
   have QP:=zw (a:=a) (b:=b) (by omega)
   have e1:i64.wrap (i64.wrap (i64.wrap ((((a+b) / 2:Nat):Int)+(q:Int)) - 1) - (((s+r) / 2:Nat):Int))=(((a+b) / 2+q - (s+r) / 2 - 1:Nat):Int):=by
    rw [aA (x:=(((a+b) / 2:Nat):Int)+(q:Int)) (by omega) (by omega),aA (x:=(((a+b) / 2:Nat):Int)+(q:Int) - 1) (by omega) (by omega),aA (by omega) (by omega)]
    omega
   rw [if_pos (by simp; omega),hh,QP,e1,cy (by omega),cy (by omega),Yj,Yj,C.at (by omega) (by omega),Yj]
   by_cases g:c (gt l ((a+b) / 2+q - (s+r) / 2 - 1)) (gt l ((s+r) / 2))<0
   ·obtain⟨x,e,x1,x2,x3,x4⟩:=Bu (a:=a) (b:=b) (q:=q) (by omega) hs C f s ((s+r) / 2) (by omega) (by omega) (by omega) (by omega) (by omega)
    rw [if_neg (by simpa using g),e]
    refine⟨x,rfl,x1,by omega,x3,fun _=>?_⟩
    by_cases hx:x=(s+r) / 2
    ·rw [hx]; exact g
    ·exact x4 (by omega)
   ·obtain⟨x,e,x1,x2,x3,x4⟩:=Bu (a:=a) (b:=b) (q:=q) (by omega) hs C f ((s+r) / 2+1) r (by omega) (by omega) h2 h3 (by omega)
    rw [if_pos (by simpa using g),aA (by omega) (by omega),show (((s+r) / 2:Nat):Int)+1=(((s+r) / 2+1:Nat):Int) by omega,e]
    refine⟨x,rfl,by omega,x2,fun _=>?_,x4⟩
    by_cases hx:x=(s+r) / 2+1
    ·rw [hx,show (a+b) / 2+q - ((s+r) / 2+1)=(a+b) / 2+q - (s+r) / 2 - 1 by omega,Nat.add_sub_cancel]; omega
    ·exact x3 (by omega)
  ·have:s=r:=by omega
   subst this
   exact⟨s,by rw [if_neg (by simp)],Yn _,Yn _,fun h=>absurd h (by omega),fun h=>absurd h (by omega)⟩
end
end Go.Proofs.YtmekcfdllhphlaaGreatDoor
namespace Go.Proofs.YtmekcfdllhphlaaGreatDoor
open Go Go.R
open Go.IntKind (i64 u64 u8 u32)
section
variable {m:Nat}{cmp:Int→Int→Option Int}{c:Int→Int→Int}
theorem uq {l d:List Int}{a q b M E x:Nat}(h1:a≤x)(h2:x≤M)(h3:x≤q)(h4:q≤E)(h5:E≤b)(h6:E+x=M+q)(hb:b≤l.length)
  (R:M8 l d x (q - x) (E - q)) (O:Ord c l) (F1:a<x→E<b→0≤c (gt l E) (gt l (x - 1))) (F2:x<q→q<E→c (gt l (E - 1)) (gt l x)<0)
  (S1:Sg c l a q) (S2:Sg c l q b) :
  Sg c d a x∧Sg c d x M∧Sg c d M E∧Sg c d E b∧(∀i j,a≤i→i<M→M≤j→j<b→0≤c (gt d j) (gt d i)):=by
 obtain⟨R1,R2,R3,R4⟩:=R
 have g1:∀k,k<x→gt d k=gt l k:=fun k hk=>R4 k (.inl hk)
 have g2:∀k,x≤k→k<M→gt d k=gt l (q+(k - x)):=fun k hk qv=>by
  have:=R2 (k - x) (by omega)
  rw [show x+(k - x)=k by omega,show x+(q - x)+(k - x)=q+(k - x) by omega] at this
  exact this
 have g3:∀k,M≤k→k<E→gt d k=gt l (x+(k - M)):=fun k hk qv=>by
  have:=R3 (k - M) (by omega)
  rw [show x+(E - q)+(k - M)=k by omega] at this
  exact this
 have g4:∀k,E≤k→gt d k=gt l k:=fun k hk=>R4 k (.inr (by omega))
 refine⟨fun i j k1 k2 k3=>?_,fun i j k1 k2 k3=>?_,fun i j k1 k2 k3=>?_,fun i j k1 k2 k3=>?_,fun i j k1 k2 k3 k4=>?_⟩
 ·rw [g1 i (by omega),g1 j (by omega)]; exact S1 _ _ k1 k2 (by omega)
 ·rw [g2 i (by omega) (by omega),g2 j (by omega) (by omega)]; exact S2 _ _ (by omega) (by omega) (by omega)
 ·rw [g3 i (by omega) (by omega),g3 j (by omega) (by omega)]; exact S1 _ _ (by omega) (by omega) (by omega)
 ·rw [g4 i (by omega),g4 j (by omega)]; exact S2 _ _ (by omega) (by omega) (by omega)
 ·by_cases hi:i<x
  ·rw [g1 i hi]
   by_cases hj:j<E
   ·rw [g3 j k3 hj]; exact S1 _ _ k1 (by omega) (by omega)
   ·rw [g4 j (by omega)]
    have f1:=F1 (by omega) (by omega)
    have f2:=S1.le O k1 (show i≤x - 1 by omega) (by omega) (by omega)
    have f3:=S2.le O (show q≤E from h4) (show E≤j by omega) k4 hb
    exact O.tr _ (aJ (by omega)) _ (aJ (show E<l.length by omega)) _ (aJ (by omega)) (O.tr _ (aJ (by omega)) _ (aJ (show x - 1<l.length by omega)) _ (aJ (by omega)) f2 f1) f3
  ·rw [g2 i (by omega) k2]
   by_cases hj:j<E
   ·rw [g3 j k3 hj]
    have f1:=O.Na _ (aJ (show E - 1<l.length by omega)) _ (aJ (show x<l.length by omega)) (F2 (by omega) (by omega))
    have f2:=S2.le O (show q≤q+(i - x) by omega) (show q+(i - x)≤E - 1 by omega) (by omega) hb
    have f3:=S1.le O h1 (show x≤x+(j - M) by omega) (by omega) (by omega)
    exact O.tr _ (aJ (by omega)) _ (aJ (show x<l.length by omega)) _ (aJ (by omega)) (O.tr _ (aJ (by omega)) _ (aJ (show E - 1<l.length by omega)) _ (aJ (by omega)) f2 f1) f3
   ·rw [g4 j (by omega)]; exact S2 _ _ (by omega) (by omega) k4
theorem GM {l:List Int}{x i j:Nat}(h:i=0∨j=0):M8 l l x i j:=
 ⟨List.Perm.refl _,fun k hk=>by rw [show i=0 by omega,Nat.add_zero],fun k hk=>by rw [show j=0 by omega,Nat.add_zero],fun _ _=>rfl⟩
theorem L7 {l d:List Int}{x i j a b:Nat}(R:M8 l d x i j)(h1:a≤x)(h2:x+i+j≤b):Mv a b l d:=by
 obtain⟨R1,R2,R3,R4⟩:=R
 refine⟨R1,fun k hk=>R4 k (by omega),fun k k1 k2=>?_⟩
 by_cases g1:k<x∨x+i+j≤k
 ·exact⟨k,k1,k2,R4 k g1⟩
 ·by_cases g2:k<x+j
  ·have:=R2 (k - x) (by omega)
   rw [show x+(k - x)=k by omega] at this
   exact⟨_,by omega,by omega,this⟩
  ·have:=R3 (k - x - j) (by omega)
   rw [show x+j+(k - x - j)=k by omega] at this
   exact⟨_,by omega,by omega,this⟩
theorem pD (hm:2 ^ 41≤m):∀(f:Nat) (l:List Int) (a q b:Nat),b - a<f→a<q→q<b→b≤l.length→l.length<2 ^ 40→Cm cmp c l→
  ∃d,aC.f m f l (a:Int) (q:Int) (b:Int) cmp=some d∧Mv a b l d∧(Ord c l→Sg c l a q→Sg c l q b→Sg c d a b)
 | 0,l,a,q,b,hf,_,_,_,_,_=>absurd hf (by omega)
 | f+1,l,a,q,b,hf,h1,h2,h3,hs,C=>by
  have mj:(2:Nat) ^ 40=1099511627776:=by decide
  have pz:(2:Nat) ^ 41=2199023255552:=by decide
  have L6:(2:Nat) ^ 42=4398046511104:=by decide
  unfold aC.f
  unfold aC.b
  have e1:i64.wrap ((q:Int) - (a:Int))=((q - a:Nat):Int):=by rw [aA (by omega) (by omega)]; omega
  have e2:i64.wrap ((b:Int) - (q:Int))=((b - q:Nat):Int):=by rw [aA (by omega) (by omega)]; omega
  have hM:=zw (a:=a) (b:=b) (by omega)
  rw [e1,e2,hM]
  by_cases X1:q - a=1
  ·obtain⟨x,k1,k2,k3,k4,k5⟩:=Bs (m:=m) (a:=a) (by omega) hs C m q b (by omega) (by omega) h3
   obtain⟨d,y,g1,g2,g3⟩:=GK (m:=m) (l:=l) (a:=a) (x:=x) (by omega) (by omega) hs m a l (by omega) (Yn _) (by omega) Mv.refl (fun t=>by rw [if_neg (by omega)]; split<;>simp_all)
   rw [if_pos (by simp; omega),k1,Yj]
   dsimp only
   rw [g1]
   refine⟨d,rfl,g2.wide (Yn _) k3,fun O S1 S2 i j r1 r2 r3=>?_⟩
   have A1:∀t,a≤t→t+1<x→gt d t=gt l (t+1):=fun t w1 w2=>by rw [g3 t,if_pos ⟨w1,w2⟩]
   have A2:∀t,t+1=x→gt d t=gt l a:=fun t w1=>by rw [g3 t,if_neg (by omega),if_pos w1]
   have A3:∀t,x≤t→gt d t=gt l t:=fun t w1=>by rw [g3 t,if_neg (by omega),if_neg (by omega)]
   by_cases i1:i+1<x
   ·rw [A1 i r1 i1]
    by_cases j1:j+1<x
    ·rw [A1 j (by omega) j1]; exact S2 _ _ (by omega) (by omega) (by omega)
    ·have f1:=O.Na _ (aJ (show x - 1<l.length by omega)) _ (aJ (show a<l.length by omega)) (k4 (by omega))
     have f2:=S2.le O (show q≤i+1 by omega) (show i+1≤x - 1 by omega) (by omega) h3
     by_cases j2:j+1=x
     ·rw [A2 j j2]
      exact O.tr _ (aJ (by omega)) _ (aJ (show x - 1<l.length by omega)) _ (aJ (by omega)) f2 f1
     ·rw [A3 j (by omega)]; exact S2 _ _ (by omega) (by omega) (by omega)
   ·rw [A3 j (by omega)]
    by_cases i2:i+1=x
    ·rw [A2 i i2]
     have f1:=k5 (by omega)
     have f2:=S2.le O (show q≤x by omega) (show x≤j by omega) r3 h3
     exact O.tr _ (aJ (by omega)) _ (aJ (show x<l.length by omega)) _ (aJ (by omega)) f1 f2
    ·rw [A3 i (by omega)]; exact S2 _ _ (by omega) r2 r3
  rw [if_neg (by simp; omega)]
  by_cases hb1:b - q=1
  ·obtain⟨x,k1,k2,k3,k4,k5⟩:=Bt (m:=m) (q:=q) (by omega) hs C m a q (by omega) (by omega) (by omega)
   obtain⟨d,y,g1,g2,g3⟩:=GL (m:=m) (l:=l) (q:=q) (x:=x) (by omega) (by omega) hs m q l (by omega) (by omega) (Yn _) Mv.refl (fun t=>by rw [if_neg (by omega)]; split<;>simp_all)
   rw [if_pos (by simp; omega),k1,Yj]
   dsimp only
   rw [g1]
   refine⟨d,rfl,g2.wide k2 (by omega),fun O S1 S2 i j r1 r2 r3=>?_⟩
   have A1:∀t,x<t→t≤q→gt d t=gt l (t - 1):=fun t w1 w2=>by rw [g3 t,if_pos ⟨w1,w2⟩]
   have A2:gt d x=gt l q:=by rw [g3 x,if_neg (by omega),if_pos rfl]
   have A3:∀t,t<x→gt d t=gt l t:=fun t w1=>by rw [g3 t,if_neg (by omega),if_neg (by omega)]
   by_cases i1:x<i
   ·rw [A1 i i1 (by omega),A1 j (by omega) (by omega)]
    exact S1 _ _ (by omega) (by omega) (by omega)
   ·by_cases i2:i=x
    ·subst i2
     rw [A2,A1 j (by omega) (by omega)]
     have f1:=O.Na _ (aJ (show q<l.length by omega)) _ (aJ (show i<l.length by omega)) (k5 (by omega))
     have f2:=S1.le O r1 (show i≤j - 1 by omega) (by omega) (by omega)
     exact O.tr _ (aJ (by omega)) _ (aJ (show i<l.length by omega)) _ (aJ (by omega)) f1 f2
    ·rw [A3 i (by omega)]
     by_cases j1:x<j
     ·rw [A1 j j1 (by omega)]
      exact S1.le O r1 (by omega) (by omega) (by omega)
     ·have f1:=k4 (by omega)
      have f2:=S1.le O r1 (show i≤x - 1 by omega) (by omega) (by omega)
      by_cases j2:j=x
      ·subst j2
       rw [A2]
       exact O.tr _ (aJ (by omega)) _ (aJ (show j - 1<l.length by omega)) _ (aJ (by omega)) f2 f1
      ·rw [A3 j (by omega)]; exact S1 _ _ r1 r2 (by omega)
  rw [if_neg (by simp; omega)]
  refine L5 ?_
  intro z hz
  have L8:∃s r:Nat,z=((s:Int),(r:Int))∧((q > (a+b) / 2∧s=(a+b) / 2+q - b∧r=(a+b) / 2)∨(q≤(a+b) / 2∧s=a∧r=q)):=by
   rcases hz with⟨hc,rfl⟩| ⟨hc,rfl⟩
   ·refine⟨(a+b) / 2+q - b,(a+b) / 2,?_,.inl ⟨by simp only [decide_eq_true_eq] at hc; omega,rfl,rfl⟩⟩
    simp only [Yr,and_true]
    simp only [decide_eq_true_eq] at hc
    rw [aA (x:=(((a+b) / 2:Nat):Int)+(q:Int)) (by omega) (by omega),aA (by omega) (by omega)]
    omega
   ·refine⟨a,q,rfl,.inr ⟨?_,rfl,rfl⟩⟩
    simp only [decide_eq_false_iff_not] at hc
    omega
  obtain⟨s,r,rfl,L8⟩:=L8
  clear hz
  dsimp only
  obtain⟨x,k1,k2,k3,k4,k5⟩:=Bu (m:=m) (a:=a) (b:=b) (q:=q) (by omega) hs C m s r (by omega) (by omega) (by omega) (by omega) (by omega)
  rw [k1,Yj]
  dsimp only
  generalize X2:(a+b) / 2=M at *
  obtain⟨E,hE⟩:∃E,E=M+q - x:=⟨_,rfl⟩
  have eE:i64.wrap (i64.wrap ((M:Int)+(q:Int)) - (x:Int))=(E:Int):=by
   rw [aA (x:=(M:Int)+(q:Int)) (by omega) (by omega),aA (by omega) (by omega)]
   omega
  rw [eE]
  rw [←hE] at k4 k5
  have c1:a≤x:=by omega
  have c2:x≤M:=by omega
  have c3:x≤q:=by omega
  have c4:q≤E:=by omega
  have c5:E≤b:=by omega
  have c6:E+x=M+q:=by omega
  have c7:M≤E:=by omega
  have F1:a<x→E<b→0≤c (gt l E) (gt l (x - 1)):=fun _ _=>k4 (by omega)
  have F2:x<q→q<E→c (gt l (E - 1)) (gt l x)<0:=fun _ _=>k5 (by omega)
  refine GJ (fun d=>M8 l d x (q - x) (E - q)) (fun u1 u2=>?_) (fun u=>?_) ?_
  ·simp only [decide_eq_true_eq] at u1 u2
   exact Gu hm (by omega) (by omega) (by omega) hs
  ·simp only [decide_eq_true_eq] at u
   exact GM (by omega)
  intro d5 R
  try dsimp only
  have M5:Mv a b l d5:=L7 R c1 (by omega)
  have l5:=M5.length
  refine GJ (fun d=>Mv a M d5 d∧(Ord c l→Sg c l a q→Sg c l q b→Sg c d a M)) (fun u1 u2=>?_) (fun u=>?_) ?_
  ·simp only [decide_eq_true_eq] at u1 u2
   obtain⟨d,g1,g2,g3⟩:=pD hm f d5 a x M (by omega) (by omega) (by omega) (by omega) (by omega) (C.perm M5.perm)
   refine⟨d,g1,g2,fun O S1 S2=>?_⟩
   obtain⟨v1,v2,v3,v4,v5⟩:=uq c1 c2 c3 c4 c5 c6 h3 R O F1 F2 S1 S2
   exact g3 (O.perm M5.perm) v1 v2
  ·simp only [decide_eq_true_eq] at u
   refine⟨Mv.refl,fun O S1 S2=>?_⟩
   obtain⟨v1,v2,v3,v4,v5⟩:=uq c1 c2 c3 c4 c5 c6 h3 R O F1 F2 S1 S2
   by_cases ua:a=x
   ·rw [ua]; exact v2
   ·rw [show M=x by omega]; exact v1
  rintro d6 ⟨M6,S6⟩
  try dsimp only
  have l6:=M6.length
  have Rw:=M5.trans (M6.wide (Yn _) (by omega))
  have fin:∀d,Mv M b d6 d→(Ord c l→Sg c l a q→Sg c l q b→Sg c d M b)→Mv a b l d∧(Ord c l→Sg c l a q→Sg c l q b→Sg c d a b):=by
   intro d M7 S7
   refine⟨Rw.trans (M7.wide (by omega) (Yn _)),fun O S1 S2 i j r1 r2 r3=>?_⟩
   obtain⟨v1,v2,v3,v4,v5⟩:=uq c1 c2 c3 c4 c5 c6 h3 R O F1 F2 S1 S2
   by_cases hj:j<M
   ·rw [M7.out i (by omega),M7.out j (by omega)]
    exact S6 O S1 S2 _ _ r1 r2 hj
   ·by_cases hi:M≤i
    ·exact S7 O S1 S2 _ _ hi r2 r3
    ·obtain⟨j',y1,y2,y3⟩:=M7.im j (by omega) r3
     obtain⟨i',w1,w2,w3⟩:=M6.im i r1 (by omega)
     rw [M7.out i (by omega),y3,M6.out j' (by omega),w3]
     exact v5 _ _ w1 w2 y1 y2
  refine Ru (fun u1 u2=>?_) (fun u=>?_)
  ·simp only [decide_eq_true_eq] at u1 u2
   obtain⟨d,g1,g2,g3⟩:=pD hm f d6 M E b (by omega) (by omega) (by omega) (by omega) (by omega) (C.perm Rw.perm)
   refine⟨d,g1,fin d g2 fun O S1 S2=>?_⟩
   obtain⟨v1,v2,v3,v4,v5⟩:=uq c1 c2 c3 c4 c5 c6 h3 R O F1 F2 S1 S2
   refine g3 (O.perm Rw.perm) (fun i j y1 y2 y3=>?_) (fun i j y1 y2 y3=>?_)
   ·rw [M6.out i (by omega),M6.out j (by omega)]; exact v3 _ _ y1 y2 y3
   ·rw [M6.out i (by omega),M6.out j (by omega)]; exact v4 _ _ y1 y2 y3
  ·simp only [decide_eq_true_eq] at u
   refine fin d6 Mv.refl fun O S1 S2 i j y1 y2 y3=>?_
   obtain⟨v1,v2,v3,v4,v5⟩:=uq c1 c2 c3 c4 c5 c6 h3 R O F1 F2 S1 S2
   rw [M6.out i (by omega),M6.out j (by omega)]
   by_cases ue:M=E
   ·exact v4 _ _ (by omega) y2 y3
   ·exact v3 _ _ y1 y2 (by omega)
end
end Go.Proofs.YtmekcfdllhphlaaGreatDoor
namespace Go.Proofs.YtmekcfdllhphlaaGreatDoor
open Go Go.R
open Go.IntKind (i64 u64 u8 u32)
def ox:cm:=gI [0,1,2,6,7,8,9,13,30,35,54] [] [2032,1984,1856,2000,1984,1984,2032,1776,1984,1472,2000,1984,1984,1952,928,2032,2032] [] []
def bQ.l0 (m:Nat)(n0:Int)(aM:Int→Int→Option (Int)):Nat→(List Int)→Int→Int→Option ((List Int) × Int × Int)
 | 0,_,_,_=>none
 | k+1,bp,a0,b0=>if (decide (b0≤n0))=true then ((aO.f m bp a0 b0 aM).bind fun x0=>bQ.l0 m n0 aM k x0 b0 (i64.wrap (b0+(20:Int)))) else (some ((bp,a0,b0)))
def bQ.l2 (m:Nat)(n0:Int)(aM:Int→Int→Option (Int))(bb:Int):Nat→(List Int)→Int→Int→Option ((List Int) × Int × Int)
 | 0,_,_,_=>none
 | k+1,jH,a2,b2=>if (decide (b2≤n0))=true then ((aC.f m m jH a2 (i64.wrap (a2+bb)) b2 aM).bind fun x2=>bQ.l2 m n0 aM bb k x2 b2 (i64.wrap (b2+i64.wrap ((2:Int)*bb)))) else (some ((jH,a2,b2)))
def bQ.l1 (m:Nat)(n0:Int)(aM:Int→Int→Option (Int)):Nat→(List Int)→Int→Option ((List Int) × Int)
 | 0,_,_=>none
 | k+1,dw,bb=>if (decide (bb<n0))=true then ((bQ.l2 m n0 aM bb m dw (0:Int) (i64.wrap ((2:Int)*bb))).bind fun bR=>match bR with | (ll,a3,b3)=>if (decide ((i64.wrap (a3+bb))<n0))=true then ((aC.f m m ll a3 (i64.wrap (a3+bb)) n0 aM).bind fun x3=>bQ.l1 m n0 aM k x3 (i64.wrap (bb*(2:Int)))) else (bQ.l1 m n0 aM k ll (i64.wrap (bb*(2:Int))))) else (some ((dw,bb)))
def bQ.f (m:Nat)(ao:List Int)(n0:Int)(aM:Int→Int→Option (Int)):Option ((List Int)):=(bQ.l0 m n0 aM m ao (0:Int) (20:Int)).bind fun bg=>match bg with | (cZ,a1,b1)=>(aO.f m cZ a1 n0 aM).bind fun x1=>(bQ.l1 m n0 aM m x1 (20:Int)).bind fun ik=>match ik with | (pB,Bv)=>some pB
def bQ.fin (L:Mem)(az:Nat)(ao:List Int)(n0:Int)(aM:Int→Int→Option (Int))(r:(List Int))(s:St):Prop:=aH Tryz.prog (s.open ox) Tryz.f108.results.toList=some (.tup [])∧Has s.h ((az,.sl ao.length 1 (aa.l r))::L)
def OD (cf:CallF)(m:Nat):Prop:=∀(ao:List Int) (n0:Int) (aM:Int→Int→Option (Int)) (r:(List Int)),bQ.f m ao n0 aM=some r→∀h L (cE:Nat) (az:Nat),Has h ((az,.sl cE 1 (aa.l ao))::L)→∀(lq:FuncId) (dm:List AV),ay (.fn lq dm) = .fn lq dm→(∀h K,Has h (K++L)→∀(a0:Int) (a1:Int) r,aM a0 a1=some r→cf lq ([.int .i64 a0,.int .i64 a1]++dm) h=some (.int .i64 r,h))→∀xs,xs.map ay=[.rs az 0 cE 1,.int .i64 n0,.fn lq dm]→∃h',cf 108 xs h=some (.tup [],h')∧Has h' ((az,.sl cE 1 (aa.l r))::L)
section
variable {cf:CallF}{m:Nat}
theorem bQ.bP (L:Mem)(az:Nat)(lq:FuncId)(dm:List AV)(ao:List Int)(n0:Int)(aM:Int→Int→Option (Int))  (nr:ay (.fn lq dm) = .fn lq dm)(sb:∀h K,Has h (K++L)→∀(a0:Int) (a1:Int) r,aM a0 a1=some r→cf lq ([.int .i64 a0,.int .i64 a1]++dm) h=some (.int .i64 r,h))(CP:LY cf m):bL Tryz.prog cf ox m (sub [1,1,0,0,0] (codeOf Tryz.f108)) (fun k (σ:(List Int) × Int × Int)=>bQ.l0 m n0 aM k σ.1 σ.2.1 σ.2.2) (fun σ s=>match σ with | (bp,a0,b0)=>∃h0,s=⟨.rs az 0 ao.length 1 :: .int .i64 n0 :: .fn lq dm :: .int .i64 (20:Int) :: .int .i64 a0 :: .int .i64 b0::rV [],[],h0⟩∧Has h0 ((az,.sl ao.length 1 (aa.l bp))::L)) (fun out e s=>(e = .exit 0∧∃bp a0 b0,(bp,a0,b0)=out∧∃r6 ou h0,s=⟨.rs az 0 ao.length 1 :: .int .i64 n0 :: .fn lq dm :: .int .i64 (20:Int) :: .int .i64 a0::r6 :: .any::ou::kK [],[],h0⟩∧Has h0 ((az,.sl ao.length 1 (aa.l bp))::L))):=by
 refine ig (fun _=>rfl) ?_
 rintro k ⟨bp,a0,b0⟩ s out ⟨h0,rfl,o0⟩ H
 have H:bQ.l0 m n0 aM (k+1) bp a0 b0=some out:=H
 refine qq <| qq <| q0 <| qc H (fun c0 H=>?_) (fun c0 H=>?_)
 ·refine qk <| qb 1 <| qq ?_
  obtain⟨x0,e0,H⟩:=aI H
  obtain⟨h1,e1,o1⟩:=CP _ _ _ _ _ e0 h0 _ _ _ (o0) lq dm nr (fun h' K' o'=>sb h' (K'++[]) (by simpa only [Yx,YL,YO] using o')) [.rs az 0 ao.length 1,.int .i64 a0,.int .i64 b0,.fn lq dm] (ak (rfl) (ak (aR (bJ)) (ak (aR (bJ)) (ak (nr) (bn)))))
  exact qr [.a 4 e1] <| qq <| q0 <| q0 <| ⟨(x0,b0,i64.wrap (b0+(20:Int))),⟨h1,by kernel_rfl,o1⟩,H⟩
 ·exact qx 0 <| ⟨rfl,bp,a0,b0,oi H,.int .i64 b0,.bool (decide (b0≤n0)),h0,by kernel_rfl,o0⟩
theorem bQ.pC (L:Mem)(az:Nat)(lq:FuncId)(dm:List AV)(ao:List Int)(n0:Int)(aM:Int→Int→Option (Int))(bb:Int)  (nr:ay (.fn lq dm) = .fn lq dm)(sb:∀h K,Has h (K++L)→∀(a0:Int) (a1:Int) r,aM a0 a1=some r→cf lq ([.int .i64 a0,.int .i64 a1]++dm) h=some (.int .i64 r,h))(iU:vp cf m m):bL Tryz.prog cf ox m (sub [1,1,1,1,0,0,1,0,1,0,0,0] (codeOf Tryz.f108)) (fun k (σ:(List Int) × Int × Int)=>bQ.l2 m n0 aM bb k σ.1 σ.2.1 σ.2.2) (fun σ s=>match σ with | (jH,a2,b2)=>∃h5,s=⟨.rs az 0 ao.length 1 :: .int .i64 n0 :: .fn lq dm :: .int .i64 bb :: .int .i64 a2 :: .int .i64 b2::rV [],[],h5⟩∧Has h5 ((az,.sl ao.length 1 (aa.l jH))::L)) (fun out e s=>(e = .exit 4∧∃jH a2 b2,(jH,a2,b2)=out∧∃r6 Rx h5,s=⟨.rs az 0 ao.length 1 :: .int .i64 n0 :: .fn lq dm :: .int .i64 bb :: .int .i64 a2::r6::kK [Rx,.any],[],h5⟩∧Has h5 ((az,.sl ao.length 1 (aa.l jH))::L))):=by
 refine ig (fun _=>rfl) ?_
 rintro k ⟨jH,a2,b2⟩ s out ⟨h5,rfl,o5⟩ H
 have H:bQ.l2 m n0 aM bb (k+1) jH a2 b2=some out:=H
 refine qq <| qq <| q0 <| qc H (fun c2 H=>?_) (fun c2 H=>?_)
 ·refine qk <| qb 5 <| qq ?_
  obtain⟨x2,e5,H⟩:=aI H
  obtain⟨h6,e6,o6⟩:=iU _ _ _ _ _ _ e5 h5 _ _ _ (o5) lq dm nr (fun h' K' o'=>sb h' (K'++[]) (by simpa only [Yx,YL,YO] using o')) [.rs az 0 ao.length 1,.int .i64 a2,.int .i64 (i64.wrap (a2+bb)),.int .i64 b2,.fn lq dm] (ak (rfl) (ak (aR (bJ)) (ak (aR (bJ)) (ak (aR (bJ)) (ak (nr) (bn))))))
  exact qr [.a 7 e6] <| qq <| q0 <| q0 <| ⟨(x2,b2,i64.wrap (b2+i64.wrap ((2:Int)*bb))),⟨h6,by kernel_rfl,o6⟩,H⟩
 ·exact qx 4 <| ⟨rfl,jH,a2,b2,oi H,.int .i64 b2,.bool (decide (b2≤n0)),h5,by kernel_rfl,o5⟩
theorem bQ.fC (L:Mem)(az:Nat)(lq:FuncId)(dm:List AV)(ao:List Int)(n0:Int)(aM:Int→Int→Option (Int))  (nr:ay (.fn lq dm) = .fn lq dm)(sb:∀h K,Has h (K++L)→∀(a0:Int) (a1:Int) r,aM a0 a1=some r→cf lq ([.int .i64 a0,.int .i64 a1]++dm) h=some (.int .i64 r,h))(iU:vp cf m m):bL Tryz.prog cf ox m (sub [1,1,1,1,0,0] (codeOf Tryz.f108)) (fun k (σ:(List Int) × Int)=>bQ.l1 m n0 aM k σ.1 σ.2) (fun σ s=>match σ with | (dw,bb)=>∃h4,s=⟨.rs az 0 ao.length 1 :: .int .i64 n0 :: .fn lq dm :: .int .i64 bb::E1 [],[],h4⟩∧Has h4 ((az,.sl ao.length 1 (aa.l dw))::L)) (fun out e s=>(e = .exit 2∧∃dw bb,(dw,bb)=out∧∃lP vm Gp Ew LW h4,s=⟨lP::vm::Gp::Ew::oH [LW,.any,.any],[],h4⟩∧Has h4 ((az,.sl ao.length 1 (aa.l dw))::L))):=by
 refine ig (fun _=>rfl) ?_
 rintro k ⟨dw,bb⟩ s out ⟨h4,rfl,o4⟩ H
 have H:bQ.l1 m n0 aM (k+1) dw bb=some out:=H
 refine qq <| qq <| q0 <| qc H (fun c1 H=>?_) (fun c1 H=>?_)
 ·refine qk <| qb 3 <| qq <| q0 <| qq <| qb 4 ?_
  obtain⟨bR,e7,H⟩:=aI H
  refine ql (bQ.pC L az lq dm ao n0 aM bb  nr sb iU (dw,(0:Int),i64.wrap ((2:Int)*bb)) _ _ ⟨h4,by kernel_rfl,o4⟩ e7) ?_
  rintro e s ⟨rfl,ll,a3,b3,rfl,g2,g3,h7,rfl,o7⟩
  try dsimp only at H
  refine qq <| qq <| q0 <| qq <| q0 <| qc H (fun c3 H=>?_) (fun c3 H=>?_)
  ·obtain⟨x3,e8,H⟩:=aI H
   obtain⟨h8,e9,o8⟩:=iU _ _ _ _ _ _ e8 h7 _ _ _ (o7) lq dm nr (fun h' K' o'=>sb h' (K'++[]) (by simpa only [Yx,YL,YO] using o')) [.rs az 0 ao.length 1,.int .i64 a3,.int .i64 (i64.wrap (a3+bb)),.int .i64 n0,.fn lq dm] (ak (rfl) (ak (aR (bJ)) (ak (aR (bJ)) (ak (aR (bJ)) (ak (nr) (bn))))))
   exact qr [.a 5 e9] <| q0 <| ⟨(x3,i64.wrap (bb*(2:Int))),⟨h8,by kernel_rfl,o8⟩,H⟩
  ·exact qk <| q0 <| ⟨(ll,i64.wrap (bb*(2:Int))),⟨h7,by kernel_rfl,o7⟩,H⟩
 ·exact qx 2 <| ⟨rfl,dw,bb,oi H,.rs az 0 ao.length 1,.int .i64 n0,.fn lq dm,.int .i64 bb,.bool (decide (bb<n0)),h4,by kernel_rfl,o4⟩
theorem xT {aU:FuncId→cm}(ha:aU 108=ox)(CP:LY cf m)(iU:vp cf m m)(ao:List Int)(n0:Int)(aM:Int→Int→Option (Int))(h:AHeap)(L:Mem)(az:Nat)(lq:FuncId)(dm:List AV)  (nr:ay (.fn lq dm) = .fn lq dm)(sb:∀h K,Has h (K++L)→∀(a0:Int) (a1:Int) r,aM a0 a1=some r→cf lq ([.int .i64 a0,.int .i64 a1]++dm) h=some (.int .i64 r,h))(o:Has h ((az,.sl ao.length 1 (aa.l ao))::L)){out:(List Int)}(H:bQ.f m ao n0 aM=some out) :
  ∃r h',be Tryz.prog aU cf m 108 [.rs az 0 ao.length 1,.int .i64 n0,.fn lq dm] h=some (r,h')∧r = .tup []∧Has h' ((az,.sl ao.length 1 (aa.l out))::L):=by
 refine aq (fn:=Tryz.f108) ha Tryz.func108 (by kernel_rfl) (by kernel_rfl) ?_
 refine aG (Q:=fun s=>bQ.fin L az ao n0 aM out s) (fun _ _ ⟨h1,h2,h3⟩=>⟨h1,_,h2,rfl,h3⟩) ?_
 have H:_=some out:=H
 unfold bQ.f at H
 show dt _ cf ox m _ ⟨.rs az 0 ao.length 1 :: .int .i64 n0 :: .fn lq dm::sI [],[],h⟩ _
 refine q1 <| qq <| q0 <| qq <| qb 0 ?_
 obtain⟨bg,e2,H⟩:=aI H
 refine ql (bQ.bP L az lq dm ao n0 aM  nr sb CP (ao,(0:Int),(20:Int)) _ _ ⟨h,by kernel_rfl,o⟩ e2) ?_
 rintro e s ⟨rfl,cZ,a1,b1,rfl,g0,g1,h2,rfl,o2⟩
 try dsimp only at H
 refine qq ?_
 obtain⟨x1,e3,H⟩:=aI H
 obtain⟨h3,e4,o3⟩:=CP _ _ _ _ _ e3 h2 _ _ _ (o2) lq dm nr (fun h' K' o'=>sb h' (K'++[]) (by simpa only [Yx,YL,YO] using o')) [.rs az 0 ao.length 1,.int .i64 a1,.int .i64 n0,.fn lq dm] (ak (rfl) (ak (aR (bJ)) (ak (aR (bJ)) (ak (nr) (bn)))))
 refine qr [.a 4 e4] <| qb 2 ?_
 obtain⟨ik,ow,H⟩:=aI H
 refine ql (bQ.fC L az lq dm ao n0 aM  nr sb iU (x1,(20:Int)) _ _ ⟨h3,by kernel_rfl,o3⟩ ow) ?_
 rintro e s ⟨rfl,pB,Bv,rfl,g4,g5,g6,g7,g8,h9,rfl,o9⟩
 try dsimp only at H
 obtain rfl:=oi H
 exact⟨.inr rfl,⟨by kernel_rfl,he o9⟩⟩
end
end Go.Proofs.YtmekcfdllhphlaaGreatDoor
namespace Go.Proofs.YtmekcfdllhphlaaGreatDoor
open Go Go.R
open Go.IntKind (i64 u64 u8 u32)
def CQ:cm:=gI [0,1] [] [3] [] []
def eZ.f (m:Nat)(x0:List Int)(aM:Int→Int→Option (Int)):Option ((List Int)):=(bQ.f m x0 (x0.length:Int) aM).bind fun x1=>some x1
def eZ.fin (L:Mem)(az:Nat)(x0:List Int)(aM:Int→Int→Option (Int))(r:(List Int))(s:St):Prop:=aH Tryz.prog (s.open CQ) Tryz.f97.results.toList=some (.tup [])∧Has s.h ((az,.sl x0.length 1 (aa.l r))::L)
def Uf (cf:CallF)(m:Nat):Prop:=∀(x0:List Int) (aM:Int→Int→Option (Int)) (r:(List Int)),eZ.f m x0 aM=some r→∀h L (ur:Nat) (az:Nat),Has h ((az,.sl ur 1 (aa.l x0))::L)→∀(dC:FuncId) (aL:List AV),ay (.fn dC aL) = .fn dC aL→(∀h K,Has h (K++L)→∀(a0:Int) (a1:Int) r,aM a0 a1=some r→cf dC ([.int .i64 a0,.int .i64 a1]++aL) h=some (.int .i64 r,h))→∀xs,xs.map ay=[.rs az 0 ur 1,.fn dC aL]→∃h',cf 97 xs h=some (.tup [],h')∧Has h' ((az,.sl ur 1 (aa.l r))::L)
section
variable {cf:CallF}{m:Nat}
theorem pE {aU:FuncId→cm}(ha:aU 97=CQ)(OE:OD cf m)(x0:List Int)(aM:Int→Int→Option (Int))(h:AHeap)(L:Mem)(az:Nat)(dC:FuncId)(aL:List AV)  (gV:ay (.fn dC aL) = .fn dC aL)(hU:∀h K,Has h (K++L)→∀(a0:Int) (a1:Int) r,aM a0 a1=some r→cf dC ([.int .i64 a0,.int .i64 a1]++aL) h=some (.int .i64 r,h))(o:Has h ((az,.sl x0.length 1 (aa.l x0))::L)){out:(List Int)}(H:eZ.f m x0 aM=some out) :
  ∃r h',be Tryz.prog aU cf m 97 [.rs az 0 x0.length 1,.fn dC aL] h=some (r,h')∧r = .tup []∧Has h' ((az,.sl x0.length 1 (aa.l out))::L):=by
 refine aq (fn:=Tryz.f97) ha Tryz.func97 (by kernel_rfl) (by kernel_rfl) ?_
 refine aG (Q:=fun s=>eZ.fin L az x0 aM out s) (fun _ _ ⟨h1,h2,h3⟩=>⟨h1,_,h2,rfl,h3⟩) ?_
 have H:_=some out:=H
 unfold eZ.f at H
 show dt _ cf CQ m _ ⟨[.rs az 0 x0.length 1,.fn dC aL],[],h⟩ _
 obtain⟨x1,e0,H⟩:=aI H
 obtain⟨h0,e1,o0⟩:=OE _ _ _ _ e0 h _ _ _ (o) dC aL gV (fun h' K' o'=>hU h' (K'++[]) (by simpa only [Yx,YL,YO] using o')) [.rs az 0 x0.length 1,.int .i64 (x0.length:Int),.fn dC aL] (ak (rfl) (ak (aR (bJ)) (ak (gV) (bn))))
 obtain rfl:=oi H
 exact qr [.a 4 e1] <| ⟨.inr rfl,⟨by kernel_rfl,he o0⟩⟩
end
end Go.Proofs.YtmekcfdllhphlaaGreatDoor
namespace Go.Proofs.YtmekcfdllhphlaaGreatDoor
open Go Go.R
open Go.IntKind (i64 u64 u8 u32)
section
variable {m:Nat}{cmp:Int→Int→Option Int}{c:Int→Int→Int}
def OF (c:Int→Int→Int)(d:List Int)(bs n:Nat):Prop:=∀k i j,k*bs≤i→i<j→j<k*bs+bs→j<n→0≤c (gt d j) (gt d i)
theorem GN (hm:2 ^ 41≤m){n:Nat}{l:List Int}(hn:n=l.length)(hs:l.length<2 ^ 40)(C:Cm cmp c l):∀(f t:Nat) (d:List Int),n - 20*t<f→20*t≤n→Mv 0 (20*t) l d→
  (Ord c l→∀k,k<t→Sg c d (20*k) (20*k+20))→
  ∃d' t' y,bQ.l0 m (n:Int) cmp f d ((20*t:Nat):Int) ((20*t+20:Nat):Int)=some (d',((20*t':Nat):Int),y)∧20*t'≤n∧n<20*t'+20∧Mv 0 (20*t') l d'∧(Ord c l→∀k,k<t'→Sg c d' (20*k) (20*k+20))
 | 0,t,d,hf,_,_,_=>absurd hf (by omega)
 | f+1,t,d,hf,h1,M,S=>by
  have mj:(2:Nat) ^ 40=1099511627776:=by decide
  have pz:(2:Nat) ^ 41=2199023255552:=by decide
  have hl:=M.length
  unfold bQ.l0
  by_cases h:20*t+20≤n
  ·obtain⟨d1,e1,M1,S1⟩:=zE (a:=20*t) (b:=20*t+20) (cmp:=cmp) (c:=c) hm (l:=d) (by omega) (by omega) (by omega) (C.perm M.perm)
   rw [if_pos (by simp only [decide_eq_true_eq]; omega),e1,Yj,aA (x:=((20*t+20:Nat):Int)+20) (by omega) (by omega)]
   have:=GN hm hn hs C f (t+1) d1 (by omega) (by omega) ((M.wide (Yn _) (by omega)).trans (M1.wide (by omega) (by omega))) (fun O k hk i j k1 k2 k3=>by
    by_cases IK:k=t
    ·subst IK; exact S1 (O.perm M.perm) _ _ k1 k2 k3
    ·rw [M1.out i (by omega),M1.out j (by omega)]; exact S O k (by omega) _ _ k1 k2 k3)
   rw [show ((20*(t+1):Nat):Int)=((20*t+20:Nat):Int) by omega,show ((20*(t+1)+20:Nat):Int)=((20*t+20:Nat):Int)+20 by omega] at this
   exact this
  ·exact⟨d,t,_,by rw [if_neg (by simp only [decide_eq_true_eq]; omega)],h1,by omega,M,S⟩
theorem GO (hm:2 ^ 41≤m){n bs:Nat}{l:List Int}(hn:n=l.length)(hs:l.length<2 ^ 40)(hb:0<bs)(PR:bs<n)(C:Cm cmp c l)(B:Ord c l→OF c l bs n):∀(f t:Nat) (d:List Int),n - t*(2*bs)<f→t*(2*bs)≤n→Mv 0 (t*(2*bs)) l d→
  (Ord c l→∀k,k<t→Sg c d (k*(2*bs)) (k*(2*bs)+2*bs))→
  ∃d' t' y,bQ.l2 m (n:Int) cmp (bs:Int) f d ((t*(2*bs):Nat):Int) ((t*(2*bs)+2*bs:Nat):Int)=some (d',((t'*(2*bs):Nat):Int),y)∧t'*(2*bs)≤n∧n<t'*(2*bs)+2*bs∧Mv 0 (t'*(2*bs)) l d'∧(Ord c l→∀k,k<t'→Sg c d' (k*(2*bs)) (k*(2*bs)+2*bs))
 | 0,t,d,hf,_,_,_=>absurd hf (by omega)
 | f+1,t,d,hf,h1,M,S=>by
  have mj:(2:Nat) ^ 40=1099511627776:=by decide
  have pz:(2:Nat) ^ 41=2199023255552:=by decide
  have hl:=M.length
  unfold bQ.l2
  have ht:(t+1)*(2*bs)=t*(2*bs)+2*bs:=Nat.succ_mul _ _
  have q1:(2*t)*bs=t*(2*bs):=by rw [Nat.mul_assoc,Nat.mul_left_comm]
  have q2:(2*t+1)*bs=t*(2*bs)+bs:=by rw [Nat.succ_mul,q1]
  by_cases h:t*(2*bs)+2*bs≤n
  ·have S0:Ord c l→Sg c d (t*(2*bs)) (t*(2*bs)+bs):=fun O i j k1 k2 k3=>by
    rw [M.out i (by omega),M.out j (by omega)]; exact B O (2*t) i j (by omega) k2 (by omega) (by omega)
   have Wr:Ord c l→Sg c d (t*(2*bs)+bs) (t*(2*bs)+2*bs):=fun O i j k1 k2 k3=>by
    rw [M.out i (by omega),M.out j (by omega)]; exact B O (2*t+1) i j (by omega) k2 (by omega) (by omega)
   have hk:∀k,k<t→k*(2*bs)+2*bs≤t*(2*bs):=fun k hk=>by
    rw [←Nat.succ_mul]; exact Zb _ hk
   generalize hA:t*(2*bs)=A at *
   obtain⟨d1,e1,M1,S1⟩:=pD (cmp:=cmp) (c:=c) hm m d A (A+bs) (A+2*bs) (by omega) (by omega) (by omega) (by omega) (by omega) (C.perm M.perm)
   have e0:i64.wrap ((A:Int)+(bs:Int))=((A+bs:Nat):Int):=by rw [aA (by omega) (by omega)]; omega
   have e2:i64.wrap ((2:Int)*(bs:Int))=((2*bs:Nat):Int):=by rw [aA (by omega) (by omega)]; omega
   have e3:i64.wrap (((A+2*bs:Nat):Int)+((2*bs:Nat):Int))=((A+2*bs+2*bs:Nat):Int):=by rw [aA (by omega) (by omega)]; omega
   rw [if_pos (by simp only [decide_eq_true_eq]; omega),e0,e1,Yj,e2,e3]
   have:=GO hm hn hs hb PR C B f (t+1) d1 (by omega) (by omega) (by rw [ht]; exact (M.wide (Yn _) (by omega)).trans (M1.wide (by omega) (by omega))) (fun O k qv i j k1 k2 k3=>by
    by_cases IK:k=t
    ·subst IK; rw [hA] at k1 k3; exact S1 (O.perm M.perm) (S0 O) (Wr O) _ _ k1 k2 k3
    ·have:=hk k (by omega)
     rw [M1.out i (by omega),M1.out j (by omega)]; exact S O k (by omega) _ _ k1 k2 k3)
   rw [ht] at this
   exact this
  ·exact⟨d,t,_,by rw [if_neg (by simp only [decide_eq_true_eq]; omega)],h1,by omega,M,S⟩
theorem Bw (hm:2 ^ 41≤m){n:Nat}:∀(f bs:Nat) (l:List Int),n=l.length→l.length<2 ^ 40→Cm cmp c l→n - bs<f→0<bs→bs<2 ^ 42→(Ord c l→OF c l bs n)→
  ∃d y,bQ.l1 m (n:Int) cmp f l (bs:Int)=some (d,y)∧d.Perm l∧(Ord c l→Sg c d 0 n)
 | 0,bs,l,_,_,_,hf,_,_,_=>absurd hf (by omega)
 | f+1,bs,l,hn,hs,C,hf,hb,hb2,B=>by
  have mj:(2:Nat) ^ 40=1099511627776:=by decide
  have pz:(2:Nat) ^ 41=2199023255552:=by decide
  have L6:(2:Nat) ^ 42=4398046511104:=by decide
  unfold bQ.l1
  by_cases h:bs<n
  ·have e2:i64.wrap ((2:Int)*(bs:Int))=((2*bs:Nat):Int):=by rw [aA (by omega) (by omega)]; omega
   have e3:i64.wrap ((bs:Int)*(2:Int))=((2*bs:Nat):Int):=by rw [aA (by omega) (by omega)]; omega
   obtain⟨d1,t,y,k1,k2,k3,M1,S1⟩:=GO (cmp:=cmp) (c:=c) hm hn hs hb h C B m 0 l (by omega) (by omega) Mv.refl (fun O k hk=>absurd hk (by omega))
   have l1:=M1.length
   simp only [Nat.zero_mul,YG] at k1
   have k1:bQ.l2 m (n:Int) cmp (bs:Int) m l (0:Int) ((2*bs:Nat):Int)=_:=k1
   rw [if_pos (by simp only [decide_eq_true_eq]; omega),e2,k1,Yj]
   dsimp only
   rw [e3]
   have q1:(2*t)*bs=t*(2*bs):=by rw [Nat.mul_assoc,Nat.mul_left_comm]
   have q2:(2*t+1)*bs=t*(2*bs)+bs:=by rw [Nat.succ_mul,q1]
   have hk:∀k,k<t→k*(2*bs)+2*bs≤t*(2*bs):=fun k hk=>by
    rw [←Nat.succ_mul]; exact Zb _ hk
   have qv:∀k,t<k→t*(2*bs)+2*bs≤k*(2*bs):=fun k hk=>by
    rw [←Nat.succ_mul]; exact Zb _ hk
   have e0:i64.wrap (((t*(2*bs):Nat):Int)+(bs:Int))=((t*(2*bs)+bs:Nat):Int):=by rw [aA (by omega) (by omega)]; omega
   rw [e0]
   by_cases h2:t*(2*bs)+bs<n
   ·obtain⟨d2,e4,M2,S2⟩:=pD (cmp:=cmp) (c:=c) hm m d1 (t*(2*bs)) (t*(2*bs)+bs) n (by omega) (by omega) (by omega) (by omega) (by omega) (C.perm M1.perm)
    rw [if_pos (by simp only [decide_eq_true_eq]; omega),e4,Yj]
    have P2:=M2.perm.trans M1.perm
    obtain⟨d,y,g1,g2,g3⟩:=Bw (n:=n) hm f (2*bs) d2 (by have:=P2.length_eq; omega) (by have:=P2.length_eq; omega) (C.perm P2) (by omega) (by omega) (by omega) (fun O k i j w1 w2 w3 w4=>by
     have O:=O.perm P2.symm
     by_cases u1:k<t
     ·have:=hk k u1
      rw [M2.out i (by omega),M2.out j (by omega)]; exact S1 O k u1 _ _ w1 w2 w3
     ·by_cases u2:k=t
      ·subst u2
       refine S2 (O.perm M1.perm) (fun i j x1 x2 x3=>?_) (fun i j x1 x2 x3=>?_) _ _ w1 w2 w4
       ·rw [M1.out i (by omega),M1.out j (by omega)]; exact B O (2*k) i j (by omega) x2 (by omega) (by omega)
       ·rw [M1.out i (by omega),M1.out j (by omega)]; exact B O (2*k+1) i j (by omega) x2 (by omega) (by omega)
      ·have:=qv k (by omega); omega)
    exact⟨d,y,g1,g2.trans P2,fun O=>g3 (O.perm P2)⟩
   ·rw [if_neg (by simp only [decide_eq_true_eq]; omega)]
    have P2:=M1.perm
    obtain⟨d,y,g1,g2,g3⟩:=Bw (n:=n) hm f (2*bs) d1 (by have:=P2.length_eq; omega) (by have:=P2.length_eq; omega) (C.perm P2) (by omega) (by omega) (by omega) (fun O k i j w1 w2 w3 w4=>by
     have O:=O.perm P2.symm
     by_cases u1:k<t
     ·exact S1 O k u1 _ _ w1 w2 w3
     ·by_cases u2:k=t
      ·subst u2
       rw [M1.out i (by omega),M1.out j (by omega)]; exact B O (2*k) i j (by omega) w2 (by omega) (by omega)
      ·have:=qv k (by omega); omega)
    exact⟨d,y,g1,g2.trans P2,fun O=>g3 (O.perm P2)⟩
  ·refine⟨l,bs,by rw [if_neg (by simp only [decide_eq_true_eq]; omega)],List.Perm.refl _,fun O i j w1 w2 w3=>B O 0 i j (by omega) w2 (by omega) w3⟩
theorem Ey (hm:2 ^ 41≤m){l:List Int}(hs:l.length<2 ^ 40)(C:Cm cmp c l):∃d,eZ.f m l cmp=some d∧d.Perm l∧(Ord c l→Sg c d 0 l.length):=by
 have mj:(2:Nat) ^ 40=1099511627776:=by decide
 have pz:(2:Nat) ^ 41=2199023255552:=by decide
 have L6:(2:Nat) ^ 42=4398046511104:=by decide
 unfold eZ.f bQ.f
 obtain⟨d1,t,y,k1,k2,k3,M1,S1⟩:=GN (cmp:=cmp) (c:=c) hm rfl hs C m 0 l (by omega) (by omega) Mv.refl (fun O k hk=>absurd hk (by omega))
 have k1:bQ.l0 m (l.length:Int) cmp m l (0:Int) (20:Int)=_:=k1
 have l1:=M1.length
 rw [k1,Yj]
 dsimp only
 obtain⟨d2,e2,M2,S2⟩:=zE (a:=20*t) (b:=l.length) (cmp:=cmp) (c:=c) hm (l:=d1) (by omega) (by omega) (by omega) (C.perm M1.perm)
 rw [e2,Yj]
 have P2:=M2.perm.trans M1.perm
 obtain⟨d,y,g1,g2,g3⟩:=Bw (cmp:=cmp) (c:=c) (n:=l.length) hm m 20 d2 P2.length_eq.symm (by rw [P2.length_eq]; exact hs) (C.perm P2) (by omega) (by omega) (by omega) (fun O k i j w1 w2 w3 w4=>by
  have O:=O.perm P2.symm
  by_cases u1:k<t
  ·rw [M2.out i (by omega),M2.out j (by omega)]; exact S1 O k u1 _ _ (by omega) w2 (by omega)
  ·exact S2 (O.perm M1.perm) _ _ (by omega) w2 (by omega))
 have g1:bQ.l1 m (l.length:Int) cmp m d2 (20:Int)=_:=g1
 rw [g1]
 exact⟨d,rfl,g2.trans P2,fun O=>g3 (O.perm P2)⟩
end
end Go.Proofs.YtmekcfdllhphlaaGreatDoor
namespace Go.Proofs.YtmekcfdllhphlaaGreatDoor
open Go Go.R
open Go.IntKind (i64 u64 u8 u32)
def CR:cm:=gI [0,1,2,3] [2] [9,7] [] []
def fV.f (m:Nat)(n0:ab)(x0:an):Option (Bool):=(iF.f m n0 (x0.nodes.length:Int)).bind fun x1=>some (!x1)
def fV.fin (h:AHeap)(r:Bool)(s:St):Prop:=aH Tryz.prog (s.open CR) Tryz.f75.results.toList=some (.bool r)∧s.h=h
def Ug (cf:CallF)(m:Nat):Prop:=∀(n0:ab) (x0:an) (r:Bool),fV.f m n0 x0=some r→∀h L (eM bV:Nat),Has h L→L[eM]? = some (bV,.ob [ah.fz x0.nodes,.int .i64 x0.root])→cf 75 [.agg [.int .i64 n0.kind,.int .i64 n0.int,.str n0.label,aa.fz n0.args],.ptr bV 0] h=some (.bool r,h)
section
variable {cf:CallF}{m:Nat}
theorem pF {aU:FuncId→cm}(ha:aU 75=CR)(Ry:Ua cf m)(n0:ab)(x0:an)(h:AHeap)(L:Mem)  {eM bV:Nat}(gj:L[eM]? = some (bV,.ob [ah.fz x0.nodes,.int .i64 x0.root]))(o:Has h (L)){out:Bool}(H:fV.f m n0 x0=some out) :
  ∃r h',be Tryz.prog aU cf m 75 [.agg [.int .i64 n0.kind,.int .i64 n0.int,.str n0.label,aa.fz n0.args],.ptr bV 0] h=some (r,h')∧r=(.bool out)∧h'=h:=by
 refine aq (fn:=Tryz.f75) ha Tryz.func75 (by kernel_rfl) (by kernel_rfl) ?_
 refine aG (Q:=fun s=>fV.fin h out s) (fun _ _ ⟨h1,h2,h3⟩=>⟨h1,_,h2,rfl,h3⟩) ?_
 have H:_=some out:=H
 unfold fV.f at H
 show dt _ cf CR m _ ⟨[.agg [.int .i64 n0.kind,.int .i64 n0.int,.str n0.label,aa.fz n0.args],.ptr bV 0,.any,.any],[none],h⟩ _
 refine q1 <| qq ?_
 obtain⟨x1,e0,H⟩:=aI H
 obtain rfl:=oi H
 exact qr [.v 2 (show bo Tryz.prog h 42 (.ptr bV 0)=some (ah.fz x0.nodes) from cn (q:=eM) (cs:=[ah.fz x0.nodes,.int .i64 x0.root]) o gj (by kernel_rfl)),.a 4 (Ry _ _ _ e0 h _ (ia (ae (dN (ae (aN) (ae (aN) (ae (b7) (ae (cW (E:=aa)) (aB)))))) (ae (aN) (aB)))))] <| qt <| ⟨.inl rfl,⟨by kernel_rfl,by kernel_rfl⟩⟩
end
end Go.Proofs.YtmekcfdllhphlaaGreatDoor
namespace Go.Proofs.YtmekcfdllhphlaaGreatDoor
open Go Go.R
open Go.IntKind (i64 u64 u8 u32)
def CS:cm:=gI [0,1,2] [] [5,3] [] []
def gN.f (m:Nat)(t0:an):Option (Bool):=if (decide ((t0.nodes.length:Int)≥(1:Int)))=true then (if (decide ((t0.nodes.length:Int)≤(8000:Int)))=true then (if (decide (t0.root≥(0:Int)))=true then (if (decide (t0.root<(t0.nodes.length:Int)))=true then ((fS.f m t0.nodes (fun y0=>fV.f m y0 t0)).bind fun x0=>some (!x0)) else (some false)) else (some false)) else (some false)) else (some false)
def gN.fin (L:Mem)(r:Bool)(s:St):Prop:=∃av,aH Tryz.prog (s.open CS) Tryz.f52.results.toList=some av∧gu s.h av (.bool r)
def Uh (cf:CallF)(m:Nat):Prop:=∀(t0:an) (r:Bool),gN.f m t0=some r→∀h xs,eY fq h xs [.agg [ah.fz t0.nodes,.int .i64 t0.root]]→cf 52 xs h=some (.bool r,h)
section
variable {cf:CallF}{m:Nat}
theorem sc {aU:FuncId→cm}(ha:aU 52=CS)(L9:Ro cf m)(Rz:Ug cf m)(t0:an)(h:AHeap)(L:Mem)  (o:Has h (L)){out:Bool}(H:gN.f m t0=some out) :
  ∃r h',be Tryz.prog aU cf m 52 [.agg [ah.fz t0.nodes,.int .i64 t0.root]] h=some (r,h')∧gu h' r (.bool out):=by
 refine aq (fn:=Tryz.f52) ha Tryz.func52 (by kernel_rfl) (by kernel_rfl) ?_
 refine aG (Q:=fun s=>gN.fin L out s) (fun _ _ h=>h) ?_
 have H:_=some out:=H
 unfold gN.f at H
 show dt _ cf CS m _ ⟨[.agg [ah.fz t0.nodes,.int .i64 t0.root],.any,.any],[],h⟩ _
 refine qq ?_
 obtain⟨az,h0,e0,o0⟩:=kI (cs:=[ah.fz t0.nodes,.int .i64 t0.root]) o (by kernel_rfl)
 refine qr [.a 0 e0] <| qq ?_
 rcases dQ H with⟨c0,H⟩| ⟨c0,H⟩
 ·rcases dQ H with⟨c1,H⟩| ⟨c1,H⟩
  ·rcases dQ H with⟨c2,H⟩| ⟨c2,H⟩
   ·rcases dQ H with⟨c3,H⟩| ⟨c3,H⟩
    ·obtain⟨x0,e1,H⟩:=aI H
     refine qr [.v 1 (show bo Tryz.prog h0 42 (.ptr az 0)=some (ah.fz t0.nodes) from cn (q:=0) (cs:=[ah.fz t0.nodes,.int .i64 t0.root]) o0 rfl (by kernel_rfl)),.b 4 c0,.v 6 (show bo Tryz.prog h0 42 (.ptr az 0)=some (ah.fz t0.nodes) from cn (q:=0) (cs:=[ah.fz t0.nodes,.int .i64 t0.root]) o0 rfl (by kernel_rfl)),.b 10 c1,.v 12 (show bo Tryz.prog h0 3 (.ptr az 1)=some (.int .i64 t0.root) from cn (q:=0) (cs:=[ah.fz t0.nodes,.int .i64 t0.root]) o0 rfl (by kernel_rfl)),.b 15 c2,.v 17 (show bo Tryz.prog h0 3 (.ptr az 1)=some (.int .i64 t0.root) from cn (q:=0) (cs:=[ah.fz t0.nodes,.int .i64 t0.root]) o0 rfl (by kernel_rfl)),.v 19 (show bo Tryz.prog h0 42 (.ptr az 0)=some (ah.fz t0.nodes) from cn (q:=0) (cs:=[ah.fz t0.nodes,.int .i64 t0.root]) o0 rfl (by kernel_rfl)),.b 23 c3,.v 25 (show bo Tryz.prog h0 42 (.ptr az 0)=some (ah.fz t0.nodes) from cn (q:=0) (cs:=[ah.fz t0.nodes,.int .i64 t0.root]) o0 rfl (by kernel_rfl)),.a 27 (L9 _ _ _ e1 h0 (Has.pos o0) 75 [.ptr az 0] rfl (fun y0 r hr=>Rz y0 _ r hr h0 _ 0 _ o0 rfl) _ (ak (aR (iE (E:=ah))) (ak ((rfl:ay (.fn 75 [.ptr az 0])=_)) (bn))))] ?_
     have o1:Has h0 (L):=Has.del o0 0
     obtain rfl:=oi H
     exact qt <| ⟨.inl rfl,cp (.bool (!x0)) h0 (ck (au))⟩
    ·refine qr [.v 1 (show bo Tryz.prog h0 42 (.ptr az 0)=some (ah.fz t0.nodes) from cn (q:=0) (cs:=[ah.fz t0.nodes,.int .i64 t0.root]) o0 rfl (by kernel_rfl)),.b 4 c0,.v 6 (show bo Tryz.prog h0 42 (.ptr az 0)=some (ah.fz t0.nodes) from cn (q:=0) (cs:=[ah.fz t0.nodes,.int .i64 t0.root]) o0 rfl (by kernel_rfl)),.b 10 c1,.v 12 (show bo Tryz.prog h0 3 (.ptr az 1)=some (.int .i64 t0.root) from cn (q:=0) (cs:=[ah.fz t0.nodes,.int .i64 t0.root]) o0 rfl (by kernel_rfl)),.b 15 c2,.v 17 (show bo Tryz.prog h0 3 (.ptr az 1)=some (.int .i64 t0.root) from cn (q:=0) (cs:=[ah.fz t0.nodes,.int .i64 t0.root]) o0 rfl (by kernel_rfl)),.v 19 (show bo Tryz.prog h0 42 (.ptr az 0)=some (ah.fz t0.nodes) from cn (q:=0) (cs:=[ah.fz t0.nodes,.int .i64 t0.root]) o0 rfl (by kernel_rfl)),.b 23 c3] ?_
     have o2:Has h0 (L):=Has.del o0 0
     obtain rfl:=oi H
     exact qt <| ⟨.inl rfl,cp (.bool false) h0 (ck (au))⟩
   ·refine qr [.v 1 (show bo Tryz.prog h0 42 (.ptr az 0)=some (ah.fz t0.nodes) from cn (q:=0) (cs:=[ah.fz t0.nodes,.int .i64 t0.root]) o0 rfl (by kernel_rfl)),.b 4 c0,.v 6 (show bo Tryz.prog h0 42 (.ptr az 0)=some (ah.fz t0.nodes) from cn (q:=0) (cs:=[ah.fz t0.nodes,.int .i64 t0.root]) o0 rfl (by kernel_rfl)),.b 10 c1,.v 12 (show bo Tryz.prog h0 3 (.ptr az 1)=some (.int .i64 t0.root) from cn (q:=0) (cs:=[ah.fz t0.nodes,.int .i64 t0.root]) o0 rfl (by kernel_rfl)),.b 15 c2] ?_
    have o3:Has h0 (L):=Has.del o0 0
    obtain rfl:=oi H
    exact qt <| ⟨.inl rfl,cp (.bool false) h0 (ck (au))⟩
  ·refine qr [.v 1 (show bo Tryz.prog h0 42 (.ptr az 0)=some (ah.fz t0.nodes) from cn (q:=0) (cs:=[ah.fz t0.nodes,.int .i64 t0.root]) o0 rfl (by kernel_rfl)),.b 4 c0,.v 6 (show bo Tryz.prog h0 42 (.ptr az 0)=some (ah.fz t0.nodes) from cn (q:=0) (cs:=[ah.fz t0.nodes,.int .i64 t0.root]) o0 rfl (by kernel_rfl)),.b 10 c1] ?_
   have o4:Has h0 (L):=Has.del o0 0
   obtain rfl:=oi H
   exact qt <| ⟨.inl rfl,cp (.bool false) h0 (ck (au))⟩
 ·refine qr [.v 1 (show bo Tryz.prog h0 42 (.ptr az 0)=some (ah.fz t0.nodes) from cn (q:=0) (cs:=[ah.fz t0.nodes,.int .i64 t0.root]) o0 rfl (by kernel_rfl)),.b 4 c0] ?_
  have o5:Has h0 (L):=Has.del o0 0
  obtain rfl:=oi H
  exact qt <| ⟨.inl rfl,cp (.bool false) h0 (ck (au))⟩
end
end Go.Proofs.YtmekcfdllhphlaaGreatDoor
namespace Go.Proofs.YtmekcfdllhphlaaGreatDoor
open Go Go.R
open Go.IntKind (i64 u64 u8 u32)
def CT:cm:=gI [0,2] [] [2,1] [] []
def er.f (m:Nat)(x0:Int):Option (Bool):=some (!(x0==x0))
def er.fin (L:Mem)(r:Bool)(s:St):Prop:=∃av,aH Tryz.prog (s.open CT) Tryz.f92.results.toList=some av∧gu s.h av (.bool r)
def Ui (cf:CallF)(m:Nat):Prop:=∀(x0:Int) (r:Bool),er.f m x0=some r→∀h xs,eY fq h xs [.int .i64 x0]→cf 92 xs h=some (.bool r,h)
section
variable {cf:CallF}{m:Nat}
theorem oy {aU:FuncId→cm}(ha:aU 92=CT)  (x0:Int)(h:AHeap)(L:Mem)  (o:Has h (L)){out:Bool}(H:er.f m x0=some out) :
  ∃r h',be Tryz.prog aU cf m 92 [.int .i64 x0] h=some (r,h')∧gu h' r (.bool out):=by
 refine aq (fn:=Tryz.f92) ha Tryz.func92 (by kernel_rfl) (by kernel_rfl) ?_
 refine aG (Q:=fun s=>er.fin L out s) (fun _ _ h=>h) ?_
 have H:_=some out:=H
 unfold er.f at H
 show dt _ cf CT m _ ⟨[.int .i64 x0,.any],[],h⟩ _
 obtain rfl:=oi H
 exact q1 <| qq <| q0 <| qt <| ⟨.inl rfl,cp (.bool (!(x0==x0))) h (ck (au))⟩
end
end Go.Proofs.YtmekcfdllhphlaaGreatDoor
namespace Go.Proofs.YtmekcfdllhphlaaGreatDoor
open Go Go.R
open Go.IntKind (i64 u64 u8 u32)
def xU:cm:=gI [0,1,4,5,6,11,12,13,16,19] [] [1020,1012,996,972,959,1019,1019,892,1019,764,1019,511,1019,1019] [] []
def cQ.f (m:Nat)(x0:Int)(y0:Int):Option (Int):=(er.f m x0).bind fun x1=>(er.f m y0).bind fun x2=>if x1=true then (if x2=true then (some (0:Int)) else (some (-1:Int))) else (if x2=true then (some (1:Int)) else (if (decide (x0<y0))=true then (some (-1:Int)) else (if (decide (x0 > y0))=true then (some (1:Int)) else (some (0:Int)))))
def cQ.fin (L:Mem)(r:Int)(s:St):Prop:=∃av,aH Tryz.prog (s.open xU) Tryz.f109.results.toList=some av∧gu s.h av (.int .i64 r)
def OG (cf:CallF)(m:Nat):Prop:=∀(x0:Int) (y0:Int) (r:Int),cQ.f m x0 y0=some r→∀h xs,eY fq h xs [.int .i64 x0,.int .i64 y0]→cf 109 xs h=some (.int .i64 r,h)
section
variable {cf:CallF}{m:Nat}
theorem mO {aU:FuncId→cm}(ha:aU 109=xU)(OH:Ui cf m)(x0:Int)(y0:Int)(h:AHeap)(L:Mem)  (o:Has h (L)){out:Int}(H:cQ.f m x0 y0=some out) :
  ∃r h',be Tryz.prog aU cf m 109 [.int .i64 x0,.int .i64 y0] h=some (r,h')∧gu h' r (.int .i64 out):=by
 refine aq (fn:=Tryz.f109) ha Tryz.func109 (by kernel_rfl) (by kernel_rfl) ?_
 refine aG (Q:=fun s=>cQ.fin L out s) (fun _ _ h=>h) ?_
 have H:_=some out:=H
 unfold cQ.f at H
 show dt _ cf xU m _ ⟨.int .i64 x0 :: .int .i64 y0::sI [],[],h⟩ _
 refine q1 <| qq ?_
 obtain⟨x1,e0,H⟩:=aI H
 refine qr [.a 1 (OH _ _ e0 h _ (ia (ae (aN) (aB))))] <| qq ?_
 obtain⟨x2,e1,H⟩:=aI H
 refine qr [.a 1 (OH _ _ e1 h _ (ia (ae (aN) (aB))))] <| qq <| qq <| q0 <| qc H (fun c0 H=>?_) (fun c0 H=>?_)
 ·refine qq <| qq <| q0 <| qc H (fun c1 H=>?_) (fun c1 H=>?_)
  ·obtain rfl:=oi H
   exact q1 <| qt <| ⟨.inl rfl,cp (.int .i64 (0:Int)) h (ck (eS))⟩
  ·obtain rfl:=oi H
   exact qk <| qq <| q0 <| qt <| ⟨.inl rfl,cp (.int .i64 (-1:Int)) h (ck (eS))⟩
 ·refine qk <| qq <| qq <| q0 <| qc H (fun c2 H=>?_) (fun c2 H=>?_)
  ·obtain rfl:=oi H
   exact q1 <| qt <| ⟨.inl rfl,cp (.int .i64 (1:Int)) h (ck (eS))⟩
  ·refine qk <| qq <| qq <| q0 <| qc H (fun c3 H=>?_) (fun c3 H=>?_)
   ·obtain rfl:=oi H
    exact q1 <| qt <| ⟨.inl rfl,cp (.int .i64 (-1:Int)) h (ck (eS))⟩
   ·refine qk <| qq <| qq <| q0 <| qc H (fun c4 H=>?_) (fun c4 H=>?_)
    ·obtain rfl:=oi H
     exact q1 <| qt <| ⟨.inl rfl,cp (.int .i64 (1:Int)) h (ck (eS))⟩
    ·obtain rfl:=oi H
     exact qk <| qq <| q0 <| qt <| ⟨.inl rfl,cp (.int .i64 (0:Int)) h (ck (eS))⟩
end
end Go.Proofs.YtmekcfdllhphlaaGreatDoor
namespace Go.Proofs.YtmekcfdllhphlaaGreatDoor
open Go Go.R
open Go.IntKind (i64 u64 u8 u32)
def uu:cm:=gI [0,2,3,5,6,7,8,9,14] [] [510,506,395,267,387,131,509,395,509] [] []
def cg.l0 (m:Nat)(gk:List Int):Nat→Int→Option (Sum Int (Int))
 | 0,_=>none
 | k+1,x0=>if (decide (x0<(gk.length:Int)))=true then ((ix gk x0).bind fun v0=>if (!(v0==(0:Int)))=true then (some (.inl v0)) else (cg.l0 m gk k (i64.wrap (x0+(1:Int))))) else (some (.inr x0))
def cg.f (m:Nat)(gk:List Int):Option (Int):=(cg.l0 m gk m (0:Int)).bind fun bg=>match bg with | .inl r0=>some r0 | .inr x1=>some (0:Int)
def cg.fin (L:Mem)(r:Int)(s:St):Prop:=∃av,aH Tryz.prog (s.open uu) Tryz.f110.results.toList=some av∧gu s.h av (.int .i64 r)
def OI (cf:CallF)(m:Nat):Prop:=∀(gk:List Int) (r:Int),cg.f m gk=some r→∀h xs,eY fq h xs [aa.fz gk]→cf 110 xs h=some (.int .i64 r,h)
section
variable {cf:CallF}{m:Nat}
theorem cg.bP (L:Mem)(gk:List Int)   : bL Tryz.prog cf uu m (sub [1,1,0,1,0,0] (codeOf Tryz.f110)) (fun k (σ:Int)=>cg.l0 m gk k σ) (fun σ s=>match σ with | x0=>∃h0,s=⟨[.any,.any,.int .i64 (0:Int),.any,aa.fz gk,.int .i64 (gk.length:Int),.int .i64 x0,.any,.any],[],h0⟩∧Has h0 (L)) (fun out e s=>(e = .exit 0∧∃x0,.inr x0=out∧∃Ew xL r6 ud h0,s=⟨[.any,.any,.int .i64 (0:Int),.any,Ew,xL,r6,ud,.any],[],h0⟩∧Has h0 (L))∨(e = .ret∧∃r,.inl r=out∧cg.fin L r s)):=by
 refine ig (fun _=>rfl) ?_
 rintro k x0 s out ⟨h0,rfl,o0⟩ H
 have H:cg.l0 m gk (k+1) x0=some out:=H
 refine q1 <| qq <| qc H (fun c0 H=>?_) (fun c0 H=>?_)
 ·refine qk <| qq <| qb 1 <| qq ?_
  obtain⟨v0,e0,H⟩:=aI H
  refine qr [.v 0 (bI (k:=.i64) (E:=aa) (l:=gk) dJ e0),.v 1 (dv  (E:=aa) (l:=gk) h0 A3 e0 rfl)] <| qq <| q0 <| qc H (fun c1 H=>?_) (fun c1 H=>?_)
  ·exact q1 <| qt <| Zx (⟨rfl,_,oi H,cp (.int .i64 v0) h0 (ck (eS))⟩)
  ·exact qk <| q0 <| ⟨i64.wrap (x0+(1:Int)),⟨h0,by kernel_rfl,o0⟩,H⟩
 ·exact qx 0 <| Or.inl (⟨rfl,x0,oi H,aa.fz gk,.int .i64 (gk.length:Int),.int .i64 x0,.bool (decide (x0<(gk.length:Int))),h0,by kernel_rfl,o0⟩)
theorem sd {aU:FuncId→cm}(ha:aU 110=uu)  (gk:List Int)(h:AHeap)(L:Mem)  (o:Has h (L)){out:Int}(H:cg.f m gk=some out) :
  ∃r h',be Tryz.prog aU cf m 110 [aa.fz gk] h=some (r,h')∧gu h' r (.int .i64 out):=by
 refine aq (fn:=Tryz.f110) ha Tryz.func110 (by kernel_rfl) (by kernel_rfl) ?_
 refine aG (Q:=fun s=>cg.fin L out s) (fun _ _ h=>h) ?_
 have H:_=some out:=H
 unfold cg.f at H
 show dt _ cf uu m _ ⟨aa.fz gk::sI [],[],h⟩ _
 refine q1 <| qq <| q0 <| qq <| qq <| q0 <| qb 0 ?_
 obtain⟨bg,e1,H⟩:=aI H
 refine ql (cg.bP L gk   (0:Int) _ _ ⟨h,by kernel_rfl,o⟩ e1) ?_
 rintro e s (⟨rfl,x1,rfl,g0,g1,g2,g3,h1,rfl,o1⟩| ⟨rfl,r0,rfl,ov⟩)
 ·try dsimp only at H
  obtain rfl:=oi H
  exact q1 <| qt <| ⟨.inl rfl,cp (.int .i64 (0:Int)) h1 (ck (eS))⟩
 ·try dsimp only at H
  obtain rfl:=oi H
  exact⟨.inl rfl,ov⟩
end
end Go.Proofs.YtmekcfdllhphlaaGreatDoor
namespace Go.Proofs.YtmekcfdllhphlaaGreatDoor
open Go Go.R
open Go.IntKind (i64 u64 u8 u32)
def xV:cm:=gI [0,2] [] [2,1] [] []
def dp.f (m:Nat)(x0:ByteArray):Option (Bool):=some (!(x0.data.toList==x0.data.toList))
def dp.fin (L:Mem)(r:Bool)(s:St):Prop:=∃av,aH Tryz.prog (s.open xV) Tryz.f117.results.toList=some av∧gu s.h av (.bool r)
def OJ (cf:CallF)(m:Nat):Prop:=∀(x0:ByteArray) (r:Bool),dp.f m x0=some r→∀h xs,eY fq h xs [.str x0]→cf 117 xs h=some (.bool r,h)
section
variable {cf:CallF}{m:Nat}
theorem mh {aU:FuncId→cm}(ha:aU 117=xV)  (x0:ByteArray)(h:AHeap)(L:Mem)  (o:Has h (L)){out:Bool}(H:dp.f m x0=some out) :
  ∃r h',be Tryz.prog aU cf m 117 [.str x0] h=some (r,h')∧gu h' r (.bool out):=by
 refine aq (fn:=Tryz.f117) ha Tryz.func117 (by kernel_rfl) (by kernel_rfl) ?_
 refine aG (Q:=fun s=>dp.fin L out s) (fun _ _ h=>h) ?_
 have H:_=some out:=H
 unfold dp.f at H
 show dt _ cf xV m _ ⟨[.str x0,.any],[],h⟩ _
 obtain rfl:=oi H
 exact q1 <| qq <| q0 <| qt <| ⟨.inl rfl,cp (.bool (!(x0.data.toList==x0.data.toList))) h (ck (au))⟩
end
end Go.Proofs.YtmekcfdllhphlaaGreatDoor
namespace Go.Proofs.YtmekcfdllhphlaaGreatDoor
open Go Go.R
open Go.IntKind (i64 u64 u8 u32)
def xW:cm:=gI [0,1,4,5,6,11,12,13,16,19] [] [1020,1012,996,972,959,1019,1019,892,1019,764,1019,511,1019,1019] [] []
def cu.f (m:Nat)(x0:ByteArray)(y0:ByteArray):Option (Int):=(dp.f m x0).bind fun x1=>(dp.f m y0).bind fun x2=>if x1=true then (if x2=true then (some (0:Int)) else (some (-1:Int))) else (if x2=true then (some (1:Int)) else (if (Op.bytesLess x0.data.toList y0.data.toList)=true then (some (-1:Int)) else (if (!F3 x0 y0)=true then (some (1:Int)) else (some (0:Int)))))
def cu.fin (L:Mem)(r:Int)(s:St):Prop:=∃av,aH Tryz.prog (s.open xW) Tryz.f111.results.toList=some av∧gu s.h av (.int .i64 r)
def OL (cf:CallF)(m:Nat):Prop:=∀(x0:ByteArray) (y0:ByteArray) (r:Int),cu.f m x0 y0=some r→∀h xs,eY fq h xs [.str x0,.str y0]→cf 111 xs h=some (.int .i64 r,h)
section
variable {cf:CallF}{m:Nat}
theorem lu {aU:FuncId→cm}(ha:aU 111=xW)(Kj:OJ cf m)(x0:ByteArray)(y0:ByteArray)(h:AHeap)(L:Mem)  (o:Has h (L)){out:Int}(H:cu.f m x0 y0=some out) :
  ∃r h',be Tryz.prog aU cf m 111 [.str x0,.str y0] h=some (r,h')∧gu h' r (.int .i64 out):=by
 refine aq (fn:=Tryz.f111) ha Tryz.func111 (by kernel_rfl) (by kernel_rfl) ?_
 refine aG (Q:=fun s=>cu.fin L out s) (fun _ _ h=>h) ?_
 have H:_=some out:=H
 unfold cu.f at H
 show dt _ cf xW m _ ⟨.str x0 :: .str y0::sI [],[],h⟩ _
 refine q1 <| qq ?_
 obtain⟨x1,e0,H⟩:=aI H
 refine qr [.a 1 (Kj _ _ e0 h _ (ia (ae (b7) (aB))))] <| qq ?_
 obtain⟨x2,e1,H⟩:=aI H
 refine qr [.a 1 (Kj _ _ e1 h _ (ia (ae (b7) (aB))))] <| qq <| qq <| q0 <| qc H (fun c0 H=>?_) (fun c0 H=>?_)
 ·refine qq <| qq <| q0 <| qc H (fun c1 H=>?_) (fun c1 H=>?_)
  ·obtain rfl:=oi H
   exact q1 <| qt <| ⟨.inl rfl,cp (.int .i64 (0:Int)) h (ck (eS))⟩
  ·obtain rfl:=oi H
   exact qk <| qq <| q0 <| qt <| ⟨.inl rfl,cp (.int .i64 (-1:Int)) h (ck (eS))⟩
 ·refine qk <| qq <| qq <| q0 <| qc H (fun c2 H=>?_) (fun c2 H=>?_)
  ·obtain rfl:=oi H
   exact q1 <| qt <| ⟨.inl rfl,cp (.int .i64 (1:Int)) h (ck (eS))⟩
  ·refine qk <| qq <| qq <| q0 <| qc H (fun c3 H=>?_) (fun c3 H=>?_)
   ·obtain rfl:=oi H
    exact q1 <| qt <| ⟨.inl rfl,cp (.int .i64 (-1:Int)) h (ck (eS))⟩
   ·refine qk <| qq <| qq <| q0 <| qc H (fun c4 H=>?_) (fun c4 H=>?_)
    ·obtain rfl:=oi H
     exact q1 <| qt <| ⟨.inl rfl,cp (.int .i64 (1:Int)) h (ck (eS))⟩
    ·obtain rfl:=oi H
     exact qk <| qq <| q0 <| qt <| ⟨.inl rfl,cp (.int .i64 (0:Int)) h (ck (eS))⟩
end
end Go.Proofs.YtmekcfdllhphlaaGreatDoor
namespace Go.Proofs.YtmekcfdllhphlaaGreatDoor
open Go Go.R
open Go.IntKind (i64 u64 u8 u32)
def CU:cm:=gI [0,1,2,3,4,5,16] [2,3] [115,83,111,51,111,111] [] []
def dc.f (m:Nat)(a0:ab)(b0:ab):Option (Int):=if (!(a0.kind==b0.kind))=true then ((cQ.f m a0.kind b0.kind).bind fun x0=>some x0) else (if (a0.kind==(3:Int))=true then ((cQ.f m (a0.args.length:Int) (b0.args.length:Int)).bind fun x1=>(cu.f m a0.label b0.label).bind fun x2=>(cg.f m ([x1,x2])).bind fun x3=>some x3) else ((cu.f m a0.label b0.label).bind fun x4=>(cQ.f m a0.int b0.int).bind fun x5=>(cg.f m ([x4,x5])).bind fun x6=>some x6))
def dc.fin (L:Mem)(r:Int)(s:St):Prop:=∃av,aH Tryz.prog (s.open CU) Tryz.f99.results.toList=some av∧gu s.h av (.int .i64 r)
def PU (cf:CallF)(m:Nat):Prop:=∀(a0:ab) (b0:ab) (r:Int),dc.f m a0 b0=some r→∀h xs,eY fq h xs [.agg [.int .i64 a0.kind,.int .i64 a0.int,.str a0.label,aa.fz a0.args],.agg [.int .i64 b0.kind,.int .i64 b0.int,.str b0.label,aa.fz b0.args]]→cf 99 xs h=some (.int .i64 r,h)
section
variable {cf:CallF}{m:Nat}
theorem mP {aU:FuncId→cm}(ha:aU 99=CU)(GP:OG cf m)(Kk:OI cf m)(Kl:OL cf m)(a0:ab)(b0:ab)(h:AHeap)(L:Mem)  (o:Has h (L)){out:Int}(H:dc.f m a0 b0=some out) :
  ∃r h',be Tryz.prog aU cf m 99 [.agg [.int .i64 a0.kind,.int .i64 a0.int,.str a0.label,aa.fz a0.args],.agg [.int .i64 b0.kind,.int .i64 b0.int,.str b0.label,aa.fz b0.args]] h=some (r,h')∧gu h' r (.int .i64 out):=by
 refine aq (fn:=Tryz.f99) ha Tryz.func99 (by kernel_rfl) (by kernel_rfl) ?_
 refine aG (Q:=fun s=>dc.fin L out s) (fun _ _ h=>h) ?_
 have H:_=some out:=H
 unfold dc.f at H
 show dt _ cf CU m _ ⟨.agg [.int .i64 a0.kind,.int .i64 a0.int,.str a0.label,aa.fz a0.args] :: .agg [.int .i64 b0.kind,.int .i64 b0.int,.str b0.label,aa.fz b0.args]::rV [],[none,none],h⟩ _
 refine q1 <| qq <| qb 0 <| qq <| q0 <| qc H (fun c0 H=>?_) (fun c0 H=>?_)
 ·refine qq ?_
  obtain⟨x0,e0,H⟩:=aI H
  obtain rfl:=oi H
  exact qr [.a 4 (GP _ _ _ e0 h _ (ia (ae (aN) (ae (aN) (aB)))))] <| qt <| ⟨.inl rfl,cp (.int .i64 x0) h (ck (eS))⟩
 ·refine q1 <| qc H (fun c1 H=>?_) (fun c1 H=>?_)
  ·refine qq ?_
   obtain⟨x1,e1,H⟩:=aI H
   obtain⟨x2,e2,H⟩:=aI H
   obtain⟨x3,e3,H⟩:=aI H
   obtain rfl:=oi H
   exact qr [.a 6 (GP _ _ _ e1 h _ (ia (ae (aN) (ae (aN) (aB))))),.a 11 (Kl _ _ _ e2 h _ (ia (ae (b7) (ae (b7) (aB))))),.a 13 (Kk _ _ e3 h _ (ia (ae (FY (E:=aa) (l:=[x1,x2]) (cs:=[.int .i64 x1,.int .i64 x2]) (b:=true) (by kernel_rfl) (by kernel_rfl) rfl) (aB))))] <| qt <| ⟨.inl rfl,cp (.int .i64 x3) h (ck (eS))⟩
  ·refine qk <| qq ?_
   obtain⟨x4,e4,H⟩:=aI H
   obtain⟨x5,e5,H⟩:=aI H
   obtain⟨x6,e6,H⟩:=aI H
   obtain rfl:=oi H
   exact qr [.a 4 (Kl _ _ _ e4 h _ (ia (ae (b7) (ae (b7) (aB))))),.a 9 (GP _ _ _ e5 h _ (ia (ae (aN) (ae (aN) (aB))))),.a 11 (Kk _ _ e6 h _ (ia (ae (FY (E:=aa) (l:=[x4,x5]) (cs:=[.int .i64 x4,.int .i64 x5]) (b:=true) (by kernel_rfl) (by kernel_rfl) rfl) (aB))))] <| qt <| ⟨.inl rfl,cp (.int .i64 x6) h (ck (eS))⟩
end
end Go.Proofs.YtmekcfdllhphlaaGreatDoor
namespace Go.Proofs.YtmekcfdllhphlaaGreatDoor
open Go Go.R
open Go.IntKind (i64 u64 u8 u32)
def CV:cm:=gI [0,1,2,5] [] [8,7] [] []
def dy.f (m:Nat)(i0:Int)(j0:Int)(x0:List ab):Option (Int):=(ix x0 i0).bind fun v0=>(ix x0 j0).bind fun v1=>(dc.f m v0 v1).bind fun x1=>some x1
def dy.fin (h:AHeap)(r:Int)(s:St):Prop:=aH Tryz.prog (s.open CV) Tryz.f98.results.toList=some (.int .i64 r)∧s.h=h
def Uj (cf:CallF)(m:Nat):Prop:=∀(i0:Int) (j0:Int) (x0:List ab) (r:Int),dy.f m i0 j0 x0=some r→∀h L (eM bV:Nat),Has h L→L[eM]? = some (bV,.ob [ah.fz x0])→cf 98 [.int .i64 i0,.int .i64 j0,.ptr bV 0] h=some (.int .i64 r,h)
section
variable {cf:CallF}{m:Nat}
theorem nu {aU:FuncId→cm}(ha:aU 98=CV)(GQ:PU cf m)(i0:Int)(j0:Int)(x0:List ab)(h:AHeap)(L:Mem)  {eM bV:Nat}(gj:L[eM]? = some (bV,.ob [ah.fz x0]))(o:Has h (L)){out:Int}(H:dy.f m i0 j0 x0=some out) :
  ∃r h',be Tryz.prog aU cf m 98 [.int .i64 i0,.int .i64 j0,.ptr bV 0] h=some (r,h')∧r=(.int .i64 out)∧h'=h:=by
 refine aq (fn:=Tryz.f98) ha Tryz.func98 (by kernel_rfl) (by kernel_rfl) ?_
 refine aG (Q:=fun s=>dy.fin h out s) (fun _ _ ⟨h1,h2,h3⟩=>⟨h1,_,h2,rfl,h3⟩) ?_
 have H:_=some out:=H
 unfold dy.f at H
 show dt _ cf CV m _ ⟨[.int .i64 i0,.int .i64 j0,.ptr bV 0,.any],[],h⟩ _
 refine q1 <| qq ?_
 obtain⟨v0,e0,H⟩:=aI H
 obtain⟨v1,e1,H⟩:=aI H
 obtain⟨x1,e2,H⟩:=aI H
 obtain rfl:=oi H
 exact qr [.v 0 (show bo Tryz.prog h 42 (.ptr bV 0)=some (ah.fz x0) from cn (q:=eM) (cs:=[ah.fz x0]) o gj (by kernel_rfl)),.v 2 (bI (k:=.i64) (E:=ah) (l:=x0) mf e0),.v 3 (dL  (E:=ah) (l:=x0) h tQ tR e0),.v 4 (show bo Tryz.prog h 42 (.ptr bV 0)=some (ah.fz x0) from cn (q:=eM) (cs:=[ah.fz x0]) o gj (by kernel_rfl)),.v 6 (bI (k:=.i64) (E:=ah) (l:=x0) mf e1),.v 7 (dL  (E:=ah) (l:=x0) h tQ tR e1),.a 8 (GQ _ _ _ e2 h _ (ia (ae (dN (ae (aN) (ae (aN) (ae (b7) (ae (cW (E:=aa)) (aB)))))) (ae (dN (ae (aN) (ae (aN) (ae (b7) (ae (cW (E:=aa)) (aB)))))) (aB)))))] <| qt <| ⟨.inl rfl,⟨by kernel_rfl,by kernel_rfl⟩⟩
end
end Go.Proofs.YtmekcfdllhphlaaGreatDoor
