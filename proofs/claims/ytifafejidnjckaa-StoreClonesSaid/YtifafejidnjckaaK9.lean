/- Part of the proof: Q106, Q16, Q20, Q23, Q24, Q34, Q49, Q66, Q69, Q99, Q103, Q13, Q15, Q28, Q44, Q45, Q83, Q89. -/
import Derived.Test.YtifafejidnjckaaK8
set_option linter.unusedVariables false
set_option linter.unusedSimpArgs false
set_option maxRecDepth 100000
open ByteArray renaming mk → Wh
open List renaming append_assoc → VI, cons_append → V6, nil_append → V7
namespace Go.Proofs.Ytifafejidnjckaa
open Go Go.R
open Go.IntKind (i64 u64 u8 u32)
def lK:b5:=gV [0,1,2,3,4,10,11,12,13,14,15,16,17,18,19,20,21,22,23,24,28,33,50,58,80,85,103,110,140,151,171,185,199,213] [] [17178820576,17179869124,17179869068,17177771916,17179868940,17175674636,17179869068,17179869068,17179868894,17171480286,17179868894,17179868894,17163091936,17179868650,17179867626,17146313194,17179865578,17112756714,17179867626,17179867626,17179864574,17045646846,17179864574,17179864574,17179860960,17179844576,17179844576,16911409120,17179811808,17179746272,17179811808,17179746272,17179615200,16642744288,17179353056,16105611232,17179615200,17179615200,17179303904,15031820256,17179303908,12884336612,17179336678,8589402086,17179869183] [] []
def aJ.l0 (m:Nat)(ax:List Int)(a0:Int)(aT:Int→Int→Option (Int)):Nat→Int→Int→Option (Int × Int)
 | 0,_,_=>none
 | k+1,i0,j0=>if (decide (i0<j0))=true then ((ix ax (i64.wrap (ji .u64 (u64.wrap (i64.wrap (i0+j0))) 1))).bind fun v0=>(ix ax a0).bind fun v1=>(aT v0 v1).bind fun r0=>if (decide (r0<(0:Int)))=true then (aJ.l0 m ax a0 aT k (i64.wrap (i64.wrap (ji .u64 (u64.wrap (i64.wrap (i0+j0))) 1)+(1:Int))) j0) else (aJ.l0 m ax a0 aT k i0 (i64.wrap (ji .u64 (u64.wrap (i64.wrap (i0+j0))) 1)))) else (some ((i0,j0)))
def aJ.l1 (m:Nat)(i1:Int):Nat→(List Int)→Int→Option ((List Int) × Int)
 | 0,_,_=>none
 | k+1,bn,k0=>if (decide (k0<(i64.wrap (i1 - (1:Int)))))=true then ((ix bn (i64.wrap (k0+(1:Int)))).bind fun v2=>(ix bn k0).bind fun v3=>(ix bn k0).bind fun v4=>(ix (bn.set k0.toNat v2) (i64.wrap (k0+(1:Int)))).bind fun v5=>aJ.l1 m i1 k ((bn.set k0.toNat v2).set (i64.wrap (k0+(1:Int))).toNat v3) (i64.wrap (k0+(1:Int)))) else (some ((bn,k0)))
def aJ.l2 (m:Nat)(ax:List Int)(m0:Int)(aT:Int→Int→Option (Int)):Nat→Int→Int→Option (Int × Int)
 | 0,_,_=>none
 | k+1,i2,j2=>if (decide (i2<j2))=true then ((ix ax m0).bind fun v6=>(ix ax (i64.wrap (ji .u64 (u64.wrap (i64.wrap (i2+j2))) 1))).bind fun v7=>(aT v6 v7).bind fun r1=>if (!(decide (r1<(0:Int))))=true then (aJ.l2 m ax m0 aT k (i64.wrap (i64.wrap (ji .u64 (u64.wrap (i64.wrap (i2+j2))) 1)+(1:Int))) j2) else (aJ.l2 m ax m0 aT k i2 (i64.wrap (ji .u64 (u64.wrap (i64.wrap (i2+j2))) 1)))) else (some ((i2,j2)))
def aJ.l3 (m:Nat)(i3:Int):Nat→(List Int)→Int→Option ((List Int) × Int)
 | 0,_,_=>none
 | k+1,dK,k2=>if (decide (k2 > i3))=true then ((ix dK (i64.wrap (k2 - (1:Int)))).bind fun v8=>(ix dK k2).bind fun v9=>(ix dK k2).bind fun v10=>(ix (dK.set k2.toNat v8) (i64.wrap (k2 - (1:Int)))).bind fun v11=>aJ.l3 m i3 k ((dK.set k2.toNat v8).set (i64.wrap (k2 - (1:Int))).toNat v9) (i64.wrap (k2 - (1:Int)))) else (some ((dK,k2)))
def aJ.l4 (m:Nat)(ax:List Int)(a0:Int)(m0:Int)(b0:Int)(aT:Int→Int→Option (Int)):Nat→Int→Int→Option (Int × Int)
 | 0,_,_=>none
 | k+1,gf,r3=>if (decide (gf<r3))=true then ((ix ax (i64.wrap (i64.wrap (i64.wrap (i64.wrap (ji .u64 (u64.wrap (i64.wrap (a0+b0))) 1)+m0) - (1:Int)) - i64.wrap (ji .u64 (u64.wrap (i64.wrap (gf+r3))) 1)))).bind fun v12=>(ix ax (i64.wrap (ji .u64 (u64.wrap (i64.wrap (gf+r3))) 1))).bind fun ML=>(aT v12 ML).bind fun r4=>if (!(decide (r4<(0:Int))))=true then (aJ.l4 m ax a0 m0 b0 aT k (i64.wrap (i64.wrap (ji .u64 (u64.wrap (i64.wrap (gf+r3))) 1)+(1:Int))) r3) else (aJ.l4 m ax a0 m0 b0 aT k gf (i64.wrap (ji .u64 (u64.wrap (i64.wrap (gf+r3))) 1)))) else (some ((gf,r3)))
def aJ.b (m:Nat)(rec:(List Int)→Int→Int→Int→(Int→Int→Option (Int))→Option ((List Int)))(ax:List Int)(a0:Int)(m0:Int)(b0:Int)(aT:Int→Int→Option (Int)):Option ((List Int)):=if ((i64.wrap (m0 - a0))==(1:Int))=true then ((aJ.l0 m ax a0 aT m m0 b0).bind fun cg=>match cg with | (i1,j1)=>(aJ.l1 m i1 m ax a0).bind fun dr=>match dr with | (dd,k1)=>some dd) else (if ((i64.wrap (b0 - m0))==(1:Int))=true then ((aJ.l2 m ax m0 aT m a0 m0).bind fun mM=>match mM with | (i3,j3)=>(aJ.l3 m i3 m ax m0).bind fun EP=>match EP with | (jt,k3)=>some jt) else (jn (fun (σ:Int × Int)=>match σ with | (sN,r2)=>(aJ.l4 m ax a0 m0 b0 aT m sN r2).bind fun dn=>match dn with | (ff,r5)=>jn (fun (σ:(List Int))=>match σ with | kZ=>jn (fun (σ:(List Int))=>match σ with | pa=>if (decide ((i64.wrap (ji .u64 (u64.wrap (i64.wrap (a0+b0))) 1))<(i64.wrap (i64.wrap (i64.wrap (ji .u64 (u64.wrap (i64.wrap (a0+b0))) 1)+m0) - ff))))=true then (if (decide ((i64.wrap (i64.wrap (i64.wrap (ji .u64 (u64.wrap (i64.wrap (a0+b0))) 1)+m0) - ff))<b0))=true then ((rec pa (i64.wrap (ji .u64 (u64.wrap (i64.wrap (a0+b0))) 1)) (i64.wrap (i64.wrap (i64.wrap (ji .u64 (u64.wrap (i64.wrap (a0+b0))) 1)+m0) - ff)) b0 aT).bind fun x2=>some x2) else (some pa)) else (some pa)) fun sO=>(if (decide (a0<ff))=true then (if (decide (ff<(i64.wrap (ji .u64 (u64.wrap (i64.wrap (a0+b0))) 1))))=true then ((rec kZ a0 ff (i64.wrap (ji .u64 (u64.wrap (i64.wrap (a0+b0))) 1)) aT).bind fun x1=>sO x1) else (sO kZ)) else (sO kZ))) fun LL=>(if (decide (ff<m0))=true then (if (decide (m0<(i64.wrap (i64.wrap (i64.wrap (ji .u64 (u64.wrap (i64.wrap (a0+b0))) 1)+m0) - ff))))=true then ((fc.f m ax ff m0 (i64.wrap (i64.wrap (i64.wrap (ji .u64 (u64.wrap (i64.wrap (a0+b0))) 1)+m0) - ff)) aT).bind fun x0=>LL x0) else (LL ax)) else (LL ax))) fun yB=>(if (decide (m0 > (i64.wrap (ji .u64 (u64.wrap (i64.wrap (a0+b0))) 1))))=true then (yB (i64.wrap (i64.wrap (i64.wrap (ji .u64 (u64.wrap (i64.wrap (a0+b0))) 1)+m0) - b0),i64.wrap (ji .u64 (u64.wrap (i64.wrap (a0+b0))) 1))) else (yB (a0,m0)))))
def aJ.f (m:Nat):Nat→(List Int)→Int→Int→Int→(Int→Int→Option (Int))→Option ((List Int))
 | 0,_,_,_,_,_=>none
 | k+1,ax,a0,m0,b0,aT=>aJ.b m (aJ.f m k) ax a0 m0 b0 aT
def aJ.fin (L:Mem)(aG:Nat)(ax:List Int)(a0:Int)(m0:Int)(b0:Int)(aT:Int→Int→Option (Int))(r:(List Int))(s:St):Prop:=aP Try.prog (s.open lK) Try.f106.results.toList=some (.tup [])∧Has s.h ((aG,.sl ax.length 1 (af.l r))::L)
def tI (cf:CallF)(m:Nat)(kk:Nat):Prop:=∀(ax:List Int) (a0:Int) (m0:Int) (b0:Int) (aT:Int→Int→Option (Int)) (r:(List Int)),aJ.f m kk ax a0 m0 b0 aT=some r→∀h L (cr:Nat) (aG:Nat),Has h ((aG,.sl cr 1 (af.l ax))::L)→∀(eU:FuncId) (a7 aU:List AV),(aM (.fn eU a7) = .fn eU a7)→(∀(h:AHeap) (xs:List AV) (a0:Int) (a1:Int) r,aT a0 a1=some r→aQ bQ h xs ([.int .i64 a0,.int .i64 a1]++aU)→cf eU xs h=some (.int .i64 r,h))→(∀h K,Has h (K++(L))→aQ cE h a7 aU)→(∀h,aQ cE h aU aU)→∀xs,xs.map aM=[.rs aG 0 cr 1,.int .i64 a0,.int .i64 m0,.int .i64 b0,.fn eU a7]→∃h',cf 106 xs h=some (.tup [],h')∧Has h' ((aG,.sl cr 1 (af.l r))::L)
section
variable {cf:CallF}{m:Nat}
theorem aJ.dy (L:Mem)(aG:Nat)(eU:FuncId)(a7 aU:List AV)(ax:List Int)(a0:Int)(m0:Int)(b0:Int)(aT:Int→Int→Option (Int))  {kk:Nat}(iJ:tI cf m kk)(gK:aM (.fn eU a7) = .fn eU a7)(hX:∀(h:AHeap) (xs:List AV) (a0:Int) (a1:Int) r,aT a0 a1=some r→aQ bQ h xs ([.int .i64 a0,.int .i64 a1]++aU)→cf eU xs h=some (.int .i64 r,h))(hY:∀h K,Has h (K++(L))→aQ cE h a7 aU)(iI:∀h,aQ cE h aU aU)  : dY Try.prog cf lK m (sub [0,1,0,1,1,0,0,0] (b8 Try.f106)) (fun k (σ:Int × Int)=>aJ.l0 m ax a0 aT k σ.1 σ.2) (fun σ s=>match σ with | (i0,j0)=>∃h0,s=⟨.rs aG 0 ax.length 1 :: .int .i64 a0 :: .any :: .any :: .fn eU a7 :: .int .i64 i0 :: .int .i64 j0::NZ [],[],h0⟩∧Has h0 ((aG,.sl ax.length 1 (af.l ax))::L)) (fun out e s=>(e = .exit 0∧∃i0 j0,(i0,j0)=out∧∃Jn zr ER h0,s=⟨.rs aG 0 ax.length 1 :: .int .i64 a0 :: .any :: .any::Jn :: .int .i64 i0::zr::xl (ER::vz []),[],h0⟩∧Has h0 ((aG,.sl ax.length 1 (af.l ax))::L))):=by
 refine mf (fun _=>rfl) ?_
 rintro k ⟨i0,j0⟩ s out ⟨h0,rfl,o0⟩ H
 have H:aJ.l0 m ax a0 aT (k+1) i0 j0=some out:=H
 refine qq <| qq <| q0 <| qc H (fun c1 H=>?_) (fun c1 H=>?_)
 ·refine qk <| qb 1 <| qq <| q0 <| qq ?_
  obtain⟨v0,e0,H⟩:=bk H
  obtain⟨v1,e1,H⟩:=bk H
  obtain⟨r0,e2,H⟩:=bk H
  refine qr [.v 3 (bp (k:=.i64) (E:=af) (l:=ax) (q:=0) gI o0 rfl e0),.v 4 (dH  (E:=af) (l:=ax) (q:=0) o0 rfl A3 e0 rfl),.v 7 (bp (k:=.i64) (E:=af) (l:=ax) (q:=0) gI o0 rfl e1),.v 8 (dH  (E:=af) (l:=ax) (q:=0) o0 rfl A3 e1 rfl),.a 9 (hX _ _ _ _ _ e2 (HV (ah (bD) (ah (bD) (aw))) (hY h0 [(aG,.sl ax.length 1 (af.l ax))] o0)))] <| qc H (fun c2 H=>?_) (fun c2 H=>?_)
  ·exact q0 <| ⟨(i64.wrap (i64.wrap (ji .u64 (u64.wrap (i64.wrap (i0+j0))) 1)+(1:Int)),j0),⟨h0,by kernel_rfl,o0⟩,H⟩
  ·exact q0 <| ⟨(i0,i64.wrap (ji .u64 (u64.wrap (i64.wrap (i0+j0))) 1)),⟨h0,by kernel_rfl,o0⟩,H⟩
 ·exact qx 0 <| ⟨rfl,i0,j0,oi H,.fn eU a7,.int .i64 j0,.bool (decide (i0<j0)),h0,by kernel_rfl,o0⟩
theorem aJ.kT (L:Mem)(aG:Nat)(eU:FuncId)(a7 aU:List AV)(ax:List Int)(a0:Int)(m0:Int)(b0:Int)(aT:Int→Int→Option (Int))(i1:Int)  {kk:Nat}(iJ:tI cf m kk)(gK:aM (.fn eU a7) = .fn eU a7)(hX:∀(h:AHeap) (xs:List AV) (a0:Int) (a1:Int) r,aT a0 a1=some r→aQ bQ h xs ([.int .i64 a0,.int .i64 a1]++aU)→cf eU xs h=some (.int .i64 r,h))(hY:∀h K,Has h (K++(L))→aQ cE h a7 aU)(iI:∀h,aQ cE h aU aU)  : dY Try.prog cf lK m (sub [0,1,0,1,1,1,0,1,0,0] (b8 Try.f106)) (fun k (σ:(List Int) × Int)=>aJ.l1 m i1 k σ.1 σ.2) (fun σ s=>match σ with | (bn,k0)=>∃h2,s=⟨.rs aG 0 ax.length 1::oc (.int .i64 i1 :: .any :: .any :: .int .i64 k0::NY []),[],h2⟩∧Has h2 ((aG,.sl ax.length 1 (af.l bn))::L)) (fun out e s=>(e = .exit 2∧∃bn k0,(bn,k0)=out∧∃oU zq vH OR h2,s=⟨oU::oc (zq :: .any :: .any::vH::xl (OR::Ll [])),[],h2⟩∧Has h2 ((aG,.sl ax.length 1 (af.l bn))::L))):=by
 refine mf (fun _=>rfl) ?_
 rintro k ⟨bn,k0⟩ s out ⟨h2,rfl,o2⟩ H
 have H:aJ.l1 m i1 (k+1) bn k0=some out:=H
 refine qq <| qq <| q0 <| qc H (fun c3 H=>?_) (fun c3 H=>?_)
 ·refine qk <| qq <| qb 3 ?_
  obtain⟨v2,e4,H⟩:=bk H
  obtain⟨v3,e5,H⟩:=bk H
  obtain⟨v4,e6,H⟩:=bk H
  obtain⟨h3,e7,o3⟩:=fJ (P:=Try.prog) (tf:=3) (E:=af) (l:=bn) (q:=0) (v:=v2) (x:=.int .i64 v2) o2 rfl Z3 e6 rfl rfl
  obtain⟨v5,e8,H⟩:=bk H
  obtain⟨h4,e9,o4⟩:=fJ (P:=Try.prog) (tf:=3) (E:=af) (l:=(bn.set k0.toNat v2)) (q:=0) (v:=v3) (x:=.int .i64 v3) o3 rfl Z3 e8 rfl rfl
  exact qr [.v 8 (bp (k:=.i64) (E:=af) (l:=bn) (q:=0) gI o2 rfl e4),.v 9 (dH  (E:=af) (l:=bn) (q:=0) o2 rfl A3 e4 rfl),.v 12 (bp (k:=.i64) (E:=af) (l:=bn) (q:=0) gI o2 rfl e5),.v 13 (dH  (E:=af) (l:=bn) (q:=0) o2 rfl A3 e5 rfl),.v 14 (bp (k:=.i64) (E:=af) (l:=bn) (q:=0) gI o2 rfl e6),.w 15 e7,.v 16 (bp (k:=.i64) (E:=af) (l:=(bn.set k0.toNat v2)) (q:=0) gI o3 rfl e8),.w 17 e9] <| q0 <| ⟨((bn.set k0.toNat v2).set (i64.wrap (k0+(1:Int))).toNat v3,i64.wrap (k0+(1:Int))),⟨h4,by kernel_rfl,o4⟩,H⟩
 ·exact qx 2 <| ⟨rfl,bn,k0,oi H,.rs aG 0 ax.length 1,.int .i64 i1,.int .i64 k0,.bool (decide (k0<(i64.wrap (i1 - (1:Int))))),h2,by kernel_rfl,o2⟩
theorem aJ.sP (L:Mem)(aG:Nat)(eU:FuncId)(a7 aU:List AV)(ax:List Int)(a0:Int)(m0:Int)(b0:Int)(aT:Int→Int→Option (Int))  {kk:Nat}(iJ:tI cf m kk)(gK:aM (.fn eU a7) = .fn eU a7)(hX:∀(h:AHeap) (xs:List AV) (a0:Int) (a1:Int) r,aT a0 a1=some r→aQ bQ h xs ([.int .i64 a0,.int .i64 a1]++aU)→cf eU xs h=some (.int .i64 r,h))(hY:∀h K,Has h (K++(L))→aQ cE h a7 aU)(iI:∀h,aQ cE h aU aU)  : dY Try.prog cf lK m (sub [1,0,1,0,1,1,0,0,0] (b8 Try.f106)) (fun k (σ:Int × Int)=>aJ.l2 m ax m0 aT k σ.1 σ.2) (fun σ s=>match σ with | (i2,j2)=>∃h6,s=⟨.rs aG 0 ax.length 1 :: .any :: .int .i64 m0 :: .any :: .fn eU a7::oc (.int .i64 i2 :: .int .i64 j2::NX []),[],h6⟩∧Has h6 ((aG,.sl ax.length 1 (af.l ax))::L)) (fun out e s=>(e = .exit 4∧∃i2 j2,(i2,j2)=out∧∃Jn OS OT h6,s=⟨.rs aG 0 ax.length 1 :: .any :: .int .i64 m0 :: .any::Jn::oc (.int .i64 i2::OS::xl (OT::Cr [])),[],h6⟩∧Has h6 ((aG,.sl ax.length 1 (af.l ax))::L))):=by
 refine mf (fun _=>rfl) ?_
 rintro k ⟨i2,j2⟩ s out ⟨h6,rfl,o6⟩ H
 have H:aJ.l2 m ax m0 aT (k+1) i2 j2=some out:=H
 refine qq <| qq <| q0 <| qc H (fun c5 H=>?_) (fun c5 H=>?_)
 ·refine qk <| qb 5 <| qq <| q0 <| qq ?_
  obtain⟨v6,wo,H⟩:=bk H
  obtain⟨v7,zm,H⟩:=bk H
  obtain⟨r1,zn,H⟩:=bk H
  refine qr [.v 3 (bp (k:=.i64) (E:=af) (l:=ax) (q:=0) gI o6 rfl wo),.v 4 (dH  (E:=af) (l:=ax) (q:=0) o6 rfl A3 wo rfl),.v 7 (bp (k:=.i64) (E:=af) (l:=ax) (q:=0) gI o6 rfl zm),.v 8 (dH  (E:=af) (l:=ax) (q:=0) o6 rfl A3 zm rfl),.a 9 (hX _ _ _ _ _ zn (HV (ah (bD) (ah (bD) (aw))) (hY h6 [(aG,.sl ax.length 1 (af.l ax))] o6)))] <| qc H (fun c6 H=>?_) (fun c6 H=>?_)
  ·exact q0 <| ⟨(i64.wrap (i64.wrap (ji .u64 (u64.wrap (i64.wrap (i2+j2))) 1)+(1:Int)),j2),⟨h6,by kernel_rfl,o6⟩,H⟩
  ·exact q0 <| ⟨(i2,i64.wrap (ji .u64 (u64.wrap (i64.wrap (i2+j2))) 1)),⟨h6,by kernel_rfl,o6⟩,H⟩
 ·exact qx 4 <| ⟨rfl,i2,j2,oi H,.fn eU a7,.int .i64 j2,.bool (decide (i2<j2)),h6,by kernel_rfl,o6⟩
theorem aJ.ES (L:Mem)(aG:Nat)(eU:FuncId)(a7 aU:List AV)(ax:List Int)(a0:Int)(m0:Int)(b0:Int)(aT:Int→Int→Option (Int))(i3:Int)  {kk:Nat}(iJ:tI cf m kk)(gK:aM (.fn eU a7) = .fn eU a7)(hX:∀(h:AHeap) (xs:List AV) (a0:Int) (a1:Int) r,aT a0 a1=some r→aQ bQ h xs ([.int .i64 a0,.int .i64 a1]++aU)→cf eU xs h=some (.int .i64 r,h))(hY:∀h K,Has h (K++(L))→aQ cE h a7 aU)(iI:∀h,aQ cE h aU aU)  : dY Try.prog cf lK m (sub [1,0,1,0,1,1,1,0,1,0,0] (b8 Try.f106)) (fun k (σ:(List Int) × Int)=>aJ.l3 m i3 k σ.1 σ.2) (fun σ s=>match σ with | (dK,k2)=>∃h8,s=⟨.rs aG 0 ax.length 1::Cr (.int .i64 i3 :: .any :: .any :: .int .i64 k2::NW []),[],h8⟩∧Has h8 ((aG,.sl ax.length 1 (af.l dK))::L)) (fun out e s=>(e = .exit 6∧∃dK k2,(dK,k2)=out∧∃oU Et OU LM h8,s=⟨oU::Cr (Et :: .any :: .any::OU::xl (LM::xk [])),[],h8⟩∧Has h8 ((aG,.sl ax.length 1 (af.l dK))::L))):=by
 refine mf (fun _=>rfl) ?_
 rintro k ⟨dK,k2⟩ s out ⟨h8,rfl,o8⟩ H
 have H:aJ.l3 m i3 (k+1) dK k2=some out:=H
 refine qq <| qq <| q0 <| qc H (fun c7 H=>?_) (fun c7 H=>?_)
 ·refine qk <| qq <| qb 7 ?_
  obtain⟨v8,A4,H⟩:=bk H
  obtain⟨v9,EH,H⟩:=bk H
  obtain⟨v10,EI,H⟩:=bk H
  obtain⟨h9,EJ,o9⟩:=fJ (P:=Try.prog) (tf:=3) (E:=af) (l:=dK) (q:=0) (v:=v8) (x:=.int .i64 v8) o8 rfl Z3 EI rfl rfl
  obtain⟨v11,CH,H⟩:=bk H
  obtain⟨h10,F7,vK⟩:=fJ (P:=Try.prog) (tf:=3) (E:=af) (l:=(dK.set k2.toNat v8)) (q:=0) (v:=v9) (x:=.int .i64 v9) o9 rfl Z3 CH rfl rfl
  exact qr [.v 8 (bp (k:=.i64) (E:=af) (l:=dK) (q:=0) gI o8 rfl A4),.v 9 (dH  (E:=af) (l:=dK) (q:=0) o8 rfl A3 A4 rfl),.v 12 (bp (k:=.i64) (E:=af) (l:=dK) (q:=0) gI o8 rfl EH),.v 13 (dH  (E:=af) (l:=dK) (q:=0) o8 rfl A3 EH rfl),.v 14 (bp (k:=.i64) (E:=af) (l:=dK) (q:=0) gI o8 rfl EI),.w 15 EJ,.v 16 (bp (k:=.i64) (E:=af) (l:=(dK.set k2.toNat v8)) (q:=0) gI o9 rfl CH),.w 17 F7] <| q0 <| ⟨((dK.set k2.toNat v8).set (i64.wrap (k2 - (1:Int))).toNat v9,i64.wrap (k2 - (1:Int))),⟨h10,by kernel_rfl,vK⟩,H⟩
 ·exact qx 6 <| ⟨rfl,dK,k2,oi H,.rs aG 0 ax.length 1,.int .i64 i3,.int .i64 k2,.bool (decide (k2 > i3)),h8,by kernel_rfl,o8⟩
theorem aJ.ET (L:Mem)(aG:Nat)(eU:FuncId)(a7 aU:List AV)(ax:List Int)(a0:Int)(m0:Int)(b0:Int)(aT:Int→Int→Option (Int))  {kk:Nat}(iJ:tI cf m kk)(gK:aM (.fn eU a7) = .fn eU a7)(hX:∀(h:AHeap) (xs:List AV) (a0:Int) (a1:Int) r,aT a0 a1=some r→aQ bQ h xs ([.int .i64 a0,.int .i64 a1]++aU)→cf eU xs h=some (.int .i64 r,h))(hY:∀h K,Has h (K++(L))→aQ cE h a7 aU)(iI:∀h,aQ cE h aU aU)  : dY Try.prog cf lK m (sub [1,1,1,1,1,1,1,0,0,0] (b8 Try.f106)) (fun k (σ:Int × Int)=>aJ.l4 m ax a0 m0 b0 aT k σ.1 σ.2) (fun σ s=>match σ with | (gf,r3)=>∃h13,s=⟨.rs aG 0 ax.length 1 :: .int .i64 a0 :: .int .i64 m0 :: .int .i64 b0 :: .fn eU a7::Cr (.int .i64 (i64.wrap (ji .u64 (u64.wrap (i64.wrap (a0+b0))) 1)) :: .int .i64 (i64.wrap (i64.wrap (ji .u64 (u64.wrap (i64.wrap (a0+b0))) 1)+m0)) :: .int .i64 gf :: .int .i64 r3 :: .int .i64 (i64.wrap (i64.wrap (i64.wrap (ji .u64 (u64.wrap (i64.wrap (a0+b0))) 1)+m0) - (1:Int)))::GM []),[],h13⟩∧Has h13 ((aG,.sl ax.length 1 (af.l ax))::L)) (fun out e s=>(e = .exit 8∧∃gf r3,(gf,r3)=out∧∃OV EG LN h13,s=⟨.rs aG 0 ax.length 1 :: .int .i64 a0 :: .int .i64 m0 :: .int .i64 b0 :: .fn eU a7::Cr (.int .i64 (i64.wrap (ji .u64 (u64.wrap (i64.wrap (a0+b0))) 1)) :: .int .i64 (i64.wrap (i64.wrap (ji .u64 (u64.wrap (i64.wrap (a0+b0))) 1)+m0)) :: .int .i64 gf::OV::EG::sy (LN::oc [])),[],h13⟩∧Has h13 ((aG,.sl ax.length 1 (af.l ax))::L))):=by
 refine mf (fun _=>rfl) ?_
 rintro k ⟨gf,r3⟩ s out ⟨h13,rfl,jq⟩ H
 have H:aJ.l4 m ax a0 m0 b0 aT (k+1) gf r3=some out:=H
 refine qq <| qq <| q0 <| qc H (fun c9 H=>?_) (fun c9 H=>?_)
 ·refine qk <| qb 9 <| qq <| q0 <| qq ?_
  obtain⟨v12,EL,H⟩:=bk H
  obtain⟨ML,F8,H⟩:=bk H
  obtain⟨r4,F9,H⟩:=bk H
  refine qr [.v 5 (bp (k:=.i64) (E:=af) (l:=ax) (q:=0) gI jq rfl EL),.v 6 (dH  (E:=af) (l:=ax) (q:=0) jq rfl A3 EL rfl),.v 9 (bp (k:=.i64) (E:=af) (l:=ax) (q:=0) gI jq rfl F8),.v 10 (dH  (E:=af) (l:=ax) (q:=0) jq rfl A3 F8 rfl),.a 11 (hX _ _ _ _ _ F9 (HV (ah (bD) (ah (bD) (aw))) (hY h13 [(aG,.sl ax.length 1 (af.l ax))] jq)))] <| qc H (fun Ey H=>?_) (fun Ey H=>?_)
  ·exact q0 <| ⟨(i64.wrap (i64.wrap (ji .u64 (u64.wrap (i64.wrap (gf+r3))) 1)+(1:Int)),r3),⟨h13,by kernel_rfl,jq⟩,H⟩
  ·exact q0 <| ⟨(gf,i64.wrap (ji .u64 (u64.wrap (i64.wrap (gf+r3))) 1)),⟨h13,by kernel_rfl,jq⟩,H⟩
 ·exact qx 8 <| ⟨rfl,gf,r3,oi H,.int .i64 r3,.int .i64 (i64.wrap (i64.wrap (i64.wrap (ji .u64 (u64.wrap (i64.wrap (a0+b0))) 1)+m0) - (1:Int))),.bool (decide (gf<r3)),h13,by kernel_rfl,jq⟩
theorem sQ {aX:FuncId→b5}(ha:aX 106=lK)(LO:LG cf m)(ax:List Int)(a0:Int)(m0:Int)(b0:Int)(aT:Int→Int→Option (Int))(h:AHeap)(L:Mem)(aG:Nat)(eU:FuncId)(a7 aU:List AV)  {kk:Nat}(iJ:tI cf m kk)(gK:aM (.fn eU a7) = .fn eU a7)(hX:∀(h:AHeap) (xs:List AV) (a0:Int) (a1:Int) r,aT a0 a1=some r→aQ bQ h xs ([.int .i64 a0,.int .i64 a1]++aU)→cf eU xs h=some (.int .i64 r,h))(hY:∀h K,Has h (K++(L))→aQ cE h a7 aU)(iI:∀h,aQ cE h aU aU)(o:Has h ((aG,.sl ax.length 1 (af.l ax))::L)){out:(List Int)}(H:aJ.f m (kk+1) ax a0 m0 b0 aT=some out) :
  ∃r h',a6 Try.prog aX cf m 106 [.rs aG 0 ax.length 1,.int .i64 a0,.int .i64 m0,.int .i64 b0,.fn eU a7] h=some (r,h')∧r = .tup []∧Has h' ((aG,.sl ax.length 1 (af.l out))::L):=by
 refine au (fn:=Try.f106) ha Try.func106 (by kernel_rfl) (by kernel_rfl) ?_
 refine aK (Q:=fun s=>aJ.fin L aG ax a0 m0 b0 aT out s) (fun _ _ ⟨h1,h2,h3⟩=>⟨h1,_,h2,rfl,h3⟩) ?_
 have H:aJ.b m (aJ.f m kk) ax a0 m0 b0 aT=some out:=H
 unfold aJ.b at H
 show du _ cf lK m _ ⟨.rs aG 0 ax.length 1 :: .int .i64 a0 :: .int .i64 m0 :: .int .i64 b0 :: .fn eU a7::N0 [],[],h⟩ _
 refine qq <| qq <| q0 <| qc H (fun c0 H=>?_) (fun c0 H=>?_)
 ·refine q1 <| qq <| q0 <| qq <| qb 0 ?_
  obtain⟨cg,e3,H⟩:=bk H
  refine ql (aJ.dy L aG eU a7 aU ax a0 m0 b0 aT  iJ gK hX hY iI  (m0,b0) _ _ ⟨h,by kernel_rfl,o⟩ e3) ?_
  rintro e s ⟨rfl,i1,j1,rfl,g0,g1,g2,h1,rfl,o1⟩
  try dsimp only at H
  refine qq <| qq <| q0 <| qb 2 ?_
  obtain⟨dr,ti,H⟩:=bk H
  refine ql (aJ.kT L aG eU a7 aU ax a0 m0 b0 aT i1  iJ gK hX hY iI  (ax,a0) _ _ ⟨h1,by kernel_rfl,o1⟩ ti) ?_
  rintro e s ⟨rfl,dd,k1,rfl,g3,g4,g5,g6,h5,rfl,o5⟩
  try dsimp only at H
  obtain rfl:=oi H
  exact qt <| ⟨.inl rfl,⟨by kernel_rfl,he o5⟩⟩
 ·refine qk <| qq <| qq <| q0 <| qc H (fun c4 H=>?_) (fun c4 H=>?_)
  ·refine q1 <| qq <| q0 <| qq <| qb 4 ?_
   obtain⟨mM,AI,H⟩:=bk H
   refine ql (aJ.sP L aG eU a7 aU ax a0 m0 b0 aT  iJ gK hX hY iI  (a0,m0) _ _ ⟨h,by kernel_rfl,o⟩ AI) ?_
   rintro e s ⟨rfl,i3,j3,rfl,g7,g8,g9,h7,rfl,o7⟩
   try dsimp only at H
   refine qq <| qq <| q0 <| qb 6 ?_
   obtain⟨EP,EK,H⟩:=bk H
   refine ql (aJ.ES L aG eU a7 aU ax a0 m0 b0 aT i3  iJ gK hX hY iI  (ax,m0) _ _ ⟨h7,by kernel_rfl,o7⟩ EK) ?_
   rintro e s ⟨rfl,jt,k3,rfl,g10,g11,g12,g13,h11,rfl,Dc⟩
   try dsimp only at H
   obtain rfl:=oi H
   exact qt <| ⟨.inl rfl,⟨by kernel_rfl,he Dc⟩⟩
  ·refine qk <| qq <| q0 <| qq <| q0 <| qq <| q0 ?_
   obtain⟨yB,HZ,H⟩:=oQ H
   refine qj (S:=fun (σ:Int × Int) s=>match σ with | (sN,r2)=>∃(h12:AHeap),s=⟨.rs aG 0 ax.length 1 :: .int .i64 a0 :: .int .i64 m0 :: .int .i64 b0 :: .fn eU a7::Cr (.int .i64 (i64.wrap (ji .u64 (u64.wrap (i64.wrap (a0+b0))) 1)) :: .int .i64 (i64.wrap (i64.wrap (ji .u64 (u64.wrap (i64.wrap (a0+b0))) 1)+m0)) :: .int .i64 sN :: .int .i64 r2::NU []),[],h12⟩∧Has h12 ((aG,.sl ax.length 1 (af.l ax))::L)) yB H ?_ ?_
   ·rintro⟨sN,r2⟩ s ⟨h12,rfl,Dd⟩ H
    have H:=(HZ _).symm.trans H
    try dsimp only at H
    refine q1 <| qq <| qb 8 ?_
    obtain⟨dn,Ga,H⟩:=bk H
    refine ql (aJ.ET L aG eU a7 aU ax a0 m0 b0 aT  iJ gK hX hY iI  (sN,r2) _ _ ⟨h12,by kernel_rfl,Dd⟩ Ga) ?_
    rintro e s ⟨rfl,ff,r5,rfl,g14,g15,g16,h14,rfl,vR⟩
    try dsimp only at H
    refine q1 ?_
    obtain⟨LL,MM,H⟩:=oQ H
    refine qj (S:=fun (σ:(List Int)) s=>match σ with | kZ=>∃(g17:AV) (g18:AV) (h16:AHeap),s=⟨.rs aG 0 ax.length 1 :: .int .i64 a0::g17 :: .int .i64 b0 :: .fn eU a7::Cr (.int .i64 (i64.wrap (ji .u64 (u64.wrap (i64.wrap (a0+b0))) 1)) :: .any :: .int .i64 ff::rA (.int .i64 (i64.wrap (i64.wrap (i64.wrap (ji .u64 (u64.wrap (i64.wrap (a0+b0))) 1)+m0) - ff))::sy [g18,.any,.any])),[],h16⟩∧Has h16 ((aG,.sl ax.length 1 (af.l kZ))::L)) LL H ?_ ?_
    ·rintro kZ s ⟨g17,g18,h16,rfl,zt⟩ H
     have H:=(MM _).symm.trans H
     try dsimp only at H
     obtain⟨sO,F3,H⟩:=oQ H
     refine qj (S:=fun (σ:(List Int)) s=>match σ with | pa=>∃(g19:AV) (g20:AV) (g21:AV) (h18:AHeap),s=⟨.rs aG 0 ax.length 1::g19 :: .any :: .int .i64 b0 :: .fn eU a7::Cr (.int .i64 (i64.wrap (ji .u64 (u64.wrap (i64.wrap (a0+b0))) 1)) :: .any::g20::rA (.int .i64 (i64.wrap (i64.wrap (i64.wrap (ji .u64 (u64.wrap (i64.wrap (a0+b0))) 1)+m0) - ff))::vz [g21,.any])),[],h18⟩∧Has h18 ((aG,.sl ax.length 1 (af.l pa))::L)) sO H ?_ ?_
     ·rintro pa s ⟨g19,g20,g21,h18,rfl,De⟩ H
      have H:=(F3 _).symm.trans H
      try dsimp only at H
      refine qq ?_
      rcases iw H with⟨Jl,H⟩| ⟨Jl,H⟩
      ·refine qr [.b 3 Jl] <| qc H (fun Td H=>?_) (fun Td H=>?_)
       ·obtain⟨x2,Kj,H⟩:=bk H
        obtain⟨h19,H0,CI⟩:=iJ _ _ _ _ _ _ Kj h18 _ _ _ (De) eU a7 aU gK hX (fun h' K' o'=>hY h' (K'++[]) (by simpa only [VI,V6,V7] using o')) iI [.rs aG 0 ax.length 1,.int .i64 (i64.wrap (ji .u64 (u64.wrap (i64.wrap (a0+b0))) 1)),.int .i64 (i64.wrap (i64.wrap (i64.wrap (ji .u64 (u64.wrap (i64.wrap (a0+b0))) 1)+m0) - ff)),.int .i64 b0,.fn eU a7] (ar (rfl) (ar (aO (aW)) (ar (aO (aW)) (ar (aO (aW)) (ar (gK) (bA))))))
        obtain rfl:=oi H
        exact qr [.a 5 H0] <| ⟨.inr rfl,⟨by kernel_rfl,he CI⟩⟩
       ·obtain rfl:=oi H
        exact qk <| ⟨.inr rfl,⟨by kernel_rfl,he De⟩⟩
      ·obtain rfl:=oi H
       exact qr [.b 3 Jl] <| Eg <| qk <| ⟨.inr rfl,⟨by kernel_rfl,he De⟩⟩
     clear F3
     intro Jo
     refine qq ?_
     rcases iw H with⟨Ez,H⟩| ⟨Ez,H⟩
     ·refine qr [.b 3 Ez] <| qc H (fun OQ H=>?_) (fun OQ H=>?_)
      ·obtain⟨x1,LP,H⟩:=bk H
       obtain⟨h17,Kk,Df⟩:=iJ _ _ _ _ _ _ LP h16 _ _ _ (zt) eU a7 aU gK hX (fun h' K' o'=>hY h' (K'++[]) (by simpa only [VI,V6,V7] using o')) iI [.rs aG 0 ax.length 1,.int .i64 a0,.int .i64 ff,.int .i64 (i64.wrap (ji .u64 (u64.wrap (i64.wrap (a0+b0))) 1)),.fn eU a7] (ar (rfl) (ar (aO (aW)) (ar (aO (aW)) (ar (aO (aW)) (ar (gK) (bA))))))
       exact qr [.a 5 Kk] <| Jo x1 _ ⟨.any,.any,.any,h17,by kernel_rfl,Df⟩ H
      ·exact qk <| Jo kZ _ ⟨.int .i64 a0,.int .i64 ff,.bool (decide (ff<(i64.wrap (ji .u64 (u64.wrap (i64.wrap (a0+b0))) 1)))),h16,by kernel_rfl,zt⟩ H
     ·exact qr [.b 3 Ez] <| Eg <| qk <| Jo kZ _ ⟨.int .i64 a0,.int .i64 ff,.bool false,h16,by kernel_rfl,zt⟩ H
    clear MM
    intro Jp
    refine qq ?_
    rcases iw H with⟨xK,H⟩| ⟨xK,H⟩
    ·refine qr [.b 3 xK] <| qc H (fun yC H=>?_) (fun yC H=>?_)
     ·obtain⟨x0,H2,H⟩:=bk H
      obtain⟨h15,Kl,EN⟩:=LO _ _ _ _ _ _ H2 h14 _ _ _ (vR) eU a7 aU gK hX (fun h' K' o'=>hY h' (K'++[]) (by simpa only [VI,V6,V7] using o')) iI [.rs aG 0 ax.length 1,.int .i64 ff,.int .i64 m0,.int .i64 (i64.wrap (i64.wrap (i64.wrap (ji .u64 (u64.wrap (i64.wrap (a0+b0))) 1)+m0) - ff)),.fn eU a7] (ar (rfl) (ar (aO (aW)) (ar (aO (aW)) (ar (aO (aW)) (ar (gK) (bA))))))
      exact qr [.a 5 Kl] <| Jp x0 _ ⟨.any,.any,h15,by kernel_rfl,EN⟩ H
     ·exact qk <| Jp ax _ ⟨.int .i64 m0,.bool (decide (m0<(i64.wrap (i64.wrap (i64.wrap (ji .u64 (u64.wrap (i64.wrap (a0+b0))) 1)+m0) - ff)))),h14,by kernel_rfl,vR⟩ H
    ·exact qr [.b 3 xK] <| Eg <| qk <| Jp ax _ ⟨.int .i64 m0,.bool false,h14,by kernel_rfl,vR⟩ H
   clear HZ
   intro tC
   refine q1 <| qc H (fun c8 H=>?_) (fun c8 H=>?_)
   ·exact q1 <| q0 <| tC (i64.wrap (i64.wrap (i64.wrap (ji .u64 (u64.wrap (i64.wrap (a0+b0))) 1)+m0) - b0),i64.wrap (ji .u64 (u64.wrap (i64.wrap (a0+b0))) 1)) _ ⟨h,by kernel_rfl,o⟩ H
   ·exact q1 <| q0 <| tC (a0,m0) _ ⟨h,by kernel_rfl,o⟩ H
end
end Go.Proofs.Ytifafejidnjckaa
namespace Go.Proofs.Ytifafejidnjckaa
open Go Go.R
open Go.IntKind (i64 u64 u8 u32)
def Bc:b5:=gV [0,1,2,6,7,8,9,10,17,27] [] [1016,984,728,999,830,446,1023,999,999] [(6,[(9,none,0)])] [(0,[(6,none,1)]),(3,[(6,none,1)]),(7,[(6,none,1)])]
def dh.f (m:Nat)(s0:ab)(a0:Int)(b0:Int):Option ((List Int) × Int × ab):=(bW.f m s0 ([a0,b0])).bind fun x0=>if (!(x0==(0:Int)))=true then (some (([]:List Int),x0,s0)) else ((az.f m s0 a0 b0).bind fun x1=>if (!x1.2.1)=true then ((be.f m x1.2.2 x1.1).bind fun x2=>some (([]:List Int),(8:Int),x2)) else ((cD.f m x1.2.2 x1.1).bind fun x3=>some (x3,(0:Int),x1.2.2)))
def dh.fin (L:Mem)(ao:Nat)(ak:Nat)(an:Nat)(s0:ab)(a0:Int)(b0:Int)(r:(List Int) × Int × ab)(s:St):Prop:=∃eB aA aB:Nat,aP Try.prog (s.open Bc) Try.f16.results.toList=some (.tup [.rs eB 0 r.1.length 1,.int .i64 r.2.1])∧Has s.h ((eB,.sl r.1.length 1 (af.l r.1))::(ao,.ob [.bool r.2.2.aj,.rs aA 0 r.2.2.aa.length 4,.rs aB 0 r.2.2.ae.length 1])::(aA,.sl r.2.2.aa.length 4 (ai.l r.2.2.aa))::(aB,.sl r.2.2.ae.length 1 (af.l r.2.2.ae))::L)
def Rc (cf:CallF)(m:Nat):Prop:=∀(s0:ab) (a0:Int) (b0:Int) (r:(List Int) × Int × ab),dh.f m s0 a0 b0=some r→∀h L (ao:Nat) (ak:Nat) (an:Nat),Has h ((ao,.ob [.bool s0.aj,.rs ak 0 s0.aa.length 4,.rs an 0 s0.ae.length 1])::(ak,.sl s0.aa.length 4 (ai.l s0.aa))::(an,.sl s0.ae.length 1 (af.l s0.ae))::L)→∀xs,xs.map aM=[.ptr ao 0,.int .i64 a0,.int .i64 b0]→∃eB aA aB h',cf 16 xs h=some (.tup [.rs eB 0 r.1.length 1,.int .i64 r.2.1],h')∧Has h' ((eB,.sl r.1.length 1 (af.l r.1))::(ao,.ob [.bool r.2.2.aj,.rs aA 0 r.2.2.aa.length 4,.rs aB 0 r.2.2.ae.length 1])::(aA,.sl r.2.2.aa.length 4 (ai.l r.2.2.aa))::(aB,.sl r.2.2.ae.length 1 (af.l r.2.2.ae))::L)
section
variable {cf:CallF}{m:Nat}
theorem lL {aX:FuncId→b5}(ha:aX 16=Bc)(EU:MH cf m)(Jq:OB cf m)(Jr:Oc cf m)(Js:OI cf m)(s0:ab)(a0:Int)(b0:Int)(h:AHeap)(L:Mem)(ao:Nat)(ak:Nat)(an:Nat)  (o:Has h ((ao,.ob [.bool s0.aj,.rs ak 0 s0.aa.length 4,.rs an 0 s0.ae.length 1])::(ak,.sl s0.aa.length 4 (ai.l s0.aa))::(an,.sl s0.ae.length 1 (af.l s0.ae))::L)){out:(List Int) × Int × ab}(H:dh.f m s0 a0 b0=some out) :
  ∃r h',a6 Try.prog aX cf m 16 [.ptr ao 0,.int .i64 a0,.int .i64 b0] h=some (r,h')∧∃eB aA aB:Nat,r = .tup [.rs eB 0 out.1.length 1,.int .i64 out.2.1]∧Has h' ((eB,.sl out.1.length 1 (af.l out.1))::(ao,.ob [.bool out.2.2.aj,.rs aA 0 out.2.2.aa.length 4,.rs aB 0 out.2.2.ae.length 1])::(aA,.sl out.2.2.aa.length 4 (ai.l out.2.2.aa))::(aB,.sl out.2.2.ae.length 1 (af.l out.2.2.ae))::L):=by
 refine au (fn:=Try.f16) ha Try.func16 (by kernel_rfl) (by kernel_rfl) ?_
 refine aK (Q:=fun s=>dh.fin L ao ak an s0 a0 b0 out s) (fun _ _ ⟨h1,eB,aA,aB,h2,h3⟩=>⟨h1,_,h2,eB,aA,aB,rfl,h3⟩) ?_
 have H:_=some out:=H
 unfold dh.f at H
 show du _ cf Bc m _ ⟨.ptr ao 0 :: .int .i64 a0 :: .int .i64 b0::HS [],[],h⟩ _
 refine q1 <| qq <| qq ?_
 obtain⟨x0,e0,H⟩:=bk H
 refine qr [.a 4 (EU _ _ _ e0 h _ (eQ (ah (bS (q:=0) o rfl (ah (b4) (ah (bI (E:=ai) (l:=s0.aa) (q:=1) o rfl (fun _=>rfl)) (ah (bI (E:=af) (l:=s0.ae) (q:=2) o rfl (fun _=>rfl)) (aw))))) (ah (sq (E:=af) (l:=[a0,b0]) (cs:=[.int .i64 a0,.int .i64 b0]) (b:=true) (by kernel_rfl) (by kernel_rfl) rfl) (aw)))))] <| qq <| q0 <| qc H (fun c0 H=>?_) (fun c0 H=>?_)
 ·refine q1 ?_
  have o0:Has h (((0),.sl (([]:List Int).length) 1 (af.l ([]:List Int)))::(ao,.ob [.bool s0.aj,.rs ak 0 s0.aa.length 4,.rs an 0 s0.ae.length 1])::(ak,.sl s0.aa.length 4 (ai.l s0.aa))::(an,.sl s0.ae.length 1 (af.l s0.ae))::L):=Has.nil o 1
  obtain rfl:=oi H
  exact qt <| ⟨.inl rfl,⟨(0),ak,an,by kernel_rfl,he o0⟩⟩
 ·refine qk <| qq ?_
  obtain⟨x1,e1,H⟩:=bk H
  obtain⟨aG,eo,eX,h0,e2,o1⟩:=Jq _ _ _ _ e1 h _ _ _ _ (o)  [.ptr ao 0,.int .i64 a0,.int .i64 b0] (ar (rfl) (ar (aO (aW)) (ar (aO (aW)) (bA))))
  refine qr [.a 3 e2] <| qq <| qq <| q0 <| qc H (fun c1 H=>?_) (fun c1 H=>?_)
  ·refine qq ?_
   obtain⟨h1,e3,o2⟩:=so (E:=af) (l:=x1.1) (q:=0) o1 rfl
   obtain⟨x2,e4,H⟩:=bk H
   obtain⟨cV,dW,h2,e5,o3⟩:=Jr _ _ _ e4 h1 _ _ _ _ (o2)  [.ptr ao 0,af.fz x1.1] (ar (rfl) (ar (aO (jg (E:=af))) (bA)))
   refine Ln [.a 0 e3] [.a 2 e5] <| qq <| q0 ?_
   have o4:Has h2 ((((0)),.sl (([]:List Int).length) 1 (af.l ([]:List Int)))::(ao,.ob [.bool x2.aj,.rs cV 0 x2.aa.length 4,.rs dW 0 x2.ae.length 1])::(cV,.sl x2.aa.length 4 (ai.l x2.aa))::(dW,.sl x2.ae.length 1 (af.l x2.ae))::L):=Has.nil o3 1
   obtain rfl:=oi H
   exact qt <| ⟨.inl rfl,⟨((0)),cV,dW,by kernel_rfl,he o4⟩⟩
  ·refine qk <| qq ?_
   obtain⟨x3,e6,H⟩:=bk H
   obtain⟨eT,h3,e7,o5,Il⟩:=Js _ _ _ e6 h0 _ _ o1 (eQ (ah (bS (q:=1) o1 rfl (ah (b4) (ah (bI (E:=ai) (l:=x1.2.2.aa) (q:=2) o1 rfl (fun _=>rfl)) (ah (bI (E:=af) (l:=x1.2.2.ae) (q:=3) o1 rfl (fun _=>rfl)) (aw))))) (ah (bI (E:=af) (l:=x1.1) (q:=0) o1 rfl (fun _=>rfl)) (aw))))
   refine qr [.a 2 e7] ?_
   have o6:Has h3 ((eT,.sl x3.length 1 (af.l x3))::(ao,.ob [.bool x1.2.2.aj,.rs eo 0 x1.2.2.aa.length 4,.rs eX 0 x1.2.2.ae.length 1])::(eo,.sl x1.2.2.aa.length 4 (ai.l x1.2.2.aa))::(eX,.sl x1.2.2.ae.length 1 (af.l x1.2.2.ae))::L):=Has.del o5 1
   obtain rfl:=oi H
   exact qt <| ⟨.inl rfl,⟨eT,eo,eX,by kernel_rfl,he o6⟩⟩
end
end Go.Proofs.Ytifafejidnjckaa
namespace Go.Proofs.Ytifafejidnjckaa
open Go Go.R
open Go.IntKind (i64 u64 u8 u32)
def kl.f (m:Nat)(s0:ab)(n0:Int):Option (aq × Int):=(bW.f m s0 ([n0])).bind fun x0=>if (!(x0==(0:Int)))=true then (some ((aq.mk (0:Int) (0:Int) (Wh #[]) ([]:List Int)),x0)) else ((bc.f m s0 n0).bind fun x1=>(gA.f m s0 x1).bind fun x2=>some (x2,(0:Int)))
end Go.Proofs.Ytifafejidnjckaa
namespace Go.Proofs.Ytifafejidnjckaa
open Go Go.R
open Go.IntKind (i64 u64 u8 u32)
def Bd:b5:=gV [0,1,2,6,7,8,9,10,11,12,19,34,37] [] [8184,8120,7096,8135,7806,7806,7423,5631,8135,3583,8135,8135] [(5,[(10,none,0)])] [(0,[(7,none,1)]),(3,[(7,none,1)]),(8,[(7,none,1)]),(10,[(7,none,1)])]
def dB.f (m:Nat)(s0:ab)(a0:Int)(b0:Int):Option (Int × (List Int) × Int × ab):=(bW.f m s0 ([a0,b0])).bind fun x0=>if (!(x0==(0:Int)))=true then (some ((0:Int),([]:List Int),x0,s0)) else ((az.f m s0 a0 b0).bind fun x1=>(be.f m x1.2.2 x1.1).bind fun x2=>(cD.f m x2 x1.1).bind fun x3=>if (!x1.2.1)=true then (some ((0:Int),([]:List Int),(0:Int),x2)) else (if ((x3.length:Int)==(0:Int))=true then (some ((1:Int),([]:List Int),(0:Int),x2)) else (some ((-1:Int),x3,(0:Int),x2))))
def dB.fin (L:Mem)(ao:Nat)(ak:Nat)(an:Nat)(s0:ab)(a0:Int)(b0:Int)(r:Int × (List Int) × Int × ab)(s:St):Prop:=∃Dg aA aB:Nat,aP Try.prog (s.open Bd) Try.f23.results.toList=some (.tup [.int .i64 r.1,.rs Dg 0 r.2.1.length 1,.int .i64 r.2.2.1])∧Has s.h ((Dg,.sl r.2.1.length 1 (af.l r.2.1))::(ao,.ob [.bool r.2.2.2.aj,.rs aA 0 r.2.2.2.aa.length 4,.rs aB 0 r.2.2.2.ae.length 1])::(aA,.sl r.2.2.2.aa.length 4 (ai.l r.2.2.2.aa))::(aB,.sl r.2.2.2.ae.length 1 (af.l r.2.2.2.ae))::L)
def Re (cf:CallF)(m:Nat):Prop:=∀(s0:ab) (a0:Int) (b0:Int) (r:Int × (List Int) × Int × ab),dB.f m s0 a0 b0=some r→∀h L (ao:Nat) (ak:Nat) (an:Nat),Has h ((ao,.ob [.bool s0.aj,.rs ak 0 s0.aa.length 4,.rs an 0 s0.ae.length 1])::(ak,.sl s0.aa.length 4 (ai.l s0.aa))::(an,.sl s0.ae.length 1 (af.l s0.ae))::L)→∀xs,xs.map aM=[.ptr ao 0,.int .i64 a0,.int .i64 b0]→∃Dg aA aB h',cf 23 xs h=some (.tup [.int .i64 r.1,.rs Dg 0 r.2.1.length 1,.int .i64 r.2.2.1],h')∧Has h' ((Dg,.sl r.2.1.length 1 (af.l r.2.1))::(ao,.ob [.bool r.2.2.2.aj,.rs aA 0 r.2.2.2.aa.length 4,.rs aB 0 r.2.2.2.ae.length 1])::(aA,.sl r.2.2.2.aa.length 4 (ai.l r.2.2.2.aa))::(aB,.sl r.2.2.2.ae.length 1 (af.l r.2.2.2.ae))::L)
section
variable {cf:CallF}{m:Nat}
theorem mb {aX:FuncId→b5}(ha:aX 23=Bd)(EU:MH cf m)(Jq:OB cf m)(Jr:Oc cf m)(Js:OI cf m)(s0:ab)(a0:Int)(b0:Int)(h:AHeap)(L:Mem)(ao:Nat)(ak:Nat)(an:Nat)  (o:Has h ((ao,.ob [.bool s0.aj,.rs ak 0 s0.aa.length 4,.rs an 0 s0.ae.length 1])::(ak,.sl s0.aa.length 4 (ai.l s0.aa))::(an,.sl s0.ae.length 1 (af.l s0.ae))::L)){out:Int × (List Int) × Int × ab}(H:dB.f m s0 a0 b0=some out) :
  ∃r h',a6 Try.prog aX cf m 23 [.ptr ao 0,.int .i64 a0,.int .i64 b0] h=some (r,h')∧∃Dg aA aB:Nat,r = .tup [.int .i64 out.1,.rs Dg 0 out.2.1.length 1,.int .i64 out.2.2.1]∧Has h' ((Dg,.sl out.2.1.length 1 (af.l out.2.1))::(ao,.ob [.bool out.2.2.2.aj,.rs aA 0 out.2.2.2.aa.length 4,.rs aB 0 out.2.2.2.ae.length 1])::(aA,.sl out.2.2.2.aa.length 4 (ai.l out.2.2.2.aa))::(aB,.sl out.2.2.2.ae.length 1 (af.l out.2.2.2.ae))::L):=by
 refine au (fn:=Try.f23) ha Try.func23 (by kernel_rfl) (by kernel_rfl) ?_
 refine aK (Q:=fun s=>dB.fin L ao ak an s0 a0 b0 out s) (fun _ _ ⟨h1,Dg,aA,aB,h2,h3⟩=>⟨h1,_,h2,Dg,aA,aB,rfl,h3⟩) ?_
 have H:_=some out:=H
 unfold dB.f at H
 show du _ cf Bd m _ ⟨.ptr ao 0 :: .int .i64 a0 :: .int .i64 b0::Ll [],[],h⟩ _
 refine q1 <| qq <| qq ?_
 obtain⟨x0,e0,H⟩:=bk H
 refine qr [.a 4 (EU _ _ _ e0 h _ (eQ (ah (bS (q:=0) o rfl (ah (b4) (ah (bI (E:=ai) (l:=s0.aa) (q:=1) o rfl (fun _=>rfl)) (ah (bI (E:=af) (l:=s0.ae) (q:=2) o rfl (fun _=>rfl)) (aw))))) (ah (sq (E:=af) (l:=[a0,b0]) (cs:=[.int .i64 a0,.int .i64 b0]) (b:=true) (by kernel_rfl) (by kernel_rfl) rfl) (aw)))))] <| qq <| q0 <| qc H (fun c0 H=>?_) (fun c0 H=>?_)
 ·refine q1 ?_
  have o0:Has h (((0),.sl (([]:List Int).length) 1 (af.l ([]:List Int)))::(ao,.ob [.bool s0.aj,.rs ak 0 s0.aa.length 4,.rs an 0 s0.ae.length 1])::(ak,.sl s0.aa.length 4 (ai.l s0.aa))::(an,.sl s0.ae.length 1 (af.l s0.ae))::L):=Has.nil o 1
  obtain rfl:=oi H
  exact qt <| ⟨.inl rfl,⟨(0),ak,an,by kernel_rfl,he o0⟩⟩
 ·refine qk <| qq ?_
  obtain⟨x1,e1,H⟩:=bk H
  obtain⟨aG,eo,eX,h0,e2,o1⟩:=Jq _ _ _ _ e1 h _ _ _ _ (o)  [.ptr ao 0,.int .i64 a0,.int .i64 b0] (ar (rfl) (ar (aO (aW)) (ar (aO (aW)) (bA))))
  refine qr [.a 3 e2] <| qq ?_
  obtain⟨h1,e3,o2⟩:=so (E:=af) (l:=x1.1) (q:=0) o1 rfl
  obtain⟨x2,e4,H⟩:=bk H
  obtain⟨cV,dW,h2,e5,o3⟩:=Jr _ _ _ e4 h1 _ _ _ _ (o2)  [.ptr ao 0,af.fz x1.1] (ar (rfl) (ar (aO (jg (E:=af))) (bA)))
  refine Ln [.a 0 e3] [.a 2 e5] <| qq ?_
  obtain⟨x3,e6,H⟩:=bk H
  obtain⟨eT,h3,e7,o4,Il⟩:=Js _ _ _ e6 h2 _ _ o3 (eQ (ah (bS (q:=0) o3 rfl (ah (b4) (ah (bI (E:=ai) (l:=x2.aa) (q:=1) o3 rfl (fun _=>rfl)) (ah (bI (E:=af) (l:=x2.ae) (q:=2) o3 rfl (fun _=>rfl)) (aw))))) (ah (eG (E:=af)) (aw))))
  refine qr [.a 2 e7] <| qq <| qb 0 <| qq <| q0 <| qc H (fun c1 H=>?_) (fun c1 H=>?_)
  ·refine q1 ?_
   have o5:Has h3 ((((0)),.sl (([]:List Int).length) 1 (af.l ([]:List Int)))::(eT,.sl x3.length 1 (af.l x3))::(ao,.ob [.bool x2.aj,.rs cV 0 x2.aa.length 4,.rs dW 0 x2.ae.length 1])::(cV,.sl x2.aa.length 4 (ai.l x2.aa))::(dW,.sl x2.ae.length 1 (af.l x2.ae))::L):=Has.nil o4 1
   have o6:Has h3 ((((0)),.sl (([]:List Int).length) 1 (af.l ([]:List Int)))::(ao,.ob [.bool x2.aj,.rs cV 0 x2.aa.length 4,.rs dW 0 x2.ae.length 1])::(cV,.sl x2.aa.length 4 (ai.l x2.aa))::(dW,.sl x2.ae.length 1 (af.l x2.ae))::L):=Has.del o5 1
   obtain rfl:=oi H
   exact qt <| ⟨.inl rfl,⟨((0)),cV,dW,by kernel_rfl,he o6⟩⟩
  ·refine q1 <| qc H (fun c2 H=>?_) (fun c2 H=>?_)
   ·refine q1 ?_
    have o7:Has h3 (((((0))),.sl (([]:List Int).length) 1 (af.l ([]:List Int)))::(eT,.sl x3.length 1 (af.l x3))::(ao,.ob [.bool x2.aj,.rs cV 0 x2.aa.length 4,.rs dW 0 x2.ae.length 1])::(cV,.sl x2.aa.length 4 (ai.l x2.aa))::(dW,.sl x2.ae.length 1 (af.l x2.ae))::L):=Has.nil o4 1
    have o8:Has h3 (((((0))),.sl (([]:List Int).length) 1 (af.l ([]:List Int)))::(ao,.ob [.bool x2.aj,.rs cV 0 x2.aa.length 4,.rs dW 0 x2.ae.length 1])::(cV,.sl x2.aa.length 4 (ai.l x2.aa))::(dW,.sl x2.ae.length 1 (af.l x2.ae))::L):=Has.del o7 1
    obtain rfl:=oi H
    exact qt <| ⟨.inl rfl,⟨(((0))),cV,dW,by kernel_rfl,he o8⟩⟩
   ·obtain rfl:=oi H
    exact qk <| qq <| q0 <| qt <| ⟨.inl rfl,⟨eT,cV,dW,by kernel_rfl,he o4⟩⟩
end
end Go.Proofs.Ytifafejidnjckaa
namespace Go.Proofs.Ytifafejidnjckaa
open Go Go.R
open Go.IntKind (i64 u64 u8 u32)
def Be:b5:=gV [0,1,4,5,6,12] [] [60,44,12,51,51] [] []
def dS.f (m:Nat)(s0:ab)(n0:Int):Option (Int × Int):=(bW.f m s0 ([n0])).bind fun x0=>if (!(x0==(0:Int)))=true then (some ((0:Int),x0)) else ((bc.f m s0 n0).bind fun x1=>some (x1,(0:Int)))
def dS.fin (L:Mem)(r:Int × Int)(s:St):Prop:=∃av,aP Try.prog (s.open Be) Try.f24.results.toList=some av∧fD s.h av (.tup [.int .i64 r.1,.int .i64 r.2])
def OW (cf:CallF)(m:Nat):Prop:=∀(s0:ab) (n0:Int) (r:Int × Int),dS.f m s0 n0=some r→∀h xs,aQ bQ h xs [.fp [.bool s0.aj,ai.fz s0.aa,af.fz s0.ae] 0,.int .i64 n0]→cf 24 xs h=some (.tup [.int .i64 r.1,.int .i64 r.2],h)
section
variable {cf:CallF}{m:Nat}
theorem mN {aX:FuncId→b5}(ha:aX 24=Be)(EU:MH cf m)(CG:MD cf m)(s0:ab)(n0:Int)(h:AHeap)(L:Mem)  (o:Has h (L)){out:Int × Int}(H:dS.f m s0 n0=some out) :
  ∃r h',a6 Try.prog aX cf m 24 [.fp [.bool s0.aj,ai.fz s0.aa,af.fz s0.ae] 0,.int .i64 n0] h=some (r,h')∧fD h' r (.tup [.int .i64 out.1,.int .i64 out.2]):=by
 refine au (fn:=Try.f24) ha Try.func24 (by kernel_rfl) (by kernel_rfl) ?_
 refine aK (Q:=fun s=>dS.fin L out s) (fun _ _ h=>h) ?_
 have H:_=some out:=H
 unfold dS.f at H
 show du _ cf Be m _ ⟨.fp [.bool s0.aj,ai.fz s0.aa,af.fz s0.ae] 0 :: .int .i64 n0::oc [],[],h⟩ _
 refine q1 <| qq <| qq ?_
 obtain⟨x0,e0,H⟩:=bk H
 refine qr [.a 3 (EU _ _ _ e0 h _ (eQ (ah (gv (pure_cons (dO) (pure_cons (bM.bG (E:=ai) (l:=s0.aa)) (pure_cons (bM.bG (E:=af) (l:=s0.ae)) (pure_nil))))) (ah (sq (E:=af) (l:=[n0]) (cs:=[.int .i64 n0]) (b:=true) (by kernel_rfl) (by kernel_rfl) rfl) (aw)))))] <| qq <| q0 <| qc H (fun c0 H=>?_) (fun c0 H=>?_)
 ·obtain rfl:=oi H
  exact q1 <| qt <| ⟨.inl rfl,dv (.tup [.int .i64 (0:Int),.int .i64 x0]) h (dq (Ea (ry (dk) (ry (dk) (D9)))))⟩
 ·refine qk <| qq ?_
  obtain⟨x1,e1,H⟩:=bk H
  obtain rfl:=oi H
  exact qr [.a 2 (CG _ _ _ e1 h _ (eQ (ah (gv (pure_cons (dO) (pure_cons (bM.bG (E:=ai) (l:=s0.aa)) (pure_cons (bM.bG (E:=af) (l:=s0.ae)) (pure_nil))))) (ah (bD) (aw)))))] <| qt <| ⟨.inl rfl,dv (.tup [.int .i64 x1,.int .i64 (0:Int)]) h (dq (Ea (ry (dk) (ry (dk) (D9)))))⟩
end
end Go.Proofs.Ytifafejidnjckaa
namespace Go.Proofs.Ytifafejidnjckaa
open Go Go.R
open Go.IntKind (i64 u64 u8 u32)
def Bf:b5:=gV [0,1,2,3,4,5,6,7,8] [1000000014] [455,199,319] [] []
def dN.f (m:Nat)(s0:ab)(cp:ByteArray)(dz:List Int):Option (Int × Int × ab):=(Aq 1 dz).bind fun x0=>(b7.f m s0 (cw.f m cp dz s0) (aq.mk (3:Int) (0:Int) cp x0)).bind fun x1=>some (x1.1,x1.2.1,x1.2.2)
def dN.fin (L:Mem)(ao:Nat)(ak:Nat)(an:Nat)(s0:ab)(cp:ByteArray)(dz:List Int)(r:Int × Int × ab)(s:St):Prop:=∃aA aB:Nat,aP Try.prog (s.open Bf) Try.f34.results.toList=some (.tup [.int .i64 r.1,.int .i64 r.2.1])∧Has s.h ((ao,.ob [.bool r.2.2.aj,.rs aA 0 r.2.2.aa.length 4,.rs aB 0 r.2.2.ae.length 1])::(aA,.sl r.2.2.aa.length 4 (ai.l r.2.2.aa))::(aB,.sl r.2.2.ae.length 1 (af.l r.2.2.ae))::L)
def Rf (cf:CallF)(m:Nat):Prop:=∀(s0:ab) (cp:ByteArray) (dz:List Int) (r:Int × Int × ab),dN.f m s0 cp dz=some r→∀h L (ao:Nat) (ak:Nat) (an:Nat),Has h ((ao,.ob [.bool s0.aj,.rs ak 0 s0.aa.length 4,.rs an 0 s0.ae.length 1])::(ak,.sl s0.aa.length 4 (ai.l s0.aa))::(an,.sl s0.ae.length 1 (af.l s0.ae))::L)→∀xs,xs.map aM=[.ptr ao 0,.str cp,af.fz dz]→∃aA aB h',cf 34 xs h=some (.tup [.int .i64 r.1,.int .i64 r.2.1],h')∧Has h' ((ao,.ob [.bool r.2.2.aj,.rs aA 0 r.2.2.aa.length 4,.rs aB 0 r.2.2.ae.length 1])::(aA,.sl r.2.2.aa.length 4 (ai.l r.2.2.aa))::(aB,.sl r.2.2.ae.length 1 (af.l r.2.2.ae))::L)
section
variable {cf:CallF}{m:Nat}
theorem lM {aX:FuncId→b5}(ha:aX 34=Bf)(EA:Ob cf m)(vN:Ki cf m)(OX:Q9 cf m)(s0:ab)(cp:ByteArray)(dz:List Int)(h:AHeap)(L:Mem)(ao:Nat)(ak:Nat)(an:Nat)  (o:Has h ((ao,.ob [.bool s0.aj,.rs ak 0 s0.aa.length 4,.rs an 0 s0.ae.length 1])::(ak,.sl s0.aa.length 4 (ai.l s0.aa))::(an,.sl s0.ae.length 1 (af.l s0.ae))::L)){out:Int × Int × ab}(H:dN.f m s0 cp dz=some out) :
  ∃r h',a6 Try.prog aX cf m 34 [.ptr ao 0,.str cp,af.fz dz] h=some (r,h')∧∃aA aB:Nat,r = .tup [.int .i64 out.1,.int .i64 out.2.1]∧Has h' ((ao,.ob [.bool out.2.2.aj,.rs aA 0 out.2.2.aa.length 4,.rs aB 0 out.2.2.ae.length 1])::(aA,.sl out.2.2.aa.length 4 (ai.l out.2.2.aa))::(aB,.sl out.2.2.ae.length 1 (af.l out.2.2.ae))::L):=by
 refine au (fn:=Try.f34) ha Try.func34 (by kernel_rfl) (by kernel_rfl) ?_
 refine aK (Q:=fun s=>dN.fin L ao ak an s0 cp dz out s) (fun _ _ ⟨h1,aA,aB,h2,h3⟩=>⟨h1,_,h2,aA,aB,rfl,h3⟩) ?_
 have H:_=some out:=H
 unfold dN.f at H
 show du _ cf Bf m _ ⟨.ptr ao 0 :: .str cp::af.fz dz::xk [],[none],h⟩ _
 refine qq ?_
 obtain⟨aG,h0,e0,o0⟩:=fY (cs:=[.ptr ao 0]) o (by kernel_rfl)
 obtain⟨eo,h1,e1,o1⟩:=fY (cs:=[.str cp]) o0 (by kernel_rfl)
 obtain⟨eX,h2,e2,o2⟩:=fY (cs:=[af.fz dz]) o1 (by kernel_rfl)
 refine qr [.a 0 e0,.a 1 e1,.a 2 e2] <| qq <| q0 <| qq ?_
 obtain⟨x0,e3,H⟩:=bk H
 obtain⟨cV,h3,e4,o3⟩:=Ls (E:=af) (l:=dz) EA o2 e3
 obtain⟨h4,e5,o4⟩:=so (E:=af) (l:=x0) (q:=0) o3 rfl
 obtain⟨x1,e6,H⟩:=bk H
 obtain⟨dW,eT,h5,e7,o5⟩:=vN _ _ _ _ e6 h4 _ _ _ _ ((Has.front (Has.front (Has.front (Has.front (Has.front (Has.front o4 2 rfl) 2 rfl) 2 rfl) 5 rfl) 5 rfl) 5 rfl)) 61 [.ptr eo 0,.ptr eX 0,.ptr aG 0] [.fp [.str cp] 0,.fp [af.fz dz] 0,.fp [.fp [.bool s0.aj,ai.fz s0.aa,af.fz s0.ae] 0] 0] rfl (fun h' tE  r hr hx=>OX _ _ _ r hr h' tE hx) (fun h' K' o'=>iM (ah (bS (q:=(K'.length+4)) o' (jo rfl) (ah (cU) (aw))) (ah (bS (q:=(K'.length+3)) o' (jo rfl) (ah (eG (E:=af)) (aw))) (ah (bS (q:=(K'.length+5)) o' (jo rfl) (ah (bS (q:=(K'.length+0)) o' (jo rfl) (ah (b4) (ah (bI (E:=ai) (l:=s0.aa) (q:=(K'.length+1)) o' (jo rfl) (fun _=>rfl)) (ah (bI (E:=af) (l:=s0.ae) (q:=(K'.length+2)) o' (jo rfl) (fun _=>rfl)) (aw))))) (aw))) (aw))))) (fun h_=>iM (ah (gv (pure_cons (mC) (pure_nil))) (ah (gv (pure_cons (bM.bG (E:=af) (l:=dz)) (pure_nil))) (ah (gv (pure_cons (lC (pure_cons (dO) (pure_cons (bM.bG (E:=ai) (l:=s0.aa)) (pure_cons (bM.bG (E:=af) (l:=s0.ae)) (pure_nil))))) (pure_nil))) (aw))))) [.ptr ao 0,.fn 61 [.ptr eo 0,.ptr eX 0,.ptr aG 0],.agg [.int .i64 (3:Int),.int .i64 (0:Int),.str cp,af.fz x0]] (ar (rfl) (ar (rfl) (ar (aO (jV (ba (aW) (ba (aW) (ba (iT) (ba (jg (E:=af)) (jU))))))) (bA))))
 refine Kf [] [.v 0 (show bl Try.prog h2 28 (.ptr aG 0)=some (.ptr ao 0) from bV (q:=2) (cs:=[.ptr ao 0]) o2 rfl (by kernel_rfl)),.v 2 (show bl Try.prog h2 9 (.ptr eo 0)=some (.str cp) from bV (q:=1) (cs:=[.str cp]) o2 rfl (by kernel_rfl)),.v 3 (show bl Try.prog h2 33 (.ptr eX 0)=some (af.fz dz) from bV (q:=0) (cs:=[af.fz dz]) o2 rfl (by kernel_rfl)),.a 4 (Lt e4 e5),.a 6 e7] [.mk ((zj EA o2 (q2:=2) rfl e4).trans (En (E:=af) (l:=x0) o3 (q:=0) (q2:=3) rfl rfl e5)),.mk ((zj EA o2 (q2:=1) rfl e4).trans (En (E:=af) (l:=x0) o3 (q:=0) (q2:=2) rfl rfl e5))] ?_
 have o6:Has h5 ((ao,.ob [.bool x1.2.2.aj,.rs dW 0 x1.2.2.aa.length 4,.rs eT 0 x1.2.2.ae.length 1])::(dW,.sl x1.2.2.aa.length 4 (ai.l x1.2.2.aa))::(eT,.sl x1.2.2.ae.length 1 (af.l x1.2.2.ae))::(eX,.ob [af.fz dz])::(eo,.ob [.str cp])::L):=Has.del o5 5
 have o7:Has h5 ((ao,.ob [.bool x1.2.2.aj,.rs dW 0 x1.2.2.aa.length 4,.rs eT 0 x1.2.2.ae.length 1])::(dW,.sl x1.2.2.aa.length 4 (ai.l x1.2.2.aa))::(eT,.sl x1.2.2.ae.length 1 (af.l x1.2.2.ae))::(eX,.ob [af.fz dz])::L):=Has.del o6 4
 have o8:Has h5 ((ao,.ob [.bool x1.2.2.aj,.rs dW 0 x1.2.2.aa.length 4,.rs eT 0 x1.2.2.ae.length 1])::(dW,.sl x1.2.2.aa.length 4 (ai.l x1.2.2.aa))::(eT,.sl x1.2.2.ae.length 1 (af.l x1.2.2.ae))::L):=Has.del o7 3
 obtain rfl:=oi H
 exact qt <| ⟨.inl rfl,⟨dW,eT,by kernel_rfl,he o8⟩⟩
end
end Go.Proofs.Ytifafejidnjckaa
namespace Go.Proofs.Ytifafejidnjckaa
open Go Go.R
open Go.IntKind (i64 u64 u8 u32)
def Bg:b5:=gV [0,1] [] [2,1] [] []
def dt.f (m:Nat)(x0:ByteArray):Option (Bool):=(fK.f m x0).bind fun x1=>some x1
def dt.fin (L:Mem)(r:Bool)(s:St):Prop:=∃av,aP Try.prog (s.open Bg) Try.f49.results.toList=some av∧fD s.h av (.bool r)
def Rh (cf:CallF)(m:Nat):Prop:=∀(x0:ByteArray) (r:Bool),dt.f m x0=some r→∀h xs,aQ bQ h xs [.fp [.str x0] 0]→cf 49 xs h=some (.bool r,h)
section
variable {cf:CallF}{m:Nat}
theorem k8 {aX:FuncId→b5}(ha:aX 49=Bg)(pR:MI cf m)(x0:ByteArray)(h:AHeap)(L:Mem)  (o:Has h (L)){out:Bool}(H:dt.f m x0=some out) :
  ∃r h',a6 Try.prog aX cf m 49 [.fp [.str x0] 0] h=some (r,h')∧fD h' r (.bool out):=by
 refine au (fn:=Try.f49) ha Try.func49 (by kernel_rfl) (by kernel_rfl) ?_
 refine aK (Q:=fun s=>dt.fin L out s) (fun _ _ h=>h) ?_
 have H:_=some out:=H
 unfold dt.f at H
 show du _ cf Bg m _ ⟨[.fp [.str x0] 0,.any],[],h⟩ _
 refine q1 <| qq ?_
 obtain⟨x1,e0,H⟩:=bk H
 obtain rfl:=oi H
 exact qr [.a 1 (pR _ _ e0 h _ (eQ (ah (cU) (aw))))] <| qt <| ⟨.inl rfl,dv (.bool x1) h (dq (aD))⟩
end
end Go.Proofs.Ytifafejidnjckaa
namespace Go.Proofs.Ytifafejidnjckaa
open Go Go.R
open Go.IntKind (i64 u64 u8 u32)
def Bh:b5:=gV [0,1,2,3] [2] [9,7] [] []
def gg.f (m:Nat)(n0:aq)(x0:bw):Option (Bool):=(iu.f m n0 (x0.nodes.length:Int)).bind fun x1=>some (!x1)
def gg.fin (L:Mem)(r:Bool)(s:St):Prop:=∃av,aP Try.prog (s.open Bh) Try.f66.results.toList=some av∧fD s.h av (.bool r)
def Ri (cf:CallF)(m:Nat):Prop:=∀(n0:aq) (x0:bw) (r:Bool),gg.f m n0 x0=some r→∀h xs,aQ bQ h xs [.agg [.int .i64 n0.kind,.int .i64 n0.int,.str n0.label,af.fz n0.args],.fp [ai.fz x0.nodes,.int .i64 x0.root] 0]→cf 66 xs h=some (.bool r,h)
section
variable {cf:CallF}{m:Nat}
theorem pb {aX:FuncId→b5}(ha:aX 66=Bh)(OY:Ra cf m)(n0:aq)(x0:bw)(h:AHeap)(L:Mem)  (o:Has h (L)){out:Bool}(H:gg.f m n0 x0=some out) :
  ∃r h',a6 Try.prog aX cf m 66 [.agg [.int .i64 n0.kind,.int .i64 n0.int,.str n0.label,af.fz n0.args],.fp [ai.fz x0.nodes,.int .i64 x0.root] 0] h=some (r,h')∧fD h' r (.bool out):=by
 refine au (fn:=Try.f66) ha Try.func66 (by kernel_rfl) (by kernel_rfl) ?_
 refine aK (Q:=fun s=>gg.fin L out s) (fun _ _ h=>h) ?_
 have H:_=some out:=H
 unfold gg.f at H
 show du _ cf Bh m _ ⟨[.agg [.int .i64 n0.kind,.int .i64 n0.int,.str n0.label,af.fz n0.args],.fp [ai.fz x0.nodes,.int .i64 x0.root] 0,.any,.any],[none],h⟩ _
 refine q1 <| qq ?_
 obtain⟨x1,e0,H⟩:=bk H
 obtain rfl:=oi H
 exact qr [.a 4 (OY _ _ _ e0 h _ (eQ (ah (jT (ah (bD) (ah (bD) (ah (cU) (ah (eG (E:=af)) (aw)))))) (ah (bD) (aw)))))] <| qt <| ⟨.inl rfl,dv (.bool (!x1)) h (dq (aD))⟩
end
end Go.Proofs.Ytifafejidnjckaa
namespace Go.Proofs.Ytifafejidnjckaa
open Go Go.R
open Go.IntKind (i64 u64 u8 u32)
end Go.Proofs.Ytifafejidnjckaa
namespace Go.Proofs.Ytifafejidnjckaa
open Go Go.R
open Go.IntKind (i64 u64 u8 u32)
def sR:b5:=gV [0,1,2,6,7,8,9,13,30,35,54] [] [2032,1984,1856,2000,1984,1984,2032,1776,1984,1472,2000,1984,1984,1952,928,2032,2032] [] []
def bO.l0 (m:Nat)(n0:Int)(aT:Int→Int→Option (Int)):Nat→(List Int)→Int→Int→Option ((List Int) × Int × Int)
 | 0,_,_,_=>none
 | k+1,bn,a0,b0=>if (decide (b0≤n0))=true then ((aV.f m bn a0 b0 aT).bind fun x0=>bO.l0 m n0 aT k x0 b0 (i64.wrap (b0+(20:Int)))) else (some ((bn,a0,b0)))
def bO.l2 (m:Nat)(n0:Int)(aT:Int→Int→Option (Int))(bg:Int):Nat→(List Int)→Int→Int→Option ((List Int) × Int × Int)
 | 0,_,_,_=>none
 | k+1,jt,a2,b2=>if (decide (b2≤n0))=true then ((aJ.f m m jt a2 (i64.wrap (a2+bg)) b2 aT).bind fun x2=>bO.l2 m n0 aT bg k x2 b2 (i64.wrap (b2+i64.wrap ((2:Int)*bg)))) else (some ((jt,a2,b2)))
def bO.l1 (m:Nat)(n0:Int)(aT:Int→Int→Option (Int)):Nat→(List Int)→Int→Option ((List Int) × Int)
 | 0,_,_=>none
 | k+1,dK,bg=>if (decide (bg<n0))=true then ((bO.l2 m n0 aT bg m dK (0:Int) (i64.wrap ((2:Int)*bg))).bind fun dr=>match dr with | (kZ,a3,b3)=>if (decide ((i64.wrap (a3+bg))<n0))=true then ((aJ.f m m kZ a3 (i64.wrap (a3+bg)) n0 aT).bind fun x3=>bO.l1 m n0 aT k x3 (i64.wrap (bg*(2:Int)))) else (bO.l1 m n0 aT k kZ (i64.wrap (bg*(2:Int))))) else (some ((dK,bg)))
def bO.f (m:Nat)(ax:List Int)(n0:Int)(aT:Int→Int→Option (Int)):Option ((List Int)):=(bO.l0 m n0 aT m ax (0:Int) (20:Int)).bind fun cg=>match cg with | (dd,a1,b1)=>(aV.f m dd a1 n0 aT).bind fun x1=>(bO.l1 m n0 aT m x1 (20:Int)).bind fun mM=>match mM with | (pa,zu)=>some pa
def bO.fin (L:Mem)(aG:Nat)(ax:List Int)(n0:Int)(aT:Int→Int→Option (Int))(r:(List Int))(s:St):Prop:=aP Try.prog (s.open sR) Try.f99.results.toList=some (.tup [])∧Has s.h ((aG,.sl ax.length 1 (af.l r))::L)
def Rj (cf:CallF)(m:Nat):Prop:=∀(ax:List Int) (n0:Int) (aT:Int→Int→Option (Int)) (r:(List Int)),bO.f m ax n0 aT=some r→∀h L (cr:Nat) (aG:Nat),Has h ((aG,.sl cr 1 (af.l ax))::L)→∀(k9:FuncId) (dC cY:List AV),(aM (.fn k9 dC) = .fn k9 dC)→(∀(h:AHeap) (xs:List AV) (a0:Int) (a1:Int) r,aT a0 a1=some r→aQ bQ h xs ([.int .i64 a0,.int .i64 a1]++cY)→cf k9 xs h=some (.int .i64 r,h))→(∀h K,Has h (K++(L))→aQ cE h dC cY)→(∀h,aQ cE h cY cY)→∀xs,xs.map aM=[.rs aG 0 cr 1,.int .i64 n0,.fn k9 dC]→∃h',cf 99 xs h=some (.tup [],h')∧Has h' ((aG,.sl cr 1 (af.l r))::L)
section
variable {cf:CallF}{m:Nat}
theorem bO.dy (L:Mem)(aG:Nat)(k9:FuncId)(dC cY:List AV)(ax:List Int)(n0:Int)(aT:Int→Int→Option (Int))  (nq:aM (.fn k9 dC) = .fn k9 dC)(qV:∀(h:AHeap) (xs:List AV) (a0:Int) (a1:Int) r,aT a0 a1=some r→aQ bQ h xs ([.int .i64 a0,.int .i64 a1]++cY)→cf k9 xs h=some (.int .i64 r,h))(qW:∀h K,Has h (K++(L))→aQ cE h dC cY)(qX:∀h,aQ cE h cY cY)(Bi:Jf cf m):dY Try.prog cf sR m (sub [1,1,0,0,0] (b8 Try.f99)) (fun k (σ:(List Int) × Int × Int)=>bO.l0 m n0 aT k σ.1 σ.2.1 σ.2.2) (fun σ s=>match σ with | (bn,a0,b0)=>∃h0,s=⟨.rs aG 0 ax.length 1 :: .int .i64 n0 :: .fn k9 dC :: .int .i64 (20:Int) :: .int .i64 a0 :: .int .i64 b0::C9 [],[],h0⟩∧Has h0 ((aG,.sl ax.length 1 (af.l bn))::L)) (fun out e s=>(e = .exit 0∧∃bn a0 b0,(bn,a0,b0)=out∧∃CC vH h0,s=⟨.rs aG 0 ax.length 1 :: .int .i64 n0 :: .fn k9 dC :: .int .i64 (20:Int) :: .int .i64 a0::CC :: .any::vH::rA [],[],h0⟩∧Has h0 ((aG,.sl ax.length 1 (af.l bn))::L))):=by
 refine mf (fun _=>rfl) ?_
 rintro k ⟨bn,a0,b0⟩ s out ⟨h0,rfl,o0⟩ H
 have H:bO.l0 m n0 aT (k+1) bn a0 b0=some out:=H
 refine qq <| qq <| q0 <| qc H (fun c0 H=>?_) (fun c0 H=>?_)
 ·refine qk <| qb 1 <| qq ?_
  obtain⟨x0,e0,H⟩:=bk H
  obtain⟨h1,e1,o1⟩:=Bi _ _ _ _ _ e0 h0 _ _ _ (o0) k9 dC cY nq qV (fun h' K' o'=>qW h' (K'++[]) (by simpa only [VI,V6,V7] using o')) qX [.rs aG 0 ax.length 1,.int .i64 a0,.int .i64 b0,.fn k9 dC] (ar (rfl) (ar (aO (aW)) (ar (aO (aW)) (ar (nq) (bA)))))
  exact qr [.a 4 e1] <| qq <| q0 <| q0 <| ⟨(x0,b0,i64.wrap (b0+(20:Int))),⟨h1,by kernel_rfl,o1⟩,H⟩
 ·exact qx 0 <| ⟨rfl,bn,a0,b0,oi H,.int .i64 b0,.bool (decide (b0≤n0)),h0,by kernel_rfl,o0⟩
theorem bO.sP (L:Mem)(aG:Nat)(k9:FuncId)(dC cY:List AV)(ax:List Int)(n0:Int)(aT:Int→Int→Option (Int))(bg:Int)  (nq:aM (.fn k9 dC) = .fn k9 dC)(qV:∀(h:AHeap) (xs:List AV) (a0:Int) (a1:Int) r,aT a0 a1=some r→aQ bQ h xs ([.int .i64 a0,.int .i64 a1]++cY)→cf k9 xs h=some (.int .i64 r,h))(qW:∀h K,Has h (K++(L))→aQ cE h dC cY)(qX:∀h,aQ cE h cY cY)(iJ:tI cf m m):dY Try.prog cf sR m (sub [1,1,1,1,0,0,1,0,1,0,0,0] (b8 Try.f99)) (fun k (σ:(List Int) × Int × Int)=>bO.l2 m n0 aT bg k σ.1 σ.2.1 σ.2.2) (fun σ s=>match σ with | (jt,a2,b2)=>∃h5,s=⟨.rs aG 0 ax.length 1 :: .int .i64 n0 :: .fn k9 dC :: .int .i64 bg :: .int .i64 a2 :: .int .i64 b2::C9 [],[],h5⟩∧Has h5 ((aG,.sl ax.length 1 (af.l jt))::L)) (fun out e s=>(e = .exit 4∧∃jt a2 b2,(jt,a2,b2)=out∧∃CC Jt h5,s=⟨.rs aG 0 ax.length 1 :: .int .i64 n0 :: .fn k9 dC :: .int .i64 bg :: .int .i64 a2::CC::rA [Jt,.any],[],h5⟩∧Has h5 ((aG,.sl ax.length 1 (af.l jt))::L))):=by
 refine mf (fun _=>rfl) ?_
 rintro k ⟨jt,a2,b2⟩ s out ⟨h5,rfl,o5⟩ H
 have H:bO.l2 m n0 aT bg (k+1) jt a2 b2=some out:=H
 refine qq <| qq <| q0 <| qc H (fun c2 H=>?_) (fun c2 H=>?_)
 ·refine qk <| qb 5 <| qq ?_
  obtain⟨x2,e5,H⟩:=bk H
  obtain⟨h6,e6,o6⟩:=iJ _ _ _ _ _ _ e5 h5 _ _ _ (o5) k9 dC cY nq qV (fun h' K' o'=>qW h' (K'++[]) (by simpa only [VI,V6,V7] using o')) qX [.rs aG 0 ax.length 1,.int .i64 a2,.int .i64 (i64.wrap (a2+bg)),.int .i64 b2,.fn k9 dC] (ar (rfl) (ar (aO (aW)) (ar (aO (aW)) (ar (aO (aW)) (ar (nq) (bA))))))
  exact qr [.a 7 e6] <| qq <| q0 <| q0 <| ⟨(x2,b2,i64.wrap (b2+i64.wrap ((2:Int)*bg))),⟨h6,by kernel_rfl,o6⟩,H⟩
 ·exact qx 4 <| ⟨rfl,jt,a2,b2,oi H,.int .i64 b2,.bool (decide (b2≤n0)),h5,by kernel_rfl,o5⟩
theorem bO.kT (L:Mem)(aG:Nat)(k9:FuncId)(dC cY:List AV)(ax:List Int)(n0:Int)(aT:Int→Int→Option (Int))  (nq:aM (.fn k9 dC) = .fn k9 dC)(qV:∀(h:AHeap) (xs:List AV) (a0:Int) (a1:Int) r,aT a0 a1=some r→aQ bQ h xs ([.int .i64 a0,.int .i64 a1]++cY)→cf k9 xs h=some (.int .i64 r,h))(qW:∀h K,Has h (K++(L))→aQ cE h dC cY)(qX:∀h,aQ cE h cY cY)(iJ:tI cf m m):dY Try.prog cf sR m (sub [1,1,1,1,0,0] (b8 Try.f99)) (fun k (σ:(List Int) × Int)=>bO.l1 m n0 aT k σ.1 σ.2) (fun σ s=>match σ with | (dK,bg)=>∃h4,s=⟨.rs aG 0 ax.length 1 :: .int .i64 n0 :: .fn k9 dC :: .int .i64 bg::HS [],[],h4⟩∧Has h4 ((aG,.sl ax.length 1 (af.l dK))::L)) (fun out e s=>(e = .exit 2∧∃dK bg,(dK,bg)=out∧∃oU vG G3 G0 Jj h4,s=⟨oU::vG::G3::G0::oc [Jj,.any,.any],[],h4⟩∧Has h4 ((aG,.sl ax.length 1 (af.l dK))::L))):=by
 refine mf (fun _=>rfl) ?_
 rintro k ⟨dK,bg⟩ s out ⟨h4,rfl,o4⟩ H
 have H:bO.l1 m n0 aT (k+1) dK bg=some out:=H
 refine qq <| qq <| q0 <| qc H (fun c1 H=>?_) (fun c1 H=>?_)
 ·refine qk <| qb 3 <| qq <| q0 <| qq <| qb 4 ?_
  obtain⟨dr,e7,H⟩:=bk H
  refine ql (bO.sP L aG k9 dC cY ax n0 aT bg  nq qV qW qX iJ (dK,(0:Int),i64.wrap ((2:Int)*bg)) _ _ ⟨h4,by kernel_rfl,o4⟩ e7) ?_
  rintro e s ⟨rfl,kZ,a3,b3,rfl,g2,g3,h7,rfl,o7⟩
  try dsimp only at H
  refine qq <| qq <| q0 <| qq <| q0 <| qc H (fun c3 H=>?_) (fun c3 H=>?_)
  ·obtain⟨x3,e8,H⟩:=bk H
   obtain⟨h8,e9,o8⟩:=iJ _ _ _ _ _ _ e8 h7 _ _ _ (o7) k9 dC cY nq qV (fun h' K' o'=>qW h' (K'++[]) (by simpa only [VI,V6,V7] using o')) qX [.rs aG 0 ax.length 1,.int .i64 a3,.int .i64 (i64.wrap (a3+bg)),.int .i64 n0,.fn k9 dC] (ar (rfl) (ar (aO (aW)) (ar (aO (aW)) (ar (aO (aW)) (ar (nq) (bA))))))
   exact qr [.a 5 e9] <| q0 <| ⟨(x3,i64.wrap (bg*(2:Int))),⟨h8,by kernel_rfl,o8⟩,H⟩
  ·exact qk <| q0 <| ⟨(kZ,i64.wrap (bg*(2:Int))),⟨h7,by kernel_rfl,o7⟩,H⟩
 ·exact qx 2 <| ⟨rfl,dK,bg,oi H,.rs aG 0 ax.length 1,.int .i64 n0,.fn k9 dC,.int .i64 bg,.bool (decide (bg<n0)),h4,by kernel_rfl,o4⟩
theorem vS {aX:FuncId→b5}(ha:aX 99=sR)(Bi:Jf cf m)(iJ:tI cf m m)(ax:List Int)(n0:Int)(aT:Int→Int→Option (Int))(h:AHeap)(L:Mem)(aG:Nat)(k9:FuncId)(dC cY:List AV)  (nq:aM (.fn k9 dC) = .fn k9 dC)(qV:∀(h:AHeap) (xs:List AV) (a0:Int) (a1:Int) r,aT a0 a1=some r→aQ bQ h xs ([.int .i64 a0,.int .i64 a1]++cY)→cf k9 xs h=some (.int .i64 r,h))(qW:∀h K,Has h (K++(L))→aQ cE h dC cY)(qX:∀h,aQ cE h cY cY)(o:Has h ((aG,.sl ax.length 1 (af.l ax))::L)){out:(List Int)}(H:bO.f m ax n0 aT=some out) :
  ∃r h',a6 Try.prog aX cf m 99 [.rs aG 0 ax.length 1,.int .i64 n0,.fn k9 dC] h=some (r,h')∧r = .tup []∧Has h' ((aG,.sl ax.length 1 (af.l out))::L):=by
 refine au (fn:=Try.f99) ha Try.func99 (by kernel_rfl) (by kernel_rfl) ?_
 refine aK (Q:=fun s=>bO.fin L aG ax n0 aT out s) (fun _ _ ⟨h1,h2,h3⟩=>⟨h1,_,h2,rfl,h3⟩) ?_
 have H:_=some out:=H
 unfold bO.f at H
 show du _ cf sR m _ ⟨.rs aG 0 ax.length 1 :: .int .i64 n0 :: .fn k9 dC::Cr [],[],h⟩ _
 refine q1 <| qq <| q0 <| qq <| qb 0 ?_
 obtain⟨cg,e2,H⟩:=bk H
 refine ql (bO.dy L aG k9 dC cY ax n0 aT  nq qV qW qX Bi (ax,(0:Int),(20:Int)) _ _ ⟨h,by kernel_rfl,o⟩ e2) ?_
 rintro e s ⟨rfl,dd,a1,b1,rfl,g0,g1,h2,rfl,o2⟩
 try dsimp only at H
 refine qq ?_
 obtain⟨x1,e3,H⟩:=bk H
 obtain⟨h3,e4,o3⟩:=Bi _ _ _ _ _ e3 h2 _ _ _ (o2) k9 dC cY nq qV (fun h' K' o'=>qW h' (K'++[]) (by simpa only [VI,V6,V7] using o')) qX [.rs aG 0 ax.length 1,.int .i64 a1,.int .i64 n0,.fn k9 dC] (ar (rfl) (ar (aO (aW)) (ar (aO (aW)) (ar (nq) (bA)))))
 refine qr [.a 4 e4] <| qb 2 ?_
 obtain⟨mM,ti,H⟩:=bk H
 refine ql (bO.kT L aG k9 dC cY ax n0 aT  nq qV qW qX iJ (x1,(20:Int)) _ _ ⟨h3,by kernel_rfl,o3⟩ ti) ?_
 rintro e s ⟨rfl,pa,zu,rfl,g4,g5,g6,g7,g8,h9,rfl,o9⟩
 try dsimp only at H
 obtain rfl:=oi H
 exact⟨.inr rfl,⟨by kernel_rfl,he o9⟩⟩
end
end Go.Proofs.Ytifafejidnjckaa
namespace Go.Proofs.Ytifafejidnjckaa
open Go Go.R
open Go.IntKind (i64 u64 u8 u32)
end Go.Proofs.Ytifafejidnjckaa
namespace Go.Proofs.Ytifafejidnjckaa
open Go Go.R
open Go.IntKind (i64 u64 u8 u32)
end Go.Proofs.Ytifafejidnjckaa
namespace Go.Proofs.Ytifafejidnjckaa
open Go Go.R
open Go.IntKind (i64 u64 u8 u32)
def xO:b5:=gV [0,2,3,4,5,6,10,20] [] [254,250,242,178,242,194,98,226,242,253] [] [(1,[(3,none,1)])]
def bU.l0 (m:Nat)(s0:ab):Nat→(List Int)→Int→Option ((List Int) × Int)
 | 0,_,_=>none
 | k+1,cg,n0=>(bN.f m s0).bind fun x0=>if (decide (n0<x0))=true then ((dS.f m s0 n0).bind fun x1=>if (!(x1.2==(0:Int)))=true then ((app 8 cg ([(-1:Int)])).bind fun x2=>bU.l0 m s0 k x2 (i64.wrap (n0+(1:Int)))) else ((app 8 cg ([x1.1])).bind fun x3=>bU.l0 m s0 k x3 (i64.wrap (n0+(1:Int))))) else (some ((cg,n0)))
def bU.f (m:Nat)(s0:ab):Option ((List Int)):=(bU.l0 m s0 m ([]:List Int) (0:Int)).bind fun mM=>match mM with | (dr,n1)=>some dr
def bU.fin (L:Mem)(r:(List Int))(s:St):Prop:=∃av,aP Try.prog (s.open xO) Try.f15.results.toList=some av∧fD s.h av (af.fz r)
def Rk (cf:CallF)(m:Nat):Prop:=∀(s0:ab) (r:(List Int)),bU.f m s0=some r→∀h xs,aQ bQ h xs [.fp [.bool s0.aj,ai.fz s0.aa,af.fz s0.ae] 0]→cf 15 xs h=some (af.fz r,h)
section
variable {cf:CallF}{m:Nat}
theorem bU.dy (L:Mem)(s0:ab)  (nr:MF cf m)(Ju:OW cf m):dY Try.prog cf xO m (sub [1,1,0,1,0,0] (b8 Try.f15)) (fun k (σ:(List Int) × Int)=>bU.l0 m s0 k σ.1 σ.2) (fun σ s=>match σ with | (cg,n0)=>∃aG h0,s=⟨.fp [.bool s0.aj,ai.fz s0.aa,af.fz s0.ae] 0 :: .any :: .rs aG 0 cg.length 1 :: .int .i64 n0::oc [],[],h0⟩∧Has h0 ((aG,.sl cg.length 1 (af.l cg))::L)) (fun out e s=>(e = .exit 0∧∃cg n0,(cg,n0)=out∧∃oU Jn zq aG h0,s=⟨[oU,.any,.rs aG 0 cg.length 1,Jn,.any,.any,zq,.any],[],h0⟩∧Has h0 ((aG,.sl cg.length 1 (af.l cg))::L))):=by
 refine mf (fun _=>rfl) ?_
 rintro k ⟨cg,n0⟩ s out ⟨aG,h0,rfl,o1⟩ H
 have H:bU.l0 m s0 (k+1) cg n0=some out:=H
 refine qq <| qq ?_
 obtain⟨x0,e0,H⟩:=bk H
 refine qr [.a 2 (nr _ _ e0 h0 _ (eQ (ah (gv (pure_cons (dO) (pure_cons (bM.bG (E:=ai) (l:=s0.aa)) (pure_cons (bM.bG (E:=af) (l:=s0.ae)) (pure_nil))))) (aw))))] <| qc H (fun c0 H=>?_) (fun c0 H=>?_)
 ·refine qk <| qq <| qb 1 <| qq ?_
  obtain⟨x1,e1,H⟩:=bk H
  refine qr [.a 2 (Ju _ _ _ e1 h0 _ (eQ (ah (gv (pure_cons (dO) (pure_cons (bM.bG (E:=ai) (l:=s0.aa)) (pure_cons (bM.bG (E:=af) (l:=s0.ae)) (pure_nil))))) (ah (bD) (aw)))))] <| qq <| qq <| q0 <| qc H (fun c1 H=>?_) (fun c1 H=>?_)
  ·refine q0 ?_
   obtain⟨x2,e2,H⟩:=bk H
   obtain⟨eo,h1,e3,o2⟩:=iH (P:=Try.prog) (E:=af) (l:=cg) (q:=0) (t2:=33) (x:=.fz [.int .i64 (-1:Int)] 1 true) (l2:=([(-1:Int)])) gI o1 rfl (by kernel_rfl) rfl e2
   exact qr [.a 3 e3] <| q0 <| ⟨(x2,i64.wrap (n0+(1:Int))),⟨eo,h1,by kernel_rfl,o2⟩,H⟩
  ·refine qk ?_
   obtain⟨x3,e4,H⟩:=bk H
   obtain⟨eX,h2,e5,o3⟩:=iH (P:=Try.prog) (E:=af) (l:=cg) (q:=0) (t2:=33) (x:=.fz [.int .i64 x1.1] 1 true) (l2:=([x1.1])) gI o1 rfl (by kernel_rfl) rfl e4
   exact qr [.a 3 e5] <| q0 <| ⟨(x3,i64.wrap (n0+(1:Int))),⟨eX,h2,by kernel_rfl,o3⟩,H⟩
 ·exact qx 0 <| ⟨rfl,cg,n0,oi H,.fp [.bool s0.aj,ai.fz s0.aa,af.fz s0.ae] 0,.int .i64 n0,.bool (decide (n0<x0)),aG,h0,by kernel_rfl,o1⟩
theorem qY {aX:FuncId→b5}(ha:aX 15=xO)(nr:MF cf m)(Ju:OW cf m)(s0:ab)(h:AHeap)(L:Mem)  (o:Has h (L)){out:(List Int)}(H:bU.f m s0=some out) :
  ∃r h',a6 Try.prog aX cf m 15 [.fp [.bool s0.aj,ai.fz s0.aa,af.fz s0.ae] 0] h=some (r,h')∧fD h' r (af.fz out):=by
 refine au (fn:=Try.f15) ha Try.func15 (by kernel_rfl) (by kernel_rfl) ?_
 refine aK (Q:=fun s=>bU.fin L out s) (fun _ _ h=>h) ?_
 have H:_=some out:=H
 unfold bU.f at H
 show du _ cf xO m _ ⟨.fp [.bool s0.aj,ai.fz s0.aa,af.fz s0.ae] 0::HS [],[],h⟩ _
 refine q1 <| qq <| q0 ?_
 have o0:Has h (((0),.sl (([]:List Int).length) 1 (af.l ([]:List Int)))::L):=Has.nil o 1
 refine qq <| qq <| q0 <| qb 0 ?_
 obtain⟨mM,e6,H⟩:=bk H
 refine ql (bU.dy L s0  nr Ju (([]:List Int),(0:Int)) _ _ ⟨(0),h,by kernel_rfl,o0⟩ e6) ?_
 rintro e s ⟨rfl,dr,n1,rfl,g0,g1,g2,cV,h3,rfl,o4⟩
 try dsimp only at H
 obtain rfl:=oi H
 exact q1 <| qt <| ⟨.inl rfl,dv (.rs cV 0 dr.length 1) h3 (dq (HR (E:=af) (l:=dr) (q:=0) o4 rfl (fun _=>rfl)))⟩
end
end Go.Proofs.Ytifafejidnjckaa
namespace Go.Proofs.Ytifafejidnjckaa
open Go Go.R
open Go.IntKind (i64 u64 u8 u32)
def Bj:b5:=gV [0,1,3,4,5] [] [26,7] [] []
def en.f (m:Nat)(s0:ab)(a0:ByteArray):Option (Int × Int × ab):=(b7.f m s0 (dt.f m a0) (aq.mk (2:Int) (0:Int) a0 ([]))).bind fun x0=>some (x0.1,x0.2.1,x0.2.2)
def en.fin (L:Mem)(ao:Nat)(ak:Nat)(an:Nat)(s0:ab)(a0:ByteArray)(r:Int × Int × ab)(s:St):Prop:=∃aA aB:Nat,aP Try.prog (s.open Bj) Try.f28.results.toList=some (.tup [.int .i64 r.1,.int .i64 r.2.1])∧Has s.h ((ao,.ob [.bool r.2.2.aj,.rs aA 0 r.2.2.aa.length 4,.rs aB 0 r.2.2.ae.length 1])::(aA,.sl r.2.2.aa.length 4 (ai.l r.2.2.aa))::(aB,.sl r.2.2.ae.length 1 (af.l r.2.2.ae))::L)
def Rl (cf:CallF)(m:Nat):Prop:=∀(s0:ab) (a0:ByteArray) (r:Int × Int × ab),en.f m s0 a0=some r→∀h L (ao:Nat) (ak:Nat) (an:Nat),Has h ((ao,.ob [.bool s0.aj,.rs ak 0 s0.aa.length 4,.rs an 0 s0.ae.length 1])::(ak,.sl s0.aa.length 4 (ai.l s0.aa))::(an,.sl s0.ae.length 1 (af.l s0.ae))::L)→∀xs,xs.map aM=[.ptr ao 0,.str a0]→∃aA aB h',cf 28 xs h=some (.tup [.int .i64 r.1,.int .i64 r.2.1],h')∧Has h' ((ao,.ob [.bool r.2.2.aj,.rs aA 0 r.2.2.aa.length 4,.rs aB 0 r.2.2.ae.length 1])::(aA,.sl r.2.2.aa.length 4 (ai.l r.2.2.aa))::(aB,.sl r.2.2.ae.length 1 (af.l r.2.2.ae))::L)
section
variable {cf:CallF}{m:Nat}
theorem mc {aX:FuncId→b5}(ha:aX 28=Bj)(vN:Ki cf m)(OZ:Rh cf m)(s0:ab)(a0:ByteArray)(h:AHeap)(L:Mem)(ao:Nat)(ak:Nat)(an:Nat)  (o:Has h ((ao,.ob [.bool s0.aj,.rs ak 0 s0.aa.length 4,.rs an 0 s0.ae.length 1])::(ak,.sl s0.aa.length 4 (ai.l s0.aa))::(an,.sl s0.ae.length 1 (af.l s0.ae))::L)){out:Int × Int × ab}(H:en.f m s0 a0=some out) :
  ∃r h',a6 Try.prog aX cf m 28 [.ptr ao 0,.str a0] h=some (r,h')∧∃aA aB:Nat,r = .tup [.int .i64 out.1,.int .i64 out.2.1]∧Has h' ((ao,.ob [.bool out.2.2.aj,.rs aA 0 out.2.2.aa.length 4,.rs aB 0 out.2.2.ae.length 1])::(aA,.sl out.2.2.aa.length 4 (ai.l out.2.2.aa))::(aB,.sl out.2.2.ae.length 1 (af.l out.2.2.ae))::L):=by
 refine au (fn:=Try.f28) ha Try.func28 (by kernel_rfl) (by kernel_rfl) ?_
 refine aK (Q:=fun s=>en.fin L ao ak an s0 a0 out s) (fun _ _ ⟨h1,aA,aB,h2,h3⟩=>⟨h1,_,h2,aA,aB,rfl,h3⟩) ?_
 have H:_=some out:=H
 unfold en.f at H
 show du _ cf Bj m _ ⟨.ptr ao 0 :: .str a0::rA [],[],h⟩ _
 refine qq ?_
 obtain⟨aG,h0,e0,o0⟩:=fY (cs:=[.str a0]) o (by kernel_rfl)
 refine qr [.a 0 e0] <| qq ?_
 obtain⟨x0,e1,H⟩:=bk H
 obtain⟨eo,eX,h1,e2,o1⟩:=vN _ _ _ _ e1 h0 _ _ _ _ ((Has.front (Has.front (Has.front (Has.front o0 0 rfl) 3 rfl) 3 rfl) 3 rfl)) 49 [.ptr aG 0] [.fp [.str a0] 0] rfl (fun h' tE  r hr hx=>OZ _ r hr h' tE hx) (fun h' K' o'=>iM (ah (bS (q:=(K'.length+3)) o' (jo rfl) (ah (cU) (aw))) (aw))) (fun h_=>iM (ah (gv (pure_cons (mC) (pure_nil))) (aw))) [.ptr ao 0,.fn 49 [.ptr aG 0],.agg [.int .i64 (2:Int),.int .i64 (0:Int),.str a0,.nils]] (ar (rfl) (ar (rfl) (ar (aO (jV (ba (aW) (ba (aW) (ba (iT) (ba (rz (E:=af)) (jU))))))) (bA))))
 refine qr [.v 2 (show bl Try.prog h0 9 (.ptr aG 0)=some (.str a0) from bV (q:=0) (cs:=[.str a0]) o0 rfl (by kernel_rfl)),.a 4 e2] ?_
 have o2:Has h1 ((ao,.ob [.bool x0.2.2.aj,.rs eo 0 x0.2.2.aa.length 4,.rs eX 0 x0.2.2.ae.length 1])::(eo,.sl x0.2.2.aa.length 4 (ai.l x0.2.2.aa))::(eX,.sl x0.2.2.ae.length 1 (af.l x0.2.2.ae))::L):=Has.del o1 3
 obtain rfl:=oi H
 exact qt <| ⟨.inl rfl,⟨eo,eX,by kernel_rfl,he o2⟩⟩
end
end Go.Proofs.Ytifafejidnjckaa
namespace Go.Proofs.Ytifafejidnjckaa
open Go Go.R
open Go.IntKind (i64 u64 u8 u32)
def Bk:b5:=gV [0,1,2] [] [5,3] [] []
def gM.f (m:Nat)(t0:bw):Option (Bool):=if (decide ((t0.nodes.length:Int)≥(1:Int)))=true then (if (decide ((t0.nodes.length:Int)≤(8000:Int)))=true then (if (decide (t0.root≥(0:Int)))=true then (if (decide (t0.root<(t0.nodes.length:Int)))=true then ((gL.f m t0.nodes (fun y0=>gg.f m y0 t0)).bind fun x0=>some (!x0)) else (some false)) else (some false)) else (some false)) else (some false)
def gM.fin (L:Mem)(r:Bool)(s:St):Prop:=∃av,aP Try.prog (s.open Bk) Try.f44.results.toList=some av∧fD s.h av (.bool r)
def Rm (cf:CallF)(m:Nat):Prop:=∀(t0:bw) (r:Bool),gM.f m t0=some r→∀h xs,aQ bQ h xs [.agg [ai.fz t0.nodes,.int .i64 t0.root]]→cf 44 xs h=some (.bool r,h)
section
variable {cf:CallF}{m:Nat}
theorem qZ {aX:FuncId→b5}(ha:aX 44=Bk)(O0:QY cf m)(O1:Ri cf m)(t0:bw)(h:AHeap)(L:Mem)  (o:Has h (L)){out:Bool}(H:gM.f m t0=some out) :
  ∃r h',a6 Try.prog aX cf m 44 [.agg [ai.fz t0.nodes,.int .i64 t0.root]] h=some (r,h')∧fD h' r (.bool out):=by
 refine au (fn:=Try.f44) ha Try.func44 (by kernel_rfl) (by kernel_rfl) ?_
 refine aK (Q:=fun s=>gM.fin L out s) (fun _ _ h=>h) ?_
 have H:_=some out:=H
 unfold gM.f at H
 show du _ cf Bk m _ ⟨[.agg [ai.fz t0.nodes,.int .i64 t0.root],.any,.any],[],h⟩ _
 refine qq ?_
 obtain⟨aG,h0,e0,o0⟩:=fY (cs:=[ai.fz t0.nodes,.int .i64 t0.root]) o (by kernel_rfl)
 refine qr [.a 0 e0] <| qq ?_
 rcases iw H with⟨c0,H⟩| ⟨c0,H⟩
 ·rcases iw H with⟨c1,H⟩| ⟨c1,H⟩
  ·rcases iw H with⟨c2,H⟩| ⟨c2,H⟩
   ·rcases iw H with⟨c3,H⟩| ⟨c3,H⟩
    ·obtain⟨x0,e1,H⟩:=bk H
     refine qr [.v 1 (show bl Try.prog h0 40 (.ptr aG 0)=some (ai.fz t0.nodes) from bV (q:=0) (cs:=[ai.fz t0.nodes,.int .i64 t0.root]) o0 rfl (by kernel_rfl)),.b 4 c0,.v 6 (show bl Try.prog h0 40 (.ptr aG 0)=some (ai.fz t0.nodes) from bV (q:=0) (cs:=[ai.fz t0.nodes,.int .i64 t0.root]) o0 rfl (by kernel_rfl)),.b 10 c1,.v 12 (show bl Try.prog h0 3 (.ptr aG 1)=some (.int .i64 t0.root) from bV (q:=0) (cs:=[ai.fz t0.nodes,.int .i64 t0.root]) o0 rfl (by kernel_rfl)),.b 15 c2,.v 17 (show bl Try.prog h0 3 (.ptr aG 1)=some (.int .i64 t0.root) from bV (q:=0) (cs:=[ai.fz t0.nodes,.int .i64 t0.root]) o0 rfl (by kernel_rfl)),.v 19 (show bl Try.prog h0 40 (.ptr aG 0)=some (ai.fz t0.nodes) from bV (q:=0) (cs:=[ai.fz t0.nodes,.int .i64 t0.root]) o0 rfl (by kernel_rfl)),.b 23 c3,.v 25 (show bl Try.prog h0 40 (.ptr aG 0)=some (ai.fz t0.nodes) from bV (q:=0) (cs:=[ai.fz t0.nodes,.int .i64 t0.root]) o0 rfl (by kernel_rfl)),.a 27 (O0 _ _ _ e1 66 [.fp [ai.fz t0.nodes,.int .i64 t0.root] 0] (fun h' tE y0 r hr hx=>O1 y0 _ r hr h' tE hx) (fun h_=>iM (ah (gv (pure_cons (bM.bG (E:=ai) (l:=t0.nodes)) (pure_cons (gr) (pure_nil)))) (aw))) h0 _ (eQ (ah (eG (E:=ai)) (ah (sF (ah (bS (q:=0) o0 rfl (ah (eG (E:=ai)) (ah (bD) (aw)))) (aw))) (aw)))))] ?_
     have o1:Has h0 (L):=Has.del o0 0
     obtain rfl:=oi H
     exact qt <| ⟨.inl rfl,dv (.bool (!x0)) h0 (dq (aD))⟩
    ·refine qr [.v 1 (show bl Try.prog h0 40 (.ptr aG 0)=some (ai.fz t0.nodes) from bV (q:=0) (cs:=[ai.fz t0.nodes,.int .i64 t0.root]) o0 rfl (by kernel_rfl)),.b 4 c0,.v 6 (show bl Try.prog h0 40 (.ptr aG 0)=some (ai.fz t0.nodes) from bV (q:=0) (cs:=[ai.fz t0.nodes,.int .i64 t0.root]) o0 rfl (by kernel_rfl)),.b 10 c1,.v 12 (show bl Try.prog h0 3 (.ptr aG 1)=some (.int .i64 t0.root) from bV (q:=0) (cs:=[ai.fz t0.nodes,.int .i64 t0.root]) o0 rfl (by kernel_rfl)),.b 15 c2,.v 17 (show bl Try.prog h0 3 (.ptr aG 1)=some (.int .i64 t0.root) from bV (q:=0) (cs:=[ai.fz t0.nodes,.int .i64 t0.root]) o0 rfl (by kernel_rfl)),.v 19 (show bl Try.prog h0 40 (.ptr aG 0)=some (ai.fz t0.nodes) from bV (q:=0) (cs:=[ai.fz t0.nodes,.int .i64 t0.root]) o0 rfl (by kernel_rfl)),.b 23 c3] ?_
     have o2:Has h0 (L):=Has.del o0 0
     obtain rfl:=oi H
     exact qt <| ⟨.inl rfl,dv (.bool false) h0 (dq (aD))⟩
   ·refine qr [.v 1 (show bl Try.prog h0 40 (.ptr aG 0)=some (ai.fz t0.nodes) from bV (q:=0) (cs:=[ai.fz t0.nodes,.int .i64 t0.root]) o0 rfl (by kernel_rfl)),.b 4 c0,.v 6 (show bl Try.prog h0 40 (.ptr aG 0)=some (ai.fz t0.nodes) from bV (q:=0) (cs:=[ai.fz t0.nodes,.int .i64 t0.root]) o0 rfl (by kernel_rfl)),.b 10 c1,.v 12 (show bl Try.prog h0 3 (.ptr aG 1)=some (.int .i64 t0.root) from bV (q:=0) (cs:=[ai.fz t0.nodes,.int .i64 t0.root]) o0 rfl (by kernel_rfl)),.b 15 c2] ?_
    have o3:Has h0 (L):=Has.del o0 0
    obtain rfl:=oi H
    exact qt <| ⟨.inl rfl,dv (.bool false) h0 (dq (aD))⟩
  ·refine qr [.v 1 (show bl Try.prog h0 40 (.ptr aG 0)=some (ai.fz t0.nodes) from bV (q:=0) (cs:=[ai.fz t0.nodes,.int .i64 t0.root]) o0 rfl (by kernel_rfl)),.b 4 c0,.v 6 (show bl Try.prog h0 40 (.ptr aG 0)=some (ai.fz t0.nodes) from bV (q:=0) (cs:=[ai.fz t0.nodes,.int .i64 t0.root]) o0 rfl (by kernel_rfl)),.b 10 c1] ?_
   have o4:Has h0 (L):=Has.del o0 0
   obtain rfl:=oi H
   exact qt <| ⟨.inl rfl,dv (.bool false) h0 (dq (aD))⟩
 ·refine qr [.v 1 (show bl Try.prog h0 40 (.ptr aG 0)=some (ai.fz t0.nodes) from bV (q:=0) (cs:=[ai.fz t0.nodes,.int .i64 t0.root]) o0 rfl (by kernel_rfl)),.b 4 c0] ?_
  have o5:Has h0 (L):=Has.del o0 0
  obtain rfl:=oi H
  exact qt <| ⟨.inl rfl,dv (.bool false) h0 (dq (aD))⟩
end
end Go.Proofs.Ytifafejidnjckaa
namespace Go.Proofs.Ytifafejidnjckaa
open Go Go.R
open Go.IntKind (i64 u64 u8 u32)
end Go.Proofs.Ytifafejidnjckaa
namespace Go.Proofs.Ytifafejidnjckaa
open Go Go.R
open Go.IntKind (i64 u64 u8 u32)
def Bl:b5:=gV [0,1] [] [3] [] []
def fu.f (m:Nat)(x0:List Int)(aT:Int→Int→Option (Int)):Option ((List Int)):=(bO.f m x0 (x0.length:Int) aT).bind fun x1=>some x1
def fu.fin (L:Mem)(aG:Nat)(x0:List Int)(aT:Int→Int→Option (Int))(r:(List Int))(s:St):Prop:=aP Try.prog (s.open Bl) Try.f83.results.toList=some (.tup [])∧Has s.h ((aG,.sl x0.length 1 (af.l r))::L)
def Rn (cf:CallF)(m:Nat):Prop:=∀(x0:List Int) (aT:Int→Int→Option (Int)) (r:(List Int)),fu.f m x0 aT=some r→∀h L (EV:Nat) (aG:Nat),Has h ((aG,.sl EV 1 (af.l x0))::L)→∀(eS:FuncId) (aS bY:List AV),(aM (.fn eS aS) = .fn eS aS)→(∀(h:AHeap) (xs:List AV) (a0:Int) (a1:Int) r,aT a0 a1=some r→aQ bQ h xs ([.int .i64 a0,.int .i64 a1]++bY)→cf eS xs h=some (.int .i64 r,h))→(∀h K,Has h (K++(L))→aQ cE h aS bY)→(∀h,aQ cE h bY bY)→∀xs,xs.map aM=[.rs aG 0 EV 1,.fn eS aS]→∃h',cf 83 xs h=some (.tup [],h')∧Has h' ((aG,.sl EV 1 (af.l r))::L)
section
variable {cf:CallF}{m:Nat}
theorem pc {aX:FuncId→b5}(ha:aX 83=Bl)(O2:Rj cf m)(x0:List Int)(aT:Int→Int→Option (Int))(h:AHeap)(L:Mem)(aG:Nat)(eS:FuncId)(aS bY:List AV)  (qP:aM (.fn eS aS) = .fn eS aS)(gS:∀(h:AHeap) (xs:List AV) (a0:Int) (a1:Int) r,aT a0 a1=some r→aQ bQ h xs ([.int .i64 a0,.int .i64 a1]++bY)→cf eS xs h=some (.int .i64 r,h))(oV:∀h K,Has h (K++(L))→aQ cE h aS bY)(gT:∀h,aQ cE h bY bY)(o:Has h ((aG,.sl x0.length 1 (af.l x0))::L)){out:(List Int)}(H:fu.f m x0 aT=some out) :
  ∃r h',a6 Try.prog aX cf m 83 [.rs aG 0 x0.length 1,.fn eS aS] h=some (r,h')∧r = .tup []∧Has h' ((aG,.sl x0.length 1 (af.l out))::L):=by
 refine au (fn:=Try.f83) ha Try.func83 (by kernel_rfl) (by kernel_rfl) ?_
 refine aK (Q:=fun s=>fu.fin L aG x0 aT out s) (fun _ _ ⟨h1,h2,h3⟩=>⟨h1,_,h2,rfl,h3⟩) ?_
 have H:_=some out:=H
 unfold fu.f at H
 show du _ cf Bl m _ ⟨[.rs aG 0 x0.length 1,.fn eS aS],[],h⟩ _
 obtain⟨x1,e0,H⟩:=bk H
 obtain⟨h0,e1,o0⟩:=O2 _ _ _ _ e0 h _ _ _ (o) eS aS bY qP gS (fun h' K' o'=>oV h' (K'++[]) (by simpa only [VI,V6,V7] using o')) gT [.rs aG 0 x0.length 1,.int .i64 (x0.length:Int),.fn eS aS] (ar (rfl) (ar (aO (aW)) (ar (qP) (bA))))
 obtain rfl:=oi H
 exact qr [.a 4 e1] <| ⟨.inr rfl,⟨by kernel_rfl,he o0⟩⟩
end
end Go.Proofs.Ytifafejidnjckaa
namespace Go.Proofs.Ytifafejidnjckaa
open Go Go.R
open Go.IntKind (i64 u64 u8 u32)
end Go.Proofs.Ytifafejidnjckaa
