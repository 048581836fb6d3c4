/- Part of the proof: Q57, Q58, Q63, Q65, Q74, Q77, Q80, Q82, Q92, Q93, Q94, Q100, Q101, Q107, Q108, Q30, Q31, Q33, Q35, Q50, Q61, Q67, Q70, Q84, Q86, Q87, Q88, Q91, Q104. -/
import Derived.Test.YtifafejidnjckaaK7
set_option linter.unusedVariables false
set_option linter.unusedSimpArgs false
set_option maxRecDepth 100000
open ByteArray renaming mk → U3
open Eq renaming trans → VL
open List renaming length_set → Uq, append_assoc → Uv, cons_append → UQ, nil_append → UR
namespace Go.Proofs.Ytifafejidnjckaa
open Go Go.R
open Go.IntKind (i64 u64 u8 u32)
def xb:bY:=gK [0,1,4,5,6,7,12,19,29] [] [508,500,436,507,484,356,484,452,196,484,484,502,507] [] []
def dJ.l0 (m:Nat)(s0:List Int)(j8:Int→Option (Bool)):Nat→(List Int)→Int→Int→Option ((List Int) × Int × Int)
 | 0,_,_,_=>none
 | k+1,s1,i0,j0=>if (decide (j0<(s0.length:Int)))=true then ((ix s1 j0).bind fun v0=>(j8 v0).bind fun r0=>if (!r0)=true then ((ix s1 i0).bind fun v1=>dJ.l0 m s0 j8 k (s1.set i0.toNat v0) (i64.wrap (i0+(1:Int))) (i64.wrap (j0+(1:Int)))) else (dJ.l0 m s0 j8 k s1 i0 (i64.wrap (j0+(1:Int))))) else (some ((s1,i0,j0)))
def dJ.f (m:Nat)(s0:List Int)(j8:Int→Option (Bool)):Option ((List Int)):=(cw.f m s0 j8).bind fun x0=>if (x0==(-1:Int))=true then (some s0) else ((dJ.l0 m s0 j8 m s0 x0 (i64.wrap (x0+(1:Int)))).bind fun b6=>match b6 with | (s2,i1,j1)=>(JB s2 i1).bind fun v2=>(Hb v2 0 i1).bind fun v3=>some v3)
def dJ.fin (L:Mem)(aI:Nat)(s0:List Int)(j8:Int→Option (Bool))(r:(List Int))(s:St):Prop:=aM Try.prog (s.open xb) Try.f57.results.toList=some (.rs aI 0 r.length 1)∧Has s.h ((aI,.sl r.length 1 (af.l r))::L)
def P4 (cf:CallF)(m:Nat):Prop:=∀(s0:List Int) (j8:Int→Option (Bool)) (r:(List Int)),dJ.f m s0 j8=some r→∀h L (Gl:Nat) (aI:Nat),Has h ((aI,.sl Gl 1 (af.l s0))::L)→∀(eD:FuncId) (aP bV:List AV),(aL (.fn eD aP) = .fn eD aP)→(∀(h:AHeap) (xs:List AV) (a0:Int) r,j8 a0=some r→aO bO h xs ([.int .i64 a0]++bV)→cf eD xs h=some (.bool r,h))→(∀h K,Has h (K++(L))→aO cr h aP bV)→(∀h,aO cr h bV bV)→∀xs,xs.map aL=[.rs aI 0 Gl 1,.fn eD aP]→∃h',cf 57 xs h=some (.rs aI 0 r.length 1,h')∧Has h' ((aI,.sl r.length 1 (af.l r))::L)
section
variable {cf:CallF}{m:Nat}
theorem dJ.dF (L:Mem)(aI:Nat)(eD:FuncId)(aP bV:List AV)(s0:List Int)(j8:Int→Option (Bool))  (qu:aL (.fn eD aP) = .fn eD aP)(gH:∀(h:AHeap) (xs:List AV) (a0:Int) r,j8 a0=some r→aO bO h xs ([.int .i64 a0]++bV)→cf eD xs h=some (.bool r,h))(ox:∀h K,Has h (K++(L))→aO cr h aP bV)(gI:∀h,aO cr h bV bV)  : dZ Try.prog cf xb m (sub [1,1,1,0,1,0,0] (b8 Try.f57)) (fun k (σ:(List Int) × Int × Int)=>dJ.l0 m s0 j8 k σ.1 σ.2.1 σ.2.2) (fun σ s=>match σ with | (s1,i0,j0)=>∃h0,s=⟨.rs aI 0 s0.length 1 :: .fn eD aP :: .any :: .int .i64 i0 :: .int .i64 j0::nw [],[],h0⟩∧Has h0 ((aI,.sl s0.length 1 (af.l s1))::L)) (fun out e s=>(e = .exit 0∧∃s1 i0 j0,(s1,i0,j0)=out∧∃yD Gh NL h0,s=⟨[.rs aI 0 s0.length 1,yD,.any,.int .i64 i0,Gh,.any,.any,NL,.any],[],h0⟩∧Has h0 ((aI,.sl s0.length 1 (af.l s1))::L))):=by
 refine mI (fun _=>rfl) ?_
 rintro k ⟨s1,i0,j0⟩ s out ⟨h0,rfl,o0⟩ H
 have H:dJ.l0 m s0 j8 (k+1) s1 i0 j0=some out:=H
 refine qq <| qq <| q0 <| qc H (fun c1 H=>?_) (fun c1 H=>?_)
 ·refine qk <| qq <| qb 1 <| qq ?_
  obtain⟨v0,e1,H⟩:=bj H
  refine qr [.v 2 (bn (k:=.i64) (E:=af) (l:=s1) (q:=0) gx o0 rfl e1),.v 3 (dD  (E:=af) (l:=s1) (q:=0) o0 rfl A3 e1 rfl)] <| qq ?_
  obtain⟨r0,e2,H⟩:=bj H
  refine qr [.a 2 (gH _ _ _ _ e2 (He (ah (br) (ax)) (ox h0 [(aI,.sl s0.length 1 (af.l s1))] o0)))] <| qc H (fun c2 H=>?_) (fun c2 H=>?_)
  ·refine qq ?_
   obtain⟨v1,e3,H⟩:=bj H
   obtain⟨h1,e4,o1⟩:=fo (P:=Try.prog) (tf:=3) (E:=af) (l:=s1) (q:=0) (v:=v0) (x:=.int .i64 v0) o0 rfl Z3 e3 rfl rfl
   exact qr [.v 3 (bn (k:=.i64) (E:=af) (l:=s1) (q:=0) gx o0 rfl e3),.w 4 e4] <| q0 <| q0 <| ⟨(s1.set i0.toNat v0,i64.wrap (i0+(1:Int)),i64.wrap (j0+(1:Int))),⟨h1,by kernel_rfl,o1⟩,H⟩
  ·exact qk <| q0 <| ⟨(s1,i0,i64.wrap (j0+(1:Int))),⟨h0,by kernel_rfl,o0⟩,H⟩
 ·exact qx 0 <| ⟨rfl,s1,i0,j0,oi H,.fn eD aP,.int .i64 j0,.bool (decide (j0<(s0.length:Int))),h0,by kernel_rfl,o0⟩
theorem sZ {aV:FuncId→bY}(ha:aV 57=xb)(Iw:NF cf m)(s0:List Int)(j8:Int→Option (Bool))(h:AHeap)(L:Mem)(aI:Nat)(eD:FuncId)(aP bV:List AV)  (qu:aL (.fn eD aP) = .fn eD aP)(gH:∀(h:AHeap) (xs:List AV) (a0:Int) r,j8 a0=some r→aO bO h xs ([.int .i64 a0]++bV)→cf eD xs h=some (.bool r,h))(ox:∀h K,Has h (K++(L))→aO cr h aP bV)(gI:∀h,aO cr h bV bV)(o:Has h ((aI,.sl s0.length 1 (af.l s0))::L)){out:(List Int)}(H:dJ.f m s0 j8=some out) :
  ∃r h',a6 Try.prog aV cf m 57 [.rs aI 0 s0.length 1,.fn eD aP] h=some (r,h')∧r = .rs aI 0 out.length 1∧Has h' ((aI,.sl out.length 1 (af.l out))::L):=by
 refine ar (fn:=Try.f57) ha Try.func57 (by kernel_rfl) (by kernel_rfl) ?_
 refine aH (Q:=fun s=>dJ.fin L aI s0 j8 out s) (fun _ _ ⟨h1,h2,h3⟩=>⟨h1,_,h2,rfl,h3⟩) ?_
 have H:_=some out:=H
 unfold dJ.f at H
 show dn _ cf xb m _ ⟨.rs aI 0 s0.length 1 :: .fn eD aP::FY [],[],h⟩ _
 refine q1 <| qq ?_
 obtain⟨x0,e0,H⟩:=bj H
 refine qr [.a 2 (Iw _ _ _ e0 eD bV gH gI h _ (fq (ah (cF (E:=af) (l:=s0) (q:=0) o rfl (fun _=>rfl)) (ah (r9 (ox h [(aI,.sl s0.length 1 (af.l s0))] o)) (ax)))))] <| qq <| qq <| q0 <| qc H (fun c0 H=>?_) (fun c0 H=>?_)
 ·obtain rfl:=oi H
  exact q1 <| qt <| ⟨.inl rfl,⟨by kernel_rfl,he o⟩⟩
 ·refine qk <| qq <| qq <| q0 <| qb 0 ?_
  obtain⟨b6,e5,H⟩:=bj H
  refine ql (dJ.dF L aI eD aP bV s0 j8  qu gH ox gI  (s0,x0,i64.wrap (x0+(1:Int))) _ _ ⟨h,by kernel_rfl,o⟩ e5) ?_
  rintro e s ⟨rfl,s2,i1,j1,rfl,g0,g1,g2,h2,rfl,o2⟩
  try dsimp only at H
  refine qq ?_
  obtain⟨v2,e6,H⟩:=bj H
  obtain⟨h3,e7,o3⟩:=Ip (q:=0) (l:=s2) Nu o2 rfl e6
  refine qr [.v 2 (Io (E:=af) (k:=.i64) (q:=0) (l:=s2) gx o2 rfl (r8 e6).1 (r8 e6).2.1),.a 3 e7] <| qq ?_
  obtain⟨v3,e8,H⟩:=bj H
  obtain⟨NM,o4⟩:=H6 (P:=Try.prog) (k:=.i64) (E:=af) (q:=0) o3 rfl gx e8
  obtain rfl:=oi H
  exact qr [.v 2 NM] <| qt <| ⟨.inl rfl,⟨by kernel_rfl,he o4⟩⟩
end
end Go.Proofs.Ytifafejidnjckaa
namespace Go.Proofs.Ytifafejidnjckaa
open Go Go.R
open Go.IntKind (i64 u64 u8 u32)
def Ag:bY:=gK [0,1,3] [] [4,3] [] []
def cR.f (m:Nat)(n0:Int)(x0:ab):Option (Bool):=(b4.f m x0 n0).bind fun x1=>some (!x1)
def cR.fin (L:Mem)(r:Bool)(s:St):Prop:=∃av,aM Try.prog (s.open Ag) Try.f58.results.toList=some av∧ff s.h av (.bool r)
def P5 (cf:CallF)(m:Nat):Prop:=∀(n0:Int) (x0:ab) (r:Bool),cR.f m n0 x0=some r→∀h xs,aO bO h xs [.int .i64 n0,.fp [.fp [.bool x0.aj,ai.fz x0.aa,af.fz x0.ae] 0] 0]→cf 58 xs h=some (.bool r,h)
section
variable {cf:CallF}{m:Nat}
theorem j9 {aV:FuncId→bY}(ha:aV 58=Ag)(DW:Nz cf m)(n0:Int)(x0:ab)(h:AHeap)(L:Mem)  (o:Has h (L)){out:Bool}(H:cR.f m n0 x0=some out) :
  ∃r h',a6 Try.prog aV cf m 58 [.int .i64 n0,.fp [.fp [.bool x0.aj,ai.fz x0.aa,af.fz x0.ae] 0] 0] h=some (r,h')∧ff h' r (.bool out):=by
 refine ar (fn:=Try.f58) ha Try.func58 (by kernel_rfl) (by kernel_rfl) ?_
 refine aH (Q:=fun s=>cR.fin L out s) (fun _ _ h=>h) ?_
 have H:_=some out:=H
 unfold cR.f at H
 show dn _ cf Ag m _ ⟨[.int .i64 n0,.fp [.fp [.bool x0.aj,ai.fz x0.aa,af.fz x0.ae] 0] 0,.any],[],h⟩ _
 refine q1 <| qq ?_
 obtain⟨x1,e0,H⟩:=bj H
 obtain rfl:=oi H
 exact qr [.a 2 (DW _ _ _ e0 h _ (fq (ah (fX (pure_cons (dN) (pure_cons (bJ.bw (E:=ai) (l:=x0.aa)) (pure_cons (bJ.bw (E:=af) (l:=x0.ae)) (pure_nil))))) (ah (br) (ax)))))] <| qt <| ⟨.inl rfl,dA (.bool (!x1)) h (dz (aD))⟩
end
end Go.Proofs.Ytifafejidnjckaa
namespace Go.Proofs.Ytifafejidnjckaa
open Go Go.R
open Go.IntKind (i64 u64 u8 u32)
def Ah:bY:=gK [0,1,2] [] [4,3] [] []
def cD.f (m:Nat)(x0:ByteArray)(x1:Int):Option (Bool):=(fM.f m x0).bind fun x2=>if x2=true then (some (decide (x1≥(0:Int)))) else (some false)
def cD.fin (L:Mem)(r:Bool)(s:St):Prop:=∃av,aM Try.prog (s.open Ah) Try.f63.results.toList=some av∧ff s.h av (.bool r)
def P6 (cf:CallF)(m:Nat):Prop:=∀(x0:ByteArray) (x1:Int) (r:Bool),cD.f m x0 x1=some r→∀h xs,aO bO h xs [.fp [.str x0] 0,.fp [.int .i64 x1] 0]→cf 63 xs h=some (.bool r,h)
section
variable {cf:CallF}{m:Nat}
theorem kA {aV:FuncId→bY}(ha:aV 63=Ah)(DX:NA cf m)(x0:ByteArray)(x1:Int)(h:AHeap)(L:Mem)  (o:Has h (L)){out:Bool}(H:cD.f m x0 x1=some out) :
  ∃r h',a6 Try.prog aV cf m 63 [.fp [.str x0] 0,.fp [.int .i64 x1] 0] h=some (r,h')∧ff h' r (.bool out):=by
 refine ar (fn:=Try.f63) ha Try.func63 (by kernel_rfl) (by kernel_rfl) ?_
 refine aH (Q:=fun s=>cD.fin L out s) (fun _ _ h=>h) ?_
 have H:_=some out:=H
 unfold cD.f at H
 show dn _ cf Ah m _ ⟨[.fp [.str x0] 0,.fp [.int .i64 x1] 0,.any],[],h⟩ _
 refine q1 <| qq ?_
 obtain⟨x2,e0,H⟩:=bj H
 rcases iw H with⟨c0,H⟩| ⟨c0,H⟩
 ·obtain rfl:=oi H
  exact qr [.a 1 (DX _ _ e0 h _ (fq (ah (cH) (ax)))),.b 2 c0] <| qt <| ⟨.inl rfl,dA (.bool (decide (x1≥(0:Int)))) h (dz (aD))⟩
 ·obtain rfl:=oi H
  exact qr [.a 1 (DX _ _ e0 h _ (fq (ah (cH) (ax)))),.b 2 c0] <| qt <| ⟨.inl rfl,dA (.bool false) h (dz (aD))⟩
end
end Go.Proofs.Ytifafejidnjckaa
namespace Go.Proofs.Ytifafejidnjckaa
open Go Go.R
open Go.IntKind (i64 u64 u8 u32)
def Ai:bY:=gK [0,1,4] [] [4,3] [] []
def gA.f (m:Nat)(s0:List aq)(f0:aq→Option (Bool)):Option (Bool):=(eL.f m s0 f0).bind fun x0=>some (decide (x0≥(0:Int)))
def gA.fin (L:Mem)(r:Bool)(s:St):Prop:=∃av,aM Try.prog (s.open Ai) Try.f65.results.toList=some av∧ff s.h av (.bool r)
def P7 (cf:CallF)(m:Nat):Prop:=∀(s0:List aq) (f0:aq→Option (Bool)) (r:Bool),gA.f m s0 f0=some r→∀(eD:FuncId) (aP:List AV),(∀(h:AHeap) (xs:List AV) (a0:aq) r,f0 a0=some r→aO bO h xs ([.agg [.int .i64 a0.kind,.int .i64 a0.int,.str a0.label,af.fz a0.args]]++aP)→cf eD xs h=some (.bool r,h))→(∀h,aO cr h aP aP)→∀h xs,aO bO h xs [ai.fz s0,.fn eD aP]→cf 65 xs h=some (.bool r,h)
section
variable {cf:CallF}{m:Nat}
theorem qA {aV:FuncId→bY}(ha:aV 65=Ai)(NN:PT cf m)(s0:List aq)(f0:aq→Option (Bool))(h:AHeap)(L:Mem)(eD:FuncId)(aP:List AV)  (gH:∀(h:AHeap) (xs:List AV) (a0:aq) r,f0 a0=some r→aO bO h xs ([.agg [.int .i64 a0.kind,.int .i64 a0.int,.str a0.label,af.fz a0.args]]++aP)→cf eD xs h=some (.bool r,h))(gI:∀h,aO cr h aP aP)(o:Has h (L)){out:Bool}(H:gA.f m s0 f0=some out) :
  ∃r h',a6 Try.prog aV cf m 65 [ai.fz s0,.fn eD aP] h=some (r,h')∧ff h' r (.bool out):=by
 refine ar (fn:=Try.f65) ha Try.func65 (by kernel_rfl) (by kernel_rfl) ?_
 refine aH (Q:=fun s=>gA.fin L out s) (fun _ _ h=>h) ?_
 have H:_=some out:=H
 unfold gA.f at H
 show dn _ cf Ai m _ ⟨[ai.fz s0,.fn eD aP,.any],[],h⟩ _
 refine q1 <| qq ?_
 obtain⟨x0,e0,H⟩:=bj H
 obtain rfl:=oi H
 exact qr [.a 2 (NN _ _ _ e0 eD aP gH gI h _ (fq (ah (fe (E:=ai)) (ah (r9 (gI h)) (ax)))))] <| qt <| ⟨.inl rfl,dA (.bool (decide (x0≥(0:Int)))) h (dz (aD))⟩
end
end Go.Proofs.Ytifafejidnjckaa
namespace Go.Proofs.Ytifafejidnjckaa
open Go Go.R
open Go.IntKind (i64 u64 u8 u32)
def xc:bY:=gK [0,1,2,6,7,27,29,30,31,37] [] [1016,990,1015,830,574,814,318,1015,830,1015] [] []
def cL.l0 (m:Nat)(s0:ByteArray):Nat→Int→Option (Sum Bool (Int))
 | 0,_=>none
 | k+1,x0=>if (decide (x0<(s0.size:Int)))=true then ((bt s0 x0).bind fun v2=>(fF.f m v2).bind fun x1=>if (!x1)=true then (some (.inl false)) else (cL.l0 m s0 k (i64.wrap (x0+(1:Int))))) else (some (.inr x0))
def cL.f (m:Nat)(s0:ByteArray)(ka:Int)(nb:Int):Option (Bool):=if (decide ((s0.size:Int)<(1:Int)))=true then (some false) else (if (decide ((s0.size:Int) > (16:Int)))=true then (some false) else ((bt s0 (0:Int)).bind fun v0=>if (decide (v0<ka))=true then (some false) else ((bt s0 (0:Int)).bind fun v1=>if (decide (v1 > nb))=true then (some false) else ((cL.l0 m s0 m (0:Int)).bind fun b6=>match b6 with | .inl r0=>some r0 | .inr x2=>some true))))
def cL.fin (L:Mem)(r:Bool)(s:St):Prop:=∃av,aM Try.prog (s.open xc) Try.f74.results.toList=some av∧ff s.h av (.bool r)
def P8 (cf:CallF)(m:Nat):Prop:=∀(s0:ByteArray) (ka:Int) (nb:Int) (r:Bool),cL.f m s0 ka nb=some r→∀h xs,aO bO h xs [.str s0,.int .u8 ka,.int .u8 nb]→cf 74 xs h=some (.bool r,h)
section
variable {cf:CallF}{m:Nat}
theorem cL.dF (L:Mem)(s0:ByteArray)  (Ix:NG cf m):dZ Try.prog cf xc m (sub [1,1,0,1,0,0] (b8 Try.f74)) (fun k (σ:Int)=>cL.l0 m s0 k σ) (fun σ s=>match σ with | x0=>∃h0,s=⟨.str s0::Fi [.int .i64 (s0.size:Int),.int .i64 x0,.any,.any],[],h0⟩∧Has h0 (L)) (fun out e s=>(e = .exit 0∧∃x0,.inr x0=out∧∃ow NO Iy NP h0,s=⟨ow::Fi [NO,Iy,NP,.any],[],h0⟩∧Has h0 (L))∨(e = .ret∧∃r,.inl r=out∧cL.fin L r s)):=by
 refine mI (fun _=>rfl) ?_
 rintro k x0 s out ⟨h0,rfl,o0⟩ H
 have H:cL.l0 m s0 (k+1) x0=some out:=H
 refine q1 <| qq <| qc H (fun c7 H=>?_) (fun c7 H=>?_)
 ·refine qk <| qq <| qb 1 <| qq <| q0 <| qq ?_
  obtain⟨v2,e2,H⟩:=bj H
  obtain⟨x1,e3,H⟩:=bj H
  refine qr [.v 2 (uS (k:=.i64) U9 e2),.a 3 (Ix _ _ e3 h0 _ (fq (ah (br) (ax))))] <| qc H (fun c8 H=>?_) (fun c8 H=>?_)
  ·exact q1 <| qt <| Or.inr (⟨rfl,_,oi H,dA (.bool false) h0 (dz (aD))⟩)
  ·exact qk <| q0 <| ⟨i64.wrap (x0+(1:Int)),⟨h0,by kernel_rfl,o0⟩,H⟩
 ·exact qx 0 <| Or.inl (⟨rfl,x0,oi H,.str s0,.int .i64 (s0.size:Int),.int .i64 x0,.bool (decide (x0<(s0.size:Int))),h0,by kernel_rfl,o0⟩)
theorem se {aV:FuncId→bY}(ha:aV 74=xc)(Ix:NG cf m)(s0:ByteArray)(ka:Int)(nb:Int)(h:AHeap)(L:Mem)  (o:Has h (L)){out:Bool}(H:cL.f m s0 ka nb=some out) :
  ∃r h',a6 Try.prog aV cf m 74 [.str s0,.int .u8 ka,.int .u8 nb] h=some (r,h')∧ff h' r (.bool out):=by
 refine ar (fn:=Try.f74) ha Try.func74 (by kernel_rfl) (by kernel_rfl) ?_
 refine aH (Q:=fun s=>cL.fin L out s) (fun _ _ h=>h) ?_
 have H:_=some out:=H
 unfold cL.f at H
 show dn _ cf xc m _ ⟨.str s0 :: .int .u8 ka :: .int .u8 nb::FY [],[],h⟩ _
 refine q1 <| qq <| qq ?_
 rcases iw H with⟨c0,H⟩| ⟨c0,H⟩
 ·obtain rfl:=oi H
  exact qr [.b 3 c0] <| Ku <| qq <| q0 <| qt <| ⟨.inl rfl,dA (.bool false) h (dz (aD))⟩
 ·rcases iw H with⟨c2,H⟩| ⟨c2,H⟩
  ·obtain rfl:=oi H
   exact qr [.b 3 c0,.b 8 c2] <| Ku <| qq <| q0 <| qt <| ⟨.inl rfl,dA (.bool false) h (dz (aD))⟩
  ·obtain⟨v0,e0,H⟩:=bj H
   rcases iw H with⟨c4,H⟩| ⟨c4,H⟩
   ·obtain rfl:=oi H
    exact qr [.b 3 c0,.b 8 c2,.v 10 (uS (k:=.i64) U9 e0),.b 14 c4] <| Ku <| qq <| q0 <| qt <| ⟨.inl rfl,dA (.bool false) h (dz (aD))⟩
   ·obtain⟨v1,e1,H⟩:=bj H
    refine qr [.b 3 c0,.b 8 c2,.v 10 (uS (k:=.i64) U9 e0),.b 14 c4,.v 16 (uS (k:=.i64) U9 e1)] <| qc H (fun c6 H=>?_) (fun c6 H=>?_)
    ·obtain rfl:=oi H
     exact q1 <| qt <| ⟨.inl rfl,dA (.bool false) h (dz (aD))⟩
    ·refine qk <| qq <| qq <| q0 <| qb 0 ?_
     obtain⟨b6,e4,H⟩:=bj H
     refine ql (cL.dF L s0  Ix (0:Int) _ _ ⟨h,by kernel_rfl,o⟩ e4) ?_
     rintro e s (⟨rfl,x2,rfl,g0,g1,g2,g3,h1,rfl,o1⟩| ⟨rfl,r0,rfl,yC⟩)
     ·try dsimp only at H
      obtain rfl:=oi H
      exact q1 <| qt <| ⟨.inl rfl,dA (.bool true) h1 (dz (aD))⟩
     ·try dsimp only at H
      obtain rfl:=oi H
      exact⟨.inl rfl,yC⟩
end
end Go.Proofs.Ytifafejidnjckaa
namespace Go.Proofs.Ytifafejidnjckaa
open Go Go.R
open Go.IntKind (i64 u64 u8 u32)
end Go.Proofs.Ytifafejidnjckaa
namespace Go.Proofs.Ytifafejidnjckaa
open Go Go.R
open Go.IntKind (i64 u64 u8 u32)
def Aj:bY:=gK [0,1,4,5,6,11,12,13,16,19] [] [1020,1012,996,972,959,1019,1019,892,1019,764,1019,511,1019,1019] [] []
def cE.f (m:Nat)(x0:Int)(y0:Int):Option (Int):=(cmp_isNaN_int.f m x0).bind fun x1=>(cmp_isNaN_int.f m y0).bind fun x2=>if x1=true then (if x2=true then (some (0:Int)) else (some (-1:Int))) else (if x2=true then (some (1:Int)) else (if (decide (x0<y0))=true then (some (-1:Int)) else (if (decide (x0 > y0))=true then (some (1:Int)) else (some (0:Int)))))
def cE.fin (L:Mem)(r:Int)(s:St):Prop:=∃av,aM Try.prog (s.open Aj) Try.f80.results.toList=some av∧ff s.h av (.int .i64 r)
def P9 (cf:CallF)(m:Nat):Prop:=∀(x0:Int) (y0:Int) (r:Int),cE.f m x0 y0=some r→∀h xs,aO bO h xs [.int .i64 x0,.int .i64 y0]→cf 80 xs h=some (.int .i64 r,h)
section
variable {cf:CallF}{m:Nat}
theorem mh {aV:FuncId→bY}(ha:aV 80=Aj)(KJ:PW cf m)(x0:Int)(y0:Int)(h:AHeap)(L:Mem)  (o:Has h (L)){out:Int}(H:cE.f m x0 y0=some out) :
  ∃r h',a6 Try.prog aV cf m 80 [.int .i64 x0,.int .i64 y0] h=some (r,h')∧ff h' r (.int .i64 out):=by
 refine ar (fn:=Try.f80) ha Try.func80 (by kernel_rfl) (by kernel_rfl) ?_
 refine aH (Q:=fun s=>cE.fin L out s) (fun _ _ h=>h) ?_
 have H:_=some out:=H
 unfold cE.f at H
 show dn _ cf Aj m _ ⟨.int .i64 x0 :: .int .i64 y0::BL [],[],h⟩ _
 refine q1 <| qq ?_
 obtain⟨x1,e0,H⟩:=bj H
 refine qr [.a 1 (KJ _ _ e0 h _ (fq (ah (br) (ax))))] <| qq ?_
 obtain⟨x2,e1,H⟩:=bj H
 refine qr [.a 1 (KJ _ _ e1 h _ (fq (ah (br) (ax))))] <| qq <| qq <| q0 <| qc H (fun c0 H=>?_) (fun c0 H=>?_)
 ·refine qq <| qq <| q0 <| qc H (fun c1 H=>?_) (fun c1 H=>?_)
  ·obtain rfl:=oi H
   exact q1 <| qt <| ⟨.inl rfl,dA (.int .i64 (0:Int)) h (dz (dd))⟩
  ·obtain rfl:=oi H
   exact qk <| qq <| q0 <| qt <| ⟨.inl rfl,dA (.int .i64 (-1:Int)) h (dz (dd))⟩
 ·refine qk <| qq <| qq <| q0 <| qc H (fun c2 H=>?_) (fun c2 H=>?_)
  ·obtain rfl:=oi H
   exact q1 <| qt <| ⟨.inl rfl,dA (.int .i64 (1:Int)) h (dz (dd))⟩
  ·refine qk <| qq <| qq <| q0 <| qc H (fun c3 H=>?_) (fun c3 H=>?_)
   ·obtain rfl:=oi H
    exact q1 <| qt <| ⟨.inl rfl,dA (.int .i64 (-1:Int)) h (dz (dd))⟩
   ·refine qk <| qq <| qq <| q0 <| qc H (fun c4 H=>?_) (fun c4 H=>?_)
    ·obtain rfl:=oi H
     exact q1 <| qt <| ⟨.inl rfl,dA (.int .i64 (1:Int)) h (dz (dd))⟩
    ·obtain rfl:=oi H
     exact qk <| qq <| q0 <| qt <| ⟨.inl rfl,dA (.int .i64 (0:Int)) h (dz (dd))⟩
end
end Go.Proofs.Ytifafejidnjckaa
namespace Go.Proofs.Ytifafejidnjckaa
open Go Go.R
open Go.IntKind (i64 u64 u8 u32)
def Ak:bY:=gK [0,1,4,5,6,11,12,13,16,19] [] [1020,1012,996,972,959,1019,1019,892,1019,764,1019,511,1019,1019] [] []
def b9.f (m:Nat)(x0:ByteArray)(y0:ByteArray):Option (Int):=(cmp_isNaN_string.f m x0).bind fun x1=>(cmp_isNaN_string.f m y0).bind fun x2=>if x1=true then (if x2=true then (some (0:Int)) else (some (-1:Int))) else (if x2=true then (some (1:Int)) else (if (Op.bytesLess x0.data.toList y0.data.toList)=true then (some (-1:Int)) else (if (!Dr x0 y0)=true then (some (1:Int)) else (some (0:Int)))))
def b9.fin (L:Mem)(r:Int)(s:St):Prop:=∃av,aM Try.prog (s.open Ak) Try.f82.results.toList=some av∧ff s.h av (.int .i64 r)
def Qa (cf:CallF)(m:Nat):Prop:=∀(x0:ByteArray) (y0:ByteArray) (r:Int),b9.f m x0 y0=some r→∀h xs,aO bO h xs [.str x0,.str y0]→cf 82 xs h=some (.int .i64 r,h)
section
variable {cf:CallF}{m:Nat}
theorem kB {aV:FuncId→bY}(ha:aV 82=Ak)(KK:PX cf m)(x0:ByteArray)(y0:ByteArray)(h:AHeap)(L:Mem)  (o:Has h (L)){out:Int}(H:b9.f m x0 y0=some out) :
  ∃r h',a6 Try.prog aV cf m 82 [.str x0,.str y0] h=some (r,h')∧ff h' r (.int .i64 out):=by
 refine ar (fn:=Try.f82) ha Try.func82 (by kernel_rfl) (by kernel_rfl) ?_
 refine aH (Q:=fun s=>b9.fin L out s) (fun _ _ h=>h) ?_
 have H:_=some out:=H
 unfold b9.f at H
 show dn _ cf Ak m _ ⟨.str x0 :: .str y0::BL [],[],h⟩ _
 refine q1 <| qq ?_
 obtain⟨x1,e0,H⟩:=bj H
 refine qr [.a 1 (KK _ _ e0 h _ (fq (ah (cH) (ax))))] <| qq ?_
 obtain⟨x2,e1,H⟩:=bj H
 refine qr [.a 1 (KK _ _ e1 h _ (fq (ah (cH) (ax))))] <| qq <| qq <| q0 <| qc H (fun c0 H=>?_) (fun c0 H=>?_)
 ·refine qq <| qq <| q0 <| qc H (fun c1 H=>?_) (fun c1 H=>?_)
  ·obtain rfl:=oi H
   exact q1 <| qt <| ⟨.inl rfl,dA (.int .i64 (0:Int)) h (dz (dd))⟩
  ·obtain rfl:=oi H
   exact qk <| qq <| q0 <| qt <| ⟨.inl rfl,dA (.int .i64 (-1:Int)) h (dz (dd))⟩
 ·refine qk <| qq <| qq <| q0 <| qc H (fun c2 H=>?_) (fun c2 H=>?_)
  ·obtain rfl:=oi H
   exact q1 <| qt <| ⟨.inl rfl,dA (.int .i64 (1:Int)) h (dz (dd))⟩
  ·refine qk <| qq <| qq <| q0 <| qc H (fun c3 H=>?_) (fun c3 H=>?_)
   ·obtain rfl:=oi H
    exact q1 <| qt <| ⟨.inl rfl,dA (.int .i64 (-1:Int)) h (dz (dd))⟩
   ·refine qk <| qq <| qq <| q0 <| qc H (fun c4 H=>?_) (fun c4 H=>?_)
    ·obtain rfl:=oi H
     exact q1 <| qt <| ⟨.inl rfl,dA (.int .i64 (1:Int)) h (dz (dd))⟩
    ·obtain rfl:=oi H
     exact qk <| qq <| q0 <| qt <| ⟨.inl rfl,dA (.int .i64 (0:Int)) h (dz (dd))⟩
end
end Go.Proofs.Ytifafejidnjckaa
namespace Go.Proofs.Ytifafejidnjckaa
open Go Go.R
open Go.IntKind (i64 u64 u8 u32)
end Go.Proofs.Ytifafejidnjckaa
namespace Go.Proofs.Ytifafejidnjckaa
open Go Go.R
open Go.IntKind (i64 u64 u8 u32)
end Go.Proofs.Ytifafejidnjckaa
namespace Go.Proofs.Ytifafejidnjckaa
open Go Go.R
open Go.IntKind (i64 u64 u8 u32)
end Go.Proofs.Ytifafejidnjckaa
namespace Go.Proofs.Ytifafejidnjckaa
open Go Go.R
open Go.IntKind (i64 u64 u8 u32)
end Go.Proofs.Ytifafejidnjckaa
namespace Go.Proofs.Ytifafejidnjckaa
open Go Go.R
open Go.IntKind (i64 u64 u8 u32)
end Go.Proofs.Ytifafejidnjckaa
namespace Go.Proofs.Ytifafejidnjckaa
open Go Go.R
open Go.IntKind (i64 u64 u8 u32)
end Go.Proofs.Ytifafejidnjckaa
namespace Go.Proofs.Ytifafejidnjckaa
open Go Go.R
open Go.IntKind (i64 u64 u8 u32)
def sf:bY:=gK [0,1,2,3,4,10,11,20,23] [] [450,394,266,138,394,394,394,394,511] [] []
def eM.l0 (m:Nat)(m0:Int)(aS:Int→Int→Option (Int)):Nat→(List Int)→Int→Int→Option ((List Int) × Int × Int)
 | 0,_,_,_=>none
 | k+1,bk,i0,j0=>if (!(i0==j0))=true then (if (decide (i0 > j0))=true then ((bR.f m bk (i64.wrap (m0 - i0)) m0 j0 aS).bind fun x0=>eM.l0 m m0 aS k x0 (i64.wrap (i0 - j0)) j0) else ((bR.f m bk (i64.wrap (m0 - i0)) (i64.wrap (i64.wrap (m0+j0) - i0)) i0 aS).bind fun x1=>eM.l0 m m0 aS k x1 i0 (i64.wrap (j0 - i0)))) else (some ((bk,i0,j0)))
def eM.f (m:Nat)(aw:List Int)(a0:Int)(m0:Int)(b0:Int)(aS:Int→Int→Option (Int)):Option ((List Int)):=(eM.l0 m m0 aS m aw (i64.wrap (m0 - a0)) (i64.wrap (b0 - m0))).bind fun b6=>match b6 with | (cZ,i1,j1)=>(bR.f m cZ (i64.wrap (m0 - i1)) m0 i1 aS).bind fun x2=>some x2
def eM.fin (L:Mem)(aI:Nat)(aw:List Int)(a0:Int)(m0:Int)(b0:Int)(aS:Int→Int→Option (Int))(r:(List Int))(s:St):Prop:=aM Try.prog (s.open sf) Try.f108.results.toList=some (.tup [])∧Has s.h ((aI,.sl aw.length 1 (af.l r))::L)
def KL (cf:CallF)(m:Nat):Prop:=∀(aw:List Int) (a0:Int) (m0:Int) (b0:Int) (aS:Int→Int→Option (Int)) (r:(List Int)),eM.f m aw a0 m0 b0 aS=some r→∀h L (cd:Nat) (aI:Nat),Has h ((aI,.sl cd 1 (af.l aw))::L)→∀(eF:FuncId) (aY aT:List AV),(aL (.fn eF aY) = .fn eF aY)→(∀(h:AHeap) (xs:List AV) (a0:Int) (a1:Int) r,aS a0 a1=some r→aO bO h xs ([.int .i64 a0,.int .i64 a1]++aT)→cf eF xs h=some (.int .i64 r,h))→(∀h K,Has h (K++(L))→aO cr h aY aT)→(∀h,aO cr h aT aT)→∀xs,xs.map aL=[.rs aI 0 cd 1,.int .i64 a0,.int .i64 m0,.int .i64 b0,.fn eF aY]→∃h',cf 108 xs h=some (.tup [],h')∧Has h' ((aI,.sl cd 1 (af.l r))::L)
section
variable {cf:CallF}{m:Nat}
theorem eM.dF (L:Mem)(aI:Nat)(eF:FuncId)(aY aT:List AV)(aw:List Int)(a0:Int)(m0:Int)(b0:Int)(aS:Int→Int→Option (Int))  (gz:aL (.fn eF aY) = .fn eF aY)(gS:∀(h:AHeap) (xs:List AV) (a0:Int) (a1:Int) r,aS a0 a1=some r→aO bO h xs ([.int .i64 a0,.int .i64 a1]++aT)→cf eF xs h=some (.int .i64 r,h))(gT:∀h K,Has h (K++(L))→aO cr h aY aT)(iy:∀h,aO cr h aT aT)(xd:Iv cf m):dZ Try.prog cf sf m (sub [1,1,0,0,0] (b8 Try.f108)) (fun k (σ:(List Int) × Int × Int)=>eM.l0 m m0 aS k σ.1 σ.2.1 σ.2.2) (fun σ s=>match σ with | (bk,i0,j0)=>∃h0,s=⟨[.rs aI 0 aw.length 1,.any,.int .i64 m0,.any,.fn eF aY,.int .i64 i0,.int .i64 j0,.any,.any],[],h0⟩∧Has h0 ((aI,.sl aw.length 1 (af.l bk))::L)) (fun out e s=>(e = .exit 0∧∃bk i0 j0,(bk,i0,j0)=out∧∃Iz NQ h0,s=⟨[.rs aI 0 aw.length 1,.any,.int .i64 m0,.any,.fn eF aY,.int .i64 i0,Iz,NQ,.any],[],h0⟩∧Has h0 ((aI,.sl aw.length 1 (af.l bk))::L))):=by
 refine mI (fun _=>rfl) ?_
 rintro k ⟨bk,i0,j0⟩ s out ⟨h0,rfl,o0⟩ H
 have H:eM.l0 m m0 aS (k+1) bk i0 j0=some out:=H
 refine qq <| qq <| q0 <| qc H (fun c0 H=>?_) (fun c0 H=>?_)
 ·refine qk <| qb 1 <| qq <| q0 <| qc H (fun c1 H=>?_) (fun c1 H=>?_)
  ·refine qq ?_
   obtain⟨x0,e0,H⟩:=bj H
   obtain⟨h1,e1,o1⟩:=xd _ _ _ _ _ _ e0 h0 _ _ _ (o0) eF aY aT gz gS (fun h' K' o'=>gT h' (K'++[]) (by simpa only [Uv,UQ,UR] using o')) iy [.rs aI 0 aw.length 1,.int .i64 (i64.wrap (m0 - i0)),.int .i64 m0,.int .i64 j0,.fn eF aY] (au (rfl) (au (aN (bg)) (au (aN (bg)) (au (aN (bg)) (au (gz) (bG))))))
   exact qr [.a 7 e1] <| q0 <| ⟨(x0,i64.wrap (i0 - j0),j0),⟨h1,by kernel_rfl,o1⟩,H⟩
  ·refine qq ?_
   obtain⟨x1,e2,H⟩:=bj H
   obtain⟨h2,e3,o2⟩:=xd _ _ _ _ _ _ e2 h0 _ _ _ (o0) eF aY aT gz gS (fun h' K' o'=>gT h' (K'++[]) (by simpa only [Uv,UQ,UR] using o')) iy [.rs aI 0 aw.length 1,.int .i64 (i64.wrap (m0 - i0)),.int .i64 (i64.wrap (i64.wrap (m0+j0) - i0)),.int .i64 i0,.fn eF aY] (au (rfl) (au (aN (bg)) (au (aN (bg)) (au (aN (bg)) (au (gz) (bG))))))
   exact qr [.a 11 e3] <| q0 <| ⟨(x1,i0,i64.wrap (j0 - i0)),⟨h2,by kernel_rfl,o2⟩,H⟩
 ·exact qx 0 <| ⟨rfl,bk,i0,j0,oi H,.int .i64 j0,.bool (!(i0==j0)),h0,by kernel_rfl,o0⟩
theorem vg {aV:FuncId→bY}(ha:aV 108=sf)(xd:Iv cf m)(aw:List Int)(a0:Int)(m0:Int)(b0:Int)(aS:Int→Int→Option (Int))(h:AHeap)(L:Mem)(aI:Nat)(eF:FuncId)(aY aT:List AV)  (gz:aL (.fn eF aY) = .fn eF aY)(gS:∀(h:AHeap) (xs:List AV) (a0:Int) (a1:Int) r,aS a0 a1=some r→aO bO h xs ([.int .i64 a0,.int .i64 a1]++aT)→cf eF xs h=some (.int .i64 r,h))(gT:∀h K,Has h (K++(L))→aO cr h aY aT)(iy:∀h,aO cr h aT aT)(o:Has h ((aI,.sl aw.length 1 (af.l aw))::L)){out:(List Int)}(H:eM.f m aw a0 m0 b0 aS=some out) :
  ∃r h',a6 Try.prog aV cf m 108 [.rs aI 0 aw.length 1,.int .i64 a0,.int .i64 m0,.int .i64 b0,.fn eF aY] h=some (r,h')∧r = .tup []∧Has h' ((aI,.sl aw.length 1 (af.l out))::L):=by
 refine ar (fn:=Try.f108) ha Try.func108 (by kernel_rfl) (by kernel_rfl) ?_
 refine aH (Q:=fun s=>eM.fin L aI aw a0 m0 b0 aS out s) (fun _ _ ⟨h1,h2,h3⟩=>⟨h1,_,h2,rfl,h3⟩) ?_
 have H:_=some out:=H
 unfold eM.f at H
 show dn _ cf sf m _ ⟨.rs aI 0 aw.length 1 :: .int .i64 a0 :: .int .i64 m0 :: .int .i64 b0 :: .fn eF aY::nw [],[],h⟩ _
 refine q1 <| qq <| q0 <| qq <| qb 0 ?_
 obtain⟨b6,e4,H⟩:=bj H
 refine ql (eM.dF L aI eF aY aT aw a0 m0 b0 aS  gz gS gT iy xd (aw,i64.wrap (m0 - a0),i64.wrap (b0 - m0)) _ _ ⟨h,by kernel_rfl,o⟩ e4) ?_
 rintro e s ⟨rfl,cZ,i1,j1,rfl,g0,g1,h3,rfl,o3⟩
 try dsimp only at H
 obtain⟨x2,e5,H⟩:=bj H
 obtain⟨h4,e6,o4⟩:=xd _ _ _ _ _ _ e5 h3 _ _ _ (o3) eF aY aT gz gS (fun h' K' o'=>gT h' (K'++[]) (by simpa only [Uv,UQ,UR] using o')) iy [.rs aI 0 aw.length 1,.int .i64 (i64.wrap (m0 - i1)),.int .i64 m0,.int .i64 i1,.fn eF aY] (au (rfl) (au (aN (bg)) (au (aN (bg)) (au (aN (bg)) (au (gz) (bG))))))
 obtain rfl:=oi H
 exact qr [.a 7 e6] <| ⟨.inr rfl,⟨by kernel_rfl,he o4⟩⟩
end
end Go.Proofs.Ytifafejidnjckaa
namespace Go.Proofs.Ytifafejidnjckaa
open Go Go.R
open Go.IntKind (i64 u64 u8 u32)
def Al:bY:=gK [0,1,2,4,5,9] [] [57,41,55,31,55,55] [] []
def bT.f (m:Nat)(s0:ab)(l0:List Int):Option (Int):=(bA.f m s0).bind fun x0=>if (!x0)=true then (some (6:Int)) else ((eu.f m l0 (fun y0=>cQ.f m y0 s0)).bind fun x1=>if x1=true then (some (1:Int)) else (some (0:Int)))
def bT.fin (L:Mem)(r:Int)(s:St):Prop:=∃av,aM Try.prog (s.open Al) Try.f30.results.toList=some av∧ff s.h av (.int .i64 r)
def LW (cf:CallF)(m:Nat):Prop:=∀(s0:ab) (l0:List Int) (r:Int),bT.f m s0 l0=some r→∀h xs,aO bO h xs [.fp [.bool s0.aj,ai.fz s0.aa,af.fz s0.ae] 0,af.fz l0]→cf 30 xs h=some (.int .i64 r,h)
section
variable {cf:CallF}{m:Nat}
theorem kZ {aV:FuncId→bY}(ha:aV 30=Al)(yE:KH cf m)(DY:LV cf m)(NR:P3 cf m)(s0:ab)(l0:List Int)(h:AHeap)(L:Mem)  (o:Has h (L)){out:Int}(H:bT.f m s0 l0=some out) :
  ∃r h',a6 Try.prog aV cf m 30 [.fp [.bool s0.aj,ai.fz s0.aa,af.fz s0.ae] 0,af.fz l0] h=some (r,h')∧ff h' r (.int .i64 out):=by
 refine ar (fn:=Try.f30) ha Try.func30 (by kernel_rfl) (by kernel_rfl) ?_
 refine aH (Q:=fun s=>bT.fin L out s) (fun _ _ h=>h) ?_
 have H:_=some out:=H
 unfold bT.f at H
 show dn _ cf Al m _ ⟨.fp [.bool s0.aj,ai.fz s0.aa,af.fz s0.ae] 0::af.fz l0::nw [],[],h⟩ _
 refine qq ?_
 obtain⟨aI,h0,e0,o0⟩:=gg (cs:=[.fp [.bool s0.aj,ai.fz s0.aa,af.fz s0.ae] 0]) o (by kernel_rfl)
 refine qr [.a 0 e0] <| qq <| qb 0 <| qq ?_
 obtain⟨x0,e1,H⟩:=bj H
 refine qr [.v 0 (show bl Try.prog h0 28 (.ptr aI 0)=some (.fp [.bool s0.aj,ai.fz s0.aa,af.fz s0.ae] 0) from bX (q:=0) (cs:=[.fp [.bool s0.aj,ai.fz s0.aa,af.fz s0.ae] 0]) o0 rfl (by kernel_rfl)),.a 1 (yE _ _ e1 h0 _ (fq (ah (fX (pure_cons (dN) (pure_cons (bJ.bw (E:=ai) (l:=s0.aa)) (pure_cons (bJ.bw (E:=af) (l:=s0.ae)) (pure_nil))))) (ax))))] <| qc H (fun c0 H=>?_) (fun c0 H=>?_)
 ·refine q1 ?_
  have o1:Has h0 (L):=Has.del o0 0
  obtain rfl:=oi H
  exact qt <| ⟨.inl rfl,dA (.int .i64 (6:Int)) h0 (dz (dd))⟩
 ·refine qq ?_
  obtain⟨x1,e2,H⟩:=bj H
  refine qr [.a 2 (DY _ _ _ e2 53 [.fp [.fp [.bool s0.aj,ai.fz s0.aa,af.fz s0.ae] 0] 0] (fun h' sY y0 r hr hx=>NR y0 _ r hr h' sY hx) (fun h_=>iC (ah (fX (pure_cons (kV (pure_cons (dN) (pure_cons (bJ.bw (E:=ai) (l:=s0.aa)) (pure_cons (bJ.bw (E:=af) (l:=s0.ae)) (pure_nil))))) (pure_nil))) (ax))) h0 _ (fq (ah (fe (E:=af)) (ah (r9 (ah (cJ (q:=0) o0 rfl (ah (fX (pure_cons (dN) (pure_cons (bJ.bw (E:=ai) (l:=s0.aa)) (pure_cons (bJ.bw (E:=af) (l:=s0.ae)) (pure_nil))))) (ax))) (ax))) (ax)))))] ?_
  have o2:Has h0 (L):=Has.del o0 0
  refine qc H (fun c1 H=>?_) (fun c1 H=>?_)
  ·obtain rfl:=oi H
   exact q1 <| qt <| ⟨.inl rfl,dA (.int .i64 (1:Int)) h0 (dz (dd))⟩
  ·obtain rfl:=oi H
   exact qk <| qq <| q0 <| qt <| ⟨.inl rfl,dA (.int .i64 (0:Int)) h0 (dz (dd))⟩
end
end Go.Proofs.Ytifafejidnjckaa
namespace Go.Proofs.Ytifafejidnjckaa
open Go Go.R
open Go.IntKind (i64 u64 u8 u32)
def tO:bY:=gK [0,1,2,6,7,8,9,10,11,12,13,14,22,46,70,73,77,78,79] [11,12,13,18] [524280,524248,524190,524062,519966,524062,523806,515614,522270,505886,489502,524263,325662,63518,323614,325662,325662,524062,524263] [] [(1,[(8,none,1)])]
def az.l1 (m:Nat)(v2:aq)(v3:aq):Nat→(List aZ)→Int→ab→Option ((List aZ) × Int × ab)
 | 0,_,_,_=>none
 | k+1,jD,x3,s2=>if (decide (x3<(v2.args.length:Int)))=true then ((ix v2.args x3).bind fun v4=>(ix v3.args x3).bind fun v5=>(app 16 jD ([(aZ.mk v4 v5)])).bind fun x4=>az.l1 m v2 v3 k x4 (i64.wrap (x3+(1:Int))) s2) else (some ((jD,x3,s2)))
def az.l0 (m:Nat)  : Nat→(List Int)→(List aZ)→Int→ab→Option (Sum ((List Int) × Bool × ab) ((List Int) × (List aZ) × Int × ab))
 | 0,_,_,_,_=>none
 | k+1,aF,eW,k0,s1=>if (decide (k0<(eW.length:Int)))=true then ((ix eW k0).bind fun v0=>(a7.f m s1 v0.jH).bind fun x0=>(ix eW k0).bind fun v1=>(a7.f m s1 v1.kI).bind fun x1=>if ((x0==x0)&&(x1==x0))=true then (az.l0 m k aF eW (i64.wrap (k0+(1:Int))) s1) else ((ix s1.aa x0).bind fun v2=>(ix s1.aa x1).bind fun v3=>if (!(v2.kind==(0:Int)))=true then (if (!(v3.kind==(0:Int)))=true then ((eV.f m v2 v3).bind fun x2=>if x2=true then (some (.inl (aF,false,s1))) else ((az.l1 m v2 v3 m eW (0:Int) s1).bind fun b6=>match b6 with | (DZ,x5,s3)=>(cg.f m s3 x0 x1).bind fun x6=>(app 8 aF ([x6.1])).bind fun x7=>az.l0 m k x7 DZ (i64.wrap (k0+(1:Int))) x6.2)) else ((cg.f m s1 x0 x1).bind fun x8=>(app 8 aF ([x8.1])).bind fun x9=>az.l0 m k x9 eW (i64.wrap (k0+(1:Int))) x8.2)) else ((cg.f m s1 x0 x1).bind fun kz=>(app 8 aF ([kz.1])).bind fun zX=>az.l0 m k zX eW (i64.wrap (k0+(1:Int))) kz.2))) else (some (.inr (aF,eW,k0,s1)))
def az.f (m:Nat)(s0:ab)(a0:Int)(b0:Int):Option ((List Int) × Bool × ab):=(az.l0 m m ([]:List Int) ([(aZ.mk a0 b0)]) (0:Int) s0).bind fun dt=>match dt with | .inl r0=>some r0 | .inr (oB,KM,k1,s4)=>some (oB,true,s4)
def az.fin (L:Mem)(ao:Nat)(ak:Nat)(an:Nat)(s0:ab)(a0:Int)(b0:Int)(r:(List Int) × Bool × ab)(s:St):Prop:=∃eT aB aC:Nat,aM Try.prog (s.open tO) Try.f31.results.toList=some (.tup [.rs eT 0 r.1.length 1,.bool r.2.1])∧Has s.h ((eT,.sl r.1.length 1 (af.l r.1))::(ao,.ob [.bool r.2.2.aj,.rs aB 0 r.2.2.aa.length 4,.rs aC 0 r.2.2.ae.length 1])::(aB,.sl r.2.2.aa.length 4 (ai.l r.2.2.aa))::(aC,.sl r.2.2.ae.length 1 (af.l r.2.2.ae))::L)
def NS (cf:CallF)(m:Nat):Prop:=∀(s0:ab) (a0:Int) (b0:Int) (r:(List Int) × Bool × ab),az.f m s0 a0 b0=some r→∀h L (ao:Nat) (ak:Nat) (an:Nat),Has h ((ao,.ob [.bool s0.aj,.rs ak 0 s0.aa.length 4,.rs an 0 s0.ae.length 1])::(ak,.sl s0.aa.length 4 (ai.l s0.aa))::(an,.sl s0.ae.length 1 (af.l s0.ae))::L)→∀xs,xs.map aL=[.ptr ao 0,.int .i64 a0,.int .i64 b0]→∃eT aB aC h',cf 31 xs h=some (.tup [.rs eT 0 r.1.length 1,.bool r.2.1],h')∧Has h' ((eT,.sl r.1.length 1 (af.l r.1))::(ao,.ob [.bool r.2.2.aj,.rs aB 0 r.2.2.aa.length 4,.rs aC 0 r.2.2.ae.length 1])::(aB,.sl r.2.2.aa.length 4 (ai.l r.2.2.aa))::(aC,.sl r.2.2.ae.length 1 (af.l r.2.2.ae))::L)
section
variable {cf:CallF}{m:Nat}
theorem az.me (L:Mem)(ao:Nat)(ak:Nat)(an:Nat)(s0:ab)(a0:Int)(b0:Int)(eh:Nat)(aF:List Int)(k0:Int)(eh:Nat)(x0:Int)(x1:Int)(v2:aq)(v3:aq)   : dZ Try.prog cf tO m (sub [1,1,1,0,1,0,0,1,0,0,1,1,1,0,1,0,1,1,0,0] (b8 Try.f31)) (fun k (σ:(List aZ) × Int × ab)=>az.l1 m v2 v3 k σ.1 σ.2.1 σ.2.2) (fun σ s=>match σ with | (jD,x3,s2)=>∃fE fB fj h2,s=⟨.ptr ao 0::nw (.rs eh 0 aF.length 1 :: .rs fE 0 jD.length 2 :: .int .i64 k0 :: .lp 11 0 :: .lp 12 0 :: .lp 13 0::Fi [.int .i64 (v2.args.length:Int),.int .i64 x3,.any]),[some [.int .i64 x0,.int .i64 x1],some [.int .i64 v2.kind,.int .i64 v2.int,.str v2.label,af.fz v2.args],some [.int .i64 v3.kind,.int .i64 v3.int,.str v3.label,af.fz v3.args],none],h2⟩∧Has h2 ((fE,.sl jD.length 2 (dE.l jD))::(eh,.sl aF.length 1 (af.l aF))::(ao,.ob [.bool s2.aj,.rs fB 0 s2.aa.length 4,.rs fj 0 s2.ae.length 1])::(fB,.sl s2.aa.length 4 (ai.l s2.aa))::(fj,.sl s2.ae.length 1 (af.l s2.ae))::L)) (fun out e s=>(e = .exit 2∧∃jD x3 s2,(jD,x3,s2)=out∧∃NT va NU NV NW NX NY fE fB fj h2,s=⟨.ptr ao 0::nw (.rs eh 0 aF.length 1 :: .rs fE 0 jD.length 2 :: .int .i64 k0 :: .lp 11 0::NT::va::Fi [NU,NV,NW]),[some [.int .i64 x0,.int .i64 x1],NX,NY,none],h2⟩∧Has h2 ((fE,.sl jD.length 2 (dE.l jD))::(eh,.sl aF.length 1 (af.l aF))::(ao,.ob [.bool s2.aj,.rs fB 0 s2.aa.length 4,.rs fj 0 s2.ae.length 1])::(fB,.sl s2.aa.length 4 (ai.l s2.aa))::(fj,.sl s2.ae.length 1 (af.l s2.ae))::L))):=by
 refine mI (fun _=>rfl) ?_
 rintro k ⟨jD,x3,s2⟩ s out ⟨fE,fB,fj,h2,rfl,o4⟩ H
 have H:az.l1 m v2 v3 (k+1) jD x3 s2=some out:=H
 refine q1 <| qq <| qc H (fun c5 H=>?_) (fun c5 H=>?_)
 ·refine qk <| qq <| qb 3 <| qq <| q0 ?_
  obtain⟨v4,e8,H⟩:=bj H
  obtain⟨v5,e9,H⟩:=bj H
  obtain⟨x4,sX,H⟩:=bj H
  obtain⟨k8,h3,vc,o5⟩:=iv (P:=Try.prog) (E:=dE) (l:=jD) (q:=0) (t2:=93) (x:=.fz [.int .i64 v4,.int .i64 v5] 1 true) (l2:=([(aZ.mk v4 v5)])) Nt o4 rfl (by kernel_rfl) rfl sX
  exact qr [.v 4 (fV (k:=.i64) (E:=af) (l:=v2.args) gx e8),.v 5 (iI  (E:=af) (l:=v2.args) h2 A3 e8 rfl),.v 9 (fV (k:=.i64) (E:=af) (l:=v3.args) gx e9),.v 10 (iI  (E:=af) (l:=v3.args) h2 A3 e9 rfl),.a 13 vc] <| q0 <| ⟨(x4,i64.wrap (x3+(1:Int)),s2),⟨k8,fB,fj,h3,by kernel_rfl,o5⟩,H⟩
 ·exact qx 2 <| ⟨rfl,jD,x3,s2,oi H,.lp 12 0,.lp 13 0,.int .i64 (v2.args.length:Int),.int .i64 x3,.bool (decide (x3<(v2.args.length:Int))),some [.int .i64 v2.kind,.int .i64 v2.int,.str v2.label,af.fz v2.args],some [.int .i64 v3.kind,.int .i64 v3.int,.str v3.label,af.fz v3.args],fE,fB,fj,h2,by kernel_rfl,o4⟩
theorem az.dF (L:Mem)(ao:Nat)(ak:Nat)(an:Nat)(s0:ab)(a0:Int)(b0:Int)  (BW:LR cf m)(IA:Ny cf m)(D0:NK cf m):dZ Try.prog cf tO m (sub [1,1,1,0,1,0,0] (b8 Try.f31)) (fun k (σ:(List Int) × (List aZ) × Int × ab)=>az.l0 m k σ.1 σ.2.1 σ.2.2.1 σ.2.2.2) (fun σ s=>match σ with | (aF,eW,k0,s1)=>∃eO eh dG eH h1,s=⟨.ptr ao 0::nw (.rs eh 0 aF.length 1 :: .rs eO 0 eW.length 2 :: .int .i64 k0::sU []),[none,none,none,none],h1⟩∧Has h1 ((eO,.sl eW.length 2 (dE.l eW))::(eh,.sl aF.length 1 (af.l aF))::(ao,.ob [.bool s1.aj,.rs dG 0 s1.aa.length 4,.rs eH 0 s1.ae.length 1])::(dG,.sl s1.aa.length 4 (ai.l s1.aa))::(eH,.sl s1.ae.length 1 (af.l s1.ae))::L)) (fun out e s=>(e = .exit 0∧∃aF eW k0 s1,.inr (aF,eW,k0,s1)=out∧∃ow BT yI D1 eO eh dG eH h1,s=⟨ow::nw (.rs eh 0 aF.length 1::BT::yI::nw (D1::wM [])),[none,none,none,none],h1⟩∧Has h1 ((eO,.sl eW.length 2 (dE.l eW))::(eh,.sl aF.length 1 (af.l aF))::(ao,.ob [.bool s1.aj,.rs dG 0 s1.aa.length 4,.rs eH 0 s1.ae.length 1])::(dG,.sl s1.aa.length 4 (ai.l s1.aa))::(eH,.sl s1.ae.length 1 (af.l s1.ae))::L))∨(e = .ret∧∃r,.inl r=out∧az.fin L ao ak an s0 a0 b0 r s)):=by
 refine mI (fun _=>rfl) ?_
 rintro k ⟨aF,eW,k0,s1⟩ s out ⟨eO,eh,dG,eH,h1,rfl,o2⟩ H
 have H:az.l0 m (k+1) aF eW k0 s1=some out:=H
 refine qq <| qq <| q0 <| qc H (fun c0 H=>?_) (fun c0 H=>?_)
 ·refine qk <| qq <| qb 1 <| qq ?_
  obtain⟨v0,e1,H⟩:=bj H
  obtain⟨x0,e2,H⟩:=bj H
  obtain⟨v1,e3,H⟩:=bj H
  obtain⟨x1,e4,H⟩:=bj H
  refine Kz [] [.v 3 (bn (k:=.i64) (E:=dE) (l:=eW) (q:=0) Nt o2 rfl e1),.v 5 (zD  (E:=dE) (l:=eW) (q:=0) (off:=0) o2 rfl A3 e1 rfl),.a 6 (BW _ _ _ e2 h1 _ (fq (ah (cJ (q:=2) o2 rfl (ah (dR) (ah (cF (E:=ai) (l:=s1.aa) (q:=3) o2 rfl (fun _=>rfl)) (ah (cF (E:=af) (l:=s1.ae) (q:=4) o2 rfl (fun _=>rfl)) (ax))))) (ah (br) (ax))))),.v 10 (bn (k:=.i64) (E:=dE) (l:=eW) (q:=0) Nt o2 rfl e3),.v 12 (zD  (E:=dE) (l:=eW) (q:=0) (off:=1) o2 rfl A3 e3 rfl),.a 13 (BW _ _ _ e4 h1 _ (fq (ah (cJ (q:=2) o2 rfl (ah (dR) (ah (cF (E:=ai) (l:=s1.aa) (q:=3) o2 rfl (fun _=>rfl)) (ah (cF (E:=af) (l:=s1.ae) (q:=4) o2 rfl (fun _=>rfl)) (ax))))) (ah (br) (ax)))))] [.mk (h:=h1) (h':=h1) (i:=eO) rfl] ?_
  refine qq <| qq <| qr [.v 6 (show lJ Try.prog .eql 92 (.agg [.int .i64 x0,.int .i64 x1]) (.agg [.int .i64 x0,.int .i64 x0])=some (.bool ((x0==x0)&&(x1==x0))) from Gd Nv)] <| qc H (fun c1 H=>?_) (fun c1 H=>?_)
  ·exact qx 1 <| q0 <| ⟨(aF,eW,i64.wrap (k0+(1:Int)),s1),⟨eO,eh,dG,eH,h1,by kernel_rfl,o2⟩,H⟩
  ·refine qk <| qq ?_
   obtain⟨v2,e5,H⟩:=bj H
   obtain⟨v3,e6,H⟩:=bj H
   refine qr [.v 3 (show bl Try.prog h1 40 (.ptr ao 1)=some (.rs dG 0 s1.aa.length 4) from bX (q:=2) (cs:=[.bool s1.aj,.rs dG 0 s1.aa.length 4,.rs eH 0 s1.ae.length 1]) o2 rfl (by kernel_rfl)),.v 6 (bn (k:=.i64) (E:=ai) (l:=s1.aa) (q:=3) xM o2 rfl e5),.v 7 (uR  (E:=ai) (l:=s1.aa) (q:=3) o2 rfl Fj Fk e5),.v 11 (show bl Try.prog h1 40 (.ptr ao 1)=some (.rs dG 0 s1.aa.length 4) from bX (q:=2) (cs:=[.bool s1.aj,.rs dG 0 s1.aa.length 4,.rs eH 0 s1.ae.length 1]) o2 rfl (by kernel_rfl)),.v 14 (bn (k:=.i64) (E:=ai) (l:=s1.aa) (q:=3) xM o2 rfl e6),.v 15 (uR  (E:=ai) (l:=s1.aa) (q:=3) o2 rfl Fj Fk e6)] <| qq <| qq ?_
   rcases iw H with⟨c2,H⟩| ⟨c2,H⟩
   ·refine qr [.b 3 c2] <| qc H (fun c3 H=>?_) (fun c3 H=>?_)
    ·refine qq <| qq ?_
     obtain⟨x2,e7,H⟩:=bj H
     refine qr [.a 2 (IA _ _ _ e7 h1 _ (fq (ah (iY (ah (br) (ah (br) (ah (cH) (ah (fe (E:=af)) (ax)))))) (ah (iY (ah (br) (ah (br) (ah (cH) (ah (fe (E:=af)) (ax)))))) (ax)))))] <| qc H (fun c4 H=>?_) (fun c4 H=>?_)
     ·refine q1 ?_
      have o3:Has h1 ((eh,.sl aF.length 1 (af.l aF))::(ao,.ob [.bool s1.aj,.rs dG 0 s1.aa.length 4,.rs eH 0 s1.ae.length 1])::(dG,.sl s1.aa.length 4 (ai.l s1.aa))::(eH,.sl s1.ae.length 1 (af.l s1.ae))::L):=Has.del o2 0
      exact qt <| Or.inr (⟨rfl,_,oi H,⟨eh,dG,eH,by kernel_rfl,he o3⟩⟩)
     ·refine qk <| qq <| q0 <| qb 2 ?_
      obtain⟨b6,w6,H⟩:=bj H
      refine ql (az.me L ao ak an s0 a0 b0 eh aF k0 eh x0 x1 v2 v3   (eW,(0:Int),s1) _ _ ⟨eO,dG,eH,h1,by kernel_rfl,o2⟩ w6) ?_
      rintro e s ⟨rfl,DZ,x5,s3,rfl,g0,g1,g2,g3,g4,g5,g6,D2,ia,jf,h4,rfl,o6⟩
      try dsimp only at H
      obtain⟨x6,xN,H⟩:=bj H
      obtain⟨k9,mi,h5,zY,o7⟩:=D0 _ _ _ _ xN h4 _ _ _ _ ((Has.front (Has.front (Has.front (Has.front (Has.front o6 1 rfl) 1 rfl) 4 rfl) 4 rfl) 4 rfl))  [.ptr ao 0,.int .i64 x0,.int .i64 x1] (au (rfl) (au (aN (bg)) (au (aN (bg)) (bG))))
      obtain⟨x7,yJ,H⟩:=bj H
      obtain⟨BX,h6,D3,o8⟩:=iv (P:=Try.prog) (E:=af) (l:=aF) (q:=4) (t2:=33) (x:=.fz [.int .i64 x6.1] 1 true) (l2:=([x6.1])) gx o7 rfl (by kernel_rfl) rfl yJ
      exact qr [.a 6 zY,.a 8 D3] <| q0 <| ⟨(x7,DZ,i64.wrap (k0+(1:Int)),x6.2),⟨D2,BX,k9,mi,h6,by kernel_rfl,(Has.front (Has.front (Has.front (Has.front (Has.front o8 2 rfl) 2 rfl) 2 rfl) 4 rfl) 4 rfl)⟩,H⟩
    ·refine qk ?_
     obtain⟨x8,Gm,H⟩:=bj H
     obtain⟨yK,qB,h7,IB,o9⟩:=D0 _ _ _ _ Gm h1 _ _ _ _ ((Has.front (Has.front (Has.front (Has.front (Has.front o2 1 rfl) 1 rfl) 4 rfl) 4 rfl) 4 rfl))  [.ptr ao 0,.int .i64 x0,.int .i64 x1] (au (rfl) (au (aN (bg)) (au (aN (bg)) (bG))))
     obtain⟨x9,Gn,H⟩:=bj H
     obtain⟨sg,h8,IC,w7⟩:=iv (P:=Try.prog) (E:=af) (l:=aF) (q:=4) (t2:=33) (x:=.fz [.int .i64 x8.1] 1 true) (l2:=([x8.1])) gx o9 rfl (by kernel_rfl) rfl Gn
     exact qr [.a 6 IB,.a 8 IC] <| q0 <| ⟨(x9,eW,i64.wrap (k0+(1:Int)),x8.2),⟨eO,sg,yK,qB,h8,by kernel_rfl,(Has.front (Has.front (Has.front (Has.front (Has.front w7 2 rfl) 2 rfl) 2 rfl) 4 rfl) 4 rfl)⟩,H⟩
   ·refine qr [.b 3 c2] <| DA <| qk ?_
    obtain⟨kz,Hh,H⟩:=bj H
    obtain⟨D4,yL,h9,Hi,Cs⟩:=D0 _ _ _ _ Hh h1 _ _ _ _ ((Has.front (Has.front (Has.front (Has.front (Has.front o2 1 rfl) 1 rfl) 4 rfl) 4 rfl) 4 rfl))  [.ptr ao 0,.int .i64 x0,.int .i64 x1] (au (rfl) (au (aN (bg)) (au (aN (bg)) (bG))))
    obtain⟨zX,Hj,H⟩:=bj H
    obtain⟨yM,h10,ID,Cu⟩:=iv (P:=Try.prog) (E:=af) (l:=aF) (q:=4) (t2:=33) (x:=.fz [.int .i64 kz.1] 1 true) (l2:=([kz.1])) gx Cs rfl (by kernel_rfl) rfl Hj
    exact qr [.a 6 Hi,.a 8 ID] <| q0 <| ⟨(zX,eW,i64.wrap (k0+(1:Int)),kz.2),⟨eO,yM,D4,yL,h10,by kernel_rfl,(Has.front (Has.front (Has.front (Has.front (Has.front Cu 2 rfl) 2 rfl) 2 rfl) 4 rfl) 4 rfl)⟩,H⟩
 ·exact qx 0 <| Or.inl (⟨rfl,aF,eW,k0,s1,oi H,.ptr ao 0,.rs eO 0 eW.length 2,.int .i64 k0,.bool (decide (k0<(eW.length:Int))),eO,eh,dG,eH,h1,by kernel_rfl,o2⟩)
theorem kC {aV:FuncId→bY}(ha:aV 31=tO)(BW:LR cf m)(IA:Ny cf m)(D0:NK cf m)(s0:ab)(a0:Int)(b0:Int)(h:AHeap)(L:Mem)(ao:Nat)(ak:Nat)(an:Nat)  (o:Has h ((ao,.ob [.bool s0.aj,.rs ak 0 s0.aa.length 4,.rs an 0 s0.ae.length 1])::(ak,.sl s0.aa.length 4 (ai.l s0.aa))::(an,.sl s0.ae.length 1 (af.l s0.ae))::L)){out:(List Int) × Bool × ab}(H:az.f m s0 a0 b0=some out) :
  ∃r h',a6 Try.prog aV cf m 31 [.ptr ao 0,.int .i64 a0,.int .i64 b0] h=some (r,h')∧∃eT aB aC:Nat,r = .tup [.rs eT 0 out.1.length 1,.bool out.2.1]∧Has h' ((eT,.sl out.1.length 1 (af.l out.1))::(ao,.ob [.bool out.2.2.aj,.rs aB 0 out.2.2.aa.length 4,.rs aC 0 out.2.2.ae.length 1])::(aB,.sl out.2.2.aa.length 4 (ai.l out.2.2.aa))::(aC,.sl out.2.2.ae.length 1 (af.l out.2.2.ae))::L):=by
 refine ar (fn:=Try.f31) ha Try.func31 (by kernel_rfl) (by kernel_rfl) ?_
 refine aH (Q:=fun s=>az.fin L ao ak an s0 a0 b0 out s) (fun _ _ ⟨h1,eT,aB,aC,h2,h3⟩=>⟨h1,_,h2,eT,aB,aC,rfl,h3⟩) ?_
 have H:_=some out:=H
 unfold az.f at H
 show dn _ cf tO m _ ⟨.ptr ao 0 :: .int .i64 a0 :: .int .i64 b0::FZ [],[none,none,none,none],h⟩ _
 refine q1 <| qq <| q0 ?_
 have o0:Has h (((0),.sl (([]:List Int).length) 1 (af.l ([]:List Int)))::(ao,.ob [.bool s0.aj,.rs ak 0 s0.aa.length 4,.rs an 0 s0.ae.length 1])::(ak,.sl s0.aa.length 4 (ai.l s0.aa))::(an,.sl s0.ae.length 1 (af.l s0.ae))::L):=Has.nil o 1
 refine qq ?_
 obtain⟨aI,h0,e0,o1⟩:=FV (E:=dE) (l:=[(aZ.mk a0 b0)]) (cs:=[.int .i64 a0,.int .i64 b0]) o0 (by kernel_rfl)
 refine qr [.a 3 e0] <| qq <| qq <| q0 <| qb 0 ?_
 obtain⟨dt,Hk,H⟩:=bj H
 refine ql (az.dF L ao ak an s0 a0 b0  BW IA D0 (([]:List Int),[(aZ.mk a0 b0)],(0:Int),s0) _ _ ⟨aI,(0),ak,an,h0,(VL (b:=⟨.ptr ao 0::nw (.rs (0) 0 (([]:List Int).length) 1 :: .rs aI 0 (([(aZ.mk a0 b0)]:List aZ).length) 2 :: .int .i64 (0:Int)::sU []),[none,none,none,none],h0⟩) (by kernel_rfl) (by simp only [Uq])),(by have o:Has h0 ((aI,.sl (([(aZ.mk a0 b0)]:List aZ).length) 2 (dE.l ([(aZ.mk a0 b0)])))::((0),.sl (([]:List Int).length) 1 (af.l ([]:List Int)))::(ao,.ob [.bool s0.aj,.rs ak 0 s0.aa.length 4,.rs an 0 s0.ae.length 1])::(ak,.sl s0.aa.length 4 (ai.l s0.aa))::(an,.sl s0.ae.length 1 (af.l s0.ae))::L):=o1; simpa only [Uq] using o)⟩ Hk) ?_
 rintro e s (⟨rfl,oB,KM,k1,s4,rfl,g7,g8,g9,g10,Sb,KN,IE,IF,h11,rfl,vh⟩| ⟨rfl,r0,rfl,yC⟩)
 ·try dsimp only at H
  refine q1 ?_
  have vi:Has h11 ((KN,.sl oB.length 1 (af.l oB))::(ao,.ob [.bool s4.aj,.rs IE 0 s4.aa.length 4,.rs IF 0 s4.ae.length 1])::(IE,.sl s4.aa.length 4 (ai.l s4.aa))::(IF,.sl s4.ae.length 1 (af.l s4.ae))::L):=Has.del vh 0
  obtain rfl:=oi H
  exact qt <| ⟨.inl rfl,⟨KN,IE,IF,by kernel_rfl,he vi⟩⟩
 ·try dsimp only at H
  obtain rfl:=oi H
  exact⟨.inl rfl,yC⟩
end
end Go.Proofs.Ytifafejidnjckaa
namespace Go.Proofs.Ytifafejidnjckaa
open Go Go.R
open Go.IntKind (i64 u64 u8 u32)
def Am:bY:=gK [0,1,2,4,5] [] [25,9,11,15,15,23] [] []
def cp.f (m:Nat)(s0:ab)(aF:List Int):Option ((List Int)):=(Cq 8 (aF.length:Int) (0:Int)).bind fun x0=>(KB x0 aF).bind fun Qb=>(dJ.f m Qb (fun y0=>cR.f m y0 s0)).bind fun x1=>some (ky x1)
def cp.fin (L:Mem)  (r:(List Int))(s:St):Prop:=∃eT:Nat,aM Try.prog (s.open Am) Try.f33.results.toList=some (.rs eT 0 r.length 1)∧Has s.h ((eT,.sl r.length 1 (af.l r))::L)
def NZ (cf:CallF)(m:Nat):Prop:=∀(s0:ab) (aF:List Int) (r:(List Int)),cp.f m s0 aF=some r→∀h L xs,Has h L→aO bO h xs [.fp [.bool s0.aj,ai.fz s0.aa,af.fz s0.ae] 0,af.fz aF]→∃eT h',cf 33 xs h=some (.rs eT 0 r.length 1,h')∧Has h' ((eT,.sl r.length 1 (af.l r))::L)∧∀j,j<h.next→h.ver j=h'.ver j
section
variable {cf:CallF}{m:Nat}
theorem la {aV:FuncId→bY}(ha:aV 33=Am)(N0:P4 cf m)(N1:P5 cf m)(N2:PL cf m)(s0:ab)(aF:List Int)(h:AHeap)(L:Mem)  (o:Has h (L)){out:(List Int)}(H:cp.f m s0 aF=some out) :
  ∃r h',a6 Try.prog aV cf m 33 [.fp [.bool s0.aj,ai.fz s0.aa,af.fz s0.ae] 0,af.fz aF] h=some (r,h')∧∃eT:Nat,r = .rs eT 0 out.length 1∧Has h' ((eT,.sl out.length 1 (af.l out))::L):=by
 refine ar (fn:=Try.f33) ha Try.func33 (by kernel_rfl) (by kernel_rfl) ?_
 refine aH (Q:=fun s=>cp.fin L out s) (fun _ _ ⟨h1,eT,h2,h3⟩=>⟨h1,_,h2,eT,rfl,h3⟩) ?_
 have H:_=some out:=H
 unfold cp.f at H
 show dn _ cf Am m _ ⟨.fp [.bool s0.aj,ai.fz s0.aa,af.fz s0.ae] 0::af.fz aF::sI [],[],h⟩ _
 refine qq ?_
 obtain⟨aI,h0,e0,o0⟩:=gg (cs:=[.fp [.bool s0.aj,ai.fz s0.aa,af.fz s0.ae] 0]) o (by kernel_rfl)
 refine qr [.a 0 e0] <| qq ?_
 obtain⟨x0,e1,H⟩:=bj H
 obtain⟨eh,h1,e2,o1⟩:=uQ (P:=Try.prog) (E:=af) (z:=(0:Int)) (zv:=.int .i64 (0:Int)) gx o0 3 rfl rfl rfl rfl e1
 refine qr [.a 2 e2] <| qq ?_
 obtain⟨Qb,e3,H⟩:=bj H
 obtain⟨h2,e4,o2⟩:=Gc (P:=Try.prog) (E:=af) (l:=x0) (s:=aF) (q:=0) (t2:=33) gx o1 rfl (Im (E:=af)) rfl (KC _) e3
 refine qr [.a 2 e4] <| qq ?_
 obtain⟨x1,e5,H⟩:=bj H
 obtain⟨h3,e6,o3⟩:=N0 _ _ _ e5 h2 _ _ _ (o2) 58 [.ptr aI 0] [.fp [.fp [.bool s0.aj,ai.fz s0.aa,af.fz s0.ae] 0] 0] rfl (fun h' sY y0 r hr hx=>N1 y0 _ r hr h' sY hx) (fun h' K' o'=>iC (ah (cJ (q:=(K'.length+0)) o' (iZ rfl) (ah (fX (pure_cons (dN) (pure_cons (bJ.bw (E:=ai) (l:=s0.aa)) (pure_cons (bJ.bw (E:=af) (l:=s0.ae)) (pure_nil))))) (ax))) (ax))) (fun h_=>iC (ah (fX (pure_cons (kV (pure_cons (dN) (pure_cons (bJ.bw (E:=ai) (l:=s0.aa)) (pure_cons (bJ.bw (E:=af) (l:=s0.ae)) (pure_nil))))) (pure_nil))) (ax))) [.rs eh 0 x0.length 1,.fn 58 [.ptr aI 0]] (au (rfl) (au (rfl) (bG)))
 refine qr [.a 2 e6] ?_
 have o4:Has h3 ((eh,.sl x1.length 1 (af.l x1))::L):=Has.del o3 1
 refine qq ?_
 obtain⟨h4,e7,o5⟩:=Ig (l:=x1) N2 o4
 obtain rfl:=oi H
 exact qr [.a 1 e7] <| qq <| q0 <| qt <| ⟨.inl rfl,⟨eh,by rw [mJ]; kernel_rfl,he (by simpa only [mJ] using o5)⟩⟩
end
end Go.Proofs.Ytifafejidnjckaa
namespace Go.Proofs.Ytifafejidnjckaa
open Go Go.R
open Go.IntKind (i64 u64 u8 u32)
def An:bY:=gK [0,1,2,4,5,6,7] [] [102,31] [] []
def dV.f (m:Nat)(s0:ab)(ca:ByteArray)(n0:Int):Option (Int × Int × ab):=(bZ.f m s0 (cD.f m ca n0) (aq.mk (4:Int) n0 ca ([]))).bind fun x0=>some (x0.1,x0.2.1,x0.2.2)
def dV.fin (L:Mem)(ao:Nat)(ak:Nat)(an:Nat)(s0:ab)(ca:ByteArray)(n0:Int)(r:Int × Int × ab)(s:St):Prop:=∃aB aC:Nat,aM Try.prog (s.open An) Try.f35.results.toList=some (.tup [.int .i64 r.1,.int .i64 r.2.1])∧Has s.h ((ao,.ob [.bool r.2.2.aj,.rs aB 0 r.2.2.aa.length 4,.rs aC 0 r.2.2.ae.length 1])::(aB,.sl r.2.2.aa.length 4 (ai.l r.2.2.aa))::(aC,.sl r.2.2.ae.length 1 (af.l r.2.2.ae))::L)
def Qc (cf:CallF)(m:Nat):Prop:=∀(s0:ab) (ca:ByteArray) (n0:Int) (r:Int × Int × ab),dV.f m s0 ca n0=some r→∀h L (ao:Nat) (ak:Nat) (an:Nat),Has h ((ao,.ob [.bool s0.aj,.rs ak 0 s0.aa.length 4,.rs an 0 s0.ae.length 1])::(ak,.sl s0.aa.length 4 (ai.l s0.aa))::(an,.sl s0.ae.length 1 (af.l s0.ae))::L)→∀xs,xs.map aL=[.ptr ao 0,.str ca,.int .i64 n0]→∃aB aC h',cf 35 xs h=some (.tup [.int .i64 r.1,.int .i64 r.2.1],h')∧Has h' ((ao,.ob [.bool r.2.2.aj,.rs aB 0 r.2.2.aa.length 4,.rs aC 0 r.2.2.ae.length 1])::(aB,.sl r.2.2.aa.length 4 (ai.l r.2.2.aa))::(aC,.sl r.2.2.ae.length 1 (af.l r.2.2.ae))::L)
section
variable {cf:CallF}{m:Nat}
theorem lF {aV:FuncId→bY}(ha:aV 35=An)(vf:JC cf m)(N3:P6 cf m)(s0:ab)(ca:ByteArray)(n0:Int)(h:AHeap)(L:Mem)(ao:Nat)(ak:Nat)(an:Nat)  (o:Has h ((ao,.ob [.bool s0.aj,.rs ak 0 s0.aa.length 4,.rs an 0 s0.ae.length 1])::(ak,.sl s0.aa.length 4 (ai.l s0.aa))::(an,.sl s0.ae.length 1 (af.l s0.ae))::L)){out:Int × Int × ab}(H:dV.f m s0 ca n0=some out) :
  ∃r h',a6 Try.prog aV cf m 35 [.ptr ao 0,.str ca,.int .i64 n0] h=some (r,h')∧∃aB aC:Nat,r = .tup [.int .i64 out.1,.int .i64 out.2.1]∧Has h' ((ao,.ob [.bool out.2.2.aj,.rs aB 0 out.2.2.aa.length 4,.rs aC 0 out.2.2.ae.length 1])::(aB,.sl out.2.2.aa.length 4 (ai.l out.2.2.aa))::(aC,.sl out.2.2.ae.length 1 (af.l out.2.2.ae))::L):=by
 refine ar (fn:=Try.f35) ha Try.func35 (by kernel_rfl) (by kernel_rfl) ?_
 refine aH (Q:=fun s=>dV.fin L ao ak an s0 ca n0 out s) (fun _ _ ⟨h1,aB,aC,h2,h3⟩=>⟨h1,_,h2,aB,aC,rfl,h3⟩) ?_
 have H:_=some out:=H
 unfold dV.f at H
 show dn _ cf An m _ ⟨.ptr ao 0 :: .str ca :: .int .i64 n0::nw [],[],h⟩ _
 refine qq ?_
 obtain⟨aI,h0,e0,o0⟩:=gg (cs:=[.str ca]) o (by kernel_rfl)
 obtain⟨eh,h1,e1,o1⟩:=gg (cs:=[.int .i64 n0]) o0 (by kernel_rfl)
 refine qr [.a 0 e0,.a 1 e1] <| qq ?_
 obtain⟨x0,e2,H⟩:=bj H
 obtain⟨eO,dG,h2,e3,o2⟩:=vf _ _ _ _ e2 h1 _ _ _ _ ((Has.front (Has.front (Has.front (Has.front (Has.front o1 1 rfl) 1 rfl) 4 rfl) 4 rfl) 4 rfl)) 63 [.ptr aI 0,.ptr eh 0] [.fp [.str ca] 0,.fp [.int .i64 n0] 0] rfl (fun h' sY  r hr hx=>N3 _ _ r hr h' sY hx) (fun h' K' o'=>iC (ah (cJ (q:=(K'.length+4)) o' (iZ rfl) (ah (cH) (ax))) (ah (cJ (q:=(K'.length+3)) o' (iZ rfl) (ah (br) (ax))) (ax)))) (fun h_=>iC (ah (fX (pure_cons (jB) (pure_nil))) (ah (fX (pure_cons (dp) (pure_nil))) (ax)))) [.ptr ao 0,.fn 63 [.ptr aI 0,.ptr eh 0],.agg [.int .i64 (4:Int),.int .i64 n0,.str ca,.nils]] (au (rfl) (au (rfl) (au (aN (l8 (bP (bg) (bP (bg) (bP (j6) (bP (qV (E:=af)) (l7))))))) (bG))))
 refine qr [.v 2 (show bl Try.prog h1 9 (.ptr aI 0)=some (.str ca) from bX (q:=1) (cs:=[.str ca]) o1 rfl (by kernel_rfl)),.v 3 (show bl Try.prog h1 3 (.ptr eh 0)=some (.int .i64 n0) from bX (q:=0) (cs:=[.int .i64 n0]) o1 rfl (by kernel_rfl)),.a 5 e3] ?_
 have o3:Has h2 ((ao,.ob [.bool x0.2.2.aj,.rs eO 0 x0.2.2.aa.length 4,.rs dG 0 x0.2.2.ae.length 1])::(eO,.sl x0.2.2.aa.length 4 (ai.l x0.2.2.aa))::(dG,.sl x0.2.2.ae.length 1 (af.l x0.2.2.ae))::(eh,.ob [.int .i64 n0])::L):=Has.del o2 4
 have o4:Has h2 ((ao,.ob [.bool x0.2.2.aj,.rs eO 0 x0.2.2.aa.length 4,.rs dG 0 x0.2.2.ae.length 1])::(eO,.sl x0.2.2.aa.length 4 (ai.l x0.2.2.aa))::(dG,.sl x0.2.2.ae.length 1 (af.l x0.2.2.ae))::L):=Has.del o3 3
 obtain rfl:=oi H
 exact qt <| ⟨.inl rfl,⟨eO,dG,by kernel_rfl,he o4⟩⟩
end
end Go.Proofs.Ytifafejidnjckaa
namespace Go.Proofs.Ytifafejidnjckaa
open Go Go.R
open Go.IntKind (i64 u64 u8 u32)
def Ao:bY:=gK [0,2] [] [2,1] [] []
def fu.f (m:Nat)(s0:ByteArray):Option (Bool):=if (s0.data.toList==(U3 #[124]).data.toList)=true then (some true) else (if (s0.data.toList==(U3 #[35]).data.toList)=true then (some true) else ((cL.f m s0 (97:Int) (122:Int)).bind fun x0=>some x0))
def fu.fin (L:Mem)(r:Bool)(s:St):Prop:=∃av,aM Try.prog (s.open Ao) Try.f50.results.toList=some av∧ff s.h av (.bool r)
def LX (cf:CallF)(m:Nat):Prop:=∀(s0:ByteArray) (r:Bool),fu.f m s0=some r→∀h xs,aO bO h xs [.str s0]→cf 50 xs h=some (.bool r,h)
section
variable {cf:CallF}{m:Nat}
theorem sh {aV:FuncId→bY}(ha:aV 50=Ao)(N4:P8 cf m)(s0:ByteArray)(h:AHeap)(L:Mem)  (o:Has h (L)){out:Bool}(H:fu.f m s0=some out) :
  ∃r h',a6 Try.prog aV cf m 50 [.str s0] h=some (r,h')∧ff h' r (.bool out):=by
 refine ar (fn:=Try.f50) ha Try.func50 (by kernel_rfl) (by kernel_rfl) ?_
 refine aH (Q:=fun s=>fu.fin L out s) (fun _ _ h=>h) ?_
 have H:_=some out:=H
 unfold fu.f at H
 show dn _ cf Ao m _ ⟨[.str s0,.any],[],h⟩ _
 refine q1 <| qq ?_
 rcases iw H with⟨c0,H⟩| ⟨c0,H⟩
 ·obtain rfl:=oi H
  exact qr [.b 2 c0] <| qt <| ⟨.inl rfl,dA (.bool true) h (dz (aD))⟩
 ·rcases iw H with⟨c1,H⟩| ⟨c1,H⟩
  ·obtain rfl:=oi H
   exact qr [.b 2 c0,.b 6 c1] <| qt <| ⟨.inl rfl,dA (.bool true) h (dz (aD))⟩
  ·obtain⟨x0,e0,H⟩:=bj H
   obtain rfl:=oi H
   exact qr [.b 2 c0,.b 6 c1,.a 8 (N4 _ _ _ _ e0 h _ (fq (ah (cH) (ah (br) (ah (br) (ax))))))] <| qt <| ⟨.inl rfl,dA (.bool x0) h (dz (aD))⟩
end
end Go.Proofs.Ytifafejidnjckaa
namespace Go.Proofs.Ytifafejidnjckaa
open Go Go.R
open Go.IntKind (i64 u64 u8 u32)
def Ap:bY:=gK [0,1,2,3] [] [8,7] [] []
def cj.f (m:Nat)(x0:ByteArray)(x1:List Int)(x2:ab):Option (Bool):=(fu.f m x0).bind fun x3=>if x3=true then (if (decide ((x1.length:Int)≥(1:Int)))=true then (if (decide ((x1.length:Int)≤(8:Int)))=true then ((eu.f m x1 (fun y0=>ck.f m y0 x2)).bind fun x4=>some (!x4)) else (some false)) else (some false)) else (some false)
def cj.fin (L:Mem)(r:Bool)(s:St):Prop:=∃av,aM Try.prog (s.open Ap) Try.f61.results.toList=some av∧ff s.h av (.bool r)
def Qd (cf:CallF)(m:Nat):Prop:=∀(x0:ByteArray) (x1:List Int) (x2:ab) (r:Bool),cj.f m x0 x1 x2=some r→∀h xs,aO bO h xs [.fp [.str x0] 0,.fp [af.fz x1] 0,.fp [.fp [.bool x2.aj,ai.fz x2.aa,af.fz x2.ae] 0] 0]→cf 61 xs h=some (.bool r,h)
section
variable {cf:CallF}{m:Nat}
theorem kb {aV:FuncId→bY}(ha:aV 61=Ap)(py:LX cf m)(DY:LV cf m)(N5:PS cf m)(x0:ByteArray)(x1:List Int)(x2:ab)(h:AHeap)(L:Mem)  (o:Has h (L)){out:Bool}(H:cj.f m x0 x1 x2=some out) :
  ∃r h',a6 Try.prog aV cf m 61 [.fp [.str x0] 0,.fp [af.fz x1] 0,.fp [.fp [.bool x2.aj,ai.fz x2.aa,af.fz x2.ae] 0] 0] h=some (r,h')∧ff h' r (.bool out):=by
 refine ar (fn:=Try.f61) ha Try.func61 (by kernel_rfl) (by kernel_rfl) ?_
 refine aH (Q:=fun s=>cj.fin L out s) (fun _ _ h=>h) ?_
 have H:_=some out:=H
 unfold cj.f at H
 show dn _ cf Ap m _ ⟨[.fp [.str x0] 0,.fp [af.fz x1] 0,.fp [.fp [.bool x2.aj,ai.fz x2.aa,af.fz x2.ae] 0] 0,.any],[],h⟩ _
 refine q1 <| qq ?_
 obtain⟨x3,e0,H⟩:=bj H
 rcases iw H with⟨c0,H⟩| ⟨c0,H⟩
 ·rcases iw H with⟨c1,H⟩| ⟨c1,H⟩
  ·rcases iw H with⟨c2,H⟩| ⟨c2,H⟩
   ·obtain⟨x4,e1,H⟩:=bj H
    obtain rfl:=oi H
    exact qr [.a 1 (py _ _ e0 h _ (fq (ah (cH) (ax)))),.b 2 c0,.b 7 c1,.b 12 c2,.a 15 (DY _ _ _ e1 62 [.fp [.fp [.bool x2.aj,ai.fz x2.aa,af.fz x2.ae] 0] 0] (fun h' sY y0 r hr hx=>N5 y0 _ r hr h' sY hx) (fun h_=>iC (ah (fX (pure_cons (kV (pure_cons (dN) (pure_cons (bJ.bw (E:=ai) (l:=x2.aa)) (pure_cons (bJ.bw (E:=af) (l:=x2.ae)) (pure_nil))))) (pure_nil))) (ax))) h _ (fq (ah (fe (E:=af)) (ah (r9 (ah (fX (pure_cons (kV (pure_cons (dN) (pure_cons (bJ.bw (E:=ai) (l:=x2.aa)) (pure_cons (bJ.bw (E:=af) (l:=x2.ae)) (pure_nil))))) (pure_nil))) (ax))) (ax)))))] <| qt <| ⟨.inl rfl,dA (.bool (!x4)) h (dz (aD))⟩
   ·obtain rfl:=oi H
    exact qr [.a 1 (py _ _ e0 h _ (fq (ah (cH) (ax)))),.b 2 c0,.b 7 c1,.b 12 c2] <| qt <| ⟨.inl rfl,dA (.bool false) h (dz (aD))⟩
  ·obtain rfl:=oi H
   exact qr [.a 1 (py _ _ e0 h _ (fq (ah (cH) (ax)))),.b 2 c0,.b 7 c1] <| qt <| ⟨.inl rfl,dA (.bool false) h (dz (aD))⟩
 ·obtain rfl:=oi H
  exact qr [.a 1 (py _ _ e0 h _ (fq (ah (cH) (ax)))),.b 2 c0] <| qt <| ⟨.inl rfl,dA (.bool false) h (dz (aD))⟩
end
end Go.Proofs.Ytifafejidnjckaa
namespace Go.Proofs.Ytifafejidnjckaa
open Go Go.R
open Go.IntKind (i64 u64 u8 u32)
def Aq:bY:=gK [0,1,2,3,4,6,7,23,44,60,89] [2] [2035,2003,1939,2031,1875,2031,1747,2031,1491,2031,1019,2031,2031] [] []
def hZ.f (m:Nat)(n0:aq)(ls:Int):Option (Bool):=if (n0.kind==(0:Int))=true then (if (decide (n0.int≥(0:Int)))=true then (if (n0.label.data.toList==(U3 #[]).data.toList)=true then (some ((n0.args.length:Int)==(0:Int))) else (some false)) else (some false)) else (if (n0.kind==(1:Int))=true then (if (decide (n0.int≥(-1099511627776:Int)))=true then (if (decide (n0.int≤(1099511627776:Int)))=true then (if (n0.label.data.toList==(U3 #[]).data.toList)=true then (some ((n0.args.length:Int)==(0:Int))) else (some false)) else (some false)) else (some false)) else (if (n0.kind==(2:Int))=true then (if (n0.int==(0:Int))=true then ((fu.f m n0.label).bind fun x0=>if x0=true then (some ((n0.args.length:Int)==(0:Int))) else (some false)) else (some false)) else (if (n0.kind==(3:Int))=true then (if (n0.int==(0:Int))=true then ((fu.f m n0.label).bind fun x1=>if x1=true then (if (decide ((n0.args.length:Int)≥(1:Int)))=true then (if (decide ((n0.args.length:Int)≤(8:Int)))=true then ((eu.f m n0.args (fun y0=>gy.f m y0 ls)).bind fun x2=>some (!x2)) else (some false)) else (some false)) else (some false)) else (some false)) else (if (n0.kind==(4:Int))=true then (if (decide (n0.int≥(0:Int)))=true then ((fM.f m n0.label).bind fun x3=>if x3=true then (some ((n0.args.length:Int)==(0:Int))) else (some false)) else (some false)) else (some false)))))
def hZ.fin (L:Mem)(r:Bool)(s:St):Prop:=∃av,aM Try.prog (s.open Aq) Try.f67.results.toList=some av∧ff s.h av (.bool r)
def Qe (cf:CallF)(m:Nat):Prop:=∀(n0:aq) (ls:Int) (r:Bool),hZ.f m n0 ls=some r→∀h xs,aO bO h xs [.agg [.int .i64 n0.kind,.int .i64 n0.int,.str n0.label,af.fz n0.args],.int .i64 ls]→cf 67 xs h=some (.bool r,h)
section
variable {cf:CallF}{m:Nat}
theorem si {aV:FuncId→bY}(ha:aV 67=Aq)(py:LX cf m)(DY:LV cf m)(DX:NA cf m)(N6:PU cf m)(n0:aq)(ls:Int)(h:AHeap)(L:Mem)  (o:Has h (L)){out:Bool}(H:hZ.f m n0 ls=some out) :
  ∃r h',a6 Try.prog aV cf m 67 [.agg [.int .i64 n0.kind,.int .i64 n0.int,.str n0.label,af.fz n0.args],.int .i64 ls] h=some (r,h')∧ff h' r (.bool out):=by
 refine ar (fn:=Try.f67) ha Try.func67 (by kernel_rfl) (by kernel_rfl) ?_
 refine aH (Q:=fun s=>hZ.fin L out s) (fun _ _ h=>h) ?_
 have H:_=some out:=H
 unfold hZ.f at H
 show dn _ cf Aq m _ ⟨.agg [.int .i64 n0.kind,.int .i64 n0.int,.str n0.label,af.fz n0.args] :: .int .i64 ls::RV [],[none],h⟩ _
 refine qq ?_
 obtain⟨aI,h0,e0,o0⟩:=gg (cs:=[.int .i64 ls]) o (by kernel_rfl)
 refine qr [.a 1 e0] <| qq <| qq <| q0 <| qb 0 <| qq <| q0 <| qc H (fun c0 H=>?_) (fun c0 H=>?_)
 ·refine qq ?_
  rcases iw H with⟨c1,H⟩| ⟨c1,H⟩
  ·rcases iw H with⟨c2,H⟩| ⟨c2,H⟩
   ·refine qr [.b 3 c1,.b 8 c2] ?_
    have o1:Has h0 (L):=Has.del o0 0
    obtain rfl:=oi H
    exact qt <| ⟨.inl rfl,dA (.bool ((n0.args.length:Int)==(0:Int))) h0 (dz (aD))⟩
   ·refine qr [.b 3 c1,.b 8 c2] ?_
    have o2:Has h0 (L):=Has.del o0 0
    obtain rfl:=oi H
    exact qt <| ⟨.inl rfl,dA (.bool false) h0 (dz (aD))⟩
  ·refine qr [.b 3 c1] ?_
   have o3:Has h0 (L):=Has.del o0 0
   obtain rfl:=oi H
   exact qt <| ⟨.inl rfl,dA (.bool false) h0 (dz (aD))⟩
 ·refine q1 <| qc H (fun c3 H=>?_) (fun c3 H=>?_)
  ·refine qq ?_
   rcases iw H with⟨c4,H⟩| ⟨c4,H⟩
   ·rcases iw H with⟨c5,H⟩| ⟨c5,H⟩
    ·rcases iw H with⟨c6,H⟩| ⟨c6,H⟩
     ·refine qr [.b 3 c4,.b 8 c5,.b 13 c6] ?_
      have o4:Has h0 (L):=Has.del o0 0
      obtain rfl:=oi H
      exact qt <| ⟨.inl rfl,dA (.bool ((n0.args.length:Int)==(0:Int))) h0 (dz (aD))⟩
     ·refine qr [.b 3 c4,.b 8 c5,.b 13 c6] ?_
      have o5:Has h0 (L):=Has.del o0 0
      obtain rfl:=oi H
      exact qt <| ⟨.inl rfl,dA (.bool false) h0 (dz (aD))⟩
    ·refine qr [.b 3 c4,.b 8 c5] ?_
     have o6:Has h0 (L):=Has.del o0 0
     obtain rfl:=oi H
     exact qt <| ⟨.inl rfl,dA (.bool false) h0 (dz (aD))⟩
   ·refine qr [.b 3 c4] ?_
    have o7:Has h0 (L):=Has.del o0 0
    obtain rfl:=oi H
    exact qt <| ⟨.inl rfl,dA (.bool false) h0 (dz (aD))⟩
  ·refine q1 <| qc H (fun c7 H=>?_) (fun c7 H=>?_)
   ·refine qq ?_
    rcases iw H with⟨c8,H⟩| ⟨c8,H⟩
    ·obtain⟨x0,e1,H⟩:=bj H
     rcases iw H with⟨c9,H⟩| ⟨c9,H⟩
     ·refine qr [.b 3 c8,.a 6 (py _ _ e1 h0 _ (fq (ah (cH) (ax)))),.b 8 c9] ?_
      have o8:Has h0 (L):=Has.del o0 0
      obtain rfl:=oi H
      exact qt <| ⟨.inl rfl,dA (.bool ((n0.args.length:Int)==(0:Int))) h0 (dz (aD))⟩
     ·refine qr [.b 3 c8,.a 6 (py _ _ e1 h0 _ (fq (ah (cH) (ax)))),.b 8 c9] ?_
      have o9:Has h0 (L):=Has.del o0 0
      obtain rfl:=oi H
      exact qt <| ⟨.inl rfl,dA (.bool false) h0 (dz (aD))⟩
    ·refine qr [.b 3 c8] ?_
     have w7:Has h0 (L):=Has.del o0 0
     obtain rfl:=oi H
     exact qt <| ⟨.inl rfl,dA (.bool false) h0 (dz (aD))⟩
   ·refine q1 <| qc H (fun Gj H=>?_) (fun Gj H=>?_)
    ·refine qq ?_
     rcases iw H with⟨yF,H⟩| ⟨yF,H⟩
     ·obtain⟨x1,e2,H⟩:=bj H
      rcases iw H with⟨DU,H⟩| ⟨DU,H⟩
      ·rcases iw H with⟨Gk,H⟩| ⟨Gk,H⟩
       ·rcases iw H with⟨DV,H⟩| ⟨DV,H⟩
        ·obtain⟨x2,e3,H⟩:=bj H
         refine qr [.b 3 yF,.a 6 (py _ _ e2 h0 _ (fq (ah (cH) (ax)))),.b 8 DU,.b 14 Gk,.b 20 DV,.a 24 (DY _ _ _ e3 79 [.fp [.int .i64 ls] 0] (fun h' sY y0 r hr hx=>N6 y0 _ r hr h' sY hx) (fun h_=>iC (ah (fX (pure_cons (dp) (pure_nil))) (ax))) h0 _ (fq (ah (fe (E:=af)) (ah (r9 (ah (cJ (q:=0) o0 rfl (ah (br) (ax))) (ax))) (ax)))))] ?_
         have Cs:Has h0 (L):=Has.del o0 0
         obtain rfl:=oi H
         exact qt <| ⟨.inl rfl,dA (.bool (!x2)) h0 (dz (aD))⟩
        ·refine qr [.b 3 yF,.a 6 (py _ _ e2 h0 _ (fq (ah (cH) (ax)))),.b 8 DU,.b 14 Gk,.b 20 DV] ?_
         have Cu:Has h0 (L):=Has.del o0 0
         obtain rfl:=oi H
         exact qt <| ⟨.inl rfl,dA (.bool false) h0 (dz (aD))⟩
       ·refine qr [.b 3 yF,.a 6 (py _ _ e2 h0 _ (fq (ah (cH) (ax)))),.b 8 DU,.b 14 Gk] ?_
        have vh:Has h0 (L):=Has.del o0 0
        obtain rfl:=oi H
        exact qt <| ⟨.inl rfl,dA (.bool false) h0 (dz (aD))⟩
      ·refine qr [.b 3 yF,.a 6 (py _ _ e2 h0 _ (fq (ah (cH) (ax)))),.b 8 DU] ?_
       have vi:Has h0 (L):=Has.del o0 0
       obtain rfl:=oi H
       exact qt <| ⟨.inl rfl,dA (.bool false) h0 (dz (aD))⟩
     ·refine qr [.b 3 yF] ?_
      have Fl:Has h0 (L):=Has.del o0 0
      obtain rfl:=oi H
      exact qt <| ⟨.inl rfl,dA (.bool false) h0 (dz (aD))⟩
    ·refine q1 ?_
     have yN:Has h0 (L):=Has.del o0 0
     refine qc H (fun N7 H=>?_) (fun N7 H=>?_)
     ·refine qq ?_
      rcases iw H with⟨LY,H⟩| ⟨LY,H⟩
      ·obtain⟨x3,e4,H⟩:=bj H
       rcases iw H with⟨IG,H⟩| ⟨IG,H⟩
       ·obtain rfl:=oi H
        exact qr [.b 3 LY,.a 6 (DX _ _ e4 h0 _ (fq (ah (cH) (ax)))),.b 8 IG] <| qt <| ⟨.inl rfl,dA (.bool ((n0.args.length:Int)==(0:Int))) h0 (dz (aD))⟩
       ·obtain rfl:=oi H
        exact qr [.b 3 LY,.a 6 (DX _ _ e4 h0 _ (fq (ah (cH) (ax)))),.b 8 IG] <| qt <| ⟨.inl rfl,dA (.bool false) h0 (dz (aD))⟩
      ·obtain rfl:=oi H
       exact qr [.b 3 LY] <| qt <| ⟨.inl rfl,dA (.bool false) h0 (dz (aD))⟩
     ·obtain rfl:=oi H
      exact qk <| qq <| q0 <| qt <| ⟨.inl rfl,dA (.bool false) h0 (dz (aD))⟩
end
end Go.Proofs.Ytifafejidnjckaa
namespace Go.Proofs.Ytifafejidnjckaa
open Go Go.R
open Go.IntKind (i64 u64 u8 u32)
def Ar:bY:=gK [0,1,2,3,4,5,16] [2,3] [115,83,111,51,111,111] [] []
def dj.f (m:Nat)(a0:aq)(b0:aq):Option (Int):=if (!(a0.kind==b0.kind))=true then ((cE.f m a0.kind b0.kind).bind fun x0=>some x0) else (if (a0.kind==(3:Int))=true then ((cE.f m (a0.args.length:Int) (b0.args.length:Int)).bind fun x1=>(b9.f m a0.label b0.label).bind fun x2=>(b5.f m ([x1,x2])).bind fun x3=>some x3) else ((b9.f m a0.label b0.label).bind fun x4=>(cE.f m a0.int b0.int).bind fun x5=>(b5.f m ([x4,x5])).bind fun x6=>some x6))
def dj.fin (L:Mem)(r:Int)(s:St):Prop:=∃av,aM Try.prog (s.open Ar) Try.f70.results.toList=some av∧ff s.h av (.int .i64 r)
def LZ (cf:CallF)(m:Nat):Prop:=∀(a0:aq) (b0:aq) (r:Int),dj.f m a0 b0=some r→∀h xs,aO bO h xs [.agg [.int .i64 a0.kind,.int .i64 a0.int,.str a0.label,af.fz a0.args],.agg [.int .i64 b0.kind,.int .i64 b0.int,.str b0.label,af.fz b0.args]]→cf 70 xs h=some (.int .i64 r,h)
section
variable {cf:CallF}{m:Nat}
theorem mj {aV:FuncId→bY}(ha:aV 70=Ar)(II:P9 cf m)(KO:PV cf m)(KP:Qa cf m)(a0:aq)(b0:aq)(h:AHeap)(L:Mem)  (o:Has h (L)){out:Int}(H:dj.f m a0 b0=some out) :
  ∃r h',a6 Try.prog aV cf m 70 [.agg [.int .i64 a0.kind,.int .i64 a0.int,.str a0.label,af.fz a0.args],.agg [.int .i64 b0.kind,.int .i64 b0.int,.str b0.label,af.fz b0.args]] h=some (r,h')∧ff h' r (.int .i64 out):=by
 refine ar (fn:=Try.f70) ha Try.func70 (by kernel_rfl) (by kernel_rfl) ?_
 refine aH (Q:=fun s=>dj.fin L out s) (fun _ _ h=>h) ?_
 have H:_=some out:=H
 unfold dj.f at H
 show dn _ cf Ar m _ ⟨.agg [.int .i64 a0.kind,.int .i64 a0.int,.str a0.label,af.fz a0.args] :: .agg [.int .i64 b0.kind,.int .i64 b0.int,.str b0.label,af.fz b0.args]::Fi [],[none,none],h⟩ _
 refine q1 <| qq <| qb 0 <| qq <| q0 <| qc H (fun c0 H=>?_) (fun c0 H=>?_)
 ·refine qq ?_
  obtain⟨x0,e0,H⟩:=bj H
  obtain rfl:=oi H
  exact qr [.a 4 (II _ _ _ e0 h _ (fq (ah (br) (ah (br) (ax)))))] <| qt <| ⟨.inl rfl,dA (.int .i64 x0) h (dz (dd))⟩
 ·refine q1 <| qc H (fun c1 H=>?_) (fun c1 H=>?_)
  ·refine qq ?_
   obtain⟨x1,e1,H⟩:=bj H
   obtain⟨x2,e2,H⟩:=bj H
   obtain⟨x3,e3,H⟩:=bj H
   obtain rfl:=oi H
   exact qr [.a 6 (II _ _ _ e1 h _ (fq (ah (br) (ah (br) (ax))))),.a 11 (KP _ _ _ e2 h _ (fq (ah (cH) (ah (cH) (ax))))),.a 13 (KO _ _ e3 h _ (fq (ah (ph (E:=af) (l:=[x1,x2]) (cs:=[.int .i64 x1,.int .i64 x2]) (b:=true) (by kernel_rfl) (by kernel_rfl) rfl) (ax))))] <| qt <| ⟨.inl rfl,dA (.int .i64 x3) h (dz (dd))⟩
  ·refine qk <| qq ?_
   obtain⟨x4,e4,H⟩:=bj H
   obtain⟨x5,e5,H⟩:=bj H
   obtain⟨x6,e6,H⟩:=bj H
   obtain rfl:=oi H
   exact qr [.a 4 (KP _ _ _ e4 h _ (fq (ah (cH) (ah (cH) (ax))))),.a 9 (II _ _ _ e5 h _ (fq (ah (br) (ah (br) (ax))))),.a 11 (KO _ _ e6 h _ (fq (ah (ph (E:=af) (l:=[x4,x5]) (cs:=[.int .i64 x4,.int .i64 x5]) (b:=true) (by kernel_rfl) (by kernel_rfl) rfl) (ax))))] <| qt <| ⟨.inl rfl,dA (.int .i64 x6) h (dz (dd))⟩
end
end Go.Proofs.Ytifafejidnjckaa
namespace Go.Proofs.Ytifafejidnjckaa
open Go Go.R
open Go.IntKind (i64 u64 u8 u32)
def As:bY:=gK [0,1,2,5] [] [8,7] [] []
def dK.f (m:Nat)(i0:Int)(j0:Int)(x0:List aq):Option (Int):=(ix x0 i0).bind fun v0=>(ix x0 j0).bind fun v1=>(dj.f m v0 v1).bind fun x1=>some x1
def dK.fin (L:Mem)(r:Int)(s:St):Prop:=∃av,aM Try.prog (s.open As) Try.f84.results.toList=some av∧ff s.h av (.int .i64 r)
def Qf (cf:CallF)(m:Nat):Prop:=∀(i0:Int) (j0:Int) (x0:List aq) (r:Int),dK.f m i0 j0 x0=some r→∀h xs,aO bO h xs [.int .i64 i0,.int .i64 j0,.fp [ai.fz x0] 0]→cf 84 xs h=some (.int .i64 r,h)
section
variable {cf:CallF}{m:Nat}
theorem mP {aV:FuncId→bY}(ha:aV 84=As)(D5:LZ cf m)(i0:Int)(j0:Int)(x0:List aq)(h:AHeap)(L:Mem)  (o:Has h (L)){out:Int}(H:dK.f m i0 j0 x0=some out) :
  ∃r h',a6 Try.prog aV cf m 84 [.int .i64 i0,.int .i64 j0,.fp [ai.fz x0] 0] h=some (r,h')∧ff h' r (.int .i64 out):=by
 refine ar (fn:=Try.f84) ha Try.func84 (by kernel_rfl) (by kernel_rfl) ?_
 refine aH (Q:=fun s=>dK.fin L out s) (fun _ _ h=>h) ?_
 have H:_=some out:=H
 unfold dK.f at H
 show dn _ cf As m _ ⟨[.int .i64 i0,.int .i64 j0,.fp [ai.fz x0] 0,.any],[],h⟩ _
 refine q1 <| qq ?_
 obtain⟨v0,e0,H⟩:=bj H
 obtain⟨v1,e1,H⟩:=bj H
 obtain⟨x1,e2,H⟩:=bj H
 obtain rfl:=oi H
 exact qr [.v 2 (fV (k:=.i64) (E:=ai) (l:=x0) xM e0),.v 3 (lX  (E:=ai) (l:=x0) h Fj Fk e0),.v 6 (fV (k:=.i64) (E:=ai) (l:=x0) xM e1),.v 7 (lX  (E:=ai) (l:=x0) h Fj Fk e1),.a 8 (D5 _ _ _ e2 h _ (fq (ah (iY (ah (br) (ah (br) (ah (cH) (ah (fe (E:=af)) (ax)))))) (ah (iY (ah (br) (ah (br) (ah (cH) (ah (fe (E:=af)) (ax)))))) (ax)))))] <| qt <| ⟨.inl rfl,dA (.int .i64 x1) h (dz (dd))⟩
end
end Go.Proofs.Ytifafejidnjckaa
namespace Go.Proofs.Ytifafejidnjckaa
open Go Go.R
open Go.IntKind (i64 u64 u8 u32)
end Go.Proofs.Ytifafejidnjckaa
namespace Go.Proofs.Ytifafejidnjckaa
open Go Go.R
open Go.IntKind (i64 u64 u8 u32)
end Go.Proofs.Ytifafejidnjckaa
namespace Go.Proofs.Ytifafejidnjckaa
open Go Go.R
open Go.IntKind (i64 u64 u8 u32)
end Go.Proofs.Ytifafejidnjckaa
namespace Go.Proofs.Ytifafejidnjckaa
open Go Go.R
open Go.IntKind (i64 u64 u8 u32)
end Go.Proofs.Ytifafejidnjckaa
namespace Go.Proofs.Ytifafejidnjckaa
open Go Go.R
open Go.IntKind (i64 u64 u8 u32)
end Go.Proofs.Ytifafejidnjckaa
