/- Part of the proof: Q57, Q58, Q63, Q65, Q74, Q77, Q80, Q82, Q92, Q93, Q94, Q100, Q101, Q107, Q108, Q30, Q31, Q33, Q35, Q50, Q61, Q67, Q70, Q84, Q86, Q87, Q88, Q91, Q104. -/
import Derived.Test.YtifafejidnjckaaK7
set_option linter.unusedVariables false
set_option linter.unusedSimpArgs false
set_option maxRecDepth 100000
open ByteArray renaming mk → Vk
open Eq renaming trans → V4
open List renaming length_set → UF, append_assoc → UK, cons_append → U6, nil_append → U7
namespace Go.Proofs.Ytifafejidnjckaa
open Go Go.R
open Go.IntKind (i64 u64 u8 u32)
def xh:bX:=gQ [0,1,4,5,6,7,12,19,29] [] [508,500,436,507,484,356,484,452,196,484,484,502,507] [] []
def dF.l0 (m:Nat)(s0:List Int)(kb:Int→Option (Bool)):Nat→(List Int)→Int→Int→Option ((List Int) × Int × Int)
 | 0,_,_,_=>none
 | k+1,s1,i0,j0=>if (decide (j0<(s0.length:Int)))=true then ((ix s1 j0).bind fun v0=>(kb v0).bind fun r0=>if (!r0)=true then ((ix s1 i0).bind fun v1=>dF.l0 m s0 kb k (s1.set i0.toNat v0) (i64.wrap (i0+(1:Int))) (i64.wrap (j0+(1:Int)))) else (dF.l0 m s0 kb k s1 i0 (i64.wrap (j0+(1:Int))))) else (some ((s1,i0,j0)))
def dF.f (m:Nat)(s0:List Int)(kb:Int→Option (Bool)):Option ((List Int)):=(cz.f m s0 kb).bind fun x0=>if (x0==(-1:Int))=true then (some s0) else ((dF.l0 m s0 kb m s0 x0 (i64.wrap (x0+(1:Int)))).bind fun bZ=>match bZ with | (s2,i1,j1)=>(JN s2 i1).bind fun v2=>(Hn v2 0 i1).bind fun v3=>some v3)
def dF.fin (L:Mem)(aJ:Nat)(s0:List Int)(kb:Int→Option (Bool))(r:(List Int))(s:St):Prop:=aM Try.prog (s.open xh) Try.f57.results.toList=some (.rs aJ 0 r.length 1)∧Has s.h ((aJ,.sl r.length 1 (af.l r))::L)
def Qg (cf:CallF)(m:Nat):Prop:=∀(s0:List Int) (kb:Int→Option (Bool)) (r:(List Int)),dF.f m s0 kb=some r→∀h L (Gz:Nat) (aJ:Nat),Has h ((aJ,.sl Gz 1 (af.l s0))::L)→∀(eB:FuncId) (aP bU:List AV),(aK (.fn eB aP) = .fn eB aP)→(∀(h:AHeap) (xs:List AV) (a0:Int) r,kb a0=some r→aO bO h xs ([.int .i64 a0]++bU)→cf eB xs h=some (.bool r,h))→(∀h K,Has h (K++(L))→aO cw h aP bU)→(∀h,aO cw h bU bU)→∀xs,xs.map aK=[.rs aJ 0 Gz 1,.fn eB aP]→∃h',cf 57 xs h=some (.rs aJ 0 r.length 1,h')∧Has h' ((aJ,.sl r.length 1 (af.l r))::L)
section
variable {cf:CallF}{m:Nat}
theorem dF.dm (L:Mem)(aJ:Nat)(eB:FuncId)(aP bU:List AV)(s0:List Int)(kb:Int→Option (Bool))  (qu:aK (.fn eB aP) = .fn eB aP)(gM:∀(h:AHeap) (xs:List AV) (a0:Int) r,kb a0=some r→aO bO h xs ([.int .i64 a0]++bU)→cf eB xs h=some (.bool r,h))(oA:∀h K,Has h (K++(L))→aO cw h aP bU)(gN:∀h,aO cw h bU bU)  : dS Try.prog cf xh m (sub [1,1,1,0,1,0,0] (b8 Try.f57)) (fun k (σ:(List Int) × Int × Int)=>dF.l0 m s0 kb k σ.1 σ.2.1 σ.2.2) (fun σ s=>match σ with | (s1,i0,j0)=>∃h0,s=⟨.rs aJ 0 s0.length 1 :: .fn eB aP :: .any :: .int .i64 i0 :: .int .i64 j0::nh [],[],h0⟩∧Has h0 ((aJ,.sl s0.length 1 (af.l s1))::L)) (fun out e s=>(e = .exit 0∧∃s1 i0 j0,(s1,i0,j0)=out∧∃yI Gv NU h0,s=⟨[.rs aJ 0 s0.length 1,yI,.any,.int .i64 i0,Gv,.any,.any,NU,.any],[],h0⟩∧Has h0 ((aJ,.sl s0.length 1 (af.l s1))::L))):=by
 refine me (fun _=>rfl) ?_
 rintro k ⟨s1,i0,j0⟩ s out ⟨h0,rfl,o0⟩ H
 have H:dF.l0 m s0 kb (k+1) s1 i0 j0=some out:=H
 refine qq <| qq <| q0 <| qc H (fun c1 H=>?_) (fun c1 H=>?_)
 ·refine qk <| qq <| qb 1 <| qq ?_
  obtain⟨v0,e1,H⟩:=bj H
  refine qr [.v 2 (bo (k:=.i64) (E:=af) (l:=s1) (q:=0) fU o0 rfl e1),.v 3 (dB  (E:=af) (l:=s1) (q:=0) o0 rfl A3 e1 rfl)] <| qq ?_
  obtain⟨r0,e2,H⟩:=bj H
  refine qr [.a 2 (gM _ _ _ _ e2 (Hq (ah (bz) (ay)) (oA h0 [(aJ,.sl s0.length 1 (af.l s1))] o0)))] <| qc H (fun c2 H=>?_) (fun c2 H=>?_)
  ·refine qq ?_
   obtain⟨v1,e3,H⟩:=bj H
   obtain⟨h1,e4,o1⟩:=fw (P:=Try.prog) (tf:=3) (E:=af) (l:=s1) (q:=0) (v:=v0) (x:=.int .i64 v0) o0 rfl Z3 e3 rfl rfl
   exact qr [.v 3 (bo (k:=.i64) (E:=af) (l:=s1) (q:=0) fU o0 rfl e3),.w 4 e4] <| q0 <| q0 <| ⟨(s1.set i0.toNat v0,i64.wrap (i0+(1:Int)),i64.wrap (j0+(1:Int))),⟨h1,by kernel_rfl,o1⟩,H⟩
  ·exact qk <| q0 <| ⟨(s1,i0,i64.wrap (j0+(1:Int))),⟨h0,by kernel_rfl,o0⟩,H⟩
 ·exact qx 0 <| ⟨rfl,s1,i0,j0,oi H,.fn eB aP,.int .i64 j0,.bool (decide (j0<(s0.length:Int))),h0,by kernel_rfl,o0⟩
theorem s7 {aV:FuncId→bX}(ha:aV 57=xh)(IJ:NN cf m)(s0:List Int)(kb:Int→Option (Bool))(h:AHeap)(L:Mem)(aJ:Nat)(eB:FuncId)(aP bU:List AV)  (qu:aK (.fn eB aP) = .fn eB aP)(gM:∀(h:AHeap) (xs:List AV) (a0:Int) r,kb a0=some r→aO bO h xs ([.int .i64 a0]++bU)→cf eB xs h=some (.bool r,h))(oA:∀h K,Has h (K++(L))→aO cw h aP bU)(gN:∀h,aO cw h bU bU)(o:Has h ((aJ,.sl s0.length 1 (af.l s0))::L)){out:(List Int)}(H:dF.f m s0 kb=some out) :
  ∃r h',a7 Try.prog aV cf m 57 [.rs aJ 0 s0.length 1,.fn eB aP] h=some (r,h')∧r = .rs aJ 0 out.length 1∧Has h' ((aJ,.sl out.length 1 (af.l out))::L):=by
 refine au (fn:=Try.f57) ha Try.func57 (by kernel_rfl) (by kernel_rfl) ?_
 refine aH (Q:=fun s=>dF.fin L aJ s0 kb out s) (fun _ _ ⟨h1,h2,h3⟩=>⟨h1,_,h2,rfl,h3⟩) ?_
 have H:_=some out:=H
 unfold dF.f at H
 show dj _ cf xh m _ ⟨.rs aJ 0 s0.length 1 :: .fn eB aP::Ge [],[],h⟩ _
 refine q1 <| qq ?_
 obtain⟨x0,e0,H⟩:=bj H
 refine qr [.a 2 (IJ _ _ _ e0 eB bU gM gN h _ (gp (ah (dW (E:=af) (l:=s0) (q:=0) o rfl (fun _=>rfl)) (ah (sb (oA h [(aJ,.sl s0.length 1 (af.l s0))] o)) (ay)))))] <| qq <| qq <| q0 <| qc H (fun c0 H=>?_) (fun c0 H=>?_)
 ·obtain rfl:=oi H
  exact q1 <| qt <| ⟨.inl rfl,⟨by kernel_rfl,he o⟩⟩
 ·refine qk <| qq <| qq <| q0 <| qb 0 ?_
  obtain⟨bZ,e5,H⟩:=bj H
  refine ql (dF.dm L aJ eB aP bU s0 kb  qu gM oA gN  (s0,x0,i64.wrap (x0+(1:Int))) _ _ ⟨h,by kernel_rfl,o⟩ e5) ?_
  rintro e s ⟨rfl,s2,i1,j1,rfl,g0,g1,g2,h2,rfl,o2⟩
  try dsimp only at H
  refine qq ?_
  obtain⟨v2,e6,H⟩:=bj H
  obtain⟨h3,e7,o3⟩:=IB (q:=0) (l:=s2) NC o2 rfl e6
  refine qr [.v 2 (IA (E:=af) (k:=.i64) (q:=0) (l:=s2) fU o2 rfl (sa e6).1 (sa e6).2.1),.a 3 e7] <| qq ?_
  obtain⟨v3,e8,H⟩:=bj H
  obtain⟨NV,o4⟩:=Ij (P:=Try.prog) (k:=.i64) (E:=af) (q:=0) o3 rfl fU e8
  obtain rfl:=oi H
  exact qr [.v 2 NV] <| qt <| ⟨.inl rfl,⟨by kernel_rfl,he o4⟩⟩
end
end Go.Proofs.Ytifafejidnjckaa
namespace Go.Proofs.Ytifafejidnjckaa
open Go Go.R
open Go.IntKind (i64 u64 u8 u32)
def Ao:bX:=gQ [0,1,3] [] [4,3] [] []
def cP.f (m:Nat)(n0:Int)(x0:ab):Option (Bool):=(b4.f m x0 n0).bind fun x1=>some (!x1)
def cP.fin (L:Mem)(r:Bool)(s:St):Prop:=∃av,aM Try.prog (s.open Ao) Try.f58.results.toList=some av∧ff s.h av (.bool r)
def Qh (cf:CallF)(m:Nat):Prop:=∀(n0:Int) (x0:ab) (r:Bool),cP.f m n0 x0=some r→∀h xs,aO bO h xs [.int .i64 n0,.fp [.fp [.bool x0.aj,ai.fz x0.aa,af.fz x0.ae] 0] 0]→cf 58 xs h=some (.bool r,h)
section
variable {cf:CallF}{m:Nat}
theorem kc {aV:FuncId→bX}(ha:aV 58=Ao)(D5:NI cf m)(n0:Int)(x0:ab)(h:AHeap)(L:Mem)  (o:Has h (L)){out:Bool}(H:cP.f m n0 x0=some out) :
  ∃r h',a7 Try.prog aV cf m 58 [.int .i64 n0,.fp [.fp [.bool x0.aj,ai.fz x0.aa,af.fz x0.ae] 0] 0] h=some (r,h')∧ff h' r (.bool out):=by
 refine au (fn:=Try.f58) ha Try.func58 (by kernel_rfl) (by kernel_rfl) ?_
 refine aH (Q:=fun s=>cP.fin L out s) (fun _ _ h=>h) ?_
 have H:_=some out:=H
 unfold cP.f at H
 show dj _ cf Ao m _ ⟨[.int .i64 n0,.fp [.fp [.bool x0.aj,ai.fz x0.aa,af.fz x0.ae] 0] 0,.any],[],h⟩ _
 refine q1 <| qq ?_
 obtain⟨x1,e0,H⟩:=bj H
 obtain rfl:=oi H
 exact qr [.a 2 (D5 _ _ _ e0 h _ (gp (ah (gf (pure_cons (dI) (pure_cons (bL.bD (E:=ai) (l:=x0.aa)) (pure_cons (bL.bD (E:=af) (l:=x0.ae)) (pure_nil))))) (ah (bz) (ay)))))] <| qt <| ⟨.inl rfl,dy (.bool (!x1)) h (dw (aD))⟩
end
end Go.Proofs.Ytifafejidnjckaa
namespace Go.Proofs.Ytifafejidnjckaa
open Go Go.R
open Go.IntKind (i64 u64 u8 u32)
def Ap:bX:=gQ [0,1,2] [] [4,3] [] []
def cE.f (m:Nat)(x0:ByteArray)(x1:Int):Option (Bool):=(fP.f m x0).bind fun x2=>if x2=true then (some (decide (x1≥(0:Int)))) else (some false)
def cE.fin (L:Mem)(r:Bool)(s:St):Prop:=∃av,aM Try.prog (s.open Ap) Try.f63.results.toList=some av∧ff s.h av (.bool r)
def Qi (cf:CallF)(m:Nat):Prop:=∀(x0:ByteArray) (x1:Int) (r:Bool),cE.f m x0 x1=some r→∀h xs,aO bO h xs [.fp [.str x0] 0,.fp [.int .i64 x1] 0]→cf 63 xs h=some (.bool r,h)
section
variable {cf:CallF}{m:Nat}
theorem kD {aV:FuncId→bX}(ha:aV 63=Ap)(D6:NJ cf m)(x0:ByteArray)(x1:Int)(h:AHeap)(L:Mem)  (o:Has h (L)){out:Bool}(H:cE.f m x0 x1=some out) :
  ∃r h',a7 Try.prog aV cf m 63 [.fp [.str x0] 0,.fp [.int .i64 x1] 0] h=some (r,h')∧ff h' r (.bool out):=by
 refine au (fn:=Try.f63) ha Try.func63 (by kernel_rfl) (by kernel_rfl) ?_
 refine aH (Q:=fun s=>cE.fin L out s) (fun _ _ h=>h) ?_
 have H:_=some out:=H
 unfold cE.f at H
 show dj _ cf Ap m _ ⟨[.fp [.str x0] 0,.fp [.int .i64 x1] 0,.any],[],h⟩ _
 refine q1 <| qq ?_
 obtain⟨x2,e0,H⟩:=bj H
 rcases iG H with⟨c0,H⟩| ⟨c0,H⟩
 ·obtain rfl:=oi H
  exact qr [.a 1 (D6 _ _ e0 h _ (gp (ah (cN) (ay)))),.b 2 c0] <| qt <| ⟨.inl rfl,dy (.bool (decide (x1≥(0:Int)))) h (dw (aD))⟩
 ·obtain rfl:=oi H
  exact qr [.a 1 (D6 _ _ e0 h _ (gp (ah (cN) (ay)))),.b 2 c0] <| qt <| ⟨.inl rfl,dy (.bool false) h (dw (aD))⟩
end
end Go.Proofs.Ytifafejidnjckaa
namespace Go.Proofs.Ytifafejidnjckaa
open Go Go.R
open Go.IntKind (i64 u64 u8 u32)
def Aq:bX:=gQ [0,1,4] [] [4,3] [] []
def gF.f (m:Nat)(s0:List aq)(f0:aq→Option (Bool)):Option (Bool):=(eK.f m s0 f0).bind fun x0=>some (decide (x0≥(0:Int)))
def gF.fin (L:Mem)(r:Bool)(s:St):Prop:=∃av,aM Try.prog (s.open Aq) Try.f65.results.toList=some av∧ff s.h av (.bool r)
def Qj (cf:CallF)(m:Nat):Prop:=∀(s0:List aq) (f0:aq→Option (Bool)) (r:Bool),gF.f m s0 f0=some r→∀(eB:FuncId) (aP:List AV),(∀(h:AHeap) (xs:List AV) (a0:aq) r,f0 a0=some r→aO bO h xs ([.agg [.int .i64 a0.kind,.int .i64 a0.int,.str a0.label,af.fz a0.args]]++aP)→cf eB xs h=some (.bool r,h))→(∀h,aO cw h aP aP)→∀h xs,aO bO h xs [ai.fz s0,.fn eB aP]→cf 65 xs h=some (.bool r,h)
section
variable {cf:CallF}{m:Nat}
theorem qA {aV:FuncId→bX}(ha:aV 65=Aq)(NW:P8 cf m)(s0:List aq)(f0:aq→Option (Bool))(h:AHeap)(L:Mem)(eB:FuncId)(aP:List AV)  (gM:∀(h:AHeap) (xs:List AV) (a0:aq) r,f0 a0=some r→aO bO h xs ([.agg [.int .i64 a0.kind,.int .i64 a0.int,.str a0.label,af.fz a0.args]]++aP)→cf eB xs h=some (.bool r,h))(gN:∀h,aO cw h aP aP)(o:Has h (L)){out:Bool}(H:gF.f m s0 f0=some out) :
  ∃r h',a7 Try.prog aV cf m 65 [ai.fz s0,.fn eB aP] h=some (r,h')∧ff h' r (.bool out):=by
 refine au (fn:=Try.f65) ha Try.func65 (by kernel_rfl) (by kernel_rfl) ?_
 refine aH (Q:=fun s=>gF.fin L out s) (fun _ _ h=>h) ?_
 have H:_=some out:=H
 unfold gF.f at H
 show dj _ cf Aq m _ ⟨[ai.fz s0,.fn eB aP,.any],[],h⟩ _
 refine q1 <| qq ?_
 obtain⟨x0,e0,H⟩:=bj H
 obtain rfl:=oi H
 exact qr [.a 2 (NW _ _ _ e0 eB aP gM gN h _ (gp (ah (fy (E:=ai)) (ah (sb (gN h)) (ay)))))] <| qt <| ⟨.inl rfl,dy (.bool (decide (x0≥(0:Int)))) h (dw (aD))⟩
end
end Go.Proofs.Ytifafejidnjckaa
namespace Go.Proofs.Ytifafejidnjckaa
open Go Go.R
open Go.IntKind (i64 u64 u8 u32)
def xi:bX:=gQ [0,1,2,6,7,27,29,30,31,37] [] [1016,990,1015,830,574,814,318,1015,830,1015] [] []
def cH.l0 (m:Nat)(s0:ByteArray):Nat→Int→Option (Sum Bool (Int))
 | 0,_=>none
 | k+1,x0=>if (decide (x0<(s0.size:Int)))=true then ((bt s0 x0).bind fun v2=>(fH.f m v2).bind fun x1=>if (!x1)=true then (some (.inl false)) else (cH.l0 m s0 k (i64.wrap (x0+(1:Int))))) else (some (.inr x0))
def cH.f (m:Nat)(s0:ByteArray)(ke:Int)(ni:Int):Option (Bool):=if (decide ((s0.size:Int)<(1:Int)))=true then (some false) else (if (decide ((s0.size:Int) > (16:Int)))=true then (some false) else ((bt s0 (0:Int)).bind fun v0=>if (decide (v0<ke))=true then (some false) else ((bt s0 (0:Int)).bind fun v1=>if (decide (v1 > ni))=true then (some false) else ((cH.l0 m s0 m (0:Int)).bind fun bZ=>match bZ with | .inl r0=>some r0 | .inr x2=>some true))))
def cH.fin (L:Mem)(r:Bool)(s:St):Prop:=∃av,aM Try.prog (s.open xi) Try.f74.results.toList=some av∧ff s.h av (.bool r)
def Qk (cf:CallF)(m:Nat):Prop:=∀(s0:ByteArray) (ke:Int) (ni:Int) (r:Bool),cH.f m s0 ke ni=some r→∀h xs,aO bO h xs [.str s0,.int .u8 ke,.int .u8 ni]→cf 74 xs h=some (.bool r,h)
section
variable {cf:CallF}{m:Nat}
theorem cH.dm (L:Mem)(s0:ByteArray)  (IK:NO cf m):dS Try.prog cf xi m (sub [1,1,0,1,0,0] (b8 Try.f74)) (fun k (σ:Int)=>cH.l0 m s0 k σ) (fun σ s=>match σ with | x0=>∃h0,s=⟨.str s0::Fy [.int .i64 (s0.size:Int),.int .i64 x0,.any,.any],[],h0⟩∧Has h0 (L)) (fun out e s=>(e = .exit 0∧∃x0,.inr x0=out∧∃oz NX IL NY h0,s=⟨oz::Fy [NX,IL,NY,.any],[],h0⟩∧Has h0 (L))∨(e = .ret∧∃r,.inl r=out∧cH.fin L r s)):=by
 refine me (fun _=>rfl) ?_
 rintro k x0 s out ⟨h0,rfl,o0⟩ H
 have H:cH.l0 m s0 (k+1) x0=some out:=H
 refine q1 <| qq <| qc H (fun c7 H=>?_) (fun c7 H=>?_)
 ·refine qk <| qq <| qb 1 <| qq <| q0 <| qq ?_
  obtain⟨v2,e2,H⟩:=bj H
  obtain⟨x1,e3,H⟩:=bj H
  refine qr [.v 2 (uX (k:=.i64) U9 e2),.a 3 (IK _ _ e3 h0 _ (gp (ah (bz) (ay))))] <| qc H (fun c8 H=>?_) (fun c8 H=>?_)
  ·exact q1 <| qt <| Or.inr (⟨rfl,_,oi H,dy (.bool false) h0 (dw (aD))⟩)
  ·exact qk <| q0 <| ⟨i64.wrap (x0+(1:Int)),⟨h0,by kernel_rfl,o0⟩,H⟩
 ·exact qx 0 <| Or.inl (⟨rfl,x0,oi H,.str s0,.int .i64 (s0.size:Int),.int .i64 x0,.bool (decide (x0<(s0.size:Int))),h0,by kernel_rfl,o0⟩)
theorem sf {aV:FuncId→bX}(ha:aV 74=xi)(IK:NO cf m)(s0:ByteArray)(ke:Int)(ni:Int)(h:AHeap)(L:Mem)  (o:Has h (L)){out:Bool}(H:cH.f m s0 ke ni=some out) :
  ∃r h',a7 Try.prog aV cf m 74 [.str s0,.int .u8 ke,.int .u8 ni] h=some (r,h')∧ff h' r (.bool out):=by
 refine au (fn:=Try.f74) ha Try.func74 (by kernel_rfl) (by kernel_rfl) ?_
 refine aH (Q:=fun s=>cH.fin L out s) (fun _ _ h=>h) ?_
 have H:_=some out:=H
 unfold cH.f at H
 show dj _ cf xi m _ ⟨.str s0 :: .int .u8 ke :: .int .u8 ni::Ge [],[],h⟩ _
 refine q1 <| qq <| qq ?_
 rcases iG H with⟨c0,H⟩| ⟨c0,H⟩
 ·obtain rfl:=oi H
  exact qr [.b 3 c0] <| L3 <| qq <| q0 <| qt <| ⟨.inl rfl,dy (.bool false) h (dw (aD))⟩
 ·rcases iG H with⟨c2,H⟩| ⟨c2,H⟩
  ·obtain rfl:=oi H
   exact qr [.b 3 c0,.b 8 c2] <| L3 <| qq <| q0 <| qt <| ⟨.inl rfl,dy (.bool false) h (dw (aD))⟩
  ·obtain⟨v0,e0,H⟩:=bj H
   rcases iG H with⟨c4,H⟩| ⟨c4,H⟩
   ·obtain rfl:=oi H
    exact qr [.b 3 c0,.b 8 c2,.v 10 (uX (k:=.i64) U9 e0),.b 14 c4] <| L3 <| qq <| q0 <| qt <| ⟨.inl rfl,dy (.bool false) h (dw (aD))⟩
   ·obtain⟨v1,e1,H⟩:=bj H
    refine qr [.b 3 c0,.b 8 c2,.v 10 (uX (k:=.i64) U9 e0),.b 14 c4,.v 16 (uX (k:=.i64) U9 e1)] <| qc H (fun c6 H=>?_) (fun c6 H=>?_)
    ·obtain rfl:=oi H
     exact q1 <| qt <| ⟨.inl rfl,dy (.bool false) h (dw (aD))⟩
    ·refine qk <| qq <| qq <| q0 <| qb 0 ?_
     obtain⟨bZ,e4,H⟩:=bj H
     refine ql (cH.dm L s0  IK (0:Int) _ _ ⟨h,by kernel_rfl,o⟩ e4) ?_
     rintro e s (⟨rfl,x2,rfl,g0,g1,g2,g3,h1,rfl,o1⟩| ⟨rfl,r0,rfl,w7⟩)
     ·try dsimp only at H
      obtain rfl:=oi H
      exact q1 <| qt <| ⟨.inl rfl,dy (.bool true) h1 (dw (aD))⟩
     ·try dsimp only at H
      obtain rfl:=oi H
      exact⟨.inl rfl,w7⟩
end
end Go.Proofs.Ytifafejidnjckaa
namespace Go.Proofs.Ytifafejidnjckaa
open Go Go.R
open Go.IntKind (i64 u64 u8 u32)
end Go.Proofs.Ytifafejidnjckaa
namespace Go.Proofs.Ytifafejidnjckaa
open Go Go.R
open Go.IntKind (i64 u64 u8 u32)
def Ar:bX:=gQ [0,1,4,5,6,11,12,13,16,19] [] [1020,1012,996,972,959,1019,1019,892,1019,764,1019,511,1019,1019] [] []
def cF.f (m:Nat)(x0:Int)(y0:Int):Option (Int):=(cmp_isNaN_int.f m x0).bind fun x1=>(cmp_isNaN_int.f m y0).bind fun x2=>if x1=true then (if x2=true then (some (0:Int)) else (some (-1:Int))) else (if x2=true then (some (1:Int)) else (if (decide (x0<y0))=true then (some (-1:Int)) else (if (decide (x0 > y0))=true then (some (1:Int)) else (some (0:Int)))))
def cF.fin (L:Mem)(r:Int)(s:St):Prop:=∃av,aM Try.prog (s.open Ar) Try.f80.results.toList=some av∧ff s.h av (.int .i64 r)
def Ql (cf:CallF)(m:Nat):Prop:=∀(x0:Int) (y0:Int) (r:Int),cF.f m x0 y0=some r→∀h xs,aO bO h xs [.int .i64 x0,.int .i64 y0]→cf 80 xs h=some (.int .i64 r,h)
section
variable {cf:CallF}{m:Nat}
theorem mo {aV:FuncId→bX}(ha:aV 80=Ar)(KX:Qb cf m)(x0:Int)(y0:Int)(h:AHeap)(L:Mem)  (o:Has h (L)){out:Int}(H:cF.f m x0 y0=some out) :
  ∃r h',a7 Try.prog aV cf m 80 [.int .i64 x0,.int .i64 y0] h=some (r,h')∧ff h' r (.int .i64 out):=by
 refine au (fn:=Try.f80) ha Try.func80 (by kernel_rfl) (by kernel_rfl) ?_
 refine aH (Q:=fun s=>cF.fin L out s) (fun _ _ h=>h) ?_
 have H:_=some out:=H
 unfold cF.f at H
 show dj _ cf Ar m _ ⟨.int .i64 x0 :: .int .i64 y0::BS [],[],h⟩ _
 refine q1 <| qq ?_
 obtain⟨x1,e0,H⟩:=bj H
 refine qr [.a 1 (KX _ _ e0 h _ (gp (ah (bz) (ay))))] <| qq ?_
 obtain⟨x2,e1,H⟩:=bj H
 refine qr [.a 1 (KX _ _ e1 h _ (gp (ah (bz) (ay))))] <| qq <| qq <| q0 <| qc H (fun c0 H=>?_) (fun c0 H=>?_)
 ·refine qq <| qq <| q0 <| qc H (fun c1 H=>?_) (fun c1 H=>?_)
  ·obtain rfl:=oi H
   exact q1 <| qt <| ⟨.inl rfl,dy (.int .i64 (0:Int)) h (dw (dc))⟩
  ·obtain rfl:=oi H
   exact qk <| qq <| q0 <| qt <| ⟨.inl rfl,dy (.int .i64 (-1:Int)) h (dw (dc))⟩
 ·refine qk <| qq <| qq <| q0 <| qc H (fun c2 H=>?_) (fun c2 H=>?_)
  ·obtain rfl:=oi H
   exact q1 <| qt <| ⟨.inl rfl,dy (.int .i64 (1:Int)) h (dw (dc))⟩
  ·refine qk <| qq <| qq <| q0 <| qc H (fun c3 H=>?_) (fun c3 H=>?_)
   ·obtain rfl:=oi H
    exact q1 <| qt <| ⟨.inl rfl,dy (.int .i64 (-1:Int)) h (dw (dc))⟩
   ·refine qk <| qq <| qq <| q0 <| qc H (fun c4 H=>?_) (fun c4 H=>?_)
    ·obtain rfl:=oi H
     exact q1 <| qt <| ⟨.inl rfl,dy (.int .i64 (1:Int)) h (dw (dc))⟩
    ·obtain rfl:=oi H
     exact qk <| qq <| q0 <| qt <| ⟨.inl rfl,dy (.int .i64 (0:Int)) h (dw (dc))⟩
end
end Go.Proofs.Ytifafejidnjckaa
namespace Go.Proofs.Ytifafejidnjckaa
open Go Go.R
open Go.IntKind (i64 u64 u8 u32)
def As:bX:=gQ [0,1,4,5,6,11,12,13,16,19] [] [1020,1012,996,972,959,1019,1019,892,1019,764,1019,511,1019,1019] [] []
def ca.f (m:Nat)(x0:ByteArray)(y0:ByteArray):Option (Int):=(cmp_isNaN_string.f m x0).bind fun x1=>(cmp_isNaN_string.f m y0).bind fun x2=>if x1=true then (if x2=true then (some (0:Int)) else (some (-1:Int))) else (if x2=true then (some (1:Int)) else (if (Op.bytesLess x0.data.toList y0.data.toList)=true then (some (-1:Int)) else (if (!DA x0 y0)=true then (some (1:Int)) else (some (0:Int)))))
def ca.fin (L:Mem)(r:Int)(s:St):Prop:=∃av,aM Try.prog (s.open As) Try.f82.results.toList=some av∧ff s.h av (.int .i64 r)
def Qm (cf:CallF)(m:Nat):Prop:=∀(x0:ByteArray) (y0:ByteArray) (r:Int),ca.f m x0 y0=some r→∀h xs,aO bO h xs [.str x0,.str y0]→cf 82 xs h=some (.int .i64 r,h)
section
variable {cf:CallF}{m:Nat}
theorem kE {aV:FuncId→bX}(ha:aV 82=As)(KY:Qc cf m)(x0:ByteArray)(y0:ByteArray)(h:AHeap)(L:Mem)  (o:Has h (L)){out:Int}(H:ca.f m x0 y0=some out) :
  ∃r h',a7 Try.prog aV cf m 82 [.str x0,.str y0] h=some (r,h')∧ff h' r (.int .i64 out):=by
 refine au (fn:=Try.f82) ha Try.func82 (by kernel_rfl) (by kernel_rfl) ?_
 refine aH (Q:=fun s=>ca.fin L out s) (fun _ _ h=>h) ?_
 have H:_=some out:=H
 unfold ca.f at H
 show dj _ cf As m _ ⟨.str x0 :: .str y0::BS [],[],h⟩ _
 refine q1 <| qq ?_
 obtain⟨x1,e0,H⟩:=bj H
 refine qr [.a 1 (KY _ _ e0 h _ (gp (ah (cN) (ay))))] <| qq ?_
 obtain⟨x2,e1,H⟩:=bj H
 refine qr [.a 1 (KY _ _ e1 h _ (gp (ah (cN) (ay))))] <| qq <| qq <| q0 <| qc H (fun c0 H=>?_) (fun c0 H=>?_)
 ·refine qq <| qq <| q0 <| qc H (fun c1 H=>?_) (fun c1 H=>?_)
  ·obtain rfl:=oi H
   exact q1 <| qt <| ⟨.inl rfl,dy (.int .i64 (0:Int)) h (dw (dc))⟩
  ·obtain rfl:=oi H
   exact qk <| qq <| q0 <| qt <| ⟨.inl rfl,dy (.int .i64 (-1:Int)) h (dw (dc))⟩
 ·refine qk <| qq <| qq <| q0 <| qc H (fun c2 H=>?_) (fun c2 H=>?_)
  ·obtain rfl:=oi H
   exact q1 <| qt <| ⟨.inl rfl,dy (.int .i64 (1:Int)) h (dw (dc))⟩
  ·refine qk <| qq <| qq <| q0 <| qc H (fun c3 H=>?_) (fun c3 H=>?_)
   ·obtain rfl:=oi H
    exact q1 <| qt <| ⟨.inl rfl,dy (.int .i64 (-1:Int)) h (dw (dc))⟩
   ·refine qk <| qq <| qq <| q0 <| qc H (fun c4 H=>?_) (fun c4 H=>?_)
    ·obtain rfl:=oi H
     exact q1 <| qt <| ⟨.inl rfl,dy (.int .i64 (1:Int)) h (dw (dc))⟩
    ·obtain rfl:=oi H
     exact qk <| qq <| q0 <| qt <| ⟨.inl rfl,dy (.int .i64 (0:Int)) h (dw (dc))⟩
end
end Go.Proofs.Ytifafejidnjckaa
namespace Go.Proofs.Ytifafejidnjckaa
open Go Go.R
open Go.IntKind (i64 u64 u8 u32)
end Go.Proofs.Ytifafejidnjckaa
namespace Go.Proofs.Ytifafejidnjckaa
open Go Go.R
open Go.IntKind (i64 u64 u8 u32)
end Go.Proofs.Ytifafejidnjckaa
namespace Go.Proofs.Ytifafejidnjckaa
open Go Go.R
open Go.IntKind (i64 u64 u8 u32)
end Go.Proofs.Ytifafejidnjckaa
namespace Go.Proofs.Ytifafejidnjckaa
open Go Go.R
open Go.IntKind (i64 u64 u8 u32)
end Go.Proofs.Ytifafejidnjckaa
namespace Go.Proofs.Ytifafejidnjckaa
open Go Go.R
open Go.IntKind (i64 u64 u8 u32)
end Go.Proofs.Ytifafejidnjckaa
namespace Go.Proofs.Ytifafejidnjckaa
open Go Go.R
open Go.IntKind (i64 u64 u8 u32)
end Go.Proofs.Ytifafejidnjckaa
namespace Go.Proofs.Ytifafejidnjckaa
open Go Go.R
open Go.IntKind (i64 u64 u8 u32)
def sg:bX:=gQ [0,1,2,3,4,10,11,20,23] [] [450,394,266,138,394,394,394,394,511] [] []
def eL.l0 (m:Nat)(m0:Int)(aQ:Int→Int→Option (Int)):Nat→(List Int)→Int→Int→Option ((List Int) × Int × Int)
 | 0,_,_,_=>none
 | k+1,bl,i0,j0=>if (!(i0==j0))=true then (if (decide (i0 > j0))=true then ((bQ.f m bl (i64.wrap (m0 - i0)) m0 j0 aQ).bind fun x0=>eL.l0 m m0 aQ k x0 (i64.wrap (i0 - j0)) j0) else ((bQ.f m bl (i64.wrap (m0 - i0)) (i64.wrap (i64.wrap (m0+j0) - i0)) i0 aQ).bind fun x1=>eL.l0 m m0 aQ k x1 i0 (i64.wrap (j0 - i0)))) else (some ((bl,i0,j0)))
def eL.f (m:Nat)(aw:List Int)(a0:Int)(m0:Int)(b0:Int)(aQ:Int→Int→Option (Int)):Option ((List Int)):=(eL.l0 m m0 aQ m aw (i64.wrap (m0 - a0)) (i64.wrap (b0 - m0))).bind fun bZ=>match bZ with | (cY,i1,j1)=>(bQ.f m cY (i64.wrap (m0 - i1)) m0 i1 aQ).bind fun x2=>some x2
def eL.fin (L:Mem)(aJ:Nat)(aw:List Int)(a0:Int)(m0:Int)(b0:Int)(aQ:Int→Int→Option (Int))(r:(List Int))(s:St):Prop:=aM Try.prog (s.open sg) Try.f108.results.toList=some (.tup [])∧Has s.h ((aJ,.sl aw.length 1 (af.l r))::L)
def KZ (cf:CallF)(m:Nat):Prop:=∀(aw:List Int) (a0:Int) (m0:Int) (b0:Int) (aQ:Int→Int→Option (Int)) (r:(List Int)),eL.f m aw a0 m0 b0 aQ=some r→∀h L (cg:Nat) (aJ:Nat),Has h ((aJ,.sl cg 1 (af.l aw))::L)→∀(eC:FuncId) (aZ aS:List AV),(aK (.fn eC aZ) = .fn eC aZ)→(∀(h:AHeap) (xs:List AV) (a0:Int) (a1:Int) r,aQ a0 a1=some r→aO bO h xs ([.int .i64 a0,.int .i64 a1]++aS)→cf eC xs h=some (.int .i64 r,h))→(∀h K,Has h (K++(L))→aO cw h aZ aS)→(∀h,aO cw h aS aS)→∀xs,xs.map aK=[.rs aJ 0 cg 1,.int .i64 a0,.int .i64 m0,.int .i64 b0,.fn eC aZ]→∃h',cf 108 xs h=some (.tup [],h')∧Has h' ((aJ,.sl cg 1 (af.l r))::L)
section
variable {cf:CallF}{m:Nat}
theorem eL.dm (L:Mem)(aJ:Nat)(eC:FuncId)(aZ aS:List AV)(aw:List Int)(a0:Int)(m0:Int)(b0:Int)(aQ:Int→Int→Option (Int))  (gE:aK (.fn eC aZ) = .fn eC aZ)(gY:∀(h:AHeap) (xs:List AV) (a0:Int) (a1:Int) r,aQ a0 a1=some r→aO bO h xs ([.int .i64 a0,.int .i64 a1]++aS)→cf eC xs h=some (.int .i64 r,h))(gZ:∀h K,Has h (K++(L))→aO cw h aZ aS)(iE:∀h,aO cw h aS aS)(xj:II cf m):dS Try.prog cf sg m (sub [1,1,0,0,0] (b8 Try.f108)) (fun k (σ:(List Int) × Int × Int)=>eL.l0 m m0 aQ k σ.1 σ.2.1 σ.2.2) (fun σ s=>match σ with | (bl,i0,j0)=>∃h0,s=⟨[.rs aJ 0 aw.length 1,.any,.int .i64 m0,.any,.fn eC aZ,.int .i64 i0,.int .i64 j0,.any,.any],[],h0⟩∧Has h0 ((aJ,.sl aw.length 1 (af.l bl))::L)) (fun out e s=>(e = .exit 0∧∃bl i0 j0,(bl,i0,j0)=out∧∃D7 NZ h0,s=⟨[.rs aJ 0 aw.length 1,.any,.int .i64 m0,.any,.fn eC aZ,.int .i64 i0,D7,NZ,.any],[],h0⟩∧Has h0 ((aJ,.sl aw.length 1 (af.l bl))::L))):=by
 refine me (fun _=>rfl) ?_
 rintro k ⟨bl,i0,j0⟩ s out ⟨h0,rfl,o0⟩ H
 have H:eL.l0 m m0 aQ (k+1) bl i0 j0=some out:=H
 refine qq <| qq <| q0 <| qc H (fun c0 H=>?_) (fun c0 H=>?_)
 ·refine qk <| qb 1 <| qq <| q0 <| qc H (fun c1 H=>?_) (fun c1 H=>?_)
  ·refine qq ?_
   obtain⟨x0,e0,H⟩:=bj H
   obtain⟨h1,e1,o1⟩:=xj _ _ _ _ _ _ e0 h0 _ _ _ (o0) eC aZ aS gE gY (fun h' K' o'=>gZ h' (K'++[]) (by simpa only [UK,U6,U7] using o')) iE [.rs aJ 0 aw.length 1,.int .i64 (i64.wrap (m0 - i0)),.int .i64 m0,.int .i64 j0,.fn eC aZ] (ar (rfl) (ar (aL (bh)) (ar (aL (bh)) (ar (aL (bh)) (ar (gE) (bE))))))
   exact qr [.a 7 e1] <| q0 <| ⟨(x0,i64.wrap (i0 - j0),j0),⟨h1,by kernel_rfl,o1⟩,H⟩
  ·refine qq ?_
   obtain⟨x1,e2,H⟩:=bj H
   obtain⟨h2,e3,o2⟩:=xj _ _ _ _ _ _ e2 h0 _ _ _ (o0) eC aZ aS gE gY (fun h' K' o'=>gZ h' (K'++[]) (by simpa only [UK,U6,U7] using o')) iE [.rs aJ 0 aw.length 1,.int .i64 (i64.wrap (m0 - i0)),.int .i64 (i64.wrap (i64.wrap (m0+j0) - i0)),.int .i64 i0,.fn eC aZ] (ar (rfl) (ar (aL (bh)) (ar (aL (bh)) (ar (aL (bh)) (ar (gE) (bE))))))
   exact qr [.a 11 e3] <| q0 <| ⟨(x1,i0,i64.wrap (j0 - i0)),⟨h2,by kernel_rfl,o2⟩,H⟩
 ·exact qx 0 <| ⟨rfl,bl,i0,j0,oi H,.int .i64 j0,.bool (!(i0==j0)),h0,by kernel_rfl,o0⟩
theorem vk {aV:FuncId→bX}(ha:aV 108=sg)(xj:II cf m)(aw:List Int)(a0:Int)(m0:Int)(b0:Int)(aQ:Int→Int→Option (Int))(h:AHeap)(L:Mem)(aJ:Nat)(eC:FuncId)(aZ aS:List AV)  (gE:aK (.fn eC aZ) = .fn eC aZ)(gY:∀(h:AHeap) (xs:List AV) (a0:Int) (a1:Int) r,aQ a0 a1=some r→aO bO h xs ([.int .i64 a0,.int .i64 a1]++aS)→cf eC xs h=some (.int .i64 r,h))(gZ:∀h K,Has h (K++(L))→aO cw h aZ aS)(iE:∀h,aO cw h aS aS)(o:Has h ((aJ,.sl aw.length 1 (af.l aw))::L)){out:(List Int)}(H:eL.f m aw a0 m0 b0 aQ=some out) :
  ∃r h',a7 Try.prog aV cf m 108 [.rs aJ 0 aw.length 1,.int .i64 a0,.int .i64 m0,.int .i64 b0,.fn eC aZ] h=some (r,h')∧r = .tup []∧Has h' ((aJ,.sl aw.length 1 (af.l out))::L):=by
 refine au (fn:=Try.f108) ha Try.func108 (by kernel_rfl) (by kernel_rfl) ?_
 refine aH (Q:=fun s=>eL.fin L aJ aw a0 m0 b0 aQ out s) (fun _ _ ⟨h1,h2,h3⟩=>⟨h1,_,h2,rfl,h3⟩) ?_
 have H:_=some out:=H
 unfold eL.f at H
 show dj _ cf sg m _ ⟨.rs aJ 0 aw.length 1 :: .int .i64 a0 :: .int .i64 m0 :: .int .i64 b0 :: .fn eC aZ::nh [],[],h⟩ _
 refine q1 <| qq <| q0 <| qq <| qb 0 ?_
 obtain⟨bZ,e4,H⟩:=bj H
 refine ql (eL.dm L aJ eC aZ aS aw a0 m0 b0 aQ  gE gY gZ iE xj (aw,i64.wrap (m0 - a0),i64.wrap (b0 - m0)) _ _ ⟨h,by kernel_rfl,o⟩ e4) ?_
 rintro e s ⟨rfl,cY,i1,j1,rfl,g0,g1,h3,rfl,o3⟩
 try dsimp only at H
 obtain⟨x2,e5,H⟩:=bj H
 obtain⟨h4,e6,o4⟩:=xj _ _ _ _ _ _ e5 h3 _ _ _ (o3) eC aZ aS gE gY (fun h' K' o'=>gZ h' (K'++[]) (by simpa only [UK,U6,U7] using o')) iE [.rs aJ 0 aw.length 1,.int .i64 (i64.wrap (m0 - i1)),.int .i64 m0,.int .i64 i1,.fn eC aZ] (ar (rfl) (ar (aL (bh)) (ar (aL (bh)) (ar (aL (bh)) (ar (gE) (bE))))))
 obtain rfl:=oi H
 exact qr [.a 7 e6] <| ⟨.inr rfl,⟨by kernel_rfl,he o4⟩⟩
end
end Go.Proofs.Ytifafejidnjckaa
namespace Go.Proofs.Ytifafejidnjckaa
open Go Go.R
open Go.IntKind (i64 u64 u8 u32)
def Au:bX:=gQ [0,1,2,4,5,9] [] [57,41,55,31,55,55] [] []
def bS.f (m:Nat)(s0:ab)(l0:List Int):Option (Int):=(bF.f m s0).bind fun x0=>if (!x0)=true then (some (6:Int)) else ((ei.f m l0 (fun y0=>cO.f m y0 s0)).bind fun x1=>if x1=true then (some (1:Int)) else (some (0:Int)))
def bS.fin (L:Mem)(r:Int)(s:St):Prop:=∃av,aM Try.prog (s.open Au) Try.f30.results.toList=some av∧ff s.h av (.int .i64 r)
def L8 (cf:CallF)(m:Nat):Prop:=∀(s0:ab) (l0:List Int) (r:Int),bS.f m s0 l0=some r→∀h xs,aO bO h xs [.fp [.bool s0.aj,ai.fz s0.aa,af.fz s0.ae] 0,af.fz l0]→cf 30 xs h=some (.int .i64 r,h)
section
variable {cf:CallF}{m:Nat}
theorem lb {aV:FuncId→bX}(ha:aV 30=Au)(yJ:KV cf m)(D8:L7 cf m)(N0:Qf cf m)(s0:ab)(l0:List Int)(h:AHeap)(L:Mem)  (o:Has h (L)){out:Int}(H:bS.f m s0 l0=some out) :
  ∃r h',a7 Try.prog aV cf m 30 [.fp [.bool s0.aj,ai.fz s0.aa,af.fz s0.ae] 0,af.fz l0] h=some (r,h')∧ff h' r (.int .i64 out):=by
 refine au (fn:=Try.f30) ha Try.func30 (by kernel_rfl) (by kernel_rfl) ?_
 refine aH (Q:=fun s=>bS.fin L out s) (fun _ _ h=>h) ?_
 have H:_=some out:=H
 unfold bS.f at H
 show dj _ cf Au m _ ⟨.fp [.bool s0.aj,ai.fz s0.aa,af.fz s0.ae] 0::af.fz l0::nh [],[],h⟩ _
 refine qq ?_
 obtain⟨aJ,h0,e0,o0⟩:=gk (cs:=[.fp [.bool s0.aj,ai.fz s0.aa,af.fz s0.ae] 0]) o (by kernel_rfl)
 refine qr [.a 0 e0] <| qq <| qb 0 <| qq ?_
 obtain⟨x0,e1,H⟩:=bj H
 refine qr [.v 0 (show bm Try.prog h0 28 (.ptr aJ 0)=some (.fp [.bool s0.aj,ai.fz s0.aa,af.fz s0.ae] 0) from bW (q:=0) (cs:=[.fp [.bool s0.aj,ai.fz s0.aa,af.fz s0.ae] 0]) o0 rfl (by kernel_rfl)),.a 1 (yJ _ _ e1 h0 _ (gp (ah (gf (pure_cons (dI) (pure_cons (bL.bD (E:=ai) (l:=s0.aa)) (pure_cons (bL.bD (E:=af) (l:=s0.ae)) (pure_nil))))) (ay))))] <| qc H (fun c0 H=>?_) (fun c0 H=>?_)
 ·refine q1 ?_
  have o1:Has h0 (L):=Has.del o0 0
  obtain rfl:=oi H
  exact qt <| ⟨.inl rfl,dy (.int .i64 (6:Int)) h0 (dw (dc))⟩
 ·refine qq ?_
  obtain⟨x1,e2,H⟩:=bj H
  refine qr [.a 2 (D8 _ _ _ e2 53 [.fp [.fp [.bool s0.aj,ai.fz s0.aa,af.fz s0.ae] 0] 0] (fun h' sZ y0 r hr hx=>N0 y0 _ r hr h' sZ hx) (fun h_=>iJ (ah (gf (pure_cons (kZ (pure_cons (dI) (pure_cons (bL.bD (E:=ai) (l:=s0.aa)) (pure_cons (bL.bD (E:=af) (l:=s0.ae)) (pure_nil))))) (pure_nil))) (ay))) h0 _ (gp (ah (fy (E:=af)) (ah (sb (ah (dM (q:=0) o0 rfl (ah (gf (pure_cons (dI) (pure_cons (bL.bD (E:=ai) (l:=s0.aa)) (pure_cons (bL.bD (E:=af) (l:=s0.ae)) (pure_nil))))) (ay))) (ay))) (ay)))))] ?_
  have o2:Has h0 (L):=Has.del o0 0
  refine qc H (fun c1 H=>?_) (fun c1 H=>?_)
  ·obtain rfl:=oi H
   exact q1 <| qt <| ⟨.inl rfl,dy (.int .i64 (1:Int)) h0 (dw (dc))⟩
  ·obtain rfl:=oi H
   exact qk <| qq <| q0 <| qt <| ⟨.inl rfl,dy (.int .i64 (0:Int)) h0 (dw (dc))⟩
end
end Go.Proofs.Ytifafejidnjckaa
namespace Go.Proofs.Ytifafejidnjckaa
open Go Go.R
open Go.IntKind (i64 u64 u8 u32)
def tT:bX:=gQ [0,1,2,6,7,8,9,10,11,12,13,14,22,46,70,73,77,78,79] [11,12,13,18] [524280,524248,524190,524062,519966,524062,523806,515614,522270,505886,489502,524263,325662,63518,323614,325662,325662,524062,524263] [] [(1,[(8,none,1)])]
def az.l1 (m:Nat)(v2:aq)(v3:aq):Nat→(List a6)→Int→ab→Option ((List a6) × Int × ab)
 | 0,_,_,_=>none
 | k+1,jI,x3,s2=>if (decide (x3<(v2.args.length:Int)))=true then ((ix v2.args x3).bind fun v4=>(ix v3.args x3).bind fun v5=>(app 16 jI ([(a6.mk v4 v5)])).bind fun x4=>az.l1 m v2 v3 k x4 (i64.wrap (x3+(1:Int))) s2) else (some ((jI,x3,s2)))
def az.l0 (m:Nat)  : Nat→(List Int)→(List a6)→Int→ab→Option (Sum ((List Int) × Bool × ab) ((List Int) × (List a6) × Int × ab))
 | 0,_,_,_,_=>none
 | k+1,aF,eW,k0,s1=>if (decide (k0<(eW.length:Int)))=true then ((ix eW k0).bind fun v0=>(ba.f m s1 v0.jN).bind fun x0=>(ix eW k0).bind fun v1=>(ba.f m s1 v1.kL).bind fun x1=>if ((x0==x0)&&(x1==x0))=true then (az.l0 m k aF eW (i64.wrap (k0+(1:Int))) s1) else ((ix s1.aa x0).bind fun v2=>(ix s1.aa x1).bind fun v3=>if (!(v2.kind==(0:Int)))=true then (if (!(v3.kind==(0:Int)))=true then ((eV.f m v2 v3).bind fun x2=>if x2=true then (some (.inl (aF,false,s1))) else ((az.l1 m v2 v3 m eW (0:Int) s1).bind fun bZ=>match bZ with | (D9,x5,s3)=>(cj.f m s3 x0 x1).bind fun x6=>(app 8 aF ([x6.1])).bind fun x7=>az.l0 m k x7 D9 (i64.wrap (k0+(1:Int))) x6.2)) else ((cj.f m s1 x0 x1).bind fun x8=>(app 8 aF ([x8.1])).bind fun x9=>az.l0 m k x9 eW (i64.wrap (k0+(1:Int))) x8.2)) else ((cj.f m s1 x0 x1).bind fun kC=>(app 8 aF ([kC.1])).bind fun yK=>az.l0 m k yK eW (i64.wrap (k0+(1:Int))) kC.2))) else (some (.inr (aF,eW,k0,s1)))
def az.f (m:Nat)(s0:ab)(a0:Int)(b0:Int):Option ((List Int) × Bool × ab):=(az.l0 m m ([]:List Int) ([(a6.mk a0 b0)]) (0:Int) s0).bind fun dq=>match dq with | .inl r0=>some r0 | .inr (oE,La,k1,s4)=>some (oE,true,s4)
def az.fin (L:Mem)(ao:Nat)(ak:Nat)(an:Nat)(s0:ab)(a0:Int)(b0:Int)(r:(List Int) × Bool × ab)(s:St):Prop:=∃eR aB aC:Nat,aM Try.prog (s.open tT) Try.f31.results.toList=some (.tup [.rs eR 0 r.1.length 1,.bool r.2.1])∧Has s.h ((eR,.sl r.1.length 1 (af.l r.1))::(ao,.ob [.bool r.2.2.aj,.rs aB 0 r.2.2.aa.length 4,.rs aC 0 r.2.2.ae.length 1])::(aB,.sl r.2.2.aa.length 4 (ai.l r.2.2.aa))::(aC,.sl r.2.2.ae.length 1 (af.l r.2.2.ae))::L)
def N1 (cf:CallF)(m:Nat):Prop:=∀(s0:ab) (a0:Int) (b0:Int) (r:(List Int) × Bool × ab),az.f m s0 a0 b0=some r→∀h L (ao:Nat) (ak:Nat) (an:Nat),Has h ((ao,.ob [.bool s0.aj,.rs ak 0 s0.aa.length 4,.rs an 0 s0.ae.length 1])::(ak,.sl s0.aa.length 4 (ai.l s0.aa))::(an,.sl s0.ae.length 1 (af.l s0.ae))::L)→∀xs,xs.map aK=[.ptr ao 0,.int .i64 a0,.int .i64 b0]→∃eR aB aC h',cf 31 xs h=some (.tup [.rs eR 0 r.1.length 1,.bool r.2.1],h')∧Has h' ((eR,.sl r.1.length 1 (af.l r.1))::(ao,.ob [.bool r.2.2.aj,.rs aB 0 r.2.2.aa.length 4,.rs aC 0 r.2.2.ae.length 1])::(aB,.sl r.2.2.aa.length 4 (ai.l r.2.2.aa))::(aC,.sl r.2.2.ae.length 1 (af.l r.2.2.ae))::L)
section
variable {cf:CallF}{m:Nat}
theorem az.mj (L:Mem)(ao:Nat)(ak:Nat)(an:Nat)(s0:ab)(a0:Int)(b0:Int)(dV:Nat)(aF:List Int)(k0:Int)(dV:Nat)(x0:Int)(x1:Int)(v2:aq)(v3:aq)   : dS Try.prog cf tT m (sub [1,1,1,0,1,0,0,1,0,0,1,1,1,0,1,0,1,1,0,0] (b8 Try.f31)) (fun k (σ:(List a6) × Int × ab)=>az.l1 m v2 v3 k σ.1 σ.2.1 σ.2.2) (fun σ s=>match σ with | (jI,x3,s2)=>∃eS j9 hU h2,s=⟨.ptr ao 0::nh (.rs dV 0 aF.length 1 :: .rs eS 0 jI.length 2 :: .int .i64 k0 :: .lp 11 0 :: .lp 12 0 :: .lp 13 0::Fy [.int .i64 (v2.args.length:Int),.int .i64 x3,.any]),[some [.int .i64 x0,.int .i64 x1],some [.int .i64 v2.kind,.int .i64 v2.int,.str v2.label,af.fz v2.args],some [.int .i64 v3.kind,.int .i64 v3.int,.str v3.label,af.fz v3.args],none],h2⟩∧Has h2 ((eS,.sl jI.length 2 (dC.l jI))::(dV,.sl aF.length 1 (af.l aF))::(ao,.ob [.bool s2.aj,.rs j9 0 s2.aa.length 4,.rs hU 0 s2.ae.length 1])::(j9,.sl s2.aa.length 4 (ai.l s2.aa))::(hU,.sl s2.ae.length 1 (af.l s2.ae))::L)) (fun out e s=>(e = .exit 2∧∃jI x3 s2,(jI,x3,s2)=out∧∃N2 vf N3 N4 N5 N6 N7 eS j9 hU h2,s=⟨.ptr ao 0::nh (.rs dV 0 aF.length 1 :: .rs eS 0 jI.length 2 :: .int .i64 k0 :: .lp 11 0::N2::vf::Fy [N3,N4,N5]),[some [.int .i64 x0,.int .i64 x1],N6,N7,none],h2⟩∧Has h2 ((eS,.sl jI.length 2 (dC.l jI))::(dV,.sl aF.length 1 (af.l aF))::(ao,.ob [.bool s2.aj,.rs j9 0 s2.aa.length 4,.rs hU 0 s2.ae.length 1])::(j9,.sl s2.aa.length 4 (ai.l s2.aa))::(hU,.sl s2.ae.length 1 (af.l s2.ae))::L))):=by
 refine me (fun _=>rfl) ?_
 rintro k ⟨jI,x3,s2⟩ s out ⟨eS,j9,hU,h2,rfl,o4⟩ H
 have H:az.l1 m v2 v3 (k+1) jI x3 s2=some out:=H
 refine q1 <| qq <| qc H (fun c5 H=>?_) (fun c5 H=>?_)
 ·refine qk <| qq <| qb 3 <| qq <| q0 ?_
  obtain⟨v4,e8,H⟩:=bj H
  obtain⟨v5,e9,H⟩:=bj H
  obtain⟨x4,sY,H⟩:=bj H
  obtain⟨jc,h3,tS,o5⟩:=iD (P:=Try.prog) (E:=dC) (l:=jI) (q:=0) (t2:=93) (x:=.fz [.int .i64 v4,.int .i64 v5] 1 true) (l2:=([(a6.mk v4 v5)])) NB o4 rfl (by kernel_rfl) rfl sY
  exact qr [.v 4 (eA (k:=.i64) (E:=af) (l:=v2.args) fU e8),.v 5 (fu  (E:=af) (l:=v2.args) h2 A3 e8 rfl),.v 9 (eA (k:=.i64) (E:=af) (l:=v3.args) fU e9),.v 10 (fu  (E:=af) (l:=v3.args) h2 A3 e9 rfl),.a 13 tS] <| q0 <| ⟨(x4,i64.wrap (x3+(1:Int)),s2),⟨jc,j9,hU,h3,by kernel_rfl,o5⟩,H⟩
 ·exact qx 2 <| ⟨rfl,jI,x3,s2,oi H,.lp 12 0,.lp 13 0,.int .i64 (v2.args.length:Int),.int .i64 x3,.bool (decide (x3<(v2.args.length:Int))),some [.int .i64 v2.kind,.int .i64 v2.int,.str v2.label,af.fz v2.args],some [.int .i64 v3.kind,.int .i64 v3.int,.str v3.label,af.fz v3.args],eS,j9,hU,h2,by kernel_rfl,o4⟩
theorem az.dm (L:Mem)(ao:Nat)(ak:Nat)(an:Nat)(s0:ab)(a0:Int)(b0:Int)  (B3:L5 cf m)(IM:NH cf m)(Ea:NT cf m):dS Try.prog cf tT m (sub [1,1,1,0,1,0,0] (b8 Try.f31)) (fun k (σ:(List Int) × (List a6) × Int × ab)=>az.l0 m k σ.1 σ.2.1 σ.2.2.1 σ.2.2.2) (fun σ s=>match σ with | (aF,eW,k0,s1)=>∃eM dV cZ dZ h1,s=⟨.ptr ao 0::nh (.rs dV 0 aF.length 1 :: .rs eM 0 eW.length 2 :: .int .i64 k0::sV []),[none,none,none,none],h1⟩∧Has h1 ((eM,.sl eW.length 2 (dC.l eW))::(dV,.sl aF.length 1 (af.l aF))::(ao,.ob [.bool s1.aj,.rs cZ 0 s1.aa.length 4,.rs dZ 0 s1.ae.length 1])::(cZ,.sl s1.aa.length 4 (ai.l s1.aa))::(dZ,.sl s1.ae.length 1 (af.l s1.ae))::L)) (fun out e s=>(e = .exit 0∧∃aF eW k0 s1,.inr (aF,eW,k0,s1)=out∧∃oz B0 yO Eb eM dV cZ dZ h1,s=⟨oz::nh (.rs dV 0 aF.length 1::B0::yO::nh (Eb::wS [])),[none,none,none,none],h1⟩∧Has h1 ((eM,.sl eW.length 2 (dC.l eW))::(dV,.sl aF.length 1 (af.l aF))::(ao,.ob [.bool s1.aj,.rs cZ 0 s1.aa.length 4,.rs dZ 0 s1.ae.length 1])::(cZ,.sl s1.aa.length 4 (ai.l s1.aa))::(dZ,.sl s1.ae.length 1 (af.l s1.ae))::L))∨(e = .ret∧∃r,.inl r=out∧az.fin L ao ak an s0 a0 b0 r s)):=by
 refine me (fun _=>rfl) ?_
 rintro k ⟨aF,eW,k0,s1⟩ s out ⟨eM,dV,cZ,dZ,h1,rfl,o2⟩ H
 have H:az.l0 m (k+1) aF eW k0 s1=some out:=H
 refine qq <| qq <| q0 <| qc H (fun c0 H=>?_) (fun c0 H=>?_)
 ·refine qk <| qq <| qb 1 <| qq ?_
  obtain⟨v0,e1,H⟩:=bj H
  obtain⟨x0,e2,H⟩:=bj H
  obtain⟨v1,e3,H⟩:=bj H
  obtain⟨x1,e4,H⟩:=bj H
  refine KN [] [.v 3 (bo (k:=.i64) (E:=dC) (l:=eW) (q:=0) NB o2 rfl e1),.v 5 (zM  (E:=dC) (l:=eW) (q:=0) (off:=0) o2 rfl A3 e1 rfl),.a 6 (B3 _ _ _ e2 h1 _ (gp (ah (dM (q:=2) o2 rfl (ah (eU) (ah (dW (E:=ai) (l:=s1.aa) (q:=3) o2 rfl (fun _=>rfl)) (ah (dW (E:=af) (l:=s1.ae) (q:=4) o2 rfl (fun _=>rfl)) (ay))))) (ah (bz) (ay))))),.v 10 (bo (k:=.i64) (E:=dC) (l:=eW) (q:=0) NB o2 rfl e3),.v 12 (zM  (E:=dC) (l:=eW) (q:=0) (off:=1) o2 rfl A3 e3 rfl),.a 13 (B3 _ _ _ e4 h1 _ (gp (ah (dM (q:=2) o2 rfl (ah (eU) (ah (dW (E:=ai) (l:=s1.aa) (q:=3) o2 rfl (fun _=>rfl)) (ah (dW (E:=af) (l:=s1.ae) (q:=4) o2 rfl (fun _=>rfl)) (ay))))) (ah (bz) (ay)))))] [.mk (h:=h1) (h':=h1) (i:=eM) rfl] ?_
  refine qq <| qq <| qr [.v 6 (show lO Try.prog .eql 92 (.agg [.int .i64 x0,.int .i64 x1]) (.agg [.int .i64 x0,.int .i64 x0])=some (.bool ((x0==x0)&&(x1==x0))) from Gs ND)] <| qc H (fun c1 H=>?_) (fun c1 H=>?_)
  ·exact qx 1 <| q0 <| ⟨(aF,eW,i64.wrap (k0+(1:Int)),s1),⟨eM,dV,cZ,dZ,h1,by kernel_rfl,o2⟩,H⟩
  ·refine qk <| qq ?_
   obtain⟨v2,e5,H⟩:=bj H
   obtain⟨v3,e6,H⟩:=bj H
   refine qr [.v 3 (show bm Try.prog h1 40 (.ptr ao 1)=some (.rs cZ 0 s1.aa.length 4) from bW (q:=2) (cs:=[.bool s1.aj,.rs cZ 0 s1.aa.length 4,.rs dZ 0 s1.ae.length 1]) o2 rfl (by kernel_rfl)),.v 6 (bo (k:=.i64) (E:=ai) (l:=s1.aa) (q:=3) xS o2 rfl e5),.v 7 (uW  (E:=ai) (l:=s1.aa) (q:=3) o2 rfl Fz FA e5),.v 11 (show bm Try.prog h1 40 (.ptr ao 1)=some (.rs cZ 0 s1.aa.length 4) from bW (q:=2) (cs:=[.bool s1.aj,.rs cZ 0 s1.aa.length 4,.rs dZ 0 s1.ae.length 1]) o2 rfl (by kernel_rfl)),.v 14 (bo (k:=.i64) (E:=ai) (l:=s1.aa) (q:=3) xS o2 rfl e6),.v 15 (uW  (E:=ai) (l:=s1.aa) (q:=3) o2 rfl Fz FA e6)] <| qq <| qq ?_
   rcases iG H with⟨c2,H⟩| ⟨c2,H⟩
   ·refine qr [.b 3 c2] <| qc H (fun c3 H=>?_) (fun c3 H=>?_)
    ·refine qq <| qq ?_
     obtain⟨x2,e7,H⟩:=bj H
     refine qr [.a 2 (IM _ _ _ e7 h1 _ (gp (ah (jG (ah (bz) (ah (bz) (ah (cN) (ah (fy (E:=af)) (ay)))))) (ah (jG (ah (bz) (ah (bz) (ah (cN) (ah (fy (E:=af)) (ay)))))) (ay)))))] <| qc H (fun c4 H=>?_) (fun c4 H=>?_)
     ·refine q1 ?_
      have o3:Has h1 ((dV,.sl aF.length 1 (af.l aF))::(ao,.ob [.bool s1.aj,.rs cZ 0 s1.aa.length 4,.rs dZ 0 s1.ae.length 1])::(cZ,.sl s1.aa.length 4 (ai.l s1.aa))::(dZ,.sl s1.ae.length 1 (af.l s1.ae))::L):=Has.del o2 0
      exact qt <| Or.inr (⟨rfl,_,oi H,⟨dV,cZ,dZ,by kernel_rfl,he o3⟩⟩)
     ·refine qk <| qq <| q0 <| qb 2 ?_
      obtain⟨bZ,vI,H⟩:=bj H
      refine ql (az.mj L ao ak an s0 a0 b0 dV aF k0 dV x0 x1 v2 v3   (eW,(0:Int),s1) _ _ ⟨eM,cZ,dZ,h1,by kernel_rfl,o2⟩ vI) ?_
      rintro e s ⟨rfl,D9,x5,s3,rfl,g0,g1,g2,g3,g4,g5,g6,CE,fj,gR,h4,rfl,o6⟩
      try dsimp only at H
      obtain⟨x6,xT,H⟩:=bj H
      obtain⟨ld,mq,h5,Ad,o7⟩:=Ea _ _ _ _ xT h4 _ _ _ _ ((Has.front (Has.front (Has.front (Has.front (Has.front o6 1 rfl) 1 rfl) 4 rfl) 4 rfl) 4 rfl))  [.ptr ao 0,.int .i64 x0,.int .i64 x1] (ar (rfl) (ar (aL (bh)) (ar (aL (bh)) (bE))))
      obtain⟨x7,yP,H⟩:=bj H
      obtain⟨B4,h6,Ec,o8⟩:=iD (P:=Try.prog) (E:=af) (l:=aF) (q:=4) (t2:=33) (x:=.fz [.int .i64 x6.1] 1 true) (l2:=([x6.1])) fU o7 rfl (by kernel_rfl) rfl yP
      exact qr [.a 6 Ad,.a 8 Ec] <| q0 <| ⟨(x7,D9,i64.wrap (k0+(1:Int)),x6.2),⟨CE,B4,ld,mq,h6,by kernel_rfl,(Has.front (Has.front (Has.front (Has.front (Has.front o8 2 rfl) 2 rfl) 2 rfl) 4 rfl) 4 rfl)⟩,H⟩
    ·refine qk ?_
     obtain⟨x8,Ed,H⟩:=bj H
     obtain⟨yQ,qB,h7,GA,o9⟩:=Ea _ _ _ _ Ed h1 _ _ _ _ ((Has.front (Has.front (Has.front (Has.front (Has.front o2 1 rfl) 1 rfl) 4 rfl) 4 rfl) 4 rfl))  [.ptr ao 0,.int .i64 x0,.int .i64 x1] (ar (rfl) (ar (aL (bh)) (ar (aL (bh)) (bE))))
     obtain⟨x9,CF,H⟩:=bj H
     obtain⟨sh,h8,FB,xd⟩:=iD (P:=Try.prog) (E:=af) (l:=aF) (q:=4) (t2:=33) (x:=.fz [.int .i64 x8.1] 1 true) (l2:=([x8.1])) fU o9 rfl (by kernel_rfl) rfl CF
     exact qr [.a 6 GA,.a 8 FB] <| q0 <| ⟨(x9,eW,i64.wrap (k0+(1:Int)),x8.2),⟨eM,sh,yQ,qB,h8,by kernel_rfl,(Has.front (Has.front (Has.front (Has.front (Has.front xd 2 rfl) 2 rfl) 2 rfl) 4 rfl) 4 rfl)⟩,H⟩
   ·refine qr [.b 3 c2] <| DJ <| qk ?_
    obtain⟨kC,FC,H⟩:=bj H
    obtain⟨Ee,yR,h9,Hu,CG⟩:=Ea _ _ _ _ FC h1 _ _ _ _ ((Has.front (Has.front (Has.front (Has.front (Has.front o2 1 rfl) 1 rfl) 4 rfl) 4 rfl) 4 rfl))  [.ptr ao 0,.int .i64 x0,.int .i64 x1] (ar (rfl) (ar (aL (bh)) (ar (aL (bh)) (bE))))
    obtain⟨yK,Hv,H⟩:=bj H
    obtain⟨yS,h10,IN,CH⟩:=iD (P:=Try.prog) (E:=af) (l:=aF) (q:=4) (t2:=33) (x:=.fz [.int .i64 kC.1] 1 true) (l2:=([kC.1])) fU CG rfl (by kernel_rfl) rfl Hv
    exact qr [.a 6 Hu,.a 8 IN] <| q0 <| ⟨(yK,eW,i64.wrap (k0+(1:Int)),kC.2),⟨eM,yS,Ee,yR,h10,by kernel_rfl,(Has.front (Has.front (Has.front (Has.front (Has.front CH 2 rfl) 2 rfl) 2 rfl) 4 rfl) 4 rfl)⟩,H⟩
 ·exact qx 0 <| Or.inl (⟨rfl,aF,eW,k0,s1,oi H,.ptr ao 0,.rs eM 0 eW.length 2,.int .i64 k0,.bool (decide (k0<(eW.length:Int))),eM,dV,cZ,dZ,h1,by kernel_rfl,o2⟩)
theorem kF {aV:FuncId→bX}(ha:aV 31=tT)(B3:L5 cf m)(IM:NH cf m)(Ea:NT cf m)(s0:ab)(a0:Int)(b0:Int)(h:AHeap)(L:Mem)(ao:Nat)(ak:Nat)(an:Nat)  (o:Has h ((ao,.ob [.bool s0.aj,.rs ak 0 s0.aa.length 4,.rs an 0 s0.ae.length 1])::(ak,.sl s0.aa.length 4 (ai.l s0.aa))::(an,.sl s0.ae.length 1 (af.l s0.ae))::L)){out:(List Int) × Bool × ab}(H:az.f m s0 a0 b0=some out) :
  ∃r h',a7 Try.prog aV cf m 31 [.ptr ao 0,.int .i64 a0,.int .i64 b0] h=some (r,h')∧∃eR aB aC:Nat,r = .tup [.rs eR 0 out.1.length 1,.bool out.2.1]∧Has h' ((eR,.sl out.1.length 1 (af.l out.1))::(ao,.ob [.bool out.2.2.aj,.rs aB 0 out.2.2.aa.length 4,.rs aC 0 out.2.2.ae.length 1])::(aB,.sl out.2.2.aa.length 4 (ai.l out.2.2.aa))::(aC,.sl out.2.2.ae.length 1 (af.l out.2.2.ae))::L):=by
 refine au (fn:=Try.f31) ha Try.func31 (by kernel_rfl) (by kernel_rfl) ?_
 refine aH (Q:=fun s=>az.fin L ao ak an s0 a0 b0 out s) (fun _ _ ⟨h1,eR,aB,aC,h2,h3⟩=>⟨h1,_,h2,eR,aB,aC,rfl,h3⟩) ?_
 have H:_=some out:=H
 unfold az.f at H
 show dj _ cf tT m _ ⟨.ptr ao 0 :: .int .i64 a0 :: .int .i64 b0::Gf [],[none,none,none,none],h⟩ _
 refine q1 <| qq <| q0 ?_
 have o0:Has h (((0),.sl (([]:List Int).length) 1 (af.l ([]:List Int)))::(ao,.ob [.bool s0.aj,.rs ak 0 s0.aa.length 4,.rs an 0 s0.ae.length 1])::(ak,.sl s0.aa.length 4 (ai.l s0.aa))::(an,.sl s0.ae.length 1 (af.l s0.ae))::L):=Has.nil o 1
 refine qq ?_
 obtain⟨aJ,h0,e0,o1⟩:=Gb (E:=dC) (l:=[(a6.mk a0 b0)]) (cs:=[.int .i64 a0,.int .i64 b0]) o0 (by kernel_rfl)
 refine qr [.a 3 e0] <| qq <| qq <| q0 <| qb 0 ?_
 obtain⟨dq,Hw,H⟩:=bj H
 refine ql (az.dm L ao ak an s0 a0 b0  B3 IM Ea (([]:List Int),[(a6.mk a0 b0)],(0:Int),s0) _ _ ⟨aJ,(0),ak,an,h0,(V4 (b:=⟨.ptr ao 0::nh (.rs (0) 0 (([]:List Int).length) 1 :: .rs aJ 0 (([(a6.mk a0 b0)]:List a6).length) 2 :: .int .i64 (0:Int)::sV []),[none,none,none,none],h0⟩) (by kernel_rfl) (by simp only [UF])),(by have o:Has h0 ((aJ,.sl (([(a6.mk a0 b0)]:List a6).length) 2 (dC.l ([(a6.mk a0 b0)])))::((0),.sl (([]:List Int).length) 1 (af.l ([]:List Int)))::(ao,.ob [.bool s0.aj,.rs ak 0 s0.aa.length 4,.rs an 0 s0.ae.length 1])::(ak,.sl s0.aa.length 4 (ai.l s0.aa))::(an,.sl s0.ae.length 1 (af.l s0.ae))::L):=o1; simpa only [UF] using o)⟩ Hw) ?_
 rintro e s (⟨rfl,oE,La,k1,s4,rfl,g7,g8,g9,g10,Sq,Lb,IP,IQ,h11,rfl,s8⟩| ⟨rfl,r0,rfl,w7⟩)
 ·try dsimp only at H
  refine q1 ?_
  have s9:Has h11 ((Lb,.sl oE.length 1 (af.l oE))::(ao,.ob [.bool s4.aj,.rs IP 0 s4.aa.length 4,.rs IQ 0 s4.ae.length 1])::(IP,.sl s4.aa.length 4 (ai.l s4.aa))::(IQ,.sl s4.ae.length 1 (af.l s4.ae))::L):=Has.del s8 0
  obtain rfl:=oi H
  exact qt <| ⟨.inl rfl,⟨Lb,IP,IQ,by kernel_rfl,he s9⟩⟩
 ·try dsimp only at H
  obtain rfl:=oi H
  exact⟨.inl rfl,w7⟩
end
end Go.Proofs.Ytifafejidnjckaa
namespace Go.Proofs.Ytifafejidnjckaa
open Go Go.R
open Go.IntKind (i64 u64 u8 u32)
def Av:bX:=gQ [0,1,2,4,5] [] [25,9,11,15,15,23] [] []
def cr.f (m:Nat)(s0:ab)(aF:List Int):Option ((List Int)):=(CB 8 (aF.length:Int) (0:Int)).bind fun x0=>(KP x0 aF).bind fun Qn=>(dF.f m Qn (fun y0=>cP.f m y0 s0)).bind fun x1=>some (kB x1)
def cr.fin (L:Mem)  (r:(List Int))(s:St):Prop:=∃eR:Nat,aM Try.prog (s.open Av) Try.f33.results.toList=some (.rs eR 0 r.length 1)∧Has s.h ((eR,.sl r.length 1 (af.l r))::L)
def N8 (cf:CallF)(m:Nat):Prop:=∀(s0:ab) (aF:List Int) (r:(List Int)),cr.f m s0 aF=some r→∀h L xs,Has h L→aO bO h xs [.fp [.bool s0.aj,ai.fz s0.aa,af.fz s0.ae] 0,af.fz aF]→∃eR h',cf 33 xs h=some (.rs eR 0 r.length 1,h')∧Has h' ((eR,.sl r.length 1 (af.l r))::L)∧∀j,j<h.next→h.ver j=h'.ver j
section
variable {cf:CallF}{m:Nat}
theorem lf {aV:FuncId→bX}(ha:aV 33=Av)(N9:Qg cf m)(Oa:Qh cf m)(Ob:PY cf m)(s0:ab)(aF:List Int)(h:AHeap)(L:Mem)  (o:Has h (L)){out:(List Int)}(H:cr.f m s0 aF=some out) :
  ∃r h',a7 Try.prog aV cf m 33 [.fp [.bool s0.aj,ai.fz s0.aa,af.fz s0.ae] 0,af.fz aF] h=some (r,h')∧∃eR:Nat,r = .rs eR 0 out.length 1∧Has h' ((eR,.sl out.length 1 (af.l out))::L):=by
 refine au (fn:=Try.f33) ha Try.func33 (by kernel_rfl) (by kernel_rfl) ?_
 refine aH (Q:=fun s=>cr.fin L out s) (fun _ _ ⟨h1,eR,h2,h3⟩=>⟨h1,_,h2,eR,rfl,h3⟩) ?_
 have H:_=some out:=H
 unfold cr.f at H
 show dj _ cf Av m _ ⟨.fp [.bool s0.aj,ai.fz s0.aa,af.fz s0.ae] 0::af.fz aF::sJ [],[],h⟩ _
 refine qq ?_
 obtain⟨aJ,h0,e0,o0⟩:=gk (cs:=[.fp [.bool s0.aj,ai.fz s0.aa,af.fz s0.ae] 0]) o (by kernel_rfl)
 refine qr [.a 0 e0] <| qq ?_
 obtain⟨x0,e1,H⟩:=bj H
 obtain⟨dV,h1,e2,o1⟩:=uV (P:=Try.prog) (E:=af) (z:=(0:Int)) (zv:=.int .i64 (0:Int)) fU o0 3 rfl rfl rfl rfl e1
 refine qr [.a 2 e2] <| qq ?_
 obtain⟨Qn,e3,H⟩:=bj H
 obtain⟨h2,e4,o2⟩:=Gr (P:=Try.prog) (E:=af) (l:=x0) (s:=aF) (q:=0) (t2:=33) fU o1 rfl (Iz (E:=af)) rfl (KQ _) e3
 refine qr [.a 2 e4] <| qq ?_
 obtain⟨x1,e5,H⟩:=bj H
 obtain⟨h3,e6,o3⟩:=N9 _ _ _ e5 h2 _ _ _ (o2) 58 [.ptr aJ 0] [.fp [.fp [.bool s0.aj,ai.fz s0.aa,af.fz s0.ae] 0] 0] rfl (fun h' sZ y0 r hr hx=>Oa y0 _ r hr h' sZ hx) (fun h' K' o'=>iJ (ah (dM (q:=(K'.length+0)) o' (jg rfl) (ah (gf (pure_cons (dI) (pure_cons (bL.bD (E:=ai) (l:=s0.aa)) (pure_cons (bL.bD (E:=af) (l:=s0.ae)) (pure_nil))))) (ay))) (ay))) (fun h_=>iJ (ah (gf (pure_cons (kZ (pure_cons (dI) (pure_cons (bL.bD (E:=ai) (l:=s0.aa)) (pure_cons (bL.bD (E:=af) (l:=s0.ae)) (pure_nil))))) (pure_nil))) (ay))) [.rs dV 0 x0.length 1,.fn 58 [.ptr aJ 0]] (ar (rfl) (ar (rfl) (bE)))
 refine qr [.a 2 e6] ?_
 have o4:Has h3 ((dV,.sl x1.length 1 (af.l x1))::L):=Has.del o3 1
 refine qq ?_
 obtain⟨h4,e7,o5⟩:=It (l:=x1) Ob o4
 obtain rfl:=oi H
 exact qr [.a 1 e7] <| qq <| q0 <| qt <| ⟨.inl rfl,⟨dV,by rw [mO]; kernel_rfl,he (by simpa only [mO] using o5)⟩⟩
end
end Go.Proofs.Ytifafejidnjckaa
namespace Go.Proofs.Ytifafejidnjckaa
open Go Go.R
open Go.IntKind (i64 u64 u8 u32)
def Aw:bX:=gQ [0,1,2,4,5,6,7] [] [102,31] [] []
def dQ.f (m:Nat)(s0:ab)(cb:ByteArray)(n0:Int):Option (Int × Int × ab):=(bY.f m s0 (cE.f m cb n0) (aq.mk (4:Int) n0 cb ([]))).bind fun x0=>some (x0.1,x0.2.1,x0.2.2)
def dQ.fin (L:Mem)(ao:Nat)(ak:Nat)(an:Nat)(s0:ab)(cb:ByteArray)(n0:Int)(r:Int × Int × ab)(s:St):Prop:=∃aB aC:Nat,aM Try.prog (s.open Aw) Try.f35.results.toList=some (.tup [.int .i64 r.1,.int .i64 r.2.1])∧Has s.h ((ao,.ob [.bool r.2.2.aj,.rs aB 0 r.2.2.aa.length 4,.rs aC 0 r.2.2.ae.length 1])::(aB,.sl r.2.2.aa.length 4 (ai.l r.2.2.aa))::(aC,.sl r.2.2.ae.length 1 (af.l r.2.2.ae))::L)
def Qo (cf:CallF)(m:Nat):Prop:=∀(s0:ab) (cb:ByteArray) (n0:Int) (r:Int × Int × ab),dQ.f m s0 cb n0=some r→∀h L (ao:Nat) (ak:Nat) (an:Nat),Has h ((ao,.ob [.bool s0.aj,.rs ak 0 s0.aa.length 4,.rs an 0 s0.ae.length 1])::(ak,.sl s0.aa.length 4 (ai.l s0.aa))::(an,.sl s0.ae.length 1 (af.l s0.ae))::L)→∀xs,xs.map aK=[.ptr ao 0,.str cb,.int .i64 n0]→∃aB aC h',cf 35 xs h=some (.tup [.int .i64 r.1,.int .i64 r.2.1],h')∧Has h' ((ao,.ob [.bool r.2.2.aj,.rs aB 0 r.2.2.aa.length 4,.rs aC 0 r.2.2.ae.length 1])::(aB,.sl r.2.2.aa.length 4 (ai.l r.2.2.aa))::(aC,.sl r.2.2.ae.length 1 (af.l r.2.2.ae))::L)
section
variable {cf:CallF}{m:Nat}
theorem lJ {aV:FuncId→bX}(ha:aV 35=Aw)(vj:JO cf m)(Oc:Qi cf m)(s0:ab)(cb:ByteArray)(n0:Int)(h:AHeap)(L:Mem)(ao:Nat)(ak:Nat)(an:Nat)  (o:Has h ((ao,.ob [.bool s0.aj,.rs ak 0 s0.aa.length 4,.rs an 0 s0.ae.length 1])::(ak,.sl s0.aa.length 4 (ai.l s0.aa))::(an,.sl s0.ae.length 1 (af.l s0.ae))::L)){out:Int × Int × ab}(H:dQ.f m s0 cb n0=some out) :
  ∃r h',a7 Try.prog aV cf m 35 [.ptr ao 0,.str cb,.int .i64 n0] h=some (r,h')∧∃aB aC:Nat,r = .tup [.int .i64 out.1,.int .i64 out.2.1]∧Has h' ((ao,.ob [.bool out.2.2.aj,.rs aB 0 out.2.2.aa.length 4,.rs aC 0 out.2.2.ae.length 1])::(aB,.sl out.2.2.aa.length 4 (ai.l out.2.2.aa))::(aC,.sl out.2.2.ae.length 1 (af.l out.2.2.ae))::L):=by
 refine au (fn:=Try.f35) ha Try.func35 (by kernel_rfl) (by kernel_rfl) ?_
 refine aH (Q:=fun s=>dQ.fin L ao ak an s0 cb n0 out s) (fun _ _ ⟨h1,aB,aC,h2,h3⟩=>⟨h1,_,h2,aB,aC,rfl,h3⟩) ?_
 have H:_=some out:=H
 unfold dQ.f at H
 show dj _ cf Aw m _ ⟨.ptr ao 0 :: .str cb :: .int .i64 n0::nh [],[],h⟩ _
 refine qq ?_
 obtain⟨aJ,h0,e0,o0⟩:=gk (cs:=[.str cb]) o (by kernel_rfl)
 obtain⟨dV,h1,e1,o1⟩:=gk (cs:=[.int .i64 n0]) o0 (by kernel_rfl)
 refine qr [.a 0 e0,.a 1 e1] <| qq ?_
 obtain⟨x0,e2,H⟩:=bj H
 obtain⟨eM,cZ,h2,e3,o2⟩:=vj _ _ _ _ e2 h1 _ _ _ _ ((Has.front (Has.front (Has.front (Has.front (Has.front o1 1 rfl) 1 rfl) 4 rfl) 4 rfl) 4 rfl)) 63 [.ptr aJ 0,.ptr dV 0] [.fp [.str cb] 0,.fp [.int .i64 n0] 0] rfl (fun h' sZ  r hr hx=>Oc _ _ r hr h' sZ hx) (fun h' K' o'=>iJ (ah (dM (q:=(K'.length+4)) o' (jg rfl) (ah (cN) (ay))) (ah (dM (q:=(K'.length+3)) o' (jg rfl) (ah (bz) (ay))) (ay)))) (fun h_=>iJ (ah (gf (pure_cons (mb) (pure_nil))) (ah (gf (pure_cons (fZ) (pure_nil))) (ay)))) [.ptr ao 0,.fn 63 [.ptr aJ 0,.ptr dV 0],.agg [.int .i64 (4:Int),.int .i64 n0,.str cb,.nils]] (ar (rfl) (ar (rfl) (ar (aL (nC (cp (bh) (cp (bh) (cp (kX) (cp (qW (E:=af)) (nB))))))) (bE))))
 refine qr [.v 2 (show bm Try.prog h1 9 (.ptr aJ 0)=some (.str cb) from bW (q:=1) (cs:=[.str cb]) o1 rfl (by kernel_rfl)),.v 3 (show bm Try.prog h1 3 (.ptr dV 0)=some (.int .i64 n0) from bW (q:=0) (cs:=[.int .i64 n0]) o1 rfl (by kernel_rfl)),.a 5 e3] ?_
 have o3:Has h2 ((ao,.ob [.bool x0.2.2.aj,.rs eM 0 x0.2.2.aa.length 4,.rs cZ 0 x0.2.2.ae.length 1])::(eM,.sl x0.2.2.aa.length 4 (ai.l x0.2.2.aa))::(cZ,.sl x0.2.2.ae.length 1 (af.l x0.2.2.ae))::(dV,.ob [.int .i64 n0])::L):=Has.del o2 4
 have o4:Has h2 ((ao,.ob [.bool x0.2.2.aj,.rs eM 0 x0.2.2.aa.length 4,.rs cZ 0 x0.2.2.ae.length 1])::(eM,.sl x0.2.2.aa.length 4 (ai.l x0.2.2.aa))::(cZ,.sl x0.2.2.ae.length 1 (af.l x0.2.2.ae))::L):=Has.del o3 3
 obtain rfl:=oi H
 exact qt <| ⟨.inl rfl,⟨eM,cZ,by kernel_rfl,he o4⟩⟩
end
end Go.Proofs.Ytifafejidnjckaa
namespace Go.Proofs.Ytifafejidnjckaa
open Go Go.R
open Go.IntKind (i64 u64 u8 u32)
def Ax:bX:=gQ [0,2] [] [2,1] [] []
def fA.f (m:Nat)(s0:ByteArray):Option (Bool):=if (s0.data.toList==(Vk #[124]).data.toList)=true then (some true) else (if (s0.data.toList==(Vk #[35]).data.toList)=true then (some true) else ((cH.f m s0 (97:Int) (122:Int)).bind fun x0=>some x0))
def fA.fin (L:Mem)(r:Bool)(s:St):Prop:=∃av,aM Try.prog (s.open Ax) Try.f50.results.toList=some av∧ff s.h av (.bool r)
def L9 (cf:CallF)(m:Nat):Prop:=∀(s0:ByteArray) (r:Bool),fA.f m s0=some r→∀h xs,aO bO h xs [.str s0]→cf 50 xs h=some (.bool r,h)
section
variable {cf:CallF}{m:Nat}
theorem si {aV:FuncId→bX}(ha:aV 50=Ax)(Od:Qk cf m)(s0:ByteArray)(h:AHeap)(L:Mem)  (o:Has h (L)){out:Bool}(H:fA.f m s0=some out) :
  ∃r h',a7 Try.prog aV cf m 50 [.str s0] h=some (r,h')∧ff h' r (.bool out):=by
 refine au (fn:=Try.f50) ha Try.func50 (by kernel_rfl) (by kernel_rfl) ?_
 refine aH (Q:=fun s=>fA.fin L out s) (fun _ _ h=>h) ?_
 have H:_=some out:=H
 unfold fA.f at H
 show dj _ cf Ax m _ ⟨[.str s0,.any],[],h⟩ _
 refine q1 <| qq ?_
 rcases iG H with⟨c0,H⟩| ⟨c0,H⟩
 ·obtain rfl:=oi H
  exact qr [.b 2 c0] <| qt <| ⟨.inl rfl,dy (.bool true) h (dw (aD))⟩
 ·rcases iG H with⟨c1,H⟩| ⟨c1,H⟩
  ·obtain rfl:=oi H
   exact qr [.b 2 c0,.b 6 c1] <| qt <| ⟨.inl rfl,dy (.bool true) h (dw (aD))⟩
  ·obtain⟨x0,e0,H⟩:=bj H
   obtain rfl:=oi H
   exact qr [.b 2 c0,.b 6 c1,.a 8 (Od _ _ _ _ e0 h _ (gp (ah (cN) (ah (bz) (ah (bz) (ay))))))] <| qt <| ⟨.inl rfl,dy (.bool x0) h (dw (aD))⟩
end
end Go.Proofs.Ytifafejidnjckaa
namespace Go.Proofs.Ytifafejidnjckaa
open Go Go.R
open Go.IntKind (i64 u64 u8 u32)
def Ay:bX:=gQ [0,1,2,3] [] [8,7] [] []
def ck.f (m:Nat)(x0:ByteArray)(x1:List Int)(x2:ab):Option (Bool):=(fA.f m x0).bind fun x3=>if x3=true then (if (decide ((x1.length:Int)≥(1:Int)))=true then (if (decide ((x1.length:Int)≤(8:Int)))=true then ((ei.f m x1 (fun y0=>cm.f m y0 x2)).bind fun x4=>some (!x4)) else (some false)) else (some false)) else (some false)
def ck.fin (L:Mem)(r:Bool)(s:St):Prop:=∃av,aM Try.prog (s.open Ay) Try.f61.results.toList=some av∧ff s.h av (.bool r)
def Qp (cf:CallF)(m:Nat):Prop:=∀(x0:ByteArray) (x1:List Int) (x2:ab) (r:Bool),ck.f m x0 x1 x2=some r→∀h xs,aO bO h xs [.fp [.str x0] 0,.fp [af.fz x1] 0,.fp [.fp [.bool x2.aj,ai.fz x2.aa,af.fz x2.ae] 0] 0]→cf 61 xs h=some (.bool r,h)
section
variable {cf:CallF}{m:Nat}
theorem kg {aV:FuncId→bX}(ha:aV 61=Ay)(pz:L9 cf m)(D8:L7 cf m)(Oe:P7 cf m)(x0:ByteArray)(x1:List Int)(x2:ab)(h:AHeap)(L:Mem)  (o:Has h (L)){out:Bool}(H:ck.f m x0 x1 x2=some out) :
  ∃r h',a7 Try.prog aV cf m 61 [.fp [.str x0] 0,.fp [af.fz x1] 0,.fp [.fp [.bool x2.aj,ai.fz x2.aa,af.fz x2.ae] 0] 0] h=some (r,h')∧ff h' r (.bool out):=by
 refine au (fn:=Try.f61) ha Try.func61 (by kernel_rfl) (by kernel_rfl) ?_
 refine aH (Q:=fun s=>ck.fin L out s) (fun _ _ h=>h) ?_
 have H:_=some out:=H
 unfold ck.f at H
 show dj _ cf Ay m _ ⟨[.fp [.str x0] 0,.fp [af.fz x1] 0,.fp [.fp [.bool x2.aj,ai.fz x2.aa,af.fz x2.ae] 0] 0,.any],[],h⟩ _
 refine q1 <| qq ?_
 obtain⟨x3,e0,H⟩:=bj H
 rcases iG H with⟨c0,H⟩| ⟨c0,H⟩
 ·rcases iG H with⟨c1,H⟩| ⟨c1,H⟩
  ·rcases iG H with⟨c2,H⟩| ⟨c2,H⟩
   ·obtain⟨x4,e1,H⟩:=bj H
    obtain rfl:=oi H
    exact qr [.a 1 (pz _ _ e0 h _ (gp (ah (cN) (ay)))),.b 2 c0,.b 7 c1,.b 12 c2,.a 15 (D8 _ _ _ e1 62 [.fp [.fp [.bool x2.aj,ai.fz x2.aa,af.fz x2.ae] 0] 0] (fun h' sZ y0 r hr hx=>Oe y0 _ r hr h' sZ hx) (fun h_=>iJ (ah (gf (pure_cons (kZ (pure_cons (dI) (pure_cons (bL.bD (E:=ai) (l:=x2.aa)) (pure_cons (bL.bD (E:=af) (l:=x2.ae)) (pure_nil))))) (pure_nil))) (ay))) h _ (gp (ah (fy (E:=af)) (ah (sb (ah (gf (pure_cons (kZ (pure_cons (dI) (pure_cons (bL.bD (E:=ai) (l:=x2.aa)) (pure_cons (bL.bD (E:=af) (l:=x2.ae)) (pure_nil))))) (pure_nil))) (ay))) (ay)))))] <| qt <| ⟨.inl rfl,dy (.bool (!x4)) h (dw (aD))⟩
   ·obtain rfl:=oi H
    exact qr [.a 1 (pz _ _ e0 h _ (gp (ah (cN) (ay)))),.b 2 c0,.b 7 c1,.b 12 c2] <| qt <| ⟨.inl rfl,dy (.bool false) h (dw (aD))⟩
  ·obtain rfl:=oi H
   exact qr [.a 1 (pz _ _ e0 h _ (gp (ah (cN) (ay)))),.b 2 c0,.b 7 c1] <| qt <| ⟨.inl rfl,dy (.bool false) h (dw (aD))⟩
 ·obtain rfl:=oi H
  exact qr [.a 1 (pz _ _ e0 h _ (gp (ah (cN) (ay)))),.b 2 c0] <| qt <| ⟨.inl rfl,dy (.bool false) h (dw (aD))⟩
end
end Go.Proofs.Ytifafejidnjckaa
namespace Go.Proofs.Ytifafejidnjckaa
open Go Go.R
open Go.IntKind (i64 u64 u8 u32)
def Az:bX:=gQ [0,1,2,3,4,6,7,23,44,60,89] [2] [2035,2003,1939,2031,1875,2031,1747,2031,1491,2031,1019,2031,2031] [] []
def ik.f (m:Nat)(n0:aq)(lz:Int):Option (Bool):=if (n0.kind==(0:Int))=true then (if (decide (n0.int≥(0:Int)))=true then (if (n0.label.data.toList==(Vk #[]).data.toList)=true then (some ((n0.args.length:Int)==(0:Int))) else (some false)) else (some false)) else (if (n0.kind==(1:Int))=true then (if (decide (n0.int≥(-1099511627776:Int)))=true then (if (decide (n0.int≤(1099511627776:Int)))=true then (if (n0.label.data.toList==(Vk #[]).data.toList)=true then (some ((n0.args.length:Int)==(0:Int))) else (some false)) else (some false)) else (some false)) else (if (n0.kind==(2:Int))=true then (if (n0.int==(0:Int))=true then ((fA.f m n0.label).bind fun x0=>if x0=true then (some ((n0.args.length:Int)==(0:Int))) else (some false)) else (some false)) else (if (n0.kind==(3:Int))=true then (if (n0.int==(0:Int))=true then ((fA.f m n0.label).bind fun x1=>if x1=true then (if (decide ((n0.args.length:Int)≥(1:Int)))=true then (if (decide ((n0.args.length:Int)≤(8:Int)))=true then ((ei.f m n0.args (fun y0=>gD.f m y0 lz)).bind fun x2=>some (!x2)) else (some false)) else (some false)) else (some false)) else (some false)) else (if (n0.kind==(4:Int))=true then (if (decide (n0.int≥(0:Int)))=true then ((fP.f m n0.label).bind fun x3=>if x3=true then (some ((n0.args.length:Int)==(0:Int))) else (some false)) else (some false)) else (some false)))))
def ik.fin (L:Mem)(r:Bool)(s:St):Prop:=∃av,aM Try.prog (s.open Az) Try.f67.results.toList=some av∧ff s.h av (.bool r)
def Qq (cf:CallF)(m:Nat):Prop:=∀(n0:aq) (lz:Int) (r:Bool),ik.f m n0 lz=some r→∀h xs,aO bO h xs [.agg [.int .i64 n0.kind,.int .i64 n0.int,.str n0.label,af.fz n0.args],.int .i64 lz]→cf 67 xs h=some (.bool r,h)
section
variable {cf:CallF}{m:Nat}
theorem sj {aV:FuncId→bX}(ha:aV 67=Az)(pz:L9 cf m)(D8:L7 cf m)(D6:NJ cf m)(Of:P9 cf m)(n0:aq)(lz:Int)(h:AHeap)(L:Mem)  (o:Has h (L)){out:Bool}(H:ik.f m n0 lz=some out) :
  ∃r h',a7 Try.prog aV cf m 67 [.agg [.int .i64 n0.kind,.int .i64 n0.int,.str n0.label,af.fz n0.args],.int .i64 lz] h=some (r,h')∧ff h' r (.bool out):=by
 refine au (fn:=Try.f67) ha Try.func67 (by kernel_rfl) (by kernel_rfl) ?_
 refine aH (Q:=fun s=>ik.fin L out s) (fun _ _ h=>h) ?_
 have H:_=some out:=H
 unfold ik.f at H
 show dj _ cf Az m _ ⟨.agg [.int .i64 n0.kind,.int .i64 n0.int,.str n0.label,af.fz n0.args] :: .int .i64 lz::Sc [],[none],h⟩ _
 refine qq ?_
 obtain⟨aJ,h0,e0,o0⟩:=gk (cs:=[.int .i64 lz]) o (by kernel_rfl)
 refine qr [.a 1 e0] <| qq <| qq <| q0 <| qb 0 <| qq <| q0 <| qc H (fun c0 H=>?_) (fun c0 H=>?_)
 ·refine qq ?_
  rcases iG H with⟨c1,H⟩| ⟨c1,H⟩
  ·rcases iG H with⟨c2,H⟩| ⟨c2,H⟩
   ·refine qr [.b 3 c1,.b 8 c2] ?_
    have o1:Has h0 (L):=Has.del o0 0
    obtain rfl:=oi H
    exact qt <| ⟨.inl rfl,dy (.bool ((n0.args.length:Int)==(0:Int))) h0 (dw (aD))⟩
   ·refine qr [.b 3 c1,.b 8 c2] ?_
    have o2:Has h0 (L):=Has.del o0 0
    obtain rfl:=oi H
    exact qt <| ⟨.inl rfl,dy (.bool false) h0 (dw (aD))⟩
  ·refine qr [.b 3 c1] ?_
   have o3:Has h0 (L):=Has.del o0 0
   obtain rfl:=oi H
   exact qt <| ⟨.inl rfl,dy (.bool false) h0 (dw (aD))⟩
 ·refine q1 <| qc H (fun c3 H=>?_) (fun c3 H=>?_)
  ·refine qq ?_
   rcases iG H with⟨c4,H⟩| ⟨c4,H⟩
   ·rcases iG H with⟨c5,H⟩| ⟨c5,H⟩
    ·rcases iG H with⟨c6,H⟩| ⟨c6,H⟩
     ·refine qr [.b 3 c4,.b 8 c5,.b 13 c6] ?_
      have o4:Has h0 (L):=Has.del o0 0
      obtain rfl:=oi H
      exact qt <| ⟨.inl rfl,dy (.bool ((n0.args.length:Int)==(0:Int))) h0 (dw (aD))⟩
     ·refine qr [.b 3 c4,.b 8 c5,.b 13 c6] ?_
      have o5:Has h0 (L):=Has.del o0 0
      obtain rfl:=oi H
      exact qt <| ⟨.inl rfl,dy (.bool false) h0 (dw (aD))⟩
    ·refine qr [.b 3 c4,.b 8 c5] ?_
     have o6:Has h0 (L):=Has.del o0 0
     obtain rfl:=oi H
     exact qt <| ⟨.inl rfl,dy (.bool false) h0 (dw (aD))⟩
   ·refine qr [.b 3 c4] ?_
    have o7:Has h0 (L):=Has.del o0 0
    obtain rfl:=oi H
    exact qt <| ⟨.inl rfl,dy (.bool false) h0 (dw (aD))⟩
  ·refine q1 <| qc H (fun c7 H=>?_) (fun c7 H=>?_)
   ·refine qq ?_
    rcases iG H with⟨c8,H⟩| ⟨c8,H⟩
    ·obtain⟨x0,e1,H⟩:=bj H
     rcases iG H with⟨c9,H⟩| ⟨c9,H⟩
     ·refine qr [.b 3 c8,.a 6 (pz _ _ e1 h0 _ (gp (ah (cN) (ay)))),.b 8 c9] ?_
      have o8:Has h0 (L):=Has.del o0 0
      obtain rfl:=oi H
      exact qt <| ⟨.inl rfl,dy (.bool ((n0.args.length:Int)==(0:Int))) h0 (dw (aD))⟩
     ·refine qr [.b 3 c8,.a 6 (pz _ _ e1 h0 _ (gp (ah (cN) (ay)))),.b 8 c9] ?_
      have o9:Has h0 (L):=Has.del o0 0
      obtain rfl:=oi H
      exact qt <| ⟨.inl rfl,dy (.bool false) h0 (dw (aD))⟩
    ·refine qr [.b 3 c8] ?_
     have xd:Has h0 (L):=Has.del o0 0
     obtain rfl:=oi H
     exact qt <| ⟨.inl rfl,dy (.bool false) h0 (dw (aD))⟩
   ·refine q1 <| qc H (fun Gx H=>?_) (fun Gx H=>?_)
    ·refine qq ?_
     rcases iG H with⟨yL,H⟩| ⟨yL,H⟩
     ·obtain⟨x1,e2,H⟩:=bj H
      rcases iG H with⟨D3,H⟩| ⟨D3,H⟩
      ·rcases iG H with⟨Gy,H⟩| ⟨Gy,H⟩
       ·rcases iG H with⟨D4,H⟩| ⟨D4,H⟩
        ·obtain⟨x2,e3,H⟩:=bj H
         refine qr [.b 3 yL,.a 6 (pz _ _ e2 h0 _ (gp (ah (cN) (ay)))),.b 8 D3,.b 14 Gy,.b 20 D4,.a 24 (D8 _ _ _ e3 79 [.fp [.int .i64 lz] 0] (fun h' sZ y0 r hr hx=>Of y0 _ r hr h' sZ hx) (fun h_=>iJ (ah (gf (pure_cons (fZ) (pure_nil))) (ay))) h0 _ (gp (ah (fy (E:=af)) (ah (sb (ah (dM (q:=0) o0 rfl (ah (bz) (ay))) (ay))) (ay)))))] ?_
         have CG:Has h0 (L):=Has.del o0 0
         obtain rfl:=oi H
         exact qt <| ⟨.inl rfl,dy (.bool (!x2)) h0 (dw (aD))⟩
        ·refine qr [.b 3 yL,.a 6 (pz _ _ e2 h0 _ (gp (ah (cN) (ay)))),.b 8 D3,.b 14 Gy,.b 20 D4] ?_
         have CH:Has h0 (L):=Has.del o0 0
         obtain rfl:=oi H
         exact qt <| ⟨.inl rfl,dy (.bool false) h0 (dw (aD))⟩
       ·refine qr [.b 3 yL,.a 6 (pz _ _ e2 h0 _ (gp (ah (cN) (ay)))),.b 8 D3,.b 14 Gy] ?_
        have s8:Has h0 (L):=Has.del o0 0
        obtain rfl:=oi H
        exact qt <| ⟨.inl rfl,dy (.bool false) h0 (dw (aD))⟩
      ·refine qr [.b 3 yL,.a 6 (pz _ _ e2 h0 _ (gp (ah (cN) (ay)))),.b 8 D3] ?_
       have s9:Has h0 (L):=Has.del o0 0
       obtain rfl:=oi H
       exact qt <| ⟨.inl rfl,dy (.bool false) h0 (dw (aD))⟩
     ·refine qr [.b 3 yL] ?_
      have Ef:Has h0 (L):=Has.del o0 0
      obtain rfl:=oi H
      exact qt <| ⟨.inl rfl,dy (.bool false) h0 (dw (aD))⟩
    ·refine q1 ?_
     have yT:Has h0 (L):=Has.del o0 0
     refine qc H (fun Og H=>?_) (fun Og H=>?_)
     ·refine qq ?_
      rcases iG H with⟨Ma,H⟩| ⟨Ma,H⟩
      ·obtain⟨x3,e4,H⟩:=bj H
       rcases iG H with⟨IS,H⟩| ⟨IS,H⟩
       ·obtain rfl:=oi H
        exact qr [.b 3 Ma,.a 6 (D6 _ _ e4 h0 _ (gp (ah (cN) (ay)))),.b 8 IS] <| qt <| ⟨.inl rfl,dy (.bool ((n0.args.length:Int)==(0:Int))) h0 (dw (aD))⟩
       ·obtain rfl:=oi H
        exact qr [.b 3 Ma,.a 6 (D6 _ _ e4 h0 _ (gp (ah (cN) (ay)))),.b 8 IS] <| qt <| ⟨.inl rfl,dy (.bool false) h0 (dw (aD))⟩
      ·obtain rfl:=oi H
       exact qr [.b 3 Ma] <| qt <| ⟨.inl rfl,dy (.bool false) h0 (dw (aD))⟩
     ·obtain rfl:=oi H
      exact qk <| qq <| q0 <| qt <| ⟨.inl rfl,dy (.bool false) h0 (dw (aD))⟩
end
end Go.Proofs.Ytifafejidnjckaa
namespace Go.Proofs.Ytifafejidnjckaa
open Go Go.R
open Go.IntKind (i64 u64 u8 u32)
def AA:bX:=gQ [0,1,2,3,4,5,16] [2,3] [115,83,111,51,111,111] [] []
def dh.f (m:Nat)(a0:aq)(b0:aq):Option (Int):=if (!(a0.kind==b0.kind))=true then ((cF.f m a0.kind b0.kind).bind fun x0=>some x0) else (if (a0.kind==(3:Int))=true then ((cF.f m (a0.args.length:Int) (b0.args.length:Int)).bind fun x1=>(ca.f m a0.label b0.label).bind fun x2=>(b5.f m ([x1,x2])).bind fun x3=>some x3) else ((ca.f m a0.label b0.label).bind fun x4=>(cF.f m a0.int b0.int).bind fun x5=>(b5.f m ([x4,x5])).bind fun x6=>some x6))
def dh.fin (L:Mem)(r:Int)(s:St):Prop:=∃av,aM Try.prog (s.open AA) Try.f70.results.toList=some av∧ff s.h av (.int .i64 r)
def Mb (cf:CallF)(m:Nat):Prop:=∀(a0:aq) (b0:aq) (r:Int),dh.f m a0 b0=some r→∀h xs,aO bO h xs [.agg [.int .i64 a0.kind,.int .i64 a0.int,.str a0.label,af.fz a0.args],.agg [.int .i64 b0.kind,.int .i64 b0.int,.str b0.label,af.fz b0.args]]→cf 70 xs h=some (.int .i64 r,h)
section
variable {cf:CallF}{m:Nat}
theorem mr {aV:FuncId→bX}(ha:aV 70=AA)(IT:Ql cf m)(Lc:Qa cf m)(Ld:Qm cf m)(a0:aq)(b0:aq)(h:AHeap)(L:Mem)  (o:Has h (L)){out:Int}(H:dh.f m a0 b0=some out) :
  ∃r h',a7 Try.prog aV cf m 70 [.agg [.int .i64 a0.kind,.int .i64 a0.int,.str a0.label,af.fz a0.args],.agg [.int .i64 b0.kind,.int .i64 b0.int,.str b0.label,af.fz b0.args]] h=some (r,h')∧ff h' r (.int .i64 out):=by
 refine au (fn:=Try.f70) ha Try.func70 (by kernel_rfl) (by kernel_rfl) ?_
 refine aH (Q:=fun s=>dh.fin L out s) (fun _ _ h=>h) ?_
 have H:_=some out:=H
 unfold dh.f at H
 show dj _ cf AA m _ ⟨.agg [.int .i64 a0.kind,.int .i64 a0.int,.str a0.label,af.fz a0.args] :: .agg [.int .i64 b0.kind,.int .i64 b0.int,.str b0.label,af.fz b0.args]::Fy [],[none,none],h⟩ _
 refine q1 <| qq <| qb 0 <| qq <| q0 <| qc H (fun c0 H=>?_) (fun c0 H=>?_)
 ·refine qq ?_
  obtain⟨x0,e0,H⟩:=bj H
  obtain rfl:=oi H
  exact qr [.a 4 (IT _ _ _ e0 h _ (gp (ah (bz) (ah (bz) (ay)))))] <| qt <| ⟨.inl rfl,dy (.int .i64 x0) h (dw (dc))⟩
 ·refine q1 <| qc H (fun c1 H=>?_) (fun c1 H=>?_)
  ·refine qq ?_
   obtain⟨x1,e1,H⟩:=bj H
   obtain⟨x2,e2,H⟩:=bj H
   obtain⟨x3,e3,H⟩:=bj H
   obtain rfl:=oi H
   exact qr [.a 6 (IT _ _ _ e1 h _ (gp (ah (bz) (ah (bz) (ay))))),.a 11 (Ld _ _ _ e2 h _ (gp (ah (cN) (ah (cN) (ay))))),.a 13 (Lc _ _ e3 h _ (gp (ah (rT (E:=af) (l:=[x1,x2]) (cs:=[.int .i64 x1,.int .i64 x2]) (b:=true) (by kernel_rfl) (by kernel_rfl) rfl) (ay))))] <| qt <| ⟨.inl rfl,dy (.int .i64 x3) h (dw (dc))⟩
  ·refine qk <| qq ?_
   obtain⟨x4,e4,H⟩:=bj H
   obtain⟨x5,e5,H⟩:=bj H
   obtain⟨x6,e6,H⟩:=bj H
   obtain rfl:=oi H
   exact qr [.a 4 (Ld _ _ _ e4 h _ (gp (ah (cN) (ah (cN) (ay))))),.a 9 (IT _ _ _ e5 h _ (gp (ah (bz) (ah (bz) (ay))))),.a 11 (Lc _ _ e6 h _ (gp (ah (rT (E:=af) (l:=[x4,x5]) (cs:=[.int .i64 x4,.int .i64 x5]) (b:=true) (by kernel_rfl) (by kernel_rfl) rfl) (ay))))] <| qt <| ⟨.inl rfl,dy (.int .i64 x6) h (dw (dc))⟩
end
end Go.Proofs.Ytifafejidnjckaa
namespace Go.Proofs.Ytifafejidnjckaa
open Go Go.R
open Go.IntKind (i64 u64 u8 u32)
def AB:bX:=gQ [0,1,2,5] [] [8,7] [] []
def dG.f (m:Nat)(i0:Int)(j0:Int)(x0:List aq):Option (Int):=(ix x0 i0).bind fun v0=>(ix x0 j0).bind fun v1=>(dh.f m v0 v1).bind fun x1=>some x1
def dG.fin (L:Mem)(r:Int)(s:St):Prop:=∃av,aM Try.prog (s.open AB) Try.f84.results.toList=some av∧ff s.h av (.int .i64 r)
def Qr (cf:CallF)(m:Nat):Prop:=∀(i0:Int) (j0:Int) (x0:List aq) (r:Int),dG.f m i0 j0 x0=some r→∀h xs,aO bO h xs [.int .i64 i0,.int .i64 j0,.fp [ai.fz x0] 0]→cf 84 xs h=some (.int .i64 r,h)
section
variable {cf:CallF}{m:Nat}
theorem mU {aV:FuncId→bX}(ha:aV 84=AB)(Eg:Mb cf m)(i0:Int)(j0:Int)(x0:List aq)(h:AHeap)(L:Mem)  (o:Has h (L)){out:Int}(H:dG.f m i0 j0 x0=some out) :
  ∃r h',a7 Try.prog aV cf m 84 [.int .i64 i0,.int .i64 j0,.fp [ai.fz x0] 0] h=some (r,h')∧ff h' r (.int .i64 out):=by
 refine au (fn:=Try.f84) ha Try.func84 (by kernel_rfl) (by kernel_rfl) ?_
 refine aH (Q:=fun s=>dG.fin L out s) (fun _ _ h=>h) ?_
 have H:_=some out:=H
 unfold dG.f at H
 show dj _ cf AB m _ ⟨[.int .i64 i0,.int .i64 j0,.fp [ai.fz x0] 0,.any],[],h⟩ _
 refine q1 <| qq ?_
 obtain⟨v0,e0,H⟩:=bj H
 obtain⟨v1,e1,H⟩:=bj H
 obtain⟨x1,e2,H⟩:=bj H
 obtain rfl:=oi H
 exact qr [.v 2 (eA (k:=.i64) (E:=ai) (l:=x0) xS e0),.v 3 (ma  (E:=ai) (l:=x0) h Fz FA e0),.v 6 (eA (k:=.i64) (E:=ai) (l:=x0) xS e1),.v 7 (ma  (E:=ai) (l:=x0) h Fz FA e1),.a 8 (Eg _ _ _ e2 h _ (gp (ah (jG (ah (bz) (ah (bz) (ah (cN) (ah (fy (E:=af)) (ay)))))) (ah (jG (ah (bz) (ah (bz) (ah (cN) (ah (fy (E:=af)) (ay)))))) (ay)))))] <| qt <| ⟨.inl rfl,dy (.int .i64 x1) h (dw (dc))⟩
end
end Go.Proofs.Ytifafejidnjckaa
namespace Go.Proofs.Ytifafejidnjckaa
open Go Go.R
open Go.IntKind (i64 u64 u8 u32)
end Go.Proofs.Ytifafejidnjckaa
namespace Go.Proofs.Ytifafejidnjckaa
open Go Go.R
open Go.IntKind (i64 u64 u8 u32)
end Go.Proofs.Ytifafejidnjckaa
namespace Go.Proofs.Ytifafejidnjckaa
open Go Go.R
open Go.IntKind (i64 u64 u8 u32)
end Go.Proofs.Ytifafejidnjckaa
namespace Go.Proofs.Ytifafejidnjckaa
open Go Go.R
open Go.IntKind (i64 u64 u8 u32)
end Go.Proofs.Ytifafejidnjckaa
namespace Go.Proofs.Ytifafejidnjckaa
open Go Go.R
open Go.IntKind (i64 u64 u8 u32)
end Go.Proofs.Ytifafejidnjckaa
