/- Part of the proof: Q57, Q58, Q63, Q65, Q74, Q77, Q80, Q82, Q92, Q93, Q94, Q100, Q101, Q107, Q108, Q30, Q31, Q33, Q35, Q50, Q61, Q67, Q70, Q84, Q86, Q87, Q88, Q91, Q104. -/
import Derived.Test.YtifafejidnjckaaK7
set_option linter.unusedVariables false
set_option linter.unusedSimpArgs false
set_option maxRecDepth 100000
open ByteArray renaming mk → UU
open Eq renaming trans → VB
open List renaming length_set → Ul, append_assoc → Uq, cons_append → UM, nil_append → UN
namespace Go.Proofs.Ytifafejidnjckaa
open Go Go.R
open Go.IntKind (i64 u64 u8 u32)
def xb:b4:=gK [0,1,4,5,6,7,12,19,29] [] [508,500,436,507,484,356,484,452,196,484,484,502,507] [] []
def dF.l0 (m:Nat)(s0:List Int)(j9:Int→Option (Bool)):Nat→(List Int)→Int→Int→Option ((List Int) × Int × Int)
 | 0,_,_,_=>none
 | k+1,s1,i0,j0=>if (decide (j0<(s0.length:Int)))=true then ((ix s1 j0).bind fun v0=>(j9 v0).bind fun r0=>if (!r0)=true then ((ix s1 i0).bind fun v1=>dF.l0 m s0 j9 k (s1.set i0.toNat v0) (i64.wrap (i0+(1:Int))) (i64.wrap (j0+(1:Int)))) else (dF.l0 m s0 j9 k s1 i0 (i64.wrap (j0+(1:Int))))) else (some ((s1,i0,j0)))
def dF.f (m:Nat)(s0:List Int)(j9:Int→Option (Bool)):Option ((List Int)):=(cu.f m s0 j9).bind fun x0=>if (x0==(-1:Int))=true then (some s0) else ((dF.l0 m s0 j9 m s0 x0 (i64.wrap (x0+(1:Int)))).bind fun cJ=>match cJ with | (s2,i1,j1)=>(Ju s2 i1).bind fun v2=>(G4 v2 0 i1).bind fun v3=>some v3)
def dF.fin (L:Mem)(aH:Nat)(s0:List Int)(j9:Int→Option (Bool))(r:(List Int))(s:St):Prop:=aM Try.prog (s.open xb) Try.f57.results.toList=some (.rs aH 0 r.length 1)∧Has s.h ((aH,.sl r.length 1 (af.l r))::L)
def PU (cf:CallF)(m:Nat):Prop:=∀(s0:List Int) (j9:Int→Option (Bool)) (r:(List Int)),dF.f m s0 j9=some r→∀h L (Ge:Nat) (aH:Nat),Has h ((aH,.sl Ge 1 (af.l s0))::L)→∀(eB:FuncId) (aQ bT:List AV),(aK (.fn eB aQ) = .fn eB aQ)→(∀(h:AHeap) (xs:List AV) (a0:Int) r,j9 a0=some r→aP bQ h xs ([.int .i64 a0]++bT)→cf eB xs h=some (.bool r,h))→(∀h K,Has h (K++(L))→aP cq h aQ bT)→(∀h,aP cq h bT bT)→∀xs,xs.map aK=[.rs aH 0 Ge 1,.fn eB aQ]→∃h',cf 57 xs h=some (.rs aH 0 r.length 1,h')∧Has h' ((aH,.sl r.length 1 (af.l r))::L)
section
variable {cf:CallF}{m:Nat}
theorem dF.dB (L:Mem)(aH:Nat)(eB:FuncId)(aQ bT:List AV)(s0:List Int)(j9:Int→Option (Bool))  (qo:aK (.fn eB aQ) = .fn eB aQ)(gI:∀(h:AHeap) (xs:List AV) (a0:Int) r,j9 a0=some r→aP bQ h xs ([.int .i64 a0]++bT)→cf eB xs h=some (.bool r,h))(oz:∀h K,Has h (K++(L))→aP cq h aQ bT)(gJ:∀h,aP cq h bT bT)  : dU Try.prog cf xb m (sub [1,1,1,0,1,0,0] (b6 Try.f57)) (fun k (σ:(List Int) × Int × Int)=>dF.l0 m s0 j9 k σ.1 σ.2.1 σ.2.2) (fun σ s=>match σ with | (s1,i0,j0)=>∃h0,s=⟨.rs aH 0 s0.length 1 :: .fn eB aQ :: .any :: .int .i64 i0 :: .int .i64 j0::nK [],[],h0⟩∧Has h0 ((aH,.sl s0.length 1 (af.l s1))::L)) (fun out e s=>(e = .exit 0∧∃s1 i0 j0,(s1,i0,j0)=out∧∃yF Gb Nw h0,s=⟨[.rs aH 0 s0.length 1,yF,.any,.int .i64 i0,Gb,.any,.any,Nw,.any],[],h0⟩∧Has h0 ((aH,.sl s0.length 1 (af.l s1))::L))):=by
 refine mK (fun _=>rfl) ?_
 rintro k ⟨s1,i0,j0⟩ s out ⟨h0,rfl,o0⟩ H
 have H:dF.l0 m s0 j9 (k+1) s1 i0 j0=some out:=H
 refine qq <| qq <| q0 <| qc H (fun c1 H=>?_) (fun c1 H=>?_)
 ·refine qk <| qq <| qb 1 <| qq ?_
  obtain⟨v0,e1,H⟩:=bl H
  refine qr [.v 2 (bj (k:=.i64) (E:=af) (l:=s1) (q:=0) gH o0 rfl e1),.v 3 (dr  (E:=af) (l:=s1) (q:=0) o0 rfl A3 e1 rfl)] <| qq ?_
  obtain⟨r0,e2,H⟩:=bl H
  refine qr [.a 2 (gI _ _ _ _ e2 (G7 (ai (br) (ay)) (oz h0 [(aH,.sl s0.length 1 (af.l s1))] o0)))] <| qc H (fun c2 H=>?_) (fun c2 H=>?_)
  ·refine qq ?_
   obtain⟨v1,e3,H⟩:=bl H
   obtain⟨h1,e4,o1⟩:=eV (P:=Try.prog) (tf:=3) (E:=af) (l:=s1) (q:=0) (v:=v0) (x:=.int .i64 v0) o0 rfl Z3 e3 rfl rfl
   exact qr [.v 3 (bj (k:=.i64) (E:=af) (l:=s1) (q:=0) gH o0 rfl e3),.w 4 e4] <| q0 <| q0 <| ⟨(s1.set i0.toNat v0,i64.wrap (i0+(1:Int)),i64.wrap (j0+(1:Int))),⟨h1,by kernel_rfl,o1⟩,H⟩
  ·exact qk <| q0 <| ⟨(s1,i0,i64.wrap (j0+(1:Int))),⟨h0,by kernel_rfl,o0⟩,H⟩
 ·exact qx 0 <| ⟨rfl,s1,i0,j0,oi H,.fn eB aQ,.int .i64 j0,.bool (decide (j0<(s0.length:Int))),h0,by kernel_rfl,o0⟩
theorem sX {aV:FuncId→b4}(ha:aV 57=xb)(It:Nq cf m)(s0:List Int)(j9:Int→Option (Bool))(h:AHeap)(L:Mem)(aH:Nat)(eB:FuncId)(aQ bT:List AV)  (qo:aK (.fn eB aQ) = .fn eB aQ)(gI:∀(h:AHeap) (xs:List AV) (a0:Int) r,j9 a0=some r→aP bQ h xs ([.int .i64 a0]++bT)→cf eB xs h=some (.bool r,h))(oz:∀h K,Has h (K++(L))→aP cq h aQ bT)(gJ:∀h,aP cq h bT bT)(o:Has h ((aH,.sl s0.length 1 (af.l s0))::L)){out:(List Int)}(H:dF.f m s0 j9=some out) :
  ∃r h',ba Try.prog aV cf m 57 [.rs aH 0 s0.length 1,.fn eB aQ] h=some (r,h')∧r = .rs aH 0 out.length 1∧Has h' ((aH,.sl out.length 1 (af.l out))::L):=by
 refine ar (fn:=Try.f57) ha Try.func57 (by kernel_rfl) (by kernel_rfl) ?_
 refine aI (Q:=fun s=>dF.fin L aH s0 j9 out s) (fun _ _ ⟨h1,h2,h3⟩=>⟨h1,_,h2,rfl,h3⟩) ?_
 have H:_=some out:=H
 unfold dF.f at H
 show dt _ cf xb m _ ⟨.rs aH 0 s0.length 1 :: .fn eB aQ::H3 [],[],h⟩ _
 refine q1 <| qq ?_
 obtain⟨x0,e0,H⟩:=bl H
 refine qr [.a 2 (It _ _ _ e0 eB bT gI gJ h _ (gm (ai (eK (E:=af) (l:=s0) (q:=0) o rfl (fun _=>rfl)) (ai (r8 (oz h [(aH,.sl s0.length 1 (af.l s0))] o)) (ay)))))] <| qq <| qq <| q0 <| qc H (fun c0 H=>?_) (fun c0 H=>?_)
 ·obtain rfl:=oi H
  exact q1 <| qt <| ⟨.inl rfl,⟨by kernel_rfl,he o⟩⟩
 ·refine qk <| qq <| qq <| q0 <| qb 0 ?_
  obtain⟨cJ,e5,H⟩:=bl H
  refine ql (dF.dB L aH eB aQ bT s0 j9  qo gI oz gJ  (s0,x0,i64.wrap (x0+(1:Int))) _ _ ⟨h,by kernel_rfl,o⟩ e5) ?_
  rintro e s ⟨rfl,s2,i1,j1,rfl,g0,g1,g2,h2,rfl,o2⟩
  try dsimp only at H
  refine qq ?_
  obtain⟨v2,e6,H⟩:=bl H
  obtain⟨h3,e7,o3⟩:=Ih (q:=0) (l:=s2) Nb o2 rfl e6
  refine qr [.v 2 (Ig (E:=af) (k:=.i64) (q:=0) (l:=s2) gH o2 rfl (r7 e6).1 (r7 e6).2.1),.a 3 e7] <| qq ?_
  obtain⟨v3,e8,H⟩:=bl H
  obtain⟨Nx,o4⟩:=HX (P:=Try.prog) (k:=.i64) (E:=af) (q:=0) o3 rfl gH e8
  obtain rfl:=oi H
  exact qr [.v 2 Nx] <| qt <| ⟨.inl rfl,⟨by kernel_rfl,he o4⟩⟩
end
end Go.Proofs.Ytifafejidnjckaa
namespace Go.Proofs.Ytifafejidnjckaa
open Go Go.R
open Go.IntKind (i64 u64 u8 u32)
def Af:b4:=gK [0,1,3] [] [4,3] [] []
def cL.f (m:Nat)(n0:Int)(x0:ab):Option (Bool):=(bX.f m x0 n0).bind fun x1=>some (!x1)
def cL.fin (L:Mem)(r:Bool)(s:St):Prop:=∃av,aM Try.prog (s.open Af) Try.f58.results.toList=some av∧fL s.h av (.bool r)
def PV (cf:CallF)(m:Nat):Prop:=∀(n0:Int) (x0:ab) (r:Bool),cL.f m n0 x0=some r→∀h xs,aP bQ h xs [.int .i64 n0,.fp [.fp [.bool x0.aj,ah.fz x0.aa,af.fz x0.ae] 0] 0]→cf 58 xs h=some (.bool r,h)
section
variable {cf:CallF}{m:Nat}
theorem ka {aV:FuncId→b4}(ha:aV 58=Af)(DW:Nj cf m)(n0:Int)(x0:ab)(h:AHeap)(L:Mem)  (o:Has h (L)){out:Bool}(H:cL.f m n0 x0=some out) :
  ∃r h',ba Try.prog aV cf m 58 [.int .i64 n0,.fp [.fp [.bool x0.aj,ah.fz x0.aa,af.fz x0.ae] 0] 0] h=some (r,h')∧fL h' r (.bool out):=by
 refine ar (fn:=Try.f58) ha Try.func58 (by kernel_rfl) (by kernel_rfl) ?_
 refine aI (Q:=fun s=>cL.fin L out s) (fun _ _ h=>h) ?_
 have H:_=some out:=H
 unfold cL.f at H
 show dt _ cf Af m _ ⟨[.int .i64 n0,.fp [.fp [.bool x0.aj,ah.fz x0.aa,af.fz x0.ae] 0] 0,.any],[],h⟩ _
 refine q1 <| qq ?_
 obtain⟨x1,e0,H⟩:=bl H
 obtain rfl:=oi H
 exact qr [.a 2 (DW _ _ _ e0 h _ (gm (ai (gj (pure_cons (dO) (pure_cons (bL.bH (E:=ah) (l:=x0.aa)) (pure_cons (bL.bH (E:=af) (l:=x0.ae)) (pure_nil))))) (ai (br) (ay)))))] <| qt <| ⟨.inl rfl,dz (.bool (!x1)) h (du (aD))⟩
end
end Go.Proofs.Ytifafejidnjckaa
namespace Go.Proofs.Ytifafejidnjckaa
open Go Go.R
open Go.IntKind (i64 u64 u8 u32)
def Ag:b4:=gK [0,1,2] [] [4,3] [] []
def cz.f (m:Nat)(x0:ByteArray)(x1:Int):Option (Bool):=(fG.f m x0).bind fun x2=>if x2=true then (some (decide (x1≥(0:Int)))) else (some false)
def cz.fin (L:Mem)(r:Bool)(s:St):Prop:=∃av,aM Try.prog (s.open Ag) Try.f63.results.toList=some av∧fL s.h av (.bool r)
def PW (cf:CallF)(m:Nat):Prop:=∀(x0:ByteArray) (x1:Int) (r:Bool),cz.f m x0 x1=some r→∀h xs,aP bQ h xs [.fp [.str x0] 0,.fp [.int .i64 x1] 0]→cf 63 xs h=some (.bool r,h)
section
variable {cf:CallF}{m:Nat}
theorem kC {aV:FuncId→b4}(ha:aV 63=Ag)(DX:Nk cf m)(x0:ByteArray)(x1:Int)(h:AHeap)(L:Mem)  (o:Has h (L)){out:Bool}(H:cz.f m x0 x1=some out) :
  ∃r h',ba Try.prog aV cf m 63 [.fp [.str x0] 0,.fp [.int .i64 x1] 0] h=some (r,h')∧fL h' r (.bool out):=by
 refine ar (fn:=Try.f63) ha Try.func63 (by kernel_rfl) (by kernel_rfl) ?_
 refine aI (Q:=fun s=>cz.fin L out s) (fun _ _ h=>h) ?_
 have H:_=some out:=H
 unfold cz.f at H
 show dt _ cf Ag m _ ⟨[.fp [.str x0] 0,.fp [.int .i64 x1] 0,.any],[],h⟩ _
 refine q1 <| qq ?_
 obtain⟨x2,e0,H⟩:=bl H
 rcases hZ H with⟨c0,H⟩| ⟨c0,H⟩
 ·obtain rfl:=oi H
  exact qr [.a 1 (DX _ _ e0 h _ (gm (ai (cH) (ay)))),.b 2 c0] <| qt <| ⟨.inl rfl,dz (.bool (decide (x1≥(0:Int)))) h (du (aD))⟩
 ·obtain rfl:=oi H
  exact qr [.a 1 (DX _ _ e0 h _ (gm (ai (cH) (ay)))),.b 2 c0] <| qt <| ⟨.inl rfl,dz (.bool false) h (du (aD))⟩
end
end Go.Proofs.Ytifafejidnjckaa
namespace Go.Proofs.Ytifafejidnjckaa
open Go Go.R
open Go.IntKind (i64 u64 u8 u32)
def Ah:b4:=gK [0,1,4] [] [4,3] [] []
def gz.f (m:Nat)(s0:List ao)(f0:ao→Option (Bool)):Option (Bool):=(eH.f m s0 f0).bind fun x0=>some (decide (x0≥(0:Int)))
def gz.fin (L:Mem)(r:Bool)(s:St):Prop:=∃av,aM Try.prog (s.open Ah) Try.f65.results.toList=some av∧fL s.h av (.bool r)
def PX (cf:CallF)(m:Nat):Prop:=∀(s0:List ao) (f0:ao→Option (Bool)) (r:Bool),gz.f m s0 f0=some r→∀(eB:FuncId) (aQ:List AV),(∀(h:AHeap) (xs:List AV) (a0:ao) r,f0 a0=some r→aP bQ h xs ([.agg [.int .i64 a0.kind,.int .i64 a0.int,.str a0.label,af.fz a0.args]]++aQ)→cf eB xs h=some (.bool r,h))→(∀h,aP cq h aQ aQ)→∀h xs,aP bQ h xs [ah.fz s0,.fn eB aQ]→cf 65 xs h=some (.bool r,h)
section
variable {cf:CallF}{m:Nat}
theorem qy {aV:FuncId→b4}(ha:aV 65=Ah)(Ny:PK cf m)(s0:List ao)(f0:ao→Option (Bool))(h:AHeap)(L:Mem)(eB:FuncId)(aQ:List AV)  (gI:∀(h:AHeap) (xs:List AV) (a0:ao) r,f0 a0=some r→aP bQ h xs ([.agg [.int .i64 a0.kind,.int .i64 a0.int,.str a0.label,af.fz a0.args]]++aQ)→cf eB xs h=some (.bool r,h))(gJ:∀h,aP cq h aQ aQ)(o:Has h (L)){out:Bool}(H:gz.f m s0 f0=some out) :
  ∃r h',ba Try.prog aV cf m 65 [ah.fz s0,.fn eB aQ] h=some (r,h')∧fL h' r (.bool out):=by
 refine ar (fn:=Try.f65) ha Try.func65 (by kernel_rfl) (by kernel_rfl) ?_
 refine aI (Q:=fun s=>gz.fin L out s) (fun _ _ h=>h) ?_
 have H:_=some out:=H
 unfold gz.f at H
 show dt _ cf Ah m _ ⟨[ah.fz s0,.fn eB aQ,.any],[],h⟩ _
 refine q1 <| qq ?_
 obtain⟨x0,e0,H⟩:=bl H
 obtain rfl:=oi H
 exact qr [.a 2 (Ny _ _ _ e0 eB aQ gI gJ h _ (gm (ai (fT (E:=ah)) (ai (r8 (gJ h)) (ay)))))] <| qt <| ⟨.inl rfl,dz (.bool (decide (x0≥(0:Int)))) h (du (aD))⟩
end
end Go.Proofs.Ytifafejidnjckaa
namespace Go.Proofs.Ytifafejidnjckaa
open Go Go.R
open Go.IntKind (i64 u64 u8 u32)
def xc:b4:=gK [0,1,2,6,7,27,29,30,31,37] [] [1016,990,1015,830,574,814,318,1015,830,1015] [] []
def cE.l0 (m:Nat)(s0:ByteArray):Nat→Int→Option (Sum Bool (Int))
 | 0,_=>none
 | k+1,x0=>if (decide (x0<(s0.size:Int)))=true then ((bt s0 x0).bind fun v2=>(fA.f m v2).bind fun x1=>if (!x1)=true then (some (.inl false)) else (cE.l0 m s0 k (i64.wrap (x0+(1:Int))))) else (some (.inr x0))
def cE.f (m:Nat)(s0:ByteArray)(kb:Int)(nj:Int):Option (Bool):=if (decide ((s0.size:Int)<(1:Int)))=true then (some false) else (if (decide ((s0.size:Int) > (16:Int)))=true then (some false) else ((bt s0 (0:Int)).bind fun v0=>if (decide (v0<kb))=true then (some false) else ((bt s0 (0:Int)).bind fun v1=>if (decide (v1 > nj))=true then (some false) else ((cE.l0 m s0 m (0:Int)).bind fun cJ=>match cJ with | .inl r0=>some r0 | .inr x2=>some true))))
def cE.fin (L:Mem)(r:Bool)(s:St):Prop:=∃av,aM Try.prog (s.open xc) Try.f74.results.toList=some av∧fL s.h av (.bool r)
def PY (cf:CallF)(m:Nat):Prop:=∀(s0:ByteArray) (kb:Int) (nj:Int) (r:Bool),cE.f m s0 kb nj=some r→∀h xs,aP bQ h xs [.str s0,.int .u8 kb,.int .u8 nj]→cf 74 xs h=some (.bool r,h)
section
variable {cf:CallF}{m:Nat}
theorem cE.dB (L:Mem)(s0:ByteArray)  (Iu:Nr cf m):dU Try.prog cf xc m (sub [1,1,0,1,0,0] (b6 Try.f74)) (fun k (σ:Int)=>cE.l0 m s0 k σ) (fun σ s=>match σ with | x0=>∃h0,s=⟨.str s0::FU [.int .i64 (s0.size:Int),.int .i64 x0,.any,.any],[],h0⟩∧Has h0 (L)) (fun out e s=>(e = .exit 0∧∃x0,.inr x0=out∧∃po Nz Iv NA h0,s=⟨po::FU [Nz,Iv,NA,.any],[],h0⟩∧Has h0 (L))∨(e = .ret∧∃r,.inl r=out∧cE.fin L r s)):=by
 refine mK (fun _=>rfl) ?_
 rintro k x0 s out ⟨h0,rfl,o0⟩ H
 have H:cE.l0 m s0 (k+1) x0=some out:=H
 refine q1 <| qq <| qc H (fun c7 H=>?_) (fun c7 H=>?_)
 ·refine qk <| qq <| qb 1 <| qq <| q0 <| qq ?_
  obtain⟨v2,e2,H⟩:=bl H
  obtain⟨x1,e3,H⟩:=bl H
  refine qr [.v 2 (uS (k:=.i64) U9 e2),.a 3 (Iu _ _ e3 h0 _ (gm (ai (br) (ay))))] <| qc H (fun c8 H=>?_) (fun c8 H=>?_)
  ·exact q1 <| qt <| Or.inr (⟨rfl,_,oi H,dz (.bool false) h0 (du (aD))⟩)
  ·exact qk <| q0 <| ⟨i64.wrap (x0+(1:Int)),⟨h0,by kernel_rfl,o0⟩,H⟩
 ·exact qx 0 <| Or.inl (⟨rfl,x0,oi H,.str s0,.int .i64 (s0.size:Int),.int .i64 x0,.bool (decide (x0<(s0.size:Int))),h0,by kernel_rfl,o0⟩)
theorem sb {aV:FuncId→b4}(ha:aV 74=xc)(Iu:Nr cf m)(s0:ByteArray)(kb:Int)(nj:Int)(h:AHeap)(L:Mem)  (o:Has h (L)){out:Bool}(H:cE.f m s0 kb nj=some out) :
  ∃r h',ba Try.prog aV cf m 74 [.str s0,.int .u8 kb,.int .u8 nj] h=some (r,h')∧fL h' r (.bool out):=by
 refine ar (fn:=Try.f74) ha Try.func74 (by kernel_rfl) (by kernel_rfl) ?_
 refine aI (Q:=fun s=>cE.fin L out s) (fun _ _ h=>h) ?_
 have H:_=some out:=H
 unfold cE.f at H
 show dt _ cf xc m _ ⟨.str s0 :: .int .u8 kb :: .int .u8 nj::H3 [],[],h⟩ _
 refine q1 <| qq <| qq ?_
 rcases hZ H with⟨c0,H⟩| ⟨c0,H⟩
 ·obtain rfl:=oi H
  exact qr [.b 3 c0] <| Fg <| qq <| q0 <| qt <| ⟨.inl rfl,dz (.bool false) h (du (aD))⟩
 ·rcases hZ H with⟨c2,H⟩| ⟨c2,H⟩
  ·obtain rfl:=oi H
   exact qr [.b 3 c0,.b 8 c2] <| Fg <| qq <| q0 <| qt <| ⟨.inl rfl,dz (.bool false) h (du (aD))⟩
  ·obtain⟨v0,e0,H⟩:=bl H
   rcases hZ H with⟨c4,H⟩| ⟨c4,H⟩
   ·obtain rfl:=oi H
    exact qr [.b 3 c0,.b 8 c2,.v 10 (uS (k:=.i64) U9 e0),.b 14 c4] <| Fg <| qq <| q0 <| qt <| ⟨.inl rfl,dz (.bool false) h (du (aD))⟩
   ·obtain⟨v1,e1,H⟩:=bl H
    refine qr [.b 3 c0,.b 8 c2,.v 10 (uS (k:=.i64) U9 e0),.b 14 c4,.v 16 (uS (k:=.i64) U9 e1)] <| qc H (fun c6 H=>?_) (fun c6 H=>?_)
    ·obtain rfl:=oi H
     exact q1 <| qt <| ⟨.inl rfl,dz (.bool false) h (du (aD))⟩
    ·refine qk <| qq <| qq <| q0 <| qb 0 ?_
     obtain⟨cJ,e4,H⟩:=bl H
     refine ql (cE.dB L s0  Iu (0:Int) _ _ ⟨h,by kernel_rfl,o⟩ e4) ?_
     rintro e s (⟨rfl,x2,rfl,g0,g1,g2,g3,h1,rfl,o1⟩| ⟨rfl,r0,rfl,yB⟩)
     ·try dsimp only at H
      obtain rfl:=oi H
      exact q1 <| qt <| ⟨.inl rfl,dz (.bool true) h1 (du (aD))⟩
     ·try dsimp only at H
      obtain rfl:=oi H
      exact⟨.inl rfl,yB⟩
end
end Go.Proofs.Ytifafejidnjckaa
namespace Go.Proofs.Ytifafejidnjckaa
open Go Go.R
open Go.IntKind (i64 u64 u8 u32)
end Go.Proofs.Ytifafejidnjckaa
namespace Go.Proofs.Ytifafejidnjckaa
open Go Go.R
open Go.IntKind (i64 u64 u8 u32)
def Ai:b4:=gK [0,1,4,5,6,11,12,13,16,19] [] [1020,1012,996,972,959,1019,1019,892,1019,764,1019,511,1019,1019] [] []
def cC.f (m:Nat)(x0:Int)(y0:Int):Option (Int):=(cmp_isNaN_int.f m x0).bind fun x1=>(cmp_isNaN_int.f m y0).bind fun x2=>if x1=true then (if x2=true then (some (0:Int)) else (some (-1:Int))) else (if x2=true then (some (1:Int)) else (if (decide (x0<y0))=true then (some (-1:Int)) else (if (decide (x0 > y0))=true then (some (1:Int)) else (some (0:Int)))))
def cC.fin (L:Mem)(r:Int)(s:St):Prop:=∃av,aM Try.prog (s.open Ai) Try.f80.results.toList=some av∧fL s.h av (.int .i64 r)
def PZ (cf:CallF)(m:Nat):Prop:=∀(x0:Int) (y0:Int) (r:Int),cC.f m x0 y0=some r→∀h xs,aP bQ h xs [.int .i64 x0,.int .i64 y0]→cf 80 xs h=some (.int .i64 r,h)
section
variable {cf:CallF}{m:Nat}
theorem mn {aV:FuncId→b4}(ha:aV 80=Ai)(KC:PN cf m)(x0:Int)(y0:Int)(h:AHeap)(L:Mem)  (o:Has h (L)){out:Int}(H:cC.f m x0 y0=some out) :
  ∃r h',ba Try.prog aV cf m 80 [.int .i64 x0,.int .i64 y0] h=some (r,h')∧fL h' r (.int .i64 out):=by
 refine ar (fn:=Try.f80) ha Try.func80 (by kernel_rfl) (by kernel_rfl) ?_
 refine aI (Q:=fun s=>cC.fin L out s) (fun _ _ h=>h) ?_
 have H:_=some out:=H
 unfold cC.f at H
 show dt _ cf Ai m _ ⟨.int .i64 x0 :: .int .i64 y0::zI [],[],h⟩ _
 refine q1 <| qq ?_
 obtain⟨x1,e0,H⟩:=bl H
 refine qr [.a 1 (KC _ _ e0 h _ (gm (ai (br) (ay))))] <| qq ?_
 obtain⟨x2,e1,H⟩:=bl H
 refine qr [.a 1 (KC _ _ e1 h _ (gm (ai (br) (ay))))] <| qq <| qq <| q0 <| qc H (fun c0 H=>?_) (fun c0 H=>?_)
 ·refine qq <| qq <| q0 <| qc H (fun c1 H=>?_) (fun c1 H=>?_)
  ·obtain rfl:=oi H
   exact q1 <| qt <| ⟨.inl rfl,dz (.int .i64 (0:Int)) h (du (dT))⟩
  ·obtain rfl:=oi H
   exact qk <| qq <| q0 <| qt <| ⟨.inl rfl,dz (.int .i64 (-1:Int)) h (du (dT))⟩
 ·refine qk <| qq <| qq <| q0 <| qc H (fun c2 H=>?_) (fun c2 H=>?_)
  ·obtain rfl:=oi H
   exact q1 <| qt <| ⟨.inl rfl,dz (.int .i64 (1:Int)) h (du (dT))⟩
  ·refine qk <| qq <| qq <| q0 <| qc H (fun c3 H=>?_) (fun c3 H=>?_)
   ·obtain rfl:=oi H
    exact q1 <| qt <| ⟨.inl rfl,dz (.int .i64 (-1:Int)) h (du (dT))⟩
   ·refine qk <| qq <| qq <| q0 <| qc H (fun c4 H=>?_) (fun c4 H=>?_)
    ·obtain rfl:=oi H
     exact q1 <| qt <| ⟨.inl rfl,dz (.int .i64 (1:Int)) h (du (dT))⟩
    ·obtain rfl:=oi H
     exact qk <| qq <| q0 <| qt <| ⟨.inl rfl,dz (.int .i64 (0:Int)) h (du (dT))⟩
end
end Go.Proofs.Ytifafejidnjckaa
namespace Go.Proofs.Ytifafejidnjckaa
open Go Go.R
open Go.IntKind (i64 u64 u8 u32)
def Aj:b4:=gK [0,1,4,5,6,11,12,13,16,19] [] [1020,1012,996,972,959,1019,1019,892,1019,764,1019,511,1019,1019] [] []
def b7.f (m:Nat)(x0:ByteArray)(y0:ByteArray):Option (Int):=(cmp_isNaN_string.f m x0).bind fun x1=>(cmp_isNaN_string.f m y0).bind fun x2=>if x1=true then (if x2=true then (some (0:Int)) else (some (-1:Int))) else (if x2=true then (some (1:Int)) else (if (Op.bytesLess x0.data.toList y0.data.toList)=true then (some (-1:Int)) else (if (!Dq x0 y0)=true then (some (1:Int)) else (some (0:Int)))))
def b7.fin (L:Mem)(r:Int)(s:St):Prop:=∃av,aM Try.prog (s.open Aj) Try.f82.results.toList=some av∧fL s.h av (.int .i64 r)
def P3 (cf:CallF)(m:Nat):Prop:=∀(x0:ByteArray) (y0:ByteArray) (r:Int),b7.f m x0 y0=some r→∀h xs,aP bQ h xs [.str x0,.str y0]→cf 82 xs h=some (.int .i64 r,h)
section
variable {cf:CallF}{m:Nat}
theorem kD {aV:FuncId→b4}(ha:aV 82=Aj)(KD:PO cf m)(x0:ByteArray)(y0:ByteArray)(h:AHeap)(L:Mem)  (o:Has h (L)){out:Int}(H:b7.f m x0 y0=some out) :
  ∃r h',ba Try.prog aV cf m 82 [.str x0,.str y0] h=some (r,h')∧fL h' r (.int .i64 out):=by
 refine ar (fn:=Try.f82) ha Try.func82 (by kernel_rfl) (by kernel_rfl) ?_
 refine aI (Q:=fun s=>b7.fin L out s) (fun _ _ h=>h) ?_
 have H:_=some out:=H
 unfold b7.f at H
 show dt _ cf Aj m _ ⟨.str x0 :: .str y0::zI [],[],h⟩ _
 refine q1 <| qq ?_
 obtain⟨x1,e0,H⟩:=bl H
 refine qr [.a 1 (KD _ _ e0 h _ (gm (ai (cH) (ay))))] <| qq ?_
 obtain⟨x2,e1,H⟩:=bl H
 refine qr [.a 1 (KD _ _ e1 h _ (gm (ai (cH) (ay))))] <| qq <| qq <| q0 <| qc H (fun c0 H=>?_) (fun c0 H=>?_)
 ·refine qq <| qq <| q0 <| qc H (fun c1 H=>?_) (fun c1 H=>?_)
  ·obtain rfl:=oi H
   exact q1 <| qt <| ⟨.inl rfl,dz (.int .i64 (0:Int)) h (du (dT))⟩
  ·obtain rfl:=oi H
   exact qk <| qq <| q0 <| qt <| ⟨.inl rfl,dz (.int .i64 (-1:Int)) h (du (dT))⟩
 ·refine qk <| qq <| qq <| q0 <| qc H (fun c2 H=>?_) (fun c2 H=>?_)
  ·obtain rfl:=oi H
   exact q1 <| qt <| ⟨.inl rfl,dz (.int .i64 (1:Int)) h (du (dT))⟩
  ·refine qk <| qq <| qq <| q0 <| qc H (fun c3 H=>?_) (fun c3 H=>?_)
   ·obtain rfl:=oi H
    exact q1 <| qt <| ⟨.inl rfl,dz (.int .i64 (-1:Int)) h (du (dT))⟩
   ·refine qk <| qq <| qq <| q0 <| qc H (fun c4 H=>?_) (fun c4 H=>?_)
    ·obtain rfl:=oi H
     exact q1 <| qt <| ⟨.inl rfl,dz (.int .i64 (1:Int)) h (du (dT))⟩
    ·obtain rfl:=oi H
     exact qk <| qq <| q0 <| qt <| ⟨.inl rfl,dz (.int .i64 (0:Int)) h (du (dT))⟩
end
end Go.Proofs.Ytifafejidnjckaa
namespace Go.Proofs.Ytifafejidnjckaa
open Go Go.R
open Go.IntKind (i64 u64 u8 u32)
end Go.Proofs.Ytifafejidnjckaa
namespace Go.Proofs.Ytifafejidnjckaa
open Go Go.R
open Go.IntKind (i64 u64 u8 u32)
end Go.Proofs.Ytifafejidnjckaa
namespace Go.Proofs.Ytifafejidnjckaa
open Go Go.R
open Go.IntKind (i64 u64 u8 u32)
end Go.Proofs.Ytifafejidnjckaa
namespace Go.Proofs.Ytifafejidnjckaa
open Go Go.R
open Go.IntKind (i64 u64 u8 u32)
end Go.Proofs.Ytifafejidnjckaa
namespace Go.Proofs.Ytifafejidnjckaa
open Go Go.R
open Go.IntKind (i64 u64 u8 u32)
end Go.Proofs.Ytifafejidnjckaa
namespace Go.Proofs.Ytifafejidnjckaa
open Go Go.R
open Go.IntKind (i64 u64 u8 u32)
end Go.Proofs.Ytifafejidnjckaa
namespace Go.Proofs.Ytifafejidnjckaa
open Go Go.R
open Go.IntKind (i64 u64 u8 u32)
def sc:b4:=gK [0,1,2,3,4,10,11,20,23] [] [450,394,266,138,394,394,394,394,511] [] []
def eJ.l0 (m:Nat)(m0:Int)(aS:Int→Int→Option (Int)):Nat→(List Int)→Int→Int→Option ((List Int) × Int × Int)
 | 0,_,_,_=>none
 | k+1,bk,i0,j0=>if (!(i0==j0))=true then (if (decide (i0 > j0))=true then ((bR.f m bk (i64.wrap (m0 - i0)) m0 j0 aS).bind fun x0=>eJ.l0 m m0 aS k x0 (i64.wrap (i0 - j0)) j0) else ((bR.f m bk (i64.wrap (m0 - i0)) (i64.wrap (i64.wrap (m0+j0) - i0)) i0 aS).bind fun x1=>eJ.l0 m m0 aS k x1 i0 (i64.wrap (j0 - i0)))) else (some ((bk,i0,j0)))
def eJ.f (m:Nat)(aw:List Int)(a0:Int)(m0:Int)(b0:Int)(aS:Int→Int→Option (Int)):Option ((List Int)):=(eJ.l0 m m0 aS m aw (i64.wrap (m0 - a0)) (i64.wrap (b0 - m0))).bind fun cJ=>match cJ with | (cU,i1,j1)=>(bR.f m cU (i64.wrap (m0 - i1)) m0 i1 aS).bind fun x2=>some x2
def eJ.fin (L:Mem)(aH:Nat)(aw:List Int)(a0:Int)(m0:Int)(b0:Int)(aS:Int→Int→Option (Int))(r:(List Int))(s:St):Prop:=aM Try.prog (s.open sc) Try.f108.results.toList=some (.tup [])∧Has s.h ((aH,.sl aw.length 1 (af.l r))::L)
def KE (cf:CallF)(m:Nat):Prop:=∀(aw:List Int) (a0:Int) (m0:Int) (b0:Int) (aS:Int→Int→Option (Int)) (r:(List Int)),eJ.f m aw a0 m0 b0 aS=some r→∀h L (ca:Nat) (aH:Nat),Has h ((aH,.sl ca 1 (af.l aw))::L)→∀(eC:FuncId) (aY aT:List AV),(aK (.fn eC aY) = .fn eC aY)→(∀(h:AHeap) (xs:List AV) (a0:Int) (a1:Int) r,aS a0 a1=some r→aP bQ h xs ([.int .i64 a0,.int .i64 a1]++aT)→cf eC xs h=some (.int .i64 r,h))→(∀h K,Has h (K++(L))→aP cq h aY aT)→(∀h,aP cq h aT aT)→∀xs,xs.map aK=[.rs aH 0 ca 1,.int .i64 a0,.int .i64 m0,.int .i64 b0,.fn eC aY]→∃h',cf 108 xs h=some (.tup [],h')∧Has h' ((aH,.sl ca 1 (af.l r))::L)
section
variable {cf:CallF}{m:Nat}
theorem eJ.dB (L:Mem)(aH:Nat)(eC:FuncId)(aY aT:List AV)(aw:List Int)(a0:Int)(m0:Int)(b0:Int)(aS:Int→Int→Option (Int))  (gy:aK (.fn eC aY) = .fn eC aY)(gT:∀(h:AHeap) (xs:List AV) (a0:Int) (a1:Int) r,aS a0 a1=some r→aP bQ h xs ([.int .i64 a0,.int .i64 a1]++aT)→cf eC xs h=some (.int .i64 r,h))(gU:∀h K,Has h (K++(L))→aP cq h aY aT)(iv:∀h,aP cq h aT aT)(xd:Ip cf m):dU Try.prog cf sc m (sub [1,1,0,0,0] (b6 Try.f108)) (fun k (σ:(List Int) × Int × Int)=>eJ.l0 m m0 aS k σ.1 σ.2.1 σ.2.2) (fun σ s=>match σ with | (bk,i0,j0)=>∃h0,s=⟨[.rs aH 0 aw.length 1,.any,.int .i64 m0,.any,.fn eC aY,.int .i64 i0,.int .i64 j0,.any,.any],[],h0⟩∧Has h0 ((aH,.sl aw.length 1 (af.l bk))::L)) (fun out e s=>(e = .exit 0∧∃bk i0 j0,(bk,i0,j0)=out∧∃Iw Iq h0,s=⟨[.rs aH 0 aw.length 1,.any,.int .i64 m0,.any,.fn eC aY,.int .i64 i0,Iw,Iq,.any],[],h0⟩∧Has h0 ((aH,.sl aw.length 1 (af.l bk))::L))):=by
 refine mK (fun _=>rfl) ?_
 rintro k ⟨bk,i0,j0⟩ s out ⟨h0,rfl,o0⟩ H
 have H:eJ.l0 m m0 aS (k+1) bk i0 j0=some out:=H
 refine qq <| qq <| q0 <| qc H (fun c0 H=>?_) (fun c0 H=>?_)
 ·refine qk <| qb 1 <| qq <| q0 <| qc H (fun c1 H=>?_) (fun c1 H=>?_)
  ·refine qq ?_
   obtain⟨x0,e0,H⟩:=bl H
   obtain⟨h1,e1,o1⟩:=xd _ _ _ _ _ _ e0 h0 _ _ _ (o0) eC aY aT gy gT (fun h' K' o'=>gU h' (K'++[]) (by simpa only [Uq,UM,UN] using o')) iv [.rs aH 0 aw.length 1,.int .i64 (i64.wrap (m0 - i0)),.int .i64 m0,.int .i64 j0,.fn eC aY] (au (rfl) (au (aN (bf)) (au (aN (bf)) (au (aN (bf)) (au (gy) (bI))))))
   exact qr [.a 7 e1] <| q0 <| ⟨(x0,i64.wrap (i0 - j0),j0),⟨h1,by kernel_rfl,o1⟩,H⟩
  ·refine qq ?_
   obtain⟨x1,e2,H⟩:=bl H
   obtain⟨h2,e3,o2⟩:=xd _ _ _ _ _ _ e2 h0 _ _ _ (o0) eC aY aT gy gT (fun h' K' o'=>gU h' (K'++[]) (by simpa only [Uq,UM,UN] using o')) iv [.rs aH 0 aw.length 1,.int .i64 (i64.wrap (m0 - i0)),.int .i64 (i64.wrap (i64.wrap (m0+j0) - i0)),.int .i64 i0,.fn eC aY] (au (rfl) (au (aN (bf)) (au (aN (bf)) (au (aN (bf)) (au (gy) (bI))))))
   exact qr [.a 11 e3] <| q0 <| ⟨(x1,i0,i64.wrap (j0 - i0)),⟨h2,by kernel_rfl,o2⟩,H⟩
 ·exact qx 0 <| ⟨rfl,bk,i0,j0,oi H,.int .i64 j0,.bool (!(i0==j0)),h0,by kernel_rfl,o0⟩
theorem vg {aV:FuncId→b4}(ha:aV 108=sc)(xd:Ip cf m)(aw:List Int)(a0:Int)(m0:Int)(b0:Int)(aS:Int→Int→Option (Int))(h:AHeap)(L:Mem)(aH:Nat)(eC:FuncId)(aY aT:List AV)  (gy:aK (.fn eC aY) = .fn eC aY)(gT:∀(h:AHeap) (xs:List AV) (a0:Int) (a1:Int) r,aS a0 a1=some r→aP bQ h xs ([.int .i64 a0,.int .i64 a1]++aT)→cf eC xs h=some (.int .i64 r,h))(gU:∀h K,Has h (K++(L))→aP cq h aY aT)(iv:∀h,aP cq h aT aT)(o:Has h ((aH,.sl aw.length 1 (af.l aw))::L)){out:(List Int)}(H:eJ.f m aw a0 m0 b0 aS=some out) :
  ∃r h',ba Try.prog aV cf m 108 [.rs aH 0 aw.length 1,.int .i64 a0,.int .i64 m0,.int .i64 b0,.fn eC aY] h=some (r,h')∧r = .tup []∧Has h' ((aH,.sl aw.length 1 (af.l out))::L):=by
 refine ar (fn:=Try.f108) ha Try.func108 (by kernel_rfl) (by kernel_rfl) ?_
 refine aI (Q:=fun s=>eJ.fin L aH aw a0 m0 b0 aS out s) (fun _ _ ⟨h1,h2,h3⟩=>⟨h1,_,h2,rfl,h3⟩) ?_
 have H:_=some out:=H
 unfold eJ.f at H
 show dt _ cf sc m _ ⟨.rs aH 0 aw.length 1 :: .int .i64 a0 :: .int .i64 m0 :: .int .i64 b0 :: .fn eC aY::nK [],[],h⟩ _
 refine q1 <| qq <| q0 <| qq <| qb 0 ?_
 obtain⟨cJ,e4,H⟩:=bl H
 refine ql (eJ.dB L aH eC aY aT aw a0 m0 b0 aS  gy gT gU iv xd (aw,i64.wrap (m0 - a0),i64.wrap (b0 - m0)) _ _ ⟨h,by kernel_rfl,o⟩ e4) ?_
 rintro e s ⟨rfl,cU,i1,j1,rfl,g0,g1,h3,rfl,o3⟩
 try dsimp only at H
 obtain⟨x2,e5,H⟩:=bl H
 obtain⟨h4,e6,o4⟩:=xd _ _ _ _ _ _ e5 h3 _ _ _ (o3) eC aY aT gy gT (fun h' K' o'=>gU h' (K'++[]) (by simpa only [Uq,UM,UN] using o')) iv [.rs aH 0 aw.length 1,.int .i64 (i64.wrap (m0 - i1)),.int .i64 m0,.int .i64 i1,.fn eC aY] (au (rfl) (au (aN (bf)) (au (aN (bf)) (au (aN (bf)) (au (gy) (bI))))))
 obtain rfl:=oi H
 exact qr [.a 7 e6] <| ⟨.inr rfl,⟨by kernel_rfl,he o4⟩⟩
end
end Go.Proofs.Ytifafejidnjckaa
namespace Go.Proofs.Ytifafejidnjckaa
open Go Go.R
open Go.IntKind (i64 u64 u8 u32)
def Ak:b4:=gK [0,1,2,4,5,9] [] [57,41,55,31,55,55] [] []
def bS.f (m:Nat)(s0:ab)(l0:List Int):Option (Int):=(bK.f m s0).bind fun x0=>if (!x0)=true then (some (6:Int)) else ((ei.f m l0 (fun y0=>cK.f m y0 s0)).bind fun x1=>if x1=true then (some (1:Int)) else (some (0:Int)))
def bS.fin (L:Mem)(r:Int)(s:St):Prop:=∃av,aM Try.prog (s.open Ak) Try.f30.results.toList=some av∧fL s.h av (.int .i64 r)
def LK (cf:CallF)(m:Nat):Prop:=∀(s0:ab) (l0:List Int) (r:Int),bS.f m s0 l0=some r→∀h xs,aP bQ h xs [.fp [.bool s0.aj,ah.fz s0.aa,af.fz s0.ae] 0,af.fz l0]→cf 30 xs h=some (.int .i64 r,h)
section
variable {cf:CallF}{m:Nat}
theorem lg {aV:FuncId→b4}(ha:aV 30=Ak)(DP:LH cf m)(DY:LJ cf m)(NB:PT cf m)(s0:ab)(l0:List Int)(h:AHeap)(L:Mem)  (o:Has h (L)){out:Int}(H:bS.f m s0 l0=some out) :
  ∃r h',ba Try.prog aV cf m 30 [.fp [.bool s0.aj,ah.fz s0.aa,af.fz s0.ae] 0,af.fz l0] h=some (r,h')∧fL h' r (.int .i64 out):=by
 refine ar (fn:=Try.f30) ha Try.func30 (by kernel_rfl) (by kernel_rfl) ?_
 refine aI (Q:=fun s=>bS.fin L out s) (fun _ _ h=>h) ?_
 have H:_=some out:=H
 unfold bS.f at H
 show dt _ cf Ak m _ ⟨.fp [.bool s0.aj,ah.fz s0.aa,af.fz s0.ae] 0::af.fz l0::nK [],[],h⟩ _
 refine qq ?_
 obtain⟨aH,h0,e0,o0⟩:=gd (cs:=[.fp [.bool s0.aj,ah.fz s0.aa,af.fz s0.ae] 0]) o (by kernel_rfl)
 refine qr [.a 0 e0] <| qq <| qb 0 <| qq ?_
 obtain⟨x0,e1,H⟩:=bl H
 refine qr [.v 0 (show bn Try.prog h0 28 (.ptr aH 0)=some (.fp [.bool s0.aj,ah.fz s0.aa,af.fz s0.ae] 0) from bV (q:=0) (cs:=[.fp [.bool s0.aj,ah.fz s0.aa,af.fz s0.ae] 0]) o0 rfl (by kernel_rfl)),.a 1 (DP _ _ e1 h0 _ (gm (ai (gj (pure_cons (dO) (pure_cons (bL.bH (E:=ah) (l:=s0.aa)) (pure_cons (bL.bH (E:=af) (l:=s0.ae)) (pure_nil))))) (ay))))] <| qc H (fun c0 H=>?_) (fun c0 H=>?_)
 ·refine q1 ?_
  have o1:Has h0 (L):=Has.del o0 0
  obtain rfl:=oi H
  exact qt <| ⟨.inl rfl,dz (.int .i64 (6:Int)) h0 (du (dT))⟩
 ·refine qq ?_
  obtain⟨x1,e2,H⟩:=bl H
  refine qr [.a 2 (DY _ _ _ e2 53 [.fp [.fp [.bool s0.aj,ah.fz s0.aa,af.fz s0.ae] 0] 0] (fun h' sV y0 r hr hx=>NB y0 _ r hr h' sV hx) (fun h_=>iA (ai (gj (pure_cons (k8 (pure_cons (dO) (pure_cons (bL.bH (E:=ah) (l:=s0.aa)) (pure_cons (bL.bH (E:=af) (l:=s0.ae)) (pure_nil))))) (pure_nil))) (ay))) h0 _ (gm (ai (fT (E:=af)) (ai (r8 (ai (dV (q:=0) o0 rfl (ai (gj (pure_cons (dO) (pure_cons (bL.bH (E:=ah) (l:=s0.aa)) (pure_cons (bL.bH (E:=af) (l:=s0.ae)) (pure_nil))))) (ay))) (ay))) (ay)))))] ?_
  have o2:Has h0 (L):=Has.del o0 0
  refine qc H (fun c1 H=>?_) (fun c1 H=>?_)
  ·obtain rfl:=oi H
   exact q1 <| qt <| ⟨.inl rfl,dz (.int .i64 (1:Int)) h0 (du (dT))⟩
  ·obtain rfl:=oi H
   exact qk <| qq <| q0 <| qt <| ⟨.inl rfl,dz (.int .i64 (0:Int)) h0 (du (dT))⟩
end
end Go.Proofs.Ytifafejidnjckaa
namespace Go.Proofs.Ytifafejidnjckaa
open Go Go.R
open Go.IntKind (i64 u64 u8 u32)
def tO:b4:=gK [0,1,2,6,7,8,9,10,11,12,13,14,22,46,70,73,77,78,79] [11,12,13,18] [524280,524248,524190,524062,519966,524062,523806,515614,522270,505886,489502,524263,325662,63518,323614,325662,325662,524062,524263] [] [(1,[(8,none,1)])]
def az.l1 (m:Nat)(v2:ao)(v3:ao):Nat→(List aZ)→Int→ab→Option ((List aZ) × Int × ab)
 | 0,_,_,_=>none
 | k+1,jE,x3,s2=>if (decide (x3<(v2.args.length:Int)))=true then ((ix v2.args x3).bind fun v4=>(ix v3.args x3).bind fun v5=>(app 16 jE ([(aZ.mk v4 v5)])).bind fun x4=>az.l1 m v2 v3 k x4 (i64.wrap (x3+(1:Int))) s2) else (some ((jE,x3,s2)))
def az.l0 (m:Nat)  : Nat→(List Int)→(List aZ)→Int→ab→Option (Sum ((List Int) × Bool × ab) ((List Int) × (List aZ) × Int × ab))
 | 0,_,_,_,_=>none
 | k+1,aF,eR,k0,s1=>if (decide (k0<(eR.length:Int)))=true then ((ix eR k0).bind fun v0=>(a6.f m s1 v0.jI).bind fun x0=>(ix eR k0).bind fun v1=>(a6.f m s1 v1.kL).bind fun x1=>if ((x0==x0)&&(x1==x0))=true then (az.l0 m k aF eR (i64.wrap (k0+(1:Int))) s1) else ((ix s1.aa x0).bind fun v2=>(ix s1.aa x1).bind fun v3=>if (!(v2.kind==(0:Int)))=true then (if (!(v3.kind==(0:Int)))=true then ((eQ.f m v2 v3).bind fun x2=>if x2=true then (some (.inl (aF,false,s1))) else ((az.l1 m v2 v3 m eR (0:Int) s1).bind fun cJ=>match cJ with | (DZ,x5,s3)=>(cb.f m s3 x0 x1).bind fun x6=>(app 8 aF ([x6.1])).bind fun x7=>az.l0 m k x7 DZ (i64.wrap (k0+(1:Int))) x6.2)) else ((cb.f m s1 x0 x1).bind fun x8=>(app 8 aF ([x8.1])).bind fun x9=>az.l0 m k x9 eR (i64.wrap (k0+(1:Int))) x8.2)) else ((cb.f m s1 x0 x1).bind fun kM=>(app 8 aF ([kM.1])).bind fun DQ=>az.l0 m k DQ eR (i64.wrap (k0+(1:Int))) kM.2))) else (some (.inr (aF,eR,k0,s1)))
def az.f (m:Nat)(s0:ab)(a0:Int)(b0:Int):Option ((List Int) × Bool × ab):=(az.l0 m m ([]:List Int) ([(aZ.mk a0 b0)]) (0:Int) s0).bind fun dE=>match dE with | .inl r0=>some r0 | .inr (oD,KF,k1,s4)=>some (oD,true,s4)
def az.fin (L:Mem)(aq:Nat)(ak:Nat)(an:Nat)(s0:ab)(a0:Int)(b0:Int)(r:(List Int) × Bool × ab)(s:St):Prop:=∃dI aB aC:Nat,aM Try.prog (s.open tO) Try.f31.results.toList=some (.tup [.rs dI 0 r.1.length 1,.bool r.2.1])∧Has s.h ((dI,.sl r.1.length 1 (af.l r.1))::(aq,.ob [.bool r.2.2.aj,.rs aB 0 r.2.2.aa.length 4,.rs aC 0 r.2.2.ae.length 1])::(aB,.sl r.2.2.aa.length 4 (ah.l r.2.2.aa))::(aC,.sl r.2.2.ae.length 1 (af.l r.2.2.ae))::L)
def NC (cf:CallF)(m:Nat):Prop:=∀(s0:ab) (a0:Int) (b0:Int) (r:(List Int) × Bool × ab),az.f m s0 a0 b0=some r→∀h L (aq:Nat) (ak:Nat) (an:Nat),Has h ((aq,.ob [.bool s0.aj,.rs ak 0 s0.aa.length 4,.rs an 0 s0.ae.length 1])::(ak,.sl s0.aa.length 4 (ah.l s0.aa))::(an,.sl s0.ae.length 1 (af.l s0.ae))::L)→∀xs,xs.map aK=[.ptr aq 0,.int .i64 a0,.int .i64 b0]→∃dI aB aC h',cf 31 xs h=some (.tup [.rs dI 0 r.1.length 1,.bool r.2.1],h')∧Has h' ((dI,.sl r.1.length 1 (af.l r.1))::(aq,.ob [.bool r.2.2.aj,.rs aB 0 r.2.2.aa.length 4,.rs aC 0 r.2.2.ae.length 1])::(aB,.sl r.2.2.aa.length 4 (ah.l r.2.2.aa))::(aC,.sl r.2.2.ae.length 1 (af.l r.2.2.ae))::L)
section
variable {cf:CallF}{m:Nat}
theorem az.mi (L:Mem)(aq:Nat)(ak:Nat)(an:Nat)(s0:ab)(a0:Int)(b0:Int)(di:Nat)(aF:List Int)(k0:Int)(di:Nat)(x0:Int)(x1:Int)(v2:ao)(v3:ao)   : dU Try.prog cf tO m (sub [1,1,1,0,1,0,0,1,0,0,1,1,1,0,1,0,1,1,0,0] (b6 Try.f31)) (fun k (σ:(List aZ) × Int × ab)=>az.l1 m v2 v3 k σ.1 σ.2.1 σ.2.2) (fun σ s=>match σ with | (jE,x3,s2)=>∃fX fH fu h2,s=⟨.ptr aq 0::nK (.rs di 0 aF.length 1 :: .rs fX 0 jE.length 2 :: .int .i64 k0 :: .lp 11 0 :: .lp 12 0 :: .lp 13 0::FU [.int .i64 (v2.args.length:Int),.int .i64 x3,.any]),[some [.int .i64 x0,.int .i64 x1],some [.int .i64 v2.kind,.int .i64 v2.int,.str v2.label,af.fz v2.args],some [.int .i64 v3.kind,.int .i64 v3.int,.str v3.label,af.fz v3.args],none],h2⟩∧Has h2 ((fX,.sl jE.length 2 (dA.l jE))::(di,.sl aF.length 1 (af.l aF))::(aq,.ob [.bool s2.aj,.rs fH 0 s2.aa.length 4,.rs fu 0 s2.ae.length 1])::(fH,.sl s2.aa.length 4 (ah.l s2.aa))::(fu,.sl s2.ae.length 1 (af.l s2.ae))::L)) (fun out e s=>(e = .exit 2∧∃jE x3 s2,(jE,x3,s2)=out∧∃ND vb NF NG NH NI NJ fX fH fu h2,s=⟨.ptr aq 0::nK (.rs di 0 aF.length 1 :: .rs fX 0 jE.length 2 :: .int .i64 k0 :: .lp 11 0::ND::vb::FU [NF,NG,NH]),[some [.int .i64 x0,.int .i64 x1],NI,NJ,none],h2⟩∧Has h2 ((fX,.sl jE.length 2 (dA.l jE))::(di,.sl aF.length 1 (af.l aF))::(aq,.ob [.bool s2.aj,.rs fH 0 s2.aa.length 4,.rs fu 0 s2.ae.length 1])::(fH,.sl s2.aa.length 4 (ah.l s2.aa))::(fu,.sl s2.ae.length 1 (af.l s2.ae))::L))):=by
 refine mK (fun _=>rfl) ?_
 rintro k ⟨jE,x3,s2⟩ s out ⟨fX,fH,fu,h2,rfl,o4⟩ H
 have H:az.l1 m v2 v3 (k+1) jE x3 s2=some out:=H
 refine q1 <| qq <| qc H (fun c5 H=>?_) (fun c5 H=>?_)
 ·refine qk <| qq <| qb 3 <| qq <| q0 ?_
  obtain⟨v4,e8,H⟩:=bl H
  obtain⟨v5,e9,H⟩:=bl H
  obtain⟨x4,sF,H⟩:=bl H
  obtain⟨kN,h3,w6,o5⟩:=iV (P:=Try.prog) (E:=dA) (l:=jE) (q:=0) (t2:=93) (x:=.fz [.int .i64 v4,.int .i64 v5] 1 true) (l2:=([(aZ.mk v4 v5)])) Na o4 rfl (by kernel_rfl) rfl sF
  exact qr [.v 4 (fR (k:=.i64) (E:=af) (l:=v2.args) gH e8),.v 5 (jA  (E:=af) (l:=v2.args) h2 A3 e8 rfl),.v 9 (fR (k:=.i64) (E:=af) (l:=v3.args) gH e9),.v 10 (jA  (E:=af) (l:=v3.args) h2 A3 e9 rfl),.a 13 w6] <| q0 <| ⟨(x4,i64.wrap (x3+(1:Int)),s2),⟨kN,fH,fu,h3,by kernel_rfl,o5⟩,H⟩
 ·exact qx 2 <| ⟨rfl,jE,x3,s2,oi H,.lp 12 0,.lp 13 0,.int .i64 (v2.args.length:Int),.int .i64 x3,.bool (decide (x3<(v2.args.length:Int))),some [.int .i64 v2.kind,.int .i64 v2.int,.str v2.label,af.fz v2.args],some [.int .i64 v3.kind,.int .i64 v3.int,.str v3.label,af.fz v3.args],fX,fH,fu,h2,by kernel_rfl,o4⟩
theorem az.dB (L:Mem)(aq:Nat)(ak:Nat)(an:Nat)(s0:ab)(a0:Int)(b0:Int)  (sW:Jv cf m)(Ix:Ni cf m)(D0:Nv cf m):dU Try.prog cf tO m (sub [1,1,1,0,1,0,0] (b6 Try.f31)) (fun k (σ:(List Int) × (List aZ) × Int × ab)=>az.l0 m k σ.1 σ.2.1 σ.2.2.1 σ.2.2.2) (fun σ s=>match σ with | (aF,eR,k0,s1)=>∃ez di dd eU h1,s=⟨.ptr aq 0::nK (.rs di 0 aF.length 1 :: .rs ez 0 eR.length 2 :: .int .i64 k0::rV []),[none,none,none,none],h1⟩∧Has h1 ((ez,.sl eR.length 2 (dA.l eR))::(di,.sl aF.length 1 (af.l aF))::(aq,.ob [.bool s1.aj,.rs dd 0 s1.aa.length 4,.rs eU 0 s1.ae.length 1])::(dd,.sl s1.aa.length 4 (ah.l s1.aa))::(eU,.sl s1.ae.length 1 (af.l s1.ae))::L)) (fun out e s=>(e = .exit 0∧∃aF eR k0 s1,.inr (aF,eR,k0,s1)=out∧∃po BT yI yJ ez di dd eU h1,s=⟨po::nK (.rs di 0 aF.length 1::BT::yI::nK (yJ::vD [])),[none,none,none,none],h1⟩∧Has h1 ((ez,.sl eR.length 2 (dA.l eR))::(di,.sl aF.length 1 (af.l aF))::(aq,.ob [.bool s1.aj,.rs dd 0 s1.aa.length 4,.rs eU 0 s1.ae.length 1])::(dd,.sl s1.aa.length 4 (ah.l s1.aa))::(eU,.sl s1.ae.length 1 (af.l s1.ae))::L))∨(e = .ret∧∃r,.inl r=out∧az.fin L aq ak an s0 a0 b0 r s)):=by
 refine mK (fun _=>rfl) ?_
 rintro k ⟨aF,eR,k0,s1⟩ s out ⟨ez,di,dd,eU,h1,rfl,o2⟩ H
 have H:az.l0 m (k+1) aF eR k0 s1=some out:=H
 refine qq <| qq <| q0 <| qc H (fun c0 H=>?_) (fun c0 H=>?_)
 ·refine qk <| qq <| qb 1 <| qq ?_
  obtain⟨v0,e1,H⟩:=bl H
  obtain⟨x0,e2,H⟩:=bl H
  obtain⟨v1,e3,H⟩:=bl H
  obtain⟨x1,e4,H⟩:=bl H
  refine Ku [] [.v 3 (bj (k:=.i64) (E:=dA) (l:=eR) (q:=0) Na o2 rfl e1),.v 5 (zE  (E:=dA) (l:=eR) (q:=0) (off:=0) o2 rfl A3 e1 rfl),.a 6 (sW _ _ _ e2 h1 _ (gm (ai (dV (q:=2) o2 rfl (ai (gi) (ai (eK (E:=ah) (l:=s1.aa) (q:=3) o2 rfl (fun _=>rfl)) (ai (eK (E:=af) (l:=s1.ae) (q:=4) o2 rfl (fun _=>rfl)) (ay))))) (ai (br) (ay))))),.v 10 (bj (k:=.i64) (E:=dA) (l:=eR) (q:=0) Na o2 rfl e3),.v 12 (zE  (E:=dA) (l:=eR) (q:=0) (off:=1) o2 rfl A3 e3 rfl),.a 13 (sW _ _ _ e4 h1 _ (gm (ai (dV (q:=2) o2 rfl (ai (gi) (ai (eK (E:=ah) (l:=s1.aa) (q:=3) o2 rfl (fun _=>rfl)) (ai (eK (E:=af) (l:=s1.ae) (q:=4) o2 rfl (fun _=>rfl)) (ay))))) (ai (br) (ay)))))] [.mk (h:=h1) (h':=h1) (i:=ez) rfl] ?_
  refine qq <| qq <| qr [.v 6 (show lN Try.prog .eql 92 (.agg [.int .i64 x0,.int .i64 x1]) (.agg [.int .i64 x0,.int .i64 x0])=some (.bool ((x0==x0)&&(x1==x0))) from F8 Nc)] <| qc H (fun c1 H=>?_) (fun c1 H=>?_)
  ·exact qx 1 <| q0 <| ⟨(aF,eR,i64.wrap (k0+(1:Int)),s1),⟨ez,di,dd,eU,h1,by kernel_rfl,o2⟩,H⟩
  ·refine qk <| qq ?_
   obtain⟨v2,e5,H⟩:=bl H
   obtain⟨v3,e6,H⟩:=bl H
   refine qr [.v 3 (show bn Try.prog h1 40 (.ptr aq 1)=some (.rs dd 0 s1.aa.length 4) from bV (q:=2) (cs:=[.bool s1.aj,.rs dd 0 s1.aa.length 4,.rs eU 0 s1.ae.length 1]) o2 rfl (by kernel_rfl)),.v 6 (bj (k:=.i64) (E:=ah) (l:=s1.aa) (q:=3) wW o2 rfl e5),.v 7 (uR  (E:=ah) (l:=s1.aa) (q:=3) o2 rfl DK DL e5),.v 11 (show bn Try.prog h1 40 (.ptr aq 1)=some (.rs dd 0 s1.aa.length 4) from bV (q:=2) (cs:=[.bool s1.aj,.rs dd 0 s1.aa.length 4,.rs eU 0 s1.ae.length 1]) o2 rfl (by kernel_rfl)),.v 14 (bj (k:=.i64) (E:=ah) (l:=s1.aa) (q:=3) wW o2 rfl e6),.v 15 (uR  (E:=ah) (l:=s1.aa) (q:=3) o2 rfl DK DL e6)] <| qq <| qq ?_
   rcases hZ H with⟨c2,H⟩| ⟨c2,H⟩
   ·refine qr [.b 3 c2] <| qc H (fun c3 H=>?_) (fun c3 H=>?_)
    ·refine qq <| qq ?_
     obtain⟨x2,e7,H⟩:=bl H
     refine qr [.a 2 (Ix _ _ _ e7 h1 _ (gm (ai (jB (ai (br) (ai (br) (ai (cH) (ai (fT (E:=af)) (ay)))))) (ai (jB (ai (br) (ai (br) (ai (cH) (ai (fT (E:=af)) (ay)))))) (ay)))))] <| qc H (fun c4 H=>?_) (fun c4 H=>?_)
     ·refine q1 ?_
      have o3:Has h1 ((di,.sl aF.length 1 (af.l aF))::(aq,.ob [.bool s1.aj,.rs dd 0 s1.aa.length 4,.rs eU 0 s1.ae.length 1])::(dd,.sl s1.aa.length 4 (ah.l s1.aa))::(eU,.sl s1.ae.length 1 (af.l s1.ae))::L):=Has.del o2 0
      exact qt <| Or.inr (⟨rfl,_,oi H,⟨di,dd,eU,by kernel_rfl,he o3⟩⟩)
     ·refine qk <| qq <| q0 <| qb 2 ?_
      obtain⟨cJ,yD,H⟩:=bl H
      refine ql (az.mi L aq ak an s0 a0 b0 di aF k0 di x0 x1 v2 v3   (eR,(0:Int),s1) _ _ ⟨ez,dd,eU,h1,by kernel_rfl,o2⟩ yD) ?_
      rintro e s ⟨rfl,DZ,x5,s3,rfl,g0,g1,g2,g3,g4,g5,g6,yK,gL,jc,h4,rfl,o6⟩
      try dsimp only at H
      obtain⟨x6,yE,H⟩:=bl H
      obtain⟨lh,mo,h5,BU,o7⟩:=D0 _ _ _ _ yE h4 _ _ _ _ ((Has.front (Has.front (Has.front (Has.front (Has.front o6 1 rfl) 1 rfl) 4 rfl) 4 rfl) 4 rfl))  [.ptr aq 0,.int .i64 x0,.int .i64 x1] (au (rfl) (au (aN (bf)) (au (aN (bf)) (bI))))
      obtain⟨x7,Al,H⟩:=bl H
      obtain⟨BY,h6,D1,o8⟩:=iV (P:=Try.prog) (E:=af) (l:=aF) (q:=4) (t2:=33) (x:=.fz [.int .i64 x6.1] 1 true) (l2:=([x6.1])) gH o7 rfl (by kernel_rfl) rfl Al
      exact qr [.a 6 BU,.a 8 D1] <| q0 <| ⟨(x7,DZ,i64.wrap (k0+(1:Int)),x6.2),⟨yK,BY,lh,mo,h6,by kernel_rfl,(Has.front (Has.front (Has.front (Has.front (Has.front o8 2 rfl) 2 rfl) 2 rfl) 4 rfl) 4 rfl)⟩,H⟩
    ·refine qk ?_
     obtain⟨x8,Gf,H⟩:=bl H
     obtain⟨yL,qz,h7,Iy,o9⟩:=D0 _ _ _ _ Gf h1 _ _ _ _ ((Has.front (Has.front (Has.front (Has.front (Has.front o2 1 rfl) 1 rfl) 4 rfl) 4 rfl) 4 rfl))  [.ptr aq 0,.int .i64 x0,.int .i64 x1] (au (rfl) (au (aN (bf)) (au (aN (bf)) (bI))))
     obtain⟨x9,Gg,H⟩:=bl H
     obtain⟨sd,h8,Iz,vF⟩:=iV (P:=Try.prog) (E:=af) (l:=aF) (q:=4) (t2:=33) (x:=.fz [.int .i64 x8.1] 1 true) (l2:=([x8.1])) gH o9 rfl (by kernel_rfl) rfl Gg
     exact qr [.a 6 Iy,.a 8 Iz] <| q0 <| ⟨(x9,eR,i64.wrap (k0+(1:Int)),x8.2),⟨ez,sd,yL,qz,h8,by kernel_rfl,(Has.front (Has.front (Has.front (Has.front (Has.front vF 2 rfl) 2 rfl) 2 rfl) 4 rfl) 4 rfl)⟩,H⟩
   ·refine qr [.b 3 c2] <| Fh <| qk ?_
    obtain⟨kM,Hb,H⟩:=bl H
    obtain⟨D2,yM,h9,Hc,yN⟩:=D0 _ _ _ _ Hb h1 _ _ _ _ ((Has.front (Has.front (Has.front (Has.front (Has.front o2 1 rfl) 1 rfl) 4 rfl) 4 rfl) 4 rfl))  [.ptr aq 0,.int .i64 x0,.int .i64 x1] (au (rfl) (au (aN (bf)) (au (aN (bf)) (bI))))
    obtain⟨DQ,Hd,H⟩:=bl H
    obtain⟨yO,h10,IA,xN⟩:=iV (P:=Try.prog) (E:=af) (l:=aF) (q:=4) (t2:=33) (x:=.fz [.int .i64 kM.1] 1 true) (l2:=([kM.1])) gH yN rfl (by kernel_rfl) rfl Hd
    exact qr [.a 6 Hc,.a 8 IA] <| q0 <| ⟨(DQ,eR,i64.wrap (k0+(1:Int)),kM.2),⟨ez,yO,D2,yM,h10,by kernel_rfl,(Has.front (Has.front (Has.front (Has.front (Has.front xN 2 rfl) 2 rfl) 2 rfl) 4 rfl) 4 rfl)⟩,H⟩
 ·exact qx 0 <| Or.inl (⟨rfl,aF,eR,k0,s1,oi H,.ptr aq 0,.rs ez 0 eR.length 2,.int .i64 k0,.bool (decide (k0<(eR.length:Int))),ez,di,dd,eU,h1,by kernel_rfl,o2⟩)
theorem kE {aV:FuncId→b4}(ha:aV 31=tO)(sW:Jv cf m)(Ix:Ni cf m)(D0:Nv cf m)(s0:ab)(a0:Int)(b0:Int)(h:AHeap)(L:Mem)(aq:Nat)(ak:Nat)(an:Nat)  (o:Has h ((aq,.ob [.bool s0.aj,.rs ak 0 s0.aa.length 4,.rs an 0 s0.ae.length 1])::(ak,.sl s0.aa.length 4 (ah.l s0.aa))::(an,.sl s0.ae.length 1 (af.l s0.ae))::L)){out:(List Int) × Bool × ab}(H:az.f m s0 a0 b0=some out) :
  ∃r h',ba Try.prog aV cf m 31 [.ptr aq 0,.int .i64 a0,.int .i64 b0] h=some (r,h')∧∃dI aB aC:Nat,r = .tup [.rs dI 0 out.1.length 1,.bool out.2.1]∧Has h' ((dI,.sl out.1.length 1 (af.l out.1))::(aq,.ob [.bool out.2.2.aj,.rs aB 0 out.2.2.aa.length 4,.rs aC 0 out.2.2.ae.length 1])::(aB,.sl out.2.2.aa.length 4 (ah.l out.2.2.aa))::(aC,.sl out.2.2.ae.length 1 (af.l out.2.2.ae))::L):=by
 refine ar (fn:=Try.f31) ha Try.func31 (by kernel_rfl) (by kernel_rfl) ?_
 refine aI (Q:=fun s=>az.fin L aq ak an s0 a0 b0 out s) (fun _ _ ⟨h1,dI,aB,aC,h2,h3⟩=>⟨h1,_,h2,dI,aB,aC,rfl,h3⟩) ?_
 have H:_=some out:=H
 unfold az.f at H
 show dt _ cf tO m _ ⟨.ptr aq 0 :: .int .i64 a0 :: .int .i64 b0::FV [],[none,none,none,none],h⟩ _
 refine q1 <| qq <| q0 ?_
 have o0:Has h (((0),.sl (([]:List Int).length) 1 (af.l ([]:List Int)))::(aq,.ob [.bool s0.aj,.rs ak 0 s0.aa.length 4,.rs an 0 s0.ae.length 1])::(ak,.sl s0.aa.length 4 (ah.l s0.aa))::(an,.sl s0.ae.length 1 (af.l s0.ae))::L):=Has.nil o 1
 refine qq ?_
 obtain⟨aH,h0,e0,o1⟩:=FQ (E:=dA) (l:=[(aZ.mk a0 b0)]) (cs:=[.int .i64 a0,.int .i64 b0]) o0 (by kernel_rfl)
 refine qr [.a 3 e0] <| qq <| qq <| q0 <| qb 0 ?_
 obtain⟨dE,He,H⟩:=bl H
 refine ql (az.dB L aq ak an s0 a0 b0  sW Ix D0 (([]:List Int),[(aZ.mk a0 b0)],(0:Int),s0) _ _ ⟨aH,(0),ak,an,h0,(VB (b:=⟨.ptr aq 0::nK (.rs (0) 0 (([]:List Int).length) 1 :: .rs aH 0 (([(aZ.mk a0 b0)]:List aZ).length) 2 :: .int .i64 (0:Int)::rV []),[none,none,none,none],h0⟩) (by kernel_rfl) (by simp only [Ul])),(by have o:Has h0 ((aH,.sl (([(aZ.mk a0 b0)]:List aZ).length) 2 (dA.l ([(aZ.mk a0 b0)])))::((0),.sl (([]:List Int).length) 1 (af.l ([]:List Int)))::(aq,.ob [.bool s0.aj,.rs ak 0 s0.aa.length 4,.rs an 0 s0.ae.length 1])::(ak,.sl s0.aa.length 4 (ah.l s0.aa))::(an,.sl s0.ae.length 1 (af.l s0.ae))::L):=o1; simpa only [Ul] using o)⟩ He) ?_
 rintro e s (⟨rfl,oD,KF,k1,s4,rfl,g7,g8,g9,g10,RW,KG,IB,IC,h11,rfl,vh⟩| ⟨rfl,r0,rfl,yB⟩)
 ·try dsimp only at H
  refine q1 ?_
  have vi:Has h11 ((KG,.sl oD.length 1 (af.l oD))::(aq,.ob [.bool s4.aj,.rs IB 0 s4.aa.length 4,.rs IC 0 s4.ae.length 1])::(IB,.sl s4.aa.length 4 (ah.l s4.aa))::(IC,.sl s4.ae.length 1 (af.l s4.ae))::L):=Has.del vh 0
  obtain rfl:=oi H
  exact qt <| ⟨.inl rfl,⟨KG,IB,IC,by kernel_rfl,he vi⟩⟩
 ·try dsimp only at H
  obtain rfl:=oi H
  exact⟨.inl rfl,yB⟩
end
end Go.Proofs.Ytifafejidnjckaa
namespace Go.Proofs.Ytifafejidnjckaa
open Go Go.R
open Go.IntKind (i64 u64 u8 u32)
def Am:b4:=gK [0,1,2,4,5] [] [25,9,11,15,15,23] [] []
def ck.f (m:Nat)(s0:ab)(aF:List Int):Option ((List Int)):=(Cv 8 (aF.length:Int) (0:Int)).bind fun x0=>(Kw x0 aF).bind fun P4=>(dF.f m P4 (fun y0=>cL.f m y0 s0)).bind fun x1=>some (kA x1)
def ck.fin (L:Mem)  (r:(List Int))(s:St):Prop:=∃dI:Nat,aM Try.prog (s.open Am) Try.f33.results.toList=some (.rs dI 0 r.length 1)∧Has s.h ((dI,.sl r.length 1 (af.l r))::L)
def NK (cf:CallF)(m:Nat):Prop:=∀(s0:ab) (aF:List Int) (r:(List Int)),ck.f m s0 aF=some r→∀h L xs,Has h L→aP bQ h xs [.fp [.bool s0.aj,ah.fz s0.aa,af.fz s0.ae] 0,af.fz aF]→∃dI h',cf 33 xs h=some (.rs dI 0 r.length 1,h')∧Has h' ((dI,.sl r.length 1 (af.l r))::L)∧∀j,j<h.next→h.ver j=h'.ver j
section
variable {cf:CallF}{m:Nat}
theorem lj {aV:FuncId→b4}(ha:aV 33=Am)(NL:PU cf m)(NM:PV cf m)(NN:PE cf m)(s0:ab)(aF:List Int)(h:AHeap)(L:Mem)  (o:Has h (L)){out:(List Int)}(H:ck.f m s0 aF=some out) :
  ∃r h',ba Try.prog aV cf m 33 [.fp [.bool s0.aj,ah.fz s0.aa,af.fz s0.ae] 0,af.fz aF] h=some (r,h')∧∃dI:Nat,r = .rs dI 0 out.length 1∧Has h' ((dI,.sl out.length 1 (af.l out))::L):=by
 refine ar (fn:=Try.f33) ha Try.func33 (by kernel_rfl) (by kernel_rfl) ?_
 refine aI (Q:=fun s=>ck.fin L out s) (fun _ _ ⟨h1,dI,h2,h3⟩=>⟨h1,_,h2,dI,rfl,h3⟩) ?_
 have H:_=some out:=H
 unfold ck.f at H
 show dt _ cf Am m _ ⟨.fp [.bool s0.aj,ah.fz s0.aa,af.fz s0.ae] 0::af.fz aF::sQ [],[],h⟩ _
 refine qq ?_
 obtain⟨aH,h0,e0,o0⟩:=gd (cs:=[.fp [.bool s0.aj,ah.fz s0.aa,af.fz s0.ae] 0]) o (by kernel_rfl)
 refine qr [.a 0 e0] <| qq ?_
 obtain⟨x0,e1,H⟩:=bl H
 obtain⟨di,h1,e2,o1⟩:=uQ (P:=Try.prog) (E:=af) (z:=(0:Int)) (zv:=.int .i64 (0:Int)) gH o0 3 rfl rfl rfl rfl e1
 refine qr [.a 2 e2] <| qq ?_
 obtain⟨P4,e3,H⟩:=bl H
 obtain⟨h2,e4,o2⟩:=F7 (P:=Try.prog) (E:=af) (l:=x0) (s:=aF) (q:=0) (t2:=33) gH o1 rfl (If (E:=af)) rfl (Kx _) e3
 refine qr [.a 2 e4] <| qq ?_
 obtain⟨x1,e5,H⟩:=bl H
 obtain⟨h3,e6,o3⟩:=NL _ _ _ e5 h2 _ _ _ (o2) 58 [.ptr aH 0] [.fp [.fp [.bool s0.aj,ah.fz s0.aa,af.fz s0.ae] 0] 0] rfl (fun h' sV y0 r hr hx=>NM y0 _ r hr h' sV hx) (fun h' K' o'=>iA (ai (dV (q:=(K'.length+0)) o' (iW rfl) (ai (gj (pure_cons (dO) (pure_cons (bL.bH (E:=ah) (l:=s0.aa)) (pure_cons (bL.bH (E:=af) (l:=s0.ae)) (pure_nil))))) (ay))) (ay))) (fun h_=>iA (ai (gj (pure_cons (k8 (pure_cons (dO) (pure_cons (bL.bH (E:=ah) (l:=s0.aa)) (pure_cons (bL.bH (E:=af) (l:=s0.ae)) (pure_nil))))) (pure_nil))) (ay))) [.rs di 0 x0.length 1,.fn 58 [.ptr aH 0]] (au (rfl) (au (rfl) (bI)))
 refine qr [.a 2 e6] ?_
 have o4:Has h3 ((di,.sl x1.length 1 (af.l x1))::L):=Has.del o3 1
 refine qq ?_
 obtain⟨h4,e7,o5⟩:=H8 (l:=x1) NN o4
 obtain rfl:=oi H
 exact qr [.a 1 e7] <| qq <| q0 <| qt <| ⟨.inl rfl,⟨di,by rw [mL]; kernel_rfl,he (by simpa only [mL] using o5)⟩⟩
end
end Go.Proofs.Ytifafejidnjckaa
namespace Go.Proofs.Ytifafejidnjckaa
open Go Go.R
open Go.IntKind (i64 u64 u8 u32)
def An:b4:=gK [0,1,2,4,5,6,7] [] [102,31] [] []
def dP.f (m:Nat)(s0:ab)(b8:ByteArray)(n0:Int):Option (Int × Int × ab):=(bW.f m s0 (cz.f m b8 n0) (ao.mk (4:Int) n0 b8 ([]))).bind fun x0=>some (x0.1,x0.2.1,x0.2.2)
def dP.fin (L:Mem)(aq:Nat)(ak:Nat)(an:Nat)(s0:ab)(b8:ByteArray)(n0:Int)(r:Int × Int × ab)(s:St):Prop:=∃aB aC:Nat,aM Try.prog (s.open An) Try.f35.results.toList=some (.tup [.int .i64 r.1,.int .i64 r.2.1])∧Has s.h ((aq,.ob [.bool r.2.2.aj,.rs aB 0 r.2.2.aa.length 4,.rs aC 0 r.2.2.ae.length 1])::(aB,.sl r.2.2.aa.length 4 (ah.l r.2.2.aa))::(aC,.sl r.2.2.ae.length 1 (af.l r.2.2.ae))::L)
def P5 (cf:CallF)(m:Nat):Prop:=∀(s0:ab) (b8:ByteArray) (n0:Int) (r:Int × Int × ab),dP.f m s0 b8 n0=some r→∀h L (aq:Nat) (ak:Nat) (an:Nat),Has h ((aq,.ob [.bool s0.aj,.rs ak 0 s0.aa.length 4,.rs an 0 s0.ae.length 1])::(ak,.sl s0.aa.length 4 (ah.l s0.aa))::(an,.sl s0.ae.length 1 (af.l s0.ae))::L)→∀xs,xs.map aK=[.ptr aq 0,.str b8,.int .i64 n0]→∃aB aC h',cf 35 xs h=some (.tup [.int .i64 r.1,.int .i64 r.2.1],h')∧Has h' ((aq,.ob [.bool r.2.2.aj,.rs aB 0 r.2.2.aa.length 4,.rs aC 0 r.2.2.ae.length 1])::(aB,.sl r.2.2.aa.length 4 (ah.l r.2.2.aa))::(aC,.sl r.2.2.ae.length 1 (af.l r.2.2.ae))::L)
section
variable {cf:CallF}{m:Nat}
theorem lJ {aV:FuncId→b4}(ha:aV 35=An)(vf:Jw cf m)(NO:PW cf m)(s0:ab)(b8:ByteArray)(n0:Int)(h:AHeap)(L:Mem)(aq:Nat)(ak:Nat)(an:Nat)  (o:Has h ((aq,.ob [.bool s0.aj,.rs ak 0 s0.aa.length 4,.rs an 0 s0.ae.length 1])::(ak,.sl s0.aa.length 4 (ah.l s0.aa))::(an,.sl s0.ae.length 1 (af.l s0.ae))::L)){out:Int × Int × ab}(H:dP.f m s0 b8 n0=some out) :
  ∃r h',ba Try.prog aV cf m 35 [.ptr aq 0,.str b8,.int .i64 n0] h=some (r,h')∧∃aB aC:Nat,r = .tup [.int .i64 out.1,.int .i64 out.2.1]∧Has h' ((aq,.ob [.bool out.2.2.aj,.rs aB 0 out.2.2.aa.length 4,.rs aC 0 out.2.2.ae.length 1])::(aB,.sl out.2.2.aa.length 4 (ah.l out.2.2.aa))::(aC,.sl out.2.2.ae.length 1 (af.l out.2.2.ae))::L):=by
 refine ar (fn:=Try.f35) ha Try.func35 (by kernel_rfl) (by kernel_rfl) ?_
 refine aI (Q:=fun s=>dP.fin L aq ak an s0 b8 n0 out s) (fun _ _ ⟨h1,aB,aC,h2,h3⟩=>⟨h1,_,h2,aB,aC,rfl,h3⟩) ?_
 have H:_=some out:=H
 unfold dP.f at H
 show dt _ cf An m _ ⟨.ptr aq 0 :: .str b8 :: .int .i64 n0::nK [],[],h⟩ _
 refine qq ?_
 obtain⟨aH,h0,e0,o0⟩:=gd (cs:=[.str b8]) o (by kernel_rfl)
 obtain⟨di,h1,e1,o1⟩:=gd (cs:=[.int .i64 n0]) o0 (by kernel_rfl)
 refine qr [.a 0 e0,.a 1 e1] <| qq ?_
 obtain⟨x0,e2,H⟩:=bl H
 obtain⟨ez,dd,h2,e3,o2⟩:=vf _ _ _ _ e2 h1 _ _ _ _ ((Has.front (Has.front (Has.front (Has.front (Has.front o1 1 rfl) 1 rfl) 4 rfl) 4 rfl) 4 rfl)) 63 [.ptr aH 0,.ptr di 0] [.fp [.str b8] 0,.fp [.int .i64 n0] 0] rfl (fun h' sV  r hr hx=>NO _ _ r hr h' sV hx) (fun h' K' o'=>iA (ai (dV (q:=(K'.length+4)) o' (iW rfl) (ai (cH) (ay))) (ai (dV (q:=(K'.length+3)) o' (iW rfl) (ai (br) (ay))) (ay)))) (fun h_=>iA (ai (gj (pure_cons (l8) (pure_nil))) (ai (gj (pure_cons (fS) (pure_nil))) (ay)))) [.ptr aq 0,.fn 63 [.ptr aH 0,.ptr di 0],.agg [.int .i64 (4:Int),.int .i64 n0,.str b8,.nils]] (au (rfl) (au (rfl) (au (aN (mb (bO (bf) (bO (bf) (bO (j6) (bO (qT (E:=af)) (ma))))))) (bI))))
 refine qr [.v 2 (show bn Try.prog h1 9 (.ptr aH 0)=some (.str b8) from bV (q:=1) (cs:=[.str b8]) o1 rfl (by kernel_rfl)),.v 3 (show bn Try.prog h1 3 (.ptr di 0)=some (.int .i64 n0) from bV (q:=0) (cs:=[.int .i64 n0]) o1 rfl (by kernel_rfl)),.a 5 e3] ?_
 have o3:Has h2 ((aq,.ob [.bool x0.2.2.aj,.rs ez 0 x0.2.2.aa.length 4,.rs dd 0 x0.2.2.ae.length 1])::(ez,.sl x0.2.2.aa.length 4 (ah.l x0.2.2.aa))::(dd,.sl x0.2.2.ae.length 1 (af.l x0.2.2.ae))::(di,.ob [.int .i64 n0])::L):=Has.del o2 4
 have o4:Has h2 ((aq,.ob [.bool x0.2.2.aj,.rs ez 0 x0.2.2.aa.length 4,.rs dd 0 x0.2.2.ae.length 1])::(ez,.sl x0.2.2.aa.length 4 (ah.l x0.2.2.aa))::(dd,.sl x0.2.2.ae.length 1 (af.l x0.2.2.ae))::L):=Has.del o3 3
 obtain rfl:=oi H
 exact qt <| ⟨.inl rfl,⟨ez,dd,by kernel_rfl,he o4⟩⟩
end
end Go.Proofs.Ytifafejidnjckaa
namespace Go.Proofs.Ytifafejidnjckaa
open Go Go.R
open Go.IntKind (i64 u64 u8 u32)
def Ao:b4:=gK [0,2] [] [2,1] [] []
def fi.f (m:Nat)(s0:ByteArray):Option (Bool):=if (s0.data.toList==(UU #[124]).data.toList)=true then (some true) else (if (s0.data.toList==(UU #[35]).data.toList)=true then (some true) else ((cE.f m s0 (97:Int) (122:Int)).bind fun x0=>some x0))
def fi.fin (L:Mem)(r:Bool)(s:St):Prop:=∃av,aM Try.prog (s.open Ao) Try.f50.results.toList=some av∧fL s.h av (.bool r)
def LL (cf:CallF)(m:Nat):Prop:=∀(s0:ByteArray) (r:Bool),fi.f m s0=some r→∀h xs,aP bQ h xs [.str s0]→cf 50 xs h=some (.bool r,h)
section
variable {cf:CallF}{m:Nat}
theorem se {aV:FuncId→b4}(ha:aV 50=Ao)(NP:PY cf m)(s0:ByteArray)(h:AHeap)(L:Mem)  (o:Has h (L)){out:Bool}(H:fi.f m s0=some out) :
  ∃r h',ba Try.prog aV cf m 50 [.str s0] h=some (r,h')∧fL h' r (.bool out):=by
 refine ar (fn:=Try.f50) ha Try.func50 (by kernel_rfl) (by kernel_rfl) ?_
 refine aI (Q:=fun s=>fi.fin L out s) (fun _ _ h=>h) ?_
 have H:_=some out:=H
 unfold fi.f at H
 show dt _ cf Ao m _ ⟨[.str s0,.any],[],h⟩ _
 refine q1 <| qq ?_
 rcases hZ H with⟨c0,H⟩| ⟨c0,H⟩
 ·obtain rfl:=oi H
  exact qr [.b 2 c0] <| qt <| ⟨.inl rfl,dz (.bool true) h (du (aD))⟩
 ·rcases hZ H with⟨c1,H⟩| ⟨c1,H⟩
  ·obtain rfl:=oi H
   exact qr [.b 2 c0,.b 6 c1] <| qt <| ⟨.inl rfl,dz (.bool true) h (du (aD))⟩
  ·obtain⟨x0,e0,H⟩:=bl H
   obtain rfl:=oi H
   exact qr [.b 2 c0,.b 6 c1,.a 8 (NP _ _ _ _ e0 h _ (gm (ai (cH) (ai (br) (ai (br) (ay))))))] <| qt <| ⟨.inl rfl,dz (.bool x0) h (du (aD))⟩
end
end Go.Proofs.Ytifafejidnjckaa
namespace Go.Proofs.Ytifafejidnjckaa
open Go Go.R
open Go.IntKind (i64 u64 u8 u32)
def Ap:b4:=gK [0,1,2,3] [] [8,7] [] []
def cd.f (m:Nat)(x0:ByteArray)(x1:List Int)(x2:ab):Option (Bool):=(fi.f m x0).bind fun x3=>if x3=true then (if (decide ((x1.length:Int)≥(1:Int)))=true then (if (decide ((x1.length:Int)≤(8:Int)))=true then ((ei.f m x1 (fun y0=>cg.f m y0 x2)).bind fun x4=>some (!x4)) else (some false)) else (some false)) else (some false)
def cd.fin (L:Mem)(r:Bool)(s:St):Prop:=∃av,aM Try.prog (s.open Ap) Try.f61.results.toList=some av∧fL s.h av (.bool r)
def P6 (cf:CallF)(m:Nat):Prop:=∀(x0:ByteArray) (x1:List Int) (x2:ab) (r:Bool),cd.f m x0 x1 x2=some r→∀h xs,aP bQ h xs [.fp [.str x0] 0,.fp [af.fz x1] 0,.fp [.fp [.bool x2.aj,ah.fz x2.aa,af.fz x2.ae] 0] 0]→cf 61 xs h=some (.bool r,h)
section
variable {cf:CallF}{m:Nat}
theorem kc {aV:FuncId→b4}(ha:aV 61=Ap)(pw:LL cf m)(DY:LJ cf m)(NQ:PJ cf m)(x0:ByteArray)(x1:List Int)(x2:ab)(h:AHeap)(L:Mem)  (o:Has h (L)){out:Bool}(H:cd.f m x0 x1 x2=some out) :
  ∃r h',ba Try.prog aV cf m 61 [.fp [.str x0] 0,.fp [af.fz x1] 0,.fp [.fp [.bool x2.aj,ah.fz x2.aa,af.fz x2.ae] 0] 0] h=some (r,h')∧fL h' r (.bool out):=by
 refine ar (fn:=Try.f61) ha Try.func61 (by kernel_rfl) (by kernel_rfl) ?_
 refine aI (Q:=fun s=>cd.fin L out s) (fun _ _ h=>h) ?_
 have H:_=some out:=H
 unfold cd.f at H
 show dt _ cf Ap m _ ⟨[.fp [.str x0] 0,.fp [af.fz x1] 0,.fp [.fp [.bool x2.aj,ah.fz x2.aa,af.fz x2.ae] 0] 0,.any],[],h⟩ _
 refine q1 <| qq ?_
 obtain⟨x3,e0,H⟩:=bl H
 rcases hZ H with⟨c0,H⟩| ⟨c0,H⟩
 ·rcases hZ H with⟨c1,H⟩| ⟨c1,H⟩
  ·rcases hZ H with⟨c2,H⟩| ⟨c2,H⟩
   ·obtain⟨x4,e1,H⟩:=bl H
    obtain rfl:=oi H
    exact qr [.a 1 (pw _ _ e0 h _ (gm (ai (cH) (ay)))),.b 2 c0,.b 7 c1,.b 12 c2,.a 15 (DY _ _ _ e1 62 [.fp [.fp [.bool x2.aj,ah.fz x2.aa,af.fz x2.ae] 0] 0] (fun h' sV y0 r hr hx=>NQ y0 _ r hr h' sV hx) (fun h_=>iA (ai (gj (pure_cons (k8 (pure_cons (dO) (pure_cons (bL.bH (E:=ah) (l:=x2.aa)) (pure_cons (bL.bH (E:=af) (l:=x2.ae)) (pure_nil))))) (pure_nil))) (ay))) h _ (gm (ai (fT (E:=af)) (ai (r8 (ai (gj (pure_cons (k8 (pure_cons (dO) (pure_cons (bL.bH (E:=ah) (l:=x2.aa)) (pure_cons (bL.bH (E:=af) (l:=x2.ae)) (pure_nil))))) (pure_nil))) (ay))) (ay)))))] <| qt <| ⟨.inl rfl,dz (.bool (!x4)) h (du (aD))⟩
   ·obtain rfl:=oi H
    exact qr [.a 1 (pw _ _ e0 h _ (gm (ai (cH) (ay)))),.b 2 c0,.b 7 c1,.b 12 c2] <| qt <| ⟨.inl rfl,dz (.bool false) h (du (aD))⟩
  ·obtain rfl:=oi H
   exact qr [.a 1 (pw _ _ e0 h _ (gm (ai (cH) (ay)))),.b 2 c0,.b 7 c1] <| qt <| ⟨.inl rfl,dz (.bool false) h (du (aD))⟩
 ·obtain rfl:=oi H
  exact qr [.a 1 (pw _ _ e0 h _ (gm (ai (cH) (ay)))),.b 2 c0] <| qt <| ⟨.inl rfl,dz (.bool false) h (du (aD))⟩
end
end Go.Proofs.Ytifafejidnjckaa
namespace Go.Proofs.Ytifafejidnjckaa
open Go Go.R
open Go.IntKind (i64 u64 u8 u32)
def Aq:b4:=gK [0,1,2,3,4,6,7,23,44,60,89] [2] [2035,2003,1939,2031,1875,2031,1747,2031,1491,2031,1019,2031,2031] [] []
def hY.f (m:Nat)(n0:ao)(lB:Int):Option (Bool):=if (n0.kind==(0:Int))=true then (if (decide (n0.int≥(0:Int)))=true then (if (n0.label.data.toList==(UU #[]).data.toList)=true then (some ((n0.args.length:Int)==(0:Int))) else (some false)) else (some false)) else (if (n0.kind==(1:Int))=true then (if (decide (n0.int≥(-1099511627776:Int)))=true then (if (decide (n0.int≤(1099511627776:Int)))=true then (if (n0.label.data.toList==(UU #[]).data.toList)=true then (some ((n0.args.length:Int)==(0:Int))) else (some false)) else (some false)) else (some false)) else (if (n0.kind==(2:Int))=true then (if (n0.int==(0:Int))=true then ((fi.f m n0.label).bind fun x0=>if x0=true then (some ((n0.args.length:Int)==(0:Int))) else (some false)) else (some false)) else (if (n0.kind==(3:Int))=true then (if (n0.int==(0:Int))=true then ((fi.f m n0.label).bind fun x1=>if x1=true then (if (decide ((n0.args.length:Int)≥(1:Int)))=true then (if (decide ((n0.args.length:Int)≤(8:Int)))=true then ((ei.f m n0.args (fun y0=>gx.f m y0 lB)).bind fun x2=>some (!x2)) else (some false)) else (some false)) else (some false)) else (some false)) else (if (n0.kind==(4:Int))=true then (if (decide (n0.int≥(0:Int)))=true then ((fG.f m n0.label).bind fun x3=>if x3=true then (some ((n0.args.length:Int)==(0:Int))) else (some false)) else (some false)) else (some false)))))
def hY.fin (L:Mem)(r:Bool)(s:St):Prop:=∃av,aM Try.prog (s.open Aq) Try.f67.results.toList=some av∧fL s.h av (.bool r)
def P7 (cf:CallF)(m:Nat):Prop:=∀(n0:ao) (lB:Int) (r:Bool),hY.f m n0 lB=some r→∀h xs,aP bQ h xs [.agg [.int .i64 n0.kind,.int .i64 n0.int,.str n0.label,af.fz n0.args],.int .i64 lB]→cf 67 xs h=some (.bool r,h)
section
variable {cf:CallF}{m:Nat}
theorem sf {aV:FuncId→b4}(ha:aV 67=Aq)(pw:LL cf m)(DY:LJ cf m)(DX:Nk cf m)(NR:PL cf m)(n0:ao)(lB:Int)(h:AHeap)(L:Mem)  (o:Has h (L)){out:Bool}(H:hY.f m n0 lB=some out) :
  ∃r h',ba Try.prog aV cf m 67 [.agg [.int .i64 n0.kind,.int .i64 n0.int,.str n0.label,af.fz n0.args],.int .i64 lB] h=some (r,h')∧fL h' r (.bool out):=by
 refine ar (fn:=Try.f67) ha Try.func67 (by kernel_rfl) (by kernel_rfl) ?_
 refine aI (Q:=fun s=>hY.fin L out s) (fun _ _ h=>h) ?_
 have H:_=some out:=H
 unfold hY.f at H
 show dt _ cf Aq m _ ⟨.agg [.int .i64 n0.kind,.int .i64 n0.int,.str n0.label,af.fz n0.args] :: .int .i64 lB::RJ [],[none],h⟩ _
 refine qq ?_
 obtain⟨aH,h0,e0,o0⟩:=gd (cs:=[.int .i64 lB]) o (by kernel_rfl)
 refine qr [.a 1 e0] <| qq <| qq <| q0 <| qb 0 <| qq <| q0 <| qc H (fun c0 H=>?_) (fun c0 H=>?_)
 ·refine qq ?_
  rcases hZ H with⟨c1,H⟩| ⟨c1,H⟩
  ·rcases hZ H with⟨c2,H⟩| ⟨c2,H⟩
   ·refine qr [.b 3 c1,.b 8 c2] ?_
    have o1:Has h0 (L):=Has.del o0 0
    obtain rfl:=oi H
    exact qt <| ⟨.inl rfl,dz (.bool ((n0.args.length:Int)==(0:Int))) h0 (du (aD))⟩
   ·refine qr [.b 3 c1,.b 8 c2] ?_
    have o2:Has h0 (L):=Has.del o0 0
    obtain rfl:=oi H
    exact qt <| ⟨.inl rfl,dz (.bool false) h0 (du (aD))⟩
  ·refine qr [.b 3 c1] ?_
   have o3:Has h0 (L):=Has.del o0 0
   obtain rfl:=oi H
   exact qt <| ⟨.inl rfl,dz (.bool false) h0 (du (aD))⟩
 ·refine q1 <| qc H (fun c3 H=>?_) (fun c3 H=>?_)
  ·refine qq ?_
   rcases hZ H with⟨c4,H⟩| ⟨c4,H⟩
   ·rcases hZ H with⟨c5,H⟩| ⟨c5,H⟩
    ·rcases hZ H with⟨c6,H⟩| ⟨c6,H⟩
     ·refine qr [.b 3 c4,.b 8 c5,.b 13 c6] ?_
      have o4:Has h0 (L):=Has.del o0 0
      obtain rfl:=oi H
      exact qt <| ⟨.inl rfl,dz (.bool ((n0.args.length:Int)==(0:Int))) h0 (du (aD))⟩
     ·refine qr [.b 3 c4,.b 8 c5,.b 13 c6] ?_
      have o5:Has h0 (L):=Has.del o0 0
      obtain rfl:=oi H
      exact qt <| ⟨.inl rfl,dz (.bool false) h0 (du (aD))⟩
    ·refine qr [.b 3 c4,.b 8 c5] ?_
     have o6:Has h0 (L):=Has.del o0 0
     obtain rfl:=oi H
     exact qt <| ⟨.inl rfl,dz (.bool false) h0 (du (aD))⟩
   ·refine qr [.b 3 c4] ?_
    have o7:Has h0 (L):=Has.del o0 0
    obtain rfl:=oi H
    exact qt <| ⟨.inl rfl,dz (.bool false) h0 (du (aD))⟩
  ·refine q1 <| qc H (fun c7 H=>?_) (fun c7 H=>?_)
   ·refine qq ?_
    rcases hZ H with⟨c8,H⟩| ⟨c8,H⟩
    ·obtain⟨x0,e1,H⟩:=bl H
     rcases hZ H with⟨c9,H⟩| ⟨c9,H⟩
     ·refine qr [.b 3 c8,.a 6 (pw _ _ e1 h0 _ (gm (ai (cH) (ay)))),.b 8 c9] ?_
      have o8:Has h0 (L):=Has.del o0 0
      obtain rfl:=oi H
      exact qt <| ⟨.inl rfl,dz (.bool ((n0.args.length:Int)==(0:Int))) h0 (du (aD))⟩
     ·refine qr [.b 3 c8,.a 6 (pw _ _ e1 h0 _ (gm (ai (cH) (ay)))),.b 8 c9] ?_
      have o9:Has h0 (L):=Has.del o0 0
      obtain rfl:=oi H
      exact qt <| ⟨.inl rfl,dz (.bool false) h0 (du (aD))⟩
    ·refine qr [.b 3 c8] ?_
     have vF:Has h0 (L):=Has.del o0 0
     obtain rfl:=oi H
     exact qt <| ⟨.inl rfl,dz (.bool false) h0 (du (aD))⟩
   ·refine q1 <| qc H (fun Gd H=>?_) (fun Gd H=>?_)
    ·refine qq ?_
     rcases hZ H with⟨tN,H⟩| ⟨tN,H⟩
     ·obtain⟨x1,e2,H⟩:=bl H
      rcases hZ H with⟨DT,H⟩| ⟨DT,H⟩
      ·rcases hZ H with⟨BV,H⟩| ⟨BV,H⟩
       ·rcases hZ H with⟨DU,H⟩| ⟨DU,H⟩
        ·obtain⟨x2,e3,H⟩:=bl H
         refine qr [.b 3 tN,.a 6 (pw _ _ e2 h0 _ (gm (ai (cH) (ay)))),.b 8 DT,.b 14 BV,.b 20 DU,.a 24 (DY _ _ _ e3 79 [.fp [.int .i64 lB] 0] (fun h' sV y0 r hr hx=>NR y0 _ r hr h' sV hx) (fun h_=>iA (ai (gj (pure_cons (fS) (pure_nil))) (ay))) h0 _ (gm (ai (fT (E:=af)) (ai (r8 (ai (dV (q:=0) o0 rfl (ai (br) (ay))) (ay))) (ay)))))] ?_
         have yN:Has h0 (L):=Has.del o0 0
         obtain rfl:=oi H
         exact qt <| ⟨.inl rfl,dz (.bool (!x2)) h0 (du (aD))⟩
        ·refine qr [.b 3 tN,.a 6 (pw _ _ e2 h0 _ (gm (ai (cH) (ay)))),.b 8 DT,.b 14 BV,.b 20 DU] ?_
         have xN:Has h0 (L):=Has.del o0 0
         obtain rfl:=oi H
         exact qt <| ⟨.inl rfl,dz (.bool false) h0 (du (aD))⟩
       ·refine qr [.b 3 tN,.a 6 (pw _ _ e2 h0 _ (gm (ai (cH) (ay)))),.b 8 DT,.b 14 BV] ?_
        have vh:Has h0 (L):=Has.del o0 0
        obtain rfl:=oi H
        exact qt <| ⟨.inl rfl,dz (.bool false) h0 (du (aD))⟩
      ·refine qr [.b 3 tN,.a 6 (pw _ _ e2 h0 _ (gm (ai (cH) (ay)))),.b 8 DT] ?_
       have vi:Has h0 (L):=Has.del o0 0
       obtain rfl:=oi H
       exact qt <| ⟨.inl rfl,dz (.bool false) h0 (du (aD))⟩
     ·refine qr [.b 3 tN] ?_
      have D3:Has h0 (L):=Has.del o0 0
      obtain rfl:=oi H
      exact qt <| ⟨.inl rfl,dz (.bool false) h0 (du (aD))⟩
    ·refine q1 ?_
     have yP:Has h0 (L):=Has.del o0 0
     refine qc H (fun KH H=>?_) (fun KH H=>?_)
     ·refine qq ?_
      rcases hZ H with⟨LM,H⟩| ⟨LM,H⟩
      ·obtain⟨x3,e4,H⟩:=bl H
       rcases hZ H with⟨ID,H⟩| ⟨ID,H⟩
       ·obtain rfl:=oi H
        exact qr [.b 3 LM,.a 6 (DX _ _ e4 h0 _ (gm (ai (cH) (ay)))),.b 8 ID] <| qt <| ⟨.inl rfl,dz (.bool ((n0.args.length:Int)==(0:Int))) h0 (du (aD))⟩
       ·obtain rfl:=oi H
        exact qr [.b 3 LM,.a 6 (DX _ _ e4 h0 _ (gm (ai (cH) (ay)))),.b 8 ID] <| qt <| ⟨.inl rfl,dz (.bool false) h0 (du (aD))⟩
      ·obtain rfl:=oi H
       exact qr [.b 3 LM] <| qt <| ⟨.inl rfl,dz (.bool false) h0 (du (aD))⟩
     ·obtain rfl:=oi H
      exact qk <| qq <| q0 <| qt <| ⟨.inl rfl,dz (.bool false) h0 (du (aD))⟩
end
end Go.Proofs.Ytifafejidnjckaa
namespace Go.Proofs.Ytifafejidnjckaa
open Go Go.R
open Go.IntKind (i64 u64 u8 u32)
def Ar:b4:=gK [0,1,2,3,4,5,16] [2,3] [115,83,111,51,111,111] [] []
def dc.f (m:Nat)(a0:ao)(b0:ao):Option (Int):=if (!(a0.kind==b0.kind))=true then ((cC.f m a0.kind b0.kind).bind fun x0=>some x0) else (if (a0.kind==(3:Int))=true then ((cC.f m (a0.args.length:Int) (b0.args.length:Int)).bind fun x1=>(b7.f m a0.label b0.label).bind fun x2=>(bY.f m ([x1,x2])).bind fun x3=>some x3) else ((b7.f m a0.label b0.label).bind fun x4=>(cC.f m a0.int b0.int).bind fun x5=>(bY.f m ([x4,x5])).bind fun x6=>some x6))
def dc.fin (L:Mem)(r:Int)(s:St):Prop:=∃av,aM Try.prog (s.open Ar) Try.f70.results.toList=some av∧fL s.h av (.int .i64 r)
def LN (cf:CallF)(m:Nat):Prop:=∀(a0:ao) (b0:ao) (r:Int),dc.f m a0 b0=some r→∀h xs,aP bQ h xs [.agg [.int .i64 a0.kind,.int .i64 a0.int,.str a0.label,af.fz a0.args],.agg [.int .i64 b0.kind,.int .i64 b0.int,.str b0.label,af.fz b0.args]]→cf 70 xs h=some (.int .i64 r,h)
section
variable {cf:CallF}{m:Nat}
theorem mq {aV:FuncId→b4}(ha:aV 70=Ar)(IE:PZ cf m)(KI:PM cf m)(KJ:P3 cf m)(a0:ao)(b0:ao)(h:AHeap)(L:Mem)  (o:Has h (L)){out:Int}(H:dc.f m a0 b0=some out) :
  ∃r h',ba Try.prog aV cf m 70 [.agg [.int .i64 a0.kind,.int .i64 a0.int,.str a0.label,af.fz a0.args],.agg [.int .i64 b0.kind,.int .i64 b0.int,.str b0.label,af.fz b0.args]] h=some (r,h')∧fL h' r (.int .i64 out):=by
 refine ar (fn:=Try.f70) ha Try.func70 (by kernel_rfl) (by kernel_rfl) ?_
 refine aI (Q:=fun s=>dc.fin L out s) (fun _ _ h=>h) ?_
 have H:_=some out:=H
 unfold dc.f at H
 show dt _ cf Ar m _ ⟨.agg [.int .i64 a0.kind,.int .i64 a0.int,.str a0.label,af.fz a0.args] :: .agg [.int .i64 b0.kind,.int .i64 b0.int,.str b0.label,af.fz b0.args]::FU [],[none,none],h⟩ _
 refine q1 <| qq <| qb 0 <| qq <| q0 <| qc H (fun c0 H=>?_) (fun c0 H=>?_)
 ·refine qq ?_
  obtain⟨x0,e0,H⟩:=bl H
  obtain rfl:=oi H
  exact qr [.a 4 (IE _ _ _ e0 h _ (gm (ai (br) (ai (br) (ay)))))] <| qt <| ⟨.inl rfl,dz (.int .i64 x0) h (du (dT))⟩
 ·refine q1 <| qc H (fun c1 H=>?_) (fun c1 H=>?_)
  ·refine qq ?_
   obtain⟨x1,e1,H⟩:=bl H
   obtain⟨x2,e2,H⟩:=bl H
   obtain⟨x3,e3,H⟩:=bl H
   obtain rfl:=oi H
   exact qr [.a 6 (IE _ _ _ e1 h _ (gm (ai (br) (ai (br) (ay))))),.a 11 (KJ _ _ _ e2 h _ (gm (ai (cH) (ai (cH) (ay))))),.a 13 (KI _ _ e3 h _ (gm (ai (rP (E:=af) (l:=[x1,x2]) (cs:=[.int .i64 x1,.int .i64 x2]) (b:=true) (by kernel_rfl) (by kernel_rfl) rfl) (ay))))] <| qt <| ⟨.inl rfl,dz (.int .i64 x3) h (du (dT))⟩
  ·refine qk <| qq ?_
   obtain⟨x4,e4,H⟩:=bl H
   obtain⟨x5,e5,H⟩:=bl H
   obtain⟨x6,e6,H⟩:=bl H
   obtain rfl:=oi H
   exact qr [.a 4 (KJ _ _ _ e4 h _ (gm (ai (cH) (ai (cH) (ay))))),.a 9 (IE _ _ _ e5 h _ (gm (ai (br) (ai (br) (ay))))),.a 11 (KI _ _ e6 h _ (gm (ai (rP (E:=af) (l:=[x4,x5]) (cs:=[.int .i64 x4,.int .i64 x5]) (b:=true) (by kernel_rfl) (by kernel_rfl) rfl) (ay))))] <| qt <| ⟨.inl rfl,dz (.int .i64 x6) h (du (dT))⟩
end
end Go.Proofs.Ytifafejidnjckaa
namespace Go.Proofs.Ytifafejidnjckaa
open Go Go.R
open Go.IntKind (i64 u64 u8 u32)
def As:b4:=gK [0,1,2,5] [] [8,7] [] []
def dG.f (m:Nat)(i0:Int)(j0:Int)(x0:List ao):Option (Int):=(ix x0 i0).bind fun v0=>(ix x0 j0).bind fun v1=>(dc.f m v0 v1).bind fun x1=>some x1
def dG.fin (L:Mem)(r:Int)(s:St):Prop:=∃av,aM Try.prog (s.open As) Try.f84.results.toList=some av∧fL s.h av (.int .i64 r)
def P8 (cf:CallF)(m:Nat):Prop:=∀(i0:Int) (j0:Int) (x0:List ao) (r:Int),dG.f m i0 j0 x0=some r→∀h xs,aP bQ h xs [.int .i64 i0,.int .i64 j0,.fp [ah.fz x0] 0]→cf 84 xs h=some (.int .i64 r,h)
section
variable {cf:CallF}{m:Nat}
theorem mR {aV:FuncId→b4}(ha:aV 84=As)(D4:LN cf m)(i0:Int)(j0:Int)(x0:List ao)(h:AHeap)(L:Mem)  (o:Has h (L)){out:Int}(H:dG.f m i0 j0 x0=some out) :
  ∃r h',ba Try.prog aV cf m 84 [.int .i64 i0,.int .i64 j0,.fp [ah.fz x0] 0] h=some (r,h')∧fL h' r (.int .i64 out):=by
 refine ar (fn:=Try.f84) ha Try.func84 (by kernel_rfl) (by kernel_rfl) ?_
 refine aI (Q:=fun s=>dG.fin L out s) (fun _ _ h=>h) ?_
 have H:_=some out:=H
 unfold dG.f at H
 show dt _ cf As m _ ⟨[.int .i64 i0,.int .i64 j0,.fp [ah.fz x0] 0,.any],[],h⟩ _
 refine q1 <| qq ?_
 obtain⟨v0,e0,H⟩:=bl H
 obtain⟨v1,e1,H⟩:=bl H
 obtain⟨x1,e2,H⟩:=bl H
 obtain rfl:=oi H
 exact qr [.v 2 (fR (k:=.i64) (E:=ah) (l:=x0) wW e0),.v 3 (jZ  (E:=ah) (l:=x0) h DK DL e0),.v 6 (fR (k:=.i64) (E:=ah) (l:=x0) wW e1),.v 7 (jZ  (E:=ah) (l:=x0) h DK DL e1),.a 8 (D4 _ _ _ e2 h _ (gm (ai (jB (ai (br) (ai (br) (ai (cH) (ai (fT (E:=af)) (ay)))))) (ai (jB (ai (br) (ai (br) (ai (cH) (ai (fT (E:=af)) (ay)))))) (ay)))))] <| qt <| ⟨.inl rfl,dz (.int .i64 x1) h (du (dT))⟩
end
end Go.Proofs.Ytifafejidnjckaa
namespace Go.Proofs.Ytifafejidnjckaa
open Go Go.R
open Go.IntKind (i64 u64 u8 u32)
end Go.Proofs.Ytifafejidnjckaa
namespace Go.Proofs.Ytifafejidnjckaa
open Go Go.R
open Go.IntKind (i64 u64 u8 u32)
end Go.Proofs.Ytifafejidnjckaa
namespace Go.Proofs.Ytifafejidnjckaa
open Go Go.R
open Go.IntKind (i64 u64 u8 u32)
end Go.Proofs.Ytifafejidnjckaa
namespace Go.Proofs.Ytifafejidnjckaa
open Go Go.R
open Go.IntKind (i64 u64 u8 u32)
end Go.Proofs.Ytifafejidnjckaa
namespace Go.Proofs.Ytifafejidnjckaa
open Go Go.R
open Go.IntKind (i64 u64 u8 u32)
end Go.Proofs.Ytifafejidnjckaa
