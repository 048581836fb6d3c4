/- Part of the proof: Q127, Q129, Q135, Q136, Q143, Q147, Q148, Q44, Q47, Q48, Q59, Q74, Q79, Q80, Q82, Q103, Q115, Q116, Q117, Q118, Q121, Q133, Q139. -/
import Derived.Test.YtifafejidnjckaaGreatK8
set_option linter.unusedVariables false
set_option linter.unusedSimpArgs false
set_option maxRecDepth 100000
open ByteArray renaming mk → afC
open List renaming append_assoc → afn, nil_append → afz, cons_append → afF
open Or renaming inr → agv
namespace Go.Proofs.YtifafejidnjckaaGreat
open Go Go.R
open Go.IntKind (i64 u64 u8 u32)
def B7:bX:=gP [0,1,4,5,6,11,12,13,16,19] [] [1020,1012,996,972,959,1019,1019,892,1019,764,1019,511,1019,1019] [] []
def dX.f (m:Nat)(x0:Int)(y0:Int):Option (Int):=(cmp_isNaN_int.f m x0).bind fun x1=>(cmp_isNaN_int.f m y0).bind fun x2=>if x1=true then (if x2=true then (some 0) else (some (-1:Int))) else (if x2=true then (some 1) else (if (decide (x0<y0))=true then (some (-1:Int)) else (if (decide (x0 > y0))=true then (some 1) else (some 0))))
def dX.fin (L:Mem)(r:Int)(s:St):Prop:=∃av,aM Tryz.prog (s.open B7) Tryz.f127.results.toList=some av∧fG s.h av (.i r)
def UR (cf:CallF)(m:Nat):Prop:=∀(x0:Int) (y0:Int) (r:Int),dX.f m x0 y0=some r→∀h xs,aZ b5 h xs [.i x0,.i y0]→cf 127 xs h=some (.i r,h)
section
variable {cf:CallF}{m:Nat}
theorem qP {aX:FuncId→bX}(ha:aX 127=B7)(PT:UH cf m)(x0:Int)(y0:Int)(h:AHeap)(L:Mem)  (o:Has h (L)){out:Int}(H:dX.f m x0 y0=some out) :
  ∃r h',ba Tryz.prog aX cf m 127 [.i x0,.i y0] h=some (r,h')∧fG h' r (.i out):=by
 refine ax (fn:=Tryz.f127) ha Tryz.func127 kr kr ?_
 refine aI (Q:=fun s=>dX.fin L out s) (fun _ _ h=>h) ?_
 have H:_=some out:=H
 unfold dX.f at H
 show dB _ cf B7 m _ ⟨.i x0 :: .i y0::wA [],[],h⟩ _
 refine q1 <| qq ?_
 obtain⟨x1,e0,H⟩:=aQ H
 refine qr [.a 1 (PT _ _ e0 h _ fq)] <| qq ?_
 obtain⟨x2,e1,H⟩:=aQ H
 refine qr [.a 1 (PT _ _ e1 h _ fq)] <| qq <| qq <| q0 <| qc H (fun c0 H=>?_) (fun c0 H=>?_)
 ·refine qq <| qq <| q0 <| qc H (fun c1 H=>?_) (fun c1 H=>?_)
  ·exact q1 <| qt <| fI H
  ·exact qk <| qq <| q0 <| qt <| fI H
 ·refine qk <| qq <| qq <| q0 <| qc H (fun c2 H=>?_) (fun c2 H=>?_)
  ·exact q1 <| qt <| fI H
  ·refine qk <| qq <| qq <| q0 <| qc H (fun c3 H=>?_) (fun c3 H=>?_)
   ·exact q1 <| qt <| fI H
   ·refine qk <| qq <| qq <| q0 <| qc H (fun c4 H=>?_) (fun c4 H=>?_)
    ·exact q1 <| qt <| fI H
    ·exact qk <| qq <| q0 <| qt <| fI H
end
def B8:bX:=gP [0,1,4,5,6,11,12,13,16,19] [] [1020,1012,996,972,959,1019,1019,892,1019,764,1019,511,1019,1019] [] []
def dq.f (m:Nat)(x0:ByteArray)(y0:ByteArray):Option (Int):=(cmp_isNaN_string.f m x0).bind fun x1=>(cmp_isNaN_string.f m y0).bind fun x2=>if x1=true then (if x2=true then (some 0) else (some (-1:Int))) else (if x2=true then (some 1) else (if (Op.bytesLess x0.data.toList y0.data.toList)=true then (some (-1:Int)) else (if (!KT x0 y0)=true then (some 1) else (some 0))))
def dq.fin (L:Mem)(r:Int)(s:St):Prop:=∃av,aM Tryz.prog (s.open B8) Tryz.f129.results.toList=some av∧fG s.h av (.i r)
def US (cf:CallF)(m:Nat):Prop:=∀(x0:ByteArray) (y0:ByteArray) (r:Int),dq.f m x0 y0=some r→∀h xs,aZ b5 h xs [.str x0,.str y0]→cf 129 xs h=some (.i r,h)
section
variable {cf:CallF}{m:Nat}
theorem n7 {aX:FuncId→bX}(ha:aX 129=B8)(PU:UI cf m)(x0:ByteArray)(y0:ByteArray)(h:AHeap)(L:Mem)  (o:Has h (L)){out:Int}(H:dq.f m x0 y0=some out) :
  ∃r h',ba Tryz.prog aX cf m 129 [.str x0,.str y0] h=some (r,h')∧fG h' r (.i out):=by
 refine ax (fn:=Tryz.f129) ha Tryz.func129 kr kr ?_
 refine aI (Q:=fun s=>dq.fin L out s) (fun _ _ h=>h) ?_
 have H:_=some out:=H
 unfold dq.f at H
 show dB _ cf B8 m _ ⟨.str x0 :: .str y0::wA [],[],h⟩ _
 refine q1 <| qq ?_
 obtain⟨x1,e0,H⟩:=aQ H
 refine qr [.a 1 (PU _ _ e0 h _ fq)] <| qq ?_
 obtain⟨x2,e1,H⟩:=aQ H
 refine qr [.a 1 (PU _ _ e1 h _ fq)] <| qq <| qq <| q0 <| qc H (fun c0 H=>?_) (fun c0 H=>?_)
 ·refine qq <| qq <| q0 <| qc H (fun c1 H=>?_) (fun c1 H=>?_)
  ·exact q1 <| qt <| fI H
  ·exact qk <| qq <| q0 <| qt <| fI H
 ·refine qk <| qq <| qq <| q0 <| qc H (fun c2 H=>?_) (fun c2 H=>?_)
  ·exact q1 <| qt <| fI H
  ·refine qk <| qq <| qq <| q0 <| qc H (fun c3 H=>?_) (fun c3 H=>?_)
   ·exact q1 <| qt <| fI H
   ·refine qk <| qq <| qq <| q0 <| qc H (fun c4 H=>?_) (fun c4 H=>?_)
    ·exact q1 <| qt <| fI H
    ·exact qk <| qq <| q0 <| qt <| fI H
end
def yN:bX:=gP [0,1,2,3,8,9,13,42] [] [240,208,144,208,80,239,239] [] []
def cW.l0 (m:Nat)(l0:List ai)(gL:List Int)(n0:Int)(bQ:List Int):Nat→Int→Option (Sum Int (Int))
 | 0,_=>none
 | k+1,k0=>if (decide (k0<(gL.length:Int)))=true then ((ix l0 n0).bind fun v0=>(ix gL k0).bind fun v1=>(ix l0 v1).bind fun v2=>(ic.f m v0 v2).bind fun x0=>if x0=true then ((ix l0 n0).bind fun v3=>(ix gL k0).bind fun v4=>(ix l0 v4).bind fun v5=>(bM.f m v3 v5 bQ).bind fun x1=>if x1=true then ((ix gL k0).bind fun v6=>some (.inl v6)) else (cW.l0 m l0 gL n0 bQ k (i64.wrap (k0+1)))) else (cW.l0 m l0 gL n0 bQ k (i64.wrap (k0+1)))) else (some (.inr k0))
def cW.f (m:Nat)(l0:List ai)(gL:List Int)(n0:Int)(bQ:List Int):Option (Int):=(cW.l0 m l0 gL n0 bQ m 0).bind fun bI=>match bI with | .inl r0=>some r0 | .inr k1=>some n0
def cW.fin (L:Mem)(r:Int)(s:St):Prop:=∃av,aM Tryz.prog (s.open yN) Tryz.f143.results.toList=some av∧fG s.h av (.i r)
def OM (cf:CallF)(m:Nat):Prop:=∀(l0:List ai) (gL:List Int) (n0:Int) (bQ:List Int) (r:Int),cW.f m l0 gL n0 bQ=some r→∀h xs,aZ b5 h xs [af.fz l0,ae.fz gL,.i n0,ae.fz bQ]→cf 143 xs h=some (.i r,h)
section
variable {cf:CallF}{m:Nat}
theorem cW.cF (L:Mem)(l0:List ai)(gL:List Int)(n0:Int)(bQ:List Int)  (zJ:Ta cf m)(qQ:FN cf m):cd Tryz.prog cf yN m (sub [1,0,1,0,0] (bA Tryz.f143)) (fun k (σ:Int)=>cW.l0 m l0 gL n0 bQ k σ) (fun σ s=>match σ with | k0=>∃h0,s=⟨[af.fz l0,ae.fz gL,.i n0,ae.fz bQ,.any,.i k0,.any,.any],[],h0⟩∧Has h0 (L)) (fun out e s=>(e = .exit 0∧∃k0,.inr k0=out∧∃nA wC BP wE qF h0,s=⟨[nA,wC,.i n0,BP,.any,wE,qF,.any],[],h0⟩∧Has h0 (L))∨(e = .ret∧∃r,.inl r=out∧cW.fin L r s)):=by
 refine jW (fun _=>rfl) ?_
 rintro k k0 s out ⟨h0,rfl,o0⟩ H
 have H:cW.l0 m l0 gL n0 bQ (k+1) k0=some out:=H
 refine qq <| qq <| q0 <| qc H (fun c0 H=>?_) (fun c0 H=>?_)
 ·refine qk <| qq <| qb 1 <| qq ?_
  obtain⟨v0,e0,H⟩:=aQ H
  obtain⟨v1,e1,H⟩:=aQ H
  obtain⟨v2,e2,H⟩:=aQ H
  obtain⟨x0,e3,H⟩:=aQ H
  rcases dZ H with⟨c1,H⟩| ⟨c1,H⟩
  ·obtain⟨v3,e4,H⟩:=aQ H
   obtain⟨v4,e5,H⟩:=aQ H
   obtain⟨v5,e6,H⟩:=aQ H
   obtain⟨x1,e7,H⟩:=aQ H
   refine qr [.v 2 (bW (k:=.i64) (E:=af) (l:=l0) lF e0),.v 3 (gf  (E:=af) (l:=l0) h0 sM sN e0),.v 7 (bW (k:=.i64) (E:=ae) (l:=gL) de e1),.v 8 (dk  (E:=ae) (l:=gL) h0 A3 e1 rfl),.v 9 (bW (k:=.i64) (E:=af) (l:=l0) lF e2),.v 10 (gf  (E:=af) (l:=l0) h0 sM sN e2),.a 11 (zJ _ _ _ e3 h0 _ fq),.b 12 c1,.v 15 (bW (k:=.i64) (E:=af) (l:=l0) lF e4),.v 16 (gf  (E:=af) (l:=l0) h0 sM sN e4),.v 20 (bW (k:=.i64) (E:=ae) (l:=gL) de e5),.v 21 (dk  (E:=ae) (l:=gL) h0 A3 e5 rfl),.v 22 (bW (k:=.i64) (E:=af) (l:=l0) lF e6),.v 23 (gf  (E:=af) (l:=l0) h0 sM sN e6),.a 25 (qQ _ _ _ _ e7 h0 _ fq)] ?_
   refine qc H (fun c2 H=>?_) (fun c2 H=>?_)
   ·refine qq ?_
    obtain⟨v6,e8,H⟩:=aQ H
    exact qr [.v 2 (bW (k:=.i64) (E:=ae) (l:=gL) de e8),.v 3 (dk  (E:=ae) (l:=gL) h0 A3 e8 rfl)] <| qt <| agv (⟨rfl,_,oi H,yo (.i v6) h0 (vP (jC))⟩)
   ·exact qk <| q0 <| ⟨i64.wrap (k0+1),⟨h0,kr,o0⟩,H⟩
  ·exact qr [.v 2 (bW (k:=.i64) (E:=af) (l:=l0) lF e0),.v 3 (gf  (E:=af) (l:=l0) h0 sM sN e0),.v 7 (bW (k:=.i64) (E:=ae) (l:=gL) de e1),.v 8 (dk  (E:=ae) (l:=gL) h0 A3 e1 rfl),.v 9 (bW (k:=.i64) (E:=af) (l:=l0) lF e2),.v 10 (gf  (E:=af) (l:=l0) h0 sM sN e2),.a 11 (zJ _ _ _ e3 h0 _ fq),.b 12 c1] <| zD <| qk <| q0 <| ⟨i64.wrap (k0+1),⟨h0,kr,o0⟩,H⟩
 ·exact qx 0 <| Or.inl (⟨rfl,k0,oi H,af.fz l0,ae.fz gL,ae.fz bQ,.i k0,.bool (decide (k0<(gL.length:Int))),h0,kr,o0⟩)
theorem wP {aX:FuncId→bX}(ha:aX 143=yN)(zJ:Ta cf m)(qQ:FN cf m)(l0:List ai)(gL:List Int)(n0:Int)(bQ:List Int)(h:AHeap)(L:Mem)  (o:Has h (L)){out:Int}(H:cW.f m l0 gL n0 bQ=some out) :
  ∃r h',ba Tryz.prog aX cf m 143 [af.fz l0,ae.fz gL,.i n0,ae.fz bQ] h=some (r,h')∧fG h' r (.i out):=by
 refine ax (fn:=Tryz.f143) ha Tryz.func143 kr kr ?_
 refine aI (Q:=fun s=>cW.fin L out s) (fun _ _ h=>h) ?_
 have H:_=some out:=H
 unfold cW.f at H
 show dB _ cf yN m _ ⟨af.fz l0::ae.fz gL :: .i n0::ae.fz bQ::lW [],[],h⟩ _
 refine q1 <| qq <| qq <| q0 <| qb 0 ?_
 obtain⟨bI,e9,H⟩:=aQ H
 refine ql (cW.cF L l0 gL n0 bQ  zJ qQ 0 _ _ ⟨h,kr,o⟩ e9) ?_
 rintro e s (⟨rfl,k1,rfl,g0,g1,g2,g3,g4,h1,rfl,o1⟩| ⟨rfl,r0,rfl,sw⟩)
 ·try dsimp only at H
  exact q1 <| qt <| fI H
 ·try dsimp only at H
  obtain rfl:=oi H
  exact⟨.inl rfl,sw⟩
end
def yO:bX:=gP [0,1,2,3,4,10,11,20,23] [] [450,394,266,138,394,394,394,394,511] [] []
def gZ.l0 (m:Nat)(m0:Int)(bf:Int→Int→Option (Int)):Nat→(List Int)→Int→Int→Option ((List Int) × Int × Int)
 | 0,_,_,_=>none
 | k+1,bO,i0,j0=>if (!(i0==j0))=true then (if (decide (i0 > j0))=true then ((cM.f m bO (i64.wrap (m0 - i0)) m0 j0 bf).bind fun x0=>gZ.l0 m m0 bf k x0 (i64.wrap (i0 - j0)) j0) else ((cM.f m bO (i64.wrap (m0 - i0)) (i64.wrap (i64.wrap (m0+j0) - i0)) i0 bf).bind fun x1=>gZ.l0 m m0 bf k x1 i0 (i64.wrap (j0 - i0)))) else (some ((bO,i0,j0)))
def gZ.f (m:Nat)(aF:List Int)(a0:Int)(m0:Int)(b0:Int)(bf:Int→Int→Option (Int)):Option ((List Int)):=(gZ.l0 m m0 bf m aF (i64.wrap (m0 - a0)) (i64.wrap (b0 - m0))).bind fun bI=>match bI with | (eJ,i1,j1)=>(cM.f m eJ (i64.wrap (m0 - i1)) m0 i1 bf).bind fun x2=>some x2
def gZ.fin (L:Mem)(aV:Nat)(aF:List Int)(a0:Int)(m0:Int)(b0:Int)(bf:Int→Int→Option (Int))(r:(List Int))(s:St):Prop:=aM Tryz.prog (s.open yO) Tryz.f148.results.toList=some (.tup [])∧Has s.h ((aV,.sl aF.length 1 (ae.l r))::L)
def UT (cf:CallF)(m:Nat):Prop:=∀(aF:List Int) (a0:Int) (m0:Int) (b0:Int) (bf:Int→Int→Option (Int)) (r:(List Int)),gZ.f m aF a0 m0 b0 bf=some r→∀h L (dE:Nat) (aV:Nat),Has h ((aV,.sl dE 1 (ae.l aF))::L)→∀(gR:FuncId) (bw bg:List AV),(aP (.fn gR bw) = .fn gR bw)→(∀(h:AHeap) (xs:List AV) (a0:Int) (a1:Int) r,bf a0 a1=some r→aZ b5 h xs ([.i a0,.i a1]++bg)→cf gR xs h=some (.i r,h))→(∀h K,Has h (K++(L))→aZ dK h bw bg)→(∀h,aZ dK h bg bg)→∀xs,xs.map aP=[.rs aV 0 dE 1,.i a0,.i m0,.i b0,.fn gR bw]→∃h',cf 148 xs h=some (.tup [],h')∧Has h' ((aV,.sl dE 1 (ae.l r))::L)
section
variable {cf:CallF}{m:Nat}
theorem gZ.cF (L:Mem)(aV:Nat)(gR:FuncId)(bw bg:List AV)(aF:List Int)(a0:Int)(m0:Int)(b0:Int)(bf:Int→Int→Option (Int))  (kY:aP (.fn gR bw) = .fn gR bw)(kc:∀(h:AHeap) (xs:List AV) (a0:Int) (a1:Int) r,bf a0 a1=some r→aZ b5 h xs ([.i a0,.i a1]++bg)→cf gR xs h=some (.i r,h))(ke:∀h K,Has h (K++(L))→aZ dK h bw bg)(kZ:∀h,aZ dK h bg bg)(D2:RH cf m):cd Tryz.prog cf yO m (sub [1,1,0,0,0] (bA Tryz.f148)) (fun k (σ:(List Int) × Int × Int)=>gZ.l0 m m0 bf k σ.1 σ.2.1 σ.2.2) (fun σ s=>match σ with | (bO,i0,j0)=>∃h0,s=⟨[.rs aV 0 aF.length 1,.any,.i m0,.any,.fn gR bw,.i i0,.i j0,.any,.any],[],h0⟩∧Has h0 ((aV,.sl aF.length 1 (ae.l bO))::L)) (fun out e s=>(e = .exit 0∧∃bO i0 j0,(bO,i0,j0)=out∧∃yH X4 h0,s=⟨[.rs aV 0 aF.length 1,.any,.i m0,.any,.fn gR bw,.i i0,yH,X4,.any],[],h0⟩∧Has h0 ((aV,.sl aF.length 1 (ae.l bO))::L))):=by
 refine jW (fun _=>rfl) ?_
 rintro k ⟨bO,i0,j0⟩ s out ⟨h0,rfl,o0⟩ H
 have H:gZ.l0 m m0 bf (k+1) bO i0 j0=some out:=H
 refine qq <| qq <| q0 <| qc H (fun c0 H=>?_) (fun c0 H=>?_)
 ·refine qk <| qb 1 <| qq <| q0 <| qc H (fun c1 H=>?_) (fun c1 H=>?_)
  ·refine qq ?_
   obtain⟨x0,e0,H⟩:=aQ H
   obtain⟨h1,e1,o1⟩:=D2 _ _ _ _ _ _ e0 h0 _ _ _ (o0) gR bw bg kY kc (fun h' K' o'=>ke h' (K'++[]) (by simpa only [afn,afF,afz] using o')) kZ [.rs aV 0 aF.length 1,.i (i64.wrap (m0 - i0)),.i m0,.i j0,.fn gR bw] cq
   exact qr [.a 7 e1] <| q0 <| ⟨(x0,i64.wrap (i0 - j0),j0),⟨h1,kr,o1⟩,H⟩
  ·refine qq ?_
   obtain⟨x1,e2,H⟩:=aQ H
   obtain⟨h2,e3,o2⟩:=D2 _ _ _ _ _ _ e2 h0 _ _ _ (o0) gR bw bg kY kc (fun h' K' o'=>ke h' (K'++[]) (by simpa only [afn,afF,afz] using o')) kZ [.rs aV 0 aF.length 1,.i (i64.wrap (m0 - i0)),.i (i64.wrap (i64.wrap (m0+j0) - i0)),.i i0,.fn gR bw] cq
   exact qr [.a 11 e3] <| q0 <| ⟨(x1,i0,i64.wrap (j0 - i0)),⟨h2,kr,o2⟩,H⟩
 ·exact qx 0 <| ⟨rfl,bO,i0,j0,oi H,.i j0,.bool (!(i0==j0)),h0,kr,o0⟩
theorem B9 {aX:FuncId→bX}(ha:aX 148=yO)(D2:RH cf m)(aF:List Int)(a0:Int)(m0:Int)(b0:Int)(bf:Int→Int→Option (Int))(h:AHeap)(L:Mem)(aV:Nat)(gR:FuncId)(bw bg:List AV)  (kY:aP (.fn gR bw) = .fn gR bw)(kc:∀(h:AHeap) (xs:List AV) (a0:Int) (a1:Int) r,bf a0 a1=some r→aZ b5 h xs ([.i a0,.i a1]++bg)→cf gR xs h=some (.i r,h))(ke:∀h K,Has h (K++(L))→aZ dK h bw bg)(kZ:∀h,aZ dK h bg bg)(o:Has h ((aV,.sl aF.length 1 (ae.l aF))::L)){out:(List Int)}(H:gZ.f m aF a0 m0 b0 bf=some out) :
  ∃r h',ba Tryz.prog aX cf m 148 [.rs aV 0 aF.length 1,.i a0,.i m0,.i b0,.fn gR bw] h=some (r,h')∧r = .tup []∧Has h' ((aV,.sl aF.length 1 (ae.l out))::L):=by
 refine ax (fn:=Tryz.f148) ha Tryz.func148 kr kr ?_
 refine aI (Q:=fun s=>gZ.fin L aV aF a0 m0 b0 bf out s) (fun _ _ ⟨h1,h2,h3⟩=>⟨h1,_,h2,rfl,h3⟩) ?_
 have H:_=some out:=H
 unfold gZ.f at H
 show dB _ cf yO m _ ⟨.rs aV 0 aF.length 1 :: .i a0 :: .i m0 :: .i b0 :: .fn gR bw::lW [],[],h⟩ _
 refine q1 <| qq <| q0 <| qq <| qb 0 ?_
 obtain⟨bI,e4,H⟩:=aQ H
 refine ql (gZ.cF L aV gR bw bg aF a0 m0 b0 bf  kY kc ke kZ D2 (aF,i64.wrap (m0 - a0),i64.wrap (b0 - m0)) _ _ ⟨h,kr,o⟩ e4) ?_
 rintro e s ⟨rfl,eJ,i1,j1,rfl,g0,g1,h3,rfl,o3⟩
 try dsimp only at H
 obtain⟨x2,e5,H⟩:=aQ H
 obtain⟨h4,e6,o4⟩:=D2 _ _ _ _ _ _ e5 h3 _ _ _ (o3) gR bw bg kY kc (fun h' K' o'=>ke h' (K'++[]) (by simpa only [afn,afF,afz] using o')) kZ [.rs aV 0 aF.length 1,.i (i64.wrap (m0 - i1)),.i m0,.i i1,.fn gR bw] cq
 obtain rfl:=oi H
 exact qr [.a 7 e6] <| ⟨.inr rfl,⟨kr,he o4⟩⟩
end
def Hz:bX:=gP [0,1,2,4,5,6,7] [] [102,31] [] []
def fU.f (m:Nat)(s0:ab)(bG:ByteArray)(n0:Int):Option (Int × Int × ab):=(cY.f m s0 (dV.f m bG n0) (ai.mk 4 n0 bG ([]))).bind fun x0=>some (x0.1,x0.2.1,x0.2.2)
def fU.fin (L:Mem)(aq:Nat)(ak:Nat)(az:Nat)(s0:ab)(bG:ByteArray)(n0:Int)(r:Int × Int × ab)(s:St):Prop:=∃aB aC:Nat,aM Tryz.prog (s.open Hz) Tryz.f44.results.toList=some (.tup [.i r.1,.i r.2.1])∧Has s.h ((aq,.ob [.bool r.2.2.aA,.rs aB 0 r.2.2.aa.length 4,.rs aC 0 r.2.2.an.length 1])::(aB,.sl r.2.2.aa.length 4 (af.l r.2.2.aa))::(aC,.sl r.2.2.an.length 1 (ae.l r.2.2.an))::L)
def S44 (cf:CallF)(m:Nat):Prop:=∀(s0:ab) (bG:ByteArray) (n0:Int) (r:Int × Int × ab),fU.f m s0 bG n0=some r→∀h L (aq:Nat) (ak:Nat) (az:Nat),Has h ((aq,.ob [.bool s0.aA,.rs ak 0 s0.aa.length 4,.rs az 0 s0.an.length 1])::(ak,.sl s0.aa.length 4 (af.l s0.aa))::(az,.sl s0.an.length 1 (ae.l s0.an))::L)→∀xs,xs.map aP=[.ptr aq 0,.str bG,.i n0]→∃aB aC h',cf 44 xs h=some (.tup [.i r.1,.i r.2.1],h')∧Has h' ((aq,.ob [.bool r.2.2.aA,.rs aB 0 r.2.2.aa.length 4,.rs aC 0 r.2.2.an.length 1])::(aB,.sl r.2.2.aa.length 4 (af.l r.2.2.aa))::(aC,.sl r.2.2.an.length 1 (ae.l r.2.2.an))::L)
section
variable {cf:CallF}{m:Nat}
theorem pM {aX:FuncId→bX}(ha:aX 44=Hz)(B2:S5 cf m)(X5:S86 cf m)(s0:ab)(bG:ByteArray)(n0:Int)(h:AHeap)(L:Mem)(aq:Nat)(ak:Nat)(az:Nat)  (o:Has h ((aq,.ob [.bool s0.aA,.rs ak 0 s0.aa.length 4,.rs az 0 s0.an.length 1])::(ak,.sl s0.aa.length 4 (af.l s0.aa))::(az,.sl s0.an.length 1 (ae.l s0.an))::L)){out:Int × Int × ab}(H:fU.f m s0 bG n0=some out) :
  ∃r h',ba Tryz.prog aX cf m 44 [.ptr aq 0,.str bG,.i n0] h=some (r,h')∧∃aB aC:Nat,r = .tup [.i out.1,.i out.2.1]∧Has h' ((aq,.ob [.bool out.2.2.aA,.rs aB 0 out.2.2.aa.length 4,.rs aC 0 out.2.2.an.length 1])::(aB,.sl out.2.2.aa.length 4 (af.l out.2.2.aa))::(aC,.sl out.2.2.an.length 1 (ae.l out.2.2.an))::L):=by
 refine ax (fn:=Tryz.f44) ha Tryz.func44 kr kr ?_
 refine aI (Q:=fun s=>fU.fin L aq ak az s0 bG n0 out s) (fun _ _ ⟨h1,aB,aC,h2,h3⟩=>⟨h1,_,h2,aB,aC,rfl,h3⟩) ?_
 have H:_=some out:=H
 unfold fU.f at H
 show dB _ cf Hz m _ ⟨.ptr aq 0 :: .str bG :: .i n0::lW [],[],h⟩ _
 refine qq ?_
 obtain⟨aV,h0,e0,o0⟩:=iX (cs:=[.str bG]) o kr
 obtain⟨dr,h1,e1,o1⟩:=iX (cs:=[.i n0]) o0 kr
 refine qr [.a 0 e0,.a 1 e1] <| qq ?_
 obtain⟨x0,e2,H⟩:=aQ H
 obtain⟨cm,cE,h2,e3,o2⟩:=B2 _ _ _ _ e2 h1 _ _ _ _ ((bN (bN (bN (bN (bN o1 1) 1) 4) 4) 4)) 86 [.ptr aV 0,.ptr dr 0] [.fp [.str bG] 0,.fp [.i n0] 0] rfl (fun h' zF  r hr hx=>X5 _ _ r hr h' zF hx) (fun h' K' o'=>ll (ao (da (q:=(K'.length+4)) o' (lV rfl) (ao (oN) (aJ))) (ao (da (q:=(K'.length+3)) o' (lV rfl) (ao (bP) (aJ))) (aJ)))) (fun h_=>ll (ao (gT (pure_cons (mG) (pure_nil))) (ao (gT (pure_cons (eu) (pure_nil))) (aJ)))) [.ptr aq 0,.fn 86 [.ptr aV 0,.ptr dr 0],.agg [.i 4,.i n0,.str bG,.nils]] (cZ (rfl) (cZ (rfl) (cZ (kW (nz (cz (iW) (cz (iW) (cz (oQ) (cz (nn (E:=ae)) (lU))))))) cq)))
 refine qr [.v 2 (show bB Tryz.prog h1 9 (.ptr aV 0)=some (.str bG) from b7 (q:=1) (cs:=[.str bG]) o1 rfl kr),.v 3 (show bB Tryz.prog h1 3 (.ptr dr 0)=some (.i n0) from b7 (q:=0) (cs:=[.i n0]) o1 rfl kr),.a 5 e3] ?_
 have o3:Has h2 ((aq,.ob [.bool x0.2.2.aA,.rs cm 0 x0.2.2.aa.length 4,.rs cE 0 x0.2.2.an.length 1])::(cm,.sl x0.2.2.aa.length 4 (af.l x0.2.2.aa))::(cE,.sl x0.2.2.an.length 1 (ae.l x0.2.2.an))::(dr,.ob [.i n0])::L):=jV o2 4
 have o4:Has h2 ((aq,.ob [.bool x0.2.2.aA,.rs cm 0 x0.2.2.aa.length 4,.rs cE 0 x0.2.2.an.length 1])::(cm,.sl x0.2.2.aa.length 4 (af.l x0.2.2.aa))::(cE,.sl x0.2.2.an.length 1 (ae.l x0.2.2.an))::L):=jV o3 3
 obtain rfl:=oi H
 exact qt <| ⟨.inl rfl,⟨cm,cE,kr,he o4⟩⟩
end
def HA:bX:=gP [0,1,2,6,7,8,9,10,13,23,32] [] [2040,1784,2023,1528,2023,1950,990,2023,1886,1919,2023] [] [(0,[(6,none,1)]),(2,[(6,none,1)]),(4,[(6,none,1)]),(7,[(6,none,1)])]
def eK.f (m:Nat)(s0:aj)(a0:Int)(b0:Int):Option ((List Int) × Int × aj):=(cN.f m s0).bind fun x0=>if (!x0)=true then (some (([]:List Int),6,s0)) else ((dy.f m s0 a0).bind fun x1=>if (!x1)=true then (some (([]:List Int),1,s0)) else ((dy.f m s0 b0).bind fun x2=>if (!x2)=true then (some (([]:List Int),1,s0)) else ((aw.f m s0 a0 b0).bind fun x3=>if (!x3.2)=true then (some (([]:List Int),8,s0)) else ((be.f m s0 x3.1).bind fun x4=>some (x4,0,(aj.mk s0.ah x3.1 s0.aK))))))
def eK.fin (L:Mem)(aq:Nat)(aG:Nat)(ak:Nat)(s0:aj)(a0:Int)(b0:Int)(r:(List Int) × Int × aj)(s:St):Prop:=∃du aB aC:Nat,aM Tryz.prog (s.open HA) Tryz.f47.results.toList=some (.tup [.rs du 0 r.1.length 1,.i r.2.1])∧Has s.h ((du,.sl r.1.length 1 (ae.l r.1))::(aq,.ob [.rs aB 0 r.2.2.ah.length 4,.rs aC 0 r.2.2.au.length 1,.bool r.2.2.aK])::(aB,.sl r.2.2.ah.length 4 (af.l r.2.2.ah))::(aC,.sl r.2.2.au.length 1 (ae.l r.2.2.au))::L)
def S47 (cf:CallF)(m:Nat):Prop:=∀(s0:aj) (a0:Int) (b0:Int) (r:(List Int) × Int × aj),eK.f m s0 a0 b0=some r→∀h L (aq:Nat) (aG:Nat) (ak:Nat),Has h ((aq,.ob [.rs aG 0 s0.ah.length 4,.rs ak 0 s0.au.length 1,.bool s0.aK])::(aG,.sl s0.ah.length 4 (af.l s0.ah))::(ak,.sl s0.au.length 1 (ae.l s0.au))::L)→∀xs,xs.map aP=[.ptr aq 0,.i a0,.i b0]→∃du aB aC h',cf 47 xs h=some (.tup [.rs du 0 r.1.length 1,.i r.2.1],h')∧Has h' ((du,.sl r.1.length 1 (ae.l r.1))::(aq,.ob [.rs aB 0 r.2.2.ah.length 4,.rs aC 0 r.2.2.au.length 1,.bool r.2.2.aK])::(aB,.sl r.2.2.ah.length 4 (af.l r.2.2.ah))::(aC,.sl r.2.2.au.length 1 (ae.l r.2.2.au))::L)
section
variable {cf:CallF}{m:Nat}
theorem pb {aX:FuncId→bX}(ha:aX 47=HA)(B1:S4 cf m)(FT:XG cf m)(RU:X0 cf m)(RV:XH cf m)(s0:aj)(a0:Int)(b0:Int)(h:AHeap)(L:Mem)(aq:Nat)(aG:Nat)(ak:Nat)  (o:Has h ((aq,.ob [.rs aG 0 s0.ah.length 4,.rs ak 0 s0.au.length 1,.bool s0.aK])::(aG,.sl s0.ah.length 4 (af.l s0.ah))::(ak,.sl s0.au.length 1 (ae.l s0.au))::L)){out:(List Int) × Int × aj}(H:eK.f m s0 a0 b0=some out) :
  ∃r h',ba Tryz.prog aX cf m 47 [.ptr aq 0,.i a0,.i b0] h=some (r,h')∧∃du aB aC:Nat,r = .tup [.rs du 0 out.1.length 1,.i out.2.1]∧Has h' ((du,.sl out.1.length 1 (ae.l out.1))::(aq,.ob [.rs aB 0 out.2.2.ah.length 4,.rs aC 0 out.2.2.au.length 1,.bool out.2.2.aK])::(aB,.sl out.2.2.ah.length 4 (af.l out.2.2.ah))::(aC,.sl out.2.2.au.length 1 (ae.l out.2.2.au))::L):=by
 refine ax (fn:=Tryz.f47) ha Tryz.func47 kr kr ?_
 refine aI (Q:=fun s=>eK.fin L aq aG ak s0 a0 b0 out s) (fun _ _ ⟨h1,du,aB,aC,h2,h3⟩=>⟨h1,_,h2,du,aB,aC,rfl,h3⟩) ?_
 have H:_=some out:=H
 unfold eK.f at H
 show dB _ cf HA m _ ⟨.ptr aq 0 :: .i a0 :: .i b0::wA [],[],h⟩ _
 refine q1 <| qq <| qq ?_
 obtain⟨x0,e0,H⟩:=aQ H
 refine qr [.a 1 (B1 _ _ e0 h _ (km (ao (da (q:=0) o rfl (ao (b4 (E:=af) (l:=s0.ah) (q:=1) o rfl (fun _=>rfl)) (ao (b4 (E:=ae) (l:=s0.au) (q:=2) o rfl (fun _=>rfl)) (ao (dD) (aJ))))) (aJ))))] <| qc H (fun c0 H=>?_) (fun c0 H=>?_)
 ·refine q1 ?_
  have o0:Has h (((0),.sl (([]:List Int).length) 1 (ae.l ([]:List Int)))::(aq,.ob [.rs aG 0 s0.ah.length 4,.rs ak 0 s0.au.length 1,.bool s0.aK])::(aG,.sl s0.ah.length 4 (af.l s0.ah))::(ak,.sl s0.au.length 1 (ae.l s0.au))::L):=Has.nil o 1
  obtain rfl:=oi H
  exact qt <| ⟨.inl rfl,⟨(0),aG,ak,kr,he o0⟩⟩
 ·refine qk <| qq <| qq ?_
  obtain⟨x1,e1,H⟩:=aQ H
  rcases dZ H with⟨c1,H⟩| ⟨c1,H⟩
  ·refine qr [.a 2 (FT _ _ _ e1 h _ (km (ao (da (q:=0) o rfl (ao (b4 (E:=af) (l:=s0.ah) (q:=1) o rfl (fun _=>rfl)) (ao (b4 (E:=ae) (l:=s0.au) (q:=2) o rfl (fun _=>rfl)) (ao (dD) (aJ))))) (ao (bP) (aJ))))),.b 4 c1] <| rW <| qq <| q0 ?_
   have o1:Has h ((((0)),.sl (([]:List Int).length) 1 (ae.l ([]:List Int)))::(aq,.ob [.rs aG 0 s0.ah.length 4,.rs ak 0 s0.au.length 1,.bool s0.aK])::(aG,.sl s0.ah.length 4 (af.l s0.ah))::(ak,.sl s0.au.length 1 (ae.l s0.au))::L):=Has.nil o 1
   obtain rfl:=oi H
   exact qt <| ⟨.inl rfl,⟨((0)),aG,ak,kr,he o1⟩⟩
  ·obtain⟨x2,e2,H⟩:=aQ H
   refine qr [.a 2 (FT _ _ _ e1 h _ (km (ao (da (q:=0) o rfl (ao (b4 (E:=af) (l:=s0.ah) (q:=1) o rfl (fun _=>rfl)) (ao (b4 (E:=ae) (l:=s0.au) (q:=2) o rfl (fun _=>rfl)) (ao (dD) (aJ))))) (ao (bP) (aJ))))),.b 4 c1,.a 7 (FT _ _ _ e2 h _ (km (ao (da (q:=0) o rfl (ao (b4 (E:=af) (l:=s0.ah) (q:=1) o rfl (fun _=>rfl)) (ao (b4 (E:=ae) (l:=s0.au) (q:=2) o rfl (fun _=>rfl)) (ao (dD) (aJ))))) (ao (bP) (aJ)))))] <| qc H (fun c3 H=>?_) (fun c3 H=>?_)
   ·refine q1 ?_
    have o2:Has h (((((0))),.sl (([]:List Int).length) 1 (ae.l ([]:List Int)))::(aq,.ob [.rs aG 0 s0.ah.length 4,.rs ak 0 s0.au.length 1,.bool s0.aK])::(aG,.sl s0.ah.length 4 (af.l s0.ah))::(ak,.sl s0.au.length 1 (ae.l s0.au))::L):=Has.nil o 1
    obtain rfl:=oi H
    exact qt <| ⟨.inl rfl,⟨(((0))),aG,ak,kr,he o2⟩⟩
   ·refine qk <| qq ?_
    obtain⟨x3,e3,H⟩:=aQ H
    obtain⟨aV,h0,e4,o3,NT⟩:=RU _ _ _ _ e3 h _ _ o (km (ao (da (q:=0) o rfl (ao (b4 (E:=af) (l:=s0.ah) (q:=1) o rfl (fun _=>rfl)) (ao (b4 (E:=ae) (l:=s0.au) (q:=2) o rfl (fun _=>rfl)) (ao (dD) (aJ))))) (ao (bP) (ao (bP) (aJ)))))
    refine qr [.a 3 e4] <| qq <| qq <| q0 <| qc H (fun c4 H=>?_) (fun c4 H=>?_)
    ·refine q1 ?_
     have o4:Has h0 ((((((0)))),.sl (([]:List Int).length) 1 (ae.l ([]:List Int)))::(aV,.sl x3.1.length 1 (ae.l x3.1))::(aq,.ob [.rs aG 0 s0.ah.length 4,.rs ak 0 s0.au.length 1,.bool s0.aK])::(aG,.sl s0.ah.length 4 (af.l s0.ah))::(ak,.sl s0.au.length 1 (ae.l s0.au))::L):=Has.nil o3 1
     have o5:Has h0 ((((((0)))),.sl (([]:List Int).length) 1 (ae.l ([]:List Int)))::(aq,.ob [.rs aG 0 s0.ah.length 4,.rs ak 0 s0.au.length 1,.bool s0.aK])::(aG,.sl s0.ah.length 4 (af.l s0.ah))::(ak,.sl s0.au.length 1 (ae.l s0.au))::L):=jV o4 1
     obtain rfl:=oi H
     exact qt <| ⟨.inl rfl,⟨((((0)))),aG,ak,kr,he o5⟩⟩
    ·refine qk <| qq ?_
     obtain⟨x4,e5,H⟩:=aQ H
     obtain⟨dr,h1,e6,o6,SN⟩:=RV _ _ _ e5 h0 _ _ o3 (km (ao (da (q:=1) o3 rfl (ao (b4 (E:=af) (l:=s0.ah) (q:=2) o3 rfl (fun _=>rfl)) (ao (b4 (E:=ae) (l:=s0.au) (q:=3) o3 rfl (fun _=>rfl)) (ao (dD) (aJ))))) (ao (b4 (E:=ae) (l:=x3.1) (q:=0) o3 rfl (fun _=>rfl)) (aJ))))
     refine qr [.a 2 e6] <| qq ?_
     obtain⟨h2,e7,o7⟩:=kb (P:=Tryz.prog) (t:=22) (off:=1) (q:=2) (cs:=[.rs aG 0 s0.ah.length 4,.rs ak 0 s0.au.length 1,.bool s0.aK]) (gF:=[.rs aG 0 s0.ah.length 4,.rs aV 0 x3.1.length 1,.bool s0.aK]) (x:=.rs aV 0 x3.1.length 1) o6 rfl kr
     refine qr [.w 4 e7] ?_
     have o8:Has h2 ((dr,.sl x4.length 1 (ae.l x4))::(aV,.sl x3.1.length 1 (ae.l x3.1))::(aq,.ob [.rs aG 0 s0.ah.length 4,.rs aV 0 x3.1.length 1,.bool s0.aK])::(aG,.sl s0.ah.length 4 (af.l s0.ah))::L):=jV o7 4
     obtain rfl:=oi H
     exact q1 <| qt <| ⟨.inl rfl,⟨dr,aG,aV,kr,he (bN (bN (bN (bN o8 1) 3) 3) 3)⟩⟩
end
def HB:bX:=gP [0,1,2,6,7,8,9,10,11,14,24,33,39] [] [8184,7672,8135,7160,8135,7998,6078,8135,7935,3839,8135,8135] [] []
def fe.f (m:Nat)(s0:aj)(a0:Int)(b0:Int):Option (Int × (List Int) × Int):=(cN.f m s0).bind fun x0=>if (!x0)=true then (some (0,[],6)) else ((dy.f m s0 a0).bind fun x1=>if (!x1)=true then (some (0,[],1)) else ((dy.f m s0 b0).bind fun x2=>if (!x2)=true then (some (0,[],1)) else ((aw.f m s0 a0 b0).bind fun x3=>if (!x3.2)=true then (some (0,[],0)) else ((be.f m s0 x3.1).bind fun x4=>if (decide ((x4.length:Int) > 0))=true then (some ((-1:Int),x4,0)) else (some (1,[],0))))))
def fe.fin (L:Mem)(r:Int × (List Int) × Int)(s:St):Prop:=∃av,aM Tryz.prog (s.open HB) Tryz.f48.results.toList=some av∧fG s.h av (.tup [.i r.1,ae.fz r.2.1,.i r.2.2])
def S48 (cf:CallF)(m:Nat):Prop:=∀(s0:aj) (a0:Int) (b0:Int) (r:Int × (List Int) × Int),fe.f m s0 a0 b0=some r→∀h xs,aZ b5 h xs [.fp [af.fz s0.ah,ae.fz s0.au,.bool s0.aK] 0,.i a0,.i b0]→cf 48 xs h=some (.tup [.i r.1,ae.fz r.2.1,.i r.2.2],h)
section
variable {cf:CallF}{m:Nat}
theorem pN {aX:FuncId→bX}(ha:aX 48=HB)(B1:S4 cf m)(FT:XG cf m)(RU:X0 cf m)(RV:XH cf m)(s0:aj)(a0:Int)(b0:Int)(h:AHeap)(L:Mem)  (o:Has h (L)){out:Int × (List Int) × Int}(H:fe.f m s0 a0 b0=some out) :
  ∃r h',ba Tryz.prog aX cf m 48 [.fp [af.fz s0.ah,ae.fz s0.au,.bool s0.aK] 0,.i a0,.i b0] h=some (r,h')∧fG h' r (.tup [.i out.1,ae.fz out.2.1,.i out.2.2]):=by
 refine ax (fn:=Tryz.f48) ha Tryz.func48 kr kr ?_
 refine aI (Q:=fun s=>fe.fin L out s) (fun _ _ h=>h) ?_
 have H:_=some out:=H
 unfold fe.f at H
 show dB _ cf HB m _ ⟨.fp [af.fz s0.ah,ae.fz s0.au,.bool s0.aK] 0 :: .i a0 :: .i b0::zB [],[],h⟩ _
 refine q1 <| qq <| qq ?_
 obtain⟨x0,e0,H⟩:=aQ H
 refine qr [.a 1 (B1 _ _ e0 h _ (km (ao (gT (pure_cons (bY.bz (E:=af) (l:=s0.ah)) (pure_cons (bY.bz (E:=ae) (l:=s0.au)) (pure_cons (dj) (pure_nil))))) (aJ))))] <| qc H (fun c0 H=>?_) (fun c0 H=>?_)
 ·obtain rfl:=oi H
  exact q1 <| qt <| ⟨.inl rfl,yo (.tup [.i 0,.nils,.i 6]) h (vP (uD (gX (jC) (gX (tw) (gX (jC) (uC))))))⟩
 ·refine qk <| qq <| qq ?_
  obtain⟨x1,e1,H⟩:=aQ H
  rcases dZ H with⟨c1,H⟩| ⟨c1,H⟩
  ·obtain rfl:=oi H
   exact qr [.a 2 (FT _ _ _ e1 h _ (km (ao (gT (pure_cons (bY.bz (E:=af) (l:=s0.ah)) (pure_cons (bY.bz (E:=ae) (l:=s0.au)) (pure_cons (dj) (pure_nil))))) (ao (bP) (aJ))))),.b 4 c1] <| rW <| qq <| q0 <| qt <| ⟨.inl rfl,yo (.tup [.i 0,.nils,.i 1]) h (vP (uD (gX (jC) (gX (tw) (gX (jC) (uC))))))⟩
  ·obtain⟨x2,e2,H⟩:=aQ H
   refine qr [.a 2 (FT _ _ _ e1 h _ (km (ao (gT (pure_cons (bY.bz (E:=af) (l:=s0.ah)) (pure_cons (bY.bz (E:=ae) (l:=s0.au)) (pure_cons (dj) (pure_nil))))) (ao (bP) (aJ))))),.b 4 c1,.a 7 (FT _ _ _ e2 h _ (km (ao (gT (pure_cons (bY.bz (E:=af) (l:=s0.ah)) (pure_cons (bY.bz (E:=ae) (l:=s0.au)) (pure_cons (dj) (pure_nil))))) (ao (bP) (aJ)))))] <| qc H (fun c3 H=>?_) (fun c3 H=>?_)
   ·obtain rfl:=oi H
    exact q1 <| qt <| ⟨.inl rfl,yo (.tup [.i 0,.nils,.i 1]) h (vP (uD (gX (jC) (gX (tw) (gX (jC) (uC))))))⟩
   ·refine qk <| qq ?_
    obtain⟨x3,e3,H⟩:=aQ H
    obtain⟨aV,h0,e4,o0,NT⟩:=RU _ _ _ _ e3 h _ _ o (km (ao (gT (pure_cons (bY.bz (E:=af) (l:=s0.ah)) (pure_cons (bY.bz (E:=ae) (l:=s0.au)) (pure_cons (dj) (pure_nil))))) (ao (bP) (ao (bP) (aJ)))))
    refine qr [.a 3 e4] <| qq <| qq <| q0 <| qc H (fun c4 H=>?_) (fun c4 H=>?_)
    ·refine q1 ?_
     obtain rfl:=oi H
     exact qt <| ⟨.inl rfl,yo (.tup [.i 0,.nils,.i 0]) h0 (vP (uD (gX (jC) (gX (tw) (gX (jC) (uC))))))⟩
    ·refine qk <| qq ?_
     obtain⟨x4,e5,H⟩:=aQ H
     obtain⟨dr,h1,e6,o2,SN⟩:=RV _ _ _ e5 h0 _ _ o0 (km (ao (gT (pure_cons (bY.bz (E:=af) (l:=s0.ah)) (pure_cons (bY.bz (E:=ae) (l:=s0.au)) (pure_cons (dj) (pure_nil))))) (ao (b4 (E:=ae) (l:=x3.1) (q:=0) o0 rfl (fun _=>rfl)) (aJ))))
     refine qr [.a 2 e6] ?_
     have o3:Has h1 ((dr,.sl x4.length 1 (ae.l x4))::L):=jV o2 1
     refine qq <| qq <| q0 <| qc H (fun c5 H=>?_) (fun c5 H=>?_)
     ·obtain rfl:=oi H
      exact q1 <| qt <| ⟨.inl rfl,yo (.tup [.i (-1:Int),.rs dr 0 x4.length 1,.i 0]) h1 (vP (uD (gX (jC) (gX (GZ (E:=ae) (l:=x4) (q:=0) o3 rfl (fun _=>rfl)) (gX (jC) (uC))))))⟩
     ·refine qk <| qq <| q0 ?_
      obtain rfl:=oi H
      exact qt <| ⟨.inl rfl,yo (.tup [.i 1,.nils,.i 0]) h1 (vP (uD (gX (jC) (gX (tw) (gX (jC) (uC))))))⟩
end
def HC:bX:=gP [0,1,2,4,5,9] [] [57,41,55,31,55,55] [] []
def dQ.f (m:Nat)(s0:ab)(l0:List Int):Option (Int):=(cw.f m s0).bind fun x0=>if (!x0)=true then (some 6) else ((gB.f m l0 (fun y0=>eD.f m y0 s0)).bind fun x1=>if x1=true then (some 1) else (some 0))
def dQ.fin (L:Mem)(r:Int)(s:St):Prop:=∃av,aM Tryz.prog (s.open HC) Tryz.f59.results.toList=some av∧fG s.h av (.i r)
def X6 (cf:CallF)(m:Nat):Prop:=∀(s0:ab) (l0:List Int) (r:Int),dQ.f m s0 l0=some r→∀h xs,aZ b5 h xs [.fp [.bool s0.aA,af.fz s0.aa,ae.fz s0.an] 0,ae.fz l0]→cf 59 xs h=some (.i r,h)
section
variable {cf:CallF}{m:Nat}
theorem pc {aX:FuncId→bX}(ha:aX 59=HC)(FJ:UB cf m)(LO:Wh cf m)(X7:S95 cf m)(s0:ab)(l0:List Int)(h:AHeap)(L:Mem)  (o:Has h (L)){out:Int}(H:dQ.f m s0 l0=some out) :
  ∃r h',ba Tryz.prog aX cf m 59 [.fp [.bool s0.aA,af.fz s0.aa,ae.fz s0.an] 0,ae.fz l0] h=some (r,h')∧fG h' r (.i out):=by
 refine ax (fn:=Tryz.f59) ha Tryz.func59 kr kr ?_
 refine aI (Q:=fun s=>dQ.fin L out s) (fun _ _ h=>h) ?_
 have H:_=some out:=H
 unfold dQ.f at H
 show dB _ cf HC m _ ⟨.fp [.bool s0.aA,af.fz s0.aa,ae.fz s0.an] 0::ae.fz l0::lW [],[],h⟩ _
 refine qq ?_
 obtain⟨aV,h0,e0,o0⟩:=iX (cs:=[.fp [.bool s0.aA,af.fz s0.aa,ae.fz s0.an] 0]) o kr
 refine qr [.a 0 e0] <| qq <| qb 0 <| qq ?_
 obtain⟨x0,e1,H⟩:=aQ H
 refine qr [.v 0 (show bB Tryz.prog h0 31 (.ptr aV 0)=some (.fp [.bool s0.aA,af.fz s0.aa,ae.fz s0.an] 0) from b7 (q:=0) (cs:=[.fp [.bool s0.aA,af.fz s0.aa,ae.fz s0.an] 0]) o0 rfl kr),.a 1 (FJ _ _ e1 h0 _ (km (ao (gT (pure_cons (dj) (pure_cons (bY.bz (E:=af) (l:=s0.aa)) (pure_cons (bY.bz (E:=ae) (l:=s0.an)) (pure_nil))))) (aJ))))] <| qc H (fun c0 H=>?_) (fun c0 H=>?_)
 ·refine q1 ?_
  exact qt <| fI H
 ·refine qq ?_
  obtain⟨x1,e2,H⟩:=aQ H
  refine qr [.a 2 (LO _ _ _ e2 95 [.fp [.fp [.bool s0.aA,af.fz s0.aa,ae.fz s0.an] 0] 0] (fun h' zF y0 r hr hx=>X7 y0 _ r hr h' zF hx) (fun h_=>ll (ao (gT (pure_cons (oT (pure_cons (dj) (pure_cons (bY.bz (E:=af) (l:=s0.aa)) (pure_cons (bY.bz (E:=ae) (l:=s0.an)) (pure_nil))))) (pure_nil))) (aJ))) h0 _ (km (ao (kF (E:=ae)) (ao (yt (ao (da (q:=0) o0 rfl (ao (gT (pure_cons (dj) (pure_cons (bY.bz (E:=af) (l:=s0.aa)) (pure_cons (bY.bz (E:=ae) (l:=s0.an)) (pure_nil))))) (aJ))) (aJ))) (aJ)))))] ?_
  refine qc H (fun c1 H=>?_) (fun c1 H=>?_)
  ·exact q1 <| qt <| fI H
  ·exact qk <| qq <| q0 <| qt <| fI H
end
def HD:bX:=gP [0,2] [] [2,1] [] []
def iF.f (m:Nat)(s0:ByteArray):Option (Bool):=if (s0.data.toList==(afC #[124]).data.toList)=true then (some true) else (if (s0.data.toList==(afC #[35]).data.toList)=true then (some true) else ((eh.f m s0 97 122).bind fun x0=>some x0))
def iF.fin (L:Mem)(r:Bool)(s:St):Prop:=∃av,aM Tryz.prog (s.open HD) Tryz.f74.results.toList=some av∧fG s.h av (.bool r)
def Wj (cf:CallF)(m:Nat):Prop:=∀(s0:ByteArray) (r:Bool),iF.f m s0=some r→∀h xs,aZ b5 h xs [.str s0]→cf 74 xs h=some (.bool r,h)
section
variable {cf:CallF}{m:Nat}
theorem yP {aX:FuncId→bX}(ha:aX 74=HD)(UU:UP cf m)(s0:ByteArray)(h:AHeap)(L:Mem)  (o:Has h (L)){out:Bool}(H:iF.f m s0=some out) :
  ∃r h',ba Tryz.prog aX cf m 74 [.str s0] h=some (r,h')∧fG h' r (.bool out):=by
 refine ax (fn:=Tryz.f74) ha Tryz.func74 kr kr ?_
 refine aI (Q:=fun s=>iF.fin L out s) (fun _ _ h=>h) ?_
 have H:_=some out:=H
 unfold iF.f at H
 show dB _ cf HD m _ ⟨[.str s0,.any],[],h⟩ _
 refine q1 <| qq ?_
 rcases dZ H with⟨c0,H⟩| ⟨c0,H⟩
 ·exact qr [.b 2 c0] <| qt <| fB H
 ·rcases dZ H with⟨c1,H⟩| ⟨c1,H⟩
  ·exact qr [.b 2 c0,.b 6 c1] <| qt <| fB H
  ·obtain⟨x0,e0,H⟩:=aQ H
   exact qr [.b 2 c0,.b 6 c1,.a 8 (UU _ _ _ _ e0 h _ fq)] <| qt <| fB H
end
def HE:bX:=gP [0,1,2,3,4,6,7,23,44,60,89] [2] [2035,2003,1939,2031,1875,2031,1747,2031,1491,2031,1019,2031,2031] [] []
def kH.f (m:Nat)(n0:ai)(py:Int):Option (Bool):=if (n0.kind==0)=true then (if (decide (n0.int≥0))=true then (if (n0.label.data.toList==(afC #[]).data.toList)=true then (some ((n0.args.length:Int)==0)) else (some false)) else (some false)) else (if (n0.kind==1)=true then (if (decide (n0.int≥(-1099511627776:Int)))=true then (if (decide (n0.int≤1099511627776))=true then (if (n0.label.data.toList==(afC #[]).data.toList)=true then (some ((n0.args.length:Int)==0)) else (some false)) else (some false)) else (some false)) else (if (n0.kind==2)=true then (if (n0.int==0)=true then ((iF.f m n0.label).bind fun x0=>if x0=true then (some ((n0.args.length:Int)==0)) else (some false)) else (some false)) else (if (n0.kind==3)=true then (if (n0.int==0)=true then ((iF.f m n0.label).bind fun x1=>if x1=true then (if (decide ((n0.args.length:Int)≥1))=true then (if (decide ((n0.args.length:Int)≤8))=true then ((gB.f m n0.args (fun y0=>jE.f m y0 py)).bind fun x2=>some (!x2)) else (some false)) else (some false)) else (some false)) else (some false)) else (if (n0.kind==4)=true then (if (decide (n0.int≥0))=true then ((iY.f m n0.label).bind fun x3=>if x3=true then (some ((n0.args.length:Int)==0)) else (some false)) else (some false)) else (some false)))))
def kH.fin (L:Mem)(r:Bool)(s:St):Prop:=∃av,aM Tryz.prog (s.open HE) Tryz.f79.results.toList=some av∧fG s.h av (.bool r)
def S79 (cf:CallF)(m:Nat):Prop:=∀(n0:ai) (py:Int) (r:Bool),kH.f m n0 py=some r→∀h xs,aZ b5 h xs [.agg [.i n0.kind,.i n0.int,.str n0.label,ae.fz n0.args],.i py]→cf 79 xs h=some (.bool r,h)
section
variable {cf:CallF}{m:Nat}
theorem yQ {aX:FuncId→bX}(ha:aX 79=HE)(uW:Wj cf m)(LO:Wh cf m)(LF:XF cf m)(UW:UE cf m)(n0:ai)(py:Int)(h:AHeap)(L:Mem)  (o:Has h (L)){out:Bool}(H:kH.f m n0 py=some out) :
  ∃r h',ba Tryz.prog aX cf m 79 [.agg [.i n0.kind,.i n0.int,.str n0.label,ae.fz n0.args],.i py] h=some (r,h')∧fG h' r (.bool out):=by
 refine ax (fn:=Tryz.f79) ha Tryz.func79 kr kr ?_
 refine aI (Q:=fun s=>kH.fin L out s) (fun _ _ h=>h) ?_
 have H:_=some out:=H
 unfold kH.f at H
 show dB _ cf HE m _ ⟨.agg [.i n0.kind,.i n0.int,.str n0.label,ae.fz n0.args] :: .i py::Ot [],[none],h⟩ _
 refine qq ?_
 obtain⟨aV,h0,e0,o0⟩:=iX (cs:=[.i py]) o kr
 refine qr [.a 1 e0] <| qq <| qq <| q0 <| qb 0 <| qq <| q0 <| qc H (fun c0 H=>?_) (fun c0 H=>?_)
 ·refine qq ?_
  rcases dZ H with⟨c1,H⟩| ⟨c1,H⟩
  ·rcases dZ H with⟨c2,H⟩| ⟨c2,H⟩
   ·refine qr [.b 3 c1,.b 8 c2] ?_
    exact qt <| fB H
   ·refine qr [.b 3 c1,.b 8 c2] ?_
    exact qt <| fB H
  ·refine qr [.b 3 c1] ?_
   exact qt <| fB H
 ·refine q1 <| qc H (fun c3 H=>?_) (fun c3 H=>?_)
  ·refine qq ?_
   rcases dZ H with⟨c4,H⟩| ⟨c4,H⟩
   ·rcases dZ H with⟨c5,H⟩| ⟨c5,H⟩
    ·rcases dZ H with⟨c6,H⟩| ⟨c6,H⟩
     ·refine qr [.b 3 c4,.b 8 c5,.b 13 c6] ?_
      exact qt <| fB H
     ·refine qr [.b 3 c4,.b 8 c5,.b 13 c6] ?_
      exact qt <| fB H
    ·refine qr [.b 3 c4,.b 8 c5] ?_
     exact qt <| fB H
   ·refine qr [.b 3 c4] ?_
    exact qt <| fB H
  ·refine q1 <| qc H (fun c7 H=>?_) (fun c7 H=>?_)
   ·refine qq ?_
    rcases dZ H with⟨c8,H⟩| ⟨c8,H⟩
    ·obtain⟨x0,e1,H⟩:=aQ H
     rcases dZ H with⟨c9,H⟩| ⟨c9,H⟩
     ·refine qr [.b 3 c8,.a 6 (uW _ _ e1 h0 _ fq),.b 8 c9] ?_
      exact qt <| fB H
     ·refine qr [.b 3 c8,.a 6 (uW _ _ e1 h0 _ fq),.b 8 c9] ?_
      exact qt <| fB H
    ·refine qr [.b 3 c8] ?_
     exact qt <| fB H
   ·refine q1 <| qc H (fun yD H=>?_) (fun yD H=>?_)
    ·refine qq ?_
     rcases dZ H with⟨oy,H⟩| ⟨oy,H⟩
     ·obtain⟨x1,e2,H⟩:=aQ H
      rcases dZ H with⟨wI,H⟩| ⟨wI,H⟩
      ·rcases dZ H with⟨qI,H⟩| ⟨qI,H⟩
       ·rcases dZ H with⟨wJ,H⟩| ⟨wJ,H⟩
        ·obtain⟨x2,e3,H⟩:=aQ H
         refine qr [.b 3 oy,.a 6 (uW _ _ e2 h0 _ fq),.b 8 wI,.b 14 qI,.b 20 wJ,.a 24 (LO _ _ _ e3 110 [.fp [.i py] 0] (fun h' zF y0 r hr hx=>UW y0 _ r hr h' zF hx) (fun h_=>ll (ao (gT (pure_cons (eu) (pure_nil))) (aJ))) h0 _ (km (ao (kF (E:=ae)) (ao (yt (ao (da (q:=0) o0 rfl (ao (bP) (aJ))) (aJ))) (aJ)))))] ?_
         exact qt <| fB H
        ·refine qr [.b 3 oy,.a 6 (uW _ _ e2 h0 _ fq),.b 8 wI,.b 14 qI,.b 20 wJ] ?_
         exact qt <| fB H
       ·refine qr [.b 3 oy,.a 6 (uW _ _ e2 h0 _ fq),.b 8 wI,.b 14 qI] ?_
        exact qt <| fB H
      ·refine qr [.b 3 oy,.a 6 (uW _ _ e2 h0 _ fq),.b 8 wI] ?_
       exact qt <| fB H
     ·refine qr [.b 3 oy] ?_
      exact qt <| fB H
    ·refine q1 ?_
     refine qc H (fun D0 H=>?_) (fun D0 H=>?_)
     ·refine qq ?_
      rcases dZ H with⟨yI,H⟩| ⟨yI,H⟩
      ·obtain⟨x3,e4,H⟩:=aQ H
       rcases dZ H with⟨B6,H⟩| ⟨B6,H⟩
       ·exact qr [.b 3 yI,.a 6 (LF _ _ e4 h0 _ fq),.b 8 B6] <| qt <| fB H
       ·exact qr [.b 3 yI,.a 6 (LF _ _ e4 h0 _ fq),.b 8 B6] <| qt <| fB H
      ·exact qr [.b 3 yI] <| qt <| fB H
     ·exact qk <| qq <| q0 <| qt <| fB H
end
def HF:bX:=gP [0,2] [] [2,1] [] []
def gJ.f (m:Nat)(s0:ByteArray):Option (Bool):=if (s0.data.toList==(afC #[124]).data.toList)=true then (some true) else (if (s0.data.toList==(afC #[35]).data.toList)=true then (some true) else ((dp.f m s0).bind fun x0=>if x0=true then ((bt s0 0).bind fun v0=>if (decide (v0≥97))=true then ((bt s0 0).bind fun v1=>some (decide (v1≤122))) else (some false)) else (some false)))
def gJ.fin (L:Mem)(r:Bool)(s:St):Prop:=∃av,aM Tryz.prog (s.open HF) Tryz.f80.results.toList=some av∧fG s.h av (.bool r)
def S80 (cf:CallF)(m:Nat):Prop:=∀(s0:ByteArray) (r:Bool),gJ.f m s0=some r→∀h xs,aZ b5 h xs [.str s0]→cf 80 xs h=some (.bool r,h)
section
variable {cf:CallF}{m:Nat}
theorem tN {aX:FuncId→bX}(ha:aX 80=HF)(LP:UQ cf m)(s0:ByteArray)(h:AHeap)(L:Mem)  (o:Has h (L)){out:Bool}(H:gJ.f m s0=some out) :
  ∃r h',ba Tryz.prog aX cf m 80 [.str s0] h=some (r,h')∧fG h' r (.bool out):=by
 refine ax (fn:=Tryz.f80) ha Tryz.func80 kr kr ?_
 refine aI (Q:=fun s=>gJ.fin L out s) (fun _ _ h=>h) ?_
 have H:_=some out:=H
 unfold gJ.f at H
 show dB _ cf HF m _ ⟨[.str s0,.any],[],h⟩ _
 refine q1 <| qq ?_
 rcases dZ H with⟨c0,H⟩| ⟨c0,H⟩
 ·exact qr [.b 2 c0] <| qt <| fB H
 ·rcases dZ H with⟨c1,H⟩| ⟨c1,H⟩
  ·exact qr [.b 2 c0,.b 6 c1] <| qt <| fB H
  ·obtain⟨x0,e0,H⟩:=aQ H
   rcases dZ H with⟨c2,H⟩| ⟨c2,H⟩
   ·obtain⟨v0,e1,H⟩:=aQ H
    rcases dZ H with⟨c3,H⟩| ⟨c3,H⟩
    ·obtain⟨v1,e2,H⟩:=aQ H
     exact qr [.b 2 c0,.b 6 c1,.a 8 (LP _ _ e0 h _ fq),.b 9 c2,.v 11 (qw (k:=.i64) U9 e1),.b 14 c3,.v 16 (qw (k:=.i64) U9 e2)] <| qt <| fB H
    ·exact qr [.b 2 c0,.b 6 c1,.a 8 (LP _ _ e0 h _ fq),.b 9 c2,.v 11 (qw (k:=.i64) U9 e1),.b 14 c3] <| qt <| fB H
   ·exact qr [.b 2 c0,.b 6 c1,.a 8 (LP _ _ e0 h _ fq),.b 9 c2] <| qt <| fB H
end
def HG:bX:=gP [0,1,2,3] [] [8,7] [] []
def dI.f (m:Nat)(x0:ByteArray)(x1:List Int)(x2:ab):Option (Bool):=(iF.f m x0).bind fun x3=>if x3=true then (if (decide ((x1.length:Int)≥1))=true then (if (decide ((x1.length:Int)≤8))=true then ((gB.f m x1 (fun y0=>dL.f m y0 x2)).bind fun x4=>some (!x4)) else (some false)) else (some false)) else (some false)
def dI.fin (L:Mem)(r:Bool)(s:St):Prop:=∃av,aM Tryz.prog (s.open HG) Tryz.f82.results.toList=some av∧fG s.h av (.bool r)
def S82 (cf:CallF)(m:Nat):Prop:=∀(x0:ByteArray) (x1:List Int) (x2:ab) (r:Bool),dI.f m x0 x1 x2=some r→∀h xs,aZ b5 h xs [.fp [.str x0] 0,.fp [ae.fz x1] 0,.fp [.fp [.bool x2.aA,af.fz x2.aa,ae.fz x2.an] 0] 0]→cf 82 xs h=some (.bool r,h)
section
variable {cf:CallF}{m:Nat}
theorem nG {aX:FuncId→bX}(ha:aX 82=HG)(uW:Wj cf m)(LO:Wh cf m)(X8:S84 cf m)(x0:ByteArray)(x1:List Int)(x2:ab)(h:AHeap)(L:Mem)  (o:Has h (L)){out:Bool}(H:dI.f m x0 x1 x2=some out) :
  ∃r h',ba Tryz.prog aX cf m 82 [.fp [.str x0] 0,.fp [ae.fz x1] 0,.fp [.fp [.bool x2.aA,af.fz x2.aa,ae.fz x2.an] 0] 0] h=some (r,h')∧fG h' r (.bool out):=by
 refine ax (fn:=Tryz.f82) ha Tryz.func82 kr kr ?_
 refine aI (Q:=fun s=>dI.fin L out s) (fun _ _ h=>h) ?_
 have H:_=some out:=H
 unfold dI.f at H
 show dB _ cf HG m _ ⟨[.fp [.str x0] 0,.fp [ae.fz x1] 0,.fp [.fp [.bool x2.aA,af.fz x2.aa,ae.fz x2.an] 0] 0,.any],[],h⟩ _
 refine q1 <| qq ?_
 obtain⟨x3,e0,H⟩:=aQ H
 rcases dZ H with⟨c0,H⟩| ⟨c0,H⟩
 ·rcases dZ H with⟨c1,H⟩| ⟨c1,H⟩
  ·rcases dZ H with⟨c2,H⟩| ⟨c2,H⟩
   ·obtain⟨x4,e1,H⟩:=aQ H
    exact qr [.a 1 (uW _ _ e0 h _ fq),.b 2 c0,.b 7 c1,.b 12 c2,.a 15 (LO _ _ _ e1 84 [.fp [.fp [.bool x2.aA,af.fz x2.aa,ae.fz x2.an] 0] 0] (fun h' zF y0 r hr hx=>X8 y0 _ r hr h' zF hx) (fun h_=>ll (ao (gT (pure_cons (oT (pure_cons (dj) (pure_cons (bY.bz (E:=af) (l:=x2.aa)) (pure_cons (bY.bz (E:=ae) (l:=x2.an)) (pure_nil))))) (pure_nil))) (aJ))) h _ (km (ao (kF (E:=ae)) (ao (yt (ao (gT (pure_cons (oT (pure_cons (dj) (pure_cons (bY.bz (E:=af) (l:=x2.aa)) (pure_cons (bY.bz (E:=ae) (l:=x2.an)) (pure_nil))))) (pure_nil))) (aJ))) (aJ)))))] <| qt <| fB H
   ·exact qr [.a 1 (uW _ _ e0 h _ fq),.b 2 c0,.b 7 c1,.b 12 c2] <| qt <| fB H
  ·exact qr [.a 1 (uW _ _ e0 h _ fq),.b 2 c0,.b 7 c1] <| qt <| fB H
 ·exact qr [.a 1 (uW _ _ e0 h _ fq),.b 2 c0] <| qt <| fB H
end
def Ca:bX:=gP [0,1,2,3,4,5,16] [2,3] [115,83,111,51,111,111] [] []
def eV.f (m:Nat)(a0:ai)(b0:ai):Option (Int):=if (!(a0.kind==b0.kind))=true then ((dX.f m a0.kind b0.kind).bind fun x0=>some x0) else (if (a0.kind==3)=true then ((dX.f m (a0.args.length:Int) (b0.args.length:Int)).bind fun x1=>(dq.f m a0.label b0.label).bind fun x2=>(dd.f m ([x1,x2])).bind fun x3=>some x3) else ((dq.f m a0.label b0.label).bind fun x4=>(dX.f m a0.int b0.int).bind fun x5=>(dd.f m ([x4,x5])).bind fun x6=>some x6))
def eV.fin (L:Mem)(r:Int)(s:St):Prop:=∃av,aM Tryz.prog (s.open Ca) Tryz.f103.results.toList=some av∧fG s.h av (.i r)
def ON (cf:CallF)(m:Nat):Prop:=∀(a0:ai) (b0:ai) (r:Int),eV.f m a0 b0=some r→∀h xs,aZ b5 h xs [.agg [.i a0.kind,.i a0.int,.str a0.label,ae.fz a0.args],.agg [.i b0.kind,.i b0.int,.str b0.label,ae.fz b0.args]]→cf 103 xs h=some (.i r,h)
section
variable {cf:CallF}{m:Nat}
theorem qR {aX:FuncId→bX}(ha:aX 103=Ca)(LQ:UR cf m)(PV:UF cf m)(PW:US cf m)(a0:ai)(b0:ai)(h:AHeap)(L:Mem)  (o:Has h (L)){out:Int}(H:eV.f m a0 b0=some out) :
  ∃r h',ba Tryz.prog aX cf m 103 [.agg [.i a0.kind,.i a0.int,.str a0.label,ae.fz a0.args],.agg [.i b0.kind,.i b0.int,.str b0.label,ae.fz b0.args]] h=some (r,h')∧fG h' r (.i out):=by
 refine ax (fn:=Tryz.f103) ha Tryz.func103 kr kr ?_
 refine aI (Q:=fun s=>eV.fin L out s) (fun _ _ h=>h) ?_
 have H:_=some out:=H
 unfold eV.f at H
 show dB _ cf Ca m _ ⟨.agg [.i a0.kind,.i a0.int,.str a0.label,ae.fz a0.args] :: .agg [.i b0.kind,.i b0.int,.str b0.label,ae.fz b0.args]::wz [],[none,none],h⟩ _
 refine q1 <| qq <| qb 0 <| qq <| q0 <| qc H (fun c0 H=>?_) (fun c0 H=>?_)
 ·refine qq ?_
  obtain⟨x0,e0,H⟩:=aQ H
  exact qr [.a 4 (LQ _ _ _ e0 h _ fq)] <| qt <| fI H
 ·refine q1 <| qc H (fun c1 H=>?_) (fun c1 H=>?_)
  ·refine qq ?_
   obtain⟨x1,e1,H⟩:=aQ H
   obtain⟨x2,e2,H⟩:=aQ H
   obtain⟨x3,e3,H⟩:=aQ H
   exact qr [.a 6 (LQ _ _ _ e1 h _ fq),.a 11 (PW _ _ _ e2 h _ fq),.a 13 (PV _ _ e3 h _ (km (ao (yb (E:=ae) (l:=[x1,x2]) (cs:=[.i x1,.i x2]) (b:=true) kr kr rfl) (aJ))))] <| qt <| fI H
  ·refine qk <| qq ?_
   obtain⟨x4,e4,H⟩:=aQ H
   obtain⟨x5,e5,H⟩:=aQ H
   obtain⟨x6,e6,H⟩:=aQ H
   exact qr [.a 4 (PW _ _ _ e4 h _ fq),.a 9 (LQ _ _ _ e5 h _ fq),.a 11 (PV _ _ e6 h _ (km (ao (yb (E:=ae) (l:=[x4,x5]) (cs:=[.i x4,.i x5]) (b:=true) kr kr rfl) (aJ))))] <| qt <| fI H
end
def Cb:bX:=gP [0,1,2,5] [] [8,7] [] []
def fy.f (m:Nat)(i0:Int)(j0:Int)(x0:List ai):Option (Int):=(ix x0 i0).bind fun v0=>(ix x0 j0).bind fun v1=>(eV.f m v0 v1).bind fun x1=>some x1
def fy.fin (L:Mem)(r:Int)(s:St):Prop:=∃av,aM Tryz.prog (s.open Cb) Tryz.f115.results.toList=some av∧fG s.h av (.i r)
def UX (cf:CallF)(m:Nat):Prop:=∀(i0:Int) (j0:Int) (x0:List ai) (r:Int),fy.f m i0 j0 x0=some r→∀h xs,aZ b5 h xs [.i i0,.i j0,.fp [af.fz x0] 0]→cf 115 xs h=some (.i r,h)
section
variable {cf:CallF}{m:Nat}
theorem rK {aX:FuncId→bX}(ha:aX 115=Cb)(D3:ON cf m)(i0:Int)(j0:Int)(x0:List ai)(h:AHeap)(L:Mem)  (o:Has h (L)){out:Int}(H:fy.f m i0 j0 x0=some out) :
  ∃r h',ba Tryz.prog aX cf m 115 [.i i0,.i j0,.fp [af.fz x0] 0] h=some (r,h')∧fG h' r (.i out):=by
 refine ax (fn:=Tryz.f115) ha Tryz.func115 kr kr ?_
 refine aI (Q:=fun s=>fy.fin L out s) (fun _ _ h=>h) ?_
 have H:_=some out:=H
 unfold fy.f at H
 show dB _ cf Cb m _ ⟨[.i i0,.i j0,.fp [af.fz x0] 0,.any],[],h⟩ _
 refine q1 <| qq ?_
 obtain⟨v0,e0,H⟩:=aQ H
 obtain⟨v1,e1,H⟩:=aQ H
 obtain⟨x1,e2,H⟩:=aQ H
 exact qr [.v 2 (bW (k:=.i64) (E:=af) (l:=x0) lF e0),.v 3 (gf  (E:=af) (l:=x0) h sM sN e0),.v 6 (bW (k:=.i64) (E:=af) (l:=x0) lF e1),.v 7 (gf  (E:=af) (l:=x0) h sM sN e1),.a 8 (D3 _ _ _ e2 h _ fq)] <| qt <| fI H
end
def mP:bX:=gP [0,2,3,4,5,6,7,8,9,10,11,12,13,14,15,22,27,42,56,67,73,95,109,120,127,148,177] [] [134217726,134217722,134217714,134217666,134217602,134184898,134217602,134217474,134151938,134217474,134086402,134217538,133955394,134217538,134217538,134217474,134217426,133693138,134217426,133168850,134217426,134217426,134216914,132119762,134216914,130022610,134216914,134216666,125829082,134216666,134214618,134214618,134210522,117433306,134210522,134202330,134202330,134185946,100631514,134185946,67077082,134185946,134210522,134216666,134217725] [] [(3,[(5,none,1),(6,none,1)]),(30,[(12,none,1)])]
def ay.l1 (m:Nat)(l0:List ai):Nat→(List Int)→(List Bool)→(List Int)→Bool→Int→Option ((List Int) × (List Bool) × (List Int) × Bool × Int)
 | 0,_,_,_,_,_=>none
 | k+1,fA,gp,fC,n9,i0=>if (decide (i0≥0))=true then ((ix gp i0).bind fun v0=>if v0=true then (ay.l1 m l0 k fA gp fC n9 (i64.wrap (i0 - 1))) else ((ix l0 i0).bind fun v1=>(cQ.f m v1 gp).bind fun x2=>if (!x2)=true then (ay.l1 m l0 k fA gp fC n9 (i64.wrap (i0 - 1))) else ((cW.f m l0 fC i0 fA).bind fun x3=>(ix fA i0).bind fun v2=>(ix (fA.set i0.toNat x3) i0).bind fun v3=>if (v3==i0)=true then ((app 8 fC ([i0])).bind fun x4=>(ix gp i0).bind fun v4=>ay.l1 m l0 k (fA.set i0.toNat x3) (gp.set i0.toNat true) x4 true (i64.wrap (i0 - 1))) else ((ix gp i0).bind fun v5=>ay.l1 m l0 k (fA.set i0.toNat x3) (gp.set i0.toNat true) fC true (i64.wrap (i0 - 1)))))) else (some ((fA,gp,fC,n9,i0)))
def ay.l0 (m:Nat)(l0:List ai):Nat→(List Int)→(List Bool)→(List Int)→Bool→Option ((List Int) × (List Bool) × (List Int) × Bool)
 | 0,_,_,_,_=>none
 | k+1,bQ,fS,iZ,r7=>if r7=true then ((ay.l1 m l0 m bQ fS iZ false (i64.wrap ((l0.length:Int) - 1))).bind fun bI=>match bI with | (FU,LR,Cc,LS,i1)=>ay.l0 m l0 k FU LR Cc LS) else (some ((bQ,fS,iZ,r7)))
def ay.l3 (m:Nat)(l0:List ai)(i2:Int)(x5:List Int):Nat→(List Int)→Int→Option ((List Int) × Int)
 | 0,_,_=>none
 | k+1,fh,k0=>(ix fh i2).bind fun v8=>if (v8==i2)=true then ((ix x5 k0).bind fun v9=>if (decide (v9<i2))=true then ((ix l0 i2).bind fun v10=>(ix x5 k0).bind fun v11=>(ix l0 v11).bind fun v12=>(ic.f m v10 v12).bind fun x6=>if x6=true then ((ix x5 k0).bind fun LG=>(ix fh LG).bind fun CP=>(ix fh i2).bind fun qN=>ay.l3 m l0 i2 x5 k (fh.set i2.toNat CP) (i64.wrap (k0+1))) else (ay.l3 m l0 i2 x5 k fh (i64.wrap (k0+1)))) else (some ((fh,k0)))) else (some ((fh,k0)))
def ay.l2 (m:Nat)(l0:List ai)(iz:List Bool):Nat→(List Int)→(List Int)→Int→Option ((List Int) × (List Int) × Int)
 | 0,_,_,_=>none
 | k+1,iG,lO,i2=>if (decide (i2<(l0.length:Int)))=true then ((ix iz i2).bind fun v6=>if v6=true then (ay.l2 m l0 iz k iG lO (i64.wrap (i2+1))) else ((app 8 lO ([i2])).bind fun x5=>(ix iG i2).bind fun v7=>(ay.l3 m l0 i2 x5 m (iG.set i2.toNat i2) 0).bind fun jD=>match jD with | (FV,k1)=>ay.l2 m l0 iz k FV x5 (i64.wrap (i2+1)))) else (some ((iG,lO,i2)))
def ay.l6 (m:Nat)(l0:List ai)(cu:List Int)(bL:List Int)(j0:Int)(rA:Int):Nat→(List Int)→Int→Option ((List Int) × Int)
 | 0,_,_=>none
 | k+1,eL,k2=>(ix eL rA).bind fun UM=>if (UM==rA)=true then (if (decide (k2<j0))=true then ((ix bL rA).bind fun Wi=>(ix cu k2).bind fun v20=>(ix bL v20).bind fun v21=>if (Wi==v21)=true then ((ix l0 rA).bind fun v22=>(ix cu k2).bind fun v23=>(ix l0 v23).bind fun v24=>(bM.f m v22 v24 bL).bind fun x8=>if x8=true then ((ix cu k2).bind fun v25=>(ix eL v25).bind fun UY=>(ix eL rA).bind fun v27=>ay.l6 m l0 cu bL j0 rA k (eL.set rA.toNat UY) (i64.wrap (k2+1))) else (ay.l6 m l0 cu bL j0 rA k eL (i64.wrap (k2+1)))) else (ay.l6 m l0 cu bL j0 rA k eL (i64.wrap (k2+1)))) else (some ((eL,k2)))) else (some ((eL,k2)))
def ay.l5 (m:Nat)(l0:List ai)(cu:List Int)(bL:List Int):Nat→Bool→(List Int)→Int→Option (Bool × (List Int) × Int)
 | 0,_,_,_=>none
 | k+1,np,dh,j0=>if (decide (j0<(cu.length:Int)))=true then ((ix cu j0).bind fun rA=>(ix dh rA).bind fun PS=>(ay.l6 m l0 cu bL j0 rA m (dh.set rA.toNat rA) 0).bind fun eA=>match eA with | (vV,k3)=>if np=true then (ay.l5 m l0 cu bL k true vV (i64.wrap (j0+1))) else ((ix vV rA).bind fun v28=>(ix bL rA).bind fun X9=>ay.l5 m l0 cu bL k (!(v28==X9)) vV (i64.wrap (j0+1)))) else (some ((np,dh,j0)))
def ay.l4 (m:Nat)(l0:List ai)(cu:List Int):Nat→(List Int)→Bool→Option ((List Int) × Bool)
 | 0,_,_=>none
 | k+1,bL,r8=>if r8=true then ((app 8 ([]:List Int) bL).bind fun x7=>(ay.l5 m l0 cu bL m false x7 0).bind fun D4=>match D4 with | (LU,D5,j1)=>ay.l4 m l0 cu k D5 LU) else (some ((bL,r8)))
def ay.f (m:Nat)(l0:List ai):Option ((List Int)):=(sr 8 (l0.length:Int) 0).bind fun x0=>(sr 1 (l0.length:Int) false).bind fun x1=>(ay.l0 m l0 m x0 x1 ([]:List Int) true).bind fun eT=>match eT with | (yR,iz,OO,UZ)=>(ay.l2 m l0 iz m yR ([]:List Int) 0).bind fun qJ=>match qJ with | (yS,cu,i3)=>(ay.l4 m l0 cu m yS true).bind fun jI=>match jI with | (uX,U0)=>some uX
def ay.fin (L:Mem)(r:(List Int))(s:St):Prop:=∃av,aM Tryz.prog (s.open mP) Tryz.f133.results.toList=some av∧fG s.h av (ae.fz r)
def U1 (cf:CallF)(m:Nat):Prop:=∀(l0:List ai) (r:(List Int)),ay.f m l0=some r→∀h xs,aZ b5 h xs [af.fz l0]→cf 133 xs h=some (ae.fz r,h)
section
variable {cf:CallF}{m:Nat}
theorem ay.jG (L:Mem)(l0:List ai)  (D6:OF cf m)(D7:OM cf m):cd Tryz.prog cf mP m (sub [1,1,1,1,0,1,0,0,1,0,1,1,0,0] (bA Tryz.f133)) (fun k (σ:(List Int) × (List Bool) × (List Int) × Bool × Int)=>ay.l1 m l0 k σ.1 σ.2.1 σ.2.2.1 σ.2.2.2.1 σ.2.2.2.2) (fun σ s=>match σ with | (fA,gp,fC,n9,i0)=>∃iA iy ir h3,s=⟨af.fz l0 :: .any :: .rs ir 0 fA.length 1 :: .rs iy 0 gp.length 1 :: .rs iA 0 fC.length 1 :: .rs ((0)) 0 (([]:List Int).length) 1 :: .bool n9 :: .i i0::Ra [],[],h3⟩∧Has h3 ((((0)),.sl (([]:List Int).length) 1 (ae.l ([]:List Int)))::(iA,.sl fC.length 1 (ae.l fC))::(iy,.sl gp.length 1 (eZ.l gp))::(ir,.sl fA.length 1 (ae.l fA))::L)) (fun out e s=>(e = .exit 2∧∃fA gp fC n9 i0,(fA,gp,fC,n9,i0)=out∧∃yx RW iA iy ir h3,s=⟨af.fz l0 :: .any :: .rs ir 0 fA.length 1 :: .rs iy 0 gp.length 1 :: .rs iA 0 fC.length 1 :: .rs ((0)) 0 (([]:List Int).length) 1 :: .bool n9::yx::wA (RW::zB []),[],h3⟩∧Has h3 ((((0)),.sl (([]:List Int).length) 1 (ae.l ([]:List Int)))::(iA,.sl fC.length 1 (ae.l fC))::(iy,.sl gp.length 1 (eZ.l gp))::(ir,.sl fA.length 1 (ae.l fA))::L))):=by
 refine jW (fun _=>rfl) ?_
 rintro k ⟨fA,gp,fC,n9,i0⟩ s out ⟨iA,iy,ir,h3,rfl,o5⟩ H
 have H:ay.l1 m l0 (k+1) fA gp fC n9 i0=some out:=H
 refine qq <| qq <| q0 <| qc H (fun c1 H=>?_) (fun c1 H=>?_)
 ·refine qk <| qq <| qb 3 <| qq <| qq ?_
  obtain⟨v0,e4,H⟩:=aQ H
  rcases dZ H with⟨c2,H⟩| ⟨c2,H⟩
  ·exact qr [.v 2 (aL (k:=.i64) (E:=eZ) (l:=gp) (q:=2) NH o5 rfl e4),.v 3 (bn  (E:=eZ) (l:=gp) (q:=2) o5 rfl A4 e4 rfl),.b 4 c2] <| rW <| qx 3 <| q0 <| ⟨(fA,gp,fC,n9,i64.wrap (i0 - 1)),⟨iA,iy,ir,h3,kr,o5⟩,H⟩
  ·obtain⟨v1,e5,H⟩:=aQ H
   obtain⟨x2,e6,H⟩:=aQ H
   refine qr [.v 2 (aL (k:=.i64) (E:=eZ) (l:=gp) (q:=2) NH o5 rfl e4),.v 3 (bn  (E:=eZ) (l:=gp) (q:=2) o5 rfl A4 e4 rfl),.b 4 c2,.v 7 (bW (k:=.i64) (E:=af) (l:=l0) lF e5),.v 8 (gf  (E:=af) (l:=l0) h3 sM sN e5),.a 10 (D6 _ _ _ e6 h3 _ (km (ao (oO (ao (bP) (ao (bP) (ao (oN) (ao (kF (E:=ae)) (aJ)))))) (ao (b4 (E:=eZ) (l:=gp) (q:=2) o5 rfl (fun _=>rfl)) (aJ)))))] <| qc H (fun c4 H=>?_) (fun c4 H=>?_)
   ·exact qx 3 <| q0 <| ⟨(fA,gp,fC,n9,i64.wrap (i0 - 1)),⟨iA,iy,ir,h3,kr,o5⟩,H⟩
   ·refine qk <| qq ?_
    obtain⟨x3,e7,H⟩:=aQ H
    obtain⟨v2,e8,H⟩:=aQ H
    obtain⟨h4,e9,o6⟩:=dJ (P:=Tryz.prog) (tf:=3) (E:=ae) (l:=fA) (q:=3) (v:=x3) (x:=.i x3) o5 rfl Z3 e8 rfl rfl
    refine qr [.a 6 (D7 _ _ _ _ _ e7 h3 _ (km (ao (kF (E:=af)) (ao (b4 (E:=ae) (l:=fC) (q:=1) o5 rfl (fun _=>rfl)) (ao (bP) (ao (b4 (E:=ae) (l:=fA) (q:=3) o5 rfl (fun _=>rfl)) (aJ))))))),.v 7 (aL (k:=.i64) (E:=ae) (l:=fA) (q:=3) de o5 rfl e8),.w 8 e9] <| qq <| qq ?_
    obtain⟨v3,nW,H⟩:=aQ H
    refine qr [.v 2 (aL (k:=.i64) (E:=ae) (l:=(fA.set i0.toNat x3)) (q:=3) de o6 rfl nW),.v 3 (bn  (E:=ae) (l:=(fA.set i0.toNat x3)) (q:=3) o6 rfl A3 nW rfl)] <| qc H (fun c5 H=>?_) (fun c5 H=>?_)
    ·obtain⟨x4,rG,H⟩:=aQ H
     obtain⟨lh,h5,sy,o7⟩:=dY (P:=Tryz.prog) (E:=ae) (l:=fC) (q:=1) (t2:=22) (x:=.fz [.i i0] 1 true) (l2:=([i0])) de o6 rfl kr rfl rG
     refine qr [.a 3 sy] <| qq ?_
     obtain⟨v4,rZ,H⟩:=aQ H
     obtain⟨h6,wG,o8⟩:=dJ (P:=Tryz.prog) (tf:=4) (E:=eZ) (l:=gp) (q:=2) (v:=true) (x:=.bool true) o7 rfl Z4 rZ rfl rfl
     exact qr [.v 2 (aL (k:=.i64) (E:=eZ) (l:=gp) (q:=2) NH o7 rfl rZ),.w 3 wG] <| q0 <| q0 <| ⟨(fA.set i0.toNat x3,gp.set i0.toNat true,x4,true,i64.wrap (i0 - 1)),⟨lh,iy,ir,h6,ld,(rz o8)⟩,H⟩
    ·refine qk <| qq ?_
     obtain⟨v5,sA,H⟩:=aQ H
     obtain⟨h7,uP,o9⟩:=dJ (P:=Tryz.prog) (tf:=4) (E:=eZ) (l:=gp) (q:=2) (v:=true) (x:=.bool true) o6 rfl Z4 sA rfl rfl
     exact qr [.v 2 (aL (k:=.i64) (E:=eZ) (l:=gp) (q:=2) NH o6 rfl sA),.w 3 uP] <| q0 <| q0 <| ⟨(fA.set i0.toNat x3,gp.set i0.toNat true,fC,true,i64.wrap (i0 - 1)),⟨iA,iy,ir,h7,ld,(rz o9)⟩,H⟩
 ·exact qx 2 <| ⟨rfl,fA,gp,fC,n9,i0,oi H,.i i0,.bool (decide (i0≥0)),iA,iy,ir,h3,kr,o5⟩
theorem ay.cF (L:Mem)(l0:List ai)  (D6:OF cf m)(D7:OM cf m):cd Tryz.prog cf mP m (sub [1,1,1,1,0,1,0,0] (bA Tryz.f133)) (fun k (σ:(List Int) × (List Bool) × (List Int) × Bool)=>ay.l0 m l0 k σ.1 σ.2.1 σ.2.2.1 σ.2.2.2) (fun σ s=>match σ with | (bQ,fS,iZ,r7)=>∃g0 g1 dT cE cm h2,s=⟨af.fz l0 :: .any :: .rs cm 0 bQ.length 1 :: .rs cE 0 fS.length 1 :: .rs dT 0 iZ.length 1 :: .rs ((0)) 0 (([]:List Int).length) 1 :: .bool r7::g0::wA (g1::zB []),[],h2⟩∧Has h2 ((((0)),.sl (([]:List Int).length) 1 (ae.l ([]:List Int)))::(dT,.sl iZ.length 1 (ae.l iZ))::(cE,.sl fS.length 1 (eZ.l fS))::(cm,.sl bQ.length 1 (ae.l bQ))::L)) (fun out e s=>(e = .exit 0∧∃bQ fS iZ r7,(bQ,fS,iZ,r7)=out∧∃DP DN yx uT RW dT cE cm h2,s=⟨af.fz l0 :: .any :: .rs cm 0 bQ.length 1 :: .rs cE 0 fS.length 1::DP :: .rs ((0)) 0 (([]:List Int).length) 1::DN::yx::EY (uT::RW::zB []),[],h2⟩∧Has h2 ((((0)),.sl (([]:List Int).length) 1 (ae.l ([]:List Int)))::(dT,.sl iZ.length 1 (ae.l iZ))::(cE,.sl fS.length 1 (eZ.l fS))::(cm,.sl bQ.length 1 (ae.l bQ))::L))):=by
 refine jW (fun _=>rfl) ?_
 rintro k ⟨bQ,fS,iZ,r7⟩ s out ⟨g0,g1,dT,cE,cm,h2,rfl,o4⟩ H
 have H:ay.l0 m l0 (k+1) bQ fS iZ r7=some out:=H
 refine qq <| qq <| q0 <| qc H (fun c0 H=>?_) (fun c0 H=>?_)
 ·refine qk <| qb 1 <| qq <| q0 <| qq <| q0 <| qb 2 ?_
  obtain⟨bI,wK,H⟩:=aQ H
  refine ql (ay.jG L l0  D6 D7 (bQ,fS,iZ,false,i64.wrap ((l0.length:Int) - 1)) _ _ ⟨dT,cE,cm,h2,kr,o4⟩ wK) ?_
  rintro e s ⟨rfl,FU,LR,Cc,LS,i1,rfl,g2,g3,ml,eR,ij,h8,rfl,sO⟩
  try dsimp only at H
  exact⟨(FU,LR,Cc,LS),⟨g2,g3,ml,eR,ij,h8,kr,sO⟩,H⟩
 ·exact qx 0 <| ⟨rfl,bQ,fS,iZ,r7,oi H,.rs dT 0 iZ.length 1,.any,.any,.bool r7,.any,dT,cE,cm,h2,kr,o4⟩
theorem ay.tL (L:Mem)(l0:List ai)(fP:Nat)(iz:List Bool)(fP:Nat)(i2:Int)(x5:List Int)(lY:Nat)  (zJ:Ta cf m):cd Tryz.prog cf mP m (sub [1,1,1,1,1,0,1,0,0,1,0,0,1,1,1,1,0,0] (bA Tryz.f133)) (fun k (σ:(List Int) × Int)=>ay.l3 m l0 i2 x5 k σ.1 σ.2) (fun σ s=>match σ with | (fh,k0)=>∃mM h13,s=⟨af.fz l0 :: .any :: .rs mM 0 fh.length 1 :: .rs fP 0 iz.length 1 :: .any :: .rs lY 0 x5.length 1 :: .any :: .any :: .i i2 :: .i k0::Q3 [],[],h13⟩∧Has h13 ((lY,.sl x5.length 1 (ae.l x5))::(fP,.sl iz.length 1 (eZ.l iz))::(mM,.sl fh.length 1 (ae.l fh))::L)) (fun out e s=>(e = .exit 6∧∃fh k0,(fh,k0)=out∧∃uK Ya mM h13,s=⟨af.fz l0 :: .any :: .rs mM 0 fh.length 1 :: .rs fP 0 iz.length 1 :: .any :: .rs lY 0 x5.length 1 :: .any :: .any :: .i i2::uK::ss (Ya::wz []),[],h13⟩∧Has h13 ((lY,.sl x5.length 1 (ae.l x5))::(fP,.sl iz.length 1 (eZ.l iz))::(mM,.sl fh.length 1 (ae.l fh))::L))):=by
 refine jW (fun _=>rfl) ?_
 rintro k ⟨fh,k0⟩ s out ⟨mM,h13,rfl,pa⟩ H
 have H:ay.l3 m l0 i2 x5 (k+1) fh k0=some out:=H
 refine qq <| qq ?_
 obtain⟨v8,zH,H⟩:=aQ H
 rcases dZ H with⟨c8,H⟩| ⟨c8,H⟩
 ·obtain⟨v9,B3,H⟩:=aQ H
  refine qr [.v 2 (aL (k:=.i64) (E:=ae) (l:=fh) (q:=2) de pa rfl zH),.v 3 (bn  (E:=ae) (l:=fh) (q:=2) pa rfl A3 zH rfl),.b 6 c8,.v 9 (aL (k:=.i64) (E:=ae) (l:=x5) (q:=0) de pa rfl B3),.v 10 (bn  (E:=ae) (l:=x5) (q:=0) pa rfl A3 B3 rfl)] <| qc H (fun c9 H=>?_) (fun c9 H=>?_)
  ·refine qk <| qq <| qb 7 <| qq ?_
   obtain⟨v10,CQ,H⟩:=aQ H
   obtain⟨v11,Jm,H⟩:=aQ H
   obtain⟨v12,Hy,H⟩:=aQ H
   obtain⟨x6,Jo,H⟩:=aQ H
   refine qr [.v 2 (bW (k:=.i64) (E:=af) (l:=l0) lF CQ),.v 3 (gf  (E:=af) (l:=l0) h13 sM sN CQ),.v 7 (aL (k:=.i64) (E:=ae) (l:=x5) (q:=0) de pa rfl Jm),.v 8 (bn  (E:=ae) (l:=x5) (q:=0) pa rfl A3 Jm rfl),.v 9 (bW (k:=.i64) (E:=af) (l:=l0) lF Hy),.v 10 (gf  (E:=af) (l:=l0) h13 sM sN Hy),.a 11 (zJ _ _ _ Jo h13 _ fq)] <| qc H (fun yD H=>?_) (fun yD H=>?_)
   ·obtain⟨LG,Jp,H⟩:=aQ H
    obtain⟨CP,E0,H⟩:=aQ H
    obtain⟨qN,Jn,H⟩:=aQ H
    obtain⟨h14,JY,zn⟩:=dJ (P:=Tryz.prog) (tf:=3) (E:=ae) (l:=fh) (q:=2) (v:=CP) (x:=.i CP) pa rfl Z3 Jn rfl rfl
    exact qr [.v 5 (aL (k:=.i64) (E:=ae) (l:=x5) (q:=0) de pa rfl Jp),.v 6 (bn  (E:=ae) (l:=x5) (q:=0) pa rfl A3 Jp rfl),.v 7 (aL (k:=.i64) (E:=ae) (l:=fh) (q:=2) de pa rfl E0),.v 8 (bn  (E:=ae) (l:=fh) (q:=2) pa rfl A3 E0 rfl),.v 9 (aL (k:=.i64) (E:=ae) (l:=fh) (q:=2) de pa rfl Jn),.w 10 JY] <| q0 <| ⟨(fh.set i2.toNat CP,i64.wrap (k0+1)),⟨mM,h14,ld,(rz zn)⟩,H⟩
   ·exact qk <| q0 <| ⟨(fh,i64.wrap (k0+1)),⟨mM,h13,kr,pa⟩,H⟩
  ·exact qx 6 <| ⟨rfl,fh,k0,oi H,.i k0,.bool (decide (v9<i2)),mM,h13,kr,pa⟩
 ·exact qr [.v 2 (aL (k:=.i64) (E:=ae) (l:=fh) (q:=2) de pa rfl zH),.v 3 (bn  (E:=ae) (l:=fh) (q:=2) pa rfl A3 zH rfl),.b 6 c8] <| zD <| qx 6 <| ⟨rfl,fh,k0,oi H,.i k0,.bool false,mM,h13,kr,pa⟩
theorem ay.n5 (L:Mem)(l0:List ai)(fP:Nat)(iz:List Bool)(fP:Nat)  (zJ:Ta cf m):cd Tryz.prog cf mP m (sub [1,1,1,1,1,0,1,0,0] (bA Tryz.f133)) (fun k (σ:(List Int) × (List Int) × Int)=>ay.l2 m l0 iz k σ.1 σ.2.1 σ.2.2) (fun σ s=>match σ with | (iG,lO,i2)=>∃jm iJ h10,s=⟨af.fz l0 :: .any :: .rs iJ 0 iG.length 1 :: .rs fP 0 iz.length 1 :: .any :: .rs jm 0 lO.length 1 :: .any :: .any :: .i i2::Q9 [],[],h10⟩∧Has h10 ((jm,.sl lO.length 1 (ae.l lO))::(fP,.sl iz.length 1 (eZ.l iz))::(iJ,.sl iG.length 1 (ae.l iG))::L)) (fun out e s=>(e = .exit 4∧∃iG lO i2,(iG,lO,i2)=out∧∃RF wE Yb jm iJ h10,s=⟨af.fz l0 :: .any :: .rs iJ 0 iG.length 1::RF :: .any :: .rs jm 0 lO.length 1 :: .any :: .any::wE::zB (Yb::EY []),[],h10⟩∧Has h10 ((jm,.sl lO.length 1 (ae.l lO))::(fP,.sl iz.length 1 (eZ.l iz))::(iJ,.sl iG.length 1 (ae.l iG))::L))):=by
 refine jW (fun _=>rfl) ?_
 rintro k ⟨iG,lO,i2⟩ s out ⟨jm,iJ,h10,rfl,mK⟩ H
 have H:ay.l2 m l0 iz (k+1) iG lO i2=some out:=H
 refine qq <| qq <| q0 <| qc H (fun c6 H=>?_) (fun c6 H=>?_)
 ·refine qk <| qq <| qb 5 <| qq <| qq ?_
  obtain⟨v6,vU,H⟩:=aQ H
  refine qr [.v 2 (aL (k:=.i64) (E:=eZ) (l:=iz) (q:=1) NH mK rfl vU),.v 3 (bn  (E:=eZ) (l:=iz) (q:=1) mK rfl A4 vU rfl)] <| qc H (fun c7 H=>?_) (fun c7 H=>?_)
  ·exact qx 5 <| q0 <| ⟨(iG,lO,i64.wrap (i2+1)),⟨jm,iJ,h10,kr,mK⟩,H⟩
  ·refine qk <| qq ?_
   obtain⟨x5,Av,H⟩:=aQ H
   obtain⟨lY,h11,Aw,rJ⟩:=dY (P:=Tryz.prog) (E:=ae) (l:=lO) (q:=0) (t2:=22) (x:=.fz [.i i2] 1 true) (l2:=([i2])) de mK rfl kr rfl Av
   refine qr [.a 3 Aw] <| qq ?_
   obtain⟨v7,Ax,H⟩:=aQ H
   obtain⟨h12,zl,zm⟩:=dJ (P:=Tryz.prog) (tf:=3) (E:=ae) (l:=iG) (q:=2) (v:=i2) (x:=.i i2) rJ rfl Z3 Ax rfl rfl
   refine qr [.v 3 (aL (k:=.i64) (E:=ae) (l:=iG) (q:=2) de rJ rfl Ax),.w 4 zl] <| qq <| q0 <| qb 6 ?_
   obtain⟨jD,OI,H⟩:=aQ H
   refine ql (ay.tL L l0 fP iz fP i2 x5 lY  zJ (iG.set i2.toNat i2,0) _ _ ⟨iJ,h12,ld,(rz zm)⟩ OI) ?_
   rintro e s ⟨rfl,FV,k1,rfl,g9,g10,qM,h15,rfl,px⟩
   try dsimp only at H
   exact q0 <| ⟨(FV,x5,i64.wrap (i2+1)),⟨lY,qM,h15,kr,px⟩,H⟩
 ·exact qx 4 <| ⟨rfl,iG,lO,i2,oi H,.rs fP 0 iz.length 1,.i i2,.bool (decide (i2<(l0.length:Int))),jm,iJ,h10,kr,mK⟩
theorem ay.LV (L:Mem)(l0:List ai)(iK:Nat)(cu:List Int)(iK:Nat)(kg:Nat)(bL:List Int)(kg:Nat)(np:Bool)(j0:Int)(rA:Int)  (qQ:FN cf m):cd Tryz.prog cf mP m (sub [1,1,1,1,1,1,0,1,0,0,1,0,1,1,1,0,1,0,0,1,0,0,1,1,0,1,0,0] (bA Tryz.f133)) (fun k (σ:(List Int) × Int)=>ay.l6 m l0 cu bL j0 rA k σ.1 σ.2) (fun σ s=>match σ with | (eL,k2)=>∃mX h21,s=⟨af.fz l0 :: .any :: .rs kg 0 bL.length 1 :: .any :: .any :: .rs iK 0 cu.length 1::lW (.bool np :: .rs mX 0 eL.length 1 :: .i j0 :: .i rA :: .i k2::BI []),[],h21⟩∧Has h21 ((mX,.sl eL.length 1 (ae.l eL))::(iK,.sl cu.length 1 (ae.l cu))::(kg,.sl bL.length 1 (ae.l bL))::L)) (fun out e s=>(e = .exit 12∧∃eL k2,(eL,k2)=out∧∃B4 U2 mX h21,s=⟨af.fz l0 :: .any :: .rs kg 0 bL.length 1 :: .any :: .any :: .rs iK 0 cu.length 1::lW (.bool np :: .rs mX 0 eL.length 1 :: .i j0 :: .i rA::B4::zB [U2,.any]),[],h21⟩∧Has h21 ((mX,.sl eL.length 1 (ae.l eL))::(iK,.sl cu.length 1 (ae.l cu))::(kg,.sl bL.length 1 (ae.l bL))::L))):=by
 refine jW (fun _=>rfl) ?_
 rintro k ⟨eL,k2⟩ s out ⟨mX,h21,rfl,mS⟩ H
 have H:ay.l6 m l0 cu bL j0 rA (k+1) eL k2=some out:=H
 refine qq <| qq ?_
 obtain⟨UM,OP,H⟩:=aQ H
 rcases dZ H with⟨wJ,H⟩| ⟨wJ,H⟩
 ·refine qr [.v 2 (aL (k:=.i64) (E:=ae) (l:=eL) (q:=0) de mS rfl OP),.v 3 (bn  (E:=ae) (l:=eL) (q:=0) mS rfl A3 OP rfl),.b 6 wJ] <| qc H (fun D0 H=>?_) (fun D0 H=>?_)
  ·refine qk <| qq <| qb 13 <| qq ?_
   obtain⟨Wi,PX,H⟩:=aQ H
   obtain⟨v20,PY,H⟩:=aQ H
   obtain⟨v21,Td,H⟩:=aQ H
   rcases dZ H with⟨yI,H⟩| ⟨yI,H⟩
   ·obtain⟨v22,e45,H⟩:=aQ H
    obtain⟨v23,e46,H⟩:=aQ H
    obtain⟨v24,e47,H⟩:=aQ H
    obtain⟨x8,e48,H⟩:=aQ H
    refine qr [.v 2 (aL (k:=.i64) (E:=ae) (l:=bL) (q:=2) de mS rfl PX),.v 3 (bn  (E:=ae) (l:=bL) (q:=2) mS rfl A3 PX rfl),.v 7 (aL (k:=.i64) (E:=ae) (l:=cu) (q:=1) de mS rfl PY),.v 8 (bn  (E:=ae) (l:=cu) (q:=1) mS rfl A3 PY rfl),.v 9 (aL (k:=.i64) (E:=ae) (l:=bL) (q:=2) de mS rfl Td),.v 10 (bn  (E:=ae) (l:=bL) (q:=2) mS rfl A3 Td rfl),.b 12 yI,.v 15 (bW (k:=.i64) (E:=af) (l:=l0) lF e45),.v 16 (gf  (E:=af) (l:=l0) h21 sM sN e45),.v 20 (aL (k:=.i64) (E:=ae) (l:=cu) (q:=1) de mS rfl e46),.v 21 (bn  (E:=ae) (l:=cu) (q:=1) mS rfl A3 e46 rfl),.v 22 (bW (k:=.i64) (E:=af) (l:=l0) lF e47),.v 23 (gf  (E:=af) (l:=l0) h21 sM sN e47),.a 25 (qQ _ _ _ _ e48 h21 _ (km (ao (oO (ao (bP) (ao (bP) (ao (oN) (ao (kF (E:=ae)) (aJ)))))) (ao (oO (ao (bP) (ao (bP) (ao (oN) (ao (kF (E:=ae)) (aJ)))))) (ao (b4 (E:=ae) (l:=bL) (q:=2) mS rfl (fun _=>rfl)) (aJ))))))] ?_
    refine qc H (fun B6 H=>?_) (fun B6 H=>?_)
    ·obtain⟨v25,e49,H⟩:=aQ H
     obtain⟨UY,e50,H⟩:=aQ H
     obtain⟨v27,e51,H⟩:=aQ H
     obtain⟨h22,e52,NI⟩:=dJ (P:=Tryz.prog) (tf:=3) (E:=ae) (l:=eL) (q:=0) (v:=UY) (x:=.i UY) mS rfl Z3 e51 rfl rfl
     exact qr [.v 5 (aL (k:=.i64) (E:=ae) (l:=cu) (q:=1) de mS rfl e49),.v 6 (bn  (E:=ae) (l:=cu) (q:=1) mS rfl A3 e49 rfl),.v 7 (aL (k:=.i64) (E:=ae) (l:=eL) (q:=0) de mS rfl e50),.v 8 (bn  (E:=ae) (l:=eL) (q:=0) mS rfl A3 e50 rfl),.v 9 (aL (k:=.i64) (E:=ae) (l:=eL) (q:=0) de mS rfl e51),.w 10 e52] <| q0 <| ⟨(eL.set rA.toNat UY,i64.wrap (k2+1)),⟨mX,h22,ld,(rz NI)⟩,H⟩
    ·exact qk <| q0 <| ⟨(eL,i64.wrap (k2+1)),⟨mX,h21,kr,mS⟩,H⟩
   ·exact qr [.v 2 (aL (k:=.i64) (E:=ae) (l:=bL) (q:=2) de mS rfl PX),.v 3 (bn  (E:=ae) (l:=bL) (q:=2) mS rfl A3 PX rfl),.v 7 (aL (k:=.i64) (E:=ae) (l:=cu) (q:=1) de mS rfl PY),.v 8 (bn  (E:=ae) (l:=cu) (q:=1) mS rfl A3 PY rfl),.v 9 (aL (k:=.i64) (E:=ae) (l:=bL) (q:=2) de mS rfl Td),.v 10 (bn  (E:=ae) (l:=bL) (q:=2) mS rfl A3 Td rfl),.b 12 yI] <| zD <| qk <| q0 <| ⟨(eL,i64.wrap (k2+1)),⟨mX,h21,kr,mS⟩,H⟩
  ·exact qx 12 <| ⟨rfl,eL,k2,oi H,.i k2,.bool (decide (k2<j0)),mX,h21,kr,mS⟩
 ·exact qr [.v 2 (aL (k:=.i64) (E:=ae) (l:=eL) (q:=0) de mS rfl OP),.v 3 (bn  (E:=ae) (l:=eL) (q:=0) mS rfl A3 OP rfl),.b 6 wJ] <| zD <| qx 12 <| ⟨rfl,eL,k2,oi H,.i k2,.bool false,mX,h21,kr,mS⟩
theorem ay.LW (L:Mem)(l0:List ai)(iK:Nat)(cu:List Int)(iK:Nat)(kg:Nat)(bL:List Int)(kg:Nat)  (qQ:FN cf m):cd Tryz.prog cf mP m (sub [1,1,1,1,1,1,0,1,0,0,1,0,1,1,1,0,1,0,0] (bA Tryz.f133)) (fun k (σ:Bool × (List Int) × Int)=>ay.l5 m l0 cu bL k σ.1 σ.2.1 σ.2.2) (fun σ s=>match σ with | (np,dh,j0)=>∃uU h19,s=⟨af.fz l0 :: .any :: .rs kg 0 bL.length 1 :: .any :: .any :: .rs iK 0 cu.length 1::lW (.bool np :: .rs uU 0 dh.length 1 :: .i j0::yi []),[],h19⟩∧Has h19 ((uU,.sl dh.length 1 (ae.l dh))::(iK,.sl cu.length 1 (ae.l cu))::(kg,.sl bL.length 1 (ae.l bL))::L)) (fun out e s=>(e = .exit 10∧∃np dh j0,(np,dh,j0)=out∧∃BP qF U3 uU h19,s=⟨af.fz l0 :: .any::BP :: .any :: .any :: .rs iK 0 cu.length 1::lW (.bool np :: .rs uU 0 dh.length 1::qF::ss [U3,.any,.any]),[],h19⟩∧Has h19 ((uU,.sl dh.length 1 (ae.l dh))::(iK,.sl cu.length 1 (ae.l cu))::(kg,.sl bL.length 1 (ae.l bL))::L))):=by
 refine jW (fun _=>rfl) ?_
 rintro k ⟨np,dh,j0⟩ s out ⟨uU,h19,rfl,LK⟩ H
 have H:ay.l5 m l0 cu bL (k+1) np dh j0=some out:=H
 refine qq <| qq <| q0 <| qc H (fun qI H=>?_) (fun qI H=>?_)
 ·refine qk <| qq <| qb 11 <| qq ?_
  obtain⟨rA,OL,H⟩:=aQ H
  refine qr [.v 2 (aL (k:=.i64) (E:=ae) (l:=cu) (q:=1) de LK rfl OL),.v 3 (bn  (E:=ae) (l:=cu) (q:=1) LK rfl A3 OL rfl)] <| qq ?_
  obtain⟨PS,Te,H⟩:=aQ H
  obtain⟨h20,U4,RM⟩:=dJ (P:=Tryz.prog) (tf:=3) (E:=ae) (l:=dh) (q:=0) (v:=rA) (x:=.i rA) LK rfl Z3 Te rfl rfl
  refine qr [.v 3 (aL (k:=.i64) (E:=ae) (l:=dh) (q:=0) de LK rfl Te),.w 4 U4] <| qq <| qq <| q0 <| qb 12 ?_
  obtain⟨eA,e53,H⟩:=aQ H
  refine ql (ay.LV L l0 iK cu iK kg bL kg np j0 rA  qQ (dh.set rA.toNat rA,0) _ _ ⟨uU,h20,ld,(rz RM)⟩ e53) ?_
  rintro e s ⟨rfl,vV,k3,rfl,g14,g15,uY,h23,rfl,JZ⟩
  try dsimp only at H
  rcases dZ H with⟨PZ,H⟩| ⟨PZ,H⟩
  ·exact qr [.b 1 PZ] <| q0 <| ⟨(true,vV,i64.wrap (j0+1)),⟨uY,h23,kr,JZ⟩,H⟩
  ·obtain⟨v28,e54,H⟩:=aQ H
   obtain⟨X9,e55,H⟩:=aQ H
   exact qr [.b 1 PZ,.v 4 (aL (k:=.i64) (E:=ae) (l:=vV) (q:=0) de JZ rfl e54),.v 5 (bn  (E:=ae) (l:=vV) (q:=0) JZ rfl A3 e54 rfl),.v 8 (aL (k:=.i64) (E:=ae) (l:=bL) (q:=2) de JZ rfl e55),.v 9 (bn  (E:=ae) (l:=bL) (q:=2) JZ rfl A3 e55 rfl)] <| q0 <| ⟨(!(v28==X9),vV,i64.wrap (j0+1)),⟨uY,h23,kr,JZ⟩,H⟩
 ·exact qx 10 <| ⟨rfl,np,dh,j0,oi H,.rs kg 0 bL.length 1,.i j0,.bool (decide (j0<(cu.length:Int))),uU,h19,kr,LK⟩
theorem ay.tM (L:Mem)(l0:List ai)(iK:Nat)(cu:List Int)(iK:Nat)  (qQ:FN cf m):cd Tryz.prog cf mP m (sub [1,1,1,1,1,1,0,1,0,0] (bA Tryz.f133)) (fun k (σ:(List Int) × Bool)=>ay.l4 m l0 cu k σ.1 σ.2) (fun σ s=>match σ with | (bL,r8)=>∃kg h17,s=⟨af.fz l0 :: .any :: .rs kg 0 bL.length 1 :: .any :: .any :: .rs iK 0 cu.length 1::lW (.bool r8::FF []),[],h17⟩∧Has h17 ((iK,.sl cu.length 1 (ae.l cu))::(kg,.sl bL.length 1 (ae.l bL))::L)) (fun out e s=>(e = .exit 8∧∃bL r8,(bL,r8)=out∧∃nA DR yH LX kg h17,s=⟨nA :: .any :: .rs kg 0 bL.length 1 :: .any :: .any::DR::lW (yH::BI (LX::mU [])),[],h17⟩∧Has h17 ((iK,.sl cu.length 1 (ae.l cu))::(kg,.sl bL.length 1 (ae.l bL))::L))):=by
 refine jW (fun _=>rfl) ?_
 rintro k ⟨bL,r8⟩ s out ⟨kg,h17,rfl,yJ⟩ H
 have H:ay.l4 m l0 cu (k+1) bL r8=some out:=H
 refine qq <| qq <| q0 <| qc H (fun wI H=>?_) (fun wI H=>?_)
 ·refine qk <| qb 9 <| qq <| q0 <| qq <| q0 ?_
  have uV:Has h17 (((((0))),.sl (([]:List Int).length) 1 (ae.l ([]:List Int)))::(iK,.sl cu.length 1 (ae.l cu))::(kg,.sl bL.length 1 (ae.l bL))::L):=Has.nil yJ 1
  refine qq ?_
  obtain⟨x7,RL,H⟩:=aQ H
  obtain⟨DY,h18,RN,Hx⟩:=dY (P:=Tryz.prog) (E:=ae) (l:=([]:List Int)) (q:=0) (t2:=22) (x:=.rs kg 0 bL.length 1) (l2:=bL) de uV rfl (I9 (E:=ae) (l:=bL) (q:=2) uV rfl) rfl RL
  refine qr [.a 2 RN] <| qq <| qq <| q0 <| qb 10 ?_
  obtain⟨D4,e56,H⟩:=aQ H
  refine ql (ay.LW L l0 iK cu iK kg bL kg  qQ (false,x7,0) _ _ ⟨DY,h18,kr,Hx⟩ e56) ?_
  rintro e s ⟨rfl,LU,D5,j1,rfl,g16,g17,g18,LY,h24,rfl,RP⟩
  try dsimp only at H
  refine q0 ?_
  have RQ:Has h24 ((LY,.sl D5.length 1 (ae.l D5))::(iK,.sl cu.length 1 (ae.l cu))::L):=jV RP 2
  exact⟨(D5,LU),⟨LY,h24,kr,(bN (bN RQ 0) 1)⟩,H⟩
 ·exact qx 8 <| ⟨rfl,bL,r8,oi H,af.fz l0,.rs iK 0 cu.length 1,.any,.bool r8,kg,h17,kr,yJ⟩
theorem sD {aX:FuncId→bX}(ha:aX 133=mP)(zJ:Ta cf m)(D6:OF cf m)(D7:OM cf m)(qQ:FN cf m)(l0:List ai)(h:AHeap)(L:Mem)  (o:Has h (L)){out:(List Int)}(H:ay.f m l0=some out) :
  ∃r h',ba Tryz.prog aX cf m 133 [af.fz l0] h=some (r,h')∧fG h' r (ae.fz out):=by
 refine ax (fn:=Tryz.f133) ha Tryz.func133 kr kr ?_
 refine aI (Q:=fun s=>ay.fin L out s) (fun _ _ h=>h) ?_
 have H:_=some out:=H
 unfold ay.f at H
 show dB _ cf mP m _ ⟨af.fz l0::Um [],[],h⟩ _
 refine q1 <| qq ?_
 obtain⟨x0,e0,H⟩:=aQ H
 obtain⟨aV,h0,e1,o0⟩:=qv (P:=Tryz.prog) (E:=ae) (z:=0) (zv:=.i 0) de o 3 rfl rfl rfl rfl e0
 refine qr [.a 2 e1] <| qq ?_
 obtain⟨x1,e2,H⟩:=aQ H
 obtain⟨dr,h1,e3,o1⟩:=qv (P:=Tryz.prog) (E:=eZ) (z:=false) (zv:=.bool false) NH o0 4 rfl rfl rfl rfl e2
 refine qr [.a 2 e3] <| qq <| q0 ?_
 have o2:Has h1 (((0),.sl (([]:List Int).length) 1 (ae.l ([]:List Int)))::(dr,.sl x1.length 1 (eZ.l x1))::(aV,.sl x0.length 1 (ae.l x0))::L):=Has.nil o1 1
 have o3:Has h1 ((((0)),.sl (([]:List Int).length) 1 (ae.l ([]:List Int)))::((0),.sl (([]:List Int).length) 1 (ae.l ([]:List Int)))::(dr,.sl x1.length 1 (eZ.l x1))::(aV,.sl x0.length 1 (ae.l x0))::L):=Has.nil o2 1
 refine qq <| qq <| q0 <| qb 0 ?_
 obtain⟨eT,zk,H⟩:=aQ H
 refine ql (ay.cF L l0  D6 D7 (x0,x1,([]:List Int),true) _ _ ⟨.any,.any,(0),dr,aV,h1,kr,o3⟩ zk) ?_
 rintro e s ⟨rfl,yR,iz,OO,UZ,rfl,g4,g5,g6,g7,g8,fF,fP,gI,h9,rfl,tH⟩
 try dsimp only at H
 refine qq <| qq <| q0 ?_
 have xj:Has h9 ((((0)),.sl (([]:List Int).length) 1 (ae.l ([]:List Int)))::(fP,.sl iz.length 1 (eZ.l iz))::(gI,.sl yR.length 1 (ae.l yR))::L):=jV tH 1
 refine qb 4 ?_
 obtain⟨qJ,OJ,H⟩:=aQ H
 refine ql (ay.n5 L l0 fP iz fP  zJ (yR,([]:List Int),0) _ _ ⟨((0)),gI,h9,kr,xj⟩ OJ) ?_
 rintro e s ⟨rfl,yS,cu,i3,rfl,g11,g12,g13,iK,FQ,h16,rfl,zI⟩
 try dsimp only at H
 refine qq <| qq <| q0 ?_
 have LJ:Has h16 ((iK,.sl cu.length 1 (ae.l cu))::(FQ,.sl yS.length 1 (ae.l yS))::L):=jV zI 1
 refine qb 8 ?_
 obtain⟨jI,e57,H⟩:=aQ H
 refine ql (ay.tM L l0 iK cu iK  qQ (yS,true) _ _ ⟨FQ,h16,kr,LJ⟩ e57) ?_
 rintro e s ⟨rfl,uX,U0,rfl,g19,g20,g21,g22,uZ,h25,rfl,Tb⟩
 try dsimp only at H
 refine q1 ?_
 have Yc:Has h25 ((uZ,.sl uX.length 1 (ae.l uX))::L):=jV Tb 0
 obtain rfl:=oi H
 exact qt <| ⟨.inl rfl,yo (.rs uZ 0 uX.length 1) h25 (vP (GZ (E:=ae) (l:=uX) (q:=0) Yc rfl (fun _=>rfl)))⟩
end
end Go.Proofs.YtifafejidnjckaaGreat
