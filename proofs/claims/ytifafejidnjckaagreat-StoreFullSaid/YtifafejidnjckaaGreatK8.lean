/- Part of the proof: Q142, Q144, Q145, Q149, Q13, Q14, Q18, Q19, Q26, Q30, Q34, Q52, Q54, Q56, Q57, Q60, Q61, Q63, Q64, Q68, Q70, Q77, Q83, Q84, Q86, Q90, Q100, Q108, Q111, Q122, Q123, Q124. -/
import Derived.Test.YtifafejidnjckaaGreatK7
set_option linter.unusedVariables false
set_option linter.unusedSimpArgs false
set_option maxRecDepth 100000
open ByteArray renaming mk → afC
open Or renaming inr → agv
namespace Go.Proofs.YtifafejidnjckaaGreat
open Go Go.R
open Go.IntKind (i64 u64 u8 u32)
def yE:bX:=gP [0,1,2,4,5,10,21] [2] [121,105,73,105,41,119,119] [] []
def cQ.l0 (m:Nat)(n0:ai)(fS:List Bool):Nat→Int→Option (Sum Bool (Int))
 | 0,_=>none
 | k+1,i0=>if (decide (i0<(n0.args.length:Int)))=true then ((ix n0.args i0).bind fun v0=>(ix fS v0).bind fun v1=>if (!v1)=true then (some (.inl false)) else (cQ.l0 m n0 fS k (i64.wrap (i0+1)))) else (some (.inr i0))
def cQ.f (m:Nat)(n0:ai)(fS:List Bool):Option (Bool):=(cQ.l0 m n0 fS m 0).bind fun bI=>match bI with | .inl r0=>some r0 | .inr i1=>some true
def cQ.fin (L:Mem)(r:Bool)(s:St):Prop:=∃av,aM Tryz.prog (s.open yE) Tryz.f142.results.toList=some av∧fG s.h av (.bool r)
def OF (cf:CallF)(m:Nat):Prop:=∀(n0:ai) (fS:List Bool) (r:Bool),cQ.f m n0 fS=some r→∀h xs,aZ b5 h xs [.agg [.i n0.kind,.i n0.int,.str n0.label,ae.fz n0.args],eZ.fz fS]→cf 142 xs h=some (.bool r,h)
section
variable {cf:CallF}{m:Nat}
theorem cQ.cF (L:Mem)(n0:ai)(fS:List Bool)   : cd Tryz.prog cf yE m (sub [1,0,1,0,0] (bA Tryz.f142)) (fun k (σ:Int)=>cQ.l0 m n0 fS k σ) (fun σ s=>match σ with | i0=>∃h0,s=⟨[.any,eZ.fz fS,.lp 2 0,.any,.i i0,.any,.any],[some [.i n0.kind,.i n0.int,.str n0.label,ae.fz n0.args]],h0⟩∧Has h0 (L)) (fun out e s=>(e = .exit 0∧∃i0,.inr i0=out∧∃wC LB DP uK XO h0,s=⟨[.any,wC,LB,.any,DP,uK,.any],[XO],h0⟩∧Has h0 (L))∨(e = .ret∧∃r,.inl r=out∧cQ.fin L r s)):=by
 refine jW (fun _=>rfl) ?_
 rintro k i0 s out ⟨h0,rfl,o0⟩ H
 have H:cQ.l0 m n0 fS (k+1) i0=some out:=H
 refine qq <| qq <| q0 <| qc H (fun c0 H=>?_) (fun c0 H=>?_)
 ·refine qk <| qq <| qb 1 <| qq ?_
  obtain⟨v0,e0,H⟩:=aQ H
  obtain⟨v1,e1,H⟩:=aQ H
  refine qr [.v 4 (bW (k:=.i64) (E:=ae) (l:=n0.args) de e0),.v 5 (dk  (E:=ae) (l:=n0.args) h0 A3 e0 rfl),.v 6 (bW (k:=.i64) (E:=eZ) (l:=fS) NH e1),.v 7 (dk  (E:=eZ) (l:=fS) h0 A4 e1 rfl)] <| qc H (fun c1 H=>?_) (fun c1 H=>?_)
  ·exact q1 <| qt <| agv (⟨rfl,_,oi H,yo (.bool false) h0 (vP (kl))⟩)
  ·exact qk <| q0 <| ⟨i64.wrap (i0+1),⟨h0,kr,o0⟩,H⟩
 ·exact qx 0 <| Or.inl (⟨rfl,i0,oi H,eZ.fz fS,.lp 2 0,.i i0,.bool (decide (i0<(n0.args.length:Int))),some [.i n0.kind,.i n0.int,.str n0.label,ae.fz n0.args],h0,kr,o0⟩)
theorem uQ {aX:FuncId→bX}(ha:aX 142=yE)  (n0:ai)(fS:List Bool)(h:AHeap)(L:Mem)  (o:Has h (L)){out:Bool}(H:cQ.f m n0 fS=some out) :
  ∃r h',ba Tryz.prog aX cf m 142 [.agg [.i n0.kind,.i n0.int,.str n0.label,ae.fz n0.args],eZ.fz fS] h=some (r,h')∧fG h' r (.bool out):=by
 refine ax (fn:=Tryz.f142) ha Tryz.func142 kr kr ?_
 refine aI (Q:=fun s=>cQ.fin L out s) (fun _ _ h=>h) ?_
 have H:_=some out:=H
 unfold cQ.f at H
 show dB _ cf yE m _ ⟨.agg [.i n0.kind,.i n0.int,.str n0.label,ae.fz n0.args]::eZ.fz fS::wz [],[none],h⟩ _
 refine q1 <| qq <| qq <| q0 <| qb 0 ?_
 obtain⟨bI,e2,H⟩:=aQ H
 refine ql (cQ.cF L n0 fS   0 _ _ ⟨h,kr,o⟩ e2) ?_
 rintro e s (⟨rfl,i1,rfl,g0,g1,g2,g3,g4,h1,rfl,o1⟩| ⟨rfl,r0,rfl,sw⟩)
 ·try dsimp only at H
  exact q1 <| qt <| fB H
 ·try dsimp only at H
  obtain rfl:=oi H
  exact⟨.inl rfl,sw⟩
end
def yF:bX:=gP [0,1,2,3,4,6,7,12,31] [3,4] [483,419,291,419,163,479,479] [] []
def bM.l0 (m:Nat)(a0:ai)(b0:ai)(bQ:List Int):Nat→Int→Option (Sum Bool (Int))
 | 0,_=>none
 | k+1,i0=>if (decide (i0<(a0.args.length:Int)))=true then ((ix a0.args i0).bind fun v0=>(ix bQ v0).bind fun v1=>(ix b0.args i0).bind fun v2=>(ix bQ v2).bind fun v3=>if (!(v1==v3))=true then (some (.inl false)) else (bM.l0 m a0 b0 bQ k (i64.wrap (i0+1)))) else (some (.inr i0))
def bM.f (m:Nat)(a0:ai)(b0:ai)(bQ:List Int):Option (Bool):=(bM.l0 m a0 b0 bQ m 0).bind fun bI=>match bI with | .inl r0=>some r0 | .inr i1=>some true
def bM.fin (L:Mem)(r:Bool)(s:St):Prop:=∃av,aM Tryz.prog (s.open yF) Tryz.f144.results.toList=some av∧fG s.h av (.bool r)
def FN (cf:CallF)(m:Nat):Prop:=∀(a0:ai) (b0:ai) (bQ:List Int) (r:Bool),bM.f m a0 b0 bQ=some r→∀h xs,aZ b5 h xs [.agg [.i a0.kind,.i a0.int,.str a0.label,ae.fz a0.args],.agg [.i b0.kind,.i b0.int,.str b0.label,ae.fz b0.args],ae.fz bQ]→cf 144 xs h=some (.bool r,h)
section
variable {cf:CallF}{m:Nat}
theorem bM.cF (L:Mem)(a0:ai)(b0:ai)(bQ:List Int)   : cd Tryz.prog cf yF m (sub [1,0,1,0,0] (bA Tryz.f144)) (fun k (σ:Int)=>bM.l0 m a0 b0 bQ k σ) (fun σ s=>match σ with | i0=>∃h0,s=⟨[.any,.any,ae.fz bQ,.lp 3 0,.lp 4 0,.any,.i i0,.any,.any],[some [.i a0.kind,.i a0.int,.str a0.label,ae.fz a0.args],some [.i b0.kind,.i b0.int,.str b0.label,ae.fz b0.args]],h0⟩∧Has h0 (L)) (fun out e s=>(e = .exit 0∧∃i0,.inr i0=out∧∃LB BP RF DN uR b3_ b4_ h0,s=⟨[.any,.any,LB,BP,RF,.any,DN,uR,.any],[b3_,b4_],h0⟩∧Has h0 (L))∨(e = .ret∧∃r,.inl r=out∧bM.fin L r s)):=by
 refine jW (fun _=>rfl) ?_
 rintro k i0 s out ⟨h0,rfl,o0⟩ H
 have H:bM.l0 m a0 b0 bQ (k+1) i0=some out:=H
 refine qq <| qq <| q0 <| qc H (fun c0 H=>?_) (fun c0 H=>?_)
 ·refine qk <| qq <| qb 1 <| qq ?_
  obtain⟨v0,e0,H⟩:=aQ H
  obtain⟨v1,e1,H⟩:=aQ H
  obtain⟨v2,e2,H⟩:=aQ H
  obtain⟨v3,e3,H⟩:=aQ H
  refine qr [.v 4 (bW (k:=.i64) (E:=ae) (l:=a0.args) de e0),.v 5 (dk  (E:=ae) (l:=a0.args) h0 A3 e0 rfl),.v 6 (bW (k:=.i64) (E:=ae) (l:=bQ) de e1),.v 7 (dk  (E:=ae) (l:=bQ) h0 A3 e1 rfl),.v 12 (bW (k:=.i64) (E:=ae) (l:=b0.args) de e2),.v 13 (dk  (E:=ae) (l:=b0.args) h0 A3 e2 rfl),.v 14 (bW (k:=.i64) (E:=ae) (l:=bQ) de e3),.v 15 (dk  (E:=ae) (l:=bQ) h0 A3 e3 rfl)] <| qc H (fun c1 H=>?_) (fun c1 H=>?_)
  ·exact q1 <| qt <| agv (⟨rfl,_,oi H,yo (.bool false) h0 (vP (kl))⟩)
  ·exact qk <| q0 <| ⟨i64.wrap (i0+1),⟨h0,kr,o0⟩,H⟩
 ·exact qx 0 <| Or.inl (⟨rfl,i0,oi H,ae.fz bQ,.lp 3 0,.lp 4 0,.i i0,.bool (decide (i0<(a0.args.length:Int))),some [.i a0.kind,.i a0.int,.str a0.label,ae.fz a0.args],some [.i b0.kind,.i b0.int,.str b0.label,ae.fz b0.args],h0,kr,o0⟩)
theorem rH {aX:FuncId→bX}(ha:aX 144=yF)  (a0:ai)(b0:ai)(bQ:List Int)(h:AHeap)(L:Mem)  (o:Has h (L)){out:Bool}(H:bM.f m a0 b0 bQ=some out) :
  ∃r h',ba Tryz.prog aX cf m 144 [.agg [.i a0.kind,.i a0.int,.str a0.label,ae.fz a0.args],.agg [.i b0.kind,.i b0.int,.str b0.label,ae.fz b0.args],ae.fz bQ] h=some (r,h')∧fG h' r (.bool out):=by
 refine ax (fn:=Tryz.f144) ha Tryz.func144 kr kr ?_
 refine aI (Q:=fun s=>bM.fin L out s) (fun _ _ h=>h) ?_
 have H:_=some out:=H
 unfold bM.f at H
 show dB _ cf yF m _ ⟨.agg [.i a0.kind,.i a0.int,.str a0.label,ae.fz a0.args] :: .agg [.i b0.kind,.i b0.int,.str b0.label,ae.fz b0.args]::ae.fz bQ::yh [],[none,none],h⟩ _
 refine q1 <| qq <| qq <| q0 <| qb 0 ?_
 obtain⟨bI,e4,H⟩:=aQ H
 refine ql (bM.cF L a0 b0 bQ   0 _ _ ⟨h,kr,o⟩ e4) ?_
 rintro e s (⟨rfl,i1,rfl,g0,g1,g2,g3,g4,g5,g6,h1,rfl,o1⟩| ⟨rfl,r0,rfl,sw⟩)
 ·try dsimp only at H
  exact q1 <| qt <| fB H
 ·try dsimp only at H
  obtain rfl:=oi H
  exact⟨.inl rfl,sw⟩
end
def uS:bX:=gP [0,1,2,3,8,9,14,34] [] [224,160,224,192,64,192,192] [] []
def bk.l1 (m:Nat)(a0:Int)(bf:Int→Int→Option (Int)):Nat→(List Int)→Int→Option ((List Int) × Int)
 | 0,_,_=>none
 | k+1,eJ,j0=>if (decide (j0 > a0))=true then ((ix eJ j0).bind fun v0=>(ix eJ (i64.wrap (j0 - 1))).bind fun v1=>(bf v0 v1).bind fun r0=>if (decide (r0<0))=true then ((ix eJ (i64.wrap (j0 - 1))).bind fun v2=>(ix eJ j0).bind fun v3=>(ix eJ j0).bind fun v4=>(ix (eJ.set j0.toNat v2) (i64.wrap (j0 - 1))).bind fun v5=>bk.l1 m a0 bf k ((eJ.set j0.toNat v2).set (i64.wrap (j0 - 1)).toNat v3) (i64.wrap (j0 - 1))) else (some ((eJ,j0)))) else (some ((eJ,j0)))
def bk.l0 (m:Nat)(a0:Int)(b0:Int)(bf:Int→Int→Option (Int)):Nat→(List Int)→Int→Option ((List Int) × Int)
 | 0,_,_=>none
 | k+1,bO,i0=>if (decide (i0<b0))=true then ((bk.l1 m a0 bf m bO i0).bind fun bI=>match bI with | (fu,j1)=>bk.l0 m a0 b0 bf k fu (i64.wrap (i0+1))) else (some ((bO,i0)))
def bk.f (m:Nat)(aF:List Int)(a0:Int)(b0:Int)(bf:Int→Int→Option (Int)):Option ((List Int)):=(bk.l0 m a0 b0 bf m aF (i64.wrap (a0+1))).bind fun eT=>match eT with | (l9,i1)=>some l9
def bk.fin (L:Mem)(aV:Nat)(aF:List Int)(a0:Int)(b0:Int)(bf:Int→Int→Option (Int))(r:(List Int))(s:St):Prop:=aM Tryz.prog (s.open uS) Tryz.f145.results.toList=some (.tup [])∧Has s.h ((aV,.sl aF.length 1 (ae.l r))::L)
def RG (cf:CallF)(m:Nat):Prop:=∀(aF:List Int) (a0:Int) (b0:Int) (bf:Int→Int→Option (Int)) (r:(List Int)),bk.f m aF a0 b0 bf=some r→∀h L (dE:Nat) (aV:Nat),Has h ((aV,.sl dE 1 (ae.l aF))::L)→∀(vT:FuncId) (iN gU:List AV),(aP (.fn vT iN) = .fn vT iN)→(∀(h:AHeap) (xs:List AV) (a0:Int) (a1:Int) r,bf a0 a1=some r→aZ b5 h xs ([.i a0,.i a1]++gU)→cf vT xs h=some (.i r,h))→(∀h K,Has h (K++(L))→aZ dK h iN gU)→(∀h,aZ dK h gU gU)→∀xs,xs.map aP=[.rs aV 0 dE 1,.i a0,.i b0,.fn vT iN]→∃h',cf 145 xs h=some (.tup [],h')∧Has h' ((aV,.sl dE 1 (ae.l r))::L)
section
variable {cf:CallF}{m:Nat}
theorem bk.jG (L:Mem)(aV:Nat)(vT:FuncId)(iN gU:List AV)(aF:List Int)(a0:Int)(b0:Int)(bf:Int→Int→Option (Int))(i0:Int)  (Jk:aP (.fn vT iN) = .fn vT iN)(FO:∀(h:AHeap) (xs:List AV) (a0:Int) (a1:Int) r,bf a0 a1=some r→aZ b5 h xs ([.i a0,.i a1]++gU)→cf vT xs h=some (.i r,h))(FP:∀h K,Has h (K++(L))→aZ dK h iN gU)(Jl:∀h,aZ dK h gU gU)  : cd Tryz.prog cf uS m (sub [1,0,0,1,0,0,1,0,0] (bA Tryz.f145)) (fun k (σ:(List Int) × Int)=>bk.l1 m a0 bf k σ.1 σ.2) (fun σ s=>match σ with | (eJ,j0)=>∃h1,s=⟨[.rs aV 0 aF.length 1,.i a0,.i b0,.fn vT iN,.i i0,.i j0,.any,.any],[],h1⟩∧Has h1 ((aV,.sl aF.length 1 (ae.l eJ))::L)) (fun out e s=>(e = .exit 2∧∃eJ j0,(eJ,j0)=out∧∃wE RE h1,s=⟨[.rs aV 0 aF.length 1,.i a0,.i b0,.fn vT iN,.i i0,wE,.any,RE],[],h1⟩∧Has h1 ((aV,.sl aF.length 1 (ae.l eJ))::L))):=by
 refine jW (fun _=>rfl) ?_
 rintro k ⟨eJ,j0⟩ s out ⟨h1,rfl,o1⟩ H
 have H:bk.l1 m a0 bf (k+1) eJ j0=some out:=H
 refine qq <| qq ?_
 rcases dZ H with⟨c1,H⟩| ⟨c1,H⟩
 ·obtain⟨v0,e0,H⟩:=aQ H
  obtain⟨v1,e1,H⟩:=aQ H
  obtain⟨r0,e2,H⟩:=aQ H
  refine qr [.b 3 c1,.v 7 (aL (k:=.i64) (E:=ae) (l:=eJ) (q:=0) de o1 rfl e0),.v 8 (bn  (E:=ae) (l:=eJ) (q:=0) o1 rfl A3 e0 rfl),.v 12 (aL (k:=.i64) (E:=ae) (l:=eJ) (q:=0) de o1 rfl e1),.v 13 (bn  (E:=ae) (l:=eJ) (q:=0) o1 rfl A3 e1 rfl),.a 14 (FO _ _ _ _ _ e2 (PQ (ao (bP) (ao (bP) (aJ))) (FP h1 [(aV,.sl aF.length 1 (ae.l eJ))] o1)))] <| qc H (fun c2 H=>?_) (fun c2 H=>?_)
  ·refine qk <| qq <| qb 3 ?_
   obtain⟨v2,e3,H⟩:=aQ H
   obtain⟨v3,e4,H⟩:=aQ H
   obtain⟨v4,e5,H⟩:=aQ H
   obtain⟨h2,e6,o2⟩:=dJ (P:=Tryz.prog) (tf:=3) (E:=ae) (l:=eJ) (q:=0) (v:=v2) (x:=.i v2) o1 rfl Z3 e5 rfl rfl
   obtain⟨v5,e7,H⟩:=aQ H
   obtain⟨h3,e8,o3⟩:=dJ (P:=Tryz.prog) (tf:=3) (E:=ae) (l:=(eJ.set j0.toNat v2)) (q:=0) (v:=v3) (x:=.i v3) o2 rfl Z3 e7 rfl rfl
   exact qr [.v 8 (aL (k:=.i64) (E:=ae) (l:=eJ) (q:=0) de o1 rfl e3),.v 9 (bn  (E:=ae) (l:=eJ) (q:=0) o1 rfl A3 e3 rfl),.v 12 (aL (k:=.i64) (E:=ae) (l:=eJ) (q:=0) de o1 rfl e4),.v 13 (bn  (E:=ae) (l:=eJ) (q:=0) o1 rfl A3 e4 rfl),.v 14 (aL (k:=.i64) (E:=ae) (l:=eJ) (q:=0) de o1 rfl e5),.w 15 e6,.v 16 (aL (k:=.i64) (E:=ae) (l:=(eJ.set j0.toNat v2)) (q:=0) de o2 rfl e7),.w 17 e8] <| q0 <| ⟨((eJ.set j0.toNat v2).set (i64.wrap (j0 - 1)).toNat v3,i64.wrap (j0 - 1)),⟨h3,kr,o3⟩,H⟩
  ·exact qx 2 <| ⟨rfl,eJ,j0,oi H,.i j0,.bool (decide (r0<0)),h1,kr,o1⟩
 ·exact qr [.b 3 c1] <| zD <| qx 2 <| ⟨rfl,eJ,j0,oi H,.i j0,.bool false,h1,kr,o1⟩
theorem bk.cF (L:Mem)(aV:Nat)(vT:FuncId)(iN gU:List AV)(aF:List Int)(a0:Int)(b0:Int)(bf:Int→Int→Option (Int))  (Jk:aP (.fn vT iN) = .fn vT iN)(FO:∀(h:AHeap) (xs:List AV) (a0:Int) (a1:Int) r,bf a0 a1=some r→aZ b5 h xs ([.i a0,.i a1]++gU)→cf vT xs h=some (.i r,h))(FP:∀h K,Has h (K++(L))→aZ dK h iN gU)(Jl:∀h,aZ dK h gU gU)  : cd Tryz.prog cf uS m (sub [1,0,0] (bA Tryz.f145)) (fun k (σ:(List Int) × Int)=>bk.l0 m a0 b0 bf k σ.1 σ.2) (fun σ s=>match σ with | (bO,i0)=>∃h0,s=⟨.rs aV 0 aF.length 1 :: .i a0 :: .i b0 :: .fn vT iN :: .i i0::mU [],[],h0⟩∧Has h0 ((aV,.sl aF.length 1 (ae.l bO))::L)) (fun out e s=>(e = .exit 0∧∃bO i0,(bO,i0)=out∧∃nA wC LB BP yx yw h0,s=⟨[nA,wC,LB,BP,yx,.any,yw,.any],[],h0⟩∧Has h0 ((aV,.sl aF.length 1 (ae.l bO))::L))):=by
 refine jW (fun _=>rfl) ?_
 rintro k ⟨bO,i0⟩ s out ⟨h0,rfl,o0⟩ H
 have H:bk.l0 m a0 b0 bf (k+1) bO i0=some out:=H
 refine qq <| qq <| q0 <| qc H (fun c0 H=>?_) (fun c0 H=>?_)
 ·refine qk <| qq <| qb 1 <| qq <| q0 <| qb 2 ?_
  obtain⟨bI,e9,H⟩:=aQ H
  refine ql (bk.jG L aV vT iN gU aF a0 b0 bf i0  Jk FO FP Jl  (bO,i0) _ _ ⟨h0,kr,o0⟩ e9) ?_
  rintro e s ⟨rfl,fu,j1,rfl,g0,g1,h4,rfl,o4⟩
  try dsimp only at H
  exact q0 <| ⟨(fu,i64.wrap (i0+1)),⟨h4,kr,o4⟩,H⟩
 ·exact qx 0 <| ⟨rfl,bO,i0,oi H,.rs aV 0 aF.length 1,.i a0,.i b0,.fn vT iN,.i i0,.bool (decide (i0<b0)),h0,kr,o0⟩
theorem rI {aX:FuncId→bX}(ha:aX 145=uS)  (aF:List Int)(a0:Int)(b0:Int)(bf:Int→Int→Option (Int))(h:AHeap)(L:Mem)(aV:Nat)(vT:FuncId)(iN gU:List AV)  (Jk:aP (.fn vT iN) = .fn vT iN)(FO:∀(h:AHeap) (xs:List AV) (a0:Int) (a1:Int) r,bf a0 a1=some r→aZ b5 h xs ([.i a0,.i a1]++gU)→cf vT xs h=some (.i r,h))(FP:∀h K,Has h (K++(L))→aZ dK h iN gU)(Jl:∀h,aZ dK h gU gU)(o:Has h ((aV,.sl aF.length 1 (ae.l aF))::L)){out:(List Int)}(H:bk.f m aF a0 b0 bf=some out) :
  ∃r h',ba Tryz.prog aX cf m 145 [.rs aV 0 aF.length 1,.i a0,.i b0,.fn vT iN] h=some (r,h')∧r = .tup []∧Has h' ((aV,.sl aF.length 1 (ae.l out))::L):=by
 refine ax (fn:=Tryz.f145) ha Tryz.func145 kr kr ?_
 refine aI (Q:=fun s=>bk.fin L aV aF a0 b0 bf out s) (fun _ _ ⟨h1,h2,h3⟩=>⟨h1,_,h2,rfl,h3⟩) ?_
 have H:_=some out:=H
 unfold bk.f at H
 show dB _ cf uS m _ ⟨.rs aV 0 aF.length 1 :: .i a0 :: .i b0 :: .fn vT iN::lW [],[],h⟩ _
 refine q1 <| qb 0 ?_
 obtain⟨eT,nW,H⟩:=aQ H
 refine ql (bk.cF L aV vT iN gU aF a0 b0 bf  Jk FO FP Jl  (aF,i64.wrap (a0+1)) _ _ ⟨h,kr,o⟩ nW) ?_
 rintro e s ⟨rfl,l9,i1,rfl,g2,g3,g4,g5,g6,g7,h5,rfl,o5⟩
 try dsimp only at H
 obtain rfl:=oi H
 exact⟨.inr rfl,⟨kr,he o5⟩⟩
end
def yG:bX:=gP [0,1,2,3,10,13] [] [32,0,32,32] [] []
def cM.l0 (m:Nat)(a0:Int)(b0:Int)(n0:Int):Nat→(List Int)→Int→Option ((List Int) × Int)
 | 0,_,_=>none
 | k+1,bO,i0=>if (decide (i0<n0))=true then ((ix bO (i64.wrap (b0+i0))).bind fun v0=>(ix bO (i64.wrap (a0+i0))).bind fun v1=>(ix bO (i64.wrap (a0+i0))).bind fun v2=>(ix (bO.set (i64.wrap (a0+i0)).toNat v0) (i64.wrap (b0+i0))).bind fun v3=>cM.l0 m a0 b0 n0 k ((bO.set (i64.wrap (a0+i0)).toNat v0).set (i64.wrap (b0+i0)).toNat v1) (i64.wrap (i0+1))) else (some ((bO,i0)))
def cM.f (m:Nat)(aF:List Int)(a0:Int)(b0:Int)(n0:Int)(bf:Int→Int→Option (Int)):Option ((List Int)):=(cM.l0 m a0 b0 n0 m aF 0).bind fun bI=>match bI with | (eJ,i1)=>some eJ
def cM.fin (L:Mem)(aV:Nat)(aF:List Int)(a0:Int)(b0:Int)(n0:Int)(bf:Int→Int→Option (Int))(r:(List Int))(s:St):Prop:=aM Tryz.prog (s.open yG) Tryz.f149.results.toList=some (.tup [])∧Has s.h ((aV,.sl aF.length 1 (ae.l r))::L)
def RH (cf:CallF)(m:Nat):Prop:=∀(aF:List Int) (a0:Int) (b0:Int) (n0:Int) (bf:Int→Int→Option (Int)) (r:(List Int)),cM.f m aF a0 b0 n0 bf=some r→∀h L (dE:Nat) (aV:Nat),Has h ((aV,.sl dE 1 (ae.l aF))::L)→∀(gR:FuncId) (bw bg:List AV),(aP (.fn gR bw) = .fn gR bw)→(∀(h:AHeap) (xs:List AV) (a0:Int) (a1:Int) r,bf a0 a1=some r→aZ b5 h xs ([.i a0,.i a1]++bg)→cf gR xs h=some (.i r,h))→(∀h K,Has h (K++(L))→aZ dK h bw bg)→(∀h,aZ dK h bg bg)→∀xs,xs.map aP=[.rs aV 0 dE 1,.i a0,.i b0,.i n0,.fn gR bw]→∃h',cf 149 xs h=some (.tup [],h')∧Has h' ((aV,.sl dE 1 (ae.l r))::L)
section
variable {cf:CallF}{m:Nat}
theorem cM.cF (L:Mem)(aV:Nat)(gR:FuncId)(bw bg:List AV)(aF:List Int)(a0:Int)(b0:Int)(n0:Int)(bf:Int→Int→Option (Int))  (kY:aP (.fn gR bw) = .fn gR bw)(kc:∀(h:AHeap) (xs:List AV) (a0:Int) (a1:Int) r,bf a0 a1=some r→aZ b5 h xs ([.i a0,.i a1]++bg)→cf gR xs h=some (.i r,h))(ke:∀h K,Has h (K++(L))→aZ dK h bw bg)(kZ:∀h,aZ dK h bg bg)  : cd Tryz.prog cf yG m (sub [1,0,0] (bA Tryz.f149)) (fun k (σ:(List Int) × Int)=>cM.l0 m a0 b0 n0 k σ.1 σ.2) (fun σ s=>match σ with | (bO,i0)=>∃h0,s=⟨[.rs aV 0 aF.length 1,.i a0,.i b0,.i n0,.i i0,.any],[],h0⟩∧Has h0 ((aV,.sl aF.length 1 (ae.l bO))::L)) (fun out e s=>(e = .exit 0∧∃bO i0,(bO,i0)=out∧∃nA wC LB BP uK qF h0,s=⟨[nA,wC,LB,BP,uK,qF],[],h0⟩∧Has h0 ((aV,.sl aF.length 1 (ae.l bO))::L))):=by
 refine jW (fun _=>rfl) ?_
 rintro k ⟨bO,i0⟩ s out ⟨h0,rfl,o0⟩ H
 have H:cM.l0 m a0 b0 n0 (k+1) bO i0=some out:=H
 refine qq <| qq <| q0 <| qc H (fun c0 H=>?_) (fun c0 H=>?_)
 ·refine qk <| qq <| qb 1 ?_
  obtain⟨v0,e0,H⟩:=aQ H
  obtain⟨v1,e1,H⟩:=aQ H
  obtain⟨v2,e2,H⟩:=aQ H
  obtain⟨h1,e3,o1⟩:=dJ (P:=Tryz.prog) (tf:=3) (E:=ae) (l:=bO) (q:=0) (v:=v0) (x:=.i v0) o0 rfl Z3 e2 rfl rfl
  obtain⟨v3,e4,H⟩:=aQ H
  obtain⟨h2,e5,o2⟩:=dJ (P:=Tryz.prog) (tf:=3) (E:=ae) (l:=(bO.set (i64.wrap (a0+i0)).toNat v0)) (q:=0) (v:=v1) (x:=.i v1) o1 rfl Z3 e4 rfl rfl
  exact qr [.v 12 (aL (k:=.i64) (E:=ae) (l:=bO) (q:=0) de o0 rfl e0),.v 13 (bn  (E:=ae) (l:=bO) (q:=0) o0 rfl A3 e0 rfl),.v 18 (aL (k:=.i64) (E:=ae) (l:=bO) (q:=0) de o0 rfl e1),.v 19 (bn  (E:=ae) (l:=bO) (q:=0) o0 rfl A3 e1 rfl),.v 20 (aL (k:=.i64) (E:=ae) (l:=bO) (q:=0) de o0 rfl e2),.w 21 e3,.v 22 (aL (k:=.i64) (E:=ae) (l:=(bO.set (i64.wrap (a0+i0)).toNat v0)) (q:=0) de o1 rfl e4),.w 23 e5] <| q0 <| ⟨((bO.set (i64.wrap (a0+i0)).toNat v0).set (i64.wrap (b0+i0)).toNat v1,i64.wrap (i0+1)),⟨h2,kr,o2⟩,H⟩
 ·exact qx 0 <| ⟨rfl,bO,i0,oi H,.rs aV 0 aF.length 1,.i a0,.i b0,.i n0,.i i0,.bool (decide (i0<n0)),h0,kr,o0⟩
theorem wL {aX:FuncId→bX}(ha:aX 149=yG)  (aF:List Int)(a0:Int)(b0:Int)(n0:Int)(bf:Int→Int→Option (Int))(h:AHeap)(L:Mem)(aV:Nat)(gR:FuncId)(bw bg:List AV)  (kY:aP (.fn gR bw) = .fn gR bw)(kc:∀(h:AHeap) (xs:List AV) (a0:Int) (a1:Int) r,bf a0 a1=some r→aZ b5 h xs ([.i a0,.i a1]++bg)→cf gR xs h=some (.i r,h))(ke:∀h K,Has h (K++(L))→aZ dK h bw bg)(kZ:∀h,aZ dK h bg bg)(o:Has h ((aV,.sl aF.length 1 (ae.l aF))::L)){out:(List Int)}(H:cM.f m aF a0 b0 n0 bf=some out) :
  ∃r h',ba Tryz.prog aX cf m 149 [.rs aV 0 aF.length 1,.i a0,.i b0,.i n0,.fn gR bw] h=some (r,h')∧r = .tup []∧Has h' ((aV,.sl aF.length 1 (ae.l out))::L):=by
 refine ax (fn:=Tryz.f149) ha Tryz.func149 kr kr ?_
 refine aI (Q:=fun s=>cM.fin L aV aF a0 b0 n0 bf out s) (fun _ _ ⟨h1,h2,h3⟩=>⟨h1,_,h2,rfl,h3⟩) ?_
 have H:_=some out:=H
 unfold cM.f at H
 show dB _ cf yG m _ ⟨[.rs aV 0 aF.length 1,.i a0,.i b0,.i n0,.any,.any],[],h⟩ _
 refine q1 <| qb 0 ?_
 obtain⟨bI,e6,H⟩:=aQ H
 refine ql (cM.cF L aV gR bw bg aF a0 b0 n0 bf  kY kc ke kZ  (aF,0) _ _ ⟨h,kr,o⟩ e6) ?_
 rintro e s ⟨rfl,eJ,i1,rfl,g0,g1,g2,g3,g4,g5,h3,rfl,o3⟩
 try dsimp only at H
 obtain rfl:=oi H
 exact⟨.inr rfl,⟨kr,he o3⟩⟩
end
def Hn:bX:=gP [0,2,5] [] [6,2,5,5] [] []
def ec.f (m:Nat)(s0:ab):Option (Int):=(cw.f m s0).bind fun x0=>if (!x0)=true then (some 0) else (some (s0.aa.length:Int))
def ec.fin (L:Mem)(r:Int)(s:St):Prop:=∃av,aM Tryz.prog (s.open Hn) Tryz.f13.results.toList=some av∧fG s.h av (.i r)
def S13 (cf:CallF)(m:Nat):Prop:=∀(s0:ab) (r:Int),ec.f m s0=some r→∀h xs,aZ b5 h xs [.fp [.bool s0.aA,af.fz s0.aa,ae.fz s0.an] 0]→cf 13 xs h=some (.i r,h)
section
variable {cf:CallF}{m:Nat}
theorem pK {aX:FuncId→bX}(ha:aX 13=Hn)(FJ:UB cf m)(s0:ab)(h:AHeap)(L:Mem)  (o:Has h (L)){out:Int}(H:ec.f m s0=some out) :
  ∃r h',ba Tryz.prog aX cf m 13 [.fp [.bool s0.aA,af.fz s0.aa,ae.fz s0.an] 0] h=some (r,h')∧fG h' r (.i out):=by
 refine ax (fn:=Tryz.f13) ha Tryz.func13 kr kr ?_
 refine aI (Q:=fun s=>ec.fin L out s) (fun _ _ h=>h) ?_
 have H:_=some out:=H
 unfold ec.f at H
 show dB _ cf Hn m _ ⟨[.fp [.bool s0.aA,af.fz s0.aa,ae.fz s0.an] 0,.any,.any],[],h⟩ _
 refine q1 <| qq <| qq ?_
 obtain⟨x0,e0,H⟩:=aQ H
 refine qr [.a 1 (FJ _ _ e0 h _ (km (ao (gT (pure_cons (dj) (pure_cons (bY.bz (E:=af) (l:=s0.aa)) (pure_cons (bY.bz (E:=ae) (l:=s0.an)) (pure_nil))))) (aJ))))] <| qc H (fun c0 H=>?_) (fun c0 H=>?_)
 ·exact q1 <| qt <| fI H
 ·exact qk <| qq <| q0 <| qt <| fI H
end
def Ho:bX:=gP [0,2,5] [] [6,2,5,5] [] []
def fc.f (m:Nat)(s0:aj):Option (Int):=(cN.f m s0).bind fun x0=>if (!x0)=true then (some 0) else (some (s0.ah.length:Int))
def fc.fin (L:Mem)(r:Int)(s:St):Prop:=∃av,aM Tryz.prog (s.open Ho) Tryz.f14.results.toList=some av∧fG s.h av (.i r)
def S14 (cf:CallF)(m:Nat):Prop:=∀(s0:aj) (r:Int),fc.f m s0=some r→∀h xs,aZ b5 h xs [.fp [af.fz s0.ah,ae.fz s0.au,.bool s0.aK] 0]→cf 14 xs h=some (.i r,h)
section
variable {cf:CallF}{m:Nat}
theorem pL {aX:FuncId→bX}(ha:aX 14=Ho)(B1:S4 cf m)(s0:aj)(h:AHeap)(L:Mem)  (o:Has h (L)){out:Int}(H:fc.f m s0=some out) :
  ∃r h',ba Tryz.prog aX cf m 14 [.fp [af.fz s0.ah,ae.fz s0.au,.bool s0.aK] 0] h=some (r,h')∧fG h' r (.i out):=by
 refine ax (fn:=Tryz.f14) ha Tryz.func14 kr kr ?_
 refine aI (Q:=fun s=>fc.fin L out s) (fun _ _ h=>h) ?_
 have H:_=some out:=H
 unfold fc.f at H
 show dB _ cf Ho m _ ⟨[.fp [af.fz s0.ah,ae.fz s0.au,.bool s0.aK] 0,.any,.any],[],h⟩ _
 refine q1 <| qq <| qq ?_
 obtain⟨x0,e0,H⟩:=aQ H
 refine qr [.a 1 (B1 _ _ e0 h _ (km (ao (gT (pure_cons (bY.bz (E:=af) (l:=s0.ah)) (pure_cons (bY.bz (E:=ae) (l:=s0.au)) (pure_cons (dj) (pure_nil))))) (aJ))))] <| qc H (fun c0 H=>?_) (fun c0 H=>?_)
 ·exact q1 <| qt <| fI H
 ·exact qk <| qq <| q0 <| qt <| fI H
end
def Hp:bX:=gP [0,2,3] [] [6,1] [] []
def gz.f (m:Nat)(s0:ab):Option (Int × Int × ab):=(cY.f m s0 (fl.f m ) (ai.mk 0 0 (afC #[]) ([]))).bind fun x0=>some (x0.1,x0.2.1,x0.2.2)
def gz.fin (L:Mem)(aq:Nat)(ak:Nat)(az:Nat)(s0:ab)(r:Int × Int × ab)(s:St):Prop:=∃aB aC:Nat,aM Tryz.prog (s.open Hp) Tryz.f30.results.toList=some (.tup [.i r.1,.i r.2.1])∧Has s.h ((aq,.ob [.bool r.2.2.aA,.rs aB 0 r.2.2.aa.length 4,.rs aC 0 r.2.2.an.length 1])::(aB,.sl r.2.2.aa.length 4 (af.l r.2.2.aa))::(aC,.sl r.2.2.an.length 1 (ae.l r.2.2.an))::L)
def S30 (cf:CallF)(m:Nat):Prop:=∀(s0:ab) (r:Int × Int × ab),gz.f m s0=some r→∀h L (aq:Nat) (ak:Nat) (az:Nat),Has h ((aq,.ob [.bool s0.aA,.rs ak 0 s0.aa.length 4,.rs az 0 s0.an.length 1])::(ak,.sl s0.aa.length 4 (af.l s0.aa))::(az,.sl s0.an.length 1 (ae.l s0.an))::L)→∀xs,xs.map aP=[.ptr aq 0]→∃aB aC h',cf 30 xs h=some (.tup [.i r.1,.i r.2.1],h')∧Has h' ((aq,.ob [.bool r.2.2.aA,.rs aB 0 r.2.2.aa.length 4,.rs aC 0 r.2.2.an.length 1])::(aB,.sl r.2.2.aa.length 4 (af.l r.2.2.aa))::(aC,.sl r.2.2.an.length 1 (ae.l r.2.2.an))::L)
section
variable {cf:CallF}{m:Nat}
theorem qK {aX:FuncId→bX}(ha:aX 30=Hp)(B2:S5 cf m)(XP:S72 cf m)(s0:ab)(h:AHeap)(L:Mem)(aq:Nat)(ak:Nat)(az:Nat)  (o:Has h ((aq,.ob [.bool s0.aA,.rs ak 0 s0.aa.length 4,.rs az 0 s0.an.length 1])::(ak,.sl s0.aa.length 4 (af.l s0.aa))::(az,.sl s0.an.length 1 (ae.l s0.an))::L)){out:Int × Int × ab}(H:gz.f m s0=some out) :
  ∃r h',ba Tryz.prog aX cf m 30 [.ptr aq 0] h=some (r,h')∧∃aB aC:Nat,r = .tup [.i out.1,.i out.2.1]∧Has h' ((aq,.ob [.bool out.2.2.aA,.rs aB 0 out.2.2.aa.length 4,.rs aC 0 out.2.2.an.length 1])::(aB,.sl out.2.2.aa.length 4 (af.l out.2.2.aa))::(aC,.sl out.2.2.an.length 1 (ae.l out.2.2.an))::L):=by
 refine ax (fn:=Tryz.f30) ha Tryz.func30 kr kr ?_
 refine aI (Q:=fun s=>gz.fin L aq ak az s0 out s) (fun _ _ ⟨h1,aB,aC,h2,h3⟩=>⟨h1,_,h2,aB,aC,rfl,h3⟩) ?_
 have H:_=some out:=H
 unfold gz.f at H
 show dB _ cf Hp m _ ⟨[.ptr aq 0,.any,.any],[],h⟩ _
 refine q1 <| qq ?_
 obtain⟨x0,e0,H⟩:=aQ H
 obtain⟨aV,dr,h0,e1,o0⟩:=B2 _ _ _ _ e0 h _ _ _ _ (o) 72 [] [] rfl (fun h' zF  r hr hx=>XP  r hr h' zF hx) (fun h' K' o'=>ll (aJ)) (fun h_=>ll (aJ)) [.ptr aq 0,.fn 72 [],.agg [.i 0,.i 0,.str (afC #[]),.nils]] (cZ (rfl) (cZ (rfl) (cZ (kW (nz (cz (iW) (cz (iW) (cz (oQ) (cz (nn (E:=ae)) (lU))))))) cq)))
 obtain rfl:=oi H
 exact qr [.a 2 e1] <| qt <| ⟨.inl rfl,⟨aV,dr,kr,he o0⟩⟩
end
def Hq:bX:=gP [0,1,3,4,5] [] [26,7] [] []
def gA.f (m:Nat)(s0:ab)(n0:Int):Option (Int × Int × ab):=(cY.f m s0 (eH.f m n0) (ai.mk 1 n0 (afC #[]) ([]))).bind fun x0=>some (x0.1,x0.2.1,x0.2.2)
def gA.fin (L:Mem)(aq:Nat)(ak:Nat)(az:Nat)(s0:ab)(n0:Int)(r:Int × Int × ab)(s:St):Prop:=∃aB aC:Nat,aM Tryz.prog (s.open Hq) Tryz.f34.results.toList=some (.tup [.i r.1,.i r.2.1])∧Has s.h ((aq,.ob [.bool r.2.2.aA,.rs aB 0 r.2.2.aa.length 4,.rs aC 0 r.2.2.an.length 1])::(aB,.sl r.2.2.aa.length 4 (af.l r.2.2.aa))::(aC,.sl r.2.2.an.length 1 (ae.l r.2.2.an))::L)
def S34 (cf:CallF)(m:Nat):Prop:=∀(s0:ab) (n0:Int) (r:Int × Int × ab),gA.f m s0 n0=some r→∀h L (aq:Nat) (ak:Nat) (az:Nat),Has h ((aq,.ob [.bool s0.aA,.rs ak 0 s0.aa.length 4,.rs az 0 s0.an.length 1])::(ak,.sl s0.aa.length 4 (af.l s0.aa))::(az,.sl s0.an.length 1 (ae.l s0.an))::L)→∀xs,xs.map aP=[.ptr aq 0,.i n0]→∃aB aC h',cf 34 xs h=some (.tup [.i r.1,.i r.2.1],h')∧Has h' ((aq,.ob [.bool r.2.2.aA,.rs aB 0 r.2.2.aa.length 4,.rs aC 0 r.2.2.an.length 1])::(aB,.sl r.2.2.aa.length 4 (af.l r.2.2.aa))::(aC,.sl r.2.2.an.length 1 (ae.l r.2.2.an))::L)
section
variable {cf:CallF}{m:Nat}
theorem qL {aX:FuncId→bX}(ha:aX 34=Hq)(B2:S5 cf m)(XQ:S76 cf m)(s0:ab)(n0:Int)(h:AHeap)(L:Mem)(aq:Nat)(ak:Nat)(az:Nat)  (o:Has h ((aq,.ob [.bool s0.aA,.rs ak 0 s0.aa.length 4,.rs az 0 s0.an.length 1])::(ak,.sl s0.aa.length 4 (af.l s0.aa))::(az,.sl s0.an.length 1 (ae.l s0.an))::L)){out:Int × Int × ab}(H:gA.f m s0 n0=some out) :
  ∃r h',ba Tryz.prog aX cf m 34 [.ptr aq 0,.i n0] h=some (r,h')∧∃aB aC:Nat,r = .tup [.i out.1,.i out.2.1]∧Has h' ((aq,.ob [.bool out.2.2.aA,.rs aB 0 out.2.2.aa.length 4,.rs aC 0 out.2.2.an.length 1])::(aB,.sl out.2.2.aa.length 4 (af.l out.2.2.aa))::(aC,.sl out.2.2.an.length 1 (ae.l out.2.2.an))::L):=by
 refine ax (fn:=Tryz.f34) ha Tryz.func34 kr kr ?_
 refine aI (Q:=fun s=>gA.fin L aq ak az s0 n0 out s) (fun _ _ ⟨h1,aB,aC,h2,h3⟩=>⟨h1,_,h2,aB,aC,rfl,h3⟩) ?_
 have H:_=some out:=H
 unfold gA.f at H
 show dB _ cf Hq m _ ⟨.ptr aq 0 :: .i n0::mU [],[],h⟩ _
 refine qq ?_
 obtain⟨aV,h0,e0,o0⟩:=iX (cs:=[.i n0]) o kr
 refine qr [.a 0 e0] <| qq ?_
 obtain⟨x0,e1,H⟩:=aQ H
 obtain⟨dr,cm,h1,e2,o1⟩:=B2 _ _ _ _ e1 h0 _ _ _ _ ((bN (bN (bN (bN o0 0) 3) 3) 3)) 76 [.ptr aV 0] [.fp [.i n0] 0] rfl (fun h' zF  r hr hx=>XQ _ r hr h' zF hx) (fun h' K' o'=>ll (ao (da (q:=(K'.length+3)) o' (lV rfl) (ao (bP) (aJ))) (aJ))) (fun h_=>ll (ao (gT (pure_cons (eu) (pure_nil))) (aJ))) [.ptr aq 0,.fn 76 [.ptr aV 0],.agg [.i 1,.i n0,.str (afC #[]),.nils]] (cZ (rfl) (cZ (rfl) (cZ (kW (nz (cz (iW) (cz (iW) (cz (oQ) (cz (nn (E:=ae)) (lU))))))) cq)))
 refine qr [.v 2 (show bB Tryz.prog h0 3 (.ptr aV 0)=some (.i n0) from b7 (q:=0) (cs:=[.i n0]) o0 rfl kr),.a 4 e2] ?_
 have o2:Has h1 ((aq,.ob [.bool x0.2.2.aA,.rs dr 0 x0.2.2.aa.length 4,.rs cm 0 x0.2.2.an.length 1])::(dr,.sl x0.2.2.aa.length 4 (af.l x0.2.2.aa))::(cm,.sl x0.2.2.an.length 1 (ae.l x0.2.2.an))::L):=jV o1 3
 obtain rfl:=oi H
 exact qt <| ⟨.inl rfl,⟨dr,cm,kr,he o2⟩⟩
end
def DW:bX:=gP [0,1,4,5,6,7,12,19,29] [] [508,500,436,507,484,356,484,452,196,484,484,502,507] [] []
def fw.l0 (m:Nat)(s0:List Int)(nE:Int→Option (Bool)):Nat→(List Int)→Int→Int→Option ((List Int) × Int × Int)
 | 0,_,_,_=>none
 | k+1,s1,i0,j0=>if (decide (j0<(s0.length:Int)))=true then ((ix s1 j0).bind fun v0=>(nE v0).bind fun r0=>if (!r0)=true then ((ix s1 i0).bind fun v1=>fw.l0 m s0 nE k (s1.set i0.toNat v0) (i64.wrap (i0+1)) (i64.wrap (j0+1))) else (fw.l0 m s0 nE k s1 i0 (i64.wrap (j0+1)))) else (some ((s1,i0,j0)))
def fw.f (m:Nat)(s0:List Int)(nE:Int→Option (Bool)):Option ((List Int)):=(dU.f m s0 nE).bind fun x0=>if (x0==(-1:Int))=true then (some s0) else ((fw.l0 m s0 nE m s0 x0 (i64.wrap (x0+1))).bind fun bI=>match bI with | (s2,i1,j1)=>(SY s2 i1).bind fun v2=>(KL v2 0 i1).bind fun v3=>some v3)
def fw.fin (L:Mem)(aV:Nat)(s0:List Int)(nE:Int→Option (Bool))(r:(List Int))(s:St):Prop:=aM Tryz.prog (s.open DW) Tryz.f63.results.toList=some (.rs aV 0 r.length 1)∧Has s.h ((aV,.sl r.length 1 (ae.l r))::L)
def S63 (cf:CallF)(m:Nat):Prop:=∀(s0:List Int) (nE:Int→Option (Bool)) (r:(List Int)),fw.f m s0 nE=some r→∀h L (OG:Nat) (aV:Nat),Has h ((aV,.sl OG 1 (ae.l s0))::L)→∀(gQ:FuncId) (bc cU:List AV),(aP (.fn gQ bc) = .fn gQ bc)→(∀(h:AHeap) (xs:List AV) (a0:Int) r,nE a0=some r→aZ b5 h xs ([.i a0]++cU)→cf gQ xs h=some (.bool r,h))→(∀h K,Has h (K++(L))→aZ dK h bc cU)→(∀h,aZ dK h cU cU)→∀xs,xs.map aP=[.rs aV 0 OG 1,.fn gQ bc]→∃h',cf 63 xs h=some (.rs aV 0 r.length 1,h')∧Has h' ((aV,.sl r.length 1 (ae.l r))::L)
section
variable {cf:CallF}{m:Nat}
theorem fw.cF (L:Mem)(aV:Nat)(gQ:FuncId)(bc cU:List AV)(s0:List Int)(nE:Int→Option (Bool))  (yy:aP (.fn gQ bc) = .fn gQ bc)(jQ:∀(h:AHeap) (xs:List AV) (a0:Int) r,nE a0=some r→aZ b5 h xs ([.i a0]++cU)→cf gQ xs h=some (.bool r,h))(tD:∀h K,Has h (K++(L))→aZ dK h bc cU)(jR:∀h,aZ dK h cU cU)  : cd Tryz.prog cf DW m (sub [1,1,1,0,1,0,0] (bA Tryz.f63)) (fun k (σ:(List Int) × Int × Int)=>fw.l0 m s0 nE k σ.1 σ.2.1 σ.2.2) (fun σ s=>match σ with | (s1,i0,j0)=>∃h0,s=⟨.rs aV 0 s0.length 1 :: .fn gQ bc :: .any :: .i i0 :: .i j0::lW [],[],h0⟩∧Has h0 ((aV,.sl s0.length 1 (ae.l s1))::L)) (fun out e s=>(e = .exit 0∧∃s1 i0 j0,(s1,i0,j0)=out∧∃wC DR LA h0,s=⟨[.rs aV 0 s0.length 1,wC,.any,.i i0,DR,.any,.any,LA,.any],[],h0⟩∧Has h0 ((aV,.sl s0.length 1 (ae.l s1))::L))):=by
 refine jW (fun _=>rfl) ?_
 rintro k ⟨s1,i0,j0⟩ s out ⟨h0,rfl,o0⟩ H
 have H:fw.l0 m s0 nE (k+1) s1 i0 j0=some out:=H
 refine qq <| qq <| q0 <| qc H (fun c1 H=>?_) (fun c1 H=>?_)
 ·refine qk <| qq <| qb 1 <| qq ?_
  obtain⟨v0,e1,H⟩:=aQ H
  refine qr [.v 2 (aL (k:=.i64) (E:=ae) (l:=s1) (q:=0) de o0 rfl e1),.v 3 (bn  (E:=ae) (l:=s1) (q:=0) o0 rfl A3 e1 rfl)] <| qq ?_
  obtain⟨r0,e2,H⟩:=aQ H
  refine qr [.a 2 (jQ _ _ _ _ e2 (PQ (ao (bP) (aJ)) (tD h0 [(aV,.sl s0.length 1 (ae.l s1))] o0)))] <| qc H (fun c2 H=>?_) (fun c2 H=>?_)
  ·refine qq ?_
   obtain⟨v1,e3,H⟩:=aQ H
   obtain⟨h1,e4,o1⟩:=dJ (P:=Tryz.prog) (tf:=3) (E:=ae) (l:=s1) (q:=0) (v:=v0) (x:=.i v0) o0 rfl Z3 e3 rfl rfl
   exact qr [.v 3 (aL (k:=.i64) (E:=ae) (l:=s1) (q:=0) de o0 rfl e3),.w 4 e4] <| q0 <| q0 <| ⟨(s1.set i0.toNat v0,i64.wrap (i0+1),i64.wrap (j0+1)),⟨h1,kr,o1⟩,H⟩
  ·exact qk <| q0 <| ⟨(s1,i0,i64.wrap (j0+1)),⟨h0,kr,o0⟩,H⟩
 ·exact qx 0 <| ⟨rfl,s1,i0,j0,oi H,.fn gQ bc,.i j0,.bool (decide (j0<(s0.length:Int))),h0,kr,o0⟩
theorem zG {aX:FuncId→bX}(ha:aX 63=DW)(RI:XL cf m)(s0:List Int)(nE:Int→Option (Bool))(h:AHeap)(L:Mem)(aV:Nat)(gQ:FuncId)(bc cU:List AV)  (yy:aP (.fn gQ bc) = .fn gQ bc)(jQ:∀(h:AHeap) (xs:List AV) (a0:Int) r,nE a0=some r→aZ b5 h xs ([.i a0]++cU)→cf gQ xs h=some (.bool r,h))(tD:∀h K,Has h (K++(L))→aZ dK h bc cU)(jR:∀h,aZ dK h cU cU)(o:Has h ((aV,.sl s0.length 1 (ae.l s0))::L)){out:(List Int)}(H:fw.f m s0 nE=some out) :
  ∃r h',ba Tryz.prog aX cf m 63 [.rs aV 0 s0.length 1,.fn gQ bc] h=some (r,h')∧r = .rs aV 0 out.length 1∧Has h' ((aV,.sl out.length 1 (ae.l out))::L):=by
 refine ax (fn:=Tryz.f63) ha Tryz.func63 kr kr ?_
 refine aI (Q:=fun s=>fw.fin L aV s0 nE out s) (fun _ _ ⟨h1,h2,h3⟩=>⟨h1,_,h2,rfl,h3⟩) ?_
 have H:_=some out:=H
 unfold fw.f at H
 show dB _ cf DW m _ ⟨.rs aV 0 s0.length 1 :: .fn gQ bc::EY [],[],h⟩ _
 refine q1 <| qq ?_
 obtain⟨x0,e0,H⟩:=aQ H
 refine qr [.a 2 (RI _ _ _ e0 gQ cU jQ jR h _ (km (ao (b4 (E:=ae) (l:=s0) (q:=0) o rfl (fun _=>rfl)) (ao (yt (tD h [(aV,.sl s0.length 1 (ae.l s0))] o)) (aJ)))))] <| qq <| qq <| q0 <| qc H (fun c0 H=>?_) (fun c0 H=>?_)
 ·obtain rfl:=oi H
  exact q1 <| qt <| ⟨.inl rfl,⟨kr,he o⟩⟩
 ·refine qk <| qq <| qq <| q0 <| qb 0 ?_
  obtain⟨bI,e5,H⟩:=aQ H
  refine ql (fw.cF L aV gQ bc cU s0 nE  yy jQ tD jR  (s0,x0,i64.wrap (x0+1)) _ _ ⟨h,kr,o⟩ e5) ?_
  rintro e s ⟨rfl,s2,i1,j1,rfl,g0,g1,g2,h2,rfl,o2⟩
  try dsimp only at H
  refine qq ?_
  obtain⟨v2,e6,H⟩:=aQ H
  obtain⟨h3,e7,o3⟩:=Rt (q:=0) (l:=s2) XA o2 rfl e6
  refine qr [.v 2 (Rs (E:=ae) (k:=.i64) (q:=0) (l:=s2) de o2 rfl (yr e6).1 (yr e6).2.1),.a 3 e7] <| qq ?_
  obtain⟨v3,e8,H⟩:=aQ H
  obtain⟨XR,o4⟩:=KS (P:=Tryz.prog) (k:=.i64) (E:=ae) (q:=0) o3 rfl de e8
  obtain rfl:=oi H
  exact qr [.v 2 XR] <| qt <| ⟨.inl rfl,⟨kr,he o4⟩⟩
end
def Au:bX:=gP [0,1,2,6,7,8,9,10,11,12,13,14,22,46,70,73,77,78,79] [11,12,13,18] [524280,524248,524190,524062,519966,524062,523806,515614,522270,505886,489502,524263,325662,63518,323614,325662,325662,524062,524263] [] [(1,[(8,none,1)])]
def aN.l1 (m:Nat)(v2:ai)(v3:ai):Nat→(List bV)→Int→ab→Option ((List bV) × Int × ab)
 | 0,_,_,_=>none
 | k+1,mL,x3,s2=>if (decide (x3<(v2.args.length:Int)))=true then ((ix v2.args x3).bind fun v4=>(ix v3.args x3).bind fun v5=>(app 16 mL ([(bV.mk v4 v5)])).bind fun x4=>aN.l1 m v2 v3 k x4 (i64.wrap (x3+1)) s2) else (some ((mL,x3,s2)))
def aN.l0 (m:Nat)  : Nat→(List Int)→(List bV)→Int→ab→Option (Sum ((List Int) × Bool × ab) ((List Int) × (List bV) × Int × ab))
 | 0,_,_,_,_=>none
 | k+1,aU,ik,k0,s1=>if (decide (k0<(ik.length:Int)))=true then ((ix ik k0).bind fun v0=>(bR.f m s1 v0.mV).bind fun x0=>(ix ik k0).bind fun v1=>(bR.f m s1 v1.ox).bind fun x1=>if ((x0==x0)&&(x1==x0))=true then (aN.l0 m k aU ik (i64.wrap (k0+1)) s1) else ((ix s1.aa x0).bind fun v2=>(ix s1.aa x1).bind fun v3=>if (!(v2.kind==0))=true then (if (!(v3.kind==0))=true then ((ie.f m v2 v3).bind fun x2=>if x2=true then (some (.inl (aU,false,s1))) else ((aN.l1 m v2 v3 m ik 0 s1).bind fun bI=>match bI with | (LC,x5,s3)=>(dF.f m s3 x0 x1).bind fun x6=>(app 8 aU ([x6.1])).bind fun x7=>aN.l0 m k x7 LC (i64.wrap (k0+1)) x6.2)) else ((dF.f m s1 x0 x1).bind fun x8=>(app 8 aU ([x8.1])).bind fun x9=>aN.l0 m k x9 ik (i64.wrap (k0+1)) x8.2)) else ((dF.f m s1 x0 x1).bind fun lX=>(app 8 aU ([lX.1])).bind fun xi=>aN.l0 m k xi ik (i64.wrap (k0+1)) lX.2))) else (some (.inr (aU,ik,k0,s1)))
def aN.f (m:Nat)(s0:ab)(a0:Int)(b0:Int):Option ((List Int) × Bool × ab):=(aN.l0 m m ([]:List Int) ([(bV.mk a0 b0)]) 0 s0).bind fun eT=>match eT with | .inl r0=>some r0 | .inr (tI,UJ,k1,s4)=>some (tI,true,s4)
def aN.fin (L:Mem)(aq:Nat)(ak:Nat)(az:Nat)(s0:ab)(a0:Int)(b0:Int)(r:(List Int) × Bool × ab)(s:St):Prop:=∃du aB aC:Nat,aM Tryz.prog (s.open Au) Tryz.f68.results.toList=some (.tup [.rs du 0 r.1.length 1,.bool r.2.1])∧Has s.h ((du,.sl r.1.length 1 (ae.l r.1))::(aq,.ob [.bool r.2.2.aA,.rs aB 0 r.2.2.aa.length 4,.rs aC 0 r.2.2.an.length 1])::(aB,.sl r.2.2.aa.length 4 (af.l r.2.2.aa))::(aC,.sl r.2.2.an.length 1 (ae.l r.2.2.an))::L)
def XS (cf:CallF)(m:Nat):Prop:=∀(s0:ab) (a0:Int) (b0:Int) (r:(List Int) × Bool × ab),aN.f m s0 a0 b0=some r→∀h L (aq:Nat) (ak:Nat) (az:Nat),Has h ((aq,.ob [.bool s0.aA,.rs ak 0 s0.aa.length 4,.rs az 0 s0.an.length 1])::(ak,.sl s0.aa.length 4 (af.l s0.aa))::(az,.sl s0.an.length 1 (ae.l s0.an))::L)→∀xs,xs.map aP=[.ptr aq 0,.i a0,.i b0]→∃du aB aC h',cf 68 xs h=some (.tup [.rs du 0 r.1.length 1,.bool r.2.1],h')∧Has h' ((du,.sl r.1.length 1 (ae.l r.1))::(aq,.ob [.bool r.2.2.aA,.rs aB 0 r.2.2.aa.length 4,.rs aC 0 r.2.2.an.length 1])::(aB,.sl r.2.2.aa.length 4 (af.l r.2.2.aa))::(aC,.sl r.2.2.an.length 1 (ae.l r.2.2.an))::L)
section
variable {cf:CallF}{m:Nat}
theorem aN.jG (L:Mem)(aq:Nat)(ak:Nat)(az:Nat)(s0:ab)(a0:Int)(b0:Int)(dr:Nat)(aU:List Int)(k0:Int)(dr:Nat)(x0:Int)(x1:Int)(v2:ai)(v3:ai)   : cd Tryz.prog cf Au m (sub [1,1,1,0,1,0,0,1,0,0,1,1,1,0,1,0,1,1,0,0] (bA Tryz.f68)) (fun k (σ:(List bV) × Int × ab)=>aN.l1 m v2 v3 k σ.1 σ.2.1 σ.2.2) (fun σ s=>match σ with | (mL,x3,s2)=>∃ir iy iA h2,s=⟨.ptr aq 0::lW (.rs dr 0 aU.length 1 :: .rs ir 0 mL.length 2 :: .i k0 :: .lp 11 0 :: .lp 12 0 :: .lp 13 0::wz [.i (v2.args.length:Int),.i x3,.any]),[some [.i x0,.i x1],some [.i v2.kind,.i v2.int,.str v2.label,ae.fz v2.args],some [.i v3.kind,.i v3.int,.str v3.label,ae.fz v3.args],none],h2⟩∧Has h2 ((ir,.sl mL.length 2 (fZ.l mL))::(dr,.sl aU.length 1 (ae.l aU))::(aq,.ob [.bool s2.aA,.rs iy 0 s2.aa.length 4,.rs iA 0 s2.an.length 1])::(iy,.sl s2.aa.length 4 (af.l s2.aa))::(iA,.sl s2.an.length 1 (ae.l s2.an))::L)) (fun out e s=>(e = .exit 2∧∃mL x3 s2,(mL,x3,s2)=out∧∃uR qF XT XU XV XW RJ ir iy iA h2,s=⟨.ptr aq 0::lW (.rs dr 0 aU.length 1 :: .rs ir 0 mL.length 2 :: .i k0 :: .lp 11 0::uR::qF::wz [XT,XU,XV]),[some [.i x0,.i x1],XW,RJ,none],h2⟩∧Has h2 ((ir,.sl mL.length 2 (fZ.l mL))::(dr,.sl aU.length 1 (ae.l aU))::(aq,.ob [.bool s2.aA,.rs iy 0 s2.aa.length 4,.rs iA 0 s2.an.length 1])::(iy,.sl s2.aa.length 4 (af.l s2.aa))::(iA,.sl s2.an.length 1 (ae.l s2.an))::L))):=by
 refine jW (fun _=>rfl) ?_
 rintro k ⟨mL,x3,s2⟩ s out ⟨ir,iy,iA,h2,rfl,o4⟩ H
 have H:aN.l1 m v2 v3 (k+1) mL x3 s2=some out:=H
 refine q1 <| qq <| qc H (fun c5 H=>?_) (fun c5 H=>?_)
 ·refine qk <| qq <| qb 3 <| qq <| q0 ?_
  obtain⟨v4,e8,H⟩:=aQ H
  obtain⟨v5,e9,H⟩:=aQ H
  obtain⟨x4,nW,H⟩:=aQ H
  obtain⟨lh,h3,rG,o5⟩:=dY (P:=Tryz.prog) (E:=fZ) (l:=mL) (q:=0) (t2:=111) (x:=.fz [.i v4,.i v5] 1 true) (l2:=([(bV.mk v4 v5)])) Rv o4 rfl kr rfl nW
  exact qr [.v 4 (bW (k:=.i64) (E:=ae) (l:=v2.args) de e8),.v 5 (dk  (E:=ae) (l:=v2.args) h2 A3 e8 rfl),.v 9 (bW (k:=.i64) (E:=ae) (l:=v3.args) de e9),.v 10 (dk  (E:=ae) (l:=v3.args) h2 A3 e9 rfl),.a 13 rG] <| q0 <| ⟨(x4,i64.wrap (x3+1),s2),⟨lh,iy,iA,h3,kr,o5⟩,H⟩
 ·exact qx 2 <| ⟨rfl,mL,x3,s2,oi H,.lp 12 0,.lp 13 0,.i (v2.args.length:Int),.i x3,.bool (decide (x3<(v2.args.length:Int))),some [.i v2.kind,.i v2.int,.str v2.label,ae.fz v2.args],some [.i v3.kind,.i v3.int,.str v3.label,ae.fz v3.args],ir,iy,iA,h2,kr,o4⟩
theorem aN.cF (L:Mem)(aq:Nat)(ak:Nat)(az:Nat)(s0:ab)(a0:Int)(b0:Int)  (OH:XD cf m)(LD:Ry cf m)(DX:Rz cf m):cd Tryz.prog cf Au m (sub [1,1,1,0,1,0,0] (bA Tryz.f68)) (fun k (σ:(List Int) × (List bV) × Int × ab)=>aN.l0 m k σ.1 σ.2.1 σ.2.2.1 σ.2.2.2) (fun σ s=>match σ with | (aU,ik,k0,s1)=>∃cm dr cE dT h1,s=⟨.ptr aq 0::lW (.rs dr 0 aU.length 1 :: .rs cm 0 ik.length 2 :: .i k0::ss []),[none,none,none,none],h1⟩∧Has h1 ((cm,.sl ik.length 2 (fZ.l ik))::(dr,.sl aU.length 1 (ae.l aU))::(aq,.ob [.bool s1.aA,.rs cE 0 s1.aa.length 4,.rs dT 0 s1.an.length 1])::(cE,.sl s1.aa.length 4 (af.l s1.aa))::(dT,.sl s1.an.length 1 (ae.l s1.an))::L)) (fun out e s=>(e = .exit 0∧∃aU ik k0 s1,.inr (aU,ik,k0,s1)=out∧∃nA wE uK uT cm dr cE dT h1,s=⟨nA::lW (.rs dr 0 aU.length 1::wE::uK::lW (uT::yh [])),[none,none,none,none],h1⟩∧Has h1 ((cm,.sl ik.length 2 (fZ.l ik))::(dr,.sl aU.length 1 (ae.l aU))::(aq,.ob [.bool s1.aA,.rs cE 0 s1.aa.length 4,.rs dT 0 s1.an.length 1])::(cE,.sl s1.aa.length 4 (af.l s1.aa))::(dT,.sl s1.an.length 1 (ae.l s1.an))::L))∨(e = .ret∧∃r,.inl r=out∧aN.fin L aq ak az s0 a0 b0 r s)):=by
 refine jW (fun _=>rfl) ?_
 rintro k ⟨aU,ik,k0,s1⟩ s out ⟨cm,dr,cE,dT,h1,rfl,o2⟩ H
 have H:aN.l0 m (k+1) aU ik k0 s1=some out:=H
 refine qq <| qq <| q0 <| qc H (fun c0 H=>?_) (fun c0 H=>?_)
 ·refine qk <| qq <| qb 1 <| qq ?_
  obtain⟨v0,e1,H⟩:=aQ H
  obtain⟨x0,e2,H⟩:=aQ H
  obtain⟨v1,e3,H⟩:=aQ H
  obtain⟨x1,e4,H⟩:=aQ H
  refine Ro [] [.v 3 (aL (k:=.i64) (E:=fZ) (l:=ik) (q:=0) Rv o2 rfl e1),.v 5 (oL  (E:=fZ) (l:=ik) (q:=0) (off:=0) o2 rfl A3 e1 rfl),.a 6 (OH _ _ _ e2 h1 _ (km (ao (da (q:=2) o2 rfl (ao (dD) (ao (b4 (E:=af) (l:=s1.aa) (q:=3) o2 rfl (fun _=>rfl)) (ao (b4 (E:=ae) (l:=s1.an) (q:=4) o2 rfl (fun _=>rfl)) (aJ))))) (ao (bP) (aJ))))),.v 10 (aL (k:=.i64) (E:=fZ) (l:=ik) (q:=0) Rv o2 rfl e3),.v 12 (oL  (E:=fZ) (l:=ik) (q:=0) (off:=1) o2 rfl A3 e3 rfl),.a 13 (OH _ _ _ e4 h1 _ (km (ao (da (q:=2) o2 rfl (ao (dD) (ao (b4 (E:=af) (l:=s1.aa) (q:=3) o2 rfl (fun _=>rfl)) (ao (b4 (E:=ae) (l:=s1.an) (q:=4) o2 rfl (fun _=>rfl)) (aJ))))) (ao (bP) (aJ)))))] [.mk (h:=h1) (h':=h1) (i:=cm) rfl] ?_
  refine qq <| qq <| qr [.v 6 (show pX Tryz.prog .eql 110 (.agg [.i x0,.i x1]) (.agg [.i x0,.i x0])=some (.bool ((x0==x0)&&(x1==x0))) from OD Uz)] <| qc H (fun c1 H=>?_) (fun c1 H=>?_)
  ·exact qx 1 <| q0 <| ⟨(aU,ik,i64.wrap (k0+1),s1),⟨cm,dr,cE,dT,h1,kr,o2⟩,H⟩
  ·refine qk <| qq ?_
   obtain⟨v2,e5,H⟩:=aQ H
   obtain⟨v3,e6,H⟩:=aQ H
   refine qr [.v 3 (show bB Tryz.prog h1 23 (.ptr aq 1)=some (.rs cE 0 s1.aa.length 4) from b7 (q:=2) (cs:=[.bool s1.aA,.rs cE 0 s1.aa.length 4,.rs dT 0 s1.an.length 1]) o2 rfl kr),.v 6 (aL (k:=.i64) (E:=af) (l:=s1.aa) (q:=3) lF o2 rfl e5),.v 7 (xg  (E:=af) (l:=s1.aa) (q:=3) o2 rfl sM sN e5),.v 11 (show bB Tryz.prog h1 23 (.ptr aq 1)=some (.rs cE 0 s1.aa.length 4) from b7 (q:=2) (cs:=[.bool s1.aA,.rs cE 0 s1.aa.length 4,.rs dT 0 s1.an.length 1]) o2 rfl kr),.v 14 (aL (k:=.i64) (E:=af) (l:=s1.aa) (q:=3) lF o2 rfl e6),.v 15 (xg  (E:=af) (l:=s1.aa) (q:=3) o2 rfl sM sN e6)] <| qq <| qq ?_
   rcases dZ H with⟨c2,H⟩| ⟨c2,H⟩
   ·refine qr [.b 3 c2] <| qc H (fun c3 H=>?_) (fun c3 H=>?_)
    ·refine qq <| qq ?_
     obtain⟨x2,e7,H⟩:=aQ H
     refine qr [.a 2 (LD _ _ _ e7 h1 _ fq)] <| qc H (fun c4 H=>?_) (fun c4 H=>?_)
     ·refine q1 ?_
      have o3:Has h1 ((dr,.sl aU.length 1 (ae.l aU))::(aq,.ob [.bool s1.aA,.rs cE 0 s1.aa.length 4,.rs dT 0 s1.an.length 1])::(cE,.sl s1.aa.length 4 (af.l s1.aa))::(dT,.sl s1.an.length 1 (ae.l s1.an))::L):=jV o2 0
      exact qt <| agv (⟨rfl,_,oi H,⟨dr,cE,dT,kr,he o3⟩⟩)
     ·refine qk <| qq <| q0 <| qb 2 ?_
      obtain⟨bI,sy,H⟩:=aQ H
      refine ql (aN.jG L aq ak az s0 a0 b0 dr aU k0 dr x0 x1 v2 v3   (ik,0,s1) _ _ ⟨cm,cE,dT,h1,kr,o2⟩ sy) ?_
      rintro e s ⟨rfl,LC,x5,s3,rfl,g0,g1,g2,g3,g4,g5,g6,ml,eR,ij,h4,rfl,o6⟩
      try dsimp only at H
      obtain⟨x6,rZ,H⟩:=aQ H
      obtain⟨fF,fP,h5,wG,o7⟩:=DX _ _ _ _ rZ h4 _ _ _ _ ((bN (bN (bN (bN (bN o6 1) 1) 4) 4) 4))  [.ptr aq 0,.i x0,.i x1] cq
      obtain⟨x7,sA,H⟩:=aQ H
      obtain⟨gI,h6,uP,o8⟩:=dY (P:=Tryz.prog) (E:=ae) (l:=aU) (q:=4) (t2:=22) (x:=.fz [.i x6.1] 1 true) (l2:=([x6.1])) de o7 rfl kr rfl sA
      exact qr [.a 6 wG,.a 8 uP] <| q0 <| ⟨(x7,LC,i64.wrap (k0+1),x6.2),⟨ml,gI,fF,fP,h6,kr,(bN (bN (bN (bN (bN o8 2) 2) 2) 4) 4)⟩,H⟩
    ·refine qk ?_
     obtain⟨x8,wK,H⟩:=aQ H
     obtain⟨iJ,jm,h7,zk,o9⟩:=DX _ _ _ _ wK h1 _ _ _ _ ((bN (bN (bN (bN (bN o2 1) 1) 4) 4) 4))  [.ptr aq 0,.i x0,.i x1] cq
     obtain⟨x9,vU,H⟩:=aQ H
     obtain⟨lY,h8,Av,sO⟩:=dY (P:=Tryz.prog) (E:=ae) (l:=aU) (q:=4) (t2:=22) (x:=.fz [.i x8.1] 1 true) (l2:=([x8.1])) de o9 rfl kr rfl vU
     exact qr [.a 6 zk,.a 8 Av] <| q0 <| ⟨(x9,ik,i64.wrap (k0+1),x8.2),⟨cm,lY,iJ,jm,h8,kr,(bN (bN (bN (bN (bN sO 2) 2) 2) 4) 4)⟩,H⟩
   ·refine qr [.b 3 c2] <| zD <| qk ?_
    obtain⟨lX,Aw,H⟩:=aQ H
    obtain⟨mM,qM,h9,Ax,tH⟩:=DX _ _ _ _ Aw h1 _ _ _ _ ((bN (bN (bN (bN (bN o2 1) 1) 4) 4) 4))  [.ptr aq 0,.i x0,.i x1] cq
    obtain⟨xi,zl,H⟩:=aQ H
    obtain⟨iK,h10,zH,xj⟩:=dY (P:=Tryz.prog) (E:=ae) (l:=aU) (q:=4) (t2:=22) (x:=.fz [.i lX.1] 1 true) (l2:=([lX.1])) de tH rfl kr rfl zl
    exact qr [.a 6 Ax,.a 8 zH] <| q0 <| ⟨(xi,ik,i64.wrap (k0+1),lX.2),⟨cm,iK,mM,qM,h10,kr,(bN (bN (bN (bN (bN xj 2) 2) 2) 4) 4)⟩,H⟩
 ·exact qx 0 <| Or.inl (⟨rfl,aU,ik,k0,s1,oi H,.ptr aq 0,.rs cm 0 ik.length 2,.i k0,.bool (decide (k0<(ik.length:Int))),cm,dr,cE,dT,h1,kr,o2⟩)
theorem nY {aX:FuncId→bX}(ha:aX 68=Au)(OH:XD cf m)(LD:Ry cf m)(DX:Rz cf m)(s0:ab)(a0:Int)(b0:Int)(h:AHeap)(L:Mem)(aq:Nat)(ak:Nat)(az:Nat)  (o:Has h ((aq,.ob [.bool s0.aA,.rs ak 0 s0.aa.length 4,.rs az 0 s0.an.length 1])::(ak,.sl s0.aa.length 4 (af.l s0.aa))::(az,.sl s0.an.length 1 (ae.l s0.an))::L)){out:(List Int) × Bool × ab}(H:aN.f m s0 a0 b0=some out) :
  ∃r h',ba Tryz.prog aX cf m 68 [.ptr aq 0,.i a0,.i b0] h=some (r,h')∧∃du aB aC:Nat,r = .tup [.rs du 0 out.1.length 1,.bool out.2.1]∧Has h' ((du,.sl out.1.length 1 (ae.l out.1))::(aq,.ob [.bool out.2.2.aA,.rs aB 0 out.2.2.aa.length 4,.rs aC 0 out.2.2.an.length 1])::(aB,.sl out.2.2.aa.length 4 (af.l out.2.2.aa))::(aC,.sl out.2.2.an.length 1 (ae.l out.2.2.an))::L):=by
 refine ax (fn:=Tryz.f68) ha Tryz.func68 kr kr ?_
 refine aI (Q:=fun s=>aN.fin L aq ak az s0 a0 b0 out s) (fun _ _ ⟨h1,du,aB,aC,h2,h3⟩=>⟨h1,_,h2,du,aB,aC,rfl,h3⟩) ?_
 have H:_=some out:=H
 unfold aN.f at H
 show dB _ cf Au m _ ⟨.ptr aq 0 :: .i a0 :: .i b0::FF [],[none,none,none,none],h⟩ _
 refine q1 <| qq <| q0 ?_
 have o0:Has h (((0),.sl (([]:List Int).length) 1 (ae.l ([]:List Int)))::(aq,.ob [.bool s0.aA,.rs ak 0 s0.aa.length 4,.rs az 0 s0.an.length 1])::(ak,.sl s0.aa.length 4 (af.l s0.aa))::(az,.sl s0.an.length 1 (ae.l s0.an))::L):=Has.nil o 1
 refine qq ?_
 obtain⟨aV,h0,e0,o1⟩:=G0 (E:=fZ) (l:=[(bV.mk a0 b0)]) (cs:=[.i a0,.i b0]) o0 kr
 refine qr [.a 3 e0] <| qq <| qq <| q0 <| qb 0 ?_
 obtain⟨eT,B3,H⟩:=aQ H
 refine ql (aN.cF L aq ak az s0 a0 b0  OH LD DX (([]:List Int),[(bV.mk a0 b0)],0,s0) _ _ ⟨aV,(0),ak,az,h0,ld,(rz o1)⟩ B3) ?_
 rintro e s (⟨rfl,tI,UJ,k1,s4,rfl,g7,g8,g9,g10,FQ,kg,DY,uU,h11,rfl,mK⟩| ⟨rfl,r0,rfl,sw⟩)
 ·try dsimp only at H
  refine q1 ?_
  have rJ:Has h11 ((kg,.sl tI.length 1 (ae.l tI))::(aq,.ob [.bool s4.aA,.rs DY 0 s4.aa.length 4,.rs uU 0 s4.an.length 1])::(DY,.sl s4.aa.length 4 (af.l s4.aa))::(uU,.sl s4.an.length 1 (ae.l s4.an))::L):=jV mK 0
  obtain rfl:=oi H
  exact qt <| ⟨.inl rfl,⟨kg,DY,uU,kr,he rJ⟩⟩
 ·try dsimp only at H
  obtain rfl:=oi H
  exact⟨.inl rfl,sw⟩
end
def Hr:bX:=gP [0,1,2,4,5] [] [25,9,11,15,15,23] [] []
def dP.f (m:Nat)(s0:ab)(aU:List Int):Option ((List Int)):=(sr 8 (aU.length:Int) 0).bind fun x0=>(Ut x0 aU).bind fun cp0=>(fw.f m cp0 (fun y0=>eF.f m y0 s0)).bind fun x1=>some (kG x1)
def dP.fin (L:Mem)  (r:(List Int))(s:St):Prop:=∃du:Nat,aM Tryz.prog (s.open Hr) Tryz.f70.results.toList=some (.rs du 0 r.length 1)∧Has s.h ((du,.sl r.length 1 (ae.l r))::L)
def XX (cf:CallF)(m:Nat):Prop:=∀(s0:ab) (aU:List Int) (r:(List Int)),dP.f m s0 aU=some r→∀h L xs,Has h L→aZ b5 h xs [.fp [.bool s0.aA,af.fz s0.aa,ae.fz s0.an] 0,ae.fz aU]→∃du h',cf 70 xs h=some (.rs du 0 r.length 1,h')∧Has h' ((du,.sl r.length 1 (ae.l r))::L)∧∀j,j<h.next→h.ver j=h'.ver j
section
variable {cf:CallF}{m:Nat}
theorem oZ {aX:FuncId→bX}(ha:aX 70=Hr)(XY:S63 cf m)(XZ:S66 cf m)(UK:UC cf m)(s0:ab)(aU:List Int)(h:AHeap)(L:Mem)  (o:Has h (L)){out:(List Int)}(H:dP.f m s0 aU=some out) :
  ∃r h',ba Tryz.prog aX cf m 70 [.fp [.bool s0.aA,af.fz s0.aa,ae.fz s0.an] 0,ae.fz aU] h=some (r,h')∧∃du:Nat,r = .rs du 0 out.length 1∧Has h' ((du,.sl out.length 1 (ae.l out))::L):=by
 refine ax (fn:=Tryz.f70) ha Tryz.func70 kr kr ?_
 refine aI (Q:=fun s=>dP.fin L out s) (fun _ _ ⟨h1,du,h2,h3⟩=>⟨h1,_,h2,du,rfl,h3⟩) ?_
 have H:_=some out:=H
 unfold dP.f at H
 show dB _ cf Hr m _ ⟨.fp [.bool s0.aA,af.fz s0.aa,ae.fz s0.an] 0::ae.fz aU::mU [],[],h⟩ _
 refine qq ?_
 obtain⟨aV,h0,e0,o0⟩:=iX (cs:=[.fp [.bool s0.aA,af.fz s0.aa,ae.fz s0.an] 0]) o kr
 refine qr [.a 0 e0] <| qq ?_
 obtain⟨x0,e1,H⟩:=aQ H
 obtain⟨dr,h1,e2,o1⟩:=qv (P:=Tryz.prog) (E:=ae) (z:=0) (zv:=.i 0) de o0 3 rfl rfl rfl rfl e1
 refine qr [.a 2 e2] <| qq ?_
 obtain⟨cp0,e3,H⟩:=aQ H
 obtain⟨h2,e4,o2⟩:=OC (P:=Tryz.prog) (E:=ae) (l:=x0) (s:=aU) (q:=0) (t2:=22) de o1 rfl (Rr (E:=ae)) rfl (Uu _) e3
 refine qr [.a 2 e4] <| qq ?_
 obtain⟨x1,e5,H⟩:=aQ H
 obtain⟨h3,e6,o3⟩:=XY _ _ _ e5 h2 _ _ _ (o2) 107 [.ptr aV 0] [.fp [.fp [.bool s0.aA,af.fz s0.aa,ae.fz s0.an] 0] 0] rfl (fun h' zF y0 r hr hx=>UK y0 _ r hr h' zF hx) (fun h' K' o'=>ll (ao (da (q:=(K'.length+0)) o' (lV rfl) (ao (gT (pure_cons (dj) (pure_cons (bY.bz (E:=af) (l:=s0.aa)) (pure_cons (bY.bz (E:=ae) (l:=s0.an)) (pure_nil))))) (aJ))) (aJ))) (fun h_=>ll (ao (gT (pure_cons (oT (pure_cons (dj) (pure_cons (bY.bz (E:=af) (l:=s0.aa)) (pure_cons (bY.bz (E:=ae) (l:=s0.an)) (pure_nil))))) (pure_nil))) (aJ))) [.rs dr 0 x0.length 1,.fn 107 [.ptr aV 0]] cq
 refine qr [.a 2 e6] ?_
 have o4:Has h3 ((dr,.sl x1.length 1 (ae.l x1))::L):=jV o3 1
 refine qq ?_
 obtain⟨h4,e7,o5⟩:=Rk (l:=x1) XZ o4
 obtain rfl:=oi H
 exact qr [.a 1 e7] <| qq <| q0 <| qt <| ⟨.inl rfl,⟨dr,by rw [rv]; kernel_rfl,he (by simpa only [rv] using o5)⟩⟩
end
def Hs:bX:=gP [0,1,4] [] [4,3] [] []
def jH.f (m:Nat)(s0:List ai)(f0:ai→Option (Bool)):Option (Bool):=(gY.f m s0 f0).bind fun x0=>some (decide (x0≥0))
def jH.fin (L:Mem)(r:Bool)(s:St):Prop:=∃av,aM Tryz.prog (s.open Hs) Tryz.f77.results.toList=some av∧fG s.h av (.bool r)
def S77 (cf:CallF)(m:Nat):Prop:=∀(s0:List ai) (f0:ai→Option (Bool)) (r:Bool),jH.f m s0 f0=some r→∀(gQ:FuncId) (bc:List AV),(∀(h:AHeap) (xs:List AV) (a0:ai) r,f0 a0=some r→aZ b5 h xs ([.agg [.i a0.kind,.i a0.int,.str a0.label,ae.fz a0.args]]++bc)→cf gQ xs h=some (.bool r,h))→(∀h,aZ dK h bc bc)→∀h xs,aZ b5 h xs [af.fz s0,.fn gQ bc]→cf 77 xs h=some (.bool r,h)
section
variable {cf:CallF}{m:Nat}
theorem wM {aX:FuncId→bX}(ha:aX 77=Hs)(UL:UD cf m)(s0:List ai)(f0:ai→Option (Bool))(h:AHeap)(L:Mem)(gQ:FuncId)(bc:List AV)  (jQ:∀(h:AHeap) (xs:List AV) (a0:ai) r,f0 a0=some r→aZ b5 h xs ([.agg [.i a0.kind,.i a0.int,.str a0.label,ae.fz a0.args]]++bc)→cf gQ xs h=some (.bool r,h))(jR:∀h,aZ dK h bc bc)(o:Has h (L)){out:Bool}(H:jH.f m s0 f0=some out) :
  ∃r h',ba Tryz.prog aX cf m 77 [af.fz s0,.fn gQ bc] h=some (r,h')∧fG h' r (.bool out):=by
 refine ax (fn:=Tryz.f77) ha Tryz.func77 kr kr ?_
 refine aI (Q:=fun s=>jH.fin L out s) (fun _ _ h=>h) ?_
 have H:_=some out:=H
 unfold jH.f at H
 show dB _ cf Hs m _ ⟨[af.fz s0,.fn gQ bc,.any],[],h⟩ _
 refine q1 <| qq ?_
 obtain⟨x0,e0,H⟩:=aQ H
 exact qr [.a 2 (UL _ _ _ e0 gQ bc jQ jR h _ (km (ao (kF (E:=af)) (ao (yt (jR h)) (aJ)))))] <| qt <| fB H
end
def Ht:bX:=gP [0,1,4] [] [4,3] [] []
def gB.f (m:Nat)(s0:List Int)(f0:Int→Option (Bool)):Option (Bool):=(dU.f m s0 f0).bind fun x0=>some (decide (x0≥0))
def gB.fin (L:Mem)(r:Bool)(s:St):Prop:=∃av,aM Tryz.prog (s.open Ht) Tryz.f83.results.toList=some av∧fG s.h av (.bool r)
def Wh (cf:CallF)(m:Nat):Prop:=∀(s0:List Int) (f0:Int→Option (Bool)) (r:Bool),gB.f m s0 f0=some r→∀(gQ:FuncId) (bc:List AV),(∀(h:AHeap) (xs:List AV) (a0:Int) r,f0 a0=some r→aZ b5 h xs ([.i a0]++bc)→cf gQ xs h=some (.bool r,h))→(∀h,aZ dK h bc bc)→∀h xs,aZ b5 h xs [ae.fz s0,.fn gQ bc]→cf 83 xs h=some (.bool r,h)
section
variable {cf:CallF}{m:Nat}
theorem wN {aX:FuncId→bX}(ha:aX 83=Ht)(RI:XL cf m)(s0:List Int)(f0:Int→Option (Bool))(h:AHeap)(L:Mem)(gQ:FuncId)(bc:List AV)  (jQ:∀(h:AHeap) (xs:List AV) (a0:Int) r,f0 a0=some r→aZ b5 h xs ([.i a0]++bc)→cf gQ xs h=some (.bool r,h))(jR:∀h,aZ dK h bc bc)(o:Has h (L)){out:Bool}(H:gB.f m s0 f0=some out) :
  ∃r h',ba Tryz.prog aX cf m 83 [ae.fz s0,.fn gQ bc] h=some (r,h')∧fG h' r (.bool out):=by
 refine ax (fn:=Tryz.f83) ha Tryz.func83 kr kr ?_
 refine aI (Q:=fun s=>gB.fin L out s) (fun _ _ h=>h) ?_
 have H:_=some out:=H
 unfold gB.f at H
 show dB _ cf Ht m _ ⟨[ae.fz s0,.fn gQ bc,.any],[],h⟩ _
 refine q1 <| qq ?_
 obtain⟨x0,e0,H⟩:=aQ H
 exact qr [.a 2 (RI _ _ _ e0 gQ bc jQ jR h _ (km (ao (kF (E:=ae)) (ao (yt (jR h)) (aJ)))))] <| qt <| fB H
end
def Hu:bX:=gP [0,1,3] [] [4,3] [] []
def dL.f (m:Nat)(a0:Int)(x0:ab):Option (Bool):=(dO.f m x0 a0).bind fun x1=>some (!x1)
def dL.fin (L:Mem)(r:Bool)(s:St):Prop:=∃av,aM Tryz.prog (s.open Hu) Tryz.f84.results.toList=some av∧fG s.h av (.bool r)
def S84 (cf:CallF)(m:Nat):Prop:=∀(a0:Int) (x0:ab) (r:Bool),dL.f m a0 x0=some r→∀h xs,aZ b5 h xs [.i a0,.fp [.fp [.bool x0.aA,af.fz x0.aa,ae.fz x0.an] 0] 0]→cf 84 xs h=some (.bool r,h)
section
variable {cf:CallF}{m:Nat}
theorem mN {aX:FuncId→bX}(ha:aX 84=Hu)(Rx:XE cf m)(a0:Int)(x0:ab)(h:AHeap)(L:Mem)  (o:Has h (L)){out:Bool}(H:dL.f m a0 x0=some out) :
  ∃r h',ba Tryz.prog aX cf m 84 [.i a0,.fp [.fp [.bool x0.aA,af.fz x0.aa,ae.fz x0.an] 0] 0] h=some (r,h')∧fG h' r (.bool out):=by
 refine ax (fn:=Tryz.f84) ha Tryz.func84 kr kr ?_
 refine aI (Q:=fun s=>dL.fin L out s) (fun _ _ h=>h) ?_
 have H:_=some out:=H
 unfold dL.f at H
 show dB _ cf Hu m _ ⟨[.i a0,.fp [.fp [.bool x0.aA,af.fz x0.aa,ae.fz x0.an] 0] 0,.any],[],h⟩ _
 refine q1 <| qq ?_
 obtain⟨x1,e0,H⟩:=aQ H
 exact qr [.a 2 (Rx _ _ _ e0 h _ (km (ao (gT (pure_cons (dj) (pure_cons (bY.bz (E:=af) (l:=x0.aa)) (pure_cons (bY.bz (E:=ae) (l:=x0.an)) (pure_nil))))) (ao (bP) (aJ)))))] <| qt <| fB H
end
def Hv:bX:=gP [0,1,2] [] [4,3] [] []
def dV.f (m:Nat)(x0:ByteArray)(x1:Int):Option (Bool):=(iY.f m x0).bind fun x2=>if x2=true then (some (decide (x1≥0))) else (some false)
def dV.fin (L:Mem)(r:Bool)(s:St):Prop:=∃av,aM Tryz.prog (s.open Hv) Tryz.f86.results.toList=some av∧fG s.h av (.bool r)
def S86 (cf:CallF)(m:Nat):Prop:=∀(x0:ByteArray) (x1:Int) (r:Bool),dV.f m x0 x1=some r→∀h xs,aZ b5 h xs [.fp [.str x0] 0,.fp [.i x1] 0]→cf 86 xs h=some (.bool r,h)
section
variable {cf:CallF}{m:Nat}
theorem nZ {aX:FuncId→bX}(ha:aX 86=Hv)(LF:XF cf m)(x0:ByteArray)(x1:Int)(h:AHeap)(L:Mem)  (o:Has h (L)){out:Bool}(H:dV.f m x0 x1=some out) :
  ∃r h',ba Tryz.prog aX cf m 86 [.fp [.str x0] 0,.fp [.i x1] 0] h=some (r,h')∧fG h' r (.bool out):=by
 refine ax (fn:=Tryz.f86) ha Tryz.func86 kr kr ?_
 refine aI (Q:=fun s=>dV.fin L out s) (fun _ _ h=>h) ?_
 have H:_=some out:=H
 unfold dV.f at H
 show dB _ cf Hv m _ ⟨[.fp [.str x0] 0,.fp [.i x1] 0,.any],[],h⟩ _
 refine q1 <| qq ?_
 obtain⟨x2,e0,H⟩:=aQ H
 rcases dZ H with⟨c0,H⟩| ⟨c0,H⟩
 ·exact qr [.a 1 (LF _ _ e0 h _ fq),.b 2 c0] <| qt <| fB H
 ·exact qr [.a 1 (LF _ _ e0 h _ fq),.b 2 c0] <| qt <| fB H
end
def tJ:bX:=gP [0,1,2,6,7,8,9,10,11,12,13,14,15,16,17,31,52,74,102,107,131,147] [13,14,27] [4194296,4194264,4194206,4194078,4161310,4194078,4193310,4127774,4190238,4059166,3928094,4194279,4186142,3661854,4186142,4186142,4185118,4168734,3120158,4168734,2071582,4168734,4194279] [] [(0,[(6,none,1)]),(11,[(6,none,1)])]
def aw.l1 (m:Nat)(v4:ai)(v5:ai):Nat→(List uI)→Int→Option ((List uI) × Int)
 | 0,_,_=>none
 | k+1,mO,k0=>if (decide (k0<(v4.args.length:Int)))=true then ((ix v4.args k0).bind fun v6=>(ix v5.args k0).bind fun v7=>(app 16 mO ([(uI.mk v6 v7)])).bind fun x1=>aw.l1 m v4 v5 k x1 (i64.wrap (k0+1))) else (some ((mO,k0)))
def aw.l2 (m:Nat)(v1:Int)(v3:Int)(x2:Int):Nat→(List Int)→Int→Option ((List Int) × Int)
 | 0,_,_=>none
 | k+1,gg,k2=>if (decide (k2<(gg.length:Int)))=true then ((ix gg k2).bind fun v8=>if (v8==v1)=true then ((ix gg k2).bind fun v9=>aw.l2 m v1 v3 x2 k (gg.set k2.toNat x2) (i64.wrap (k2+1))) else ((ix gg k2).bind fun v10=>if (v10==v3)=true then ((ix gg k2).bind fun v11=>aw.l2 m v1 v3 x2 k (gg.set k2.toNat x2) (i64.wrap (k2+1))) else (aw.l2 m v1 v3 x2 k gg (i64.wrap (k2+1))))) else (some ((gg,k2)))
def aw.l3 (m:Nat)(v1:Int)(v3:Int)(x3:Int):Nat→(List Int)→Int→Option ((List Int) × Int)
 | 0,_,_=>none
 | k+1,gh,k4=>if (decide (k4<(gh.length:Int)))=true then ((ix gh k4).bind fun v12=>if (v12==v1)=true then ((ix gh k4).bind fun LG=>aw.l3 m v1 v3 x3 k (gh.set k4.toNat x3) (i64.wrap (k4+1))) else ((ix gh k4).bind fun CP=>if (CP==v3)=true then ((ix gh k4).bind fun qN=>aw.l3 m v1 v3 x3 k (gh.set k4.toNat x3) (i64.wrap (k4+1))) else (aw.l3 m v1 v3 x3 k gh (i64.wrap (k4+1))))) else (some ((gh,k4)))
def aw.l4 (m:Nat)(v1:Int)(v3:Int)(x4:Int):Nat→(List Int)→Int→Option ((List Int) × Int)
 | 0,_,_=>none
 | k+1,gj,k6=>if (decide (k6<(gj.length:Int)))=true then ((ix gj k6).bind fun rA=>if (rA==v1)=true then ((ix gj k6).bind fun PS=>aw.l4 m v1 v3 x4 k (gj.set k6.toNat x4) (i64.wrap (k6+1))) else ((ix gj k6).bind fun UM=>if (UM==v3)=true then ((ix gj k6).bind fun Wi=>aw.l4 m v1 v3 x4 k (gj.set k6.toNat x4) (i64.wrap (k6+1))) else (aw.l4 m v1 v3 x4 k gj (i64.wrap (k6+1))))) else (some ((gj,k6)))
def aw.l0 (m:Nat)(s0:aj)(a0:Int):Nat→(List Int)→(List uI)→Int→Option (Sum ((List Int) × Bool) ((List Int) × (List uI) × Int))
 | 0,_,_,_=>none
 | k+1,b8,cJ,i0=>if (decide (i0<(cJ.length:Int)))=true then ((ix cJ i0).bind fun v0=>(ix b8 v0.a0).bind fun v1=>(ix cJ i0).bind fun v2=>(ix b8 v2.a1).bind fun v3=>if (v1==v3)=true then (aw.l0 m s0 a0 k b8 cJ (i64.wrap (i0+1))) else ((ix s0.ah v1).bind fun v4=>(ix s0.ah v3).bind fun v5=>if (!(v4.kind==0))=true then (if (!(v5.kind==0))=true then (if (!(v4.kind==v5.kind))=true then (some (.inl (([]:List Int),false))) else (if (!(v4.int==v5.int))=true then (some (.inl (([]:List Int),false))) else (if (!(v4.label.data.toList==v5.label.data.toList))=true then (some (.inl (([]:List Int),false))) else (if (!((v4.args.length:Int)==(v5.args.length:Int)))=true then (some (.inl (([]:List Int),false))) else ((aw.l1 m v4 v5 m cJ 0).bind fun bI=>match bI with | (qO,k1)=>(cV.f m s0 v1 v3).bind fun x2=>(aw.l2 m v1 v3 x2 m b8 0).bind fun eT=>match eT with | (tK,k3)=>aw.l0 m s0 a0 k tK qO (i64.wrap (i0+1))))))) else ((cV.f m s0 v1 v3).bind fun x3=>(aw.l3 m v1 v3 x3 m b8 0).bind fun jD=>match jD with | (LH,k5)=>aw.l0 m s0 a0 k LH cJ (i64.wrap (i0+1)))) else ((cV.f m s0 v1 v3).bind fun x4=>(aw.l4 m v1 v3 x4 m b8 0).bind fun qJ=>match qJ with | (LI,k7)=>aw.l0 m s0 a0 k LI cJ (i64.wrap (i0+1))))) else (some (.inr (b8,cJ,i0)))
def aw.f (m:Nat)(s0:aj)(a0:Int)(b0:Int):Option ((List Int) × Bool):=(app 8 ([]) s0.au).bind fun x0=>(aw.l0 m s0 a0 m x0 ([(uI.mk a0 b0)]) 0).bind fun eA=>match eA with | .inl r0=>some r0 | .inr (Hw,UN,i1)=>some (Hw,true)
def aw.fin (L:Mem)  (r:(List Int) × Bool)(s:St):Prop:=∃du:Nat,aM Tryz.prog (s.open tJ) Tryz.f90.results.toList=some (.tup [.rs du 0 r.1.length 1,.bool r.2])∧Has s.h ((du,.sl r.1.length 1 (ae.l r.1))::L)
def X0 (cf:CallF)(m:Nat):Prop:=∀(s0:aj) (a0:Int) (b0:Int) (r:(List Int) × Bool),aw.f m s0 a0 b0=some r→∀h L xs,Has h L→aZ b5 h xs [.fp [af.fz s0.ah,ae.fz s0.au,.bool s0.aK] 0,.i a0,.i b0]→∃du h',cf 90 xs h=some (.tup [.rs du 0 r.1.length 1,.bool r.2],h')∧Has h' ((du,.sl r.1.length 1 (ae.l r.1))::L)∧∀j,j<h.next→h.ver j=h'.ver j
section
variable {cf:CallF}{m:Nat}
theorem aw.jG (L:Mem)(s0:aj)(cm:Nat)(b8:List Int)(i0:Int)(cm:Nat)(v1:Int)(v3:Int)(v4:ai)(v5:ai)   : cd Tryz.prog cf tJ m (sub [1,1,1,0,1,0,0,1,0,0,1,1,1,0,1,0,1,1,0,0] (bA Tryz.f90)) (fun k (σ:(List uI) × Int)=>aw.l1 m v4 v5 k σ.1 σ.2) (fun σ s=>match σ with | (mO,k0)=>∃dT h3,s=⟨.fp [af.fz s0.ah,ae.fz s0.au,.bool s0.aK] 0::lW (.rs cm 0 b8.length 1 :: .rs dT 0 mO.length 2 :: .i i0 :: .i v1 :: .i v3 :: .lp 13 0 :: .lp 14 0 :: .i k0::Ot []),[some [.i v4.kind,.i v4.int,.str v4.label,ae.fz v4.args],some [.i v5.kind,.i v5.int,.str v5.label,ae.fz v5.args],none],h3⟩∧Has h3 ((dT,.sl mO.length 2 (xh.l mO))::(cm,.sl b8.length 1 (ae.l b8))::L)) (fun out e s=>(e = .exit 2∧∃mO k0,(mO,k0)=out∧∃qF yw B4 UO RJ X1 dT h3,s=⟨.fp [af.fz s0.ah,ae.fz s0.au,.bool s0.aK] 0::lW (.rs cm 0 b8.length 1 :: .rs dT 0 mO.length 2 :: .i i0 :: .i v1 :: .i v3::qF::yw::B4::yh [UO,.any,.any]),[RJ,X1,none],h3⟩∧Has h3 ((dT,.sl mO.length 2 (xh.l mO))::(cm,.sl b8.length 1 (ae.l b8))::L))):=by
 refine jW (fun _=>rfl) ?_
 rintro k ⟨mO,k0⟩ s out ⟨dT,h3,rfl,zm⟩ H
 have H:aw.l1 m v4 v5 (k+1) mO k0=some out:=H
 refine qq <| qq <| q0 <| qc H (fun oy H=>?_) (fun oy H=>?_)
 ·refine qk <| qq <| qb 3 ?_
  obtain⟨v6,e9,H⟩:=aQ H
  obtain⟨v7,nW,H⟩:=aQ H
  obtain⟨x1,rG,H⟩:=aQ H
  obtain⟨ir,h4,sy,pa⟩:=dY (P:=Tryz.prog) (E:=xh) (l:=mO) (q:=0) (t2:=117) (x:=.fz [.i v6,.i v7] 1 true) (l2:=([(uI.mk v6 v7)])) Rw zm rfl kr rfl rG
  exact qr [.v 4 (bW (k:=.i64) (E:=ae) (l:=v4.args) de e9),.v 5 (dk  (E:=ae) (l:=v4.args) h3 A3 e9 rfl),.v 9 (bW (k:=.i64) (E:=ae) (l:=v5.args) de nW),.v 10 (dk  (E:=ae) (l:=v5.args) h3 A3 nW rfl),.a 13 sy] <| q0 <| ⟨(x1,i64.wrap (k0+1)),⟨ir,h4,kr,pa⟩,H⟩
 ·exact qx 2 <| ⟨rfl,mO,k0,oi H,.lp 13 0,.lp 14 0,.i k0,.bool (decide (k0<(v4.args.length:Int))),some [.i v4.kind,.i v4.int,.str v4.label,ae.fz v4.args],some [.i v5.kind,.i v5.int,.str v5.label,ae.fz v5.args],dT,h3,kr,zm⟩
theorem aw.n5 (L:Mem)(s0:aj)(i0:Int)(v1:Int)(v3:Int)(iy:Nat)(qO:List uI)(iy:Nat)(x2:Int)   : cd Tryz.prog cf tJ m (sub [1,1,1,0,1,0,0,1,0,0,1,1,1,1,1,1,0,0] (bA Tryz.f90)) (fun k (σ:(List Int) × Int)=>aw.l2 m v1 v3 x2 k σ.1 σ.2) (fun σ s=>match σ with | (gg,k2)=>∃iA h6,s=⟨.fp [af.fz s0.ah,ae.fz s0.au,.bool s0.aK] 0::lW (.rs iA 0 gg.length 1 :: .rs iy 0 qO.length 2 :: .i i0 :: .i v1 :: .i v3::mU (.i x2 :: .i k2::EY [])),[none,none,none],h6⟩∧Has h6 ((iy,.sl qO.length 2 (xh.l qO))::(iA,.sl gg.length 1 (ae.l gg))::L)) (fun out e s=>(e = .exit 4∧∃gg k2,(gg,k2)=out∧∃yH uR FR B5 DZ iA h6,s=⟨.fp [af.fz s0.ah,ae.fz s0.au,.bool s0.aK] 0::lW (.rs iA 0 gg.length 1 :: .rs iy 0 qO.length 2 :: .i i0::yH::uR::mU (FR::B5::wz [DZ,.any])),[none,none,none],h6⟩∧Has h6 ((iy,.sl qO.length 2 (xh.l qO))::(iA,.sl gg.length 1 (ae.l gg))::L))):=by
 refine jW (fun _=>rfl) ?_
 rintro k ⟨gg,k2⟩ s out ⟨iA,h6,rfl,px⟩ H
 have H:aw.l2 m v1 v3 x2 (k+1) gg k2=some out:=H
 refine qq <| qq <| q0 <| qc H (fun wI H=>?_) (fun wI H=>?_)
 ·refine qk <| qq <| qb 5 <| qq ?_
  obtain⟨v8,sA,H⟩:=aQ H
  rcases dZ H with⟨qI,H⟩| ⟨qI,H⟩
  ·refine qr [.v 2 (aL (k:=.i64) (E:=ae) (l:=gg) (q:=1) de px rfl sA),.v 3 (bn  (E:=ae) (l:=gg) (q:=1) px rfl A3 sA rfl),.b 6 qI] <| rW ?_
   obtain⟨v9,uP,H⟩:=aQ H
   obtain⟨h7,wK,zI⟩:=dJ (P:=Tryz.prog) (tf:=3) (E:=ae) (l:=gg) (q:=1) (v:=x2) (x:=.i x2) px rfl Z3 uP rfl rfl
   exact qr [.v 3 (aL (k:=.i64) (E:=ae) (l:=gg) (q:=1) de px rfl uP),.w 4 wK] <| q0 <| ⟨(gg.set k2.toNat x2,i64.wrap (k2+1)),⟨iA,h7,ld,(rz zI)⟩,H⟩
  ·obtain⟨v10,zk,H⟩:=aQ H
   refine qr [.v 2 (aL (k:=.i64) (E:=ae) (l:=gg) (q:=1) de px rfl sA),.v 3 (bn  (E:=ae) (l:=gg) (q:=1) px rfl A3 sA rfl),.b 6 qI,.v 9 (aL (k:=.i64) (E:=ae) (l:=gg) (q:=1) de px rfl zk),.v 10 (bn  (E:=ae) (l:=gg) (q:=1) px rfl A3 zk rfl)] <| qc H (fun D0 H=>?_) (fun D0 H=>?_)
   ·obtain⟨v11,vU,H⟩:=aQ H
    obtain⟨h8,Av,LJ⟩:=dJ (P:=Tryz.prog) (tf:=3) (E:=ae) (l:=gg) (q:=1) (v:=x2) (x:=.i x2) px rfl Z3 vU rfl rfl
    exact qr [.v 3 (aL (k:=.i64) (E:=ae) (l:=gg) (q:=1) de px rfl vU),.w 4 Av] <| q0 <| ⟨(gg.set k2.toNat x2,i64.wrap (k2+1)),⟨iA,h8,ld,(rz LJ)⟩,H⟩
   ·exact qk <| q0 <| ⟨(gg,i64.wrap (k2+1)),⟨iA,h6,kr,px⟩,H⟩
 ·exact qx 4 <| ⟨rfl,gg,k2,oi H,.i v1,.i v3,.i x2,.i k2,.bool (decide (k2<(gg.length:Int))),iA,h6,kr,px⟩
theorem aw.tL (L:Mem)(s0:aj)(cE:Nat)(cJ:List uI)(i0:Int)(cE:Nat)(v1:Int)(v3:Int)(x3:Int)   : cd Tryz.prog cf tJ m (sub [1,1,1,0,1,0,0,1,0,0,1,1,1,1,1,1,0,0] (bA Tryz.f90)) (fun k (σ:(List Int) × Int)=>aw.l3 m v1 v3 x3 k σ.1 σ.2) (fun σ s=>match σ with | (gh,k4)=>∃ml h10,s=⟨.fp [af.fz s0.ah,ae.fz s0.au,.bool s0.aK] 0::lW (.rs ml 0 gh.length 1 :: .rs cE 0 cJ.length 2 :: .i i0 :: .i v1 :: .i v3::mU (.i x3 :: .i k4::EY [])),[none,none,none],h10⟩∧Has h10 ((cE,.sl cJ.length 2 (xh.l cJ))::(ml,.sl gh.length 1 (ae.l gh))::L)) (fun out e s=>(e = .exit 4∧∃gh k4,(gh,k4)=out∧∃yH uR FR B5 DZ ml h10,s=⟨.fp [af.fz s0.ah,ae.fz s0.au,.bool s0.aK] 0::lW (.rs ml 0 gh.length 1 :: .rs cE 0 cJ.length 2 :: .i i0::yH::uR::mU (FR::B5::wz [DZ,.any])),[none,none,none],h10⟩∧Has h10 ((cE,.sl cJ.length 2 (xh.l cJ))::(ml,.sl gh.length 1 (ae.l gh))::L))):=by
 refine jW (fun _=>rfl) ?_
 rintro k ⟨gh,k4⟩ s out ⟨ml,h10,rfl,uV⟩ H
 have H:aw.l3 m v1 v3 x3 (k+1) gh k4=some out:=H
 refine qq <| qq <| q0 <| qc H (fun yI H=>?_) (fun yI H=>?_)
 ·refine qk <| qq <| qb 5 <| qq ?_
  obtain⟨v12,zl,H⟩:=aQ H
  rcases dZ H with⟨B6,H⟩| ⟨B6,H⟩
  ·refine qr [.v 2 (aL (k:=.i64) (E:=ae) (l:=gh) (q:=1) de uV rfl zl),.v 3 (bn  (E:=ae) (l:=gh) (q:=1) uV rfl A3 zl rfl),.b 6 B6] <| rW ?_
   obtain⟨LG,zH,H⟩:=aQ H
   obtain⟨h11,B3,Hx⟩:=dJ (P:=Tryz.prog) (tf:=3) (E:=ae) (l:=gh) (q:=1) (v:=x3) (x:=.i x3) uV rfl Z3 zH rfl rfl
   exact qr [.v 3 (aL (k:=.i64) (E:=ae) (l:=gh) (q:=1) de uV rfl zH),.w 4 B3] <| q0 <| ⟨(gh.set k4.toNat x3,i64.wrap (k4+1)),⟨ml,h11,ld,(rz Hx)⟩,H⟩
  ·obtain⟨CP,CQ,H⟩:=aQ H
   refine qr [.v 2 (aL (k:=.i64) (E:=ae) (l:=gh) (q:=1) de uV rfl zl),.v 3 (bn  (E:=ae) (l:=gh) (q:=1) uV rfl A3 zl rfl),.b 6 B6,.v 9 (aL (k:=.i64) (E:=ae) (l:=gh) (q:=1) de uV rfl CQ),.v 10 (bn  (E:=ae) (l:=gh) (q:=1) uV rfl A3 CQ rfl)] <| qc H (fun c19 H=>?_) (fun c19 H=>?_)
   ·obtain⟨qN,Jm,H⟩:=aQ H
    obtain⟨h12,Hy,LK⟩:=dJ (P:=Tryz.prog) (tf:=3) (E:=ae) (l:=gh) (q:=1) (v:=x3) (x:=.i x3) uV rfl Z3 Jm rfl rfl
    exact qr [.v 3 (aL (k:=.i64) (E:=ae) (l:=gh) (q:=1) de uV rfl Jm),.w 4 Hy] <| q0 <| ⟨(gh.set k4.toNat x3,i64.wrap (k4+1)),⟨ml,h12,ld,(rz LK)⟩,H⟩
   ·exact qk <| q0 <| ⟨(gh,i64.wrap (k4+1)),⟨ml,h10,kr,uV⟩,H⟩
 ·exact qx 4 <| ⟨rfl,gh,k4,oi H,.i v1,.i v3,.i x3,.i k4,.bool (decide (k4<(gh.length:Int))),ml,h10,kr,uV⟩
theorem aw.tM (L:Mem)(s0:aj)(cE:Nat)(cJ:List uI)(i0:Int)(cE:Nat)(v1:Int)(v3:Int)(x4:Int)   : cd Tryz.prog cf tJ m (sub [1,1,1,0,1,0,0,1,0,0,1,1,1,1,1,1,0,0] (bA Tryz.f90)) (fun k (σ:(List Int) × Int)=>aw.l4 m v1 v3 x4 k σ.1 σ.2) (fun σ s=>match σ with | (gj,k6)=>∃ij h14,s=⟨.fp [af.fz s0.ah,ae.fz s0.au,.bool s0.aK] 0::lW (.rs ij 0 gj.length 1 :: .rs cE 0 cJ.length 2 :: .i i0 :: .i v1 :: .i v3::mU (.i x4 :: .i k6::EY [])),[none,none,none],h14⟩∧Has h14 ((cE,.sl cJ.length 2 (xh.l cJ))::(ij,.sl gj.length 1 (ae.l gj))::L)) (fun out e s=>(e = .exit 4∧∃gj k6,(gj,k6)=out∧∃yH uR FR B5 DZ ij h14,s=⟨.fp [af.fz s0.ah,ae.fz s0.au,.bool s0.aK] 0::lW (.rs ij 0 gj.length 1 :: .rs cE 0 cJ.length 2 :: .i i0::yH::uR::mU (FR::B5::wz [DZ,.any])),[none,none,none],h14⟩∧Has h14 ((cE,.sl cJ.length 2 (xh.l cJ))::(ij,.sl gj.length 1 (ae.l gj))::L))):=by
 refine jW (fun _=>rfl) ?_
 rintro k ⟨gj,k6⟩ s out ⟨ij,h14,rfl,mS⟩ H
 have H:aw.l4 m v1 v3 x4 (k+1) gj k6=some out:=H
 refine qq <| qq <| q0 <| qc H (fun RK H=>?_) (fun RK H=>?_)
 ·refine qk <| qq <| qb 5 <| qq ?_
  obtain⟨rA,E0,H⟩:=aQ H
  rcases dZ H with⟨JX,H⟩| ⟨JX,H⟩
  ·refine qr [.v 2 (aL (k:=.i64) (E:=ae) (l:=gj) (q:=1) de mS rfl E0),.v 3 (bn  (E:=ae) (l:=gj) (q:=1) mS rfl A3 E0 rfl),.b 6 JX] <| rW ?_
   obtain⟨PS,Jn,H⟩:=aQ H
   obtain⟨h15,JY,NI⟩:=dJ (P:=Tryz.prog) (tf:=3) (E:=ae) (l:=gj) (q:=1) (v:=x4) (x:=.i x4) mS rfl Z3 Jn rfl rfl
   exact qr [.v 3 (aL (k:=.i64) (E:=ae) (l:=gj) (q:=1) de mS rfl Jn),.w 4 JY] <| q0 <| ⟨(gj.set k6.toNat x4,i64.wrap (k6+1)),⟨ij,h15,ld,(rz NI)⟩,H⟩
  ·obtain⟨UM,OI,H⟩:=aQ H
   refine qr [.v 2 (aL (k:=.i64) (E:=ae) (l:=gj) (q:=1) de mS rfl E0),.v 3 (bn  (E:=ae) (l:=gj) (q:=1) mS rfl A3 E0 rfl),.b 6 JX,.v 9 (aL (k:=.i64) (E:=ae) (l:=gj) (q:=1) de mS rfl OI),.v 10 (bn  (E:=ae) (l:=gj) (q:=1) mS rfl A3 OI rfl)] <| qc H (fun X2 H=>?_) (fun X2 H=>?_)
   ·obtain⟨Wi,OJ,H⟩:=aQ H
    obtain⟨h16,RL,JZ⟩:=dJ (P:=Tryz.prog) (tf:=3) (E:=ae) (l:=gj) (q:=1) (v:=x4) (x:=.i x4) mS rfl Z3 OJ rfl rfl
    exact qr [.v 3 (aL (k:=.i64) (E:=ae) (l:=gj) (q:=1) de mS rfl OJ),.w 4 RL] <| q0 <| ⟨(gj.set k6.toNat x4,i64.wrap (k6+1)),⟨ij,h16,ld,(rz JZ)⟩,H⟩
   ·exact qk <| q0 <| ⟨(gj,i64.wrap (k6+1)),⟨ij,h14,kr,mS⟩,H⟩
 ·exact qx 4 <| ⟨rfl,gj,k6,oi H,.i v1,.i v3,.i x4,.i k6,.bool (decide (k6<(gj.length:Int))),ij,h14,kr,mS⟩
theorem aw.cF (L:Mem)(s0:aj)(a0:Int)  (D1:RA cf m):cd Tryz.prog cf tJ m (sub [1,1,1,0,1,0,0] (bA Tryz.f90)) (fun k (σ:(List Int) × (List uI) × Int)=>aw.l0 m s0 a0 k σ.1 σ.2.1 σ.2.2) (fun σ s=>match σ with | (b8,cJ,i0)=>∃cE cm h2,s=⟨.fp [af.fz s0.ah,ae.fz s0.au,.bool s0.aK] 0::lW (.rs cm 0 b8.length 1 :: .rs cE 0 cJ.length 2 :: .i i0::yi []),[none,none,none],h2⟩∧Has h2 ((cE,.sl cJ.length 2 (xh.l cJ))::(cm,.sl b8.length 1 (ae.l b8))::L)) (fun out e s=>(e = .exit 0∧∃b8 cJ i0,.inr (b8,cJ,i0)=out∧∃nA wE uK LL cE cm h2,s=⟨nA::lW (.rs cm 0 b8.length 1::wE::uK::EY (LL::yh [])),[none,none,none],h2⟩∧Has h2 ((cE,.sl cJ.length 2 (xh.l cJ))::(cm,.sl b8.length 1 (ae.l b8))::L))∨(e = .ret∧∃r,.inl r=out∧aw.fin L r s)):=by
 refine jW (fun _=>rfl) ?_
 rintro k ⟨b8,cJ,i0⟩ s out ⟨cE,cm,h2,rfl,o2⟩ H
 have H:aw.l0 m s0 a0 (k+1) b8 cJ i0=some out:=H
 refine qq <| qq <| q0 <| qc H (fun c0 H=>?_) (fun c0 H=>?_)
 ·refine qk <| qq <| qb 1 <| qq ?_
  obtain⟨v0,e3,H⟩:=aQ H
  obtain⟨v1,e4,H⟩:=aQ H
  obtain⟨v2,e5,H⟩:=aQ H
  obtain⟨v3,e6,H⟩:=aQ H
  refine qr [.v 3 (aL (k:=.i64) (E:=xh) (l:=cJ) (q:=0) Rw o2 rfl e3),.v 5 (oL  (E:=xh) (l:=cJ) (q:=0) (off:=0) o2 rfl A3 e3 rfl),.v 6 (aL (k:=.i64) (E:=ae) (l:=b8) (q:=1) de o2 rfl e4),.v 7 (bn  (E:=ae) (l:=b8) (q:=1) o2 rfl A3 e4 rfl),.v 11 (aL (k:=.i64) (E:=xh) (l:=cJ) (q:=0) Rw o2 rfl e5),.v 13 (oL  (E:=xh) (l:=cJ) (q:=0) (off:=1) o2 rfl A3 e5 rfl),.v 14 (aL (k:=.i64) (E:=ae) (l:=b8) (q:=1) de o2 rfl e6),.v 15 (bn  (E:=ae) (l:=b8) (q:=1) o2 rfl A3 e6 rfl)] <| qq <| qq <| q0 <| qc H (fun c1 H=>?_) (fun c1 H=>?_)
  ·exact qx 1 <| q0 <| ⟨(b8,cJ,i64.wrap (i0+1)),⟨cE,cm,h2,kr,o2⟩,H⟩
  ·refine qk <| qq ?_
   obtain⟨v4,e7,H⟩:=aQ H
   obtain⟨v5,e8,H⟩:=aQ H
   refine qr [.v 5 (bW (k:=.i64) (E:=af) (l:=s0.ah) lF e7),.v 6 (gf  (E:=af) (l:=s0.ah) h2 sM sN e7),.v 12 (bW (k:=.i64) (E:=af) (l:=s0.ah) lF e8),.v 13 (gf  (E:=af) (l:=s0.ah) h2 sM sN e8)] <| qq <| qq ?_
   rcases dZ H with⟨c2,H⟩| ⟨c2,H⟩
   ·refine qr [.b 3 c2] <| qc H (fun c3 H=>?_) (fun c3 H=>?_)
    ·refine qq <| qq ?_
     rcases dZ H with⟨c4,H⟩| ⟨c4,H⟩
     ·refine qr [.b 5 c4] <| rW <| qq <| q0 ?_
      have o3:Has h2 (((0),.sl (([]:List Int).length) 1 (ae.l ([]:List Int)))::(cE,.sl cJ.length 2 (xh.l cJ))::(cm,.sl b8.length 1 (ae.l b8))::L):=Has.nil o2 1
      have o4:Has h2 (((0),.sl (([]:List Int).length) 1 (ae.l ([]:List Int)))::(cE,.sl cJ.length 2 (xh.l cJ))::L):=jV o3 2
      have o5:Has h2 (((0),.sl (([]:List Int).length) 1 (ae.l ([]:List Int)))::L):=jV o4 1
      exact qt <| agv (⟨rfl,_,oi H,⟨(0),kr,he o5⟩⟩)
     ·rcases dZ H with⟨c6,H⟩| ⟨c6,H⟩
      ·refine qr [.b 5 c4,.b 12 c6] <| rW <| qq <| q0 ?_
       have o6:Has h2 ((((0)),.sl (([]:List Int).length) 1 (ae.l ([]:List Int)))::(cE,.sl cJ.length 2 (xh.l cJ))::(cm,.sl b8.length 1 (ae.l b8))::L):=Has.nil o2 1
       have o7:Has h2 ((((0)),.sl (([]:List Int).length) 1 (ae.l ([]:List Int)))::(cE,.sl cJ.length 2 (xh.l cJ))::L):=jV o6 2
       have o8:Has h2 ((((0)),.sl (([]:List Int).length) 1 (ae.l ([]:List Int)))::L):=jV o7 1
       exact qt <| agv (⟨rfl,_,oi H,⟨((0)),kr,he o8⟩⟩)
      ·rcases dZ H with⟨c8,H⟩| ⟨c8,H⟩
       ·refine qr [.b 5 c4,.b 12 c6,.b 19 c8] <| rW <| qq <| q0 ?_
        have o9:Has h2 (((((0))),.sl (([]:List Int).length) 1 (ae.l ([]:List Int)))::(cE,.sl cJ.length 2 (xh.l cJ))::(cm,.sl b8.length 1 (ae.l b8))::L):=Has.nil o2 1
        have sO:Has h2 (((((0))),.sl (([]:List Int).length) 1 (ae.l ([]:List Int)))::(cE,.sl cJ.length 2 (xh.l cJ))::L):=jV o9 2
        have tH:Has h2 (((((0))),.sl (([]:List Int).length) 1 (ae.l ([]:List Int)))::L):=jV sO 1
        exact qt <| agv (⟨rfl,_,oi H,⟨(((0))),kr,he tH⟩⟩)
       ·refine qr [.b 5 c4,.b 12 c6,.b 19 c8] <| qc H (fun yD H=>?_) (fun yD H=>?_)
        ·refine q1 ?_
         have xj:Has h2 ((((((0)))),.sl (([]:List Int).length) 1 (ae.l ([]:List Int)))::(cE,.sl cJ.length 2 (xh.l cJ))::(cm,.sl b8.length 1 (ae.l b8))::L):=Has.nil o2 1
         have mK:Has h2 ((((((0)))),.sl (([]:List Int).length) 1 (ae.l ([]:List Int)))::(cE,.sl cJ.length 2 (xh.l cJ))::L):=jV xj 2
         have rJ:Has h2 ((((((0)))),.sl (([]:List Int).length) 1 (ae.l ([]:List Int)))::L):=jV mK 1
         exact qt <| agv (⟨rfl,_,oi H,⟨((((0)))),kr,he rJ⟩⟩)
        ·refine qk <| qq <| q0 <| qb 2 ?_
         obtain⟨bI,rZ,H⟩:=aQ H
         refine ql (aw.jG L s0 cm b8 i0 cm v1 v3 v4 v5   (cJ,0) _ _ ⟨cE,h2,kr,o2⟩ rZ) ?_
         rintro e s ⟨rfl,qO,k1,rfl,g0,g1,g2,g3,g4,g5,iy,h5,rfl,zn⟩
         try dsimp only at H
         refine qq ?_
         obtain⟨x2,wG,H⟩:=aQ H
         refine qr [.a 3 (D1 _ _ _ _ wG h5 _ (km (ao (gT (pure_cons (bY.bz (E:=af) (l:=s0.ah)) (pure_cons (bY.bz (E:=ae) (l:=s0.au)) (pure_cons (dj) (pure_nil))))) (ao (bP) (ao (bP) (aJ))))))] <| qq <| q0 <| qb 4 ?_
         obtain⟨eT,Aw,H⟩:=aQ H
         refine ql (aw.n5 L s0 i0 v1 v3 iy qO iy x2   (b8,0) _ _ ⟨cm,h5,kr,zn⟩ Aw) ?_
         rintro e s ⟨rfl,tK,k3,rfl,g6,g7,g8,g9,g10,lh,h9,rfl,yJ⟩
         try dsimp only at H
         exact q0 <| ⟨(tK,qO,i64.wrap (i0+1)),⟨iy,lh,h9,kr,yJ⟩,H⟩
    ·refine qk <| qq ?_
     obtain⟨x3,Ax,H⟩:=aQ H
     refine qr [.a 3 (D1 _ _ _ _ Ax h2 _ (km (ao (gT (pure_cons (bY.bz (E:=af) (l:=s0.ah)) (pure_cons (bY.bz (E:=ae) (l:=s0.au)) (pure_cons (dj) (pure_nil))))) (ao (bP) (ao (bP) (aJ))))))] <| qq <| q0 <| qb 4 ?_
     obtain⟨jD,Jo,H⟩:=aQ H
     refine ql (aw.tL L s0 cE cJ i0 cE v1 v3 x3   (b8,0) _ _ ⟨cm,h2,kr,o2⟩ Jo) ?_
     rintro e s ⟨rfl,LH,k5,rfl,g11,g12,g13,g14,g15,eR,h13,rfl,RM⟩
     try dsimp only at H
     exact q0 <| ⟨(LH,cJ,i64.wrap (i0+1)),⟨cE,eR,h13,kr,RM⟩,H⟩
   ·refine qr [.b 3 c2] <| zD <| qk <| qq ?_
    obtain⟨x4,Jp,H⟩:=aQ H
    refine qr [.a 3 (D1 _ _ _ _ Jp h2 _ (km (ao (gT (pure_cons (bY.bz (E:=af) (l:=s0.ah)) (pure_cons (bY.bz (E:=ae) (l:=s0.au)) (pure_cons (dj) (pure_nil))))) (ao (bP) (ao (bP) (aJ))))))] <| qq <| q0 <| qb 4 ?_
    obtain⟨qJ,RN,H⟩:=aQ H
    refine ql (aw.tM L s0 cE cJ i0 cE v1 v3 x4   (b8,0) _ _ ⟨cm,h2,kr,o2⟩ RN) ?_
    rintro e s ⟨rfl,LI,k7,rfl,g16,g17,g18,g19,g20,fF,h17,rfl,RP⟩
    try dsimp only at H
    exact q0 <| ⟨(LI,cJ,i64.wrap (i0+1)),⟨cE,fF,h17,kr,RP⟩,H⟩
 ·exact qx 0 <| Or.inl (⟨rfl,b8,cJ,i0,oi H,.fp [af.fz s0.ah,ae.fz s0.au,.bool s0.aK] 0,.rs cE 0 cJ.length 2,.i i0,.bool (decide (i0<(cJ.length:Int))),cE,cm,h2,kr,o2⟩)
theorem n6 {aX:FuncId→bX}(ha:aX 90=tJ)(D1:RA cf m)(s0:aj)(a0:Int)(b0:Int)(h:AHeap)(L:Mem)  (o:Has h (L)){out:(List Int) × Bool}(H:aw.f m s0 a0 b0=some out) :
  ∃r h',ba Tryz.prog aX cf m 90 [.fp [af.fz s0.ah,ae.fz s0.au,.bool s0.aK] 0,.i a0,.i b0] h=some (r,h')∧∃du:Nat,r = .tup [.rs du 0 out.1.length 1,.bool out.2]∧Has h' ((du,.sl out.1.length 1 (ae.l out.1))::L):=by
 refine ax (fn:=Tryz.f90) ha Tryz.func90 kr kr ?_
 refine aI (Q:=fun s=>aw.fin L out s) (fun _ _ ⟨h1,du,h2,h3⟩=>⟨h1,_,h2,du,rfl,h3⟩) ?_
 have H:_=some out:=H
 unfold aw.f at H
 show dB _ cf tJ m _ ⟨.fp [af.fz s0.ah,ae.fz s0.au,.bool s0.aK] 0 :: .i a0 :: .i b0::Ra [],[none,none,none],h⟩ _
 refine q1 <| qq ?_
 obtain⟨x0,e0,H⟩:=aQ H
 obtain⟨aV,h0,e1,o0⟩:=FB (P:=Tryz.prog) (E:=ae) (s:=.fz [] 0 true) (t2:=22) (x:=ae.fz s0.au) (l2:=s0.au) (.inr rfl) de o (ya (E:=ae) (l2:=s0.au) _) rfl e0
 refine qr [.a 5 e1] <| qq ?_
 obtain⟨dr,h1,e2,o1⟩:=G0 (E:=xh) (l:=[(uI.mk a0 b0)]) (cs:=[.i a0,.i b0]) o0 kr
 refine qr [.a 3 e2] <| qq <| qq <| q0 <| qb 0 ?_
 obtain⟨eA,OL,H⟩:=aQ H
 refine ql (aw.cF L s0 a0  D1 (x0,[(uI.mk a0 b0)],0) _ _ ⟨dr,aV,h1,ld,(rz o1)⟩ OL) ?_
 rintro e s (⟨rfl,Hw,UN,i1,rfl,g21,g22,g23,g24,fP,gI,h18,rfl,RQ⟩| ⟨rfl,r0,rfl,sw⟩)
 ·try dsimp only at H
  refine q1 ?_
  have Tb:Has h18 ((gI,.sl Hw.length 1 (ae.l Hw))::L):=jV RQ 0
  obtain rfl:=oi H
  exact qt <| ⟨.inl rfl,⟨gI,kr,he Tb⟩⟩
 ·try dsimp only at H
  obtain rfl:=oi H
  exact⟨.inl rfl,sw⟩
end
def yK:bX:=gP [0,1,2,6,7,27,29,30,31,37] [] [1016,990,1015,830,574,814,318,1015,830,1015] [] []
def eh.l0 (m:Nat)(s0:ByteArray):Nat→Int→Option (Sum Bool (Int))
 | 0,_=>none
 | k+1,x0=>if (decide (x0<(s0.size:Int)))=true then ((bt s0 x0).bind fun v2=>(iM.f m v2).bind fun x1=>if (!x1)=true then (some (.inl false)) else (eh.l0 m s0 k (i64.wrap (x0+1)))) else (some (.inr x0))
def eh.f (m:Nat)(s0:ByteArray)(nF:Int)(r6:Int):Option (Bool):=if (decide ((s0.size:Int)<1))=true then (some false) else (if (decide ((s0.size:Int) > 16))=true then (some false) else ((bt s0 0).bind fun v0=>if (decide (v0<nF))=true then (some false) else ((bt s0 0).bind fun v1=>if (decide (v1 > r6))=true then (some false) else ((eh.l0 m s0 m 0).bind fun bI=>match bI with | .inl r0=>some r0 | .inr x2=>some true))))
def eh.fin (L:Mem)(r:Bool)(s:St):Prop:=∃av,aM Tryz.prog (s.open yK) Tryz.f108.results.toList=some av∧fG s.h av (.bool r)
def UP (cf:CallF)(m:Nat):Prop:=∀(s0:ByteArray) (nF:Int) (r6:Int) (r:Bool),eh.f m s0 nF r6=some r→∀h xs,aZ b5 h xs [.str s0,.int .u8 nF,.int .u8 r6]→cf 108 xs h=some (.bool r,h)
section
variable {cf:CallF}{m:Nat}
theorem eh.cF (L:Mem)(s0:ByteArray)  (LM:RB cf m):cd Tryz.prog cf yK m (sub [1,1,0,1,0,0] (bA Tryz.f108)) (fun k (σ:Int)=>eh.l0 m s0 k σ) (fun σ s=>match σ with | x0=>∃h0,s=⟨.str s0::wz [.i (s0.size:Int),.i x0,.any,.any],[],h0⟩∧Has h0 (L)) (fun out e s=>(e = .exit 0∧∃x0,.inr x0=out∧∃nA X3 RR LL h0,s=⟨nA::wz [X3,RR,LL,.any],[],h0⟩∧Has h0 (L))∨(e = .ret∧∃r,.inl r=out∧eh.fin L r s)):=by
 refine jW (fun _=>rfl) ?_
 rintro k x0 s out ⟨h0,rfl,o0⟩ H
 have H:eh.l0 m s0 (k+1) x0=some out:=H
 refine q1 <| qq <| qc H (fun c7 H=>?_) (fun c7 H=>?_)
 ·refine qk <| qq <| qb 1 <| qq <| q0 <| qq ?_
  obtain⟨v2,e2,H⟩:=aQ H
  obtain⟨x1,e3,H⟩:=aQ H
  refine qr [.v 2 (qw (k:=.i64) U9 e2),.a 3 (LM _ _ e3 h0 _ fq)] <| qc H (fun c8 H=>?_) (fun c8 H=>?_)
  ·exact q1 <| qt <| agv (⟨rfl,_,oi H,yo (.bool false) h0 (vP (kl))⟩)
  ·exact qk <| q0 <| ⟨i64.wrap (x0+1),⟨h0,kr,o0⟩,H⟩
 ·exact qx 0 <| Or.inl (⟨rfl,x0,oi H,.str s0,.i (s0.size:Int),.i x0,.bool (decide (x0<(s0.size:Int))),h0,kr,o0⟩)
theorem yL {aX:FuncId→bX}(ha:aX 108=yK)(LM:RB cf m)(s0:ByteArray)(nF:Int)(r6:Int)(h:AHeap)(L:Mem)  (o:Has h (L)){out:Bool}(H:eh.f m s0 nF r6=some out) :
  ∃r h',ba Tryz.prog aX cf m 108 [.str s0,.int .u8 nF,.int .u8 r6] h=some (r,h')∧fG h' r (.bool out):=by
 refine ax (fn:=Tryz.f108) ha Tryz.func108 kr kr ?_
 refine aI (Q:=fun s=>eh.fin L out s) (fun _ _ h=>h) ?_
 have H:_=some out:=H
 unfold eh.f at H
 show dB _ cf yK m _ ⟨.str s0 :: .int .u8 nF :: .int .u8 r6::EY [],[],h⟩ _
 refine q1 <| qq <| qq ?_
 rcases dZ H with⟨c0,H⟩| ⟨c0,H⟩
 ·exact qr [.b 3 c0] <| rW <| qq <| q0 <| qt <| fB H
 ·rcases dZ H with⟨c2,H⟩| ⟨c2,H⟩
  ·exact qr [.b 3 c0,.b 8 c2] <| rW <| qq <| q0 <| qt <| fB H
  ·obtain⟨v0,e0,H⟩:=aQ H
   rcases dZ H with⟨c4,H⟩| ⟨c4,H⟩
   ·exact qr [.b 3 c0,.b 8 c2,.v 10 (qw (k:=.i64) U9 e0),.b 14 c4] <| rW <| qq <| q0 <| qt <| fB H
   ·obtain⟨v1,e1,H⟩:=aQ H
    refine qr [.b 3 c0,.b 8 c2,.v 10 (qw (k:=.i64) U9 e0),.b 14 c4,.v 16 (qw (k:=.i64) U9 e1)] <| qc H (fun c6 H=>?_) (fun c6 H=>?_)
    ·exact q1 <| qt <| fB H
    ·refine qk <| qq <| qq <| q0 <| qb 0 ?_
     obtain⟨bI,e4,H⟩:=aQ H
     refine ql (eh.cF L s0  LM 0 _ _ ⟨h,kr,o⟩ e4) ?_
     rintro e s (⟨rfl,x2,rfl,g0,g1,g2,g3,h1,rfl,o1⟩| ⟨rfl,r0,rfl,sw⟩)
     ·try dsimp only at H
      exact q1 <| qt <| fB H
     ·try dsimp only at H
      obtain rfl:=oi H
      exact⟨.inl rfl,sw⟩
end
def yM:bX:=gP [0,2,3,11,15,22] [] [62,54,61,58,42,58,26,61,61] [] []
def dp.l0 (m:Nat)(s0:ByteArray):Nat→Int→Option (Sum Bool (Int))
 | 0,_=>none
 | k+1,i0=>if (decide (i0<(s0.size:Int)))=true then ((bt s0 i0).bind fun v0=>(ig.f m v0).bind fun x0=>if (!x0)=true then (some (.inl false)) else (dp.l0 m s0 k (i64.wrap (i0+1)))) else (some (.inr i0))
def dp.f (m:Nat)(s0:ByteArray):Option (Bool):=if (decide ((s0.size:Int)<1))=true then (some false) else (if (decide ((s0.size:Int) > 16))=true then (some false) else ((dp.l0 m s0 m 0).bind fun bI=>match bI with | .inl r0=>some r0 | .inr i1=>some true))
def dp.fin (L:Mem)(r:Bool)(s:St):Prop:=∃av,aM Tryz.prog (s.open yM) Tryz.f111.results.toList=some av∧fG s.h av (.bool r)
def UQ (cf:CallF)(m:Nat):Prop:=∀(s0:ByteArray) (r:Bool),dp.f m s0=some r→∀h xs,aZ b5 h xs [.str s0]→cf 111 xs h=some (.bool r,h)
section
variable {cf:CallF}{m:Nat}
theorem dp.cF (L:Mem)(s0:ByteArray)  (LN:RC cf m):cd Tryz.prog cf yM m (sub [1,1,0,1,0,0] (bA Tryz.f111)) (fun k (σ:Int)=>dp.l0 m s0 k σ) (fun σ s=>match σ with | i0=>∃h0,s=⟨.str s0 :: .any :: .i i0::mU [],[],h0⟩∧Has h0 (L)) (fun out e s=>(e = .exit 0∧∃i0,.inr i0=out∧∃nA BP B4 h0,s=⟨[nA,.any,BP,.any,B4,.any],[],h0⟩∧Has h0 (L))∨(e = .ret∧∃r,.inl r=out∧dp.fin L r s)):=by
 refine jW (fun _=>rfl) ?_
 rintro k i0 s out ⟨h0,rfl,o0⟩ H
 have H:dp.l0 m s0 (k+1) i0=some out:=H
 refine qq <| qq <| q0 <| qc H (fun c3 H=>?_) (fun c3 H=>?_)
 ·refine qk <| qq <| qb 1 <| qq ?_
  obtain⟨v0,e0,H⟩:=aQ H
  obtain⟨x0,e1,H⟩:=aQ H
  refine qr [.v 2 (qw (k:=.i64) U9 e0),.a 3 (LN _ _ e1 h0 _ fq)] <| qc H (fun c4 H=>?_) (fun c4 H=>?_)
  ·exact q1 <| qt <| agv (⟨rfl,_,oi H,yo (.bool false) h0 (vP (kl))⟩)
  ·exact qk <| q0 <| ⟨i64.wrap (i0+1),⟨h0,kr,o0⟩,H⟩
 ·exact qx 0 <| Or.inl (⟨rfl,i0,oi H,.str s0,.i i0,.bool (decide (i0<(s0.size:Int))),h0,kr,o0⟩)
theorem wO {aX:FuncId→bX}(ha:aX 111=yM)(LN:RC cf m)(s0:ByteArray)(h:AHeap)(L:Mem)  (o:Has h (L)){out:Bool}(H:dp.f m s0=some out) :
  ∃r h',ba Tryz.prog aX cf m 111 [.str s0] h=some (r,h')∧fG h' r (.bool out):=by
 refine ax (fn:=Tryz.f111) ha Tryz.func111 kr kr ?_
 refine aI (Q:=fun s=>dp.fin L out s) (fun _ _ h=>h) ?_
 have H:_=some out:=H
 unfold dp.f at H
 show dB _ cf yM m _ ⟨.str s0::wz [],[],h⟩ _
 refine q1 <| qq <| qq ?_
 rcases dZ H with⟨c0,H⟩| ⟨c0,H⟩
 ·exact qr [.b 3 c0] <| rW <| qq <| q0 <| qt <| fB H
 ·refine qr [.b 3 c0] <| qc H (fun c2 H=>?_) (fun c2 H=>?_)
  ·exact q1 <| qt <| fB H
  ·refine qk <| qq <| qq <| q0 <| qb 0 ?_
   obtain⟨bI,e2,H⟩:=aQ H
   refine ql (dp.cF L s0  LN 0 _ _ ⟨h,kr,o⟩ e2) ?_
   rintro e s (⟨rfl,i1,rfl,g0,g1,g2,h1,rfl,o1⟩| ⟨rfl,r0,rfl,sw⟩)
   ·try dsimp only at H
    exact q1 <| qt <| fB H
   ·try dsimp only at H
    obtain rfl:=oi H
    exact⟨.inl rfl,sw⟩
end
end Go.Proofs.YtifafejidnjckaaGreat
