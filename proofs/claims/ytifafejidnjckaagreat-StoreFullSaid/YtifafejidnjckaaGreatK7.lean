/- Part of the proof: Q35, Q49, Q50, Q65, Q69, Q71, Q72, Q75, Q76, Q85, Q87, Q89, Q91, Q92, Q93, Q94, Q95, Q97, Q98, Q101, Q104, Q105, Q106, Q107, Q109, Q110, Q113, Q120, Q125, Q126, Q128, Q130, Q131, Q132, Q137, Q140, Q141. -/
import Derived.Test.YtifafejidnjckaaGreatK6
set_option linter.unusedVariables false
set_option linter.unusedSimpArgs false
set_option maxRecDepth 100000
open ByteArray renaming mk → afC
open Or renaming inr → agv
namespace Go.Proofs.YtifafejidnjckaaGreat
open Go Go.R
open Go.IntKind (i64 u64 u8 u32)
def DO:bX:=gP [0,1,4,5,10,14,25] [] [124,108,123,116,84,116,52,123,123] [] []
def db.l0 (m:Nat)(a0:List Int)(b0:List Int):Nat→Int→Option (Sum Bool (Int))
 | 0,_=>none
 | k+1,i0=>if (decide (i0<(a0.length:Int)))=true then ((ix a0 i0).bind fun v0=>(ix b0 i0).bind fun v1=>if (!(v0==v1))=true then (some (.inl false)) else (db.l0 m a0 b0 k (i64.wrap (i0+1)))) else (some (.inr i0))
def db.f (m:Nat)(a0:List Int)(b0:List Int):Option (Bool):=if (!((a0.length:Int)==(b0.length:Int)))=true then (some false) else ((db.l0 m a0 b0 m 0).bind fun bI=>match bI with | .inl r0=>some r0 | .inr i1=>some true)
def db.fin (L:Mem)(r:Bool)(s:St):Prop:=∃av,aM Tryz.prog (s.open DO) Tryz.f35.results.toList=some av∧fG s.h av (.bool r)
def S35 (cf:CallF)(m:Nat):Prop:=∀(a0:List Int) (b0:List Int) (r:Bool),db.f m a0 b0=some r→∀h xs,aZ b5 h xs [ae.fz a0,ae.fz b0]→cf 35 xs h=some (.bool r,h)
section
variable {cf:CallF}{m:Nat}
theorem db.cF (L:Mem)(a0:List Int)(b0:List Int)   : cd Tryz.prog cf DO m (sub [1,1,0,1,0,0] (bA Tryz.f35)) (fun k (σ:Int)=>db.l0 m a0 b0 k σ) (fun σ s=>match σ with | i0=>∃h0,s=⟨ae.fz a0::ae.fz b0 :: .any :: .i i0::mU [],[],h0⟩∧Has h0 (L)) (fun out e s=>(e = .exit 0∧∃i0,.inr i0=out∧∃nA wC DP yw h0,s=⟨[nA,wC,.any,DP,.any,yw,.any],[],h0⟩∧Has h0 (L))∨(e = .ret∧∃r,.inl r=out∧db.fin L r s)):=by
 refine jW (fun _=>rfl) ?_
 rintro k i0 s out ⟨h0,rfl,o0⟩ H
 have H:db.l0 m a0 b0 (k+1) i0=some out:=H
 refine qq <| qq <| q0 <| qc H (fun c1 H=>?_) (fun c1 H=>?_)
 ·refine qk <| qq <| qb 1 <| qq ?_
  obtain⟨v0,e0,H⟩:=aQ H
  obtain⟨v1,e1,H⟩:=aQ H
  refine qr [.v 2 (bW (k:=.i64) (E:=ae) (l:=a0) de e0),.v 3 (dk  (E:=ae) (l:=a0) h0 A3 e0 rfl),.v 6 (bW (k:=.i64) (E:=ae) (l:=b0) de e1),.v 7 (dk  (E:=ae) (l:=b0) h0 A3 e1 rfl)] <| qc H (fun c2 H=>?_) (fun c2 H=>?_)
  ·exact q1 <| qt <| agv (⟨rfl,_,oi H,yo (.bool false) h0 (vP (kl))⟩)
  ·exact qk <| q0 <| ⟨i64.wrap (i0+1),⟨h0,kr,o0⟩,H⟩
 ·exact qx 0 <| Or.inl (⟨rfl,i0,oi H,ae.fz a0,ae.fz b0,.i i0,.bool (decide (i0<(a0.length:Int))),h0,kr,o0⟩)
theorem wD {aX:FuncId→bX}(ha:aX 35=DO)  (a0:List Int)(b0:List Int)(h:AHeap)(L:Mem)  (o:Has h (L)){out:Bool}(H:db.f m a0 b0=some out) :
  ∃r h',ba Tryz.prog aX cf m 35 [ae.fz a0,ae.fz b0] h=some (r,h')∧fG h' r (.bool out):=by
 refine ax (fn:=Tryz.f35) ha Tryz.func35 kr kr ?_
 refine aI (Q:=fun s=>db.fin L out s) (fun _ _ h=>h) ?_
 have H:_=some out:=H
 unfold db.f at H
 show dB _ cf DO m _ ⟨ae.fz a0::ae.fz b0::wz [],[],h⟩ _
 refine q1 <| qq <| qq <| q0 <| qc H (fun c0 H=>?_) (fun c0 H=>?_)
 ·exact q1 <| qt <| fB H
 ·refine qk <| qq <| qq <| q0 <| qb 0 ?_
  obtain⟨bI,e2,H⟩:=aQ H
  refine ql (db.cF L a0 b0   0 _ _ ⟨h,kr,o⟩ e2) ?_
  rintro e s (⟨rfl,i1,rfl,g0,g1,g2,g3,h1,rfl,o1⟩| ⟨rfl,r0,rfl,sw⟩)
  ·try dsimp only at H
   exact q1 <| qt <| fB H
  ·try dsimp only at H
   obtain rfl:=oi H
   exact⟨.inl rfl,sw⟩
end
def Hc:bX:=gP [0,2] [] [2,1] [] []
def cw.f (m:Nat)(s0:ab):Option (Bool):=some s0.aA
def cw.fin (L:Mem)(r:Bool)(s:St):Prop:=∃av,aM Tryz.prog (s.open Hc) Tryz.f49.results.toList=some av∧fG s.h av (.bool r)
def UB (cf:CallF)(m:Nat):Prop:=∀(s0:ab) (r:Bool),cw.f m s0=some r→∀h xs,aZ b5 h xs [.fp [.bool s0.aA,af.fz s0.aa,ae.fz s0.an] 0]→cf 49 xs h=some (.bool r,h)
section
variable {cf:CallF}{m:Nat}
theorem pE {aX:FuncId→bX}(ha:aX 49=Hc)  (s0:ab)(h:AHeap)(L:Mem)  (o:Has h (L)){out:Bool}(H:cw.f m s0=some out) :
  ∃r h',ba Tryz.prog aX cf m 49 [.fp [.bool s0.aA,af.fz s0.aa,ae.fz s0.an] 0] h=some (r,h')∧fG h' r (.bool out):=by
 refine ax (fn:=Tryz.f49) ha Tryz.func49 kr kr ?_
 refine aI (Q:=fun s=>cw.fin L out s) (fun _ _ h=>h) ?_
 have H:_=some out:=H
 unfold cw.f at H
 show dB _ cf Hc m _ ⟨[.fp [.bool s0.aA,af.fz s0.aa,ae.fz s0.an] 0,.any],[],h⟩ _
 exact q1 <| qq <| q0 <| qt <| fB H
end
def Hd:bX:=gP [0,2] [] [2,1] [] []
def cN.f (m:Nat)(s0:aj):Option (Bool):=some s0.aK
def cN.fin (L:Mem)(r:Bool)(s:St):Prop:=∃av,aM Tryz.prog (s.open Hd) Tryz.f50.results.toList=some av∧fG s.h av (.bool r)
def S4 (cf:CallF)(m:Nat):Prop:=∀(s0:aj) (r:Bool),cN.f m s0=some r→∀h xs,aZ b5 h xs [.fp [af.fz s0.ah,ae.fz s0.au,.bool s0.aK] 0]→cf 50 xs h=some (.bool r,h)
section
variable {cf:CallF}{m:Nat}
theorem pF {aX:FuncId→bX}(ha:aX 50=Hd)  (s0:aj)(h:AHeap)(L:Mem)  (o:Has h (L)){out:Bool}(H:cN.f m s0=some out) :
  ∃r h',ba Tryz.prog aX cf m 50 [.fp [af.fz s0.ah,ae.fz s0.au,.bool s0.aK] 0] h=some (r,h')∧fG h' r (.bool out):=by
 refine ax (fn:=Tryz.f50) ha Tryz.func50 kr kr ?_
 refine aI (Q:=fun s=>cN.fin L out s) (fun _ _ h=>h) ?_
 have H:_=some out:=H
 unfold cN.f at H
 show dB _ cf Hd m _ ⟨[.fp [af.fz s0.ah,ae.fz s0.au,.bool s0.aK] 0,.any],[],h⟩ _
 exact q1 <| qq <| q0 <| qt <| fB H
end
def He:bX:=gP [0,1,4] [] [4,3] [] []
def dc.f (m:Nat)(s0:ab)(n0:Int):Option (Bool):=(ix s0.aa n0).bind fun v0=>some (v0.kind==0)
def dc.fin (L:Mem)(r:Bool)(s:St):Prop:=∃av,aM Tryz.prog (s.open He) Tryz.f65.results.toList=some av∧fG s.h av (.bool r)
def XB (cf:CallF)(m:Nat):Prop:=∀(s0:ab) (n0:Int) (r:Bool),dc.f m s0 n0=some r→∀h xs,aZ b5 h xs [.fp [.bool s0.aA,af.fz s0.aa,ae.fz s0.an] 0,.i n0]→cf 65 xs h=some (.bool r,h)
section
variable {cf:CallF}{m:Nat}
theorem pG {aX:FuncId→bX}(ha:aX 65=He)  (s0:ab)(n0:Int)(h:AHeap)(L:Mem)  (o:Has h (L)){out:Bool}(H:dc.f m s0 n0=some out) :
  ∃r h',ba Tryz.prog aX cf m 65 [.fp [.bool s0.aA,af.fz s0.aa,ae.fz s0.an] 0,.i n0] h=some (r,h')∧fG h' r (.bool out):=by
 refine ax (fn:=Tryz.f65) ha Tryz.func65 kr kr ?_
 refine aI (Q:=fun s=>dc.fin L out s) (fun _ _ h=>h) ?_
 have H:_=some out:=H
 unfold dc.f at H
 show dB _ cf He m _ ⟨[.fp [.bool s0.aA,af.fz s0.aa,ae.fz s0.an] 0,.i n0,.any],[],h⟩ _
 refine q1 <| qq ?_
 obtain⟨v0,e0,H⟩:=aQ H
 exact qr [.v 5 (bW (k:=.i64) (E:=af) (l:=s0.aa) lF e0),.v 7 (lS  (E:=af) (l:=s0.aa) (off:=0) h A3 e0 rfl)] <| qt <| fB H
end
def DQ:bX:=gP [0,1,5,6,7,8,9] [] [70,6,66,70,70] [] []
def bD.l0 (m:Nat)(aU:List Int):Nat→Int→ab→Option (Int × ab)
 | 0,_,_=>none
 | k+1,x0,s1=>if (decide (x0<(aU.length:Int)))=true then ((ix aU x0).bind fun v0=>(ix s1.an v0).bind fun v1=>bD.l0 m aU k (i64.wrap (x0+1)) (ab.mk s1.aA s1.aa (s1.an.set v0.toNat v0))) else (some ((x0,s1)))
def bD.f (m:Nat)(s0:ab)(aU:List Int):Option (ab):=(bD.l0 m aU m 0 s0).bind fun bI=>match bI with | (x1,s2)=>some s2
def bD.fin (L:Mem)(aq:Nat)(ak:Nat)(az:Nat)(s0:ab)(aU:List Int)(r:ab)(s:St):Prop:=∃aB aC:Nat,aM Tryz.prog (s.open DQ) Tryz.f69.results.toList=some (.tup [])∧Has s.h ((aq,.ob [.bool r.aA,.rs aB 0 r.aa.length 4,.rs aC 0 r.an.length 1])::(aB,.sl r.aa.length 4 (af.l r.aa))::(aC,.sl r.an.length 1 (ae.l r.an))::L)
def XC (cf:CallF)(m:Nat):Prop:=∀(s0:ab) (aU:List Int) (r:ab),bD.f m s0 aU=some r→∀h L (aq:Nat) (ak:Nat) (az:Nat),Has h ((aq,.ob [.bool s0.aA,.rs ak 0 s0.aa.length 4,.rs az 0 s0.an.length 1])::(ak,.sl s0.aa.length 4 (af.l s0.aa))::(az,.sl s0.an.length 1 (ae.l s0.an))::L)→∀xs,xs.map aP=[.ptr aq 0,ae.fz aU]→∃aB aC h',cf 69 xs h=some (.tup [],h')∧Has h' ((aq,.ob [.bool r.aA,.rs aB 0 r.aa.length 4,.rs aC 0 r.an.length 1])::(aB,.sl r.aa.length 4 (af.l r.aa))::(aC,.sl r.an.length 1 (ae.l r.an))::L)
section
variable {cf:CallF}{m:Nat}
theorem bD.cF (L:Mem)(aq:Nat)(ak:Nat)(az:Nat)(s0:ab)(aU:List Int)   : cd Tryz.prog cf DQ m (sub [1,0,0] (bA Tryz.f69)) (fun k (σ:Int × ab)=>bD.l0 m aU k σ.1 σ.2) (fun σ s=>match σ with | (x0,s1)=>∃aV dr h0,s=⟨[.ptr aq 0,.any,.any,ae.fz aU,.i (aU.length:Int),.i x0,.any],[],h0⟩∧Has h0 ((aq,.ob [.bool s1.aA,.rs aV 0 s1.aa.length 4,.rs dr 0 s1.an.length 1])::(aV,.sl s1.aa.length 4 (af.l s1.aa))::(dr,.sl s1.an.length 1 (ae.l s1.an))::L)) (fun out e s=>(e = .exit 0∧∃x0 s1,(x0,s1)=out∧∃nA DR DN yx wE aV dr h0,s=⟨[nA,.any,.any,DR,DN,yx,wE],[],h0⟩∧Has h0 ((aq,.ob [.bool s1.aA,.rs aV 0 s1.aa.length 4,.rs dr 0 s1.an.length 1])::(aV,.sl s1.aa.length 4 (af.l s1.aa))::(dr,.sl s1.an.length 1 (ae.l s1.an))::L))):=by
 refine jW (fun _=>rfl) ?_
 rintro k ⟨x0,s1⟩ s out ⟨aV,dr,h0,rfl,o0⟩ H
 have H:bD.l0 m aU (k+1) x0 s1=some out:=H
 refine q1 <| qq <| qc H (fun c0 H=>?_) (fun c0 H=>?_)
 ·refine qk <| qq <| qb 1 <| qq ?_
  obtain⟨v0,e0,H⟩:=aQ H
  refine qr [.v 0 (bW (k:=.i64) (E:=ae) (l:=aU) de e0),.v 1 (dk  (E:=ae) (l:=aU) h0 A3 e0 rfl)] ?_
  obtain⟨v1,e1,H⟩:=aQ H
  obtain⟨h1,e2,o1⟩:=dJ (P:=Tryz.prog) (tf:=3) (E:=ae) (l:=s1.an) (q:=2) (v:=v0) (x:=.i v0) o0 rfl Z3 e1 rfl rfl
  exact qr [.v 3 (show bB Tryz.prog h0 22 (.ptr aq 2)=some (.rs dr 0 s1.an.length 1) from b7 (q:=0) (cs:=[.bool s1.aA,.rs aV 0 s1.aa.length 4,.rs dr 0 s1.an.length 1]) o0 rfl kr),.v 6 (aL (k:=.i64) (E:=ae) (l:=s1.an) (q:=2) de o0 rfl e1),.w 7 e2] <| q0 <| ⟨(i64.wrap (x0+1),(ab.mk s1.aA s1.aa (s1.an.set v0.toNat v0))),⟨aV,dr,h1,ld,(rz o1)⟩,H⟩
 ·exact qx 0 <| ⟨rfl,x0,s1,oi H,.ptr aq 0,ae.fz aU,.i (aU.length:Int),.i x0,.bool (decide (x0<(aU.length:Int))),aV,dr,h0,kr,o0⟩
theorem pH {aX:FuncId→bX}(ha:aX 69=DQ)  (s0:ab)(aU:List Int)(h:AHeap)(L:Mem)(aq:Nat)(ak:Nat)(az:Nat)  (o:Has h ((aq,.ob [.bool s0.aA,.rs ak 0 s0.aa.length 4,.rs az 0 s0.an.length 1])::(ak,.sl s0.aa.length 4 (af.l s0.aa))::(az,.sl s0.an.length 1 (ae.l s0.an))::L)){out:ab}(H:bD.f m s0 aU=some out) :
  ∃r h',ba Tryz.prog aX cf m 69 [.ptr aq 0,ae.fz aU] h=some (r,h')∧∃aB aC:Nat,r = .tup []∧Has h' ((aq,.ob [.bool out.aA,.rs aB 0 out.aa.length 4,.rs aC 0 out.an.length 1])::(aB,.sl out.aa.length 4 (af.l out.aa))::(aC,.sl out.an.length 1 (ae.l out.an))::L):=by
 refine ax (fn:=Tryz.f69) ha Tryz.func69 kr kr ?_
 refine aI (Q:=fun s=>bD.fin L aq ak az s0 aU out s) (fun _ _ ⟨h1,aB,aC,h2,h3⟩=>⟨h1,_,h2,aB,aC,rfl,h3⟩) ?_
 have H:_=some out:=H
 unfold bD.f at H
 show dB _ cf DQ m _ ⟨.ptr aq 0::ae.fz aU::wz [],[],h⟩ _
 refine q1 <| qb 0 ?_
 obtain⟨bI,e3,H⟩:=aQ H
 refine ql (bD.cF L aq ak az s0 aU   (0,s0) _ _ ⟨ak,az,h,kr,o⟩ e3) ?_
 rintro e s ⟨rfl,x1,s2,rfl,g0,g1,g2,g3,g4,cm,cE,h2,rfl,o2⟩
 try dsimp only at H
 obtain rfl:=oi H
 exact⟨.inr rfl,⟨cm,cE,kr,he o2⟩⟩
end
def Hf:bX:=gP [0,1,2,5,6,7,8,9,13,17,31] [5] [2036,1908,1999,1782,1999,1526,1999,1974,950,1974,1983,1999] [] []
def cY.f (m:Nat)(s0:ab)(Lw:Option (Bool))(n0:ai):Option (Int × Int × ab):=(cw.f m s0).bind fun x0=>if (!x0)=true then (some (0,6,s0)) else ((Lw ).bind fun r0=>if (!r0)=true then (some (0,1,s0)) else (if (decide ((s0.aa.length:Int)≥8000))=true then (some (0,7,s0)) else (jn (fun (σ:Int)=>match σ with | n1=>(app 56 s0.aa ([(ai.mk n0.kind n1 n0.label n0.args)])).bind fun x1=>(app 8 s0.an ([(s0.aa.length:Int)])).bind fun x2=>some ((s0.aa.length:Int),0,(ab.mk s0.aA x1 x2))) fun oU=>(if (n0.kind==0)=true then (oU (s0.aa.length:Int)) else (oU n0.int)))))
def cY.fin (L:Mem)(aq:Nat)(ak:Nat)(az:Nat)(s0:ab)(Lw:Option (Bool))(n0:ai)(r:Int × Int × ab)(s:St):Prop:=∃aB aC:Nat,aM Tryz.prog (s.open Hf) Tryz.f71.results.toList=some (.tup [.i r.1,.i r.2.1])∧Has s.h ((aq,.ob [.bool r.2.2.aA,.rs aB 0 r.2.2.aa.length 4,.rs aC 0 r.2.2.an.length 1])::(aB,.sl r.2.2.aa.length 4 (af.l r.2.2.aa))::(aC,.sl r.2.2.an.length 1 (ae.l r.2.2.an))::L)
def S5 (cf:CallF)(m:Nat):Prop:=∀(s0:ab) (Lw:Option (Bool)) (n0:ai) (r:Int × Int × ab),cY.f m s0 Lw n0=some r→∀h L (aq:Nat) (ak:Nat) (az:Nat),Has h ((aq,.ob [.bool s0.aA,.rs ak 0 s0.aa.length 4,.rs az 0 s0.an.length 1])::(ak,.sl s0.aa.length 4 (af.l s0.aa))::(az,.sl s0.an.length 1 (ae.l s0.an))::L)→∀(gQ:FuncId) (bc cU:List AV),(aP (.fn gQ bc) = .fn gQ bc)→(∀(h:AHeap) (xs:List AV)  r,Lw  = some r→aZ b5 h xs ([]++cU)→cf gQ xs h=some (.bool r,h))→(∀h K,Has h (K++((aq,.ob [.bool s0.aA,.rs ak 0 s0.aa.length 4,.rs az 0 s0.an.length 1])::(ak,.sl s0.aa.length 4 (af.l s0.aa))::(az,.sl s0.an.length 1 (ae.l s0.an))::L))→aZ dK h bc cU)→(∀h,aZ dK h cU cU)→∀xs,xs.map aP=[.ptr aq 0,.fn gQ bc,.agg [.i n0.kind,.i n0.int,.str n0.label,ae.fz n0.args]]→∃aB aC h',cf 71 xs h=some (.tup [.i r.1,.i r.2.1],h')∧Has h' ((aq,.ob [.bool r.2.2.aA,.rs aB 0 r.2.2.aa.length 4,.rs aC 0 r.2.2.an.length 1])::(aB,.sl r.2.2.aa.length 4 (af.l r.2.2.aa))::(aC,.sl r.2.2.an.length 1 (ae.l r.2.2.an))::L)
section
variable {cf:CallF}{m:Nat}
theorem qE {aX:FuncId→bX}(ha:aX 71=Hf)(FJ:UB cf m)(s0:ab)(Lw:Option (Bool))(n0:ai)(h:AHeap)(L:Mem)(aq:Nat)(ak:Nat)(az:Nat)(gQ:FuncId)(bc cU:List AV)  (yy:aP (.fn gQ bc) = .fn gQ bc)(jQ:∀(h:AHeap) (xs:List AV)  r,Lw  = some r→aZ b5 h xs ([]++cU)→cf gQ xs h=some (.bool r,h))(tD:∀h K,Has h (K++((aq,.ob [.bool s0.aA,.rs ak 0 s0.aa.length 4,.rs az 0 s0.an.length 1])::(ak,.sl s0.aa.length 4 (af.l s0.aa))::(az,.sl s0.an.length 1 (ae.l s0.an))::L))→aZ dK h bc cU)(jR:∀h,aZ dK h cU cU)(o:Has h ((aq,.ob [.bool s0.aA,.rs ak 0 s0.aa.length 4,.rs az 0 s0.an.length 1])::(ak,.sl s0.aa.length 4 (af.l s0.aa))::(az,.sl s0.an.length 1 (ae.l s0.an))::L)){out:Int × Int × ab}(H:cY.f m s0 Lw n0=some out) :
  ∃r h',ba Tryz.prog aX cf m 71 [.ptr aq 0,.fn gQ bc,.agg [.i n0.kind,.i n0.int,.str n0.label,ae.fz n0.args]] h=some (r,h')∧∃aB aC:Nat,r = .tup [.i out.1,.i out.2.1]∧Has h' ((aq,.ob [.bool out.2.2.aA,.rs aB 0 out.2.2.aa.length 4,.rs aC 0 out.2.2.an.length 1])::(aB,.sl out.2.2.aa.length 4 (af.l out.2.2.aa))::(aC,.sl out.2.2.an.length 1 (ae.l out.2.2.an))::L):=by
 refine ax (fn:=Tryz.f71) ha Tryz.func71 kr kr ?_
 refine aI (Q:=fun s=>cY.fin L aq ak az s0 Lw n0 out s) (fun _ _ ⟨h1,aB,aC,h2,h3⟩=>⟨h1,_,h2,aB,aC,rfl,h3⟩) ?_
 have H:_=some out:=H
 unfold cY.f at H
 show dB _ cf Hf m _ ⟨.ptr aq 0 :: .fn gQ bc :: .agg [.i n0.kind,.i n0.int,.str n0.label,ae.fz n0.args]::wA [],[none],h⟩ _
 refine q1 <| qq <| qb 0 <| qq ?_
 obtain⟨x0,e0,H⟩:=aQ H
 refine qr [.a 1 (FJ _ _ e0 h _ (km (ao (da (q:=0) o rfl (ao (dD) (ao (b4 (E:=af) (l:=s0.aa) (q:=1) o rfl (fun _=>rfl)) (ao (b4 (E:=ae) (l:=s0.an) (q:=2) o rfl (fun _=>rfl)) (aJ))))) (aJ))))] <| qc H (fun c0 H=>?_) (fun c0 H=>?_)
 ·obtain rfl:=oi H
  exact q1 <| qt <| ⟨.inl rfl,⟨ak,az,kr,he o⟩⟩
 ·refine qq ?_
  obtain⟨r0,e1,H⟩:=aQ H
  refine qr [.a 1 (jQ _ _ _ e1 (PQ (aJ) (tD h [] o)))] <| qc H (fun c1 H=>?_) (fun c1 H=>?_)
  ·obtain rfl:=oi H
   exact q1 <| qt <| ⟨.inl rfl,⟨ak,az,kr,he o⟩⟩
  ·refine qs [.v 3 (show bB Tryz.prog h 23 (.ptr aq 1)=some (.rs ak 0 s0.aa.length 4) from b7 (q:=0) (cs:=[.bool s0.aA,.rs ak 0 s0.aa.length 4,.rs az 0 s0.an.length 1]) o rfl kr)] <| qc H (fun c2 H=>?_) (fun c2 H=>?_)
   ·obtain rfl:=oi H
    exact q1 <| qt <| ⟨.inl rfl,⟨ak,az,kr,he o⟩⟩
   ·refine qk <| qq <| qr [.v 3 (show bB Tryz.prog h 23 (.ptr aq 1)=some (.rs ak 0 s0.aa.length 4) from b7 (q:=0) (cs:=[.bool s0.aA,.rs ak 0 s0.aa.length 4,.rs az 0 s0.an.length 1]) o rfl kr)] ?_
    obtain⟨oU,As,H⟩:=kX H
    refine qj (S:=fun (σ:Int) s=>match σ with | n1=>∃(g0:AV) (h0:AHeap),s=⟨.ptr aq 0 :: .any :: .any :: .lp 5 0 :: .any :: .any :: .i (s0.aa.length:Int)::mU [g0],[some [.i n0.kind,.i n1,.str n0.label,ae.fz n0.args]],h0⟩∧Has h0 ((aq,.ob [.bool s0.aA,.rs ak 0 s0.aa.length 4,.rs az 0 s0.an.length 1])::(ak,.sl s0.aa.length 4 (af.l s0.aa))::(az,.sl s0.an.length 1 (ae.l s0.an))::L)) oU H ?_ ?_
    ·rintro n1 s ⟨g0,h0,rfl,o0⟩ H
     have H:=(As _).symm.trans H
     try dsimp only at H
     refine qq ?_
     obtain⟨x1,e2,H⟩:=aQ H
     obtain⟨aV,h1,e3,o1⟩:=dY (P:=Tryz.prog) (E:=af) (l:=s0.aa) (q:=1) (t2:=23) (x:=.fz [.i n0.kind,.i n1,.str n0.label,ae.fz n0.args] 1 true) (l2:=([(ai.mk n0.kind n1 n0.label n0.args)])) lF o0 rfl kr rfl e2
     obtain⟨x2,e4,H⟩:=aQ H
     obtain⟨dr,h2,e5,o2⟩:=dY (P:=Tryz.prog) (E:=ae) (l:=s0.an) (q:=2) (t2:=22) (x:=.fz [.i (s0.aa.length:Int)] 1 true) (l2:=([(s0.aa.length:Int)])) de o1 rfl kr rfl e4
     obtain⟨h3,e6,o3⟩:=kb (P:=Tryz.prog) (t:=23) (off:=1) (q:=0) (cs:=[.bool s0.aA,.rs ak 0 s0.aa.length 4,.rs az 0 s0.an.length 1]) (gF:=[.bool s0.aA,.rs aV 0 x1.length 4,.rs az 0 s0.an.length 1]) (x:=.rs aV 0 x1.length 4) o2 rfl kr
     obtain⟨h4,e7,o4⟩:=kb (P:=Tryz.prog) (t:=22) (off:=2) (q:=0) (cs:=[.bool s0.aA,.rs aV 0 x1.length 4,.rs az 0 s0.an.length 1]) (gF:=[.bool s0.aA,.rs aV 0 x1.length 4,.rs dr 0 x2.length 1]) (x:=.rs dr 0 x2.length 1) o3 rfl kr
     obtain rfl:=oi H
     exact Ro [] [.v 5 (show bB Tryz.prog h0 23 (.ptr aq 1)=some (.rs ak 0 s0.aa.length 4) from b7 (q:=0) (cs:=[.bool s0.aA,.rs ak 0 s0.aa.length 4,.rs az 0 s0.an.length 1]) o0 rfl kr),.a 8 e3,.v 12 (show bB Tryz.prog h1 22 (.ptr aq 2)=some (.rs az 0 s0.an.length 1) from b7 (q:=0) (cs:=[.bool s0.aA,.rs ak 0 s0.aa.length 4,.rs az 0 s0.an.length 1]) o1 rfl kr),.a 15 e5,.w 18 e6,.w 21 e7] [.mk (yq o0 (q:=1) rfl (q2:=0) rfl (by decide) e3)] <| qq <| q0 <| qt <| ⟨.inl rfl,⟨aV,dr,kr,he o4⟩⟩
    clear As
    intro mW
    refine q1 <| qc H (fun c3 H=>?_) (fun c3 H=>?_)
    ·exact q0 <| mW (s0.aa.length:Int) _ ⟨.any,h,kr,o⟩ H
    ·exact qk <| mW n0.int _ ⟨.bool (n0.kind==0),h,kr,o⟩ H
end
def Hg:bX:=gP [0] [] [1] [] []
def fl.f (m:Nat)  : Option (Bool):=some true
def fl.fin (L:Mem)(r:Bool)(s:St):Prop:=∃av,aM Tryz.prog (s.open Hg) Tryz.f72.results.toList=some av∧fG s.h av (.bool r)
def S72 (cf:CallF)(m:Nat):Prop:=∀ (r:Bool),fl.f m  = some r→∀h xs,aZ b5 h xs []→cf 72 xs h=some (.bool r,h)
section
variable {cf:CallF}{m:Nat}
theorem oV {aX:FuncId→bX}(ha:aX 72=Hg)   (h:AHeap)(L:Mem)  (o:Has h (L)){out:Bool}(H:fl.f m  = some out) :
  ∃r h',ba Tryz.prog aX cf m 72 [] h=some (r,h')∧fG h' r (.bool out):=by
 refine ax (fn:=Tryz.f72) ha Tryz.func72 kr kr ?_
 refine aI (Q:=fun s=>fl.fin L out s) (fun _ _ h=>h) ?_
 have H:_=some out:=H
 unfold fl.f at H
 show dB _ cf Hg m _ ⟨[.any],[],h⟩ _
 exact q1 <| qq <| q0 <| qt <| fB H
end
def DS:bX:=gP [0,1,4,13] [] [12,4,12,11] [] []
def bR.l0 (m:Nat)(s0:ab):Nat→Int→Option (Int)
 | 0,_=>none
 | k+1,n1=>(ix s0.an n1).bind fun v0=>if (!(v0==n1))=true then ((ix s0.an n1).bind fun v1=>bR.l0 m s0 k v1) else (some (n1))
def bR.f (m:Nat)(s0:ab)(n0:Int):Option (Int):=(bR.l0 m s0 m n0).bind fun bI=>match bI with | n2=>some n2
def bR.fin (L:Mem)(r:Int)(s:St):Prop:=∃av,aM Tryz.prog (s.open DS) Tryz.f75.results.toList=some av∧fG s.h av (.i r)
def XD (cf:CallF)(m:Nat):Prop:=∀(s0:ab) (n0:Int) (r:Int),bR.f m s0 n0=some r→∀h xs,aZ b5 h xs [.fp [.bool s0.aA,af.fz s0.aa,ae.fz s0.an] 0,.i n0]→cf 75 xs h=some (.i r,h)
section
variable {cf:CallF}{m:Nat}
theorem bR.cF (L:Mem)(s0:ab)   : cd Tryz.prog cf DS m (sub [1,0,0,0] (bA Tryz.f75)) (fun k (σ:Int)=>bR.l0 m s0 k σ) (fun σ s=>match σ with | n1=>∃h0,s=⟨[.fp [.bool s0.aA,af.fz s0.aa,ae.fz s0.an] 0,.i n1,.any,.any],[],h0⟩∧Has h0 (L)) (fun out e s=>(e = .exit 0∧∃n1,n1=out∧∃nA qF h0,s=⟨[nA,.i n1,.any,qF],[],h0⟩∧Has h0 (L))):=by
 refine jW (fun _=>rfl) ?_
 rintro k n1 s out ⟨h0,rfl,o0⟩ H
 have H:bR.l0 m s0 (k+1) n1=some out:=H
 refine qq <| qq ?_
 obtain⟨v0,e0,H⟩:=aQ H
 refine qr [.v 5 (bW (k:=.i64) (E:=ae) (l:=s0.an) de e0),.v 6 (dk  (E:=ae) (l:=s0.an) h0 A3 e0 rfl)] <| qc H (fun c0 H=>?_) (fun c0 H=>?_)
 ·refine qk <| qb 1 ?_
  obtain⟨v1,e1,H⟩:=aQ H
  exact qr [.v 5 (bW (k:=.i64) (E:=ae) (l:=s0.an) de e1),.v 6 (dk  (E:=ae) (l:=s0.an) h0 A3 e1 rfl)] <| ⟨v1,⟨h0,kr,o0⟩,H⟩
 ·exact qx 0 <| ⟨rfl,n1,oi H,.fp [.bool s0.aA,af.fz s0.aa,ae.fz s0.an] 0,.bool (!(v0==n1)),h0,kr,o0⟩
theorem qG {aX:FuncId→bX}(ha:aX 75=DS)  (s0:ab)(n0:Int)(h:AHeap)(L:Mem)  (o:Has h (L)){out:Int}(H:bR.f m s0 n0=some out) :
  ∃r h',ba Tryz.prog aX cf m 75 [.fp [.bool s0.aA,af.fz s0.aa,ae.fz s0.an] 0,.i n0] h=some (r,h')∧fG h' r (.i out):=by
 refine ax (fn:=Tryz.f75) ha Tryz.func75 kr kr ?_
 refine aI (Q:=fun s=>bR.fin L out s) (fun _ _ h=>h) ?_
 have H:_=some out:=H
 unfold bR.f at H
 show dB _ cf DS m _ ⟨[.fp [.bool s0.aA,af.fz s0.aa,ae.fz s0.an] 0,.i n0,.any,.any],[],h⟩ _
 refine q1 <| qq <| qb 0 ?_
 obtain⟨bI,e2,H⟩:=aQ H
 refine ql (bR.cF L s0   n0 _ _ ⟨h,kr,o⟩ e2) ?_
 rintro e s ⟨rfl,n2,rfl,g0,g1,h1,rfl,o1⟩
 try dsimp only at H
 exact q1 <| qt <| fI H
end
def Hh:bX:=gP [0,1] [] [2,1] [] []
def eH.f (m:Nat)(x0:Int):Option (Bool):=if (decide (x0≥(-1099511627776:Int)))=true then (some (decide (x0≤1099511627776))) else (some false)
def eH.fin (L:Mem)(r:Bool)(s:St):Prop:=∃av,aM Tryz.prog (s.open Hh) Tryz.f76.results.toList=some av∧fG s.h av (.bool r)
def S76 (cf:CallF)(m:Nat):Prop:=∀(x0:Int) (r:Bool),eH.f m x0=some r→∀h xs,aZ b5 h xs [.fp [.i x0] 0]→cf 76 xs h=some (.bool r,h)
section
variable {cf:CallF}{m:Nat}
theorem oW {aX:FuncId→bX}(ha:aX 76=Hh)  (x0:Int)(h:AHeap)(L:Mem)  (o:Has h (L)){out:Bool}(H:eH.f m x0=some out) :
  ∃r h',ba Tryz.prog aX cf m 76 [.fp [.i x0] 0] h=some (r,h')∧fG h' r (.bool out):=by
 refine ax (fn:=Tryz.f76) ha Tryz.func76 kr kr ?_
 refine aI (Q:=fun s=>eH.fin L out s) (fun _ _ h=>h) ?_
 have H:_=some out:=H
 unfold eH.f at H
 show dB _ cf Hh m _ ⟨[.fp [.i x0] 0,.any],[],h⟩ _
 refine q1 <| qq ?_
 rcases dZ H with⟨c0,H⟩| ⟨c0,H⟩
 ·exact qr [.b 2 c0] <| qt <| fB H
 ·exact qr [.b 2 c0] <| qt <| fB H
end
def Hi:bX:=gP [0,1,4] [] [4,3] [] []
def dO.f (m:Nat)(s0:ab)(n0:Int):Option (Bool):=if (decide (n0≥0))=true then (some (decide (n0<(s0.aa.length:Int)))) else (some false)
def dO.fin (L:Mem)(r:Bool)(s:St):Prop:=∃av,aM Tryz.prog (s.open Hi) Tryz.f85.results.toList=some av∧fG s.h av (.bool r)
def XE (cf:CallF)(m:Nat):Prop:=∀(s0:ab) (n0:Int) (r:Bool),dO.f m s0 n0=some r→∀h xs,aZ b5 h xs [.fp [.bool s0.aA,af.fz s0.aa,ae.fz s0.an] 0,.i n0]→cf 85 xs h=some (.bool r,h)
section
variable {cf:CallF}{m:Nat}
theorem oX {aX:FuncId→bX}(ha:aX 85=Hi)  (s0:ab)(n0:Int)(h:AHeap)(L:Mem)  (o:Has h (L)){out:Bool}(H:dO.f m s0 n0=some out) :
  ∃r h',ba Tryz.prog aX cf m 85 [.fp [.bool s0.aA,af.fz s0.aa,ae.fz s0.an] 0,.i n0] h=some (r,h')∧fG h' r (.bool out):=by
 refine ax (fn:=Tryz.f85) ha Tryz.func85 kr kr ?_
 refine aI (Q:=fun s=>dO.fin L out s) (fun _ _ h=>h) ?_
 have H:_=some out:=H
 unfold dO.f at H
 show dB _ cf Hi m _ ⟨[.fp [.bool s0.aA,af.fz s0.aa,ae.fz s0.an] 0,.i n0,.any],[],h⟩ _
 refine q1 <| qq ?_
 rcases dZ H with⟨c0,H⟩| ⟨c0,H⟩
 ·exact qr [.b 2 c0] <| qt <| fB H
 ·exact qr [.b 2 c0] <| qt <| fB H
end
def Hj:bX:=gP [0,2] [] [2,1] [] []
def iY.f (m:Nat)(s0:ByteArray):Option (Bool):=if (s0.data.toList==(afC #[112,114,111,99]).data.toList)=true then (some true) else (if (s0.data.toList==(afC #[99,101,108,108]).data.toList)=true then (some true) else (some (s0.data.toList==(afC #[112,111,114,116]).data.toList)))
def iY.fin (L:Mem)(r:Bool)(s:St):Prop:=∃av,aM Tryz.prog (s.open Hj) Tryz.f87.results.toList=some av∧fG s.h av (.bool r)
def XF (cf:CallF)(m:Nat):Prop:=∀(s0:ByteArray) (r:Bool),iY.f m s0=some r→∀h xs,aZ b5 h xs [.str s0]→cf 87 xs h=some (.bool r,h)
section
variable {cf:CallF}{m:Nat}
theorem wF {aX:FuncId→bX}(ha:aX 87=Hj)  (s0:ByteArray)(h:AHeap)(L:Mem)  (o:Has h (L)){out:Bool}(H:iY.f m s0=some out) :
  ∃r h',ba Tryz.prog aX cf m 87 [.str s0] h=some (r,h')∧fG h' r (.bool out):=by
 refine ax (fn:=Tryz.f87) ha Tryz.func87 kr kr ?_
 refine aI (Q:=fun s=>iY.fin L out s) (fun _ _ h=>h) ?_
 have H:_=some out:=H
 unfold iY.f at H
 show dB _ cf Hj m _ ⟨[.str s0,.any],[],h⟩ _
 refine q1 <| qq ?_
 rcases dZ H with⟨c0,H⟩| ⟨c0,H⟩
 ·exact qr [.b 2 c0] <| qt <| fB H
 ·rcases dZ H with⟨c1,H⟩| ⟨c1,H⟩
  ·exact qr [.b 2 c0,.b 6 c1] <| qt <| fB H
  ·exact qr [.b 2 c0,.b 6 c1] <| qt <| fB H
end
def Hk:bX:=gP [0,1,4] [] [4,3] [] []
def dy.f (m:Nat)(s0:aj)(n0:Int):Option (Bool):=if (decide (n0≥0))=true then (some (decide (n0<(s0.ah.length:Int)))) else (some false)
def dy.fin (L:Mem)(r:Bool)(s:St):Prop:=∃av,aM Tryz.prog (s.open Hk) Tryz.f89.results.toList=some av∧fG s.h av (.bool r)
def XG (cf:CallF)(m:Nat):Prop:=∀(s0:aj) (n0:Int) (r:Bool),dy.f m s0 n0=some r→∀h xs,aZ b5 h xs [.fp [af.fz s0.ah,ae.fz s0.au,.bool s0.aK] 0,.i n0]→cf 89 xs h=some (.bool r,h)
section
variable {cf:CallF}{m:Nat}
theorem qH {aX:FuncId→bX}(ha:aX 89=Hk)  (s0:aj)(n0:Int)(h:AHeap)(L:Mem)  (o:Has h (L)){out:Bool}(H:dy.f m s0 n0=some out) :
  ∃r h',ba Tryz.prog aX cf m 89 [.fp [af.fz s0.ah,ae.fz s0.au,.bool s0.aK] 0,.i n0] h=some (r,h')∧fG h' r (.bool out):=by
 refine ax (fn:=Tryz.f89) ha Tryz.func89 kr kr ?_
 refine aI (Q:=fun s=>dy.fin L out s) (fun _ _ h=>h) ?_
 have H:_=some out:=H
 unfold dy.f at H
 show dB _ cf Hk m _ ⟨[.fp [af.fz s0.ah,ae.fz s0.au,.bool s0.aK] 0,.i n0,.any],[],h⟩ _
 refine q1 <| qq ?_
 rcases dZ H with⟨c0,H⟩| ⟨c0,H⟩
 ·exact qr [.b 2 c0] <| qt <| fB H
 ·exact qr [.b 2 c0] <| qt <| fB H
end
def DT:bX:=gP [0,1,4,5,6,10,40] [] [124,116,100,68,100,36,100,123] [] [(1,[(5,none,1)])]
def be.l0 (m:Nat)(s0:aj)(b8:List Int):Nat→(List Int)→Int→Option ((List Int) × Int)
 | 0,_,_=>none
 | k+1,bI,i0=>if (decide (i0<(b8.length:Int)))=true then ((ix s0.ah i0).bind fun v0=>if (v0.kind==0)=true then ((ix s0.au i0).bind fun v1=>if (v1==i0)=true then ((ix b8 i0).bind fun v2=>if (!(v2==i0))=true then ((app 8 bI ([i0])).bind fun x0=>be.l0 m s0 b8 k x0 (i64.wrap (i0+1))) else (be.l0 m s0 b8 k bI (i64.wrap (i0+1)))) else (be.l0 m s0 b8 k bI (i64.wrap (i0+1)))) else (be.l0 m s0 b8 k bI (i64.wrap (i0+1)))) else (some ((bI,i0)))
def be.f (m:Nat)(s0:aj)(b8:List Int):Option ((List Int)):=(be.l0 m s0 b8 m ([]:List Int) 0).bind fun jD=>match jD with | (eT,i1)=>some eT
def be.fin (L:Mem)  (r:(List Int))(s:St):Prop:=∃du:Nat,aM Tryz.prog (s.open DT) Tryz.f91.results.toList=some (.rs du 0 r.length 1)∧Has s.h ((du,.sl r.length 1 (ae.l r))::L)
def XH (cf:CallF)(m:Nat):Prop:=∀(s0:aj) (b8:List Int) (r:(List Int)),be.f m s0 b8=some r→∀h L xs,Has h L→aZ b5 h xs [.fp [af.fz s0.ah,ae.fz s0.au,.bool s0.aK] 0,ae.fz b8]→∃du h',cf 91 xs h=some (.rs du 0 r.length 1,h')∧Has h' ((du,.sl r.length 1 (ae.l r))::L)∧∀j,j<h.next→h.ver j=h'.ver j
section
variable {cf:CallF}{m:Nat}
theorem be.cF (L:Mem)(s0:aj)(b8:List Int)   : cd Tryz.prog cf DT m (sub [1,1,0,1,0,0] (bA Tryz.f91)) (fun k (σ:(List Int) × Int)=>be.l0 m s0 b8 k σ.1 σ.2) (fun σ s=>match σ with | (bI,i0)=>∃aV h0,s=⟨[.fp [af.fz s0.ah,ae.fz s0.au,.bool s0.aK] 0,ae.fz b8,.any,.rs aV 0 bI.length 1,.i i0,.any,.any],[],h0⟩∧Has h0 ((aV,.sl bI.length 1 (ae.l bI))::L)) (fun out e s=>(e = .exit 0∧∃bI i0,(bI,i0)=out∧∃nA wC DR uK aV h0,s=⟨[nA,wC,.any,.rs aV 0 bI.length 1,DR,uK,.any],[],h0⟩∧Has h0 ((aV,.sl bI.length 1 (ae.l bI))::L))):=by
 refine jW (fun _=>rfl) ?_
 rintro k ⟨bI,i0⟩ s out ⟨aV,h0,rfl,o1⟩ H
 have H:be.l0 m s0 b8 (k+1) bI i0=some out:=H
 refine qq <| qq <| q0 <| qc H (fun c0 H=>?_) (fun c0 H=>?_)
 ·refine qk <| qq <| qb 1 <| qq ?_
  obtain⟨v0,e0,H⟩:=aQ H
  rcases dZ H with⟨c1,H⟩| ⟨c1,H⟩
  ·obtain⟨v1,e1,H⟩:=aQ H
   rcases dZ H with⟨c2,H⟩| ⟨c2,H⟩
   ·obtain⟨v2,e2,H⟩:=aQ H
    refine qr [.v 5 (bW (k:=.i64) (E:=af) (l:=s0.ah) lF e0),.v 7 (lS  (E:=af) (l:=s0.ah) (off:=0) h0 A3 e0 rfl),.b 9 c1,.v 15 (bW (k:=.i64) (E:=ae) (l:=s0.au) de e1),.v 16 (dk  (E:=ae) (l:=s0.au) h0 A3 e1 rfl),.b 20 c2,.v 23 (bW (k:=.i64) (E:=ae) (l:=b8) de e2),.v 24 (dk  (E:=ae) (l:=b8) h0 A3 e2 rfl)] <| qc H (fun c3 H=>?_) (fun c3 H=>?_)
    ·obtain⟨x0,e3,H⟩:=aQ H
     obtain⟨dr,h1,e4,o2⟩:=dY (P:=Tryz.prog) (E:=ae) (l:=bI) (q:=0) (t2:=22) (x:=.fz [.i i0] 1 true) (l2:=([i0])) de o1 rfl kr rfl e3
     exact qr [.a 3 e4] <| q0 <| ⟨(x0,i64.wrap (i0+1)),⟨dr,h1,kr,o2⟩,H⟩
    ·exact qk <| q0 <| ⟨(bI,i64.wrap (i0+1)),⟨aV,h0,kr,o1⟩,H⟩
   ·exact qr [.v 5 (bW (k:=.i64) (E:=af) (l:=s0.ah) lF e0),.v 7 (lS  (E:=af) (l:=s0.ah) (off:=0) h0 A3 e0 rfl),.b 9 c1,.v 15 (bW (k:=.i64) (E:=ae) (l:=s0.au) de e1),.v 16 (dk  (E:=ae) (l:=s0.au) h0 A3 e1 rfl),.b 20 c2] <| zD <| qk <| q0 <| ⟨(bI,i64.wrap (i0+1)),⟨aV,h0,kr,o1⟩,H⟩
  ·exact qr [.v 5 (bW (k:=.i64) (E:=af) (l:=s0.ah) lF e0),.v 7 (lS  (E:=af) (l:=s0.ah) (off:=0) h0 A3 e0 rfl),.b 9 c1] <| zD <| qk <| q0 <| ⟨(bI,i64.wrap (i0+1)),⟨aV,h0,kr,o1⟩,H⟩
 ·exact qx 0 <| ⟨rfl,bI,i0,oi H,.fp [af.fz s0.ah,ae.fz s0.au,.bool s0.aK] 0,ae.fz b8,.i i0,.bool (decide (i0<(b8.length:Int))),aV,h0,kr,o1⟩
theorem oY {aX:FuncId→bX}(ha:aX 91=DT)  (s0:aj)(b8:List Int)(h:AHeap)(L:Mem)  (o:Has h (L)){out:(List Int)}(H:be.f m s0 b8=some out) :
  ∃r h',ba Tryz.prog aX cf m 91 [.fp [af.fz s0.ah,ae.fz s0.au,.bool s0.aK] 0,ae.fz b8] h=some (r,h')∧∃du:Nat,r = .rs du 0 out.length 1∧Has h' ((du,.sl out.length 1 (ae.l out))::L):=by
 refine ax (fn:=Tryz.f91) ha Tryz.func91 kr kr ?_
 refine aI (Q:=fun s=>be.fin L out s) (fun _ _ ⟨h1,du,h2,h3⟩=>⟨h1,_,h2,du,rfl,h3⟩) ?_
 have H:_=some out:=H
 unfold be.f at H
 show dB _ cf DT m _ ⟨.fp [af.fz s0.ah,ae.fz s0.au,.bool s0.aK] 0::ae.fz b8::wz [],[],h⟩ _
 refine q1 <| qq <| q0 ?_
 have o0:Has h (((0),.sl (([]:List Int).length) 1 (ae.l ([]:List Int)))::L):=Has.nil o 1
 refine qq <| qq <| q0 <| qb 0 ?_
 obtain⟨jD,e5,H⟩:=aQ H
 refine ql (be.cF L s0 b8   (([]:List Int),0) _ _ ⟨(0),h,kr,o0⟩ e5) ?_
 rintro e s ⟨rfl,eT,i1,rfl,g0,g1,g2,g3,cm,h2,rfl,o3⟩
 try dsimp only at H
 obtain rfl:=oi H
 exact q1 <| qt <| ⟨.inl rfl,⟨cm,kr,he o3⟩⟩
end
def Hl:bX:=gP [0,1,2,3,4] [2,3] [19,15] [] []
def ic.f (m:Nat)(a0:ai)(b0:ai):Option (Bool):=if (a0.kind==b0.kind)=true then (if (a0.int==b0.int)=true then (if (a0.label.data.toList==b0.label.data.toList)=true then (some ((a0.args.length:Int)==(b0.args.length:Int))) else (some false)) else (some false)) else (some false)
def ic.fin (L:Mem)(r:Bool)(s:St):Prop:=∃av,aM Tryz.prog (s.open Hl) Tryz.f94.results.toList=some av∧fG s.h av (.bool r)
def Ta (cf:CallF)(m:Nat):Prop:=∀(a0:ai) (b0:ai) (r:Bool),ic.f m a0 b0=some r→∀h xs,aZ b5 h xs [.agg [.i a0.kind,.i a0.int,.str a0.label,ae.fz a0.args],.agg [.i b0.kind,.i b0.int,.str b0.label,ae.fz b0.args]]→cf 94 xs h=some (.bool r,h)
section
variable {cf:CallF}{m:Nat}
theorem uL {aX:FuncId→bX}(ha:aX 94=Hl)  (a0:ai)(b0:ai)(h:AHeap)(L:Mem)  (o:Has h (L)){out:Bool}(H:ic.f m a0 b0=some out) :
  ∃r h',ba Tryz.prog aX cf m 94 [.agg [.i a0.kind,.i a0.int,.str a0.label,ae.fz a0.args],.agg [.i b0.kind,.i b0.int,.str b0.label,ae.fz b0.args]] h=some (r,h')∧fG h' r (.bool out):=by
 refine ax (fn:=Tryz.f94) ha Tryz.func94 kr kr ?_
 refine aI (Q:=fun s=>ic.fin L out s) (fun _ _ h=>h) ?_
 have H:_=some out:=H
 unfold ic.f at H
 show dB _ cf Hl m _ ⟨.agg [.i a0.kind,.i a0.int,.str a0.label,ae.fz a0.args] :: .agg [.i b0.kind,.i b0.int,.str b0.label,ae.fz b0.args]::mU [],[none,none],h⟩ _
 refine q1 <| qq ?_
 rcases dZ H with⟨c0,H⟩| ⟨c0,H⟩
 ·rcases dZ H with⟨c1,H⟩| ⟨c1,H⟩
  ·rcases dZ H with⟨c2,H⟩| ⟨c2,H⟩
   ·exact qr [.b 5 c0,.b 12 c1,.b 19 c2] <| qt <| fB H
   ·exact qr [.b 5 c0,.b 12 c1,.b 19 c2] <| qt <| fB H
  ·exact qr [.b 5 c0,.b 12 c1] <| qt <| fB H
 ·exact qr [.b 5 c0] <| qt <| fB H
end
def Hm:bX:=gP [0,1,3] [] [4,3] [] []
def eD.f (m:Nat)(n0:Int)(x0:ab):Option (Bool):=(dO.f m x0 n0).bind fun x1=>some (!x1)
def eD.fin (L:Mem)(r:Bool)(s:St):Prop:=∃av,aM Tryz.prog (s.open Hm) Tryz.f95.results.toList=some av∧fG s.h av (.bool r)
def S95 (cf:CallF)(m:Nat):Prop:=∀(n0:Int) (x0:ab) (r:Bool),eD.f m n0 x0=some r→∀h xs,aZ b5 h xs [.i n0,.fp [.fp [.bool x0.aA,af.fz x0.aa,ae.fz x0.an] 0] 0]→cf 95 xs h=some (.bool r,h)
section
variable {cf:CallF}{m:Nat}
theorem nC {aX:FuncId→bX}(ha:aX 95=Hm)(Rx:XE cf m)(n0:Int)(x0:ab)(h:AHeap)(L:Mem)  (o:Has h (L)){out:Bool}(H:eD.f m n0 x0=some out) :
  ∃r h',ba Tryz.prog aX cf m 95 [.i n0,.fp [.fp [.bool x0.aA,af.fz x0.aa,ae.fz x0.an] 0] 0] h=some (r,h')∧fG h' r (.bool out):=by
 refine ax (fn:=Tryz.f95) ha Tryz.func95 kr kr ?_
 refine aI (Q:=fun s=>eD.fin L out s) (fun _ _ h=>h) ?_
 have H:_=some out:=H
 unfold eD.f at H
 show dB _ cf Hm m _ ⟨[.i n0,.fp [.fp [.bool x0.aA,af.fz x0.aa,ae.fz x0.an] 0] 0,.any],[],h⟩ _
 refine q1 <| qq ?_
 obtain⟨x1,e0,H⟩:=aQ H
 exact qr [.a 2 (Rx _ _ _ e0 h _ (km (ao (gT (pure_cons (dj) (pure_cons (bY.bz (E:=af) (l:=x0.aa)) (pure_cons (bY.bz (E:=ae) (l:=x0.an)) (pure_nil))))) (ao (bP) (aJ)))))] <| qt <| fB H
end
def DU:bX:=gP [0,1,2,3,4,5,7,8,9,10,11,12,14,24,53,54,55,56] [11,1000048] [262080,261696,253760,262079,261568,261574,260567,260567,258519,144855,13783,140759,144855,144855,261631,262079] [] [(8,[(12,none,1)])]
def bq.l0 (m:Nat)(x1:List Int)(x3:bm)(rec:Int→(List (Int × Int))→(List Int)→bm→bm→Option (Int × (List (Int × Int)) × bm))(v2:ai):Nat→(List Int)→Int→(List (Int × Int))→bm→Option ((List Int) × Int × (List (Int × Int)) × bm)
 | 0,_,_,_,_=>none
 | k+1,bH,x6,x7,x8=>if (decide (x6<(v2.args.length:Int)))=true then ((ix v2.args x6).bind fun v3=>(rec v3 x7 x1 x8 x3).bind fun x9=>(app 8 bH ([x9.1])).bind fun lX=>bq.l0 m x1 x3 rec v2 k lX (i64.wrap (x6+1)) x9.2.1 x9.2.2) else (some ((bH,x6,x7,x8)))
def bq.b (m:Nat)(rec:Int→(List (Int × Int))→(List Int)→bm→bm→Option (Int × (List (Int × Int)) × bm))(i0:Int)(x0:List (Int × Int))(x1:List Int)(x2:bm)(x3:bm):Option (Int × (List (Int × Int)) × bm):=(ix x1 i0).bind fun v0=>if ((Dz x0 v0).2)=true then (some ((Dz x0 v0).1,x0,x2)) else ((ix x1 i0).bind fun v1=>(ix x3.nodes i0).bind fun v2=>(app 56 x2.nodes [ai.mk v2.kind v2.int v2.label ([]:List Int)]).bind fun x5=>(bq.l0 m x1 x3 rec v2 m ([]:List Int) 0 (Ja x0 v1 (x2.nodes.length:Int)) (bm.mk x5 x2.root)).bind fun bI=>match bI with | (mH,xi,Jj,mI)=>(ix mI.nodes (x2.nodes.length:Int)).bind fun v4=>some ((x2.nodes.length:Int),Jj,(bm.mk (mI.nodes.set (x2.nodes.length:Int).toNat (ai.mk v4.kind v4.int v4.label mH)) mI.root)))
def bq.f (m:Nat):Nat→Int→(List (Int × Int))→(List Int)→bm→bm→Option (Int × (List (Int × Int)) × bm)
 | 0,_,_,_,_,_=>none
 | k+1,i0,x0,x1,x2,x3=>bq.b m (bq.f m k) i0 x0 x1 x2 x3
def bq.fin (L:Mem)(eW:Nat)(fm:Nat)(eX:Nat)(ez:Nat)(gd:Nat)(gH:List Nat)(fb:Nat)(eQ:Nat)(i0:Int)(x0:List (Int × Int))(x1:List Int)(x2:bm)(x3:bm)(r:Int × (List (Int × Int)) × bm)(s:St):Prop:=∃(pw:Nat) (ko:List Nat),aM Tryz.prog (s.open DU) Tryz.f97.results.toList=some (.i r.1)∧Has s.h ((eW,.ob [.mp fm])::(fm,.mp (ug r.2.1))::(eX,.ob [ae.fz x1])::(ez,.ob [.rs pw 0 r.2.2.nodes.length 4,.i r.2.2.root])::(pw,.sl r.2.2.nodes.length 4 (eM.l (bl r.2.2.nodes ko)))::(fb,.ob [af.fz x3.nodes,.i x3.root])::(eQ,.ob [.fn 97 [.ptr eW 0,.ptr eX 0,.ptr ez 0,.ptr fb 0,.ptr eQ 0]])::(fQ r.2.2.nodes ko++L))
def Wg (cf:CallF)(m:Nat)(kk:Nat):Prop:=∀(i0:Int) (x0:List (Int × Int)) (x1:List Int) (x2:bm) (x3:bm) (r:Int × (List (Int × Int)) × bm),bq.f m kk i0 x0 x1 x2 x3=some r→∀h L (eW:Nat) (fm:Nat) (eX:Nat) (ez:Nat) (gd:Nat) (gH:List Nat) (fb:Nat) (eQ:Nat),Has h ((eW,.ob [.mp fm])::(fm,.mp (ug x0))::(eX,.ob [ae.fz x1])::(ez,.ob [.rs gd 0 x2.nodes.length 4,.i x2.root])::(gd,.sl x2.nodes.length 4 (eM.l (bl x2.nodes gH)))::(fb,.ob [af.fz x3.nodes,.i x3.root])::(eQ,.ob [.fn 97 [.ptr eW 0,.ptr eX 0,.ptr ez 0,.ptr fb 0,.ptr eQ 0]])::(fQ x2.nodes gH++L))→∀xs,xs.map aP=[.i i0,.ptr eW 0,.ptr eX 0,.ptr ez 0,.ptr fb 0,.ptr eQ 0]→∃(pw:Nat) (ko:List Nat) (h':AHeap),cf 97 xs h=some (.i r.1,h')∧Has h' ((eW,.ob [.mp fm])::(fm,.mp (ug r.2.1))::(eX,.ob [ae.fz x1])::(ez,.ob [.rs pw 0 r.2.2.nodes.length 4,.i r.2.2.root])::(pw,.sl r.2.2.nodes.length 4 (eM.l (bl r.2.2.nodes ko)))::(fb,.ob [af.fz x3.nodes,.i x3.root])::(eQ,.ob [.fn 97 [.ptr eW 0,.ptr eX 0,.ptr ez 0,.ptr fb 0,.ptr eQ 0]])::(fQ r.2.2.nodes ko++L))
section
variable {cf:CallF}{m:Nat}
theorem bq.cF (L:Mem)(eW:Nat)(fm:Nat)(eX:Nat)(ez:Nat)(gd:Nat)(gH:List Nat)(fb:Nat)(eQ:Nat)(i0:Int)(x0:List (Int × Int))(x1:List Int)(x2:bm)(x3:bm)(v2:ai)  {kk:Nat}(Lx:Wg cf m kk)  : cd Tryz.prog cf DU m (sub [1,1,1,1,1,1,1,0,1,0,0] (bA Tryz.f97)) (fun k (σ:(List Int) × Int × (List (Int × Int)) × bm)=>bq.l0 m x1 x3 (bq.f m kk) v2 k σ.1 σ.2.1 σ.2.2.1 σ.2.2.2) (fun σ s=>match σ with | (bH,x6,x7,x8)=>∃dr cm yz h3,s=⟨mU (.ptr ez 0 :: .any :: .ptr eQ 0::mU [.i (x2.nodes.length:Int),.any,.rs dr 0 bH.length 1,.any,.any,ae.fz v2.args,.i (v2.args.length:Int),.i x6,.any]),[none,none],h3⟩∧Has h3 ((dr,.sl bH.length 1 (ae.l bH))::(cm,.sl x8.nodes.length 4 (eM.l (bl x8.nodes yz)))::(eW,.ob [.mp fm])::(fm,.mp (ug x7))::(eX,.ob [ae.fz x1])::(ez,.ob [.rs cm 0 x8.nodes.length 4,.i x8.root])::(fb,.ob [af.fz x3.nodes,.i x3.root])::(eQ,.ob [.fn 97 [.ptr eW 0,.ptr eX 0,.ptr ez 0,.ptr fb 0,.ptr eQ 0]])::(fQ x8.nodes yz++L))) (fun out e s=>(e = .exit 0∧∃bH x6 x7 x8,(bH,x6,x7,x8)=out∧∃DP Ly XI XJ XK dr cm yz h3,s=⟨mU (.ptr ez 0 :: .any::DP::mU [.i (x2.nodes.length:Int),.any,.rs dr 0 bH.length 1,.any,.any,Ly,XI,XJ,XK]),[none,none],h3⟩∧Has h3 ((dr,.sl bH.length 1 (ae.l bH))::(cm,.sl x8.nodes.length 4 (eM.l (bl x8.nodes yz)))::(eW,.ob [.mp fm])::(fm,.mp (ug x7))::(eX,.ob [ae.fz x1])::(ez,.ob [.rs cm 0 x8.nodes.length 4,.i x8.root])::(fb,.ob [af.fz x3.nodes,.i x3.root])::(eQ,.ob [.fn 97 [.ptr eW 0,.ptr eX 0,.ptr ez 0,.ptr fb 0,.ptr eQ 0]])::(fQ x8.nodes yz++L)))):=by
 refine jW (fun _=>rfl) ?_
 rintro k ⟨bH,x6,x7,x8⟩ s out ⟨dr,cm,yz,h3,rfl,o5⟩ H
 have H:bq.l0 m x1 x3 (bq.f m kk) v2 (k+1) bH x6 x7 x8=some out:=H
 refine q1 <| qq <| qc H (fun c1 H=>?_) (fun c1 H=>?_)
 ·refine qk <| qq <| qb 1 <| qq ?_
  obtain⟨v3,e7,H⟩:=aQ H
  refine qr [.v 0 (bW (k:=.i64) (E:=ae) (l:=v2.args) de e7),.v 1 (dk  (E:=ae) (l:=v2.args) h3 A3 e7 rfl)] ?_
  obtain⟨x9,e8,H⟩:=aQ H
  obtain⟨cE,FK,h4,e9,o6⟩:=Lx _ _ _ _ _ _ e8 h3 _ _ _ _ _ _ yz _ _ ((Has.DM (pre:=[(eW,.ob [.mp fm]),(fm,.mp (ug x7)),(eX,.ob [ae.fz x1]),(ez,.ob [.rs cm 0 x8.nodes.length 4,.i x8.root]),(cm,.sl x8.nodes.length 4 (eM.l (bl x8.nodes yz))),(fb,.ob [af.fz x3.nodes,.i x3.root]),(eQ,.ob [.fn 97 [.ptr eW 0,.ptr eX 0,.ptr ez 0,.ptr fb 0,.ptr eQ 0]])]) (mid:=[(dr,.sl bH.length 1 (ae.l bH))]) (bN (bN (bN (bN (bN (bN (bN (bN o5 0) 7) 7) 3) 7) 7) 7) 7)))  [.i v3,.ptr eW 0,.ptr eX 0,.ptr ez 0,.ptr fb 0,.ptr eQ 0] cq
  have o7:=Has.DM (pre:=[(eW,.ob [.mp fm]),(fm,.mp (ug x9.2.1)),(eX,.ob [ae.fz x1]),(ez,.ob [.rs cE 0 x9.2.2.nodes.length 4,.i x9.2.2.root]),(cE,.sl x9.2.2.nodes.length 4 (eM.l (bl x9.2.2.nodes FK))),(fb,.ob [af.fz x3.nodes,.i x3.root]),(eQ,.ob [.fn 97 [.ptr eW 0,.ptr eX 0,.ptr ez 0,.ptr fb 0,.ptr eQ 0]])]) (N:=[(dr,.sl bH.length 1 (ae.l bH))]) (mid:=fQ x9.2.2.nodes FK) o6
  obtain⟨lX,nW,H⟩:=aQ H
  obtain⟨dT,h5,rG,o8⟩:=dY (P:=Tryz.prog) (E:=ae) (l:=bH) (q:=7) (t2:=22) (x:=.fz [.i x9.1] 1 true) (l2:=([x9.1])) de o7 rfl kr rfl nW
  exact qr [.v 1 (show bB Tryz.prog h3 94 (.ptr eQ 0)=some (.fn 97 [.ptr eW 0,.ptr eX 0,.ptr ez 0,.ptr fb 0,.ptr eQ 0]) from b7 (q:=7) (cs:=[.fn 97 [.ptr eW 0,.ptr eX 0,.ptr ez 0,.ptr fb 0,.ptr eQ 0]]) o5 rfl kr),.a 3 e9,.a 5 rG] <| q0 <| ⟨(lX,i64.wrap (x6+1),x9.2.1,x9.2.2),⟨dT,cE,FK,h5,kr,(bN (bN (bN (bN (bN (bN (bN (bN o8 6) 6) 5) 5) 5) 5) 6) 7)⟩,H⟩
 ·exact qx 0 <| ⟨rfl,bH,x6,x7,x8,oi H,.ptr eQ 0,ae.fz v2.args,.i (v2.args.length:Int),.i x6,.bool (decide (x6<(v2.args.length:Int))),dr,cm,yz,h3,kr,o5⟩
theorem tE {aX:FuncId→bX}(ha:aX 97=DU)  (i0:Int)(x0:List (Int × Int))(x1:List Int)(x2:bm)(x3:bm)(h:AHeap)(L:Mem)(eW:Nat)(fm:Nat)(eX:Nat)(ez:Nat)(gd:Nat)(gH:List Nat)(fb:Nat)(eQ:Nat)  {kk:Nat}(Lx:Wg cf m kk)(o:Has h ((eW,.ob [.mp fm])::(fm,.mp (ug x0))::(eX,.ob [ae.fz x1])::(ez,.ob [.rs gd 0 x2.nodes.length 4,.i x2.root])::(gd,.sl x2.nodes.length 4 (eM.l (bl x2.nodes gH)))::(fb,.ob [af.fz x3.nodes,.i x3.root])::(eQ,.ob [.fn 97 [.ptr eW 0,.ptr eX 0,.ptr ez 0,.ptr fb 0,.ptr eQ 0]])::(fQ x2.nodes gH++L))){out:Int × (List (Int × Int)) × bm}(H:bq.f m (kk+1) i0 x0 x1 x2 x3=some out) :
  ∃r h',ba Tryz.prog aX cf m 97 [.i i0,.ptr eW 0,.ptr eX 0,.ptr ez 0,.ptr fb 0,.ptr eQ 0] h=some (r,h')∧∃(pw:Nat) (ko:List Nat),r = .i out.1∧Has h' ((eW,.ob [.mp fm])::(fm,.mp (ug out.2.1))::(eX,.ob [ae.fz x1])::(ez,.ob [.rs pw 0 out.2.2.nodes.length 4,.i out.2.2.root])::(pw,.sl out.2.2.nodes.length 4 (eM.l (bl out.2.2.nodes ko)))::(fb,.ob [af.fz x3.nodes,.i x3.root])::(eQ,.ob [.fn 97 [.ptr eW 0,.ptr eX 0,.ptr ez 0,.ptr fb 0,.ptr eQ 0]])::(fQ out.2.2.nodes ko++L)):=by
 refine ax (fn:=Tryz.f97) ha Tryz.func97 kr kr ?_
 refine aI (Q:=fun s=>bq.fin L eW fm eX ez gd gH fb eQ i0 x0 x1 x2 x3 out s) (fun _ _ ⟨h1,pw,ko,h2,h3⟩=>⟨h1,_,h2,pw,ko,rfl,h3⟩) ?_
 have H:bq.b m (bq.f m kk) i0 x0 x1 x2 x3=some out:=H
 unfold bq.b at H
 show dB _ cf DU m _ ⟨.i i0 :: .ptr eW 0 :: .ptr eX 0 :: .ptr ez 0 :: .ptr fb 0 :: .ptr eQ 0::BI [],[none,none],h⟩ _
 refine q1 <| qq <| qq ?_
 obtain⟨v0,e0,H⟩:=aQ H
 refine qr [.v 0 (show bB Tryz.prog h 84 (.ptr eW 0)=some (.mp fm) from b7 (q:=0) (cs:=[.mp fm]) o rfl kr),.v 1 (show bB Tryz.prog h 22 (.ptr eX 0)=some (ae.fz x1) from b7 (q:=2) (cs:=[ae.fz x1]) o rfl kr),.v 3 (bW (k:=.i64) (E:=ae) (l:=x1) de e0),.v 4 (dk  (E:=ae) (l:=x1) h A3 e0 rfl),.v 5 (show iR Tryz.prog h 84 (.mp fm) (.i v0) true=some (.tup [.i ((Dz x0 v0).1),.bool ((Dz x0 v0).2)]) from (Xi (q:=1) (l:=x0) (k:=v0) Uy o rfl).1)] <| qq <| q0 <| qc H (fun c0 H=>?_) (fun c0 H=>?_)
 ·obtain rfl:=oi H
  exact q1 <| qt <| ⟨.inl rfl,⟨gd,gH,kr,he o⟩⟩
 ·refine qk <| qq <| qr [.v 1 (show bB Tryz.prog h 23 (.ptr ez 0)=some (.rs gd 0 x2.nodes.length 4) from b7 (q:=3) (cs:=[.rs gd 0 x2.nodes.length 4,.i x2.root]) o rfl kr)] <| qq ?_
  obtain⟨v1,e1,H⟩:=aQ H
  obtain⟨h0,e2,o0⟩:=Xj (q:=1) (l:=x0) (k:=v1) (v:=(x2.nodes.length:Int)) Uy o rfl
  refine qr [.v 0 (show bB Tryz.prog h 84 (.ptr eW 0)=some (.mp fm) from b7 (q:=0) (cs:=[.mp fm]) o rfl kr),.v 1 (show bB Tryz.prog h 22 (.ptr eX 0)=some (ae.fz x1) from b7 (q:=2) (cs:=[ae.fz x1]) o rfl kr),.v 3 (bW (k:=.i64) (E:=ae) (l:=x1) de e1),.v 4 (dk  (E:=ae) (l:=x1) h A3 e1 rfl),.w 6 e2] <| qq ?_
  obtain⟨v2,e3,H⟩:=aQ H
  refine qr [.v 1 (show bB Tryz.prog h0 23 (.ptr fb 0)=some (af.fz x3.nodes) from b7 (q:=5) (cs:=[af.fz x3.nodes,.i x3.root]) o0 rfl kr),.v 3 (bW (k:=.i64) (E:=af) (l:=x3.nodes) lF e3),.v 4 (gf  (E:=af) (l:=x3.nodes) h0 sM sN e3)] <| qq ?_
  have o1:Has h0 (((0),.sl (([]:List Int).length) 1 (ae.l ([]:List Int)))::(eW,.ob [.mp fm])::(fm,.mp (ug (Ja x0 v1 (x2.nodes.length:Int))))::(eX,.ob [ae.fz x1])::(ez,.ob [.rs gd 0 x2.nodes.length 4,.i x2.root])::(gd,.sl x2.nodes.length 4 (eM.l (bl x2.nodes gH)))::(fb,.ob [af.fz x3.nodes,.i x3.root])::(eQ,.ob [.fn 97 [.ptr eW 0,.ptr eX 0,.ptr ez 0,.ptr fb 0,.ptr eQ 0]])::(fQ x2.nodes gH++L)):=Has.nil o0 1
  obtain⟨x5,e4,H⟩:=aQ H
  obtain⟨aV,eU,h1,e5,o2⟩:=Lb (P:=Tryz.prog) (t2:=23) (pre:=[(eW,.ob [.mp fm]),(fm,.mp (ug (Ja x0 v1 (x2.nodes.length:Int)))),(eX,.ob [ae.fz x1]),(ez,.ob [.rs gd 0 x2.nodes.length 4,.i x2.root]),(fb,.ob [af.fz x3.nodes,.i x3.root]),(eQ,.ob [.fn 97 [.ptr eW 0,.ptr eX 0,.ptr ez 0,.ptr fb 0,.ptr eQ 0]])]) (ns:=x2.nodes) (ids:=gH) (kind:=v2.kind) (int:=v2.int) (label:=v2.label) (args:=([]:List Int)) (x:=.fz [.i v2.kind,.i v2.int,.str v2.label,.rs (0) 0 (([]:List Int).length) 1] 1 true) lF (bN (bN (bN (bN (bN (bN (bN (bN o1 7) 7) 6) 6) 6) 6) 6) 7) kr rfl e4
  obtain⟨h2,e6,o3⟩:=kb (P:=Tryz.prog) (t:=23) (off:=0) (q:=4) (cs:=[.rs gd 0 x2.nodes.length 4,.i x2.root]) (gF:=[.rs aV 0 x5.length 4,.i x2.root]) (x:=.rs aV 0 x5.length 4) o2 rfl kr
  refine qr [.v 1 (show bB Tryz.prog h0 23 (.ptr ez 0)=some (.rs gd 0 x2.nodes.length 4) from b7 (q:=3) (cs:=[.rs gd 0 x2.nodes.length 4,.i x2.root]) o0 rfl kr),.a 10 e5,.w 12 e6] <| qq <| q0 ?_
  have o4:Has h2 ((((0)),.sl (([]:List Int).length) 1 (ae.l ([]:List Int)))::(aV,.sl x5.length 4 (eM.l (bl x5 eU)))::(eW,.ob [.mp fm])::(fm,.mp (ug (Ja x0 v1 (x2.nodes.length:Int))))::(eX,.ob [ae.fz x1])::(ez,.ob [.rs aV 0 x5.length 4,.i x2.root])::(fb,.ob [af.fz x3.nodes,.i x3.root])::(eQ,.ob [.fn 97 [.ptr eW 0,.ptr eX 0,.ptr ez 0,.ptr fb 0,.ptr eQ 0]])::(fQ x5 eU++L)):=Has.nil o3 1
  refine qq <| qq <| q0 <| qb 0 ?_
  obtain⟨bI,sy,H⟩:=aQ H
  refine ql (bq.cF L eW fm eX ez gd gH fb eQ i0 x0 x1 x2 x3 v2  Lx  (([]:List Int),0,Ja x0 v1 (x2.nodes.length:Int),(bm.mk x5 x2.root)) _ _ ⟨((0)),aV,eU,h2,kr,o4⟩ sy) ?_
  rintro e s ⟨rfl,mH,xi,Jj,mI,rfl,g0,g1,g2,g3,g4,ir,iy,yA,h6,rfl,o9⟩
  try dsimp only at H
  refine qq ?_
  obtain⟨v4,rZ,H⟩:=aQ H
  obtain⟨h7,wG,sO⟩:=OE (P:=Tryz.prog) (tf:=22) (pre:=[(eW,.ob [.mp fm]),(fm,.mp (ug Jj)),(eX,.ob [ae.fz x1]),(ez,.ob [.rs iy 0 mI.nodes.length 4,.i mI.root]),(fb,.ob [af.fz x3.nodes,.i x3.root]),(eQ,.ob [.fn 97 [.ptr eW 0,.ptr eX 0,.ptr ez 0,.ptr fb 0,.ptr eQ 0]])]) (args:=mH) (bN (bN (bN (bN (bN (bN (bN (bN o9 7) 7) 7) 7) 7) 7) 6) 7) Z22 rZ
  obtain rfl:=oi H
  exact qr [.v 1 (show bB Tryz.prog h6 23 (.ptr ez 0)=some (.rs iy 0 mI.nodes.length 4) from b7 (q:=5) (cs:=[.rs iy 0 mI.nodes.length 4,.i mI.root]) o9 rfl kr),.v 4 (aL (k:=.i64) (E:=eM) (l:=(bl mI.nodes yA)) (q:=1) lF o9 rfl (kn rZ)),.w 6 wG] <| qq <| q0 <| qt <| ⟨.inl rfl,⟨iy,(FI mI.nodes yA (x2.nodes.length:Int) ir),kr,he (rz (bN (bN (bN (bN (bN (bN (bN sO 6) 6) 2) 6) 6) 6) 6))⟩⟩
end
def DV:bX:=gP [0,1,4,5,7,8,9,16] [] [252,204,140,196,68,251,204,251] [] []
def dU.l0 (m:Nat)(s0:List Int)(f0:Int→Option (Bool)):Nat→Int→Option (Sum Int (Int))
 | 0,_=>none
 | k+1,x0=>if (decide (x0<(s0.length:Int)))=true then ((ix s0 x0).bind fun v0=>(f0 v0).bind fun r0=>if r0=true then (some (.inl x0)) else (dU.l0 m s0 f0 k (i64.wrap (x0+1)))) else (some (.inr x0))
def dU.f (m:Nat)(s0:List Int)(f0:Int→Option (Bool)):Option (Int):=(dU.l0 m s0 f0 m 0).bind fun bI=>match bI with | .inl r1=>some r1 | .inr x1=>some (-1:Int)
def dU.fin (L:Mem)(r:Int)(s:St):Prop:=∃av,aM Tryz.prog (s.open DV) Tryz.f98.results.toList=some av∧fG s.h av (.i r)
def XL (cf:CallF)(m:Nat):Prop:=∀(s0:List Int) (f0:Int→Option (Bool)) (r:Int),dU.f m s0 f0=some r→∀(gQ:FuncId) (bc:List AV),(∀(h:AHeap) (xs:List AV) (a0:Int) r,f0 a0=some r→aZ b5 h xs ([.i a0]++bc)→cf gQ xs h=some (.bool r,h))→(∀h,aZ dK h bc bc)→∀h xs,aZ b5 h xs [ae.fz s0,.fn gQ bc]→cf 98 xs h=some (.i r,h)
section
variable {cf:CallF}{m:Nat}
theorem dU.cF (L:Mem)(gQ:FuncId)(bc:List AV)(s0:List Int)(f0:Int→Option (Bool))  (jQ:∀(h:AHeap) (xs:List AV) (a0:Int) r,f0 a0=some r→aZ b5 h xs ([.i a0]++bc)→cf gQ xs h=some (.bool r,h))(jR:∀h,aZ dK h bc bc)  : cd Tryz.prog cf DV m (sub [1,0,1,0,0] (bA Tryz.f98)) (fun k (σ:Int)=>dU.l0 m s0 f0 k σ) (fun σ s=>match σ with | x0=>∃h0,s=⟨[ae.fz s0,.fn gQ bc,.any,.any,.i (s0.length:Int),.i x0,.any,.any],[],h0⟩∧Has h0 (L)) (fun out e s=>(e = .exit 0∧∃x0,.inr x0=out∧∃nA wC DN yx wE h0,s=⟨[nA,wC,.any,.any,DN,yx,wE,.any],[],h0⟩∧Has h0 (L))∨(e = .ret∧∃r,.inl r=out∧dU.fin L r s)):=by
 refine jW (fun _=>rfl) ?_
 rintro k x0 s out ⟨h0,rfl,o0⟩ H
 have H:dU.l0 m s0 f0 (k+1) x0=some out:=H
 refine q1 <| qq <| qc H (fun c0 H=>?_) (fun c0 H=>?_)
 ·refine qk <| qq <| qb 1 <| qq <| q0 <| qq ?_
  obtain⟨v0,e0,H⟩:=aQ H
  obtain⟨r0,e1,H⟩:=aQ H
  refine qr [.v 3 (bW (k:=.i64) (E:=ae) (l:=s0) de e0),.v 4 (dk  (E:=ae) (l:=s0) h0 A3 e0 rfl),.a 5 (jQ _ _ _ _ e1 (PQ (ao (bP) (aJ)) (jR h0)))] <| qc H (fun c1 H=>?_) (fun c1 H=>?_)
  ·exact q1 <| qt <| agv (⟨rfl,_,oi H,yo (.i x0) h0 (vP (jC))⟩)
  ·exact qk <| q0 <| ⟨i64.wrap (x0+1),⟨h0,kr,o0⟩,H⟩
 ·exact qx 0 <| Or.inl (⟨rfl,x0,oi H,ae.fz s0,.fn gQ bc,.i (s0.length:Int),.i x0,.bool (decide (x0<(s0.length:Int))),h0,kr,o0⟩)
theorem BQ {aX:FuncId→bX}(ha:aX 98=DV)  (s0:List Int)(f0:Int→Option (Bool))(h:AHeap)(L:Mem)(gQ:FuncId)(bc:List AV)  (jQ:∀(h:AHeap) (xs:List AV) (a0:Int) r,f0 a0=some r→aZ b5 h xs ([.i a0]++bc)→cf gQ xs h=some (.bool r,h))(jR:∀h,aZ dK h bc bc)(o:Has h (L)){out:Int}(H:dU.f m s0 f0=some out) :
  ∃r h',ba Tryz.prog aX cf m 98 [ae.fz s0,.fn gQ bc] h=some (r,h')∧fG h' r (.i out):=by
 refine ax (fn:=Tryz.f98) ha Tryz.func98 kr kr ?_
 refine aI (Q:=fun s=>dU.fin L out s) (fun _ _ h=>h) ?_
 have H:_=some out:=H
 unfold dU.f at H
 show dB _ cf DV m _ ⟨ae.fz s0 :: .fn gQ bc::yh [],[],h⟩ _
 refine q1 <| qq <| qq <| q0 <| qb 0 ?_
 obtain⟨bI,e2,H⟩:=aQ H
 refine ql (dU.cF L gQ bc s0 f0  jQ jR  0 _ _ ⟨h,kr,o⟩ e2) ?_
 rintro e s (⟨rfl,x1,rfl,g0,g1,g2,g3,g4,h1,rfl,o1⟩| ⟨rfl,r1,rfl,sw⟩)
 ·try dsimp only at H
  exact q1 <| qt <| fI H
 ·try dsimp only at H
  obtain rfl:=oi H
  exact⟨.inl rfl,sw⟩
end
def BR:bX:=gP [0,1,2,3,4] [2,3] [19,15] [] []
def ie.f (m:Nat)(a0:ai)(b0:ai):Option (Bool):=if (!(a0.kind==b0.kind))=true then (some true) else (if (!(a0.int==b0.int))=true then (some true) else (if (!(a0.label.data.toList==b0.label.data.toList))=true then (some true) else (some (!((a0.args.length:Int)==(b0.args.length:Int))))))
def ie.fin (L:Mem)(r:Bool)(s:St):Prop:=∃av,aM Tryz.prog (s.open BR) Tryz.f105.results.toList=some av∧fG s.h av (.bool r)
def Ry (cf:CallF)(m:Nat):Prop:=∀(a0:ai) (b0:ai) (r:Bool),ie.f m a0 b0=some r→∀h xs,aZ b5 h xs [.agg [.i a0.kind,.i a0.int,.str a0.label,ae.fz a0.args],.agg [.i b0.kind,.i b0.int,.str b0.label,ae.fz b0.args]]→cf 105 xs h=some (.bool r,h)
section
variable {cf:CallF}{m:Nat}
theorem tF {aX:FuncId→bX}(ha:aX 105=BR)  (a0:ai)(b0:ai)(h:AHeap)(L:Mem)  (o:Has h (L)){out:Bool}(H:ie.f m a0 b0=some out) :
  ∃r h',ba Tryz.prog aX cf m 105 [.agg [.i a0.kind,.i a0.int,.str a0.label,ae.fz a0.args],.agg [.i b0.kind,.i b0.int,.str b0.label,ae.fz b0.args]] h=some (r,h')∧fG h' r (.bool out):=by
 refine ax (fn:=Tryz.f105) ha Tryz.func105 kr kr ?_
 refine aI (Q:=fun s=>ie.fin L out s) (fun _ _ h=>h) ?_
 have H:_=some out:=H
 unfold ie.f at H
 show dB _ cf BR m _ ⟨.agg [.i a0.kind,.i a0.int,.str a0.label,ae.fz a0.args] :: .agg [.i b0.kind,.i b0.int,.str b0.label,ae.fz b0.args]::mU [],[none,none],h⟩ _
 refine q1 <| qq ?_
 rcases dZ H with⟨c0,H⟩| ⟨c0,H⟩
 ·exact qr [.b 5 c0] <| qt <| fB H
 ·rcases dZ H with⟨c1,H⟩| ⟨c1,H⟩
  ·exact qr [.b 5 c0,.b 12 c1] <| qt <| fB H
  ·rcases dZ H with⟨c2,H⟩| ⟨c2,H⟩
   ·exact qr [.b 5 c0,.b 12 c1,.b 19 c2] <| qt <| fB H
   ·exact qr [.b 5 c0,.b 12 c1,.b 19 c2] <| qt <| fB H
end
def BS:bX:=gP [0,1,2,6,13,16,21] [] [120,104,88,120,56,120,125,119] [] []
def dF.f (m:Nat)(s0:ab)(a0:Int)(b0:Int):Option (Int × ab):=jn (fun (σ:Int × Int)=>match σ with | (a1,b1)=>(ix s0.an a1).bind fun v0=>some (a1,(ab.mk s0.aA s0.aa (s0.an.set a1.toNat b1)))) fun oU=>((dc.f m s0 a0).bind fun x0=>(dc.f m s0 b0).bind fun x1=>if (!(x0==x1))=true then ((dc.f m s0 b0).bind fun x2=>if x2=true then (oU (b0,a0)) else (oU (a0,b0))) else (if (decide (a0<b0))=true then (oU (b0,a0)) else (oU (a0,b0))))
def dF.fin (L:Mem)(aq:Nat)(ak:Nat)(az:Nat)(s0:ab)(a0:Int)(b0:Int)(r:Int × ab)(s:St):Prop:=∃aB aC:Nat,aM Tryz.prog (s.open BS) Tryz.f106.results.toList=some (.i r.1)∧Has s.h ((aq,.ob [.bool r.2.aA,.rs aB 0 r.2.aa.length 4,.rs aC 0 r.2.an.length 1])::(aB,.sl r.2.aa.length 4 (af.l r.2.aa))::(aC,.sl r.2.an.length 1 (ae.l r.2.an))::L)
def Rz (cf:CallF)(m:Nat):Prop:=∀(s0:ab) (a0:Int) (b0:Int) (r:Int × ab),dF.f m s0 a0 b0=some r→∀h L (aq:Nat) (ak:Nat) (az:Nat),Has h ((aq,.ob [.bool s0.aA,.rs ak 0 s0.aa.length 4,.rs az 0 s0.an.length 1])::(ak,.sl s0.aa.length 4 (af.l s0.aa))::(az,.sl s0.an.length 1 (ae.l s0.an))::L)→∀xs,xs.map aP=[.ptr aq 0,.i a0,.i b0]→∃aB aC h',cf 106 xs h=some (.i r.1,h')∧Has h' ((aq,.ob [.bool r.2.aA,.rs aB 0 r.2.aa.length 4,.rs aC 0 r.2.an.length 1])::(aB,.sl r.2.aa.length 4 (af.l r.2.aa))::(aC,.sl r.2.an.length 1 (ae.l r.2.an))::L)
section
variable {cf:CallF}{m:Nat}
theorem pI {aX:FuncId→bX}(ha:aX 106=BS)(Lz:XB cf m)(s0:ab)(a0:Int)(b0:Int)(h:AHeap)(L:Mem)(aq:Nat)(ak:Nat)(az:Nat)  (o:Has h ((aq,.ob [.bool s0.aA,.rs ak 0 s0.aa.length 4,.rs az 0 s0.an.length 1])::(ak,.sl s0.aa.length 4 (af.l s0.aa))::(az,.sl s0.an.length 1 (ae.l s0.an))::L)){out:Int × ab}(H:dF.f m s0 a0 b0=some out) :
  ∃r h',ba Tryz.prog aX cf m 106 [.ptr aq 0,.i a0,.i b0] h=some (r,h')∧∃aB aC:Nat,r = .i out.1∧Has h' ((aq,.ob [.bool out.2.aA,.rs aB 0 out.2.aa.length 4,.rs aC 0 out.2.an.length 1])::(aB,.sl out.2.aa.length 4 (af.l out.2.aa))::(aC,.sl out.2.an.length 1 (ae.l out.2.an))::L):=by
 refine ax (fn:=Tryz.f106) ha Tryz.func106 kr kr ?_
 refine aI (Q:=fun s=>dF.fin L aq ak az s0 a0 b0 out s) (fun _ _ ⟨h1,aB,aC,h2,h3⟩=>⟨h1,_,h2,aB,aC,rfl,h3⟩) ?_
 have H:_=some out:=H
 unfold dF.f at H
 show dB _ cf BS m _ ⟨.ptr aq 0 :: .i a0 :: .i b0::lW [],[],h⟩ _
 refine q1 ?_
 obtain⟨oU,As,H⟩:=kX H
 refine qj (S:=fun (σ:Int × Int) s=>match σ with | (a1,b1)=>∃(g0:AV) (g1:AV) (h0:AHeap),s=⟨[.ptr aq 0,.i a1,.i b1,.any,.any,g0,g1],[],h0⟩∧Has h0 ((aq,.ob [.bool s0.aA,.rs ak 0 s0.aa.length 4,.rs az 0 s0.an.length 1])::(ak,.sl s0.aa.length 4 (af.l s0.aa))::(az,.sl s0.an.length 1 (ae.l s0.an))::L)) oU H ?_ ?_
 ·rintro⟨a1,b1⟩ s ⟨g0,g1,h0,rfl,o0⟩ H
  have H:=(As _).symm.trans H
  try dsimp only at H
  refine qq ?_
  obtain⟨v0,e3,H⟩:=aQ H
  obtain⟨h1,e4,o1⟩:=dJ (P:=Tryz.prog) (tf:=3) (E:=ae) (l:=s0.an) (q:=2) (v:=b1) (x:=.i b1) o0 rfl Z3 e3 rfl rfl
  obtain rfl:=oi H
  exact qr [.v 3 (show bB Tryz.prog h0 22 (.ptr aq 2)=some (.rs az 0 s0.an.length 1) from b7 (q:=0) (cs:=[.bool s0.aA,.rs ak 0 s0.aa.length 4,.rs az 0 s0.an.length 1]) o0 rfl kr),.v 6 (aL (k:=.i64) (E:=ae) (l:=s0.an) (q:=2) de o0 rfl e3),.w 7 e4] <| qq <| q0 <| qt <| ⟨.inl rfl,⟨ak,az,kr,he (rz o1)⟩⟩
 clear As
 intro mW
 refine qq ?_
 obtain⟨x0,e0,H⟩:=aQ H
 obtain⟨x1,e1,H⟩:=aQ H
 refine qr [.a 2 (Lz _ _ _ e0 h _ (km (ao (da (q:=0) o rfl (ao (dD) (ao (b4 (E:=af) (l:=s0.aa) (q:=1) o rfl (fun _=>rfl)) (ao (b4 (E:=ae) (l:=s0.an) (q:=2) o rfl (fun _=>rfl)) (aJ))))) (ao (bP) (aJ))))),.a 5 (Lz _ _ _ e1 h _ (km (ao (da (q:=0) o rfl (ao (dD) (ao (b4 (E:=af) (l:=s0.aa) (q:=1) o rfl (fun _=>rfl)) (ao (b4 (E:=ae) (l:=s0.an) (q:=2) o rfl (fun _=>rfl)) (aJ))))) (ao (bP) (aJ)))))] <| qc H (fun c0 H=>?_) (fun c0 H=>?_)
 ·refine qq ?_
  obtain⟨x2,e2,H⟩:=aQ H
  refine qr [.a 2 (Lz _ _ _ e2 h _ (km (ao (da (q:=0) o rfl (ao (dD) (ao (b4 (E:=af) (l:=s0.aa) (q:=1) o rfl (fun _=>rfl)) (ao (b4 (E:=ae) (l:=s0.an) (q:=2) o rfl (fun _=>rfl)) (aJ))))) (ao (bP) (aJ)))))] <| qc H (fun c1 H=>?_) (fun c1 H=>?_)
  ·exact q0 <| mW (b0,a0) _ ⟨.any,.any,h,kr,o⟩ H
  ·exact qk <| mW (a0,b0) _ ⟨.bool x2,.any,h,kr,o⟩ H
 ·refine q1 <| qc H (fun c2 H=>?_) (fun c2 H=>?_)
  ·exact q0 <| mW (b0,a0) _ ⟨.any,.any,h,kr,o⟩ H
  ·exact qk <| mW (a0,b0) _ ⟨.any,.bool (decide (a0<b0)),h,kr,o⟩ H
end
def BT:bX:=gP [0,1,3] [] [4,3] [] []
def eF.f (m:Nat)(n0:Int)(x0:ab):Option (Bool):=(dc.f m x0 n0).bind fun x1=>some (!x1)
def eF.fin (L:Mem)(r:Bool)(s:St):Prop:=∃av,aM Tryz.prog (s.open BT) Tryz.f107.results.toList=some av∧fG s.h av (.bool r)
def UC (cf:CallF)(m:Nat):Prop:=∀(n0:Int) (x0:ab) (r:Bool),eF.f m n0 x0=some r→∀h xs,aZ b5 h xs [.i n0,.fp [.fp [.bool x0.aA,af.fz x0.aa,ae.fz x0.an] 0] 0]→cf 107 xs h=some (.bool r,h)
section
variable {cf:CallF}{m:Nat}
theorem nD {aX:FuncId→bX}(ha:aX 107=BT)(Lz:XB cf m)(n0:Int)(x0:ab)(h:AHeap)(L:Mem)  (o:Has h (L)){out:Bool}(H:eF.f m n0 x0=some out) :
  ∃r h',ba Tryz.prog aX cf m 107 [.i n0,.fp [.fp [.bool x0.aA,af.fz x0.aa,ae.fz x0.an] 0] 0] h=some (r,h')∧fG h' r (.bool out):=by
 refine ax (fn:=Tryz.f107) ha Tryz.func107 kr kr ?_
 refine aI (Q:=fun s=>eF.fin L out s) (fun _ _ h=>h) ?_
 have H:_=some out:=H
 unfold eF.f at H
 show dB _ cf BT m _ ⟨[.i n0,.fp [.fp [.bool x0.aA,af.fz x0.aa,ae.fz x0.an] 0] 0,.any],[],h⟩ _
 refine q1 <| qq ?_
 obtain⟨x1,e0,H⟩:=aQ H
 exact qr [.a 2 (Lz _ _ _ e0 h _ (km (ao (gT (pure_cons (dj) (pure_cons (bY.bz (E:=af) (l:=x0.aa)) (pure_cons (bY.bz (E:=ae) (l:=x0.an)) (pure_nil))))) (ao (bP) (aJ)))))] <| qt <| fB H
end
def yB:bX:=gP [0,1,4,5,7,8,9,16] [] [252,204,140,196,68,251,204,251] [] []
def gY.l0 (m:Nat)(s0:List ai)(f0:ai→Option (Bool)):Nat→Int→Option (Sum Int (Int))
 | 0,_=>none
 | k+1,x0=>if (decide (x0<(s0.length:Int)))=true then ((ix s0 x0).bind fun v0=>(f0 v0).bind fun r0=>if r0=true then (some (.inl x0)) else (gY.l0 m s0 f0 k (i64.wrap (x0+1)))) else (some (.inr x0))
def gY.f (m:Nat)(s0:List ai)(f0:ai→Option (Bool)):Option (Int):=(gY.l0 m s0 f0 m 0).bind fun bI=>match bI with | .inl r1=>some r1 | .inr x1=>some (-1:Int)
def gY.fin (L:Mem)(r:Int)(s:St):Prop:=∃av,aM Tryz.prog (s.open yB) Tryz.f109.results.toList=some av∧fG s.h av (.i r)
def UD (cf:CallF)(m:Nat):Prop:=∀(s0:List ai) (f0:ai→Option (Bool)) (r:Int),gY.f m s0 f0=some r→∀(gQ:FuncId) (bc:List AV),(∀(h:AHeap) (xs:List AV) (a0:ai) r,f0 a0=some r→aZ b5 h xs ([.agg [.i a0.kind,.i a0.int,.str a0.label,ae.fz a0.args]]++bc)→cf gQ xs h=some (.bool r,h))→(∀h,aZ dK h bc bc)→∀h xs,aZ b5 h xs [af.fz s0,.fn gQ bc]→cf 109 xs h=some (.i r,h)
section
variable {cf:CallF}{m:Nat}
theorem gY.cF (L:Mem)(gQ:FuncId)(bc:List AV)(s0:List ai)(f0:ai→Option (Bool))  (jQ:∀(h:AHeap) (xs:List AV) (a0:ai) r,f0 a0=some r→aZ b5 h xs ([.agg [.i a0.kind,.i a0.int,.str a0.label,ae.fz a0.args]]++bc)→cf gQ xs h=some (.bool r,h))(jR:∀h,aZ dK h bc bc)  : cd Tryz.prog cf yB m (sub [1,0,1,0,0] (bA Tryz.f109)) (fun k (σ:Int)=>gY.l0 m s0 f0 k σ) (fun σ s=>match σ with | x0=>∃h0,s=⟨[af.fz s0,.fn gQ bc,.any,.any,.i (s0.length:Int),.i x0,.any,.any],[],h0⟩∧Has h0 (L)) (fun out e s=>(e = .exit 0∧∃x0,.inr x0=out∧∃nA wC DN yx wE h0,s=⟨[nA,wC,.any,.any,DN,yx,wE,.any],[],h0⟩∧Has h0 (L))∨(e = .ret∧∃r,.inl r=out∧gY.fin L r s)):=by
 refine jW (fun _=>rfl) ?_
 rintro k x0 s out ⟨h0,rfl,o0⟩ H
 have H:gY.l0 m s0 f0 (k+1) x0=some out:=H
 refine q1 <| qq <| qc H (fun c0 H=>?_) (fun c0 H=>?_)
 ·refine qk <| qq <| qb 1 <| qq <| q0 <| qq ?_
  obtain⟨v0,e0,H⟩:=aQ H
  obtain⟨r0,e1,H⟩:=aQ H
  refine qr [.v 3 (bW (k:=.i64) (E:=af) (l:=s0) lF e0),.v 4 (gf  (E:=af) (l:=s0) h0 sM sN e0),.a 5 (jQ _ _ _ _ e1 (PQ (ao (oO (ao (bP) (ao (bP) (ao (oN) (ao (kF (E:=ae)) (aJ)))))) (aJ)) (jR h0)))] <| qc H (fun c1 H=>?_) (fun c1 H=>?_)
  ·exact q1 <| qt <| agv (⟨rfl,_,oi H,yo (.i x0) h0 (vP (jC))⟩)
  ·exact qk <| q0 <| ⟨i64.wrap (x0+1),⟨h0,kr,o0⟩,H⟩
 ·exact qx 0 <| Or.inl (⟨rfl,x0,oi H,af.fz s0,.fn gQ bc,.i (s0.length:Int),.i x0,.bool (decide (x0<(s0.length:Int))),h0,kr,o0⟩)
theorem BU {aX:FuncId→bX}(ha:aX 109=yB)  (s0:List ai)(f0:ai→Option (Bool))(h:AHeap)(L:Mem)(gQ:FuncId)(bc:List AV)  (jQ:∀(h:AHeap) (xs:List AV) (a0:ai) r,f0 a0=some r→aZ b5 h xs ([.agg [.i a0.kind,.i a0.int,.str a0.label,ae.fz a0.args]]++bc)→cf gQ xs h=some (.bool r,h))(jR:∀h,aZ dK h bc bc)(o:Has h (L)){out:Int}(H:gY.f m s0 f0=some out) :
  ∃r h',ba Tryz.prog aX cf m 109 [af.fz s0,.fn gQ bc] h=some (r,h')∧fG h' r (.i out):=by
 refine ax (fn:=Tryz.f109) ha Tryz.func109 kr kr ?_
 refine aI (Q:=fun s=>gY.fin L out s) (fun _ _ h=>h) ?_
 have H:_=some out:=H
 unfold gY.f at H
 show dB _ cf yB m _ ⟨af.fz s0 :: .fn gQ bc::yh [],[],h⟩ _
 refine q1 <| qq <| qq <| q0 <| qb 0 ?_
 obtain⟨bI,e2,H⟩:=aQ H
 refine ql (gY.cF L gQ bc s0 f0  jQ jR  0 _ _ ⟨h,kr,o⟩ e2) ?_
 rintro e s (⟨rfl,x1,rfl,g0,g1,g2,g3,g4,h1,rfl,o1⟩| ⟨rfl,r1,rfl,sw⟩)
 ·try dsimp only at H
  exact q1 <| qt <| fI H
 ·try dsimp only at H
  obtain rfl:=oi H
  exact⟨.inl rfl,sw⟩
end
def BV:bX:=gP [0,1,3] [] [4,3] [] []
def jE.f (m:Nat)(a0:Int)(x0:Int):Option (Bool):=if (decide (a0<0))=true then (some true) else (some (decide (a0≥x0)))
def jE.fin (L:Mem)(r:Bool)(s:St):Prop:=∃av,aM Tryz.prog (s.open BV) Tryz.f110.results.toList=some av∧fG s.h av (.bool r)
def UE (cf:CallF)(m:Nat):Prop:=∀(a0:Int) (x0:Int) (r:Bool),jE.f m a0 x0=some r→∀h xs,aZ b5 h xs [.i a0,.fp [.i x0] 0]→cf 110 xs h=some (.bool r,h)
section
variable {cf:CallF}{m:Nat}
theorem uM {aX:FuncId→bX}(ha:aX 110=BV)  (a0:Int)(x0:Int)(h:AHeap)(L:Mem)  (o:Has h (L)){out:Bool}(H:jE.f m a0 x0=some out) :
  ∃r h',ba Tryz.prog aX cf m 110 [.i a0,.fp [.i x0] 0] h=some (r,h')∧fG h' r (.bool out):=by
 refine ax (fn:=Tryz.f110) ha Tryz.func110 kr kr ?_
 refine aI (Q:=fun s=>jE.fin L out s) (fun _ _ h=>h) ?_
 have H:_=some out:=H
 unfold jE.f at H
 show dB _ cf BV m _ ⟨[.i a0,.fp [.i x0] 0,.any],[],h⟩ _
 refine q1 <| qq ?_
 rcases dZ H with⟨c0,H⟩| ⟨c0,H⟩
 ·exact qr [.b 2 c0] <| qt <| fB H
 ·exact qr [.b 2 c0] <| qt <| fB H
end
def BW:bX:=gP [0,1,2,6,7,8,29,30] [] [248,201,169,121,247,247,247] [] []
def cV.f (m:Nat)(s0:aj)(a0:Int)(b0:Int):Option (Int):=(ix s0.ah a0).bind fun v0=>(ix s0.ah b0).bind fun v1=>if (!((!(v0.kind==0))==(!(v1.kind==0))))=true then (if (!(v0.kind==0))=true then (some a0) else (some b0)) else (some (mn a0 b0))
def cV.fin (L:Mem)(r:Int)(s:St):Prop:=∃av,aM Tryz.prog (s.open BW) Tryz.f113.results.toList=some av∧fG s.h av (.i r)
def RA (cf:CallF)(m:Nat):Prop:=∀(s0:aj) (a0:Int) (b0:Int) (r:Int),cV.f m s0 a0 b0=some r→∀h xs,aZ b5 h xs [.fp [af.fz s0.ah,ae.fz s0.au,.bool s0.aK] 0,.i a0,.i b0]→cf 113 xs h=some (.i r,h)
section
variable {cf:CallF}{m:Nat}
theorem nX {aX:FuncId→bX}(ha:aX 113=BW)  (s0:aj)(a0:Int)(b0:Int)(h:AHeap)(L:Mem)  (o:Has h (L)){out:Int}(H:cV.f m s0 a0 b0=some out) :
  ∃r h',ba Tryz.prog aX cf m 113 [.fp [af.fz s0.ah,ae.fz s0.au,.bool s0.aK] 0,.i a0,.i b0] h=some (r,h')∧fG h' r (.i out):=by
 refine ax (fn:=Tryz.f113) ha Tryz.func113 kr kr ?_
 refine aI (Q:=fun s=>cV.fin L out s) (fun _ _ h=>h) ?_
 have H:_=some out:=H
 unfold cV.f at H
 show dB _ cf BW m _ ⟨.fp [af.fz s0.ah,ae.fz s0.au,.bool s0.aK] 0 :: .i a0 :: .i b0::wz [],[],h⟩ _
 refine q1 <| qq ?_
 obtain⟨v0,e0,H⟩:=aQ H
 obtain⟨v1,e1,H⟩:=aQ H
 refine qr [.v 5 (bW (k:=.i64) (E:=af) (l:=s0.ah) lF e0),.v 7 (lS  (E:=af) (l:=s0.ah) (off:=0) h A3 e0 rfl),.v 14 (bW (k:=.i64) (E:=af) (l:=s0.ah) lF e1),.v 16 (lS  (E:=af) (l:=s0.ah) (off:=0) h A3 e1 rfl)] <| qq <| qq <| q0 <| qc H (fun c0 H=>?_) (fun c0 H=>?_)
 ·refine qq <| qq <| q0 <| qc H (fun c1 H=>?_) (fun c1 H=>?_)
  ·exact q1 <| qt <| fI H
  ·exact qk <| qq <| q0 <| qt <| fI H
 ·exact qk <| qq <| q0 <| qt <| fI H
end
def yC:bX:=gP [0,2,3,5,6,7,8,9,14] [] [510,506,395,267,387,131,509,395,509] [] []
def dd.l0 (m:Nat)(jl:List Int):Nat→Int→Option (Sum Int (Int))
 | 0,_=>none
 | k+1,x0=>if (decide (x0<(jl.length:Int)))=true then ((ix jl x0).bind fun v0=>if (!(v0==0))=true then (some (.inl v0)) else (dd.l0 m jl k (i64.wrap (x0+1)))) else (some (.inr x0))
def dd.f (m:Nat)(jl:List Int):Option (Int):=(dd.l0 m jl m 0).bind fun bI=>match bI with | .inl r0=>some r0 | .inr x1=>some 0
def dd.fin (L:Mem)(r:Int)(s:St):Prop:=∃av,aM Tryz.prog (s.open yC) Tryz.f128.results.toList=some av∧fG s.h av (.i r)
def UF (cf:CallF)(m:Nat):Prop:=∀(jl:List Int) (r:Int),dd.f m jl=some r→∀h xs,aZ b5 h xs [ae.fz jl]→cf 128 xs h=some (.i r,h)
section
variable {cf:CallF}{m:Nat}
theorem dd.cF (L:Mem)(jl:List Int)   : cd Tryz.prog cf yC m (sub [1,1,0,1,0,0] (bA Tryz.f128)) (fun k (σ:Int)=>dd.l0 m jl k σ) (fun σ s=>match σ with | x0=>∃h0,s=⟨[.any,.any,.i 0,.any,ae.fz jl,.i (jl.length:Int),.i x0,.any,.any],[],h0⟩∧Has h0 (L)) (fun out e s=>(e = .exit 0∧∃x0,.inr x0=out∧∃DR DN yx wE h0,s=⟨[.any,.any,.i 0,.any,DR,DN,yx,wE,.any],[],h0⟩∧Has h0 (L))∨(e = .ret∧∃r,.inl r=out∧dd.fin L r s)):=by
 refine jW (fun _=>rfl) ?_
 rintro k x0 s out ⟨h0,rfl,o0⟩ H
 have H:dd.l0 m jl (k+1) x0=some out:=H
 refine q1 <| qq <| qc H (fun c0 H=>?_) (fun c0 H=>?_)
 ·refine qk <| qq <| qb 1 <| qq ?_
  obtain⟨v0,e0,H⟩:=aQ H
  refine qr [.v 0 (bW (k:=.i64) (E:=ae) (l:=jl) de e0),.v 1 (dk  (E:=ae) (l:=jl) h0 A3 e0 rfl)] <| qq <| q0 <| qc H (fun c1 H=>?_) (fun c1 H=>?_)
  ·exact q1 <| qt <| agv (⟨rfl,_,oi H,yo (.i v0) h0 (vP (jC))⟩)
  ·exact qk <| q0 <| ⟨i64.wrap (x0+1),⟨h0,kr,o0⟩,H⟩
 ·exact qx 0 <| Or.inl (⟨rfl,x0,oi H,ae.fz jl,.i (jl.length:Int),.i x0,.bool (decide (x0<(jl.length:Int))),h0,kr,o0⟩)
theorem wH {aX:FuncId→bX}(ha:aX 128=yC)  (jl:List Int)(h:AHeap)(L:Mem)  (o:Has h (L)){out:Int}(H:dd.f m jl=some out) :
  ∃r h',ba Tryz.prog aX cf m 128 [ae.fz jl] h=some (r,h')∧fG h' r (.i out):=by
 refine ax (fn:=Tryz.f128) ha Tryz.func128 kr kr ?_
 refine aI (Q:=fun s=>dd.fin L out s) (fun _ _ h=>h) ?_
 have H:_=some out:=H
 unfold dd.f at H
 show dB _ cf yC m _ ⟨ae.fz jl::wA [],[],h⟩ _
 refine q1 <| qq <| q0 <| qq <| qq <| q0 <| qb 0 ?_
 obtain⟨bI,e1,H⟩:=aQ H
 refine ql (dd.cF L jl   0 _ _ ⟨h,kr,o⟩ e1) ?_
 rintro e s (⟨rfl,x1,rfl,g0,g1,g2,g3,h1,rfl,o1⟩| ⟨rfl,r0,rfl,sw⟩)
 ·try dsimp only at H
  exact q1 <| qt <| fI H
 ·try dsimp only at H
  obtain rfl:=oi H
  exact⟨.inl rfl,sw⟩
end
def BX:bX:=gP [0,2] [] [2,1] [] []
def iM.f (m:Nat)(c0:Int):Option (Bool):=if (decide (c0≥97))=true then (if (decide (c0≤122))=true then (some true) else (if (decide (c0≥65))=true then (if (decide (c0≤90))=true then (some true) else (if (decide (c0≥48))=true then (if (decide (c0≤57))=true then (some true) else (some (c0==95))) else (some (c0==95)))) else (if (decide (c0≥48))=true then (if (decide (c0≤57))=true then (some true) else (some (c0==95))) else (some (c0==95))))) else (if (decide (c0≥65))=true then (if (decide (c0≤90))=true then (some true) else (if (decide (c0≥48))=true then (if (decide (c0≤57))=true then (some true) else (some (c0==95))) else (some (c0==95)))) else (if (decide (c0≥48))=true then (if (decide (c0≤57))=true then (some true) else (some (c0==95))) else (some (c0==95))))
def iM.fin (L:Mem)(r:Bool)(s:St):Prop:=∃av,aM Tryz.prog (s.open BX) Tryz.f130.results.toList=some av∧fG s.h av (.bool r)
def RB (cf:CallF)(m:Nat):Prop:=∀(c0:Int) (r:Bool),iM.f m c0=some r→∀h xs,aZ b5 h xs [.int .u8 c0]→cf 130 xs h=some (.bool r,h)
section
variable {cf:CallF}{m:Nat}
theorem uN {aX:FuncId→bX}(ha:aX 130=BX)  (c0:Int)(h:AHeap)(L:Mem)  (o:Has h (L)){out:Bool}(H:iM.f m c0=some out) :
  ∃r h',ba Tryz.prog aX cf m 130 [.int .u8 c0] h=some (r,h')∧fG h' r (.bool out):=by
 refine ax (fn:=Tryz.f130) ha Tryz.func130 kr kr ?_
 refine aI (Q:=fun s=>iM.fin L out s) (fun _ _ h=>h) ?_
 have H:_=some out:=H
 unfold iM.f at H
 show dB _ cf BX m _ ⟨[.int .u8 c0,.any],[],h⟩ _
 refine q1 <| qq ?_
 rcases dZ H with⟨c1,H⟩| ⟨c1,H⟩
 ·rcases dZ H with⟨c2,H⟩| ⟨c2,H⟩
  ·exact qr [.b 2 c1,.b 6 c2] <| qt <| fB H
  ·rcases dZ H with⟨c3,H⟩| ⟨c3,H⟩
   ·rcases dZ H with⟨c4,H⟩| ⟨c4,H⟩
    ·exact qr [.b 2 c1,.b 6 c2,.b 9 c3,.b 14 c4] <| qt <| fB H
    ·rcases dZ H with⟨c5,H⟩| ⟨c5,H⟩
     ·rcases dZ H with⟨c6,H⟩| ⟨c6,H⟩
      ·exact qr [.b 2 c1,.b 6 c2,.b 9 c3,.b 14 c4,.b 17 c5,.b 22 c6] <| qt <| fB H
      ·exact qr [.b 2 c1,.b 6 c2,.b 9 c3,.b 14 c4,.b 17 c5,.b 22 c6] <| qt <| fB H
     ·exact qr [.b 2 c1,.b 6 c2,.b 9 c3,.b 14 c4,.b 17 c5] <| qt <| fB H
   ·rcases dZ H with⟨c7,H⟩| ⟨c7,H⟩
    ·rcases dZ H with⟨c8,H⟩| ⟨c8,H⟩
     ·exact qr [.b 2 c1,.b 6 c2,.b 9 c3,.b 17 c7,.b 22 c8] <| qt <| fB H
     ·exact qr [.b 2 c1,.b 6 c2,.b 9 c3,.b 17 c7,.b 22 c8] <| qt <| fB H
    ·exact qr [.b 2 c1,.b 6 c2,.b 9 c3,.b 17 c7] <| qt <| fB H
 ·rcases dZ H with⟨c9,H⟩| ⟨c9,H⟩
  ·rcases dZ H with⟨yD,H⟩| ⟨yD,H⟩
   ·exact qr [.b 2 c1,.b 9 c9,.b 14 yD] <| qt <| fB H
   ·rcases dZ H with⟨oy,H⟩| ⟨oy,H⟩
    ·rcases dZ H with⟨wI,H⟩| ⟨wI,H⟩
     ·exact qr [.b 2 c1,.b 9 c9,.b 14 yD,.b 17 oy,.b 22 wI] <| qt <| fB H
     ·exact qr [.b 2 c1,.b 9 c9,.b 14 yD,.b 17 oy,.b 22 wI] <| qt <| fB H
    ·exact qr [.b 2 c1,.b 9 c9,.b 14 yD,.b 17 oy] <| qt <| fB H
  ·rcases dZ H with⟨qI,H⟩| ⟨qI,H⟩
   ·rcases dZ H with⟨wJ,H⟩| ⟨wJ,H⟩
    ·exact qr [.b 2 c1,.b 9 c9,.b 17 qI,.b 22 wJ] <| qt <| fB H
    ·exact qr [.b 2 c1,.b 9 c9,.b 17 qI,.b 22 wJ] <| qt <| fB H
   ·exact qr [.b 2 c1,.b 9 c9,.b 17 qI] <| qt <| fB H
end
def BY:bX:=gP [0,2] [] [2,1] [] []
def ig.f (m:Nat)(c0:Int):Option (Bool):=if (decide (c0≥97))=true then (if (decide (c0≤122))=true then (some true) else (if (decide (c0≥65))=true then (if (decide (c0≤90))=true then (some true) else (if (decide (c0≥48))=true then (if (decide (c0≤57))=true then (some true) else (some (c0==95))) else (some (c0==95)))) else (if (decide (c0≥48))=true then (if (decide (c0≤57))=true then (some true) else (some (c0==95))) else (some (c0==95))))) else (if (decide (c0≥65))=true then (if (decide (c0≤90))=true then (some true) else (if (decide (c0≥48))=true then (if (decide (c0≤57))=true then (some true) else (some (c0==95))) else (some (c0==95)))) else (if (decide (c0≥48))=true then (if (decide (c0≤57))=true then (some true) else (some (c0==95))) else (some (c0==95))))
def ig.fin (L:Mem)(r:Bool)(s:St):Prop:=∃av,aM Tryz.prog (s.open BY) Tryz.f131.results.toList=some av∧fG s.h av (.bool r)
def RC (cf:CallF)(m:Nat):Prop:=∀(c0:Int) (r:Bool),ig.f m c0=some r→∀h xs,aZ b5 h xs [.int .u8 c0]→cf 131 xs h=some (.bool r,h)
section
variable {cf:CallF}{m:Nat}
theorem tG {aX:FuncId→bX}(ha:aX 131=BY)  (c0:Int)(h:AHeap)(L:Mem)  (o:Has h (L)){out:Bool}(H:ig.f m c0=some out) :
  ∃r h',ba Tryz.prog aX cf m 131 [.int .u8 c0] h=some (r,h')∧fG h' r (.bool out):=by
 refine ax (fn:=Tryz.f131) ha Tryz.func131 kr kr ?_
 refine aI (Q:=fun s=>ig.fin L out s) (fun _ _ h=>h) ?_
 have H:_=some out:=H
 unfold ig.f at H
 show dB _ cf BY m _ ⟨[.int .u8 c0,.any],[],h⟩ _
 refine q1 <| qq ?_
 rcases dZ H with⟨c1,H⟩| ⟨c1,H⟩
 ·rcases dZ H with⟨c2,H⟩| ⟨c2,H⟩
  ·exact qr [.b 2 c1,.b 6 c2] <| qt <| fB H
  ·rcases dZ H with⟨c3,H⟩| ⟨c3,H⟩
   ·rcases dZ H with⟨c4,H⟩| ⟨c4,H⟩
    ·exact qr [.b 2 c1,.b 6 c2,.b 9 c3,.b 14 c4] <| qt <| fB H
    ·rcases dZ H with⟨c5,H⟩| ⟨c5,H⟩
     ·rcases dZ H with⟨c6,H⟩| ⟨c6,H⟩
      ·exact qr [.b 2 c1,.b 6 c2,.b 9 c3,.b 14 c4,.b 17 c5,.b 22 c6] <| qt <| fB H
      ·exact qr [.b 2 c1,.b 6 c2,.b 9 c3,.b 14 c4,.b 17 c5,.b 22 c6] <| qt <| fB H
     ·exact qr [.b 2 c1,.b 6 c2,.b 9 c3,.b 14 c4,.b 17 c5] <| qt <| fB H
   ·rcases dZ H with⟨c7,H⟩| ⟨c7,H⟩
    ·rcases dZ H with⟨c8,H⟩| ⟨c8,H⟩
     ·exact qr [.b 2 c1,.b 6 c2,.b 9 c3,.b 17 c7,.b 22 c8] <| qt <| fB H
     ·exact qr [.b 2 c1,.b 6 c2,.b 9 c3,.b 17 c7,.b 22 c8] <| qt <| fB H
    ·exact qr [.b 2 c1,.b 6 c2,.b 9 c3,.b 17 c7] <| qt <| fB H
 ·rcases dZ H with⟨c9,H⟩| ⟨c9,H⟩
  ·rcases dZ H with⟨yD,H⟩| ⟨yD,H⟩
   ·exact qr [.b 2 c1,.b 9 c9,.b 14 yD] <| qt <| fB H
   ·rcases dZ H with⟨oy,H⟩| ⟨oy,H⟩
    ·rcases dZ H with⟨wI,H⟩| ⟨wI,H⟩
     ·exact qr [.b 2 c1,.b 9 c9,.b 14 yD,.b 17 oy,.b 22 wI] <| qt <| fB H
     ·exact qr [.b 2 c1,.b 9 c9,.b 14 yD,.b 17 oy,.b 22 wI] <| qt <| fB H
    ·exact qr [.b 2 c1,.b 9 c9,.b 14 yD,.b 17 oy] <| qt <| fB H
  ·rcases dZ H with⟨qI,H⟩| ⟨qI,H⟩
   ·rcases dZ H with⟨wJ,H⟩| ⟨wJ,H⟩
    ·exact qr [.b 2 c1,.b 9 c9,.b 17 qI,.b 22 wJ] <| qt <| fB H
    ·exact qr [.b 2 c1,.b 9 c9,.b 17 qI,.b 22 wJ] <| qt <| fB H
   ·exact qr [.b 2 c1,.b 9 c9,.b 17 qI] <| qt <| fB H
end
def uO:bX:=gP [0,1,4,5,6,7,8,9,19,34,50] [] [2044,2036,1988,1990,1734,1926,1926,1414,1926,1926,1798,774,1798,1798,2043] [] [(2,[(6,none,1),(7,none,1)])]
def bb.l1 (m:Nat)(l0:List ai)(v0:Int):Nat→(List Int)→Int→Option ((List Int) × Int)
 | 0,_,_=>none
 | k+1,ku,i0=>if (decide (i0≥0))=true then ((ix l0 v0).bind fun v5=>(ix v5.args i0).bind fun v6=>(app 8 ku ([v6])).bind fun x3=>bb.l1 m l0 v0 k x3 (i64.wrap (i0 - 1))) else (some ((ku,i0)))
def bb.l0 (m:Nat)(l0:List ai):Nat→(List Bool)→(List Int)→(List Int)→Option ((List Bool) × (List Int) × (List Int))
 | 0,_,_,_=>none
 | k+1,kx,bI,iu=>if (decide ((iu.length:Int) > 0))=true then ((ix iu (i64.wrap ((iu.length:Int) - 1))).bind fun v0=>(KL iu 0 (i64.wrap ((iu.length:Int) - 1))).bind fun v1=>(ix kx v0).bind fun v2=>if v2=true then (bb.l0 m l0 k kx bI v1) else ((ix kx v0).bind fun v3=>(app 8 bI ([v0])).bind fun x2=>(ix l0 v0).bind fun v4=>(bb.l1 m l0 v0 m v1 (i64.wrap ((v4.args.length:Int) - 1))).bind fun eT=>match eT with | (FL,i1)=>bb.l0 m l0 k (kx.set v0.toNat true) x2 FL)) else (some ((kx,bI,iu)))
def bb.f (m:Nat)(l0:List ai)(jF:Int):Option ((List Int)):=(sr 1 (l0.length:Int) false).bind fun x0=>(app 8 ([]:List Int) ([jF])).bind fun x1=>(bb.l0 m l0 m x0 ([]:List Int) x1).bind fun qJ=>match qJ with | (XM,jD,FM)=>some jD
def bb.fin (L:Mem)(r:(List Int))(s:St):Prop:=∃av,aM Tryz.prog (s.open uO) Tryz.f132.results.toList=some av∧fG s.h av (ae.fz r)
def UG (cf:CallF)(m:Nat):Prop:=∀(l0:List ai) (jF:Int) (r:(List Int)),bb.f m l0 jF=some r→∀h xs,aZ b5 h xs [af.fz l0,.i jF]→cf 132 xs h=some (ae.fz r,h)
section
variable {cf:CallF}{m:Nat}
theorem bb.jG (L:Mem)(l0:List ai)(cm:Nat)(kx:List Bool)(cm:Nat)(v0:Int)(x2:List Int)(ir:Nat)   : cd Tryz.prog cf uO m (sub [1,1,1,1,0,0,0,1,0,1,1,1,1,1,1,0,0] (bA Tryz.f132)) (fun k (σ:(List Int) × Int)=>bb.l1 m l0 v0 k σ.1 σ.2) (fun σ s=>match σ with | (ku,i0)=>∃iy h5,s=⟨af.fz l0 :: .any :: .any :: .rs cm 0 kx.length 1 :: .rs ir 0 x2.length 1 :: .rs iy 0 ku.length 1 :: .i v0 :: .i i0::mU [],[],h5⟩∧Has h5 ((iy,.sl ku.length 1 (ae.l ku))::(ir,.sl x2.length 1 (ae.l x2))::(cm,.sl kx.length 1 (eZ.l (kx.set v0.toNat true)))::L)) (fun out e s=>(e = .exit 2∧∃ku i0,(ku,i0)=out∧∃yx wE RD iy h5,s=⟨[af.fz l0,.any,.any,.rs cm 0 kx.length 1,.rs ir 0 x2.length 1,.rs iy 0 ku.length 1,yx,wE,.any,.any,RD],[],h5⟩∧Has h5 ((iy,.sl ku.length 1 (ae.l ku))::(ir,.sl x2.length 1 (ae.l x2))::(cm,.sl kx.length 1 (eZ.l (kx.set v0.toNat true)))::L))):=by
 refine jW (fun _=>rfl) ?_
 rintro k ⟨ku,i0⟩ s out ⟨iy,h5,rfl,o8⟩ H
 have H:bb.l1 m l0 v0 (k+1) ku i0=some out:=H
 refine qq <| qq <| q0 <| qc H (fun c2 H=>?_) (fun c2 H=>?_)
 ·refine qk <| qq <| qb 3 ?_
  obtain⟨v5,sy,H⟩:=aQ H
  obtain⟨v6,rZ,H⟩:=aQ H
  obtain⟨x3,wG,H⟩:=aQ H
  obtain⟨iA,h6,sA,o9⟩:=dY (P:=Tryz.prog) (E:=ae) (l:=ku) (q:=0) (t2:=22) (x:=.fz [.i v6] 1 true) (l2:=([v6])) de o8 rfl kr rfl wG
  exact qr [.v 3 (bW (k:=.i64) (E:=af) (l:=l0) lF sy),.v 5 (lS  (E:=af) (l:=l0) (off:=3) h5 SZ sy rfl),.v 7 (bW (k:=.i64) (E:=ae) (l:=v5.args) de rZ),.v 8 (dk  (E:=ae) (l:=v5.args) h5 A3 rZ rfl),.a 10 sA] <| q0 <| ⟨(x3,i64.wrap (i0 - 1)),⟨iA,h6,ld,(rz o9)⟩,H⟩
 ·exact qx 2 <| ⟨rfl,ku,i0,oi H,.i v0,.i i0,.bool (decide (i0≥0)),iy,h5,ld,(rz o8)⟩
theorem bb.cF (L:Mem)(l0:List ai)   : cd Tryz.prog cf uO m (sub [1,1,1,1,0,0,0] (bA Tryz.f132)) (fun k (σ:(List Bool) × (List Int) × (List Int))=>bb.l0 m l0 k σ.1 σ.2.1 σ.2.2) (fun σ s=>match σ with | (kx,bI,iu)=>∃g0 g1 g2 g3 dT cE cm h2,s=⟨[af.fz l0,.any,.any,.rs cm 0 kx.length 1,.rs cE 0 bI.length 1,.rs dT 0 iu.length 1,g0,g1,.any,g2,g3],[],h2⟩∧Has h2 ((dT,.sl iu.length 1 (ae.l iu))::(cE,.sl bI.length 1 (ae.l bI))::(cm,.sl kx.length 1 (eZ.l kx))::L)) (fun out e s=>(e = .exit 0∧∃kx bI iu,(kx,bI,iu)=out∧∃nA DP DN yx wE LA RE RD dT cE cm h2,s=⟨[nA,.any,.any,DP,.rs cE 0 bI.length 1,DN,yx,wE,LA,RE,RD],[],h2⟩∧Has h2 ((dT,.sl iu.length 1 (ae.l iu))::(cE,.sl bI.length 1 (ae.l bI))::(cm,.sl kx.length 1 (eZ.l kx))::L))):=by
 refine jW (fun _=>rfl) ?_
 rintro k ⟨kx,bI,iu⟩ s out ⟨g0,g1,g2,g3,dT,cE,cm,h2,rfl,o4⟩ H
 have H:bb.l0 m l0 (k+1) kx bI iu=some out:=H
 refine qq <| qq <| q0 <| qc H (fun c0 H=>?_) (fun c0 H=>?_)
 ·refine qk <| qb 1 <| qq ?_
  obtain⟨v0,e4,H⟩:=aQ H
  refine qr [.v 4 (aL (k:=.i64) (E:=ae) (l:=iu) (q:=0) de o4 rfl e4),.v 5 (bn  (E:=ae) (l:=iu) (q:=0) o4 rfl A3 e4 rfl)] <| qq ?_
  obtain⟨v1,e5,H⟩:=aQ H
  obtain⟨XN,o5⟩:=KS (P:=Tryz.prog) (k:=.i64) (E:=ae) (q:=0) o4 rfl de e5
  refine qr [.v 4 XN] <| qq <| qq ?_
  obtain⟨v2,e6,H⟩:=aQ H
  refine qr [.v 2 (aL (k:=.i64) (E:=eZ) (l:=kx) (q:=2) NH o5 rfl e6),.v 3 (bn  (E:=eZ) (l:=kx) (q:=2) o5 rfl A4 e6 rfl)] <| qc H (fun c1 H=>?_) (fun c1 H=>?_)
  ·exact qx 1 <| ⟨(kx,bI,v1),⟨.i v0,.any,.bool v2,.any,dT,cE,cm,h2,kr,o5⟩,H⟩
  ·refine qk <| qq ?_
   obtain⟨v3,e7,H⟩:=aQ H
   obtain⟨h3,e8,o6⟩:=dJ (P:=Tryz.prog) (tf:=4) (E:=eZ) (l:=kx) (q:=2) (v:=true) (x:=.bool true) o5 rfl Z4 e7 rfl rfl
   refine qr [.v 2 (aL (k:=.i64) (E:=eZ) (l:=kx) (q:=2) NH o5 rfl e7),.w 3 e8] <| qq ?_
   obtain⟨x2,e9,H⟩:=aQ H
   obtain⟨ir,h4,nW,o7⟩:=dY (P:=Tryz.prog) (E:=ae) (l:=bI) (q:=1) (t2:=22) (x:=.fz [.i v0] 1 true) (l2:=([v0])) de o6 rfl kr rfl e9
   refine qr [.a 3 nW] <| qq ?_
   obtain⟨v4,rG,H⟩:=aQ H
   refine qr [.v 2 (bW (k:=.i64) (E:=af) (l:=l0) lF rG),.v 4 (lS  (E:=af) (l:=l0) (off:=3) h4 SZ rG rfl)] <| qb 2 ?_
   obtain⟨eT,uP,H⟩:=aQ H
   refine ql (bb.jG L l0 cm kx cm v0 x2 ir   (v1,i64.wrap ((v4.args.length:Int) - 1)) _ _ ⟨dT,h4,ld,(rz o7)⟩ uP) ?_
   rintro e s ⟨rfl,FL,i1,rfl,g4,g5,g6,lh,h7,rfl,sO⟩
   try dsimp only at H
   exact⟨(kx.set v0.toNat true,x2,FL),⟨g4,g5,.any,g6,lh,ir,cm,h7,ld,(rz sO)⟩,H⟩
 ·exact qx 0 <| ⟨rfl,kx,bI,iu,oi H,af.fz l0,.rs cm 0 kx.length 1,.rs dT 0 iu.length 1,.any,.any,.bool (decide ((iu.length:Int) > 0)),.any,.any,dT,cE,cm,h2,kr,o4⟩
theorem sB {aX:FuncId→bX}(ha:aX 132=uO)  (l0:List ai)(jF:Int)(h:AHeap)(L:Mem)  (o:Has h (L)){out:(List Int)}(H:bb.f m l0 jF=some out) :
  ∃r h',ba Tryz.prog aX cf m 132 [af.fz l0,.i jF] h=some (r,h')∧fG h' r (ae.fz out):=by
 refine ax (fn:=Tryz.f132) ha Tryz.func132 kr kr ?_
 refine aI (Q:=fun s=>bb.fin L out s) (fun _ _ h=>h) ?_
 have H:_=some out:=H
 unfold bb.f at H
 show dB _ cf uO m _ ⟨af.fz l0 :: .i jF::Ot [],[],h⟩ _
 refine q1 <| qq ?_
 obtain⟨x0,e0,H⟩:=aQ H
 obtain⟨aV,h0,e1,o0⟩:=qv (P:=Tryz.prog) (E:=eZ) (z:=false) (zv:=.bool false) NH o 4 rfl rfl rfl rfl e0
 refine qr [.a 2 e1] <| qq <| q0 ?_
 have o1:Has h0 (((0),.sl (([]:List Int).length) 1 (ae.l ([]:List Int)))::(aV,.sl x0.length 1 (eZ.l x0))::L):=Has.nil o0 1
 have o2:Has h0 ((((0)),.sl (([]:List Int).length) 1 (ae.l ([]:List Int)))::((0),.sl (([]:List Int).length) 1 (ae.l ([]:List Int)))::(aV,.sl x0.length 1 (eZ.l x0))::L):=Has.nil o1 1
 refine qq ?_
 obtain⟨x1,e2,H⟩:=aQ H
 obtain⟨dr,h1,e3,o3⟩:=dY (P:=Tryz.prog) (E:=ae) (l:=([]:List Int)) (q:=0) (t2:=22) (x:=.fz [.i jF] 1 true) (l2:=([jF])) de o2 rfl kr rfl e2
 refine qr [.a 3 e3] <| qq <| qb 0 ?_
 obtain⟨qJ,wK,H⟩:=aQ H
 refine ql (bb.cF L l0   (x0,([]:List Int),x1) _ _ ⟨.any,.any,.any,.any,dr,(0),aV,h1,kr,o3⟩ wK) ?_
 rintro e s ⟨rfl,XM,jD,FM,rfl,g7,g8,g9,g10,g11,g12,g13,g14,ml,eR,ij,h8,rfl,tH⟩
 try dsimp only at H
 refine q1 ?_
 have xj:Has h8 ((ml,.sl FM.length 1 (ae.l FM))::(eR,.sl jD.length 1 (ae.l jD))::L):=jV tH 2
 have mK:Has h8 ((eR,.sl jD.length 1 (ae.l jD))::L):=jV xj 0
 obtain rfl:=oi H
 exact qt <| ⟨.inl rfl,yo (.rs eR 0 jD.length 1) h8 (vP (GZ (E:=ae) (l:=jD) (q:=0) mK rfl (fun _=>rfl)))⟩
end
def BZ:bX:=gP [0,2] [] [2,1] [] []
def cmp_isNaN_int.f (m:Nat)(x0:Int):Option (Bool):=some (!(x0==x0))
def cmp_isNaN_int.fin (L:Mem)(r:Bool)(s:St):Prop:=∃av,aM Tryz.prog (s.open BZ) Tryz.f140.results.toList=some av∧fG s.h av (.bool r)
def UH (cf:CallF)(m:Nat):Prop:=∀(x0:Int) (r:Bool),cmp_isNaN_int.f m x0=some r→∀h xs,aZ b5 h xs [.i x0]→cf 140 xs h=some (.bool r,h)
section
variable {cf:CallF}{m:Nat}
theorem sC {aX:FuncId→bX}(ha:aX 140=BZ)  (x0:Int)(h:AHeap)(L:Mem)  (o:Has h (L)){out:Bool}(H:cmp_isNaN_int.f m x0=some out) :
  ∃r h',ba Tryz.prog aX cf m 140 [.i x0] h=some (r,h')∧fG h' r (.bool out):=by
 refine ax (fn:=Tryz.f140) ha Tryz.func140 kr kr ?_
 refine aI (Q:=fun s=>cmp_isNaN_int.fin L out s) (fun _ _ h=>h) ?_
 have H:_=some out:=H
 unfold cmp_isNaN_int.f at H
 show dB _ cf BZ m _ ⟨[.i x0,.any],[],h⟩ _
 exact q1 <| qq <| q0 <| qt <| fB H
end
def B0:bX:=gP [0,2] [] [2,1] [] []
def cmp_isNaN_string.f (m:Nat)(x0:ByteArray):Option (Bool):=some (!(x0.data.toList==x0.data.toList))
def cmp_isNaN_string.fin (L:Mem)(r:Bool)(s:St):Prop:=∃av,aM Tryz.prog (s.open B0) Tryz.f141.results.toList=some av∧fG s.h av (.bool r)
def UI (cf:CallF)(m:Nat):Prop:=∀(x0:ByteArray) (r:Bool),cmp_isNaN_string.f m x0=some r→∀h xs,aZ b5 h xs [.str x0]→cf 141 xs h=some (.bool r,h)
section
variable {cf:CallF}{m:Nat}
theorem pJ {aX:FuncId→bX}(ha:aX 141=B0)  (x0:ByteArray)(h:AHeap)(L:Mem)  (o:Has h (L)){out:Bool}(H:cmp_isNaN_string.f m x0=some out) :
  ∃r h',ba Tryz.prog aX cf m 141 [.str x0] h=some (r,h')∧fG h' r (.bool out):=by
 refine ax (fn:=Tryz.f141) ha Tryz.func141 kr kr ?_
 refine aI (Q:=fun s=>cmp_isNaN_string.fin L out s) (fun _ _ h=>h) ?_
 have H:_=some out:=H
 unfold cmp_isNaN_string.f at H
 show dB _ cf B0 m _ ⟨[.str x0,.any],[],h⟩ _
 exact q1 <| qq <| q0 <| qt <| fB H
end
end Go.Proofs.YtifafejidnjckaaGreat
