/- Part of the proof: Q75, Q76, Q85, Q87, Q89, Q91, Q92, Q93, Q94, Q95, Q97, Q98, Q101, Q104, Q105, Q106, Q107, Q109, Q110, Q113, Q120, Q125, Q126, Q128, Q130, Q131, Q132, Q137, Q140, Q141, Q142, Q144. -/
import Derived.Test.YtifafejidnjckaaGreatK6
set_option linter.unusedVariables false
set_option linter.unusedSimpArgs false
set_option maxRecDepth 100000
open ByteArray renaming mk → ab7
open Eq renaming trans → acq
open List renaming length_set → abF
open Or renaming inr → ac3
namespace Go.Proofs.YtifafejidnjckaaGreat
open Go Go.R
open Go.IntKind (i64 u64 u8 u32)
def A5:cu:=gj [0,1,4,13] [] [12,4,12,11] [] []
def bz.l0 (m:Nat)(s0:aj):Nat→Int→Option (Int)
 | 0,_=>none
 | k+1,n1=>(ix s0.aB n1).bind fun v0=>if (!(v0==n1))=true then ((ix s0.aB n1).bind fun v1=>bz.l0 m s0 k v1) else (some (n1))
def bz.f (m:Nat)(s0:aj)(n0:Int):Option (Int):=(bz.l0 m s0 m n0).bind fun bo=>match bo with | n2=>some n2
def bz.fin (L:Mem)(r:Int)(s:St):Prop:=∃av,aP Tryz.prog (s.open A5) Tryz.f75.results.toList=some av∧fi s.h av (.int .i64 r)
def Mt (cf:CallF)(m:Nat):Prop:=∀(s0:aj) (n0:Int) (r:Int),bz.f m s0 n0=some r→∀h xs,aX b5 h xs [.fp [.bool s0.aF,af.fz s0.ae,aa.fz s0.aB] 0,.int .i64 n0]→cf 75 xs h=some (.int .i64 r,h)
section
variable {cf:CallF}{m:Nat}
theorem bz.cd (L:Mem)(s0:aj)   : b8 Tryz.prog cf A5 m (sub [1,0,0,0] (br Tryz.f75)) (fun k (σ:Int)=>bz.l0 m s0 k σ) (fun σ s=>match σ with | n1=>∃h0,s=⟨[.fp [.bool s0.aF,af.fz s0.ae,aa.fz s0.aB] 0,.int .i64 n1,.any,.any],[],h0⟩∧Has h0 (L)) (fun out e s=>(e = .exit 0∧∃n1,n1=out∧∃kX pK h0,s=⟨[kX,.int .i64 n1,.any,pK],[],h0⟩∧Has h0 (L))):=by
 refine iO (fun _=>rfl) ?_
 rintro k n1 s out ⟨h0,rfl,o0⟩ H
 have H:bz.l0 m s0 (k+1) n1=some out:=H
 refine qq <| qq ?_
 obtain⟨v0,e0,H⟩:=aS H
 refine qr [.v 5 (bO (k:=.i64) (E:=aa) (l:=s0.aB) dt e0),.v 6 (cF  (E:=aa) (l:=s0.aB) h0 A3 e0 rfl)] <| qc H (fun c0 H=>?_) (fun c0 H=>?_)
 ·refine qk <| qb 1 ?_
  obtain⟨v1,e1,H⟩:=aS H
  exact qr [.v 5 (bO (k:=.i64) (E:=aa) (l:=s0.aB) dt e1),.v 6 (cF  (E:=aa) (l:=s0.aB) h0 A3 e1 rfl)] <| ⟨v1,⟨h0,by kernel_rfl,o0⟩,H⟩
 ·exact qx 0 <| ⟨rfl,n1,oi H,.fp [.bool s0.aF,af.fz s0.ae,aa.fz s0.aB] 0,.bool (!(v0==n1)),h0,by kernel_rfl,o0⟩
theorem oc {a7:FuncId→cu}(ha:a7 75=A5)  (s0:aj)(n0:Int)(h:AHeap)(L:Mem)  (o:Has h (L)){out:Int}(H:bz.f m s0 n0=some out) :
  ∃r h',bj Tryz.prog a7 cf m 75 [.fp [.bool s0.aF,af.fz s0.ae,aa.fz s0.aB] 0,.int .i64 n0] h=some (r,h')∧fi h' r (.int .i64 out):=by
 refine au (fn:=Tryz.f75) ha Tryz.func75 (by kernel_rfl) (by kernel_rfl) ?_
 refine aK (Q:=fun s=>bz.fin L out s) (fun _ _ h=>h) ?_
 have H:_=some out:=H
 unfold bz.f at H
 show dR _ cf A5 m _ ⟨[.fp [.bool s0.aF,af.fz s0.ae,aa.fz s0.aB] 0,.int .i64 n0,.any,.any],[],h⟩ _
 refine q1 <| qq <| qb 0 ?_
 obtain⟨bo,e2,H⟩:=aS H
 refine ql (bz.cd L s0   n0 _ _ ⟨h,by kernel_rfl,o⟩ e2) ?_
 rintro e s ⟨rfl,n2,rfl,g0,g1,h1,rfl,o1⟩
 try dsimp only at H
 obtain rfl:=oi H
 exact q1 <| qt <| ⟨.inl rfl,bX (.int .i64 n2) h1 (bW (cp))⟩
end
end Go.Proofs.YtifafejidnjckaaGreat
namespace Go.Proofs.YtifafejidnjckaaGreat
open Go Go.R
open Go.IntKind (i64 u64 u8 u32)
end Go.Proofs.YtifafejidnjckaaGreat
namespace Go.Proofs.YtifafejidnjckaaGreat
open Go Go.R
open Go.IntKind (i64 u64 u8 u32)
def En:cu:=gj [0,1,4] [] [4,3] [] []
def dV.f (m:Nat)(s0:aj)(n0:Int):Option (Bool):=if (decide (n0≥(0:Int)))=true then (some (decide (n0<(s0.ae.length:Int)))) else (some false)
def dV.fin (L:Mem)(r:Bool)(s:St):Prop:=∃av,aP Tryz.prog (s.open En) Tryz.f85.results.toList=some av∧fi s.h av (.bool r)
def W3 (cf:CallF)(m:Nat):Prop:=∀(s0:aj) (n0:Int) (r:Bool),dV.f m s0 n0=some r→∀h xs,aX b5 h xs [.fp [.bool s0.aF,af.fz s0.ae,aa.fz s0.aB] 0,.int .i64 n0]→cf 85 xs h=some (.bool r,h)
section
variable {cf:CallF}{m:Nat}
theorem mQ {a7:FuncId→cu}(ha:a7 85=En)  (s0:aj)(n0:Int)(h:AHeap)(L:Mem)  (o:Has h (L)){out:Bool}(H:dV.f m s0 n0=some out) :
  ∃r h',bj Tryz.prog a7 cf m 85 [.fp [.bool s0.aF,af.fz s0.ae,aa.fz s0.aB] 0,.int .i64 n0] h=some (r,h')∧fi h' r (.bool out):=by
 refine au (fn:=Tryz.f85) ha Tryz.func85 (by kernel_rfl) (by kernel_rfl) ?_
 refine aK (Q:=fun s=>dV.fin L out s) (fun _ _ h=>h) ?_
 have H:_=some out:=H
 unfold dV.f at H
 show dR _ cf En m _ ⟨[.fp [.bool s0.aF,af.fz s0.ae,aa.fz s0.aB] 0,.int .i64 n0,.any],[],h⟩ _
 refine q1 <| qq ?_
 rcases eu H with⟨c0,H⟩| ⟨c0,H⟩
 ·obtain rfl:=oi H
  exact qr [.b 2 c0] <| qt <| ⟨.inl rfl,bX (.bool (decide (n0<(s0.ae.length:Int)))) h (bW (ao))⟩
 ·obtain rfl:=oi H
  exact qr [.b 2 c0] <| qt <| ⟨.inl rfl,bX (.bool false) h (bW (ao))⟩
end
end Go.Proofs.YtifafejidnjckaaGreat
namespace Go.Proofs.YtifafejidnjckaaGreat
open Go Go.R
open Go.IntKind (i64 u64 u8 u32)
def Eo:cu:=gj [0,2] [] [2,1] [] []
def iB.f (m:Nat)(s0:ByteArray):Option (Bool):=if (s0.data.toList==(ab7 #[112,114,111,99]).data.toList)=true then (some true) else (if (s0.data.toList==(ab7 #[99,101,108,108]).data.toList)=true then (some true) else (some (s0.data.toList==(ab7 #[112,111,114,116]).data.toList)))
def iB.fin (L:Mem)(r:Bool)(s:St):Prop:=∃av,aP Tryz.prog (s.open Eo) Tryz.f87.results.toList=some av∧fi s.h av (.bool r)
def W4 (cf:CallF)(m:Nat):Prop:=∀(s0:ByteArray) (r:Bool),iB.f m s0=some r→∀h xs,aX b5 h xs [.str s0]→cf 87 xs h=some (.bool r,h)
section
variable {cf:CallF}{m:Nat}
theorem tA {a7:FuncId→cu}(ha:a7 87=Eo)  (s0:ByteArray)(h:AHeap)(L:Mem)  (o:Has h (L)){out:Bool}(H:iB.f m s0=some out) :
  ∃r h',bj Tryz.prog a7 cf m 87 [.str s0] h=some (r,h')∧fi h' r (.bool out):=by
 refine au (fn:=Tryz.f87) ha Tryz.func87 (by kernel_rfl) (by kernel_rfl) ?_
 refine aK (Q:=fun s=>iB.fin L out s) (fun _ _ h=>h) ?_
 have H:_=some out:=H
 unfold iB.f at H
 show dR _ cf Eo m _ ⟨[.str s0,.any],[],h⟩ _
 refine q1 <| qq ?_
 rcases eu H with⟨c0,H⟩| ⟨c0,H⟩
 ·obtain rfl:=oi H
  exact qr [.b 2 c0] <| qt <| ⟨.inl rfl,bX (.bool true) h (bW (ao))⟩
 ·rcases eu H with⟨c1,H⟩| ⟨c1,H⟩
  ·obtain rfl:=oi H
   exact qr [.b 2 c0,.b 6 c1] <| qt <| ⟨.inl rfl,bX (.bool true) h (bW (ao))⟩
  ·obtain rfl:=oi H
   exact qr [.b 2 c0,.b 6 c1] <| qt <| ⟨.inl rfl,bX (.bool (s0.data.toList==(ab7 #[112,111,114,116]).data.toList)) h (bW (ao))⟩
end
end Go.Proofs.YtifafejidnjckaaGreat
namespace Go.Proofs.YtifafejidnjckaaGreat
open Go Go.R
open Go.IntKind (i64 u64 u8 u32)
def Ep:cu:=gj [0,1,4] [] [4,3] [] []
def di.f (m:Nat)(s0:ay)(n0:Int):Option (Bool):=if (decide (n0≥(0:Int)))=true then (some (decide (n0<(s0.ai.length:Int)))) else (some false)
def di.fin (L:Mem)(r:Bool)(s:St):Prop:=∃av,aP Tryz.prog (s.open Ep) Tryz.f89.results.toList=some av∧fi s.h av (.bool r)
def QJ (cf:CallF)(m:Nat):Prop:=∀(s0:ay) (n0:Int) (r:Bool),di.f m s0 n0=some r→∀h xs,aX b5 h xs [.fp [af.fz s0.ai,aa.fz s0.an,.bool s0.aH] 0,.int .i64 n0]→cf 89 xs h=some (.bool r,h)
section
variable {cf:CallF}{m:Nat}
theorem oe {a7:FuncId→cu}(ha:a7 89=Ep)  (s0:ay)(n0:Int)(h:AHeap)(L:Mem)  (o:Has h (L)){out:Bool}(H:di.f m s0 n0=some out) :
  ∃r h',bj Tryz.prog a7 cf m 89 [.fp [af.fz s0.ai,aa.fz s0.an,.bool s0.aH] 0,.int .i64 n0] h=some (r,h')∧fi h' r (.bool out):=by
 refine au (fn:=Tryz.f89) ha Tryz.func89 (by kernel_rfl) (by kernel_rfl) ?_
 refine aK (Q:=fun s=>di.fin L out s) (fun _ _ h=>h) ?_
 have H:_=some out:=H
 unfold di.f at H
 show dR _ cf Ep m _ ⟨[.fp [af.fz s0.ai,aa.fz s0.an,.bool s0.aH] 0,.int .i64 n0,.any],[],h⟩ _
 refine q1 <| qq ?_
 rcases eu H with⟨c0,H⟩| ⟨c0,H⟩
 ·obtain rfl:=oi H
  exact qr [.b 2 c0] <| qt <| ⟨.inl rfl,bX (.bool (decide (n0<(s0.ai.length:Int)))) h (bW (ao))⟩
 ·obtain rfl:=oi H
  exact qr [.b 2 c0] <| qt <| ⟨.inl rfl,bX (.bool false) h (bW (ao))⟩
end
end Go.Proofs.YtifafejidnjckaaGreat
namespace Go.Proofs.YtifafejidnjckaaGreat
open Go Go.R
open Go.IntKind (i64 u64 u8 u32)
end Go.Proofs.YtifafejidnjckaaGreat
namespace Go.Proofs.YtifafejidnjckaaGreat
open Go Go.R
open Go.IntKind (i64 u64 u8 u32)
def A6:cu:=gj [0,1,4,5,6,7,25] [4,5] [120,114,98,66,2,66,66,115,123] [(7,[(6,none,0)])] [(2,[(6,none,1)])]
def bk.l0 (m:Nat)(s0:ay)(v1:ah):Nat→(List Int)→Int→Option ((List Int) × Int)
 | 0,_,_=>none
 | k+1,cg,i0=>if (decide (i0<(v1.args.length:Int)))=true then ((ix v1.args i0).bind fun v2=>(ix s0.an v2).bind fun v3=>(app 8 cg ([v3])).bind fun x0=>bk.l0 m s0 v1 k x0 (i64.wrap (i0+(1:Int)))) else (some ((cg,i0)))
def bk.f (m:Nat)(s0:ay)(n0:Int):Option (ah):=(ix s0.an n0).bind fun v0=>(ix s0.ai v0).bind fun v1=>(bk.l0 m s0 v1 m ([]:List Int) (0:Int)).bind fun bo=>match bo with | (iV,i1)=>some (ah.mk v1.kind v1.int v1.label iV)
def bk.fin (L:Mem)(r:ah)(s:St):Prop:=∃av,aP Tryz.prog (s.open A6) Tryz.f92.results.toList=some av∧CR s.h av (.agg [.int .i64 r.kind,.int .i64 r.int,.str r.label,aa.fz r.args])
def Pm (cf:CallF)(m:Nat):Prop:=∀(s0:ay) (n0:Int) (r:ah),bk.f m s0 n0=some r→∀h xs,pk xs [.fp [af.fz s0.ai,aa.fz s0.an,.bool s0.aH] 0,.int .i64 n0]→cf 92 xs h=some (.agg [.int .i64 r.kind,.int .i64 r.int,.str r.label,aa.fz r.args],h)
section
variable {cf:CallF}{m:Nat}
theorem bk.cd (L:Mem)(s0:ay)(v1:ah)   : b8 Tryz.prog cf A6 m (sub [1,1,1,0,1,0,0] (br Tryz.f92)) (fun k (σ:(List Int) × Int)=>bk.l0 m s0 v1 k σ.1 σ.2) (fun σ s=>match σ with | (cg,i0)=>∃aV h0,s=⟨[.fp [af.fz s0.ai,aa.fz s0.an,.bool s0.aH] 0,.any,.lp 4 0,.lp 5 0,.rs aV 0 cg.length 1,.int .i64 i0,.any],[some [.int .i64 (0:Int),.int .i64 (0:Int),.str (ab7 #[]),.nils],some [.int .i64 v1.kind,.int .i64 v1.int,.str v1.label,aa.fz v1.args]],h0⟩∧Has h0 ((aV,.sl cg.length 1 (aa.l cg))::L)) (fun out e s=>(e = .exit 0∧∃cg i0,(cg,i0)=out∧∃kX vm CZ aV h0,s=⟨[kX,.any,.lp 4 0,.lp 5 0,.rs aV 0 cg.length 1,vm,CZ],[some [.int .i64 (0:Int),.int .i64 (0:Int),.str (ab7 #[]),.nils],some [.int .i64 v1.kind,.int .i64 v1.int,.str v1.label,aa.fz v1.args]],h0⟩∧Has h0 ((aV,.sl cg.length 1 (aa.l cg))::L))):=by
 refine iO (fun _=>rfl) ?_
 rintro k ⟨cg,i0⟩ s out ⟨aV,h0,rfl,o1⟩ H
 have H:bk.l0 m s0 v1 (k+1) cg i0=some out:=H
 refine qq <| qq <| q0 <| qc H (fun c0 H=>?_) (fun c0 H=>?_)
 ·refine qk <| qq <| qb 1 ?_
  obtain⟨v2,e2,H⟩:=aS H
  obtain⟨v3,e3,H⟩:=aS H
  obtain⟨x0,e4,H⟩:=aS H
  obtain⟨dA,h1,e5,o2⟩:=fH (P:=Tryz.prog) (E:=aa) (l:=cg) (q:=0) (t2:=22) (x:=.fz [.int .i64 v3] 1 true) (l2:=([v3])) dt o1 rfl (by kernel_rfl) rfl e4
  exact qr [.v 8 (bO (k:=.i64) (E:=aa) (l:=v1.args) dt e2),.v 9 (cF  (E:=aa) (l:=v1.args) h0 A3 e2 rfl),.v 10 (bO (k:=.i64) (E:=aa) (l:=s0.an) dt e3),.v 11 (cF  (E:=aa) (l:=s0.an) h0 A3 e3 rfl),.a 13 e5] <| q0 <| ⟨(x0,i64.wrap (i0+(1:Int))),⟨dA,h1,by kernel_rfl,o2⟩,H⟩
 ·exact qx 0 <| ⟨rfl,cg,i0,oi H,.fp [af.fz s0.ai,aa.fz s0.an,.bool s0.aH] 0,.int .i64 i0,.bool (decide (i0<(v1.args.length:Int))),aV,h0,by kernel_rfl,o1⟩
theorem mR {a7:FuncId→cu}(ha:a7 92=A6)  (s0:ay)(n0:Int)(h:AHeap)(L:Mem)  (o:Has h (L)){out:ah}(H:bk.f m s0 n0=some out) :
  ∃r h',bj Tryz.prog a7 cf m 92 [.fp [af.fz s0.ai,aa.fz s0.an,.bool s0.aH] 0,.int .i64 n0] h=some (r,h')∧CR h' r (.agg [.int .i64 out.kind,.int .i64 out.int,.str out.label,aa.fz out.args]):=by
 refine au (fn:=Tryz.f92) ha Tryz.func92 (by kernel_rfl) (by kernel_rfl) ?_
 refine aK (Q:=fun s=>bk.fin L out s) (fun _ _ h=>h) ?_
 have H:_=some out:=H
 unfold bk.f at H
 show dR _ cf A6 m _ ⟨.fp [af.fz s0.ai,aa.fz s0.an,.bool s0.aH] 0 :: .int .i64 n0::tu [],[none,none],h⟩ _
 refine q1 <| qq ?_
 obtain⟨v0,e0,H⟩:=aS H
 obtain⟨v1,e1,H⟩:=aS H
 refine qr [.v 9 (bO (k:=.i64) (E:=aa) (l:=s0.an) dt e0),.v 10 (cF  (E:=aa) (l:=s0.an) h A3 e0 rfl),.v 11 (bO (k:=.i64) (E:=af) (l:=s0.ai) kI e1),.v 12 (fm  (E:=af) (l:=s0.ai) h rA rB e1)] <| qq <| q0 ?_
 have o0:Has h (((0),.sl (([]:List Int).length) 1 (aa.l ([]:List Int)))::L):=Has.nil o 1
 refine qq <| qq <| q0 <| qb 0 ?_
 obtain⟨bo,e6,H⟩:=aS H
 refine ql (bk.cd L s0 v1   (([]:List Int),(0:Int)) _ _ ⟨(0),h,by kernel_rfl,o0⟩ e6) ?_
 rintro e s ⟨rfl,iV,i1,rfl,g0,g1,g2,ca,h2,rfl,o3⟩
 try dsimp only at H
 refine qq ?_
 obtain⟨h3,e7,o4⟩:=mO (E:=aa) (l:=iV) (q:=0) o3 rfl
 obtain rfl:=oi H
 exact J5 [.a 0 e7] [] <| qq <| q0 <| qt <| ⟨.inl rfl,J6 (.agg [.int .i64 v1.kind,.int .i64 v1.int,.str v1.label,aa.fz iV]) h3 (yq (bT (ab (aA) (ab (aA) (ab (bH) (ab (cQ) (aq)))))))⟩
end
end Go.Proofs.YtifafejidnjckaaGreat
namespace Go.Proofs.YtifafejidnjckaaGreat
open Go Go.R
open Go.IntKind (i64 u64 u8 u32)
def xN:cu:=gj [0,1,4,5,6,7,8,9,10,27,42,58] [24] [4092,4084,4068,4038,3526,3974,3974,2950,3974,3974,3910,3654,1606,3654,3654,4091] [] [(2,[(6,none,1)])]
def aL.l1 (m:Nat)(x2:ah):Nat→(List Int)→Int→Option ((List Int) × Int)
 | 0,_,_=>none
 | k+1,dw,i0=>if (decide (i0≥(0:Int)))=true then ((ix x2.args i0).bind fun v5=>(app 8 dw ([v5])).bind fun x3=>aL.l1 m x2 k x3 (i64.wrap (i0 - (1:Int)))) else (some ((dw,i0)))
def aL.l0 (m:Nat)(s0:ay):Nat→(List Bool)→(List Int)→(List Int)→Option ((List Bool) × (List Int) × (List Int))
 | 0,_,_,_=>none
 | k+1,cL,bo,cM=>if (decide ((cM.length:Int) > (0:Int)))=true then ((ix cM (i64.wrap ((cM.length:Int) - (1:Int)))).bind fun v1=>(D4 cM 0 (i64.wrap ((cM.length:Int) - (1:Int)))).bind fun v2=>(ix cL v1).bind fun v3=>if v3=true then (aL.l0 m s0 k cL bo v2) else ((ix cL v1).bind fun v4=>(app 8 bo ([v1])).bind fun x1=>(bk.f m s0 v1).bind fun x2=>(aL.l1 m x2 m v2 (i64.wrap ((x2.args.length:Int) - (1:Int)))).bind fun bZ=>match bZ with | (jV,i1)=>aL.l0 m s0 k (cL.set v1.toNat true) x1 jV)) else (some ((cL,bo,cM)))
def aL.f (m:Nat)(s0:ay)(n0:Int):Option ((List Int)):=(pX 1 (s0.ai.length:Int) false).bind fun x0=>(ix s0.an n0).bind fun v0=>(aL.l0 m s0 m x0 ([]:List Int) ([v0])).bind fun kY=>match kY with | (NV,fC,pL)=>some fC
def aL.fin (L:Mem)(r:(List Int))(s:St):Prop:=∃av,aP Tryz.prog (s.open xN) Tryz.f93.results.toList=some av∧fi s.h av (aa.fz r)
def Uq (cf:CallF)(m:Nat):Prop:=∀(s0:ay) (n0:Int) (r:(List Int)),aL.f m s0 n0=some r→∀h xs,aX b5 h xs [.fp [af.fz s0.ai,aa.fz s0.an,.bool s0.aH] 0,.int .i64 n0]→cf 93 xs h=some (aa.fz r,h)
section
variable {cf:CallF}{m:Nat}
theorem aL.gN (L:Mem)(s0:ay)(ca:Nat)(cL:List Bool)(ca:Nat)(v1:Int)(x1:List Int)(gd:Nat)(x2:ah)   : b8 Tryz.prog cf xN m (sub [1,1,1,1,0,0,0,1,0,1,1,1,1,1,1,1,0,0] (br Tryz.f93)) (fun k (σ:(List Int) × Int)=>aL.l1 m x2 k σ.1 σ.2) (fun σ s=>match σ with | (dw,i0)=>∃fS h5,s=⟨.fp [af.fz s0.ai,aa.fz s0.an,.bool s0.aH] 0 :: .any :: .any :: .rs ca 0 cL.length 1 :: .rs gd 0 x1.length 1 :: .rs fS 0 dw.length 1 :: .any::aa.fz x2.args :: .int .i64 i0::j5 [],[none],h5⟩∧Has h5 ((fS,.sl dw.length 1 (aa.l dw))::(gd,.sl x1.length 1 (aa.l x1))::(ca,.sl cL.length 1 (bS.l (cL.set v1.toNat true)))::L)) (fun out e s=>(e = .exit 2∧∃dw i0,(dw,i0)=out∧∃wS pM Il fS h5,s=⟨[.fp [af.fz s0.ai,aa.fz s0.an,.bool s0.aH] 0,.any,.any,.rs ca 0 cL.length 1,.rs gd 0 x1.length 1,.rs fS 0 dw.length 1,.any,wS,pM,.any,.any,Il],[none],h5⟩∧Has h5 ((fS,.sl dw.length 1 (aa.l dw))::(gd,.sl x1.length 1 (aa.l x1))::(ca,.sl cL.length 1 (bS.l (cL.set v1.toNat true)))::L))):=by
 refine iO (fun _=>rfl) ?_
 rintro k ⟨dw,i0⟩ s out ⟨fS,h5,rfl,o7⟩ H
 have H:aL.l1 m x2 (k+1) dw i0=some out:=H
 refine qq <| qq <| q0 <| qc H (fun c2 H=>?_) (fun c2 H=>?_)
 ·refine qk <| qq <| qb 3 ?_
  obtain⟨v5,nI,H⟩:=aS H
  obtain⟨x3,oJ,H⟩:=aS H
  obtain⟨gF,h6,uc,o8⟩:=fH (P:=Tryz.prog) (E:=aa) (l:=dw) (q:=0) (t2:=22) (x:=.fz [.int .i64 v5] 1 true) (l2:=([v5])) dt o7 rfl (by kernel_rfl) rfl oJ
  exact qr [.v 3 (bO (k:=.i64) (E:=aa) (l:=x2.args) dt nI),.v 4 (cF  (E:=aa) (l:=x2.args) h5 A3 nI rfl),.a 6 uc] <| q0 <| ⟨(x3,i64.wrap (i0 - (1:Int))),⟨gF,h6,(acq (b:=⟨.fp [af.fz s0.ai,aa.fz s0.an,.bool s0.aH] 0 :: .any :: .any :: .rs ca 0 cL.length 1 :: .rs gd 0 x1.length 1 :: .rs gF 0 x3.length 1 :: .any::aa.fz x2.args :: .int .i64 (i64.wrap (i0 - (1:Int)))::j5 [],[none],h6⟩) (by kernel_rfl) (by simp only [abF])),(by have o:Has h6 ((gF,.sl x3.length 1 (aa.l x3))::(gd,.sl x1.length 1 (aa.l x1))::(ca,.sl cL.length 1 (bS.l (cL.set v1.toNat true)))::L):=o8; simpa only [abF] using o)⟩,H⟩
 ·exact qx 2 <| ⟨rfl,dw,i0,oi H,aa.fz x2.args,.int .i64 i0,.bool (decide (i0≥(0:Int))),fS,h5,(acq (b:=⟨[.fp [af.fz s0.ai,aa.fz s0.an,.bool s0.aH] 0,.any,.any,.rs ca 0 cL.length 1,.rs gd 0 x1.length 1,.rs fS 0 dw.length 1,.any,aa.fz x2.args,.int .i64 i0,.any,.any,.bool (decide (i0≥(0:Int)))],[none],h5⟩) (by kernel_rfl) (by simp only [abF])),(by have o:Has h5 ((fS,.sl dw.length 1 (aa.l dw))::(gd,.sl x1.length 1 (aa.l x1))::(ca,.sl cL.length 1 (bS.l (cL.set v1.toNat true)))::L):=o7; simpa only [abF] using o)⟩
theorem aL.cd (L:Mem)(s0:ay)  (za:Pm cf m):b8 Tryz.prog cf xN m (sub [1,1,1,1,0,0,0] (br Tryz.f93)) (fun k (σ:(List Bool) × (List Int) × (List Int))=>aL.l0 m s0 k σ.1 σ.2.1 σ.2.2) (fun σ s=>match σ with | (cL,bo,cM)=>∃g0 g1 g2 g3 g4 eP dj ca h2,s=⟨[.fp [af.fz s0.ai,aa.fz s0.an,.bool s0.aH] 0,.any,.any,.rs ca 0 cL.length 1,.rs dj 0 bo.length 1,.rs eP 0 cM.length 1,g0,g1,g2,.any,g3,g4],[none],h2⟩∧Has h2 ((eP,.sl cM.length 1 (aa.l cM))::(dj,.sl bo.length 1 (aa.l bo))::(ca,.sl cL.length 1 (bS.l cL))::L)) (fun out e s=>(e = .exit 0∧∃cL bo cM,(cL,bo,cM)=out∧∃kX vk vm qT wS pM Im NW Il eP dj ca h2,s=⟨[kX,.any,.any,vk,.rs dj 0 bo.length 1,vm,qT,wS,pM,Im,NW,Il],[none],h2⟩∧Has h2 ((eP,.sl cM.length 1 (aa.l cM))::(dj,.sl bo.length 1 (aa.l bo))::(ca,.sl cL.length 1 (bS.l cL))::L))):=by
 refine iO (fun _=>rfl) ?_
 rintro k ⟨cL,bo,cM⟩ s out ⟨g0,g1,g2,g3,g4,eP,dj,ca,h2,rfl,o3⟩ H
 have H:aL.l0 m s0 (k+1) cL bo cM=some out:=H
 refine qq <| qq <| q0 <| qc H (fun c0 H=>?_) (fun c0 H=>?_)
 ·refine qk <| qb 1 <| qq ?_
  obtain⟨v1,e4,H⟩:=aS H
  refine qr [.v 4 (aJ (k:=.i64) (E:=aa) (l:=cM) (q:=0) dt o3 rfl e4),.v 5 (bm  (E:=aa) (l:=cM) (q:=0) o3 rfl A3 e4 rfl)] <| qq ?_
  obtain⟨v2,e5,H⟩:=aS H
  obtain⟨NX,o4⟩:=CS (P:=Tryz.prog) (k:=.i64) (E:=aa) (q:=0) o3 rfl dt e5
  refine qr [.v 4 NX] <| qq <| qq ?_
  obtain⟨v3,e6,H⟩:=aS H
  refine qr [.v 2 (aJ (k:=.i64) (E:=bS) (l:=cL) (q:=2) Cc o4 rfl e6),.v 3 (bm  (E:=bS) (l:=cL) (q:=2) o4 rfl A4 e6 rfl)] <| qc H (fun c1 H=>?_) (fun c1 H=>?_)
  ·exact qx 1 <| ⟨(cL,bo,v2),⟨.int .i64 v1,.any,.any,.bool v3,.any,eP,dj,ca,h2,by kernel_rfl,o4⟩,H⟩
  ·refine qk <| qq ?_
   obtain⟨v4,e7,H⟩:=aS H
   obtain⟨h3,e8,o5⟩:=en (P:=Tryz.prog) (tf:=4) (E:=bS) (l:=cL) (q:=2) (v:=true) (x:=.bool true) o4 rfl Z4 e7 rfl rfl
   refine qr [.v 2 (aJ (k:=.i64) (E:=bS) (l:=cL) (q:=2) Cc o4 rfl e7),.w 3 e8] <| qq ?_
   obtain⟨x1,e9,H⟩:=aS H
   obtain⟨gd,h4,lg,o6⟩:=fH (P:=Tryz.prog) (E:=aa) (l:=bo) (q:=1) (t2:=22) (x:=.fz [.int .i64 v1] 1 true) (l2:=([v1])) dt o5 rfl (by kernel_rfl) rfl e9
   refine qr [.a 3 lg] <| qq ?_
   obtain⟨x2,mf,H⟩:=aS H
   refine qr [.a 2 (za _ _ _ mf h4 _ (hX (AW (pure_cons (bG.aI (E:=af) (l:=s0.ai)) (pure_cons (bG.aI (E:=aa) (l:=s0.an)) (pure_cons (ba) (pure_nil))))) (hX (dc) (n7))))] <| qq <| q0 <| qb 2 ?_
   obtain⟨bZ,wD,H⟩:=aS H
   refine ql (aL.gN L s0 ca cL ca v1 x1 gd x2   (v2,i64.wrap ((x2.args.length:Int) - (1:Int))) _ _ ⟨eP,h4,(acq (b:=⟨.fp [af.fz s0.ai,aa.fz s0.an,.bool s0.aH] 0 :: .any :: .any :: .rs ca 0 cL.length 1 :: .rs gd 0 x1.length 1 :: .rs eP 0 v2.length 1 :: .any::aa.fz x2.args :: .int .i64 (i64.wrap ((x2.args.length:Int) - (1:Int)))::j5 [],[none],h4⟩) (by kernel_rfl) (by simp only [abF])),(by have o:Has h4 ((eP,.sl v2.length 1 (aa.l v2))::(gd,.sl x1.length 1 (aa.l x1))::(ca,.sl cL.length 1 (bS.l (cL.set v1.toNat true)))::L):=o6; simpa only [abF] using o)⟩ wD) ?_
   rintro e s ⟨rfl,jV,i1,rfl,g5,g6,g7,jb,h7,rfl,o9⟩
   try dsimp only at H
   exact⟨(cL.set v1.toNat true,x1,jV),⟨.any,g5,g6,.any,g7,jb,gd,ca,h7,(acq (b:=⟨[.fp [af.fz s0.ai,aa.fz s0.an,.bool s0.aH] 0,.any,.any,.rs ca 0 cL.length 1,.rs gd 0 x1.length 1,.rs jb 0 jV.length 1,.any,g5,g6,.any,.any,g7],[none],h7⟩) (by kernel_rfl) (by simp only [abF])),(by have o:Has h7 ((jb,.sl jV.length 1 (aa.l jV))::(gd,.sl x1.length 1 (aa.l x1))::(ca,.sl cL.length 1 (bS.l (cL.set v1.toNat true)))::L):=o9; simpa only [abF] using o)⟩,H⟩
 ·exact qx 0 <| ⟨rfl,cL,bo,cM,oi H,.fp [af.fz s0.ai,aa.fz s0.an,.bool s0.aH] 0,.rs ca 0 cL.length 1,.rs eP 0 cM.length 1,.any,.any,.any,.bool (decide ((cM.length:Int) > (0:Int))),.any,.any,eP,dj,ca,h2,by kernel_rfl,o3⟩
theorem mS {a7:FuncId→cu}(ha:a7 93=xN)(za:Pm cf m)(s0:ay)(n0:Int)(h:AHeap)(L:Mem)  (o:Has h (L)){out:(List Int)}(H:aL.f m s0 n0=some out) :
  ∃r h',bj Tryz.prog a7 cf m 93 [.fp [af.fz s0.ai,aa.fz s0.an,.bool s0.aH] 0,.int .i64 n0] h=some (r,h')∧fi h' r (aa.fz out):=by
 refine au (fn:=Tryz.f93) ha Tryz.func93 (by kernel_rfl) (by kernel_rfl) ?_
 refine aK (Q:=fun s=>aL.fin L out s) (fun _ _ h=>h) ?_
 have H:_=some out:=H
 unfold aL.f at H
 show dR _ cf xN m _ ⟨.fp [af.fz s0.ai,aa.fz s0.an,.bool s0.aH] 0 :: .int .i64 n0::u4 [],[none],h⟩ _
 refine q1 <| qq ?_
 obtain⟨x0,e0,H⟩:=aS H
 obtain⟨aV,h0,e1,o0⟩:=lL (P:=Tryz.prog) (E:=bS) (z:=false) (zv:=.bool false) Cc o 4 rfl rfl rfl rfl e0
 refine qr [.a 5 e1] <| qq <| q0 ?_
 have o1:Has h0 (((0),.sl (([]:List Int).length) 1 (aa.l ([]:List Int)))::(aV,.sl x0.length 1 (bS.l x0))::L):=Has.nil o0 1
 refine qq ?_
 obtain⟨v0,e2,H⟩:=aS H
 obtain⟨dA,h1,e3,o2⟩:=D5 (E:=aa) (l:=[v0]) (cs:=[.int .i64 v0]) o1 (by kernel_rfl)
 refine qr [.v 5 (bO (k:=.i64) (E:=aa) (l:=s0.an) dt e2),.v 6 (cF  (E:=aa) (l:=s0.an) h0 A3 e2 rfl),.a 7 e3] <| qq <| qb 0 ?_
 obtain⟨kY,wE,H⟩:=aS H
 refine ql (aL.cd L s0  za (x0,([]:List Int),[v0]) _ _ ⟨.any,.any,.any,.any,.any,dA,(0),aV,h1,(acq (b:=⟨.fp [af.fz s0.ai,aa.fz s0.an,.bool s0.aH] 0 :: .any :: .any :: .rs aV 0 x0.length 1 :: .rs (0) 0 (([]:List Int).length) 1 :: .rs dA 0 (([v0]:List Int).length) 1::GR [],[none],h1⟩) (by kernel_rfl) (by simp only [abF])),(by have o:Has h1 ((dA,.sl (([v0]:List Int).length) 1 (aa.l ([v0])))::((0),.sl (([]:List Int).length) 1 (aa.l ([]:List Int)))::(aV,.sl x0.length 1 (bS.l x0))::L):=o2; simpa only [abF] using o)⟩ wE) ?_
 rintro e s ⟨rfl,NV,fC,pL,rfl,g8,g9,g10,g11,g12,g13,g14,g15,g16,kB,b9,fW,h8,rfl,qU⟩
 try dsimp only at H
 refine q1 ?_
 have oR:Has h8 ((kB,.sl pL.length 1 (aa.l pL))::(b9,.sl fC.length 1 (aa.l fC))::L):=Has.del qU 2
 have s6:Has h8 ((b9,.sl fC.length 1 (aa.l fC))::L):=Has.del oR 0
 obtain rfl:=oi H
 exact qt <| ⟨.inl rfl,bX (.rs b9 0 fC.length 1) h8 (bW (xA (E:=aa) (l:=fC) (q:=0) s6 rfl (fun _=>rfl)))⟩
end
end Go.Proofs.YtifafejidnjckaaGreat
namespace Go.Proofs.YtifafejidnjckaaGreat
open Go Go.R
open Go.IntKind (i64 u64 u8 u32)
def Er:cu:=gj [0,1,2,3,4] [2,3] [19,15] [] []
def eZ.f (m:Nat)(a0:ah)(b0:ah):Option (Bool):=if (a0.kind==b0.kind)=true then (if (a0.int==b0.int)=true then (if (a0.label.data.toList==b0.label.data.toList)=true then (some ((a0.args.length:Int)==(b0.args.length:Int))) else (some false)) else (some false)) else (some false)
def eZ.fin (L:Mem)(r:Bool)(s:St):Prop:=∃av,aP Tryz.prog (s.open Er) Tryz.f94.results.toList=some av∧fi s.h av (.bool r)
def Mu (cf:CallF)(m:Nat):Prop:=∀(a0:ah) (b0:ah) (r:Bool),eZ.f m a0 b0=some r→∀h xs,aX b5 h xs [.agg [.int .i64 a0.kind,.int .i64 a0.int,.str a0.label,aa.fz a0.args],.agg [.int .i64 b0.kind,.int .i64 b0.int,.str b0.label,aa.fz b0.args]]→cf 94 xs h=some (.bool r,h)
section
variable {cf:CallF}{m:Nat}
theorem r7 {a7:FuncId→cu}(ha:a7 94=Er)  (a0:ah)(b0:ah)(h:AHeap)(L:Mem)  (o:Has h (L)){out:Bool}(H:eZ.f m a0 b0=some out) :
  ∃r h',bj Tryz.prog a7 cf m 94 [.agg [.int .i64 a0.kind,.int .i64 a0.int,.str a0.label,aa.fz a0.args],.agg [.int .i64 b0.kind,.int .i64 b0.int,.str b0.label,aa.fz b0.args]] h=some (r,h')∧fi h' r (.bool out):=by
 refine au (fn:=Tryz.f94) ha Tryz.func94 (by kernel_rfl) (by kernel_rfl) ?_
 refine aK (Q:=fun s=>eZ.fin L out s) (fun _ _ h=>h) ?_
 have H:_=some out:=H
 unfold eZ.f at H
 show dR _ cf Er m _ ⟨.agg [.int .i64 a0.kind,.int .i64 a0.int,.str a0.label,aa.fz a0.args] :: .agg [.int .i64 b0.kind,.int .i64 b0.int,.str b0.label,aa.fz b0.args]::j5 [],[none,none],h⟩ _
 refine q1 <| qq ?_
 rcases eu H with⟨c0,H⟩| ⟨c0,H⟩
 ·rcases eu H with⟨c1,H⟩| ⟨c1,H⟩
  ·rcases eu H with⟨c2,H⟩| ⟨c2,H⟩
   ·obtain rfl:=oi H
    exact qr [.b 5 c0,.b 12 c1,.b 19 c2] <| qt <| ⟨.inl rfl,bX (.bool ((a0.args.length:Int)==(b0.args.length:Int))) h (bW (ao))⟩
   ·obtain rfl:=oi H
    exact qr [.b 5 c0,.b 12 c1,.b 19 c2] <| qt <| ⟨.inl rfl,bX (.bool false) h (bW (ao))⟩
  ·obtain rfl:=oi H
   exact qr [.b 5 c0,.b 12 c1] <| qt <| ⟨.inl rfl,bX (.bool false) h (bW (ao))⟩
 ·obtain rfl:=oi H
  exact qr [.b 5 c0] <| qt <| ⟨.inl rfl,bX (.bool false) h (bW (ao))⟩
end
end Go.Proofs.YtifafejidnjckaaGreat
namespace Go.Proofs.YtifafejidnjckaaGreat
open Go Go.R
open Go.IntKind (i64 u64 u8 u32)
def Es:cu:=gj [0,1,3] [] [4,3] [] []
def dS.f (m:Nat)(n0:Int)(x0:aj):Option (Bool):=(dV.f m x0 n0).bind fun x1=>some (!x1)
def dS.fin (L:Mem)(r:Bool)(s:St):Prop:=∃av,aP Tryz.prog (s.open Es) Tryz.f95.results.toList=some av∧fi s.h av (.bool r)
def W5 (cf:CallF)(m:Nat):Prop:=∀(n0:Int) (x0:aj) (r:Bool),dS.f m n0 x0=some r→∀h xs,aX b5 h xs [.int .i64 n0,.fp [.fp [.bool x0.aF,af.fz x0.ae,aa.fz x0.aB] 0] 0]→cf 95 xs h=some (.bool r,h)
section
variable {cf:CallF}{m:Nat}
theorem lO {a7:FuncId→cu}(ha:a7 95=Es)(Ur:W3 cf m)(n0:Int)(x0:aj)(h:AHeap)(L:Mem)  (o:Has h (L)){out:Bool}(H:dS.f m n0 x0=some out) :
  ∃r h',bj Tryz.prog a7 cf m 95 [.int .i64 n0,.fp [.fp [.bool x0.aF,af.fz x0.ae,aa.fz x0.aB] 0] 0] h=some (r,h')∧fi h' r (.bool out):=by
 refine au (fn:=Tryz.f95) ha Tryz.func95 (by kernel_rfl) (by kernel_rfl) ?_
 refine aK (Q:=fun s=>dS.fin L out s) (fun _ _ h=>h) ?_
 have H:_=some out:=H
 unfold dS.f at H
 show dR _ cf Es m _ ⟨[.int .i64 n0,.fp [.fp [.bool x0.aF,af.fz x0.ae,aa.fz x0.aB] 0] 0,.any],[],h⟩ _
 refine q1 <| qq ?_
 obtain⟨x1,e0,H⟩:=aS H
 obtain rfl:=oi H
 exact qr [.a 2 (Ur _ _ _ e0 h _ (er (ab (dJ (pure_cons (ba) (pure_cons (bG.aI (E:=af) (l:=x0.ae)) (pure_cons (bG.aI (E:=aa) (l:=x0.aB)) (pure_nil))))) (ab (aA) (aq)))))] <| qt <| ⟨.inl rfl,bX (.bool (!x1)) h (bW (ao))⟩
end
end Go.Proofs.YtifafejidnjckaaGreat
namespace Go.Proofs.YtifafejidnjckaaGreat
open Go Go.R
open Go.IntKind (i64 u64 u8 u32)
def A7:cu:=gj [0,1,2,3,4,5,7,8,9,10,11,12,14,24,53,54,55,56] [11,1000048] [262080,261696,253760,262079,261568,261574,260567,260567,258519,144855,13783,140759,144855,144855,261631,262079] [] [(8,[(12,none,1)])]
def bp.l0 (m:Nat)(x1:List Int)(x3:aZ)(rec:Int→(List (Int × Int))→(List Int)→aZ→aZ→Option (Int × (List (Int × Int)) × aZ))(v2:ah):Nat→(List Int)→Int→(List (Int × Int))→aZ→Option ((List Int) × Int × (List (Int × Int)) × aZ)
 | 0,_,_,_,_=>none
 | k+1,cg,x6,x7,x8=>if (decide (x6<(v2.args.length:Int)))=true then ((ix v2.args x6).bind fun v3=>(rec v3 x7 x1 x8 x3).bind fun x9=>(app 8 cg ([x9.1])).bind fun mT=>bp.l0 m x1 x3 rec v2 k mT (i64.wrap (x6+(1:Int))) x9.2.1 x9.2.2) else (some ((cg,x6,x7,x8)))
def bp.b (m:Nat)(rec:Int→(List (Int × Int))→(List Int)→aZ→aZ→Option (Int × (List (Int × Int)) × aZ))(i0:Int)(x0:List (Int × Int))(x1:List Int)(x2:aZ)(x3:aZ):Option (Int × (List (Int × Int)) × aZ):=(ix x1 i0).bind fun v0=>if ((nn x0 v0).2)=true then (some ((nn x0 v0).1,x0,x2)) else ((ix x1 i0).bind fun v1=>(ix x3.nodes i0).bind fun v2=>(app 56 x2.nodes [ah.mk v2.kind v2.int v2.label ([]:List Int)]).bind fun x5=>(bp.l0 m x1 x3 rec v2 m ([]:List Int) (0:Int) (zU x0 v1 (x2.nodes.length:Int)) (aZ.mk x5 x2.root)).bind fun bo=>match bo with | (iV,C0,r8,zY)=>(ix zY.nodes (x2.nodes.length:Int)).bind fun v4=>some ((x2.nodes.length:Int),r8,(aZ.mk (zY.nodes.set (x2.nodes.length:Int).toNat (ah.mk v4.kind v4.int v4.label iV)) zY.root)))
def bp.f (m:Nat):Nat→Int→(List (Int × Int))→(List Int)→aZ→aZ→Option (Int × (List (Int × Int)) × aZ)
 | 0,_,_,_,_,_=>none
 | k+1,i0,x0,x1,x2,x3=>bp.b m (bp.f m k) i0 x0 x1 x2 x3
def bp.fin (L:Mem)(dW:Nat)(eJ:Nat)(dX:Nat)(dE:Nat)(fw:Nat)(fJ:List Nat)(ep:Nat)(dP:Nat)(i0:Int)(x0:List (Int × Int))(x1:List Int)(x2:aZ)(x3:aZ)(r:Int × (List (Int × Int)) × aZ)(s:St):Prop:=∃(nq:Nat) (jc:List Nat),aP Tryz.prog (s.open A7) Tryz.f97.results.toList=some (.int .i64 r.1)∧Has s.h ((dW,.ob [.mp eJ])::(eJ,.mp (mz r.2.1))::(dX,.ob [aa.fz x1])::(dE,.ob [.rs nq 0 r.2.2.nodes.length 4,.int .i64 r.2.2.root])::(nq,.sl r.2.2.nodes.length 4 (db.l (aY r.2.2.nodes jc)))::(ep,.ob [af.fz x3.nodes,.int .i64 x3.root])::(dP,.ob [.fn 97 [.ptr dW 0,.ptr dX 0,.ptr dE 0,.ptr ep 0,.ptr dP 0]])::(eR r.2.2.nodes jc++L))
def SQ (cf:CallF)(m:Nat)(kk:Nat):Prop:=∀(i0:Int) (x0:List (Int × Int)) (x1:List Int) (x2:aZ) (x3:aZ) (r:Int × (List (Int × Int)) × aZ),bp.f m kk i0 x0 x1 x2 x3=some r→∀h L (dW:Nat) (eJ:Nat) (dX:Nat) (dE:Nat) (fw:Nat) (fJ:List Nat) (ep:Nat) (dP:Nat),Has h ((dW,.ob [.mp eJ])::(eJ,.mp (mz x0))::(dX,.ob [aa.fz x1])::(dE,.ob [.rs fw 0 x2.nodes.length 4,.int .i64 x2.root])::(fw,.sl x2.nodes.length 4 (db.l (aY x2.nodes fJ)))::(ep,.ob [af.fz x3.nodes,.int .i64 x3.root])::(dP,.ob [.fn 97 [.ptr dW 0,.ptr dX 0,.ptr dE 0,.ptr ep 0,.ptr dP 0]])::(eR x2.nodes fJ++L))→∀xs,xs.map bh=[.int .i64 i0,.ptr dW 0,.ptr dX 0,.ptr dE 0,.ptr ep 0,.ptr dP 0]→∃(nq:Nat) (jc:List Nat) (h':AHeap),cf 97 xs h=some (.int .i64 r.1,h')∧Has h' ((dW,.ob [.mp eJ])::(eJ,.mp (mz r.2.1))::(dX,.ob [aa.fz x1])::(dE,.ob [.rs nq 0 r.2.2.nodes.length 4,.int .i64 r.2.2.root])::(nq,.sl r.2.2.nodes.length 4 (db.l (aY r.2.2.nodes jc)))::(ep,.ob [af.fz x3.nodes,.int .i64 x3.root])::(dP,.ob [.fn 97 [.ptr dW 0,.ptr dX 0,.ptr dE 0,.ptr ep 0,.ptr dP 0]])::(eR r.2.2.nodes jc++L))
section
variable {cf:CallF}{m:Nat}
theorem bp.cd (L:Mem)(dW:Nat)(eJ:Nat)(dX:Nat)(dE:Nat)(fw:Nat)(fJ:List Nat)(ep:Nat)(dP:Nat)(i0:Int)(x0:List (Int × Int))(x1:List Int)(x2:aZ)(x3:aZ)(v2:ah)  {kk:Nat}(Io:SQ cf m kk)  : b8 Tryz.prog cf A7 m (sub [1,1,1,1,1,1,1,0,1,0,0] (br Tryz.f97)) (fun k (σ:(List Int) × Int × (List (Int × Int)) × aZ)=>bp.l0 m x1 x3 (bp.f m kk) v2 k σ.1 σ.2.1 σ.2.2.1 σ.2.2.2) (fun σ s=>match σ with | (cg,x6,x7,x8)=>∃dA ca vo h3,s=⟨j5 (.ptr dE 0 :: .any :: .ptr dP 0::j5 [.int .i64 (x2.nodes.length:Int),.any,.rs dA 0 cg.length 1,.any,.any,aa.fz v2.args,.int .i64 (v2.args.length:Int),.int .i64 x6,.any]),[none,none],h3⟩∧Has h3 ((dA,.sl cg.length 1 (aa.l cg))::(ca,.sl x8.nodes.length 4 (db.l (aY x8.nodes vo)))::(dW,.ob [.mp eJ])::(eJ,.mp (mz x7))::(dX,.ob [aa.fz x1])::(dE,.ob [.rs ca 0 x8.nodes.length 4,.int .i64 x8.root])::(ep,.ob [af.fz x3.nodes,.int .i64 x3.root])::(dP,.ob [.fn 97 [.ptr dW 0,.ptr dX 0,.ptr dE 0,.ptr ep 0,.ptr dP 0]])::(eR x8.nodes vo++L))) (fun out e s=>(e = .exit 0∧∃cg x6 x7 x8,(cg,x6,x7,x8)=out∧∃vk NY NZ Us Ut dA ca vo h3,s=⟨j5 (.ptr dE 0 :: .any::vk::j5 [.int .i64 (x2.nodes.length:Int),.any,.rs dA 0 cg.length 1,.any,.any,NY,NZ,Us,Ut]),[none,none],h3⟩∧Has h3 ((dA,.sl cg.length 1 (aa.l cg))::(ca,.sl x8.nodes.length 4 (db.l (aY x8.nodes vo)))::(dW,.ob [.mp eJ])::(eJ,.mp (mz x7))::(dX,.ob [aa.fz x1])::(dE,.ob [.rs ca 0 x8.nodes.length 4,.int .i64 x8.root])::(ep,.ob [af.fz x3.nodes,.int .i64 x3.root])::(dP,.ob [.fn 97 [.ptr dW 0,.ptr dX 0,.ptr dE 0,.ptr ep 0,.ptr dP 0]])::(eR x8.nodes vo++L)))):=by
 refine iO (fun _=>rfl) ?_
 rintro k ⟨cg,x6,x7,x8⟩ s out ⟨dA,ca,vo,h3,rfl,o5⟩ H
 have H:bp.l0 m x1 x3 (bp.f m kk) v2 (k+1) cg x6 x7 x8=some out:=H
 refine q1 <| qq <| qc H (fun c1 H=>?_) (fun c1 H=>?_)
 ·refine qk <| qq <| qb 1 <| qq ?_
  obtain⟨v3,e7,H⟩:=aS H
  refine qr [.v 0 (bO (k:=.i64) (E:=aa) (l:=v2.args) dt e7),.v 1 (cF  (E:=aa) (l:=v2.args) h3 A3 e7 rfl)] ?_
  obtain⟨x9,e8,H⟩:=aS H
  obtain⟨dj,C1,h4,e9,o6⟩:=Io _ _ _ _ _ _ e8 h3 _ _ _ _ _ _ vo _ _ ((Has.xI (pre:=[(dW,.ob [.mp eJ]),(eJ,.mp (mz x7)),(dX,.ob [aa.fz x1]),(dE,.ob [.rs ca 0 x8.nodes.length 4,.int .i64 x8.root]),(ca,.sl x8.nodes.length 4 (db.l (aY x8.nodes vo))),(ep,.ob [af.fz x3.nodes,.int .i64 x3.root]),(dP,.ob [.fn 97 [.ptr dW 0,.ptr dX 0,.ptr dE 0,.ptr ep 0,.ptr dP 0]])]) (mid:=[(dA,.sl cg.length 1 (aa.l cg))]) (Has.front (Has.front (Has.front (Has.front (Has.front (Has.front (Has.front (Has.front o5 0 rfl) 7 rfl) 7 rfl) 3 rfl) 7 rfl) 7 rfl) 7 rfl) 7 rfl)))  [.int .i64 v3,.ptr dW 0,.ptr dX 0,.ptr dE 0,.ptr ep 0,.ptr dP 0] (aR (bU (dc)) (aR (rfl) (aR (rfl) (aR (rfl) (aR (rfl) (aR (rfl) (eO)))))))
  have o7:=Has.xI (pre:=[(dW,.ob [.mp eJ]),(eJ,.mp (mz x9.2.1)),(dX,.ob [aa.fz x1]),(dE,.ob [.rs dj 0 x9.2.2.nodes.length 4,.int .i64 x9.2.2.root]),(dj,.sl x9.2.2.nodes.length 4 (db.l (aY x9.2.2.nodes C1))),(ep,.ob [af.fz x3.nodes,.int .i64 x3.root]),(dP,.ob [.fn 97 [.ptr dW 0,.ptr dX 0,.ptr dE 0,.ptr ep 0,.ptr dP 0]])]) (N:=[(dA,.sl cg.length 1 (aa.l cg))]) (mid:=eR x9.2.2.nodes C1) o6
  obtain⟨mT,lg,H⟩:=aS H
  obtain⟨eP,h5,mf,o8⟩:=fH (P:=Tryz.prog) (E:=aa) (l:=cg) (q:=7) (t2:=22) (x:=.fz [.int .i64 x9.1] 1 true) (l2:=([x9.1])) dt o7 rfl (by kernel_rfl) rfl lg
  exact qr [.v 1 (show b7 Tryz.prog h3 94 (.ptr dP 0)=some (.fn 97 [.ptr dW 0,.ptr dX 0,.ptr dE 0,.ptr ep 0,.ptr dP 0]) from dO (q:=7) (cs:=[.fn 97 [.ptr dW 0,.ptr dX 0,.ptr dE 0,.ptr ep 0,.ptr dP 0]]) o5 rfl (by kernel_rfl)),.a 3 e9,.a 5 mf] <| q0 <| ⟨(mT,i64.wrap (x6+(1:Int)),x9.2.1,x9.2.2),⟨eP,dj,C1,h5,by kernel_rfl,(Has.front (Has.front (Has.front (Has.front (Has.front (Has.front (Has.front (Has.front o8 6 rfl) 6 rfl) 5 rfl) 5 rfl) 5 rfl) 5 rfl) 6 rfl) 7 rfl)⟩,H⟩
 ·exact qx 0 <| ⟨rfl,cg,x6,x7,x8,oi H,.ptr dP 0,aa.fz v2.args,.int .i64 (v2.args.length:Int),.int .i64 x6,.bool (decide (x6<(v2.args.length:Int))),dA,ca,vo,h3,by kernel_rfl,o5⟩
theorem qV {a7:FuncId→cu}(ha:a7 97=A7)  (i0:Int)(x0:List (Int × Int))(x1:List Int)(x2:aZ)(x3:aZ)(h:AHeap)(L:Mem)(dW:Nat)(eJ:Nat)(dX:Nat)(dE:Nat)(fw:Nat)(fJ:List Nat)(ep:Nat)(dP:Nat)  {kk:Nat}(Io:SQ cf m kk)(o:Has h ((dW,.ob [.mp eJ])::(eJ,.mp (mz x0))::(dX,.ob [aa.fz x1])::(dE,.ob [.rs fw 0 x2.nodes.length 4,.int .i64 x2.root])::(fw,.sl x2.nodes.length 4 (db.l (aY x2.nodes fJ)))::(ep,.ob [af.fz x3.nodes,.int .i64 x3.root])::(dP,.ob [.fn 97 [.ptr dW 0,.ptr dX 0,.ptr dE 0,.ptr ep 0,.ptr dP 0]])::(eR x2.nodes fJ++L))){out:Int × (List (Int × Int)) × aZ}(H:bp.f m (kk+1) i0 x0 x1 x2 x3=some out) :
  ∃r h',bj Tryz.prog a7 cf m 97 [.int .i64 i0,.ptr dW 0,.ptr dX 0,.ptr dE 0,.ptr ep 0,.ptr dP 0] h=some (r,h')∧∃(nq:Nat) (jc:List Nat),r = .int .i64 out.1∧Has h' ((dW,.ob [.mp eJ])::(eJ,.mp (mz out.2.1))::(dX,.ob [aa.fz x1])::(dE,.ob [.rs nq 0 out.2.2.nodes.length 4,.int .i64 out.2.2.root])::(nq,.sl out.2.2.nodes.length 4 (db.l (aY out.2.2.nodes jc)))::(ep,.ob [af.fz x3.nodes,.int .i64 x3.root])::(dP,.ob [.fn 97 [.ptr dW 0,.ptr dX 0,.ptr dE 0,.ptr ep 0,.ptr dP 0]])::(eR out.2.2.nodes jc++L)):=by
 refine au (fn:=Tryz.f97) ha Tryz.func97 (by kernel_rfl) (by kernel_rfl) ?_
 refine aK (Q:=fun s=>bp.fin L dW eJ dX dE fw fJ ep dP i0 x0 x1 x2 x3 out s) (fun _ _ ⟨h1,nq,jc,h2,h3⟩=>⟨h1,_,h2,nq,jc,rfl,h3⟩) ?_
 have H:bp.b m (bp.f m kk) i0 x0 x1 x2 x3=some out:=H
 unfold bp.b at H
 show dR _ cf A7 m _ ⟨.int .i64 i0 :: .ptr dW 0 :: .ptr dX 0 :: .ptr dE 0 :: .ptr ep 0 :: .ptr dP 0::oQ [],[none,none],h⟩ _
 refine q1 <| qq <| qq ?_
 obtain⟨v0,e0,H⟩:=aS H
 refine qr [.v 0 (show b7 Tryz.prog h 84 (.ptr dW 0)=some (.mp eJ) from dO (q:=0) (cs:=[.mp eJ]) o rfl (by kernel_rfl)),.v 1 (show b7 Tryz.prog h 22 (.ptr dX 0)=some (aa.fz x1) from dO (q:=2) (cs:=[aa.fz x1]) o rfl (by kernel_rfl)),.v 3 (bO (k:=.i64) (E:=aa) (l:=x1) dt e0),.v 4 (cF  (E:=aa) (l:=x1) h A3 e0 rfl),.v 5 (show fD Tryz.prog h 84 (.mp eJ) (.int .i64 v0) true=some (.tup [.int .i64 ((nn x0 v0).1),.bool ((nn x0 v0).2)]) from (Qs (q:=1) (l:=x0) (k:=v0) KZ o rfl).1)] <| qq <| q0 <| qc H (fun c0 H=>?_) (fun c0 H=>?_)
 ·obtain rfl:=oi H
  exact q1 <| qt <| ⟨.inl rfl,⟨fw,fJ,by kernel_rfl,he o⟩⟩
 ·refine qk <| qq <| qr [.v 1 (show b7 Tryz.prog h 23 (.ptr dE 0)=some (.rs fw 0 x2.nodes.length 4) from dO (q:=3) (cs:=[.rs fw 0 x2.nodes.length 4,.int .i64 x2.root]) o rfl (by kernel_rfl))] <| qq ?_
  obtain⟨v1,e1,H⟩:=aS H
  obtain⟨h0,e2,o0⟩:=Qt (q:=1) (l:=x0) (k:=v1) (v:=(x2.nodes.length:Int)) KZ o rfl
  refine qr [.v 0 (show b7 Tryz.prog h 84 (.ptr dW 0)=some (.mp eJ) from dO (q:=0) (cs:=[.mp eJ]) o rfl (by kernel_rfl)),.v 1 (show b7 Tryz.prog h 22 (.ptr dX 0)=some (aa.fz x1) from dO (q:=2) (cs:=[aa.fz x1]) o rfl (by kernel_rfl)),.v 3 (bO (k:=.i64) (E:=aa) (l:=x1) dt e1),.v 4 (cF  (E:=aa) (l:=x1) h A3 e1 rfl),.w 6 e2] <| qq ?_
  obtain⟨v2,e3,H⟩:=aS H
  refine qr [.v 1 (show b7 Tryz.prog h0 23 (.ptr ep 0)=some (af.fz x3.nodes) from dO (q:=5) (cs:=[af.fz x3.nodes,.int .i64 x3.root]) o0 rfl (by kernel_rfl)),.v 3 (bO (k:=.i64) (E:=af) (l:=x3.nodes) kI e3),.v 4 (fm  (E:=af) (l:=x3.nodes) h0 rA rB e3)] <| qq ?_
  have o1:Has h0 (((0),.sl (([]:List Int).length) 1 (aa.l ([]:List Int)))::(dW,.ob [.mp eJ])::(eJ,.mp (mz (zU x0 v1 (x2.nodes.length:Int))))::(dX,.ob [aa.fz x1])::(dE,.ob [.rs fw 0 x2.nodes.length 4,.int .i64 x2.root])::(fw,.sl x2.nodes.length 4 (db.l (aY x2.nodes fJ)))::(ep,.ob [af.fz x3.nodes,.int .i64 x3.root])::(dP,.ob [.fn 97 [.ptr dW 0,.ptr dX 0,.ptr dE 0,.ptr ep 0,.ptr dP 0]])::(eR x2.nodes fJ++L)):=Has.nil o0 1
  obtain⟨x5,e4,H⟩:=aS H
  obtain⟨aV,dk,h1,e5,o2⟩:=H4 (P:=Tryz.prog) (t2:=23) (pre:=[(dW,.ob [.mp eJ]),(eJ,.mp (mz (zU x0 v1 (x2.nodes.length:Int)))),(dX,.ob [aa.fz x1]),(dE,.ob [.rs fw 0 x2.nodes.length 4,.int .i64 x2.root]),(ep,.ob [af.fz x3.nodes,.int .i64 x3.root]),(dP,.ob [.fn 97 [.ptr dW 0,.ptr dX 0,.ptr dE 0,.ptr ep 0,.ptr dP 0]])]) (ns:=x2.nodes) (ids:=fJ) (kind:=v2.kind) (int:=v2.int) (label:=v2.label) (args:=([]:List Int)) (x:=.fz [.int .i64 v2.kind,.int .i64 v2.int,.str v2.label,.rs (0) 0 (([]:List Int).length) 1] 1 true) kI (Has.front (Has.front (Has.front (Has.front (Has.front (Has.front (Has.front (Has.front o1 7 rfl) 7 rfl) 6 rfl) 6 rfl) 6 rfl) 6 rfl) 6 rfl) 7 rfl) (by kernel_rfl) rfl e4
  obtain⟨h2,e6,o3⟩:=pn (P:=Tryz.prog) (t:=23) (off:=0) (q:=4) (cs:=[.rs fw 0 x2.nodes.length 4,.int .i64 x2.root]) (gp:=[.rs aV 0 x5.length 4,.int .i64 x2.root]) (x:=.rs aV 0 x5.length 4) o2 rfl (by kernel_rfl)
  refine qr [.v 1 (show b7 Tryz.prog h0 23 (.ptr dE 0)=some (.rs fw 0 x2.nodes.length 4) from dO (q:=3) (cs:=[.rs fw 0 x2.nodes.length 4,.int .i64 x2.root]) o0 rfl (by kernel_rfl)),.a 10 e5,.w 12 e6] <| qq <| q0 ?_
  have o4:Has h2 ((((0)),.sl (([]:List Int).length) 1 (aa.l ([]:List Int)))::(aV,.sl x5.length 4 (db.l (aY x5 dk)))::(dW,.ob [.mp eJ])::(eJ,.mp (mz (zU x0 v1 (x2.nodes.length:Int))))::(dX,.ob [aa.fz x1])::(dE,.ob [.rs aV 0 x5.length 4,.int .i64 x2.root])::(ep,.ob [af.fz x3.nodes,.int .i64 x3.root])::(dP,.ob [.fn 97 [.ptr dW 0,.ptr dX 0,.ptr dE 0,.ptr ep 0,.ptr dP 0]])::(eR x5 dk++L)):=Has.nil o3 1
  refine qq <| qq <| q0 <| qb 0 ?_
  obtain⟨bo,nI,H⟩:=aS H
  refine ql (bp.cd L dW eJ dX dE fw fJ ep dP i0 x0 x1 x2 x3 v2  Io  (([]:List Int),(0:Int),zU x0 v1 (x2.nodes.length:Int),(aZ.mk x5 x2.root)) _ _ ⟨((0)),aV,dk,h2,by kernel_rfl,o4⟩ nI) ?_
  rintro e s ⟨rfl,iV,C0,r8,zY,rfl,g0,g1,g2,g3,g4,gd,fS,r9,h6,rfl,o9⟩
  try dsimp only at H
  refine qq ?_
  obtain⟨v4,oJ,H⟩:=aS H
  obtain⟨h7,uc,qU⟩:=KX (P:=Tryz.prog) (tf:=22) (pre:=[(dW,.ob [.mp eJ]),(eJ,.mp (mz r8)),(dX,.ob [aa.fz x1]),(dE,.ob [.rs fS 0 zY.nodes.length 4,.int .i64 zY.root]),(ep,.ob [af.fz x3.nodes,.int .i64 x3.root]),(dP,.ob [.fn 97 [.ptr dW 0,.ptr dX 0,.ptr dE 0,.ptr ep 0,.ptr dP 0]])]) (args:=iV) (Has.front (Has.front (Has.front (Has.front (Has.front (Has.front (Has.front (Has.front o9 7 rfl) 7 rfl) 7 rfl) 7 rfl) 7 rfl) 7 rfl) 6 rfl) 7 rfl) Y6 oJ
  obtain rfl:=oi H
  exact qr [.v 1 (show b7 Tryz.prog h6 23 (.ptr dE 0)=some (.rs fS 0 zY.nodes.length 4) from dO (q:=5) (cs:=[.rs fS 0 zY.nodes.length 4,.int .i64 zY.root]) o9 rfl (by kernel_rfl)),.v 4 (aJ (k:=.i64) (E:=db) (l:=(aY zY.nodes r9)) (q:=1) kI o9 rfl (j6 oJ)),.w 6 uc] <| qq <| q0 <| qt <| ⟨.inl rfl,⟨fS,(y9 zY.nodes r9 (x2.nodes.length:Int) gd),by kernel_rfl,he (by have o:Has h7 ((dW,.ob [.mp eJ])::(eJ,.mp (mz r8))::(dX,.ob [aa.fz x1])::(dE,.ob [.rs fS 0 zY.nodes.length 4,.int .i64 zY.root])::(fS,.sl zY.nodes.length 4 (db.l (aY (zY.nodes.set (x2.nodes.length:Int).toNat (ah.mk v4.kind v4.int v4.label iV)) (y9 zY.nodes r9 (x2.nodes.length:Int) gd))))::(ep,.ob [af.fz x3.nodes,.int .i64 x3.root])::(dP,.ob [.fn 97 [.ptr dW 0,.ptr dX 0,.ptr dE 0,.ptr ep 0,.ptr dP 0]])::(eR (zY.nodes.set (x2.nodes.length:Int).toNat (ah.mk v4.kind v4.int v4.label iV)) (y9 zY.nodes r9 (x2.nodes.length:Int) gd)++L)):=(Has.front (Has.front (Has.front (Has.front (Has.front (Has.front (Has.front qU 6 rfl) 6 rfl) 2 rfl) 6 rfl) 6 rfl) 6 rfl) 6 rfl); simpa only [abF] using o)⟩⟩
end
end Go.Proofs.YtifafejidnjckaaGreat
namespace Go.Proofs.YtifafejidnjckaaGreat
open Go Go.R
open Go.IntKind (i64 u64 u8 u32)
def A8:cu:=gj [0,1,4,5,7,8,9,16] [] [252,204,140,196,68,251,204,251] [] []
def dC.l0 (m:Nat)(s0:List Int)(f0:Int→Option (Bool)):Nat→Int→Option (Sum Int (Int))
 | 0,_=>none
 | k+1,x0=>if (decide (x0<(s0.length:Int)))=true then ((ix s0 x0).bind fun v0=>(f0 v0).bind fun r0=>if r0=true then (some (.inl x0)) else (dC.l0 m s0 f0 k (i64.wrap (x0+(1:Int))))) else (some (.inr x0))
def dC.f (m:Nat)(s0:List Int)(f0:Int→Option (Bool)):Option (Int):=(dC.l0 m s0 f0 m (0:Int)).bind fun bo=>match bo with | .inl r1=>some r1 | .inr x1=>some (-1:Int)
def dC.fin (L:Mem)(r:Int)(s:St):Prop:=∃av,aP Tryz.prog (s.open A8) Tryz.f98.results.toList=some av∧fi s.h av (.int .i64 r)
def Uu (cf:CallF)(m:Nat):Prop:=∀(s0:List Int) (f0:Int→Option (Bool)) (r:Int),dC.f m s0 f0=some r→∀(gO:FuncId) (bn:List AV),(∀(h:AHeap) (xs:List AV) (a0:Int) r,f0 a0=some r→aX b5 h xs ([.int .i64 a0]++bn)→cf gO xs h=some (.bool r,h))→(∀h,aX dD h bn bn)→∀h xs,aX b5 h xs [aa.fz s0,.fn gO bn]→cf 98 xs h=some (.int .i64 r,h)
section
variable {cf:CallF}{m:Nat}
theorem dC.cd (L:Mem)(gO:FuncId)(bn:List AV)(s0:List Int)(f0:Int→Option (Bool))  (jx:∀(h:AHeap) (xs:List AV) (a0:Int) r,f0 a0=some r→aX b5 h xs ([.int .i64 a0]++bn)→cf gO xs h=some (.bool r,h))(jg:∀h,aX dD h bn bn)  : b8 Tryz.prog cf A8 m (sub [1,0,1,0,0] (br Tryz.f98)) (fun k (σ:Int)=>dC.l0 m s0 f0 k σ) (fun σ s=>match σ with | x0=>∃h0,s=⟨[aa.fz s0,.fn gO bn,.any,.any,.int .i64 (s0.length:Int),.int .i64 x0,.any,.any],[],h0⟩∧Has h0 (L)) (fun out e s=>(e = .exit 0∧∃x0,.inr x0=out∧∃kX tw vm qT wS h0,s=⟨[kX,tw,.any,.any,vm,qT,wS,.any],[],h0⟩∧Has h0 (L))∨(e = .ret∧∃r,.inl r=out∧dC.fin L r s)):=by
 refine iO (fun _=>rfl) ?_
 rintro k x0 s out ⟨h0,rfl,o0⟩ H
 have H:dC.l0 m s0 f0 (k+1) x0=some out:=H
 refine q1 <| qq <| qc H (fun c0 H=>?_) (fun c0 H=>?_)
 ·refine qk <| qq <| qb 1 <| qq <| q0 <| qq ?_
  obtain⟨v0,e0,H⟩:=aS H
  obtain⟨r0,e1,H⟩:=aS H
  refine qr [.v 3 (bO (k:=.i64) (E:=aa) (l:=s0) dt e0),.v 4 (cF  (E:=aa) (l:=s0) h0 A3 e0 rfl),.a 5 (jx _ _ _ _ e1 (NT (ab (aA) (aq)) (jg h0)))] <| qc H (fun c1 H=>?_) (fun c1 H=>?_)
  ·exact q1 <| qt <| ac3 (⟨rfl,_,oi H,bX (.int .i64 x0) h0 (bW (cp))⟩)
  ·exact qk <| q0 <| ⟨i64.wrap (x0+(1:Int)),⟨h0,by kernel_rfl,o0⟩,H⟩
 ·exact qx 0 <| Or.inl (⟨rfl,x0,oi H,aa.fz s0,.fn gO bn,.int .i64 (s0.length:Int),.int .i64 x0,.bool (decide (x0<(s0.length:Int))),h0,by kernel_rfl,o0⟩)
theorem zb {a7:FuncId→cu}(ha:a7 98=A8)  (s0:List Int)(f0:Int→Option (Bool))(h:AHeap)(L:Mem)(gO:FuncId)(bn:List AV)  (jx:∀(h:AHeap) (xs:List AV) (a0:Int) r,f0 a0=some r→aX b5 h xs ([.int .i64 a0]++bn)→cf gO xs h=some (.bool r,h))(jg:∀h,aX dD h bn bn)(o:Has h (L)){out:Int}(H:dC.f m s0 f0=some out) :
  ∃r h',bj Tryz.prog a7 cf m 98 [aa.fz s0,.fn gO bn] h=some (r,h')∧fi h' r (.int .i64 out):=by
 refine au (fn:=Tryz.f98) ha Tryz.func98 (by kernel_rfl) (by kernel_rfl) ?_
 refine aK (Q:=fun s=>dC.fin L out s) (fun _ _ h=>h) ?_
 have H:_=some out:=H
 unfold dC.f at H
 show dR _ cf A8 m _ ⟨aa.fz s0 :: .fn gO bn::GR [],[],h⟩ _
 refine q1 <| qq <| qq <| q0 <| qb 0 ?_
 obtain⟨bo,e2,H⟩:=aS H
 refine ql (dC.cd L gO bn s0 f0  jx jg  (0:Int) _ _ ⟨h,by kernel_rfl,o⟩ e2) ?_
 rintro e s (⟨rfl,x1,rfl,g0,g1,g2,g3,g4,h1,rfl,o1⟩| ⟨rfl,r1,rfl,qS⟩)
 ·try dsimp only at H
  obtain rfl:=oi H
  exact q1 <| qt <| ⟨.inl rfl,bX (.int .i64 (-1:Int)) h1 (bW (cp))⟩
 ·try dsimp only at H
  obtain rfl:=oi H
  exact⟨.inl rfl,qS⟩
end
end Go.Proofs.YtifafejidnjckaaGreat
namespace Go.Proofs.YtifafejidnjckaaGreat
open Go Go.R
open Go.IntKind (i64 u64 u8 u32)
end Go.Proofs.YtifafejidnjckaaGreat
namespace Go.Proofs.YtifafejidnjckaaGreat
open Go Go.R
open Go.IntKind (i64 u64 u8 u32)
end Go.Proofs.YtifafejidnjckaaGreat
namespace Go.Proofs.YtifafejidnjckaaGreat
open Go Go.R
open Go.IntKind (i64 u64 u8 u32)
end Go.Proofs.YtifafejidnjckaaGreat
namespace Go.Proofs.YtifafejidnjckaaGreat
open Go Go.R
open Go.IntKind (i64 u64 u8 u32)
end Go.Proofs.YtifafejidnjckaaGreat
namespace Go.Proofs.YtifafejidnjckaaGreat
open Go Go.R
open Go.IntKind (i64 u64 u8 u32)
end Go.Proofs.YtifafejidnjckaaGreat
namespace Go.Proofs.YtifafejidnjckaaGreat
open Go Go.R
open Go.IntKind (i64 u64 u8 u32)
def vp:cu:=gj [0,1,4,5,7,8,9,16] [] [252,204,140,196,68,251,204,251] [] []
def gf.l0 (m:Nat)(s0:List ah)(f0:ah→Option (Bool)):Nat→Int→Option (Sum Int (Int))
 | 0,_=>none
 | k+1,x0=>if (decide (x0<(s0.length:Int)))=true then ((ix s0 x0).bind fun v0=>(f0 v0).bind fun r0=>if r0=true then (some (.inl x0)) else (gf.l0 m s0 f0 k (i64.wrap (x0+(1:Int))))) else (some (.inr x0))
def gf.f (m:Nat)(s0:List ah)(f0:ah→Option (Bool)):Option (Int):=(gf.l0 m s0 f0 m (0:Int)).bind fun bo=>match bo with | .inl r1=>some r1 | .inr x1=>some (-1:Int)
def gf.fin (L:Mem)(r:Int)(s:St):Prop:=∃av,aP Tryz.prog (s.open vp) Tryz.f109.results.toList=some av∧fi s.h av (.int .i64 r)
def QK (cf:CallF)(m:Nat):Prop:=∀(s0:List ah) (f0:ah→Option (Bool)) (r:Int),gf.f m s0 f0=some r→∀(gO:FuncId) (bn:List AV),(∀(h:AHeap) (xs:List AV) (a0:ah) r,f0 a0=some r→aX b5 h xs ([.agg [.int .i64 a0.kind,.int .i64 a0.int,.str a0.label,aa.fz a0.args]]++bn)→cf gO xs h=some (.bool r,h))→(∀h,aX dD h bn bn)→∀h xs,aX b5 h xs [af.fz s0,.fn gO bn]→cf 109 xs h=some (.int .i64 r,h)
section
variable {cf:CallF}{m:Nat}
theorem gf.cd (L:Mem)(gO:FuncId)(bn:List AV)(s0:List ah)(f0:ah→Option (Bool))  (jx:∀(h:AHeap) (xs:List AV) (a0:ah) r,f0 a0=some r→aX b5 h xs ([.agg [.int .i64 a0.kind,.int .i64 a0.int,.str a0.label,aa.fz a0.args]]++bn)→cf gO xs h=some (.bool r,h))(jg:∀h,aX dD h bn bn)  : b8 Tryz.prog cf vp m (sub [1,0,1,0,0] (br Tryz.f109)) (fun k (σ:Int)=>gf.l0 m s0 f0 k σ) (fun σ s=>match σ with | x0=>∃h0,s=⟨[af.fz s0,.fn gO bn,.any,.any,.int .i64 (s0.length:Int),.int .i64 x0,.any,.any],[],h0⟩∧Has h0 (L)) (fun out e s=>(e = .exit 0∧∃x0,.inr x0=out∧∃kX tw vm qT wS h0,s=⟨[kX,tw,.any,.any,vm,qT,wS,.any],[],h0⟩∧Has h0 (L))∨(e = .ret∧∃r,.inl r=out∧gf.fin L r s)):=by
 refine iO (fun _=>rfl) ?_
 rintro k x0 s out ⟨h0,rfl,o0⟩ H
 have H:gf.l0 m s0 f0 (k+1) x0=some out:=H
 refine q1 <| qq <| qc H (fun c0 H=>?_) (fun c0 H=>?_)
 ·refine qk <| qq <| qb 1 <| qq <| q0 <| qq ?_
  obtain⟨v0,e0,H⟩:=aS H
  obtain⟨r0,e1,H⟩:=aS H
  refine qr [.v 3 (bO (k:=.i64) (E:=af) (l:=s0) kI e0),.v 4 (fm  (E:=af) (l:=s0) h0 rA rB e0),.a 5 (jx _ _ _ _ e1 (NT (ab (bT (ab (aA) (ab (aA) (ab (bH) (ab (cQ (E:=aa)) (aq)))))) (aq)) (jg h0)))] <| qc H (fun c1 H=>?_) (fun c1 H=>?_)
  ·exact q1 <| qt <| ac3 (⟨rfl,_,oi H,bX (.int .i64 x0) h0 (bW (cp))⟩)
  ·exact qk <| q0 <| ⟨i64.wrap (x0+(1:Int)),⟨h0,by kernel_rfl,o0⟩,H⟩
 ·exact qx 0 <| Or.inl (⟨rfl,x0,oi H,af.fz s0,.fn gO bn,.int .i64 (s0.length:Int),.int .i64 x0,.bool (decide (x0<(s0.length:Int))),h0,by kernel_rfl,o0⟩)
theorem zc {a7:FuncId→cu}(ha:a7 109=vp)  (s0:List ah)(f0:ah→Option (Bool))(h:AHeap)(L:Mem)(gO:FuncId)(bn:List AV)  (jx:∀(h:AHeap) (xs:List AV) (a0:ah) r,f0 a0=some r→aX b5 h xs ([.agg [.int .i64 a0.kind,.int .i64 a0.int,.str a0.label,aa.fz a0.args]]++bn)→cf gO xs h=some (.bool r,h))(jg:∀h,aX dD h bn bn)(o:Has h (L)){out:Int}(H:gf.f m s0 f0=some out) :
  ∃r h',bj Tryz.prog a7 cf m 109 [af.fz s0,.fn gO bn] h=some (r,h')∧fi h' r (.int .i64 out):=by
 refine au (fn:=Tryz.f109) ha Tryz.func109 (by kernel_rfl) (by kernel_rfl) ?_
 refine aK (Q:=fun s=>gf.fin L out s) (fun _ _ h=>h) ?_
 have H:_=some out:=H
 unfold gf.f at H
 show dR _ cf vp m _ ⟨af.fz s0 :: .fn gO bn::GR [],[],h⟩ _
 refine q1 <| qq <| qq <| q0 <| qb 0 ?_
 obtain⟨bo,e2,H⟩:=aS H
 refine ql (gf.cd L gO bn s0 f0  jx jg  (0:Int) _ _ ⟨h,by kernel_rfl,o⟩ e2) ?_
 rintro e s (⟨rfl,x1,rfl,g0,g1,g2,g3,g4,h1,rfl,o1⟩| ⟨rfl,r1,rfl,qS⟩)
 ·try dsimp only at H
  obtain rfl:=oi H
  exact q1 <| qt <| ⟨.inl rfl,bX (.int .i64 (-1:Int)) h1 (bW (cp))⟩
 ·try dsimp only at H
  obtain rfl:=oi H
  exact⟨.inl rfl,qS⟩
end
end Go.Proofs.YtifafejidnjckaaGreat
namespace Go.Proofs.YtifafejidnjckaaGreat
open Go Go.R
open Go.IntKind (i64 u64 u8 u32)
def zd:cu:=gj [0,1,3] [] [4,3] [] []
def iC.f (m:Nat)(a0:Int)(x0:Int):Option (Bool):=if (decide (a0<(0:Int)))=true then (some true) else (some (decide (a0≥x0)))
def iC.fin (L:Mem)(r:Bool)(s:St):Prop:=∃av,aP Tryz.prog (s.open zd) Tryz.f110.results.toList=some av∧fi s.h av (.bool r)
def QL (cf:CallF)(m:Nat):Prop:=∀(a0:Int) (x0:Int) (r:Bool),iC.f m a0 x0=some r→∀h xs,aX b5 h xs [.int .i64 a0,.fp [.int .i64 x0] 0]→cf 110 xs h=some (.bool r,h)
section
variable {cf:CallF}{m:Nat}
theorem sa {a7:FuncId→cu}(ha:a7 110=zd)  (a0:Int)(x0:Int)(h:AHeap)(L:Mem)  (o:Has h (L)){out:Bool}(H:iC.f m a0 x0=some out) :
  ∃r h',bj Tryz.prog a7 cf m 110 [.int .i64 a0,.fp [.int .i64 x0] 0] h=some (r,h')∧fi h' r (.bool out):=by
 refine au (fn:=Tryz.f110) ha Tryz.func110 (by kernel_rfl) (by kernel_rfl) ?_
 refine aK (Q:=fun s=>iC.fin L out s) (fun _ _ h=>h) ?_
 have H:_=some out:=H
 unfold iC.f at H
 show dR _ cf zd m _ ⟨[.int .i64 a0,.fp [.int .i64 x0] 0,.any],[],h⟩ _
 refine q1 <| qq ?_
 rcases eu H with⟨c0,H⟩| ⟨c0,H⟩
 ·obtain rfl:=oi H
  exact qr [.b 2 c0] <| qt <| ⟨.inl rfl,bX (.bool true) h (bW (ao))⟩
 ·obtain rfl:=oi H
  exact qr [.b 2 c0] <| qt <| ⟨.inl rfl,bX (.bool (decide (a0≥x0))) h (bW (ao))⟩
end
end Go.Proofs.YtifafejidnjckaaGreat
namespace Go.Proofs.YtifafejidnjckaaGreat
open Go Go.R
open Go.IntKind (i64 u64 u8 u32)
end Go.Proofs.YtifafejidnjckaaGreat
namespace Go.Proofs.YtifafejidnjckaaGreat
open Go Go.R
open Go.IntKind (i64 u64 u8 u32)
end Go.Proofs.YtifafejidnjckaaGreat
namespace Go.Proofs.YtifafejidnjckaaGreat
open Go Go.R
open Go.IntKind (i64 u64 u8 u32)
end Go.Proofs.YtifafejidnjckaaGreat
namespace Go.Proofs.YtifafejidnjckaaGreat
open Go Go.R
open Go.IntKind (i64 u64 u8 u32)
end Go.Proofs.YtifafejidnjckaaGreat
namespace Go.Proofs.YtifafejidnjckaaGreat
open Go Go.R
open Go.IntKind (i64 u64 u8 u32)
def vq:cu:=gj [0,2,3,5,6,7,8,9,14] [] [510,506,395,267,387,131,509,395,509] [] []
def cU.l0 (m:Nat)(ik:List Int):Nat→Int→Option (Sum Int (Int))
 | 0,_=>none
 | k+1,x0=>if (decide (x0<(ik.length:Int)))=true then ((ix ik x0).bind fun v0=>if (!(v0==(0:Int)))=true then (some (.inl v0)) else (cU.l0 m ik k (i64.wrap (x0+(1:Int))))) else (some (.inr x0))
def cU.f (m:Nat)(ik:List Int):Option (Int):=(cU.l0 m ik m (0:Int)).bind fun bo=>match bo with | .inl r0=>some r0 | .inr x1=>some (0:Int)
def cU.fin (L:Mem)(r:Int)(s:St):Prop:=∃av,aP Tryz.prog (s.open vq) Tryz.f128.results.toList=some av∧fi s.h av (.int .i64 r)
def QM (cf:CallF)(m:Nat):Prop:=∀(ik:List Int) (r:Int),cU.f m ik=some r→∀h xs,aX b5 h xs [aa.fz ik]→cf 128 xs h=some (.int .i64 r,h)
section
variable {cf:CallF}{m:Nat}
theorem cU.cd (L:Mem)(ik:List Int)   : b8 Tryz.prog cf vq m (sub [1,1,0,1,0,0] (br Tryz.f128)) (fun k (σ:Int)=>cU.l0 m ik k σ) (fun σ s=>match σ with | x0=>∃h0,s=⟨[.any,.any,.int .i64 (0:Int),.any,aa.fz ik,.int .i64 (ik.length:Int),.int .i64 x0,.any,.any],[],h0⟩∧Has h0 (L)) (fun out e s=>(e = .exit 0∧∃x0,.inr x0=out∧∃ze vm qT wS h0,s=⟨[.any,.any,.int .i64 (0:Int),.any,ze,vm,qT,wS,.any],[],h0⟩∧Has h0 (L))∨(e = .ret∧∃r,.inl r=out∧cU.fin L r s)):=by
 refine iO (fun _=>rfl) ?_
 rintro k x0 s out ⟨h0,rfl,o0⟩ H
 have H:cU.l0 m ik (k+1) x0=some out:=H
 refine q1 <| qq <| qc H (fun c0 H=>?_) (fun c0 H=>?_)
 ·refine qk <| qq <| qb 1 <| qq ?_
  obtain⟨v0,e0,H⟩:=aS H
  refine qr [.v 0 (bO (k:=.i64) (E:=aa) (l:=ik) dt e0),.v 1 (cF  (E:=aa) (l:=ik) h0 A3 e0 rfl)] <| qq <| q0 <| qc H (fun c1 H=>?_) (fun c1 H=>?_)
  ·exact q1 <| qt <| ac3 (⟨rfl,_,oi H,bX (.int .i64 v0) h0 (bW (cp))⟩)
  ·exact qk <| q0 <| ⟨i64.wrap (x0+(1:Int)),⟨h0,by kernel_rfl,o0⟩,H⟩
 ·exact qx 0 <| Or.inl (⟨rfl,x0,oi H,aa.fz ik,.int .i64 (ik.length:Int),.int .i64 x0,.bool (decide (x0<(ik.length:Int))),h0,by kernel_rfl,o0⟩)
theorem tB {a7:FuncId→cu}(ha:a7 128=vq)  (ik:List Int)(h:AHeap)(L:Mem)  (o:Has h (L)){out:Int}(H:cU.f m ik=some out) :
  ∃r h',bj Tryz.prog a7 cf m 128 [aa.fz ik] h=some (r,h')∧fi h' r (.int .i64 out):=by
 refine au (fn:=Tryz.f128) ha Tryz.func128 (by kernel_rfl) (by kernel_rfl) ?_
 refine aK (Q:=fun s=>cU.fin L out s) (fun _ _ h=>h) ?_
 have H:_=some out:=H
 unfold cU.f at H
 show dR _ cf vq m _ ⟨aa.fz ik::qK [],[],h⟩ _
 refine q1 <| qq <| q0 <| qq <| qq <| q0 <| qb 0 ?_
 obtain⟨bo,e1,H⟩:=aS H
 refine ql (cU.cd L ik   (0:Int) _ _ ⟨h,by kernel_rfl,o⟩ e1) ?_
 rintro e s (⟨rfl,x1,rfl,g0,g1,g2,g3,h1,rfl,o1⟩| ⟨rfl,r0,rfl,qS⟩)
 ·try dsimp only at H
  obtain rfl:=oi H
  exact q1 <| qt <| ⟨.inl rfl,bX (.int .i64 (0:Int)) h1 (bW (cp))⟩
 ·try dsimp only at H
  obtain rfl:=oi H
  exact⟨.inl rfl,qS⟩
end
end Go.Proofs.YtifafejidnjckaaGreat
namespace Go.Proofs.YtifafejidnjckaaGreat
open Go Go.R
open Go.IntKind (i64 u64 u8 u32)
def zf:cu:=gj [0,2] [] [2,1] [] []
def gU.f (m:Nat)(c0:Int):Option (Bool):=if (decide (c0≥(97:Int)))=true then (if (decide (c0≤(122:Int)))=true then (some true) else (if (decide (c0≥(65:Int)))=true then (if (decide (c0≤(90:Int)))=true then (some true) else (if (decide (c0≥(48:Int)))=true then (if (decide (c0≤(57:Int)))=true then (some true) else (some (c0==(95:Int)))) else (some (c0==(95:Int))))) else (if (decide (c0≥(48:Int)))=true then (if (decide (c0≤(57:Int)))=true then (some true) else (some (c0==(95:Int)))) else (some (c0==(95:Int)))))) else (if (decide (c0≥(65:Int)))=true then (if (decide (c0≤(90:Int)))=true then (some true) else (if (decide (c0≥(48:Int)))=true then (if (decide (c0≤(57:Int)))=true then (some true) else (some (c0==(95:Int)))) else (some (c0==(95:Int))))) else (if (decide (c0≥(48:Int)))=true then (if (decide (c0≤(57:Int)))=true then (some true) else (some (c0==(95:Int)))) else (some (c0==(95:Int)))))
def gU.fin (L:Mem)(r:Bool)(s:St):Prop:=∃av,aP Tryz.prog (s.open zf) Tryz.f130.results.toList=some av∧fi s.h av (.bool r)
def N0 (cf:CallF)(m:Nat):Prop:=∀(c0:Int) (r:Bool),gU.f m c0=some r→∀h xs,aX b5 h xs [.int .u8 c0]→cf 130 xs h=some (.bool r,h)
section
variable {cf:CallF}{m:Nat}
theorem sb {a7:FuncId→cu}(ha:a7 130=zf)  (c0:Int)(h:AHeap)(L:Mem)  (o:Has h (L)){out:Bool}(H:gU.f m c0=some out) :
  ∃r h',bj Tryz.prog a7 cf m 130 [.int .u8 c0] h=some (r,h')∧fi h' r (.bool out):=by
 refine au (fn:=Tryz.f130) ha Tryz.func130 (by kernel_rfl) (by kernel_rfl) ?_
 refine aK (Q:=fun s=>gU.fin L out s) (fun _ _ h=>h) ?_
 have H:_=some out:=H
 unfold gU.f at H
 show dR _ cf zf m _ ⟨[.int .u8 c0,.any],[],h⟩ _
 refine q1 <| qq ?_
 rcases eu H with⟨c1,H⟩| ⟨c1,H⟩
 ·rcases eu H with⟨c2,H⟩| ⟨c2,H⟩
  ·obtain rfl:=oi H
   exact qr [.b 2 c1,.b 6 c2] <| qt <| ⟨.inl rfl,bX (.bool true) h (bW (ao))⟩
  ·rcases eu H with⟨c3,H⟩| ⟨c3,H⟩
   ·rcases eu H with⟨c4,H⟩| ⟨c4,H⟩
    ·obtain rfl:=oi H
     exact qr [.b 2 c1,.b 6 c2,.b 9 c3,.b 14 c4] <| qt <| ⟨.inl rfl,bX (.bool true) h (bW (ao))⟩
    ·rcases eu H with⟨c5,H⟩| ⟨c5,H⟩
     ·rcases eu H with⟨c6,H⟩| ⟨c6,H⟩
      ·obtain rfl:=oi H
       exact qr [.b 2 c1,.b 6 c2,.b 9 c3,.b 14 c4,.b 17 c5,.b 22 c6] <| qt <| ⟨.inl rfl,bX (.bool true) h (bW (ao))⟩
      ·obtain rfl:=oi H
       exact qr [.b 2 c1,.b 6 c2,.b 9 c3,.b 14 c4,.b 17 c5,.b 22 c6] <| qt <| ⟨.inl rfl,bX (.bool (c0==(95:Int))) h (bW (ao))⟩
     ·obtain rfl:=oi H
      exact qr [.b 2 c1,.b 6 c2,.b 9 c3,.b 14 c4,.b 17 c5] <| qt <| ⟨.inl rfl,bX (.bool (c0==(95:Int))) h (bW (ao))⟩
   ·rcases eu H with⟨c7,H⟩| ⟨c7,H⟩
    ·rcases eu H with⟨c8,H⟩| ⟨c8,H⟩
     ·obtain rfl:=oi H
      exact qr [.b 2 c1,.b 6 c2,.b 9 c3,.b 17 c7,.b 22 c8] <| qt <| ⟨.inl rfl,bX (.bool true) h (bW (ao))⟩
     ·obtain rfl:=oi H
      exact qr [.b 2 c1,.b 6 c2,.b 9 c3,.b 17 c7,.b 22 c8] <| qt <| ⟨.inl rfl,bX (.bool (c0==(95:Int))) h (bW (ao))⟩
    ·obtain rfl:=oi H
     exact qr [.b 2 c1,.b 6 c2,.b 9 c3,.b 17 c7] <| qt <| ⟨.inl rfl,bX (.bool (c0==(95:Int))) h (bW (ao))⟩
 ·rcases eu H with⟨c9,H⟩| ⟨c9,H⟩
  ·rcases eu H with⟨wT,H⟩| ⟨wT,H⟩
   ·obtain rfl:=oi H
    exact qr [.b 2 c1,.b 9 c9,.b 14 wT] <| qt <| ⟨.inl rfl,bX (.bool true) h (bW (ao))⟩
   ·rcases eu H with⟨oK,H⟩| ⟨oK,H⟩
    ·rcases eu H with⟨tC,H⟩| ⟨tC,H⟩
     ·obtain rfl:=oi H
      exact qr [.b 2 c1,.b 9 c9,.b 14 wT,.b 17 oK,.b 22 tC] <| qt <| ⟨.inl rfl,bX (.bool true) h (bW (ao))⟩
     ·obtain rfl:=oi H
      exact qr [.b 2 c1,.b 9 c9,.b 14 wT,.b 17 oK,.b 22 tC] <| qt <| ⟨.inl rfl,bX (.bool (c0==(95:Int))) h (bW (ao))⟩
    ·obtain rfl:=oi H
     exact qr [.b 2 c1,.b 9 c9,.b 14 wT,.b 17 oK] <| qt <| ⟨.inl rfl,bX (.bool (c0==(95:Int))) h (bW (ao))⟩
  ·rcases eu H with⟨s7,H⟩| ⟨s7,H⟩
   ·rcases eu H with⟨s8,H⟩| ⟨s8,H⟩
    ·obtain rfl:=oi H
     exact qr [.b 2 c1,.b 9 c9,.b 17 s7,.b 22 s8] <| qt <| ⟨.inl rfl,bX (.bool true) h (bW (ao))⟩
    ·obtain rfl:=oi H
     exact qr [.b 2 c1,.b 9 c9,.b 17 s7,.b 22 s8] <| qt <| ⟨.inl rfl,bX (.bool (c0==(95:Int))) h (bW (ao))⟩
   ·obtain rfl:=oi H
    exact qr [.b 2 c1,.b 9 c9,.b 17 s7] <| qt <| ⟨.inl rfl,bX (.bool (c0==(95:Int))) h (bW (ao))⟩
end
end Go.Proofs.YtifafejidnjckaaGreat
namespace Go.Proofs.YtifafejidnjckaaGreat
open Go Go.R
open Go.IntKind (i64 u64 u8 u32)
def zg:cu:=gj [0,2] [] [2,1] [] []
def gz.f (m:Nat)(c0:Int):Option (Bool):=if (decide (c0≥(97:Int)))=true then (if (decide (c0≤(122:Int)))=true then (some true) else (if (decide (c0≥(65:Int)))=true then (if (decide (c0≤(90:Int)))=true then (some true) else (if (decide (c0≥(48:Int)))=true then (if (decide (c0≤(57:Int)))=true then (some true) else (some (c0==(95:Int)))) else (some (c0==(95:Int))))) else (if (decide (c0≥(48:Int)))=true then (if (decide (c0≤(57:Int)))=true then (some true) else (some (c0==(95:Int)))) else (some (c0==(95:Int)))))) else (if (decide (c0≥(65:Int)))=true then (if (decide (c0≤(90:Int)))=true then (some true) else (if (decide (c0≥(48:Int)))=true then (if (decide (c0≤(57:Int)))=true then (some true) else (some (c0==(95:Int)))) else (some (c0==(95:Int))))) else (if (decide (c0≥(48:Int)))=true then (if (decide (c0≤(57:Int)))=true then (some true) else (some (c0==(95:Int)))) else (some (c0==(95:Int)))))
def gz.fin (L:Mem)(r:Bool)(s:St):Prop:=∃av,aP Tryz.prog (s.open zg) Tryz.f131.results.toList=some av∧fi s.h av (.bool r)
def N1 (cf:CallF)(m:Nat):Prop:=∀(c0:Int) (r:Bool),gz.f m c0=some r→∀h xs,aX b5 h xs [.int .u8 c0]→cf 131 xs h=some (.bool r,h)
section
variable {cf:CallF}{m:Nat}
theorem qW {a7:FuncId→cu}(ha:a7 131=zg)  (c0:Int)(h:AHeap)(L:Mem)  (o:Has h (L)){out:Bool}(H:gz.f m c0=some out) :
  ∃r h',bj Tryz.prog a7 cf m 131 [.int .u8 c0] h=some (r,h')∧fi h' r (.bool out):=by
 refine au (fn:=Tryz.f131) ha Tryz.func131 (by kernel_rfl) (by kernel_rfl) ?_
 refine aK (Q:=fun s=>gz.fin L out s) (fun _ _ h=>h) ?_
 have H:_=some out:=H
 unfold gz.f at H
 show dR _ cf zg m _ ⟨[.int .u8 c0,.any],[],h⟩ _
 refine q1 <| qq ?_
 rcases eu H with⟨c1,H⟩| ⟨c1,H⟩
 ·rcases eu H with⟨c2,H⟩| ⟨c2,H⟩
  ·obtain rfl:=oi H
   exact qr [.b 2 c1,.b 6 c2] <| qt <| ⟨.inl rfl,bX (.bool true) h (bW (ao))⟩
  ·rcases eu H with⟨c3,H⟩| ⟨c3,H⟩
   ·rcases eu H with⟨c4,H⟩| ⟨c4,H⟩
    ·obtain rfl:=oi H
     exact qr [.b 2 c1,.b 6 c2,.b 9 c3,.b 14 c4] <| qt <| ⟨.inl rfl,bX (.bool true) h (bW (ao))⟩
    ·rcases eu H with⟨c5,H⟩| ⟨c5,H⟩
     ·rcases eu H with⟨c6,H⟩| ⟨c6,H⟩
      ·obtain rfl:=oi H
       exact qr [.b 2 c1,.b 6 c2,.b 9 c3,.b 14 c4,.b 17 c5,.b 22 c6] <| qt <| ⟨.inl rfl,bX (.bool true) h (bW (ao))⟩
      ·obtain rfl:=oi H
       exact qr [.b 2 c1,.b 6 c2,.b 9 c3,.b 14 c4,.b 17 c5,.b 22 c6] <| qt <| ⟨.inl rfl,bX (.bool (c0==(95:Int))) h (bW (ao))⟩
     ·obtain rfl:=oi H
      exact qr [.b 2 c1,.b 6 c2,.b 9 c3,.b 14 c4,.b 17 c5] <| qt <| ⟨.inl rfl,bX (.bool (c0==(95:Int))) h (bW (ao))⟩
   ·rcases eu H with⟨c7,H⟩| ⟨c7,H⟩
    ·rcases eu H with⟨c8,H⟩| ⟨c8,H⟩
     ·obtain rfl:=oi H
      exact qr [.b 2 c1,.b 6 c2,.b 9 c3,.b 17 c7,.b 22 c8] <| qt <| ⟨.inl rfl,bX (.bool true) h (bW (ao))⟩
     ·obtain rfl:=oi H
      exact qr [.b 2 c1,.b 6 c2,.b 9 c3,.b 17 c7,.b 22 c8] <| qt <| ⟨.inl rfl,bX (.bool (c0==(95:Int))) h (bW (ao))⟩
    ·obtain rfl:=oi H
     exact qr [.b 2 c1,.b 6 c2,.b 9 c3,.b 17 c7] <| qt <| ⟨.inl rfl,bX (.bool (c0==(95:Int))) h (bW (ao))⟩
 ·rcases eu H with⟨c9,H⟩| ⟨c9,H⟩
  ·rcases eu H with⟨wT,H⟩| ⟨wT,H⟩
   ·obtain rfl:=oi H
    exact qr [.b 2 c1,.b 9 c9,.b 14 wT] <| qt <| ⟨.inl rfl,bX (.bool true) h (bW (ao))⟩
   ·rcases eu H with⟨oK,H⟩| ⟨oK,H⟩
    ·rcases eu H with⟨tC,H⟩| ⟨tC,H⟩
     ·obtain rfl:=oi H
      exact qr [.b 2 c1,.b 9 c9,.b 14 wT,.b 17 oK,.b 22 tC] <| qt <| ⟨.inl rfl,bX (.bool true) h (bW (ao))⟩
     ·obtain rfl:=oi H
      exact qr [.b 2 c1,.b 9 c9,.b 14 wT,.b 17 oK,.b 22 tC] <| qt <| ⟨.inl rfl,bX (.bool (c0==(95:Int))) h (bW (ao))⟩
    ·obtain rfl:=oi H
     exact qr [.b 2 c1,.b 9 c9,.b 14 wT,.b 17 oK] <| qt <| ⟨.inl rfl,bX (.bool (c0==(95:Int))) h (bW (ao))⟩
  ·rcases eu H with⟨s7,H⟩| ⟨s7,H⟩
   ·rcases eu H with⟨s8,H⟩| ⟨s8,H⟩
    ·obtain rfl:=oi H
     exact qr [.b 2 c1,.b 9 c9,.b 17 s7,.b 22 s8] <| qt <| ⟨.inl rfl,bX (.bool true) h (bW (ao))⟩
    ·obtain rfl:=oi H
     exact qr [.b 2 c1,.b 9 c9,.b 17 s7,.b 22 s8] <| qt <| ⟨.inl rfl,bX (.bool (c0==(95:Int))) h (bW (ao))⟩
   ·obtain rfl:=oi H
    exact qr [.b 2 c1,.b 9 c9,.b 17 s7] <| qt <| ⟨.inl rfl,bX (.bool (c0==(95:Int))) h (bW (ao))⟩
end
end Go.Proofs.YtifafejidnjckaaGreat
namespace Go.Proofs.YtifafejidnjckaaGreat
open Go Go.R
open Go.IntKind (i64 u64 u8 u32)
def sc:cu:=gj [0,1,4,5,6,7,8,9,19,34,50] [] [2044,2036,1988,1990,1734,1926,1926,1414,1926,1926,1798,774,1798,1798,2043] [] [(2,[(6,none,1),(7,none,1)])]
def a6.l1 (m:Nat)(l0:List ah)(v0:Int):Nat→(List Int)→Int→Option ((List Int) × Int)
 | 0,_,_=>none
 | k+1,dw,i0=>if (decide (i0≥(0:Int)))=true then ((ix l0 v0).bind fun v5=>(ix v5.args i0).bind fun v6=>(app 8 dw ([v6])).bind fun x3=>a6.l1 m l0 v0 k x3 (i64.wrap (i0 - (1:Int)))) else (some ((dw,i0)))
def a6.l0 (m:Nat)(l0:List ah):Nat→(List Bool)→(List Int)→(List Int)→Option ((List Bool) × (List Int) × (List Int))
 | 0,_,_,_=>none
 | k+1,cL,bo,cM=>if (decide ((cM.length:Int) > (0:Int)))=true then ((ix cM (i64.wrap ((cM.length:Int) - (1:Int)))).bind fun v0=>(D4 cM 0 (i64.wrap ((cM.length:Int) - (1:Int)))).bind fun v1=>(ix cL v0).bind fun v2=>if v2=true then (a6.l0 m l0 k cL bo v1) else ((ix cL v0).bind fun v3=>(app 8 bo ([v0])).bind fun x2=>(ix l0 v0).bind fun v4=>(a6.l1 m l0 v0 m v1 (i64.wrap ((v4.args.length:Int) - (1:Int)))).bind fun bZ=>match bZ with | (jV,i1)=>a6.l0 m l0 k (cL.set v0.toNat true) x2 jV)) else (some ((cL,bo,cM)))
def a6.f (m:Nat)(l0:List ah)(iD:Int):Option ((List Int)):=(pX 1 (l0.length:Int) false).bind fun x0=>(app 8 ([]:List Int) ([iD])).bind fun x1=>(a6.l0 m l0 m x0 ([]:List Int) x1).bind fun kY=>match kY with | (NV,fC,pL)=>some fC
def a6.fin (L:Mem)(r:(List Int))(s:St):Prop:=∃av,aP Tryz.prog (s.open sc) Tryz.f132.results.toList=some av∧fi s.h av (aa.fz r)
def QN (cf:CallF)(m:Nat):Prop:=∀(l0:List ah) (iD:Int) (r:(List Int)),a6.f m l0 iD=some r→∀h xs,aX b5 h xs [af.fz l0,.int .i64 iD]→cf 132 xs h=some (aa.fz r,h)
section
variable {cf:CallF}{m:Nat}
theorem a6.gN (L:Mem)(l0:List ah)(ca:Nat)(cL:List Bool)(ca:Nat)(v0:Int)(x2:List Int)(gd:Nat)   : b8 Tryz.prog cf sc m (sub [1,1,1,1,0,0,0,1,0,1,1,1,1,1,1,0,0] (br Tryz.f132)) (fun k (σ:(List Int) × Int)=>a6.l1 m l0 v0 k σ.1 σ.2) (fun σ s=>match σ with | (dw,i0)=>∃fS h5,s=⟨af.fz l0 :: .any :: .any :: .rs ca 0 cL.length 1 :: .rs gd 0 x2.length 1 :: .rs fS 0 dw.length 1 :: .int .i64 v0 :: .int .i64 i0::j5 [],[],h5⟩∧Has h5 ((fS,.sl dw.length 1 (aa.l dw))::(gd,.sl x2.length 1 (aa.l x2))::(ca,.sl cL.length 1 (bS.l (cL.set v0.toNat true)))::L)) (fun out e s=>(e = .exit 2∧∃dw i0,(dw,i0)=out∧∃qT wS Ip fS h5,s=⟨[af.fz l0,.any,.any,.rs ca 0 cL.length 1,.rs gd 0 x2.length 1,.rs fS 0 dw.length 1,qT,wS,.any,.any,Ip],[],h5⟩∧Has h5 ((fS,.sl dw.length 1 (aa.l dw))::(gd,.sl x2.length 1 (aa.l x2))::(ca,.sl cL.length 1 (bS.l (cL.set v0.toNat true)))::L))):=by
 refine iO (fun _=>rfl) ?_
 rintro k ⟨dw,i0⟩ s out ⟨fS,h5,rfl,o8⟩ H
 have H:a6.l1 m l0 v0 (k+1) dw i0=some out:=H
 refine qq <| qq <| q0 <| qc H (fun c2 H=>?_) (fun c2 H=>?_)
 ·refine qk <| qq <| qb 3 ?_
  obtain⟨v5,nI,H⟩:=aS H
  obtain⟨v6,oJ,H⟩:=aS H
  obtain⟨x3,uc,H⟩:=aS H
  obtain⟨gF,h6,wD,o9⟩:=fH (P:=Tryz.prog) (E:=aa) (l:=dw) (q:=0) (t2:=22) (x:=.fz [.int .i64 v6] 1 true) (l2:=([v6])) dt o8 rfl (by kernel_rfl) rfl uc
  exact qr [.v 3 (bO (k:=.i64) (E:=af) (l:=l0) kI nI),.v 5 (mN  (E:=af) (l:=l0) (off:=3) h5 KY nI rfl),.v 7 (bO (k:=.i64) (E:=aa) (l:=v5.args) dt oJ),.v 8 (cF  (E:=aa) (l:=v5.args) h5 A3 oJ rfl),.a 10 wD] <| q0 <| ⟨(x3,i64.wrap (i0 - (1:Int))),⟨gF,h6,(acq (b:=⟨af.fz l0 :: .any :: .any :: .rs ca 0 cL.length 1 :: .rs gd 0 x2.length 1 :: .rs gF 0 x3.length 1 :: .int .i64 v0 :: .int .i64 (i64.wrap (i0 - (1:Int)))::j5 [],[],h6⟩) (by kernel_rfl) (by simp only [abF])),(by have o:Has h6 ((gF,.sl x3.length 1 (aa.l x3))::(gd,.sl x2.length 1 (aa.l x2))::(ca,.sl cL.length 1 (bS.l (cL.set v0.toNat true)))::L):=o9; simpa only [abF] using o)⟩,H⟩
 ·exact qx 2 <| ⟨rfl,dw,i0,oi H,.int .i64 v0,.int .i64 i0,.bool (decide (i0≥(0:Int))),fS,h5,(acq (b:=⟨[af.fz l0,.any,.any,.rs ca 0 cL.length 1,.rs gd 0 x2.length 1,.rs fS 0 dw.length 1,.int .i64 v0,.int .i64 i0,.any,.any,.bool (decide (i0≥(0:Int)))],[],h5⟩) (by kernel_rfl) (by simp only [abF])),(by have o:Has h5 ((fS,.sl dw.length 1 (aa.l dw))::(gd,.sl x2.length 1 (aa.l x2))::(ca,.sl cL.length 1 (bS.l (cL.set v0.toNat true)))::L):=o8; simpa only [abF] using o)⟩
theorem a6.cd (L:Mem)(l0:List ah)   : b8 Tryz.prog cf sc m (sub [1,1,1,1,0,0,0] (br Tryz.f132)) (fun k (σ:(List Bool) × (List Int) × (List Int))=>a6.l0 m l0 k σ.1 σ.2.1 σ.2.2) (fun σ s=>match σ with | (cL,bo,cM)=>∃g0 g1 g2 g3 eP dj ca h2,s=⟨[af.fz l0,.any,.any,.rs ca 0 cL.length 1,.rs dj 0 bo.length 1,.rs eP 0 cM.length 1,g0,g1,.any,g2,g3],[],h2⟩∧Has h2 ((eP,.sl cM.length 1 (aa.l cM))::(dj,.sl bo.length 1 (aa.l bo))::(ca,.sl cL.length 1 (bS.l cL))::L)) (fun out e s=>(e = .exit 0∧∃cL bo cM,(cL,bo,cM)=out∧∃kX vk vm qT wS Iq N2 Ip eP dj ca h2,s=⟨[kX,.any,.any,vk,.rs dj 0 bo.length 1,vm,qT,wS,Iq,N2,Ip],[],h2⟩∧Has h2 ((eP,.sl cM.length 1 (aa.l cM))::(dj,.sl bo.length 1 (aa.l bo))::(ca,.sl cL.length 1 (bS.l cL))::L))):=by
 refine iO (fun _=>rfl) ?_
 rintro k ⟨cL,bo,cM⟩ s out ⟨g0,g1,g2,g3,eP,dj,ca,h2,rfl,o4⟩ H
 have H:a6.l0 m l0 (k+1) cL bo cM=some out:=H
 refine qq <| qq <| q0 <| qc H (fun c0 H=>?_) (fun c0 H=>?_)
 ·refine qk <| qb 1 <| qq ?_
  obtain⟨v0,e4,H⟩:=aS H
  refine qr [.v 4 (aJ (k:=.i64) (E:=aa) (l:=cM) (q:=0) dt o4 rfl e4),.v 5 (bm  (E:=aa) (l:=cM) (q:=0) o4 rfl A3 e4 rfl)] <| qq ?_
  obtain⟨v1,e5,H⟩:=aS H
  obtain⟨Uv,o5⟩:=CS (P:=Tryz.prog) (k:=.i64) (E:=aa) (q:=0) o4 rfl dt e5
  refine qr [.v 4 Uv] <| qq <| qq ?_
  obtain⟨v2,e6,H⟩:=aS H
  refine qr [.v 2 (aJ (k:=.i64) (E:=bS) (l:=cL) (q:=2) Cc o5 rfl e6),.v 3 (bm  (E:=bS) (l:=cL) (q:=2) o5 rfl A4 e6 rfl)] <| qc H (fun c1 H=>?_) (fun c1 H=>?_)
  ·exact qx 1 <| ⟨(cL,bo,v1),⟨.int .i64 v0,.any,.bool v2,.any,eP,dj,ca,h2,by kernel_rfl,o5⟩,H⟩
  ·refine qk <| qq ?_
   obtain⟨v3,e7,H⟩:=aS H
   obtain⟨h3,e8,o6⟩:=en (P:=Tryz.prog) (tf:=4) (E:=bS) (l:=cL) (q:=2) (v:=true) (x:=.bool true) o5 rfl Z4 e7 rfl rfl
   refine qr [.v 2 (aJ (k:=.i64) (E:=bS) (l:=cL) (q:=2) Cc o5 rfl e7),.w 3 e8] <| qq ?_
   obtain⟨x2,e9,H⟩:=aS H
   obtain⟨gd,h4,lg,o7⟩:=fH (P:=Tryz.prog) (E:=aa) (l:=bo) (q:=1) (t2:=22) (x:=.fz [.int .i64 v0] 1 true) (l2:=([v0])) dt o6 rfl (by kernel_rfl) rfl e9
   refine qr [.a 3 lg] <| qq ?_
   obtain⟨v4,mf,H⟩:=aS H
   refine qr [.v 2 (bO (k:=.i64) (E:=af) (l:=l0) kI mf),.v 4 (mN  (E:=af) (l:=l0) (off:=3) h4 KY mf rfl)] <| qb 2 ?_
   obtain⟨bZ,wE,H⟩:=aS H
   refine ql (a6.gN L l0 ca cL ca v0 x2 gd   (v1,i64.wrap ((v4.args.length:Int) - (1:Int))) _ _ ⟨eP,h4,(acq (b:=⟨af.fz l0 :: .any :: .any :: .rs ca 0 cL.length 1 :: .rs gd 0 x2.length 1 :: .rs eP 0 v1.length 1 :: .int .i64 v0 :: .int .i64 (i64.wrap ((v4.args.length:Int) - (1:Int)))::j5 [],[],h4⟩) (by kernel_rfl) (by simp only [abF])),(by have o:Has h4 ((eP,.sl v1.length 1 (aa.l v1))::(gd,.sl x2.length 1 (aa.l x2))::(ca,.sl cL.length 1 (bS.l (cL.set v0.toNat true)))::L):=o7; simpa only [abF] using o)⟩ wE) ?_
   rintro e s ⟨rfl,jV,i1,rfl,g4,g5,g6,jb,h7,rfl,qU⟩
   try dsimp only at H
   exact⟨(cL.set v0.toNat true,x2,jV),⟨g4,g5,.any,g6,jb,gd,ca,h7,(acq (b:=⟨[af.fz l0,.any,.any,.rs ca 0 cL.length 1,.rs gd 0 x2.length 1,.rs jb 0 jV.length 1,g4,g5,.any,.any,g6],[],h7⟩) (by kernel_rfl) (by simp only [abF])),(by have o:Has h7 ((jb,.sl jV.length 1 (aa.l jV))::(gd,.sl x2.length 1 (aa.l x2))::(ca,.sl cL.length 1 (bS.l (cL.set v0.toNat true)))::L):=qU; simpa only [abF] using o)⟩,H⟩
 ·exact qx 0 <| ⟨rfl,cL,bo,cM,oi H,af.fz l0,.rs ca 0 cL.length 1,.rs eP 0 cM.length 1,.any,.any,.bool (decide ((cM.length:Int) > (0:Int))),.any,.any,eP,dj,ca,h2,by kernel_rfl,o4⟩
theorem pN {a7:FuncId→cu}(ha:a7 132=sc)  (l0:List ah)(iD:Int)(h:AHeap)(L:Mem)  (o:Has h (L)){out:(List Int)}(H:a6.f m l0 iD=some out) :
  ∃r h',bj Tryz.prog a7 cf m 132 [af.fz l0,.int .i64 iD] h=some (r,h')∧fi h' r (aa.fz out):=by
 refine au (fn:=Tryz.f132) ha Tryz.func132 (by kernel_rfl) (by kernel_rfl) ?_
 refine aK (Q:=fun s=>a6.fin L out s) (fun _ _ h=>h) ?_
 have H:_=some out:=H
 unfold a6.f at H
 show dR _ cf sc m _ ⟨af.fz l0 :: .int .i64 iD::Mp [],[],h⟩ _
 refine q1 <| qq ?_
 obtain⟨x0,e0,H⟩:=aS H
 obtain⟨aV,h0,e1,o0⟩:=lL (P:=Tryz.prog) (E:=bS) (z:=false) (zv:=.bool false) Cc o 4 rfl rfl rfl rfl e0
 refine qr [.a 2 e1] <| qq <| q0 ?_
 have o1:Has h0 (((0),.sl (([]:List Int).length) 1 (aa.l ([]:List Int)))::(aV,.sl x0.length 1 (bS.l x0))::L):=Has.nil o0 1
 have o2:Has h0 ((((0)),.sl (([]:List Int).length) 1 (aa.l ([]:List Int)))::((0),.sl (([]:List Int).length) 1 (aa.l ([]:List Int)))::(aV,.sl x0.length 1 (bS.l x0))::L):=Has.nil o1 1
 refine qq ?_
 obtain⟨x1,e2,H⟩:=aS H
 obtain⟨dA,h1,e3,o3⟩:=fH (P:=Tryz.prog) (E:=aa) (l:=([]:List Int)) (q:=0) (t2:=22) (x:=.fz [.int .i64 iD] 1 true) (l2:=([iD])) dt o2 rfl (by kernel_rfl) rfl e2
 refine qr [.a 3 e3] <| qq <| qb 0 ?_
 obtain⟨kY,zh,H⟩:=aS H
 refine ql (a6.cd L l0   (x0,([]:List Int),x1) _ _ ⟨.any,.any,.any,.any,dA,(0),aV,h1,by kernel_rfl,o3⟩ zh) ?_
 rintro e s ⟨rfl,NV,fC,pL,rfl,g7,g8,g9,g10,g11,g12,g13,g14,kB,b9,fW,h8,rfl,oR⟩
 try dsimp only at H
 refine q1 ?_
 have s6:Has h8 ((kB,.sl pL.length 1 (aa.l pL))::(b9,.sl fC.length 1 (aa.l fC))::L):=Has.del oR 2
 have lP:Has h8 ((b9,.sl fC.length 1 (aa.l fC))::L):=Has.del s6 0
 obtain rfl:=oi H
 exact qt <| ⟨.inl rfl,bX (.rs b9 0 fC.length 1) h8 (bW (xA (E:=aa) (l:=fC) (q:=0) lP rfl (fun _=>rfl)))⟩
end
end Go.Proofs.YtifafejidnjckaaGreat
namespace Go.Proofs.YtifafejidnjckaaGreat
open Go Go.R
open Go.IntKind (i64 u64 u8 u32)
end Go.Proofs.YtifafejidnjckaaGreat
namespace Go.Proofs.YtifafejidnjckaaGreat
open Go Go.R
open Go.IntKind (i64 u64 u8 u32)
def zi:cu:=gj [0,2] [] [2,1] [] []
def cmp_isNaN_int.f (m:Nat)(x0:Int):Option (Bool):=some (!(x0==x0))
def cmp_isNaN_int.fin (L:Mem)(r:Bool)(s:St):Prop:=∃av,aP Tryz.prog (s.open zi) Tryz.f140.results.toList=some av∧fi s.h av (.bool r)
def QP (cf:CallF)(m:Nat):Prop:=∀(x0:Int) (r:Bool),cmp_isNaN_int.f m x0=some r→∀h xs,aX b5 h xs [.int .i64 x0]→cf 140 xs h=some (.bool r,h)
section
variable {cf:CallF}{m:Nat}
theorem pO {a7:FuncId→cu}(ha:a7 140=zi)  (x0:Int)(h:AHeap)(L:Mem)  (o:Has h (L)){out:Bool}(H:cmp_isNaN_int.f m x0=some out) :
  ∃r h',bj Tryz.prog a7 cf m 140 [.int .i64 x0] h=some (r,h')∧fi h' r (.bool out):=by
 refine au (fn:=Tryz.f140) ha Tryz.func140 (by kernel_rfl) (by kernel_rfl) ?_
 refine aK (Q:=fun s=>cmp_isNaN_int.fin L out s) (fun _ _ h=>h) ?_
 have H:_=some out:=H
 unfold cmp_isNaN_int.f at H
 show dR _ cf zi m _ ⟨[.int .i64 x0,.any],[],h⟩ _
 obtain rfl:=oi H
 exact q1 <| qq <| q0 <| qt <| ⟨.inl rfl,bX (.bool (!(x0==x0))) h (bW (ao))⟩
end
end Go.Proofs.YtifafejidnjckaaGreat
namespace Go.Proofs.YtifafejidnjckaaGreat
open Go Go.R
open Go.IntKind (i64 u64 u8 u32)
def zj:cu:=gj [0,2] [] [2,1] [] []
def cmp_isNaN_string.f (m:Nat)(x0:ByteArray):Option (Bool):=some (!(x0.data.toList==x0.data.toList))
def cmp_isNaN_string.fin (L:Mem)(r:Bool)(s:St):Prop:=∃av,aP Tryz.prog (s.open zj) Tryz.f141.results.toList=some av∧fi s.h av (.bool r)
def QQ (cf:CallF)(m:Nat):Prop:=∀(x0:ByteArray) (r:Bool),cmp_isNaN_string.f m x0=some r→∀h xs,aX b5 h xs [.str x0]→cf 141 xs h=some (.bool r,h)
section
variable {cf:CallF}{m:Nat}
theorem nA {a7:FuncId→cu}(ha:a7 141=zj)  (x0:ByteArray)(h:AHeap)(L:Mem)  (o:Has h (L)){out:Bool}(H:cmp_isNaN_string.f m x0=some out) :
  ∃r h',bj Tryz.prog a7 cf m 141 [.str x0] h=some (r,h')∧fi h' r (.bool out):=by
 refine au (fn:=Tryz.f141) ha Tryz.func141 (by kernel_rfl) (by kernel_rfl) ?_
 refine aK (Q:=fun s=>cmp_isNaN_string.fin L out s) (fun _ _ h=>h) ?_
 have H:_=some out:=H
 unfold cmp_isNaN_string.f at H
 show dR _ cf zj m _ ⟨[.str x0,.any],[],h⟩ _
 obtain rfl:=oi H
 exact q1 <| qq <| q0 <| qt <| ⟨.inl rfl,bX (.bool (!(x0.data.toList==x0.data.toList))) h (bW (ao))⟩
end
end Go.Proofs.YtifafejidnjckaaGreat
namespace Go.Proofs.YtifafejidnjckaaGreat
open Go Go.R
open Go.IntKind (i64 u64 u8 u32)
def vt:cu:=gj [0,1,2,4,5,10,21] [2] [121,105,73,105,41,119,119] [] []
def cG.l0 (m:Nat)(n0:ah)(fh:List Bool):Nat→Int→Option (Sum Bool (Int))
 | 0,_=>none
 | k+1,i0=>if (decide (i0<(n0.args.length:Int)))=true then ((ix n0.args i0).bind fun v0=>(ix fh v0).bind fun v1=>if (!v1)=true then (some (.inl false)) else (cG.l0 m n0 fh k (i64.wrap (i0+(1:Int))))) else (some (.inr i0))
def cG.f (m:Nat)(n0:ah)(fh:List Bool):Option (Bool):=(cG.l0 m n0 fh m (0:Int)).bind fun bo=>match bo with | .inl r0=>some r0 | .inr i1=>some true
def cG.fin (L:Mem)(r:Bool)(s:St):Prop:=∃av,aP Tryz.prog (s.open vt) Tryz.f142.results.toList=some av∧fi s.h av (.bool r)
def La (cf:CallF)(m:Nat):Prop:=∀(n0:ah) (fh:List Bool) (r:Bool),cG.f m n0 fh=some r→∀h xs,aX b5 h xs [.agg [.int .i64 n0.kind,.int .i64 n0.int,.str n0.label,aa.fz n0.args],bS.fz fh]→cf 142 xs h=some (.bool r,h)
section
variable {cf:CallF}{m:Nat}
theorem cG.cd (L:Mem)(n0:ah)(fh:List Bool)   : b8 Tryz.prog cf vt m (sub [1,0,1,0,0] (br Tryz.f142)) (fun k (σ:Int)=>cG.l0 m n0 fh k σ) (fun σ s=>match σ with | i0=>∃h0,s=⟨[.any,bS.fz fh,.lp 2 0,.any,.int .i64 i0,.any,.any],[some [.int .i64 n0.kind,.int .i64 n0.int,.str n0.label,aa.fz n0.args]],h0⟩∧Has h0 (L)) (fun out e s=>(e = .exit 0∧∃i0,.inr i0=out∧∃tw F8 vk pM QR h0,s=⟨[.any,tw,F8,.any,vk,pM,.any],[QR],h0⟩∧Has h0 (L))∨(e = .ret∧∃r,.inl r=out∧cG.fin L r s)):=by
 refine iO (fun _=>rfl) ?_
 rintro k i0 s out ⟨h0,rfl,o0⟩ H
 have H:cG.l0 m n0 fh (k+1) i0=some out:=H
 refine qq <| qq <| q0 <| qc H (fun c0 H=>?_) (fun c0 H=>?_)
 ·refine qk <| qq <| qb 1 <| qq ?_
  obtain⟨v0,e0,H⟩:=aS H
  obtain⟨v1,e1,H⟩:=aS H
  refine qr [.v 4 (bO (k:=.i64) (E:=aa) (l:=n0.args) dt e0),.v 5 (cF  (E:=aa) (l:=n0.args) h0 A3 e0 rfl),.v 6 (bO (k:=.i64) (E:=bS) (l:=fh) Cc e1),.v 7 (cF  (E:=bS) (l:=fh) h0 A4 e1 rfl)] <| qc H (fun c1 H=>?_) (fun c1 H=>?_)
  ·exact q1 <| qt <| ac3 (⟨rfl,_,oi H,bX (.bool false) h0 (bW (ao))⟩)
  ·exact qk <| q0 <| ⟨i64.wrap (i0+(1:Int)),⟨h0,by kernel_rfl,o0⟩,H⟩
 ·exact qx 0 <| Or.inl (⟨rfl,i0,oi H,bS.fz fh,.lp 2 0,.int .i64 i0,.bool (decide (i0<(n0.args.length:Int))),some [.int .i64 n0.kind,.int .i64 n0.int,.str n0.label,aa.fz n0.args],h0,by kernel_rfl,o0⟩)
theorem sd {a7:FuncId→cu}(ha:a7 142=vt)  (n0:ah)(fh:List Bool)(h:AHeap)(L:Mem)  (o:Has h (L)){out:Bool}(H:cG.f m n0 fh=some out) :
  ∃r h',bj Tryz.prog a7 cf m 142 [.agg [.int .i64 n0.kind,.int .i64 n0.int,.str n0.label,aa.fz n0.args],bS.fz fh] h=some (r,h')∧fi h' r (.bool out):=by
 refine au (fn:=Tryz.f142) ha Tryz.func142 (by kernel_rfl) (by kernel_rfl) ?_
 refine aK (Q:=fun s=>cG.fin L out s) (fun _ _ h=>h) ?_
 have H:_=some out:=H
 unfold cG.f at H
 show dR _ cf vt m _ ⟨.agg [.int .i64 n0.kind,.int .i64 n0.int,.str n0.label,aa.fz n0.args]::bS.fz fh::tu [],[none],h⟩ _
 refine q1 <| qq <| qq <| q0 <| qb 0 ?_
 obtain⟨bo,e2,H⟩:=aS H
 refine ql (cG.cd L n0 fh   (0:Int) _ _ ⟨h,by kernel_rfl,o⟩ e2) ?_
 rintro e s (⟨rfl,i1,rfl,g0,g1,g2,g3,g4,h1,rfl,o1⟩| ⟨rfl,r0,rfl,qS⟩)
 ·try dsimp only at H
  obtain rfl:=oi H
  exact q1 <| qt <| ⟨.inl rfl,bX (.bool true) h1 (bW (ao))⟩
 ·try dsimp only at H
  obtain rfl:=oi H
  exact⟨.inl rfl,qS⟩
end
end Go.Proofs.YtifafejidnjckaaGreat
namespace Go.Proofs.YtifafejidnjckaaGreat
open Go Go.R
open Go.IntKind (i64 u64 u8 u32)
def vu:cu:=gj [0,1,2,3,4,6,7,12,31] [3,4] [483,419,291,419,163,479,479] [] []
def bI.l0 (m:Nat)(a0:ah)(b0:ah)(bL:List Int):Nat→Int→Option (Sum Bool (Int))
 | 0,_=>none
 | k+1,i0=>if (decide (i0<(a0.args.length:Int)))=true then ((ix a0.args i0).bind fun v0=>(ix bL v0).bind fun v1=>(ix b0.args i0).bind fun v2=>(ix bL v2).bind fun v3=>if (!(v1==v3))=true then (some (.inl false)) else (bI.l0 m a0 b0 bL k (i64.wrap (i0+(1:Int))))) else (some (.inr i0))
def bI.f (m:Nat)(a0:ah)(b0:ah)(bL:List Int):Option (Bool):=(bI.l0 m a0 b0 bL m (0:Int)).bind fun bo=>match bo with | .inl r0=>some r0 | .inr i1=>some true
def bI.fin (L:Mem)(r:Bool)(s:St):Prop:=∃av,aP Tryz.prog (s.open vu) Tryz.f144.results.toList=some av∧fi s.h av (.bool r)
def C2 (cf:CallF)(m:Nat):Prop:=∀(a0:ah) (b0:ah) (bL:List Int) (r:Bool),bI.f m a0 b0 bL=some r→∀h xs,aX b5 h xs [.agg [.int .i64 a0.kind,.int .i64 a0.int,.str a0.label,aa.fz a0.args],.agg [.int .i64 b0.kind,.int .i64 b0.int,.str b0.label,aa.fz b0.args],aa.fz bL]→cf 144 xs h=some (.bool r,h)
section
variable {cf:CallF}{m:Nat}
theorem bI.cd (L:Mem)(a0:ah)(b0:ah)(bL:List Int)   : b8 Tryz.prog cf vu m (sub [1,0,1,0,0] (br Tryz.f144)) (fun k (σ:Int)=>bI.l0 m a0 b0 bL k σ) (fun σ s=>match σ with | i0=>∃h0,s=⟨[.any,.any,aa.fz bL,.lp 3 0,.lp 4 0,.any,.int .i64 i0,.any,.any],[some [.int .i64 a0.kind,.int .i64 a0.int,.str a0.label,aa.fz a0.args],some [.int .i64 b0.kind,.int .i64 b0.int,.str b0.label,aa.fz b0.args]],h0⟩∧Has h0 (L)) (fun out e s=>(e = .exit 0∧∃i0,.inr i0=out∧∃F8 zk N3 vm N4 Uw Y7 h0,s=⟨[.any,.any,F8,zk,N3,.any,vm,N4,.any],[Uw,Y7],h0⟩∧Has h0 (L))∨(e = .ret∧∃r,.inl r=out∧bI.fin L r s)):=by
 refine iO (fun _=>rfl) ?_
 rintro k i0 s out ⟨h0,rfl,o0⟩ H
 have H:bI.l0 m a0 b0 bL (k+1) i0=some out:=H
 refine qq <| qq <| q0 <| qc H (fun c0 H=>?_) (fun c0 H=>?_)
 ·refine qk <| qq <| qb 1 <| qq ?_
  obtain⟨v0,e0,H⟩:=aS H
  obtain⟨v1,e1,H⟩:=aS H
  obtain⟨v2,e2,H⟩:=aS H
  obtain⟨v3,e3,H⟩:=aS H
  refine qr [.v 4 (bO (k:=.i64) (E:=aa) (l:=a0.args) dt e0),.v 5 (cF  (E:=aa) (l:=a0.args) h0 A3 e0 rfl),.v 6 (bO (k:=.i64) (E:=aa) (l:=bL) dt e1),.v 7 (cF  (E:=aa) (l:=bL) h0 A3 e1 rfl),.v 12 (bO (k:=.i64) (E:=aa) (l:=b0.args) dt e2),.v 13 (cF  (E:=aa) (l:=b0.args) h0 A3 e2 rfl),.v 14 (bO (k:=.i64) (E:=aa) (l:=bL) dt e3),.v 15 (cF  (E:=aa) (l:=bL) h0 A3 e3 rfl)] <| qc H (fun c1 H=>?_) (fun c1 H=>?_)
  ·exact q1 <| qt <| ac3 (⟨rfl,_,oi H,bX (.bool false) h0 (bW (ao))⟩)
  ·exact qk <| q0 <| ⟨i64.wrap (i0+(1:Int)),⟨h0,by kernel_rfl,o0⟩,H⟩
 ·exact qx 0 <| Or.inl (⟨rfl,i0,oi H,aa.fz bL,.lp 3 0,.lp 4 0,.int .i64 i0,.bool (decide (i0<(a0.args.length:Int))),some [.int .i64 a0.kind,.int .i64 a0.int,.str a0.label,aa.fz a0.args],some [.int .i64 b0.kind,.int .i64 b0.int,.str b0.label,aa.fz b0.args],h0,by kernel_rfl,o0⟩)
theorem oS {a7:FuncId→cu}(ha:a7 144=vu)  (a0:ah)(b0:ah)(bL:List Int)(h:AHeap)(L:Mem)  (o:Has h (L)){out:Bool}(H:bI.f m a0 b0 bL=some out) :
  ∃r h',bj Tryz.prog a7 cf m 144 [.agg [.int .i64 a0.kind,.int .i64 a0.int,.str a0.label,aa.fz a0.args],.agg [.int .i64 b0.kind,.int .i64 b0.int,.str b0.label,aa.fz b0.args],aa.fz bL] h=some (r,h')∧fi h' r (.bool out):=by
 refine au (fn:=Tryz.f144) ha Tryz.func144 (by kernel_rfl) (by kernel_rfl) ?_
 refine aK (Q:=fun s=>bI.fin L out s) (fun _ _ h=>h) ?_
 have H:_=some out:=H
 unfold bI.f at H
 show dR _ cf vu m _ ⟨.agg [.int .i64 a0.kind,.int .i64 a0.int,.str a0.label,aa.fz a0.args] :: .agg [.int .i64 b0.kind,.int .i64 b0.int,.str b0.label,aa.fz b0.args]::aa.fz bL::GR [],[none,none],h⟩ _
 refine q1 <| qq <| qq <| q0 <| qb 0 ?_
 obtain⟨bo,e4,H⟩:=aS H
 refine ql (bI.cd L a0 b0 bL   (0:Int) _ _ ⟨h,by kernel_rfl,o⟩ e4) ?_
 rintro e s (⟨rfl,i1,rfl,g0,g1,g2,g3,g4,g5,g6,h1,rfl,o1⟩| ⟨rfl,r0,rfl,qS⟩)
 ·try dsimp only at H
  obtain rfl:=oi H
  exact q1 <| qt <| ⟨.inl rfl,bX (.bool true) h1 (bW (ao))⟩
 ·try dsimp only at H
  obtain rfl:=oi H
  exact⟨.inl rfl,qS⟩
end
end Go.Proofs.YtifafejidnjckaaGreat
