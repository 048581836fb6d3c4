/- Part of the proof: Q17, Q35, Q49, Q50, Q65, Q69, Q71, Q72, Q75, Q76, Q85, Q87, Q89, Q91, Q92, Q93, Q94, Q95, Q97, Q98, Q101, Q104, Q105, Q106, Q107, Q109, Q110, Q113, Q120, Q125, Q126, Q128, Q130. -/
import Derived.Test.YtifafejidnjckaaGreatK6
set_option linter.unusedVariables false
set_option linter.unusedSimpArgs false
set_option maxRecDepth 100000
open ByteArray renaming mk → ajg
open Or renaming inr → ajW, inl → akl
namespace Go.Proofs.YtifafejidnjckaaGreat
open Go Go.R
open Go.IntKind (i64 u64 u8 u32)
def Jj:b4:=gL [0] [1400000001] [1] [] []
def mo.f (m:Nat)  : Option (aj):=some (aj.mk ([]:List ak) ([]:List Int) true)
def mo.fin (L:Mem)  (r:aj)(s:St):Prop:=∃cR dR dS:Nat,aK Tryz.prog (s.open Jj) Tryz.f17.results.toList=some (.ptr cR 0)∧Has s.h ((cR,.ob [.rs dR 0 r.ah.length 4,.rs dS 0 r.ao.length 1,.bool r.aE])::(dR,.sl r.ah.length 4 (af.l r.ah))::(dS,.sl r.ao.length 1 (ab.l r.ao))::L)
def S17 (cf:CallF)(m:Nat):Prop:=∀ (r:aj),mo.f m  = some r→∀h L,Has h (L)→∀xs,xs.map ba=[]→∃cR dR dS h',cf 17 xs h=some (.ptr cR 0,h')∧Has h' ((cR,.ob [.rs dR 0 r.ah.length 4,.rs dS 0 r.ao.length 1,.bool r.aE])::(dR,.sl r.ah.length 4 (af.l r.ah))::(dS,.sl r.ao.length 1 (ab.l r.ao))::L)
section
variable {cf:CallF}{m:Nat}
theorem z7 {aW:FuncId→b4}(ha:aW 17=Jj)   (h:AHeap)(L:Mem)  (o:Has h (L)){out:aj}(H:mo.f m  = some out) :
  ∃r h',bj Tryz.prog aW cf m 17 [] h=some (r,h')∧∃cR dR dS:Nat,r = .ptr cR 0∧Has h' ((cR,.ob [.rs dR 0 out.ah.length 4,.rs dS 0 out.ao.length 1,.bool out.aE])::(dR,.sl out.ah.length 4 (af.l out.ah))::(dS,.sl out.ao.length 1 (ab.l out.ao))::L):=by
 refine aw (fn:=Tryz.f17) ha Tryz.func17 kr kr ?_
 refine aI (Q:=fun s=>mo.fin L out s) (fun _ _ ⟨h1,cR,dR,dS,h2,h3⟩=>⟨h1,_,h2,cR,dR,dS,rfl,h3⟩) ?_
 have H:_=some out:=H
 unfold mo.f at H
 show dE _ cf Jj m _ ⟨[.any],[none],h⟩ _
 refine q1 <| qq ?_
 have o0:Has h (((0),.sl (([]:List ak).length) 4 (af.l ([]:List ak)))::L):=Has.nil o 4
 have o1:Has h ((((0)),.sl (([]:List Int).length) 1 (ab.l ([]:List Int)))::((0),.sl (([]:List ak).length) 4 (af.l ([]:List ak)))::L):=Has.nil o0 1
 obtain⟨aX,h0,e0,o2⟩:=ja (cs:=[.rs (0) 0 (([]:List ak).length) 4,.rs ((0)) 0 (([]:List Int).length) 1,.bool true]) o1 kr
 obtain rfl:=oi H
 exact qr [.a 1 e0] <| qt <| ⟨.inl rfl,⟨aX,(0),((0)),kr,he (bI (bI (bI o2 1) 2) 2)⟩⟩
end
def Fx:b4:=gL [0,1,4,5,10,14,25] [] [124,108,123,116,84,116,52,123,123] [] []
def dq.l0 (m:Nat)(a0:List Int)(b0:List Int):Nat→Int→Option (Sum Bool (Int))
 | 0,_=>none
 | k+1,i0=>if (decide (i0<(a0.length:Int)))=true then ((ix a0 i0).bind fun v0=>(ix b0 i0).bind fun v1=>if (!(v0==v1))=true then (some (.inl false)) else (dq.l0 m a0 b0 k (i64.wrap (i0+1)))) else (some (.inr i0))
def dq.f (m:Nat)(a0:List Int)(b0:List Int):Option (Bool):=if (!((a0.length:Int)==(b0.length:Int)))=true then (some false) else ((dq.l0 m a0 b0 m 0).bind fun bp=>match bp with | .inl r0=>some r0 | .inr i1=>some true)
def dq.fin (L:Mem)(r:Bool)(s:St):Prop:=∃av,aK Tryz.prog (s.open Fx) Tryz.f35.results.toList=some av∧eX s.h av (.bool r)
def Zc (cf:CallF)(m:Nat):Prop:=∀(a0:List Int) (b0:List Int) (r:Bool),dq.f m a0 b0=some r→∀h xs,bl cd h xs [ab.fz a0,ab.fz b0]→cf 35 xs h=some (.bool r,h)
section
variable {cf:CallF}{m:Nat}
theorem dq.cm (L:Mem)(a0:List Int)(b0:List Int)   : b9 Tryz.prog cf Fx m (sub [1,1,0,1,0,0] (bw Tryz.f35)) (fun k (σ:Int)=>dq.l0 m a0 b0 k σ) (fun σ s=>match σ with | i0=>∃h0,s=⟨ab.fz a0::ab.fz b0 :: .any :: .i i0::nc [],[],h0⟩∧Has h0 (L)) (fun out e s=>(e = .exit 0∧∃i0,.inr i0=out∧∃lH wO z8 Aa h0,s=⟨[lH,wO,.any,z8,.any,Aa,.any],[],h0⟩∧Has h0 (L))∨(e = .ret∧∃r,.inl r=out∧dq.fin L r s)):=by
 refine jF (fun _=>rfl) ?_
 rintro k i0 s out ⟨h0,rfl,o0⟩ H
 have H:dq.l0 m a0 b0 (k+1) i0=some out:=H
 refine qq <| qq <| q0 <| qc H (fun c1 H=>?_) (fun c1 H=>?_)
 ·refine qk <| qq <| qb 1 <| qq ?_
  obtain⟨v0,e0,H⟩:=aP H
  obtain⟨v1,e1,H⟩:=aP H
  refine qr [.v 2 (bN (k:=.i64) (E:=ab) (l:=a0) da e0),.v 3 (cO  (E:=ab) (l:=a0) h0 A3 e0 rfl),.v 6 (bN (k:=.i64) (E:=ab) (l:=b0) da e1),.v 7 (cO  (E:=ab) (l:=b0) h0 A3 e1 rfl)] <| qc H (fun c2 H=>?_) (fun c2 H=>?_)
  ·exact q1 <| qt <| ajW (⟨rfl,_,oi H,pX (.bool false) h0 (oR (jh))⟩)
  ·exact qk <| q0 <| ⟨i64.wrap (i0+1),⟨h0,kr,o0⟩,H⟩
 ·exact qx 0 <| akl (⟨rfl,i0,oi H,ab.fz a0,ab.fz b0,.i i0,.bool (decide (i0<(a0.length:Int))),h0,kr,o0⟩)
theorem yg {aW:FuncId→b4}(ha:aW 35=Fx)  (a0:List Int)(b0:List Int)(h:AHeap)(L:Mem)  (o:Has h (L)){out:Bool}(H:dq.f m a0 b0=some out) :
  ∃r h',bj Tryz.prog aW cf m 35 [ab.fz a0,ab.fz b0] h=some (r,h')∧eX h' r (.bool out):=by
 refine aw (fn:=Tryz.f35) ha Tryz.func35 kr kr ?_
 refine aI (Q:=fun s=>dq.fin L out s) (fun _ _ h=>h) ?_
 have H:_=some out:=H
 unfold dq.f at H
 show dE _ cf Fx m _ ⟨ab.fz a0::ab.fz b0::sO [],[],h⟩ _
 refine q1 <| qq <| qq <| q0 <| qc H (fun c0 H=>?_) (fun c0 H=>?_)
 ·exact q1 <| qt <| fB H
 ·refine qk <| qq <| qq <| q0 <| qb 0 ?_
  obtain⟨bp,e2,H⟩:=aP H
  refine ql (dq.cm L a0 b0   0 _ _ ⟨h,kr,o⟩ e2) ?_
  rintro e s (⟨rfl,i1,rfl,g0,g1,g2,g3,h1,rfl,o1⟩| ⟨rfl,r0,rfl,r9⟩)
  ·try dsimp only at H
   exact q1 <| qt <| fB H
  ·try dsimp only at H
   obtain rfl:=oi H
   exact⟨.inl rfl,r9⟩
end
def Jk:b4:=gL [0,2] [] [2,1] [] []
def cH.f (m:Nat)(s0:ae):Option (Bool):=some s0.ay
def cH.fin (L:Mem)(r:Bool)(s:St):Prop:=∃av,aK Tryz.prog (s.open Jk) Tryz.f49.results.toList=some av∧eX s.h av (.bool r)
def V9 (cf:CallF)(m:Nat):Prop:=∀(s0:ae) (r:Bool),cH.f m s0=some r→∀h xs,bl cd h xs [.fp [.bool s0.ay,af.fz s0.aa,ab.fz s0.an] 0]→cf 49 xs h=some (.bool r,h)
section
variable {cf:CallF}{m:Nat}
theorem qZ {aW:FuncId→b4}(ha:aW 49=Jk)  (s0:ae)(h:AHeap)(L:Mem)  (o:Has h (L)){out:Bool}(H:cH.f m s0=some out) :
  ∃r h',bj Tryz.prog aW cf m 49 [.fp [.bool s0.ay,af.fz s0.aa,ab.fz s0.an] 0] h=some (r,h')∧eX h' r (.bool out):=by
 refine aw (fn:=Tryz.f49) ha Tryz.func49 kr kr ?_
 refine aI (Q:=fun s=>cH.fin L out s) (fun _ _ h=>h) ?_
 have H:_=some out:=H
 unfold cH.f at H
 show dE _ cf Jk m _ ⟨[.fp [.bool s0.ay,af.fz s0.aa,ab.fz s0.an] 0,.any],[],h⟩ _
 exact q1 <| qq <| q0 <| qt <| fB H
end
def Jl:b4:=gL [0,2] [] [2,1] [] []
def ca.f (m:Nat)(s0:aj):Option (Bool):=some s0.aE
def ca.fin (L:Mem)(r:Bool)(s:St):Prop:=∃av,aK Tryz.prog (s.open Jl) Tryz.f50.results.toList=some av∧eX s.h av (.bool r)
def N4 (cf:CallF)(m:Nat):Prop:=∀(s0:aj) (r:Bool),ca.f m s0=some r→∀h xs,bl cd h xs [.fp [af.fz s0.ah,ab.fz s0.ao,.bool s0.aE] 0]→cf 50 xs h=some (.bool r,h)
section
variable {cf:CallF}{m:Nat}
theorem q6 {aW:FuncId→b4}(ha:aW 50=Jl)  (s0:aj)(h:AHeap)(L:Mem)  (o:Has h (L)){out:Bool}(H:ca.f m s0=some out) :
  ∃r h',bj Tryz.prog aW cf m 50 [.fp [af.fz s0.ah,ab.fz s0.ao,.bool s0.aE] 0] h=some (r,h')∧eX h' r (.bool out):=by
 refine aw (fn:=Tryz.f50) ha Tryz.func50 kr kr ?_
 refine aI (Q:=fun s=>ca.fin L out s) (fun _ _ h=>h) ?_
 have H:_=some out:=H
 unfold ca.f at H
 show dE _ cf Jl m _ ⟨[.fp [af.fz s0.ah,ab.fz s0.ao,.bool s0.aE] 0,.any],[],h⟩ _
 exact q1 <| qq <| q0 <| qt <| fB H
end
def Jm:b4:=gL [0,1,4] [] [4,3] [] []
def dt.f (m:Nat)(s0:ae)(n0:Int):Option (Bool):=(ix s0.aa n0).bind fun v0=>some (v0.kind==0)
def dt.fin (L:Mem)(r:Bool)(s:St):Prop:=∃av,aK Tryz.prog (s.open Jm) Tryz.f65.results.toList=some av∧eX s.h av (.bool r)
def Zd (cf:CallF)(m:Nat):Prop:=∀(s0:ae) (n0:Int) (r:Bool),dt.f m s0 n0=some r→∀h xs,bl cd h xs [.fp [.bool s0.ay,af.fz s0.aa,ab.fz s0.an] 0,.i n0]→cf 65 xs h=some (.bool r,h)
section
variable {cf:CallF}{m:Nat}
theorem q7 {aW:FuncId→b4}(ha:aW 65=Jm)  (s0:ae)(n0:Int)(h:AHeap)(L:Mem)  (o:Has h (L)){out:Bool}(H:dt.f m s0 n0=some out) :
  ∃r h',bj Tryz.prog aW cf m 65 [.fp [.bool s0.ay,af.fz s0.aa,ab.fz s0.an] 0,.i n0] h=some (r,h')∧eX h' r (.bool out):=by
 refine aw (fn:=Tryz.f65) ha Tryz.func65 kr kr ?_
 refine aI (Q:=fun s=>dt.fin L out s) (fun _ _ h=>h) ?_
 have H:_=some out:=H
 unfold dt.f at H
 show dE _ cf Jm m _ ⟨[.fp [.bool s0.ay,af.fz s0.aa,ab.fz s0.an] 0,.i n0,.any],[],h⟩ _
 refine q1 <| qq ?_
 obtain⟨v0,e0,H⟩:=aP H
 exact qr [.v 5 (bN (k:=.i64) (E:=af) (l:=s0.aa) lJ e0),.v 7 (kc  (E:=af) (l:=s0.aa) (off:=0) h A3 e0 rfl)] <| qt <| fB H
end
def Fy:b4:=gL [0,1,5,6,7,8,9] [] [70,6,66,70,70] [] []
def bU.l0 (m:Nat)(bf:List Int):Nat→Int→ae→Option (Int × ae)
 | 0,_,_=>none
 | k+1,x0,s1=>if (decide (x0<(bf.length:Int)))=true then ((ix bf x0).bind fun v0=>(ix s1.an v0).bind fun v1=>bU.l0 m bf k (i64.wrap (x0+1)) (ae.mk s1.ay s1.aa (s1.an.set v0.toNat v0))) else (some ((x0,s1)))
def bU.f (m:Nat)(s0:ae)(bf:List Int):Option (ae):=(bU.l0 m bf m 0 s0).bind fun bp=>match bp with | (x1,s2)=>some s2
def bU.fin (L:Mem)(au:Nat)(aq:Nat)(az:Nat)(s0:ae)(bf:List Int)(r:ae)(s:St):Prop:=∃aB aC:Nat,aK Tryz.prog (s.open Fy) Tryz.f69.results.toList=some (.tup [])∧Has s.h ((au,.ob [.bool r.ay,.rs aB 0 r.aa.length 4,.rs aC 0 r.an.length 1])::(aB,.sl r.aa.length 4 (af.l r.aa))::(aC,.sl r.an.length 1 (ab.l r.an))::L)
def S69 (cf:CallF)(m:Nat):Prop:=∀(s0:ae) (bf:List Int) (r:ae),bU.f m s0 bf=some r→∀h L (au:Nat) (aq:Nat) (az:Nat),Has h ((au,.ob [.bool s0.ay,.rs aq 0 s0.aa.length 4,.rs az 0 s0.an.length 1])::(aq,.sl s0.aa.length 4 (af.l s0.aa))::(az,.sl s0.an.length 1 (ab.l s0.an))::L)→∀xs,xs.map ba=[.ptr au 0,ab.fz bf]→∃aB aC h',cf 69 xs h=some (.tup [],h')∧Has h' ((au,.ob [.bool r.ay,.rs aB 0 r.aa.length 4,.rs aC 0 r.an.length 1])::(aB,.sl r.aa.length 4 (af.l r.aa))::(aC,.sl r.an.length 1 (ab.l r.an))::L)
section
variable {cf:CallF}{m:Nat}
theorem bU.cm (L:Mem)(au:Nat)(aq:Nat)(az:Nat)(s0:ae)(bf:List Int)   : b9 Tryz.prog cf Fy m (sub [1,0,0] (bw Tryz.f69)) (fun k (σ:Int × ae)=>bU.l0 m bf k σ.1 σ.2) (fun σ s=>match σ with | (x0,s1)=>∃aX b7 h0,s=⟨[.ptr au 0,.any,.any,ab.fz bf,.i (bf.length:Int),.i x0,.any],[],h0⟩∧Has h0 ((au,.ob [.bool s1.ay,.rs aX 0 s1.aa.length 4,.rs b7 0 s1.an.length 1])::(aX,.sl s1.aa.length 4 (af.l s1.aa))::(b7,.sl s1.an.length 1 (ab.l s1.an))::L)) (fun out e s=>(e = .exit 0∧∃x0 s1,(x0,s1)=out∧∃lH yh wM ud vg aX b7 h0,s=⟨[lH,.any,.any,yh,wM,ud,vg],[],h0⟩∧Has h0 ((au,.ob [.bool s1.ay,.rs aX 0 s1.aa.length 4,.rs b7 0 s1.an.length 1])::(aX,.sl s1.aa.length 4 (af.l s1.aa))::(b7,.sl s1.an.length 1 (ab.l s1.an))::L))):=by
 refine jF (fun _=>rfl) ?_
 rintro k ⟨x0,s1⟩ s out ⟨aX,b7,h0,rfl,o0⟩ H
 have H:bU.l0 m bf (k+1) x0 s1=some out:=H
 refine q1 <| qq <| qc H (fun c0 H=>?_) (fun c0 H=>?_)
 ·refine qk <| qq <| qb 1 <| qq ?_
  obtain⟨v0,e0,H⟩:=aP H
  refine qr [.v 0 (bN (k:=.i64) (E:=ab) (l:=bf) da e0),.v 1 (cO  (E:=ab) (l:=bf) h0 A3 e0 rfl)] ?_
  obtain⟨v1,e1,H⟩:=aP H
  obtain⟨h1,e2,o1⟩:=dD (P:=Tryz.prog) (tf:=3) (E:=ab) (l:=s1.an) (q:=2) (v:=v0) (x:=.i v0) o0 rfl Z3 e1 rfl rfl
  exact qr [.v 3 (show bR Tryz.prog h0 22 (.ptr au 2)=some (.rs b7 0 s1.an.length 1) from cJ (q:=0) (cs:=[.bool s1.ay,.rs aX 0 s1.aa.length 4,.rs b7 0 s1.an.length 1]) o0 rfl kr),.v 6 (aL (k:=.i64) (E:=ab) (l:=s1.an) (q:=2) da o0 rfl e1),.w 7 e2] <| q0 <| ⟨(i64.wrap (x0+1),(ae.mk s1.ay s1.aa (s1.an.set v0.toNat v0))),⟨aX,b7,h1,ld,(ow o1)⟩,H⟩
 ·exact qx 0 <| ⟨rfl,x0,s1,oi H,.ptr au 0,ab.fz bf,.i (bf.length:Int),.i x0,.bool (decide (x0<(bf.length:Int))),aX,b7,h0,kr,o0⟩
theorem q8 {aW:FuncId→b4}(ha:aW 69=Fy)  (s0:ae)(bf:List Int)(h:AHeap)(L:Mem)(au:Nat)(aq:Nat)(az:Nat)  (o:Has h ((au,.ob [.bool s0.ay,.rs aq 0 s0.aa.length 4,.rs az 0 s0.an.length 1])::(aq,.sl s0.aa.length 4 (af.l s0.aa))::(az,.sl s0.an.length 1 (ab.l s0.an))::L)){out:ae}(H:bU.f m s0 bf=some out) :
  ∃r h',bj Tryz.prog aW cf m 69 [.ptr au 0,ab.fz bf] h=some (r,h')∧∃aB aC:Nat,r = .tup []∧Has h' ((au,.ob [.bool out.ay,.rs aB 0 out.aa.length 4,.rs aC 0 out.an.length 1])::(aB,.sl out.aa.length 4 (af.l out.aa))::(aC,.sl out.an.length 1 (ab.l out.an))::L):=by
 refine aw (fn:=Tryz.f69) ha Tryz.func69 kr kr ?_
 refine aI (Q:=fun s=>bU.fin L au aq az s0 bf out s) (fun _ _ ⟨h1,aB,aC,h2,h3⟩=>⟨h1,_,h2,aB,aC,rfl,h3⟩) ?_
 have H:_=some out:=H
 unfold bU.f at H
 show dE _ cf Fy m _ ⟨.ptr au 0::ab.fz bf::sO [],[],h⟩ _
 refine q1 <| qb 0 ?_
 obtain⟨bp,e3,H⟩:=aP H
 refine ql (bU.cm L au aq az s0 bf   (0,s0) _ _ ⟨aq,az,h,kr,o⟩ e3) ?_
 rintro e s ⟨rfl,x1,s2,rfl,g0,g1,g2,g3,g4,bT,cK,h2,rfl,o2⟩
 try dsimp only at H
 obtain rfl:=oi H
 exact⟨.inr rfl,⟨bT,cK,kr,he o2⟩⟩
end
def Jn:b4:=gL [0,1,2,5,6,7,8,9,13,17,31] [5] [2036,1908,1999,1782,1999,1526,1999,1974,950,1974,1983,1999] [] []
def dF.f (m:Nat)(s0:ae)(N6:Option (Bool))(n0:ak):Option (Int × Int × ae):=(cH.f m s0).bind fun x0=>if (!x0)=true then (some (0,6,s0)) else ((N6 ).bind fun r0=>if (!r0)=true then (some (0,1,s0)) else (if (decide ((s0.aa.length:Int)≥8000))=true then (some (0,7,s0)) else (jn (fun (σ:Int)=>match σ with | n1=>(app 56 s0.aa ([(ak.mk n0.kind n1 n0.label n0.args)])).bind fun x1=>(app 8 s0.an ([(s0.aa.length:Int)])).bind fun x2=>some ((s0.aa.length:Int),0,(ae.mk s0.ay x1 x2))) fun vh=>(if (n0.kind==0)=true then (vh (s0.aa.length:Int)) else (vh n0.int)))))
def dF.fin (L:Mem)(au:Nat)(aq:Nat)(az:Nat)(s0:ae)(N6:Option (Bool))(n0:ak)(r:Int × Int × ae)(s:St):Prop:=∃aB aC:Nat,aK Tryz.prog (s.open Jn) Tryz.f71.results.toList=some (.tup [.i r.1,.i r.2.1])∧Has s.h ((au,.ob [.bool r.2.2.ay,.rs aB 0 r.2.2.aa.length 4,.rs aC 0 r.2.2.an.length 1])::(aB,.sl r.2.2.aa.length 4 (af.l r.2.2.aa))::(aC,.sl r.2.2.an.length 1 (ab.l r.2.2.an))::L)
def Wa (cf:CallF)(m:Nat):Prop:=∀(s0:ae) (N6:Option (Bool)) (n0:ak) (r:Int × Int × ae),dF.f m s0 N6 n0=some r→∀h L (au:Nat) (aq:Nat) (az:Nat),Has h ((au,.ob [.bool s0.ay,.rs aq 0 s0.aa.length 4,.rs az 0 s0.an.length 1])::(aq,.sl s0.aa.length 4 (af.l s0.aa))::(az,.sl s0.an.length 1 (ab.l s0.an))::L)→∀(iP:FuncId) (bA dy:List AV),(ba (.fn iP bA) = .fn iP bA)→(∀(h:AHeap) (xs:List AV)  r,N6  = some r→bl cd h xs ([]++dy)→cf iP xs h=some (.bool r,h))→(∀h K,Has h (K++((au,.ob [.bool s0.ay,.rs aq 0 s0.aa.length 4,.rs az 0 s0.an.length 1])::(aq,.sl s0.aa.length 4 (af.l s0.aa))::(az,.sl s0.an.length 1 (ab.l s0.an))::L))→bl ez h bA dy)→(∀h,bl ez h dy dy)→∀xs,xs.map ba=[.ptr au 0,.fn iP bA,.agg [.i n0.kind,.i n0.int,.str n0.label,ab.fz n0.args]]→∃aB aC h',cf 71 xs h=some (.tup [.i r.1,.i r.2.1],h')∧Has h' ((au,.ob [.bool r.2.2.ay,.rs aB 0 r.2.2.aa.length 4,.rs aC 0 r.2.2.an.length 1])::(aB,.sl r.2.2.aa.length 4 (af.l r.2.2.aa))::(aC,.sl r.2.2.an.length 1 (ab.l r.2.2.an))::L)
section
variable {cf:CallF}{m:Nat}
theorem sa {aW:FuncId→b4}(ha:aW 71=Jn)(Dx:V9 cf m)(s0:ae)(N6:Option (Bool))(n0:ak)(h:AHeap)(L:Mem)(au:Nat)(aq:Nat)(az:Nat)(iP:FuncId)(bA dy:List AV)  (Ab:ba (.fn iP bA) = .fn iP bA)(kG:∀(h:AHeap) (xs:List AV)  r,N6  = some r→bl cd h xs ([]++dy)→cf iP xs h=some (.bool r,h))(vi:∀h K,Has h (K++((au,.ob [.bool s0.ay,.rs aq 0 s0.aa.length 4,.rs az 0 s0.an.length 1])::(aq,.sl s0.aa.length 4 (af.l s0.aa))::(az,.sl s0.an.length 1 (ab.l s0.an))::L))→bl ez h bA dy)(kH:∀h,bl ez h dy dy)(o:Has h ((au,.ob [.bool s0.ay,.rs aq 0 s0.aa.length 4,.rs az 0 s0.an.length 1])::(aq,.sl s0.aa.length 4 (af.l s0.aa))::(az,.sl s0.an.length 1 (ab.l s0.an))::L)){out:Int × Int × ae}(H:dF.f m s0 N6 n0=some out) :
  ∃r h',bj Tryz.prog aW cf m 71 [.ptr au 0,.fn iP bA,.agg [.i n0.kind,.i n0.int,.str n0.label,ab.fz n0.args]] h=some (r,h')∧∃aB aC:Nat,r = .tup [.i out.1,.i out.2.1]∧Has h' ((au,.ob [.bool out.2.2.ay,.rs aB 0 out.2.2.aa.length 4,.rs aC 0 out.2.2.an.length 1])::(aB,.sl out.2.2.aa.length 4 (af.l out.2.2.aa))::(aC,.sl out.2.2.an.length 1 (ab.l out.2.2.an))::L):=by
 refine aw (fn:=Tryz.f71) ha Tryz.func71 kr kr ?_
 refine aI (Q:=fun s=>dF.fin L au aq az s0 N6 n0 out s) (fun _ _ ⟨h1,aB,aC,h2,h3⟩=>⟨h1,_,h2,aB,aC,rfl,h3⟩) ?_
 have H:_=some out:=H
 unfold dF.f at H
 show dE _ cf Jn m _ ⟨.ptr au 0 :: .fn iP bA :: .agg [.i n0.kind,.i n0.int,.str n0.label,ab.fz n0.args]::tX [],[none],h⟩ _
 refine q1 <| qq <| qb 0 <| qq ?_
 obtain⟨x0,e0,H⟩:=aP H
 refine qr [.a 1 (Dx _ _ e0 h _ (ia (ai (dM (q:=0) o rfl (ai (eM) (ai (cC (E:=af) (l:=s0.aa) (q:=1) o rfl (fun _=>rfl)) (ai (cC (E:=ab) (l:=s0.an) (q:=2) o rfl (fun _=>rfl)) (aD))))) (aD))))] <| qc H (fun c0 H=>?_) (fun c0 H=>?_)
 ·obtain rfl:=oi H
  exact q1 <| qt <| ⟨.inl rfl,⟨aq,az,kr,he o⟩⟩
 ·refine qq ?_
  obtain⟨r0,e1,H⟩:=aP H
  refine qr [.a 1 (kG _ _ _ e1 (S3 (aD) (vi h [] o)))] <| qc H (fun c1 H=>?_) (fun c1 H=>?_)
  ·obtain rfl:=oi H
   exact q1 <| qt <| ⟨.inl rfl,⟨aq,az,kr,he o⟩⟩
  ·refine qs [.v 3 (show bR Tryz.prog h 23 (.ptr au 1)=some (.rs aq 0 s0.aa.length 4) from cJ (q:=0) (cs:=[.bool s0.ay,.rs aq 0 s0.aa.length 4,.rs az 0 s0.an.length 1]) o rfl kr)] <| qc H (fun c2 H=>?_) (fun c2 H=>?_)
   ·obtain rfl:=oi H
    exact q1 <| qt <| ⟨.inl rfl,⟨aq,az,kr,he o⟩⟩
   ·refine qk <| qq <| qr [.v 3 (show bR Tryz.prog h 23 (.ptr au 1)=some (.rs aq 0 s0.aa.length 4) from cJ (q:=0) (cs:=[.bool s0.ay,.rs aq 0 s0.aa.length 4,.rs az 0 s0.an.length 1]) o rfl kr)] ?_
    obtain⟨vh,Jo,H⟩:=ov H
    refine qj (S:=fun (σ:Int) s=>match σ with | n1=>∃(g0:AV) (h0:AHeap),s=⟨.ptr au 0 :: .any :: .any :: .lp 5 0 :: .any :: .any :: .i (s0.aa.length:Int)::nc [g0],[some [.i n0.kind,.i n1,.str n0.label,ab.fz n0.args]],h0⟩∧Has h0 ((au,.ob [.bool s0.ay,.rs aq 0 s0.aa.length 4,.rs az 0 s0.an.length 1])::(aq,.sl s0.aa.length 4 (af.l s0.aa))::(az,.sl s0.an.length 1 (ab.l s0.an))::L)) vh H ?_ ?_
    ·rintro n1 s ⟨g0,h0,rfl,o0⟩ H
     have H:=(Jo _).symm.trans H
     try dsimp only at H
     refine qq ?_
     obtain⟨x1,e2,H⟩:=aP H
     obtain⟨aX,h1,e3,o1⟩:=eu (P:=Tryz.prog) (E:=af) (l:=s0.aa) (q:=1) (t2:=23) (x:=.fz [.i n0.kind,.i n1,.str n0.label,ab.fz n0.args] 1 true) (l2:=([(ak.mk n0.kind n1 n0.label n0.args)])) lJ o0 rfl kr rfl e2
     obtain⟨x2,e4,H⟩:=aP H
     obtain⟨b7,h2,e5,o2⟩:=eu (P:=Tryz.prog) (E:=ab) (l:=s0.an) (q:=2) (t2:=22) (x:=.fz [.i (s0.aa.length:Int)] 1 true) (l2:=([(s0.aa.length:Int)])) da o1 rfl kr rfl e4
     obtain⟨h3,e6,o3⟩:=mV (P:=Tryz.prog) (t:=23) (off:=1) (q:=0) (cs:=[.bool s0.ay,.rs aq 0 s0.aa.length 4,.rs az 0 s0.an.length 1]) (iO:=[.bool s0.ay,.rs aX 0 x1.length 4,.rs az 0 s0.an.length 1]) (x:=.rs aX 0 x1.length 4) o2 rfl kr
     obtain⟨h4,e7,o4⟩:=mV (P:=Tryz.prog) (t:=22) (off:=2) (q:=0) (cs:=[.bool s0.ay,.rs aX 0 x1.length 4,.rs az 0 s0.an.length 1]) (iO:=[.bool s0.ay,.rs aX 0 x1.length 4,.rs b7 0 x2.length 1]) (x:=.rs b7 0 x2.length 1) o3 rfl kr
     obtain rfl:=oi H
     exact V6 [] [.v 5 (show bR Tryz.prog h0 23 (.ptr au 1)=some (.rs aq 0 s0.aa.length 4) from cJ (q:=0) (cs:=[.bool s0.ay,.rs aq 0 s0.aa.length 4,.rs az 0 s0.an.length 1]) o0 rfl kr),.a 8 e3,.v 12 (show bR Tryz.prog h1 22 (.ptr au 2)=some (.rs az 0 s0.an.length 1) from cJ (q:=0) (cs:=[.bool s0.ay,.rs aq 0 s0.aa.length 4,.rs az 0 s0.an.length 1]) o1 rfl kr),.a 15 e5,.w 18 e6,.w 21 e7] [.mk (HE o0 (q:=1) rfl (q2:=0) rfl (by decide) e3)] <| qq <| q0 <| qt <| ⟨.inl rfl,⟨aX,b7,kr,he o4⟩⟩
    clear Jo
    intro sZ
    refine q1 <| qc H (fun c3 H=>?_) (fun c3 H=>?_)
    ·exact q0 <| sZ (s0.aa.length:Int) _ ⟨.any,h,kr,o⟩ H
    ·exact qk <| sZ n0.int _ ⟨.bool (n0.kind==0),h,kr,o⟩ H
end
def Jp:b4:=gL [0] [] [1] [] []
def gd.f (m:Nat)  : Option (Bool):=some true
def gd.fin (L:Mem)(r:Bool)(s:St):Prop:=∃av,aK Tryz.prog (s.open Jp) Tryz.f72.results.toList=some av∧eX s.h av (.bool r)
def S72 (cf:CallF)(m:Nat):Prop:=∀ (r:Bool),gd.f m  = some r→∀h xs,bl cd h xs []→cf 72 xs h=some (.bool r,h)
section
variable {cf:CallF}{m:Nat}
theorem pY {aW:FuncId→b4}(ha:aW 72=Jp)   (h:AHeap)(L:Mem)  (o:Has h (L)){out:Bool}(H:gd.f m  = some out) :
  ∃r h',bj Tryz.prog aW cf m 72 [] h=some (r,h')∧eX h' r (.bool out):=by
 refine aw (fn:=Tryz.f72) ha Tryz.func72 kr kr ?_
 refine aI (Q:=fun s=>gd.fin L out s) (fun _ _ h=>h) ?_
 have H:_=some out:=H
 unfold gd.f at H
 show dE _ cf Jp m _ ⟨[.any],[],h⟩ _
 exact q1 <| qq <| q0 <| qt <| fB H
end
def Fz:b4:=gL [0,1,4,13] [] [12,4,12,11] [] []
def bK.l0 (m:Nat)(s0:ae):Nat→Int→Option (Int)
 | 0,_=>none
 | k+1,n1=>(ix s0.an n1).bind fun v0=>if (!(v0==n1))=true then ((ix s0.an n1).bind fun v1=>bK.l0 m s0 k v1) else (some (n1))
def bK.f (m:Nat)(s0:ae)(n0:Int):Option (Int):=(bK.l0 m s0 m n0).bind fun bp=>match bp with | n2=>some n2
def bK.fin (L:Mem)(r:Int)(s:St):Prop:=∃av,aK Tryz.prog (s.open Fz) Tryz.f75.results.toList=some av∧eX s.h av (.i r)
def Qk (cf:CallF)(m:Nat):Prop:=∀(s0:ae) (n0:Int) (r:Int),bK.f m s0 n0=some r→∀h xs,bl cd h xs [.fp [.bool s0.ay,af.fz s0.aa,ab.fz s0.an] 0,.i n0]→cf 75 xs h=some (.i r,h)
section
variable {cf:CallF}{m:Nat}
theorem bK.cm (L:Mem)(s0:ae)   : b9 Tryz.prog cf Fz m (sub [1,0,0,0] (bw Tryz.f75)) (fun k (σ:Int)=>bK.l0 m s0 k σ) (fun σ s=>match σ with | n1=>∃h0,s=⟨[.fp [.bool s0.ay,af.fz s0.aa,ab.fz s0.an] 0,.i n1,.any,.any],[],h0⟩∧Has h0 (L)) (fun out e s=>(e = .exit 0∧∃n1,n1=out∧∃lH pZ h0,s=⟨[lH,.i n1,.any,pZ],[],h0⟩∧Has h0 (L))):=by
 refine jF (fun _=>rfl) ?_
 rintro k n1 s out ⟨h0,rfl,o0⟩ H
 have H:bK.l0 m s0 (k+1) n1=some out:=H
 refine qq <| qq ?_
 obtain⟨v0,e0,H⟩:=aP H
 refine qr [.v 5 (bN (k:=.i64) (E:=ab) (l:=s0.an) da e0),.v 6 (cO  (E:=ab) (l:=s0.an) h0 A3 e0 rfl)] <| qc H (fun c0 H=>?_) (fun c0 H=>?_)
 ·refine qk <| qb 1 ?_
  obtain⟨v1,e1,H⟩:=aP H
  exact qr [.v 5 (bN (k:=.i64) (E:=ab) (l:=s0.an) da e1),.v 6 (cO  (E:=ab) (l:=s0.an) h0 A3 e1 rfl)] <| ⟨v1,⟨h0,kr,o0⟩,H⟩
 ·exact qx 0 <| ⟨rfl,n1,oi H,.fp [.bool s0.ay,af.fz s0.aa,ab.fz s0.an] 0,.bool (!(v0==n1)),h0,kr,o0⟩
theorem sb {aW:FuncId→b4}(ha:aW 75=Fz)  (s0:ae)(n0:Int)(h:AHeap)(L:Mem)  (o:Has h (L)){out:Int}(H:bK.f m s0 n0=some out) :
  ∃r h',bj Tryz.prog aW cf m 75 [.fp [.bool s0.ay,af.fz s0.aa,ab.fz s0.an] 0,.i n0] h=some (r,h')∧eX h' r (.i out):=by
 refine aw (fn:=Tryz.f75) ha Tryz.func75 kr kr ?_
 refine aI (Q:=fun s=>bK.fin L out s) (fun _ _ h=>h) ?_
 have H:_=some out:=H
 unfold bK.f at H
 show dE _ cf Fz m _ ⟨[.fp [.bool s0.ay,af.fz s0.aa,ab.fz s0.an] 0,.i n0,.any,.any],[],h⟩ _
 refine q1 <| qq <| qb 0 ?_
 obtain⟨bp,e2,H⟩:=aP H
 refine ql (bK.cm L s0   n0 _ _ ⟨h,kr,o⟩ e2) ?_
 rintro e s ⟨rfl,n2,rfl,g0,g1,h1,rfl,o1⟩
 try dsimp only at H
 exact q1 <| qt <| fI H
end
def Jq:b4:=gL [0,1] [] [2,1] [] []
def fc.f (m:Nat)(x0:Int):Option (Bool):=if (decide (x0≥(-1099511627776:Int)))=true then (some (decide (x0≤1099511627776))) else (some false)
def fc.fin (L:Mem)(r:Bool)(s:St):Prop:=∃av,aK Tryz.prog (s.open Jq) Tryz.f76.results.toList=some av∧eX s.h av (.bool r)
def S76 (cf:CallF)(m:Nat):Prop:=∀(x0:Int) (r:Bool),fc.f m x0=some r→∀h xs,bl cd h xs [.fp [.i x0] 0]→cf 76 xs h=some (.bool r,h)
section
variable {cf:CallF}{m:Nat}
theorem qa {aW:FuncId→b4}(ha:aW 76=Jq)  (x0:Int)(h:AHeap)(L:Mem)  (o:Has h (L)){out:Bool}(H:fc.f m x0=some out) :
  ∃r h',bj Tryz.prog aW cf m 76 [.fp [.i x0] 0] h=some (r,h')∧eX h' r (.bool out):=by
 refine aw (fn:=Tryz.f76) ha Tryz.func76 kr kr ?_
 refine aI (Q:=fun s=>fc.fin L out s) (fun _ _ h=>h) ?_
 have H:_=some out:=H
 unfold fc.f at H
 show dE _ cf Jq m _ ⟨[.fp [.i x0] 0,.any],[],h⟩ _
 refine q1 <| qq ?_
 rcases eV H with⟨c0,H⟩| ⟨c0,H⟩
 ·exact qr [.b 2 c0] <| qt <| fB H
 ·exact qr [.b 2 c0] <| qt <| fB H
end
def Jr:b4:=gL [0,1,4] [] [4,3] [] []
def eG.f (m:Nat)(s0:ae)(n0:Int):Option (Bool):=if (decide (n0≥0))=true then (some (decide (n0<(s0.aa.length:Int)))) else (some false)
def eG.fin (L:Mem)(r:Bool)(s:St):Prop:=∃av,aK Tryz.prog (s.open Jr) Tryz.f85.results.toList=some av∧eX s.h av (.bool r)
def S85 (cf:CallF)(m:Nat):Prop:=∀(s0:ae) (n0:Int) (r:Bool),eG.f m s0 n0=some r→∀h xs,bl cd h xs [.fp [.bool s0.ay,af.fz s0.aa,ab.fz s0.an] 0,.i n0]→cf 85 xs h=some (.bool r,h)
section
variable {cf:CallF}{m:Nat}
theorem qd {aW:FuncId→b4}(ha:aW 85=Jr)  (s0:ae)(n0:Int)(h:AHeap)(L:Mem)  (o:Has h (L)){out:Bool}(H:eG.f m s0 n0=some out) :
  ∃r h',bj Tryz.prog aW cf m 85 [.fp [.bool s0.ay,af.fz s0.aa,ab.fz s0.an] 0,.i n0] h=some (r,h')∧eX h' r (.bool out):=by
 refine aw (fn:=Tryz.f85) ha Tryz.func85 kr kr ?_
 refine aI (Q:=fun s=>eG.fin L out s) (fun _ _ h=>h) ?_
 have H:_=some out:=H
 unfold eG.f at H
 show dE _ cf Jr m _ ⟨[.fp [.bool s0.ay,af.fz s0.aa,ab.fz s0.an] 0,.i n0,.any],[],h⟩ _
 refine q1 <| qq ?_
 rcases eV H with⟨c0,H⟩| ⟨c0,H⟩
 ·exact qr [.b 2 c0] <| qt <| fB H
 ·exact qr [.b 2 c0] <| qt <| fB H
end
def Js:b4:=gL [0,2] [] [2,1] [] []
def jS.f (m:Nat)(s0:ByteArray):Option (Bool):=if (s0.data.toList==(ajg #[112,114,111,99]).data.toList)=true then (some true) else (if (s0.data.toList==(ajg #[99,101,108,108]).data.toList)=true then (some true) else (some (s0.data.toList==(ajg #[112,111,114,116]).data.toList)))
def jS.fin (L:Mem)(r:Bool)(s:St):Prop:=∃av,aK Tryz.prog (s.open Js) Tryz.f87.results.toList=some av∧eX s.h av (.bool r)
def S87 (cf:CallF)(m:Nat):Prop:=∀(s0:ByteArray) (r:Bool),jS.f m s0=some r→∀h xs,bl cd h xs [.str s0]→cf 87 xs h=some (.bool r,h)
section
variable {cf:CallF}{m:Nat}
theorem yi {aW:FuncId→b4}(ha:aW 87=Js)  (s0:ByteArray)(h:AHeap)(L:Mem)  (o:Has h (L)){out:Bool}(H:jS.f m s0=some out) :
  ∃r h',bj Tryz.prog aW cf m 87 [.str s0] h=some (r,h')∧eX h' r (.bool out):=by
 refine aw (fn:=Tryz.f87) ha Tryz.func87 kr kr ?_
 refine aI (Q:=fun s=>jS.fin L out s) (fun _ _ h=>h) ?_
 have H:_=some out:=H
 unfold jS.f at H
 show dE _ cf Js m _ ⟨[.str s0,.any],[],h⟩ _
 refine q1 <| qq ?_
 rcases eV H with⟨c0,H⟩| ⟨c0,H⟩
 ·exact qr [.b 2 c0] <| qt <| fB H
 ·rcases eV H with⟨c1,H⟩| ⟨c1,H⟩
  ·exact qr [.b 2 c0,.b 6 c1] <| qt <| fB H
  ·exact qr [.b 2 c0,.b 6 c1] <| qt <| fB H
end
def Jt:b4:=gL [0,1,4] [] [4,3] [] []
def cU.f (m:Nat)(s0:aj)(n0:Int):Option (Bool):=if (decide (n0≥0))=true then (some (decide (n0<(s0.ah.length:Int)))) else (some false)
def cU.fin (L:Mem)(r:Bool)(s:St):Prop:=∃av,aK Tryz.prog (s.open Jt) Tryz.f89.results.toList=some av∧eX s.h av (.bool r)
def UC (cf:CallF)(m:Nat):Prop:=∀(s0:aj) (n0:Int) (r:Bool),cU.f m s0 n0=some r→∀h xs,bl cd h xs [.fp [af.fz s0.ah,ab.fz s0.ao,.bool s0.aE] 0,.i n0]→cf 89 xs h=some (.bool r,h)
section
variable {cf:CallF}{m:Nat}
theorem sc {aW:FuncId→b4}(ha:aW 89=Jt)  (s0:aj)(n0:Int)(h:AHeap)(L:Mem)  (o:Has h (L)){out:Bool}(H:cU.f m s0 n0=some out) :
  ∃r h',bj Tryz.prog aW cf m 89 [.fp [af.fz s0.ah,ab.fz s0.ao,.bool s0.aE] 0,.i n0] h=some (r,h')∧eX h' r (.bool out):=by
 refine aw (fn:=Tryz.f89) ha Tryz.func89 kr kr ?_
 refine aI (Q:=fun s=>cU.fin L out s) (fun _ _ h=>h) ?_
 have H:_=some out:=H
 unfold cU.f at H
 show dE _ cf Jt m _ ⟨[.fp [af.fz s0.ah,ab.fz s0.ao,.bool s0.aE] 0,.i n0,.any],[],h⟩ _
 refine q1 <| qq ?_
 rcases eV H with⟨c0,H⟩| ⟨c0,H⟩
 ·exact qr [.b 2 c0] <| qt <| fB H
 ·exact qr [.b 2 c0] <| qt <| fB H
end
def FA:b4:=gL [0,1,4,5,6,10,40] [] [124,116,100,68,100,36,100,123] [] [(1,[(5,none,1)])]
def bB.l0 (m:Nat)(s0:aj)(cP:List Int):Nat→(List Int)→Int→Option ((List Int) × Int)
 | 0,_,_=>none
 | k+1,bp,i0=>if (decide (i0<(cP.length:Int)))=true then ((ix s0.ah i0).bind fun v0=>if (v0.kind==0)=true then ((ix s0.ao i0).bind fun v1=>if (v1==i0)=true then ((ix cP i0).bind fun v2=>if (!(v2==i0))=true then ((app 8 bp ([i0])).bind fun x0=>bB.l0 m s0 cP k x0 (i64.wrap (i0+1))) else (bB.l0 m s0 cP k bp (i64.wrap (i0+1)))) else (bB.l0 m s0 cP k bp (i64.wrap (i0+1)))) else (bB.l0 m s0 cP k bp (i64.wrap (i0+1)))) else (some ((bp,i0)))
def bB.f (m:Nat)(s0:aj)(cP:List Int):Option ((List Int)):=(bB.l0 m s0 cP m ([]:List Int) 0).bind fun fU=>match fU with | (cM,i1)=>some cM
def bB.fin (L:Mem)  (r:(List Int))(s:St):Prop:=∃cR:Nat,aK Tryz.prog (s.open FA) Tryz.f91.results.toList=some (.rs cR 0 r.length 1)∧Has s.h ((cR,.sl r.length 1 (ab.l r))::L)
def S91 (cf:CallF)(m:Nat):Prop:=∀(s0:aj) (cP:List Int) (r:(List Int)),bB.f m s0 cP=some r→∀h L xs,Has h L→bl cd h xs [.fp [af.fz s0.ah,ab.fz s0.ao,.bool s0.aE] 0,ab.fz cP]→∃cR h',cf 91 xs h=some (.rs cR 0 r.length 1,h')∧Has h' ((cR,.sl r.length 1 (ab.l r))::L)∧∀j,j<h.next→h.ver j=h'.ver j
section
variable {cf:CallF}{m:Nat}
theorem bB.cm (L:Mem)(s0:aj)(cP:List Int)   : b9 Tryz.prog cf FA m (sub [1,1,0,1,0,0] (bw Tryz.f91)) (fun k (σ:(List Int) × Int)=>bB.l0 m s0 cP k σ.1 σ.2) (fun σ s=>match σ with | (bp,i0)=>∃aX h0,s=⟨[.fp [af.fz s0.ah,ab.fz s0.ao,.bool s0.aE] 0,ab.fz cP,.any,.rs aX 0 bp.length 1,.i i0,.any,.any],[],h0⟩∧Has h0 ((aX,.sl bp.length 1 (ab.l bp))::L)) (fun out e s=>(e = .exit 0∧∃bp i0,(bp,i0)=out∧∃lH wO yh oG aX h0,s=⟨[lH,wO,.any,.rs aX 0 bp.length 1,yh,oG,.any],[],h0⟩∧Has h0 ((aX,.sl bp.length 1 (ab.l bp))::L))):=by
 refine jF (fun _=>rfl) ?_
 rintro k ⟨bp,i0⟩ s out ⟨aX,h0,rfl,o1⟩ H
 have H:bB.l0 m s0 cP (k+1) bp i0=some out:=H
 refine qq <| qq <| q0 <| qc H (fun c0 H=>?_) (fun c0 H=>?_)
 ·refine qk <| qq <| qb 1 <| qq ?_
  obtain⟨v0,e0,H⟩:=aP H
  rcases eV H with⟨c1,H⟩| ⟨c1,H⟩
  ·obtain⟨v1,e1,H⟩:=aP H
   rcases eV H with⟨c2,H⟩| ⟨c2,H⟩
   ·obtain⟨v2,e2,H⟩:=aP H
    refine qr [.v 5 (bN (k:=.i64) (E:=af) (l:=s0.ah) lJ e0),.v 7 (kc  (E:=af) (l:=s0.ah) (off:=0) h0 A3 e0 rfl),.b 9 c1,.v 15 (bN (k:=.i64) (E:=ab) (l:=s0.ao) da e1),.v 16 (cO  (E:=ab) (l:=s0.ao) h0 A3 e1 rfl),.b 20 c2,.v 23 (bN (k:=.i64) (E:=ab) (l:=cP) da e2),.v 24 (cO  (E:=ab) (l:=cP) h0 A3 e2 rfl)] <| qc H (fun c3 H=>?_) (fun c3 H=>?_)
    ·obtain⟨x0,e3,H⟩:=aP H
     obtain⟨b7,h1,e4,o2⟩:=eu (P:=Tryz.prog) (E:=ab) (l:=bp) (q:=0) (t2:=22) (x:=.fz [.i i0] 1 true) (l2:=([i0])) da o1 rfl kr rfl e3
     exact qr [.a 3 e4] <| q0 <| ⟨(x0,i64.wrap (i0+1)),⟨b7,h1,kr,o2⟩,H⟩
    ·exact qk <| q0 <| ⟨(bp,i64.wrap (i0+1)),⟨aX,h0,kr,o1⟩,H⟩
   ·exact qr [.v 5 (bN (k:=.i64) (E:=af) (l:=s0.ah) lJ e0),.v 7 (kc  (E:=af) (l:=s0.ah) (off:=0) h0 A3 e0 rfl),.b 9 c1,.v 15 (bN (k:=.i64) (E:=ab) (l:=s0.ao) da e1),.v 16 (cO  (E:=ab) (l:=s0.ao) h0 A3 e1 rfl),.b 20 c2] <| Dr <| qk <| q0 <| ⟨(bp,i64.wrap (i0+1)),⟨aX,h0,kr,o1⟩,H⟩
  ·exact qr [.v 5 (bN (k:=.i64) (E:=af) (l:=s0.ah) lJ e0),.v 7 (kc  (E:=af) (l:=s0.ah) (off:=0) h0 A3 e0 rfl),.b 9 c1] <| Dr <| qk <| q0 <| ⟨(bp,i64.wrap (i0+1)),⟨aX,h0,kr,o1⟩,H⟩
 ·exact qx 0 <| ⟨rfl,bp,i0,oi H,.fp [af.fz s0.ah,ab.fz s0.ao,.bool s0.aE] 0,ab.fz cP,.i i0,.bool (decide (i0<(cP.length:Int))),aX,h0,kr,o1⟩
theorem qe {aW:FuncId→b4}(ha:aW 91=FA)  (s0:aj)(cP:List Int)(h:AHeap)(L:Mem)  (o:Has h (L)){out:(List Int)}(H:bB.f m s0 cP=some out) :
  ∃r h',bj Tryz.prog aW cf m 91 [.fp [af.fz s0.ah,ab.fz s0.ao,.bool s0.aE] 0,ab.fz cP] h=some (r,h')∧∃cR:Nat,r = .rs cR 0 out.length 1∧Has h' ((cR,.sl out.length 1 (ab.l out))::L):=by
 refine aw (fn:=Tryz.f91) ha Tryz.func91 kr kr ?_
 refine aI (Q:=fun s=>bB.fin L out s) (fun _ _ ⟨h1,cR,h2,h3⟩=>⟨h1,_,h2,cR,rfl,h3⟩) ?_
 have H:_=some out:=H
 unfold bB.f at H
 show dE _ cf FA m _ ⟨.fp [af.fz s0.ah,ab.fz s0.ao,.bool s0.aE] 0::ab.fz cP::sO [],[],h⟩ _
 refine q1 <| qq <| q0 ?_
 have o0:Has h (((0),.sl (([]:List Int).length) 1 (ab.l ([]:List Int)))::L):=Has.nil o 1
 refine qq <| qq <| q0 <| qb 0 ?_
 obtain⟨fU,e5,H⟩:=aP H
 refine ql (bB.cm L s0 cP   (([]:List Int),0) _ _ ⟨(0),h,kr,o0⟩ e5) ?_
 rintro e s ⟨rfl,cM,i1,rfl,g0,g1,g2,g3,bT,h2,rfl,o3⟩
 try dsimp only at H
 obtain rfl:=oi H
 exact q1 <| qt <| ⟨.inl rfl,⟨bT,kr,he o3⟩⟩
end
def FB:b4:=gL [0,1,4,5,6,7,25] [4,5] [120,114,98,66,2,66,66,115,123] [(7,[(6,none,0)])] [(2,[(6,none,1)])]
def bJ.l0 (m:Nat)(s0:aj)(v1:ak):Nat→(List Int)→Int→Option ((List Int) × Int)
 | 0,_,_=>none
 | k+1,br,i0=>if (decide (i0<(v1.args.length:Int)))=true then ((ix v1.args i0).bind fun v2=>(ix s0.ao v2).bind fun v3=>(app 8 br ([v3])).bind fun x0=>bJ.l0 m s0 v1 k x0 (i64.wrap (i0+1))) else (some ((br,i0)))
def bJ.f (m:Nat)(s0:aj)(n0:Int):Option (ak):=(ix s0.ao n0).bind fun v0=>(ix s0.ah v0).bind fun v1=>(bJ.l0 m s0 v1 m ([]:List Int) 0).bind fun bp=>match bp with | (jJ,i1)=>some (ak.mk v1.kind v1.int v1.label jJ)
def bJ.fin (L:Mem)(r:ak)(s:St):Prop:=∃av,aK Tryz.prog (s.open FB) Tryz.f92.results.toList=some av∧Hy s.h av (.agg [.i r.kind,.i r.int,.str r.label,ab.fz r.args])
def Wb (cf:CallF)(m:Nat):Prop:=∀(s0:aj) (n0:Int) (r:ak),bJ.f m s0 n0=some r→∀h xs,tC xs [.fp [af.fz s0.ah,ab.fz s0.ao,.bool s0.aE] 0,.i n0]→cf 92 xs h=some (.agg [.i r.kind,.i r.int,.str r.label,ab.fz r.args],h)
section
variable {cf:CallF}{m:Nat}
theorem bJ.cm (L:Mem)(s0:aj)(v1:ak)   : b9 Tryz.prog cf FB m (sub [1,1,1,0,1,0,0] (bw Tryz.f92)) (fun k (σ:(List Int) × Int)=>bJ.l0 m s0 v1 k σ.1 σ.2) (fun σ s=>match σ with | (br,i0)=>∃aX h0,s=⟨[.fp [af.fz s0.ah,ab.fz s0.ao,.bool s0.aE] 0,.any,.lp 4 0,.lp 5 0,.rs aX 0 br.length 1,.i i0,.any],[some [.i 0,.i 0,.str (ajg #[]),.nils],some [.i v1.kind,.i v1.int,.str v1.label,ab.fz v1.args]],h0⟩∧Has h0 ((aX,.sl br.length 1 (ab.l br))::L)) (fun out e s=>(e = .exit 0∧∃br i0,(br,i0)=out∧∃lH wM UD aX h0,s=⟨[lH,.any,.lp 4 0,.lp 5 0,.rs aX 0 br.length 1,wM,UD],[some [.i 0,.i 0,.str (ajg #[]),.nils],some [.i v1.kind,.i v1.int,.str v1.label,ab.fz v1.args]],h0⟩∧Has h0 ((aX,.sl br.length 1 (ab.l br))::L))):=by
 refine jF (fun _=>rfl) ?_
 rintro k ⟨br,i0⟩ s out ⟨aX,h0,rfl,o1⟩ H
 have H:bJ.l0 m s0 v1 (k+1) br i0=some out:=H
 refine qq <| qq <| q0 <| qc H (fun c0 H=>?_) (fun c0 H=>?_)
 ·refine qk <| qq <| qb 1 ?_
  obtain⟨v2,e2,H⟩:=aP H
  obtain⟨v3,e3,H⟩:=aP H
  obtain⟨x0,e4,H⟩:=aP H
  obtain⟨b7,h1,e5,o2⟩:=eu (P:=Tryz.prog) (E:=ab) (l:=br) (q:=0) (t2:=22) (x:=.fz [.i v3] 1 true) (l2:=([v3])) da o1 rfl kr rfl e4
  exact qr [.v 8 (bN (k:=.i64) (E:=ab) (l:=v1.args) da e2),.v 9 (cO  (E:=ab) (l:=v1.args) h0 A3 e2 rfl),.v 10 (bN (k:=.i64) (E:=ab) (l:=s0.ao) da e3),.v 11 (cO  (E:=ab) (l:=s0.ao) h0 A3 e3 rfl),.a 13 e5] <| q0 <| ⟨(x0,i64.wrap (i0+1)),⟨b7,h1,kr,o2⟩,H⟩
 ·exact qx 0 <| ⟨rfl,br,i0,oi H,.fp [af.fz s0.ah,ab.fz s0.ao,.bool s0.aE] 0,.i i0,.bool (decide (i0<(v1.args.length:Int))),aX,h0,kr,o1⟩
theorem qf {aW:FuncId→b4}(ha:aW 92=FB)  (s0:aj)(n0:Int)(h:AHeap)(L:Mem)  (o:Has h (L)){out:ak}(H:bJ.f m s0 n0=some out) :
  ∃r h',bj Tryz.prog aW cf m 92 [.fp [af.fz s0.ah,ab.fz s0.ao,.bool s0.aE] 0,.i n0] h=some (r,h')∧Hy h' r (.agg [.i out.kind,.i out.int,.str out.label,ab.fz out.args]):=by
 refine aw (fn:=Tryz.f92) ha Tryz.func92 kr kr ?_
 refine aI (Q:=fun s=>bJ.fin L out s) (fun _ _ h=>h) ?_
 have H:_=some out:=H
 unfold bJ.f at H
 show dE _ cf FB m _ ⟨.fp [af.fz s0.ah,ab.fz s0.ao,.bool s0.aE] 0 :: .i n0::sO [],[none,none],h⟩ _
 refine q1 <| qq ?_
 obtain⟨v0,e0,H⟩:=aP H
 obtain⟨v1,e1,H⟩:=aP H
 refine qr [.v 9 (bN (k:=.i64) (E:=ab) (l:=s0.ao) da e0),.v 10 (cO  (E:=ab) (l:=s0.ao) h A3 e0 rfl),.v 11 (bN (k:=.i64) (E:=af) (l:=s0.ah) lJ e1),.v 12 (fZ  (E:=af) (l:=s0.ah) h tE tF e1)] <| qq <| q0 ?_
 have o0:Has h (((0),.sl (([]:List Int).length) 1 (ab.l ([]:List Int)))::L):=Has.nil o 1
 refine qq <| qq <| q0 <| qb 0 ?_
 obtain⟨bp,e6,H⟩:=aP H
 refine ql (bJ.cm L s0 v1   (([]:List Int),0) _ _ ⟨(0),h,kr,o0⟩ e6) ?_
 rintro e s ⟨rfl,jJ,i1,rfl,g0,g1,g2,bT,h2,rfl,o3⟩
 try dsimp only at H
 refine qq ?_
 obtain⟨h3,e7,o4⟩:=lQ (E:=ab) (l:=jJ) (q:=0) o3 rfl
 obtain rfl:=oi H
 exact Jb [.a 0 e7] [] <| qq <| q0 <| qt <| ⟨.inl rfl,Qi (.agg [.i v1.kind,.i v1.int,.str v1.label,ab.fz jJ]) h3 (CO (eJ (ai (aU) (ai (aU) (ai (iB) (ai (iu) (aD)))))))⟩
end
def B9:b4:=gL [0,1,4,5,6,7,8,9,10,27,42,58] [24] [4092,4084,4068,4038,3526,3974,3974,2950,3974,3974,3910,3654,1606,3654,3654,4091] [] [(2,[(6,none,1)])]
def aY.l1 (m:Nat)(x2:ak):Nat→(List Int)→Int→Option ((List Int) × Int)
 | 0,_,_=>none
 | k+1,fK,i0=>if (decide (i0≥0))=true then ((ix x2.args i0).bind fun v5=>(app 8 fK ([v5])).bind fun x3=>aY.l1 m x2 k x3 (i64.wrap (i0 - 1))) else (some ((fK,i0)))
def aY.l0 (m:Nat)(s0:aj):Nat→(List Bool)→(List Int)→(List Int)→Option ((List Bool) × (List Int) × (List Int))
 | 0,_,_,_=>none
 | k+1,fL,bp,dz=>if (decide ((dz.length:Int) > 0))=true then ((ix dz (i64.wrap ((dz.length:Int) - 1))).bind fun v1=>(I4 dz 0 (i64.wrap ((dz.length:Int) - 1))).bind fun v2=>(ix fL v1).bind fun v3=>if v3=true then (aY.l0 m s0 k fL bp v2) else ((ix fL v1).bind fun v4=>(app 8 bp ([v1])).bind fun x1=>(bJ.f m s0 v1).bind fun x2=>(aY.l1 m x2 m v2 (i64.wrap ((x2.args.length:Int) - 1))).bind fun cM=>match cM with | (uf,i1)=>aY.l0 m s0 k (fL.set v1.toNat true) x1 uf)) else (some ((fL,bp,dz)))
def aY.f (m:Nat)(s0:aj)(n0:Int):Option ((List Int)):=(sY 1 (s0.ah.length:Int) false).bind fun x0=>(ix s0.ao n0).bind fun v0=>(aY.l0 m s0 m x0 ([]:List Int) ([v0])).bind fun mI=>match mI with | (UE,fU,ug)=>some fU
def aY.fin (L:Mem)(r:(List Int))(s:St):Prop:=∃av,aK Tryz.prog (s.open B9) Tryz.f93.results.toList=some av∧eX s.h av (ab.fz r)
def S93 (cf:CallF)(m:Nat):Prop:=∀(s0:aj) (n0:Int) (r:(List Int)),aY.f m s0 n0=some r→∀h xs,bl cd h xs [.fp [af.fz s0.ah,ab.fz s0.ao,.bool s0.aE] 0,.i n0]→cf 93 xs h=some (ab.fz r,h)
section
variable {cf:CallF}{m:Nat}
theorem aY.iw (L:Mem)(s0:aj)(bT:Nat)(fL:List Bool)(bT:Nat)(v1:Int)(x1:List Int)(gM:Nat)(x2:ak)   : b9 Tryz.prog cf B9 m (sub [1,1,1,1,0,0,0,1,0,1,1,1,1,1,1,1,0,0] (bw Tryz.f93)) (fun k (σ:(List Int) × Int)=>aY.l1 m x2 k σ.1 σ.2) (fun σ s=>match σ with | (fK,i0)=>∃iy h5,s=⟨.fp [af.fz s0.ah,ab.fz s0.ao,.bool s0.aE] 0 :: .any :: .any :: .rs bT 0 fL.length 1 :: .rs gM 0 x1.length 1 :: .rs iy 0 fK.length 1 :: .any::ab.fz x2.args :: .i i0::nc [],[none],h5⟩∧Has h5 ((iy,.sl fK.length 1 (ab.l fK))::(gM,.sl x1.length 1 (ab.l x1))::(bT,.sl fL.length 1 (di.l (fL.set v1.toNat true)))::L)) (fun out e s=>(e = .exit 2∧∃fK i0,(fK,i0)=out∧∃vg oG N7 iy h5,s=⟨[.fp [af.fz s0.ah,ab.fz s0.ao,.bool s0.aE] 0,.any,.any,.rs bT 0 fL.length 1,.rs gM 0 x1.length 1,.rs iy 0 fK.length 1,.any,vg,oG,.any,.any,N7],[none],h5⟩∧Has h5 ((iy,.sl fK.length 1 (ab.l fK))::(gM,.sl x1.length 1 (ab.l x1))::(bT,.sl fL.length 1 (di.l (fL.set v1.toNat true)))::L))):=by
 refine jF (fun _=>rfl) ?_
 rintro k ⟨fK,i0⟩ s out ⟨iy,h5,rfl,o7⟩ H
 have H:aY.l1 m x2 (k+1) fK i0=some out:=H
 refine qq <| qq <| q0 <| qc H (fun c2 H=>?_) (fun c2 H=>?_)
 ·refine qk <| qq <| qb 3 ?_
  obtain⟨v5,oS,H⟩:=aP H
  obtain⟨x3,rF,H⟩:=aP H
  obtain⟨iM,h6,s7,o8⟩:=eu (P:=Tryz.prog) (E:=ab) (l:=fK) (q:=0) (t2:=22) (x:=.fz [.i v5] 1 true) (l2:=([v5])) da o7 rfl kr rfl rF
  exact qr [.v 3 (bN (k:=.i64) (E:=ab) (l:=x2.args) da oS),.v 4 (cO  (E:=ab) (l:=x2.args) h5 A3 oS rfl),.a 6 s7] <| q0 <| ⟨(x3,i64.wrap (i0 - 1)),⟨iM,h6,ld,(ow o8)⟩,H⟩
 ·exact qx 2 <| ⟨rfl,fK,i0,oi H,ab.fz x2.args,.i i0,.bool (decide (i0≥0)),iy,h5,ld,(ow o7)⟩
theorem aY.cm (L:Mem)(s0:aj)  (Dy:Wb cf m):b9 Tryz.prog cf B9 m (sub [1,1,1,1,0,0,0] (bw Tryz.f93)) (fun k (σ:(List Bool) × (List Int) × (List Int))=>aY.l0 m s0 k σ.1 σ.2.1 σ.2.2) (fun σ s=>match σ with | (fL,bp,dz)=>∃g0 g1 g2 g3 g4 dN cK bT h2,s=⟨[.fp [af.fz s0.ah,ab.fz s0.ao,.bool s0.aE] 0,.any,.any,.rs bT 0 fL.length 1,.rs cK 0 bp.length 1,.rs dN 0 dz.length 1,g0,g1,g2,.any,g3,g4],[none],h2⟩∧Has h2 ((dN,.sl dz.length 1 (ab.l dz))::(cK,.sl bp.length 1 (ab.l bp))::(bT,.sl fL.length 1 (di.l fL))::L)) (fun out e s=>(e = .exit 0∧∃fL bp dz,(fL,bp,dz)=out∧∃lH z8 wM ud vg oG N8 UF N7 dN cK bT h2,s=⟨[lH,.any,.any,z8,.rs cK 0 bp.length 1,wM,ud,vg,oG,N8,UF,N7],[none],h2⟩∧Has h2 ((dN,.sl dz.length 1 (ab.l dz))::(cK,.sl bp.length 1 (ab.l bp))::(bT,.sl fL.length 1 (di.l fL))::L))):=by
 refine jF (fun _=>rfl) ?_
 rintro k ⟨fL,bp,dz⟩ s out ⟨g0,g1,g2,g3,g4,dN,cK,bT,h2,rfl,o3⟩ H
 have H:aY.l0 m s0 (k+1) fL bp dz=some out:=H
 refine qq <| qq <| q0 <| qc H (fun c0 H=>?_) (fun c0 H=>?_)
 ·refine qk <| qb 1 <| qq ?_
  obtain⟨v1,e4,H⟩:=aP H
  refine qr [.v 4 (aL (k:=.i64) (E:=ab) (l:=dz) (q:=0) da o3 rfl e4),.v 5 (bq  (E:=ab) (l:=dz) (q:=0) o3 rfl A3 e4 rfl)] <| qq ?_
  obtain⟨v2,e5,H⟩:=aP H
  obtain⟨UG,o4⟩:=Hz (P:=Tryz.prog) (k:=.i64) (E:=ab) (q:=0) o3 rfl da e5
  refine qr [.v 4 UG] <| qq <| qq ?_
  obtain⟨v3,e6,H⟩:=aP H
  refine qr [.v 2 (aL (k:=.i64) (E:=di) (l:=fL) (q:=2) GY o4 rfl e6),.v 3 (bq  (E:=di) (l:=fL) (q:=2) o4 rfl A4 e6 rfl)] <| qc H (fun c1 H=>?_) (fun c1 H=>?_)
  ·exact qx 1 <| ⟨(fL,bp,v2),⟨.i v1,.any,.any,.bool v3,.any,dN,cK,bT,h2,kr,o4⟩,H⟩
  ·refine qk <| qq ?_
   obtain⟨v4,e7,H⟩:=aP H
   obtain⟨h3,e8,o5⟩:=dD (P:=Tryz.prog) (tf:=4) (E:=di) (l:=fL) (q:=2) (v:=true) (x:=.bool true) o4 rfl Z4 e7 rfl rfl
   refine qr [.v 2 (aL (k:=.i64) (E:=di) (l:=fL) (q:=2) GY o4 rfl e7),.w 3 e8] <| qq ?_
   obtain⟨x1,e9,H⟩:=aP H
   obtain⟨gM,h4,ma,o6⟩:=eu (P:=Tryz.prog) (E:=ab) (l:=bp) (q:=1) (t2:=22) (x:=.fz [.i v1] 1 true) (l2:=([v1])) da o5 rfl kr rfl e9
   refine qr [.a 3 ma] <| qq ?_
   obtain⟨x2,nH,H⟩:=aP H
   refine qr [.a 2 (Dy _ _ _ nH h4 _ (b5 (Fs (pure_cons (bM.aJ (E:=af) (l:=s0.ah)) (pure_cons (bM.aJ (E:=ab) (l:=s0.ao)) (pure_cons (bc) (pure_nil))))) (b5 (ig) (jR))))] <| qq <| q0 <| qb 2 ?_
   obtain⟨cM,s8,H⟩:=aP H
   refine ql (aY.iw L s0 bT fL bT v1 x1 gM x2   (v2,i64.wrap ((x2.args.length:Int) - 1)) _ _ ⟨dN,h4,ld,(ow o6)⟩ s8) ?_
   rintro e s ⟨rfl,uf,i1,rfl,g5,g6,g7,kl,h7,rfl,o9⟩
   try dsimp only at H
   exact⟨(fL.set v1.toNat true,x1,uf),⟨.any,g5,g6,.any,g7,kl,gM,bT,h7,ld,(ow o9)⟩,H⟩
 ·exact qx 0 <| ⟨rfl,fL,bp,dz,oi H,.fp [af.fz s0.ah,ab.fz s0.ao,.bool s0.aE] 0,.rs bT 0 fL.length 1,.rs dN 0 dz.length 1,.any,.any,.any,.bool (decide ((dz.length:Int) > 0)),.any,.any,dN,cK,bT,h2,kr,o3⟩
theorem qg {aW:FuncId→b4}(ha:aW 93=B9)(Dy:Wb cf m)(s0:aj)(n0:Int)(h:AHeap)(L:Mem)  (o:Has h (L)){out:(List Int)}(H:aY.f m s0 n0=some out) :
  ∃r h',bj Tryz.prog aW cf m 93 [.fp [af.fz s0.ah,ab.fz s0.ao,.bool s0.aE] 0,.i n0] h=some (r,h')∧eX h' r (ab.fz out):=by
 refine aw (fn:=Tryz.f93) ha Tryz.func93 kr kr ?_
 refine aI (Q:=fun s=>aY.fin L out s) (fun _ _ h=>h) ?_
 have H:_=some out:=H
 unfold aY.f at H
 show dE _ cf B9 m _ ⟨.fp [af.fz s0.ah,ab.fz s0.ao,.bool s0.aE] 0 :: .i n0::wG [],[none],h⟩ _
 refine q1 <| qq ?_
 obtain⟨x0,e0,H⟩:=aP H
 obtain⟨aX,h0,e1,o0⟩:=nE (P:=Tryz.prog) (E:=di) (z:=false) (zv:=.bool false) GY o 4 rfl rfl rfl rfl e0
 refine qr [.a 5 e1] <| qq <| q0 ?_
 have o1:Has h0 (((0),.sl (([]:List Int).length) 1 (ab.l ([]:List Int)))::(aX,.sl x0.length 1 (di.l x0))::L):=Has.nil o0 1
 refine qq ?_
 obtain⟨v0,e2,H⟩:=aP H
 obtain⟨b7,h1,e3,o2⟩:=yT (E:=ab) (l:=[v0]) (cs:=[.i v0]) o1 kr
 refine qr [.v 5 (bN (k:=.i64) (E:=ab) (l:=s0.ao) da e2),.v 6 (cO  (E:=ab) (l:=s0.ao) h0 A3 e2 rfl),.a 7 e3] <| qq <| qb 0 ?_
 obtain⟨mI,vj,H⟩:=aP H
 refine ql (aY.cm L s0  Dy (x0,([]:List Int),[v0]) _ _ ⟨.any,.any,.any,.any,.any,b7,(0),aX,h1,ld,(ow o2)⟩ vj) ?_
 rintro e s ⟨rfl,UE,fU,ug,rfl,g8,g9,g10,g11,g12,g13,g14,g15,g16,kP,fC,hY,h8,rfl,s9⟩
 try dsimp only at H
 refine q1 ?_
 have qP:Has h8 ((kP,.sl ug.length 1 (ab.l ug))::(fC,.sl fU.length 1 (ab.l fU))::L):=iC s9 2
 have wP:Has h8 ((fC,.sl fU.length 1 (ab.l fU))::L):=iC qP 0
 obtain rfl:=oi H
 exact qt <| ⟨.inl rfl,pX (.rs fC 0 fU.length 1) h8 (oR (zI (E:=ab) (l:=fU) (q:=0) wP rfl (fun _=>rfl)))⟩
end
def Ju:b4:=gL [0,1,2,3,4] [2,3] [19,15] [] []
def gz.f (m:Nat)(a0:ak)(b0:ak):Option (Bool):=if (a0.kind==b0.kind)=true then (if (a0.int==b0.int)=true then (if (a0.label.data.toList==b0.label.data.toList)=true then (some ((a0.args.length:Int)==(b0.args.length:Int))) else (some false)) else (some false)) else (some false)
def gz.fin (L:Mem)(r:Bool)(s:St):Prop:=∃av,aK Tryz.prog (s.open Ju) Tryz.f94.results.toList=some av∧eX s.h av (.bool r)
def S4 (cf:CallF)(m:Nat):Prop:=∀(a0:ak) (b0:ak) (r:Bool),gz.f m a0 b0=some r→∀h xs,bl cd h xs [.agg [.i a0.kind,.i a0.int,.str a0.label,ab.fz a0.args],.agg [.i b0.kind,.i b0.int,.str b0.label,ab.fz b0.args]]→cf 94 xs h=some (.bool r,h)
section
variable {cf:CallF}{m:Nat}
theorem wQ {aW:FuncId→b4}(ha:aW 94=Ju)  (a0:ak)(b0:ak)(h:AHeap)(L:Mem)  (o:Has h (L)){out:Bool}(H:gz.f m a0 b0=some out) :
  ∃r h',bj Tryz.prog aW cf m 94 [.agg [.i a0.kind,.i a0.int,.str a0.label,ab.fz a0.args],.agg [.i b0.kind,.i b0.int,.str b0.label,ab.fz b0.args]] h=some (r,h')∧eX h' r (.bool out):=by
 refine aw (fn:=Tryz.f94) ha Tryz.func94 kr kr ?_
 refine aI (Q:=fun s=>gz.fin L out s) (fun _ _ h=>h) ?_
 have H:_=some out:=H
 unfold gz.f at H
 show dE _ cf Ju m _ ⟨.agg [.i a0.kind,.i a0.int,.str a0.label,ab.fz a0.args] :: .agg [.i b0.kind,.i b0.int,.str b0.label,ab.fz b0.args]::nc [],[none,none],h⟩ _
 refine q1 <| qq ?_
 rcases eV H with⟨c0,H⟩| ⟨c0,H⟩
 ·rcases eV H with⟨c1,H⟩| ⟨c1,H⟩
  ·rcases eV H with⟨c2,H⟩| ⟨c2,H⟩
   ·exact qr [.b 5 c0,.b 12 c1,.b 19 c2] <| qt <| fB H
   ·exact qr [.b 5 c0,.b 12 c1,.b 19 c2] <| qt <| fB H
  ·exact qr [.b 5 c0,.b 12 c1] <| qt <| fB H
 ·exact qr [.b 5 c0] <| qt <| fB H
end
def Jv:b4:=gL [0,1,3] [] [4,3] [] []
def eZ.f (m:Nat)(n0:Int)(x0:ae):Option (Bool):=(eG.f m x0 n0).bind fun x1=>some (!x1)
def eZ.fin (L:Mem)(r:Bool)(s:St):Prop:=∃av,aK Tryz.prog (s.open Jv) Tryz.f95.results.toList=some av∧eX s.h av (.bool r)
def S95 (cf:CallF)(m:Nat):Prop:=∀(n0:Int) (x0:ae) (r:Bool),eZ.f m n0 x0=some r→∀h xs,bl cd h xs [.i n0,.fp [.fp [.bool x0.ay,af.fz x0.aa,ab.fz x0.an] 0] 0]→cf 95 xs h=some (.bool r,h)
section
variable {cf:CallF}{m:Nat}
theorem oH {aW:FuncId→b4}(ha:aW 95=Jv)(UH:S85 cf m)(n0:Int)(x0:ae)(h:AHeap)(L:Mem)  (o:Has h (L)){out:Bool}(H:eZ.f m n0 x0=some out) :
  ∃r h',bj Tryz.prog aW cf m 95 [.i n0,.fp [.fp [.bool x0.ay,af.fz x0.aa,ab.fz x0.an] 0] 0] h=some (r,h')∧eX h' r (.bool out):=by
 refine aw (fn:=Tryz.f95) ha Tryz.func95 kr kr ?_
 refine aI (Q:=fun s=>eZ.fin L out s) (fun _ _ h=>h) ?_
 have H:_=some out:=H
 unfold eZ.f at H
 show dE _ cf Jv m _ ⟨[.i n0,.fp [.fp [.bool x0.ay,af.fz x0.aa,ab.fz x0.an] 0] 0,.any],[],h⟩ _
 refine q1 <| qq ?_
 obtain⟨x1,e0,H⟩:=aP H
 exact qr [.a 2 (UH _ _ _ e0 h _ (ia (ai (cV (pure_cons (bc) (pure_cons (bM.aJ (E:=af) (l:=x0.aa)) (pure_cons (bM.aJ (E:=ab) (l:=x0.an)) (pure_nil))))) (ai (aU) (aD)))))] <| qt <| fB H
end
def FC:b4:=gL [0,1,2,3,4,5,7,8,9,10,11,12,14,24,53,54,55,56] [11,1000048] [262080,261696,253760,262079,261568,261574,260567,260567,258519,144855,13783,140759,144855,144855,261631,262079] [] [(8,[(12,none,1)])]
def bO.l0 (m:Nat)(x1:List Int)(x3:bh)(rec:Int→(List (Int × Int))→(List Int)→bh→bh→Option (Int × (List (Int × Int)) × bh))(v2:ak):Nat→(List Int)→Int→(List (Int × Int))→bh→Option ((List Int) × Int × (List (Int × Int)) × bh)
 | 0,_,_,_,_=>none
 | k+1,br,x6,x7,x8=>if (decide (x6<(v2.args.length:Int)))=true then ((ix v2.args x6).bind fun v3=>(rec v3 x7 x1 x8 x3).bind fun x9=>(app 8 br ([x9.1])).bind fun mW=>bO.l0 m x1 x3 rec v2 k mW (i64.wrap (x6+1)) x9.2.1 x9.2.2) else (some ((br,x6,x7,x8)))
def bO.b (m:Nat)(rec:Int→(List (Int × Int))→(List Int)→bh→bh→Option (Int × (List (Int × Int)) × bh))(i0:Int)(x0:List (Int × Int))(x1:List Int)(x2:bh)(x3:bh):Option (Int × (List (Int × Int)) × bh):=(ix x1 i0).bind fun v0=>if ((qX x0 v0).2)=true then (some ((qX x0 v0).1,x0,x2)) else ((ix x1 i0).bind fun v1=>(ix x3.nodes i0).bind fun v2=>(app 56 x2.nodes [ak.mk v2.kind v2.int v2.label ([]:List Int)]).bind fun x5=>(bO.l0 m x1 x3 rec v2 m ([]:List Int) 0 (Es x0 v1 (x2.nodes.length:Int)) (bh.mk x5 x2.root)).bind fun bp=>match bp with | (jJ,FD,uy,nI)=>(ix nI.nodes (x2.nodes.length:Int)).bind fun v4=>some ((x2.nodes.length:Int),uy,(bh.mk (nI.nodes.set (x2.nodes.length:Int).toNat (ak.mk v4.kind v4.int v4.label jJ)) nI.root)))
def bO.f (m:Nat):Nat→Int→(List (Int × Int))→(List Int)→bh→bh→Option (Int × (List (Int × Int)) × bh)
 | 0,_,_,_,_,_=>none
 | k+1,i0,x0,x1,x2,x3=>bO.b m (bO.f m k) i0 x0 x1 x2 x3
def bO.fin (L:Mem)(fH:Nat)(gf:Nat)(fJ:Nat)(eW:Nat)(gV:Nat)(iz:List Nat)(fO:Nat)(fD:Nat)(i0:Int)(x0:List (Int × Int))(x1:List Int)(x2:bh)(x3:bh)(r:Int × (List (Int × Int)) × bh)(s:St):Prop:=∃(qQ:Nat) (lf:List Nat),aK Tryz.prog (s.open FC) Tryz.f97.results.toList=some (.i r.1)∧Has s.h ((fH,.ob [.mp gf])::(gf,.mp (qO r.2.1))::(fJ,.ob [ab.fz x1])::(eW,.ob [.rs qQ 0 r.2.2.nodes.length 4,.i r.2.2.root])::(qQ,.sl r.2.2.nodes.length 4 (dJ.l (bm r.2.2.nodes lf)))::(fO,.ob [af.fz x3.nodes,.i x3.root])::(fD,.ob [.fn 97 [.ptr fH 0,.ptr fJ 0,.ptr eW 0,.ptr fO 0,.ptr fD 0]])::(fA r.2.2.nodes lf++L))
def Ze (cf:CallF)(m:Nat)(kk:Nat):Prop:=∀(i0:Int) (x0:List (Int × Int)) (x1:List Int) (x2:bh) (x3:bh) (r:Int × (List (Int × Int)) × bh),bO.f m kk i0 x0 x1 x2 x3=some r→∀h L (fH:Nat) (gf:Nat) (fJ:Nat) (eW:Nat) (gV:Nat) (iz:List Nat) (fO:Nat) (fD:Nat),Has h ((fH,.ob [.mp gf])::(gf,.mp (qO x0))::(fJ,.ob [ab.fz x1])::(eW,.ob [.rs gV 0 x2.nodes.length 4,.i x2.root])::(gV,.sl x2.nodes.length 4 (dJ.l (bm x2.nodes iz)))::(fO,.ob [af.fz x3.nodes,.i x3.root])::(fD,.ob [.fn 97 [.ptr fH 0,.ptr fJ 0,.ptr eW 0,.ptr fO 0,.ptr fD 0]])::(fA x2.nodes iz++L))→∀xs,xs.map ba=[.i i0,.ptr fH 0,.ptr fJ 0,.ptr eW 0,.ptr fO 0,.ptr fD 0]→∃(qQ:Nat) (lf:List Nat) (h':AHeap),cf 97 xs h=some (.i r.1,h')∧Has h' ((fH,.ob [.mp gf])::(gf,.mp (qO r.2.1))::(fJ,.ob [ab.fz x1])::(eW,.ob [.rs qQ 0 r.2.2.nodes.length 4,.i r.2.2.root])::(qQ,.sl r.2.2.nodes.length 4 (dJ.l (bm r.2.2.nodes lf)))::(fO,.ob [af.fz x3.nodes,.i x3.root])::(fD,.ob [.fn 97 [.ptr fH 0,.ptr fJ 0,.ptr eW 0,.ptr fO 0,.ptr fD 0]])::(fA r.2.2.nodes lf++L))
section
variable {cf:CallF}{m:Nat}
theorem bO.cm (L:Mem)(fH:Nat)(gf:Nat)(fJ:Nat)(eW:Nat)(gV:Nat)(iz:List Nat)(fO:Nat)(fD:Nat)(i0:Int)(x0:List (Int × Int))(x1:List Int)(x2:bh)(x3:bh)(v2:ak)  {kk:Nat}(N9:Ze cf m kk)  : b9 Tryz.prog cf FC m (sub [1,1,1,1,1,1,1,0,1,0,0] (bw Tryz.f97)) (fun k (σ:(List Int) × Int × (List (Int × Int)) × bh)=>bO.l0 m x1 x3 (bO.f m kk) v2 k σ.1 σ.2.1 σ.2.2.1 σ.2.2.2) (fun σ s=>match σ with | (br,x6,x7,x8)=>∃b7 bT Ac h3,s=⟨nc (.ptr eW 0 :: .any :: .ptr fD 0::nc [.i (x2.nodes.length:Int),.any,.rs b7 0 br.length 1,.any,.any,ab.fz v2.args,.i (v2.args.length:Int),.i x6,.any]),[none,none],h3⟩∧Has h3 ((b7,.sl br.length 1 (ab.l br))::(bT,.sl x8.nodes.length 4 (dJ.l (bm x8.nodes Ac)))::(fH,.ob [.mp gf])::(gf,.mp (qO x7))::(fJ,.ob [ab.fz x1])::(eW,.ob [.rs bT 0 x8.nodes.length 4,.i x8.root])::(fO,.ob [af.fz x3.nodes,.i x3.root])::(fD,.ob [.fn 97 [.ptr fH 0,.ptr fJ 0,.ptr eW 0,.ptr fO 0,.ptr fD 0]])::(fA x8.nodes Ac++L))) (fun out e s=>(e = .exit 0∧∃br x6 x7 x8,(br,x6,x7,x8)=out∧∃z8 HI UI aaB aaC b7 bT Ac h3,s=⟨nc (.ptr eW 0 :: .any::z8::nc [.i (x2.nodes.length:Int),.any,.rs b7 0 br.length 1,.any,.any,HI,UI,aaB,aaC]),[none,none],h3⟩∧Has h3 ((b7,.sl br.length 1 (ab.l br))::(bT,.sl x8.nodes.length 4 (dJ.l (bm x8.nodes Ac)))::(fH,.ob [.mp gf])::(gf,.mp (qO x7))::(fJ,.ob [ab.fz x1])::(eW,.ob [.rs bT 0 x8.nodes.length 4,.i x8.root])::(fO,.ob [af.fz x3.nodes,.i x3.root])::(fD,.ob [.fn 97 [.ptr fH 0,.ptr fJ 0,.ptr eW 0,.ptr fO 0,.ptr fD 0]])::(fA x8.nodes Ac++L)))):=by
 refine jF (fun _=>rfl) ?_
 rintro k ⟨br,x6,x7,x8⟩ s out ⟨b7,bT,Ac,h3,rfl,o5⟩ H
 have H:bO.l0 m x1 x3 (bO.f m kk) v2 (k+1) br x6 x7 x8=some out:=H
 refine q1 <| qq <| qc H (fun c1 H=>?_) (fun c1 H=>?_)
 ·refine qk <| qq <| qb 1 <| qq ?_
  obtain⟨v3,e7,H⟩:=aP H
  refine qr [.v 0 (bN (k:=.i64) (E:=ab) (l:=v2.args) da e7),.v 1 (cO  (E:=ab) (l:=v2.args) h3 A3 e7 rfl)] ?_
  obtain⟨x9,e8,H⟩:=aP H
  obtain⟨cK,HJ,h4,e9,o6⟩:=N9 _ _ _ _ _ _ e8 h3 _ _ _ _ _ _ Ac _ _ ((Has.zZ (pre:=[(fH,.ob [.mp gf]),(gf,.mp (qO x7)),(fJ,.ob [ab.fz x1]),(eW,.ob [.rs bT 0 x8.nodes.length 4,.i x8.root]),(bT,.sl x8.nodes.length 4 (dJ.l (bm x8.nodes Ac))),(fO,.ob [af.fz x3.nodes,.i x3.root]),(fD,.ob [.fn 97 [.ptr fH 0,.ptr fJ 0,.ptr eW 0,.ptr fO 0,.ptr fD 0]])]) (mid:=[(b7,.sl br.length 1 (ab.l br))]) (bI (bI (bI (bI (bI (bI (bI (bI o5 0) 7) 7) 3) 7) 7) 7) 7)))  [.i v3,.ptr fH 0,.ptr fJ 0,.ptr eW 0,.ptr fO 0,.ptr fD 0] cq
  have o7:=Has.zZ (pre:=[(fH,.ob [.mp gf]),(gf,.mp (qO x9.2.1)),(fJ,.ob [ab.fz x1]),(eW,.ob [.rs cK 0 x9.2.2.nodes.length 4,.i x9.2.2.root]),(cK,.sl x9.2.2.nodes.length 4 (dJ.l (bm x9.2.2.nodes HJ))),(fO,.ob [af.fz x3.nodes,.i x3.root]),(fD,.ob [.fn 97 [.ptr fH 0,.ptr fJ 0,.ptr eW 0,.ptr fO 0,.ptr fD 0]])]) (N:=[(b7,.sl br.length 1 (ab.l br))]) (mid:=fA x9.2.2.nodes HJ) o6
  obtain⟨mW,ma,H⟩:=aP H
  obtain⟨dN,h5,nH,o8⟩:=eu (P:=Tryz.prog) (E:=ab) (l:=br) (q:=7) (t2:=22) (x:=.fz [.i x9.1] 1 true) (l2:=([x9.1])) da o7 rfl kr rfl ma
  exact qr [.v 1 (show bR Tryz.prog h3 94 (.ptr fD 0)=some (.fn 97 [.ptr fH 0,.ptr fJ 0,.ptr eW 0,.ptr fO 0,.ptr fD 0]) from cJ (q:=7) (cs:=[.fn 97 [.ptr fH 0,.ptr fJ 0,.ptr eW 0,.ptr fO 0,.ptr fD 0]]) o5 rfl kr),.a 3 e9,.a 5 nH] <| q0 <| ⟨(mW,i64.wrap (x6+1),x9.2.1,x9.2.2),⟨dN,cK,HJ,h5,kr,(bI (bI (bI (bI (bI (bI (bI (bI o8 6) 6) 5) 5) 5) 5) 6) 7)⟩,H⟩
 ·exact qx 0 <| ⟨rfl,br,x6,x7,x8,oi H,.ptr fD 0,ab.fz v2.args,.i (v2.args.length:Int),.i x6,.bool (decide (x6<(v2.args.length:Int))),b7,bT,Ac,h3,kr,o5⟩
theorem vk {aW:FuncId→b4}(ha:aW 97=FC)  (i0:Int)(x0:List (Int × Int))(x1:List Int)(x2:bh)(x3:bh)(h:AHeap)(L:Mem)(fH:Nat)(gf:Nat)(fJ:Nat)(eW:Nat)(gV:Nat)(iz:List Nat)(fO:Nat)(fD:Nat)  {kk:Nat}(N9:Ze cf m kk)(o:Has h ((fH,.ob [.mp gf])::(gf,.mp (qO x0))::(fJ,.ob [ab.fz x1])::(eW,.ob [.rs gV 0 x2.nodes.length 4,.i x2.root])::(gV,.sl x2.nodes.length 4 (dJ.l (bm x2.nodes iz)))::(fO,.ob [af.fz x3.nodes,.i x3.root])::(fD,.ob [.fn 97 [.ptr fH 0,.ptr fJ 0,.ptr eW 0,.ptr fO 0,.ptr fD 0]])::(fA x2.nodes iz++L))){out:Int × (List (Int × Int)) × bh}(H:bO.f m (kk+1) i0 x0 x1 x2 x3=some out) :
  ∃r h',bj Tryz.prog aW cf m 97 [.i i0,.ptr fH 0,.ptr fJ 0,.ptr eW 0,.ptr fO 0,.ptr fD 0] h=some (r,h')∧∃(qQ:Nat) (lf:List Nat),r = .i out.1∧Has h' ((fH,.ob [.mp gf])::(gf,.mp (qO out.2.1))::(fJ,.ob [ab.fz x1])::(eW,.ob [.rs qQ 0 out.2.2.nodes.length 4,.i out.2.2.root])::(qQ,.sl out.2.2.nodes.length 4 (dJ.l (bm out.2.2.nodes lf)))::(fO,.ob [af.fz x3.nodes,.i x3.root])::(fD,.ob [.fn 97 [.ptr fH 0,.ptr fJ 0,.ptr eW 0,.ptr fO 0,.ptr fD 0]])::(fA out.2.2.nodes lf++L)):=by
 refine aw (fn:=Tryz.f97) ha Tryz.func97 kr kr ?_
 refine aI (Q:=fun s=>bO.fin L fH gf fJ eW gV iz fO fD i0 x0 x1 x2 x3 out s) (fun _ _ ⟨h1,qQ,lf,h2,h3⟩=>⟨h1,_,h2,qQ,lf,rfl,h3⟩) ?_
 have H:bO.b m (bO.f m kk) i0 x0 x1 x2 x3=some out:=H
 unfold bO.b at H
 show dE _ cf FC m _ ⟨.i i0 :: .ptr fH 0 :: .ptr fJ 0 :: .ptr eW 0 :: .ptr fO 0 :: .ptr fD 0::zN [],[none,none],h⟩ _
 refine q1 <| qq <| qq ?_
 obtain⟨v0,e0,H⟩:=aP H
 refine qr [.v 0 (show bR Tryz.prog h 84 (.ptr fH 0)=some (.mp gf) from cJ (q:=0) (cs:=[.mp gf]) o rfl kr),.v 1 (show bR Tryz.prog h 22 (.ptr fJ 0)=some (ab.fz x1) from cJ (q:=2) (cs:=[ab.fz x1]) o rfl kr),.v 3 (bN (k:=.i64) (E:=ab) (l:=x1) da e0),.v 4 (cO  (E:=ab) (l:=x1) h A3 e0 rfl),.v 5 (show hZ Tryz.prog h 84 (.mp gf) (.i v0) true=some (.tup [.i ((qX x0 v0).1),.bool ((qX x0 v0).2)]) from (Xd (q:=1) (l:=x0) (k:=v0) Rr o rfl).1)] <| qq <| q0 <| qc H (fun c0 H=>?_) (fun c0 H=>?_)
 ·obtain rfl:=oi H
  exact q1 <| qt <| ⟨.inl rfl,⟨gV,iz,kr,he o⟩⟩
 ·refine qk <| qq <| qr [.v 1 (show bR Tryz.prog h 23 (.ptr eW 0)=some (.rs gV 0 x2.nodes.length 4) from cJ (q:=3) (cs:=[.rs gV 0 x2.nodes.length 4,.i x2.root]) o rfl kr)] <| qq ?_
  obtain⟨v1,e1,H⟩:=aP H
  obtain⟨h0,e2,o0⟩:=Xe (q:=1) (l:=x0) (k:=v1) (v:=(x2.nodes.length:Int)) Rr o rfl
  refine qr [.v 0 (show bR Tryz.prog h 84 (.ptr fH 0)=some (.mp gf) from cJ (q:=0) (cs:=[.mp gf]) o rfl kr),.v 1 (show bR Tryz.prog h 22 (.ptr fJ 0)=some (ab.fz x1) from cJ (q:=2) (cs:=[ab.fz x1]) o rfl kr),.v 3 (bN (k:=.i64) (E:=ab) (l:=x1) da e1),.v 4 (cO  (E:=ab) (l:=x1) h A3 e1 rfl),.w 6 e2] <| qq ?_
  obtain⟨v2,e3,H⟩:=aP H
  refine qr [.v 1 (show bR Tryz.prog h0 23 (.ptr fO 0)=some (af.fz x3.nodes) from cJ (q:=5) (cs:=[af.fz x3.nodes,.i x3.root]) o0 rfl kr),.v 3 (bN (k:=.i64) (E:=af) (l:=x3.nodes) lJ e3),.v 4 (fZ  (E:=af) (l:=x3.nodes) h0 tE tF e3)] <| qq ?_
  have o1:Has h0 (((0),.sl (([]:List Int).length) 1 (ab.l ([]:List Int)))::(fH,.ob [.mp gf])::(gf,.mp (qO (Es x0 v1 (x2.nodes.length:Int))))::(fJ,.ob [ab.fz x1])::(eW,.ob [.rs gV 0 x2.nodes.length 4,.i x2.root])::(gV,.sl x2.nodes.length 4 (dJ.l (bm x2.nodes iz)))::(fO,.ob [af.fz x3.nodes,.i x3.root])::(fD,.ob [.fn 97 [.ptr fH 0,.ptr fJ 0,.ptr eW 0,.ptr fO 0,.ptr fD 0]])::(fA x2.nodes iz++L)):=Has.nil o0 1
  obtain⟨x5,e4,H⟩:=aP H
  obtain⟨aX,dT,h1,e5,o2⟩:=NM (P:=Tryz.prog) (t2:=23) (pre:=[(fH,.ob [.mp gf]),(gf,.mp (qO (Es x0 v1 (x2.nodes.length:Int)))),(fJ,.ob [ab.fz x1]),(eW,.ob [.rs gV 0 x2.nodes.length 4,.i x2.root]),(fO,.ob [af.fz x3.nodes,.i x3.root]),(fD,.ob [.fn 97 [.ptr fH 0,.ptr fJ 0,.ptr eW 0,.ptr fO 0,.ptr fD 0]])]) (ns:=x2.nodes) (ids:=iz) (kind:=v2.kind) (int:=v2.int) (label:=v2.label) (args:=([]:List Int)) (x:=.fz [.i v2.kind,.i v2.int,.str v2.label,.rs (0) 0 (([]:List Int).length) 1] 1 true) lJ (bI (bI (bI (bI (bI (bI (bI (bI o1 7) 7) 6) 6) 6) 6) 6) 7) kr rfl e4
  obtain⟨h2,e6,o3⟩:=mV (P:=Tryz.prog) (t:=23) (off:=0) (q:=4) (cs:=[.rs gV 0 x2.nodes.length 4,.i x2.root]) (iO:=[.rs aX 0 x5.length 4,.i x2.root]) (x:=.rs aX 0 x5.length 4) o2 rfl kr
  refine qr [.v 1 (show bR Tryz.prog h0 23 (.ptr eW 0)=some (.rs gV 0 x2.nodes.length 4) from cJ (q:=3) (cs:=[.rs gV 0 x2.nodes.length 4,.i x2.root]) o0 rfl kr),.a 10 e5,.w 12 e6] <| qq <| q0 ?_
  have o4:Has h2 ((((0)),.sl (([]:List Int).length) 1 (ab.l ([]:List Int)))::(aX,.sl x5.length 4 (dJ.l (bm x5 dT)))::(fH,.ob [.mp gf])::(gf,.mp (qO (Es x0 v1 (x2.nodes.length:Int))))::(fJ,.ob [ab.fz x1])::(eW,.ob [.rs aX 0 x5.length 4,.i x2.root])::(fO,.ob [af.fz x3.nodes,.i x3.root])::(fD,.ob [.fn 97 [.ptr fH 0,.ptr fJ 0,.ptr eW 0,.ptr fO 0,.ptr fD 0]])::(fA x5 dT++L)):=Has.nil o3 1
  refine qq <| qq <| q0 <| qb 0 ?_
  obtain⟨bp,oS,H⟩:=aP H
  refine ql (bO.cm L fH gf fJ eW gV iz fO fD i0 x0 x1 x2 x3 v2  N9  (([]:List Int),0,Es x0 v1 (x2.nodes.length:Int),(bh.mk x5 x2.root)) _ _ ⟨((0)),aX,dT,h2,kr,o4⟩ oS) ?_
  rintro e s ⟨rfl,jJ,FD,uy,nI,rfl,g0,g1,g2,g3,g4,gM,iy,Ad,h6,rfl,o9⟩
  try dsimp only at H
  refine qq ?_
  obtain⟨v4,rF,H⟩:=aP H
  obtain⟨h7,s7,s9⟩:=Rq (P:=Tryz.prog) (tf:=22) (pre:=[(fH,.ob [.mp gf]),(gf,.mp (qO uy)),(fJ,.ob [ab.fz x1]),(eW,.ob [.rs iy 0 nI.nodes.length 4,.i nI.root]),(fO,.ob [af.fz x3.nodes,.i x3.root]),(fD,.ob [.fn 97 [.ptr fH 0,.ptr fJ 0,.ptr eW 0,.ptr fO 0,.ptr fD 0]])]) (args:=jJ) (bI (bI (bI (bI (bI (bI (bI (bI o9 7) 7) 7) 7) 7) 7) 6) 7) Z22 rF
  obtain rfl:=oi H
  exact qr [.v 1 (show bR Tryz.prog h6 23 (.ptr eW 0)=some (.rs iy 0 nI.nodes.length 4) from cJ (q:=5) (cs:=[.rs iy 0 nI.nodes.length 4,.i nI.root]) o9 rfl kr),.v 4 (aL (k:=.i64) (E:=dJ) (l:=(bm nI.nodes Ad)) (q:=1) lJ o9 rfl (lb rF)),.w 6 s7] <| qq <| q0 <| qt <| ⟨.inl rfl,⟨iy,(HH nI.nodes Ad (x2.nodes.length:Int) gM),kr,he (ow (bI (bI (bI (bI (bI (bI (bI s9 6) 6) 2) 6) 6) 6) 6))⟩⟩
end
def FE:b4:=gL [0,1,4,5,7,8,9,16] [] [252,204,140,196,68,251,204,251] [] []
def eO.l0 (m:Nat)(s0:List Int)(f0:Int→Option (Bool)):Nat→Int→Option (Sum Int (Int))
 | 0,_=>none
 | k+1,x0=>if (decide (x0<(s0.length:Int)))=true then ((ix s0 x0).bind fun v0=>(f0 v0).bind fun r0=>if r0=true then (some (.inl x0)) else (eO.l0 m s0 f0 k (i64.wrap (x0+1)))) else (some (.inr x0))
def eO.f (m:Nat)(s0:List Int)(f0:Int→Option (Bool)):Option (Int):=(eO.l0 m s0 f0 m 0).bind fun bp=>match bp with | .inl r1=>some r1 | .inr x1=>some (-1:Int)
def eO.fin (L:Mem)(r:Int)(s:St):Prop:=∃av,aK Tryz.prog (s.open FE) Tryz.f98.results.toList=some av∧eX s.h av (.i r)
def S98 (cf:CallF)(m:Nat):Prop:=∀(s0:List Int) (f0:Int→Option (Bool)) (r:Int),eO.f m s0 f0=some r→∀(iP:FuncId) (bA:List AV),(∀(h:AHeap) (xs:List AV) (a0:Int) r,f0 a0=some r→bl cd h xs ([.i a0]++bA)→cf iP xs h=some (.bool r,h))→(∀h,bl ez h bA bA)→∀h xs,bl cd h xs [ab.fz s0,.fn iP bA]→cf 98 xs h=some (.i r,h)
section
variable {cf:CallF}{m:Nat}
theorem eO.cm (L:Mem)(iP:FuncId)(bA:List AV)(s0:List Int)(f0:Int→Option (Bool))  (kG:∀(h:AHeap) (xs:List AV) (a0:Int) r,f0 a0=some r→bl cd h xs ([.i a0]++bA)→cf iP xs h=some (.bool r,h))(kH:∀h,bl ez h bA bA)  : b9 Tryz.prog cf FE m (sub [1,0,1,0,0] (bw Tryz.f98)) (fun k (σ:Int)=>eO.l0 m s0 f0 k σ) (fun σ s=>match σ with | x0=>∃h0,s=⟨[ab.fz s0,.fn iP bA,.any,.any,.i (s0.length:Int),.i x0,.any,.any],[],h0⟩∧Has h0 (L)) (fun out e s=>(e = .exit 0∧∃x0,.inr x0=out∧∃lH wO wM ud vg h0,s=⟨[lH,wO,.any,.any,wM,ud,vg,.any],[],h0⟩∧Has h0 (L))∨(e = .ret∧∃r,.inl r=out∧eO.fin L r s)):=by
 refine jF (fun _=>rfl) ?_
 rintro k x0 s out ⟨h0,rfl,o0⟩ H
 have H:eO.l0 m s0 f0 (k+1) x0=some out:=H
 refine q1 <| qq <| qc H (fun c0 H=>?_) (fun c0 H=>?_)
 ·refine qk <| qq <| qb 1 <| qq <| q0 <| qq ?_
  obtain⟨v0,e0,H⟩:=aP H
  obtain⟨r0,e1,H⟩:=aP H
  refine qr [.v 3 (bN (k:=.i64) (E:=ab) (l:=s0) da e0),.v 4 (cO  (E:=ab) (l:=s0) h0 A3 e0 rfl),.a 5 (kG _ _ _ _ e1 (S3 (ai (aU) (aD)) (kH h0)))] <| qc H (fun c1 H=>?_) (fun c1 H=>?_)
  ·exact q1 <| qt <| ajW (⟨rfl,_,oi H,pX (.i x0) h0 (oR (fw))⟩)
  ·exact qk <| q0 <| ⟨i64.wrap (x0+1),⟨h0,kr,o0⟩,H⟩
 ·exact qx 0 <| akl (⟨rfl,x0,oi H,ab.fz s0,.fn iP bA,.i (s0.length:Int),.i x0,.bool (decide (x0<(s0.length:Int))),h0,kr,o0⟩)
theorem Dz {aW:FuncId→b4}(ha:aW 98=FE)  (s0:List Int)(f0:Int→Option (Bool))(h:AHeap)(L:Mem)(iP:FuncId)(bA:List AV)  (kG:∀(h:AHeap) (xs:List AV) (a0:Int) r,f0 a0=some r→bl cd h xs ([.i a0]++bA)→cf iP xs h=some (.bool r,h))(kH:∀h,bl ez h bA bA)(o:Has h (L)){out:Int}(H:eO.f m s0 f0=some out) :
  ∃r h',bj Tryz.prog aW cf m 98 [ab.fz s0,.fn iP bA] h=some (r,h')∧eX h' r (.i out):=by
 refine aw (fn:=Tryz.f98) ha Tryz.func98 kr kr ?_
 refine aI (Q:=fun s=>eO.fin L out s) (fun _ _ h=>h) ?_
 have H:_=some out:=H
 unfold eO.f at H
 show dE _ cf FE m _ ⟨ab.fz s0 :: .fn iP bA::wF [],[],h⟩ _
 refine q1 <| qq <| qq <| q0 <| qb 0 ?_
 obtain⟨bp,e2,H⟩:=aP H
 refine ql (eO.cm L iP bA s0 f0  kG kH  0 _ _ ⟨h,kr,o⟩ e2) ?_
 rintro e s (⟨rfl,x1,rfl,g0,g1,g2,g3,g4,h1,rfl,o1⟩| ⟨rfl,r1,rfl,r9⟩)
 ·try dsimp only at H
  exact q1 <| qt <| fI H
 ·try dsimp only at H
  obtain rfl:=oi H
  exact⟨.inl rfl,r9⟩
end
def DA:b4:=gL [0,1,2,3,4] [2,3] [19,15] [] []
def ji.f (m:Nat)(a0:ak)(b0:ak):Option (Bool):=if (!(a0.kind==b0.kind))=true then (some true) else (if (!(a0.int==b0.int))=true then (some true) else (if (!(a0.label.data.toList==b0.label.data.toList))=true then (some true) else (some (!((a0.args.length:Int)==(b0.args.length:Int))))))
def ji.fin (L:Mem)(r:Bool)(s:St):Prop:=∃av,aK Tryz.prog (s.open DA) Tryz.f105.results.toList=some av∧eX s.h av (.bool r)
def UJ (cf:CallF)(m:Nat):Prop:=∀(a0:ak) (b0:ak) (r:Bool),ji.f m a0 b0=some r→∀h xs,bl cd h xs [.agg [.i a0.kind,.i a0.int,.str a0.label,ab.fz a0.args],.agg [.i b0.kind,.i b0.int,.str b0.label,ab.fz b0.args]]→cf 105 xs h=some (.bool r,h)
section
variable {cf:CallF}{m:Nat}
theorem vl {aW:FuncId→b4}(ha:aW 105=DA)  (a0:ak)(b0:ak)(h:AHeap)(L:Mem)  (o:Has h (L)){out:Bool}(H:ji.f m a0 b0=some out) :
  ∃r h',bj Tryz.prog aW cf m 105 [.agg [.i a0.kind,.i a0.int,.str a0.label,ab.fz a0.args],.agg [.i b0.kind,.i b0.int,.str b0.label,ab.fz b0.args]] h=some (r,h')∧eX h' r (.bool out):=by
 refine aw (fn:=Tryz.f105) ha Tryz.func105 kr kr ?_
 refine aI (Q:=fun s=>ji.fin L out s) (fun _ _ h=>h) ?_
 have H:_=some out:=H
 unfold ji.f at H
 show dE _ cf DA m _ ⟨.agg [.i a0.kind,.i a0.int,.str a0.label,ab.fz a0.args] :: .agg [.i b0.kind,.i b0.int,.str b0.label,ab.fz b0.args]::nc [],[none,none],h⟩ _
 refine q1 <| qq ?_
 rcases eV H with⟨c0,H⟩| ⟨c0,H⟩
 ·exact qr [.b 5 c0] <| qt <| fB H
 ·rcases eV H with⟨c1,H⟩| ⟨c1,H⟩
  ·exact qr [.b 5 c0,.b 12 c1] <| qt <| fB H
  ·rcases eV H with⟨c2,H⟩| ⟨c2,H⟩
   ·exact qr [.b 5 c0,.b 12 c1,.b 19 c2] <| qt <| fB H
   ·exact qr [.b 5 c0,.b 12 c1,.b 19 c2] <| qt <| fB H
end
def DB:b4:=gL [0,1,2,6,13,16,21] [] [120,104,88,120,56,120,125,119] [] []
def ec.f (m:Nat)(s0:ae)(a0:Int)(b0:Int):Option (Int × ae):=jn (fun (σ:Int × Int)=>match σ with | (a1,b1)=>(ix s0.an a1).bind fun v0=>some (a1,(ae.mk s0.ay s0.aa (s0.an.set a1.toNat b1)))) fun vh=>((dt.f m s0 a0).bind fun x0=>(dt.f m s0 b0).bind fun x1=>if (!(x0==x1))=true then ((dt.f m s0 b0).bind fun x2=>if x2=true then (vh (b0,a0)) else (vh (a0,b0))) else (if (decide (a0<b0))=true then (vh (b0,a0)) else (vh (a0,b0))))
def ec.fin (L:Mem)(au:Nat)(aq:Nat)(az:Nat)(s0:ae)(a0:Int)(b0:Int)(r:Int × ae)(s:St):Prop:=∃aB aC:Nat,aK Tryz.prog (s.open DB) Tryz.f106.results.toList=some (.i r.1)∧Has s.h ((au,.ob [.bool r.2.ay,.rs aB 0 r.2.aa.length 4,.rs aC 0 r.2.an.length 1])::(aB,.sl r.2.aa.length 4 (af.l r.2.aa))::(aC,.sl r.2.an.length 1 (ab.l r.2.an))::L)
def UK (cf:CallF)(m:Nat):Prop:=∀(s0:ae) (a0:Int) (b0:Int) (r:Int × ae),ec.f m s0 a0 b0=some r→∀h L (au:Nat) (aq:Nat) (az:Nat),Has h ((au,.ob [.bool s0.ay,.rs aq 0 s0.aa.length 4,.rs az 0 s0.an.length 1])::(aq,.sl s0.aa.length 4 (af.l s0.aa))::(az,.sl s0.an.length 1 (ab.l s0.an))::L)→∀xs,xs.map ba=[.ptr au 0,.i a0,.i b0]→∃aB aC h',cf 106 xs h=some (.i r.1,h')∧Has h' ((au,.ob [.bool r.2.ay,.rs aB 0 r.2.aa.length 4,.rs aC 0 r.2.an.length 1])::(aB,.sl r.2.aa.length 4 (af.l r.2.aa))::(aC,.sl r.2.an.length 1 (ab.l r.2.an))::L)
section
variable {cf:CallF}{m:Nat}
theorem q9 {aW:FuncId→b4}(ha:aW 106=DB)(HK:Zd cf m)(s0:ae)(a0:Int)(b0:Int)(h:AHeap)(L:Mem)(au:Nat)(aq:Nat)(az:Nat)  (o:Has h ((au,.ob [.bool s0.ay,.rs aq 0 s0.aa.length 4,.rs az 0 s0.an.length 1])::(aq,.sl s0.aa.length 4 (af.l s0.aa))::(az,.sl s0.an.length 1 (ab.l s0.an))::L)){out:Int × ae}(H:ec.f m s0 a0 b0=some out) :
  ∃r h',bj Tryz.prog aW cf m 106 [.ptr au 0,.i a0,.i b0] h=some (r,h')∧∃aB aC:Nat,r = .i out.1∧Has h' ((au,.ob [.bool out.2.ay,.rs aB 0 out.2.aa.length 4,.rs aC 0 out.2.an.length 1])::(aB,.sl out.2.aa.length 4 (af.l out.2.aa))::(aC,.sl out.2.an.length 1 (ab.l out.2.an))::L):=by
 refine aw (fn:=Tryz.f106) ha Tryz.func106 kr kr ?_
 refine aI (Q:=fun s=>ec.fin L au aq az s0 a0 b0 out s) (fun _ _ ⟨h1,aB,aC,h2,h3⟩=>⟨h1,_,h2,aB,aC,rfl,h3⟩) ?_
 have H:_=some out:=H
 unfold ec.f at H
 show dE _ cf DB m _ ⟨.ptr au 0 :: .i a0 :: .i b0::l9 [],[],h⟩ _
 refine q1 ?_
 obtain⟨vh,Jo,H⟩:=ov H
 refine qj (S:=fun (σ:Int × Int) s=>match σ with | (a1,b1)=>∃(g0:AV) (g1:AV) (h0:AHeap),s=⟨[.ptr au 0,.i a1,.i b1,.any,.any,g0,g1],[],h0⟩∧Has h0 ((au,.ob [.bool s0.ay,.rs aq 0 s0.aa.length 4,.rs az 0 s0.an.length 1])::(aq,.sl s0.aa.length 4 (af.l s0.aa))::(az,.sl s0.an.length 1 (ab.l s0.an))::L)) vh H ?_ ?_
 ·rintro⟨a1,b1⟩ s ⟨g0,g1,h0,rfl,o0⟩ H
  have H:=(Jo _).symm.trans H
  try dsimp only at H
  refine qq ?_
  obtain⟨v0,e3,H⟩:=aP H
  obtain⟨h1,e4,o1⟩:=dD (P:=Tryz.prog) (tf:=3) (E:=ab) (l:=s0.an) (q:=2) (v:=b1) (x:=.i b1) o0 rfl Z3 e3 rfl rfl
  obtain rfl:=oi H
  exact qr [.v 3 (show bR Tryz.prog h0 22 (.ptr au 2)=some (.rs az 0 s0.an.length 1) from cJ (q:=0) (cs:=[.bool s0.ay,.rs aq 0 s0.aa.length 4,.rs az 0 s0.an.length 1]) o0 rfl kr),.v 6 (aL (k:=.i64) (E:=ab) (l:=s0.an) (q:=2) da o0 rfl e3),.w 7 e4] <| qq <| q0 <| qt <| ⟨.inl rfl,⟨aq,az,kr,he (ow o1)⟩⟩
 clear Jo
 intro sZ
 refine qq ?_
 obtain⟨x0,e0,H⟩:=aP H
 obtain⟨x1,e1,H⟩:=aP H
 refine qr [.a 2 (HK _ _ _ e0 h _ (ia (ai (dM (q:=0) o rfl (ai (eM) (ai (cC (E:=af) (l:=s0.aa) (q:=1) o rfl (fun _=>rfl)) (ai (cC (E:=ab) (l:=s0.an) (q:=2) o rfl (fun _=>rfl)) (aD))))) (ai (aU) (aD))))),.a 5 (HK _ _ _ e1 h _ (ia (ai (dM (q:=0) o rfl (ai (eM) (ai (cC (E:=af) (l:=s0.aa) (q:=1) o rfl (fun _=>rfl)) (ai (cC (E:=ab) (l:=s0.an) (q:=2) o rfl (fun _=>rfl)) (aD))))) (ai (aU) (aD)))))] <| qc H (fun c0 H=>?_) (fun c0 H=>?_)
 ·refine qq ?_
  obtain⟨x2,e2,H⟩:=aP H
  refine qr [.a 2 (HK _ _ _ e2 h _ (ia (ai (dM (q:=0) o rfl (ai (eM) (ai (cC (E:=af) (l:=s0.aa) (q:=1) o rfl (fun _=>rfl)) (ai (cC (E:=ab) (l:=s0.an) (q:=2) o rfl (fun _=>rfl)) (aD))))) (ai (aU) (aD)))))] <| qc H (fun c1 H=>?_) (fun c1 H=>?_)
  ·exact q0 <| sZ (b0,a0) _ ⟨.any,.any,h,kr,o⟩ H
  ·exact qk <| sZ (a0,b0) _ ⟨.bool x2,.any,h,kr,o⟩ H
 ·refine q1 <| qc H (fun c2 H=>?_) (fun c2 H=>?_)
  ·exact q0 <| sZ (b0,a0) _ ⟨.any,.any,h,kr,o⟩ H
  ·exact qk <| sZ (a0,b0) _ ⟨.any,.bool (decide (a0<b0)),h,kr,o⟩ H
end
def DC:b4:=gL [0,1,3] [] [4,3] [] []
def fa.f (m:Nat)(n0:Int)(x0:ae):Option (Bool):=(dt.f m x0 n0).bind fun x1=>some (!x1)
def fa.fin (L:Mem)(r:Bool)(s:St):Prop:=∃av,aK Tryz.prog (s.open DC) Tryz.f107.results.toList=some av∧eX s.h av (.bool r)
def Xx (cf:CallF)(m:Nat):Prop:=∀(n0:Int) (x0:ae) (r:Bool),fa.f m n0 x0=some r→∀h xs,bl cd h xs [.i n0,.fp [.fp [.bool x0.ay,af.fz x0.aa,ab.fz x0.an] 0] 0]→cf 107 xs h=some (.bool r,h)
section
variable {cf:CallF}{m:Nat}
theorem oI {aW:FuncId→b4}(ha:aW 107=DC)(HK:Zd cf m)(n0:Int)(x0:ae)(h:AHeap)(L:Mem)  (o:Has h (L)){out:Bool}(H:fa.f m n0 x0=some out) :
  ∃r h',bj Tryz.prog aW cf m 107 [.i n0,.fp [.fp [.bool x0.ay,af.fz x0.aa,ab.fz x0.an] 0] 0] h=some (r,h')∧eX h' r (.bool out):=by
 refine aw (fn:=Tryz.f107) ha Tryz.func107 kr kr ?_
 refine aI (Q:=fun s=>fa.fin L out s) (fun _ _ h=>h) ?_
 have H:_=some out:=H
 unfold fa.f at H
 show dE _ cf DC m _ ⟨[.i n0,.fp [.fp [.bool x0.ay,af.fz x0.aa,ab.fz x0.an] 0] 0,.any],[],h⟩ _
 refine q1 <| qq ?_
 obtain⟨x1,e0,H⟩:=aP H
 exact qr [.a 2 (HK _ _ _ e0 h _ (ia (ai (cV (pure_cons (bc) (pure_cons (bM.aJ (E:=af) (l:=x0.aa)) (pure_cons (bM.aJ (E:=ab) (l:=x0.an)) (pure_nil))))) (ai (aU) (aD)))))] <| qt <| fB H
end
def Ae:b4:=gL [0,1,4,5,7,8,9,16] [] [252,204,140,196,68,251,204,251] [] []
def iW.l0 (m:Nat)(s0:List ak)(f0:ak→Option (Bool)):Nat→Int→Option (Sum Int (Int))
 | 0,_=>none
 | k+1,x0=>if (decide (x0<(s0.length:Int)))=true then ((ix s0 x0).bind fun v0=>(f0 v0).bind fun r0=>if r0=true then (some (.inl x0)) else (iW.l0 m s0 f0 k (i64.wrap (x0+1)))) else (some (.inr x0))
def iW.f (m:Nat)(s0:List ak)(f0:ak→Option (Bool)):Option (Int):=(iW.l0 m s0 f0 m 0).bind fun bp=>match bp with | .inl r1=>some r1 | .inr x1=>some (-1:Int)
def iW.fin (L:Mem)(r:Int)(s:St):Prop:=∃av,aK Tryz.prog (s.open Ae) Tryz.f109.results.toList=some av∧eX s.h av (.i r)
def Xy (cf:CallF)(m:Nat):Prop:=∀(s0:List ak) (f0:ak→Option (Bool)) (r:Int),iW.f m s0 f0=some r→∀(iP:FuncId) (bA:List AV),(∀(h:AHeap) (xs:List AV) (a0:ak) r,f0 a0=some r→bl cd h xs ([.agg [.i a0.kind,.i a0.int,.str a0.label,ab.fz a0.args]]++bA)→cf iP xs h=some (.bool r,h))→(∀h,bl ez h bA bA)→∀h xs,bl cd h xs [af.fz s0,.fn iP bA]→cf 109 xs h=some (.i r,h)
section
variable {cf:CallF}{m:Nat}
theorem iW.cm (L:Mem)(iP:FuncId)(bA:List AV)(s0:List ak)(f0:ak→Option (Bool))  (kG:∀(h:AHeap) (xs:List AV) (a0:ak) r,f0 a0=some r→bl cd h xs ([.agg [.i a0.kind,.i a0.int,.str a0.label,ab.fz a0.args]]++bA)→cf iP xs h=some (.bool r,h))(kH:∀h,bl ez h bA bA)  : b9 Tryz.prog cf Ae m (sub [1,0,1,0,0] (bw Tryz.f109)) (fun k (σ:Int)=>iW.l0 m s0 f0 k σ) (fun σ s=>match σ with | x0=>∃h0,s=⟨[af.fz s0,.fn iP bA,.any,.any,.i (s0.length:Int),.i x0,.any,.any],[],h0⟩∧Has h0 (L)) (fun out e s=>(e = .exit 0∧∃x0,.inr x0=out∧∃lH wO wM ud vg h0,s=⟨[lH,wO,.any,.any,wM,ud,vg,.any],[],h0⟩∧Has h0 (L))∨(e = .ret∧∃r,.inl r=out∧iW.fin L r s)):=by
 refine jF (fun _=>rfl) ?_
 rintro k x0 s out ⟨h0,rfl,o0⟩ H
 have H:iW.l0 m s0 f0 (k+1) x0=some out:=H
 refine q1 <| qq <| qc H (fun c0 H=>?_) (fun c0 H=>?_)
 ·refine qk <| qq <| qb 1 <| qq <| q0 <| qq ?_
  obtain⟨v0,e0,H⟩:=aP H
  obtain⟨r0,e1,H⟩:=aP H
  refine qr [.v 3 (bN (k:=.i64) (E:=af) (l:=s0) lJ e0),.v 4 (fZ  (E:=af) (l:=s0) h0 tE tF e0),.a 5 (kG _ _ _ _ e1 (S3 (ai (eJ (ai (aU) (ai (aU) (ai (iB) (ai (iu (E:=ab)) (aD)))))) (aD)) (kH h0)))] <| qc H (fun c1 H=>?_) (fun c1 H=>?_)
  ·exact q1 <| qt <| ajW (⟨rfl,_,oi H,pX (.i x0) h0 (oR (fw))⟩)
  ·exact qk <| q0 <| ⟨i64.wrap (x0+1),⟨h0,kr,o0⟩,H⟩
 ·exact qx 0 <| akl (⟨rfl,x0,oi H,af.fz s0,.fn iP bA,.i (s0.length:Int),.i x0,.bool (decide (x0<(s0.length:Int))),h0,kr,o0⟩)
theorem DD {aW:FuncId→b4}(ha:aW 109=Ae)  (s0:List ak)(f0:ak→Option (Bool))(h:AHeap)(L:Mem)(iP:FuncId)(bA:List AV)  (kG:∀(h:AHeap) (xs:List AV) (a0:ak) r,f0 a0=some r→bl cd h xs ([.agg [.i a0.kind,.i a0.int,.str a0.label,ab.fz a0.args]]++bA)→cf iP xs h=some (.bool r,h))(kH:∀h,bl ez h bA bA)(o:Has h (L)){out:Int}(H:iW.f m s0 f0=some out) :
  ∃r h',bj Tryz.prog aW cf m 109 [af.fz s0,.fn iP bA] h=some (r,h')∧eX h' r (.i out):=by
 refine aw (fn:=Tryz.f109) ha Tryz.func109 kr kr ?_
 refine aI (Q:=fun s=>iW.fin L out s) (fun _ _ h=>h) ?_
 have H:_=some out:=H
 unfold iW.f at H
 show dE _ cf Ae m _ ⟨af.fz s0 :: .fn iP bA::wF [],[],h⟩ _
 refine q1 <| qq <| qq <| q0 <| qb 0 ?_
 obtain⟨bp,e2,H⟩:=aP H
 refine ql (iW.cm L iP bA s0 f0  kG kH  0 _ _ ⟨h,kr,o⟩ e2) ?_
 rintro e s (⟨rfl,x1,rfl,g0,g1,g2,g3,g4,h1,rfl,o1⟩| ⟨rfl,r1,rfl,r9⟩)
 ·try dsimp only at H
  exact q1 <| qt <| fI H
 ·try dsimp only at H
  obtain rfl:=oi H
  exact⟨.inl rfl,r9⟩
end
def DE:b4:=gL [0,1,3] [] [4,3] [] []
def kq.f (m:Nat)(a0:Int)(x0:Int):Option (Bool):=if (decide (a0<0))=true then (some true) else (some (decide (a0≥x0)))
def kq.fin (L:Mem)(r:Bool)(s:St):Prop:=∃av,aK Tryz.prog (s.open DE) Tryz.f110.results.toList=some av∧eX s.h av (.bool r)
def Xz (cf:CallF)(m:Nat):Prop:=∀(a0:Int) (x0:Int) (r:Bool),kq.f m a0 x0=some r→∀h xs,bl cd h xs [.i a0,.fp [.i x0] 0]→cf 110 xs h=some (.bool r,h)
section
variable {cf:CallF}{m:Nat}
theorem wR {aW:FuncId→b4}(ha:aW 110=DE)  (a0:Int)(x0:Int)(h:AHeap)(L:Mem)  (o:Has h (L)){out:Bool}(H:kq.f m a0 x0=some out) :
  ∃r h',bj Tryz.prog aW cf m 110 [.i a0,.fp [.i x0] 0] h=some (r,h')∧eX h' r (.bool out):=by
 refine aw (fn:=Tryz.f110) ha Tryz.func110 kr kr ?_
 refine aI (Q:=fun s=>kq.fin L out s) (fun _ _ h=>h) ?_
 have H:_=some out:=H
 unfold kq.f at H
 show dE _ cf DE m _ ⟨[.i a0,.fp [.i x0] 0,.any],[],h⟩ _
 refine q1 <| qq ?_
 rcases eV H with⟨c0,H⟩| ⟨c0,H⟩
 ·exact qr [.b 2 c0] <| qt <| fB H
 ·exact qr [.b 2 c0] <| qt <| fB H
end
def DF:b4:=gL [0,1,2,6,7,8,29,30] [] [248,201,169,121,247,247,247] [] []
def dA.f (m:Nat)(s0:aj)(a0:Int)(b0:Int):Option (Int):=(ix s0.ah a0).bind fun v0=>(ix s0.ah b0).bind fun v1=>if (!((!(v0.kind==0))==(!(v1.kind==0))))=true then (if (!(v0.kind==0))=true then (some a0) else (some b0)) else (some (mn a0 b0))
def dA.fin (L:Mem)(r:Int)(s:St):Prop:=∃av,aK Tryz.prog (s.open DF) Tryz.f113.results.toList=some av∧eX s.h av (.i r)
def UL (cf:CallF)(m:Nat):Prop:=∀(s0:aj) (a0:Int) (b0:Int) (r:Int),dA.f m s0 a0 b0=some r→∀h xs,bl cd h xs [.fp [af.fz s0.ah,ab.fz s0.ao,.bool s0.aE] 0,.i a0,.i b0]→cf 113 xs h=some (.i r,h)
section
variable {cf:CallF}{m:Nat}
theorem pg {aW:FuncId→b4}(ha:aW 113=DF)  (s0:aj)(a0:Int)(b0:Int)(h:AHeap)(L:Mem)  (o:Has h (L)){out:Int}(H:dA.f m s0 a0 b0=some out) :
  ∃r h',bj Tryz.prog aW cf m 113 [.fp [af.fz s0.ah,ab.fz s0.ao,.bool s0.aE] 0,.i a0,.i b0] h=some (r,h')∧eX h' r (.i out):=by
 refine aw (fn:=Tryz.f113) ha Tryz.func113 kr kr ?_
 refine aI (Q:=fun s=>dA.fin L out s) (fun _ _ h=>h) ?_
 have H:_=some out:=H
 unfold dA.f at H
 show dE _ cf DF m _ ⟨.fp [af.fz s0.ah,ab.fz s0.ao,.bool s0.aE] 0 :: .i a0 :: .i b0::sO [],[],h⟩ _
 refine q1 <| qq ?_
 obtain⟨v0,e0,H⟩:=aP H
 obtain⟨v1,e1,H⟩:=aP H
 refine qr [.v 5 (bN (k:=.i64) (E:=af) (l:=s0.ah) lJ e0),.v 7 (kc  (E:=af) (l:=s0.ah) (off:=0) h A3 e0 rfl),.v 14 (bN (k:=.i64) (E:=af) (l:=s0.ah) lJ e1),.v 16 (kc  (E:=af) (l:=s0.ah) (off:=0) h A3 e1 rfl)] <| qq <| qq <| q0 <| qc H (fun c0 H=>?_) (fun c0 H=>?_)
 ·refine qq <| qq <| q0 <| qc H (fun c1 H=>?_) (fun c1 H=>?_)
  ·exact q1 <| qt <| fI H
  ·exact qk <| qq <| q0 <| qt <| fI H
 ·exact qk <| qq <| q0 <| qt <| fI H
end
def Af:b4:=gL [0,2,3,5,6,7,8,9,14] [] [510,506,395,267,387,131,509,395,509] [] []
def dH.l0 (m:Nat)(ka:List Int):Nat→Int→Option (Sum Int (Int))
 | 0,_=>none
 | k+1,x0=>if (decide (x0<(ka.length:Int)))=true then ((ix ka x0).bind fun v0=>if (!(v0==0))=true then (some (.inl v0)) else (dH.l0 m ka k (i64.wrap (x0+1)))) else (some (.inr x0))
def dH.f (m:Nat)(ka:List Int):Option (Int):=(dH.l0 m ka m 0).bind fun bp=>match bp with | .inl r0=>some r0 | .inr x1=>some 0
def dH.fin (L:Mem)(r:Int)(s:St):Prop:=∃av,aK Tryz.prog (s.open Af) Tryz.f128.results.toList=some av∧eX s.h av (.i r)
def XA (cf:CallF)(m:Nat):Prop:=∀(ka:List Int) (r:Int),dH.f m ka=some r→∀h xs,bl cd h xs [ab.fz ka]→cf 128 xs h=some (.i r,h)
section
variable {cf:CallF}{m:Nat}
theorem dH.cm (L:Mem)(ka:List Int)   : b9 Tryz.prog cf Af m (sub [1,1,0,1,0,0] (bw Tryz.f128)) (fun k (σ:Int)=>dH.l0 m ka k σ) (fun σ s=>match σ with | x0=>∃h0,s=⟨[.any,.any,.i 0,.any,ab.fz ka,.i (ka.length:Int),.i x0,.any,.any],[],h0⟩∧Has h0 (L)) (fun out e s=>(e = .exit 0∧∃x0,.inr x0=out∧∃yh wM ud vg h0,s=⟨[.any,.any,.i 0,.any,yh,wM,ud,vg,.any],[],h0⟩∧Has h0 (L))∨(e = .ret∧∃r,.inl r=out∧dH.fin L r s)):=by
 refine jF (fun _=>rfl) ?_
 rintro k x0 s out ⟨h0,rfl,o0⟩ H
 have H:dH.l0 m ka (k+1) x0=some out:=H
 refine q1 <| qq <| qc H (fun c0 H=>?_) (fun c0 H=>?_)
 ·refine qk <| qq <| qb 1 <| qq ?_
  obtain⟨v0,e0,H⟩:=aP H
  refine qr [.v 0 (bN (k:=.i64) (E:=ab) (l:=ka) da e0),.v 1 (cO  (E:=ab) (l:=ka) h0 A3 e0 rfl)] <| qq <| q0 <| qc H (fun c1 H=>?_) (fun c1 H=>?_)
  ·exact q1 <| qt <| ajW (⟨rfl,_,oi H,pX (.i v0) h0 (oR (fw))⟩)
  ·exact qk <| q0 <| ⟨i64.wrap (x0+1),⟨h0,kr,o0⟩,H⟩
 ·exact qx 0 <| akl (⟨rfl,x0,oi H,ab.fz ka,.i (ka.length:Int),.i x0,.bool (decide (x0<(ka.length:Int))),h0,kr,o0⟩)
theorem yj {aW:FuncId→b4}(ha:aW 128=Af)  (ka:List Int)(h:AHeap)(L:Mem)  (o:Has h (L)){out:Int}(H:dH.f m ka=some out) :
  ∃r h',bj Tryz.prog aW cf m 128 [ab.fz ka] h=some (r,h')∧eX h' r (.i out):=by
 refine aw (fn:=Tryz.f128) ha Tryz.func128 kr kr ?_
 refine aI (Q:=fun s=>dH.fin L out s) (fun _ _ h=>h) ?_
 have H:_=some out:=H
 unfold dH.f at H
 show dE _ cf Af m _ ⟨ab.fz ka::tX [],[],h⟩ _
 refine q1 <| qq <| q0 <| qq <| qq <| q0 <| qb 0 ?_
 obtain⟨bp,e1,H⟩:=aP H
 refine ql (dH.cm L ka   0 _ _ ⟨h,kr,o⟩ e1) ?_
 rintro e s (⟨rfl,x1,rfl,g0,g1,g2,g3,h1,rfl,o1⟩| ⟨rfl,r0,rfl,r9⟩)
 ·try dsimp only at H
  exact q1 <| qt <| fI H
 ·try dsimp only at H
  obtain rfl:=oi H
  exact⟨.inl rfl,r9⟩
end
def DG:b4:=gL [0,2] [] [2,1] [] []
def jK.f (m:Nat)(c0:Int):Option (Bool):=if (decide (c0≥97))=true then (if (decide (c0≤122))=true then (some true) else (if (decide (c0≥65))=true then (if (decide (c0≤90))=true then (some true) else (if (decide (c0≥48))=true then (if (decide (c0≤57))=true then (some true) else (some (c0==95))) else (some (c0==95)))) else (if (decide (c0≥48))=true then (if (decide (c0≤57))=true then (some true) else (some (c0==95))) else (some (c0==95))))) else (if (decide (c0≥65))=true then (if (decide (c0≤90))=true then (some true) else (if (decide (c0≥48))=true then (if (decide (c0≤57))=true then (some true) else (some (c0==95))) else (some (c0==95)))) else (if (decide (c0≥48))=true then (if (decide (c0≤57))=true then (some true) else (some (c0==95))) else (some (c0==95))))
def jK.fin (L:Mem)(r:Bool)(s:St):Prop:=∃av,aK Tryz.prog (s.open DG) Tryz.f130.results.toList=some av∧eX s.h av (.bool r)
def UM (cf:CallF)(m:Nat):Prop:=∀(c0:Int) (r:Bool),jK.f m c0=some r→∀h xs,bl cd h xs [.int .u8 c0]→cf 130 xs h=some (.bool r,h)
section
variable {cf:CallF}{m:Nat}
theorem wS {aW:FuncId→b4}(ha:aW 130=DG)  (c0:Int)(h:AHeap)(L:Mem)  (o:Has h (L)){out:Bool}(H:jK.f m c0=some out) :
  ∃r h',bj Tryz.prog aW cf m 130 [.int .u8 c0] h=some (r,h')∧eX h' r (.bool out):=by
 refine aw (fn:=Tryz.f130) ha Tryz.func130 kr kr ?_
 refine aI (Q:=fun s=>jK.fin L out s) (fun _ _ h=>h) ?_
 have H:_=some out:=H
 unfold jK.f at H
 show dE _ cf DG m _ ⟨[.int .u8 c0,.any],[],h⟩ _
 refine q1 <| qq ?_
 rcases eV H with⟨c1,H⟩| ⟨c1,H⟩
 ·rcases eV H with⟨c2,H⟩| ⟨c2,H⟩
  ·exact qr [.b 2 c1,.b 6 c2] <| qt <| fB H
  ·rcases eV H with⟨c3,H⟩| ⟨c3,H⟩
   ·rcases eV H with⟨c4,H⟩| ⟨c4,H⟩
    ·exact qr [.b 2 c1,.b 6 c2,.b 9 c3,.b 14 c4] <| qt <| fB H
    ·rcases eV H with⟨c5,H⟩| ⟨c5,H⟩
     ·rcases eV H with⟨c6,H⟩| ⟨c6,H⟩
      ·exact qr [.b 2 c1,.b 6 c2,.b 9 c3,.b 14 c4,.b 17 c5,.b 22 c6] <| qt <| fB H
      ·exact qr [.b 2 c1,.b 6 c2,.b 9 c3,.b 14 c4,.b 17 c5,.b 22 c6] <| qt <| fB H
     ·exact qr [.b 2 c1,.b 6 c2,.b 9 c3,.b 14 c4,.b 17 c5] <| qt <| fB H
   ·rcases eV H with⟨c7,H⟩| ⟨c7,H⟩
    ·rcases eV H with⟨c8,H⟩| ⟨c8,H⟩
     ·exact qr [.b 2 c1,.b 6 c2,.b 9 c3,.b 17 c7,.b 22 c8] <| qt <| fB H
     ·exact qr [.b 2 c1,.b 6 c2,.b 9 c3,.b 17 c7,.b 22 c8] <| qt <| fB H
    ·exact qr [.b 2 c1,.b 6 c2,.b 9 c3,.b 17 c7] <| qt <| fB H
 ·rcases eV H with⟨c9,H⟩| ⟨c9,H⟩
  ·rcases eV H with⟨Ag,H⟩| ⟨Ag,H⟩
   ·exact qr [.b 2 c1,.b 9 c9,.b 14 Ag] <| qt <| fB H
   ·rcases eV H with⟨sd,H⟩| ⟨sd,H⟩
    ·rcases eV H with⟨yk,H⟩| ⟨yk,H⟩
     ·exact qr [.b 2 c1,.b 9 c9,.b 14 Ag,.b 17 sd,.b 22 yk] <| qt <| fB H
     ·exact qr [.b 2 c1,.b 9 c9,.b 14 Ag,.b 17 sd,.b 22 yk] <| qt <| fB H
    ·exact qr [.b 2 c1,.b 9 c9,.b 14 Ag,.b 17 sd] <| qt <| fB H
  ·rcases eV H with⟨uh,H⟩| ⟨uh,H⟩
   ·rcases eV H with⟨yl,H⟩| ⟨yl,H⟩
    ·exact qr [.b 2 c1,.b 9 c9,.b 17 uh,.b 22 yl] <| qt <| fB H
    ·exact qr [.b 2 c1,.b 9 c9,.b 17 uh,.b 22 yl] <| qt <| fB H
   ·exact qr [.b 2 c1,.b 9 c9,.b 17 uh] <| qt <| fB H
end
end Go.Proofs.YtifafejidnjckaaGreat
