/- Part of the proof: Q65, Q69, Q71, Q72, Q75, Q76, Q85, Q87, Q89, Q91, Q92, Q93, Q94, Q95, Q97, Q98, Q101, Q104, Q105, Q106, Q107, Q109, Q110, Q113, Q120, Q125, Q126, Q128, Q130, Q131, Q132, Q137, Q140, Q141, Q142, Q144, Q145, Q149, Q13, Q14, Q18, Q19, Q26. -/
import Derived.Test.YtifafejidnjckaaGreatK6
set_option linter.unusedVariables false
set_option linter.unusedSimpArgs false
set_option maxRecDepth 100000
open ByteArray renaming mk → abp
namespace Go.Proofs.YtifafejidnjckaaGreat
open Go Go.R
open Go.IntKind (i64 u64 u8 u32)
def D4:bR:=gC [0,1,4] [] [4,3] [] []
def b5.f (m:Nat)(s0:ab)(n0:Int):Option (Bool):=(ix s0.aa n0).bind fun v0=>some (v0.kind==0)
def b5.fin (L:Mem)(r:Bool)(s:St):Prop:=∃av,aE Tryz.prog (s.open D4) Tryz.f65.results.toList=some av∧eR s.h av (.bool r)
def RL (cf:CallF)(m:Nat):Prop:=∀(s0:ab) (n0:Int) (r:Bool),b5.f m s0 n0=some r→∀h xs,aP bH h xs [.fp [.bool s0.aj,ah.fz s0.aa,af.fz s0.ae] 0,.i n0]→cf 65 xs h=some (.bool r,h)
section
variable {cf:CallF}{m:Nat}
theorem nE {aS:FuncId→bR}(ha:aS 65=D4)  (s0:ab)(n0:Int)(h:AHeap)(L:Mem)  (o:Has h (L)){out:Bool}(H:b5.f m s0 n0=some out) :
  ∃r h',a6 Tryz.prog aS cf m 65 [.fp [.bool s0.aj,ah.fz s0.aa,af.fz s0.ae] 0,.i n0] h=some (r,h')∧eR h' r (.bool out):=by
 refine aq (fn:=Tryz.f65) ha Tryz.func65 kr kr ?_
 refine aC (Q:=fun s=>b5.fin L out s) (fun _ _ h=>h) ?_
 have H:_=some out:=H
 unfold b5.f at H
 show cZ _ cf D4 m _ ⟨[.fp [.bool s0.aj,ah.fz s0.aa,af.fz s0.ae] 0,.i n0,.any],[],h⟩ _
 refine q1 <| qq ?_
 obtain⟨v0,e0,H⟩:=aW H
 exact qr [.v 5 (eK (k:=.i64) (E:=ah) (l:=s0.aa) tS e0),.v 7 (rJ  (E:=ah) (l:=s0.aa) (off:=0) h A3 e0 rfl)] <| qt <| fB H
end
def AN:bR:=gC [0,1,5,6,7,8,9] [] [70,6,66,70,70] [] []
def bl.l0 (m:Nat)(aK:List Int):Nat→Int→ab→Option (Int × ab)
 | 0,_,_=>none
 | k+1,x0,s1=>if (decide (x0<(aK.length:Int)))=true then ((ix aK x0).bind fun v0=>(ix s1.ae v0).bind fun v1=>bl.l0 m aK k (i64.wrap (x0+1)) (ab.mk s1.aj s1.aa (s1.ae.set v0.toNat v0))) else (some ((x0,s1)))
def bl.f (m:Nat)(s0:ab)(aK:List Int):Option (ab):=(bl.l0 m aK m 0 s0).bind fun bP=>match bP with | (x1,s2)=>some s2
def bl.fin (L:Mem)(ar:Nat)(an:Nat)(ao:Nat)(s0:ab)(aK:List Int)(r:ab)(s:St):Prop:=∃aA aB:Nat,aE Tryz.prog (s.open AN) Tryz.f69.results.toList=some (.tup [])∧Has s.h ((ar,.ob [.bool r.aj,.rs aA 0 r.aa.length 4,.rs aB 0 r.ae.length 1])::(aA,.sl r.aa.length 4 (ah.l r.aa))::(aB,.sl r.ae.length 1 (af.l r.ae))::L)
def Tt (cf:CallF)(m:Nat):Prop:=∀(s0:ab) (aK:List Int) (r:ab),bl.f m s0 aK=some r→∀h L (ar:Nat) (an:Nat) (ao:Nat),Has h ((ar,.ob [.bool s0.aj,.rs an 0 s0.aa.length 4,.rs ao 0 s0.ae.length 1])::(an,.sl s0.aa.length 4 (ah.l s0.aa))::(ao,.sl s0.ae.length 1 (af.l s0.ae))::L)→∀xs,xs.map aN=[.ptr ar 0,af.fz aK]→∃aA aB h',cf 69 xs h=some (.tup [],h')∧Has h' ((ar,.ob [.bool r.aj,.rs aA 0 r.aa.length 4,.rs aB 0 r.ae.length 1])::(aA,.sl r.aa.length 4 (ah.l r.aa))::(aB,.sl r.ae.length 1 (af.l r.ae))::L)
section
variable {cf:CallF}{m:Nat}
theorem bl.cb (L:Mem)(ar:Nat)(an:Nat)(ao:Nat)(s0:ab)(aK:List Int)   : cY Tryz.prog cf AN m (sub [1,0,0] (bN Tryz.f69)) (fun k (σ:Int × ab)=>bl.l0 m aK k σ.1 σ.2) (fun σ s=>match σ with | (x0,s1)=>∃aM cr h0,s=⟨[.ptr ar 0,.any,.any,af.fz aK,.i (aK.length:Int),.i x0,.any],[],h0⟩∧Has h0 ((ar,.ob [.bool s1.aj,.rs aM 0 s1.aa.length 4,.rs cr 0 s1.ae.length 1])::(aM,.sl s1.aa.length 4 (ah.l s1.aa))::(cr,.sl s1.ae.length 1 (af.l s1.ae))::L)) (fun out e s=>(e = .exit 0∧∃x0 s1,(x0,s1)=out∧∃nC H3 H2 CF FV aM cr h0,s=⟨[nC,.any,.any,H3,H2,CF,FV],[],h0⟩∧Has h0 ((ar,.ob [.bool s1.aj,.rs aM 0 s1.aa.length 4,.rs cr 0 s1.ae.length 1])::(aM,.sl s1.aa.length 4 (ah.l s1.aa))::(cr,.sl s1.ae.length 1 (af.l s1.ae))::L))):=by
 refine ln (fun _=>rfl) ?_
 rintro k ⟨x0,s1⟩ s out ⟨aM,cr,h0,rfl,o0⟩ H
 have H:bl.l0 m aK (k+1) x0 s1=some out:=H
 refine q1 <| qq <| qc H (fun c0 H=>?_) (fun c0 H=>?_)
 ·refine qk <| qq <| qb 1 <| qq ?_
  obtain⟨v0,e0,H⟩:=aW H
  refine qr [.v 0 (eK (k:=.i64) (E:=af) (l:=aK) gj e0),.v 1 (gK  (E:=af) (l:=aK) h0 A3 e0 rfl)] ?_
  obtain⟨v1,e1,H⟩:=aW H
  obtain⟨h1,e2,o1⟩:=fN (P:=Tryz.prog) (tf:=3) (E:=af) (l:=s1.ae) (q:=2) (v:=v0) (x:=.i v0) o0 rfl Z3 e1 rfl rfl
  exact qr [.v 3 (show bw Tryz.prog h0 22 (.ptr ar 2)=some (.rs cr 0 s1.ae.length 1) from b6 (q:=0) (cs:=[.bool s1.aj,.rs aM 0 s1.aa.length 4,.rs cr 0 s1.ae.length 1]) o0 rfl kr),.v 6 (be (k:=.i64) (E:=af) (l:=s1.ae) (q:=2) gj o0 rfl e1),.w 7 e2] <| q0 <| ⟨(i64.wrap (x0+1),(ab.mk s1.aj s1.aa (s1.ae.set v0.toNat v0))),⟨aM,cr,h1,ld,(AL o1)⟩,H⟩
 ·exact qx 0 <| ⟨rfl,x0,s1,oi H,.ptr ar 0,af.fz aK,.i (aK.length:Int),.i x0,.bool (decide (x0<(aK.length:Int))),aM,cr,h0,kr,o0⟩
theorem nF {aS:FuncId→bR}(ha:aS 69=AN)  (s0:ab)(aK:List Int)(h:AHeap)(L:Mem)(ar:Nat)(an:Nat)(ao:Nat)  (o:Has h ((ar,.ob [.bool s0.aj,.rs an 0 s0.aa.length 4,.rs ao 0 s0.ae.length 1])::(an,.sl s0.aa.length 4 (ah.l s0.aa))::(ao,.sl s0.ae.length 1 (af.l s0.ae))::L)){out:ab}(H:bl.f m s0 aK=some out) :
  ∃r h',a6 Tryz.prog aS cf m 69 [.ptr ar 0,af.fz aK] h=some (r,h')∧∃aA aB:Nat,r = .tup []∧Has h' ((ar,.ob [.bool out.aj,.rs aA 0 out.aa.length 4,.rs aB 0 out.ae.length 1])::(aA,.sl out.aa.length 4 (ah.l out.aa))::(aB,.sl out.ae.length 1 (af.l out.ae))::L):=by
 refine aq (fn:=Tryz.f69) ha Tryz.func69 kr kr ?_
 refine aC (Q:=fun s=>bl.fin L ar an ao s0 aK out s) (fun _ _ ⟨h1,aA,aB,h2,h3⟩=>⟨h1,_,h2,aA,aB,rfl,h3⟩) ?_
 have H:_=some out:=H
 unfold bl.f at H
 show cZ _ cf AN m _ ⟨.ptr ar 0::af.fz aK::Ax [],[],h⟩ _
 refine q1 <| qb 0 ?_
 obtain⟨bP,e3,H⟩:=aW H
 refine ql (bl.cb L ar an ao s0 aK   (0,s0) _ _ ⟨an,ao,h,kr,o⟩ e3) ?_
 rintro e s ⟨rfl,x1,s2,rfl,g0,g1,g2,g3,g4,dY,fk,h2,rfl,o2⟩
 try dsimp only at H
 obtain rfl:=oi H
 exact⟨.inr rfl,⟨dY,fk,kr,he o2⟩⟩
end
def D5:bR:=gC [0,1,2,5,6,7,8,9,13,17,31] [5] [2036,1908,1999,1782,1999,1526,1999,1974,950,1974,1983,1999] [] []
def bT.f (m:Nat)(s0:ab)(H4:Option (Bool))(n0:ai):Option (Int × Int × ab):=(b4.f m s0).bind fun x0=>if (!x0)=true then (some (0,6,s0)) else ((H4 ).bind fun r0=>if (!r0)=true then (some (0,1,s0)) else (if (decide ((s0.aa.length:Int)≥8000))=true then (some (0,7,s0)) else (jn (fun (σ:Int)=>match σ with | n1=>(app 56 s0.aa ([(ai.mk n0.kind n1 n0.label n0.args)])).bind fun x1=>(app 8 s0.ae ([(s0.aa.length:Int)])).bind fun x2=>some ((s0.aa.length:Int),0,(ab.mk s0.aj x1 x2))) fun BO=>(if (n0.kind==0)=true then (BO (s0.aa.length:Int)) else (BO n0.int)))))
def bT.fin (L:Mem)(ar:Nat)(an:Nat)(ao:Nat)(s0:ab)(H4:Option (Bool))(n0:ai)(r:Int × Int × ab)(s:St):Prop:=∃aA aB:Nat,aE Tryz.prog (s.open D5) Tryz.f71.results.toList=some (.tup [.i r.1,.i r.2.1])∧Has s.h ((ar,.ob [.bool r.2.2.aj,.rs aA 0 r.2.2.aa.length 4,.rs aB 0 r.2.2.ae.length 1])::(aA,.sl r.2.2.aa.length 4 (ah.l r.2.2.aa))::(aB,.sl r.2.2.ae.length 1 (af.l r.2.2.ae))::L)
def OC (cf:CallF)(m:Nat):Prop:=∀(s0:ab) (H4:Option (Bool)) (n0:ai) (r:Int × Int × ab),bT.f m s0 H4 n0=some r→∀h L (ar:Nat) (an:Nat) (ao:Nat),Has h ((ar,.ob [.bool s0.aj,.rs an 0 s0.aa.length 4,.rs ao 0 s0.ae.length 1])::(an,.sl s0.aa.length 4 (ah.l s0.aa))::(ao,.sl s0.ae.length 1 (af.l s0.ae))::L)→∀(fA:FuncId) (aU b9:List AV),(aN (.fn fA aU) = .fn fA aU)→(∀(h:AHeap) (xs:List AV)  r,H4  = some r→aP bH h xs ([]++b9)→cf fA xs h=some (.bool r,h))→(∀h K,Has h (K++((ar,.ob [.bool s0.aj,.rs an 0 s0.aa.length 4,.rs ao 0 s0.ae.length 1])::(an,.sl s0.aa.length 4 (ah.l s0.aa))::(ao,.sl s0.ae.length 1 (af.l s0.ae))::L))→aP cC h aU b9)→(∀h,aP cC h b9 b9)→∀xs,xs.map aN=[.ptr ar 0,.fn fA aU,.agg [.i n0.kind,.i n0.int,.str n0.label,af.fz n0.args]]→∃aA aB h',cf 71 xs h=some (.tup [.i r.1,.i r.2.1],h')∧Has h' ((ar,.ob [.bool r.2.2.aj,.rs aA 0 r.2.2.aa.length 4,.rs aB 0 r.2.2.ae.length 1])::(aA,.sl r.2.2.aa.length 4 (ah.l r.2.2.aa))::(aB,.sl r.2.2.ae.length 1 (af.l r.2.2.ae))::L)
section
variable {cf:CallF}{m:Nat}
theorem oB {aS:FuncId→bR}(ha:aS 71=D5)(H5:RK cf m)(s0:ab)(H4:Option (Bool))(n0:ai)(h:AHeap)(L:Mem)(ar:Nat)(an:Nat)(ao:Nat)(fA:FuncId)(aU b9:List AV)  (ve:aN (.fn fA aU) = .fn fA aU)(iF:∀(h:AHeap) (xs:List AV)  r,H4  = some r→aP bH h xs ([]++b9)→cf fA xs h=some (.bool r,h))(qM:∀h K,Has h (K++((ar,.ob [.bool s0.aj,.rs an 0 s0.aa.length 4,.rs ao 0 s0.ae.length 1])::(an,.sl s0.aa.length 4 (ah.l s0.aa))::(ao,.sl s0.ae.length 1 (af.l s0.ae))::L))→aP cC h aU b9)(iG:∀h,aP cC h b9 b9)(o:Has h ((ar,.ob [.bool s0.aj,.rs an 0 s0.aa.length 4,.rs ao 0 s0.ae.length 1])::(an,.sl s0.aa.length 4 (ah.l s0.aa))::(ao,.sl s0.ae.length 1 (af.l s0.ae))::L)){out:Int × Int × ab}(H:bT.f m s0 H4 n0=some out) :
  ∃r h',a6 Tryz.prog aS cf m 71 [.ptr ar 0,.fn fA aU,.agg [.i n0.kind,.i n0.int,.str n0.label,af.fz n0.args]] h=some (r,h')∧∃aA aB:Nat,r = .tup [.i out.1,.i out.2.1]∧Has h' ((ar,.ob [.bool out.2.2.aj,.rs aA 0 out.2.2.aa.length 4,.rs aB 0 out.2.2.ae.length 1])::(aA,.sl out.2.2.aa.length 4 (ah.l out.2.2.aa))::(aB,.sl out.2.2.ae.length 1 (af.l out.2.2.ae))::L):=by
 refine aq (fn:=Tryz.f71) ha Tryz.func71 kr kr ?_
 refine aC (Q:=fun s=>bT.fin L ar an ao s0 H4 n0 out s) (fun _ _ ⟨h1,aA,aB,h2,h3⟩=>⟨h1,_,h2,aA,aB,rfl,h3⟩) ?_
 have H:_=some out:=H
 unfold bT.f at H
 show cZ _ cf D5 m _ ⟨.ptr ar 0 :: .fn fA aU :: .agg [.i n0.kind,.i n0.int,.str n0.label,af.fz n0.args]::xg [],[none],h⟩ _
 refine q1 <| qq <| qb 0 <| qq ?_
 obtain⟨x0,e0,H⟩:=aW H
 refine qr [.a 1 (H5 _ _ e0 h _ (lZ (ak (eC (q:=0) o rfl (ak (gL) (ak (eM (E:=ah) (l:=s0.aa) (q:=1) o rfl (fun _=>rfl)) (ak (eM (E:=af) (l:=s0.ae) (q:=2) o rfl (fun _=>rfl)) (aG))))) (aG))))] <| qc H (fun c0 H=>?_) (fun c0 H=>?_)
 ·obtain rfl:=oi H
  exact q1 <| qt <| ⟨.inl rfl,⟨an,ao,kr,he o⟩⟩
 ·refine qq ?_
  obtain⟨r0,e1,H⟩:=aW H
  refine qr [.a 1 (iF _ _ _ e1 (KE (aG) (qM h [] o)))] <| qc H (fun c1 H=>?_) (fun c1 H=>?_)
  ·obtain rfl:=oi H
   exact q1 <| qt <| ⟨.inl rfl,⟨an,ao,kr,he o⟩⟩
  ·refine qs [.v 3 (show bw Tryz.prog h 23 (.ptr ar 1)=some (.rs an 0 s0.aa.length 4) from b6 (q:=0) (cs:=[.bool s0.aj,.rs an 0 s0.aa.length 4,.rs ao 0 s0.ae.length 1]) o rfl kr)] <| qc H (fun c2 H=>?_) (fun c2 H=>?_)
   ·obtain rfl:=oi H
    exact q1 <| qt <| ⟨.inl rfl,⟨an,ao,kr,he o⟩⟩
   ·refine qk <| qq <| qr [.v 3 (show bw Tryz.prog h 23 (.ptr ar 1)=some (.rs an 0 s0.aa.length 4) from b6 (q:=0) (cs:=[.bool s0.aj,.rs an 0 s0.aa.length 4,.rs ao 0 s0.ae.length 1]) o rfl kr)] ?_
    obtain⟨BO,LU,H⟩:=qH H
    refine qj (S:=fun (σ:Int) s=>match σ with | n1=>∃(g0:AV) (h0:AHeap),s=⟨.ptr ar 0 :: .any :: .any :: .lp 5 0 :: .any :: .any :: .i (s0.aa.length:Int)::nU [g0],[some [.i n0.kind,.i n1,.str n0.label,af.fz n0.args]],h0⟩∧Has h0 ((ar,.ob [.bool s0.aj,.rs an 0 s0.aa.length 4,.rs ao 0 s0.ae.length 1])::(an,.sl s0.aa.length 4 (ah.l s0.aa))::(ao,.sl s0.ae.length 1 (af.l s0.ae))::L)) BO H ?_ ?_
    ·rintro n1 s ⟨g0,h0,rfl,o0⟩ H
     have H:=(LU _).symm.trans H
     try dsimp only at H
     refine qq ?_
     obtain⟨x1,e2,H⟩:=aW H
     obtain⟨aM,h1,e3,o1⟩:=ju (P:=Tryz.prog) (E:=ah) (l:=s0.aa) (q:=1) (t2:=23) (x:=.fz [.i n0.kind,.i n1,.str n0.label,af.fz n0.args] 1 true) (l2:=([(ai.mk n0.kind n1 n0.label n0.args)])) tS o0 rfl kr rfl e2
     obtain⟨x2,e4,H⟩:=aW H
     obtain⟨cr,h2,e5,o2⟩:=ju (P:=Tryz.prog) (E:=af) (l:=s0.ae) (q:=2) (t2:=22) (x:=.fz [.i (s0.aa.length:Int)] 1 true) (l2:=([(s0.aa.length:Int)])) gj o1 rfl kr rfl e4
     obtain⟨h3,e6,o3⟩:=pw (P:=Tryz.prog) (t:=23) (off:=1) (q:=0) (cs:=[.bool s0.aj,.rs an 0 s0.aa.length 4,.rs ao 0 s0.ae.length 1]) (fQ:=[.bool s0.aj,.rs aM 0 x1.length 4,.rs ao 0 s0.ae.length 1]) (x:=.rs aM 0 x1.length 4) o2 rfl kr
     obtain⟨h4,e7,o4⟩:=pw (P:=Tryz.prog) (t:=22) (off:=2) (q:=0) (cs:=[.bool s0.aj,.rs aM 0 x1.length 4,.rs ao 0 s0.ae.length 1]) (fQ:=[.bool s0.aj,.rs aM 0 x1.length 4,.rs cr 0 x2.length 1]) (x:=.rs cr 0 x2.length 1) o3 rfl kr
     obtain rfl:=oi H
     exact PR [] [.v 5 (show bw Tryz.prog h0 23 (.ptr ar 1)=some (.rs an 0 s0.aa.length 4) from b6 (q:=0) (cs:=[.bool s0.aj,.rs an 0 s0.aa.length 4,.rs ao 0 s0.ae.length 1]) o0 rfl kr),.a 8 e3,.v 12 (show bw Tryz.prog h1 22 (.ptr ar 2)=some (.rs ao 0 s0.ae.length 1) from b6 (q:=0) (cs:=[.bool s0.aj,.rs an 0 s0.aa.length 4,.rs ao 0 s0.ae.length 1]) o1 rfl kr),.a 15 e5,.w 18 e6,.w 21 e7] [.mk (CC o0 (q:=1) rfl (q2:=0) rfl (by decide) e3)] <| qq <| q0 <| qt <| ⟨.inl rfl,⟨aM,cr,kr,he o4⟩⟩
    clear LU
    intro wL
    refine q1 <| qc H (fun c3 H=>?_) (fun c3 H=>?_)
    ·exact q0 <| wL (s0.aa.length:Int) _ ⟨.any,h,kr,o⟩ H
    ·exact qk <| wL n0.int _ ⟨.bool (n0.kind==0),h,kr,o⟩ H
end
def D6:bR:=gC [0] [] [1] [] []
def dS.f (m:Nat)  : Option (Bool):=some true
def dS.fin (L:Mem)(r:Bool)(s:St):Prop:=∃av,aE Tryz.prog (s.open D6) Tryz.f72.results.toList=some av∧eR s.h av (.bool r)
def Wg (cf:CallF)(m:Nat):Prop:=∀ (r:Bool),dS.f m  = some r→∀h xs,aP bH h xs []→cf 72 xs h=some (.bool r,h)
section
variable {cf:CallF}{m:Nat}
theorem mY {aS:FuncId→bR}(ha:aS 72=D6)   (h:AHeap)(L:Mem)  (o:Has h (L)){out:Bool}(H:dS.f m  = some out) :
  ∃r h',a6 Tryz.prog aS cf m 72 [] h=some (r,h')∧eR h' r (.bool out):=by
 refine aq (fn:=Tryz.f72) ha Tryz.func72 kr kr ?_
 refine aC (Q:=fun s=>dS.fin L out s) (fun _ _ h=>h) ?_
 have H:_=some out:=H
 unfold dS.f at H
 show cZ _ cf D6 m _ ⟨[.any],[],h⟩ _
 exact q1 <| qq <| q0 <| qt <| fB H
end
def AO:bR:=gC [0,1,4,13] [] [12,4,12,11] [] []
def bg.l0 (m:Nat)(s0:ab):Nat→Int→Option (Int)
 | 0,_=>none
 | k+1,n1=>(ix s0.ae n1).bind fun v0=>if (!(v0==n1))=true then ((ix s0.ae n1).bind fun v1=>bg.l0 m s0 k v1) else (some (n1))
def bg.f (m:Nat)(s0:ab)(n0:Int):Option (Int):=(bg.l0 m s0 m n0).bind fun bP=>match bP with | n2=>some n2
def bg.fin (L:Mem)(r:Int)(s:St):Prop:=∃av,aE Tryz.prog (s.open AO) Tryz.f75.results.toList=some av∧eR s.h av (.i r)
def LV (cf:CallF)(m:Nat):Prop:=∀(s0:ab) (n0:Int) (r:Int),bg.f m s0 n0=some r→∀h xs,aP bH h xs [.fp [.bool s0.aj,ah.fz s0.aa,af.fz s0.ae] 0,.i n0]→cf 75 xs h=some (.i r,h)
section
variable {cf:CallF}{m:Nat}
theorem bg.cb (L:Mem)(s0:ab)   : cY Tryz.prog cf AO m (sub [1,0,0,0] (bN Tryz.f75)) (fun k (σ:Int)=>bg.l0 m s0 k σ) (fun σ s=>match σ with | n1=>∃h0,s=⟨[.fp [.bool s0.aj,ah.fz s0.aa,af.fz s0.ae] 0,.i n1,.any,.any],[],h0⟩∧Has h0 (L)) (fun out e s=>(e = .exit 0∧∃n1,n1=out∧∃nC vf h0,s=⟨[nC,.i n1,.any,vf],[],h0⟩∧Has h0 (L))):=by
 refine ln (fun _=>rfl) ?_
 rintro k n1 s out ⟨h0,rfl,o0⟩ H
 have H:bg.l0 m s0 (k+1) n1=some out:=H
 refine qq <| qq ?_
 obtain⟨v0,e0,H⟩:=aW H
 refine qr [.v 5 (eK (k:=.i64) (E:=af) (l:=s0.ae) gj e0),.v 6 (gK  (E:=af) (l:=s0.ae) h0 A3 e0 rfl)] <| qc H (fun c0 H=>?_) (fun c0 H=>?_)
 ·refine qk <| qb 1 ?_
  obtain⟨v1,e1,H⟩:=aW H
  exact qr [.v 5 (eK (k:=.i64) (E:=af) (l:=s0.ae) gj e1),.v 6 (gK  (E:=af) (l:=s0.ae) h0 A3 e1 rfl)] <| ⟨v1,⟨h0,kr,o0⟩,H⟩
 ·exact qx 0 <| ⟨rfl,n1,oi H,.fp [.bool s0.aj,ah.fz s0.aa,af.fz s0.ae] 0,.bool (!(v0==n1)),h0,kr,o0⟩
theorem oC {aS:FuncId→bR}(ha:aS 75=AO)  (s0:ab)(n0:Int)(h:AHeap)(L:Mem)  (o:Has h (L)){out:Int}(H:bg.f m s0 n0=some out) :
  ∃r h',a6 Tryz.prog aS cf m 75 [.fp [.bool s0.aj,ah.fz s0.aa,af.fz s0.ae] 0,.i n0] h=some (r,h')∧eR h' r (.i out):=by
 refine aq (fn:=Tryz.f75) ha Tryz.func75 kr kr ?_
 refine aC (Q:=fun s=>bg.fin L out s) (fun _ _ h=>h) ?_
 have H:_=some out:=H
 unfold bg.f at H
 show cZ _ cf AO m _ ⟨[.fp [.bool s0.aj,ah.fz s0.aa,af.fz s0.ae] 0,.i n0,.any,.any],[],h⟩ _
 refine q1 <| qq <| qb 0 ?_
 obtain⟨bP,e2,H⟩:=aW H
 refine ql (bg.cb L s0   n0 _ _ ⟨h,kr,o⟩ e2) ?_
 rintro e s ⟨rfl,n2,rfl,g0,g1,h1,rfl,o1⟩
 try dsimp only at H
 exact q1 <| qt <| fI H
end
def D7:bR:=gC [0,1] [] [2,1] [] []
def dq.f (m:Nat)(x0:Int):Option (Bool):=if (decide (x0≥(-1099511627776:Int)))=true then (some (decide (x0≤1099511627776))) else (some false)
def dq.fin (L:Mem)(r:Bool)(s:St):Prop:=∃av,aE Tryz.prog (s.open D7) Tryz.f76.results.toList=some av∧eR s.h av (.bool r)
def Wh (cf:CallF)(m:Nat):Prop:=∀(x0:Int) (r:Bool),dq.f m x0=some r→∀h xs,aP bH h xs [.fp [.i x0] 0]→cf 76 xs h=some (.bool r,h)
section
variable {cf:CallF}{m:Nat}
theorem mZ {aS:FuncId→bR}(ha:aS 76=D7)  (x0:Int)(h:AHeap)(L:Mem)  (o:Has h (L)){out:Bool}(H:dq.f m x0=some out) :
  ∃r h',a6 Tryz.prog aS cf m 76 [.fp [.i x0] 0] h=some (r,h')∧eR h' r (.bool out):=by
 refine aq (fn:=Tryz.f76) ha Tryz.func76 kr kr ?_
 refine aC (Q:=fun s=>dq.fin L out s) (fun _ _ h=>h) ?_
 have H:_=some out:=H
 unfold dq.f at H
 show cZ _ cf D7 m _ ⟨[.fp [.i x0] 0,.any],[],h⟩ _
 refine q1 <| qq ?_
 rcases du H with⟨c0,H⟩| ⟨c0,H⟩
 ·exact qr [.b 2 c0] <| qt <| fB H
 ·exact qr [.b 2 c0] <| qt <| fB H
end
def D8:bR:=gC [0,1,4] [] [4,3] [] []
def cM.f (m:Nat)(s0:ab)(n0:Int):Option (Bool):=if (decide (n0≥0))=true then (some (decide (n0<(s0.aa.length:Int)))) else (some false)
def cM.fin (L:Mem)(r:Bool)(s:St):Prop:=∃av,aE Tryz.prog (s.open D8) Tryz.f85.results.toList=some av∧eR s.h av (.bool r)
def Tu (cf:CallF)(m:Nat):Prop:=∀(s0:ab) (n0:Int) (r:Bool),cM.f m s0 n0=some r→∀h xs,aP bH h xs [.fp [.bool s0.aj,ah.fz s0.aa,af.fz s0.ae] 0,.i n0]→cf 85 xs h=some (.bool r,h)
section
variable {cf:CallF}{m:Nat}
theorem na {aS:FuncId→bR}(ha:aS 85=D8)  (s0:ab)(n0:Int)(h:AHeap)(L:Mem)  (o:Has h (L)){out:Bool}(H:cM.f m s0 n0=some out) :
  ∃r h',a6 Tryz.prog aS cf m 85 [.fp [.bool s0.aj,ah.fz s0.aa,af.fz s0.ae] 0,.i n0] h=some (r,h')∧eR h' r (.bool out):=by
 refine aq (fn:=Tryz.f85) ha Tryz.func85 kr kr ?_
 refine aC (Q:=fun s=>cM.fin L out s) (fun _ _ h=>h) ?_
 have H:_=some out:=H
 unfold cM.f at H
 show cZ _ cf D8 m _ ⟨[.fp [.bool s0.aj,ah.fz s0.aa,af.fz s0.ae] 0,.i n0,.any],[],h⟩ _
 refine q1 <| qq ?_
 rcases du H with⟨c0,H⟩| ⟨c0,H⟩
 ·exact qr [.b 2 c0] <| qt <| fB H
 ·exact qr [.b 2 c0] <| qt <| fB H
end
def D9:bR:=gC [0,2] [] [2,1] [] []
def gN.f (m:Nat)(s0:ByteArray):Option (Bool):=if (s0.data.toList==(abp #[112,114,111,99]).data.toList)=true then (some true) else (if (s0.data.toList==(abp #[99,101,108,108]).data.toList)=true then (some true) else (some (s0.data.toList==(abp #[112,111,114,116]).data.toList)))
def gN.fin (L:Mem)(r:Bool)(s:St):Prop:=∃av,aE Tryz.prog (s.open D9) Tryz.f87.results.toList=some av∧eR s.h av (.bool r)
def Tv (cf:CallF)(m:Nat):Prop:=∀(s0:ByteArray) (r:Bool),gN.f m s0=some r→∀h xs,aP bH h xs [.str s0]→cf 87 xs h=some (.bool r,h)
section
variable {cf:CallF}{m:Nat}
theorem tg {aS:FuncId→bR}(ha:aS 87=D9)  (s0:ByteArray)(h:AHeap)(L:Mem)  (o:Has h (L)){out:Bool}(H:gN.f m s0=some out) :
  ∃r h',a6 Tryz.prog aS cf m 87 [.str s0] h=some (r,h')∧eR h' r (.bool out):=by
 refine aq (fn:=Tryz.f87) ha Tryz.func87 kr kr ?_
 refine aC (Q:=fun s=>gN.fin L out s) (fun _ _ h=>h) ?_
 have H:_=some out:=H
 unfold gN.f at H
 show cZ _ cf D9 m _ ⟨[.str s0,.any],[],h⟩ _
 refine q1 <| qq ?_
 rcases du H with⟨c0,H⟩| ⟨c0,H⟩
 ·exact qr [.b 2 c0] <| qt <| fB H
 ·rcases du H with⟨c1,H⟩| ⟨c1,H⟩
  ·exact qr [.b 2 c0,.b 6 c1] <| qt <| fB H
  ·exact qr [.b 2 c0,.b 6 c1] <| qt <| fB H
end
def Ea:bR:=gC [0,1,3] [] [4,3] [] []
def dk.f (m:Nat)(n0:Int)(x0:ab):Option (Bool):=(cM.f m x0 n0).bind fun x1=>some (!x1)
def dk.fin (L:Mem)(r:Bool)(s:St):Prop:=∃av,aE Tryz.prog (s.open Ea) Tryz.f95.results.toList=some av∧eR s.h av (.bool r)
def Wi (cf:CallF)(m:Nat):Prop:=∀(n0:Int) (x0:ab) (r:Bool),dk.f m n0 x0=some r→∀h xs,aP bH h xs [.i n0,.fp [.fp [.bool x0.aj,ah.fz x0.aa,af.fz x0.ae] 0] 0]→cf 95 xs h=some (.bool r,h)
section
variable {cf:CallF}{m:Nat}
theorem lT {aS:FuncId→bR}(ha:aS 95=Ea)(Nk:Tu cf m)(n0:Int)(x0:ab)(h:AHeap)(L:Mem)  (o:Has h (L)){out:Bool}(H:dk.f m n0 x0=some out) :
  ∃r h',a6 Tryz.prog aS cf m 95 [.i n0,.fp [.fp [.bool x0.aj,ah.fz x0.aa,af.fz x0.ae] 0] 0] h=some (r,h')∧eR h' r (.bool out):=by
 refine aq (fn:=Tryz.f95) ha Tryz.func95 kr kr ?_
 refine aC (Q:=fun s=>dk.fin L out s) (fun _ _ h=>h) ?_
 have H:_=some out:=H
 unfold dk.f at H
 show cZ _ cf Ea m _ ⟨[.i n0,.fp [.fp [.bool x0.aj,ah.fz x0.aa,af.fz x0.ae] 0] 0,.any],[],h⟩ _
 refine q1 <| qq ?_
 obtain⟨x1,e0,H⟩:=aW H
 exact qr [.a 2 (Nk _ _ _ e0 h _ (lZ (ak (fE (pure_cons (cu) (pure_cons (bL.bp (E:=ah) (l:=x0.aa)) (pure_cons (bL.bp (E:=af) (l:=x0.ae)) (pure_nil))))) (ak (bO) (aG)))))] <| qt <| fB H
end
def AP:bR:=gC [0,1,2,3,4,5,7,8,9,10,11,12,14,24,53,54,55,56] [11,1000048] [262080,261696,253760,262079,261568,261574,260567,260567,258519,144855,13783,140759,144855,144855,261631,262079] [] [(8,[(12,none,1)])]
def bc.l0 (m:Nat)(x1:List Int)(x3:aI)(rec:Int→(List (Int × Int))→(List Int)→aI→aI→Option (Int × (List (Int × Int)) × aI))(v2:ai):Nat→(List Int)→Int→(List (Int × Int))→aI→Option ((List Int) × Int × (List (Int × Int)) × aI)
 | 0,_,_,_,_=>none
 | k+1,dI,x6,x7,x8=>if (decide (x6<(v2.args.length:Int)))=true then ((ix v2.args x6).bind fun v3=>(rec v3 x7 x1 x8 x3).bind fun x9=>(app 8 dI ([x9.1])).bind fun mr=>bc.l0 m x1 x3 rec v2 k mr (i64.wrap (x6+1)) x9.2.1 x9.2.2) else (some ((dI,x6,x7,x8)))
def bc.b (m:Nat)(rec:Int→(List (Int × Int))→(List Int)→aI→aI→Option (Int × (List (Int × Int)) × aI))(i0:Int)(x0:List (Int × Int))(x1:List Int)(x2:aI)(x3:aI):Option (Int × (List (Int × Int)) × aI):=(ix x1 i0).bind fun v0=>if ((nA x0 v0).2)=true then (some ((nA x0 v0).1,x0,x2)) else ((ix x1 i0).bind fun v1=>(ix x3.nodes i0).bind fun v2=>(app 56 x2.nodes [ai.mk v2.kind v2.int v2.label ([]:List Int)]).bind fun x5=>(bc.l0 m x1 x3 rec v2 m ([]:List Int) 0 (zz x0 v1 (x2.nodes.length:Int)) (aI.mk x5 x2.root)).bind fun bP=>match bP with | (H6,Eb,rT,Ec)=>(ix Ec.nodes (x2.nodes.length:Int)).bind fun v4=>some ((x2.nodes.length:Int),rT,(aI.mk (Ec.nodes.set (x2.nodes.length:Int).toNat (ai.mk v4.kind v4.int v4.label H6)) Ec.root)))
def bc.f (m:Nat):Nat→Int→(List (Int × Int))→(List Int)→aI→aI→Option (Int × (List (Int × Int)) × aI)
 | 0,_,_,_,_,_=>none
 | k+1,i0,x0,x1,x2,x3=>bc.b m (bc.f m k) i0 x0 x1 x2 x3
def bc.fin (L:Mem)(dD:Nat)(dT:Nat)(dE:Nat)(di:Nat)(eP:Nat)(fm:List Nat)(dJ:Nat)(dy:Nat)(i0:Int)(x0:List (Int × Int))(x1:List Int)(x2:aI)(x3:aI)(r:Int × (List (Int × Int)) × aI)(s:St):Prop:=∃(nt:Nat) (iX:List Nat),aE Tryz.prog (s.open AP) Tryz.f97.results.toList=some (.i r.1)∧Has s.h ((dD,.ob [.mp dT])::(dT,.mp (nr r.2.1))::(dE,.ob [af.fz x1])::(di,.ob [.rs nt 0 r.2.2.nodes.length 4,.i r.2.2.root])::(nt,.sl r.2.2.nodes.length 4 (cj.l (aQ r.2.2.nodes iX)))::(dJ,.ob [ah.fz x3.nodes,.i x3.root])::(dy,.ob [.fn 97 [.ptr dD 0,.ptr dE 0,.ptr di 0,.ptr dJ 0,.ptr dy 0]])::(dd r.2.2.nodes iX++L))
def RM (cf:CallF)(m:Nat)(kk:Nat):Prop:=∀(i0:Int) (x0:List (Int × Int)) (x1:List Int) (x2:aI) (x3:aI) (r:Int × (List (Int × Int)) × aI),bc.f m kk i0 x0 x1 x2 x3=some r→∀h L (dD:Nat) (dT:Nat) (dE:Nat) (di:Nat) (eP:Nat) (fm:List Nat) (dJ:Nat) (dy:Nat),Has h ((dD,.ob [.mp dT])::(dT,.mp (nr x0))::(dE,.ob [af.fz x1])::(di,.ob [.rs eP 0 x2.nodes.length 4,.i x2.root])::(eP,.sl x2.nodes.length 4 (cj.l (aQ x2.nodes fm)))::(dJ,.ob [ah.fz x3.nodes,.i x3.root])::(dy,.ob [.fn 97 [.ptr dD 0,.ptr dE 0,.ptr di 0,.ptr dJ 0,.ptr dy 0]])::(dd x2.nodes fm++L))→∀xs,xs.map aN=[.i i0,.ptr dD 0,.ptr dE 0,.ptr di 0,.ptr dJ 0,.ptr dy 0]→∃(nt:Nat) (iX:List Nat) (h':AHeap),cf 97 xs h=some (.i r.1,h')∧Has h' ((dD,.ob [.mp dT])::(dT,.mp (nr r.2.1))::(dE,.ob [af.fz x1])::(di,.ob [.rs nt 0 r.2.2.nodes.length 4,.i r.2.2.root])::(nt,.sl r.2.2.nodes.length 4 (cj.l (aQ r.2.2.nodes iX)))::(dJ,.ob [ah.fz x3.nodes,.i x3.root])::(dy,.ob [.fn 97 [.ptr dD 0,.ptr dE 0,.ptr di 0,.ptr dJ 0,.ptr dy 0]])::(dd r.2.2.nodes iX++L))
section
variable {cf:CallF}{m:Nat}
theorem bc.cb (L:Mem)(dD:Nat)(dT:Nat)(dE:Nat)(di:Nat)(eP:Nat)(fm:List Nat)(dJ:Nat)(dy:Nat)(i0:Int)(x0:List (Int × Int))(x1:List Int)(x2:aI)(x3:aI)(v2:ai)  {kk:Nat}(H7:RM cf m kk)  : cY Tryz.prog cf AP m (sub [1,1,1,1,1,1,1,0,1,0,0] (bN Tryz.f97)) (fun k (σ:(List Int) × Int × (List (Int × Int)) × aI)=>bc.l0 m x1 x3 (bc.f m kk) v2 k σ.1 σ.2.1 σ.2.2.1 σ.2.2.2) (fun σ s=>match σ with | (dI,x6,x7,x8)=>∃cr dY yP h3,s=⟨nU (.ptr di 0 :: .any :: .ptr dy 0::nU [.i (x2.nodes.length:Int),.any,.rs cr 0 dI.length 1,.any,.any,af.fz v2.args,.i (v2.args.length:Int),.i x6,.any]),[none,none],h3⟩∧Has h3 ((cr,.sl dI.length 1 (af.l dI))::(dY,.sl x8.nodes.length 4 (cj.l (aQ x8.nodes yP)))::(dD,.ob [.mp dT])::(dT,.mp (nr x7))::(dE,.ob [af.fz x1])::(di,.ob [.rs dY 0 x8.nodes.length 4,.i x8.root])::(dJ,.ob [ah.fz x3.nodes,.i x3.root])::(dy,.ob [.fn 97 [.ptr dD 0,.ptr dE 0,.ptr di 0,.ptr dJ 0,.ptr dy 0]])::(dd x8.nodes yP++L))) (fun out e s=>(e = .exit 0∧∃dI x6 x7 x8,(dI,x6,x7,x8)=out∧∃Nj CG Tw Tz TA cr dY yP h3,s=⟨nU (.ptr di 0 :: .any::Nj::nU [.i (x2.nodes.length:Int),.any,.rs cr 0 dI.length 1,.any,.any,CG,Tw,Tz,TA]),[none,none],h3⟩∧Has h3 ((cr,.sl dI.length 1 (af.l dI))::(dY,.sl x8.nodes.length 4 (cj.l (aQ x8.nodes yP)))::(dD,.ob [.mp dT])::(dT,.mp (nr x7))::(dE,.ob [af.fz x1])::(di,.ob [.rs dY 0 x8.nodes.length 4,.i x8.root])::(dJ,.ob [ah.fz x3.nodes,.i x3.root])::(dy,.ob [.fn 97 [.ptr dD 0,.ptr dE 0,.ptr di 0,.ptr dJ 0,.ptr dy 0]])::(dd x8.nodes yP++L)))):=by
 refine ln (fun _=>rfl) ?_
 rintro k ⟨dI,x6,x7,x8⟩ s out ⟨cr,dY,yP,h3,rfl,o5⟩ H
 have H:bc.l0 m x1 x3 (bc.f m kk) v2 (k+1) dI x6 x7 x8=some out:=H
 refine q1 <| qq <| qc H (fun c1 H=>?_) (fun c1 H=>?_)
 ·refine qk <| qq <| qb 1 <| qq ?_
  obtain⟨v3,e7,H⟩:=aW H
  refine qr [.v 0 (eK (k:=.i64) (E:=af) (l:=v2.args) gj e7),.v 1 (gK  (E:=af) (l:=v2.args) h3 A3 e7 rfl)] ?_
  obtain⟨x9,e8,H⟩:=aW H
  obtain⟨fk,Nl,h4,e9,o6⟩:=H7 _ _ _ _ _ _ e8 h3 _ _ _ _ _ _ yP _ _ ((Has.jX (pre:=[(dD,.ob [.mp dT]),(dT,.mp (nr x7)),(dE,.ob [af.fz x1]),(di,.ob [.rs dY 0 x8.nodes.length 4,.i x8.root]),(dY,.sl x8.nodes.length 4 (cj.l (aQ x8.nodes yP))),(dJ,.ob [ah.fz x3.nodes,.i x3.root]),(dy,.ob [.fn 97 [.ptr dD 0,.ptr dE 0,.ptr di 0,.ptr dJ 0,.ptr dy 0]])]) (mid:=[(cr,.sl dI.length 1 (af.l dI))]) (fe (fe (fe (fe (fe (fe (fe (fe o5 0) 7) 7) 3) 7) 7) 7) 7)))  [.i v3,.ptr dD 0,.ptr dE 0,.ptr di 0,.ptr dJ 0,.ptr dy 0] cq
  have o7:=Has.jX (pre:=[(dD,.ob [.mp dT]),(dT,.mp (nr x9.2.1)),(dE,.ob [af.fz x1]),(di,.ob [.rs fk 0 x9.2.2.nodes.length 4,.i x9.2.2.root]),(fk,.sl x9.2.2.nodes.length 4 (cj.l (aQ x9.2.2.nodes Nl))),(dJ,.ob [ah.fz x3.nodes,.i x3.root]),(dy,.ob [.fn 97 [.ptr dD 0,.ptr dE 0,.ptr di 0,.ptr dJ 0,.ptr dy 0]])]) (N:=[(cr,.sl dI.length 1 (af.l dI))]) (mid:=dd x9.2.2.nodes Nl) o6
  obtain⟨mr,sL,H⟩:=aW H
  obtain⟨fR,h5,vg,o8⟩:=ju (P:=Tryz.prog) (E:=af) (l:=dI) (q:=7) (t2:=22) (x:=.fz [.i x9.1] 1 true) (l2:=([x9.1])) gj o7 rfl kr rfl sL
  exact qr [.v 1 (show bw Tryz.prog h3 94 (.ptr dy 0)=some (.fn 97 [.ptr dD 0,.ptr dE 0,.ptr di 0,.ptr dJ 0,.ptr dy 0]) from b6 (q:=7) (cs:=[.fn 97 [.ptr dD 0,.ptr dE 0,.ptr di 0,.ptr dJ 0,.ptr dy 0]]) o5 rfl kr),.a 3 e9,.a 5 vg] <| q0 <| ⟨(mr,i64.wrap (x6+1),x9.2.1,x9.2.2),⟨fR,fk,Nl,h5,kr,(fe (fe (fe (fe (fe (fe (fe (fe o8 6) 6) 5) 5) 5) 5) 6) 7)⟩,H⟩
 ·exact qx 0 <| ⟨rfl,dI,x6,x7,x8,oi H,.ptr dy 0,af.fz v2.args,.i (v2.args.length:Int),.i x6,.bool (decide (x6<(v2.args.length:Int))),cr,dY,yP,h3,kr,o5⟩
theorem qN {aS:FuncId→bR}(ha:aS 97=AP)  (i0:Int)(x0:List (Int × Int))(x1:List Int)(x2:aI)(x3:aI)(h:AHeap)(L:Mem)(dD:Nat)(dT:Nat)(dE:Nat)(di:Nat)(eP:Nat)(fm:List Nat)(dJ:Nat)(dy:Nat)  {kk:Nat}(H7:RM cf m kk)(o:Has h ((dD,.ob [.mp dT])::(dT,.mp (nr x0))::(dE,.ob [af.fz x1])::(di,.ob [.rs eP 0 x2.nodes.length 4,.i x2.root])::(eP,.sl x2.nodes.length 4 (cj.l (aQ x2.nodes fm)))::(dJ,.ob [ah.fz x3.nodes,.i x3.root])::(dy,.ob [.fn 97 [.ptr dD 0,.ptr dE 0,.ptr di 0,.ptr dJ 0,.ptr dy 0]])::(dd x2.nodes fm++L))){out:Int × (List (Int × Int)) × aI}(H:bc.f m (kk+1) i0 x0 x1 x2 x3=some out) :
  ∃r h',a6 Tryz.prog aS cf m 97 [.i i0,.ptr dD 0,.ptr dE 0,.ptr di 0,.ptr dJ 0,.ptr dy 0] h=some (r,h')∧∃(nt:Nat) (iX:List Nat),r = .i out.1∧Has h' ((dD,.ob [.mp dT])::(dT,.mp (nr out.2.1))::(dE,.ob [af.fz x1])::(di,.ob [.rs nt 0 out.2.2.nodes.length 4,.i out.2.2.root])::(nt,.sl out.2.2.nodes.length 4 (cj.l (aQ out.2.2.nodes iX)))::(dJ,.ob [ah.fz x3.nodes,.i x3.root])::(dy,.ob [.fn 97 [.ptr dD 0,.ptr dE 0,.ptr di 0,.ptr dJ 0,.ptr dy 0]])::(dd out.2.2.nodes iX++L)):=by
 refine aq (fn:=Tryz.f97) ha Tryz.func97 kr kr ?_
 refine aC (Q:=fun s=>bc.fin L dD dT dE di eP fm dJ dy i0 x0 x1 x2 x3 out s) (fun _ _ ⟨h1,nt,iX,h2,h3⟩=>⟨h1,_,h2,nt,iX,rfl,h3⟩) ?_
 have H:bc.b m (bc.f m kk) i0 x0 x1 x2 x3=some out:=H
 unfold bc.b at H
 show cZ _ cf AP m _ ⟨.i i0 :: .ptr dD 0 :: .ptr dE 0 :: .ptr di 0 :: .ptr dJ 0 :: .ptr dy 0::Ay [],[none,none],h⟩ _
 refine q1 <| qq <| qq ?_
 obtain⟨v0,e0,H⟩:=aW H
 refine qr [.v 0 (show bw Tryz.prog h 84 (.ptr dD 0)=some (.mp dT) from b6 (q:=0) (cs:=[.mp dT]) o rfl kr),.v 1 (show bw Tryz.prog h 22 (.ptr dE 0)=some (af.fz x1) from b6 (q:=2) (cs:=[af.fz x1]) o rfl kr),.v 3 (eK (k:=.i64) (E:=af) (l:=x1) gj e0),.v 4 (gK  (E:=af) (l:=x1) h A3 e0 rfl),.v 5 (show eZ Tryz.prog h 84 (.mp dT) (.i v0) true=some (.tup [.i ((nA x0 v0).1),.bool ((nA x0 v0).2)]) from (PC (q:=1) (l:=x0) (k:=v0) KH o rfl).1)] <| qq <| q0 <| qc H (fun c0 H=>?_) (fun c0 H=>?_)
 ·obtain rfl:=oi H
  exact q1 <| qt <| ⟨.inl rfl,⟨eP,fm,kr,he o⟩⟩
 ·refine qk <| qq <| qr [.v 1 (show bw Tryz.prog h 23 (.ptr di 0)=some (.rs eP 0 x2.nodes.length 4) from b6 (q:=3) (cs:=[.rs eP 0 x2.nodes.length 4,.i x2.root]) o rfl kr)] <| qq ?_
  obtain⟨v1,e1,H⟩:=aW H
  obtain⟨h0,e2,o0⟩:=PD (q:=1) (l:=x0) (k:=v1) (v:=(x2.nodes.length:Int)) KH o rfl
  refine qr [.v 0 (show bw Tryz.prog h 84 (.ptr dD 0)=some (.mp dT) from b6 (q:=0) (cs:=[.mp dT]) o rfl kr),.v 1 (show bw Tryz.prog h 22 (.ptr dE 0)=some (af.fz x1) from b6 (q:=2) (cs:=[af.fz x1]) o rfl kr),.v 3 (eK (k:=.i64) (E:=af) (l:=x1) gj e1),.v 4 (gK  (E:=af) (l:=x1) h A3 e1 rfl),.w 6 e2] <| qq ?_
  obtain⟨v2,e3,H⟩:=aW H
  refine qr [.v 1 (show bw Tryz.prog h0 23 (.ptr dJ 0)=some (ah.fz x3.nodes) from b6 (q:=5) (cs:=[ah.fz x3.nodes,.i x3.root]) o0 rfl kr),.v 3 (eK (k:=.i64) (E:=ah) (l:=x3.nodes) tS e3),.v 4 (ke  (E:=ah) (l:=x3.nodes) h0 BM BN e3)] <| qq ?_
  have o1:Has h0 (((0),.sl (([]:List Int).length) 1 (af.l ([]:List Int)))::(dD,.ob [.mp dT])::(dT,.mp (nr (zz x0 v1 (x2.nodes.length:Int))))::(dE,.ob [af.fz x1])::(di,.ob [.rs eP 0 x2.nodes.length 4,.i x2.root])::(eP,.sl x2.nodes.length 4 (cj.l (aQ x2.nodes fm)))::(dJ,.ob [ah.fz x3.nodes,.i x3.root])::(dy,.ob [.fn 97 [.ptr dD 0,.ptr dE 0,.ptr di 0,.ptr dJ 0,.ptr dy 0]])::(dd x2.nodes fm++L)):=Has.nil o0 1
  obtain⟨x5,e4,H⟩:=aW H
  obtain⟨aM,dO,h1,e5,o2⟩:=MY (P:=Tryz.prog) (t2:=23) (pre:=[(dD,.ob [.mp dT]),(dT,.mp (nr (zz x0 v1 (x2.nodes.length:Int)))),(dE,.ob [af.fz x1]),(di,.ob [.rs eP 0 x2.nodes.length 4,.i x2.root]),(dJ,.ob [ah.fz x3.nodes,.i x3.root]),(dy,.ob [.fn 97 [.ptr dD 0,.ptr dE 0,.ptr di 0,.ptr dJ 0,.ptr dy 0]])]) (ns:=x2.nodes) (ids:=fm) (kind:=v2.kind) (int:=v2.int) (label:=v2.label) (args:=([]:List Int)) (x:=.fz [.i v2.kind,.i v2.int,.str v2.label,.rs (0) 0 (([]:List Int).length) 1] 1 true) tS (fe (fe (fe (fe (fe (fe (fe (fe o1 7) 7) 6) 6) 6) 6) 6) 7) kr rfl e4
  obtain⟨h2,e6,o3⟩:=pw (P:=Tryz.prog) (t:=23) (off:=0) (q:=4) (cs:=[.rs eP 0 x2.nodes.length 4,.i x2.root]) (fQ:=[.rs aM 0 x5.length 4,.i x2.root]) (x:=.rs aM 0 x5.length 4) o2 rfl kr
  refine qr [.v 1 (show bw Tryz.prog h0 23 (.ptr di 0)=some (.rs eP 0 x2.nodes.length 4) from b6 (q:=3) (cs:=[.rs eP 0 x2.nodes.length 4,.i x2.root]) o0 rfl kr),.a 10 e5,.w 12 e6] <| qq <| q0 ?_
  have o4:Has h2 ((((0)),.sl (([]:List Int).length) 1 (af.l ([]:List Int)))::(aM,.sl x5.length 4 (cj.l (aQ x5 dO)))::(dD,.ob [.mp dT])::(dT,.mp (nr (zz x0 v1 (x2.nodes.length:Int))))::(dE,.ob [af.fz x1])::(di,.ob [.rs aM 0 x5.length 4,.i x2.root])::(dJ,.ob [ah.fz x3.nodes,.i x3.root])::(dy,.ob [.fn 97 [.ptr dD 0,.ptr dE 0,.ptr di 0,.ptr dJ 0,.ptr dy 0]])::(dd x5 dO++L)):=Has.nil o3 1
  refine qq <| qq <| q0 <| qb 0 ?_
  obtain⟨bP,yQ,H⟩:=aW H
  refine ql (bc.cb L dD dT dE di eP fm dJ dy i0 x0 x1 x2 x3 v2  H7  (([]:List Int),0,zz x0 v1 (x2.nodes.length:Int),(aI.mk x5 x2.root)) _ _ ⟨((0)),aM,dO,h2,kr,o4⟩ yQ) ?_
  rintro e s ⟨rfl,H6,Eb,rT,Ec,rfl,g0,g1,g2,g3,g4,fj,gk,P3,h6,rfl,o9⟩
  try dsimp only at H
  refine qq ?_
  obtain⟨v4,wo,H⟩:=aW H
  obtain⟨h7,CH,BP⟩:=KG (P:=Tryz.prog) (tf:=22) (pre:=[(dD,.ob [.mp dT]),(dT,.mp (nr rT)),(dE,.ob [af.fz x1]),(di,.ob [.rs gk 0 Ec.nodes.length 4,.i Ec.root]),(dJ,.ob [ah.fz x3.nodes,.i x3.root]),(dy,.ob [.fn 97 [.ptr dD 0,.ptr dE 0,.ptr di 0,.ptr dJ 0,.ptr dy 0]])]) (args:=H6) (fe (fe (fe (fe (fe (fe (fe (fe o9 7) 7) 7) 7) 7) 7) 6) 7) Yv wo
  obtain rfl:=oi H
  exact qr [.v 1 (show bw Tryz.prog h6 23 (.ptr di 0)=some (.rs gk 0 Ec.nodes.length 4) from b6 (q:=5) (cs:=[.rs gk 0 Ec.nodes.length 4,.i Ec.root]) o9 rfl kr),.v 4 (be (k:=.i64) (E:=cj) (l:=(aQ Ec.nodes P3)) (q:=1) tS o9 rfl (lJ wo)),.w 6 CH] <| qq <| q0 <| qt <| ⟨.inl rfl,⟨gk,(CE Ec.nodes P3 (x2.nodes.length:Int) fj),kr,he (AL (fe (fe (fe (fe (fe (fe (fe BP 6) 6) 2) 6) 6) 6) 6))⟩⟩
end
def AQ:bR:=gC [0,1,4,5,7,8,9,16] [] [252,204,140,196,68,251,204,251] [] []
def cP.l0 (m:Nat)(s0:List Int)(f0:Int→Option (Bool)):Nat→Int→Option (Sum Int (Int))
 | 0,_=>none
 | k+1,x0=>if (decide (x0<(s0.length:Int)))=true then ((ix s0 x0).bind fun v0=>(f0 v0).bind fun r0=>if r0=true then (some (.inl x0)) else (cP.l0 m s0 f0 k (i64.wrap (x0+1)))) else (some (.inr x0))
def cP.f (m:Nat)(s0:List Int)(f0:Int→Option (Bool)):Option (Int):=(cP.l0 m s0 f0 m 0).bind fun bP=>match bP with | .inl r1=>some r1 | .inr x1=>some (-1:Int)
def cP.fin (L:Mem)(r:Int)(s:St):Prop:=∃av,aE Tryz.prog (s.open AQ) Tryz.f98.results.toList=some av∧eR s.h av (.i r)
def TB (cf:CallF)(m:Nat):Prop:=∀(s0:List Int) (f0:Int→Option (Bool)) (r:Int),cP.f m s0 f0=some r→∀(fA:FuncId) (aU:List AV),(∀(h:AHeap) (xs:List AV) (a0:Int) r,f0 a0=some r→aP bH h xs ([.i a0]++aU)→cf fA xs h=some (.bool r,h))→(∀h,aP cC h aU aU)→∀h xs,aP bH h xs [af.fz s0,.fn fA aU]→cf 98 xs h=some (.i r,h)
section
variable {cf:CallF}{m:Nat}
theorem cP.cb (L:Mem)(fA:FuncId)(aU:List AV)(s0:List Int)(f0:Int→Option (Bool))  (iF:∀(h:AHeap) (xs:List AV) (a0:Int) r,f0 a0=some r→aP bH h xs ([.i a0]++aU)→cf fA xs h=some (.bool r,h))(iG:∀h,aP cC h aU aU)  : cY Tryz.prog cf AQ m (sub [1,0,1,0,0] (bN Tryz.f98)) (fun k (σ:Int)=>cP.l0 m s0 f0 k σ) (fun σ s=>match σ with | x0=>∃h0,s=⟨[af.fz s0,.fn fA aU,.any,.any,.i (s0.length:Int),.i x0,.any,.any],[],h0⟩∧Has h0 (L)) (fun out e s=>(e = .exit 0∧∃x0,.inr x0=out∧∃nC vd H2 CF FV h0,s=⟨[nC,vd,.any,.any,H2,CF,FV,.any],[],h0⟩∧Has h0 (L))∨(e = .ret∧∃r,.inl r=out∧cP.fin L r s)):=by
 refine ln (fun _=>rfl) ?_
 rintro k x0 s out ⟨h0,rfl,o0⟩ H
 have H:cP.l0 m s0 f0 (k+1) x0=some out:=H
 refine q1 <| qq <| qc H (fun c0 H=>?_) (fun c0 H=>?_)
 ·refine qk <| qq <| qb 1 <| qq <| q0 <| qq ?_
  obtain⟨v0,e0,H⟩:=aW H
  obtain⟨r0,e1,H⟩:=aW H
  refine qr [.v 3 (eK (k:=.i64) (E:=af) (l:=s0) gj e0),.v 4 (gK  (E:=af) (l:=s0) h0 A3 e0 rfl),.a 5 (iF _ _ _ _ e1 (KE (ak (bO) (aG)) (iG h0)))] <| qc H (fun c1 H=>?_) (fun c1 H=>?_)
  ·exact q1 <| qt <| Or.inr (⟨rfl,_,oi H,wI (.i x0) h0 (tP (mU))⟩)
  ·exact qk <| q0 <| ⟨i64.wrap (x0+1),⟨h0,kr,o0⟩,H⟩
 ·exact qx 0 <| Or.inl (⟨rfl,x0,oi H,af.fz s0,.fn fA aU,.i (s0.length:Int),.i x0,.bool (decide (x0<(s0.length:Int))),h0,kr,o0⟩)
theorem yR {aS:FuncId→bR}(ha:aS 98=AQ)  (s0:List Int)(f0:Int→Option (Bool))(h:AHeap)(L:Mem)(fA:FuncId)(aU:List AV)  (iF:∀(h:AHeap) (xs:List AV) (a0:Int) r,f0 a0=some r→aP bH h xs ([.i a0]++aU)→cf fA xs h=some (.bool r,h))(iG:∀h,aP cC h aU aU)(o:Has h (L)){out:Int}(H:cP.f m s0 f0=some out) :
  ∃r h',a6 Tryz.prog aS cf m 98 [af.fz s0,.fn fA aU] h=some (r,h')∧eR h' r (.i out):=by
 refine aq (fn:=Tryz.f98) ha Tryz.func98 kr kr ?_
 refine aC (Q:=fun s=>cP.fin L out s) (fun _ _ h=>h) ?_
 have H:_=some out:=H
 unfold cP.f at H
 show cZ _ cf AQ m _ ⟨af.fz s0 :: .fn fA aU::zA [],[],h⟩ _
 refine q1 <| qq <| qq <| q0 <| qb 0 ?_
 obtain⟨bP,e2,H⟩:=aW H
 refine ql (cP.cb L fA aU s0 f0  iF iG  0 _ _ ⟨h,kr,o⟩ e2) ?_
 rintro e s (⟨rfl,x1,rfl,g0,g1,g2,g3,g4,h1,rfl,o1⟩| ⟨rfl,r1,rfl,rS⟩)
 ·try dsimp only at H
  exact q1 <| qt <| fI H
 ·try dsimp only at H
  obtain rfl:=oi H
  exact⟨.inl rfl,rS⟩
end
def vh:bR:=gC [0,1,2,6,7,8,9,14,15,16,17,18,30] [8,9] [8184,8056,8183,6393,4345,6345,6297,2297,8183,6393,8183] [] []
def aD.l0 (m:Nat)(s0:List ai)(s1:List ai)(eq0:ai→ai→Option (Bool)):Nat→Int→Option (Sum Bool (Int))
 | 0,_=>none
 | k+1,x0=>if (decide (x0<(s0.length:Int)))=true then ((ix s0 x0).bind fun v0=>(ix s1 x0).bind fun v1=>(eq0 v0 v1).bind fun r0=>if (!r0)=true then (some (.inl false)) else (aD.l0 m s0 s1 eq0 k (i64.wrap (x0+1)))) else (some (.inr x0))
def aD.f (m:Nat)(s0:List ai)(s1:List ai)(eq0:ai→ai→Option (Bool)):Option (Bool):=if (!((s0.length:Int)==(s1.length:Int)))=true then (some false) else ((aD.l0 m s0 s1 eq0 m 0).bind fun bP=>match bP with | .inl r1=>some r1 | .inr x1=>some true)
def aD.fin (L:Mem)(r:Bool)(s:St):Prop:=∃av,aE Tryz.prog (s.open vh) Tryz.f101.results.toList=some av∧eR s.h av (.bool r)
def P4 (cf:CallF)(m:Nat):Prop:=∀(s0:List ai) (s1:List ai) (eq0:ai→ai→Option (Bool)) (r:Bool),aD.f m s0 s1 eq0=some r→∀(jK:FuncId) (bW:List AV),(∀(h:AHeap) (xs:List AV) (a0:ai) (a1:ai) r,eq0 a0 a1=some r→aP bH h xs ([.agg [.i a0.kind,.i a0.int,.str a0.label,af.fz a0.args],.agg [.i a1.kind,.i a1.int,.str a1.label,af.fz a1.args]]++bW)→cf jK xs h=some (.bool r,h))→(∀h,aP cC h bW bW)→∀h xs,aP bH h xs [ah.fz s0,ah.fz s1,.fn jK bW]→cf 101 xs h=some (.bool r,h)
section
variable {cf:CallF}{m:Nat}
theorem aD.cb (L:Mem)(jK:FuncId)(bW:List AV)(s0:List ai)(s1:List ai)(eq0:ai→ai→Option (Bool))  (nG:∀(h:AHeap) (xs:List AV) (a0:ai) (a1:ai) r,eq0 a0 a1=some r→aP bH h xs ([.agg [.i a0.kind,.i a0.int,.str a0.label,af.fz a0.args],.agg [.i a1.kind,.i a1.int,.str a1.label,af.fz a1.args]]++bW)→cf jK xs h=some (.bool r,h))(nH:∀h,aP cC h bW bW)  : cY Tryz.prog cf vh m (sub [1,1,0,1,0,0] (bN Tryz.f101)) (fun k (σ:Int)=>aD.l0 m s0 s1 eq0 k σ) (fun σ s=>match σ with | x0=>∃h0,s=⟨.any::ah.fz s1 :: .fn jK bW::Ax [ah.fz s0,.i (s0.length:Int),.i x0,.any,.any],[none,none],h0⟩∧Has h0 (L)) (fun out e s=>(e = .exit 0∧∃x0,.inr x0=out∧∃vd KI H8 TC H9 TD h0,s=⟨.any::vd::KI::Ax [H8,TC,H9,TD,.any],[none,none],h0⟩∧Has h0 (L))∨(e = .ret∧∃r,.inl r=out∧aD.fin L r s)):=by
 refine ln (fun _=>rfl) ?_
 rintro k x0 s out ⟨h0,rfl,o0⟩ H
 have H:aD.l0 m s0 s1 eq0 (k+1) x0=some out:=H
 refine q1 <| qq <| qc H (fun c1 H=>?_) (fun c1 H=>?_)
 ·refine qk <| qq <| qb 1 <| qq ?_
  obtain⟨v0,e0,H⟩:=aW H
  refine qr [.v 1 (eK (k:=.i64) (E:=ah) (l:=s0) tS e0),.v 2 (ke  (E:=ah) (l:=s0) h0 BM BN e0)] <| qq ?_
  obtain⟨v1,e1,H⟩:=aW H
  refine qr [.v 2 (eK (k:=.i64) (E:=ah) (l:=s1) tS e1),.v 3 (ke  (E:=ah) (l:=s1) h0 BM BN e1)] <| qq ?_
  obtain⟨r0,e2,H⟩:=aW H
  refine qr [.a 3 (nG _ _ _ _ _ e2 (KE (ak (kg (ak (bO) (ak (bO) (ak (kY) (ak (km (E:=af)) (aG)))))) (ak (kg (ak (bO) (ak (bO) (ak (kY) (ak (km (E:=af)) (aG)))))) (aG))) (nH h0)))] <| qc H (fun c2 H=>?_) (fun c2 H=>?_)
  ·exact q1 <| qt <| Or.inr (⟨rfl,_,oi H,wI (.bool false) h0 (tP (fU))⟩)
  ·exact qk <| q0 <| ⟨i64.wrap (x0+1),⟨h0,kr,o0⟩,H⟩
 ·exact qx 0 <| Or.inl (⟨rfl,x0,oi H,ah.fz s1,.fn jK bW,ah.fz s0,.i (s0.length:Int),.i x0,.bool (decide (x0<(s0.length:Int))),h0,kr,o0⟩)
theorem jL {aS:FuncId→bR}(ha:aS 101=vh)  (s0:List ai)(s1:List ai)(eq0:ai→ai→Option (Bool))(h:AHeap)(L:Mem)(jK:FuncId)(bW:List AV)  (nG:∀(h:AHeap) (xs:List AV) (a0:ai) (a1:ai) r,eq0 a0 a1=some r→aP bH h xs ([.agg [.i a0.kind,.i a0.int,.str a0.label,af.fz a0.args],.agg [.i a1.kind,.i a1.int,.str a1.label,af.fz a1.args]]++bW)→cf jK xs h=some (.bool r,h))(nH:∀h,aP cC h bW bW)(o:Has h (L)){out:Bool}(H:aD.f m s0 s1 eq0=some out) :
  ∃r h',a6 Tryz.prog aS cf m 101 [ah.fz s0,ah.fz s1,.fn jK bW] h=some (r,h')∧eR h' r (.bool out):=by
 refine aq (fn:=Tryz.f101) ha Tryz.func101 kr kr ?_
 refine aC (Q:=fun s=>aD.fin L out s) (fun _ _ h=>h) ?_
 have H:_=some out:=H
 unfold aD.f at H
 show cZ _ cf vh m _ ⟨ah.fz s0::ah.fz s1 :: .fn jK bW::Kr [],[none,none],h⟩ _
 refine q1 <| qq <| qq <| q0 <| qc H (fun c0 H=>?_) (fun c0 H=>?_)
 ·exact q1 <| qt <| fB H
 ·refine qk <| qq <| qq <| q0 <| qb 0 ?_
  obtain⟨bP,e3,H⟩:=aW H
  refine ql (aD.cb L jK bW s0 s1 eq0  nG nH  0 _ _ ⟨h,kr,o⟩ e3) ?_
  rintro e s (⟨rfl,x1,rfl,g0,g1,g2,g3,g4,g5,h1,rfl,o1⟩| ⟨rfl,r1,rfl,rS⟩)
  ·try dsimp only at H
   exact q1 <| qt <| fB H
  ·try dsimp only at H
   obtain rfl:=oi H
   exact⟨.inl rfl,rS⟩
end
def vi:bR:=gC [0,1,4,5,10,12,13,14,24] [] [508,492,507,412,284,404,156,507,412,507] [] []
def bE.l0 (m:Nat)(s0:List Int)(s1:List Int):Nat→Int→Option (Sum Bool (Int))
 | 0,_=>none
 | k+1,x0=>if (decide (x0<(s0.length:Int)))=true then ((ix s0 x0).bind fun v0=>(ix s1 x0).bind fun v1=>if (!(v0==v1))=true then (some (.inl false)) else (bE.l0 m s0 s1 k (i64.wrap (x0+1)))) else (some (.inr x0))
def bE.f (m:Nat)(s0:List Int)(s1:List Int):Option (Bool):=if (!((s0.length:Int)==(s1.length:Int)))=true then (some false) else ((bE.l0 m s0 s1 m 0).bind fun bP=>match bP with | .inl r0=>some r0 | .inr x1=>some true)
def bE.fin (L:Mem)(r:Bool)(s:St):Prop:=∃av,aE Tryz.prog (s.open vi) Tryz.f104.results.toList=some av∧eR s.h av (.bool r)
def P5 (cf:CallF)(m:Nat):Prop:=∀(s0:List Int) (s1:List Int) (r:Bool),bE.f m s0 s1=some r→∀h xs,aP bH h xs [af.fz s0,af.fz s1]→cf 104 xs h=some (.bool r,h)
section
variable {cf:CallF}{m:Nat}
theorem bE.cb (L:Mem)(s0:List Int)(s1:List Int)   : cY Tryz.prog cf vi m (sub [1,1,0,1,0,0] (bN Tryz.f104)) (fun k (σ:Int)=>bE.l0 m s0 s1 k σ) (fun σ s=>match σ with | x0=>∃h0,s=⟨af.fz s0::af.fz s1::nU [.i (s0.length:Int),.i x0,.any,.any],[],h0⟩∧Has h0 (L)) (fun out e s=>(e = .exit 0∧∃x0,.inr x0=out∧∃nC vd Ia vf yO h0,s=⟨nC::vd::nU [Ia,vf,yO,.any],[],h0⟩∧Has h0 (L))∨(e = .ret∧∃r,.inl r=out∧bE.fin L r s)):=by
 refine ln (fun _=>rfl) ?_
 rintro k x0 s out ⟨h0,rfl,o0⟩ H
 have H:bE.l0 m s0 s1 (k+1) x0=some out:=H
 refine q1 <| qq <| qc H (fun c1 H=>?_) (fun c1 H=>?_)
 ·refine qk <| qq <| qb 1 <| qq <| q0 <| qq ?_
  obtain⟨v0,e0,H⟩:=aW H
  obtain⟨v1,e1,H⟩:=aW H
  refine qr [.v 2 (eK (k:=.i64) (E:=af) (l:=s0) gj e0),.v 3 (gK  (E:=af) (l:=s0) h0 A3 e0 rfl),.v 6 (eK (k:=.i64) (E:=af) (l:=s1) gj e1),.v 7 (gK  (E:=af) (l:=s1) h0 A3 e1 rfl)] <| qc H (fun c2 H=>?_) (fun c2 H=>?_)
  ·exact q1 <| qt <| Or.inr (⟨rfl,_,oi H,wI (.bool false) h0 (tP (fU))⟩)
  ·exact qk <| q0 <| ⟨i64.wrap (x0+1),⟨h0,kr,o0⟩,H⟩
 ·exact qx 0 <| Or.inl (⟨rfl,x0,oi H,af.fz s0,af.fz s1,.i (s0.length:Int),.i x0,.bool (decide (x0<(s0.length:Int))),h0,kr,o0⟩)
theorem pQ {aS:FuncId→bR}(ha:aS 104=vi)  (s0:List Int)(s1:List Int)(h:AHeap)(L:Mem)  (o:Has h (L)){out:Bool}(H:bE.f m s0 s1=some out) :
  ∃r h',a6 Tryz.prog aS cf m 104 [af.fz s0,af.fz s1] h=some (r,h')∧eR h' r (.bool out):=by
 refine aq (fn:=Tryz.f104) ha Tryz.func104 kr kr ?_
 refine aC (Q:=fun s=>bE.fin L out s) (fun _ _ h=>h) ?_
 have H:_=some out:=H
 unfold bE.f at H
 show cZ _ cf vi m _ ⟨af.fz s0::af.fz s1::JL [],[],h⟩ _
 refine q1 <| qq <| qq <| q0 <| qc H (fun c0 H=>?_) (fun c0 H=>?_)
 ·exact q1 <| qt <| fB H
 ·refine qk <| qq <| qq <| q0 <| qb 0 ?_
  obtain⟨bP,e2,H⟩:=aW H
  refine ql (bE.cb L s0 s1   0 _ _ ⟨h,kr,o⟩ e2) ?_
  rintro e s (⟨rfl,x1,rfl,g0,g1,g2,g3,g4,h1,rfl,o1⟩| ⟨rfl,r0,rfl,rS⟩)
  ·try dsimp only at H
   exact q1 <| qt <| fB H
  ·try dsimp only at H
   obtain rfl:=oi H
   exact⟨.inl rfl,rS⟩
end
def yS:bR:=gC [0,1,2,3,4] [2,3] [19,15] [] []
def fW.f (m:Nat)(a0:ai)(b0:ai):Option (Bool):=if (!(a0.kind==b0.kind))=true then (some true) else (if (!(a0.int==b0.int))=true then (some true) else (if (!(a0.label.data.toList==b0.label.data.toList))=true then (some true) else (some (!((a0.args.length:Int)==(b0.args.length:Int))))))
def fW.fin (L:Mem)(r:Bool)(s:St):Prop:=∃av,aE Tryz.prog (s.open yS) Tryz.f105.results.toList=some av∧eR s.h av (.bool r)
def Nn (cf:CallF)(m:Nat):Prop:=∀(a0:ai) (b0:ai) (r:Bool),fW.f m a0 b0=some r→∀h xs,aP bH h xs [.agg [.i a0.kind,.i a0.int,.str a0.label,af.fz a0.args],.agg [.i b0.kind,.i b0.int,.str b0.label,af.fz b0.args]]→cf 105 xs h=some (.bool r,h)
section
variable {cf:CallF}{m:Nat}
theorem qO {aS:FuncId→bR}(ha:aS 105=yS)  (a0:ai)(b0:ai)(h:AHeap)(L:Mem)  (o:Has h (L)){out:Bool}(H:fW.f m a0 b0=some out) :
  ∃r h',a6 Tryz.prog aS cf m 105 [.agg [.i a0.kind,.i a0.int,.str a0.label,af.fz a0.args],.agg [.i b0.kind,.i b0.int,.str b0.label,af.fz b0.args]] h=some (r,h')∧eR h' r (.bool out):=by
 refine aq (fn:=Tryz.f105) ha Tryz.func105 kr kr ?_
 refine aC (Q:=fun s=>fW.fin L out s) (fun _ _ h=>h) ?_
 have H:_=some out:=H
 unfold fW.f at H
 show cZ _ cf yS m _ ⟨.agg [.i a0.kind,.i a0.int,.str a0.label,af.fz a0.args] :: .agg [.i b0.kind,.i b0.int,.str b0.label,af.fz b0.args]::nU [],[none,none],h⟩ _
 refine q1 <| qq ?_
 rcases du H with⟨c0,H⟩| ⟨c0,H⟩
 ·exact qr [.b 5 c0] <| qt <| fB H
 ·rcases du H with⟨c1,H⟩| ⟨c1,H⟩
  ·exact qr [.b 5 c0,.b 12 c1] <| qt <| fB H
  ·rcases du H with⟨c2,H⟩| ⟨c2,H⟩
   ·exact qr [.b 5 c0,.b 12 c1,.b 19 c2] <| qt <| fB H
   ·exact qr [.b 5 c0,.b 12 c1,.b 19 c2] <| qt <| fB H
end
def yT:bR:=gC [0,1,2,6,13,16,21] [] [120,104,88,120,56,120,125,119] [] []
def cG.f (m:Nat)(s0:ab)(a0:Int)(b0:Int):Option (Int × ab):=jn (fun (σ:Int × Int)=>match σ with | (a1,b1)=>(ix s0.ae a1).bind fun v0=>some (a1,(ab.mk s0.aj s0.aa (s0.ae.set a1.toNat b1)))) fun BO=>((b5.f m s0 a0).bind fun x0=>(b5.f m s0 b0).bind fun x1=>if (!(x0==x1))=true then ((b5.f m s0 b0).bind fun x2=>if x2=true then (BO (b0,a0)) else (BO (a0,b0))) else (if (decide (a0<b0))=true then (BO (b0,a0)) else (BO (a0,b0))))
def cG.fin (L:Mem)(ar:Nat)(an:Nat)(ao:Nat)(s0:ab)(a0:Int)(b0:Int)(r:Int × ab)(s:St):Prop:=∃aA aB:Nat,aE Tryz.prog (s.open yT) Tryz.f106.results.toList=some (.i r.1)∧Has s.h ((ar,.ob [.bool r.2.aj,.rs aA 0 r.2.aa.length 4,.rs aB 0 r.2.ae.length 1])::(aA,.sl r.2.aa.length 4 (ah.l r.2.aa))::(aB,.sl r.2.ae.length 1 (af.l r.2.ae))::L)
def No (cf:CallF)(m:Nat):Prop:=∀(s0:ab) (a0:Int) (b0:Int) (r:Int × ab),cG.f m s0 a0 b0=some r→∀h L (ar:Nat) (an:Nat) (ao:Nat),Has h ((ar,.ob [.bool s0.aj,.rs an 0 s0.aa.length 4,.rs ao 0 s0.ae.length 1])::(an,.sl s0.aa.length 4 (ah.l s0.aa))::(ao,.sl s0.ae.length 1 (af.l s0.ae))::L)→∀xs,xs.map aN=[.ptr ar 0,.i a0,.i b0]→∃aA aB h',cf 106 xs h=some (.i r.1,h')∧Has h' ((ar,.ob [.bool r.2.aj,.rs aA 0 r.2.aa.length 4,.rs aB 0 r.2.ae.length 1])::(aA,.sl r.2.aa.length 4 (ah.l r.2.aa))::(aB,.sl r.2.ae.length 1 (af.l r.2.ae))::L)
section
variable {cf:CallF}{m:Nat}
theorem nI {aS:FuncId→bR}(ha:aS 106=yT)(CI:RL cf m)(s0:ab)(a0:Int)(b0:Int)(h:AHeap)(L:Mem)(ar:Nat)(an:Nat)(ao:Nat)  (o:Has h ((ar,.ob [.bool s0.aj,.rs an 0 s0.aa.length 4,.rs ao 0 s0.ae.length 1])::(an,.sl s0.aa.length 4 (ah.l s0.aa))::(ao,.sl s0.ae.length 1 (af.l s0.ae))::L)){out:Int × ab}(H:cG.f m s0 a0 b0=some out) :
  ∃r h',a6 Tryz.prog aS cf m 106 [.ptr ar 0,.i a0,.i b0] h=some (r,h')∧∃aA aB:Nat,r = .i out.1∧Has h' ((ar,.ob [.bool out.2.aj,.rs aA 0 out.2.aa.length 4,.rs aB 0 out.2.ae.length 1])::(aA,.sl out.2.aa.length 4 (ah.l out.2.aa))::(aB,.sl out.2.ae.length 1 (af.l out.2.ae))::L):=by
 refine aq (fn:=Tryz.f106) ha Tryz.func106 kr kr ?_
 refine aC (Q:=fun s=>cG.fin L ar an ao s0 a0 b0 out s) (fun _ _ ⟨h1,aA,aB,h2,h3⟩=>⟨h1,_,h2,aA,aB,rfl,h3⟩) ?_
 have H:_=some out:=H
 unfold cG.f at H
 show cZ _ cf yT m _ ⟨.ptr ar 0 :: .i a0 :: .i b0::rN [],[],h⟩ _
 refine q1 ?_
 obtain⟨BO,LU,H⟩:=qH H
 refine qj (S:=fun (σ:Int × Int) s=>match σ with | (a1,b1)=>∃(g0:AV) (g1:AV) (h0:AHeap),s=⟨[.ptr ar 0,.i a1,.i b1,.any,.any,g0,g1],[],h0⟩∧Has h0 ((ar,.ob [.bool s0.aj,.rs an 0 s0.aa.length 4,.rs ao 0 s0.ae.length 1])::(an,.sl s0.aa.length 4 (ah.l s0.aa))::(ao,.sl s0.ae.length 1 (af.l s0.ae))::L)) BO H ?_ ?_
 ·rintro⟨a1,b1⟩ s ⟨g0,g1,h0,rfl,o0⟩ H
  have H:=(LU _).symm.trans H
  try dsimp only at H
  refine qq ?_
  obtain⟨v0,e3,H⟩:=aW H
  obtain⟨h1,e4,o1⟩:=fN (P:=Tryz.prog) (tf:=3) (E:=af) (l:=s0.ae) (q:=2) (v:=b1) (x:=.i b1) o0 rfl Z3 e3 rfl rfl
  obtain rfl:=oi H
  exact qr [.v 3 (show bw Tryz.prog h0 22 (.ptr ar 2)=some (.rs ao 0 s0.ae.length 1) from b6 (q:=0) (cs:=[.bool s0.aj,.rs an 0 s0.aa.length 4,.rs ao 0 s0.ae.length 1]) o0 rfl kr),.v 6 (be (k:=.i64) (E:=af) (l:=s0.ae) (q:=2) gj o0 rfl e3),.w 7 e4] <| qq <| q0 <| qt <| ⟨.inl rfl,⟨an,ao,kr,he (AL o1)⟩⟩
 clear LU
 intro wL
 refine qq ?_
 obtain⟨x0,e0,H⟩:=aW H
 obtain⟨x1,e1,H⟩:=aW H
 refine qr [.a 2 (CI _ _ _ e0 h _ (lZ (ak (eC (q:=0) o rfl (ak (gL) (ak (eM (E:=ah) (l:=s0.aa) (q:=1) o rfl (fun _=>rfl)) (ak (eM (E:=af) (l:=s0.ae) (q:=2) o rfl (fun _=>rfl)) (aG))))) (ak (bO) (aG))))),.a 5 (CI _ _ _ e1 h _ (lZ (ak (eC (q:=0) o rfl (ak (gL) (ak (eM (E:=ah) (l:=s0.aa) (q:=1) o rfl (fun _=>rfl)) (ak (eM (E:=af) (l:=s0.ae) (q:=2) o rfl (fun _=>rfl)) (aG))))) (ak (bO) (aG)))))] <| qc H (fun c0 H=>?_) (fun c0 H=>?_)
 ·refine qq ?_
  obtain⟨x2,e2,H⟩:=aW H
  refine qr [.a 2 (CI _ _ _ e2 h _ (lZ (ak (eC (q:=0) o rfl (ak (gL) (ak (eM (E:=ah) (l:=s0.aa) (q:=1) o rfl (fun _=>rfl)) (ak (eM (E:=af) (l:=s0.ae) (q:=2) o rfl (fun _=>rfl)) (aG))))) (ak (bO) (aG)))))] <| qc H (fun c1 H=>?_) (fun c1 H=>?_)
  ·exact q0 <| wL (b0,a0) _ ⟨.any,.any,h,kr,o⟩ H
  ·exact qk <| wL (a0,b0) _ ⟨.bool x2,.any,h,kr,o⟩ H
 ·refine q1 <| qc H (fun c2 H=>?_) (fun c2 H=>?_)
  ·exact q0 <| wL (b0,a0) _ ⟨.any,.any,h,kr,o⟩ H
  ·exact qk <| wL (a0,b0) _ ⟨.any,.bool (decide (a0<b0)),h,kr,o⟩ H
end
def yU:bR:=gC [0,1,3] [] [4,3] [] []
def dn.f (m:Nat)(n0:Int)(x0:ab):Option (Bool):=(b5.f m x0 n0).bind fun x1=>some (!x1)
def dn.fin (L:Mem)(r:Bool)(s:St):Prop:=∃av,aE Tryz.prog (s.open yU) Tryz.f107.results.toList=some av∧eR s.h av (.bool r)
def P6 (cf:CallF)(m:Nat):Prop:=∀(n0:Int) (x0:ab) (r:Bool),dn.f m n0 x0=some r→∀h xs,aP bH h xs [.i n0,.fp [.fp [.bool x0.aj,ah.fz x0.aa,af.fz x0.ae] 0] 0]→cf 107 xs h=some (.bool r,h)
section
variable {cf:CallF}{m:Nat}
theorem lU {aS:FuncId→bR}(ha:aS 107=yU)(CI:RL cf m)(n0:Int)(x0:ab)(h:AHeap)(L:Mem)  (o:Has h (L)){out:Bool}(H:dn.f m n0 x0=some out) :
  ∃r h',a6 Tryz.prog aS cf m 107 [.i n0,.fp [.fp [.bool x0.aj,ah.fz x0.aa,af.fz x0.ae] 0] 0] h=some (r,h')∧eR h' r (.bool out):=by
 refine aq (fn:=Tryz.f107) ha Tryz.func107 kr kr ?_
 refine aC (Q:=fun s=>dn.fin L out s) (fun _ _ h=>h) ?_
 have H:_=some out:=H
 unfold dn.f at H
 show cZ _ cf yU m _ ⟨[.i n0,.fp [.fp [.bool x0.aj,ah.fz x0.aa,af.fz x0.ae] 0] 0,.any],[],h⟩ _
 refine q1 <| qq ?_
 obtain⟨x1,e0,H⟩:=aW H
 exact qr [.a 2 (CI _ _ _ e0 h _ (lZ (ak (fE (pure_cons (cu) (pure_cons (bL.bp (E:=ah) (l:=x0.aa)) (pure_cons (bL.bp (E:=af) (l:=x0.ae)) (pure_nil))))) (ak (bO) (aG)))))] <| qt <| fB H
end
def vj:bR:=gC [0,1,4,5,7,8,9,16] [] [252,204,140,196,68,251,204,251] [] []
def fJ.l0 (m:Nat)(s0:List ai)(f0:ai→Option (Bool)):Nat→Int→Option (Sum Int (Int))
 | 0,_=>none
 | k+1,x0=>if (decide (x0<(s0.length:Int)))=true then ((ix s0 x0).bind fun v0=>(f0 v0).bind fun r0=>if r0=true then (some (.inl x0)) else (fJ.l0 m s0 f0 k (i64.wrap (x0+1)))) else (some (.inr x0))
def fJ.f (m:Nat)(s0:List ai)(f0:ai→Option (Bool)):Option (Int):=(fJ.l0 m s0 f0 m 0).bind fun bP=>match bP with | .inl r1=>some r1 | .inr x1=>some (-1:Int)
def fJ.fin (L:Mem)(r:Int)(s:St):Prop:=∃av,aE Tryz.prog (s.open vj) Tryz.f109.results.toList=some av∧eR s.h av (.i r)
def P7 (cf:CallF)(m:Nat):Prop:=∀(s0:List ai) (f0:ai→Option (Bool)) (r:Int),fJ.f m s0 f0=some r→∀(fA:FuncId) (aU:List AV),(∀(h:AHeap) (xs:List AV) (a0:ai) r,f0 a0=some r→aP bH h xs ([.agg [.i a0.kind,.i a0.int,.str a0.label,af.fz a0.args]]++aU)→cf fA xs h=some (.bool r,h))→(∀h,aP cC h aU aU)→∀h xs,aP bH h xs [ah.fz s0,.fn fA aU]→cf 109 xs h=some (.i r,h)
section
variable {cf:CallF}{m:Nat}
theorem fJ.cb (L:Mem)(fA:FuncId)(aU:List AV)(s0:List ai)(f0:ai→Option (Bool))  (iF:∀(h:AHeap) (xs:List AV) (a0:ai) r,f0 a0=some r→aP bH h xs ([.agg [.i a0.kind,.i a0.int,.str a0.label,af.fz a0.args]]++aU)→cf fA xs h=some (.bool r,h))(iG:∀h,aP cC h aU aU)  : cY Tryz.prog cf vj m (sub [1,0,1,0,0] (bN Tryz.f109)) (fun k (σ:Int)=>fJ.l0 m s0 f0 k σ) (fun σ s=>match σ with | x0=>∃h0,s=⟨[ah.fz s0,.fn fA aU,.any,.any,.i (s0.length:Int),.i x0,.any,.any],[],h0⟩∧Has h0 (L)) (fun out e s=>(e = .exit 0∧∃x0,.inr x0=out∧∃nC vd H2 CF FV h0,s=⟨[nC,vd,.any,.any,H2,CF,FV,.any],[],h0⟩∧Has h0 (L))∨(e = .ret∧∃r,.inl r=out∧fJ.fin L r s)):=by
 refine ln (fun _=>rfl) ?_
 rintro k x0 s out ⟨h0,rfl,o0⟩ H
 have H:fJ.l0 m s0 f0 (k+1) x0=some out:=H
 refine q1 <| qq <| qc H (fun c0 H=>?_) (fun c0 H=>?_)
 ·refine qk <| qq <| qb 1 <| qq <| q0 <| qq ?_
  obtain⟨v0,e0,H⟩:=aW H
  obtain⟨r0,e1,H⟩:=aW H
  refine qr [.v 3 (eK (k:=.i64) (E:=ah) (l:=s0) tS e0),.v 4 (ke  (E:=ah) (l:=s0) h0 BM BN e0),.a 5 (iF _ _ _ _ e1 (KE (ak (kg (ak (bO) (ak (bO) (ak (kY) (ak (km (E:=af)) (aG)))))) (aG)) (iG h0)))] <| qc H (fun c1 H=>?_) (fun c1 H=>?_)
  ·exact q1 <| qt <| Or.inr (⟨rfl,_,oi H,wI (.i x0) h0 (tP (mU))⟩)
  ·exact qk <| q0 <| ⟨i64.wrap (x0+1),⟨h0,kr,o0⟩,H⟩
 ·exact qx 0 <| Or.inl (⟨rfl,x0,oi H,ah.fz s0,.fn fA aU,.i (s0.length:Int),.i x0,.bool (decide (x0<(s0.length:Int))),h0,kr,o0⟩)
theorem yV {aS:FuncId→bR}(ha:aS 109=vj)  (s0:List ai)(f0:ai→Option (Bool))(h:AHeap)(L:Mem)(fA:FuncId)(aU:List AV)  (iF:∀(h:AHeap) (xs:List AV) (a0:ai) r,f0 a0=some r→aP bH h xs ([.agg [.i a0.kind,.i a0.int,.str a0.label,af.fz a0.args]]++aU)→cf fA xs h=some (.bool r,h))(iG:∀h,aP cC h aU aU)(o:Has h (L)){out:Int}(H:fJ.f m s0 f0=some out) :
  ∃r h',a6 Tryz.prog aS cf m 109 [ah.fz s0,.fn fA aU] h=some (r,h')∧eR h' r (.i out):=by
 refine aq (fn:=Tryz.f109) ha Tryz.func109 kr kr ?_
 refine aC (Q:=fun s=>fJ.fin L out s) (fun _ _ h=>h) ?_
 have H:_=some out:=H
 unfold fJ.f at H
 show cZ _ cf vj m _ ⟨ah.fz s0 :: .fn fA aU::zA [],[],h⟩ _
 refine q1 <| qq <| qq <| q0 <| qb 0 ?_
 obtain⟨bP,e2,H⟩:=aW H
 refine ql (fJ.cb L fA aU s0 f0  iF iG  0 _ _ ⟨h,kr,o⟩ e2) ?_
 rintro e s (⟨rfl,x1,rfl,g0,g1,g2,g3,g4,h1,rfl,o1⟩| ⟨rfl,r1,rfl,rS⟩)
 ·try dsimp only at H
  exact q1 <| qt <| fI H
 ·try dsimp only at H
  obtain rfl:=oi H
  exact⟨.inl rfl,rS⟩
end
def yW:bR:=gC [0,1,3] [] [4,3] [] []
def ir.f (m:Nat)(a0:Int)(x0:Int):Option (Bool):=if (decide (a0<0))=true then (some true) else (some (decide (a0≥x0)))
def ir.fin (L:Mem)(r:Bool)(s:St):Prop:=∃av,aE Tryz.prog (s.open yW) Tryz.f110.results.toList=some av∧eR s.h av (.bool r)
def P8 (cf:CallF)(m:Nat):Prop:=∀(a0:Int) (x0:Int) (r:Bool),ir.f m a0 x0=some r→∀h xs,aP bH h xs [.i a0,.fp [.i x0] 0]→cf 110 xs h=some (.bool r,h)
section
variable {cf:CallF}{m:Nat}
theorem rU {aS:FuncId→bR}(ha:aS 110=yW)  (a0:Int)(x0:Int)(h:AHeap)(L:Mem)  (o:Has h (L)){out:Bool}(H:ir.f m a0 x0=some out) :
  ∃r h',a6 Tryz.prog aS cf m 110 [.i a0,.fp [.i x0] 0] h=some (r,h')∧eR h' r (.bool out):=by
 refine aq (fn:=Tryz.f110) ha Tryz.func110 kr kr ?_
 refine aC (Q:=fun s=>ir.fin L out s) (fun _ _ h=>h) ?_
 have H:_=some out:=H
 unfold ir.f at H
 show cZ _ cf yW m _ ⟨[.i a0,.fp [.i x0] 0,.any],[],h⟩ _
 refine q1 <| qq ?_
 rcases du H with⟨c0,H⟩| ⟨c0,H⟩
 ·exact qr [.b 2 c0] <| qt <| fB H
 ·exact qr [.b 2 c0] <| qt <| fB H
end
def vk:bR:=gC [0,2,3,5,6,7,8,9,14] [] [510,506,395,267,387,131,509,395,509] [] []
def cd.l0 (m:Nat)(gZ:List Int):Nat→Int→Option (Sum Int (Int))
 | 0,_=>none
 | k+1,x0=>if (decide (x0<(gZ.length:Int)))=true then ((ix gZ x0).bind fun v0=>if (!(v0==0))=true then (some (.inl v0)) else (cd.l0 m gZ k (i64.wrap (x0+1)))) else (some (.inr x0))
def cd.f (m:Nat)(gZ:List Int):Option (Int):=(cd.l0 m gZ m 0).bind fun bP=>match bP with | .inl r0=>some r0 | .inr x1=>some 0
def cd.fin (L:Mem)(r:Int)(s:St):Prop:=∃av,aE Tryz.prog (s.open vk) Tryz.f128.results.toList=some av∧eR s.h av (.i r)
def P9 (cf:CallF)(m:Nat):Prop:=∀(gZ:List Int) (r:Int),cd.f m gZ=some r→∀h xs,aP bH h xs [af.fz gZ]→cf 128 xs h=some (.i r,h)
section
variable {cf:CallF}{m:Nat}
theorem cd.cb (L:Mem)(gZ:List Int)   : cY Tryz.prog cf vk m (sub [1,1,0,1,0,0] (bN Tryz.f128)) (fun k (σ:Int)=>cd.l0 m gZ k σ) (fun σ s=>match σ with | x0=>∃h0,s=⟨[.any,.any,.i 0,.any,af.fz gZ,.i (gZ.length:Int),.i x0,.any,.any],[],h0⟩∧Has h0 (L)) (fun out e s=>(e = .exit 0∧∃x0,.inr x0=out∧∃H3 H2 CF FV h0,s=⟨[.any,.any,.i 0,.any,H3,H2,CF,FV,.any],[],h0⟩∧Has h0 (L))∨(e = .ret∧∃r,.inl r=out∧cd.fin L r s)):=by
 refine ln (fun _=>rfl) ?_
 rintro k x0 s out ⟨h0,rfl,o0⟩ H
 have H:cd.l0 m gZ (k+1) x0=some out:=H
 refine q1 <| qq <| qc H (fun c0 H=>?_) (fun c0 H=>?_)
 ·refine qk <| qq <| qb 1 <| qq ?_
  obtain⟨v0,e0,H⟩:=aW H
  refine qr [.v 0 (eK (k:=.i64) (E:=af) (l:=gZ) gj e0),.v 1 (gK  (E:=af) (l:=gZ) h0 A3 e0 rfl)] <| qq <| q0 <| qc H (fun c1 H=>?_) (fun c1 H=>?_)
  ·exact q1 <| qt <| Or.inr (⟨rfl,_,oi H,wI (.i v0) h0 (tP (mU))⟩)
  ·exact qk <| q0 <| ⟨i64.wrap (x0+1),⟨h0,kr,o0⟩,H⟩
 ·exact qx 0 <| Or.inl (⟨rfl,x0,oi H,af.fz gZ,.i (gZ.length:Int),.i x0,.bool (decide (x0<(gZ.length:Int))),h0,kr,o0⟩)
theorem th {aS:FuncId→bR}(ha:aS 128=vk)  (gZ:List Int)(h:AHeap)(L:Mem)  (o:Has h (L)){out:Int}(H:cd.f m gZ=some out) :
  ∃r h',a6 Tryz.prog aS cf m 128 [af.fz gZ] h=some (r,h')∧eR h' r (.i out):=by
 refine aq (fn:=Tryz.f128) ha Tryz.func128 kr kr ?_
 refine aC (Q:=fun s=>cd.fin L out s) (fun _ _ h=>h) ?_
 have H:_=some out:=H
 unfold cd.f at H
 show cZ _ cf vk m _ ⟨af.fz gZ::xg [],[],h⟩ _
 refine q1 <| qq <| q0 <| qq <| qq <| q0 <| qb 0 ?_
 obtain⟨bP,e1,H⟩:=aW H
 refine ql (cd.cb L gZ   0 _ _ ⟨h,kr,o⟩ e1) ?_
 rintro e s (⟨rfl,x1,rfl,g0,g1,g2,g3,h1,rfl,o1⟩| ⟨rfl,r0,rfl,rS⟩)
 ·try dsimp only at H
  exact q1 <| qt <| fI H
 ·try dsimp only at H
  obtain rfl:=oi H
  exact⟨.inl rfl,rS⟩
end
def yX:bR:=gC [0,2] [] [2,1] [] []
def gE.f (m:Nat)(c0:Int):Option (Bool):=if (decide (c0≥97))=true then (if (decide (c0≤122))=true then (some true) else (if (decide (c0≥65))=true then (if (decide (c0≤90))=true then (some true) else (if (decide (c0≥48))=true then (if (decide (c0≤57))=true then (some true) else (some (c0==95))) else (some (c0==95)))) else (if (decide (c0≥48))=true then (if (decide (c0≤57))=true then (some true) else (some (c0==95))) else (some (c0==95))))) else (if (decide (c0≥65))=true then (if (decide (c0≤90))=true then (some true) else (if (decide (c0≥48))=true then (if (decide (c0≤57))=true then (some true) else (some (c0==95))) else (some (c0==95)))) else (if (decide (c0≥48))=true then (if (decide (c0≤57))=true then (some true) else (some (c0==95))) else (some (c0==95))))
def gE.fin (L:Mem)(r:Bool)(s:St):Prop:=∃av,aE Tryz.prog (s.open yX) Tryz.f130.results.toList=some av∧eR s.h av (.bool r)
def Np (cf:CallF)(m:Nat):Prop:=∀(c0:Int) (r:Bool),gE.f m c0=some r→∀h xs,aP bH h xs [.int .u8 c0]→cf 130 xs h=some (.bool r,h)
section
variable {cf:CallF}{m:Nat}
theorem rV {aS:FuncId→bR}(ha:aS 130=yX)  (c0:Int)(h:AHeap)(L:Mem)  (o:Has h (L)){out:Bool}(H:gE.f m c0=some out) :
  ∃r h',a6 Tryz.prog aS cf m 130 [.int .u8 c0] h=some (r,h')∧eR h' r (.bool out):=by
 refine aq (fn:=Tryz.f130) ha Tryz.func130 kr kr ?_
 refine aC (Q:=fun s=>gE.fin L out s) (fun _ _ h=>h) ?_
 have H:_=some out:=H
 unfold gE.f at H
 show cZ _ cf yX m _ ⟨[.int .u8 c0,.any],[],h⟩ _
 refine q1 <| qq ?_
 rcases du H with⟨c1,H⟩| ⟨c1,H⟩
 ·rcases du H with⟨c2,H⟩| ⟨c2,H⟩
  ·exact qr [.b 2 c1,.b 6 c2] <| qt <| fB H
  ·rcases du H with⟨c3,H⟩| ⟨c3,H⟩
   ·rcases du H with⟨c4,H⟩| ⟨c4,H⟩
    ·exact qr [.b 2 c1,.b 6 c2,.b 9 c3,.b 14 c4] <| qt <| fB H
    ·rcases du H with⟨c5,H⟩| ⟨c5,H⟩
     ·rcases du H with⟨c6,H⟩| ⟨c6,H⟩
      ·exact qr [.b 2 c1,.b 6 c2,.b 9 c3,.b 14 c4,.b 17 c5,.b 22 c6] <| qt <| fB H
      ·exact qr [.b 2 c1,.b 6 c2,.b 9 c3,.b 14 c4,.b 17 c5,.b 22 c6] <| qt <| fB H
     ·exact qr [.b 2 c1,.b 6 c2,.b 9 c3,.b 14 c4,.b 17 c5] <| qt <| fB H
   ·rcases du H with⟨c7,H⟩| ⟨c7,H⟩
    ·rcases du H with⟨c8,H⟩| ⟨c8,H⟩
     ·exact qr [.b 2 c1,.b 6 c2,.b 9 c3,.b 17 c7,.b 22 c8] <| qt <| fB H
     ·exact qr [.b 2 c1,.b 6 c2,.b 9 c3,.b 17 c7,.b 22 c8] <| qt <| fB H
    ·exact qr [.b 2 c1,.b 6 c2,.b 9 c3,.b 17 c7] <| qt <| fB H
 ·rcases du H with⟨c9,H⟩| ⟨c9,H⟩
  ·rcases du H with⟨vl,H⟩| ⟨vl,H⟩
   ·exact qr [.b 2 c1,.b 9 c9,.b 14 vl] <| qt <| fB H
   ·rcases du H with⟨oY,H⟩| ⟨oY,H⟩
    ·rcases du H with⟨vm,H⟩| ⟨vm,H⟩
     ·exact qr [.b 2 c1,.b 9 c9,.b 14 vl,.b 17 oY,.b 22 vm] <| qt <| fB H
     ·exact qr [.b 2 c1,.b 9 c9,.b 14 vl,.b 17 oY,.b 22 vm] <| qt <| fB H
    ·exact qr [.b 2 c1,.b 9 c9,.b 14 vl,.b 17 oY] <| qt <| fB H
  ·rcases du H with⟨vo,H⟩| ⟨vo,H⟩
   ·rcases du H with⟨rm,H⟩| ⟨rm,H⟩
    ·exact qr [.b 2 c1,.b 9 c9,.b 17 vo,.b 22 rm] <| qt <| fB H
    ·exact qr [.b 2 c1,.b 9 c9,.b 17 vo,.b 22 rm] <| qt <| fB H
   ·exact qr [.b 2 c1,.b 9 c9,.b 17 vo] <| qt <| fB H
end
def yY:bR:=gC [0,2] [] [2,1] [] []
def fX.f (m:Nat)(c0:Int):Option (Bool):=if (decide (c0≥97))=true then (if (decide (c0≤122))=true then (some true) else (if (decide (c0≥65))=true then (if (decide (c0≤90))=true then (some true) else (if (decide (c0≥48))=true then (if (decide (c0≤57))=true then (some true) else (some (c0==95))) else (some (c0==95)))) else (if (decide (c0≥48))=true then (if (decide (c0≤57))=true then (some true) else (some (c0==95))) else (some (c0==95))))) else (if (decide (c0≥65))=true then (if (decide (c0≤90))=true then (some true) else (if (decide (c0≥48))=true then (if (decide (c0≤57))=true then (some true) else (some (c0==95))) else (some (c0==95)))) else (if (decide (c0≥48))=true then (if (decide (c0≤57))=true then (some true) else (some (c0==95))) else (some (c0==95))))
def fX.fin (L:Mem)(r:Bool)(s:St):Prop:=∃av,aE Tryz.prog (s.open yY) Tryz.f131.results.toList=some av∧eR s.h av (.bool r)
def Nq (cf:CallF)(m:Nat):Prop:=∀(c0:Int) (r:Bool),fX.f m c0=some r→∀h xs,aP bH h xs [.int .u8 c0]→cf 131 xs h=some (.bool r,h)
section
variable {cf:CallF}{m:Nat}
theorem qP {aS:FuncId→bR}(ha:aS 131=yY)  (c0:Int)(h:AHeap)(L:Mem)  (o:Has h (L)){out:Bool}(H:fX.f m c0=some out) :
  ∃r h',a6 Tryz.prog aS cf m 131 [.int .u8 c0] h=some (r,h')∧eR h' r (.bool out):=by
 refine aq (fn:=Tryz.f131) ha Tryz.func131 kr kr ?_
 refine aC (Q:=fun s=>fX.fin L out s) (fun _ _ h=>h) ?_
 have H:_=some out:=H
 unfold fX.f at H
 show cZ _ cf yY m _ ⟨[.int .u8 c0,.any],[],h⟩ _
 refine q1 <| qq ?_
 rcases du H with⟨c1,H⟩| ⟨c1,H⟩
 ·rcases du H with⟨c2,H⟩| ⟨c2,H⟩
  ·exact qr [.b 2 c1,.b 6 c2] <| qt <| fB H
  ·rcases du H with⟨c3,H⟩| ⟨c3,H⟩
   ·rcases du H with⟨c4,H⟩| ⟨c4,H⟩
    ·exact qr [.b 2 c1,.b 6 c2,.b 9 c3,.b 14 c4] <| qt <| fB H
    ·rcases du H with⟨c5,H⟩| ⟨c5,H⟩
     ·rcases du H with⟨c6,H⟩| ⟨c6,H⟩
      ·exact qr [.b 2 c1,.b 6 c2,.b 9 c3,.b 14 c4,.b 17 c5,.b 22 c6] <| qt <| fB H
      ·exact qr [.b 2 c1,.b 6 c2,.b 9 c3,.b 14 c4,.b 17 c5,.b 22 c6] <| qt <| fB H
     ·exact qr [.b 2 c1,.b 6 c2,.b 9 c3,.b 14 c4,.b 17 c5] <| qt <| fB H
   ·rcases du H with⟨c7,H⟩| ⟨c7,H⟩
    ·rcases du H with⟨c8,H⟩| ⟨c8,H⟩
     ·exact qr [.b 2 c1,.b 6 c2,.b 9 c3,.b 17 c7,.b 22 c8] <| qt <| fB H
     ·exact qr [.b 2 c1,.b 6 c2,.b 9 c3,.b 17 c7,.b 22 c8] <| qt <| fB H
    ·exact qr [.b 2 c1,.b 6 c2,.b 9 c3,.b 17 c7] <| qt <| fB H
 ·rcases du H with⟨c9,H⟩| ⟨c9,H⟩
  ·rcases du H with⟨vl,H⟩| ⟨vl,H⟩
   ·exact qr [.b 2 c1,.b 9 c9,.b 14 vl] <| qt <| fB H
   ·rcases du H with⟨oY,H⟩| ⟨oY,H⟩
    ·rcases du H with⟨vm,H⟩| ⟨vm,H⟩
     ·exact qr [.b 2 c1,.b 9 c9,.b 14 vl,.b 17 oY,.b 22 vm] <| qt <| fB H
     ·exact qr [.b 2 c1,.b 9 c9,.b 14 vl,.b 17 oY,.b 22 vm] <| qt <| fB H
    ·exact qr [.b 2 c1,.b 9 c9,.b 14 vl,.b 17 oY] <| qt <| fB H
  ·rcases du H with⟨vo,H⟩| ⟨vo,H⟩
   ·rcases du H with⟨rm,H⟩| ⟨rm,H⟩
    ·exact qr [.b 2 c1,.b 9 c9,.b 17 vo,.b 22 rm] <| qt <| fB H
    ·exact qr [.b 2 c1,.b 9 c9,.b 17 vo,.b 22 rm] <| qt <| fB H
   ·exact qr [.b 2 c1,.b 9 c9,.b 17 vo] <| qt <| fB H
end
def yZ:bR:=gC [0,2] [] [2,1] [] []
def cmp_isNaN_int.f (m:Nat)(x0:Int):Option (Bool):=some (!(x0==x0))
def cmp_isNaN_int.fin (L:Mem)(r:Bool)(s:St):Prop:=∃av,aE Tryz.prog (s.open yZ) Tryz.f140.results.toList=some av∧eR s.h av (.bool r)
def Qa (cf:CallF)(m:Nat):Prop:=∀(x0:Int) (r:Bool),cmp_isNaN_int.f m x0=some r→∀h xs,aP bH h xs [.i x0]→cf 140 xs h=some (.bool r,h)
section
variable {cf:CallF}{m:Nat}
theorem pR {aS:FuncId→bR}(ha:aS 140=yZ)  (x0:Int)(h:AHeap)(L:Mem)  (o:Has h (L)){out:Bool}(H:cmp_isNaN_int.f m x0=some out) :
  ∃r h',a6 Tryz.prog aS cf m 140 [.i x0] h=some (r,h')∧eR h' r (.bool out):=by
 refine aq (fn:=Tryz.f140) ha Tryz.func140 kr kr ?_
 refine aC (Q:=fun s=>cmp_isNaN_int.fin L out s) (fun _ _ h=>h) ?_
 have H:_=some out:=H
 unfold cmp_isNaN_int.f at H
 show cZ _ cf yZ m _ ⟨[.i x0,.any],[],h⟩ _
 exact q1 <| qq <| q0 <| qt <| fB H
end
def y4:bR:=gC [0,2] [] [2,1] [] []
def cmp_isNaN_string.f (m:Nat)(x0:ByteArray):Option (Bool):=some (!(x0.data.toList==x0.data.toList))
def cmp_isNaN_string.fin (L:Mem)(r:Bool)(s:St):Prop:=∃av,aE Tryz.prog (s.open y4) Tryz.f141.results.toList=some av∧eR s.h av (.bool r)
def Qb (cf:CallF)(m:Nat):Prop:=∀(x0:ByteArray) (r:Bool),cmp_isNaN_string.f m x0=some r→∀h xs,aP bH h xs [.str x0]→cf 141 xs h=some (.bool r,h)
section
variable {cf:CallF}{m:Nat}
theorem nJ {aS:FuncId→bR}(ha:aS 141=y4)  (x0:ByteArray)(h:AHeap)(L:Mem)  (o:Has h (L)){out:Bool}(H:cmp_isNaN_string.f m x0=some out) :
  ∃r h',a6 Tryz.prog aS cf m 141 [.str x0] h=some (r,h')∧eR h' r (.bool out):=by
 refine aq (fn:=Tryz.f141) ha Tryz.func141 kr kr ?_
 refine aC (Q:=fun s=>cmp_isNaN_string.fin L out s) (fun _ _ h=>h) ?_
 have H:_=some out:=H
 unfold cmp_isNaN_string.f at H
 show cZ _ cf y4 m _ ⟨[.str x0,.any],[],h⟩ _
 exact q1 <| qq <| q0 <| qt <| fB H
end
def rW:bR:=gC [0,1,2,3,8,9,14,34] [] [224,160,224,192,64,192,192] [] []
def aZ.l1 (m:Nat)(a0:Int)(aX:Int→Int→Option (Int)):Nat→(List Int)→Int→Option ((List Int) × Int)
 | 0,_,_=>none
 | k+1,dr,j0=>if (decide (j0 > a0))=true then ((ix dr j0).bind fun v0=>(ix dr (i64.wrap (j0 - 1))).bind fun v1=>(aX v0 v1).bind fun r0=>if (decide (r0<0))=true then ((ix dr (i64.wrap (j0 - 1))).bind fun v2=>(ix dr j0).bind fun v3=>(ix dr j0).bind fun v4=>(ix (dr.set j0.toNat v2) (i64.wrap (j0 - 1))).bind fun v5=>aZ.l1 m a0 aX k ((dr.set j0.toNat v2).set (i64.wrap (j0 - 1)).toNat v3) (i64.wrap (j0 - 1))) else (some ((dr,j0)))) else (some ((dr,j0)))
def aZ.l0 (m:Nat)(a0:Int)(b0:Int)(aX:Int→Int→Option (Int)):Nat→(List Int)→Int→Option ((List Int) × Int)
 | 0,_,_=>none
 | k+1,bz,i0=>if (decide (i0<b0))=true then ((aZ.l1 m a0 aX m bz i0).bind fun bP=>match bP with | (dU,j1)=>aZ.l0 m a0 b0 aX k dU (i64.wrap (i0+1))) else (some ((bz,i0)))
def aZ.f (m:Nat)(au:List Int)(a0:Int)(b0:Int)(aX:Int→Int→Option (Int)):Option ((List Int)):=(aZ.l0 m a0 b0 aX m au (i64.wrap (a0+1))).bind fun dA=>match dA with | (ko,i1)=>some ko
def aZ.fin (L:Mem)(aM:Nat)(au:List Int)(a0:Int)(b0:Int)(aX:Int→Int→Option (Int))(r:(List Int))(s:St):Prop:=aE Tryz.prog (s.open rW) Tryz.f145.results.toList=some (.tup [])∧Has s.h ((aM,.sl au.length 1 (af.l r))::L)
def Nr (cf:CallF)(m:Nat):Prop:=∀(au:List Int) (a0:Int) (b0:Int) (aX:Int→Int→Option (Int)) (r:(List Int)),aZ.f m au a0 b0 aX=some r→∀h L (cF:Nat) (aM:Nat),Has h ((aM,.sl cF 1 (af.l au))::L)→∀(sM:FuncId) (gF fG:List AV),(aN (.fn sM gF) = .fn sM gF)→(∀(h:AHeap) (xs:List AV) (a0:Int) (a1:Int) r,aX a0 a1=some r→aP bH h xs ([.i a0,.i a1]++fG)→cf sM xs h=some (.i r,h))→(∀h K,Has h (K++(L))→aP cC h gF fG)→(∀h,aP cC h fG fG)→∀xs,xs.map aN=[.rs aM 0 cF 1,.i a0,.i b0,.fn sM gF]→∃h',cf 145 xs h=some (.tup [],h')∧Has h' ((aM,.sl cF 1 (af.l r))::L)
section
variable {cf:CallF}{m:Nat}
theorem aZ.k8 (L:Mem)(aM:Nat)(sM:FuncId)(gF fG:List AV)(au:List Int)(a0:Int)(b0:Int)(aX:Int→Int→Option (Int))(i0:Int)  (FW:aN (.fn sM gF) = .fn sM gF)(CJ:∀(h:AHeap) (xs:List AV) (a0:Int) (a1:Int) r,aX a0 a1=some r→aP bH h xs ([.i a0,.i a1]++fG)→cf sM xs h=some (.i r,h))(CK:∀h K,Has h (K++(L))→aP cC h gF fG)(FX:∀h,aP cC h fG fG)  : cY Tryz.prog cf rW m (sub [1,0,0,1,0,0,1,0,0] (bN Tryz.f145)) (fun k (σ:(List Int) × Int)=>aZ.l1 m a0 aX k σ.1 σ.2) (fun σ s=>match σ with | (dr,j0)=>∃h1,s=⟨[.rs aM 0 au.length 1,.i a0,.i b0,.fn sM gF,.i i0,.i j0,.any,.any],[],h1⟩∧Has h1 ((aM,.sl au.length 1 (af.l dr))::L)) (fun out e s=>(e = .exit 2∧∃dr j0,(dr,j0)=out∧∃FV TE h1,s=⟨[.rs aM 0 au.length 1,.i a0,.i b0,.fn sM gF,.i i0,FV,.any,TE],[],h1⟩∧Has h1 ((aM,.sl au.length 1 (af.l dr))::L))):=by
 refine ln (fun _=>rfl) ?_
 rintro k ⟨dr,j0⟩ s out ⟨h1,rfl,o1⟩ H
 have H:aZ.l1 m a0 aX (k+1) dr j0=some out:=H
 refine qq <| qq ?_
 rcases du H with⟨c1,H⟩| ⟨c1,H⟩
 ·obtain⟨v0,e0,H⟩:=aW H
  obtain⟨v1,e1,H⟩:=aW H
  obtain⟨r0,e2,H⟩:=aW H
  refine qr [.b 3 c1,.v 7 (be (k:=.i64) (E:=af) (l:=dr) (q:=0) gj o1 rfl e0),.v 8 (cL  (E:=af) (l:=dr) (q:=0) o1 rfl A3 e0 rfl),.v 12 (be (k:=.i64) (E:=af) (l:=dr) (q:=0) gj o1 rfl e1),.v 13 (cL  (E:=af) (l:=dr) (q:=0) o1 rfl A3 e1 rfl),.a 14 (CJ _ _ _ _ _ e2 (KE (ak (bO) (ak (bO) (aG))) (CK h1 [(aM,.sl au.length 1 (af.l dr))] o1)))] <| qc H (fun c2 H=>?_) (fun c2 H=>?_)
  ·refine qk <| qq <| qb 3 ?_
   obtain⟨v2,e3,H⟩:=aW H
   obtain⟨v3,e4,H⟩:=aW H
   obtain⟨v4,e5,H⟩:=aW H
   obtain⟨h2,e6,o2⟩:=fN (P:=Tryz.prog) (tf:=3) (E:=af) (l:=dr) (q:=0) (v:=v2) (x:=.i v2) o1 rfl Z3 e5 rfl rfl
   obtain⟨v5,e7,H⟩:=aW H
   obtain⟨h3,e8,o3⟩:=fN (P:=Tryz.prog) (tf:=3) (E:=af) (l:=(dr.set j0.toNat v2)) (q:=0) (v:=v3) (x:=.i v3) o2 rfl Z3 e7 rfl rfl
   exact qr [.v 8 (be (k:=.i64) (E:=af) (l:=dr) (q:=0) gj o1 rfl e3),.v 9 (cL  (E:=af) (l:=dr) (q:=0) o1 rfl A3 e3 rfl),.v 12 (be (k:=.i64) (E:=af) (l:=dr) (q:=0) gj o1 rfl e4),.v 13 (cL  (E:=af) (l:=dr) (q:=0) o1 rfl A3 e4 rfl),.v 14 (be (k:=.i64) (E:=af) (l:=dr) (q:=0) gj o1 rfl e5),.w 15 e6,.v 16 (be (k:=.i64) (E:=af) (l:=(dr.set j0.toNat v2)) (q:=0) gj o2 rfl e7),.w 17 e8] <| q0 <| ⟨((dr.set j0.toNat v2).set (i64.wrap (j0 - 1)).toNat v3,i64.wrap (j0 - 1)),⟨h3,kr,o3⟩,H⟩
  ·exact qx 2 <| ⟨rfl,dr,j0,oi H,.i j0,.bool (decide (r0<0)),h1,kr,o1⟩
 ·exact qr [.b 3 c1] <| JM <| qx 2 <| ⟨rfl,dr,j0,oi H,.i j0,.bool false,h1,kr,o1⟩
theorem aZ.cb (L:Mem)(aM:Nat)(sM:FuncId)(gF fG:List AV)(au:List Int)(a0:Int)(b0:Int)(aX:Int→Int→Option (Int))  (FW:aN (.fn sM gF) = .fn sM gF)(CJ:∀(h:AHeap) (xs:List AV) (a0:Int) (a1:Int) r,aX a0 a1=some r→aP bH h xs ([.i a0,.i a1]++fG)→cf sM xs h=some (.i r,h))(CK:∀h K,Has h (K++(L))→aP cC h gF fG)(FX:∀h,aP cC h fG fG)  : cY Tryz.prog cf rW m (sub [1,0,0] (bN Tryz.f145)) (fun k (σ:(List Int) × Int)=>aZ.l0 m a0 b0 aX k σ.1 σ.2) (fun σ s=>match σ with | (bz,i0)=>∃h0,s=⟨.rs aM 0 au.length 1 :: .i a0 :: .i b0 :: .fn sM gF :: .i i0::nU [],[],h0⟩∧Has h0 ((aM,.sl au.length 1 (af.l bz))::L)) (fun out e s=>(e = .exit 0∧∃bz i0,(bz,i0)=out∧∃nC vd KI FU CF yO h0,s=⟨[nC,vd,KI,FU,CF,.any,yO,.any],[],h0⟩∧Has h0 ((aM,.sl au.length 1 (af.l bz))::L))):=by
 refine ln (fun _=>rfl) ?_
 rintro k ⟨bz,i0⟩ s out ⟨h0,rfl,o0⟩ H
 have H:aZ.l0 m a0 b0 aX (k+1) bz i0=some out:=H
 refine qq <| qq <| q0 <| qc H (fun c0 H=>?_) (fun c0 H=>?_)
 ·refine qk <| qq <| qb 1 <| qq <| q0 <| qb 2 ?_
  obtain⟨bP,e9,H⟩:=aW H
  refine ql (aZ.k8 L aM sM gF fG au a0 b0 aX i0  FW CJ CK FX  (bz,i0) _ _ ⟨h0,kr,o0⟩ e9) ?_
  rintro e s ⟨rfl,dU,j1,rfl,g0,g1,h4,rfl,o4⟩
  try dsimp only at H
  exact q0 <| ⟨(dU,i64.wrap (i0+1)),⟨h4,kr,o4⟩,H⟩
 ·exact qx 0 <| ⟨rfl,bz,i0,oi H,.rs aM 0 au.length 1,.i a0,.i b0,.fn sM gF,.i i0,.bool (decide (i0<b0)),h0,kr,o0⟩
theorem pf {aS:FuncId→bR}(ha:aS 145=rW)  (au:List Int)(a0:Int)(b0:Int)(aX:Int→Int→Option (Int))(h:AHeap)(L:Mem)(aM:Nat)(sM:FuncId)(gF fG:List AV)  (FW:aN (.fn sM gF) = .fn sM gF)(CJ:∀(h:AHeap) (xs:List AV) (a0:Int) (a1:Int) r,aX a0 a1=some r→aP bH h xs ([.i a0,.i a1]++fG)→cf sM xs h=some (.i r,h))(CK:∀h K,Has h (K++(L))→aP cC h gF fG)(FX:∀h,aP cC h fG fG)(o:Has h ((aM,.sl au.length 1 (af.l au))::L)){out:(List Int)}(H:aZ.f m au a0 b0 aX=some out) :
  ∃r h',a6 Tryz.prog aS cf m 145 [.rs aM 0 au.length 1,.i a0,.i b0,.fn sM gF] h=some (r,h')∧r = .tup []∧Has h' ((aM,.sl au.length 1 (af.l out))::L):=by
 refine aq (fn:=Tryz.f145) ha Tryz.func145 kr kr ?_
 refine aC (Q:=fun s=>aZ.fin L aM au a0 b0 aX out s) (fun _ _ ⟨h1,h2,h3⟩=>⟨h1,_,h2,rfl,h3⟩) ?_
 have H:_=some out:=H
 unfold aZ.f at H
 show cZ _ cf rW m _ ⟨.rs aM 0 au.length 1 :: .i a0 :: .i b0 :: .fn sM gF::rN [],[],h⟩ _
 refine q1 <| qb 0 ?_
 obtain⟨dA,sL,H⟩:=aW H
 refine ql (aZ.cb L aM sM gF fG au a0 b0 aX  FW CJ CK FX  (au,i64.wrap (a0+1)) _ _ ⟨h,kr,o⟩ sL) ?_
 rintro e s ⟨rfl,ko,i1,rfl,g2,g3,g4,g5,g6,g7,h5,rfl,o5⟩
 try dsimp only at H
 obtain rfl:=oi H
 exact⟨.inr rfl,⟨kr,he o5⟩⟩
end
def vp:bR:=gC [0,1,2,3,10,13] [] [32,0,32,32] [] []
def bZ.l0 (m:Nat)(a0:Int)(b0:Int)(n0:Int):Nat→(List Int)→Int→Option ((List Int) × Int)
 | 0,_,_=>none
 | k+1,bz,i0=>if (decide (i0<n0))=true then ((ix bz (i64.wrap (b0+i0))).bind fun v0=>(ix bz (i64.wrap (a0+i0))).bind fun v1=>(ix bz (i64.wrap (a0+i0))).bind fun v2=>(ix (bz.set (i64.wrap (a0+i0)).toNat v0) (i64.wrap (b0+i0))).bind fun v3=>bZ.l0 m a0 b0 n0 k ((bz.set (i64.wrap (a0+i0)).toNat v0).set (i64.wrap (b0+i0)).toNat v1) (i64.wrap (i0+1))) else (some ((bz,i0)))
def bZ.f (m:Nat)(au:List Int)(a0:Int)(b0:Int)(n0:Int)(aX:Int→Int→Option (Int)):Option ((List Int)):=(bZ.l0 m a0 b0 n0 m au 0).bind fun bP=>match bP with | (dr,i1)=>some dr
def bZ.fin (L:Mem)(aM:Nat)(au:List Int)(a0:Int)(b0:Int)(n0:Int)(aX:Int→Int→Option (Int))(r:(List Int))(s:St):Prop:=aE Tryz.prog (s.open vp) Tryz.f149.results.toList=some (.tup [])∧Has s.h ((aM,.sl au.length 1 (af.l r))::L)
def Ns (cf:CallF)(m:Nat):Prop:=∀(au:List Int) (a0:Int) (b0:Int) (n0:Int) (aX:Int→Int→Option (Int)) (r:(List Int)),bZ.f m au a0 b0 n0 aX=some r→∀h L (cF:Nat) (aM:Nat),Has h ((aM,.sl cF 1 (af.l au))::L)→∀(fC:FuncId) (bf aY:List AV),(aN (.fn fC bf) = .fn fC bf)→(∀(h:AHeap) (xs:List AV) (a0:Int) (a1:Int) r,aX a0 a1=some r→aP bH h xs ([.i a0,.i a1]++aY)→cf fC xs h=some (.i r,h))→(∀h K,Has h (K++(L))→aP cC h bf aY)→(∀h,aP cC h aY aY)→∀xs,xs.map aN=[.rs aM 0 cF 1,.i a0,.i b0,.i n0,.fn fC bf]→∃h',cf 149 xs h=some (.tup [],h')∧Has h' ((aM,.sl cF 1 (af.l r))::L)
section
variable {cf:CallF}{m:Nat}
theorem bZ.cb (L:Mem)(aM:Nat)(fC:FuncId)(bf aY:List AV)(au:List Int)(a0:Int)(b0:Int)(n0:Int)(aX:Int→Int→Option (Int))  (jw:aN (.fn fC bf) = .fn fC bf)(iS:∀(h:AHeap) (xs:List AV) (a0:Int) (a1:Int) r,aX a0 a1=some r→aP bH h xs ([.i a0,.i a1]++aY)→cf fC xs h=some (.i r,h))(iT:∀h K,Has h (K++(L))→aP cC h bf aY)(jx:∀h,aP cC h aY aY)  : cY Tryz.prog cf vp m (sub [1,0,0] (bN Tryz.f149)) (fun k (σ:(List Int) × Int)=>bZ.l0 m a0 b0 n0 k σ.1 σ.2) (fun σ s=>match σ with | (bz,i0)=>∃h0,s=⟨[.rs aM 0 au.length 1,.i a0,.i b0,.i n0,.i i0,.any],[],h0⟩∧Has h0 ((aM,.sl au.length 1 (af.l bz))::L)) (fun out e s=>(e = .exit 0∧∃bz i0,(bz,i0)=out∧∃nC vd KI FU Ib vf h0,s=⟨[nC,vd,KI,FU,Ib,vf],[],h0⟩∧Has h0 ((aM,.sl au.length 1 (af.l bz))::L))):=by
 refine ln (fun _=>rfl) ?_
 rintro k ⟨bz,i0⟩ s out ⟨h0,rfl,o0⟩ H
 have H:bZ.l0 m a0 b0 n0 (k+1) bz i0=some out:=H
 refine qq <| qq <| q0 <| qc H (fun c0 H=>?_) (fun c0 H=>?_)
 ·refine qk <| qq <| qb 1 ?_
  obtain⟨v0,e0,H⟩:=aW H
  obtain⟨v1,e1,H⟩:=aW H
  obtain⟨v2,e2,H⟩:=aW H
  obtain⟨h1,e3,o1⟩:=fN (P:=Tryz.prog) (tf:=3) (E:=af) (l:=bz) (q:=0) (v:=v0) (x:=.i v0) o0 rfl Z3 e2 rfl rfl
  obtain⟨v3,e4,H⟩:=aW H
  obtain⟨h2,e5,o2⟩:=fN (P:=Tryz.prog) (tf:=3) (E:=af) (l:=(bz.set (i64.wrap (a0+i0)).toNat v0)) (q:=0) (v:=v1) (x:=.i v1) o1 rfl Z3 e4 rfl rfl
  exact qr [.v 12 (be (k:=.i64) (E:=af) (l:=bz) (q:=0) gj o0 rfl e0),.v 13 (cL  (E:=af) (l:=bz) (q:=0) o0 rfl A3 e0 rfl),.v 18 (be (k:=.i64) (E:=af) (l:=bz) (q:=0) gj o0 rfl e1),.v 19 (cL  (E:=af) (l:=bz) (q:=0) o0 rfl A3 e1 rfl),.v 20 (be (k:=.i64) (E:=af) (l:=bz) (q:=0) gj o0 rfl e2),.w 21 e3,.v 22 (be (k:=.i64) (E:=af) (l:=(bz.set (i64.wrap (a0+i0)).toNat v0)) (q:=0) gj o1 rfl e4),.w 23 e5] <| q0 <| ⟨((bz.set (i64.wrap (a0+i0)).toNat v0).set (i64.wrap (b0+i0)).toNat v1,i64.wrap (i0+1)),⟨h2,kr,o2⟩,H⟩
 ·exact qx 0 <| ⟨rfl,bz,i0,oi H,.rs aM 0 au.length 1,.i a0,.i b0,.i n0,.i i0,.bool (decide (i0<n0)),h0,kr,o0⟩
theorem ti {aS:FuncId→bR}(ha:aS 149=vp)  (au:List Int)(a0:Int)(b0:Int)(n0:Int)(aX:Int→Int→Option (Int))(h:AHeap)(L:Mem)(aM:Nat)(fC:FuncId)(bf aY:List AV)  (jw:aN (.fn fC bf) = .fn fC bf)(iS:∀(h:AHeap) (xs:List AV) (a0:Int) (a1:Int) r,aX a0 a1=some r→aP bH h xs ([.i a0,.i a1]++aY)→cf fC xs h=some (.i r,h))(iT:∀h K,Has h (K++(L))→aP cC h bf aY)(jx:∀h,aP cC h aY aY)(o:Has h ((aM,.sl au.length 1 (af.l au))::L)){out:(List Int)}(H:bZ.f m au a0 b0 n0 aX=some out) :
  ∃r h',a6 Tryz.prog aS cf m 149 [.rs aM 0 au.length 1,.i a0,.i b0,.i n0,.fn fC bf] h=some (r,h')∧r = .tup []∧Has h' ((aM,.sl au.length 1 (af.l out))::L):=by
 refine aq (fn:=Tryz.f149) ha Tryz.func149 kr kr ?_
 refine aC (Q:=fun s=>bZ.fin L aM au a0 b0 n0 aX out s) (fun _ _ ⟨h1,h2,h3⟩=>⟨h1,_,h2,rfl,h3⟩) ?_
 have H:_=some out:=H
 unfold bZ.f at H
 show cZ _ cf vp m _ ⟨[.rs aM 0 au.length 1,.i a0,.i b0,.i n0,.any,.any],[],h⟩ _
 refine q1 <| qb 0 ?_
 obtain⟨bP,e6,H⟩:=aW H
 refine ql (bZ.cb L aM fC bf aY au a0 b0 n0 aX  jw iS iT jx  (au,0) _ _ ⟨h,kr,o⟩ e6) ?_
 rintro e s ⟨rfl,dr,i1,rfl,g0,g1,g2,g3,g4,g5,h3,rfl,o3⟩
 try dsimp only at H
 obtain rfl:=oi H
 exact⟨.inr rfl,⟨kr,he o3⟩⟩
end
def Ed:bR:=gC [0,1,2,3,4] [2,3] [19,15] [] []
def fY.f (m:Nat)(a0:ai)(b0:ai):Option (Bool):=if (a0.kind==b0.kind)=true then (if (a0.int==b0.int)=true then (if (a0.label.data.toList==b0.label.data.toList)=true then ((cw.f m a0.args b0.args).bind fun x0=>some x0) else (some false)) else (some false)) else (some false)
def fY.fin (L:Mem)(r:Bool)(s:St):Prop:=∃av,aE Tryz.prog (s.open Ed) Tryz.f26.results.toList=some av∧eR s.h av (.bool r)
def TF (cf:CallF)(m:Nat):Prop:=∀(a0:ai) (b0:ai) (r:Bool),fY.f m a0 b0=some r→∀h xs,aP bH h xs [.agg [.i a0.kind,.i a0.int,.str a0.label,af.fz a0.args],.agg [.i b0.kind,.i b0.int,.str b0.label,af.fz b0.args]]→cf 26 xs h=some (.bool r,h)
section
variable {cf:CallF}{m:Nat}
theorem rX {aS:FuncId→bR}(ha:aS 26=Ed)(TG:Wf cf m)(a0:ai)(b0:ai)(h:AHeap)(L:Mem)  (o:Has h (L)){out:Bool}(H:fY.f m a0 b0=some out) :
  ∃r h',a6 Tryz.prog aS cf m 26 [.agg [.i a0.kind,.i a0.int,.str a0.label,af.fz a0.args],.agg [.i b0.kind,.i b0.int,.str b0.label,af.fz b0.args]] h=some (r,h')∧eR h' r (.bool out):=by
 refine aq (fn:=Tryz.f26) ha Tryz.func26 kr kr ?_
 refine aC (Q:=fun s=>fY.fin L out s) (fun _ _ h=>h) ?_
 have H:_=some out:=H
 unfold fY.f at H
 show cZ _ cf Ed m _ ⟨.agg [.i a0.kind,.i a0.int,.str a0.label,af.fz a0.args] :: .agg [.i b0.kind,.i b0.int,.str b0.label,af.fz b0.args]::nU [],[none,none],h⟩ _
 refine q1 <| qq ?_
 rcases du H with⟨c0,H⟩| ⟨c0,H⟩
 ·rcases du H with⟨c1,H⟩| ⟨c1,H⟩
  ·rcases du H with⟨c2,H⟩| ⟨c2,H⟩
   ·obtain⟨x0,e0,H⟩:=aW H
    exact qr [.b 5 c0,.b 12 c1,.b 19 c2,.a 24 (TG _ _ _ e0 h _ fq)] <| qt <| fB H
   ·exact qr [.b 5 c0,.b 12 c1,.b 19 c2] <| qt <| fB H
  ·exact qr [.b 5 c0,.b 12 c1] <| qt <| fB H
 ·exact qr [.b 5 c0] <| qt <| fB H
end
end Go.Proofs.YtifafejidnjckaaGreat
