/- Part of the proof: Q47, Q48, Q51, Q54, Q55, Q59, Q62, Q64, Q68, Q71, Q73, Q75, Q78, Q79, Q81, Q85, Q90, Q95, Q96, Q97, Q98, Q102, Q105, Q109, Q18, Q19, Q27, Q29, Q40, Q52, Q53, Q56. -/
import Derived.Test.YtifafejidnjckaaK6
set_option linter.unusedVariables false
set_option linter.unusedSimpArgs false
set_option maxRecDepth 100000
open ByteArray renaming mk → UU
open Eq renaming trans → VB
open List renaming length_set → Ul
namespace Go.Proofs.Ytifafejidnjckaa
open Go Go.R
open Go.IntKind (i64 u64 u8 u32)
def zR:b4:=gK [0,1,2,5,6,7,8,9,13,17,31] [5] [2036,1908,1999,1782,1999,1526,1999,1974,950,1974,1983,1999] [] []
def bW.f (m:Nat)(s0:ab)(DO:Option (Bool))(n0:ao):Option (Int × Int × ab):=(bK.f m s0).bind fun x0=>if (!x0)=true then (some ((0:Int),(6:Int),s0)) else ((DO ).bind fun r0=>if (!r0)=true then (some ((0:Int),(1:Int),s0)) else (if (decide ((s0.aa.length:Int)≥(8000:Int)))=true then (some ((0:Int),(7:Int),s0)) else (jn (fun (σ:Int)=>match σ with | n1=>(app 56 s0.aa ([(ao.mk n0.kind n1 n0.label n0.args)])).bind fun x1=>(app 8 s0.ae ([(s0.aa.length:Int)])).bind fun x2=>some ((s0.aa.length:Int),(0:Int),(ab.mk s0.aj x1 x2))) fun xM=>(if (n0.kind==(0:Int))=true then (xM (s0.aa.length:Int)) else (xM n0.int)))))
def bW.fin (L:Mem)(aq:Nat)(ak:Nat)(an:Nat)(s0:ab)(DO:Option (Bool))(n0:ao)(r:Int × Int × ab)(s:St):Prop:=∃aB aC:Nat,aM Try.prog (s.open zR) Try.f47.results.toList=some (.tup [.int .i64 r.1,.int .i64 r.2.1])∧Has s.h ((aq,.ob [.bool r.2.2.aj,.rs aB 0 r.2.2.aa.length 4,.rs aC 0 r.2.2.ae.length 1])::(aB,.sl r.2.2.aa.length 4 (ah.l r.2.2.aa))::(aC,.sl r.2.2.ae.length 1 (af.l r.2.2.ae))::L)
def Jw (cf:CallF)(m:Nat):Prop:=∀(s0:ab) (DO:Option (Bool)) (n0:ao) (r:Int × Int × ab),bW.f m s0 DO n0=some r→∀h L (aq:Nat) (ak:Nat) (an:Nat),Has h ((aq,.ob [.bool s0.aj,.rs ak 0 s0.aa.length 4,.rs an 0 s0.ae.length 1])::(ak,.sl s0.aa.length 4 (ah.l s0.aa))::(an,.sl s0.ae.length 1 (af.l s0.ae))::L)→∀(eB:FuncId) (aQ bT:List AV),(aK (.fn eB aQ) = .fn eB aQ)→(∀(h:AHeap) (xs:List AV)  r,DO  = some r→aP bQ h xs ([]++bT)→cf eB xs h=some (.bool r,h))→(∀h K,Has h (K++((aq,.ob [.bool s0.aj,.rs ak 0 s0.aa.length 4,.rs an 0 s0.ae.length 1])::(ak,.sl s0.aa.length 4 (ah.l s0.aa))::(an,.sl s0.ae.length 1 (af.l s0.ae))::L))→aP cq h aQ bT)→(∀h,aP cq h bT bT)→∀xs,xs.map aK=[.ptr aq 0,.fn eB aQ,.agg [.int .i64 n0.kind,.int .i64 n0.int,.str n0.label,af.fz n0.args]]→∃aB aC h',cf 47 xs h=some (.tup [.int .i64 r.1,.int .i64 r.2.1],h')∧Has h' ((aq,.ob [.bool r.2.2.aj,.rs aB 0 r.2.2.aa.length 4,.rs aC 0 r.2.2.ae.length 1])::(aB,.sl r.2.2.aa.length 4 (ah.l r.2.2.aa))::(aC,.sl r.2.2.ae.length 1 (af.l r.2.2.ae))::L)
section
variable {cf:CallF}{m:Nat}
theorem mh {aV:FuncId→b4}(ha:aV 47=zR)(DP:LH cf m)(s0:ab)(DO:Option (Bool))(n0:ao)(h:AHeap)(L:Mem)(aq:Nat)(ak:Nat)(an:Nat)(eB:FuncId)(aQ bT:List AV)  (qo:aK (.fn eB aQ) = .fn eB aQ)(gI:∀(h:AHeap) (xs:List AV)  r,DO  = some r→aP bQ h xs ([]++bT)→cf eB xs h=some (.bool r,h))(oz:∀h K,Has h (K++((aq,.ob [.bool s0.aj,.rs ak 0 s0.aa.length 4,.rs an 0 s0.ae.length 1])::(ak,.sl s0.aa.length 4 (ah.l s0.aa))::(an,.sl s0.ae.length 1 (af.l s0.ae))::L))→aP cq h aQ bT)(gJ:∀h,aP cq h bT bT)(o:Has h ((aq,.ob [.bool s0.aj,.rs ak 0 s0.aa.length 4,.rs an 0 s0.ae.length 1])::(ak,.sl s0.aa.length 4 (ah.l s0.aa))::(an,.sl s0.ae.length 1 (af.l s0.ae))::L)){out:Int × Int × ab}(H:bW.f m s0 DO n0=some out) :
  ∃r h',ba Try.prog aV cf m 47 [.ptr aq 0,.fn eB aQ,.agg [.int .i64 n0.kind,.int .i64 n0.int,.str n0.label,af.fz n0.args]] h=some (r,h')∧∃aB aC:Nat,r = .tup [.int .i64 out.1,.int .i64 out.2.1]∧Has h' ((aq,.ob [.bool out.2.2.aj,.rs aB 0 out.2.2.aa.length 4,.rs aC 0 out.2.2.ae.length 1])::(aB,.sl out.2.2.aa.length 4 (ah.l out.2.2.aa))::(aC,.sl out.2.2.ae.length 1 (af.l out.2.2.ae))::L):=by
 refine ar (fn:=Try.f47) ha Try.func47 (by kernel_rfl) (by kernel_rfl) ?_
 refine aI (Q:=fun s=>bW.fin L aq ak an s0 DO n0 out s) (fun _ _ ⟨h1,aB,aC,h2,h3⟩=>⟨h1,_,h2,aB,aC,rfl,h3⟩) ?_
 have H:_=some out:=H
 unfold bW.f at H
 show dt _ cf zR m _ ⟨.ptr aq 0 :: .fn eB aQ :: .agg [.int .i64 n0.kind,.int .i64 n0.int,.str n0.label,af.fz n0.args]::zI [],[none],h⟩ _
 refine q1 <| qq <| qb 0 <| qq ?_
 obtain⟨x0,e0,H⟩:=bl H
 refine qr [.a 1 (DP _ _ e0 h _ (gm (ai (dV (q:=0) o rfl (ai (gi) (ai (eK (E:=ah) (l:=s0.aa) (q:=1) o rfl (fun _=>rfl)) (ai (eK (E:=af) (l:=s0.ae) (q:=2) o rfl (fun _=>rfl)) (ay))))) (ay))))] <| qc H (fun c0 H=>?_) (fun c0 H=>?_)
 ·obtain rfl:=oi H
  exact q1 <| qt <| ⟨.inl rfl,⟨ak,an,by kernel_rfl,he o⟩⟩
 ·refine qq ?_
  obtain⟨r0,e1,H⟩:=bl H
  refine qr [.a 1 (gI _ _ _ e1 (G7 (ay) (oz h [] o)))] <| qc H (fun c1 H=>?_) (fun c1 H=>?_)
  ·obtain rfl:=oi H
   exact q1 <| qt <| ⟨.inl rfl,⟨ak,an,by kernel_rfl,he o⟩⟩
  ·refine qs [.v 3 (show bn Try.prog h 40 (.ptr aq 1)=some (.rs ak 0 s0.aa.length 4) from bV (q:=0) (cs:=[.bool s0.aj,.rs ak 0 s0.aa.length 4,.rs an 0 s0.ae.length 1]) o rfl (by kernel_rfl))] <| qc H (fun c2 H=>?_) (fun c2 H=>?_)
   ·obtain rfl:=oi H
    exact q1 <| qt <| ⟨.inl rfl,⟨ak,an,by kernel_rfl,he o⟩⟩
   ·refine qk <| qq <| qr [.v 3 (show bn Try.prog h 40 (.ptr aq 1)=some (.rs ak 0 s0.aa.length 4) from bV (q:=0) (cs:=[.bool s0.aj,.rs ak 0 s0.aa.length 4,.rs an 0 s0.ae.length 1]) o rfl (by kernel_rfl))] ?_
    obtain⟨xM,G9,H⟩:=ov H
    refine qj (S:=fun (σ:Int) s=>match σ with | n1=>∃(g0:AV) (h0:AHeap),s=⟨.ptr aq 0 :: .any :: .any :: .lp 5 0 :: .any :: .any :: .int .i64 (s0.aa.length:Int)::sQ [g0],[some [.int .i64 n0.kind,.int .i64 n1,.str n0.label,af.fz n0.args]],h0⟩∧Has h0 ((aq,.ob [.bool s0.aj,.rs ak 0 s0.aa.length 4,.rs an 0 s0.ae.length 1])::(ak,.sl s0.aa.length 4 (ah.l s0.aa))::(an,.sl s0.ae.length 1 (af.l s0.ae))::L)) xM H ?_ ?_
    ·rintro n1 s ⟨g0,h0,rfl,o0⟩ H
     have H:=(G9 _).symm.trans H
     try dsimp only at H
     refine qq ?_
     obtain⟨x1,e2,H⟩:=bl H
     obtain⟨aH,h1,e3,o1⟩:=iV (P:=Try.prog) (E:=ah) (l:=s0.aa) (q:=1) (t2:=40) (x:=.fz [.int .i64 n0.kind,.int .i64 n1,.str n0.label,af.fz n0.args] 1 true) (l2:=([(ao.mk n0.kind n1 n0.label n0.args)])) wW o0 rfl (by kernel_rfl) rfl e2
     obtain⟨x2,e4,H⟩:=bl H
     obtain⟨di,h2,e5,o2⟩:=iV (P:=Try.prog) (E:=af) (l:=s0.ae) (q:=2) (t2:=33) (x:=.fz [.int .i64 (s0.aa.length:Int)] 1 true) (l2:=([(s0.aa.length:Int)])) gH o1 rfl (by kernel_rfl) rfl e4
     obtain⟨h3,e6,o3⟩:=nh (P:=Try.prog) (t:=40) (off:=1) (q:=0) (cs:=[.bool s0.aj,.rs ak 0 s0.aa.length 4,.rs an 0 s0.ae.length 1]) (eO:=[.bool s0.aj,.rs aH 0 x1.length 4,.rs an 0 s0.ae.length 1]) (x:=.rs aH 0 x1.length 4) o2 rfl (by kernel_rfl)
     obtain⟨h4,e7,o4⟩:=nh (P:=Try.prog) (t:=33) (off:=2) (q:=0) (cs:=[.bool s0.aj,.rs aH 0 x1.length 4,.rs an 0 s0.ae.length 1]) (eO:=[.bool s0.aj,.rs aH 0 x1.length 4,.rs di 0 x2.length 1]) (x:=.rs di 0 x2.length 1) o3 rfl (by kernel_rfl)
     obtain rfl:=oi H
     exact Ku [] [.v 5 (show bn Try.prog h0 40 (.ptr aq 1)=some (.rs ak 0 s0.aa.length 4) from bV (q:=0) (cs:=[.bool s0.aj,.rs ak 0 s0.aa.length 4,.rs an 0 s0.ae.length 1]) o0 rfl (by kernel_rfl)),.a 8 e3,.v 12 (show bn Try.prog h1 33 (.ptr aq 2)=some (.rs an 0 s0.ae.length 1) from bV (q:=0) (cs:=[.bool s0.aj,.rs ak 0 s0.aa.length 4,.rs an 0 s0.ae.length 1]) o1 rfl (by kernel_rfl)),.a 15 e5,.w 18 e6,.w 21 e7] [.mk (yz o0 (q:=1) rfl (q2:=0) rfl (by decide) e3)] <| qq <| q0 <| qt <| ⟨.inl rfl,⟨aH,di,by kernel_rfl,he o4⟩⟩
    clear G9
    intro sU
    refine q1 <| qc H (fun c3 H=>?_) (fun c3 H=>?_)
    ·exact q0 <| sU (s0.aa.length:Int) _ ⟨.any,h,by kernel_rfl,o⟩ H
    ·exact qk <| sU n0.int _ ⟨.bool (n0.kind==(0:Int)),h,by kernel_rfl,o⟩ H
end
end Go.Proofs.Ytifafejidnjckaa
namespace Go.Proofs.Ytifafejidnjckaa
open Go Go.R
open Go.IntKind (i64 u64 u8 u32)
def zS:b4:=gK [0] [] [1] [] []
def dC.f (m:Nat)  : Option (Bool):=some true
def dC.fin (L:Mem)(r:Bool)(s:St):Prop:=∃av,aM Try.prog (s.open zS) Try.f48.results.toList=some av∧fL s.h av (.bool r)
def PH (cf:CallF)(m:Nat):Prop:=∀ (r:Bool),dC.f m  = some r→∀h xs,aP bQ h xs []→cf 48 xs h=some (.bool r,h)
section
variable {cf:CallF}{m:Nat}
theorem la {aV:FuncId→b4}(ha:aV 48=zS)   (h:AHeap)(L:Mem)  (o:Has h (L)){out:Bool}(H:dC.f m  = some out) :
  ∃r h',ba Try.prog aV cf m 48 [] h=some (r,h')∧fL h' r (.bool out):=by
 refine ar (fn:=Try.f48) ha Try.func48 (by kernel_rfl) (by kernel_rfl) ?_
 refine aI (Q:=fun s=>dC.fin L out s) (fun _ _ h=>h) ?_
 have H:_=some out:=H
 unfold dC.f at H
 show dt _ cf zS m _ ⟨[.any],[],h⟩ _
 obtain rfl:=oi H
 exact q1 <| qq <| q0 <| qt <| ⟨.inl rfl,dz (.bool true) h (du (aD))⟩
end
end Go.Proofs.Ytifafejidnjckaa
namespace Go.Proofs.Ytifafejidnjckaa
open Go Go.R
open Go.IntKind (i64 u64 u8 u32)
def zT:b4:=gK [0,1] [] [2,1] [] []
def cP.f (m:Nat)(x0:Int):Option (Bool):=if (decide (x0≥(-1099511627776:Int)))=true then (some (decide (x0≤(1099511627776:Int)))) else (some false)
def cP.fin (L:Mem)(r:Bool)(s:St):Prop:=∃av,aM Try.prog (s.open zT) Try.f51.results.toList=some av∧fL s.h av (.bool r)
def PI (cf:CallF)(m:Nat):Prop:=∀(x0:Int) (r:Bool),cP.f m x0=some r→∀h xs,aP bQ h xs [.fp [.int .i64 x0] 0]→cf 51 xs h=some (.bool r,h)
section
variable {cf:CallF}{m:Nat}
theorem lb {aV:FuncId→b4}(ha:aV 51=zT)  (x0:Int)(h:AHeap)(L:Mem)  (o:Has h (L)){out:Bool}(H:cP.f m x0=some out) :
  ∃r h',ba Try.prog aV cf m 51 [.fp [.int .i64 x0] 0] h=some (r,h')∧fL h' r (.bool out):=by
 refine ar (fn:=Try.f51) ha Try.func51 (by kernel_rfl) (by kernel_rfl) ?_
 refine aI (Q:=fun s=>cP.fin L out s) (fun _ _ h=>h) ?_
 have H:_=some out:=H
 unfold cP.f at H
 show dt _ cf zT m _ ⟨[.fp [.int .i64 x0] 0,.any],[],h⟩ _
 refine q1 <| qq ?_
 rcases hZ H with⟨c0,H⟩| ⟨c0,H⟩
 ·obtain rfl:=oi H
  exact qr [.b 2 c0] <| qt <| ⟨.inl rfl,dz (.bool (decide (x0≤(1099511627776:Int)))) h (du (aD))⟩
 ·obtain rfl:=oi H
  exact qr [.b 2 c0] <| qt <| ⟨.inl rfl,dz (.bool false) h (du (aD))⟩
end
end Go.Proofs.Ytifafejidnjckaa
namespace Go.Proofs.Ytifafejidnjckaa
open Go Go.R
open Go.IntKind (i64 u64 u8 u32)
def zU:b4:=gK [0,1,4] [] [4,3] [] []
def cj.f (m:Nat)(s0:ab)(n0:Int):Option (Bool):=if (decide (n0≥(0:Int)))=true then (some (decide (n0<(s0.aa.length:Int)))) else (some false)
def cj.fin (L:Mem)(r:Bool)(s:St):Prop:=∃av,aM Try.prog (s.open zU) Try.f54.results.toList=some av∧fL s.h av (.bool r)
def Nh (cf:CallF)(m:Nat):Prop:=∀(s0:ab) (n0:Int) (r:Bool),cj.f m s0 n0=some r→∀h xs,aP bQ h xs [.fp [.bool s0.aj,ah.fz s0.aa,af.fz s0.ae] 0,.int .i64 n0]→cf 54 xs h=some (.bool r,h)
section
variable {cf:CallF}{m:Nat}
theorem ld {aV:FuncId→b4}(ha:aV 54=zU)  (s0:ab)(n0:Int)(h:AHeap)(L:Mem)  (o:Has h (L)){out:Bool}(H:cj.f m s0 n0=some out) :
  ∃r h',ba Try.prog aV cf m 54 [.fp [.bool s0.aj,ah.fz s0.aa,af.fz s0.ae] 0,.int .i64 n0] h=some (r,h')∧fL h' r (.bool out):=by
 refine ar (fn:=Try.f54) ha Try.func54 (by kernel_rfl) (by kernel_rfl) ?_
 refine aI (Q:=fun s=>cj.fin L out s) (fun _ _ h=>h) ?_
 have H:_=some out:=H
 unfold cj.f at H
 show dt _ cf zU m _ ⟨[.fp [.bool s0.aj,ah.fz s0.aa,af.fz s0.ae] 0,.int .i64 n0,.any],[],h⟩ _
 refine q1 <| qq ?_
 rcases hZ H with⟨c0,H⟩| ⟨c0,H⟩
 ·obtain rfl:=oi H
  exact qr [.b 2 c0] <| qt <| ⟨.inl rfl,dz (.bool (decide (n0<(s0.aa.length:Int)))) h (du (aD))⟩
 ·obtain rfl:=oi H
  exact qr [.b 2 c0] <| qt <| ⟨.inl rfl,dz (.bool false) h (du (aD))⟩
end
end Go.Proofs.Ytifafejidnjckaa
namespace Go.Proofs.Ytifafejidnjckaa
open Go Go.R
open Go.IntKind (i64 u64 u8 u32)
def zV:b4:=gK [0,1,2,3,4] [2,3] [19,15] [] []
def eQ.f (m:Nat)(a0:ao)(b0:ao):Option (Bool):=if (!(a0.kind==b0.kind))=true then (some true) else (if (!(a0.int==b0.int))=true then (some true) else (if (!(a0.label.data.toList==b0.label.data.toList))=true then (some true) else (some (!((a0.args.length:Int)==(b0.args.length:Int))))))
def eQ.fin (L:Mem)(r:Bool)(s:St):Prop:=∃av,aM Try.prog (s.open zV) Try.f55.results.toList=some av∧fL s.h av (.bool r)
def Ni (cf:CallF)(m:Nat):Prop:=∀(a0:ao) (b0:ao) (r:Bool),eQ.f m a0 b0=some r→∀h xs,aP bQ h xs [.agg [.int .i64 a0.kind,.int .i64 a0.int,.str a0.label,af.fz a0.args],.agg [.int .i64 b0.kind,.int .i64 b0.int,.str b0.label,af.fz b0.args]]→cf 55 xs h=some (.bool r,h)
section
variable {cf:CallF}{m:Nat}
theorem oA {aV:FuncId→b4}(ha:aV 55=zV)  (a0:ao)(b0:ao)(h:AHeap)(L:Mem)  (o:Has h (L)){out:Bool}(H:eQ.f m a0 b0=some out) :
  ∃r h',ba Try.prog aV cf m 55 [.agg [.int .i64 a0.kind,.int .i64 a0.int,.str a0.label,af.fz a0.args],.agg [.int .i64 b0.kind,.int .i64 b0.int,.str b0.label,af.fz b0.args]] h=some (r,h')∧fL h' r (.bool out):=by
 refine ar (fn:=Try.f55) ha Try.func55 (by kernel_rfl) (by kernel_rfl) ?_
 refine aI (Q:=fun s=>eQ.fin L out s) (fun _ _ h=>h) ?_
 have H:_=some out:=H
 unfold eQ.f at H
 show dt _ cf zV m _ ⟨.agg [.int .i64 a0.kind,.int .i64 a0.int,.str a0.label,af.fz a0.args] :: .agg [.int .i64 b0.kind,.int .i64 b0.int,.str b0.label,af.fz b0.args]::sQ [],[none,none],h⟩ _
 refine q1 <| qq ?_
 rcases hZ H with⟨c0,H⟩| ⟨c0,H⟩
 ·obtain rfl:=oi H
  exact qr [.b 5 c0] <| qt <| ⟨.inl rfl,dz (.bool true) h (du (aD))⟩
 ·rcases hZ H with⟨c1,H⟩| ⟨c1,H⟩
  ·obtain rfl:=oi H
   exact qr [.b 5 c0,.b 12 c1] <| qt <| ⟨.inl rfl,dz (.bool true) h (du (aD))⟩
  ·rcases hZ H with⟨c2,H⟩| ⟨c2,H⟩
   ·obtain rfl:=oi H
    exact qr [.b 5 c0,.b 12 c1,.b 19 c2] <| qt <| ⟨.inl rfl,dz (.bool true) h (du (aD))⟩
   ·obtain rfl:=oi H
    exact qr [.b 5 c0,.b 12 c1,.b 19 c2] <| qt <| ⟨.inl rfl,dz (.bool (!((a0.args.length:Int)==(b0.args.length:Int)))) h (du (aD))⟩
end
end Go.Proofs.Ytifafejidnjckaa
namespace Go.Proofs.Ytifafejidnjckaa
open Go Go.R
open Go.IntKind (i64 u64 u8 u32)
def zW:b4:=gK [0,1,4] [] [4,3] [] []
def bX.f (m:Nat)(s0:ab)(n0:Int):Option (Bool):=(ix s0.aa n0).bind fun v0=>some (v0.kind==(0:Int))
def bX.fin (L:Mem)(r:Bool)(s:St):Prop:=∃av,aM Try.prog (s.open zW) Try.f59.results.toList=some av∧fL s.h av (.bool r)
def Nj (cf:CallF)(m:Nat):Prop:=∀(s0:ab) (n0:Int) (r:Bool),bX.f m s0 n0=some r→∀h xs,aP bQ h xs [.fp [.bool s0.aj,ah.fz s0.aa,af.fz s0.ae] 0,.int .i64 n0]→cf 59 xs h=some (.bool r,h)
section
variable {cf:CallF}{m:Nat}
theorem lG {aV:FuncId→b4}(ha:aV 59=zW)  (s0:ab)(n0:Int)(h:AHeap)(L:Mem)  (o:Has h (L)){out:Bool}(H:bX.f m s0 n0=some out) :
  ∃r h',ba Try.prog aV cf m 59 [.fp [.bool s0.aj,ah.fz s0.aa,af.fz s0.ae] 0,.int .i64 n0] h=some (r,h')∧fL h' r (.bool out):=by
 refine ar (fn:=Try.f59) ha Try.func59 (by kernel_rfl) (by kernel_rfl) ?_
 refine aI (Q:=fun s=>bX.fin L out s) (fun _ _ h=>h) ?_
 have H:_=some out:=H
 unfold bX.f at H
 show dt _ cf zW m _ ⟨[.fp [.bool s0.aj,ah.fz s0.aa,af.fz s0.ae] 0,.int .i64 n0,.any],[],h⟩ _
 refine q1 <| qq ?_
 obtain⟨v0,e0,H⟩:=bl H
 obtain rfl:=oi H
 exact qr [.v 5 (fR (k:=.i64) (E:=ah) (l:=s0.aa) wW e0),.v 7 (rN  (E:=ah) (l:=s0.aa) (off:=0) h A3 e0 rfl)] <| qt <| ⟨.inl rfl,dz (.bool (v0.kind==(0:Int))) h (du (aD))⟩
end
end Go.Proofs.Ytifafejidnjckaa
namespace Go.Proofs.Ytifafejidnjckaa
open Go Go.R
open Go.IntKind (i64 u64 u8 u32)
def zX:b4:=gK [0,1,3] [] [4,3] [] []
def cg.f (m:Nat)(a0:Int)(x0:ab):Option (Bool):=(cj.f m x0 a0).bind fun x1=>some (!x1)
def cg.fin (L:Mem)(r:Bool)(s:St):Prop:=∃av,aM Try.prog (s.open zX) Try.f62.results.toList=some av∧fL s.h av (.bool r)
def PJ (cf:CallF)(m:Nat):Prop:=∀(a0:Int) (x0:ab) (r:Bool),cg.f m a0 x0=some r→∀h xs,aP bQ h xs [.int .i64 a0,.fp [.fp [.bool x0.aj,ah.fz x0.aa,af.fz x0.ae] 0] 0]→cf 62 xs h=some (.bool r,h)
section
variable {cf:CallF}{m:Nat}
theorem jD {aV:FuncId→b4}(ha:aV 62=zX)(Ij:Nh cf m)(a0:Int)(x0:ab)(h:AHeap)(L:Mem)  (o:Has h (L)){out:Bool}(H:cg.f m a0 x0=some out) :
  ∃r h',ba Try.prog aV cf m 62 [.int .i64 a0,.fp [.fp [.bool x0.aj,ah.fz x0.aa,af.fz x0.ae] 0] 0] h=some (r,h')∧fL h' r (.bool out):=by
 refine ar (fn:=Try.f62) ha Try.func62 (by kernel_rfl) (by kernel_rfl) ?_
 refine aI (Q:=fun s=>cg.fin L out s) (fun _ _ h=>h) ?_
 have H:_=some out:=H
 unfold cg.f at H
 show dt _ cf zX m _ ⟨[.int .i64 a0,.fp [.fp [.bool x0.aj,ah.fz x0.aa,af.fz x0.ae] 0] 0,.any],[],h⟩ _
 refine q1 <| qq ?_
 obtain⟨x1,e0,H⟩:=bl H
 obtain rfl:=oi H
 exact qr [.a 2 (Ij _ _ _ e0 h _ (gm (ai (gj (pure_cons (dO) (pure_cons (bL.bH (E:=ah) (l:=x0.aa)) (pure_cons (bL.bH (E:=af) (l:=x0.ae)) (pure_nil))))) (ai (br) (ay)))))] <| qt <| ⟨.inl rfl,dz (.bool (!x1)) h (du (aD))⟩
end
end Go.Proofs.Ytifafejidnjckaa
namespace Go.Proofs.Ytifafejidnjckaa
open Go Go.R
open Go.IntKind (i64 u64 u8 u32)
def zY:b4:=gK [0,2] [] [2,1] [] []
def fG.f (m:Nat)(s0:ByteArray):Option (Bool):=if (s0.data.toList==(UU #[112,114,111,99]).data.toList)=true then (some true) else (if (s0.data.toList==(UU #[99,101,108,108]).data.toList)=true then (some true) else (some (s0.data.toList==(UU #[112,111,114,116]).data.toList)))
def fG.fin (L:Mem)(r:Bool)(s:St):Prop:=∃av,aM Try.prog (s.open zY) Try.f64.results.toList=some av∧fL s.h av (.bool r)
def Nk (cf:CallF)(m:Nat):Prop:=∀(s0:ByteArray) (r:Bool),fG.f m s0=some r→∀h xs,aP bQ h xs [.str s0]→cf 64 xs h=some (.bool r,h)
section
variable {cf:CallF}{m:Nat}
theorem qp {aV:FuncId→b4}(ha:aV 64=zY)  (s0:ByteArray)(h:AHeap)(L:Mem)  (o:Has h (L)){out:Bool}(H:fG.f m s0=some out) :
  ∃r h',ba Try.prog aV cf m 64 [.str s0] h=some (r,h')∧fL h' r (.bool out):=by
 refine ar (fn:=Try.f64) ha Try.func64 (by kernel_rfl) (by kernel_rfl) ?_
 refine aI (Q:=fun s=>fG.fin L out s) (fun _ _ h=>h) ?_
 have H:_=some out:=H
 unfold fG.f at H
 show dt _ cf zY m _ ⟨[.str s0,.any],[],h⟩ _
 refine q1 <| qq ?_
 rcases hZ H with⟨c0,H⟩| ⟨c0,H⟩
 ·obtain rfl:=oi H
  exact qr [.b 2 c0] <| qt <| ⟨.inl rfl,dz (.bool true) h (du (aD))⟩
 ·rcases hZ H with⟨c1,H⟩| ⟨c1,H⟩
  ·obtain rfl:=oi H
   exact qr [.b 2 c0,.b 6 c1] <| qt <| ⟨.inl rfl,dz (.bool true) h (du (aD))⟩
  ·obtain rfl:=oi H
   exact qr [.b 2 c0,.b 6 c1] <| qt <| ⟨.inl rfl,dz (.bool (s0.data.toList==(UU #[112,111,114,116]).data.toList)) h (du (aD))⟩
end
end Go.Proofs.Ytifafejidnjckaa
namespace Go.Proofs.Ytifafejidnjckaa
open Go Go.R
open Go.IntKind (i64 u64 u8 u32)
end Go.Proofs.Ytifafejidnjckaa
namespace Go.Proofs.Ytifafejidnjckaa
open Go Go.R
open Go.IntKind (i64 u64 u8 u32)
end Go.Proofs.Ytifafejidnjckaa
namespace Go.Proofs.Ytifafejidnjckaa
open Go Go.R
open Go.IntKind (i64 u64 u8 u32)
def w0:b4:=gK [0,1,2,3,4,5,7,8,9,10,11,12,14,24,53,54,55,56] [11,1000048] [262080,261696,253760,262079,261568,261574,260567,260567,258519,144855,13783,140759,144855,144855,261631,262079] [] [(8,[(12,none,1)])]
def aW.l0 (m:Nat)(x1:List Int)(x3:bu)(rec:Int→(List (Int × Int))→(List Int)→bu→bu→Option (Int × (List (Int × Int)) × bu))(v2:ao):Nat→(List Int)→Int→(List (Int × Int))→bu→Option ((List Int) × Int × (List (Int × Int)) × bu)
 | 0,_,_,_,_=>none
 | k+1,dj,x6,x7,x8=>if (decide (x6<(v2.args.length:Int)))=true then ((ix v2.args x6).bind fun v3=>(rec v3 x7 x1 x8 x3).bind fun x9=>(app 8 dj ([x9.1])).bind fun kM=>aW.l0 m x1 x3 rec v2 k kM (i64.wrap (x6+(1:Int))) x9.2.1 x9.2.2) else (some ((dj,x6,x7,x8)))
def aW.b (m:Nat)(rec:Int→(List (Int × Int))→(List Int)→bu→bu→Option (Int × (List (Int × Int)) × bu))(i0:Int)(x0:List (Int × Int))(x1:List Int)(x2:bu)(x3:bu):Option (Int × (List (Int × Int)) × bu):=(ix x1 i0).bind fun v0=>if ((wK x0 v0).2)=true then (some ((wK x0 v0).1,x0,x2)) else ((ix x1 i0).bind fun v1=>(ix x3.nodes i0).bind fun v2=>(app 56 x2.nodes [ao.mk v2.kind v2.int v2.label ([]:List Int)]).bind fun x5=>(aW.l0 m x1 x3 rec v2 m ([]:List Int) (0:Int) (BK x0 v1 (x2.nodes.length:Int)) (bu.mk x5 x2.root)).bind fun cJ=>match cJ with | (w5,DQ,Ha,tM)=>(ix tM.nodes (x2.nodes.length:Int)).bind fun v4=>some ((x2.nodes.length:Int),Ha,(bu.mk (tM.nodes.set (x2.nodes.length:Int).toNat (ao.mk v4.kind v4.int v4.label w5)) tM.root)))
def aW.f (m:Nat):Nat→Int→(List (Int × Int))→(List Int)→bu→bu→Option (Int × (List (Int × Int)) × bu)
 | 0,_,_,_,_,_=>none
 | k+1,i0,x0,x1,x2,x3=>aW.b m (aW.f m k) i0 x0 x1 x2 x3
def aW.fin (L:Mem)(cQ:Nat)(dk:Nat)(cR:Nat)(cy:Nat)(dR:Nat)(en:List Nat)(cZ:Nat)(cF:Nat)(i0:Int)(x0:List (Int × Int))(x1:List Int)(x2:bu)(x3:bu)(r:Int × (List (Int × Int)) × bu)(s:St):Prop:=∃(lA:Nat) (gW:List Nat),aM Try.prog (s.open w0) Try.f73.results.toList=some (.int .i64 r.1)∧Has s.h ((cQ,.ob [.mp dk])::(dk,.mp (ou r.2.1))::(cR,.ob [af.fz x1])::(cy,.ob [.rs lA 0 r.2.2.nodes.length 4,.int .i64 r.2.2.root])::(lA,.sl r.2.2.nodes.length 4 (fU.l (bC r.2.2.nodes gW)))::(cZ,.ob [ah.fz x3.nodes,.int .i64 x3.root])::(cF,.ob [.fn 73 [.ptr cQ 0,.ptr cR 0,.ptr cy 0,.ptr cZ 0,.ptr cF 0]])::(fM r.2.2.nodes gW++L))
def LI (cf:CallF)(m:Nat)(kk:Nat):Prop:=∀(i0:Int) (x0:List (Int × Int)) (x1:List Int) (x2:bu) (x3:bu) (r:Int × (List (Int × Int)) × bu),aW.f m kk i0 x0 x1 x2 x3=some r→∀h L (cQ:Nat) (dk:Nat) (cR:Nat) (cy:Nat) (dR:Nat) (en:List Nat) (cZ:Nat) (cF:Nat),Has h ((cQ,.ob [.mp dk])::(dk,.mp (ou x0))::(cR,.ob [af.fz x1])::(cy,.ob [.rs dR 0 x2.nodes.length 4,.int .i64 x2.root])::(dR,.sl x2.nodes.length 4 (fU.l (bC x2.nodes en)))::(cZ,.ob [ah.fz x3.nodes,.int .i64 x3.root])::(cF,.ob [.fn 73 [.ptr cQ 0,.ptr cR 0,.ptr cy 0,.ptr cZ 0,.ptr cF 0]])::(fM x2.nodes en++L))→∀xs,xs.map aK=[.int .i64 i0,.ptr cQ 0,.ptr cR 0,.ptr cy 0,.ptr cZ 0,.ptr cF 0]→∃(lA:Nat) (gW:List Nat) (h':AHeap),cf 73 xs h=some (.int .i64 r.1,h')∧Has h' ((cQ,.ob [.mp dk])::(dk,.mp (ou r.2.1))::(cR,.ob [af.fz x1])::(cy,.ob [.rs lA 0 r.2.2.nodes.length 4,.int .i64 r.2.2.root])::(lA,.sl r.2.2.nodes.length 4 (fU.l (bC r.2.2.nodes gW)))::(cZ,.ob [ah.fz x3.nodes,.int .i64 x3.root])::(cF,.ob [.fn 73 [.ptr cQ 0,.ptr cR 0,.ptr cy 0,.ptr cZ 0,.ptr cF 0]])::(fM r.2.2.nodes gW++L))
section
variable {cf:CallF}{m:Nat}
theorem aW.dB (L:Mem)(cQ:Nat)(dk:Nat)(cR:Nat)(cy:Nat)(dR:Nat)(en:List Nat)(cZ:Nat)(cF:Nat)(i0:Int)(x0:List (Int × Int))(x1:List Int)(x2:bu)(x3:bu)(v2:ao)  {kk:Nat}(DR:LI cf m kk)  : dU Try.prog cf w0 m (sub [1,1,1,1,1,1,1,0,1,0,0] (b6 Try.f73)) (fun k (σ:(List Int) × Int × (List (Int × Int)) × bu)=>aW.l0 m x1 x3 (aW.f m kk) v2 k σ.1 σ.2.1 σ.2.2.1 σ.2.2.2) (fun σ s=>match σ with | (dj,x6,x7,x8)=>∃di ez vc h3,s=⟨sQ (.ptr cy 0 :: .any :: .ptr cF 0::sQ [.int .i64 (x2.nodes.length:Int),.any,.rs di 0 dj.length 1,.any,.any,af.fz v2.args,.int .i64 (v2.args.length:Int),.int .i64 x6,.any]),[none,none],h3⟩∧Has h3 ((di,.sl dj.length 1 (af.l dj))::(ez,.sl x8.nodes.length 4 (fU.l (bC x8.nodes vc)))::(cQ,.ob [.mp dk])::(dk,.mp (ou x7))::(cR,.ob [af.fz x1])::(cy,.ob [.rs ez 0 x8.nodes.length 4,.int .i64 x8.root])::(cZ,.ob [ah.fz x3.nodes,.int .i64 x3.root])::(cF,.ob [.fn 73 [.ptr cQ 0,.ptr cR 0,.ptr cy 0,.ptr cZ 0,.ptr cF 0]])::(fM x8.nodes vc++L))) (fun out e s=>(e = .exit 0∧∃dj x6 x7 x8,(dj,x6,x7,x8)=out∧∃Nl DS Nn No Np di ez vc h3,s=⟨sQ (.ptr cy 0 :: .any::Nl::sQ [.int .i64 (x2.nodes.length:Int),.any,.rs di 0 dj.length 1,.any,.any,DS,Nn,No,Np]),[none,none],h3⟩∧Has h3 ((di,.sl dj.length 1 (af.l dj))::(ez,.sl x8.nodes.length 4 (fU.l (bC x8.nodes vc)))::(cQ,.ob [.mp dk])::(dk,.mp (ou x7))::(cR,.ob [af.fz x1])::(cy,.ob [.rs ez 0 x8.nodes.length 4,.int .i64 x8.root])::(cZ,.ob [ah.fz x3.nodes,.int .i64 x3.root])::(cF,.ob [.fn 73 [.ptr cQ 0,.ptr cR 0,.ptr cy 0,.ptr cZ 0,.ptr cF 0]])::(fM x8.nodes vc++L)))):=by
 refine mK (fun _=>rfl) ?_
 rintro k ⟨dj,x6,x7,x8⟩ s out ⟨di,ez,vc,h3,rfl,o5⟩ H
 have H:aW.l0 m x1 x3 (aW.f m kk) v2 (k+1) dj x6 x7 x8=some out:=H
 refine q1 <| qq <| qc H (fun c1 H=>?_) (fun c1 H=>?_)
 ·refine qk <| qq <| qb 1 <| qq ?_
  obtain⟨v3,e7,H⟩:=bl H
  refine qr [.v 0 (fR (k:=.i64) (E:=af) (l:=v2.args) gH e7),.v 1 (jA  (E:=af) (l:=v2.args) h3 A3 e7 rfl)] ?_
  obtain⟨x9,e8,H⟩:=bl H
  obtain⟨dd,Ik,h4,e9,o6⟩:=DR _ _ _ _ _ _ e8 h3 _ _ _ _ _ _ vc _ _ ((Has.wV (pre:=[(cQ,.ob [.mp dk]),(dk,.mp (ou x7)),(cR,.ob [af.fz x1]),(cy,.ob [.rs ez 0 x8.nodes.length 4,.int .i64 x8.root]),(ez,.sl x8.nodes.length 4 (fU.l (bC x8.nodes vc))),(cZ,.ob [ah.fz x3.nodes,.int .i64 x3.root]),(cF,.ob [.fn 73 [.ptr cQ 0,.ptr cR 0,.ptr cy 0,.ptr cZ 0,.ptr cF 0]])]) (mid:=[(di,.sl dj.length 1 (af.l dj))]) (Has.front (Has.front (Has.front (Has.front (Has.front (Has.front (Has.front (Has.front o5 0 rfl) 7 rfl) 7 rfl) 3 rfl) 7 rfl) 7 rfl) 7 rfl) 7 rfl)))  [.int .i64 v3,.ptr cQ 0,.ptr cR 0,.ptr cy 0,.ptr cZ 0,.ptr cF 0] (au (aN (bf)) (au (rfl) (au (rfl) (au (rfl) (au (rfl) (au (rfl) (bI)))))))
  have o7:=Has.wV (pre:=[(cQ,.ob [.mp dk]),(dk,.mp (ou x9.2.1)),(cR,.ob [af.fz x1]),(cy,.ob [.rs dd 0 x9.2.2.nodes.length 4,.int .i64 x9.2.2.root]),(dd,.sl x9.2.2.nodes.length 4 (fU.l (bC x9.2.2.nodes Ik))),(cZ,.ob [ah.fz x3.nodes,.int .i64 x3.root]),(cF,.ob [.fn 73 [.ptr cQ 0,.ptr cR 0,.ptr cy 0,.ptr cZ 0,.ptr cF 0]])]) (N:=[(di,.sl dj.length 1 (af.l dj))]) (mid:=fM x9.2.2.nodes Ik) o6
  obtain⟨kM,sF,H⟩:=bl H
  obtain⟨eU,h5,w6,o8⟩:=iV (P:=Try.prog) (E:=af) (l:=dj) (q:=7) (t2:=33) (x:=.fz [.int .i64 x9.1] 1 true) (l2:=([x9.1])) gH o7 rfl (by kernel_rfl) rfl sF
  exact qr [.v 1 (show bn Try.prog h3 80 (.ptr cF 0)=some (.fn 73 [.ptr cQ 0,.ptr cR 0,.ptr cy 0,.ptr cZ 0,.ptr cF 0]) from bV (q:=7) (cs:=[.fn 73 [.ptr cQ 0,.ptr cR 0,.ptr cy 0,.ptr cZ 0,.ptr cF 0]]) o5 rfl (by kernel_rfl)),.a 3 e9,.a 5 w6] <| q0 <| ⟨(kM,i64.wrap (x6+(1:Int)),x9.2.1,x9.2.2),⟨eU,dd,Ik,h5,by kernel_rfl,(Has.front (Has.front (Has.front (Has.front (Has.front (Has.front (Has.front (Has.front o8 6 rfl) 6 rfl) 5 rfl) 5 rfl) 5 rfl) 5 rfl) 6 rfl) 7 rfl)⟩,H⟩
 ·exact qx 0 <| ⟨rfl,dj,x6,x7,x8,oi H,.ptr cF 0,af.fz v2.args,.int .i64 (v2.args.length:Int),.int .i64 x6,.bool (decide (x6<(v2.args.length:Int))),di,ez,vc,h3,by kernel_rfl,o5⟩
theorem oB {aV:FuncId→b4}(ha:aV 73=w0)  (i0:Int)(x0:List (Int × Int))(x1:List Int)(x2:bu)(x3:bu)(h:AHeap)(L:Mem)(cQ:Nat)(dk:Nat)(cR:Nat)(cy:Nat)(dR:Nat)(en:List Nat)(cZ:Nat)(cF:Nat)  {kk:Nat}(DR:LI cf m kk)(o:Has h ((cQ,.ob [.mp dk])::(dk,.mp (ou x0))::(cR,.ob [af.fz x1])::(cy,.ob [.rs dR 0 x2.nodes.length 4,.int .i64 x2.root])::(dR,.sl x2.nodes.length 4 (fU.l (bC x2.nodes en)))::(cZ,.ob [ah.fz x3.nodes,.int .i64 x3.root])::(cF,.ob [.fn 73 [.ptr cQ 0,.ptr cR 0,.ptr cy 0,.ptr cZ 0,.ptr cF 0]])::(fM x2.nodes en++L))){out:Int × (List (Int × Int)) × bu}(H:aW.f m (kk+1) i0 x0 x1 x2 x3=some out) :
  ∃r h',ba Try.prog aV cf m 73 [.int .i64 i0,.ptr cQ 0,.ptr cR 0,.ptr cy 0,.ptr cZ 0,.ptr cF 0] h=some (r,h')∧∃(lA:Nat) (gW:List Nat),r = .int .i64 out.1∧Has h' ((cQ,.ob [.mp dk])::(dk,.mp (ou out.2.1))::(cR,.ob [af.fz x1])::(cy,.ob [.rs lA 0 out.2.2.nodes.length 4,.int .i64 out.2.2.root])::(lA,.sl out.2.2.nodes.length 4 (fU.l (bC out.2.2.nodes gW)))::(cZ,.ob [ah.fz x3.nodes,.int .i64 x3.root])::(cF,.ob [.fn 73 [.ptr cQ 0,.ptr cR 0,.ptr cy 0,.ptr cZ 0,.ptr cF 0]])::(fM out.2.2.nodes gW++L)):=by
 refine ar (fn:=Try.f73) ha Try.func73 (by kernel_rfl) (by kernel_rfl) ?_
 refine aI (Q:=fun s=>aW.fin L cQ dk cR cy dR en cZ cF i0 x0 x1 x2 x3 out s) (fun _ _ ⟨h1,lA,gW,h2,h3⟩=>⟨h1,_,h2,lA,gW,rfl,h3⟩) ?_
 have H:aW.b m (aW.f m kk) i0 x0 x1 x2 x3=some out:=H
 unfold aW.b at H
 show dt _ cf w0 m _ ⟨.int .i64 i0 :: .ptr cQ 0 :: .ptr cR 0 :: .ptr cy 0 :: .ptr cZ 0 :: .ptr cF 0::uV [],[none,none],h⟩ _
 refine q1 <| qq <| qq ?_
 obtain⟨v0,e0,H⟩:=bl H
 refine qr [.v 0 (show bn Try.prog h 82 (.ptr cQ 0)=some (.mp dk) from bV (q:=0) (cs:=[.mp dk]) o rfl (by kernel_rfl)),.v 1 (show bn Try.prog h 33 (.ptr cR 0)=some (af.fz x1) from bV (q:=2) (cs:=[af.fz x1]) o rfl (by kernel_rfl)),.v 3 (fR (k:=.i64) (E:=af) (l:=x1) gH e0),.v 4 (jA  (E:=af) (l:=x1) h A3 e0 rfl),.v 5 (show fD Try.prog h 82 (.mp dk) (.int .i64 v0) true=some (.tup [.int .i64 ((wK x0 v0).1),.bool ((wK x0 v0).2)]) from (MM (q:=1) (l:=x0) (k:=v0) KB o rfl).1)] <| qq <| q0 <| qc H (fun c0 H=>?_) (fun c0 H=>?_)
 ·obtain rfl:=oi H
  exact q1 <| qt <| ⟨.inl rfl,⟨dR,en,by kernel_rfl,he o⟩⟩
 ·refine qk <| qq <| qr [.v 1 (show bn Try.prog h 40 (.ptr cy 0)=some (.rs dR 0 x2.nodes.length 4) from bV (q:=3) (cs:=[.rs dR 0 x2.nodes.length 4,.int .i64 x2.root]) o rfl (by kernel_rfl))] <| qq ?_
  obtain⟨v1,e1,H⟩:=bl H
  obtain⟨h0,e2,o0⟩:=MN (q:=1) (l:=x0) (k:=v1) (v:=(x2.nodes.length:Int)) KB o rfl
  refine qr [.v 0 (show bn Try.prog h 82 (.ptr cQ 0)=some (.mp dk) from bV (q:=0) (cs:=[.mp dk]) o rfl (by kernel_rfl)),.v 1 (show bn Try.prog h 33 (.ptr cR 0)=some (af.fz x1) from bV (q:=2) (cs:=[af.fz x1]) o rfl (by kernel_rfl)),.v 3 (fR (k:=.i64) (E:=af) (l:=x1) gH e1),.v 4 (jA  (E:=af) (l:=x1) h A3 e1 rfl),.w 6 e2] <| qq ?_
  obtain⟨v2,e3,H⟩:=bl H
  refine qr [.v 1 (show bn Try.prog h0 40 (.ptr cZ 0)=some (ah.fz x3.nodes) from bV (q:=5) (cs:=[ah.fz x3.nodes,.int .i64 x3.root]) o0 rfl (by kernel_rfl)),.v 3 (fR (k:=.i64) (E:=ah) (l:=x3.nodes) wW e3),.v 4 (jZ  (E:=ah) (l:=x3.nodes) h0 DK DL e3)] <| qq ?_
  have o1:Has h0 (((0),.sl (([]:List Int).length) 1 (af.l ([]:List Int)))::(cQ,.ob [.mp dk])::(dk,.mp (ou (BK x0 v1 (x2.nodes.length:Int))))::(cR,.ob [af.fz x1])::(cy,.ob [.rs dR 0 x2.nodes.length 4,.int .i64 x2.root])::(dR,.sl x2.nodes.length 4 (fU.l (bC x2.nodes en)))::(cZ,.ob [ah.fz x3.nodes,.int .i64 x3.root])::(cF,.ob [.fn 73 [.ptr cQ 0,.ptr cR 0,.ptr cy 0,.ptr cZ 0,.ptr cF 0]])::(fM x2.nodes en++L)):=Has.nil o0 1
  obtain⟨x5,e4,H⟩:=bl H
  obtain⟨aH,eF,h1,e5,o2⟩:=H4 (P:=Try.prog) (t2:=40) (pre:=[(cQ,.ob [.mp dk]),(dk,.mp (ou (BK x0 v1 (x2.nodes.length:Int)))),(cR,.ob [af.fz x1]),(cy,.ob [.rs dR 0 x2.nodes.length 4,.int .i64 x2.root]),(cZ,.ob [ah.fz x3.nodes,.int .i64 x3.root]),(cF,.ob [.fn 73 [.ptr cQ 0,.ptr cR 0,.ptr cy 0,.ptr cZ 0,.ptr cF 0]])]) (ns:=x2.nodes) (ids:=en) (kind:=v2.kind) (int:=v2.int) (label:=v2.label) (args:=([]:List Int)) (x:=.fz [.int .i64 v2.kind,.int .i64 v2.int,.str v2.label,.rs (0) 0 (([]:List Int).length) 1] 1 true) wW (Has.front (Has.front (Has.front (Has.front (Has.front (Has.front (Has.front (Has.front o1 7 rfl) 7 rfl) 6 rfl) 6 rfl) 6 rfl) 6 rfl) 6 rfl) 7 rfl) (by kernel_rfl) rfl e4
  obtain⟨h2,e6,o3⟩:=nh (P:=Try.prog) (t:=40) (off:=0) (q:=4) (cs:=[.rs dR 0 x2.nodes.length 4,.int .i64 x2.root]) (eO:=[.rs aH 0 x5.length 4,.int .i64 x2.root]) (x:=.rs aH 0 x5.length 4) o2 rfl (by kernel_rfl)
  refine qr [.v 1 (show bn Try.prog h0 40 (.ptr cy 0)=some (.rs dR 0 x2.nodes.length 4) from bV (q:=3) (cs:=[.rs dR 0 x2.nodes.length 4,.int .i64 x2.root]) o0 rfl (by kernel_rfl)),.a 10 e5,.w 12 e6] <| qq <| q0 ?_
  have o4:Has h2 ((((0)),.sl (([]:List Int).length) 1 (af.l ([]:List Int)))::(aH,.sl x5.length 4 (fU.l (bC x5 eF)))::(cQ,.ob [.mp dk])::(dk,.mp (ou (BK x0 v1 (x2.nodes.length:Int))))::(cR,.ob [af.fz x1])::(cy,.ob [.rs aH 0 x5.length 4,.int .i64 x2.root])::(cZ,.ob [ah.fz x3.nodes,.int .i64 x3.root])::(cF,.ob [.fn 73 [.ptr cQ 0,.ptr cR 0,.ptr cy 0,.ptr cZ 0,.ptr cF 0]])::(fM x5 eF++L)):=Has.nil o3 1
  refine qq <| qq <| q0 <| qb 0 ?_
  obtain⟨cJ,yD,H⟩:=bl H
  refine ql (aW.dB L cQ dk cR cy dR en cZ cF i0 x0 x1 x2 x3 v2  DR  (([]:List Int),(0:Int),BK x0 v1 (x2.nodes.length:Int),(bu.mk x5 x2.root)) _ _ ⟨((0)),aH,eF,h2,by kernel_rfl,o4⟩ yD) ?_
  rintro e s ⟨rfl,w5,DQ,Ha,tM,rfl,g0,g1,g2,g3,g4,fX,fH,Gc,h6,rfl,o9⟩
  try dsimp only at H
  refine qq ?_
  obtain⟨v4,yE,H⟩:=bl H
  obtain⟨h7,BU,vF⟩:=F9 (P:=Try.prog) (tf:=33) (pre:=[(cQ,.ob [.mp dk]),(dk,.mp (ou Ha)),(cR,.ob [af.fz x1]),(cy,.ob [.rs fH 0 tM.nodes.length 4,.int .i64 tM.root]),(cZ,.ob [ah.fz x3.nodes,.int .i64 x3.root]),(cF,.ob [.fn 73 [.ptr cQ 0,.ptr cR 0,.ptr cy 0,.ptr cZ 0,.ptr cF 0]])]) (args:=w5) (Has.front (Has.front (Has.front (Has.front (Has.front (Has.front (Has.front (Has.front o9 7 rfl) 7 rfl) 7 rfl) 7 rfl) 7 rfl) 7 rfl) 6 rfl) 7 rfl) RV yE
  obtain rfl:=oi H
  exact qr [.v 1 (show bn Try.prog h6 40 (.ptr cy 0)=some (.rs fH 0 tM.nodes.length 4) from bV (q:=5) (cs:=[.rs fH 0 tM.nodes.length 4,.int .i64 tM.root]) o9 rfl (by kernel_rfl)),.v 4 (bj (k:=.i64) (E:=fU) (l:=(bC tM.nodes Gc)) (q:=1) wW o9 rfl (qU yE)),.w 6 BU] <| qq <| q0 <| qt <| ⟨.inl rfl,⟨fH,(u9 tM.nodes Gc (x2.nodes.length:Int) fX),by kernel_rfl,he (by have o:Has h7 ((cQ,.ob [.mp dk])::(dk,.mp (ou Ha))::(cR,.ob [af.fz x1])::(cy,.ob [.rs fH 0 tM.nodes.length 4,.int .i64 tM.root])::(fH,.sl tM.nodes.length 4 (fU.l (bC (tM.nodes.set (x2.nodes.length:Int).toNat (ao.mk v4.kind v4.int v4.label w5)) (u9 tM.nodes Gc (x2.nodes.length:Int) fX))))::(cZ,.ob [ah.fz x3.nodes,.int .i64 x3.root])::(cF,.ob [.fn 73 [.ptr cQ 0,.ptr cR 0,.ptr cy 0,.ptr cZ 0,.ptr cF 0]])::(fM (tM.nodes.set (x2.nodes.length:Int).toNat (ao.mk v4.kind v4.int v4.label w5)) (u9 tM.nodes Gc (x2.nodes.length:Int) fX)++L)):=(Has.front (Has.front (Has.front (Has.front (Has.front (Has.front (Has.front vF 6 rfl) 6 rfl) 2 rfl) 6 rfl) 6 rfl) 6 rfl) 6 rfl); simpa only [Ul] using o)⟩⟩
end
end Go.Proofs.Ytifafejidnjckaa
namespace Go.Proofs.Ytifafejidnjckaa
open Go Go.R
open Go.IntKind (i64 u64 u8 u32)
def w7:b4:=gK [0,1,4,5,7,8,9,16] [] [252,204,140,196,68,251,204,251] [] []
def cu.l0 (m:Nat)(s0:List Int)(f0:Int→Option (Bool)):Nat→Int→Option (Sum Int (Int))
 | 0,_=>none
 | k+1,x0=>if (decide (x0<(s0.length:Int)))=true then ((ix s0 x0).bind fun v0=>(f0 v0).bind fun r0=>if r0=true then (some (.inl x0)) else (cu.l0 m s0 f0 k (i64.wrap (x0+(1:Int))))) else (some (.inr x0))
def cu.f (m:Nat)(s0:List Int)(f0:Int→Option (Bool)):Option (Int):=(cu.l0 m s0 f0 m (0:Int)).bind fun cJ=>match cJ with | .inl r1=>some r1 | .inr x1=>some (-1:Int)
def cu.fin (L:Mem)(r:Int)(s:St):Prop:=∃av,aM Try.prog (s.open w7) Try.f75.results.toList=some av∧fL s.h av (.int .i64 r)
def Nq (cf:CallF)(m:Nat):Prop:=∀(s0:List Int) (f0:Int→Option (Bool)) (r:Int),cu.f m s0 f0=some r→∀(eB:FuncId) (aQ:List AV),(∀(h:AHeap) (xs:List AV) (a0:Int) r,f0 a0=some r→aP bQ h xs ([.int .i64 a0]++aQ)→cf eB xs h=some (.bool r,h))→(∀h,aP cq h aQ aQ)→∀h xs,aP bQ h xs [af.fz s0,.fn eB aQ]→cf 75 xs h=some (.int .i64 r,h)
section
variable {cf:CallF}{m:Nat}
theorem cu.dB (L:Mem)(eB:FuncId)(aQ:List AV)(s0:List Int)(f0:Int→Option (Bool))  (gI:∀(h:AHeap) (xs:List AV) (a0:Int) r,f0 a0=some r→aP bQ h xs ([.int .i64 a0]++aQ)→cf eB xs h=some (.bool r,h))(gJ:∀h,aP cq h aQ aQ)  : dU Try.prog cf w7 m (sub [1,0,1,0,0] (b6 Try.f75)) (fun k (σ:Int)=>cu.l0 m s0 f0 k σ) (fun σ s=>match σ with | x0=>∃h0,s=⟨[af.fz s0,.fn eB aQ,.any,.any,.int .i64 (s0.length:Int),.int .i64 x0,.any,.any],[],h0⟩∧Has h0 (L)) (fun out e s=>(e = .exit 0∧∃x0,.inr x0=out∧∃po yF DN yC BT h0,s=⟨[po,yF,.any,.any,DN,yC,BT,.any],[],h0⟩∧Has h0 (L))∨(e = .ret∧∃r,.inl r=out∧cu.fin L r s)):=by
 refine mK (fun _=>rfl) ?_
 rintro k x0 s out ⟨h0,rfl,o0⟩ H
 have H:cu.l0 m s0 f0 (k+1) x0=some out:=H
 refine q1 <| qq <| qc H (fun c0 H=>?_) (fun c0 H=>?_)
 ·refine qk <| qq <| qb 1 <| qq <| q0 <| qq ?_
  obtain⟨v0,e0,H⟩:=bl H
  obtain⟨r0,e1,H⟩:=bl H
  refine qr [.v 3 (fR (k:=.i64) (E:=af) (l:=s0) gH e0),.v 4 (jA  (E:=af) (l:=s0) h0 A3 e0 rfl),.a 5 (gI _ _ _ _ e1 (G7 (ai (br) (ay)) (gJ h0)))] <| qc H (fun c1 H=>?_) (fun c1 H=>?_)
  ·exact q1 <| qt <| Or.inr (⟨rfl,_,oi H,dz (.int .i64 x0) h0 (du (dT))⟩)
  ·exact qk <| q0 <| ⟨i64.wrap (x0+(1:Int)),⟨h0,by kernel_rfl,o0⟩,H⟩
 ·exact qx 0 <| Or.inl (⟨rfl,x0,oi H,af.fz s0,.fn eB aQ,.int .i64 (s0.length:Int),.int .i64 x0,.bool (decide (x0<(s0.length:Int))),h0,by kernel_rfl,o0⟩)
theorem vd {aV:FuncId→b4}(ha:aV 75=w7)  (s0:List Int)(f0:Int→Option (Bool))(h:AHeap)(L:Mem)(eB:FuncId)(aQ:List AV)  (gI:∀(h:AHeap) (xs:List AV) (a0:Int) r,f0 a0=some r→aP bQ h xs ([.int .i64 a0]++aQ)→cf eB xs h=some (.bool r,h))(gJ:∀h,aP cq h aQ aQ)(o:Has h (L)){out:Int}(H:cu.f m s0 f0=some out) :
  ∃r h',ba Try.prog aV cf m 75 [af.fz s0,.fn eB aQ] h=some (r,h')∧fL h' r (.int .i64 out):=by
 refine ar (fn:=Try.f75) ha Try.func75 (by kernel_rfl) (by kernel_rfl) ?_
 refine aI (Q:=fun s=>cu.fin L out s) (fun _ _ h=>h) ?_
 have H:_=some out:=H
 unfold cu.f at H
 show dt _ cf w7 m _ ⟨af.fz s0 :: .fn eB aQ::vD [],[],h⟩ _
 refine q1 <| qq <| qq <| q0 <| qb 0 ?_
 obtain⟨cJ,e2,H⟩:=bl H
 refine ql (cu.dB L eB aQ s0 f0  gI gJ  (0:Int) _ _ ⟨h,by kernel_rfl,o⟩ e2) ?_
 rintro e s (⟨rfl,x1,rfl,g0,g1,g2,g3,g4,h1,rfl,o1⟩| ⟨rfl,r1,rfl,yB⟩)
 ·try dsimp only at H
  obtain rfl:=oi H
  exact q1 <| qt <| ⟨.inl rfl,dz (.int .i64 (-1:Int)) h1 (du (dT))⟩
 ·try dsimp only at H
  obtain rfl:=oi H
  exact⟨.inl rfl,yB⟩
end
end Go.Proofs.Ytifafejidnjckaa
namespace Go.Proofs.Ytifafejidnjckaa
open Go Go.R
open Go.IntKind (i64 u64 u8 u32)
def w8:b4:=gK [0,1,4,5,7,8,9,16] [] [252,204,140,196,68,251,204,251] [] []
def eH.l0 (m:Nat)(s0:List ao)(f0:ao→Option (Bool)):Nat→Int→Option (Sum Int (Int))
 | 0,_=>none
 | k+1,x0=>if (decide (x0<(s0.length:Int)))=true then ((ix s0 x0).bind fun v0=>(f0 v0).bind fun r0=>if r0=true then (some (.inl x0)) else (eH.l0 m s0 f0 k (i64.wrap (x0+(1:Int))))) else (some (.inr x0))
def eH.f (m:Nat)(s0:List ao)(f0:ao→Option (Bool)):Option (Int):=(eH.l0 m s0 f0 m (0:Int)).bind fun cJ=>match cJ with | .inl r1=>some r1 | .inr x1=>some (-1:Int)
def eH.fin (L:Mem)(r:Int)(s:St):Prop:=∃av,aM Try.prog (s.open w8) Try.f78.results.toList=some av∧fL s.h av (.int .i64 r)
def PK (cf:CallF)(m:Nat):Prop:=∀(s0:List ao) (f0:ao→Option (Bool)) (r:Int),eH.f m s0 f0=some r→∀(eB:FuncId) (aQ:List AV),(∀(h:AHeap) (xs:List AV) (a0:ao) r,f0 a0=some r→aP bQ h xs ([.agg [.int .i64 a0.kind,.int .i64 a0.int,.str a0.label,af.fz a0.args]]++aQ)→cf eB xs h=some (.bool r,h))→(∀h,aP cq h aQ aQ)→∀h xs,aP bQ h xs [ah.fz s0,.fn eB aQ]→cf 78 xs h=some (.int .i64 r,h)
section
variable {cf:CallF}{m:Nat}
theorem eH.dB (L:Mem)(eB:FuncId)(aQ:List AV)(s0:List ao)(f0:ao→Option (Bool))  (gI:∀(h:AHeap) (xs:List AV) (a0:ao) r,f0 a0=some r→aP bQ h xs ([.agg [.int .i64 a0.kind,.int .i64 a0.int,.str a0.label,af.fz a0.args]]++aQ)→cf eB xs h=some (.bool r,h))(gJ:∀h,aP cq h aQ aQ)  : dU Try.prog cf w8 m (sub [1,0,1,0,0] (b6 Try.f78)) (fun k (σ:Int)=>eH.l0 m s0 f0 k σ) (fun σ s=>match σ with | x0=>∃h0,s=⟨[ah.fz s0,.fn eB aQ,.any,.any,.int .i64 (s0.length:Int),.int .i64 x0,.any,.any],[],h0⟩∧Has h0 (L)) (fun out e s=>(e = .exit 0∧∃x0,.inr x0=out∧∃po yF DN yC BT h0,s=⟨[po,yF,.any,.any,DN,yC,BT,.any],[],h0⟩∧Has h0 (L))∨(e = .ret∧∃r,.inl r=out∧eH.fin L r s)):=by
 refine mK (fun _=>rfl) ?_
 rintro k x0 s out ⟨h0,rfl,o0⟩ H
 have H:eH.l0 m s0 f0 (k+1) x0=some out:=H
 refine q1 <| qq <| qc H (fun c0 H=>?_) (fun c0 H=>?_)
 ·refine qk <| qq <| qb 1 <| qq <| q0 <| qq ?_
  obtain⟨v0,e0,H⟩:=bl H
  obtain⟨r0,e1,H⟩:=bl H
  refine qr [.v 3 (fR (k:=.i64) (E:=ah) (l:=s0) wW e0),.v 4 (jZ  (E:=ah) (l:=s0) h0 DK DL e0),.a 5 (gI _ _ _ _ e1 (G7 (ai (jB (ai (br) (ai (br) (ai (cH) (ai (fT (E:=af)) (ay)))))) (ay)) (gJ h0)))] <| qc H (fun c1 H=>?_) (fun c1 H=>?_)
  ·exact q1 <| qt <| Or.inr (⟨rfl,_,oi H,dz (.int .i64 x0) h0 (du (dT))⟩)
  ·exact qk <| q0 <| ⟨i64.wrap (x0+(1:Int)),⟨h0,by kernel_rfl,o0⟩,H⟩
 ·exact qx 0 <| Or.inl (⟨rfl,x0,oi H,ah.fz s0,.fn eB aQ,.int .i64 (s0.length:Int),.int .i64 x0,.bool (decide (x0<(s0.length:Int))),h0,by kernel_rfl,o0⟩)
theorem ve {aV:FuncId→b4}(ha:aV 78=w8)  (s0:List ao)(f0:ao→Option (Bool))(h:AHeap)(L:Mem)(eB:FuncId)(aQ:List AV)  (gI:∀(h:AHeap) (xs:List AV) (a0:ao) r,f0 a0=some r→aP bQ h xs ([.agg [.int .i64 a0.kind,.int .i64 a0.int,.str a0.label,af.fz a0.args]]++aQ)→cf eB xs h=some (.bool r,h))(gJ:∀h,aP cq h aQ aQ)(o:Has h (L)){out:Int}(H:eH.f m s0 f0=some out) :
  ∃r h',ba Try.prog aV cf m 78 [ah.fz s0,.fn eB aQ] h=some (r,h')∧fL h' r (.int .i64 out):=by
 refine ar (fn:=Try.f78) ha Try.func78 (by kernel_rfl) (by kernel_rfl) ?_
 refine aI (Q:=fun s=>eH.fin L out s) (fun _ _ h=>h) ?_
 have H:_=some out:=H
 unfold eH.f at H
 show dt _ cf w8 m _ ⟨ah.fz s0 :: .fn eB aQ::vD [],[],h⟩ _
 refine q1 <| qq <| qq <| q0 <| qb 0 ?_
 obtain⟨cJ,e2,H⟩:=bl H
 refine ql (eH.dB L eB aQ s0 f0  gI gJ  (0:Int) _ _ ⟨h,by kernel_rfl,o⟩ e2) ?_
 rintro e s (⟨rfl,x1,rfl,g0,g1,g2,g3,g4,h1,rfl,o1⟩| ⟨rfl,r1,rfl,yB⟩)
 ·try dsimp only at H
  obtain rfl:=oi H
  exact q1 <| qt <| ⟨.inl rfl,dz (.int .i64 (-1:Int)) h1 (du (dT))⟩
 ·try dsimp only at H
  obtain rfl:=oi H
  exact⟨.inl rfl,yB⟩
end
end Go.Proofs.Ytifafejidnjckaa
namespace Go.Proofs.Ytifafejidnjckaa
open Go Go.R
open Go.IntKind (i64 u64 u8 u32)
def zZ:b4:=gK [0,1,3] [] [4,3] [] []
def gx.f (m:Nat)(a0:Int)(x0:Int):Option (Bool):=if (decide (a0<(0:Int)))=true then (some true) else (some (decide (a0≥x0)))
def gx.fin (L:Mem)(r:Bool)(s:St):Prop:=∃av,aM Try.prog (s.open zZ) Try.f79.results.toList=some av∧fL s.h av (.bool r)
def PL (cf:CallF)(m:Nat):Prop:=∀(a0:Int) (x0:Int) (r:Bool),gx.f m a0 x0=some r→∀h xs,aP bQ h xs [.int .i64 a0,.fp [.int .i64 x0] 0]→cf 79 xs h=some (.bool r,h)
section
variable {cf:CallF}{m:Nat}
theorem pq {aV:FuncId→b4}(ha:aV 79=zZ)  (a0:Int)(x0:Int)(h:AHeap)(L:Mem)  (o:Has h (L)){out:Bool}(H:gx.f m a0 x0=some out) :
  ∃r h',ba Try.prog aV cf m 79 [.int .i64 a0,.fp [.int .i64 x0] 0] h=some (r,h')∧fL h' r (.bool out):=by
 refine ar (fn:=Try.f79) ha Try.func79 (by kernel_rfl) (by kernel_rfl) ?_
 refine aI (Q:=fun s=>gx.fin L out s) (fun _ _ h=>h) ?_
 have H:_=some out:=H
 unfold gx.f at H
 show dt _ cf zZ m _ ⟨[.int .i64 a0,.fp [.int .i64 x0] 0,.any],[],h⟩ _
 refine q1 <| qq ?_
 rcases hZ H with⟨c0,H⟩| ⟨c0,H⟩
 ·obtain rfl:=oi H
  exact qr [.b 2 c0] <| qt <| ⟨.inl rfl,dz (.bool true) h (du (aD))⟩
 ·obtain rfl:=oi H
  exact qr [.b 2 c0] <| qt <| ⟨.inl rfl,dz (.bool (decide (a0≥x0))) h (du (aD))⟩
end
end Go.Proofs.Ytifafejidnjckaa
namespace Go.Proofs.Ytifafejidnjckaa
open Go Go.R
open Go.IntKind (i64 u64 u8 u32)
def w9:b4:=gK [0,2,3,5,6,7,8,9,14] [] [510,506,395,267,387,131,509,395,509] [] []
def bY.l0 (m:Nat)(fY:List Int):Nat→Int→Option (Sum Int (Int))
 | 0,_=>none
 | k+1,x0=>if (decide (x0<(fY.length:Int)))=true then ((ix fY x0).bind fun v0=>if (!(v0==(0:Int)))=true then (some (.inl v0)) else (bY.l0 m fY k (i64.wrap (x0+(1:Int))))) else (some (.inr x0))
def bY.f (m:Nat)(fY:List Int):Option (Int):=(bY.l0 m fY m (0:Int)).bind fun cJ=>match cJ with | .inl r0=>some r0 | .inr x1=>some (0:Int)
def bY.fin (L:Mem)(r:Int)(s:St):Prop:=∃av,aM Try.prog (s.open w9) Try.f81.results.toList=some av∧fL s.h av (.int .i64 r)
def PM (cf:CallF)(m:Nat):Prop:=∀(fY:List Int) (r:Int),bY.f m fY=some r→∀h xs,aP bQ h xs [af.fz fY]→cf 81 xs h=some (.int .i64 r,h)
section
variable {cf:CallF}{m:Nat}
theorem bY.dB (L:Mem)(fY:List Int)   : dU Try.prog cf w9 m (sub [1,1,0,1,0,0] (b6 Try.f81)) (fun k (σ:Int)=>bY.l0 m fY k σ) (fun σ s=>match σ with | x0=>∃h0,s=⟨[.any,.any,.int .i64 (0:Int),.any,af.fz fY,.int .i64 (fY.length:Int),.int .i64 x0,.any,.any],[],h0⟩∧Has h0 (L)) (fun out e s=>(e = .exit 0∧∃x0,.inr x0=out∧∃Gb DN yC BT h0,s=⟨[.any,.any,.int .i64 (0:Int),.any,Gb,DN,yC,BT,.any],[],h0⟩∧Has h0 (L))∨(e = .ret∧∃r,.inl r=out∧bY.fin L r s)):=by
 refine mK (fun _=>rfl) ?_
 rintro k x0 s out ⟨h0,rfl,o0⟩ H
 have H:bY.l0 m fY (k+1) x0=some out:=H
 refine q1 <| qq <| qc H (fun c0 H=>?_) (fun c0 H=>?_)
 ·refine qk <| qq <| qb 1 <| qq ?_
  obtain⟨v0,e0,H⟩:=bl H
  refine qr [.v 0 (fR (k:=.i64) (E:=af) (l:=fY) gH e0),.v 1 (jA  (E:=af) (l:=fY) h0 A3 e0 rfl)] <| qq <| q0 <| qc H (fun c1 H=>?_) (fun c1 H=>?_)
  ·exact q1 <| qt <| Or.inr (⟨rfl,_,oi H,dz (.int .i64 v0) h0 (du (dT))⟩)
  ·exact qk <| q0 <| ⟨i64.wrap (x0+(1:Int)),⟨h0,by kernel_rfl,o0⟩,H⟩
 ·exact qx 0 <| Or.inl (⟨rfl,x0,oi H,af.fz fY,.int .i64 (fY.length:Int),.int .i64 x0,.bool (decide (x0<(fY.length:Int))),h0,by kernel_rfl,o0⟩)
theorem qu {aV:FuncId→b4}(ha:aV 81=w9)  (fY:List Int)(h:AHeap)(L:Mem)  (o:Has h (L)){out:Int}(H:bY.f m fY=some out) :
  ∃r h',ba Try.prog aV cf m 81 [af.fz fY] h=some (r,h')∧fL h' r (.int .i64 out):=by
 refine ar (fn:=Try.f81) ha Try.func81 (by kernel_rfl) (by kernel_rfl) ?_
 refine aI (Q:=fun s=>bY.fin L out s) (fun _ _ h=>h) ?_
 have H:_=some out:=H
 unfold bY.f at H
 show dt _ cf w9 m _ ⟨af.fz fY::zI [],[],h⟩ _
 refine q1 <| qq <| q0 <| qq <| qq <| q0 <| qb 0 ?_
 obtain⟨cJ,e1,H⟩:=bl H
 refine ql (bY.dB L fY   (0:Int) _ _ ⟨h,by kernel_rfl,o⟩ e1) ?_
 rintro e s (⟨rfl,x1,rfl,g0,g1,g2,g3,h1,rfl,o1⟩| ⟨rfl,r0,rfl,yB⟩)
 ·try dsimp only at H
  obtain rfl:=oi H
  exact q1 <| qt <| ⟨.inl rfl,dz (.int .i64 (0:Int)) h1 (du (dT))⟩
 ·try dsimp only at H
  obtain rfl:=oi H
  exact⟨.inl rfl,yB⟩
end
end Go.Proofs.Ytifafejidnjckaa
namespace Go.Proofs.Ytifafejidnjckaa
open Go Go.R
open Go.IntKind (i64 u64 u8 u32)
def z6:b4:=gK [0,2] [] [2,1] [] []
def fA.f (m:Nat)(c0:Int):Option (Bool):=if (decide (c0≥(97:Int)))=true then (if (decide (c0≤(122:Int)))=true then (some true) else (if (decide (c0≥(65:Int)))=true then (if (decide (c0≤(90:Int)))=true then (some true) else (if (decide (c0≥(48:Int)))=true then (if (decide (c0≤(57:Int)))=true then (some true) else (some (c0==(95:Int)))) else (some (c0==(95:Int))))) else (if (decide (c0≥(48:Int)))=true then (if (decide (c0≤(57:Int)))=true then (some true) else (some (c0==(95:Int)))) else (some (c0==(95:Int)))))) else (if (decide (c0≥(65:Int)))=true then (if (decide (c0≤(90:Int)))=true then (some true) else (if (decide (c0≥(48:Int)))=true then (if (decide (c0≤(57:Int)))=true then (some true) else (some (c0==(95:Int)))) else (some (c0==(95:Int))))) else (if (decide (c0≥(48:Int)))=true then (if (decide (c0≤(57:Int)))=true then (some true) else (some (c0==(95:Int)))) else (some (c0==(95:Int)))))
def fA.fin (L:Mem)(r:Bool)(s:St):Prop:=∃av,aM Try.prog (s.open z6) Try.f85.results.toList=some av∧fL s.h av (.bool r)
def Nr (cf:CallF)(m:Nat):Prop:=∀(c0:Int) (r:Bool),fA.f m c0=some r→∀h xs,aP bQ h xs [.int .u8 c0]→cf 85 xs h=some (.bool r,h)
section
variable {cf:CallF}{m:Nat}
theorem pt {aV:FuncId→b4}(ha:aV 85=z6)  (c0:Int)(h:AHeap)(L:Mem)  (o:Has h (L)){out:Bool}(H:fA.f m c0=some out) :
  ∃r h',ba Try.prog aV cf m 85 [.int .u8 c0] h=some (r,h')∧fL h' r (.bool out):=by
 refine ar (fn:=Try.f85) ha Try.func85 (by kernel_rfl) (by kernel_rfl) ?_
 refine aI (Q:=fun s=>fA.fin L out s) (fun _ _ h=>h) ?_
 have H:_=some out:=H
 unfold fA.f at H
 show dt _ cf z6 m _ ⟨[.int .u8 c0,.any],[],h⟩ _
 refine q1 <| qq ?_
 rcases hZ H with⟨c1,H⟩| ⟨c1,H⟩
 ·rcases hZ H with⟨c2,H⟩| ⟨c2,H⟩
  ·obtain rfl:=oi H
   exact qr [.b 2 c1,.b 6 c2] <| qt <| ⟨.inl rfl,dz (.bool true) h (du (aD))⟩
  ·rcases hZ H with⟨c3,H⟩| ⟨c3,H⟩
   ·rcases hZ H with⟨c4,H⟩| ⟨c4,H⟩
    ·obtain rfl:=oi H
     exact qr [.b 2 c1,.b 6 c2,.b 9 c3,.b 14 c4] <| qt <| ⟨.inl rfl,dz (.bool true) h (du (aD))⟩
    ·rcases hZ H with⟨c5,H⟩| ⟨c5,H⟩
     ·rcases hZ H with⟨c6,H⟩| ⟨c6,H⟩
      ·obtain rfl:=oi H
       exact qr [.b 2 c1,.b 6 c2,.b 9 c3,.b 14 c4,.b 17 c5,.b 22 c6] <| qt <| ⟨.inl rfl,dz (.bool true) h (du (aD))⟩
      ·obtain rfl:=oi H
       exact qr [.b 2 c1,.b 6 c2,.b 9 c3,.b 14 c4,.b 17 c5,.b 22 c6] <| qt <| ⟨.inl rfl,dz (.bool (c0==(95:Int))) h (du (aD))⟩
     ·obtain rfl:=oi H
      exact qr [.b 2 c1,.b 6 c2,.b 9 c3,.b 14 c4,.b 17 c5] <| qt <| ⟨.inl rfl,dz (.bool (c0==(95:Int))) h (du (aD))⟩
   ·rcases hZ H with⟨c7,H⟩| ⟨c7,H⟩
    ·rcases hZ H with⟨c8,H⟩| ⟨c8,H⟩
     ·obtain rfl:=oi H
      exact qr [.b 2 c1,.b 6 c2,.b 9 c3,.b 17 c7,.b 22 c8] <| qt <| ⟨.inl rfl,dz (.bool true) h (du (aD))⟩
     ·obtain rfl:=oi H
      exact qr [.b 2 c1,.b 6 c2,.b 9 c3,.b 17 c7,.b 22 c8] <| qt <| ⟨.inl rfl,dz (.bool (c0==(95:Int))) h (du (aD))⟩
    ·obtain rfl:=oi H
     exact qr [.b 2 c1,.b 6 c2,.b 9 c3,.b 17 c7] <| qt <| ⟨.inl rfl,dz (.bool (c0==(95:Int))) h (du (aD))⟩
 ·rcases hZ H with⟨c9,H⟩| ⟨c9,H⟩
  ·rcases hZ H with⟨Gd,H⟩| ⟨Gd,H⟩
   ·obtain rfl:=oi H
    exact qr [.b 2 c1,.b 9 c9,.b 14 Gd] <| qt <| ⟨.inl rfl,dz (.bool true) h (du (aD))⟩
   ·rcases hZ H with⟨tN,H⟩| ⟨tN,H⟩
    ·rcases hZ H with⟨DT,H⟩| ⟨DT,H⟩
     ·obtain rfl:=oi H
      exact qr [.b 2 c1,.b 9 c9,.b 14 Gd,.b 17 tN,.b 22 DT] <| qt <| ⟨.inl rfl,dz (.bool true) h (du (aD))⟩
     ·obtain rfl:=oi H
      exact qr [.b 2 c1,.b 9 c9,.b 14 Gd,.b 17 tN,.b 22 DT] <| qt <| ⟨.inl rfl,dz (.bool (c0==(95:Int))) h (du (aD))⟩
    ·obtain rfl:=oi H
     exact qr [.b 2 c1,.b 9 c9,.b 14 Gd,.b 17 tN] <| qt <| ⟨.inl rfl,dz (.bool (c0==(95:Int))) h (du (aD))⟩
  ·rcases hZ H with⟨BV,H⟩| ⟨BV,H⟩
   ·rcases hZ H with⟨DU,H⟩| ⟨DU,H⟩
    ·obtain rfl:=oi H
     exact qr [.b 2 c1,.b 9 c9,.b 17 BV,.b 22 DU] <| qt <| ⟨.inl rfl,dz (.bool true) h (du (aD))⟩
    ·obtain rfl:=oi H
     exact qr [.b 2 c1,.b 9 c9,.b 17 BV,.b 22 DU] <| qt <| ⟨.inl rfl,dz (.bool (c0==(95:Int))) h (du (aD))⟩
   ·obtain rfl:=oi H
    exact qr [.b 2 c1,.b 9 c9,.b 17 BV] <| qt <| ⟨.inl rfl,dz (.bool (c0==(95:Int))) h (du (aD))⟩
end
end Go.Proofs.Ytifafejidnjckaa
namespace Go.Proofs.Ytifafejidnjckaa
open Go Go.R
open Go.IntKind (i64 u64 u8 u32)
end Go.Proofs.Ytifafejidnjckaa
namespace Go.Proofs.Ytifafejidnjckaa
open Go Go.R
open Go.IntKind (i64 u64 u8 u32)
end Go.Proofs.Ytifafejidnjckaa
namespace Go.Proofs.Ytifafejidnjckaa
open Go Go.R
open Go.IntKind (i64 u64 u8 u32)
end Go.Proofs.Ytifafejidnjckaa
namespace Go.Proofs.Ytifafejidnjckaa
open Go Go.R
open Go.IntKind (i64 u64 u8 u32)
def z7:b4:=gK [0,2] [] [2,1] [] []
def cmp_isNaN_int.f (m:Nat)(x0:Int):Option (Bool):=some (!(x0==x0))
def cmp_isNaN_int.fin (L:Mem)(r:Bool)(s:St):Prop:=∃av,aM Try.prog (s.open z7) Try.f97.results.toList=some av∧fL s.h av (.bool r)
def PN (cf:CallF)(m:Nat):Prop:=∀(x0:Int) (r:Bool),cmp_isNaN_int.f m x0=some r→∀h xs,aP bQ h xs [.int .i64 x0]→cf 97 xs h=some (.bool r,h)
section
variable {cf:CallF}{m:Nat}
theorem nE {aV:FuncId→b4}(ha:aV 97=z7)  (x0:Int)(h:AHeap)(L:Mem)  (o:Has h (L)){out:Bool}(H:cmp_isNaN_int.f m x0=some out) :
  ∃r h',ba Try.prog aV cf m 97 [.int .i64 x0] h=some (r,h')∧fL h' r (.bool out):=by
 refine ar (fn:=Try.f97) ha Try.func97 (by kernel_rfl) (by kernel_rfl) ?_
 refine aI (Q:=fun s=>cmp_isNaN_int.fin L out s) (fun _ _ h=>h) ?_
 have H:_=some out:=H
 unfold cmp_isNaN_int.f at H
 show dt _ cf z7 m _ ⟨[.int .i64 x0,.any],[],h⟩ _
 obtain rfl:=oi H
 exact q1 <| qq <| q0 <| qt <| ⟨.inl rfl,dz (.bool (!(x0==x0))) h (du (aD))⟩
end
end Go.Proofs.Ytifafejidnjckaa
namespace Go.Proofs.Ytifafejidnjckaa
open Go Go.R
open Go.IntKind (i64 u64 u8 u32)
def z8:b4:=gK [0,2] [] [2,1] [] []
def cmp_isNaN_string.f (m:Nat)(x0:ByteArray):Option (Bool):=some (!(x0.data.toList==x0.data.toList))
def cmp_isNaN_string.fin (L:Mem)(r:Bool)(s:St):Prop:=∃av,aM Try.prog (s.open z8) Try.f98.results.toList=some av∧fL s.h av (.bool r)
def PO (cf:CallF)(m:Nat):Prop:=∀(x0:ByteArray) (r:Bool),cmp_isNaN_string.f m x0=some r→∀h xs,aP bQ h xs [.str x0]→cf 98 xs h=some (.bool r,h)
section
variable {cf:CallF}{m:Nat}
theorem lH {aV:FuncId→b4}(ha:aV 98=z8)  (x0:ByteArray)(h:AHeap)(L:Mem)  (o:Has h (L)){out:Bool}(H:cmp_isNaN_string.f m x0=some out) :
  ∃r h',ba Try.prog aV cf m 98 [.str x0] h=some (r,h')∧fL h' r (.bool out):=by
 refine ar (fn:=Try.f98) ha Try.func98 (by kernel_rfl) (by kernel_rfl) ?_
 refine aI (Q:=fun s=>cmp_isNaN_string.fin L out s) (fun _ _ h=>h) ?_
 have H:_=some out:=H
 unfold cmp_isNaN_string.f at H
 show dt _ cf z8 m _ ⟨[.str x0,.any],[],h⟩ _
 obtain rfl:=oi H
 exact q1 <| qq <| q0 <| qt <| ⟨.inl rfl,dz (.bool (!(x0.data.toList==x0.data.toList))) h (du (aD))⟩
end
end Go.Proofs.Ytifafejidnjckaa
namespace Go.Proofs.Ytifafejidnjckaa
open Go Go.R
open Go.IntKind (i64 u64 u8 u32)
end Go.Proofs.Ytifafejidnjckaa
namespace Go.Proofs.Ytifafejidnjckaa
open Go Go.R
open Go.IntKind (i64 u64 u8 u32)
def pv:b4:=gK [0,1,2,3,8,9,14,34] [] [224,160,224,192,64,192,192] [] []
def aU.l1 (m:Nat)(a0:Int)(aS:Int→Int→Option (Int)):Nat→(List Int)→Int→Option ((List Int) × Int)
 | 0,_,_=>none
 | k+1,cU,j0=>if (decide (j0 > a0))=true then ((ix cU j0).bind fun v0=>(ix cU (i64.wrap (j0 - (1:Int)))).bind fun v1=>(aS v0 v1).bind fun r0=>if (decide (r0<(0:Int)))=true then ((ix cU (i64.wrap (j0 - (1:Int)))).bind fun v2=>(ix cU j0).bind fun v3=>(ix cU j0).bind fun v4=>(ix (cU.set j0.toNat v2) (i64.wrap (j0 - (1:Int)))).bind fun v5=>aU.l1 m a0 aS k ((cU.set j0.toNat v2).set (i64.wrap (j0 - (1:Int))).toNat v3) (i64.wrap (j0 - (1:Int)))) else (some ((cU,j0)))) else (some ((cU,j0)))
def aU.l0 (m:Nat)(a0:Int)(b0:Int)(aS:Int→Int→Option (Int)):Nat→(List Int)→Int→Option ((List Int) × Int)
 | 0,_,_=>none
 | k+1,bk,i0=>if (decide (i0<b0))=true then ((aU.l1 m a0 aS m bk i0).bind fun cJ=>match cJ with | (dD,j1)=>aU.l0 m a0 b0 aS k dD (i64.wrap (i0+(1:Int)))) else (some ((bk,i0)))
def aU.f (m:Nat)(aw:List Int)(a0:Int)(b0:Int)(aS:Int→Int→Option (Int)):Option ((List Int)):=(aU.l0 m a0 b0 aS m aw (i64.wrap (a0+(1:Int)))).bind fun dE=>match dE with | (iY,i1)=>some iY
def aU.fin (L:Mem)(aH:Nat)(aw:List Int)(a0:Int)(b0:Int)(aS:Int→Int→Option (Int))(r:(List Int))(s:St):Prop:=aM Try.prog (s.open pv) Try.f105.results.toList=some (.tup [])∧Has s.h ((aH,.sl aw.length 1 (af.l r))::L)
def Il (cf:CallF)(m:Nat):Prop:=∀(aw:List Int) (a0:Int) (b0:Int) (aS:Int→Int→Option (Int)) (r:(List Int)),aU.f m aw a0 b0 aS=some r→∀h L (ca:Nat) (aH:Nat),Has h ((aH,.sl ca 1 (af.l aw))::L)→∀(p6:FuncId) (fB eG:List AV),(aK (.fn p6 fB) = .fn p6 fB)→(∀(h:AHeap) (xs:List AV) (a0:Int) (a1:Int) r,aS a0 a1=some r→aP bQ h xs ([.int .i64 a0,.int .i64 a1]++eG)→cf p6 xs h=some (.int .i64 r,h))→(∀h K,Has h (K++(L))→aP cq h fB eG)→(∀h,aP cq h eG eG)→∀xs,xs.map aK=[.rs aH 0 ca 1,.int .i64 a0,.int .i64 b0,.fn p6 fB]→∃h',cf 105 xs h=some (.tup [],h')∧Has h' ((aH,.sl ca 1 (af.l r))::L)
section
variable {cf:CallF}{m:Nat}
theorem aU.mi (L:Mem)(aH:Nat)(p6:FuncId)(fB eG:List AV)(aw:List Int)(a0:Int)(b0:Int)(aS:Int→Int→Option (Int))(i0:Int)  (BW:aK (.fn p6 fB) = .fn p6 fB)(yG:∀(h:AHeap) (xs:List AV) (a0:Int) (a1:Int) r,aS a0 a1=some r→aP bQ h xs ([.int .i64 a0,.int .i64 a1]++eG)→cf p6 xs h=some (.int .i64 r,h))(yH:∀h K,Has h (K++(L))→aP cq h fB eG)(BX:∀h,aP cq h eG eG)  : dU Try.prog cf pv m (sub [1,0,0,1,0,0,1,0,0] (b6 Try.f105)) (fun k (σ:(List Int) × Int)=>aU.l1 m a0 aS k σ.1 σ.2) (fun σ s=>match σ with | (cU,j0)=>∃h1,s=⟨[.rs aH 0 aw.length 1,.int .i64 a0,.int .i64 b0,.fn p6 fB,.int .i64 i0,.int .i64 j0,.any,.any],[],h1⟩∧Has h1 ((aH,.sl aw.length 1 (af.l cU))::L)) (fun out e s=>(e = .exit 2∧∃cU j0,(cU,j0)=out∧∃BT Ns h1,s=⟨[.rs aH 0 aw.length 1,.int .i64 a0,.int .i64 b0,.fn p6 fB,.int .i64 i0,BT,.any,Ns],[],h1⟩∧Has h1 ((aH,.sl aw.length 1 (af.l cU))::L))):=by
 refine mK (fun _=>rfl) ?_
 rintro k ⟨cU,j0⟩ s out ⟨h1,rfl,o1⟩ H
 have H:aU.l1 m a0 aS (k+1) cU j0=some out:=H
 refine qq <| qq ?_
 rcases hZ H with⟨c1,H⟩| ⟨c1,H⟩
 ·obtain⟨v0,e0,H⟩:=bl H
  obtain⟨v1,e1,H⟩:=bl H
  obtain⟨r0,e2,H⟩:=bl H
  refine qr [.b 3 c1,.v 7 (bj (k:=.i64) (E:=af) (l:=cU) (q:=0) gH o1 rfl e0),.v 8 (dr  (E:=af) (l:=cU) (q:=0) o1 rfl A3 e0 rfl),.v 12 (bj (k:=.i64) (E:=af) (l:=cU) (q:=0) gH o1 rfl e1),.v 13 (dr  (E:=af) (l:=cU) (q:=0) o1 rfl A3 e1 rfl),.a 14 (yG _ _ _ _ _ e2 (G7 (ai (br) (ai (br) (ay))) (yH h1 [(aH,.sl aw.length 1 (af.l cU))] o1)))] <| qc H (fun c2 H=>?_) (fun c2 H=>?_)
  ·refine qk <| qq <| qb 3 ?_
   obtain⟨v2,e3,H⟩:=bl H
   obtain⟨v3,e4,H⟩:=bl H
   obtain⟨v4,e5,H⟩:=bl H
   obtain⟨h2,e6,o2⟩:=eV (P:=Try.prog) (tf:=3) (E:=af) (l:=cU) (q:=0) (v:=v2) (x:=.int .i64 v2) o1 rfl Z3 e5 rfl rfl
   obtain⟨v5,e7,H⟩:=bl H
   obtain⟨h3,e8,o3⟩:=eV (P:=Try.prog) (tf:=3) (E:=af) (l:=(cU.set j0.toNat v2)) (q:=0) (v:=v3) (x:=.int .i64 v3) o2 rfl Z3 e7 rfl rfl
   exact qr [.v 8 (bj (k:=.i64) (E:=af) (l:=cU) (q:=0) gH o1 rfl e3),.v 9 (dr  (E:=af) (l:=cU) (q:=0) o1 rfl A3 e3 rfl),.v 12 (bj (k:=.i64) (E:=af) (l:=cU) (q:=0) gH o1 rfl e4),.v 13 (dr  (E:=af) (l:=cU) (q:=0) o1 rfl A3 e4 rfl),.v 14 (bj (k:=.i64) (E:=af) (l:=cU) (q:=0) gH o1 rfl e5),.w 15 e6,.v 16 (bj (k:=.i64) (E:=af) (l:=(cU.set j0.toNat v2)) (q:=0) gH o2 rfl e7),.w 17 e8] <| q0 <| ⟨((cU.set j0.toNat v2).set (i64.wrap (j0 - (1:Int))).toNat v3,i64.wrap (j0 - (1:Int))),⟨h3,by kernel_rfl,o3⟩,H⟩
  ·exact qx 2 <| ⟨rfl,cU,j0,oi H,.int .i64 j0,.bool (decide (r0<(0:Int))),h1,by kernel_rfl,o1⟩
 ·exact qr [.b 3 c1] <| Fh <| qx 2 <| ⟨rfl,cU,j0,oi H,.int .i64 j0,.bool false,h1,by kernel_rfl,o1⟩
theorem aU.dB (L:Mem)(aH:Nat)(p6:FuncId)(fB eG:List AV)(aw:List Int)(a0:Int)(b0:Int)(aS:Int→Int→Option (Int))  (BW:aK (.fn p6 fB) = .fn p6 fB)(yG:∀(h:AHeap) (xs:List AV) (a0:Int) (a1:Int) r,aS a0 a1=some r→aP bQ h xs ([.int .i64 a0,.int .i64 a1]++eG)→cf p6 xs h=some (.int .i64 r,h))(yH:∀h K,Has h (K++(L))→aP cq h fB eG)(BX:∀h,aP cq h eG eG)  : dU Try.prog cf pv m (sub [1,0,0] (b6 Try.f105)) (fun k (σ:(List Int) × Int)=>aU.l0 m a0 b0 aS k σ.1 σ.2) (fun σ s=>match σ with | (bk,i0)=>∃h0,s=⟨.rs aH 0 aw.length 1 :: .int .i64 a0 :: .int .i64 b0 :: .fn p6 fB :: .int .i64 i0::sQ [],[],h0⟩∧Has h0 ((aH,.sl aw.length 1 (af.l bk))::L)) (fun out e s=>(e = .exit 0∧∃bk i0,(bk,i0)=out∧∃po yF Im Ga yC Io h0,s=⟨[po,yF,Im,Ga,yC,.any,Io,.any],[],h0⟩∧Has h0 ((aH,.sl aw.length 1 (af.l bk))::L))):=by
 refine mK (fun _=>rfl) ?_
 rintro k ⟨bk,i0⟩ s out ⟨h0,rfl,o0⟩ H
 have H:aU.l0 m a0 b0 aS (k+1) bk i0=some out:=H
 refine qq <| qq <| q0 <| qc H (fun c0 H=>?_) (fun c0 H=>?_)
 ·refine qk <| qq <| qb 1 <| qq <| q0 <| qb 2 ?_
  obtain⟨cJ,e9,H⟩:=bl H
  refine ql (aU.mi L aH p6 fB eG aw a0 b0 aS i0  BW yG yH BX  (bk,i0) _ _ ⟨h0,by kernel_rfl,o0⟩ e9) ?_
  rintro e s ⟨rfl,dD,j1,rfl,g0,g1,h4,rfl,o4⟩
  try dsimp only at H
  exact q0 <| ⟨(dD,i64.wrap (i0+(1:Int))),⟨h4,by kernel_rfl,o4⟩,H⟩
 ·exact qx 0 <| ⟨rfl,bk,i0,oi H,.rs aH 0 aw.length 1,.int .i64 a0,.int .i64 b0,.fn p6 fB,.int .i64 i0,.bool (decide (i0<b0)),h0,by kernel_rfl,o0⟩
theorem mQ {aV:FuncId→b4}(ha:aV 105=pv)  (aw:List Int)(a0:Int)(b0:Int)(aS:Int→Int→Option (Int))(h:AHeap)(L:Mem)(aH:Nat)(p6:FuncId)(fB eG:List AV)  (BW:aK (.fn p6 fB) = .fn p6 fB)(yG:∀(h:AHeap) (xs:List AV) (a0:Int) (a1:Int) r,aS a0 a1=some r→aP bQ h xs ([.int .i64 a0,.int .i64 a1]++eG)→cf p6 xs h=some (.int .i64 r,h))(yH:∀h K,Has h (K++(L))→aP cq h fB eG)(BX:∀h,aP cq h eG eG)(o:Has h ((aH,.sl aw.length 1 (af.l aw))::L)){out:(List Int)}(H:aU.f m aw a0 b0 aS=some out) :
  ∃r h',ba Try.prog aV cf m 105 [.rs aH 0 aw.length 1,.int .i64 a0,.int .i64 b0,.fn p6 fB] h=some (r,h')∧r = .tup []∧Has h' ((aH,.sl aw.length 1 (af.l out))::L):=by
 refine ar (fn:=Try.f105) ha Try.func105 (by kernel_rfl) (by kernel_rfl) ?_
 refine aI (Q:=fun s=>aU.fin L aH aw a0 b0 aS out s) (fun _ _ ⟨h1,h2,h3⟩=>⟨h1,_,h2,rfl,h3⟩) ?_
 have H:_=some out:=H
 unfold aU.f at H
 show dt _ cf pv m _ ⟨.rs aH 0 aw.length 1 :: .int .i64 a0 :: .int .i64 b0 :: .fn p6 fB::nK [],[],h⟩ _
 refine q1 <| qb 0 ?_
 obtain⟨dE,sF,H⟩:=bl H
 refine ql (aU.dB L aH p6 fB eG aw a0 b0 aS  BW yG yH BX  (aw,i64.wrap (a0+(1:Int))) _ _ ⟨h,by kernel_rfl,o⟩ sF) ?_
 rintro e s ⟨rfl,iY,i1,rfl,g2,g3,g4,g5,g6,g7,h5,rfl,o5⟩
 try dsimp only at H
 obtain rfl:=oi H
 exact⟨.inr rfl,⟨by kernel_rfl,he o5⟩⟩
end
end Go.Proofs.Ytifafejidnjckaa
namespace Go.Proofs.Ytifafejidnjckaa
open Go Go.R
open Go.IntKind (i64 u64 u8 u32)
def sa:b4:=gK [0,1,2,3,10,13] [] [32,0,32,32] [] []
def bR.l0 (m:Nat)(a0:Int)(b0:Int)(n0:Int):Nat→(List Int)→Int→Option ((List Int) × Int)
 | 0,_,_=>none
 | k+1,bk,i0=>if (decide (i0<n0))=true then ((ix bk (i64.wrap (b0+i0))).bind fun v0=>(ix bk (i64.wrap (a0+i0))).bind fun v1=>(ix bk (i64.wrap (a0+i0))).bind fun v2=>(ix (bk.set (i64.wrap (a0+i0)).toNat v0) (i64.wrap (b0+i0))).bind fun v3=>bR.l0 m a0 b0 n0 k ((bk.set (i64.wrap (a0+i0)).toNat v0).set (i64.wrap (b0+i0)).toNat v1) (i64.wrap (i0+(1:Int)))) else (some ((bk,i0)))
def bR.f (m:Nat)(aw:List Int)(a0:Int)(b0:Int)(n0:Int)(aS:Int→Int→Option (Int)):Option ((List Int)):=(bR.l0 m a0 b0 n0 m aw (0:Int)).bind fun cJ=>match cJ with | (cU,i1)=>some cU
def bR.fin (L:Mem)(aH:Nat)(aw:List Int)(a0:Int)(b0:Int)(n0:Int)(aS:Int→Int→Option (Int))(r:(List Int))(s:St):Prop:=aM Try.prog (s.open sa) Try.f109.results.toList=some (.tup [])∧Has s.h ((aH,.sl aw.length 1 (af.l r))::L)
def Ip (cf:CallF)(m:Nat):Prop:=∀(aw:List Int) (a0:Int) (b0:Int) (n0:Int) (aS:Int→Int→Option (Int)) (r:(List Int)),bR.f m aw a0 b0 n0 aS=some r→∀h L (ca:Nat) (aH:Nat),Has h ((aH,.sl ca 1 (af.l aw))::L)→∀(eC:FuncId) (aY aT:List AV),(aK (.fn eC aY) = .fn eC aY)→(∀(h:AHeap) (xs:List AV) (a0:Int) (a1:Int) r,aS a0 a1=some r→aP bQ h xs ([.int .i64 a0,.int .i64 a1]++aT)→cf eC xs h=some (.int .i64 r,h))→(∀h K,Has h (K++(L))→aP cq h aY aT)→(∀h,aP cq h aT aT)→∀xs,xs.map aK=[.rs aH 0 ca 1,.int .i64 a0,.int .i64 b0,.int .i64 n0,.fn eC aY]→∃h',cf 109 xs h=some (.tup [],h')∧Has h' ((aH,.sl ca 1 (af.l r))::L)
section
variable {cf:CallF}{m:Nat}
theorem bR.dB (L:Mem)(aH:Nat)(eC:FuncId)(aY aT:List AV)(aw:List Int)(a0:Int)(b0:Int)(n0:Int)(aS:Int→Int→Option (Int))  (gy:aK (.fn eC aY) = .fn eC aY)(gT:∀(h:AHeap) (xs:List AV) (a0:Int) (a1:Int) r,aS a0 a1=some r→aP bQ h xs ([.int .i64 a0,.int .i64 a1]++aT)→cf eC xs h=some (.int .i64 r,h))(gU:∀h K,Has h (K++(L))→aP cq h aY aT)(iv:∀h,aP cq h aT aT)  : dU Try.prog cf sa m (sub [1,0,0] (b6 Try.f109)) (fun k (σ:(List Int) × Int)=>bR.l0 m a0 b0 n0 k σ.1 σ.2) (fun σ s=>match σ with | (bk,i0)=>∃h0,s=⟨[.rs aH 0 aw.length 1,.int .i64 a0,.int .i64 b0,.int .i64 n0,.int .i64 i0,.any],[],h0⟩∧Has h0 ((aH,.sl aw.length 1 (af.l bk))::L)) (fun out e s=>(e = .exit 0∧∃bk i0,(bk,i0)=out∧∃po yF Im Ga yI vb h0,s=⟨[po,yF,Im,Ga,yI,vb],[],h0⟩∧Has h0 ((aH,.sl aw.length 1 (af.l bk))::L))):=by
 refine mK (fun _=>rfl) ?_
 rintro k ⟨bk,i0⟩ s out ⟨h0,rfl,o0⟩ H
 have H:bR.l0 m a0 b0 n0 (k+1) bk i0=some out:=H
 refine qq <| qq <| q0 <| qc H (fun c0 H=>?_) (fun c0 H=>?_)
 ·refine qk <| qq <| qb 1 ?_
  obtain⟨v0,e0,H⟩:=bl H
  obtain⟨v1,e1,H⟩:=bl H
  obtain⟨v2,e2,H⟩:=bl H
  obtain⟨h1,e3,o1⟩:=eV (P:=Try.prog) (tf:=3) (E:=af) (l:=bk) (q:=0) (v:=v0) (x:=.int .i64 v0) o0 rfl Z3 e2 rfl rfl
  obtain⟨v3,e4,H⟩:=bl H
  obtain⟨h2,e5,o2⟩:=eV (P:=Try.prog) (tf:=3) (E:=af) (l:=(bk.set (i64.wrap (a0+i0)).toNat v0)) (q:=0) (v:=v1) (x:=.int .i64 v1) o1 rfl Z3 e4 rfl rfl
  exact qr [.v 12 (bj (k:=.i64) (E:=af) (l:=bk) (q:=0) gH o0 rfl e0),.v 13 (dr  (E:=af) (l:=bk) (q:=0) o0 rfl A3 e0 rfl),.v 18 (bj (k:=.i64) (E:=af) (l:=bk) (q:=0) gH o0 rfl e1),.v 19 (dr  (E:=af) (l:=bk) (q:=0) o0 rfl A3 e1 rfl),.v 20 (bj (k:=.i64) (E:=af) (l:=bk) (q:=0) gH o0 rfl e2),.w 21 e3,.v 22 (bj (k:=.i64) (E:=af) (l:=(bk.set (i64.wrap (a0+i0)).toNat v0)) (q:=0) gH o1 rfl e4),.w 23 e5] <| q0 <| ⟨((bk.set (i64.wrap (a0+i0)).toNat v0).set (i64.wrap (b0+i0)).toNat v1,i64.wrap (i0+(1:Int))),⟨h2,by kernel_rfl,o2⟩,H⟩
 ·exact qx 0 <| ⟨rfl,bk,i0,oi H,.rs aH 0 aw.length 1,.int .i64 a0,.int .i64 b0,.int .i64 n0,.int .i64 i0,.bool (decide (i0<n0)),h0,by kernel_rfl,o0⟩
theorem qv {aV:FuncId→b4}(ha:aV 109=sa)  (aw:List Int)(a0:Int)(b0:Int)(n0:Int)(aS:Int→Int→Option (Int))(h:AHeap)(L:Mem)(aH:Nat)(eC:FuncId)(aY aT:List AV)  (gy:aK (.fn eC aY) = .fn eC aY)(gT:∀(h:AHeap) (xs:List AV) (a0:Int) (a1:Int) r,aS a0 a1=some r→aP bQ h xs ([.int .i64 a0,.int .i64 a1]++aT)→cf eC xs h=some (.int .i64 r,h))(gU:∀h K,Has h (K++(L))→aP cq h aY aT)(iv:∀h,aP cq h aT aT)(o:Has h ((aH,.sl aw.length 1 (af.l aw))::L)){out:(List Int)}(H:bR.f m aw a0 b0 n0 aS=some out) :
  ∃r h',ba Try.prog aV cf m 109 [.rs aH 0 aw.length 1,.int .i64 a0,.int .i64 b0,.int .i64 n0,.fn eC aY] h=some (r,h')∧r = .tup []∧Has h' ((aH,.sl aw.length 1 (af.l out))::L):=by
 refine ar (fn:=Try.f109) ha Try.func109 (by kernel_rfl) (by kernel_rfl) ?_
 refine aI (Q:=fun s=>bR.fin L aH aw a0 b0 n0 aS out s) (fun _ _ ⟨h1,h2,h3⟩=>⟨h1,_,h2,rfl,h3⟩) ?_
 have H:_=some out:=H
 unfold bR.f at H
 show dt _ cf sa m _ ⟨[.rs aH 0 aw.length 1,.int .i64 a0,.int .i64 b0,.int .i64 n0,.any,.any],[],h⟩ _
 refine q1 <| qb 0 ?_
 obtain⟨cJ,e6,H⟩:=bl H
 refine ql (bR.dB L aH eC aY aT aw a0 b0 n0 aS  gy gT gU iv  (aw,(0:Int)) _ _ ⟨h,by kernel_rfl,o⟩ e6) ?_
 rintro e s ⟨rfl,cU,i1,rfl,g0,g1,g2,g3,g4,g5,h3,rfl,o3⟩
 try dsimp only at H
 obtain rfl:=oi H
 exact⟨.inr rfl,⟨by kernel_rfl,he o3⟩⟩
end
end Go.Proofs.Ytifafejidnjckaa
namespace Go.Proofs.Ytifafejidnjckaa
open Go Go.R
open Go.IntKind (i64 u64 u8 u32)
def fh.f (m:Nat)(s0:ab):Option (Int):=(bK.f m s0).bind fun x0=>if (!x0)=true then (some (0:Int)) else (some (s0.aa.length:Int))
end Go.Proofs.Ytifafejidnjckaa
namespace Go.Proofs.Ytifafejidnjckaa
open Go Go.R
open Go.IntKind (i64 u64 u8 u32)
def oC.f (m:Nat)(s0:ab):Option ((Option ab) × ab):=(bK.f m s0).bind fun x0=>if (!x0)=true then (some (none,s0)) else ((Dy 4 s0.aa).bind fun x1=>(Dy 1 s0.ae).bind fun x2=>some (some (ab.mk true x1 x2),s0))
end Go.Proofs.Ytifafejidnjckaa
namespace Go.Proofs.Ytifafejidnjckaa
open Go Go.R
open Go.IntKind (i64 u64 u8 u32)
def Aa:b4:=gK [0,2,3] [] [6,1] [] []
def ec.f (m:Nat)(s0:ab):Option (Int × Int × ab):=(bW.f m s0 (dC.f m ) (ao.mk (0:Int) (0:Int) (UU #[]) ([]))).bind fun x0=>some (x0.1,x0.2.1,x0.2.2)
def ec.fin (L:Mem)(aq:Nat)(ak:Nat)(an:Nat)(s0:ab)(r:Int × Int × ab)(s:St):Prop:=∃aB aC:Nat,aM Try.prog (s.open Aa) Try.f27.results.toList=some (.tup [.int .i64 r.1,.int .i64 r.2.1])∧Has s.h ((aq,.ob [.bool r.2.2.aj,.rs aB 0 r.2.2.aa.length 4,.rs aC 0 r.2.2.ae.length 1])::(aB,.sl r.2.2.aa.length 4 (ah.l r.2.2.aa))::(aC,.sl r.2.2.ae.length 1 (af.l r.2.2.ae))::L)
def PQ (cf:CallF)(m:Nat):Prop:=∀(s0:ab) (r:Int × Int × ab),ec.f m s0=some r→∀h L (aq:Nat) (ak:Nat) (an:Nat),Has h ((aq,.ob [.bool s0.aj,.rs ak 0 s0.aa.length 4,.rs an 0 s0.ae.length 1])::(ak,.sl s0.aa.length 4 (ah.l s0.aa))::(an,.sl s0.ae.length 1 (af.l s0.ae))::L)→∀xs,xs.map aK=[.ptr aq 0]→∃aB aC h',cf 27 xs h=some (.tup [.int .i64 r.1,.int .i64 r.2.1],h')∧Has h' ((aq,.ob [.bool r.2.2.aj,.rs aB 0 r.2.2.aa.length 4,.rs aC 0 r.2.2.ae.length 1])::(aB,.sl r.2.2.aa.length 4 (ah.l r.2.2.aa))::(aC,.sl r.2.2.ae.length 1 (af.l r.2.2.ae))::L)
section
variable {cf:CallF}{m:Nat}
theorem mj {aV:FuncId→b4}(ha:aV 27=Aa)(vf:Jw cf m)(Nt:PH cf m)(s0:ab)(h:AHeap)(L:Mem)(aq:Nat)(ak:Nat)(an:Nat)  (o:Has h ((aq,.ob [.bool s0.aj,.rs ak 0 s0.aa.length 4,.rs an 0 s0.ae.length 1])::(ak,.sl s0.aa.length 4 (ah.l s0.aa))::(an,.sl s0.ae.length 1 (af.l s0.ae))::L)){out:Int × Int × ab}(H:ec.f m s0=some out) :
  ∃r h',ba Try.prog aV cf m 27 [.ptr aq 0] h=some (r,h')∧∃aB aC:Nat,r = .tup [.int .i64 out.1,.int .i64 out.2.1]∧Has h' ((aq,.ob [.bool out.2.2.aj,.rs aB 0 out.2.2.aa.length 4,.rs aC 0 out.2.2.ae.length 1])::(aB,.sl out.2.2.aa.length 4 (ah.l out.2.2.aa))::(aC,.sl out.2.2.ae.length 1 (af.l out.2.2.ae))::L):=by
 refine ar (fn:=Try.f27) ha Try.func27 (by kernel_rfl) (by kernel_rfl) ?_
 refine aI (Q:=fun s=>ec.fin L aq ak an s0 out s) (fun _ _ ⟨h1,aB,aC,h2,h3⟩=>⟨h1,_,h2,aB,aC,rfl,h3⟩) ?_
 have H:_=some out:=H
 unfold ec.f at H
 show dt _ cf Aa m _ ⟨[.ptr aq 0,.any,.any],[],h⟩ _
 refine q1 <| qq ?_
 obtain⟨x0,e0,H⟩:=bl H
 obtain⟨aH,di,h0,e1,o0⟩:=vf _ _ _ _ e0 h _ _ _ _ (o) 48 [] [] rfl (fun h' sV  r hr hx=>Nt  r hr h' sV hx) (fun h' K' o'=>iA (ay)) (fun h_=>iA (ay)) [.ptr aq 0,.fn 48 [],.agg [.int .i64 (0:Int),.int .i64 (0:Int),.str (UU #[]),.nils]] (au (rfl) (au (rfl) (au (aN (mb (bO (bf) (bO (bf) (bO (j6) (bO (qT (E:=af)) (ma))))))) (bI))))
 obtain rfl:=oi H
 exact qr [.a 2 e1] <| qt <| ⟨.inl rfl,⟨aH,di,by kernel_rfl,he o0⟩⟩
end
end Go.Proofs.Ytifafejidnjckaa
namespace Go.Proofs.Ytifafejidnjckaa
open Go Go.R
open Go.IntKind (i64 u64 u8 u32)
def Ab:b4:=gK [0,1,3,4,5] [] [26,7] [] []
def eh.f (m:Nat)(s0:ab)(n0:Int):Option (Int × Int × ab):=(bW.f m s0 (cP.f m n0) (ao.mk (1:Int) n0 (UU #[]) ([]))).bind fun x0=>some (x0.1,x0.2.1,x0.2.2)
def eh.fin (L:Mem)(aq:Nat)(ak:Nat)(an:Nat)(s0:ab)(n0:Int)(r:Int × Int × ab)(s:St):Prop:=∃aB aC:Nat,aM Try.prog (s.open Ab) Try.f29.results.toList=some (.tup [.int .i64 r.1,.int .i64 r.2.1])∧Has s.h ((aq,.ob [.bool r.2.2.aj,.rs aB 0 r.2.2.aa.length 4,.rs aC 0 r.2.2.ae.length 1])::(aB,.sl r.2.2.aa.length 4 (ah.l r.2.2.aa))::(aC,.sl r.2.2.ae.length 1 (af.l r.2.2.ae))::L)
def PR (cf:CallF)(m:Nat):Prop:=∀(s0:ab) (n0:Int) (r:Int × Int × ab),eh.f m s0 n0=some r→∀h L (aq:Nat) (ak:Nat) (an:Nat),Has h ((aq,.ob [.bool s0.aj,.rs ak 0 s0.aa.length 4,.rs an 0 s0.ae.length 1])::(ak,.sl s0.aa.length 4 (ah.l s0.aa))::(an,.sl s0.ae.length 1 (af.l s0.ae))::L)→∀xs,xs.map aK=[.ptr aq 0,.int .i64 n0]→∃aB aC h',cf 29 xs h=some (.tup [.int .i64 r.1,.int .i64 r.2.1],h')∧Has h' ((aq,.ob [.bool r.2.2.aj,.rs aB 0 r.2.2.aa.length 4,.rs aC 0 r.2.2.ae.length 1])::(aB,.sl r.2.2.aa.length 4 (ah.l r.2.2.aa))::(aC,.sl r.2.2.ae.length 1 (af.l r.2.2.ae))::L)
section
variable {cf:CallF}{m:Nat}
theorem ml {aV:FuncId→b4}(ha:aV 29=Ab)(vf:Jw cf m)(Nu:PI cf m)(s0:ab)(n0:Int)(h:AHeap)(L:Mem)(aq:Nat)(ak:Nat)(an:Nat)  (o:Has h ((aq,.ob [.bool s0.aj,.rs ak 0 s0.aa.length 4,.rs an 0 s0.ae.length 1])::(ak,.sl s0.aa.length 4 (ah.l s0.aa))::(an,.sl s0.ae.length 1 (af.l s0.ae))::L)){out:Int × Int × ab}(H:eh.f m s0 n0=some out) :
  ∃r h',ba Try.prog aV cf m 29 [.ptr aq 0,.int .i64 n0] h=some (r,h')∧∃aB aC:Nat,r = .tup [.int .i64 out.1,.int .i64 out.2.1]∧Has h' ((aq,.ob [.bool out.2.2.aj,.rs aB 0 out.2.2.aa.length 4,.rs aC 0 out.2.2.ae.length 1])::(aB,.sl out.2.2.aa.length 4 (ah.l out.2.2.aa))::(aC,.sl out.2.2.ae.length 1 (af.l out.2.2.ae))::L):=by
 refine ar (fn:=Try.f29) ha Try.func29 (by kernel_rfl) (by kernel_rfl) ?_
 refine aI (Q:=fun s=>eh.fin L aq ak an s0 n0 out s) (fun _ _ ⟨h1,aB,aC,h2,h3⟩=>⟨h1,_,h2,aB,aC,rfl,h3⟩) ?_
 have H:_=some out:=H
 unfold eh.f at H
 show dt _ cf Ab m _ ⟨.ptr aq 0 :: .int .i64 n0::sQ [],[],h⟩ _
 refine qq ?_
 obtain⟨aH,h0,e0,o0⟩:=gd (cs:=[.int .i64 n0]) o (by kernel_rfl)
 refine qr [.a 0 e0] <| qq ?_
 obtain⟨x0,e1,H⟩:=bl H
 obtain⟨di,ez,h1,e2,o1⟩:=vf _ _ _ _ e1 h0 _ _ _ _ ((Has.front (Has.front (Has.front (Has.front o0 0 rfl) 3 rfl) 3 rfl) 3 rfl)) 51 [.ptr aH 0] [.fp [.int .i64 n0] 0] rfl (fun h' sV  r hr hx=>Nu _ r hr h' sV hx) (fun h' K' o'=>iA (ai (dV (q:=(K'.length+3)) o' (iW rfl) (ai (br) (ay))) (ay))) (fun h_=>iA (ai (gj (pure_cons (fS) (pure_nil))) (ay))) [.ptr aq 0,.fn 51 [.ptr aH 0],.agg [.int .i64 (1:Int),.int .i64 n0,.str (UU #[]),.nils]] (au (rfl) (au (rfl) (au (aN (mb (bO (bf) (bO (bf) (bO (j6) (bO (qT (E:=af)) (ma))))))) (bI))))
 refine qr [.v 2 (show bn Try.prog h0 3 (.ptr aH 0)=some (.int .i64 n0) from bV (q:=0) (cs:=[.int .i64 n0]) o0 rfl (by kernel_rfl)),.a 4 e2] ?_
 have o2:Has h1 ((aq,.ob [.bool x0.2.2.aj,.rs di 0 x0.2.2.aa.length 4,.rs ez 0 x0.2.2.ae.length 1])::(di,.sl x0.2.2.aa.length 4 (ah.l x0.2.2.aa))::(ez,.sl x0.2.2.ae.length 1 (af.l x0.2.2.ae))::L):=Has.del o1 3
 obtain rfl:=oi H
 exact qt <| ⟨.inl rfl,⟨di,ez,by kernel_rfl,he o2⟩⟩
end
end Go.Proofs.Ytifafejidnjckaa
namespace Go.Proofs.Ytifafejidnjckaa
open Go Go.R
open Go.IntKind (i64 u64 u8 u32)
def xa:b4:=gK [0,1,4,5,6,7,20,21,22,23] [4,5] [1016,1010,1010,562,50,514,562,562,1019] [] [(0,[(4,some 3,1)])]
def a7.l0 (m:Nat)(s0:ab)(x0:List Int):Nat→(List Int)→Int→Option ((List Int) × Int)
 | 0,_,_=>none
 | k+1,x1,x2=>if (decide (x2<(x0.length:Int)))=true then ((ix x1 x2).bind fun v1=>(a6.f m s0 v1).bind fun x3=>(ix x1 x2).bind fun v2=>a7.l0 m s0 x0 k (x1.set x2.toNat x3) (i64.wrap (x2+(1:Int)))) else (some ((x1,x2)))
def a7.f (m:Nat)(s0:ab)(n0:Int):Option (ao):=(ix s0.aa n0).bind fun v0=>(Dy 1 v0.args).bind fun x0=>(a7.l0 m s0 x0 m x0 (0:Int)).bind fun cJ=>match cJ with | (x4,x5)=>some (ao.mk v0.kind v0.int v0.label x4)
def a7.fin (L:Mem)  (r:ao)(s:St):Prop:=∃dI:Nat,aM Try.prog (s.open xa) Try.f40.results.toList=some (.agg [.int .i64 r.kind,.int .i64 r.int,.str r.label,.rs dI 0 r.args.length 1])∧Has s.h ((dI,.sl r.args.length 1 (af.l r.args))::L)
def PS (cf:CallF)(m:Nat):Prop:=∀(s0:ab) (n0:Int) (r:ao),a7.f m s0 n0=some r→∀h L xs,Has h L→aP bQ h xs [.fp [.bool s0.aj,ah.fz s0.aa,af.fz s0.ae] 0,.int .i64 n0]→∃dI h',cf 40 xs h=some (.agg [.int .i64 r.kind,.int .i64 r.int,.str r.label,.rs dI 0 r.args.length 1],h')∧Has h' ((dI,.sl r.args.length 1 (af.l r.args))::L)∧∀j,j<h.next→h.ver j=h'.ver j
section
variable {cf:CallF}{m:Nat}
theorem a7.dB (L:Mem)(s0:ab)(v0:ao)(x0:List Int)  (sW:Jv cf m):dU Try.prog cf xa m (sub [1,1,1,0,1,0,0] (b6 Try.f40)) (fun k (σ:(List Int) × Int)=>a7.l0 m s0 x0 k σ.1 σ.2) (fun σ s=>match σ with | (x1,x2)=>∃di h1,s=⟨[.fp [.bool s0.aj,ah.fz s0.aa,af.fz s0.ae] 0,.any,.lp 4 0,.lp 5 0,.any,.any,.rs di 0 x1.length 1,.int .i64 (x0.length:Int),.int .i64 x2,.any],[some [.int .i64 (0:Int),.int .i64 (0:Int),.str (UU #[]),.rs (0) 0 (([]:List Int).length) 1],some [.int .i64 v0.kind,.int .i64 v0.int,.str v0.label,.rs di 0 x1.length 1]],h1⟩∧Has h1 ((di,.sl x1.length 1 (af.l x1))::((0),.sl (([]:List Int).length) 1 (af.l ([]:List Int)))::L)) (fun out e s=>(e = .exit 0∧∃x1 x2,(x1,x2)=out∧∃po Iq Ir yJ Is di h1,s=⟨[po,.any,.lp 4 0,.lp 5 0,.any,.any,Iq,Ir,yJ,Is],[some [.int .i64 (0:Int),.int .i64 (0:Int),.str (UU #[]),.rs (0) 0 (([]:List Int).length) 1],some [.int .i64 v0.kind,.int .i64 v0.int,.str v0.label,.rs di 0 x1.length 1]],h1⟩∧Has h1 ((di,.sl x1.length 1 (af.l x1))::((0),.sl (([]:List Int).length) 1 (af.l ([]:List Int)))::L))):=by
 refine mK (fun _=>rfl) ?_
 rintro k ⟨x1,x2⟩ s out ⟨di,h1,rfl,o2⟩ H
 have H:a7.l0 m s0 x0 (k+1) x1 x2=some out:=H
 refine q1 <| qq <| qc H (fun c0 H=>?_) (fun c0 H=>?_)
 ·refine qk <| qq <| qb 1 <| qq ?_
  obtain⟨v1,e3,H⟩:=bl H
  refine qr [.v 1 (bj (k:=.i64) (E:=af) (l:=x1) (q:=0) gH o2 rfl e3),.v 2 (dr  (E:=af) (l:=x1) (q:=0) o2 rfl A3 e3 rfl)] ?_
  obtain⟨x3,e4,H⟩:=bl H
  obtain⟨v2,e5,H⟩:=bl H
  obtain⟨h2,e6,o3⟩:=eV (P:=Try.prog) (tf:=3) (E:=af) (l:=x1) (q:=0) (v:=x3) (x:=.int .i64 x3) o2 rfl Z3 e5 rfl rfl
  exact qr [.a 5 (sW _ _ _ e4 h1 _ (gm (ai (gj (pure_cons (dO) (pure_cons (bL.bH (E:=ah) (l:=s0.aa)) (pure_cons (bL.bH (E:=af) (l:=s0.ae)) (pure_nil))))) (ai (br) (ay))))),.v 6 (bj (k:=.i64) (E:=af) (l:=x1) (q:=0) gH o2 rfl e5),.w 7 e6] <| q0 <| ⟨(x1.set x2.toNat x3,i64.wrap (x2+(1:Int))),⟨di,h2,(VB (b:=⟨[.fp [.bool s0.aj,ah.fz s0.aa,af.fz s0.ae] 0,.any,.lp 4 0,.lp 5 0,.any,.any,.rs di 0 x1.length 1,.int .i64 (x0.length:Int),.int .i64 (i64.wrap (x2+(1:Int))),.any],[some [.int .i64 (0:Int),.int .i64 (0:Int),.str (UU #[]),.rs (0) 0 (([]:List Int).length) 1],some [.int .i64 v0.kind,.int .i64 v0.int,.str v0.label,.rs di 0 x1.length 1]],h2⟩) (by kernel_rfl) (by simp only [Ul])),(by have o:Has h2 ((di,.sl x1.length 1 (af.l (x1.set x2.toNat x3)))::((0),.sl (([]:List Int).length) 1 (af.l ([]:List Int)))::L):=o3; simpa only [Ul] using o)⟩,H⟩
 ·exact qx 0 <| ⟨rfl,x1,x2,oi H,.fp [.bool s0.aj,ah.fz s0.aa,af.fz s0.ae] 0,.rs di 0 x1.length 1,.int .i64 (x0.length:Int),.int .i64 x2,.bool (decide (x2<(x0.length:Int))),di,h1,by kernel_rfl,o2⟩
theorem lf {aV:FuncId→b4}(ha:aV 40=xa)(DV:Nd cf m)(sW:Jv cf m)(s0:ab)(n0:Int)(h:AHeap)(L:Mem)  (o:Has h (L)){out:ao}(H:a7.f m s0 n0=some out) :
  ∃r h',ba Try.prog aV cf m 40 [.fp [.bool s0.aj,ah.fz s0.aa,af.fz s0.ae] 0,.int .i64 n0] h=some (r,h')∧∃dI:Nat,r = .agg [.int .i64 out.kind,.int .i64 out.int,.str out.label,.rs dI 0 out.args.length 1]∧Has h' ((dI,.sl out.args.length 1 (af.l out.args))::L):=by
 refine ar (fn:=Try.f40) ha Try.func40 (by kernel_rfl) (by kernel_rfl) ?_
 refine aI (Q:=fun s=>a7.fin L out s) (fun _ _ ⟨h1,dI,h2,h3⟩=>⟨h1,_,h2,dI,rfl,h3⟩) ?_
 have H:_=some out:=H
 unfold a7.f at H
 show dt _ cf xa m _ ⟨.fp [.bool s0.aj,ah.fz s0.aa,af.fz s0.ae] 0 :: .int .i64 n0::zI [],[none,none],h⟩ _
 refine q1 ?_
 have o0:Has h (((0),.sl (([]:List Int).length) 1 (af.l ([]:List Int)))::L):=Has.nil o 1
 refine qq ?_
 obtain⟨v0,e0,H⟩:=bl H
 refine qr [.v 5 (fR (k:=.i64) (E:=ah) (l:=s0.aa) wW e0),.v 6 (jZ  (E:=ah) (l:=s0.aa) h DK DL e0)] <| qq ?_
 obtain⟨x0,e1,H⟩:=bl H
 obtain⟨aH,h0,e2,o1⟩:=G6 (E:=af) (l:=v0.args) DV o0 e1
 refine qr [.a 2 e2] <| qq <| qq <| q0 <| qb 0 ?_
 obtain⟨cJ,e7,H⟩:=bl H
 refine ql (a7.dB L s0 v0 x0  sW (x0,(0:Int)) _ _ ⟨aH,h0,by kernel_rfl,o1⟩ e7) ?_
 rintro e s ⟨rfl,x4,x5,rfl,g0,g1,g2,g3,g4,ez,h3,rfl,o4⟩
 try dsimp only at H
 refine q1 ?_
 have o5:Has h3 ((ez,.sl x4.length 1 (af.l x4))::L):=Has.del o4 1
 obtain rfl:=oi H
 exact qt <| ⟨.inl rfl,⟨ez,by kernel_rfl,he o5⟩⟩
end
end Go.Proofs.Ytifafejidnjckaa
namespace Go.Proofs.Ytifafejidnjckaa
open Go Go.R
open Go.IntKind (i64 u64 u8 u32)
def Ac:b4:=gK [0,1,4] [] [4,3] [] []
def ei.f (m:Nat)(s0:List Int)(f0:Int→Option (Bool)):Option (Bool):=(cu.f m s0 f0).bind fun x0=>some (decide (x0≥(0:Int)))
def ei.fin (L:Mem)(r:Bool)(s:St):Prop:=∃av,aM Try.prog (s.open Ac) Try.f52.results.toList=some av∧fL s.h av (.bool r)
def LJ (cf:CallF)(m:Nat):Prop:=∀(s0:List Int) (f0:Int→Option (Bool)) (r:Bool),ei.f m s0 f0=some r→∀(eB:FuncId) (aQ:List AV),(∀(h:AHeap) (xs:List AV) (a0:Int) r,f0 a0=some r→aP bQ h xs ([.int .i64 a0]++aQ)→cf eB xs h=some (.bool r,h))→(∀h,aP cq h aQ aQ)→∀h xs,aP bQ h xs [af.fz s0,.fn eB aQ]→cf 52 xs h=some (.bool r,h)
section
variable {cf:CallF}{m:Nat}
theorem qw {aV:FuncId→b4}(ha:aV 52=Ac)(It:Nq cf m)(s0:List Int)(f0:Int→Option (Bool))(h:AHeap)(L:Mem)(eB:FuncId)(aQ:List AV)  (gI:∀(h:AHeap) (xs:List AV) (a0:Int) r,f0 a0=some r→aP bQ h xs ([.int .i64 a0]++aQ)→cf eB xs h=some (.bool r,h))(gJ:∀h,aP cq h aQ aQ)(o:Has h (L)){out:Bool}(H:ei.f m s0 f0=some out) :
  ∃r h',ba Try.prog aV cf m 52 [af.fz s0,.fn eB aQ] h=some (r,h')∧fL h' r (.bool out):=by
 refine ar (fn:=Try.f52) ha Try.func52 (by kernel_rfl) (by kernel_rfl) ?_
 refine aI (Q:=fun s=>ei.fin L out s) (fun _ _ h=>h) ?_
 have H:_=some out:=H
 unfold ei.f at H
 show dt _ cf Ac m _ ⟨[af.fz s0,.fn eB aQ,.any],[],h⟩ _
 refine q1 <| qq ?_
 obtain⟨x0,e0,H⟩:=bl H
 obtain rfl:=oi H
 exact qr [.a 2 (It _ _ _ e0 eB aQ gI gJ h _ (gm (ai (fT (E:=af)) (ai (r8 (gJ h)) (ay)))))] <| qt <| ⟨.inl rfl,dz (.bool (decide (x0≥(0:Int)))) h (du (aD))⟩
end
end Go.Proofs.Ytifafejidnjckaa
namespace Go.Proofs.Ytifafejidnjckaa
open Go Go.R
open Go.IntKind (i64 u64 u8 u32)
def Ad:b4:=gK [0,1,3] [] [4,3] [] []
def cK.f (m:Nat)(n0:Int)(x0:ab):Option (Bool):=(cj.f m x0 n0).bind fun x1=>some (!x1)
def cK.fin (L:Mem)(r:Bool)(s:St):Prop:=∃av,aM Try.prog (s.open Ad) Try.f53.results.toList=some av∧fL s.h av (.bool r)
def PT (cf:CallF)(m:Nat):Prop:=∀(n0:Int) (x0:ab) (r:Bool),cK.f m n0 x0=some r→∀h xs,aP bQ h xs [.int .i64 n0,.fp [.fp [.bool x0.aj,ah.fz x0.aa,af.fz x0.ae] 0] 0]→cf 53 xs h=some (.bool r,h)
section
variable {cf:CallF}{m:Nat}
theorem j8 {aV:FuncId→b4}(ha:aV 53=Ad)(Ij:Nh cf m)(n0:Int)(x0:ab)(h:AHeap)(L:Mem)  (o:Has h (L)){out:Bool}(H:cK.f m n0 x0=some out) :
  ∃r h',ba Try.prog aV cf m 53 [.int .i64 n0,.fp [.fp [.bool x0.aj,ah.fz x0.aa,af.fz x0.ae] 0] 0] h=some (r,h')∧fL h' r (.bool out):=by
 refine ar (fn:=Try.f53) ha Try.func53 (by kernel_rfl) (by kernel_rfl) ?_
 refine aI (Q:=fun s=>cK.fin L out s) (fun _ _ h=>h) ?_
 have H:_=some out:=H
 unfold cK.f at H
 show dt _ cf Ad m _ ⟨[.int .i64 n0,.fp [.fp [.bool x0.aj,ah.fz x0.aa,af.fz x0.ae] 0] 0,.any],[],h⟩ _
 refine q1 <| qq ?_
 obtain⟨x1,e0,H⟩:=bl H
 obtain rfl:=oi H
 exact qr [.a 2 (Ij _ _ _ e0 h _ (gm (ai (gj (pure_cons (dO) (pure_cons (bL.bH (E:=ah) (l:=x0.aa)) (pure_cons (bL.bH (E:=af) (l:=x0.ae)) (pure_nil))))) (ai (br) (ay)))))] <| qt <| ⟨.inl rfl,dz (.bool (!x1)) h (du (aD))⟩
end
end Go.Proofs.Ytifafejidnjckaa
namespace Go.Proofs.Ytifafejidnjckaa
open Go Go.R
open Go.IntKind (i64 u64 u8 u32)
def Ae:b4:=gK [0,1,2,6,13,16,21] [] [120,104,88,120,56,120,125,119] [] []
def cb.f (m:Nat)(s0:ab)(a0:Int)(b0:Int):Option (Int × ab):=jn (fun (σ:Int × Int)=>match σ with | (a1,b1)=>(ix s0.ae a1).bind fun v0=>some (a1,(ab.mk s0.aj s0.aa (s0.ae.set a1.toNat b1)))) fun xM=>((bX.f m s0 a0).bind fun x0=>(bX.f m s0 b0).bind fun x1=>if (!(x0==x1))=true then ((bX.f m s0 b0).bind fun x2=>if x2=true then (xM (b0,a0)) else (xM (a0,b0))) else (if (decide (a0<b0))=true then (xM (b0,a0)) else (xM (a0,b0))))
def cb.fin (L:Mem)(aq:Nat)(ak:Nat)(an:Nat)(s0:ab)(a0:Int)(b0:Int)(r:Int × ab)(s:St):Prop:=∃aB aC:Nat,aM Try.prog (s.open Ae) Try.f56.results.toList=some (.int .i64 r.1)∧Has s.h ((aq,.ob [.bool r.2.aj,.rs aB 0 r.2.aa.length 4,.rs aC 0 r.2.ae.length 1])::(aB,.sl r.2.aa.length 4 (ah.l r.2.aa))::(aC,.sl r.2.ae.length 1 (af.l r.2.ae))::L)
def Nv (cf:CallF)(m:Nat):Prop:=∀(s0:ab) (a0:Int) (b0:Int) (r:Int × ab),cb.f m s0 a0 b0=some r→∀h L (aq:Nat) (ak:Nat) (an:Nat),Has h ((aq,.ob [.bool s0.aj,.rs ak 0 s0.aa.length 4,.rs an 0 s0.ae.length 1])::(ak,.sl s0.aa.length 4 (ah.l s0.aa))::(an,.sl s0.ae.length 1 (af.l s0.ae))::L)→∀xs,xs.map aK=[.ptr aq 0,.int .i64 a0,.int .i64 b0]→∃aB aC h',cf 56 xs h=some (.int .i64 r.1,h')∧Has h' ((aq,.ob [.bool r.2.aj,.rs aB 0 r.2.aa.length 4,.rs aC 0 r.2.ae.length 1])::(aB,.sl r.2.aa.length 4 (ah.l r.2.aa))::(aC,.sl r.2.ae.length 1 (af.l r.2.ae))::L)
section
variable {cf:CallF}{m:Nat}
theorem lI {aV:FuncId→b4}(ha:aV 56=Ae)(DW:Nj cf m)(s0:ab)(a0:Int)(b0:Int)(h:AHeap)(L:Mem)(aq:Nat)(ak:Nat)(an:Nat)  (o:Has h ((aq,.ob [.bool s0.aj,.rs ak 0 s0.aa.length 4,.rs an 0 s0.ae.length 1])::(ak,.sl s0.aa.length 4 (ah.l s0.aa))::(an,.sl s0.ae.length 1 (af.l s0.ae))::L)){out:Int × ab}(H:cb.f m s0 a0 b0=some out) :
  ∃r h',ba Try.prog aV cf m 56 [.ptr aq 0,.int .i64 a0,.int .i64 b0] h=some (r,h')∧∃aB aC:Nat,r = .int .i64 out.1∧Has h' ((aq,.ob [.bool out.2.aj,.rs aB 0 out.2.aa.length 4,.rs aC 0 out.2.ae.length 1])::(aB,.sl out.2.aa.length 4 (ah.l out.2.aa))::(aC,.sl out.2.ae.length 1 (af.l out.2.ae))::L):=by
 refine ar (fn:=Try.f56) ha Try.func56 (by kernel_rfl) (by kernel_rfl) ?_
 refine aI (Q:=fun s=>cb.fin L aq ak an s0 a0 b0 out s) (fun _ _ ⟨h1,aB,aC,h2,h3⟩=>⟨h1,_,h2,aB,aC,rfl,h3⟩) ?_
 have H:_=some out:=H
 unfold cb.f at H
 show dt _ cf Ae m _ ⟨.ptr aq 0 :: .int .i64 a0 :: .int .i64 b0::nK [],[],h⟩ _
 refine q1 ?_
 obtain⟨xM,G9,H⟩:=ov H
 refine qj (S:=fun (σ:Int × Int) s=>match σ with | (a1,b1)=>∃(g0:AV) (g1:AV) (h0:AHeap),s=⟨[.ptr aq 0,.int .i64 a1,.int .i64 b1,.any,.any,g0,g1],[],h0⟩∧Has h0 ((aq,.ob [.bool s0.aj,.rs ak 0 s0.aa.length 4,.rs an 0 s0.ae.length 1])::(ak,.sl s0.aa.length 4 (ah.l s0.aa))::(an,.sl s0.ae.length 1 (af.l s0.ae))::L)) xM H ?_ ?_
 ·rintro⟨a1,b1⟩ s ⟨g0,g1,h0,rfl,o0⟩ H
  have H:=(G9 _).symm.trans H
  try dsimp only at H
  refine qq ?_
  obtain⟨v0,e3,H⟩:=bl H
  obtain⟨h1,e4,o1⟩:=eV (P:=Try.prog) (tf:=3) (E:=af) (l:=s0.ae) (q:=2) (v:=b1) (x:=.int .i64 b1) o0 rfl Z3 e3 rfl rfl
  obtain rfl:=oi H
  exact qr [.v 3 (show bn Try.prog h0 33 (.ptr aq 2)=some (.rs an 0 s0.ae.length 1) from bV (q:=0) (cs:=[.bool s0.aj,.rs ak 0 s0.aa.length 4,.rs an 0 s0.ae.length 1]) o0 rfl (by kernel_rfl)),.v 6 (bj (k:=.i64) (E:=af) (l:=s0.ae) (q:=2) gH o0 rfl e3),.w 7 e4] <| qq <| q0 <| qt <| ⟨.inl rfl,⟨ak,an,by kernel_rfl,he (by have o:Has h1 ((aq,.ob [.bool s0.aj,.rs ak 0 s0.aa.length 4,.rs an 0 s0.ae.length 1])::(ak,.sl s0.aa.length 4 (ah.l s0.aa))::(an,.sl s0.ae.length 1 (af.l (s0.ae.set a1.toNat b1)))::L):=o1; simpa only [Ul] using o)⟩⟩
 clear G9
 intro sU
 refine qq ?_
 obtain⟨x0,e0,H⟩:=bl H
 obtain⟨x1,e1,H⟩:=bl H
 refine qr [.a 2 (DW _ _ _ e0 h _ (gm (ai (dV (q:=0) o rfl (ai (gi) (ai (eK (E:=ah) (l:=s0.aa) (q:=1) o rfl (fun _=>rfl)) (ai (eK (E:=af) (l:=s0.ae) (q:=2) o rfl (fun _=>rfl)) (ay))))) (ai (br) (ay))))),.a 5 (DW _ _ _ e1 h _ (gm (ai (dV (q:=0) o rfl (ai (gi) (ai (eK (E:=ah) (l:=s0.aa) (q:=1) o rfl (fun _=>rfl)) (ai (eK (E:=af) (l:=s0.ae) (q:=2) o rfl (fun _=>rfl)) (ay))))) (ai (br) (ay)))))] <| qc H (fun c0 H=>?_) (fun c0 H=>?_)
 ·refine qq ?_
  obtain⟨x2,e2,H⟩:=bl H
  refine qr [.a 2 (DW _ _ _ e2 h _ (gm (ai (dV (q:=0) o rfl (ai (gi) (ai (eK (E:=ah) (l:=s0.aa) (q:=1) o rfl (fun _=>rfl)) (ai (eK (E:=af) (l:=s0.ae) (q:=2) o rfl (fun _=>rfl)) (ay))))) (ai (br) (ay)))))] <| qc H (fun c1 H=>?_) (fun c1 H=>?_)
  ·exact q0 <| sU (b0,a0) _ ⟨.any,.any,h,by kernel_rfl,o⟩ H
  ·exact qk <| sU (a0,b0) _ ⟨.bool x2,.any,h,by kernel_rfl,o⟩ H
 ·refine q1 <| qc H (fun c2 H=>?_) (fun c2 H=>?_)
  ·exact q0 <| sU (b0,a0) _ ⟨.any,.any,h,by kernel_rfl,o⟩ H
  ·exact qk <| sU (a0,b0) _ ⟨.any,.bool (decide (a0<b0)),h,by kernel_rfl,o⟩ H
end
end Go.Proofs.Ytifafejidnjckaa
