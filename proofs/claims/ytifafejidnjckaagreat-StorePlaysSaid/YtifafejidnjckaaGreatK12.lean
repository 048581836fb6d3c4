/- Part of the proof: Q39, Q40, Q41, Q43, Q45, Q67, Q88, Q114, Q119, Q10, Q46, Q55, Q96, Q99, Q62, Q25, Q28. -/
import Derived.Test.YtifafejidnjckaaGreatK11
set_option linter.unusedVariables false
set_option linter.unusedSimpArgs false
set_option maxRecDepth 100000
open ByteArray renaming mk → ajg
open List renaming append_assoc → ai7, nil_append → ajj, cons_append → ajv
open Or renaming inr → ajW
namespace Go.Proofs.YtifafejidnjckaaGreat
open Go Go.R
open Go.IntKind (i64 u64 u8 u32)
def J8:b4:=gL [0,2,3] [] [6,1] [] []
def iq.f (m:Nat)(s0:aj):Option (Int × Int × aj):=(du.f m s0 (ak.mk 0 0 (ajg #[]) ([]))).bind fun x0=>some (x0.1,x0.2.1,x0.2.2)
def iq.fin (L:Mem)(au:Nat)(aH:Nat)(aq:Nat)(s0:aj)(r:Int × Int × aj)(s:St):Prop:=∃aB aC:Nat,aK Tryz.prog (s.open J8) Tryz.f39.results.toList=some (.tup [.i r.1,.i r.2.1])∧Has s.h ((au,.ob [.rs aB 0 r.2.2.ah.length 4,.rs aC 0 r.2.2.ao.length 1,.bool r.2.2.aE])::(aB,.sl r.2.2.ah.length 4 (af.l r.2.2.ah))::(aC,.sl r.2.2.ao.length 1 (ab.l r.2.2.ao))::L)
def S39 (cf:CallF)(m:Nat):Prop:=∀(s0:aj) (r:Int × Int × aj),iq.f m s0=some r→∀h L (au:Nat) (aH:Nat) (aq:Nat),Has h ((au,.ob [.rs aH 0 s0.ah.length 4,.rs aq 0 s0.ao.length 1,.bool s0.aE])::(aH,.sl s0.ah.length 4 (af.l s0.ah))::(aq,.sl s0.ao.length 1 (ab.l s0.ao))::L)→∀xs,xs.map ba=[.ptr au 0]→∃aB aC h',cf 39 xs h=some (.tup [.i r.1,.i r.2.1],h')∧Has h' ((au,.ob [.rs aB 0 r.2.2.ah.length 4,.rs aC 0 r.2.2.ao.length 1,.bool r.2.2.aE])::(aB,.sl r.2.2.ah.length 4 (af.l r.2.2.ah))::(aC,.sl r.2.2.ao.length 1 (ab.l r.2.2.ao))::L)
section
variable {cf:CallF}{m:Nat}
theorem sv {aW:FuncId→b4}(ha:aW 39=J8)(D0:We cf m)(s0:aj)(h:AHeap)(L:Mem)(au:Nat)(aH:Nat)(aq:Nat)  (o:Has h ((au,.ob [.rs aH 0 s0.ah.length 4,.rs aq 0 s0.ao.length 1,.bool s0.aE])::(aH,.sl s0.ah.length 4 (af.l s0.ah))::(aq,.sl s0.ao.length 1 (ab.l s0.ao))::L)){out:Int × Int × aj}(H:iq.f m s0=some out) :
  ∃r h',bj Tryz.prog aW cf m 39 [.ptr au 0] h=some (r,h')∧∃aB aC:Nat,r = .tup [.i out.1,.i out.2.1]∧Has h' ((au,.ob [.rs aB 0 out.2.2.ah.length 4,.rs aC 0 out.2.2.ao.length 1,.bool out.2.2.aE])::(aB,.sl out.2.2.ah.length 4 (af.l out.2.2.ah))::(aC,.sl out.2.2.ao.length 1 (ab.l out.2.2.ao))::L):=by
 refine aw (fn:=Tryz.f39) ha Tryz.func39 kr kr ?_
 refine aI (Q:=fun s=>iq.fin L au aH aq s0 out s) (fun _ _ ⟨h1,aB,aC,h2,h3⟩=>⟨h1,_,h2,aB,aC,rfl,h3⟩) ?_
 have H:_=some out:=H
 unfold iq.f at H
 show dE _ cf J8 m _ ⟨[.ptr au 0,.any,.any],[],h⟩ _
 refine q1 <| qq ?_
 obtain⟨x0,e0,H⟩:=aP H
 obtain⟨aX,b7,h0,e1,o0⟩:=D0 _ _ _ e0 h _ _ _ _ (o)  [.ptr au 0,.agg [.i 0,.i 0,.str (ajg #[]),.nils]] (fy (rfl) (fy (lR (nG (b5 (ig) (b5 (ig) (b5 (pV) (b5 (ou (E:=ab)) (jR))))))) cq))
 obtain rfl:=oi H
 exact qr [.a 2 e1] <| qt <| ⟨.inl rfl,⟨aX,b7,kr,he o0⟩⟩
end
def J9:b4:=gL [0,1,4,5] [] [12,3] [] []
def ir.f (m:Nat)(s0:aj)(n0:Int):Option (Int × Int × aj):=(du.f m s0 (ak.mk 1 n0 (ajg #[]) ([]))).bind fun x0=>some (x0.1,x0.2.1,x0.2.2)
def ir.fin (L:Mem)(au:Nat)(aH:Nat)(aq:Nat)(s0:aj)(n0:Int)(r:Int × Int × aj)(s:St):Prop:=∃aB aC:Nat,aK Tryz.prog (s.open J9) Tryz.f40.results.toList=some (.tup [.i r.1,.i r.2.1])∧Has s.h ((au,.ob [.rs aB 0 r.2.2.ah.length 4,.rs aC 0 r.2.2.ao.length 1,.bool r.2.2.aE])::(aB,.sl r.2.2.ah.length 4 (af.l r.2.2.ah))::(aC,.sl r.2.2.ao.length 1 (ab.l r.2.2.ao))::L)
def S40 (cf:CallF)(m:Nat):Prop:=∀(s0:aj) (n0:Int) (r:Int × Int × aj),ir.f m s0 n0=some r→∀h L (au:Nat) (aH:Nat) (aq:Nat),Has h ((au,.ob [.rs aH 0 s0.ah.length 4,.rs aq 0 s0.ao.length 1,.bool s0.aE])::(aH,.sl s0.ah.length 4 (af.l s0.ah))::(aq,.sl s0.ao.length 1 (ab.l s0.ao))::L)→∀xs,xs.map ba=[.ptr au 0,.i n0]→∃aB aC h',cf 40 xs h=some (.tup [.i r.1,.i r.2.1],h')∧Has h' ((au,.ob [.rs aB 0 r.2.2.ah.length 4,.rs aC 0 r.2.2.ao.length 1,.bool r.2.2.aE])::(aB,.sl r.2.2.ah.length 4 (af.l r.2.2.ah))::(aC,.sl r.2.2.ao.length 1 (ab.l r.2.2.ao))::L)
section
variable {cf:CallF}{m:Nat}
theorem sw {aW:FuncId→b4}(ha:aW 40=J9)(D0:We cf m)(s0:aj)(n0:Int)(h:AHeap)(L:Mem)(au:Nat)(aH:Nat)(aq:Nat)  (o:Has h ((au,.ob [.rs aH 0 s0.ah.length 4,.rs aq 0 s0.ao.length 1,.bool s0.aE])::(aH,.sl s0.ah.length 4 (af.l s0.ah))::(aq,.sl s0.ao.length 1 (ab.l s0.ao))::L)){out:Int × Int × aj}(H:ir.f m s0 n0=some out) :
  ∃r h',bj Tryz.prog aW cf m 40 [.ptr au 0,.i n0] h=some (r,h')∧∃aB aC:Nat,r = .tup [.i out.1,.i out.2.1]∧Has h' ((au,.ob [.rs aB 0 out.2.2.ah.length 4,.rs aC 0 out.2.2.ao.length 1,.bool out.2.2.aE])::(aB,.sl out.2.2.ah.length 4 (af.l out.2.2.ah))::(aC,.sl out.2.2.ao.length 1 (ab.l out.2.2.ao))::L):=by
 refine aw (fn:=Tryz.f40) ha Tryz.func40 kr kr ?_
 refine aI (Q:=fun s=>ir.fin L au aH aq s0 n0 out s) (fun _ _ ⟨h1,aB,aC,h2,h3⟩=>⟨h1,_,h2,aB,aC,rfl,h3⟩) ?_
 have H:_=some out:=H
 unfold ir.f at H
 show dE _ cf J9 m _ ⟨[.ptr au 0,.i n0,.any,.any],[],h⟩ _
 refine q1 <| qq ?_
 obtain⟨x0,e0,H⟩:=aP H
 obtain⟨aX,b7,h0,e1,o0⟩:=D0 _ _ _ e0 h _ _ _ _ (o)  [.ptr au 0,.agg [.i 1,.i n0,.str (ajg #[]),.nils]] (fy (rfl) (fy (lR (nG (b5 (ig) (b5 (ig) (b5 (pV) (b5 (ou (E:=ab)) (jR))))))) cq))
 obtain rfl:=oi H
 exact qr [.a 3 e1] <| qt <| ⟨.inl rfl,⟨aX,b7,kr,he o0⟩⟩
end
def Ka:b4:=gL [0,1,4,5] [] [12,3] [] []
def gR.f (m:Nat)(s0:aj)(a0:ByteArray):Option (Int × Int × aj):=(du.f m s0 (ak.mk 2 0 a0 ([]))).bind fun x0=>some (x0.1,x0.2.1,x0.2.2)
def gR.fin (L:Mem)(au:Nat)(aH:Nat)(aq:Nat)(s0:aj)(a0:ByteArray)(r:Int × Int × aj)(s:St):Prop:=∃aB aC:Nat,aK Tryz.prog (s.open Ka) Tryz.f41.results.toList=some (.tup [.i r.1,.i r.2.1])∧Has s.h ((au,.ob [.rs aB 0 r.2.2.ah.length 4,.rs aC 0 r.2.2.ao.length 1,.bool r.2.2.aE])::(aB,.sl r.2.2.ah.length 4 (af.l r.2.2.ah))::(aC,.sl r.2.2.ao.length 1 (ab.l r.2.2.ao))::L)
def S41 (cf:CallF)(m:Nat):Prop:=∀(s0:aj) (a0:ByteArray) (r:Int × Int × aj),gR.f m s0 a0=some r→∀h L (au:Nat) (aH:Nat) (aq:Nat),Has h ((au,.ob [.rs aH 0 s0.ah.length 4,.rs aq 0 s0.ao.length 1,.bool s0.aE])::(aH,.sl s0.ah.length 4 (af.l s0.ah))::(aq,.sl s0.ao.length 1 (ab.l s0.ao))::L)→∀xs,xs.map ba=[.ptr au 0,.str a0]→∃aB aC h',cf 41 xs h=some (.tup [.i r.1,.i r.2.1],h')∧Has h' ((au,.ob [.rs aB 0 r.2.2.ah.length 4,.rs aC 0 r.2.2.ao.length 1,.bool r.2.2.aE])::(aB,.sl r.2.2.ah.length 4 (af.l r.2.2.ah))::(aC,.sl r.2.2.ao.length 1 (ab.l r.2.2.ao))::L)
section
variable {cf:CallF}{m:Nat}
theorem rz {aW:FuncId→b4}(ha:aW 41=Ka)(D0:We cf m)(s0:aj)(a0:ByteArray)(h:AHeap)(L:Mem)(au:Nat)(aH:Nat)(aq:Nat)  (o:Has h ((au,.ob [.rs aH 0 s0.ah.length 4,.rs aq 0 s0.ao.length 1,.bool s0.aE])::(aH,.sl s0.ah.length 4 (af.l s0.ah))::(aq,.sl s0.ao.length 1 (ab.l s0.ao))::L)){out:Int × Int × aj}(H:gR.f m s0 a0=some out) :
  ∃r h',bj Tryz.prog aW cf m 41 [.ptr au 0,.str a0] h=some (r,h')∧∃aB aC:Nat,r = .tup [.i out.1,.i out.2.1]∧Has h' ((au,.ob [.rs aB 0 out.2.2.ah.length 4,.rs aC 0 out.2.2.ao.length 1,.bool out.2.2.aE])::(aB,.sl out.2.2.ah.length 4 (af.l out.2.2.ah))::(aC,.sl out.2.2.ao.length 1 (ab.l out.2.2.ao))::L):=by
 refine aw (fn:=Tryz.f41) ha Tryz.func41 kr kr ?_
 refine aI (Q:=fun s=>gR.fin L au aH aq s0 a0 out s) (fun _ _ ⟨h1,aB,aC,h2,h3⟩=>⟨h1,_,h2,aB,aC,rfl,h3⟩) ?_
 have H:_=some out:=H
 unfold gR.f at H
 show dE _ cf Ka m _ ⟨[.ptr au 0,.str a0,.any,.any],[],h⟩ _
 refine q1 <| qq ?_
 obtain⟨x0,e0,H⟩:=aP H
 obtain⟨aX,b7,h0,e1,o0⟩:=D0 _ _ _ e0 h _ _ _ _ (o)  [.ptr au 0,.agg [.i 2,.i 0,.str a0,.nils]] (fy (rfl) (fy (lR (nG (b5 (ig) (b5 (ig) (b5 (pV) (b5 (ou (E:=ab)) (jR))))))) cq))
 obtain rfl:=oi H
 exact qr [.a 3 e1] <| qt <| ⟨.inl rfl,⟨aX,b7,kr,he o0⟩⟩
end
def Kb:b4:=gL [0,1,2,6,7] [] [24,7] [] []
def gp.f (m:Nat)(s0:aj)(bZ:ByteArray)(br:List Int):Option (Int × Int × aj):=(du.f m s0 (ak.mk 3 0 bZ br)).bind fun x0=>some (x0.1,x0.2.1,x0.2.2)
def gp.fin (L:Mem)(au:Nat)(aH:Nat)(aq:Nat)(s0:aj)(bZ:ByteArray)(br:List Int)(r:Int × Int × aj)(s:St):Prop:=∃aB aC:Nat,aK Tryz.prog (s.open Kb) Tryz.f43.results.toList=some (.tup [.i r.1,.i r.2.1])∧Has s.h ((au,.ob [.rs aB 0 r.2.2.ah.length 4,.rs aC 0 r.2.2.ao.length 1,.bool r.2.2.aE])::(aB,.sl r.2.2.ah.length 4 (af.l r.2.2.ah))::(aC,.sl r.2.2.ao.length 1 (ab.l r.2.2.ao))::L)
def S43 (cf:CallF)(m:Nat):Prop:=∀(s0:aj) (bZ:ByteArray) (br:List Int) (r:Int × Int × aj),gp.f m s0 bZ br=some r→∀h L (au:Nat) (aH:Nat) (aq:Nat),Has h ((au,.ob [.rs aH 0 s0.ah.length 4,.rs aq 0 s0.ao.length 1,.bool s0.aE])::(aH,.sl s0.ah.length 4 (af.l s0.ah))::(aq,.sl s0.ao.length 1 (ab.l s0.ao))::L)→∀xs,xs.map ba=[.ptr au 0,.str bZ,ab.fz br]→∃aB aC h',cf 43 xs h=some (.tup [.i r.1,.i r.2.1],h')∧Has h' ((au,.ob [.rs aB 0 r.2.2.ah.length 4,.rs aC 0 r.2.2.ao.length 1,.bool r.2.2.aE])::(aB,.sl r.2.2.ah.length 4 (af.l r.2.2.ah))::(aC,.sl r.2.2.ao.length 1 (ab.l r.2.2.ao))::L)
section
variable {cf:CallF}{m:Nat}
theorem qD {aW:FuncId→b4}(ha:aW 43=Kb)(D0:We cf m)(s0:aj)(bZ:ByteArray)(br:List Int)(h:AHeap)(L:Mem)(au:Nat)(aH:Nat)(aq:Nat)  (o:Has h ((au,.ob [.rs aH 0 s0.ah.length 4,.rs aq 0 s0.ao.length 1,.bool s0.aE])::(aH,.sl s0.ah.length 4 (af.l s0.ah))::(aq,.sl s0.ao.length 1 (ab.l s0.ao))::L)){out:Int × Int × aj}(H:gp.f m s0 bZ br=some out) :
  ∃r h',bj Tryz.prog aW cf m 43 [.ptr au 0,.str bZ,ab.fz br] h=some (r,h')∧∃aB aC:Nat,r = .tup [.i out.1,.i out.2.1]∧Has h' ((au,.ob [.rs aB 0 out.2.2.ah.length 4,.rs aC 0 out.2.2.ao.length 1,.bool out.2.2.aE])::(aB,.sl out.2.2.ah.length 4 (af.l out.2.2.ah))::(aC,.sl out.2.2.ao.length 1 (ab.l out.2.2.ao))::L):=by
 refine aw (fn:=Tryz.f43) ha Tryz.func43 kr kr ?_
 refine aI (Q:=fun s=>gp.fin L au aH aq s0 bZ br out s) (fun _ _ ⟨h1,aB,aC,h2,h3⟩=>⟨h1,_,h2,aB,aC,rfl,h3⟩) ?_
 have H:_=some out:=H
 unfold gp.f at H
 show dE _ cf Kb m _ ⟨[.ptr au 0,.str bZ,ab.fz br,.any,.any],[],h⟩ _
 refine q1 <| qq ?_
 obtain⟨x0,e0,H⟩:=aP H
 obtain⟨aX,b7,h0,e1,o0⟩:=D0 _ _ _ e0 h _ _ _ _ (o)  [.ptr au 0,.agg [.i 3,.i 0,.str bZ,ab.fz br]] cq
 obtain rfl:=oi H
 exact qr [.a 4 e1] <| qt <| ⟨.inl rfl,⟨aX,b7,kr,he o0⟩⟩
end
def Kc:b4:=gL [0,1,2,6,7] [] [24,7] [] []
def gS.f (m:Nat)(s0:aj)(bZ:ByteArray)(n0:Int):Option (Int × Int × aj):=(du.f m s0 (ak.mk 4 n0 bZ ([]))).bind fun x0=>some (x0.1,x0.2.1,x0.2.2)
def gS.fin (L:Mem)(au:Nat)(aH:Nat)(aq:Nat)(s0:aj)(bZ:ByteArray)(n0:Int)(r:Int × Int × aj)(s:St):Prop:=∃aB aC:Nat,aK Tryz.prog (s.open Kc) Tryz.f45.results.toList=some (.tup [.i r.1,.i r.2.1])∧Has s.h ((au,.ob [.rs aB 0 r.2.2.ah.length 4,.rs aC 0 r.2.2.ao.length 1,.bool r.2.2.aE])::(aB,.sl r.2.2.ah.length 4 (af.l r.2.2.ah))::(aC,.sl r.2.2.ao.length 1 (ab.l r.2.2.ao))::L)
def S45 (cf:CallF)(m:Nat):Prop:=∀(s0:aj) (bZ:ByteArray) (n0:Int) (r:Int × Int × aj),gS.f m s0 bZ n0=some r→∀h L (au:Nat) (aH:Nat) (aq:Nat),Has h ((au,.ob [.rs aH 0 s0.ah.length 4,.rs aq 0 s0.ao.length 1,.bool s0.aE])::(aH,.sl s0.ah.length 4 (af.l s0.ah))::(aq,.sl s0.ao.length 1 (ab.l s0.ao))::L)→∀xs,xs.map ba=[.ptr au 0,.str bZ,.i n0]→∃aB aC h',cf 45 xs h=some (.tup [.i r.1,.i r.2.1],h')∧Has h' ((au,.ob [.rs aB 0 r.2.2.ah.length 4,.rs aC 0 r.2.2.ao.length 1,.bool r.2.2.aE])::(aB,.sl r.2.2.ah.length 4 (af.l r.2.2.ah))::(aC,.sl r.2.2.ao.length 1 (ab.l r.2.2.ao))::L)
section
variable {cf:CallF}{m:Nat}
theorem rA {aW:FuncId→b4}(ha:aW 45=Kc)(D0:We cf m)(s0:aj)(bZ:ByteArray)(n0:Int)(h:AHeap)(L:Mem)(au:Nat)(aH:Nat)(aq:Nat)  (o:Has h ((au,.ob [.rs aH 0 s0.ah.length 4,.rs aq 0 s0.ao.length 1,.bool s0.aE])::(aH,.sl s0.ah.length 4 (af.l s0.ah))::(aq,.sl s0.ao.length 1 (ab.l s0.ao))::L)){out:Int × Int × aj}(H:gS.f m s0 bZ n0=some out) :
  ∃r h',bj Tryz.prog aW cf m 45 [.ptr au 0,.str bZ,.i n0] h=some (r,h')∧∃aB aC:Nat,r = .tup [.i out.1,.i out.2.1]∧Has h' ((au,.ob [.rs aB 0 out.2.2.ah.length 4,.rs aC 0 out.2.2.ao.length 1,.bool out.2.2.aE])::(aB,.sl out.2.2.ah.length 4 (af.l out.2.2.ah))::(aC,.sl out.2.2.ao.length 1 (ab.l out.2.2.ao))::L):=by
 refine aw (fn:=Tryz.f45) ha Tryz.func45 kr kr ?_
 refine aI (Q:=fun s=>gS.fin L au aH aq s0 bZ n0 out s) (fun _ _ ⟨h1,aB,aC,h2,h3⟩=>⟨h1,_,h2,aB,aC,rfl,h3⟩) ?_
 have H:_=some out:=H
 unfold gS.f at H
 show dE _ cf Kc m _ ⟨[.ptr au 0,.str bZ,.i n0,.any,.any],[],h⟩ _
 refine q1 <| qq ?_
 obtain⟨x0,e0,H⟩:=aP H
 obtain⟨aX,b7,h0,e1,o0⟩:=D0 _ _ _ e0 h _ _ _ _ (o)  [.ptr au 0,.agg [.i 4,.i n0,.str bZ,.nils]] (fy (rfl) (fy (lR (nG (b5 (ig) (b5 (ig) (b5 (pV) (b5 (ou (E:=ab)) (jR))))))) cq))
 obtain rfl:=oi H
 exact qr [.a 4 e1] <| qt <| ⟨.inl rfl,⟨aX,b7,kr,he o0⟩⟩
end
def Kd:b4:=gL [0,1,2,3,6] [1,2] [25,9,19,19] [] []
def gZ.f (m:Nat)(t0:bh):Option (bh × Int):=(dw.f m t0).bind fun x0=>if (!x0)=true then (some ((bh.mk ([]) 0),2)) else ((aF.f m t0.nodes t0.root).bind fun x1=>some (x1,0))
def gZ.fin (L:Mem)(r:bh × Int)(s:St):Prop:=∃av,aK Tryz.prog (s.open Kd) Tryz.f88.results.toList=some av∧Hy s.h av (.tup [.agg [af.fz r.1.nodes,.i r.1.root],.i r.2])
def S88 (cf:CallF)(m:Nat):Prop:=∀(t0:bh) (r:bh × Int),gZ.f m t0=some r→∀h xs,tC xs [.agg [af.fz t0.nodes,.i t0.root]]→cf 88 xs h=some (.tup [.agg [af.fz r.1.nodes,.i r.1.root],.i r.2],h)
section
variable {cf:CallF}{m:Nat}
theorem w9 {aW:FuncId→b4}(ha:aW 88=Kd)(abh:S23 cf m)(Yd:X7 cf m)(t0:bh)(h:AHeap)(L:Mem)  (o:Has h (L)){out:bh × Int}(H:gZ.f m t0=some out) :
  ∃r h',bj Tryz.prog aW cf m 88 [.agg [af.fz t0.nodes,.i t0.root]] h=some (r,h')∧Hy h' r (.tup [.agg [af.fz out.1.nodes,.i out.1.root],.i out.2]):=by
 refine aw (fn:=Tryz.f88) ha Tryz.func88 kr kr ?_
 refine aI (Q:=fun s=>gZ.fin L out s) (fun _ _ h=>h) ?_
 have H:_=some out:=H
 unfold gZ.f at H
 show dE _ cf Kd m _ ⟨.agg [af.fz t0.nodes,.i t0.root]::l9 [],[none,none],h⟩ _
 refine q1 <| qq <| qq ?_
 obtain⟨x0,e0,H⟩:=aP H
 refine qr [.a 1 (abh _ _ e0 h _ fq)] <| qc H (fun c0 H=>?_) (fun c0 H=>?_)
 ·obtain rfl:=oi H
  exact q1 <| qt <| ⟨.inl rfl,Qi (.tup [.agg [.nils,.i 0],.i 2]) h (CO (pU (ai (eJ (ai (va) (ai (aU) (aD)))) (ai (aU) (aD)))))⟩
 ·refine qk <| qq ?_
  obtain⟨x1,e1,H⟩:=aP H
  obtain rfl:=oi H
  exact qr [.a 4 (Yd _ _ _ e1 h _ (b5 (I5 (E:=af)) (b5 (ig) (jR))))] <| qt <| ⟨.inl rfl,Qi (.tup [.agg [af.fz x1.nodes,.i x1.root],.i 0]) h (CO (pU (ai (eJ (ai (iu) (ai (aU) (aD)))) (ai (aU) (aD)))))⟩
end
def D1:b4:=gL [0,1] [] [3] [] []
def jl.f (m:Nat)(x0:List Int)(bD:Int→Int→Option (Int)):Option ((List Int)):=(dh.f m x0 (x0.length:Int) bD).bind fun x1=>some x1
def jl.fin (L:Mem)(aX:Nat)(x0:List Int)(bD:Int→Int→Option (Int))(r:(List Int))(s:St):Prop:=aK Tryz.prog (s.open D1) Tryz.f114.results.toList=some (.tup [])∧Has s.h ((aX,.sl x0.length 1 (ab.l r))::L)
def Ye (cf:CallF)(m:Nat):Prop:=∀(x0:List Int) (bD:Int→Int→Option (Int)) (r:(List Int)),jl.f m x0 bD=some r→∀h L (OF:Nat) (aX:Nat),Has h ((aX,.sl OF 1 (ab.l x0))::L)→∀(iP:FuncId) (bA dy:List AV),(ba (.fn iP bA) = .fn iP bA)→(∀(h:AHeap) (xs:List AV) (a0:Int) (a1:Int) r,bD a0 a1=some r→bl cd h xs ([.i a0,.i a1]++dy)→cf iP xs h=some (.i r,h))→(∀h K,Has h (K++(L))→bl ez h bA dy)→(∀h,bl ez h dy dy)→∀xs,xs.map ba=[.rs aX 0 OF 1,.fn iP bA]→∃h',cf 114 xs h=some (.tup [],h')∧Has h' ((aX,.sl OF 1 (ab.l r))::L)
section
variable {cf:CallF}{m:Nat}
theorem vH {aW:FuncId→b4}(ha:aW 114=D1)(Yf:Yc cf m)(x0:List Int)(bD:Int→Int→Option (Int))(h:AHeap)(L:Mem)(aX:Nat)(iP:FuncId)(bA dy:List AV)  (Ab:ba (.fn iP bA) = .fn iP bA)(kG:∀(h:AHeap) (xs:List AV) (a0:Int) (a1:Int) r,bD a0 a1=some r→bl cd h xs ([.i a0,.i a1]++dy)→cf iP xs h=some (.i r,h))(vi:∀h K,Has h (K++(L))→bl ez h bA dy)(kH:∀h,bl ez h dy dy)(o:Has h ((aX,.sl x0.length 1 (ab.l x0))::L)){out:(List Int)}(H:jl.f m x0 bD=some out) :
  ∃r h',bj Tryz.prog aW cf m 114 [.rs aX 0 x0.length 1,.fn iP bA] h=some (r,h')∧r = .tup []∧Has h' ((aX,.sl x0.length 1 (ab.l out))::L):=by
 refine aw (fn:=Tryz.f114) ha Tryz.func114 kr kr ?_
 refine aI (Q:=fun s=>jl.fin L aX x0 bD out s) (fun _ _ ⟨h1,h2,h3⟩=>⟨h1,_,h2,rfl,h3⟩) ?_
 have H:_=some out:=H
 unfold jl.f at H
 show dE _ cf D1 m _ ⟨[.rs aX 0 x0.length 1,.fn iP bA],[],h⟩ _
 obtain⟨x1,e0,H⟩:=aP H
 obtain⟨h0,e1,o0⟩:=Yf _ _ _ _ e0 h _ _ _ (o) iP bA dy Ab kG (fun h' K' o'=>vi h' (K'++[]) (by simpa only [ai7,ajv,ajj] using o')) kH [.rs aX 0 x0.length 1,.i (x0.length:Int),.fn iP bA] cq
 obtain rfl:=oi H
 exact qr [.a 4 e1] <| ⟨.inr rfl,⟨kr,he o0⟩⟩
end
def Ce:b4:=gL [0,1,3,4,5,6,7,8,9,10,11,12,15,22,34,39,51,68] [3,6,10] [262138,258042,262119,262046,253854,262119,261982,245598,262119,261726,228958,261726,261214,260190,258142,192606,258142,258142,261214,130142,261214,261726,261726,262119] [(18,[(11,none,0)])] [(13,[(11,none,1)])]
def bo.l1 (m:Nat)(s0:aj)(v0:ak):Nat→(List Int)→Int→aj→Option ((List Int) × Int × aj)
 | 0,_,_,_=>none
 | k+1,br,k0,s2=>if (decide (k0<(v0.args.length:Int)))=true then ((ix v0.args k0).bind fun v1=>(app 8 br ([i64.wrap ((s0.ah.length:Int)+v1)])).bind fun x2=>bo.l1 m s0 v0 k x2 (i64.wrap (k0+1)) s2) else (some ((br,k0,s2)))
def bo.l0 (m:Nat)(s0:aj)(x1:bh × Int):Nat→Int→aj→Option (Int × aj)
 | 0,_,_=>none
 | k+1,i0,s1=>if (decide (i0<(x1.1.nodes.length:Int)))=true then ((ix x1.1.nodes i0).bind fun v0=>(bo.l1 m s0 v0 m ([]:List Int) 0 s1).bind fun bp=>match bp with | (jJ,k1,s3)=>jn (fun (σ:Int)=>match σ with | n0=>(app 56 s3.ah ([(ak.mk v0.kind n0 v0.label jJ)])).bind fun x3=>(app 8 s3.ao ([i64.wrap ((s0.ah.length:Int)+i0)])).bind fun x4=>bo.l0 m s0 x1 k (i64.wrap (i0+1)) (aj.mk x3 x4 s3.aE)) fun vh=>(if (v0.kind==0)=true then (vh (i64.wrap ((s0.ah.length:Int)+i0))) else (vh v0.int))) else (some ((i0,s1)))
def bo.f (m:Nat)(s0:aj)(t0:bh):Option (Int × Int × aj):=(ca.f m s0).bind fun x0=>if (!x0)=true then (some (0,6,s0)) else ((gZ.f m t0).bind fun x1=>if (!(x1.2==0))=true then (some (0,x1.2,s0)) else (if (decide ((i64.wrap ((s0.ah.length:Int)+(x1.1.nodes.length:Int))) > 8000))=true then (some (0,7,s0)) else ((bo.l0 m s0 x1 m 0 s0).bind fun cM=>match cM with | (i1,s4)=>some ((s0.ah.length:Int),0,s4))))
def bo.fin (L:Mem)(au:Nat)(aH:Nat)(aq:Nat)(s0:aj)(t0:bh)(r:Int × Int × aj)(s:St):Prop:=∃aB aC:Nat,aK Tryz.prog (s.open Ce) Tryz.f46.results.toList=some (.tup [.i r.1,.i r.2.1])∧Has s.h ((au,.ob [.rs aB 0 r.2.2.ah.length 4,.rs aC 0 r.2.2.ao.length 1,.bool r.2.2.aE])::(aB,.sl r.2.2.ah.length 4 (af.l r.2.2.ah))::(aC,.sl r.2.2.ao.length 1 (ab.l r.2.2.ao))::L)
def S46 (cf:CallF)(m:Nat):Prop:=∀(s0:aj) (t0:bh) (r:Int × Int × aj),bo.f m s0 t0=some r→∀h L (au:Nat) (aH:Nat) (aq:Nat),Has h ((au,.ob [.rs aH 0 s0.ah.length 4,.rs aq 0 s0.ao.length 1,.bool s0.aE])::(aH,.sl s0.ah.length 4 (af.l s0.ah))::(aq,.sl s0.ao.length 1 (ab.l s0.ao))::L)→∀xs,xs.map ba=[.ptr au 0,.agg [af.fz t0.nodes,.i t0.root]]→∃aB aC h',cf 46 xs h=some (.tup [.i r.1,.i r.2.1],h')∧Has h' ((au,.ob [.rs aB 0 r.2.2.ah.length 4,.rs aC 0 r.2.2.ao.length 1,.bool r.2.2.aE])::(aB,.sl r.2.2.ah.length 4 (af.l r.2.2.ah))::(aC,.sl r.2.2.ao.length 1 (ab.l r.2.2.ao))::L)
section
variable {cf:CallF}{m:Nat}
theorem bo.iw (L:Mem)(au:Nat)(aH:Nat)(aq:Nat)(s0:aj)(t0:bh)(x1:bh × Int)(i0:Int)(v0:ak)   : b9 Tryz.prog cf Ce m (sub [1,1,1,1,1,1,0,1,0,0,1,0,0,1,1,0,1,0,0] (bw Tryz.f46)) (fun k (σ:(List Int) × Int × aj)=>bo.l1 m s0 v0 k σ.1 σ.2.1 σ.2.2) (fun σ s=>match σ with | (br,k0,s2)=>∃bT cK dN h1,s=⟨.ptr au 0::l9 (.lp 6 0 :: .any :: .i (s0.ah.length:Int) :: .i i0 :: .lp 10 0 :: .rs bT 0 br.length 1 :: .i k0::wF []),[none,some [af.fz x1.1.nodes,.i x1.1.root],some [.i v0.kind,.i v0.int,.str v0.label,ab.fz v0.args]],h1⟩∧Has h1 ((bT,.sl br.length 1 (ab.l br))::(au,.ob [.rs cK 0 s2.ah.length 4,.rs dN 0 s2.ao.length 1,.bool s2.aE])::(cK,.sl s2.ah.length 4 (af.l s2.ah))::(dN,.sl s2.ao.length 1 (ab.l s2.ao))::L)) (fun out e s=>(e = .exit 2∧∃br k0 s2,(br,k0,s2)=out∧∃wV H2 bT cK dN h1,s=⟨.ptr au 0::l9 (.lp 6 0 :: .any :: .i (s0.ah.length:Int) :: .i i0 :: .lp 10 0 :: .rs bT 0 br.length 1::wV::l9 [H2,.any]),[none,some [af.fz x1.1.nodes,.i x1.1.root],some [.i v0.kind,.i v0.int,.str v0.label,ab.fz v0.args]],h1⟩∧Has h1 ((bT,.sl br.length 1 (ab.l br))::(au,.ob [.rs cK 0 s2.ah.length 4,.rs dN 0 s2.ao.length 1,.bool s2.aE])::(cK,.sl s2.ah.length 4 (af.l s2.ah))::(dN,.sl s2.ao.length 1 (ab.l s2.ao))::L))):=by
 refine jF (fun _=>rfl) ?_
 rintro k ⟨br,k0,s2⟩ s out ⟨bT,cK,dN,h1,rfl,o2⟩ H
 have H:bo.l1 m s0 v0 (k+1) br k0 s2=some out:=H
 refine qq <| qq <| q0 <| qc H (fun c4 H=>?_) (fun c4 H=>?_)
 ·refine qk <| qq <| qb 3 ?_
  obtain⟨v1,e3,H⟩:=aP H
  obtain⟨x2,e4,H⟩:=aP H
  obtain⟨gM,h2,e5,o3⟩:=eu (P:=Tryz.prog) (E:=ab) (l:=br) (q:=0) (t2:=22) (x:=.fz [.i (i64.wrap ((s0.ah.length:Int)+v1))] 1 true) (l2:=([i64.wrap ((s0.ah.length:Int)+v1)])) da o2 rfl kr rfl e4
  exact qr [.v 5 (bN (k:=.i64) (E:=ab) (l:=v0.args) da e3),.v 6 (cO  (E:=ab) (l:=v0.args) h1 A3 e3 rfl),.a 9 e5] <| q0 <| ⟨(x2,i64.wrap (k0+1),s2),⟨gM,cK,dN,h2,kr,o3⟩,H⟩
 ·exact qx 2 <| ⟨rfl,br,k0,s2,oi H,.i k0,.bool (decide (k0<(v0.args.length:Int))),bT,cK,dN,h1,kr,o2⟩
theorem bo.cm (L:Mem)(au:Nat)(aH:Nat)(aq:Nat)(s0:aj)(t0:bh)(x1:bh × Int)   : b9 Tryz.prog cf Ce m (sub [1,1,1,1,1,1,0,1,0,0] (bw Tryz.f46)) (fun k (σ:Int × aj)=>bo.l0 m s0 x1 k σ.1 σ.2) (fun σ s=>match σ with | (i0,s1)=>∃aX b7 h0,s=⟨.ptr au 0::l9 (.lp 6 0 :: .any :: .i (s0.ah.length:Int) :: .i i0::NJ []),[none,some [af.fz x1.1.nodes,.i x1.1.root],none],h0⟩∧Has h0 ((au,.ob [.rs aX 0 s1.ah.length 4,.rs b7 0 s1.ao.length 1,.bool s1.aE])::(aX,.sl s1.ah.length 4 (af.l s1.ah))::(b7,.sl s1.ao.length 1 (ab.l s1.ao))::L)) (fun out e s=>(e = .exit 0∧∃i0 s1,(i0,s1)=out∧∃lH yh vg HT b6_ aX b7 h0,s=⟨lH::l9 (yh :: .any :: .i (s0.ah.length:Int)::vg::wF [HT,.any,.any]),[none,b6_,none],h0⟩∧Has h0 ((au,.ob [.rs aX 0 s1.ah.length 4,.rs b7 0 s1.ao.length 1,.bool s1.aE])::(aX,.sl s1.ah.length 4 (af.l s1.ah))::(b7,.sl s1.ao.length 1 (ab.l s1.ao))::L))):=by
 refine jF (fun _=>rfl) ?_
 rintro k ⟨i0,s1⟩ s out ⟨aX,b7,h0,rfl,o0⟩ H
 have H:bo.l0 m s0 x1 (k+1) i0 s1=some out:=H
 refine qq <| qq <| q0 <| qc H (fun c3 H=>?_) (fun c3 H=>?_)
 ·refine qk <| qq <| qb 1 <| qq ?_
  obtain⟨v0,e2,H⟩:=aP H
  refine qr [.v 3 (bN (k:=.i64) (E:=af) (l:=x1.1.nodes) lJ e2),.v 4 (fZ  (E:=af) (l:=x1.1.nodes) h0 tE tF e2)] <| qq <| q0 ?_
  have o1:Has h0 (((0),.sl (([]:List Int).length) 1 (ab.l ([]:List Int)))::(au,.ob [.rs aX 0 s1.ah.length 4,.rs b7 0 s1.ao.length 1,.bool s1.aE])::(aX,.sl s1.ah.length 4 (af.l s1.ah))::(b7,.sl s1.ao.length 1 (ab.l s1.ao))::L):=Has.nil o0 1
  refine qq <| qq <| q0 <| qb 2 ?_
  obtain⟨bp,e6,H⟩:=aP H
  refine ql (bo.iw L au aH aq s0 t0 x1 i0 v0   (([]:List Int),0,s1) _ _ ⟨(0),aX,b7,h0,kr,o1⟩ e6) ?_
  rintro e s ⟨rfl,jJ,k1,s3,rfl,g0,g1,iy,iM,kl,h3,rfl,o4⟩
  try dsimp only at H
  refine qq ?_
  obtain⟨h4,e7,o5⟩:=lQ (E:=ab) (l:=jJ) (q:=0) o4 rfl
  refine Jb [.a 0 e7] [] ?_
  obtain⟨vh,Jo,H⟩:=ov H
  refine qj (S:=fun (σ:Int) s=>match σ with | n0=>∃(g2:AV) (h5:AHeap),s=⟨.ptr au 0::l9 (.lp 6 0 :: .any :: .i (s0.ah.length:Int) :: .i i0 :: .lp 10 0::B0 [g2]),[none,some [af.fz x1.1.nodes,.i x1.1.root],some [.i v0.kind,.i n0,.str v0.label,ab.fz jJ]],h5⟩∧Has h5 ((au,.ob [.rs iM 0 s3.ah.length 4,.rs kl 0 s3.ao.length 1,.bool s3.aE])::(iM,.sl s3.ah.length 4 (af.l s3.ah))::(kl,.sl s3.ao.length 1 (ab.l s3.ao))::L)) vh H ?_ ?_
  ·rintro n0 s ⟨g2,h5,rfl,o6⟩ H
   have H:=(Jo _).symm.trans H
   try dsimp only at H
   refine qq ?_
   obtain⟨x3,e8,H⟩:=aP H
   obtain⟨kP,h6,e9,o7⟩:=eu (P:=Tryz.prog) (E:=af) (l:=s3.ah) (q:=1) (t2:=23) (x:=.fz [.i v0.kind,.i n0,.str v0.label,ab.fz jJ] 1 true) (l2:=([(ak.mk v0.kind n0 v0.label jJ)])) lJ o6 rfl kr rfl e8
   obtain⟨h7,ma,o8⟩:=mV (P:=Tryz.prog) (t:=23) (off:=0) (q:=0) (cs:=[.rs iM 0 s3.ah.length 4,.rs kl 0 s3.ao.length 1,.bool s3.aE]) (iO:=[.rs kP 0 x3.length 4,.rs kl 0 s3.ao.length 1,.bool s3.aE]) (x:=.rs kP 0 x3.length 4) o7 rfl kr
   refine qr [.v 4 (show bR Tryz.prog h5 23 (.ptr au 0)=some (.rs iM 0 s3.ah.length 4) from cJ (q:=0) (cs:=[.rs iM 0 s3.ah.length 4,.rs kl 0 s3.ao.length 1,.bool s3.aE]) o6 rfl kr),.a 7 e9,.w 10 ma] ?_
   obtain⟨x4,nH,H⟩:=aP H
   obtain⟨fC,h8,oS,o9⟩:=eu (P:=Tryz.prog) (E:=ab) (l:=s3.ao) (q:=2) (t2:=22) (x:=.fz [.i (i64.wrap ((s0.ah.length:Int)+i0))] 1 true) (l2:=([i64.wrap ((s0.ah.length:Int)+i0)])) da o8 rfl kr rfl nH
   obtain⟨h9,rF,s9⟩:=mV (P:=Tryz.prog) (t:=22) (off:=1) (q:=0) (cs:=[.rs kP 0 x3.length 4,.rs kl 0 s3.ao.length 1,.bool s3.aE]) (iO:=[.rs kP 0 x3.length 4,.rs fC 0 x4.length 1,.bool s3.aE]) (x:=.rs fC 0 x4.length 1) o9 rfl kr
   exact qr [.v 4 (show bR Tryz.prog h7 22 (.ptr au 1)=some (.rs kl 0 s3.ao.length 1) from cJ (q:=0) (cs:=[.rs kP 0 x3.length 4,.rs kl 0 s3.ao.length 1,.bool s3.aE]) o8 rfl kr),.a 9 oS,.w 12 rF] <| q0 <| ⟨(i64.wrap (i0+1),(aj.mk x3 x4 s3.aE)),⟨kP,fC,h9,kr,s9⟩,H⟩
  clear Jo
  intro sZ
  refine q1 <| qc H (fun c5 H=>?_) (fun c5 H=>?_)
  ·exact q0 <| sZ (i64.wrap ((s0.ah.length:Int)+i0)) _ ⟨.any,h4,kr,o5⟩ H
  ·exact qk <| sZ v0.int _ ⟨.bool (v0.kind==0),h4,kr,o5⟩ H
 ·exact qx 0 <| ⟨rfl,i0,s1,oi H,.ptr au 0,.lp 6 0,.i i0,.bool (decide (i0<(x1.1.nodes.length:Int))),some [af.fz x1.1.nodes,.i x1.1.root],aX,b7,h0,kr,o0⟩
theorem sy {aW:FuncId→b4}(ha:aW 46=Ce)(qh:N4 cf m)(Vj:S88 cf m)(s0:aj)(t0:bh)(h:AHeap)(L:Mem)(au:Nat)(aH:Nat)(aq:Nat)  (o:Has h ((au,.ob [.rs aH 0 s0.ah.length 4,.rs aq 0 s0.ao.length 1,.bool s0.aE])::(aH,.sl s0.ah.length 4 (af.l s0.ah))::(aq,.sl s0.ao.length 1 (ab.l s0.ao))::L)){out:Int × Int × aj}(H:bo.f m s0 t0=some out) :
  ∃r h',bj Tryz.prog aW cf m 46 [.ptr au 0,.agg [af.fz t0.nodes,.i t0.root]] h=some (r,h')∧∃aB aC:Nat,r = .tup [.i out.1,.i out.2.1]∧Has h' ((au,.ob [.rs aB 0 out.2.2.ah.length 4,.rs aC 0 out.2.2.ao.length 1,.bool out.2.2.aE])::(aB,.sl out.2.2.ah.length 4 (af.l out.2.2.ah))::(aC,.sl out.2.2.ao.length 1 (ab.l out.2.2.ao))::L):=by
 refine aw (fn:=Tryz.f46) ha Tryz.func46 kr kr ?_
 refine aI (Q:=fun s=>bo.fin L au aH aq s0 t0 out s) (fun _ _ ⟨h1,aB,aC,h2,h3⟩=>⟨h1,_,h2,aB,aC,rfl,h3⟩) ?_
 have H:_=some out:=H
 unfold bo.f at H
 show dE _ cf Ce m _ ⟨.ptr au 0 :: .agg [af.fz t0.nodes,.i t0.root]::HC [],[none,none,none],h⟩ _
 refine q1 <| qq <| qq ?_
 obtain⟨x0,e0,H⟩:=aP H
 refine qr [.a 1 (qh _ _ e0 h _ (ia (ai (dM (q:=0) o rfl (ai (cC (E:=af) (l:=s0.ah) (q:=1) o rfl (fun _=>rfl)) (ai (cC (E:=ab) (l:=s0.ao) (q:=2) o rfl (fun _=>rfl)) (ai (eM) (aD))))) (aD))))] <| qc H (fun c0 H=>?_) (fun c0 H=>?_)
 ·obtain rfl:=oi H
  exact q1 <| qt <| ⟨.inl rfl,⟨aH,aq,kr,he o⟩⟩
 ·refine qk <| qq ?_
  obtain⟨x1,e1,H⟩:=aP H
  refine qr [.a 1 (Vj _ _ e1 h _ (b5 (nG (b5 (I5 (E:=af)) (b5 (ig) (jR)))) (jR)))] <| qq <| qq <| q0 <| qc H (fun c1 H=>?_) (fun c1 H=>?_)
  ·obtain rfl:=oi H
   exact q1 <| qt <| ⟨.inl rfl,⟨aH,aq,kr,he o⟩⟩
  ·refine qk <| qq <| qr [.v 3 (show bR Tryz.prog h 23 (.ptr au 0)=some (.rs aH 0 s0.ah.length 4) from cJ (q:=0) (cs:=[.rs aH 0 s0.ah.length 4,.rs aq 0 s0.ao.length 1,.bool s0.aE]) o rfl kr)] <| qq <| qq <| q0 <| qc H (fun c2 H=>?_) (fun c2 H=>?_)
   ·obtain rfl:=oi H
    exact q1 <| qt <| ⟨.inl rfl,⟨aH,aq,kr,he o⟩⟩
   ·refine qk <| qq <| qq <| q0 <| qb 0 ?_
    obtain⟨cM,s7,H⟩:=aP H
    refine ql (bo.cm L au aH aq s0 t0 x1   (0,s0) _ _ ⟨aH,aq,h,kr,o⟩ s7) ?_
    rintro e s ⟨rfl,i1,s4,rfl,g3,g4,g5,g6,g7,hY,gJ,h10,rfl,qP⟩
    try dsimp only at H
    obtain rfl:=oi H
    exact q1 <| qt <| ⟨.inl rfl,⟨hY,gJ,kr,he qP⟩⟩
end
def AE:b4:=gL [0,1,4,5,6,7,8,9,10,11,12,13,16,21,35,48,61] [4,9,11] [131064,126968,131059,122872,131059,131050,131018,130954,114570,130954,130954,130890,130634,97866,130634,130122,129098,127050,61514,127050,127050,130122,130634,131059] [(21,[(12,none,0)]),(23,[(9,some 0,0)])] [(11,[(9,some 0,4)]),(16,[(12,none,1)])]
def aO.l0 (m:Nat)(x2:(List Int)):Nat→(List Int)→Int→Option ((List Int) × Int)
 | 0,_,_=>none
 | k+1,cX,i0=>if (decide (i0<(x2.length:Int)))=true then ((ix x2 i0).bind fun v0=>(ix cX v0).bind fun v1=>aO.l0 m x2 k (cX.set v0.toNat i0) (i64.wrap (i0+1))) else (some ((cX,i0)))
def aO.l2 (m:Nat)(aV:List Int)(x4:ak):Nat→(List Int)→Int→Option ((List Int) × Int)
 | 0,_,_=>none
 | k+1,br,k0=>if (decide (k0<(x4.args.length:Int)))=true then ((ix x4.args k0).bind fun v3=>(ix aV v3).bind fun v4=>(app 8 br ([v4])).bind fun x5=>aO.l2 m aV x4 k x5 (i64.wrap (k0+1))) else (some ((br,k0)))
def aO.l1 (m:Nat)(s0:aj)(x2:(List Int))(aV:List Int):Nat→Int→(List ak)→Int→Option (Int × (List ak) × Int)
 | 0,_,_,_=>none
 | k+1,i2,t0,t1=>if (decide (i2<(x2.length:Int)))=true then ((ix x2 i2).bind fun v2=>(bJ.f m s0 v2).bind fun x4=>(aO.l2 m aV x4 m ([]:List Int) 0).bind fun cM=>match cM with | (jJ,k1)=>(app 56 t0 ([(ak.mk x4.kind x4.int x4.label jJ)])).bind fun x6=>aO.l1 m s0 x2 aV k (i64.wrap (i2+1)) x6 t1) else (some ((i2,t0,t1)))
def aO.f (m:Nat)(s0:aj)(n0:Int):Option (bh × Int):=(ca.f m s0).bind fun x0=>if (!x0)=true then (some ((bh.mk ([]) 0),6)) else ((cU.f m s0 n0).bind fun x1=>if (!x1)=true then (some ((bh.mk ([]) 0),1)) else ((aY.f m s0 n0).bind fun x2=>(sY 8 (s0.ah.length:Int) 0).bind fun x3=>(aO.l0 m x2 m x3 0).bind fun bp=>match bp with | (aV,i1)=>(aO.l1 m s0 x2 aV m 0 ([]:List ak) 0).bind fun fU=>match fU with | (i3,t2,t3)=>(gZ.f m (bh.mk t2 t3)).bind fun x7=>some (x7.1,x7.2)))
def aO.fin (L:Mem)(r:bh × Int)(s:St):Prop:=∃av,aK Tryz.prog (s.open AE) Tryz.f55.results.toList=some av∧Hy s.h av (.tup [.agg [af.fz r.1.nodes,.i r.1.root],.i r.2])
def S55 (cf:CallF)(m:Nat):Prop:=∀(s0:aj) (n0:Int) (r:bh × Int),aO.f m s0 n0=some r→∀h xs,tC xs [.fp [af.fz s0.ah,ab.fz s0.ao,.bool s0.aE] 0,.i n0]→cf 55 xs h=some (.tup [.agg [af.fz r.1.nodes,.i r.1.root],.i r.2],h)
section
variable {cf:CallF}{m:Nat}
theorem aO.cm (L:Mem)(s0:aj)(x2:(List Int))   : b9 Tryz.prog cf AE m (sub [1,1,1,1,1,0,1,0,0] (bw Tryz.f55)) (fun k (σ:(List Int) × Int)=>aO.l0 m x2 k σ.1 σ.2) (fun σ s=>match σ with | (cX,i0)=>∃b7 h1,s=⟨.fp [af.fz s0.ah,ab.fz s0.ao,.bool s0.aE] 0 :: .any :: .lp 4 0 :: .any::ab.fz x2 :: .rs b7 0 cX.length 1 :: .i i0::wG [],[some [.nils,.i 0],none,none],h1⟩∧Has h1 ((b7,.sl cX.length 1 (ab.l cX))::L)) (fun out e s=>(e = .exit 0∧∃cX i0,(cX,i0)=out∧∃ud OE b7 h1,s=⟨.fp [af.fz s0.ah,ab.fz s0.ao,.bool s0.aE] 0 :: .any :: .lp 4 0 :: .any::ab.fz x2 :: .rs b7 0 cX.length 1::ud::B0 [OE,.any,.any],[some [.nils,.i 0],none,none],h1⟩∧Has h1 ((b7,.sl cX.length 1 (ab.l cX))::L))):=by
 refine jF (fun _=>rfl) ?_
 rintro k ⟨cX,i0⟩ s out ⟨b7,h1,rfl,o1⟩ H
 have H:aO.l0 m x2 (k+1) cX i0=some out:=H
 refine qq <| qq <| q0 <| qc H (fun c2 H=>?_) (fun c2 H=>?_)
 ·refine qk <| qq <| qb 1 ?_
  obtain⟨v0,e5,H⟩:=aP H
  obtain⟨v1,e6,H⟩:=aP H
  obtain⟨h2,e7,o2⟩:=dD (P:=Tryz.prog) (tf:=3) (E:=ab) (l:=cX) (q:=0) (v:=i0) (x:=.i i0) o1 rfl Z3 e6 rfl rfl
  exact qr [.v 3 (bN (k:=.i64) (E:=ab) (l:=x2) da e5),.v 4 (cO  (E:=ab) (l:=x2) h1 A3 e5 rfl),.v 6 (aL (k:=.i64) (E:=ab) (l:=cX) (q:=0) da o1 rfl e6),.w 7 e7] <| q0 <| ⟨(cX.set v0.toNat i0,i64.wrap (i0+1)),⟨b7,h2,ld,(ow o2)⟩,H⟩
 ·exact qx 0 <| ⟨rfl,cX,i0,oi H,.i i0,.bool (decide (i0<(x2.length:Int))),b7,h1,kr,o1⟩
theorem aO.mK (L:Mem)(s0:aj)(x2:(List Int))(bT:Nat)(aV:List Int)(bT:Nat)(cK:Nat)(i2:Int)(t0:List ak)(t1:Int)(cK:Nat)(x4:ak)   : b9 Tryz.prog cf AE m (sub [1,1,1,1,1,1,1,0,1,0,0,1,0,0,1,1,0,1,0,0] (bw Tryz.f55)) (fun k (σ:(List Int) × Int)=>aO.l2 m aV x4 k σ.1 σ.2) (fun σ s=>match σ with | (br,k0)=>∃dN h5,s=⟨.fp [af.fz s0.ah,ab.fz s0.ao,.bool s0.aE] 0 :: .any :: .lp 4 0 :: .any::ab.fz x2 :: .rs bT 0 aV.length 1 :: .any :: .lp 9 0 :: .i i2 :: .lp 11 0 :: .rs dN 0 br.length 1 :: .i k0::sO [],[some [.nils,.i 0],some [.rs cK 0 t0.length 4,.i t1],some [.i x4.kind,.i x4.int,.str x4.label,ab.fz x4.args]],h5⟩∧Has h5 ((dN,.sl br.length 1 (ab.l br))::(cK,.sl t0.length 4 (af.l t0))::(bT,.sl aV.length 1 (ab.l aV))::L)) (fun out e s=>(e = .exit 4∧∃br k0,(br,k0)=out∧∃pZ abi dN h5,s=⟨.fp [af.fz s0.ah,ab.fz s0.ao,.bool s0.aE] 0 :: .any :: .lp 4 0 :: .any::ab.fz x2 :: .rs bT 0 aV.length 1 :: .any :: .lp 9 0 :: .i i2 :: .lp 11 0 :: .rs dN 0 br.length 1::pZ::l9 [abi],[some [.nils,.i 0],some [.rs cK 0 t0.length 4,.i t1],some [.i x4.kind,.i x4.int,.str x4.label,ab.fz x4.args]],h5⟩∧Has h5 ((dN,.sl br.length 1 (ab.l br))::(cK,.sl t0.length 4 (af.l t0))::(bT,.sl aV.length 1 (ab.l aV))::L))):=by
 refine jF (fun _=>rfl) ?_
 rintro k ⟨br,k0⟩ s out ⟨dN,h5,rfl,o7⟩ H
 have H:aO.l2 m aV x4 (k+1) br k0=some out:=H
 refine qq <| qq <| q0 <| qc H (fun c4 H=>?_) (fun c4 H=>?_)
 ·refine qk <| qq <| qb 5 ?_
  obtain⟨v3,nH,H⟩:=aP H
  obtain⟨v4,oS,H⟩:=aP H
  obtain⟨x5,rF,H⟩:=aP H
  obtain⟨gM,h6,s7,o8⟩:=eu (P:=Tryz.prog) (E:=ab) (l:=br) (q:=0) (t2:=22) (x:=.fz [.i v4] 1 true) (l2:=([v4])) da o7 rfl kr rfl rF
  exact qr [.v 5 (bN (k:=.i64) (E:=ab) (l:=x4.args) da nH),.v 6 (cO  (E:=ab) (l:=x4.args) h5 A3 nH rfl),.v 7 (aL (k:=.i64) (E:=ab) (l:=aV) (q:=2) da o7 rfl oS),.v 8 (bq  (E:=ab) (l:=aV) (q:=2) o7 rfl A3 oS rfl),.a 10 s7] <| q0 <| ⟨(x5,i64.wrap (k0+1)),⟨gM,h6,kr,o8⟩,H⟩
 ·exact qx 4 <| ⟨rfl,br,k0,oi H,.i k0,.bool (decide (k0<(x4.args.length:Int))),dN,h5,kr,o7⟩
theorem aO.iw (L:Mem)(s0:aj)(x2:(List Int))(bT:Nat)(aV:List Int)(bT:Nat)  (Dy:Wb cf m):b9 Tryz.prog cf AE m (sub [1,1,1,1,1,1,1,0,1,0,0] (bw Tryz.f55)) (fun k (σ:Int × (List ak) × Int)=>aO.l1 m s0 x2 aV k σ.1 σ.2.1 σ.2.2) (fun σ s=>match σ with | (i2,t0,t1)=>∃cK h4,s=⟨.fp [af.fz s0.ah,ab.fz s0.ao,.bool s0.aE] 0 :: .any :: .lp 4 0 :: .any::ab.fz x2 :: .rs bT 0 aV.length 1 :: .any :: .lp 9 0 :: .i i2::tX [],[some [.nils,.i 0],some [.rs cK 0 t0.length 4,.i t1],none],h4⟩∧Has h4 ((cK,.sl t0.length 4 (af.l t0))::(bT,.sl aV.length 1 (ab.l aV))::L)) (fun out e s=>(e = .exit 2∧∃i2 t0 t1,(i2,t0,t1)=out∧∃lH yh wM oG US cK h4,s=⟨lH :: .any :: .lp 4 0 :: .any::yh::wM :: .any :: .lp 9 0::oG::wF [US,.any],[some [.nils,.i 0],some [.rs cK 0 t0.length 4,.i t1],none],h4⟩∧Has h4 ((cK,.sl t0.length 4 (af.l t0))::(bT,.sl aV.length 1 (ab.l aV))::L))):=by
 refine jF (fun _=>rfl) ?_
 rintro k ⟨i2,t0,t1⟩ s out ⟨cK,h4,rfl,o5⟩ H
 have H:aO.l1 m s0 x2 aV (k+1) i2 t0 t1=some out:=H
 refine qq <| qq <| q0 <| qc H (fun c3 H=>?_) (fun c3 H=>?_)
 ·refine qk <| qq <| qb 3 <| qq ?_
  obtain⟨v2,e9,H⟩:=aP H
  obtain⟨x4,ma,H⟩:=aP H
  refine qr [.v 3 (bN (k:=.i64) (E:=ab) (l:=x2) da e9),.v 4 (cO  (E:=ab) (l:=x2) h4 A3 e9 rfl),.a 5 (Dy _ _ _ ma h4 _ (b5 (Fs (pure_cons (bM.aJ (E:=af) (l:=s0.ah)) (pure_cons (bM.aJ (E:=ab) (l:=s0.ao)) (pure_cons (bc) (pure_nil))))) (b5 (ig) (jR))))] <| qq <| q0 ?_
  have o6:Has h4 ((((0)),.sl (([]:List Int).length) 1 (ab.l ([]:List Int)))::(cK,.sl t0.length 4 (af.l t0))::(bT,.sl aV.length 1 (ab.l aV))::L):=Has.nil o5 1
  refine qq <| qq <| q0 <| qb 4 ?_
  obtain⟨cM,s8,H⟩:=aP H
  refine ql (aO.mK L s0 x2 bT aV bT cK i2 t0 t1 cK x4   (([]:List Int),0) _ _ ⟨((0)),h4,kr,o6⟩ s8) ?_
  rintro e s ⟨rfl,jJ,k1,rfl,g2,g3,iy,h7,rfl,o9⟩
  try dsimp only at H
  refine qq ?_
  obtain⟨h8,vj,s9⟩:=lQ (E:=ab) (l:=jJ) (q:=0) o9 rfl
  refine Jb [.a 0 vj] [] ?_
  obtain⟨x6,yV,H⟩:=aP H
  obtain⟨iM,h9,yW,qP⟩:=eu (P:=Tryz.prog) (E:=af) (l:=t0) (q:=0) (t2:=23) (x:=.fz [.i x4.kind,.i x4.int,.str x4.label,ab.fz jJ] 1 true) (l2:=([(ak.mk x4.kind x4.int x4.label jJ)])) lJ s9 rfl kr rfl yV
  exact qr [.a 4 yW] <| q0 <| ⟨(i64.wrap (i2+1),x6,t1),⟨iM,h9,kr,qP⟩,H⟩
 ·exact qx 2 <| ⟨rfl,i2,t0,t1,oi H,.fp [af.fz s0.ah,ab.fz s0.ao,.bool s0.aE] 0,ab.fz x2,.rs bT 0 aV.length 1,.i i2,.bool (decide (i2<(x2.length:Int))),cK,h4,kr,o5⟩
theorem rB {aW:FuncId→b4}(ha:aW 55=AE)(qh:N4 cf m)(Vj:S88 cf m)(uk:UC cf m)(Dy:Wb cf m)(UR:S93 cf m)(s0:aj)(n0:Int)(h:AHeap)(L:Mem)  (o:Has h (L)){out:bh × Int}(H:aO.f m s0 n0=some out) :
  ∃r h',bj Tryz.prog aW cf m 55 [.fp [af.fz s0.ah,ab.fz s0.ao,.bool s0.aE] 0,.i n0] h=some (r,h')∧Hy h' r (.tup [.agg [af.fz out.1.nodes,.i out.1.root],.i out.2]):=by
 refine aw (fn:=Tryz.f55) ha Tryz.func55 kr kr ?_
 refine aI (Q:=fun s=>aO.fin L out s) (fun _ _ h=>h) ?_
 have H:_=some out:=H
 unfold aO.f at H
 show dE _ cf AE m _ ⟨.fp [af.fz s0.ah,ab.fz s0.ao,.bool s0.aE] 0 :: .i n0::Rb [],[none,none,none],h⟩ _
 refine q1 <| qq <| qq ?_
 obtain⟨x0,e0,H⟩:=aP H
 refine qr [.a 1 (qh _ _ e0 h _ (ia (ai (cV (pure_cons (bM.aJ (E:=af) (l:=s0.ah)) (pure_cons (bM.aJ (E:=ab) (l:=s0.ao)) (pure_cons (bc) (pure_nil))))) (aD))))] <| qc H (fun c0 H=>?_) (fun c0 H=>?_)
 ·obtain rfl:=oi H
  exact q1 <| qt <| ⟨.inl rfl,Qi (.tup [.agg [.nils,.i 0],.i 6]) h (CO (pU (ai (eJ (ai (va) (ai (aU) (aD)))) (ai (aU) (aD)))))⟩
 ·refine qk <| qq <| qq ?_
  obtain⟨x1,e1,H⟩:=aP H
  refine qr [.a 2 (uk _ _ _ e1 h _ (ia (ai (cV (pure_cons (bM.aJ (E:=af) (l:=s0.ah)) (pure_cons (bM.aJ (E:=ab) (l:=s0.ao)) (pure_cons (bc) (pure_nil))))) (ai (aU) (aD)))))] <| qc H (fun c1 H=>?_) (fun c1 H=>?_)
  ·obtain rfl:=oi H
   exact q1 <| qt <| ⟨.inl rfl,Qi (.tup [.agg [.nils,.i 0],.i 1]) h (CO (pU (ai (eJ (ai (va) (ai (aU) (aD)))) (ai (aU) (aD)))))⟩
  ·refine qk <| qq ?_
   obtain⟨x2,e2,H⟩:=aP H
   refine qr [.a 2 (UR _ _ _ e2 h _ (ia (ai (cV (pure_cons (bM.aJ (E:=af) (l:=s0.ah)) (pure_cons (bM.aJ (E:=ab) (l:=s0.ao)) (pure_cons (bc) (pure_nil))))) (ai (aU) (aD)))))] <| qq ?_
   obtain⟨x3,e3,H⟩:=aP H
   obtain⟨aX,h0,e4,o0⟩:=nE (P:=Tryz.prog) (E:=ab) (z:=0) (zv:=.i 0) da o 3 rfl rfl rfl rfl e3
   refine qr [.a 5 e4] <| qq <| qq <| q0 <| qb 0 ?_
   obtain⟨bp,e8,H⟩:=aP H
   refine ql (aO.cm L s0 x2   (x3,0) _ _ ⟨aX,h0,kr,o0⟩ e8) ?_
   rintro e s ⟨rfl,aV,i1,rfl,g0,g1,bT,h3,rfl,o3⟩
   try dsimp only at H
   refine q1 ?_
   have o4:Has h3 (((0),.sl (([]:List ak).length) 4 (af.l ([]:List ak)))::(bT,.sl aV.length 1 (ab.l aV))::L):=Has.nil o3 4
   refine qq <| qq <| q0 <| qb 2 ?_
   obtain⟨fU,vq,H⟩:=aP H
   refine ql (aO.iw L s0 x2 bT aV bT  Dy (0,([]:List ak),0) _ _ ⟨(0),h3,kr,o4⟩ vq) ?_
   rintro e s ⟨rfl,i3,t2,t3,rfl,g4,g5,g6,g7,g8,kl,h10,rfl,wP⟩
   try dsimp only at H
   refine qq ?_
   obtain⟨h11,Bd,mX⟩:=lQ (E:=af) (l:=t2) (q:=0) wP rfl
   obtain⟨x7,Bu,H⟩:=aP H
   refine Jb [.a 0 Bd] [.a 1 (Vj _ _ Bu h11 _ (b5 (nG (b5 (I5 (E:=af)) (b5 (ig) (jR)))) (jR)))] ?_
   obtain rfl:=oi H
   exact qt <| ⟨.inl rfl,Qi (.tup [.agg [af.fz x7.1.nodes,.i x7.1.root],.i x7.2]) h11 (CO (pU (ai (eJ (ai (iu) (ai (aU) (aD)))) (ai (aU) (aD)))))⟩
end
def vI:b4:=gL [0,1,2,3,4,5,6,7,8,9,10,11,12,13,14,15,17,22,23,24,37,38,39,40,61,73,74,75,76,87,88,89,90,110,126] [12] [34359738365,34359738357,34359345141,34358820853,34359345125,34359345141,34359345141,34359738357,34359738325,34359738261,34352398229,34344009621,34352397845,34335620757,34352397973,34352398229,34352398229,34359737757,34359736733,34124855709,33856420253,34124849565,34124841373,30366749085,26071781789,30366699933,30366749085,30366749085,34124779933,25534910877,34124845469,34124855709,34124855709,17179867613,34359738363,34359738269] [] []
def aM.l0 (m:Nat)(x0:List Int):Nat→(List Int)→Int→Option ((List Int) × Int)
 | 0,_,_=>none
 | k+1,kg,x1=>if (decide (x1<(x0.length:Int)))=true then ((ix kg x1).bind fun v0=>aM.l0 m x0 k (kg.set x1.toNat x1) (i64.wrap (x1+1))) else (some ((kg,x1)))
def aM.l1 (m:Nat)(bg:List ak)(jc:List Int)(x3:(List Int)):Nat→(List Int)→Int→Int→Option ((List Int) × Int × Int)
 | 0,_,_,_=>none
 | k+1,cM,jC,x5=>if (decide (x5<(jc.length:Int)))=true then ((ix x3 x5).bind fun v1=>if (decide (x5 > 0))=true then ((ix x3 (i64.wrap (x5 - 1))).bind fun v2=>(ix bg v2).bind fun v3=>(ix bg v1).bind fun v4=>(fF.f m v3 v4).bind fun x6=>if (!(x6==0))=true then ((ix cM v1).bind fun v5=>aM.l1 m bg jc x3 k (cM.set v1.toNat (i64.wrap (jC+1))) (i64.wrap (jC+1)) (i64.wrap (x5+1))) else ((ix cM v1).bind fun v6=>aM.l1 m bg jc x3 k (cM.set v1.toNat jC) jC (i64.wrap (x5+1)))) else ((ix cM v1).bind fun v7=>aM.l1 m bg jc x3 k (cM.set v1.toNat jC) jC (i64.wrap (x5+1)))) else (some ((cM,jC,x5)))
def aM.l4 (m:Nat)(eK:List Int)(v8:ak):Nat→(List Int)→Int→Option ((List Int) × Int)
 | 0,_,_=>none
 | k+1,k0,mW=>if (decide (mW<(v8.args.length:Int)))=true then ((ix v8.args mW).bind fun v10=>(ix eK v10).bind fun v11=>(ix k0 (i64.wrap (mW+1))).bind fun v12=>aM.l4 m eK v8 k (k0.set (i64.wrap (mW+1)).toNat (i64.wrap (v11+1))) (i64.wrap (mW+1))) else (some ((k0,mW)))
def aM.l3 (m:Nat)(bg:List ak)(eK:List Int):Nat→(List (List Int × Int))→(List Int)→Int→Option ((List (List Int × Int)) × (List Int) × Int)
 | 0,_,_,_=>none
 | k+1,gB,dK,x9=>if (decide (x9<(bg.length:Int)))=true then ((ix bg x9).bind fun v8=>(ix eK x9).bind fun v9=>(aM.l4 m eK v8 m ([i64.wrap (v9+1),0,0,0,0,0,0,0,0]) 0).bind fun Al=>match Al with | (k1,FD)=>(Q3 9 gB k1).bind fun r0=>if (!r0.2)=true then ((Xc 9 gB k1 (gB.length:Int)).bind fun Wf=>(Q3 9 Wf k1).bind fun r1=>(ix dK x9).bind fun Og=>aM.l3 m bg eK k Wf (dK.set x9.toNat r1.1) (i64.wrap (x9+1))) else ((Q3 9 gB k1).bind fun r2=>(ix dK x9).bind fun Eu=>aM.l3 m bg eK k gB (dK.set x9.toNat r2.1) (i64.wrap (x9+1)))) else (some ((gB,dK,x9)))
def aM.l2 (m:Nat)(bg:List ak):Nat→(List Int)→Int→Option (Sum (List Int) ((List Int) × Int))
 | 0,_,_=>none
 | k+1,eK,nO=>(sY 8 (bg.length:Int) 0).bind fun x8=>(aM.l3 m bg eK m ([]:List (List Int × Int)) x8 0).bind fun ky=>match ky with | (jq,fj,uy)=>if ((jq.length:Int)==(i64.wrap (nO+1)))=true then (some (.inl eK)) else (aM.l2 m bg k fj (i64.wrap ((jq.length:Int) - 1)))
def aM.f (m:Nat)(bg:List ak):Option ((List Int)):=(sY 8 (bg.length:Int) 0).bind fun x0=>(aM.l0 m x0 m x0 0).bind fun bp=>match bp with | (jc,x2)=>(jl.f m jc (fun y0 y1=>gh.f m y0 y1 bg)).bind fun x3=>(sY 8 (bg.length:Int) 0).bind fun x4=>(aM.l1 m bg jc x3 m x4 0 0).bind fun mI=>match mI with | (fU,many1,x7)=>(aM.l2 m bg m fU many1).bind fun OC=>match OC with | .inl r3=>some r3 | .inr (su,Yg)=>none
def aM.fin (L:Mem)(r:(List Int))(s:St):Prop:=∃av,aK Tryz.prog (s.open vI) Tryz.f96.results.toList=some av∧eX s.h av (ab.fz r)
def S96 (cf:CallF)(m:Nat):Prop:=∀(bg:List ak) (r:(List Int)),aM.f m bg=some r→∀h xs,bl cd h xs [af.fz bg]→cf 96 xs h=some (ab.fz r,h)
section
variable {cf:CallF}{m:Nat}
theorem aM.cm (L:Mem)(bg:List ak)(aX:Nat)(x0:List Int)   : b9 Tryz.prog cf vI m (sub [1,1,0,1,0,0] (bw Tryz.f96)) (fun k (σ:(List Int) × Int)=>aM.l0 m x0 k σ.1 σ.2) (fun σ s=>match σ with | (kg,x1)=>∃bT h2,s=⟨.any :: .ptr aX 0 :: .any :: .rs bT 0 kg.length 1::Fg (.i (x0.length:Int) :: .i x1::HC []),[none],h2⟩∧Has h2 ((bT,.sl kg.length 1 (ab.l kg))::(aX,.ob [af.fz bg])::L)) (fun out e s=>(e = .exit 0∧∃kg x1,(kg,x1)=out∧∃Am HP abj bT h2,s=⟨.any :: .ptr aX 0 :: .any :: .rs bT 0 kg.length 1::Fg (Am::HP::abj::Rb []),[none],h2⟩∧Has h2 ((bT,.sl kg.length 1 (ab.l kg))::(aX,.ob [af.fz bg])::L))):=by
 refine jF (fun _=>rfl) ?_
 rintro k ⟨kg,x1⟩ s out ⟨bT,h2,rfl,o2⟩ H
 have H:aM.l0 m x0 (k+1) kg x1=some out:=H
 refine q1 <| qq <| qc H (fun c0 H=>?_) (fun c0 H=>?_)
 ·refine qk <| qq <| qb 1 <| qq <| q0 ?_
  obtain⟨v0,e3,H⟩:=aP H
  obtain⟨h3,e4,o3⟩:=dD (P:=Tryz.prog) (tf:=3) (E:=ab) (l:=kg) (q:=0) (v:=x1) (x:=.i x1) o2 rfl Z3 e3 rfl rfl
  exact qr [.v 3 (aL (k:=.i64) (E:=ab) (l:=kg) (q:=0) da o2 rfl e3),.w 4 e4] <| q0 <| ⟨(kg.set x1.toNat x1,i64.wrap (x1+1)),⟨bT,h3,ld,(ow o3)⟩,H⟩
 ·exact qx 0 <| ⟨rfl,kg,x1,oi H,.i (x0.length:Int),.i x1,.bool (decide (x1<(x0.length:Int))),bT,h2,kr,o2⟩
theorem aM.iw (L:Mem)(bg:List ak)(aX:Nat)(cK:Nat)(jc:List Int)(cK:Nat)(x3:(List Int))  (FN:RB cf m):b9 Tryz.prog cf vI m (sub [1,1,1,1,1,1,0,1,0,0] (bw Tryz.f96)) (fun k (σ:(List Int) × Int × Int)=>aM.l1 m bg jc x3 k σ.1 σ.2.1 σ.2.2) (fun σ s=>match σ with | (cM,jC,x5)=>∃gM h7,s=⟨.any :: .ptr aX 0 :: .any :: .rs cK 0 jc.length 1 :: .any :: .rs gM 0 cM.length 1 :: .i jC::Fg (.rs cK 0 jc.length 1 :: .i (jc.length:Int) :: .i x5::zN []),[none],h7⟩∧Has h7 ((gM,.sl cM.length 1 (ab.l cM))::(cK,.sl jc.length 1 (ab.l x3))::(aX,.ob [af.fz bg])::L)) (fun out e s=>(e = .exit 2∧∃cM jC x5,(cM,jC,x5)=out∧∃Br HR HS HT OG gM h7,s=⟨.any :: .ptr aX 0 :: .any::Br :: .any :: .rs gM 0 cM.length 1 :: .i jC::Fg (HR::HS::HT::OG::vc []),[none],h7⟩∧Has h7 ((gM,.sl cM.length 1 (ab.l cM))::(cK,.sl jc.length 1 (ab.l x3))::(aX,.ob [af.fz bg])::L))):=by
 refine jF (fun _=>rfl) ?_
 rintro k ⟨cM,jC,x5⟩ s out ⟨gM,h7,rfl,o7⟩ H
 have H:aM.l1 m bg jc x3 (k+1) cM jC x5=some out:=H
 refine q1 <| qq <| qc H (fun c1 H=>?_) (fun c1 H=>?_)
 ·refine qk <| qq <| qb 3 <| qq ?_
  obtain⟨v1,ma,H⟩:=aP H
  refine qr [.v 1 (aL (k:=.i64) (E:=ab) (l:=x3) (q:=1) da o7 rfl ma),.v 2 (bq  (E:=ab) (l:=x3) (q:=1) o7 rfl A3 ma rfl)] <| qq <| qq ?_
  rcases eV H with⟨c2,H⟩| ⟨c2,H⟩
  ·obtain⟨v2,nH,H⟩:=aP H
   obtain⟨v3,oS,H⟩:=aP H
   obtain⟨v4,rF,H⟩:=aP H
   obtain⟨x6,s7,H⟩:=aP H
   refine qr [.b 2 c2,.v 3 (show bR Tryz.prog h7 23 (.ptr aX 0)=some (af.fz bg) from cJ (q:=2) (cs:=[af.fz bg]) o7 rfl kr),.v 7 (aL (k:=.i64) (E:=ab) (l:=x3) (q:=1) da o7 rfl nH),.v 8 (bq  (E:=ab) (l:=x3) (q:=1) o7 rfl A3 nH rfl),.v 9 (bN (k:=.i64) (E:=af) (l:=bg) lJ oS),.v 10 (fZ  (E:=af) (l:=bg) h7 tE tF oS),.v 11 (show bR Tryz.prog h7 23 (.ptr aX 0)=some (af.fz bg) from cJ (q:=2) (cs:=[af.fz bg]) o7 rfl kr),.v 13 (bN (k:=.i64) (E:=af) (l:=bg) lJ rF),.v 14 (fZ  (E:=af) (l:=bg) h7 tE tF rF),.a 15 (FN _ _ _ s7 h7 _ fq)] ?_
   refine qc H (fun c3 H=>?_) (fun c3 H=>?_)
   ·refine q0 ?_
    obtain⟨v5,s8,H⟩:=aP H
    obtain⟨h8,vj,o8⟩:=dD (P:=Tryz.prog) (tf:=3) (E:=ab) (l:=cM) (q:=0) (v:=(i64.wrap (jC+1))) (x:=.i (i64.wrap (jC+1))) o7 rfl Z3 s8 rfl rfl
    exact qr [.v 3 (aL (k:=.i64) (E:=ab) (l:=cM) (q:=0) da o7 rfl s8),.w 4 vj] <| q0 <| ⟨(cM.set v1.toNat (i64.wrap (jC+1)),i64.wrap (jC+1),i64.wrap (x5+1)),⟨gM,h8,ld,(ow o8)⟩,H⟩
   ·refine qk ?_
    obtain⟨v6,yV,H⟩:=aP H
    obtain⟨h9,yW,o9⟩:=dD (P:=Tryz.prog) (tf:=3) (E:=ab) (l:=cM) (q:=0) (v:=jC) (x:=.i jC) o7 rfl Z3 yV rfl rfl
    exact qr [.v 3 (aL (k:=.i64) (E:=ab) (l:=cM) (q:=0) da o7 rfl yV),.w 4 yW] <| q0 <| ⟨(cM.set v1.toNat jC,jC,i64.wrap (x5+1)),⟨gM,h9,ld,(ow o9)⟩,H⟩
  ·refine qr [.b 2 c2] <| Dr <| qk ?_
   obtain⟨v7,vq,H⟩:=aP H
   obtain⟨h10,Bd,s9⟩:=dD (P:=Tryz.prog) (tf:=3) (E:=ab) (l:=cM) (q:=0) (v:=jC) (x:=.i jC) o7 rfl Z3 vq rfl rfl
   exact qr [.v 3 (aL (k:=.i64) (E:=ab) (l:=cM) (q:=0) da o7 rfl vq),.w 4 Bd] <| q0 <| ⟨(cM.set v1.toNat jC,jC,i64.wrap (x5+1)),⟨gM,h10,ld,(ow s9)⟩,H⟩
 ·exact qx 2 <| ⟨rfl,cM,jC,x5,oi H,.rs cK 0 jc.length 1,.rs cK 0 jc.length 1,.i (jc.length:Int),.i x5,.bool (decide (x5<(jc.length:Int))),gM,h7,ld,(ow o7)⟩
theorem aM.vA (L:Mem)(bg:List ak)(aX:Nat)(iM:Nat)(eK:List Int)(nO:Int)(iM:Nat)(kl:Nat)(fC:Nat)(gB:List (List Int × Int))(dK:List Int)(x9:Int)(fC:Nat)(v8:ak)(hY:Nat)   : b9 Tryz.prog cf vI m (sub [1,1,1,1,1,1,1,0,0,0,1,1,0,1,0,0,1,1,0,0,1,1,0,1,0,0] (bw Tryz.f96)) (fun k (σ:(List Int) × Int)=>aM.l4 m eK v8 k σ.1 σ.2) (fun σ s=>match σ with | (k0,mW)=>∃h18,s=⟨.any :: .ptr aX 0::nc (.rs iM 0 eK.length 1 :: .i nO :: .any :: .any :: .mp kl :: .rs fC 0 dK.length 1 :: .i x9 :: .any :: .ptr hY 0::vc (af.fz bg :: .i (bg.length:Int) :: .i x9 :: .any::ab.fz v8.args :: .i (v8.args.length:Int) :: .i mW::nc [])),[none],h18⟩∧Has h18 ((hY,.sl 9 1 (ab.l k0))::(fC,.sl dK.length 1 (ab.l dK))::(kl,.mp (Dl gB))::(iM,.sl eK.length 1 (ab.l eK))::(aX,.ob [af.fz bg])::L)) (fun out e s=>(e = .exit 8∧∃k0 mW,(k0,mW)=out∧∃abk abl abm abn h18,s=⟨.any :: .ptr aX 0::nc (.rs iM 0 eK.length 1 :: .i nO :: .any :: .any :: .mp kl :: .rs fC 0 dK.length 1 :: .i x9 :: .any :: .ptr hY 0::vc [af.fz bg,.i (bg.length:Int),.i x9,.any,abk,abl,abm,abn,.any,.any]),[none],h18⟩∧Has h18 ((hY,.sl 9 1 (ab.l k0))::(fC,.sl dK.length 1 (ab.l dK))::(kl,.mp (Dl gB))::(iM,.sl eK.length 1 (ab.l eK))::(aX,.ob [af.fz bg])::L))):=by
 refine jF (fun _=>rfl) ?_
 rintro k ⟨k0,mW⟩ s out ⟨h18,rfl,Ao⟩ H
 have H:aM.l4 m eK v8 (k+1) k0 mW=some out:=H
 refine q1 <| qq <| qc H (fun c6 H=>?_) (fun c6 H=>?_)
 ·refine qk <| qq <| qb 9 <| qq ?_
  obtain⟨v10,LR,H⟩:=aP H
  refine qr [.v 1 (bN (k:=.i64) (E:=ab) (l:=v8.args) da LR),.v 2 (cO  (E:=ab) (l:=v8.args) h18 A3 LR rfl)] ?_
  obtain⟨v11,LS,H⟩:=aP H
  obtain⟨v12,GZ,H⟩:=aP H
  obtain⟨h19,LQ,LP⟩:=dD (P:=Tryz.prog) (tf:=3) (E:=ab) (l:=k0) (q:=0) (v:=(i64.wrap (v11+1))) (x:=.i (i64.wrap (v11+1))) Ao rfl Z3 GZ rfl rfl
  exact qr [.v 4 (aL (k:=.i64) (E:=ab) (l:=eK) (q:=3) da Ao rfl LS),.v 5 (bq  (E:=ab) (l:=eK) (q:=3) Ao rfl A3 LS rfl),.v 7 (Ui (k:=.i64) (q:=0) (l:=k0) B8 Ao rfl GZ),.w 8 LQ] <| q0 <| ⟨(k0.set (i64.wrap (mW+1)).toNat (i64.wrap (v11+1)),i64.wrap (mW+1)),⟨h19,kr,LP⟩,H⟩
 ·exact qx 8 <| ⟨rfl,k0,mW,oi H,ab.fz v8.args,.i (v8.args.length:Int),.i mW,.bool (decide (mW<(v8.args.length:Int))),h18,kr,Ao⟩
theorem aM.vz (L:Mem)(bg:List ak)(aX:Nat)(iM:Nat)(eK:List Int)(nO:Int)(iM:Nat)(kl:Nat)   : b9 Tryz.prog cf vI m (sub [1,1,1,1,1,1,1,0,0,0,1,1,0,1,0,0] (bw Tryz.f96)) (fun k (σ:(List (List Int × Int)) × (List Int) × Int)=>aM.l3 m bg eK k σ.1 σ.2.1 σ.2.2) (fun σ s=>match σ with | (gB,dK,x9)=>∃fC h15,s=⟨.any :: .ptr aX 0::nc (.rs iM 0 eK.length 1 :: .i nO :: .any :: .any :: .mp kl :: .rs fC 0 dK.length 1::zO (af.fz bg :: .i (bg.length:Int) :: .i x9::B0 [])),[none],h15⟩∧Has h15 ((fC,.sl dK.length 1 (ab.l dK))::(kl,.mp (Dl gB))::(iM,.sl eK.length 1 (ab.l eK))::(aX,.ob [af.fz bg])::L)) (fun out e s=>(e = .exit 6∧∃gB dK x9,(gB,dK,x9)=out∧∃abo abp abq abr fC h15,s=⟨.any :: .ptr aX 0::nc (.rs iM 0 eK.length 1 :: .i nO :: .any :: .any :: .mp kl :: .rs fC 0 dK.length 1::zO (abo::abp::abq::abr::wF [])),[none],h15⟩∧Has h15 ((fC,.sl dK.length 1 (ab.l dK))::(kl,.mp (Dl gB))::(iM,.sl eK.length 1 (ab.l eK))::(aX,.ob [af.fz bg])::L))):=by
 refine jF (fun _=>rfl) ?_
 rintro k ⟨gB,dK,x9⟩ s out ⟨fC,h15,rfl,pn⟩ H
 have H:aM.l3 m bg eK (k+1) gB dK x9=some out:=H
 refine q1 <| qq <| qc H (fun c5 H=>?_) (fun c5 H=>?_)
 ·refine qk <| qq <| qb 7 <| qq ?_
  obtain⟨v8,DM,H⟩:=aP H
  refine qr [.v 1 (bN (k:=.i64) (E:=af) (l:=bg) lJ DM),.v 2 (fZ  (E:=af) (l:=bg) h15 tE tF DM)] <| qq ?_
  obtain⟨v9,DS,H⟩:=aP H
  obtain⟨hY,h16,HV,yX⟩:=Ra (cs:=[.i 0,.i 0,.i 0,.i 0,.i 0,.i 0,.i 0,.i 0,.i 0]) (l:=[0,0,0,0,0,0,0,0,0]) pn kr
  obtain⟨h17,JM,oM⟩:=Uj (q:=0) (l:=([0,0,0,0,0,0,0,0,0])) (l':=[i64.wrap (v9+1),0,0,0,0,0,0,0,0]) (x:=.agg [.i (i64.wrap (v9+1)),.i 0,.i 0,.i 0,.i 0,.i 0,.i 0,.i 0,.i 0]) B8 yX rfl rfl rfl
  refine qr [.v 2 (aL (k:=.i64) (E:=ab) (l:=eK) (q:=2) da pn rfl DS),.v 3 (bq  (E:=ab) (l:=eK) (q:=2) pn rfl A3 DS rfl),.a 6 HV,.w 7 JM] <| qq <| qq <| q0 <| qb 8 ?_
  obtain⟨Al,My,H⟩:=aP H
  refine ql (aM.vA L bg aX iM eK nO iM kl fC gB dK x9 fC v8 hY   ([i64.wrap (v9+1),0,0,0,0,0,0,0,0],0) _ _ ⟨h17,kr,oM⟩ My) ?_
  rintro e s ⟨rfl,k1,FD,rfl,g13,g14,g15,g16,h20,rfl,yp⟩
  try dsimp only at H
  refine qq <| qq ?_
  obtain⟨r0,Rv,H⟩:=aP H
  refine qr [.v 1 (show bR Tryz.prog h20 121 (.ptr hY 0)=some (.agg (ab.l k1)) from Dn (q:=0) (l:=k1) B8 yp rfl),.v 2 (show hZ Tryz.prog h20 119 (.mp kl) (.agg (ab.l k1)) true=some (.tup [.i r0.1,.bool r0.2]) from (Ug (q:=2) (l:=gB) (k:=k1) Jh yp rfl Rv).1)] <| qq <| q0 <| qc H (fun c7 H=>?_) (fun c7 H=>?_)
  ·obtain⟨Wf,Rw,H⟩:=aP H
   obtain⟨h21,U2,xN⟩:=aaf (q:=2) (l:=gB) (k:=k1) (v:=(gB.length:Int)) Jh yp rfl Rw
   refine qr [.v 1 (show bR Tryz.prog h20 121 (.ptr hY 0)=some (.agg (ab.l k1)) from Dn (q:=0) (l:=k1) B8 yp rfl),.v 3 (show za Tryz.prog h20 119 (.mp kl)=some (.i (gB.length:Int)) from Uh (q:=2) (l:=gB) N2 yp rfl),.w 4 U2] ?_
   obtain⟨r1,U4,H⟩:=aP H
   obtain⟨Og,Ry,H⟩:=aP H
   obtain⟨h22,Wd,JL⟩:=dD (P:=Tryz.prog) (tf:=3) (E:=ab) (l:=dK) (q:=1) (v:=r1.1) (x:=.i r1.1) xN rfl Z3 Ry rfl rfl
   refine qr [.v 3 (show bR Tryz.prog h21 121 (.ptr hY 0)=some (.agg (ab.l k1)) from Dn (q:=0) (l:=k1) B8 xN rfl),.v 4 (show hZ Tryz.prog h21 119 (.mp kl) (.agg (ab.l k1)) false=some (.i r1.1) from (Ug (q:=2) (l:=Wf) (k:=k1) Jh xN rfl U4).2),.v 5 (aL (k:=.i64) (E:=ab) (l:=dK) (q:=1) da xN rfl Ry),.w 6 Wd] ?_
   have Oj:Has h22 ((fC,.sl dK.length 1 (ab.l (dK.set x9.toNat r1.1)))::(kl,.mp (Dl Wf))::(iM,.sl eK.length 1 (ab.l eK))::(aX,.ob [af.fz bg])::L):=iC JL 0
   exact q0 <| ⟨(Wf,dK.set x9.toNat r1.1,i64.wrap (x9+1)),⟨fC,h22,ld,(ow Oj)⟩,H⟩
  ·refine qk ?_
   obtain⟨r2,X1,H⟩:=aP H
   obtain⟨Eu,RD,H⟩:=aP H
   obtain⟨h23,Th,U3⟩:=dD (P:=Tryz.prog) (tf:=3) (E:=ab) (l:=dK) (q:=1) (v:=r2.1) (x:=.i r2.1) yp rfl Z3 RD rfl rfl
   refine qr [.v 3 (show bR Tryz.prog h20 121 (.ptr hY 0)=some (.agg (ab.l k1)) from Dn (q:=0) (l:=k1) B8 yp rfl),.v 4 (show hZ Tryz.prog h20 119 (.mp kl) (.agg (ab.l k1)) false=some (.i r2.1) from (Ug (q:=2) (l:=gB) (k:=k1) Jh yp rfl X1).2),.v 5 (aL (k:=.i64) (E:=ab) (l:=dK) (q:=1) da yp rfl RD),.w 6 Th] ?_
   have ni:Has h23 ((fC,.sl dK.length 1 (ab.l (dK.set x9.toNat r2.1)))::(kl,.mp (Dl gB))::(iM,.sl eK.length 1 (ab.l eK))::(aX,.ob [af.fz bg])::L):=iC U3 0
   exact q0 <| ⟨(gB,dK.set x9.toNat r2.1,i64.wrap (x9+1)),⟨fC,h23,ld,(ow ni)⟩,H⟩
 ·exact qx 6 <| ⟨rfl,gB,dK,x9,oi H,af.fz bg,.i (bg.length:Int),.i x9,.bool (decide (x9<(bg.length:Int))),fC,h15,kr,pn⟩
theorem aM.mK (L:Mem)(bg:List ak)(aX:Nat)   : b9 Tryz.prog cf vI m (sub [1,1,1,1,1,1,1,0,0] (bw Tryz.f96)) (fun k (σ:(List Int) × Int)=>aM.l2 m bg k σ.1 σ.2) (fun σ s=>match σ with | (eK,nO)=>∃g8 g9 g10 g11 g12 iM h12,s=⟨.any :: .ptr aX 0 :: .any::g8 :: .any :: .rs iM 0 eK.length 1 :: .i nO::Fg (g9::g10::g11::g12::vc []),[none],h12⟩∧Has h12 ((iM,.sl eK.length 1 (ab.l eK))::(aX,.ob [af.fz bg])::L)) (fun out e s=>(e = .exit 4∧∃eK nO,.inr (eK,nO)=out∧∃wO Br z8 yh HR HS HT OG iM h12,s=⟨.any::wO :: .any::Br :: .any::z8::yh::Fg (HR::HS::HT::OG::vc []),[none],h12⟩∧Has h12 ((iM,.sl eK.length 1 (ab.l eK))::(aX,.ob [af.fz bg])::L))∨(e = .ret∧∃r,.inl r=out∧aM.fin L r s)):=by
 refine jF (fun _=>rfl) ?_
 rintro k ⟨eK,nO⟩ s out ⟨g8,g9,g10,g11,g12,iM,h12,rfl,mX⟩ H
 have H:aM.l2 m bg (k+1) eK nO=some out:=H
 refine qb 5 <| qq ?_
 obtain⟨kl,h13,Bv,vW⟩:=Dm mX
 refine qr [.m 0 Bv] <| qq ?_
 obtain⟨x8,Be,H⟩:=aP H
 obtain⟨kP,h14,Bw,Bx⟩:=nE (P:=Tryz.prog) (E:=ab) (z:=0) (zv:=.i 0) da vW 3 rfl rfl rfl rfl Be
 refine qr [.v 0 (show bR Tryz.prog h13 23 (.ptr aX 0)=some (af.fz bg) from cJ (q:=2) (cs:=[af.fz bg]) vW rfl kr),.a 2 Bw] <| qq <| qq <| qr [.v 0 (show bR Tryz.prog h14 23 (.ptr aX 0)=some (af.fz bg) from cJ (q:=3) (cs:=[af.fz bg]) Bx rfl kr)] <| qb 6 ?_
 obtain⟨ky,Tk,H⟩:=aP H
 refine ql (aM.vz L bg aX iM eK nO iM kl   (([]:List (List Int × Int)),x8,0) _ _ ⟨kP,h14,kr,Bx⟩ Tk) ?_
 rintro e s ⟨rfl,jq,fj,uy,rfl,g17,g18,g19,g20,gJ,h24,rfl,Mz⟩
 try dsimp only at H
 refine qq <| qq <| qr [.v 1 (show za Tryz.prog h24 119 (.mp kl)=some (.i (jq.length:Int)) from Uh (q:=1) (l:=jq) N2 Mz rfl)] <| qc H (fun c8 H=>?_) (fun c8 H=>?_)
 ·refine q1 ?_
  have JN:Has h24 ((gJ,.sl fj.length 1 (ab.l fj))::(kl,.mp (Dl jq))::(iM,.sl eK.length 1 (ab.l eK))::L):=iC Mz 3
  have Rx:Has h24 ((gJ,.sl fj.length 1 (ab.l fj))::(iM,.sl eK.length 1 (ab.l eK))::L):=iC JN 1
  have Rz:Has h24 ((iM,.sl eK.length 1 (ab.l eK))::L):=iC Rx 0
  exact qt <| ajW (⟨rfl,_,oi H,pX (.rs iM 0 eK.length 1) h24 (oR (zI (E:=ab) (l:=eK) (q:=0) Rz rfl (fun _=>rfl)))⟩)
 ·refine qk <| qr [.v 2 (show za Tryz.prog h24 119 (.mp kl)=some (.i (jq.length:Int)) from Uh (q:=1) (l:=jq) N2 Mz rfl)] ?_
  have Tb:Has h24 ((gJ,.sl fj.length 1 (ab.l fj))::(kl,.mp (Dl jq))::(aX,.ob [af.fz bg])::L):=iC Mz 2
  have X2:Has h24 ((gJ,.sl fj.length 1 (ab.l fj))::(aX,.ob [af.fz bg])::L):=iC Tb 1
  exact⟨(fj,i64.wrap ((jq.length:Int) - 1)),⟨.any,.any,.any,.any,.any,gJ,h24,kr,X2⟩,H⟩
theorem vJ {aW:FuncId→b4}(ha:aW 96=vI)(FN:RB cf m)(Yh:Ye cf m)(Yi:XU cf m)(bg:List ak)(h:AHeap)(L:Mem)  (o:Has h (L)){out:(List Int)}(H:aM.f m bg=some out) :
  ∃r h',bj Tryz.prog aW cf m 96 [af.fz bg] h=some (r,h')∧eX h' r (ab.fz out):=by
 refine aw (fn:=Tryz.f96) ha Tryz.func96 kr kr ?_
 refine aI (Q:=fun s=>aM.fin L out s) (fun _ _ h=>h) ?_
 have H:_=some out:=H
 unfold aM.f at H
 show dE _ cf vI m _ ⟨af.fz bg::aam [],[none],h⟩ _
 refine qq ?_
 obtain⟨aX,h0,e0,o0⟩:=ja (cs:=[af.fz bg]) o kr
 refine qr [.a 0 e0] <| qq ?_
 obtain⟨x0,e1,H⟩:=aP H
 obtain⟨b7,h1,e2,o1⟩:=nE (P:=Tryz.prog) (E:=ab) (z:=0) (zv:=.i 0) da o0 3 rfl rfl rfl rfl e1
 refine qr [.v 0 (show bR Tryz.prog h0 23 (.ptr aX 0)=some (af.fz bg) from cJ (q:=0) (cs:=[af.fz bg]) o0 rfl kr),.a 2 e2] <| qq <| qq <| q0 <| qb 0 ?_
 obtain⟨bp,e5,H⟩:=aP H
 refine ql (aM.cm L bg aX x0   (x0,0) _ _ ⟨b7,h1,kr,o1⟩ e5) ?_
 rintro e s ⟨rfl,jc,x2,rfl,g0,g1,g2,cK,h4,rfl,o4⟩
 try dsimp only at H
 refine qq ?_
 obtain⟨x3,e6,H⟩:=aP H
 obtain⟨h5,e7,o5⟩:=Yh _ _ _ e6 h4 _ _ _ (o4) 115 [.ptr aX 0] [.fp [af.fz bg] 0] rfl (fun h' Ak y0 y1 r hr hx=>Yi y0 y1 _ r hr h' Ak hx) (fun h' K' o'=>lC (ai (dM (q:=(K'.length+0)) o' (mg rfl) (ai (iu (E:=af)) (aD))) (aD))) (fun h_=>lC (ai (cV (pure_cons (bM.aJ (E:=af) (l:=bg)) (pure_nil))) (aD))) [.rs cK 0 jc.length 1,.fn 115 [.ptr aX 0]] cq
 refine qr [.a 2 e7] <| qq ?_
 obtain⟨x4,e8,H⟩:=aP H
 obtain⟨dN,h6,e9,o6⟩:=nE (P:=Tryz.prog) (E:=ab) (z:=0) (zv:=.i 0) da o5 3 rfl rfl rfl rfl e8
 refine qr [.v 0 (show bR Tryz.prog h5 23 (.ptr aX 0)=some (af.fz bg) from cJ (q:=1) (cs:=[af.fz bg]) o5 rfl kr),.a 2 e9] <| qq <| q0 <| qq <| qq <| q0 <| qb 2 ?_
 obtain⟨mI,Bu,H⟩:=aP H
 refine ql (aM.iw L bg aX cK jc cK x3  FN (x4,0,0) _ _ ⟨dN,h6,ld,(ow o6)⟩ Bu) ?_
 rintro e s ⟨rfl,fU,many1,x7,rfl,g3,g4,g5,g6,g7,iy,h11,rfl,qP⟩
 try dsimp only at H
 refine qb 4 ?_
 have wP:Has h11 ((iy,.sl fU.length 1 (ab.l fU))::(aX,.ob [af.fz bg])::L):=iC qP 1
 obtain⟨OC,Wc,H⟩:=aP H
 refine ql (aM.mK L bg aX   (fU,many1) _ _ ⟨g3,g4,g5,g6,g7,iy,h11,kr,wP⟩ Wc) ?_
 rintro e s (⟨rfl,su,Yg,rfl,g21,g22,g23,g24,g25,g26,g27,g28,jo,h25,rfl,o33⟩| ⟨rfl,r3,rfl,r9⟩)
 ·try dsimp only at H
  cases H
 ·try dsimp only at H
  obtain rfl:=oi H
  exact⟨.inl rfl,r9⟩
end
def Ke:b4:=gL [0,1,2,3,4,5,6] [2,4000005] [121,113,97,65,1,25,91,123] [] [(0,[(2,some 0,4)])]
def fM.f (m:Nat)(t0:bh):Option (bh):=(aM.f m t0.nodes).bind fun x0=>(bO.f m m t0.root ([]:List (Int × Int)) x0 (bh.mk ([]:List ak) 0) t0).bind fun x1=>some x1.2.2
def fM.fin (L:Mem)  (r:bh)(s:St):Prop:=∃(cR:Nat) (dT:List Nat),aK Tryz.prog (s.open Ke) Tryz.f62.results.toList=some (.agg [.rs cR 0 r.nodes.length 4,.i r.root])∧Has s.h ((cR,.sl r.nodes.length 4 (dJ.l (bm r.nodes dT)))::(fA r.nodes dT++L))
def S62 (cf:CallF)(m:Nat):Prop:=∀(t0:bh) (r:bh),fM.f m t0=some r→∀h L xs,Has h L→bl cd h xs [.agg [af.fz t0.nodes,.i t0.root]]→∃(cR:Nat) (dT:List Nat) (h':AHeap),cf 62 xs h=some (.agg [.rs cR 0 r.nodes.length 4,.i r.root],h')∧Has h' ((cR,.sl r.nodes.length 4 (dJ.l (bm r.nodes dT)))::(fA r.nodes dT++L))∧∀j,j<h.next→h.ver j=h'.ver j
section
variable {cf:CallF}{m:Nat}
theorem yy {aW:FuncId→b4}(ha:aW 62=Ke)(abt:S96 cf m)(N9:Ze cf m m)(t0:bh)(h:AHeap)(L:Mem)  (o:Has h (L)){out:bh}(H:fM.f m t0=some out) :
  ∃r h',bj Tryz.prog aW cf m 62 [.agg [af.fz t0.nodes,.i t0.root]] h=some (r,h')∧∃(cR:Nat) (dT:List Nat),r = .agg [.rs cR 0 out.nodes.length 4,.i out.root]∧Has h' ((cR,.sl out.nodes.length 4 (dJ.l (bm out.nodes dT)))::(fA out.nodes dT++L)):=by
 refine aw (fn:=Tryz.f62) ha Tryz.func62 kr kr ?_
 refine aI (Q:=fun s=>fM.fin L out s) (fun _ _ ⟨h1,cR,dT,h2,h3⟩=>⟨h1,_,h2,cR,dT,rfl,h3⟩) ?_
 have H:_=some out:=H
 unfold fM.f at H
 show dE _ cf Ke m _ ⟨.agg [af.fz t0.nodes,.i t0.root]::wF [],[none,none],h⟩ _
 refine qq ?_
 obtain⟨aX,h0,e0,o0⟩:=ja (cs:=[af.fz t0.nodes,.i t0.root]) o kr
 refine qr [.a 0 e0] ?_
 have o1:Has h0 (((0),.sl (([]:List ak).length) 4 (dJ.l (bm ([]:List ak) ([]:List Nat))))::(aX,.ob [af.fz t0.nodes,.i t0.root])::L):=Has.nil o0 4
 refine qq ?_
 obtain⟨x0,e1,H⟩:=aP H
 obtain⟨b7,h1,e2,o2⟩:=ja (cs:=[.nils]) o1 kr
 obtain⟨h2,e3,o3⟩:=mV (P:=Tryz.prog) (t:=22) (off:=0) (q:=0) (cs:=[.nils]) (iO:=[ab.fz x0]) (x:=ab.fz x0) o2 rfl kr
 refine qr [.v 1 (show bR Tryz.prog h0 23 (.ptr aX 0)=some (af.fz t0.nodes) from cJ (q:=1) (cs:=[af.fz t0.nodes,.i t0.root]) o1 rfl kr),.a 2 (abt _ _ e1 h0 _ fq),.a 3 e2,.w 4 e3] <| qq ?_
 obtain⟨bT,h3,e4,o4⟩:=Dm o3
 obtain⟨cK,h4,e5,o5⟩:=ja (cs:=[.qV]) o4 kr
 obtain⟨h5,e6,o6⟩:=mV (P:=Tryz.prog) (t:=84) (off:=0) (q:=0) (cs:=[.qV]) (iO:=[.mp bT]) (x:=.mp bT) o5 rfl kr
 refine qr [.m 0 e4,.a 1 e5,.w 2 e6] <| qq ?_
 have o7:Has h5 ((((0)),.sl (([]:List ak).length) 4 (af.l ([]:List ak)))::(cK,.ob [.mp bT])::(bT,.mp (qO ([]:List (Int × Int))))::(b7,.ob [ab.fz x0])::((0),.sl (([]:List ak).length) 4 (dJ.l (bm ([]:List ak) ([]:List Nat))))::(aX,.ob [af.fz t0.nodes,.i t0.root])::L):=Has.nil o6 4
 obtain⟨dN,h6,e7,o8⟩:=ja (cs:=[.rs ((0)) 0 (([]:List ak).length) 4,.i 0]) o7 kr
 refine qr [.a 0 e7] <| qq ?_
 obtain⟨gM,h7,e8,o9⟩:=ja (cs:=[.uA]) o8 kr
 refine qr [.a 0 e8] <| qq ?_
 obtain⟨h8,e9,s9⟩:=mV (P:=Tryz.prog) (t:=94) (off:=0) (q:=0) (cs:=[.uA]) (iO:=[.fn 97 [.ptr cK 0,.ptr b7 0,.ptr dN 0,.ptr aX 0,.ptr gM 0]]) (x:=.fn 97 [.ptr cK 0,.ptr b7 0,.ptr dN 0,.ptr aX 0,.ptr gM 0]) o9 rfl kr
 refine qr [.w 1 e9] <| qq ?_
 obtain⟨x1,ma,H⟩:=aP H
 obtain⟨iy,dT,h9,nH,qP⟩:=N9 _ _ _ _ _ _ ma h8 _ _ _ _ _ _ ([]:List Nat) _ _ ((bI (bI (bI (bI (bI (bI (bI (bI s9 6) 1) 7) 4) 4) 7) 7) 7))  [.i t0.root,.ptr cK 0,.ptr b7 0,.ptr dN 0,.ptr aX 0,.ptr gM 0] cq
 have wP:=Has.zZ (pre:=[(cK,.ob [.mp bT]),(bT,.mp (qO x1.2.1)),(b7,.ob [ab.fz x0]),(dN,.ob [.rs iy 0 x1.2.2.nodes.length 4,.i x1.2.2.root]),(iy,.sl x1.2.2.nodes.length 4 (dJ.l (bm x1.2.2.nodes dT))),(aX,.ob [af.fz t0.nodes,.i t0.root]),(gM,.ob [.fn 97 [.ptr cK 0,.ptr b7 0,.ptr dN 0,.ptr aX 0,.ptr gM 0]])]) (N:=[((0),.sl (([]:List ak).length) 4 (dJ.l (bm ([]:List ak) ([]:List Nat))))]) (mid:=fA x1.2.2.nodes dT) qP
 refine qr [.v 0 (show bR Tryz.prog h8 94 (.ptr gM 0)=some (.fn 97 [.ptr cK 0,.ptr b7 0,.ptr dN 0,.ptr aX 0,.ptr gM 0]) from cJ (q:=0) (cs:=[.fn 97 [.ptr cK 0,.ptr b7 0,.ptr dN 0,.ptr aX 0,.ptr gM 0]]) s9 rfl kr),.v 2 (show bR Tryz.prog h8 3 (.ptr aX 1)=some (.i t0.root) from cJ (q:=7) (cs:=[af.fz t0.nodes,.i t0.root]) s9 rfl kr),.a 3 nH] ?_
 have mX:Has h9 ((cK,.ob [.mp bT])::(bT,.mp (qO x1.2.1))::(b7,.ob [ab.fz x0])::(dN,.ob [.rs iy 0 x1.2.2.nodes.length 4,.i x1.2.2.root])::(iy,.sl x1.2.2.nodes.length 4 (dJ.l (bm x1.2.2.nodes dT)))::(aX,.ob [af.fz t0.nodes,.i t0.root])::((0),.sl (([]:List ak).length) 4 (dJ.l (bm ([]:List ak) ([]:List Nat))))::(fA x1.2.2.nodes dT++L)):=iC wP 6
 have vW:Has h9 ((cK,.ob [.mp bT])::(bT,.mp (qO x1.2.1))::(b7,.ob [ab.fz x0])::(dN,.ob [.rs iy 0 x1.2.2.nodes.length 4,.i x1.2.2.root])::(iy,.sl x1.2.2.nodes.length 4 (dJ.l (bm x1.2.2.nodes dT)))::((0),.sl (([]:List ak).length) 4 (dJ.l (bm ([]:List ak) ([]:List Nat))))::(fA x1.2.2.nodes dT++L)):=iC mX 5
 have Bx:Has h9 ((cK,.ob [.mp bT])::(bT,.mp (qO x1.2.1))::(dN,.ob [.rs iy 0 x1.2.2.nodes.length 4,.i x1.2.2.root])::(iy,.sl x1.2.2.nodes.length 4 (dJ.l (bm x1.2.2.nodes dT)))::((0),.sl (([]:List ak).length) 4 (dJ.l (bm ([]:List ak) ([]:List Nat))))::(fA x1.2.2.nodes dT++L)):=iC vW 2
 have pn:Has h9 ((cK,.ob [.mp bT])::(dN,.ob [.rs iy 0 x1.2.2.nodes.length 4,.i x1.2.2.root])::(iy,.sl x1.2.2.nodes.length 4 (dJ.l (bm x1.2.2.nodes dT)))::((0),.sl (([]:List ak).length) 4 (dJ.l (bm ([]:List ak) ([]:List Nat))))::(fA x1.2.2.nodes dT++L)):=iC Bx 1
 have yX:Has h9 ((dN,.ob [.rs iy 0 x1.2.2.nodes.length 4,.i x1.2.2.root])::(iy,.sl x1.2.2.nodes.length 4 (dJ.l (bm x1.2.2.nodes dT)))::((0),.sl (([]:List ak).length) 4 (dJ.l (bm ([]:List ak) ([]:List Nat))))::(fA x1.2.2.nodes dT++L)):=iC pn 0
 refine qs [.v 0 (show bR Tryz.prog h9 25 (.ptr dN 0)=some (.agg [.rs iy 0 x1.2.2.nodes.length 4,.i x1.2.2.root]) from cJ (q:=0) (cs:=[.rs iy 0 x1.2.2.nodes.length 4,.i x1.2.2.root]) yX rfl kr)] ?_
 have oM:Has h9 ((dN,.ob [.rs iy 0 x1.2.2.nodes.length 4,.i x1.2.2.root])::(iy,.sl x1.2.2.nodes.length 4 (dJ.l (bm x1.2.2.nodes dT)))::(fA x1.2.2.nodes dT++L)):=iC yX 2
 have Ao:Has h9 ((iy,.sl x1.2.2.nodes.length 4 (dJ.l (bm x1.2.2.nodes dT)))::(fA x1.2.2.nodes dT++L)):=iC oM 0
 obtain rfl:=oi H
 exact qt <| ⟨.inl rfl,⟨iy,dT,kr,he Ao⟩⟩
end
def Kf:b4:=gL [0,1,2,3,6] [1,2] [25,9,19,19] [] [(0,[(2,some 0,4)]),(2,[(2,some 0,4)])]
def gT.f (m:Nat)(t0:bh):Option (bh × Int):=(kz.f m t0).bind fun x0=>if (!x0)=true then (some ((bh.mk ([]:List ak) 0),2)) else ((fM.f m t0).bind fun x1=>some (x1,0))
def gT.fin (L:Mem)  (r:bh × Int)(s:St):Prop:=∃(cR:Nat) (dT:List Nat),aK Tryz.prog (s.open Kf) Tryz.f25.results.toList=some (.tup [.agg [.rs cR 0 r.1.nodes.length 4,.i r.1.root],.i r.2])∧Has s.h ((cR,.sl r.1.nodes.length 4 (dJ.l (bm r.1.nodes dT)))::(fA r.1.nodes dT++L))
def S25 (cf:CallF)(m:Nat):Prop:=∀(t0:bh) (r:bh × Int),gT.f m t0=some r→∀h L xs,Has h L→bl cd h xs [.agg [af.fz t0.nodes,.i t0.root]]→∃(cR:Nat) (dT:List Nat) (h':AHeap),cf 25 xs h=some (.tup [.agg [.rs cR 0 r.1.nodes.length 4,.i r.1.root],.i r.2],h')∧Has h' ((cR,.sl r.1.nodes.length 4 (dJ.l (bm r.1.nodes dT)))::(fA r.1.nodes dT++L))∧∀j,j<h.next→h.ver j=h'.ver j
section
variable {cf:CallF}{m:Nat}
theorem yz {aW:FuncId→b4}(ha:aW 25=Kf)(abv:S36 cf m)(abw:S62 cf m)(t0:bh)(h:AHeap)(L:Mem)  (o:Has h (L)){out:bh × Int}(H:gT.f m t0=some out) :
  ∃r h',bj Tryz.prog aW cf m 25 [.agg [af.fz t0.nodes,.i t0.root]] h=some (r,h')∧∃(cR:Nat) (dT:List Nat),r = .tup [.agg [.rs cR 0 out.1.nodes.length 4,.i out.1.root],.i out.2]∧Has h' ((cR,.sl out.1.nodes.length 4 (dJ.l (bm out.1.nodes dT)))::(fA out.1.nodes dT++L)):=by
 refine aw (fn:=Tryz.f25) ha Tryz.func25 kr kr ?_
 refine aI (Q:=fun s=>gT.fin L out s) (fun _ _ ⟨h1,cR,dT,h2,h3⟩=>⟨h1,_,h2,cR,dT,rfl,h3⟩) ?_
 have H:_=some out:=H
 unfold gT.f at H
 show dE _ cf Kf m _ ⟨.agg [af.fz t0.nodes,.i t0.root]::l9 [],[none,none],h⟩ _
 refine q1 ?_
 have o0:Has h (((0),.sl (([]:List ak).length) 4 (dJ.l (bm ([]:List ak) ([]:List Nat))))::L):=Has.nil o 4
 refine qq <| qq ?_
 obtain⟨x0,e0,H⟩:=aP H
 refine qr [.a 1 (abv _ _ e0 h _ fq)] <| qc H (fun c0 H=>?_) (fun c0 H=>?_)
 ·refine q1 ?_
  have o1:Has h ((((0)),.sl (([]:List ak).length) 4 (dJ.l (bm ([]:List ak) ([]:List Nat))))::((0),.sl (([]:List ak).length) 4 (dJ.l (bm ([]:List ak) ([]:List Nat))))::L):=Has.nil o0 4
  have o2:Has h ((((0)),.sl (([]:List ak).length) 4 (dJ.l (bm ([]:List ak) ([]:List Nat))))::L):=iC o1 1
  obtain rfl:=oi H
  exact qt <| ⟨.inl rfl,⟨((0)),([]:List Nat),kr,he o2⟩⟩
 ·refine qk <| qq ?_
  obtain⟨x1,e1,H⟩:=aP H
  obtain⟨aX,fE,h0,e2,o3,Lc⟩:=abw _ _ e1 h _ _ o0 fq
  have o4:=Has.zZ (pre:=[(aX,.sl x1.nodes.length 4 (dJ.l (bm x1.nodes fE)))]) (N:=[((0),.sl (([]:List ak).length) 4 (dJ.l (bm ([]:List ak) ([]:List Nat))))]) (mid:=fA x1.nodes fE) o3
  refine qr [.a 1 e2] ?_
  have o5:Has h0 ((aX,.sl x1.nodes.length 4 (dJ.l (bm x1.nodes fE)))::(fA x1.nodes fE++L)):=iC o4 1
  obtain rfl:=oi H
  exact qt <| ⟨.inl rfl,⟨aX,fE,kr,he o5⟩⟩
end
end Go.Proofs.YtifafejidnjckaaGreat
