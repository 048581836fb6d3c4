/- Part of the proof: Q67, Q70, Q84, Q86, Q87, Q88, Q91, Q104, Q106, Q16, Q20, Q23, Q24, Q34, Q49, Q66, Q69, Q99, Q103, Q13, Q15, Q28, Q44, Q45. -/
import Derived.Test.YtifafejidnjckaaK8
set_option linter.unusedVariables false
set_option linter.unusedSimpArgs false
set_option maxRecDepth 100000
open ByteArray renaming mk → Yv
open List renaming append_assoc → X3, cons_append → Yq, nil_append → Yr
namespace Go.Proofs.Ytifafejidnjckaa
open Go Go.R
open Go.IntKind (i64 u64 u8 u32)
def Cs:bY:=gK [0,1,2,3,4,6,7,23,44,60,89] [2] [2035,2003,1939,2031,1875,2031,1747,2031,1491,2031,1019,2031,2031] [] []
def iO.f (m:Nat)(n0:aj)(mB:Int):Option (Bool):=if (n0.kind==(0:Int))=true then (if (decide (n0.int≥(0:Int)))=true then (if (n0.label.data.toList==(Yv #[]).data.toList)=true then (some ((n0.args.length:Int)==(0:Int))) else (some false)) else (some false)) else (if (n0.kind==(1:Int))=true then (if (decide (n0.int≥(-1099511627776:Int)))=true then (if (decide (n0.int≤(1099511627776:Int)))=true then (if (n0.label.data.toList==(Yv #[]).data.toList)=true then (some ((n0.args.length:Int)==(0:Int))) else (some false)) else (some false)) else (some false)) else (if (n0.kind==(2:Int))=true then (if (n0.int==(0:Int))=true then ((fY.f m n0.label).bind fun x0=>if x0=true then (some ((n0.args.length:Int)==(0:Int))) else (some false)) else (some false)) else (if (n0.kind==(3:Int))=true then (if (n0.int==(0:Int))=true then ((fY.f m n0.label).bind fun x1=>if x1=true then (if (decide ((n0.args.length:Int)≥(1:Int)))=true then (if (decide ((n0.args.length:Int)≤(8:Int)))=true then ((eW.f m n0.args (fun y0=>gU.f m y0 mB)).bind fun x2=>some (!x2)) else (some false)) else (some false)) else (some false)) else (some false)) else (if (n0.kind==(4:Int))=true then (if (decide (n0.int≥(0:Int)))=true then ((gw.f m n0.label).bind fun x3=>if x3=true then (some ((n0.args.length:Int)==(0:Int))) else (some false)) else (some false)) else (some false)))))
def iO.fin (L:Mem)(r:Bool)(s:St):Prop:=∃av,aM Try.prog (s.open Cs) Try.f67.results.toList=some av∧fj s.h av (.bool r)
def Tv (cf:CallF)(m:Nat):Prop:=∀(n0:aj) (mB:Int) (r:Bool),iO.f m n0 mB=some r→∀h xs,aQ bJ h xs [.agg [.int .i64 n0.kind,.int .i64 n0.int,.str n0.label,af.fz n0.args],.int .i64 mB]→cf 67 xs h=some (.bool r,h)
section
variable {cf:CallF}{m:Nat}
theorem tN {aW:FuncId→bY}(ha:aW 67=Cs)(qG:OE cf m)(Ge:OD cf m)(Gc:P9 cf m)(QD:Tc cf m)(n0:aj)(mB:Int)(h:AHeap)(L:Mem)  (o:Has h (L)){out:Bool}(H:iO.f m n0 mB=some out) :
  ∃r h',bb Try.prog aW cf m 67 [.agg [.int .i64 n0.kind,.int .i64 n0.int,.str n0.label,af.fz n0.args],.int .i64 mB] h=some (r,h')∧fj h' r (.bool out):=by
 refine ar (fn:=Try.f67) ha Try.func67 (by kernel_rfl) (by kernel_rfl) ?_
 refine aG (Q:=fun s=>iO.fin L out s) (fun _ _ h=>h) ?_
 have H:_=some out:=H
 unfold iO.f at H
 show dy _ cf Cs m _ ⟨.agg [.int .i64 n0.kind,.int .i64 n0.int,.str n0.label,af.fz n0.args] :: .int .i64 mB::Oz [],[none],h⟩ _
 refine qq ?_
 obtain⟨aH,h0,e0,o0⟩:=gL (cs:=[.int .i64 mB]) o (by kernel_rfl)
 refine qr [.a 1 e0] <| qq <| qq <| q0 <| qb 0 <| qq <| q0 <| qc H (fun c0 H=>?_) (fun c0 H=>?_)
 ·refine qq ?_
  rcases ig H with⟨c1,H⟩| ⟨c1,H⟩
  ·rcases ig H with⟨c2,H⟩| ⟨c2,H⟩
   ·refine qr [.b 3 c1,.b 8 c2] ?_
    have o1:Has h0 (L):=Has.del o0 0
    obtain rfl:=oi H
    exact qt <| ⟨.inl rfl,cX (.bool ((n0.args.length:Int)==(0:Int))) h0 (cV (aA))⟩
   ·refine qr [.b 3 c1,.b 8 c2] ?_
    have o2:Has h0 (L):=Has.del o0 0
    obtain rfl:=oi H
    exact qt <| ⟨.inl rfl,cX (.bool false) h0 (cV (aA))⟩
  ·refine qr [.b 3 c1] ?_
   have o3:Has h0 (L):=Has.del o0 0
   obtain rfl:=oi H
   exact qt <| ⟨.inl rfl,cX (.bool false) h0 (cV (aA))⟩
 ·refine q1 <| qc H (fun c3 H=>?_) (fun c3 H=>?_)
  ·refine qq ?_
   rcases ig H with⟨c4,H⟩| ⟨c4,H⟩
   ·rcases ig H with⟨c5,H⟩| ⟨c5,H⟩
    ·rcases ig H with⟨c6,H⟩| ⟨c6,H⟩
     ·refine qr [.b 3 c4,.b 8 c5,.b 13 c6] ?_
      have o4:Has h0 (L):=Has.del o0 0
      obtain rfl:=oi H
      exact qt <| ⟨.inl rfl,cX (.bool ((n0.args.length:Int)==(0:Int))) h0 (cV (aA))⟩
     ·refine qr [.b 3 c4,.b 8 c5,.b 13 c6] ?_
      have o5:Has h0 (L):=Has.del o0 0
      obtain rfl:=oi H
      exact qt <| ⟨.inl rfl,cX (.bool false) h0 (cV (aA))⟩
    ·refine qr [.b 3 c4,.b 8 c5] ?_
     have o6:Has h0 (L):=Has.del o0 0
     obtain rfl:=oi H
     exact qt <| ⟨.inl rfl,cX (.bool false) h0 (cV (aA))⟩
   ·refine qr [.b 3 c4] ?_
    have o7:Has h0 (L):=Has.del o0 0
    obtain rfl:=oi H
    exact qt <| ⟨.inl rfl,cX (.bool false) h0 (cV (aA))⟩
  ·refine q1 <| qc H (fun c7 H=>?_) (fun c7 H=>?_)
   ·refine qq ?_
    rcases ig H with⟨c8,H⟩| ⟨c8,H⟩
    ·obtain⟨x0,e1,H⟩:=bj H
     rcases ig H with⟨c9,H⟩| ⟨c9,H⟩
     ·refine qr [.b 3 c8,.a 6 (qG _ _ e1 h0 _ (fq (ah (cq) (aw)))),.b 8 c9] ?_
      have o8:Has h0 (L):=Has.del o0 0
      obtain rfl:=oi H
      exact qt <| ⟨.inl rfl,cX (.bool ((n0.args.length:Int)==(0:Int))) h0 (cV (aA))⟩
     ·refine qr [.b 3 c8,.a 6 (qG _ _ e1 h0 _ (fq (ah (cq) (aw)))),.b 8 c9] ?_
      have o9:Has h0 (L):=Has.del o0 0
      obtain rfl:=oi H
      exact qt <| ⟨.inl rfl,cX (.bool false) h0 (cV (aA))⟩
    ·refine qr [.b 3 c8] ?_
     have xa:Has h0 (L):=Has.del o0 0
     obtain rfl:=oi H
     exact qt <| ⟨.inl rfl,cX (.bool false) h0 (cV (aA))⟩
   ·refine q1 <| qc H (fun Ix H=>?_) (fun Ix H=>?_)
    ·refine qq ?_
     rcases ig H with⟨vw,H⟩| ⟨vw,H⟩
     ·obtain⟨x1,e2,H⟩:=bj H
      rcases ig H with⟨F7,H⟩| ⟨F7,H⟩
      ·rcases ig H with⟨D1,H⟩| ⟨D1,H⟩
       ·rcases ig H with⟨F8,H⟩| ⟨F8,H⟩
        ·obtain⟨x2,e3,H⟩:=bj H
         refine qr [.b 3 vw,.a 6 (qG _ _ e2 h0 _ (fq (ah (cq) (aw)))),.b 8 F7,.b 14 D1,.b 20 F8,.a 24 (Ge _ _ _ e3 79 [.fp [.int .i64 mB] 0] (fun h' tH y0 r hr hx=>QD y0 _ r hr h' tH hx) (fun h_=>iX (ah (fh (pure_cons (gF) (pure_nil))) (aw))) h0 _ (fq (ah (dW (E:=af)) (ah (rq (ah (dV (q:=0) o0 rfl (ah (aT) (aw))) (aw))) (aw)))))] ?_
         have xf:Has h0 (L):=Has.del o0 0
         obtain rfl:=oi H
         exact qt <| ⟨.inl rfl,cX (.bool (!x2)) h0 (cV (aA))⟩
        ·refine qr [.b 3 vw,.a 6 (qG _ _ e2 h0 _ (fq (ah (cq) (aw)))),.b 8 F7,.b 14 D1,.b 20 F8] ?_
         have za:Has h0 (L):=Has.del o0 0
         obtain rfl:=oi H
         exact qt <| ⟨.inl rfl,cX (.bool false) h0 (cV (aA))⟩
       ·refine qr [.b 3 vw,.a 6 (qG _ _ e2 h0 _ (fq (ah (cq) (aw)))),.b 8 F7,.b 14 D1] ?_
        have uO:Has h0 (L):=Has.del o0 0
        obtain rfl:=oi H
        exact qt <| ⟨.inl rfl,cX (.bool false) h0 (cV (aA))⟩
      ·refine qr [.b 3 vw,.a 6 (qG _ _ e2 h0 _ (fq (ah (cq) (aw)))),.b 8 F7] ?_
       have tL:Has h0 (L):=Has.del o0 0
       obtain rfl:=oi H
       exact qt <| ⟨.inl rfl,cX (.bool false) h0 (cV (aA))⟩
     ·refine qr [.b 3 vw] ?_
      have D8:Has h0 (L):=Has.del o0 0
      obtain rfl:=oi H
      exact qt <| ⟨.inl rfl,cX (.bool false) h0 (cV (aA))⟩
    ·refine q1 ?_
     have xJ:Has h0 (L):=Has.del o0 0
     refine qc H (fun Nz H=>?_) (fun Nz H=>?_)
     ·refine qq ?_
      rcases ig H with⟨Mc,H⟩| ⟨Mc,H⟩
      ·obtain⟨x3,e4,H⟩:=bj H
       rcases ig H with⟨IA,H⟩| ⟨IA,H⟩
       ·obtain rfl:=oi H
        exact qr [.b 3 Mc,.a 6 (Gc _ _ e4 h0 _ (fq (ah (cq) (aw)))),.b 8 IA] <| qt <| ⟨.inl rfl,cX (.bool ((n0.args.length:Int)==(0:Int))) h0 (cV (aA))⟩
       ·obtain rfl:=oi H
        exact qr [.b 3 Mc,.a 6 (Gc _ _ e4 h0 _ (fq (ah (cq) (aw)))),.b 8 IA] <| qt <| ⟨.inl rfl,cX (.bool false) h0 (cV (aA))⟩
      ·obtain rfl:=oi H
       exact qr [.b 3 Mc] <| qt <| ⟨.inl rfl,cX (.bool false) h0 (cV (aA))⟩
     ·obtain rfl:=oi H
      exact qk <| qq <| q0 <| qt <| ⟨.inl rfl,cX (.bool false) h0 (cV (aA))⟩
end
end Go.Proofs.Ytifafejidnjckaa
namespace Go.Proofs.Ytifafejidnjckaa
open Go Go.R
open Go.IntKind (i64 u64 u8 u32)
def Cu:bY:=gK [0,1,2,3,4,5,16] [2,3] [115,83,111,51,111,111] [] []
def dj.f (m:Nat)(a0:aj)(b0:aj):Option (Int):=if (!(a0.kind==b0.kind))=true then ((di.f m a0.kind b0.kind).bind fun x0=>some x0) else (if (a0.kind==(3:Int))=true then ((di.f m (a0.args.length:Int) (b0.args.length:Int)).bind fun x1=>(cy.f m a0.label b0.label).bind fun x2=>(cu.f m ([x1,x2])).bind fun x3=>some x3) else ((cy.f m a0.label b0.label).bind fun x4=>(di.f m a0.int b0.int).bind fun x5=>(cu.f m ([x4,x5])).bind fun x6=>some x6))
def dj.fin (L:Mem)(r:Int)(s:St):Prop:=∃av,aM Try.prog (s.open Cu) Try.f70.results.toList=some av∧fj s.h av (.int .i64 r)
def NA (cf:CallF)(m:Nat):Prop:=∀(a0:aj) (b0:aj) (r:Int),dj.f m a0 b0=some r→∀h xs,aQ bJ h xs [.agg [.int .i64 a0.kind,.int .i64 a0.int,.str a0.label,af.fz a0.args],.agg [.int .i64 b0.kind,.int .i64 b0.int,.str b0.label,af.fz b0.args]]→cf 70 xs h=some (.int .i64 r,h)
section
variable {cf:CallF}{m:Nat}
theorem nA {aW:FuncId→bY}(ha:aW 70=Cu)(La:Tq cf m)(NB:Td cf m)(NC:Tr cf m)(a0:aj)(b0:aj)(h:AHeap)(L:Mem)  (o:Has h (L)){out:Int}(H:dj.f m a0 b0=some out) :
  ∃r h',bb Try.prog aW cf m 70 [.agg [.int .i64 a0.kind,.int .i64 a0.int,.str a0.label,af.fz a0.args],.agg [.int .i64 b0.kind,.int .i64 b0.int,.str b0.label,af.fz b0.args]] h=some (r,h')∧fj h' r (.int .i64 out):=by
 refine ar (fn:=Try.f70) ha Try.func70 (by kernel_rfl) (by kernel_rfl) ?_
 refine aG (Q:=fun s=>dj.fin L out s) (fun _ _ h=>h) ?_
 have H:_=some out:=H
 unfold dj.f at H
 show dy _ cf Cu m _ ⟨.agg [.int .i64 a0.kind,.int .i64 a0.int,.str a0.label,af.fz a0.args] :: .agg [.int .i64 b0.kind,.int .i64 b0.int,.str b0.label,af.fz b0.args]::Aw [],[none,none],h⟩ _
 refine q1 <| qq <| qb 0 <| qq <| q0 <| qc H (fun c0 H=>?_) (fun c0 H=>?_)
 ·refine qq ?_
  obtain⟨x0,e0,H⟩:=bj H
  obtain rfl:=oi H
  exact qr [.a 4 (La _ _ _ e0 h _ (fq (ah (aT) (ah (aT) (aw)))))] <| qt <| ⟨.inl rfl,cX (.int .i64 x0) h (cV (dc))⟩
 ·refine q1 <| qc H (fun c1 H=>?_) (fun c1 H=>?_)
  ·refine qq ?_
   obtain⟨x1,e1,H⟩:=bj H
   obtain⟨x2,e2,H⟩:=bj H
   obtain⟨x3,e3,H⟩:=bj H
   obtain rfl:=oi H
   exact qr [.a 6 (La _ _ _ e1 h _ (fq (ah (aT) (ah (aT) (aw))))),.a 11 (NC _ _ _ e2 h _ (fq (ah (cq) (ah (cq) (aw))))),.a 13 (NB _ _ e3 h _ (fq (ah (oL (E:=af) (l:=[x1,x2]) (cs:=[.int .i64 x1,.int .i64 x2]) (b:=true) (by kernel_rfl) (by kernel_rfl) rfl) (aw))))] <| qt <| ⟨.inl rfl,cX (.int .i64 x3) h (cV (dc))⟩
  ·refine qk <| qq ?_
   obtain⟨x4,e4,H⟩:=bj H
   obtain⟨x5,e5,H⟩:=bj H
   obtain⟨x6,e6,H⟩:=bj H
   obtain rfl:=oi H
   exact qr [.a 4 (NC _ _ _ e4 h _ (fq (ah (cq) (ah (cq) (aw))))),.a 9 (La _ _ _ e5 h _ (fq (ah (aT) (ah (aT) (aw))))),.a 11 (NB _ _ e6 h _ (fq (ah (oL (E:=af) (l:=[x4,x5]) (cs:=[.int .i64 x4,.int .i64 x5]) (b:=true) (by kernel_rfl) (by kernel_rfl) rfl) (aw))))] <| qt <| ⟨.inl rfl,cX (.int .i64 x6) h (cV (dc))⟩
end
end Go.Proofs.Ytifafejidnjckaa
namespace Go.Proofs.Ytifafejidnjckaa
open Go Go.R
open Go.IntKind (i64 u64 u8 u32)
def Cv:bY:=gK [0,1,2,5] [] [8,7] [] []
def eA.f (m:Nat)(i0:Int)(j0:Int)(x0:List aj):Option (Int):=(ix x0 i0).bind fun v0=>(ix x0 j0).bind fun v1=>(dj.f m v0 v1).bind fun x1=>some x1
def eA.fin (L:Mem)(r:Int)(s:St):Prop:=∃av,aM Try.prog (s.open Cv) Try.f84.results.toList=some av∧fj s.h av (.int .i64 r)
def Tw (cf:CallF)(m:Nat):Prop:=∀(i0:Int) (j0:Int) (x0:List aj) (r:Int),eA.f m i0 j0 x0=some r→∀h xs,aQ bJ h xs [.int .i64 i0,.int .i64 j0,.fp [ai.fz x0] 0]→cf 84 xs h=some (.int .i64 r,h)
section
variable {cf:CallF}{m:Nat}
theorem n7 {aW:FuncId→bY}(ha:aW 84=Cv)(zb:NA cf m)(i0:Int)(j0:Int)(x0:List aj)(h:AHeap)(L:Mem)  (o:Has h (L)){out:Int}(H:eA.f m i0 j0 x0=some out) :
  ∃r h',bb Try.prog aW cf m 84 [.int .i64 i0,.int .i64 j0,.fp [ai.fz x0] 0] h=some (r,h')∧fj h' r (.int .i64 out):=by
 refine ar (fn:=Try.f84) ha Try.func84 (by kernel_rfl) (by kernel_rfl) ?_
 refine aG (Q:=fun s=>eA.fin L out s) (fun _ _ h=>h) ?_
 have H:_=some out:=H
 unfold eA.f at H
 show dy _ cf Cv m _ ⟨[.int .i64 i0,.int .i64 j0,.fp [ai.fz x0] 0,.any],[],h⟩ _
 refine q1 <| qq ?_
 obtain⟨v0,e0,H⟩:=bj H
 obtain⟨v1,e1,H⟩:=bj H
 obtain⟨x1,e2,H⟩:=bj H
 obtain rfl:=oi H
 exact qr [.v 2 (fe (k:=.i64) (E:=ai) (l:=x0) uK e0),.v 3 (kj  (E:=ai) (l:=x0) h DX DY e0),.v 6 (fe (k:=.i64) (E:=ai) (l:=x0) uK e1),.v 7 (kj  (E:=ai) (l:=x0) h DX DY e1),.a 8 (zb _ _ _ e2 h _ (fq (ah (eh (ah (aT) (ah (aT) (ah (cq) (ah (dW (E:=af)) (aw)))))) (ah (eh (ah (aT) (ah (aT) (ah (cq) (ah (dW (E:=af)) (aw)))))) (aw)))))] <| qt <| ⟨.inl rfl,cX (.int .i64 x1) h (cV (dc))⟩
end
end Go.Proofs.Ytifafejidnjckaa
namespace Go.Proofs.Ytifafejidnjckaa
open Go Go.R
open Go.IntKind (i64 u64 u8 u32)
end Go.Proofs.Ytifafejidnjckaa
namespace Go.Proofs.Ytifafejidnjckaa
open Go Go.R
open Go.IntKind (i64 u64 u8 u32)
end Go.Proofs.Ytifafejidnjckaa
namespace Go.Proofs.Ytifafejidnjckaa
open Go Go.R
open Go.IntKind (i64 u64 u8 u32)
end Go.Proofs.Ytifafejidnjckaa
namespace Go.Proofs.Ytifafejidnjckaa
open Go Go.R
open Go.IntKind (i64 u64 u8 u32)
end Go.Proofs.Ytifafejidnjckaa
namespace Go.Proofs.Ytifafejidnjckaa
open Go Go.R
open Go.IntKind (i64 u64 u8 u32)
end Go.Proofs.Ytifafejidnjckaa
namespace Go.Proofs.Ytifafejidnjckaa
open Go Go.R
open Go.IntKind (i64 u64 u8 u32)
def mi:bY:=gK [0,1,2,3,4,10,11,12,13,14,15,16,17,18,19,20,21,22,23,24,28,33,50,58,80,85,103,110,140,151,171,185,199,213] [] [17178820576,17179869124,17179869068,17177771916,17179868940,17175674636,17179869068,17179869068,17179868894,17171480286,17179868894,17179868894,17163091936,17179868650,17179867626,17146313194,17179865578,17112756714,17179867626,17179867626,17179864574,17045646846,17179864574,17179864574,17179860960,17179844576,17179844576,16911409120,17179811808,17179746272,17179811808,17179746272,17179615200,16642744288,17179353056,16105611232,17179615200,17179615200,17179303904,15031820256,17179303908,12884336612,17179336678,8589402086,17179869183] [] []
def aL.l0 (m:Nat)(ax:List Int)(a0:Int)(aX:Int→Int→Option (Int)):Nat→Int→Int→Option (Int × Int)
 | 0,_,_=>none
 | k+1,i0,j0=>if (decide (i0<j0))=true then ((ix ax (i64.wrap (jD .u64 (u64.wrap (i64.wrap (i0+j0))) 1))).bind fun v0=>(ix ax a0).bind fun v1=>(aX v0 v1).bind fun r0=>if (decide (r0<(0:Int)))=true then (aL.l0 m ax a0 aX k (i64.wrap (i64.wrap (jD .u64 (u64.wrap (i64.wrap (i0+j0))) 1)+(1:Int))) j0) else (aL.l0 m ax a0 aX k i0 (i64.wrap (jD .u64 (u64.wrap (i64.wrap (i0+j0))) 1)))) else (some ((i0,j0)))
def aL.l1 (m:Nat)(i1:Int):Nat→(List Int)→Int→Option ((List Int) × Int)
 | 0,_,_=>none
 | k+1,bB,k0=>if (decide (k0<(i64.wrap (i1 - (1:Int)))))=true then ((ix bB (i64.wrap (k0+(1:Int)))).bind fun v2=>(ix bB k0).bind fun v3=>(ix bB k0).bind fun v4=>(ix (bB.set k0.toNat v2) (i64.wrap (k0+(1:Int)))).bind fun v5=>aL.l1 m i1 k ((bB.set k0.toNat v2).set (i64.wrap (k0+(1:Int))).toNat v3) (i64.wrap (k0+(1:Int)))) else (some ((bB,k0)))
def aL.l2 (m:Nat)(ax:List Int)(m0:Int)(aX:Int→Int→Option (Int)):Nat→Int→Int→Option (Int × Int)
 | 0,_,_=>none
 | k+1,i2,j2=>if (decide (i2<j2))=true then ((ix ax m0).bind fun v6=>(ix ax (i64.wrap (jD .u64 (u64.wrap (i64.wrap (i2+j2))) 1))).bind fun v7=>(aX v6 v7).bind fun r1=>if (!(decide (r1<(0:Int))))=true then (aL.l2 m ax m0 aX k (i64.wrap (i64.wrap (jD .u64 (u64.wrap (i64.wrap (i2+j2))) 1)+(1:Int))) j2) else (aL.l2 m ax m0 aX k i2 (i64.wrap (jD .u64 (u64.wrap (i64.wrap (i2+j2))) 1)))) else (some ((i2,j2)))
def aL.l3 (m:Nat)(i3:Int):Nat→(List Int)→Int→Option ((List Int) × Int)
 | 0,_,_=>none
 | k+1,er,k2=>if (decide (k2 > i3))=true then ((ix er (i64.wrap (k2 - (1:Int)))).bind fun v8=>(ix er k2).bind fun v9=>(ix er k2).bind fun v10=>(ix (er.set k2.toNat v8) (i64.wrap (k2 - (1:Int)))).bind fun v11=>aL.l3 m i3 k ((er.set k2.toNat v8).set (i64.wrap (k2 - (1:Int))).toNat v9) (i64.wrap (k2 - (1:Int)))) else (some ((er,k2)))
def aL.l4 (m:Nat)(ax:List Int)(a0:Int)(m0:Int)(b0:Int)(aX:Int→Int→Option (Int)):Nat→Int→Int→Option (Int × Int)
 | 0,_,_=>none
 | k+1,gz,r3=>if (decide (gz<r3))=true then ((ix ax (i64.wrap (i64.wrap (i64.wrap (i64.wrap (jD .u64 (u64.wrap (i64.wrap (a0+b0))) 1)+m0) - (1:Int)) - i64.wrap (jD .u64 (u64.wrap (i64.wrap (gz+r3))) 1)))).bind fun v12=>(ix ax (i64.wrap (jD .u64 (u64.wrap (i64.wrap (gz+r3))) 1))).bind fun OF=>(aX v12 OF).bind fun r4=>if (!(decide (r4<(0:Int))))=true then (aL.l4 m ax a0 m0 b0 aX k (i64.wrap (i64.wrap (jD .u64 (u64.wrap (i64.wrap (gz+r3))) 1)+(1:Int))) r3) else (aL.l4 m ax a0 m0 b0 aX k gz (i64.wrap (jD .u64 (u64.wrap (i64.wrap (gz+r3))) 1)))) else (some ((gz,r3)))
def aL.b (m:Nat)(rec:(List Int)→Int→Int→Int→(Int→Int→Option (Int))→Option ((List Int)))(ax:List Int)(a0:Int)(m0:Int)(b0:Int)(aX:Int→Int→Option (Int)):Option ((List Int)):=if ((i64.wrap (m0 - a0))==(1:Int))=true then ((aL.l0 m ax a0 aX m m0 b0).bind fun bQ=>match bQ with | (i1,j1)=>(aL.l1 m i1 m ax a0).bind fun cw=>match cw with | (dC,k1)=>some dC) else (if ((i64.wrap (b0 - m0))==(1:Int))=true then ((aL.l2 m ax m0 aX m a0 m0).bind fun km=>match km with | (i3,j3)=>(aL.l3 m i3 m ax m0).bind fun yU=>match yU with | (jO,k3)=>some jO) else (jn (fun (σ:Int × Int)=>match σ with | (tO,r2)=>(aL.l4 m ax a0 m0 b0 aX m tO r2).bind fun dk=>match dk with | (fH,r5)=>jn (fun (σ:(List Int))=>match σ with | lE=>jn (fun (σ:(List Int))=>match σ with | pO=>if (decide ((i64.wrap (jD .u64 (u64.wrap (i64.wrap (a0+b0))) 1))<(i64.wrap (i64.wrap (i64.wrap (jD .u64 (u64.wrap (i64.wrap (a0+b0))) 1)+m0) - fH))))=true then (if (decide ((i64.wrap (i64.wrap (i64.wrap (jD .u64 (u64.wrap (i64.wrap (a0+b0))) 1)+m0) - fH))<b0))=true then ((rec pO (i64.wrap (jD .u64 (u64.wrap (i64.wrap (a0+b0))) 1)) (i64.wrap (i64.wrap (i64.wrap (jD .u64 (u64.wrap (i64.wrap (a0+b0))) 1)+m0) - fH)) b0 aX).bind fun x2=>some x2) else (some pO)) else (some pO)) fun tP=>(if (decide (a0<fH))=true then (if (decide (fH<(i64.wrap (jD .u64 (u64.wrap (i64.wrap (a0+b0))) 1))))=true then ((rec lE a0 fH (i64.wrap (jD .u64 (u64.wrap (i64.wrap (a0+b0))) 1)) aX).bind fun x1=>tP x1) else (tP lE)) else (tP lE))) fun ND=>(if (decide (fH<m0))=true then (if (decide (m0<(i64.wrap (i64.wrap (i64.wrap (jD .u64 (u64.wrap (i64.wrap (a0+b0))) 1)+m0) - fH))))=true then ((fD.f m ax fH m0 (i64.wrap (i64.wrap (i64.wrap (jD .u64 (u64.wrap (i64.wrap (a0+b0))) 1)+m0) - fH)) aX).bind fun x0=>ND x0) else (ND ax)) else (ND ax))) fun zM=>(if (decide (m0 > (i64.wrap (jD .u64 (u64.wrap (i64.wrap (a0+b0))) 1))))=true then (zM (i64.wrap (i64.wrap (i64.wrap (jD .u64 (u64.wrap (i64.wrap (a0+b0))) 1)+m0) - b0),i64.wrap (jD .u64 (u64.wrap (i64.wrap (a0+b0))) 1))) else (zM (a0,m0)))))
def aL.f (m:Nat):Nat→(List Int)→Int→Int→Int→(Int→Int→Option (Int))→Option ((List Int))
 | 0,_,_,_,_,_=>none
 | k+1,ax,a0,m0,b0,aX=>aL.b m (aL.f m k) ax a0 m0 b0 aX
def aL.fin (L:Mem)(aH:Nat)(ax:List Int)(a0:Int)(m0:Int)(b0:Int)(aX:Int→Int→Option (Int))(r:(List Int))(s:St):Prop:=aM Try.prog (s.open mi) Try.f106.results.toList=some (.tup [])∧Has s.h ((aH,.sl ax.length 1 (af.l r))::L)
def uP (cf:CallF)(m:Nat)(kk:Nat):Prop:=∀(ax:List Int) (a0:Int) (m0:Int) (b0:Int) (aX:Int→Int→Option (Int)) (r:(List Int)),aL.f m kk ax a0 m0 b0 aX=some r→∀h L (cH:Nat) (aH:Nat),Has h ((aH,.sl cH 1 (af.l ax))::L)→∀(fm:FuncId) (bk aY:List AV),(aO (.fn fm bk) = .fn fm bk)→(∀(h:AHeap) (xs:List AV) (a0:Int) (a1:Int) r,aX a0 a1=some r→aQ bJ h xs ([.int .i64 a0,.int .i64 a1]++aY)→cf fm xs h=some (.int .i64 r,h))→(∀h K,Has h (K++(L))→aQ cz h bk aY)→(∀h,aQ cz h aY aY)→∀xs,xs.map aO=[.rs aH 0 cH 1,.int .i64 a0,.int .i64 m0,.int .i64 b0,.fn fm bk]→∃h',cf 106 xs h=some (.tup [],h')∧Has h' ((aH,.sl cH 1 (af.l r))::L)
section
variable {cf:CallF}{m:Nat}
theorem aL.cO (L:Mem)(aH:Nat)(fm:FuncId)(bk aY:List AV)(ax:List Int)(a0:Int)(m0:Int)(b0:Int)(aX:Int→Int→Option (Int))  {kk:Nat}(iZ:uP cf m kk)(gV:aO (.fn fm bk) = .fn fm bk)(iw:∀(h:AHeap) (xs:List AV) (a0:Int) (a1:Int) r,aX a0 a1=some r→aQ bJ h xs ([.int .i64 a0,.int .i64 a1]++aY)→cf fm xs h=some (.int .i64 r,h))(iy:∀h K,Has h (K++(L))→aQ cz h bk aY)(iY:∀h,aQ cz h aY aY)  : dF Try.prog cf mi m (sub [0,1,0,1,1,0,0,0] (bW Try.f106)) (fun k (σ:Int × Int)=>aL.l0 m ax a0 aX k σ.1 σ.2) (fun σ s=>match σ with | (i0,j0)=>∃h0,s=⟨.rs aH 0 ax.length 1 :: .int .i64 a0 :: .any :: .any :: .fn fm bk :: .int .i64 i0 :: .int .i64 j0::PK [],[],h0⟩∧Has h0 ((aH,.sl ax.length 1 (af.l ax))::L)) (fun out e s=>(e = .exit 0∧∃i0 j0,(i0,j0)=out∧∃NF KV QE h0,s=⟨.rs aH 0 ax.length 1 :: .int .i64 a0 :: .any :: .any::NF :: .int .i64 i0::KV::yE (QE::uH []),[],h0⟩∧Has h0 ((aH,.sl ax.length 1 (af.l ax))::L))):=by
 refine k8 (fun _=>rfl) ?_
 rintro k ⟨i0,j0⟩ s out ⟨h0,rfl,o0⟩ H
 have H:aL.l0 m ax a0 aX (k+1) i0 j0=some out:=H
 refine qq <| qq <| q0 <| qc H (fun c1 H=>?_) (fun c1 H=>?_)
 ·refine qk <| qb 1 <| qq <| q0 <| qq ?_
  obtain⟨v0,e0,H⟩:=bj H
  obtain⟨v1,e1,H⟩:=bj H
  obtain⟨r0,e2,H⟩:=bj H
  refine qr [.v 3 (bm (k:=.i64) (E:=af) (l:=ax) (q:=0) gg o0 rfl e0),.v 4 (cM  (E:=af) (l:=ax) (q:=0) o0 rfl A3 e0 rfl),.v 7 (bm (k:=.i64) (E:=af) (l:=ax) (q:=0) gg o0 rfl e1),.v 8 (cM  (E:=af) (l:=ax) (q:=0) o0 rfl A3 e1 rfl),.a 9 (iw _ _ _ _ _ e2 (Ir (ah (aT) (ah (aT) (aw))) (iy h0 [(aH,.sl ax.length 1 (af.l ax))] o0)))] <| qc H (fun c2 H=>?_) (fun c2 H=>?_)
  ·exact q0 <| ⟨(i64.wrap (i64.wrap (jD .u64 (u64.wrap (i64.wrap (i0+j0))) 1)+(1:Int)),j0),⟨h0,by kernel_rfl,o0⟩,H⟩
  ·exact q0 <| ⟨(i0,i64.wrap (jD .u64 (u64.wrap (i64.wrap (i0+j0))) 1)),⟨h0,by kernel_rfl,o0⟩,H⟩
 ·exact qx 0 <| ⟨rfl,i0,j0,oi H,.fn fm bk,.int .i64 j0,.bool (decide (i0<j0)),h0,by kernel_rfl,o0⟩
theorem aL.ko (L:Mem)(aH:Nat)(fm:FuncId)(bk aY:List AV)(ax:List Int)(a0:Int)(m0:Int)(b0:Int)(aX:Int→Int→Option (Int))(i1:Int)  {kk:Nat}(iZ:uP cf m kk)(gV:aO (.fn fm bk) = .fn fm bk)(iw:∀(h:AHeap) (xs:List AV) (a0:Int) (a1:Int) r,aX a0 a1=some r→aQ bJ h xs ([.int .i64 a0,.int .i64 a1]++aY)→cf fm xs h=some (.int .i64 r,h))(iy:∀h K,Has h (K++(L))→aQ cz h bk aY)(iY:∀h,aQ cz h aY aY)  : dF Try.prog cf mi m (sub [0,1,0,1,1,1,0,1,0,0] (bW Try.f106)) (fun k (σ:(List Int) × Int)=>aL.l1 m i1 k σ.1 σ.2) (fun σ s=>match σ with | (bB,k0)=>∃h2,s=⟨.rs aH 0 ax.length 1::nZ (.int .i64 i1 :: .any :: .any :: .int .i64 k0::Nc []),[],h2⟩∧Has h2 ((aH,.sl ax.length 1 (af.l bB))::L)) (fun out e s=>(e = .exit 2∧∃bB k0,(bB,k0)=out∧∃nr F9 tE QF h2,s=⟨nr::nZ (F9 :: .any :: .any::tE::yE (QF::Kp [])),[],h2⟩∧Has h2 ((aH,.sl ax.length 1 (af.l bB))::L))):=by
 refine k8 (fun _=>rfl) ?_
 rintro k ⟨bB,k0⟩ s out ⟨h2,rfl,o2⟩ H
 have H:aL.l1 m i1 (k+1) bB k0=some out:=H
 refine qq <| qq <| q0 <| qc H (fun c3 H=>?_) (fun c3 H=>?_)
 ·refine qk <| qq <| qb 3 ?_
  obtain⟨v2,e4,H⟩:=bj H
  obtain⟨v3,e5,H⟩:=bj H
  obtain⟨v4,e6,H⟩:=bj H
  obtain⟨h3,e7,o3⟩:=fG (P:=Try.prog) (tf:=3) (E:=af) (l:=bB) (q:=0) (v:=v2) (x:=.int .i64 v2) o2 rfl Z3 e6 rfl rfl
  obtain⟨v5,e8,H⟩:=bj H
  obtain⟨h4,e9,o4⟩:=fG (P:=Try.prog) (tf:=3) (E:=af) (l:=(bB.set k0.toNat v2)) (q:=0) (v:=v3) (x:=.int .i64 v3) o3 rfl Z3 e8 rfl rfl
  exact qr [.v 8 (bm (k:=.i64) (E:=af) (l:=bB) (q:=0) gg o2 rfl e4),.v 9 (cM  (E:=af) (l:=bB) (q:=0) o2 rfl A3 e4 rfl),.v 12 (bm (k:=.i64) (E:=af) (l:=bB) (q:=0) gg o2 rfl e5),.v 13 (cM  (E:=af) (l:=bB) (q:=0) o2 rfl A3 e5 rfl),.v 14 (bm (k:=.i64) (E:=af) (l:=bB) (q:=0) gg o2 rfl e6),.w 15 e7,.v 16 (bm (k:=.i64) (E:=af) (l:=(bB.set k0.toNat v2)) (q:=0) gg o3 rfl e8),.w 17 e9] <| q0 <| ⟨((bB.set k0.toNat v2).set (i64.wrap (k0+(1:Int))).toNat v3,i64.wrap (k0+(1:Int))),⟨h4,by kernel_rfl,o4⟩,H⟩
 ·exact qx 2 <| ⟨rfl,bB,k0,oi H,.rs aH 0 ax.length 1,.int .i64 i1,.int .i64 k0,.bool (decide (k0<(i64.wrap (i1 - (1:Int))))),h2,by kernel_rfl,o2⟩
theorem aL.pP (L:Mem)(aH:Nat)(fm:FuncId)(bk aY:List AV)(ax:List Int)(a0:Int)(m0:Int)(b0:Int)(aX:Int→Int→Option (Int))  {kk:Nat}(iZ:uP cf m kk)(gV:aO (.fn fm bk) = .fn fm bk)(iw:∀(h:AHeap) (xs:List AV) (a0:Int) (a1:Int) r,aX a0 a1=some r→aQ bJ h xs ([.int .i64 a0,.int .i64 a1]++aY)→cf fm xs h=some (.int .i64 r,h))(iy:∀h K,Has h (K++(L))→aQ cz h bk aY)(iY:∀h,aQ cz h aY aY)  : dF Try.prog cf mi m (sub [1,0,1,0,1,1,0,0,0] (bW Try.f106)) (fun k (σ:Int × Int)=>aL.l2 m ax m0 aX k σ.1 σ.2) (fun σ s=>match σ with | (i2,j2)=>∃h6,s=⟨.rs aH 0 ax.length 1 :: .any :: .int .i64 m0 :: .any :: .fn fm bk::nZ (.int .i64 i2 :: .int .i64 j2::PJ []),[],h6⟩∧Has h6 ((aH,.sl ax.length 1 (af.l ax))::L)) (fun out e s=>(e = .exit 4∧∃i2 j2,(i2,j2)=out∧∃NF KI QG h6,s=⟨.rs aH 0 ax.length 1 :: .any :: .int .i64 m0 :: .any::NF::nZ (.int .i64 i2::KI::yE (QG::vj [])),[],h6⟩∧Has h6 ((aH,.sl ax.length 1 (af.l ax))::L))):=by
 refine k8 (fun _=>rfl) ?_
 rintro k ⟨i2,j2⟩ s out ⟨h6,rfl,o6⟩ H
 have H:aL.l2 m ax m0 aX (k+1) i2 j2=some out:=H
 refine qq <| qq <| q0 <| qc H (fun c5 H=>?_) (fun c5 H=>?_)
 ·refine qk <| qb 5 <| qq <| q0 <| qq ?_
  obtain⟨v6,uv,H⟩:=bj H
  obtain⟨v7,w7,H⟩:=bj H
  obtain⟨r1,w8,H⟩:=bj H
  refine qr [.v 3 (bm (k:=.i64) (E:=af) (l:=ax) (q:=0) gg o6 rfl uv),.v 4 (cM  (E:=af) (l:=ax) (q:=0) o6 rfl A3 uv rfl),.v 7 (bm (k:=.i64) (E:=af) (l:=ax) (q:=0) gg o6 rfl w7),.v 8 (cM  (E:=af) (l:=ax) (q:=0) o6 rfl A3 w7 rfl),.a 9 (iw _ _ _ _ _ w8 (Ir (ah (aT) (ah (aT) (aw))) (iy h6 [(aH,.sl ax.length 1 (af.l ax))] o6)))] <| qc H (fun c6 H=>?_) (fun c6 H=>?_)
  ·exact q0 <| ⟨(i64.wrap (i64.wrap (jD .u64 (u64.wrap (i64.wrap (i2+j2))) 1)+(1:Int)),j2),⟨h6,by kernel_rfl,o6⟩,H⟩
  ·exact q0 <| ⟨(i2,i64.wrap (jD .u64 (u64.wrap (i64.wrap (i2+j2))) 1)),⟨h6,by kernel_rfl,o6⟩,H⟩
 ·exact qx 4 <| ⟨rfl,i2,j2,oi H,.fn fm bk,.int .i64 j2,.bool (decide (i2<j2)),h6,by kernel_rfl,o6⟩
theorem aL.Gj (L:Mem)(aH:Nat)(fm:FuncId)(bk aY:List AV)(ax:List Int)(a0:Int)(m0:Int)(b0:Int)(aX:Int→Int→Option (Int))(i3:Int)  {kk:Nat}(iZ:uP cf m kk)(gV:aO (.fn fm bk) = .fn fm bk)(iw:∀(h:AHeap) (xs:List AV) (a0:Int) (a1:Int) r,aX a0 a1=some r→aQ bJ h xs ([.int .i64 a0,.int .i64 a1]++aY)→cf fm xs h=some (.int .i64 r,h))(iy:∀h K,Has h (K++(L))→aQ cz h bk aY)(iY:∀h,aQ cz h aY aY)  : dF Try.prog cf mi m (sub [1,0,1,0,1,1,1,0,1,0,0] (bW Try.f106)) (fun k (σ:(List Int) × Int)=>aL.l3 m i3 k σ.1 σ.2) (fun σ s=>match σ with | (er,k2)=>∃h8,s=⟨.rs aH 0 ax.length 1::vj (.int .i64 i3 :: .any :: .any :: .int .i64 k2::PG []),[],h8⟩∧Has h8 ((aH,.sl ax.length 1 (af.l er))::L)) (fun out e s=>(e = .exit 6∧∃er k2,(er,k2)=out∧∃nr AE KJ NG h8,s=⟨nr::vj (AE :: .any :: .any::KJ::yE (NG::xH [])),[],h8⟩∧Has h8 ((aH,.sl ax.length 1 (af.l er))::L))):=by
 refine k8 (fun _=>rfl) ?_
 rintro k ⟨er,k2⟩ s out ⟨h8,rfl,o8⟩ H
 have H:aL.l3 m i3 (k+1) er k2=some out:=H
 refine qq <| qq <| q0 <| qc H (fun c7 H=>?_) (fun c7 H=>?_)
 ·refine qk <| qq <| qb 7 ?_
  obtain⟨v8,zO,H⟩:=bj H
  obtain⟨v9,D5,H⟩:=bj H
  obtain⟨v10,D6,H⟩:=bj H
  obtain⟨h9,Gh,o9⟩:=fG (P:=Try.prog) (tf:=3) (E:=af) (l:=er) (q:=0) (v:=v8) (x:=.int .i64 v8) o8 rfl Z3 D6 rfl rfl
  obtain⟨v11,D7,H⟩:=bj H
  obtain⟨h10,Iz,xa⟩:=fG (P:=Try.prog) (tf:=3) (E:=af) (l:=(er.set k2.toNat v8)) (q:=0) (v:=v9) (x:=.int .i64 v9) o9 rfl Z3 D7 rfl rfl
  exact qr [.v 8 (bm (k:=.i64) (E:=af) (l:=er) (q:=0) gg o8 rfl zO),.v 9 (cM  (E:=af) (l:=er) (q:=0) o8 rfl A3 zO rfl),.v 12 (bm (k:=.i64) (E:=af) (l:=er) (q:=0) gg o8 rfl D5),.v 13 (cM  (E:=af) (l:=er) (q:=0) o8 rfl A3 D5 rfl),.v 14 (bm (k:=.i64) (E:=af) (l:=er) (q:=0) gg o8 rfl D6),.w 15 Gh,.v 16 (bm (k:=.i64) (E:=af) (l:=(er.set k2.toNat v8)) (q:=0) gg o9 rfl D7),.w 17 Iz] <| q0 <| ⟨((er.set k2.toNat v8).set (i64.wrap (k2 - (1:Int))).toNat v9,i64.wrap (k2 - (1:Int))),⟨h10,by kernel_rfl,xa⟩,H⟩
 ·exact qx 6 <| ⟨rfl,er,k2,oi H,.rs aH 0 ax.length 1,.int .i64 i3,.int .i64 k2,.bool (decide (k2 > i3)),h8,by kernel_rfl,o8⟩
theorem aL.Gk (L:Mem)(aH:Nat)(fm:FuncId)(bk aY:List AV)(ax:List Int)(a0:Int)(m0:Int)(b0:Int)(aX:Int→Int→Option (Int))  {kk:Nat}(iZ:uP cf m kk)(gV:aO (.fn fm bk) = .fn fm bk)(iw:∀(h:AHeap) (xs:List AV) (a0:Int) (a1:Int) r,aX a0 a1=some r→aQ bJ h xs ([.int .i64 a0,.int .i64 a1]++aY)→cf fm xs h=some (.int .i64 r,h))(iy:∀h K,Has h (K++(L))→aQ cz h bk aY)(iY:∀h,aQ cz h aY aY)  : dF Try.prog cf mi m (sub [1,1,1,1,1,1,1,0,0,0] (bW Try.f106)) (fun k (σ:Int × Int)=>aL.l4 m ax a0 m0 b0 aX k σ.1 σ.2) (fun σ s=>match σ with | (gz,r3)=>∃h13,s=⟨.rs aH 0 ax.length 1 :: .int .i64 a0 :: .int .i64 m0 :: .int .i64 b0 :: .fn fm bk::vj (.int .i64 (i64.wrap (jD .u64 (u64.wrap (i64.wrap (a0+b0))) 1)) :: .int .i64 (i64.wrap (i64.wrap (jD .u64 (u64.wrap (i64.wrap (a0+b0))) 1)+m0)) :: .int .i64 gz :: .int .i64 r3 :: .int .i64 (i64.wrap (i64.wrap (i64.wrap (jD .u64 (u64.wrap (i64.wrap (a0+b0))) 1)+m0) - (1:Int)))::If []),[],h13⟩∧Has h13 ((aH,.sl ax.length 1 (af.l ax))::L)) (fun out e s=>(e = .exit 8∧∃gz r3,(gz,r3)=out∧∃KP AN NH h13,s=⟨.rs aH 0 ax.length 1 :: .int .i64 a0 :: .int .i64 m0 :: .int .i64 b0 :: .fn fm bk::vj (.int .i64 (i64.wrap (jD .u64 (u64.wrap (i64.wrap (a0+b0))) 1)) :: .int .i64 (i64.wrap (i64.wrap (jD .u64 (u64.wrap (i64.wrap (a0+b0))) 1)+m0)) :: .int .i64 gz::KP::AN::rJ (NH::nZ [])),[],h13⟩∧Has h13 ((aH,.sl ax.length 1 (af.l ax))::L))):=by
 refine k8 (fun _=>rfl) ?_
 rintro k ⟨gz,r3⟩ s out ⟨h13,rfl,uO⟩ H
 have H:aL.l4 m ax a0 m0 b0 aX (k+1) gz r3=some out:=H
 refine qq <| qq <| q0 <| qc H (fun c9 H=>?_) (fun c9 H=>?_)
 ·refine qk <| qb 9 <| qq <| q0 <| qq ?_
  obtain⟨v12,HB,H⟩:=bj H
  obtain⟨OF,Jy,H⟩:=bj H
  obtain⟨r4,KX,H⟩:=bj H
  refine qr [.v 5 (bm (k:=.i64) (E:=af) (l:=ax) (q:=0) gg uO rfl HB),.v 6 (cM  (E:=af) (l:=ax) (q:=0) uO rfl A3 HB rfl),.v 9 (bm (k:=.i64) (E:=af) (l:=ax) (q:=0) gg uO rfl Jy),.v 10 (cM  (E:=af) (l:=ax) (q:=0) uO rfl A3 Jy rfl),.a 11 (iw _ _ _ _ _ KX (Ir (ah (aT) (ah (aT) (aw))) (iy h13 [(aH,.sl ax.length 1 (af.l ax))] uO)))] <| qc H (fun Ix H=>?_) (fun Ix H=>?_)
  ·exact q0 <| ⟨(i64.wrap (i64.wrap (jD .u64 (u64.wrap (i64.wrap (gz+r3))) 1)+(1:Int)),r3),⟨h13,by kernel_rfl,uO⟩,H⟩
  ·exact q0 <| ⟨(gz,i64.wrap (jD .u64 (u64.wrap (i64.wrap (gz+r3))) 1)),⟨h13,by kernel_rfl,uO⟩,H⟩
 ·exact qx 8 <| ⟨rfl,gz,r3,oi H,.int .i64 r3,.int .i64 (i64.wrap (i64.wrap (i64.wrap (jD .u64 (u64.wrap (i64.wrap (a0+b0))) 1)+m0) - (1:Int))),.bool (decide (gz<r3)),h13,by kernel_rfl,uO⟩
theorem tQ {aW:FuncId→bY}(ha:aW 106=mi)(NI:Nw cf m)(ax:List Int)(a0:Int)(m0:Int)(b0:Int)(aX:Int→Int→Option (Int))(h:AHeap)(L:Mem)(aH:Nat)(fm:FuncId)(bk aY:List AV)  {kk:Nat}(iZ:uP cf m kk)(gV:aO (.fn fm bk) = .fn fm bk)(iw:∀(h:AHeap) (xs:List AV) (a0:Int) (a1:Int) r,aX a0 a1=some r→aQ bJ h xs ([.int .i64 a0,.int .i64 a1]++aY)→cf fm xs h=some (.int .i64 r,h))(iy:∀h K,Has h (K++(L))→aQ cz h bk aY)(iY:∀h,aQ cz h aY aY)(o:Has h ((aH,.sl ax.length 1 (af.l ax))::L)){out:(List Int)}(H:aL.f m (kk+1) ax a0 m0 b0 aX=some out) :
  ∃r h',bb Try.prog aW cf m 106 [.rs aH 0 ax.length 1,.int .i64 a0,.int .i64 m0,.int .i64 b0,.fn fm bk] h=some (r,h')∧r = .tup []∧Has h' ((aH,.sl ax.length 1 (af.l out))::L):=by
 refine ar (fn:=Try.f106) ha Try.func106 (by kernel_rfl) (by kernel_rfl) ?_
 refine aG (Q:=fun s=>aL.fin L aH ax a0 m0 b0 aX out s) (fun _ _ ⟨h1,h2,h3⟩=>⟨h1,_,h2,rfl,h3⟩) ?_
 have H:aL.b m (aL.f m kk) ax a0 m0 b0 aX=some out:=H
 unfold aL.b at H
 show dy _ cf mi m _ ⟨.rs aH 0 ax.length 1 :: .int .i64 a0 :: .int .i64 m0 :: .int .i64 b0 :: .fn fm bk::PL [],[],h⟩ _
 refine qq <| qq <| q0 <| qc H (fun c0 H=>?_) (fun c0 H=>?_)
 ·refine q1 <| qq <| q0 <| qq <| qb 0 ?_
  obtain⟨bQ,e3,H⟩:=bj H
  refine ql (aL.cO L aH fm bk aY ax a0 m0 b0 aX  iZ gV iw iy iY  (m0,b0) _ _ ⟨h,by kernel_rfl,o⟩ e3) ?_
  rintro e s ⟨rfl,i1,j1,rfl,g0,g1,g2,h1,rfl,o1⟩
  try dsimp only at H
  refine qq <| qq <| q0 <| qb 2 ?_
  obtain⟨cw,rv,H⟩:=bj H
  refine ql (aL.ko L aH fm bk aY ax a0 m0 b0 aX i1  iZ gV iw iy iY  (ax,a0) _ _ ⟨h1,by kernel_rfl,o1⟩ rv) ?_
  rintro e s ⟨rfl,dC,k1,rfl,g3,g4,g5,g6,h5,rfl,o5⟩
  try dsimp only at H
  obtain rfl:=oi H
  exact qt <| ⟨.inl rfl,⟨by kernel_rfl,he o5⟩⟩
 ·refine qk <| qq <| qq <| q0 <| qc H (fun c4 H=>?_) (fun c4 H=>?_)
  ·refine q1 <| qq <| q0 <| qq <| qb 4 ?_
   obtain⟨km,AK,H⟩:=bj H
   refine ql (aL.pP L aH fm bk aY ax a0 m0 b0 aX  iZ gV iw iy iY  (a0,m0) _ _ ⟨h,by kernel_rfl,o⟩ AK) ?_
   rintro e s ⟨rfl,i3,j3,rfl,g7,g8,g9,h7,rfl,o7⟩
   try dsimp only at H
   refine qq <| qq <| q0 <| qb 6 ?_
   obtain⟨yU,HA,H⟩:=bj H
   refine ql (aL.Gj L aH fm bk aY ax a0 m0 b0 aX i3  iZ gV iw iy iY  (ax,m0) _ _ ⟨h7,by kernel_rfl,o7⟩ HA) ?_
   rintro e s ⟨rfl,jO,k3,rfl,g10,g11,g12,g13,h11,rfl,xf⟩
   try dsimp only at H
   obtain rfl:=oi H
   exact qt <| ⟨.inl rfl,⟨by kernel_rfl,he xf⟩⟩
  ·refine qk <| qq <| q0 <| qq <| q0 <| qq <| q0 ?_
   obtain⟨zM,Jx,H⟩:=pF H
   refine qj (S:=fun (σ:Int × Int) s=>match σ with | (tO,r2)=>∃(h12:AHeap),s=⟨.rs aH 0 ax.length 1 :: .int .i64 a0 :: .int .i64 m0 :: .int .i64 b0 :: .fn fm bk::vj (.int .i64 (i64.wrap (jD .u64 (u64.wrap (i64.wrap (a0+b0))) 1)) :: .int .i64 (i64.wrap (i64.wrap (jD .u64 (u64.wrap (i64.wrap (a0+b0))) 1)+m0)) :: .int .i64 tO :: .int .i64 r2::PE []),[],h12⟩∧Has h12 ((aH,.sl ax.length 1 (af.l ax))::L)) zM H ?_ ?_
   ·rintro⟨tO,r2⟩ s ⟨h12,rfl,za⟩ H
    have H:=(Jx _).symm.trans H
    try dsimp only at H
    refine q1 <| qq <| qb 8 ?_
    obtain⟨dk,Jz,H⟩:=bj H
    refine ql (aL.Gk L aH fm bk aY ax a0 m0 b0 aX  iZ gV iw iy iY  (tO,r2) _ _ ⟨h12,by kernel_rfl,za⟩ Jz) ?_
    rintro e s ⟨rfl,fH,r5,rfl,g14,g15,g16,h14,rfl,tL⟩
    try dsimp only at H
    refine q1 ?_
    obtain⟨ND,OG,H⟩:=pF H
    refine qj (S:=fun (σ:(List Int)) s=>match σ with | lE=>∃(g17:AV) (g18:AV) (h16:AHeap),s=⟨.rs aH 0 ax.length 1 :: .int .i64 a0::g17 :: .int .i64 b0 :: .fn fm bk::vj (.int .i64 (i64.wrap (jD .u64 (u64.wrap (i64.wrap (a0+b0))) 1)) :: .any :: .int .i64 fH::nS (.int .i64 (i64.wrap (i64.wrap (i64.wrap (jD .u64 (u64.wrap (i64.wrap (a0+b0))) 1)+m0) - fH))::rJ [g18,.any,.any])),[],h16⟩∧Has h16 ((aH,.sl ax.length 1 (af.l lE))::L)) ND H ?_ ?_
    ·rintro lE s ⟨g17,g18,h16,rfl,xJ⟩ H
     have H:=(OG _).symm.trans H
     try dsimp only at H
     obtain⟨tP,Hw,H⟩:=pF H
     refine qj (S:=fun (σ:(List Int)) s=>match σ with | pO=>∃(g19:AV) (g20:AV) (g21:AV) (h18:AHeap),s=⟨.rs aH 0 ax.length 1::g19 :: .any :: .int .i64 b0 :: .fn fm bk::vj (.int .i64 (i64.wrap (jD .u64 (u64.wrap (i64.wrap (a0+b0))) 1)) :: .any::g20::nS (.int .i64 (i64.wrap (i64.wrap (i64.wrap (jD .u64 (u64.wrap (i64.wrap (a0+b0))) 1)+m0) - fH))::uH [g21,.any])),[],h18⟩∧Has h18 ((aH,.sl ax.length 1 (af.l pO))::L)) tP H ?_ ?_
     ·rintro pO s ⟨g19,g20,g21,h18,rfl,Cw⟩ H
      have H:=(Hw _).symm.trans H
      try dsimp only at H
      refine qq ?_
      rcases ig H with⟨IA,H⟩| ⟨IA,H⟩
      ·refine qr [.b 3 IA] <| qc H (fun Vr H=>?_) (fun Vr H=>?_)
       ·obtain⟨x2,OH,H⟩:=bj H
        obtain⟨h19,OI,AR⟩:=iZ _ _ _ _ _ _ OH h18 _ _ _ (Cw) fm bk aY gV iw (fun h' K' o'=>iy h' (K'++[]) (by simpa only [X3,Yq,Yr] using o')) iY [.rs aH 0 ax.length 1,.int .i64 (i64.wrap (jD .u64 (u64.wrap (i64.wrap (a0+b0))) 1)),.int .i64 (i64.wrap (i64.wrap (i64.wrap (jD .u64 (u64.wrap (i64.wrap (a0+b0))) 1)+m0) - fH)),.int .i64 b0,.fn fm bk] (au (rfl) (au (aP (bu)) (au (aP (bu)) (au (aP (bu)) (au (gV) (bN))))))
        obtain rfl:=oi H
        exact qr [.a 5 OI] <| ⟨.inr rfl,⟨by kernel_rfl,he AR⟩⟩
       ·obtain rfl:=oi H
        exact qk <| ⟨.inr rfl,⟨by kernel_rfl,he Cw⟩⟩
      ·obtain rfl:=oi H
       exact qr [.b 3 IA] <| Hy <| qk <| ⟨.inr rfl,⟨by kernel_rfl,he Cw⟩⟩
     clear Hw
     intro Lb
     refine qq ?_
     rcases ig H with⟨F8,H⟩| ⟨F8,H⟩
     ·refine qr [.b 3 F8] <| qc H (fun Nz H=>?_) (fun Nz H=>?_)
      ·obtain⟨x1,QH,H⟩:=bj H
       obtain⟨h17,OJ,vA⟩:=iZ _ _ _ _ _ _ QH h16 _ _ _ (xJ) fm bk aY gV iw (fun h' K' o'=>iy h' (K'++[]) (by simpa only [X3,Yq,Yr] using o')) iY [.rs aH 0 ax.length 1,.int .i64 a0,.int .i64 fH,.int .i64 (i64.wrap (jD .u64 (u64.wrap (i64.wrap (a0+b0))) 1)),.fn fm bk] (au (rfl) (au (aP (bu)) (au (aP (bu)) (au (aP (bu)) (au (gV) (bN))))))
       exact qr [.a 5 OJ] <| Lb x1 _ ⟨.any,.any,.any,h17,by kernel_rfl,vA⟩ H
      ·exact qk <| Lb lE _ ⟨.int .i64 a0,.int .i64 fH,.bool (decide (fH<(i64.wrap (jD .u64 (u64.wrap (i64.wrap (a0+b0))) 1)))),h16,by kernel_rfl,xJ⟩ H
     ·exact qr [.b 3 F8] <| Hy <| qk <| Lb lE _ ⟨.int .i64 a0,.int .i64 fH,.bool false,h16,by kernel_rfl,xJ⟩ H
    clear OG
    intro Lc
    refine qq ?_
    rcases ig H with⟨vw,H⟩| ⟨vw,H⟩
    ·refine qr [.b 3 vw] <| qc H (fun F7 H=>?_) (fun F7 H=>?_)
     ·obtain⟨x0,Md,H⟩:=bj H
      obtain⟨h15,QI,D8⟩:=NI _ _ _ _ _ _ Md h14 _ _ _ (tL) fm bk aY gV iw (fun h' K' o'=>iy h' (K'++[]) (by simpa only [X3,Yq,Yr] using o')) iY [.rs aH 0 ax.length 1,.int .i64 fH,.int .i64 m0,.int .i64 (i64.wrap (i64.wrap (i64.wrap (jD .u64 (u64.wrap (i64.wrap (a0+b0))) 1)+m0) - fH)),.fn fm bk] (au (rfl) (au (aP (bu)) (au (aP (bu)) (au (aP (bu)) (au (gV) (bN))))))
      exact qr [.a 5 QI] <| Lc x0 _ ⟨.any,.any,h15,by kernel_rfl,D8⟩ H
     ·exact qk <| Lc ax _ ⟨.int .i64 m0,.bool (decide (m0<(i64.wrap (i64.wrap (i64.wrap (jD .u64 (u64.wrap (i64.wrap (a0+b0))) 1)+m0) - fH)))),h14,by kernel_rfl,tL⟩ H
    ·exact qr [.b 3 vw] <| Hy <| qk <| Lc ax _ ⟨.int .i64 m0,.bool false,h14,by kernel_rfl,tL⟩ H
   clear Jx
   intro uM
   refine q1 <| qc H (fun c8 H=>?_) (fun c8 H=>?_)
   ·exact q1 <| q0 <| uM (i64.wrap (i64.wrap (i64.wrap (jD .u64 (u64.wrap (i64.wrap (a0+b0))) 1)+m0) - b0),i64.wrap (jD .u64 (u64.wrap (i64.wrap (a0+b0))) 1)) _ ⟨h,by kernel_rfl,o⟩ H
   ·exact q1 <| q0 <| uM (a0,m0) _ ⟨h,by kernel_rfl,o⟩ H
end
end Go.Proofs.Ytifafejidnjckaa
namespace Go.Proofs.Ytifafejidnjckaa
open Go Go.R
open Go.IntKind (i64 u64 u8 u32)
def Cy:bY:=gK [0,1,2,6,7,8,9,10,17,27] [] [1016,984,728,999,830,446,1023,999,999] [(6,[(9,none,0)])] [(0,[(6,none,1)]),(3,[(6,none,1)]),(7,[(6,none,1)])]
def bU.f (m:Nat)(s0:ab)(a0:Int)(b0:Int):Option ((List Int) × Int × ab):=(bT.f m s0 ([a0,b0])).bind fun x0=>if (!(x0==(0:Int)))=true then (some (([]:List Int),x0,s0)) else ((aB.f m s0 a0 b0).bind fun x1=>if (!x1.2.1)=true then ((bp.f m x1.2.2 x1.1).bind fun x2=>some (([]:List Int),(8:Int),x2)) else ((cQ.f m x1.2.2 x1.1).bind fun x3=>some (x3,(0:Int),x1.2.2)))
def bU.fin (L:Mem)(aq:Nat)(an:Nat)(ao:Nat)(s0:ab)(a0:Int)(b0:Int)(r:(List Int) × Int × ab)(s:St):Prop:=∃dh aD aE:Nat,aM Try.prog (s.open Cy) Try.f16.results.toList=some (.tup [.rs dh 0 r.1.length 1,.int .i64 r.2.1])∧Has s.h ((dh,.sl r.1.length 1 (af.l r.1))::(aq,.ob [.bool r.2.2.ak,.rs aD 0 r.2.2.aa.length 4,.rs aE 0 r.2.2.ae.length 1])::(aD,.sl r.2.2.aa.length 4 (ai.l r.2.2.aa))::(aE,.sl r.2.2.ae.length 1 (af.l r.2.2.ae))::L)
def QJ (cf:CallF)(m:Nat):Prop:=∀(s0:ab) (a0:Int) (b0:Int) (r:(List Int) × Int × ab),bU.f m s0 a0 b0=some r→∀h L (aq:Nat) (an:Nat) (ao:Nat),Has h ((aq,.ob [.bool s0.ak,.rs an 0 s0.aa.length 4,.rs ao 0 s0.ae.length 1])::(an,.sl s0.aa.length 4 (ai.l s0.aa))::(ao,.sl s0.ae.length 1 (af.l s0.ae))::L)→∀xs,xs.map aO=[.ptr aq 0,.int .i64 a0,.int .i64 b0]→∃dh aD aE h',cf 16 xs h=some (.tup [.rs dh 0 r.1.length 1,.int .i64 r.2.1],h')∧Has h' ((dh,.sl r.1.length 1 (af.l r.1))::(aq,.ob [.bool r.2.2.ak,.rs aD 0 r.2.2.aa.length 4,.rs aE 0 r.2.2.ae.length 1])::(aD,.sl r.2.2.aa.length 4 (ai.l r.2.2.aa))::(aE,.sl r.2.2.ae.length 1 (af.l r.2.2.ae))::L)
section
variable {cf:CallF}{m:Nat}
theorem mj {aW:FuncId→bY}(ha:aW 16=Cy)(xg:Mb cf m)(Ld:Qp cf m)(Le:P5 cf m)(Lf:Qv cf m)(s0:ab)(a0:Int)(b0:Int)(h:AHeap)(L:Mem)(aq:Nat)(an:Nat)(ao:Nat)  (o:Has h ((aq,.ob [.bool s0.ak,.rs an 0 s0.aa.length 4,.rs ao 0 s0.ae.length 1])::(an,.sl s0.aa.length 4 (ai.l s0.aa))::(ao,.sl s0.ae.length 1 (af.l s0.ae))::L)){out:(List Int) × Int × ab}(H:bU.f m s0 a0 b0=some out) :
  ∃r h',bb Try.prog aW cf m 16 [.ptr aq 0,.int .i64 a0,.int .i64 b0] h=some (r,h')∧∃dh aD aE:Nat,r = .tup [.rs dh 0 out.1.length 1,.int .i64 out.2.1]∧Has h' ((dh,.sl out.1.length 1 (af.l out.1))::(aq,.ob [.bool out.2.2.ak,.rs aD 0 out.2.2.aa.length 4,.rs aE 0 out.2.2.ae.length 1])::(aD,.sl out.2.2.aa.length 4 (ai.l out.2.2.aa))::(aE,.sl out.2.2.ae.length 1 (af.l out.2.2.ae))::L):=by
 refine ar (fn:=Try.f16) ha Try.func16 (by kernel_rfl) (by kernel_rfl) ?_
 refine aG (Q:=fun s=>bU.fin L aq an ao s0 a0 b0 out s) (fun _ _ ⟨h1,dh,aD,aE,h2,h3⟩=>⟨h1,_,h2,dh,aD,aE,rfl,h3⟩) ?_
 have H:_=some out:=H
 unfold bU.f at H
 show dy _ cf Cy m _ ⟨.ptr aq 0 :: .int .i64 a0 :: .int .i64 b0::FE [],[],h⟩ _
 refine q1 <| qq <| qq ?_
 obtain⟨x0,e0,H⟩:=bj H
 refine qr [.a 4 (xg _ _ _ e0 h _ (fq (ah (dV (q:=0) o rfl (ah (fB) (ah (dK (E:=ai) (l:=s0.aa) (q:=1) o rfl (fun _=>rfl)) (ah (dK (E:=af) (l:=s0.ae) (q:=2) o rfl (fun _=>rfl)) (aw))))) (ah (oL (E:=af) (l:=[a0,b0]) (cs:=[.int .i64 a0,.int .i64 b0]) (b:=true) (by kernel_rfl) (by kernel_rfl) rfl) (aw)))))] <| qq <| q0 <| qc H (fun c0 H=>?_) (fun c0 H=>?_)
 ·refine q1 ?_
  have o0:Has h (((0),.sl (([]:List Int).length) 1 (af.l ([]:List Int)))::(aq,.ob [.bool s0.ak,.rs an 0 s0.aa.length 4,.rs ao 0 s0.ae.length 1])::(an,.sl s0.aa.length 4 (ai.l s0.aa))::(ao,.sl s0.ae.length 1 (af.l s0.ae))::L):=Has.nil o 1
  obtain rfl:=oi H
  exact qt <| ⟨.inl rfl,⟨(0),an,ao,by kernel_rfl,he o0⟩⟩
 ·refine qk <| qq ?_
  obtain⟨x1,e1,H⟩:=bj H
  obtain⟨aH,ck,dX,h0,e2,o1⟩:=Ld _ _ _ _ e1 h _ _ _ _ (o)  [.ptr aq 0,.int .i64 a0,.int .i64 b0] (au (rfl) (au (aP (bu)) (au (aP (bu)) (bN))))
  refine qr [.a 3 e2] <| qq <| qq <| q0 <| qc H (fun c1 H=>?_) (fun c1 H=>?_)
  ·refine qq ?_
   obtain⟨h1,e3,o2⟩:=qy (E:=af) (l:=x1.1) (q:=0) o1 rfl
   obtain⟨x2,e4,H⟩:=bj H
   obtain⟨dP,dQ,h2,e5,o3⟩:=Le _ _ _ e4 h1 _ _ _ _ (o2)  [.ptr aq 0,af.fz x1.1] (au (rfl) (au (aP (rl (E:=af))) (bN)))
   refine L8 [.a 0 e3] [.a 2 e5] <| qq <| q0 ?_
   have o4:Has h2 ((((0)),.sl (([]:List Int).length) 1 (af.l ([]:List Int)))::(aq,.ob [.bool x2.ak,.rs dP 0 x2.aa.length 4,.rs dQ 0 x2.ae.length 1])::(dP,.sl x2.aa.length 4 (ai.l x2.aa))::(dQ,.sl x2.ae.length 1 (af.l x2.ae))::L):=Has.nil o3 1
   obtain rfl:=oi H
   exact qt <| ⟨.inl rfl,⟨((0)),dP,dQ,by kernel_rfl,he o4⟩⟩
  ·refine qk <| qq ?_
   obtain⟨x3,e6,H⟩:=bj H
   obtain⟨eZ,h3,e7,o5,ES⟩:=Lf _ _ _ e6 h0 _ _ o1 (fq (ah (dV (q:=1) o1 rfl (ah (fB) (ah (dK (E:=ai) (l:=x1.2.2.aa) (q:=2) o1 rfl (fun _=>rfl)) (ah (dK (E:=af) (l:=x1.2.2.ae) (q:=3) o1 rfl (fun _=>rfl)) (aw))))) (ah (dK (E:=af) (l:=x1.1) (q:=0) o1 rfl (fun _=>rfl)) (aw))))
   refine qr [.a 2 e7] ?_
   have o6:Has h3 ((eZ,.sl x3.length 1 (af.l x3))::(aq,.ob [.bool x1.2.2.ak,.rs ck 0 x1.2.2.aa.length 4,.rs dX 0 x1.2.2.ae.length 1])::(ck,.sl x1.2.2.aa.length 4 (ai.l x1.2.2.aa))::(dX,.sl x1.2.2.ae.length 1 (af.l x1.2.2.ae))::L):=Has.del o5 1
   obtain rfl:=oi H
   exact qt <| ⟨.inl rfl,⟨eZ,ck,dX,by kernel_rfl,he o6⟩⟩
end
end Go.Proofs.Ytifafejidnjckaa
namespace Go.Proofs.Ytifafejidnjckaa
open Go Go.R
open Go.IntKind (i64 u64 u8 u32)
def Cz:bY:=gK [0,1,4,5,6,12] [4] [56,40,8,51,51] [] [(0,[(4,some 3,1)]),(3,[(4,some 3,1)])]
def b9.f (m:Nat)(s0:ab)(n0:Int):Option (aj × Int):=(bT.f m s0 ([n0])).bind fun x0=>if (!(x0==(0:Int)))=true then (some ((aj.mk (0:Int) (0:Int) (Yv #[]) ([]:List Int)),x0)) else ((be.f m s0 n0).bind fun x1=>(bg.f m s0 x1).bind fun x2=>some (x2,(0:Int)))
def b9.fin (L:Mem)  (r:aj × Int)(s:St):Prop:=∃dh:Nat,aM Try.prog (s.open Cz) Try.f20.results.toList=some (.tup [.agg [.int .i64 r.1.kind,.int .i64 r.1.int,.str r.1.label,.rs dh 0 r.1.args.length 1],.int .i64 r.2])∧Has s.h ((dh,.sl r.1.args.length 1 (af.l r.1.args))::L)
def QK (cf:CallF)(m:Nat):Prop:=∀(s0:ab) (n0:Int) (r:aj × Int),b9.f m s0 n0=some r→∀h L xs,Has h L→aQ bJ h xs [.fp [.bool s0.ak,ai.fz s0.aa,af.fz s0.ae] 0,.int .i64 n0]→∃dh h',cf 20 xs h=some (.tup [.agg [.int .i64 r.1.kind,.int .i64 r.1.int,.str r.1.label,.rs dh 0 r.1.args.length 1],.int .i64 r.2],h')∧Has h' ((dh,.sl r.1.args.length 1 (af.l r.1.args))::L)∧∀j,j<h.next→h.ver j=h'.ver j
section
variable {cf:CallF}{m:Nat}
theorem ml {aW:FuncId→bY}(ha:aW 20=Cz)(xg:Mb cf m)(Gl:OC cf m)(l9:Hz cf m)(s0:ab)(n0:Int)(h:AHeap)(L:Mem)  (o:Has h (L)){out:aj × Int}(H:b9.f m s0 n0=some out) :
  ∃r h',bb Try.prog aW cf m 20 [.fp [.bool s0.ak,ai.fz s0.aa,af.fz s0.ae] 0,.int .i64 n0] h=some (r,h')∧∃dh:Nat,r = .tup [.agg [.int .i64 out.1.kind,.int .i64 out.1.int,.str out.1.label,.rs dh 0 out.1.args.length 1],.int .i64 out.2]∧Has h' ((dh,.sl out.1.args.length 1 (af.l out.1.args))::L):=by
 refine ar (fn:=Try.f20) ha Try.func20 (by kernel_rfl) (by kernel_rfl) ?_
 refine aG (Q:=fun s=>b9.fin L out s) (fun _ _ ⟨h1,dh,h2,h3⟩=>⟨h1,_,h2,dh,rfl,h3⟩) ?_
 have H:_=some out:=H
 unfold b9.f at H
 show dy _ cf Cz m _ ⟨.fp [.bool s0.ak,ai.fz s0.aa,af.fz s0.ae] 0 :: .int .i64 n0::nZ [],[none],h⟩ _
 refine q1 ?_
 have o0:Has h (((0),.sl (([]:List Int).length) 1 (af.l ([]:List Int)))::L):=Has.nil o 1
 refine qq <| qq ?_
 obtain⟨x0,e0,H⟩:=bj H
 refine qr [.a 3 (xg _ _ _ e0 h _ (fq (ah (fh (pure_cons (cp) (pure_cons (bK.bo (E:=ai) (l:=s0.aa)) (pure_cons (bK.bo (E:=af) (l:=s0.ae)) (pure_nil))))) (ah (oL (E:=af) (l:=[n0]) (cs:=[.int .i64 n0]) (b:=true) (by kernel_rfl) (by kernel_rfl) rfl) (aw)))))] <| qq <| q0 <| qc H (fun c0 H=>?_) (fun c0 H=>?_)
 ·refine q1 ?_
  have o1:Has h ((((0)),.sl (([]:List Int).length) 1 (af.l ([]:List Int)))::((0),.sl (([]:List Int).length) 1 (af.l ([]:List Int)))::L):=Has.nil o0 1
  have o2:Has h ((((0)),.sl (([]:List Int).length) 1 (af.l ([]:List Int)))::L):=Has.del o1 1
  obtain rfl:=oi H
  exact qt <| ⟨.inl rfl,⟨((0)),by kernel_rfl,he o2⟩⟩
 ·refine qk <| qq ?_
  obtain⟨x1,e1,H⟩:=bj H
  obtain⟨x2,e2,H⟩:=bj H
  obtain⟨aH,h0,e3,o3,ES⟩:=Gl _ _ _ e2 h _ _ o0 (fq (ah (fh (pure_cons (cp) (pure_cons (bK.bo (E:=ai) (l:=s0.aa)) (pure_cons (bK.bo (E:=af) (l:=s0.ae)) (pure_nil))))) (ah (aT) (aw))))
  refine qr [.a 3 (l9 _ _ _ e1 h _ (fq (ah (fh (pure_cons (cp) (pure_cons (bK.bo (E:=ai) (l:=s0.aa)) (pure_cons (bK.bo (E:=af) (l:=s0.ae)) (pure_nil))))) (ah (aT) (aw))))),.a 4 e3] ?_
  have o4:Has h0 ((aH,.sl x2.args.length 1 (af.l x2.args))::L):=Has.del o3 1
  obtain rfl:=oi H
  exact qt <| ⟨.inl rfl,⟨aH,by kernel_rfl,he o4⟩⟩
end
end Go.Proofs.Ytifafejidnjckaa
namespace Go.Proofs.Ytifafejidnjckaa
open Go Go.R
open Go.IntKind (i64 u64 u8 u32)
def CA:bY:=gK [0,1,2,6,7,8,9,10,11,12,19,34,37] [] [8184,8120,7096,8135,7806,7806,7423,5631,8135,3583,8135,8135] [(5,[(10,none,0)])] [(0,[(7,none,1)]),(3,[(7,none,1)]),(8,[(7,none,1)]),(10,[(7,none,1)])]
def b7.f (m:Nat)(s0:ab)(a0:Int)(b0:Int):Option (Int × (List Int) × Int × ab):=(bT.f m s0 ([a0,b0])).bind fun x0=>if (!(x0==(0:Int)))=true then (some ((0:Int),([]:List Int),x0,s0)) else ((aB.f m s0 a0 b0).bind fun x1=>(bp.f m x1.2.2 x1.1).bind fun x2=>(cQ.f m x2 x1.1).bind fun x3=>if (!x1.2.1)=true then (some ((0:Int),([]:List Int),(0:Int),x2)) else (if ((x3.length:Int)==(0:Int))=true then (some ((1:Int),([]:List Int),(0:Int),x2)) else (some ((-1:Int),x3,(0:Int),x2))))
def b7.fin (L:Mem)(aq:Nat)(an:Nat)(ao:Nat)(s0:ab)(a0:Int)(b0:Int)(r:Int × (List Int) × Int × ab)(s:St):Prop:=∃EC aD aE:Nat,aM Try.prog (s.open CA) Try.f23.results.toList=some (.tup [.int .i64 r.1,.rs EC 0 r.2.1.length 1,.int .i64 r.2.2.1])∧Has s.h ((EC,.sl r.2.1.length 1 (af.l r.2.1))::(aq,.ob [.bool r.2.2.2.ak,.rs aD 0 r.2.2.2.aa.length 4,.rs aE 0 r.2.2.2.ae.length 1])::(aD,.sl r.2.2.2.aa.length 4 (ai.l r.2.2.2.aa))::(aE,.sl r.2.2.2.ae.length 1 (af.l r.2.2.2.ae))::L)
def QL (cf:CallF)(m:Nat):Prop:=∀(s0:ab) (a0:Int) (b0:Int) (r:Int × (List Int) × Int × ab),b7.f m s0 a0 b0=some r→∀h L (aq:Nat) (an:Nat) (ao:Nat),Has h ((aq,.ob [.bool s0.ak,.rs an 0 s0.aa.length 4,.rs ao 0 s0.ae.length 1])::(an,.sl s0.aa.length 4 (ai.l s0.aa))::(ao,.sl s0.ae.length 1 (af.l s0.ae))::L)→∀xs,xs.map aO=[.ptr aq 0,.int .i64 a0,.int .i64 b0]→∃EC aD aE h',cf 23 xs h=some (.tup [.int .i64 r.1,.rs EC 0 r.2.1.length 1,.int .i64 r.2.2.1],h')∧Has h' ((EC,.sl r.2.1.length 1 (af.l r.2.1))::(aq,.ob [.bool r.2.2.2.ak,.rs aD 0 r.2.2.2.aa.length 4,.rs aE 0 r.2.2.2.ae.length 1])::(aD,.sl r.2.2.2.aa.length 4 (ai.l r.2.2.2.aa))::(aE,.sl r.2.2.2.ae.length 1 (af.l r.2.2.2.ae))::L)
section
variable {cf:CallF}{m:Nat}
theorem mN {aW:FuncId→bY}(ha:aW 23=CA)(xg:Mb cf m)(Ld:Qp cf m)(Le:P5 cf m)(Lf:Qv cf m)(s0:ab)(a0:Int)(b0:Int)(h:AHeap)(L:Mem)(aq:Nat)(an:Nat)(ao:Nat)  (o:Has h ((aq,.ob [.bool s0.ak,.rs an 0 s0.aa.length 4,.rs ao 0 s0.ae.length 1])::(an,.sl s0.aa.length 4 (ai.l s0.aa))::(ao,.sl s0.ae.length 1 (af.l s0.ae))::L)){out:Int × (List Int) × Int × ab}(H:b7.f m s0 a0 b0=some out) :
  ∃r h',bb Try.prog aW cf m 23 [.ptr aq 0,.int .i64 a0,.int .i64 b0] h=some (r,h')∧∃EC aD aE:Nat,r = .tup [.int .i64 out.1,.rs EC 0 out.2.1.length 1,.int .i64 out.2.2.1]∧Has h' ((EC,.sl out.2.1.length 1 (af.l out.2.1))::(aq,.ob [.bool out.2.2.2.ak,.rs aD 0 out.2.2.2.aa.length 4,.rs aE 0 out.2.2.2.ae.length 1])::(aD,.sl out.2.2.2.aa.length 4 (ai.l out.2.2.2.aa))::(aE,.sl out.2.2.2.ae.length 1 (af.l out.2.2.2.ae))::L):=by
 refine ar (fn:=Try.f23) ha Try.func23 (by kernel_rfl) (by kernel_rfl) ?_
 refine aG (Q:=fun s=>b7.fin L aq an ao s0 a0 b0 out s) (fun _ _ ⟨h1,EC,aD,aE,h2,h3⟩=>⟨h1,_,h2,EC,aD,aE,rfl,h3⟩) ?_
 have H:_=some out:=H
 unfold b7.f at H
 show dy _ cf CA m _ ⟨.ptr aq 0 :: .int .i64 a0 :: .int .i64 b0::Kp [],[],h⟩ _
 refine q1 <| qq <| qq ?_
 obtain⟨x0,e0,H⟩:=bj H
 refine qr [.a 4 (xg _ _ _ e0 h _ (fq (ah (dV (q:=0) o rfl (ah (fB) (ah (dK (E:=ai) (l:=s0.aa) (q:=1) o rfl (fun _=>rfl)) (ah (dK (E:=af) (l:=s0.ae) (q:=2) o rfl (fun _=>rfl)) (aw))))) (ah (oL (E:=af) (l:=[a0,b0]) (cs:=[.int .i64 a0,.int .i64 b0]) (b:=true) (by kernel_rfl) (by kernel_rfl) rfl) (aw)))))] <| qq <| q0 <| qc H (fun c0 H=>?_) (fun c0 H=>?_)
 ·refine q1 ?_
  have o0:Has h (((0),.sl (([]:List Int).length) 1 (af.l ([]:List Int)))::(aq,.ob [.bool s0.ak,.rs an 0 s0.aa.length 4,.rs ao 0 s0.ae.length 1])::(an,.sl s0.aa.length 4 (ai.l s0.aa))::(ao,.sl s0.ae.length 1 (af.l s0.ae))::L):=Has.nil o 1
  obtain rfl:=oi H
  exact qt <| ⟨.inl rfl,⟨(0),an,ao,by kernel_rfl,he o0⟩⟩
 ·refine qk <| qq ?_
  obtain⟨x1,e1,H⟩:=bj H
  obtain⟨aH,ck,dX,h0,e2,o1⟩:=Ld _ _ _ _ e1 h _ _ _ _ (o)  [.ptr aq 0,.int .i64 a0,.int .i64 b0] (au (rfl) (au (aP (bu)) (au (aP (bu)) (bN))))
  refine qr [.a 3 e2] <| qq ?_
  obtain⟨h1,e3,o2⟩:=qy (E:=af) (l:=x1.1) (q:=0) o1 rfl
  obtain⟨x2,e4,H⟩:=bj H
  obtain⟨dP,dQ,h2,e5,o3⟩:=Le _ _ _ e4 h1 _ _ _ _ (o2)  [.ptr aq 0,af.fz x1.1] (au (rfl) (au (aP (rl (E:=af))) (bN)))
  refine L8 [.a 0 e3] [.a 2 e5] <| qq ?_
  obtain⟨x3,e6,H⟩:=bj H
  obtain⟨eZ,h3,e7,o4,ES⟩:=Lf _ _ _ e6 h2 _ _ o3 (fq (ah (dV (q:=0) o3 rfl (ah (fB) (ah (dK (E:=ai) (l:=x2.aa) (q:=1) o3 rfl (fun _=>rfl)) (ah (dK (E:=af) (l:=x2.ae) (q:=2) o3 rfl (fun _=>rfl)) (aw))))) (ah (dW (E:=af)) (aw))))
  refine qr [.a 2 e7] <| qq <| qb 0 <| qq <| q0 <| qc H (fun c1 H=>?_) (fun c1 H=>?_)
  ·refine q1 ?_
   have o5:Has h3 ((((0)),.sl (([]:List Int).length) 1 (af.l ([]:List Int)))::(eZ,.sl x3.length 1 (af.l x3))::(aq,.ob [.bool x2.ak,.rs dP 0 x2.aa.length 4,.rs dQ 0 x2.ae.length 1])::(dP,.sl x2.aa.length 4 (ai.l x2.aa))::(dQ,.sl x2.ae.length 1 (af.l x2.ae))::L):=Has.nil o4 1
   have o6:Has h3 ((((0)),.sl (([]:List Int).length) 1 (af.l ([]:List Int)))::(aq,.ob [.bool x2.ak,.rs dP 0 x2.aa.length 4,.rs dQ 0 x2.ae.length 1])::(dP,.sl x2.aa.length 4 (ai.l x2.aa))::(dQ,.sl x2.ae.length 1 (af.l x2.ae))::L):=Has.del o5 1
   obtain rfl:=oi H
   exact qt <| ⟨.inl rfl,⟨((0)),dP,dQ,by kernel_rfl,he o6⟩⟩
  ·refine q1 <| qc H (fun c2 H=>?_) (fun c2 H=>?_)
   ·refine q1 ?_
    have o7:Has h3 (((((0))),.sl (([]:List Int).length) 1 (af.l ([]:List Int)))::(eZ,.sl x3.length 1 (af.l x3))::(aq,.ob [.bool x2.ak,.rs dP 0 x2.aa.length 4,.rs dQ 0 x2.ae.length 1])::(dP,.sl x2.aa.length 4 (ai.l x2.aa))::(dQ,.sl x2.ae.length 1 (af.l x2.ae))::L):=Has.nil o4 1
    have o8:Has h3 (((((0))),.sl (([]:List Int).length) 1 (af.l ([]:List Int)))::(aq,.ob [.bool x2.ak,.rs dP 0 x2.aa.length 4,.rs dQ 0 x2.ae.length 1])::(dP,.sl x2.aa.length 4 (ai.l x2.aa))::(dQ,.sl x2.ae.length 1 (af.l x2.ae))::L):=Has.del o7 1
    obtain rfl:=oi H
    exact qt <| ⟨.inl rfl,⟨(((0))),dP,dQ,by kernel_rfl,he o8⟩⟩
   ·obtain rfl:=oi H
    exact qk <| qq <| q0 <| qt <| ⟨.inl rfl,⟨eZ,dP,dQ,by kernel_rfl,he o4⟩⟩
end
end Go.Proofs.Ytifafejidnjckaa
namespace Go.Proofs.Ytifafejidnjckaa
open Go Go.R
open Go.IntKind (i64 u64 u8 u32)
def CB:bY:=gK [0,1,4,5,6,12] [] [60,44,12,51,51] [] []
def dI.f (m:Nat)(s0:ab)(n0:Int):Option (Int × Int):=(bT.f m s0 ([n0])).bind fun x0=>if (!(x0==(0:Int)))=true then (some ((0:Int),x0)) else ((be.f m s0 n0).bind fun x1=>some (x1,(0:Int)))
def dI.fin (L:Mem)(r:Int × Int)(s:St):Prop:=∃av,aM Try.prog (s.open CB) Try.f24.results.toList=some av∧fj s.h av (.tup [.int .i64 r.1,.int .i64 r.2])
def QM (cf:CallF)(m:Nat):Prop:=∀(s0:ab) (n0:Int) (r:Int × Int),dI.f m s0 n0=some r→∀h xs,aQ bJ h xs [.fp [.bool s0.ak,ai.fz s0.aa,af.fz s0.ae] 0,.int .i64 n0]→cf 24 xs h=some (.tup [.int .i64 r.1,.int .i64 r.2],h)
section
variable {cf:CallF}{m:Nat}
theorem nC {aW:FuncId→bY}(ha:aW 24=CB)(xg:Mb cf m)(l9:Hz cf m)(s0:ab)(n0:Int)(h:AHeap)(L:Mem)  (o:Has h (L)){out:Int × Int}(H:dI.f m s0 n0=some out) :
  ∃r h',bb Try.prog aW cf m 24 [.fp [.bool s0.ak,ai.fz s0.aa,af.fz s0.ae] 0,.int .i64 n0] h=some (r,h')∧fj h' r (.tup [.int .i64 out.1,.int .i64 out.2]):=by
 refine ar (fn:=Try.f24) ha Try.func24 (by kernel_rfl) (by kernel_rfl) ?_
 refine aG (Q:=fun s=>dI.fin L out s) (fun _ _ h=>h) ?_
 have H:_=some out:=H
 unfold dI.f at H
 show dy _ cf CB m _ ⟨.fp [.bool s0.ak,ai.fz s0.aa,af.fz s0.ae] 0 :: .int .i64 n0::nZ [],[],h⟩ _
 refine q1 <| qq <| qq ?_
 obtain⟨x0,e0,H⟩:=bj H
 refine qr [.a 3 (xg _ _ _ e0 h _ (fq (ah (fh (pure_cons (cp) (pure_cons (bK.bo (E:=ai) (l:=s0.aa)) (pure_cons (bK.bo (E:=af) (l:=s0.ae)) (pure_nil))))) (ah (oL (E:=af) (l:=[n0]) (cs:=[.int .i64 n0]) (b:=true) (by kernel_rfl) (by kernel_rfl) rfl) (aw)))))] <| qq <| q0 <| qc H (fun c0 H=>?_) (fun c0 H=>?_)
 ·obtain rfl:=oi H
  exact q1 <| qt <| ⟨.inl rfl,cX (.tup [.int .i64 (0:Int),.int .i64 x0]) h (cV (tg (jt (dc) (jt (dc) (te)))))⟩
 ·refine qk <| qq ?_
  obtain⟨x1,e1,H⟩:=bj H
  obtain rfl:=oi H
  exact qr [.a 2 (l9 _ _ _ e1 h _ (fq (ah (fh (pure_cons (cp) (pure_cons (bK.bo (E:=ai) (l:=s0.aa)) (pure_cons (bK.bo (E:=af) (l:=s0.ae)) (pure_nil))))) (ah (aT) (aw)))))] <| qt <| ⟨.inl rfl,cX (.tup [.int .i64 x1,.int .i64 (0:Int)]) h (cV (tg (jt (dc) (jt (dc) (te)))))⟩
end
end Go.Proofs.Ytifafejidnjckaa
namespace Go.Proofs.Ytifafejidnjckaa
open Go Go.R
open Go.IntKind (i64 u64 u8 u32)
def CC:bY:=gK [0,1,2,3,4,5,6,7,8] [1000000014] [455,199,319] [] []
def eB.f (m:Nat)(s0:ab)(cF:ByteArray)(dR:List Int):Option (Int × Int × ab):=(FJ 1 dR).bind fun x0=>(cm.f m s0 (cK.f m cF dR s0) (aj.mk (3:Int) (0:Int) cF x0)).bind fun x1=>some (x1.1,x1.2.1,x1.2.2)
def eB.fin (L:Mem)(aq:Nat)(an:Nat)(ao:Nat)(s0:ab)(cF:ByteArray)(dR:List Int)(r:Int × Int × ab)(s:St):Prop:=∃aD aE:Nat,aM Try.prog (s.open CC) Try.f34.results.toList=some (.tup [.int .i64 r.1,.int .i64 r.2.1])∧Has s.h ((aq,.ob [.bool r.2.2.ak,.rs aD 0 r.2.2.aa.length 4,.rs aE 0 r.2.2.ae.length 1])::(aD,.sl r.2.2.aa.length 4 (ai.l r.2.2.aa))::(aE,.sl r.2.2.ae.length 1 (af.l r.2.2.ae))::L)
def Tz (cf:CallF)(m:Nat):Prop:=∀(s0:ab) (cF:ByteArray) (dR:List Int) (r:Int × Int × ab),eB.f m s0 cF dR=some r→∀h L (aq:Nat) (an:Nat) (ao:Nat),Has h ((aq,.ob [.bool s0.ak,.rs an 0 s0.aa.length 4,.rs ao 0 s0.ae.length 1])::(an,.sl s0.aa.length 4 (ai.l s0.aa))::(ao,.sl s0.ae.length 1 (af.l s0.ae))::L)→∀xs,xs.map aO=[.ptr aq 0,.str cF,af.fz dR]→∃aD aE h',cf 34 xs h=some (.tup [.int .i64 r.1,.int .i64 r.2.1],h')∧Has h' ((aq,.ob [.bool r.2.2.ak,.rs aD 0 r.2.2.aa.length 4,.rs aE 0 r.2.2.ae.length 1])::(aD,.sl r.2.2.aa.length 4 (ai.l r.2.2.aa))::(aE,.sl r.2.2.ae.length 1 (af.l r.2.2.ae))::L)
section
variable {cf:CallF}{m:Nat}
theorem mn {aW:FuncId→bY}(ha:aW 34=CC)(Ga:PZ cf m)(xd:Ma cf m)(QN:Tu cf m)(s0:ab)(cF:ByteArray)(dR:List Int)(h:AHeap)(L:Mem)(aq:Nat)(an:Nat)(ao:Nat)  (o:Has h ((aq,.ob [.bool s0.ak,.rs an 0 s0.aa.length 4,.rs ao 0 s0.ae.length 1])::(an,.sl s0.aa.length 4 (ai.l s0.aa))::(ao,.sl s0.ae.length 1 (af.l s0.ae))::L)){out:Int × Int × ab}(H:eB.f m s0 cF dR=some out) :
  ∃r h',bb Try.prog aW cf m 34 [.ptr aq 0,.str cF,af.fz dR] h=some (r,h')∧∃aD aE:Nat,r = .tup [.int .i64 out.1,.int .i64 out.2.1]∧Has h' ((aq,.ob [.bool out.2.2.ak,.rs aD 0 out.2.2.aa.length 4,.rs aE 0 out.2.2.ae.length 1])::(aD,.sl out.2.2.aa.length 4 (ai.l out.2.2.aa))::(aE,.sl out.2.2.ae.length 1 (af.l out.2.2.ae))::L):=by
 refine ar (fn:=Try.f34) ha Try.func34 (by kernel_rfl) (by kernel_rfl) ?_
 refine aG (Q:=fun s=>eB.fin L aq an ao s0 cF dR out s) (fun _ _ ⟨h1,aD,aE,h2,h3⟩=>⟨h1,_,h2,aD,aE,rfl,h3⟩) ?_
 have H:_=some out:=H
 unfold eB.f at H
 show dy _ cf CC m _ ⟨.ptr aq 0 :: .str cF::af.fz dR::xH [],[none],h⟩ _
 refine qq ?_
 obtain⟨aH,h0,e0,o0⟩:=gL (cs:=[.ptr aq 0]) o (by kernel_rfl)
 obtain⟨ck,h1,e1,o1⟩:=gL (cs:=[.str cF]) o0 (by kernel_rfl)
 obtain⟨dX,h2,e2,o2⟩:=gL (cs:=[af.fz dR]) o1 (by kernel_rfl)
 refine qr [.a 0 e0,.a 1 e1,.a 2 e2] <| qq <| q0 <| qq ?_
 obtain⟨x0,e3,H⟩:=bj H
 obtain⟨dP,h3,e4,o3⟩:=Jw (E:=af) (l:=dR) Ga o2 e3
 obtain⟨h4,e5,o4⟩:=qy (E:=af) (l:=x0) (q:=0) o3 rfl
 obtain⟨x1,e6,H⟩:=bj H
 obtain⟨dQ,eZ,h5,e7,o5⟩:=xd _ _ _ _ e6 h4 _ _ _ _ ((Has.front (Has.front (Has.front (Has.front (Has.front (Has.front o4 2 rfl) 2 rfl) 2 rfl) 5 rfl) 5 rfl) 5 rfl)) 61 [.ptr ck 0,.ptr dX 0,.ptr aH 0] [.fp [.str cF] 0,.fp [af.fz dR] 0,.fp [.fp [.bool s0.ak,ai.fz s0.aa,af.fz s0.ae] 0] 0] rfl (fun h' tH  r hr hx=>QN _ _ _ r hr h' tH hx) (fun h' K' o'=>iX (ah (dV (q:=(K'.length+4)) o' (jH rfl) (ah (cq) (aw))) (ah (dV (q:=(K'.length+3)) o' (jH rfl) (ah (dW (E:=af)) (aw))) (ah (dV (q:=(K'.length+5)) o' (jH rfl) (ah (dV (q:=(K'.length+0)) o' (jH rfl) (ah (fB) (ah (dK (E:=ai) (l:=s0.aa) (q:=(K'.length+1)) o' (jH rfl) (fun _=>rfl)) (ah (dK (E:=af) (l:=s0.ae) (q:=(K'.length+2)) o' (jH rfl) (fun _=>rfl)) (aw))))) (aw))) (aw))))) (fun h_=>iX (ah (fh (pure_cons (nk) (pure_nil))) (ah (fh (pure_cons (bK.bo (E:=af) (l:=dR)) (pure_nil))) (ah (fh (pure_cons (l8 (pure_cons (cp) (pure_cons (bK.bo (E:=ai) (l:=s0.aa)) (pure_cons (bK.bo (E:=af) (l:=s0.ae)) (pure_nil))))) (pure_nil))) (aw))))) [.ptr aq 0,.fn 61 [.ptr ck 0,.ptr dX 0,.ptr aH 0],.agg [.int .i64 (3:Int),.int .i64 (0:Int),.str cF,af.fz x0]] (au (rfl) (au (rfl) (au (aP (oN (cN (bu) (cN (bu) (cN (lZ) (cN (rl (E:=af)) (oM))))))) (bN))))
 refine Nj [] [.v 0 (show bC Try.prog h2 28 (.ptr aH 0)=some (.ptr aq 0) from cj (q:=2) (cs:=[.ptr aq 0]) o2 rfl (by kernel_rfl)),.v 2 (show bC Try.prog h2 9 (.ptr ck 0)=some (.str cF) from cj (q:=1) (cs:=[.str cF]) o2 rfl (by kernel_rfl)),.v 3 (show bC Try.prog h2 33 (.ptr dX 0)=some (af.fz dR) from cj (q:=0) (cs:=[af.fz dR]) o2 rfl (by kernel_rfl)),.a 4 (Nk e4 e5),.a 6 e7] [.mk ((FP Ga o2 (q2:=2) rfl e4).trans (FT (E:=af) (l:=x0) o3 (q:=0) (q2:=3) rfl rfl e5)),.mk ((FP Ga o2 (q2:=1) rfl e4).trans (FT (E:=af) (l:=x0) o3 (q:=0) (q2:=2) rfl rfl e5))] ?_
 have o6:Has h5 ((aq,.ob [.bool x1.2.2.ak,.rs dQ 0 x1.2.2.aa.length 4,.rs eZ 0 x1.2.2.ae.length 1])::(dQ,.sl x1.2.2.aa.length 4 (ai.l x1.2.2.aa))::(eZ,.sl x1.2.2.ae.length 1 (af.l x1.2.2.ae))::(dX,.ob [af.fz dR])::(ck,.ob [.str cF])::L):=Has.del o5 5
 have o7:Has h5 ((aq,.ob [.bool x1.2.2.ak,.rs dQ 0 x1.2.2.aa.length 4,.rs eZ 0 x1.2.2.ae.length 1])::(dQ,.sl x1.2.2.aa.length 4 (ai.l x1.2.2.aa))::(eZ,.sl x1.2.2.ae.length 1 (af.l x1.2.2.ae))::(dX,.ob [af.fz dR])::L):=Has.del o6 4
 have o8:Has h5 ((aq,.ob [.bool x1.2.2.ak,.rs dQ 0 x1.2.2.aa.length 4,.rs eZ 0 x1.2.2.ae.length 1])::(dQ,.sl x1.2.2.aa.length 4 (ai.l x1.2.2.aa))::(eZ,.sl x1.2.2.ae.length 1 (af.l x1.2.2.ae))::L):=Has.del o7 3
 obtain rfl:=oi H
 exact qt <| ⟨.inl rfl,⟨dQ,eZ,by kernel_rfl,he o8⟩⟩
end
end Go.Proofs.Ytifafejidnjckaa
namespace Go.Proofs.Ytifafejidnjckaa
open Go Go.R
open Go.IntKind (i64 u64 u8 u32)
def CD:bY:=gK [0,1] [] [2,1] [] []
def dL.f (m:Nat)(x0:ByteArray):Option (Bool):=(fY.f m x0).bind fun x1=>some x1
def dL.fin (L:Mem)(r:Bool)(s:St):Prop:=∃av,aM Try.prog (s.open CD) Try.f49.results.toList=some av∧fj s.h av (.bool r)
def TA (cf:CallF)(m:Nat):Prop:=∀(x0:ByteArray) (r:Bool),dL.f m x0=some r→∀h xs,aQ bJ h xs [.fp [.str x0] 0]→cf 49 xs h=some (.bool r,h)
section
variable {cf:CallF}{m:Nat}
theorem lF {aW:FuncId→bY}(ha:aW 49=CD)(qG:OE cf m)(x0:ByteArray)(h:AHeap)(L:Mem)  (o:Has h (L)){out:Bool}(H:dL.f m x0=some out) :
  ∃r h',bb Try.prog aW cf m 49 [.fp [.str x0] 0] h=some (r,h')∧fj h' r (.bool out):=by
 refine ar (fn:=Try.f49) ha Try.func49 (by kernel_rfl) (by kernel_rfl) ?_
 refine aG (Q:=fun s=>dL.fin L out s) (fun _ _ h=>h) ?_
 have H:_=some out:=H
 unfold dL.f at H
 show dy _ cf CD m _ ⟨[.fp [.str x0] 0,.any],[],h⟩ _
 refine q1 <| qq ?_
 obtain⟨x1,e0,H⟩:=bj H
 obtain rfl:=oi H
 exact qr [.a 1 (qG _ _ e0 h _ (fq (ah (cq) (aw))))] <| qt <| ⟨.inl rfl,cX (.bool x1) h (cV (aA))⟩
end
end Go.Proofs.Ytifafejidnjckaa
namespace Go.Proofs.Ytifafejidnjckaa
open Go Go.R
open Go.IntKind (i64 u64 u8 u32)
def CE:bY:=gK [0,1,2,3] [2] [9,7] [] []
def gA.f (m:Nat)(n0:aj)(x0:bc):Option (Bool):=(iO.f m n0 (x0.nodes.length:Int)).bind fun x1=>some (!x1)
def gA.fin (L:Mem)(r:Bool)(s:St):Prop:=∃av,aM Try.prog (s.open CE) Try.f66.results.toList=some av∧fj s.h av (.bool r)
def TB (cf:CallF)(m:Nat):Prop:=∀(n0:aj) (x0:bc) (r:Bool),gA.f m n0 x0=some r→∀h xs,aQ bJ h xs [.agg [.int .i64 n0.kind,.int .i64 n0.int,.str n0.label,af.fz n0.args],.fp [ai.fz x0.nodes,.int .i64 x0.root] 0]→cf 66 xs h=some (.bool r,h)
section
variable {cf:CallF}{m:Nat}
theorem pQ {aW:FuncId→bY}(ha:aW 66=CE)(QP:Tv cf m)(n0:aj)(x0:bc)(h:AHeap)(L:Mem)  (o:Has h (L)){out:Bool}(H:gA.f m n0 x0=some out) :
  ∃r h',bb Try.prog aW cf m 66 [.agg [.int .i64 n0.kind,.int .i64 n0.int,.str n0.label,af.fz n0.args],.fp [ai.fz x0.nodes,.int .i64 x0.root] 0] h=some (r,h')∧fj h' r (.bool out):=by
 refine ar (fn:=Try.f66) ha Try.func66 (by kernel_rfl) (by kernel_rfl) ?_
 refine aG (Q:=fun s=>gA.fin L out s) (fun _ _ h=>h) ?_
 have H:_=some out:=H
 unfold gA.f at H
 show dy _ cf CE m _ ⟨[.agg [.int .i64 n0.kind,.int .i64 n0.int,.str n0.label,af.fz n0.args],.fp [ai.fz x0.nodes,.int .i64 x0.root] 0,.any,.any],[none],h⟩ _
 refine q1 <| qq ?_
 obtain⟨x1,e0,H⟩:=bj H
 obtain rfl:=oi H
 exact qr [.a 4 (QP _ _ _ e0 h _ (fq (ah (eh (ah (aT) (ah (aT) (ah (cq) (ah (dW (E:=af)) (aw)))))) (ah (aT) (aw)))))] <| qt <| ⟨.inl rfl,cX (.bool (!x1)) h (cV (aA))⟩
end
end Go.Proofs.Ytifafejidnjckaa
namespace Go.Proofs.Ytifafejidnjckaa
open Go Go.R
open Go.IntKind (i64 u64 u8 u32)
def CF:bY:=gK [0,1,2,3,4] [2,3] [19,15] [] []
def dJ.f (m:Nat)(m0:aj)(n0:aj):Option (Bool):=(dj.f m m0 n0).bind fun x0=>if (x0==(0:Int))=true then ((bG.f m m0.args n0.args).bind fun x1=>some x1) else (some false)
def dJ.fin (L:Mem)(r:Bool)(s:St):Prop:=∃av,aM Try.prog (s.open CF) Try.f69.results.toList=some av∧fj s.h av (.bool r)
def TC (cf:CallF)(m:Nat):Prop:=∀(m0:aj) (n0:aj) (r:Bool),dJ.f m m0 n0=some r→∀h xs,aQ bJ h xs [.agg [.int .i64 m0.kind,.int .i64 m0.int,.str m0.label,af.fz m0.args],.agg [.int .i64 n0.kind,.int .i64 n0.int,.str n0.label,af.fz n0.args]]→cf 69 xs h=some (.bool r,h)
section
variable {cf:CallF}{m:Nat}
theorem pR {aW:FuncId→bY}(ha:aW 69=CF)(zb:NA cf m)(QQ:Ta cf m)(m0:aj)(n0:aj)(h:AHeap)(L:Mem)  (o:Has h (L)){out:Bool}(H:dJ.f m m0 n0=some out) :
  ∃r h',bb Try.prog aW cf m 69 [.agg [.int .i64 m0.kind,.int .i64 m0.int,.str m0.label,af.fz m0.args],.agg [.int .i64 n0.kind,.int .i64 n0.int,.str n0.label,af.fz n0.args]] h=some (r,h')∧fj h' r (.bool out):=by
 refine ar (fn:=Try.f69) ha Try.func69 (by kernel_rfl) (by kernel_rfl) ?_
 refine aG (Q:=fun s=>dJ.fin L out s) (fun _ _ h=>h) ?_
 have H:_=some out:=H
 unfold dJ.f at H
 show dy _ cf CF m _ ⟨.agg [.int .i64 m0.kind,.int .i64 m0.int,.str m0.label,af.fz m0.args] :: .agg [.int .i64 n0.kind,.int .i64 n0.int,.str n0.label,af.fz n0.args]::nS [],[none,none],h⟩ _
 refine q1 <| qq ?_
 obtain⟨x0,e0,H⟩:=bj H
 rcases ig H with⟨c0,H⟩| ⟨c0,H⟩
 ·obtain⟨x1,e1,H⟩:=bj H
  obtain rfl:=oi H
  exact qr [.a 2 (zb _ _ _ e0 h _ (fq (ah (eh (ah (aT) (ah (aT) (ah (cq) (ah (dW (E:=af)) (aw)))))) (ah (eh (ah (aT) (ah (aT) (ah (cq) (ah (dW (E:=af)) (aw)))))) (aw))))),.b 4 c0,.a 9 (QQ _ _ _ e1 h _ (fq (ah (dW (E:=af)) (ah (dW (E:=af)) (aw)))))] <| qt <| ⟨.inl rfl,cX (.bool x1) h (cV (aA))⟩
 ·obtain rfl:=oi H
  exact qr [.a 2 (zb _ _ _ e0 h _ (fq (ah (eh (ah (aT) (ah (aT) (ah (cq) (ah (dW (E:=af)) (aw)))))) (ah (eh (ah (aT) (ah (aT) (ah (cq) (ah (dW (E:=af)) (aw)))))) (aw))))),.b 4 c0] <| qt <| ⟨.inl rfl,cX (.bool false) h (cV (aA))⟩
end
end Go.Proofs.Ytifafejidnjckaa
namespace Go.Proofs.Ytifafejidnjckaa
open Go Go.R
open Go.IntKind (i64 u64 u8 u32)
def tR:bY:=gK [0,1,2,6,7,8,9,13,30,35,54] [] [2032,1984,1856,2000,1984,1984,2032,1776,1984,1472,2000,1984,1984,1952,928,2032,2032] [] []
def bV.l0 (m:Nat)(n0:Int)(aX:Int→Int→Option (Int)):Nat→(List Int)→Int→Int→Option ((List Int) × Int × Int)
 | 0,_,_,_=>none
 | k+1,bB,a0,b0=>if (decide (b0≤n0))=true then ((aZ.f m bB a0 b0 aX).bind fun x0=>bV.l0 m n0 aX k x0 b0 (i64.wrap (b0+(20:Int)))) else (some ((bB,a0,b0)))
def bV.l2 (m:Nat)(n0:Int)(aX:Int→Int→Option (Int))(br:Int):Nat→(List Int)→Int→Int→Option ((List Int) × Int × Int)
 | 0,_,_,_=>none
 | k+1,jO,a2,b2=>if (decide (b2≤n0))=true then ((aL.f m m jO a2 (i64.wrap (a2+br)) b2 aX).bind fun x2=>bV.l2 m n0 aX br k x2 b2 (i64.wrap (b2+i64.wrap ((2:Int)*br)))) else (some ((jO,a2,b2)))
def bV.l1 (m:Nat)(n0:Int)(aX:Int→Int→Option (Int)):Nat→(List Int)→Int→Option ((List Int) × Int)
 | 0,_,_=>none
 | k+1,er,br=>if (decide (br<n0))=true then ((bV.l2 m n0 aX br m er (0:Int) (i64.wrap ((2:Int)*br))).bind fun cw=>match cw with | (lE,a3,b3)=>if (decide ((i64.wrap (a3+br))<n0))=true then ((aL.f m m lE a3 (i64.wrap (a3+br)) n0 aX).bind fun x3=>bV.l1 m n0 aX k x3 (i64.wrap (br*(2:Int)))) else (bV.l1 m n0 aX k lE (i64.wrap (br*(2:Int))))) else (some ((er,br)))
def bV.f (m:Nat)(ax:List Int)(n0:Int)(aX:Int→Int→Option (Int)):Option ((List Int)):=(bV.l0 m n0 aX m ax (0:Int) (20:Int)).bind fun bQ=>match bQ with | (dC,a1,b1)=>(aZ.f m dC a1 n0 aX).bind fun x1=>(bV.l1 m n0 aX m x1 (20:Int)).bind fun km=>match km with | (pO,AS)=>some pO
def bV.fin (L:Mem)(aH:Nat)(ax:List Int)(n0:Int)(aX:Int→Int→Option (Int))(r:(List Int))(s:St):Prop:=aM Try.prog (s.open tR) Try.f99.results.toList=some (.tup [])∧Has s.h ((aH,.sl ax.length 1 (af.l r))::L)
def TD (cf:CallF)(m:Nat):Prop:=∀(ax:List Int) (n0:Int) (aX:Int→Int→Option (Int)) (r:(List Int)),bV.f m ax n0 aX=some r→∀h L (cH:Nat) (aH:Nat),Has h ((aH,.sl cH 1 (af.l ax))::L)→∀(jk:FuncId) (bZ dv:List AV),(aO (.fn jk bZ) = .fn jk bZ)→(∀(h:AHeap) (xs:List AV) (a0:Int) (a1:Int) r,aX a0 a1=some r→aQ bJ h xs ([.int .i64 a0,.int .i64 a1]++dv)→cf jk xs h=some (.int .i64 r,h))→(∀h K,Has h (K++(L))→aQ cz h bZ dv)→(∀h,aQ cz h dv dv)→∀xs,xs.map aO=[.rs aH 0 cH 1,.int .i64 n0,.fn jk bZ]→∃h',cf 99 xs h=some (.tup [],h')∧Has h' ((aH,.sl cH 1 (af.l r))::L)
section
variable {cf:CallF}{m:Nat}
theorem bV.cO (L:Mem)(aH:Nat)(jk:FuncId)(bZ dv:List AV)(ax:List Int)(n0:Int)(aX:Int→Int→Option (Int))  (n9:aO (.fn jk bZ) = .fn jk bZ)(mH:∀(h:AHeap) (xs:List AV) (a0:Int) (a1:Int) r,aX a0 a1=some r→aQ bJ h xs ([.int .i64 a0,.int .i64 a1]++dv)→cf jk xs h=some (.int .i64 r,h))(rU:∀h K,Has h (K++(L))→aQ cz h bZ dv)(mI:∀h,aQ cz h dv dv)(CG:KM cf m):dF Try.prog cf tR m (sub [1,1,0,0,0] (bW Try.f99)) (fun k (σ:(List Int) × Int × Int)=>bV.l0 m n0 aX k σ.1 σ.2.1 σ.2.2) (fun σ s=>match σ with | (bB,a0,b0)=>∃h0,s=⟨.rs aH 0 ax.length 1 :: .int .i64 n0 :: .fn jk bZ :: .int .i64 (20:Int) :: .int .i64 a0 :: .int .i64 b0::Aw [],[],h0⟩∧Has h0 ((aH,.sl ax.length 1 (af.l bB))::L)) (fun out e s=>(e = .exit 0∧∃bB a0 b0,(bB,a0,b0)=out∧∃AF tE h0,s=⟨.rs aH 0 ax.length 1 :: .int .i64 n0 :: .fn jk bZ :: .int .i64 (20:Int) :: .int .i64 a0::AF :: .any::tE::nS [],[],h0⟩∧Has h0 ((aH,.sl ax.length 1 (af.l bB))::L))):=by
 refine k8 (fun _=>rfl) ?_
 rintro k ⟨bB,a0,b0⟩ s out ⟨h0,rfl,o0⟩ H
 have H:bV.l0 m n0 aX (k+1) bB a0 b0=some out:=H
 refine qq <| qq <| q0 <| qc H (fun c0 H=>?_) (fun c0 H=>?_)
 ·refine qk <| qb 1 <| qq ?_
  obtain⟨x0,e0,H⟩:=bj H
  obtain⟨h1,e1,o1⟩:=CG _ _ _ _ _ e0 h0 _ _ _ (o0) jk bZ dv n9 mH (fun h' K' o'=>rU h' (K'++[]) (by simpa only [X3,Yq,Yr] using o')) mI [.rs aH 0 ax.length 1,.int .i64 a0,.int .i64 b0,.fn jk bZ] (au (rfl) (au (aP (bu)) (au (aP (bu)) (au (n9) (bN)))))
  exact qr [.a 4 e1] <| qq <| q0 <| q0 <| ⟨(x0,b0,i64.wrap (b0+(20:Int))),⟨h1,by kernel_rfl,o1⟩,H⟩
 ·exact qx 0 <| ⟨rfl,bB,a0,b0,oi H,.int .i64 b0,.bool (decide (b0≤n0)),h0,by kernel_rfl,o0⟩
theorem bV.pP (L:Mem)(aH:Nat)(jk:FuncId)(bZ dv:List AV)(ax:List Int)(n0:Int)(aX:Int→Int→Option (Int))(br:Int)  (n9:aO (.fn jk bZ) = .fn jk bZ)(mH:∀(h:AHeap) (xs:List AV) (a0:Int) (a1:Int) r,aX a0 a1=some r→aQ bJ h xs ([.int .i64 a0,.int .i64 a1]++dv)→cf jk xs h=some (.int .i64 r,h))(rU:∀h K,Has h (K++(L))→aQ cz h bZ dv)(mI:∀h,aQ cz h dv dv)(iZ:uP cf m m):dF Try.prog cf tR m (sub [1,1,1,1,0,0,1,0,1,0,0,0] (bW Try.f99)) (fun k (σ:(List Int) × Int × Int)=>bV.l2 m n0 aX br k σ.1 σ.2.1 σ.2.2) (fun σ s=>match σ with | (jO,a2,b2)=>∃h5,s=⟨.rs aH 0 ax.length 1 :: .int .i64 n0 :: .fn jk bZ :: .int .i64 br :: .int .i64 a2 :: .int .i64 b2::Aw [],[],h5⟩∧Has h5 ((aH,.sl ax.length 1 (af.l jO))::L)) (fun out e s=>(e = .exit 4∧∃jO a2 b2,(jO,a2,b2)=out∧∃AF Lg h5,s=⟨.rs aH 0 ax.length 1 :: .int .i64 n0 :: .fn jk bZ :: .int .i64 br :: .int .i64 a2::AF::nS [Lg,.any],[],h5⟩∧Has h5 ((aH,.sl ax.length 1 (af.l jO))::L))):=by
 refine k8 (fun _=>rfl) ?_
 rintro k ⟨jO,a2,b2⟩ s out ⟨h5,rfl,o5⟩ H
 have H:bV.l2 m n0 aX br (k+1) jO a2 b2=some out:=H
 refine qq <| qq <| q0 <| qc H (fun c2 H=>?_) (fun c2 H=>?_)
 ·refine qk <| qb 5 <| qq ?_
  obtain⟨x2,e5,H⟩:=bj H
  obtain⟨h6,e6,o6⟩:=iZ _ _ _ _ _ _ e5 h5 _ _ _ (o5) jk bZ dv n9 mH (fun h' K' o'=>rU h' (K'++[]) (by simpa only [X3,Yq,Yr] using o')) mI [.rs aH 0 ax.length 1,.int .i64 a2,.int .i64 (i64.wrap (a2+br)),.int .i64 b2,.fn jk bZ] (au (rfl) (au (aP (bu)) (au (aP (bu)) (au (aP (bu)) (au (n9) (bN))))))
  exact qr [.a 7 e6] <| qq <| q0 <| q0 <| ⟨(x2,b2,i64.wrap (b2+i64.wrap ((2:Int)*br))),⟨h6,by kernel_rfl,o6⟩,H⟩
 ·exact qx 4 <| ⟨rfl,jO,a2,b2,oi H,.int .i64 b2,.bool (decide (b2≤n0)),h5,by kernel_rfl,o5⟩
theorem bV.ko (L:Mem)(aH:Nat)(jk:FuncId)(bZ dv:List AV)(ax:List Int)(n0:Int)(aX:Int→Int→Option (Int))  (n9:aO (.fn jk bZ) = .fn jk bZ)(mH:∀(h:AHeap) (xs:List AV) (a0:Int) (a1:Int) r,aX a0 a1=some r→aQ bJ h xs ([.int .i64 a0,.int .i64 a1]++dv)→cf jk xs h=some (.int .i64 r,h))(rU:∀h K,Has h (K++(L))→aQ cz h bZ dv)(mI:∀h,aQ cz h dv dv)(iZ:uP cf m m):dF Try.prog cf tR m (sub [1,1,1,1,0,0] (bW Try.f99)) (fun k (σ:(List Int) × Int)=>bV.l1 m n0 aX k σ.1 σ.2) (fun σ s=>match σ with | (er,br)=>∃h4,s=⟨.rs aH 0 ax.length 1 :: .int .i64 n0 :: .fn jk bZ :: .int .i64 br::FE [],[],h4⟩∧Has h4 ((aH,.sl ax.length 1 (af.l er))::L)) (fun out e s=>(e = .exit 2∧∃er br,(er,br)=out∧∃nr w6 KH FY Gd h4,s=⟨nr::w6::KH::FY::nZ [Gd,.any,.any],[],h4⟩∧Has h4 ((aH,.sl ax.length 1 (af.l er))::L))):=by
 refine k8 (fun _=>rfl) ?_
 rintro k ⟨er,br⟩ s out ⟨h4,rfl,o4⟩ H
 have H:bV.l1 m n0 aX (k+1) er br=some out:=H
 refine qq <| qq <| q0 <| qc H (fun c1 H=>?_) (fun c1 H=>?_)
 ·refine qk <| qb 3 <| qq <| q0 <| qq <| qb 4 ?_
  obtain⟨cw,e7,H⟩:=bj H
  refine ql (bV.pP L aH jk bZ dv ax n0 aX br  n9 mH rU mI iZ (er,(0:Int),i64.wrap ((2:Int)*br)) _ _ ⟨h4,by kernel_rfl,o4⟩ e7) ?_
  rintro e s ⟨rfl,lE,a3,b3,rfl,g2,g3,h7,rfl,o7⟩
  try dsimp only at H
  refine qq <| qq <| q0 <| qq <| q0 <| qc H (fun c3 H=>?_) (fun c3 H=>?_)
  ·obtain⟨x3,e8,H⟩:=bj H
   obtain⟨h8,e9,o8⟩:=iZ _ _ _ _ _ _ e8 h7 _ _ _ (o7) jk bZ dv n9 mH (fun h' K' o'=>rU h' (K'++[]) (by simpa only [X3,Yq,Yr] using o')) mI [.rs aH 0 ax.length 1,.int .i64 a3,.int .i64 (i64.wrap (a3+br)),.int .i64 n0,.fn jk bZ] (au (rfl) (au (aP (bu)) (au (aP (bu)) (au (aP (bu)) (au (n9) (bN))))))
   exact qr [.a 5 e9] <| q0 <| ⟨(x3,i64.wrap (br*(2:Int))),⟨h8,by kernel_rfl,o8⟩,H⟩
  ·exact qk <| q0 <| ⟨(lE,i64.wrap (br*(2:Int))),⟨h7,by kernel_rfl,o7⟩,H⟩
 ·exact qx 2 <| ⟨rfl,er,br,oi H,.rs aH 0 ax.length 1,.int .i64 n0,.fn jk bZ,.int .i64 br,.bool (decide (br<n0)),h4,by kernel_rfl,o4⟩
theorem xh {aW:FuncId→bY}(ha:aW 99=tR)(CG:KM cf m)(iZ:uP cf m m)(ax:List Int)(n0:Int)(aX:Int→Int→Option (Int))(h:AHeap)(L:Mem)(aH:Nat)(jk:FuncId)(bZ dv:List AV)  (n9:aO (.fn jk bZ) = .fn jk bZ)(mH:∀(h:AHeap) (xs:List AV) (a0:Int) (a1:Int) r,aX a0 a1=some r→aQ bJ h xs ([.int .i64 a0,.int .i64 a1]++dv)→cf jk xs h=some (.int .i64 r,h))(rU:∀h K,Has h (K++(L))→aQ cz h bZ dv)(mI:∀h,aQ cz h dv dv)(o:Has h ((aH,.sl ax.length 1 (af.l ax))::L)){out:(List Int)}(H:bV.f m ax n0 aX=some out) :
  ∃r h',bb Try.prog aW cf m 99 [.rs aH 0 ax.length 1,.int .i64 n0,.fn jk bZ] h=some (r,h')∧r = .tup []∧Has h' ((aH,.sl ax.length 1 (af.l out))::L):=by
 refine ar (fn:=Try.f99) ha Try.func99 (by kernel_rfl) (by kernel_rfl) ?_
 refine aG (Q:=fun s=>bV.fin L aH ax n0 aX out s) (fun _ _ ⟨h1,h2,h3⟩=>⟨h1,_,h2,rfl,h3⟩) ?_
 have H:_=some out:=H
 unfold bV.f at H
 show dy _ cf tR m _ ⟨.rs aH 0 ax.length 1 :: .int .i64 n0 :: .fn jk bZ::vj [],[],h⟩ _
 refine q1 <| qq <| q0 <| qq <| qb 0 ?_
 obtain⟨bQ,e2,H⟩:=bj H
 refine ql (bV.cO L aH jk bZ dv ax n0 aX  n9 mH rU mI CG (ax,(0:Int),(20:Int)) _ _ ⟨h,by kernel_rfl,o⟩ e2) ?_
 rintro e s ⟨rfl,dC,a1,b1,rfl,g0,g1,h2,rfl,o2⟩
 try dsimp only at H
 refine qq ?_
 obtain⟨x1,e3,H⟩:=bj H
 obtain⟨h3,e4,o3⟩:=CG _ _ _ _ _ e3 h2 _ _ _ (o2) jk bZ dv n9 mH (fun h' K' o'=>rU h' (K'++[]) (by simpa only [X3,Yq,Yr] using o')) mI [.rs aH 0 ax.length 1,.int .i64 a1,.int .i64 n0,.fn jk bZ] (au (rfl) (au (aP (bu)) (au (aP (bu)) (au (n9) (bN)))))
 refine qr [.a 4 e4] <| qb 2 ?_
 obtain⟨km,rv,H⟩:=bj H
 refine ql (bV.ko L aH jk bZ dv ax n0 aX  n9 mH rU mI iZ (x1,(20:Int)) _ _ ⟨h3,by kernel_rfl,o3⟩ rv) ?_
 rintro e s ⟨rfl,pO,AS,rfl,g4,g5,g6,g7,g8,h9,rfl,o9⟩
 try dsimp only at H
 obtain rfl:=oi H
 exact⟨.inr rfl,⟨by kernel_rfl,he o9⟩⟩
end
end Go.Proofs.Ytifafejidnjckaa
namespace Go.Proofs.Ytifafejidnjckaa
open Go Go.R
open Go.IntKind (i64 u64 u8 u32)
end Go.Proofs.Ytifafejidnjckaa
namespace Go.Proofs.Ytifafejidnjckaa
open Go Go.R
open Go.IntKind (i64 u64 u8 u32)
end Go.Proofs.Ytifafejidnjckaa
namespace Go.Proofs.Ytifafejidnjckaa
open Go Go.R
open Go.IntKind (i64 u64 u8 u32)
def gX.l0 (m:Nat)(s0:ab):Nat→(List Int)→Int→Option ((List Int) × Int)
 | 0,_,_=>none
 | k+1,bQ,n0=>(bS.f m s0).bind fun x0=>if (decide (n0<x0))=true then ((dI.f m s0 n0).bind fun x1=>if (!(x1.2==(0:Int)))=true then ((app 8 bQ ([(-1:Int)])).bind fun x2=>gX.l0 m s0 k x2 (i64.wrap (n0+(1:Int)))) else ((app 8 bQ ([x1.1])).bind fun x3=>gX.l0 m s0 k x3 (i64.wrap (n0+(1:Int))))) else (some ((bQ,n0)))
def gX.f (m:Nat)(s0:ab):Option ((List Int)):=(gX.l0 m s0 m ([]:List Int) (0:Int)).bind fun km=>match km with | (cw,n1)=>some cw
end Go.Proofs.Ytifafejidnjckaa
namespace Go.Proofs.Ytifafejidnjckaa
open Go Go.R
open Go.IntKind (i64 u64 u8 u32)
def CH:bY:=gK [0,1,3,4,5] [] [26,7] [] []
def eL.f (m:Nat)(s0:ab)(a0:ByteArray):Option (Int × Int × ab):=(cm.f m s0 (dL.f m a0) (aj.mk (2:Int) (0:Int) a0 ([]))).bind fun x0=>some (x0.1,x0.2.1,x0.2.2)
def eL.fin (L:Mem)(aq:Nat)(an:Nat)(ao:Nat)(s0:ab)(a0:ByteArray)(r:Int × Int × ab)(s:St):Prop:=∃aD aE:Nat,aM Try.prog (s.open CH) Try.f28.results.toList=some (.tup [.int .i64 r.1,.int .i64 r.2.1])∧Has s.h ((aq,.ob [.bool r.2.2.ak,.rs aD 0 r.2.2.aa.length 4,.rs aE 0 r.2.2.ae.length 1])::(aD,.sl r.2.2.aa.length 4 (ai.l r.2.2.aa))::(aE,.sl r.2.2.ae.length 1 (af.l r.2.2.ae))::L)
def TE (cf:CallF)(m:Nat):Prop:=∀(s0:ab) (a0:ByteArray) (r:Int × Int × ab),eL.f m s0 a0=some r→∀h L (aq:Nat) (an:Nat) (ao:Nat),Has h ((aq,.ob [.bool s0.ak,.rs an 0 s0.aa.length 4,.rs ao 0 s0.ae.length 1])::(an,.sl s0.aa.length 4 (ai.l s0.aa))::(ao,.sl s0.ae.length 1 (af.l s0.ae))::L)→∀xs,xs.map aO=[.ptr aq 0,.str a0]→∃aD aE h',cf 28 xs h=some (.tup [.int .i64 r.1,.int .i64 r.2.1],h')∧Has h' ((aq,.ob [.bool r.2.2.ak,.rs aD 0 r.2.2.aa.length 4,.rs aE 0 r.2.2.ae.length 1])::(aD,.sl r.2.2.aa.length 4 (ai.l r.2.2.aa))::(aE,.sl r.2.2.ae.length 1 (af.l r.2.2.ae))::L)
section
variable {cf:CallF}{m:Nat}
theorem mO {aW:FuncId→bY}(ha:aW 28=CH)(xd:Ma cf m)(QR:TA cf m)(s0:ab)(a0:ByteArray)(h:AHeap)(L:Mem)(aq:Nat)(an:Nat)(ao:Nat)  (o:Has h ((aq,.ob [.bool s0.ak,.rs an 0 s0.aa.length 4,.rs ao 0 s0.ae.length 1])::(an,.sl s0.aa.length 4 (ai.l s0.aa))::(ao,.sl s0.ae.length 1 (af.l s0.ae))::L)){out:Int × Int × ab}(H:eL.f m s0 a0=some out) :
  ∃r h',bb Try.prog aW cf m 28 [.ptr aq 0,.str a0] h=some (r,h')∧∃aD aE:Nat,r = .tup [.int .i64 out.1,.int .i64 out.2.1]∧Has h' ((aq,.ob [.bool out.2.2.ak,.rs aD 0 out.2.2.aa.length 4,.rs aE 0 out.2.2.ae.length 1])::(aD,.sl out.2.2.aa.length 4 (ai.l out.2.2.aa))::(aE,.sl out.2.2.ae.length 1 (af.l out.2.2.ae))::L):=by
 refine ar (fn:=Try.f28) ha Try.func28 (by kernel_rfl) (by kernel_rfl) ?_
 refine aG (Q:=fun s=>eL.fin L aq an ao s0 a0 out s) (fun _ _ ⟨h1,aD,aE,h2,h3⟩=>⟨h1,_,h2,aD,aE,rfl,h3⟩) ?_
 have H:_=some out:=H
 unfold eL.f at H
 show dy _ cf CH m _ ⟨.ptr aq 0 :: .str a0::nS [],[],h⟩ _
 refine qq ?_
 obtain⟨aH,h0,e0,o0⟩:=gL (cs:=[.str a0]) o (by kernel_rfl)
 refine qr [.a 0 e0] <| qq ?_
 obtain⟨x0,e1,H⟩:=bj H
 obtain⟨ck,dX,h1,e2,o1⟩:=xd _ _ _ _ e1 h0 _ _ _ _ ((Has.front (Has.front (Has.front (Has.front o0 0 rfl) 3 rfl) 3 rfl) 3 rfl)) 49 [.ptr aH 0] [.fp [.str a0] 0] rfl (fun h' tH  r hr hx=>QR _ r hr h' tH hx) (fun h' K' o'=>iX (ah (dV (q:=(K'.length+3)) o' (jH rfl) (ah (cq) (aw))) (aw))) (fun h_=>iX (ah (fh (pure_cons (nk) (pure_nil))) (aw))) [.ptr aq 0,.fn 49 [.ptr aH 0],.agg [.int .i64 (2:Int),.int .i64 (0:Int),.str a0,.nils]] (au (rfl) (au (rfl) (au (aP (oN (cN (bu) (cN (bu) (cN (lZ) (cN (sh (E:=af)) (oM))))))) (bN))))
 refine qr [.v 2 (show bC Try.prog h0 9 (.ptr aH 0)=some (.str a0) from cj (q:=0) (cs:=[.str a0]) o0 rfl (by kernel_rfl)),.a 4 e2] ?_
 have o2:Has h1 ((aq,.ob [.bool x0.2.2.ak,.rs ck 0 x0.2.2.aa.length 4,.rs dX 0 x0.2.2.ae.length 1])::(ck,.sl x0.2.2.aa.length 4 (ai.l x0.2.2.aa))::(dX,.sl x0.2.2.ae.length 1 (af.l x0.2.2.ae))::L):=Has.del o1 3
 obtain rfl:=oi H
 exact qt <| ⟨.inl rfl,⟨ck,dX,by kernel_rfl,he o2⟩⟩
end
end Go.Proofs.Ytifafejidnjckaa
namespace Go.Proofs.Ytifafejidnjckaa
open Go Go.R
open Go.IntKind (i64 u64 u8 u32)
def CI:bY:=gK [0,1,2] [] [5,3] [] []
def fO.f (m:Nat)(t0:bc):Option (Bool):=if (decide ((t0.nodes.length:Int)≥(1:Int)))=true then (if (decide ((t0.nodes.length:Int)≤(8000:Int)))=true then (if (decide (t0.root≥(0:Int)))=true then (if (decide (t0.root<(t0.nodes.length:Int)))=true then ((gW.f m t0.nodes (fun y0=>gA.f m y0 t0)).bind fun x0=>some (!x0)) else (some false)) else (some false)) else (some false)) else (some false)
def fO.fin (L:Mem)(r:Bool)(s:St):Prop:=∃av,aM Try.prog (s.open CI) Try.f44.results.toList=some av∧fj s.h av (.bool r)
def QS (cf:CallF)(m:Nat):Prop:=∀(t0:bc) (r:Bool),fO.f m t0=some r→∀h xs,aQ bJ h xs [.agg [ai.fz t0.nodes,.int .i64 t0.root]]→cf 44 xs h=some (.bool r,h)
section
variable {cf:CallF}{m:Nat}
theorem rV {aW:FuncId→bY}(ha:aW 44=CI)(QT:To cf m)(QU:TB cf m)(t0:bc)(h:AHeap)(L:Mem)  (o:Has h (L)){out:Bool}(H:fO.f m t0=some out) :
  ∃r h',bb Try.prog aW cf m 44 [.agg [ai.fz t0.nodes,.int .i64 t0.root]] h=some (r,h')∧fj h' r (.bool out):=by
 refine ar (fn:=Try.f44) ha Try.func44 (by kernel_rfl) (by kernel_rfl) ?_
 refine aG (Q:=fun s=>fO.fin L out s) (fun _ _ h=>h) ?_
 have H:_=some out:=H
 unfold fO.f at H
 show dy _ cf CI m _ ⟨[.agg [ai.fz t0.nodes,.int .i64 t0.root],.any,.any],[],h⟩ _
 refine qq ?_
 obtain⟨aH,h0,e0,o0⟩:=gL (cs:=[ai.fz t0.nodes,.int .i64 t0.root]) o (by kernel_rfl)
 refine qr [.a 0 e0] <| qq ?_
 rcases ig H with⟨c0,H⟩| ⟨c0,H⟩
 ·rcases ig H with⟨c1,H⟩| ⟨c1,H⟩
  ·rcases ig H with⟨c2,H⟩| ⟨c2,H⟩
   ·rcases ig H with⟨c3,H⟩| ⟨c3,H⟩
    ·obtain⟨x0,e1,H⟩:=bj H
     refine qr [.v 1 (show bC Try.prog h0 40 (.ptr aH 0)=some (ai.fz t0.nodes) from cj (q:=0) (cs:=[ai.fz t0.nodes,.int .i64 t0.root]) o0 rfl (by kernel_rfl)),.b 4 c0,.v 6 (show bC Try.prog h0 40 (.ptr aH 0)=some (ai.fz t0.nodes) from cj (q:=0) (cs:=[ai.fz t0.nodes,.int .i64 t0.root]) o0 rfl (by kernel_rfl)),.b 10 c1,.v 12 (show bC Try.prog h0 3 (.ptr aH 1)=some (.int .i64 t0.root) from cj (q:=0) (cs:=[ai.fz t0.nodes,.int .i64 t0.root]) o0 rfl (by kernel_rfl)),.b 15 c2,.v 17 (show bC Try.prog h0 3 (.ptr aH 1)=some (.int .i64 t0.root) from cj (q:=0) (cs:=[ai.fz t0.nodes,.int .i64 t0.root]) o0 rfl (by kernel_rfl)),.v 19 (show bC Try.prog h0 40 (.ptr aH 0)=some (ai.fz t0.nodes) from cj (q:=0) (cs:=[ai.fz t0.nodes,.int .i64 t0.root]) o0 rfl (by kernel_rfl)),.b 23 c3,.v 25 (show bC Try.prog h0 40 (.ptr aH 0)=some (ai.fz t0.nodes) from cj (q:=0) (cs:=[ai.fz t0.nodes,.int .i64 t0.root]) o0 rfl (by kernel_rfl)),.a 27 (QT _ _ _ e1 66 [.fp [ai.fz t0.nodes,.int .i64 t0.root] 0] (fun h' tH y0 r hr hx=>QU y0 _ r hr h' tH hx) (fun h_=>iX (ah (fh (pure_cons (bK.bo (E:=ai) (l:=t0.nodes)) (pure_cons (gF) (pure_nil)))) (aw))) h0 _ (fq (ah (dW (E:=ai)) (ah (rq (ah (dV (q:=0) o0 rfl (ah (dW (E:=ai)) (ah (aT) (aw)))) (aw))) (aw)))))] ?_
     have o1:Has h0 (L):=Has.del o0 0
     obtain rfl:=oi H
     exact qt <| ⟨.inl rfl,cX (.bool (!x0)) h0 (cV (aA))⟩
    ·refine qr [.v 1 (show bC Try.prog h0 40 (.ptr aH 0)=some (ai.fz t0.nodes) from cj (q:=0) (cs:=[ai.fz t0.nodes,.int .i64 t0.root]) o0 rfl (by kernel_rfl)),.b 4 c0,.v 6 (show bC Try.prog h0 40 (.ptr aH 0)=some (ai.fz t0.nodes) from cj (q:=0) (cs:=[ai.fz t0.nodes,.int .i64 t0.root]) o0 rfl (by kernel_rfl)),.b 10 c1,.v 12 (show bC Try.prog h0 3 (.ptr aH 1)=some (.int .i64 t0.root) from cj (q:=0) (cs:=[ai.fz t0.nodes,.int .i64 t0.root]) o0 rfl (by kernel_rfl)),.b 15 c2,.v 17 (show bC Try.prog h0 3 (.ptr aH 1)=some (.int .i64 t0.root) from cj (q:=0) (cs:=[ai.fz t0.nodes,.int .i64 t0.root]) o0 rfl (by kernel_rfl)),.v 19 (show bC Try.prog h0 40 (.ptr aH 0)=some (ai.fz t0.nodes) from cj (q:=0) (cs:=[ai.fz t0.nodes,.int .i64 t0.root]) o0 rfl (by kernel_rfl)),.b 23 c3] ?_
     have o2:Has h0 (L):=Has.del o0 0
     obtain rfl:=oi H
     exact qt <| ⟨.inl rfl,cX (.bool false) h0 (cV (aA))⟩
   ·refine qr [.v 1 (show bC Try.prog h0 40 (.ptr aH 0)=some (ai.fz t0.nodes) from cj (q:=0) (cs:=[ai.fz t0.nodes,.int .i64 t0.root]) o0 rfl (by kernel_rfl)),.b 4 c0,.v 6 (show bC Try.prog h0 40 (.ptr aH 0)=some (ai.fz t0.nodes) from cj (q:=0) (cs:=[ai.fz t0.nodes,.int .i64 t0.root]) o0 rfl (by kernel_rfl)),.b 10 c1,.v 12 (show bC Try.prog h0 3 (.ptr aH 1)=some (.int .i64 t0.root) from cj (q:=0) (cs:=[ai.fz t0.nodes,.int .i64 t0.root]) o0 rfl (by kernel_rfl)),.b 15 c2] ?_
    have o3:Has h0 (L):=Has.del o0 0
    obtain rfl:=oi H
    exact qt <| ⟨.inl rfl,cX (.bool false) h0 (cV (aA))⟩
  ·refine qr [.v 1 (show bC Try.prog h0 40 (.ptr aH 0)=some (ai.fz t0.nodes) from cj (q:=0) (cs:=[ai.fz t0.nodes,.int .i64 t0.root]) o0 rfl (by kernel_rfl)),.b 4 c0,.v 6 (show bC Try.prog h0 40 (.ptr aH 0)=some (ai.fz t0.nodes) from cj (q:=0) (cs:=[ai.fz t0.nodes,.int .i64 t0.root]) o0 rfl (by kernel_rfl)),.b 10 c1] ?_
   have o4:Has h0 (L):=Has.del o0 0
   obtain rfl:=oi H
   exact qt <| ⟨.inl rfl,cX (.bool false) h0 (cV (aA))⟩
 ·refine qr [.v 1 (show bC Try.prog h0 40 (.ptr aH 0)=some (ai.fz t0.nodes) from cj (q:=0) (cs:=[ai.fz t0.nodes,.int .i64 t0.root]) o0 rfl (by kernel_rfl)),.b 4 c0] ?_
  have o5:Has h0 (L):=Has.del o0 0
  obtain rfl:=oi H
  exact qt <| ⟨.inl rfl,cX (.bool false) h0 (cV (aA))⟩
end
end Go.Proofs.Ytifafejidnjckaa
namespace Go.Proofs.Ytifafejidnjckaa
open Go Go.R
open Go.IntKind (i64 u64 u8 u32)
def CJ:bY:=gK [0,1,2,3,4] [2,3] [19,15] [] []
def gY.f (m:Nat)(a0:bc)(b0:bc):Option (Bool):=(aF.f m a0.nodes b0.nodes (fun y0 y1=>dJ.f m y0 y1)).bind fun x0=>some x0
def gY.fin (L:Mem)(r:Bool)(s:St):Prop:=∃av,aM Try.prog (s.open CJ) Try.f45.results.toList=some av∧fj s.h av (.bool r)
def TF (cf:CallF)(m:Nat):Prop:=∀(a0:bc) (b0:bc) (r:Bool),gY.f m a0 b0=some r→∀h xs,aQ bJ h xs [.agg [ai.fz a0.nodes,.int .i64 a0.root],.agg [ai.fz b0.nodes,.int .i64 b0.root]]→cf 45 xs h=some (.bool r,h)
section
variable {cf:CallF}{m:Nat}
theorem rW {aW:FuncId→bY}(ha:aW 45=CJ)(QV:S9 cf m)(QX:TC cf m)(a0:bc)(b0:bc)(h:AHeap)(L:Mem)  (o:Has h (L)){out:Bool}(H:gY.f m a0 b0=some out) :
  ∃r h',bb Try.prog aW cf m 45 [.agg [ai.fz a0.nodes,.int .i64 a0.root],.agg [ai.fz b0.nodes,.int .i64 b0.root]] h=some (r,h')∧fj h' r (.bool out):=by
 refine ar (fn:=Try.f45) ha Try.func45 (by kernel_rfl) (by kernel_rfl) ?_
 refine aG (Q:=fun s=>gY.fin L out s) (fun _ _ h=>h) ?_
 have H:_=some out:=H
 unfold gY.f at H
 show dy _ cf CJ m _ ⟨.agg [ai.fz a0.nodes,.int .i64 a0.root] :: .agg [ai.fz b0.nodes,.int .i64 b0.root]::nS [],[none,none],h⟩ _
 refine q1 <| qq ?_
 obtain⟨x0,e0,H⟩:=bj H
 obtain rfl:=oi H
 exact qr [.a 4 (QV _ _ _ _ e0 69 [] (fun h' tH y0 y1 r hr hx=>QX y0 y1 r hr h' tH hx) (fun h_=>iX (aw)) h _ (fq (ah (dW (E:=ai)) (ah (dW (E:=ai)) (ah (rq (aw)) (aw))))))] <| qt <| ⟨.inl rfl,cX (.bool x0) h (cV (aA))⟩
end
end Go.Proofs.Ytifafejidnjckaa
