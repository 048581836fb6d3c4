/- Part of the proof: Q61, Q67, Q70, Q84, Q86, Q87, Q88, Q91, Q104, Q106, Q16, Q20, Q23, Q24, Q34, Q49, Q66, Q69, Q99, Q103, Q13, Q15, Q28. -/
import Derived.Test.YtifafejidnjckaaK8
set_option linter.unusedVariables false
set_option linter.unusedSimpArgs false
set_option maxRecDepth 100000
open ByteArray renaming mk → aaq
open List renaming append_assoc → ZV, cons_append → aak, nil_append → aal
namespace Go.Proofs.Ytifafejidnjckaa
open Go Go.R
open Go.IntKind (i64 u64 u8 u32)
def C0:b9:=gW [0,1,2,3] [] [8,7] [] []
def dc.f (m:Nat)(x0:ByteArray)(x1:List Int)(x2:ab):Option (Bool):=(gv.f m x0).bind fun x3=>if x3=true then (if (decide ((x1.length:Int)≥(1:Int)))=true then (if (decide ((x1.length:Int)≤(8:Int)))=true then ((fu.f m x1 (fun y0=>dd.f m y0 x2)).bind fun x4=>some (!x4)) else (some false)) else (some false)) else (some false)
def dc.fin (L:Mem)(r:Bool)(s:St):Prop:=∃av,aO Try.prog (s.open C0) Try.f61.results.toList=some av∧fG s.h av (.bool r)
def UC (cf:CallF)(m:Nat):Prop:=∀(x0:ByteArray) (x1:List Int) (x2:ab) (r:Bool),dc.f m x0 x1 x2=some r→∀h xs,aU bR h xs [.fp [.str x0] 0,.fp [af.fz x1] 0,.fp [.fp [.bool x2.aj,ai.fz x2.aa,af.fz x2.ae] 0] 0]→cf 61 xs h=some (.bool r,h)
section
variable {cf:CallF}{m:Nat}
theorem lq {aY:FuncId→b9}(ha:aY 61=C0)(qS:Pc cf m)(GM:Pb cf m)(Rp:Uh cf m)(x0:ByteArray)(x1:List Int)(x2:ab)(h:AHeap)(L:Mem)  (o:Has h (L)){out:Bool}(H:dc.f m x0 x1 x2=some out) :
  ∃r h',bf Try.prog aY cf m 61 [.fp [.str x0] 0,.fp [af.fz x1] 0,.fp [.fp [.bool x2.aj,ai.fz x2.aa,af.fz x2.ae] 0] 0] h=some (r,h')∧fG h' r (.bool out):=by
 refine ar (fn:=Try.f61) ha Try.func61 (by kernel_rfl) (by kernel_rfl) ?_
 refine aH (Q:=fun s=>dc.fin L out s) (fun _ _ h=>h) ?_
 have H:_=some out:=H
 unfold dc.f at H
 show dK _ cf C0 m _ ⟨[.fp [.str x0] 0,.fp [af.fz x1] 0,.fp [.fp [.bool x2.aj,ai.fz x2.aa,af.fz x2.ae] 0] 0,.any],[],h⟩ _
 refine q1 <| qq ?_
 obtain⟨x3,e0,H⟩:=bj H
 rcases gS H with⟨c0,H⟩| ⟨c0,H⟩
 ·rcases gS H with⟨c1,H⟩| ⟨c1,H⟩
  ·rcases gS H with⟨c2,H⟩| ⟨c2,H⟩
   ·obtain⟨x4,e1,H⟩:=bj H
    obtain rfl:=oi H
    exact qr [.a 1 (qS _ _ e0 h _ (fw (ah (cK) (aw)))),.b 2 c0,.b 7 c1,.b 12 c2,.a 15 (GM _ _ _ e1 62 [.fp [.fp [.bool x2.aj,ai.fz x2.aa,af.fz x2.ae] 0] 0] (fun h' tS y0 r hr hx=>Rp y0 _ r hr h' tS hx) (fun h_=>jf (ah (fK (pure_cons (ml (pure_cons (cJ) (pure_cons (bQ.bA (E:=ai) (l:=x2.aa)) (pure_cons (bQ.bA (E:=af) (l:=x2.ae)) (pure_nil))))) (pure_nil))) (aw))) h _ (fw (ah (dU (E:=af)) (ah (rI (ah (fK (pure_cons (ml (pure_cons (cJ) (pure_cons (bQ.bA (E:=ai) (l:=x2.aa)) (pure_cons (bQ.bA (E:=af) (l:=x2.ae)) (pure_nil))))) (pure_nil))) (aw))) (aw)))))] <| qt <| ⟨.inl rfl,cV (.bool (!x4)) h (cP (az))⟩
   ·obtain rfl:=oi H
    exact qr [.a 1 (qS _ _ e0 h _ (fw (ah (cK) (aw)))),.b 2 c0,.b 7 c1,.b 12 c2] <| qt <| ⟨.inl rfl,cV (.bool false) h (cP (az))⟩
  ·obtain rfl:=oi H
   exact qr [.a 1 (qS _ _ e0 h _ (fw (ah (cK) (aw)))),.b 2 c0,.b 7 c1] <| qt <| ⟨.inl rfl,cV (.bool false) h (cP (az))⟩
 ·obtain rfl:=oi H
  exact qr [.a 1 (qS _ _ e0 h _ (fw (ah (cK) (aw)))),.b 2 c0] <| qt <| ⟨.inl rfl,cV (.bool false) h (cP (az))⟩
end
end Go.Proofs.Ytifafejidnjckaa
namespace Go.Proofs.Ytifafejidnjckaa
open Go Go.R
open Go.IntKind (i64 u64 u8 u32)
def C1:b9:=gW [0,1,2,3,4,6,7,23,44,60,89] [2] [2035,2003,1939,2031,1875,2031,1747,2031,1491,2031,1019,2031,2031] [] []
def iX.f (m:Nat)(n0:ak)(mM:Int):Option (Bool):=if (n0.kind==(0:Int))=true then (if (decide (n0.int≥(0:Int)))=true then (if (n0.label.data.toList==(aaq #[]).data.toList)=true then (some ((n0.args.length:Int)==(0:Int))) else (some false)) else (some false)) else (if (n0.kind==(1:Int))=true then (if (decide (n0.int≥(-1099511627776:Int)))=true then (if (decide (n0.int≤(1099511627776:Int)))=true then (if (n0.label.data.toList==(aaq #[]).data.toList)=true then (some ((n0.args.length:Int)==(0:Int))) else (some false)) else (some false)) else (some false)) else (if (n0.kind==(2:Int))=true then (if (n0.int==(0:Int))=true then ((gv.f m n0.label).bind fun x0=>if x0=true then (some ((n0.args.length:Int)==(0:Int))) else (some false)) else (some false)) else (if (n0.kind==(3:Int))=true then (if (n0.int==(0:Int))=true then ((gv.f m n0.label).bind fun x1=>if x1=true then (if (decide ((n0.args.length:Int)≥(1:Int)))=true then (if (decide ((n0.args.length:Int)≤(8:Int)))=true then ((fu.f m n0.args (fun y0=>hZ.f m y0 mM)).bind fun x2=>some (!x2)) else (some false)) else (some false)) else (some false)) else (some false)) else (if (n0.kind==(4:Int))=true then (if (decide (n0.int≥(0:Int)))=true then ((gK.f m n0.label).bind fun x3=>if x3=true then (some ((n0.args.length:Int)==(0:Int))) else (some false)) else (some false)) else (some false)))))
def iX.fin (L:Mem)(r:Bool)(s:St):Prop:=∃av,aO Try.prog (s.open C1) Try.f67.results.toList=some av∧fG s.h av (.bool r)
def UD (cf:CallF)(m:Nat):Prop:=∀(n0:ak) (mM:Int) (r:Bool),iX.f m n0 mM=some r→∀h xs,aU bR h xs [.agg [.int .i64 n0.kind,.int .i64 n0.int,.str n0.label,af.fz n0.args],.int .i64 mM]→cf 67 xs h=some (.bool r,h)
section
variable {cf:CallF}{m:Nat}
theorem tY {aY:FuncId→b9}(ha:aY 67=C1)(qS:Pc cf m)(GM:Pb cf m)(GJ:QI cf m)(Rq:Ul cf m)(n0:ak)(mM:Int)(h:AHeap)(L:Mem)  (o:Has h (L)){out:Bool}(H:iX.f m n0 mM=some out) :
  ∃r h',bf Try.prog aY cf m 67 [.agg [.int .i64 n0.kind,.int .i64 n0.int,.str n0.label,af.fz n0.args],.int .i64 mM] h=some (r,h')∧fG h' r (.bool out):=by
 refine ar (fn:=Try.f67) ha Try.func67 (by kernel_rfl) (by kernel_rfl) ?_
 refine aH (Q:=fun s=>iX.fin L out s) (fun _ _ h=>h) ?_
 have H:_=some out:=H
 unfold iX.f at H
 show dK _ cf C1 m _ ⟨.agg [.int .i64 n0.kind,.int .i64 n0.int,.str n0.label,af.fz n0.args] :: .int .i64 mM::O8 [],[none],h⟩ _
 refine qq ?_
 obtain⟨aE,h0,e0,o0⟩:=gJ (cs:=[.int .i64 mM]) o (by kernel_rfl)
 refine qr [.a 1 e0] <| qq <| qq <| q0 <| qb 0 <| qq <| q0 <| qc H (fun c0 H=>?_) (fun c0 H=>?_)
 ·refine qq ?_
  rcases gS H with⟨c1,H⟩| ⟨c1,H⟩
  ·rcases gS H with⟨c2,H⟩| ⟨c2,H⟩
   ·refine qr [.b 3 c1,.b 8 c2] ?_
    have o1:Has h0 (L):=Has.del o0 0
    obtain rfl:=oi H
    exact qt <| ⟨.inl rfl,cV (.bool ((n0.args.length:Int)==(0:Int))) h0 (cP (az))⟩
   ·refine qr [.b 3 c1,.b 8 c2] ?_
    have o2:Has h0 (L):=Has.del o0 0
    obtain rfl:=oi H
    exact qt <| ⟨.inl rfl,cV (.bool false) h0 (cP (az))⟩
  ·refine qr [.b 3 c1] ?_
   have o3:Has h0 (L):=Has.del o0 0
   obtain rfl:=oi H
   exact qt <| ⟨.inl rfl,cV (.bool false) h0 (cP (az))⟩
 ·refine q1 <| qc H (fun c3 H=>?_) (fun c3 H=>?_)
  ·refine qq ?_
   rcases gS H with⟨c4,H⟩| ⟨c4,H⟩
   ·rcases gS H with⟨c5,H⟩| ⟨c5,H⟩
    ·rcases gS H with⟨c6,H⟩| ⟨c6,H⟩
     ·refine qr [.b 3 c4,.b 8 c5,.b 13 c6] ?_
      have o4:Has h0 (L):=Has.del o0 0
      obtain rfl:=oi H
      exact qt <| ⟨.inl rfl,cV (.bool ((n0.args.length:Int)==(0:Int))) h0 (cP (az))⟩
     ·refine qr [.b 3 c4,.b 8 c5,.b 13 c6] ?_
      have o5:Has h0 (L):=Has.del o0 0
      obtain rfl:=oi H
      exact qt <| ⟨.inl rfl,cV (.bool false) h0 (cP (az))⟩
    ·refine qr [.b 3 c4,.b 8 c5] ?_
     have o6:Has h0 (L):=Has.del o0 0
     obtain rfl:=oi H
     exact qt <| ⟨.inl rfl,cV (.bool false) h0 (cP (az))⟩
   ·refine qr [.b 3 c4] ?_
    have o7:Has h0 (L):=Has.del o0 0
    obtain rfl:=oi H
    exact qt <| ⟨.inl rfl,cV (.bool false) h0 (cP (az))⟩
  ·refine q1 <| qc H (fun c7 H=>?_) (fun c7 H=>?_)
   ·refine qq ?_
    rcases gS H with⟨c8,H⟩| ⟨c8,H⟩
    ·obtain⟨x0,e1,H⟩:=bj H
     rcases gS H with⟨c9,H⟩| ⟨c9,H⟩
     ·refine qr [.b 3 c8,.a 6 (qS _ _ e1 h0 _ (fw (ah (cK) (aw)))),.b 8 c9] ?_
      have o8:Has h0 (L):=Has.del o0 0
      obtain rfl:=oi H
      exact qt <| ⟨.inl rfl,cV (.bool ((n0.args.length:Int)==(0:Int))) h0 (cP (az))⟩
     ·refine qr [.b 3 c8,.a 6 (qS _ _ e1 h0 _ (fw (ah (cK) (aw)))),.b 8 c9] ?_
      have o9:Has h0 (L):=Has.del o0 0
      obtain rfl:=oi H
      exact qt <| ⟨.inl rfl,cV (.bool false) h0 (cP (az))⟩
    ·refine qr [.b 3 c8] ?_
     have xw:Has h0 (L):=Has.del o0 0
     obtain rfl:=oi H
     exact qt <| ⟨.inl rfl,cV (.bool false) h0 (cP (az))⟩
   ·refine q1 <| qc H (fun EB H=>?_) (fun EB H=>?_)
    ·refine qq ?_
     rcases gS H with⟨pg,H⟩| ⟨pg,H⟩
     ·obtain⟨x1,e2,H⟩:=bj H
      rcases gS H with⟨GG,H⟩| ⟨GG,H⟩
      ·rcases gS H with⟨sC,H⟩| ⟨sC,H⟩
       ·rcases gS H with⟨GH,H⟩| ⟨GH,H⟩
        ·obtain⟨x2,e3,H⟩:=bj H
         refine qr [.b 3 pg,.a 6 (qS _ _ e2 h0 _ (fw (ah (cK) (aw)))),.b 8 GG,.b 14 sC,.b 20 GH,.a 24 (GM _ _ _ e3 79 [.fp [.int .i64 mM] 0] (fun h' tS y0 r hr hx=>Rq y0 _ r hr h' tS hx) (fun h_=>jf (ah (fK (pure_cons (gR) (pure_nil))) (aw))) h0 _ (fw (ah (dU (E:=af)) (ah (rI (ah (ez (q:=0) o0 rfl (ah (aZ) (aw))) (aw))) (aw)))))] ?_
         have xC:Has h0 (L):=Has.del o0 0
         obtain rfl:=oi H
         exact qt <| ⟨.inl rfl,cV (.bool (!x2)) h0 (cP (az))⟩
        ·refine qr [.b 3 pg,.a 6 (qS _ _ e2 h0 _ (fw (ah (cK) (aw)))),.b 8 GG,.b 14 sC,.b 20 GH] ?_
         have CW:Has h0 (L):=Has.del o0 0
         obtain rfl:=oi H
         exact qt <| ⟨.inl rfl,cV (.bool false) h0 (cP (az))⟩
       ·refine qr [.b 3 pg,.a 6 (qS _ _ e2 h0 _ (fw (ah (cK) (aw)))),.b 8 GG,.b 14 sC] ?_
        have u9:Has h0 (L):=Has.del o0 0
        obtain rfl:=oi H
        exact qt <| ⟨.inl rfl,cV (.bool false) h0 (cP (az))⟩
      ·refine qr [.b 3 pg,.a 6 (qS _ _ e2 h0 _ (fw (ah (cK) (aw)))),.b 8 GG] ?_
       have va:Has h0 (L):=Has.del o0 0
       obtain rfl:=oi H
       exact qt <| ⟨.inl rfl,cV (.bool false) h0 (cP (az))⟩
     ·refine qr [.b 3 pg] ?_
      have Fb:Has h0 (L):=Has.del o0 0
      obtain rfl:=oi H
      exact qt <| ⟨.inl rfl,cV (.bool false) h0 (cP (az))⟩
    ·refine q1 ?_
     have ye:Has h0 (L):=Has.del o0 0
     refine qc H (fun zC H=>?_) (fun zC H=>?_)
     ·refine qq ?_
      rcases gS H with⟨Pd,H⟩| ⟨Pd,H⟩
      ·obtain⟨x3,e4,H⟩:=bj H
       rcases gS H with⟨vO,H⟩| ⟨vO,H⟩
       ·obtain rfl:=oi H
        exact qr [.b 3 Pd,.a 6 (GJ _ _ e4 h0 _ (fw (ah (cK) (aw)))),.b 8 vO] <| qt <| ⟨.inl rfl,cV (.bool ((n0.args.length:Int)==(0:Int))) h0 (cP (az))⟩
       ·obtain rfl:=oi H
        exact qr [.b 3 Pd,.a 6 (GJ _ _ e4 h0 _ (fw (ah (cK) (aw)))),.b 8 vO] <| qt <| ⟨.inl rfl,cV (.bool false) h0 (cP (az))⟩
      ·obtain rfl:=oi H
       exact qr [.b 3 Pd] <| qt <| ⟨.inl rfl,cV (.bool false) h0 (cP (az))⟩
     ·obtain rfl:=oi H
      exact qk <| qq <| q0 <| qt <| ⟨.inl rfl,cV (.bool false) h0 (cP (az))⟩
end
end Go.Proofs.Ytifafejidnjckaa
namespace Go.Proofs.Ytifafejidnjckaa
open Go Go.R
open Go.IntKind (i64 u64 u8 u32)
def C2:b9:=gW [0,1,2,3,4,5,16] [2,3] [115,83,111,51,111,111] [] []
def dz.f (m:Nat)(a0:ak)(b0:ak):Option (Int):=if (!(a0.kind==b0.kind))=true then ((dy.f m a0.kind b0.kind).bind fun x0=>some x0) else (if (a0.kind==(3:Int))=true then ((dy.f m (a0.args.length:Int) (b0.args.length:Int)).bind fun x1=>(cL.f m a0.label b0.label).bind fun x2=>(cF.f m ([x1,x2])).bind fun x3=>some x3) else ((cL.f m a0.label b0.label).bind fun x4=>(dy.f m a0.int b0.int).bind fun x5=>(cF.f m ([x4,x5])).bind fun x6=>some x6))
def dz.fin (L:Mem)(r:Int)(s:St):Prop:=∃av,aO Try.prog (s.open C2) Try.f70.results.toList=some av∧fG s.h av (.int .i64 r)
def N0 (cf:CallF)(m:Nat):Prop:=∀(a0:ak) (b0:ak) (r:Int),dz.f m a0 b0=some r→∀h xs,aU bR h xs [.agg [.int .i64 a0.kind,.int .i64 a0.int,.str a0.label,af.fz a0.args],.agg [.int .i64 b0.kind,.int .i64 b0.int,.str b0.label,af.fz b0.args]]→cf 70 xs h=some (.int .i64 r,h)
section
variable {cf:CallF}{m:Nat}
theorem nN {aY:FuncId→b9}(ha:aY 70=C2)(Lz:Uy cf m)(N1:Um cf m)(N2:Uz cf m)(a0:ak)(b0:ak)(h:AHeap)(L:Mem)  (o:Has h (L)){out:Int}(H:dz.f m a0 b0=some out) :
  ∃r h',bf Try.prog aY cf m 70 [.agg [.int .i64 a0.kind,.int .i64 a0.int,.str a0.label,af.fz a0.args],.agg [.int .i64 b0.kind,.int .i64 b0.int,.str b0.label,af.fz b0.args]] h=some (r,h')∧fG h' r (.int .i64 out):=by
 refine ar (fn:=Try.f70) ha Try.func70 (by kernel_rfl) (by kernel_rfl) ?_
 refine aH (Q:=fun s=>dz.fin L out s) (fun _ _ h=>h) ?_
 have H:_=some out:=H
 unfold dz.f at H
 show dK _ cf C2 m _ ⟨.agg [.int .i64 a0.kind,.int .i64 a0.int,.str a0.label,af.fz a0.args] :: .agg [.int .i64 b0.kind,.int .i64 b0.int,.str b0.label,af.fz b0.args]::Ai [],[none,none],h⟩ _
 refine q1 <| qq <| qb 0 <| qq <| q0 <| qc H (fun c0 H=>?_) (fun c0 H=>?_)
 ·refine qq ?_
  obtain⟨x0,e0,H⟩:=bj H
  obtain rfl:=oi H
  exact qr [.a 4 (Lz _ _ _ e0 h _ (fw (ah (aZ) (ah (aZ) (aw)))))] <| qt <| ⟨.inl rfl,cV (.int .i64 x0) h (cP (dr))⟩
 ·refine q1 <| qc H (fun c1 H=>?_) (fun c1 H=>?_)
  ·refine qq ?_
   obtain⟨x1,e1,H⟩:=bj H
   obtain⟨x2,e2,H⟩:=bj H
   obtain⟨x3,e3,H⟩:=bj H
   obtain rfl:=oi H
   exact qr [.a 6 (Lz _ _ _ e1 h _ (fw (ah (aZ) (ah (aZ) (aw))))),.a 11 (N2 _ _ _ e2 h _ (fw (ah (cK) (ah (cK) (aw))))),.a 13 (N1 _ _ e3 h _ (fw (ah (qL (E:=af) (l:=[x1,x2]) (cs:=[.int .i64 x1,.int .i64 x2]) (b:=true) (by kernel_rfl) (by kernel_rfl) rfl) (aw))))] <| qt <| ⟨.inl rfl,cV (.int .i64 x3) h (cP (dr))⟩
  ·refine qk <| qq ?_
   obtain⟨x4,e4,H⟩:=bj H
   obtain⟨x5,e5,H⟩:=bj H
   obtain⟨x6,e6,H⟩:=bj H
   obtain rfl:=oi H
   exact qr [.a 4 (N2 _ _ _ e4 h _ (fw (ah (cK) (ah (cK) (aw))))),.a 9 (Lz _ _ _ e5 h _ (fw (ah (aZ) (ah (aZ) (aw))))),.a 11 (N1 _ _ e6 h _ (fw (ah (qL (E:=af) (l:=[x4,x5]) (cs:=[.int .i64 x4,.int .i64 x5]) (b:=true) (by kernel_rfl) (by kernel_rfl) rfl) (aw))))] <| qt <| ⟨.inl rfl,cV (.int .i64 x6) h (cP (dr))⟩
end
end Go.Proofs.Ytifafejidnjckaa
namespace Go.Proofs.Ytifafejidnjckaa
open Go Go.R
open Go.IntKind (i64 u64 u8 u32)
def C3:b9:=gW [0,1,2,5] [] [8,7] [] []
def eH.f (m:Nat)(i0:Int)(j0:Int)(x0:List ak):Option (Int):=(ix x0 i0).bind fun v0=>(ix x0 j0).bind fun v1=>(dz.f m v0 v1).bind fun x1=>some x1
def eH.fin (L:Mem)(r:Int)(s:St):Prop:=∃av,aO Try.prog (s.open C3) Try.f84.results.toList=some av∧fG s.h av (.int .i64 r)
def UE (cf:CallF)(m:Nat):Prop:=∀(i0:Int) (j0:Int) (x0:List ak) (r:Int),eH.f m i0 j0 x0=some r→∀h xs,aU bR h xs [.int .i64 i0,.int .i64 j0,.fp [ai.fz x0] 0]→cf 84 xs h=some (.int .i64 r,h)
section
variable {cf:CallF}{m:Nat}
theorem ox {aY:FuncId→b9}(ha:aY 84=C3)(zD:N0 cf m)(i0:Int)(j0:Int)(x0:List ak)(h:AHeap)(L:Mem)  (o:Has h (L)){out:Int}(H:eH.f m i0 j0 x0=some out) :
  ∃r h',bf Try.prog aY cf m 84 [.int .i64 i0,.int .i64 j0,.fp [ai.fz x0] 0] h=some (r,h')∧fG h' r (.int .i64 out):=by
 refine ar (fn:=Try.f84) ha Try.func84 (by kernel_rfl) (by kernel_rfl) ?_
 refine aH (Q:=fun s=>eH.fin L out s) (fun _ _ h=>h) ?_
 have H:_=some out:=H
 unfold eH.f at H
 show dK _ cf C3 m _ ⟨[.int .i64 i0,.int .i64 j0,.fp [ai.fz x0] 0,.any],[],h⟩ _
 refine q1 <| qq ?_
 obtain⟨v0,e0,H⟩:=bj H
 obtain⟨v1,e1,H⟩:=bj H
 obtain⟨x1,e2,H⟩:=bj H
 obtain rfl:=oi H
 exact qr [.v 2 (fy (k:=.i64) (E:=ai) (l:=x0) uW e0),.v 3 (jP  (E:=ai) (l:=x0) h Ez EA e0),.v 6 (fy (k:=.i64) (E:=ai) (l:=x0) uW e1),.v 7 (jP  (E:=ai) (l:=x0) h Ez EA e1),.a 8 (zD _ _ _ e2 h _ (fw (ah (eV (ah (aZ) (ah (aZ) (ah (cK) (ah (dU (E:=af)) (aw)))))) (ah (eV (ah (aZ) (ah (aZ) (ah (cK) (ah (dU (E:=af)) (aw)))))) (aw)))))] <| qt <| ⟨.inl rfl,cV (.int .i64 x1) h (cP (dr))⟩
end
end Go.Proofs.Ytifafejidnjckaa
namespace Go.Proofs.Ytifafejidnjckaa
open Go Go.R
open Go.IntKind (i64 u64 u8 u32)
end Go.Proofs.Ytifafejidnjckaa
namespace Go.Proofs.Ytifafejidnjckaa
open Go Go.R
open Go.IntKind (i64 u64 u8 u32)
end Go.Proofs.Ytifafejidnjckaa
namespace Go.Proofs.Ytifafejidnjckaa
open Go Go.R
open Go.IntKind (i64 u64 u8 u32)
end Go.Proofs.Ytifafejidnjckaa
namespace Go.Proofs.Ytifafejidnjckaa
open Go Go.R
open Go.IntKind (i64 u64 u8 u32)
end Go.Proofs.Ytifafejidnjckaa
namespace Go.Proofs.Ytifafejidnjckaa
open Go Go.R
open Go.IntKind (i64 u64 u8 u32)
end Go.Proofs.Ytifafejidnjckaa
namespace Go.Proofs.Ytifafejidnjckaa
open Go Go.R
open Go.IntKind (i64 u64 u8 u32)
def mB:b9:=gW [0,1,2,3,4,10,11,12,13,14,15,16,17,18,19,20,21,22,23,24,28,33,50,58,80,85,103,110,140,151,171,185,199,213] [] [17178820576,17179869124,17179869068,17177771916,17179868940,17175674636,17179869068,17179869068,17179868894,17171480286,17179868894,17179868894,17163091936,17179868650,17179867626,17146313194,17179865578,17112756714,17179867626,17179867626,17179864574,17045646846,17179864574,17179864574,17179860960,17179844576,17179844576,16911409120,17179811808,17179746272,17179811808,17179746272,17179615200,16642744288,17179353056,16105611232,17179615200,17179615200,17179303904,15031820256,17179303908,12884336612,17179336678,8589402086,17179869183] [] []
def aM.l0 (m:Nat)(ax:List Int)(a0:Int)(a7:Int→Int→Option (Int)):Nat→Int→Int→Option (Int × Int)
 | 0,_,_=>none
 | k+1,i0,j0=>if (decide (i0<j0))=true then ((ix ax (i64.wrap (jL .u64 (u64.wrap (i64.wrap (i0+j0))) 1))).bind fun v0=>(ix ax a0).bind fun v1=>(a7 v0 v1).bind fun r0=>if (decide (r0<(0:Int)))=true then (aM.l0 m ax a0 a7 k (i64.wrap (i64.wrap (jL .u64 (u64.wrap (i64.wrap (i0+j0))) 1)+(1:Int))) j0) else (aM.l0 m ax a0 a7 k i0 (i64.wrap (jL .u64 (u64.wrap (i64.wrap (i0+j0))) 1)))) else (some ((i0,j0)))
def aM.l1 (m:Nat)(i1:Int):Nat→(List Int)→Int→Option ((List Int) × Int)
 | 0,_,_=>none
 | k+1,bF,k0=>if (decide (k0<(i64.wrap (i1 - (1:Int)))))=true then ((ix bF (i64.wrap (k0+(1:Int)))).bind fun v2=>(ix bF k0).bind fun v3=>(ix bF k0).bind fun v4=>(ix (bF.set k0.toNat v2) (i64.wrap (k0+(1:Int)))).bind fun v5=>aM.l1 m i1 k ((bF.set k0.toNat v2).set (i64.wrap (k0+(1:Int))).toNat v3) (i64.wrap (k0+(1:Int)))) else (some ((bF,k0)))
def aM.l2 (m:Nat)(ax:List Int)(m0:Int)(a7:Int→Int→Option (Int)):Nat→Int→Int→Option (Int × Int)
 | 0,_,_=>none
 | k+1,i2,j2=>if (decide (i2<j2))=true then ((ix ax m0).bind fun v6=>(ix ax (i64.wrap (jL .u64 (u64.wrap (i64.wrap (i2+j2))) 1))).bind fun v7=>(a7 v6 v7).bind fun r1=>if (!(decide (r1<(0:Int))))=true then (aM.l2 m ax m0 a7 k (i64.wrap (i64.wrap (jL .u64 (u64.wrap (i64.wrap (i2+j2))) 1)+(1:Int))) j2) else (aM.l2 m ax m0 a7 k i2 (i64.wrap (jL .u64 (u64.wrap (i64.wrap (i2+j2))) 1)))) else (some ((i2,j2)))
def aM.l3 (m:Nat)(i3:Int):Nat→(List Int)→Int→Option ((List Int) × Int)
 | 0,_,_=>none
 | k+1,eF,k2=>if (decide (k2 > i3))=true then ((ix eF (i64.wrap (k2 - (1:Int)))).bind fun v8=>(ix eF k2).bind fun v9=>(ix eF k2).bind fun v10=>(ix (eF.set k2.toNat v8) (i64.wrap (k2 - (1:Int)))).bind fun v11=>aM.l3 m i3 k ((eF.set k2.toNat v8).set (i64.wrap (k2 - (1:Int))).toNat v9) (i64.wrap (k2 - (1:Int)))) else (some ((eF,k2)))
def aM.l4 (m:Nat)(ax:List Int)(a0:Int)(m0:Int)(b0:Int)(a7:Int→Int→Option (Int)):Nat→Int→Int→Option (Int × Int)
 | 0,_,_=>none
 | k+1,gL,r3=>if (decide (gL<r3))=true then ((ix ax (i64.wrap (i64.wrap (i64.wrap (i64.wrap (jL .u64 (u64.wrap (i64.wrap (a0+b0))) 1)+m0) - (1:Int)) - i64.wrap (jL .u64 (u64.wrap (i64.wrap (gL+r3))) 1)))).bind fun v12=>(ix ax (i64.wrap (jL .u64 (u64.wrap (i64.wrap (gL+r3))) 1))).bind fun Pe=>(a7 v12 Pe).bind fun r4=>if (!(decide (r4<(0:Int))))=true then (aM.l4 m ax a0 m0 b0 a7 k (i64.wrap (i64.wrap (jL .u64 (u64.wrap (i64.wrap (gL+r3))) 1)+(1:Int))) r3) else (aM.l4 m ax a0 m0 b0 a7 k gL (i64.wrap (jL .u64 (u64.wrap (i64.wrap (gL+r3))) 1)))) else (some ((gL,r3)))
def aM.b (m:Nat)(rec:(List Int)→Int→Int→Int→(Int→Int→Option (Int))→Option ((List Int)))(ax:List Int)(a0:Int)(m0:Int)(b0:Int)(a7:Int→Int→Option (Int)):Option ((List Int)):=if ((i64.wrap (m0 - a0))==(1:Int))=true then ((aM.l0 m ax a0 a7 m m0 b0).bind fun bM=>match bM with | (i1,j1)=>(aM.l1 m i1 m ax a0).bind fun cD=>match cD with | (dP,k1)=>some dP) else (if ((i64.wrap (b0 - m0))==(1:Int))=true then ((aM.l2 m ax m0 a7 m a0 m0).bind fun j6=>match j6 with | (i3,j3)=>(aM.l3 m i3 m ax m0).bind fun zm=>match zm with | (jX,k3)=>some jX) else (jn (fun (σ:Int × Int)=>match σ with | (tZ,r2)=>(aM.l4 m ax a0 m0 b0 a7 m tZ r2).bind fun dA=>match dA with | (fT,r5)=>jn (fun (σ:(List Int))=>match σ with | lP=>jn (fun (σ:(List Int))=>match σ with | p6=>if (decide ((i64.wrap (jL .u64 (u64.wrap (i64.wrap (a0+b0))) 1))<(i64.wrap (i64.wrap (i64.wrap (jL .u64 (u64.wrap (i64.wrap (a0+b0))) 1)+m0) - fT))))=true then (if (decide ((i64.wrap (i64.wrap (i64.wrap (jL .u64 (u64.wrap (i64.wrap (a0+b0))) 1)+m0) - fT))<b0))=true then ((rec p6 (i64.wrap (jL .u64 (u64.wrap (i64.wrap (a0+b0))) 1)) (i64.wrap (i64.wrap (i64.wrap (jL .u64 (u64.wrap (i64.wrap (a0+b0))) 1)+m0) - fT)) b0 a7).bind fun x2=>some x2) else (some p6)) else (some p6)) fun ub=>(if (decide (a0<fT))=true then (if (decide (fT<(i64.wrap (jL .u64 (u64.wrap (i64.wrap (a0+b0))) 1))))=true then ((rec lP a0 fT (i64.wrap (jL .u64 (u64.wrap (i64.wrap (a0+b0))) 1)) a7).bind fun x1=>ub x1) else (ub lP)) else (ub lP))) fun N3=>(if (decide (fT<m0))=true then (if (decide (m0<(i64.wrap (i64.wrap (i64.wrap (jL .u64 (u64.wrap (i64.wrap (a0+b0))) 1)+m0) - fT))))=true then ((fP.f m ax fT m0 (i64.wrap (i64.wrap (i64.wrap (jL .u64 (u64.wrap (i64.wrap (a0+b0))) 1)+m0) - fT)) a7).bind fun x0=>N3 x0) else (N3 ax)) else (N3 ax))) fun tP=>(if (decide (m0 > (i64.wrap (jL .u64 (u64.wrap (i64.wrap (a0+b0))) 1))))=true then (tP (i64.wrap (i64.wrap (i64.wrap (jL .u64 (u64.wrap (i64.wrap (a0+b0))) 1)+m0) - b0),i64.wrap (jL .u64 (u64.wrap (i64.wrap (a0+b0))) 1))) else (tP (a0,m0)))))
def aM.f (m:Nat):Nat→(List Int)→Int→Int→Int→(Int→Int→Option (Int))→Option ((List Int))
 | 0,_,_,_,_,_=>none
 | k+1,ax,a0,m0,b0,a7=>aM.b m (aM.f m k) ax a0 m0 b0 a7
def aM.fin (L:Mem)(aE:Nat)(ax:List Int)(a0:Int)(m0:Int)(b0:Int)(a7:Int→Int→Option (Int))(r:(List Int))(s:St):Prop:=aO Try.prog (s.open mB) Try.f106.results.toList=some (.tup [])∧Has s.h ((aE,.sl ax.length 1 (af.l r))::L)
def vb (cf:CallF)(m:Nat)(kk:Nat):Prop:=∀(ax:List Int) (a0:Int) (m0:Int) (b0:Int) (a7:Int→Int→Option (Int)) (r:(List Int)),aM.f m kk ax a0 m0 b0 a7=some r→∀h L (cX:Nat) (aE:Nat),Has h ((aE,.sl cX 1 (af.l ax))::L)→∀(fI:FuncId) (bn ba:List AV),(aS (.fn fI bn) = .fn fI bn)→(∀(h:AHeap) (xs:List AV) (a0:Int) (a1:Int) r,a7 a0 a1=some r→aU bR h xs ([.int .i64 a0,.int .i64 a1]++ba)→cf fI xs h=some (.int .i64 r,h))→(∀h K,Has h (K++(L))→aU cM h bn ba)→(∀h,aU cM h ba ba)→∀xs,xs.map aS=[.rs aE 0 cX 1,.int .i64 a0,.int .i64 m0,.int .i64 b0,.fn fI bn]→∃h',cf 106 xs h=some (.tup [],h')∧Has h' ((aE,.sl cX 1 (af.l r))::L)
section
variable {cf:CallF}{m:Nat}
theorem aM.cQ (L:Mem)(aE:Nat)(fI:FuncId)(bn ba:List AV)(ax:List Int)(a0:Int)(m0:Int)(b0:Int)(a7:Int→Int→Option (Int))  {kk:Nat}(ji:vb cf m kk)(ia:aS (.fn fI bn) = .fn fI bn)(iI:∀(h:AHeap) (xs:List AV) (a0:Int) (a1:Int) r,a7 a0 a1=some r→aU bR h xs ([.int .i64 a0,.int .i64 a1]++ba)→cf fI xs h=some (.int .i64 r,h))(iJ:∀h K,Has h (K++(L))→aU cM h bn ba)(jh:∀h,aU cM h ba ba)  : dL Try.prog cf mB m (sub [0,1,0,1,1,0,0,0] (bZ Try.f106)) (fun k (σ:Int × Int)=>aM.l0 m ax a0 a7 k σ.1 σ.2) (fun σ s=>match σ with | (i0,j0)=>∃h0,s=⟨.rs aE 0 ax.length 1 :: .int .i64 a0 :: .any :: .any :: .fn fI bn :: .int .i64 i0 :: .int .i64 j0::Qq [],[],h0⟩∧Has h0 ((aE,.sl ax.length 1 (af.l ax))::L)) (fun out e s=>(e = .exit 0∧∃i0 j0,(i0,j0)=out∧∃LA GL Rr h0,s=⟨.rs aE 0 ax.length 1 :: .int .i64 a0 :: .any :: .any::LA :: .int .i64 i0::GL::y4 (Rr::uT []),[],h0⟩∧Has h0 ((aE,.sl ax.length 1 (af.l ax))::L))):=by
 refine lg (fun _=>rfl) ?_
 rintro k ⟨i0,j0⟩ s out ⟨h0,rfl,o0⟩ H
 have H:aM.l0 m ax a0 a7 (k+1) i0 j0=some out:=H
 refine qq <| qq <| q0 <| qc H (fun c1 H=>?_) (fun c1 H=>?_)
 ·refine qk <| qb 1 <| qq <| q0 <| qq ?_
  obtain⟨v0,e0,H⟩:=bj H
  obtain⟨v1,e1,H⟩:=bj H
  obtain⟨r0,e2,H⟩:=bj H
  refine qr [.v 3 (bp (k:=.i64) (E:=af) (l:=ax) (q:=0) gu o0 rfl e0),.v 4 (di  (E:=af) (l:=ax) (q:=0) o0 rfl A3 e0 rfl),.v 7 (bp (k:=.i64) (E:=af) (l:=ax) (q:=0) gu o0 rfl e1),.v 8 (di  (E:=af) (l:=ax) (q:=0) o0 rfl A3 e1 rfl),.a 9 (iI _ _ _ _ _ e2 (IZ (ah (aZ) (ah (aZ) (aw))) (iJ h0 [(aE,.sl ax.length 1 (af.l ax))] o0)))] <| qc H (fun c2 H=>?_) (fun c2 H=>?_)
  ·exact q0 <| ⟨(i64.wrap (i64.wrap (jL .u64 (u64.wrap (i64.wrap (i0+j0))) 1)+(1:Int)),j0),⟨h0,by kernel_rfl,o0⟩,H⟩
  ·exact q0 <| ⟨(i0,i64.wrap (jL .u64 (u64.wrap (i64.wrap (i0+j0))) 1)),⟨h0,by kernel_rfl,o0⟩,H⟩
 ·exact qx 0 <| ⟨rfl,i0,j0,oi H,.fn fI bn,.int .i64 j0,.bool (decide (i0<j0)),h0,by kernel_rfl,o0⟩
theorem aM.kz (L:Mem)(aE:Nat)(fI:FuncId)(bn ba:List AV)(ax:List Int)(a0:Int)(m0:Int)(b0:Int)(a7:Int→Int→Option (Int))(i1:Int)  {kk:Nat}(ji:vb cf m kk)(ia:aS (.fn fI bn) = .fn fI bn)(iI:∀(h:AHeap) (xs:List AV) (a0:Int) (a1:Int) r,a7 a0 a1=some r→aU bR h xs ([.int .i64 a0,.int .i64 a1]++ba)→cf fI xs h=some (.int .i64 r,h))(iJ:∀h K,Has h (K++(L))→aU cM h bn ba)(jh:∀h,aU cM h ba ba)  : dL Try.prog cf mB m (sub [0,1,0,1,1,1,0,1,0,0] (bZ Try.f106)) (fun k (σ:(List Int) × Int)=>aM.l1 m i1 k σ.1 σ.2) (fun σ s=>match σ with | (bF,k0)=>∃h2,s=⟨.rs aE 0 ax.length 1::oZ (.int .i64 i1 :: .any :: .any :: .int .i64 k0::NG []),[],h2⟩∧Has h2 ((aE,.sl ax.length 1 (af.l bF))::L)) (fun out e s=>(e = .exit 2∧∃bF k0,(bF,k0)=out∧∃mP Bh tO Rs h2,s=⟨mP::oZ (Bh :: .any :: .any::tO::y4 (Rs::Ge [])),[],h2⟩∧Has h2 ((aE,.sl ax.length 1 (af.l bF))::L))):=by
 refine lg (fun _=>rfl) ?_
 rintro k ⟨bF,k0⟩ s out ⟨h2,rfl,o2⟩ H
 have H:aM.l1 m i1 (k+1) bF k0=some out:=H
 refine qq <| qq <| q0 <| qc H (fun c3 H=>?_) (fun c3 H=>?_)
 ·refine qk <| qq <| qb 3 ?_
  obtain⟨v2,e4,H⟩:=bj H
  obtain⟨v3,e5,H⟩:=bj H
  obtain⟨v4,e6,H⟩:=bj H
  obtain⟨h3,e7,o3⟩:=fS (P:=Try.prog) (tf:=3) (E:=af) (l:=bF) (q:=0) (v:=v2) (x:=.int .i64 v2) o2 rfl Z3 e6 rfl rfl
  obtain⟨v5,e8,H⟩:=bj H
  obtain⟨h4,e9,o4⟩:=fS (P:=Try.prog) (tf:=3) (E:=af) (l:=(bF.set k0.toNat v2)) (q:=0) (v:=v3) (x:=.int .i64 v3) o3 rfl Z3 e8 rfl rfl
  exact qr [.v 8 (bp (k:=.i64) (E:=af) (l:=bF) (q:=0) gu o2 rfl e4),.v 9 (di  (E:=af) (l:=bF) (q:=0) o2 rfl A3 e4 rfl),.v 12 (bp (k:=.i64) (E:=af) (l:=bF) (q:=0) gu o2 rfl e5),.v 13 (di  (E:=af) (l:=bF) (q:=0) o2 rfl A3 e5 rfl),.v 14 (bp (k:=.i64) (E:=af) (l:=bF) (q:=0) gu o2 rfl e6),.w 15 e7,.v 16 (bp (k:=.i64) (E:=af) (l:=(bF.set k0.toNat v2)) (q:=0) gu o3 rfl e8),.w 17 e9] <| q0 <| ⟨((bF.set k0.toNat v2).set (i64.wrap (k0+(1:Int))).toNat v3,i64.wrap (k0+(1:Int))),⟨h4,by kernel_rfl,o4⟩,H⟩
 ·exact qx 2 <| ⟨rfl,bF,k0,oi H,.rs aE 0 ax.length 1,.int .i64 i1,.int .i64 k0,.bool (decide (k0<(i64.wrap (i1 - (1:Int))))),h2,by kernel_rfl,o2⟩
theorem aM.p7 (L:Mem)(aE:Nat)(fI:FuncId)(bn ba:List AV)(ax:List Int)(a0:Int)(m0:Int)(b0:Int)(a7:Int→Int→Option (Int))  {kk:Nat}(ji:vb cf m kk)(ia:aS (.fn fI bn) = .fn fI bn)(iI:∀(h:AHeap) (xs:List AV) (a0:Int) (a1:Int) r,a7 a0 a1=some r→aU bR h xs ([.int .i64 a0,.int .i64 a1]++ba)→cf fI xs h=some (.int .i64 r,h))(iJ:∀h K,Has h (K++(L))→aU cM h bn ba)(jh:∀h,aU cM h ba ba)  : dL Try.prog cf mB m (sub [1,0,1,0,1,1,0,0,0] (bZ Try.f106)) (fun k (σ:Int × Int)=>aM.l2 m ax m0 a7 k σ.1 σ.2) (fun σ s=>match σ with | (i2,j2)=>∃h6,s=⟨.rs aE 0 ax.length 1 :: .any :: .int .i64 m0 :: .any :: .fn fI bn::oZ (.int .i64 i2 :: .int .i64 j2::Qp []),[],h6⟩∧Has h6 ((aE,.sl ax.length 1 (af.l ax))::L)) (fun out e s=>(e = .exit 4∧∃i2 j2,(i2,j2)=out∧∃LA Ll Rt h6,s=⟨.rs aE 0 ax.length 1 :: .any :: .int .i64 m0 :: .any::LA::oZ (.int .i64 i2::Ll::y4 (Rt::xf [])),[],h6⟩∧Has h6 ((aE,.sl ax.length 1 (af.l ax))::L))):=by
 refine lg (fun _=>rfl) ?_
 rintro k ⟨i2,j2⟩ s out ⟨h6,rfl,o6⟩ H
 have H:aM.l2 m ax m0 a7 (k+1) i2 j2=some out:=H
 refine qq <| qq <| q0 <| qc H (fun c5 H=>?_) (fun c5 H=>?_)
 ·refine qk <| qb 5 <| qq <| q0 <| qq ?_
  obtain⟨v6,uH,H⟩:=bj H
  obtain⟨v7,xq,H⟩:=bj H
  obtain⟨r1,xr,H⟩:=bj H
  refine qr [.v 3 (bp (k:=.i64) (E:=af) (l:=ax) (q:=0) gu o6 rfl uH),.v 4 (di  (E:=af) (l:=ax) (q:=0) o6 rfl A3 uH rfl),.v 7 (bp (k:=.i64) (E:=af) (l:=ax) (q:=0) gu o6 rfl xq),.v 8 (di  (E:=af) (l:=ax) (q:=0) o6 rfl A3 xq rfl),.a 9 (iI _ _ _ _ _ xr (IZ (ah (aZ) (ah (aZ) (aw))) (iJ h6 [(aE,.sl ax.length 1 (af.l ax))] o6)))] <| qc H (fun c6 H=>?_) (fun c6 H=>?_)
  ·exact q0 <| ⟨(i64.wrap (i64.wrap (jL .u64 (u64.wrap (i64.wrap (i2+j2))) 1)+(1:Int)),j2),⟨h6,by kernel_rfl,o6⟩,H⟩
  ·exact q0 <| ⟨(i2,i64.wrap (jL .u64 (u64.wrap (i64.wrap (i2+j2))) 1)),⟨h6,by kernel_rfl,o6⟩,H⟩
 ·exact qx 4 <| ⟨rfl,i2,j2,oi H,.fn fI bn,.int .i64 j2,.bool (decide (i2<j2)),h6,by kernel_rfl,o6⟩
theorem aM.GP (L:Mem)(aE:Nat)(fI:FuncId)(bn ba:List AV)(ax:List Int)(a0:Int)(m0:Int)(b0:Int)(a7:Int→Int→Option (Int))(i3:Int)  {kk:Nat}(ji:vb cf m kk)(ia:aS (.fn fI bn) = .fn fI bn)(iI:∀(h:AHeap) (xs:List AV) (a0:Int) (a1:Int) r,a7 a0 a1=some r→aU bR h xs ([.int .i64 a0,.int .i64 a1]++ba)→cf fI xs h=some (.int .i64 r,h))(iJ:∀h K,Has h (K++(L))→aU cM h bn ba)(jh:∀h,aU cM h ba ba)  : dL Try.prog cf mB m (sub [1,0,1,0,1,1,1,0,1,0,0] (bZ Try.f106)) (fun k (σ:(List Int) × Int)=>aM.l3 m i3 k σ.1 σ.2) (fun σ s=>match σ with | (eF,k2)=>∃h8,s=⟨.rs aE 0 ax.length 1::xf (.int .i64 i3 :: .any :: .any :: .int .i64 k2::Qn []),[],h8⟩∧Has h8 ((aE,.sl ax.length 1 (af.l eF))::L)) (fun out e s=>(e = .exit 6∧∃eF k2,(eF,k2)=out∧∃mP A7 Lm N4 h8,s=⟨mP::xf (A7 :: .any :: .any::Lm::y4 (N4::yZ [])),[],h8⟩∧Has h8 ((aE,.sl ax.length 1 (af.l eF))::L))):=by
 refine lg (fun _=>rfl) ?_
 rintro k ⟨eF,k2⟩ s out ⟨h8,rfl,o8⟩ H
 have H:aM.l3 m i3 (k+1) eF k2=some out:=H
 refine qq <| qq <| q0 <| qc H (fun c7 H=>?_) (fun c7 H=>?_)
 ·refine qk <| qq <| qb 7 ?_
  obtain⟨v8,Al,H⟩:=bj H
  obtain⟨v9,EE,H⟩:=bj H
  obtain⟨v10,EF,H⟩:=bj H
  obtain⟨h9,Fa,o9⟩:=fS (P:=Try.prog) (tf:=3) (E:=af) (l:=eF) (q:=0) (v:=v8) (x:=.int .i64 v8) o8 rfl Z3 EF rfl rfl
  obtain⟨v11,CV,H⟩:=bj H
  obtain⟨h10,H5,xw⟩:=fS (P:=Try.prog) (tf:=3) (E:=af) (l:=(eF.set k2.toNat v8)) (q:=0) (v:=v9) (x:=.int .i64 v9) o9 rfl Z3 CV rfl rfl
  exact qr [.v 8 (bp (k:=.i64) (E:=af) (l:=eF) (q:=0) gu o8 rfl Al),.v 9 (di  (E:=af) (l:=eF) (q:=0) o8 rfl A3 Al rfl),.v 12 (bp (k:=.i64) (E:=af) (l:=eF) (q:=0) gu o8 rfl EE),.v 13 (di  (E:=af) (l:=eF) (q:=0) o8 rfl A3 EE rfl),.v 14 (bp (k:=.i64) (E:=af) (l:=eF) (q:=0) gu o8 rfl EF),.w 15 Fa,.v 16 (bp (k:=.i64) (E:=af) (l:=(eF.set k2.toNat v8)) (q:=0) gu o9 rfl CV),.w 17 H5] <| q0 <| ⟨((eF.set k2.toNat v8).set (i64.wrap (k2 - (1:Int))).toNat v9,i64.wrap (k2 - (1:Int))),⟨h10,by kernel_rfl,xw⟩,H⟩
 ·exact qx 6 <| ⟨rfl,eF,k2,oi H,.rs aE 0 ax.length 1,.int .i64 i3,.int .i64 k2,.bool (decide (k2 > i3)),h8,by kernel_rfl,o8⟩
theorem aM.GQ (L:Mem)(aE:Nat)(fI:FuncId)(bn ba:List AV)(ax:List Int)(a0:Int)(m0:Int)(b0:Int)(a7:Int→Int→Option (Int))  {kk:Nat}(ji:vb cf m kk)(ia:aS (.fn fI bn) = .fn fI bn)(iI:∀(h:AHeap) (xs:List AV) (a0:Int) (a1:Int) r,a7 a0 a1=some r→aU bR h xs ([.int .i64 a0,.int .i64 a1]++ba)→cf fI xs h=some (.int .i64 r,h))(iJ:∀h K,Has h (K++(L))→aU cM h bn ba)(jh:∀h,aU cM h ba ba)  : dL Try.prog cf mB m (sub [1,1,1,1,1,1,1,0,0,0] (bZ Try.f106)) (fun k (σ:Int × Int)=>aM.l4 m ax a0 m0 b0 a7 k σ.1 σ.2) (fun σ s=>match σ with | (gL,r3)=>∃h13,s=⟨.rs aE 0 ax.length 1 :: .int .i64 a0 :: .int .i64 m0 :: .int .i64 b0 :: .fn fI bn::xf (.int .i64 (i64.wrap (jL .u64 (u64.wrap (i64.wrap (a0+b0))) 1)) :: .int .i64 (i64.wrap (i64.wrap (jL .u64 (u64.wrap (i64.wrap (a0+b0))) 1)+m0)) :: .int .i64 gL :: .int .i64 r3 :: .int .i64 (i64.wrap (i64.wrap (i64.wrap (jL .u64 (u64.wrap (i64.wrap (a0+b0))) 1)+m0) - (1:Int)))::IN []),[],h13⟩∧Has h13 ((aE,.sl ax.length 1 (af.l ax))::L)) (fun out e s=>(e = .exit 8∧∃gL r3,(gL,r3)=out∧∃Lt Bj N5 h13,s=⟨.rs aE 0 ax.length 1 :: .int .i64 a0 :: .int .i64 m0 :: .int .i64 b0 :: .fn fI bn::xf (.int .i64 (i64.wrap (jL .u64 (u64.wrap (i64.wrap (a0+b0))) 1)) :: .int .i64 (i64.wrap (i64.wrap (jL .u64 (u64.wrap (i64.wrap (a0+b0))) 1)+m0)) :: .int .i64 gL::Lt::Bj::uS (N5::oZ [])),[],h13⟩∧Has h13 ((aE,.sl ax.length 1 (af.l ax))::L))):=by
 refine lg (fun _=>rfl) ?_
 rintro k ⟨gL,r3⟩ s out ⟨h13,rfl,u9⟩ H
 have H:aM.l4 m ax a0 m0 b0 a7 (k+1) gL r3=some out:=H
 refine qq <| qq <| q0 <| qc H (fun c9 H=>?_) (fun c9 H=>?_)
 ·refine qk <| qb 9 <| qq <| q0 <| qq ?_
  obtain⟨v12,H7,H⟩:=bj H
  obtain⟨Pe,Bl,H⟩:=bj H
  obtain⟨r4,H8,H⟩:=bj H
  refine qr [.v 5 (bp (k:=.i64) (E:=af) (l:=ax) (q:=0) gu u9 rfl H7),.v 6 (di  (E:=af) (l:=ax) (q:=0) u9 rfl A3 H7 rfl),.v 9 (bp (k:=.i64) (E:=af) (l:=ax) (q:=0) gu u9 rfl Bl),.v 10 (di  (E:=af) (l:=ax) (q:=0) u9 rfl A3 Bl rfl),.a 11 (iI _ _ _ _ _ H8 (IZ (ah (aZ) (ah (aZ) (aw))) (iJ h13 [(aE,.sl ax.length 1 (af.l ax))] u9)))] <| qc H (fun EB H=>?_) (fun EB H=>?_)
  ·exact q0 <| ⟨(i64.wrap (i64.wrap (jL .u64 (u64.wrap (i64.wrap (gL+r3))) 1)+(1:Int)),r3),⟨h13,by kernel_rfl,u9⟩,H⟩
  ·exact q0 <| ⟨(gL,i64.wrap (jL .u64 (u64.wrap (i64.wrap (gL+r3))) 1)),⟨h13,by kernel_rfl,u9⟩,H⟩
 ·exact qx 8 <| ⟨rfl,gL,r3,oi H,.int .i64 r3,.int .i64 (i64.wrap (i64.wrap (i64.wrap (jL .u64 (u64.wrap (i64.wrap (a0+b0))) 1)+m0) - (1:Int))),.bool (decide (gL<r3)),h13,by kernel_rfl,u9⟩
theorem uc {aY:FuncId→b9}(ha:aY 106=mB)(N6:NX cf m)(ax:List Int)(a0:Int)(m0:Int)(b0:Int)(a7:Int→Int→Option (Int))(h:AHeap)(L:Mem)(aE:Nat)(fI:FuncId)(bn ba:List AV)  {kk:Nat}(ji:vb cf m kk)(ia:aS (.fn fI bn) = .fn fI bn)(iI:∀(h:AHeap) (xs:List AV) (a0:Int) (a1:Int) r,a7 a0 a1=some r→aU bR h xs ([.int .i64 a0,.int .i64 a1]++ba)→cf fI xs h=some (.int .i64 r,h))(iJ:∀h K,Has h (K++(L))→aU cM h bn ba)(jh:∀h,aU cM h ba ba)(o:Has h ((aE,.sl ax.length 1 (af.l ax))::L)){out:(List Int)}(H:aM.f m (kk+1) ax a0 m0 b0 a7=some out) :
  ∃r h',bf Try.prog aY cf m 106 [.rs aE 0 ax.length 1,.int .i64 a0,.int .i64 m0,.int .i64 b0,.fn fI bn] h=some (r,h')∧r = .tup []∧Has h' ((aE,.sl ax.length 1 (af.l out))::L):=by
 refine ar (fn:=Try.f106) ha Try.func106 (by kernel_rfl) (by kernel_rfl) ?_
 refine aH (Q:=fun s=>aM.fin L aE ax a0 m0 b0 a7 out s) (fun _ _ ⟨h1,h2,h3⟩=>⟨h1,_,h2,rfl,h3⟩) ?_
 have H:aM.b m (aM.f m kk) ax a0 m0 b0 a7=some out:=H
 unfold aM.b at H
 show dK _ cf mB m _ ⟨.rs aE 0 ax.length 1 :: .int .i64 a0 :: .int .i64 m0 :: .int .i64 b0 :: .fn fI bn::Qr [],[],h⟩ _
 refine qq <| qq <| q0 <| qc H (fun c0 H=>?_) (fun c0 H=>?_)
 ·refine q1 <| qq <| q0 <| qq <| qb 0 ?_
  obtain⟨bM,e3,H⟩:=bj H
  refine ql (aM.cQ L aE fI bn ba ax a0 m0 b0 a7  ji ia iI iJ jh  (m0,b0) _ _ ⟨h,by kernel_rfl,o⟩ e3) ?_
  rintro e s ⟨rfl,i1,j1,rfl,g0,g1,g2,h1,rfl,o1⟩
  try dsimp only at H
  refine qq <| qq <| q0 <| qb 2 ?_
  obtain⟨cD,rK,H⟩:=bj H
  refine ql (aM.kz L aE fI bn ba ax a0 m0 b0 a7 i1  ji ia iI iJ jh  (ax,a0) _ _ ⟨h1,by kernel_rfl,o1⟩ rK) ?_
  rintro e s ⟨rfl,dP,k1,rfl,g3,g4,g5,g6,h5,rfl,o5⟩
  try dsimp only at H
  obtain rfl:=oi H
  exact qt <| ⟨.inl rfl,⟨by kernel_rfl,he o5⟩⟩
 ·refine qk <| qq <| qq <| q0 <| qc H (fun c4 H=>?_) (fun c4 H=>?_)
  ·refine q1 <| qq <| q0 <| qq <| qb 4 ?_
   obtain⟨j6,Be,H⟩:=bj H
   refine ql (aM.p7 L aE fI bn ba ax a0 m0 b0 a7  ji ia iI iJ jh  (a0,m0) _ _ ⟨h,by kernel_rfl,o⟩ Be) ?_
   rintro e s ⟨rfl,i3,j3,rfl,g7,g8,g9,h7,rfl,o7⟩
   try dsimp only at H
   refine qq <| qq <| q0 <| qb 6 ?_
   obtain⟨zm,H6,H⟩:=bj H
   refine ql (aM.GP L aE fI bn ba ax a0 m0 b0 a7 i3  ji ia iI iJ jh  (ax,m0) _ _ ⟨h7,by kernel_rfl,o7⟩ H6) ?_
   rintro e s ⟨rfl,jX,k3,rfl,g10,g11,g12,g13,h11,rfl,xC⟩
   try dsimp only at H
   obtain rfl:=oi H
   exact qt <| ⟨.inl rfl,⟨by kernel_rfl,he xC⟩⟩
  ·refine qk <| qq <| q0 <| qq <| q0 <| qq <| q0 ?_
   obtain⟨tP,GD,H⟩:=oa H
   refine qj (S:=fun (σ:Int × Int) s=>match σ with | (tZ,r2)=>∃(h12:AHeap),s=⟨.rs aE 0 ax.length 1 :: .int .i64 a0 :: .int .i64 m0 :: .int .i64 b0 :: .fn fI bn::xf (.int .i64 (i64.wrap (jL .u64 (u64.wrap (i64.wrap (a0+b0))) 1)) :: .int .i64 (i64.wrap (i64.wrap (jL .u64 (u64.wrap (i64.wrap (a0+b0))) 1)+m0)) :: .int .i64 tZ :: .int .i64 r2::Ql []),[],h12⟩∧Has h12 ((aE,.sl ax.length 1 (af.l ax))::L)) tP H ?_ ?_
   ·rintro⟨tZ,r2⟩ s ⟨h12,rfl,CW⟩ H
    have H:=(GD _).symm.trans H
    try dsimp only at H
    refine q1 <| qq <| qb 8 ?_
    obtain⟨dA,H9,H⟩:=bj H
    refine ql (aM.GQ L aE fI bn ba ax a0 m0 b0 a7  ji ia iI iJ jh  (tZ,r2) _ _ ⟨h12,by kernel_rfl,CW⟩ H9) ?_
    rintro e s ⟨rfl,fT,r5,rfl,g14,g15,g16,h14,rfl,va⟩
    try dsimp only at H
    refine q1 ?_
    obtain⟨N3,Pf,H⟩:=oa H
    refine qj (S:=fun (σ:(List Int)) s=>match σ with | lP=>∃(g17:AV) (g18:AV) (h16:AHeap),s=⟨.rs aE 0 ax.length 1 :: .int .i64 a0::g17 :: .int .i64 b0 :: .fn fI bn::xf (.int .i64 (i64.wrap (jL .u64 (u64.wrap (i64.wrap (a0+b0))) 1)) :: .any :: .int .i64 fT::ov (.int .i64 (i64.wrap (i64.wrap (i64.wrap (jL .u64 (u64.wrap (i64.wrap (a0+b0))) 1)+m0) - fT))::uS [g18,.any,.any])),[],h16⟩∧Has h16 ((aE,.sl ax.length 1 (af.l lP))::L)) N3 H ?_ ?_
    ·rintro lP s ⟨g17,g18,h16,rfl,ye⟩ H
     have H:=(Pf _).symm.trans H
     try dsimp only at H
     obtain⟨ub,H3,H⟩:=oa H
     refine qj (S:=fun (σ:(List Int)) s=>match σ with | p6=>∃(g19:AV) (g20:AV) (g21:AV) (h18:AHeap),s=⟨.rs aE 0 ax.length 1::g19 :: .any :: .int .i64 b0 :: .fn fI bn::xf (.int .i64 (i64.wrap (jL .u64 (u64.wrap (i64.wrap (a0+b0))) 1)) :: .any::g20::ov (.int .i64 (i64.wrap (i64.wrap (i64.wrap (jL .u64 (u64.wrap (i64.wrap (a0+b0))) 1)+m0) - fT))::uT [g21,.any])),[],h18⟩∧Has h18 ((aE,.sl ax.length 1 (af.l p6))::L)) ub H ?_ ?_
     ·rintro p6 s ⟨g19,g20,g21,h18,rfl,C4⟩ H
      have H:=(H3 _).symm.trans H
      try dsimp only at H
      refine qq ?_
      rcases gS H with⟨vO,H⟩| ⟨vO,H⟩
      ·refine qr [.b 3 vO] <| qc H (fun I9 H=>?_) (fun I9 H=>?_)
       ·obtain⟨x2,MD,H⟩:=bj H
        obtain⟨h19,Pg,Bm⟩:=ji _ _ _ _ _ _ MD h18 _ _ _ (C4) fI bn ba ia iI (fun h' K' o'=>iJ h' (K'++[]) (by simpa only [ZV,aak,aal] using o')) jh [.rs aE 0 ax.length 1,.int .i64 (i64.wrap (jL .u64 (u64.wrap (i64.wrap (a0+b0))) 1)),.int .i64 (i64.wrap (i64.wrap (i64.wrap (jL .u64 (u64.wrap (i64.wrap (a0+b0))) 1)+m0) - fT)),.int .i64 b0,.fn fI bn] (au (rfl) (au (aP (bm)) (au (aP (bm)) (au (aP (bm)) (au (ia) (bN))))))
        obtain rfl:=oi H
        exact qr [.a 5 Pg] <| ⟨.inr rfl,⟨by kernel_rfl,he Bm⟩⟩
       ·obtain rfl:=oi H
        exact qk <| ⟨.inr rfl,⟨by kernel_rfl,he C4⟩⟩
      ·obtain rfl:=oi H
       exact qr [.b 3 vO] <| Gh <| qk <| ⟨.inr rfl,⟨by kernel_rfl,he C4⟩⟩
     clear H3
     intro LB
     refine qq ?_
     rcases gS H with⟨GH,H⟩| ⟨GH,H⟩
     ·refine qr [.b 3 GH] <| qc H (fun zC H=>?_) (fun zC H=>?_)
      ·obtain⟨x1,N7,H⟩:=bj H
       obtain⟨h17,ME,C5⟩:=ji _ _ _ _ _ _ N7 h16 _ _ _ (ye) fI bn ba ia iI (fun h' K' o'=>iJ h' (K'++[]) (by simpa only [ZV,aak,aal] using o')) jh [.rs aE 0 ax.length 1,.int .i64 a0,.int .i64 fT,.int .i64 (i64.wrap (jL .u64 (u64.wrap (i64.wrap (a0+b0))) 1)),.fn fI bn] (au (rfl) (au (aP (bm)) (au (aP (bm)) (au (aP (bm)) (au (ia) (bN))))))
       exact qr [.a 5 ME] <| LB x1 _ ⟨.any,.any,.any,h17,by kernel_rfl,C5⟩ H
      ·exact qk <| LB lP _ ⟨.int .i64 a0,.int .i64 fT,.bool (decide (fT<(i64.wrap (jL .u64 (u64.wrap (i64.wrap (a0+b0))) 1)))),h16,by kernel_rfl,ye⟩ H
     ·exact qr [.b 3 GH] <| Gh <| qk <| LB lP _ ⟨.int .i64 a0,.int .i64 fT,.bool false,h16,by kernel_rfl,ye⟩ H
    clear Pf
    intro LC
    refine qq ?_
    rcases gS H with⟨pg,H⟩| ⟨pg,H⟩
    ·refine qr [.b 3 pg] <| qc H (fun GG H=>?_) (fun GG H=>?_)
     ·obtain⟨x0,J5,H⟩:=bj H
      obtain⟨h15,N8,Fb⟩:=N6 _ _ _ _ _ _ J5 h14 _ _ _ (va) fI bn ba ia iI (fun h' K' o'=>iJ h' (K'++[]) (by simpa only [ZV,aak,aal] using o')) jh [.rs aE 0 ax.length 1,.int .i64 fT,.int .i64 m0,.int .i64 (i64.wrap (i64.wrap (i64.wrap (jL .u64 (u64.wrap (i64.wrap (a0+b0))) 1)+m0) - fT)),.fn fI bn] (au (rfl) (au (aP (bm)) (au (aP (bm)) (au (aP (bm)) (au (ia) (bN))))))
      exact qr [.a 5 N8] <| LC x0 _ ⟨.any,.any,h15,by kernel_rfl,Fb⟩ H
     ·exact qk <| LC ax _ ⟨.int .i64 m0,.bool (decide (m0<(i64.wrap (i64.wrap (i64.wrap (jL .u64 (u64.wrap (i64.wrap (a0+b0))) 1)+m0) - fT)))),h14,by kernel_rfl,va⟩ H
    ·exact qr [.b 3 pg] <| Gh <| qk <| LC ax _ ⟨.int .i64 m0,.bool false,h14,by kernel_rfl,va⟩ H
   clear GD
   intro pd
   refine q1 <| qc H (fun c8 H=>?_) (fun c8 H=>?_)
   ·exact q1 <| q0 <| pd (i64.wrap (i64.wrap (i64.wrap (jL .u64 (u64.wrap (i64.wrap (a0+b0))) 1)+m0) - b0),i64.wrap (jL .u64 (u64.wrap (i64.wrap (a0+b0))) 1)) _ ⟨h,by kernel_rfl,o⟩ H
   ·exact q1 <| q0 <| pd (a0,m0) _ ⟨h,by kernel_rfl,o⟩ H
end
end Go.Proofs.Ytifafejidnjckaa
namespace Go.Proofs.Ytifafejidnjckaa
open Go Go.R
open Go.IntKind (i64 u64 u8 u32)
def C6:b9:=gW [0,1,2,6,7,8,9,10,17,27] [] [1016,984,728,999,830,446,1023,999,999] [(6,[(9,none,0)])] [(0,[(6,none,1)]),(3,[(6,none,1)]),(7,[(6,none,1)])]
def b6.f (m:Nat)(s0:ab)(a0:Int)(b0:Int):Option ((List Int) × Int × ab):=(b5.f m s0 ([a0,b0])).bind fun x0=>if (!(x0==(0:Int)))=true then (some (([]:List Int),x0,s0)) else ((aB.f m s0 a0 b0).bind fun x1=>if (!x1.2.1)=true then ((bu.f m x1.2.2 x1.1).bind fun x2=>some (([]:List Int),(8:Int),x2)) else ((dm.f m x1.2.2 x1.1).bind fun x3=>some (x3,(0:Int),x1.2.2)))
def b6.fin (L:Mem)(aq:Nat)(an:Nat)(ao:Nat)(s0:ab)(a0:Int)(b0:Int)(r:(List Int) × Int × ab)(s:St):Prop:=∃dw aC aD:Nat,aO Try.prog (s.open C6) Try.f16.results.toList=some (.tup [.rs dw 0 r.1.length 1,.int .i64 r.2.1])∧Has s.h ((dw,.sl r.1.length 1 (af.l r.1))::(aq,.ob [.bool r.2.2.aj,.rs aC 0 r.2.2.aa.length 4,.rs aD 0 r.2.2.ae.length 1])::(aC,.sl r.2.2.aa.length 4 (ai.l r.2.2.aa))::(aD,.sl r.2.2.ae.length 1 (af.l r.2.2.ae))::L)
def Ru (cf:CallF)(m:Nat):Prop:=∀(s0:ab) (a0:Int) (b0:Int) (r:(List Int) × Int × ab),b6.f m s0 a0 b0=some r→∀h L (aq:Nat) (an:Nat) (ao:Nat),Has h ((aq,.ob [.bool s0.aj,.rs an 0 s0.aa.length 4,.rs ao 0 s0.ae.length 1])::(an,.sl s0.aa.length 4 (ai.l s0.aa))::(ao,.sl s0.ae.length 1 (af.l s0.ae))::L)→∀xs,xs.map aS=[.ptr aq 0,.int .i64 a0,.int .i64 b0]→∃dw aC aD h',cf 16 xs h=some (.tup [.rs dw 0 r.1.length 1,.int .i64 r.2.1],h')∧Has h' ((dw,.sl r.1.length 1 (af.l r.1))::(aq,.ob [.bool r.2.2.aj,.rs aC 0 r.2.2.aa.length 4,.rs aD 0 r.2.2.ae.length 1])::(aC,.sl r.2.2.aa.length 4 (ai.l r.2.2.aa))::(aD,.sl r.2.2.ae.length 1 (af.l r.2.2.ae))::L)
section
variable {cf:CallF}{m:Nat}
theorem mC {aY:FuncId→b9}(ha:aY 16=C6)(Bn:NY cf m)(LD:Ra cf m)(LF:QE cf m)(LG:Ri cf m)(s0:ab)(a0:Int)(b0:Int)(h:AHeap)(L:Mem)(aq:Nat)(an:Nat)(ao:Nat)  (o:Has h ((aq,.ob [.bool s0.aj,.rs an 0 s0.aa.length 4,.rs ao 0 s0.ae.length 1])::(an,.sl s0.aa.length 4 (ai.l s0.aa))::(ao,.sl s0.ae.length 1 (af.l s0.ae))::L)){out:(List Int) × Int × ab}(H:b6.f m s0 a0 b0=some out) :
  ∃r h',bf Try.prog aY cf m 16 [.ptr aq 0,.int .i64 a0,.int .i64 b0] h=some (r,h')∧∃dw aC aD:Nat,r = .tup [.rs dw 0 out.1.length 1,.int .i64 out.2.1]∧Has h' ((dw,.sl out.1.length 1 (af.l out.1))::(aq,.ob [.bool out.2.2.aj,.rs aC 0 out.2.2.aa.length 4,.rs aD 0 out.2.2.ae.length 1])::(aC,.sl out.2.2.aa.length 4 (ai.l out.2.2.aa))::(aD,.sl out.2.2.ae.length 1 (af.l out.2.2.ae))::L):=by
 refine ar (fn:=Try.f16) ha Try.func16 (by kernel_rfl) (by kernel_rfl) ?_
 refine aH (Q:=fun s=>b6.fin L aq an ao s0 a0 b0 out s) (fun _ _ ⟨h1,dw,aC,aD,h2,h3⟩=>⟨h1,_,h2,dw,aC,aD,rfl,h3⟩) ?_
 have H:_=some out:=H
 unfold b6.f at H
 show dK _ cf C6 m _ ⟨.ptr aq 0 :: .int .i64 a0 :: .int .i64 b0::En [],[],h⟩ _
 refine q1 <| qq <| qq ?_
 obtain⟨x0,e0,H⟩:=bj H
 refine qr [.a 4 (Bn _ _ _ e0 h _ (fw (ah (ez (q:=0) o rfl (ah (fW) (ah (cZ (E:=ai) (l:=s0.aa) (q:=1) o rfl (fun _=>rfl)) (ah (cZ (E:=af) (l:=s0.ae) (q:=2) o rfl (fun _=>rfl)) (aw))))) (ah (qL (E:=af) (l:=[a0,b0]) (cs:=[.int .i64 a0,.int .i64 b0]) (b:=true) (by kernel_rfl) (by kernel_rfl) rfl) (aw)))))] <| qq <| q0 <| qc H (fun c0 H=>?_) (fun c0 H=>?_)
 ·refine q1 ?_
  have o0:Has h (((0),.sl (([]:List Int).length) 1 (af.l ([]:List Int)))::(aq,.ob [.bool s0.aj,.rs an 0 s0.aa.length 4,.rs ao 0 s0.ae.length 1])::(an,.sl s0.aa.length 4 (ai.l s0.aa))::(ao,.sl s0.ae.length 1 (af.l s0.ae))::L):=Has.nil o 1
  obtain rfl:=oi H
  exact qt <| ⟨.inl rfl,⟨(0),an,ao,by kernel_rfl,he o0⟩⟩
 ·refine qk <| qq ?_
  obtain⟨x1,e1,H⟩:=bj H
  obtain⟨aE,cy,dY,h0,e2,o1⟩:=LD _ _ _ _ e1 h _ _ _ _ (o)  [.ptr aq 0,.int .i64 a0,.int .i64 b0] (au (rfl) (au (aP (bm)) (au (aP (bm)) (bN))))
  refine qr [.a 3 e2] <| qq <| qq <| q0 <| qc H (fun c1 H=>?_) (fun c1 H=>?_)
  ·refine qq ?_
   obtain⟨h1,e3,o2⟩:=qK (E:=af) (l:=x1.1) (q:=0) o1 rfl
   obtain⟨x2,e4,H⟩:=bj H
   obtain⟨cW,dD,h2,e5,o3⟩:=LF _ _ _ e4 h1 _ _ _ _ (o2)  [.ptr aq 0,af.fz x1.1] (au (rfl) (au (aP (oH (E:=af))) (bN)))
   refine My [.a 0 e3] [.a 2 e5] <| qq <| q0 ?_
   have o4:Has h2 ((((0)),.sl (([]:List Int).length) 1 (af.l ([]:List Int)))::(aq,.ob [.bool x2.aj,.rs cW 0 x2.aa.length 4,.rs dD 0 x2.ae.length 1])::(cW,.sl x2.aa.length 4 (ai.l x2.aa))::(dD,.sl x2.ae.length 1 (af.l x2.ae))::L):=Has.nil o3 1
   obtain rfl:=oi H
   exact qt <| ⟨.inl rfl,⟨((0)),cW,dD,by kernel_rfl,he o4⟩⟩
  ·refine qk <| qq ?_
   obtain⟨x3,e6,H⟩:=bj H
   obtain⟨ff,h3,e7,o5,HX⟩:=LG _ _ _ e6 h0 _ _ o1 (fw (ah (ez (q:=1) o1 rfl (ah (fW) (ah (cZ (E:=ai) (l:=x1.2.2.aa) (q:=2) o1 rfl (fun _=>rfl)) (ah (cZ (E:=af) (l:=x1.2.2.ae) (q:=3) o1 rfl (fun _=>rfl)) (aw))))) (ah (cZ (E:=af) (l:=x1.1) (q:=0) o1 rfl (fun _=>rfl)) (aw))))
   refine qr [.a 2 e7] ?_
   have o6:Has h3 ((ff,.sl x3.length 1 (af.l x3))::(aq,.ob [.bool x1.2.2.aj,.rs cy 0 x1.2.2.aa.length 4,.rs dY 0 x1.2.2.ae.length 1])::(cy,.sl x1.2.2.aa.length 4 (ai.l x1.2.2.aa))::(dY,.sl x1.2.2.ae.length 1 (af.l x1.2.2.ae))::L):=Has.del o5 1
   obtain rfl:=oi H
   exact qt <| ⟨.inl rfl,⟨ff,cy,dY,by kernel_rfl,he o6⟩⟩
end
end Go.Proofs.Ytifafejidnjckaa
namespace Go.Proofs.Ytifafejidnjckaa
open Go Go.R
open Go.IntKind (i64 u64 u8 u32)
def kV.f (m:Nat)(s0:ab)(n0:Int):Option (ak × Int):=(b5.f m s0 ([n0])).bind fun x0=>if (!(x0==(0:Int)))=true then (some ((ak.mk (0:Int) (0:Int) (aaq #[]) ([]:List Int)),x0)) else ((bh.f m s0 n0).bind fun x1=>(bl.f m s0 x1).bind fun x2=>some (x2,(0:Int)))
end Go.Proofs.Ytifafejidnjckaa
namespace Go.Proofs.Ytifafejidnjckaa
open Go Go.R
open Go.IntKind (i64 u64 u8 u32)
def C7:b9:=gW [0,1,2,6,7,8,9,10,11,12,19,34,37] [] [8184,8120,7096,8135,7806,7806,7423,5631,8135,3583,8135,8135] [(5,[(10,none,0)])] [(0,[(7,none,1)]),(3,[(7,none,1)]),(8,[(7,none,1)]),(10,[(7,none,1)])]
def bT.f (m:Nat)(s0:ab)(a0:Int)(b0:Int):Option (Int × (List Int) × Int × ab):=(b5.f m s0 ([a0,b0])).bind fun x0=>if (!(x0==(0:Int)))=true then (some ((0:Int),([]:List Int),x0,s0)) else ((aB.f m s0 a0 b0).bind fun x1=>(bu.f m x1.2.2 x1.1).bind fun x2=>(dm.f m x2 x1.1).bind fun x3=>if (!x1.2.1)=true then (some ((0:Int),([]:List Int),(0:Int),x2)) else (if ((x3.length:Int)==(0:Int))=true then (some ((1:Int),([]:List Int),(0:Int),x2)) else (some ((-1:Int),x3,(0:Int),x2))))
def bT.fin (L:Mem)(aq:Nat)(an:Nat)(ao:Nat)(s0:ab)(a0:Int)(b0:Int)(r:Int × (List Int) × Int × ab)(s:St):Prop:=∃Fc aC aD:Nat,aO Try.prog (s.open C7) Try.f23.results.toList=some (.tup [.int .i64 r.1,.rs Fc 0 r.2.1.length 1,.int .i64 r.2.2.1])∧Has s.h ((Fc,.sl r.2.1.length 1 (af.l r.2.1))::(aq,.ob [.bool r.2.2.2.aj,.rs aC 0 r.2.2.2.aa.length 4,.rs aD 0 r.2.2.2.ae.length 1])::(aC,.sl r.2.2.2.aa.length 4 (ai.l r.2.2.2.aa))::(aD,.sl r.2.2.2.ae.length 1 (af.l r.2.2.2.ae))::L)
def Ph (cf:CallF)(m:Nat):Prop:=∀(s0:ab) (a0:Int) (b0:Int) (r:Int × (List Int) × Int × ab),bT.f m s0 a0 b0=some r→∀h L (aq:Nat) (an:Nat) (ao:Nat),Has h ((aq,.ob [.bool s0.aj,.rs an 0 s0.aa.length 4,.rs ao 0 s0.ae.length 1])::(an,.sl s0.aa.length 4 (ai.l s0.aa))::(ao,.sl s0.ae.length 1 (af.l s0.ae))::L)→∀xs,xs.map aS=[.ptr aq 0,.int .i64 a0,.int .i64 b0]→∃Fc aC aD h',cf 23 xs h=some (.tup [.int .i64 r.1,.rs Fc 0 r.2.1.length 1,.int .i64 r.2.2.1],h')∧Has h' ((Fc,.sl r.2.1.length 1 (af.l r.2.1))::(aq,.ob [.bool r.2.2.2.aj,.rs aC 0 r.2.2.2.aa.length 4,.rs aD 0 r.2.2.2.ae.length 1])::(aC,.sl r.2.2.2.aa.length 4 (ai.l r.2.2.2.aa))::(aD,.sl r.2.2.2.ae.length 1 (af.l r.2.2.2.ae))::L)
section
variable {cf:CallF}{m:Nat}
theorem mZ {aY:FuncId→b9}(ha:aY 23=C7)(Bn:NY cf m)(LD:Ra cf m)(LF:QE cf m)(LG:Ri cf m)(s0:ab)(a0:Int)(b0:Int)(h:AHeap)(L:Mem)(aq:Nat)(an:Nat)(ao:Nat)  (o:Has h ((aq,.ob [.bool s0.aj,.rs an 0 s0.aa.length 4,.rs ao 0 s0.ae.length 1])::(an,.sl s0.aa.length 4 (ai.l s0.aa))::(ao,.sl s0.ae.length 1 (af.l s0.ae))::L)){out:Int × (List Int) × Int × ab}(H:bT.f m s0 a0 b0=some out) :
  ∃r h',bf Try.prog aY cf m 23 [.ptr aq 0,.int .i64 a0,.int .i64 b0] h=some (r,h')∧∃Fc aC aD:Nat,r = .tup [.int .i64 out.1,.rs Fc 0 out.2.1.length 1,.int .i64 out.2.2.1]∧Has h' ((Fc,.sl out.2.1.length 1 (af.l out.2.1))::(aq,.ob [.bool out.2.2.2.aj,.rs aC 0 out.2.2.2.aa.length 4,.rs aD 0 out.2.2.2.ae.length 1])::(aC,.sl out.2.2.2.aa.length 4 (ai.l out.2.2.2.aa))::(aD,.sl out.2.2.2.ae.length 1 (af.l out.2.2.2.ae))::L):=by
 refine ar (fn:=Try.f23) ha Try.func23 (by kernel_rfl) (by kernel_rfl) ?_
 refine aH (Q:=fun s=>bT.fin L aq an ao s0 a0 b0 out s) (fun _ _ ⟨h1,Fc,aC,aD,h2,h3⟩=>⟨h1,_,h2,Fc,aC,aD,rfl,h3⟩) ?_
 have H:_=some out:=H
 unfold bT.f at H
 show dK _ cf C7 m _ ⟨.ptr aq 0 :: .int .i64 a0 :: .int .i64 b0::Ge [],[],h⟩ _
 refine q1 <| qq <| qq ?_
 obtain⟨x0,e0,H⟩:=bj H
 refine qr [.a 4 (Bn _ _ _ e0 h _ (fw (ah (ez (q:=0) o rfl (ah (fW) (ah (cZ (E:=ai) (l:=s0.aa) (q:=1) o rfl (fun _=>rfl)) (ah (cZ (E:=af) (l:=s0.ae) (q:=2) o rfl (fun _=>rfl)) (aw))))) (ah (qL (E:=af) (l:=[a0,b0]) (cs:=[.int .i64 a0,.int .i64 b0]) (b:=true) (by kernel_rfl) (by kernel_rfl) rfl) (aw)))))] <| qq <| q0 <| qc H (fun c0 H=>?_) (fun c0 H=>?_)
 ·refine q1 ?_
  have o0:Has h (((0),.sl (([]:List Int).length) 1 (af.l ([]:List Int)))::(aq,.ob [.bool s0.aj,.rs an 0 s0.aa.length 4,.rs ao 0 s0.ae.length 1])::(an,.sl s0.aa.length 4 (ai.l s0.aa))::(ao,.sl s0.ae.length 1 (af.l s0.ae))::L):=Has.nil o 1
  obtain rfl:=oi H
  exact qt <| ⟨.inl rfl,⟨(0),an,ao,by kernel_rfl,he o0⟩⟩
 ·refine qk <| qq ?_
  obtain⟨x1,e1,H⟩:=bj H
  obtain⟨aE,cy,dY,h0,e2,o1⟩:=LD _ _ _ _ e1 h _ _ _ _ (o)  [.ptr aq 0,.int .i64 a0,.int .i64 b0] (au (rfl) (au (aP (bm)) (au (aP (bm)) (bN))))
  refine qr [.a 3 e2] <| qq ?_
  obtain⟨h1,e3,o2⟩:=qK (E:=af) (l:=x1.1) (q:=0) o1 rfl
  obtain⟨x2,e4,H⟩:=bj H
  obtain⟨cW,dD,h2,e5,o3⟩:=LF _ _ _ e4 h1 _ _ _ _ (o2)  [.ptr aq 0,af.fz x1.1] (au (rfl) (au (aP (oH (E:=af))) (bN)))
  refine My [.a 0 e3] [.a 2 e5] <| qq ?_
  obtain⟨x3,e6,H⟩:=bj H
  obtain⟨ff,h3,e7,o4,HX⟩:=LG _ _ _ e6 h2 _ _ o3 (fw (ah (ez (q:=0) o3 rfl (ah (fW) (ah (cZ (E:=ai) (l:=x2.aa) (q:=1) o3 rfl (fun _=>rfl)) (ah (cZ (E:=af) (l:=x2.ae) (q:=2) o3 rfl (fun _=>rfl)) (aw))))) (ah (dU (E:=af)) (aw))))
  refine qr [.a 2 e7] <| qq <| qb 0 <| qq <| q0 <| qc H (fun c1 H=>?_) (fun c1 H=>?_)
  ·refine q1 ?_
   have o5:Has h3 ((((0)),.sl (([]:List Int).length) 1 (af.l ([]:List Int)))::(ff,.sl x3.length 1 (af.l x3))::(aq,.ob [.bool x2.aj,.rs cW 0 x2.aa.length 4,.rs dD 0 x2.ae.length 1])::(cW,.sl x2.aa.length 4 (ai.l x2.aa))::(dD,.sl x2.ae.length 1 (af.l x2.ae))::L):=Has.nil o4 1
   have o6:Has h3 ((((0)),.sl (([]:List Int).length) 1 (af.l ([]:List Int)))::(aq,.ob [.bool x2.aj,.rs cW 0 x2.aa.length 4,.rs dD 0 x2.ae.length 1])::(cW,.sl x2.aa.length 4 (ai.l x2.aa))::(dD,.sl x2.ae.length 1 (af.l x2.ae))::L):=Has.del o5 1
   obtain rfl:=oi H
   exact qt <| ⟨.inl rfl,⟨((0)),cW,dD,by kernel_rfl,he o6⟩⟩
  ·refine q1 <| qc H (fun c2 H=>?_) (fun c2 H=>?_)
   ·refine q1 ?_
    have o7:Has h3 (((((0))),.sl (([]:List Int).length) 1 (af.l ([]:List Int)))::(ff,.sl x3.length 1 (af.l x3))::(aq,.ob [.bool x2.aj,.rs cW 0 x2.aa.length 4,.rs dD 0 x2.ae.length 1])::(cW,.sl x2.aa.length 4 (ai.l x2.aa))::(dD,.sl x2.ae.length 1 (af.l x2.ae))::L):=Has.nil o4 1
    have o8:Has h3 (((((0))),.sl (([]:List Int).length) 1 (af.l ([]:List Int)))::(aq,.ob [.bool x2.aj,.rs cW 0 x2.aa.length 4,.rs dD 0 x2.ae.length 1])::(cW,.sl x2.aa.length 4 (ai.l x2.aa))::(dD,.sl x2.ae.length 1 (af.l x2.ae))::L):=Has.del o7 1
    obtain rfl:=oi H
    exact qt <| ⟨.inl rfl,⟨(((0))),cW,dD,by kernel_rfl,he o8⟩⟩
   ·obtain rfl:=oi H
    exact qk <| qq <| q0 <| qt <| ⟨.inl rfl,⟨ff,cW,dD,by kernel_rfl,he o4⟩⟩
end
end Go.Proofs.Ytifafejidnjckaa
namespace Go.Proofs.Ytifafejidnjckaa
open Go Go.R
open Go.IntKind (i64 u64 u8 u32)
def C8:b9:=gW [0,1,4,5,6,12] [] [60,44,12,51,51] [] []
def eM.f (m:Nat)(s0:ab)(n0:Int):Option (Int × Int):=(b5.f m s0 ([n0])).bind fun x0=>if (!(x0==(0:Int)))=true then (some ((0:Int),x0)) else ((bh.f m s0 n0).bind fun x1=>some (x1,(0:Int)))
def eM.fin (L:Mem)(r:Int × Int)(s:St):Prop:=∃av,aO Try.prog (s.open C8) Try.f24.results.toList=some av∧fG s.h av (.tup [.int .i64 r.1,.int .i64 r.2])
def Rv (cf:CallF)(m:Nat):Prop:=∀(s0:ab) (n0:Int) (r:Int × Int),eM.f m s0 n0=some r→∀h xs,aU bR h xs [.fp [.bool s0.aj,ai.fz s0.aa,af.fz s0.ae] 0,.int .i64 n0]→cf 24 xs h=some (.tup [.int .i64 r.1,.int .i64 r.2],h)
section
variable {cf:CallF}{m:Nat}
theorem nO {aY:FuncId→b9}(ha:aY 24=C8)(Bn:NY cf m)(nI:I3 cf m)(s0:ab)(n0:Int)(h:AHeap)(L:Mem)  (o:Has h (L)){out:Int × Int}(H:eM.f m s0 n0=some out) :
  ∃r h',bf Try.prog aY cf m 24 [.fp [.bool s0.aj,ai.fz s0.aa,af.fz s0.ae] 0,.int .i64 n0] h=some (r,h')∧fG h' r (.tup [.int .i64 out.1,.int .i64 out.2]):=by
 refine ar (fn:=Try.f24) ha Try.func24 (by kernel_rfl) (by kernel_rfl) ?_
 refine aH (Q:=fun s=>eM.fin L out s) (fun _ _ h=>h) ?_
 have H:_=some out:=H
 unfold eM.f at H
 show dK _ cf C8 m _ ⟨.fp [.bool s0.aj,ai.fz s0.aa,af.fz s0.ae] 0 :: .int .i64 n0::oZ [],[],h⟩ _
 refine q1 <| qq <| qq ?_
 obtain⟨x0,e0,H⟩:=bj H
 refine qr [.a 3 (Bn _ _ _ e0 h _ (fw (ah (fK (pure_cons (cJ) (pure_cons (bQ.bA (E:=ai) (l:=s0.aa)) (pure_cons (bQ.bA (E:=af) (l:=s0.ae)) (pure_nil))))) (ah (qL (E:=af) (l:=[n0]) (cs:=[.int .i64 n0]) (b:=true) (by kernel_rfl) (by kernel_rfl) rfl) (aw)))))] <| qq <| q0 <| qc H (fun c0 H=>?_) (fun c0 H=>?_)
 ·obtain rfl:=oi H
  exact q1 <| qt <| ⟨.inl rfl,cV (.tup [.int .i64 (0:Int),.int .i64 x0]) h (cP (tA (jB (dr) (jB (dr) (tz)))))⟩
 ·refine qk <| qq ?_
  obtain⟨x1,e1,H⟩:=bj H
  obtain rfl:=oi H
  exact qr [.a 2 (nI _ _ _ e1 h _ (fw (ah (fK (pure_cons (cJ) (pure_cons (bQ.bA (E:=ai) (l:=s0.aa)) (pure_cons (bQ.bA (E:=af) (l:=s0.ae)) (pure_nil))))) (ah (aZ) (aw)))))] <| qt <| ⟨.inl rfl,cV (.tup [.int .i64 x1,.int .i64 (0:Int)]) h (cP (tA (jB (dr) (jB (dr) (tz)))))⟩
end
end Go.Proofs.Ytifafejidnjckaa
namespace Go.Proofs.Ytifafejidnjckaa
open Go Go.R
open Go.IntKind (i64 u64 u8 u32)
def C9:b9:=gW [0,1,2,3,4,5,6,7,8] [1000000014] [455,199,319] [] []
def eJ.f (m:Nat)(s0:ab)(cR:ByteArray)(dZ:List Int):Option (Int × Int × ab):=(Aj 1 dZ).bind fun x0=>(cC.f m s0 (dc.f m cR dZ s0) (ak.mk (3:Int) (0:Int) cR x0)).bind fun x1=>some (x1.1,x1.2.1,x1.2.2)
def eJ.fin (L:Mem)(aq:Nat)(an:Nat)(ao:Nat)(s0:ab)(cR:ByteArray)(dZ:List Int)(r:Int × Int × ab)(s:St):Prop:=∃aC aD:Nat,aO Try.prog (s.open C9) Try.f34.results.toList=some (.tup [.int .i64 r.1,.int .i64 r.2.1])∧Has s.h ((aq,.ob [.bool r.2.2.aj,.rs aC 0 r.2.2.aa.length 4,.rs aD 0 r.2.2.ae.length 1])::(aC,.sl r.2.2.aa.length 4 (ai.l r.2.2.aa))::(aD,.sl r.2.2.ae.length 1 (af.l r.2.2.ae))::L)
def UF (cf:CallF)(m:Nat):Prop:=∀(s0:ab) (cR:ByteArray) (dZ:List Int) (r:Int × Int × ab),eJ.f m s0 cR dZ=some r→∀h L (aq:Nat) (an:Nat) (ao:Nat),Has h ((aq,.ob [.bool s0.aj,.rs an 0 s0.aa.length 4,.rs ao 0 s0.ae.length 1])::(an,.sl s0.aa.length 4 (ai.l s0.aa))::(ao,.sl s0.ae.length 1 (af.l s0.ae))::L)→∀xs,xs.map aS=[.ptr aq 0,.str cR,af.fz dZ]→∃aC aD h',cf 34 xs h=some (.tup [.int .i64 r.1,.int .i64 r.2.1],h')∧Has h' ((aq,.ob [.bool r.2.2.aj,.rs aC 0 r.2.2.aa.length 4,.rs aD 0 r.2.2.ae.length 1])::(aC,.sl r.2.2.aa.length 4 (ai.l r.2.2.aa))::(aD,.sl r.2.2.ae.length 1 (af.l r.2.2.ae))::L)
section
variable {cf:CallF}{m:Nat}
theorem mD {aY:FuncId→b9}(ha:aY 34=C9)(Bi:O9 cf m)(xA:MC cf m)(Rw:UC cf m)(s0:ab)(cR:ByteArray)(dZ:List Int)(h:AHeap)(L:Mem)(aq:Nat)(an:Nat)(ao:Nat)  (o:Has h ((aq,.ob [.bool s0.aj,.rs an 0 s0.aa.length 4,.rs ao 0 s0.ae.length 1])::(an,.sl s0.aa.length 4 (ai.l s0.aa))::(ao,.sl s0.ae.length 1 (af.l s0.ae))::L)){out:Int × Int × ab}(H:eJ.f m s0 cR dZ=some out) :
  ∃r h',bf Try.prog aY cf m 34 [.ptr aq 0,.str cR,af.fz dZ] h=some (r,h')∧∃aC aD:Nat,r = .tup [.int .i64 out.1,.int .i64 out.2.1]∧Has h' ((aq,.ob [.bool out.2.2.aj,.rs aC 0 out.2.2.aa.length 4,.rs aD 0 out.2.2.ae.length 1])::(aC,.sl out.2.2.aa.length 4 (ai.l out.2.2.aa))::(aD,.sl out.2.2.ae.length 1 (af.l out.2.2.ae))::L):=by
 refine ar (fn:=Try.f34) ha Try.func34 (by kernel_rfl) (by kernel_rfl) ?_
 refine aH (Q:=fun s=>eJ.fin L aq an ao s0 cR dZ out s) (fun _ _ ⟨h1,aC,aD,h2,h3⟩=>⟨h1,_,h2,aC,aD,rfl,h3⟩) ?_
 have H:_=some out:=H
 unfold eJ.f at H
 show dK _ cf C9 m _ ⟨.ptr aq 0 :: .str cR::af.fz dZ::yZ [],[none],h⟩ _
 refine qq ?_
 obtain⟨aE,h0,e0,o0⟩:=gJ (cs:=[.ptr aq 0]) o (by kernel_rfl)
 obtain⟨cy,h1,e1,o1⟩:=gJ (cs:=[.str cR]) o0 (by kernel_rfl)
 obtain⟨dY,h2,e2,o2⟩:=gJ (cs:=[af.fz dZ]) o1 (by kernel_rfl)
 refine qr [.a 0 e0,.a 1 e1,.a 2 e2] <| qq <| q0 <| qq ?_
 obtain⟨x0,e3,H⟩:=bj H
 obtain⟨cW,h3,e4,o3⟩:=J3 (E:=af) (l:=dZ) Bi o2 e3
 obtain⟨h4,e5,o4⟩:=qK (E:=af) (l:=x0) (q:=0) o3 rfl
 obtain⟨x1,e6,H⟩:=bj H
 obtain⟨dD,ff,h5,e7,o5⟩:=xA _ _ _ _ e6 h4 _ _ _ _ ((Has.front (Has.front (Has.front (Has.front (Has.front (Has.front o4 2 rfl) 2 rfl) 2 rfl) 5 rfl) 5 rfl) 5 rfl)) 61 [.ptr cy 0,.ptr dY 0,.ptr aE 0] [.fp [.str cR] 0,.fp [af.fz dZ] 0,.fp [.fp [.bool s0.aj,ai.fz s0.aa,af.fz s0.ae] 0] 0] rfl (fun h' tS  r hr hx=>Rw _ _ _ r hr h' tS hx) (fun h' K' o'=>jf (ah (ez (q:=(K'.length+4)) o' (jQ rfl) (ah (cK) (aw))) (ah (ez (q:=(K'.length+3)) o' (jQ rfl) (ah (dU (E:=af)) (aw))) (ah (ez (q:=(K'.length+5)) o' (jQ rfl) (ah (ez (q:=(K'.length+0)) o' (jQ rfl) (ah (fW) (ah (cZ (E:=ai) (l:=s0.aa) (q:=(K'.length+1)) o' (jQ rfl) (fun _=>rfl)) (ah (cZ (E:=af) (l:=s0.ae) (q:=(K'.length+2)) o' (jQ rfl) (fun _=>rfl)) (aw))))) (aw))) (aw))))) (fun h_=>jf (ah (fK (pure_cons (nA) (pure_nil))) (ah (fK (pure_cons (bQ.bA (E:=af) (l:=dZ)) (pure_nil))) (ah (fK (pure_cons (ml (pure_cons (cJ) (pure_cons (bQ.bA (E:=ai) (l:=s0.aa)) (pure_cons (bQ.bA (E:=af) (l:=s0.ae)) (pure_nil))))) (pure_nil))) (aw))))) [.ptr aq 0,.fn 61 [.ptr cy 0,.ptr dY 0,.ptr aE 0],.agg [.int .i64 (3:Int),.int .i64 (0:Int),.str cR,af.fz x0]] (au (rfl) (au (rfl) (au (aP (nE (cd (bm) (cd (bm) (cd (lf) (cd (oH (E:=af)) (nD))))))) (bN))))
 refine Mz [] [.v 0 (show bE Try.prog h2 28 (.ptr aE 0)=some (.ptr aq 0) from cq (q:=2) (cs:=[.ptr aq 0]) o2 rfl (by kernel_rfl)),.v 2 (show bE Try.prog h2 9 (.ptr cy 0)=some (.str cR) from cq (q:=1) (cs:=[.str cR]) o2 rfl (by kernel_rfl)),.v 3 (show bE Try.prog h2 33 (.ptr dY 0)=some (af.fz dZ) from cq (q:=0) (cs:=[af.fz dZ]) o2 rfl (by kernel_rfl)),.a 4 (NL e4 e5),.a 6 e7] [.mk ((A5 Bi o2 (q2:=2) rfl e4).trans (Gq (E:=af) (l:=x0) o3 (q:=0) (q2:=3) rfl rfl e5)),.mk ((A5 Bi o2 (q2:=1) rfl e4).trans (Gq (E:=af) (l:=x0) o3 (q:=0) (q2:=2) rfl rfl e5))] ?_
 have o6:Has h5 ((aq,.ob [.bool x1.2.2.aj,.rs dD 0 x1.2.2.aa.length 4,.rs ff 0 x1.2.2.ae.length 1])::(dD,.sl x1.2.2.aa.length 4 (ai.l x1.2.2.aa))::(ff,.sl x1.2.2.ae.length 1 (af.l x1.2.2.ae))::(dY,.ob [af.fz dZ])::(cy,.ob [.str cR])::L):=Has.del o5 5
 have o7:Has h5 ((aq,.ob [.bool x1.2.2.aj,.rs dD 0 x1.2.2.aa.length 4,.rs ff 0 x1.2.2.ae.length 1])::(dD,.sl x1.2.2.aa.length 4 (ai.l x1.2.2.aa))::(ff,.sl x1.2.2.ae.length 1 (af.l x1.2.2.ae))::(dY,.ob [af.fz dZ])::L):=Has.del o6 4
 have o8:Has h5 ((aq,.ob [.bool x1.2.2.aj,.rs dD 0 x1.2.2.aa.length 4,.rs ff 0 x1.2.2.ae.length 1])::(dD,.sl x1.2.2.aa.length 4 (ai.l x1.2.2.aa))::(ff,.sl x1.2.2.ae.length 1 (af.l x1.2.2.ae))::L):=Has.del o7 3
 obtain rfl:=oi H
 exact qt <| ⟨.inl rfl,⟨dD,ff,by kernel_rfl,he o8⟩⟩
end
end Go.Proofs.Ytifafejidnjckaa
namespace Go.Proofs.Ytifafejidnjckaa
open Go Go.R
open Go.IntKind (i64 u64 u8 u32)
def Da:b9:=gW [0,1] [] [2,1] [] []
def dV.f (m:Nat)(x0:ByteArray):Option (Bool):=(gv.f m x0).bind fun x1=>some x1
def dV.fin (L:Mem)(r:Bool)(s:St):Prop:=∃av,aO Try.prog (s.open Da) Try.f49.results.toList=some av∧fG s.h av (.bool r)
def UG (cf:CallF)(m:Nat):Prop:=∀(x0:ByteArray) (r:Bool),dV.f m x0=some r→∀h xs,aU bR h xs [.fp [.str x0] 0]→cf 49 xs h=some (.bool r,h)
section
variable {cf:CallF}{m:Nat}
theorem lQ {aY:FuncId→b9}(ha:aY 49=Da)(qS:Pc cf m)(x0:ByteArray)(h:AHeap)(L:Mem)  (o:Has h (L)){out:Bool}(H:dV.f m x0=some out) :
  ∃r h',bf Try.prog aY cf m 49 [.fp [.str x0] 0] h=some (r,h')∧fG h' r (.bool out):=by
 refine ar (fn:=Try.f49) ha Try.func49 (by kernel_rfl) (by kernel_rfl) ?_
 refine aH (Q:=fun s=>dV.fin L out s) (fun _ _ h=>h) ?_
 have H:_=some out:=H
 unfold dV.f at H
 show dK _ cf Da m _ ⟨[.fp [.str x0] 0,.any],[],h⟩ _
 refine q1 <| qq ?_
 obtain⟨x1,e0,H⟩:=bj H
 obtain rfl:=oi H
 exact qr [.a 1 (qS _ _ e0 h _ (fw (ah (cK) (aw))))] <| qt <| ⟨.inl rfl,cV (.bool x1) h (cP (az))⟩
end
end Go.Proofs.Ytifafejidnjckaa
namespace Go.Proofs.Ytifafejidnjckaa
open Go Go.R
open Go.IntKind (i64 u64 u8 u32)
def Db:b9:=gW [0,1,2,3] [2] [9,7] [] []
def gM.f (m:Nat)(n0:ak)(x0:bg):Option (Bool):=(iX.f m n0 (x0.nodes.length:Int)).bind fun x1=>some (!x1)
def gM.fin (L:Mem)(r:Bool)(s:St):Prop:=∃av,aO Try.prog (s.open Db) Try.f66.results.toList=some av∧fG s.h av (.bool r)
def UH (cf:CallF)(m:Nat):Prop:=∀(n0:ak) (x0:bg) (r:Bool),gM.f m n0 x0=some r→∀h xs,aU bR h xs [.agg [.int .i64 n0.kind,.int .i64 n0.int,.str n0.label,af.fz n0.args],.fp [ai.fz x0.nodes,.int .i64 x0.root] 0]→cf 66 xs h=some (.bool r,h)
section
variable {cf:CallF}{m:Nat}
theorem p8 {aY:FuncId→b9}(ha:aY 66=Db)(Rx:UD cf m)(n0:ak)(x0:bg)(h:AHeap)(L:Mem)  (o:Has h (L)){out:Bool}(H:gM.f m n0 x0=some out) :
  ∃r h',bf Try.prog aY cf m 66 [.agg [.int .i64 n0.kind,.int .i64 n0.int,.str n0.label,af.fz n0.args],.fp [ai.fz x0.nodes,.int .i64 x0.root] 0] h=some (r,h')∧fG h' r (.bool out):=by
 refine ar (fn:=Try.f66) ha Try.func66 (by kernel_rfl) (by kernel_rfl) ?_
 refine aH (Q:=fun s=>gM.fin L out s) (fun _ _ h=>h) ?_
 have H:_=some out:=H
 unfold gM.f at H
 show dK _ cf Db m _ ⟨[.agg [.int .i64 n0.kind,.int .i64 n0.int,.str n0.label,af.fz n0.args],.fp [ai.fz x0.nodes,.int .i64 x0.root] 0,.any,.any],[none],h⟩ _
 refine q1 <| qq ?_
 obtain⟨x1,e0,H⟩:=bj H
 obtain rfl:=oi H
 exact qr [.a 4 (Rx _ _ _ e0 h _ (fw (ah (eV (ah (aZ) (ah (aZ) (ah (cK) (ah (dU (E:=af)) (aw)))))) (ah (aZ) (aw)))))] <| qt <| ⟨.inl rfl,cV (.bool (!x1)) h (cP (az))⟩
end
end Go.Proofs.Ytifafejidnjckaa
namespace Go.Proofs.Ytifafejidnjckaa
open Go Go.R
open Go.IntKind (i64 u64 u8 u32)
def Dc:b9:=gW [0,1,2,3,4] [2,3] [19,15] [] []
def dT.f (m:Nat)(m0:ak)(n0:ak):Option (Bool):=(dz.f m m0 n0).bind fun x0=>if (x0==(0:Int))=true then ((bK.f m m0.args n0.args).bind fun x1=>some x1) else (some false)
def dT.fin (L:Mem)(r:Bool)(s:St):Prop:=∃av,aO Try.prog (s.open Dc) Try.f69.results.toList=some av∧fG s.h av (.bool r)
def UI (cf:CallF)(m:Nat):Prop:=∀(m0:ak) (n0:ak) (r:Bool),dT.f m m0 n0=some r→∀h xs,aU bR h xs [.agg [.int .i64 m0.kind,.int .i64 m0.int,.str m0.label,af.fz m0.args],.agg [.int .i64 n0.kind,.int .i64 n0.int,.str n0.label,af.fz n0.args]]→cf 69 xs h=some (.bool r,h)
section
variable {cf:CallF}{m:Nat}
theorem p9 {aY:FuncId→b9}(ha:aY 69=Dc)(zD:N0 cf m)(Ry:Uj cf m)(m0:ak)(n0:ak)(h:AHeap)(L:Mem)  (o:Has h (L)){out:Bool}(H:dT.f m m0 n0=some out) :
  ∃r h',bf Try.prog aY cf m 69 [.agg [.int .i64 m0.kind,.int .i64 m0.int,.str m0.label,af.fz m0.args],.agg [.int .i64 n0.kind,.int .i64 n0.int,.str n0.label,af.fz n0.args]] h=some (r,h')∧fG h' r (.bool out):=by
 refine ar (fn:=Try.f69) ha Try.func69 (by kernel_rfl) (by kernel_rfl) ?_
 refine aH (Q:=fun s=>dT.fin L out s) (fun _ _ h=>h) ?_
 have H:_=some out:=H
 unfold dT.f at H
 show dK _ cf Dc m _ ⟨.agg [.int .i64 m0.kind,.int .i64 m0.int,.str m0.label,af.fz m0.args] :: .agg [.int .i64 n0.kind,.int .i64 n0.int,.str n0.label,af.fz n0.args]::ov [],[none,none],h⟩ _
 refine q1 <| qq ?_
 obtain⟨x0,e0,H⟩:=bj H
 rcases gS H with⟨c0,H⟩| ⟨c0,H⟩
 ·obtain⟨x1,e1,H⟩:=bj H
  obtain rfl:=oi H
  exact qr [.a 2 (zD _ _ _ e0 h _ (fw (ah (eV (ah (aZ) (ah (aZ) (ah (cK) (ah (dU (E:=af)) (aw)))))) (ah (eV (ah (aZ) (ah (aZ) (ah (cK) (ah (dU (E:=af)) (aw)))))) (aw))))),.b 4 c0,.a 9 (Ry _ _ _ e1 h _ (fw (ah (dU (E:=af)) (ah (dU (E:=af)) (aw)))))] <| qt <| ⟨.inl rfl,cV (.bool x1) h (cP (az))⟩
 ·obtain rfl:=oi H
  exact qr [.a 2 (zD _ _ _ e0 h _ (fw (ah (eV (ah (aZ) (ah (aZ) (ah (cK) (ah (dU (E:=af)) (aw)))))) (ah (eV (ah (aZ) (ah (aZ) (ah (cK) (ah (dU (E:=af)) (aw)))))) (aw))))),.b 4 c0] <| qt <| ⟨.inl rfl,cV (.bool false) h (cP (az))⟩
end
end Go.Proofs.Ytifafejidnjckaa
namespace Go.Proofs.Ytifafejidnjckaa
open Go Go.R
open Go.IntKind (i64 u64 u8 u32)
def ud:b9:=gW [0,1,2,6,7,8,9,13,30,35,54] [] [2032,1984,1856,2000,1984,1984,2032,1776,1984,1472,2000,1984,1984,1952,928,2032,2032] [] []
def b7.l0 (m:Nat)(n0:Int)(a7:Int→Int→Option (Int)):Nat→(List Int)→Int→Int→Option ((List Int) × Int × Int)
 | 0,_,_,_=>none
 | k+1,bF,a0,b0=>if (decide (b0≤n0))=true then ((bb.f m bF a0 b0 a7).bind fun x0=>b7.l0 m n0 a7 k x0 b0 (i64.wrap (b0+(20:Int)))) else (some ((bF,a0,b0)))
def b7.l2 (m:Nat)(n0:Int)(a7:Int→Int→Option (Int))(bz:Int):Nat→(List Int)→Int→Int→Option ((List Int) × Int × Int)
 | 0,_,_,_=>none
 | k+1,jX,a2,b2=>if (decide (b2≤n0))=true then ((aM.f m m jX a2 (i64.wrap (a2+bz)) b2 a7).bind fun x2=>b7.l2 m n0 a7 bz k x2 b2 (i64.wrap (b2+i64.wrap ((2:Int)*bz)))) else (some ((jX,a2,b2)))
def b7.l1 (m:Nat)(n0:Int)(a7:Int→Int→Option (Int)):Nat→(List Int)→Int→Option ((List Int) × Int)
 | 0,_,_=>none
 | k+1,eF,bz=>if (decide (bz<n0))=true then ((b7.l2 m n0 a7 bz m eF (0:Int) (i64.wrap ((2:Int)*bz))).bind fun cD=>match cD with | (lP,a3,b3)=>if (decide ((i64.wrap (a3+bz))<n0))=true then ((aM.f m m lP a3 (i64.wrap (a3+bz)) n0 a7).bind fun x3=>b7.l1 m n0 a7 k x3 (i64.wrap (bz*(2:Int)))) else (b7.l1 m n0 a7 k lP (i64.wrap (bz*(2:Int))))) else (some ((eF,bz)))
def b7.f (m:Nat)(ax:List Int)(n0:Int)(a7:Int→Int→Option (Int)):Option ((List Int)):=(b7.l0 m n0 a7 m ax (0:Int) (20:Int)).bind fun bM=>match bM with | (dP,a1,b1)=>(bb.f m dP a1 n0 a7).bind fun x1=>(b7.l1 m n0 a7 m x1 (20:Int)).bind fun j6=>match j6 with | (p6,Bo)=>some p6
def b7.fin (L:Mem)(aE:Nat)(ax:List Int)(n0:Int)(a7:Int→Int→Option (Int))(r:(List Int))(s:St):Prop:=aO Try.prog (s.open ud) Try.f99.results.toList=some (.tup [])∧Has s.h ((aE,.sl ax.length 1 (af.l r))::L)
def UJ (cf:CallF)(m:Nat):Prop:=∀(ax:List Int) (n0:Int) (a7:Int→Int→Option (Int)) (r:(List Int)),b7.f m ax n0 a7=some r→∀h L (cX:Nat) (aE:Nat),Has h ((aE,.sl cX 1 (af.l ax))::L)→∀(ju:FuncId) (ca dI:List AV),(aS (.fn ju ca) = .fn ju ca)→(∀(h:AHeap) (xs:List AV) (a0:Int) (a1:Int) r,a7 a0 a1=some r→aU bR h xs ([.int .i64 a0,.int .i64 a1]++dI)→cf ju xs h=some (.int .i64 r,h))→(∀h K,Has h (K++(L))→aU cM h ca dI)→(∀h,aU cM h dI dI)→∀xs,xs.map aS=[.rs aE 0 cX 1,.int .i64 n0,.fn ju ca]→∃h',cf 99 xs h=some (.tup [],h')∧Has h' ((aE,.sl cX 1 (af.l r))::L)
section
variable {cf:CallF}{m:Nat}
theorem b7.cQ (L:Mem)(aE:Nat)(ju:FuncId)(ca dI:List AV)(ax:List Int)(n0:Int)(a7:Int→Int→Option (Int))  (oy:aS (.fn ju ca) = .fn ju ca)(mT:∀(h:AHeap) (xs:List AV) (a0:Int) (a1:Int) r,a7 a0 a1=some r→aU bR h xs ([.int .i64 a0,.int .i64 a1]++dI)→cf ju xs h=some (.int .i64 r,h))(sa:∀h K,Has h (K++(L))→aU cM h ca dI)(mU:∀h,aU cM h dI dI)(Dd:Lq cf m):dL Try.prog cf ud m (sub [1,1,0,0,0] (bZ Try.f99)) (fun k (σ:(List Int) × Int × Int)=>b7.l0 m n0 a7 k σ.1 σ.2.1 σ.2.2) (fun σ s=>match σ with | (bF,a0,b0)=>∃h0,s=⟨.rs aE 0 ax.length 1 :: .int .i64 n0 :: .fn ju ca :: .int .i64 (20:Int) :: .int .i64 a0 :: .int .i64 b0::Ai [],[],h0⟩∧Has h0 ((aE,.sl ax.length 1 (af.l bF))::L)) (fun out e s=>(e = .exit 0∧∃bF a0 b0,(bF,a0,b0)=out∧∃A8 tO h0,s=⟨.rs aE 0 ax.length 1 :: .int .i64 n0 :: .fn ju ca :: .int .i64 (20:Int) :: .int .i64 a0::A8 :: .any::tO::ov [],[],h0⟩∧Has h0 ((aE,.sl ax.length 1 (af.l bF))::L))):=by
 refine lg (fun _=>rfl) ?_
 rintro k ⟨bF,a0,b0⟩ s out ⟨h0,rfl,o0⟩ H
 have H:b7.l0 m n0 a7 (k+1) bF a0 b0=some out:=H
 refine qq <| qq <| q0 <| qc H (fun c0 H=>?_) (fun c0 H=>?_)
 ·refine qk <| qb 1 <| qq ?_
  obtain⟨x0,e0,H⟩:=bj H
  obtain⟨h1,e1,o1⟩:=Dd _ _ _ _ _ e0 h0 _ _ _ (o0) ju ca dI oy mT (fun h' K' o'=>sa h' (K'++[]) (by simpa only [ZV,aak,aal] using o')) mU [.rs aE 0 ax.length 1,.int .i64 a0,.int .i64 b0,.fn ju ca] (au (rfl) (au (aP (bm)) (au (aP (bm)) (au (oy) (bN)))))
  exact qr [.a 4 e1] <| qq <| q0 <| q0 <| ⟨(x0,b0,i64.wrap (b0+(20:Int))),⟨h1,by kernel_rfl,o1⟩,H⟩
 ·exact qx 0 <| ⟨rfl,bF,a0,b0,oi H,.int .i64 b0,.bool (decide (b0≤n0)),h0,by kernel_rfl,o0⟩
theorem b7.p7 (L:Mem)(aE:Nat)(ju:FuncId)(ca dI:List AV)(ax:List Int)(n0:Int)(a7:Int→Int→Option (Int))(bz:Int)  (oy:aS (.fn ju ca) = .fn ju ca)(mT:∀(h:AHeap) (xs:List AV) (a0:Int) (a1:Int) r,a7 a0 a1=some r→aU bR h xs ([.int .i64 a0,.int .i64 a1]++dI)→cf ju xs h=some (.int .i64 r,h))(sa:∀h K,Has h (K++(L))→aU cM h ca dI)(mU:∀h,aU cM h dI dI)(ji:vb cf m m):dL Try.prog cf ud m (sub [1,1,1,1,0,0,1,0,1,0,0,0] (bZ Try.f99)) (fun k (σ:(List Int) × Int × Int)=>b7.l2 m n0 a7 bz k σ.1 σ.2.1 σ.2.2) (fun σ s=>match σ with | (jX,a2,b2)=>∃h5,s=⟨.rs aE 0 ax.length 1 :: .int .i64 n0 :: .fn ju ca :: .int .i64 bz :: .int .i64 a2 :: .int .i64 b2::Ai [],[],h5⟩∧Has h5 ((aE,.sl ax.length 1 (af.l jX))::L)) (fun out e s=>(e = .exit 4∧∃jX a2 b2,(jX,a2,b2)=out∧∃A8 LH h5,s=⟨.rs aE 0 ax.length 1 :: .int .i64 n0 :: .fn ju ca :: .int .i64 bz :: .int .i64 a2::A8::ov [LH,.any],[],h5⟩∧Has h5 ((aE,.sl ax.length 1 (af.l jX))::L))):=by
 refine lg (fun _=>rfl) ?_
 rintro k ⟨jX,a2,b2⟩ s out ⟨h5,rfl,o5⟩ H
 have H:b7.l2 m n0 a7 bz (k+1) jX a2 b2=some out:=H
 refine qq <| qq <| q0 <| qc H (fun c2 H=>?_) (fun c2 H=>?_)
 ·refine qk <| qb 5 <| qq ?_
  obtain⟨x2,e5,H⟩:=bj H
  obtain⟨h6,e6,o6⟩:=ji _ _ _ _ _ _ e5 h5 _ _ _ (o5) ju ca dI oy mT (fun h' K' o'=>sa h' (K'++[]) (by simpa only [ZV,aak,aal] using o')) mU [.rs aE 0 ax.length 1,.int .i64 a2,.int .i64 (i64.wrap (a2+bz)),.int .i64 b2,.fn ju ca] (au (rfl) (au (aP (bm)) (au (aP (bm)) (au (aP (bm)) (au (oy) (bN))))))
  exact qr [.a 7 e6] <| qq <| q0 <| q0 <| ⟨(x2,b2,i64.wrap (b2+i64.wrap ((2:Int)*bz))),⟨h6,by kernel_rfl,o6⟩,H⟩
 ·exact qx 4 <| ⟨rfl,jX,a2,b2,oi H,.int .i64 b2,.bool (decide (b2≤n0)),h5,by kernel_rfl,o5⟩
theorem b7.kz (L:Mem)(aE:Nat)(ju:FuncId)(ca dI:List AV)(ax:List Int)(n0:Int)(a7:Int→Int→Option (Int))  (oy:aS (.fn ju ca) = .fn ju ca)(mT:∀(h:AHeap) (xs:List AV) (a0:Int) (a1:Int) r,a7 a0 a1=some r→aU bR h xs ([.int .i64 a0,.int .i64 a1]++dI)→cf ju xs h=some (.int .i64 r,h))(sa:∀h K,Has h (K++(L))→aU cM h ca dI)(mU:∀h,aU cM h dI dI)(ji:vb cf m m):dL Try.prog cf ud m (sub [1,1,1,1,0,0] (bZ Try.f99)) (fun k (σ:(List Int) × Int)=>b7.l1 m n0 a7 k σ.1 σ.2) (fun σ s=>match σ with | (eF,bz)=>∃h4,s=⟨.rs aE 0 ax.length 1 :: .int .i64 n0 :: .fn ju ca :: .int .i64 bz::En [],[],h4⟩∧Has h4 ((aE,.sl ax.length 1 (af.l eF))::L)) (fun out e s=>(e = .exit 2∧∃eF bz,(eF,bz)=out∧∃mP uY I4 Gy GK h4,s=⟨mP::uY::I4::Gy::oZ [GK,.any,.any],[],h4⟩∧Has h4 ((aE,.sl ax.length 1 (af.l eF))::L))):=by
 refine lg (fun _=>rfl) ?_
 rintro k ⟨eF,bz⟩ s out ⟨h4,rfl,o4⟩ H
 have H:b7.l1 m n0 a7 (k+1) eF bz=some out:=H
 refine qq <| qq <| q0 <| qc H (fun c1 H=>?_) (fun c1 H=>?_)
 ·refine qk <| qb 3 <| qq <| q0 <| qq <| qb 4 ?_
  obtain⟨cD,e7,H⟩:=bj H
  refine ql (b7.p7 L aE ju ca dI ax n0 a7 bz  oy mT sa mU ji (eF,(0:Int),i64.wrap ((2:Int)*bz)) _ _ ⟨h4,by kernel_rfl,o4⟩ e7) ?_
  rintro e s ⟨rfl,lP,a3,b3,rfl,g2,g3,h7,rfl,o7⟩
  try dsimp only at H
  refine qq <| qq <| q0 <| qq <| q0 <| qc H (fun c3 H=>?_) (fun c3 H=>?_)
  ·obtain⟨x3,e8,H⟩:=bj H
   obtain⟨h8,e9,o8⟩:=ji _ _ _ _ _ _ e8 h7 _ _ _ (o7) ju ca dI oy mT (fun h' K' o'=>sa h' (K'++[]) (by simpa only [ZV,aak,aal] using o')) mU [.rs aE 0 ax.length 1,.int .i64 a3,.int .i64 (i64.wrap (a3+bz)),.int .i64 n0,.fn ju ca] (au (rfl) (au (aP (bm)) (au (aP (bm)) (au (aP (bm)) (au (oy) (bN))))))
   exact qr [.a 5 e9] <| q0 <| ⟨(x3,i64.wrap (bz*(2:Int))),⟨h8,by kernel_rfl,o8⟩,H⟩
  ·exact qk <| q0 <| ⟨(lP,i64.wrap (bz*(2:Int))),⟨h7,by kernel_rfl,o7⟩,H⟩
 ·exact qx 2 <| ⟨rfl,eF,bz,oi H,.rs aE 0 ax.length 1,.int .i64 n0,.fn ju ca,.int .i64 bz,.bool (decide (bz<n0)),h4,by kernel_rfl,o4⟩
theorem xE {aY:FuncId→b9}(ha:aY 99=ud)(Dd:Lq cf m)(ji:vb cf m m)(ax:List Int)(n0:Int)(a7:Int→Int→Option (Int))(h:AHeap)(L:Mem)(aE:Nat)(ju:FuncId)(ca dI:List AV)  (oy:aS (.fn ju ca) = .fn ju ca)(mT:∀(h:AHeap) (xs:List AV) (a0:Int) (a1:Int) r,a7 a0 a1=some r→aU bR h xs ([.int .i64 a0,.int .i64 a1]++dI)→cf ju xs h=some (.int .i64 r,h))(sa:∀h K,Has h (K++(L))→aU cM h ca dI)(mU:∀h,aU cM h dI dI)(o:Has h ((aE,.sl ax.length 1 (af.l ax))::L)){out:(List Int)}(H:b7.f m ax n0 a7=some out) :
  ∃r h',bf Try.prog aY cf m 99 [.rs aE 0 ax.length 1,.int .i64 n0,.fn ju ca] h=some (r,h')∧r = .tup []∧Has h' ((aE,.sl ax.length 1 (af.l out))::L):=by
 refine ar (fn:=Try.f99) ha Try.func99 (by kernel_rfl) (by kernel_rfl) ?_
 refine aH (Q:=fun s=>b7.fin L aE ax n0 a7 out s) (fun _ _ ⟨h1,h2,h3⟩=>⟨h1,_,h2,rfl,h3⟩) ?_
 have H:_=some out:=H
 unfold b7.f at H
 show dK _ cf ud m _ ⟨.rs aE 0 ax.length 1 :: .int .i64 n0 :: .fn ju ca::xf [],[],h⟩ _
 refine q1 <| qq <| q0 <| qq <| qb 0 ?_
 obtain⟨bM,e2,H⟩:=bj H
 refine ql (b7.cQ L aE ju ca dI ax n0 a7  oy mT sa mU Dd (ax,(0:Int),(20:Int)) _ _ ⟨h,by kernel_rfl,o⟩ e2) ?_
 rintro e s ⟨rfl,dP,a1,b1,rfl,g0,g1,h2,rfl,o2⟩
 try dsimp only at H
 refine qq ?_
 obtain⟨x1,e3,H⟩:=bj H
 obtain⟨h3,e4,o3⟩:=Dd _ _ _ _ _ e3 h2 _ _ _ (o2) ju ca dI oy mT (fun h' K' o'=>sa h' (K'++[]) (by simpa only [ZV,aak,aal] using o')) mU [.rs aE 0 ax.length 1,.int .i64 a1,.int .i64 n0,.fn ju ca] (au (rfl) (au (aP (bm)) (au (aP (bm)) (au (oy) (bN)))))
 refine qr [.a 4 e4] <| qb 2 ?_
 obtain⟨j6,rK,H⟩:=bj H
 refine ql (b7.kz L aE ju ca dI ax n0 a7  oy mT sa mU ji (x1,(20:Int)) _ _ ⟨h3,by kernel_rfl,o3⟩ rK) ?_
 rintro e s ⟨rfl,p6,Bo,rfl,g4,g5,g6,g7,g8,h9,rfl,o9⟩
 try dsimp only at H
 obtain rfl:=oi H
 exact⟨.inr rfl,⟨by kernel_rfl,he o9⟩⟩
end
end Go.Proofs.Ytifafejidnjckaa
namespace Go.Proofs.Ytifafejidnjckaa
open Go Go.R
open Go.IntKind (i64 u64 u8 u32)
end Go.Proofs.Ytifafejidnjckaa
namespace Go.Proofs.Ytifafejidnjckaa
open Go Go.R
open Go.IntKind (i64 u64 u8 u32)
end Go.Proofs.Ytifafejidnjckaa
namespace Go.Proofs.Ytifafejidnjckaa
open Go Go.R
open Go.IntKind (i64 u64 u8 u32)
def zE:b9:=gW [0,2,3,4,5,6,10,20] [] [254,250,242,178,242,194,98,226,242,253] [] [(1,[(3,none,1)])]
def bY.l0 (m:Nat)(s0:ab):Nat→(List Int)→Int→Option ((List Int) × Int)
 | 0,_,_=>none
 | k+1,bM,n0=>(cG.f m s0).bind fun x0=>if (decide (n0<x0))=true then ((eM.f m s0 n0).bind fun x1=>if (!(x1.2==(0:Int)))=true then ((app 8 bM ([(-1:Int)])).bind fun x2=>bY.l0 m s0 k x2 (i64.wrap (n0+(1:Int)))) else ((app 8 bM ([x1.1])).bind fun x3=>bY.l0 m s0 k x3 (i64.wrap (n0+(1:Int))))) else (some ((bM,n0)))
def bY.f (m:Nat)(s0:ab):Option ((List Int)):=(bY.l0 m s0 m ([]:List Int) (0:Int)).bind fun j6=>match j6 with | (cD,n1)=>some cD
def bY.fin (L:Mem)(r:(List Int))(s:St):Prop:=∃av,aO Try.prog (s.open zE) Try.f15.results.toList=some av∧fG s.h av (af.fz r)
def UK (cf:CallF)(m:Nat):Prop:=∀(s0:ab) (r:(List Int)),bY.f m s0=some r→∀h xs,aU bR h xs [.fp [.bool s0.aj,ai.fz s0.aa,af.fz s0.ae] 0]→cf 15 xs h=some (af.fz r,h)
section
variable {cf:CallF}{m:Nat}
theorem bY.cQ (L:Mem)(s0:ab)  (LI:QS cf m)(LJ:Rv cf m):dL Try.prog cf zE m (sub [1,1,0,1,0,0] (bZ Try.f15)) (fun k (σ:(List Int) × Int)=>bY.l0 m s0 k σ.1 σ.2) (fun σ s=>match σ with | (bM,n0)=>∃aE h0,s=⟨.fp [.bool s0.aj,ai.fz s0.aa,af.fz s0.ae] 0 :: .any :: .rs aE 0 bM.length 1 :: .int .i64 n0::oZ [],[],h0⟩∧Has h0 ((aE,.sl bM.length 1 (af.l bM))::L)) (fun out e s=>(e = .exit 0∧∃bM n0,(bM,n0)=out∧∃mP LA Bh aE h0,s=⟨[mP,.any,.rs aE 0 bM.length 1,LA,.any,.any,Bh,.any],[],h0⟩∧Has h0 ((aE,.sl bM.length 1 (af.l bM))::L))):=by
 refine lg (fun _=>rfl) ?_
 rintro k ⟨bM,n0⟩ s out ⟨aE,h0,rfl,o1⟩ H
 have H:bY.l0 m s0 (k+1) bM n0=some out:=H
 refine qq <| qq ?_
 obtain⟨x0,e0,H⟩:=bj H
 refine qr [.a 2 (LI _ _ e0 h0 _ (fw (ah (fK (pure_cons (cJ) (pure_cons (bQ.bA (E:=ai) (l:=s0.aa)) (pure_cons (bQ.bA (E:=af) (l:=s0.ae)) (pure_nil))))) (aw))))] <| qc H (fun c0 H=>?_) (fun c0 H=>?_)
 ·refine qk <| qq <| qb 1 <| qq ?_
  obtain⟨x1,e1,H⟩:=bj H
  refine qr [.a 2 (LJ _ _ _ e1 h0 _ (fw (ah (fK (pure_cons (cJ) (pure_cons (bQ.bA (E:=ai) (l:=s0.aa)) (pure_cons (bQ.bA (E:=af) (l:=s0.ae)) (pure_nil))))) (ah (aZ) (aw)))))] <| qq <| qq <| q0 <| qc H (fun c1 H=>?_) (fun c1 H=>?_)
  ·refine q0 ?_
   obtain⟨x2,e2,H⟩:=bj H
   obtain⟨cy,h1,e3,o2⟩:=iA (P:=Try.prog) (E:=af) (l:=bM) (q:=0) (t2:=33) (x:=.fz [.int .i64 (-1:Int)] 1 true) (l2:=([(-1:Int)])) gu o1 rfl (by kernel_rfl) rfl e2
   exact qr [.a 3 e3] <| q0 <| ⟨(x2,i64.wrap (n0+(1:Int))),⟨cy,h1,by kernel_rfl,o2⟩,H⟩
  ·refine qk ?_
   obtain⟨x3,e4,H⟩:=bj H
   obtain⟨dY,h2,e5,o3⟩:=iA (P:=Try.prog) (E:=af) (l:=bM) (q:=0) (t2:=33) (x:=.fz [.int .i64 x1.1] 1 true) (l2:=([x1.1])) gu o1 rfl (by kernel_rfl) rfl e4
   exact qr [.a 3 e5] <| q0 <| ⟨(x3,i64.wrap (n0+(1:Int))),⟨dY,h2,by kernel_rfl,o3⟩,H⟩
 ·exact qx 0 <| ⟨rfl,bM,n0,oi H,.fp [.bool s0.aj,ai.fz s0.aa,af.fz s0.ae] 0,.int .i64 n0,.bool (decide (n0<x0)),aE,h0,by kernel_rfl,o1⟩
theorem sb {aY:FuncId→b9}(ha:aY 15=zE)(LI:QS cf m)(LJ:Rv cf m)(s0:ab)(h:AHeap)(L:Mem)  (o:Has h (L)){out:(List Int)}(H:bY.f m s0=some out) :
  ∃r h',bf Try.prog aY cf m 15 [.fp [.bool s0.aj,ai.fz s0.aa,af.fz s0.ae] 0] h=some (r,h')∧fG h' r (af.fz out):=by
 refine ar (fn:=Try.f15) ha Try.func15 (by kernel_rfl) (by kernel_rfl) ?_
 refine aH (Q:=fun s=>bY.fin L out s) (fun _ _ h=>h) ?_
 have H:_=some out:=H
 unfold bY.f at H
 show dK _ cf zE m _ ⟨.fp [.bool s0.aj,ai.fz s0.aa,af.fz s0.ae] 0::En [],[],h⟩ _
 refine q1 <| qq <| q0 ?_
 have o0:Has h (((0),.sl (([]:List Int).length) 1 (af.l ([]:List Int)))::L):=Has.nil o 1
 refine qq <| qq <| q0 <| qb 0 ?_
 obtain⟨j6,e6,H⟩:=bj H
 refine ql (bY.cQ L s0  LI LJ (([]:List Int),(0:Int)) _ _ ⟨(0),h,by kernel_rfl,o0⟩ e6) ?_
 rintro e s ⟨rfl,cD,n1,rfl,g0,g1,g2,cW,h3,rfl,o4⟩
 try dsimp only at H
 obtain rfl:=oi H
 exact q1 <| qt <| ⟨.inl rfl,cV (.rs cW 0 cD.length 1) h3 (cP (J1 (E:=af) (l:=cD) (q:=0) o4 rfl (fun _=>rfl)))⟩
end
end Go.Proofs.Ytifafejidnjckaa
namespace Go.Proofs.Ytifafejidnjckaa
open Go Go.R
open Go.IntKind (i64 u64 u8 u32)
def De:b9:=gW [0,1,3,4,5] [] [26,7] [] []
def eX.f (m:Nat)(s0:ab)(a0:ByteArray):Option (Int × Int × ab):=(cC.f m s0 (dV.f m a0) (ak.mk (2:Int) (0:Int) a0 ([]))).bind fun x0=>some (x0.1,x0.2.1,x0.2.2)
def eX.fin (L:Mem)(aq:Nat)(an:Nat)(ao:Nat)(s0:ab)(a0:ByteArray)(r:Int × Int × ab)(s:St):Prop:=∃aC aD:Nat,aO Try.prog (s.open De) Try.f28.results.toList=some (.tup [.int .i64 r.1,.int .i64 r.2.1])∧Has s.h ((aq,.ob [.bool r.2.2.aj,.rs aC 0 r.2.2.aa.length 4,.rs aD 0 r.2.2.ae.length 1])::(aC,.sl r.2.2.aa.length 4 (ai.l r.2.2.aa))::(aD,.sl r.2.2.ae.length 1 (af.l r.2.2.ae))::L)
def UL (cf:CallF)(m:Nat):Prop:=∀(s0:ab) (a0:ByteArray) (r:Int × Int × ab),eX.f m s0 a0=some r→∀h L (aq:Nat) (an:Nat) (ao:Nat),Has h ((aq,.ob [.bool s0.aj,.rs an 0 s0.aa.length 4,.rs ao 0 s0.ae.length 1])::(an,.sl s0.aa.length 4 (ai.l s0.aa))::(ao,.sl s0.ae.length 1 (af.l s0.ae))::L)→∀xs,xs.map aS=[.ptr aq 0,.str a0]→∃aC aD h',cf 28 xs h=some (.tup [.int .i64 r.1,.int .i64 r.2.1],h')∧Has h' ((aq,.ob [.bool r.2.2.aj,.rs aC 0 r.2.2.aa.length 4,.rs aD 0 r.2.2.ae.length 1])::(aC,.sl r.2.2.aa.length 4 (ai.l r.2.2.aa))::(aD,.sl r.2.2.ae.length 1 (af.l r.2.2.ae))::L)
section
variable {cf:CallF}{m:Nat}
theorem na {aY:FuncId→b9}(ha:aY 28=De)(xA:MC cf m)(Rz:UG cf m)(s0:ab)(a0:ByteArray)(h:AHeap)(L:Mem)(aq:Nat)(an:Nat)(ao:Nat)  (o:Has h ((aq,.ob [.bool s0.aj,.rs an 0 s0.aa.length 4,.rs ao 0 s0.ae.length 1])::(an,.sl s0.aa.length 4 (ai.l s0.aa))::(ao,.sl s0.ae.length 1 (af.l s0.ae))::L)){out:Int × Int × ab}(H:eX.f m s0 a0=some out) :
  ∃r h',bf Try.prog aY cf m 28 [.ptr aq 0,.str a0] h=some (r,h')∧∃aC aD:Nat,r = .tup [.int .i64 out.1,.int .i64 out.2.1]∧Has h' ((aq,.ob [.bool out.2.2.aj,.rs aC 0 out.2.2.aa.length 4,.rs aD 0 out.2.2.ae.length 1])::(aC,.sl out.2.2.aa.length 4 (ai.l out.2.2.aa))::(aD,.sl out.2.2.ae.length 1 (af.l out.2.2.ae))::L):=by
 refine ar (fn:=Try.f28) ha Try.func28 (by kernel_rfl) (by kernel_rfl) ?_
 refine aH (Q:=fun s=>eX.fin L aq an ao s0 a0 out s) (fun _ _ ⟨h1,aC,aD,h2,h3⟩=>⟨h1,_,h2,aC,aD,rfl,h3⟩) ?_
 have H:_=some out:=H
 unfold eX.f at H
 show dK _ cf De m _ ⟨.ptr aq 0 :: .str a0::ov [],[],h⟩ _
 refine qq ?_
 obtain⟨aE,h0,e0,o0⟩:=gJ (cs:=[.str a0]) o (by kernel_rfl)
 refine qr [.a 0 e0] <| qq ?_
 obtain⟨x0,e1,H⟩:=bj H
 obtain⟨cy,dY,h1,e2,o1⟩:=xA _ _ _ _ e1 h0 _ _ _ _ ((Has.front (Has.front (Has.front (Has.front o0 0 rfl) 3 rfl) 3 rfl) 3 rfl)) 49 [.ptr aE 0] [.fp [.str a0] 0] rfl (fun h' tS  r hr hx=>Rz _ r hr h' tS hx) (fun h' K' o'=>jf (ah (ez (q:=(K'.length+3)) o' (jQ rfl) (ah (cK) (aw))) (aw))) (fun h_=>jf (ah (fK (pure_cons (nA) (pure_nil))) (aw))) [.ptr aq 0,.fn 49 [.ptr aE 0],.agg [.int .i64 (2:Int),.int .i64 (0:Int),.str a0,.nils]] (au (rfl) (au (rfl) (au (aP (nE (cd (bm) (cd (bm) (cd (lf) (cd (sw (E:=af)) (nD))))))) (bN))))
 refine qr [.v 2 (show bE Try.prog h0 9 (.ptr aE 0)=some (.str a0) from cq (q:=0) (cs:=[.str a0]) o0 rfl (by kernel_rfl)),.a 4 e2] ?_
 have o2:Has h1 ((aq,.ob [.bool x0.2.2.aj,.rs cy 0 x0.2.2.aa.length 4,.rs dY 0 x0.2.2.ae.length 1])::(cy,.sl x0.2.2.aa.length 4 (ai.l x0.2.2.aa))::(dY,.sl x0.2.2.ae.length 1 (af.l x0.2.2.ae))::L):=Has.del o1 3
 obtain rfl:=oi H
 exact qt <| ⟨.inl rfl,⟨cy,dY,by kernel_rfl,he o2⟩⟩
end
end Go.Proofs.Ytifafejidnjckaa
