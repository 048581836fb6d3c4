/- Part of the proof: Q41, Q42, Q47, Q48, Q51, Q54, Q55, Q59, Q62, Q64, Q68, Q71, Q73, Q75, Q78, Q79, Q81, Q85, Q90, Q95, Q96, Q97, Q98, Q102, Q105, Q109, Q18, Q19, Q27, Q29, Q40, Q52, Q53, Q56. -/
import Derived.Test.YtifafejidnjckaaK6
set_option linter.unusedVariables false
set_option linter.unusedSimpArgs false
set_option maxRecDepth 100000
open ByteArray renaming mk → U3
open List renaming length_set → Uq
namespace Go.Proofs.Ytifafejidnjckaa
open Go Go.R
open Go.IntKind (i64 u64 u8 u32)
def wZ:bY:=gK [0,1,4,13] [] [12,4,12,11] [] []
def a7.l0 (m:Nat)(s0:ab):Nat→Int→Option (Int)
 | 0,_=>none
 | k+1,n1=>(ix s0.ae n1).bind fun v0=>if (!(v0==n1))=true then ((ix s0.ae n1).bind fun v1=>a7.l0 m s0 k v1) else (some (n1))
def a7.f (m:Nat)(s0:ab)(n0:Int):Option (Int):=(a7.l0 m s0 m n0).bind fun b6=>match b6 with | n2=>some n2
def a7.fin (L:Mem)(r:Int)(s:St):Prop:=∃av,aM Try.prog (s.open wZ) Try.f41.results.toList=some av∧ff s.h av (.int .i64 r)
def LR (cf:CallF)(m:Nat):Prop:=∀(s0:ab) (n0:Int) (r:Int),a7.f m s0 n0=some r→∀h xs,aO bO h xs [.fp [.bool s0.aj,ai.fz s0.aa,af.fz s0.ae] 0,.int .i64 n0]→cf 41 xs h=some (.int .i64 r,h)
section
variable {cf:CallF}{m:Nat}
theorem a7.dF (L:Mem)(s0:ab)   : dZ Try.prog cf wZ m (sub [1,0,0,0] (b8 Try.f41)) (fun k (σ:Int)=>a7.l0 m s0 k σ) (fun σ s=>match σ with | n1=>∃h0,s=⟨[.fp [.bool s0.aj,ai.fz s0.aa,af.fz s0.ae] 0,.int .i64 n1,.any,.any],[],h0⟩∧Has h0 (L)) (fun out e s=>(e = .exit 0∧∃n1,n1=out∧∃ow va h0,s=⟨[ow,.int .i64 n1,.any,va],[],h0⟩∧Has h0 (L))):=by
 refine mI (fun _=>rfl) ?_
 rintro k n1 s out ⟨h0,rfl,o0⟩ H
 have H:a7.l0 m s0 (k+1) n1=some out:=H
 refine qq <| qq ?_
 obtain⟨v0,e0,H⟩:=bj H
 refine qr [.v 5 (fV (k:=.i64) (E:=af) (l:=s0.ae) gx e0),.v 6 (iI  (E:=af) (l:=s0.ae) h0 A3 e0 rfl)] <| qc H (fun c0 H=>?_) (fun c0 H=>?_)
 ·refine qk <| qb 1 ?_
  obtain⟨v1,e1,H⟩:=bj H
  exact qr [.v 5 (fV (k:=.i64) (E:=af) (l:=s0.ae) gx e1),.v 6 (iI  (E:=af) (l:=s0.ae) h0 A3 e1 rfl)] <| ⟨v1,⟨h0,by kernel_rfl,o0⟩,H⟩
 ·exact qx 0 <| ⟨rfl,n1,oi H,.fp [.bool s0.aj,ai.fz s0.aa,af.fz s0.ae] 0,.bool (!(v0==n1)),h0,by kernel_rfl,o0⟩
theorem mb {aV:FuncId→bY}(ha:aV 41=wZ)  (s0:ab)(n0:Int)(h:AHeap)(L:Mem)  (o:Has h (L)){out:Int}(H:a7.f m s0 n0=some out) :
  ∃r h',a6 Try.prog aV cf m 41 [.fp [.bool s0.aj,ai.fz s0.aa,af.fz s0.ae] 0,.int .i64 n0] h=some (r,h')∧ff h' r (.int .i64 out):=by
 refine ar (fn:=Try.f41) ha Try.func41 (by kernel_rfl) (by kernel_rfl) ?_
 refine aH (Q:=fun s=>a7.fin L out s) (fun _ _ h=>h) ?_
 have H:_=some out:=H
 unfold a7.f at H
 show dn _ cf wZ m _ ⟨[.fp [.bool s0.aj,ai.fz s0.aa,af.fz s0.ae] 0,.int .i64 n0,.any,.any],[],h⟩ _
 refine q1 <| qq <| qb 0 ?_
 obtain⟨b6,e2,H⟩:=bj H
 refine ql (a7.dF L s0   n0 _ _ ⟨h,by kernel_rfl,o⟩ e2) ?_
 rintro e s ⟨rfl,n2,rfl,g0,g1,h1,rfl,o1⟩
 try dsimp only at H
 obtain rfl:=oi H
 exact q1 <| qt <| ⟨.inl rfl,dA (.int .i64 n2) h1 (dz (dd))⟩
end
end Go.Proofs.Ytifafejidnjckaa
namespace Go.Proofs.Ytifafejidnjckaa
open Go Go.R
open Go.IntKind (i64 u64 u8 u32)
end Go.Proofs.Ytifafejidnjckaa
namespace Go.Proofs.Ytifafejidnjckaa
open Go Go.R
open Go.IntKind (i64 u64 u8 u32)
def zP:bY:=gK [0,1,2,5,6,7,8,9,13,17,31] [5] [2036,1908,1999,1782,1999,1526,1999,1974,950,1974,1983,1999] [] []
def bZ.f (m:Nat)(s0:ab)(DP:Option (Bool))(n0:aq):Option (Int × Int × ab):=(bA.f m s0).bind fun x0=>if (!x0)=true then (some ((0:Int),(6:Int),s0)) else ((DP ).bind fun r0=>if (!r0)=true then (some ((0:Int),(1:Int),s0)) else (if (decide ((s0.aa.length:Int)≥(8000:Int)))=true then (some ((0:Int),(7:Int),s0)) else (jn (fun (σ:Int)=>match σ with | n1=>(app 56 s0.aa ([(aq.mk n0.kind n1 n0.label n0.args)])).bind fun x1=>(app 8 s0.ae ([(s0.aa.length:Int)])).bind fun x2=>some ((s0.aa.length:Int),(0:Int),(ab.mk s0.aj x1 x2))) fun sW=>(if (n0.kind==(0:Int))=true then (sW (s0.aa.length:Int)) else (sW n0.int)))))
def bZ.fin (L:Mem)(ao:Nat)(ak:Nat)(an:Nat)(s0:ab)(DP:Option (Bool))(n0:aq)(r:Int × Int × ab)(s:St):Prop:=∃aB aC:Nat,aM Try.prog (s.open zP) Try.f47.results.toList=some (.tup [.int .i64 r.1,.int .i64 r.2.1])∧Has s.h ((ao,.ob [.bool r.2.2.aj,.rs aB 0 r.2.2.aa.length 4,.rs aC 0 r.2.2.ae.length 1])::(aB,.sl r.2.2.aa.length 4 (ai.l r.2.2.aa))::(aC,.sl r.2.2.ae.length 1 (af.l r.2.2.ae))::L)
def JC (cf:CallF)(m:Nat):Prop:=∀(s0:ab) (DP:Option (Bool)) (n0:aq) (r:Int × Int × ab),bZ.f m s0 DP n0=some r→∀h L (ao:Nat) (ak:Nat) (an:Nat),Has h ((ao,.ob [.bool s0.aj,.rs ak 0 s0.aa.length 4,.rs an 0 s0.ae.length 1])::(ak,.sl s0.aa.length 4 (ai.l s0.aa))::(an,.sl s0.ae.length 1 (af.l s0.ae))::L)→∀(eD:FuncId) (aP bV:List AV),(aL (.fn eD aP) = .fn eD aP)→(∀(h:AHeap) (xs:List AV)  r,DP  = some r→aO bO h xs ([]++bV)→cf eD xs h=some (.bool r,h))→(∀h K,Has h (K++((ao,.ob [.bool s0.aj,.rs ak 0 s0.aa.length 4,.rs an 0 s0.ae.length 1])::(ak,.sl s0.aa.length 4 (ai.l s0.aa))::(an,.sl s0.ae.length 1 (af.l s0.ae))::L))→aO cr h aP bV)→(∀h,aO cr h bV bV)→∀xs,xs.map aL=[.ptr ao 0,.fn eD aP,.agg [.int .i64 n0.kind,.int .i64 n0.int,.str n0.label,af.fz n0.args]]→∃aB aC h',cf 47 xs h=some (.tup [.int .i64 r.1,.int .i64 r.2.1],h')∧Has h' ((ao,.ob [.bool r.2.2.aj,.rs aB 0 r.2.2.aa.length 4,.rs aC 0 r.2.2.ae.length 1])::(aB,.sl r.2.2.aa.length 4 (ai.l r.2.2.aa))::(aC,.sl r.2.2.ae.length 1 (af.l r.2.2.ae))::L)
section
variable {cf:CallF}{m:Nat}
theorem mc {aV:FuncId→bY}(ha:aV 47=zP)(yE:KH cf m)(s0:ab)(DP:Option (Bool))(n0:aq)(h:AHeap)(L:Mem)(ao:Nat)(ak:Nat)(an:Nat)(eD:FuncId)(aP bV:List AV)  (qu:aL (.fn eD aP) = .fn eD aP)(gH:∀(h:AHeap) (xs:List AV)  r,DP  = some r→aO bO h xs ([]++bV)→cf eD xs h=some (.bool r,h))(ox:∀h K,Has h (K++((ao,.ob [.bool s0.aj,.rs ak 0 s0.aa.length 4,.rs an 0 s0.ae.length 1])::(ak,.sl s0.aa.length 4 (ai.l s0.aa))::(an,.sl s0.ae.length 1 (af.l s0.ae))::L))→aO cr h aP bV)(gI:∀h,aO cr h bV bV)(o:Has h ((ao,.ob [.bool s0.aj,.rs ak 0 s0.aa.length 4,.rs an 0 s0.ae.length 1])::(ak,.sl s0.aa.length 4 (ai.l s0.aa))::(an,.sl s0.ae.length 1 (af.l s0.ae))::L)){out:Int × Int × ab}(H:bZ.f m s0 DP n0=some out) :
  ∃r h',a6 Try.prog aV cf m 47 [.ptr ao 0,.fn eD aP,.agg [.int .i64 n0.kind,.int .i64 n0.int,.str n0.label,af.fz n0.args]] h=some (r,h')∧∃aB aC:Nat,r = .tup [.int .i64 out.1,.int .i64 out.2.1]∧Has h' ((ao,.ob [.bool out.2.2.aj,.rs aB 0 out.2.2.aa.length 4,.rs aC 0 out.2.2.ae.length 1])::(aB,.sl out.2.2.aa.length 4 (ai.l out.2.2.aa))::(aC,.sl out.2.2.ae.length 1 (af.l out.2.2.ae))::L):=by
 refine ar (fn:=Try.f47) ha Try.func47 (by kernel_rfl) (by kernel_rfl) ?_
 refine aH (Q:=fun s=>bZ.fin L ao ak an s0 DP n0 out s) (fun _ _ ⟨h1,aB,aC,h2,h3⟩=>⟨h1,_,h2,aB,aC,rfl,h3⟩) ?_
 have H:_=some out:=H
 unfold bZ.f at H
 show dn _ cf zP m _ ⟨.ptr ao 0 :: .fn eD aP :: .agg [.int .i64 n0.kind,.int .i64 n0.int,.str n0.label,af.fz n0.args]::BL [],[none],h⟩ _
 refine q1 <| qq <| qb 0 <| qq ?_
 obtain⟨x0,e0,H⟩:=bj H
 refine qr [.a 1 (yE _ _ e0 h _ (fq (ah (cJ (q:=0) o rfl (ah (dR) (ah (cF (E:=ai) (l:=s0.aa) (q:=1) o rfl (fun _=>rfl)) (ah (cF (E:=af) (l:=s0.ae) (q:=2) o rfl (fun _=>rfl)) (ax))))) (ax))))] <| qc H (fun c0 H=>?_) (fun c0 H=>?_)
 ·obtain rfl:=oi H
  exact q1 <| qt <| ⟨.inl rfl,⟨ak,an,by kernel_rfl,he o⟩⟩
 ·refine qq ?_
  obtain⟨r0,e1,H⟩:=bj H
  refine qr [.a 1 (gH _ _ _ e1 (He (ax) (ox h [] o)))] <| qc H (fun c1 H=>?_) (fun c1 H=>?_)
  ·obtain rfl:=oi H
   exact q1 <| qt <| ⟨.inl rfl,⟨ak,an,by kernel_rfl,he o⟩⟩
  ·refine qs [.v 3 (show bl Try.prog h 40 (.ptr ao 1)=some (.rs ak 0 s0.aa.length 4) from bX (q:=0) (cs:=[.bool s0.aj,.rs ak 0 s0.aa.length 4,.rs an 0 s0.ae.length 1]) o rfl (by kernel_rfl))] <| qc H (fun c2 H=>?_) (fun c2 H=>?_)
   ·obtain rfl:=oi H
    exact q1 <| qt <| ⟨.inl rfl,⟨ak,an,by kernel_rfl,he o⟩⟩
   ·refine qk <| qq <| qr [.v 3 (show bl Try.prog h 40 (.ptr ao 1)=some (.rs ak 0 s0.aa.length 4) from bX (q:=0) (cs:=[.bool s0.aj,.rs ak 0 s0.aa.length 4,.rs an 0 s0.ae.length 1]) o rfl (by kernel_rfl))] ?_
    obtain⟨sW,DQ,H⟩:=mH H
    refine qj (S:=fun (σ:Int) s=>match σ with | n1=>∃(g0:AV) (h0:AHeap),s=⟨.ptr ao 0 :: .any :: .any :: .lp 5 0 :: .any :: .any :: .int .i64 (s0.aa.length:Int)::sI [g0],[some [.int .i64 n0.kind,.int .i64 n1,.str n0.label,af.fz n0.args]],h0⟩∧Has h0 ((ao,.ob [.bool s0.aj,.rs ak 0 s0.aa.length 4,.rs an 0 s0.ae.length 1])::(ak,.sl s0.aa.length 4 (ai.l s0.aa))::(an,.sl s0.ae.length 1 (af.l s0.ae))::L)) sW H ?_ ?_
    ·rintro n1 s ⟨g0,h0,rfl,o0⟩ H
     have H:=(DQ _).symm.trans H
     try dsimp only at H
     refine qq ?_
     obtain⟨x1,e2,H⟩:=bj H
     obtain⟨aI,h1,e3,o1⟩:=iv (P:=Try.prog) (E:=ai) (l:=s0.aa) (q:=1) (t2:=40) (x:=.fz [.int .i64 n0.kind,.int .i64 n1,.str n0.label,af.fz n0.args] 1 true) (l2:=([(aq.mk n0.kind n1 n0.label n0.args)])) xM o0 rfl (by kernel_rfl) rfl e2
     obtain⟨x2,e4,H⟩:=bj H
     obtain⟨eh,h2,e5,o2⟩:=iv (P:=Try.prog) (E:=af) (l:=s0.ae) (q:=2) (t2:=33) (x:=.fz [.int .i64 (s0.aa.length:Int)] 1 true) (l2:=([(s0.aa.length:Int)])) gx o1 rfl (by kernel_rfl) rfl e4
     obtain⟨h3,e6,o3⟩:=na (P:=Try.prog) (t:=40) (off:=1) (q:=0) (cs:=[.bool s0.aj,.rs ak 0 s0.aa.length 4,.rs an 0 s0.ae.length 1]) (eS:=[.bool s0.aj,.rs aI 0 x1.length 4,.rs an 0 s0.ae.length 1]) (x:=.rs aI 0 x1.length 4) o2 rfl (by kernel_rfl)
     obtain⟨h4,e7,o4⟩:=na (P:=Try.prog) (t:=33) (off:=2) (q:=0) (cs:=[.bool s0.aj,.rs aI 0 x1.length 4,.rs an 0 s0.ae.length 1]) (eS:=[.bool s0.aj,.rs aI 0 x1.length 4,.rs eh 0 x2.length 1]) (x:=.rs eh 0 x2.length 1) o3 rfl (by kernel_rfl)
     obtain rfl:=oi H
     exact Kz [] [.v 5 (show bl Try.prog h0 40 (.ptr ao 1)=some (.rs ak 0 s0.aa.length 4) from bX (q:=0) (cs:=[.bool s0.aj,.rs ak 0 s0.aa.length 4,.rs an 0 s0.ae.length 1]) o0 rfl (by kernel_rfl)),.a 8 e3,.v 12 (show bl Try.prog h1 33 (.ptr ao 2)=some (.rs an 0 s0.ae.length 1) from bX (q:=0) (cs:=[.bool s0.aj,.rs ak 0 s0.aa.length 4,.rs an 0 s0.ae.length 1]) o1 rfl (by kernel_rfl)),.a 15 e5,.w 18 e6,.w 21 e7] [.mk (yA o0 (q:=1) rfl (q2:=0) rfl (by decide) e3)] <| qq <| q0 <| qt <| ⟨.inl rfl,⟨aI,eh,by kernel_rfl,he o4⟩⟩
    clear DQ
    intro pt
    refine q1 <| qc H (fun c3 H=>?_) (fun c3 H=>?_)
    ·exact q0 <| pt (s0.aa.length:Int) _ ⟨.any,h,by kernel_rfl,o⟩ H
    ·exact qk <| pt n0.int _ ⟨.bool (n0.kind==(0:Int)),h,by kernel_rfl,o⟩ H
end
end Go.Proofs.Ytifafejidnjckaa
namespace Go.Proofs.Ytifafejidnjckaa
open Go Go.R
open Go.IntKind (i64 u64 u8 u32)
def zQ:bY:=gK [0] [] [1] [] []
def dH.f (m:Nat)  : Option (Bool):=some true
def dH.fin (L:Mem)(r:Bool)(s:St):Prop:=∃av,aM Try.prog (s.open zQ) Try.f48.results.toList=some av∧ff s.h av (.bool r)
def PQ (cf:CallF)(m:Nat):Prop:=∀ (r:Bool),dH.f m  = some r→∀h xs,aO bO h xs []→cf 48 xs h=some (.bool r,h)
section
variable {cf:CallF}{m:Nat}
theorem kW {aV:FuncId→bY}(ha:aV 48=zQ)   (h:AHeap)(L:Mem)  (o:Has h (L)){out:Bool}(H:dH.f m  = some out) :
  ∃r h',a6 Try.prog aV cf m 48 [] h=some (r,h')∧ff h' r (.bool out):=by
 refine ar (fn:=Try.f48) ha Try.func48 (by kernel_rfl) (by kernel_rfl) ?_
 refine aH (Q:=fun s=>dH.fin L out s) (fun _ _ h=>h) ?_
 have H:_=some out:=H
 unfold dH.f at H
 show dn _ cf zQ m _ ⟨[.any],[],h⟩ _
 obtain rfl:=oi H
 exact q1 <| qq <| q0 <| qt <| ⟨.inl rfl,dA (.bool true) h (dz (aD))⟩
end
end Go.Proofs.Ytifafejidnjckaa
namespace Go.Proofs.Ytifafejidnjckaa
open Go Go.R
open Go.IntKind (i64 u64 u8 u32)
def zR:bY:=gK [0,1] [] [2,1] [] []
def cW.f (m:Nat)(x0:Int):Option (Bool):=if (decide (x0≥(-1099511627776:Int)))=true then (some (decide (x0≤(1099511627776:Int)))) else (some false)
def cW.fin (L:Mem)(r:Bool)(s:St):Prop:=∃av,aM Try.prog (s.open zR) Try.f51.results.toList=some av∧ff s.h av (.bool r)
def PR (cf:CallF)(m:Nat):Prop:=∀(x0:Int) (r:Bool),cW.f m x0=some r→∀h xs,aO bO h xs [.fp [.int .i64 x0] 0]→cf 51 xs h=some (.bool r,h)
section
variable {cf:CallF}{m:Nat}
theorem kX {aV:FuncId→bY}(ha:aV 51=zR)  (x0:Int)(h:AHeap)(L:Mem)  (o:Has h (L)){out:Bool}(H:cW.f m x0=some out) :
  ∃r h',a6 Try.prog aV cf m 51 [.fp [.int .i64 x0] 0] h=some (r,h')∧ff h' r (.bool out):=by
 refine ar (fn:=Try.f51) ha Try.func51 (by kernel_rfl) (by kernel_rfl) ?_
 refine aH (Q:=fun s=>cW.fin L out s) (fun _ _ h=>h) ?_
 have H:_=some out:=H
 unfold cW.f at H
 show dn _ cf zR m _ ⟨[.fp [.int .i64 x0] 0,.any],[],h⟩ _
 refine q1 <| qq ?_
 rcases iw H with⟨c0,H⟩| ⟨c0,H⟩
 ·obtain rfl:=oi H
  exact qr [.b 2 c0] <| qt <| ⟨.inl rfl,dA (.bool (decide (x0≤(1099511627776:Int)))) h (dz (aD))⟩
 ·obtain rfl:=oi H
  exact qr [.b 2 c0] <| qt <| ⟨.inl rfl,dA (.bool false) h (dz (aD))⟩
end
end Go.Proofs.Ytifafejidnjckaa
namespace Go.Proofs.Ytifafejidnjckaa
open Go Go.R
open Go.IntKind (i64 u64 u8 u32)
def zS:bY:=gK [0,1,4] [] [4,3] [] []
def cm.f (m:Nat)(s0:ab)(n0:Int):Option (Bool):=if (decide (n0≥(0:Int)))=true then (some (decide (n0<(s0.aa.length:Int)))) else (some false)
def cm.fin (L:Mem)(r:Bool)(s:St):Prop:=∃av,aM Try.prog (s.open zS) Try.f54.results.toList=some av∧ff s.h av (.bool r)
def Nx (cf:CallF)(m:Nat):Prop:=∀(s0:ab) (n0:Int) (r:Bool),cm.f m s0 n0=some r→∀h xs,aO bO h xs [.fp [.bool s0.aj,ai.fz s0.aa,af.fz s0.ae] 0,.int .i64 n0]→cf 54 xs h=some (.bool r,h)
section
variable {cf:CallF}{m:Nat}
theorem kY {aV:FuncId→bY}(ha:aV 54=zS)  (s0:ab)(n0:Int)(h:AHeap)(L:Mem)  (o:Has h (L)){out:Bool}(H:cm.f m s0 n0=some out) :
  ∃r h',a6 Try.prog aV cf m 54 [.fp [.bool s0.aj,ai.fz s0.aa,af.fz s0.ae] 0,.int .i64 n0] h=some (r,h')∧ff h' r (.bool out):=by
 refine ar (fn:=Try.f54) ha Try.func54 (by kernel_rfl) (by kernel_rfl) ?_
 refine aH (Q:=fun s=>cm.fin L out s) (fun _ _ h=>h) ?_
 have H:_=some out:=H
 unfold cm.f at H
 show dn _ cf zS m _ ⟨[.fp [.bool s0.aj,ai.fz s0.aa,af.fz s0.ae] 0,.int .i64 n0,.any],[],h⟩ _
 refine q1 <| qq ?_
 rcases iw H with⟨c0,H⟩| ⟨c0,H⟩
 ·obtain rfl:=oi H
  exact qr [.b 2 c0] <| qt <| ⟨.inl rfl,dA (.bool (decide (n0<(s0.aa.length:Int)))) h (dz (aD))⟩
 ·obtain rfl:=oi H
  exact qr [.b 2 c0] <| qt <| ⟨.inl rfl,dA (.bool false) h (dz (aD))⟩
end
end Go.Proofs.Ytifafejidnjckaa
namespace Go.Proofs.Ytifafejidnjckaa
open Go Go.R
open Go.IntKind (i64 u64 u8 u32)
def zT:bY:=gK [0,1,2,3,4] [2,3] [19,15] [] []
def eV.f (m:Nat)(a0:aq)(b0:aq):Option (Bool):=if (!(a0.kind==b0.kind))=true then (some true) else (if (!(a0.int==b0.int))=true then (some true) else (if (!(a0.label.data.toList==b0.label.data.toList))=true then (some true) else (some (!((a0.args.length:Int)==(b0.args.length:Int))))))
def eV.fin (L:Mem)(r:Bool)(s:St):Prop:=∃av,aM Try.prog (s.open zT) Try.f55.results.toList=some av∧ff s.h av (.bool r)
def Ny (cf:CallF)(m:Nat):Prop:=∀(a0:aq) (b0:aq) (r:Bool),eV.f m a0 b0=some r→∀h xs,aO bO h xs [.agg [.int .i64 a0.kind,.int .i64 a0.int,.str a0.label,af.fz a0.args],.agg [.int .i64 b0.kind,.int .i64 b0.int,.str b0.label,af.fz b0.args]]→cf 55 xs h=some (.bool r,h)
section
variable {cf:CallF}{m:Nat}
theorem oy {aV:FuncId→bY}(ha:aV 55=zT)  (a0:aq)(b0:aq)(h:AHeap)(L:Mem)  (o:Has h (L)){out:Bool}(H:eV.f m a0 b0=some out) :
  ∃r h',a6 Try.prog aV cf m 55 [.agg [.int .i64 a0.kind,.int .i64 a0.int,.str a0.label,af.fz a0.args],.agg [.int .i64 b0.kind,.int .i64 b0.int,.str b0.label,af.fz b0.args]] h=some (r,h')∧ff h' r (.bool out):=by
 refine ar (fn:=Try.f55) ha Try.func55 (by kernel_rfl) (by kernel_rfl) ?_
 refine aH (Q:=fun s=>eV.fin L out s) (fun _ _ h=>h) ?_
 have H:_=some out:=H
 unfold eV.f at H
 show dn _ cf zT m _ ⟨.agg [.int .i64 a0.kind,.int .i64 a0.int,.str a0.label,af.fz a0.args] :: .agg [.int .i64 b0.kind,.int .i64 b0.int,.str b0.label,af.fz b0.args]::sI [],[none,none],h⟩ _
 refine q1 <| qq ?_
 rcases iw H with⟨c0,H⟩| ⟨c0,H⟩
 ·obtain rfl:=oi H
  exact qr [.b 5 c0] <| qt <| ⟨.inl rfl,dA (.bool true) h (dz (aD))⟩
 ·rcases iw H with⟨c1,H⟩| ⟨c1,H⟩
  ·obtain rfl:=oi H
   exact qr [.b 5 c0,.b 12 c1] <| qt <| ⟨.inl rfl,dA (.bool true) h (dz (aD))⟩
  ·rcases iw H with⟨c2,H⟩| ⟨c2,H⟩
   ·obtain rfl:=oi H
    exact qr [.b 5 c0,.b 12 c1,.b 19 c2] <| qt <| ⟨.inl rfl,dA (.bool true) h (dz (aD))⟩
   ·obtain rfl:=oi H
    exact qr [.b 5 c0,.b 12 c1,.b 19 c2] <| qt <| ⟨.inl rfl,dA (.bool (!((a0.args.length:Int)==(b0.args.length:Int)))) h (dz (aD))⟩
end
end Go.Proofs.Ytifafejidnjckaa
namespace Go.Proofs.Ytifafejidnjckaa
open Go Go.R
open Go.IntKind (i64 u64 u8 u32)
def zU:bY:=gK [0,1,4] [] [4,3] [] []
def b4.f (m:Nat)(s0:ab)(n0:Int):Option (Bool):=(ix s0.aa n0).bind fun v0=>some (v0.kind==(0:Int))
def b4.fin (L:Mem)(r:Bool)(s:St):Prop:=∃av,aM Try.prog (s.open zU) Try.f59.results.toList=some av∧ff s.h av (.bool r)
def Nz (cf:CallF)(m:Nat):Prop:=∀(s0:ab) (n0:Int) (r:Bool),b4.f m s0 n0=some r→∀h xs,aO bO h xs [.fp [.bool s0.aj,ai.fz s0.aa,af.fz s0.ae] 0,.int .i64 n0]→cf 59 xs h=some (.bool r,h)
section
variable {cf:CallF}{m:Nat}
theorem lB {aV:FuncId→bY}(ha:aV 59=zU)  (s0:ab)(n0:Int)(h:AHeap)(L:Mem)  (o:Has h (L)){out:Bool}(H:b4.f m s0 n0=some out) :
  ∃r h',a6 Try.prog aV cf m 59 [.fp [.bool s0.aj,ai.fz s0.aa,af.fz s0.ae] 0,.int .i64 n0] h=some (r,h')∧ff h' r (.bool out):=by
 refine ar (fn:=Try.f59) ha Try.func59 (by kernel_rfl) (by kernel_rfl) ?_
 refine aH (Q:=fun s=>b4.fin L out s) (fun _ _ h=>h) ?_
 have H:_=some out:=H
 unfold b4.f at H
 show dn _ cf zU m _ ⟨[.fp [.bool s0.aj,ai.fz s0.aa,af.fz s0.ae] 0,.int .i64 n0,.any],[],h⟩ _
 refine q1 <| qq ?_
 obtain⟨v0,e0,H⟩:=bj H
 obtain rfl:=oi H
 exact qr [.v 5 (fV (k:=.i64) (E:=ai) (l:=s0.aa) xM e0),.v 7 (rQ  (E:=ai) (l:=s0.aa) (off:=0) h A3 e0 rfl)] <| qt <| ⟨.inl rfl,dA (.bool (v0.kind==(0:Int))) h (dz (aD))⟩
end
end Go.Proofs.Ytifafejidnjckaa
namespace Go.Proofs.Ytifafejidnjckaa
open Go Go.R
open Go.IntKind (i64 u64 u8 u32)
def zV:bY:=gK [0,1,3] [] [4,3] [] []
def ck.f (m:Nat)(a0:Int)(x0:ab):Option (Bool):=(cm.f m x0 a0).bind fun x1=>some (!x1)
def ck.fin (L:Mem)(r:Bool)(s:St):Prop:=∃av,aM Try.prog (s.open zV) Try.f62.results.toList=some av∧ff s.h av (.bool r)
def PS (cf:CallF)(m:Nat):Prop:=∀(a0:Int) (x0:ab) (r:Bool),ck.f m a0 x0=some r→∀h xs,aO bO h xs [.int .i64 a0,.fp [.fp [.bool x0.aj,ai.fz x0.aa,af.fz x0.ae] 0] 0]→cf 62 xs h=some (.bool r,h)
section
variable {cf:CallF}{m:Nat}
theorem jC {aV:FuncId→bY}(ha:aV 62=zV)(Is:Nx cf m)(a0:Int)(x0:ab)(h:AHeap)(L:Mem)  (o:Has h (L)){out:Bool}(H:ck.f m a0 x0=some out) :
  ∃r h',a6 Try.prog aV cf m 62 [.int .i64 a0,.fp [.fp [.bool x0.aj,ai.fz x0.aa,af.fz x0.ae] 0] 0] h=some (r,h')∧ff h' r (.bool out):=by
 refine ar (fn:=Try.f62) ha Try.func62 (by kernel_rfl) (by kernel_rfl) ?_
 refine aH (Q:=fun s=>ck.fin L out s) (fun _ _ h=>h) ?_
 have H:_=some out:=H
 unfold ck.f at H
 show dn _ cf zV m _ ⟨[.int .i64 a0,.fp [.fp [.bool x0.aj,ai.fz x0.aa,af.fz x0.ae] 0] 0,.any],[],h⟩ _
 refine q1 <| qq ?_
 obtain⟨x1,e0,H⟩:=bj H
 obtain rfl:=oi H
 exact qr [.a 2 (Is _ _ _ e0 h _ (fq (ah (fX (pure_cons (dN) (pure_cons (bJ.bw (E:=ai) (l:=x0.aa)) (pure_cons (bJ.bw (E:=af) (l:=x0.ae)) (pure_nil))))) (ah (br) (ax)))))] <| qt <| ⟨.inl rfl,dA (.bool (!x1)) h (dz (aD))⟩
end
end Go.Proofs.Ytifafejidnjckaa
namespace Go.Proofs.Ytifafejidnjckaa
open Go Go.R
open Go.IntKind (i64 u64 u8 u32)
def zW:bY:=gK [0,2] [] [2,1] [] []
def fM.f (m:Nat)(s0:ByteArray):Option (Bool):=if (s0.data.toList==(U3 #[112,114,111,99]).data.toList)=true then (some true) else (if (s0.data.toList==(U3 #[99,101,108,108]).data.toList)=true then (some true) else (some (s0.data.toList==(U3 #[112,111,114,116]).data.toList)))
def fM.fin (L:Mem)(r:Bool)(s:St):Prop:=∃av,aM Try.prog (s.open zW) Try.f64.results.toList=some av∧ff s.h av (.bool r)
def NA (cf:CallF)(m:Nat):Prop:=∀(s0:ByteArray) (r:Bool),fM.f m s0=some r→∀h xs,aO bO h xs [.str s0]→cf 64 xs h=some (.bool r,h)
section
variable {cf:CallF}{m:Nat}
theorem qv {aV:FuncId→bY}(ha:aV 64=zW)  (s0:ByteArray)(h:AHeap)(L:Mem)  (o:Has h (L)){out:Bool}(H:fM.f m s0=some out) :
  ∃r h',a6 Try.prog aV cf m 64 [.str s0] h=some (r,h')∧ff h' r (.bool out):=by
 refine ar (fn:=Try.f64) ha Try.func64 (by kernel_rfl) (by kernel_rfl) ?_
 refine aH (Q:=fun s=>fM.fin L out s) (fun _ _ h=>h) ?_
 have H:_=some out:=H
 unfold fM.f at H
 show dn _ cf zW m _ ⟨[.str s0,.any],[],h⟩ _
 refine q1 <| qq ?_
 rcases iw H with⟨c0,H⟩| ⟨c0,H⟩
 ·obtain rfl:=oi H
  exact qr [.b 2 c0] <| qt <| ⟨.inl rfl,dA (.bool true) h (dz (aD))⟩
 ·rcases iw H with⟨c1,H⟩| ⟨c1,H⟩
  ·obtain rfl:=oi H
   exact qr [.b 2 c0,.b 6 c1] <| qt <| ⟨.inl rfl,dA (.bool true) h (dz (aD))⟩
  ·obtain rfl:=oi H
   exact qr [.b 2 c0,.b 6 c1] <| qt <| ⟨.inl rfl,dA (.bool (s0.data.toList==(U3 #[112,111,114,116]).data.toList)) h (dz (aD))⟩
end
end Go.Proofs.Ytifafejidnjckaa
namespace Go.Proofs.Ytifafejidnjckaa
open Go Go.R
open Go.IntKind (i64 u64 u8 u32)
end Go.Proofs.Ytifafejidnjckaa
namespace Go.Proofs.Ytifafejidnjckaa
open Go Go.R
open Go.IntKind (i64 u64 u8 u32)
end Go.Proofs.Ytifafejidnjckaa
namespace Go.Proofs.Ytifafejidnjckaa
open Go Go.R
open Go.IntKind (i64 u64 u8 u32)
def w0:bY:=gK [0,1,2,3,4,5,7,8,9,10,11,12,14,24,53,54,55,56] [11,1000048] [262080,261696,253760,262079,261568,261574,260567,260567,258519,144855,13783,140759,144855,144855,261631,262079] [] [(8,[(12,none,1)])]
def aX.l0 (m:Nat)(x1:List Int)(x3:bu)(rec:Int→(List (Int × Int))→(List Int)→bu→bu→Option (Int × (List (Int × Int)) × bu))(v2:aq):Nat→(List Int)→Int→(List (Int × Int))→bu→Option ((List Int) × Int × (List (Int × Int)) × bu)
 | 0,_,_,_,_=>none
 | k+1,dq,x6,x7,x8=>if (decide (x6<(v2.args.length:Int)))=true then ((ix v2.args x6).bind fun v3=>(rec v3 x7 x1 x8 x3).bind fun x9=>(app 8 dq ([x9.1])).bind fun kz=>aX.l0 m x1 x3 rec v2 k kz (i64.wrap (x6+(1:Int))) x9.2.1 x9.2.2) else (some ((dq,x6,x7,x8)))
def aX.b (m:Nat)(rec:Int→(List (Int × Int))→(List Int)→bu→bu→Option (Int × (List (Int × Int)) × bu))(i0:Int)(x0:List (Int × Int))(x1:List Int)(x2:bu)(x3:bu):Option (Int × (List (Int × Int)) × bu):=(ix x1 i0).bind fun v0=>if ((wJ x0 v0).2)=true then (some ((wJ x0 v0).1,x0,x2)) else ((ix x1 i0).bind fun v1=>(ix x3.nodes i0).bind fun v2=>(app 56 x2.nodes [aq.mk v2.kind v2.int v2.label ([]:List Int)]).bind fun x5=>(aX.l0 m x1 x3 rec v2 m ([]:List Int) (0:Int) (BJ x0 v1 (x2.nodes.length:Int)) (bu.mk x5 x2.root)).bind fun b6=>match b6 with | (w5,zX,DR,sc)=>(ix sc.nodes (x2.nodes.length:Int)).bind fun v4=>some ((x2.nodes.length:Int),DR,(bu.mk (sc.nodes.set (x2.nodes.length:Int).toNat (aq.mk v4.kind v4.int v4.label w5)) sc.root)))
def aX.f (m:Nat):Nat→Int→(List (Int × Int))→(List Int)→bu→bu→Option (Int × (List (Int × Int)) × bu)
 | 0,_,_,_,_,_=>none
 | k+1,i0,x0,x1,x2,x3=>aX.b m (aX.f m k) i0 x0 x1 x2 x3
def aX.fin (L:Mem)(cX:Nat)(dr:Nat)(cY:Nat)(cC:Nat)(dX:Nat)(ez:List Nat)(de:Nat)(cO:Nat)(i0:Int)(x0:List (Int × Int))(x1:List Int)(x2:bu)(x3:bu)(r:Int × (List (Int × Int)) × bu)(s:St):Prop:=∃(lq:Nat) (gV:List Nat),aM Try.prog (s.open w0) Try.f73.results.toList=some (.int .i64 r.1)∧Has s.h ((cX,.ob [.mp dr])::(dr,.mp (oo r.2.1))::(cY,.ob [af.fz x1])::(cC,.ob [.rs lq 0 r.2.2.nodes.length 4,.int .i64 r.2.2.root])::(lq,.sl r.2.2.nodes.length 4 (fW.l (bE r.2.2.nodes gV)))::(de,.ob [ai.fz x3.nodes,.int .i64 x3.root])::(cO,.ob [.fn 73 [.ptr cX 0,.ptr cY 0,.ptr cC 0,.ptr de 0,.ptr cO 0]])::(fQ r.2.2.nodes gV++L))
def LS (cf:CallF)(m:Nat)(kk:Nat):Prop:=∀(i0:Int) (x0:List (Int × Int)) (x1:List Int) (x2:bu) (x3:bu) (r:Int × (List (Int × Int)) × bu),aX.f m kk i0 x0 x1 x2 x3=some r→∀h L (cX:Nat) (dr:Nat) (cY:Nat) (cC:Nat) (dX:Nat) (ez:List Nat) (de:Nat) (cO:Nat),Has h ((cX,.ob [.mp dr])::(dr,.mp (oo x0))::(cY,.ob [af.fz x1])::(cC,.ob [.rs dX 0 x2.nodes.length 4,.int .i64 x2.root])::(dX,.sl x2.nodes.length 4 (fW.l (bE x2.nodes ez)))::(de,.ob [ai.fz x3.nodes,.int .i64 x3.root])::(cO,.ob [.fn 73 [.ptr cX 0,.ptr cY 0,.ptr cC 0,.ptr de 0,.ptr cO 0]])::(fQ x2.nodes ez++L))→∀xs,xs.map aL=[.int .i64 i0,.ptr cX 0,.ptr cY 0,.ptr cC 0,.ptr de 0,.ptr cO 0]→∃(lq:Nat) (gV:List Nat) (h':AHeap),cf 73 xs h=some (.int .i64 r.1,h')∧Has h' ((cX,.ob [.mp dr])::(dr,.mp (oo r.2.1))::(cY,.ob [af.fz x1])::(cC,.ob [.rs lq 0 r.2.2.nodes.length 4,.int .i64 r.2.2.root])::(lq,.sl r.2.2.nodes.length 4 (fW.l (bE r.2.2.nodes gV)))::(de,.ob [ai.fz x3.nodes,.int .i64 x3.root])::(cO,.ob [.fn 73 [.ptr cX 0,.ptr cY 0,.ptr cC 0,.ptr de 0,.ptr cO 0]])::(fQ r.2.2.nodes gV++L))
section
variable {cf:CallF}{m:Nat}
theorem aX.dF (L:Mem)(cX:Nat)(dr:Nat)(cY:Nat)(cC:Nat)(dX:Nat)(ez:List Nat)(de:Nat)(cO:Nat)(i0:Int)(x0:List (Int × Int))(x1:List Int)(x2:bu)(x3:bu)(v2:aq)  {kk:Nat}(DS:LS cf m kk)  : dZ Try.prog cf w0 m (sub [1,1,1,1,1,1,1,0,1,0,0] (b8 Try.f73)) (fun k (σ:(List Int) × Int × (List (Int × Int)) × bu)=>aX.l0 m x1 x3 (aX.f m kk) v2 k σ.1 σ.2.1 σ.2.2.1 σ.2.2.2) (fun σ s=>match σ with | (dq,x6,x7,x8)=>∃eh eO vb h3,s=⟨sI (.ptr cC 0 :: .any :: .ptr cO 0::sI [.int .i64 (x2.nodes.length:Int),.any,.rs eh 0 dq.length 1,.any,.any,af.fz v2.args,.int .i64 (v2.args.length:Int),.int .i64 x6,.any]),[none,none],h3⟩∧Has h3 ((eh,.sl dq.length 1 (af.l dq))::(eO,.sl x8.nodes.length 4 (fW.l (bE x8.nodes vb)))::(cX,.ob [.mp dr])::(dr,.mp (oo x7))::(cY,.ob [af.fz x1])::(cC,.ob [.rs eO 0 x8.nodes.length 4,.int .i64 x8.root])::(de,.ob [ai.fz x3.nodes,.int .i64 x3.root])::(cO,.ob [.fn 73 [.ptr cX 0,.ptr cY 0,.ptr cC 0,.ptr de 0,.ptr cO 0]])::(fQ x8.nodes vb++L))) (fun out e s=>(e = .exit 0∧∃dq x6 x7 x8,(dq,x6,x7,x8)=out∧∃KG DT NB NC ND eh eO vb h3,s=⟨sI (.ptr cC 0 :: .any::KG::sI [.int .i64 (x2.nodes.length:Int),.any,.rs eh 0 dq.length 1,.any,.any,DT,NB,NC,ND]),[none,none],h3⟩∧Has h3 ((eh,.sl dq.length 1 (af.l dq))::(eO,.sl x8.nodes.length 4 (fW.l (bE x8.nodes vb)))::(cX,.ob [.mp dr])::(dr,.mp (oo x7))::(cY,.ob [af.fz x1])::(cC,.ob [.rs eO 0 x8.nodes.length 4,.int .i64 x8.root])::(de,.ob [ai.fz x3.nodes,.int .i64 x3.root])::(cO,.ob [.fn 73 [.ptr cX 0,.ptr cY 0,.ptr cC 0,.ptr de 0,.ptr cO 0]])::(fQ x8.nodes vb++L)))):=by
 refine mI (fun _=>rfl) ?_
 rintro k ⟨dq,x6,x7,x8⟩ s out ⟨eh,eO,vb,h3,rfl,o5⟩ H
 have H:aX.l0 m x1 x3 (aX.f m kk) v2 (k+1) dq x6 x7 x8=some out:=H
 refine q1 <| qq <| qc H (fun c1 H=>?_) (fun c1 H=>?_)
 ·refine qk <| qq <| qb 1 <| qq ?_
  obtain⟨v3,e7,H⟩:=bj H
  refine qr [.v 0 (fV (k:=.i64) (E:=af) (l:=v2.args) gx e7),.v 1 (iI  (E:=af) (l:=v2.args) h3 A3 e7 rfl)] ?_
  obtain⟨x9,e8,H⟩:=bj H
  obtain⟨dG,It,h4,e9,o6⟩:=DS _ _ _ _ _ _ e8 h3 _ _ _ _ _ _ vb _ _ ((Has.wV (pre:=[(cX,.ob [.mp dr]),(dr,.mp (oo x7)),(cY,.ob [af.fz x1]),(cC,.ob [.rs eO 0 x8.nodes.length 4,.int .i64 x8.root]),(eO,.sl x8.nodes.length 4 (fW.l (bE x8.nodes vb))),(de,.ob [ai.fz x3.nodes,.int .i64 x3.root]),(cO,.ob [.fn 73 [.ptr cX 0,.ptr cY 0,.ptr cC 0,.ptr de 0,.ptr cO 0]])]) (mid:=[(eh,.sl dq.length 1 (af.l dq))]) (Has.front (Has.front (Has.front (Has.front (Has.front (Has.front (Has.front (Has.front o5 0 rfl) 7 rfl) 7 rfl) 3 rfl) 7 rfl) 7 rfl) 7 rfl) 7 rfl)))  [.int .i64 v3,.ptr cX 0,.ptr cY 0,.ptr cC 0,.ptr de 0,.ptr cO 0] (au (aN (bg)) (au (rfl) (au (rfl) (au (rfl) (au (rfl) (au (rfl) (bG)))))))
  have o7:=Has.wV (pre:=[(cX,.ob [.mp dr]),(dr,.mp (oo x9.2.1)),(cY,.ob [af.fz x1]),(cC,.ob [.rs dG 0 x9.2.2.nodes.length 4,.int .i64 x9.2.2.root]),(dG,.sl x9.2.2.nodes.length 4 (fW.l (bE x9.2.2.nodes It))),(de,.ob [ai.fz x3.nodes,.int .i64 x3.root]),(cO,.ob [.fn 73 [.ptr cX 0,.ptr cY 0,.ptr cC 0,.ptr de 0,.ptr cO 0]])]) (N:=[(eh,.sl dq.length 1 (af.l dq))]) (mid:=fQ x9.2.2.nodes It) o6
  obtain⟨kz,sX,H⟩:=bj H
  obtain⟨eH,h5,vc,o8⟩:=iv (P:=Try.prog) (E:=af) (l:=dq) (q:=7) (t2:=33) (x:=.fz [.int .i64 x9.1] 1 true) (l2:=([x9.1])) gx o7 rfl (by kernel_rfl) rfl sX
  exact qr [.v 1 (show bl Try.prog h3 80 (.ptr cO 0)=some (.fn 73 [.ptr cX 0,.ptr cY 0,.ptr cC 0,.ptr de 0,.ptr cO 0]) from bX (q:=7) (cs:=[.fn 73 [.ptr cX 0,.ptr cY 0,.ptr cC 0,.ptr de 0,.ptr cO 0]]) o5 rfl (by kernel_rfl)),.a 3 e9,.a 5 vc] <| q0 <| ⟨(kz,i64.wrap (x6+(1:Int)),x9.2.1,x9.2.2),⟨eH,dG,It,h5,by kernel_rfl,(Has.front (Has.front (Has.front (Has.front (Has.front (Has.front (Has.front (Has.front o8 6 rfl) 6 rfl) 5 rfl) 5 rfl) 5 rfl) 5 rfl) 6 rfl) 7 rfl)⟩,H⟩
 ·exact qx 0 <| ⟨rfl,dq,x6,x7,x8,oi H,.ptr cO 0,af.fz v2.args,.int .i64 (v2.args.length:Int),.int .i64 x6,.bool (decide (x6<(v2.args.length:Int))),eh,eO,vb,h3,by kernel_rfl,o5⟩
theorem oz {aV:FuncId→bY}(ha:aV 73=w0)  (i0:Int)(x0:List (Int × Int))(x1:List Int)(x2:bu)(x3:bu)(h:AHeap)(L:Mem)(cX:Nat)(dr:Nat)(cY:Nat)(cC:Nat)(dX:Nat)(ez:List Nat)(de:Nat)(cO:Nat)  {kk:Nat}(DS:LS cf m kk)(o:Has h ((cX,.ob [.mp dr])::(dr,.mp (oo x0))::(cY,.ob [af.fz x1])::(cC,.ob [.rs dX 0 x2.nodes.length 4,.int .i64 x2.root])::(dX,.sl x2.nodes.length 4 (fW.l (bE x2.nodes ez)))::(de,.ob [ai.fz x3.nodes,.int .i64 x3.root])::(cO,.ob [.fn 73 [.ptr cX 0,.ptr cY 0,.ptr cC 0,.ptr de 0,.ptr cO 0]])::(fQ x2.nodes ez++L))){out:Int × (List (Int × Int)) × bu}(H:aX.f m (kk+1) i0 x0 x1 x2 x3=some out) :
  ∃r h',a6 Try.prog aV cf m 73 [.int .i64 i0,.ptr cX 0,.ptr cY 0,.ptr cC 0,.ptr de 0,.ptr cO 0] h=some (r,h')∧∃(lq:Nat) (gV:List Nat),r = .int .i64 out.1∧Has h' ((cX,.ob [.mp dr])::(dr,.mp (oo out.2.1))::(cY,.ob [af.fz x1])::(cC,.ob [.rs lq 0 out.2.2.nodes.length 4,.int .i64 out.2.2.root])::(lq,.sl out.2.2.nodes.length 4 (fW.l (bE out.2.2.nodes gV)))::(de,.ob [ai.fz x3.nodes,.int .i64 x3.root])::(cO,.ob [.fn 73 [.ptr cX 0,.ptr cY 0,.ptr cC 0,.ptr de 0,.ptr cO 0]])::(fQ out.2.2.nodes gV++L)):=by
 refine ar (fn:=Try.f73) ha Try.func73 (by kernel_rfl) (by kernel_rfl) ?_
 refine aH (Q:=fun s=>aX.fin L cX dr cY cC dX ez de cO i0 x0 x1 x2 x3 out s) (fun _ _ ⟨h1,lq,gV,h2,h3⟩=>⟨h1,_,h2,lq,gV,rfl,h3⟩) ?_
 have H:aX.b m (aX.f m kk) i0 x0 x1 x2 x3=some out:=H
 unfold aX.b at H
 show dn _ cf w0 m _ ⟨.int .i64 i0 :: .ptr cX 0 :: .ptr cY 0 :: .ptr cC 0 :: .ptr de 0 :: .ptr cO 0::uV [],[none,none],h⟩ _
 refine q1 <| qq <| qq ?_
 obtain⟨v0,e0,H⟩:=bj H
 refine qr [.v 0 (show bl Try.prog h 82 (.ptr cX 0)=some (.mp dr) from bX (q:=0) (cs:=[.mp dr]) o rfl (by kernel_rfl)),.v 1 (show bl Try.prog h 33 (.ptr cY 0)=some (af.fz x1) from bX (q:=2) (cs:=[af.fz x1]) o rfl (by kernel_rfl)),.v 3 (fV (k:=.i64) (E:=af) (l:=x1) gx e0),.v 4 (iI  (E:=af) (l:=x1) h A3 e0 rfl),.v 5 (show fI Try.prog h 82 (.mp dr) (.int .i64 v0) true=some (.tup [.int .i64 ((wJ x0 v0).1),.bool ((wJ x0 v0).2)]) from (M4 (q:=1) (l:=x0) (k:=v0) KF o rfl).1)] <| qq <| q0 <| qc H (fun c0 H=>?_) (fun c0 H=>?_)
 ·obtain rfl:=oi H
  exact q1 <| qt <| ⟨.inl rfl,⟨dX,ez,by kernel_rfl,he o⟩⟩
 ·refine qk <| qq <| qr [.v 1 (show bl Try.prog h 40 (.ptr cC 0)=some (.rs dX 0 x2.nodes.length 4) from bX (q:=3) (cs:=[.rs dX 0 x2.nodes.length 4,.int .i64 x2.root]) o rfl (by kernel_rfl))] <| qq ?_
  obtain⟨v1,e1,H⟩:=bj H
  obtain⟨h0,e2,o0⟩:=M8 (q:=1) (l:=x0) (k:=v1) (v:=(x2.nodes.length:Int)) KF o rfl
  refine qr [.v 0 (show bl Try.prog h 82 (.ptr cX 0)=some (.mp dr) from bX (q:=0) (cs:=[.mp dr]) o rfl (by kernel_rfl)),.v 1 (show bl Try.prog h 33 (.ptr cY 0)=some (af.fz x1) from bX (q:=2) (cs:=[af.fz x1]) o rfl (by kernel_rfl)),.v 3 (fV (k:=.i64) (E:=af) (l:=x1) gx e1),.v 4 (iI  (E:=af) (l:=x1) h A3 e1 rfl),.w 6 e2] <| qq ?_
  obtain⟨v2,e3,H⟩:=bj H
  refine qr [.v 1 (show bl Try.prog h0 40 (.ptr de 0)=some (ai.fz x3.nodes) from bX (q:=5) (cs:=[ai.fz x3.nodes,.int .i64 x3.root]) o0 rfl (by kernel_rfl)),.v 3 (fV (k:=.i64) (E:=ai) (l:=x3.nodes) xM e3),.v 4 (lX  (E:=ai) (l:=x3.nodes) h0 Fj Fk e3)] <| qq ?_
  have o1:Has h0 (((0),.sl (([]:List Int).length) 1 (af.l ([]:List Int)))::(cX,.ob [.mp dr])::(dr,.mp (oo (BJ x0 v1 (x2.nodes.length:Int))))::(cY,.ob [af.fz x1])::(cC,.ob [.rs dX 0 x2.nodes.length 4,.int .i64 x2.root])::(dX,.sl x2.nodes.length 4 (fW.l (bE x2.nodes ez)))::(de,.ob [ai.fz x3.nodes,.int .i64 x3.root])::(cO,.ob [.fn 73 [.ptr cX 0,.ptr cY 0,.ptr cC 0,.ptr de 0,.ptr cO 0]])::(fQ x2.nodes ez++L)):=Has.nil o0 1
  obtain⟨x5,e4,H⟩:=bj H
  obtain⟨aI,eJ,h1,e5,o2⟩:=Ib (P:=Try.prog) (t2:=40) (pre:=[(cX,.ob [.mp dr]),(dr,.mp (oo (BJ x0 v1 (x2.nodes.length:Int)))),(cY,.ob [af.fz x1]),(cC,.ob [.rs dX 0 x2.nodes.length 4,.int .i64 x2.root]),(de,.ob [ai.fz x3.nodes,.int .i64 x3.root]),(cO,.ob [.fn 73 [.ptr cX 0,.ptr cY 0,.ptr cC 0,.ptr de 0,.ptr cO 0]])]) (ns:=x2.nodes) (ids:=ez) (kind:=v2.kind) (int:=v2.int) (label:=v2.label) (args:=([]:List Int)) (x:=.fz [.int .i64 v2.kind,.int .i64 v2.int,.str v2.label,.rs (0) 0 (([]:List Int).length) 1] 1 true) xM (Has.front (Has.front (Has.front (Has.front (Has.front (Has.front (Has.front (Has.front o1 7 rfl) 7 rfl) 6 rfl) 6 rfl) 6 rfl) 6 rfl) 6 rfl) 7 rfl) (by kernel_rfl) rfl e4
  obtain⟨h2,e6,o3⟩:=na (P:=Try.prog) (t:=40) (off:=0) (q:=4) (cs:=[.rs dX 0 x2.nodes.length 4,.int .i64 x2.root]) (eS:=[.rs aI 0 x5.length 4,.int .i64 x2.root]) (x:=.rs aI 0 x5.length 4) o2 rfl (by kernel_rfl)
  refine qr [.v 1 (show bl Try.prog h0 40 (.ptr cC 0)=some (.rs dX 0 x2.nodes.length 4) from bX (q:=3) (cs:=[.rs dX 0 x2.nodes.length 4,.int .i64 x2.root]) o0 rfl (by kernel_rfl)),.a 10 e5,.w 12 e6] <| qq <| q0 ?_
  have o4:Has h2 ((((0)),.sl (([]:List Int).length) 1 (af.l ([]:List Int)))::(aI,.sl x5.length 4 (fW.l (bE x5 eJ)))::(cX,.ob [.mp dr])::(dr,.mp (oo (BJ x0 v1 (x2.nodes.length:Int))))::(cY,.ob [af.fz x1])::(cC,.ob [.rs aI 0 x5.length 4,.int .i64 x2.root])::(de,.ob [ai.fz x3.nodes,.int .i64 x3.root])::(cO,.ob [.fn 73 [.ptr cX 0,.ptr cY 0,.ptr cC 0,.ptr de 0,.ptr cO 0]])::(fQ x5 eJ++L)):=Has.nil o3 1
  refine qq <| qq <| q0 <| qb 0 ?_
  obtain⟨b6,w6,H⟩:=bj H
  refine ql (aX.dF L cX dr cY cC dX ez de cO i0 x0 x1 x2 x3 v2  DS  (([]:List Int),(0:Int),BJ x0 v1 (x2.nodes.length:Int),(bu.mk x5 x2.root)) _ _ ⟨((0)),aI,eJ,h2,by kernel_rfl,o4⟩ w6) ?_
  rintro e s ⟨rfl,w5,zX,DR,sc,rfl,g0,g1,g2,g3,g4,fE,fB,Gi,h6,rfl,o9⟩
  try dsimp only at H
  refine qq ?_
  obtain⟨v4,xN,H⟩:=bj H
  obtain⟨h7,zY,w7⟩:=Ge (P:=Try.prog) (tf:=33) (pre:=[(cX,.ob [.mp dr]),(dr,.mp (oo DR)),(cY,.ob [af.fz x1]),(cC,.ob [.rs fB 0 sc.nodes.length 4,.int .i64 sc.root]),(de,.ob [ai.fz x3.nodes,.int .i64 x3.root]),(cO,.ob [.fn 73 [.ptr cX 0,.ptr cY 0,.ptr cC 0,.ptr de 0,.ptr cO 0]])]) (args:=w5) (Has.front (Has.front (Has.front (Has.front (Has.front (Has.front (Has.front (Has.front o9 7 rfl) 7 rfl) 7 rfl) 7 rfl) 7 rfl) 7 rfl) 6 rfl) 7 rfl) R9 xN
  obtain rfl:=oi H
  exact qr [.v 1 (show bl Try.prog h6 40 (.ptr cC 0)=some (.rs fB 0 sc.nodes.length 4) from bX (q:=5) (cs:=[.rs fB 0 sc.nodes.length 4,.int .i64 sc.root]) o9 rfl (by kernel_rfl)),.v 4 (bn (k:=.i64) (E:=fW) (l:=(bE sc.nodes Gi)) (q:=1) xM o9 rfl (qW xN)),.w 6 zY] <| qq <| q0 <| qt <| ⟨.inl rfl,⟨fB,(u7 sc.nodes Gi (x2.nodes.length:Int) fE),by kernel_rfl,he (by have o:Has h7 ((cX,.ob [.mp dr])::(dr,.mp (oo DR))::(cY,.ob [af.fz x1])::(cC,.ob [.rs fB 0 sc.nodes.length 4,.int .i64 sc.root])::(fB,.sl sc.nodes.length 4 (fW.l (bE (sc.nodes.set (x2.nodes.length:Int).toNat (aq.mk v4.kind v4.int v4.label w5)) (u7 sc.nodes Gi (x2.nodes.length:Int) fE))))::(de,.ob [ai.fz x3.nodes,.int .i64 x3.root])::(cO,.ob [.fn 73 [.ptr cX 0,.ptr cY 0,.ptr cC 0,.ptr de 0,.ptr cO 0]])::(fQ (sc.nodes.set (x2.nodes.length:Int).toNat (aq.mk v4.kind v4.int v4.label w5)) (u7 sc.nodes Gi (x2.nodes.length:Int) fE)++L)):=(Has.front (Has.front (Has.front (Has.front (Has.front (Has.front (Has.front w7 6 rfl) 6 rfl) 2 rfl) 6 rfl) 6 rfl) 6 rfl) 6 rfl); simpa only [Uq] using o)⟩⟩
end
end Go.Proofs.Ytifafejidnjckaa
namespace Go.Proofs.Ytifafejidnjckaa
open Go Go.R
open Go.IntKind (i64 u64 u8 u32)
def w8:bY:=gK [0,1,4,5,7,8,9,16] [] [252,204,140,196,68,251,204,251] [] []
def cw.l0 (m:Nat)(s0:List Int)(f0:Int→Option (Bool)):Nat→Int→Option (Sum Int (Int))
 | 0,_=>none
 | k+1,x0=>if (decide (x0<(s0.length:Int)))=true then ((ix s0 x0).bind fun v0=>(f0 v0).bind fun r0=>if r0=true then (some (.inl x0)) else (cw.l0 m s0 f0 k (i64.wrap (x0+(1:Int))))) else (some (.inr x0))
def cw.f (m:Nat)(s0:List Int)(f0:Int→Option (Bool)):Option (Int):=(cw.l0 m s0 f0 m (0:Int)).bind fun b6=>match b6 with | .inl r1=>some r1 | .inr x1=>some (-1:Int)
def cw.fin (L:Mem)(r:Int)(s:St):Prop:=∃av,aM Try.prog (s.open w8) Try.f75.results.toList=some av∧ff s.h av (.int .i64 r)
def NF (cf:CallF)(m:Nat):Prop:=∀(s0:List Int) (f0:Int→Option (Bool)) (r:Int),cw.f m s0 f0=some r→∀(eD:FuncId) (aP:List AV),(∀(h:AHeap) (xs:List AV) (a0:Int) r,f0 a0=some r→aO bO h xs ([.int .i64 a0]++aP)→cf eD xs h=some (.bool r,h))→(∀h,aO cr h aP aP)→∀h xs,aO bO h xs [af.fz s0,.fn eD aP]→cf 75 xs h=some (.int .i64 r,h)
section
variable {cf:CallF}{m:Nat}
theorem cw.dF (L:Mem)(eD:FuncId)(aP:List AV)(s0:List Int)(f0:Int→Option (Bool))  (gH:∀(h:AHeap) (xs:List AV) (a0:Int) r,f0 a0=some r→aO bO h xs ([.int .i64 a0]++aP)→cf eD xs h=some (.bool r,h))(gI:∀h,aO cr h aP aP)  : dZ Try.prog cf w8 m (sub [1,0,1,0,0] (b8 Try.f75)) (fun k (σ:Int)=>cw.l0 m s0 f0 k σ) (fun σ s=>match σ with | x0=>∃h0,s=⟨[af.fz s0,.fn eD aP,.any,.any,.int .i64 (s0.length:Int),.int .i64 x0,.any,.any],[],h0⟩∧Has h0 (L)) (fun out e s=>(e = .exit 0∧∃x0,.inr x0=out∧∃ow yD Gg BS BT h0,s=⟨[ow,yD,.any,.any,Gg,BS,BT,.any],[],h0⟩∧Has h0 (L))∨(e = .ret∧∃r,.inl r=out∧cw.fin L r s)):=by
 refine mI (fun _=>rfl) ?_
 rintro k x0 s out ⟨h0,rfl,o0⟩ H
 have H:cw.l0 m s0 f0 (k+1) x0=some out:=H
 refine q1 <| qq <| qc H (fun c0 H=>?_) (fun c0 H=>?_)
 ·refine qk <| qq <| qb 1 <| qq <| q0 <| qq ?_
  obtain⟨v0,e0,H⟩:=bj H
  obtain⟨r0,e1,H⟩:=bj H
  refine qr [.v 3 (fV (k:=.i64) (E:=af) (l:=s0) gx e0),.v 4 (iI  (E:=af) (l:=s0) h0 A3 e0 rfl),.a 5 (gH _ _ _ _ e1 (He (ah (br) (ax)) (gI h0)))] <| qc H (fun c1 H=>?_) (fun c1 H=>?_)
  ·exact q1 <| qt <| Or.inr (⟨rfl,_,oi H,dA (.int .i64 x0) h0 (dz (dd))⟩)
  ·exact qk <| q0 <| ⟨i64.wrap (x0+(1:Int)),⟨h0,by kernel_rfl,o0⟩,H⟩
 ·exact qx 0 <| Or.inl (⟨rfl,x0,oi H,af.fz s0,.fn eD aP,.int .i64 (s0.length:Int),.int .i64 x0,.bool (decide (x0<(s0.length:Int))),h0,by kernel_rfl,o0⟩)
theorem vd {aV:FuncId→bY}(ha:aV 75=w8)  (s0:List Int)(f0:Int→Option (Bool))(h:AHeap)(L:Mem)(eD:FuncId)(aP:List AV)  (gH:∀(h:AHeap) (xs:List AV) (a0:Int) r,f0 a0=some r→aO bO h xs ([.int .i64 a0]++aP)→cf eD xs h=some (.bool r,h))(gI:∀h,aO cr h aP aP)(o:Has h (L)){out:Int}(H:cw.f m s0 f0=some out) :
  ∃r h',a6 Try.prog aV cf m 75 [af.fz s0,.fn eD aP] h=some (r,h')∧ff h' r (.int .i64 out):=by
 refine ar (fn:=Try.f75) ha Try.func75 (by kernel_rfl) (by kernel_rfl) ?_
 refine aH (Q:=fun s=>cw.fin L out s) (fun _ _ h=>h) ?_
 have H:_=some out:=H
 unfold cw.f at H
 show dn _ cf w8 m _ ⟨af.fz s0 :: .fn eD aP::wM [],[],h⟩ _
 refine q1 <| qq <| qq <| q0 <| qb 0 ?_
 obtain⟨b6,e2,H⟩:=bj H
 refine ql (cw.dF L eD aP s0 f0  gH gI  (0:Int) _ _ ⟨h,by kernel_rfl,o⟩ e2) ?_
 rintro e s (⟨rfl,x1,rfl,g0,g1,g2,g3,g4,h1,rfl,o1⟩| ⟨rfl,r1,rfl,yC⟩)
 ·try dsimp only at H
  obtain rfl:=oi H
  exact q1 <| qt <| ⟨.inl rfl,dA (.int .i64 (-1:Int)) h1 (dz (dd))⟩
 ·try dsimp only at H
  obtain rfl:=oi H
  exact⟨.inl rfl,yC⟩
end
end Go.Proofs.Ytifafejidnjckaa
namespace Go.Proofs.Ytifafejidnjckaa
open Go Go.R
open Go.IntKind (i64 u64 u8 u32)
def w9:bY:=gK [0,1,4,5,7,8,9,16] [] [252,204,140,196,68,251,204,251] [] []
def eL.l0 (m:Nat)(s0:List aq)(f0:aq→Option (Bool)):Nat→Int→Option (Sum Int (Int))
 | 0,_=>none
 | k+1,x0=>if (decide (x0<(s0.length:Int)))=true then ((ix s0 x0).bind fun v0=>(f0 v0).bind fun r0=>if r0=true then (some (.inl x0)) else (eL.l0 m s0 f0 k (i64.wrap (x0+(1:Int))))) else (some (.inr x0))
def eL.f (m:Nat)(s0:List aq)(f0:aq→Option (Bool)):Option (Int):=(eL.l0 m s0 f0 m (0:Int)).bind fun b6=>match b6 with | .inl r1=>some r1 | .inr x1=>some (-1:Int)
def eL.fin (L:Mem)(r:Int)(s:St):Prop:=∃av,aM Try.prog (s.open w9) Try.f78.results.toList=some av∧ff s.h av (.int .i64 r)
def PT (cf:CallF)(m:Nat):Prop:=∀(s0:List aq) (f0:aq→Option (Bool)) (r:Int),eL.f m s0 f0=some r→∀(eD:FuncId) (aP:List AV),(∀(h:AHeap) (xs:List AV) (a0:aq) r,f0 a0=some r→aO bO h xs ([.agg [.int .i64 a0.kind,.int .i64 a0.int,.str a0.label,af.fz a0.args]]++aP)→cf eD xs h=some (.bool r,h))→(∀h,aO cr h aP aP)→∀h xs,aO bO h xs [ai.fz s0,.fn eD aP]→cf 78 xs h=some (.int .i64 r,h)
section
variable {cf:CallF}{m:Nat}
theorem eL.dF (L:Mem)(eD:FuncId)(aP:List AV)(s0:List aq)(f0:aq→Option (Bool))  (gH:∀(h:AHeap) (xs:List AV) (a0:aq) r,f0 a0=some r→aO bO h xs ([.agg [.int .i64 a0.kind,.int .i64 a0.int,.str a0.label,af.fz a0.args]]++aP)→cf eD xs h=some (.bool r,h))(gI:∀h,aO cr h aP aP)  : dZ Try.prog cf w9 m (sub [1,0,1,0,0] (b8 Try.f78)) (fun k (σ:Int)=>eL.l0 m s0 f0 k σ) (fun σ s=>match σ with | x0=>∃h0,s=⟨[ai.fz s0,.fn eD aP,.any,.any,.int .i64 (s0.length:Int),.int .i64 x0,.any,.any],[],h0⟩∧Has h0 (L)) (fun out e s=>(e = .exit 0∧∃x0,.inr x0=out∧∃ow yD Gg BS BT h0,s=⟨[ow,yD,.any,.any,Gg,BS,BT,.any],[],h0⟩∧Has h0 (L))∨(e = .ret∧∃r,.inl r=out∧eL.fin L r s)):=by
 refine mI (fun _=>rfl) ?_
 rintro k x0 s out ⟨h0,rfl,o0⟩ H
 have H:eL.l0 m s0 f0 (k+1) x0=some out:=H
 refine q1 <| qq <| qc H (fun c0 H=>?_) (fun c0 H=>?_)
 ·refine qk <| qq <| qb 1 <| qq <| q0 <| qq ?_
  obtain⟨v0,e0,H⟩:=bj H
  obtain⟨r0,e1,H⟩:=bj H
  refine qr [.v 3 (fV (k:=.i64) (E:=ai) (l:=s0) xM e0),.v 4 (lX  (E:=ai) (l:=s0) h0 Fj Fk e0),.a 5 (gH _ _ _ _ e1 (He (ah (iY (ah (br) (ah (br) (ah (cH) (ah (fe (E:=af)) (ax)))))) (ax)) (gI h0)))] <| qc H (fun c1 H=>?_) (fun c1 H=>?_)
  ·exact q1 <| qt <| Or.inr (⟨rfl,_,oi H,dA (.int .i64 x0) h0 (dz (dd))⟩)
  ·exact qk <| q0 <| ⟨i64.wrap (x0+(1:Int)),⟨h0,by kernel_rfl,o0⟩,H⟩
 ·exact qx 0 <| Or.inl (⟨rfl,x0,oi H,ai.fz s0,.fn eD aP,.int .i64 (s0.length:Int),.int .i64 x0,.bool (decide (x0<(s0.length:Int))),h0,by kernel_rfl,o0⟩)
theorem ve {aV:FuncId→bY}(ha:aV 78=w9)  (s0:List aq)(f0:aq→Option (Bool))(h:AHeap)(L:Mem)(eD:FuncId)(aP:List AV)  (gH:∀(h:AHeap) (xs:List AV) (a0:aq) r,f0 a0=some r→aO bO h xs ([.agg [.int .i64 a0.kind,.int .i64 a0.int,.str a0.label,af.fz a0.args]]++aP)→cf eD xs h=some (.bool r,h))(gI:∀h,aO cr h aP aP)(o:Has h (L)){out:Int}(H:eL.f m s0 f0=some out) :
  ∃r h',a6 Try.prog aV cf m 78 [ai.fz s0,.fn eD aP] h=some (r,h')∧ff h' r (.int .i64 out):=by
 refine ar (fn:=Try.f78) ha Try.func78 (by kernel_rfl) (by kernel_rfl) ?_
 refine aH (Q:=fun s=>eL.fin L out s) (fun _ _ h=>h) ?_
 have H:_=some out:=H
 unfold eL.f at H
 show dn _ cf w9 m _ ⟨ai.fz s0 :: .fn eD aP::wM [],[],h⟩ _
 refine q1 <| qq <| qq <| q0 <| qb 0 ?_
 obtain⟨b6,e2,H⟩:=bj H
 refine ql (eL.dF L eD aP s0 f0  gH gI  (0:Int) _ _ ⟨h,by kernel_rfl,o⟩ e2) ?_
 rintro e s (⟨rfl,x1,rfl,g0,g1,g2,g3,g4,h1,rfl,o1⟩| ⟨rfl,r1,rfl,yC⟩)
 ·try dsimp only at H
  obtain rfl:=oi H
  exact q1 <| qt <| ⟨.inl rfl,dA (.int .i64 (-1:Int)) h1 (dz (dd))⟩
 ·try dsimp only at H
  obtain rfl:=oi H
  exact⟨.inl rfl,yC⟩
end
end Go.Proofs.Ytifafejidnjckaa
namespace Go.Proofs.Ytifafejidnjckaa
open Go Go.R
open Go.IntKind (i64 u64 u8 u32)
def zZ:bY:=gK [0,1,3] [] [4,3] [] []
def gy.f (m:Nat)(a0:Int)(x0:Int):Option (Bool):=if (decide (a0<(0:Int)))=true then (some true) else (some (decide (a0≥x0)))
def gy.fin (L:Mem)(r:Bool)(s:St):Prop:=∃av,aM Try.prog (s.open zZ) Try.f79.results.toList=some av∧ff s.h av (.bool r)
def PU (cf:CallF)(m:Nat):Prop:=∀(a0:Int) (x0:Int) (r:Bool),gy.f m a0 x0=some r→∀h xs,aO bO h xs [.int .i64 a0,.fp [.int .i64 x0] 0]→cf 79 xs h=some (.bool r,h)
section
variable {cf:CallF}{m:Nat}
theorem pv {aV:FuncId→bY}(ha:aV 79=zZ)  (a0:Int)(x0:Int)(h:AHeap)(L:Mem)  (o:Has h (L)){out:Bool}(H:gy.f m a0 x0=some out) :
  ∃r h',a6 Try.prog aV cf m 79 [.int .i64 a0,.fp [.int .i64 x0] 0] h=some (r,h')∧ff h' r (.bool out):=by
 refine ar (fn:=Try.f79) ha Try.func79 (by kernel_rfl) (by kernel_rfl) ?_
 refine aH (Q:=fun s=>gy.fin L out s) (fun _ _ h=>h) ?_
 have H:_=some out:=H
 unfold gy.f at H
 show dn _ cf zZ m _ ⟨[.int .i64 a0,.fp [.int .i64 x0] 0,.any],[],h⟩ _
 refine q1 <| qq ?_
 rcases iw H with⟨c0,H⟩| ⟨c0,H⟩
 ·obtain rfl:=oi H
  exact qr [.b 2 c0] <| qt <| ⟨.inl rfl,dA (.bool true) h (dz (aD))⟩
 ·obtain rfl:=oi H
  exact qr [.b 2 c0] <| qt <| ⟨.inl rfl,dA (.bool (decide (a0≥x0))) h (dz (aD))⟩
end
end Go.Proofs.Ytifafejidnjckaa
namespace Go.Proofs.Ytifafejidnjckaa
open Go Go.R
open Go.IntKind (i64 u64 u8 u32)
def xa:bY:=gK [0,2,3,5,6,7,8,9,14] [] [510,506,395,267,387,131,509,395,509] [] []
def b5.l0 (m:Nat)(gd:List Int):Nat→Int→Option (Sum Int (Int))
 | 0,_=>none
 | k+1,x0=>if (decide (x0<(gd.length:Int)))=true then ((ix gd x0).bind fun v0=>if (!(v0==(0:Int)))=true then (some (.inl v0)) else (b5.l0 m gd k (i64.wrap (x0+(1:Int))))) else (some (.inr x0))
def b5.f (m:Nat)(gd:List Int):Option (Int):=(b5.l0 m gd m (0:Int)).bind fun b6=>match b6 with | .inl r0=>some r0 | .inr x1=>some (0:Int)
def b5.fin (L:Mem)(r:Int)(s:St):Prop:=∃av,aM Try.prog (s.open xa) Try.f81.results.toList=some av∧ff s.h av (.int .i64 r)
def PV (cf:CallF)(m:Nat):Prop:=∀(gd:List Int) (r:Int),b5.f m gd=some r→∀h xs,aO bO h xs [af.fz gd]→cf 81 xs h=some (.int .i64 r,h)
section
variable {cf:CallF}{m:Nat}
theorem b5.dF (L:Mem)(gd:List Int)   : dZ Try.prog cf xa m (sub [1,1,0,1,0,0] (b8 Try.f81)) (fun k (σ:Int)=>b5.l0 m gd k σ) (fun σ s=>match σ with | x0=>∃h0,s=⟨[.any,.any,.int .i64 (0:Int),.any,af.fz gd,.int .i64 (gd.length:Int),.int .i64 x0,.any,.any],[],h0⟩∧Has h0 (L)) (fun out e s=>(e = .exit 0∧∃x0,.inr x0=out∧∃Gh Gg BS BT h0,s=⟨[.any,.any,.int .i64 (0:Int),.any,Gh,Gg,BS,BT,.any],[],h0⟩∧Has h0 (L))∨(e = .ret∧∃r,.inl r=out∧b5.fin L r s)):=by
 refine mI (fun _=>rfl) ?_
 rintro k x0 s out ⟨h0,rfl,o0⟩ H
 have H:b5.l0 m gd (k+1) x0=some out:=H
 refine q1 <| qq <| qc H (fun c0 H=>?_) (fun c0 H=>?_)
 ·refine qk <| qq <| qb 1 <| qq ?_
  obtain⟨v0,e0,H⟩:=bj H
  refine qr [.v 0 (fV (k:=.i64) (E:=af) (l:=gd) gx e0),.v 1 (iI  (E:=af) (l:=gd) h0 A3 e0 rfl)] <| qq <| q0 <| qc H (fun c1 H=>?_) (fun c1 H=>?_)
  ·exact q1 <| qt <| Or.inr (⟨rfl,_,oi H,dA (.int .i64 v0) h0 (dz (dd))⟩)
  ·exact qk <| q0 <| ⟨i64.wrap (x0+(1:Int)),⟨h0,by kernel_rfl,o0⟩,H⟩
 ·exact qx 0 <| Or.inl (⟨rfl,x0,oi H,af.fz gd,.int .i64 (gd.length:Int),.int .i64 x0,.bool (decide (x0<(gd.length:Int))),h0,by kernel_rfl,o0⟩)
theorem qw {aV:FuncId→bY}(ha:aV 81=xa)  (gd:List Int)(h:AHeap)(L:Mem)  (o:Has h (L)){out:Int}(H:b5.f m gd=some out) :
  ∃r h',a6 Try.prog aV cf m 81 [af.fz gd] h=some (r,h')∧ff h' r (.int .i64 out):=by
 refine ar (fn:=Try.f81) ha Try.func81 (by kernel_rfl) (by kernel_rfl) ?_
 refine aH (Q:=fun s=>b5.fin L out s) (fun _ _ h=>h) ?_
 have H:_=some out:=H
 unfold b5.f at H
 show dn _ cf xa m _ ⟨af.fz gd::BL [],[],h⟩ _
 refine q1 <| qq <| q0 <| qq <| qq <| q0 <| qb 0 ?_
 obtain⟨b6,e1,H⟩:=bj H
 refine ql (b5.dF L gd   (0:Int) _ _ ⟨h,by kernel_rfl,o⟩ e1) ?_
 rintro e s (⟨rfl,x1,rfl,g0,g1,g2,g3,h1,rfl,o1⟩| ⟨rfl,r0,rfl,yC⟩)
 ·try dsimp only at H
  obtain rfl:=oi H
  exact q1 <| qt <| ⟨.inl rfl,dA (.int .i64 (0:Int)) h1 (dz (dd))⟩
 ·try dsimp only at H
  obtain rfl:=oi H
  exact⟨.inl rfl,yC⟩
end
end Go.Proofs.Ytifafejidnjckaa
namespace Go.Proofs.Ytifafejidnjckaa
open Go Go.R
open Go.IntKind (i64 u64 u8 u32)
def z6:bY:=gK [0,2] [] [2,1] [] []
def fF.f (m:Nat)(c0:Int):Option (Bool):=if (decide (c0≥(97:Int)))=true then (if (decide (c0≤(122:Int)))=true then (some true) else (if (decide (c0≥(65:Int)))=true then (if (decide (c0≤(90:Int)))=true then (some true) else (if (decide (c0≥(48:Int)))=true then (if (decide (c0≤(57:Int)))=true then (some true) else (some (c0==(95:Int)))) else (some (c0==(95:Int))))) else (if (decide (c0≥(48:Int)))=true then (if (decide (c0≤(57:Int)))=true then (some true) else (some (c0==(95:Int)))) else (some (c0==(95:Int)))))) else (if (decide (c0≥(65:Int)))=true then (if (decide (c0≤(90:Int)))=true then (some true) else (if (decide (c0≥(48:Int)))=true then (if (decide (c0≤(57:Int)))=true then (some true) else (some (c0==(95:Int)))) else (some (c0==(95:Int))))) else (if (decide (c0≥(48:Int)))=true then (if (decide (c0≤(57:Int)))=true then (some true) else (some (c0==(95:Int)))) else (some (c0==(95:Int)))))
def fF.fin (L:Mem)(r:Bool)(s:St):Prop:=∃av,aM Try.prog (s.open z6) Try.f85.results.toList=some av∧ff s.h av (.bool r)
def NG (cf:CallF)(m:Nat):Prop:=∀(c0:Int) (r:Bool),fF.f m c0=some r→∀h xs,aO bO h xs [.int .u8 c0]→cf 85 xs h=some (.bool r,h)
section
variable {cf:CallF}{m:Nat}
theorem pw {aV:FuncId→bY}(ha:aV 85=z6)  (c0:Int)(h:AHeap)(L:Mem)  (o:Has h (L)){out:Bool}(H:fF.f m c0=some out) :
  ∃r h',a6 Try.prog aV cf m 85 [.int .u8 c0] h=some (r,h')∧ff h' r (.bool out):=by
 refine ar (fn:=Try.f85) ha Try.func85 (by kernel_rfl) (by kernel_rfl) ?_
 refine aH (Q:=fun s=>fF.fin L out s) (fun _ _ h=>h) ?_
 have H:_=some out:=H
 unfold fF.f at H
 show dn _ cf z6 m _ ⟨[.int .u8 c0,.any],[],h⟩ _
 refine q1 <| qq ?_
 rcases iw H with⟨c1,H⟩| ⟨c1,H⟩
 ·rcases iw H with⟨c2,H⟩| ⟨c2,H⟩
  ·obtain rfl:=oi H
   exact qr [.b 2 c1,.b 6 c2] <| qt <| ⟨.inl rfl,dA (.bool true) h (dz (aD))⟩
  ·rcases iw H with⟨c3,H⟩| ⟨c3,H⟩
   ·rcases iw H with⟨c4,H⟩| ⟨c4,H⟩
    ·obtain rfl:=oi H
     exact qr [.b 2 c1,.b 6 c2,.b 9 c3,.b 14 c4] <| qt <| ⟨.inl rfl,dA (.bool true) h (dz (aD))⟩
    ·rcases iw H with⟨c5,H⟩| ⟨c5,H⟩
     ·rcases iw H with⟨c6,H⟩| ⟨c6,H⟩
      ·obtain rfl:=oi H
       exact qr [.b 2 c1,.b 6 c2,.b 9 c3,.b 14 c4,.b 17 c5,.b 22 c6] <| qt <| ⟨.inl rfl,dA (.bool true) h (dz (aD))⟩
      ·obtain rfl:=oi H
       exact qr [.b 2 c1,.b 6 c2,.b 9 c3,.b 14 c4,.b 17 c5,.b 22 c6] <| qt <| ⟨.inl rfl,dA (.bool (c0==(95:Int))) h (dz (aD))⟩
     ·obtain rfl:=oi H
      exact qr [.b 2 c1,.b 6 c2,.b 9 c3,.b 14 c4,.b 17 c5] <| qt <| ⟨.inl rfl,dA (.bool (c0==(95:Int))) h (dz (aD))⟩
   ·rcases iw H with⟨c7,H⟩| ⟨c7,H⟩
    ·rcases iw H with⟨c8,H⟩| ⟨c8,H⟩
     ·obtain rfl:=oi H
      exact qr [.b 2 c1,.b 6 c2,.b 9 c3,.b 17 c7,.b 22 c8] <| qt <| ⟨.inl rfl,dA (.bool true) h (dz (aD))⟩
     ·obtain rfl:=oi H
      exact qr [.b 2 c1,.b 6 c2,.b 9 c3,.b 17 c7,.b 22 c8] <| qt <| ⟨.inl rfl,dA (.bool (c0==(95:Int))) h (dz (aD))⟩
    ·obtain rfl:=oi H
     exact qr [.b 2 c1,.b 6 c2,.b 9 c3,.b 17 c7] <| qt <| ⟨.inl rfl,dA (.bool (c0==(95:Int))) h (dz (aD))⟩
 ·rcases iw H with⟨c9,H⟩| ⟨c9,H⟩
  ·rcases iw H with⟨Gj,H⟩| ⟨Gj,H⟩
   ·obtain rfl:=oi H
    exact qr [.b 2 c1,.b 9 c9,.b 14 Gj] <| qt <| ⟨.inl rfl,dA (.bool true) h (dz (aD))⟩
   ·rcases iw H with⟨yF,H⟩| ⟨yF,H⟩
    ·rcases iw H with⟨DU,H⟩| ⟨DU,H⟩
     ·obtain rfl:=oi H
      exact qr [.b 2 c1,.b 9 c9,.b 14 Gj,.b 17 yF,.b 22 DU] <| qt <| ⟨.inl rfl,dA (.bool true) h (dz (aD))⟩
     ·obtain rfl:=oi H
      exact qr [.b 2 c1,.b 9 c9,.b 14 Gj,.b 17 yF,.b 22 DU] <| qt <| ⟨.inl rfl,dA (.bool (c0==(95:Int))) h (dz (aD))⟩
    ·obtain rfl:=oi H
     exact qr [.b 2 c1,.b 9 c9,.b 14 Gj,.b 17 yF] <| qt <| ⟨.inl rfl,dA (.bool (c0==(95:Int))) h (dz (aD))⟩
  ·rcases iw H with⟨Gk,H⟩| ⟨Gk,H⟩
   ·rcases iw H with⟨DV,H⟩| ⟨DV,H⟩
    ·obtain rfl:=oi H
     exact qr [.b 2 c1,.b 9 c9,.b 17 Gk,.b 22 DV] <| qt <| ⟨.inl rfl,dA (.bool true) h (dz (aD))⟩
    ·obtain rfl:=oi H
     exact qr [.b 2 c1,.b 9 c9,.b 17 Gk,.b 22 DV] <| qt <| ⟨.inl rfl,dA (.bool (c0==(95:Int))) h (dz (aD))⟩
   ·obtain rfl:=oi H
    exact qr [.b 2 c1,.b 9 c9,.b 17 Gk] <| qt <| ⟨.inl rfl,dA (.bool (c0==(95:Int))) h (dz (aD))⟩
end
end Go.Proofs.Ytifafejidnjckaa
namespace Go.Proofs.Ytifafejidnjckaa
open Go Go.R
open Go.IntKind (i64 u64 u8 u32)
end Go.Proofs.Ytifafejidnjckaa
namespace Go.Proofs.Ytifafejidnjckaa
open Go Go.R
open Go.IntKind (i64 u64 u8 u32)
end Go.Proofs.Ytifafejidnjckaa
namespace Go.Proofs.Ytifafejidnjckaa
open Go Go.R
open Go.IntKind (i64 u64 u8 u32)
end Go.Proofs.Ytifafejidnjckaa
namespace Go.Proofs.Ytifafejidnjckaa
open Go Go.R
open Go.IntKind (i64 u64 u8 u32)
def z7:bY:=gK [0,2] [] [2,1] [] []
def cmp_isNaN_int.f (m:Nat)(x0:Int):Option (Bool):=some (!(x0==x0))
def cmp_isNaN_int.fin (L:Mem)(r:Bool)(s:St):Prop:=∃av,aM Try.prog (s.open z7) Try.f97.results.toList=some av∧ff s.h av (.bool r)
def PW (cf:CallF)(m:Nat):Prop:=∀(x0:Int) (r:Bool),cmp_isNaN_int.f m x0=some r→∀h xs,aO bO h xs [.int .i64 x0]→cf 97 xs h=some (.bool r,h)
section
variable {cf:CallF}{m:Nat}
theorem nB {aV:FuncId→bY}(ha:aV 97=z7)  (x0:Int)(h:AHeap)(L:Mem)  (o:Has h (L)){out:Bool}(H:cmp_isNaN_int.f m x0=some out) :
  ∃r h',a6 Try.prog aV cf m 97 [.int .i64 x0] h=some (r,h')∧ff h' r (.bool out):=by
 refine ar (fn:=Try.f97) ha Try.func97 (by kernel_rfl) (by kernel_rfl) ?_
 refine aH (Q:=fun s=>cmp_isNaN_int.fin L out s) (fun _ _ h=>h) ?_
 have H:_=some out:=H
 unfold cmp_isNaN_int.f at H
 show dn _ cf z7 m _ ⟨[.int .i64 x0,.any],[],h⟩ _
 obtain rfl:=oi H
 exact q1 <| qq <| q0 <| qt <| ⟨.inl rfl,dA (.bool (!(x0==x0))) h (dz (aD))⟩
end
end Go.Proofs.Ytifafejidnjckaa
namespace Go.Proofs.Ytifafejidnjckaa
open Go Go.R
open Go.IntKind (i64 u64 u8 u32)
def z8:bY:=gK [0,2] [] [2,1] [] []
def cmp_isNaN_string.f (m:Nat)(x0:ByteArray):Option (Bool):=some (!(x0.data.toList==x0.data.toList))
def cmp_isNaN_string.fin (L:Mem)(r:Bool)(s:St):Prop:=∃av,aM Try.prog (s.open z8) Try.f98.results.toList=some av∧ff s.h av (.bool r)
def PX (cf:CallF)(m:Nat):Prop:=∀(x0:ByteArray) (r:Bool),cmp_isNaN_string.f m x0=some r→∀h xs,aO bO h xs [.str x0]→cf 98 xs h=some (.bool r,h)
section
variable {cf:CallF}{m:Nat}
theorem lC {aV:FuncId→bY}(ha:aV 98=z8)  (x0:ByteArray)(h:AHeap)(L:Mem)  (o:Has h (L)){out:Bool}(H:cmp_isNaN_string.f m x0=some out) :
  ∃r h',a6 Try.prog aV cf m 98 [.str x0] h=some (r,h')∧ff h' r (.bool out):=by
 refine ar (fn:=Try.f98) ha Try.func98 (by kernel_rfl) (by kernel_rfl) ?_
 refine aH (Q:=fun s=>cmp_isNaN_string.fin L out s) (fun _ _ h=>h) ?_
 have H:_=some out:=H
 unfold cmp_isNaN_string.f at H
 show dn _ cf z8 m _ ⟨[.str x0,.any],[],h⟩ _
 obtain rfl:=oi H
 exact q1 <| qq <| q0 <| qt <| ⟨.inl rfl,dA (.bool (!(x0.data.toList==x0.data.toList))) h (dz (aD))⟩
end
end Go.Proofs.Ytifafejidnjckaa
namespace Go.Proofs.Ytifafejidnjckaa
open Go Go.R
open Go.IntKind (i64 u64 u8 u32)
end Go.Proofs.Ytifafejidnjckaa
namespace Go.Proofs.Ytifafejidnjckaa
open Go Go.R
open Go.IntKind (i64 u64 u8 u32)
def px:bY:=gK [0,1,2,3,8,9,14,34] [] [224,160,224,192,64,192,192] [] []
def aU.l1 (m:Nat)(a0:Int)(aS:Int→Int→Option (Int)):Nat→(List Int)→Int→Option ((List Int) × Int)
 | 0,_,_=>none
 | k+1,cZ,j0=>if (decide (j0 > a0))=true then ((ix cZ j0).bind fun v0=>(ix cZ (i64.wrap (j0 - (1:Int)))).bind fun v1=>(aS v0 v1).bind fun r0=>if (decide (r0<(0:Int)))=true then ((ix cZ (i64.wrap (j0 - (1:Int)))).bind fun v2=>(ix cZ j0).bind fun v3=>(ix cZ j0).bind fun v4=>(ix (cZ.set j0.toNat v2) (i64.wrap (j0 - (1:Int)))).bind fun v5=>aU.l1 m a0 aS k ((cZ.set j0.toNat v2).set (i64.wrap (j0 - (1:Int))).toNat v3) (i64.wrap (j0 - (1:Int)))) else (some ((cZ,j0)))) else (some ((cZ,j0)))
def aU.l0 (m:Nat)(a0:Int)(b0:Int)(aS:Int→Int→Option (Int)):Nat→(List Int)→Int→Option ((List Int) × Int)
 | 0,_,_=>none
 | k+1,bk,i0=>if (decide (i0<b0))=true then ((aU.l1 m a0 aS m bk i0).bind fun b6=>match b6 with | (dI,j1)=>aU.l0 m a0 b0 aS k dI (i64.wrap (i0+(1:Int)))) else (some ((bk,i0)))
def aU.f (m:Nat)(aw:List Int)(a0:Int)(b0:Int)(aS:Int→Int→Option (Int)):Option ((List Int)):=(aU.l0 m a0 b0 aS m aw (i64.wrap (a0+(1:Int)))).bind fun dt=>match dt with | (jb,i1)=>some jb
def aU.fin (L:Mem)(aI:Nat)(aw:List Int)(a0:Int)(b0:Int)(aS:Int→Int→Option (Int))(r:(List Int))(s:St):Prop:=aM Try.prog (s.open px) Try.f105.results.toList=some (.tup [])∧Has s.h ((aI,.sl aw.length 1 (af.l r))::L)
def Iu (cf:CallF)(m:Nat):Prop:=∀(aw:List Int) (a0:Int) (b0:Int) (aS:Int→Int→Option (Int)) (r:(List Int)),aU.f m aw a0 b0 aS=some r→∀h L (cd:Nat) (aI:Nat),Has h ((aI,.sl cd 1 (af.l aw))::L)→∀(p7:FuncId) (fG eK:List AV),(aL (.fn p7 fG) = .fn p7 fG)→(∀(h:AHeap) (xs:List AV) (a0:Int) (a1:Int) r,aS a0 a1=some r→aO bO h xs ([.int .i64 a0,.int .i64 a1]++eK)→cf p7 xs h=some (.int .i64 r,h))→(∀h K,Has h (K++(L))→aO cr h fG eK)→(∀h,aO cr h eK eK)→∀xs,xs.map aL=[.rs aI 0 cd 1,.int .i64 a0,.int .i64 b0,.fn p7 fG]→∃h',cf 105 xs h=some (.tup [],h')∧Has h' ((aI,.sl cd 1 (af.l r))::L)
section
variable {cf:CallF}{m:Nat}
theorem aU.me (L:Mem)(aI:Nat)(p7:FuncId)(fG eK:List AV)(aw:List Int)(a0:Int)(b0:Int)(aS:Int→Int→Option (Int))(i0:Int)  (BU:aL (.fn p7 fG) = .fn p7 fG)(yG:∀(h:AHeap) (xs:List AV) (a0:Int) (a1:Int) r,aS a0 a1=some r→aO bO h xs ([.int .i64 a0,.int .i64 a1]++eK)→cf p7 xs h=some (.int .i64 r,h))(yH:∀h K,Has h (K++(L))→aO cr h fG eK)(BV:∀h,aO cr h eK eK)  : dZ Try.prog cf px m (sub [1,0,0,1,0,0,1,0,0] (b8 Try.f105)) (fun k (σ:(List Int) × Int)=>aU.l1 m a0 aS k σ.1 σ.2) (fun σ s=>match σ with | (cZ,j0)=>∃h1,s=⟨[.rs aI 0 aw.length 1,.int .i64 a0,.int .i64 b0,.fn p7 fG,.int .i64 i0,.int .i64 j0,.any,.any],[],h1⟩∧Has h1 ((aI,.sl aw.length 1 (af.l cZ))::L)) (fun out e s=>(e = .exit 2∧∃cZ j0,(cZ,j0)=out∧∃BT NH h1,s=⟨[.rs aI 0 aw.length 1,.int .i64 a0,.int .i64 b0,.fn p7 fG,.int .i64 i0,BT,.any,NH],[],h1⟩∧Has h1 ((aI,.sl aw.length 1 (af.l cZ))::L))):=by
 refine mI (fun _=>rfl) ?_
 rintro k ⟨cZ,j0⟩ s out ⟨h1,rfl,o1⟩ H
 have H:aU.l1 m a0 aS (k+1) cZ j0=some out:=H
 refine qq <| qq ?_
 rcases iw H with⟨c1,H⟩| ⟨c1,H⟩
 ·obtain⟨v0,e0,H⟩:=bj H
  obtain⟨v1,e1,H⟩:=bj H
  obtain⟨r0,e2,H⟩:=bj H
  refine qr [.b 3 c1,.v 7 (bn (k:=.i64) (E:=af) (l:=cZ) (q:=0) gx o1 rfl e0),.v 8 (dD  (E:=af) (l:=cZ) (q:=0) o1 rfl A3 e0 rfl),.v 12 (bn (k:=.i64) (E:=af) (l:=cZ) (q:=0) gx o1 rfl e1),.v 13 (dD  (E:=af) (l:=cZ) (q:=0) o1 rfl A3 e1 rfl),.a 14 (yG _ _ _ _ _ e2 (He (ah (br) (ah (br) (ax))) (yH h1 [(aI,.sl aw.length 1 (af.l cZ))] o1)))] <| qc H (fun c2 H=>?_) (fun c2 H=>?_)
  ·refine qk <| qq <| qb 3 ?_
   obtain⟨v2,e3,H⟩:=bj H
   obtain⟨v3,e4,H⟩:=bj H
   obtain⟨v4,e5,H⟩:=bj H
   obtain⟨h2,e6,o2⟩:=fo (P:=Try.prog) (tf:=3) (E:=af) (l:=cZ) (q:=0) (v:=v2) (x:=.int .i64 v2) o1 rfl Z3 e5 rfl rfl
   obtain⟨v5,e7,H⟩:=bj H
   obtain⟨h3,e8,o3⟩:=fo (P:=Try.prog) (tf:=3) (E:=af) (l:=(cZ.set j0.toNat v2)) (q:=0) (v:=v3) (x:=.int .i64 v3) o2 rfl Z3 e7 rfl rfl
   exact qr [.v 8 (bn (k:=.i64) (E:=af) (l:=cZ) (q:=0) gx o1 rfl e3),.v 9 (dD  (E:=af) (l:=cZ) (q:=0) o1 rfl A3 e3 rfl),.v 12 (bn (k:=.i64) (E:=af) (l:=cZ) (q:=0) gx o1 rfl e4),.v 13 (dD  (E:=af) (l:=cZ) (q:=0) o1 rfl A3 e4 rfl),.v 14 (bn (k:=.i64) (E:=af) (l:=cZ) (q:=0) gx o1 rfl e5),.w 15 e6,.v 16 (bn (k:=.i64) (E:=af) (l:=(cZ.set j0.toNat v2)) (q:=0) gx o2 rfl e7),.w 17 e8] <| q0 <| ⟨((cZ.set j0.toNat v2).set (i64.wrap (j0 - (1:Int))).toNat v3,i64.wrap (j0 - (1:Int))),⟨h3,by kernel_rfl,o3⟩,H⟩
  ·exact qx 2 <| ⟨rfl,cZ,j0,oi H,.int .i64 j0,.bool (decide (r0<(0:Int))),h1,by kernel_rfl,o1⟩
 ·exact qr [.b 3 c1] <| DA <| qx 2 <| ⟨rfl,cZ,j0,oi H,.int .i64 j0,.bool false,h1,by kernel_rfl,o1⟩
theorem aU.dF (L:Mem)(aI:Nat)(p7:FuncId)(fG eK:List AV)(aw:List Int)(a0:Int)(b0:Int)(aS:Int→Int→Option (Int))  (BU:aL (.fn p7 fG) = .fn p7 fG)(yG:∀(h:AHeap) (xs:List AV) (a0:Int) (a1:Int) r,aS a0 a1=some r→aO bO h xs ([.int .i64 a0,.int .i64 a1]++eK)→cf p7 xs h=some (.int .i64 r,h))(yH:∀h K,Has h (K++(L))→aO cr h fG eK)(BV:∀h,aO cr h eK eK)  : dZ Try.prog cf px m (sub [1,0,0] (b8 Try.f105)) (fun k (σ:(List Int) × Int)=>aU.l0 m a0 b0 aS k σ.1 σ.2) (fun σ s=>match σ with | (bk,i0)=>∃h0,s=⟨.rs aI 0 aw.length 1 :: .int .i64 a0 :: .int .i64 b0 :: .fn p7 fG :: .int .i64 i0::sI [],[],h0⟩∧Has h0 ((aI,.sl aw.length 1 (af.l bk))::L)) (fun out e s=>(e = .exit 0∧∃bk i0,(bk,i0)=out∧∃ow yD KI Gf BS DO h0,s=⟨[ow,yD,KI,Gf,BS,.any,DO,.any],[],h0⟩∧Has h0 ((aI,.sl aw.length 1 (af.l bk))::L))):=by
 refine mI (fun _=>rfl) ?_
 rintro k ⟨bk,i0⟩ s out ⟨h0,rfl,o0⟩ H
 have H:aU.l0 m a0 b0 aS (k+1) bk i0=some out:=H
 refine qq <| qq <| q0 <| qc H (fun c0 H=>?_) (fun c0 H=>?_)
 ·refine qk <| qq <| qb 1 <| qq <| q0 <| qb 2 ?_
  obtain⟨b6,e9,H⟩:=bj H
  refine ql (aU.me L aI p7 fG eK aw a0 b0 aS i0  BU yG yH BV  (bk,i0) _ _ ⟨h0,by kernel_rfl,o0⟩ e9) ?_
  rintro e s ⟨rfl,dI,j1,rfl,g0,g1,h4,rfl,o4⟩
  try dsimp only at H
  exact q0 <| ⟨(dI,i64.wrap (i0+(1:Int))),⟨h4,by kernel_rfl,o4⟩,H⟩
 ·exact qx 0 <| ⟨rfl,bk,i0,oi H,.rs aI 0 aw.length 1,.int .i64 a0,.int .i64 b0,.fn p7 fG,.int .i64 i0,.bool (decide (i0<b0)),h0,by kernel_rfl,o0⟩
theorem mO {aV:FuncId→bY}(ha:aV 105=px)  (aw:List Int)(a0:Int)(b0:Int)(aS:Int→Int→Option (Int))(h:AHeap)(L:Mem)(aI:Nat)(p7:FuncId)(fG eK:List AV)  (BU:aL (.fn p7 fG) = .fn p7 fG)(yG:∀(h:AHeap) (xs:List AV) (a0:Int) (a1:Int) r,aS a0 a1=some r→aO bO h xs ([.int .i64 a0,.int .i64 a1]++eK)→cf p7 xs h=some (.int .i64 r,h))(yH:∀h K,Has h (K++(L))→aO cr h fG eK)(BV:∀h,aO cr h eK eK)(o:Has h ((aI,.sl aw.length 1 (af.l aw))::L)){out:(List Int)}(H:aU.f m aw a0 b0 aS=some out) :
  ∃r h',a6 Try.prog aV cf m 105 [.rs aI 0 aw.length 1,.int .i64 a0,.int .i64 b0,.fn p7 fG] h=some (r,h')∧r = .tup []∧Has h' ((aI,.sl aw.length 1 (af.l out))::L):=by
 refine ar (fn:=Try.f105) ha Try.func105 (by kernel_rfl) (by kernel_rfl) ?_
 refine aH (Q:=fun s=>aU.fin L aI aw a0 b0 aS out s) (fun _ _ ⟨h1,h2,h3⟩=>⟨h1,_,h2,rfl,h3⟩) ?_
 have H:_=some out:=H
 unfold aU.f at H
 show dn _ cf px m _ ⟨.rs aI 0 aw.length 1 :: .int .i64 a0 :: .int .i64 b0 :: .fn p7 fG::nw [],[],h⟩ _
 refine q1 <| qb 0 ?_
 obtain⟨dt,sX,H⟩:=bj H
 refine ql (aU.dF L aI p7 fG eK aw a0 b0 aS  BU yG yH BV  (aw,i64.wrap (a0+(1:Int))) _ _ ⟨h,by kernel_rfl,o⟩ sX) ?_
 rintro e s ⟨rfl,jb,i1,rfl,g2,g3,g4,g5,g6,g7,h5,rfl,o5⟩
 try dsimp only at H
 obtain rfl:=oi H
 exact⟨.inr rfl,⟨by kernel_rfl,he o5⟩⟩
end
end Go.Proofs.Ytifafejidnjckaa
namespace Go.Proofs.Ytifafejidnjckaa
open Go Go.R
open Go.IntKind (i64 u64 u8 u32)
def sd:bY:=gK [0,1,2,3,10,13] [] [32,0,32,32] [] []
def bR.l0 (m:Nat)(a0:Int)(b0:Int)(n0:Int):Nat→(List Int)→Int→Option ((List Int) × Int)
 | 0,_,_=>none
 | k+1,bk,i0=>if (decide (i0<n0))=true then ((ix bk (i64.wrap (b0+i0))).bind fun v0=>(ix bk (i64.wrap (a0+i0))).bind fun v1=>(ix bk (i64.wrap (a0+i0))).bind fun v2=>(ix (bk.set (i64.wrap (a0+i0)).toNat v0) (i64.wrap (b0+i0))).bind fun v3=>bR.l0 m a0 b0 n0 k ((bk.set (i64.wrap (a0+i0)).toNat v0).set (i64.wrap (b0+i0)).toNat v1) (i64.wrap (i0+(1:Int)))) else (some ((bk,i0)))
def bR.f (m:Nat)(aw:List Int)(a0:Int)(b0:Int)(n0:Int)(aS:Int→Int→Option (Int)):Option ((List Int)):=(bR.l0 m a0 b0 n0 m aw (0:Int)).bind fun b6=>match b6 with | (cZ,i1)=>some cZ
def bR.fin (L:Mem)(aI:Nat)(aw:List Int)(a0:Int)(b0:Int)(n0:Int)(aS:Int→Int→Option (Int))(r:(List Int))(s:St):Prop:=aM Try.prog (s.open sd) Try.f109.results.toList=some (.tup [])∧Has s.h ((aI,.sl aw.length 1 (af.l r))::L)
def Iv (cf:CallF)(m:Nat):Prop:=∀(aw:List Int) (a0:Int) (b0:Int) (n0:Int) (aS:Int→Int→Option (Int)) (r:(List Int)),bR.f m aw a0 b0 n0 aS=some r→∀h L (cd:Nat) (aI:Nat),Has h ((aI,.sl cd 1 (af.l aw))::L)→∀(eF:FuncId) (aY aT:List AV),(aL (.fn eF aY) = .fn eF aY)→(∀(h:AHeap) (xs:List AV) (a0:Int) (a1:Int) r,aS a0 a1=some r→aO bO h xs ([.int .i64 a0,.int .i64 a1]++aT)→cf eF xs h=some (.int .i64 r,h))→(∀h K,Has h (K++(L))→aO cr h aY aT)→(∀h,aO cr h aT aT)→∀xs,xs.map aL=[.rs aI 0 cd 1,.int .i64 a0,.int .i64 b0,.int .i64 n0,.fn eF aY]→∃h',cf 109 xs h=some (.tup [],h')∧Has h' ((aI,.sl cd 1 (af.l r))::L)
section
variable {cf:CallF}{m:Nat}
theorem bR.dF (L:Mem)(aI:Nat)(eF:FuncId)(aY aT:List AV)(aw:List Int)(a0:Int)(b0:Int)(n0:Int)(aS:Int→Int→Option (Int))  (gz:aL (.fn eF aY) = .fn eF aY)(gS:∀(h:AHeap) (xs:List AV) (a0:Int) (a1:Int) r,aS a0 a1=some r→aO bO h xs ([.int .i64 a0,.int .i64 a1]++aT)→cf eF xs h=some (.int .i64 r,h))(gT:∀h K,Has h (K++(L))→aO cr h aY aT)(iy:∀h,aO cr h aT aT)  : dZ Try.prog cf sd m (sub [1,0,0] (b8 Try.f109)) (fun k (σ:(List Int) × Int)=>bR.l0 m a0 b0 n0 k σ.1 σ.2) (fun σ s=>match σ with | (bk,i0)=>∃h0,s=⟨[.rs aI 0 aw.length 1,.int .i64 a0,.int .i64 b0,.int .i64 n0,.int .i64 i0,.any],[],h0⟩∧Has h0 ((aI,.sl aw.length 1 (af.l bk))::L)) (fun out e s=>(e = .exit 0∧∃bk i0,(bk,i0)=out∧∃ow yD KI Gf yI va h0,s=⟨[ow,yD,KI,Gf,yI,va],[],h0⟩∧Has h0 ((aI,.sl aw.length 1 (af.l bk))::L))):=by
 refine mI (fun _=>rfl) ?_
 rintro k ⟨bk,i0⟩ s out ⟨h0,rfl,o0⟩ H
 have H:bR.l0 m a0 b0 n0 (k+1) bk i0=some out:=H
 refine qq <| qq <| q0 <| qc H (fun c0 H=>?_) (fun c0 H=>?_)
 ·refine qk <| qq <| qb 1 ?_
  obtain⟨v0,e0,H⟩:=bj H
  obtain⟨v1,e1,H⟩:=bj H
  obtain⟨v2,e2,H⟩:=bj H
  obtain⟨h1,e3,o1⟩:=fo (P:=Try.prog) (tf:=3) (E:=af) (l:=bk) (q:=0) (v:=v0) (x:=.int .i64 v0) o0 rfl Z3 e2 rfl rfl
  obtain⟨v3,e4,H⟩:=bj H
  obtain⟨h2,e5,o2⟩:=fo (P:=Try.prog) (tf:=3) (E:=af) (l:=(bk.set (i64.wrap (a0+i0)).toNat v0)) (q:=0) (v:=v1) (x:=.int .i64 v1) o1 rfl Z3 e4 rfl rfl
  exact qr [.v 12 (bn (k:=.i64) (E:=af) (l:=bk) (q:=0) gx o0 rfl e0),.v 13 (dD  (E:=af) (l:=bk) (q:=0) o0 rfl A3 e0 rfl),.v 18 (bn (k:=.i64) (E:=af) (l:=bk) (q:=0) gx o0 rfl e1),.v 19 (dD  (E:=af) (l:=bk) (q:=0) o0 rfl A3 e1 rfl),.v 20 (bn (k:=.i64) (E:=af) (l:=bk) (q:=0) gx o0 rfl e2),.w 21 e3,.v 22 (bn (k:=.i64) (E:=af) (l:=(bk.set (i64.wrap (a0+i0)).toNat v0)) (q:=0) gx o1 rfl e4),.w 23 e5] <| q0 <| ⟨((bk.set (i64.wrap (a0+i0)).toNat v0).set (i64.wrap (b0+i0)).toNat v1,i64.wrap (i0+(1:Int))),⟨h2,by kernel_rfl,o2⟩,H⟩
 ·exact qx 0 <| ⟨rfl,bk,i0,oi H,.rs aI 0 aw.length 1,.int .i64 a0,.int .i64 b0,.int .i64 n0,.int .i64 i0,.bool (decide (i0<n0)),h0,by kernel_rfl,o0⟩
theorem qy {aV:FuncId→bY}(ha:aV 109=sd)  (aw:List Int)(a0:Int)(b0:Int)(n0:Int)(aS:Int→Int→Option (Int))(h:AHeap)(L:Mem)(aI:Nat)(eF:FuncId)(aY aT:List AV)  (gz:aL (.fn eF aY) = .fn eF aY)(gS:∀(h:AHeap) (xs:List AV) (a0:Int) (a1:Int) r,aS a0 a1=some r→aO bO h xs ([.int .i64 a0,.int .i64 a1]++aT)→cf eF xs h=some (.int .i64 r,h))(gT:∀h K,Has h (K++(L))→aO cr h aY aT)(iy:∀h,aO cr h aT aT)(o:Has h ((aI,.sl aw.length 1 (af.l aw))::L)){out:(List Int)}(H:bR.f m aw a0 b0 n0 aS=some out) :
  ∃r h',a6 Try.prog aV cf m 109 [.rs aI 0 aw.length 1,.int .i64 a0,.int .i64 b0,.int .i64 n0,.fn eF aY] h=some (r,h')∧r = .tup []∧Has h' ((aI,.sl aw.length 1 (af.l out))::L):=by
 refine ar (fn:=Try.f109) ha Try.func109 (by kernel_rfl) (by kernel_rfl) ?_
 refine aH (Q:=fun s=>bR.fin L aI aw a0 b0 n0 aS out s) (fun _ _ ⟨h1,h2,h3⟩=>⟨h1,_,h2,rfl,h3⟩) ?_
 have H:_=some out:=H
 unfold bR.f at H
 show dn _ cf sd m _ ⟨[.rs aI 0 aw.length 1,.int .i64 a0,.int .i64 b0,.int .i64 n0,.any,.any],[],h⟩ _
 refine q1 <| qb 0 ?_
 obtain⟨b6,e6,H⟩:=bj H
 refine ql (bR.dF L aI eF aY aT aw a0 b0 n0 aS  gz gS gT iy  (aw,(0:Int)) _ _ ⟨h,by kernel_rfl,o⟩ e6) ?_
 rintro e s ⟨rfl,cZ,i1,rfl,g0,g1,g2,g3,g4,g5,h3,rfl,o3⟩
 try dsimp only at H
 obtain rfl:=oi H
 exact⟨.inr rfl,⟨by kernel_rfl,he o3⟩⟩
end
end Go.Proofs.Ytifafejidnjckaa
namespace Go.Proofs.Ytifafejidnjckaa
open Go Go.R
open Go.IntKind (i64 u64 u8 u32)
def Aa:bY:=gK [0,2,5] [] [6,2,5,5] [] []
def bB.f (m:Nat)(s0:ab):Option (Int):=(bA.f m s0).bind fun x0=>if (!x0)=true then (some (0:Int)) else (some (s0.aa.length:Int))
def bB.fin (L:Mem)(r:Int)(s:St):Prop:=∃av,aM Try.prog (s.open Aa) Try.f18.results.toList=some av∧ff s.h av (.int .i64 r)
def LU (cf:CallF)(m:Nat):Prop:=∀(s0:ab) (r:Int),bB.f m s0=some r→∀h xs,aO bO h xs [.fp [.bool s0.aj,ai.fz s0.aa,af.fz s0.ae] 0]→cf 18 xs h=some (.int .i64 r,h)
section
variable {cf:CallF}{m:Nat}
theorem lD {aV:FuncId→bY}(ha:aV 18=Aa)(yE:KH cf m)(s0:ab)(h:AHeap)(L:Mem)  (o:Has h (L)){out:Int}(H:bB.f m s0=some out) :
  ∃r h',a6 Try.prog aV cf m 18 [.fp [.bool s0.aj,ai.fz s0.aa,af.fz s0.ae] 0] h=some (r,h')∧ff h' r (.int .i64 out):=by
 refine ar (fn:=Try.f18) ha Try.func18 (by kernel_rfl) (by kernel_rfl) ?_
 refine aH (Q:=fun s=>bB.fin L out s) (fun _ _ h=>h) ?_
 have H:_=some out:=H
 unfold bB.f at H
 show dn _ cf Aa m _ ⟨[.fp [.bool s0.aj,ai.fz s0.aa,af.fz s0.ae] 0,.any,.any],[],h⟩ _
 refine q1 <| qq <| qq ?_
 obtain⟨x0,e0,H⟩:=bj H
 refine qr [.a 1 (yE _ _ e0 h _ (fq (ah (fX (pure_cons (dN) (pure_cons (bJ.bw (E:=ai) (l:=s0.aa)) (pure_cons (bJ.bw (E:=af) (l:=s0.ae)) (pure_nil))))) (ax))))] <| qc H (fun c0 H=>?_) (fun c0 H=>?_)
 ·obtain rfl:=oi H
  exact q1 <| qt <| ⟨.inl rfl,dA (.int .i64 (0:Int)) h (dz (dd))⟩
 ·obtain rfl:=oi H
  exact qk <| qq <| q0 <| qt <| ⟨.inl rfl,dA (.int .i64 (s0.aa.length:Int)) h (dz (dd))⟩
end
end Go.Proofs.Ytifafejidnjckaa
namespace Go.Proofs.Ytifafejidnjckaa
open Go Go.R
open Go.IntKind (i64 u64 u8 u32)
def oA.f (m:Nat)(s0:ab):Option ((Option ab) × ab):=(bA.f m s0).bind fun x0=>if (!x0)=true then (some (none,s0)) else ((F7 4 s0.aa).bind fun x1=>(F7 1 s0.ae).bind fun x2=>some (some (ab.mk true x1 x2),s0))
end Go.Proofs.Ytifafejidnjckaa
namespace Go.Proofs.Ytifafejidnjckaa
open Go Go.R
open Go.IntKind (i64 u64 u8 u32)
def Ab:bY:=gK [0,2,3] [] [6,1] [] []
def eo.f (m:Nat)(s0:ab):Option (Int × Int × ab):=(bZ.f m s0 (dH.f m ) (aq.mk (0:Int) (0:Int) (U3 #[]) ([]))).bind fun x0=>some (x0.1,x0.2.1,x0.2.2)
def eo.fin (L:Mem)(ao:Nat)(ak:Nat)(an:Nat)(s0:ab)(r:Int × Int × ab)(s:St):Prop:=∃aB aC:Nat,aM Try.prog (s.open Ab) Try.f27.results.toList=some (.tup [.int .i64 r.1,.int .i64 r.2.1])∧Has s.h ((ao,.ob [.bool r.2.2.aj,.rs aB 0 r.2.2.aa.length 4,.rs aC 0 r.2.2.ae.length 1])::(aB,.sl r.2.2.aa.length 4 (ai.l r.2.2.aa))::(aC,.sl r.2.2.ae.length 1 (af.l r.2.2.ae))::L)
def PY (cf:CallF)(m:Nat):Prop:=∀(s0:ab) (r:Int × Int × ab),eo.f m s0=some r→∀h L (ao:Nat) (ak:Nat) (an:Nat),Has h ((ao,.ob [.bool s0.aj,.rs ak 0 s0.aa.length 4,.rs an 0 s0.ae.length 1])::(ak,.sl s0.aa.length 4 (ai.l s0.aa))::(an,.sl s0.ae.length 1 (af.l s0.ae))::L)→∀xs,xs.map aL=[.ptr ao 0]→∃aB aC h',cf 27 xs h=some (.tup [.int .i64 r.1,.int .i64 r.2.1],h')∧Has h' ((ao,.ob [.bool r.2.2.aj,.rs aB 0 r.2.2.aa.length 4,.rs aC 0 r.2.2.ae.length 1])::(aB,.sl r.2.2.aa.length 4 (ai.l r.2.2.aa))::(aC,.sl r.2.2.ae.length 1 (af.l r.2.2.ae))::L)
section
variable {cf:CallF}{m:Nat}
theorem mf {aV:FuncId→bY}(ha:aV 27=Ab)(vf:JC cf m)(NI:PQ cf m)(s0:ab)(h:AHeap)(L:Mem)(ao:Nat)(ak:Nat)(an:Nat)  (o:Has h ((ao,.ob [.bool s0.aj,.rs ak 0 s0.aa.length 4,.rs an 0 s0.ae.length 1])::(ak,.sl s0.aa.length 4 (ai.l s0.aa))::(an,.sl s0.ae.length 1 (af.l s0.ae))::L)){out:Int × Int × ab}(H:eo.f m s0=some out) :
  ∃r h',a6 Try.prog aV cf m 27 [.ptr ao 0] h=some (r,h')∧∃aB aC:Nat,r = .tup [.int .i64 out.1,.int .i64 out.2.1]∧Has h' ((ao,.ob [.bool out.2.2.aj,.rs aB 0 out.2.2.aa.length 4,.rs aC 0 out.2.2.ae.length 1])::(aB,.sl out.2.2.aa.length 4 (ai.l out.2.2.aa))::(aC,.sl out.2.2.ae.length 1 (af.l out.2.2.ae))::L):=by
 refine ar (fn:=Try.f27) ha Try.func27 (by kernel_rfl) (by kernel_rfl) ?_
 refine aH (Q:=fun s=>eo.fin L ao ak an s0 out s) (fun _ _ ⟨h1,aB,aC,h2,h3⟩=>⟨h1,_,h2,aB,aC,rfl,h3⟩) ?_
 have H:_=some out:=H
 unfold eo.f at H
 show dn _ cf Ab m _ ⟨[.ptr ao 0,.any,.any],[],h⟩ _
 refine q1 <| qq ?_
 obtain⟨x0,e0,H⟩:=bj H
 obtain⟨aI,eh,h0,e1,o0⟩:=vf _ _ _ _ e0 h _ _ _ _ (o) 48 [] [] rfl (fun h' sY  r hr hx=>NI  r hr h' sY hx) (fun h' K' o'=>iC (ax)) (fun h_=>iC (ax)) [.ptr ao 0,.fn 48 [],.agg [.int .i64 (0:Int),.int .i64 (0:Int),.str (U3 #[]),.nils]] (au (rfl) (au (rfl) (au (aN (l8 (bP (bg) (bP (bg) (bP (j6) (bP (qV (E:=af)) (l7))))))) (bG))))
 obtain rfl:=oi H
 exact qr [.a 2 e1] <| qt <| ⟨.inl rfl,⟨aI,eh,by kernel_rfl,he o0⟩⟩
end
end Go.Proofs.Ytifafejidnjckaa
namespace Go.Proofs.Ytifafejidnjckaa
open Go Go.R
open Go.IntKind (i64 u64 u8 u32)
def Ac:bY:=gK [0,1,3,4,5] [] [26,7] [] []
def er.f (m:Nat)(s0:ab)(n0:Int):Option (Int × Int × ab):=(bZ.f m s0 (cW.f m n0) (aq.mk (1:Int) n0 (U3 #[]) ([]))).bind fun x0=>some (x0.1,x0.2.1,x0.2.2)
def er.fin (L:Mem)(ao:Nat)(ak:Nat)(an:Nat)(s0:ab)(n0:Int)(r:Int × Int × ab)(s:St):Prop:=∃aB aC:Nat,aM Try.prog (s.open Ac) Try.f29.results.toList=some (.tup [.int .i64 r.1,.int .i64 r.2.1])∧Has s.h ((ao,.ob [.bool r.2.2.aj,.rs aB 0 r.2.2.aa.length 4,.rs aC 0 r.2.2.ae.length 1])::(aB,.sl r.2.2.aa.length 4 (ai.l r.2.2.aa))::(aC,.sl r.2.2.ae.length 1 (af.l r.2.2.ae))::L)
def PZ (cf:CallF)(m:Nat):Prop:=∀(s0:ab) (n0:Int) (r:Int × Int × ab),er.f m s0 n0=some r→∀h L (ao:Nat) (ak:Nat) (an:Nat),Has h ((ao,.ob [.bool s0.aj,.rs ak 0 s0.aa.length 4,.rs an 0 s0.ae.length 1])::(ak,.sl s0.aa.length 4 (ai.l s0.aa))::(an,.sl s0.ae.length 1 (af.l s0.ae))::L)→∀xs,xs.map aL=[.ptr ao 0,.int .i64 n0]→∃aB aC h',cf 29 xs h=some (.tup [.int .i64 r.1,.int .i64 r.2.1],h')∧Has h' ((ao,.ob [.bool r.2.2.aj,.rs aB 0 r.2.2.aa.length 4,.rs aC 0 r.2.2.ae.length 1])::(aB,.sl r.2.2.aa.length 4 (ai.l r.2.2.aa))::(aC,.sl r.2.2.ae.length 1 (af.l r.2.2.ae))::L)
section
variable {cf:CallF}{m:Nat}
theorem mg {aV:FuncId→bY}(ha:aV 29=Ac)(vf:JC cf m)(NJ:PR cf m)(s0:ab)(n0:Int)(h:AHeap)(L:Mem)(ao:Nat)(ak:Nat)(an:Nat)  (o:Has h ((ao,.ob [.bool s0.aj,.rs ak 0 s0.aa.length 4,.rs an 0 s0.ae.length 1])::(ak,.sl s0.aa.length 4 (ai.l s0.aa))::(an,.sl s0.ae.length 1 (af.l s0.ae))::L)){out:Int × Int × ab}(H:er.f m s0 n0=some out) :
  ∃r h',a6 Try.prog aV cf m 29 [.ptr ao 0,.int .i64 n0] h=some (r,h')∧∃aB aC:Nat,r = .tup [.int .i64 out.1,.int .i64 out.2.1]∧Has h' ((ao,.ob [.bool out.2.2.aj,.rs aB 0 out.2.2.aa.length 4,.rs aC 0 out.2.2.ae.length 1])::(aB,.sl out.2.2.aa.length 4 (ai.l out.2.2.aa))::(aC,.sl out.2.2.ae.length 1 (af.l out.2.2.ae))::L):=by
 refine ar (fn:=Try.f29) ha Try.func29 (by kernel_rfl) (by kernel_rfl) ?_
 refine aH (Q:=fun s=>er.fin L ao ak an s0 n0 out s) (fun _ _ ⟨h1,aB,aC,h2,h3⟩=>⟨h1,_,h2,aB,aC,rfl,h3⟩) ?_
 have H:_=some out:=H
 unfold er.f at H
 show dn _ cf Ac m _ ⟨.ptr ao 0 :: .int .i64 n0::sI [],[],h⟩ _
 refine qq ?_
 obtain⟨aI,h0,e0,o0⟩:=gg (cs:=[.int .i64 n0]) o (by kernel_rfl)
 refine qr [.a 0 e0] <| qq ?_
 obtain⟨x0,e1,H⟩:=bj H
 obtain⟨eh,eO,h1,e2,o1⟩:=vf _ _ _ _ e1 h0 _ _ _ _ ((Has.front (Has.front (Has.front (Has.front o0 0 rfl) 3 rfl) 3 rfl) 3 rfl)) 51 [.ptr aI 0] [.fp [.int .i64 n0] 0] rfl (fun h' sY  r hr hx=>NJ _ r hr h' sY hx) (fun h' K' o'=>iC (ah (cJ (q:=(K'.length+3)) o' (iZ rfl) (ah (br) (ax))) (ax))) (fun h_=>iC (ah (fX (pure_cons (dp) (pure_nil))) (ax))) [.ptr ao 0,.fn 51 [.ptr aI 0],.agg [.int .i64 (1:Int),.int .i64 n0,.str (U3 #[]),.nils]] (au (rfl) (au (rfl) (au (aN (l8 (bP (bg) (bP (bg) (bP (j6) (bP (qV (E:=af)) (l7))))))) (bG))))
 refine qr [.v 2 (show bl Try.prog h0 3 (.ptr aI 0)=some (.int .i64 n0) from bX (q:=0) (cs:=[.int .i64 n0]) o0 rfl (by kernel_rfl)),.a 4 e2] ?_
 have o2:Has h1 ((ao,.ob [.bool x0.2.2.aj,.rs eh 0 x0.2.2.aa.length 4,.rs eO 0 x0.2.2.ae.length 1])::(eh,.sl x0.2.2.aa.length 4 (ai.l x0.2.2.aa))::(eO,.sl x0.2.2.ae.length 1 (af.l x0.2.2.ae))::L):=Has.del o1 3
 obtain rfl:=oi H
 exact qt <| ⟨.inl rfl,⟨eh,eO,by kernel_rfl,he o2⟩⟩
end
end Go.Proofs.Ytifafejidnjckaa
namespace Go.Proofs.Ytifafejidnjckaa
open Go Go.R
open Go.IntKind (i64 u64 u8 u32)
def gi.l0 (m:Nat)(s0:ab)(x0:List Int):Nat→(List Int)→Int→Option ((List Int) × Int)
 | 0,_,_=>none
 | k+1,x1,x2=>if (decide (x2<(x0.length:Int)))=true then ((ix x1 x2).bind fun v1=>(a7.f m s0 v1).bind fun x3=>(ix x1 x2).bind fun v2=>gi.l0 m s0 x0 k (x1.set x2.toNat x3) (i64.wrap (x2+(1:Int)))) else (some ((x1,x2)))
def gi.f (m:Nat)(s0:ab)(n0:Int):Option (aq):=(ix s0.aa n0).bind fun v0=>(F7 1 v0.args).bind fun x0=>(gi.l0 m s0 x0 m x0 (0:Int)).bind fun b6=>match b6 with | (x4,x5)=>some (aq.mk v0.kind v0.int v0.label x4)
end Go.Proofs.Ytifafejidnjckaa
namespace Go.Proofs.Ytifafejidnjckaa
open Go Go.R
open Go.IntKind (i64 u64 u8 u32)
def Ad:bY:=gK [0,1,4] [] [4,3] [] []
def eu.f (m:Nat)(s0:List Int)(f0:Int→Option (Bool)):Option (Bool):=(cw.f m s0 f0).bind fun x0=>some (decide (x0≥(0:Int)))
def eu.fin (L:Mem)(r:Bool)(s:St):Prop:=∃av,aM Try.prog (s.open Ad) Try.f52.results.toList=some av∧ff s.h av (.bool r)
def LV (cf:CallF)(m:Nat):Prop:=∀(s0:List Int) (f0:Int→Option (Bool)) (r:Bool),eu.f m s0 f0=some r→∀(eD:FuncId) (aP:List AV),(∀(h:AHeap) (xs:List AV) (a0:Int) r,f0 a0=some r→aO bO h xs ([.int .i64 a0]++aP)→cf eD xs h=some (.bool r,h))→(∀h,aO cr h aP aP)→∀h xs,aO bO h xs [af.fz s0,.fn eD aP]→cf 52 xs h=some (.bool r,h)
section
variable {cf:CallF}{m:Nat}
theorem qz {aV:FuncId→bY}(ha:aV 52=Ad)(Iw:NF cf m)(s0:List Int)(f0:Int→Option (Bool))(h:AHeap)(L:Mem)(eD:FuncId)(aP:List AV)  (gH:∀(h:AHeap) (xs:List AV) (a0:Int) r,f0 a0=some r→aO bO h xs ([.int .i64 a0]++aP)→cf eD xs h=some (.bool r,h))(gI:∀h,aO cr h aP aP)(o:Has h (L)){out:Bool}(H:eu.f m s0 f0=some out) :
  ∃r h',a6 Try.prog aV cf m 52 [af.fz s0,.fn eD aP] h=some (r,h')∧ff h' r (.bool out):=by
 refine ar (fn:=Try.f52) ha Try.func52 (by kernel_rfl) (by kernel_rfl) ?_
 refine aH (Q:=fun s=>eu.fin L out s) (fun _ _ h=>h) ?_
 have H:_=some out:=H
 unfold eu.f at H
 show dn _ cf Ad m _ ⟨[af.fz s0,.fn eD aP,.any],[],h⟩ _
 refine q1 <| qq ?_
 obtain⟨x0,e0,H⟩:=bj H
 obtain rfl:=oi H
 exact qr [.a 2 (Iw _ _ _ e0 eD aP gH gI h _ (fq (ah (fe (E:=af)) (ah (r9 (gI h)) (ax)))))] <| qt <| ⟨.inl rfl,dA (.bool (decide (x0≥(0:Int)))) h (dz (aD))⟩
end
end Go.Proofs.Ytifafejidnjckaa
namespace Go.Proofs.Ytifafejidnjckaa
open Go Go.R
open Go.IntKind (i64 u64 u8 u32)
def Ae:bY:=gK [0,1,3] [] [4,3] [] []
def cQ.f (m:Nat)(n0:Int)(x0:ab):Option (Bool):=(cm.f m x0 n0).bind fun x1=>some (!x1)
def cQ.fin (L:Mem)(r:Bool)(s:St):Prop:=∃av,aM Try.prog (s.open Ae) Try.f53.results.toList=some av∧ff s.h av (.bool r)
def P3 (cf:CallF)(m:Nat):Prop:=∀(n0:Int) (x0:ab) (r:Bool),cQ.f m n0 x0=some r→∀h xs,aO bO h xs [.int .i64 n0,.fp [.fp [.bool x0.aj,ai.fz x0.aa,af.fz x0.ae] 0] 0]→cf 53 xs h=some (.bool r,h)
section
variable {cf:CallF}{m:Nat}
theorem j7 {aV:FuncId→bY}(ha:aV 53=Ae)(Is:Nx cf m)(n0:Int)(x0:ab)(h:AHeap)(L:Mem)  (o:Has h (L)){out:Bool}(H:cQ.f m n0 x0=some out) :
  ∃r h',a6 Try.prog aV cf m 53 [.int .i64 n0,.fp [.fp [.bool x0.aj,ai.fz x0.aa,af.fz x0.ae] 0] 0] h=some (r,h')∧ff h' r (.bool out):=by
 refine ar (fn:=Try.f53) ha Try.func53 (by kernel_rfl) (by kernel_rfl) ?_
 refine aH (Q:=fun s=>cQ.fin L out s) (fun _ _ h=>h) ?_
 have H:_=some out:=H
 unfold cQ.f at H
 show dn _ cf Ae m _ ⟨[.int .i64 n0,.fp [.fp [.bool x0.aj,ai.fz x0.aa,af.fz x0.ae] 0] 0,.any],[],h⟩ _
 refine q1 <| qq ?_
 obtain⟨x1,e0,H⟩:=bj H
 obtain rfl:=oi H
 exact qr [.a 2 (Is _ _ _ e0 h _ (fq (ah (fX (pure_cons (dN) (pure_cons (bJ.bw (E:=ai) (l:=x0.aa)) (pure_cons (bJ.bw (E:=af) (l:=x0.ae)) (pure_nil))))) (ah (br) (ax)))))] <| qt <| ⟨.inl rfl,dA (.bool (!x1)) h (dz (aD))⟩
end
end Go.Proofs.Ytifafejidnjckaa
namespace Go.Proofs.Ytifafejidnjckaa
open Go Go.R
open Go.IntKind (i64 u64 u8 u32)
def Af:bY:=gK [0,1,2,6,13,16,21] [] [120,104,88,120,56,120,125,119] [] []
def cg.f (m:Nat)(s0:ab)(a0:Int)(b0:Int):Option (Int × ab):=jn (fun (σ:Int × Int)=>match σ with | (a1,b1)=>(ix s0.ae a1).bind fun v0=>some (a1,(ab.mk s0.aj s0.aa (s0.ae.set a1.toNat b1)))) fun sW=>((b4.f m s0 a0).bind fun x0=>(b4.f m s0 b0).bind fun x1=>if (!(x0==x1))=true then ((b4.f m s0 b0).bind fun x2=>if x2=true then (sW (b0,a0)) else (sW (a0,b0))) else (if (decide (a0<b0))=true then (sW (b0,a0)) else (sW (a0,b0))))
def cg.fin (L:Mem)(ao:Nat)(ak:Nat)(an:Nat)(s0:ab)(a0:Int)(b0:Int)(r:Int × ab)(s:St):Prop:=∃aB aC:Nat,aM Try.prog (s.open Af) Try.f56.results.toList=some (.int .i64 r.1)∧Has s.h ((ao,.ob [.bool r.2.aj,.rs aB 0 r.2.aa.length 4,.rs aC 0 r.2.ae.length 1])::(aB,.sl r.2.aa.length 4 (ai.l r.2.aa))::(aC,.sl r.2.ae.length 1 (af.l r.2.ae))::L)
def NK (cf:CallF)(m:Nat):Prop:=∀(s0:ab) (a0:Int) (b0:Int) (r:Int × ab),cg.f m s0 a0 b0=some r→∀h L (ao:Nat) (ak:Nat) (an:Nat),Has h ((ao,.ob [.bool s0.aj,.rs ak 0 s0.aa.length 4,.rs an 0 s0.ae.length 1])::(ak,.sl s0.aa.length 4 (ai.l s0.aa))::(an,.sl s0.ae.length 1 (af.l s0.ae))::L)→∀xs,xs.map aL=[.ptr ao 0,.int .i64 a0,.int .i64 b0]→∃aB aC h',cf 56 xs h=some (.int .i64 r.1,h')∧Has h' ((ao,.ob [.bool r.2.aj,.rs aB 0 r.2.aa.length 4,.rs aC 0 r.2.ae.length 1])::(aB,.sl r.2.aa.length 4 (ai.l r.2.aa))::(aC,.sl r.2.ae.length 1 (af.l r.2.ae))::L)
section
variable {cf:CallF}{m:Nat}
theorem lE {aV:FuncId→bY}(ha:aV 56=Af)(DW:Nz cf m)(s0:ab)(a0:Int)(b0:Int)(h:AHeap)(L:Mem)(ao:Nat)(ak:Nat)(an:Nat)  (o:Has h ((ao,.ob [.bool s0.aj,.rs ak 0 s0.aa.length 4,.rs an 0 s0.ae.length 1])::(ak,.sl s0.aa.length 4 (ai.l s0.aa))::(an,.sl s0.ae.length 1 (af.l s0.ae))::L)){out:Int × ab}(H:cg.f m s0 a0 b0=some out) :
  ∃r h',a6 Try.prog aV cf m 56 [.ptr ao 0,.int .i64 a0,.int .i64 b0] h=some (r,h')∧∃aB aC:Nat,r = .int .i64 out.1∧Has h' ((ao,.ob [.bool out.2.aj,.rs aB 0 out.2.aa.length 4,.rs aC 0 out.2.ae.length 1])::(aB,.sl out.2.aa.length 4 (ai.l out.2.aa))::(aC,.sl out.2.ae.length 1 (af.l out.2.ae))::L):=by
 refine ar (fn:=Try.f56) ha Try.func56 (by kernel_rfl) (by kernel_rfl) ?_
 refine aH (Q:=fun s=>cg.fin L ao ak an s0 a0 b0 out s) (fun _ _ ⟨h1,aB,aC,h2,h3⟩=>⟨h1,_,h2,aB,aC,rfl,h3⟩) ?_
 have H:_=some out:=H
 unfold cg.f at H
 show dn _ cf Af m _ ⟨.ptr ao 0 :: .int .i64 a0 :: .int .i64 b0::nw [],[],h⟩ _
 refine q1 ?_
 obtain⟨sW,DQ,H⟩:=mH H
 refine qj (S:=fun (σ:Int × Int) s=>match σ with | (a1,b1)=>∃(g0:AV) (g1:AV) (h0:AHeap),s=⟨[.ptr ao 0,.int .i64 a1,.int .i64 b1,.any,.any,g0,g1],[],h0⟩∧Has h0 ((ao,.ob [.bool s0.aj,.rs ak 0 s0.aa.length 4,.rs an 0 s0.ae.length 1])::(ak,.sl s0.aa.length 4 (ai.l s0.aa))::(an,.sl s0.ae.length 1 (af.l s0.ae))::L)) sW H ?_ ?_
 ·rintro⟨a1,b1⟩ s ⟨g0,g1,h0,rfl,o0⟩ H
  have H:=(DQ _).symm.trans H
  try dsimp only at H
  refine qq ?_
  obtain⟨v0,e3,H⟩:=bj H
  obtain⟨h1,e4,o1⟩:=fo (P:=Try.prog) (tf:=3) (E:=af) (l:=s0.ae) (q:=2) (v:=b1) (x:=.int .i64 b1) o0 rfl Z3 e3 rfl rfl
  obtain rfl:=oi H
  exact qr [.v 3 (show bl Try.prog h0 33 (.ptr ao 2)=some (.rs an 0 s0.ae.length 1) from bX (q:=0) (cs:=[.bool s0.aj,.rs ak 0 s0.aa.length 4,.rs an 0 s0.ae.length 1]) o0 rfl (by kernel_rfl)),.v 6 (bn (k:=.i64) (E:=af) (l:=s0.ae) (q:=2) gx o0 rfl e3),.w 7 e4] <| qq <| q0 <| qt <| ⟨.inl rfl,⟨ak,an,by kernel_rfl,he (by have o:Has h1 ((ao,.ob [.bool s0.aj,.rs ak 0 s0.aa.length 4,.rs an 0 s0.ae.length 1])::(ak,.sl s0.aa.length 4 (ai.l s0.aa))::(an,.sl s0.ae.length 1 (af.l (s0.ae.set a1.toNat b1)))::L):=o1; simpa only [Uq] using o)⟩⟩
 clear DQ
 intro pt
 refine qq ?_
 obtain⟨x0,e0,H⟩:=bj H
 obtain⟨x1,e1,H⟩:=bj H
 refine qr [.a 2 (DW _ _ _ e0 h _ (fq (ah (cJ (q:=0) o rfl (ah (dR) (ah (cF (E:=ai) (l:=s0.aa) (q:=1) o rfl (fun _=>rfl)) (ah (cF (E:=af) (l:=s0.ae) (q:=2) o rfl (fun _=>rfl)) (ax))))) (ah (br) (ax))))),.a 5 (DW _ _ _ e1 h _ (fq (ah (cJ (q:=0) o rfl (ah (dR) (ah (cF (E:=ai) (l:=s0.aa) (q:=1) o rfl (fun _=>rfl)) (ah (cF (E:=af) (l:=s0.ae) (q:=2) o rfl (fun _=>rfl)) (ax))))) (ah (br) (ax)))))] <| qc H (fun c0 H=>?_) (fun c0 H=>?_)
 ·refine qq ?_
  obtain⟨x2,e2,H⟩:=bj H
  refine qr [.a 2 (DW _ _ _ e2 h _ (fq (ah (cJ (q:=0) o rfl (ah (dR) (ah (cF (E:=ai) (l:=s0.aa) (q:=1) o rfl (fun _=>rfl)) (ah (cF (E:=af) (l:=s0.ae) (q:=2) o rfl (fun _=>rfl)) (ax))))) (ah (br) (ax)))))] <| qc H (fun c1 H=>?_) (fun c1 H=>?_)
  ·exact q0 <| pt (b0,a0) _ ⟨.any,.any,h,by kernel_rfl,o⟩ H
  ·exact qk <| pt (a0,b0) _ ⟨.bool x2,.any,h,by kernel_rfl,o⟩ H
 ·refine q1 <| qc H (fun c2 H=>?_) (fun c2 H=>?_)
  ·exact q0 <| pt (b0,a0) _ ⟨.any,.any,h,by kernel_rfl,o⟩ H
  ·exact qk <| pt (a0,b0) _ ⟨.any,.bool (decide (a0<b0)),h,by kernel_rfl,o⟩ H
end
end Go.Proofs.Ytifafejidnjckaa
