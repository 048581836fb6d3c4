/- Part of the proof: Q37, Q41, Q42, Q47, Q48, Q51, Q54, Q55, Q59, Q62, Q64, Q68, Q71, Q73, Q75, Q78, Q79, Q81, Q85, Q90, Q95, Q96, Q97, Q98, Q102, Q105, Q109, Q18, Q19, Q27, Q29, Q40, Q52, Q53. -/
import Derived.Test.YtifafejidnjckaaK6
set_option linter.unusedVariables false
set_option linter.unusedSimpArgs false
set_option maxRecDepth 100000
open ByteArray renaming mk → Wh
open List renaming length_set → VC
namespace Go.Proofs.Ytifafejidnjckaa
open Go Go.R
open Go.IntKind (i64 u64 u8 u32)
def Ay:b5:=gV [0,2] [] [2,1] [] []
def bu.f (m:Nat)(s0:ab):Option (Bool):=some s0.aj
def bu.fin (L:Mem)(r:Bool)(s:St):Prop:=∃av,aP Try.prog (s.open Ay) Try.f37.results.toList=some av∧fD s.h av (.bool r)
def Kh (cf:CallF)(m:Nat):Prop:=∀(s0:ab) (r:Bool),bu.f m s0=some r→∀h xs,aQ bQ h xs [.fp [.bool s0.aj,ai.fz s0.aa,af.fz s0.ae] 0]→cf 37 xs h=some (.bool r,h)
section
variable {cf:CallF}{m:Nat}
theorem lY {aX:FuncId→b5}(ha:aX 37=Ay)  (s0:ab)(h:AHeap)(L:Mem)  (o:Has h (L)){out:Bool}(H:bu.f m s0=some out) :
  ∃r h',a6 Try.prog aX cf m 37 [.fp [.bool s0.aj,ai.fz s0.aa,af.fz s0.ae] 0] h=some (r,h')∧fD h' r (.bool out):=by
 refine au (fn:=Try.f37) ha Try.func37 (by kernel_rfl) (by kernel_rfl) ?_
 refine aK (Q:=fun s=>bu.fin L out s) (fun _ _ h=>h) ?_
 have H:_=some out:=H
 unfold bu.f at H
 show du _ cf Ay m _ ⟨[.fp [.bool s0.aj,ai.fz s0.aa,af.fz s0.ae] 0,.any],[],h⟩ _
 obtain rfl:=oi H
 exact q1 <| qq <| q0 <| qt <| ⟨.inl rfl,dv (.bool s0.aj) h (dq (aD))⟩
end
end Go.Proofs.Ytifafejidnjckaa
namespace Go.Proofs.Ytifafejidnjckaa
open Go Go.R
open Go.IntKind (i64 u64 u8 u32)
def xE:b5:=gV [0,1,4,13] [] [12,4,12,11] [] []
def bc.l0 (m:Nat)(s0:ab):Nat→Int→Option (Int)
 | 0,_=>none
 | k+1,n1=>(ix s0.ae n1).bind fun v0=>if (!(v0==n1))=true then ((ix s0.ae n1).bind fun v1=>bc.l0 m s0 k v1) else (some (n1))
def bc.f (m:Nat)(s0:ab)(n0:Int):Option (Int):=(bc.l0 m s0 m n0).bind fun cg=>match cg with | n2=>some n2
def bc.fin (L:Mem)(r:Int)(s:St):Prop:=∃av,aP Try.prog (s.open xE) Try.f41.results.toList=some av∧fD s.h av (.int .i64 r)
def MD (cf:CallF)(m:Nat):Prop:=∀(s0:ab) (n0:Int) (r:Int),bc.f m s0 n0=some r→∀h xs,aQ bQ h xs [.fp [.bool s0.aj,ai.fz s0.aa,af.fz s0.ae] 0,.int .i64 n0]→cf 41 xs h=some (.int .i64 r,h)
section
variable {cf:CallF}{m:Nat}
theorem bc.dy (L:Mem)(s0:ab)   : dY Try.prog cf xE m (sub [1,0,0,0] (b8 Try.f41)) (fun k (σ:Int)=>bc.l0 m s0 k σ) (fun σ s=>match σ with | n1=>∃h0,s=⟨[.fp [.bool s0.aj,ai.fz s0.aa,af.fz s0.ae] 0,.int .i64 n1,.any,.any],[],h0⟩∧Has h0 (L)) (fun out e s=>(e = .exit 0∧∃n1,n1=out∧∃oU vH h0,s=⟨[oU,.int .i64 n1,.any,vH],[],h0⟩∧Has h0 (L))):=by
 refine mf (fun _=>rfl) ?_
 rintro k n1 s out ⟨h0,rfl,o0⟩ H
 have H:bc.l0 m s0 (k+1) n1=some out:=H
 refine qq <| qq ?_
 obtain⟨v0,e0,H⟩:=bk H
 refine qr [.v 5 (fm (k:=.i64) (E:=af) (l:=s0.ae) gI e0),.v 6 (iS  (E:=af) (l:=s0.ae) h0 A3 e0 rfl)] <| qc H (fun c0 H=>?_) (fun c0 H=>?_)
 ·refine qk <| qb 1 ?_
  obtain⟨v1,e1,H⟩:=bk H
  exact qr [.v 5 (fm (k:=.i64) (E:=af) (l:=s0.ae) gI e1),.v 6 (iS  (E:=af) (l:=s0.ae) h0 A3 e1 rfl)] <| ⟨v1,⟨h0,by kernel_rfl,o0⟩,H⟩
 ·exact qx 0 <| ⟨rfl,n1,oi H,.fp [.bool s0.aj,ai.fz s0.aa,af.fz s0.ae] 0,.bool (!(v0==n1)),h0,by kernel_rfl,o0⟩
theorem mG {aX:FuncId→b5}(ha:aX 41=xE)  (s0:ab)(n0:Int)(h:AHeap)(L:Mem)  (o:Has h (L)){out:Int}(H:bc.f m s0 n0=some out) :
  ∃r h',a6 Try.prog aX cf m 41 [.fp [.bool s0.aj,ai.fz s0.aa,af.fz s0.ae] 0,.int .i64 n0] h=some (r,h')∧fD h' r (.int .i64 out):=by
 refine au (fn:=Try.f41) ha Try.func41 (by kernel_rfl) (by kernel_rfl) ?_
 refine aK (Q:=fun s=>bc.fin L out s) (fun _ _ h=>h) ?_
 have H:_=some out:=H
 unfold bc.f at H
 show du _ cf xE m _ ⟨[.fp [.bool s0.aj,ai.fz s0.aa,af.fz s0.ae] 0,.int .i64 n0,.any,.any],[],h⟩ _
 refine q1 <| qq <| qb 0 ?_
 obtain⟨cg,e2,H⟩:=bk H
 refine ql (bc.dy L s0   n0 _ _ ⟨h,by kernel_rfl,o⟩ e2) ?_
 rintro e s ⟨rfl,n2,rfl,g0,g1,h1,rfl,o1⟩
 try dsimp only at H
 obtain rfl:=oi H
 exact q1 <| qt <| ⟨.inl rfl,dv (.int .i64 n2) h1 (dq (dk))⟩
end
end Go.Proofs.Ytifafejidnjckaa
namespace Go.Proofs.Ytifafejidnjckaa
open Go Go.R
open Go.IntKind (i64 u64 u8 u32)
end Go.Proofs.Ytifafejidnjckaa
namespace Go.Proofs.Ytifafejidnjckaa
open Go Go.R
open Go.IntKind (i64 u64 u8 u32)
def Az:b5:=gV [0,1,2,5,6,7,8,9,13,17,31] [5] [2036,1908,1999,1782,1999,1526,1999,1974,950,1974,1983,1999] [] []
def b7.f (m:Nat)(s0:ab)(Eu:Option (Bool))(n0:aq):Option (Int × Int × ab):=(bu.f m s0).bind fun x0=>if (!x0)=true then (some ((0:Int),(6:Int),s0)) else ((Eu ).bind fun r0=>if (!r0)=true then (some ((0:Int),(1:Int),s0)) else (if (decide ((s0.aa.length:Int)≥(8000:Int)))=true then (some ((0:Int),(7:Int),s0)) else (jn (fun (σ:Int)=>match σ with | n1=>(app 56 s0.aa ([(aq.mk n0.kind n1 n0.label n0.args)])).bind fun x1=>(app 8 s0.ae ([(s0.aa.length:Int)])).bind fun x2=>some ((s0.aa.length:Int),(0:Int),(ab.mk s0.aj x1 x2))) fun yB=>(if (n0.kind==(0:Int))=true then (yB (s0.aa.length:Int)) else (yB n0.int)))))
def b7.fin (L:Mem)(ao:Nat)(ak:Nat)(an:Nat)(s0:ab)(Eu:Option (Bool))(n0:aq)(r:Int × Int × ab)(s:St):Prop:=∃aA aB:Nat,aP Try.prog (s.open Az) Try.f47.results.toList=some (.tup [.int .i64 r.1,.int .i64 r.2.1])∧Has s.h ((ao,.ob [.bool r.2.2.aj,.rs aA 0 r.2.2.aa.length 4,.rs aB 0 r.2.2.ae.length 1])::(aA,.sl r.2.2.aa.length 4 (ai.l r.2.2.aa))::(aB,.sl r.2.2.ae.length 1 (af.l r.2.2.ae))::L)
def Ki (cf:CallF)(m:Nat):Prop:=∀(s0:ab) (Eu:Option (Bool)) (n0:aq) (r:Int × Int × ab),b7.f m s0 Eu n0=some r→∀h L (ao:Nat) (ak:Nat) (an:Nat),Has h ((ao,.ob [.bool s0.aj,.rs ak 0 s0.aa.length 4,.rs an 0 s0.ae.length 1])::(ak,.sl s0.aa.length 4 (ai.l s0.aa))::(an,.sl s0.ae.length 1 (af.l s0.ae))::L)→∀(eS:FuncId) (aS bY:List AV),(aM (.fn eS aS) = .fn eS aS)→(∀(h:AHeap) (xs:List AV)  r,Eu  = some r→aQ bQ h xs ([]++bY)→cf eS xs h=some (.bool r,h))→(∀h K,Has h (K++((ao,.ob [.bool s0.aj,.rs ak 0 s0.aa.length 4,.rs an 0 s0.ae.length 1])::(ak,.sl s0.aa.length 4 (ai.l s0.aa))::(an,.sl s0.ae.length 1 (af.l s0.ae))::L))→aQ cE h aS bY)→(∀h,aQ cE h bY bY)→∀xs,xs.map aM=[.ptr ao 0,.fn eS aS,.agg [.int .i64 n0.kind,.int .i64 n0.int,.str n0.label,af.fz n0.args]]→∃aA aB h',cf 47 xs h=some (.tup [.int .i64 r.1,.int .i64 r.2.1],h')∧Has h' ((ao,.ob [.bool r.2.2.aj,.rs aA 0 r.2.2.aa.length 4,.rs aB 0 r.2.2.ae.length 1])::(aA,.sl r.2.2.aa.length 4 (ai.l r.2.2.aa))::(aB,.sl r.2.2.ae.length 1 (af.l r.2.2.ae))::L)
section
variable {cf:CallF}{m:Nat}
theorem mH {aX:FuncId→b5}(ha:aX 47=Az)(vI:Kh cf m)(s0:ab)(Eu:Option (Bool))(n0:aq)(h:AHeap)(L:Mem)(ao:Nat)(ak:Nat)(an:Nat)(eS:FuncId)(aS bY:List AV)  (qP:aM (.fn eS aS) = .fn eS aS)(gS:∀(h:AHeap) (xs:List AV)  r,Eu  = some r→aQ bQ h xs ([]++bY)→cf eS xs h=some (.bool r,h))(oV:∀h K,Has h (K++((ao,.ob [.bool s0.aj,.rs ak 0 s0.aa.length 4,.rs an 0 s0.ae.length 1])::(ak,.sl s0.aa.length 4 (ai.l s0.aa))::(an,.sl s0.ae.length 1 (af.l s0.ae))::L))→aQ cE h aS bY)(gT:∀h,aQ cE h bY bY)(o:Has h ((ao,.ob [.bool s0.aj,.rs ak 0 s0.aa.length 4,.rs an 0 s0.ae.length 1])::(ak,.sl s0.aa.length 4 (ai.l s0.aa))::(an,.sl s0.ae.length 1 (af.l s0.ae))::L)){out:Int × Int × ab}(H:b7.f m s0 Eu n0=some out) :
  ∃r h',a6 Try.prog aX cf m 47 [.ptr ao 0,.fn eS aS,.agg [.int .i64 n0.kind,.int .i64 n0.int,.str n0.label,af.fz n0.args]] h=some (r,h')∧∃aA aB:Nat,r = .tup [.int .i64 out.1,.int .i64 out.2.1]∧Has h' ((ao,.ob [.bool out.2.2.aj,.rs aA 0 out.2.2.aa.length 4,.rs aB 0 out.2.2.ae.length 1])::(aA,.sl out.2.2.aa.length 4 (ai.l out.2.2.aa))::(aB,.sl out.2.2.ae.length 1 (af.l out.2.2.ae))::L):=by
 refine au (fn:=Try.f47) ha Try.func47 (by kernel_rfl) (by kernel_rfl) ?_
 refine aK (Q:=fun s=>b7.fin L ao ak an s0 Eu n0 out s) (fun _ _ ⟨h1,aA,aB,h2,h3⟩=>⟨h1,_,h2,aA,aB,rfl,h3⟩) ?_
 have H:_=some out:=H
 unfold b7.f at H
 show du _ cf Az m _ ⟨.ptr ao 0 :: .fn eS aS :: .agg [.int .i64 n0.kind,.int .i64 n0.int,.str n0.label,af.fz n0.args]::Cr [],[none],h⟩ _
 refine q1 <| qq <| qb 0 <| qq ?_
 obtain⟨x0,e0,H⟩:=bk H
 refine qr [.a 1 (vI _ _ e0 h _ (eQ (ah (bS (q:=0) o rfl (ah (b4) (ah (bI (E:=ai) (l:=s0.aa) (q:=1) o rfl (fun _=>rfl)) (ah (bI (E:=af) (l:=s0.ae) (q:=2) o rfl (fun _=>rfl)) (aw))))) (aw))))] <| qc H (fun c0 H=>?_) (fun c0 H=>?_)
 ·obtain rfl:=oi H
  exact q1 <| qt <| ⟨.inl rfl,⟨ak,an,by kernel_rfl,he o⟩⟩
 ·refine qq ?_
  obtain⟨r0,e1,H⟩:=bk H
  refine qr [.a 1 (gS _ _ _ e1 (HV (aw) (oV h [] o)))] <| qc H (fun c1 H=>?_) (fun c1 H=>?_)
  ·obtain rfl:=oi H
   exact q1 <| qt <| ⟨.inl rfl,⟨ak,an,by kernel_rfl,he o⟩⟩
  ·refine qs [.v 3 (show bl Try.prog h 40 (.ptr ao 1)=some (.rs ak 0 s0.aa.length 4) from bV (q:=0) (cs:=[.bool s0.aj,.rs ak 0 s0.aa.length 4,.rs an 0 s0.ae.length 1]) o rfl (by kernel_rfl))] <| qc H (fun c2 H=>?_) (fun c2 H=>?_)
   ·obtain rfl:=oi H
    exact q1 <| qt <| ⟨.inl rfl,⟨ak,an,by kernel_rfl,he o⟩⟩
   ·refine qk <| qq <| qr [.v 3 (show bl Try.prog h 40 (.ptr ao 1)=some (.rs ak 0 s0.aa.length 4) from bV (q:=0) (cs:=[.bool s0.aj,.rs ak 0 s0.aa.length 4,.rs an 0 s0.ae.length 1]) o rfl (by kernel_rfl))] ?_
    obtain⟨yB,HZ,H⟩:=oQ H
    refine qj (S:=fun (σ:Int) s=>match σ with | n1=>∃(g0:AV) (h0:AHeap),s=⟨.ptr ao 0 :: .any :: .any :: .lp 5 0 :: .any :: .any :: .int .i64 (s0.aa.length:Int)::rA [g0],[some [.int .i64 n0.kind,.int .i64 n1,.str n0.label,af.fz n0.args]],h0⟩∧Has h0 ((ao,.ob [.bool s0.aj,.rs ak 0 s0.aa.length 4,.rs an 0 s0.ae.length 1])::(ak,.sl s0.aa.length 4 (ai.l s0.aa))::(an,.sl s0.ae.length 1 (af.l s0.ae))::L)) yB H ?_ ?_
    ·rintro n1 s ⟨g0,h0,rfl,o0⟩ H
     have H:=(HZ _).symm.trans H
     try dsimp only at H
     refine qq ?_
     obtain⟨x1,e2,H⟩:=bk H
     obtain⟨aG,h1,e3,o1⟩:=iH (P:=Try.prog) (E:=ai) (l:=s0.aa) (q:=1) (t2:=40) (x:=.fz [.int .i64 n0.kind,.int .i64 n1,.str n0.label,af.fz n0.args] 1 true) (l2:=([(aq.mk n0.kind n1 n0.label n0.args)])) yA o0 rfl (by kernel_rfl) rfl e2
     obtain⟨x2,e4,H⟩:=bk H
     obtain⟨eo,h2,e5,o2⟩:=iH (P:=Try.prog) (E:=af) (l:=s0.ae) (q:=2) (t2:=33) (x:=.fz [.int .i64 (s0.aa.length:Int)] 1 true) (l2:=([(s0.aa.length:Int)])) gI o1 rfl (by kernel_rfl) rfl e4
     obtain⟨h3,e6,o3⟩:=nD (P:=Try.prog) (t:=40) (off:=1) (q:=0) (cs:=[.bool s0.aj,.rs ak 0 s0.aa.length 4,.rs an 0 s0.ae.length 1]) (fi:=[.bool s0.aj,.rs aG 0 x1.length 4,.rs an 0 s0.ae.length 1]) (x:=.rs aG 0 x1.length 4) o2 rfl (by kernel_rfl)
     obtain⟨h4,e7,o4⟩:=nD (P:=Try.prog) (t:=33) (off:=2) (q:=0) (cs:=[.bool s0.aj,.rs aG 0 x1.length 4,.rs an 0 s0.ae.length 1]) (fi:=[.bool s0.aj,.rs aG 0 x1.length 4,.rs eo 0 x2.length 1]) (x:=.rs eo 0 x2.length 1) o3 rfl (by kernel_rfl)
     obtain rfl:=oi H
     exact Kf [] [.v 5 (show bl Try.prog h0 40 (.ptr ao 1)=some (.rs ak 0 s0.aa.length 4) from bV (q:=0) (cs:=[.bool s0.aj,.rs ak 0 s0.aa.length 4,.rs an 0 s0.ae.length 1]) o0 rfl (by kernel_rfl)),.a 8 e3,.v 12 (show bl Try.prog h1 33 (.ptr ao 2)=some (.rs an 0 s0.ae.length 1) from bV (q:=0) (cs:=[.bool s0.aj,.rs ak 0 s0.aa.length 4,.rs an 0 s0.ae.length 1]) o1 rfl (by kernel_rfl)),.a 15 e5,.w 18 e6,.w 21 e7] [.mk (zi o0 (q:=1) rfl (q2:=0) rfl (by decide) e3)] <| qq <| q0 <| qt <| ⟨.inl rfl,⟨aG,eo,by kernel_rfl,he o4⟩⟩
    clear HZ
    intro tC
    refine q1 <| qc H (fun c3 H=>?_) (fun c3 H=>?_)
    ·exact q0 <| tC (s0.aa.length:Int) _ ⟨.any,h,by kernel_rfl,o⟩ H
    ·exact qk <| tC n0.int _ ⟨.bool (n0.kind==(0:Int)),h,by kernel_rfl,o⟩ H
end
end Go.Proofs.Ytifafejidnjckaa
namespace Go.Proofs.Ytifafejidnjckaa
open Go Go.R
open Go.IntKind (i64 u64 u8 u32)
def AA:b5:=gV [0] [] [1] [] []
def dJ.f (m:Nat)  : Option (Bool):=some true
def dJ.fin (L:Mem)(r:Bool)(s:St):Prop:=∃av,aP Try.prog (s.open AA) Try.f48.results.toList=some av∧fD s.h av (.bool r)
def QH (cf:CallF)(m:Nat):Prop:=∀ (r:Bool),dJ.f m  = some r→∀h xs,aQ bQ h xs []→cf 48 xs h=some (.bool r,h)
section
variable {cf:CallF}{m:Nat}
theorem lD {aX:FuncId→b5}(ha:aX 48=AA)   (h:AHeap)(L:Mem)  (o:Has h (L)){out:Bool}(H:dJ.f m  = some out) :
  ∃r h',a6 Try.prog aX cf m 48 [] h=some (r,h')∧fD h' r (.bool out):=by
 refine au (fn:=Try.f48) ha Try.func48 (by kernel_rfl) (by kernel_rfl) ?_
 refine aK (Q:=fun s=>dJ.fin L out s) (fun _ _ h=>h) ?_
 have H:_=some out:=H
 unfold dJ.f at H
 show du _ cf AA m _ ⟨[.any],[],h⟩ _
 obtain rfl:=oi H
 exact q1 <| qq <| q0 <| qt <| ⟨.inl rfl,dv (.bool true) h (dq (aD))⟩
end
end Go.Proofs.Ytifafejidnjckaa
namespace Go.Proofs.Ytifafejidnjckaa
open Go Go.R
open Go.IntKind (i64 u64 u8 u32)
def AB:b5:=gV [0,1] [] [2,1] [] []
def da.f (m:Nat)(x0:Int):Option (Bool):=if (decide (x0≥(-1099511627776:Int)))=true then (some (decide (x0≤(1099511627776:Int)))) else (some false)
def da.fin (L:Mem)(r:Bool)(s:St):Prop:=∃av,aP Try.prog (s.open AB) Try.f51.results.toList=some av∧fD s.h av (.bool r)
def QI (cf:CallF)(m:Nat):Prop:=∀(x0:Int) (r:Bool),da.f m x0=some r→∀h xs,aQ bQ h xs [.fp [.int .i64 x0] 0]→cf 51 xs h=some (.bool r,h)
section
variable {cf:CallF}{m:Nat}
theorem lE {aX:FuncId→b5}(ha:aX 51=AB)  (x0:Int)(h:AHeap)(L:Mem)  (o:Has h (L)){out:Bool}(H:da.f m x0=some out) :
  ∃r h',a6 Try.prog aX cf m 51 [.fp [.int .i64 x0] 0] h=some (r,h')∧fD h' r (.bool out):=by
 refine au (fn:=Try.f51) ha Try.func51 (by kernel_rfl) (by kernel_rfl) ?_
 refine aK (Q:=fun s=>da.fin L out s) (fun _ _ h=>h) ?_
 have H:_=some out:=H
 unfold da.f at H
 show du _ cf AB m _ ⟨[.fp [.int .i64 x0] 0,.any],[],h⟩ _
 refine q1 <| qq ?_
 rcases iw H with⟨c0,H⟩| ⟨c0,H⟩
 ·obtain rfl:=oi H
  exact qr [.b 2 c0] <| qt <| ⟨.inl rfl,dv (.bool (decide (x0≤(1099511627776:Int)))) h (dq (aD))⟩
 ·obtain rfl:=oi H
  exact qr [.b 2 c0] <| qt <| ⟨.inl rfl,dv (.bool false) h (dq (aD))⟩
end
end Go.Proofs.Ytifafejidnjckaa
namespace Go.Proofs.Ytifafejidnjckaa
open Go Go.R
open Go.IntKind (i64 u64 u8 u32)
def AD:b5:=gV [0,1,4] [] [4,3] [] []
def cC.f (m:Nat)(s0:ab)(n0:Int):Option (Bool):=if (decide (n0≥(0:Int)))=true then (some (decide (n0<(s0.aa.length:Int)))) else (some false)
def cC.fin (L:Mem)(r:Bool)(s:St):Prop:=∃av,aP Try.prog (s.open AD) Try.f54.results.toList=some av∧fD s.h av (.bool r)
def Od (cf:CallF)(m:Nat):Prop:=∀(s0:ab) (n0:Int) (r:Bool),cC.f m s0 n0=some r→∀h xs,aQ bQ h xs [.fp [.bool s0.aj,ai.fz s0.aa,af.fz s0.ae] 0,.int .i64 n0]→cf 54 xs h=some (.bool r,h)
section
variable {cf:CallF}{m:Nat}
theorem lF {aX:FuncId→b5}(ha:aX 54=AD)  (s0:ab)(n0:Int)(h:AHeap)(L:Mem)  (o:Has h (L)){out:Bool}(H:cC.f m s0 n0=some out) :
  ∃r h',a6 Try.prog aX cf m 54 [.fp [.bool s0.aj,ai.fz s0.aa,af.fz s0.ae] 0,.int .i64 n0] h=some (r,h')∧fD h' r (.bool out):=by
 refine au (fn:=Try.f54) ha Try.func54 (by kernel_rfl) (by kernel_rfl) ?_
 refine aK (Q:=fun s=>cC.fin L out s) (fun _ _ h=>h) ?_
 have H:_=some out:=H
 unfold cC.f at H
 show du _ cf AD m _ ⟨[.fp [.bool s0.aj,ai.fz s0.aa,af.fz s0.ae] 0,.int .i64 n0,.any],[],h⟩ _
 refine q1 <| qq ?_
 rcases iw H with⟨c0,H⟩| ⟨c0,H⟩
 ·obtain rfl:=oi H
  exact qr [.b 2 c0] <| qt <| ⟨.inl rfl,dv (.bool (decide (n0<(s0.aa.length:Int)))) h (dq (aD))⟩
 ·obtain rfl:=oi H
  exact qr [.b 2 c0] <| qt <| ⟨.inl rfl,dv (.bool false) h (dq (aD))⟩
end
end Go.Proofs.Ytifafejidnjckaa
namespace Go.Proofs.Ytifafejidnjckaa
open Go Go.R
open Go.IntKind (i64 u64 u8 u32)
def AE:b5:=gV [0,1,2,3,4] [2,3] [19,15] [] []
def fo.f (m:Nat)(a0:aq)(b0:aq):Option (Bool):=if (!(a0.kind==b0.kind))=true then (some true) else (if (!(a0.int==b0.int))=true then (some true) else (if (!(a0.label.data.toList==b0.label.data.toList))=true then (some true) else (some (!((a0.args.length:Int)==(b0.args.length:Int))))))
def fo.fin (L:Mem)(r:Bool)(s:St):Prop:=∃av,aP Try.prog (s.open AE) Try.f55.results.toList=some av∧fD s.h av (.bool r)
def Oe (cf:CallF)(m:Nat):Prop:=∀(a0:aq) (b0:aq) (r:Bool),fo.f m a0 b0=some r→∀h xs,aQ bQ h xs [.agg [.int .i64 a0.kind,.int .i64 a0.int,.str a0.label,af.fz a0.args],.agg [.int .i64 b0.kind,.int .i64 b0.int,.str b0.label,af.fz b0.args]]→cf 55 xs h=some (.bool r,h)
section
variable {cf:CallF}{m:Nat}
theorem oW {aX:FuncId→b5}(ha:aX 55=AE)  (a0:aq)(b0:aq)(h:AHeap)(L:Mem)  (o:Has h (L)){out:Bool}(H:fo.f m a0 b0=some out) :
  ∃r h',a6 Try.prog aX cf m 55 [.agg [.int .i64 a0.kind,.int .i64 a0.int,.str a0.label,af.fz a0.args],.agg [.int .i64 b0.kind,.int .i64 b0.int,.str b0.label,af.fz b0.args]] h=some (r,h')∧fD h' r (.bool out):=by
 refine au (fn:=Try.f55) ha Try.func55 (by kernel_rfl) (by kernel_rfl) ?_
 refine aK (Q:=fun s=>fo.fin L out s) (fun _ _ h=>h) ?_
 have H:_=some out:=H
 unfold fo.f at H
 show du _ cf AE m _ ⟨.agg [.int .i64 a0.kind,.int .i64 a0.int,.str a0.label,af.fz a0.args] :: .agg [.int .i64 b0.kind,.int .i64 b0.int,.str b0.label,af.fz b0.args]::rA [],[none,none],h⟩ _
 refine q1 <| qq ?_
 rcases iw H with⟨c0,H⟩| ⟨c0,H⟩
 ·obtain rfl:=oi H
  exact qr [.b 5 c0] <| qt <| ⟨.inl rfl,dv (.bool true) h (dq (aD))⟩
 ·rcases iw H with⟨c1,H⟩| ⟨c1,H⟩
  ·obtain rfl:=oi H
   exact qr [.b 5 c0,.b 12 c1] <| qt <| ⟨.inl rfl,dv (.bool true) h (dq (aD))⟩
  ·rcases iw H with⟨c2,H⟩| ⟨c2,H⟩
   ·obtain rfl:=oi H
    exact qr [.b 5 c0,.b 12 c1,.b 19 c2] <| qt <| ⟨.inl rfl,dv (.bool true) h (dq (aD))⟩
   ·obtain rfl:=oi H
    exact qr [.b 5 c0,.b 12 c1,.b 19 c2] <| qt <| ⟨.inl rfl,dv (.bool (!((a0.args.length:Int)==(b0.args.length:Int)))) h (dq (aD))⟩
end
end Go.Proofs.Ytifafejidnjckaa
namespace Go.Proofs.Ytifafejidnjckaa
open Go Go.R
open Go.IntKind (i64 u64 u8 u32)
def AF:b5:=gV [0,1,4] [] [4,3] [] []
def ca.f (m:Nat)(s0:ab)(n0:Int):Option (Bool):=(ix s0.aa n0).bind fun v0=>some (v0.kind==(0:Int))
def ca.fin (L:Mem)(r:Bool)(s:St):Prop:=∃av,aP Try.prog (s.open AF) Try.f59.results.toList=some av∧fD s.h av (.bool r)
def Of (cf:CallF)(m:Nat):Prop:=∀(s0:ab) (n0:Int) (r:Bool),ca.f m s0 n0=some r→∀h xs,aQ bQ h xs [.fp [.bool s0.aj,ai.fz s0.aa,af.fz s0.ae] 0,.int .i64 n0]→cf 59 xs h=some (.bool r,h)
section
variable {cf:CallF}{m:Nat}
theorem lZ {aX:FuncId→b5}(ha:aX 59=AF)  (s0:ab)(n0:Int)(h:AHeap)(L:Mem)  (o:Has h (L)){out:Bool}(H:ca.f m s0 n0=some out) :
  ∃r h',a6 Try.prog aX cf m 59 [.fp [.bool s0.aj,ai.fz s0.aa,af.fz s0.ae] 0,.int .i64 n0] h=some (r,h')∧fD h' r (.bool out):=by
 refine au (fn:=Try.f59) ha Try.func59 (by kernel_rfl) (by kernel_rfl) ?_
 refine aK (Q:=fun s=>ca.fin L out s) (fun _ _ h=>h) ?_
 have H:_=some out:=H
 unfold ca.f at H
 show du _ cf AF m _ ⟨[.fp [.bool s0.aj,ai.fz s0.aa,af.fz s0.ae] 0,.int .i64 n0,.any],[],h⟩ _
 refine q1 <| qq ?_
 obtain⟨v0,e0,H⟩:=bk H
 obtain rfl:=oi H
 exact qr [.v 5 (fm (k:=.i64) (E:=ai) (l:=s0.aa) yA e0),.v 7 (sm  (E:=ai) (l:=s0.aa) (off:=0) h A3 e0 rfl)] <| qt <| ⟨.inl rfl,dv (.bool (v0.kind==(0:Int))) h (dq (aD))⟩
end
end Go.Proofs.Ytifafejidnjckaa
namespace Go.Proofs.Ytifafejidnjckaa
open Go Go.R
open Go.IntKind (i64 u64 u8 u32)
def AG:b5:=gV [0,1,3] [] [4,3] [] []
def cy.f (m:Nat)(a0:Int)(x0:ab):Option (Bool):=(cC.f m x0 a0).bind fun x1=>some (!x1)
def cy.fin (L:Mem)(r:Bool)(s:St):Prop:=∃av,aP Try.prog (s.open AG) Try.f62.results.toList=some av∧fD s.h av (.bool r)
def QJ (cf:CallF)(m:Nat):Prop:=∀(a0:Int) (x0:ab) (r:Bool),cy.f m a0 x0=some r→∀h xs,aQ bQ h xs [.int .i64 a0,.fp [.fp [.bool x0.aj,ai.fz x0.aa,af.fz x0.ae] 0] 0]→cf 62 xs h=some (.bool r,h)
section
variable {cf:CallF}{m:Nat}
theorem jW {aX:FuncId→b5}(ha:aX 62=AG)(Jd:Od cf m)(a0:Int)(x0:ab)(h:AHeap)(L:Mem)  (o:Has h (L)){out:Bool}(H:cy.f m a0 x0=some out) :
  ∃r h',a6 Try.prog aX cf m 62 [.int .i64 a0,.fp [.fp [.bool x0.aj,ai.fz x0.aa,af.fz x0.ae] 0] 0] h=some (r,h')∧fD h' r (.bool out):=by
 refine au (fn:=Try.f62) ha Try.func62 (by kernel_rfl) (by kernel_rfl) ?_
 refine aK (Q:=fun s=>cy.fin L out s) (fun _ _ h=>h) ?_
 have H:_=some out:=H
 unfold cy.f at H
 show du _ cf AG m _ ⟨[.int .i64 a0,.fp [.fp [.bool x0.aj,ai.fz x0.aa,af.fz x0.ae] 0] 0,.any],[],h⟩ _
 refine q1 <| qq ?_
 obtain⟨x1,e0,H⟩:=bk H
 obtain rfl:=oi H
 exact qr [.a 2 (Jd _ _ _ e0 h _ (eQ (ah (gv (pure_cons (dO) (pure_cons (bM.bG (E:=ai) (l:=x0.aa)) (pure_cons (bM.bG (E:=af) (l:=x0.ae)) (pure_nil))))) (ah (bD) (aw)))))] <| qt <| ⟨.inl rfl,dv (.bool (!x1)) h (dq (aD))⟩
end
end Go.Proofs.Ytifafejidnjckaa
namespace Go.Proofs.Ytifafejidnjckaa
open Go Go.R
open Go.IntKind (i64 u64 u8 u32)
def AH:b5:=gV [0,2] [] [2,1] [] []
def fZ.f (m:Nat)(s0:ByteArray):Option (Bool):=if (s0.data.toList==(Wh #[112,114,111,99]).data.toList)=true then (some true) else (if (s0.data.toList==(Wh #[99,101,108,108]).data.toList)=true then (some true) else (some (s0.data.toList==(Wh #[112,111,114,116]).data.toList)))
def fZ.fin (L:Mem)(r:Bool)(s:St):Prop:=∃av,aP Try.prog (s.open AH) Try.f64.results.toList=some av∧fD s.h av (.bool r)
def Og (cf:CallF)(m:Nat):Prop:=∀(s0:ByteArray) (r:Bool),fZ.f m s0=some r→∀h xs,aQ bQ h xs [.str s0]→cf 64 xs h=some (.bool r,h)
section
variable {cf:CallF}{m:Nat}
theorem qQ {aX:FuncId→b5}(ha:aX 64=AH)  (s0:ByteArray)(h:AHeap)(L:Mem)  (o:Has h (L)){out:Bool}(H:fZ.f m s0=some out) :
  ∃r h',a6 Try.prog aX cf m 64 [.str s0] h=some (r,h')∧fD h' r (.bool out):=by
 refine au (fn:=Try.f64) ha Try.func64 (by kernel_rfl) (by kernel_rfl) ?_
 refine aK (Q:=fun s=>fZ.fin L out s) (fun _ _ h=>h) ?_
 have H:_=some out:=H
 unfold fZ.f at H
 show du _ cf AH m _ ⟨[.str s0,.any],[],h⟩ _
 refine q1 <| qq ?_
 rcases iw H with⟨c0,H⟩| ⟨c0,H⟩
 ·obtain rfl:=oi H
  exact qr [.b 2 c0] <| qt <| ⟨.inl rfl,dv (.bool true) h (dq (aD))⟩
 ·rcases iw H with⟨c1,H⟩| ⟨c1,H⟩
  ·obtain rfl:=oi H
   exact qr [.b 2 c0,.b 6 c1] <| qt <| ⟨.inl rfl,dv (.bool true) h (dq (aD))⟩
  ·obtain rfl:=oi H
   exact qr [.b 2 c0,.b 6 c1] <| qt <| ⟨.inl rfl,dv (.bool (s0.data.toList==(Wh #[112,111,114,116]).data.toList)) h (dq (aD))⟩
end
end Go.Proofs.Ytifafejidnjckaa
namespace Go.Proofs.Ytifafejidnjckaa
open Go Go.R
open Go.IntKind (i64 u64 u8 u32)
end Go.Proofs.Ytifafejidnjckaa
namespace Go.Proofs.Ytifafejidnjckaa
open Go Go.R
open Go.IntKind (i64 u64 u8 u32)
end Go.Proofs.Ytifafejidnjckaa
namespace Go.Proofs.Ytifafejidnjckaa
open Go Go.R
open Go.IntKind (i64 u64 u8 u32)
def xF:b5:=gV [0,1,2,3,4,5,7,8,9,10,11,12,14,24,53,54,55,56] [11,1000048] [262080,261696,253760,262079,261568,261574,260567,260567,258519,144855,13783,140759,144855,144855,261631,262079] [] [(8,[(12,none,1)])]
def aZ.l0 (m:Nat)(x1:List Int)(x3:bw)(rec:Int→(List (Int × Int))→(List Int)→bw→bw→Option (Int × (List (Int × Int)) × bw))(v2:aq):Nat→(List Int)→Int→(List (Int × Int))→bw→Option ((List Int) × Int × (List (Int × Int)) × bw)
 | 0,_,_,_,_=>none
 | k+1,dz,x6,x7,x8=>if (decide (x6<(v2.args.length:Int)))=true then ((ix v2.args x6).bind fun v3=>(rec v3 x7 x1 x8 x3).bind fun x9=>(app 8 dz ([x9.1])).bind fun lG=>aZ.l0 m x1 x3 rec v2 k lG (i64.wrap (x6+(1:Int))) x9.2.1 x9.2.2) else (some ((dz,x6,x7,x8)))
def aZ.b (m:Nat)(rec:Int→(List (Int × Int))→(List Int)→bw→bw→Option (Int × (List (Int × Int)) × bw))(i0:Int)(x0:List (Int × Int))(x1:List Int)(x2:bw)(x3:bw):Option (Int × (List (Int × Int)) × bw):=(ix x1 i0).bind fun v0=>if ((xh x0 v0).2)=true then (some ((xh x0 v0).1,x0,x2)) else ((ix x1 i0).bind fun v1=>(ix x3.nodes i0).bind fun v2=>(app 56 x2.nodes [aq.mk v2.kind v2.int v2.label ([]:List Int)]).bind fun x5=>(aZ.l0 m x1 x3 rec v2 m ([]:List Int) (0:Int) (Cp x0 v1 (x2.nodes.length:Int)) (bw.mk x5 x2.root)).bind fun cg=>match cg with | (xG,Db,G1,tD)=>(ix tD.nodes (x2.nodes.length:Int)).bind fun v4=>some ((x2.nodes.length:Int),G1,(bw.mk (tD.nodes.set (x2.nodes.length:Int).toNat (aq.mk v4.kind v4.int v4.label xG)) tD.root)))
def aZ.f (m:Nat):Nat→Int→(List (Int × Int))→(List Int)→bw→bw→Option (Int × (List (Int × Int)) × bw)
 | 0,_,_,_,_,_=>none
 | k+1,i0,x0,x1,x2,x3=>aZ.b m (aZ.f m k) i0 x0 x1 x2 x3
def aZ.fin (L:Mem)(db:Nat)(dA:Nat)(dc:Nat)(cK:Nat)(er:Nat)(eH:List Nat)(dm:Nat)(cQ:Nat)(i0:Int)(x0:List (Int × Int))(x1:List Int)(x2:bw)(x3:bw)(r:Int × (List (Int × Int)) × bw)(s:St):Prop:=∃(lT:Nat) (ia:List Nat),aP Try.prog (s.open xF) Try.f73.results.toList=some (.int .i64 r.1)∧Has s.h ((db,.ob [.mp dA])::(dA,.mp (oO r.2.1))::(dc,.ob [af.fz x1])::(cK,.ob [.rs lT 0 r.2.2.nodes.length 4,.int .i64 r.2.2.root])::(lT,.sl r.2.2.nodes.length 4 (gu.l (bF r.2.2.nodes ia)))::(dm,.ob [ai.fz x3.nodes,.int .i64 x3.root])::(cQ,.ob [.fn 73 [.ptr db 0,.ptr dc 0,.ptr cK 0,.ptr dm 0,.ptr cQ 0]])::(gi r.2.2.nodes ia++L))
def ME (cf:CallF)(m:Nat)(kk:Nat):Prop:=∀(i0:Int) (x0:List (Int × Int)) (x1:List Int) (x2:bw) (x3:bw) (r:Int × (List (Int × Int)) × bw),aZ.f m kk i0 x0 x1 x2 x3=some r→∀h L (db:Nat) (dA:Nat) (dc:Nat) (cK:Nat) (er:Nat) (eH:List Nat) (dm:Nat) (cQ:Nat),Has h ((db,.ob [.mp dA])::(dA,.mp (oO x0))::(dc,.ob [af.fz x1])::(cK,.ob [.rs er 0 x2.nodes.length 4,.int .i64 x2.root])::(er,.sl x2.nodes.length 4 (gu.l (bF x2.nodes eH)))::(dm,.ob [ai.fz x3.nodes,.int .i64 x3.root])::(cQ,.ob [.fn 73 [.ptr db 0,.ptr dc 0,.ptr cK 0,.ptr dm 0,.ptr cQ 0]])::(gi x2.nodes eH++L))→∀xs,xs.map aM=[.int .i64 i0,.ptr db 0,.ptr dc 0,.ptr cK 0,.ptr dm 0,.ptr cQ 0]→∃(lT:Nat) (ia:List Nat) (h':AHeap),cf 73 xs h=some (.int .i64 r.1,h')∧Has h' ((db,.ob [.mp dA])::(dA,.mp (oO r.2.1))::(dc,.ob [af.fz x1])::(cK,.ob [.rs lT 0 r.2.2.nodes.length 4,.int .i64 r.2.2.root])::(lT,.sl r.2.2.nodes.length 4 (gu.l (bF r.2.2.nodes ia)))::(dm,.ob [ai.fz x3.nodes,.int .i64 x3.root])::(cQ,.ob [.fn 73 [.ptr db 0,.ptr dc 0,.ptr cK 0,.ptr dm 0,.ptr cQ 0]])::(gi r.2.2.nodes ia++L))
section
variable {cf:CallF}{m:Nat}
theorem aZ.dy (L:Mem)(db:Nat)(dA:Nat)(dc:Nat)(cK:Nat)(er:Nat)(eH:List Nat)(dm:Nat)(cQ:Nat)(i0:Int)(x0:List (Int × Int))(x1:List Int)(x2:bw)(x3:bw)(v2:aq)  {kk:Nat}(Ev:ME cf m kk)  : dY Try.prog cf xF m (sub [1,1,1,1,1,1,1,0,1,0,0] (b8 Try.f73)) (fun k (σ:(List Int) × Int × (List (Int × Int)) × bw)=>aZ.l0 m x1 x3 (aZ.f m kk) v2 k σ.1 σ.2.1 σ.2.2.1 σ.2.2.2) (fun σ s=>match σ with | (dz,x6,x7,x8)=>∃eo eX vJ h3,s=⟨rA (.ptr cK 0 :: .any :: .ptr cQ 0::rA [.int .i64 (x2.nodes.length:Int),.any,.rs eo 0 dz.length 1,.any,.any,af.fz v2.args,.int .i64 (v2.args.length:Int),.int .i64 x6,.any]),[none,none],h3⟩∧Has h3 ((eo,.sl dz.length 1 (af.l dz))::(eX,.sl x8.nodes.length 4 (gu.l (bF x8.nodes vJ)))::(db,.ob [.mp dA])::(dA,.mp (oO x7))::(dc,.ob [af.fz x1])::(cK,.ob [.rs eX 0 x8.nodes.length 4,.int .i64 x8.root])::(dm,.ob [ai.fz x3.nodes,.int .i64 x3.root])::(cQ,.ob [.fn 73 [.ptr db 0,.ptr dc 0,.ptr cK 0,.ptr dm 0,.ptr cQ 0]])::(gi x8.nodes vJ++L))) (fun out e s=>(e = .exit 0∧∃dz x6 x7 x8,(dz,x6,x7,x8)=out∧∃LB Ew Oh Oi Oj eo eX vJ h3,s=⟨rA (.ptr cK 0 :: .any::LB::rA [.int .i64 (x2.nodes.length:Int),.any,.rs eo 0 dz.length 1,.any,.any,Ew,Oh,Oi,Oj]),[none,none],h3⟩∧Has h3 ((eo,.sl dz.length 1 (af.l dz))::(eX,.sl x8.nodes.length 4 (gu.l (bF x8.nodes vJ)))::(db,.ob [.mp dA])::(dA,.mp (oO x7))::(dc,.ob [af.fz x1])::(cK,.ob [.rs eX 0 x8.nodes.length 4,.int .i64 x8.root])::(dm,.ob [ai.fz x3.nodes,.int .i64 x3.root])::(cQ,.ob [.fn 73 [.ptr db 0,.ptr dc 0,.ptr cK 0,.ptr dm 0,.ptr cQ 0]])::(gi x8.nodes vJ++L)))):=by
 refine mf (fun _=>rfl) ?_
 rintro k ⟨dz,x6,x7,x8⟩ s out ⟨eo,eX,vJ,h3,rfl,o5⟩ H
 have H:aZ.l0 m x1 x3 (aZ.f m kk) v2 (k+1) dz x6 x7 x8=some out:=H
 refine q1 <| qq <| qc H (fun c1 H=>?_) (fun c1 H=>?_)
 ·refine qk <| qq <| qb 1 <| qq ?_
  obtain⟨v3,e7,H⟩:=bk H
  refine qr [.v 0 (fm (k:=.i64) (E:=af) (l:=v2.args) gI e7),.v 1 (iS  (E:=af) (l:=v2.args) h3 A3 e7 rfl)] ?_
  obtain⟨x9,e8,H⟩:=bk H
  obtain⟨cV,Je,h4,e9,o6⟩:=Ev _ _ _ _ _ _ e8 h3 _ _ _ _ _ _ vJ _ _ ((Has.xz (pre:=[(db,.ob [.mp dA]),(dA,.mp (oO x7)),(dc,.ob [af.fz x1]),(cK,.ob [.rs eX 0 x8.nodes.length 4,.int .i64 x8.root]),(eX,.sl x8.nodes.length 4 (gu.l (bF x8.nodes vJ))),(dm,.ob [ai.fz x3.nodes,.int .i64 x3.root]),(cQ,.ob [.fn 73 [.ptr db 0,.ptr dc 0,.ptr cK 0,.ptr dm 0,.ptr cQ 0]])]) (mid:=[(eo,.sl dz.length 1 (af.l dz))]) (Has.front (Has.front (Has.front (Has.front (Has.front (Has.front (Has.front (Has.front o5 0 rfl) 7 rfl) 7 rfl) 3 rfl) 7 rfl) 7 rfl) 7 rfl) 7 rfl)))  [.int .i64 v3,.ptr db 0,.ptr dc 0,.ptr cK 0,.ptr dm 0,.ptr cQ 0] (ar (aO (aW)) (ar (rfl) (ar (rfl) (ar (rfl) (ar (rfl) (ar (rfl) (bA)))))))
  have o7:=Has.xz (pre:=[(db,.ob [.mp dA]),(dA,.mp (oO x9.2.1)),(dc,.ob [af.fz x1]),(cK,.ob [.rs cV 0 x9.2.2.nodes.length 4,.int .i64 x9.2.2.root]),(cV,.sl x9.2.2.nodes.length 4 (gu.l (bF x9.2.2.nodes Je))),(dm,.ob [ai.fz x3.nodes,.int .i64 x3.root]),(cQ,.ob [.fn 73 [.ptr db 0,.ptr dc 0,.ptr cK 0,.ptr dm 0,.ptr cQ 0]])]) (N:=[(eo,.sl dz.length 1 (af.l dz))]) (mid:=gi x9.2.2.nodes Je) o6
  obtain⟨lG,ti,H⟩:=bk H
  obtain⟨dW,h5,wo,o8⟩:=iH (P:=Try.prog) (E:=af) (l:=dz) (q:=7) (t2:=33) (x:=.fz [.int .i64 x9.1] 1 true) (l2:=([x9.1])) gI o7 rfl (by kernel_rfl) rfl ti
  exact qr [.v 1 (show bl Try.prog h3 80 (.ptr cQ 0)=some (.fn 73 [.ptr db 0,.ptr dc 0,.ptr cK 0,.ptr dm 0,.ptr cQ 0]) from bV (q:=7) (cs:=[.fn 73 [.ptr db 0,.ptr dc 0,.ptr cK 0,.ptr dm 0,.ptr cQ 0]]) o5 rfl (by kernel_rfl)),.a 3 e9,.a 5 wo] <| q0 <| ⟨(lG,i64.wrap (x6+(1:Int)),x9.2.1,x9.2.2),⟨dW,cV,Je,h5,by kernel_rfl,(Has.front (Has.front (Has.front (Has.front (Has.front (Has.front (Has.front (Has.front o8 6 rfl) 6 rfl) 5 rfl) 5 rfl) 5 rfl) 5 rfl) 6 rfl) 7 rfl)⟩,H⟩
 ·exact qx 0 <| ⟨rfl,dz,x6,x7,x8,oi H,.ptr cQ 0,af.fz v2.args,.int .i64 (v2.args.length:Int),.int .i64 x6,.bool (decide (x6<(v2.args.length:Int))),eo,eX,vJ,h3,by kernel_rfl,o5⟩
theorem oX {aX:FuncId→b5}(ha:aX 73=xF)  (i0:Int)(x0:List (Int × Int))(x1:List Int)(x2:bw)(x3:bw)(h:AHeap)(L:Mem)(db:Nat)(dA:Nat)(dc:Nat)(cK:Nat)(er:Nat)(eH:List Nat)(dm:Nat)(cQ:Nat)  {kk:Nat}(Ev:ME cf m kk)(o:Has h ((db,.ob [.mp dA])::(dA,.mp (oO x0))::(dc,.ob [af.fz x1])::(cK,.ob [.rs er 0 x2.nodes.length 4,.int .i64 x2.root])::(er,.sl x2.nodes.length 4 (gu.l (bF x2.nodes eH)))::(dm,.ob [ai.fz x3.nodes,.int .i64 x3.root])::(cQ,.ob [.fn 73 [.ptr db 0,.ptr dc 0,.ptr cK 0,.ptr dm 0,.ptr cQ 0]])::(gi x2.nodes eH++L))){out:Int × (List (Int × Int)) × bw}(H:aZ.f m (kk+1) i0 x0 x1 x2 x3=some out) :
  ∃r h',a6 Try.prog aX cf m 73 [.int .i64 i0,.ptr db 0,.ptr dc 0,.ptr cK 0,.ptr dm 0,.ptr cQ 0] h=some (r,h')∧∃(lT:Nat) (ia:List Nat),r = .int .i64 out.1∧Has h' ((db,.ob [.mp dA])::(dA,.mp (oO out.2.1))::(dc,.ob [af.fz x1])::(cK,.ob [.rs lT 0 out.2.2.nodes.length 4,.int .i64 out.2.2.root])::(lT,.sl out.2.2.nodes.length 4 (gu.l (bF out.2.2.nodes ia)))::(dm,.ob [ai.fz x3.nodes,.int .i64 x3.root])::(cQ,.ob [.fn 73 [.ptr db 0,.ptr dc 0,.ptr cK 0,.ptr dm 0,.ptr cQ 0]])::(gi out.2.2.nodes ia++L)):=by
 refine au (fn:=Try.f73) ha Try.func73 (by kernel_rfl) (by kernel_rfl) ?_
 refine aK (Q:=fun s=>aZ.fin L db dA dc cK er eH dm cQ i0 x0 x1 x2 x3 out s) (fun _ _ ⟨h1,lT,ia,h2,h3⟩=>⟨h1,_,h2,lT,ia,rfl,h3⟩) ?_
 have H:aZ.b m (aZ.f m kk) i0 x0 x1 x2 x3=some out:=H
 unfold aZ.b at H
 show du _ cf xF m _ ⟨.int .i64 i0 :: .ptr db 0 :: .ptr dc 0 :: .ptr cK 0 :: .ptr dm 0 :: .ptr cQ 0::vz [],[none,none],h⟩ _
 refine q1 <| qq <| qq ?_
 obtain⟨v0,e0,H⟩:=bk H
 refine qr [.v 0 (show bl Try.prog h 82 (.ptr db 0)=some (.mp dA) from bV (q:=0) (cs:=[.mp dA]) o rfl (by kernel_rfl)),.v 1 (show bl Try.prog h 33 (.ptr dc 0)=some (af.fz x1) from bV (q:=2) (cs:=[af.fz x1]) o rfl (by kernel_rfl)),.v 3 (fm (k:=.i64) (E:=af) (l:=x1) gI e0),.v 4 (iS  (E:=af) (l:=x1) h A3 e0 rfl),.v 5 (show fU Try.prog h 82 (.mp dA) (.int .i64 v0) true=some (.tup [.int .i64 ((xh x0 v0).1),.bool ((xh x0 v0).2)]) from (NQ (q:=1) (l:=x0) (k:=v0) LA o rfl).1)] <| qq <| q0 <| qc H (fun c0 H=>?_) (fun c0 H=>?_)
 ·obtain rfl:=oi H
  exact q1 <| qt <| ⟨.inl rfl,⟨er,eH,by kernel_rfl,he o⟩⟩
 ·refine qk <| qq <| qr [.v 1 (show bl Try.prog h 40 (.ptr cK 0)=some (.rs er 0 x2.nodes.length 4) from bV (q:=3) (cs:=[.rs er 0 x2.nodes.length 4,.int .i64 x2.root]) o rfl (by kernel_rfl))] <| qq ?_
  obtain⟨v1,e1,H⟩:=bk H
  obtain⟨h0,e2,o0⟩:=NR (q:=1) (l:=x0) (k:=v1) (v:=(x2.nodes.length:Int)) LA o rfl
  refine qr [.v 0 (show bl Try.prog h 82 (.ptr db 0)=some (.mp dA) from bV (q:=0) (cs:=[.mp dA]) o rfl (by kernel_rfl)),.v 1 (show bl Try.prog h 33 (.ptr dc 0)=some (af.fz x1) from bV (q:=2) (cs:=[af.fz x1]) o rfl (by kernel_rfl)),.v 3 (fm (k:=.i64) (E:=af) (l:=x1) gI e1),.v 4 (iS  (E:=af) (l:=x1) h A3 e1 rfl),.w 6 e2] <| qq ?_
  obtain⟨v2,e3,H⟩:=bk H
  refine qr [.v 1 (show bl Try.prog h0 40 (.ptr dm 0)=some (ai.fz x3.nodes) from bV (q:=5) (cs:=[ai.fz x3.nodes,.int .i64 x3.root]) o0 rfl (by kernel_rfl)),.v 3 (fm (k:=.i64) (E:=ai) (l:=x3.nodes) yA e3),.v 4 (jm  (E:=ai) (l:=x3.nodes) h0 F5 F6 e3)] <| qq ?_
  have o1:Has h0 (((0),.sl (([]:List Int).length) 1 (af.l ([]:List Int)))::(db,.ob [.mp dA])::(dA,.mp (oO (Cp x0 v1 (x2.nodes.length:Int))))::(dc,.ob [af.fz x1])::(cK,.ob [.rs er 0 x2.nodes.length 4,.int .i64 x2.root])::(er,.sl x2.nodes.length 4 (gu.l (bF x2.nodes eH)))::(dm,.ob [ai.fz x3.nodes,.int .i64 x3.root])::(cQ,.ob [.fn 73 [.ptr db 0,.ptr dc 0,.ptr cK 0,.ptr dm 0,.ptr cQ 0]])::(gi x2.nodes eH++L)):=Has.nil o0 1
  obtain⟨x5,e4,H⟩:=bk H
  obtain⟨aG,eY,h1,e5,o2⟩:=IW (P:=Try.prog) (t2:=40) (pre:=[(db,.ob [.mp dA]),(dA,.mp (oO (Cp x0 v1 (x2.nodes.length:Int)))),(dc,.ob [af.fz x1]),(cK,.ob [.rs er 0 x2.nodes.length 4,.int .i64 x2.root]),(dm,.ob [ai.fz x3.nodes,.int .i64 x3.root]),(cQ,.ob [.fn 73 [.ptr db 0,.ptr dc 0,.ptr cK 0,.ptr dm 0,.ptr cQ 0]])]) (ns:=x2.nodes) (ids:=eH) (kind:=v2.kind) (int:=v2.int) (label:=v2.label) (args:=([]:List Int)) (x:=.fz [.int .i64 v2.kind,.int .i64 v2.int,.str v2.label,.rs (0) 0 (([]:List Int).length) 1] 1 true) yA (Has.front (Has.front (Has.front (Has.front (Has.front (Has.front (Has.front (Has.front o1 7 rfl) 7 rfl) 6 rfl) 6 rfl) 6 rfl) 6 rfl) 6 rfl) 7 rfl) (by kernel_rfl) rfl e4
  obtain⟨h2,e6,o3⟩:=nD (P:=Try.prog) (t:=40) (off:=0) (q:=4) (cs:=[.rs er 0 x2.nodes.length 4,.int .i64 x2.root]) (fi:=[.rs aG 0 x5.length 4,.int .i64 x2.root]) (x:=.rs aG 0 x5.length 4) o2 rfl (by kernel_rfl)
  refine qr [.v 1 (show bl Try.prog h0 40 (.ptr cK 0)=some (.rs er 0 x2.nodes.length 4) from bV (q:=3) (cs:=[.rs er 0 x2.nodes.length 4,.int .i64 x2.root]) o0 rfl (by kernel_rfl)),.a 10 e5,.w 12 e6] <| qq <| q0 ?_
  have o4:Has h2 ((((0)),.sl (([]:List Int).length) 1 (af.l ([]:List Int)))::(aG,.sl x5.length 4 (gu.l (bF x5 eY)))::(db,.ob [.mp dA])::(dA,.mp (oO (Cp x0 v1 (x2.nodes.length:Int))))::(dc,.ob [af.fz x1])::(cK,.ob [.rs aG 0 x5.length 4,.int .i64 x2.root])::(dm,.ob [ai.fz x3.nodes,.int .i64 x3.root])::(cQ,.ob [.fn 73 [.ptr db 0,.ptr dc 0,.ptr cK 0,.ptr dm 0,.ptr cQ 0]])::(gi x5 eY++L)):=Has.nil o3 1
  refine qq <| qq <| q0 <| qb 0 ?_
  obtain⟨cg,zm,H⟩:=bk H
  refine ql (aZ.dy L db dA dc cK er eH dm cQ i0 x0 x1 x2 x3 v2  Ev  (([]:List Int),(0:Int),Cp x0 v1 (x2.nodes.length:Int),(bw.mk x5 x2.root)) _ _ ⟨((0)),aG,eY,h2,by kernel_rfl,o4⟩ zm) ?_
  rintro e s ⟨rfl,xG,Db,G1,tD,rfl,g0,g1,g2,g3,g4,eT,ku,G2,h6,rfl,o9⟩
  try dsimp only at H
  refine qq ?_
  obtain⟨v4,zn,H⟩:=bk H
  obtain⟨h7,AI,vK⟩:=GY (P:=Try.prog) (tf:=33) (pre:=[(db,.ob [.mp dA]),(dA,.mp (oO G1)),(dc,.ob [af.fz x1]),(cK,.ob [.rs ku 0 tD.nodes.length 4,.int .i64 tD.root]),(dm,.ob [ai.fz x3.nodes,.int .i64 x3.root]),(cQ,.ob [.fn 73 [.ptr db 0,.ptr dc 0,.ptr cK 0,.ptr dm 0,.ptr cQ 0]])]) (args:=xG) (Has.front (Has.front (Has.front (Has.front (Has.front (Has.front (Has.front (Has.front o9 7 rfl) 7 rfl) 7 rfl) 7 rfl) 7 rfl) 7 rfl) 6 rfl) 7 rfl) Tc zn
  obtain rfl:=oi H
  exact qr [.v 1 (show bl Try.prog h6 40 (.ptr cK 0)=some (.rs ku 0 tD.nodes.length 4) from bV (q:=5) (cs:=[.rs ku 0 tD.nodes.length 4,.int .i64 tD.root]) o9 rfl (by kernel_rfl)),.v 4 (bp (k:=.i64) (E:=gu) (l:=(bF tD.nodes G2)) (q:=1) yA o9 rfl (rB zn)),.w 6 AI] <| qq <| q0 <| qt <| ⟨.inl rfl,⟨ku,(vF tD.nodes G2 (x2.nodes.length:Int) eT),by kernel_rfl,he (by have o:Has h7 ((db,.ob [.mp dA])::(dA,.mp (oO G1))::(dc,.ob [af.fz x1])::(cK,.ob [.rs ku 0 tD.nodes.length 4,.int .i64 tD.root])::(ku,.sl tD.nodes.length 4 (gu.l (bF (tD.nodes.set (x2.nodes.length:Int).toNat (aq.mk v4.kind v4.int v4.label xG)) (vF tD.nodes G2 (x2.nodes.length:Int) eT))))::(dm,.ob [ai.fz x3.nodes,.int .i64 x3.root])::(cQ,.ob [.fn 73 [.ptr db 0,.ptr dc 0,.ptr cK 0,.ptr dm 0,.ptr cQ 0]])::(gi (tD.nodes.set (x2.nodes.length:Int).toNat (aq.mk v4.kind v4.int v4.label xG)) (vF tD.nodes G2 (x2.nodes.length:Int) eT)++L)):=(Has.front (Has.front (Has.front (Has.front (Has.front (Has.front (Has.front vK 6 rfl) 6 rfl) 2 rfl) 6 rfl) 6 rfl) 6 rfl) 6 rfl); simpa only [VC] using o)⟩⟩
end
end Go.Proofs.Ytifafejidnjckaa
namespace Go.Proofs.Ytifafejidnjckaa
open Go Go.R
open Go.IntKind (i64 u64 u8 u32)
def xH:b5:=gV [0,1,4,5,7,8,9,16] [] [252,204,140,196,68,251,204,251] [] []
def cH.l0 (m:Nat)(s0:List Int)(f0:Int→Option (Bool)):Nat→Int→Option (Sum Int (Int))
 | 0,_=>none
 | k+1,x0=>if (decide (x0<(s0.length:Int)))=true then ((ix s0 x0).bind fun v0=>(f0 v0).bind fun r0=>if r0=true then (some (.inl x0)) else (cH.l0 m s0 f0 k (i64.wrap (x0+(1:Int))))) else (some (.inr x0))
def cH.f (m:Nat)(s0:List Int)(f0:Int→Option (Bool)):Option (Int):=(cH.l0 m s0 f0 m (0:Int)).bind fun cg=>match cg with | .inl r1=>some r1 | .inr x1=>some (-1:Int)
def cH.fin (L:Mem)(r:Int)(s:St):Prop:=∃av,aP Try.prog (s.open xH) Try.f75.results.toList=some av∧fD s.h av (.int .i64 r)
def Ol (cf:CallF)(m:Nat):Prop:=∀(s0:List Int) (f0:Int→Option (Bool)) (r:Int),cH.f m s0 f0=some r→∀(eS:FuncId) (aS:List AV),(∀(h:AHeap) (xs:List AV) (a0:Int) r,f0 a0=some r→aQ bQ h xs ([.int .i64 a0]++aS)→cf eS xs h=some (.bool r,h))→(∀h,aQ cE h aS aS)→∀h xs,aQ bQ h xs [af.fz s0,.fn eS aS]→cf 75 xs h=some (.int .i64 r,h)
section
variable {cf:CallF}{m:Nat}
theorem cH.dy (L:Mem)(eS:FuncId)(aS:List AV)(s0:List Int)(f0:Int→Option (Bool))  (gS:∀(h:AHeap) (xs:List AV) (a0:Int) r,f0 a0=some r→aQ bQ h xs ([.int .i64 a0]++aS)→cf eS xs h=some (.bool r,h))(gT:∀h,aQ cE h aS aS)  : dY Try.prog cf xH m (sub [1,0,1,0,0] (b8 Try.f75)) (fun k (σ:Int)=>cH.l0 m s0 f0 k σ) (fun σ s=>match σ with | x0=>∃h0,s=⟨[af.fz s0,.fn eS aS,.any,.any,.int .i64 (s0.length:Int),.int .i64 x0,.any,.any],[],h0⟩∧Has h0 (L)) (fun out e s=>(e = .exit 0∧∃x0,.inr x0=out∧∃oU vG CB CC xD h0,s=⟨[oU,vG,.any,.any,CB,CC,xD,.any],[],h0⟩∧Has h0 (L))∨(e = .ret∧∃r,.inl r=out∧cH.fin L r s)):=by
 refine mf (fun _=>rfl) ?_
 rintro k x0 s out ⟨h0,rfl,o0⟩ H
 have H:cH.l0 m s0 f0 (k+1) x0=some out:=H
 refine q1 <| qq <| qc H (fun c0 H=>?_) (fun c0 H=>?_)
 ·refine qk <| qq <| qb 1 <| qq <| q0 <| qq ?_
  obtain⟨v0,e0,H⟩:=bk H
  obtain⟨r0,e1,H⟩:=bk H
  refine qr [.v 3 (fm (k:=.i64) (E:=af) (l:=s0) gI e0),.v 4 (iS  (E:=af) (l:=s0) h0 A3 e0 rfl),.a 5 (gS _ _ _ _ e1 (HV (ah (bD) (aw)) (gT h0)))] <| qc H (fun c1 H=>?_) (fun c1 H=>?_)
  ·exact q1 <| qt <| Or.inr (⟨rfl,_,oi H,dv (.int .i64 x0) h0 (dq (dk))⟩)
  ·exact qk <| q0 <| ⟨i64.wrap (x0+(1:Int)),⟨h0,by kernel_rfl,o0⟩,H⟩
 ·exact qx 0 <| Or.inl (⟨rfl,x0,oi H,af.fz s0,.fn eS aS,.int .i64 (s0.length:Int),.int .i64 x0,.bool (decide (x0<(s0.length:Int))),h0,by kernel_rfl,o0⟩)
theorem vL {aX:FuncId→b5}(ha:aX 75=xH)  (s0:List Int)(f0:Int→Option (Bool))(h:AHeap)(L:Mem)(eS:FuncId)(aS:List AV)  (gS:∀(h:AHeap) (xs:List AV) (a0:Int) r,f0 a0=some r→aQ bQ h xs ([.int .i64 a0]++aS)→cf eS xs h=some (.bool r,h))(gT:∀h,aQ cE h aS aS)(o:Has h (L)){out:Int}(H:cH.f m s0 f0=some out) :
  ∃r h',a6 Try.prog aX cf m 75 [af.fz s0,.fn eS aS] h=some (r,h')∧fD h' r (.int .i64 out):=by
 refine au (fn:=Try.f75) ha Try.func75 (by kernel_rfl) (by kernel_rfl) ?_
 refine aK (Q:=fun s=>cH.fin L out s) (fun _ _ h=>h) ?_
 have H:_=some out:=H
 unfold cH.f at H
 show du _ cf xH m _ ⟨af.fz s0 :: .fn eS aS::xk [],[],h⟩ _
 refine q1 <| qq <| qq <| q0 <| qb 0 ?_
 obtain⟨cg,e2,H⟩:=bk H
 refine ql (cH.dy L eS aS s0 f0  gS gT  (0:Int) _ _ ⟨h,by kernel_rfl,o⟩ e2) ?_
 rintro e s (⟨rfl,x1,rfl,g0,g1,g2,g3,g4,h1,rfl,o1⟩| ⟨rfl,r1,rfl,zl⟩)
 ·try dsimp only at H
  obtain rfl:=oi H
  exact q1 <| qt <| ⟨.inl rfl,dv (.int .i64 (-1:Int)) h1 (dq (dk))⟩
 ·try dsimp only at H
  obtain rfl:=oi H
  exact⟨.inl rfl,zl⟩
end
end Go.Proofs.Ytifafejidnjckaa
namespace Go.Proofs.Ytifafejidnjckaa
open Go Go.R
open Go.IntKind (i64 u64 u8 u32)
def xI:b5:=gV [0,1,4,5,7,8,9,16] [] [252,204,140,196,68,251,204,251] [] []
def fa.l0 (m:Nat)(s0:List aq)(f0:aq→Option (Bool)):Nat→Int→Option (Sum Int (Int))
 | 0,_=>none
 | k+1,x0=>if (decide (x0<(s0.length:Int)))=true then ((ix s0 x0).bind fun v0=>(f0 v0).bind fun r0=>if r0=true then (some (.inl x0)) else (fa.l0 m s0 f0 k (i64.wrap (x0+(1:Int))))) else (some (.inr x0))
def fa.f (m:Nat)(s0:List aq)(f0:aq→Option (Bool)):Option (Int):=(fa.l0 m s0 f0 m (0:Int)).bind fun cg=>match cg with | .inl r1=>some r1 | .inr x1=>some (-1:Int)
def fa.fin (L:Mem)(r:Int)(s:St):Prop:=∃av,aP Try.prog (s.open xI) Try.f78.results.toList=some av∧fD s.h av (.int .i64 r)
def QK (cf:CallF)(m:Nat):Prop:=∀(s0:List aq) (f0:aq→Option (Bool)) (r:Int),fa.f m s0 f0=some r→∀(eS:FuncId) (aS:List AV),(∀(h:AHeap) (xs:List AV) (a0:aq) r,f0 a0=some r→aQ bQ h xs ([.agg [.int .i64 a0.kind,.int .i64 a0.int,.str a0.label,af.fz a0.args]]++aS)→cf eS xs h=some (.bool r,h))→(∀h,aQ cE h aS aS)→∀h xs,aQ bQ h xs [ai.fz s0,.fn eS aS]→cf 78 xs h=some (.int .i64 r,h)
section
variable {cf:CallF}{m:Nat}
theorem fa.dy (L:Mem)(eS:FuncId)(aS:List AV)(s0:List aq)(f0:aq→Option (Bool))  (gS:∀(h:AHeap) (xs:List AV) (a0:aq) r,f0 a0=some r→aQ bQ h xs ([.agg [.int .i64 a0.kind,.int .i64 a0.int,.str a0.label,af.fz a0.args]]++aS)→cf eS xs h=some (.bool r,h))(gT:∀h,aQ cE h aS aS)  : dY Try.prog cf xI m (sub [1,0,1,0,0] (b8 Try.f78)) (fun k (σ:Int)=>fa.l0 m s0 f0 k σ) (fun σ s=>match σ with | x0=>∃h0,s=⟨[ai.fz s0,.fn eS aS,.any,.any,.int .i64 (s0.length:Int),.int .i64 x0,.any,.any],[],h0⟩∧Has h0 (L)) (fun out e s=>(e = .exit 0∧∃x0,.inr x0=out∧∃oU vG CB CC xD h0,s=⟨[oU,vG,.any,.any,CB,CC,xD,.any],[],h0⟩∧Has h0 (L))∨(e = .ret∧∃r,.inl r=out∧fa.fin L r s)):=by
 refine mf (fun _=>rfl) ?_
 rintro k x0 s out ⟨h0,rfl,o0⟩ H
 have H:fa.l0 m s0 f0 (k+1) x0=some out:=H
 refine q1 <| qq <| qc H (fun c0 H=>?_) (fun c0 H=>?_)
 ·refine qk <| qq <| qb 1 <| qq <| q0 <| qq ?_
  obtain⟨v0,e0,H⟩:=bk H
  obtain⟨r0,e1,H⟩:=bk H
  refine qr [.v 3 (fm (k:=.i64) (E:=ai) (l:=s0) yA e0),.v 4 (jm  (E:=ai) (l:=s0) h0 F5 F6 e0),.a 5 (gS _ _ _ _ e1 (HV (ah (jT (ah (bD) (ah (bD) (ah (cU) (ah (eG (E:=af)) (aw)))))) (aw)) (gT h0)))] <| qc H (fun c1 H=>?_) (fun c1 H=>?_)
  ·exact q1 <| qt <| Or.inr (⟨rfl,_,oi H,dv (.int .i64 x0) h0 (dq (dk))⟩)
  ·exact qk <| q0 <| ⟨i64.wrap (x0+(1:Int)),⟨h0,by kernel_rfl,o0⟩,H⟩
 ·exact qx 0 <| Or.inl (⟨rfl,x0,oi H,ai.fz s0,.fn eS aS,.int .i64 (s0.length:Int),.int .i64 x0,.bool (decide (x0<(s0.length:Int))),h0,by kernel_rfl,o0⟩)
theorem vM {aX:FuncId→b5}(ha:aX 78=xI)  (s0:List aq)(f0:aq→Option (Bool))(h:AHeap)(L:Mem)(eS:FuncId)(aS:List AV)  (gS:∀(h:AHeap) (xs:List AV) (a0:aq) r,f0 a0=some r→aQ bQ h xs ([.agg [.int .i64 a0.kind,.int .i64 a0.int,.str a0.label,af.fz a0.args]]++aS)→cf eS xs h=some (.bool r,h))(gT:∀h,aQ cE h aS aS)(o:Has h (L)){out:Int}(H:fa.f m s0 f0=some out) :
  ∃r h',a6 Try.prog aX cf m 78 [ai.fz s0,.fn eS aS] h=some (r,h')∧fD h' r (.int .i64 out):=by
 refine au (fn:=Try.f78) ha Try.func78 (by kernel_rfl) (by kernel_rfl) ?_
 refine aK (Q:=fun s=>fa.fin L out s) (fun _ _ h=>h) ?_
 have H:_=some out:=H
 unfold fa.f at H
 show du _ cf xI m _ ⟨ai.fz s0 :: .fn eS aS::xk [],[],h⟩ _
 refine q1 <| qq <| qq <| q0 <| qb 0 ?_
 obtain⟨cg,e2,H⟩:=bk H
 refine ql (fa.dy L eS aS s0 f0  gS gT  (0:Int) _ _ ⟨h,by kernel_rfl,o⟩ e2) ?_
 rintro e s (⟨rfl,x1,rfl,g0,g1,g2,g3,g4,h1,rfl,o1⟩| ⟨rfl,r1,rfl,zl⟩)
 ·try dsimp only at H
  obtain rfl:=oi H
  exact q1 <| qt <| ⟨.inl rfl,dv (.int .i64 (-1:Int)) h1 (dq (dk))⟩
 ·try dsimp only at H
  obtain rfl:=oi H
  exact⟨.inl rfl,zl⟩
end
end Go.Proofs.Ytifafejidnjckaa
namespace Go.Proofs.Ytifafejidnjckaa
open Go Go.R
open Go.IntKind (i64 u64 u8 u32)
def AJ:b5:=gV [0,1,3] [] [4,3] [] []
def gJ.f (m:Nat)(a0:Int)(x0:Int):Option (Bool):=if (decide (a0<(0:Int)))=true then (some true) else (some (decide (a0≥x0)))
def gJ.fin (L:Mem)(r:Bool)(s:St):Prop:=∃av,aP Try.prog (s.open AJ) Try.f79.results.toList=some av∧fD s.h av (.bool r)
def QL (cf:CallF)(m:Nat):Prop:=∀(a0:Int) (x0:Int) (r:Bool),gJ.f m a0 x0=some r→∀h xs,aQ bQ h xs [.int .i64 a0,.fp [.int .i64 x0] 0]→cf 79 xs h=some (.bool r,h)
section
variable {cf:CallF}{m:Nat}
theorem pO {aX:FuncId→b5}(ha:aX 79=AJ)  (a0:Int)(x0:Int)(h:AHeap)(L:Mem)  (o:Has h (L)){out:Bool}(H:gJ.f m a0 x0=some out) :
  ∃r h',a6 Try.prog aX cf m 79 [.int .i64 a0,.fp [.int .i64 x0] 0] h=some (r,h')∧fD h' r (.bool out):=by
 refine au (fn:=Try.f79) ha Try.func79 (by kernel_rfl) (by kernel_rfl) ?_
 refine aK (Q:=fun s=>gJ.fin L out s) (fun _ _ h=>h) ?_
 have H:_=some out:=H
 unfold gJ.f at H
 show du _ cf AJ m _ ⟨[.int .i64 a0,.fp [.int .i64 x0] 0,.any],[],h⟩ _
 refine q1 <| qq ?_
 rcases iw H with⟨c0,H⟩| ⟨c0,H⟩
 ·obtain rfl:=oi H
  exact qr [.b 2 c0] <| qt <| ⟨.inl rfl,dv (.bool true) h (dq (aD))⟩
 ·obtain rfl:=oi H
  exact qr [.b 2 c0] <| qt <| ⟨.inl rfl,dv (.bool (decide (a0≥x0))) h (dq (aD))⟩
end
end Go.Proofs.Ytifafejidnjckaa
namespace Go.Proofs.Ytifafejidnjckaa
open Go Go.R
open Go.IntKind (i64 u64 u8 u32)
def xJ:b5:=gV [0,2,3,5,6,7,8,9,14] [] [510,506,395,267,387,131,509,395,509] [] []
def cb.l0 (m:Nat)(gw:List Int):Nat→Int→Option (Sum Int (Int))
 | 0,_=>none
 | k+1,x0=>if (decide (x0<(gw.length:Int)))=true then ((ix gw x0).bind fun v0=>if (!(v0==(0:Int)))=true then (some (.inl v0)) else (cb.l0 m gw k (i64.wrap (x0+(1:Int))))) else (some (.inr x0))
def cb.f (m:Nat)(gw:List Int):Option (Int):=(cb.l0 m gw m (0:Int)).bind fun cg=>match cg with | .inl r0=>some r0 | .inr x1=>some (0:Int)
def cb.fin (L:Mem)(r:Int)(s:St):Prop:=∃av,aP Try.prog (s.open xJ) Try.f81.results.toList=some av∧fD s.h av (.int .i64 r)
def QM (cf:CallF)(m:Nat):Prop:=∀(gw:List Int) (r:Int),cb.f m gw=some r→∀h xs,aQ bQ h xs [af.fz gw]→cf 81 xs h=some (.int .i64 r,h)
section
variable {cf:CallF}{m:Nat}
theorem cb.dy (L:Mem)(gw:List Int)   : dY Try.prog cf xJ m (sub [1,1,0,1,0,0] (b8 Try.f81)) (fun k (σ:Int)=>cb.l0 m gw k σ) (fun σ s=>match σ with | x0=>∃h0,s=⟨[.any,.any,.int .i64 (0:Int),.any,af.fz gw,.int .i64 (gw.length:Int),.int .i64 x0,.any,.any],[],h0⟩∧Has h0 (L)) (fun out e s=>(e = .exit 0∧∃x0,.inr x0=out∧∃G0 CB CC xD h0,s=⟨[.any,.any,.int .i64 (0:Int),.any,G0,CB,CC,xD,.any],[],h0⟩∧Has h0 (L))∨(e = .ret∧∃r,.inl r=out∧cb.fin L r s)):=by
 refine mf (fun _=>rfl) ?_
 rintro k x0 s out ⟨h0,rfl,o0⟩ H
 have H:cb.l0 m gw (k+1) x0=some out:=H
 refine q1 <| qq <| qc H (fun c0 H=>?_) (fun c0 H=>?_)
 ·refine qk <| qq <| qb 1 <| qq ?_
  obtain⟨v0,e0,H⟩:=bk H
  refine qr [.v 0 (fm (k:=.i64) (E:=af) (l:=gw) gI e0),.v 1 (iS  (E:=af) (l:=gw) h0 A3 e0 rfl)] <| qq <| q0 <| qc H (fun c1 H=>?_) (fun c1 H=>?_)
  ·exact q1 <| qt <| Or.inr (⟨rfl,_,oi H,dv (.int .i64 v0) h0 (dq (dk))⟩)
  ·exact qk <| q0 <| ⟨i64.wrap (x0+(1:Int)),⟨h0,by kernel_rfl,o0⟩,H⟩
 ·exact qx 0 <| Or.inl (⟨rfl,x0,oi H,af.fz gw,.int .i64 (gw.length:Int),.int .i64 x0,.bool (decide (x0<(gw.length:Int))),h0,by kernel_rfl,o0⟩)
theorem qR {aX:FuncId→b5}(ha:aX 81=xJ)  (gw:List Int)(h:AHeap)(L:Mem)  (o:Has h (L)){out:Int}(H:cb.f m gw=some out) :
  ∃r h',a6 Try.prog aX cf m 81 [af.fz gw] h=some (r,h')∧fD h' r (.int .i64 out):=by
 refine au (fn:=Try.f81) ha Try.func81 (by kernel_rfl) (by kernel_rfl) ?_
 refine aK (Q:=fun s=>cb.fin L out s) (fun _ _ h=>h) ?_
 have H:_=some out:=H
 unfold cb.f at H
 show du _ cf xJ m _ ⟨af.fz gw::Cr [],[],h⟩ _
 refine q1 <| qq <| q0 <| qq <| qq <| q0 <| qb 0 ?_
 obtain⟨cg,e1,H⟩:=bk H
 refine ql (cb.dy L gw   (0:Int) _ _ ⟨h,by kernel_rfl,o⟩ e1) ?_
 rintro e s (⟨rfl,x1,rfl,g0,g1,g2,g3,h1,rfl,o1⟩| ⟨rfl,r0,rfl,zl⟩)
 ·try dsimp only at H
  obtain rfl:=oi H
  exact q1 <| qt <| ⟨.inl rfl,dv (.int .i64 (0:Int)) h1 (dq (dk))⟩
 ·try dsimp only at H
  obtain rfl:=oi H
  exact⟨.inl rfl,zl⟩
end
end Go.Proofs.Ytifafejidnjckaa
namespace Go.Proofs.Ytifafejidnjckaa
open Go Go.R
open Go.IntKind (i64 u64 u8 u32)
def AK:b5:=gV [0,2] [] [2,1] [] []
def fR.f (m:Nat)(c0:Int):Option (Bool):=if (decide (c0≥(97:Int)))=true then (if (decide (c0≤(122:Int)))=true then (some true) else (if (decide (c0≥(65:Int)))=true then (if (decide (c0≤(90:Int)))=true then (some true) else (if (decide (c0≥(48:Int)))=true then (if (decide (c0≤(57:Int)))=true then (some true) else (some (c0==(95:Int)))) else (some (c0==(95:Int))))) else (if (decide (c0≥(48:Int)))=true then (if (decide (c0≤(57:Int)))=true then (some true) else (some (c0==(95:Int)))) else (some (c0==(95:Int)))))) else (if (decide (c0≥(65:Int)))=true then (if (decide (c0≤(90:Int)))=true then (some true) else (if (decide (c0≥(48:Int)))=true then (if (decide (c0≤(57:Int)))=true then (some true) else (some (c0==(95:Int)))) else (some (c0==(95:Int))))) else (if (decide (c0≥(48:Int)))=true then (if (decide (c0≤(57:Int)))=true then (some true) else (some (c0==(95:Int)))) else (some (c0==(95:Int)))))
def fR.fin (L:Mem)(r:Bool)(s:St):Prop:=∃av,aP Try.prog (s.open AK) Try.f85.results.toList=some av∧fD s.h av (.bool r)
def Om (cf:CallF)(m:Nat):Prop:=∀(c0:Int) (r:Bool),fR.f m c0=some r→∀h xs,aQ bQ h xs [.int .u8 c0]→cf 85 xs h=some (.bool r,h)
section
variable {cf:CallF}{m:Nat}
theorem pP {aX:FuncId→b5}(ha:aX 85=AK)  (c0:Int)(h:AHeap)(L:Mem)  (o:Has h (L)){out:Bool}(H:fR.f m c0=some out) :
  ∃r h',a6 Try.prog aX cf m 85 [.int .u8 c0] h=some (r,h')∧fD h' r (.bool out):=by
 refine au (fn:=Try.f85) ha Try.func85 (by kernel_rfl) (by kernel_rfl) ?_
 refine aK (Q:=fun s=>fR.fin L out s) (fun _ _ h=>h) ?_
 have H:_=some out:=H
 unfold fR.f at H
 show du _ cf AK m _ ⟨[.int .u8 c0,.any],[],h⟩ _
 refine q1 <| qq ?_
 rcases iw H with⟨c1,H⟩| ⟨c1,H⟩
 ·rcases iw H with⟨c2,H⟩| ⟨c2,H⟩
  ·obtain rfl:=oi H
   exact qr [.b 2 c1,.b 6 c2] <| qt <| ⟨.inl rfl,dv (.bool true) h (dq (aD))⟩
  ·rcases iw H with⟨c3,H⟩| ⟨c3,H⟩
   ·rcases iw H with⟨c4,H⟩| ⟨c4,H⟩
    ·obtain rfl:=oi H
     exact qr [.b 2 c1,.b 6 c2,.b 9 c3,.b 14 c4] <| qt <| ⟨.inl rfl,dv (.bool true) h (dq (aD))⟩
    ·rcases iw H with⟨c5,H⟩| ⟨c5,H⟩
     ·rcases iw H with⟨c6,H⟩| ⟨c6,H⟩
      ·obtain rfl:=oi H
       exact qr [.b 2 c1,.b 6 c2,.b 9 c3,.b 14 c4,.b 17 c5,.b 22 c6] <| qt <| ⟨.inl rfl,dv (.bool true) h (dq (aD))⟩
      ·obtain rfl:=oi H
       exact qr [.b 2 c1,.b 6 c2,.b 9 c3,.b 14 c4,.b 17 c5,.b 22 c6] <| qt <| ⟨.inl rfl,dv (.bool (c0==(95:Int))) h (dq (aD))⟩
     ·obtain rfl:=oi H
      exact qr [.b 2 c1,.b 6 c2,.b 9 c3,.b 14 c4,.b 17 c5] <| qt <| ⟨.inl rfl,dv (.bool (c0==(95:Int))) h (dq (aD))⟩
   ·rcases iw H with⟨c7,H⟩| ⟨c7,H⟩
    ·rcases iw H with⟨c8,H⟩| ⟨c8,H⟩
     ·obtain rfl:=oi H
      exact qr [.b 2 c1,.b 6 c2,.b 9 c3,.b 17 c7,.b 22 c8] <| qt <| ⟨.inl rfl,dv (.bool true) h (dq (aD))⟩
     ·obtain rfl:=oi H
      exact qr [.b 2 c1,.b 6 c2,.b 9 c3,.b 17 c7,.b 22 c8] <| qt <| ⟨.inl rfl,dv (.bool (c0==(95:Int))) h (dq (aD))⟩
    ·obtain rfl:=oi H
     exact qr [.b 2 c1,.b 6 c2,.b 9 c3,.b 17 c7] <| qt <| ⟨.inl rfl,dv (.bool (c0==(95:Int))) h (dq (aD))⟩
 ·rcases iw H with⟨c9,H⟩| ⟨c9,H⟩
  ·rcases iw H with⟨Ey,H⟩| ⟨Ey,H⟩
   ·obtain rfl:=oi H
    exact qr [.b 2 c1,.b 9 c9,.b 14 Ey] <| qt <| ⟨.inl rfl,dv (.bool true) h (dq (aD))⟩
   ·rcases iw H with⟨xK,H⟩| ⟨xK,H⟩
    ·rcases iw H with⟨yC,H⟩| ⟨yC,H⟩
     ·obtain rfl:=oi H
      exact qr [.b 2 c1,.b 9 c9,.b 14 Ey,.b 17 xK,.b 22 yC] <| qt <| ⟨.inl rfl,dv (.bool true) h (dq (aD))⟩
     ·obtain rfl:=oi H
      exact qr [.b 2 c1,.b 9 c9,.b 14 Ey,.b 17 xK,.b 22 yC] <| qt <| ⟨.inl rfl,dv (.bool (c0==(95:Int))) h (dq (aD))⟩
    ·obtain rfl:=oi H
     exact qr [.b 2 c1,.b 9 c9,.b 14 Ey,.b 17 xK] <| qt <| ⟨.inl rfl,dv (.bool (c0==(95:Int))) h (dq (aD))⟩
  ·rcases iw H with⟨CD,H⟩| ⟨CD,H⟩
   ·rcases iw H with⟨Ez,H⟩| ⟨Ez,H⟩
    ·obtain rfl:=oi H
     exact qr [.b 2 c1,.b 9 c9,.b 17 CD,.b 22 Ez] <| qt <| ⟨.inl rfl,dv (.bool true) h (dq (aD))⟩
    ·obtain rfl:=oi H
     exact qr [.b 2 c1,.b 9 c9,.b 17 CD,.b 22 Ez] <| qt <| ⟨.inl rfl,dv (.bool (c0==(95:Int))) h (dq (aD))⟩
   ·obtain rfl:=oi H
    exact qr [.b 2 c1,.b 9 c9,.b 17 CD] <| qt <| ⟨.inl rfl,dv (.bool (c0==(95:Int))) h (dq (aD))⟩
end
end Go.Proofs.Ytifafejidnjckaa
namespace Go.Proofs.Ytifafejidnjckaa
open Go Go.R
open Go.IntKind (i64 u64 u8 u32)
end Go.Proofs.Ytifafejidnjckaa
namespace Go.Proofs.Ytifafejidnjckaa
open Go Go.R
open Go.IntKind (i64 u64 u8 u32)
end Go.Proofs.Ytifafejidnjckaa
namespace Go.Proofs.Ytifafejidnjckaa
open Go Go.R
open Go.IntKind (i64 u64 u8 u32)
end Go.Proofs.Ytifafejidnjckaa
namespace Go.Proofs.Ytifafejidnjckaa
open Go Go.R
open Go.IntKind (i64 u64 u8 u32)
def AL:b5:=gV [0,2] [] [2,1] [] []
def cmp_isNaN_int.f (m:Nat)(x0:Int):Option (Bool):=some (!(x0==x0))
def cmp_isNaN_int.fin (L:Mem)(r:Bool)(s:St):Prop:=∃av,aP Try.prog (s.open AL) Try.f97.results.toList=some av∧fD s.h av (.bool r)
def QN (cf:CallF)(m:Nat):Prop:=∀(x0:Int) (r:Bool),cmp_isNaN_int.f m x0=some r→∀h xs,aQ bQ h xs [.int .i64 x0]→cf 97 xs h=some (.bool r,h)
section
variable {cf:CallF}{m:Nat}
theorem nW {aX:FuncId→b5}(ha:aX 97=AL)  (x0:Int)(h:AHeap)(L:Mem)  (o:Has h (L)){out:Bool}(H:cmp_isNaN_int.f m x0=some out) :
  ∃r h',a6 Try.prog aX cf m 97 [.int .i64 x0] h=some (r,h')∧fD h' r (.bool out):=by
 refine au (fn:=Try.f97) ha Try.func97 (by kernel_rfl) (by kernel_rfl) ?_
 refine aK (Q:=fun s=>cmp_isNaN_int.fin L out s) (fun _ _ h=>h) ?_
 have H:_=some out:=H
 unfold cmp_isNaN_int.f at H
 show du _ cf AL m _ ⟨[.int .i64 x0,.any],[],h⟩ _
 obtain rfl:=oi H
 exact q1 <| qq <| q0 <| qt <| ⟨.inl rfl,dv (.bool (!(x0==x0))) h (dq (aD))⟩
end
end Go.Proofs.Ytifafejidnjckaa
namespace Go.Proofs.Ytifafejidnjckaa
open Go Go.R
open Go.IntKind (i64 u64 u8 u32)
def AM:b5:=gV [0,2] [] [2,1] [] []
def cmp_isNaN_string.f (m:Nat)(x0:ByteArray):Option (Bool):=some (!(x0.data.toList==x0.data.toList))
def cmp_isNaN_string.fin (L:Mem)(r:Bool)(s:St):Prop:=∃av,aP Try.prog (s.open AM) Try.f98.results.toList=some av∧fD s.h av (.bool r)
def QP (cf:CallF)(m:Nat):Prop:=∀(x0:ByteArray) (r:Bool),cmp_isNaN_string.f m x0=some r→∀h xs,aQ bQ h xs [.str x0]→cf 98 xs h=some (.bool r,h)
section
variable {cf:CallF}{m:Nat}
theorem l7 {aX:FuncId→b5}(ha:aX 98=AM)  (x0:ByteArray)(h:AHeap)(L:Mem)  (o:Has h (L)){out:Bool}(H:cmp_isNaN_string.f m x0=some out) :
  ∃r h',a6 Try.prog aX cf m 98 [.str x0] h=some (r,h')∧fD h' r (.bool out):=by
 refine au (fn:=Try.f98) ha Try.func98 (by kernel_rfl) (by kernel_rfl) ?_
 refine aK (Q:=fun s=>cmp_isNaN_string.fin L out s) (fun _ _ h=>h) ?_
 have H:_=some out:=H
 unfold cmp_isNaN_string.f at H
 show du _ cf AM m _ ⟨[.str x0,.any],[],h⟩ _
 obtain rfl:=oi H
 exact q1 <| qq <| q0 <| qt <| ⟨.inl rfl,dv (.bool (!(x0.data.toList==x0.data.toList))) h (dq (aD))⟩
end
end Go.Proofs.Ytifafejidnjckaa
namespace Go.Proofs.Ytifafejidnjckaa
open Go Go.R
open Go.IntKind (i64 u64 u8 u32)
end Go.Proofs.Ytifafejidnjckaa
namespace Go.Proofs.Ytifafejidnjckaa
open Go Go.R
open Go.IntKind (i64 u64 u8 u32)
def pQ:b5:=gV [0,1,2,3,8,9,14,34] [] [224,160,224,192,64,192,192] [] []
def aV.l1 (m:Nat)(a0:Int)(aT:Int→Int→Option (Int)):Nat→(List Int)→Int→Option ((List Int) × Int)
 | 0,_,_=>none
 | k+1,dd,j0=>if (decide (j0 > a0))=true then ((ix dd j0).bind fun v0=>(ix dd (i64.wrap (j0 - (1:Int)))).bind fun v1=>(aT v0 v1).bind fun r0=>if (decide (r0<(0:Int)))=true then ((ix dd (i64.wrap (j0 - (1:Int)))).bind fun v2=>(ix dd j0).bind fun v3=>(ix dd j0).bind fun v4=>(ix (dd.set j0.toNat v2) (i64.wrap (j0 - (1:Int)))).bind fun v5=>aV.l1 m a0 aT k ((dd.set j0.toNat v2).set (i64.wrap (j0 - (1:Int))).toNat v3) (i64.wrap (j0 - (1:Int)))) else (some ((dd,j0)))) else (some ((dd,j0)))
def aV.l0 (m:Nat)(a0:Int)(b0:Int)(aT:Int→Int→Option (Int)):Nat→(List Int)→Int→Option ((List Int) × Int)
 | 0,_,_=>none
 | k+1,bn,i0=>if (decide (i0<b0))=true then ((aV.l1 m a0 aT m bn i0).bind fun cg=>match cg with | (dK,j1)=>aV.l0 m a0 b0 aT k dK (i64.wrap (i0+(1:Int)))) else (some ((bn,i0)))
def aV.f (m:Nat)(ax:List Int)(a0:Int)(b0:Int)(aT:Int→Int→Option (Int)):Option ((List Int)):=(aV.l0 m a0 b0 aT m ax (i64.wrap (a0+(1:Int)))).bind fun dr=>match dr with | (jt,i1)=>some jt
def aV.fin (L:Mem)(aG:Nat)(ax:List Int)(a0:Int)(b0:Int)(aT:Int→Int→Option (Int))(r:(List Int))(s:St):Prop:=aP Try.prog (s.open pQ) Try.f105.results.toList=some (.tup [])∧Has s.h ((aG,.sl ax.length 1 (af.l r))::L)
def Jf (cf:CallF)(m:Nat):Prop:=∀(ax:List Int) (a0:Int) (b0:Int) (aT:Int→Int→Option (Int)) (r:(List Int)),aV.f m ax a0 b0 aT=some r→∀h L (cr:Nat) (aG:Nat),Has h ((aG,.sl cr 1 (af.l ax))::L)→∀(qB:FuncId) (fS eZ:List AV),(aM (.fn qB fS) = .fn qB fS)→(∀(h:AHeap) (xs:List AV) (a0:Int) (a1:Int) r,aT a0 a1=some r→aQ bQ h xs ([.int .i64 a0,.int .i64 a1]++eZ)→cf qB xs h=some (.int .i64 r,h))→(∀h K,Has h (K++(L))→aQ cE h fS eZ)→(∀h,aQ cE h eZ eZ)→∀xs,xs.map aM=[.rs aG 0 cr 1,.int .i64 a0,.int .i64 b0,.fn qB fS]→∃h',cf 105 xs h=some (.tup [],h')∧Has h' ((aG,.sl cr 1 (af.l r))::L)
section
variable {cf:CallF}{m:Nat}
theorem aV.kT (L:Mem)(aG:Nat)(qB:FuncId)(fS eZ:List AV)(ax:List Int)(a0:Int)(b0:Int)(aT:Int→Int→Option (Int))(i0:Int)  (CE:aM (.fn qB fS) = .fn qB fS)(zo:∀(h:AHeap) (xs:List AV) (a0:Int) (a1:Int) r,aT a0 a1=some r→aQ bQ h xs ([.int .i64 a0,.int .i64 a1]++eZ)→cf qB xs h=some (.int .i64 r,h))(zp:∀h K,Has h (K++(L))→aQ cE h fS eZ)(CF:∀h,aQ cE h eZ eZ)  : dY Try.prog cf pQ m (sub [1,0,0,1,0,0,1,0,0] (b8 Try.f105)) (fun k (σ:(List Int) × Int)=>aV.l1 m a0 aT k σ.1 σ.2) (fun σ s=>match σ with | (dd,j0)=>∃h1,s=⟨[.rs aG 0 ax.length 1,.int .i64 a0,.int .i64 b0,.fn qB fS,.int .i64 i0,.int .i64 j0,.any,.any],[],h1⟩∧Has h1 ((aG,.sl ax.length 1 (af.l dd))::L)) (fun out e s=>(e = .exit 2∧∃dd j0,(dd,j0)=out∧∃xD On h1,s=⟨[.rs aG 0 ax.length 1,.int .i64 a0,.int .i64 b0,.fn qB fS,.int .i64 i0,xD,.any,On],[],h1⟩∧Has h1 ((aG,.sl ax.length 1 (af.l dd))::L))):=by
 refine mf (fun _=>rfl) ?_
 rintro k ⟨dd,j0⟩ s out ⟨h1,rfl,o1⟩ H
 have H:aV.l1 m a0 aT (k+1) dd j0=some out:=H
 refine qq <| qq ?_
 rcases iw H with⟨c1,H⟩| ⟨c1,H⟩
 ·obtain⟨v0,e0,H⟩:=bk H
  obtain⟨v1,e1,H⟩:=bk H
  obtain⟨r0,e2,H⟩:=bk H
  refine qr [.b 3 c1,.v 7 (bp (k:=.i64) (E:=af) (l:=dd) (q:=0) gI o1 rfl e0),.v 8 (dH  (E:=af) (l:=dd) (q:=0) o1 rfl A3 e0 rfl),.v 12 (bp (k:=.i64) (E:=af) (l:=dd) (q:=0) gI o1 rfl e1),.v 13 (dH  (E:=af) (l:=dd) (q:=0) o1 rfl A3 e1 rfl),.a 14 (zo _ _ _ _ _ e2 (HV (ah (bD) (ah (bD) (aw))) (zp h1 [(aG,.sl ax.length 1 (af.l dd))] o1)))] <| qc H (fun c2 H=>?_) (fun c2 H=>?_)
  ·refine qk <| qq <| qb 3 ?_
   obtain⟨v2,e3,H⟩:=bk H
   obtain⟨v3,e4,H⟩:=bk H
   obtain⟨v4,e5,H⟩:=bk H
   obtain⟨h2,e6,o2⟩:=fJ (P:=Try.prog) (tf:=3) (E:=af) (l:=dd) (q:=0) (v:=v2) (x:=.int .i64 v2) o1 rfl Z3 e5 rfl rfl
   obtain⟨v5,e7,H⟩:=bk H
   obtain⟨h3,e8,o3⟩:=fJ (P:=Try.prog) (tf:=3) (E:=af) (l:=(dd.set j0.toNat v2)) (q:=0) (v:=v3) (x:=.int .i64 v3) o2 rfl Z3 e7 rfl rfl
   exact qr [.v 8 (bp (k:=.i64) (E:=af) (l:=dd) (q:=0) gI o1 rfl e3),.v 9 (dH  (E:=af) (l:=dd) (q:=0) o1 rfl A3 e3 rfl),.v 12 (bp (k:=.i64) (E:=af) (l:=dd) (q:=0) gI o1 rfl e4),.v 13 (dH  (E:=af) (l:=dd) (q:=0) o1 rfl A3 e4 rfl),.v 14 (bp (k:=.i64) (E:=af) (l:=dd) (q:=0) gI o1 rfl e5),.w 15 e6,.v 16 (bp (k:=.i64) (E:=af) (l:=(dd.set j0.toNat v2)) (q:=0) gI o2 rfl e7),.w 17 e8] <| q0 <| ⟨((dd.set j0.toNat v2).set (i64.wrap (j0 - (1:Int))).toNat v3,i64.wrap (j0 - (1:Int))),⟨h3,by kernel_rfl,o3⟩,H⟩
  ·exact qx 2 <| ⟨rfl,dd,j0,oi H,.int .i64 j0,.bool (decide (r0<(0:Int))),h1,by kernel_rfl,o1⟩
 ·exact qr [.b 3 c1] <| Eg <| qx 2 <| ⟨rfl,dd,j0,oi H,.int .i64 j0,.bool false,h1,by kernel_rfl,o1⟩
theorem aV.dy (L:Mem)(aG:Nat)(qB:FuncId)(fS eZ:List AV)(ax:List Int)(a0:Int)(b0:Int)(aT:Int→Int→Option (Int))  (CE:aM (.fn qB fS) = .fn qB fS)(zo:∀(h:AHeap) (xs:List AV) (a0:Int) (a1:Int) r,aT a0 a1=some r→aQ bQ h xs ([.int .i64 a0,.int .i64 a1]++eZ)→cf qB xs h=some (.int .i64 r,h))(zp:∀h K,Has h (K++(L))→aQ cE h fS eZ)(CF:∀h,aQ cE h eZ eZ)  : dY Try.prog cf pQ m (sub [1,0,0] (b8 Try.f105)) (fun k (σ:(List Int) × Int)=>aV.l0 m a0 b0 aT k σ.1 σ.2) (fun σ s=>match σ with | (bn,i0)=>∃h0,s=⟨.rs aG 0 ax.length 1 :: .int .i64 a0 :: .int .i64 b0 :: .fn qB fS :: .int .i64 i0::rA [],[],h0⟩∧Has h0 ((aG,.sl ax.length 1 (af.l bn))::L)) (fun out e s=>(e = .exit 0∧∃bn i0,(bn,i0)=out∧∃oU vG G3 GZ CC Et h0,s=⟨[oU,vG,G3,GZ,CC,.any,Et,.any],[],h0⟩∧Has h0 ((aG,.sl ax.length 1 (af.l bn))::L))):=by
 refine mf (fun _=>rfl) ?_
 rintro k ⟨bn,i0⟩ s out ⟨h0,rfl,o0⟩ H
 have H:aV.l0 m a0 b0 aT (k+1) bn i0=some out:=H
 refine qq <| qq <| q0 <| qc H (fun c0 H=>?_) (fun c0 H=>?_)
 ·refine qk <| qq <| qb 1 <| qq <| q0 <| qb 2 ?_
  obtain⟨cg,e9,H⟩:=bk H
  refine ql (aV.kT L aG qB fS eZ ax a0 b0 aT i0  CE zo zp CF  (bn,i0) _ _ ⟨h0,by kernel_rfl,o0⟩ e9) ?_
  rintro e s ⟨rfl,dK,j1,rfl,g0,g1,h4,rfl,o4⟩
  try dsimp only at H
  exact q0 <| ⟨(dK,i64.wrap (i0+(1:Int))),⟨h4,by kernel_rfl,o4⟩,H⟩
 ·exact qx 0 <| ⟨rfl,bn,i0,oi H,.rs aG 0 ax.length 1,.int .i64 a0,.int .i64 b0,.fn qB fS,.int .i64 i0,.bool (decide (i0<b0)),h0,by kernel_rfl,o0⟩
theorem nl {aX:FuncId→b5}(ha:aX 105=pQ)  (ax:List Int)(a0:Int)(b0:Int)(aT:Int→Int→Option (Int))(h:AHeap)(L:Mem)(aG:Nat)(qB:FuncId)(fS eZ:List AV)  (CE:aM (.fn qB fS) = .fn qB fS)(zo:∀(h:AHeap) (xs:List AV) (a0:Int) (a1:Int) r,aT a0 a1=some r→aQ bQ h xs ([.int .i64 a0,.int .i64 a1]++eZ)→cf qB xs h=some (.int .i64 r,h))(zp:∀h K,Has h (K++(L))→aQ cE h fS eZ)(CF:∀h,aQ cE h eZ eZ)(o:Has h ((aG,.sl ax.length 1 (af.l ax))::L)){out:(List Int)}(H:aV.f m ax a0 b0 aT=some out) :
  ∃r h',a6 Try.prog aX cf m 105 [.rs aG 0 ax.length 1,.int .i64 a0,.int .i64 b0,.fn qB fS] h=some (r,h')∧r = .tup []∧Has h' ((aG,.sl ax.length 1 (af.l out))::L):=by
 refine au (fn:=Try.f105) ha Try.func105 (by kernel_rfl) (by kernel_rfl) ?_
 refine aK (Q:=fun s=>aV.fin L aG ax a0 b0 aT out s) (fun _ _ ⟨h1,h2,h3⟩=>⟨h1,_,h2,rfl,h3⟩) ?_
 have H:_=some out:=H
 unfold aV.f at H
 show du _ cf pQ m _ ⟨.rs aG 0 ax.length 1 :: .int .i64 a0 :: .int .i64 b0 :: .fn qB fS::oc [],[],h⟩ _
 refine q1 <| qb 0 ?_
 obtain⟨dr,ti,H⟩:=bk H
 refine ql (aV.dy L aG qB fS eZ ax a0 b0 aT  CE zo zp CF  (ax,i64.wrap (a0+(1:Int))) _ _ ⟨h,by kernel_rfl,o⟩ ti) ?_
 rintro e s ⟨rfl,jt,i1,rfl,g2,g3,g4,g5,g6,g7,h5,rfl,o5⟩
 try dsimp only at H
 obtain rfl:=oi H
 exact⟨.inr rfl,⟨by kernel_rfl,he o5⟩⟩
end
end Go.Proofs.Ytifafejidnjckaa
namespace Go.Proofs.Ytifafejidnjckaa
open Go Go.R
open Go.IntKind (i64 u64 u8 u32)
def sI:b5:=gV [0,1,2,3,10,13] [] [32,0,32,32] [] []
def bT.l0 (m:Nat)(a0:Int)(b0:Int)(n0:Int):Nat→(List Int)→Int→Option ((List Int) × Int)
 | 0,_,_=>none
 | k+1,bn,i0=>if (decide (i0<n0))=true then ((ix bn (i64.wrap (b0+i0))).bind fun v0=>(ix bn (i64.wrap (a0+i0))).bind fun v1=>(ix bn (i64.wrap (a0+i0))).bind fun v2=>(ix (bn.set (i64.wrap (a0+i0)).toNat v0) (i64.wrap (b0+i0))).bind fun v3=>bT.l0 m a0 b0 n0 k ((bn.set (i64.wrap (a0+i0)).toNat v0).set (i64.wrap (b0+i0)).toNat v1) (i64.wrap (i0+(1:Int)))) else (some ((bn,i0)))
def bT.f (m:Nat)(ax:List Int)(a0:Int)(b0:Int)(n0:Int)(aT:Int→Int→Option (Int)):Option ((List Int)):=(bT.l0 m a0 b0 n0 m ax (0:Int)).bind fun cg=>match cg with | (dd,i1)=>some dd
def bT.fin (L:Mem)(aG:Nat)(ax:List Int)(a0:Int)(b0:Int)(n0:Int)(aT:Int→Int→Option (Int))(r:(List Int))(s:St):Prop:=aP Try.prog (s.open sI) Try.f109.results.toList=some (.tup [])∧Has s.h ((aG,.sl ax.length 1 (af.l r))::L)
def Jg (cf:CallF)(m:Nat):Prop:=∀(ax:List Int) (a0:Int) (b0:Int) (n0:Int) (aT:Int→Int→Option (Int)) (r:(List Int)),bT.f m ax a0 b0 n0 aT=some r→∀h L (cr:Nat) (aG:Nat),Has h ((aG,.sl cr 1 (af.l ax))::L)→∀(eU:FuncId) (a7 aU:List AV),(aM (.fn eU a7) = .fn eU a7)→(∀(h:AHeap) (xs:List AV) (a0:Int) (a1:Int) r,aT a0 a1=some r→aQ bQ h xs ([.int .i64 a0,.int .i64 a1]++aU)→cf eU xs h=some (.int .i64 r,h))→(∀h K,Has h (K++(L))→aQ cE h a7 aU)→(∀h,aQ cE h aU aU)→∀xs,xs.map aM=[.rs aG 0 cr 1,.int .i64 a0,.int .i64 b0,.int .i64 n0,.fn eU a7]→∃h',cf 109 xs h=some (.tup [],h')∧Has h' ((aG,.sl cr 1 (af.l r))::L)
section
variable {cf:CallF}{m:Nat}
theorem bT.dy (L:Mem)(aG:Nat)(eU:FuncId)(a7 aU:List AV)(ax:List Int)(a0:Int)(b0:Int)(n0:Int)(aT:Int→Int→Option (Int))  (gK:aM (.fn eU a7) = .fn eU a7)(hX:∀(h:AHeap) (xs:List AV) (a0:Int) (a1:Int) r,aT a0 a1=some r→aQ bQ h xs ([.int .i64 a0,.int .i64 a1]++aU)→cf eU xs h=some (.int .i64 r,h))(hY:∀h K,Has h (K++(L))→aQ cE h a7 aU)(iI:∀h,aQ cE h aU aU)  : dY Try.prog cf sI m (sub [1,0,0] (b8 Try.f109)) (fun k (σ:(List Int) × Int)=>bT.l0 m a0 b0 n0 k σ.1 σ.2) (fun σ s=>match σ with | (bn,i0)=>∃h0,s=⟨[.rs aG 0 ax.length 1,.int .i64 a0,.int .i64 b0,.int .i64 n0,.int .i64 i0,.any],[],h0⟩∧Has h0 ((aG,.sl ax.length 1 (af.l bn))::L)) (fun out e s=>(e = .exit 0∧∃bn i0,(bn,i0)=out∧∃oU vG G3 GZ zq vH h0,s=⟨[oU,vG,G3,GZ,zq,vH],[],h0⟩∧Has h0 ((aG,.sl ax.length 1 (af.l bn))::L))):=by
 refine mf (fun _=>rfl) ?_
 rintro k ⟨bn,i0⟩ s out ⟨h0,rfl,o0⟩ H
 have H:bT.l0 m a0 b0 n0 (k+1) bn i0=some out:=H
 refine qq <| qq <| q0 <| qc H (fun c0 H=>?_) (fun c0 H=>?_)
 ·refine qk <| qq <| qb 1 ?_
  obtain⟨v0,e0,H⟩:=bk H
  obtain⟨v1,e1,H⟩:=bk H
  obtain⟨v2,e2,H⟩:=bk H
  obtain⟨h1,e3,o1⟩:=fJ (P:=Try.prog) (tf:=3) (E:=af) (l:=bn) (q:=0) (v:=v0) (x:=.int .i64 v0) o0 rfl Z3 e2 rfl rfl
  obtain⟨v3,e4,H⟩:=bk H
  obtain⟨h2,e5,o2⟩:=fJ (P:=Try.prog) (tf:=3) (E:=af) (l:=(bn.set (i64.wrap (a0+i0)).toNat v0)) (q:=0) (v:=v1) (x:=.int .i64 v1) o1 rfl Z3 e4 rfl rfl
  exact qr [.v 12 (bp (k:=.i64) (E:=af) (l:=bn) (q:=0) gI o0 rfl e0),.v 13 (dH  (E:=af) (l:=bn) (q:=0) o0 rfl A3 e0 rfl),.v 18 (bp (k:=.i64) (E:=af) (l:=bn) (q:=0) gI o0 rfl e1),.v 19 (dH  (E:=af) (l:=bn) (q:=0) o0 rfl A3 e1 rfl),.v 20 (bp (k:=.i64) (E:=af) (l:=bn) (q:=0) gI o0 rfl e2),.w 21 e3,.v 22 (bp (k:=.i64) (E:=af) (l:=(bn.set (i64.wrap (a0+i0)).toNat v0)) (q:=0) gI o1 rfl e4),.w 23 e5] <| q0 <| ⟨((bn.set (i64.wrap (a0+i0)).toNat v0).set (i64.wrap (b0+i0)).toNat v1,i64.wrap (i0+(1:Int))),⟨h2,by kernel_rfl,o2⟩,H⟩
 ·exact qx 0 <| ⟨rfl,bn,i0,oi H,.rs aG 0 ax.length 1,.int .i64 a0,.int .i64 b0,.int .i64 n0,.int .i64 i0,.bool (decide (i0<n0)),h0,by kernel_rfl,o0⟩
theorem qS {aX:FuncId→b5}(ha:aX 109=sI)  (ax:List Int)(a0:Int)(b0:Int)(n0:Int)(aT:Int→Int→Option (Int))(h:AHeap)(L:Mem)(aG:Nat)(eU:FuncId)(a7 aU:List AV)  (gK:aM (.fn eU a7) = .fn eU a7)(hX:∀(h:AHeap) (xs:List AV) (a0:Int) (a1:Int) r,aT a0 a1=some r→aQ bQ h xs ([.int .i64 a0,.int .i64 a1]++aU)→cf eU xs h=some (.int .i64 r,h))(hY:∀h K,Has h (K++(L))→aQ cE h a7 aU)(iI:∀h,aQ cE h aU aU)(o:Has h ((aG,.sl ax.length 1 (af.l ax))::L)){out:(List Int)}(H:bT.f m ax a0 b0 n0 aT=some out) :
  ∃r h',a6 Try.prog aX cf m 109 [.rs aG 0 ax.length 1,.int .i64 a0,.int .i64 b0,.int .i64 n0,.fn eU a7] h=some (r,h')∧r = .tup []∧Has h' ((aG,.sl ax.length 1 (af.l out))::L):=by
 refine au (fn:=Try.f109) ha Try.func109 (by kernel_rfl) (by kernel_rfl) ?_
 refine aK (Q:=fun s=>bT.fin L aG ax a0 b0 n0 aT out s) (fun _ _ ⟨h1,h2,h3⟩=>⟨h1,_,h2,rfl,h3⟩) ?_
 have H:_=some out:=H
 unfold bT.f at H
 show du _ cf sI m _ ⟨[.rs aG 0 ax.length 1,.int .i64 a0,.int .i64 b0,.int .i64 n0,.any,.any],[],h⟩ _
 refine q1 <| qb 0 ?_
 obtain⟨cg,e6,H⟩:=bk H
 refine ql (bT.dy L aG eU a7 aU ax a0 b0 n0 aT  gK hX hY iI  (ax,(0:Int)) _ _ ⟨h,by kernel_rfl,o⟩ e6) ?_
 rintro e s ⟨rfl,dd,i1,rfl,g0,g1,g2,g3,g4,g5,h3,rfl,o3⟩
 try dsimp only at H
 obtain rfl:=oi H
 exact⟨.inr rfl,⟨by kernel_rfl,he o3⟩⟩
end
end Go.Proofs.Ytifafejidnjckaa
namespace Go.Proofs.Ytifafejidnjckaa
open Go Go.R
open Go.IntKind (i64 u64 u8 u32)
def AN:b5:=gV [0,2,5] [] [6,2,5,5] [] []
def bN.f (m:Nat)(s0:ab):Option (Int):=(bu.f m s0).bind fun x0=>if (!x0)=true then (some (0:Int)) else (some (s0.aa.length:Int))
def bN.fin (L:Mem)(r:Int)(s:St):Prop:=∃av,aP Try.prog (s.open AN) Try.f18.results.toList=some av∧fD s.h av (.int .i64 r)
def MF (cf:CallF)(m:Nat):Prop:=∀(s0:ab) (r:Int),bN.f m s0=some r→∀h xs,aQ bQ h xs [.fp [.bool s0.aj,ai.fz s0.aa,af.fz s0.ae] 0]→cf 18 xs h=some (.int .i64 r,h)
section
variable {cf:CallF}{m:Nat}
theorem l8 {aX:FuncId→b5}(ha:aX 18=AN)(vI:Kh cf m)(s0:ab)(h:AHeap)(L:Mem)  (o:Has h (L)){out:Int}(H:bN.f m s0=some out) :
  ∃r h',a6 Try.prog aX cf m 18 [.fp [.bool s0.aj,ai.fz s0.aa,af.fz s0.ae] 0] h=some (r,h')∧fD h' r (.int .i64 out):=by
 refine au (fn:=Try.f18) ha Try.func18 (by kernel_rfl) (by kernel_rfl) ?_
 refine aK (Q:=fun s=>bN.fin L out s) (fun _ _ h=>h) ?_
 have H:_=some out:=H
 unfold bN.f at H
 show du _ cf AN m _ ⟨[.fp [.bool s0.aj,ai.fz s0.aa,af.fz s0.ae] 0,.any,.any],[],h⟩ _
 refine q1 <| qq <| qq ?_
 obtain⟨x0,e0,H⟩:=bk H
 refine qr [.a 1 (vI _ _ e0 h _ (eQ (ah (gv (pure_cons (dO) (pure_cons (bM.bG (E:=ai) (l:=s0.aa)) (pure_cons (bM.bG (E:=af) (l:=s0.ae)) (pure_nil))))) (aw))))] <| qc H (fun c0 H=>?_) (fun c0 H=>?_)
 ·obtain rfl:=oi H
  exact q1 <| qt <| ⟨.inl rfl,dv (.int .i64 (0:Int)) h (dq (dk))⟩
 ·obtain rfl:=oi H
  exact qk <| qq <| q0 <| qt <| ⟨.inl rfl,dv (.int .i64 (s0.aa.length:Int)) h (dq (dk))⟩
end
end Go.Proofs.Ytifafejidnjckaa
namespace Go.Proofs.Ytifafejidnjckaa
open Go Go.R
open Go.IntKind (i64 u64 u8 u32)
def AO:b5:=gV [0,2,5] [] [6,2,5,5] [] []
def de.f (m:Nat)(s0:ab):Option ((Option ab) × ab):=(bu.f m s0).bind fun x0=>if (!x0)=true then (some (none,s0)) else ((Aq 4 s0.aa).bind fun x1=>(Aq 1 s0.ae).bind fun x2=>some (some (ab.mk true x1 x2),s0))
def de.fin (L:Mem)(ao:Nat)(ak:Nat)(an:Nat)(s0:ab)(r:(Option ab) × ab)(s:St):Prop:=∃eB dQ dR aA aB:Nat,aP Try.prog (s.open AO) Try.f19.results.toList=some ((I1 r.1 eB))∧Has s.h (I2 r.1 (fun y=>[(eB,.ob [.bool y.aj,.rs dQ 0 y.aa.length 4,.rs dR 0 y.ae.length 1]),(dQ,.sl y.aa.length 4 (ai.l y.aa)),(dR,.sl y.ae.length 1 (af.l y.ae))])++((ao,.ob [.bool r.2.aj,.rs aA 0 r.2.aa.length 4,.rs aB 0 r.2.ae.length 1])::(aA,.sl r.2.aa.length 4 (ai.l r.2.aa))::(aB,.sl r.2.ae.length 1 (af.l r.2.ae))::L))
def QQ (cf:CallF)(m:Nat):Prop:=∀(s0:ab) (r:(Option ab) × ab),de.f m s0=some r→∀h L (ao:Nat) (ak:Nat) (an:Nat),Has h ((ao,.ob [.bool s0.aj,.rs ak 0 s0.aa.length 4,.rs an 0 s0.ae.length 1])::(ak,.sl s0.aa.length 4 (ai.l s0.aa))::(an,.sl s0.ae.length 1 (af.l s0.ae))::L)→∀xs,xs.map aM=[.ptr ao 0]→∃eB dQ dR aA aB h',cf 19 xs h=some ((I1 r.1 eB),h')∧Has h' (I2 r.1 (fun y=>[(eB,.ob [.bool y.aj,.rs dQ 0 y.aa.length 4,.rs dR 0 y.ae.length 1]),(dQ,.sl y.aa.length 4 (ai.l y.aa)),(dR,.sl y.ae.length 1 (af.l y.ae))])++((ao,.ob [.bool r.2.aj,.rs aA 0 r.2.aa.length 4,.rs aB 0 r.2.ae.length 1])::(aA,.sl r.2.aa.length 4 (ai.l r.2.aa))::(aB,.sl r.2.ae.length 1 (af.l r.2.ae))::L))
section
variable {cf:CallF}{m:Nat}
theorem lH {aX:FuncId→b5}(ha:aX 19=AO)(vI:Kh cf m)(LC:QC cf m)(EA:Ob cf m)(s0:ab)(h:AHeap)(L:Mem)(ao:Nat)(ak:Nat)(an:Nat)  (o:Has h ((ao,.ob [.bool s0.aj,.rs ak 0 s0.aa.length 4,.rs an 0 s0.ae.length 1])::(ak,.sl s0.aa.length 4 (ai.l s0.aa))::(an,.sl s0.ae.length 1 (af.l s0.ae))::L)){out:(Option ab) × ab}(H:de.f m s0=some out) :
  ∃r h',a6 Try.prog aX cf m 19 [.ptr ao 0] h=some (r,h')∧∃eB dQ dR aA aB:Nat,r=(I1 out.1 eB)∧Has h' (I2 out.1 (fun y=>[(eB,.ob [.bool y.aj,.rs dQ 0 y.aa.length 4,.rs dR 0 y.ae.length 1]),(dQ,.sl y.aa.length 4 (ai.l y.aa)),(dR,.sl y.ae.length 1 (af.l y.ae))])++((ao,.ob [.bool out.2.aj,.rs aA 0 out.2.aa.length 4,.rs aB 0 out.2.ae.length 1])::(aA,.sl out.2.aa.length 4 (ai.l out.2.aa))::(aB,.sl out.2.ae.length 1 (af.l out.2.ae))::L)):=by
 refine au (fn:=Try.f19) ha Try.func19 (by kernel_rfl) (by kernel_rfl) ?_
 refine aK (Q:=fun s=>de.fin L ao ak an s0 out s) (fun _ _ ⟨h1,eB,dQ,dR,aA,aB,h2,h3⟩=>⟨h1,_,h2,eB,dQ,dR,aA,aB,rfl,h3⟩) ?_
 have H:_=some out:=H
 unfold de.f at H
 show du _ cf AO m _ ⟨[.ptr ao 0,.any,.any],[],h⟩ _
 refine q1 <| qq <| qq ?_
 obtain⟨x0,e0,H⟩:=bk H
 refine qr [.a 1 (vI _ _ e0 h _ (eQ (ah (bS (q:=0) o rfl (ah (b4) (ah (bI (E:=ai) (l:=s0.aa) (q:=1) o rfl (fun _=>rfl)) (ah (bI (E:=af) (l:=s0.ae) (q:=2) o rfl (fun _=>rfl)) (aw))))) (aw))))] <| qc H (fun c0 H=>?_) (fun c0 H=>?_)
 ·obtain rfl:=oi H
  exact q1 <| qt <| ⟨.inl rfl,⟨0,0,0,ak,an,by kernel_rfl,he o⟩⟩
 ·refine qk <| qq ?_
  obtain⟨x1,e1,H⟩:=bk H
  obtain⟨aG,h0,e2,o0⟩:=HU (q:=1) (E:=ai) (l:=s0.aa) LC o rfl e1
  obtain⟨x2,e3,H⟩:=bk H
  obtain⟨eo,h1,e4,o1⟩:=HU (q:=3) (E:=af) (l:=s0.ae) EA o0 rfl e3
  obtain⟨eX,h2,e5,o2⟩:=fY (cs:=[.bool true,.rs aG 0 x1.length 4,.rs eo 0 x2.length 1]) o1 (by kernel_rfl)
  obtain rfl:=oi H
  exact Kf [] [.v 3 (show bl Try.prog h 40 (.ptr ao 1)=some (.rs ak 0 s0.aa.length 4) from bV (q:=0) (cs:=[.bool s0.aj,.rs ak 0 s0.aa.length 4,.rs an 0 s0.ae.length 1]) o rfl (by kernel_rfl)),.a 4 e2,.v 8 (show bl Try.prog h0 33 (.ptr ao 2)=some (.rs an 0 s0.ae.length 1) from bV (q:=1) (cs:=[.bool s0.aj,.rs ak 0 s0.aa.length 4,.rs an 0 s0.ae.length 1]) o0 rfl (by kernel_rfl)),.a 9 e4,.a 11 e5] [.mk (zj LC o (q2:=0) rfl e2)] <| qt <| ⟨.inl rfl,⟨eX,aG,eo,ak,an,by kernel_rfl,he (Has.front (Has.front (Has.front (Has.front (Has.front (Has.front o2 5 rfl) 5 rfl) 5 rfl) 4 rfl) 5 rfl) 5 rfl)⟩⟩
end
end Go.Proofs.Ytifafejidnjckaa
namespace Go.Proofs.Ytifafejidnjckaa
open Go Go.R
open Go.IntKind (i64 u64 u8 u32)
def AP:b5:=gV [0,2,3] [] [6,1] [] []
def eC.f (m:Nat)(s0:ab):Option (Int × Int × ab):=(b7.f m s0 (dJ.f m ) (aq.mk (0:Int) (0:Int) (Wh #[]) ([]))).bind fun x0=>some (x0.1,x0.2.1,x0.2.2)
def eC.fin (L:Mem)(ao:Nat)(ak:Nat)(an:Nat)(s0:ab)(r:Int × Int × ab)(s:St):Prop:=∃aA aB:Nat,aP Try.prog (s.open AP) Try.f27.results.toList=some (.tup [.int .i64 r.1,.int .i64 r.2.1])∧Has s.h ((ao,.ob [.bool r.2.2.aj,.rs aA 0 r.2.2.aa.length 4,.rs aB 0 r.2.2.ae.length 1])::(aA,.sl r.2.2.aa.length 4 (ai.l r.2.2.aa))::(aB,.sl r.2.2.ae.length 1 (af.l r.2.2.ae))::L)
def QR (cf:CallF)(m:Nat):Prop:=∀(s0:ab) (r:Int × Int × ab),eC.f m s0=some r→∀h L (ao:Nat) (ak:Nat) (an:Nat),Has h ((ao,.ob [.bool s0.aj,.rs ak 0 s0.aa.length 4,.rs an 0 s0.ae.length 1])::(ak,.sl s0.aa.length 4 (ai.l s0.aa))::(an,.sl s0.ae.length 1 (af.l s0.ae))::L)→∀xs,xs.map aM=[.ptr ao 0]→∃aA aB h',cf 27 xs h=some (.tup [.int .i64 r.1,.int .i64 r.2.1],h')∧Has h' ((ao,.ob [.bool r.2.2.aj,.rs aA 0 r.2.2.aa.length 4,.rs aB 0 r.2.2.ae.length 1])::(aA,.sl r.2.2.aa.length 4 (ai.l r.2.2.aa))::(aB,.sl r.2.2.ae.length 1 (af.l r.2.2.ae))::L)
section
variable {cf:CallF}{m:Nat}
theorem mI {aX:FuncId→b5}(ha:aX 27=AP)(vN:Ki cf m)(Oo:QH cf m)(s0:ab)(h:AHeap)(L:Mem)(ao:Nat)(ak:Nat)(an:Nat)  (o:Has h ((ao,.ob [.bool s0.aj,.rs ak 0 s0.aa.length 4,.rs an 0 s0.ae.length 1])::(ak,.sl s0.aa.length 4 (ai.l s0.aa))::(an,.sl s0.ae.length 1 (af.l s0.ae))::L)){out:Int × Int × ab}(H:eC.f m s0=some out) :
  ∃r h',a6 Try.prog aX cf m 27 [.ptr ao 0] h=some (r,h')∧∃aA aB:Nat,r = .tup [.int .i64 out.1,.int .i64 out.2.1]∧Has h' ((ao,.ob [.bool out.2.2.aj,.rs aA 0 out.2.2.aa.length 4,.rs aB 0 out.2.2.ae.length 1])::(aA,.sl out.2.2.aa.length 4 (ai.l out.2.2.aa))::(aB,.sl out.2.2.ae.length 1 (af.l out.2.2.ae))::L):=by
 refine au (fn:=Try.f27) ha Try.func27 (by kernel_rfl) (by kernel_rfl) ?_
 refine aK (Q:=fun s=>eC.fin L ao ak an s0 out s) (fun _ _ ⟨h1,aA,aB,h2,h3⟩=>⟨h1,_,h2,aA,aB,rfl,h3⟩) ?_
 have H:_=some out:=H
 unfold eC.f at H
 show du _ cf AP m _ ⟨[.ptr ao 0,.any,.any],[],h⟩ _
 refine q1 <| qq ?_
 obtain⟨x0,e0,H⟩:=bk H
 obtain⟨aG,eo,h0,e1,o0⟩:=vN _ _ _ _ e0 h _ _ _ _ (o) 48 [] [] rfl (fun h' tE  r hr hx=>Oo  r hr h' tE hx) (fun h' K' o'=>iM (aw)) (fun h_=>iM (aw)) [.ptr ao 0,.fn 48 [],.agg [.int .i64 (0:Int),.int .i64 (0:Int),.str (Wh #[]),.nils]] (ar (rfl) (ar (rfl) (ar (aO (jV (ba (aW) (ba (aW) (ba (iT) (ba (rz (E:=af)) (jU))))))) (bA))))
 obtain rfl:=oi H
 exact qr [.a 2 e1] <| qt <| ⟨.inl rfl,⟨aG,eo,by kernel_rfl,he o0⟩⟩
end
end Go.Proofs.Ytifafejidnjckaa
namespace Go.Proofs.Ytifafejidnjckaa
open Go Go.R
open Go.IntKind (i64 u64 u8 u32)
def AQ:b5:=gV [0,1,3,4,5] [] [26,7] [] []
def eD.f (m:Nat)(s0:ab)(n0:Int):Option (Int × Int × ab):=(b7.f m s0 (da.f m n0) (aq.mk (1:Int) n0 (Wh #[]) ([]))).bind fun x0=>some (x0.1,x0.2.1,x0.2.2)
def eD.fin (L:Mem)(ao:Nat)(ak:Nat)(an:Nat)(s0:ab)(n0:Int)(r:Int × Int × ab)(s:St):Prop:=∃aA aB:Nat,aP Try.prog (s.open AQ) Try.f29.results.toList=some (.tup [.int .i64 r.1,.int .i64 r.2.1])∧Has s.h ((ao,.ob [.bool r.2.2.aj,.rs aA 0 r.2.2.aa.length 4,.rs aB 0 r.2.2.ae.length 1])::(aA,.sl r.2.2.aa.length 4 (ai.l r.2.2.aa))::(aB,.sl r.2.2.ae.length 1 (af.l r.2.2.ae))::L)
def QS (cf:CallF)(m:Nat):Prop:=∀(s0:ab) (n0:Int) (r:Int × Int × ab),eD.f m s0 n0=some r→∀h L (ao:Nat) (ak:Nat) (an:Nat),Has h ((ao,.ob [.bool s0.aj,.rs ak 0 s0.aa.length 4,.rs an 0 s0.ae.length 1])::(ak,.sl s0.aa.length 4 (ai.l s0.aa))::(an,.sl s0.ae.length 1 (af.l s0.ae))::L)→∀xs,xs.map aM=[.ptr ao 0,.int .i64 n0]→∃aA aB h',cf 29 xs h=some (.tup [.int .i64 r.1,.int .i64 r.2.1],h')∧Has h' ((ao,.ob [.bool r.2.2.aj,.rs aA 0 r.2.2.aa.length 4,.rs aB 0 r.2.2.ae.length 1])::(aA,.sl r.2.2.aa.length 4 (ai.l r.2.2.aa))::(aB,.sl r.2.2.ae.length 1 (af.l r.2.2.ae))::L)
section
variable {cf:CallF}{m:Nat}
theorem mJ {aX:FuncId→b5}(ha:aX 29=AQ)(vN:Ki cf m)(Oq:QI cf m)(s0:ab)(n0:Int)(h:AHeap)(L:Mem)(ao:Nat)(ak:Nat)(an:Nat)  (o:Has h ((ao,.ob [.bool s0.aj,.rs ak 0 s0.aa.length 4,.rs an 0 s0.ae.length 1])::(ak,.sl s0.aa.length 4 (ai.l s0.aa))::(an,.sl s0.ae.length 1 (af.l s0.ae))::L)){out:Int × Int × ab}(H:eD.f m s0 n0=some out) :
  ∃r h',a6 Try.prog aX cf m 29 [.ptr ao 0,.int .i64 n0] h=some (r,h')∧∃aA aB:Nat,r = .tup [.int .i64 out.1,.int .i64 out.2.1]∧Has h' ((ao,.ob [.bool out.2.2.aj,.rs aA 0 out.2.2.aa.length 4,.rs aB 0 out.2.2.ae.length 1])::(aA,.sl out.2.2.aa.length 4 (ai.l out.2.2.aa))::(aB,.sl out.2.2.ae.length 1 (af.l out.2.2.ae))::L):=by
 refine au (fn:=Try.f29) ha Try.func29 (by kernel_rfl) (by kernel_rfl) ?_
 refine aK (Q:=fun s=>eD.fin L ao ak an s0 n0 out s) (fun _ _ ⟨h1,aA,aB,h2,h3⟩=>⟨h1,_,h2,aA,aB,rfl,h3⟩) ?_
 have H:_=some out:=H
 unfold eD.f at H
 show du _ cf AQ m _ ⟨.ptr ao 0 :: .int .i64 n0::rA [],[],h⟩ _
 refine qq ?_
 obtain⟨aG,h0,e0,o0⟩:=fY (cs:=[.int .i64 n0]) o (by kernel_rfl)
 refine qr [.a 0 e0] <| qq ?_
 obtain⟨x0,e1,H⟩:=bk H
 obtain⟨eo,eX,h1,e2,o1⟩:=vN _ _ _ _ e1 h0 _ _ _ _ ((Has.front (Has.front (Has.front (Has.front o0 0 rfl) 3 rfl) 3 rfl) 3 rfl)) 51 [.ptr aG 0] [.fp [.int .i64 n0] 0] rfl (fun h' tE  r hr hx=>Oq _ r hr h' tE hx) (fun h' K' o'=>iM (ah (bS (q:=(K'.length+3)) o' (jo rfl) (ah (bD) (aw))) (aw))) (fun h_=>iM (ah (gv (pure_cons (gr) (pure_nil))) (aw))) [.ptr ao 0,.fn 51 [.ptr aG 0],.agg [.int .i64 (1:Int),.int .i64 n0,.str (Wh #[]),.nils]] (ar (rfl) (ar (rfl) (ar (aO (jV (ba (aW) (ba (aW) (ba (iT) (ba (rz (E:=af)) (jU))))))) (bA))))
 refine qr [.v 2 (show bl Try.prog h0 3 (.ptr aG 0)=some (.int .i64 n0) from bV (q:=0) (cs:=[.int .i64 n0]) o0 rfl (by kernel_rfl)),.a 4 e2] ?_
 have o2:Has h1 ((ao,.ob [.bool x0.2.2.aj,.rs eo 0 x0.2.2.aa.length 4,.rs eX 0 x0.2.2.ae.length 1])::(eo,.sl x0.2.2.aa.length 4 (ai.l x0.2.2.aa))::(eX,.sl x0.2.2.ae.length 1 (af.l x0.2.2.ae))::L):=Has.del o1 3
 obtain rfl:=oi H
 exact qt <| ⟨.inl rfl,⟨eo,eX,by kernel_rfl,he o2⟩⟩
end
end Go.Proofs.Ytifafejidnjckaa
namespace Go.Proofs.Ytifafejidnjckaa
open Go Go.R
open Go.IntKind (i64 u64 u8 u32)
def gA.l0 (m:Nat)(s0:ab)(x0:List Int):Nat→(List Int)→Int→Option ((List Int) × Int)
 | 0,_,_=>none
 | k+1,x1,x2=>if (decide (x2<(x0.length:Int)))=true then ((ix x1 x2).bind fun v1=>(bc.f m s0 v1).bind fun x3=>(ix x1 x2).bind fun v2=>gA.l0 m s0 x0 k (x1.set x2.toNat x3) (i64.wrap (x2+(1:Int)))) else (some ((x1,x2)))
def gA.f (m:Nat)(s0:ab)(n0:Int):Option (aq):=(ix s0.aa n0).bind fun v0=>(Aq 1 v0.args).bind fun x0=>(gA.l0 m s0 x0 m x0 (0:Int)).bind fun cg=>match cg with | (x4,x5)=>some (aq.mk v0.kind v0.int v0.label x4)
end Go.Proofs.Ytifafejidnjckaa
namespace Go.Proofs.Ytifafejidnjckaa
open Go Go.R
open Go.IntKind (i64 u64 u8 u32)
def AR:b5:=gV [0,1,4] [] [4,3] [] []
def eF.f (m:Nat)(s0:List Int)(f0:Int→Option (Bool)):Option (Bool):=(cH.f m s0 f0).bind fun x0=>some (decide (x0≥(0:Int)))
def eF.fin (L:Mem)(r:Bool)(s:St):Prop:=∃av,aP Try.prog (s.open AR) Try.f52.results.toList=some av∧fD s.h av (.bool r)
def MG (cf:CallF)(m:Nat):Prop:=∀(s0:List Int) (f0:Int→Option (Bool)) (r:Bool),eF.f m s0 f0=some r→∀(eS:FuncId) (aS:List AV),(∀(h:AHeap) (xs:List AV) (a0:Int) r,f0 a0=some r→aQ bQ h xs ([.int .i64 a0]++aS)→cf eS xs h=some (.bool r,h))→(∀h,aQ cE h aS aS)→∀h xs,aQ bQ h xs [af.fz s0,.fn eS aS]→cf 52 xs h=some (.bool r,h)
section
variable {cf:CallF}{m:Nat}
theorem qT {aX:FuncId→b5}(ha:aX 52=AR)(Jh:Ol cf m)(s0:List Int)(f0:Int→Option (Bool))(h:AHeap)(L:Mem)(eS:FuncId)(aS:List AV)  (gS:∀(h:AHeap) (xs:List AV) (a0:Int) r,f0 a0=some r→aQ bQ h xs ([.int .i64 a0]++aS)→cf eS xs h=some (.bool r,h))(gT:∀h,aQ cE h aS aS)(o:Has h (L)){out:Bool}(H:eF.f m s0 f0=some out) :
  ∃r h',a6 Try.prog aX cf m 52 [af.fz s0,.fn eS aS] h=some (r,h')∧fD h' r (.bool out):=by
 refine au (fn:=Try.f52) ha Try.func52 (by kernel_rfl) (by kernel_rfl) ?_
 refine aK (Q:=fun s=>eF.fin L out s) (fun _ _ h=>h) ?_
 have H:_=some out:=H
 unfold eF.f at H
 show du _ cf AR m _ ⟨[af.fz s0,.fn eS aS,.any],[],h⟩ _
 refine q1 <| qq ?_
 obtain⟨x0,e0,H⟩:=bk H
 obtain rfl:=oi H
 exact qr [.a 2 (Jh _ _ _ e0 eS aS gS gT h _ (eQ (ah (eG (E:=af)) (ah (sF (gT h)) (aw)))))] <| qt <| ⟨.inl rfl,dv (.bool (decide (x0≥(0:Int)))) h (dq (aD))⟩
end
end Go.Proofs.Ytifafejidnjckaa
namespace Go.Proofs.Ytifafejidnjckaa
open Go Go.R
open Go.IntKind (i64 u64 u8 u32)
def AS:b5:=gV [0,1,3] [] [4,3] [] []
def cW.f (m:Nat)(n0:Int)(x0:ab):Option (Bool):=(cC.f m x0 n0).bind fun x1=>some (!x1)
def cW.fin (L:Mem)(r:Bool)(s:St):Prop:=∃av,aP Try.prog (s.open AS) Try.f53.results.toList=some av∧fD s.h av (.bool r)
def QT (cf:CallF)(m:Nat):Prop:=∀(n0:Int) (x0:ab) (r:Bool),cW.f m n0 x0=some r→∀h xs,aQ bQ h xs [.int .i64 n0,.fp [.fp [.bool x0.aj,ai.fz x0.aa,af.fz x0.ae] 0] 0]→cf 53 xs h=some (.bool r,h)
section
variable {cf:CallF}{m:Nat}
theorem kx {aX:FuncId→b5}(ha:aX 53=AS)(Jd:Od cf m)(n0:Int)(x0:ab)(h:AHeap)(L:Mem)  (o:Has h (L)){out:Bool}(H:cW.f m n0 x0=some out) :
  ∃r h',a6 Try.prog aX cf m 53 [.int .i64 n0,.fp [.fp [.bool x0.aj,ai.fz x0.aa,af.fz x0.ae] 0] 0] h=some (r,h')∧fD h' r (.bool out):=by
 refine au (fn:=Try.f53) ha Try.func53 (by kernel_rfl) (by kernel_rfl) ?_
 refine aK (Q:=fun s=>cW.fin L out s) (fun _ _ h=>h) ?_
 have H:_=some out:=H
 unfold cW.f at H
 show du _ cf AS m _ ⟨[.int .i64 n0,.fp [.fp [.bool x0.aj,ai.fz x0.aa,af.fz x0.ae] 0] 0,.any],[],h⟩ _
 refine q1 <| qq ?_
 obtain⟨x1,e0,H⟩:=bk H
 obtain rfl:=oi H
 exact qr [.a 2 (Jd _ _ _ e0 h _ (eQ (ah (gv (pure_cons (dO) (pure_cons (bM.bG (E:=ai) (l:=x0.aa)) (pure_cons (bM.bG (E:=af) (l:=x0.ae)) (pure_nil))))) (ah (bD) (aw)))))] <| qt <| ⟨.inl rfl,dv (.bool (!x1)) h (dq (aD))⟩
end
end Go.Proofs.Ytifafejidnjckaa
