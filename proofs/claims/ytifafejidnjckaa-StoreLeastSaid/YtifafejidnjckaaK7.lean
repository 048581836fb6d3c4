/- Part of the proof: Q41, Q42, Q47, Q48, Q51, Q54, Q55, Q59, Q62, Q64, Q68, Q71, Q73, Q75, Q78, Q79, Q81, Q85, Q90, Q95, Q96, Q97, Q98, Q102, Q105, Q109, Q18, Q19, Q27, Q29, Q40, Q52, Q53, Q56. -/
import Derived.Test.YtifafejidnjckaaK6
set_option linter.unusedVariables false
set_option linter.unusedSimpArgs false
set_option maxRecDepth 100000
open ByteArray renaming mk → Vk
open List renaming length_set → UF
namespace Go.Proofs.Ytifafejidnjckaa
open Go Go.R
open Go.IntKind (i64 u64 u8 u32)
def xa:bX:=gQ [0,1,4,13] [] [12,4,12,11] [] []
def ba.l0 (m:Nat)(s0:ab):Nat→Int→Option (Int)
 | 0,_=>none
 | k+1,n1=>(ix s0.ae n1).bind fun v0=>if (!(v0==n1))=true then ((ix s0.ae n1).bind fun v1=>ba.l0 m s0 k v1) else (some (n1))
def ba.f (m:Nat)(s0:ab)(n0:Int):Option (Int):=(ba.l0 m s0 m n0).bind fun bZ=>match bZ with | n2=>some n2
def ba.fin (L:Mem)(r:Int)(s:St):Prop:=∃av,aM Try.prog (s.open xa) Try.f41.results.toList=some av∧ff s.h av (.int .i64 r)
def L5 (cf:CallF)(m:Nat):Prop:=∀(s0:ab) (n0:Int) (r:Int),ba.f m s0 n0=some r→∀h xs,aO bO h xs [.fp [.bool s0.aj,ai.fz s0.aa,af.fz s0.ae] 0,.int .i64 n0]→cf 41 xs h=some (.int .i64 r,h)
section
variable {cf:CallF}{m:Nat}
theorem ba.dm (L:Mem)(s0:ab)   : dS Try.prog cf xa m (sub [1,0,0,0] (b8 Try.f41)) (fun k (σ:Int)=>ba.l0 m s0 k σ) (fun σ s=>match σ with | n1=>∃h0,s=⟨[.fp [.bool s0.aj,ai.fz s0.aa,af.fz s0.ae] 0,.int .i64 n1,.any,.any],[],h0⟩∧Has h0 (L)) (fun out e s=>(e = .exit 0∧∃n1,n1=out∧∃oz vf h0,s=⟨[oz,.int .i64 n1,.any,vf],[],h0⟩∧Has h0 (L))):=by
 refine me (fun _=>rfl) ?_
 rintro k n1 s out ⟨h0,rfl,o0⟩ H
 have H:ba.l0 m s0 (k+1) n1=some out:=H
 refine qq <| qq ?_
 obtain⟨v0,e0,H⟩:=bj H
 refine qr [.v 5 (eA (k:=.i64) (E:=af) (l:=s0.ae) fU e0),.v 6 (fu  (E:=af) (l:=s0.ae) h0 A3 e0 rfl)] <| qc H (fun c0 H=>?_) (fun c0 H=>?_)
 ·refine qk <| qb 1 ?_
  obtain⟨v1,e1,H⟩:=bj H
  exact qr [.v 5 (eA (k:=.i64) (E:=af) (l:=s0.ae) fU e1),.v 6 (fu  (E:=af) (l:=s0.ae) h0 A3 e1 rfl)] <| ⟨v1,⟨h0,by kernel_rfl,o0⟩,H⟩
 ·exact qx 0 <| ⟨rfl,n1,oi H,.fp [.bool s0.aj,ai.fz s0.aa,af.fz s0.ae] 0,.bool (!(v0==n1)),h0,by kernel_rfl,o0⟩
theorem mh {aV:FuncId→bX}(ha:aV 41=xa)  (s0:ab)(n0:Int)(h:AHeap)(L:Mem)  (o:Has h (L)){out:Int}(H:ba.f m s0 n0=some out) :
  ∃r h',a7 Try.prog aV cf m 41 [.fp [.bool s0.aj,ai.fz s0.aa,af.fz s0.ae] 0,.int .i64 n0] h=some (r,h')∧ff h' r (.int .i64 out):=by
 refine au (fn:=Try.f41) ha Try.func41 (by kernel_rfl) (by kernel_rfl) ?_
 refine aH (Q:=fun s=>ba.fin L out s) (fun _ _ h=>h) ?_
 have H:_=some out:=H
 unfold ba.f at H
 show dj _ cf xa m _ ⟨[.fp [.bool s0.aj,ai.fz s0.aa,af.fz s0.ae] 0,.int .i64 n0,.any,.any],[],h⟩ _
 refine q1 <| qq <| qb 0 ?_
 obtain⟨bZ,e2,H⟩:=bj H
 refine ql (ba.dm L s0   n0 _ _ ⟨h,by kernel_rfl,o⟩ e2) ?_
 rintro e s ⟨rfl,n2,rfl,g0,g1,h1,rfl,o1⟩
 try dsimp only at H
 obtain rfl:=oi H
 exact q1 <| qt <| ⟨.inl rfl,dy (.int .i64 n2) h1 (dw (dc))⟩
end
end Go.Proofs.Ytifafejidnjckaa
namespace Go.Proofs.Ytifafejidnjckaa
open Go Go.R
open Go.IntKind (i64 u64 u8 u32)
end Go.Proofs.Ytifafejidnjckaa
namespace Go.Proofs.Ytifafejidnjckaa
open Go Go.R
open Go.IntKind (i64 u64 u8 u32)
def zY:bX:=gQ [0,1,2,5,6,7,8,9,13,17,31] [5] [2036,1908,1999,1782,1999,1526,1999,1974,950,1974,1983,1999] [] []
def bY.f (m:Nat)(s0:ab)(DZ:Option (Bool))(n0:aq):Option (Int × Int × ab):=(bF.f m s0).bind fun x0=>if (!x0)=true then (some ((0:Int),(6:Int),s0)) else ((DZ ).bind fun r0=>if (!r0)=true then (some ((0:Int),(1:Int),s0)) else (if (decide ((s0.aa.length:Int)≥(8000:Int)))=true then (some ((0:Int),(7:Int),s0)) else (jn (fun (σ:Int)=>match σ with | n1=>(app 56 s0.aa ([(aq.mk n0.kind n1 n0.label n0.args)])).bind fun x1=>(app 8 s0.ae ([(s0.aa.length:Int)])).bind fun x2=>some ((s0.aa.length:Int),(0:Int),(ab.mk s0.aj x1 x2))) fun sX=>(if (n0.kind==(0:Int))=true then (sX (s0.aa.length:Int)) else (sX n0.int)))))
def bY.fin (L:Mem)(ao:Nat)(ak:Nat)(an:Nat)(s0:ab)(DZ:Option (Bool))(n0:aq)(r:Int × Int × ab)(s:St):Prop:=∃aB aC:Nat,aM Try.prog (s.open zY) Try.f47.results.toList=some (.tup [.int .i64 r.1,.int .i64 r.2.1])∧Has s.h ((ao,.ob [.bool r.2.2.aj,.rs aB 0 r.2.2.aa.length 4,.rs aC 0 r.2.2.ae.length 1])::(aB,.sl r.2.2.aa.length 4 (ai.l r.2.2.aa))::(aC,.sl r.2.2.ae.length 1 (af.l r.2.2.ae))::L)
def JO (cf:CallF)(m:Nat):Prop:=∀(s0:ab) (DZ:Option (Bool)) (n0:aq) (r:Int × Int × ab),bY.f m s0 DZ n0=some r→∀h L (ao:Nat) (ak:Nat) (an:Nat),Has h ((ao,.ob [.bool s0.aj,.rs ak 0 s0.aa.length 4,.rs an 0 s0.ae.length 1])::(ak,.sl s0.aa.length 4 (ai.l s0.aa))::(an,.sl s0.ae.length 1 (af.l s0.ae))::L)→∀(eB:FuncId) (aP bU:List AV),(aK (.fn eB aP) = .fn eB aP)→(∀(h:AHeap) (xs:List AV)  r,DZ  = some r→aO bO h xs ([]++bU)→cf eB xs h=some (.bool r,h))→(∀h K,Has h (K++((ao,.ob [.bool s0.aj,.rs ak 0 s0.aa.length 4,.rs an 0 s0.ae.length 1])::(ak,.sl s0.aa.length 4 (ai.l s0.aa))::(an,.sl s0.ae.length 1 (af.l s0.ae))::L))→aO cw h aP bU)→(∀h,aO cw h bU bU)→∀xs,xs.map aK=[.ptr ao 0,.fn eB aP,.agg [.int .i64 n0.kind,.int .i64 n0.int,.str n0.label,af.fz n0.args]]→∃aB aC h',cf 47 xs h=some (.tup [.int .i64 r.1,.int .i64 r.2.1],h')∧Has h' ((ao,.ob [.bool r.2.2.aj,.rs aB 0 r.2.2.aa.length 4,.rs aC 0 r.2.2.ae.length 1])::(aB,.sl r.2.2.aa.length 4 (ai.l r.2.2.aa))::(aC,.sl r.2.2.ae.length 1 (af.l r.2.2.ae))::L)
section
variable {cf:CallF}{m:Nat}
theorem mi {aV:FuncId→bX}(ha:aV 47=zY)(yJ:KV cf m)(s0:ab)(DZ:Option (Bool))(n0:aq)(h:AHeap)(L:Mem)(ao:Nat)(ak:Nat)(an:Nat)(eB:FuncId)(aP bU:List AV)  (qu:aK (.fn eB aP) = .fn eB aP)(gM:∀(h:AHeap) (xs:List AV)  r,DZ  = some r→aO bO h xs ([]++bU)→cf eB xs h=some (.bool r,h))(oA:∀h K,Has h (K++((ao,.ob [.bool s0.aj,.rs ak 0 s0.aa.length 4,.rs an 0 s0.ae.length 1])::(ak,.sl s0.aa.length 4 (ai.l s0.aa))::(an,.sl s0.ae.length 1 (af.l s0.ae))::L))→aO cw h aP bU)(gN:∀h,aO cw h bU bU)(o:Has h ((ao,.ob [.bool s0.aj,.rs ak 0 s0.aa.length 4,.rs an 0 s0.ae.length 1])::(ak,.sl s0.aa.length 4 (ai.l s0.aa))::(an,.sl s0.ae.length 1 (af.l s0.ae))::L)){out:Int × Int × ab}(H:bY.f m s0 DZ n0=some out) :
  ∃r h',a7 Try.prog aV cf m 47 [.ptr ao 0,.fn eB aP,.agg [.int .i64 n0.kind,.int .i64 n0.int,.str n0.label,af.fz n0.args]] h=some (r,h')∧∃aB aC:Nat,r = .tup [.int .i64 out.1,.int .i64 out.2.1]∧Has h' ((ao,.ob [.bool out.2.2.aj,.rs aB 0 out.2.2.aa.length 4,.rs aC 0 out.2.2.ae.length 1])::(aB,.sl out.2.2.aa.length 4 (ai.l out.2.2.aa))::(aC,.sl out.2.2.ae.length 1 (af.l out.2.2.ae))::L):=by
 refine au (fn:=Try.f47) ha Try.func47 (by kernel_rfl) (by kernel_rfl) ?_
 refine aH (Q:=fun s=>bY.fin L ao ak an s0 DZ n0 out s) (fun _ _ ⟨h1,aB,aC,h2,h3⟩=>⟨h1,_,h2,aB,aC,rfl,h3⟩) ?_
 have H:_=some out:=H
 unfold bY.f at H
 show dj _ cf zY m _ ⟨.ptr ao 0 :: .fn eB aP :: .agg [.int .i64 n0.kind,.int .i64 n0.int,.str n0.label,af.fz n0.args]::BS [],[none],h⟩ _
 refine q1 <| qq <| qb 0 <| qq ?_
 obtain⟨x0,e0,H⟩:=bj H
 refine qr [.a 1 (yJ _ _ e0 h _ (gp (ah (dM (q:=0) o rfl (ah (eU) (ah (dW (E:=ai) (l:=s0.aa) (q:=1) o rfl (fun _=>rfl)) (ah (dW (E:=af) (l:=s0.ae) (q:=2) o rfl (fun _=>rfl)) (ay))))) (ay))))] <| qc H (fun c0 H=>?_) (fun c0 H=>?_)
 ·obtain rfl:=oi H
  exact q1 <| qt <| ⟨.inl rfl,⟨ak,an,by kernel_rfl,he o⟩⟩
 ·refine qq ?_
  obtain⟨r0,e1,H⟩:=bj H
  refine qr [.a 1 (gM _ _ _ e1 (Hq (ay) (oA h [] o)))] <| qc H (fun c1 H=>?_) (fun c1 H=>?_)
  ·obtain rfl:=oi H
   exact q1 <| qt <| ⟨.inl rfl,⟨ak,an,by kernel_rfl,he o⟩⟩
  ·refine qs [.v 3 (show bm Try.prog h 40 (.ptr ao 1)=some (.rs ak 0 s0.aa.length 4) from bW (q:=0) (cs:=[.bool s0.aj,.rs ak 0 s0.aa.length 4,.rs an 0 s0.ae.length 1]) o rfl (by kernel_rfl))] <| qc H (fun c2 H=>?_) (fun c2 H=>?_)
   ·obtain rfl:=oi H
    exact q1 <| qt <| ⟨.inl rfl,⟨ak,an,by kernel_rfl,he o⟩⟩
   ·refine qk <| qq <| qr [.v 3 (show bm Try.prog h 40 (.ptr ao 1)=some (.rs ak 0 s0.aa.length 4) from bW (q:=0) (cs:=[.bool s0.aj,.rs ak 0 s0.aa.length 4,.rs an 0 s0.ae.length 1]) o rfl (by kernel_rfl))] ?_
    obtain⟨sX,D0,H⟩:=mN H
    refine qj (S:=fun (σ:Int) s=>match σ with | n1=>∃(g0:AV) (h0:AHeap),s=⟨.ptr ao 0 :: .any :: .any :: .lp 5 0 :: .any :: .any :: .int .i64 (s0.aa.length:Int)::sJ [g0],[some [.int .i64 n0.kind,.int .i64 n1,.str n0.label,af.fz n0.args]],h0⟩∧Has h0 ((ao,.ob [.bool s0.aj,.rs ak 0 s0.aa.length 4,.rs an 0 s0.ae.length 1])::(ak,.sl s0.aa.length 4 (ai.l s0.aa))::(an,.sl s0.ae.length 1 (af.l s0.ae))::L)) sX H ?_ ?_
    ·rintro n1 s ⟨g0,h0,rfl,o0⟩ H
     have H:=(D0 _).symm.trans H
     try dsimp only at H
     refine qq ?_
     obtain⟨x1,e2,H⟩:=bj H
     obtain⟨aJ,h1,e3,o1⟩:=iD (P:=Try.prog) (E:=ai) (l:=s0.aa) (q:=1) (t2:=40) (x:=.fz [.int .i64 n0.kind,.int .i64 n1,.str n0.label,af.fz n0.args] 1 true) (l2:=([(aq.mk n0.kind n1 n0.label n0.args)])) xS o0 rfl (by kernel_rfl) rfl e2
     obtain⟨x2,e4,H⟩:=bj H
     obtain⟨dV,h2,e5,o2⟩:=iD (P:=Try.prog) (E:=af) (l:=s0.ae) (q:=2) (t2:=33) (x:=.fz [.int .i64 (s0.aa.length:Int)] 1 true) (l2:=([(s0.aa.length:Int)])) fU o1 rfl (by kernel_rfl) rfl e4
     obtain⟨h3,e6,o3⟩:=ng (P:=Try.prog) (t:=40) (off:=1) (q:=0) (cs:=[.bool s0.aj,.rs ak 0 s0.aa.length 4,.rs an 0 s0.ae.length 1]) (eQ:=[.bool s0.aj,.rs aJ 0 x1.length 4,.rs an 0 s0.ae.length 1]) (x:=.rs aJ 0 x1.length 4) o2 rfl (by kernel_rfl)
     obtain⟨h4,e7,o4⟩:=ng (P:=Try.prog) (t:=33) (off:=2) (q:=0) (cs:=[.bool s0.aj,.rs aJ 0 x1.length 4,.rs an 0 s0.ae.length 1]) (eQ:=[.bool s0.aj,.rs aJ 0 x1.length 4,.rs dV 0 x2.length 1]) (x:=.rs dV 0 x2.length 1) o3 rfl (by kernel_rfl)
     obtain rfl:=oi H
     exact KN [] [.v 5 (show bm Try.prog h0 40 (.ptr ao 1)=some (.rs ak 0 s0.aa.length 4) from bW (q:=0) (cs:=[.bool s0.aj,.rs ak 0 s0.aa.length 4,.rs an 0 s0.ae.length 1]) o0 rfl (by kernel_rfl)),.a 8 e3,.v 12 (show bm Try.prog h1 33 (.ptr ao 2)=some (.rs an 0 s0.ae.length 1) from bW (q:=0) (cs:=[.bool s0.aj,.rs ak 0 s0.aa.length 4,.rs an 0 s0.ae.length 1]) o1 rfl (by kernel_rfl)),.a 15 e5,.w 18 e6,.w 21 e7] [.mk (yG o0 (q:=1) rfl (q2:=0) rfl (by decide) e3)] <| qq <| q0 <| qt <| ⟨.inl rfl,⟨aJ,dV,by kernel_rfl,he o4⟩⟩
    clear D0
    intro pv
    refine q1 <| qc H (fun c3 H=>?_) (fun c3 H=>?_)
    ·exact q0 <| pv (s0.aa.length:Int) _ ⟨.any,h,by kernel_rfl,o⟩ H
    ·exact qk <| pv n0.int _ ⟨.bool (n0.kind==(0:Int)),h,by kernel_rfl,o⟩ H
end
end Go.Proofs.Ytifafejidnjckaa
namespace Go.Proofs.Ytifafejidnjckaa
open Go Go.R
open Go.IntKind (i64 u64 u8 u32)
def zZ:bX:=gQ [0] [] [1] [] []
def dD.f (m:Nat)  : Option (Bool):=some true
def dD.fin (L:Mem)(r:Bool)(s:St):Prop:=∃av,aM Try.prog (s.open zZ) Try.f48.results.toList=some av∧ff s.h av (.bool r)
def P5 (cf:CallF)(m:Nat):Prop:=∀ (r:Bool),dD.f m  = some r→∀h xs,aO bO h xs []→cf 48 xs h=some (.bool r,h)
section
variable {cf:CallF}{m:Nat}
theorem k8 {aV:FuncId→bX}(ha:aV 48=zZ)   (h:AHeap)(L:Mem)  (o:Has h (L)){out:Bool}(H:dD.f m  = some out) :
  ∃r h',a7 Try.prog aV cf m 48 [] h=some (r,h')∧ff h' r (.bool out):=by
 refine au (fn:=Try.f48) ha Try.func48 (by kernel_rfl) (by kernel_rfl) ?_
 refine aH (Q:=fun s=>dD.fin L out s) (fun _ _ h=>h) ?_
 have H:_=some out:=H
 unfold dD.f at H
 show dj _ cf zZ m _ ⟨[.any],[],h⟩ _
 obtain rfl:=oi H
 exact q1 <| qq <| q0 <| qt <| ⟨.inl rfl,dy (.bool true) h (dw (aD))⟩
end
end Go.Proofs.Ytifafejidnjckaa
namespace Go.Proofs.Ytifafejidnjckaa
open Go Go.R
open Go.IntKind (i64 u64 u8 u32)
def z6:bX:=gQ [0,1] [] [2,1] [] []
def cV.f (m:Nat)(x0:Int):Option (Bool):=if (decide (x0≥(-1099511627776:Int)))=true then (some (decide (x0≤(1099511627776:Int)))) else (some false)
def cV.fin (L:Mem)(r:Bool)(s:St):Prop:=∃av,aM Try.prog (s.open z6) Try.f51.results.toList=some av∧ff s.h av (.bool r)
def P6 (cf:CallF)(m:Nat):Prop:=∀(x0:Int) (r:Bool),cV.f m x0=some r→∀h xs,aO bO h xs [.fp [.int .i64 x0] 0]→cf 51 xs h=some (.bool r,h)
section
variable {cf:CallF}{m:Nat}
theorem k9 {aV:FuncId→bX}(ha:aV 51=z6)  (x0:Int)(h:AHeap)(L:Mem)  (o:Has h (L)){out:Bool}(H:cV.f m x0=some out) :
  ∃r h',a7 Try.prog aV cf m 51 [.fp [.int .i64 x0] 0] h=some (r,h')∧ff h' r (.bool out):=by
 refine au (fn:=Try.f51) ha Try.func51 (by kernel_rfl) (by kernel_rfl) ?_
 refine aH (Q:=fun s=>cV.fin L out s) (fun _ _ h=>h) ?_
 have H:_=some out:=H
 unfold cV.f at H
 show dj _ cf z6 m _ ⟨[.fp [.int .i64 x0] 0,.any],[],h⟩ _
 refine q1 <| qq ?_
 rcases iG H with⟨c0,H⟩| ⟨c0,H⟩
 ·obtain rfl:=oi H
  exact qr [.b 2 c0] <| qt <| ⟨.inl rfl,dy (.bool (decide (x0≤(1099511627776:Int)))) h (dw (aD))⟩
 ·obtain rfl:=oi H
  exact qr [.b 2 c0] <| qt <| ⟨.inl rfl,dy (.bool false) h (dw (aD))⟩
end
end Go.Proofs.Ytifafejidnjckaa
namespace Go.Proofs.Ytifafejidnjckaa
open Go Go.R
open Go.IntKind (i64 u64 u8 u32)
def z7:bX:=gQ [0,1,4] [] [4,3] [] []
def cq.f (m:Nat)(s0:ab)(n0:Int):Option (Bool):=if (decide (n0≥(0:Int)))=true then (some (decide (n0<(s0.aa.length:Int)))) else (some false)
def cq.fin (L:Mem)(r:Bool)(s:St):Prop:=∃av,aM Try.prog (s.open z7) Try.f54.results.toList=some av∧ff s.h av (.bool r)
def NG (cf:CallF)(m:Nat):Prop:=∀(s0:ab) (n0:Int) (r:Bool),cq.f m s0 n0=some r→∀h xs,aO bO h xs [.fp [.bool s0.aj,ai.fz s0.aa,af.fz s0.ae] 0,.int .i64 n0]→cf 54 xs h=some (.bool r,h)
section
variable {cf:CallF}{m:Nat}
theorem la {aV:FuncId→bX}(ha:aV 54=z7)  (s0:ab)(n0:Int)(h:AHeap)(L:Mem)  (o:Has h (L)){out:Bool}(H:cq.f m s0 n0=some out) :
  ∃r h',a7 Try.prog aV cf m 54 [.fp [.bool s0.aj,ai.fz s0.aa,af.fz s0.ae] 0,.int .i64 n0] h=some (r,h')∧ff h' r (.bool out):=by
 refine au (fn:=Try.f54) ha Try.func54 (by kernel_rfl) (by kernel_rfl) ?_
 refine aH (Q:=fun s=>cq.fin L out s) (fun _ _ h=>h) ?_
 have H:_=some out:=H
 unfold cq.f at H
 show dj _ cf z7 m _ ⟨[.fp [.bool s0.aj,ai.fz s0.aa,af.fz s0.ae] 0,.int .i64 n0,.any],[],h⟩ _
 refine q1 <| qq ?_
 rcases iG H with⟨c0,H⟩| ⟨c0,H⟩
 ·obtain rfl:=oi H
  exact qr [.b 2 c0] <| qt <| ⟨.inl rfl,dy (.bool (decide (n0<(s0.aa.length:Int)))) h (dw (aD))⟩
 ·obtain rfl:=oi H
  exact qr [.b 2 c0] <| qt <| ⟨.inl rfl,dy (.bool false) h (dw (aD))⟩
end
end Go.Proofs.Ytifafejidnjckaa
namespace Go.Proofs.Ytifafejidnjckaa
open Go Go.R
open Go.IntKind (i64 u64 u8 u32)
def z8:bX:=gQ [0,1,2,3,4] [2,3] [19,15] [] []
def eV.f (m:Nat)(a0:aq)(b0:aq):Option (Bool):=if (!(a0.kind==b0.kind))=true then (some true) else (if (!(a0.int==b0.int))=true then (some true) else (if (!(a0.label.data.toList==b0.label.data.toList))=true then (some true) else (some (!((a0.args.length:Int)==(b0.args.length:Int))))))
def eV.fin (L:Mem)(r:Bool)(s:St):Prop:=∃av,aM Try.prog (s.open z8) Try.f55.results.toList=some av∧ff s.h av (.bool r)
def NH (cf:CallF)(m:Nat):Prop:=∀(a0:aq) (b0:aq) (r:Bool),eV.f m a0 b0=some r→∀h xs,aO bO h xs [.agg [.int .i64 a0.kind,.int .i64 a0.int,.str a0.label,af.fz a0.args],.agg [.int .i64 b0.kind,.int .i64 b0.int,.str b0.label,af.fz b0.args]]→cf 55 xs h=some (.bool r,h)
section
variable {cf:CallF}{m:Nat}
theorem oB {aV:FuncId→bX}(ha:aV 55=z8)  (a0:aq)(b0:aq)(h:AHeap)(L:Mem)  (o:Has h (L)){out:Bool}(H:eV.f m a0 b0=some out) :
  ∃r h',a7 Try.prog aV cf m 55 [.agg [.int .i64 a0.kind,.int .i64 a0.int,.str a0.label,af.fz a0.args],.agg [.int .i64 b0.kind,.int .i64 b0.int,.str b0.label,af.fz b0.args]] h=some (r,h')∧ff h' r (.bool out):=by
 refine au (fn:=Try.f55) ha Try.func55 (by kernel_rfl) (by kernel_rfl) ?_
 refine aH (Q:=fun s=>eV.fin L out s) (fun _ _ h=>h) ?_
 have H:_=some out:=H
 unfold eV.f at H
 show dj _ cf z8 m _ ⟨.agg [.int .i64 a0.kind,.int .i64 a0.int,.str a0.label,af.fz a0.args] :: .agg [.int .i64 b0.kind,.int .i64 b0.int,.str b0.label,af.fz b0.args]::sJ [],[none,none],h⟩ _
 refine q1 <| qq ?_
 rcases iG H with⟨c0,H⟩| ⟨c0,H⟩
 ·obtain rfl:=oi H
  exact qr [.b 5 c0] <| qt <| ⟨.inl rfl,dy (.bool true) h (dw (aD))⟩
 ·rcases iG H with⟨c1,H⟩| ⟨c1,H⟩
  ·obtain rfl:=oi H
   exact qr [.b 5 c0,.b 12 c1] <| qt <| ⟨.inl rfl,dy (.bool true) h (dw (aD))⟩
  ·rcases iG H with⟨c2,H⟩| ⟨c2,H⟩
   ·obtain rfl:=oi H
    exact qr [.b 5 c0,.b 12 c1,.b 19 c2] <| qt <| ⟨.inl rfl,dy (.bool true) h (dw (aD))⟩
   ·obtain rfl:=oi H
    exact qr [.b 5 c0,.b 12 c1,.b 19 c2] <| qt <| ⟨.inl rfl,dy (.bool (!((a0.args.length:Int)==(b0.args.length:Int)))) h (dw (aD))⟩
end
end Go.Proofs.Ytifafejidnjckaa
namespace Go.Proofs.Ytifafejidnjckaa
open Go Go.R
open Go.IntKind (i64 u64 u8 u32)
def Aa:bX:=gQ [0,1,4] [] [4,3] [] []
def b4.f (m:Nat)(s0:ab)(n0:Int):Option (Bool):=(ix s0.aa n0).bind fun v0=>some (v0.kind==(0:Int))
def b4.fin (L:Mem)(r:Bool)(s:St):Prop:=∃av,aM Try.prog (s.open Aa) Try.f59.results.toList=some av∧ff s.h av (.bool r)
def NI (cf:CallF)(m:Nat):Prop:=∀(s0:ab) (n0:Int) (r:Bool),b4.f m s0 n0=some r→∀h xs,aO bO h xs [.fp [.bool s0.aj,ai.fz s0.aa,af.fz s0.ae] 0,.int .i64 n0]→cf 59 xs h=some (.bool r,h)
section
variable {cf:CallF}{m:Nat}
theorem lF {aV:FuncId→bX}(ha:aV 59=Aa)  (s0:ab)(n0:Int)(h:AHeap)(L:Mem)  (o:Has h (L)){out:Bool}(H:b4.f m s0 n0=some out) :
  ∃r h',a7 Try.prog aV cf m 59 [.fp [.bool s0.aj,ai.fz s0.aa,af.fz s0.ae] 0,.int .i64 n0] h=some (r,h')∧ff h' r (.bool out):=by
 refine au (fn:=Try.f59) ha Try.func59 (by kernel_rfl) (by kernel_rfl) ?_
 refine aH (Q:=fun s=>b4.fin L out s) (fun _ _ h=>h) ?_
 have H:_=some out:=H
 unfold b4.f at H
 show dj _ cf Aa m _ ⟨[.fp [.bool s0.aj,ai.fz s0.aa,af.fz s0.ae] 0,.int .i64 n0,.any],[],h⟩ _
 refine q1 <| qq ?_
 obtain⟨v0,e0,H⟩:=bj H
 obtain rfl:=oi H
 exact qr [.v 5 (eA (k:=.i64) (E:=ai) (l:=s0.aa) xS e0),.v 7 (rR  (E:=ai) (l:=s0.aa) (off:=0) h A3 e0 rfl)] <| qt <| ⟨.inl rfl,dy (.bool (v0.kind==(0:Int))) h (dw (aD))⟩
end
end Go.Proofs.Ytifafejidnjckaa
namespace Go.Proofs.Ytifafejidnjckaa
open Go Go.R
open Go.IntKind (i64 u64 u8 u32)
def Ab:bX:=gQ [0,1,3] [] [4,3] [] []
def cm.f (m:Nat)(a0:Int)(x0:ab):Option (Bool):=(cq.f m x0 a0).bind fun x1=>some (!x1)
def cm.fin (L:Mem)(r:Bool)(s:St):Prop:=∃av,aM Try.prog (s.open Ab) Try.f62.results.toList=some av∧ff s.h av (.bool r)
def P7 (cf:CallF)(m:Nat):Prop:=∀(a0:Int) (x0:ab) (r:Bool),cm.f m a0 x0=some r→∀h xs,aO bO h xs [.int .i64 a0,.fp [.fp [.bool x0.aj,ai.fz x0.aa,af.fz x0.ae] 0] 0]→cf 62 xs h=some (.bool r,h)
section
variable {cf:CallF}{m:Nat}
theorem jH {aV:FuncId→bX}(ha:aV 62=Ab)(IE:NG cf m)(a0:Int)(x0:ab)(h:AHeap)(L:Mem)  (o:Has h (L)){out:Bool}(H:cm.f m a0 x0=some out) :
  ∃r h',a7 Try.prog aV cf m 62 [.int .i64 a0,.fp [.fp [.bool x0.aj,ai.fz x0.aa,af.fz x0.ae] 0] 0] h=some (r,h')∧ff h' r (.bool out):=by
 refine au (fn:=Try.f62) ha Try.func62 (by kernel_rfl) (by kernel_rfl) ?_
 refine aH (Q:=fun s=>cm.fin L out s) (fun _ _ h=>h) ?_
 have H:_=some out:=H
 unfold cm.f at H
 show dj _ cf Ab m _ ⟨[.int .i64 a0,.fp [.fp [.bool x0.aj,ai.fz x0.aa,af.fz x0.ae] 0] 0,.any],[],h⟩ _
 refine q1 <| qq ?_
 obtain⟨x1,e0,H⟩:=bj H
 obtain rfl:=oi H
 exact qr [.a 2 (IE _ _ _ e0 h _ (gp (ah (gf (pure_cons (dI) (pure_cons (bL.bD (E:=ai) (l:=x0.aa)) (pure_cons (bL.bD (E:=af) (l:=x0.ae)) (pure_nil))))) (ah (bz) (ay)))))] <| qt <| ⟨.inl rfl,dy (.bool (!x1)) h (dw (aD))⟩
end
end Go.Proofs.Ytifafejidnjckaa
namespace Go.Proofs.Ytifafejidnjckaa
open Go Go.R
open Go.IntKind (i64 u64 u8 u32)
def Ac:bX:=gQ [0,2] [] [2,1] [] []
def fP.f (m:Nat)(s0:ByteArray):Option (Bool):=if (s0.data.toList==(Vk #[112,114,111,99]).data.toList)=true then (some true) else (if (s0.data.toList==(Vk #[99,101,108,108]).data.toList)=true then (some true) else (some (s0.data.toList==(Vk #[112,111,114,116]).data.toList)))
def fP.fin (L:Mem)(r:Bool)(s:St):Prop:=∃av,aM Try.prog (s.open Ac) Try.f64.results.toList=some av∧ff s.h av (.bool r)
def NJ (cf:CallF)(m:Nat):Prop:=∀(s0:ByteArray) (r:Bool),fP.f m s0=some r→∀h xs,aO bO h xs [.str s0]→cf 64 xs h=some (.bool r,h)
section
variable {cf:CallF}{m:Nat}
theorem qv {aV:FuncId→bX}(ha:aV 64=Ac)  (s0:ByteArray)(h:AHeap)(L:Mem)  (o:Has h (L)){out:Bool}(H:fP.f m s0=some out) :
  ∃r h',a7 Try.prog aV cf m 64 [.str s0] h=some (r,h')∧ff h' r (.bool out):=by
 refine au (fn:=Try.f64) ha Try.func64 (by kernel_rfl) (by kernel_rfl) ?_
 refine aH (Q:=fun s=>fP.fin L out s) (fun _ _ h=>h) ?_
 have H:_=some out:=H
 unfold fP.f at H
 show dj _ cf Ac m _ ⟨[.str s0,.any],[],h⟩ _
 refine q1 <| qq ?_
 rcases iG H with⟨c0,H⟩| ⟨c0,H⟩
 ·obtain rfl:=oi H
  exact qr [.b 2 c0] <| qt <| ⟨.inl rfl,dy (.bool true) h (dw (aD))⟩
 ·rcases iG H with⟨c1,H⟩| ⟨c1,H⟩
  ·obtain rfl:=oi H
   exact qr [.b 2 c0,.b 6 c1] <| qt <| ⟨.inl rfl,dy (.bool true) h (dw (aD))⟩
  ·obtain rfl:=oi H
   exact qr [.b 2 c0,.b 6 c1] <| qt <| ⟨.inl rfl,dy (.bool (s0.data.toList==(Vk #[112,111,114,116]).data.toList)) h (dw (aD))⟩
end
end Go.Proofs.Ytifafejidnjckaa
namespace Go.Proofs.Ytifafejidnjckaa
open Go Go.R
open Go.IntKind (i64 u64 u8 u32)
end Go.Proofs.Ytifafejidnjckaa
namespace Go.Proofs.Ytifafejidnjckaa
open Go Go.R
open Go.IntKind (i64 u64 u8 u32)
end Go.Proofs.Ytifafejidnjckaa
namespace Go.Proofs.Ytifafejidnjckaa
open Go Go.R
open Go.IntKind (i64 u64 u8 u32)
def xb:bX:=gQ [0,1,2,3,4,5,7,8,9,10,11,12,14,24,53,54,55,56] [11,1000048] [262080,261696,253760,262079,261568,261574,260567,260567,258519,144855,13783,140759,144855,144855,261631,262079] [] [(8,[(12,none,1)])]
def aY.l0 (m:Nat)(x1:List Int)(x3:br)(rec:Int→(List (Int × Int))→(List Int)→br→br→Option (Int × (List (Int × Int)) × br))(v2:aq):Nat→(List Int)→Int→(List (Int × Int))→br→Option ((List Int) × Int × (List (Int × Int)) × br)
 | 0,_,_,_,_=>none
 | k+1,dn,x6,x7,x8=>if (decide (x6<(v2.args.length:Int)))=true then ((ix v2.args x6).bind fun v3=>(rec v3 x7 x1 x8 x3).bind fun x9=>(app 8 dn ([x9.1])).bind fun kC=>aY.l0 m x1 x3 rec v2 k kC (i64.wrap (x6+(1:Int))) x9.2.1 x9.2.2) else (some ((dn,x6,x7,x8)))
def aY.b (m:Nat)(rec:Int→(List (Int × Int))→(List Int)→br→br→Option (Int × (List (Int × Int)) × br))(i0:Int)(x0:List (Int × Int))(x1:List Int)(x2:br)(x3:br):Option (Int × (List (Int × Int)) × br):=(ix x1 i0).bind fun v0=>if ((wP x0 v0).2)=true then (some ((wP x0 v0).1,x0,x2)) else ((ix x1 i0).bind fun v1=>(ix x3.nodes i0).bind fun v2=>(app 56 x2.nodes [aq.mk v2.kind v2.int v2.label ([]:List Int)]).bind fun x5=>(aY.l0 m x1 x3 rec v2 m ([]:List Int) (0:Int) (BQ x0 v1 (x2.nodes.length:Int)) (br.mk x5 x2.root)).bind fun bZ=>match bZ with | (xc,yK,Ht,tR)=>(ix tR.nodes (x2.nodes.length:Int)).bind fun v4=>some ((x2.nodes.length:Int),Ht,(br.mk (tR.nodes.set (x2.nodes.length:Int).toNat (aq.mk v4.kind v4.int v4.label xc)) tR.root)))
def aY.f (m:Nat):Nat→Int→(List (Int × Int))→(List Int)→br→br→Option (Int × (List (Int × Int)) × br)
 | 0,_,_,_,_,_=>none
 | k+1,i0,x0,x1,x2,x3=>aY.b m (aY.f m k) i0 x0 x1 x2 x3
def aY.fin (L:Mem)(cW:Nat)(dp:Nat)(cX:Nat)(cD:Nat)(dT:Nat)(en:List Nat)(dd:Nat)(cL:Nat)(i0:Int)(x0:List (Int × Int))(x1:List Int)(x2:br)(x3:br)(r:Int × (List (Int × Int)) × br)(s:St):Prop:=∃(ly:Nat) (hJ:List Nat),aM Try.prog (s.open xb) Try.f73.results.toList=some (.int .i64 r.1)∧Has s.h ((cW,.ob [.mp dp])::(dp,.mp (ov r.2.1))::(cX,.ob [af.fz x1])::(cD,.ob [.rs ly 0 r.2.2.nodes.length 4,.int .i64 r.2.2.root])::(ly,.sl r.2.2.nodes.length 4 (gd.l (bC r.2.2.nodes hJ)))::(dd,.ob [ai.fz x3.nodes,.int .i64 x3.root])::(cL,.ob [.fn 73 [.ptr cW 0,.ptr cX 0,.ptr cD 0,.ptr dd 0,.ptr cL 0]])::(fT r.2.2.nodes hJ++L))
def L6 (cf:CallF)(m:Nat)(kk:Nat):Prop:=∀(i0:Int) (x0:List (Int × Int)) (x1:List Int) (x2:br) (x3:br) (r:Int × (List (Int × Int)) × br),aY.f m kk i0 x0 x1 x2 x3=some r→∀h L (cW:Nat) (dp:Nat) (cX:Nat) (cD:Nat) (dT:Nat) (en:List Nat) (dd:Nat) (cL:Nat),Has h ((cW,.ob [.mp dp])::(dp,.mp (ov x0))::(cX,.ob [af.fz x1])::(cD,.ob [.rs dT 0 x2.nodes.length 4,.int .i64 x2.root])::(dT,.sl x2.nodes.length 4 (gd.l (bC x2.nodes en)))::(dd,.ob [ai.fz x3.nodes,.int .i64 x3.root])::(cL,.ob [.fn 73 [.ptr cW 0,.ptr cX 0,.ptr cD 0,.ptr dd 0,.ptr cL 0]])::(fT x2.nodes en++L))→∀xs,xs.map aK=[.int .i64 i0,.ptr cW 0,.ptr cX 0,.ptr cD 0,.ptr dd 0,.ptr cL 0]→∃(ly:Nat) (hJ:List Nat) (h':AHeap),cf 73 xs h=some (.int .i64 r.1,h')∧Has h' ((cW,.ob [.mp dp])::(dp,.mp (ov r.2.1))::(cX,.ob [af.fz x1])::(cD,.ob [.rs ly 0 r.2.2.nodes.length 4,.int .i64 r.2.2.root])::(ly,.sl r.2.2.nodes.length 4 (gd.l (bC r.2.2.nodes hJ)))::(dd,.ob [ai.fz x3.nodes,.int .i64 x3.root])::(cL,.ob [.fn 73 [.ptr cW 0,.ptr cX 0,.ptr cD 0,.ptr dd 0,.ptr cL 0]])::(fT r.2.2.nodes hJ++L))
section
variable {cf:CallF}{m:Nat}
theorem aY.dm (L:Mem)(cW:Nat)(dp:Nat)(cX:Nat)(cD:Nat)(dT:Nat)(en:List Nat)(dd:Nat)(cL:Nat)(i0:Int)(x0:List (Int × Int))(x1:List Int)(x2:br)(x3:br)(v2:aq)  {kk:Nat}(D1:L6 cf m kk)  : dS Try.prog cf xb m (sub [1,1,1,1,1,1,1,0,1,0,0] (b8 Try.f73)) (fun k (σ:(List Int) × Int × (List (Int × Int)) × br)=>aY.l0 m x1 x3 (aY.f m kk) v2 k σ.1 σ.2.1 σ.2.2.1 σ.2.2.2) (fun σ s=>match σ with | (dn,x6,x7,x8)=>∃dV eM vg h3,s=⟨sJ (.ptr cD 0 :: .any :: .ptr cL 0::sJ [.int .i64 (x2.nodes.length:Int),.any,.rs dV 0 dn.length 1,.any,.any,af.fz v2.args,.int .i64 (v2.args.length:Int),.int .i64 x6,.any]),[none,none],h3⟩∧Has h3 ((dV,.sl dn.length 1 (af.l dn))::(eM,.sl x8.nodes.length 4 (gd.l (bC x8.nodes vg)))::(cW,.ob [.mp dp])::(dp,.mp (ov x7))::(cX,.ob [af.fz x1])::(cD,.ob [.rs eM 0 x8.nodes.length 4,.int .i64 x8.root])::(dd,.ob [ai.fz x3.nodes,.int .i64 x3.root])::(cL,.ob [.fn 73 [.ptr cW 0,.ptr cX 0,.ptr cD 0,.ptr dd 0,.ptr cL 0]])::(fT x8.nodes vg++L))) (fun out e s=>(e = .exit 0∧∃dn x6 x7 x8,(dn,x6,x7,x8)=out∧∃KU D2 NK NL NM dV eM vg h3,s=⟨sJ (.ptr cD 0 :: .any::KU::sJ [.int .i64 (x2.nodes.length:Int),.any,.rs dV 0 dn.length 1,.any,.any,D2,NK,NL,NM]),[none,none],h3⟩∧Has h3 ((dV,.sl dn.length 1 (af.l dn))::(eM,.sl x8.nodes.length 4 (gd.l (bC x8.nodes vg)))::(cW,.ob [.mp dp])::(dp,.mp (ov x7))::(cX,.ob [af.fz x1])::(cD,.ob [.rs eM 0 x8.nodes.length 4,.int .i64 x8.root])::(dd,.ob [ai.fz x3.nodes,.int .i64 x3.root])::(cL,.ob [.fn 73 [.ptr cW 0,.ptr cX 0,.ptr cD 0,.ptr dd 0,.ptr cL 0]])::(fT x8.nodes vg++L)))):=by
 refine me (fun _=>rfl) ?_
 rintro k ⟨dn,x6,x7,x8⟩ s out ⟨dV,eM,vg,h3,rfl,o5⟩ H
 have H:aY.l0 m x1 x3 (aY.f m kk) v2 (k+1) dn x6 x7 x8=some out:=H
 refine q1 <| qq <| qc H (fun c1 H=>?_) (fun c1 H=>?_)
 ·refine qk <| qq <| qb 1 <| qq ?_
  obtain⟨v3,e7,H⟩:=bj H
  refine qr [.v 0 (eA (k:=.i64) (E:=af) (l:=v2.args) fU e7),.v 1 (fu  (E:=af) (l:=v2.args) h3 A3 e7 rfl)] ?_
  obtain⟨x9,e8,H⟩:=bj H
  obtain⟨cZ,IF,h4,e9,o6⟩:=D1 _ _ _ _ _ _ e8 h3 _ _ _ _ _ _ vg _ _ ((Has.w0 (pre:=[(cW,.ob [.mp dp]),(dp,.mp (ov x7)),(cX,.ob [af.fz x1]),(cD,.ob [.rs eM 0 x8.nodes.length 4,.int .i64 x8.root]),(eM,.sl x8.nodes.length 4 (gd.l (bC x8.nodes vg))),(dd,.ob [ai.fz x3.nodes,.int .i64 x3.root]),(cL,.ob [.fn 73 [.ptr cW 0,.ptr cX 0,.ptr cD 0,.ptr dd 0,.ptr cL 0]])]) (mid:=[(dV,.sl dn.length 1 (af.l dn))]) (Has.front (Has.front (Has.front (Has.front (Has.front (Has.front (Has.front (Has.front o5 0 rfl) 7 rfl) 7 rfl) 3 rfl) 7 rfl) 7 rfl) 7 rfl) 7 rfl)))  [.int .i64 v3,.ptr cW 0,.ptr cX 0,.ptr cD 0,.ptr dd 0,.ptr cL 0] (ar (aL (bh)) (ar (rfl) (ar (rfl) (ar (rfl) (ar (rfl) (ar (rfl) (bE)))))))
  have o7:=Has.w0 (pre:=[(cW,.ob [.mp dp]),(dp,.mp (ov x9.2.1)),(cX,.ob [af.fz x1]),(cD,.ob [.rs cZ 0 x9.2.2.nodes.length 4,.int .i64 x9.2.2.root]),(cZ,.sl x9.2.2.nodes.length 4 (gd.l (bC x9.2.2.nodes IF))),(dd,.ob [ai.fz x3.nodes,.int .i64 x3.root]),(cL,.ob [.fn 73 [.ptr cW 0,.ptr cX 0,.ptr cD 0,.ptr dd 0,.ptr cL 0]])]) (N:=[(dV,.sl dn.length 1 (af.l dn))]) (mid:=fT x9.2.2.nodes IF) o6
  obtain⟨kC,sY,H⟩:=bj H
  obtain⟨dZ,h5,tS,o8⟩:=iD (P:=Try.prog) (E:=af) (l:=dn) (q:=7) (t2:=33) (x:=.fz [.int .i64 x9.1] 1 true) (l2:=([x9.1])) fU o7 rfl (by kernel_rfl) rfl sY
  exact qr [.v 1 (show bm Try.prog h3 80 (.ptr cL 0)=some (.fn 73 [.ptr cW 0,.ptr cX 0,.ptr cD 0,.ptr dd 0,.ptr cL 0]) from bW (q:=7) (cs:=[.fn 73 [.ptr cW 0,.ptr cX 0,.ptr cD 0,.ptr dd 0,.ptr cL 0]]) o5 rfl (by kernel_rfl)),.a 3 e9,.a 5 tS] <| q0 <| ⟨(kC,i64.wrap (x6+(1:Int)),x9.2.1,x9.2.2),⟨dZ,cZ,IF,h5,by kernel_rfl,(Has.front (Has.front (Has.front (Has.front (Has.front (Has.front (Has.front (Has.front o8 6 rfl) 6 rfl) 5 rfl) 5 rfl) 5 rfl) 5 rfl) 6 rfl) 7 rfl)⟩,H⟩
 ·exact qx 0 <| ⟨rfl,dn,x6,x7,x8,oi H,.ptr cL 0,af.fz v2.args,.int .i64 (v2.args.length:Int),.int .i64 x6,.bool (decide (x6<(v2.args.length:Int))),dV,eM,vg,h3,by kernel_rfl,o5⟩
theorem oC {aV:FuncId→bX}(ha:aV 73=xb)  (i0:Int)(x0:List (Int × Int))(x1:List Int)(x2:br)(x3:br)(h:AHeap)(L:Mem)(cW:Nat)(dp:Nat)(cX:Nat)(cD:Nat)(dT:Nat)(en:List Nat)(dd:Nat)(cL:Nat)  {kk:Nat}(D1:L6 cf m kk)(o:Has h ((cW,.ob [.mp dp])::(dp,.mp (ov x0))::(cX,.ob [af.fz x1])::(cD,.ob [.rs dT 0 x2.nodes.length 4,.int .i64 x2.root])::(dT,.sl x2.nodes.length 4 (gd.l (bC x2.nodes en)))::(dd,.ob [ai.fz x3.nodes,.int .i64 x3.root])::(cL,.ob [.fn 73 [.ptr cW 0,.ptr cX 0,.ptr cD 0,.ptr dd 0,.ptr cL 0]])::(fT x2.nodes en++L))){out:Int × (List (Int × Int)) × br}(H:aY.f m (kk+1) i0 x0 x1 x2 x3=some out) :
  ∃r h',a7 Try.prog aV cf m 73 [.int .i64 i0,.ptr cW 0,.ptr cX 0,.ptr cD 0,.ptr dd 0,.ptr cL 0] h=some (r,h')∧∃(ly:Nat) (hJ:List Nat),r = .int .i64 out.1∧Has h' ((cW,.ob [.mp dp])::(dp,.mp (ov out.2.1))::(cX,.ob [af.fz x1])::(cD,.ob [.rs ly 0 out.2.2.nodes.length 4,.int .i64 out.2.2.root])::(ly,.sl out.2.2.nodes.length 4 (gd.l (bC out.2.2.nodes hJ)))::(dd,.ob [ai.fz x3.nodes,.int .i64 x3.root])::(cL,.ob [.fn 73 [.ptr cW 0,.ptr cX 0,.ptr cD 0,.ptr dd 0,.ptr cL 0]])::(fT out.2.2.nodes hJ++L)):=by
 refine au (fn:=Try.f73) ha Try.func73 (by kernel_rfl) (by kernel_rfl) ?_
 refine aH (Q:=fun s=>aY.fin L cW dp cX cD dT en dd cL i0 x0 x1 x2 x3 out s) (fun _ _ ⟨h1,ly,hJ,h2,h3⟩=>⟨h1,_,h2,ly,hJ,rfl,h3⟩) ?_
 have H:aY.b m (aY.f m kk) i0 x0 x1 x2 x3=some out:=H
 unfold aY.b at H
 show dj _ cf xb m _ ⟨.int .i64 i0 :: .ptr cW 0 :: .ptr cX 0 :: .ptr cD 0 :: .ptr dd 0 :: .ptr cL 0::u6 [],[none,none],h⟩ _
 refine q1 <| qq <| qq ?_
 obtain⟨v0,e0,H⟩:=bj H
 refine qr [.v 0 (show bm Try.prog h 82 (.ptr cW 0)=some (.mp dp) from bW (q:=0) (cs:=[.mp dp]) o rfl (by kernel_rfl)),.v 1 (show bm Try.prog h 33 (.ptr cX 0)=some (af.fz x1) from bW (q:=2) (cs:=[af.fz x1]) o rfl (by kernel_rfl)),.v 3 (eA (k:=.i64) (E:=af) (l:=x1) fU e0),.v 4 (fu  (E:=af) (l:=x1) h A3 e0 rfl),.v 5 (show fK Try.prog h 82 (.mp dp) (.int .i64 v0) true=some (.tup [.int .i64 ((wP x0 v0).1),.bool ((wP x0 v0).2)]) from (Nh (q:=1) (l:=x0) (k:=v0) KT o rfl).1)] <| qq <| q0 <| qc H (fun c0 H=>?_) (fun c0 H=>?_)
 ·obtain rfl:=oi H
  exact q1 <| qt <| ⟨.inl rfl,⟨dT,en,by kernel_rfl,he o⟩⟩
 ·refine qk <| qq <| qr [.v 1 (show bm Try.prog h 40 (.ptr cD 0)=some (.rs dT 0 x2.nodes.length 4) from bW (q:=3) (cs:=[.rs dT 0 x2.nodes.length 4,.int .i64 x2.root]) o rfl (by kernel_rfl))] <| qq ?_
  obtain⟨v1,e1,H⟩:=bj H
  obtain⟨h0,e2,o0⟩:=Ni (q:=1) (l:=x0) (k:=v1) (v:=(x2.nodes.length:Int)) KT o rfl
  refine qr [.v 0 (show bm Try.prog h 82 (.ptr cW 0)=some (.mp dp) from bW (q:=0) (cs:=[.mp dp]) o rfl (by kernel_rfl)),.v 1 (show bm Try.prog h 33 (.ptr cX 0)=some (af.fz x1) from bW (q:=2) (cs:=[af.fz x1]) o rfl (by kernel_rfl)),.v 3 (eA (k:=.i64) (E:=af) (l:=x1) fU e1),.v 4 (fu  (E:=af) (l:=x1) h A3 e1 rfl),.w 6 e2] <| qq ?_
  obtain⟨v2,e3,H⟩:=bj H
  refine qr [.v 1 (show bm Try.prog h0 40 (.ptr dd 0)=some (ai.fz x3.nodes) from bW (q:=5) (cs:=[ai.fz x3.nodes,.int .i64 x3.root]) o0 rfl (by kernel_rfl)),.v 3 (eA (k:=.i64) (E:=ai) (l:=x3.nodes) xS e3),.v 4 (ma  (E:=ai) (l:=x3.nodes) h0 Fz FA e3)] <| qq ?_
  have o1:Has h0 (((0),.sl (([]:List Int).length) 1 (af.l ([]:List Int)))::(cW,.ob [.mp dp])::(dp,.mp (ov (BQ x0 v1 (x2.nodes.length:Int))))::(cX,.ob [af.fz x1])::(cD,.ob [.rs dT 0 x2.nodes.length 4,.int .i64 x2.root])::(dT,.sl x2.nodes.length 4 (gd.l (bC x2.nodes en)))::(dd,.ob [ai.fz x3.nodes,.int .i64 x3.root])::(cL,.ob [.fn 73 [.ptr cW 0,.ptr cX 0,.ptr cD 0,.ptr dd 0,.ptr cL 0]])::(fT x2.nodes en++L)):=Has.nil o0 1
  obtain⟨x5,e4,H⟩:=bj H
  obtain⟨aJ,eG,h1,e5,o2⟩:=Ip (P:=Try.prog) (t2:=40) (pre:=[(cW,.ob [.mp dp]),(dp,.mp (ov (BQ x0 v1 (x2.nodes.length:Int)))),(cX,.ob [af.fz x1]),(cD,.ob [.rs dT 0 x2.nodes.length 4,.int .i64 x2.root]),(dd,.ob [ai.fz x3.nodes,.int .i64 x3.root]),(cL,.ob [.fn 73 [.ptr cW 0,.ptr cX 0,.ptr cD 0,.ptr dd 0,.ptr cL 0]])]) (ns:=x2.nodes) (ids:=en) (kind:=v2.kind) (int:=v2.int) (label:=v2.label) (args:=([]:List Int)) (x:=.fz [.int .i64 v2.kind,.int .i64 v2.int,.str v2.label,.rs (0) 0 (([]:List Int).length) 1] 1 true) xS (Has.front (Has.front (Has.front (Has.front (Has.front (Has.front (Has.front (Has.front o1 7 rfl) 7 rfl) 6 rfl) 6 rfl) 6 rfl) 6 rfl) 6 rfl) 7 rfl) (by kernel_rfl) rfl e4
  obtain⟨h2,e6,o3⟩:=ng (P:=Try.prog) (t:=40) (off:=0) (q:=4) (cs:=[.rs dT 0 x2.nodes.length 4,.int .i64 x2.root]) (eQ:=[.rs aJ 0 x5.length 4,.int .i64 x2.root]) (x:=.rs aJ 0 x5.length 4) o2 rfl (by kernel_rfl)
  refine qr [.v 1 (show bm Try.prog h0 40 (.ptr cD 0)=some (.rs dT 0 x2.nodes.length 4) from bW (q:=3) (cs:=[.rs dT 0 x2.nodes.length 4,.int .i64 x2.root]) o0 rfl (by kernel_rfl)),.a 10 e5,.w 12 e6] <| qq <| q0 ?_
  have o4:Has h2 ((((0)),.sl (([]:List Int).length) 1 (af.l ([]:List Int)))::(aJ,.sl x5.length 4 (gd.l (bC x5 eG)))::(cW,.ob [.mp dp])::(dp,.mp (ov (BQ x0 v1 (x2.nodes.length:Int))))::(cX,.ob [af.fz x1])::(cD,.ob [.rs aJ 0 x5.length 4,.int .i64 x2.root])::(dd,.ob [ai.fz x3.nodes,.int .i64 x3.root])::(cL,.ob [.fn 73 [.ptr cW 0,.ptr cX 0,.ptr cD 0,.ptr dd 0,.ptr cL 0]])::(fT x5 eG++L)):=Has.nil o3 1
  refine qq <| qq <| q0 <| qb 0 ?_
  obtain⟨bZ,vI,H⟩:=bj H
  refine ql (aY.dm L cW dp cX cD dT en dd cL i0 x0 x1 x2 x3 v2  D1  (([]:List Int),(0:Int),BQ x0 v1 (x2.nodes.length:Int),(br.mk x5 x2.root)) _ _ ⟨((0)),aJ,eG,h2,by kernel_rfl,o4⟩ vI) ?_
  rintro e s ⟨rfl,xc,yK,Ht,tR,rfl,g0,g1,g2,g3,g4,eS,j9,Gw,h6,rfl,o9⟩
  try dsimp only at H
  refine qq ?_
  obtain⟨v4,xT,H⟩:=bj H
  obtain⟨h7,Ad,xd⟩:=Gt (P:=Try.prog) (tf:=33) (pre:=[(cW,.ob [.mp dp]),(dp,.mp (ov Ht)),(cX,.ob [af.fz x1]),(cD,.ob [.rs j9 0 tR.nodes.length 4,.int .i64 tR.root]),(dd,.ob [ai.fz x3.nodes,.int .i64 x3.root]),(cL,.ob [.fn 73 [.ptr cW 0,.ptr cX 0,.ptr cD 0,.ptr dd 0,.ptr cL 0]])]) (args:=xc) (Has.front (Has.front (Has.front (Has.front (Has.front (Has.front (Has.front (Has.front o9 7 rfl) 7 rfl) 7 rfl) 7 rfl) 7 rfl) 7 rfl) 6 rfl) 7 rfl) Sn xT
  obtain rfl:=oi H
  exact qr [.v 1 (show bm Try.prog h6 40 (.ptr cD 0)=some (.rs j9 0 tR.nodes.length 4) from bW (q:=5) (cs:=[.rs j9 0 tR.nodes.length 4,.int .i64 tR.root]) o9 rfl (by kernel_rfl)),.v 4 (bo (k:=.i64) (E:=gd) (l:=(bC tR.nodes Gw)) (q:=1) xS o9 rfl (qX xT)),.w 6 Ad] <| qq <| q0 <| qt <| ⟨.inl rfl,⟨j9,(ve tR.nodes Gw (x2.nodes.length:Int) eS),by kernel_rfl,he (by have o:Has h7 ((cW,.ob [.mp dp])::(dp,.mp (ov Ht))::(cX,.ob [af.fz x1])::(cD,.ob [.rs j9 0 tR.nodes.length 4,.int .i64 tR.root])::(j9,.sl tR.nodes.length 4 (gd.l (bC (tR.nodes.set (x2.nodes.length:Int).toNat (aq.mk v4.kind v4.int v4.label xc)) (ve tR.nodes Gw (x2.nodes.length:Int) eS))))::(dd,.ob [ai.fz x3.nodes,.int .i64 x3.root])::(cL,.ob [.fn 73 [.ptr cW 0,.ptr cX 0,.ptr cD 0,.ptr dd 0,.ptr cL 0]])::(fT (tR.nodes.set (x2.nodes.length:Int).toNat (aq.mk v4.kind v4.int v4.label xc)) (ve tR.nodes Gw (x2.nodes.length:Int) eS)++L)):=(Has.front (Has.front (Has.front (Has.front (Has.front (Has.front (Has.front xd 6 rfl) 6 rfl) 2 rfl) 6 rfl) 6 rfl) 6 rfl) 6 rfl); simpa only [UF] using o)⟩⟩
end
end Go.Proofs.Ytifafejidnjckaa
namespace Go.Proofs.Ytifafejidnjckaa
open Go Go.R
open Go.IntKind (i64 u64 u8 u32)
def xe:bX:=gQ [0,1,4,5,7,8,9,16] [] [252,204,140,196,68,251,204,251] [] []
def cz.l0 (m:Nat)(s0:List Int)(f0:Int→Option (Bool)):Nat→Int→Option (Sum Int (Int))
 | 0,_=>none
 | k+1,x0=>if (decide (x0<(s0.length:Int)))=true then ((ix s0 x0).bind fun v0=>(f0 v0).bind fun r0=>if r0=true then (some (.inl x0)) else (cz.l0 m s0 f0 k (i64.wrap (x0+(1:Int))))) else (some (.inr x0))
def cz.f (m:Nat)(s0:List Int)(f0:Int→Option (Bool)):Option (Int):=(cz.l0 m s0 f0 m (0:Int)).bind fun bZ=>match bZ with | .inl r1=>some r1 | .inr x1=>some (-1:Int)
def cz.fin (L:Mem)(r:Int)(s:St):Prop:=∃av,aM Try.prog (s.open xe) Try.f75.results.toList=some av∧ff s.h av (.int .i64 r)
def NN (cf:CallF)(m:Nat):Prop:=∀(s0:List Int) (f0:Int→Option (Bool)) (r:Int),cz.f m s0 f0=some r→∀(eB:FuncId) (aP:List AV),(∀(h:AHeap) (xs:List AV) (a0:Int) r,f0 a0=some r→aO bO h xs ([.int .i64 a0]++aP)→cf eB xs h=some (.bool r,h))→(∀h,aO cw h aP aP)→∀h xs,aO bO h xs [af.fz s0,.fn eB aP]→cf 75 xs h=some (.int .i64 r,h)
section
variable {cf:CallF}{m:Nat}
theorem cz.dm (L:Mem)(eB:FuncId)(aP:List AV)(s0:List Int)(f0:Int→Option (Bool))  (gM:∀(h:AHeap) (xs:List AV) (a0:Int) r,f0 a0=some r→aO bO h xs ([.int .i64 a0]++aP)→cf eB xs h=some (.bool r,h))(gN:∀h,aO cw h aP aP)  : dS Try.prog cf xe m (sub [1,0,1,0,0] (b8 Try.f75)) (fun k (σ:Int)=>cz.l0 m s0 f0 k σ) (fun σ s=>match σ with | x0=>∃h0,s=⟨[af.fz s0,.fn eB aP,.any,.any,.int .i64 (s0.length:Int),.int .i64 x0,.any,.any],[],h0⟩∧Has h0 (L)) (fun out e s=>(e = .exit 0∧∃x0,.inr x0=out∧∃oz yI Gu BZ B0 h0,s=⟨[oz,yI,.any,.any,Gu,BZ,B0,.any],[],h0⟩∧Has h0 (L))∨(e = .ret∧∃r,.inl r=out∧cz.fin L r s)):=by
 refine me (fun _=>rfl) ?_
 rintro k x0 s out ⟨h0,rfl,o0⟩ H
 have H:cz.l0 m s0 f0 (k+1) x0=some out:=H
 refine q1 <| qq <| qc H (fun c0 H=>?_) (fun c0 H=>?_)
 ·refine qk <| qq <| qb 1 <| qq <| q0 <| qq ?_
  obtain⟨v0,e0,H⟩:=bj H
  obtain⟨r0,e1,H⟩:=bj H
  refine qr [.v 3 (eA (k:=.i64) (E:=af) (l:=s0) fU e0),.v 4 (fu  (E:=af) (l:=s0) h0 A3 e0 rfl),.a 5 (gM _ _ _ _ e1 (Hq (ah (bz) (ay)) (gN h0)))] <| qc H (fun c1 H=>?_) (fun c1 H=>?_)
  ·exact q1 <| qt <| Or.inr (⟨rfl,_,oi H,dy (.int .i64 x0) h0 (dw (dc))⟩)
  ·exact qk <| q0 <| ⟨i64.wrap (x0+(1:Int)),⟨h0,by kernel_rfl,o0⟩,H⟩
 ·exact qx 0 <| Or.inl (⟨rfl,x0,oi H,af.fz s0,.fn eB aP,.int .i64 (s0.length:Int),.int .i64 x0,.bool (decide (x0<(s0.length:Int))),h0,by kernel_rfl,o0⟩)
theorem vh {aV:FuncId→bX}(ha:aV 75=xe)  (s0:List Int)(f0:Int→Option (Bool))(h:AHeap)(L:Mem)(eB:FuncId)(aP:List AV)  (gM:∀(h:AHeap) (xs:List AV) (a0:Int) r,f0 a0=some r→aO bO h xs ([.int .i64 a0]++aP)→cf eB xs h=some (.bool r,h))(gN:∀h,aO cw h aP aP)(o:Has h (L)){out:Int}(H:cz.f m s0 f0=some out) :
  ∃r h',a7 Try.prog aV cf m 75 [af.fz s0,.fn eB aP] h=some (r,h')∧ff h' r (.int .i64 out):=by
 refine au (fn:=Try.f75) ha Try.func75 (by kernel_rfl) (by kernel_rfl) ?_
 refine aH (Q:=fun s=>cz.fin L out s) (fun _ _ h=>h) ?_
 have H:_=some out:=H
 unfold cz.f at H
 show dj _ cf xe m _ ⟨af.fz s0 :: .fn eB aP::wS [],[],h⟩ _
 refine q1 <| qq <| qq <| q0 <| qb 0 ?_
 obtain⟨bZ,e2,H⟩:=bj H
 refine ql (cz.dm L eB aP s0 f0  gM gN  (0:Int) _ _ ⟨h,by kernel_rfl,o⟩ e2) ?_
 rintro e s (⟨rfl,x1,rfl,g0,g1,g2,g3,g4,h1,rfl,o1⟩| ⟨rfl,r1,rfl,w7⟩)
 ·try dsimp only at H
  obtain rfl:=oi H
  exact q1 <| qt <| ⟨.inl rfl,dy (.int .i64 (-1:Int)) h1 (dw (dc))⟩
 ·try dsimp only at H
  obtain rfl:=oi H
  exact⟨.inl rfl,w7⟩
end
end Go.Proofs.Ytifafejidnjckaa
namespace Go.Proofs.Ytifafejidnjckaa
open Go Go.R
open Go.IntKind (i64 u64 u8 u32)
def xf:bX:=gQ [0,1,4,5,7,8,9,16] [] [252,204,140,196,68,251,204,251] [] []
def eK.l0 (m:Nat)(s0:List aq)(f0:aq→Option (Bool)):Nat→Int→Option (Sum Int (Int))
 | 0,_=>none
 | k+1,x0=>if (decide (x0<(s0.length:Int)))=true then ((ix s0 x0).bind fun v0=>(f0 v0).bind fun r0=>if r0=true then (some (.inl x0)) else (eK.l0 m s0 f0 k (i64.wrap (x0+(1:Int))))) else (some (.inr x0))
def eK.f (m:Nat)(s0:List aq)(f0:aq→Option (Bool)):Option (Int):=(eK.l0 m s0 f0 m (0:Int)).bind fun bZ=>match bZ with | .inl r1=>some r1 | .inr x1=>some (-1:Int)
def eK.fin (L:Mem)(r:Int)(s:St):Prop:=∃av,aM Try.prog (s.open xf) Try.f78.results.toList=some av∧ff s.h av (.int .i64 r)
def P8 (cf:CallF)(m:Nat):Prop:=∀(s0:List aq) (f0:aq→Option (Bool)) (r:Int),eK.f m s0 f0=some r→∀(eB:FuncId) (aP:List AV),(∀(h:AHeap) (xs:List AV) (a0:aq) r,f0 a0=some r→aO bO h xs ([.agg [.int .i64 a0.kind,.int .i64 a0.int,.str a0.label,af.fz a0.args]]++aP)→cf eB xs h=some (.bool r,h))→(∀h,aO cw h aP aP)→∀h xs,aO bO h xs [ai.fz s0,.fn eB aP]→cf 78 xs h=some (.int .i64 r,h)
section
variable {cf:CallF}{m:Nat}
theorem eK.dm (L:Mem)(eB:FuncId)(aP:List AV)(s0:List aq)(f0:aq→Option (Bool))  (gM:∀(h:AHeap) (xs:List AV) (a0:aq) r,f0 a0=some r→aO bO h xs ([.agg [.int .i64 a0.kind,.int .i64 a0.int,.str a0.label,af.fz a0.args]]++aP)→cf eB xs h=some (.bool r,h))(gN:∀h,aO cw h aP aP)  : dS Try.prog cf xf m (sub [1,0,1,0,0] (b8 Try.f78)) (fun k (σ:Int)=>eK.l0 m s0 f0 k σ) (fun σ s=>match σ with | x0=>∃h0,s=⟨[ai.fz s0,.fn eB aP,.any,.any,.int .i64 (s0.length:Int),.int .i64 x0,.any,.any],[],h0⟩∧Has h0 (L)) (fun out e s=>(e = .exit 0∧∃x0,.inr x0=out∧∃oz yI Gu BZ B0 h0,s=⟨[oz,yI,.any,.any,Gu,BZ,B0,.any],[],h0⟩∧Has h0 (L))∨(e = .ret∧∃r,.inl r=out∧eK.fin L r s)):=by
 refine me (fun _=>rfl) ?_
 rintro k x0 s out ⟨h0,rfl,o0⟩ H
 have H:eK.l0 m s0 f0 (k+1) x0=some out:=H
 refine q1 <| qq <| qc H (fun c0 H=>?_) (fun c0 H=>?_)
 ·refine qk <| qq <| qb 1 <| qq <| q0 <| qq ?_
  obtain⟨v0,e0,H⟩:=bj H
  obtain⟨r0,e1,H⟩:=bj H
  refine qr [.v 3 (eA (k:=.i64) (E:=ai) (l:=s0) xS e0),.v 4 (ma  (E:=ai) (l:=s0) h0 Fz FA e0),.a 5 (gM _ _ _ _ e1 (Hq (ah (jG (ah (bz) (ah (bz) (ah (cN) (ah (fy (E:=af)) (ay)))))) (ay)) (gN h0)))] <| qc H (fun c1 H=>?_) (fun c1 H=>?_)
  ·exact q1 <| qt <| Or.inr (⟨rfl,_,oi H,dy (.int .i64 x0) h0 (dw (dc))⟩)
  ·exact qk <| q0 <| ⟨i64.wrap (x0+(1:Int)),⟨h0,by kernel_rfl,o0⟩,H⟩
 ·exact qx 0 <| Or.inl (⟨rfl,x0,oi H,ai.fz s0,.fn eB aP,.int .i64 (s0.length:Int),.int .i64 x0,.bool (decide (x0<(s0.length:Int))),h0,by kernel_rfl,o0⟩)
theorem vi {aV:FuncId→bX}(ha:aV 78=xf)  (s0:List aq)(f0:aq→Option (Bool))(h:AHeap)(L:Mem)(eB:FuncId)(aP:List AV)  (gM:∀(h:AHeap) (xs:List AV) (a0:aq) r,f0 a0=some r→aO bO h xs ([.agg [.int .i64 a0.kind,.int .i64 a0.int,.str a0.label,af.fz a0.args]]++aP)→cf eB xs h=some (.bool r,h))(gN:∀h,aO cw h aP aP)(o:Has h (L)){out:Int}(H:eK.f m s0 f0=some out) :
  ∃r h',a7 Try.prog aV cf m 78 [ai.fz s0,.fn eB aP] h=some (r,h')∧ff h' r (.int .i64 out):=by
 refine au (fn:=Try.f78) ha Try.func78 (by kernel_rfl) (by kernel_rfl) ?_
 refine aH (Q:=fun s=>eK.fin L out s) (fun _ _ h=>h) ?_
 have H:_=some out:=H
 unfold eK.f at H
 show dj _ cf xf m _ ⟨ai.fz s0 :: .fn eB aP::wS [],[],h⟩ _
 refine q1 <| qq <| qq <| q0 <| qb 0 ?_
 obtain⟨bZ,e2,H⟩:=bj H
 refine ql (eK.dm L eB aP s0 f0  gM gN  (0:Int) _ _ ⟨h,by kernel_rfl,o⟩ e2) ?_
 rintro e s (⟨rfl,x1,rfl,g0,g1,g2,g3,g4,h1,rfl,o1⟩| ⟨rfl,r1,rfl,w7⟩)
 ·try dsimp only at H
  obtain rfl:=oi H
  exact q1 <| qt <| ⟨.inl rfl,dy (.int .i64 (-1:Int)) h1 (dw (dc))⟩
 ·try dsimp only at H
  obtain rfl:=oi H
  exact⟨.inl rfl,w7⟩
end
end Go.Proofs.Ytifafejidnjckaa
namespace Go.Proofs.Ytifafejidnjckaa
open Go Go.R
open Go.IntKind (i64 u64 u8 u32)
def Ae:bX:=gQ [0,1,3] [] [4,3] [] []
def gD.f (m:Nat)(a0:Int)(x0:Int):Option (Bool):=if (decide (a0<(0:Int)))=true then (some true) else (some (decide (a0≥x0)))
def gD.fin (L:Mem)(r:Bool)(s:St):Prop:=∃av,aM Try.prog (s.open Ae) Try.f79.results.toList=some av∧ff s.h av (.bool r)
def P9 (cf:CallF)(m:Nat):Prop:=∀(a0:Int) (x0:Int) (r:Bool),gD.f m a0 x0=some r→∀h xs,aO bO h xs [.int .i64 a0,.fp [.int .i64 x0] 0]→cf 79 xs h=some (.bool r,h)
section
variable {cf:CallF}{m:Nat}
theorem pw {aV:FuncId→bX}(ha:aV 79=Ae)  (a0:Int)(x0:Int)(h:AHeap)(L:Mem)  (o:Has h (L)){out:Bool}(H:gD.f m a0 x0=some out) :
  ∃r h',a7 Try.prog aV cf m 79 [.int .i64 a0,.fp [.int .i64 x0] 0] h=some (r,h')∧ff h' r (.bool out):=by
 refine au (fn:=Try.f79) ha Try.func79 (by kernel_rfl) (by kernel_rfl) ?_
 refine aH (Q:=fun s=>gD.fin L out s) (fun _ _ h=>h) ?_
 have H:_=some out:=H
 unfold gD.f at H
 show dj _ cf Ae m _ ⟨[.int .i64 a0,.fp [.int .i64 x0] 0,.any],[],h⟩ _
 refine q1 <| qq ?_
 rcases iG H with⟨c0,H⟩| ⟨c0,H⟩
 ·obtain rfl:=oi H
  exact qr [.b 2 c0] <| qt <| ⟨.inl rfl,dy (.bool true) h (dw (aD))⟩
 ·obtain rfl:=oi H
  exact qr [.b 2 c0] <| qt <| ⟨.inl rfl,dy (.bool (decide (a0≥x0))) h (dw (aD))⟩
end
end Go.Proofs.Ytifafejidnjckaa
namespace Go.Proofs.Ytifafejidnjckaa
open Go Go.R
open Go.IntKind (i64 u64 u8 u32)
def xg:bX:=gQ [0,2,3,5,6,7,8,9,14] [] [510,506,395,267,387,131,509,395,509] [] []
def b5.l0 (m:Nat)(gi:List Int):Nat→Int→Option (Sum Int (Int))
 | 0,_=>none
 | k+1,x0=>if (decide (x0<(gi.length:Int)))=true then ((ix gi x0).bind fun v0=>if (!(v0==(0:Int)))=true then (some (.inl v0)) else (b5.l0 m gi k (i64.wrap (x0+(1:Int))))) else (some (.inr x0))
def b5.f (m:Nat)(gi:List Int):Option (Int):=(b5.l0 m gi m (0:Int)).bind fun bZ=>match bZ with | .inl r0=>some r0 | .inr x1=>some (0:Int)
def b5.fin (L:Mem)(r:Int)(s:St):Prop:=∃av,aM Try.prog (s.open xg) Try.f81.results.toList=some av∧ff s.h av (.int .i64 r)
def Qa (cf:CallF)(m:Nat):Prop:=∀(gi:List Int) (r:Int),b5.f m gi=some r→∀h xs,aO bO h xs [af.fz gi]→cf 81 xs h=some (.int .i64 r,h)
section
variable {cf:CallF}{m:Nat}
theorem b5.dm (L:Mem)(gi:List Int)   : dS Try.prog cf xg m (sub [1,1,0,1,0,0] (b8 Try.f81)) (fun k (σ:Int)=>b5.l0 m gi k σ) (fun σ s=>match σ with | x0=>∃h0,s=⟨[.any,.any,.int .i64 (0:Int),.any,af.fz gi,.int .i64 (gi.length:Int),.int .i64 x0,.any,.any],[],h0⟩∧Has h0 (L)) (fun out e s=>(e = .exit 0∧∃x0,.inr x0=out∧∃Gv Gu BZ B0 h0,s=⟨[.any,.any,.int .i64 (0:Int),.any,Gv,Gu,BZ,B0,.any],[],h0⟩∧Has h0 (L))∨(e = .ret∧∃r,.inl r=out∧b5.fin L r s)):=by
 refine me (fun _=>rfl) ?_
 rintro k x0 s out ⟨h0,rfl,o0⟩ H
 have H:b5.l0 m gi (k+1) x0=some out:=H
 refine q1 <| qq <| qc H (fun c0 H=>?_) (fun c0 H=>?_)
 ·refine qk <| qq <| qb 1 <| qq ?_
  obtain⟨v0,e0,H⟩:=bj H
  refine qr [.v 0 (eA (k:=.i64) (E:=af) (l:=gi) fU e0),.v 1 (fu  (E:=af) (l:=gi) h0 A3 e0 rfl)] <| qq <| q0 <| qc H (fun c1 H=>?_) (fun c1 H=>?_)
  ·exact q1 <| qt <| Or.inr (⟨rfl,_,oi H,dy (.int .i64 v0) h0 (dw (dc))⟩)
  ·exact qk <| q0 <| ⟨i64.wrap (x0+(1:Int)),⟨h0,by kernel_rfl,o0⟩,H⟩
 ·exact qx 0 <| Or.inl (⟨rfl,x0,oi H,af.fz gi,.int .i64 (gi.length:Int),.int .i64 x0,.bool (decide (x0<(gi.length:Int))),h0,by kernel_rfl,o0⟩)
theorem qw {aV:FuncId→bX}(ha:aV 81=xg)  (gi:List Int)(h:AHeap)(L:Mem)  (o:Has h (L)){out:Int}(H:b5.f m gi=some out) :
  ∃r h',a7 Try.prog aV cf m 81 [af.fz gi] h=some (r,h')∧ff h' r (.int .i64 out):=by
 refine au (fn:=Try.f81) ha Try.func81 (by kernel_rfl) (by kernel_rfl) ?_
 refine aH (Q:=fun s=>b5.fin L out s) (fun _ _ h=>h) ?_
 have H:_=some out:=H
 unfold b5.f at H
 show dj _ cf xg m _ ⟨af.fz gi::BS [],[],h⟩ _
 refine q1 <| qq <| q0 <| qq <| qq <| q0 <| qb 0 ?_
 obtain⟨bZ,e1,H⟩:=bj H
 refine ql (b5.dm L gi   (0:Int) _ _ ⟨h,by kernel_rfl,o⟩ e1) ?_
 rintro e s (⟨rfl,x1,rfl,g0,g1,g2,g3,h1,rfl,o1⟩| ⟨rfl,r0,rfl,w7⟩)
 ·try dsimp only at H
  obtain rfl:=oi H
  exact q1 <| qt <| ⟨.inl rfl,dy (.int .i64 (0:Int)) h1 (dw (dc))⟩
 ·try dsimp only at H
  obtain rfl:=oi H
  exact⟨.inl rfl,w7⟩
end
end Go.Proofs.Ytifafejidnjckaa
namespace Go.Proofs.Ytifafejidnjckaa
open Go Go.R
open Go.IntKind (i64 u64 u8 u32)
def Af:bX:=gQ [0,2] [] [2,1] [] []
def fH.f (m:Nat)(c0:Int):Option (Bool):=if (decide (c0≥(97:Int)))=true then (if (decide (c0≤(122:Int)))=true then (some true) else (if (decide (c0≥(65:Int)))=true then (if (decide (c0≤(90:Int)))=true then (some true) else (if (decide (c0≥(48:Int)))=true then (if (decide (c0≤(57:Int)))=true then (some true) else (some (c0==(95:Int)))) else (some (c0==(95:Int))))) else (if (decide (c0≥(48:Int)))=true then (if (decide (c0≤(57:Int)))=true then (some true) else (some (c0==(95:Int)))) else (some (c0==(95:Int)))))) else (if (decide (c0≥(65:Int)))=true then (if (decide (c0≤(90:Int)))=true then (some true) else (if (decide (c0≥(48:Int)))=true then (if (decide (c0≤(57:Int)))=true then (some true) else (some (c0==(95:Int)))) else (some (c0==(95:Int))))) else (if (decide (c0≥(48:Int)))=true then (if (decide (c0≤(57:Int)))=true then (some true) else (some (c0==(95:Int)))) else (some (c0==(95:Int)))))
def fH.fin (L:Mem)(r:Bool)(s:St):Prop:=∃av,aM Try.prog (s.open Af) Try.f85.results.toList=some av∧ff s.h av (.bool r)
def NO (cf:CallF)(m:Nat):Prop:=∀(c0:Int) (r:Bool),fH.f m c0=some r→∀h xs,aO bO h xs [.int .u8 c0]→cf 85 xs h=some (.bool r,h)
section
variable {cf:CallF}{m:Nat}
theorem px {aV:FuncId→bX}(ha:aV 85=Af)  (c0:Int)(h:AHeap)(L:Mem)  (o:Has h (L)){out:Bool}(H:fH.f m c0=some out) :
  ∃r h',a7 Try.prog aV cf m 85 [.int .u8 c0] h=some (r,h')∧ff h' r (.bool out):=by
 refine au (fn:=Try.f85) ha Try.func85 (by kernel_rfl) (by kernel_rfl) ?_
 refine aH (Q:=fun s=>fH.fin L out s) (fun _ _ h=>h) ?_
 have H:_=some out:=H
 unfold fH.f at H
 show dj _ cf Af m _ ⟨[.int .u8 c0,.any],[],h⟩ _
 refine q1 <| qq ?_
 rcases iG H with⟨c1,H⟩| ⟨c1,H⟩
 ·rcases iG H with⟨c2,H⟩| ⟨c2,H⟩
  ·obtain rfl:=oi H
   exact qr [.b 2 c1,.b 6 c2] <| qt <| ⟨.inl rfl,dy (.bool true) h (dw (aD))⟩
  ·rcases iG H with⟨c3,H⟩| ⟨c3,H⟩
   ·rcases iG H with⟨c4,H⟩| ⟨c4,H⟩
    ·obtain rfl:=oi H
     exact qr [.b 2 c1,.b 6 c2,.b 9 c3,.b 14 c4] <| qt <| ⟨.inl rfl,dy (.bool true) h (dw (aD))⟩
    ·rcases iG H with⟨c5,H⟩| ⟨c5,H⟩
     ·rcases iG H with⟨c6,H⟩| ⟨c6,H⟩
      ·obtain rfl:=oi H
       exact qr [.b 2 c1,.b 6 c2,.b 9 c3,.b 14 c4,.b 17 c5,.b 22 c6] <| qt <| ⟨.inl rfl,dy (.bool true) h (dw (aD))⟩
      ·obtain rfl:=oi H
       exact qr [.b 2 c1,.b 6 c2,.b 9 c3,.b 14 c4,.b 17 c5,.b 22 c6] <| qt <| ⟨.inl rfl,dy (.bool (c0==(95:Int))) h (dw (aD))⟩
     ·obtain rfl:=oi H
      exact qr [.b 2 c1,.b 6 c2,.b 9 c3,.b 14 c4,.b 17 c5] <| qt <| ⟨.inl rfl,dy (.bool (c0==(95:Int))) h (dw (aD))⟩
   ·rcases iG H with⟨c7,H⟩| ⟨c7,H⟩
    ·rcases iG H with⟨c8,H⟩| ⟨c8,H⟩
     ·obtain rfl:=oi H
      exact qr [.b 2 c1,.b 6 c2,.b 9 c3,.b 17 c7,.b 22 c8] <| qt <| ⟨.inl rfl,dy (.bool true) h (dw (aD))⟩
     ·obtain rfl:=oi H
      exact qr [.b 2 c1,.b 6 c2,.b 9 c3,.b 17 c7,.b 22 c8] <| qt <| ⟨.inl rfl,dy (.bool (c0==(95:Int))) h (dw (aD))⟩
    ·obtain rfl:=oi H
     exact qr [.b 2 c1,.b 6 c2,.b 9 c3,.b 17 c7] <| qt <| ⟨.inl rfl,dy (.bool (c0==(95:Int))) h (dw (aD))⟩
 ·rcases iG H with⟨c9,H⟩| ⟨c9,H⟩
  ·rcases iG H with⟨Gx,H⟩| ⟨Gx,H⟩
   ·obtain rfl:=oi H
    exact qr [.b 2 c1,.b 9 c9,.b 14 Gx] <| qt <| ⟨.inl rfl,dy (.bool true) h (dw (aD))⟩
   ·rcases iG H with⟨yL,H⟩| ⟨yL,H⟩
    ·rcases iG H with⟨D3,H⟩| ⟨D3,H⟩
     ·obtain rfl:=oi H
      exact qr [.b 2 c1,.b 9 c9,.b 14 Gx,.b 17 yL,.b 22 D3] <| qt <| ⟨.inl rfl,dy (.bool true) h (dw (aD))⟩
     ·obtain rfl:=oi H
      exact qr [.b 2 c1,.b 9 c9,.b 14 Gx,.b 17 yL,.b 22 D3] <| qt <| ⟨.inl rfl,dy (.bool (c0==(95:Int))) h (dw (aD))⟩
    ·obtain rfl:=oi H
     exact qr [.b 2 c1,.b 9 c9,.b 14 Gx,.b 17 yL] <| qt <| ⟨.inl rfl,dy (.bool (c0==(95:Int))) h (dw (aD))⟩
  ·rcases iG H with⟨Gy,H⟩| ⟨Gy,H⟩
   ·rcases iG H with⟨D4,H⟩| ⟨D4,H⟩
    ·obtain rfl:=oi H
     exact qr [.b 2 c1,.b 9 c9,.b 17 Gy,.b 22 D4] <| qt <| ⟨.inl rfl,dy (.bool true) h (dw (aD))⟩
    ·obtain rfl:=oi H
     exact qr [.b 2 c1,.b 9 c9,.b 17 Gy,.b 22 D4] <| qt <| ⟨.inl rfl,dy (.bool (c0==(95:Int))) h (dw (aD))⟩
   ·obtain rfl:=oi H
    exact qr [.b 2 c1,.b 9 c9,.b 17 Gy] <| qt <| ⟨.inl rfl,dy (.bool (c0==(95:Int))) h (dw (aD))⟩
end
end Go.Proofs.Ytifafejidnjckaa
namespace Go.Proofs.Ytifafejidnjckaa
open Go Go.R
open Go.IntKind (i64 u64 u8 u32)
end Go.Proofs.Ytifafejidnjckaa
namespace Go.Proofs.Ytifafejidnjckaa
open Go Go.R
open Go.IntKind (i64 u64 u8 u32)
end Go.Proofs.Ytifafejidnjckaa
namespace Go.Proofs.Ytifafejidnjckaa
open Go Go.R
open Go.IntKind (i64 u64 u8 u32)
end Go.Proofs.Ytifafejidnjckaa
namespace Go.Proofs.Ytifafejidnjckaa
open Go Go.R
open Go.IntKind (i64 u64 u8 u32)
def Ag:bX:=gQ [0,2] [] [2,1] [] []
def cmp_isNaN_int.f (m:Nat)(x0:Int):Option (Bool):=some (!(x0==x0))
def cmp_isNaN_int.fin (L:Mem)(r:Bool)(s:St):Prop:=∃av,aM Try.prog (s.open Ag) Try.f97.results.toList=some av∧ff s.h av (.bool r)
def Qb (cf:CallF)(m:Nat):Prop:=∀(x0:Int) (r:Bool),cmp_isNaN_int.f m x0=some r→∀h xs,aO bO h xs [.int .i64 x0]→cf 97 xs h=some (.bool r,h)
section
variable {cf:CallF}{m:Nat}
theorem nF {aV:FuncId→bX}(ha:aV 97=Ag)  (x0:Int)(h:AHeap)(L:Mem)  (o:Has h (L)){out:Bool}(H:cmp_isNaN_int.f m x0=some out) :
  ∃r h',a7 Try.prog aV cf m 97 [.int .i64 x0] h=some (r,h')∧ff h' r (.bool out):=by
 refine au (fn:=Try.f97) ha Try.func97 (by kernel_rfl) (by kernel_rfl) ?_
 refine aH (Q:=fun s=>cmp_isNaN_int.fin L out s) (fun _ _ h=>h) ?_
 have H:_=some out:=H
 unfold cmp_isNaN_int.f at H
 show dj _ cf Ag m _ ⟨[.int .i64 x0,.any],[],h⟩ _
 obtain rfl:=oi H
 exact q1 <| qq <| q0 <| qt <| ⟨.inl rfl,dy (.bool (!(x0==x0))) h (dw (aD))⟩
end
end Go.Proofs.Ytifafejidnjckaa
namespace Go.Proofs.Ytifafejidnjckaa
open Go Go.R
open Go.IntKind (i64 u64 u8 u32)
def Ah:bX:=gQ [0,2] [] [2,1] [] []
def cmp_isNaN_string.f (m:Nat)(x0:ByteArray):Option (Bool):=some (!(x0.data.toList==x0.data.toList))
def cmp_isNaN_string.fin (L:Mem)(r:Bool)(s:St):Prop:=∃av,aM Try.prog (s.open Ah) Try.f98.results.toList=some av∧ff s.h av (.bool r)
def Qc (cf:CallF)(m:Nat):Prop:=∀(x0:ByteArray) (r:Bool),cmp_isNaN_string.f m x0=some r→∀h xs,aO bO h xs [.str x0]→cf 98 xs h=some (.bool r,h)
section
variable {cf:CallF}{m:Nat}
theorem lG {aV:FuncId→bX}(ha:aV 98=Ah)  (x0:ByteArray)(h:AHeap)(L:Mem)  (o:Has h (L)){out:Bool}(H:cmp_isNaN_string.f m x0=some out) :
  ∃r h',a7 Try.prog aV cf m 98 [.str x0] h=some (r,h')∧ff h' r (.bool out):=by
 refine au (fn:=Try.f98) ha Try.func98 (by kernel_rfl) (by kernel_rfl) ?_
 refine aH (Q:=fun s=>cmp_isNaN_string.fin L out s) (fun _ _ h=>h) ?_
 have H:_=some out:=H
 unfold cmp_isNaN_string.f at H
 show dj _ cf Ah m _ ⟨[.str x0,.any],[],h⟩ _
 obtain rfl:=oi H
 exact q1 <| qq <| q0 <| qt <| ⟨.inl rfl,dy (.bool (!(x0.data.toList==x0.data.toList))) h (dw (aD))⟩
end
end Go.Proofs.Ytifafejidnjckaa
namespace Go.Proofs.Ytifafejidnjckaa
open Go Go.R
open Go.IntKind (i64 u64 u8 u32)
end Go.Proofs.Ytifafejidnjckaa
namespace Go.Proofs.Ytifafejidnjckaa
open Go Go.R
open Go.IntKind (i64 u64 u8 u32)
def py:bX:=gQ [0,1,2,3,8,9,14,34] [] [224,160,224,192,64,192,192] [] []
def aT.l1 (m:Nat)(a0:Int)(aQ:Int→Int→Option (Int)):Nat→(List Int)→Int→Option ((List Int) × Int)
 | 0,_,_=>none
 | k+1,cY,j0=>if (decide (j0 > a0))=true then ((ix cY j0).bind fun v0=>(ix cY (i64.wrap (j0 - (1:Int)))).bind fun v1=>(aQ v0 v1).bind fun r0=>if (decide (r0<(0:Int)))=true then ((ix cY (i64.wrap (j0 - (1:Int)))).bind fun v2=>(ix cY j0).bind fun v3=>(ix cY j0).bind fun v4=>(ix (cY.set j0.toNat v2) (i64.wrap (j0 - (1:Int)))).bind fun v5=>aT.l1 m a0 aQ k ((cY.set j0.toNat v2).set (i64.wrap (j0 - (1:Int))).toNat v3) (i64.wrap (j0 - (1:Int)))) else (some ((cY,j0)))) else (some ((cY,j0)))
def aT.l0 (m:Nat)(a0:Int)(b0:Int)(aQ:Int→Int→Option (Int)):Nat→(List Int)→Int→Option ((List Int) × Int)
 | 0,_,_=>none
 | k+1,bl,i0=>if (decide (i0<b0))=true then ((aT.l1 m a0 aQ m bl i0).bind fun bZ=>match bZ with | (dE,j1)=>aT.l0 m a0 b0 aQ k dE (i64.wrap (i0+(1:Int)))) else (some ((bl,i0)))
def aT.f (m:Nat)(aw:List Int)(a0:Int)(b0:Int)(aQ:Int→Int→Option (Int)):Option ((List Int)):=(aT.l0 m a0 b0 aQ m aw (i64.wrap (a0+(1:Int)))).bind fun dq=>match dq with | (jh,i1)=>some jh
def aT.fin (L:Mem)(aJ:Nat)(aw:List Int)(a0:Int)(b0:Int)(aQ:Int→Int→Option (Int))(r:(List Int))(s:St):Prop:=aM Try.prog (s.open py) Try.f105.results.toList=some (.tup [])∧Has s.h ((aJ,.sl aw.length 1 (af.l r))::L)
def IG (cf:CallF)(m:Nat):Prop:=∀(aw:List Int) (a0:Int) (b0:Int) (aQ:Int→Int→Option (Int)) (r:(List Int)),aT.f m aw a0 b0 aQ=some r→∀h L (cg:Nat) (aJ:Nat),Has h ((aJ,.sl cg 1 (af.l aw))::L)→∀(p8:FuncId) (fI eH:List AV),(aK (.fn p8 fI) = .fn p8 fI)→(∀(h:AHeap) (xs:List AV) (a0:Int) (a1:Int) r,aQ a0 a1=some r→aO bO h xs ([.int .i64 a0,.int .i64 a1]++eH)→cf p8 xs h=some (.int .i64 r,h))→(∀h K,Has h (K++(L))→aO cw h fI eH)→(∀h,aO cw h eH eH)→∀xs,xs.map aK=[.rs aJ 0 cg 1,.int .i64 a0,.int .i64 b0,.fn p8 fI]→∃h',cf 105 xs h=some (.tup [],h')∧Has h' ((aJ,.sl cg 1 (af.l r))::L)
section
variable {cf:CallF}{m:Nat}
theorem aT.mj (L:Mem)(aJ:Nat)(p8:FuncId)(fI eH:List AV)(aw:List Int)(a0:Int)(b0:Int)(aQ:Int→Int→Option (Int))(i0:Int)  (B1:aK (.fn p8 fI) = .fn p8 fI)(yM:∀(h:AHeap) (xs:List AV) (a0:Int) (a1:Int) r,aQ a0 a1=some r→aO bO h xs ([.int .i64 a0,.int .i64 a1]++eH)→cf p8 xs h=some (.int .i64 r,h))(yN:∀h K,Has h (K++(L))→aO cw h fI eH)(B2:∀h,aO cw h eH eH)  : dS Try.prog cf py m (sub [1,0,0,1,0,0,1,0,0] (b8 Try.f105)) (fun k (σ:(List Int) × Int)=>aT.l1 m a0 aQ k σ.1 σ.2) (fun σ s=>match σ with | (cY,j0)=>∃h1,s=⟨[.rs aJ 0 aw.length 1,.int .i64 a0,.int .i64 b0,.fn p8 fI,.int .i64 i0,.int .i64 j0,.any,.any],[],h1⟩∧Has h1 ((aJ,.sl aw.length 1 (af.l cY))::L)) (fun out e s=>(e = .exit 2∧∃cY j0,(cY,j0)=out∧∃B0 NP h1,s=⟨[.rs aJ 0 aw.length 1,.int .i64 a0,.int .i64 b0,.fn p8 fI,.int .i64 i0,B0,.any,NP],[],h1⟩∧Has h1 ((aJ,.sl aw.length 1 (af.l cY))::L))):=by
 refine me (fun _=>rfl) ?_
 rintro k ⟨cY,j0⟩ s out ⟨h1,rfl,o1⟩ H
 have H:aT.l1 m a0 aQ (k+1) cY j0=some out:=H
 refine qq <| qq ?_
 rcases iG H with⟨c1,H⟩| ⟨c1,H⟩
 ·obtain⟨v0,e0,H⟩:=bj H
  obtain⟨v1,e1,H⟩:=bj H
  obtain⟨r0,e2,H⟩:=bj H
  refine qr [.b 3 c1,.v 7 (bo (k:=.i64) (E:=af) (l:=cY) (q:=0) fU o1 rfl e0),.v 8 (dB  (E:=af) (l:=cY) (q:=0) o1 rfl A3 e0 rfl),.v 12 (bo (k:=.i64) (E:=af) (l:=cY) (q:=0) fU o1 rfl e1),.v 13 (dB  (E:=af) (l:=cY) (q:=0) o1 rfl A3 e1 rfl),.a 14 (yM _ _ _ _ _ e2 (Hq (ah (bz) (ah (bz) (ay))) (yN h1 [(aJ,.sl aw.length 1 (af.l cY))] o1)))] <| qc H (fun c2 H=>?_) (fun c2 H=>?_)
  ·refine qk <| qq <| qb 3 ?_
   obtain⟨v2,e3,H⟩:=bj H
   obtain⟨v3,e4,H⟩:=bj H
   obtain⟨v4,e5,H⟩:=bj H
   obtain⟨h2,e6,o2⟩:=fw (P:=Try.prog) (tf:=3) (E:=af) (l:=cY) (q:=0) (v:=v2) (x:=.int .i64 v2) o1 rfl Z3 e5 rfl rfl
   obtain⟨v5,e7,H⟩:=bj H
   obtain⟨h3,e8,o3⟩:=fw (P:=Try.prog) (tf:=3) (E:=af) (l:=(cY.set j0.toNat v2)) (q:=0) (v:=v3) (x:=.int .i64 v3) o2 rfl Z3 e7 rfl rfl
   exact qr [.v 8 (bo (k:=.i64) (E:=af) (l:=cY) (q:=0) fU o1 rfl e3),.v 9 (dB  (E:=af) (l:=cY) (q:=0) o1 rfl A3 e3 rfl),.v 12 (bo (k:=.i64) (E:=af) (l:=cY) (q:=0) fU o1 rfl e4),.v 13 (dB  (E:=af) (l:=cY) (q:=0) o1 rfl A3 e4 rfl),.v 14 (bo (k:=.i64) (E:=af) (l:=cY) (q:=0) fU o1 rfl e5),.w 15 e6,.v 16 (bo (k:=.i64) (E:=af) (l:=(cY.set j0.toNat v2)) (q:=0) fU o2 rfl e7),.w 17 e8] <| q0 <| ⟨((cY.set j0.toNat v2).set (i64.wrap (j0 - (1:Int))).toNat v3,i64.wrap (j0 - (1:Int))),⟨h3,by kernel_rfl,o3⟩,H⟩
  ·exact qx 2 <| ⟨rfl,cY,j0,oi H,.int .i64 j0,.bool (decide (r0<(0:Int))),h1,by kernel_rfl,o1⟩
 ·exact qr [.b 3 c1] <| DJ <| qx 2 <| ⟨rfl,cY,j0,oi H,.int .i64 j0,.bool false,h1,by kernel_rfl,o1⟩
theorem aT.dm (L:Mem)(aJ:Nat)(p8:FuncId)(fI eH:List AV)(aw:List Int)(a0:Int)(b0:Int)(aQ:Int→Int→Option (Int))  (B1:aK (.fn p8 fI) = .fn p8 fI)(yM:∀(h:AHeap) (xs:List AV) (a0:Int) (a1:Int) r,aQ a0 a1=some r→aO bO h xs ([.int .i64 a0,.int .i64 a1]++eH)→cf p8 xs h=some (.int .i64 r,h))(yN:∀h K,Has h (K++(L))→aO cw h fI eH)(B2:∀h,aO cw h eH eH)  : dS Try.prog cf py m (sub [1,0,0] (b8 Try.f105)) (fun k (σ:(List Int) × Int)=>aT.l0 m a0 b0 aQ k σ.1 σ.2) (fun σ s=>match σ with | (bl,i0)=>∃h0,s=⟨.rs aJ 0 aw.length 1 :: .int .i64 a0 :: .int .i64 b0 :: .fn p8 fI :: .int .i64 i0::sJ [],[],h0⟩∧Has h0 ((aJ,.sl aw.length 1 (af.l bl))::L)) (fun out e s=>(e = .exit 0∧∃bl i0,(bl,i0)=out∧∃oz yI KW DX BZ DY h0,s=⟨[oz,yI,KW,DX,BZ,.any,DY,.any],[],h0⟩∧Has h0 ((aJ,.sl aw.length 1 (af.l bl))::L))):=by
 refine me (fun _=>rfl) ?_
 rintro k ⟨bl,i0⟩ s out ⟨h0,rfl,o0⟩ H
 have H:aT.l0 m a0 b0 aQ (k+1) bl i0=some out:=H
 refine qq <| qq <| q0 <| qc H (fun c0 H=>?_) (fun c0 H=>?_)
 ·refine qk <| qq <| qb 1 <| qq <| q0 <| qb 2 ?_
  obtain⟨bZ,e9,H⟩:=bj H
  refine ql (aT.mj L aJ p8 fI eH aw a0 b0 aQ i0  B1 yM yN B2  (bl,i0) _ _ ⟨h0,by kernel_rfl,o0⟩ e9) ?_
  rintro e s ⟨rfl,dE,j1,rfl,g0,g1,h4,rfl,o4⟩
  try dsimp only at H
  exact q0 <| ⟨(dE,i64.wrap (i0+(1:Int))),⟨h4,by kernel_rfl,o4⟩,H⟩
 ·exact qx 0 <| ⟨rfl,bl,i0,oi H,.rs aJ 0 aw.length 1,.int .i64 a0,.int .i64 b0,.fn p8 fI,.int .i64 i0,.bool (decide (i0<b0)),h0,by kernel_rfl,o0⟩
theorem mT {aV:FuncId→bX}(ha:aV 105=py)  (aw:List Int)(a0:Int)(b0:Int)(aQ:Int→Int→Option (Int))(h:AHeap)(L:Mem)(aJ:Nat)(p8:FuncId)(fI eH:List AV)  (B1:aK (.fn p8 fI) = .fn p8 fI)(yM:∀(h:AHeap) (xs:List AV) (a0:Int) (a1:Int) r,aQ a0 a1=some r→aO bO h xs ([.int .i64 a0,.int .i64 a1]++eH)→cf p8 xs h=some (.int .i64 r,h))(yN:∀h K,Has h (K++(L))→aO cw h fI eH)(B2:∀h,aO cw h eH eH)(o:Has h ((aJ,.sl aw.length 1 (af.l aw))::L)){out:(List Int)}(H:aT.f m aw a0 b0 aQ=some out) :
  ∃r h',a7 Try.prog aV cf m 105 [.rs aJ 0 aw.length 1,.int .i64 a0,.int .i64 b0,.fn p8 fI] h=some (r,h')∧r = .tup []∧Has h' ((aJ,.sl aw.length 1 (af.l out))::L):=by
 refine au (fn:=Try.f105) ha Try.func105 (by kernel_rfl) (by kernel_rfl) ?_
 refine aH (Q:=fun s=>aT.fin L aJ aw a0 b0 aQ out s) (fun _ _ ⟨h1,h2,h3⟩=>⟨h1,_,h2,rfl,h3⟩) ?_
 have H:_=some out:=H
 unfold aT.f at H
 show dj _ cf py m _ ⟨.rs aJ 0 aw.length 1 :: .int .i64 a0 :: .int .i64 b0 :: .fn p8 fI::nh [],[],h⟩ _
 refine q1 <| qb 0 ?_
 obtain⟨dq,sY,H⟩:=bj H
 refine ql (aT.dm L aJ p8 fI eH aw a0 b0 aQ  B1 yM yN B2  (aw,i64.wrap (a0+(1:Int))) _ _ ⟨h,by kernel_rfl,o⟩ sY) ?_
 rintro e s ⟨rfl,jh,i1,rfl,g2,g3,g4,g5,g6,g7,h5,rfl,o5⟩
 try dsimp only at H
 obtain rfl:=oi H
 exact⟨.inr rfl,⟨by kernel_rfl,he o5⟩⟩
end
end Go.Proofs.Ytifafejidnjckaa
namespace Go.Proofs.Ytifafejidnjckaa
open Go Go.R
open Go.IntKind (i64 u64 u8 u32)
def se:bX:=gQ [0,1,2,3,10,13] [] [32,0,32,32] [] []
def bQ.l0 (m:Nat)(a0:Int)(b0:Int)(n0:Int):Nat→(List Int)→Int→Option ((List Int) × Int)
 | 0,_,_=>none
 | k+1,bl,i0=>if (decide (i0<n0))=true then ((ix bl (i64.wrap (b0+i0))).bind fun v0=>(ix bl (i64.wrap (a0+i0))).bind fun v1=>(ix bl (i64.wrap (a0+i0))).bind fun v2=>(ix (bl.set (i64.wrap (a0+i0)).toNat v0) (i64.wrap (b0+i0))).bind fun v3=>bQ.l0 m a0 b0 n0 k ((bl.set (i64.wrap (a0+i0)).toNat v0).set (i64.wrap (b0+i0)).toNat v1) (i64.wrap (i0+(1:Int)))) else (some ((bl,i0)))
def bQ.f (m:Nat)(aw:List Int)(a0:Int)(b0:Int)(n0:Int)(aQ:Int→Int→Option (Int)):Option ((List Int)):=(bQ.l0 m a0 b0 n0 m aw (0:Int)).bind fun bZ=>match bZ with | (cY,i1)=>some cY
def bQ.fin (L:Mem)(aJ:Nat)(aw:List Int)(a0:Int)(b0:Int)(n0:Int)(aQ:Int→Int→Option (Int))(r:(List Int))(s:St):Prop:=aM Try.prog (s.open se) Try.f109.results.toList=some (.tup [])∧Has s.h ((aJ,.sl aw.length 1 (af.l r))::L)
def II (cf:CallF)(m:Nat):Prop:=∀(aw:List Int) (a0:Int) (b0:Int) (n0:Int) (aQ:Int→Int→Option (Int)) (r:(List Int)),bQ.f m aw a0 b0 n0 aQ=some r→∀h L (cg:Nat) (aJ:Nat),Has h ((aJ,.sl cg 1 (af.l aw))::L)→∀(eC:FuncId) (aZ aS:List AV),(aK (.fn eC aZ) = .fn eC aZ)→(∀(h:AHeap) (xs:List AV) (a0:Int) (a1:Int) r,aQ a0 a1=some r→aO bO h xs ([.int .i64 a0,.int .i64 a1]++aS)→cf eC xs h=some (.int .i64 r,h))→(∀h K,Has h (K++(L))→aO cw h aZ aS)→(∀h,aO cw h aS aS)→∀xs,xs.map aK=[.rs aJ 0 cg 1,.int .i64 a0,.int .i64 b0,.int .i64 n0,.fn eC aZ]→∃h',cf 109 xs h=some (.tup [],h')∧Has h' ((aJ,.sl cg 1 (af.l r))::L)
section
variable {cf:CallF}{m:Nat}
theorem bQ.dm (L:Mem)(aJ:Nat)(eC:FuncId)(aZ aS:List AV)(aw:List Int)(a0:Int)(b0:Int)(n0:Int)(aQ:Int→Int→Option (Int))  (gE:aK (.fn eC aZ) = .fn eC aZ)(gY:∀(h:AHeap) (xs:List AV) (a0:Int) (a1:Int) r,aQ a0 a1=some r→aO bO h xs ([.int .i64 a0,.int .i64 a1]++aS)→cf eC xs h=some (.int .i64 r,h))(gZ:∀h K,Has h (K++(L))→aO cw h aZ aS)(iE:∀h,aO cw h aS aS)  : dS Try.prog cf se m (sub [1,0,0] (b8 Try.f109)) (fun k (σ:(List Int) × Int)=>bQ.l0 m a0 b0 n0 k σ.1 σ.2) (fun σ s=>match σ with | (bl,i0)=>∃h0,s=⟨[.rs aJ 0 aw.length 1,.int .i64 a0,.int .i64 b0,.int .i64 n0,.int .i64 i0,.any],[],h0⟩∧Has h0 ((aJ,.sl aw.length 1 (af.l bl))::L)) (fun out e s=>(e = .exit 0∧∃bl i0,(bl,i0)=out∧∃oz yI KW DX yO vf h0,s=⟨[oz,yI,KW,DX,yO,vf],[],h0⟩∧Has h0 ((aJ,.sl aw.length 1 (af.l bl))::L))):=by
 refine me (fun _=>rfl) ?_
 rintro k ⟨bl,i0⟩ s out ⟨h0,rfl,o0⟩ H
 have H:bQ.l0 m a0 b0 n0 (k+1) bl i0=some out:=H
 refine qq <| qq <| q0 <| qc H (fun c0 H=>?_) (fun c0 H=>?_)
 ·refine qk <| qq <| qb 1 ?_
  obtain⟨v0,e0,H⟩:=bj H
  obtain⟨v1,e1,H⟩:=bj H
  obtain⟨v2,e2,H⟩:=bj H
  obtain⟨h1,e3,o1⟩:=fw (P:=Try.prog) (tf:=3) (E:=af) (l:=bl) (q:=0) (v:=v0) (x:=.int .i64 v0) o0 rfl Z3 e2 rfl rfl
  obtain⟨v3,e4,H⟩:=bj H
  obtain⟨h2,e5,o2⟩:=fw (P:=Try.prog) (tf:=3) (E:=af) (l:=(bl.set (i64.wrap (a0+i0)).toNat v0)) (q:=0) (v:=v1) (x:=.int .i64 v1) o1 rfl Z3 e4 rfl rfl
  exact qr [.v 12 (bo (k:=.i64) (E:=af) (l:=bl) (q:=0) fU o0 rfl e0),.v 13 (dB  (E:=af) (l:=bl) (q:=0) o0 rfl A3 e0 rfl),.v 18 (bo (k:=.i64) (E:=af) (l:=bl) (q:=0) fU o0 rfl e1),.v 19 (dB  (E:=af) (l:=bl) (q:=0) o0 rfl A3 e1 rfl),.v 20 (bo (k:=.i64) (E:=af) (l:=bl) (q:=0) fU o0 rfl e2),.w 21 e3,.v 22 (bo (k:=.i64) (E:=af) (l:=(bl.set (i64.wrap (a0+i0)).toNat v0)) (q:=0) fU o1 rfl e4),.w 23 e5] <| q0 <| ⟨((bl.set (i64.wrap (a0+i0)).toNat v0).set (i64.wrap (b0+i0)).toNat v1,i64.wrap (i0+(1:Int))),⟨h2,by kernel_rfl,o2⟩,H⟩
 ·exact qx 0 <| ⟨rfl,bl,i0,oi H,.rs aJ 0 aw.length 1,.int .i64 a0,.int .i64 b0,.int .i64 n0,.int .i64 i0,.bool (decide (i0<n0)),h0,by kernel_rfl,o0⟩
theorem qy {aV:FuncId→bX}(ha:aV 109=se)  (aw:List Int)(a0:Int)(b0:Int)(n0:Int)(aQ:Int→Int→Option (Int))(h:AHeap)(L:Mem)(aJ:Nat)(eC:FuncId)(aZ aS:List AV)  (gE:aK (.fn eC aZ) = .fn eC aZ)(gY:∀(h:AHeap) (xs:List AV) (a0:Int) (a1:Int) r,aQ a0 a1=some r→aO bO h xs ([.int .i64 a0,.int .i64 a1]++aS)→cf eC xs h=some (.int .i64 r,h))(gZ:∀h K,Has h (K++(L))→aO cw h aZ aS)(iE:∀h,aO cw h aS aS)(o:Has h ((aJ,.sl aw.length 1 (af.l aw))::L)){out:(List Int)}(H:bQ.f m aw a0 b0 n0 aQ=some out) :
  ∃r h',a7 Try.prog aV cf m 109 [.rs aJ 0 aw.length 1,.int .i64 a0,.int .i64 b0,.int .i64 n0,.fn eC aZ] h=some (r,h')∧r = .tup []∧Has h' ((aJ,.sl aw.length 1 (af.l out))::L):=by
 refine au (fn:=Try.f109) ha Try.func109 (by kernel_rfl) (by kernel_rfl) ?_
 refine aH (Q:=fun s=>bQ.fin L aJ aw a0 b0 n0 aQ out s) (fun _ _ ⟨h1,h2,h3⟩=>⟨h1,_,h2,rfl,h3⟩) ?_
 have H:_=some out:=H
 unfold bQ.f at H
 show dj _ cf se m _ ⟨[.rs aJ 0 aw.length 1,.int .i64 a0,.int .i64 b0,.int .i64 n0,.any,.any],[],h⟩ _
 refine q1 <| qb 0 ?_
 obtain⟨bZ,e6,H⟩:=bj H
 refine ql (bQ.dm L aJ eC aZ aS aw a0 b0 n0 aQ  gE gY gZ iE  (aw,(0:Int)) _ _ ⟨h,by kernel_rfl,o⟩ e6) ?_
 rintro e s ⟨rfl,cY,i1,rfl,g0,g1,g2,g3,g4,g5,h3,rfl,o3⟩
 try dsimp only at H
 obtain rfl:=oi H
 exact⟨.inr rfl,⟨by kernel_rfl,he o3⟩⟩
end
end Go.Proofs.Ytifafejidnjckaa
namespace Go.Proofs.Ytifafejidnjckaa
open Go Go.R
open Go.IntKind (i64 u64 u8 u32)
def Ai:bX:=gQ [0,2,5] [] [6,2,5,5] [] []
def b6.f (m:Nat)(s0:ab):Option (Int):=(bF.f m s0).bind fun x0=>if (!x0)=true then (some (0:Int)) else (some (s0.aa.length:Int))
def b6.fin (L:Mem)(r:Int)(s:St):Prop:=∃av,aM Try.prog (s.open Ai) Try.f18.results.toList=some av∧ff s.h av (.int .i64 r)
def NQ (cf:CallF)(m:Nat):Prop:=∀(s0:ab) (r:Int),b6.f m s0=some r→∀h xs,aO bO h xs [.fp [.bool s0.aj,ai.fz s0.aa,af.fz s0.ae] 0]→cf 18 xs h=some (.int .i64 r,h)
section
variable {cf:CallF}{m:Nat}
theorem lH {aV:FuncId→bX}(ha:aV 18=Ai)(yJ:KV cf m)(s0:ab)(h:AHeap)(L:Mem)  (o:Has h (L)){out:Int}(H:b6.f m s0=some out) :
  ∃r h',a7 Try.prog aV cf m 18 [.fp [.bool s0.aj,ai.fz s0.aa,af.fz s0.ae] 0] h=some (r,h')∧ff h' r (.int .i64 out):=by
 refine au (fn:=Try.f18) ha Try.func18 (by kernel_rfl) (by kernel_rfl) ?_
 refine aH (Q:=fun s=>b6.fin L out s) (fun _ _ h=>h) ?_
 have H:_=some out:=H
 unfold b6.f at H
 show dj _ cf Ai m _ ⟨[.fp [.bool s0.aj,ai.fz s0.aa,af.fz s0.ae] 0,.any,.any],[],h⟩ _
 refine q1 <| qq <| qq ?_
 obtain⟨x0,e0,H⟩:=bj H
 refine qr [.a 1 (yJ _ _ e0 h _ (gp (ah (gf (pure_cons (dI) (pure_cons (bL.bD (E:=ai) (l:=s0.aa)) (pure_cons (bL.bD (E:=af) (l:=s0.ae)) (pure_nil))))) (ay))))] <| qc H (fun c0 H=>?_) (fun c0 H=>?_)
 ·obtain rfl:=oi H
  exact q1 <| qt <| ⟨.inl rfl,dy (.int .i64 (0:Int)) h (dw (dc))⟩
 ·obtain rfl:=oi H
  exact qk <| qq <| q0 <| qt <| ⟨.inl rfl,dy (.int .i64 (s0.aa.length:Int)) h (dw (dc))⟩
end
end Go.Proofs.Ytifafejidnjckaa
namespace Go.Proofs.Ytifafejidnjckaa
open Go Go.R
open Go.IntKind (i64 u64 u8 u32)
def oD.f (m:Nat)(s0:ab):Option ((Option ab) × ab):=(bF.f m s0).bind fun x0=>if (!x0)=true then (some (none,s0)) else ((Gl 4 s0.aa).bind fun x1=>(Gl 1 s0.ae).bind fun x2=>some (some (ab.mk true x1 x2),s0))
end Go.Proofs.Ytifafejidnjckaa
namespace Go.Proofs.Ytifafejidnjckaa
open Go Go.R
open Go.IntKind (i64 u64 u8 u32)
def Aj:bX:=gQ [0,2,3] [] [6,1] [] []
def ec.f (m:Nat)(s0:ab):Option (Int × Int × ab):=(bY.f m s0 (dD.f m ) (aq.mk (0:Int) (0:Int) (Vk #[]) ([]))).bind fun x0=>some (x0.1,x0.2.1,x0.2.2)
def ec.fin (L:Mem)(ao:Nat)(ak:Nat)(an:Nat)(s0:ab)(r:Int × Int × ab)(s:St):Prop:=∃aB aC:Nat,aM Try.prog (s.open Aj) Try.f27.results.toList=some (.tup [.int .i64 r.1,.int .i64 r.2.1])∧Has s.h ((ao,.ob [.bool r.2.2.aj,.rs aB 0 r.2.2.aa.length 4,.rs aC 0 r.2.2.ae.length 1])::(aB,.sl r.2.2.aa.length 4 (ai.l r.2.2.aa))::(aC,.sl r.2.2.ae.length 1 (af.l r.2.2.ae))::L)
def Qd (cf:CallF)(m:Nat):Prop:=∀(s0:ab) (r:Int × Int × ab),ec.f m s0=some r→∀h L (ao:Nat) (ak:Nat) (an:Nat),Has h ((ao,.ob [.bool s0.aj,.rs ak 0 s0.aa.length 4,.rs an 0 s0.ae.length 1])::(ak,.sl s0.aa.length 4 (ai.l s0.aa))::(an,.sl s0.ae.length 1 (af.l s0.ae))::L)→∀xs,xs.map aK=[.ptr ao 0]→∃aB aC h',cf 27 xs h=some (.tup [.int .i64 r.1,.int .i64 r.2.1],h')∧Has h' ((ao,.ob [.bool r.2.2.aj,.rs aB 0 r.2.2.aa.length 4,.rs aC 0 r.2.2.ae.length 1])::(aB,.sl r.2.2.aa.length 4 (ai.l r.2.2.aa))::(aC,.sl r.2.2.ae.length 1 (af.l r.2.2.ae))::L)
section
variable {cf:CallF}{m:Nat}
theorem ml {aV:FuncId→bX}(ha:aV 27=Aj)(vj:JO cf m)(NR:P5 cf m)(s0:ab)(h:AHeap)(L:Mem)(ao:Nat)(ak:Nat)(an:Nat)  (o:Has h ((ao,.ob [.bool s0.aj,.rs ak 0 s0.aa.length 4,.rs an 0 s0.ae.length 1])::(ak,.sl s0.aa.length 4 (ai.l s0.aa))::(an,.sl s0.ae.length 1 (af.l s0.ae))::L)){out:Int × Int × ab}(H:ec.f m s0=some out) :
  ∃r h',a7 Try.prog aV cf m 27 [.ptr ao 0] h=some (r,h')∧∃aB aC:Nat,r = .tup [.int .i64 out.1,.int .i64 out.2.1]∧Has h' ((ao,.ob [.bool out.2.2.aj,.rs aB 0 out.2.2.aa.length 4,.rs aC 0 out.2.2.ae.length 1])::(aB,.sl out.2.2.aa.length 4 (ai.l out.2.2.aa))::(aC,.sl out.2.2.ae.length 1 (af.l out.2.2.ae))::L):=by
 refine au (fn:=Try.f27) ha Try.func27 (by kernel_rfl) (by kernel_rfl) ?_
 refine aH (Q:=fun s=>ec.fin L ao ak an s0 out s) (fun _ _ ⟨h1,aB,aC,h2,h3⟩=>⟨h1,_,h2,aB,aC,rfl,h3⟩) ?_
 have H:_=some out:=H
 unfold ec.f at H
 show dj _ cf Aj m _ ⟨[.ptr ao 0,.any,.any],[],h⟩ _
 refine q1 <| qq ?_
 obtain⟨x0,e0,H⟩:=bj H
 obtain⟨aJ,dV,h0,e1,o0⟩:=vj _ _ _ _ e0 h _ _ _ _ (o) 48 [] [] rfl (fun h' sZ  r hr hx=>NR  r hr h' sZ hx) (fun h' K' o'=>iJ (ay)) (fun h_=>iJ (ay)) [.ptr ao 0,.fn 48 [],.agg [.int .i64 (0:Int),.int .i64 (0:Int),.str (Vk #[]),.nils]] (ar (rfl) (ar (rfl) (ar (aL (nC (cp (bh) (cp (bh) (cp (kX) (cp (qW (E:=af)) (nB))))))) (bE))))
 obtain rfl:=oi H
 exact qr [.a 2 e1] <| qt <| ⟨.inl rfl,⟨aJ,dV,by kernel_rfl,he o0⟩⟩
end
end Go.Proofs.Ytifafejidnjckaa
namespace Go.Proofs.Ytifafejidnjckaa
open Go Go.R
open Go.IntKind (i64 u64 u8 u32)
def Ak:bX:=gQ [0,1,3,4,5] [] [26,7] [] []
def eh.f (m:Nat)(s0:ab)(n0:Int):Option (Int × Int × ab):=(bY.f m s0 (cV.f m n0) (aq.mk (1:Int) n0 (Vk #[]) ([]))).bind fun x0=>some (x0.1,x0.2.1,x0.2.2)
def eh.fin (L:Mem)(ao:Nat)(ak:Nat)(an:Nat)(s0:ab)(n0:Int)(r:Int × Int × ab)(s:St):Prop:=∃aB aC:Nat,aM Try.prog (s.open Ak) Try.f29.results.toList=some (.tup [.int .i64 r.1,.int .i64 r.2.1])∧Has s.h ((ao,.ob [.bool r.2.2.aj,.rs aB 0 r.2.2.aa.length 4,.rs aC 0 r.2.2.ae.length 1])::(aB,.sl r.2.2.aa.length 4 (ai.l r.2.2.aa))::(aC,.sl r.2.2.ae.length 1 (af.l r.2.2.ae))::L)
def Qe (cf:CallF)(m:Nat):Prop:=∀(s0:ab) (n0:Int) (r:Int × Int × ab),eh.f m s0 n0=some r→∀h L (ao:Nat) (ak:Nat) (an:Nat),Has h ((ao,.ob [.bool s0.aj,.rs ak 0 s0.aa.length 4,.rs an 0 s0.ae.length 1])::(ak,.sl s0.aa.length 4 (ai.l s0.aa))::(an,.sl s0.ae.length 1 (af.l s0.ae))::L)→∀xs,xs.map aK=[.ptr ao 0,.int .i64 n0]→∃aB aC h',cf 29 xs h=some (.tup [.int .i64 r.1,.int .i64 r.2.1],h')∧Has h' ((ao,.ob [.bool r.2.2.aj,.rs aB 0 r.2.2.aa.length 4,.rs aC 0 r.2.2.ae.length 1])::(aB,.sl r.2.2.aa.length 4 (ai.l r.2.2.aa))::(aC,.sl r.2.2.ae.length 1 (af.l r.2.2.ae))::L)
section
variable {cf:CallF}{m:Nat}
theorem mn {aV:FuncId→bX}(ha:aV 29=Ak)(vj:JO cf m)(NS:P6 cf m)(s0:ab)(n0:Int)(h:AHeap)(L:Mem)(ao:Nat)(ak:Nat)(an:Nat)  (o:Has h ((ao,.ob [.bool s0.aj,.rs ak 0 s0.aa.length 4,.rs an 0 s0.ae.length 1])::(ak,.sl s0.aa.length 4 (ai.l s0.aa))::(an,.sl s0.ae.length 1 (af.l s0.ae))::L)){out:Int × Int × ab}(H:eh.f m s0 n0=some out) :
  ∃r h',a7 Try.prog aV cf m 29 [.ptr ao 0,.int .i64 n0] h=some (r,h')∧∃aB aC:Nat,r = .tup [.int .i64 out.1,.int .i64 out.2.1]∧Has h' ((ao,.ob [.bool out.2.2.aj,.rs aB 0 out.2.2.aa.length 4,.rs aC 0 out.2.2.ae.length 1])::(aB,.sl out.2.2.aa.length 4 (ai.l out.2.2.aa))::(aC,.sl out.2.2.ae.length 1 (af.l out.2.2.ae))::L):=by
 refine au (fn:=Try.f29) ha Try.func29 (by kernel_rfl) (by kernel_rfl) ?_
 refine aH (Q:=fun s=>eh.fin L ao ak an s0 n0 out s) (fun _ _ ⟨h1,aB,aC,h2,h3⟩=>⟨h1,_,h2,aB,aC,rfl,h3⟩) ?_
 have H:_=some out:=H
 unfold eh.f at H
 show dj _ cf Ak m _ ⟨.ptr ao 0 :: .int .i64 n0::sJ [],[],h⟩ _
 refine qq ?_
 obtain⟨aJ,h0,e0,o0⟩:=gk (cs:=[.int .i64 n0]) o (by kernel_rfl)
 refine qr [.a 0 e0] <| qq ?_
 obtain⟨x0,e1,H⟩:=bj H
 obtain⟨dV,eM,h1,e2,o1⟩:=vj _ _ _ _ e1 h0 _ _ _ _ ((Has.front (Has.front (Has.front (Has.front o0 0 rfl) 3 rfl) 3 rfl) 3 rfl)) 51 [.ptr aJ 0] [.fp [.int .i64 n0] 0] rfl (fun h' sZ  r hr hx=>NS _ r hr h' sZ hx) (fun h' K' o'=>iJ (ah (dM (q:=(K'.length+3)) o' (jg rfl) (ah (bz) (ay))) (ay))) (fun h_=>iJ (ah (gf (pure_cons (fZ) (pure_nil))) (ay))) [.ptr ao 0,.fn 51 [.ptr aJ 0],.agg [.int .i64 (1:Int),.int .i64 n0,.str (Vk #[]),.nils]] (ar (rfl) (ar (rfl) (ar (aL (nC (cp (bh) (cp (bh) (cp (kX) (cp (qW (E:=af)) (nB))))))) (bE))))
 refine qr [.v 2 (show bm Try.prog h0 3 (.ptr aJ 0)=some (.int .i64 n0) from bW (q:=0) (cs:=[.int .i64 n0]) o0 rfl (by kernel_rfl)),.a 4 e2] ?_
 have o2:Has h1 ((ao,.ob [.bool x0.2.2.aj,.rs dV 0 x0.2.2.aa.length 4,.rs eM 0 x0.2.2.ae.length 1])::(dV,.sl x0.2.2.aa.length 4 (ai.l x0.2.2.aa))::(eM,.sl x0.2.2.ae.length 1 (af.l x0.2.2.ae))::L):=Has.del o1 3
 obtain rfl:=oi H
 exact qt <| ⟨.inl rfl,⟨dV,eM,by kernel_rfl,he o2⟩⟩
end
end Go.Proofs.Ytifafejidnjckaa
namespace Go.Proofs.Ytifafejidnjckaa
open Go Go.R
open Go.IntKind (i64 u64 u8 u32)
def gr.l0 (m:Nat)(s0:ab)(x0:List Int):Nat→(List Int)→Int→Option ((List Int) × Int)
 | 0,_,_=>none
 | k+1,x1,x2=>if (decide (x2<(x0.length:Int)))=true then ((ix x1 x2).bind fun v1=>(ba.f m s0 v1).bind fun x3=>(ix x1 x2).bind fun v2=>gr.l0 m s0 x0 k (x1.set x2.toNat x3) (i64.wrap (x2+(1:Int)))) else (some ((x1,x2)))
def gr.f (m:Nat)(s0:ab)(n0:Int):Option (aq):=(ix s0.aa n0).bind fun v0=>(Gl 1 v0.args).bind fun x0=>(gr.l0 m s0 x0 m x0 (0:Int)).bind fun bZ=>match bZ with | (x4,x5)=>some (aq.mk v0.kind v0.int v0.label x4)
end Go.Proofs.Ytifafejidnjckaa
namespace Go.Proofs.Ytifafejidnjckaa
open Go Go.R
open Go.IntKind (i64 u64 u8 u32)
def Al:bX:=gQ [0,1,4] [] [4,3] [] []
def ei.f (m:Nat)(s0:List Int)(f0:Int→Option (Bool)):Option (Bool):=(cz.f m s0 f0).bind fun x0=>some (decide (x0≥(0:Int)))
def ei.fin (L:Mem)(r:Bool)(s:St):Prop:=∃av,aM Try.prog (s.open Al) Try.f52.results.toList=some av∧ff s.h av (.bool r)
def L7 (cf:CallF)(m:Nat):Prop:=∀(s0:List Int) (f0:Int→Option (Bool)) (r:Bool),ei.f m s0 f0=some r→∀(eB:FuncId) (aP:List AV),(∀(h:AHeap) (xs:List AV) (a0:Int) r,f0 a0=some r→aO bO h xs ([.int .i64 a0]++aP)→cf eB xs h=some (.bool r,h))→(∀h,aO cw h aP aP)→∀h xs,aO bO h xs [af.fz s0,.fn eB aP]→cf 52 xs h=some (.bool r,h)
section
variable {cf:CallF}{m:Nat}
theorem qz {aV:FuncId→bX}(ha:aV 52=Al)(IJ:NN cf m)(s0:List Int)(f0:Int→Option (Bool))(h:AHeap)(L:Mem)(eB:FuncId)(aP:List AV)  (gM:∀(h:AHeap) (xs:List AV) (a0:Int) r,f0 a0=some r→aO bO h xs ([.int .i64 a0]++aP)→cf eB xs h=some (.bool r,h))(gN:∀h,aO cw h aP aP)(o:Has h (L)){out:Bool}(H:ei.f m s0 f0=some out) :
  ∃r h',a7 Try.prog aV cf m 52 [af.fz s0,.fn eB aP] h=some (r,h')∧ff h' r (.bool out):=by
 refine au (fn:=Try.f52) ha Try.func52 (by kernel_rfl) (by kernel_rfl) ?_
 refine aH (Q:=fun s=>ei.fin L out s) (fun _ _ h=>h) ?_
 have H:_=some out:=H
 unfold ei.f at H
 show dj _ cf Al m _ ⟨[af.fz s0,.fn eB aP,.any],[],h⟩ _
 refine q1 <| qq ?_
 obtain⟨x0,e0,H⟩:=bj H
 obtain rfl:=oi H
 exact qr [.a 2 (IJ _ _ _ e0 eB aP gM gN h _ (gp (ah (fy (E:=af)) (ah (sb (gN h)) (ay)))))] <| qt <| ⟨.inl rfl,dy (.bool (decide (x0≥(0:Int)))) h (dw (aD))⟩
end
end Go.Proofs.Ytifafejidnjckaa
namespace Go.Proofs.Ytifafejidnjckaa
open Go Go.R
open Go.IntKind (i64 u64 u8 u32)
def Am:bX:=gQ [0,1,3] [] [4,3] [] []
def cO.f (m:Nat)(n0:Int)(x0:ab):Option (Bool):=(cq.f m x0 n0).bind fun x1=>some (!x1)
def cO.fin (L:Mem)(r:Bool)(s:St):Prop:=∃av,aM Try.prog (s.open Am) Try.f53.results.toList=some av∧ff s.h av (.bool r)
def Qf (cf:CallF)(m:Nat):Prop:=∀(n0:Int) (x0:ab) (r:Bool),cO.f m n0 x0=some r→∀h xs,aO bO h xs [.int .i64 n0,.fp [.fp [.bool x0.aj,ai.fz x0.aa,af.fz x0.ae] 0] 0]→cf 53 xs h=some (.bool r,h)
section
variable {cf:CallF}{m:Nat}
theorem ka {aV:FuncId→bX}(ha:aV 53=Am)(IE:NG cf m)(n0:Int)(x0:ab)(h:AHeap)(L:Mem)  (o:Has h (L)){out:Bool}(H:cO.f m n0 x0=some out) :
  ∃r h',a7 Try.prog aV cf m 53 [.int .i64 n0,.fp [.fp [.bool x0.aj,ai.fz x0.aa,af.fz x0.ae] 0] 0] h=some (r,h')∧ff h' r (.bool out):=by
 refine au (fn:=Try.f53) ha Try.func53 (by kernel_rfl) (by kernel_rfl) ?_
 refine aH (Q:=fun s=>cO.fin L out s) (fun _ _ h=>h) ?_
 have H:_=some out:=H
 unfold cO.f at H
 show dj _ cf Am m _ ⟨[.int .i64 n0,.fp [.fp [.bool x0.aj,ai.fz x0.aa,af.fz x0.ae] 0] 0,.any],[],h⟩ _
 refine q1 <| qq ?_
 obtain⟨x1,e0,H⟩:=bj H
 obtain rfl:=oi H
 exact qr [.a 2 (IE _ _ _ e0 h _ (gp (ah (gf (pure_cons (dI) (pure_cons (bL.bD (E:=ai) (l:=x0.aa)) (pure_cons (bL.bD (E:=af) (l:=x0.ae)) (pure_nil))))) (ah (bz) (ay)))))] <| qt <| ⟨.inl rfl,dy (.bool (!x1)) h (dw (aD))⟩
end
end Go.Proofs.Ytifafejidnjckaa
namespace Go.Proofs.Ytifafejidnjckaa
open Go Go.R
open Go.IntKind (i64 u64 u8 u32)
def An:bX:=gQ [0,1,2,6,13,16,21] [] [120,104,88,120,56,120,125,119] [] []
def cj.f (m:Nat)(s0:ab)(a0:Int)(b0:Int):Option (Int × ab):=jn (fun (σ:Int × Int)=>match σ with | (a1,b1)=>(ix s0.ae a1).bind fun v0=>some (a1,(ab.mk s0.aj s0.aa (s0.ae.set a1.toNat b1)))) fun sX=>((b4.f m s0 a0).bind fun x0=>(b4.f m s0 b0).bind fun x1=>if (!(x0==x1))=true then ((b4.f m s0 b0).bind fun x2=>if x2=true then (sX (b0,a0)) else (sX (a0,b0))) else (if (decide (a0<b0))=true then (sX (b0,a0)) else (sX (a0,b0))))
def cj.fin (L:Mem)(ao:Nat)(ak:Nat)(an:Nat)(s0:ab)(a0:Int)(b0:Int)(r:Int × ab)(s:St):Prop:=∃aB aC:Nat,aM Try.prog (s.open An) Try.f56.results.toList=some (.int .i64 r.1)∧Has s.h ((ao,.ob [.bool r.2.aj,.rs aB 0 r.2.aa.length 4,.rs aC 0 r.2.ae.length 1])::(aB,.sl r.2.aa.length 4 (ai.l r.2.aa))::(aC,.sl r.2.ae.length 1 (af.l r.2.ae))::L)
def NT (cf:CallF)(m:Nat):Prop:=∀(s0:ab) (a0:Int) (b0:Int) (r:Int × ab),cj.f m s0 a0 b0=some r→∀h L (ao:Nat) (ak:Nat) (an:Nat),Has h ((ao,.ob [.bool s0.aj,.rs ak 0 s0.aa.length 4,.rs an 0 s0.ae.length 1])::(ak,.sl s0.aa.length 4 (ai.l s0.aa))::(an,.sl s0.ae.length 1 (af.l s0.ae))::L)→∀xs,xs.map aK=[.ptr ao 0,.int .i64 a0,.int .i64 b0]→∃aB aC h',cf 56 xs h=some (.int .i64 r.1,h')∧Has h' ((ao,.ob [.bool r.2.aj,.rs aB 0 r.2.aa.length 4,.rs aC 0 r.2.ae.length 1])::(aB,.sl r.2.aa.length 4 (ai.l r.2.aa))::(aC,.sl r.2.ae.length 1 (af.l r.2.ae))::L)
section
variable {cf:CallF}{m:Nat}
theorem lI {aV:FuncId→bX}(ha:aV 56=An)(D5:NI cf m)(s0:ab)(a0:Int)(b0:Int)(h:AHeap)(L:Mem)(ao:Nat)(ak:Nat)(an:Nat)  (o:Has h ((ao,.ob [.bool s0.aj,.rs ak 0 s0.aa.length 4,.rs an 0 s0.ae.length 1])::(ak,.sl s0.aa.length 4 (ai.l s0.aa))::(an,.sl s0.ae.length 1 (af.l s0.ae))::L)){out:Int × ab}(H:cj.f m s0 a0 b0=some out) :
  ∃r h',a7 Try.prog aV cf m 56 [.ptr ao 0,.int .i64 a0,.int .i64 b0] h=some (r,h')∧∃aB aC:Nat,r = .int .i64 out.1∧Has h' ((ao,.ob [.bool out.2.aj,.rs aB 0 out.2.aa.length 4,.rs aC 0 out.2.ae.length 1])::(aB,.sl out.2.aa.length 4 (ai.l out.2.aa))::(aC,.sl out.2.ae.length 1 (af.l out.2.ae))::L):=by
 refine au (fn:=Try.f56) ha Try.func56 (by kernel_rfl) (by kernel_rfl) ?_
 refine aH (Q:=fun s=>cj.fin L ao ak an s0 a0 b0 out s) (fun _ _ ⟨h1,aB,aC,h2,h3⟩=>⟨h1,_,h2,aB,aC,rfl,h3⟩) ?_
 have H:_=some out:=H
 unfold cj.f at H
 show dj _ cf An m _ ⟨.ptr ao 0 :: .int .i64 a0 :: .int .i64 b0::nh [],[],h⟩ _
 refine q1 ?_
 obtain⟨sX,D0,H⟩:=mN H
 refine qj (S:=fun (σ:Int × Int) s=>match σ with | (a1,b1)=>∃(g0:AV) (g1:AV) (h0:AHeap),s=⟨[.ptr ao 0,.int .i64 a1,.int .i64 b1,.any,.any,g0,g1],[],h0⟩∧Has h0 ((ao,.ob [.bool s0.aj,.rs ak 0 s0.aa.length 4,.rs an 0 s0.ae.length 1])::(ak,.sl s0.aa.length 4 (ai.l s0.aa))::(an,.sl s0.ae.length 1 (af.l s0.ae))::L)) sX H ?_ ?_
 ·rintro⟨a1,b1⟩ s ⟨g0,g1,h0,rfl,o0⟩ H
  have H:=(D0 _).symm.trans H
  try dsimp only at H
  refine qq ?_
  obtain⟨v0,e3,H⟩:=bj H
  obtain⟨h1,e4,o1⟩:=fw (P:=Try.prog) (tf:=3) (E:=af) (l:=s0.ae) (q:=2) (v:=b1) (x:=.int .i64 b1) o0 rfl Z3 e3 rfl rfl
  obtain rfl:=oi H
  exact qr [.v 3 (show bm Try.prog h0 33 (.ptr ao 2)=some (.rs an 0 s0.ae.length 1) from bW (q:=0) (cs:=[.bool s0.aj,.rs ak 0 s0.aa.length 4,.rs an 0 s0.ae.length 1]) o0 rfl (by kernel_rfl)),.v 6 (bo (k:=.i64) (E:=af) (l:=s0.ae) (q:=2) fU o0 rfl e3),.w 7 e4] <| qq <| q0 <| qt <| ⟨.inl rfl,⟨ak,an,by kernel_rfl,he (by have o:Has h1 ((ao,.ob [.bool s0.aj,.rs ak 0 s0.aa.length 4,.rs an 0 s0.ae.length 1])::(ak,.sl s0.aa.length 4 (ai.l s0.aa))::(an,.sl s0.ae.length 1 (af.l (s0.ae.set a1.toNat b1)))::L):=o1; simpa only [UF] using o)⟩⟩
 clear D0
 intro pv
 refine qq ?_
 obtain⟨x0,e0,H⟩:=bj H
 obtain⟨x1,e1,H⟩:=bj H
 refine qr [.a 2 (D5 _ _ _ e0 h _ (gp (ah (dM (q:=0) o rfl (ah (eU) (ah (dW (E:=ai) (l:=s0.aa) (q:=1) o rfl (fun _=>rfl)) (ah (dW (E:=af) (l:=s0.ae) (q:=2) o rfl (fun _=>rfl)) (ay))))) (ah (bz) (ay))))),.a 5 (D5 _ _ _ e1 h _ (gp (ah (dM (q:=0) o rfl (ah (eU) (ah (dW (E:=ai) (l:=s0.aa) (q:=1) o rfl (fun _=>rfl)) (ah (dW (E:=af) (l:=s0.ae) (q:=2) o rfl (fun _=>rfl)) (ay))))) (ah (bz) (ay)))))] <| qc H (fun c0 H=>?_) (fun c0 H=>?_)
 ·refine qq ?_
  obtain⟨x2,e2,H⟩:=bj H
  refine qr [.a 2 (D5 _ _ _ e2 h _ (gp (ah (dM (q:=0) o rfl (ah (eU) (ah (dW (E:=ai) (l:=s0.aa) (q:=1) o rfl (fun _=>rfl)) (ah (dW (E:=af) (l:=s0.ae) (q:=2) o rfl (fun _=>rfl)) (ay))))) (ah (bz) (ay)))))] <| qc H (fun c1 H=>?_) (fun c1 H=>?_)
  ·exact q0 <| pv (b0,a0) _ ⟨.any,.any,h,by kernel_rfl,o⟩ H
  ·exact qk <| pv (a0,b0) _ ⟨.bool x2,.any,h,by kernel_rfl,o⟩ H
 ·refine q1 <| qc H (fun c2 H=>?_) (fun c2 H=>?_)
  ·exact q0 <| pv (b0,a0) _ ⟨.any,.any,h,by kernel_rfl,o⟩ H
  ·exact qk <| pv (a0,b0) _ ⟨.any,.bool (decide (a0<b0)),h,by kernel_rfl,o⟩ H
end
end Go.Proofs.Ytifafejidnjckaa
