/- Part of the proof: Q56, Q57, Q58, Q63, Q65, Q74, Q77, Q80, Q82, Q92, Q93, Q94, Q100, Q101, Q107, Q108, Q30, Q31, Q33, Q35, Q50, Q61, Q67, Q70, Q84, Q86, Q87, Q88, Q91, Q104. -/
import Derived.Test.YtifafejidnjckaaK7
set_option linter.unusedVariables false
set_option linter.unusedSimpArgs false
set_option maxRecDepth 100000
open ByteArray renaming mk → Wo
open Eq renaming trans → W8
open List renaming length_set → VG, append_assoc → VK, nil_append → V9, cons_append → Wb
namespace Go.Proofs.Ytifafejidnjckaa
open Go Go.R
open Go.IntKind (i64 u64 u8 u32)
def AT:b5:=gX [0,1,2,6,13,16,21] [] [120,104,88,120,56,120,125,119] [] []
def cp.f (m:Nat)(s0:ab)(a0:Int)(b0:Int):Option (Int × ab):=jn (fun (σ:Int × Int)=>match σ with | (a1,b1)=>(ix s0.ae a1).bind fun v0=>some (a1,(ab.mk s0.aj s0.aa (s0.ae.set a1.toNat b1)))) fun tv=>((b8.f m s0 a0).bind fun x0=>(b8.f m s0 b0).bind fun x1=>if (!(x0==x1))=true then ((b8.f m s0 b0).bind fun x2=>if x2=true then (tv (b0,a0)) else (tv (a0,b0))) else (if (decide (a0<b0))=true then (tv (b0,a0)) else (tv (a0,b0))))
def cp.fin (L:Mem)(ao:Nat)(ak:Nat)(an:Nat)(s0:ab)(a0:Int)(b0:Int)(r:Int × ab)(s:St):Prop:=∃aA aB:Nat,aM Try.prog (s.open AT) Try.f56.results.toList=some (.int .i64 r.1)∧Has s.h ((ao,.ob [.bool r.2.aj,.rs aA 0 r.2.aa.length 4,.rs aB 0 r.2.ae.length 1])::(aA,.sl r.2.aa.length 4 (ah.l r.2.aa))::(aB,.sl r.2.ae.length 1 (af.l r.2.ae))::L)
def OJ (cf:CallF)(m:Nat):Prop:=∀(s0:ab) (a0:Int) (b0:Int) (r:Int × ab),cp.f m s0 a0 b0=some r→∀h L (ao:Nat) (ak:Nat) (an:Nat),Has h ((ao,.ob [.bool s0.aj,.rs ak 0 s0.aa.length 4,.rs an 0 s0.ae.length 1])::(ak,.sl s0.aa.length 4 (ah.l s0.aa))::(an,.sl s0.ae.length 1 (af.l s0.ae))::L)→∀xs,xs.map aK=[.ptr ao 0,.int .i64 a0,.int .i64 b0]→∃aA aB h',cf 56 xs h=some (.int .i64 r.1,h')∧Has h' ((ao,.ob [.bool r.2.aj,.rs aA 0 r.2.aa.length 4,.rs aB 0 r.2.ae.length 1])::(aA,.sl r.2.aa.length 4 (ah.l r.2.aa))::(aB,.sl r.2.ae.length 1 (af.l r.2.ae))::L)
section
variable {cf:CallF}{m:Nat}
theorem l8 {aV:FuncId→b5}(ha:aV 56=AT)(EJ:Oy cf m)(s0:ab)(a0:Int)(b0:Int)(h:AHeap)(L:Mem)(ao:Nat)(ak:Nat)(an:Nat)  (o:Has h ((ao,.ob [.bool s0.aj,.rs ak 0 s0.aa.length 4,.rs an 0 s0.ae.length 1])::(ak,.sl s0.aa.length 4 (ah.l s0.aa))::(an,.sl s0.ae.length 1 (af.l s0.ae))::L)){out:Int × ab}(H:cp.f m s0 a0 b0=some out) :
  ∃r h',aZ Try.prog aV cf m 56 [.ptr ao 0,.int .i64 a0,.int .i64 b0] h=some (r,h')∧∃aA aB:Nat,r = .int .i64 out.1∧Has h' ((ao,.ob [.bool out.2.aj,.rs aA 0 out.2.aa.length 4,.rs aB 0 out.2.ae.length 1])::(aA,.sl out.2.aa.length 4 (ah.l out.2.aa))::(aB,.sl out.2.ae.length 1 (af.l out.2.ae))::L):=by
 refine ar (fn:=Try.f56) ha Try.func56 (by kernel_rfl) (by kernel_rfl) ?_
 refine aH (Q:=fun s=>cp.fin L ao ak an s0 a0 b0 out s) (fun _ _ ⟨h1,aA,aB,h2,h3⟩=>⟨h1,_,h2,aA,aB,rfl,h3⟩) ?_
 have H:_=some out:=H
 unfold cp.f at H
 show dp _ cf AT m _ ⟨.ptr ao 0 :: .int .i64 a0 :: .int .i64 b0::og [],[],h⟩ _
 refine q1 ?_
 obtain⟨tv,ED,H⟩:=lA H
 refine qj (S:=fun (σ:Int × Int) s=>match σ with | (a1,b1)=>∃(g0:AV) (g1:AV) (h0:AHeap),s=⟨[.ptr ao 0,.int .i64 a1,.int .i64 b1,.any,.any,g0,g1],[],h0⟩∧Has h0 ((ao,.ob [.bool s0.aj,.rs ak 0 s0.aa.length 4,.rs an 0 s0.ae.length 1])::(ak,.sl s0.aa.length 4 (ah.l s0.aa))::(an,.sl s0.ae.length 1 (af.l s0.ae))::L)) tv H ?_ ?_
 ·rintro⟨a1,b1⟩ s ⟨g0,g1,h0,rfl,o0⟩ H
  have H:=(ED _).symm.trans H
  try dsimp only at H
  refine qq ?_
  obtain⟨v0,e3,H⟩:=bh H
  obtain⟨h1,e4,o1⟩:=fF (P:=Try.prog) (tf:=3) (E:=af) (l:=s0.ae) (q:=2) (v:=b1) (x:=.int .i64 b1) o0 rfl Z3 e3 rfl rfl
  obtain rfl:=oi H
  exact qr [.v 3 (show bm Try.prog h0 33 (.ptr ao 2)=some (.rs an 0 s0.ae.length 1) from bZ (q:=0) (cs:=[.bool s0.aj,.rs ak 0 s0.aa.length 4,.rs an 0 s0.ae.length 1]) o0 rfl (by kernel_rfl)),.v 6 (bo (k:=.i64) (E:=af) (l:=s0.ae) (q:=2) gK o0 rfl e3),.w 7 e4] <| qq <| q0 <| qt <| ⟨.inl rfl,⟨ak,an,by kernel_rfl,he (by have o:Has h1 ((ao,.ob [.bool s0.aj,.rs ak 0 s0.aa.length 4,.rs an 0 s0.ae.length 1])::(ak,.sl s0.aa.length 4 (ah.l s0.aa))::(an,.sl s0.ae.length 1 (af.l (s0.ae.set a1.toNat b1)))::L):=o1; simpa only [VG] using o)⟩⟩
 clear ED
 intro oV
 refine qq ?_
 obtain⟨x0,e0,H⟩:=bh H
 obtain⟨x1,e1,H⟩:=bh H
 refine qr [.a 2 (EJ _ _ _ e0 h _ (gv (ai (dQ (q:=0) o rfl (ai (fD) (ai (eh (E:=ah) (l:=s0.aa) (q:=1) o rfl (fun _=>rfl)) (ai (eh (E:=af) (l:=s0.ae) (q:=2) o rfl (fun _=>rfl)) (ay))))) (ai (bB) (ay))))),.a 5 (EJ _ _ _ e1 h _ (gv (ai (dQ (q:=0) o rfl (ai (fD) (ai (eh (E:=ah) (l:=s0.aa) (q:=1) o rfl (fun _=>rfl)) (ai (eh (E:=af) (l:=s0.ae) (q:=2) o rfl (fun _=>rfl)) (ay))))) (ai (bB) (ay)))))] <| qc H (fun c0 H=>?_) (fun c0 H=>?_)
 ·refine qq ?_
  obtain⟨x2,e2,H⟩:=bh H
  refine qr [.a 2 (EJ _ _ _ e2 h _ (gv (ai (dQ (q:=0) o rfl (ai (fD) (ai (eh (E:=ah) (l:=s0.aa) (q:=1) o rfl (fun _=>rfl)) (ai (eh (E:=af) (l:=s0.ae) (q:=2) o rfl (fun _=>rfl)) (ay))))) (ai (bB) (ay)))))] <| qc H (fun c1 H=>?_) (fun c1 H=>?_)
  ·exact q0 <| oV (b0,a0) _ ⟨.any,.any,h,by kernel_rfl,o⟩ H
  ·exact qk <| oV (a0,b0) _ ⟨.bool x2,.any,h,by kernel_rfl,o⟩ H
 ·refine q1 <| qc H (fun c2 H=>?_) (fun c2 H=>?_)
  ·exact q0 <| oV (b0,a0) _ ⟨.any,.any,h,by kernel_rfl,o⟩ H
  ·exact qk <| oV (a0,b0) _ ⟨.any,.bool (decide (a0<b0)),h,by kernel_rfl,o⟩ H
end
end Go.Proofs.Ytifafejidnjckaa
namespace Go.Proofs.Ytifafejidnjckaa
open Go Go.R
open Go.IntKind (i64 u64 u8 u32)
def xM:b5:=gX [0,1,4,5,6,7,12,19,29] [] [508,500,436,507,484,356,484,452,196,484,484,502,507] [] []
def dJ.l0 (m:Nat)(s0:List Int)(kq:Int→Option (Bool)):Nat→(List Int)→Int→Int→Option ((List Int) × Int × Int)
 | 0,_,_,_=>none
 | k+1,s1,i0,j0=>if (decide (j0<(s0.length:Int)))=true then ((ix s1 j0).bind fun v0=>(kq v0).bind fun r0=>if (!r0)=true then ((ix s1 i0).bind fun v1=>dJ.l0 m s0 kq k (s1.set i0.toNat v0) (i64.wrap (i0+(1:Int))) (i64.wrap (j0+(1:Int)))) else (dJ.l0 m s0 kq k s1 i0 (i64.wrap (j0+(1:Int))))) else (some ((s1,i0,j0)))
def dJ.f (m:Nat)(s0:List Int)(kq:Int→Option (Bool)):Option ((List Int)):=(cG.f m s0 kq).bind fun x0=>if (x0==(-1:Int))=true then (some s0) else ((dJ.l0 m s0 kq m s0 x0 (i64.wrap (x0+(1:Int)))).bind fun b4=>match b4 with | (s2,i1,j1)=>(Ku s2 i1).bind fun v2=>(sk v2 0 i1).bind fun v3=>some v3)
def dJ.fin (L:Mem)(aI:Nat)(s0:List Int)(kq:Int→Option (Bool))(r:(List Int))(s:St):Prop:=aM Try.prog (s.open xM) Try.f57.results.toList=some (.rs aI 0 r.length 1)∧Has s.h ((aI,.sl r.length 1 (af.l r))::L)
def Rb (cf:CallF)(m:Nat):Prop:=∀(s0:List Int) (kq:Int→Option (Bool)) (r:(List Int)),dJ.f m s0 kq=some r→∀h L (Hf:Nat) (aI:Nat),Has h ((aI,.sl Hf 1 (af.l s0))::L)→∀(eK:FuncId) (aP bX:List AV),(aK (.fn eK aP) = .fn eK aP)→(∀(h:AHeap) (xs:List AV) (a0:Int) r,kq a0=some r→aO bR h xs ([.int .i64 a0]++bX)→cf eK xs h=some (.bool r,h))→(∀h K,Has h (K++(L))→aO cE h aP bX)→(∀h,aO cE h bX bX)→∀xs,xs.map aK=[.rs aI 0 Hf 1,.fn eK aP]→∃h',cf 57 xs h=some (.rs aI 0 r.length 1,h')∧Has h' ((aI,.sl r.length 1 (af.l r))::L)
section
variable {cf:CallF}{m:Nat}
theorem dJ.di (L:Mem)(aI:Nat)(eK:FuncId)(aP bX:List AV)(s0:List Int)(kq:Int→Option (Bool))  (qS:aK (.fn eK aP) = .fn eK aP)(gU:∀(h:AHeap) (xs:List AV) (a0:Int) r,kq a0=some r→aO bR h xs ([.int .i64 a0]++bX)→cf eK xs h=some (.bool r,h))(oU:∀h K,Has h (K++(L))→aO cE h aP bX)(gV:∀h,aO cE h bX bX)  : dV Try.prog cf xM m (sub [1,1,1,0,1,0,0] (b7 Try.f57)) (fun k (σ:(List Int) × Int × Int)=>dJ.l0 m s0 kq k σ.1 σ.2.1 σ.2.2) (fun σ s=>match σ with | (s1,i0,j0)=>∃h0,s=⟨.rs aI 0 s0.length 1 :: .fn eK aP :: .any :: .int .i64 i0 :: .int .i64 j0::og [],[],h0⟩∧Has h0 ((aI,.sl s0.length 1 (af.l s1))::L)) (fun out e s=>(e = .exit 0∧∃s1 i0 j0,(s1,i0,j0)=out∧∃vK Hc OK h0,s=⟨[.rs aI 0 s0.length 1,vK,.any,.int .i64 i0,Hc,.any,.any,OK,.any],[],h0⟩∧Has h0 ((aI,.sl s0.length 1 (af.l s1))::L))):=by
 refine me (fun _=>rfl) ?_
 rintro k ⟨s1,i0,j0⟩ s out ⟨h0,rfl,o0⟩ H
 have H:dJ.l0 m s0 kq (k+1) s1 i0 j0=some out:=H
 refine qq <| qq <| q0 <| qc H (fun c1 H=>?_) (fun c1 H=>?_)
 ·refine qk <| qq <| qb 1 <| qq ?_
  obtain⟨v0,e1,H⟩:=bh H
  refine qr [.v 2 (bo (k:=.i64) (E:=af) (l:=s1) (q:=0) gK o0 rfl e1),.v 3 (dF  (E:=af) (l:=s1) (q:=0) o0 rfl A3 e1 rfl)] <| qq ?_
  obtain⟨r0,e2,H⟩:=bh H
  refine qr [.a 2 (gU _ _ _ _ e2 (Ib (ai (bB) (ay)) (oU h0 [(aI,.sl s0.length 1 (af.l s1))] o0)))] <| qc H (fun c2 H=>?_) (fun c2 H=>?_)
  ·refine qq ?_
   obtain⟨v1,e3,H⟩:=bh H
   obtain⟨h1,e4,o1⟩:=fF (P:=Try.prog) (tf:=3) (E:=af) (l:=s1) (q:=0) (v:=v0) (x:=.int .i64 v0) o0 rfl Z3 e3 rfl rfl
   exact qr [.v 3 (bo (k:=.i64) (E:=af) (l:=s1) (q:=0) gK o0 rfl e3),.w 4 e4] <| q0 <| q0 <| ⟨(s1.set i0.toNat v0,i64.wrap (i0+(1:Int)),i64.wrap (j0+(1:Int))),⟨h1,by kernel_rfl,o1⟩,H⟩
  ·exact qk <| q0 <| ⟨(s1,i0,i64.wrap (j0+(1:Int))),⟨h0,by kernel_rfl,o0⟩,H⟩
 ·exact qx 0 <| ⟨rfl,s1,i0,j0,oi H,.fn eK aP,.int .i64 j0,.bool (decide (j0<(s0.length:Int))),h0,by kernel_rfl,o0⟩
theorem tL {aV:FuncId→b5}(ha:aV 57=xM)(Jw:OD cf m)(s0:List Int)(kq:Int→Option (Bool))(h:AHeap)(L:Mem)(aI:Nat)(eK:FuncId)(aP bX:List AV)  (qS:aK (.fn eK aP) = .fn eK aP)(gU:∀(h:AHeap) (xs:List AV) (a0:Int) r,kq a0=some r→aO bR h xs ([.int .i64 a0]++bX)→cf eK xs h=some (.bool r,h))(oU:∀h K,Has h (K++(L))→aO cE h aP bX)(gV:∀h,aO cE h bX bX)(o:Has h ((aI,.sl s0.length 1 (af.l s0))::L)){out:(List Int)}(H:dJ.f m s0 kq=some out) :
  ∃r h',aZ Try.prog aV cf m 57 [.rs aI 0 s0.length 1,.fn eK aP] h=some (r,h')∧r = .rs aI 0 out.length 1∧Has h' ((aI,.sl out.length 1 (af.l out))::L):=by
 refine ar (fn:=Try.f57) ha Try.func57 (by kernel_rfl) (by kernel_rfl) ?_
 refine aH (Q:=fun s=>dJ.fin L aI s0 kq out s) (fun _ _ ⟨h1,h2,h3⟩=>⟨h1,_,h2,rfl,h3⟩) ?_
 have H:_=some out:=H
 unfold dJ.f at H
 show dp _ cf xM m _ ⟨.rs aI 0 s0.length 1 :: .fn eK aP::H9 [],[],h⟩ _
 refine q1 <| qq ?_
 obtain⟨x0,e0,H⟩:=bh H
 refine qr [.a 2 (Jw _ _ _ e0 eK bX gU gV h _ (gv (ai (eh (E:=af) (l:=s0) (q:=0) o rfl (fun _=>rfl)) (ai (sE (oU h [(aI,.sl s0.length 1 (af.l s0))] o)) (ay)))))] <| qq <| qq <| q0 <| qc H (fun c0 H=>?_) (fun c0 H=>?_)
 ·obtain rfl:=oi H
  exact q1 <| qt <| ⟨.inl rfl,⟨by kernel_rfl,he o⟩⟩
 ·refine qk <| qq <| qq <| q0 <| qb 0 ?_
  obtain⟨b4,e5,H⟩:=bh H
  refine ql (dJ.di L aI eK aP bX s0 kq  qS gU oU gV  (s0,x0,i64.wrap (x0+(1:Int))) _ _ ⟨h,by kernel_rfl,o⟩ e5) ?_
  rintro e s ⟨rfl,s2,i1,j1,rfl,g0,g1,g2,h2,rfl,o2⟩
  try dsimp only at H
  refine qq ?_
  obtain⟨v2,e6,H⟩:=bh H
  obtain⟨h3,e7,o3⟩:=Jl (q:=0) (l:=s2) Ot o2 rfl e6
  refine qr [.v 2 (Jk (E:=af) (k:=.i64) (q:=0) (l:=s2) gK o2 rfl (sD e6).1 (sD e6).2.1),.a 3 e7] <| qq ?_
  obtain⟨v3,e8,H⟩:=bh H
  obtain⟨OL,o4⟩:=I4 (P:=Try.prog) (k:=.i64) (E:=af) (q:=0) o3 rfl gK e8
  obtain rfl:=oi H
  exact qr [.v 2 OL] <| qt <| ⟨.inl rfl,⟨by kernel_rfl,he o4⟩⟩
end
end Go.Proofs.Ytifafejidnjckaa
namespace Go.Proofs.Ytifafejidnjckaa
open Go Go.R
open Go.IntKind (i64 u64 u8 u32)
def AU:b5:=gX [0,1,3] [] [4,3] [] []
def cW.f (m:Nat)(n0:Int)(x0:ab):Option (Bool):=(b8.f m x0 n0).bind fun x1=>some (!x1)
def cW.fin (L:Mem)(r:Bool)(s:St):Prop:=∃av,aM Try.prog (s.open AU) Try.f58.results.toList=some av∧fA s.h av (.bool r)
def Rc (cf:CallF)(m:Nat):Prop:=∀(n0:Int) (x0:ab) (r:Bool),cW.f m n0 x0=some r→∀h xs,aO bR h xs [.int .i64 n0,.fp [.fp [.bool x0.aj,ah.fz x0.aa,af.fz x0.ae] 0] 0]→cf 58 xs h=some (.bool r,h)
section
variable {cf:CallF}{m:Nat}
theorem kr {aV:FuncId→b5}(ha:aV 58=AU)(EJ:Oy cf m)(n0:Int)(x0:ab)(h:AHeap)(L:Mem)  (o:Has h (L)){out:Bool}(H:cW.f m n0 x0=some out) :
  ∃r h',aZ Try.prog aV cf m 58 [.int .i64 n0,.fp [.fp [.bool x0.aj,ah.fz x0.aa,af.fz x0.ae] 0] 0] h=some (r,h')∧fA h' r (.bool out):=by
 refine ar (fn:=Try.f58) ha Try.func58 (by kernel_rfl) (by kernel_rfl) ?_
 refine aH (Q:=fun s=>cW.fin L out s) (fun _ _ h=>h) ?_
 have H:_=some out:=H
 unfold cW.f at H
 show dp _ cf AU m _ ⟨[.int .i64 n0,.fp [.fp [.bool x0.aj,ah.fz x0.aa,af.fz x0.ae] 0] 0,.any],[],h⟩ _
 refine q1 <| qq ?_
 obtain⟨x1,e0,H⟩:=bh H
 obtain rfl:=oi H
 exact qr [.a 2 (EJ _ _ _ e0 h _ (gv (ai (gk (pure_cons (dM) (pure_cons (bL.bG (E:=ah) (l:=x0.aa)) (pure_cons (bL.bG (E:=af) (l:=x0.ae)) (pure_nil))))) (ai (bB) (ay)))))] <| qt <| ⟨.inl rfl,dC (.bool (!x1)) h (dB (aD))⟩
end
end Go.Proofs.Ytifafejidnjckaa
namespace Go.Proofs.Ytifafejidnjckaa
open Go Go.R
open Go.IntKind (i64 u64 u8 u32)
def AW:b5:=gX [0,1,2] [] [4,3] [] []
def cL.f (m:Nat)(x0:ByteArray)(x1:Int):Option (Bool):=(fV.f m x0).bind fun x2=>if x2=true then (some (decide (x1≥(0:Int)))) else (some false)
def cL.fin (L:Mem)(r:Bool)(s:St):Prop:=∃av,aM Try.prog (s.open AW) Try.f63.results.toList=some av∧fA s.h av (.bool r)
def Re (cf:CallF)(m:Nat):Prop:=∀(x0:ByteArray) (x1:Int) (r:Bool),cL.f m x0 x1=some r→∀h xs,aO bR h xs [.fp [.str x0] 0,.fp [.int .i64 x1] 0]→cf 63 xs h=some (.bool r,h)
section
variable {cf:CallF}{m:Nat}
theorem kR {aV:FuncId→b5}(ha:aV 63=AW)(EK:Oz cf m)(x0:ByteArray)(x1:Int)(h:AHeap)(L:Mem)  (o:Has h (L)){out:Bool}(H:cL.f m x0 x1=some out) :
  ∃r h',aZ Try.prog aV cf m 63 [.fp [.str x0] 0,.fp [.int .i64 x1] 0] h=some (r,h')∧fA h' r (.bool out):=by
 refine ar (fn:=Try.f63) ha Try.func63 (by kernel_rfl) (by kernel_rfl) ?_
 refine aH (Q:=fun s=>cL.fin L out s) (fun _ _ h=>h) ?_
 have H:_=some out:=H
 unfold cL.f at H
 show dp _ cf AW m _ ⟨[.fp [.str x0] 0,.fp [.int .i64 x1] 0,.any],[],h⟩ _
 refine q1 <| qq ?_
 obtain⟨x2,e0,H⟩:=bh H
 rcases iA H with⟨c0,H⟩| ⟨c0,H⟩
 ·obtain rfl:=oi H
  exact qr [.a 1 (EK _ _ e0 h _ (gv (ai (cU) (ay)))),.b 2 c0] <| qt <| ⟨.inl rfl,dC (.bool (decide (x1≥(0:Int)))) h (dB (aD))⟩
 ·obtain rfl:=oi H
  exact qr [.a 1 (EK _ _ e0 h _ (gv (ai (cU) (ay)))),.b 2 c0] <| qt <| ⟨.inl rfl,dC (.bool false) h (dB (aD))⟩
end
end Go.Proofs.Ytifafejidnjckaa
namespace Go.Proofs.Ytifafejidnjckaa
open Go Go.R
open Go.IntKind (i64 u64 u8 u32)
def AX:b5:=gX [0,1,4] [] [4,3] [] []
def gN.f (m:Nat)(s0:List aq)(f0:aq→Option (Bool)):Option (Bool):=(eT.f m s0 f0).bind fun x0=>some (decide (x0≥(0:Int)))
def gN.fin (L:Mem)(r:Bool)(s:St):Prop:=∃av,aM Try.prog (s.open AX) Try.f65.results.toList=some av∧fA s.h av (.bool r)
def Rf (cf:CallF)(m:Nat):Prop:=∀(s0:List aq) (f0:aq→Option (Bool)) (r:Bool),gN.f m s0 f0=some r→∀(eK:FuncId) (aP:List AV),(∀(h:AHeap) (xs:List AV) (a0:aq) r,f0 a0=some r→aO bR h xs ([.agg [.int .i64 a0.kind,.int .i64 a0.int,.str a0.label,af.fz a0.args]]++aP)→cf eK xs h=some (.bool r,h))→(∀h,aO cE h aP aP)→∀h xs,aO bR h xs [ah.fz s0,.fn eK aP]→cf 65 xs h=some (.bool r,h)
section
variable {cf:CallF}{m:Nat}
theorem qX {aV:FuncId→b5}(ha:aV 65=AX)(OM:QY cf m)(s0:List aq)(f0:aq→Option (Bool))(h:AHeap)(L:Mem)(eK:FuncId)(aP:List AV)  (gU:∀(h:AHeap) (xs:List AV) (a0:aq) r,f0 a0=some r→aO bR h xs ([.agg [.int .i64 a0.kind,.int .i64 a0.int,.str a0.label,af.fz a0.args]]++aP)→cf eK xs h=some (.bool r,h))(gV:∀h,aO cE h aP aP)(o:Has h (L)){out:Bool}(H:gN.f m s0 f0=some out) :
  ∃r h',aZ Try.prog aV cf m 65 [ah.fz s0,.fn eK aP] h=some (r,h')∧fA h' r (.bool out):=by
 refine ar (fn:=Try.f65) ha Try.func65 (by kernel_rfl) (by kernel_rfl) ?_
 refine aH (Q:=fun s=>gN.fin L out s) (fun _ _ h=>h) ?_
 have H:_=some out:=H
 unfold gN.f at H
 show dp _ cf AX m _ ⟨[ah.fz s0,.fn eK aP,.any],[],h⟩ _
 refine q1 <| qq ?_
 obtain⟨x0,e0,H⟩:=bh H
 obtain rfl:=oi H
 exact qr [.a 2 (OM _ _ _ e0 eK aP gU gV h _ (gv (ai (fy (E:=ah)) (ai (sE (gV h)) (ay)))))] <| qt <| ⟨.inl rfl,dC (.bool (decide (x0≥(0:Int)))) h (dB (aD))⟩
end
end Go.Proofs.Ytifafejidnjckaa
namespace Go.Proofs.Ytifafejidnjckaa
open Go Go.R
open Go.IntKind (i64 u64 u8 u32)
def xN:b5:=gX [0,1,2,6,7,27,29,30,31,37] [] [1016,990,1015,830,574,814,318,1015,830,1015] [] []
def cP.l0 (m:Nat)(s0:ByteArray):Nat→Int→Option (Sum Bool (Int))
 | 0,_=>none
 | k+1,x0=>if (decide (x0<(s0.size:Int)))=true then ((bt s0 x0).bind fun v2=>(fO.f m v2).bind fun x1=>if (!x1)=true then (some (.inl false)) else (cP.l0 m s0 k (i64.wrap (x0+(1:Int))))) else (some (.inr x0))
def cP.f (m:Nat)(s0:ByteArray)(ku:Int)(nG:Int):Option (Bool):=if (decide ((s0.size:Int)<(1:Int)))=true then (some false) else (if (decide ((s0.size:Int) > (16:Int)))=true then (some false) else ((bt s0 (0:Int)).bind fun v0=>if (decide (v0<ku))=true then (some false) else ((bt s0 (0:Int)).bind fun v1=>if (decide (v1 > nG))=true then (some false) else ((cP.l0 m s0 m (0:Int)).bind fun b4=>match b4 with | .inl r0=>some r0 | .inr x2=>some true))))
def cP.fin (L:Mem)(r:Bool)(s:St):Prop:=∃av,aM Try.prog (s.open xN) Try.f74.results.toList=some av∧fA s.h av (.bool r)
def Rh (cf:CallF)(m:Nat):Prop:=∀(s0:ByteArray) (ku:Int) (nG:Int) (r:Bool),cP.f m s0 ku nG=some r→∀h xs,aO bR h xs [.str s0,.int .u8 ku,.int .u8 nG]→cf 74 xs h=some (.bool r,h)
section
variable {cf:CallF}{m:Nat}
theorem cP.di (L:Mem)(s0:ByteArray)  (Jx:OE cf m):dV Try.prog cf xN m (sub [1,1,0,1,0,0] (b7 Try.f74)) (fun k (σ:Int)=>cP.l0 m s0 k σ) (fun σ s=>match σ with | x0=>∃h0,s=⟨.str s0::Ap [.int .i64 (s0.size:Int),.int .i64 x0,.any,.any],[],h0⟩∧Has h0 (L)) (fun out e s=>(e = .exit 0∧∃x0,.inr x0=out∧∃n7 ON Jy OO h0,s=⟨n7::Ap [ON,Jy,OO,.any],[],h0⟩∧Has h0 (L))∨(e = .ret∧∃r,.inl r=out∧cP.fin L r s)):=by
 refine me (fun _=>rfl) ?_
 rintro k x0 s out ⟨h0,rfl,o0⟩ H
 have H:cP.l0 m s0 (k+1) x0=some out:=H
 refine q1 <| qq <| qc H (fun c7 H=>?_) (fun c7 H=>?_)
 ·refine qk <| qq <| qb 1 <| qq <| q0 <| qq ?_
  obtain⟨v2,e2,H⟩:=bh H
  obtain⟨x1,e3,H⟩:=bh H
  refine qr [.v 2 (vz (k:=.i64) U9 e2),.a 3 (Jx _ _ e3 h0 _ (gv (ai (bB) (ay))))] <| qc H (fun c8 H=>?_) (fun c8 H=>?_)
  ·exact q1 <| qt <| Or.inr (⟨rfl,_,oi H,dC (.bool false) h0 (dB (aD))⟩)
  ·exact qk <| q0 <| ⟨i64.wrap (x0+(1:Int)),⟨h0,by kernel_rfl,o0⟩,H⟩
 ·exact qx 0 <| Or.inl (⟨rfl,x0,oi H,.str s0,.int .i64 (s0.size:Int),.int .i64 x0,.bool (decide (x0<(s0.size:Int))),h0,by kernel_rfl,o0⟩)
theorem sL {aV:FuncId→b5}(ha:aV 74=xN)(Jx:OE cf m)(s0:ByteArray)(ku:Int)(nG:Int)(h:AHeap)(L:Mem)  (o:Has h (L)){out:Bool}(H:cP.f m s0 ku nG=some out) :
  ∃r h',aZ Try.prog aV cf m 74 [.str s0,.int .u8 ku,.int .u8 nG] h=some (r,h')∧fA h' r (.bool out):=by
 refine ar (fn:=Try.f74) ha Try.func74 (by kernel_rfl) (by kernel_rfl) ?_
 refine aH (Q:=fun s=>cP.fin L out s) (fun _ _ h=>h) ?_
 have H:_=some out:=H
 unfold cP.f at H
 show dp _ cf xN m _ ⟨.str s0 :: .int .u8 ku :: .int .u8 nG::H9 [],[],h⟩ _
 refine q1 <| qq <| qq ?_
 rcases iA H with⟨c0,H⟩| ⟨c0,H⟩
 ·obtain rfl:=oi H
  exact qr [.b 3 c0] <| LC <| qq <| q0 <| qt <| ⟨.inl rfl,dC (.bool false) h (dB (aD))⟩
 ·rcases iA H with⟨c2,H⟩| ⟨c2,H⟩
  ·obtain rfl:=oi H
   exact qr [.b 3 c0,.b 8 c2] <| LC <| qq <| q0 <| qt <| ⟨.inl rfl,dC (.bool false) h (dB (aD))⟩
  ·obtain⟨v0,e0,H⟩:=bh H
   rcases iA H with⟨c4,H⟩| ⟨c4,H⟩
   ·obtain rfl:=oi H
    exact qr [.b 3 c0,.b 8 c2,.v 10 (vz (k:=.i64) U9 e0),.b 14 c4] <| LC <| qq <| q0 <| qt <| ⟨.inl rfl,dC (.bool false) h (dB (aD))⟩
   ·obtain⟨v1,e1,H⟩:=bh H
    refine qr [.b 3 c0,.b 8 c2,.v 10 (vz (k:=.i64) U9 e0),.b 14 c4,.v 16 (vz (k:=.i64) U9 e1)] <| qc H (fun c6 H=>?_) (fun c6 H=>?_)
    ·obtain rfl:=oi H
     exact q1 <| qt <| ⟨.inl rfl,dC (.bool false) h (dB (aD))⟩
    ·refine qk <| qq <| qq <| q0 <| qb 0 ?_
     obtain⟨b4,e4,H⟩:=bh H
     refine ql (cP.di L s0  Jx (0:Int) _ _ ⟨h,by kernel_rfl,o⟩ e4) ?_
     rintro e s (⟨rfl,x2,rfl,g0,g1,g2,g3,h1,rfl,o1⟩| ⟨rfl,r0,rfl,xC⟩)
     ·try dsimp only at H
      obtain rfl:=oi H
      exact q1 <| qt <| ⟨.inl rfl,dC (.bool true) h1 (dB (aD))⟩
     ·try dsimp only at H
      obtain rfl:=oi H
      exact⟨.inl rfl,xC⟩
end
end Go.Proofs.Ytifafejidnjckaa
namespace Go.Proofs.Ytifafejidnjckaa
open Go Go.R
open Go.IntKind (i64 u64 u8 u32)
end Go.Proofs.Ytifafejidnjckaa
namespace Go.Proofs.Ytifafejidnjckaa
open Go Go.R
open Go.IntKind (i64 u64 u8 u32)
def AY:b5:=gX [0,1,4,5,6,11,12,13,16,19] [] [1020,1012,996,972,959,1019,1019,892,1019,764,1019,511,1019,1019] [] []
def cM.f (m:Nat)(x0:Int)(y0:Int):Option (Int):=(cmp_isNaN_int.f m x0).bind fun x1=>(cmp_isNaN_int.f m y0).bind fun x2=>if x1=true then (if x2=true then (some (0:Int)) else (some (-1:Int))) else (if x2=true then (some (1:Int)) else (if (decide (x0<y0))=true then (some (-1:Int)) else (if (decide (x0 > y0))=true then (some (1:Int)) else (some (0:Int)))))
def cM.fin (L:Mem)(r:Int)(s:St):Prop:=∃av,aM Try.prog (s.open AY) Try.f80.results.toList=some av∧fA s.h av (.int .i64 r)
def Ri (cf:CallF)(m:Nat):Prop:=∀(x0:Int) (y0:Int) (r:Int),cM.f m x0 y0=some r→∀h xs,aO bR h xs [.int .i64 x0,.int .i64 y0]→cf 80 xs h=some (.int .i64 r,h)
section
variable {cf:CallF}{m:Nat}
theorem mN {aV:FuncId→b5}(ha:aV 80=AY)(LQ:Q1 cf m)(x0:Int)(y0:Int)(h:AHeap)(L:Mem)  (o:Has h (L)){out:Int}(H:cM.f m x0 y0=some out) :
  ∃r h',aZ Try.prog aV cf m 80 [.int .i64 x0,.int .i64 y0] h=some (r,h')∧fA h' r (.int .i64 out):=by
 refine ar (fn:=Try.f80) ha Try.func80 (by kernel_rfl) (by kernel_rfl) ?_
 refine aH (Q:=fun s=>cM.fin L out s) (fun _ _ h=>h) ?_
 have H:_=some out:=H
 unfold cM.f at H
 show dp _ cf AY m _ ⟨.int .i64 x0 :: .int .i64 y0::Aq [],[],h⟩ _
 refine q1 <| qq ?_
 obtain⟨x1,e0,H⟩:=bh H
 refine qr [.a 1 (LQ _ _ e0 h _ (gv (ai (bB) (ay))))] <| qq ?_
 obtain⟨x2,e1,H⟩:=bh H
 refine qr [.a 1 (LQ _ _ e1 h _ (gv (ai (bB) (ay))))] <| qq <| qq <| q0 <| qc H (fun c0 H=>?_) (fun c0 H=>?_)
 ·refine qq <| qq <| q0 <| qc H (fun c1 H=>?_) (fun c1 H=>?_)
  ·obtain rfl:=oi H
   exact q1 <| qt <| ⟨.inl rfl,dC (.int .i64 (0:Int)) h (dB (dh))⟩
  ·obtain rfl:=oi H
   exact qk <| qq <| q0 <| qt <| ⟨.inl rfl,dC (.int .i64 (-1:Int)) h (dB (dh))⟩
 ·refine qk <| qq <| qq <| q0 <| qc H (fun c2 H=>?_) (fun c2 H=>?_)
  ·obtain rfl:=oi H
   exact q1 <| qt <| ⟨.inl rfl,dC (.int .i64 (1:Int)) h (dB (dh))⟩
  ·refine qk <| qq <| qq <| q0 <| qc H (fun c3 H=>?_) (fun c3 H=>?_)
   ·obtain rfl:=oi H
    exact q1 <| qt <| ⟨.inl rfl,dC (.int .i64 (-1:Int)) h (dB (dh))⟩
   ·refine qk <| qq <| qq <| q0 <| qc H (fun c4 H=>?_) (fun c4 H=>?_)
    ·obtain rfl:=oi H
     exact q1 <| qt <| ⟨.inl rfl,dC (.int .i64 (1:Int)) h (dB (dh))⟩
    ·obtain rfl:=oi H
     exact qk <| qq <| q0 <| qt <| ⟨.inl rfl,dC (.int .i64 (0:Int)) h (dB (dh))⟩
end
end Go.Proofs.Ytifafejidnjckaa
namespace Go.Proofs.Ytifafejidnjckaa
open Go Go.R
open Go.IntKind (i64 u64 u8 u32)
def AZ:b5:=gX [0,1,4,5,6,11,12,13,16,19] [] [1020,1012,996,972,959,1019,1019,892,1019,764,1019,511,1019,1019] [] []
def cd.f (m:Nat)(x0:ByteArray)(y0:ByteArray):Option (Int):=(cmp_isNaN_string.f m x0).bind fun x1=>(cmp_isNaN_string.f m y0).bind fun x2=>if x1=true then (if x2=true then (some (0:Int)) else (some (-1:Int))) else (if x2=true then (some (1:Int)) else (if (Op.bytesLess x0.data.toList y0.data.toList)=true then (some (-1:Int)) else (if (!Eb x0 y0)=true then (some (1:Int)) else (some (0:Int)))))
def cd.fin (L:Mem)(r:Int)(s:St):Prop:=∃av,aM Try.prog (s.open AZ) Try.f82.results.toList=some av∧fA s.h av (.int .i64 r)
def Rj (cf:CallF)(m:Nat):Prop:=∀(x0:ByteArray) (y0:ByteArray) (r:Int),cd.f m x0 y0=some r→∀h xs,aO bR h xs [.str x0,.str y0]→cf 82 xs h=some (.int .i64 r,h)
section
variable {cf:CallF}{m:Nat}
theorem kS {aV:FuncId→b5}(ha:aV 82=AZ)(LR:Q2 cf m)(x0:ByteArray)(y0:ByteArray)(h:AHeap)(L:Mem)  (o:Has h (L)){out:Int}(H:cd.f m x0 y0=some out) :
  ∃r h',aZ Try.prog aV cf m 82 [.str x0,.str y0] h=some (r,h')∧fA h' r (.int .i64 out):=by
 refine ar (fn:=Try.f82) ha Try.func82 (by kernel_rfl) (by kernel_rfl) ?_
 refine aH (Q:=fun s=>cd.fin L out s) (fun _ _ h=>h) ?_
 have H:_=some out:=H
 unfold cd.f at H
 show dp _ cf AZ m _ ⟨.str x0 :: .str y0::Aq [],[],h⟩ _
 refine q1 <| qq ?_
 obtain⟨x1,e0,H⟩:=bh H
 refine qr [.a 1 (LR _ _ e0 h _ (gv (ai (cU) (ay))))] <| qq ?_
 obtain⟨x2,e1,H⟩:=bh H
 refine qr [.a 1 (LR _ _ e1 h _ (gv (ai (cU) (ay))))] <| qq <| qq <| q0 <| qc H (fun c0 H=>?_) (fun c0 H=>?_)
 ·refine qq <| qq <| q0 <| qc H (fun c1 H=>?_) (fun c1 H=>?_)
  ·obtain rfl:=oi H
   exact q1 <| qt <| ⟨.inl rfl,dC (.int .i64 (0:Int)) h (dB (dh))⟩
  ·obtain rfl:=oi H
   exact qk <| qq <| q0 <| qt <| ⟨.inl rfl,dC (.int .i64 (-1:Int)) h (dB (dh))⟩
 ·refine qk <| qq <| qq <| q0 <| qc H (fun c2 H=>?_) (fun c2 H=>?_)
  ·obtain rfl:=oi H
   exact q1 <| qt <| ⟨.inl rfl,dC (.int .i64 (1:Int)) h (dB (dh))⟩
  ·refine qk <| qq <| qq <| q0 <| qc H (fun c3 H=>?_) (fun c3 H=>?_)
   ·obtain rfl:=oi H
    exact q1 <| qt <| ⟨.inl rfl,dC (.int .i64 (-1:Int)) h (dB (dh))⟩
   ·refine qk <| qq <| qq <| q0 <| qc H (fun c4 H=>?_) (fun c4 H=>?_)
    ·obtain rfl:=oi H
     exact q1 <| qt <| ⟨.inl rfl,dC (.int .i64 (1:Int)) h (dB (dh))⟩
    ·obtain rfl:=oi H
     exact qk <| qq <| q0 <| qt <| ⟨.inl rfl,dC (.int .i64 (0:Int)) h (dB (dh))⟩
end
end Go.Proofs.Ytifafejidnjckaa
namespace Go.Proofs.Ytifafejidnjckaa
open Go Go.R
open Go.IntKind (i64 u64 u8 u32)
end Go.Proofs.Ytifafejidnjckaa
namespace Go.Proofs.Ytifafejidnjckaa
open Go Go.R
open Go.IntKind (i64 u64 u8 u32)
end Go.Proofs.Ytifafejidnjckaa
namespace Go.Proofs.Ytifafejidnjckaa
open Go Go.R
open Go.IntKind (i64 u64 u8 u32)
end Go.Proofs.Ytifafejidnjckaa
namespace Go.Proofs.Ytifafejidnjckaa
open Go Go.R
open Go.IntKind (i64 u64 u8 u32)
end Go.Proofs.Ytifafejidnjckaa
namespace Go.Proofs.Ytifafejidnjckaa
open Go Go.R
open Go.IntKind (i64 u64 u8 u32)
end Go.Proofs.Ytifafejidnjckaa
namespace Go.Proofs.Ytifafejidnjckaa
open Go Go.R
open Go.IntKind (i64 u64 u8 u32)
end Go.Proofs.Ytifafejidnjckaa
namespace Go.Proofs.Ytifafejidnjckaa
open Go Go.R
open Go.IntKind (i64 u64 u8 u32)
def sM:b5:=gX [0,1,2,3,4,10,11,20,23] [] [450,394,266,138,394,394,394,394,511] [] []
def eU.l0 (m:Nat)(m0:Int)(aQ:Int→Int→Option (Int)):Nat→(List Int)→Int→Int→Option ((List Int) × Int × Int)
 | 0,_,_,_=>none
 | k+1,bl,i0,j0=>if (!(i0==j0))=true then (if (decide (i0 > j0))=true then ((bT.f m bl (i64.wrap (m0 - i0)) m0 j0 aQ).bind fun x0=>eU.l0 m m0 aQ k x0 (i64.wrap (i0 - j0)) j0) else ((bT.f m bl (i64.wrap (m0 - i0)) (i64.wrap (i64.wrap (m0+j0) - i0)) i0 aQ).bind fun x1=>eU.l0 m m0 aQ k x1 i0 (i64.wrap (j0 - i0)))) else (some ((bl,i0,j0)))
def eU.f (m:Nat)(aw:List Int)(a0:Int)(m0:Int)(b0:Int)(aQ:Int→Int→Option (Int)):Option ((List Int)):=(eU.l0 m m0 aQ m aw (i64.wrap (m0 - a0)) (i64.wrap (b0 - m0))).bind fun b4=>match b4 with | (dc,i1,j1)=>(bT.f m dc (i64.wrap (m0 - i1)) m0 i1 aQ).bind fun x2=>some x2
def eU.fin (L:Mem)(aI:Nat)(aw:List Int)(a0:Int)(m0:Int)(b0:Int)(aQ:Int→Int→Option (Int))(r:(List Int))(s:St):Prop:=aM Try.prog (s.open sM) Try.f108.results.toList=some (.tup [])∧Has s.h ((aI,.sl aw.length 1 (af.l r))::L)
def LS (cf:CallF)(m:Nat):Prop:=∀(aw:List Int) (a0:Int) (m0:Int) (b0:Int) (aQ:Int→Int→Option (Int)) (r:(List Int)),eU.f m aw a0 m0 b0 aQ=some r→∀h L (cm:Nat) (aI:Nat),Has h ((aI,.sl cm 1 (af.l aw))::L)→∀(eL:FuncId) (a6 aS:List AV),(aK (.fn eL a6) = .fn eL a6)→(∀(h:AHeap) (xs:List AV) (a0:Int) (a1:Int) r,aQ a0 a1=some r→aO bR h xs ([.int .i64 a0,.int .i64 a1]++aS)→cf eL xs h=some (.int .i64 r,h))→(∀h K,Has h (K++(L))→aO cE h a6 aS)→(∀h,aO cE h aS aS)→∀xs,xs.map aK=[.rs aI 0 cm 1,.int .i64 a0,.int .i64 m0,.int .i64 b0,.fn eL a6]→∃h',cf 108 xs h=some (.tup [],h')∧Has h' ((aI,.sl cm 1 (af.l r))::L)
section
variable {cf:CallF}{m:Nat}
theorem eU.di (L:Mem)(aI:Nat)(eL:FuncId)(a6 aS:List AV)(aw:List Int)(a0:Int)(m0:Int)(b0:Int)(aQ:Int→Int→Option (Int))  (gM:aK (.fn eL a6) = .fn eL a6)(hY:∀(h:AHeap) (xs:List AV) (a0:Int) (a1:Int) r,aQ a0 a1=some r→aO bR h xs ([.int .i64 a0,.int .i64 a1]++aS)→cf eL xs h=some (.int .i64 r,h))(hZ:∀h K,Has h (K++(L))→aO cE h a6 aS)(iL:∀h,aO cE h aS aS)(xO:Jv cf m):dV Try.prog cf sM m (sub [1,1,0,0,0] (b7 Try.f108)) (fun k (σ:(List Int) × Int × Int)=>eU.l0 m m0 aQ k σ.1 σ.2.1 σ.2.2) (fun σ s=>match σ with | (bl,i0,j0)=>∃h0,s=⟨[.rs aI 0 aw.length 1,.any,.int .i64 m0,.any,.fn eL a6,.int .i64 i0,.int .i64 j0,.any,.any],[],h0⟩∧Has h0 ((aI,.sl aw.length 1 (af.l bl))::L)) (fun out e s=>(e = .exit 0∧∃bl i0 j0,(bl,i0,j0)=out∧∃EL OP h0,s=⟨[.rs aI 0 aw.length 1,.any,.int .i64 m0,.any,.fn eL a6,.int .i64 i0,EL,OP,.any],[],h0⟩∧Has h0 ((aI,.sl aw.length 1 (af.l bl))::L))):=by
 refine me (fun _=>rfl) ?_
 rintro k ⟨bl,i0,j0⟩ s out ⟨h0,rfl,o0⟩ H
 have H:eU.l0 m m0 aQ (k+1) bl i0 j0=some out:=H
 refine qq <| qq <| q0 <| qc H (fun c0 H=>?_) (fun c0 H=>?_)
 ·refine qk <| qb 1 <| qq <| q0 <| qc H (fun c1 H=>?_) (fun c1 H=>?_)
  ·refine qq ?_
   obtain⟨x0,e0,H⟩:=bh H
   obtain⟨h1,e1,o1⟩:=xO _ _ _ _ _ _ e0 h0 _ _ _ (o0) eL a6 aS gM hY (fun h' K' o'=>hZ h' (K'++[]) (by simpa only [VK,Wb,V9] using o')) iL [.rs aI 0 aw.length 1,.int .i64 (i64.wrap (m0 - i0)),.int .i64 m0,.int .i64 j0,.fn eL a6] (au (rfl) (au (aL (bj)) (au (aL (bj)) (au (aL (bj)) (au (gM) (bE))))))
   exact qr [.a 7 e1] <| q0 <| ⟨(x0,i64.wrap (i0 - j0),j0),⟨h1,by kernel_rfl,o1⟩,H⟩
  ·refine qq ?_
   obtain⟨x1,e2,H⟩:=bh H
   obtain⟨h2,e3,o2⟩:=xO _ _ _ _ _ _ e2 h0 _ _ _ (o0) eL a6 aS gM hY (fun h' K' o'=>hZ h' (K'++[]) (by simpa only [VK,Wb,V9] using o')) iL [.rs aI 0 aw.length 1,.int .i64 (i64.wrap (m0 - i0)),.int .i64 (i64.wrap (i64.wrap (m0+j0) - i0)),.int .i64 i0,.fn eL a6] (au (rfl) (au (aL (bj)) (au (aL (bj)) (au (aL (bj)) (au (gM) (bE))))))
   exact qr [.a 11 e3] <| q0 <| ⟨(x1,i0,i64.wrap (j0 - i0)),⟨h2,by kernel_rfl,o2⟩,H⟩
 ·exact qx 0 <| ⟨rfl,bl,i0,j0,oi H,.int .i64 j0,.bool (!(i0==j0)),h0,by kernel_rfl,o0⟩
theorem vP {aV:FuncId→b5}(ha:aV 108=sM)(xO:Jv cf m)(aw:List Int)(a0:Int)(m0:Int)(b0:Int)(aQ:Int→Int→Option (Int))(h:AHeap)(L:Mem)(aI:Nat)(eL:FuncId)(a6 aS:List AV)  (gM:aK (.fn eL a6) = .fn eL a6)(hY:∀(h:AHeap) (xs:List AV) (a0:Int) (a1:Int) r,aQ a0 a1=some r→aO bR h xs ([.int .i64 a0,.int .i64 a1]++aS)→cf eL xs h=some (.int .i64 r,h))(hZ:∀h K,Has h (K++(L))→aO cE h a6 aS)(iL:∀h,aO cE h aS aS)(o:Has h ((aI,.sl aw.length 1 (af.l aw))::L)){out:(List Int)}(H:eU.f m aw a0 m0 b0 aQ=some out) :
  ∃r h',aZ Try.prog aV cf m 108 [.rs aI 0 aw.length 1,.int .i64 a0,.int .i64 m0,.int .i64 b0,.fn eL a6] h=some (r,h')∧r = .tup []∧Has h' ((aI,.sl aw.length 1 (af.l out))::L):=by
 refine ar (fn:=Try.f108) ha Try.func108 (by kernel_rfl) (by kernel_rfl) ?_
 refine aH (Q:=fun s=>eU.fin L aI aw a0 m0 b0 aQ out s) (fun _ _ ⟨h1,h2,h3⟩=>⟨h1,_,h2,rfl,h3⟩) ?_
 have H:_=some out:=H
 unfold eU.f at H
 show dp _ cf sM m _ ⟨.rs aI 0 aw.length 1 :: .int .i64 a0 :: .int .i64 m0 :: .int .i64 b0 :: .fn eL a6::og [],[],h⟩ _
 refine q1 <| qq <| q0 <| qq <| qb 0 ?_
 obtain⟨b4,e4,H⟩:=bh H
 refine ql (eU.di L aI eL a6 aS aw a0 m0 b0 aQ  gM hY hZ iL xO (aw,i64.wrap (m0 - a0),i64.wrap (b0 - m0)) _ _ ⟨h,by kernel_rfl,o⟩ e4) ?_
 rintro e s ⟨rfl,dc,i1,j1,rfl,g0,g1,h3,rfl,o3⟩
 try dsimp only at H
 obtain⟨x2,e5,H⟩:=bh H
 obtain⟨h4,e6,o4⟩:=xO _ _ _ _ _ _ e5 h3 _ _ _ (o3) eL a6 aS gM hY (fun h' K' o'=>hZ h' (K'++[]) (by simpa only [VK,Wb,V9] using o')) iL [.rs aI 0 aw.length 1,.int .i64 (i64.wrap (m0 - i1)),.int .i64 m0,.int .i64 i1,.fn eL a6] (au (rfl) (au (aL (bj)) (au (aL (bj)) (au (aL (bj)) (au (gM) (bE))))))
 obtain rfl:=oi H
 exact qr [.a 7 e6] <| ⟨.inr rfl,⟨by kernel_rfl,he o4⟩⟩
end
end Go.Proofs.Ytifafejidnjckaa
namespace Go.Proofs.Ytifafejidnjckaa
open Go Go.R
open Go.IntKind (i64 u64 u8 u32)
def A0:b5:=gX [0,1,2,4,5,9] [] [57,41,55,31,55,55] [] []
def bV.f (m:Nat)(s0:ab)(l0:List Int):Option (Int):=(bH.f m s0).bind fun x0=>if (!x0)=true then (some (6:Int)) else ((eA.f m l0 (fun y0=>cV.f m y0 s0)).bind fun x1=>if x1=true then (some (1:Int)) else (some (0:Int)))
def bV.fin (L:Mem)(r:Int)(s:St):Prop:=∃av,aM Try.prog (s.open A0) Try.f30.results.toList=some av∧fA s.h av (.int .i64 r)
def MW (cf:CallF)(m:Nat):Prop:=∀(s0:ab) (l0:List Int) (r:Int),bV.f m s0 l0=some r→∀h xs,aO bR h xs [.fp [.bool s0.aj,ah.fz s0.aa,af.fz s0.ae] 0,af.fz l0]→cf 30 xs h=some (.int .i64 r,h)
section
variable {cf:CallF}{m:Nat}
theorem lF {aV:FuncId→b5}(ha:aV 30=A0)(zi:LP cf m)(EM:MV cf m)(OQ:Ra cf m)(s0:ab)(l0:List Int)(h:AHeap)(L:Mem)  (o:Has h (L)){out:Int}(H:bV.f m s0 l0=some out) :
  ∃r h',aZ Try.prog aV cf m 30 [.fp [.bool s0.aj,ah.fz s0.aa,af.fz s0.ae] 0,af.fz l0] h=some (r,h')∧fA h' r (.int .i64 out):=by
 refine ar (fn:=Try.f30) ha Try.func30 (by kernel_rfl) (by kernel_rfl) ?_
 refine aH (Q:=fun s=>bV.fin L out s) (fun _ _ h=>h) ?_
 have H:_=some out:=H
 unfold bV.f at H
 show dp _ cf A0 m _ ⟨.fp [.bool s0.aj,ah.fz s0.aa,af.fz s0.ae] 0::af.fz l0::og [],[],h⟩ _
 refine qq ?_
 obtain⟨aI,h0,e0,o0⟩:=gw (cs:=[.fp [.bool s0.aj,ah.fz s0.aa,af.fz s0.ae] 0]) o (by kernel_rfl)
 refine qr [.a 0 e0] <| qq <| qb 0 <| qq ?_
 obtain⟨x0,e1,H⟩:=bh H
 refine qr [.v 0 (show bm Try.prog h0 28 (.ptr aI 0)=some (.fp [.bool s0.aj,ah.fz s0.aa,af.fz s0.ae] 0) from bZ (q:=0) (cs:=[.fp [.bool s0.aj,ah.fz s0.aa,af.fz s0.ae] 0]) o0 rfl (by kernel_rfl)),.a 1 (zi _ _ e1 h0 _ (gv (ai (gk (pure_cons (dM) (pure_cons (bL.bG (E:=ah) (l:=s0.aa)) (pure_cons (bL.bG (E:=af) (l:=s0.ae)) (pure_nil))))) (ay))))] <| qc H (fun c0 H=>?_) (fun c0 H=>?_)
 ·refine q1 ?_
  have o1:Has h0 (L):=Has.del o0 0
  obtain rfl:=oi H
  exact qt <| ⟨.inl rfl,dC (.int .i64 (6:Int)) h0 (dB (dh))⟩
 ·refine qq ?_
  obtain⟨x1,e2,H⟩:=bh H
  refine qr [.a 2 (EM _ _ _ e2 53 [.fp [.fp [.bool s0.aj,ah.fz s0.aa,af.fz s0.ae] 0] 0] (fun h' tK y0 r hr hx=>OQ y0 _ r hr h' tK hx) (fun h_=>iP (ai (gk (pure_cons (lB (pure_cons (dM) (pure_cons (bL.bG (E:=ah) (l:=s0.aa)) (pure_cons (bL.bG (E:=af) (l:=s0.ae)) (pure_nil))))) (pure_nil))) (ay))) h0 _ (gv (ai (fy (E:=af)) (ai (sE (ai (dQ (q:=0) o0 rfl (ai (gk (pure_cons (dM) (pure_cons (bL.bG (E:=ah) (l:=s0.aa)) (pure_cons (bL.bG (E:=af) (l:=s0.ae)) (pure_nil))))) (ay))) (ay))) (ay)))))] ?_
  have o2:Has h0 (L):=Has.del o0 0
  refine qc H (fun c1 H=>?_) (fun c1 H=>?_)
  ·obtain rfl:=oi H
   exact q1 <| qt <| ⟨.inl rfl,dC (.int .i64 (1:Int)) h0 (dB (dh))⟩
  ·obtain rfl:=oi H
   exact qk <| qq <| q0 <| qt <| ⟨.inl rfl,dC (.int .i64 (0:Int)) h0 (dB (dh))⟩
end
end Go.Proofs.Ytifafejidnjckaa
namespace Go.Proofs.Ytifafejidnjckaa
open Go Go.R
open Go.IntKind (i64 u64 u8 u32)
def uz:b5:=gX [0,1,2,6,7,8,9,10,11,12,13,14,22,46,70,73,77,78,79] [11,12,13,18] [524280,524248,524190,524062,519966,524062,523806,515614,522270,505886,489502,524263,325662,63518,323614,325662,325662,524062,524263] [] [(1,[(8,none,1)])]
def az.l1 (m:Nat)(v2:aq)(v3:aq):Nat→(List a7)→Int→ab→Option ((List a7) × Int × ab)
 | 0,_,_,_=>none
 | k+1,jU,x3,s2=>if (decide (x3<(v2.args.length:Int)))=true then ((ix v2.args x3).bind fun v4=>(ix v3.args x3).bind fun v5=>(app 16 jU ([(a7.mk v4 v5)])).bind fun x4=>az.l1 m v2 v3 k x4 (i64.wrap (x3+(1:Int))) s2) else (some ((jU,x3,s2)))
def az.l0 (m:Nat)  : Nat→(List Int)→(List a7)→Int→ab→Option (Sum ((List Int) × Bool × ab) ((List Int) × (List a7) × Int × ab))
 | 0,_,_,_,_=>none
 | k+1,aF,fi,k0,s1=>if (decide (k0<(fi.length:Int)))=true then ((ix fi k0).bind fun v0=>(ba.f m s1 v0.jZ).bind fun x0=>(ix fi k0).bind fun v1=>(ba.f m s1 v1.la).bind fun x1=>if ((x0==x0)&&(x1==x0))=true then (az.l0 m k aF fi (i64.wrap (k0+(1:Int))) s1) else ((ix s1.aa x0).bind fun v2=>(ix s1.aa x1).bind fun v3=>if (!(v2.kind==(0:Int)))=true then (if (!(v3.kind==(0:Int)))=true then ((fh.f m v2 v3).bind fun x2=>if x2=true then (some (.inl (aF,false,s1))) else ((az.l1 m v2 v3 m fi (0:Int) s1).bind fun b4=>match b4 with | (EN,x5,s3)=>(cp.f m s3 x0 x1).bind fun x6=>(app 8 aF ([x6.1])).bind fun x7=>az.l0 m k x7 EN (i64.wrap (k0+(1:Int))) x6.2)) else ((cp.f m s1 x0 x1).bind fun x8=>(app 8 aF ([x8.1])).bind fun x9=>az.l0 m k x9 fi (i64.wrap (k0+(1:Int))) x8.2)) else ((cp.f m s1 x0 x1).bind fun kB=>(app 8 aF ([kB.1])).bind fun AJ=>az.l0 m k AJ fi (i64.wrap (k0+(1:Int))) kB.2))) else (some (.inr (aF,fi,k0,s1)))
def az.f (m:Nat)(s0:ab)(a0:Int)(b0:Int):Option ((List Int) × Bool × ab):=(az.l0 m m ([]:List Int) ([(a7.mk a0 b0)]) (0:Int) s0).bind fun dv=>match dv with | .inl r0=>some r0 | .inr (oZ,LU,k1,s4)=>some (oZ,true,s4)
def az.fin (L:Mem)(ao:Nat)(ak:Nat)(an:Nat)(s0:ab)(a0:Int)(b0:Int)(r:(List Int) × Bool × ab)(s:St):Prop:=∃fc aA aB:Nat,aM Try.prog (s.open uz) Try.f31.results.toList=some (.tup [.rs fc 0 r.1.length 1,.bool r.2.1])∧Has s.h ((fc,.sl r.1.length 1 (af.l r.1))::(ao,.ob [.bool r.2.2.aj,.rs aA 0 r.2.2.aa.length 4,.rs aB 0 r.2.2.ae.length 1])::(aA,.sl r.2.2.aa.length 4 (ah.l r.2.2.aa))::(aB,.sl r.2.2.ae.length 1 (af.l r.2.2.ae))::L)
def OR (cf:CallF)(m:Nat):Prop:=∀(s0:ab) (a0:Int) (b0:Int) (r:(List Int) × Bool × ab),az.f m s0 a0 b0=some r→∀h L (ao:Nat) (ak:Nat) (an:Nat),Has h ((ao,.ob [.bool s0.aj,.rs ak 0 s0.aa.length 4,.rs an 0 s0.ae.length 1])::(ak,.sl s0.aa.length 4 (ah.l s0.aa))::(an,.sl s0.ae.length 1 (af.l s0.ae))::L)→∀xs,xs.map aK=[.ptr ao 0,.int .i64 a0,.int .i64 b0]→∃fc aA aB h',cf 31 xs h=some (.tup [.rs fc 0 r.1.length 1,.bool r.2.1],h')∧Has h' ((fc,.sl r.1.length 1 (af.l r.1))::(ao,.ob [.bool r.2.2.aj,.rs aA 0 r.2.2.aa.length 4,.rs aB 0 r.2.2.ae.length 1])::(aA,.sl r.2.2.aa.length 4 (ah.l r.2.2.aa))::(aB,.sl r.2.2.ae.length 1 (af.l r.2.2.ae))::L)
section
variable {cf:CallF}{m:Nat}
theorem az.mK (L:Mem)(ao:Nat)(ak:Nat)(an:Nat)(s0:ab)(a0:Int)(b0:Int)(dR:Nat)(aF:List Int)(k0:Int)(dR:Nat)(x0:Int)(x1:Int)(v2:aq)(v3:aq)   : dV Try.prog cf uz m (sub [1,1,1,0,1,0,0,1,0,0,1,1,1,0,1,0,1,1,0,0] (b7 Try.f31)) (fun k (σ:(List a7) × Int × ab)=>az.l1 m v2 v3 k σ.1 σ.2.1 σ.2.2) (fun σ s=>match σ with | (jU,x3,s2)=>∃fo gC gA h2,s=⟨.ptr ao 0::og (.rs dR 0 aF.length 1 :: .rs fo 0 jU.length 2 :: .int .i64 k0 :: .lp 11 0 :: .lp 12 0 :: .lp 13 0::Ap [.int .i64 (v2.args.length:Int),.int .i64 x3,.any]),[some [.int .i64 x0,.int .i64 x1],some [.int .i64 v2.kind,.int .i64 v2.int,.str v2.label,af.fz v2.args],some [.int .i64 v3.kind,.int .i64 v3.int,.str v3.label,af.fz v3.args],none],h2⟩∧Has h2 ((fo,.sl jU.length 2 (dG.l jU))::(dR,.sl aF.length 1 (af.l aF))::(ao,.ob [.bool s2.aj,.rs gC 0 s2.aa.length 4,.rs gA 0 s2.ae.length 1])::(gC,.sl s2.aa.length 4 (ah.l s2.aa))::(gA,.sl s2.ae.length 1 (af.l s2.ae))::L)) (fun out e s=>(e = .exit 2∧∃jU x3 s2,(jU,x3,s2)=out∧∃OS sI OT OU OV OW OX fo gC gA h2,s=⟨.ptr ao 0::og (.rs dR 0 aF.length 1 :: .rs fo 0 jU.length 2 :: .int .i64 k0 :: .lp 11 0::OS::sI::Ap [OT,OU,OV]),[some [.int .i64 x0,.int .i64 x1],OW,OX,none],h2⟩∧Has h2 ((fo,.sl jU.length 2 (dG.l jU))::(dR,.sl aF.length 1 (af.l aF))::(ao,.ob [.bool s2.aj,.rs gC 0 s2.aa.length 4,.rs gA 0 s2.ae.length 1])::(gC,.sl s2.aa.length 4 (ah.l s2.aa))::(gA,.sl s2.ae.length 1 (af.l s2.ae))::L))):=by
 refine me (fun _=>rfl) ?_
 rintro k ⟨jU,x3,s2⟩ s out ⟨fo,gC,gA,h2,rfl,o4⟩ H
 have H:az.l1 m v2 v3 (k+1) jU x3 s2=some out:=H
 refine q1 <| qq <| qc H (fun c5 H=>?_) (fun c5 H=>?_)
 ·refine qk <| qq <| qb 3 <| qq <| q0 ?_
  obtain⟨v4,e8,H⟩:=bh H
  obtain⟨v5,e9,H⟩:=bh H
  obtain⟨x4,tw,H⟩:=bh H
  obtain⟨jd,h3,wv,o5⟩:=gH (P:=Try.prog) (E:=dG) (l:=jU) (q:=0) (t2:=93) (x:=.fz [.int .i64 v4,.int .i64 v5] 1 true) (l2:=([(a7.mk v4 v5)])) Oq o4 rfl (by kernel_rfl) rfl tw
  exact qr [.v 4 (eW (k:=.i64) (E:=af) (l:=v2.args) gK e8),.v 5 (ij  (E:=af) (l:=v2.args) h2 A3 e8 rfl),.v 9 (eW (k:=.i64) (E:=af) (l:=v3.args) gK e9),.v 10 (ij  (E:=af) (l:=v3.args) h2 A3 e9 rfl),.a 13 wv] <| q0 <| ⟨(x4,i64.wrap (x3+(1:Int)),s2),⟨jd,gC,gA,h3,by kernel_rfl,o5⟩,H⟩
 ·exact qx 2 <| ⟨rfl,jU,x3,s2,oi H,.lp 12 0,.lp 13 0,.int .i64 (v2.args.length:Int),.int .i64 x3,.bool (decide (x3<(v2.args.length:Int))),some [.int .i64 v2.kind,.int .i64 v2.int,.str v2.label,af.fz v2.args],some [.int .i64 v3.kind,.int .i64 v3.int,.str v3.label,af.fz v3.args],fo,gC,gA,h2,by kernel_rfl,o4⟩
theorem az.di (L:Mem)(ao:Nat)(ak:Nat)(an:Nat)(s0:ab)(a0:Int)(b0:Int)  (CK:MT cf m)(Jz:Ox cf m)(EO:OJ cf m):dV Try.prog cf uz m (sub [1,1,1,0,1,0,0] (b7 Try.f31)) (fun k (σ:(List Int) × (List a7) × Int × ab)=>az.l0 m k σ.1 σ.2.1 σ.2.2.1 σ.2.2.2) (fun σ s=>match σ with | (aF,fi,k0,s1)=>∃eS dR cD eB h1,s=⟨.ptr ao 0::og (.rs dR 0 aF.length 1 :: .rs eS 0 fi.length 2 :: .int .i64 k0::tI []),[none,none,none,none],h1⟩∧Has h1 ((eS,.sl fi.length 2 (dG.l fi))::(dR,.sl aF.length 1 (af.l aF))::(ao,.ob [.bool s1.aj,.rs cD 0 s1.aa.length 4,.rs eB 0 s1.ae.length 1])::(cD,.sl s1.aa.length 4 (ah.l s1.aa))::(eB,.sl s1.ae.length 1 (af.l s1.ae))::L)) (fun out e s=>(e = .exit 0∧∃aF fi k0 s1,.inr (aF,fi,k0,s1)=out∧∃n7 CF zn EP eS dR cD eB h1,s=⟨n7::og (.rs dR 0 aF.length 1::CF::zn::og (EP::xo [])),[none,none,none,none],h1⟩∧Has h1 ((eS,.sl fi.length 2 (dG.l fi))::(dR,.sl aF.length 1 (af.l aF))::(ao,.ob [.bool s1.aj,.rs cD 0 s1.aa.length 4,.rs eB 0 s1.ae.length 1])::(cD,.sl s1.aa.length 4 (ah.l s1.aa))::(eB,.sl s1.ae.length 1 (af.l s1.ae))::L))∨(e = .ret∧∃r,.inl r=out∧az.fin L ao ak an s0 a0 b0 r s)):=by
 refine me (fun _=>rfl) ?_
 rintro k ⟨aF,fi,k0,s1⟩ s out ⟨eS,dR,cD,eB,h1,rfl,o2⟩ H
 have H:az.l0 m (k+1) aF fi k0 s1=some out:=H
 refine qq <| qq <| q0 <| qc H (fun c0 H=>?_) (fun c0 H=>?_)
 ·refine qk <| qq <| qb 1 <| qq ?_
  obtain⟨v0,e1,H⟩:=bh H
  obtain⟨x0,e2,H⟩:=bh H
  obtain⟨v1,e3,H⟩:=bh H
  obtain⟨x1,e4,H⟩:=bh H
  refine LI [] [.v 3 (bo (k:=.i64) (E:=dG) (l:=fi) (q:=0) Oq o2 rfl e1),.v 5 (Al  (E:=dG) (l:=fi) (q:=0) (off:=0) o2 rfl A3 e1 rfl),.a 6 (CK _ _ _ e2 h1 _ (gv (ai (dQ (q:=2) o2 rfl (ai (fD) (ai (eh (E:=ah) (l:=s1.aa) (q:=3) o2 rfl (fun _=>rfl)) (ai (eh (E:=af) (l:=s1.ae) (q:=4) o2 rfl (fun _=>rfl)) (ay))))) (ai (bB) (ay))))),.v 10 (bo (k:=.i64) (E:=dG) (l:=fi) (q:=0) Oq o2 rfl e3),.v 12 (Al  (E:=dG) (l:=fi) (q:=0) (off:=1) o2 rfl A3 e3 rfl),.a 13 (CK _ _ _ e4 h1 _ (gv (ai (dQ (q:=2) o2 rfl (ai (fD) (ai (eh (E:=ah) (l:=s1.aa) (q:=3) o2 rfl (fun _=>rfl)) (ai (eh (E:=af) (l:=s1.ae) (q:=4) o2 rfl (fun _=>rfl)) (ay))))) (ai (bB) (ay)))))] [.mk (h:=h1) (h':=h1) (i:=eS) rfl] ?_
  refine qq <| qq <| qr [.v 6 (show jF Try.prog .eql 92 (.agg [.int .i64 x0,.int .i64 x1]) (.agg [.int .i64 x0,.int .i64 x0])=some (.bool ((x0==x0)&&(x1==x0))) from G9 Ou)] <| qc H (fun c1 H=>?_) (fun c1 H=>?_)
  ·exact qx 1 <| q0 <| ⟨(aF,fi,i64.wrap (k0+(1:Int)),s1),⟨eS,dR,cD,eB,h1,by kernel_rfl,o2⟩,H⟩
  ·refine qk <| qq ?_
   obtain⟨v2,e5,H⟩:=bh H
   obtain⟨v3,e6,H⟩:=bh H
   refine qr [.v 3 (show bm Try.prog h1 40 (.ptr ao 1)=some (.rs cD 0 s1.aa.length 4) from bZ (q:=2) (cs:=[.bool s1.aj,.rs cD 0 s1.aa.length 4,.rs eB 0 s1.ae.length 1]) o2 rfl (by kernel_rfl)),.v 6 (bo (k:=.i64) (E:=ah) (l:=s1.aa) (q:=3) yx o2 rfl e5),.v 7 (vw  (E:=ah) (l:=s1.aa) (q:=3) o2 rfl Ge Gf e5),.v 11 (show bm Try.prog h1 40 (.ptr ao 1)=some (.rs cD 0 s1.aa.length 4) from bZ (q:=2) (cs:=[.bool s1.aj,.rs cD 0 s1.aa.length 4,.rs eB 0 s1.ae.length 1]) o2 rfl (by kernel_rfl)),.v 14 (bo (k:=.i64) (E:=ah) (l:=s1.aa) (q:=3) yx o2 rfl e6),.v 15 (vw  (E:=ah) (l:=s1.aa) (q:=3) o2 rfl Ge Gf e6)] <| qq <| qq ?_
   rcases iA H with⟨c2,H⟩| ⟨c2,H⟩
   ·refine qr [.b 3 c2] <| qc H (fun c3 H=>?_) (fun c3 H=>?_)
    ·refine qq <| qq ?_
     obtain⟨x2,e7,H⟩:=bh H
     refine qr [.a 2 (Jz _ _ _ e7 h1 _ (gv (ai (jS (ai (bB) (ai (bB) (ai (cU) (ai (fy (E:=af)) (ay)))))) (ai (jS (ai (bB) (ai (bB) (ai (cU) (ai (fy (E:=af)) (ay)))))) (ay)))))] <| qc H (fun c4 H=>?_) (fun c4 H=>?_)
     ·refine q1 ?_
      have o3:Has h1 ((dR,.sl aF.length 1 (af.l aF))::(ao,.ob [.bool s1.aj,.rs cD 0 s1.aa.length 4,.rs eB 0 s1.ae.length 1])::(cD,.sl s1.aa.length 4 (ah.l s1.aa))::(eB,.sl s1.ae.length 1 (af.l s1.ae))::L):=Has.del o2 0
      exact qt <| Or.inr (⟨rfl,_,oi H,⟨dR,cD,eB,by kernel_rfl,he o3⟩⟩)
     ·refine qk <| qq <| q0 <| qb 2 ?_
      obtain⟨b4,zj,H⟩:=bh H
      refine ql (az.mK L ao ak an s0 a0 b0 dR aF k0 dR x0 x1 v2 v3   (fi,(0:Int),s1) _ _ ⟨eS,cD,eB,h1,by kernel_rfl,o2⟩ zj) ?_
      rintro e s ⟨rfl,EN,x5,s3,rfl,g0,g1,g2,g3,g4,g5,g6,Dh,il,iZ,h4,rfl,o6⟩
      try dsimp only at H
      obtain⟨x6,yy,H⟩:=bh H
      obtain⟨kT,ec,h5,CG,o7⟩:=EO _ _ _ _ yy h4 _ _ _ _ ((Has.front (Has.front (Has.front (Has.front (Has.front o6 1 rfl) 1 rfl) 4 rfl) 4 rfl) 4 rfl))  [.ptr ao 0,.int .i64 x0,.int .i64 x1] (au (rfl) (au (aL (bj)) (au (aL (bj)) (bE))))
      obtain⟨x7,A6,H⟩:=bh H
      obtain⟨fW,h6,ER,o8⟩:=gH (P:=Try.prog) (E:=af) (l:=aF) (q:=4) (t2:=33) (x:=.fz [.int .i64 x6.1] 1 true) (l2:=([x6.1])) gK o7 rfl (by kernel_rfl) rfl A6
      exact qr [.a 6 CG,.a 8 ER] <| q0 <| ⟨(x7,EN,i64.wrap (k0+(1:Int)),x6.2),⟨Dh,fW,kT,ec,h6,by kernel_rfl,(Has.front (Has.front (Has.front (Has.front (Has.front o8 2 rfl) 2 rfl) 2 rfl) 4 rfl) 4 rfl)⟩,H⟩
    ·refine qk ?_
     obtain⟨x8,ES,H⟩:=bh H
     obtain⟨zo,qY,h7,Gg,o9⟩:=EO _ _ _ _ ES h1 _ _ _ _ ((Has.front (Has.front (Has.front (Has.front (Has.front o2 1 rfl) 1 rfl) 4 rfl) 4 rfl) 4 rfl))  [.ptr ao 0,.int .i64 x0,.int .i64 x1] (au (rfl) (au (aL (bj)) (au (aL (bj)) (bE))))
     obtain⟨x9,ET,H⟩:=bh H
     obtain⟨sN,h8,Hg,xI⟩:=gH (P:=Try.prog) (E:=af) (l:=aF) (q:=4) (t2:=33) (x:=.fz [.int .i64 x8.1] 1 true) (l2:=([x8.1])) gK o9 rfl (by kernel_rfl) rfl ET
     exact qr [.a 6 Gg,.a 8 Hg] <| q0 <| ⟨(x9,fi,i64.wrap (k0+(1:Int)),x8.2),⟨eS,sN,zo,qY,h8,by kernel_rfl,(Has.front (Has.front (Has.front (Has.front (Has.front xI 2 rfl) 2 rfl) 2 rfl) 4 rfl) 4 rfl)⟩,H⟩
   ·refine qr [.b 3 c2] <| Ek <| qk ?_
    obtain⟨kB,Gh,H⟩:=bh H
    obtain⟨EU,zp,h9,Gi,Di⟩:=EO _ _ _ _ Gh h1 _ _ _ _ ((Has.front (Has.front (Has.front (Has.front (Has.front o2 1 rfl) 1 rfl) 4 rfl) 4 rfl) 4 rfl))  [.ptr ao 0,.int .i64 x0,.int .i64 x1] (au (rfl) (au (aL (bj)) (au (aL (bj)) (bE))))
    obtain⟨AJ,Gj,H⟩:=bh H
    obtain⟨zq,h10,Hh,Dj⟩:=gH (P:=Try.prog) (E:=af) (l:=aF) (q:=4) (t2:=33) (x:=.fz [.int .i64 kB.1] 1 true) (l2:=([kB.1])) gK Di rfl (by kernel_rfl) rfl Gj
    exact qr [.a 6 Gi,.a 8 Hh] <| q0 <| ⟨(AJ,fi,i64.wrap (k0+(1:Int)),kB.2),⟨eS,zq,EU,zp,h10,by kernel_rfl,(Has.front (Has.front (Has.front (Has.front (Has.front Dj 2 rfl) 2 rfl) 2 rfl) 4 rfl) 4 rfl)⟩,H⟩
 ·exact qx 0 <| Or.inl (⟨rfl,aF,fi,k0,s1,oi H,.ptr ao 0,.rs eS 0 fi.length 2,.int .i64 k0,.bool (decide (k0<(fi.length:Int))),eS,dR,cD,eB,h1,by kernel_rfl,o2⟩)
theorem kU {aV:FuncId→b5}(ha:aV 31=uz)(CK:MT cf m)(Jz:Ox cf m)(EO:OJ cf m)(s0:ab)(a0:Int)(b0:Int)(h:AHeap)(L:Mem)(ao:Nat)(ak:Nat)(an:Nat)  (o:Has h ((ao,.ob [.bool s0.aj,.rs ak 0 s0.aa.length 4,.rs an 0 s0.ae.length 1])::(ak,.sl s0.aa.length 4 (ah.l s0.aa))::(an,.sl s0.ae.length 1 (af.l s0.ae))::L)){out:(List Int) × Bool × ab}(H:az.f m s0 a0 b0=some out) :
  ∃r h',aZ Try.prog aV cf m 31 [.ptr ao 0,.int .i64 a0,.int .i64 b0] h=some (r,h')∧∃fc aA aB:Nat,r = .tup [.rs fc 0 out.1.length 1,.bool out.2.1]∧Has h' ((fc,.sl out.1.length 1 (af.l out.1))::(ao,.ob [.bool out.2.2.aj,.rs aA 0 out.2.2.aa.length 4,.rs aB 0 out.2.2.ae.length 1])::(aA,.sl out.2.2.aa.length 4 (ah.l out.2.2.aa))::(aB,.sl out.2.2.ae.length 1 (af.l out.2.2.ae))::L):=by
 refine ar (fn:=Try.f31) ha Try.func31 (by kernel_rfl) (by kernel_rfl) ?_
 refine aH (Q:=fun s=>az.fin L ao ak an s0 a0 b0 out s) (fun _ _ ⟨h1,fc,aA,aB,h2,h3⟩=>⟨h1,_,h2,fc,aA,aB,rfl,h3⟩) ?_
 have H:_=some out:=H
 unfold az.f at H
 show dp _ cf uz m _ ⟨.ptr ao 0 :: .int .i64 a0 :: .int .i64 b0::GX [],[none,none,none,none],h⟩ _
 refine q1 <| qq <| q0 ?_
 have o0:Has h (((0),.sl (([]:List Int).length) 1 (af.l ([]:List Int)))::(ao,.ob [.bool s0.aj,.rs ak 0 s0.aa.length 4,.rs an 0 s0.ae.length 1])::(ak,.sl s0.aa.length 4 (ah.l s0.aa))::(an,.sl s0.ae.length 1 (af.l s0.ae))::L):=Has.nil o 1
 refine qq ?_
 obtain⟨aI,h0,e0,o1⟩:=GU (E:=dG) (l:=[(a7.mk a0 b0)]) (cs:=[.int .i64 a0,.int .i64 b0]) o0 (by kernel_rfl)
 refine qr [.a 3 e0] <| qq <| qq <| q0 <| qb 0 ?_
 obtain⟨dv,Gk,H⟩:=bh H
 refine ql (az.di L ao ak an s0 a0 b0  CK Jz EO (([]:List Int),[(a7.mk a0 b0)],(0:Int),s0) _ _ ⟨aI,(0),ak,an,h0,(W8 (b:=⟨.ptr ao 0::og (.rs (0) 0 (([]:List Int).length) 1 :: .rs aI 0 (([(a7.mk a0 b0)]:List a7).length) 2 :: .int .i64 (0:Int)::tI []),[none,none,none,none],h0⟩) (by kernel_rfl) (by simp only [VG])),(by have o:Has h0 ((aI,.sl (([(a7.mk a0 b0)]:List a7).length) 2 (dG.l ([(a7.mk a0 b0)])))::((0),.sl (([]:List Int).length) 1 (af.l ([]:List Int)))::(ao,.ob [.bool s0.aj,.rs ak 0 s0.aa.length 4,.rs an 0 s0.ae.length 1])::(ak,.sl s0.aa.length 4 (ah.l s0.aa))::(an,.sl s0.ae.length 1 (af.l s0.ae))::L):=o1; simpa only [VG] using o)⟩ Gk) ?_
 rintro e s (⟨rfl,oZ,LU,k1,s4,rfl,g7,g8,g9,g10,Tw,LV,JA,JB,h11,rfl,vQ⟩| ⟨rfl,r0,rfl,xC⟩)
 ·try dsimp only at H
  refine q1 ?_
  have nl:Has h11 ((LV,.sl oZ.length 1 (af.l oZ))::(ao,.ob [.bool s4.aj,.rs JA 0 s4.aa.length 4,.rs JB 0 s4.ae.length 1])::(JA,.sl s4.aa.length 4 (ah.l s4.aa))::(JB,.sl s4.ae.length 1 (af.l s4.ae))::L):=Has.del vQ 0
  obtain rfl:=oi H
  exact qt <| ⟨.inl rfl,⟨LV,JA,JB,by kernel_rfl,he nl⟩⟩
 ·try dsimp only at H
  obtain rfl:=oi H
  exact⟨.inl rfl,xC⟩
end
end Go.Proofs.Ytifafejidnjckaa
namespace Go.Proofs.Ytifafejidnjckaa
open Go Go.R
open Go.IntKind (i64 u64 u8 u32)
def A7:b5:=gX [0,1,2,4,5] [] [25,9,11,15,15,23] [] []
def cy.f (m:Nat)(s0:ab)(aF:List Int):Option ((List Int)):=(De 8 (aF.length:Int) (0:Int)).bind fun x0=>(LK x0 aF).bind fun Rk=>(dJ.f m Rk (fun y0=>cW.f m y0 s0)).bind fun x1=>some (kQ x1)
def cy.fin (L:Mem)  (r:(List Int))(s:St):Prop:=∃fc:Nat,aM Try.prog (s.open A7) Try.f33.results.toList=some (.rs fc 0 r.length 1)∧Has s.h ((fc,.sl r.length 1 (af.l r))::L)
def OY (cf:CallF)(m:Nat):Prop:=∀(s0:ab) (aF:List Int) (r:(List Int)),cy.f m s0 aF=some r→∀h L xs,Has h L→aO bR h xs [.fp [.bool s0.aj,ah.fz s0.aa,af.fz s0.ae] 0,af.fz aF]→∃fc h',cf 33 xs h=some (.rs fc 0 r.length 1,h')∧Has h' ((fc,.sl r.length 1 (af.l r))::L)∧∀j,j<h.next→h.ver j=h'.ver j
section
variable {cf:CallF}{m:Nat}
theorem lG {aV:FuncId→b5}(ha:aV 33=A7)(OZ:Rb cf m)(O0:Rc cf m)(O1:QQ cf m)(s0:ab)(aF:List Int)(h:AHeap)(L:Mem)  (o:Has h (L)){out:(List Int)}(H:cy.f m s0 aF=some out) :
  ∃r h',aZ Try.prog aV cf m 33 [.fp [.bool s0.aj,ah.fz s0.aa,af.fz s0.ae] 0,af.fz aF] h=some (r,h')∧∃fc:Nat,r = .rs fc 0 out.length 1∧Has h' ((fc,.sl out.length 1 (af.l out))::L):=by
 refine ar (fn:=Try.f33) ha Try.func33 (by kernel_rfl) (by kernel_rfl) ?_
 refine aH (Q:=fun s=>cy.fin L out s) (fun _ _ ⟨h1,fc,h2,h3⟩=>⟨h1,_,h2,fc,rfl,h3⟩) ?_
 have H:_=some out:=H
 unfold cy.f at H
 show dp _ cf A7 m _ ⟨.fp [.bool s0.aj,ah.fz s0.aa,af.fz s0.ae] 0::af.fz aF::sv [],[],h⟩ _
 refine qq ?_
 obtain⟨aI,h0,e0,o0⟩:=gw (cs:=[.fp [.bool s0.aj,ah.fz s0.aa,af.fz s0.ae] 0]) o (by kernel_rfl)
 refine qr [.a 0 e0] <| qq ?_
 obtain⟨x0,e1,H⟩:=bh H
 obtain⟨dR,h1,e2,o1⟩:=vu (P:=Try.prog) (E:=af) (z:=(0:Int)) (zv:=.int .i64 (0:Int)) gK o0 3 rfl rfl rfl rfl e1
 refine qr [.a 2 e2] <| qq ?_
 obtain⟨Rk,e3,H⟩:=bh H
 obtain⟨h2,e4,o2⟩:=G8 (P:=Try.prog) (E:=af) (l:=x0) (s:=aF) (q:=0) (t2:=33) gK o1 rfl (Jj (E:=af)) rfl (LL _) e3
 refine qr [.a 2 e4] <| qq ?_
 obtain⟨x1,e5,H⟩:=bh H
 obtain⟨h3,e6,o3⟩:=OZ _ _ _ e5 h2 _ _ _ (o2) 58 [.ptr aI 0] [.fp [.fp [.bool s0.aj,ah.fz s0.aa,af.fz s0.ae] 0] 0] rfl (fun h' tK y0 r hr hx=>O0 y0 _ r hr h' tK hx) (fun h' K' o'=>iP (ai (dQ (q:=(K'.length+0)) o' (jt rfl) (ai (gk (pure_cons (dM) (pure_cons (bL.bG (E:=ah) (l:=s0.aa)) (pure_cons (bL.bG (E:=af) (l:=s0.ae)) (pure_nil))))) (ay))) (ay))) (fun h_=>iP (ai (gk (pure_cons (lB (pure_cons (dM) (pure_cons (bL.bG (E:=ah) (l:=s0.aa)) (pure_cons (bL.bG (E:=af) (l:=s0.ae)) (pure_nil))))) (pure_nil))) (ay))) [.rs dR 0 x0.length 1,.fn 58 [.ptr aI 0]] (au (rfl) (au (rfl) (bE)))
 refine qr [.a 2 e6] ?_
 have o4:Has h3 ((dR,.sl x1.length 1 (af.l x1))::L):=Has.del o3 1
 refine qq ?_
 obtain⟨h4,e7,o5⟩:=Jd (l:=x1) O1 o4
 obtain rfl:=oi H
 exact qr [.a 1 e7] <| qq <| q0 <| qt <| ⟨.inl rfl,⟨dR,by rw [nj]; kernel_rfl,he (by simpa only [nj] using o5)⟩⟩
end
end Go.Proofs.Ytifafejidnjckaa
namespace Go.Proofs.Ytifafejidnjckaa
open Go Go.R
open Go.IntKind (i64 u64 u8 u32)
def A8:b5:=gX [0,1,2,4,5,6,7] [] [102,31] [] []
def dX.f (m:Nat)(s0:ab)(cg:ByteArray)(n0:Int):Option (Int × Int × ab):=(b6.f m s0 (cL.f m cg n0) (aq.mk (4:Int) n0 cg ([]))).bind fun x0=>some (x0.1,x0.2.1,x0.2.2)
def dX.fin (L:Mem)(ao:Nat)(ak:Nat)(an:Nat)(s0:ab)(cg:ByteArray)(n0:Int)(r:Int × Int × ab)(s:St):Prop:=∃aA aB:Nat,aM Try.prog (s.open A8) Try.f35.results.toList=some (.tup [.int .i64 r.1,.int .i64 r.2.1])∧Has s.h ((ao,.ob [.bool r.2.2.aj,.rs aA 0 r.2.2.aa.length 4,.rs aB 0 r.2.2.ae.length 1])::(aA,.sl r.2.2.aa.length 4 (ah.l r.2.2.aa))::(aB,.sl r.2.2.ae.length 1 (af.l r.2.2.ae))::L)
def Rl (cf:CallF)(m:Nat):Prop:=∀(s0:ab) (cg:ByteArray) (n0:Int) (r:Int × Int × ab),dX.f m s0 cg n0=some r→∀h L (ao:Nat) (ak:Nat) (an:Nat),Has h ((ao,.ob [.bool s0.aj,.rs ak 0 s0.aa.length 4,.rs an 0 s0.ae.length 1])::(ak,.sl s0.aa.length 4 (ah.l s0.aa))::(an,.sl s0.ae.length 1 (af.l s0.ae))::L)→∀xs,xs.map aK=[.ptr ao 0,.str cg,.int .i64 n0]→∃aA aB h',cf 35 xs h=some (.tup [.int .i64 r.1,.int .i64 r.2.1],h')∧Has h' ((ao,.ob [.bool r.2.2.aj,.rs aA 0 r.2.2.aa.length 4,.rs aB 0 r.2.2.ae.length 1])::(aA,.sl r.2.2.aa.length 4 (ah.l r.2.2.aa))::(aB,.sl r.2.2.ae.length 1 (af.l r.2.2.ae))::L)
section
variable {cf:CallF}{m:Nat}
theorem l9 {aV:FuncId→b5}(ha:aV 35=A8)(vO:Kv cf m)(O2:Re cf m)(s0:ab)(cg:ByteArray)(n0:Int)(h:AHeap)(L:Mem)(ao:Nat)(ak:Nat)(an:Nat)  (o:Has h ((ao,.ob [.bool s0.aj,.rs ak 0 s0.aa.length 4,.rs an 0 s0.ae.length 1])::(ak,.sl s0.aa.length 4 (ah.l s0.aa))::(an,.sl s0.ae.length 1 (af.l s0.ae))::L)){out:Int × Int × ab}(H:dX.f m s0 cg n0=some out) :
  ∃r h',aZ Try.prog aV cf m 35 [.ptr ao 0,.str cg,.int .i64 n0] h=some (r,h')∧∃aA aB:Nat,r = .tup [.int .i64 out.1,.int .i64 out.2.1]∧Has h' ((ao,.ob [.bool out.2.2.aj,.rs aA 0 out.2.2.aa.length 4,.rs aB 0 out.2.2.ae.length 1])::(aA,.sl out.2.2.aa.length 4 (ah.l out.2.2.aa))::(aB,.sl out.2.2.ae.length 1 (af.l out.2.2.ae))::L):=by
 refine ar (fn:=Try.f35) ha Try.func35 (by kernel_rfl) (by kernel_rfl) ?_
 refine aH (Q:=fun s=>dX.fin L ao ak an s0 cg n0 out s) (fun _ _ ⟨h1,aA,aB,h2,h3⟩=>⟨h1,_,h2,aA,aB,rfl,h3⟩) ?_
 have H:_=some out:=H
 unfold dX.f at H
 show dp _ cf A8 m _ ⟨.ptr ao 0 :: .str cg :: .int .i64 n0::og [],[],h⟩ _
 refine qq ?_
 obtain⟨aI,h0,e0,o0⟩:=gw (cs:=[.str cg]) o (by kernel_rfl)
 obtain⟨dR,h1,e1,o1⟩:=gw (cs:=[.int .i64 n0]) o0 (by kernel_rfl)
 refine qr [.a 0 e0,.a 1 e1] <| qq ?_
 obtain⟨x0,e2,H⟩:=bh H
 obtain⟨eS,cD,h2,e3,o2⟩:=vO _ _ _ _ e2 h1 _ _ _ _ ((Has.front (Has.front (Has.front (Has.front (Has.front o1 1 rfl) 1 rfl) 4 rfl) 4 rfl) 4 rfl)) 63 [.ptr aI 0,.ptr dR 0] [.fp [.str cg] 0,.fp [.int .i64 n0] 0] rfl (fun h' tK  r hr hx=>O2 _ _ r hr h' tK hx) (fun h' K' o'=>iP (ai (dQ (q:=(K'.length+4)) o' (jt rfl) (ai (cU) (ay))) (ai (dQ (q:=(K'.length+3)) o' (jt rfl) (ai (bB) (ay))) (ay)))) (fun h_=>iP (ai (gk (pure_cons (mD) (pure_nil))) (ai (gk (pure_cons (ff) (pure_nil))) (ay)))) [.ptr ao 0,.fn 63 [.ptr aI 0,.ptr dR 0],.agg [.int .i64 (4:Int),.int .i64 n0,.str cg,.nils]] (au (rfl) (au (rfl) (au (aL (nZ (cu (bj) (cu (bj) (cu (ly) (cu (rD (E:=af)) (nY))))))) (bE))))
 refine qr [.v 2 (show bm Try.prog h1 9 (.ptr aI 0)=some (.str cg) from bZ (q:=1) (cs:=[.str cg]) o1 rfl (by kernel_rfl)),.v 3 (show bm Try.prog h1 3 (.ptr dR 0)=some (.int .i64 n0) from bZ (q:=0) (cs:=[.int .i64 n0]) o1 rfl (by kernel_rfl)),.a 5 e3] ?_
 have o3:Has h2 ((ao,.ob [.bool x0.2.2.aj,.rs eS 0 x0.2.2.aa.length 4,.rs cD 0 x0.2.2.ae.length 1])::(eS,.sl x0.2.2.aa.length 4 (ah.l x0.2.2.aa))::(cD,.sl x0.2.2.ae.length 1 (af.l x0.2.2.ae))::(dR,.ob [.int .i64 n0])::L):=Has.del o2 4
 have o4:Has h2 ((ao,.ob [.bool x0.2.2.aj,.rs eS 0 x0.2.2.aa.length 4,.rs cD 0 x0.2.2.ae.length 1])::(eS,.sl x0.2.2.aa.length 4 (ah.l x0.2.2.aa))::(cD,.sl x0.2.2.ae.length 1 (af.l x0.2.2.ae))::L):=Has.del o3 3
 obtain rfl:=oi H
 exact qt <| ⟨.inl rfl,⟨eS,cD,by kernel_rfl,he o4⟩⟩
end
end Go.Proofs.Ytifafejidnjckaa
namespace Go.Proofs.Ytifafejidnjckaa
open Go Go.R
open Go.IntKind (i64 u64 u8 u32)
def A9:b5:=gX [0,2] [] [2,1] [] []
def fG.f (m:Nat)(s0:ByteArray):Option (Bool):=if (s0.data.toList==(Wo #[124]).data.toList)=true then (some true) else (if (s0.data.toList==(Wo #[35]).data.toList)=true then (some true) else ((cP.f m s0 (97:Int) (122:Int)).bind fun x0=>some x0))
def fG.fin (L:Mem)(r:Bool)(s:St):Prop:=∃av,aM Try.prog (s.open A9) Try.f50.results.toList=some av∧fA s.h av (.bool r)
def MX (cf:CallF)(m:Nat):Prop:=∀(s0:ByteArray) (r:Bool),fG.f m s0=some r→∀h xs,aO bR h xs [.str s0]→cf 50 xs h=some (.bool r,h)
section
variable {cf:CallF}{m:Nat}
theorem sO {aV:FuncId→b5}(ha:aV 50=A9)(O3:Rh cf m)(s0:ByteArray)(h:AHeap)(L:Mem)  (o:Has h (L)){out:Bool}(H:fG.f m s0=some out) :
  ∃r h',aZ Try.prog aV cf m 50 [.str s0] h=some (r,h')∧fA h' r (.bool out):=by
 refine ar (fn:=Try.f50) ha Try.func50 (by kernel_rfl) (by kernel_rfl) ?_
 refine aH (Q:=fun s=>fG.fin L out s) (fun _ _ h=>h) ?_
 have H:_=some out:=H
 unfold fG.f at H
 show dp _ cf A9 m _ ⟨[.str s0,.any],[],h⟩ _
 refine q1 <| qq ?_
 rcases iA H with⟨c0,H⟩| ⟨c0,H⟩
 ·obtain rfl:=oi H
  exact qr [.b 2 c0] <| qt <| ⟨.inl rfl,dC (.bool true) h (dB (aD))⟩
 ·rcases iA H with⟨c1,H⟩| ⟨c1,H⟩
  ·obtain rfl:=oi H
   exact qr [.b 2 c0,.b 6 c1] <| qt <| ⟨.inl rfl,dC (.bool true) h (dB (aD))⟩
  ·obtain⟨x0,e0,H⟩:=bh H
   obtain rfl:=oi H
   exact qr [.b 2 c0,.b 6 c1,.a 8 (O3 _ _ _ _ e0 h _ (gv (ai (cU) (ai (bB) (ai (bB) (ay))))))] <| qt <| ⟨.inl rfl,dC (.bool x0) h (dB (aD))⟩
end
end Go.Proofs.Ytifafejidnjckaa
namespace Go.Proofs.Ytifafejidnjckaa
open Go Go.R
open Go.IntKind (i64 u64 u8 u32)
def Ba:b5:=gX [0,1,2,3] [] [8,7] [] []
def cq.f (m:Nat)(x0:ByteArray)(x1:List Int)(x2:ab):Option (Bool):=(fG.f m x0).bind fun x3=>if x3=true then (if (decide ((x1.length:Int)≥(1:Int)))=true then (if (decide ((x1.length:Int)≤(8:Int)))=true then ((eA.f m x1 (fun y0=>cr.f m y0 x2)).bind fun x4=>some (!x4)) else (some false)) else (some false)) else (some false)
def cq.fin (L:Mem)(r:Bool)(s:St):Prop:=∃av,aM Try.prog (s.open Ba) Try.f61.results.toList=some av∧fA s.h av (.bool r)
def Rm (cf:CallF)(m:Nat):Prop:=∀(x0:ByteArray) (x1:List Int) (x2:ab) (r:Bool),cq.f m x0 x1 x2=some r→∀h xs,aO bR h xs [.fp [.str x0] 0,.fp [af.fz x1] 0,.fp [.fp [.bool x2.aj,ah.fz x2.aa,af.fz x2.ae] 0] 0]→cf 61 xs h=some (.bool r,h)
section
variable {cf:CallF}{m:Nat}
theorem kx {aV:FuncId→b5}(ha:aV 61=Ba)(pS:MX cf m)(EM:MV cf m)(O4:QX cf m)(x0:ByteArray)(x1:List Int)(x2:ab)(h:AHeap)(L:Mem)  (o:Has h (L)){out:Bool}(H:cq.f m x0 x1 x2=some out) :
  ∃r h',aZ Try.prog aV cf m 61 [.fp [.str x0] 0,.fp [af.fz x1] 0,.fp [.fp [.bool x2.aj,ah.fz x2.aa,af.fz x2.ae] 0] 0] h=some (r,h')∧fA h' r (.bool out):=by
 refine ar (fn:=Try.f61) ha Try.func61 (by kernel_rfl) (by kernel_rfl) ?_
 refine aH (Q:=fun s=>cq.fin L out s) (fun _ _ h=>h) ?_
 have H:_=some out:=H
 unfold cq.f at H
 show dp _ cf Ba m _ ⟨[.fp [.str x0] 0,.fp [af.fz x1] 0,.fp [.fp [.bool x2.aj,ah.fz x2.aa,af.fz x2.ae] 0] 0,.any],[],h⟩ _
 refine q1 <| qq ?_
 obtain⟨x3,e0,H⟩:=bh H
 rcases iA H with⟨c0,H⟩| ⟨c0,H⟩
 ·rcases iA H with⟨c1,H⟩| ⟨c1,H⟩
  ·rcases iA H with⟨c2,H⟩| ⟨c2,H⟩
   ·obtain⟨x4,e1,H⟩:=bh H
    obtain rfl:=oi H
    exact qr [.a 1 (pS _ _ e0 h _ (gv (ai (cU) (ay)))),.b 2 c0,.b 7 c1,.b 12 c2,.a 15 (EM _ _ _ e1 62 [.fp [.fp [.bool x2.aj,ah.fz x2.aa,af.fz x2.ae] 0] 0] (fun h' tK y0 r hr hx=>O4 y0 _ r hr h' tK hx) (fun h_=>iP (ai (gk (pure_cons (lB (pure_cons (dM) (pure_cons (bL.bG (E:=ah) (l:=x2.aa)) (pure_cons (bL.bG (E:=af) (l:=x2.ae)) (pure_nil))))) (pure_nil))) (ay))) h _ (gv (ai (fy (E:=af)) (ai (sE (ai (gk (pure_cons (lB (pure_cons (dM) (pure_cons (bL.bG (E:=ah) (l:=x2.aa)) (pure_cons (bL.bG (E:=af) (l:=x2.ae)) (pure_nil))))) (pure_nil))) (ay))) (ay)))))] <| qt <| ⟨.inl rfl,dC (.bool (!x4)) h (dB (aD))⟩
   ·obtain rfl:=oi H
    exact qr [.a 1 (pS _ _ e0 h _ (gv (ai (cU) (ay)))),.b 2 c0,.b 7 c1,.b 12 c2] <| qt <| ⟨.inl rfl,dC (.bool false) h (dB (aD))⟩
  ·obtain rfl:=oi H
   exact qr [.a 1 (pS _ _ e0 h _ (gv (ai (cU) (ay)))),.b 2 c0,.b 7 c1] <| qt <| ⟨.inl rfl,dC (.bool false) h (dB (aD))⟩
 ·obtain rfl:=oi H
  exact qr [.a 1 (pS _ _ e0 h _ (gv (ai (cU) (ay)))),.b 2 c0] <| qt <| ⟨.inl rfl,dC (.bool false) h (dB (aD))⟩
end
end Go.Proofs.Ytifafejidnjckaa
namespace Go.Proofs.Ytifafejidnjckaa
open Go Go.R
open Go.IntKind (i64 u64 u8 u32)
def Bb:b5:=gX [0,1,2,3,4,6,7,23,44,60,89] [2] [2035,2003,1939,2031,1875,2031,1747,2031,1491,2031,1019,2031,2031] [] []
def iy.f (m:Nat)(n0:aq)(lR:Int):Option (Bool):=if (n0.kind==(0:Int))=true then (if (decide (n0.int≥(0:Int)))=true then (if (n0.label.data.toList==(Wo #[]).data.toList)=true then (some ((n0.args.length:Int)==(0:Int))) else (some false)) else (some false)) else (if (n0.kind==(1:Int))=true then (if (decide (n0.int≥(-1099511627776:Int)))=true then (if (decide (n0.int≤(1099511627776:Int)))=true then (if (n0.label.data.toList==(Wo #[]).data.toList)=true then (some ((n0.args.length:Int)==(0:Int))) else (some false)) else (some false)) else (some false)) else (if (n0.kind==(2:Int))=true then (if (n0.int==(0:Int))=true then ((fG.f m n0.label).bind fun x0=>if x0=true then (some ((n0.args.length:Int)==(0:Int))) else (some false)) else (some false)) else (if (n0.kind==(3:Int))=true then (if (n0.int==(0:Int))=true then ((fG.f m n0.label).bind fun x1=>if x1=true then (if (decide ((n0.args.length:Int)≥(1:Int)))=true then (if (decide ((n0.args.length:Int)≤(8:Int)))=true then ((eA.f m n0.args (fun y0=>gL.f m y0 lR)).bind fun x2=>some (!x2)) else (some false)) else (some false)) else (some false)) else (some false)) else (if (n0.kind==(4:Int))=true then (if (decide (n0.int≥(0:Int)))=true then ((fV.f m n0.label).bind fun x3=>if x3=true then (some ((n0.args.length:Int)==(0:Int))) else (some false)) else (some false)) else (some false)))))
def iy.fin (L:Mem)(r:Bool)(s:St):Prop:=∃av,aM Try.prog (s.open Bb) Try.f67.results.toList=some av∧fA s.h av (.bool r)
def Rn (cf:CallF)(m:Nat):Prop:=∀(n0:aq) (lR:Int) (r:Bool),iy.f m n0 lR=some r→∀h xs,aO bR h xs [.agg [.int .i64 n0.kind,.int .i64 n0.int,.str n0.label,af.fz n0.args],.int .i64 lR]→cf 67 xs h=some (.bool r,h)
section
variable {cf:CallF}{m:Nat}
theorem sP {aV:FuncId→b5}(ha:aV 67=Bb)(pS:MX cf m)(EM:MV cf m)(EK:Oz cf m)(O5:QZ cf m)(n0:aq)(lR:Int)(h:AHeap)(L:Mem)  (o:Has h (L)){out:Bool}(H:iy.f m n0 lR=some out) :
  ∃r h',aZ Try.prog aV cf m 67 [.agg [.int .i64 n0.kind,.int .i64 n0.int,.str n0.label,af.fz n0.args],.int .i64 lR] h=some (r,h')∧fA h' r (.bool out):=by
 refine ar (fn:=Try.f67) ha Try.func67 (by kernel_rfl) (by kernel_rfl) ?_
 refine aH (Q:=fun s=>iy.fin L out s) (fun _ _ h=>h) ?_
 have H:_=some out:=H
 unfold iy.f at H
 show dp _ cf Bb m _ ⟨.agg [.int .i64 n0.kind,.int .i64 n0.int,.str n0.label,af.fz n0.args] :: .int .i64 lR::Te [],[none],h⟩ _
 refine qq ?_
 obtain⟨aI,h0,e0,o0⟩:=gw (cs:=[.int .i64 lR]) o (by kernel_rfl)
 refine qr [.a 1 e0] <| qq <| qq <| q0 <| qb 0 <| qq <| q0 <| qc H (fun c0 H=>?_) (fun c0 H=>?_)
 ·refine qq ?_
  rcases iA H with⟨c1,H⟩| ⟨c1,H⟩
  ·rcases iA H with⟨c2,H⟩| ⟨c2,H⟩
   ·refine qr [.b 3 c1,.b 8 c2] ?_
    have o1:Has h0 (L):=Has.del o0 0
    obtain rfl:=oi H
    exact qt <| ⟨.inl rfl,dC (.bool ((n0.args.length:Int)==(0:Int))) h0 (dB (aD))⟩
   ·refine qr [.b 3 c1,.b 8 c2] ?_
    have o2:Has h0 (L):=Has.del o0 0
    obtain rfl:=oi H
    exact qt <| ⟨.inl rfl,dC (.bool false) h0 (dB (aD))⟩
  ·refine qr [.b 3 c1] ?_
   have o3:Has h0 (L):=Has.del o0 0
   obtain rfl:=oi H
   exact qt <| ⟨.inl rfl,dC (.bool false) h0 (dB (aD))⟩
 ·refine q1 <| qc H (fun c3 H=>?_) (fun c3 H=>?_)
  ·refine qq ?_
   rcases iA H with⟨c4,H⟩| ⟨c4,H⟩
   ·rcases iA H with⟨c5,H⟩| ⟨c5,H⟩
    ·rcases iA H with⟨c6,H⟩| ⟨c6,H⟩
     ·refine qr [.b 3 c4,.b 8 c5,.b 13 c6] ?_
      have o4:Has h0 (L):=Has.del o0 0
      obtain rfl:=oi H
      exact qt <| ⟨.inl rfl,dC (.bool ((n0.args.length:Int)==(0:Int))) h0 (dB (aD))⟩
     ·refine qr [.b 3 c4,.b 8 c5,.b 13 c6] ?_
      have o5:Has h0 (L):=Has.del o0 0
      obtain rfl:=oi H
      exact qt <| ⟨.inl rfl,dC (.bool false) h0 (dB (aD))⟩
    ·refine qr [.b 3 c4,.b 8 c5] ?_
     have o6:Has h0 (L):=Has.del o0 0
     obtain rfl:=oi H
     exact qt <| ⟨.inl rfl,dC (.bool false) h0 (dB (aD))⟩
   ·refine qr [.b 3 c4] ?_
    have o7:Has h0 (L):=Has.del o0 0
    obtain rfl:=oi H
    exact qt <| ⟨.inl rfl,dC (.bool false) h0 (dB (aD))⟩
  ·refine q1 <| qc H (fun c7 H=>?_) (fun c7 H=>?_)
   ·refine qq ?_
    rcases iA H with⟨c8,H⟩| ⟨c8,H⟩
    ·obtain⟨x0,e1,H⟩:=bh H
     rcases iA H with⟨c9,H⟩| ⟨c9,H⟩
     ·refine qr [.b 3 c8,.a 6 (pS _ _ e1 h0 _ (gv (ai (cU) (ay)))),.b 8 c9] ?_
      have o8:Has h0 (L):=Has.del o0 0
      obtain rfl:=oi H
      exact qt <| ⟨.inl rfl,dC (.bool ((n0.args.length:Int)==(0:Int))) h0 (dB (aD))⟩
     ·refine qr [.b 3 c8,.a 6 (pS _ _ e1 h0 _ (gv (ai (cU) (ay)))),.b 8 c9] ?_
      have o9:Has h0 (L):=Has.del o0 0
      obtain rfl:=oi H
      exact qt <| ⟨.inl rfl,dC (.bool false) h0 (dB (aD))⟩
    ·refine qr [.b 3 c8] ?_
     have xI:Has h0 (L):=Has.del o0 0
     obtain rfl:=oi H
     exact qt <| ⟨.inl rfl,dC (.bool false) h0 (dB (aD))⟩
   ·refine q1 <| qc H (fun CH H=>?_) (fun CH H=>?_)
    ·refine qq ?_
     rcases iA H with⟨zk,H⟩| ⟨zk,H⟩
     ·obtain⟨x1,e2,H⟩:=bh H
      rcases iA H with⟨EH,H⟩| ⟨EH,H⟩
      ·rcases iA H with⟨He,H⟩| ⟨He,H⟩
       ·rcases iA H with⟨EI,H⟩| ⟨EI,H⟩
        ·obtain⟨x2,e3,H⟩:=bh H
         refine qr [.b 3 zk,.a 6 (pS _ _ e2 h0 _ (gv (ai (cU) (ay)))),.b 8 EH,.b 14 He,.b 20 EI,.a 24 (EM _ _ _ e3 79 [.fp [.int .i64 lR] 0] (fun h' tK y0 r hr hx=>O5 y0 _ r hr h' tK hx) (fun h_=>iP (ai (gk (pure_cons (ff) (pure_nil))) (ay))) h0 _ (gv (ai (fy (E:=af)) (ai (sE (ai (dQ (q:=0) o0 rfl (ai (bB) (ay))) (ay))) (ay)))))] ?_
         have Di:Has h0 (L):=Has.del o0 0
         obtain rfl:=oi H
         exact qt <| ⟨.inl rfl,dC (.bool (!x2)) h0 (dB (aD))⟩
        ·refine qr [.b 3 zk,.a 6 (pS _ _ e2 h0 _ (gv (ai (cU) (ay)))),.b 8 EH,.b 14 He,.b 20 EI] ?_
         have Dj:Has h0 (L):=Has.del o0 0
         obtain rfl:=oi H
         exact qt <| ⟨.inl rfl,dC (.bool false) h0 (dB (aD))⟩
       ·refine qr [.b 3 zk,.a 6 (pS _ _ e2 h0 _ (gv (ai (cU) (ay)))),.b 8 EH,.b 14 He] ?_
        have vQ:Has h0 (L):=Has.del o0 0
        obtain rfl:=oi H
        exact qt <| ⟨.inl rfl,dC (.bool false) h0 (dB (aD))⟩
      ·refine qr [.b 3 zk,.a 6 (pS _ _ e2 h0 _ (gv (ai (cU) (ay)))),.b 8 EH] ?_
       have nl:Has h0 (L):=Has.del o0 0
       obtain rfl:=oi H
       exact qt <| ⟨.inl rfl,dC (.bool false) h0 (dB (aD))⟩
     ·refine qr [.b 3 zk] ?_
      have EV:Has h0 (L):=Has.del o0 0
      obtain rfl:=oi H
      exact qt <| ⟨.inl rfl,dC (.bool false) h0 (dB (aD))⟩
    ·refine q1 ?_
     have zr:Has h0 (L):=Has.del o0 0
     refine qc H (fun O6 H=>?_) (fun O6 H=>?_)
     ·refine qq ?_
      rcases iA H with⟨MY,H⟩| ⟨MY,H⟩
      ·obtain⟨x3,e4,H⟩:=bh H
       rcases iA H with⟨JC,H⟩| ⟨JC,H⟩
       ·obtain rfl:=oi H
        exact qr [.b 3 MY,.a 6 (EK _ _ e4 h0 _ (gv (ai (cU) (ay)))),.b 8 JC] <| qt <| ⟨.inl rfl,dC (.bool ((n0.args.length:Int)==(0:Int))) h0 (dB (aD))⟩
       ·obtain rfl:=oi H
        exact qr [.b 3 MY,.a 6 (EK _ _ e4 h0 _ (gv (ai (cU) (ay)))),.b 8 JC] <| qt <| ⟨.inl rfl,dC (.bool false) h0 (dB (aD))⟩
      ·obtain rfl:=oi H
       exact qr [.b 3 MY] <| qt <| ⟨.inl rfl,dC (.bool false) h0 (dB (aD))⟩
     ·obtain rfl:=oi H
      exact qk <| qq <| q0 <| qt <| ⟨.inl rfl,dC (.bool false) h0 (dB (aD))⟩
end
end Go.Proofs.Ytifafejidnjckaa
namespace Go.Proofs.Ytifafejidnjckaa
open Go Go.R
open Go.IntKind (i64 u64 u8 u32)
def Bc:b5:=gX [0,1,2,3,4,5,16] [2,3] [115,83,111,51,111,111] [] []
def dm.f (m:Nat)(a0:aq)(b0:aq):Option (Int):=if (!(a0.kind==b0.kind))=true then ((cM.f m a0.kind b0.kind).bind fun x0=>some x0) else (if (a0.kind==(3:Int))=true then ((cM.f m (a0.args.length:Int) (b0.args.length:Int)).bind fun x1=>(cd.f m a0.label b0.label).bind fun x2=>(b9.f m ([x1,x2])).bind fun x3=>some x3) else ((cd.f m a0.label b0.label).bind fun x4=>(cM.f m a0.int b0.int).bind fun x5=>(b9.f m ([x4,x5])).bind fun x6=>some x6))
def dm.fin (L:Mem)(r:Int)(s:St):Prop:=∃av,aM Try.prog (s.open Bc) Try.f70.results.toList=some av∧fA s.h av (.int .i64 r)
def MZ (cf:CallF)(m:Nat):Prop:=∀(a0:aq) (b0:aq) (r:Int),dm.f m a0 b0=some r→∀h xs,aO bR h xs [.agg [.int .i64 a0.kind,.int .i64 a0.int,.str a0.label,af.fz a0.args],.agg [.int .i64 b0.kind,.int .i64 b0.int,.str b0.label,af.fz b0.args]]→cf 70 xs h=some (.int .i64 r,h)
section
variable {cf:CallF}{m:Nat}
theorem mO {aV:FuncId→b5}(ha:aV 70=Bc)(JD:Ri cf m)(LW:Q0 cf m)(LX:Rj cf m)(a0:aq)(b0:aq)(h:AHeap)(L:Mem)  (o:Has h (L)){out:Int}(H:dm.f m a0 b0=some out) :
  ∃r h',aZ Try.prog aV cf m 70 [.agg [.int .i64 a0.kind,.int .i64 a0.int,.str a0.label,af.fz a0.args],.agg [.int .i64 b0.kind,.int .i64 b0.int,.str b0.label,af.fz b0.args]] h=some (r,h')∧fA h' r (.int .i64 out):=by
 refine ar (fn:=Try.f70) ha Try.func70 (by kernel_rfl) (by kernel_rfl) ?_
 refine aH (Q:=fun s=>dm.fin L out s) (fun _ _ h=>h) ?_
 have H:_=some out:=H
 unfold dm.f at H
 show dp _ cf Bc m _ ⟨.agg [.int .i64 a0.kind,.int .i64 a0.int,.str a0.label,af.fz a0.args] :: .agg [.int .i64 b0.kind,.int .i64 b0.int,.str b0.label,af.fz b0.args]::Ap [],[none,none],h⟩ _
 refine q1 <| qq <| qb 0 <| qq <| q0 <| qc H (fun c0 H=>?_) (fun c0 H=>?_)
 ·refine qq ?_
  obtain⟨x0,e0,H⟩:=bh H
  obtain rfl:=oi H
  exact qr [.a 4 (JD _ _ _ e0 h _ (gv (ai (bB) (ai (bB) (ay)))))] <| qt <| ⟨.inl rfl,dC (.int .i64 x0) h (dB (dh))⟩
 ·refine q1 <| qc H (fun c1 H=>?_) (fun c1 H=>?_)
  ·refine qq ?_
   obtain⟨x1,e1,H⟩:=bh H
   obtain⟨x2,e2,H⟩:=bh H
   obtain⟨x3,e3,H⟩:=bh H
   obtain rfl:=oi H
   exact qr [.a 6 (JD _ _ _ e1 h _ (gv (ai (bB) (ai (bB) (ay))))),.a 11 (LX _ _ _ e2 h _ (gv (ai (cU) (ai (cU) (ay))))),.a 13 (LW _ _ e3 h _ (gv (ai (sm (E:=af) (l:=[x1,x2]) (cs:=[.int .i64 x1,.int .i64 x2]) (b:=true) (by kernel_rfl) (by kernel_rfl) rfl) (ay))))] <| qt <| ⟨.inl rfl,dC (.int .i64 x3) h (dB (dh))⟩
  ·refine qk <| qq ?_
   obtain⟨x4,e4,H⟩:=bh H
   obtain⟨x5,e5,H⟩:=bh H
   obtain⟨x6,e6,H⟩:=bh H
   obtain rfl:=oi H
   exact qr [.a 4 (LX _ _ _ e4 h _ (gv (ai (cU) (ai (cU) (ay))))),.a 9 (JD _ _ _ e5 h _ (gv (ai (bB) (ai (bB) (ay))))),.a 11 (LW _ _ e6 h _ (gv (ai (sm (E:=af) (l:=[x4,x5]) (cs:=[.int .i64 x4,.int .i64 x5]) (b:=true) (by kernel_rfl) (by kernel_rfl) rfl) (ay))))] <| qt <| ⟨.inl rfl,dC (.int .i64 x6) h (dB (dh))⟩
end
end Go.Proofs.Ytifafejidnjckaa
namespace Go.Proofs.Ytifafejidnjckaa
open Go Go.R
open Go.IntKind (i64 u64 u8 u32)
def Bd:b5:=gX [0,1,2,5] [] [8,7] [] []
def dK.f (m:Nat)(i0:Int)(j0:Int)(x0:List aq):Option (Int):=(ix x0 i0).bind fun v0=>(ix x0 j0).bind fun v1=>(dm.f m v0 v1).bind fun x1=>some x1
def dK.fin (L:Mem)(r:Int)(s:St):Prop:=∃av,aM Try.prog (s.open Bd) Try.f84.results.toList=some av∧fA s.h av (.int .i64 r)
def Ro (cf:CallF)(m:Nat):Prop:=∀(i0:Int) (j0:Int) (x0:List aq) (r:Int),dK.f m i0 j0 x0=some r→∀h xs,aO bR h xs [.int .i64 i0,.int .i64 j0,.fp [ah.fz x0] 0]→cf 84 xs h=some (.int .i64 r,h)
section
variable {cf:CallF}{m:Nat}
theorem nu {aV:FuncId→b5}(ha:aV 84=Bd)(EW:MZ cf m)(i0:Int)(j0:Int)(x0:List aq)(h:AHeap)(L:Mem)  (o:Has h (L)){out:Int}(H:dK.f m i0 j0 x0=some out) :
  ∃r h',aZ Try.prog aV cf m 84 [.int .i64 i0,.int .i64 j0,.fp [ah.fz x0] 0] h=some (r,h')∧fA h' r (.int .i64 out):=by
 refine ar (fn:=Try.f84) ha Try.func84 (by kernel_rfl) (by kernel_rfl) ?_
 refine aH (Q:=fun s=>dK.fin L out s) (fun _ _ h=>h) ?_
 have H:_=some out:=H
 unfold dK.f at H
 show dp _ cf Bd m _ ⟨[.int .i64 i0,.int .i64 j0,.fp [ah.fz x0] 0,.any],[],h⟩ _
 refine q1 <| qq ?_
 obtain⟨v0,e0,H⟩:=bh H
 obtain⟨v1,e1,H⟩:=bh H
 obtain⟨x1,e2,H⟩:=bh H
 obtain rfl:=oi H
 exact qr [.v 2 (eW (k:=.i64) (E:=ah) (l:=x0) yx e0),.v 3 (ls  (E:=ah) (l:=x0) h Ge Gf e0),.v 6 (eW (k:=.i64) (E:=ah) (l:=x0) yx e1),.v 7 (ls  (E:=ah) (l:=x0) h Ge Gf e1),.a 8 (EW _ _ _ e2 h _ (gv (ai (jS (ai (bB) (ai (bB) (ai (cU) (ai (fy (E:=af)) (ay)))))) (ai (jS (ai (bB) (ai (bB) (ai (cU) (ai (fy (E:=af)) (ay)))))) (ay)))))] <| qt <| ⟨.inl rfl,dC (.int .i64 x1) h (dB (dh))⟩
end
end Go.Proofs.Ytifafejidnjckaa
namespace Go.Proofs.Ytifafejidnjckaa
open Go Go.R
open Go.IntKind (i64 u64 u8 u32)
end Go.Proofs.Ytifafejidnjckaa
namespace Go.Proofs.Ytifafejidnjckaa
open Go Go.R
open Go.IntKind (i64 u64 u8 u32)
end Go.Proofs.Ytifafejidnjckaa
namespace Go.Proofs.Ytifafejidnjckaa
open Go Go.R
open Go.IntKind (i64 u64 u8 u32)
end Go.Proofs.Ytifafejidnjckaa
namespace Go.Proofs.Ytifafejidnjckaa
open Go Go.R
open Go.IntKind (i64 u64 u8 u32)
end Go.Proofs.Ytifafejidnjckaa
namespace Go.Proofs.Ytifafejidnjckaa
open Go Go.R
open Go.IntKind (i64 u64 u8 u32)
end Go.Proofs.Ytifafejidnjckaa
