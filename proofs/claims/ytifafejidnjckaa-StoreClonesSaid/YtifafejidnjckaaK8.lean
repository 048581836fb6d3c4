/- Part of the proof: Q56, Q57, Q58, Q63, Q65, Q74, Q77, Q80, Q82, Q92, Q93, Q94, Q100, Q101, Q107, Q108, Q30, Q31, Q33, Q35, Q50, Q61, Q67, Q70, Q84, Q86, Q87, Q88, Q91, Q104. -/
import Derived.Test.YtifafejidnjckaaK7
set_option linter.unusedVariables false
set_option linter.unusedSimpArgs false
set_option maxRecDepth 100000
open ByteArray renaming mk → Wh
open Eq renaming trans → WX
open List renaming length_set → VC, append_assoc → VI, cons_append → V6, nil_append → V7
namespace Go.Proofs.Ytifafejidnjckaa
open Go Go.R
open Go.IntKind (i64 u64 u8 u32)
def AT:b5:=gV [0,1,2,6,13,16,21] [] [120,104,88,120,56,120,125,119] [] []
def cu.f (m:Nat)(s0:ab)(a0:Int)(b0:Int):Option (Int × ab):=jn (fun (σ:Int × Int)=>match σ with | (a1,b1)=>(ix s0.ae a1).bind fun v0=>some (a1,(ab.mk s0.aj s0.aa (s0.ae.set a1.toNat b1)))) fun yB=>((ca.f m s0 a0).bind fun x0=>(ca.f m s0 b0).bind fun x1=>if (!(x0==x1))=true then ((ca.f m s0 b0).bind fun x2=>if x2=true then (yB (b0,a0)) else (yB (a0,b0))) else (if (decide (a0<b0))=true then (yB (b0,a0)) else (yB (a0,b0))))
def cu.fin (L:Mem)(ao:Nat)(ak:Nat)(an:Nat)(s0:ab)(a0:Int)(b0:Int)(r:Int × ab)(s:St):Prop:=∃aA aB:Nat,aP Try.prog (s.open AT) Try.f56.results.toList=some (.int .i64 r.1)∧Has s.h ((ao,.ob [.bool r.2.aj,.rs aA 0 r.2.aa.length 4,.rs aB 0 r.2.ae.length 1])::(aA,.sl r.2.aa.length 4 (ai.l r.2.aa))::(aB,.sl r.2.ae.length 1 (af.l r.2.ae))::L)
def Ot (cf:CallF)(m:Nat):Prop:=∀(s0:ab) (a0:Int) (b0:Int) (r:Int × ab),cu.f m s0 a0 b0=some r→∀h L (ao:Nat) (ak:Nat) (an:Nat),Has h ((ao,.ob [.bool s0.aj,.rs ak 0 s0.aa.length 4,.rs an 0 s0.ae.length 1])::(ak,.sl s0.aa.length 4 (ai.l s0.aa))::(an,.sl s0.ae.length 1 (af.l s0.ae))::L)→∀xs,xs.map aM=[.ptr ao 0,.int .i64 a0,.int .i64 b0]→∃aA aB h',cf 56 xs h=some (.int .i64 r.1,h')∧Has h' ((ao,.ob [.bool r.2.aj,.rs aA 0 r.2.aa.length 4,.rs aB 0 r.2.ae.length 1])::(aA,.sl r.2.aa.length 4 (ai.l r.2.aa))::(aB,.sl r.2.ae.length 1 (af.l r.2.ae))::L)
section
variable {cf:CallF}{m:Nat}
theorem l9 {aX:FuncId→b5}(ha:aX 56=AT)(EB:Of cf m)(s0:ab)(a0:Int)(b0:Int)(h:AHeap)(L:Mem)(ao:Nat)(ak:Nat)(an:Nat)  (o:Has h ((ao,.ob [.bool s0.aj,.rs ak 0 s0.aa.length 4,.rs an 0 s0.ae.length 1])::(ak,.sl s0.aa.length 4 (ai.l s0.aa))::(an,.sl s0.ae.length 1 (af.l s0.ae))::L)){out:Int × ab}(H:cu.f m s0 a0 b0=some out) :
  ∃r h',a6 Try.prog aX cf m 56 [.ptr ao 0,.int .i64 a0,.int .i64 b0] h=some (r,h')∧∃aA aB:Nat,r = .int .i64 out.1∧Has h' ((ao,.ob [.bool out.2.aj,.rs aA 0 out.2.aa.length 4,.rs aB 0 out.2.ae.length 1])::(aA,.sl out.2.aa.length 4 (ai.l out.2.aa))::(aB,.sl out.2.ae.length 1 (af.l out.2.ae))::L):=by
 refine au (fn:=Try.f56) ha Try.func56 (by kernel_rfl) (by kernel_rfl) ?_
 refine aK (Q:=fun s=>cu.fin L ao ak an s0 a0 b0 out s) (fun _ _ ⟨h1,aA,aB,h2,h3⟩=>⟨h1,_,h2,aA,aB,rfl,h3⟩) ?_
 have H:_=some out:=H
 unfold cu.f at H
 show du _ cf AT m _ ⟨.ptr ao 0 :: .int .i64 a0 :: .int .i64 b0::oc [],[],h⟩ _
 refine q1 ?_
 obtain⟨yB,HZ,H⟩:=oQ H
 refine qj (S:=fun (σ:Int × Int) s=>match σ with | (a1,b1)=>∃(g0:AV) (g1:AV) (h0:AHeap),s=⟨[.ptr ao 0,.int .i64 a1,.int .i64 b1,.any,.any,g0,g1],[],h0⟩∧Has h0 ((ao,.ob [.bool s0.aj,.rs ak 0 s0.aa.length 4,.rs an 0 s0.ae.length 1])::(ak,.sl s0.aa.length 4 (ai.l s0.aa))::(an,.sl s0.ae.length 1 (af.l s0.ae))::L)) yB H ?_ ?_
 ·rintro⟨a1,b1⟩ s ⟨g0,g1,h0,rfl,o0⟩ H
  have H:=(HZ _).symm.trans H
  try dsimp only at H
  refine qq ?_
  obtain⟨v0,e3,H⟩:=bk H
  obtain⟨h1,e4,o1⟩:=fJ (P:=Try.prog) (tf:=3) (E:=af) (l:=s0.ae) (q:=2) (v:=b1) (x:=.int .i64 b1) o0 rfl Z3 e3 rfl rfl
  obtain rfl:=oi H
  exact qr [.v 3 (show bl Try.prog h0 33 (.ptr ao 2)=some (.rs an 0 s0.ae.length 1) from bV (q:=0) (cs:=[.bool s0.aj,.rs ak 0 s0.aa.length 4,.rs an 0 s0.ae.length 1]) o0 rfl (by kernel_rfl)),.v 6 (bp (k:=.i64) (E:=af) (l:=s0.ae) (q:=2) gI o0 rfl e3),.w 7 e4] <| qq <| q0 <| qt <| ⟨.inl rfl,⟨ak,an,by kernel_rfl,he (by have o:Has h1 ((ao,.ob [.bool s0.aj,.rs ak 0 s0.aa.length 4,.rs an 0 s0.ae.length 1])::(ak,.sl s0.aa.length 4 (ai.l s0.aa))::(an,.sl s0.ae.length 1 (af.l (s0.ae.set a1.toNat b1)))::L):=o1; simpa only [VC] using o)⟩⟩
 clear HZ
 intro tC
 refine qq ?_
 obtain⟨x0,e0,H⟩:=bk H
 obtain⟨x1,e1,H⟩:=bk H
 refine qr [.a 2 (EB _ _ _ e0 h _ (eQ (ah (bS (q:=0) o rfl (ah (b4) (ah (bI (E:=ai) (l:=s0.aa) (q:=1) o rfl (fun _=>rfl)) (ah (bI (E:=af) (l:=s0.ae) (q:=2) o rfl (fun _=>rfl)) (aw))))) (ah (bD) (aw))))),.a 5 (EB _ _ _ e1 h _ (eQ (ah (bS (q:=0) o rfl (ah (b4) (ah (bI (E:=ai) (l:=s0.aa) (q:=1) o rfl (fun _=>rfl)) (ah (bI (E:=af) (l:=s0.ae) (q:=2) o rfl (fun _=>rfl)) (aw))))) (ah (bD) (aw)))))] <| qc H (fun c0 H=>?_) (fun c0 H=>?_)
 ·refine qq ?_
  obtain⟨x2,e2,H⟩:=bk H
  refine qr [.a 2 (EB _ _ _ e2 h _ (eQ (ah (bS (q:=0) o rfl (ah (b4) (ah (bI (E:=ai) (l:=s0.aa) (q:=1) o rfl (fun _=>rfl)) (ah (bI (E:=af) (l:=s0.ae) (q:=2) o rfl (fun _=>rfl)) (aw))))) (ah (bD) (aw)))))] <| qc H (fun c1 H=>?_) (fun c1 H=>?_)
  ·exact q0 <| tC (b0,a0) _ ⟨.any,.any,h,by kernel_rfl,o⟩ H
  ·exact qk <| tC (a0,b0) _ ⟨.bool x2,.any,h,by kernel_rfl,o⟩ H
 ·refine q1 <| qc H (fun c2 H=>?_) (fun c2 H=>?_)
  ·exact q0 <| tC (b0,a0) _ ⟨.any,.any,h,by kernel_rfl,o⟩ H
  ·exact qk <| tC (a0,b0) _ ⟨.any,.bool (decide (a0<b0)),h,by kernel_rfl,o⟩ H
end
end Go.Proofs.Ytifafejidnjckaa
namespace Go.Proofs.Ytifafejidnjckaa
open Go Go.R
open Go.IntKind (i64 u64 u8 u32)
def xL:b5:=gV [0,1,4,5,6,7,12,19,29] [] [508,500,436,507,484,356,484,452,196,484,484,502,507] [] []
def dL.l0 (m:Nat)(s0:List Int)(ky:Int→Option (Bool)):Nat→(List Int)→Int→Int→Option ((List Int) × Int × Int)
 | 0,_,_,_=>none
 | k+1,s1,i0,j0=>if (decide (j0<(s0.length:Int)))=true then ((ix s1 j0).bind fun v0=>(ky v0).bind fun r0=>if (!r0)=true then ((ix s1 i0).bind fun v1=>dL.l0 m s0 ky k (s1.set i0.toNat v0) (i64.wrap (i0+(1:Int))) (i64.wrap (j0+(1:Int)))) else (dL.l0 m s0 ky k s1 i0 (i64.wrap (j0+(1:Int))))) else (some ((s1,i0,j0)))
def dL.f (m:Nat)(s0:List Int)(ky:Int→Option (Bool)):Option ((List Int)):=(cH.f m s0 ky).bind fun x0=>if (x0==(-1:Int))=true then (some s0) else ((dL.l0 m s0 ky m s0 x0 (i64.wrap (x0+(1:Int)))).bind fun cg=>match cg with | (s2,i1,j1)=>(Kg s2 i1).bind fun v2=>(HQ v2 0 i1).bind fun v3=>some v3)
def dL.fin (L:Mem)(aG:Nat)(s0:List Int)(ky:Int→Option (Bool))(r:(List Int))(s:St):Prop:=aP Try.prog (s.open xL) Try.f57.results.toList=some (.rs aG 0 r.length 1)∧Has s.h ((aG,.sl r.length 1 (af.l r))::L)
def QU (cf:CallF)(m:Nat):Prop:=∀(s0:List Int) (ky:Int→Option (Bool)) (r:(List Int)),dL.f m s0 ky=some r→∀h L (G4:Nat) (aG:Nat),Has h ((aG,.sl G4 1 (af.l s0))::L)→∀(eS:FuncId) (aS bY:List AV),(aM (.fn eS aS) = .fn eS aS)→(∀(h:AHeap) (xs:List AV) (a0:Int) r,ky a0=some r→aQ bQ h xs ([.int .i64 a0]++bY)→cf eS xs h=some (.bool r,h))→(∀h K,Has h (K++(L))→aQ cE h aS bY)→(∀h,aQ cE h bY bY)→∀xs,xs.map aM=[.rs aG 0 G4 1,.fn eS aS]→∃h',cf 57 xs h=some (.rs aG 0 r.length 1,h')∧Has h' ((aG,.sl r.length 1 (af.l r))::L)
section
variable {cf:CallF}{m:Nat}
theorem dL.dy (L:Mem)(aG:Nat)(eS:FuncId)(aS bY:List AV)(s0:List Int)(ky:Int→Option (Bool))  (qP:aM (.fn eS aS) = .fn eS aS)(gS:∀(h:AHeap) (xs:List AV) (a0:Int) r,ky a0=some r→aQ bQ h xs ([.int .i64 a0]++bY)→cf eS xs h=some (.bool r,h))(oV:∀h K,Has h (K++(L))→aQ cE h aS bY)(gT:∀h,aQ cE h bY bY)  : dY Try.prog cf xL m (sub [1,1,1,0,1,0,0] (b8 Try.f57)) (fun k (σ:(List Int) × Int × Int)=>dL.l0 m s0 ky k σ.1 σ.2.1 σ.2.2) (fun σ s=>match σ with | (s1,i0,j0)=>∃h0,s=⟨.rs aG 0 s0.length 1 :: .fn eS aS :: .any :: .int .i64 i0 :: .int .i64 j0::oc [],[],h0⟩∧Has h0 ((aG,.sl s0.length 1 (af.l s1))::L)) (fun out e s=>(e = .exit 0∧∃s1 i0 j0,(s1,i0,j0)=out∧∃vG G0 Ou h0,s=⟨[.rs aG 0 s0.length 1,vG,.any,.int .i64 i0,G0,.any,.any,Ou,.any],[],h0⟩∧Has h0 ((aG,.sl s0.length 1 (af.l s1))::L))):=by
 refine mf (fun _=>rfl) ?_
 rintro k ⟨s1,i0,j0⟩ s out ⟨h0,rfl,o0⟩ H
 have H:dL.l0 m s0 ky (k+1) s1 i0 j0=some out:=H
 refine qq <| qq <| q0 <| qc H (fun c1 H=>?_) (fun c1 H=>?_)
 ·refine qk <| qq <| qb 1 <| qq ?_
  obtain⟨v0,e1,H⟩:=bk H
  refine qr [.v 2 (bp (k:=.i64) (E:=af) (l:=s1) (q:=0) gI o0 rfl e1),.v 3 (dH  (E:=af) (l:=s1) (q:=0) o0 rfl A3 e1 rfl)] <| qq ?_
  obtain⟨r0,e2,H⟩:=bk H
  refine qr [.a 2 (gS _ _ _ _ e2 (HV (ah (bD) (aw)) (oV h0 [(aG,.sl s0.length 1 (af.l s1))] o0)))] <| qc H (fun c2 H=>?_) (fun c2 H=>?_)
  ·refine qq ?_
   obtain⟨v1,e3,H⟩:=bk H
   obtain⟨h1,e4,o1⟩:=fJ (P:=Try.prog) (tf:=3) (E:=af) (l:=s1) (q:=0) (v:=v0) (x:=.int .i64 v0) o0 rfl Z3 e3 rfl rfl
   exact qr [.v 3 (bp (k:=.i64) (E:=af) (l:=s1) (q:=0) gI o0 rfl e3),.w 4 e4] <| q0 <| q0 <| ⟨(s1.set i0.toNat v0,i64.wrap (i0+(1:Int)),i64.wrap (j0+(1:Int))),⟨h1,by kernel_rfl,o1⟩,H⟩
  ·exact qk <| q0 <| ⟨(s1,i0,i64.wrap (j0+(1:Int))),⟨h0,by kernel_rfl,o0⟩,H⟩
 ·exact qx 0 <| ⟨rfl,s1,i0,j0,oi H,.fn eS aS,.int .i64 j0,.bool (decide (j0<(s0.length:Int))),h0,by kernel_rfl,o0⟩
theorem tF {aX:FuncId→b5}(ha:aX 57=xL)(Jh:Ol cf m)(s0:List Int)(ky:Int→Option (Bool))(h:AHeap)(L:Mem)(aG:Nat)(eS:FuncId)(aS bY:List AV)  (qP:aM (.fn eS aS) = .fn eS aS)(gS:∀(h:AHeap) (xs:List AV) (a0:Int) r,ky a0=some r→aQ bQ h xs ([.int .i64 a0]++bY)→cf eS xs h=some (.bool r,h))(oV:∀h K,Has h (K++(L))→aQ cE h aS bY)(gT:∀h,aQ cE h bY bY)(o:Has h ((aG,.sl s0.length 1 (af.l s0))::L)){out:(List Int)}(H:dL.f m s0 ky=some out) :
  ∃r h',a6 Try.prog aX cf m 57 [.rs aG 0 s0.length 1,.fn eS aS] h=some (r,h')∧r = .rs aG 0 out.length 1∧Has h' ((aG,.sl out.length 1 (af.l out))::L):=by
 refine au (fn:=Try.f57) ha Try.func57 (by kernel_rfl) (by kernel_rfl) ?_
 refine aK (Q:=fun s=>dL.fin L aG s0 ky out s) (fun _ _ ⟨h1,h2,h3⟩=>⟨h1,_,h2,rfl,h3⟩) ?_
 have H:_=some out:=H
 unfold dL.f at H
 show du _ cf xL m _ ⟨.rs aG 0 s0.length 1 :: .fn eS aS::HS [],[],h⟩ _
 refine q1 <| qq ?_
 obtain⟨x0,e0,H⟩:=bk H
 refine qr [.a 2 (Jh _ _ _ e0 eS bY gS gT h _ (eQ (ah (bI (E:=af) (l:=s0) (q:=0) o rfl (fun _=>rfl)) (ah (sF (oV h [(aG,.sl s0.length 1 (af.l s0))] o)) (aw)))))] <| qq <| qq <| q0 <| qc H (fun c0 H=>?_) (fun c0 H=>?_)
 ·obtain rfl:=oi H
  exact q1 <| qt <| ⟨.inl rfl,⟨by kernel_rfl,he o⟩⟩
 ·refine qk <| qq <| qq <| q0 <| qb 0 ?_
  obtain⟨cg,e5,H⟩:=bk H
  refine ql (dL.dy L aG eS aS bY s0 ky  qP gS oV gT  (s0,x0,i64.wrap (x0+(1:Int))) _ _ ⟨h,by kernel_rfl,o⟩ e5) ?_
  rintro e s ⟨rfl,s2,i1,j1,rfl,g0,g1,g2,h2,rfl,o2⟩
  try dsimp only at H
  refine qq ?_
  obtain⟨v2,e6,H⟩:=bk H
  obtain⟨h3,e7,o3⟩:=Ja (q:=0) (l:=s2) N9 o2 rfl e6
  refine qr [.v 2 (I9 (E:=af) (k:=.i64) (q:=0) (l:=s2) gI o2 rfl (sE e6).1 (sE e6).2.1),.a 3 e7] <| qq ?_
  obtain⟨v3,e8,H⟩:=bk H
  obtain⟨Ov,o4⟩:=IQ (P:=Try.prog) (k:=.i64) (E:=af) (q:=0) o3 rfl gI e8
  obtain rfl:=oi H
  exact qr [.v 2 Ov] <| qt <| ⟨.inl rfl,⟨by kernel_rfl,he o4⟩⟩
end
end Go.Proofs.Ytifafejidnjckaa
namespace Go.Proofs.Ytifafejidnjckaa
open Go Go.R
open Go.IntKind (i64 u64 u8 u32)
def AU:b5:=gV [0,1,3] [] [4,3] [] []
def cX.f (m:Nat)(n0:Int)(x0:ab):Option (Bool):=(ca.f m x0 n0).bind fun x1=>some (!x1)
def cX.fin (L:Mem)(r:Bool)(s:St):Prop:=∃av,aP Try.prog (s.open AU) Try.f58.results.toList=some av∧fD s.h av (.bool r)
def QV (cf:CallF)(m:Nat):Prop:=∀(n0:Int) (x0:ab) (r:Bool),cX.f m n0 x0=some r→∀h xs,aQ bQ h xs [.int .i64 n0,.fp [.fp [.bool x0.aj,ai.fz x0.aa,af.fz x0.ae] 0] 0]→cf 58 xs h=some (.bool r,h)
section
variable {cf:CallF}{m:Nat}
theorem kz {aX:FuncId→b5}(ha:aX 58=AU)(EB:Of cf m)(n0:Int)(x0:ab)(h:AHeap)(L:Mem)  (o:Has h (L)){out:Bool}(H:cX.f m n0 x0=some out) :
  ∃r h',a6 Try.prog aX cf m 58 [.int .i64 n0,.fp [.fp [.bool x0.aj,ai.fz x0.aa,af.fz x0.ae] 0] 0] h=some (r,h')∧fD h' r (.bool out):=by
 refine au (fn:=Try.f58) ha Try.func58 (by kernel_rfl) (by kernel_rfl) ?_
 refine aK (Q:=fun s=>cX.fin L out s) (fun _ _ h=>h) ?_
 have H:_=some out:=H
 unfold cX.f at H
 show du _ cf AU m _ ⟨[.int .i64 n0,.fp [.fp [.bool x0.aj,ai.fz x0.aa,af.fz x0.ae] 0] 0,.any],[],h⟩ _
 refine q1 <| qq ?_
 obtain⟨x1,e0,H⟩:=bk H
 obtain rfl:=oi H
 exact qr [.a 2 (EB _ _ _ e0 h _ (eQ (ah (gv (pure_cons (dO) (pure_cons (bM.bG (E:=ai) (l:=x0.aa)) (pure_cons (bM.bG (E:=af) (l:=x0.ae)) (pure_nil))))) (ah (bD) (aw)))))] <| qt <| ⟨.inl rfl,dv (.bool (!x1)) h (dq (aD))⟩
end
end Go.Proofs.Ytifafejidnjckaa
namespace Go.Proofs.Ytifafejidnjckaa
open Go Go.R
open Go.IntKind (i64 u64 u8 u32)
def AW:b5:=gV [0,1,2] [] [4,3] [] []
def cL.f (m:Nat)(x0:ByteArray)(x1:Int):Option (Bool):=(fZ.f m x0).bind fun x2=>if x2=true then (some (decide (x1≥(0:Int)))) else (some false)
def cL.fin (L:Mem)(r:Bool)(s:St):Prop:=∃av,aP Try.prog (s.open AW) Try.f63.results.toList=some av∧fD s.h av (.bool r)
def QX (cf:CallF)(m:Nat):Prop:=∀(x0:ByteArray) (x1:Int) (r:Bool),cL.f m x0 x1=some r→∀h xs,aQ bQ h xs [.fp [.str x0] 0,.fp [.int .i64 x1] 0]→cf 63 xs h=some (.bool r,h)
section
variable {cf:CallF}{m:Nat}
theorem kU {aX:FuncId→b5}(ha:aX 63=AW)(EC:Og cf m)(x0:ByteArray)(x1:Int)(h:AHeap)(L:Mem)  (o:Has h (L)){out:Bool}(H:cL.f m x0 x1=some out) :
  ∃r h',a6 Try.prog aX cf m 63 [.fp [.str x0] 0,.fp [.int .i64 x1] 0] h=some (r,h')∧fD h' r (.bool out):=by
 refine au (fn:=Try.f63) ha Try.func63 (by kernel_rfl) (by kernel_rfl) ?_
 refine aK (Q:=fun s=>cL.fin L out s) (fun _ _ h=>h) ?_
 have H:_=some out:=H
 unfold cL.f at H
 show du _ cf AW m _ ⟨[.fp [.str x0] 0,.fp [.int .i64 x1] 0,.any],[],h⟩ _
 refine q1 <| qq ?_
 obtain⟨x2,e0,H⟩:=bk H
 rcases iw H with⟨c0,H⟩| ⟨c0,H⟩
 ·obtain rfl:=oi H
  exact qr [.a 1 (EC _ _ e0 h _ (eQ (ah (cU) (aw)))),.b 2 c0] <| qt <| ⟨.inl rfl,dv (.bool (decide (x1≥(0:Int)))) h (dq (aD))⟩
 ·obtain rfl:=oi H
  exact qr [.a 1 (EC _ _ e0 h _ (eQ (ah (cU) (aw)))),.b 2 c0] <| qt <| ⟨.inl rfl,dv (.bool false) h (dq (aD))⟩
end
end Go.Proofs.Ytifafejidnjckaa
namespace Go.Proofs.Ytifafejidnjckaa
open Go Go.R
open Go.IntKind (i64 u64 u8 u32)
def AX:b5:=gV [0,1,4] [] [4,3] [] []
def gL.f (m:Nat)(s0:List aq)(f0:aq→Option (Bool)):Option (Bool):=(fa.f m s0 f0).bind fun x0=>some (decide (x0≥(0:Int)))
def gL.fin (L:Mem)(r:Bool)(s:St):Prop:=∃av,aP Try.prog (s.open AX) Try.f65.results.toList=some av∧fD s.h av (.bool r)
def QY (cf:CallF)(m:Nat):Prop:=∀(s0:List aq) (f0:aq→Option (Bool)) (r:Bool),gL.f m s0 f0=some r→∀(eS:FuncId) (aS:List AV),(∀(h:AHeap) (xs:List AV) (a0:aq) r,f0 a0=some r→aQ bQ h xs ([.agg [.int .i64 a0.kind,.int .i64 a0.int,.str a0.label,af.fz a0.args]]++aS)→cf eS xs h=some (.bool r,h))→(∀h,aQ cE h aS aS)→∀h xs,aQ bQ h xs [ai.fz s0,.fn eS aS]→cf 65 xs h=some (.bool r,h)
section
variable {cf:CallF}{m:Nat}
theorem qU {aX:FuncId→b5}(ha:aX 65=AX)(Ow:QK cf m)(s0:List aq)(f0:aq→Option (Bool))(h:AHeap)(L:Mem)(eS:FuncId)(aS:List AV)  (gS:∀(h:AHeap) (xs:List AV) (a0:aq) r,f0 a0=some r→aQ bQ h xs ([.agg [.int .i64 a0.kind,.int .i64 a0.int,.str a0.label,af.fz a0.args]]++aS)→cf eS xs h=some (.bool r,h))(gT:∀h,aQ cE h aS aS)(o:Has h (L)){out:Bool}(H:gL.f m s0 f0=some out) :
  ∃r h',a6 Try.prog aX cf m 65 [ai.fz s0,.fn eS aS] h=some (r,h')∧fD h' r (.bool out):=by
 refine au (fn:=Try.f65) ha Try.func65 (by kernel_rfl) (by kernel_rfl) ?_
 refine aK (Q:=fun s=>gL.fin L out s) (fun _ _ h=>h) ?_
 have H:_=some out:=H
 unfold gL.f at H
 show du _ cf AX m _ ⟨[ai.fz s0,.fn eS aS,.any],[],h⟩ _
 refine q1 <| qq ?_
 obtain⟨x0,e0,H⟩:=bk H
 obtain rfl:=oi H
 exact qr [.a 2 (Ow _ _ _ e0 eS aS gS gT h _ (eQ (ah (eG (E:=ai)) (ah (sF (gT h)) (aw)))))] <| qt <| ⟨.inl rfl,dv (.bool (decide (x0≥(0:Int)))) h (dq (aD))⟩
end
end Go.Proofs.Ytifafejidnjckaa
namespace Go.Proofs.Ytifafejidnjckaa
open Go Go.R
open Go.IntKind (i64 u64 u8 u32)
def xM:b5:=gV [0,1,2,6,7,27,29,30,31,37] [] [1016,990,1015,830,574,814,318,1015,830,1015] [] []
def cP.l0 (m:Nat)(s0:ByteArray):Nat→Int→Option (Sum Bool (Int))
 | 0,_=>none
 | k+1,x0=>if (decide (x0<(s0.size:Int)))=true then ((bt s0 x0).bind fun v2=>(fR.f m v2).bind fun x1=>if (!x1)=true then (some (.inl false)) else (cP.l0 m s0 k (i64.wrap (x0+(1:Int))))) else (some (.inr x0))
def cP.f (m:Nat)(s0:ByteArray)(kA:Int)(nE:Int):Option (Bool):=if (decide ((s0.size:Int)<(1:Int)))=true then (some false) else (if (decide ((s0.size:Int) > (16:Int)))=true then (some false) else ((bt s0 (0:Int)).bind fun v0=>if (decide (v0<kA))=true then (some false) else ((bt s0 (0:Int)).bind fun v1=>if (decide (v1 > nE))=true then (some false) else ((cP.l0 m s0 m (0:Int)).bind fun cg=>match cg with | .inl r0=>some r0 | .inr x2=>some true))))
def cP.fin (L:Mem)(r:Bool)(s:St):Prop:=∃av,aP Try.prog (s.open xM) Try.f74.results.toList=some av∧fD s.h av (.bool r)
def QZ (cf:CallF)(m:Nat):Prop:=∀(s0:ByteArray) (kA:Int) (nE:Int) (r:Bool),cP.f m s0 kA nE=some r→∀h xs,aQ bQ h xs [.str s0,.int .u8 kA,.int .u8 nE]→cf 74 xs h=some (.bool r,h)
section
variable {cf:CallF}{m:Nat}
theorem cP.dy (L:Mem)(s0:ByteArray)  (Ji:Om cf m):dY Try.prog cf xM m (sub [1,1,0,1,0,0] (b8 Try.f74)) (fun k (σ:Int)=>cP.l0 m s0 k σ) (fun σ s=>match σ with | x0=>∃h0,s=⟨.str s0::C9 [.int .i64 (s0.size:Int),.int .i64 x0,.any,.any],[],h0⟩∧Has h0 (L)) (fun out e s=>(e = .exit 0∧∃x0,.inr x0=out∧∃oU Ox Jj Oy h0,s=⟨oU::C9 [Ox,Jj,Oy,.any],[],h0⟩∧Has h0 (L))∨(e = .ret∧∃r,.inl r=out∧cP.fin L r s)):=by
 refine mf (fun _=>rfl) ?_
 rintro k x0 s out ⟨h0,rfl,o0⟩ H
 have H:cP.l0 m s0 (k+1) x0=some out:=H
 refine q1 <| qq <| qc H (fun c7 H=>?_) (fun c7 H=>?_)
 ·refine qk <| qq <| qb 1 <| qq <| q0 <| qq ?_
  obtain⟨v2,e2,H⟩:=bk H
  obtain⟨x1,e3,H⟩:=bk H
  refine qr [.v 2 (vt (k:=.i64) U9 e2),.a 3 (Ji _ _ e3 h0 _ (eQ (ah (bD) (aw))))] <| qc H (fun c8 H=>?_) (fun c8 H=>?_)
  ·exact q1 <| qt <| Or.inr (⟨rfl,_,oi H,dv (.bool false) h0 (dq (aD))⟩)
  ·exact qk <| q0 <| ⟨i64.wrap (x0+(1:Int)),⟨h0,by kernel_rfl,o0⟩,H⟩
 ·exact qx 0 <| Or.inl (⟨rfl,x0,oi H,.str s0,.int .i64 (s0.size:Int),.int .i64 x0,.bool (decide (x0<(s0.size:Int))),h0,by kernel_rfl,o0⟩)
theorem sJ {aX:FuncId→b5}(ha:aX 74=xM)(Ji:Om cf m)(s0:ByteArray)(kA:Int)(nE:Int)(h:AHeap)(L:Mem)  (o:Has h (L)){out:Bool}(H:cP.f m s0 kA nE=some out) :
  ∃r h',a6 Try.prog aX cf m 74 [.str s0,.int .u8 kA,.int .u8 nE] h=some (r,h')∧fD h' r (.bool out):=by
 refine au (fn:=Try.f74) ha Try.func74 (by kernel_rfl) (by kernel_rfl) ?_
 refine aK (Q:=fun s=>cP.fin L out s) (fun _ _ h=>h) ?_
 have H:_=some out:=H
 unfold cP.f at H
 show du _ cf xM m _ ⟨.str s0 :: .int .u8 kA :: .int .u8 nE::HS [],[],h⟩ _
 refine q1 <| qq <| qq ?_
 rcases iw H with⟨c0,H⟩| ⟨c0,H⟩
 ·obtain rfl:=oi H
  exact qr [.b 3 c0] <| Ke <| qq <| q0 <| qt <| ⟨.inl rfl,dv (.bool false) h (dq (aD))⟩
 ·rcases iw H with⟨c2,H⟩| ⟨c2,H⟩
  ·obtain rfl:=oi H
   exact qr [.b 3 c0,.b 8 c2] <| Ke <| qq <| q0 <| qt <| ⟨.inl rfl,dv (.bool false) h (dq (aD))⟩
  ·obtain⟨v0,e0,H⟩:=bk H
   rcases iw H with⟨c4,H⟩| ⟨c4,H⟩
   ·obtain rfl:=oi H
    exact qr [.b 3 c0,.b 8 c2,.v 10 (vt (k:=.i64) U9 e0),.b 14 c4] <| Ke <| qq <| q0 <| qt <| ⟨.inl rfl,dv (.bool false) h (dq (aD))⟩
   ·obtain⟨v1,e1,H⟩:=bk H
    refine qr [.b 3 c0,.b 8 c2,.v 10 (vt (k:=.i64) U9 e0),.b 14 c4,.v 16 (vt (k:=.i64) U9 e1)] <| qc H (fun c6 H=>?_) (fun c6 H=>?_)
    ·obtain rfl:=oi H
     exact q1 <| qt <| ⟨.inl rfl,dv (.bool false) h (dq (aD))⟩
    ·refine qk <| qq <| qq <| q0 <| qb 0 ?_
     obtain⟨cg,e4,H⟩:=bk H
     refine ql (cP.dy L s0  Ji (0:Int) _ _ ⟨h,by kernel_rfl,o⟩ e4) ?_
     rintro e s (⟨rfl,x2,rfl,g0,g1,g2,g3,h1,rfl,o1⟩| ⟨rfl,r0,rfl,zl⟩)
     ·try dsimp only at H
      obtain rfl:=oi H
      exact q1 <| qt <| ⟨.inl rfl,dv (.bool true) h1 (dq (aD))⟩
     ·try dsimp only at H
      obtain rfl:=oi H
      exact⟨.inl rfl,zl⟩
end
end Go.Proofs.Ytifafejidnjckaa
namespace Go.Proofs.Ytifafejidnjckaa
open Go Go.R
open Go.IntKind (i64 u64 u8 u32)
end Go.Proofs.Ytifafejidnjckaa
namespace Go.Proofs.Ytifafejidnjckaa
open Go Go.R
open Go.IntKind (i64 u64 u8 u32)
def AY:b5:=gV [0,1,4,5,6,11,12,13,16,19] [] [1020,1012,996,972,959,1019,1019,892,1019,764,1019,511,1019,1019] [] []
def cM.f (m:Nat)(x0:Int)(y0:Int):Option (Int):=(cmp_isNaN_int.f m x0).bind fun x1=>(cmp_isNaN_int.f m y0).bind fun x2=>if x1=true then (if x2=true then (some (0:Int)) else (some (-1:Int))) else (if x2=true then (some (1:Int)) else (if (decide (x0<y0))=true then (some (-1:Int)) else (if (decide (x0 > y0))=true then (some (1:Int)) else (some (0:Int)))))
def cM.fin (L:Mem)(r:Int)(s:St):Prop:=∃av,aP Try.prog (s.open AY) Try.f80.results.toList=some av∧fD s.h av (.int .i64 r)
def Q0 (cf:CallF)(m:Nat):Prop:=∀(x0:Int) (y0:Int) (r:Int),cM.f m x0 y0=some r→∀h xs,aQ bQ h xs [.int .i64 x0,.int .i64 y0]→cf 80 xs h=some (.int .i64 r,h)
section
variable {cf:CallF}{m:Nat}
theorem mK {aX:FuncId→b5}(ha:aX 80=AY)(LD:QN cf m)(x0:Int)(y0:Int)(h:AHeap)(L:Mem)  (o:Has h (L)){out:Int}(H:cM.f m x0 y0=some out) :
  ∃r h',a6 Try.prog aX cf m 80 [.int .i64 x0,.int .i64 y0] h=some (r,h')∧fD h' r (.int .i64 out):=by
 refine au (fn:=Try.f80) ha Try.func80 (by kernel_rfl) (by kernel_rfl) ?_
 refine aK (Q:=fun s=>cM.fin L out s) (fun _ _ h=>h) ?_
 have H:_=some out:=H
 unfold cM.f at H
 show du _ cf AY m _ ⟨.int .i64 x0 :: .int .i64 y0::Cr [],[],h⟩ _
 refine q1 <| qq ?_
 obtain⟨x1,e0,H⟩:=bk H
 refine qr [.a 1 (LD _ _ e0 h _ (eQ (ah (bD) (aw))))] <| qq ?_
 obtain⟨x2,e1,H⟩:=bk H
 refine qr [.a 1 (LD _ _ e1 h _ (eQ (ah (bD) (aw))))] <| qq <| qq <| q0 <| qc H (fun c0 H=>?_) (fun c0 H=>?_)
 ·refine qq <| qq <| q0 <| qc H (fun c1 H=>?_) (fun c1 H=>?_)
  ·obtain rfl:=oi H
   exact q1 <| qt <| ⟨.inl rfl,dv (.int .i64 (0:Int)) h (dq (dk))⟩
  ·obtain rfl:=oi H
   exact qk <| qq <| q0 <| qt <| ⟨.inl rfl,dv (.int .i64 (-1:Int)) h (dq (dk))⟩
 ·refine qk <| qq <| qq <| q0 <| qc H (fun c2 H=>?_) (fun c2 H=>?_)
  ·obtain rfl:=oi H
   exact q1 <| qt <| ⟨.inl rfl,dv (.int .i64 (1:Int)) h (dq (dk))⟩
  ·refine qk <| qq <| qq <| q0 <| qc H (fun c3 H=>?_) (fun c3 H=>?_)
   ·obtain rfl:=oi H
    exact q1 <| qt <| ⟨.inl rfl,dv (.int .i64 (-1:Int)) h (dq (dk))⟩
   ·refine qk <| qq <| qq <| q0 <| qc H (fun c4 H=>?_) (fun c4 H=>?_)
    ·obtain rfl:=oi H
     exact q1 <| qt <| ⟨.inl rfl,dv (.int .i64 (1:Int)) h (dq (dk))⟩
    ·obtain rfl:=oi H
     exact qk <| qq <| q0 <| qt <| ⟨.inl rfl,dv (.int .i64 (0:Int)) h (dq (dk))⟩
end
end Go.Proofs.Ytifafejidnjckaa
namespace Go.Proofs.Ytifafejidnjckaa
open Go Go.R
open Go.IntKind (i64 u64 u8 u32)
def AZ:b5:=gV [0,1,4,5,6,11,12,13,16,19] [] [1020,1012,996,972,959,1019,1019,892,1019,764,1019,511,1019,1019] [] []
def cm.f (m:Nat)(x0:ByteArray)(y0:ByteArray):Option (Int):=(cmp_isNaN_string.f m x0).bind fun x1=>(cmp_isNaN_string.f m y0).bind fun x2=>if x1=true then (if x2=true then (some (0:Int)) else (some (-1:Int))) else (if x2=true then (some (1:Int)) else (if (Op.bytesLess x0.data.toList y0.data.toList)=true then (some (-1:Int)) else (if (!D7 x0 y0)=true then (some (1:Int)) else (some (0:Int)))))
def cm.fin (L:Mem)(r:Int)(s:St):Prop:=∃av,aP Try.prog (s.open AZ) Try.f82.results.toList=some av∧fD s.h av (.int .i64 r)
def Q1 (cf:CallF)(m:Nat):Prop:=∀(x0:ByteArray) (y0:ByteArray) (r:Int),cm.f m x0 y0=some r→∀h xs,aQ bQ h xs [.str x0,.str y0]→cf 82 xs h=some (.int .i64 r,h)
section
variable {cf:CallF}{m:Nat}
theorem kV {aX:FuncId→b5}(ha:aX 82=AZ)(LF:QP cf m)(x0:ByteArray)(y0:ByteArray)(h:AHeap)(L:Mem)  (o:Has h (L)){out:Int}(H:cm.f m x0 y0=some out) :
  ∃r h',a6 Try.prog aX cf m 82 [.str x0,.str y0] h=some (r,h')∧fD h' r (.int .i64 out):=by
 refine au (fn:=Try.f82) ha Try.func82 (by kernel_rfl) (by kernel_rfl) ?_
 refine aK (Q:=fun s=>cm.fin L out s) (fun _ _ h=>h) ?_
 have H:_=some out:=H
 unfold cm.f at H
 show du _ cf AZ m _ ⟨.str x0 :: .str y0::Cr [],[],h⟩ _
 refine q1 <| qq ?_
 obtain⟨x1,e0,H⟩:=bk H
 refine qr [.a 1 (LF _ _ e0 h _ (eQ (ah (cU) (aw))))] <| qq ?_
 obtain⟨x2,e1,H⟩:=bk H
 refine qr [.a 1 (LF _ _ e1 h _ (eQ (ah (cU) (aw))))] <| qq <| qq <| q0 <| qc H (fun c0 H=>?_) (fun c0 H=>?_)
 ·refine qq <| qq <| q0 <| qc H (fun c1 H=>?_) (fun c1 H=>?_)
  ·obtain rfl:=oi H
   exact q1 <| qt <| ⟨.inl rfl,dv (.int .i64 (0:Int)) h (dq (dk))⟩
  ·obtain rfl:=oi H
   exact qk <| qq <| q0 <| qt <| ⟨.inl rfl,dv (.int .i64 (-1:Int)) h (dq (dk))⟩
 ·refine qk <| qq <| qq <| q0 <| qc H (fun c2 H=>?_) (fun c2 H=>?_)
  ·obtain rfl:=oi H
   exact q1 <| qt <| ⟨.inl rfl,dv (.int .i64 (1:Int)) h (dq (dk))⟩
  ·refine qk <| qq <| qq <| q0 <| qc H (fun c3 H=>?_) (fun c3 H=>?_)
   ·obtain rfl:=oi H
    exact q1 <| qt <| ⟨.inl rfl,dv (.int .i64 (-1:Int)) h (dq (dk))⟩
   ·refine qk <| qq <| qq <| q0 <| qc H (fun c4 H=>?_) (fun c4 H=>?_)
    ·obtain rfl:=oi H
     exact q1 <| qt <| ⟨.inl rfl,dv (.int .i64 (1:Int)) h (dq (dk))⟩
    ·obtain rfl:=oi H
     exact qk <| qq <| q0 <| qt <| ⟨.inl rfl,dv (.int .i64 (0:Int)) h (dq (dk))⟩
end
end Go.Proofs.Ytifafejidnjckaa
namespace Go.Proofs.Ytifafejidnjckaa
open Go Go.R
open Go.IntKind (i64 u64 u8 u32)
end Go.Proofs.Ytifafejidnjckaa
namespace Go.Proofs.Ytifafejidnjckaa
open Go Go.R
open Go.IntKind (i64 u64 u8 u32)
end Go.Proofs.Ytifafejidnjckaa
namespace Go.Proofs.Ytifafejidnjckaa
open Go Go.R
open Go.IntKind (i64 u64 u8 u32)
end Go.Proofs.Ytifafejidnjckaa
namespace Go.Proofs.Ytifafejidnjckaa
open Go Go.R
open Go.IntKind (i64 u64 u8 u32)
end Go.Proofs.Ytifafejidnjckaa
namespace Go.Proofs.Ytifafejidnjckaa
open Go Go.R
open Go.IntKind (i64 u64 u8 u32)
end Go.Proofs.Ytifafejidnjckaa
namespace Go.Proofs.Ytifafejidnjckaa
open Go Go.R
open Go.IntKind (i64 u64 u8 u32)
end Go.Proofs.Ytifafejidnjckaa
namespace Go.Proofs.Ytifafejidnjckaa
open Go Go.R
open Go.IntKind (i64 u64 u8 u32)
def sK:b5:=gV [0,1,2,3,4,10,11,20,23] [] [450,394,266,138,394,394,394,394,511] [] []
def fc.l0 (m:Nat)(m0:Int)(aT:Int→Int→Option (Int)):Nat→(List Int)→Int→Int→Option ((List Int) × Int × Int)
 | 0,_,_,_=>none
 | k+1,bn,i0,j0=>if (!(i0==j0))=true then (if (decide (i0 > j0))=true then ((bT.f m bn (i64.wrap (m0 - i0)) m0 j0 aT).bind fun x0=>fc.l0 m m0 aT k x0 (i64.wrap (i0 - j0)) j0) else ((bT.f m bn (i64.wrap (m0 - i0)) (i64.wrap (i64.wrap (m0+j0) - i0)) i0 aT).bind fun x1=>fc.l0 m m0 aT k x1 i0 (i64.wrap (j0 - i0)))) else (some ((bn,i0,j0)))
def fc.f (m:Nat)(ax:List Int)(a0:Int)(m0:Int)(b0:Int)(aT:Int→Int→Option (Int)):Option ((List Int)):=(fc.l0 m m0 aT m ax (i64.wrap (m0 - a0)) (i64.wrap (b0 - m0))).bind fun cg=>match cg with | (dd,i1,j1)=>(bT.f m dd (i64.wrap (m0 - i1)) m0 i1 aT).bind fun x2=>some x2
def fc.fin (L:Mem)(aG:Nat)(ax:List Int)(a0:Int)(m0:Int)(b0:Int)(aT:Int→Int→Option (Int))(r:(List Int))(s:St):Prop:=aP Try.prog (s.open sK) Try.f108.results.toList=some (.tup [])∧Has s.h ((aG,.sl ax.length 1 (af.l r))::L)
def LG (cf:CallF)(m:Nat):Prop:=∀(ax:List Int) (a0:Int) (m0:Int) (b0:Int) (aT:Int→Int→Option (Int)) (r:(List Int)),fc.f m ax a0 m0 b0 aT=some r→∀h L (cr:Nat) (aG:Nat),Has h ((aG,.sl cr 1 (af.l ax))::L)→∀(eU:FuncId) (a7 aU:List AV),(aM (.fn eU a7) = .fn eU a7)→(∀(h:AHeap) (xs:List AV) (a0:Int) (a1:Int) r,aT a0 a1=some r→aQ bQ h xs ([.int .i64 a0,.int .i64 a1]++aU)→cf eU xs h=some (.int .i64 r,h))→(∀h K,Has h (K++(L))→aQ cE h a7 aU)→(∀h,aQ cE h aU aU)→∀xs,xs.map aM=[.rs aG 0 cr 1,.int .i64 a0,.int .i64 m0,.int .i64 b0,.fn eU a7]→∃h',cf 108 xs h=some (.tup [],h')∧Has h' ((aG,.sl cr 1 (af.l r))::L)
section
variable {cf:CallF}{m:Nat}
theorem fc.dy (L:Mem)(aG:Nat)(eU:FuncId)(a7 aU:List AV)(ax:List Int)(a0:Int)(m0:Int)(b0:Int)(aT:Int→Int→Option (Int))  (gK:aM (.fn eU a7) = .fn eU a7)(hX:∀(h:AHeap) (xs:List AV) (a0:Int) (a1:Int) r,aT a0 a1=some r→aQ bQ h xs ([.int .i64 a0,.int .i64 a1]++aU)→cf eU xs h=some (.int .i64 r,h))(hY:∀h K,Has h (K++(L))→aQ cE h a7 aU)(iI:∀h,aQ cE h aU aU)(xN:Jg cf m):dY Try.prog cf sK m (sub [1,1,0,0,0] (b8 Try.f108)) (fun k (σ:(List Int) × Int × Int)=>fc.l0 m m0 aT k σ.1 σ.2.1 σ.2.2) (fun σ s=>match σ with | (bn,i0,j0)=>∃h0,s=⟨[.rs aG 0 ax.length 1,.any,.int .i64 m0,.any,.fn eU a7,.int .i64 i0,.int .i64 j0,.any,.any],[],h0⟩∧Has h0 ((aG,.sl ax.length 1 (af.l bn))::L)) (fun out e s=>(e = .exit 0∧∃bn i0 j0,(bn,i0,j0)=out∧∃zr Oz h0,s=⟨[.rs aG 0 ax.length 1,.any,.int .i64 m0,.any,.fn eU a7,.int .i64 i0,zr,Oz,.any],[],h0⟩∧Has h0 ((aG,.sl ax.length 1 (af.l bn))::L))):=by
 refine mf (fun _=>rfl) ?_
 rintro k ⟨bn,i0,j0⟩ s out ⟨h0,rfl,o0⟩ H
 have H:fc.l0 m m0 aT (k+1) bn i0 j0=some out:=H
 refine qq <| qq <| q0 <| qc H (fun c0 H=>?_) (fun c0 H=>?_)
 ·refine qk <| qb 1 <| qq <| q0 <| qc H (fun c1 H=>?_) (fun c1 H=>?_)
  ·refine qq ?_
   obtain⟨x0,e0,H⟩:=bk H
   obtain⟨h1,e1,o1⟩:=xN _ _ _ _ _ _ e0 h0 _ _ _ (o0) eU a7 aU gK hX (fun h' K' o'=>hY h' (K'++[]) (by simpa only [VI,V6,V7] using o')) iI [.rs aG 0 ax.length 1,.int .i64 (i64.wrap (m0 - i0)),.int .i64 m0,.int .i64 j0,.fn eU a7] (ar (rfl) (ar (aO (aW)) (ar (aO (aW)) (ar (aO (aW)) (ar (gK) (bA))))))
   exact qr [.a 7 e1] <| q0 <| ⟨(x0,i64.wrap (i0 - j0),j0),⟨h1,by kernel_rfl,o1⟩,H⟩
  ·refine qq ?_
   obtain⟨x1,e2,H⟩:=bk H
   obtain⟨h2,e3,o2⟩:=xN _ _ _ _ _ _ e2 h0 _ _ _ (o0) eU a7 aU gK hX (fun h' K' o'=>hY h' (K'++[]) (by simpa only [VI,V6,V7] using o')) iI [.rs aG 0 ax.length 1,.int .i64 (i64.wrap (m0 - i0)),.int .i64 (i64.wrap (i64.wrap (m0+j0) - i0)),.int .i64 i0,.fn eU a7] (ar (rfl) (ar (aO (aW)) (ar (aO (aW)) (ar (aO (aW)) (ar (gK) (bA))))))
   exact qr [.a 11 e3] <| q0 <| ⟨(x1,i0,i64.wrap (j0 - i0)),⟨h2,by kernel_rfl,o2⟩,H⟩
 ·exact qx 0 <| ⟨rfl,bn,i0,j0,oi H,.int .i64 j0,.bool (!(i0==j0)),h0,by kernel_rfl,o0⟩
theorem vO {aX:FuncId→b5}(ha:aX 108=sK)(xN:Jg cf m)(ax:List Int)(a0:Int)(m0:Int)(b0:Int)(aT:Int→Int→Option (Int))(h:AHeap)(L:Mem)(aG:Nat)(eU:FuncId)(a7 aU:List AV)  (gK:aM (.fn eU a7) = .fn eU a7)(hX:∀(h:AHeap) (xs:List AV) (a0:Int) (a1:Int) r,aT a0 a1=some r→aQ bQ h xs ([.int .i64 a0,.int .i64 a1]++aU)→cf eU xs h=some (.int .i64 r,h))(hY:∀h K,Has h (K++(L))→aQ cE h a7 aU)(iI:∀h,aQ cE h aU aU)(o:Has h ((aG,.sl ax.length 1 (af.l ax))::L)){out:(List Int)}(H:fc.f m ax a0 m0 b0 aT=some out) :
  ∃r h',a6 Try.prog aX cf m 108 [.rs aG 0 ax.length 1,.int .i64 a0,.int .i64 m0,.int .i64 b0,.fn eU a7] h=some (r,h')∧r = .tup []∧Has h' ((aG,.sl ax.length 1 (af.l out))::L):=by
 refine au (fn:=Try.f108) ha Try.func108 (by kernel_rfl) (by kernel_rfl) ?_
 refine aK (Q:=fun s=>fc.fin L aG ax a0 m0 b0 aT out s) (fun _ _ ⟨h1,h2,h3⟩=>⟨h1,_,h2,rfl,h3⟩) ?_
 have H:_=some out:=H
 unfold fc.f at H
 show du _ cf sK m _ ⟨.rs aG 0 ax.length 1 :: .int .i64 a0 :: .int .i64 m0 :: .int .i64 b0 :: .fn eU a7::oc [],[],h⟩ _
 refine q1 <| qq <| q0 <| qq <| qb 0 ?_
 obtain⟨cg,e4,H⟩:=bk H
 refine ql (fc.dy L aG eU a7 aU ax a0 m0 b0 aT  gK hX hY iI xN (ax,i64.wrap (m0 - a0),i64.wrap (b0 - m0)) _ _ ⟨h,by kernel_rfl,o⟩ e4) ?_
 rintro e s ⟨rfl,dd,i1,j1,rfl,g0,g1,h3,rfl,o3⟩
 try dsimp only at H
 obtain⟨x2,e5,H⟩:=bk H
 obtain⟨h4,e6,o4⟩:=xN _ _ _ _ _ _ e5 h3 _ _ _ (o3) eU a7 aU gK hX (fun h' K' o'=>hY h' (K'++[]) (by simpa only [VI,V6,V7] using o')) iI [.rs aG 0 ax.length 1,.int .i64 (i64.wrap (m0 - i1)),.int .i64 m0,.int .i64 i1,.fn eU a7] (ar (rfl) (ar (aO (aW)) (ar (aO (aW)) (ar (aO (aW)) (ar (gK) (bA))))))
 obtain rfl:=oi H
 exact qr [.a 7 e6] <| ⟨.inr rfl,⟨by kernel_rfl,he o4⟩⟩
end
end Go.Proofs.Ytifafejidnjckaa
namespace Go.Proofs.Ytifafejidnjckaa
open Go Go.R
open Go.IntKind (i64 u64 u8 u32)
def A0:b5:=gV [0,1,2,4,5,9] [] [57,41,55,31,55,55] [] []
def bW.f (m:Nat)(s0:ab)(l0:List Int):Option (Int):=(bu.f m s0).bind fun x0=>if (!x0)=true then (some (6:Int)) else ((eF.f m l0 (fun y0=>cW.f m y0 s0)).bind fun x1=>if x1=true then (some (1:Int)) else (some (0:Int)))
def bW.fin (L:Mem)(r:Int)(s:St):Prop:=∃av,aP Try.prog (s.open A0) Try.f30.results.toList=some av∧fD s.h av (.int .i64 r)
def MH (cf:CallF)(m:Nat):Prop:=∀(s0:ab) (l0:List Int) (r:Int),bW.f m s0 l0=some r→∀h xs,aQ bQ h xs [.fp [.bool s0.aj,ai.fz s0.aa,af.fz s0.ae] 0,af.fz l0]→cf 30 xs h=some (.int .i64 r,h)
section
variable {cf:CallF}{m:Nat}
theorem lI {aX:FuncId→b5}(ha:aX 30=A0)(vI:Kh cf m)(ED:MG cf m)(OA:QT cf m)(s0:ab)(l0:List Int)(h:AHeap)(L:Mem)  (o:Has h (L)){out:Int}(H:bW.f m s0 l0=some out) :
  ∃r h',a6 Try.prog aX cf m 30 [.fp [.bool s0.aj,ai.fz s0.aa,af.fz s0.ae] 0,af.fz l0] h=some (r,h')∧fD h' r (.int .i64 out):=by
 refine au (fn:=Try.f30) ha Try.func30 (by kernel_rfl) (by kernel_rfl) ?_
 refine aK (Q:=fun s=>bW.fin L out s) (fun _ _ h=>h) ?_
 have H:_=some out:=H
 unfold bW.f at H
 show du _ cf A0 m _ ⟨.fp [.bool s0.aj,ai.fz s0.aa,af.fz s0.ae] 0::af.fz l0::oc [],[],h⟩ _
 refine qq ?_
 obtain⟨aG,h0,e0,o0⟩:=fY (cs:=[.fp [.bool s0.aj,ai.fz s0.aa,af.fz s0.ae] 0]) o (by kernel_rfl)
 refine qr [.a 0 e0] <| qq <| qb 0 <| qq ?_
 obtain⟨x0,e1,H⟩:=bk H
 refine qr [.v 0 (show bl Try.prog h0 28 (.ptr aG 0)=some (.fp [.bool s0.aj,ai.fz s0.aa,af.fz s0.ae] 0) from bV (q:=0) (cs:=[.fp [.bool s0.aj,ai.fz s0.aa,af.fz s0.ae] 0]) o0 rfl (by kernel_rfl)),.a 1 (vI _ _ e1 h0 _ (eQ (ah (gv (pure_cons (dO) (pure_cons (bM.bG (E:=ai) (l:=s0.aa)) (pure_cons (bM.bG (E:=af) (l:=s0.ae)) (pure_nil))))) (aw))))] <| qc H (fun c0 H=>?_) (fun c0 H=>?_)
 ·refine q1 ?_
  have o1:Has h0 (L):=Has.del o0 0
  obtain rfl:=oi H
  exact qt <| ⟨.inl rfl,dv (.int .i64 (6:Int)) h0 (dq (dk))⟩
 ·refine qq ?_
  obtain⟨x1,e2,H⟩:=bk H
  refine qr [.a 2 (ED _ _ _ e2 53 [.fp [.fp [.bool s0.aj,ai.fz s0.aa,af.fz s0.ae] 0] 0] (fun h' tE y0 r hr hx=>OA y0 _ r hr h' tE hx) (fun h_=>iM (ah (gv (pure_cons (lC (pure_cons (dO) (pure_cons (bM.bG (E:=ai) (l:=s0.aa)) (pure_cons (bM.bG (E:=af) (l:=s0.ae)) (pure_nil))))) (pure_nil))) (aw))) h0 _ (eQ (ah (eG (E:=af)) (ah (sF (ah (bS (q:=0) o0 rfl (ah (gv (pure_cons (dO) (pure_cons (bM.bG (E:=ai) (l:=s0.aa)) (pure_cons (bM.bG (E:=af) (l:=s0.ae)) (pure_nil))))) (aw))) (aw))) (aw)))))] ?_
  have o2:Has h0 (L):=Has.del o0 0
  refine qc H (fun c1 H=>?_) (fun c1 H=>?_)
  ·obtain rfl:=oi H
   exact q1 <| qt <| ⟨.inl rfl,dv (.int .i64 (1:Int)) h0 (dq (dk))⟩
  ·obtain rfl:=oi H
   exact qk <| qq <| q0 <| qt <| ⟨.inl rfl,dv (.int .i64 (0:Int)) h0 (dq (dk))⟩
end
end Go.Proofs.Ytifafejidnjckaa
namespace Go.Proofs.Ytifafejidnjckaa
open Go Go.R
open Go.IntKind (i64 u64 u8 u32)
def ur:b5:=gV [0,1,2,6,7,8,9,10,11,12,13,14,22,46,70,73,77,78,79] [11,12,13,18] [524280,524248,524190,524062,519966,524062,523806,515614,522270,505886,489502,524263,325662,63518,323614,325662,325662,524062,524263] [] [(1,[(8,none,1)])]
def az.l1 (m:Nat)(v2:aq)(v3:aq):Nat→(List bb)→Int→ab→Option ((List bb) × Int × ab)
 | 0,_,_,_=>none
 | k+1,jX,x3,s2=>if (decide (x3<(v2.args.length:Int)))=true then ((ix v2.args x3).bind fun v4=>(ix v3.args x3).bind fun v5=>(app 16 jX ([(bb.mk v4 v5)])).bind fun x4=>az.l1 m v2 v3 k x4 (i64.wrap (x3+(1:Int))) s2) else (some ((jX,x3,s2)))
def az.l0 (m:Nat)  : Nat→(List Int)→(List bb)→Int→ab→Option (Sum ((List Int) × Bool × ab) ((List Int) × (List bb) × Int × ab))
 | 0,_,_,_,_=>none
 | k+1,aF,fq,k0,s1=>if (decide (k0<(fq.length:Int)))=true then ((ix fq k0).bind fun v0=>(bc.f m s1 v0.j7).bind fun x0=>(ix fq k0).bind fun v1=>(bc.f m s1 v1.ld).bind fun x1=>if ((x0==x0)&&(x1==x0))=true then (az.l0 m k aF fq (i64.wrap (k0+(1:Int))) s1) else ((ix s1.aa x0).bind fun v2=>(ix s1.aa x1).bind fun v3=>if (!(v2.kind==(0:Int)))=true then (if (!(v3.kind==(0:Int)))=true then ((fo.f m v2 v3).bind fun x2=>if x2=true then (some (.inl (aF,false,s1))) else ((az.l1 m v2 v3 m fq (0:Int) s1).bind fun cg=>match cg with | (EE,x5,s3)=>(cu.f m s3 x0 x1).bind fun x6=>(app 8 aF ([x6.1])).bind fun x7=>az.l0 m k x7 EE (i64.wrap (k0+(1:Int))) x6.2)) else ((cu.f m s1 x0 x1).bind fun x8=>(app 8 aF ([x8.1])).bind fun x9=>az.l0 m k x9 fq (i64.wrap (k0+(1:Int))) x8.2)) else ((cu.f m s1 x0 x1).bind fun lG=>(app 8 aF ([lG.1])).bind fun Db=>az.l0 m k Db fq (i64.wrap (k0+(1:Int))) lG.2))) else (some (.inr (aF,fq,k0,s1)))
def az.f (m:Nat)(s0:ab)(a0:Int)(b0:Int):Option ((List Int) × Bool × ab):=(az.l0 m m ([]:List Int) ([(bb.mk a0 b0)]) (0:Int) s0).bind fun dr=>match dr with | .inl r0=>some r0 | .inr (oY,LH,k1,s4)=>some (oY,true,s4)
def az.fin (L:Mem)(ao:Nat)(ak:Nat)(an:Nat)(s0:ab)(a0:Int)(b0:Int)(r:(List Int) × Bool × ab)(s:St):Prop:=∃eB aA aB:Nat,aP Try.prog (s.open ur) Try.f31.results.toList=some (.tup [.rs eB 0 r.1.length 1,.bool r.2.1])∧Has s.h ((eB,.sl r.1.length 1 (af.l r.1))::(ao,.ob [.bool r.2.2.aj,.rs aA 0 r.2.2.aa.length 4,.rs aB 0 r.2.2.ae.length 1])::(aA,.sl r.2.2.aa.length 4 (ai.l r.2.2.aa))::(aB,.sl r.2.2.ae.length 1 (af.l r.2.2.ae))::L)
def OB (cf:CallF)(m:Nat):Prop:=∀(s0:ab) (a0:Int) (b0:Int) (r:(List Int) × Bool × ab),az.f m s0 a0 b0=some r→∀h L (ao:Nat) (ak:Nat) (an:Nat),Has h ((ao,.ob [.bool s0.aj,.rs ak 0 s0.aa.length 4,.rs an 0 s0.ae.length 1])::(ak,.sl s0.aa.length 4 (ai.l s0.aa))::(an,.sl s0.ae.length 1 (af.l s0.ae))::L)→∀xs,xs.map aM=[.ptr ao 0,.int .i64 a0,.int .i64 b0]→∃eB aA aB h',cf 31 xs h=some (.tup [.rs eB 0 r.1.length 1,.bool r.2.1],h')∧Has h' ((eB,.sl r.1.length 1 (af.l r.1))::(ao,.ob [.bool r.2.2.aj,.rs aA 0 r.2.2.aa.length 4,.rs aB 0 r.2.2.ae.length 1])::(aA,.sl r.2.2.aa.length 4 (ai.l r.2.2.aa))::(aB,.sl r.2.2.ae.length 1 (af.l r.2.2.ae))::L)
section
variable {cf:CallF}{m:Nat}
theorem az.kT (L:Mem)(ao:Nat)(ak:Nat)(an:Nat)(s0:ab)(a0:Int)(b0:Int)(eo:Nat)(aF:List Int)(k0:Int)(eo:Nat)(x0:Int)(x1:Int)(v2:aq)(v3:aq)   : dY Try.prog cf ur m (sub [1,1,1,0,1,0,0,1,0,0,1,1,1,0,1,0,1,1,0,0] (b8 Try.f31)) (fun k (σ:(List bb) × Int × ab)=>az.l1 m v2 v3 k σ.1 σ.2.1 σ.2.2) (fun σ s=>match σ with | (jX,x3,s2)=>∃eT ku ju h2,s=⟨.ptr ao 0::oc (.rs eo 0 aF.length 1 :: .rs eT 0 jX.length 2 :: .int .i64 k0 :: .lp 11 0 :: .lp 12 0 :: .lp 13 0::C9 [.int .i64 (v2.args.length:Int),.int .i64 x3,.any]),[some [.int .i64 x0,.int .i64 x1],some [.int .i64 v2.kind,.int .i64 v2.int,.str v2.label,af.fz v2.args],some [.int .i64 v3.kind,.int .i64 v3.int,.str v3.label,af.fz v3.args],none],h2⟩∧Has h2 ((eT,.sl jX.length 2 (dI.l jX))::(eo,.sl aF.length 1 (af.l aF))::(ao,.ob [.bool s2.aj,.rs ku 0 s2.aa.length 4,.rs ju 0 s2.ae.length 1])::(ku,.sl s2.aa.length 4 (ai.l s2.aa))::(ju,.sl s2.ae.length 1 (af.l s2.ae))::L)) (fun out e s=>(e = .exit 2∧∃jX x3 s2,(jX,x3,s2)=out∧∃OC vH OD OE OF OG OH eT ku ju h2,s=⟨.ptr ao 0::oc (.rs eo 0 aF.length 1 :: .rs eT 0 jX.length 2 :: .int .i64 k0 :: .lp 11 0::OC::vH::C9 [OD,OE,OF]),[some [.int .i64 x0,.int .i64 x1],OG,OH,none],h2⟩∧Has h2 ((eT,.sl jX.length 2 (dI.l jX))::(eo,.sl aF.length 1 (af.l aF))::(ao,.ob [.bool s2.aj,.rs ku 0 s2.aa.length 4,.rs ju 0 s2.ae.length 1])::(ku,.sl s2.aa.length 4 (ai.l s2.aa))::(ju,.sl s2.ae.length 1 (af.l s2.ae))::L))):=by
 refine mf (fun _=>rfl) ?_
 rintro k ⟨jX,x3,s2⟩ s out ⟨eT,ku,ju,h2,rfl,o4⟩ H
 have H:az.l1 m v2 v3 (k+1) jX x3 s2=some out:=H
 refine q1 <| qq <| qc H (fun c5 H=>?_) (fun c5 H=>?_)
 ·refine qk <| qq <| qb 3 <| qq <| q0 ?_
  obtain⟨v4,e8,H⟩:=bk H
  obtain⟨v5,e9,H⟩:=bk H
  obtain⟨x4,ti,H⟩:=bk H
  obtain⟨lf,h3,wo,o5⟩:=iH (P:=Try.prog) (E:=dI) (l:=jX) (q:=0) (t2:=93) (x:=.fz [.int .i64 v4,.int .i64 v5] 1 true) (l2:=([(bb.mk v4 v5)])) N8 o4 rfl (by kernel_rfl) rfl ti
  exact qr [.v 4 (fm (k:=.i64) (E:=af) (l:=v2.args) gI e8),.v 5 (iS  (E:=af) (l:=v2.args) h2 A3 e8 rfl),.v 9 (fm (k:=.i64) (E:=af) (l:=v3.args) gI e9),.v 10 (iS  (E:=af) (l:=v3.args) h2 A3 e9 rfl),.a 13 wo] <| q0 <| ⟨(x4,i64.wrap (x3+(1:Int)),s2),⟨lf,ku,ju,h3,by kernel_rfl,o5⟩,H⟩
 ·exact qx 2 <| ⟨rfl,jX,x3,s2,oi H,.lp 12 0,.lp 13 0,.int .i64 (v2.args.length:Int),.int .i64 x3,.bool (decide (x3<(v2.args.length:Int))),some [.int .i64 v2.kind,.int .i64 v2.int,.str v2.label,af.fz v2.args],some [.int .i64 v3.kind,.int .i64 v3.int,.str v3.label,af.fz v3.args],eT,ku,ju,h2,by kernel_rfl,o4⟩
theorem az.dy (L:Mem)(ao:Nat)(ak:Nat)(an:Nat)(s0:ab)(a0:Int)(b0:Int)  (CG:MD cf m)(Jk:Oe cf m)(EF:Ot cf m):dY Try.prog cf ur m (sub [1,1,1,0,1,0,0] (b8 Try.f31)) (fun k (σ:(List Int) × (List bb) × Int × ab)=>az.l0 m k σ.1 σ.2.1 σ.2.2.1 σ.2.2.2) (fun σ s=>match σ with | (aF,fq,k0,s1)=>∃eX eo cV dW h1,s=⟨.ptr ao 0::oc (.rs eo 0 aF.length 1 :: .rs eX 0 fq.length 2 :: .int .i64 k0::sy []),[none,none,none,none],h1⟩∧Has h1 ((eX,.sl fq.length 2 (dI.l fq))::(eo,.sl aF.length 1 (af.l aF))::(ao,.ob [.bool s1.aj,.rs cV 0 s1.aa.length 4,.rs dW 0 s1.ae.length 1])::(cV,.sl s1.aa.length 4 (ai.l s1.aa))::(dW,.sl s1.ae.length 1 (af.l s1.ae))::L)) (fun out e s=>(e = .exit 0∧∃aF fq k0 s1,.inr (aF,fq,k0,s1)=out∧∃oU xD zq EG eX eo cV dW h1,s=⟨oU::oc (.rs eo 0 aF.length 1::xD::zq::oc (EG::xk [])),[none,none,none,none],h1⟩∧Has h1 ((eX,.sl fq.length 2 (dI.l fq))::(eo,.sl aF.length 1 (af.l aF))::(ao,.ob [.bool s1.aj,.rs cV 0 s1.aa.length 4,.rs dW 0 s1.ae.length 1])::(cV,.sl s1.aa.length 4 (ai.l s1.aa))::(dW,.sl s1.ae.length 1 (af.l s1.ae))::L))∨(e = .ret∧∃r,.inl r=out∧az.fin L ao ak an s0 a0 b0 r s)):=by
 refine mf (fun _=>rfl) ?_
 rintro k ⟨aF,fq,k0,s1⟩ s out ⟨eX,eo,cV,dW,h1,rfl,o2⟩ H
 have H:az.l0 m (k+1) aF fq k0 s1=some out:=H
 refine qq <| qq <| q0 <| qc H (fun c0 H=>?_) (fun c0 H=>?_)
 ·refine qk <| qq <| qb 1 <| qq ?_
  obtain⟨v0,e1,H⟩:=bk H
  obtain⟨x0,e2,H⟩:=bk H
  obtain⟨v1,e3,H⟩:=bk H
  obtain⟨x1,e4,H⟩:=bk H
  refine Kf [] [.v 3 (bp (k:=.i64) (E:=dI) (l:=fq) (q:=0) N8 o2 rfl e1),.v 5 (Ak  (E:=dI) (l:=fq) (q:=0) (off:=0) o2 rfl A3 e1 rfl),.a 6 (CG _ _ _ e2 h1 _ (eQ (ah (bS (q:=2) o2 rfl (ah (b4) (ah (bI (E:=ai) (l:=s1.aa) (q:=3) o2 rfl (fun _=>rfl)) (ah (bI (E:=af) (l:=s1.ae) (q:=4) o2 rfl (fun _=>rfl)) (aw))))) (ah (bD) (aw))))),.v 10 (bp (k:=.i64) (E:=dI) (l:=fq) (q:=0) N8 o2 rfl e3),.v 12 (Ak  (E:=dI) (l:=fq) (q:=0) (off:=1) o2 rfl A3 e3 rfl),.a 13 (CG _ _ _ e4 h1 _ (eQ (ah (bS (q:=2) o2 rfl (ah (b4) (ah (bI (E:=ai) (l:=s1.aa) (q:=3) o2 rfl (fun _=>rfl)) (ah (bI (E:=af) (l:=s1.ae) (q:=4) o2 rfl (fun _=>rfl)) (aw))))) (ah (bD) (aw)))))] [.mk (h:=h1) (h':=h1) (i:=eX) rfl] ?_
  refine qq <| qq <| qr [.v 6 (show mh Try.prog .eql 92 (.agg [.int .i64 x0,.int .i64 x1]) (.agg [.int .i64 x0,.int .i64 x0])=some (.bool ((x0==x0)&&(x1==x0))) from GX Oa)] <| qc H (fun c1 H=>?_) (fun c1 H=>?_)
  ·exact qx 1 <| q0 <| ⟨(aF,fq,i64.wrap (k0+(1:Int)),s1),⟨eX,eo,cV,dW,h1,by kernel_rfl,o2⟩,H⟩
  ·refine qk <| qq ?_
   obtain⟨v2,e5,H⟩:=bk H
   obtain⟨v3,e6,H⟩:=bk H
   refine qr [.v 3 (show bl Try.prog h1 40 (.ptr ao 1)=some (.rs cV 0 s1.aa.length 4) from bV (q:=2) (cs:=[.bool s1.aj,.rs cV 0 s1.aa.length 4,.rs dW 0 s1.ae.length 1]) o2 rfl (by kernel_rfl)),.v 6 (bp (k:=.i64) (E:=ai) (l:=s1.aa) (q:=3) yA o2 rfl e5),.v 7 (vq  (E:=ai) (l:=s1.aa) (q:=3) o2 rfl F5 F6 e5),.v 11 (show bl Try.prog h1 40 (.ptr ao 1)=some (.rs cV 0 s1.aa.length 4) from bV (q:=2) (cs:=[.bool s1.aj,.rs cV 0 s1.aa.length 4,.rs dW 0 s1.ae.length 1]) o2 rfl (by kernel_rfl)),.v 14 (bp (k:=.i64) (E:=ai) (l:=s1.aa) (q:=3) yA o2 rfl e6),.v 15 (vq  (E:=ai) (l:=s1.aa) (q:=3) o2 rfl F5 F6 e6)] <| qq <| qq ?_
   rcases iw H with⟨c2,H⟩| ⟨c2,H⟩
   ·refine qr [.b 3 c2] <| qc H (fun c3 H=>?_) (fun c3 H=>?_)
    ·refine qq <| qq ?_
     obtain⟨x2,e7,H⟩:=bk H
     refine qr [.a 2 (Jk _ _ _ e7 h1 _ (eQ (ah (jT (ah (bD) (ah (bD) (ah (cU) (ah (eG (E:=af)) (aw)))))) (ah (jT (ah (bD) (ah (bD) (ah (cU) (ah (eG (E:=af)) (aw)))))) (aw)))))] <| qc H (fun c4 H=>?_) (fun c4 H=>?_)
     ·refine q1 ?_
      have o3:Has h1 ((eo,.sl aF.length 1 (af.l aF))::(ao,.ob [.bool s1.aj,.rs cV 0 s1.aa.length 4,.rs dW 0 s1.ae.length 1])::(cV,.sl s1.aa.length 4 (ai.l s1.aa))::(dW,.sl s1.ae.length 1 (af.l s1.ae))::L):=Has.del o2 0
      exact qt <| Or.inr (⟨rfl,_,oi H,⟨eo,cV,dW,by kernel_rfl,he o3⟩⟩)
     ·refine qk <| qq <| q0 <| qb 2 ?_
      obtain⟨cg,zm,H⟩:=bk H
      refine ql (az.kT L ao ak an s0 a0 b0 eo aF k0 eo x0 x1 v2 v3   (fq,(0:Int),s1) _ _ ⟨eX,cV,dW,h1,by kernel_rfl,o2⟩ zm) ?_
      rintro e s ⟨rfl,EE,x5,s3,rfl,g0,g1,g2,g3,g4,g5,g6,tG,gd,bX,h4,rfl,o6⟩
      try dsimp only at H
      obtain⟨x6,zn,H⟩:=bk H
      obtain⟨j8,kW,h5,AI,o7⟩:=EF _ _ _ _ zn h4 _ _ _ _ ((Has.front (Has.front (Has.front (Has.front (Has.front o6 1 rfl) 1 rfl) 4 rfl) 4 rfl) 4 rfl))  [.ptr ao 0,.int .i64 x0,.int .i64 x1] (ar (rfl) (ar (aO (aW)) (ar (aO (aW)) (bA))))
      obtain⟨x7,A4,H⟩:=bk H
      obtain⟨vP,h6,EH,o8⟩:=iH (P:=Try.prog) (E:=af) (l:=aF) (q:=4) (t2:=33) (x:=.fz [.int .i64 x6.1] 1 true) (l2:=([x6.1])) gI o7 rfl (by kernel_rfl) rfl A4
      exact qr [.a 6 AI,.a 8 EH] <| q0 <| ⟨(x7,EE,i64.wrap (k0+(1:Int)),x6.2),⟨tG,vP,j8,kW,h6,by kernel_rfl,(Has.front (Has.front (Has.front (Has.front (Has.front o8 2 rfl) 2 rfl) 2 rfl) 4 rfl) 4 rfl)⟩,H⟩
    ·refine qk ?_
     obtain⟨x8,EI,H⟩:=bk H
     obtain⟨tH,kB,h7,EJ,o9⟩:=EF _ _ _ _ EI h1 _ _ _ _ ((Has.front (Has.front (Has.front (Has.front (Has.front o2 1 rfl) 1 rfl) 4 rfl) 4 rfl) 4 rfl))  [.ptr ao 0,.int .i64 x0,.int .i64 x1] (ar (rfl) (ar (aO (aW)) (ar (aO (aW)) (bA))))
     obtain⟨x9,CH,H⟩:=bk H
     obtain⟨kX,h8,F7,vK⟩:=iH (P:=Try.prog) (E:=af) (l:=aF) (q:=4) (t2:=33) (x:=.fz [.int .i64 x8.1] 1 true) (l2:=([x8.1])) gI o9 rfl (by kernel_rfl) rfl CH
     exact qr [.a 6 EJ,.a 8 F7] <| q0 <| ⟨(x9,fq,i64.wrap (k0+(1:Int)),x8.2),⟨eX,kX,tH,kB,h8,by kernel_rfl,(Has.front (Has.front (Has.front (Has.front (Has.front vK 2 rfl) 2 rfl) 2 rfl) 4 rfl) 4 rfl)⟩,H⟩
   ·refine qr [.b 3 c2] <| Eg <| qk ?_
    obtain⟨lG,EK,H⟩:=bk H
    obtain⟨oZ,nn,h9,EL,Dc⟩:=EF _ _ _ _ EK h1 _ _ _ _ ((Has.front (Has.front (Has.front (Has.front (Has.front o2 1 rfl) 1 rfl) 4 rfl) 4 rfl) 4 rfl))  [.ptr ao 0,.int .i64 x0,.int .i64 x1] (ar (rfl) (ar (aO (aW)) (ar (aO (aW)) (bA))))
    obtain⟨Db,F8,H⟩:=bk H
    obtain⟨vQ,h10,F9,Dd⟩:=iH (P:=Try.prog) (E:=af) (l:=aF) (q:=4) (t2:=33) (x:=.fz [.int .i64 lG.1] 1 true) (l2:=([lG.1])) gI Dc rfl (by kernel_rfl) rfl F8
    exact qr [.a 6 EL,.a 8 F9] <| q0 <| ⟨(Db,fq,i64.wrap (k0+(1:Int)),lG.2),⟨eX,vQ,oZ,nn,h10,by kernel_rfl,(Has.front (Has.front (Has.front (Has.front (Has.front Dd 2 rfl) 2 rfl) 2 rfl) 4 rfl) 4 rfl)⟩,H⟩
 ·exact qx 0 <| Or.inl (⟨rfl,aF,fq,k0,s1,oi H,.ptr ao 0,.rs eX 0 fq.length 2,.int .i64 k0,.bool (decide (k0<(fq.length:Int))),eX,eo,cV,dW,h1,by kernel_rfl,o2⟩)
theorem kY {aX:FuncId→b5}(ha:aX 31=ur)(CG:MD cf m)(Jk:Oe cf m)(EF:Ot cf m)(s0:ab)(a0:Int)(b0:Int)(h:AHeap)(L:Mem)(ao:Nat)(ak:Nat)(an:Nat)  (o:Has h ((ao,.ob [.bool s0.aj,.rs ak 0 s0.aa.length 4,.rs an 0 s0.ae.length 1])::(ak,.sl s0.aa.length 4 (ai.l s0.aa))::(an,.sl s0.ae.length 1 (af.l s0.ae))::L)){out:(List Int) × Bool × ab}(H:az.f m s0 a0 b0=some out) :
  ∃r h',a6 Try.prog aX cf m 31 [.ptr ao 0,.int .i64 a0,.int .i64 b0] h=some (r,h')∧∃eB aA aB:Nat,r = .tup [.rs eB 0 out.1.length 1,.bool out.2.1]∧Has h' ((eB,.sl out.1.length 1 (af.l out.1))::(ao,.ob [.bool out.2.2.aj,.rs aA 0 out.2.2.aa.length 4,.rs aB 0 out.2.2.ae.length 1])::(aA,.sl out.2.2.aa.length 4 (ai.l out.2.2.aa))::(aB,.sl out.2.2.ae.length 1 (af.l out.2.2.ae))::L):=by
 refine au (fn:=Try.f31) ha Try.func31 (by kernel_rfl) (by kernel_rfl) ?_
 refine aK (Q:=fun s=>az.fin L ao ak an s0 a0 b0 out s) (fun _ _ ⟨h1,eB,aA,aB,h2,h3⟩=>⟨h1,_,h2,eB,aA,aB,rfl,h3⟩) ?_
 have H:_=some out:=H
 unfold az.f at H
 show du _ cf ur m _ ⟨.ptr ao 0 :: .int .i64 a0 :: .int .i64 b0::GM [],[none,none,none,none],h⟩ _
 refine q1 <| qq <| q0 ?_
 have o0:Has h (((0),.sl (([]:List Int).length) 1 (af.l ([]:List Int)))::(ao,.ob [.bool s0.aj,.rs ak 0 s0.aa.length 4,.rs an 0 s0.ae.length 1])::(ak,.sl s0.aa.length 4 (ai.l s0.aa))::(an,.sl s0.ae.length 1 (af.l s0.ae))::L):=Has.nil o 1
 refine qq ?_
 obtain⟨aG,h0,e0,o1⟩:=GJ (E:=dI) (l:=[(bb.mk a0 b0)]) (cs:=[.int .i64 a0,.int .i64 b0]) o0 (by kernel_rfl)
 refine qr [.a 3 e0] <| qq <| qq <| q0 <| qb 0 ?_
 obtain⟨dr,Ga,H⟩:=bk H
 refine ql (az.dy L ao ak an s0 a0 b0  CG Jk EF (([]:List Int),[(bb.mk a0 b0)],(0:Int),s0) _ _ ⟨aG,(0),ak,an,h0,(WX (b:=⟨.ptr ao 0::oc (.rs (0) 0 (([]:List Int).length) 1 :: .rs aG 0 (([(bb.mk a0 b0)]:List bb).length) 2 :: .int .i64 (0:Int)::sy []),[none,none,none,none],h0⟩) (by kernel_rfl) (by simp only [VC])),(by have o:Has h0 ((aG,.sl (([(bb.mk a0 b0)]:List bb).length) 2 (dI.l ([(bb.mk a0 b0)])))::((0),.sl (([]:List Int).length) 1 (af.l ([]:List Int)))::(ao,.ob [.bool s0.aj,.rs ak 0 s0.aa.length 4,.rs an 0 s0.ae.length 1])::(ak,.sl s0.aa.length 4 (ai.l s0.aa))::(an,.sl s0.ae.length 1 (af.l s0.ae))::L):=o1; simpa only [VC] using o)⟩ Ga) ?_
 rintro e s (⟨rfl,oY,LH,k1,s4,rfl,g7,g8,g9,g10,LI,G5,EM,eL,h11,rfl,jq⟩| ⟨rfl,r0,rfl,zl⟩)
 ·try dsimp only at H
  refine q1 ?_
  have vR:Has h11 ((G5,.sl oY.length 1 (af.l oY))::(ao,.ob [.bool s4.aj,.rs EM 0 s4.aa.length 4,.rs eL 0 s4.ae.length 1])::(EM,.sl s4.aa.length 4 (ai.l s4.aa))::(eL,.sl s4.ae.length 1 (af.l s4.ae))::L):=Has.del jq 0
  obtain rfl:=oi H
  exact qt <| ⟨.inl rfl,⟨G5,EM,eL,by kernel_rfl,he vR⟩⟩
 ·try dsimp only at H
  obtain rfl:=oi H
  exact⟨.inl rfl,zl⟩
end
end Go.Proofs.Ytifafejidnjckaa
namespace Go.Proofs.Ytifafejidnjckaa
open Go Go.R
open Go.IntKind (i64 u64 u8 u32)
def A5:b5:=gV [0,1,2,4,5] [] [25,9,11,15,15,23] [] []
def cD.f (m:Nat)(s0:ab)(aF:List Int):Option ((List Int)):=(C8 8 (aF.length:Int) (0:Int)).bind fun x0=>(Lu x0 aF).bind fun Q2=>(dL.f m Q2 (fun y0=>cX.f m y0 s0)).bind fun x1=>some (kS x1)
def cD.fin (L:Mem)  (r:(List Int))(s:St):Prop:=∃eB:Nat,aP Try.prog (s.open A5) Try.f33.results.toList=some (.rs eB 0 r.length 1)∧Has s.h ((eB,.sl r.length 1 (af.l r))::L)
def OI (cf:CallF)(m:Nat):Prop:=∀(s0:ab) (aF:List Int) (r:(List Int)),cD.f m s0 aF=some r→∀h L xs,Has h L→aQ bQ h xs [.fp [.bool s0.aj,ai.fz s0.aa,af.fz s0.ae] 0,af.fz aF]→∃eB h',cf 33 xs h=some (.rs eB 0 r.length 1,h')∧Has h' ((eB,.sl r.length 1 (af.l r))::L)∧∀j,j<h.next→h.ver j=h'.ver j
section
variable {cf:CallF}{m:Nat}
theorem lJ {aX:FuncId→b5}(ha:aX 33=A5)(OJ:QU cf m)(OK:QV cf m)(OL:QD cf m)(s0:ab)(aF:List Int)(h:AHeap)(L:Mem)  (o:Has h (L)){out:(List Int)}(H:cD.f m s0 aF=some out) :
  ∃r h',a6 Try.prog aX cf m 33 [.fp [.bool s0.aj,ai.fz s0.aa,af.fz s0.ae] 0,af.fz aF] h=some (r,h')∧∃eB:Nat,r = .rs eB 0 out.length 1∧Has h' ((eB,.sl out.length 1 (af.l out))::L):=by
 refine au (fn:=Try.f33) ha Try.func33 (by kernel_rfl) (by kernel_rfl) ?_
 refine aK (Q:=fun s=>cD.fin L out s) (fun _ _ ⟨h1,eB,h2,h3⟩=>⟨h1,_,h2,eB,rfl,h3⟩) ?_
 have H:_=some out:=H
 unfold cD.f at H
 show du _ cf A5 m _ ⟨.fp [.bool s0.aj,ai.fz s0.aa,af.fz s0.ae] 0::af.fz aF::rA [],[],h⟩ _
 refine qq ?_
 obtain⟨aG,h0,e0,o0⟩:=fY (cs:=[.fp [.bool s0.aj,ai.fz s0.aa,af.fz s0.ae] 0]) o (by kernel_rfl)
 refine qr [.a 0 e0] <| qq ?_
 obtain⟨x0,e1,H⟩:=bk H
 obtain⟨eo,h1,e2,o1⟩:=vp (P:=Try.prog) (E:=af) (z:=(0:Int)) (zv:=.int .i64 (0:Int)) gI o0 3 rfl rfl rfl rfl e1
 refine qr [.a 2 e2] <| qq ?_
 obtain⟨Q2,e3,H⟩:=bk H
 obtain⟨h2,e4,o2⟩:=GW (P:=Try.prog) (E:=af) (l:=x0) (s:=aF) (q:=0) (t2:=33) gI o1 rfl (I8 (E:=af)) rfl (Lv _) e3
 refine qr [.a 2 e4] <| qq ?_
 obtain⟨x1,e5,H⟩:=bk H
 obtain⟨h3,e6,o3⟩:=OJ _ _ _ e5 h2 _ _ _ (o2) 58 [.ptr aG 0] [.fp [.fp [.bool s0.aj,ai.fz s0.aa,af.fz s0.ae] 0] 0] rfl (fun h' tE y0 r hr hx=>OK y0 _ r hr h' tE hx) (fun h' K' o'=>iM (ah (bS (q:=(K'.length+0)) o' (jo rfl) (ah (gv (pure_cons (dO) (pure_cons (bM.bG (E:=ai) (l:=s0.aa)) (pure_cons (bM.bG (E:=af) (l:=s0.ae)) (pure_nil))))) (aw))) (aw))) (fun h_=>iM (ah (gv (pure_cons (lC (pure_cons (dO) (pure_cons (bM.bG (E:=ai) (l:=s0.aa)) (pure_cons (bM.bG (E:=af) (l:=s0.ae)) (pure_nil))))) (pure_nil))) (aw))) [.rs eo 0 x0.length 1,.fn 58 [.ptr aG 0]] (ar (rfl) (ar (rfl) (bA)))
 refine qr [.a 2 e6] ?_
 have o4:Has h3 ((eo,.sl x1.length 1 (af.l x1))::L):=Has.del o3 1
 refine qq ?_
 obtain⟨h4,e7,o5⟩:=I0 (l:=x1) OL o4
 obtain rfl:=oi H
 exact qr [.a 1 e7] <| qq <| q0 <| qt <| ⟨.inl rfl,⟨eo,by rw [nc]; kernel_rfl,he (by simpa only [nc] using o5)⟩⟩
end
end Go.Proofs.Ytifafejidnjckaa
namespace Go.Proofs.Ytifafejidnjckaa
open Go Go.R
open Go.IntKind (i64 u64 u8 u32)
def A6:b5:=gV [0,1,2,4,5,6,7] [] [102,31] [] []
def ei.f (m:Nat)(s0:ab)(cp:ByteArray)(n0:Int):Option (Int × Int × ab):=(b7.f m s0 (cL.f m cp n0) (aq.mk (4:Int) n0 cp ([]))).bind fun x0=>some (x0.1,x0.2.1,x0.2.2)
def ei.fin (L:Mem)(ao:Nat)(ak:Nat)(an:Nat)(s0:ab)(cp:ByteArray)(n0:Int)(r:Int × Int × ab)(s:St):Prop:=∃aA aB:Nat,aP Try.prog (s.open A6) Try.f35.results.toList=some (.tup [.int .i64 r.1,.int .i64 r.2.1])∧Has s.h ((ao,.ob [.bool r.2.2.aj,.rs aA 0 r.2.2.aa.length 4,.rs aB 0 r.2.2.ae.length 1])::(aA,.sl r.2.2.aa.length 4 (ai.l r.2.2.aa))::(aB,.sl r.2.2.ae.length 1 (af.l r.2.2.ae))::L)
def Q8 (cf:CallF)(m:Nat):Prop:=∀(s0:ab) (cp:ByteArray) (n0:Int) (r:Int × Int × ab),ei.f m s0 cp n0=some r→∀h L (ao:Nat) (ak:Nat) (an:Nat),Has h ((ao,.ob [.bool s0.aj,.rs ak 0 s0.aa.length 4,.rs an 0 s0.ae.length 1])::(ak,.sl s0.aa.length 4 (ai.l s0.aa))::(an,.sl s0.ae.length 1 (af.l s0.ae))::L)→∀xs,xs.map aM=[.ptr ao 0,.str cp,.int .i64 n0]→∃aA aB h',cf 35 xs h=some (.tup [.int .i64 r.1,.int .i64 r.2.1],h')∧Has h' ((ao,.ob [.bool r.2.2.aj,.rs aA 0 r.2.2.aa.length 4,.rs aB 0 r.2.2.ae.length 1])::(aA,.sl r.2.2.aa.length 4 (ai.l r.2.2.aa))::(aB,.sl r.2.2.ae.length 1 (af.l r.2.2.ae))::L)
section
variable {cf:CallF}{m:Nat}
theorem ma {aX:FuncId→b5}(ha:aX 35=A6)(vN:Ki cf m)(OM:QX cf m)(s0:ab)(cp:ByteArray)(n0:Int)(h:AHeap)(L:Mem)(ao:Nat)(ak:Nat)(an:Nat)  (o:Has h ((ao,.ob [.bool s0.aj,.rs ak 0 s0.aa.length 4,.rs an 0 s0.ae.length 1])::(ak,.sl s0.aa.length 4 (ai.l s0.aa))::(an,.sl s0.ae.length 1 (af.l s0.ae))::L)){out:Int × Int × ab}(H:ei.f m s0 cp n0=some out) :
  ∃r h',a6 Try.prog aX cf m 35 [.ptr ao 0,.str cp,.int .i64 n0] h=some (r,h')∧∃aA aB:Nat,r = .tup [.int .i64 out.1,.int .i64 out.2.1]∧Has h' ((ao,.ob [.bool out.2.2.aj,.rs aA 0 out.2.2.aa.length 4,.rs aB 0 out.2.2.ae.length 1])::(aA,.sl out.2.2.aa.length 4 (ai.l out.2.2.aa))::(aB,.sl out.2.2.ae.length 1 (af.l out.2.2.ae))::L):=by
 refine au (fn:=Try.f35) ha Try.func35 (by kernel_rfl) (by kernel_rfl) ?_
 refine aK (Q:=fun s=>ei.fin L ao ak an s0 cp n0 out s) (fun _ _ ⟨h1,aA,aB,h2,h3⟩=>⟨h1,_,h2,aA,aB,rfl,h3⟩) ?_
 have H:_=some out:=H
 unfold ei.f at H
 show du _ cf A6 m _ ⟨.ptr ao 0 :: .str cp :: .int .i64 n0::oc [],[],h⟩ _
 refine qq ?_
 obtain⟨aG,h0,e0,o0⟩:=fY (cs:=[.str cp]) o (by kernel_rfl)
 obtain⟨eo,h1,e1,o1⟩:=fY (cs:=[.int .i64 n0]) o0 (by kernel_rfl)
 refine qr [.a 0 e0,.a 1 e1] <| qq ?_
 obtain⟨x0,e2,H⟩:=bk H
 obtain⟨eX,cV,h2,e3,o2⟩:=vN _ _ _ _ e2 h1 _ _ _ _ ((Has.front (Has.front (Has.front (Has.front (Has.front o1 1 rfl) 1 rfl) 4 rfl) 4 rfl) 4 rfl)) 63 [.ptr aG 0,.ptr eo 0] [.fp [.str cp] 0,.fp [.int .i64 n0] 0] rfl (fun h' tE  r hr hx=>OM _ _ r hr h' tE hx) (fun h' K' o'=>iM (ah (bS (q:=(K'.length+4)) o' (jo rfl) (ah (cU) (aw))) (ah (bS (q:=(K'.length+3)) o' (jo rfl) (ah (bD) (aw))) (aw)))) (fun h_=>iM (ah (gv (pure_cons (mC) (pure_nil))) (ah (gv (pure_cons (gr) (pure_nil))) (aw)))) [.ptr ao 0,.fn 63 [.ptr aG 0,.ptr eo 0],.agg [.int .i64 (4:Int),.int .i64 n0,.str cp,.nils]] (ar (rfl) (ar (rfl) (ar (aO (jV (ba (aW) (ba (aW) (ba (iT) (ba (rz (E:=af)) (jU))))))) (bA))))
 refine qr [.v 2 (show bl Try.prog h1 9 (.ptr aG 0)=some (.str cp) from bV (q:=1) (cs:=[.str cp]) o1 rfl (by kernel_rfl)),.v 3 (show bl Try.prog h1 3 (.ptr eo 0)=some (.int .i64 n0) from bV (q:=0) (cs:=[.int .i64 n0]) o1 rfl (by kernel_rfl)),.a 5 e3] ?_
 have o3:Has h2 ((ao,.ob [.bool x0.2.2.aj,.rs eX 0 x0.2.2.aa.length 4,.rs cV 0 x0.2.2.ae.length 1])::(eX,.sl x0.2.2.aa.length 4 (ai.l x0.2.2.aa))::(cV,.sl x0.2.2.ae.length 1 (af.l x0.2.2.ae))::(eo,.ob [.int .i64 n0])::L):=Has.del o2 4
 have o4:Has h2 ((ao,.ob [.bool x0.2.2.aj,.rs eX 0 x0.2.2.aa.length 4,.rs cV 0 x0.2.2.ae.length 1])::(eX,.sl x0.2.2.aa.length 4 (ai.l x0.2.2.aa))::(cV,.sl x0.2.2.ae.length 1 (af.l x0.2.2.ae))::L):=Has.del o3 3
 obtain rfl:=oi H
 exact qt <| ⟨.inl rfl,⟨eX,cV,by kernel_rfl,he o4⟩⟩
end
end Go.Proofs.Ytifafejidnjckaa
namespace Go.Proofs.Ytifafejidnjckaa
open Go Go.R
open Go.IntKind (i64 u64 u8 u32)
def A7:b5:=gV [0,2] [] [2,1] [] []
def fK.f (m:Nat)(s0:ByteArray):Option (Bool):=if (s0.data.toList==(Wh #[124]).data.toList)=true then (some true) else (if (s0.data.toList==(Wh #[35]).data.toList)=true then (some true) else ((cP.f m s0 (97:Int) (122:Int)).bind fun x0=>some x0))
def fK.fin (L:Mem)(r:Bool)(s:St):Prop:=∃av,aP Try.prog (s.open A7) Try.f50.results.toList=some av∧fD s.h av (.bool r)
def MI (cf:CallF)(m:Nat):Prop:=∀(s0:ByteArray) (r:Bool),fK.f m s0=some r→∀h xs,aQ bQ h xs [.str s0]→cf 50 xs h=some (.bool r,h)
section
variable {cf:CallF}{m:Nat}
theorem sL {aX:FuncId→b5}(ha:aX 50=A7)(ON:QZ cf m)(s0:ByteArray)(h:AHeap)(L:Mem)  (o:Has h (L)){out:Bool}(H:fK.f m s0=some out) :
  ∃r h',a6 Try.prog aX cf m 50 [.str s0] h=some (r,h')∧fD h' r (.bool out):=by
 refine au (fn:=Try.f50) ha Try.func50 (by kernel_rfl) (by kernel_rfl) ?_
 refine aK (Q:=fun s=>fK.fin L out s) (fun _ _ h=>h) ?_
 have H:_=some out:=H
 unfold fK.f at H
 show du _ cf A7 m _ ⟨[.str s0,.any],[],h⟩ _
 refine q1 <| qq ?_
 rcases iw H with⟨c0,H⟩| ⟨c0,H⟩
 ·obtain rfl:=oi H
  exact qr [.b 2 c0] <| qt <| ⟨.inl rfl,dv (.bool true) h (dq (aD))⟩
 ·rcases iw H with⟨c1,H⟩| ⟨c1,H⟩
  ·obtain rfl:=oi H
   exact qr [.b 2 c0,.b 6 c1] <| qt <| ⟨.inl rfl,dv (.bool true) h (dq (aD))⟩
  ·obtain⟨x0,e0,H⟩:=bk H
   obtain rfl:=oi H
   exact qr [.b 2 c0,.b 6 c1,.a 8 (ON _ _ _ _ e0 h _ (eQ (ah (cU) (ah (bD) (ah (bD) (aw))))))] <| qt <| ⟨.inl rfl,dv (.bool x0) h (dq (aD))⟩
end
end Go.Proofs.Ytifafejidnjckaa
namespace Go.Proofs.Ytifafejidnjckaa
open Go Go.R
open Go.IntKind (i64 u64 u8 u32)
def A8:b5:=gV [0,1,2,3] [] [8,7] [] []
def cw.f (m:Nat)(x0:ByteArray)(x1:List Int)(x2:ab):Option (Bool):=(fK.f m x0).bind fun x3=>if x3=true then (if (decide ((x1.length:Int)≥(1:Int)))=true then (if (decide ((x1.length:Int)≤(8:Int)))=true then ((eF.f m x1 (fun y0=>cy.f m y0 x2)).bind fun x4=>some (!x4)) else (some false)) else (some false)) else (some false)
def cw.fin (L:Mem)(r:Bool)(s:St):Prop:=∃av,aP Try.prog (s.open A8) Try.f61.results.toList=some av∧fD s.h av (.bool r)
def Q9 (cf:CallF)(m:Nat):Prop:=∀(x0:ByteArray) (x1:List Int) (x2:ab) (r:Bool),cw.f m x0 x1 x2=some r→∀h xs,aQ bQ h xs [.fp [.str x0] 0,.fp [af.fz x1] 0,.fp [.fp [.bool x2.aj,ai.fz x2.aa,af.fz x2.ae] 0] 0]→cf 61 xs h=some (.bool r,h)
section
variable {cf:CallF}{m:Nat}
theorem kC {aX:FuncId→b5}(ha:aX 61=A8)(pR:MI cf m)(ED:MG cf m)(OO:QJ cf m)(x0:ByteArray)(x1:List Int)(x2:ab)(h:AHeap)(L:Mem)  (o:Has h (L)){out:Bool}(H:cw.f m x0 x1 x2=some out) :
  ∃r h',a6 Try.prog aX cf m 61 [.fp [.str x0] 0,.fp [af.fz x1] 0,.fp [.fp [.bool x2.aj,ai.fz x2.aa,af.fz x2.ae] 0] 0] h=some (r,h')∧fD h' r (.bool out):=by
 refine au (fn:=Try.f61) ha Try.func61 (by kernel_rfl) (by kernel_rfl) ?_
 refine aK (Q:=fun s=>cw.fin L out s) (fun _ _ h=>h) ?_
 have H:_=some out:=H
 unfold cw.f at H
 show du _ cf A8 m _ ⟨[.fp [.str x0] 0,.fp [af.fz x1] 0,.fp [.fp [.bool x2.aj,ai.fz x2.aa,af.fz x2.ae] 0] 0,.any],[],h⟩ _
 refine q1 <| qq ?_
 obtain⟨x3,e0,H⟩:=bk H
 rcases iw H with⟨c0,H⟩| ⟨c0,H⟩
 ·rcases iw H with⟨c1,H⟩| ⟨c1,H⟩
  ·rcases iw H with⟨c2,H⟩| ⟨c2,H⟩
   ·obtain⟨x4,e1,H⟩:=bk H
    obtain rfl:=oi H
    exact qr [.a 1 (pR _ _ e0 h _ (eQ (ah (cU) (aw)))),.b 2 c0,.b 7 c1,.b 12 c2,.a 15 (ED _ _ _ e1 62 [.fp [.fp [.bool x2.aj,ai.fz x2.aa,af.fz x2.ae] 0] 0] (fun h' tE y0 r hr hx=>OO y0 _ r hr h' tE hx) (fun h_=>iM (ah (gv (pure_cons (lC (pure_cons (dO) (pure_cons (bM.bG (E:=ai) (l:=x2.aa)) (pure_cons (bM.bG (E:=af) (l:=x2.ae)) (pure_nil))))) (pure_nil))) (aw))) h _ (eQ (ah (eG (E:=af)) (ah (sF (ah (gv (pure_cons (lC (pure_cons (dO) (pure_cons (bM.bG (E:=ai) (l:=x2.aa)) (pure_cons (bM.bG (E:=af) (l:=x2.ae)) (pure_nil))))) (pure_nil))) (aw))) (aw)))))] <| qt <| ⟨.inl rfl,dv (.bool (!x4)) h (dq (aD))⟩
   ·obtain rfl:=oi H
    exact qr [.a 1 (pR _ _ e0 h _ (eQ (ah (cU) (aw)))),.b 2 c0,.b 7 c1,.b 12 c2] <| qt <| ⟨.inl rfl,dv (.bool false) h (dq (aD))⟩
  ·obtain rfl:=oi H
   exact qr [.a 1 (pR _ _ e0 h _ (eQ (ah (cU) (aw)))),.b 2 c0,.b 7 c1] <| qt <| ⟨.inl rfl,dv (.bool false) h (dq (aD))⟩
 ·obtain rfl:=oi H
  exact qr [.a 1 (pR _ _ e0 h _ (eQ (ah (cU) (aw)))),.b 2 c0] <| qt <| ⟨.inl rfl,dv (.bool false) h (dq (aD))⟩
end
end Go.Proofs.Ytifafejidnjckaa
namespace Go.Proofs.Ytifafejidnjckaa
open Go Go.R
open Go.IntKind (i64 u64 u8 u32)
def A9:b5:=gV [0,1,2,3,4,6,7,23,44,60,89] [2] [2035,2003,1939,2031,1875,2031,1747,2031,1491,2031,1019,2031,2031] [] []
def iu.f (m:Nat)(n0:aq)(lU:Int):Option (Bool):=if (n0.kind==(0:Int))=true then (if (decide (n0.int≥(0:Int)))=true then (if (n0.label.data.toList==(Wh #[]).data.toList)=true then (some ((n0.args.length:Int)==(0:Int))) else (some false)) else (some false)) else (if (n0.kind==(1:Int))=true then (if (decide (n0.int≥(-1099511627776:Int)))=true then (if (decide (n0.int≤(1099511627776:Int)))=true then (if (n0.label.data.toList==(Wh #[]).data.toList)=true then (some ((n0.args.length:Int)==(0:Int))) else (some false)) else (some false)) else (some false)) else (if (n0.kind==(2:Int))=true then (if (n0.int==(0:Int))=true then ((fK.f m n0.label).bind fun x0=>if x0=true then (some ((n0.args.length:Int)==(0:Int))) else (some false)) else (some false)) else (if (n0.kind==(3:Int))=true then (if (n0.int==(0:Int))=true then ((fK.f m n0.label).bind fun x1=>if x1=true then (if (decide ((n0.args.length:Int)≥(1:Int)))=true then (if (decide ((n0.args.length:Int)≤(8:Int)))=true then ((eF.f m n0.args (fun y0=>gJ.f m y0 lU)).bind fun x2=>some (!x2)) else (some false)) else (some false)) else (some false)) else (some false)) else (if (n0.kind==(4:Int))=true then (if (decide (n0.int≥(0:Int)))=true then ((fZ.f m n0.label).bind fun x3=>if x3=true then (some ((n0.args.length:Int)==(0:Int))) else (some false)) else (some false)) else (some false)))))
def iu.fin (L:Mem)(r:Bool)(s:St):Prop:=∃av,aP Try.prog (s.open A9) Try.f67.results.toList=some av∧fD s.h av (.bool r)
def Ra (cf:CallF)(m:Nat):Prop:=∀(n0:aq) (lU:Int) (r:Bool),iu.f m n0 lU=some r→∀h xs,aQ bQ h xs [.agg [.int .i64 n0.kind,.int .i64 n0.int,.str n0.label,af.fz n0.args],.int .i64 lU]→cf 67 xs h=some (.bool r,h)
section
variable {cf:CallF}{m:Nat}
theorem sM {aX:FuncId→b5}(ha:aX 67=A9)(pR:MI cf m)(ED:MG cf m)(EC:Og cf m)(OP:QL cf m)(n0:aq)(lU:Int)(h:AHeap)(L:Mem)  (o:Has h (L)){out:Bool}(H:iu.f m n0 lU=some out) :
  ∃r h',a6 Try.prog aX cf m 67 [.agg [.int .i64 n0.kind,.int .i64 n0.int,.str n0.label,af.fz n0.args],.int .i64 lU] h=some (r,h')∧fD h' r (.bool out):=by
 refine au (fn:=Try.f67) ha Try.func67 (by kernel_rfl) (by kernel_rfl) ?_
 refine aK (Q:=fun s=>iu.fin L out s) (fun _ _ h=>h) ?_
 have H:_=some out:=H
 unfold iu.f at H
 show du _ cf A9 m _ ⟨.agg [.int .i64 n0.kind,.int .i64 n0.int,.str n0.label,af.fz n0.args] :: .int .i64 lU::SY [],[none],h⟩ _
 refine qq ?_
 obtain⟨aG,h0,e0,o0⟩:=fY (cs:=[.int .i64 lU]) o (by kernel_rfl)
 refine qr [.a 1 e0] <| qq <| qq <| q0 <| qb 0 <| qq <| q0 <| qc H (fun c0 H=>?_) (fun c0 H=>?_)
 ·refine qq ?_
  rcases iw H with⟨c1,H⟩| ⟨c1,H⟩
  ·rcases iw H with⟨c2,H⟩| ⟨c2,H⟩
   ·refine qr [.b 3 c1,.b 8 c2] ?_
    have o1:Has h0 (L):=Has.del o0 0
    obtain rfl:=oi H
    exact qt <| ⟨.inl rfl,dv (.bool ((n0.args.length:Int)==(0:Int))) h0 (dq (aD))⟩
   ·refine qr [.b 3 c1,.b 8 c2] ?_
    have o2:Has h0 (L):=Has.del o0 0
    obtain rfl:=oi H
    exact qt <| ⟨.inl rfl,dv (.bool false) h0 (dq (aD))⟩
  ·refine qr [.b 3 c1] ?_
   have o3:Has h0 (L):=Has.del o0 0
   obtain rfl:=oi H
   exact qt <| ⟨.inl rfl,dv (.bool false) h0 (dq (aD))⟩
 ·refine q1 <| qc H (fun c3 H=>?_) (fun c3 H=>?_)
  ·refine qq ?_
   rcases iw H with⟨c4,H⟩| ⟨c4,H⟩
   ·rcases iw H with⟨c5,H⟩| ⟨c5,H⟩
    ·rcases iw H with⟨c6,H⟩| ⟨c6,H⟩
     ·refine qr [.b 3 c4,.b 8 c5,.b 13 c6] ?_
      have o4:Has h0 (L):=Has.del o0 0
      obtain rfl:=oi H
      exact qt <| ⟨.inl rfl,dv (.bool ((n0.args.length:Int)==(0:Int))) h0 (dq (aD))⟩
     ·refine qr [.b 3 c4,.b 8 c5,.b 13 c6] ?_
      have o5:Has h0 (L):=Has.del o0 0
      obtain rfl:=oi H
      exact qt <| ⟨.inl rfl,dv (.bool false) h0 (dq (aD))⟩
    ·refine qr [.b 3 c4,.b 8 c5] ?_
     have o6:Has h0 (L):=Has.del o0 0
     obtain rfl:=oi H
     exact qt <| ⟨.inl rfl,dv (.bool false) h0 (dq (aD))⟩
   ·refine qr [.b 3 c4] ?_
    have o7:Has h0 (L):=Has.del o0 0
    obtain rfl:=oi H
    exact qt <| ⟨.inl rfl,dv (.bool false) h0 (dq (aD))⟩
  ·refine q1 <| qc H (fun c7 H=>?_) (fun c7 H=>?_)
   ·refine qq ?_
    rcases iw H with⟨c8,H⟩| ⟨c8,H⟩
    ·obtain⟨x0,e1,H⟩:=bk H
     rcases iw H with⟨c9,H⟩| ⟨c9,H⟩
     ·refine qr [.b 3 c8,.a 6 (pR _ _ e1 h0 _ (eQ (ah (cU) (aw)))),.b 8 c9] ?_
      have o8:Has h0 (L):=Has.del o0 0
      obtain rfl:=oi H
      exact qt <| ⟨.inl rfl,dv (.bool ((n0.args.length:Int)==(0:Int))) h0 (dq (aD))⟩
     ·refine qr [.b 3 c8,.a 6 (pR _ _ e1 h0 _ (eQ (ah (cU) (aw)))),.b 8 c9] ?_
      have o9:Has h0 (L):=Has.del o0 0
      obtain rfl:=oi H
      exact qt <| ⟨.inl rfl,dv (.bool false) h0 (dq (aD))⟩
    ·refine qr [.b 3 c8] ?_
     have vK:Has h0 (L):=Has.del o0 0
     obtain rfl:=oi H
     exact qt <| ⟨.inl rfl,dv (.bool false) h0 (dq (aD))⟩
   ·refine q1 <| qc H (fun Ey H=>?_) (fun Ey H=>?_)
    ·refine qq ?_
     rcases iw H with⟨xK,H⟩| ⟨xK,H⟩
     ·obtain⟨x1,e2,H⟩:=bk H
      rcases iw H with⟨yC,H⟩| ⟨yC,H⟩
      ·rcases iw H with⟨CD,H⟩| ⟨CD,H⟩
       ·rcases iw H with⟨Ez,H⟩| ⟨Ez,H⟩
        ·obtain⟨x2,e3,H⟩:=bk H
         refine qr [.b 3 xK,.a 6 (pR _ _ e2 h0 _ (eQ (ah (cU) (aw)))),.b 8 yC,.b 14 CD,.b 20 Ez,.a 24 (ED _ _ _ e3 79 [.fp [.int .i64 lU] 0] (fun h' tE y0 r hr hx=>OP y0 _ r hr h' tE hx) (fun h_=>iM (ah (gv (pure_cons (gr) (pure_nil))) (aw))) h0 _ (eQ (ah (eG (E:=af)) (ah (sF (ah (bS (q:=0) o0 rfl (ah (bD) (aw))) (aw))) (aw)))))] ?_
         have Dc:Has h0 (L):=Has.del o0 0
         obtain rfl:=oi H
         exact qt <| ⟨.inl rfl,dv (.bool (!x2)) h0 (dq (aD))⟩
        ·refine qr [.b 3 xK,.a 6 (pR _ _ e2 h0 _ (eQ (ah (cU) (aw)))),.b 8 yC,.b 14 CD,.b 20 Ez] ?_
         have Dd:Has h0 (L):=Has.del o0 0
         obtain rfl:=oi H
         exact qt <| ⟨.inl rfl,dv (.bool false) h0 (dq (aD))⟩
       ·refine qr [.b 3 xK,.a 6 (pR _ _ e2 h0 _ (eQ (ah (cU) (aw)))),.b 8 yC,.b 14 CD] ?_
        have jq:Has h0 (L):=Has.del o0 0
        obtain rfl:=oi H
        exact qt <| ⟨.inl rfl,dv (.bool false) h0 (dq (aD))⟩
      ·refine qr [.b 3 xK,.a 6 (pR _ _ e2 h0 _ (eQ (ah (cU) (aw)))),.b 8 yC] ?_
       have vR:Has h0 (L):=Has.del o0 0
       obtain rfl:=oi H
       exact qt <| ⟨.inl rfl,dv (.bool false) h0 (dq (aD))⟩
     ·refine qr [.b 3 xK] ?_
      have EN:Has h0 (L):=Has.del o0 0
      obtain rfl:=oi H
      exact qt <| ⟨.inl rfl,dv (.bool false) h0 (dq (aD))⟩
    ·refine q1 ?_
     have zt:Has h0 (L):=Has.del o0 0
     refine qc H (fun OQ H=>?_) (fun OQ H=>?_)
     ·refine qq ?_
      rcases iw H with⟨MJ,H⟩| ⟨MJ,H⟩
      ·obtain⟨x3,e4,H⟩:=bk H
       rcases iw H with⟨Jl,H⟩| ⟨Jl,H⟩
       ·obtain rfl:=oi H
        exact qr [.b 3 MJ,.a 6 (EC _ _ e4 h0 _ (eQ (ah (cU) (aw)))),.b 8 Jl] <| qt <| ⟨.inl rfl,dv (.bool ((n0.args.length:Int)==(0:Int))) h0 (dq (aD))⟩
       ·obtain rfl:=oi H
        exact qr [.b 3 MJ,.a 6 (EC _ _ e4 h0 _ (eQ (ah (cU) (aw)))),.b 8 Jl] <| qt <| ⟨.inl rfl,dv (.bool false) h0 (dq (aD))⟩
      ·obtain rfl:=oi H
       exact qr [.b 3 MJ] <| qt <| ⟨.inl rfl,dv (.bool false) h0 (dq (aD))⟩
     ·obtain rfl:=oi H
      exact qk <| qq <| q0 <| qt <| ⟨.inl rfl,dv (.bool false) h0 (dq (aD))⟩
end
end Go.Proofs.Ytifafejidnjckaa
namespace Go.Proofs.Ytifafejidnjckaa
open Go Go.R
open Go.IntKind (i64 u64 u8 u32)
def Ba:b5:=gV [0,1,2,3,4,5,16] [2,3] [115,83,111,51,111,111] [] []
def dp.f (m:Nat)(a0:aq)(b0:aq):Option (Int):=if (!(a0.kind==b0.kind))=true then ((cM.f m a0.kind b0.kind).bind fun x0=>some x0) else (if (a0.kind==(3:Int))=true then ((cM.f m (a0.args.length:Int) (b0.args.length:Int)).bind fun x1=>(cm.f m a0.label b0.label).bind fun x2=>(cb.f m ([x1,x2])).bind fun x3=>some x3) else ((cm.f m a0.label b0.label).bind fun x4=>(cM.f m a0.int b0.int).bind fun x5=>(cb.f m ([x4,x5])).bind fun x6=>some x6))
def dp.fin (L:Mem)(r:Int)(s:St):Prop:=∃av,aP Try.prog (s.open Ba) Try.f70.results.toList=some av∧fD s.h av (.int .i64 r)
def MK (cf:CallF)(m:Nat):Prop:=∀(a0:aq) (b0:aq) (r:Int),dp.f m a0 b0=some r→∀h xs,aQ bQ h xs [.agg [.int .i64 a0.kind,.int .i64 a0.int,.str a0.label,af.fz a0.args],.agg [.int .i64 b0.kind,.int .i64 b0.int,.str b0.label,af.fz b0.args]]→cf 70 xs h=some (.int .i64 r,h)
section
variable {cf:CallF}{m:Nat}
theorem mL {aX:FuncId→b5}(ha:aX 70=Ba)(Jm:Q0 cf m)(LJ:QM cf m)(LK:Q1 cf m)(a0:aq)(b0:aq)(h:AHeap)(L:Mem)  (o:Has h (L)){out:Int}(H:dp.f m a0 b0=some out) :
  ∃r h',a6 Try.prog aX cf m 70 [.agg [.int .i64 a0.kind,.int .i64 a0.int,.str a0.label,af.fz a0.args],.agg [.int .i64 b0.kind,.int .i64 b0.int,.str b0.label,af.fz b0.args]] h=some (r,h')∧fD h' r (.int .i64 out):=by
 refine au (fn:=Try.f70) ha Try.func70 (by kernel_rfl) (by kernel_rfl) ?_
 refine aK (Q:=fun s=>dp.fin L out s) (fun _ _ h=>h) ?_
 have H:_=some out:=H
 unfold dp.f at H
 show du _ cf Ba m _ ⟨.agg [.int .i64 a0.kind,.int .i64 a0.int,.str a0.label,af.fz a0.args] :: .agg [.int .i64 b0.kind,.int .i64 b0.int,.str b0.label,af.fz b0.args]::C9 [],[none,none],h⟩ _
 refine q1 <| qq <| qb 0 <| qq <| q0 <| qc H (fun c0 H=>?_) (fun c0 H=>?_)
 ·refine qq ?_
  obtain⟨x0,e0,H⟩:=bk H
  obtain rfl:=oi H
  exact qr [.a 4 (Jm _ _ _ e0 h _ (eQ (ah (bD) (ah (bD) (aw)))))] <| qt <| ⟨.inl rfl,dv (.int .i64 x0) h (dq (dk))⟩
 ·refine q1 <| qc H (fun c1 H=>?_) (fun c1 H=>?_)
  ·refine qq ?_
   obtain⟨x1,e1,H⟩:=bk H
   obtain⟨x2,e2,H⟩:=bk H
   obtain⟨x3,e3,H⟩:=bk H
   obtain rfl:=oi H
   exact qr [.a 6 (Jm _ _ _ e1 h _ (eQ (ah (bD) (ah (bD) (aw))))),.a 11 (LK _ _ _ e2 h _ (eQ (ah (cU) (ah (cU) (aw))))),.a 13 (LJ _ _ e3 h _ (eQ (ah (sq (E:=af) (l:=[x1,x2]) (cs:=[.int .i64 x1,.int .i64 x2]) (b:=true) (by kernel_rfl) (by kernel_rfl) rfl) (aw))))] <| qt <| ⟨.inl rfl,dv (.int .i64 x3) h (dq (dk))⟩
  ·refine qk <| qq ?_
   obtain⟨x4,e4,H⟩:=bk H
   obtain⟨x5,e5,H⟩:=bk H
   obtain⟨x6,e6,H⟩:=bk H
   obtain rfl:=oi H
   exact qr [.a 4 (LK _ _ _ e4 h _ (eQ (ah (cU) (ah (cU) (aw))))),.a 9 (Jm _ _ _ e5 h _ (eQ (ah (bD) (ah (bD) (aw))))),.a 11 (LJ _ _ e6 h _ (eQ (ah (sq (E:=af) (l:=[x4,x5]) (cs:=[.int .i64 x4,.int .i64 x5]) (b:=true) (by kernel_rfl) (by kernel_rfl) rfl) (aw))))] <| qt <| ⟨.inl rfl,dv (.int .i64 x6) h (dq (dk))⟩
end
end Go.Proofs.Ytifafejidnjckaa
namespace Go.Proofs.Ytifafejidnjckaa
open Go Go.R
open Go.IntKind (i64 u64 u8 u32)
def Bb:b5:=gV [0,1,2,5] [] [8,7] [] []
def dM.f (m:Nat)(i0:Int)(j0:Int)(x0:List aq):Option (Int):=(ix x0 i0).bind fun v0=>(ix x0 j0).bind fun v1=>(dp.f m v0 v1).bind fun x1=>some x1
def dM.fin (L:Mem)(r:Int)(s:St):Prop:=∃av,aP Try.prog (s.open Bb) Try.f84.results.toList=some av∧fD s.h av (.int .i64 r)
def Rb (cf:CallF)(m:Nat):Prop:=∀(i0:Int) (j0:Int) (x0:List aq) (r:Int),dM.f m i0 j0 x0=some r→∀h xs,aQ bQ h xs [.int .i64 i0,.int .i64 j0,.fp [ai.fz x0] 0]→cf 84 xs h=some (.int .i64 r,h)
section
variable {cf:CallF}{m:Nat}
theorem np {aX:FuncId→b5}(ha:aX 84=Bb)(EO:MK cf m)(i0:Int)(j0:Int)(x0:List aq)(h:AHeap)(L:Mem)  (o:Has h (L)){out:Int}(H:dM.f m i0 j0 x0=some out) :
  ∃r h',a6 Try.prog aX cf m 84 [.int .i64 i0,.int .i64 j0,.fp [ai.fz x0] 0] h=some (r,h')∧fD h' r (.int .i64 out):=by
 refine au (fn:=Try.f84) ha Try.func84 (by kernel_rfl) (by kernel_rfl) ?_
 refine aK (Q:=fun s=>dM.fin L out s) (fun _ _ h=>h) ?_
 have H:_=some out:=H
 unfold dM.f at H
 show du _ cf Bb m _ ⟨[.int .i64 i0,.int .i64 j0,.fp [ai.fz x0] 0,.any],[],h⟩ _
 refine q1 <| qq ?_
 obtain⟨v0,e0,H⟩:=bk H
 obtain⟨v1,e1,H⟩:=bk H
 obtain⟨x1,e2,H⟩:=bk H
 obtain rfl:=oi H
 exact qr [.v 2 (fm (k:=.i64) (E:=ai) (l:=x0) yA e0),.v 3 (jm  (E:=ai) (l:=x0) h F5 F6 e0),.v 6 (fm (k:=.i64) (E:=ai) (l:=x0) yA e1),.v 7 (jm  (E:=ai) (l:=x0) h F5 F6 e1),.a 8 (EO _ _ _ e2 h _ (eQ (ah (jT (ah (bD) (ah (bD) (ah (cU) (ah (eG (E:=af)) (aw)))))) (ah (jT (ah (bD) (ah (bD) (ah (cU) (ah (eG (E:=af)) (aw)))))) (aw)))))] <| qt <| ⟨.inl rfl,dv (.int .i64 x1) h (dq (dk))⟩
end
end Go.Proofs.Ytifafejidnjckaa
namespace Go.Proofs.Ytifafejidnjckaa
open Go Go.R
open Go.IntKind (i64 u64 u8 u32)
end Go.Proofs.Ytifafejidnjckaa
namespace Go.Proofs.Ytifafejidnjckaa
open Go Go.R
open Go.IntKind (i64 u64 u8 u32)
end Go.Proofs.Ytifafejidnjckaa
namespace Go.Proofs.Ytifafejidnjckaa
open Go Go.R
open Go.IntKind (i64 u64 u8 u32)
end Go.Proofs.Ytifafejidnjckaa
namespace Go.Proofs.Ytifafejidnjckaa
open Go Go.R
open Go.IntKind (i64 u64 u8 u32)
end Go.Proofs.Ytifafejidnjckaa
namespace Go.Proofs.Ytifafejidnjckaa
open Go Go.R
open Go.IntKind (i64 u64 u8 u32)
end Go.Proofs.Ytifafejidnjckaa
