/- Part of the proof: Q109, Q18, Q19, Q27, Q29, Q40, Q52, Q53, Q56, Q57, Q58, Q63, Q65, Q74, Q77, Q80, Q82, Q92, Q93, Q94, Q100, Q101, Q107, Q108, Q30, Q31, Q33, Q35, Q50. -/
import Derived.Test.YtifafejidnjckaaK7
set_option linter.unusedVariables false
set_option linter.unusedSimpArgs false
set_option maxRecDepth 100000
open ByteArray renaming mk → aaq
open Eq renaming trans → aaR
open List renaming length_set → ZO, append_assoc → ZV, cons_append → aak, nil_append → aal
namespace Go.Proofs.Ytifafejidnjckaa
open Go Go.R
open Go.IntKind (i64 u64 u8 u32)
def tR:b9:=gW [0,1,2,3,10,13] [] [32,0,32,32] [] []
def ck.l0 (m:Nat)(a0:Int)(b0:Int)(n0:Int):Nat→(List Int)→Int→Option ((List Int) × Int)
 | 0,_,_=>none
 | k+1,bF,i0=>if (decide (i0<n0))=true then ((ix bF (i64.wrap (b0+i0))).bind fun v0=>(ix bF (i64.wrap (a0+i0))).bind fun v1=>(ix bF (i64.wrap (a0+i0))).bind fun v2=>(ix (bF.set (i64.wrap (a0+i0)).toNat v0) (i64.wrap (b0+i0))).bind fun v3=>ck.l0 m a0 b0 n0 k ((bF.set (i64.wrap (a0+i0)).toNat v0).set (i64.wrap (b0+i0)).toNat v1) (i64.wrap (i0+(1:Int)))) else (some ((bF,i0)))
def ck.f (m:Nat)(ax:List Int)(a0:Int)(b0:Int)(n0:Int)(a7:Int→Int→Option (Int)):Option ((List Int)):=(ck.l0 m a0 b0 n0 m ax (0:Int)).bind fun bM=>match bM with | (dP,i1)=>some dP
def ck.fin (L:Mem)(aE:Nat)(ax:List Int)(a0:Int)(b0:Int)(n0:Int)(a7:Int→Int→Option (Int))(r:(List Int))(s:St):Prop:=aO Try.prog (s.open tR) Try.f109.results.toList=some (.tup [])∧Has s.h ((aE,.sl ax.length 1 (af.l r))::L)
def Lr (cf:CallF)(m:Nat):Prop:=∀(ax:List Int) (a0:Int) (b0:Int) (n0:Int) (a7:Int→Int→Option (Int)) (r:(List Int)),ck.f m ax a0 b0 n0 a7=some r→∀h L (cX:Nat) (aE:Nat),Has h ((aE,.sl cX 1 (af.l ax))::L)→∀(fI:FuncId) (bn ba:List AV),(aS (.fn fI bn) = .fn fI bn)→(∀(h:AHeap) (xs:List AV) (a0:Int) (a1:Int) r,a7 a0 a1=some r→aU bR h xs ([.int .i64 a0,.int .i64 a1]++ba)→cf fI xs h=some (.int .i64 r,h))→(∀h K,Has h (K++(L))→aU cM h bn ba)→(∀h,aU cM h ba ba)→∀xs,xs.map aS=[.rs aE 0 cX 1,.int .i64 a0,.int .i64 b0,.int .i64 n0,.fn fI bn]→∃h',cf 109 xs h=some (.tup [],h')∧Has h' ((aE,.sl cX 1 (af.l r))::L)
section
variable {cf:CallF}{m:Nat}
theorem ck.cQ (L:Mem)(aE:Nat)(fI:FuncId)(bn ba:List AV)(ax:List Int)(a0:Int)(b0:Int)(n0:Int)(a7:Int→Int→Option (Int))  (ia:aS (.fn fI bn) = .fn fI bn)(iI:∀(h:AHeap) (xs:List AV) (a0:Int) (a1:Int) r,a7 a0 a1=some r→aU bR h xs ([.int .i64 a0,.int .i64 a1]++ba)→cf fI xs h=some (.int .i64 r,h))(iJ:∀h K,Has h (K++(L))→aU cM h bn ba)(jh:∀h,aU cM h ba ba)  : dL Try.prog cf tR m (sub [1,0,0] (bZ Try.f109)) (fun k (σ:(List Int) × Int)=>ck.l0 m a0 b0 n0 k σ.1 σ.2) (fun σ s=>match σ with | (bF,i0)=>∃h0,s=⟨[.rs aE 0 ax.length 1,.int .i64 a0,.int .i64 b0,.int .i64 n0,.int .i64 i0,.any],[],h0⟩∧Has h0 ((aE,.sl ax.length 1 (af.l bF))::L)) (fun out e s=>(e = .exit 0∧∃bF i0,(bF,i0)=out∧∃mP uY I4 Gw Bh tO h0,s=⟨[mP,uY,I4,Gw,Bh,tO],[],h0⟩∧Has h0 ((aE,.sl ax.length 1 (af.l bF))::L))):=by
 refine lg (fun _=>rfl) ?_
 rintro k ⟨bF,i0⟩ s out ⟨h0,rfl,o0⟩ H
 have H:ck.l0 m a0 b0 n0 (k+1) bF i0=some out:=H
 refine qq <| qq <| q0 <| qc H (fun c0 H=>?_) (fun c0 H=>?_)
 ·refine qk <| qq <| qb 1 ?_
  obtain⟨v0,e0,H⟩:=bj H
  obtain⟨v1,e1,H⟩:=bj H
  obtain⟨v2,e2,H⟩:=bj H
  obtain⟨h1,e3,o1⟩:=fS (P:=Try.prog) (tf:=3) (E:=af) (l:=bF) (q:=0) (v:=v0) (x:=.int .i64 v0) o0 rfl Z3 e2 rfl rfl
  obtain⟨v3,e4,H⟩:=bj H
  obtain⟨h2,e5,o2⟩:=fS (P:=Try.prog) (tf:=3) (E:=af) (l:=(bF.set (i64.wrap (a0+i0)).toNat v0)) (q:=0) (v:=v1) (x:=.int .i64 v1) o1 rfl Z3 e4 rfl rfl
  exact qr [.v 12 (bp (k:=.i64) (E:=af) (l:=bF) (q:=0) gu o0 rfl e0),.v 13 (di  (E:=af) (l:=bF) (q:=0) o0 rfl A3 e0 rfl),.v 18 (bp (k:=.i64) (E:=af) (l:=bF) (q:=0) gu o0 rfl e1),.v 19 (di  (E:=af) (l:=bF) (q:=0) o0 rfl A3 e1 rfl),.v 20 (bp (k:=.i64) (E:=af) (l:=bF) (q:=0) gu o0 rfl e2),.w 21 e3,.v 22 (bp (k:=.i64) (E:=af) (l:=(bF.set (i64.wrap (a0+i0)).toNat v0)) (q:=0) gu o1 rfl e4),.w 23 e5] <| q0 <| ⟨((bF.set (i64.wrap (a0+i0)).toNat v0).set (i64.wrap (b0+i0)).toNat v1,i64.wrap (i0+(1:Int))),⟨h2,by kernel_rfl,o2⟩,H⟩
 ·exact qx 0 <| ⟨rfl,bF,i0,oi H,.rs aE 0 ax.length 1,.int .i64 a0,.int .i64 b0,.int .i64 n0,.int .i64 i0,.bool (decide (i0<n0)),h0,by kernel_rfl,o0⟩
theorem r7 {aY:FuncId→b9}(ha:aY 109=tR)  (ax:List Int)(a0:Int)(b0:Int)(n0:Int)(a7:Int→Int→Option (Int))(h:AHeap)(L:Mem)(aE:Nat)(fI:FuncId)(bn ba:List AV)  (ia:aS (.fn fI bn) = .fn fI bn)(iI:∀(h:AHeap) (xs:List AV) (a0:Int) (a1:Int) r,a7 a0 a1=some r→aU bR h xs ([.int .i64 a0,.int .i64 a1]++ba)→cf fI xs h=some (.int .i64 r,h))(iJ:∀h K,Has h (K++(L))→aU cM h bn ba)(jh:∀h,aU cM h ba ba)(o:Has h ((aE,.sl ax.length 1 (af.l ax))::L)){out:(List Int)}(H:ck.f m ax a0 b0 n0 a7=some out) :
  ∃r h',bf Try.prog aY cf m 109 [.rs aE 0 ax.length 1,.int .i64 a0,.int .i64 b0,.int .i64 n0,.fn fI bn] h=some (r,h')∧r = .tup []∧Has h' ((aE,.sl ax.length 1 (af.l out))::L):=by
 refine ar (fn:=Try.f109) ha Try.func109 (by kernel_rfl) (by kernel_rfl) ?_
 refine aH (Q:=fun s=>ck.fin L aE ax a0 b0 n0 a7 out s) (fun _ _ ⟨h1,h2,h3⟩=>⟨h1,_,h2,rfl,h3⟩) ?_
 have H:_=some out:=H
 unfold ck.f at H
 show dK _ cf tR m _ ⟨[.rs aE 0 ax.length 1,.int .i64 a0,.int .i64 b0,.int .i64 n0,.any,.any],[],h⟩ _
 refine q1 <| qb 0 ?_
 obtain⟨bM,e6,H⟩:=bj H
 refine ql (ck.cQ L aE fI bn ba ax a0 b0 n0 a7  ia iI iJ jh  (ax,(0:Int)) _ _ ⟨h,by kernel_rfl,o⟩ e6) ?_
 rintro e s ⟨rfl,dP,i1,rfl,g0,g1,g2,g3,g4,g5,h3,rfl,o3⟩
 try dsimp only at H
 obtain rfl:=oi H
 exact⟨.inr rfl,⟨by kernel_rfl,he o3⟩⟩
end
end Go.Proofs.Ytifafejidnjckaa
namespace Go.Proofs.Ytifafejidnjckaa
open Go Go.R
open Go.IntKind (i64 u64 u8 u32)
def CI:b9:=gW [0,2,5] [] [6,2,5,5] [] []
def cG.f (m:Nat)(s0:ab):Option (Int):=(bO.f m s0).bind fun x0=>if (!x0)=true then (some (0:Int)) else (some (s0.aa.length:Int))
def cG.fin (L:Mem)(r:Int)(s:St):Prop:=∃av,aO Try.prog (s.open CI) Try.f18.results.toList=some av∧fG s.h av (.int .i64 r)
def QS (cf:CallF)(m:Nat):Prop:=∀(s0:ab) (r:Int),cG.f m s0=some r→∀h xs,aU bR h xs [.fp [.bool s0.aj,ai.fz s0.aa,af.fz s0.ae] 0]→cf 18 xs h=some (.int .i64 r,h)
section
variable {cf:CallF}{m:Nat}
theorem mW {aY:FuncId→b9}(ha:aY 18=CI)(xt:MB cf m)(s0:ab)(h:AHeap)(L:Mem)  (o:Has h (L)){out:Int}(H:cG.f m s0=some out) :
  ∃r h',bf Try.prog aY cf m 18 [.fp [.bool s0.aj,ai.fz s0.aa,af.fz s0.ae] 0] h=some (r,h')∧fG h' r (.int .i64 out):=by
 refine ar (fn:=Try.f18) ha Try.func18 (by kernel_rfl) (by kernel_rfl) ?_
 refine aH (Q:=fun s=>cG.fin L out s) (fun _ _ h=>h) ?_
 have H:_=some out:=H
 unfold cG.f at H
 show dK _ cf CI m _ ⟨[.fp [.bool s0.aj,ai.fz s0.aa,af.fz s0.ae] 0,.any,.any],[],h⟩ _
 refine q1 <| qq <| qq ?_
 obtain⟨x0,e0,H⟩:=bj H
 refine qr [.a 1 (xt _ _ e0 h _ (fw (ah (fK (pure_cons (cJ) (pure_cons (bQ.bA (E:=ai) (l:=s0.aa)) (pure_cons (bQ.bA (E:=af) (l:=s0.ae)) (pure_nil))))) (aw))))] <| qc H (fun c0 H=>?_) (fun c0 H=>?_)
 ·obtain rfl:=oi H
  exact q1 <| qt <| ⟨.inl rfl,cV (.int .i64 (0:Int)) h (cP (dr))⟩
 ·obtain rfl:=oi H
  exact qk <| qq <| q0 <| qt <| ⟨.inl rfl,cV (.int .i64 (s0.aa.length:Int)) h (cP (dr))⟩
end
end Go.Proofs.Ytifafejidnjckaa
namespace Go.Proofs.Ytifafejidnjckaa
open Go Go.R
open Go.IntKind (i64 u64 u8 u32)
def CJ:b9:=gW [0,2,5] [] [6,2,5,5] [] []
def dk.f (m:Nat)(s0:ab):Option ((Option ab) × ab):=(bO.f m s0).bind fun x0=>if (!x0)=true then (some (none,s0)) else ((Aj 4 s0.aa).bind fun x1=>(Aj 1 s0.ae).bind fun x2=>some (some (ab.mk true x1 x2),s0))
def dk.fin (L:Mem)(aq:Nat)(an:Nat)(ao:Nat)(s0:ab)(r:(Option ab) × ab)(s:St):Prop:=∃dw eK eL aC aD:Nat,aO Try.prog (s.open CJ) Try.f19.results.toList=some ((KY r.1 dw))∧Has s.h (KZ r.1 (fun y=>[(dw,.ob [.bool y.aj,.rs eK 0 y.aa.length 4,.rs eL 0 y.ae.length 1]),(eK,.sl y.aa.length 4 (ai.l y.aa)),(eL,.sl y.ae.length 1 (af.l y.ae))])++((aq,.ob [.bool r.2.aj,.rs aC 0 r.2.aa.length 4,.rs aD 0 r.2.ae.length 1])::(aC,.sl r.2.aa.length 4 (ai.l r.2.aa))::(aD,.sl r.2.ae.length 1 (af.l r.2.ae))::L))
def Up (cf:CallF)(m:Nat):Prop:=∀(s0:ab) (r:(Option ab) × ab),dk.f m s0=some r→∀h L (aq:Nat) (an:Nat) (ao:Nat),Has h ((aq,.ob [.bool s0.aj,.rs an 0 s0.aa.length 4,.rs ao 0 s0.ae.length 1])::(an,.sl s0.aa.length 4 (ai.l s0.aa))::(ao,.sl s0.ae.length 1 (af.l s0.ae))::L)→∀xs,xs.map aS=[.ptr aq 0]→∃dw eK eL aC aD h',cf 19 xs h=some ((KY r.1 dw),h')∧Has h' (KZ r.1 (fun y=>[(dw,.ob [.bool y.aj,.rs eK 0 y.aa.length 4,.rs eL 0 y.ae.length 1]),(eK,.sl y.aa.length 4 (ai.l y.aa)),(eL,.sl y.ae.length 1 (af.l y.ae))])++((aq,.ob [.bool r.2.aj,.rs aC 0 r.2.aa.length 4,.rs aD 0 r.2.ae.length 1])::(aC,.sl r.2.aa.length 4 (ai.l r.2.aa))::(aD,.sl r.2.ae.length 1 (af.l r.2.ae))::L))
section
variable {cf:CallF}{m:Nat}
theorem mw {aY:FuncId→b9}(ha:aY 19=CJ)(xt:MB cf m)(NU:T8 cf m)(Bi:O9 cf m)(s0:ab)(h:AHeap)(L:Mem)(aq:Nat)(an:Nat)(ao:Nat)  (o:Has h ((aq,.ob [.bool s0.aj,.rs an 0 s0.aa.length 4,.rs ao 0 s0.ae.length 1])::(an,.sl s0.aa.length 4 (ai.l s0.aa))::(ao,.sl s0.ae.length 1 (af.l s0.ae))::L)){out:(Option ab) × ab}(H:dk.f m s0=some out) :
  ∃r h',bf Try.prog aY cf m 19 [.ptr aq 0] h=some (r,h')∧∃dw eK eL aC aD:Nat,r=(KY out.1 dw)∧Has h' (KZ out.1 (fun y=>[(dw,.ob [.bool y.aj,.rs eK 0 y.aa.length 4,.rs eL 0 y.ae.length 1]),(eK,.sl y.aa.length 4 (ai.l y.aa)),(eL,.sl y.ae.length 1 (af.l y.ae))])++((aq,.ob [.bool out.2.aj,.rs aC 0 out.2.aa.length 4,.rs aD 0 out.2.ae.length 1])::(aC,.sl out.2.aa.length 4 (ai.l out.2.aa))::(aD,.sl out.2.ae.length 1 (af.l out.2.ae))::L)):=by
 refine ar (fn:=Try.f19) ha Try.func19 (by kernel_rfl) (by kernel_rfl) ?_
 refine aH (Q:=fun s=>dk.fin L aq an ao s0 out s) (fun _ _ ⟨h1,dw,eK,eL,aC,aD,h2,h3⟩=>⟨h1,_,h2,dw,eK,eL,aC,aD,rfl,h3⟩) ?_
 have H:_=some out:=H
 unfold dk.f at H
 show dK _ cf CJ m _ ⟨[.ptr aq 0,.any,.any],[],h⟩ _
 refine q1 <| qq <| qq ?_
 obtain⟨x0,e0,H⟩:=bj H
 refine qr [.a 1 (xt _ _ e0 h _ (fw (ah (ez (q:=0) o rfl (ah (fW) (ah (cZ (E:=ai) (l:=s0.aa) (q:=1) o rfl (fun _=>rfl)) (ah (cZ (E:=af) (l:=s0.ae) (q:=2) o rfl (fun _=>rfl)) (aw))))) (aw))))] <| qc H (fun c0 H=>?_) (fun c0 H=>?_)
 ·obtain rfl:=oi H
  exact q1 <| qt <| ⟨.inl rfl,⟨0,0,0,an,ao,by kernel_rfl,he o⟩⟩
 ·refine qk <| qq ?_
  obtain⟨x1,e1,H⟩:=bj H
  obtain⟨aE,h0,e2,o0⟩:=J4 (q:=1) (E:=ai) (l:=s0.aa) NU o rfl e1
  obtain⟨x2,e3,H⟩:=bj H
  obtain⟨cy,h1,e4,o1⟩:=J4 (q:=3) (E:=af) (l:=s0.ae) Bi o0 rfl e3
  obtain⟨dY,h2,e5,o2⟩:=gJ (cs:=[.bool true,.rs aE 0 x1.length 4,.rs cy 0 x2.length 1]) o1 (by kernel_rfl)
  obtain rfl:=oi H
  exact Mz [] [.v 3 (show bE Try.prog h 40 (.ptr aq 1)=some (.rs an 0 s0.aa.length 4) from cq (q:=0) (cs:=[.bool s0.aj,.rs an 0 s0.aa.length 4,.rs ao 0 s0.ae.length 1]) o rfl (by kernel_rfl)),.a 4 e2,.v 8 (show bE Try.prog h0 33 (.ptr aq 2)=some (.rs ao 0 s0.ae.length 1) from cq (q:=1) (cs:=[.bool s0.aj,.rs an 0 s0.aa.length 4,.rs ao 0 s0.ae.length 1]) o0 rfl (by kernel_rfl)),.a 9 e4,.a 11 e5] [.mk (A5 NU o (q2:=0) rfl e2)] <| qt <| ⟨.inl rfl,⟨dY,aE,cy,an,ao,by kernel_rfl,he (Has.front (Has.front (Has.front (Has.front (Has.front (Has.front o2 5 rfl) 5 rfl) 5 rfl) 4 rfl) 5 rfl) 5 rfl)⟩⟩
end
end Go.Proofs.Ytifafejidnjckaa
namespace Go.Proofs.Ytifafejidnjckaa
open Go Go.R
open Go.IntKind (i64 u64 u8 u32)
def CK:b9:=gW [0,2,3] [] [6,1] [] []
def fo.f (m:Nat)(s0:ab):Option (Int × Int × ab):=(cC.f m s0 (eD.f m ) (ak.mk (0:Int) (0:Int) (aaq #[]) ([]))).bind fun x0=>some (x0.1,x0.2.1,x0.2.2)
def fo.fin (L:Mem)(aq:Nat)(an:Nat)(ao:Nat)(s0:ab)(r:Int × Int × ab)(s:St):Prop:=∃aC aD:Nat,aO Try.prog (s.open CK) Try.f27.results.toList=some (.tup [.int .i64 r.1,.int .i64 r.2.1])∧Has s.h ((aq,.ob [.bool r.2.2.aj,.rs aC 0 r.2.2.aa.length 4,.rs aD 0 r.2.2.ae.length 1])::(aC,.sl r.2.2.aa.length 4 (ai.l r.2.2.aa))::(aD,.sl r.2.2.ae.length 1 (af.l r.2.2.ae))::L)
def Uq (cf:CallF)(m:Nat):Prop:=∀(s0:ab) (r:Int × Int × ab),fo.f m s0=some r→∀h L (aq:Nat) (an:Nat) (ao:Nat),Has h ((aq,.ob [.bool s0.aj,.rs an 0 s0.aa.length 4,.rs ao 0 s0.ae.length 1])::(an,.sl s0.aa.length 4 (ai.l s0.aa))::(ao,.sl s0.ae.length 1 (af.l s0.ae))::L)→∀xs,xs.map aS=[.ptr aq 0]→∃aC aD h',cf 27 xs h=some (.tup [.int .i64 r.1,.int .i64 r.2.1],h')∧Has h' ((aq,.ob [.bool r.2.2.aj,.rs aC 0 r.2.2.aa.length 4,.rs aD 0 r.2.2.ae.length 1])::(aC,.sl r.2.2.aa.length 4 (ai.l r.2.2.aa))::(aD,.sl r.2.2.ae.length 1 (af.l r.2.2.ae))::L)
section
variable {cf:CallF}{m:Nat}
theorem nK {aY:FuncId→b9}(ha:aY 27=CK)(xA:MC cf m)(QT:Ue cf m)(s0:ab)(h:AHeap)(L:Mem)(aq:Nat)(an:Nat)(ao:Nat)  (o:Has h ((aq,.ob [.bool s0.aj,.rs an 0 s0.aa.length 4,.rs ao 0 s0.ae.length 1])::(an,.sl s0.aa.length 4 (ai.l s0.aa))::(ao,.sl s0.ae.length 1 (af.l s0.ae))::L)){out:Int × Int × ab}(H:fo.f m s0=some out) :
  ∃r h',bf Try.prog aY cf m 27 [.ptr aq 0] h=some (r,h')∧∃aC aD:Nat,r = .tup [.int .i64 out.1,.int .i64 out.2.1]∧Has h' ((aq,.ob [.bool out.2.2.aj,.rs aC 0 out.2.2.aa.length 4,.rs aD 0 out.2.2.ae.length 1])::(aC,.sl out.2.2.aa.length 4 (ai.l out.2.2.aa))::(aD,.sl out.2.2.ae.length 1 (af.l out.2.2.ae))::L):=by
 refine ar (fn:=Try.f27) ha Try.func27 (by kernel_rfl) (by kernel_rfl) ?_
 refine aH (Q:=fun s=>fo.fin L aq an ao s0 out s) (fun _ _ ⟨h1,aC,aD,h2,h3⟩=>⟨h1,_,h2,aC,aD,rfl,h3⟩) ?_
 have H:_=some out:=H
 unfold fo.f at H
 show dK _ cf CK m _ ⟨[.ptr aq 0,.any,.any],[],h⟩ _
 refine q1 <| qq ?_
 obtain⟨x0,e0,H⟩:=bj H
 obtain⟨aE,cy,h0,e1,o0⟩:=xA _ _ _ _ e0 h _ _ _ _ (o) 48 [] [] rfl (fun h' tS  r hr hx=>QT  r hr h' tS hx) (fun h' K' o'=>jf (aw)) (fun h_=>jf (aw)) [.ptr aq 0,.fn 48 [],.agg [.int .i64 (0:Int),.int .i64 (0:Int),.str (aaq #[]),.nils]] (au (rfl) (au (rfl) (au (aP (nE (cd (bm) (cd (bm) (cd (lf) (cd (sw (E:=af)) (nD))))))) (bN))))
 obtain rfl:=oi H
 exact qr [.a 2 e1] <| qt <| ⟨.inl rfl,⟨aE,cy,by kernel_rfl,he o0⟩⟩
end
end Go.Proofs.Ytifafejidnjckaa
namespace Go.Proofs.Ytifafejidnjckaa
open Go Go.R
open Go.IntKind (i64 u64 u8 u32)
def CL:b9:=gW [0,1,3,4,5] [] [26,7] [] []
def fq.f (m:Nat)(s0:ab)(n0:Int):Option (Int × Int × ab):=(cC.f m s0 (dM.f m n0) (ak.mk (1:Int) n0 (aaq #[]) ([]))).bind fun x0=>some (x0.1,x0.2.1,x0.2.2)
def fq.fin (L:Mem)(aq:Nat)(an:Nat)(ao:Nat)(s0:ab)(n0:Int)(r:Int × Int × ab)(s:St):Prop:=∃aC aD:Nat,aO Try.prog (s.open CL) Try.f29.results.toList=some (.tup [.int .i64 r.1,.int .i64 r.2.1])∧Has s.h ((aq,.ob [.bool r.2.2.aj,.rs aC 0 r.2.2.aa.length 4,.rs aD 0 r.2.2.ae.length 1])::(aC,.sl r.2.2.aa.length 4 (ai.l r.2.2.aa))::(aD,.sl r.2.2.ae.length 1 (af.l r.2.2.ae))::L)
def Ur (cf:CallF)(m:Nat):Prop:=∀(s0:ab) (n0:Int) (r:Int × Int × ab),fq.f m s0 n0=some r→∀h L (aq:Nat) (an:Nat) (ao:Nat),Has h ((aq,.ob [.bool s0.aj,.rs an 0 s0.aa.length 4,.rs ao 0 s0.ae.length 1])::(an,.sl s0.aa.length 4 (ai.l s0.aa))::(ao,.sl s0.ae.length 1 (af.l s0.ae))::L)→∀xs,xs.map aS=[.ptr aq 0,.int .i64 n0]→∃aC aD h',cf 29 xs h=some (.tup [.int .i64 r.1,.int .i64 r.2.1],h')∧Has h' ((aq,.ob [.bool r.2.2.aj,.rs aC 0 r.2.2.aa.length 4,.rs aD 0 r.2.2.ae.length 1])::(aC,.sl r.2.2.aa.length 4 (ai.l r.2.2.aa))::(aD,.sl r.2.2.ae.length 1 (af.l r.2.2.ae))::L)
section
variable {cf:CallF}{m:Nat}
theorem nL {aY:FuncId→b9}(ha:aY 29=CL)(xA:MC cf m)(QU:Ug cf m)(s0:ab)(n0:Int)(h:AHeap)(L:Mem)(aq:Nat)(an:Nat)(ao:Nat)  (o:Has h ((aq,.ob [.bool s0.aj,.rs an 0 s0.aa.length 4,.rs ao 0 s0.ae.length 1])::(an,.sl s0.aa.length 4 (ai.l s0.aa))::(ao,.sl s0.ae.length 1 (af.l s0.ae))::L)){out:Int × Int × ab}(H:fq.f m s0 n0=some out) :
  ∃r h',bf Try.prog aY cf m 29 [.ptr aq 0,.int .i64 n0] h=some (r,h')∧∃aC aD:Nat,r = .tup [.int .i64 out.1,.int .i64 out.2.1]∧Has h' ((aq,.ob [.bool out.2.2.aj,.rs aC 0 out.2.2.aa.length 4,.rs aD 0 out.2.2.ae.length 1])::(aC,.sl out.2.2.aa.length 4 (ai.l out.2.2.aa))::(aD,.sl out.2.2.ae.length 1 (af.l out.2.2.ae))::L):=by
 refine ar (fn:=Try.f29) ha Try.func29 (by kernel_rfl) (by kernel_rfl) ?_
 refine aH (Q:=fun s=>fq.fin L aq an ao s0 n0 out s) (fun _ _ ⟨h1,aC,aD,h2,h3⟩=>⟨h1,_,h2,aC,aD,rfl,h3⟩) ?_
 have H:_=some out:=H
 unfold fq.f at H
 show dK _ cf CL m _ ⟨.ptr aq 0 :: .int .i64 n0::ov [],[],h⟩ _
 refine qq ?_
 obtain⟨aE,h0,e0,o0⟩:=gJ (cs:=[.int .i64 n0]) o (by kernel_rfl)
 refine qr [.a 0 e0] <| qq ?_
 obtain⟨x0,e1,H⟩:=bj H
 obtain⟨cy,dY,h1,e2,o1⟩:=xA _ _ _ _ e1 h0 _ _ _ _ ((Has.front (Has.front (Has.front (Has.front o0 0 rfl) 3 rfl) 3 rfl) 3 rfl)) 51 [.ptr aE 0] [.fp [.int .i64 n0] 0] rfl (fun h' tS  r hr hx=>QU _ r hr h' tS hx) (fun h' K' o'=>jf (ah (ez (q:=(K'.length+3)) o' (jQ rfl) (ah (aZ) (aw))) (aw))) (fun h_=>jf (ah (fK (pure_cons (gR) (pure_nil))) (aw))) [.ptr aq 0,.fn 51 [.ptr aE 0],.agg [.int .i64 (1:Int),.int .i64 n0,.str (aaq #[]),.nils]] (au (rfl) (au (rfl) (au (aP (nE (cd (bm) (cd (bm) (cd (lf) (cd (sw (E:=af)) (nD))))))) (bN))))
 refine qr [.v 2 (show bE Try.prog h0 3 (.ptr aE 0)=some (.int .i64 n0) from cq (q:=0) (cs:=[.int .i64 n0]) o0 rfl (by kernel_rfl)),.a 4 e2] ?_
 have o2:Has h1 ((aq,.ob [.bool x0.2.2.aj,.rs cy 0 x0.2.2.aa.length 4,.rs dY 0 x0.2.2.ae.length 1])::(cy,.sl x0.2.2.aa.length 4 (ai.l x0.2.2.aa))::(dY,.sl x0.2.2.ae.length 1 (af.l x0.2.2.ae))::L):=Has.del o1 3
 obtain rfl:=oi H
 exact qt <| ⟨.inl rfl,⟨cy,dY,by kernel_rfl,he o2⟩⟩
end
end Go.Proofs.Ytifafejidnjckaa
namespace Go.Proofs.Ytifafejidnjckaa
open Go Go.R
open Go.IntKind (i64 u64 u8 u32)
def zx:b9:=gW [0,1,4,5,6,7,20,21,22,23] [4,5] [1016,1010,1010,562,50,514,562,562,1019] [] [(0,[(4,some 3,1)])]
def bl.l0 (m:Nat)(s0:ab)(x0:List Int):Nat→(List Int)→Int→Option ((List Int) × Int)
 | 0,_,_=>none
 | k+1,x1,x2=>if (decide (x2<(x0.length:Int)))=true then ((ix x1 x2).bind fun v1=>(bh.f m s0 v1).bind fun x3=>(ix x1 x2).bind fun v2=>bl.l0 m s0 x0 k (x1.set x2.toNat x3) (i64.wrap (x2+(1:Int)))) else (some ((x1,x2)))
def bl.f (m:Nat)(s0:ab)(n0:Int):Option (ak):=(ix s0.aa n0).bind fun v0=>(Aj 1 v0.args).bind fun x0=>(bl.l0 m s0 x0 m x0 (0:Int)).bind fun bM=>match bM with | (x4,x5)=>some (ak.mk v0.kind v0.int v0.label x4)
def bl.fin (L:Mem)  (r:ak)(s:St):Prop:=∃dw:Nat,aO Try.prog (s.open zx) Try.f40.results.toList=some (.agg [.int .i64 r.kind,.int .i64 r.int,.str r.label,.rs dw 0 r.args.length 1])∧Has s.h ((dw,.sl r.args.length 1 (af.l r.args))::L)
def QV (cf:CallF)(m:Nat):Prop:=∀(s0:ab) (n0:Int) (r:ak),bl.f m s0 n0=some r→∀h L xs,Has h L→aU bR h xs [.fp [.bool s0.aj,ai.fz s0.aa,af.fz s0.ae] 0,.int .i64 n0]→∃dw h',cf 40 xs h=some (.agg [.int .i64 r.kind,.int .i64 r.int,.str r.label,.rs dw 0 r.args.length 1],h')∧Has h' ((dw,.sl r.args.length 1 (af.l r.args))::L)∧∀j,j<h.next→h.ver j=h'.ver j
section
variable {cf:CallF}{m:Nat}
theorem bl.cQ (L:Mem)(s0:ab)(v0:ak)(x0:List Int)  (nI:I3 cf m):dL Try.prog cf zx m (sub [1,1,1,0,1,0,0] (bZ Try.f40)) (fun k (σ:(List Int) × Int)=>bl.l0 m s0 x0 k σ.1 σ.2) (fun σ s=>match σ with | (x1,x2)=>∃cy h1,s=⟨[.fp [.bool s0.aj,ai.fz s0.aa,af.fz s0.ae] 0,.any,.lp 4 0,.lp 5 0,.any,.any,.rs cy 0 x1.length 1,.int .i64 (x0.length:Int),.int .i64 x2,.any],[some [.int .i64 (0:Int),.int .i64 (0:Int),.str (aaq #[]),.rs (0) 0 (([]:List Int).length) 1],some [.int .i64 v0.kind,.int .i64 v0.int,.str v0.label,.rs cy 0 x1.length 1]],h1⟩∧Has h1 ((cy,.sl x1.length 1 (af.l x1))::((0),.sl (([]:List Int).length) 1 (af.l ([]:List Int)))::L)) (fun out e s=>(e = .exit 0∧∃x1 x2,(x1,x2)=out∧∃mP Ls Lt Bj Bc cy h1,s=⟨[mP,.any,.lp 4 0,.lp 5 0,.any,.any,Ls,Lt,Bj,Bc],[some [.int .i64 (0:Int),.int .i64 (0:Int),.str (aaq #[]),.rs (0) 0 (([]:List Int).length) 1],some [.int .i64 v0.kind,.int .i64 v0.int,.str v0.label,.rs cy 0 x1.length 1]],h1⟩∧Has h1 ((cy,.sl x1.length 1 (af.l x1))::((0),.sl (([]:List Int).length) 1 (af.l ([]:List Int)))::L))):=by
 refine lg (fun _=>rfl) ?_
 rintro k ⟨x1,x2⟩ s out ⟨cy,h1,rfl,o2⟩ H
 have H:bl.l0 m s0 x0 (k+1) x1 x2=some out:=H
 refine q1 <| qq <| qc H (fun c0 H=>?_) (fun c0 H=>?_)
 ·refine qk <| qq <| qb 1 <| qq ?_
  obtain⟨v1,e3,H⟩:=bj H
  refine qr [.v 1 (bp (k:=.i64) (E:=af) (l:=x1) (q:=0) gu o2 rfl e3),.v 2 (di  (E:=af) (l:=x1) (q:=0) o2 rfl A3 e3 rfl)] ?_
  obtain⟨x3,e4,H⟩:=bj H
  obtain⟨v2,e5,H⟩:=bj H
  obtain⟨h2,e6,o3⟩:=fS (P:=Try.prog) (tf:=3) (E:=af) (l:=x1) (q:=0) (v:=x3) (x:=.int .i64 x3) o2 rfl Z3 e5 rfl rfl
  exact qr [.a 5 (nI _ _ _ e4 h1 _ (fw (ah (fK (pure_cons (cJ) (pure_cons (bQ.bA (E:=ai) (l:=s0.aa)) (pure_cons (bQ.bA (E:=af) (l:=s0.ae)) (pure_nil))))) (ah (aZ) (aw))))),.v 6 (bp (k:=.i64) (E:=af) (l:=x1) (q:=0) gu o2 rfl e5),.w 7 e6] <| q0 <| ⟨(x1.set x2.toNat x3,i64.wrap (x2+(1:Int))),⟨cy,h2,(aaR (b:=⟨[.fp [.bool s0.aj,ai.fz s0.aa,af.fz s0.ae] 0,.any,.lp 4 0,.lp 5 0,.any,.any,.rs cy 0 x1.length 1,.int .i64 (x0.length:Int),.int .i64 (i64.wrap (x2+(1:Int))),.any],[some [.int .i64 (0:Int),.int .i64 (0:Int),.str (aaq #[]),.rs (0) 0 (([]:List Int).length) 1],some [.int .i64 v0.kind,.int .i64 v0.int,.str v0.label,.rs cy 0 x1.length 1]],h2⟩) (by kernel_rfl) (by simp only [ZO])),(by have o:Has h2 ((cy,.sl x1.length 1 (af.l (x1.set x2.toNat x3)))::((0),.sl (([]:List Int).length) 1 (af.l ([]:List Int)))::L):=o3; simpa only [ZO] using o)⟩,H⟩
 ·exact qx 0 <| ⟨rfl,x1,x2,oi H,.fp [.bool s0.aj,ai.fz s0.aa,af.fz s0.ae] 0,.rs cy 0 x1.length 1,.int .i64 (x0.length:Int),.int .i64 x2,.bool (decide (x2<(x0.length:Int))),cy,h1,by kernel_rfl,o2⟩
theorem my {aY:FuncId→b9}(ha:aY 40=zx)(Bi:O9 cf m)(nI:I3 cf m)(s0:ab)(n0:Int)(h:AHeap)(L:Mem)  (o:Has h (L)){out:ak}(H:bl.f m s0 n0=some out) :
  ∃r h',bf Try.prog aY cf m 40 [.fp [.bool s0.aj,ai.fz s0.aa,af.fz s0.ae] 0,.int .i64 n0] h=some (r,h')∧∃dw:Nat,r = .agg [.int .i64 out.kind,.int .i64 out.int,.str out.label,.rs dw 0 out.args.length 1]∧Has h' ((dw,.sl out.args.length 1 (af.l out.args))::L):=by
 refine ar (fn:=Try.f40) ha Try.func40 (by kernel_rfl) (by kernel_rfl) ?_
 refine aH (Q:=fun s=>bl.fin L out s) (fun _ _ ⟨h1,dw,h2,h3⟩=>⟨h1,_,h2,dw,rfl,h3⟩) ?_
 have H:_=some out:=H
 unfold bl.f at H
 show dK _ cf zx m _ ⟨.fp [.bool s0.aj,ai.fz s0.aa,af.fz s0.ae] 0 :: .int .i64 n0::xf [],[none,none],h⟩ _
 refine q1 ?_
 have o0:Has h (((0),.sl (([]:List Int).length) 1 (af.l ([]:List Int)))::L):=Has.nil o 1
 refine qq ?_
 obtain⟨v0,e0,H⟩:=bj H
 refine qr [.v 5 (fy (k:=.i64) (E:=ai) (l:=s0.aa) uW e0),.v 6 (jP  (E:=ai) (l:=s0.aa) h Ez EA e0)] <| qq ?_
 obtain⟨x0,e1,H⟩:=bj H
 obtain⟨aE,h0,e2,o1⟩:=J3 (E:=af) (l:=v0.args) Bi o0 e1
 refine qr [.a 2 e2] <| qq <| qq <| q0 <| qb 0 ?_
 obtain⟨bM,e7,H⟩:=bj H
 refine ql (bl.cQ L s0 v0 x0  nI (x0,(0:Int)) _ _ ⟨aE,h0,by kernel_rfl,o1⟩ e7) ?_
 rintro e s ⟨rfl,x4,x5,rfl,g0,g1,g2,g3,g4,dY,h3,rfl,o4⟩
 try dsimp only at H
 refine q1 ?_
 have o5:Has h3 ((dY,.sl x4.length 1 (af.l x4))::L):=Has.del o4 1
 obtain rfl:=oi H
 exact qt <| ⟨.inl rfl,⟨dY,by kernel_rfl,he o5⟩⟩
end
end Go.Proofs.Ytifafejidnjckaa
namespace Go.Proofs.Ytifafejidnjckaa
open Go Go.R
open Go.IntKind (i64 u64 u8 u32)
def CM:b9:=gW [0,1,4] [] [4,3] [] []
def fu.f (m:Nat)(s0:List Int)(f0:Int→Option (Bool)):Option (Bool):=(dp.f m s0 f0).bind fun x0=>some (decide (x0≥(0:Int)))
def fu.fin (L:Mem)(r:Bool)(s:St):Prop:=∃av,aO Try.prog (s.open CM) Try.f52.results.toList=some av∧fG s.h av (.bool r)
def Pb (cf:CallF)(m:Nat):Prop:=∀(s0:List Int) (f0:Int→Option (Bool)) (r:Bool),fu.f m s0 f0=some r→∀(fH:FuncId) (aX:List AV),(∀(h:AHeap) (xs:List AV) (a0:Int) r,f0 a0=some r→aU bR h xs ([.int .i64 a0]++aX)→cf fH xs h=some (.bool r,h))→(∀h,aU cM h aX aX)→∀h xs,aU bR h xs [af.fz s0,.fn fH aX]→cf 52 xs h=some (.bool r,h)
section
variable {cf:CallF}{m:Nat}
theorem r8 {aY:FuncId→b9}(ha:aY 52=CM)(Lu:QP cf m)(s0:List Int)(f0:Int→Option (Bool))(h:AHeap)(L:Mem)(fH:FuncId)(aX:List AV)  (ir:∀(h:AHeap) (xs:List AV) (a0:Int) r,f0 a0=some r→aU bR h xs ([.int .i64 a0]++aX)→cf fH xs h=some (.bool r,h))(iu:∀h,aU cM h aX aX)(o:Has h (L)){out:Bool}(H:fu.f m s0 f0=some out) :
  ∃r h',bf Try.prog aY cf m 52 [af.fz s0,.fn fH aX] h=some (r,h')∧fG h' r (.bool out):=by
 refine ar (fn:=Try.f52) ha Try.func52 (by kernel_rfl) (by kernel_rfl) ?_
 refine aH (Q:=fun s=>fu.fin L out s) (fun _ _ h=>h) ?_
 have H:_=some out:=H
 unfold fu.f at H
 show dK _ cf CM m _ ⟨[af.fz s0,.fn fH aX,.any],[],h⟩ _
 refine q1 <| qq ?_
 obtain⟨x0,e0,H⟩:=bj H
 obtain rfl:=oi H
 exact qr [.a 2 (Lu _ _ _ e0 fH aX ir iu h _ (fw (ah (dU (E:=af)) (ah (rI (iu h)) (aw)))))] <| qt <| ⟨.inl rfl,cV (.bool (decide (x0≥(0:Int)))) h (cP (az))⟩
end
end Go.Proofs.Ytifafejidnjckaa
namespace Go.Proofs.Ytifafejidnjckaa
open Go Go.R
open Go.IntKind (i64 u64 u8 u32)
def CN:b9:=gW [0,1,3] [] [4,3] [] []
def dG.f (m:Nat)(n0:Int)(x0:ab):Option (Bool):=(dj.f m x0 n0).bind fun x1=>some (!x1)
def dG.fin (L:Mem)(r:Bool)(s:St):Prop:=∃av,aO Try.prog (s.open CN) Try.f53.results.toList=some av∧fG s.h av (.bool r)
def Us (cf:CallF)(m:Nat):Prop:=∀(n0:Int) (x0:ab) (r:Bool),dG.f m n0 x0=some r→∀h xs,aU bR h xs [.int .i64 n0,.fp [.fp [.bool x0.aj,ai.fz x0.aa,af.fz x0.ae] 0] 0]→cf 53 xs h=some (.bool r,h)
section
variable {cf:CallF}{m:Nat}
theorem lh {aY:FuncId→b9}(ha:aY 53=CN)(Lk:QF cf m)(n0:Int)(x0:ab)(h:AHeap)(L:Mem)  (o:Has h (L)){out:Bool}(H:dG.f m n0 x0=some out) :
  ∃r h',bf Try.prog aY cf m 53 [.int .i64 n0,.fp [.fp [.bool x0.aj,ai.fz x0.aa,af.fz x0.ae] 0] 0] h=some (r,h')∧fG h' r (.bool out):=by
 refine ar (fn:=Try.f53) ha Try.func53 (by kernel_rfl) (by kernel_rfl) ?_
 refine aH (Q:=fun s=>dG.fin L out s) (fun _ _ h=>h) ?_
 have H:_=some out:=H
 unfold dG.f at H
 show dK _ cf CN m _ ⟨[.int .i64 n0,.fp [.fp [.bool x0.aj,ai.fz x0.aa,af.fz x0.ae] 0] 0,.any],[],h⟩ _
 refine q1 <| qq ?_
 obtain⟨x1,e0,H⟩:=bj H
 obtain rfl:=oi H
 exact qr [.a 2 (Lk _ _ _ e0 h _ (fw (ah (fK (pure_cons (cJ) (pure_cons (bQ.bA (E:=ai) (l:=x0.aa)) (pure_cons (bQ.bA (E:=af) (l:=x0.ae)) (pure_nil))))) (ah (aZ) (aw)))))] <| qt <| ⟨.inl rfl,cV (.bool (!x1)) h (cP (az))⟩
end
end Go.Proofs.Ytifafejidnjckaa
namespace Go.Proofs.Ytifafejidnjckaa
open Go Go.R
open Go.IntKind (i64 u64 u8 u32)
def CO:b9:=gW [0,1,2,6,13,16,21] [] [120,104,88,120,56,120,125,119] [] []
def cY.f (m:Nat)(s0:ab)(a0:Int)(b0:Int):Option (Int × ab):=jn (fun (σ:Int × Int)=>match σ with | (a1,b1)=>(ix s0.ae a1).bind fun v0=>some (a1,(ab.mk s0.aj s0.aa (s0.ae.set a1.toNat b1)))) fun tP=>((cE.f m s0 a0).bind fun x0=>(cE.f m s0 b0).bind fun x1=>if (!(x0==x1))=true then ((cE.f m s0 b0).bind fun x2=>if x2=true then (tP (b0,a0)) else (tP (a0,b0))) else (if (decide (a0<b0))=true then (tP (b0,a0)) else (tP (a0,b0))))
def cY.fin (L:Mem)(aq:Nat)(an:Nat)(ao:Nat)(s0:ab)(a0:Int)(b0:Int)(r:Int × ab)(s:St):Prop:=∃aC aD:Nat,aO Try.prog (s.open CO) Try.f56.results.toList=some (.int .i64 r.1)∧Has s.h ((aq,.ob [.bool r.2.aj,.rs aC 0 r.2.aa.length 4,.rs aD 0 r.2.ae.length 1])::(aC,.sl r.2.aa.length 4 (ai.l r.2.aa))::(aD,.sl r.2.ae.length 1 (af.l r.2.ae))::L)
def QX (cf:CallF)(m:Nat):Prop:=∀(s0:ab) (a0:Int) (b0:Int) (r:Int × ab),cY.f m s0 a0 b0=some r→∀h L (aq:Nat) (an:Nat) (ao:Nat),Has h ((aq,.ob [.bool s0.aj,.rs an 0 s0.aa.length 4,.rs ao 0 s0.ae.length 1])::(an,.sl s0.aa.length 4 (ai.l s0.aa))::(ao,.sl s0.ae.length 1 (af.l s0.ae))::L)→∀xs,xs.map aS=[.ptr aq 0,.int .i64 a0,.int .i64 b0]→∃aC aD h',cf 56 xs h=some (.int .i64 r.1,h')∧Has h' ((aq,.ob [.bool r.2.aj,.rs aC 0 r.2.aa.length 4,.rs aD 0 r.2.ae.length 1])::(aC,.sl r.2.aa.length 4 (ai.l r.2.aa))::(aD,.sl r.2.ae.length 1 (af.l r.2.ae))::L)
section
variable {cf:CallF}{m:Nat}
theorem mX {aY:FuncId→b9}(ha:aY 56=CO)(GI:QH cf m)(s0:ab)(a0:Int)(b0:Int)(h:AHeap)(L:Mem)(aq:Nat)(an:Nat)(ao:Nat)  (o:Has h ((aq,.ob [.bool s0.aj,.rs an 0 s0.aa.length 4,.rs ao 0 s0.ae.length 1])::(an,.sl s0.aa.length 4 (ai.l s0.aa))::(ao,.sl s0.ae.length 1 (af.l s0.ae))::L)){out:Int × ab}(H:cY.f m s0 a0 b0=some out) :
  ∃r h',bf Try.prog aY cf m 56 [.ptr aq 0,.int .i64 a0,.int .i64 b0] h=some (r,h')∧∃aC aD:Nat,r = .int .i64 out.1∧Has h' ((aq,.ob [.bool out.2.aj,.rs aC 0 out.2.aa.length 4,.rs aD 0 out.2.ae.length 1])::(aC,.sl out.2.aa.length 4 (ai.l out.2.aa))::(aD,.sl out.2.ae.length 1 (af.l out.2.ae))::L):=by
 refine ar (fn:=Try.f56) ha Try.func56 (by kernel_rfl) (by kernel_rfl) ?_
 refine aH (Q:=fun s=>cY.fin L aq an ao s0 a0 b0 out s) (fun _ _ ⟨h1,aC,aD,h2,h3⟩=>⟨h1,_,h2,aC,aD,rfl,h3⟩) ?_
 have H:_=some out:=H
 unfold cY.f at H
 show dK _ cf CO m _ ⟨.ptr aq 0 :: .int .i64 a0 :: .int .i64 b0::oZ [],[],h⟩ _
 refine q1 ?_
 obtain⟨tP,GD,H⟩:=oa H
 refine qj (S:=fun (σ:Int × Int) s=>match σ with | (a1,b1)=>∃(g0:AV) (g1:AV) (h0:AHeap),s=⟨[.ptr aq 0,.int .i64 a1,.int .i64 b1,.any,.any,g0,g1],[],h0⟩∧Has h0 ((aq,.ob [.bool s0.aj,.rs an 0 s0.aa.length 4,.rs ao 0 s0.ae.length 1])::(an,.sl s0.aa.length 4 (ai.l s0.aa))::(ao,.sl s0.ae.length 1 (af.l s0.ae))::L)) tP H ?_ ?_
 ·rintro⟨a1,b1⟩ s ⟨g0,g1,h0,rfl,o0⟩ H
  have H:=(GD _).symm.trans H
  try dsimp only at H
  refine qq ?_
  obtain⟨v0,e3,H⟩:=bj H
  obtain⟨h1,e4,o1⟩:=fS (P:=Try.prog) (tf:=3) (E:=af) (l:=s0.ae) (q:=2) (v:=b1) (x:=.int .i64 b1) o0 rfl Z3 e3 rfl rfl
  obtain rfl:=oi H
  exact qr [.v 3 (show bE Try.prog h0 33 (.ptr aq 2)=some (.rs ao 0 s0.ae.length 1) from cq (q:=0) (cs:=[.bool s0.aj,.rs an 0 s0.aa.length 4,.rs ao 0 s0.ae.length 1]) o0 rfl (by kernel_rfl)),.v 6 (bp (k:=.i64) (E:=af) (l:=s0.ae) (q:=2) gu o0 rfl e3),.w 7 e4] <| qq <| q0 <| qt <| ⟨.inl rfl,⟨an,ao,by kernel_rfl,he (by have o:Has h1 ((aq,.ob [.bool s0.aj,.rs an 0 s0.aa.length 4,.rs ao 0 s0.ae.length 1])::(an,.sl s0.aa.length 4 (ai.l s0.aa))::(ao,.sl s0.ae.length 1 (af.l (s0.ae.set a1.toNat b1)))::L):=o1; simpa only [ZO] using o)⟩⟩
 clear GD
 intro pd
 refine qq ?_
 obtain⟨x0,e0,H⟩:=bj H
 obtain⟨x1,e1,H⟩:=bj H
 refine qr [.a 2 (GI _ _ _ e0 h _ (fw (ah (ez (q:=0) o rfl (ah (fW) (ah (cZ (E:=ai) (l:=s0.aa) (q:=1) o rfl (fun _=>rfl)) (ah (cZ (E:=af) (l:=s0.ae) (q:=2) o rfl (fun _=>rfl)) (aw))))) (ah (aZ) (aw))))),.a 5 (GI _ _ _ e1 h _ (fw (ah (ez (q:=0) o rfl (ah (fW) (ah (cZ (E:=ai) (l:=s0.aa) (q:=1) o rfl (fun _=>rfl)) (ah (cZ (E:=af) (l:=s0.ae) (q:=2) o rfl (fun _=>rfl)) (aw))))) (ah (aZ) (aw)))))] <| qc H (fun c0 H=>?_) (fun c0 H=>?_)
 ·refine qq ?_
  obtain⟨x2,e2,H⟩:=bj H
  refine qr [.a 2 (GI _ _ _ e2 h _ (fw (ah (ez (q:=0) o rfl (ah (fW) (ah (cZ (E:=ai) (l:=s0.aa) (q:=1) o rfl (fun _=>rfl)) (ah (cZ (E:=af) (l:=s0.ae) (q:=2) o rfl (fun _=>rfl)) (aw))))) (ah (aZ) (aw)))))] <| qc H (fun c1 H=>?_) (fun c1 H=>?_)
  ·exact q0 <| pd (b0,a0) _ ⟨.any,.any,h,by kernel_rfl,o⟩ H
  ·exact qk <| pd (a0,b0) _ ⟨.bool x2,.any,h,by kernel_rfl,o⟩ H
 ·refine q1 <| qc H (fun c2 H=>?_) (fun c2 H=>?_)
  ·exact q0 <| pd (b0,a0) _ ⟨.any,.any,h,by kernel_rfl,o⟩ H
  ·exact qk <| pd (a0,b0) _ ⟨.any,.bool (decide (a0<b0)),h,by kernel_rfl,o⟩ H
end
end Go.Proofs.Ytifafejidnjckaa
namespace Go.Proofs.Ytifafejidnjckaa
open Go Go.R
open Go.IntKind (i64 u64 u8 u32)
def zy:b9:=gW [0,1,4,5,6,7,12,19,29] [] [508,500,436,507,484,356,484,452,196,484,484,502,507] [] []
def eG.l0 (m:Nat)(s0:List Int)(lj:Int→Option (Bool)):Nat→(List Int)→Int→Int→Option ((List Int) × Int × Int)
 | 0,_,_,_=>none
 | k+1,s1,i0,j0=>if (decide (j0<(s0.length:Int)))=true then ((ix s1 j0).bind fun v0=>(lj v0).bind fun r0=>if (!r0)=true then ((ix s1 i0).bind fun v1=>eG.l0 m s0 lj k (s1.set i0.toNat v0) (i64.wrap (i0+(1:Int))) (i64.wrap (j0+(1:Int)))) else (eG.l0 m s0 lj k s1 i0 (i64.wrap (j0+(1:Int))))) else (some ((s1,i0,j0)))
def eG.f (m:Nat)(s0:List Int)(lj:Int→Option (Bool)):Option ((List Int)):=(dp.f m s0 lj).bind fun x0=>if (x0==(-1:Int))=true then (some s0) else ((eG.l0 m s0 lj m s0 x0 (i64.wrap (x0+(1:Int)))).bind fun bM=>match bM with | (s2,i1,j1)=>(MA s2 i1).bind fun v2=>(J0 v2 0 i1).bind fun v3=>some v3)
def eG.fin (L:Mem)(aE:Nat)(s0:List Int)(lj:Int→Option (Bool))(r:(List Int))(s:St):Prop:=aO Try.prog (s.open zy) Try.f57.results.toList=some (.rs aE 0 r.length 1)∧Has s.h ((aE,.sl r.length 1 (af.l r))::L)
def Ut (cf:CallF)(m:Nat):Prop:=∀(s0:List Int) (lj:Int→Option (Bool)) (r:(List Int)),eG.f m s0 lj=some r→∀h L (I6:Nat) (aE:Nat),Has h ((aE,.sl I6 1 (af.l s0))::L)→∀(fH:FuncId) (aX cr:List AV),(aS (.fn fH aX) = .fn fH aX)→(∀(h:AHeap) (xs:List AV) (a0:Int) r,lj a0=some r→aU bR h xs ([.int .i64 a0]++cr)→cf fH xs h=some (.bool r,h))→(∀h K,Has h (K++(L))→aU cM h aX cr)→(∀h,aU cM h cr cr)→∀xs,xs.map aS=[.rs aE 0 I6 1,.fn fH aX]→∃h',cf 57 xs h=some (.rs aE 0 r.length 1,h')∧Has h' ((aE,.sl r.length 1 (af.l r))::L)
section
variable {cf:CallF}{m:Nat}
theorem eG.cQ (L:Mem)(aE:Nat)(fH:FuncId)(aX cr:List AV)(s0:List Int)(lj:Int→Option (Bool))  (rY:aS (.fn fH aX) = .fn fH aX)(ir:∀(h:AHeap) (xs:List AV) (a0:Int) r,lj a0=some r→aU bR h xs ([.int .i64 a0]++cr)→cf fH xs h=some (.bool r,h))(pY:∀h K,Has h (K++(L))→aU cM h aX cr)(iu:∀h,aU cM h cr cr)  : dL Try.prog cf zy m (sub [1,1,1,0,1,0,0] (bZ Try.f57)) (fun k (σ:(List Int) × Int × Int)=>eG.l0 m s0 lj k σ.1 σ.2.1 σ.2.2) (fun σ s=>match σ with | (s1,i0,j0)=>∃h0,s=⟨.rs aE 0 s0.length 1 :: .fn fH aX :: .any :: .int .i64 i0 :: .int .i64 j0::oZ [],[],h0⟩∧Has h0 ((aE,.sl s0.length 1 (af.l s1))::L)) (fun out e s=>(e = .exit 0∧∃s1 i0 j0,(s1,i0,j0)=out∧∃uY Gy QY h0,s=⟨[.rs aE 0 s0.length 1,uY,.any,.int .i64 i0,Gy,.any,.any,QY,.any],[],h0⟩∧Has h0 ((aE,.sl s0.length 1 (af.l s1))::L))):=by
 refine lg (fun _=>rfl) ?_
 rintro k ⟨s1,i0,j0⟩ s out ⟨h0,rfl,o0⟩ H
 have H:eG.l0 m s0 lj (k+1) s1 i0 j0=some out:=H
 refine qq <| qq <| q0 <| qc H (fun c1 H=>?_) (fun c1 H=>?_)
 ·refine qk <| qq <| qb 1 <| qq ?_
  obtain⟨v0,e1,H⟩:=bj H
  refine qr [.v 2 (bp (k:=.i64) (E:=af) (l:=s1) (q:=0) gu o0 rfl e1),.v 3 (di  (E:=af) (l:=s1) (q:=0) o0 rfl A3 e1 rfl)] <| qq ?_
  obtain⟨r0,e2,H⟩:=bj H
  refine qr [.a 2 (ir _ _ _ _ e2 (IZ (ah (aZ) (aw)) (pY h0 [(aE,.sl s0.length 1 (af.l s1))] o0)))] <| qc H (fun c2 H=>?_) (fun c2 H=>?_)
  ·refine qq ?_
   obtain⟨v1,e3,H⟩:=bj H
   obtain⟨h1,e4,o1⟩:=fS (P:=Try.prog) (tf:=3) (E:=af) (l:=s1) (q:=0) (v:=v0) (x:=.int .i64 v0) o0 rfl Z3 e3 rfl rfl
   exact qr [.v 3 (bp (k:=.i64) (E:=af) (l:=s1) (q:=0) gu o0 rfl e3),.w 4 e4] <| q0 <| q0 <| ⟨(s1.set i0.toNat v0,i64.wrap (i0+(1:Int)),i64.wrap (j0+(1:Int))),⟨h1,by kernel_rfl,o1⟩,H⟩
  ·exact qk <| q0 <| ⟨(s1,i0,i64.wrap (j0+(1:Int))),⟨h0,by kernel_rfl,o0⟩,H⟩
 ·exact qx 0 <| ⟨rfl,s1,i0,j0,oi H,.fn fH aX,.int .i64 j0,.bool (decide (j0<(s0.length:Int))),h0,by kernel_rfl,o0⟩
theorem uZ {aY:FuncId→b9}(ha:aY 57=zy)(Lu:QP cf m)(s0:List Int)(lj:Int→Option (Bool))(h:AHeap)(L:Mem)(aE:Nat)(fH:FuncId)(aX cr:List AV)  (rY:aS (.fn fH aX) = .fn fH aX)(ir:∀(h:AHeap) (xs:List AV) (a0:Int) r,lj a0=some r→aU bR h xs ([.int .i64 a0]++cr)→cf fH xs h=some (.bool r,h))(pY:∀h K,Has h (K++(L))→aU cM h aX cr)(iu:∀h,aU cM h cr cr)(o:Has h ((aE,.sl s0.length 1 (af.l s0))::L)){out:(List Int)}(H:eG.f m s0 lj=some out) :
  ∃r h',bf Try.prog aY cf m 57 [.rs aE 0 s0.length 1,.fn fH aX] h=some (r,h')∧r = .rs aE 0 out.length 1∧Has h' ((aE,.sl out.length 1 (af.l out))::L):=by
 refine ar (fn:=Try.f57) ha Try.func57 (by kernel_rfl) (by kernel_rfl) ?_
 refine aH (Q:=fun s=>eG.fin L aE s0 lj out s) (fun _ _ ⟨h1,h2,h3⟩=>⟨h1,_,h2,rfl,h3⟩) ?_
 have H:_=some out:=H
 unfold eG.f at H
 show dK _ cf zy m _ ⟨.rs aE 0 s0.length 1 :: .fn fH aX::En [],[],h⟩ _
 refine q1 <| qq ?_
 obtain⟨x0,e0,H⟩:=bj H
 refine qr [.a 2 (Lu _ _ _ e0 fH cr ir iu h _ (fw (ah (cZ (E:=af) (l:=s0) (q:=0) o rfl (fun _=>rfl)) (ah (rI (pY h [(aE,.sl s0.length 1 (af.l s0))] o)) (aw)))))] <| qq <| qq <| q0 <| qc H (fun c0 H=>?_) (fun c0 H=>?_)
 ·obtain rfl:=oi H
  exact q1 <| qt <| ⟨.inl rfl,⟨by kernel_rfl,he o⟩⟩
 ·refine qk <| qq <| qq <| q0 <| qb 0 ?_
  obtain⟨bM,e5,H⟩:=bj H
  refine ql (eG.cQ L aE fH aX cr s0 lj  rY ir pY iu  (s0,x0,i64.wrap (x0+(1:Int))) _ _ ⟨h,by kernel_rfl,o⟩ e5) ?_
  rintro e s ⟨rfl,s2,i1,j1,rfl,g0,g1,g2,h2,rfl,o2⟩
  try dsimp only at H
  refine qq ?_
  obtain⟨v2,e6,H⟩:=bj H
  obtain⟨h3,e7,o3⟩:=Lg (q:=0) (l:=s2) QC o2 rfl e6
  refine qr [.v 2 (Lf (E:=af) (k:=.i64) (q:=0) (l:=s2) gu o2 rfl (tL e6).1 (tL e6).2.1),.a 3 e7] <| qq ?_
  obtain⟨v3,e8,H⟩:=bj H
  obtain⟨QZ,o4⟩:=KO (P:=Try.prog) (k:=.i64) (E:=af) (q:=0) o3 rfl gu e8
  obtain rfl:=oi H
  exact qr [.v 2 QZ] <| qt <| ⟨.inl rfl,⟨by kernel_rfl,he o4⟩⟩
end
end Go.Proofs.Ytifafejidnjckaa
namespace Go.Proofs.Ytifafejidnjckaa
open Go Go.R
open Go.IntKind (i64 u64 u8 u32)
def CP:b9:=gW [0,1,3] [] [4,3] [] []
def dH.f (m:Nat)(n0:Int)(x0:ab):Option (Bool):=(cE.f m x0 n0).bind fun x1=>some (!x1)
def dH.fin (L:Mem)(r:Bool)(s:St):Prop:=∃av,aO Try.prog (s.open CP) Try.f58.results.toList=some av∧fG s.h av (.bool r)
def Uu (cf:CallF)(m:Nat):Prop:=∀(n0:Int) (x0:ab) (r:Bool),dH.f m n0 x0=some r→∀h xs,aU bR h xs [.int .i64 n0,.fp [.fp [.bool x0.aj,ai.fz x0.aa,af.fz x0.ae] 0] 0]→cf 58 xs h=some (.bool r,h)
section
variable {cf:CallF}{m:Nat}
theorem lk {aY:FuncId→b9}(ha:aY 58=CP)(GI:QH cf m)(n0:Int)(x0:ab)(h:AHeap)(L:Mem)  (o:Has h (L)){out:Bool}(H:dH.f m n0 x0=some out) :
  ∃r h',bf Try.prog aY cf m 58 [.int .i64 n0,.fp [.fp [.bool x0.aj,ai.fz x0.aa,af.fz x0.ae] 0] 0] h=some (r,h')∧fG h' r (.bool out):=by
 refine ar (fn:=Try.f58) ha Try.func58 (by kernel_rfl) (by kernel_rfl) ?_
 refine aH (Q:=fun s=>dH.fin L out s) (fun _ _ h=>h) ?_
 have H:_=some out:=H
 unfold dH.f at H
 show dK _ cf CP m _ ⟨[.int .i64 n0,.fp [.fp [.bool x0.aj,ai.fz x0.aa,af.fz x0.ae] 0] 0,.any],[],h⟩ _
 refine q1 <| qq ?_
 obtain⟨x1,e0,H⟩:=bj H
 obtain rfl:=oi H
 exact qr [.a 2 (GI _ _ _ e0 h _ (fw (ah (fK (pure_cons (cJ) (pure_cons (bQ.bA (E:=ai) (l:=x0.aa)) (pure_cons (bQ.bA (E:=af) (l:=x0.ae)) (pure_nil))))) (ah (aZ) (aw)))))] <| qt <| ⟨.inl rfl,cV (.bool (!x1)) h (cP (az))⟩
end
end Go.Proofs.Ytifafejidnjckaa
namespace Go.Proofs.Ytifafejidnjckaa
open Go Go.R
open Go.IntKind (i64 u64 u8 u32)
def CQ:b9:=gW [0,1,2] [] [4,3] [] []
def dv.f (m:Nat)(x0:ByteArray)(x1:Int):Option (Bool):=(gK.f m x0).bind fun x2=>if x2=true then (some (decide (x1≥(0:Int)))) else (some false)
def dv.fin (L:Mem)(r:Bool)(s:St):Prop:=∃av,aO Try.prog (s.open CQ) Try.f63.results.toList=some av∧fG s.h av (.bool r)
def Uv (cf:CallF)(m:Nat):Prop:=∀(x0:ByteArray) (x1:Int) (r:Bool),dv.f m x0 x1=some r→∀h xs,aU bR h xs [.fp [.str x0] 0,.fp [.int .i64 x1] 0]→cf 63 xs h=some (.bool r,h)
section
variable {cf:CallF}{m:Nat}
theorem lL {aY:FuncId→b9}(ha:aY 63=CQ)(GJ:QI cf m)(x0:ByteArray)(x1:Int)(h:AHeap)(L:Mem)  (o:Has h (L)){out:Bool}(H:dv.f m x0 x1=some out) :
  ∃r h',bf Try.prog aY cf m 63 [.fp [.str x0] 0,.fp [.int .i64 x1] 0] h=some (r,h')∧fG h' r (.bool out):=by
 refine ar (fn:=Try.f63) ha Try.func63 (by kernel_rfl) (by kernel_rfl) ?_
 refine aH (Q:=fun s=>dv.fin L out s) (fun _ _ h=>h) ?_
 have H:_=some out:=H
 unfold dv.f at H
 show dK _ cf CQ m _ ⟨[.fp [.str x0] 0,.fp [.int .i64 x1] 0,.any],[],h⟩ _
 refine q1 <| qq ?_
 obtain⟨x2,e0,H⟩:=bj H
 rcases gS H with⟨c0,H⟩| ⟨c0,H⟩
 ·obtain rfl:=oi H
  exact qr [.a 1 (GJ _ _ e0 h _ (fw (ah (cK) (aw)))),.b 2 c0] <| qt <| ⟨.inl rfl,cV (.bool (decide (x1≥(0:Int)))) h (cP (az))⟩
 ·obtain rfl:=oi H
  exact qr [.a 1 (GJ _ _ e0 h _ (fw (ah (cK) (aw)))),.b 2 c0] <| qt <| ⟨.inl rfl,cV (.bool false) h (cP (az))⟩
end
end Go.Proofs.Ytifafejidnjckaa
namespace Go.Proofs.Ytifafejidnjckaa
open Go Go.R
open Go.IntKind (i64 u64 u8 u32)
def CR:b9:=gW [0,1,4] [] [4,3] [] []
def ib.f (m:Nat)(s0:List ak)(f0:ak→Option (Bool)):Option (Bool):=(fO.f m s0 f0).bind fun x0=>some (decide (x0≥(0:Int)))
def ib.fin (L:Mem)(r:Bool)(s:St):Prop:=∃av,aO Try.prog (s.open CR) Try.f65.results.toList=some av∧fG s.h av (.bool r)
def Uw (cf:CallF)(m:Nat):Prop:=∀(s0:List ak) (f0:ak→Option (Bool)) (r:Bool),ib.f m s0 f0=some r→∀(fH:FuncId) (aX:List AV),(∀(h:AHeap) (xs:List AV) (a0:ak) r,f0 a0=some r→aU bR h xs ([.agg [.int .i64 a0.kind,.int .i64 a0.int,.str a0.label,af.fz a0.args]]++aX)→cf fH xs h=some (.bool r,h))→(∀h,aU cM h aX aX)→∀h xs,aU bR h xs [ai.fz s0,.fn fH aX]→cf 65 xs h=some (.bool r,h)
section
variable {cf:CallF}{m:Nat}
theorem r9 {aY:FuncId→b9}(ha:aY 65=CR)(Q0:Uk cf m)(s0:List ak)(f0:ak→Option (Bool))(h:AHeap)(L:Mem)(fH:FuncId)(aX:List AV)  (ir:∀(h:AHeap) (xs:List AV) (a0:ak) r,f0 a0=some r→aU bR h xs ([.agg [.int .i64 a0.kind,.int .i64 a0.int,.str a0.label,af.fz a0.args]]++aX)→cf fH xs h=some (.bool r,h))(iu:∀h,aU cM h aX aX)(o:Has h (L)){out:Bool}(H:ib.f m s0 f0=some out) :
  ∃r h',bf Try.prog aY cf m 65 [ai.fz s0,.fn fH aX] h=some (r,h')∧fG h' r (.bool out):=by
 refine ar (fn:=Try.f65) ha Try.func65 (by kernel_rfl) (by kernel_rfl) ?_
 refine aH (Q:=fun s=>ib.fin L out s) (fun _ _ h=>h) ?_
 have H:_=some out:=H
 unfold ib.f at H
 show dK _ cf CR m _ ⟨[ai.fz s0,.fn fH aX,.any],[],h⟩ _
 refine q1 <| qq ?_
 obtain⟨x0,e0,H⟩:=bj H
 obtain rfl:=oi H
 exact qr [.a 2 (Q0 _ _ _ e0 fH aX ir iu h _ (fw (ah (dU (E:=ai)) (ah (rI (iu h)) (aw)))))] <| qt <| ⟨.inl rfl,cV (.bool (decide (x0≥(0:Int)))) h (cP (az))⟩
end
end Go.Proofs.Ytifafejidnjckaa
namespace Go.Proofs.Ytifafejidnjckaa
open Go Go.R
open Go.IntKind (i64 u64 u8 u32)
def zz:b9:=gW [0,1,2,6,7,27,29,30,31,37] [] [1016,990,1015,830,574,814,318,1015,830,1015] [] []
def dC.l0 (m:Nat)(s0:ByteArray):Nat→Int→Option (Sum Bool (Int))
 | 0,_=>none
 | k+1,x0=>if (decide (x0<(s0.size:Int)))=true then ((bt s0 x0).bind fun v2=>(gD.f m v2).bind fun x1=>if (!x1)=true then (some (.inl false)) else (dC.l0 m s0 k (i64.wrap (x0+(1:Int))))) else (some (.inr x0))
def dC.f (m:Nat)(s0:ByteArray)(ll:Int)(oJ:Int):Option (Bool):=if (decide ((s0.size:Int)<(1:Int)))=true then (some false) else (if (decide ((s0.size:Int) > (16:Int)))=true then (some false) else ((bt s0 (0:Int)).bind fun v0=>if (decide (v0<ll))=true then (some false) else ((bt s0 (0:Int)).bind fun v1=>if (decide (v1 > oJ))=true then (some false) else ((dC.l0 m s0 m (0:Int)).bind fun bM=>match bM with | .inl r0=>some r0 | .inr x2=>some true))))
def dC.fin (L:Mem)(r:Bool)(s:St):Prop:=∃av,aO Try.prog (s.open zz) Try.f74.results.toList=some av∧fG s.h av (.bool r)
def Ux (cf:CallF)(m:Nat):Prop:=∀(s0:ByteArray) (ll:Int) (oJ:Int) (r:Bool),dC.f m s0 ll oJ=some r→∀h xs,aU bR h xs [.str s0,.int .u8 ll,.int .u8 oJ]→cf 74 xs h=some (.bool r,h)
section
variable {cf:CallF}{m:Nat}
theorem dC.cQ (L:Mem)(s0:ByteArray)  (Lv:QQ cf m):dL Try.prog cf zz m (sub [1,1,0,1,0,0] (bZ Try.f74)) (fun k (σ:Int)=>dC.l0 m s0 k σ) (fun σ s=>match σ with | x0=>∃h0,s=⟨.str s0::Ai [.int .i64 (s0.size:Int),.int .i64 x0,.any,.any],[],h0⟩∧Has h0 (L)) (fun out e s=>(e = .exit 0∧∃x0,.inr x0=out∧∃mP Lw GK Lx h0,s=⟨mP::Ai [Lw,GK,Lx,.any],[],h0⟩∧Has h0 (L))∨(e = .ret∧∃r,.inl r=out∧dC.fin L r s)):=by
 refine lg (fun _=>rfl) ?_
 rintro k x0 s out ⟨h0,rfl,o0⟩ H
 have H:dC.l0 m s0 (k+1) x0=some out:=H
 refine q1 <| qq <| qc H (fun c7 H=>?_) (fun c7 H=>?_)
 ·refine qk <| qq <| qb 1 <| qq <| q0 <| qq ?_
  obtain⟨v2,e2,H⟩:=bj H
  obtain⟨x1,e3,H⟩:=bj H
  refine qr [.v 2 (xb (k:=.i64) U9 e2),.a 3 (Lv _ _ e3 h0 _ (fw (ah (aZ) (aw))))] <| qc H (fun c8 H=>?_) (fun c8 H=>?_)
  ·exact q1 <| qt <| Or.inr (⟨rfl,_,oi H,cV (.bool false) h0 (cP (az))⟩)
  ·exact qk <| q0 <| ⟨i64.wrap (x0+(1:Int)),⟨h0,by kernel_rfl,o0⟩,H⟩
 ·exact qx 0 <| Or.inl (⟨rfl,x0,oi H,.str s0,.int .i64 (s0.size:Int),.int .i64 x0,.bool (decide (x0<(s0.size:Int))),h0,by kernel_rfl,o0⟩)
theorem tT {aY:FuncId→b9}(ha:aY 74=zz)(Lv:QQ cf m)(s0:ByteArray)(ll:Int)(oJ:Int)(h:AHeap)(L:Mem)  (o:Has h (L)){out:Bool}(H:dC.f m s0 ll oJ=some out) :
  ∃r h',bf Try.prog aY cf m 74 [.str s0,.int .u8 ll,.int .u8 oJ] h=some (r,h')∧fG h' r (.bool out):=by
 refine ar (fn:=Try.f74) ha Try.func74 (by kernel_rfl) (by kernel_rfl) ?_
 refine aH (Q:=fun s=>dC.fin L out s) (fun _ _ h=>h) ?_
 have H:_=some out:=H
 unfold dC.f at H
 show dK _ cf zz m _ ⟨.str s0 :: .int .u8 ll :: .int .u8 oJ::En [],[],h⟩ _
 refine q1 <| qq <| qq ?_
 rcases gS H with⟨c0,H⟩| ⟨c0,H⟩
 ·obtain rfl:=oi H
  exact qr [.b 3 c0] <| za <| qq <| q0 <| qt <| ⟨.inl rfl,cV (.bool false) h (cP (az))⟩
 ·rcases gS H with⟨c2,H⟩| ⟨c2,H⟩
  ·obtain rfl:=oi H
   exact qr [.b 3 c0,.b 8 c2] <| za <| qq <| q0 <| qt <| ⟨.inl rfl,cV (.bool false) h (cP (az))⟩
  ·obtain⟨v0,e0,H⟩:=bj H
   rcases gS H with⟨c4,H⟩| ⟨c4,H⟩
   ·obtain rfl:=oi H
    exact qr [.b 3 c0,.b 8 c2,.v 10 (xb (k:=.i64) U9 e0),.b 14 c4] <| za <| qq <| q0 <| qt <| ⟨.inl rfl,cV (.bool false) h (cP (az))⟩
   ·obtain⟨v1,e1,H⟩:=bj H
    refine qr [.b 3 c0,.b 8 c2,.v 10 (xb (k:=.i64) U9 e0),.b 14 c4,.v 16 (xb (k:=.i64) U9 e1)] <| qc H (fun c6 H=>?_) (fun c6 H=>?_)
    ·obtain rfl:=oi H
     exact q1 <| qt <| ⟨.inl rfl,cV (.bool false) h (cP (az))⟩
    ·refine qk <| qq <| qq <| q0 <| qb 0 ?_
     obtain⟨bM,e4,H⟩:=bj H
     refine ql (dC.cQ L s0  Lv (0:Int) _ _ ⟨h,by kernel_rfl,o⟩ e4) ?_
     rintro e s (⟨rfl,x2,rfl,g0,g1,g2,g3,h1,rfl,o1⟩| ⟨rfl,r0,rfl,uX⟩)
     ·try dsimp only at H
      obtain rfl:=oi H
      exact q1 <| qt <| ⟨.inl rfl,cV (.bool true) h1 (cP (az))⟩
     ·try dsimp only at H
      obtain rfl:=oi H
      exact⟨.inl rfl,uX⟩
end
end Go.Proofs.Ytifafejidnjckaa
namespace Go.Proofs.Ytifafejidnjckaa
open Go Go.R
open Go.IntKind (i64 u64 u8 u32)
end Go.Proofs.Ytifafejidnjckaa
namespace Go.Proofs.Ytifafejidnjckaa
open Go Go.R
open Go.IntKind (i64 u64 u8 u32)
def CS:b9:=gW [0,1,4,5,6,11,12,13,16,19] [] [1020,1012,996,972,959,1019,1019,892,1019,764,1019,511,1019,1019] [] []
def dy.f (m:Nat)(x0:Int)(y0:Int):Option (Int):=(cmp_isNaN_int.f m x0).bind fun x1=>(cmp_isNaN_int.f m y0).bind fun x2=>if x1=true then (if x2=true then (some (0:Int)) else (some (-1:Int))) else (if x2=true then (some (1:Int)) else (if (decide (x0<y0))=true then (some (-1:Int)) else (if (decide (x0 > y0))=true then (some (1:Int)) else (some (0:Int)))))
def dy.fin (L:Mem)(r:Int)(s:St):Prop:=∃av,aO Try.prog (s.open CS) Try.f80.results.toList=some av∧fG s.h av (.int .i64 r)
def Uy (cf:CallF)(m:Nat):Prop:=∀(x0:Int) (y0:Int) (r:Int),dy.f m x0 y0=some r→∀h xs,aU bR h xs [.int .i64 x0,.int .i64 y0]→cf 80 xs h=some (.int .i64 r,h)
section
variable {cf:CallF}{m:Nat}
theorem nM {aY:FuncId→b9}(ha:aY 80=CS)(NV:Un cf m)(x0:Int)(y0:Int)(h:AHeap)(L:Mem)  (o:Has h (L)){out:Int}(H:dy.f m x0 y0=some out) :
  ∃r h',bf Try.prog aY cf m 80 [.int .i64 x0,.int .i64 y0] h=some (r,h')∧fG h' r (.int .i64 out):=by
 refine ar (fn:=Try.f80) ha Try.func80 (by kernel_rfl) (by kernel_rfl) ?_
 refine aH (Q:=fun s=>dy.fin L out s) (fun _ _ h=>h) ?_
 have H:_=some out:=H
 unfold dy.f at H
 show dK _ cf CS m _ ⟨.int .i64 x0 :: .int .i64 y0::xf [],[],h⟩ _
 refine q1 <| qq ?_
 obtain⟨x1,e0,H⟩:=bj H
 refine qr [.a 1 (NV _ _ e0 h _ (fw (ah (aZ) (aw))))] <| qq ?_
 obtain⟨x2,e1,H⟩:=bj H
 refine qr [.a 1 (NV _ _ e1 h _ (fw (ah (aZ) (aw))))] <| qq <| qq <| q0 <| qc H (fun c0 H=>?_) (fun c0 H=>?_)
 ·refine qq <| qq <| q0 <| qc H (fun c1 H=>?_) (fun c1 H=>?_)
  ·obtain rfl:=oi H
   exact q1 <| qt <| ⟨.inl rfl,cV (.int .i64 (0:Int)) h (cP (dr))⟩
  ·obtain rfl:=oi H
   exact qk <| qq <| q0 <| qt <| ⟨.inl rfl,cV (.int .i64 (-1:Int)) h (cP (dr))⟩
 ·refine qk <| qq <| qq <| q0 <| qc H (fun c2 H=>?_) (fun c2 H=>?_)
  ·obtain rfl:=oi H
   exact q1 <| qt <| ⟨.inl rfl,cV (.int .i64 (1:Int)) h (cP (dr))⟩
  ·refine qk <| qq <| qq <| q0 <| qc H (fun c3 H=>?_) (fun c3 H=>?_)
   ·obtain rfl:=oi H
    exact q1 <| qt <| ⟨.inl rfl,cV (.int .i64 (-1:Int)) h (cP (dr))⟩
   ·refine qk <| qq <| qq <| q0 <| qc H (fun c4 H=>?_) (fun c4 H=>?_)
    ·obtain rfl:=oi H
     exact q1 <| qt <| ⟨.inl rfl,cV (.int .i64 (1:Int)) h (cP (dr))⟩
    ·obtain rfl:=oi H
     exact qk <| qq <| q0 <| qt <| ⟨.inl rfl,cV (.int .i64 (0:Int)) h (cP (dr))⟩
end
end Go.Proofs.Ytifafejidnjckaa
namespace Go.Proofs.Ytifafejidnjckaa
open Go Go.R
open Go.IntKind (i64 u64 u8 u32)
def CT:b9:=gW [0,1,4,5,6,11,12,13,16,19] [] [1020,1012,996,972,959,1019,1019,892,1019,764,1019,511,1019,1019] [] []
def cL.f (m:Nat)(x0:ByteArray)(y0:ByteArray):Option (Int):=(cmp_isNaN_string.f m x0).bind fun x1=>(cmp_isNaN_string.f m y0).bind fun x2=>if x1=true then (if x2=true then (some (0:Int)) else (some (-1:Int))) else (if x2=true then (some (1:Int)) else (if (Op.bytesLess x0.data.toList y0.data.toList)=true then (some (-1:Int)) else (if (!Ga x0 y0)=true then (some (1:Int)) else (some (0:Int)))))
def cL.fin (L:Mem)(r:Int)(s:St):Prop:=∃av,aO Try.prog (s.open CT) Try.f82.results.toList=some av∧fG s.h av (.int .i64 r)
def Uz (cf:CallF)(m:Nat):Prop:=∀(x0:ByteArray) (y0:ByteArray) (r:Int),cL.f m x0 y0=some r→∀h xs,aU bR h xs [.str x0,.str y0]→cf 82 xs h=some (.int .i64 r,h)
section
variable {cf:CallF}{m:Nat}
theorem lM {aY:FuncId→b9}(ha:aY 82=CT)(NW:Uo cf m)(x0:ByteArray)(y0:ByteArray)(h:AHeap)(L:Mem)  (o:Has h (L)){out:Int}(H:cL.f m x0 y0=some out) :
  ∃r h',bf Try.prog aY cf m 82 [.str x0,.str y0] h=some (r,h')∧fG h' r (.int .i64 out):=by
 refine ar (fn:=Try.f82) ha Try.func82 (by kernel_rfl) (by kernel_rfl) ?_
 refine aH (Q:=fun s=>cL.fin L out s) (fun _ _ h=>h) ?_
 have H:_=some out:=H
 unfold cL.f at H
 show dK _ cf CT m _ ⟨.str x0 :: .str y0::xf [],[],h⟩ _
 refine q1 <| qq ?_
 obtain⟨x1,e0,H⟩:=bj H
 refine qr [.a 1 (NW _ _ e0 h _ (fw (ah (cK) (aw))))] <| qq ?_
 obtain⟨x2,e1,H⟩:=bj H
 refine qr [.a 1 (NW _ _ e1 h _ (fw (ah (cK) (aw))))] <| qq <| qq <| q0 <| qc H (fun c0 H=>?_) (fun c0 H=>?_)
 ·refine qq <| qq <| q0 <| qc H (fun c1 H=>?_) (fun c1 H=>?_)
  ·obtain rfl:=oi H
   exact q1 <| qt <| ⟨.inl rfl,cV (.int .i64 (0:Int)) h (cP (dr))⟩
  ·obtain rfl:=oi H
   exact qk <| qq <| q0 <| qt <| ⟨.inl rfl,cV (.int .i64 (-1:Int)) h (cP (dr))⟩
 ·refine qk <| qq <| qq <| q0 <| qc H (fun c2 H=>?_) (fun c2 H=>?_)
  ·obtain rfl:=oi H
   exact q1 <| qt <| ⟨.inl rfl,cV (.int .i64 (1:Int)) h (cP (dr))⟩
  ·refine qk <| qq <| qq <| q0 <| qc H (fun c3 H=>?_) (fun c3 H=>?_)
   ·obtain rfl:=oi H
    exact q1 <| qt <| ⟨.inl rfl,cV (.int .i64 (-1:Int)) h (cP (dr))⟩
   ·refine qk <| qq <| qq <| q0 <| qc H (fun c4 H=>?_) (fun c4 H=>?_)
    ·obtain rfl:=oi H
     exact q1 <| qt <| ⟨.inl rfl,cV (.int .i64 (1:Int)) h (cP (dr))⟩
    ·obtain rfl:=oi H
     exact qk <| qq <| q0 <| qt <| ⟨.inl rfl,cV (.int .i64 (0:Int)) h (cP (dr))⟩
end
end Go.Proofs.Ytifafejidnjckaa
namespace Go.Proofs.Ytifafejidnjckaa
open Go Go.R
open Go.IntKind (i64 u64 u8 u32)
end Go.Proofs.Ytifafejidnjckaa
namespace Go.Proofs.Ytifafejidnjckaa
open Go Go.R
open Go.IntKind (i64 u64 u8 u32)
end Go.Proofs.Ytifafejidnjckaa
namespace Go.Proofs.Ytifafejidnjckaa
open Go Go.R
open Go.IntKind (i64 u64 u8 u32)
end Go.Proofs.Ytifafejidnjckaa
namespace Go.Proofs.Ytifafejidnjckaa
open Go Go.R
open Go.IntKind (i64 u64 u8 u32)
end Go.Proofs.Ytifafejidnjckaa
namespace Go.Proofs.Ytifafejidnjckaa
open Go Go.R
open Go.IntKind (i64 u64 u8 u32)
end Go.Proofs.Ytifafejidnjckaa
namespace Go.Proofs.Ytifafejidnjckaa
open Go Go.R
open Go.IntKind (i64 u64 u8 u32)
end Go.Proofs.Ytifafejidnjckaa
namespace Go.Proofs.Ytifafejidnjckaa
open Go Go.R
open Go.IntKind (i64 u64 u8 u32)
def tU:b9:=gW [0,1,2,3,4,10,11,20,23] [] [450,394,266,138,394,394,394,394,511] [] []
def fP.l0 (m:Nat)(m0:Int)(a7:Int→Int→Option (Int)):Nat→(List Int)→Int→Int→Option ((List Int) × Int × Int)
 | 0,_,_,_=>none
 | k+1,bF,i0,j0=>if (!(i0==j0))=true then (if (decide (i0 > j0))=true then ((ck.f m bF (i64.wrap (m0 - i0)) m0 j0 a7).bind fun x0=>fP.l0 m m0 a7 k x0 (i64.wrap (i0 - j0)) j0) else ((ck.f m bF (i64.wrap (m0 - i0)) (i64.wrap (i64.wrap (m0+j0) - i0)) i0 a7).bind fun x1=>fP.l0 m m0 a7 k x1 i0 (i64.wrap (j0 - i0)))) else (some ((bF,i0,j0)))
def fP.f (m:Nat)(ax:List Int)(a0:Int)(m0:Int)(b0:Int)(a7:Int→Int→Option (Int)):Option ((List Int)):=(fP.l0 m m0 a7 m ax (i64.wrap (m0 - a0)) (i64.wrap (b0 - m0))).bind fun bM=>match bM with | (dP,i1,j1)=>(ck.f m dP (i64.wrap (m0 - i1)) m0 i1 a7).bind fun x2=>some x2
def fP.fin (L:Mem)(aE:Nat)(ax:List Int)(a0:Int)(m0:Int)(b0:Int)(a7:Int→Int→Option (Int))(r:(List Int))(s:St):Prop:=aO Try.prog (s.open tU) Try.f108.results.toList=some (.tup [])∧Has s.h ((aE,.sl ax.length 1 (af.l r))::L)
def NX (cf:CallF)(m:Nat):Prop:=∀(ax:List Int) (a0:Int) (m0:Int) (b0:Int) (a7:Int→Int→Option (Int)) (r:(List Int)),fP.f m ax a0 m0 b0 a7=some r→∀h L (cX:Nat) (aE:Nat),Has h ((aE,.sl cX 1 (af.l ax))::L)→∀(fI:FuncId) (bn ba:List AV),(aS (.fn fI bn) = .fn fI bn)→(∀(h:AHeap) (xs:List AV) (a0:Int) (a1:Int) r,a7 a0 a1=some r→aU bR h xs ([.int .i64 a0,.int .i64 a1]++ba)→cf fI xs h=some (.int .i64 r,h))→(∀h K,Has h (K++(L))→aU cM h bn ba)→(∀h,aU cM h ba ba)→∀xs,xs.map aS=[.rs aE 0 cX 1,.int .i64 a0,.int .i64 m0,.int .i64 b0,.fn fI bn]→∃h',cf 108 xs h=some (.tup [],h')∧Has h' ((aE,.sl cX 1 (af.l r))::L)
section
variable {cf:CallF}{m:Nat}
theorem fP.cQ (L:Mem)(aE:Nat)(fI:FuncId)(bn ba:List AV)(ax:List Int)(a0:Int)(m0:Int)(b0:Int)(a7:Int→Int→Option (Int))  (ia:aS (.fn fI bn) = .fn fI bn)(iI:∀(h:AHeap) (xs:List AV) (a0:Int) (a1:Int) r,a7 a0 a1=some r→aU bR h xs ([.int .i64 a0,.int .i64 a1]++ba)→cf fI xs h=some (.int .i64 r,h))(iJ:∀h K,Has h (K++(L))→aU cM h bn ba)(jh:∀h,aU cM h ba ba)(zA:Lr cf m):dL Try.prog cf tU m (sub [1,1,0,0,0] (bZ Try.f108)) (fun k (σ:(List Int) × Int × Int)=>fP.l0 m m0 a7 k σ.1 σ.2.1 σ.2.2) (fun σ s=>match σ with | (bF,i0,j0)=>∃h0,s=⟨[.rs aE 0 ax.length 1,.any,.int .i64 m0,.any,.fn fI bn,.int .i64 i0,.int .i64 j0,.any,.any],[],h0⟩∧Has h0 ((aE,.sl ax.length 1 (af.l bF))::L)) (fun out e s=>(e = .exit 0∧∃bF i0 j0,(bF,i0,j0)=out∧∃GL Ls h0,s=⟨[.rs aE 0 ax.length 1,.any,.int .i64 m0,.any,.fn fI bn,.int .i64 i0,GL,Ls,.any],[],h0⟩∧Has h0 ((aE,.sl ax.length 1 (af.l bF))::L))):=by
 refine lg (fun _=>rfl) ?_
 rintro k ⟨bF,i0,j0⟩ s out ⟨h0,rfl,o0⟩ H
 have H:fP.l0 m m0 a7 (k+1) bF i0 j0=some out:=H
 refine qq <| qq <| q0 <| qc H (fun c0 H=>?_) (fun c0 H=>?_)
 ·refine qk <| qb 1 <| qq <| q0 <| qc H (fun c1 H=>?_) (fun c1 H=>?_)
  ·refine qq ?_
   obtain⟨x0,e0,H⟩:=bj H
   obtain⟨h1,e1,o1⟩:=zA _ _ _ _ _ _ e0 h0 _ _ _ (o0) fI bn ba ia iI (fun h' K' o'=>iJ h' (K'++[]) (by simpa only [ZV,aak,aal] using o')) jh [.rs aE 0 ax.length 1,.int .i64 (i64.wrap (m0 - i0)),.int .i64 m0,.int .i64 j0,.fn fI bn] (au (rfl) (au (aP (bm)) (au (aP (bm)) (au (aP (bm)) (au (ia) (bN))))))
   exact qr [.a 7 e1] <| q0 <| ⟨(x0,i64.wrap (i0 - j0),j0),⟨h1,by kernel_rfl,o1⟩,H⟩
  ·refine qq ?_
   obtain⟨x1,e2,H⟩:=bj H
   obtain⟨h2,e3,o2⟩:=zA _ _ _ _ _ _ e2 h0 _ _ _ (o0) fI bn ba ia iI (fun h' K' o'=>iJ h' (K'++[]) (by simpa only [ZV,aak,aal] using o')) jh [.rs aE 0 ax.length 1,.int .i64 (i64.wrap (m0 - i0)),.int .i64 (i64.wrap (i64.wrap (m0+j0) - i0)),.int .i64 i0,.fn fI bn] (au (rfl) (au (aP (bm)) (au (aP (bm)) (au (aP (bm)) (au (ia) (bN))))))
   exact qr [.a 11 e3] <| q0 <| ⟨(x1,i0,i64.wrap (j0 - i0)),⟨h2,by kernel_rfl,o2⟩,H⟩
 ·exact qx 0 <| ⟨rfl,bF,i0,j0,oi H,.int .i64 j0,.bool (!(i0==j0)),h0,by kernel_rfl,o0⟩
theorem xB {aY:FuncId→b9}(ha:aY 108=tU)(zA:Lr cf m)(ax:List Int)(a0:Int)(m0:Int)(b0:Int)(a7:Int→Int→Option (Int))(h:AHeap)(L:Mem)(aE:Nat)(fI:FuncId)(bn ba:List AV)  (ia:aS (.fn fI bn) = .fn fI bn)(iI:∀(h:AHeap) (xs:List AV) (a0:Int) (a1:Int) r,a7 a0 a1=some r→aU bR h xs ([.int .i64 a0,.int .i64 a1]++ba)→cf fI xs h=some (.int .i64 r,h))(iJ:∀h K,Has h (K++(L))→aU cM h bn ba)(jh:∀h,aU cM h ba ba)(o:Has h ((aE,.sl ax.length 1 (af.l ax))::L)){out:(List Int)}(H:fP.f m ax a0 m0 b0 a7=some out) :
  ∃r h',bf Try.prog aY cf m 108 [.rs aE 0 ax.length 1,.int .i64 a0,.int .i64 m0,.int .i64 b0,.fn fI bn] h=some (r,h')∧r = .tup []∧Has h' ((aE,.sl ax.length 1 (af.l out))::L):=by
 refine ar (fn:=Try.f108) ha Try.func108 (by kernel_rfl) (by kernel_rfl) ?_
 refine aH (Q:=fun s=>fP.fin L aE ax a0 m0 b0 a7 out s) (fun _ _ ⟨h1,h2,h3⟩=>⟨h1,_,h2,rfl,h3⟩) ?_
 have H:_=some out:=H
 unfold fP.f at H
 show dK _ cf tU m _ ⟨.rs aE 0 ax.length 1 :: .int .i64 a0 :: .int .i64 m0 :: .int .i64 b0 :: .fn fI bn::oZ [],[],h⟩ _
 refine q1 <| qq <| q0 <| qq <| qb 0 ?_
 obtain⟨bM,e4,H⟩:=bj H
 refine ql (fP.cQ L aE fI bn ba ax a0 m0 b0 a7  ia iI iJ jh zA (ax,i64.wrap (m0 - a0),i64.wrap (b0 - m0)) _ _ ⟨h,by kernel_rfl,o⟩ e4) ?_
 rintro e s ⟨rfl,dP,i1,j1,rfl,g0,g1,h3,rfl,o3⟩
 try dsimp only at H
 obtain⟨x2,e5,H⟩:=bj H
 obtain⟨h4,e6,o4⟩:=zA _ _ _ _ _ _ e5 h3 _ _ _ (o3) fI bn ba ia iI (fun h' K' o'=>iJ h' (K'++[]) (by simpa only [ZV,aak,aal] using o')) jh [.rs aE 0 ax.length 1,.int .i64 (i64.wrap (m0 - i1)),.int .i64 m0,.int .i64 i1,.fn fI bn] (au (rfl) (au (aP (bm)) (au (aP (bm)) (au (aP (bm)) (au (ia) (bN))))))
 obtain rfl:=oi H
 exact qr [.a 7 e6] <| ⟨.inr rfl,⟨by kernel_rfl,he o4⟩⟩
end
end Go.Proofs.Ytifafejidnjckaa
namespace Go.Proofs.Ytifafejidnjckaa
open Go Go.R
open Go.IntKind (i64 u64 u8 u32)
def CU:b9:=gW [0,1,2,4,5,9] [] [57,41,55,31,55,55] [] []
def b5.f (m:Nat)(s0:ab)(l0:List Int):Option (Int):=(bO.f m s0).bind fun x0=>if (!x0)=true then (some (6:Int)) else ((fu.f m l0 (fun y0=>dG.f m y0 s0)).bind fun x1=>if x1=true then (some (1:Int)) else (some (0:Int)))
def b5.fin (L:Mem)(r:Int)(s:St):Prop:=∃av,aO Try.prog (s.open CU) Try.f30.results.toList=some av∧fG s.h av (.int .i64 r)
def NY (cf:CallF)(m:Nat):Prop:=∀(s0:ab) (l0:List Int) (r:Int),b5.f m s0 l0=some r→∀h xs,aU bR h xs [.fp [.bool s0.aj,ai.fz s0.aa,af.fz s0.ae] 0,af.fz l0]→cf 30 xs h=some (.int .i64 r,h)
section
variable {cf:CallF}{m:Nat}
theorem mz {aY:FuncId→b9}(ha:aY 30=CU)(xt:MB cf m)(GM:Pb cf m)(Q8:Us cf m)(s0:ab)(l0:List Int)(h:AHeap)(L:Mem)  (o:Has h (L)){out:Int}(H:b5.f m s0 l0=some out) :
  ∃r h',bf Try.prog aY cf m 30 [.fp [.bool s0.aj,ai.fz s0.aa,af.fz s0.ae] 0,af.fz l0] h=some (r,h')∧fG h' r (.int .i64 out):=by
 refine ar (fn:=Try.f30) ha Try.func30 (by kernel_rfl) (by kernel_rfl) ?_
 refine aH (Q:=fun s=>b5.fin L out s) (fun _ _ h=>h) ?_
 have H:_=some out:=H
 unfold b5.f at H
 show dK _ cf CU m _ ⟨.fp [.bool s0.aj,ai.fz s0.aa,af.fz s0.ae] 0::af.fz l0::oZ [],[],h⟩ _
 refine qq ?_
 obtain⟨aE,h0,e0,o0⟩:=gJ (cs:=[.fp [.bool s0.aj,ai.fz s0.aa,af.fz s0.ae] 0]) o (by kernel_rfl)
 refine qr [.a 0 e0] <| qq <| qb 0 <| qq ?_
 obtain⟨x0,e1,H⟩:=bj H
 refine qr [.v 0 (show bE Try.prog h0 28 (.ptr aE 0)=some (.fp [.bool s0.aj,ai.fz s0.aa,af.fz s0.ae] 0) from cq (q:=0) (cs:=[.fp [.bool s0.aj,ai.fz s0.aa,af.fz s0.ae] 0]) o0 rfl (by kernel_rfl)),.a 1 (xt _ _ e1 h0 _ (fw (ah (fK (pure_cons (cJ) (pure_cons (bQ.bA (E:=ai) (l:=s0.aa)) (pure_cons (bQ.bA (E:=af) (l:=s0.ae)) (pure_nil))))) (aw))))] <| qc H (fun c0 H=>?_) (fun c0 H=>?_)
 ·refine q1 ?_
  have o1:Has h0 (L):=Has.del o0 0
  obtain rfl:=oi H
  exact qt <| ⟨.inl rfl,cV (.int .i64 (6:Int)) h0 (cP (dr))⟩
 ·refine qq ?_
  obtain⟨x1,e2,H⟩:=bj H
  refine qr [.a 2 (GM _ _ _ e2 53 [.fp [.fp [.bool s0.aj,ai.fz s0.aa,af.fz s0.ae] 0] 0] (fun h' tS y0 r hr hx=>Q8 y0 _ r hr h' tS hx) (fun h_=>jf (ah (fK (pure_cons (ml (pure_cons (cJ) (pure_cons (bQ.bA (E:=ai) (l:=s0.aa)) (pure_cons (bQ.bA (E:=af) (l:=s0.ae)) (pure_nil))))) (pure_nil))) (aw))) h0 _ (fw (ah (dU (E:=af)) (ah (rI (ah (ez (q:=0) o0 rfl (ah (fK (pure_cons (cJ) (pure_cons (bQ.bA (E:=ai) (l:=s0.aa)) (pure_cons (bQ.bA (E:=af) (l:=s0.ae)) (pure_nil))))) (aw))) (aw))) (aw)))))] ?_
  have o2:Has h0 (L):=Has.del o0 0
  refine qc H (fun c1 H=>?_) (fun c1 H=>?_)
  ·obtain rfl:=oi H
   exact q1 <| qt <| ⟨.inl rfl,cV (.int .i64 (1:Int)) h0 (cP (dr))⟩
  ·obtain rfl:=oi H
   exact qk <| qq <| q0 <| qt <| ⟨.inl rfl,cV (.int .i64 (0:Int)) h0 (cP (dr))⟩
end
end Go.Proofs.Ytifafejidnjckaa
namespace Go.Proofs.Ytifafejidnjckaa
open Go Go.R
open Go.IntKind (i64 u64 u8 u32)
def vN:b9:=gW [0,1,2,6,7,8,9,10,11,12,13,14,22,46,70,73,77,78,79] [11,12,13,18] [524280,524248,524190,524062,519966,524062,523806,515614,522270,505886,489502,524263,325662,63518,323614,325662,325662,524062,524263] [] [(1,[(8,none,1)])]
def aB.l1 (m:Nat)(v2:ak)(v3:ak):Nat→(List bo)→Int→ab→Option ((List bo) × Int × ab)
 | 0,_,_,_=>none
 | k+1,kB,x3,s2=>if (decide (x3<(v2.args.length:Int)))=true then ((ix v2.args x3).bind fun v4=>(ix v3.args x3).bind fun v5=>(app 16 kB ([(bo.mk v4 v5)])).bind fun x4=>aB.l1 m v2 v3 k x4 (i64.wrap (x3+(1:Int))) s2) else (some ((kB,x3,s2)))
def aB.l0 (m:Nat)  : Nat→(List Int)→(List bo)→Int→ab→Option (Sum ((List Int) × Bool × ab) ((List Int) × (List bo) × Int × ab))
 | 0,_,_,_,_=>none
 | k+1,aJ,fY,k0,s1=>if (decide (k0<(fY.length:Int)))=true then ((ix fY k0).bind fun v0=>(bh.f m s1 v0.kK).bind fun x0=>(ix fY k0).bind fun v1=>(bh.f m s1 v1.lX).bind fun x1=>if ((x0==x0)&&(x1==x0))=true then (aB.l0 m k aJ fY (i64.wrap (k0+(1:Int))) s1) else ((ix s1.aa x0).bind fun v2=>(ix s1.aa x1).bind fun v3=>if (!(v2.kind==(0:Int)))=true then (if (!(v3.kind==(0:Int)))=true then ((fX.f m v2 v3).bind fun x2=>if x2=true then (some (.inl (aJ,false,s1))) else ((aB.l1 m v2 v3 m fY (0:Int) s1).bind fun bM=>match bM with | (GN,x5,s3)=>(cY.f m s3 x0 x1).bind fun x6=>(app 8 aJ ([x6.1])).bind fun x7=>aB.l0 m k x7 GN (i64.wrap (k0+(1:Int))) x6.2)) else ((cY.f m s1 x0 x1).bind fun x8=>(app 8 aJ ([x8.1])).bind fun x9=>aB.l0 m k x9 fY (i64.wrap (k0+(1:Int))) x8.2)) else ((cY.f m s1 x0 x1).bind fun cb=>(app 8 aJ ([cb.1])).bind fun zr=>aB.l0 m k zr fY (i64.wrap (k0+(1:Int))) cb.2))) else (some (.inr (aJ,fY,k0,s1)))
def aB.f (m:Nat)(s0:ab)(a0:Int)(b0:Int):Option ((List Int) × Bool × ab):=(aB.l0 m m ([]:List Int) ([(bo.mk a0 b0)]) (0:Int) s0).bind fun cD=>match cD with | .inl r0=>some r0 | .inr (p5,NZ,k1,s4)=>some (p5,true,s4)
def aB.fin (L:Mem)(aq:Nat)(an:Nat)(ao:Nat)(s0:ab)(a0:Int)(b0:Int)(r:(List Int) × Bool × ab)(s:St):Prop:=∃dw aC aD:Nat,aO Try.prog (s.open vN) Try.f31.results.toList=some (.tup [.rs dw 0 r.1.length 1,.bool r.2.1])∧Has s.h ((dw,.sl r.1.length 1 (af.l r.1))::(aq,.ob [.bool r.2.2.aj,.rs aC 0 r.2.2.aa.length 4,.rs aD 0 r.2.2.ae.length 1])::(aC,.sl r.2.2.aa.length 4 (ai.l r.2.2.aa))::(aD,.sl r.2.2.ae.length 1 (af.l r.2.2.ae))::L)
def Ra (cf:CallF)(m:Nat):Prop:=∀(s0:ab) (a0:Int) (b0:Int) (r:(List Int) × Bool × ab),aB.f m s0 a0 b0=some r→∀h L (aq:Nat) (an:Nat) (ao:Nat),Has h ((aq,.ob [.bool s0.aj,.rs an 0 s0.aa.length 4,.rs ao 0 s0.ae.length 1])::(an,.sl s0.aa.length 4 (ai.l s0.aa))::(ao,.sl s0.ae.length 1 (af.l s0.ae))::L)→∀xs,xs.map aS=[.ptr aq 0,.int .i64 a0,.int .i64 b0]→∃dw aC aD h',cf 31 xs h=some (.tup [.rs dw 0 r.1.length 1,.bool r.2.1],h')∧Has h' ((dw,.sl r.1.length 1 (af.l r.1))::(aq,.ob [.bool r.2.2.aj,.rs aC 0 r.2.2.aa.length 4,.rs aD 0 r.2.2.ae.length 1])::(aC,.sl r.2.2.aa.length 4 (ai.l r.2.2.aa))::(aD,.sl r.2.2.ae.length 1 (af.l r.2.2.ae))::L)
section
variable {cf:CallF}{m:Nat}
theorem aB.kz (L:Mem)(aq:Nat)(an:Nat)(ao:Nat)(s0:ab)(a0:Int)(b0:Int)(cy:Nat)(aJ:List Int)(k0:Int)(cy:Nat)(x0:Int)(x1:Int)(v2:ak)(v3:ak)   : dL Try.prog cf vN m (sub [1,1,1,0,1,0,0,1,0,0,1,1,1,0,1,0,1,1,0,0] (bZ Try.f31)) (fun k (σ:(List bo) × Int × ab)=>aB.l1 m v2 v3 k σ.1 σ.2.1 σ.2.2) (fun σ s=>match σ with | (kB,x3,s2)=>∃ff gT fi h2,s=⟨.ptr aq 0::oZ (.rs cy 0 aJ.length 1 :: .rs ff 0 kB.length 2 :: .int .i64 k0 :: .lp 11 0 :: .lp 12 0 :: .lp 13 0::Ai [.int .i64 (v2.args.length:Int),.int .i64 x3,.any]),[some [.int .i64 x0,.int .i64 x1],some [.int .i64 v2.kind,.int .i64 v2.int,.str v2.label,af.fz v2.args],some [.int .i64 v3.kind,.int .i64 v3.int,.str v3.label,af.fz v3.args],none],h2⟩∧Has h2 ((ff,.sl kB.length 2 (eB.l kB))::(cy,.sl aJ.length 1 (af.l aJ))::(aq,.ob [.bool s2.aj,.rs gT 0 s2.aa.length 4,.rs fi 0 s2.ae.length 1])::(gT,.sl s2.aa.length 4 (ai.l s2.aa))::(fi,.sl s2.ae.length 1 (af.l s2.ae))::L)) (fun out e s=>(e = .exit 2∧∃kB x3 s2,(kB,x3,s2)=out∧∃Ln tO Rb Rc Re Rf Rh ff gT fi h2,s=⟨.ptr aq 0::oZ (.rs cy 0 aJ.length 1 :: .rs ff 0 kB.length 2 :: .int .i64 k0 :: .lp 11 0::Ln::tO::Ai [Rb,Rc,Re]),[some [.int .i64 x0,.int .i64 x1],Rf,Rh,none],h2⟩∧Has h2 ((ff,.sl kB.length 2 (eB.l kB))::(cy,.sl aJ.length 1 (af.l aJ))::(aq,.ob [.bool s2.aj,.rs gT 0 s2.aa.length 4,.rs fi 0 s2.ae.length 1])::(gT,.sl s2.aa.length 4 (ai.l s2.aa))::(fi,.sl s2.ae.length 1 (af.l s2.ae))::L))):=by
 refine lg (fun _=>rfl) ?_
 rintro k ⟨kB,x3,s2⟩ s out ⟨ff,gT,fi,h2,rfl,o4⟩ H
 have H:aB.l1 m v2 v3 (k+1) kB x3 s2=some out:=H
 refine q1 <| qq <| qc H (fun c5 H=>?_) (fun c5 H=>?_)
 ·refine qk <| qq <| qb 3 <| qq <| q0 ?_
  obtain⟨v4,e8,H⟩:=bj H
  obtain⟨v5,e9,H⟩:=bj H
  obtain⟨x4,rK,H⟩:=bj H
  obtain⟨kC,h3,uH,o5⟩:=iA (P:=Try.prog) (E:=eB) (l:=kB) (q:=0) (t2:=93) (x:=.fz [.int .i64 v4,.int .i64 v5] 1 true) (l2:=([(bo.mk v4 v5)])) QB o4 rfl (by kernel_rfl) rfl rK
  exact qr [.v 4 (fy (k:=.i64) (E:=af) (l:=v2.args) gu e8),.v 5 (iz  (E:=af) (l:=v2.args) h2 A3 e8 rfl),.v 9 (fy (k:=.i64) (E:=af) (l:=v3.args) gu e9),.v 10 (iz  (E:=af) (l:=v3.args) h2 A3 e9 rfl),.a 13 uH] <| q0 <| ⟨(x4,i64.wrap (x3+(1:Int)),s2),⟨kC,gT,fi,h3,by kernel_rfl,o5⟩,H⟩
 ·exact qx 2 <| ⟨rfl,kB,x3,s2,oi H,.lp 12 0,.lp 13 0,.int .i64 (v2.args.length:Int),.int .i64 x3,.bool (decide (x3<(v2.args.length:Int))),some [.int .i64 v2.kind,.int .i64 v2.int,.str v2.label,af.fz v2.args],some [.int .i64 v3.kind,.int .i64 v3.int,.str v3.label,af.fz v3.args],ff,gT,fi,h2,by kernel_rfl,o4⟩
theorem aB.cQ (L:Mem)(aq:Nat)(an:Nat)(ao:Nat)(s0:ab)(a0:Int)(b0:Int)  (nI:I3 cf m)(Ly:QG cf m)(GO:QX cf m):dL Try.prog cf vN m (sub [1,1,1,0,1,0,0] (bZ Try.f31)) (fun k (σ:(List Int) × (List bo) × Int × ab)=>aB.l0 m k σ.1 σ.2.1 σ.2.2.1 σ.2.2.2) (fun σ s=>match σ with | (aJ,fY,k0,s1)=>∃dY cy cW dD h1,s=⟨.ptr aq 0::oZ (.rs cy 0 aJ.length 1 :: .rs dY 0 fY.length 2 :: .int .i64 k0::uS []),[none,none,none,none],h1⟩∧Has h1 ((dY,.sl fY.length 2 (eB.l fY))::(cy,.sl aJ.length 1 (af.l aJ))::(aq,.ob [.bool s1.aj,.rs cW 0 s1.aa.length 4,.rs dD 0 s1.ae.length 1])::(cW,.sl s1.aa.length 4 (ai.l s1.aa))::(dD,.sl s1.ae.length 1 (af.l s1.ae))::L)) (fun out e s=>(e = .exit 0∧∃aJ fY k0 s1,.inr (aJ,fY,k0,s1)=out∧∃mP A9 Bh Bj dY cy cW dD h1,s=⟨mP::oZ (.rs cy 0 aJ.length 1::A9::Bh::oZ (Bj::yZ [])),[none,none,none,none],h1⟩∧Has h1 ((dY,.sl fY.length 2 (eB.l fY))::(cy,.sl aJ.length 1 (af.l aJ))::(aq,.ob [.bool s1.aj,.rs cW 0 s1.aa.length 4,.rs dD 0 s1.ae.length 1])::(cW,.sl s1.aa.length 4 (ai.l s1.aa))::(dD,.sl s1.ae.length 1 (af.l s1.ae))::L))∨(e = .ret∧∃r,.inl r=out∧aB.fin L aq an ao s0 a0 b0 r s)):=by
 refine lg (fun _=>rfl) ?_
 rintro k ⟨aJ,fY,k0,s1⟩ s out ⟨dY,cy,cW,dD,h1,rfl,o2⟩ H
 have H:aB.l0 m (k+1) aJ fY k0 s1=some out:=H
 refine qq <| qq <| q0 <| qc H (fun c0 H=>?_) (fun c0 H=>?_)
 ·refine qk <| qq <| qb 1 <| qq ?_
  obtain⟨v0,e1,H⟩:=bj H
  obtain⟨x0,e2,H⟩:=bj H
  obtain⟨v1,e3,H⟩:=bj H
  obtain⟨x1,e4,H⟩:=bj H
  refine Mz [] [.v 3 (bp (k:=.i64) (E:=eB) (l:=fY) (q:=0) QB o2 rfl e1),.v 5 (Cb  (E:=eB) (l:=fY) (q:=0) (off:=0) o2 rfl A3 e1 rfl),.a 6 (nI _ _ _ e2 h1 _ (fw (ah (ez (q:=2) o2 rfl (ah (fW) (ah (cZ (E:=ai) (l:=s1.aa) (q:=3) o2 rfl (fun _=>rfl)) (ah (cZ (E:=af) (l:=s1.ae) (q:=4) o2 rfl (fun _=>rfl)) (aw))))) (ah (aZ) (aw))))),.v 10 (bp (k:=.i64) (E:=eB) (l:=fY) (q:=0) QB o2 rfl e3),.v 12 (Cb  (E:=eB) (l:=fY) (q:=0) (off:=1) o2 rfl A3 e3 rfl),.a 13 (nI _ _ _ e4 h1 _ (fw (ah (ez (q:=2) o2 rfl (ah (fW) (ah (cZ (E:=ai) (l:=s1.aa) (q:=3) o2 rfl (fun _=>rfl)) (ah (cZ (E:=af) (l:=s1.ae) (q:=4) o2 rfl (fun _=>rfl)) (aw))))) (ah (aZ) (aw)))))] [.mk (h:=h1) (h':=h1) (i:=dY) rfl] ?_
  refine qq <| qq <| qr [.v 6 (show ni Try.prog .eql 92 (.agg [.int .i64 x0,.int .i64 x1]) (.agg [.int .i64 x0,.int .i64 x0])=some (.bool ((x0==x0)&&(x1==x0))) from I0 QD)] <| qc H (fun c1 H=>?_) (fun c1 H=>?_)
  ·exact qx 1 <| q0 <| ⟨(aJ,fY,i64.wrap (k0+(1:Int)),s1),⟨dY,cy,cW,dD,h1,by kernel_rfl,o2⟩,H⟩
  ·refine qk <| qq ?_
   obtain⟨v2,e5,H⟩:=bj H
   obtain⟨v3,e6,H⟩:=bj H
   refine qr [.v 3 (show bE Try.prog h1 40 (.ptr aq 1)=some (.rs cW 0 s1.aa.length 4) from cq (q:=2) (cs:=[.bool s1.aj,.rs cW 0 s1.aa.length 4,.rs dD 0 s1.ae.length 1]) o2 rfl (by kernel_rfl)),.v 6 (bp (k:=.i64) (E:=ai) (l:=s1.aa) (q:=3) uW o2 rfl e5),.v 7 (xa  (E:=ai) (l:=s1.aa) (q:=3) o2 rfl Ez EA e5),.v 11 (show bE Try.prog h1 40 (.ptr aq 1)=some (.rs cW 0 s1.aa.length 4) from cq (q:=2) (cs:=[.bool s1.aj,.rs cW 0 s1.aa.length 4,.rs dD 0 s1.ae.length 1]) o2 rfl (by kernel_rfl)),.v 14 (bp (k:=.i64) (E:=ai) (l:=s1.aa) (q:=3) uW o2 rfl e6),.v 15 (xa  (E:=ai) (l:=s1.aa) (q:=3) o2 rfl Ez EA e6)] <| qq <| qq ?_
   rcases gS H with⟨c2,H⟩| ⟨c2,H⟩
   ·refine qr [.b 3 c2] <| qc H (fun c3 H=>?_) (fun c3 H=>?_)
    ·refine qq <| qq ?_
     obtain⟨x2,e7,H⟩:=bj H
     refine qr [.a 2 (Ly _ _ _ e7 h1 _ (fw (ah (eV (ah (aZ) (ah (aZ) (ah (cK) (ah (dU (E:=af)) (aw)))))) (ah (eV (ah (aZ) (ah (aZ) (ah (cK) (ah (dU (E:=af)) (aw)))))) (aw)))))] <| qc H (fun c4 H=>?_) (fun c4 H=>?_)
     ·refine q1 ?_
      have o3:Has h1 ((cy,.sl aJ.length 1 (af.l aJ))::(aq,.ob [.bool s1.aj,.rs cW 0 s1.aa.length 4,.rs dD 0 s1.ae.length 1])::(cW,.sl s1.aa.length 4 (ai.l s1.aa))::(dD,.sl s1.ae.length 1 (af.l s1.ae))::L):=Has.del o2 0
      exact qt <| Or.inr (⟨rfl,_,oi H,⟨cy,cW,dD,by kernel_rfl,he o3⟩⟩)
     ·refine qk <| qq <| q0 <| qb 2 ?_
      obtain⟨bM,xq,H⟩:=bj H
      refine ql (aB.kz L aq an ao s0 a0 b0 cy aJ k0 cy x0 x1 v2 v3   (fY,(0:Int),s1) _ _ ⟨dY,cW,dD,h1,by kernel_rfl,o2⟩ xq) ?_
      rintro e s ⟨rfl,GN,x5,s3,rfl,g0,g1,g2,g3,g4,g5,g6,E9,iQ,jR,h4,rfl,o6⟩
      try dsimp only at H
      obtain⟨x6,xr,H⟩:=bj H
      obtain⟨lN,ln,h5,Be,o7⟩:=GO _ _ _ _ xr h4 _ _ _ _ ((Has.front (Has.front (Has.front (Has.front (Has.front o6 1 rfl) 1 rfl) 4 rfl) 4 rfl) 4 rfl))  [.ptr aq 0,.int .i64 x0,.int .i64 x1] (au (rfl) (au (aP (bm)) (au (aP (bm)) (bN))))
      obtain⟨x7,Al,H⟩:=bj H
      obtain⟨Bk,h6,EE,o8⟩:=iA (P:=Try.prog) (E:=af) (l:=aJ) (q:=4) (t2:=33) (x:=.fz [.int .i64 x6.1] 1 true) (l2:=([x6.1])) gu o7 rfl (by kernel_rfl) rfl Al
      exact qr [.a 6 Be,.a 8 EE] <| q0 <| ⟨(x7,GN,i64.wrap (k0+(1:Int)),x6.2),⟨E9,Bk,lN,ln,h6,by kernel_rfl,(Has.front (Has.front (Has.front (Has.front (Has.front o8 2 rfl) 2 rfl) 2 rfl) 4 rfl) 4 rfl)⟩,H⟩
    ·refine qk ?_
     obtain⟨x8,EF,H⟩:=bj H
     obtain⟨zB,bL,h7,Fa,o9⟩:=GO _ _ _ _ EF h1 _ _ _ _ ((Has.front (Has.front (Has.front (Has.front (Has.front o2 1 rfl) 1 rfl) 4 rfl) 4 rfl) 4 rfl))  [.ptr aq 0,.int .i64 x0,.int .i64 x1] (au (rfl) (au (aP (bm)) (au (aP (bm)) (bN))))
     obtain⟨x9,CV,H⟩:=bj H
     obtain⟨bS,h8,H5,xw⟩:=iA (P:=Try.prog) (E:=af) (l:=aJ) (q:=4) (t2:=33) (x:=.fz [.int .i64 x8.1] 1 true) (l2:=([x8.1])) gu o9 rfl (by kernel_rfl) rfl CV
     exact qr [.a 6 Fa,.a 8 H5] <| q0 <| ⟨(x9,fY,i64.wrap (k0+(1:Int)),x8.2),⟨dY,bS,zB,bL,h8,by kernel_rfl,(Has.front (Has.front (Has.front (Has.front (Has.front xw 2 rfl) 2 rfl) 2 rfl) 4 rfl) 4 rfl)⟩,H⟩
   ·refine qr [.b 3 c2] <| Gh <| qk ?_
    obtain⟨cb,H6,H⟩:=bj H
    obtain⟨kD,tV,h9,H7,xC⟩:=GO _ _ _ _ H6 h1 _ _ _ _ ((Has.front (Has.front (Has.front (Has.front (Has.front o2 1 rfl) 1 rfl) 4 rfl) 4 rfl) 4 rfl))  [.ptr aq 0,.int .i64 x0,.int .i64 x1] (au (rfl) (au (aP (bm)) (au (aP (bm)) (bN))))
    obtain⟨zr,Bl,H⟩:=bj H
    obtain⟨u7,h10,H8,CW⟩:=iA (P:=Try.prog) (E:=af) (l:=aJ) (q:=4) (t2:=33) (x:=.fz [.int .i64 cb.1] 1 true) (l2:=([cb.1])) gu xC rfl (by kernel_rfl) rfl Bl
    exact qr [.a 6 H7,.a 8 H8] <| q0 <| ⟨(zr,fY,i64.wrap (k0+(1:Int)),cb.2),⟨dY,u7,kD,tV,h10,by kernel_rfl,(Has.front (Has.front (Has.front (Has.front (Has.front CW 2 rfl) 2 rfl) 2 rfl) 4 rfl) 4 rfl)⟩,H⟩
 ·exact qx 0 <| Or.inl (⟨rfl,aJ,fY,k0,s1,oi H,.ptr aq 0,.rs dY 0 fY.length 2,.int .i64 k0,.bool (decide (k0<(fY.length:Int))),dY,cy,cW,dD,h1,by kernel_rfl,o2⟩)
theorem lO {aY:FuncId→b9}(ha:aY 31=vN)(nI:I3 cf m)(Ly:QG cf m)(GO:QX cf m)(s0:ab)(a0:Int)(b0:Int)(h:AHeap)(L:Mem)(aq:Nat)(an:Nat)(ao:Nat)  (o:Has h ((aq,.ob [.bool s0.aj,.rs an 0 s0.aa.length 4,.rs ao 0 s0.ae.length 1])::(an,.sl s0.aa.length 4 (ai.l s0.aa))::(ao,.sl s0.ae.length 1 (af.l s0.ae))::L)){out:(List Int) × Bool × ab}(H:aB.f m s0 a0 b0=some out) :
  ∃r h',bf Try.prog aY cf m 31 [.ptr aq 0,.int .i64 a0,.int .i64 b0] h=some (r,h')∧∃dw aC aD:Nat,r = .tup [.rs dw 0 out.1.length 1,.bool out.2.1]∧Has h' ((dw,.sl out.1.length 1 (af.l out.1))::(aq,.ob [.bool out.2.2.aj,.rs aC 0 out.2.2.aa.length 4,.rs aD 0 out.2.2.ae.length 1])::(aC,.sl out.2.2.aa.length 4 (ai.l out.2.2.aa))::(aD,.sl out.2.2.ae.length 1 (af.l out.2.2.ae))::L):=by
 refine ar (fn:=Try.f31) ha Try.func31 (by kernel_rfl) (by kernel_rfl) ?_
 refine aH (Q:=fun s=>aB.fin L aq an ao s0 a0 b0 out s) (fun _ _ ⟨h1,dw,aC,aD,h2,h3⟩=>⟨h1,_,h2,dw,aC,aD,rfl,h3⟩) ?_
 have H:_=some out:=H
 unfold aB.f at H
 show dK _ cf vN m _ ⟨.ptr aq 0 :: .int .i64 a0 :: .int .i64 b0::IN [],[none,none,none,none],h⟩ _
 refine q1 <| qq <| q0 ?_
 have o0:Has h (((0),.sl (([]:List Int).length) 1 (af.l ([]:List Int)))::(aq,.ob [.bool s0.aj,.rs an 0 s0.aa.length 4,.rs ao 0 s0.ae.length 1])::(an,.sl s0.aa.length 4 (ai.l s0.aa))::(ao,.sl s0.ae.length 1 (af.l s0.ae))::L):=Has.nil o 1
 refine qq ?_
 obtain⟨aE,h0,e0,o1⟩:=Cd (E:=eB) (l:=[(bo.mk a0 b0)]) (cs:=[.int .i64 a0,.int .i64 b0]) o0 (by kernel_rfl)
 refine qr [.a 3 e0] <| qq <| qq <| q0 <| qb 0 ?_
 obtain⟨cD,H9,H⟩:=bj H
 refine ql (aB.cQ L aq an ao s0 a0 b0  nI Ly GO (([]:List Int),[(bo.mk a0 b0)],(0:Int),s0) _ _ ⟨aE,(0),an,ao,h0,(aaR (b:=⟨.ptr aq 0::oZ (.rs (0) 0 (([]:List Int).length) 1 :: .rs aE 0 (([(bo.mk a0 b0)]:List bo).length) 2 :: .int .i64 (0:Int)::uS []),[none,none,none,none],h0⟩) (by kernel_rfl) (by simp only [ZO])),(by have o:Has h0 ((aE,.sl (([(bo.mk a0 b0)]:List bo).length) 2 (eB.l ([(bo.mk a0 b0)])))::((0),.sl (([]:List Int).length) 1 (af.l ([]:List Int)))::(aq,.ob [.bool s0.aj,.rs an 0 s0.aa.length 4,.rs ao 0 s0.ae.length 1])::(an,.sl s0.aa.length 4 (ai.l s0.aa))::(ao,.sl s0.ae.length 1 (af.l s0.ae))::L):=o1; simpa only [ZO] using o)⟩ H9) ?_
 rintro e s (⟨rfl,p5,NZ,k1,s4,rfl,g7,g8,g9,g10,xD,tW,I7,I8,h11,rfl,u9⟩| ⟨rfl,r0,rfl,uX⟩)
 ·try dsimp only at H
  refine q1 ?_
  have va:Has h11 ((tW,.sl p5.length 1 (af.l p5))::(aq,.ob [.bool s4.aj,.rs I7 0 s4.aa.length 4,.rs I8 0 s4.ae.length 1])::(I7,.sl s4.aa.length 4 (ai.l s4.aa))::(I8,.sl s4.ae.length 1 (af.l s4.ae))::L):=Has.del u9 0
  obtain rfl:=oi H
  exact qt <| ⟨.inl rfl,⟨tW,I7,I8,by kernel_rfl,he va⟩⟩
 ·try dsimp only at H
  obtain rfl:=oi H
  exact⟨.inl rfl,uX⟩
end
end Go.Proofs.Ytifafejidnjckaa
namespace Go.Proofs.Ytifafejidnjckaa
open Go Go.R
open Go.IntKind (i64 u64 u8 u32)
def CX:b9:=gW [0,1,2,4,5] [] [25,9,11,15,15,23] [] []
def dm.f (m:Nat)(s0:ab)(aJ:List Int):Option ((List Int)):=(E7 8 (aJ.length:Int) (0:Int)).bind fun x0=>(NN x0 aJ).bind fun UA=>(eG.f m UA (fun y0=>dH.f m y0 s0)).bind fun x1=>some (lJ x1)
def dm.fin (L:Mem)  (r:(List Int))(s:St):Prop:=∃dw:Nat,aO Try.prog (s.open CX) Try.f33.results.toList=some (.rs dw 0 r.length 1)∧Has s.h ((dw,.sl r.length 1 (af.l r))::L)
def Ri (cf:CallF)(m:Nat):Prop:=∀(s0:ab) (aJ:List Int) (r:(List Int)),dm.f m s0 aJ=some r→∀h L xs,Has h L→aU bR h xs [.fp [.bool s0.aj,ai.fz s0.aa,af.fz s0.ae] 0,af.fz aJ]→∃dw h',cf 33 xs h=some (.rs dw 0 r.length 1,h')∧Has h' ((dw,.sl r.length 1 (af.l r))::L)∧∀j,j<h.next→h.ver j=h'.ver j
section
variable {cf:CallF}{m:Nat}
theorem mA {aY:FuncId→b9}(ha:aY 33=CX)(Rj:Ut cf m)(Rk:Uu cf m)(Rm:T9 cf m)(s0:ab)(aJ:List Int)(h:AHeap)(L:Mem)  (o:Has h (L)){out:(List Int)}(H:dm.f m s0 aJ=some out) :
  ∃r h',bf Try.prog aY cf m 33 [.fp [.bool s0.aj,ai.fz s0.aa,af.fz s0.ae] 0,af.fz aJ] h=some (r,h')∧∃dw:Nat,r = .rs dw 0 out.length 1∧Has h' ((dw,.sl out.length 1 (af.l out))::L):=by
 refine ar (fn:=Try.f33) ha Try.func33 (by kernel_rfl) (by kernel_rfl) ?_
 refine aH (Q:=fun s=>dm.fin L out s) (fun _ _ ⟨h1,dw,h2,h3⟩=>⟨h1,_,h2,dw,rfl,h3⟩) ?_
 have H:_=some out:=H
 unfold dm.f at H
 show dK _ cf CX m _ ⟨.fp [.bool s0.aj,ai.fz s0.aa,af.fz s0.ae] 0::af.fz aJ::ov [],[],h⟩ _
 refine qq ?_
 obtain⟨aE,h0,e0,o0⟩:=gJ (cs:=[.fp [.bool s0.aj,ai.fz s0.aa,af.fz s0.ae] 0]) o (by kernel_rfl)
 refine qr [.a 0 e0] <| qq ?_
 obtain⟨x0,e1,H⟩:=bj H
 obtain⟨cy,h1,e2,o1⟩:=w9 (P:=Try.prog) (E:=af) (z:=(0:Int)) (zv:=.int .i64 (0:Int)) gu o0 3 rfl rfl rfl rfl e1
 refine qr [.a 2 e2] <| qq ?_
 obtain⟨UA,e3,H⟩:=bj H
 obtain⟨h2,e4,o2⟩:=IY (P:=Try.prog) (E:=af) (l:=x0) (s:=aJ) (q:=0) (t2:=33) gu o1 rfl (Le (E:=af)) rfl (NO _) e3
 refine qr [.a 2 e4] <| qq ?_
 obtain⟨x1,e5,H⟩:=bj H
 obtain⟨h3,e6,o3⟩:=Rj _ _ _ e5 h2 _ _ _ (o2) 58 [.ptr aE 0] [.fp [.fp [.bool s0.aj,ai.fz s0.aa,af.fz s0.ae] 0] 0] rfl (fun h' tS y0 r hr hx=>Rk y0 _ r hr h' tS hx) (fun h' K' o'=>jf (ah (ez (q:=(K'.length+0)) o' (jQ rfl) (ah (fK (pure_cons (cJ) (pure_cons (bQ.bA (E:=ai) (l:=s0.aa)) (pure_cons (bQ.bA (E:=af) (l:=s0.ae)) (pure_nil))))) (aw))) (aw))) (fun h_=>jf (ah (fK (pure_cons (ml (pure_cons (cJ) (pure_cons (bQ.bA (E:=ai) (l:=s0.aa)) (pure_cons (bQ.bA (E:=af) (l:=s0.ae)) (pure_nil))))) (pure_nil))) (aw))) [.rs cy 0 x0.length 1,.fn 58 [.ptr aE 0]] (au (rfl) (au (rfl) (bN)))
 refine qr [.a 2 e6] ?_
 have o4:Has h3 ((cy,.sl x1.length 1 (af.l x1))::L):=Has.del o3 1
 refine qq ?_
 obtain⟨h4,e7,o5⟩:=KX (l:=x1) Rm o4
 obtain rfl:=oi H
 exact qr [.a 1 e7] <| qq <| q0 <| qt <| ⟨.inl rfl,⟨cy,by rw [kc]; kernel_rfl,he (by simpa only [kc] using o5)⟩⟩
end
end Go.Proofs.Ytifafejidnjckaa
namespace Go.Proofs.Ytifafejidnjckaa
open Go Go.R
open Go.IntKind (i64 u64 u8 u32)
def CY:b9:=gW [0,1,2,4,5,6,7] [] [102,31] [] []
def eW.f (m:Nat)(s0:ab)(cR:ByteArray)(n0:Int):Option (Int × Int × ab):=(cC.f m s0 (dv.f m cR n0) (ak.mk (4:Int) n0 cR ([]))).bind fun x0=>some (x0.1,x0.2.1,x0.2.2)
def eW.fin (L:Mem)(aq:Nat)(an:Nat)(ao:Nat)(s0:ab)(cR:ByteArray)(n0:Int)(r:Int × Int × ab)(s:St):Prop:=∃aC aD:Nat,aO Try.prog (s.open CY) Try.f35.results.toList=some (.tup [.int .i64 r.1,.int .i64 r.2.1])∧Has s.h ((aq,.ob [.bool r.2.2.aj,.rs aC 0 r.2.2.aa.length 4,.rs aD 0 r.2.2.ae.length 1])::(aC,.sl r.2.2.aa.length 4 (ai.l r.2.2.aa))::(aD,.sl r.2.2.ae.length 1 (af.l r.2.2.ae))::L)
def UB (cf:CallF)(m:Nat):Prop:=∀(s0:ab) (cR:ByteArray) (n0:Int) (r:Int × Int × ab),eW.f m s0 cR n0=some r→∀h L (aq:Nat) (an:Nat) (ao:Nat),Has h ((aq,.ob [.bool s0.aj,.rs an 0 s0.aa.length 4,.rs ao 0 s0.ae.length 1])::(an,.sl s0.aa.length 4 (ai.l s0.aa))::(ao,.sl s0.ae.length 1 (af.l s0.ae))::L)→∀xs,xs.map aS=[.ptr aq 0,.str cR,.int .i64 n0]→∃aC aD h',cf 35 xs h=some (.tup [.int .i64 r.1,.int .i64 r.2.1],h')∧Has h' ((aq,.ob [.bool r.2.2.aj,.rs aC 0 r.2.2.aa.length 4,.rs aD 0 r.2.2.ae.length 1])::(aC,.sl r.2.2.aa.length 4 (ai.l r.2.2.aa))::(aD,.sl r.2.2.ae.length 1 (af.l r.2.2.ae))::L)
section
variable {cf:CallF}{m:Nat}
theorem mY {aY:FuncId→b9}(ha:aY 35=CY)(xA:MC cf m)(Rn:Uv cf m)(s0:ab)(cR:ByteArray)(n0:Int)(h:AHeap)(L:Mem)(aq:Nat)(an:Nat)(ao:Nat)  (o:Has h ((aq,.ob [.bool s0.aj,.rs an 0 s0.aa.length 4,.rs ao 0 s0.ae.length 1])::(an,.sl s0.aa.length 4 (ai.l s0.aa))::(ao,.sl s0.ae.length 1 (af.l s0.ae))::L)){out:Int × Int × ab}(H:eW.f m s0 cR n0=some out) :
  ∃r h',bf Try.prog aY cf m 35 [.ptr aq 0,.str cR,.int .i64 n0] h=some (r,h')∧∃aC aD:Nat,r = .tup [.int .i64 out.1,.int .i64 out.2.1]∧Has h' ((aq,.ob [.bool out.2.2.aj,.rs aC 0 out.2.2.aa.length 4,.rs aD 0 out.2.2.ae.length 1])::(aC,.sl out.2.2.aa.length 4 (ai.l out.2.2.aa))::(aD,.sl out.2.2.ae.length 1 (af.l out.2.2.ae))::L):=by
 refine ar (fn:=Try.f35) ha Try.func35 (by kernel_rfl) (by kernel_rfl) ?_
 refine aH (Q:=fun s=>eW.fin L aq an ao s0 cR n0 out s) (fun _ _ ⟨h1,aC,aD,h2,h3⟩=>⟨h1,_,h2,aC,aD,rfl,h3⟩) ?_
 have H:_=some out:=H
 unfold eW.f at H
 show dK _ cf CY m _ ⟨.ptr aq 0 :: .str cR :: .int .i64 n0::oZ [],[],h⟩ _
 refine qq ?_
 obtain⟨aE,h0,e0,o0⟩:=gJ (cs:=[.str cR]) o (by kernel_rfl)
 obtain⟨cy,h1,e1,o1⟩:=gJ (cs:=[.int .i64 n0]) o0 (by kernel_rfl)
 refine qr [.a 0 e0,.a 1 e1] <| qq ?_
 obtain⟨x0,e2,H⟩:=bj H
 obtain⟨dY,cW,h2,e3,o2⟩:=xA _ _ _ _ e2 h1 _ _ _ _ ((Has.front (Has.front (Has.front (Has.front (Has.front o1 1 rfl) 1 rfl) 4 rfl) 4 rfl) 4 rfl)) 63 [.ptr aE 0,.ptr cy 0] [.fp [.str cR] 0,.fp [.int .i64 n0] 0] rfl (fun h' tS  r hr hx=>Rn _ _ r hr h' tS hx) (fun h' K' o'=>jf (ah (ez (q:=(K'.length+4)) o' (jQ rfl) (ah (cK) (aw))) (ah (ez (q:=(K'.length+3)) o' (jQ rfl) (ah (aZ) (aw))) (aw)))) (fun h_=>jf (ah (fK (pure_cons (nA) (pure_nil))) (ah (fK (pure_cons (gR) (pure_nil))) (aw)))) [.ptr aq 0,.fn 63 [.ptr aE 0,.ptr cy 0],.agg [.int .i64 (4:Int),.int .i64 n0,.str cR,.nils]] (au (rfl) (au (rfl) (au (aP (nE (cd (bm) (cd (bm) (cd (lf) (cd (sw (E:=af)) (nD))))))) (bN))))
 refine qr [.v 2 (show bE Try.prog h1 9 (.ptr aE 0)=some (.str cR) from cq (q:=1) (cs:=[.str cR]) o1 rfl (by kernel_rfl)),.v 3 (show bE Try.prog h1 3 (.ptr cy 0)=some (.int .i64 n0) from cq (q:=0) (cs:=[.int .i64 n0]) o1 rfl (by kernel_rfl)),.a 5 e3] ?_
 have o3:Has h2 ((aq,.ob [.bool x0.2.2.aj,.rs dY 0 x0.2.2.aa.length 4,.rs cW 0 x0.2.2.ae.length 1])::(dY,.sl x0.2.2.aa.length 4 (ai.l x0.2.2.aa))::(cW,.sl x0.2.2.ae.length 1 (af.l x0.2.2.ae))::(cy,.ob [.int .i64 n0])::L):=Has.del o2 4
 have o4:Has h2 ((aq,.ob [.bool x0.2.2.aj,.rs dY 0 x0.2.2.aa.length 4,.rs cW 0 x0.2.2.ae.length 1])::(dY,.sl x0.2.2.aa.length 4 (ai.l x0.2.2.aa))::(cW,.sl x0.2.2.ae.length 1 (af.l x0.2.2.ae))::L):=Has.del o3 3
 obtain rfl:=oi H
 exact qt <| ⟨.inl rfl,⟨dY,cW,by kernel_rfl,he o4⟩⟩
end
end Go.Proofs.Ytifafejidnjckaa
namespace Go.Proofs.Ytifafejidnjckaa
open Go Go.R
open Go.IntKind (i64 u64 u8 u32)
def CZ:b9:=gW [0,2] [] [2,1] [] []
def gv.f (m:Nat)(s0:ByteArray):Option (Bool):=if (s0.data.toList==(aaq #[124]).data.toList)=true then (some true) else (if (s0.data.toList==(aaq #[35]).data.toList)=true then (some true) else ((dC.f m s0 (97:Int) (122:Int)).bind fun x0=>some x0))
def gv.fin (L:Mem)(r:Bool)(s:St):Prop:=∃av,aO Try.prog (s.open CZ) Try.f50.results.toList=some av∧fG s.h av (.bool r)
def Pc (cf:CallF)(m:Nat):Prop:=∀(s0:ByteArray) (r:Bool),gv.f m s0=some r→∀h xs,aU bR h xs [.str s0]→cf 50 xs h=some (.bool r,h)
section
variable {cf:CallF}{m:Nat}
theorem tX {aY:FuncId→b9}(ha:aY 50=CZ)(Ro:Ux cf m)(s0:ByteArray)(h:AHeap)(L:Mem)  (o:Has h (L)){out:Bool}(H:gv.f m s0=some out) :
  ∃r h',bf Try.prog aY cf m 50 [.str s0] h=some (r,h')∧fG h' r (.bool out):=by
 refine ar (fn:=Try.f50) ha Try.func50 (by kernel_rfl) (by kernel_rfl) ?_
 refine aH (Q:=fun s=>gv.fin L out s) (fun _ _ h=>h) ?_
 have H:_=some out:=H
 unfold gv.f at H
 show dK _ cf CZ m _ ⟨[.str s0,.any],[],h⟩ _
 refine q1 <| qq ?_
 rcases gS H with⟨c0,H⟩| ⟨c0,H⟩
 ·obtain rfl:=oi H
  exact qr [.b 2 c0] <| qt <| ⟨.inl rfl,cV (.bool true) h (cP (az))⟩
 ·rcases gS H with⟨c1,H⟩| ⟨c1,H⟩
  ·obtain rfl:=oi H
   exact qr [.b 2 c0,.b 6 c1] <| qt <| ⟨.inl rfl,cV (.bool true) h (cP (az))⟩
  ·obtain⟨x0,e0,H⟩:=bj H
   obtain rfl:=oi H
   exact qr [.b 2 c0,.b 6 c1,.a 8 (Ro _ _ _ _ e0 h _ (fw (ah (cK) (ah (aZ) (ah (aZ) (aw))))))] <| qt <| ⟨.inl rfl,cV (.bool x0) h (cP (az))⟩
end
end Go.Proofs.Ytifafejidnjckaa
