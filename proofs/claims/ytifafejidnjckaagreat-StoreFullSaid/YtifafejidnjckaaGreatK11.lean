/- Part of the proof: Q134, Q138, Q11, Q23, Q31, Q36, Q39, Q40, Q41, Q43, Q45, Q67, Q88, Q114, Q119, Q10, Q46, Q55. -/
import Derived.Test.YtifafejidnjckaaGreatK10
set_option linter.unusedVariables false
set_option linter.unusedSimpArgs false
set_option maxRecDepth 100000
open ByteArray renaming mk → afC
open List renaming append_assoc → afn, nil_append → afz, cons_append → afF
open Or renaming inr → agv
namespace Go.Proofs.YtifafejidnjckaaGreat
open Go Go.R
open Go.IntKind (i64 u64 u8 u32)
def sE:bX:=gP [0,1,2,6,7,8,9,13,30,35,54] [] [2032,1984,1856,2000,1984,1984,2032,1776,1984,1472,2000,1984,1984,1952,928,2032,2032] [] []
def cC.l0 (m:Nat)(n0:Int)(bf:Int→Int→Option (Int)):Nat→(List Int)→Int→Int→Option ((List Int) × Int × Int)
 | 0,_,_,_=>none
 | k+1,bO,a0,b0=>if (decide (b0≤n0))=true then ((bk.f m bO a0 b0 bf).bind fun x0=>cC.l0 m n0 bf k x0 b0 (i64.wrap (b0+20))) else (some ((bO,a0,b0)))
def cC.l2 (m:Nat)(n0:Int)(bf:Int→Int→Option (Int))(bF:Int):Nat→(List Int)→Int→Int→Option ((List Int) × Int × Int)
 | 0,_,_,_=>none
 | k+1,l9,a2,b2=>if (decide (b2≤n0))=true then ((aT.f m m l9 a2 (i64.wrap (a2+bF)) b2 bf).bind fun x2=>cC.l2 m n0 bf bF k x2 b2 (i64.wrap (b2+i64.wrap (2*bF)))) else (some ((l9,a2,b2)))
def cC.l1 (m:Nat)(n0:Int)(bf:Int→Int→Option (Int)):Nat→(List Int)→Int→Option ((List Int) × Int)
 | 0,_,_=>none
 | k+1,fu,bF=>if (decide (bF<n0))=true then ((cC.l2 m n0 bf bF m fu 0 (i64.wrap (2*bF))).bind fun eT=>match eT with | (oa,a3,b3)=>if (decide ((i64.wrap (a3+bF))<n0))=true then ((aT.f m m oa a3 (i64.wrap (a3+bF)) n0 bf).bind fun x3=>cC.l1 m n0 bf k x3 (i64.wrap (bF*2))) else (cC.l1 m n0 bf k oa (i64.wrap (bF*2)))) else (some ((fu,bF)))
def cC.f (m:Nat)(aF:List Int)(n0:Int)(bf:Int→Int→Option (Int)):Option ((List Int)):=(cC.l0 m n0 bf m aF 0 20).bind fun bI=>match bI with | (eJ,a1,b1)=>(bk.f m eJ a1 n0 bf).bind fun x1=>(cC.l1 m n0 bf m x1 20).bind fun jD=>match jD with | (tO,FX)=>some tO
def cC.fin (L:Mem)(aV:Nat)(aF:List Int)(n0:Int)(bf:Int→Int→Option (Int))(r:(List Int))(s:St):Prop:=aM Tryz.prog (s.open sE) Tryz.f134.results.toList=some (.tup [])∧Has s.h ((aV,.sl aF.length 1 (ae.l r))::L)
def Vf (cf:CallF)(m:Nat):Prop:=∀(aF:List Int) (n0:Int) (bf:Int→Int→Option (Int)) (r:(List Int)),cC.f m aF n0 bf=some r→∀h L (dE:Nat) (aV:Nat),Has h ((aV,.sl dE 1 (ae.l aF))::L)→∀(og:FuncId) (ff eG:List AV),(aP (.fn og ff) = .fn og ff)→(∀(h:AHeap) (xs:List AV) (a0:Int) (a1:Int) r,bf a0 a1=some r→aZ b5 h xs ([.i a0,.i a1]++eG)→cf og xs h=some (.i r,h))→(∀h K,Has h (K++(L))→aZ dK h ff eG)→(∀h,aZ dK h eG eG)→∀xs,xs.map aP=[.rs aV 0 dE 1,.i n0,.fn og ff]→∃h',cf 134 xs h=some (.tup [],h')∧Has h' ((aV,.sl dE 1 (ae.l r))::L)
section
variable {cf:CallF}{m:Nat}
theorem cC.cF (L:Mem)(aV:Nat)(og:FuncId)(ff eG:List AV)(aF:List Int)(n0:Int)(bf:Int→Int→Option (Int))  (wQ:aP (.fn og ff) = .fn og ff)(wR:∀(h:AHeap) (xs:List AV) (a0:Int) (a1:Int) r,bf a0 a1=some r→aZ b5 h xs ([.i a0,.i a1]++eG)→cf og xs h=some (.i r,h))(wS:∀h K,Has h (K++(L))→aZ dK h ff eG)(wT:∀h,aZ dK h eG eG)(HN:RG cf m):cd Tryz.prog cf sE m (sub [1,1,0,0,0] (bA Tryz.f134)) (fun k (σ:(List Int) × Int × Int)=>cC.l0 m n0 bf k σ.1 σ.2.1 σ.2.2) (fun σ s=>match σ with | (bO,a0,b0)=>∃h0,s=⟨.rs aV 0 aF.length 1 :: .i n0 :: .fn og ff :: .i 20 :: .i a0 :: .i b0::wz [],[],h0⟩∧Has h0 ((aV,.sl aF.length 1 (ae.l bO))::L)) (fun out e s=>(e = .exit 0∧∃bO a0 b0,(bO,a0,b0)=out∧∃yx qF h0,s=⟨.rs aV 0 aF.length 1 :: .i n0 :: .fn og ff :: .i 20 :: .i a0::yx :: .any::qF::mU [],[],h0⟩∧Has h0 ((aV,.sl aF.length 1 (ae.l bO))::L))):=by
 refine jW (fun _=>rfl) ?_
 rintro k ⟨bO,a0,b0⟩ s out ⟨h0,rfl,o0⟩ H
 have H:cC.l0 m n0 bf (k+1) bO a0 b0=some out:=H
 refine qq <| qq <| q0 <| qc H (fun c0 H=>?_) (fun c0 H=>?_)
 ·refine qk <| qb 1 <| qq ?_
  obtain⟨x0,e0,H⟩:=aQ H
  obtain⟨h1,e1,o1⟩:=HN _ _ _ _ _ e0 h0 _ _ _ (o0) og ff eG wQ wR (fun h' K' o'=>wS h' (K'++[]) (by simpa only [afn,afF,afz] using o')) wT [.rs aV 0 aF.length 1,.i a0,.i b0,.fn og ff] cq
  exact qr [.a 4 e1] <| qq <| q0 <| q0 <| ⟨(x0,b0,i64.wrap (b0+20)),⟨h1,kr,o1⟩,H⟩
 ·exact qx 0 <| ⟨rfl,bO,a0,b0,oi H,.i b0,.bool (decide (b0≤n0)),h0,kr,o0⟩
theorem cC.n5 (L:Mem)(aV:Nat)(og:FuncId)(ff eG:List AV)(aF:List Int)(n0:Int)(bf:Int→Int→Option (Int))(bF:Int)  (wQ:aP (.fn og ff) = .fn og ff)(wR:∀(h:AHeap) (xs:List AV) (a0:Int) (a1:Int) r,bf a0 a1=some r→aZ b5 h xs ([.i a0,.i a1]++eG)→cf og xs h=some (.i r,h))(wS:∀h K,Has h (K++(L))→aZ dK h ff eG)(wT:∀h,aZ dK h eG eG)(k8:zK cf m m):cd Tryz.prog cf sE m (sub [1,1,1,1,0,0,1,0,1,0,0,0] (bA Tryz.f134)) (fun k (σ:(List Int) × Int × Int)=>cC.l2 m n0 bf bF k σ.1 σ.2.1 σ.2.2) (fun σ s=>match σ with | (l9,a2,b2)=>∃h5,s=⟨.rs aV 0 aF.length 1 :: .i n0 :: .fn og ff :: .i bF :: .i a2 :: .i b2::wz [],[],h5⟩∧Has h5 ((aV,.sl aF.length 1 (ae.l l9))::L)) (fun out e s=>(e = .exit 4∧∃l9 a2 b2,(l9,a2,b2)=out∧∃yx R6 h5,s=⟨.rs aV 0 aF.length 1 :: .i n0 :: .fn og ff :: .i bF :: .i a2::yx::mU [R6,.any],[],h5⟩∧Has h5 ((aV,.sl aF.length 1 (ae.l l9))::L))):=by
 refine jW (fun _=>rfl) ?_
 rintro k ⟨l9,a2,b2⟩ s out ⟨h5,rfl,o5⟩ H
 have H:cC.l2 m n0 bf bF (k+1) l9 a2 b2=some out:=H
 refine qq <| qq <| q0 <| qc H (fun c2 H=>?_) (fun c2 H=>?_)
 ·refine qk <| qb 5 <| qq ?_
  obtain⟨x2,e5,H⟩:=aQ H
  obtain⟨h6,e6,o6⟩:=k8 _ _ _ _ _ _ e5 h5 _ _ _ (o5) og ff eG wQ wR (fun h' K' o'=>wS h' (K'++[]) (by simpa only [afn,afF,afz] using o')) wT [.rs aV 0 aF.length 1,.i a2,.i (i64.wrap (a2+bF)),.i b2,.fn og ff] cq
  exact qr [.a 7 e6] <| qq <| q0 <| q0 <| ⟨(x2,b2,i64.wrap (b2+i64.wrap (2*bF))),⟨h6,kr,o6⟩,H⟩
 ·exact qx 4 <| ⟨rfl,l9,a2,b2,oi H,.i b2,.bool (decide (b2≤n0)),h5,kr,o5⟩
theorem cC.jG (L:Mem)(aV:Nat)(og:FuncId)(ff eG:List AV)(aF:List Int)(n0:Int)(bf:Int→Int→Option (Int))  (wQ:aP (.fn og ff) = .fn og ff)(wR:∀(h:AHeap) (xs:List AV) (a0:Int) (a1:Int) r,bf a0 a1=some r→aZ b5 h xs ([.i a0,.i a1]++eG)→cf og xs h=some (.i r,h))(wS:∀h K,Has h (K++(L))→aZ dK h ff eG)(wT:∀h,aZ dK h eG eG)(k8:zK cf m m):cd Tryz.prog cf sE m (sub [1,1,1,1,0,0] (bA Tryz.f134)) (fun k (σ:(List Int) × Int)=>cC.l1 m n0 bf k σ.1 σ.2) (fun σ s=>match σ with | (fu,bF)=>∃h4,s=⟨.rs aV 0 aF.length 1 :: .i n0 :: .fn og ff :: .i bF::EY [],[],h4⟩∧Has h4 ((aV,.sl aF.length 1 (ae.l fu))::L)) (fun out e s=>(e = .exit 2∧∃fu bF,(fu,bF)=out∧∃nA wC LB DR RR h4,s=⟨nA::wC::LB::DR::lW [RR,.any,.any],[],h4⟩∧Has h4 ((aV,.sl aF.length 1 (ae.l fu))::L))):=by
 refine jW (fun _=>rfl) ?_
 rintro k ⟨fu,bF⟩ s out ⟨h4,rfl,o4⟩ H
 have H:cC.l1 m n0 bf (k+1) fu bF=some out:=H
 refine qq <| qq <| q0 <| qc H (fun c1 H=>?_) (fun c1 H=>?_)
 ·refine qk <| qb 3 <| qq <| q0 <| qq <| qb 4 ?_
  obtain⟨eT,e7,H⟩:=aQ H
  refine ql (cC.n5 L aV og ff eG aF n0 bf bF  wQ wR wS wT k8 (fu,0,i64.wrap (2*bF)) _ _ ⟨h4,kr,o4⟩ e7) ?_
  rintro e s ⟨rfl,oa,a3,b3,rfl,g2,g3,h7,rfl,o7⟩
  try dsimp only at H
  refine qq <| qq <| q0 <| qq <| q0 <| qc H (fun c3 H=>?_) (fun c3 H=>?_)
  ·obtain⟨x3,e8,H⟩:=aQ H
   obtain⟨h8,e9,o8⟩:=k8 _ _ _ _ _ _ e8 h7 _ _ _ (o7) og ff eG wQ wR (fun h' K' o'=>wS h' (K'++[]) (by simpa only [afn,afF,afz] using o')) wT [.rs aV 0 aF.length 1,.i a3,.i (i64.wrap (a3+bF)),.i n0,.fn og ff] cq
   exact qr [.a 5 e9] <| q0 <| ⟨(x3,i64.wrap (bF*2)),⟨h8,kr,o8⟩,H⟩
  ·exact qk <| q0 <| ⟨(oa,i64.wrap (bF*2)),⟨h7,kr,o7⟩,H⟩
 ·exact qx 2 <| ⟨rfl,fu,bF,oi H,.rs aV 0 aF.length 1,.i n0,.fn og ff,.i bF,.bool (decide (bF<n0)),h4,kr,o4⟩
theorem Cf {aX:FuncId→bX}(ha:aX 134=sE)(HN:RG cf m)(k8:zK cf m m)(aF:List Int)(n0:Int)(bf:Int→Int→Option (Int))(h:AHeap)(L:Mem)(aV:Nat)(og:FuncId)(ff eG:List AV)  (wQ:aP (.fn og ff) = .fn og ff)(wR:∀(h:AHeap) (xs:List AV) (a0:Int) (a1:Int) r,bf a0 a1=some r→aZ b5 h xs ([.i a0,.i a1]++eG)→cf og xs h=some (.i r,h))(wS:∀h K,Has h (K++(L))→aZ dK h ff eG)(wT:∀h,aZ dK h eG eG)(o:Has h ((aV,.sl aF.length 1 (ae.l aF))::L)){out:(List Int)}(H:cC.f m aF n0 bf=some out) :
  ∃r h',ba Tryz.prog aX cf m 134 [.rs aV 0 aF.length 1,.i n0,.fn og ff] h=some (r,h')∧r = .tup []∧Has h' ((aV,.sl aF.length 1 (ae.l out))::L):=by
 refine ax (fn:=Tryz.f134) ha Tryz.func134 kr kr ?_
 refine aI (Q:=fun s=>cC.fin L aV aF n0 bf out s) (fun _ _ ⟨h1,h2,h3⟩=>⟨h1,_,h2,rfl,h3⟩) ?_
 have H:_=some out:=H
 unfold cC.f at H
 show dB _ cf sE m _ ⟨.rs aV 0 aF.length 1 :: .i n0 :: .fn og ff::wA [],[],h⟩ _
 refine q1 <| qq <| q0 <| qq <| qb 0 ?_
 obtain⟨bI,e2,H⟩:=aQ H
 refine ql (cC.cF L aV og ff eG aF n0 bf  wQ wR wS wT HN (aF,0,20) _ _ ⟨h,kr,o⟩ e2) ?_
 rintro e s ⟨rfl,eJ,a1,b1,rfl,g0,g1,h2,rfl,o2⟩
 try dsimp only at H
 refine qq ?_
 obtain⟨x1,e3,H⟩:=aQ H
 obtain⟨h3,e4,o3⟩:=HN _ _ _ _ _ e3 h2 _ _ _ (o2) og ff eG wQ wR (fun h' K' o'=>wS h' (K'++[]) (by simpa only [afn,afF,afz] using o')) wT [.rs aV 0 aF.length 1,.i a1,.i n0,.fn og ff] cq
 refine qr [.a 4 e4] <| qb 2 ?_
 obtain⟨jD,nW,H⟩:=aQ H
 refine ql (cC.jG L aV og ff eG aF n0 bf  wQ wR wS wT k8 (x1,20) _ _ ⟨h3,kr,o3⟩ nW) ?_
 rintro e s ⟨rfl,tO,FX,rfl,g4,g5,g6,g7,g8,h9,rfl,o9⟩
 try dsimp only at H
 obtain rfl:=oi H
 exact⟨.inr rfl,⟨kr,he o9⟩⟩
end
def Ea:bX:=gP [0,2,3,4,5,6,9,14,25,33] [6] [1022,958,1017,1014,998,870,998,966,710,1017,966,454,966,998,998,1017] [(13,[(6,some 3,0)])] []
def bU.l0 (m:Nat)(aE:List ai):Nat→Int→aj→Option (Sum ((Option aj) × Int) (Int × aj))
 | 0,_,_=>none
 | k+1,i0,fV=>if (decide (i0<(aE.length:Int)))=true then ((ix aE i0).bind fun v0=>(ca.f m v0 (aE.length:Int)).bind fun x1=>if (!x1)=true then (some (.inl (none,2))) else ((app 8 ([]) v0.args).bind fun x2=>jn (fun (σ:Int)=>match σ with | n0=>(app 56 fV.ah ([(ai.mk v0.kind n0 v0.label x2)])).bind fun x3=>(app 8 fV.au ([i0])).bind fun x4=>bU.l0 m aE k (i64.wrap (i0+1)) (aj.mk x3 x4 fV.aK)) fun oU=>(if (v0.kind==0)=true then (oU i0) else (oU v0.int)))) else (some (.inr (i0,fV)))
def bU.f (m:Nat)(aE:List ai):Option ((Option aj) × Int):=if (decide ((aE.length:Int) > 8000))=true then (some (none,2)) else ((lB.f m ).bind fun x0=>(bU.l0 m aE m 0 x0).bind fun bI=>match bI with | .inl r0=>some r0 | .inr (i1,rS)=>some (some rS,0))
def bU.fin (L:Mem)(aE:List ai)(r:(Option aj) × Int)(s:St):Prop:=∃du dv dw:Nat,aM Tryz.prog (s.open Ea) Tryz.f11.results.toList=some (.tup [(Jh r.1 du),.i r.2])∧Has s.h (Ji r.1 (fun y=>[(du,.ob [.rs dv 0 y.ah.length 4,.rs dw 0 y.au.length 1,.bool y.aK]),(dv,.sl y.ah.length 4 (af.l y.ah)),(dw,.sl y.au.length 1 (ae.l y.au))])++(L))
def S11 (cf:CallF)(m:Nat):Prop:=∀(aE:List ai) (r:(Option aj) × Int),bU.f m aE=some r→∀h L,Has h (L)→∀xs,xs.map aP=[af.fz aE]→∃du dv dw h',cf 11 xs h=some (.tup [(Jh r.1 du),.i r.2],h')∧Has h' (Ji r.1 (fun y=>[(du,.ob [.rs dv 0 y.ah.length 4,.rs dw 0 y.au.length 1,.bool y.aK]),(dv,.sl y.ah.length 4 (af.l y.ah)),(dw,.sl y.au.length 1 (ae.l y.au))])++(L))
section
variable {cf:CallF}{m:Nat}
theorem bU.cF (L:Mem)(aE:List ai)(aV:Nat)  (Ce:Tf cf m):cd Tryz.prog cf Ea m (sub [1,1,1,0,1,0,0] (bA Tryz.f11)) (fun k (σ:Int × aj)=>bU.l0 m aE k σ.1 σ.2) (fun σ s=>match σ with | (i0,fV)=>∃cE dT h1,s=⟨af.fz aE :: .any :: .any :: .ptr aV 0 :: .i i0::wz [],[none],h1⟩∧Has h1 ((aV,.ob [.rs cE 0 fV.ah.length 4,.rs dT 0 fV.au.length 1,.bool fV.aK])::(cE,.sl fV.ah.length 4 (af.l fV.ah))::(dT,.sl fV.au.length 1 (ae.l fV.au))::L)) (fun out e s=>(e = .exit 0∧∃i0 fV,.inr (i0,fV)=out∧∃nA DP yw cE dT h1,s=⟨[nA,.any,.any,.ptr aV 0,DP,.any,.any,yw,.any,.any],[none],h1⟩∧Has h1 ((aV,.ob [.rs cE 0 fV.ah.length 4,.rs dT 0 fV.au.length 1,.bool fV.aK])::(cE,.sl fV.ah.length 4 (af.l fV.ah))::(dT,.sl fV.au.length 1 (ae.l fV.au))::L))∨(e = .ret∧∃r,.inl r=out∧bU.fin L aE r s)):=by
 refine jW (fun _=>rfl) ?_
 rintro k ⟨i0,fV⟩ s out ⟨cE,dT,h1,rfl,o1⟩ H
 have H:bU.l0 m aE (k+1) i0 fV=some out:=H
 refine qq <| qq <| q0 <| qc H (fun c1 H=>?_) (fun c1 H=>?_)
 ·refine qk <| qq <| qb 1 <| qq ?_
  obtain⟨v0,e2,H⟩:=aQ H
  refine qr [.v 2 (bW (k:=.i64) (E:=af) (l:=aE) lF e2),.v 3 (gf  (E:=af) (l:=aE) h1 sM sN e2)] <| qq <| qq ?_
  obtain⟨x1,e3,H⟩:=aQ H
  refine qr [.a 3 (Ce _ _ _ e3 h1 _ fq)] <| qc H (fun c2 H=>?_) (fun c2 H=>?_)
  ·refine q1 ?_
   have o2:Has h1 ((aV,.ob [.rs cE 0 fV.ah.length 4,.rs dT 0 fV.au.length 1,.bool fV.aK])::(cE,.sl fV.ah.length 4 (af.l fV.ah))::L):=jV o1 2
   have o3:Has h1 ((aV,.ob [.rs cE 0 fV.ah.length 4,.rs dT 0 fV.au.length 1,.bool fV.aK])::L):=jV o2 1
   have o4:Has h1 (L):=jV o3 0
   exact qt <| agv (⟨rfl,_,oi H,⟨0,0,0,kr,he o4⟩⟩)
  ·refine qk <| qq ?_
   obtain⟨x2,e4,H⟩:=aQ H
   obtain⟨ir,h2,e5,o5⟩:=FB (P:=Tryz.prog) (E:=ae) (s:=.fz [] 0 true) (t2:=22) (x:=ae.fz v0.args) (l2:=v0.args) (.inr rfl) de o1 (ya (E:=ae) (l2:=v0.args) _) rfl e4
   refine qr [.a 3 e5] ?_
   obtain⟨oU,As,H⟩:=kX H
   refine qj (S:=fun (σ:Int) s=>match σ with | n0=>∃(g0:AV) (h3:AHeap),s=⟨af.fz aE :: .any :: .any :: .ptr aV 0 :: .i i0 :: .lp 6 0::mU [g0],[some [.i v0.kind,.i n0,.str v0.label,.rs ir 0 x2.length 1]],h3⟩∧Has h3 ((ir,.sl x2.length 1 (ae.l x2))::(aV,.ob [.rs cE 0 fV.ah.length 4,.rs dT 0 fV.au.length 1,.bool fV.aK])::(cE,.sl fV.ah.length 4 (af.l fV.ah))::(dT,.sl fV.au.length 1 (ae.l fV.au))::L)) oU H ?_ ?_
   ·rintro n0 s ⟨g0,h3,rfl,o6⟩ H
    have H:=(As _).symm.trans H
    try dsimp only at H
    refine qq ?_
    obtain⟨h4,e6,o7⟩:=lT (E:=ae) (l:=x2) (q:=0) o6 rfl
    obtain⟨x3,e7,H⟩:=aQ H
    obtain⟨iy,h5,e8,o8⟩:=dY (P:=Tryz.prog) (E:=af) (l:=fV.ah) (q:=1) (t2:=23) (x:=.fz [.i v0.kind,.i n0,.str v0.label,ae.fz x2] 1 true) (l2:=([(ai.mk v0.kind n0 v0.label x2)])) lF o7 rfl kr rfl e7
    obtain⟨h6,e9,o9⟩:=kb (P:=Tryz.prog) (t:=23) (off:=0) (q:=0) (cs:=[.rs cE 0 fV.ah.length 4,.rs dT 0 fV.au.length 1,.bool fV.aK]) (gF:=[.rs iy 0 x3.length 4,.rs dT 0 fV.au.length 1,.bool fV.aK]) (x:=.rs iy 0 x3.length 4) o8 rfl kr
    refine JV [.a 0 e6] [.v 4 (show bB Tryz.prog h4 23 (.ptr aV 0)=some (.rs cE 0 fV.ah.length 4) from b7 (q:=0) (cs:=[.rs cE 0 fV.ah.length 4,.rs dT 0 fV.au.length 1,.bool fV.aK]) o7 rfl kr),.a 7 e8,.w 10 e9] ?_
    obtain⟨x4,nW,H⟩:=aQ H
    obtain⟨iA,h7,rG,sO⟩:=dY (P:=Tryz.prog) (E:=ae) (l:=fV.au) (q:=2) (t2:=22) (x:=.fz [.i i0] 1 true) (l2:=([i0])) de o9 rfl kr rfl nW
    obtain⟨h8,sy,tH⟩:=kb (P:=Tryz.prog) (t:=22) (off:=1) (q:=0) (cs:=[.rs iy 0 x3.length 4,.rs dT 0 fV.au.length 1,.bool fV.aK]) (gF:=[.rs iy 0 x3.length 4,.rs iA 0 x4.length 1,.bool fV.aK]) (x:=.rs iA 0 x4.length 1) sO rfl kr
    exact qr [.v 4 (show bB Tryz.prog h6 22 (.ptr aV 1)=some (.rs dT 0 fV.au.length 1) from b7 (q:=0) (cs:=[.rs iy 0 x3.length 4,.rs dT 0 fV.au.length 1,.bool fV.aK]) o9 rfl kr),.a 7 rG,.w 10 sy] <| q0 <| ⟨(i64.wrap (i0+1),(aj.mk x3 x4 fV.aK)),⟨iy,iA,h8,kr,tH⟩,H⟩
   clear As
   intro mW
   refine q1 <| qc H (fun c3 H=>?_) (fun c3 H=>?_)
   ·exact q0 <| mW i0 _ ⟨.any,h2,kr,o5⟩ H
   ·exact qk <| mW v0.int _ ⟨.bool (v0.kind==0),h2,kr,o5⟩ H
 ·exact qx 0 <| Or.inl (⟨rfl,i0,fV,oi H,af.fz aE,.i i0,.bool (decide (i0<(aE.length:Int))),cE,dT,h1,kr,o1⟩)
theorem vb {aX:FuncId→bX}(ha:aX 11=Ea)(Yq:S17 cf m)(Ce:Tf cf m)(aE:List ai)(h:AHeap)(L:Mem)  (o:Has h (L)){out:(Option aj) × Int}(H:bU.f m aE=some out) :
  ∃r h',ba Tryz.prog aX cf m 11 [af.fz aE] h=some (r,h')∧∃du dv dw:Nat,r = .tup [(Jh out.1 du),.i out.2]∧Has h' (Ji out.1 (fun y=>[(du,.ob [.rs dv 0 y.ah.length 4,.rs dw 0 y.au.length 1,.bool y.aK]),(dv,.sl y.ah.length 4 (af.l y.ah)),(dw,.sl y.au.length 1 (ae.l y.au))])++(L)):=by
 refine ax (fn:=Tryz.f11) ha Tryz.func11 kr kr ?_
 refine aI (Q:=fun s=>bU.fin L aE out s) (fun _ _ ⟨h1,du,dv,dw,h2,h3⟩=>⟨h1,_,h2,du,dv,dw,rfl,h3⟩) ?_
 have H:_=some out:=H
 unfold bU.f at H
 show dB _ cf Ea m _ ⟨af.fz aE::Ot [],[none],h⟩ _
 refine q1 <| qq <| qq <| q0 <| qc H (fun c0 H=>?_) (fun c0 H=>?_)
 ·obtain rfl:=oi H
  exact q1 <| qt <| ⟨.inl rfl,⟨0,0,0,kr,he o⟩⟩
 ·refine qk <| qq ?_
  obtain⟨x0,e0,H⟩:=aQ H
  obtain⟨aV,dr,cm,h0,e1,o0⟩:=Yq _ e0 h _  (o)  [] cq
  refine qr [.a 0 e1] <| qq <| qq <| q0 <| qb 0 ?_
  obtain⟨bI,rZ,H⟩:=aQ H
  refine ql (bU.cF L aE aV  Ce (0,x0) _ _ ⟨dr,cm,h0,kr,o0⟩ rZ) ?_
  rintro e s (⟨rfl,i1,rS,rfl,g1,g2,g3,lh,ml,h9,rfl,xj⟩| ⟨rfl,r0,rfl,sw⟩)
  ·try dsimp only at H
   obtain rfl:=oi H
   exact q1 <| qt <| ⟨.inl rfl,⟨aV,lh,ml,kr,he xj⟩⟩
  ·try dsimp only at H
   obtain rfl:=oi H
   exact⟨.inl rfl,sw⟩
end
def Eb:bX:=gP [0,1,2,3,26,31,43] [1] [125,109,123,117,85,117,53,123,123] [] []
def cR.l0 (m:Nat)(t0:bm):Nat→Int→Option (Sum Bool (Int))
 | 0,_=>none
 | k+1,i0=>if (decide (i0<(t0.nodes.length:Int)))=true then ((ix t0.nodes i0).bind fun v0=>(ca.f m v0 (t0.nodes.length:Int)).bind fun x0=>if (!x0)=true then (some (.inl false)) else (cR.l0 m t0 k (i64.wrap (i0+1)))) else (some (.inr i0))
def cR.f (m:Nat)(t0:bm):Option (Bool):=if (decide ((t0.nodes.length:Int)<1))=true then (some false) else (if (decide ((t0.nodes.length:Int) > 8000))=true then (some false) else (if (decide (t0.root<0))=true then (some false) else (if (decide (t0.root≥(t0.nodes.length:Int)))=true then (some false) else ((cR.l0 m t0 m 0).bind fun bI=>match bI with | .inl r0=>some r0 | .inr i1=>some true))))
def cR.fin (L:Mem)(r:Bool)(s:St):Prop:=∃av,aM Tryz.prog (s.open Eb) Tryz.f23.results.toList=some av∧fG s.h av (.bool r)
def S23 (cf:CallF)(m:Nat):Prop:=∀(t0:bm) (r:Bool),cR.f m t0=some r→∀h xs,aZ b5 h xs [.agg [af.fz t0.nodes,.i t0.root]]→cf 23 xs h=some (.bool r,h)
section
variable {cf:CallF}{m:Nat}
theorem cR.cF (L:Mem)(t0:bm)  (Ce:Tf cf m):cd Tryz.prog cf Eb m (sub [1,1,0,1,0,0] (bA Tryz.f23)) (fun k (σ:Int)=>cR.l0 m t0 k σ) (fun σ s=>match σ with | i0=>∃h0,s=⟨.any :: .lp 1 0 :: .any :: .i i0::mU [],[some [af.fz t0.nodes,.i t0.root]],h0⟩∧Has h0 (L)) (fun out e s=>(e = .exit 0∧∃i0,.inr i0=out∧∃wC BP LL b1_ h0,s=⟨[.any,wC,.any,BP,.any,LL,.any],[b1_],h0⟩∧Has h0 (L))∨(e = .ret∧∃r,.inl r=out∧cR.fin L r s)):=by
 refine jW (fun _=>rfl) ?_
 rintro k i0 s out ⟨h0,rfl,o0⟩ H
 have H:cR.l0 m t0 (k+1) i0=some out:=H
 refine qq <| qq <| q0 <| qc H (fun c7 H=>?_) (fun c7 H=>?_)
 ·refine qk <| qq <| qb 1 <| qq ?_
  obtain⟨v0,e0,H⟩:=aQ H
  obtain⟨x0,e1,H⟩:=aQ H
  refine qr [.v 3 (bW (k:=.i64) (E:=af) (l:=t0.nodes) lF e0),.v 4 (gf  (E:=af) (l:=t0.nodes) h0 sM sN e0),.a 8 (Ce _ _ _ e1 h0 _ fq)] <| qc H (fun c8 H=>?_) (fun c8 H=>?_)
  ·exact q1 <| qt <| agv (⟨rfl,_,oi H,yo (.bool false) h0 (vP (kl))⟩)
  ·exact qk <| q0 <| ⟨i64.wrap (i0+1),⟨h0,kr,o0⟩,H⟩
 ·exact qx 0 <| Or.inl (⟨rfl,i0,oi H,.lp 1 0,.i i0,.bool (decide (i0<(t0.nodes.length:Int))),some [af.fz t0.nodes,.i t0.root],h0,kr,o0⟩)
theorem vc {aX:FuncId→bX}(ha:aX 23=Eb)(Ce:Tf cf m)(t0:bm)(h:AHeap)(L:Mem)  (o:Has h (L)){out:Bool}(H:cR.f m t0=some out) :
  ∃r h',ba Tryz.prog aX cf m 23 [.agg [af.fz t0.nodes,.i t0.root]] h=some (r,h')∧fG h' r (.bool out):=by
 refine ax (fn:=Tryz.f23) ha Tryz.func23 kr kr ?_
 refine aI (Q:=fun s=>cR.fin L out s) (fun _ _ h=>h) ?_
 have H:_=some out:=H
 unfold cR.f at H
 show dB _ cf Eb m _ ⟨.agg [af.fz t0.nodes,.i t0.root]::yh [],[none],h⟩ _
 refine q1 <| qq <| qq ?_
 rcases dZ H with⟨c0,H⟩| ⟨c0,H⟩
 ·exact qr [.b 4 c0] <| rW <| qq <| q0 <| qt <| fB H
 ·rcases dZ H with⟨c2,H⟩| ⟨c2,H⟩
  ·exact qr [.b 4 c0,.b 10 c2] <| rW <| qq <| q0 <| qt <| fB H
  ·rcases dZ H with⟨c4,H⟩| ⟨c4,H⟩
   ·exact qr [.b 4 c0,.b 10 c2,.b 15 c4] <| rW <| qq <| q0 <| qt <| fB H
   ·refine qr [.b 4 c0,.b 10 c2,.b 15 c4] <| qc H (fun c6 H=>?_) (fun c6 H=>?_)
    ·exact q1 <| qt <| fB H
    ·refine qk <| qq <| qq <| q0 <| qb 0 ?_
     obtain⟨bI,e2,H⟩:=aQ H
     refine ql (cR.cF L t0  Ce 0 _ _ ⟨h,kr,o⟩ e2) ?_
     rintro e s (⟨rfl,i1,rfl,g0,g1,g2,g3,h1,rfl,o1⟩| ⟨rfl,r0,rfl,sw⟩)
     ·try dsimp only at H
      exact q1 <| qt <| fB H
     ·try dsimp only at H
      obtain rfl:=oi H
      exact⟨.inl rfl,sw⟩
end
def HO:bX:=gP [0,1,3,4,5] [] [26,7] [] []
def fW.f (m:Nat)(s0:ab)(a0:ByteArray):Option (Int × Int × ab):=(cY.f m s0 (dW.f m a0) (ai.mk 2 0 a0 ([]))).bind fun x0=>some (x0.1,x0.2.1,x0.2.2)
def fW.fin (L:Mem)(aq:Nat)(ak:Nat)(az:Nat)(s0:ab)(a0:ByteArray)(r:Int × Int × ab)(s:St):Prop:=∃aB aC:Nat,aM Tryz.prog (s.open HO) Tryz.f31.results.toList=some (.tup [.i r.1,.i r.2.1])∧Has s.h ((aq,.ob [.bool r.2.2.aA,.rs aB 0 r.2.2.aa.length 4,.rs aC 0 r.2.2.an.length 1])::(aB,.sl r.2.2.aa.length 4 (af.l r.2.2.aa))::(aC,.sl r.2.2.an.length 1 (ae.l r.2.2.an))::L)
def S31 (cf:CallF)(m:Nat):Prop:=∀(s0:ab) (a0:ByteArray) (r:Int × Int × ab),fW.f m s0 a0=some r→∀h L (aq:Nat) (ak:Nat) (az:Nat),Has h ((aq,.ob [.bool s0.aA,.rs ak 0 s0.aa.length 4,.rs az 0 s0.an.length 1])::(ak,.sl s0.aa.length 4 (af.l s0.aa))::(az,.sl s0.an.length 1 (ae.l s0.an))::L)→∀xs,xs.map aP=[.ptr aq 0,.str a0]→∃aB aC h',cf 31 xs h=some (.tup [.i r.1,.i r.2.1],h')∧Has h' ((aq,.ob [.bool r.2.2.aA,.rs aB 0 r.2.2.aa.length 4,.rs aC 0 r.2.2.an.length 1])::(aB,.sl r.2.2.aa.length 4 (af.l r.2.2.aa))::(aC,.sl r.2.2.an.length 1 (ae.l r.2.2.an))::L)
section
variable {cf:CallF}{m:Nat}
theorem pQ {aX:FuncId→bX}(ha:aX 31=HO)(B2:S5 cf m)(Yr:S73 cf m)(s0:ab)(a0:ByteArray)(h:AHeap)(L:Mem)(aq:Nat)(ak:Nat)(az:Nat)  (o:Has h ((aq,.ob [.bool s0.aA,.rs ak 0 s0.aa.length 4,.rs az 0 s0.an.length 1])::(ak,.sl s0.aa.length 4 (af.l s0.aa))::(az,.sl s0.an.length 1 (ae.l s0.an))::L)){out:Int × Int × ab}(H:fW.f m s0 a0=some out) :
  ∃r h',ba Tryz.prog aX cf m 31 [.ptr aq 0,.str a0] h=some (r,h')∧∃aB aC:Nat,r = .tup [.i out.1,.i out.2.1]∧Has h' ((aq,.ob [.bool out.2.2.aA,.rs aB 0 out.2.2.aa.length 4,.rs aC 0 out.2.2.an.length 1])::(aB,.sl out.2.2.aa.length 4 (af.l out.2.2.aa))::(aC,.sl out.2.2.an.length 1 (ae.l out.2.2.an))::L):=by
 refine ax (fn:=Tryz.f31) ha Tryz.func31 kr kr ?_
 refine aI (Q:=fun s=>fW.fin L aq ak az s0 a0 out s) (fun _ _ ⟨h1,aB,aC,h2,h3⟩=>⟨h1,_,h2,aB,aC,rfl,h3⟩) ?_
 have H:_=some out:=H
 unfold fW.f at H
 show dB _ cf HO m _ ⟨.ptr aq 0 :: .str a0::mU [],[],h⟩ _
 refine qq ?_
 obtain⟨aV,h0,e0,o0⟩:=iX (cs:=[.str a0]) o kr
 refine qr [.a 0 e0] <| qq ?_
 obtain⟨x0,e1,H⟩:=aQ H
 obtain⟨dr,cm,h1,e2,o1⟩:=B2 _ _ _ _ e1 h0 _ _ _ _ ((bN (bN (bN (bN o0 0) 3) 3) 3)) 73 [.ptr aV 0] [.fp [.str a0] 0] rfl (fun h' zF  r hr hx=>Yr _ r hr h' zF hx) (fun h' K' o'=>ll (ao (da (q:=(K'.length+3)) o' (lV rfl) (ao (oN) (aJ))) (aJ))) (fun h_=>ll (ao (gT (pure_cons (mG) (pure_nil))) (aJ))) [.ptr aq 0,.fn 73 [.ptr aV 0],.agg [.i 2,.i 0,.str a0,.nils]] (cZ (rfl) (cZ (rfl) (cZ (kW (nz (cz (iW) (cz (iW) (cz (oQ) (cz (nn (E:=ae)) (lU))))))) cq)))
 refine qr [.v 2 (show bB Tryz.prog h0 9 (.ptr aV 0)=some (.str a0) from b7 (q:=0) (cs:=[.str a0]) o0 rfl kr),.a 4 e2] ?_
 have o2:Has h1 ((aq,.ob [.bool x0.2.2.aA,.rs dr 0 x0.2.2.aa.length 4,.rs cm 0 x0.2.2.an.length 1])::(dr,.sl x0.2.2.aa.length 4 (af.l x0.2.2.aa))::(cm,.sl x0.2.2.an.length 1 (ae.l x0.2.2.an))::L):=jV o1 3
 obtain rfl:=oi H
 exact qt <| ⟨.inl rfl,⟨dr,cm,kr,he o2⟩⟩
end
def HP:bX:=gP [0,1,2] [] [5,3] [] []
def jc.f (m:Nat)(t0:bm):Option (Bool):=if (decide ((t0.nodes.length:Int)≥1))=true then (if (decide ((t0.nodes.length:Int)≤8000))=true then (if (decide (t0.root≥0))=true then (if (decide (t0.root<(t0.nodes.length:Int)))=true then ((jH.f m t0.nodes (fun y0=>jb.f m y0 t0)).bind fun x0=>some (!x0)) else (some false)) else (some false)) else (some false)) else (some false)
def jc.fin (L:Mem)(r:Bool)(s:St):Prop:=∃av,aM Tryz.prog (s.open HP) Tryz.f36.results.toList=some av∧fG s.h av (.bool r)
def Ys (cf:CallF)(m:Nat):Prop:=∀(t0:bm) (r:Bool),jc.f m t0=some r→∀h xs,aZ b5 h xs [.agg [af.fz t0.nodes,.i t0.root]]→cf 36 xs h=some (.bool r,h)
section
variable {cf:CallF}{m:Nat}
theorem wU {aX:FuncId→bX}(ha:aX 36=HP)(Yt:S77 cf m)(Yu:S78 cf m)(t0:bm)(h:AHeap)(L:Mem)  (o:Has h (L)){out:Bool}(H:jc.f m t0=some out) :
  ∃r h',ba Tryz.prog aX cf m 36 [.agg [af.fz t0.nodes,.i t0.root]] h=some (r,h')∧fG h' r (.bool out):=by
 refine ax (fn:=Tryz.f36) ha Tryz.func36 kr kr ?_
 refine aI (Q:=fun s=>jc.fin L out s) (fun _ _ h=>h) ?_
 have H:_=some out:=H
 unfold jc.f at H
 show dB _ cf HP m _ ⟨[.agg [af.fz t0.nodes,.i t0.root],.any,.any],[],h⟩ _
 refine qq ?_
 obtain⟨aV,h0,e0,o0⟩:=iX (cs:=[af.fz t0.nodes,.i t0.root]) o kr
 refine qr [.a 0 e0] <| qq ?_
 rcases dZ H with⟨c0,H⟩| ⟨c0,H⟩
 ·rcases dZ H with⟨c1,H⟩| ⟨c1,H⟩
  ·rcases dZ H with⟨c2,H⟩| ⟨c2,H⟩
   ·rcases dZ H with⟨c3,H⟩| ⟨c3,H⟩
    ·obtain⟨x0,e1,H⟩:=aQ H
     refine qr [.v 1 (show bB Tryz.prog h0 23 (.ptr aV 0)=some (af.fz t0.nodes) from b7 (q:=0) (cs:=[af.fz t0.nodes,.i t0.root]) o0 rfl kr),.b 4 c0,.v 6 (show bB Tryz.prog h0 23 (.ptr aV 0)=some (af.fz t0.nodes) from b7 (q:=0) (cs:=[af.fz t0.nodes,.i t0.root]) o0 rfl kr),.b 10 c1,.v 12 (show bB Tryz.prog h0 3 (.ptr aV 1)=some (.i t0.root) from b7 (q:=0) (cs:=[af.fz t0.nodes,.i t0.root]) o0 rfl kr),.b 15 c2,.v 17 (show bB Tryz.prog h0 3 (.ptr aV 1)=some (.i t0.root) from b7 (q:=0) (cs:=[af.fz t0.nodes,.i t0.root]) o0 rfl kr),.v 19 (show bB Tryz.prog h0 23 (.ptr aV 0)=some (af.fz t0.nodes) from b7 (q:=0) (cs:=[af.fz t0.nodes,.i t0.root]) o0 rfl kr),.b 23 c3,.v 25 (show bB Tryz.prog h0 23 (.ptr aV 0)=some (af.fz t0.nodes) from b7 (q:=0) (cs:=[af.fz t0.nodes,.i t0.root]) o0 rfl kr),.a 27 (Yt _ _ _ e1 78 [.fp [af.fz t0.nodes,.i t0.root] 0] (fun h' zF y0 r hr hx=>Yu y0 _ r hr h' zF hx) (fun h_=>ll (ao (gT (pure_cons (bY.bz (E:=af) (l:=t0.nodes)) (pure_cons (eu) (pure_nil)))) (aJ))) h0 _ (km (ao (kF (E:=af)) (ao (yt (ao (da (q:=0) o0 rfl (ao (kF (E:=af)) (ao (bP) (aJ)))) (aJ))) (aJ)))))] ?_
     exact qt <| fB H
    ·refine qr [.v 1 (show bB Tryz.prog h0 23 (.ptr aV 0)=some (af.fz t0.nodes) from b7 (q:=0) (cs:=[af.fz t0.nodes,.i t0.root]) o0 rfl kr),.b 4 c0,.v 6 (show bB Tryz.prog h0 23 (.ptr aV 0)=some (af.fz t0.nodes) from b7 (q:=0) (cs:=[af.fz t0.nodes,.i t0.root]) o0 rfl kr),.b 10 c1,.v 12 (show bB Tryz.prog h0 3 (.ptr aV 1)=some (.i t0.root) from b7 (q:=0) (cs:=[af.fz t0.nodes,.i t0.root]) o0 rfl kr),.b 15 c2,.v 17 (show bB Tryz.prog h0 3 (.ptr aV 1)=some (.i t0.root) from b7 (q:=0) (cs:=[af.fz t0.nodes,.i t0.root]) o0 rfl kr),.v 19 (show bB Tryz.prog h0 23 (.ptr aV 0)=some (af.fz t0.nodes) from b7 (q:=0) (cs:=[af.fz t0.nodes,.i t0.root]) o0 rfl kr),.b 23 c3] ?_
     exact qt <| fB H
   ·refine qr [.v 1 (show bB Tryz.prog h0 23 (.ptr aV 0)=some (af.fz t0.nodes) from b7 (q:=0) (cs:=[af.fz t0.nodes,.i t0.root]) o0 rfl kr),.b 4 c0,.v 6 (show bB Tryz.prog h0 23 (.ptr aV 0)=some (af.fz t0.nodes) from b7 (q:=0) (cs:=[af.fz t0.nodes,.i t0.root]) o0 rfl kr),.b 10 c1,.v 12 (show bB Tryz.prog h0 3 (.ptr aV 1)=some (.i t0.root) from b7 (q:=0) (cs:=[af.fz t0.nodes,.i t0.root]) o0 rfl kr),.b 15 c2] ?_
    exact qt <| fB H
  ·refine qr [.v 1 (show bB Tryz.prog h0 23 (.ptr aV 0)=some (af.fz t0.nodes) from b7 (q:=0) (cs:=[af.fz t0.nodes,.i t0.root]) o0 rfl kr),.b 4 c0,.v 6 (show bB Tryz.prog h0 23 (.ptr aV 0)=some (af.fz t0.nodes) from b7 (q:=0) (cs:=[af.fz t0.nodes,.i t0.root]) o0 rfl kr),.b 10 c1] ?_
   exact qt <| fB H
 ·refine qr [.v 1 (show bB Tryz.prog h0 23 (.ptr aV 0)=some (af.fz t0.nodes) from b7 (q:=0) (cs:=[af.fz t0.nodes,.i t0.root]) o0 rfl kr),.b 4 c0] ?_
  exact qt <| fB H
end
def HQ:bX:=gP [0,2,3] [] [6,1] [] []
def gC.f (m:Nat)(s0:aj):Option (Int × Int × aj):=(cO.f m s0 (ai.mk 0 0 (afC #[]) ([]))).bind fun x0=>some (x0.1,x0.2.1,x0.2.2)
def gC.fin (L:Mem)(aq:Nat)(aG:Nat)(ak:Nat)(s0:aj)(r:Int × Int × aj)(s:St):Prop:=∃aB aC:Nat,aM Tryz.prog (s.open HQ) Tryz.f39.results.toList=some (.tup [.i r.1,.i r.2.1])∧Has s.h ((aq,.ob [.rs aB 0 r.2.2.ah.length 4,.rs aC 0 r.2.2.au.length 1,.bool r.2.2.aK])::(aB,.sl r.2.2.ah.length 4 (af.l r.2.2.ah))::(aC,.sl r.2.2.au.length 1 (ae.l r.2.2.au))::L)
def S39 (cf:CallF)(m:Nat):Prop:=∀(s0:aj) (r:Int × Int × aj),gC.f m s0=some r→∀h L (aq:Nat) (aG:Nat) (ak:Nat),Has h ((aq,.ob [.rs aG 0 s0.ah.length 4,.rs ak 0 s0.au.length 1,.bool s0.aK])::(aG,.sl s0.ah.length 4 (af.l s0.ah))::(ak,.sl s0.au.length 1 (ae.l s0.au))::L)→∀xs,xs.map aP=[.ptr aq 0]→∃aB aC h',cf 39 xs h=some (.tup [.i r.1,.i r.2.1],h')∧Has h' ((aq,.ob [.rs aB 0 r.2.2.ah.length 4,.rs aC 0 r.2.2.au.length 1,.bool r.2.2.aK])::(aB,.sl r.2.2.ah.length 4 (af.l r.2.2.ah))::(aC,.sl r.2.2.au.length 1 (ae.l r.2.2.au))::L)
section
variable {cf:CallF}{m:Nat}
theorem qT {aX:FuncId→bX}(ha:aX 39=HQ)(Cg:Tg cf m)(s0:aj)(h:AHeap)(L:Mem)(aq:Nat)(aG:Nat)(ak:Nat)  (o:Has h ((aq,.ob [.rs aG 0 s0.ah.length 4,.rs ak 0 s0.au.length 1,.bool s0.aK])::(aG,.sl s0.ah.length 4 (af.l s0.ah))::(ak,.sl s0.au.length 1 (ae.l s0.au))::L)){out:Int × Int × aj}(H:gC.f m s0=some out) :
  ∃r h',ba Tryz.prog aX cf m 39 [.ptr aq 0] h=some (r,h')∧∃aB aC:Nat,r = .tup [.i out.1,.i out.2.1]∧Has h' ((aq,.ob [.rs aB 0 out.2.2.ah.length 4,.rs aC 0 out.2.2.au.length 1,.bool out.2.2.aK])::(aB,.sl out.2.2.ah.length 4 (af.l out.2.2.ah))::(aC,.sl out.2.2.au.length 1 (ae.l out.2.2.au))::L):=by
 refine ax (fn:=Tryz.f39) ha Tryz.func39 kr kr ?_
 refine aI (Q:=fun s=>gC.fin L aq aG ak s0 out s) (fun _ _ ⟨h1,aB,aC,h2,h3⟩=>⟨h1,_,h2,aB,aC,rfl,h3⟩) ?_
 have H:_=some out:=H
 unfold gC.f at H
 show dB _ cf HQ m _ ⟨[.ptr aq 0,.any,.any],[],h⟩ _
 refine q1 <| qq ?_
 obtain⟨x0,e0,H⟩:=aQ H
 obtain⟨aV,dr,h0,e1,o0⟩:=Cg _ _ _ e0 h _ _ _ _ (o)  [.ptr aq 0,.agg [.i 0,.i 0,.str (afC #[]),.nils]] (cZ (rfl) (cZ (kW (nz (cz (iW) (cz (iW) (cz (oQ) (cz (nn (E:=ae)) (lU))))))) cq))
 obtain rfl:=oi H
 exact qr [.a 2 e1] <| qt <| ⟨.inl rfl,⟨aV,dr,kr,he o0⟩⟩
end
def HR:bX:=gP [0,1,4,5] [] [12,3] [] []
def gD.f (m:Nat)(s0:aj)(n0:Int):Option (Int × Int × aj):=(cO.f m s0 (ai.mk 1 n0 (afC #[]) ([]))).bind fun x0=>some (x0.1,x0.2.1,x0.2.2)
def gD.fin (L:Mem)(aq:Nat)(aG:Nat)(ak:Nat)(s0:aj)(n0:Int)(r:Int × Int × aj)(s:St):Prop:=∃aB aC:Nat,aM Tryz.prog (s.open HR) Tryz.f40.results.toList=some (.tup [.i r.1,.i r.2.1])∧Has s.h ((aq,.ob [.rs aB 0 r.2.2.ah.length 4,.rs aC 0 r.2.2.au.length 1,.bool r.2.2.aK])::(aB,.sl r.2.2.ah.length 4 (af.l r.2.2.ah))::(aC,.sl r.2.2.au.length 1 (ae.l r.2.2.au))::L)
def S40 (cf:CallF)(m:Nat):Prop:=∀(s0:aj) (n0:Int) (r:Int × Int × aj),gD.f m s0 n0=some r→∀h L (aq:Nat) (aG:Nat) (ak:Nat),Has h ((aq,.ob [.rs aG 0 s0.ah.length 4,.rs ak 0 s0.au.length 1,.bool s0.aK])::(aG,.sl s0.ah.length 4 (af.l s0.ah))::(ak,.sl s0.au.length 1 (ae.l s0.au))::L)→∀xs,xs.map aP=[.ptr aq 0,.i n0]→∃aB aC h',cf 40 xs h=some (.tup [.i r.1,.i r.2.1],h')∧Has h' ((aq,.ob [.rs aB 0 r.2.2.ah.length 4,.rs aC 0 r.2.2.au.length 1,.bool r.2.2.aK])::(aB,.sl r.2.2.ah.length 4 (af.l r.2.2.ah))::(aC,.sl r.2.2.au.length 1 (ae.l r.2.2.au))::L)
section
variable {cf:CallF}{m:Nat}
theorem qU {aX:FuncId→bX}(ha:aX 40=HR)(Cg:Tg cf m)(s0:aj)(n0:Int)(h:AHeap)(L:Mem)(aq:Nat)(aG:Nat)(ak:Nat)  (o:Has h ((aq,.ob [.rs aG 0 s0.ah.length 4,.rs ak 0 s0.au.length 1,.bool s0.aK])::(aG,.sl s0.ah.length 4 (af.l s0.ah))::(ak,.sl s0.au.length 1 (ae.l s0.au))::L)){out:Int × Int × aj}(H:gD.f m s0 n0=some out) :
  ∃r h',ba Tryz.prog aX cf m 40 [.ptr aq 0,.i n0] h=some (r,h')∧∃aB aC:Nat,r = .tup [.i out.1,.i out.2.1]∧Has h' ((aq,.ob [.rs aB 0 out.2.2.ah.length 4,.rs aC 0 out.2.2.au.length 1,.bool out.2.2.aK])::(aB,.sl out.2.2.ah.length 4 (af.l out.2.2.ah))::(aC,.sl out.2.2.au.length 1 (ae.l out.2.2.au))::L):=by
 refine ax (fn:=Tryz.f40) ha Tryz.func40 kr kr ?_
 refine aI (Q:=fun s=>gD.fin L aq aG ak s0 n0 out s) (fun _ _ ⟨h1,aB,aC,h2,h3⟩=>⟨h1,_,h2,aB,aC,rfl,h3⟩) ?_
 have H:_=some out:=H
 unfold gD.f at H
 show dB _ cf HR m _ ⟨[.ptr aq 0,.i n0,.any,.any],[],h⟩ _
 refine q1 <| qq ?_
 obtain⟨x0,e0,H⟩:=aQ H
 obtain⟨aV,dr,h0,e1,o0⟩:=Cg _ _ _ e0 h _ _ _ _ (o)  [.ptr aq 0,.agg [.i 1,.i n0,.str (afC #[]),.nils]] (cZ (rfl) (cZ (kW (nz (cz (iW) (cz (iW) (cz (oQ) (cz (nn (E:=ae)) (lU))))))) cq))
 obtain rfl:=oi H
 exact qr [.a 3 e1] <| qt <| ⟨.inl rfl,⟨aV,dr,kr,he o0⟩⟩
end
def HS:bX:=gP [0,1,4,5] [] [12,3] [] []
def fX.f (m:Nat)(s0:aj)(a0:ByteArray):Option (Int × Int × aj):=(cO.f m s0 (ai.mk 2 0 a0 ([]))).bind fun x0=>some (x0.1,x0.2.1,x0.2.2)
def fX.fin (L:Mem)(aq:Nat)(aG:Nat)(ak:Nat)(s0:aj)(a0:ByteArray)(r:Int × Int × aj)(s:St):Prop:=∃aB aC:Nat,aM Tryz.prog (s.open HS) Tryz.f41.results.toList=some (.tup [.i r.1,.i r.2.1])∧Has s.h ((aq,.ob [.rs aB 0 r.2.2.ah.length 4,.rs aC 0 r.2.2.au.length 1,.bool r.2.2.aK])::(aB,.sl r.2.2.ah.length 4 (af.l r.2.2.ah))::(aC,.sl r.2.2.au.length 1 (ae.l r.2.2.au))::L)
def S41 (cf:CallF)(m:Nat):Prop:=∀(s0:aj) (a0:ByteArray) (r:Int × Int × aj),fX.f m s0 a0=some r→∀h L (aq:Nat) (aG:Nat) (ak:Nat),Has h ((aq,.ob [.rs aG 0 s0.ah.length 4,.rs ak 0 s0.au.length 1,.bool s0.aK])::(aG,.sl s0.ah.length 4 (af.l s0.ah))::(ak,.sl s0.au.length 1 (ae.l s0.au))::L)→∀xs,xs.map aP=[.ptr aq 0,.str a0]→∃aB aC h',cf 41 xs h=some (.tup [.i r.1,.i r.2.1],h')∧Has h' ((aq,.ob [.rs aB 0 r.2.2.ah.length 4,.rs aC 0 r.2.2.au.length 1,.bool r.2.2.aK])::(aB,.sl r.2.2.ah.length 4 (af.l r.2.2.ah))::(aC,.sl r.2.2.au.length 1 (ae.l r.2.2.au))::L)
section
variable {cf:CallF}{m:Nat}
theorem pR {aX:FuncId→bX}(ha:aX 41=HS)(Cg:Tg cf m)(s0:aj)(a0:ByteArray)(h:AHeap)(L:Mem)(aq:Nat)(aG:Nat)(ak:Nat)  (o:Has h ((aq,.ob [.rs aG 0 s0.ah.length 4,.rs ak 0 s0.au.length 1,.bool s0.aK])::(aG,.sl s0.ah.length 4 (af.l s0.ah))::(ak,.sl s0.au.length 1 (ae.l s0.au))::L)){out:Int × Int × aj}(H:fX.f m s0 a0=some out) :
  ∃r h',ba Tryz.prog aX cf m 41 [.ptr aq 0,.str a0] h=some (r,h')∧∃aB aC:Nat,r = .tup [.i out.1,.i out.2.1]∧Has h' ((aq,.ob [.rs aB 0 out.2.2.ah.length 4,.rs aC 0 out.2.2.au.length 1,.bool out.2.2.aK])::(aB,.sl out.2.2.ah.length 4 (af.l out.2.2.ah))::(aC,.sl out.2.2.au.length 1 (ae.l out.2.2.au))::L):=by
 refine ax (fn:=Tryz.f41) ha Tryz.func41 kr kr ?_
 refine aI (Q:=fun s=>fX.fin L aq aG ak s0 a0 out s) (fun _ _ ⟨h1,aB,aC,h2,h3⟩=>⟨h1,_,h2,aB,aC,rfl,h3⟩) ?_
 have H:_=some out:=H
 unfold fX.f at H
 show dB _ cf HS m _ ⟨[.ptr aq 0,.str a0,.any,.any],[],h⟩ _
 refine q1 <| qq ?_
 obtain⟨x0,e0,H⟩:=aQ H
 obtain⟨aV,dr,h0,e1,o0⟩:=Cg _ _ _ e0 h _ _ _ _ (o)  [.ptr aq 0,.agg [.i 2,.i 0,.str a0,.nils]] (cZ (rfl) (cZ (kW (nz (cz (iW) (cz (iW) (cz (oQ) (cz (nn (E:=ae)) (lU))))))) cq))
 obtain rfl:=oi H
 exact qr [.a 3 e1] <| qt <| ⟨.inl rfl,⟨aV,dr,kr,he o0⟩⟩
end
def HT:bX:=gP [0,1,2,6,7] [] [24,7] [] []
def fE.f (m:Nat)(s0:aj)(bG:ByteArray)(bH:List Int):Option (Int × Int × aj):=(cO.f m s0 (ai.mk 3 0 bG bH)).bind fun x0=>some (x0.1,x0.2.1,x0.2.2)
def fE.fin (L:Mem)(aq:Nat)(aG:Nat)(ak:Nat)(s0:aj)(bG:ByteArray)(bH:List Int)(r:Int × Int × aj)(s:St):Prop:=∃aB aC:Nat,aM Tryz.prog (s.open HT) Tryz.f43.results.toList=some (.tup [.i r.1,.i r.2.1])∧Has s.h ((aq,.ob [.rs aB 0 r.2.2.ah.length 4,.rs aC 0 r.2.2.au.length 1,.bool r.2.2.aK])::(aB,.sl r.2.2.ah.length 4 (af.l r.2.2.ah))::(aC,.sl r.2.2.au.length 1 (ae.l r.2.2.au))::L)
def S43 (cf:CallF)(m:Nat):Prop:=∀(s0:aj) (bG:ByteArray) (bH:List Int) (r:Int × Int × aj),fE.f m s0 bG bH=some r→∀h L (aq:Nat) (aG:Nat) (ak:Nat),Has h ((aq,.ob [.rs aG 0 s0.ah.length 4,.rs ak 0 s0.au.length 1,.bool s0.aK])::(aG,.sl s0.ah.length 4 (af.l s0.ah))::(ak,.sl s0.au.length 1 (ae.l s0.au))::L)→∀xs,xs.map aP=[.ptr aq 0,.str bG,ae.fz bH]→∃aB aC h',cf 43 xs h=some (.tup [.i r.1,.i r.2.1],h')∧Has h' ((aq,.ob [.rs aB 0 r.2.2.ah.length 4,.rs aC 0 r.2.2.au.length 1,.bool r.2.2.aK])::(aB,.sl r.2.2.ah.length 4 (af.l r.2.2.ah))::(aC,.sl r.2.2.au.length 1 (ae.l r.2.2.au))::L)
section
variable {cf:CallF}{m:Nat}
theorem pg {aX:FuncId→bX}(ha:aX 43=HT)(Cg:Tg cf m)(s0:aj)(bG:ByteArray)(bH:List Int)(h:AHeap)(L:Mem)(aq:Nat)(aG:Nat)(ak:Nat)  (o:Has h ((aq,.ob [.rs aG 0 s0.ah.length 4,.rs ak 0 s0.au.length 1,.bool s0.aK])::(aG,.sl s0.ah.length 4 (af.l s0.ah))::(ak,.sl s0.au.length 1 (ae.l s0.au))::L)){out:Int × Int × aj}(H:fE.f m s0 bG bH=some out) :
  ∃r h',ba Tryz.prog aX cf m 43 [.ptr aq 0,.str bG,ae.fz bH] h=some (r,h')∧∃aB aC:Nat,r = .tup [.i out.1,.i out.2.1]∧Has h' ((aq,.ob [.rs aB 0 out.2.2.ah.length 4,.rs aC 0 out.2.2.au.length 1,.bool out.2.2.aK])::(aB,.sl out.2.2.ah.length 4 (af.l out.2.2.ah))::(aC,.sl out.2.2.au.length 1 (ae.l out.2.2.au))::L):=by
 refine ax (fn:=Tryz.f43) ha Tryz.func43 kr kr ?_
 refine aI (Q:=fun s=>fE.fin L aq aG ak s0 bG bH out s) (fun _ _ ⟨h1,aB,aC,h2,h3⟩=>⟨h1,_,h2,aB,aC,rfl,h3⟩) ?_
 have H:_=some out:=H
 unfold fE.f at H
 show dB _ cf HT m _ ⟨[.ptr aq 0,.str bG,ae.fz bH,.any,.any],[],h⟩ _
 refine q1 <| qq ?_
 obtain⟨x0,e0,H⟩:=aQ H
 obtain⟨aV,dr,h0,e1,o0⟩:=Cg _ _ _ e0 h _ _ _ _ (o)  [.ptr aq 0,.agg [.i 3,.i 0,.str bG,ae.fz bH]] cq
 obtain rfl:=oi H
 exact qr [.a 4 e1] <| qt <| ⟨.inl rfl,⟨aV,dr,kr,he o0⟩⟩
end
def HU:bX:=gP [0,1,2,6,7] [] [24,7] [] []
def fY.f (m:Nat)(s0:aj)(bG:ByteArray)(n0:Int):Option (Int × Int × aj):=(cO.f m s0 (ai.mk 4 n0 bG ([]))).bind fun x0=>some (x0.1,x0.2.1,x0.2.2)
def fY.fin (L:Mem)(aq:Nat)(aG:Nat)(ak:Nat)(s0:aj)(bG:ByteArray)(n0:Int)(r:Int × Int × aj)(s:St):Prop:=∃aB aC:Nat,aM Tryz.prog (s.open HU) Tryz.f45.results.toList=some (.tup [.i r.1,.i r.2.1])∧Has s.h ((aq,.ob [.rs aB 0 r.2.2.ah.length 4,.rs aC 0 r.2.2.au.length 1,.bool r.2.2.aK])::(aB,.sl r.2.2.ah.length 4 (af.l r.2.2.ah))::(aC,.sl r.2.2.au.length 1 (ae.l r.2.2.au))::L)
def S45 (cf:CallF)(m:Nat):Prop:=∀(s0:aj) (bG:ByteArray) (n0:Int) (r:Int × Int × aj),fY.f m s0 bG n0=some r→∀h L (aq:Nat) (aG:Nat) (ak:Nat),Has h ((aq,.ob [.rs aG 0 s0.ah.length 4,.rs ak 0 s0.au.length 1,.bool s0.aK])::(aG,.sl s0.ah.length 4 (af.l s0.ah))::(ak,.sl s0.au.length 1 (ae.l s0.au))::L)→∀xs,xs.map aP=[.ptr aq 0,.str bG,.i n0]→∃aB aC h',cf 45 xs h=some (.tup [.i r.1,.i r.2.1],h')∧Has h' ((aq,.ob [.rs aB 0 r.2.2.ah.length 4,.rs aC 0 r.2.2.au.length 1,.bool r.2.2.aK])::(aB,.sl r.2.2.ah.length 4 (af.l r.2.2.ah))::(aC,.sl r.2.2.au.length 1 (ae.l r.2.2.au))::L)
section
variable {cf:CallF}{m:Nat}
theorem pS {aX:FuncId→bX}(ha:aX 45=HU)(Cg:Tg cf m)(s0:aj)(bG:ByteArray)(n0:Int)(h:AHeap)(L:Mem)(aq:Nat)(aG:Nat)(ak:Nat)  (o:Has h ((aq,.ob [.rs aG 0 s0.ah.length 4,.rs ak 0 s0.au.length 1,.bool s0.aK])::(aG,.sl s0.ah.length 4 (af.l s0.ah))::(ak,.sl s0.au.length 1 (ae.l s0.au))::L)){out:Int × Int × aj}(H:fY.f m s0 bG n0=some out) :
  ∃r h',ba Tryz.prog aX cf m 45 [.ptr aq 0,.str bG,.i n0] h=some (r,h')∧∃aB aC:Nat,r = .tup [.i out.1,.i out.2.1]∧Has h' ((aq,.ob [.rs aB 0 out.2.2.ah.length 4,.rs aC 0 out.2.2.au.length 1,.bool out.2.2.aK])::(aB,.sl out.2.2.ah.length 4 (af.l out.2.2.ah))::(aC,.sl out.2.2.au.length 1 (ae.l out.2.2.au))::L):=by
 refine ax (fn:=Tryz.f45) ha Tryz.func45 kr kr ?_
 refine aI (Q:=fun s=>fY.fin L aq aG ak s0 bG n0 out s) (fun _ _ ⟨h1,aB,aC,h2,h3⟩=>⟨h1,_,h2,aB,aC,rfl,h3⟩) ?_
 have H:_=some out:=H
 unfold fY.f at H
 show dB _ cf HU m _ ⟨[.ptr aq 0,.str bG,.i n0,.any,.any],[],h⟩ _
 refine q1 <| qq ?_
 obtain⟨x0,e0,H⟩:=aQ H
 obtain⟨aV,dr,h0,e1,o0⟩:=Cg _ _ _ e0 h _ _ _ _ (o)  [.ptr aq 0,.agg [.i 4,.i n0,.str bG,.nils]] (cZ (rfl) (cZ (kW (nz (cz (iW) (cz (iW) (cz (oQ) (cz (nn (E:=ae)) (lU))))))) cq))
 obtain rfl:=oi H
 exact qr [.a 4 e1] <| qt <| ⟨.inl rfl,⟨aV,dr,kr,he o0⟩⟩
end
def HV:bX:=gP [0,1,2,3,6] [1,2] [25,9,19,19] [] []
def iO.f (m:Nat)(t0:bm):Option (bm × Int):=(cR.f m t0).bind fun x0=>if (!x0)=true then (some ((bm.mk ([]) 0),2)) else ((aD.f m t0.nodes t0.root).bind fun x1=>some (x1,0))
def iO.fin (L:Mem)(r:bm × Int)(s:St):Prop:=∃av,aM Tryz.prog (s.open HV) Tryz.f88.results.toList=some av∧Oh s.h av (.tup [.agg [af.fz r.1.nodes,.i r.1.root],.i r.2])
def S88 (cf:CallF)(m:Nat):Prop:=∀(t0:bm) (r:bm × Int),iO.f m t0=some r→∀h xs,yc xs [.agg [af.fz t0.nodes,.i t0.root]]→cf 88 xs h=some (.tup [.agg [af.fz r.1.nodes,.i r.1.root],.i r.2],h)
section
variable {cf:CallF}{m:Nat}
theorem vd {aX:FuncId→bX}(ha:aX 88=HV)(Yv:S23 cf m)(Vh:Va cf m)(t0:bm)(h:AHeap)(L:Mem)  (o:Has h (L)){out:bm × Int}(H:iO.f m t0=some out) :
  ∃r h',ba Tryz.prog aX cf m 88 [.agg [af.fz t0.nodes,.i t0.root]] h=some (r,h')∧Oh h' r (.tup [.agg [af.fz out.1.nodes,.i out.1.root],.i out.2]):=by
 refine ax (fn:=Tryz.f88) ha Tryz.func88 kr kr ?_
 refine aI (Q:=fun s=>iO.fin L out s) (fun _ _ h=>h) ?_
 have H:_=some out:=H
 unfold iO.f at H
 show dB _ cf HV m _ ⟨.agg [af.fz t0.nodes,.i t0.root]::lW [],[none,none],h⟩ _
 refine q1 <| qq <| qq ?_
 obtain⟨x0,e0,H⟩:=aQ H
 refine qr [.a 1 (Yv _ _ e0 h _ fq)] <| qc H (fun c0 H=>?_) (fun c0 H=>?_)
 ·obtain rfl:=oi H
  exact q1 <| qt <| ⟨.inl rfl,Xw (.tup [.agg [.nils,.i 0],.i 2]) h (JP (FC (ao (oO (ao (Oi) (ao (bP) (aJ)))) (ao (bP) (aJ)))))⟩
 ·refine qk <| qq ?_
  obtain⟨x1,e1,H⟩:=aQ H
  obtain rfl:=oi H
  exact qr [.a 4 (Vh _ _ _ e1 h _ (cz (KV (E:=af)) (cz (iW) (lU))))] <| qt <| ⟨.inl rfl,Xw (.tup [.agg [af.fz x1.nodes,.i x1.root],.i 0]) h (JP (FC (ao (oO (ao (kF) (ao (bP) (aJ)))) (ao (bP) (aJ)))))⟩
end
def Ch:bX:=gP [0,1] [] [3] [] []
def il.f (m:Nat)(x0:List Int)(bf:Int→Int→Option (Int)):Option ((List Int)):=(cC.f m x0 (x0.length:Int) bf).bind fun x1=>some x1
def il.fin (L:Mem)(aV:Nat)(x0:List Int)(bf:Int→Int→Option (Int))(r:(List Int))(s:St):Prop:=aM Tryz.prog (s.open Ch) Tryz.f114.results.toList=some (.tup [])∧Has s.h ((aV,.sl x0.length 1 (ae.l r))::L)
def Vi (cf:CallF)(m:Nat):Prop:=∀(x0:List Int) (bf:Int→Int→Option (Int)) (r:(List Int)),il.f m x0 bf=some r→∀h L (L5:Nat) (aV:Nat),Has h ((aV,.sl L5 1 (ae.l x0))::L)→∀(gQ:FuncId) (bc cU:List AV),(aP (.fn gQ bc) = .fn gQ bc)→(∀(h:AHeap) (xs:List AV) (a0:Int) (a1:Int) r,bf a0 a1=some r→aZ b5 h xs ([.i a0,.i a1]++cU)→cf gQ xs h=some (.i r,h))→(∀h K,Has h (K++(L))→aZ dK h bc cU)→(∀h,aZ dK h cU cU)→∀xs,xs.map aP=[.rs aV 0 L5 1,.fn gQ bc]→∃h',cf 114 xs h=some (.tup [],h')∧Has h' ((aV,.sl L5 1 (ae.l r))::L)
section
variable {cf:CallF}{m:Nat}
theorem tR {aX:FuncId→bX}(ha:aX 114=Ch)(Vj:Vf cf m)(x0:List Int)(bf:Int→Int→Option (Int))(h:AHeap)(L:Mem)(aV:Nat)(gQ:FuncId)(bc cU:List AV)  (yy:aP (.fn gQ bc) = .fn gQ bc)(jQ:∀(h:AHeap) (xs:List AV) (a0:Int) (a1:Int) r,bf a0 a1=some r→aZ b5 h xs ([.i a0,.i a1]++cU)→cf gQ xs h=some (.i r,h))(tD:∀h K,Has h (K++(L))→aZ dK h bc cU)(jR:∀h,aZ dK h cU cU)(o:Has h ((aV,.sl x0.length 1 (ae.l x0))::L)){out:(List Int)}(H:il.f m x0 bf=some out) :
  ∃r h',ba Tryz.prog aX cf m 114 [.rs aV 0 x0.length 1,.fn gQ bc] h=some (r,h')∧r = .tup []∧Has h' ((aV,.sl x0.length 1 (ae.l out))::L):=by
 refine ax (fn:=Tryz.f114) ha Tryz.func114 kr kr ?_
 refine aI (Q:=fun s=>il.fin L aV x0 bf out s) (fun _ _ ⟨h1,h2,h3⟩=>⟨h1,_,h2,rfl,h3⟩) ?_
 have H:_=some out:=H
 unfold il.f at H
 show dB _ cf Ch m _ ⟨[.rs aV 0 x0.length 1,.fn gQ bc],[],h⟩ _
 obtain⟨x1,e0,H⟩:=aQ H
 obtain⟨h0,e1,o0⟩:=Vj _ _ _ _ e0 h _ _ _ (o) gQ bc cU yy jQ (fun h' K' o'=>tD h' (K'++[]) (by simpa only [afn,afF,afz] using o')) jR [.rs aV 0 x0.length 1,.i (x0.length:Int),.fn gQ bc] cq
 obtain rfl:=oi H
 exact qr [.a 4 e1] <| ⟨.inr rfl,⟨kr,he o0⟩⟩
end
def Ay:bX:=gP [0,2,3,4,5,6,20,22,23,24,25,31] [6] [4094,4030,4089,4086,3191,2167,3143,1095,3143,3143,3191,3191,4089] [(10,[(6,some 3,0)])] []
def bu.l0 (m:Nat)(aE:List ai):Nat→Int→ab→Option (Int × ab)
 | 0,_,_=>none
 | k+1,x2,fV=>if (decide (x2<(aE.length:Int)))=true then ((ix aE x2).bind fun v0=>jn (fun (σ:Int)=>match σ with | n0=>(NG 1 v0.args).bind fun x3=>(app 56 fV.aa ([(ai.mk v0.kind n0 v0.label x3)])).bind fun x4=>(app 8 fV.an ([x2])).bind fun x5=>bu.l0 m aE k (i64.wrap (x2+1)) (ab.mk fV.aA x4 x5)) fun oU=>(if (v0.kind==0)=true then (oU x2) else (oU v0.int))) else (some ((x2,fV)))
def bu.l1 (m:Nat)(aE:List ai):Nat→Int→ab→Option (Int × ab)
 | 0,_,_=>none
 | k+1,x8,lj=>if (decide (x8<(aE.length:Int)))=true then ((ix aE x8).bind fun v1=>jn (fun (σ:Int)=>match σ with | n1=>(NG 1 v1.args).bind fun x9=>(app 56 lj.aa ([(ai.mk v1.kind n1 v1.label x9)])).bind fun lX=>(app 8 lj.an ([x8])).bind fun xi=>bu.l1 m aE k (i64.wrap (x8+1)) (ab.mk lj.aA lX xi)) fun CR=>(if (v1.kind==0)=true then (CR x8) else (CR v1.int))) else (some ((x8,lj)))
def bu.f (m:Nat)(aE:List ai):Option ((Option ab) × Int):=if (decide ((aE.length:Int) > 8000))=true then (some (none,2)) else (if (decide ((aE.length:Int) > 0))=true then ((jc.f m (bm.mk aE 0)).bind fun x0=>if (!x0)=true then (some (none,2)) else ((jP.f m ).bind fun x1=>(bu.l0 m aE m 0 x1).bind fun bI=>match bI with | (x6,rS)=>some (some rS,0))) else ((jP.f m ).bind fun x7=>(bu.l1 m aE m 0 x7).bind fun eT=>match eT with | (Jj,st3)=>some (some st3,0)))
def bu.fin (L:Mem)(aE:List ai)(r:(Option ab) × Int)(s:St):Prop:=∃du dv dw:Nat,aM Tryz.prog (s.open Ay) Tryz.f10.results.toList=some (.tup [(Jh r.1 du),.i r.2])∧Has s.h (Ji r.1 (fun y=>[(du,.ob [.bool y.aA,.rs dv 0 y.aa.length 4,.rs dw 0 y.an.length 1]),(dv,.sl y.aa.length 4 (af.l y.aa)),(dw,.sl y.an.length 1 (ae.l y.an))])++(L))
def S10 (cf:CallF)(m:Nat):Prop:=∀(aE:List ai) (r:(Option ab) × Int),bu.f m aE=some r→∀h L,Has h (L)→∀xs,xs.map aP=[af.fz aE]→∃du dv dw h',cf 10 xs h=some (.tup [(Jh r.1 du),.i r.2],h')∧Has h' (Ji r.1 (fun y=>[(du,.ob [.bool y.aA,.rs dv 0 y.aa.length 4,.rs dw 0 y.an.length 1]),(dv,.sl y.aa.length 4 (af.l y.aa)),(dw,.sl y.an.length 1 (ae.l y.an))])++(L))
section
variable {cf:CallF}{m:Nat}
theorem bu.cF (L:Mem)(aE:List ai)(aV:Nat)  (zL:UA cf m):cd Tryz.prog cf Ay m (sub [1,1,1,0,1,0,0] (bA Tryz.f10)) (fun k (σ:Int × ab)=>bu.l0 m aE k σ.1 σ.2) (fun σ s=>match σ with | (x2,fV)=>∃cE dT h1,s=⟨mU (.ptr aV 0::mU [af.fz aE,.i (aE.length:Int),.i x2,.any,.any]),[none],h1⟩∧Has h1 ((aV,.ob [.bool fV.aA,.rs cE 0 fV.aa.length 4,.rs dT 0 fV.an.length 1])::(cE,.sl fV.aa.length 4 (af.l fV.aa))::(dT,.sl fV.an.length 1 (ae.l fV.an))::L)) (fun out e s=>(e = .exit 0∧∃x2 fV,(x2,fV)=out∧∃uT L6 L7 R7 cE dT h1,s=⟨mU (.ptr aV 0::mU [uT,L6,L7,R7,.any]),[none],h1⟩∧Has h1 ((aV,.ob [.bool fV.aA,.rs cE 0 fV.aa.length 4,.rs dT 0 fV.an.length 1])::(cE,.sl fV.aa.length 4 (af.l fV.aa))::(dT,.sl fV.an.length 1 (ae.l fV.an))::L))):=by
 refine jW (fun _=>rfl) ?_
 rintro k ⟨x2,fV⟩ s out ⟨cE,dT,h1,rfl,o1⟩ H
 have H:bu.l0 m aE (k+1) x2 fV=some out:=H
 refine q1 <| qq <| qc H (fun c4 H=>?_) (fun c4 H=>?_)
 ·refine qk <| qq <| qb 1 <| qq ?_
  obtain⟨v0,e3,H⟩:=aQ H
  refine qr [.v 1 (bW (k:=.i64) (E:=af) (l:=aE) lF e3),.v 2 (gf  (E:=af) (l:=aE) h1 sM sN e3)] ?_
  obtain⟨oU,As,H⟩:=kX H
  refine qj (S:=fun (σ:Int) s=>match σ with | n0=>∃(g0:AV) (h2:AHeap),s=⟨mU [.ptr aV 0,.i x2,.lp 6 0,.any,af.fz aE,.i (aE.length:Int),.i x2,.any,g0],[some [.i v0.kind,.i n0,.str v0.label,ae.fz v0.args]],h2⟩∧Has h2 ((aV,.ob [.bool fV.aA,.rs cE 0 fV.aa.length 4,.rs dT 0 fV.an.length 1])::(cE,.sl fV.aa.length 4 (af.l fV.aa))::(dT,.sl fV.an.length 1 (ae.l fV.an))::L)) oU H ?_ ?_
  ·rintro n0 s ⟨g0,h2,rfl,o2⟩ H
   have H:=(As _).symm.trans H
   try dsimp only at H
   refine qq ?_
   obtain⟨x3,e4,H⟩:=aQ H
   obtain⟨ir,h3,e5,o3⟩:=Lf (E:=ae) (l:=v0.args) zL o2 e4
   refine qr [.a 2 e5] ?_
   obtain⟨h4,e6,o4⟩:=lT (E:=ae) (l:=x3) (q:=0) o3 rfl
   obtain⟨x4,e7,H⟩:=aQ H
   obtain⟨iy,h5,e8,o5⟩:=dY (P:=Tryz.prog) (E:=af) (l:=fV.aa) (q:=1) (t2:=23) (x:=.fz [.i v0.kind,.i n0,.str v0.label,ae.fz x3] 1 true) (l2:=([(ai.mk v0.kind n0 v0.label x3)])) lF o4 rfl kr rfl e7
   obtain⟨x5,e9,H⟩:=aQ H
   obtain⟨iA,h6,nW,o6⟩:=dY (P:=Tryz.prog) (E:=ae) (l:=fV.an) (q:=2) (t2:=22) (x:=.fz [.i x2] 1 true) (l2:=([x2])) de o5 rfl kr rfl e9
   obtain⟨h7,rG,o7⟩:=kb (P:=Tryz.prog) (t:=23) (off:=1) (q:=0) (cs:=[.bool fV.aA,.rs cE 0 fV.aa.length 4,.rs dT 0 fV.an.length 1]) (gF:=[.bool fV.aA,.rs iy 0 x4.length 4,.rs dT 0 fV.an.length 1]) (x:=.rs iy 0 x4.length 4) o6 rfl kr
   obtain⟨h8,sy,o8⟩:=kb (P:=Tryz.prog) (t:=22) (off:=2) (q:=0) (cs:=[.bool fV.aA,.rs iy 0 x4.length 4,.rs dT 0 fV.an.length 1]) (gF:=[.bool fV.aA,.rs iy 0 x4.length 4,.rs iA 0 x5.length 1]) (x:=.rs iA 0 x5.length 1) o7 rfl kr
   exact Ro [.a 0 e6] [.v 5 (show bB Tryz.prog h4 23 (.ptr aV 1)=some (.rs cE 0 fV.aa.length 4) from b7 (q:=0) (cs:=[.bool fV.aA,.rs cE 0 fV.aa.length 4,.rs dT 0 fV.an.length 1]) o4 rfl kr),.a 8 e8,.v 12 (show bB Tryz.prog h5 22 (.ptr aV 2)=some (.rs dT 0 fV.an.length 1) from b7 (q:=0) (cs:=[.bool fV.aA,.rs cE 0 fV.aa.length 4,.rs dT 0 fV.an.length 1]) o5 rfl kr),.a 15 nW,.w 18 rG,.w 21 sy] [.mk (yq o4 (q:=1) rfl (q2:=0) rfl (by decide) e8)] <| q0 <| ⟨(i64.wrap (x2+1),(ab.mk fV.aA x4 x5)),⟨iy,iA,h8,kr,o8⟩,H⟩
  clear As
  intro mW
  refine q1 <| qc H (fun c5 H=>?_) (fun c5 H=>?_)
  ·exact q0 <| mW x2 _ ⟨.any,h1,kr,o1⟩ H
  ·exact qk <| mW v0.int _ ⟨.bool (v0.kind==0),h1,kr,o1⟩ H
 ·exact qx 0 <| ⟨rfl,x2,fV,oi H,af.fz aE,.i (aE.length:Int),.i x2,.bool (decide (x2<(aE.length:Int))),cE,dT,h1,kr,o1⟩
theorem bu.jG (L:Mem)(aE:List ai)(eR:Nat)  (zL:UA cf m):cd Tryz.prog cf Ay m (sub [1,1,1,0,1,0,0] (bA Tryz.f10)) (fun k (σ:Int × ab)=>bu.l1 m aE k σ.1 σ.2) (fun σ s=>match σ with | (x8,lj)=>∃fP gI h11,s=⟨mU (.ptr eR 0::mU [af.fz aE,.i (aE.length:Int),.i x8,.any,.any]),[none],h11⟩∧Has h11 ((eR,.ob [.bool lj.aA,.rs fP 0 lj.aa.length 4,.rs gI 0 lj.an.length 1])::(fP,.sl lj.aa.length 4 (af.l lj.aa))::(gI,.sl lj.an.length 1 (ae.l lj.an))::L)) (fun out e s=>(e = .exit 0∧∃x8 lj,(x8,lj)=out∧∃uT L6 L7 R7 fP gI h11,s=⟨mU (.ptr eR 0::mU [uT,L6,L7,R7,.any]),[none],h11⟩∧Has h11 ((eR,.ob [.bool lj.aA,.rs fP 0 lj.aa.length 4,.rs gI 0 lj.an.length 1])::(fP,.sl lj.aa.length 4 (af.l lj.aa))::(gI,.sl lj.an.length 1 (ae.l lj.an))::L))):=by
 refine jW (fun _=>rfl) ?_
 rintro k ⟨x8,lj⟩ s out ⟨fP,gI,h11,rfl,tH⟩ H
 have H:bu.l1 m aE (k+1) x8 lj=some out:=H
 refine q1 <| qq <| qc H (fun c7 H=>?_) (fun c7 H=>?_)
 ·refine qk <| qq <| qb 1 <| qq ?_
  obtain⟨v1,uP,H⟩:=aQ H
  refine qr [.v 1 (bW (k:=.i64) (E:=af) (l:=aE) lF uP),.v 2 (gf  (E:=af) (l:=aE) h11 sM sN uP)] ?_
  obtain⟨CR,NJ,H⟩:=kX H
  refine qj (S:=fun (σ:Int) s=>match σ with | n1=>∃(g5:AV) (h12:AHeap),s=⟨mU [.ptr eR 0,.i x8,.lp 6 0,.any,af.fz aE,.i (aE.length:Int),.i x8,.any,g5],[some [.i v1.kind,.i n1,.str v1.label,ae.fz v1.args]],h12⟩∧Has h12 ((eR,.ob [.bool lj.aA,.rs fP 0 lj.aa.length 4,.rs gI 0 lj.an.length 1])::(fP,.sl lj.aa.length 4 (af.l lj.aa))::(gI,.sl lj.an.length 1 (ae.l lj.an))::L)) CR H ?_ ?_
  ·rintro n1 s ⟨g5,h12,rfl,xj⟩ H
   have H:=(NJ _).symm.trans H
   try dsimp only at H
   refine qq ?_
   obtain⟨x9,wK,H⟩:=aQ H
   obtain⟨iJ,h13,zk,mK⟩:=Lf (E:=ae) (l:=v1.args) zL xj wK
   refine qr [.a 2 zk] ?_
   obtain⟨h14,vU,rJ⟩:=lT (E:=ae) (l:=x9) (q:=0) mK rfl
   obtain⟨lX,Av,H⟩:=aQ H
   obtain⟨jm,h15,Aw,zm⟩:=dY (P:=Tryz.prog) (E:=af) (l:=lj.aa) (q:=1) (t2:=23) (x:=.fz [.i v1.kind,.i n1,.str v1.label,ae.fz x9] 1 true) (l2:=([(ai.mk v1.kind n1 v1.label x9)])) lF rJ rfl kr rfl Av
   obtain⟨xi,Ax,H⟩:=aQ H
   obtain⟨lY,h16,zl,pa⟩:=dY (P:=Tryz.prog) (E:=ae) (l:=lj.an) (q:=2) (t2:=22) (x:=.fz [.i x8] 1 true) (l2:=([x8])) de zm rfl kr rfl Ax
   obtain⟨h17,zH,zn⟩:=kb (P:=Tryz.prog) (t:=23) (off:=1) (q:=0) (cs:=[.bool lj.aA,.rs fP 0 lj.aa.length 4,.rs gI 0 lj.an.length 1]) (gF:=[.bool lj.aA,.rs jm 0 lX.length 4,.rs gI 0 lj.an.length 1]) (x:=.rs jm 0 lX.length 4) pa rfl kr
   obtain⟨h18,B3,px⟩:=kb (P:=Tryz.prog) (t:=22) (off:=2) (q:=0) (cs:=[.bool lj.aA,.rs jm 0 lX.length 4,.rs gI 0 lj.an.length 1]) (gF:=[.bool lj.aA,.rs jm 0 lX.length 4,.rs lY 0 xi.length 1]) (x:=.rs lY 0 xi.length 1) zn rfl kr
   exact Ro [.a 0 vU] [.v 5 (show bB Tryz.prog h14 23 (.ptr eR 1)=some (.rs fP 0 lj.aa.length 4) from b7 (q:=0) (cs:=[.bool lj.aA,.rs fP 0 lj.aa.length 4,.rs gI 0 lj.an.length 1]) rJ rfl kr),.a 8 Aw,.v 12 (show bB Tryz.prog h15 22 (.ptr eR 2)=some (.rs gI 0 lj.an.length 1) from b7 (q:=0) (cs:=[.bool lj.aA,.rs fP 0 lj.aa.length 4,.rs gI 0 lj.an.length 1]) zm rfl kr),.a 15 zl,.w 18 zH,.w 21 B3] [.mk (yq rJ (q:=1) rfl (q2:=0) rfl (by decide) Aw)] <| q0 <| ⟨(i64.wrap (x8+1),(ab.mk lj.aA lX xi)),⟨jm,lY,h18,kr,px⟩,H⟩
  clear NJ
  intro Cd
  refine q1 <| qc H (fun c8 H=>?_) (fun c8 H=>?_)
  ·exact q0 <| Cd x8 _ ⟨.any,h11,kr,tH⟩ H
  ·exact qk <| Cd v1.int _ ⟨.bool (v1.kind==0),h11,kr,tH⟩ H
 ·exact qx 0 <| ⟨rfl,x8,lj,oi H,af.fz aE,.i (aE.length:Int),.i x8,.bool (decide (x8<(aE.length:Int))),fP,gI,h11,kr,tH⟩
theorem ve {aX:FuncId→bX}(ha:aX 10=Ay)(Vk:S16 cf m)(R8:Ys cf m)(zL:UA cf m)(aE:List ai)(h:AHeap)(L:Mem)  (o:Has h (L)){out:(Option ab) × Int}(H:bu.f m aE=some out) :
  ∃r h',ba Tryz.prog aX cf m 10 [af.fz aE] h=some (r,h')∧∃du dv dw:Nat,r = .tup [(Jh out.1 du),.i out.2]∧Has h' (Ji out.1 (fun y=>[(du,.ob [.bool y.aA,.rs dv 0 y.aa.length 4,.rs dw 0 y.an.length 1]),(dv,.sl y.aa.length 4 (af.l y.aa)),(dw,.sl y.an.length 1 (ae.l y.an))])++(L)):=by
 refine ax (fn:=Tryz.f10) ha Tryz.func10 kr kr ?_
 refine aI (Q:=fun s=>bu.fin L aE out s) (fun _ _ ⟨h1,du,dv,dw,h2,h3⟩=>⟨h1,_,h2,du,dv,dw,rfl,h3⟩) ?_
 have H:_=some out:=H
 unfold bu.f at H
 show dB _ cf Ay m _ ⟨af.fz aE::ss [],[none],h⟩ _
 refine q1 <| qq <| qq ?_
 rcases dZ H with⟨c0,H⟩| ⟨c0,H⟩
 ·obtain rfl:=oi H
  exact qr [.b 3 c0] <| rW <| qq <| q0 <| qt <| ⟨.inl rfl,⟨0,0,0,kr,he o⟩⟩
 ·rcases dZ H with⟨c2,H⟩| ⟨c2,H⟩
  ·obtain⟨x0,e0,H⟩:=aQ H
   refine qr [.b 3 c0,.b 7 c2,.a 10 (R8 _ _ e0 h _ fq)] <| qc H (fun c3 H=>?_) (fun c3 H=>?_)
   ·obtain rfl:=oi H
    exact q1 <| qt <| ⟨.inl rfl,⟨0,0,0,kr,he o⟩⟩
   ·refine qk <| qq ?_
    obtain⟨x1,e1,H⟩:=aQ H
    obtain⟨aV,dr,cm,h0,e2,o0⟩:=Vk _ e1 h _  (o)  [] cq
    refine qr [.a 0 e2] <| qq <| qq <| q0 <| qb 0 ?_
    obtain⟨bI,rZ,H⟩:=aQ H
    refine ql (bu.cF L aE aV  zL (0,x1) _ _ ⟨dr,cm,h0,kr,o0⟩ rZ) ?_
    rintro e s ⟨rfl,x6,rS,rfl,g1,g2,g3,g4,lh,ml,h9,rfl,o9⟩
    try dsimp only at H
    obtain rfl:=oi H
    exact q1 <| qt <| ⟨.inl rfl,⟨aV,lh,ml,kr,he o9⟩⟩
  ·refine qr [.b 3 c0,.b 7 c2] <| zD <| qk <| qq ?_
   obtain⟨x7,wG,H⟩:=aQ H
   obtain⟨eR,ij,fF,h10,sA,sO⟩:=Vk _ wG h _  (o)  [] cq
   refine qr [.a 0 sA] <| qq <| qq <| q0 <| qb 0 ?_
   obtain⟨eT,CQ,H⟩:=aQ H
   refine ql (bu.jG L aE eR  zL (0,x7) _ _ ⟨ij,fF,h10,kr,sO⟩ CQ) ?_
   rintro e s ⟨rfl,Jj,st3,rfl,g6,g7,g8,g9,mM,qM,h19,rfl,zI⟩
   try dsimp only at H
   obtain rfl:=oi H
   exact q1 <| qt <| ⟨.inl rfl,⟨eR,mM,qM,kr,he zI⟩⟩
end
def Az:bX:=gP [0,1,3,4,5,6,7,8,9,10,11,12,15,22,34,39,51,68] [3,6,10] [262138,258042,262119,262046,253854,262119,261982,245598,262119,261726,228958,261726,261214,260190,258142,192606,258142,258142,261214,130142,261214,261726,261726,262119] [(18,[(11,none,0)])] [(13,[(11,none,1)])]
def aY.l1 (m:Nat)(s0:aj)(v0:ai):Nat→(List Int)→Int→aj→Option ((List Int) × Int × aj)
 | 0,_,_,_=>none
 | k+1,bH,k0,s2=>if (decide (k0<(v0.args.length:Int)))=true then ((ix v0.args k0).bind fun v1=>(app 8 bH ([i64.wrap ((s0.ah.length:Int)+v1)])).bind fun x2=>aY.l1 m s0 v0 k x2 (i64.wrap (k0+1)) s2) else (some ((bH,k0,s2)))
def aY.l0 (m:Nat)(s0:aj)(x1:bm × Int):Nat→Int→aj→Option (Int × aj)
 | 0,_,_=>none
 | k+1,i0,s1=>if (decide (i0<(x1.1.nodes.length:Int)))=true then ((ix x1.1.nodes i0).bind fun v0=>(aY.l1 m s0 v0 m ([]:List Int) 0 s1).bind fun bI=>match bI with | (mH,k1,s3)=>jn (fun (σ:Int)=>match σ with | n0=>(app 56 s3.ah ([(ai.mk v0.kind n0 v0.label mH)])).bind fun x3=>(app 8 s3.au ([i64.wrap ((s0.ah.length:Int)+i0)])).bind fun x4=>aY.l0 m s0 x1 k (i64.wrap (i0+1)) (aj.mk x3 x4 s3.aK)) fun oU=>(if (v0.kind==0)=true then (oU (i64.wrap ((s0.ah.length:Int)+i0))) else (oU v0.int))) else (some ((i0,s1)))
def aY.f (m:Nat)(s0:aj)(t0:bm):Option (Int × Int × aj):=(cN.f m s0).bind fun x0=>if (!x0)=true then (some (0,6,s0)) else ((iO.f m t0).bind fun x1=>if (!(x1.2==0))=true then (some (0,x1.2,s0)) else (if (decide ((i64.wrap ((s0.ah.length:Int)+(x1.1.nodes.length:Int))) > 8000))=true then (some (0,7,s0)) else ((aY.l0 m s0 x1 m 0 s0).bind fun eT=>match eT with | (i1,s4)=>some ((s0.ah.length:Int),0,s4))))
def aY.fin (L:Mem)(aq:Nat)(aG:Nat)(ak:Nat)(s0:aj)(t0:bm)(r:Int × Int × aj)(s:St):Prop:=∃aB aC:Nat,aM Tryz.prog (s.open Az) Tryz.f46.results.toList=some (.tup [.i r.1,.i r.2.1])∧Has s.h ((aq,.ob [.rs aB 0 r.2.2.ah.length 4,.rs aC 0 r.2.2.au.length 1,.bool r.2.2.aK])::(aB,.sl r.2.2.ah.length 4 (af.l r.2.2.ah))::(aC,.sl r.2.2.au.length 1 (ae.l r.2.2.au))::L)
def S46 (cf:CallF)(m:Nat):Prop:=∀(s0:aj) (t0:bm) (r:Int × Int × aj),aY.f m s0 t0=some r→∀h L (aq:Nat) (aG:Nat) (ak:Nat),Has h ((aq,.ob [.rs aG 0 s0.ah.length 4,.rs ak 0 s0.au.length 1,.bool s0.aK])::(aG,.sl s0.ah.length 4 (af.l s0.ah))::(ak,.sl s0.au.length 1 (ae.l s0.au))::L)→∀xs,xs.map aP=[.ptr aq 0,.agg [af.fz t0.nodes,.i t0.root]]→∃aB aC h',cf 46 xs h=some (.tup [.i r.1,.i r.2.1],h')∧Has h' ((aq,.ob [.rs aB 0 r.2.2.ah.length 4,.rs aC 0 r.2.2.au.length 1,.bool r.2.2.aK])::(aB,.sl r.2.2.ah.length 4 (af.l r.2.2.ah))::(aC,.sl r.2.2.au.length 1 (ae.l r.2.2.au))::L)
section
variable {cf:CallF}{m:Nat}
theorem aY.jG (L:Mem)(aq:Nat)(aG:Nat)(ak:Nat)(s0:aj)(t0:bm)(x1:bm × Int)(i0:Int)(v0:ai)   : cd Tryz.prog cf Az m (sub [1,1,1,1,1,1,0,1,0,0,1,0,0,1,1,0,1,0,0] (bA Tryz.f46)) (fun k (σ:(List Int) × Int × aj)=>aY.l1 m s0 v0 k σ.1 σ.2.1 σ.2.2) (fun σ s=>match σ with | (bH,k0,s2)=>∃cm cE dT h1,s=⟨.ptr aq 0::lW (.lp 6 0 :: .any :: .i (s0.ah.length:Int) :: .i i0 :: .lp 10 0 :: .rs cm 0 bH.length 1 :: .i k0::yh []),[none,some [af.fz x1.1.nodes,.i x1.1.root],some [.i v0.kind,.i v0.int,.str v0.label,ae.fz v0.args]],h1⟩∧Has h1 ((cm,.sl bH.length 1 (ae.l bH))::(aq,.ob [.rs cE 0 s2.ah.length 4,.rs dT 0 s2.au.length 1,.bool s2.aK])::(cE,.sl s2.ah.length 4 (af.l s2.ah))::(dT,.sl s2.au.length 1 (ae.l s2.au))::L)) (fun out e s=>(e = .exit 2∧∃bH k0 s2,(bH,k0,s2)=out∧∃uR L8 cm cE dT h1,s=⟨.ptr aq 0::lW (.lp 6 0 :: .any :: .i (s0.ah.length:Int) :: .i i0 :: .lp 10 0 :: .rs cm 0 bH.length 1::uR::lW [L8,.any]),[none,some [af.fz x1.1.nodes,.i x1.1.root],some [.i v0.kind,.i v0.int,.str v0.label,ae.fz v0.args]],h1⟩∧Has h1 ((cm,.sl bH.length 1 (ae.l bH))::(aq,.ob [.rs cE 0 s2.ah.length 4,.rs dT 0 s2.au.length 1,.bool s2.aK])::(cE,.sl s2.ah.length 4 (af.l s2.ah))::(dT,.sl s2.au.length 1 (ae.l s2.au))::L))):=by
 refine jW (fun _=>rfl) ?_
 rintro k ⟨bH,k0,s2⟩ s out ⟨cm,cE,dT,h1,rfl,o2⟩ H
 have H:aY.l1 m s0 v0 (k+1) bH k0 s2=some out:=H
 refine qq <| qq <| q0 <| qc H (fun c4 H=>?_) (fun c4 H=>?_)
 ·refine qk <| qq <| qb 3 ?_
  obtain⟨v1,e3,H⟩:=aQ H
  obtain⟨x2,e4,H⟩:=aQ H
  obtain⟨ir,h2,e5,o3⟩:=dY (P:=Tryz.prog) (E:=ae) (l:=bH) (q:=0) (t2:=22) (x:=.fz [.i (i64.wrap ((s0.ah.length:Int)+v1))] 1 true) (l2:=([i64.wrap ((s0.ah.length:Int)+v1)])) de o2 rfl kr rfl e4
  exact qr [.v 5 (bW (k:=.i64) (E:=ae) (l:=v0.args) de e3),.v 6 (dk  (E:=ae) (l:=v0.args) h1 A3 e3 rfl),.a 9 e5] <| q0 <| ⟨(x2,i64.wrap (k0+1),s2),⟨ir,cE,dT,h2,kr,o3⟩,H⟩
 ·exact qx 2 <| ⟨rfl,bH,k0,s2,oi H,.i k0,.bool (decide (k0<(v0.args.length:Int))),cm,cE,dT,h1,kr,o2⟩
theorem aY.cF (L:Mem)(aq:Nat)(aG:Nat)(ak:Nat)(s0:aj)(t0:bm)(x1:bm × Int)   : cd Tryz.prog cf Az m (sub [1,1,1,1,1,1,0,1,0,0] (bA Tryz.f46)) (fun k (σ:Int × aj)=>aY.l0 m s0 x1 k σ.1 σ.2) (fun σ s=>match σ with | (i0,s1)=>∃aV dr h0,s=⟨.ptr aq 0::lW (.lp 6 0 :: .any :: .i (s0.ah.length:Int) :: .i i0::Ot []),[none,some [af.fz x1.1.nodes,.i x1.1.root],none],h0⟩∧Has h0 ((aq,.ob [.rs aV 0 s1.ah.length 4,.rs dr 0 s1.au.length 1,.bool s1.aK])::(aV,.sl s1.ah.length 4 (af.l s1.ah))::(dr,.sl s1.au.length 1 (ae.l s1.au))::L)) (fun out e s=>(e = .exit 0∧∃i0 s1,(i0,s1)=out∧∃nA DR wE L9 b6_ aV dr h0,s=⟨nA::lW (DR :: .any :: .i (s0.ah.length:Int)::wE::yh [L9,.any,.any]),[none,b6_,none],h0⟩∧Has h0 ((aq,.ob [.rs aV 0 s1.ah.length 4,.rs dr 0 s1.au.length 1,.bool s1.aK])::(aV,.sl s1.ah.length 4 (af.l s1.ah))::(dr,.sl s1.au.length 1 (ae.l s1.au))::L))):=by
 refine jW (fun _=>rfl) ?_
 rintro k ⟨i0,s1⟩ s out ⟨aV,dr,h0,rfl,o0⟩ H
 have H:aY.l0 m s0 x1 (k+1) i0 s1=some out:=H
 refine qq <| qq <| q0 <| qc H (fun c3 H=>?_) (fun c3 H=>?_)
 ·refine qk <| qq <| qb 1 <| qq ?_
  obtain⟨v0,e2,H⟩:=aQ H
  refine qr [.v 3 (bW (k:=.i64) (E:=af) (l:=x1.1.nodes) lF e2),.v 4 (gf  (E:=af) (l:=x1.1.nodes) h0 sM sN e2)] <| qq <| q0 ?_
  have o1:Has h0 (((0),.sl (([]:List Int).length) 1 (ae.l ([]:List Int)))::(aq,.ob [.rs aV 0 s1.ah.length 4,.rs dr 0 s1.au.length 1,.bool s1.aK])::(aV,.sl s1.ah.length 4 (af.l s1.ah))::(dr,.sl s1.au.length 1 (ae.l s1.au))::L):=Has.nil o0 1
  refine qq <| qq <| q0 <| qb 2 ?_
  obtain⟨bI,e6,H⟩:=aQ H
  refine ql (aY.jG L aq aG ak s0 t0 x1 i0 v0   (([]:List Int),0,s1) _ _ ⟨(0),aV,dr,h0,kr,o1⟩ e6) ?_
  rintro e s ⟨rfl,mH,k1,s3,rfl,g0,g1,iy,iA,lh,h3,rfl,o4⟩
  try dsimp only at H
  refine qq ?_
  obtain⟨h4,e7,o5⟩:=lT (E:=ae) (l:=mH) (q:=0) o4 rfl
  refine JV [.a 0 e7] [] ?_
  obtain⟨oU,As,H⟩:=kX H
  refine qj (S:=fun (σ:Int) s=>match σ with | n0=>∃(g2:AV) (h5:AHeap),s=⟨.ptr aq 0::lW (.lp 6 0 :: .any :: .i (s0.ah.length:Int) :: .i i0 :: .lp 10 0::EY [g2]),[none,some [af.fz x1.1.nodes,.i x1.1.root],some [.i v0.kind,.i n0,.str v0.label,ae.fz mH]],h5⟩∧Has h5 ((aq,.ob [.rs iA 0 s3.ah.length 4,.rs lh 0 s3.au.length 1,.bool s3.aK])::(iA,.sl s3.ah.length 4 (af.l s3.ah))::(lh,.sl s3.au.length 1 (ae.l s3.au))::L)) oU H ?_ ?_
  ·rintro n0 s ⟨g2,h5,rfl,o6⟩ H
   have H:=(As _).symm.trans H
   try dsimp only at H
   refine qq ?_
   obtain⟨x3,e8,H⟩:=aQ H
   obtain⟨ml,h6,e9,o7⟩:=dY (P:=Tryz.prog) (E:=af) (l:=s3.ah) (q:=1) (t2:=23) (x:=.fz [.i v0.kind,.i n0,.str v0.label,ae.fz mH] 1 true) (l2:=([(ai.mk v0.kind n0 v0.label mH)])) lF o6 rfl kr rfl e8
   obtain⟨h7,nW,o8⟩:=kb (P:=Tryz.prog) (t:=23) (off:=0) (q:=0) (cs:=[.rs iA 0 s3.ah.length 4,.rs lh 0 s3.au.length 1,.bool s3.aK]) (gF:=[.rs ml 0 x3.length 4,.rs lh 0 s3.au.length 1,.bool s3.aK]) (x:=.rs ml 0 x3.length 4) o7 rfl kr
   refine qr [.v 4 (show bB Tryz.prog h5 23 (.ptr aq 0)=some (.rs iA 0 s3.ah.length 4) from b7 (q:=0) (cs:=[.rs iA 0 s3.ah.length 4,.rs lh 0 s3.au.length 1,.bool s3.aK]) o6 rfl kr),.a 7 e9,.w 10 nW] ?_
   obtain⟨x4,rG,H⟩:=aQ H
   obtain⟨eR,h8,sy,o9⟩:=dY (P:=Tryz.prog) (E:=ae) (l:=s3.au) (q:=2) (t2:=22) (x:=.fz [.i (i64.wrap ((s0.ah.length:Int)+i0))] 1 true) (l2:=([i64.wrap ((s0.ah.length:Int)+i0)])) de o8 rfl kr rfl rG
   obtain⟨h9,rZ,sO⟩:=kb (P:=Tryz.prog) (t:=22) (off:=1) (q:=0) (cs:=[.rs ml 0 x3.length 4,.rs lh 0 s3.au.length 1,.bool s3.aK]) (gF:=[.rs ml 0 x3.length 4,.rs eR 0 x4.length 1,.bool s3.aK]) (x:=.rs eR 0 x4.length 1) o9 rfl kr
   exact qr [.v 4 (show bB Tryz.prog h7 22 (.ptr aq 1)=some (.rs lh 0 s3.au.length 1) from b7 (q:=0) (cs:=[.rs ml 0 x3.length 4,.rs lh 0 s3.au.length 1,.bool s3.aK]) o8 rfl kr),.a 9 sy,.w 12 rZ] <| q0 <| ⟨(i64.wrap (i0+1),(aj.mk x3 x4 s3.aK)),⟨ml,eR,h9,kr,sO⟩,H⟩
  clear As
  intro mW
  refine q1 <| qc H (fun c5 H=>?_) (fun c5 H=>?_)
  ·exact q0 <| mW (i64.wrap ((s0.ah.length:Int)+i0)) _ ⟨.any,h4,kr,o5⟩ H
  ·exact qk <| mW v0.int _ ⟨.bool (v0.kind==0),h4,kr,o5⟩ H
 ·exact qx 0 <| ⟨rfl,i0,s1,oi H,.ptr aq 0,.lp 6 0,.i i0,.bool (decide (i0<(x1.1.nodes.length:Int))),some [af.fz x1.1.nodes,.i x1.1.root],aV,dr,h0,kr,o0⟩
theorem qV {aX:FuncId→bX}(ha:aX 46=Az)(B1:S4 cf m)(Yw:S88 cf m)(s0:aj)(t0:bm)(h:AHeap)(L:Mem)(aq:Nat)(aG:Nat)(ak:Nat)  (o:Has h ((aq,.ob [.rs aG 0 s0.ah.length 4,.rs ak 0 s0.au.length 1,.bool s0.aK])::(aG,.sl s0.ah.length 4 (af.l s0.ah))::(ak,.sl s0.au.length 1 (ae.l s0.au))::L)){out:Int × Int × aj}(H:aY.f m s0 t0=some out) :
  ∃r h',ba Tryz.prog aX cf m 46 [.ptr aq 0,.agg [af.fz t0.nodes,.i t0.root]] h=some (r,h')∧∃aB aC:Nat,r = .tup [.i out.1,.i out.2.1]∧Has h' ((aq,.ob [.rs aB 0 out.2.2.ah.length 4,.rs aC 0 out.2.2.au.length 1,.bool out.2.2.aK])::(aB,.sl out.2.2.ah.length 4 (af.l out.2.2.ah))::(aC,.sl out.2.2.au.length 1 (ae.l out.2.2.au))::L):=by
 refine ax (fn:=Tryz.f46) ha Tryz.func46 kr kr ?_
 refine aI (Q:=fun s=>aY.fin L aq aG ak s0 t0 out s) (fun _ _ ⟨h1,aB,aC,h2,h3⟩=>⟨h1,_,h2,aB,aC,rfl,h3⟩) ?_
 have H:_=some out:=H
 unfold aY.f at H
 show dB _ cf Az m _ ⟨.ptr aq 0 :: .agg [af.fz t0.nodes,.i t0.root]::FF [],[none,none,none],h⟩ _
 refine q1 <| qq <| qq ?_
 obtain⟨x0,e0,H⟩:=aQ H
 refine qr [.a 1 (B1 _ _ e0 h _ (km (ao (da (q:=0) o rfl (ao (b4 (E:=af) (l:=s0.ah) (q:=1) o rfl (fun _=>rfl)) (ao (b4 (E:=ae) (l:=s0.au) (q:=2) o rfl (fun _=>rfl)) (ao (dD) (aJ))))) (aJ))))] <| qc H (fun c0 H=>?_) (fun c0 H=>?_)
 ·obtain rfl:=oi H
  exact q1 <| qt <| ⟨.inl rfl,⟨aG,ak,kr,he o⟩⟩
 ·refine qk <| qq ?_
  obtain⟨x1,e1,H⟩:=aQ H
  refine qr [.a 1 (Yw _ _ e1 h _ (cz (nz (cz (KV (E:=af)) (cz (iW) (lU)))) (lU)))] <| qq <| qq <| q0 <| qc H (fun c1 H=>?_) (fun c1 H=>?_)
  ·obtain rfl:=oi H
   exact q1 <| qt <| ⟨.inl rfl,⟨aG,ak,kr,he o⟩⟩
  ·refine qk <| qq <| qr [.v 3 (show bB Tryz.prog h 23 (.ptr aq 0)=some (.rs aG 0 s0.ah.length 4) from b7 (q:=0) (cs:=[.rs aG 0 s0.ah.length 4,.rs ak 0 s0.au.length 1,.bool s0.aK]) o rfl kr)] <| qq <| qq <| q0 <| qc H (fun c2 H=>?_) (fun c2 H=>?_)
   ·obtain rfl:=oi H
    exact q1 <| qt <| ⟨.inl rfl,⟨aG,ak,kr,he o⟩⟩
   ·refine qk <| qq <| qq <| q0 <| qb 0 ?_
    obtain⟨eT,wG,H⟩:=aQ H
    refine ql (aY.cF L aq aG ak s0 t0 x1   (0,s0) _ _ ⟨aG,ak,h,kr,o⟩ wG) ?_
    rintro e s ⟨rfl,i1,s4,rfl,g3,g4,g5,g6,g7,ij,fF,h10,rfl,tH⟩
    try dsimp only at H
    obtain rfl:=oi H
    exact q1 <| qt <| ⟨.inl rfl,⟨ij,fF,kr,he tH⟩⟩
end
end Go.Proofs.YtifafejidnjckaaGreat
