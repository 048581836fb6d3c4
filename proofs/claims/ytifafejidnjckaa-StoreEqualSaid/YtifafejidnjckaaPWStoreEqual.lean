/- Proved: StoreEqual returns true for every input; no condition. -/
import Derived.Test.YtifafejidnjckaaK13
import Derived.Test.YtifafejidnjckaaChecked
import Derived.Test.YtifafejidnjckaaRows
set_option linter.unusedVariables false
set_option linter.unusedSimpArgs false
set_option maxRecDepth 100000
open Bool renaming and_eq_true → XN
open Int renaming natCast_nonneg → Y5
open List renaming length_map → X0, mem_cons → X7, length_nil → Yf, cons_append → Yq, drop_zero → Ys
open Nat renaming le_refl → XP, zero_add → Ya, lt_of_lt_of_le → Yb, beq → Yp, zero_le → Yt, eq_of_beq_eq_true → YN, ble → Y6, zero_lt_one → Y8
open Option renaming bind_some → XJ, bind_eq_some_iff → XK, map_eq_some_iff → XL
open Option.some renaming inj → Yj
open Prod.mk renaming injEq → XS
namespace Go.Proofs.Ytifafejidnjckaa
open Go Go.R
open Go.IntKind (i64 u64 u8 u32)
def Hk:bY:=gK [0,1,2,6,7,8,9,10,11,12,13,14,15,16,17,18,19,20,22,24,27,39,98,102,126] [10,12,20,24] [33554424,32505848,33554423,33554409,33554313,31457225,33554423,33554025,33552489,33546985,33489647,29360111,33554423,33488879,25100271,33488879,33357807,33095663,32833519,16711663,33554423,33554423] [] [(7,[(10,some 0,4)]),(8,[(12,some 0,4)]),(16,[(20,some 3,1)]),(18,[(24,some 3,1)])]
def bw.l0 (m:Nat)(x8:Int × (List Int) × Int × ab):Nat→Int→Option (Sum Bool (Int))
 | 0,_=>none
 | k+1,m0=>(bS.f m x8.2.2.2).bind fun x9=>if (decide (m0<x9))=true then ((b9.f m x8.2.2.2 m0).bind fun kz=>(dI.f m x8.2.2.2 m0).bind fun zN=>(b9.f m x8.2.2.2 zN.1).bind fun n5=>(gj.f m kz.1 n5.1).bind fun tF=>if (!tF)=true then (some (.inl false)) else (bw.l0 m x8 k (i64.wrap (m0+(1:Int))))) else (some (.inr m0))
def bw.f (m:Nat)(l0:List aS)(a0:Int)(b0:Int):Option (Bool):=(bH.f m l0).bind fun x0=>if x0=true then ((dO.f m).bind fun x1=>some x1) else ((cg.f m l0).bind fun x2=>(bU.f m x2 a0 b0).bind fun x3=>if (!(x3.2.1==(0:Int)))=true then (if ((x3.1.length:Int)==(0:Int))=true then ((dO.f m).bind fun x4=>some x4) else (some false)) else ((az.f m x3.2.2 a0).bind fun x5=>(az.f m x3.2.2 b0).bind fun x6=>(ic.f m x5.1 x6.1).bind fun x7=>(b7.f m x3.2.2 a0 b0).bind fun x8=>if (!(x5.2==(0:Int)))=true then (some false) else (if (!(x6.2==(0:Int)))=true then (some false) else (if (!x7.1)=true then (some false) else (if (!(x7.2==(0:Int)))=true then (some false) else (if (!(x8.1==(1:Int)))=true then (some false) else (if (!((x8.2.1.length:Int)==(0:Int)))=true then (some false) else (if (!(x8.2.2.1==(0:Int)))=true then (some false) else ((bw.l0 m x8 m (0:Int)).bind fun bQ=>match bQ with | .inl r0=>some r0 | .inr m1=>(dO.f m).bind fun NN=>some NN)))))))))
def bw.fin (L:Mem)(r:Bool)(s:St):Prop:=∃av,aM Try.prog (s.open Hk) Try.f8.results.toList=some av∧fj s.h av (.bool r)
def S8 (cf:CallF)(m:Nat):Prop:=∀(l0:List aS) (a0:Int) (b0:Int) (r:Bool),bw.f m l0 a0 b0=some r→∀h xs,aQ bJ h xs [bh.fz l0,.int .i64 a0,.int .i64 b0]→cf 8 xs h=some (.bool r,h)
section
variable {cf:CallF}{m:Nat}
theorem bw.cO (L:Mem)(l0:List aS)(aH:Nat)(x8:Int × (List Int) × Int × ab)(iF:Nat)(cU:Nat)  (LJ:Qi cf m)(I1:QK cf m)(LK:QM cf m)(LL:P3 cf m):dF Try.prog cf Hk m (sub [1,1,1,1,1,1,1,1,1,1,0,1,0,0] (bW Try.f8)) (fun k (σ:Int)=>bw.l0 m x8 k σ) (fun σ s=>match σ with | m0=>∃h5,s=⟨nZ (.ptr aH 0::rJ (.int .i64 m0::vj [])),[none,none,none,none],h5⟩∧Has h5 ((aH,.ob [.bool x8.2.2.2.ak,.rs iF 0 x8.2.2.2.aa.length 4,.rs cU 0 x8.2.2.2.ae.length 1])::(iF,.sl x8.2.2.2.aa.length 4 (ai.l x8.2.2.2.aa))::(cU,.sl x8.2.2.2.ae.length 1 (af.l x8.2.2.2.ae))::L)) (fun out e s=>(e = .exit 0∧∃m0,.inr m0=out∧∃DZ KR Oa h5,s=⟨nZ (DZ::rJ (KR::xH [Oa,.any])),[none,none,none,none],h5⟩∧Has h5 ((aH,.ob [.bool x8.2.2.2.ak,.rs iF 0 x8.2.2.2.aa.length 4,.rs cU 0 x8.2.2.2.ae.length 1])::(iF,.sl x8.2.2.2.aa.length 4 (ai.l x8.2.2.2.aa))::(cU,.sl x8.2.2.2.ae.length 1 (af.l x8.2.2.2.ae))::L))∨(e = .ret∧∃r,.inl r=out∧bw.fin L r s)):=by
 refine k8 (fun _=>rfl) ?_
 rintro k m0 s out ⟨h5,rfl,JH⟩ H
 have H:bw.l0 m x8 (k+1) m0=some out:=H
 refine qq <| qq ?_
 obtain⟨x9,AK,H⟩:=bj H
 refine qr [.a 2 (LJ _ _ AK h5 _ (fq (ah (dV (q:=0) JH rfl (ah (fB) (ah (dK (E:=ai) (l:=x8.2.2.2.aa) (q:=1) JH rfl (fun _=>rfl)) (ah (dK (E:=af) (l:=x8.2.2.2.ae) (q:=2) JH rfl (fun _=>rfl)) (aw))))) (aw))))] <| qc H (fun Mc H=>?_) (fun Mc H=>?_)
 ·refine qk <| qq <| qb 1 <| qq ?_
  obtain⟨kz,zO,H⟩:=bj H
  obtain⟨jI,h6,D5,LM,HI⟩:=I1 _ _ _ zO h5 _ _ JH (fq (ah (dV (q:=0) JH rfl (ah (fB) (ah (dK (E:=ai) (l:=x8.2.2.2.aa) (q:=1) JH rfl (fun _=>rfl)) (ah (dK (E:=af) (l:=x8.2.2.2.ae) (q:=2) JH rfl (fun _=>rfl)) (aw))))) (ah (aT) (aw))))
  refine qr [.a 2 D5] <| qq ?_
  obtain⟨zN,D6,H⟩:=bj H
  refine qr [.a 2 (LK _ _ _ D6 h6 _ (fq (ah (dV (q:=1) LM rfl (ah (fB) (ah (dK (E:=ai) (l:=x8.2.2.2.aa) (q:=2) LM rfl (fun _=>rfl)) (ah (dK (E:=af) (l:=x8.2.2.2.ae) (q:=3) LM rfl (fun _=>rfl)) (aw))))) (ah (aT) (aw)))))] <| qq ?_
  obtain⟨n5,Gh,H⟩:=bj H
  obtain⟨kX,h7,D7,Sj,On⟩:=I1 _ _ _ Gh h6 _ _ LM (fq (ah (dV (q:=1) LM rfl (ah (fB) (ah (dK (E:=ai) (l:=x8.2.2.2.aa) (q:=2) LM rfl (fun _=>rfl)) (ah (dK (E:=af) (l:=x8.2.2.2.ae) (q:=3) LM rfl (fun _=>rfl)) (aw))))) (ah (aT) (aw))))
  refine qr [.a 2 D7] <| qq ?_
  obtain⟨tF,Iz,H⟩:=bj H
  refine qr [.a 2 (LL _ _ _ Iz h7 _ (fq (ah (eh (ah (aT) (ah (aT) (ah (cq) (ah (dK (E:=af) (l:=kz.1.args) (q:=1) Sj rfl (fun _=>rfl)) (aw)))))) (ah (eh (ah (aT) (ah (aT) (ah (cq) (ah (dK (E:=af) (l:=n5.1.args) (q:=0) Sj rfl (fun _=>rfl)) (aw)))))) (aw)))))] ?_
  have Wh:Has h7 ((kX,.sl n5.1.args.length 1 (af.l n5.1.args))::(aH,.ob [.bool x8.2.2.2.ak,.rs iF 0 x8.2.2.2.aa.length 4,.rs cU 0 x8.2.2.2.ae.length 1])::(iF,.sl x8.2.2.2.aa.length 4 (ai.l x8.2.2.2.aa))::(cU,.sl x8.2.2.2.ae.length 1 (af.l x8.2.2.2.ae))::L):=Has.del Sj 1
  have Ua:Has h7 ((aH,.ob [.bool x8.2.2.2.ak,.rs iF 0 x8.2.2.2.aa.length 4,.rs cU 0 x8.2.2.2.ae.length 1])::(iF,.sl x8.2.2.2.aa.length 4 (ai.l x8.2.2.2.aa))::(cU,.sl x8.2.2.2.ae.length 1 (af.l x8.2.2.2.ae))::L):=Has.del Wh 0
  refine qc H (fun IA H=>?_) (fun IA H=>?_)
  ·refine q1 ?_
   have Wi:Has h7 ((aH,.ob [.bool x8.2.2.2.ak,.rs iF 0 x8.2.2.2.aa.length 4,.rs cU 0 x8.2.2.2.ae.length 1])::(iF,.sl x8.2.2.2.aa.length 4 (ai.l x8.2.2.2.aa))::L):=Has.del Ua 2
   have Wj:Has h7 ((aH,.ob [.bool x8.2.2.2.ak,.rs iF 0 x8.2.2.2.aa.length 4,.rs cU 0 x8.2.2.2.ae.length 1])::L):=Has.del Wi 1
   have XE:Has h7 (L):=Has.del Wj 0
   exact qt <| Or.inr (⟨rfl,_,oi H,cX (.bool false) h7 (cV (aA))⟩)
  ·exact qk <| q0 <| ⟨i64.wrap (m0+(1:Int)),⟨h7,by kernel_rfl,Ua⟩,H⟩
 ·exact qx 0 <| Or.inl (⟨rfl,m0,oi H,.ptr aH 0,.int .i64 m0,.bool (decide (m0<x9)),h5,by kernel_rfl,JH⟩)
theorem mR {aW:FuncId→bY}(ha:aW 8=Hk)(Sk:SW cf m)(LN:SU cf m)(Sl:TP cf m)(Lk:QJ cf m)(LJ:Qi cf m)(I1:QK cf m)(Ob:TM cf m)(Sm:T7 cf m)(Ll:QL cf m)(LK:QM cf m)(LL:P3 cf m)(l0:List aS)(a0:Int)(b0:Int)(h:AHeap)(L:Mem)  (o:Has h (L)){out:Bool}(H:bw.f m l0 a0 b0=some out) :
  ∃r h',bb Try.prog aW cf m 8 [bh.fz l0,.int .i64 a0,.int .i64 b0] h=some (r,h')∧fj h' r (.bool out):=by
 refine ar (fn:=Try.f8) ha Try.func8 (by kernel_rfl) (by kernel_rfl) ?_
 refine aG (Q:=fun s=>bw.fin L out s) (fun _ _ h=>h) ?_
 have H:_=some out:=H
 unfold bw.f at H
 show dy _ cf Hk m _ ⟨bh.fz l0 :: .int .i64 a0 :: .int .i64 b0::PH [],[none,none,none,none],h⟩ _
 refine q1 <| qq <| qq ?_
 obtain⟨x0,e0,H⟩:=bj H
 refine qr [.a 1 (Sk _ _ e0 h _ (fq (ah (dW (E:=bh)) (aw))))] <| qc H (fun c0 H=>?_) (fun c0 H=>?_)
 ·refine qq ?_
  obtain⟨x1,e1,H⟩:=bj H
  obtain rfl:=oi H
  exact qr [.a 0 (LN _ e1 h _ (fq (aw)))] <| qt <| ⟨.inl rfl,cX (.bool x1) h (cV (aA))⟩
 ·refine qk <| qq ?_
  obtain⟨x2,e2,H⟩:=bj H
  obtain⟨aH,ck,dX,h0,e3,o0⟩:=Sl _ _ e2 h _  (o)  [bh.fz l0] (au (aP (rl (E:=bh))) (bN))
  refine qr [.a 1 e3] <| qq ?_
  obtain⟨x3,e4,H⟩:=bj H
  obtain⟨dP,dQ,eZ,h1,e5,o1⟩:=Lk _ _ _ _ e4 h0 _ _ _ _ (o0)  [.ptr aH 0,.int .i64 a0,.int .i64 b0] (au (rfl) (au (aP (bu)) (au (aP (bu)) (bN))))
  refine qr [.a 3 e5] <| qq <| qq <| q0 <| qc H (fun c1 H=>?_) (fun c1 H=>?_)
  ·refine qq ?_
   rcases ig H with⟨c2,H⟩| ⟨c2,H⟩
   ·obtain⟨x4,e6,H⟩:=bj H
    refine qr [.b 3 c2,.a 4 (LN _ e6 h1 _ (fq (aw)))] ?_
    have o2:Has h1 ((dP,.sl x3.1.length 1 (af.l x3.1))::(aH,.ob [.bool x3.2.2.ak,.rs dQ 0 x3.2.2.aa.length 4,.rs eZ 0 x3.2.2.ae.length 1])::(dQ,.sl x3.2.2.aa.length 4 (ai.l x3.2.2.aa))::L):=Has.del o1 3
    have o3:Has h1 ((dP,.sl x3.1.length 1 (af.l x3.1))::(aH,.ob [.bool x3.2.2.ak,.rs dQ 0 x3.2.2.aa.length 4,.rs eZ 0 x3.2.2.ae.length 1])::L):=Has.del o2 2
    have o4:Has h1 ((dP,.sl x3.1.length 1 (af.l x3.1))::L):=Has.del o3 1
    have o5:Has h1 (L):=Has.del o4 0
    obtain rfl:=oi H
    exact qt <| ⟨.inl rfl,cX (.bool x4) h1 (cV (aA))⟩
   ·refine qr [.b 3 c2] ?_
    have o6:Has h1 ((dP,.sl x3.1.length 1 (af.l x3.1))::(aH,.ob [.bool x3.2.2.ak,.rs dQ 0 x3.2.2.aa.length 4,.rs eZ 0 x3.2.2.ae.length 1])::(dQ,.sl x3.2.2.aa.length 4 (ai.l x3.2.2.aa))::L):=Has.del o1 3
    have o7:Has h1 ((dP,.sl x3.1.length 1 (af.l x3.1))::(aH,.ob [.bool x3.2.2.ak,.rs dQ 0 x3.2.2.aa.length 4,.rs eZ 0 x3.2.2.ae.length 1])::L):=Has.del o6 2
    have o8:Has h1 ((dP,.sl x3.1.length 1 (af.l x3.1))::L):=Has.del o7 1
    have o9:Has h1 (L):=Has.del o8 0
    obtain rfl:=oi H
    exact qt <| ⟨.inl rfl,cX (.bool false) h1 (cV (aA))⟩
  ·refine qk <| qq ?_
   obtain⟨x5,e7,H⟩:=bj H
   obtain⟨ju,jL,h2,e8,xa,ES⟩:=Ob _ _ _ e7 h1 _ _ o1 (fq (ah (dV (q:=1) o1 rfl (ah (fB) (ah (dK (E:=ai) (l:=x3.2.2.aa) (q:=2) o1 rfl (fun _=>rfl)) (ah (dK (E:=af) (l:=x3.2.2.ae) (q:=3) o1 rfl (fun _=>rfl)) (aw))))) (ah (aT) (aw))))
   have xf:=Has.lA (pre:=[(ju,.sl x5.1.nodes.length 4 (dH.l (ba x5.1.nodes jL)))]) (N:=[(dP,.sl x3.1.length 1 (af.l x3.1)),(aH,.ob [.bool x3.2.2.ak,.rs dQ 0 x3.2.2.aa.length 4,.rs eZ 0 x3.2.2.ae.length 1]),(dQ,.sl x3.2.2.aa.length 4 (ai.l x3.2.2.aa)),(eZ,.sl x3.2.2.ae.length 1 (af.l x3.2.2.ae))]) (mid:=eQ x5.1.nodes jL) xa
   refine qr [.a 2 e8] ?_
   have za:Has h2 ((ju,.sl x5.1.nodes.length 4 (dH.l (ba x5.1.nodes jL)))::(aH,.ob [.bool x3.2.2.ak,.rs dQ 0 x3.2.2.aa.length 4,.rs eZ 0 x3.2.2.ae.length 1])::(dQ,.sl x3.2.2.aa.length 4 (ai.l x3.2.2.aa))::(eZ,.sl x3.2.2.ae.length 1 (af.l x3.2.2.ae))::(eQ x5.1.nodes jL++L)):=Has.del xf 1
   refine qq ?_
   obtain⟨x6,e9,H⟩:=bj H
   obtain⟨iN,jM,h3,rv,uO,JS⟩:=Ob _ _ _ e9 h2 _ _ za (fq (ah (dV (q:=1) za rfl (ah (fB) (ah (dK (E:=ai) (l:=x3.2.2.aa) (q:=2) za rfl (fun _=>rfl)) (ah (dK (E:=af) (l:=x3.2.2.ae) (q:=3) za rfl (fun _=>rfl)) (aw))))) (ah (aT) (aw))))
   have tL:=Has.lA (pre:=[(iN,.sl x6.1.nodes.length 4 (dH.l (ba x6.1.nodes jM)))]) (N:=[(ju,.sl x5.1.nodes.length 4 (dH.l (ba x5.1.nodes jL))),(aH,.ob [.bool x3.2.2.ak,.rs dQ 0 x3.2.2.aa.length 4,.rs eZ 0 x3.2.2.ae.length 1]),(dQ,.sl x3.2.2.aa.length 4 (ai.l x3.2.2.aa)),(eZ,.sl x3.2.2.ae.length 1 (af.l x3.2.2.ae))]) (mid:=eQ x6.1.nodes jM) uO
   refine qr [.a 2 rv] <| qq ?_
   obtain⟨x7,uv,H⟩:=bj H
   refine qr [.a 2 (Sm _ _ _ uv h3 _ (fq (ah (eh (ah (wW (pre:=[(iN,.sl x6.1.nodes.length 4 (dH.l (ba x6.1.nodes jM))),(ju,.sl x5.1.nodes.length 4 (dH.l (ba x5.1.nodes jL))),(aH,.ob [.bool x3.2.2.ak,.rs dQ 0 x3.2.2.aa.length 4,.rs eZ 0 x3.2.2.ae.length 1]),(dQ,.sl x3.2.2.aa.length 4 (ai.l x3.2.2.aa)),(eZ,.sl x3.2.2.ae.length 1 (af.l x3.2.2.ae))]) (ns:=x5.1.nodes) (ids:=jL) (q:=1) (Has.lA (pre:=[(iN,.sl x6.1.nodes.length 4 (dH.l (ba x6.1.nodes jM))),(ju,.sl x5.1.nodes.length 4 (dH.l (ba x5.1.nodes jL))),(aH,.ob [.bool x3.2.2.ak,.rs dQ 0 x3.2.2.aa.length 4,.rs eZ 0 x3.2.2.ae.length 1]),(dQ,.sl x3.2.2.aa.length 4 (ai.l x3.2.2.aa)),(eZ,.sl x3.2.2.ae.length 1 (af.l x3.2.2.ae))]) (mid:=eQ x6.1.nodes jM) (N:=eQ x5.1.nodes jL) tL) rfl) (ah (aT) (aw)))) (ah (eh (ah (wW (pre:=[(iN,.sl x6.1.nodes.length 4 (dH.l (ba x6.1.nodes jM))),(ju,.sl x5.1.nodes.length 4 (dH.l (ba x5.1.nodes jL))),(aH,.ob [.bool x3.2.2.ak,.rs dQ 0 x3.2.2.aa.length 4,.rs eZ 0 x3.2.2.ae.length 1]),(dQ,.sl x3.2.2.aa.length 4 (ai.l x3.2.2.aa)),(eZ,.sl x3.2.2.ae.length 1 (af.l x3.2.2.ae))]) (ns:=x6.1.nodes) (ids:=jM) (q:=0) tL rfl) (ah (aT) (aw)))) (aw)))))] ?_
   have D8:Has h3 ((iN,.sl x6.1.nodes.length 4 (dH.l (ba x6.1.nodes jM)))::(aH,.ob [.bool x3.2.2.ak,.rs dQ 0 x3.2.2.aa.length 4,.rs eZ 0 x3.2.2.ae.length 1])::(dQ,.sl x3.2.2.aa.length 4 (ai.l x3.2.2.aa))::(eZ,.sl x3.2.2.ae.length 1 (af.l x3.2.2.ae))::(eQ x6.1.nodes jM++L)):=Has.gone (pre:=[(iN,.sl x6.1.nodes.length 4 (dH.l (ba x6.1.nodes jM))),(aH,.ob [.bool x3.2.2.ak,.rs dQ 0 x3.2.2.aa.length 4,.rs eZ 0 x3.2.2.ae.length 1]),(dQ,.sl x3.2.2.aa.length 4 (ai.l x3.2.2.aa)),(eZ,.sl x3.2.2.ae.length 1 (af.l x3.2.2.ae))]) (ns:=x5.1.nodes) (ids:=jL) (Has.lA (pre:=[(iN,.sl x6.1.nodes.length 4 (dH.l (ba x6.1.nodes jM))),(aH,.ob [.bool x3.2.2.ak,.rs dQ 0 x3.2.2.aa.length 4,.rs eZ 0 x3.2.2.ae.length 1]),(dQ,.sl x3.2.2.aa.length 4 (ai.l x3.2.2.aa)),(eZ,.sl x3.2.2.ae.length 1 (af.l x3.2.2.ae))]) (mid:=eQ x6.1.nodes jM) (N:=eQ x5.1.nodes jL) (Has.del tL 1))
   have xJ:Has h3 ((aH,.ob [.bool x3.2.2.ak,.rs dQ 0 x3.2.2.aa.length 4,.rs eZ 0 x3.2.2.ae.length 1])::(dQ,.sl x3.2.2.aa.length 4 (ai.l x3.2.2.aa))::(eZ,.sl x3.2.2.ae.length 1 (af.l x3.2.2.ae))::L):=Has.gone (pre:=[(aH,.ob [.bool x3.2.2.ak,.rs dQ 0 x3.2.2.aa.length 4,.rs eZ 0 x3.2.2.ae.length 1]),(dQ,.sl x3.2.2.aa.length 4 (ai.l x3.2.2.aa)),(eZ,.sl x3.2.2.ae.length 1 (af.l x3.2.2.ae))]) (Has.del D8 0)
   refine qq ?_
   obtain⟨x8,w7,H⟩:=bj H
   obtain⟨kr,iF,cU,h4,w8,vA⟩:=Ll _ _ _ _ w7 h3 _ _ _ _ (xJ)  [.ptr aH 0,.int .i64 a0,.int .i64 b0] (au (rfl) (au (aP (bu)) (au (aP (bu)) (bN))))
   refine qr [.a 3 w8] <| qq <| qq ?_
   rcases ig H with⟨c3,H⟩| ⟨c3,H⟩
   ·refine qr [.b 2 c3] ?_
    have Cw:Has h4 ((aH,.ob [.bool x8.2.2.2.ak,.rs iF 0 x8.2.2.2.aa.length 4,.rs cU 0 x8.2.2.2.ae.length 1])::(iF,.sl x8.2.2.2.aa.length 4 (ai.l x8.2.2.2.aa))::(cU,.sl x8.2.2.2.ae.length 1 (af.l x8.2.2.2.ae))::L):=Has.del vA 0
    refine FH <| qq <| q0 ?_
    have AR:Has h4 ((aH,.ob [.bool x8.2.2.2.ak,.rs iF 0 x8.2.2.2.aa.length 4,.rs cU 0 x8.2.2.2.ae.length 1])::(iF,.sl x8.2.2.2.aa.length 4 (ai.l x8.2.2.2.aa))::L):=Has.del Cw 2
    have Li:Has h4 ((aH,.ob [.bool x8.2.2.2.ak,.rs iF 0 x8.2.2.2.aa.length 4,.rs cU 0 x8.2.2.2.ae.length 1])::L):=Has.del AR 1
    have CL:Has h4 (L):=Has.del Li 0
    obtain rfl:=oi H
    exact qt <| ⟨.inl rfl,cX (.bool false) h4 (cV (aA))⟩
   ·rcases ig H with⟨c5,H⟩| ⟨c5,H⟩
    ·refine qr [.b 2 c3,.b 6 c5] ?_
     have HC:Has h4 ((aH,.ob [.bool x8.2.2.2.ak,.rs iF 0 x8.2.2.2.aa.length 4,.rs cU 0 x8.2.2.2.ae.length 1])::(iF,.sl x8.2.2.2.aa.length 4 (ai.l x8.2.2.2.aa))::(cU,.sl x8.2.2.2.ae.length 1 (af.l x8.2.2.2.ae))::L):=Has.del vA 0
     refine FH <| qq <| q0 ?_
     have NM:Has h4 ((aH,.ob [.bool x8.2.2.2.ak,.rs iF 0 x8.2.2.2.aa.length 4,.rs cU 0 x8.2.2.2.ae.length 1])::(iF,.sl x8.2.2.2.aa.length 4 (ai.l x8.2.2.2.aa))::L):=Has.del HC 2
     have Ri:Has h4 ((aH,.ob [.bool x8.2.2.2.ak,.rs iF 0 x8.2.2.2.aa.length 4,.rs cU 0 x8.2.2.2.ae.length 1])::L):=Has.del NM 1
     have TK:Has h4 (L):=Has.del Ri 0
     obtain rfl:=oi H
     exact qt <| ⟨.inl rfl,cX (.bool false) h4 (cV (aA))⟩
    ·rcases ig H with⟨c7,H⟩| ⟨c7,H⟩
     ·refine qr [.b 2 c3,.b 6 c5,.b 10 c7] ?_
      have Rj:Has h4 ((aH,.ob [.bool x8.2.2.2.ak,.rs iF 0 x8.2.2.2.aa.length 4,.rs cU 0 x8.2.2.2.ae.length 1])::(iF,.sl x8.2.2.2.aa.length 4 (ai.l x8.2.2.2.aa))::(cU,.sl x8.2.2.2.ae.length 1 (af.l x8.2.2.2.ae))::L):=Has.del vA 0
      refine FH <| qq <| q0 ?_
      have Me:Has h4 ((aH,.ob [.bool x8.2.2.2.ak,.rs iF 0 x8.2.2.2.aa.length 4,.rs cU 0 x8.2.2.2.ae.length 1])::(iF,.sl x8.2.2.2.aa.length 4 (ai.l x8.2.2.2.aa))::L):=Has.del Rj 2
      have Rk:Has h4 ((aH,.ob [.bool x8.2.2.2.ak,.rs iF 0 x8.2.2.2.aa.length 4,.rs cU 0 x8.2.2.2.ae.length 1])::L):=Has.del Me 1
      have TL:Has h4 (L):=Has.del Rk 0
      obtain rfl:=oi H
      exact qt <| ⟨.inl rfl,cX (.bool false) h4 (cV (aA))⟩
     ·rcases ig H with⟨c9,H⟩| ⟨c9,H⟩
      ·refine qr [.b 2 c3,.b 6 c5,.b 10 c7,.b 14 c9] ?_
       have Rm:Has h4 ((aH,.ob [.bool x8.2.2.2.ak,.rs iF 0 x8.2.2.2.aa.length 4,.rs cU 0 x8.2.2.2.ae.length 1])::(iF,.sl x8.2.2.2.aa.length 4 (ai.l x8.2.2.2.aa))::(cU,.sl x8.2.2.2.ae.length 1 (af.l x8.2.2.2.ae))::L):=Has.del vA 0
       refine FH <| qq <| q0 ?_
       have Rn:Has h4 ((aH,.ob [.bool x8.2.2.2.ak,.rs iF 0 x8.2.2.2.aa.length 4,.rs cU 0 x8.2.2.2.ae.length 1])::(iF,.sl x8.2.2.2.aa.length 4 (ai.l x8.2.2.2.aa))::L):=Has.del Rm 2
       have Ro:Has h4 ((aH,.ob [.bool x8.2.2.2.ak,.rs iF 0 x8.2.2.2.aa.length 4,.rs cU 0 x8.2.2.2.ae.length 1])::L):=Has.del Rn 1
       have VF:Has h4 (L):=Has.del Ro 0
       obtain rfl:=oi H
       exact qt <| ⟨.inl rfl,cX (.bool false) h4 (cV (aA))⟩
      ·rcases ig H with⟨vw,H⟩| ⟨vw,H⟩
       ·refine qr [.b 2 c3,.b 6 c5,.b 10 c7,.b 14 c9,.b 18 vw] ?_
        have Wk:Has h4 ((aH,.ob [.bool x8.2.2.2.ak,.rs iF 0 x8.2.2.2.aa.length 4,.rs cU 0 x8.2.2.2.ae.length 1])::(iF,.sl x8.2.2.2.aa.length 4 (ai.l x8.2.2.2.aa))::(cU,.sl x8.2.2.2.ae.length 1 (af.l x8.2.2.2.ae))::L):=Has.del vA 0
        refine FH <| qq <| q0 ?_
        have Wl:Has h4 ((aH,.ob [.bool x8.2.2.2.ak,.rs iF 0 x8.2.2.2.aa.length 4,.rs cU 0 x8.2.2.2.ae.length 1])::(iF,.sl x8.2.2.2.aa.length 4 (ai.l x8.2.2.2.aa))::L):=Has.del Wk 2
        have Wm:Has h4 ((aH,.ob [.bool x8.2.2.2.ak,.rs iF 0 x8.2.2.2.aa.length 4,.rs cU 0 x8.2.2.2.ae.length 1])::L):=Has.del Wl 1
        have XF:Has h4 (L):=Has.del Wm 0
        obtain rfl:=oi H
        exact qt <| ⟨.inl rfl,cX (.bool false) h4 (cV (aA))⟩
       ·rcases ig H with⟨D1,H⟩| ⟨D1,H⟩
        ·refine qr [.b 2 c3,.b 6 c5,.b 10 c7,.b 14 c9,.b 18 vw,.b 23 D1] ?_
         have Wn:Has h4 ((aH,.ob [.bool x8.2.2.2.ak,.rs iF 0 x8.2.2.2.aa.length 4,.rs cU 0 x8.2.2.2.ae.length 1])::(iF,.sl x8.2.2.2.aa.length 4 (ai.l x8.2.2.2.aa))::(cU,.sl x8.2.2.2.ae.length 1 (af.l x8.2.2.2.ae))::L):=Has.del vA 0
         refine FH <| qq <| q0 ?_
         have Wo:Has h4 ((aH,.ob [.bool x8.2.2.2.ak,.rs iF 0 x8.2.2.2.aa.length 4,.rs cU 0 x8.2.2.2.ae.length 1])::(iF,.sl x8.2.2.2.aa.length 4 (ai.l x8.2.2.2.aa))::L):=Has.del Wn 2
         have Wp:Has h4 ((aH,.ob [.bool x8.2.2.2.ak,.rs iF 0 x8.2.2.2.aa.length 4,.rs cU 0 x8.2.2.2.ae.length 1])::L):=Has.del Wo 1
         have XG:Has h4 (L):=Has.del Wp 0
         obtain rfl:=oi H
         exact qt <| ⟨.inl rfl,cX (.bool false) h4 (cV (aA))⟩
        ·refine qr [.b 2 c3,.b 6 c5,.b 10 c7,.b 14 c9,.b 18 vw,.b 23 D1] ?_
         have Ub:Has h4 ((aH,.ob [.bool x8.2.2.2.ak,.rs iF 0 x8.2.2.2.aa.length 4,.rs cU 0 x8.2.2.2.ae.length 1])::(iF,.sl x8.2.2.2.aa.length 4 (ai.l x8.2.2.2.aa))::(cU,.sl x8.2.2.2.ae.length 1 (af.l x8.2.2.2.ae))::L):=Has.del vA 0
         refine qc H (fun Nz H=>?_) (fun Nz H=>?_)
         ·refine q1 ?_
          have Wq:Has h4 ((aH,.ob [.bool x8.2.2.2.ak,.rs iF 0 x8.2.2.2.aa.length 4,.rs cU 0 x8.2.2.2.ae.length 1])::(iF,.sl x8.2.2.2.aa.length 4 (ai.l x8.2.2.2.aa))::L):=Has.del Ub 2
          have Wr:Has h4 ((aH,.ob [.bool x8.2.2.2.ak,.rs iF 0 x8.2.2.2.aa.length 4,.rs cU 0 x8.2.2.2.ae.length 1])::L):=Has.del Wq 1
          have XH:Has h4 (L):=Has.del Wr 0
          obtain rfl:=oi H
          exact qt <| ⟨.inl rfl,cX (.bool false) h4 (cV (aA))⟩
         ·refine qk <| qq <| qq <| q0 <| qb 0 ?_
          obtain⟨bQ,HA,H⟩:=bj H
          refine ql (bw.cO L l0 aH x8 iF cU  LJ I1 LK LL (0:Int) _ _ ⟨h4,by kernel_rfl,Ub⟩ HA) ?_
          rintro e s (⟨rfl,m1,rfl,g0,g1,g2,h8,rfl,Ws⟩| ⟨rfl,r0,rfl,uL⟩)
          ·try dsimp only at H
           refine qq ?_
           obtain⟨NN,HB,H⟩:=bj H
           refine qr [.a 0 (LN _ HB h8 _ (fq (aw)))] ?_
           have Wt:Has h8 ((aH,.ob [.bool x8.2.2.2.ak,.rs iF 0 x8.2.2.2.aa.length 4,.rs cU 0 x8.2.2.2.ae.length 1])::(iF,.sl x8.2.2.2.aa.length 4 (ai.l x8.2.2.2.aa))::L):=Has.del Ws 2
           have Wu:Has h8 ((aH,.ob [.bool x8.2.2.2.ak,.rs iF 0 x8.2.2.2.aa.length 4,.rs cU 0 x8.2.2.2.ae.length 1])::L):=Has.del Wt 1
           have XI:Has h8 (L):=Has.del Wu 0
           obtain rfl:=oi H
           exact qt <| ⟨.inl rfl,cX (.bool NN) h8 (cV (aA))⟩
          ·try dsimp only at H
           obtain rfl:=oi H
           exact⟨.inl rfl,uL⟩
end
end Go.Proofs.Ytifafejidnjckaa
namespace Go.Proofs.Ytifafejidnjckaa
open Go Go.R Go.Uf
open Go.IntKind (i64 u64 u8 u32)
section
variable {m:Nat}{s:ab}
theorem zA (hm:2 ^ 63≤m)(v:Inv2 s)(x:Int × List Int × Int × ab)(hx:x.2.2.2=s):∀(k i:Nat),i≤s.aa.length→s.aa.length - i<k→∃z,bw.l0 m x k (i:Int)=some (.inr z)
 | 0,i,h1,h2=>by omega
 | k+1,i,h1,h2=>by
  have Wv:(2:Nat) ^ 63=9223372036854775808:=by decide
  have h8:=v.inv.max
  simp only [bw.l0,hx]
  rw [LH v.inv,XJ]
  by_cases hi:i<s.aa.length
  ·have d:decide ((i:Int)<(s.aa.length:Int))=true:=by rw [decide_eq_true_eq]; omega
   have r:Rg s.aa.length (i:Int):=⟨Y5 _,by omega⟩
   have ew:i64.wrap ((i:Int)+1)=((i+1:Nat):Int):=by rw [jT (by omega) (by omega)]; omega
   have r2:=v.inv.cn.rg _ r
   have hl:(zy s (rp s.ae (i:Int))).args.length<2 ^ 63:=by
    have:=(v.inv.args _ (fN r2)).1
    show (List.map _ _).length<_
    rw [X0]; omega
   rw [if_pos d,Db (by omega) v.inv,if_pos r,XJ,N2 (by omega) v.inv,if_pos r,XJ]
   simp only []
   rw [Db (by omega) v.inv,if_pos r2,XJ]
   simp only []
   rw [v.inv.cn.id _ r,Bc hm _ hl,XJ,if_neg (by decide),ew]
   exact zA hm v x hx k (i+1) (by omega) (by omega)
  ·have d:decide ((i:Int)<(s.aa.length:Int))=false:=by rw [decide_eq_false_iff_not]; omega
   rw [if_neg (by rw [d]; decide)]
   exact⟨_,rfl⟩
theorem Bd (hm:2 ^ 63≤m)(l:List aS)(a b:Int)(h1:l.length<2 ^ 63):bw.f m l a b=some true:=by
 have xo:(2:Nat) ^ 41=2199023255552:=by decide
 have Wv:(2:Nat) ^ 63=9223372036854775808:=by decide
 have rD:2 ^ 41≤m:=by omega
 unfold bw.f
 obtain⟨q,e1,g1⟩:=IW hm l h1
 rw [e1,XJ]
 cases q with
 | true=>rfl
 | false=>
  obtain⟨s,e3,v⟩:=LG rD l (g1 rfl)
  rw [if_neg (by decide),e3,XJ]
  obtain⟨w,e,s',e4,v',_,eN,h⟩:=C5 (show 2000000≤m by omega) v a b
  rcases Dk (show 2000000≤m by omega) v a b with⟨_,_,f⟩| ⟨hn,l1,ok,s1,E,_,f⟩
  ·rw [f]; rfl
  ·cases ok with
   | false=>rw [f]; rfl
   | true=>
    rw [e4] at f
    rw [if_pos rfl] at f
    have f:=Yj f
    simp only [XS] at f
    obtain⟨rfl,rfl,rfl⟩:=f
    rw [e4,XJ]
    rcases h with⟨_,h,_⟩| ⟨_,h,_⟩| ⟨hn,_,_,heq,_⟩
    ·exact absurd h (by decide)
    ·exact absurd h (by decide)
    obtain⟨ra,rb⟩:=xw hn
    rw [←eN] at ra rb
    obtain⟨x,y,c,t1,t2,t3,hc⟩:=I0 rD v' ra rb
    have hS:Sb s' (rp s'.ae a) (rp s'.ae b):=by
     rw [heq]
     exact Sb.refl v'.inv (v'.inv.cn.rg b rb) (v'.inv.cn.id b rb)
    have hc:=hc.2 hS
    subst hc
    have Jj:jb s' [a,b]=true:=by unfold jb at hn ⊢; rw [eN]; exact hn
    rcases Dk (show 2000000≤m by omega) v' a b with⟨h,_⟩| ⟨_,l2,R7,s2,E2,f2,_⟩
    ·rw [Jj] at h; cases h
    ·obtain⟨o1,o2⟩:=(E2.same v' ra rb).2 hS
     rw [if_pos o1,if_pos o2] at f2
     simp only [t1,t2,t3,f2,XJ]
     obtain⟨z,e5⟩:=zA hm v' ((1,[],0,s'):Int × List Int × Int × ab) rfl m 0 (Yt _) (by have:=v'.inv.max; omega)
     have e5:bw.l0 m ((1,[],0,s'):Int × List Int × Int × ab) m 0=_:=e5
     rw [e5]
     rfl
end
end Go.Proofs.Ytifafejidnjckaa
namespace Go.Proofs.Ytifafejidnjckaa
open Go Go.R
open Go.IntKind (i64 u64 u8 u32)
def Nf (xs ys:List AV):Prop:=cZ xs=true∧dN xs=ys
theorem vQ:∀a b:List AV,cZ (a++b)=(cZ a&&cZ b)
 | [],b=>rfl
 | x::a,b=>by rw [Yq,cZ,cZ,vQ,Bool.and_assoc]
theorem vR:∀a b:List AV,dN (a++b)=dN a++dN b
 | [],b=>rfl
 | x::a,b=>by rw [Yq,dN,dN,vR,Yq]
theorem Nf.app {a b c d:List AV}(h:Nf a c)(k:Nf b d):Nf (a++b) (c++d):=⟨by rw [vQ,h.1,k.1]; rfl,by rw [vR,h.2,k.2]⟩
theorem Nf.nil:Nf [] []:=⟨rfl,rfl⟩
theorem Nf.cons {x y:AV}{b d:List AV}(h:x.eH=true)(h2:x.jE=y)(k:Nf b d):Nf (x::b) (y::d):=⟨by simp [cZ,h,k.1],by simp [dN,h2,k.2]⟩
theorem zB {α:Type}{E:bK α}{Pr:α→Prop}:∀{els:List (List AV)},(∀el∈els,∃a,Nf el (E.f a)∧Pr a)→∃l:List α,Nf els.flatten (E.l l)∧l.length=els.length∧∀a∈l,Pr a
 | [],_=>⟨[],Nf.nil,rfl,fun a ha=>by cases ha⟩
 | el::els,h=>by
  obtain⟨a,h1,h2⟩:=h el (by simp)
  obtain⟨l,h3,h4,h5⟩:=zB (E:=E) (Pr:=Pr) (els:=els) fun e he=>h e (by simp [he])
  refine⟨a::l,?_,by simp [h4],fun x hx=>?_⟩
  ·rw [List.flatten_cons,bK.eY]; exact h1.app h3
  ·rcases X7.1 hx with rfl | hx
   ·exact h2
   ·exact h5 x hx
def zC {α:Type}(E:bK α)(x:AV)(l:List α):Prop:=x.eH=true∧x.jE=E.fz l∧(x = .nils∨∃cs n b,x = .fz cs n b)∧l.length≤maxLen
theorem zC.fr {α:Type}{E:bK α}{x:AV}{l:List α}(h:zC E x l)(hp:AHeap):kB 0 hp x (E.fz l):=lY h.1 (by rcases h.2.2.1 with rfl | ⟨cs,n,b,rfl⟩<;>exact fun _=>rfl) h.2.1
theorem Be {α:Type}{E:bK α}{Pr:α→Prop}{n t e:Nat}{xs:List AV}(ht:Try.prog.underlying t=some (.slice e))(h:Fits Try.prog (n+1) t xs)
  (he:∀el,Fits Try.prog n e el→∃a,Nf el (E.f a)∧Pr a):∃x l,xs=[x]∧zC E x l∧∀a∈l,Pr a:=by
 unfold Fits at h
 rw [ht] at h
 rcases h with rfl | ⟨els,rfl,h1,h⟩
 ·exact⟨_,[],rfl,⟨rfl,rfl,.inl rfl,Yt _⟩,fun a ha=>by cases ha⟩
 ·obtain⟨l,⟨h2,h3⟩,h4,h5⟩:=zB (E:=E) (Pr:=Pr) fun el MV=>he el (h el MV).2
  refine⟨_,l,rfl,⟨by simpa [AV.eH] using h2,?_,.inr ⟨_,_,_,rfl⟩,by omega⟩,h5⟩
  show AV.fz (dN els.flatten) els.length false=_
  rw [h3,←h4]; rfl
theorem nJ {n:Nat}{xs:List AV}(h:Fits Try.prog (n+1) 3 xs):∃z:Int,xs=[.int .i64 z]:=by
 unfold Fits at h
 rw [Try.underlying3] at h
 obtain⟨z,rfl,_⟩:=h
 exact⟨z,rfl⟩
theorem Dl {n:Nat}{xs:List AV}(h:Fits Try.prog (n+1) 9 xs):∃s:ByteArray,xs=[.str s]:=by
 unfold Fits at h
 rw [Try.underlying9] at h
 obtain⟨s,hs,_⟩:=h
 exact⟨s,hs⟩
theorem zD {n:Nat}{xs:List AV}(h:Fits Try.prog (n+2) 33 xs):∃x l,xs=[x]∧zC af x l:=by
 obtain⟨x,l,e,h,_⟩:=Be (E:=af) (Pr:=fun _=>True) Try.underlying33 h fun el h=>by
  obtain⟨z,rfl⟩:=nJ h
  exact⟨z,⟨rfl,rfl⟩,trivial⟩
 exact⟨x,l,e,h⟩
theorem Hl {n:Nat}{xs:List AV}(h:Fits Try.prog (n+3) 51 xs):∃v:aj,Nf xs (ai.f v):=by
 unfold Fits at h
 rw [Try.underlying51] at h
 obtain⟨a,b,rfl,_,h1,h⟩:=h
 obtain⟨c,d,rfl,_,h2,h⟩:=h
 obtain⟨e,f,rfl,_,h3,h⟩:=h
 obtain⟨g,k,rfl,_,h4,h⟩:=h
 have h:k=[]:=h
 subst h
 obtain⟨z1,rfl⟩:=nJ h1
 obtain⟨z2,rfl⟩:=nJ h2
 obtain⟨s,rfl⟩:=Dl h3
 obtain⟨x,l,rfl,hx⟩:=zD h4
 exact⟨⟨z1,z2,s,l⟩,Nf.cons rfl rfl (Nf.cons rfl rfl (Nf.cons rfl rfl (Nf.cons hx.1 hx.2.1 Nf.nil)))⟩
theorem Ep {n:Nat}{xs:List AV}(h:Fits Try.prog (n+4) 40 xs):∃x l,xs=[x]∧zC ai x l:=by
 obtain⟨x,l,e,h,_⟩:=Be (E:=ai) (Pr:=fun _=>True) Try.underlying40 h fun el h=>by
  obtain⟨v,hv⟩:=Hl h
  exact⟨v,hv,trivial⟩
 exact⟨x,l,e,h⟩
def Hm (xs:List AV)(x:aS):Prop:=∃A T,xs=[.int .i64 x.fu,.int .i64 x.tC,.int .i64 x.EB,.str x.eS,A,T,.int .i64 x.yP.root]∧zC af A x.fX∧zC ai T x.yP.nodes
theorem I2 {n:Nat}{xs:List AV}(h:Fits Try.prog (n+6) 44 xs):∃x,Hm xs x:=by
 unfold Fits at h
 rw [Try.underlying44] at h
 obtain⟨a,b,rfl,_,h1,h⟩:=h
 obtain⟨c,d,rfl,_,h2,h⟩:=h
 obtain⟨e,f,rfl,_,h3,h⟩:=h
 obtain⟨g,k,rfl,_,h4,h⟩:=h
 obtain⟨i,j,rfl,_,h5,h⟩:=h
 obtain⟨o,p,rfl,_,h6,h⟩:=h
 have h:p=[]:=h
 subst h
 obtain⟨z1,rfl⟩:=nJ h1
 obtain⟨z2,rfl⟩:=nJ h2
 obtain⟨z3,rfl⟩:=nJ h3
 obtain⟨s,rfl⟩:=Dl h4
 obtain⟨x,l,rfl,hx⟩:=zD h5
 have h6:Fits Try.prog (n+5) 42 o:=h6
 unfold Fits at h6
 rw [Try.underlying42] at h6
 obtain⟨q,r,rfl,_,h7,h6⟩:=h6
 obtain⟨t,u,rfl,_,h8,h6⟩:=h6
 have h6:u=[]:=h6
 subst h6
 obtain⟨y,ns,rfl,hy⟩:=Ep h7
 obtain⟨z4,rfl⟩:=nJ h8
 exact⟨⟨z1,z2,z3,s,l,⟨ns,z4⟩⟩,x,y,rfl,hx,hy⟩
theorem Hm.nf {xs:List AV}{x:aS}(h:Hm xs x):Nf xs (bh.f x):=by
 obtain⟨A,T,rfl,hA,hT⟩:=h
 exact Nf.cons rfl rfl (Nf.cons rfl rfl (Nf.cons rfl rfl (Nf.cons rfl rfl (Nf.cons hA.1 hA.2.1 (Nf.cons hT.1 hT.2.1 (Nf.cons rfl rfl Nf.nil))))))
theorem Hn {n:Nat}{xs:List AV}(h:Fits Try.prog (n+7) 22 xs):∃x l,xs=[x]∧zC bh x l:=by
 obtain⟨x,l,e,h,_⟩:=Be (E:=bh) (Pr:=fun _=>True) Try.underlying22 h fun el h=>by
  obtain⟨v,hv⟩:=I2 h
  exact⟨v,hv.nf,trivial⟩
 exact⟨x,l,e,h⟩
theorem Er:maxLen<2 ^ 63:=by decide
theorem Ho {n:Nat}{xs:List AV}(h:Fits Try.prog (n+7) 22 xs):∃l:List aS,l.length<2 ^ 63∧∀hp,kB 10 hp (kh Try.prog 22 xs) (bh.fz l):=by
 obtain⟨x,l,rfl,hx⟩:=Hn h
 have e1:kh Try.prog 22 [x]=x:=by unfold kh; rw [Try.underlying22]; rfl
 rw [e1]
 exact⟨l,Nat.lt_of_le_of_lt hx.2.2.2 Er,fun hp=>(hx.fr hp).mono (by decide)⟩
theorem Dm {n:Nat}{xs:List AV}(h:Fits Try.prog (n+1) 3 xs):∃z:Int,∀hp,kB 10 hp (kh Try.prog 3 xs) (.int .i64 z):=by
 obtain⟨z,rfl⟩:=nJ h
 have e1:kh Try.prog 3 [.int .i64 z] = .int .i64 z:=by unfold kh; rw [Try.underlying3]; rfl
 rw [e1]
 exact⟨z,fun hp=>aT.mono (by decide)⟩
theorem Es {P:Program}{m:Nat}{t u v:TypeId}{wK:List AV}(h:pC P m [t,u,v] wK):∃xs ys zs,wK=[kh P t xs,kh P u ys,kh P v zs]∧Fits P m t xs∧Fits P m u ys∧Fits P m v zs:=by
 match wK,h with
 | [_,_,_],⟨⟨xs,h1,f1⟩,⟨ys,h2,f2⟩,⟨zs,h3,f3⟩,_⟩=>exact⟨xs,ys,zs,by rw [h1,h2,h3],f1,f2,f3⟩
end Go.Proofs.Ytifafejidnjckaa
namespace Go.R
open Go
def JI:AHeap:={get:=fun _=>none,ver:=fun _=>0,next:=2}
section
variable {P:Program}
theorem alone {cf:CallF}(hcf:CallOK P cf){f:FuncId}{us:List AV}{h0:AHeap}{r1:AV}{h1:AHeap}(hx:cf f us h0=some (r1,h1))(hg:∀id,h0.get id=none)(ES:∀id,h0.ver id<h0.next)
  {L0:Nat→Prop} {c:Cx} {vs:List Value} (hb0:c.base≤c.w.heap.size) (hrel:HRel c L0) (sZ:VRs ⟨fun _=>(0,0),h0,c.w,c.w.heap.size⟩ L0 us vs) {r:AV} (hr:∀(c1 d:Cx) (v:Value),VR c1 L0 r1 v→VR d L0 r v) :
  Calls P f vs.toArray c.w fun e w'=>∃c' v,e = .returned v∧c'.w=w'∧c'.h=c.h∧VR c' L0 r v∧HRel c' L0∧Ext c none0 c' none0:=by
 obtain⟨hin,hcall⟩:=hcf f us h0 r1 h1 hx
 let c0:Cx:=⟨fun _=>(0,0),h0,c.w,c.w.heap.size⟩
 have hnl:∀id,¬Live c0.h id:=fun id hl=>by have:=hl.2; rw [show c0.h.get id=none from hg id] at this; cases this
 have xD:∀id o,¬c0.h.get id=some o:=fun id o ho=>by rw [show c0.h.get id=none from hg id] at ho; cases ho
 have sY:HRel c0 L0:=⟨fun id o ho=>absurd ho (xD id o),fun id o ho=>absurd ho (xD id o),fun id _ hl _ _=>absurd hl (hnl id),fun id hl=>absurd hl (hnl id),hrel.bd,fun id hl=>absurd hl (hnl id),ES⟩
 refine (hcall L0 c0 vs rfl (XP _) sY sZ).mono ?_
 rintro e w' ⟨c1,v,rfl,rfl,L6,hv,hrel1,e1⟩
 let d:Cx:=⟨c.β,c.h,c1.w,c.base⟩
 have hk:∀b,b<c.w.heap.size→c1.w.heap[b]? = c.w.heap[b]?:=fun b hb=>e1.exact b hb
 have ed:Ext c none0 d none0:=⟨XP _,fun id _ hl=>⟨hl,rfl,ik.len (c:=c) (c':=d) (.inl (hk _ (hrel.block hl)))⟩,e1.size,fun b hb _ _=>.inl (hk b hb),fun b hb=>hk b (Yb hb hb0),rfl,fun id hl=>.inr ⟨id,hl,rfl⟩,fun _ h=>h,fun _ h=>.inl h,e1.os,e1.tape,e1.output⟩
 refine⟨d,v,rfl,rfl,rfl,hr c1 d v hv,⟨hrel.lt,fun id o ho=>?_,hrel.inj,hrel.out,fun b hb=>Yb (hrel.bd b hb) e1.size,hrel.low,hrel.ver⟩,ed⟩
 have hl:Live c.h id:=⟨hrel.lt _ _ ho,by rw [ho]; rfl⟩
 have:=(hrel.obj id o ho)
 have h2:=pd.ext (L0:=L0) ed (b:=(c.β id).1) (base:=(c.β id).2) (o:=o) (by rw [ir]; exact this) (hk _ (hrel.block hl))
 rw [ir] at h2
 exact h2
def LO (P:Program)(t:TypeId)(z:Nat):Bool:=
 match P.underlying t with
 | some (.slice e)=>match P.info? e with
  | some i=>Yp i.size z&&Y6 i.bytes 1000&&I9 i
  | none=>false
 | _=>false
theorem zE {t:TypeId}{z:Nat}(T:LO P t z=true)(hz:z≠0){h:AHeap}{x:AV}{n:Nat}{cs:List AV}(hn:n≠0)(hb:n*1024≤1099511627776)(hx:fU h z x=some (cs,n))(hs:iR P t x=true):dU P h t t (.fz [] 0 true) x=some (.rs h.next 0 n z,h.alloc (.cells cs)):=by
 unfold LO at T
 split at T
 rotate_left
 ·cases T
 rename_i e he
 split at T
 rotate_left
 ·cases T
 rename_i i hi
 simp only [XN] at T
 obtain⟨⟨h1,h2⟩,h3⟩:=T
 have h1:=YN h1
 have h2:=Nat.le_of_ble_eq_true h2
 subst h1
 have hq:n*i.bytes≤n*1000:=Nat.mul_le_mul_left n h2
 simp only [dU,he,XJ,hi,hx]
 rw [if_neg (by simp [hz,hs,h3]),if_neg (by simp only [gM,Ya,Yf]; omega),if_neg hn]
 simp
theorem vS {z:Nat}:∀args h r h',zK z args h=some (r,h')→Steady h h':=by
 intro args h r h' hs
 unfold zK at hs
 split at hs
 ·cases hs; exact Steady.refl _
 ·split at hs
  ·cases hs; exact Steady.refl _
  ·split at hs
   ·cases hs; exact Steady.put _ _ _
   ·cases hs
 ·split at hs
  ·cases hs; exact Steady.refl _
  ·rw [XK] at hs
   obtain⟨ob,_,hs⟩:=hs
   split at hs
   ·split at hs
    ·cases hs; exact Steady.put _ _ _
    ·cases hs
   ·cases hs
 ·cases hs
theorem JJ {cf:CallF}(hcf:CallOK P cf){F:FuncId}{t:TypeId}{z:Nat}(T:LO P t z=true)(hz:z≠0)
  (h0:cf F [.nils] bA=some (.nils,bA)) (h1:cf F [.rs 1 0 0 z] JI=some (.rs 0 0 0 z,JI))
  (h2:∀(c:AV) (cs:List AV) (n:Nat) (ex:Bool) (h:AHeap) (i k w:Nat) (h':AHeap),dU P h t t (.fz [] 0 true) (.fz (c::cs) n ex)=some (.rs i 0 k w,h')→cf F [.fz (c::cs) n ex] h=some (.rs i 0 k w,h'))
  (h3:∀(j n q:Nat) (h:AHeap) (i k w:Nat) (h':AHeap),dU P h t t (.fz [] 0 true) (.rs (j+1) 0 n q)=some (.rs i 0 k w,h')→cf F [.rs (j+1) 0 n q] h=some (.rs i 0 k w,h'))
  (gN:∀x,(∀st,x≠.str st)→iR P t x=true) :
  CallOK P fun f' args h=>if f'=F then zK z args h else none:=by
 intro f args h r h' hc
 dsimp only at hc
 split at hc
 rotate_left
 ·cases hc
 rename_i hf
 subst hf
 refine⟨(hcf f _ _ _ _ h0).1,fun L0 c vs hh hb0 hrel hargs=>?_⟩
 have empty:∀(v:Value),(∃a cap,v = .slice a 0 cap∧(a=none→cap=0))→Calls P f #[v] c.w fun e w'=>∃c' v,e = .returned v∧c'.w=w'∧c'.h=c.h∧VR c' L0 (.rs 0 0 0 z) v∧HRel c' L0∧Ext c none0 c' none0:=by
  rintro v ⟨a,cap,rfl,ha⟩
  cases a with
  | none=>
   have:=ha rfl
   subst this
   refine alone (vs:=[.slice none 0 0]) hcf h0 (fun _=>rfl) (fun _=>Y8) hb0 hrel ⟨rfl,trivial⟩ (fun c1 d v hv=>?_)
   simp only [VR] at hv ⊢
   exact .inl ⟨trivial,trivial,trivial,none,hv⟩
  | some ad=>
   refine alone (vs:=[.slice (some ad) 0 cap]) hcf h1 (fun _=>rfl) (fun _=>Nat.zero_lt_succ 1) hb0 hrel ⟨?_,trivial⟩ (fun c1 d v hv=>?_)
   ·simp only [VR]
    exact .inr ⟨by decide,by decide,some ad,cap,rfl,Yt _,rfl,fun hl=>by have:=hl.2; cases this⟩
   ·simp only [VR] at hv ⊢
    rcases hv with hv | hv
    ·exact .inl hv
    ·exact absurd rfl hv.1
 match args,vs,hargs with
 | [],_,_=>simp [zK] at hc
 | x::y::l,_,_=>cases x<;>simp [zK] at hc
 | [x],[v],hargs=>
  have hx:VR c L0 x v:=hargs.1
  cases x<;>simp only [zK] at hc<;>try (cases hc; done)
  ·cases hc
   simp only [VR] at hx
   rw [←hh]
   exact empty v ⟨none,0,hx,fun _=>rfl⟩
  ·rename_i cs n ex
   split at hc
   ·rename_i hn
    cases hc
    subst hn
    simp only [VR] at hx
    obtain⟨a,cap,e,_,_,hs,_⟩:=hx
    rw [←hh]
    refine empty v ⟨a,cap,e,fun ha=>?_⟩
    rcases hs with hs | hs
    ·rw [ha] at hs; cases hs
    ·exact hs.2
   ·rename_i hn
    split at hc
    rotate_left
    ·cases hc
    rename_i hq
    cases hc
    cases cs with
    | nil=>
     have h4:0=n*z:=hq.1
     rcases Nat.mul_eq_zero.1 h4.symm with h5 | h5
     ·exact absurd h5 hn
     ·exact absurd h5 hz
    | cons c1 cs=>
     have JR:fU h z (.fz (c1::cs) n ex)=some ((c1::cs).map jY,n):=by
      simp only [fU,eP]; rw [if_pos hq.1]; rfl
     have:=h2 c1 cs n ex h _ _ _ _ (zE T hz hn hq.2 JR (gN _ (by rintro st h; cases h)))
     exact (hcf _ _ _ _ _ this).2 L0 c [v] hh hb0 hrel ⟨hx,trivial⟩
  ·rename_i id off n q
   cases off with
   | succ off=>simp [zK] at hc
   | zero=>
   simp only [zK] at hc
   split at hc
   ·rename_i hn
    cases hc
    subst hn
    simp only [VR] at hx
    rw [←hh]
    rcases hx with⟨_,_,_,a,e⟩| ⟨_,_,a,cap,e,_,hs,_⟩
    ·exact empty v ⟨a,0,e,fun _=>rfl⟩
    ·refine empty v ⟨a,cap,e,fun ha=>?_⟩
     rw [ha] at hs; cases hs
   ·rename_i hn
    rw [XK] at hc
    obtain⟨ob,ho,hc⟩:=hc
    split at hc
    rotate_left
    ·cases hc
    rename_i cs
    split at hc
    rotate_left
    ·cases hc
    rename_i hq
    cases hc
    have hid:id≠0:=by
     simp only [VR] at hx
     rcases hx with hx | hx
     ·exact absurd hx.2.2.1 hn
     ·exact hx.1
    obtain⟨j,rfl⟩:∃j,id=j+1:=⟨id - 1,by omega⟩
    have JR:fU h z (.rs (j+1) 0 n q)=some ((cs.take (n*z)).map jY,n):=by
     simp only [fU,eP]
     rw [if_neg (fun hz=>hz.elim hid fun hz=>hn hz.1),ho]
     simp only [XJ]
     rw [if_pos ⟨hq.1,by omega⟩,Ys]; rfl
    have:=h3 j n q h _ _ _ _ (zE T hz hn hq.2.2 JR (gN _ (by rintro st h; cases h)))
    exact (hcf _ _ _ _ _ this).2 L0 c [v] hh hb0 hrel ⟨hx,trivial⟩
 | [x],[],hargs=>exact hargs.elim
 | [x],_::_::_,hargs=>exact hargs.2.elim
end
end Go.R
namespace Go.Proofs.Ytifafejidnjckaa
open Go Go.R Go.Shelf
open Go.IntKind (i64 u64 u8 u32)
theorem fits:Fit Try.prog:=Kb (by kernel_rfl) (by kernel_rfl)
def LP:Ren:={f:=(fun x=>match x with | 189=>60 | 125=>77 | 257=>76 | 128=>95 | 129=>96 | 294=>86 | 295=>87 | 296=>88 | 297=>89 | 298=>90 | 299=>91 | 216=>92 | 300=>93 | 301=>94 | 328=>100 | 329=>101 | 330=>102 | 331=>103 | 332=>104 | 215=>97 | 343=>107 | n=>n),t:=(fun x=>match x with | 28=>33 | 3=>3 | 46=>108 | 0=>0 | 51=>126 | 53=>128 | 4=>4 | 183=>119 | 182=>118 | 131=>103 | 5=>5 | 9=>9 | 218=>130 | 222=>134 | 228=>138 | 229=>139 | n=>n),g:=(fun n=>n)}
theorem Oc:Lays.n189 Try.prog LP:={
 mixed:=by kernel_rfl,
 f125:=Try.func77.trans (congrArg some (by kernel_rfl)),
 f128:=Try.func95.trans (congrArg some (by kernel_rfl)),
 f129:=Try.func96.trans (congrArg some (by kernel_rfl)),
 f189:=Try.func60.trans (congrArg some (by kernel_rfl)),
 f215:=Try.func97.trans (congrArg some (by kernel_rfl)),
 f216:=Try.func92.trans (congrArg some (by kernel_rfl)),
 f257:=Try.func76.trans (congrArg some (by kernel_rfl)),
 f294:=Try.func86.trans (congrArg some (by kernel_rfl)),
 f295:=Try.func87.trans (congrArg some (by kernel_rfl)),
 f296:=Try.func88.trans (congrArg some (by kernel_rfl)),
 f297:=Try.func89.trans (congrArg some (by kernel_rfl)),
 f298:=Try.func90.trans (congrArg some (by kernel_rfl)),
 f299:=Try.func91.trans (congrArg some (by kernel_rfl)),
 f300:=Try.func93.trans (congrArg some (by kernel_rfl)),
 f301:=Try.func94.trans (congrArg some (by kernel_rfl)),
 f328:=Try.func100.trans (congrArg some (by kernel_rfl)),
 f329:=Try.func101.trans (congrArg some (by kernel_rfl)),
 f330:=Try.func102.trans (congrArg some (by kernel_rfl)),
 f331:=Try.func103.trans (congrArg some (by kernel_rfl)),
 f332:=Try.func104.trans (congrArg some (by kernel_rfl)),
 f343:=Try.func107.trans (congrArg some (by kernel_rfl)),
 t0:=Try.underlying0,
 a0:=Try.isAgg0,
 z0:=Try.sizeOf0,
 v0:=Try.zeroValue0,
 t3:=Try.underlying3,
 a3:=Try.isAgg3,
 z3:=Try.sizeOf3,
 v3:=Try.zeroValue3,
 t4:=Try.underlying4,
 a4:=Try.isAgg4,
 z4:=Try.sizeOf4,
 v4:=Try.zeroValue4,
 t5:=Try.underlying5,
 a5:=Try.isAgg5,
 z5:=Try.sizeOf5,
 v5:=Try.zeroValue5,
 t9:=Try.underlying9,
 a9:=Try.isAgg9,
 z9:=Try.sizeOf9,
 v9:=Try.zeroValue9,
 t28:=Try.underlying33,
 a28:=Try.isAgg33,
 z28:=Try.sizeOf33,
 v28:=Try.zeroValue33,
 t46:=Try.underlying108,
 a46:=Try.isAgg108,
 z46:=Try.sizeOf108,
 v46:=Try.zeroValue108,
 t51:=Try.underlying126,
 a51:=Try.isAgg126,
 z51:=Try.sizeOf126,
 v51:=Try.zeroValue126,
 t53:=Try.underlying128,
 a53:=Try.isAgg128,
 z53:=Try.sizeOf128,
 v53:=Try.zeroValue128,
 t131:=Try.underlying103,
 a131:=Try.isAgg103,
 z131:=Try.sizeOf103,
 v131:=Try.zeroValue103,
 t182:=Try.underlying118,
 a182:=Try.isAgg118,
 z182:=Try.sizeOf118,
 v182:=Try.zeroValue118,
 t183:=Try.underlying119,
 a183:=Try.isAgg119,
 z183:=Try.sizeOf119,
 v183:=Try.zeroValue119,
 t218:=Try.underlying130,
 a218:=Try.isAgg130,
 z218:=Try.sizeOf130,
 v218:=Try.zeroValue130,
 t222:=Try.underlying134,
 a222:=Try.isAgg134,
 z222:=Try.sizeOf134,
 v222:=Try.zeroValue134,
 t228:=Try.underlying138,
 a228:=Try.isAgg138,
 z228:=Try.sizeOf138,
 v228:=Try.zeroValue138,
 t229:=Try.underlying139,
 a229:=Try.isAgg139,
 z229:=Try.sizeOf139,
 v229:=Try.zeroValue139}
theorem LQ:∀(vs:Array Value) (w:World),(callFunc (LP.f 189) vs).run Try.prog w = .ok (.enter (LP.f 189) vs) w:=
 ng (c:=bW Try.f60) Try.func60 (by kernel_rfl) (by decide +kernel)
def qN:bY:=gK [0,2,4] [] [] [] []
def oy:oa:={aW:=fun _=>qN,intr:=fun _=>none,pure:=fun _=>none}
noncomputable def Od:CallF:=bb Try.prog oy.aW (fc Try.prog oy 10 0) 10
theorem Hp:CallOK Try.prog Od:=yh fits (pB fits nO 10 0) (ym fits.mixed (pB fits nO 10 0) (lW nO 10 0)) 10
theorem I3 (c:AV)(cs:List AV)(n:Nat)(ex:Bool)(h:AHeap)(i k w:Nat)(h':AHeap)(e:dU Try.prog h 40 40 (.fz [] 0 true) (.fz (c::cs) n ex)=some (.rs i 0 k w,h')):Od 38 [.fz (c::cs) n ex] h=some (.rs i 0 k w,h'):=by
 have key:∃r h2,bb Try.prog oy.aW (fc Try.prog oy 10 0) 10 38 [.fz (c::cs) n ex] h=some (r,h2)∧r = .rs i 0 k w∧h2=h':=by
  refine ar (fn:=Try.f38) (A:=qN) rfl Try.func38 (by kernel_rfl) (by kernel_rfl) ?_
  refine aG (Q:=fun s=>aM Try.prog (s.open qN) Try.f38.results.toList=some (.rs i 0 k w)∧s.h=h') (fun _ _ ⟨h1,h2,h3⟩=>⟨h1,_,h2,rfl,h3⟩) ?_
  show dy _ _ qN _ _ ⟨[.fz (c::cs) n ex,.any,.any],[],h⟩ _
  refine q1 <| qq <| q1 <| Hy <| qk <| qs [.a 2 e] <| qt <| ⟨.inl rfl,by kernel_rfl,by kernel_rfl⟩
 obtain⟨r,h2,hb,rfl,rfl⟩:=key
 exact hb
theorem I4 (j n q:Nat)(h:AHeap)(i k w:Nat)(h':AHeap)(e:dU Try.prog h 40 40 (.fz [] 0 true) (.rs (j+1) 0 n q)=some (.rs i 0 k w,h')):Od 38 [.rs (j+1) 0 n q] h=some (.rs i 0 k w,h'):=by
 have key:∃r h2,bb Try.prog oy.aW (fc Try.prog oy 10 0) 10 38 [.rs (j+1) 0 n q] h=some (r,h2)∧r = .rs i 0 k w∧h2=h':=by
  refine ar (fn:=Try.f38) (A:=qN) rfl Try.func38 (by kernel_rfl) (by kernel_rfl) ?_
  refine aG (Q:=fun s=>aM Try.prog (s.open qN) Try.f38.results.toList=some (.rs i 0 k w)∧s.h=h') (fun _ _ ⟨h1,h2,h3⟩=>⟨h1,_,h2,rfl,h3⟩) ?_
  show dy _ _ qN _ _ ⟨[.rs (j+1) 0 n q,.any,.any],[],h⟩ _
  refine q1 <| qq <| q1 <| Hy <| qk <| qs [.a 2 e] <| qt <| ⟨.inl rfl,by kernel_rfl,by kernel_rfl⟩
 obtain⟨r,h2,hb,rfl,rfl⟩:=key
 exact hb
theorem Oe:∀x,(∀st,x≠.str st)→iR Try.prog 40 x=true:=by
 intro x hx
 cases x<;>first | exact absurd rfl (hx _) | kernel_rfl
theorem I5:CallOK Try.prog fun f args h=>if f=38 then zK 4 args h else none:=
 JJ Hp (F:=38) (t:=40) (z:=4) (by kernel_rfl) (by decide) (by kernel_rfl) (by kernel_rfl) I3 I4 Oe
theorem I6 (c:AV)(cs:List AV)(n:Nat)(ex:Bool)(h:AHeap)(i k w:Nat)(h':AHeap)(e:dU Try.prog h 33 33 (.fz [] 0 true) (.fz (c::cs) n ex)=some (.rs i 0 k w,h')):Od 39 [.fz (c::cs) n ex] h=some (.rs i 0 k w,h'):=by
 have key:∃r h2,bb Try.prog oy.aW (fc Try.prog oy 10 0) 10 39 [.fz (c::cs) n ex] h=some (r,h2)∧r = .rs i 0 k w∧h2=h':=by
  refine ar (fn:=Try.f39) (A:=qN) rfl Try.func39 (by kernel_rfl) (by kernel_rfl) ?_
  refine aG (Q:=fun s=>aM Try.prog (s.open qN) Try.f39.results.toList=some (.rs i 0 k w)∧s.h=h') (fun _ _ ⟨h1,h2,h3⟩=>⟨h1,_,h2,rfl,h3⟩) ?_
  show dy _ _ qN _ _ ⟨[.fz (c::cs) n ex,.any,.any],[],h⟩ _
  refine q1 <| qq <| q1 <| Hy <| qk <| qs [.a 2 e] <| qt <| ⟨.inl rfl,by kernel_rfl,by kernel_rfl⟩
 obtain⟨r,h2,hb,rfl,rfl⟩:=key
 exact hb
theorem I7 (j n q:Nat)(h:AHeap)(i k w:Nat)(h':AHeap)(e:dU Try.prog h 33 33 (.fz [] 0 true) (.rs (j+1) 0 n q)=some (.rs i 0 k w,h')):Od 39 [.rs (j+1) 0 n q] h=some (.rs i 0 k w,h'):=by
 have key:∃r h2,bb Try.prog oy.aW (fc Try.prog oy 10 0) 10 39 [.rs (j+1) 0 n q] h=some (r,h2)∧r = .rs i 0 k w∧h2=h':=by
  refine ar (fn:=Try.f39) (A:=qN) rfl Try.func39 (by kernel_rfl) (by kernel_rfl) ?_
  refine aG (Q:=fun s=>aM Try.prog (s.open qN) Try.f39.results.toList=some (.rs i 0 k w)∧s.h=h') (fun _ _ ⟨h1,h2,h3⟩=>⟨h1,_,h2,rfl,h3⟩) ?_
  show dy _ _ qN _ _ ⟨[.rs (j+1) 0 n q,.any,.any],[],h⟩ _
  refine q1 <| qq <| q1 <| Hy <| qk <| qs [.a 2 e] <| qt <| ⟨.inl rfl,by kernel_rfl,by kernel_rfl⟩
 obtain⟨r,h2,hb,rfl,rfl⟩:=key
 exact hb
theorem Of:∀x,(∀st,x≠.str st)→iR Try.prog 33 x=true:=by
 intro x hx
 cases x<;>first | exact absurd rfl (hx _) | kernel_rfl
theorem I8:CallOK Try.prog fun f args h=>if f=39 then zK 1 args h else none:=
 JJ Hp (F:=39) (t:=33) (z:=1) (by kernel_rfl) (by decide) (by kernel_rfl) (by kernel_rfl) I6 I7 Of
noncomputable def JK:FuncId→Option (List AV→AHeap→Option (AV × AHeap)):=fun f=>if f=60 then some Ks else if f=38 then some (zK 4) else if f=39 then some (zK 1) else none
theorem Hq:IntrOK Try.prog JK:=intr_cons (f0:=60) (Ni Oc LQ) DV (intr_cons (f0:=38) I5 vS (intr_cons (f0:=39) I8 vS nO))
end Go.Proofs.Ytifafejidnjckaa
namespace Go.Proofs.Ytifafejidnjckaa
open Go Go.R
open Go.IntKind (i64 u64 u8 u32)
def cC:Nat→bY
 | 8=>Hk
 | 10=>yQ
 | 11=>{keep:=[0,1,2,3,4,5,6,7,8,9,10,11,12,13,14,16,17,19,22,25],aI:=[]}
 | 12=>zc
 | 14=>yR
 | 16=>Cy
 | 17=>CO
 | 18=>B9
 | 20=>Cz
 | 21=>tS
 | 22=>Dh
 | 23=>CA
 | 24=>CB
 | 25=>BS
 | 26=>BT
 | 27=>Ca
 | 28=>CH
 | 29=>Cb
 | 30=>Ck
 | 31=>vz
 | 32=>yS
 | 33=>Co
 | 34=>CC
 | 35=>Cp
 | 36=>tT
 | 37=>BU
 | 40=>y6
 | 41=>yT
 | 42=>vu
 | 43=>CN
 | 44=>CI
 | 45=>CJ
 | 46=>CM
 | 47=>BV
 | 48=>BW
 | 49=>CD
 | 50=>Cq
 | 51=>BX
 | 52=>Cc
 | 53=>Cd
 | 54=>BY
 | 55=>BZ
 | 56=>Ce
 | 57=>y7
 | 58=>Cf
 | 59=>B0
 | 60=>{keep:=[0,2],aI:=[]}
 | 61=>Cr
 | 62=>B3
 | 63=>Cg
 | 64=>B4
 | 65=>Ch
 | 66=>CE
 | 67=>Cs
 | 68=>yV
 | 69=>CF
 | 70=>Cu
 | 71=>yW
 | 72=>pU
 | 73=>yX
 | 74=>y8
 | 75=>yZ
 | 78=>y4
 | 79=>B5
 | 80=>Ci
 | 81=>y5
 | 82=>Cj
 | 83=>CK
 | 84=>Cv
 | 85=>B6
 | 97=>B7
 | 98=>B8
 | 99=>tR
 | 105=>qF
 | 106=>mi
 | 108=>tJ
 | 109=>tG
 | _=>{keep:=[],aI:=[]}
def a6:Nat:=18014398509481984
theorem a7:gO+bJ≤a6:=by decide
def Og:Nat→Option Nat
 | 8=>some a6
 | 10=>some a6
 | 11=>some a6
 | 14=>some a6
 | 18=>some a6
 | 20=>some a6
 | 21=>some a6
 | 22=>some a6
 | 24=>some a6
 | 25=>some a6
 | 30=>some a6
 | 33=>some a6
 | 37=>some a6
 | 40=>some a6
 | 41=>some a6
 | 42=>some a6
 | 43=>some a6
 | 44=>some a6
 | 45=>some a6
 | 46=>some a6
 | 48=>some a6
 | 49=>some a6
 | 50=>some a6
 | 51=>some a6
 | 52=>some a6
 | 53=>some a6
 | 54=>some a6
 | 55=>some a6
 | 58=>some a6
 | 59=>some a6
 | 61=>some a6
 | 62=>some a6
 | 63=>some a6
 | 64=>some a6
 | 65=>some a6
 | 66=>some a6
 | 67=>some a6
 | 68=>some a6
 | 69=>some a6
 | 70=>some a6
 | 71=>some a6
 | 72=>some a6
 | 74=>some a6
 | 75=>some a6
 | 78=>some a6
 | 79=>some a6
 | 80=>some a6
 | 81=>some a6
 | 82=>some a6
 | 84=>some a6
 | 85=>some a6
 | 97=>some a6
 | 98=>some a6
 | _=>none
def LR:Nat→Bool
 | 20=>true
 | 21=>true
 | 33=>true
 | 40=>true
 | 42=>true
 | 43=>true
 | 46=>true
 | _=>false
def M:Nat:=18446744073709551616
noncomputable def bD:oa:={aW:=cC,intr:=JK,pure:=Og,eM:=LR}
noncomputable def cD:CallF:=ja Try.prog bD M
theorem LS:CallOK Try.prog cD:=FG fits (T:=bD) Hq
theorem Ww:SV cD M:=fun args h=>tq (T:=bD) rfl
theorem Uc:PZ cD M:=fun args h=>tq (T:=bD) rfl
end Go.Proofs.Ytifafejidnjckaa
namespace Go.Proofs.Ytifafejidnjckaa
open Go Go.R
open Go.IntKind (i64 u64 u8 u32)
theorem Et:(bb Try.prog cC (fc Try.prog bD M 98) M 11 [] bA).map (fun x=>x.1)=some (.bool true):=by kernel_rfl
theorem Wx:SU cD M:=by
 intro r H h xs hx
 have H:some true=some r:=H
 cases H
 obtain⟨⟨x,h'⟩,hb,e⟩:=XL.1 Et
 dsimp only at e
 subst e
 obtain⟨l,h1,h2⟩:=jX (P:=Try.prog) cC M 11 [] bA _ _ hb
 have hb:=h2 cD fun e he=>ls.2 ⟨_,h1 e he⟩
 exact bn (T:=bD) (deep:=a6) rfl rfl rfl a7 hx ⟨_,_,hb,cV (aA)⟩
end Go.Proofs.Ytifafejidnjckaa
namespace Go.Proofs.Ytifafejidnjckaa
open Go Go.R
open Go.IntKind (i64 u64 u8 u32)
theorem Wy:SW cD M:=by
 intro l0 r H  h xs hx
 exact bn (T:=bD) (deep:=a6) rfl rfl rfl a7 hx (qB (cf:=cD) (m:=M) (aW:=cC) rfl  l0 bA []   aU H)
theorem Wz:SX cD M:=by
 intro a0 b0 r H  h xs hx
 exact bn (T:=bD) (deep:=a6) rfl rfl rfl a7 hx (rM (cf:=cD) (m:=M) (aW:=cC) rfl  a0 b0 bA []   aU H)
theorem WA:P3 cD M:=by
 intro a0 b0 r H  h xs hx
 exact bn (T:=bD) (deep:=a6) rfl rfl rfl a7 hx (qC (cf:=cD) (m:=M) (aW:=cC) rfl Wz a0 b0 bA []   aU H)
theorem WB:SY cD M:=by
 intro  r H h L   o  xs hx
 obtain⟨r',h',hb,dh,gG,gH,rfl,ho⟩:=tD (cf:=cD) (m:=M) (aW:=cC) rfl   h L  o H
 exact⟨dh,gG,gH,h',gT (T:=bD) rfl rfl hx hb,ho⟩
theorem Ud:P5 cD M:=by
 intro s0 aJ r H h L  aq an ao o  xs hx
 obtain⟨r',h',hb,aD,aE,rfl,ho⟩:=mE (cf:=cD) (m:=M) (aW:=cC) rfl  s0 aJ h L aq an ao  o H
 exact⟨aD,aE,h',gT (T:=bD) rfl rfl hx hb,ho⟩
theorem OO:Ns cD M:=by
 intro s0 r H  h xs hx
 exact bn (T:=bD) (deep:=a6) rfl rfl rfl a7 hx (mF (cf:=cD) (m:=M) (aW:=cC) rfl  s0 bA []   aU H)
theorem Oh:Hz cD M:=by
 intro s0 n0 r H  h xs hx
 exact bn (T:=bD) (deep:=a6) rfl rfl rfl a7 hx (nt (cf:=cD) (m:=M) (aW:=cC) rfl  s0 n0 bA []   aU H)
theorem WC:SZ cD M:=by
 intro s0 n0 r H  h L xs o hx
 obtain⟨r',h',hb,dh,rfl,ho⟩:=ma (cf:=cD) (m:=M) (aW:=cC) rfl Oh s0 n0 bA []   aU H
 exact⟨np h.next dh,_,kl (T:=bD) (deep:=a6) rfl rfl rfl a7 hx hb (rr),Has.eM o ho (yO (fun _=>rfl) (.nil)),ji _ _⟩
theorem Oi:Ma cD M:=by
 intro s0 F5 n0 r H h L  aq an ao o fk aV cb rN hZ pJ ia xs hx
 obtain⟨r',h',hb,aD,aE,rfl,ho⟩:=nu (cf:=cD) (m:=M) (aW:=cC) rfl OO s0 F5 n0 h L aq an ao fk aV cb  rN hZ pJ ia o H
 exact⟨aD,aE,h',gT (T:=bD) rfl rfl hx hb,ho⟩
theorem WD:S3 cD M:=by
 intro  r H  h xs hx
 exact bn (T:=bD) (deep:=a6) rfl rfl rfl a7 hx (mb (cf:=cD) (m:=M) (aW:=cC) rfl   bA []   aU H)
theorem WE:S4 cD M:=by
 intro x0 r H  h xs hx
 exact bn (T:=bD) (deep:=a6) rfl rfl rfl a7 hx (mc (cf:=cD) (m:=M) (aW:=cC) rfl  x0 bA []   aU H)
theorem Ue:P6 cD M:=by
 intro s0 n0 r H  h xs hx
 exact bn (T:=bD) (deep:=a6) rfl rfl rfl a7 hx (me (cf:=cD) (m:=M) (aW:=cC) rfl  s0 n0 bA []   aU H)
theorem WG:P7 cD M:=by
 intro a0 b0 r H  h xs hx
 exact bn (T:=bD) (deep:=a6) rfl rfl rfl a7 hx (pK (cf:=cD) (m:=M) (aW:=cC) rfl  a0 b0 bA []   aU H)
theorem Ug:P8 cD M:=by
 intro s0 n0 r H  h xs hx
 exact bn (T:=bD) (deep:=a6) rfl rfl rfl a7 hx (mG (cf:=cD) (m:=M) (aW:=cC) rfl  s0 n0 bA []   aU H)
theorem WH:S5 cD M:=by
 intro a0 x0 r H  h xs hx
 exact bn (T:=bD) (deep:=a6) rfl rfl rfl a7 hx (kp (cf:=cD) (m:=M) (aW:=cC) rfl Ue a0 x0 bA []   aU H)
theorem Uh:P9 cD M:=by
 intro s0 r H  h xs hx
 exact bn (T:=bD) (deep:=a6) rfl rfl rfl a7 hx (rO (cf:=cD) (m:=M) (aW:=cC) rfl  s0 bA []   aU H)
theorem WI:S9 cD M:=by
 intro s0 s1 eq0 r H jk bZ mH mI h xs hx
 exact bn (T:=bD) (deep:=a6) rfl rfl rfl a7 hx (jl (cf:=cD) (m:=M) (aW:=cC) rfl  s0 s1 eq0 bA [] jk bZ  mH mI aU H)
theorem WJ:Ta cD M:=by
 intro s0 s1 r H  h xs hx
 exact bn (T:=bD) (deep:=a6) rfl rfl rfl a7 hx (oR (cf:=cD) (m:=M) (aW:=cC) rfl  s0 s1 bA []   aU H)
theorem Ui:∀kk,OB cD M kk
 | 0=>by
  intro i0 x0 x1 x2 x3 r H h L  dA dS dB dd eO eX dG dp o  xs hx
  cases H
 | kk+1=>by
  intro i0 x0 x1 x2 x3 r H h L  dA dS dB dd eO eX dG dp o  xs hx
  obtain⟨r',h',hb,mA,iA,rfl,ho⟩:=pL (cf:=cD) (m:=M) (aW:=cC) rfl  i0 x0 x1 x2 x3 h L dA dS dB dd eO eX dG dp  (Ui kk) o H
  exact⟨mA,iA,h',gT (T:=bD) rfl rfl hx hb,ho⟩
theorem Uj:Qf cD M:=by
 intro s0 f0 r H fk aV hZ ia h xs hx
 exact bn (T:=bD) (deep:=a6) rfl rfl rfl a7 hx (xb (cf:=cD) (m:=M) (aW:=cC) rfl  s0 f0 bA [] fk aV  hZ ia aU H)
theorem WK:Tb cD M:=by
 intro s0 f0 r H fk aV hZ ia h xs hx
 exact bn (T:=bD) (deep:=a6) rfl rfl rfl a7 hx (xc (cf:=cD) (m:=M) (aW:=cC) rfl  s0 f0 bA [] fk aV  hZ ia aU H)
theorem WL:Tc cD M:=by
 intro a0 x0 r H  h xs hx
 exact bn (T:=bD) (deep:=a6) rfl rfl rfl a7 hx (qD (cf:=cD) (m:=M) (aW:=cC) rfl  a0 x0 bA []   aU H)
theorem WM:Td cD M:=by
 intro gI r H  h xs hx
 exact bn (T:=bD) (deep:=a6) rfl rfl rfl a7 hx (rP (cf:=cD) (m:=M) (aW:=cC) rfl  gI bA []   aU H)
theorem WN:Qg cD M:=by
 intro c0 r H  h xs hx
 exact bn (T:=bD) (deep:=a6) rfl rfl rfl a7 hx (qE (cf:=cD) (m:=M) (aW:=cC) rfl  c0 bA []   aU H)
theorem WO:Te cD M:=by
 intro x0 r H  h xs hx
 exact bn (T:=bD) (deep:=a6) rfl rfl rfl a7 hx (oS (cf:=cD) (m:=M) (aW:=cC) rfl  x0 bA []   aU H)
theorem WQ:Tf cD M:=by
 intro x0 r H  h xs hx
 exact bn (T:=bD) (deep:=a6) rfl rfl rfl a7 hx (mJ (cf:=cD) (m:=M) (aW:=cC) rfl  x0 bA []   aU H)
theorem Sn:KM cD M:=by
 intro ax a0 b0 aX r H h L cH aH o rz gm fw D2 AL AM D3 xs hx
 have hn0:cH=ax.length:=cW (E:=af) o (q:=0) rfl
 subst hn0
 obtain⟨r',h',hb,rfl,ho⟩:=n6 (cf:=cD) (m:=M) (aW:=cC) rfl  ax a0 b0 aX h L aH rz gm fw  D2 AL AM D3 o H
 exact⟨h',gT (T:=bD) rfl rfl hx hb,ho⟩
theorem Sp:KN cD M:=by
 intro ax a0 b0 n0 aX r H h L cH aH o fm bk aY gV iw iy iY xs hx
 have hn0:cH=ax.length:=cW (E:=af) o (q:=0) rfl
 subst hn0
 obtain⟨r',h',hb,rfl,ho⟩:=rQ (cf:=cD) (m:=M) (aW:=cC) rfl  ax a0 b0 n0 aX h L aH fm bk aY  gV iw iy iY o H
 exact⟨h',gT (T:=bD) rfl rfl hx hb,ho⟩
theorem WR:Qi cD M:=by
 intro s0 r H  h xs hx
 exact bn (T:=bD) (deep:=a6) rfl rfl rfl a7 hx (mK (cf:=cD) (m:=M) (aW:=cC) rfl OO s0 bA []   aU H)
theorem WS:Tg cD M:=by
 intro s0 r H h L  aq an ao o  xs hx
 obtain⟨r',h',hb,aD,aE,rfl,ho⟩:=nv (cf:=cD) (m:=M) (aW:=cC) rfl Oi WD s0 h L aq an ao  o H
 exact⟨aD,aE,h',gT (T:=bD) rfl rfl hx hb,ho⟩
theorem WT:Th cD M:=by
 intro s0 n0 r H h L  aq an ao o  xs hx
 obtain⟨r',h',hb,aD,aE,rfl,ho⟩:=nw (cf:=cD) (m:=M) (aW:=cC) rfl Oi WE s0 n0 h L aq an ao  o H
 exact⟨aD,aE,h',gT (T:=bD) rfl rfl hx hb,ho⟩
theorem Uk:OC cD M:=by
 intro s0 n0 r H  h L xs o hx
 obtain⟨r',h',hb,dh,rfl,ho⟩:=mf (cf:=cD) (m:=M) (aW:=cC) rfl Uc Oh s0 n0 bA []   aU H
 exact⟨np h.next dh,_,kl (T:=bD) (deep:=a6) rfl rfl rfl a7 hx hb (tB (cE (rfl) (cE (rfl) (cE (rfl) (cE (rr) (jS)))))),Has.eM o ho (yO (fun _=>rfl) (.nil)),ji _ _⟩
theorem Sq:OD cD M:=by
 intro s0 f0 r H fk aV hZ ia h xs hx
 exact bn (T:=bD) (deep:=a6) rfl rfl rfl a7 hx (rR (cf:=cD) (m:=M) (aW:=cC) rfl Uj s0 f0 bA [] fk aV  hZ ia aU H)
theorem WU:Tk cD M:=by
 intro n0 x0 r H  h xs hx
 exact bn (T:=bD) (deep:=a6) rfl rfl rfl a7 hx (kT (cf:=cD) (m:=M) (aW:=cC) rfl Ue n0 x0 bA []   aU H)
theorem WV:Ql cD M:=by
 intro s0 a0 b0 r H h L  aq an ao o  xs hx
 obtain⟨r',h',hb,aD,aE,rfl,ho⟩:=mL (cf:=cD) (m:=M) (aW:=cC) rfl Ug s0 a0 b0 h L aq an ao  o H
 exact⟨aD,aE,h',gT (T:=bD) rfl rfl hx hb,ho⟩
theorem WW:Tl cD M:=by
 intro s0 kU r H h L Iy aH o fk aV cb rN hZ pJ ia xs hx
 have hn0:Iy=s0.length:=cW (E:=af) o (q:=0) rfl
 subst hn0
 obtain⟨r',h',hb,rfl,ho⟩:=uN (cf:=cD) (m:=M) (aW:=cC) rfl Uj s0 kU h L aH fk aV cb  rN hZ pJ ia o H
 exact⟨h',gT (T:=bD) rfl rfl hx hb,ho⟩
theorem WX:Tm cD M:=by
 intro n0 x0 r H  h xs hx
 exact bn (T:=bD) (deep:=a6) rfl rfl rfl a7 hx (kV (cf:=cD) (m:=M) (aW:=cC) rfl Ug n0 x0 bA []   aU H)
theorem WY:Tn cD M:=by
 intro x0 x1 r H  h xs hx
 exact bn (T:=bD) (deep:=a6) rfl rfl rfl a7 hx (lB (cf:=cD) (m:=M) (aW:=cC) rfl Uh x0 x1 bA []   aU H)
theorem WZ:To cD M:=by
 intro s0 f0 r H fk aV hZ ia h xs hx
 exact bn (T:=bD) (deep:=a6) rfl rfl rfl a7 hx (rS (cf:=cD) (m:=M) (aW:=cC) rfl WK s0 f0 bA [] fk aV  hZ ia aU H)
theorem W2:Tp cD M:=by
 intro s0 kW ow r H  h xs hx
 exact bn (T:=bD) (deep:=a6) rfl rfl rfl a7 hx (tI (cf:=cD) (m:=M) (aW:=cC) rfl WN s0 kW ow bA []   aU H)
theorem W3:Tq cD M:=by
 intro x0 y0 r H  h xs hx
 exact bn (T:=bD) (deep:=a6) rfl rfl rfl a7 hx (ny (cf:=cD) (m:=M) (aW:=cC) rfl WO x0 y0 bA []   aU H)
theorem W4:Tr cD M:=by
 intro x0 y0 r H  h xs hx
 exact bn (T:=bD) (deep:=a6) rfl rfl rfl a7 hx (lC (cf:=cD) (m:=M) (aW:=cC) rfl WQ x0 y0 bA []   aU H)
theorem Sr:Nw cD M:=by
 intro ax a0 m0 b0 aX r H h L cH aH o fm bk aY gV iw iy iY xs hx
 have hn0:cH=ax.length:=cW (E:=af) o (q:=0) rfl
 subst hn0
 obtain⟨r',h',hb,rfl,ho⟩:=xe (cf:=cD) (m:=M) (aW:=cC) rfl Sp ax a0 m0 b0 aX h L aH fm bk aY  gV iw iy iY o H
 exact⟨h',gT (T:=bD) rfl rfl hx hb,ho⟩
theorem Oj:Mb cD M:=by
 intro s0 l0 r H  h xs hx
 exact bn (T:=bD) (deep:=a6) rfl rfl rfl a7 hx (mg (cf:=cD) (m:=M) (aW:=cC) rfl OO Sq WU s0 l0 bA []   aU H)
theorem Ul:Qp cD M:=by
 intro s0 a0 b0 r H h L  aq an ao o  xs hx
 obtain⟨r',h',hb,dh,aD,aE,rfl,ho⟩:=lD (cf:=cD) (m:=M) (aW:=cC) rfl Oh WG WV s0 a0 b0 h L aq an ao  o H
 exact⟨dh,aD,aE,h',gT (T:=bD) rfl rfl hx hb,ho⟩
theorem Um:Qv cD M:=by
 intro s0 aJ r H  h L xs o hx
 obtain⟨r',h',hb,dh,rfl,ho⟩:=mh (cf:=cD) (m:=M) (aW:=cC) rfl WW WX Ww s0 aJ bA []   aU H
 exact⟨np h.next dh,_,kl (T:=bD) (deep:=a6) rfl rfl rfl a7 hx hb (rr),Has.eM o ho (yO (fun _=>rfl) (.nil)),ji _ _⟩
theorem W5:Tt cD M:=by
 intro s0 cF n0 r H h L  aq an ao o  xs hx
 obtain⟨r',h',hb,aD,aE,rfl,ho⟩:=mM (cf:=cD) (m:=M) (aW:=cC) rfl Oi WY s0 cF n0 h L aq an ao  o H
 exact⟨aD,aE,h',gT (T:=bD) rfl rfl hx hb,ho⟩
theorem Ss:OE cD M:=by
 intro s0 r H  h xs hx
 exact bn (T:=bD) (deep:=a6) rfl rfl rfl a7 hx (tM (cf:=cD) (m:=M) (aW:=cC) rfl W2 s0 bA []   aU H)
theorem W6:Tu cD M:=by
 intro x0 x1 x2 r H  h xs hx
 exact bn (T:=bD) (deep:=a6) rfl rfl rfl a7 hx (kY (cf:=cD) (m:=M) (aW:=cC) rfl Ss Sq WH x0 x1 x2 bA []   aU H)
theorem W7:Tv cD M:=by
 intro n0 mB r H  h xs hx
 exact bn (T:=bD) (deep:=a6) rfl rfl rfl a7 hx (tN (cf:=cD) (m:=M) (aW:=cC) rfl Ss Sq Uh WL n0 mB bA []   aU H)
theorem Su:NA cD M:=by
 intro a0 b0 r H  h xs hx
 exact bn (T:=bD) (deep:=a6) rfl rfl rfl a7 hx (nA (cf:=cD) (m:=M) (aW:=cC) rfl W3 WM W4 a0 b0 bA []   aU H)
theorem W8:Tw cD M:=by
 intro i0 j0 x0 r H  h xs hx
 exact bn (T:=bD) (deep:=a6) rfl rfl rfl a7 hx (n7 (cf:=cD) (m:=M) (aW:=cC) rfl Su i0 j0 x0 bA []   aU H)
theorem Ol:∀kk,uP cD M kk
 | 0=>by
  intro ax a0 m0 b0 aX r H h L cH aH o fm bk aY gV iw iy iY xs hx
  cases H
 | kk+1=>by
  intro ax a0 m0 b0 aX r H h L cH aH o fm bk aY gV iw iy iY xs hx
  have hn0:cH=ax.length:=cW (E:=af) o (q:=0) rfl
  subst hn0
  obtain⟨r',h',hb,rfl,ho⟩:=tQ (cf:=cD) (m:=M) (aW:=cC) rfl Sr ax a0 m0 b0 aX h L aH fm bk aY  (Ol kk) gV iw iy iY o H
  exact⟨h',gT (T:=bD) rfl rfl hx hb,ho⟩
theorem Un:QJ cD M:=by
 intro s0 a0 b0 r H h L  aq an ao o  xs hx
 obtain⟨r',h',hb,dh,aD,aE,rfl,ho⟩:=mj (cf:=cD) (m:=M) (aW:=cC) rfl Oj Ul Ud Um s0 a0 b0 h L aq an ao  o H
 exact⟨dh,aD,aE,h',gT (T:=bD) rfl rfl hx hb,ho⟩
theorem W9:QK cD M:=by
 intro s0 n0 r H  h L xs o hx
 obtain⟨r',h',hb,dh,rfl,ho⟩:=ml (cf:=cD) (m:=M) (aW:=cC) rfl Oj Uk Oh s0 n0 bA []   aU H
 exact⟨np h.next dh,_,kl (T:=bD) (deep:=a6) rfl rfl rfl a7 hx hb (AD (cE (tB (cE (rfl) (cE (rfl) (cE (rfl) (cE (rr) (jS)))))) (cE (rfl) (jS)))),Has.eM o ho (yO (fun _=>rfl) (.nil)),ji _ _⟩
theorem Uo:QL cD M:=by
 intro s0 a0 b0 r H h L  aq an ao o  xs hx
 obtain⟨r',h',hb,EC,aD,aE,rfl,ho⟩:=mN (cf:=cD) (m:=M) (aW:=cC) rfl Oj Ul Ud Um s0 a0 b0 h L aq an ao  o H
 exact⟨EC,aD,aE,h',gT (T:=bD) rfl rfl hx hb,ho⟩
theorem Xa:QM cD M:=by
 intro s0 n0 r H  h xs hx
 exact bn (T:=bD) (deep:=a6) rfl rfl rfl a7 hx (nC (cf:=cD) (m:=M) (aW:=cC) rfl Oj Oh s0 n0 bA []   aU H)
theorem Xb:Tz cD M:=by
 intro s0 cF dR r H h L  aq an ao o  xs hx
 obtain⟨r',h',hb,aD,aE,rfl,ho⟩:=mn (cf:=cD) (m:=M) (aW:=cC) rfl Uc Oi W6 s0 cF dR h L aq an ao  o H
 exact⟨aD,aE,h',gT (T:=bD) rfl rfl hx hb,ho⟩
theorem Xc:TA cD M:=by
 intro x0 r H  h xs hx
 exact bn (T:=bD) (deep:=a6) rfl rfl rfl a7 hx (lF (cf:=cD) (m:=M) (aW:=cC) rfl Ss x0 bA []   aU H)
theorem Xd:TB cD M:=by
 intro n0 x0 r H  h xs hx
 exact bn (T:=bD) (deep:=a6) rfl rfl rfl a7 hx (pQ (cf:=cD) (m:=M) (aW:=cC) rfl W7 n0 x0 bA []   aU H)
theorem Xe:TC cD M:=by
 intro m0 n0 r H  h xs hx
 exact bn (T:=bD) (deep:=a6) rfl rfl rfl a7 hx (pR (cf:=cD) (m:=M) (aW:=cC) rfl Su WJ m0 n0 bA []   aU H)
theorem Xf:TD cD M:=by
 intro ax n0 aX r H h L cH aH o jk bZ dv n9 mH rU mI xs hx
 have hn0:cH=ax.length:=cW (E:=af) o (q:=0) rfl
 subst hn0
 obtain⟨r',h',hb,rfl,ho⟩:=xh (cf:=cD) (m:=M) (aW:=cC) rfl Sn (Ol _) ax n0 aX h L aH jk bZ dv  n9 mH rU mI o H
 exact⟨h',gT (T:=bD) rfl rfl hx hb,ho⟩
theorem Xg:TE cD M:=by
 intro s0 a0 r H h L  aq an ao o  xs hx
 obtain⟨r',h',hb,aD,aE,rfl,ho⟩:=mO (cf:=cD) (m:=M) (aW:=cC) rfl Oi Xc s0 a0 h L aq an ao  o H
 exact⟨aD,aE,h',gT (T:=bD) rfl rfl hx hb,ho⟩
theorem Up:QS cD M:=by
 intro t0 r H  h xs hx
 exact bn (T:=bD) (deep:=a6) rfl rfl rfl a7 hx (rV (cf:=cD) (m:=M) (aW:=cC) rfl WZ Xd t0 bA []   aU H)
theorem Xh:TF cD M:=by
 intro a0 b0 r H  h xs hx
 exact bn (T:=bD) (deep:=a6) rfl rfl rfl a7 hx (rW (cf:=cD) (m:=M) (aW:=cC) rfl WI Xe a0 b0 bA []   aU H)
theorem Xi:TG cD M:=by
 intro x0 aX r H h L Gm aH o fk aV cb rN hZ pJ ia xs hx
 have hn0:Gm=x0.length:=cW (E:=af) o (q:=0) rfl
 subst hn0
 obtain⟨r',h',hb,rfl,ho⟩:=pS (cf:=cD) (m:=M) (aW:=cC) rfl Xf x0 aX h L aH fk aV cb  rN hZ pJ ia o H
 exact⟨h',gT (T:=bD) rfl rfl hx hb,ho⟩
theorem Xj:TH cD M:=by
 intro aN r H  h xs hx
 exact bn (T:=bD) (deep:=a6) rfl rfl rfl a7 hx (pV (cf:=cD) (m:=M) (aW:=cC) rfl Su Xi W8 aN bA []   aU H)
theorem Uq:Rr cD M:=by
 intro t0 r H  h L xs o hx
 obtain⟨r',h',hb,dh,dY,rfl,ho⟩:=rX (cf:=cD) (m:=M) (aW:=cC) rfl Xj (Ui _) t0 bA []   aU H
 exact⟨np h.next dh,dY.map (np h.next),_,kl (T:=bD) (deep:=a6) rfl rfl rfl a7 hx hb (tB (cE (rr) (cE (rfl) (jS)))),Has.eM o ho (FV (wZ .nil)),ji _ _⟩
theorem Xk:T7 cD M:=by
 intro a0 b0 r H  h xs hx
 exact bn (T:=bD) (deep:=a6) rfl rfl rfl a7 hx (uq (cf:=cD) (m:=M) (aW:=cC) rfl Up Xh Uq a0 b0 bA []   aU H)
theorem Ur:Rt cD M:=by
 intro t0 r H  h L xs o hx
 obtain⟨r',h',hb,dh,dY,rfl,ho⟩:=rY (cf:=cD) (m:=M) (aW:=cC) rfl Up Uq t0 bA []   aU H
 exact⟨np h.next dh,dY.map (np h.next),_,kl (T:=bD) (deep:=a6) rfl rfl rfl a7 hx hb (AD (cE (tB (cE (rr) (cE (rfl) (jS)))) (cE (rfl) (jS)))),Has.eM o ho (FV (wZ .nil)),ji _ _⟩
theorem Xl:TM cD M:=by
 intro s0 n0 r H  h L xs o hx
 obtain⟨r',h',hb,dh,dY,rfl,ho⟩:=mP (cf:=cD) (m:=M) (aW:=cC) rfl Oj Uk WC Ur s0 n0 bA []   aU H
 exact⟨np h.next dh,dY.map (np h.next),_,kl (T:=bD) (deep:=a6) rfl rfl rfl a7 hx hb (AD (cE (tB (cE (rr) (cE (rfl) (jS)))) (cE (rfl) (jS)))),Has.eM o ho (FV (wZ .nil)),ji _ _⟩
theorem Xm:TO cD M:=by
 intro s0 t0 r H h L  aq an ao o  xs hx
 obtain⟨r',h',hb,aD,aE,rfl,ho⟩:=nE (cf:=cD) (m:=M) (aW:=cC) rfl OO Ur s0 t0 h L aq an ao  o H
 exact⟨aD,aE,h',gT (T:=bD) rfl rfl hx hb,ho⟩
theorem Xn:RA cD M:=by
 intro s0 x0 r H h L  aq an ao o  xs hx
 obtain⟨r',h',hb,aD,aE,rfl,ho⟩:=uQ (cf:=cD) (m:=M) (aW:=cC) rfl Un Uo WS Xg WT Xb W5 Xm s0 x0 h L aq an ao  o H
 exact⟨aD,aE,h',gT (T:=bD) rfl rfl hx hb,ho⟩
theorem Xo:TP cD M:=by
 intro l0 r H h L   o  xs hx
 obtain⟨r',h',hb,dh,gG,gH,rfl,ho⟩:=rZ (cf:=cD) (m:=M) (aW:=cC) rfl Xn WB l0 h L  o H
 exact⟨dh,gG,gH,h',gT (T:=bD) rfl rfl hx hb,ho⟩
theorem j8:S8 cD M:=by
 intro l0 a0 b0 r H  h xs hx
 exact bn (T:=bD) (deep:=a6) rfl rfl rfl a7 hx (mR (cf:=cD) (m:=M) (aW:=cC) rfl Wy Wx Xo Un WR W9 Xl Xk Uo Xa WA l0 a0 b0 bA []   aU H)
end Go.Proofs.Ytifafejidnjckaa
namespace Go.Proofs.Ytifafejidnjckaa
open Go Go.R Go.Proofs Go.RowKit Go.ChangeShapes Go.WideShapes
open Go.IntKind (i64 u64 u8 u32)
theorem all_true (wK:List AV)(h:pC Try.prog 7 Try.f8.params.toList wK):∃cf h',CallOK Try.prog cf∧cf 8 wK bA=some (.bool true,h'):=by
 rw [show Try.f8.params.toList=[22,3,3] from by rw [Try.params8]] at h
 obtain⟨xs,ys,zs,rfl,h1,h2,h3⟩:=Es h
 obtain⟨l,hl,fl⟩:=Ho (n:=0) h1
 obtain⟨a,fa⟩:=Dm (n:=6) h2
 obtain⟨b,fb⟩:=Dm (n:=6) h3
 exact⟨cD,bA,LS,j8 l a b true (Bd (by decide) l a b hl) bA _ (fq (ah (fl bA) (ah (fa bA) (ah (fb bA) (aw)))))⟩
theorem p4 (os:Os)(started:os.Started)(H:Type)(enc:TypeId × Value→H) :
  ReturnsInHanded {} Try.checked os 8 .any (Rows.storeEqualSpec.pre6 enc Try.prog Try.f8 Rows.storeEqualRow.domain false) (Rows.storeEqualSpec.post enc Try.prog Try.f8 false true false false):=by
 refine returnsInHanded_of_change (C:=Try.checked) (by kernel_rfl) started (by kernel_rfl) Try.func8
  (ChangeSpec.witness6 (enc:=enc) (C:=Try.checked) false ⟨#[],#[.slice none 0 0,.int .i64 0,.int .i64 0],[]⟩ 8 (by kernel_rfl) (by kernel_rfl) (by kernel_rfl) (by kernel_rfl)) ?_
 intro W base args ds gs before eC hW Xp _
 exact uF (cf:=fun _ _ _=>none) (P:=Try.prog) (m:=7) (tb:=4) (by kernel_rfl)
  (by rw [show Try.f8.params.toList=[22,3,3] from by rw [Try.params8]]; intro t ht; simp only [X7,List.not_mem_nil,or_false] at ht; rcases ht with rfl | rfl | rfl<;>exact⟨by kernel_rfl,of_decide_eq_true (by kernel_rfl)⟩)
  (by rw [show Try.f8.params.toList=[22,3,3] from by rw [Try.params8]]; intro t ht; simp only [X7,List.not_mem_nil,or_false] at ht; rcases ht with rfl | rfl | rfl<;>kernel_rfl) rfl rfl Try.underlying4
  (fun ds J0=>by
   have:ds.length=3:=by rw [J0]; rfl
   match ds,this with
   | [d0,d1,d2],_=>rfl) all_true eC hW
theorem storeEqual_holds:Rows.StoreEqualSaid:=
 OpenClaim.holds_of_wide 8 Try.f8 rfl rfl rfl rfl rfl rfl rfl ⟨rfl,rfl,rfl,rfl,rfl⟩ rfl rfl rfl rfl rfl (by kernel_rfl) Try.func8 (by kernel_rfl)
  (of_decide_eq_true (by kernel_rfl)) (by unfold Func.isWrapper; first | (rw [if_pos (by decide +kernel)]; kernel_rfl) | (rw [if_neg (by decide +kernel)]; exact⟨rfl,rfl⟩))
  (fun os started H enc _=>p4 os started H enc)
end Go.Proofs.Ytifafejidnjckaa
