/- Part of the proof: Q33, Q14, Q41, Q19, PR6, PR7, PT1, PT2, PR8, PR9, PT3, PT4, PT5, PT11, Q16, Q18, Q4, PR10, PT12, PB2, Q102, Q104, Q105, Q103. -/
import Derived.Test.YtmekcfdllhphlaaDoorK10
set_option linter.unusedVariables false
set_option linter.unusedSimpArgs false
set_option maxRecDepth 100000
open Bool renaming and_eq_true → Xw
open ByteArray renaming mk → XV
open Int renaming toNat_natCast → Xy
open List renaming length_append → XB, getElem?_eq_getElem → XD, append_assoc → XF, length_map → XI, getElem?_eq_none → XL, map_cons → XN, mem_map → XQ, length_cons → XR, all_eq_true → XT, getElem?_map → XZ, nil_append → X2, mem_cons → X8, ext_getElem? → Yh, length_nil → Yk, idxOf_lt_length_of_mem → Ys, mem_of_getElem? → Yu, getElem_of_mem → Y1
open Nat renaming le_refl → Xv
open Option renaming bind_some → Xr, bind_eq_some_iff → Xs, map_some → Xx
open Option.some renaming injEq → Xu, inj → XP
open Or renaming inr → Yv, inl → YQ
namespace Go.Proofs.YtmekcfdllhphlaaDoor
open Go Go.R
open Go.IntKind (i64 u64 u8 u32)
def Cv:cg:=gK [0,1,2] [1] [5,3] [] []
def eT.f (m:Nat)(t0:ak):Option (Bool):=(fG.f m t0.nodes (fun y0=>fK.f m y0)).bind fun x0=>some x0
def eT.fin (L:Mem)(r:Bool)(s:St):Prop:=∃av,aH Tryd.prog (s.open Cv) Tryd.f33.results.toList=some av∧fW s.h av (.bool r)
def TN (cf:CallF)(m:Nat):Prop:=∀(t0:ak) (r:Bool),eT.f m t0=some r→∀h xs,eN fi h xs [.agg [af.fz t0.nodes,.int .i64 t0.root]]→cf 33 xs h=some (.bool r,h)
section
variable {cf:CallF}{m:Nat}
theorem ph {aU:FuncId→cg}(ha:aU 33=Cv)(Lb:Qu cf m)(Rg:TM cf m)(t0:ak)(h:AHeap)(L:Mem)  (o:Has h (L)){out:Bool}(H:eT.f m t0=some out) :
  ∃r h',bc Tryd.prog aU cf m 33 [.agg [af.fz t0.nodes,.int .i64 t0.root]] h=some (r,h')∧fW h' r (.bool out):=by
 refine aq (fn:=Tryd.f33) ha Tryd.func33 (by kernel_rfl) (by kernel_rfl) ?_
 refine aG (Q:=fun s=>eT.fin L out s) (fun _ _ h=>h) ?_
 have H:_=some out:=H
 unfold eT.f at H
 show de _ cf Cv m _ ⟨[.agg [af.fz t0.nodes,.int .i64 t0.root],.any,.any],[none],h⟩ _
 refine q1 <| qq ?_
 obtain⟨x0,e0,H⟩:=aI H
 obtain rfl:=oi H
 exact qr [.a 2 (Lb _ _ _ e0 h (Has.pos o) 35 [] rfl (fun y0 r hr=>Rg y0 r hr h _ (hH (ae (dy (ae (aO) (ae (aO) (ae (bY) (ae (db (E:=aa)) (aC)))))) (aC)))) _ (an (aP (iN (E:=af))) (an ((rfl:az (.fn 35 [])=_)) (bo))))] <| qt <| ⟨.inl rfl,cb (.bool x0) h (b9 (au))⟩
end
end Go.Proofs.YtmekcfdllhphlaaDoor
namespace Go.Proofs.YtmekcfdllhphlaaDoor
open Go Go.R
open Go.IntKind (i64 u64 u8 u32)
def zf:cg:=gK [0,2,3,4,6,7,8,9,12,13,14,15,16,25,32,37] [6,7] [65534,65278,65529,65526,61943,57847,61927,61847,53719,65529,61943,61943,49143,65529,65407,32639,65529,65529] [(12,[(4,none,0)])] [(3,[(4,none,2)])]
def b8.l0 (m:Nat)(a6:List ak):Nat→(List ak)→Int→Option (Sum ((List Int) × Int) ((List ak) × Int))
 | 0,_,_=>none
 | k+1,hZ,x0=>if (decide (x0<(a6.length:Int)))=true then ((ix a6 x0).bind fun v0=>(dQ.f m v0).bind fun x1=>if (!(x1.2==(0:Int)))=true then (some (.inl ([],(2:Int)))) else ((app 32 hZ ([x1.1])).bind fun x2=>b8.l0 m a6 k x2 (i64.wrap (x0+(1:Int))))) else (some (.inr (hZ,x0)))
def b8.f (m:Nat)(a6:List ak):Option ((List Int) × Int):=if (decide ((a6.length:Int) > (8:Int)))=true then (some ([],(3:Int))) else ((b8.l0 m a6 m ([]:List ak) (0:Int)).bind fun bj=>match bj with | .inl r0=>some r0 | .inr (xG,x3)=>(gu.f m xG (fun y0=>eT.f m y0)).bind fun x4=>if x4=true then (some ([],(4:Int))) else ((aS.f m xG).bind fun x5=>if (decide ((x5.length:Int) > (200000:Int)))=true then (some ([],(3:Int))) else (some (x5,(0:Int)))))
def b8.fin (L:Mem)(r:(List Int) × Int)(s:St):Prop:=∃av,aH Tryd.prog (s.open zf) Tryd.f14.results.toList=some av∧wX s.h av (.tup [aw.fz r.1,.int .i64 r.2])
def Rh (cf:CallF)(m:Nat):Prop:=∀(a6:List ak) (r:(List Int) × Int),b8.f m a6=some r→∀h xs,lA xs [aR.fz a6]→cf 14 xs h=some (.tup [aw.fz r.1,.int .i64 r.2],h)
section
variable {cf:CallF}{m:Nat}
theorem b8.bI (L:Mem)(a6:List ak)  (Gz:Pb cf m):bD Tryd.prog cf zf m (sub [1,1,1,0,1,0,0] (codeOf Tryd.f14)) (fun k (σ:(List ak) × Int)=>b8.l0 m a6 k σ.1 σ.2) (fun σ s=>match σ with | (hZ,x0)=>∃aA h0,s=⟨jP (.rs aA 0 hZ.length 2::rB (aR.fz a6 :: .int .i64 (a6.length:Int) :: .int .i64 x0::q9 [])),[none,none],h0⟩∧Has h0 ((aA,.sl hZ.length 2 (aR.l hZ))::L)) (fun out e s=>(e = .exit 0∧∃hZ x0,.inr (hZ,x0)=out∧∃qe xi tH Gx aA h0,s=⟨jP (.rs aA 0 hZ.length 2::rB (qe::xi::tH::Gx::jP [])),[none,none],h0⟩∧Has h0 ((aA,.sl hZ.length 2 (aR.l hZ))::L))∨(e = .ret∧∃r,.inl r=out∧b8.fin L r s)):=by
 refine gG (fun _=>rfl) ?_
 rintro k ⟨hZ,x0⟩ s out ⟨aA,h0,rfl,o1⟩ H
 have H:b8.l0 m a6 (k+1) hZ x0=some out:=H
 refine q1 <| qq <| qc H (fun c1 H=>?_) (fun c1 H=>?_)
 ·refine qk <| qq <| qb 1 <| qq ?_
  obtain⟨v0,e0,H⟩:=aI H
  refine qr [.v 0 (bw (k:=.i64) (E:=aR) (l:=a6) DE e0),.v 1 (dw  (E:=aR) (l:=a6) h0 L9 Ma e0)] <| qq ?_
  obtain⟨x1,e1,H⟩:=aI H
  refine qr [.a 1 (Gz _ _ e1 h0 _ (cG (nE (cG (iN (E:=af)) (cG (bE) (gL)))) (gL)))] <| qq <| qq <| q0 <| qc H (fun c2 H=>?_) (fun c2 H=>?_)
  ·refine q1 ?_
   have o2:Has h0 (L):=Has.del o1 0
   exact qt <| Yv (⟨rfl,_,oi H,vD (.tup [.nils,.int .i64 (2:Int)]) h0 (pD (fT (ae (gF) (ae (aO) (aC)))))⟩)
  ·refine qk ?_
   obtain⟨x2,e2,H⟩:=aI H
   obtain⟨eS,h1,e3,o3⟩:=fF (P:=Tryd.prog) (E:=aR) (l:=hZ) (q:=0) (t2:=22) (x:=.fz [af.fz x1.1.nodes,.int .i64 x1.1.root] 1 true) (l2:=([x1.1])) DE o1 rfl (by kernel_rfl) rfl e2
   exact qr [.a 3 e3] <| q0 <| ⟨(x2,i64.wrap (x0+(1:Int))),⟨eS,h1,by kernel_rfl,o3⟩,H⟩
 ·exact qx 0 <| YQ (⟨rfl,hZ,x0,oi H,aR.fz a6,.int .i64 (a6.length:Int),.int .i64 x0,.bool (decide (x0<(a6.length:Int))),aA,h0,by kernel_rfl,o1⟩)
theorem rW {aU:FuncId→cg}(ha:aU 14=zf)(Gz:Pb cf m)(Ri:Tp cf m)(Rj:TN cf m)(Rk:TL cf m)(a6:List ak)(h:AHeap)(L:Mem)  (o:Has h (L)){out:(List Int) × Int}(H:b8.f m a6=some out) :
  ∃r h',bc Tryd.prog aU cf m 14 [aR.fz a6] h=some (r,h')∧wX h' r (.tup [aw.fz out.1,.int .i64 out.2]):=by
 refine aq (fn:=Tryd.f14) ha Tryd.func14 (by kernel_rfl) (by kernel_rfl) ?_
 refine aG (Q:=fun s=>b8.fin L out s) (fun _ _ h=>h) ?_
 have H:_=some out:=H
 unfold b8.f at H
 show de _ cf zf m _ ⟨aR.fz a6::Dw [],[none,none],h⟩ _
 refine q1 <| qq <| qq <| q0 <| qc H (fun c0 H=>?_) (fun c0 H=>?_)
 ·obtain rfl:=oi H
  exact q1 <| qt <| ⟨.inl rfl,vD (.tup [.nils,.int .i64 (3:Int)]) h (pD (fT (ae (gF) (ae (aO) (aC)))))⟩
 ·refine qk <| qq <| q0 ?_
  have o0:Has h (((0),.sl (([]:List ak).length) 2 (aR.l ([]:List ak)))::L):=Has.nil o 2
  refine qq <| qq <| q0 <| qb 0 ?_
  obtain⟨bj,e4,H⟩:=aI H
  refine ql (b8.bI L a6  Gz (([]:List ak),(0:Int)) _ _ ⟨(0),h,by kernel_rfl,o0⟩ e4) ?_
  rintro e s (⟨rfl,xG,x3,rfl,g0,g1,g2,g3,cF,h2,rfl,o4⟩| ⟨rfl,r0,rfl,nI⟩)
  ·try dsimp only at H
   refine qq <| qq ?_
   obtain⟨h3,e5,o5⟩:=iU (E:=aR) (l:=xG) (q:=0) o4 rfl
   obtain⟨x4,e6,H⟩:=aI H
   refine zQ [.a 0 e5] [.a 1 (Ri _ _ _ e6 h3 (Has.pos o5) 33 [] rfl (fun y0 r hr=>Rj y0 r hr h3 _ (hH (ae (dy (ae (db (E:=af)) (ae (aO) (aC)))) (aC)))) _ (an (aP (iN (E:=aR))) (an ((rfl:az (.fn 33 [])=_)) (bo))))] <| qc H (fun c3 H=>?_) (fun c3 H=>?_)
   ·obtain rfl:=oi H
    exact q1 <| qt <| ⟨.inl rfl,vD (.tup [.nils,.int .i64 (4:Int)]) h3 (pD (fT (ae (gF) (ae (aO) (aC)))))⟩
   ·refine qk <| qq ?_
    obtain⟨x5,e7,H⟩:=aI H
    refine qr [.a 1 (Rk _ _ e7 h3 _ (hH (ae (db (E:=aR)) (aC))))] <| qq <| qq <| q0 <| qc H (fun c4 H=>?_) (fun c4 H=>?_)
    ·obtain rfl:=oi H
     exact q1 <| qt <| ⟨.inl rfl,vD (.tup [.nils,.int .i64 (3:Int)]) h3 (pD (fT (ae (gF) (ae (aO) (aC)))))⟩
    ·obtain rfl:=oi H
     exact qk <| qq <| q0 <| qt <| ⟨.inl rfl,vD (.tup [aw.fz x5,.int .i64 (0:Int)]) h3 (pD (fT (ae (db) (ae (aO) (aC)))))⟩
  ·try dsimp only at H
   obtain rfl:=oi H
   exact⟨.inl rfl,nI⟩
end
end Go.Proofs.YtmekcfdllhphlaaDoor
namespace Go.Proofs.YtmekcfdllhphlaaDoor
open Go Go.R
open Go.IntKind (i64 u64 u8 u32)
def Cw:cg:=gK [0,1,4] [] [4,3] [] []
def eU.f (m:Nat)(a0:List Int)(b0:List Int):Option (Bool):=some ((eO a0).data.toList==(eO b0).data.toList)
def eU.fin (L:Mem)(r:Bool)(s:St):Prop:=∃av,aH Tryd.prog (s.open Cw) Tryd.f41.results.toList=some av∧fW s.h av (.bool r)
def TO (cf:CallF)(m:Nat):Prop:=∀(a0:List Int) (b0:List Int) (r:Bool),eU.f m a0 b0=some r→∀h xs,eN fi h xs [aw.fz a0,aw.fz b0]→cf 41 xs h=some (.bool r,h)
section
variable {cf:CallF}{m:Nat}
theorem qu {aU:FuncId→cg}(ha:aU 41=Cw)  (a0:List Int)(b0:List Int)(h:AHeap)(L:Mem)  (o:Has h (L)){out:Bool}(H:eU.f m a0 b0=some out) :
  ∃r h',bc Tryd.prog aU cf m 41 [aw.fz a0,aw.fz b0] h=some (r,h')∧fW h' r (.bool out):=by
 refine aq (fn:=Tryd.f41) ha Tryd.func41 (by kernel_rfl) (by kernel_rfl) ?_
 refine aG (Q:=fun s=>eU.fin L out s) (fun _ _ h=>h) ?_
 have H:_=some out:=H
 unfold eU.f at H
 show de _ cf Cw m _ ⟨[aw.fz a0,aw.fz b0,.any],[],h⟩ _
 obtain rfl:=oi H
 exact q1 <| qq <| qr [.v 1 (show gS Tryd.prog h 25 9 (aw.fz a0)=some (.str (eO a0)) from AA (e:=5) (l:=a0) rfl rfl rfl (Ff _)),.v 3 (show gS Tryd.prog h 25 9 (aw.fz b0)=some (.str (eO b0)) from AA (e:=5) (l:=b0) rfl rfl rfl (Ff _))] <| qt <| ⟨.inl rfl,cb (.bool ((eO a0).data.toList==(eO b0).data.toList)) h (b9 (au))⟩
end
end Go.Proofs.YtmekcfdllhphlaaDoor
namespace Go.Proofs.YtmekcfdllhphlaaDoor
open Go Go.R
open Go.IntKind (i64 u64 u8 u32)
def vQ:cg:=gK [0,2,3,4,5,6,7,8,9,10,11,12,15,33,56,70,93,106] [8] [262142,258046,262137,253950,262137,262134,262118,262086,262022,245638,262022,261894,261638,261126,228358,261126,261126,262022,196590,262137,259054,131055,262137,262137] [(17,[(8,some 0,0)]),(20,[(5,none,0)])] [(6,[(5,none,2)]),(11,[(8,some 0,4)])]
def bg.l1 (m:Nat)(x3:Int × fq):Nat→Int→(List ab)→Int→fq→Option (Int × (List ab) × Int × fq)
 | 0,_,_,_,_=>none
 | k+1,k0,t0,t1,xH=>if (decide (k0<x3.1))=true then (if (!xH.bq)=true then ((cV.f m xH).bind fun x4=>(app 56 t0 ([x4.1])).bind fun x5=>bg.l1 m x3 k (i64.wrap (k0+(1:Int))) x5 t1 x4.2) else (some ((k0,t0,t1,xH)))) else (some ((k0,t0,t1,xH)))
def bg.l0 (m:Nat)(x2:Int × fq):Nat→(List ak)→Int→fq→Option ((List ak) × Int × fq)
 | 0,_,_,_=>none
 | k+1,a6,i0,rX=>if (decide (i0<x2.1))=true then (if (!rX.bq)=true then (if (decide (x2.1≤(8:Int)))=true then ((bK.f m rX).bind fun x3=>(bg.l1 m x3 m (0:Int) ([]:List ab) (0:Int) x3.2).bind fun bj=>match bj with | (k1,t2,t3,ob2)=>(app 32 a6 ([(ak.mk t2 t3)])).bind fun x6=>bg.l0 m x2 k x6 (i64.wrap (i0+(1:Int))) ob2) else (some ((a6,i0,rX)))) else (some ((a6,i0,rX)))) else (some ((a6,i0,rX)))
def bg.f (m:Nat)(b0:List Int):Option ((List ak) × Int):=if (decide ((b0.length:Int) > (200000:Int)))=true then (some ([],(3:Int))) else (if (decide ((b0.length:Int)<(7:Int)))=true then (some ([],(2:Int))) else ((pE b0 (0:Int) (i64.wrap ((b0.length:Int) - (4:Int)))).bind fun v0=>(cz.f m v0).bind fun x0=>(pE b0 (i64.wrap ((b0.length:Int) - (4:Int))) (b0.length:Int)).bind fun v1=>(eU.f m x0 v1).bind fun x1=>if (!x1)=true then (some ([],(2:Int))) else ((pE b0 (2:Int) (i64.wrap ((b0.length:Int) - (4:Int)))).bind fun v2=>(bK.f m (fq.mk v2 false)).bind fun x2=>(bg.l0 m x2 m ([]:List ak) (0:Int) x2.2).bind fun bJ=>match bJ with | (nk,i1,JB)=>if JB.bq=true then (some ([],(2:Int))) else (if (!((nk.length:Int)==x2.1))=true then (some ([],(2:Int))) else ((b8.f m nk).bind fun x7=>if (!(x7.2==(0:Int)))=true then (some ([],(2:Int))) else ((eU.f m x7.1 b0).bind fun x8=>if (!x8)=true then (some ([],(2:Int))) else (some (nk,(0:Int)))))))))
def bg.fin (L:Mem)(r:(List ak) × Int)(s:St):Prop:=∃av,aH Tryd.prog (s.open vQ) Tryd.f19.results.toList=some av∧wX s.h av (.tup [aR.fz r.1,.int .i64 r.2])
def TP (cf:CallF)(m:Nat):Prop:=∀(b0:List Int) (r:(List ak) × Int),bg.f m b0=some r→∀h xs,lA xs [aw.fz b0]→cf 19 xs h=some (.tup [aR.fz r.1,.int .i64 r.2],h)
section
variable {cf:CallF}{m:Nat}
theorem bg.eQ (L:Mem)(b0:List Int)(aA:Nat)(x2:Int × fq)(eS:Nat)(a6:List ak)(i0:Int)(eS:Nat)(x3:Int × fq)  (GA:Pa cf m):bD Tryd.prog cf vQ m (sub [1,1,1,1,1,1,0,1,0,0,1,0,0,1,1,0,1,0,0] (codeOf Tryd.f19)) (fun k (σ:Int × (List ab) × Int × fq)=>bg.l1 m x3 k σ.1 σ.2.1 σ.2.2.1 σ.2.2.2) (fun σ s=>match σ with | (k0,t0,t1,xH)=>∃cF h4,s=⟨aw.fz b0 :: .any :: .any :: .ptr aA 0 :: .rs eS 0 a6.length 2 :: .int .i64 x2.1 :: .int .i64 i0 :: .lp 8 0 :: .int .i64 x3.1 :: .int .i64 k0::pY [],[some [.rs cF 0 t0.length 4,.int .i64 t1]],h4⟩∧Has h4 ((aA,.ob [aw.fz xH.eH,.bool xH.bq])::(cF,.sl t0.length 4 (af.l t0))::(eS,.sl a6.length 2 (aR.l a6))::L)) (fun out e s=>(e = .exit 2∧∃k0 t0 t1 xH,(k0,t0,t1,xH)=out∧∃rG qd Rm cF h4,s=⟨aw.fz b0 :: .any :: .any :: .ptr aA 0 :: .rs eS 0 a6.length 2 :: .int .i64 x2.1 :: .int .i64 i0 :: .lp 8 0::rG::qd::rB [Rm,.any,.any],[some [.rs cF 0 t0.length 4,.int .i64 t1]],h4⟩∧Has h4 ((aA,.ob [aw.fz xH.eH,.bool xH.bq])::(cF,.sl t0.length 4 (af.l t0))::(eS,.sl a6.length 2 (aR.l a6))::L))):=by
 refine gG (fun _=>rfl) ?_
 rintro k ⟨k0,t0,t1,xH⟩ s out ⟨cF,h4,rfl,o6⟩ H
 have H:bg.l1 m x3 (k+1) k0 t0 t1 xH=some out:=H
 refine qq <| qq ?_
 rcases dJ H with⟨c7,H⟩| ⟨c7,H⟩
 ·refine qr [.b 3 c7,.v 7 (show bl Tryd.prog h4 4 (.ptr aA 1)=some (.bool xH.bq) from ca (q:=0) (cs:=[aw.fz xH.eH,.bool xH.bq]) o6 rfl (by kernel_rfl))] <| qc H (fun c8 H=>?_) (fun c8 H=>?_)
  ·refine qk <| qq <| qb 3 ?_
   obtain⟨x4,nJ,H⟩:=aI H
   obtain⟨h5,qn,o7⟩:=GA _ _ nJ h4 _ _ (o6)  [.ptr aA 0] (an (rfl) (bo))
   obtain⟨x5,rL,H⟩:=aI H
   obtain⟨fb,h6,rM,o8⟩:=fF (P:=Tryd.prog) (E:=af) (l:=t0) (q:=1) (t2:=29) (x:=.fz [.int .i64 x4.1.kind,.int .i64 x4.1.int,.str x4.1.label,aa.fz x4.1.args] 1 true) (l2:=([x4.1])) la o7 rfl (by kernel_rfl) rfl rL
   exact qr [.a 3 qn,.a 5 rM] <| q0 <| ⟨(i64.wrap (k0+(1:Int)),x5,t1,x4.2),⟨fb,h6,by kernel_rfl,o8⟩,H⟩
  ·exact qx 2 <| ⟨rfl,k0,t0,t1,xH,oi H,.int .i64 x3.1,.int .i64 k0,.bool (!xH.bq),cF,h4,by kernel_rfl,o6⟩
 ·exact qr [.b 3 c7] <| DB <| qx 2 <| ⟨rfl,k0,t0,t1,xH,oi H,.int .i64 x3.1,.int .i64 k0,.bool false,cF,h4,by kernel_rfl,o6⟩
theorem bg.bI (L:Mem)(b0:List Int)(aA:Nat)(x2:Int × fq)  (mQ:Lq cf m)(GA:Pa cf m):bD Tryd.prog cf vQ m (sub [1,1,1,1,1,1,0,1,0,0] (codeOf Tryd.f19)) (fun k (σ:(List ak) × Int × fq)=>bg.l0 m x2 k σ.1 σ.2.1 σ.2.2) (fun σ s=>match σ with | (a6,i0,rX)=>∃eS h2,s=⟨aw.fz b0 :: .any :: .any :: .ptr aA 0 :: .rs eS 0 a6.length 2 :: .int .i64 x2.1 :: .int .i64 i0::oL [],[none],h2⟩∧Has h2 ((aA,.ob [aw.fz rX.eH,.bool rX.bq])::(eS,.sl a6.length 2 (aR.l a6))::L)) (fun out e s=>(e = .exit 0∧∃a6 i0 rX,(a6,i0,rX)=out∧∃uP Ll eS h2,s=⟨aw.fz b0 :: .any :: .any :: .ptr aA 0 :: .rs eS 0 a6.length 2 :: .int .i64 x2.1::uP::Ee (Ll::jP []),[none],h2⟩∧Has h2 ((aA,.ob [aw.fz rX.eH,.bool rX.bq])::(eS,.sl a6.length 2 (aR.l a6))::L))):=by
 refine gG (fun _=>rfl) ?_
 rintro k ⟨a6,i0,rX⟩ s out ⟨eS,h2,rfl,o3⟩ H
 have H:bg.l0 m x2 (k+1) a6 i0 rX=some out:=H
 refine qq <| qq ?_
 rcases dJ H with⟨c4,H⟩| ⟨c4,H⟩
 ·rcases dJ H with⟨c5,H⟩| ⟨c5,H⟩
  ·refine qr [.b 3 c4,.v 7 (show bl Tryd.prog h2 4 (.ptr aA 1)=some (.bool rX.bq) from ca (q:=0) (cs:=[aw.fz rX.eH,.bool rX.bq]) o3 rfl (by kernel_rfl)),.b 10 c5] <| qc H (fun c6 H=>?_) (fun c6 H=>?_)
   ·refine qk <| qq <| qb 1 <| qq <| q0 ?_
    have o4:Has h2 ((((0)),.sl (([]:List ab).length) 4 (af.l ([]:List ab)))::(aA,.ob [aw.fz rX.eH,.bool rX.bq])::(eS,.sl a6.length 2 (aR.l a6))::L):=Has.nil o3 4
    refine qq ?_
    obtain⟨x3,e8,H⟩:=aI H
    obtain⟨h3,e9,o5⟩:=mQ _ _ e8 h2 _ _ ((Has.front (Has.front (Has.front o4 2 rfl) 1 rfl) 2 rfl))  [.ptr aA 0] (an (rfl) (bo))
    refine qr [.a 1 e9] <| qq <| qq <| q0 <| qb 2 ?_
    obtain⟨bj,tJ,H⟩:=aI H
    refine ql (bg.eQ L b0 aA x2 eS a6 i0 eS x3  GA ((0:Int),([]:List ab),(0:Int),x3.2) _ _ ⟨((0)),h3,by kernel_rfl,o5⟩ tJ) ?_
    rintro e s ⟨rfl,k1,t2,t3,ob2,rfl,g0,g1,g2,fS,h7,rfl,o9⟩
    try dsimp only at H
    obtain⟨h8,rN,tF⟩:=iU (E:=af) (l:=t2) (q:=1) o9 rfl
    obtain⟨x6,vJ,H⟩:=aI H
    obtain⟨gP,h9,uS,uw⟩:=fF (P:=Tryd.prog) (E:=aR) (l:=a6) (q:=1) (t2:=22) (x:=.fz [af.fz t2,.int .i64 t3] 1 true) (l2:=([(ak.mk t2 t3)])) DE tF rfl (by kernel_rfl) rfl vJ
    exact zQ [.a 0 rN] [.a 3 uS] <| q0 <| ⟨(x6,i64.wrap (i0+(1:Int)),ob2),⟨gP,h9,by kernel_rfl,uw⟩,H⟩
   ·exact qx 0 <| ⟨rfl,a6,i0,rX,oi H,.int .i64 i0,.bool (decide (x2.1≤(8:Int))),eS,h2,by kernel_rfl,o3⟩
  ·exact qr [.b 3 c4,.v 7 (show bl Tryd.prog h2 4 (.ptr aA 1)=some (.bool rX.bq) from ca (q:=0) (cs:=[aw.fz rX.eH,.bool rX.bq]) o3 rfl (by kernel_rfl)),.b 10 c5] <| DB <| qx 0 <| ⟨rfl,a6,i0,rX,oi H,.int .i64 i0,.bool false,eS,h2,by kernel_rfl,o3⟩
 ·exact qr [.b 3 c4] <| DB <| qx 0 <| ⟨rfl,a6,i0,rX,oi H,.int .i64 i0,.bool false,eS,h2,by kernel_rfl,o3⟩
theorem rY {aU:FuncId→cg}(ha:aU 19=vQ)(Lw:Rh cf m)(Oc:TO cf m)(Lv:Q9 cf m)(mQ:Lq cf m)(GA:Pa cf m)(b0:List Int)(h:AHeap)(L:Mem)  (o:Has h (L)){out:(List ak) × Int}(H:bg.f m b0=some out) :
  ∃r h',bc Tryd.prog aU cf m 19 [aw.fz b0] h=some (r,h')∧wX h' r (.tup [aR.fz out.1,.int .i64 out.2]):=by
 refine aq (fn:=Tryd.f19) ha Tryd.func19 (by kernel_rfl) (by kernel_rfl) ?_
 refine aG (Q:=fun s=>bg.fin L out s) (fun _ _ h=>h) ?_
 have H:_=some out:=H
 unfold bg.f at H
 show de _ cf vQ m _ ⟨aw.fz b0::Dx [],[none],h⟩ _
 refine q1 <| qq <| qq <| q0 <| qc H (fun c0 H=>?_) (fun c0 H=>?_)
 ·obtain rfl:=oi H
  exact q1 <| qt <| ⟨.inl rfl,vD (.tup [.nils,.int .i64 (3:Int)]) h (pD (fT (ae (gF) (ae (aO) (aC)))))⟩
 ·refine qk <| qq <| qq ?_
  rcases dJ H with⟨c1,H⟩| ⟨c1,H⟩
  ·obtain rfl:=oi H
   exact qr [.b 3 c1] <| xc <| qq <| q0 <| qt <| ⟨.inl rfl,vD (.tup [.nils,.int .i64 (2:Int)]) h (pD (fT (ae (gF) (ae (aO) (aC)))))⟩
  ·obtain⟨v0,e0,H⟩:=aI H
   obtain⟨x0,e1,H⟩:=aI H
   obtain⟨v1,e2,H⟩:=aI H
   obtain⟨x1,e3,H⟩:=aI H
   refine qr [.b 3 c1,.v 8 (show eZ Tryd.prog 25 (aw.fz b0) none (some (.int .i64 (i64.wrap ((b0.length:Int) - (4:Int))))) none=some (aw.fz v0) from BK (E:=aw) Ip e0),.a 9 (Lv _ _ e1 h _ (hH (ae (db (E:=aw)) (aC)))),.v 14 (show eZ Tryd.prog 25 (aw.fz b0) (some (.int .i64 (i64.wrap ((b0.length:Int) - (4:Int))))) none none=some (aw.fz v1) from wY (E:=aw) Ip e2),.a 15 (Oc _ _ _ e3 h _ (hH (ae (db (E:=aw)) (ae (db (E:=aw)) (aC)))))] <| qc H (fun c3 H=>?_) (fun c3 H=>?_)
   ·obtain rfl:=oi H
    exact q1 <| qt <| ⟨.inl rfl,vD (.tup [.nils,.int .i64 (2:Int)]) h (pD (fT (ae (gF) (ae (aO) (aC)))))⟩
   ·refine qk <| qq ?_
    obtain⟨v2,e4,H⟩:=aI H
    obtain⟨aA,h0,e5,o0⟩:=ki (cs:=[aw.fz v2,.bool false]) o (by kernel_rfl)
    refine qr [.v 4 (show eZ Tryd.prog 25 (aw.fz b0) (some (.int .i64 (2:Int))) (some (.int .i64 (i64.wrap ((b0.length:Int) - (4:Int))))) none=some (aw.fz v2) from H8 (E:=aw) Ip e4),.a 6 e5] <| qq <| q0 ?_
    have o1:Has h0 (((0),.sl (([]:List ak).length) 2 (aR.l ([]:List ak)))::(aA,.ob [aw.fz v2,.bool false])::L):=Has.nil o0 2
    refine qq ?_
    obtain⟨x2,e6,H⟩:=aI H
    obtain⟨h1,e7,o2⟩:=mQ _ _ e6 h0 _ _ ((Has.front (Has.front o1 0 rfl) 1 rfl))  [.ptr aA 0] (an (rfl) (bo))
    refine qr [.a 1 e7] <| qq <| qq <| q0 <| qb 0 ?_
    obtain⟨bJ,zR,H⟩:=aI H
    refine ql (bg.bI L b0 aA x2  mQ GA (([]:List ak),(0:Int),x2.2) _ _ ⟨(0),h1,by kernel_rfl,o2⟩ zR) ?_
    rintro e s ⟨rfl,nk,i1,JB,rfl,g3,g4,gQ,h10,rfl,oT⟩
    try dsimp only at H
    refine qq <| qq ?_
    rcases dJ H with⟨nU,H⟩| ⟨nU,H⟩
    ·refine qr [.v 3 (show bl Tryd.prog h10 4 (.ptr aA 1)=some (.bool JB.bq) from ca (q:=0) (cs:=[aw.fz JB.eH,.bool JB.bq]) oT rfl (by kernel_rfl)),.b 4 nU] ?_
     have lB:Has h10 ((gQ,.sl nk.length 2 (aR.l nk))::L):=Has.del oT 0
     refine xc <| qq <| q0 ?_
     have uQ:Has h10 (L):=Has.del lB 0
     obtain rfl:=oi H
     exact qt <| ⟨.inl rfl,vD (.tup [.nils,.int .i64 (2:Int)]) h10 (pD (fT (ae (gF) (ae (aO) (aC)))))⟩
    ·refine qr [.v 3 (show bl Tryd.prog h10 4 (.ptr aA 1)=some (.bool JB.bq) from ca (q:=0) (cs:=[aw.fz JB.eH,.bool JB.bq]) oT rfl (by kernel_rfl)),.b 4 nU] ?_
     have yP:Has h10 ((gQ,.sl nk.length 2 (aR.l nk))::L):=Has.del oT 0
     refine qc H (fun rF H=>?_) (fun rF H=>?_)
     ·refine q1 ?_
      have lG:Has h10 (L):=Has.del yP 0
      obtain rfl:=oi H
      exact qt <| ⟨.inl rfl,vD (.tup [.nils,.int .i64 (2:Int)]) h10 (pD (fT (ae (gF) (ae (aO) (aC)))))⟩
     ·refine qk <| qq ?_
      obtain⟨h11,ux,zT⟩:=iU (E:=aR) (l:=nk) (q:=0) yP rfl
      obtain⟨x7,zS,H⟩:=aI H
      refine zQ [.a 0 ux] [.a 1 (Lw _ _ zS h11 _ (cG (iN (E:=aR)) (gL)))] <| qq <| qq ?_
      rcases dJ H with⟨B4,H⟩| ⟨B4,H⟩
      ·obtain rfl:=oi H
       exact qr [.b 2 B4] <| xc <| qq <| q0 <| qt <| ⟨.inl rfl,vD (.tup [.nils,.int .i64 (2:Int)]) h11 (pD (fT (ae (gF) (ae (aO) (aC)))))⟩
      ·obtain⟨x8,B8,H⟩:=aI H
       refine qr [.b 2 B4,.a 5 (Oc _ _ _ B8 h11 _ (hH (ae (db (E:=aw)) (ae (db (E:=aw)) (aC)))))] <| qc H (fun DH H=>?_) (fun DH H=>?_)
       ·obtain rfl:=oi H
        exact q1 <| qt <| ⟨.inl rfl,vD (.tup [.nils,.int .i64 (2:Int)]) h11 (pD (fT (ae (gF) (ae (aO) (aC)))))⟩
       ·obtain rfl:=oi H
        exact qk <| qq <| q0 <| qt <| ⟨.inl rfl,vD (.tup [aR.fz nk,.int .i64 (0:Int)]) h11 (pD (fT (ae (db) (ae (aO) (aC)))))⟩
end
end Go.Proofs.YtmekcfdllhphlaaDoor
namespace Go.Proofs.YtmekcfdllhphlaaDoor
open Go Go.R
open Go.IntKind (i64 u64 u8 u32)
def dS (l:List ab):List Int:=(l.map dp).flatten
def jA (t:ak):List Int:=dI t.nodes.length++dS t.nodes
def cC (l:List ak):List Int:=(l.map jA).flatten
def cD (l:List ak):List Int:=[76,1]++(dI l.length++cC l)
structure tX (t:ak):Prop where
 nodes:∀n∈t.nodes,tV n
 rj:t.nodes.length<2 ^ 30
 root:t.root=0
theorem jb (n:ab)(l:List ab):dS (n::l)=dp n++dS l:=by simp [dS]
theorem jc (t:ak)(l:List ak):cC (t::l)=jA t++cC l:=by simp [cC]
theorem drop_cons {α:Type}{l:List α}{i:Nat}{a:α}{r:List α}(h:l.drop i=a::r):i<l.length∧ix l (i:Int)=some a∧l.drop (i+1)=r∧a∈l:=by
 have h1:i<l.length:=by
  have:=congrArg List.length h
  simp at this
  omega
 have h2:l[i]? = some a:=by
  have:=congrArg (·[0]?) h
  simpa using this
 refine⟨h1,?_,by rw [←List.tail_drop,h]; rfl,Yu h2⟩
 unfold ix
 rw [if_pos (by omega)]
 exact h2
theorem drop_nil {α:Type}{l:List α}{i:Nat}(h:l.drop i=[]):l.length≤i:=by
 have:=congrArg List.length h
 simp at this
 omega
theorem GB {m:Nat}(hm:11≤m)(v:ak):∀(l:List ab) (f i:Nat) (w:List Int),l.length<f→v.nodes.drop i=l→(∀n∈l,tV n)→w≠[]→w.length+(dS l).length+2 ^ 41≤140737488355328→i+l.length<2 ^ 40→
  ∃x,aS.l1 m v f (i:Int) w=some (x,w++dS l)
 | l,0,i,w,hf,_,_,_,_,_=>absurd hf (by omega)
 | [],f+1,i,w,hf,hd,hW,hw,hl,hi=>by
  refine⟨i,?_⟩
  have:=drop_nil hd
  unfold aS.l1
  rw [if_neg (by simp; omega)]
  simp [dS]
 | n::l,f+1,i,w,hf,hd,hW,hw,hl,hi=>by
  obtain⟨h1,h2,h3,h4⟩:=drop_cons hd
  have rE:(2:Nat) ^ 41=2199023255552:=by decide
  have nT:(2:Nat) ^ 40=1099511627776:=by decide
  have Pc:=hW n (by simp)
  have VE:n.label.size<2 ^ 40:=by
   rcases Pc.kind with⟨_,_,h,_⟩| ⟨_,_,h,_⟩| ⟨h,_⟩| ⟨h,_⟩
   ·rw [h]; decide
   ·rw [h]; decide
   ·exact (Pc.label (by omega)).2
   ·exact (Pc.label (by omega)).2
  rw [jb,XB] at hl
  simp only [XR] at hf hi
  obtain⟨x,ih⟩:=GB hm v l f (i+1) (w++dp n) (by omega) h3 (fun k hk=>hW k (by simp [hk])) (by simp [hw]) (by simp; omega) (by omega)
  refine⟨x,?_⟩
  unfold aS.l1
  rw [if_pos (by simp; omega),h2,Xr,N9 hm Pc (by omega) hw,Xr,aD (by omega) (by omega),show ((i:Int)+1)=((i+1:Nat):Int) by omega,ih,jb,XF]
theorem GC {m:Nat}(hm:2 ^ 30≤m)(L:List ak):∀(l:List ak) (f i:Nat) (w:List Int),l.length<f→L.drop i=l→(∀t∈l,tX t)→w≠[]→w.length+(cC l).length+2 ^ 41≤140737488355328→i+l.length<2 ^ 40→
  ∃x,aS.l0 m L f (i:Int) w=some (x,w++cC l)
 | l,0,i,w,hf,_,_,_,_,_=>absurd hf (by omega)
 | [],f+1,i,w,hf,hd,hW,hw,hl,hi=>by
  refine⟨i,?_⟩
  have:=drop_nil hd
  unfold aS.l0
  rw [if_neg (by simp; omega)]
  simp [cC]
 | t::l,f+1,i,w,hf,hd,hW,hw,hl,hi=>by
  obtain⟨h1,h2,h3,h4⟩:=drop_cons hd
  have rE:(2:Nat) ^ 41=2199023255552:=by decide
  have nT:(2:Nat) ^ 40=1099511627776:=by decide
  have ni:(2:Nat) ^ 30=1073741824:=by decide
  have Mj:=hW t (by simp)
  have xu:=Mj.rj
  rw [jc,XB] at hl
  have he:(jA t).length=(dI t.nodes.length).length+(dS t.nodes).length:=by simp [jA]
  simp only [XR] at hf hi
  obtain⟨x,ih⟩:=GC hm L l f (i+1) (w++jA t) (by omega) h3 (fun k hk=>hW k (by simp [hk])) (by simp [hw]) (by simp; omega) (by omega)
  obtain⟨y,hy⟩:=GB (m:=m) (by omega) t t.nodes m 0 (w++dI t.nodes.length) (by omega) rfl Mj.nodes (by simp [hw]) (by simp; omega) (by omega)
  have hy:aS.l1 m t m (0:Int) (w++dI t.nodes.length)=_:=hy
  refine⟨x,?_⟩
  unfold aS.l0
  rw [if_pos (by simp; omega),h2,Xr,hY (by omega) (by omega),zc (by omega) (by omega) hw (by omega),Xr,hy,Xr]
  dsimp only
  rw [aD (by omega) (by omega),show ((i:Int)+1)=((i+1:Nat):Int) by omega]
  rw [show w++dI t.nodes.length++dS t.nodes=w++jA t by simp [jA]]
  rw [ih,jc,XF]
theorem Od {m:Nat}(hm:2 ^ 30≤m){L:List ak}(hW:∀t∈L,tX t)(hl:(cC L).length+2 ^ 42≤140737488355328)(hL:L.length<2 ^ 30):aS.f m L=(cz.f m (cD L)).bind fun c=>app 1 (cD L) c:=by
 have NK:(2:Nat) ^ 42=4398046511104:=by decide
 have rE:(2:Nat) ^ 41=2199023255552:=by decide
 have nT:(2:Nat) ^ 40=1099511627776:=by decide
 have ni:(2:Nat) ^ 30=1073741824:=by decide
 unfold aS.f
 have h1:wB ([]:List Int) [(76:Int)]=some [76]:=by unfold wB; rw [if_pos (by simp)]; rfl
 have e0:(dI L.length).length≤10:=dP (by omega)
 obtain⟨x,hx⟩:=GC (m:=m) hm L L m 0 ([76]++[1]++dI L.length) (by omega) rfl hW (by simp) (by simp; omega) (by omega)
 have hx:aS.l0 m L m (0:Int) ([76]++[1]++dI L.length)=_:=hx
 rw [h1,Xr,mo (by simp) (by simp) (by simp),Xr,hY (by omega) (by omega),zc (by omega) (by omega) (by simp) (by simp),Xr,hx,Xr]
 dsimp only
 rw [show [(76:Int)]++[1]++dI L.length++cC L=cD L by simp [cD]]
 have h2:ti (cD L)=some ():=by
  unfold ti
  rw [if_pos ⟨by simp [cD],by simp [cD]; omega⟩]
 rw [h2,Xr]
 congr 1
 funext c
 cases app 1 (cD L) c<;>rfl
end Go.Proofs.YtmekcfdllhphlaaDoor
namespace Go.Proofs.YtmekcfdllhphlaaDoor
open Go Go.R
open Go.IntKind (i64 u64 u8 u32)
theorem GD {m:Nat}(hm:11≤m)(x3:Int × fq)(rest:List Int)(hx:x3.1<2 ^ 30):∀(l:List ab) (f k:Nat) (acc:List ab),l.length<f→(k:Int)+l.length=x3.1→acc.length=k→(∀n∈l,tV n)→
  ∃x,bg.l1 m x3 f (k:Int) acc 0 ⟨dS l++rest,false⟩=some (x,acc++l,0,⟨rest,false⟩)
 | l,0,k,acc,hf,_,_,_=>absurd hf (by omega)
 | [],f+1,k,acc,hf,hk,ha,hW=>by
  refine⟨k,?_⟩
  simp only [Yk] at hk
  unfold bg.l1
  rw [if_neg (by simp; omega)]
  simp [dS]
 | n::l,f+1,k,acc,hf,hk,ha,hW=>by
  simp only [XR] at hf hk
  have ni:(2:Int) ^ 30=1073741824:=by decide
  obtain⟨x,ih⟩:=GD hm x3 rest hx l f (k+1) (acc++[n]) (by omega) (by omega) (by simp; omega) (fun c hc=>hW c (by simp [hc]))
  refine⟨x,?_⟩
  unfold bg.l1
  have ly:app 56 acc [n]=some (acc++[n]):=by unfold app; rw [if_pos (by simp; omega)]
  rw [if_pos (by simp; omega),if_pos (show (!false)=true from rfl),jb,XF,Oa hm (hW n (by simp)),Xr]
  dsimp only
  rw [ly,Xr,aD (by omega) (by omega),show ((k:Int)+1)=((k+1:Nat):Int) by omega,ih]
  simp
theorem GF {m:Nat}(hm:2 ^ 30≤m)(x2:Int × fq)(rest:List Int)(hx:x2.1≤8):∀(l:List ak) (f k:Nat) (acc:List ak),l.length<f→(k:Int)+l.length=x2.1→acc.length=k→(∀t∈l,tX t)→
  ∃x,bg.l0 m x2 f acc (k:Int) ⟨cC l++rest,false⟩=some (acc++l,x,⟨rest,false⟩)
 | l,0,k,acc,hf,_,_,_=>absurd hf (by omega)
 | [],f+1,k,acc,hf,hk,ha,hW=>by
  refine⟨k,?_⟩
  simp only [Yk] at hk
  unfold bg.l0
  rw [if_neg (by simp; omega)]
  simp [cC]
 | t::l,f+1,k,acc,hf,hk,ha,hW=>by
  simp only [XR] at hf hk
  have ni:(2:Int) ^ 30=1073741824:=by decide
  have Xh:(2:Nat) ^ 30=1073741824:=by decide
  have Mj:=hW t (by simp)
  have xu:=Mj.rj
  obtain⟨x,ih⟩:=GF hm x2 rest hx l f (k+1) (acc++[t]) (by omega) (by omega) (by simp; omega) (fun c hc=>hW c (by simp [hc]))
  obtain⟨y,hy⟩:=GD (m:=m) (by omega) ((t.nodes.length:Int),(⟨dS t.nodes++(cC l++rest),false⟩:fq)) (cC l++rest) (by simp only; omega) t.nodes m 0 [] (by omega) (by simp) rfl Mj.nodes
  have hy:bg.l1 m ((t.nodes.length:Int),(⟨dS t.nodes++(cC l++rest),false⟩:fq)) m (0:Int) [] 0 ⟨dS t.nodes++(cC l++rest),false⟩=_:=hy
  refine⟨x,?_⟩
  unfold bg.l0
  have ly:app 32 acc [t]=some (acc++[t]):=by unfold app; rw [if_pos (by simp; omega)]
  rw [if_pos (by simp; omega),if_pos (show (!false)=true from rfl),if_pos (by simp; omega),jc,jA,XF,XF,AU (by omega) (by omega),Xr]
  dsimp only
  rw [hy,Xr]
  dsimp only
  rw [show ak.mk ([]++t.nodes) 0=t by rw [X2,←Mj.root],ly,Xr,aD (by omega) (by omega),show ((k:Int)+1)=((k+1:Nat):Int) by omega,ih]
  simp
end Go.Proofs.YtmekcfdllhphlaaDoor
namespace Go.Proofs.YtmekcfdllhphlaaDoor
open Go Go.R
open Go.IntKind (i64 u64 u8 u32)
end Go.Proofs.YtmekcfdllhphlaaDoor
namespace Go.Proofs.YtmekcfdllhphlaaDoor
open Go Go.R
open Go.IntKind (i64 u64 u8 u32)
end Go.Proofs.YtmekcfdllhphlaaDoor
namespace Go.Proofs.YtmekcfdllhphlaaDoor
open Go Go.R
open Go.IntKind (i64 u64 u8 u32)
end Go.Proofs.YtmekcfdllhphlaaDoor
namespace Go.Proofs.YtmekcfdllhphlaaDoor
open Go Go.R
open Go.IntKind (i64 u64 u8 u32)
def Bytes (l:List Int):Prop:=∀x∈l,0≤x∧x<256
theorem tY {m:Nat}{b c:List Int}(H:cz.f m b=some c):Bytes c∧c.length=4:=by
 unfold cz.f at H
 simp only [Xs,Xu] at H
 obtain⟨x,_,rfl⟩:=H
 refine⟨fun y hy=>?_,rfl⟩
 simp only [X8,List.not_mem_nil,or_false] at hy
 rcases hy with rfl | rfl | rfl | rfl<;>(rw [mF]; omega)
end Go.Proofs.YtmekcfdllhphlaaDoor
namespace Go.Proofs.YtmekcfdllhphlaaDoor
open Go Go.R
open Go.IntKind (i64 u64 u8 u32)
end Go.Proofs.YtmekcfdllhphlaaDoor
namespace Go.Proofs.YtmekcfdllhphlaaDoor
open Go Go.R
open Go.IntKind (i64 u64 u8 u32)
end Go.Proofs.YtmekcfdllhphlaaDoor
namespace Go.Proofs.YtmekcfdllhphlaaDoor
open Go Go.R
open Go.IntKind (i64 u64 u8 u32)
end Go.Proofs.YtmekcfdllhphlaaDoor
namespace Go.Proofs.YtmekcfdllhphlaaDoor
open Go Go.R
open Go.IntKind (i64 u64 u8 u32)
end Go.Proofs.YtmekcfdllhphlaaDoor
namespace Go.Proofs.YtmekcfdllhphlaaDoor
open Go Go.R
open Go.IntKind (i64 u64 u8 u32)
def Cy:cg:=gK [0,1,2,3] [1,2] [9,3] [] []
def eV.f (m:Nat)(t0:ak):Option (ak × Int):=(dQ.f m t0).bind fun x0=>some (x0.1,x0.2)
def eV.fin (L:Mem)(r:ak × Int)(s:St):Prop:=∃av,aH Tryd.prog (s.open Cy) Tryd.f16.results.toList=some av∧wX s.h av (.tup [.agg [af.fz r.1.nodes,.int .i64 r.1.root],.int .i64 r.2])
def Rn (cf:CallF)(m:Nat):Prop:=∀(t0:ak) (r:ak × Int),eV.f m t0=some r→∀h xs,lA xs [.agg [af.fz t0.nodes,.int .i64 t0.root]]→cf 16 xs h=some (.tup [.agg [af.fz r.1.nodes,.int .i64 r.1.root],.int .i64 r.2],h)
section
variable {cf:CallF}{m:Nat}
theorem pj {aU:FuncId→cg}(ha:aU 16=Cy)(Gz:Pb cf m)(t0:ak)(h:AHeap)(L:Mem)  (o:Has h (L)){out:ak × Int}(H:eV.f m t0=some out) :
  ∃r h',bc Tryd.prog aU cf m 16 [.agg [af.fz t0.nodes,.int .i64 t0.root]] h=some (r,h')∧wX h' r (.tup [.agg [af.fz out.1.nodes,.int .i64 out.1.root],.int .i64 out.2]):=by
 refine aq (fn:=Tryd.f16) ha Tryd.func16 (by kernel_rfl) (by kernel_rfl) ?_
 refine aG (Q:=fun s=>eV.fin L out s) (fun _ _ h=>h) ?_
 have H:_=some out:=H
 unfold eV.f at H
 show de _ cf Cy m _ ⟨.agg [af.fz t0.nodes,.int .i64 t0.root]::jP [],[none,none],h⟩ _
 refine q1 <| qq ?_
 obtain⟨x0,e0,H⟩:=aI H
 obtain rfl:=oi H
 exact qr [.a 1 (Gz _ _ e0 h _ (cG (nE (cG (iN (E:=af)) (cG (bE) (gL)))) (gL)))] <| qt <| ⟨.inl rfl,vD (.tup [.agg [af.fz x0.1.nodes,.int .i64 x0.1.root],.int .i64 x0.2]) h (pD (fT (ae (dy (ae (db) (ae (aO) (aC)))) (ae (aO) (aC)))))⟩
end
end Go.Proofs.YtmekcfdllhphlaaDoor
namespace Go.Proofs.YtmekcfdllhphlaaDoor
open Go Go.R
open Go.IntKind (i64 u64 u8 u32)
end Go.Proofs.YtmekcfdllhphlaaDoor
namespace Go.Proofs.YtmekcfdllhphlaaDoor
open Go Go.R
open Go.IntKind (i64 u64 u8 u32)
end Go.Proofs.YtmekcfdllhphlaaDoor
namespace Go.Proofs.YtmekcfdllhphlaaDoor
open Go Go.R
open Go.IntKind (i64 u64 u8 u32)
end Go.Proofs.YtmekcfdllhphlaaDoor
namespace Go.Proofs.YtmekcfdllhphlaaDoor
open Go Go.R
open Go.IntKind (i64 u64 u8 u32)
def IF (t:ak):Prop:=∀n∈t.nodes,n.kind=0→n.int<2 ^ 63
theorem GG {s:ByteArray}(h:(s.data.toList==[])=true):s=XV #[]:=by
 have h:=beq_iff_eq.1 h
 cases s with
 | mk d=>
  cases d with
  | mk l=>simp only at h; subst h; rfl
theorem Pd {l:List Int}(h:l.isEmpty=true):l=[]:=by cases l with | nil=>rfl | cons=>cases h
structure GH (n:ab):Prop where
 kind:n.kind=0∧0≤n.int∧n.label=XV #[]∧n.args=[]∨n.kind=1∧(-1099511627776≤n.int∧n.int≤1099511627776)∧n.label=XV #[]∧n.args=[]∨n.kind=2∧n.int=0∧n.args=[]∨n.kind=3∧n.int=0∨n.kind=4∧n.args=[]
 label:n.kind=2∨n.kind=3→1≤n.label.size∧n.label.size≤16
 args:n.args.length≤8
theorem qv {n:ab}{size:Int}(h:j8 n size=true):GH n∧∀a∈n.args,0≤a∧a<size:=by
 unfold j8 at h
 split at h
 ·rename_i k
  simp only [Xw,decide_eq_true_eq] at h
  have ha:=Pd h.2
  exact⟨⟨.inl ⟨k,h.1.1,GG h.1.2,ha⟩,fun z=>by omega,by rw [ha]; decide⟩,fun a h=>by rw [ha] at h; cases h⟩
 split at h
 ·rename_i k
  simp only [Xw,decide_eq_true_eq] at h
  have ha:=Pd h.2
  exact⟨⟨.inr (.inl ⟨k,h.1.1,GG h.1.2,ha⟩),fun z=>by omega,by rw [ha]; decide⟩,fun a h=>by rw [ha] at h; cases h⟩
 split at h
 ·rename_i k
  simp only [Xw,beq_iff_eq] at h
  have ha:=Pd h.2
  exact⟨⟨.inr (.inr (.inl ⟨k,h.1.1,ha⟩)),fun z=>vH h.1.2,by rw [ha]; decide⟩,fun a h=>by rw [ha] at h; cases h⟩
 split at h
 ·rename_i k
  simp only [Xw,beq_iff_eq,decide_eq_true_eq,XT] at h
  exact⟨⟨.inr (.inr (.inr (.inl ⟨k,h.1.1.1.1⟩))),fun z=>vH h.1.1.1.2,h.1.2⟩,h.2⟩
 split at h
 ·rename_i k
  simp only [Xw,decide_eq_true_eq] at h
  have ha:=Pd h.2
  exact⟨⟨.inr (.inr (.inr (.inr ⟨k,ha⟩))),fun z=>by omega,by rw [ha]; decide⟩,fun a h=>by rw [ha] at h; cases h⟩
 ·cases h
theorem iZ {t:ak}(h:ej t=true):kM t.nodes∧1≤t.nodes.length∧0≤t.root∧t.root<t.nodes.length∧∀n∈t.nodes,GH n:=by
 unfold ej at h
 simp only [Xw,decide_eq_true_eq,XT] at h
 obtain⟨⟨⟨⟨h1,h2⟩,h3⟩,h4⟩,h5⟩:=h
 exact⟨⟨h2,fun n hn=>⟨(qv (h5 n hn)).1.args,(qv (h5 n hn)).2⟩⟩,h1,h3,h4,fun n hn=>(qv (h5 n hn)).1⟩
structure rl (s:ak):Prop where
 root:s.root=0
 rj:s.nodes.length≤8000
 nodes:∀x∈s.nodes,GH x∧(x.kind=0→x.int<2 ^ 63)∧∀a∈x.args,0≤a∧a<8000
theorem GH.map {n:ab}(T:GH n)(f:Int→Int):GH ⟨n.kind,n.int,n.label,n.args.map f⟩:=by
 refine⟨?_,T.label,by simpa using T.args⟩
 rcases T.kind with⟨a,b,c,d⟩| ⟨a,b,c,d⟩| ⟨a,b,d⟩| ⟨a,b⟩| ⟨a,d⟩
 ·exact .inl ⟨a,b,c,by simp [d]⟩
 ·exact .inr (.inl ⟨a,b,c,by simp [d]⟩)
 ·exact .inr (.inr (.inl ⟨a,b,by simp [d]⟩))
 ·exact .inr (.inr (.inr (.inl ⟨a,b⟩)))
 ·exact .inr (.inr (.inr (.inr ⟨a,by simp [d]⟩)))
theorem vR {m:Nat}(hm:2 ^ 41≤m){t:ak}(h:ej t=true)(h0:IF t):∃s,cy.f m t=some s∧rl s:=by
 obtain⟨ok,h1,r0,r1,hT⟩:=iZ h
 obtain⟨cls,many,ks,ns,e,P,_,K,Ai,Q,hr⟩:=tR hm ok h1 r0 r1 (fun _=>True) (fun _ _ _ _ _=>trivial) (fun _ _ _ _ _ _ _ _ _=>trivial)
 have xu:=Q.vs.rj
 have h8000:=ok.1
 have hlen:=Q.len
 refine⟨_,e,rfl,by dsimp only; omega,fun x hx=>?_⟩
 obtain⟨k,hk,e2⟩:=Y1 hx
 dsimp only at hk e2
 have:=Q.new k (by simp) (by omega)
 rw [XD hk,e2] at this
 have:=XP this
 subst this
 have rA:=Q.vs.nj _ (aJ (l:=ri cls t.nodes m t.root []) (k:=k) (by omega))
 have AQ:=fl rA.1 rA.2
 have VF:=h0 _ AQ
 refine⟨(hT _ AQ).map _,fun hk=>VF hk,fun a ha=>?_⟩
 obtain⟨b,hb,rfl⟩:=XQ.1 ha
 have hin:=Q.arg k (by simp) (by omega) b hb
 have:=Ys hin
 rw [XI] at this
 unfold idx
 omega
theorem rl.w {s:ak}(L:rl s)(h:s.nodes.any (fun n=>n.kind==4)=false):tX s:=by
 refine⟨fun n hn=>?_,?_,L.root⟩
 ·obtain⟨T,i0,ha⟩:=L.nodes n hn
  have h4:n.kind≠4:=fun e=>by
   have:=List.any_eq_false.1 h n hn
   rw [e] at this; exact absurd this (by decide)
  have Xi:(2:Int) ^ 62=4611686018427387904:=by decide
  have HC:(2:Int) ^ 63=9223372036854775808:=by decide
  have nT:(2:Nat) ^ 40=1099511627776:=by decide
  refine⟨?_,fun hk=>?_,T.args,fun a hx=>by have:=ha a hx; omega⟩
  ·rcases T.kind with⟨a,b,c,d⟩| ⟨a,b,c,d⟩| ⟨a,b,d⟩| ⟨a,b⟩| ⟨a,d⟩
   ·exact .inl ⟨a,⟨b,i0 a⟩,c,d⟩
   ·exact .inr (.inl ⟨a,by omega,c,d⟩)
   ·exact .inr (.inr (.inl ⟨a,b,d⟩))
   ·exact .inr (.inr (.inr ⟨a,b⟩))
   ·exact absurd a h4
  ·have:=T.label (by rcases T.kind with h | h | h | h | h<;>(have:=h.1; omega))
   omega
 ·have:=L.rj
  have ni:(2:Nat) ^ 30=1073741824:=by decide
  omega
theorem zg {n:ab}(W:tV n)(T:GH n):(dp n).length≤200:=by
 have VG:(2:Int) ^ 63=9223372036854775808:=by decide
 have i62:(2:Int) ^ 62=4611686018427387904:=by decide
 have Q8:(2:Nat) ^ 64=18446744073709551616:=by decide
 have HC:(2:Nat) ^ 63=9223372036854775808:=by decide
 have hs:(n.kind=2∨n.kind=3)→(encS n.label).length≤30:=fun h=>by
  obtain⟨h1,h2⟩:=T.label h
  unfold encS
  have:=dP (n:=n.label.size) (by omega)
  rw [XB,iF]; omega
 have hargs:∀l:List Int,(∀a∈l,0≤a∧a<2 ^ 63)→((l.map fun a=>dI a.toNat).flatten).length≤10*l.length:=by
  intro l
  induction l with
  | nil=>intro _; simp
  | cons a l ih=>
   intro h
   have h1:=h a (by simp)
   have:=ih fun b hb=>h b (by simp [hb])
   have h2:=dP (n:=a.toNat) (by omega)
   simp only [XN,List.flatten_cons,XB,XR]
   omega
 unfold dp
 rw [XR]
 rcases W.kind with⟨a,⟨b,b'⟩,_,_⟩| ⟨a,⟨b,b'⟩,_,_⟩| ⟨a,_⟩| ⟨a,_⟩
 ·rw [if_pos a]
  have:=dP (n:=n.int.toNat) (by omega)
  omega
 ·rw [if_neg (by omega),if_pos a]
  have h1:=AX b b'
  have:=dP (n:=xV n.int) (by omega)
  omega
 ·rw [if_neg (by omega),if_neg (by omega),if_pos a]
  have:=hs (.inl a); omega
 ·rw [if_neg (by omega),if_neg (by omega),if_neg (by omega),XB,XB]
  have h1:=hs (.inr a)
  have h2:=hargs n.args W.args.2
  have h3:=W.args.1
  have h4:=dP (n:=n.args.length) (by omega)
  omega
theorem DV {m:Nat}{t:ak}(h:t.nodes.length<2 ^ 40)(h2:t.nodes.length<m):eT.f m t=some (t.nodes.any fun n=>n.kind==4):=by
 unfold eT.f
 rw [vI (f0:=fun y0=>fK.f m y0) (g:=fun n=>n.kind==4) h h2 (fun n _=>rfl)]; rfl
theorem GI {m:Nat}:∀(f i:Nat) (IG:Int),8 - i<f→i≤8→∃c x,bu.l1 m f IG (i:Int)=some (c,x)
 | 0,i,IG,hf,_=>absurd hf (by omega)
 | f+1,i,IG,hf,hi=>by
  unfold bu.l1
  by_cases h:i<8
  ·rw [if_pos (by simp only [decide_eq_true_eq]; omega),aD (by omega) (by omega),show (i:Int)+1=((i+1:Nat):Int) by omega]
   exact GI f (i+1) _ (by omega) (by omega)
  ·exact⟨_,_,by rw [if_neg (by simp only [decide_eq_true_eq]; omega)]⟩
theorem GJ {m:Nat}(hm:10≤m){b:List Int}(hb:b.length<2 ^ 40):∀(f i:Nat) (IG:Int),b.length - i<f→i≤b.length→∃c x,bu.l0 m b f IG (i:Int)=some (c,x)
 | 0,i,IG,hf,_=>absurd hf (by omega)
 | f+1,i,IG,hf,hi=>by
  have nT:(2:Nat) ^ 40=1099511627776:=by decide
  unfold bu.l0
  by_cases h:i<b.length
  ·obtain⟨c,x,k⟩:=GI (m:=m) m 0 (kZ .u32 IG (u32.wrap (gt b i))) (by omega) (by omega)
   have k:bu.l1 m m (kZ .u32 IG (u32.wrap (gt b i))) 0=_:=k
   rw [if_pos (by simp only [decide_eq_true_eq]; omega),cj h,Xr,k,Xr]
   dsimp only
   rw [aD (by omega) (by omega),show (i:Int)+1=((i+1:Nat):Int) by omega]
   exact GJ hm hb f (i+1) _ (by omega) (by omega)
  ·exact⟨_,_,by rw [if_neg (by simp only [decide_eq_true_eq]; omega)]⟩
theorem DW {m:Nat}(hm:10≤m){b:List Int}(hb:b.length<2 ^ 40)(h:b.length<m):∃c,cz.f m b=some c:=by
 obtain⟨c,x,k⟩:=GJ hm hb m 0 4294967295 (by omega) (by omega)
 have k:bu.l0 m b m 4294967295 0=_:=k
 unfold cz.f bu.f
 rw [k]
 exact⟨_,rfl⟩
end Go.Proofs.YtmekcfdllhphlaaDoor
namespace Go.Proofs.YtmekcfdllhphlaaDoor
open Go Go.R
open Go.IntKind (i64 u64 u8 u32)
structure DX (l:List ab)(R:Nat→Nat→Prop):Prop where
 nj:∀i j,R i j→i<l.length∧j<l.length
 top:∀i j,R i j→Alike (nd l i) (nd l j)
 arg:∀i j,R i j→∀k,k<(nd l i).args.length→R (gt (nd l i).args k).toNat (gt (nd l j).args k).toNat
structure Min (l:List ab)(r:List Int):Prop where
 len:r.length=l.length
 top:∀i j,i<l.length→j<l.length→gt r i=gt r j→Alike (nd l i) (nd l j)
 arg:∀i j,i<l.length→j<l.length→gt r i=gt r j→∀k,k<(nd l i).args.length→gt r (gt (nd l i).args k).toNat=gt r (gt (nd l j).args k).toNat
 max:∀R,DX l R→∀i j,R i j→gt r i=gt r j
theorem sq (a:ab):cT a a=0:=(Alike.refl a).cT
theorem uU {a b c:ab}(h1:cT a b=0)(h2:cT b c=0):cT a c=0:=by
 have n1:=iY a b
 have n2:=iY b c
 have n3:=iY a c
 have t1:=y9 a b c (by omega) (by omega)
 have t2:=y9 c b a (by omega) (by omega)
 omega
theorem xI {l:List ab}{d:List Int}{k:Nat}:∀j,k≤j→rk l d k=rk l d j→cT (nd l (gt d k)) (nd l (gt d j))=0
 | 0,h,_=>by
   have:k=0:=by omega
   subst this; exact sq _
 | j+1,h,e=>by
  by_cases hk:k=j+1
  ·subst hk; exact sq _
  ·have m1:=xq l d k j (by omega)
   have e2:rk l d (j+1)=rk l d j+if cT (nd l (gt d j)) (nd l (gt d (j+1)))=0 then 0 else 1:=rfl
   by_cases hc:cT (nd l (gt d j)) (nd l (gt d (j+1)))=0
   ·rw [if_pos hc] at e2
    exact uU (xI j (by omega) (by omega)) hc
   ·rw [if_neg hc] at e2; omega
theorem xJ {l:List ab}{d:List Int}{n:Nat}(S:Sg (fun x y=>cT (nd l x) (nd l y)) d 0 n){k q:Nat}(hq:q<n)(h0:cT (nd l (gt d k)) (nd l (gt d q))=0):∀j,k≤j→j≤q→rk l d j=rk l d k
 | 0,h,_=>by
   have:k=0:=by omega
   subst this; rfl
 | j+1,h,hj=>by
  by_cases hk:k=j+1
  ·subst hk; rfl
  ·have ih:=xJ S hq h0 j (by omega) (by omega)
   have VH:cT (nd l (gt d k)) (nd l (gt d j))≤0:=by
    by_cases e:k=j
    ·subst e; rw [sq]; omega
    ·have:0≤cT (nd l (gt d j)) (nd l (gt d k)):=S k j (by omega) (by omega) (by omega)
     have n:=iY (nd l (gt d k)) (nd l (gt d j))
     omega
   have VI:cT (nd l (gt d (j+1))) (nd l (gt d q))≤0:=by
    by_cases e:j+1=q
    ·subst e; rw [sq]; omega
    ·have:0≤cT (nd l (gt d q)) (nd l (gt d (j+1))):=S (j+1) q (by omega) (by omega) hq
     have n:=iY (nd l (gt d (j+1))) (nd l (gt d q))
     omega
   have VJ:cT (nd l (gt d q)) (nd l (gt d k))≤0:=by have n:=iY (nd l (gt d k)) (nd l (gt d q)); omega
   have Xj:=y9 _ _ _ (y9 _ _ _ VI VJ) VH
   have s1:=S j (j+1) (by omega) (by omega) (by omega)
   have n:=iY (nd l (gt d j)) (nd l (gt d (j+1)))
   have hz:cT (nd l (gt d j)) (nd l (gt d (j+1)))=0:=by
    have s1:0≤cT (nd l (gt d (j+1))) (nd l (gt d j)):=s1
    omega
   show rk l d j+(if cT (nd l (gt d j)) (nd l (gt d (j+1)))=0 then 0 else 1)=_
   rw [if_pos hz,ih]; rfl
def II (l:List ab)(out:List Int):Prop:=(∀i j,i<l.length→j<l.length→gt out i=gt out j→cT (nd l i) (nd l j)=0)∧∀R,DX l R→∀i j,R i j→gt out i=gt out j
theorem DY {l:List ab}{d out:List Int}(hp:d.Perm (ints l.length))(hs:Ord (fun x y=>cT (nd l x) (nd l y)) (ints l.length)→Sg (fun x y=>cT (nd l x) (nd l y)) d 0 l.length)(hg:∀k,k<l.length→gt out (gt d k).toNat=rk l d k):II l out:=by
 have S:=hs (Ln _ _)
 have Qq:d.length=l.length:=by rw [hp.length_eq,dG]
 have pos:∀i,i<l.length→∃k,k<l.length∧gt d k=i∧gt out i=rk l d k:=fun i hi=>by
  obtain⟨k,hk,e⟩:=eL (hp.mem_iff.2 (iE.2 (show 0≤(i:Int)∧(i:Int)<l.length by omega)))
  have:=hg k (by omega)
  rw [e,Xy] at this
  exact⟨k,by omega,e,this⟩
 refine⟨fun i j hi hj e=>?_,fun R B i j hR=>?_⟩
 ·obtain⟨k,hk,ek,Ro⟩:=pos i hi
  obtain⟨q,hq,eq,Rp⟩:=pos j hj
  rw [Ro,Rp] at e
  rw [←ek,←eq]
  rcases Nat.le_total k q with h | h
  ·exact xI q h (by omega)
  ·have:=xI (l:=l) (d:=d) k h (by omega)
   have n:=iY (nd l (gt d k)) (nd l (gt d q))
   omega
 ·obtain⟨hi,hj⟩:=B.nj i j hR
  obtain⟨k,hk,ek,Ro⟩:=pos i hi
  obtain⟨q,hq,eq,Rp⟩:=pos j hj
  have h0:=(B.top i j hR).cT
  rw [←ek,←eq] at h0
  rw [Ro,Rp]
  rcases Nat.le_total k q with h | h
  ·rw [xJ S hq h0 q h (Xv _)]
  ·have n:=iY (nd l (gt d k)) (nd l (gt d q))
   rw [xJ S hk (by omega) k h (Xv _)]
theorem GK {l:List ab}(ok:kM l){out:List Int}{i j:Nat}(h1:(nd l i).args.length=(nd l j).args.length)(e:key out (nd l i) i=key out (nd l j) j):gt out i=gt out j∧∀k,k<(nd l i).args.length→gt out (gt (nd l i).args k).toNat=gt out (gt (nd l j).args k).toNat:=by
 unfold key at e
 have e1:=List.cons.inj e
 refine⟨by omega,fun k hk=>?_⟩
 have e2:=e1.2
 rw [h1] at e2
 have e3:=List.append_cancel_right e2
 have e4:=congrArg (fun z=>z[k]?) e3
 simp only [XZ] at e4
 rw [bh hk,bh (by omega)] at e4
 simp only [Xx,Xu] at e4
 omega
theorem GL {l:List ab}(ok:kM l)(out:List Int)(many:Nat)(ks:List (List Int))(next:List Int)(P:Part l.length out many)(I:II l out)(K:qo l out l.length ks)(hn:next.length=l.length)
  (hg:∀i,i<l.length→gt next i=(ks.idxOf (key out (nd l i) i):Int)):II l next:=by
 refine⟨fun i j hi hj e=>?_,fun R B i j hR=>?_⟩
 ·rw [hg i hi,hg j hj] at e
  have e:ks.idxOf (key out (nd l i) i)=ks.idxOf (key out (nd l j) j):=by omega
  have m1:=Ys ((K.mem _).2 ⟨i,hi,rfl⟩)
  have m2:=Ys ((K.mem _).2 ⟨j,hj,rfl⟩)
  have g1:=List.getElem_idxOf m1
  have g2:=List.getElem_idxOf m2
  have g3:key out (nd l i) i=key out (nd l j) j:=by rw [←g1,←g2]; congr 1
  exact I.1 i j hi hj (by have:=(List.cons.inj g3).1; omega)
 ·obtain⟨hi,hj⟩:=B.nj i j hR
  rw [hg i hi,hg j hj]
  have hk:key out (nd l i) i=key out (nd l j) j:=by
   have hl:=(B.top i j hR).len
   unfold key
   rw [I.2 R B i j hR,hl]
   congr 2
   apply Yh fun k=>?_
   simp only [XZ]
   by_cases h:k<(nd l i).args.length
   ·rw [bh h,bh (by omega)]
    simp only [Xx,Xu]
    rw [I.2 R B _ _ (B.arg i j hR k h)]
   ·rw [XL (by omega),XL (by omega)]
  rw [hk]
theorem Lx {l:List ab}{r:List Int}{many:Nat}{ks:List (List Int)}(P:Part l.length r many)(K:qo l r l.length ks)(Ai:ks.length=many+1){i j:Nat}(hi:i<l.length)(hj:j<l.length)(e:gt r i=gt r j):key r (nd l i) i=key r (nd l j) j:=by
 by_cases hne:key r (nd l i) i=key r (nd l j) j
 ·exact hne
 ·exfalso
  have VK:=(K.mem _).2 ⟨i,hi,rfl⟩
  have VL:=(K.mem _).2 ⟨j,hj,rfl⟩
  have hn:((List.range (many+1)).map fun v:Nat=>((v:Int)+1)).Nodup:=by
   unfold List.Nodup
   rw [List.pairwise_map]
   exact List.Pairwise.imp (fun h=>by omega) List.nodup_range
  have:=hn.length_le_of_subset (l₂:=(ks.erase (key r (nd l j) j)).map fun k=>k.headD 0) (fun x hx=>by
   obtain⟨v,hv,rfl⟩:=XQ.1 hx
   obtain⟨q,hq,h⟩:=P.TA v (by have:=List.mem_range.1 hv; omega)
   by_cases Hw:key r (nd l q) q=key r (nd l j) j
   ·refine XQ.2 ⟨key r (nd l i) i,(List.mem_erase_of_ne hne).2 VK,?_⟩
    have h1:=(List.cons.inj Hw).1
    simp [key,e]
    omega
   ·exact XQ.2 ⟨_,(List.mem_erase_of_ne Hw).2 ((K.mem _).2 ⟨q,hq,rfl⟩),by simp [key,h]⟩)
  rw [XI,XI,List.length_range,List.length_erase_of_mem VL] at this
  omega
theorem vS {l:List ab}(hT:∀n∈l,GH n){i j:Nat}(hi:i<l.length)(hj:j<l.length)(h:cT (nd l i) (nd l j)=0):Alike (nd l i) (nd l j):=by
 have Ti:=hT _ (fl (i:=(i:Int)) (by omega) (by omega))
 have Tj:=hT _ (fl (i:=(j:Int)) (by omega) (by omega))
 have a3:∀{n:ab},GH n→n.kind=3→n.int=0:=fun T h=>by rcases T.kind with z | z | z | z | z<;>(have:=z.1; first | omega | exact z.2)
 have a0:∀{n:ab},GH n→n.kind≠3→n.args=[]:=fun T h=>by
  rcases T.kind with z | z | z | z | z
  ·exact z.2.2.2
  ·exact z.2.2.2
  ·exact z.2.2
  ·exact absurd z.1 h
  ·exact z.2
 exact Gr h (a3 Ti) (a3 Tj) (a0 Ti) (a0 Tj)
theorem lk {m:Nat}(hm:2 ^ 41≤m){t:ak}(h:ej t=true) :
  ∃cls ns,cy.f m t=some ⟨ns,0⟩∧Min t.nodes cls∧Ps cls t.nodes [] (ri cls t.nodes m t.root []) [] ns∧dW cls t.root∈(ri cls t.nodes m t.root []).map (dW cls):=by
 obtain⟨ok,h1,r0,r1,hT⟩:=iZ h
 obtain⟨cls,many,ks,ns,e,P,I,K,Ai,Q,hr⟩:=tR hm ok h1 r0 r1 (II t.nodes) (fun d out hp hs hg=>DY hp hs hg) (fun out many ks next P I K hn hg=>GL ok out many ks next P I K hn hg)
 refine⟨cls,ns,e,⟨P.len,fun i j hi hj e=>vS hT hi hj (I.1 i j hi hj e),fun i j hi hj e k hk=>?_,I.2⟩,Q,hr⟩
 have hA:=vS hT hi hj (I.1 i j hi hj e)
 exact (GK ok hA.len (Lx P K Ai hi hj e)).2 k hk
end Go.Proofs.YtmekcfdllhphlaaDoor
namespace Go.Proofs.YtmekcfdllhphlaaDoor
open Go Go.R
open Go.IntKind (i64 u64 u8 u32)
def tZ:cg:=gK [0,1,2,4,5,10,21] [2] [121,105,73,105,41,119,119] [] []
def bV.l0 (m:Nat)(n0:ab)(dB:List Bool):Nat→Int→Option (Sum Bool (Int))
 | 0,_=>none
 | k+1,i0=>if (decide (i0<(n0.args.length:Int)))=true then ((ix n0.args i0).bind fun v0=>(ix dB v0).bind fun v1=>if (!v1)=true then (some (.inl false)) else (bV.l0 m n0 dB k (i64.wrap (i0+(1:Int))))) else (some (.inr i0))
def bV.f (m:Nat)(n0:ab)(dB:List Bool):Option (Bool):=(bV.l0 m n0 dB m (0:Int)).bind fun bj=>match bj with | .inl r0=>some r0 | .inr i1=>some true
def bV.fin (L:Mem)(r:Bool)(s:St):Prop:=∃av,aH Tryd.prog (s.open tZ) Tryd.f102.results.toList=some av∧fW s.h av (.bool r)
def IJ (cf:CallF)(m:Nat):Prop:=∀(n0:ab) (dB:List Bool) (r:Bool),bV.f m n0 dB=some r→∀h xs,eN fi h xs [.agg [.int .i64 n0.kind,.int .i64 n0.int,.str n0.label,aa.fz n0.args],bO.fz dB]→cf 102 xs h=some (.bool r,h)
section
variable {cf:CallF}{m:Nat}
theorem bV.bI (L:Mem)(n0:ab)(dB:List Bool)   : bD Tryd.prog cf tZ m (sub [1,0,1,0,0] (codeOf Tryd.f102)) (fun k (σ:Int)=>bV.l0 m n0 dB k σ) (fun σ s=>match σ with | i0=>∃h0,s=⟨[.any,bO.fz dB,.lp 2 0,.any,.int .i64 i0,.any,.any],[some [.int .i64 n0.kind,.int .i64 n0.int,.str n0.label,aa.fz n0.args]],h0⟩∧Has h0 (L)) (fun out e s=>(e = .exit 0∧∃i0,.inr i0=out∧∃uM FB xp qd Rq h0,s=⟨[.any,uM,FB,.any,xp,qd,.any],[Rq],h0⟩∧Has h0 (L))∨(e = .ret∧∃r,.inl r=out∧bV.fin L r s)):=by
 refine gG (fun _=>rfl) ?_
 rintro k i0 s out ⟨h0,rfl,o0⟩ H
 have H:bV.l0 m n0 dB (k+1) i0=some out:=H
 refine qq <| qq <| q0 <| qc H (fun c0 H=>?_) (fun c0 H=>?_)
 ·refine qk <| qq <| qb 1 <| qq ?_
  obtain⟨v0,e0,H⟩:=aI H
  obtain⟨v1,e1,H⟩:=aI H
  refine qr [.v 4 (bw (k:=.i64) (E:=aa) (l:=n0.args) dz e0),.v 5 (cY  (E:=aa) (l:=n0.args) h0 A3 e0 rfl),.v 6 (bw (k:=.i64) (E:=bO) (l:=dB) DF e1),.v 7 (cY  (E:=bO) (l:=dB) h0 A4 e1 rfl)] <| qc H (fun c1 H=>?_) (fun c1 H=>?_)
  ·exact q1 <| qt <| Yv (⟨rfl,_,oi H,cb (.bool false) h0 (b9 (au))⟩)
  ·exact qk <| q0 <| ⟨i64.wrap (i0+(1:Int)),⟨h0,by kernel_rfl,o0⟩,H⟩
 ·exact qx 0 <| YQ (⟨rfl,i0,oi H,bO.fz dB,.lp 2 0,.int .i64 i0,.bool (decide (i0<(n0.args.length:Int))),some [.int .i64 n0.kind,.int .i64 n0.int,.str n0.label,aa.fz n0.args],h0,by kernel_rfl,o0⟩)
theorem qw {aU:FuncId→cg}(ha:aU 102=tZ)  (n0:ab)(dB:List Bool)(h:AHeap)(L:Mem)  (o:Has h (L)){out:Bool}(H:bV.f m n0 dB=some out) :
  ∃r h',bc Tryd.prog aU cf m 102 [.agg [.int .i64 n0.kind,.int .i64 n0.int,.str n0.label,aa.fz n0.args],bO.fz dB] h=some (r,h')∧fW h' r (.bool out):=by
 refine aq (fn:=Tryd.f102) ha Tryd.func102 (by kernel_rfl) (by kernel_rfl) ?_
 refine aG (Q:=fun s=>bV.fin L out s) (fun _ _ h=>h) ?_
 have H:_=some out:=H
 unfold bV.f at H
 show de _ cf tZ m _ ⟨.agg [.int .i64 n0.kind,.int .i64 n0.int,.str n0.label,aa.fz n0.args]::bO.fz dB::rB [],[none],h⟩ _
 refine q1 <| qq <| qq <| q0 <| qb 0 ?_
 obtain⟨bj,e2,H⟩:=aI H
 refine ql (bV.bI L n0 dB   (0:Int) _ _ ⟨h,by kernel_rfl,o⟩ e2) ?_
 rintro e s (⟨rfl,i1,rfl,g0,g1,g2,g3,g4,h1,rfl,o1⟩| ⟨rfl,r0,rfl,nI⟩)
 ·try dsimp only at H
  obtain rfl:=oi H
  exact q1 <| qt <| ⟨.inl rfl,cb (.bool true) h1 (b9 (au))⟩
 ·try dsimp only at H
  obtain rfl:=oi H
  exact⟨.inl rfl,nI⟩
end
end Go.Proofs.YtmekcfdllhphlaaDoor
namespace Go.Proofs.YtmekcfdllhphlaaDoor
open Go Go.R
open Go.IntKind (i64 u64 u8 u32)
def xK:cg:=gK [0,1,2,3,4] [2,3] [19,15] [] []
def eW.f (m:Nat)(a0:ab)(b0:ab):Option (Bool):=if (a0.kind==b0.kind)=true then (if (a0.int==b0.int)=true then (if (a0.label.data.toList==b0.label.data.toList)=true then (some ((a0.args.length:Int)==(b0.args.length:Int))) else (some false)) else (some false)) else (some false)
def eW.fin (L:Mem)(r:Bool)(s:St):Prop:=∃av,aH Tryd.prog (s.open xK) Tryd.f104.results.toList=some av∧fW s.h av (.bool r)
def DZ (cf:CallF)(m:Nat):Prop:=∀(a0:ab) (b0:ab) (r:Bool),eW.f m a0 b0=some r→∀h xs,eN fi h xs [.agg [.int .i64 a0.kind,.int .i64 a0.int,.str a0.label,aa.fz a0.args],.agg [.int .i64 b0.kind,.int .i64 b0.int,.str b0.label,aa.fz b0.args]]→cf 104 xs h=some (.bool r,h)
section
variable {cf:CallF}{m:Nat}
theorem qy {aU:FuncId→cg}(ha:aU 104=xK)  (a0:ab)(b0:ab)(h:AHeap)(L:Mem)  (o:Has h (L)){out:Bool}(H:eW.f m a0 b0=some out) :
  ∃r h',bc Tryd.prog aU cf m 104 [.agg [.int .i64 a0.kind,.int .i64 a0.int,.str a0.label,aa.fz a0.args],.agg [.int .i64 b0.kind,.int .i64 b0.int,.str b0.label,aa.fz b0.args]] h=some (r,h')∧fW h' r (.bool out):=by
 refine aq (fn:=Tryd.f104) ha Tryd.func104 (by kernel_rfl) (by kernel_rfl) ?_
 refine aG (Q:=fun s=>eW.fin L out s) (fun _ _ h=>h) ?_
 have H:_=some out:=H
 unfold eW.f at H
 show de _ cf xK m _ ⟨.agg [.int .i64 a0.kind,.int .i64 a0.int,.str a0.label,aa.fz a0.args] :: .agg [.int .i64 b0.kind,.int .i64 b0.int,.str b0.label,aa.fz b0.args]::jP [],[none,none],h⟩ _
 refine q1 <| qq ?_
 rcases dJ H with⟨c0,H⟩| ⟨c0,H⟩
 ·rcases dJ H with⟨c1,H⟩| ⟨c1,H⟩
  ·rcases dJ H with⟨c2,H⟩| ⟨c2,H⟩
   ·obtain rfl:=oi H
    exact qr [.b 5 c0,.b 12 c1,.b 19 c2] <| qt <| ⟨.inl rfl,cb (.bool ((a0.args.length:Int)==(b0.args.length:Int))) h (b9 (au))⟩
   ·obtain rfl:=oi H
    exact qr [.b 5 c0,.b 12 c1,.b 19 c2] <| qt <| ⟨.inl rfl,cb (.bool false) h (b9 (au))⟩
  ·obtain rfl:=oi H
   exact qr [.b 5 c0,.b 12 c1] <| qt <| ⟨.inl rfl,cb (.bool false) h (b9 (au))⟩
 ·obtain rfl:=oi H
  exact qr [.b 5 c0] <| qt <| ⟨.inl rfl,cb (.bool false) h (b9 (au))⟩
end
end Go.Proofs.YtmekcfdllhphlaaDoor
namespace Go.Proofs.YtmekcfdllhphlaaDoor
open Go Go.R
open Go.IntKind (i64 u64 u8 u32)
def ub:cg:=gK [0,1,2,3,4,6,7,12,31] [3,4] [483,419,291,419,163,479,479] [] []
def bk.l0 (m:Nat)(a0:ab)(b0:ab)(bn:List Int):Nat→Int→Option (Sum Bool (Int))
 | 0,_=>none
 | k+1,i0=>if (decide (i0<(a0.args.length:Int)))=true then ((ix a0.args i0).bind fun v0=>(ix bn v0).bind fun v1=>(ix b0.args i0).bind fun v2=>(ix bn v2).bind fun v3=>if (!(v1==v3))=true then (some (.inl false)) else (bk.l0 m a0 b0 bn k (i64.wrap (i0+(1:Int))))) else (some (.inr i0))
def bk.f (m:Nat)(a0:ab)(b0:ab)(bn:List Int):Option (Bool):=(bk.l0 m a0 b0 bn m (0:Int)).bind fun bj=>match bj with | .inl r0=>some r0 | .inr i1=>some true
def bk.fin (L:Mem)(r:Bool)(s:St):Prop:=∃av,aH Tryd.prog (s.open ub) Tryd.f105.results.toList=some av∧fW s.h av (.bool r)
def AZ (cf:CallF)(m:Nat):Prop:=∀(a0:ab) (b0:ab) (bn:List Int) (r:Bool),bk.f m a0 b0 bn=some r→∀h xs,eN fi h xs [.agg [.int .i64 a0.kind,.int .i64 a0.int,.str a0.label,aa.fz a0.args],.agg [.int .i64 b0.kind,.int .i64 b0.int,.str b0.label,aa.fz b0.args],aa.fz bn]→cf 105 xs h=some (.bool r,h)
section
variable {cf:CallF}{m:Nat}
theorem bk.bI (L:Mem)(a0:ab)(b0:ab)(bn:List Int)   : bD Tryd.prog cf ub m (sub [1,0,1,0,0] (codeOf Tryd.f105)) (fun k (σ:Int)=>bk.l0 m a0 b0 bn k σ) (fun σ s=>match σ with | i0=>∃h0,s=⟨[.any,.any,aa.fz bn,.lp 3 0,.lp 4 0,.any,.int .i64 i0,.any,.any],[some [.int .i64 a0.kind,.int .i64 a0.int,.str a0.label,aa.fz a0.args],some [.int .i64 b0.kind,.int .i64 b0.int,.str b0.label,aa.fz b0.args]],h0⟩∧Has h0 (L)) (fun out e s=>(e = .exit 0∧∃i0,.inr i0=out∧∃FB uN DO uP A0 VM Rr h0,s=⟨[.any,.any,FB,uN,DO,.any,uP,A0,.any],[VM,Rr],h0⟩∧Has h0 (L))∨(e = .ret∧∃r,.inl r=out∧bk.fin L r s)):=by
 refine gG (fun _=>rfl) ?_
 rintro k i0 s out ⟨h0,rfl,o0⟩ H
 have H:bk.l0 m a0 b0 bn (k+1) i0=some out:=H
 refine qq <| qq <| q0 <| qc H (fun c0 H=>?_) (fun c0 H=>?_)
 ·refine qk <| qq <| qb 1 <| qq ?_
  obtain⟨v0,e0,H⟩:=aI H
  obtain⟨v1,e1,H⟩:=aI H
  obtain⟨v2,e2,H⟩:=aI H
  obtain⟨v3,e3,H⟩:=aI H
  refine qr [.v 4 (bw (k:=.i64) (E:=aa) (l:=a0.args) dz e0),.v 5 (cY  (E:=aa) (l:=a0.args) h0 A3 e0 rfl),.v 6 (bw (k:=.i64) (E:=aa) (l:=bn) dz e1),.v 7 (cY  (E:=aa) (l:=bn) h0 A3 e1 rfl),.v 12 (bw (k:=.i64) (E:=aa) (l:=b0.args) dz e2),.v 13 (cY  (E:=aa) (l:=b0.args) h0 A3 e2 rfl),.v 14 (bw (k:=.i64) (E:=aa) (l:=bn) dz e3),.v 15 (cY  (E:=aa) (l:=bn) h0 A3 e3 rfl)] <| qc H (fun c1 H=>?_) (fun c1 H=>?_)
  ·exact q1 <| qt <| Yv (⟨rfl,_,oi H,cb (.bool false) h0 (b9 (au))⟩)
  ·exact qk <| q0 <| ⟨i64.wrap (i0+(1:Int)),⟨h0,by kernel_rfl,o0⟩,H⟩
 ·exact qx 0 <| YQ (⟨rfl,i0,oi H,aa.fz bn,.lp 3 0,.lp 4 0,.int .i64 i0,.bool (decide (i0<(a0.args.length:Int))),some [.int .i64 a0.kind,.int .i64 a0.int,.str a0.label,aa.fz a0.args],some [.int .i64 b0.kind,.int .i64 b0.int,.str b0.label,aa.fz b0.args],h0,by kernel_rfl,o0⟩)
theorem mR {aU:FuncId→cg}(ha:aU 105=ub)  (a0:ab)(b0:ab)(bn:List Int)(h:AHeap)(L:Mem)  (o:Has h (L)){out:Bool}(H:bk.f m a0 b0 bn=some out) :
  ∃r h',bc Tryd.prog aU cf m 105 [.agg [.int .i64 a0.kind,.int .i64 a0.int,.str a0.label,aa.fz a0.args],.agg [.int .i64 b0.kind,.int .i64 b0.int,.str b0.label,aa.fz b0.args],aa.fz bn] h=some (r,h')∧fW h' r (.bool out):=by
 refine aq (fn:=Tryd.f105) ha Tryd.func105 (by kernel_rfl) (by kernel_rfl) ?_
 refine aG (Q:=fun s=>bk.fin L out s) (fun _ _ h=>h) ?_
 have H:_=some out:=H
 unfold bk.f at H
 show de _ cf ub m _ ⟨.agg [.int .i64 a0.kind,.int .i64 a0.int,.str a0.label,aa.fz a0.args] :: .agg [.int .i64 b0.kind,.int .i64 b0.int,.str b0.label,aa.fz b0.args]::aa.fz bn::BQ [],[none,none],h⟩ _
 refine q1 <| qq <| qq <| q0 <| qb 0 ?_
 obtain⟨bj,e4,H⟩:=aI H
 refine ql (bk.bI L a0 b0 bn   (0:Int) _ _ ⟨h,by kernel_rfl,o⟩ e4) ?_
 rintro e s (⟨rfl,i1,rfl,g0,g1,g2,g3,g4,g5,g6,h1,rfl,o1⟩| ⟨rfl,r0,rfl,nI⟩)
 ·try dsimp only at H
  obtain rfl:=oi H
  exact q1 <| qt <| ⟨.inl rfl,cb (.bool true) h1 (b9 (au))⟩
 ·try dsimp only at H
  obtain rfl:=oi H
  exact⟨.inl rfl,nI⟩
end
end Go.Proofs.YtmekcfdllhphlaaDoor
namespace Go.Proofs.YtmekcfdllhphlaaDoor
open Go Go.R
open Go.IntKind (i64 u64 u8 u32)
def uc:cg:=gK [0,1,2,3,8,9,13,42] [] [240,208,144,208,80,239,239] [] []
def b4.l0 (m:Nat)(l0:List ab)(dX:List Int)(n0:Int)(bn:List Int):Nat→Int→Option (Sum Int (Int))
 | 0,_=>none
 | k+1,k0=>if (decide (k0<(dX.length:Int)))=true then ((ix l0 n0).bind fun v0=>(ix dX k0).bind fun v1=>(ix l0 v1).bind fun v2=>(eW.f m v0 v2).bind fun x0=>if x0=true then ((ix l0 n0).bind fun v3=>(ix dX k0).bind fun v4=>(ix l0 v4).bind fun v5=>(bk.f m v3 v5 bn).bind fun x1=>if x1=true then ((ix dX k0).bind fun v6=>some (.inl v6)) else (b4.l0 m l0 dX n0 bn k (i64.wrap (k0+(1:Int))))) else (b4.l0 m l0 dX n0 bn k (i64.wrap (k0+(1:Int))))) else (some (.inr k0))
def b4.f (m:Nat)(l0:List ab)(dX:List Int)(n0:Int)(bn:List Int):Option (Int):=(b4.l0 m l0 dX n0 bn m (0:Int)).bind fun bj=>match bj with | .inl r0=>some r0 | .inr k1=>some n0
def b4.fin (L:Mem)(r:Int)(s:St):Prop:=∃av,aH Tryd.prog (s.open uc) Tryd.f103.results.toList=some av∧fW s.h av (.int .i64 r)
def IK (cf:CallF)(m:Nat):Prop:=∀(l0:List ab) (dX:List Int) (n0:Int) (bn:List Int) (r:Int),b4.f m l0 dX n0 bn=some r→∀h xs,eN fi h xs [af.fz l0,aa.fz dX,.int .i64 n0,aa.fz bn]→cf 103 xs h=some (.int .i64 r,h)
section
variable {cf:CallF}{m:Nat}
theorem b4.bI (L:Mem)(l0:List ab)(dX:List Int)(n0:Int)(bn:List Int)  (nl:DZ cf m)(mr:AZ cf m):bD Tryd.prog cf uc m (sub [1,0,1,0,0] (codeOf Tryd.f103)) (fun k (σ:Int)=>b4.l0 m l0 dX n0 bn k σ) (fun σ s=>match σ with | k0=>∃h0,s=⟨[af.fz l0,aa.fz dX,.int .i64 n0,aa.fz bn,.any,.int .i64 k0,.any,.any],[],h0⟩∧Has h0 (L)) (fun out e s=>(e = .exit 0∧∃k0,.inr k0=out∧∃kG uM uN rG qe h0,s=⟨[kG,uM,.int .i64 n0,uN,.any,rG,qe,.any],[],h0⟩∧Has h0 (L))∨(e = .ret∧∃r,.inl r=out∧b4.fin L r s)):=by
 refine gG (fun _=>rfl) ?_
 rintro k k0 s out ⟨h0,rfl,o0⟩ H
 have H:b4.l0 m l0 dX n0 bn (k+1) k0=some out:=H
 refine qq <| qq <| q0 <| qc H (fun c0 H=>?_) (fun c0 H=>?_)
 ·refine qk <| qq <| qb 1 <| qq ?_
  obtain⟨v0,e0,H⟩:=aI H
  obtain⟨v1,e1,H⟩:=aI H
  obtain⟨v2,e2,H⟩:=aI H
  obtain⟨x0,e3,H⟩:=aI H
  rcases dJ H with⟨c1,H⟩| ⟨c1,H⟩
  ·obtain⟨v3,e4,H⟩:=aI H
   obtain⟨v4,e5,H⟩:=aI H
   obtain⟨v5,e6,H⟩:=aI H
   obtain⟨x1,e7,H⟩:=aI H
   refine qr [.v 2 (bw (k:=.i64) (E:=af) (l:=l0) la e0),.v 3 (dw  (E:=af) (l:=l0) h0 tq tt e0),.v 7 (bw (k:=.i64) (E:=aa) (l:=dX) dz e1),.v 8 (cY  (E:=aa) (l:=dX) h0 A3 e1 rfl),.v 9 (bw (k:=.i64) (E:=af) (l:=l0) la e2),.v 10 (dw  (E:=af) (l:=l0) h0 tq tt e2),.a 11 (nl _ _ _ e3 h0 _ (hH (ae (dy (ae (aO) (ae (aO) (ae (bY) (ae (db (E:=aa)) (aC)))))) (ae (dy (ae (aO) (ae (aO) (ae (bY) (ae (db (E:=aa)) (aC)))))) (aC))))),.b 12 c1,.v 15 (bw (k:=.i64) (E:=af) (l:=l0) la e4),.v 16 (dw  (E:=af) (l:=l0) h0 tq tt e4),.v 20 (bw (k:=.i64) (E:=aa) (l:=dX) dz e5),.v 21 (cY  (E:=aa) (l:=dX) h0 A3 e5 rfl),.v 22 (bw (k:=.i64) (E:=af) (l:=l0) la e6),.v 23 (dw  (E:=af) (l:=l0) h0 tq tt e6),.a 25 (mr _ _ _ _ e7 h0 _ (hH (ae (dy (ae (aO) (ae (aO) (ae (bY) (ae (db (E:=aa)) (aC)))))) (ae (dy (ae (aO) (ae (aO) (ae (bY) (ae (db (E:=aa)) (aC)))))) (ae (db (E:=aa)) (aC))))))] ?_
   refine qc H (fun c2 H=>?_) (fun c2 H=>?_)
   ·refine qq ?_
    obtain⟨v6,e8,H⟩:=aI H
    exact qr [.v 2 (bw (k:=.i64) (E:=aa) (l:=dX) dz e8),.v 3 (cY  (E:=aa) (l:=dX) h0 A3 e8 rfl)] <| qt <| Yv (⟨rfl,_,oi H,cb (.int .i64 v6) h0 (b9 (eG))⟩)
   ·exact qk <| q0 <| ⟨i64.wrap (k0+(1:Int)),⟨h0,by kernel_rfl,o0⟩,H⟩
  ·exact qr [.v 2 (bw (k:=.i64) (E:=af) (l:=l0) la e0),.v 3 (dw  (E:=af) (l:=l0) h0 tq tt e0),.v 7 (bw (k:=.i64) (E:=aa) (l:=dX) dz e1),.v 8 (cY  (E:=aa) (l:=dX) h0 A3 e1 rfl),.v 9 (bw (k:=.i64) (E:=af) (l:=l0) la e2),.v 10 (dw  (E:=af) (l:=l0) h0 tq tt e2),.a 11 (nl _ _ _ e3 h0 _ (hH (ae (dy (ae (aO) (ae (aO) (ae (bY) (ae (db (E:=aa)) (aC)))))) (ae (dy (ae (aO) (ae (aO) (ae (bY) (ae (db (E:=aa)) (aC)))))) (aC))))),.b 12 c1] <| DB <| qk <| q0 <| ⟨i64.wrap (k0+(1:Int)),⟨h0,by kernel_rfl,o0⟩,H⟩
 ·exact qx 0 <| YQ (⟨rfl,k0,oi H,af.fz l0,aa.fz dX,aa.fz bn,.int .i64 k0,.bool (decide (k0<(dX.length:Int))),h0,by kernel_rfl,o0⟩)
theorem rZ {aU:FuncId→cg}(ha:aU 103=uc)(nl:DZ cf m)(mr:AZ cf m)(l0:List ab)(dX:List Int)(n0:Int)(bn:List Int)(h:AHeap)(L:Mem)  (o:Has h (L)){out:Int}(H:b4.f m l0 dX n0 bn=some out) :
  ∃r h',bc Tryd.prog aU cf m 103 [af.fz l0,aa.fz dX,.int .i64 n0,aa.fz bn] h=some (r,h')∧fW h' r (.int .i64 out):=by
 refine aq (fn:=Tryd.f103) ha Tryd.func103 (by kernel_rfl) (by kernel_rfl) ?_
 refine aG (Q:=fun s=>b4.fin L out s) (fun _ _ h=>h) ?_
 have H:_=some out:=H
 unfold b4.f at H
 show de _ cf uc m _ ⟨af.fz l0::aa.fz dX :: .int .i64 n0::aa.fz bn::q9 [],[],h⟩ _
 refine q1 <| qq <| qq <| q0 <| qb 0 ?_
 obtain⟨bj,e9,H⟩:=aI H
 refine ql (b4.bI L l0 dX n0 bn  nl mr (0:Int) _ _ ⟨h,by kernel_rfl,o⟩ e9) ?_
 rintro e s (⟨rfl,k1,rfl,g0,g1,g2,g3,g4,h1,rfl,o1⟩| ⟨rfl,r0,rfl,nI⟩)
 ·try dsimp only at H
  obtain rfl:=oi H
  exact q1 <| qt <| ⟨.inl rfl,cb (.int .i64 n0) h1 (b9 (eG))⟩
 ·try dsimp only at H
  obtain rfl:=oi H
  exact⟨.inl rfl,nI⟩
end
end Go.Proofs.YtmekcfdllhphlaaDoor
