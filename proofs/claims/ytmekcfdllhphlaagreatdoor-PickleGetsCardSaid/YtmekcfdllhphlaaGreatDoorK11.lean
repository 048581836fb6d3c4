/- Part of the proof: Q23, Q6, PR6, PR7, PT1, PT2, PR8, PR9, PT3, PT4, PT5, PT11, Q22, PR10, PT12, Q15, Q113, Q104, Q82, Q60. -/
import Derived.Test.YtmekcfdllhphlaaGreatDoorK10
set_option linter.unusedVariables false
set_option linter.unusedSimpArgs false
set_option maxRecDepth 100000
open Bool renaming and_eq_true → aaF
open ByteArray renaming mk → aaT
open Int renaming toNat_natCast → aaH, tdiv → abr, tmod → abE, le_refl → ab9
open List renaming length_append → aaI, getElem?_eq_some_iff → aaK, getElem?_eq_getElem → aaL, append_assoc → aaM, mem_singleton → aaO, drop_eq_getElem_cons → aaP, mem_append → aaQ, length_cons → aaR, length_map → aaX, take_of_length_le → aa4, nil_append → aa5, map_cons → aa6, mem_map → aba, mem_cons → abb, all_eq_true → abd, getElem_mem → abe, length_nil → abg, getElem?_map → abi, append_nil → abu, mem_of_getElem? → abI, idxOf_lt_length_of_mem → abU, flatten_cons → ab6, getElem_of_mem → ab7, length → ack
open Nat renaming le_refl → aaE, le_trans → abj, mul_le_mul_right → abq
open Option renaming bind_some → aaA, bind_eq_some_iff → aaB, map_some → aaG
open Option.some renaming injEq → aaD, inj → aa2
open Or renaming inr → abD, inl → abM
open Prod.mk renaming injEq → aaJ
open UInt8 renaming ofNat → acp
namespace Go.Proofs.YtmekcfdllhphlaaGreatDoor
open Go Go.R
open Go.IntKind (i64 u64 u8 u32)
def EI:b9:=gm [0,1,4] [] [4,3] [] []
def dt.f (m:Nat)(a0:List Int)(b0:List Int):Option (Bool):=some ((bQ a0).data.toList==(bQ b0).data.toList)
def dt.fin (L:Mem)(r:Bool)(s:St):Prop:=∃av,aH Tryz.prog (s.open EI) Tryz.f23.results.toList=some av∧gf s.h av (.bool r)
def Us (cf:CallF)(m:Nat):Prop:=∀(a0:List Int) (b0:List Int) (r:Bool),dt.f m a0 b0=some r→∀h xs,eR fh h xs [af.fz a0,af.fz b0]→cf 23 xs h=some (.bool r,h)
section
variable {cf:CallF}{m:Nat}
theorem sq {aV:FuncId→b9}(ha:aV 23=EI)  (a0:List Int)(b0:List Int)(h:AHeap)(L:Mem)  (o:Has h (L)){out:Bool}(H:dt.f m a0 b0=some out) :
  ∃r h',bg Tryz.prog aV cf m 23 [af.fz a0,af.fz b0] h=some (r,h')∧gf h' r (.bool out):=by
 refine aj (fn:=Tryz.f23) ha Tryz.func23 (by kernel_rfl) (by kernel_rfl) ?_
 refine aD (Q:=fun s=>dt.fin L out s) (fun _ _ h=>h) ?_
 have H:_=some out:=H
 unfold dt.f at H
 show dA _ cf EI m _ ⟨[af.fz a0,af.fz b0,.any],[],h⟩ _
 obtain rfl:=oi H
 exact q1 <| qq <| qr [.v 1 (show eu Tryz.prog h 22 9 (af.fz a0)=some (.str (bQ a0)) from nD (e:=5) (l:=a0) rfl rfl rfl (vo _)),.v 3 (show eu Tryz.prog h 22 9 (af.fz b0)=some (.str (bQ b0)) from nD (e:=5) (l:=b0) rfl rfl rfl (vo _))] <| qt <| ⟨.inl rfl,cp (.bool ((bQ a0).data.toList==(bQ b0).data.toList)) h (cn (au))⟩
end
end Go.Proofs.YtmekcfdllhphlaaGreatDoor
namespace Go.Proofs.YtmekcfdllhphlaaGreatDoor
open Go Go.R
open Go.IntKind (i64 u64 u8 u32)
def Gi:b9:=gm [0,2,3,4,5,6,7,8,9,10,11,12,15,33,56,70,93,106] [8] [262142,258046,262137,253950,262137,262134,262118,262086,262022,245638,262022,261894,261638,261126,228358,261126,261126,262022,196590,262137,259054,131055,262137,262137] [(17,[(8,some 0,0)]),(20,[(5,none,0)])] [(6,[(5,none,2)]),(11,[(8,some 0,4)])]
def aO.l1 (m:Nat)(x3:Int × eA):Nat→Int→(List ae)→Int→eA→Option (Int × (List ae) × Int × eA)
 | 0,_,_,_,_=>none
 | k+1,k0,t0,t1,lG=>if (decide (k0<x3.1))=true then (if (!lG.aK)=true then ((cK.f m lG).bind fun x4=>(app 56 t0 ([x4.1])).bind fun x5=>aO.l1 m x3 k (i64.wrap (k0+(1:Int))) x5 t1 x4.2) else (some ((k0,t0,t1,lG)))) else (some ((k0,t0,t1,lG)))
def aO.l0 (m:Nat)(x2:Int × eA):Nat→(List ak)→Int→eA→Option ((List ak) × Int × eA)
 | 0,_,_,_=>none
 | k+1,aZ,i0,km=>if (decide (i0<x2.1))=true then (if (!km.aK)=true then (if (decide (x2.1≤(8:Int)))=true then ((bc.f m km).bind fun x3=>(aO.l1 m x3 m (0:Int) ([]:List ae) (0:Int) x3.2).bind fun aF=>match aF with | (k1,t2,t3,ob2)=>(app 32 aZ ([(ak.mk t2 t3)])).bind fun x6=>aO.l0 m x2 k x6 (i64.wrap (i0+(1:Int))) ob2) else (some ((aZ,i0,km)))) else (some ((aZ,i0,km)))) else (some ((aZ,i0,km)))
def aO.f (m:Nat)(b0:List Int):Option ((List ak) × Int):=if (decide ((b0.length:Int) > (200000:Int)))=true then (some ([],(3:Int))) else (if (decide ((b0.length:Int)<(7:Int)))=true then (some ([],(2:Int))) else ((kU b0 (0:Int) (i64.wrap ((b0.length:Int) - (4:Int)))).bind fun v0=>(dm.f m v0).bind fun x0=>(kU b0 (i64.wrap ((b0.length:Int) - (4:Int))) (b0.length:Int)).bind fun v1=>(dt.f m x0 v1).bind fun x1=>if (!x1)=true then (some ([],(2:Int))) else ((kU b0 (2:Int) (i64.wrap ((b0.length:Int) - (4:Int)))).bind fun v2=>(bc.f m (eA.mk v2 false)).bind fun x2=>(aO.l0 m x2 m ([]:List ak) (0:Int) x2.2).bind fun bm=>match bm with | (pe,i1,De)=>if De.aK=true then (some ([],(2:Int))) else (if (!((pe.length:Int)==x2.1))=true then (some ([],(2:Int))) else ((bz.f m pe).bind fun x7=>if (!(x7.2==(0:Int)))=true then (some ([],(2:Int))) else ((dt.f m x7.1 b0).bind fun x8=>if (!x8)=true then (some ([],(2:Int))) else (some (pe,(0:Int)))))))))
def aO.fin (L:Mem)(r:(List ak) × Int)(s:St):Prop:=∃av,aH Tryz.prog (s.open Gi) Tryz.f6.results.toList=some av∧vm s.h av (.tup [aL.fz r.1,.int .i64 r.2])
def S6 (cf:CallF)(m:Nat):Prop:=∀(b0:List Int) (r:(List ak) × Int),aO.f m b0=some r→∀h xs,lh xs [af.fz b0]→cf 6 xs h=some (.tup [aL.fz r.1,.int .i64 r.2],h)
section
variable {cf:CallF}{m:Nat}
theorem aO.eO (L:Mem)(b0:List Int)(az:Nat)(x2:Int × eA)(dR:Nat)(aZ:List ak)(i0:Int)(dR:Nat)(x3:Int × eA)  (IN:R8 cf m):bC Tryz.prog cf Gi m (sub [1,1,1,1,1,1,0,1,0,0,1,0,0,1,1,0,1,0,0] (codeOf Tryz.f6)) (fun k (σ:Int × (List ae) × Int × eA)=>aO.l1 m x3 k σ.1 σ.2.1 σ.2.2.1 σ.2.2.2) (fun σ s=>match σ with | (k0,t0,t1,lG)=>∃cR h4,s=⟨af.fz b0 :: .any :: .any :: .ptr az 0 :: .rs dR 0 aZ.length 2 :: .int .i64 x2.1 :: .int .i64 i0 :: .lp 8 0 :: .int .i64 x3.1 :: .int .i64 k0::r9 [],[some [.rs cR 0 t0.length 4,.int .i64 t1]],h4⟩∧Has h4 ((az,.ob [af.fz lG.bO,.bool lG.aK])::(cR,.sl t0.length 4 (ah.l t0))::(dR,.sl aZ.length 2 (aL.l aZ))::L)) (fun out e s=>(e = .exit 2∧∃k0 t0 t1 lG,(k0,t0,t1,lG)=out∧∃qQ pE Ut cR h4,s=⟨af.fz b0 :: .any :: .any :: .ptr az 0 :: .rs dR 0 aZ.length 2 :: .int .i64 x2.1 :: .int .i64 i0 :: .lp 8 0::qQ::pE::qF [Ut,.any,.any],[some [.rs cR 0 t0.length 4,.int .i64 t1]],h4⟩∧Has h4 ((az,.ob [af.fz lG.bO,.bool lG.aK])::(cR,.sl t0.length 4 (ah.l t0))::(dR,.sl aZ.length 2 (aL.l aZ))::L))):=by
 refine gk (fun _=>rfl) ?_
 rintro k ⟨k0,t0,t1,lG⟩ s out ⟨cR,h4,rfl,o6⟩ H
 have H:aO.l1 m x3 (k+1) k0 t0 t1 lG=some out:=H
 refine qq <| qq ?_
 rcases dX H with⟨c7,H⟩| ⟨c7,H⟩
 ·refine qr [.b 3 c7,.v 7 (show bp Tryz.prog h4 4 (.ptr az 1)=some (.bool lG.aK) from cg (q:=0) (cs:=[af.fz lG.bO,.bool lG.aK]) o6 rfl (by kernel_rfl))] <| qc H (fun c8 H=>?_) (fun c8 H=>?_)
  ·refine qk <| qq <| qb 3 ?_
   obtain⟨x4,lF,H⟩:=aG H
   obtain⟨h5,nb,o7⟩:=IN _ _ lF h4 _ _ (o6)  [.ptr az 0] (an (rfl) (aT))
   obtain⟨x5,nK,H⟩:=aG H
   obtain⟨fc,h6,pa,o8⟩:=cL (P:=Tryz.prog) (E:=ah) (l:=t0) (q:=1) (t2:=42) (x:=.fz [.int .i64 x4.1.kind,.int .i64 x4.1.int,.str x4.1.label,aa.fz x4.1.args] 1 true) (l2:=([x4.1])) mj o7 rfl (by kernel_rfl) rfl nK
   exact qr [.a 3 nb,.a 5 pa] <| q0 <| ⟨(i64.wrap (k0+(1:Int)),x5,t1,x4.2),⟨fc,h6,by kernel_rfl,o8⟩,H⟩
  ·exact qx 2 <| ⟨rfl,k0,t0,t1,lG,oi H,.int .i64 x3.1,.int .i64 k0,.bool (!lG.aK),cR,h4,by kernel_rfl,o6⟩
 ·exact qr [.b 3 c7] <| AU <| qx 2 <| ⟨rfl,k0,t0,t1,lG,oi H,.int .i64 x3.1,.int .i64 k0,.bool false,cR,h4,by kernel_rfl,o6⟩
theorem aO.bu (L:Mem)(b0:List Int)(az:Nat)(x2:Int × eA)  (oL:N2 cf m)(IN:R8 cf m):bC Tryz.prog cf Gi m (sub [1,1,1,1,1,1,0,1,0,0] (codeOf Tryz.f6)) (fun k (σ:(List ak) × Int × eA)=>aO.l0 m x2 k σ.1 σ.2.1 σ.2.2) (fun σ s=>match σ with | (aZ,i0,km)=>∃dR h2,s=⟨af.fz b0 :: .any :: .any :: .ptr az 0 :: .rs dR 0 aZ.length 2 :: .int .i64 x2.1 :: .int .i64 i0::nE [],[none],h2⟩∧Has h2 ((az,.ob [af.fz km.bO,.bool km.aK])::(dR,.sl aZ.length 2 (aL.l aZ))::L)) (fun out e s=>(e = .exit 0∧∃aZ i0 km,(aZ,i0,km)=out∧∃se IB dR h2,s=⟨af.fz b0 :: .any :: .any :: .ptr az 0 :: .rs dR 0 aZ.length 2 :: .int .i64 x2.1::se::zY (IB::jE []),[none],h2⟩∧Has h2 ((az,.ob [af.fz km.bO,.bool km.aK])::(dR,.sl aZ.length 2 (aL.l aZ))::L))):=by
 refine gk (fun _=>rfl) ?_
 rintro k ⟨aZ,i0,km⟩ s out ⟨dR,h2,rfl,o3⟩ H
 have H:aO.l0 m x2 (k+1) aZ i0 km=some out:=H
 refine qq <| qq ?_
 rcases dX H with⟨c4,H⟩| ⟨c4,H⟩
 ·rcases dX H with⟨c5,H⟩| ⟨c5,H⟩
  ·refine qr [.b 3 c4,.v 7 (show bp Tryz.prog h2 4 (.ptr az 1)=some (.bool km.aK) from cg (q:=0) (cs:=[af.fz km.bO,.bool km.aK]) o3 rfl (by kernel_rfl)),.b 10 c5] <| qc H (fun c6 H=>?_) (fun c6 H=>?_)
   ·refine qk <| qq <| qb 1 <| qq <| q0 ?_
    have o4:Has h2 ((((0)),.sl (([]:List ae).length) 4 (ah.l ([]:List ae)))::(az,.ob [af.fz km.bO,.bool km.aK])::(dR,.sl aZ.length 2 (aL.l aZ))::L):=Has.nil o3 4
    refine qq ?_
    obtain⟨x3,e8,H⟩:=aG H
    obtain⟨h3,e9,o5⟩:=oL _ _ e8 h2 _ _ ((Has.front (Has.front (Has.front o4 2 rfl) 1 rfl) 2 rfl))  [.ptr az 0] (an (rfl) (aT))
    refine qr [.a 1 e9] <| qq <| qq <| q0 <| qb 2 ?_
    obtain⟨aF,pc,H⟩:=aG H
    refine ql (aO.eO L b0 az x2 dR aZ i0 dR x3  IN ((0:Int),([]:List ae),(0:Int),x3.2) _ _ ⟨((0)),h3,by kernel_rfl,o5⟩ pc) ?_
    rintro e s ⟨rfl,k1,t2,t3,ob2,rfl,g0,g1,g2,gY,h7,rfl,o9⟩
    try dsimp only at H
    obtain⟨h8,pb,oz⟩:=fV (E:=ah) (l:=t2) (q:=1) o9 rfl
    obtain⟨x6,qU,H⟩:=aG H
    obtain⟨gV,h9,pP,sg⟩:=cL (P:=Tryz.prog) (E:=aL) (l:=aZ) (q:=1) (t2:=24) (x:=.fz [ah.fz t2,.int .i64 t3] 1 true) (l2:=([(ak.mk t2 t3)])) xZ oz rfl (by kernel_rfl) rfl qU
    exact uC [.a 0 pb] [.a 3 pP] <| q0 <| ⟨(x6,i64.wrap (i0+(1:Int)),ob2),⟨gV,h9,by kernel_rfl,sg⟩,H⟩
   ·exact qx 0 <| ⟨rfl,aZ,i0,km,oi H,.int .i64 i0,.bool (decide (x2.1≤(8:Int))),dR,h2,by kernel_rfl,o3⟩
  ·exact qr [.b 3 c4,.v 7 (show bp Tryz.prog h2 4 (.ptr az 1)=some (.bool km.aK) from cg (q:=0) (cs:=[af.fz km.bO,.bool km.aK]) o3 rfl (by kernel_rfl)),.b 10 c5] <| AU <| qx 0 <| ⟨rfl,aZ,i0,km,oi H,.int .i64 i0,.bool false,dR,h2,by kernel_rfl,o3⟩
 ·exact qr [.b 3 c4] <| AU <| qx 0 <| ⟨rfl,aZ,i0,km,oi H,.int .i64 i0,.bool false,dR,h2,by kernel_rfl,o3⟩
theorem tY {aV:FuncId→b9}(ha:aV 6=Gi)(Uu:WK cf m)(Lh:Us cf m)(N8:Ui cf m)(oL:N2 cf m)(IN:R8 cf m)(b0:List Int)(h:AHeap)(L:Mem)  (o:Has h (L)){out:(List ak) × Int}(H:aO.f m b0=some out) :
  ∃r h',bg Tryz.prog aV cf m 6 [af.fz b0] h=some (r,h')∧vm h' r (.tup [aL.fz out.1,.int .i64 out.2]):=by
 refine aj (fn:=Tryz.f6) ha Tryz.func6 (by kernel_rfl) (by kernel_rfl) ?_
 refine aD (Q:=fun s=>aO.fin L out s) (fun _ _ h=>h) ?_
 have H:_=some out:=H
 unfold aO.f at H
 show dA _ cf Gi m _ ⟨af.fz b0::CT [],[none],h⟩ _
 refine q1 <| qq <| qq <| q0 <| qc H (fun c0 H=>?_) (fun c0 H=>?_)
 ·obtain rfl:=oi H
  exact q1 <| qt <| ⟨.inl rfl,oF (.tup [.nils,.int .i64 (3:Int)]) h (lI (er (ab (dV) (ab (aQ) (aA)))))⟩
 ·refine qk <| qq <| qq ?_
  rcases dX H with⟨c1,H⟩| ⟨c1,H⟩
  ·obtain rfl:=oi H
   exact qr [.b 3 c1] <| uD <| qq <| q0 <| qt <| ⟨.inl rfl,oF (.tup [.nils,.int .i64 (2:Int)]) h (lI (er (ab (dV) (ab (aQ) (aA)))))⟩
  ·obtain⟨v0,e0,H⟩:=aG H
   obtain⟨x0,e1,H⟩:=aG H
   obtain⟨v1,e2,H⟩:=aG H
   obtain⟨x1,e3,H⟩:=aG H
   refine qr [.b 3 c1,.v 8 (show eN Tryz.prog 22 (af.fz b0) none (some (.int .i64 (i64.wrap ((b0.length:Int) - (4:Int))))) none=some (af.fz v0) from uz (E:=af) tg e0),.a 9 (N8 _ _ e1 h _ (fT (ab (bB (E:=af)) (aA)))),.v 14 (show eN Tryz.prog 22 (af.fz b0) (some (.int .i64 (i64.wrap ((b0.length:Int) - (4:Int))))) none none=some (af.fz v1) from qB (E:=af) tg e2),.a 15 (Lh _ _ _ e3 h _ (fT (ab (bB (E:=af)) (ab (bB (E:=af)) (aA)))))] <| qc H (fun c3 H=>?_) (fun c3 H=>?_)
   ·obtain rfl:=oi H
    exact q1 <| qt <| ⟨.inl rfl,oF (.tup [.nils,.int .i64 (2:Int)]) h (lI (er (ab (dV) (ab (aQ) (aA)))))⟩
   ·refine qk <| qq ?_
    obtain⟨v2,e4,H⟩:=aG H
    obtain⟨az,h0,e5,o0⟩:=kL (cs:=[af.fz v2,.bool false]) o (by kernel_rfl)
    refine qr [.v 4 (show eN Tryz.prog 22 (af.fz b0) (some (.int .i64 (2:Int))) (some (.int .i64 (i64.wrap ((b0.length:Int) - (4:Int))))) none=some (af.fz v2) from KE (E:=af) tg e4),.a 6 e5] <| qq <| q0 ?_
    have o1:Has h0 (((0),.sl (([]:List ak).length) 2 (aL.l ([]:List ak)))::(az,.ob [af.fz v2,.bool false])::L):=Has.nil o0 2
    refine qq ?_
    obtain⟨x2,e6,H⟩:=aG H
    obtain⟨h1,e7,o2⟩:=oL _ _ e6 h0 _ _ ((Has.front (Has.front o1 0 rfl) 1 rfl))  [.ptr az 0] (an (rfl) (aT))
    refine qr [.a 1 e7] <| qq <| qq <| q0 <| qb 0 ?_
    obtain⟨bm,tO,H⟩:=aG H
    refine ql (aO.bu L b0 az x2  oL IN (([]:List ak),(0:Int),x2.2) _ _ ⟨(0),h1,by kernel_rfl,o2⟩ tO) ?_
    rintro e s ⟨rfl,pe,i1,De,rfl,g3,g4,fK,h10,rfl,oZ⟩
    try dsimp only at H
    refine qq <| qq ?_
    rcases dX H with⟨sd,H⟩| ⟨sd,H⟩
    ·refine qr [.v 3 (show bp Tryz.prog h10 4 (.ptr az 1)=some (.bool De.aK) from cg (q:=0) (cs:=[af.fz De.bO,.bool De.aK]) oZ rfl (by kernel_rfl)),.b 4 sd] ?_
     have kN:Has h10 ((fK,.sl pe.length 2 (aL.l pe))::L):=Has.del oZ 0
     refine uD <| qq <| q0 ?_
     have tL:Has h10 (L):=Has.del kN 0
     obtain rfl:=oi H
     exact qt <| ⟨.inl rfl,oF (.tup [.nils,.int .i64 (2:Int)]) h10 (lI (er (ab (dV) (ab (aQ) (aA)))))⟩
    ·refine qr [.v 3 (show bp Tryz.prog h10 4 (.ptr az 1)=some (.bool De.aK) from cg (q:=0) (cs:=[af.fz De.bO,.bool De.aK]) oZ rfl (by kernel_rfl)),.b 4 sd] ?_
     have qR:Has h10 ((fK,.sl pe.length 2 (aL.l pe))::L):=Has.del oZ 0
     refine qc H (fun qP H=>?_) (fun qP H=>?_)
     ·refine q1 ?_
      have kO:Has h10 (L):=Has.del qR 0
      obtain rfl:=oi H
      exact qt <| ⟨.inl rfl,oF (.tup [.nils,.int .i64 (2:Int)]) h10 (lI (er (ab (dV) (ab (aQ) (aA)))))⟩
     ·refine qk <| qq ?_
      obtain⟨h11,rF,uF⟩:=fV (E:=aL) (l:=pe) (q:=0) qR rfl
      obtain⟨x7,ye,H⟩:=aG H
      refine uC [.a 0 rF] [.a 1 (Uu _ _ ye h11 _ (cb (gP (E:=aL)) (fH)))] <| qq <| qq ?_
      rcases dX H with⟨Eg,H⟩| ⟨Eg,H⟩
      ·obtain rfl:=oi H
       exact qr [.b 2 Eg] <| uD <| qq <| q0 <| qt <| ⟨.inl rfl,oF (.tup [.nils,.int .i64 (2:Int)]) h11 (lI (er (ab (dV) (ab (aQ) (aA)))))⟩
      ·obtain⟨x8,z7,H⟩:=aG H
       refine qr [.b 2 Eg,.a 5 (Lh _ _ _ z7 h11 _ (fT (ab (bB (E:=af)) (ab (bB (E:=af)) (aA)))))] <| qc H (fun F7 H=>?_) (fun F7 H=>?_)
       ·obtain rfl:=oi H
        exact q1 <| qt <| ⟨.inl rfl,oF (.tup [.nils,.int .i64 (2:Int)]) h11 (lI (er (ab (dV) (ab (aQ) (aA)))))⟩
       ·obtain rfl:=oi H
        exact qk <| qq <| q0 <| qt <| ⟨.inl rfl,oF (.tup [aL.fz pe,.int .i64 (0:Int)]) h11 (lI (er (ab (bB) (ab (aQ) (aA)))))⟩
end
end Go.Proofs.YtmekcfdllhphlaaGreatDoor
namespace Go.Proofs.YtmekcfdllhphlaaGreatDoor
open Go Go.R
open Go.IntKind (i64 u64 u8 u32)
def dz (l:List ae):List Int:=(l.map bY).flatten
def hY (t:ak):List Int:=bX t.nodes.length++dz t.nodes
def bM (l:List ak):List Int:=(l.map hY).flatten
def cd (l:List ak):List Int:=[76,1]++(bX l.length++bM l)
structure kQ (t:ak):Prop where
 nodes:∀n∈t.nodes,nQ n
 ng:t.nodes.length<2 ^ 30
 root:t.root=0
theorem fX (n:ae)(l:List ae):dz (n::l)=bY n++dz l:=by simp [dz]
theorem gW (t:ak)(l:List ak):bM (t::l)=hY t++bM l:=by simp [bM]
theorem drop_cons {α:Type}{l:List α}{i:Nat}{a:α}{r:List α}(h:l.drop i=a::r):i<l.length∧ix l (i:Int)=some a∧l.drop (i+1)=r∧a∈l:=by
 have h1:i<l.length:=by
  have:=congrArg ack h
  simp at this
  omega
 have h2:l[i]? = some a:=by
  have:=congrArg (·[0]?) h
  simpa using this
 refine⟨h1,?_,by rw [←List.tail_drop,h]; rfl,abI h2⟩
 unfold ix
 rw [if_pos (by omega)]
 exact h2
theorem drop_nil {α:Type}{l:List α}{i:Nat}(h:l.drop i=[]):l.length≤i:=by
 have:=congrArg ack h
 simp at this
 omega
theorem IP {m:Nat}(hm:11≤m)(v:ak):∀(l:List ae) (f i:Nat) (w:List Int),l.length<f→v.nodes.drop i=l→(∀n∈l,nQ n)→w≠[]→w.length+(dz l).length+2 ^ 41≤140737488355328→i+l.length<2 ^ 40→
  ∃x,bb.l1 m v f (i:Int) w=some (x,w++dz l)
 | l,0,i,w,hf,_,_,_,_,_=>absurd hf (by omega)
 | [],f+1,i,w,hf,hd,hW,hw,hl,hi=>by
  refine⟨i,?_⟩
  have:=drop_nil hd
  unfold bb.l1
  rw [if_neg (by simp; omega)]
  simp [dz]
 | n::l,f+1,i,w,hf,hd,hW,hw,hl,hi=>by
  obtain⟨h1,h2,h3,h4⟩:=drop_cons hd
  have qO:(2:Nat) ^ 41=2199023255552:=by decide
  have mZ:(2:Nat) ^ 40=1099511627776:=by decide
  have R9:=hW n (by simp)
  have Lj:n.label.size<2 ^ 40:=by
   rcases R9.kind with⟨_,_,h,_⟩| ⟨_,_,h,_⟩| ⟨h,_⟩| ⟨h,_⟩
   ·rw [h]; decide
   ·rw [h]; decide
   ·exact (R9.label (by omega)).2
   ·exact (R9.label (by omega)).2
  rw [fX,aaI] at hl
  simp only [aaR] at hf hi
  obtain⟨x,ih⟩:=IP hm v l f (i+1) (w++bY n) (by omega) h3 (fun k hk=>hW k (by simp [hk])) (by simp [hw]) (by simp; omega) (by omega)
  refine⟨x,?_⟩
  unfold bb.l1
  rw [if_pos (by simp; omega),h2,aaA,QZ hm R9 (by omega) hw,aaA,ay (by omega) (by omega),show ((i:Int)+1)=((i+1:Nat):Int) by omega,ih,fX,aaM]
theorem IQ {m:Nat}(hm:2 ^ 30≤m)(L:List ak):∀(l:List ak) (f i:Nat) (w:List Int),l.length<f→L.drop i=l→(∀t∈l,kQ t)→w≠[]→w.length+(bM l).length+2 ^ 41≤140737488355328→i+l.length<2 ^ 40→
  ∃x,bb.l0 m L f (i:Int) w=some (x,w++bM l)
 | l,0,i,w,hf,_,_,_,_,_=>absurd hf (by omega)
 | [],f+1,i,w,hf,hd,hW,hw,hl,hi=>by
  refine⟨i,?_⟩
  have:=drop_nil hd
  unfold bb.l0
  rw [if_neg (by simp; omega)]
  simp [bM]
 | t::l,f+1,i,w,hf,hd,hW,hw,hl,hi=>by
  obtain⟨h1,h2,h3,h4⟩:=drop_cons hd
  have qO:(2:Nat) ^ 41=2199023255552:=by decide
  have mZ:(2:Nat) ^ 40=1099511627776:=by decide
  have kV:(2:Nat) ^ 30=1073741824:=by decide
  have O6:=hW t (by simp)
  have wc:=O6.ng
  rw [gW,aaI] at hl
  have he:(hY t).length=(bX t.nodes.length).length+(dz t.nodes).length:=by simp [hY]
  simp only [aaR] at hf hi
  obtain⟨x,ih⟩:=IQ hm L l f (i+1) (w++hY t) (by omega) h3 (fun k hk=>hW k (by simp [hk])) (by simp [hw]) (by simp; omega) (by omega)
  obtain⟨y,hy⟩:=IP (m:=m) (by omega) t t.nodes m 0 (w++bX t.nodes.length) (by omega) rfl O6.nodes (by simp [hw]) (by simp; omega) (by omega)
  have hy:bb.l1 m t m (0:Int) (w++bX t.nodes.length)=_:=hy
  refine⟨x,?_⟩
  unfold bb.l0
  rw [if_pos (by simp; omega),h2,aaA,dW (by omega) (by omega),Bk (by omega) (by omega) hw (by omega),aaA,hy,aaA]
  dsimp only
  rw [ay (by omega) (by omega),show ((i:Int)+1)=((i+1:Nat):Int) by omega]
  rw [show w++bX t.nodes.length++dz t.nodes=w++hY t by simp [hY]]
  rw [ih,gW,aaM]
theorem yl {m:Nat}(hm:2 ^ 30≤m){L:List ak}(hW:∀t∈L,kQ t)(hl:(bM L).length+2 ^ 42≤140737488355328)(hL:L.length<2 ^ 30):bb.f m L=(dm.f m (cd L)).bind fun c=>app 1 (cd L) c:=by
 have KU:(2:Nat) ^ 42=4398046511104:=by decide
 have qO:(2:Nat) ^ 41=2199023255552:=by decide
 have mZ:(2:Nat) ^ 40=1099511627776:=by decide
 have kV:(2:Nat) ^ 30=1073741824:=by decide
 unfold bb.f
 have h1:wB ([]:List Int) [(76:Int)]=some [76]:=by unfold wB; rw [if_pos (by simp)]; rfl
 have e0:(bX L.length).length≤10:=di (by omega)
 obtain⟨x,hx⟩:=IQ (m:=m) hm L L m 0 ([76]++[1]++bX L.length) (by omega) rfl hW (by simp) (by simp; omega) (by omega)
 have hx:bb.l0 m L m (0:Int) ([76]++[1]++bX L.length)=_:=hx
 rw [h1,aaA,nP (by simp) (by simp) (by simp),aaA,dW (by omega) (by omega),Bk (by omega) (by omega) (by simp) (by simp),aaA,hx,aaA]
 dsimp only
 rw [show [(76:Int)]++[1]++bX L.length++bM L=cd L by simp [cd]]
 have h2:vz (cd L)=some ():=by
  unfold vz
  rw [if_pos ⟨by simp [cd],by simp [cd]; omega⟩]
 rw [h2,aaA]
 congr 1
 funext c
 cases app 1 (cd L) c<;>rfl
end Go.Proofs.YtmekcfdllhphlaaGreatDoor
namespace Go.Proofs.YtmekcfdllhphlaaGreatDoor
open Go Go.R
open Go.IntKind (i64 u64 u8 u32)
theorem IS {m:Nat}(hm:11≤m)(x3:Int × eA)(rest:List Int)(hx:x3.1<2 ^ 30):∀(l:List ae) (f k:Nat) (acc:List ae),l.length<f→(k:Int)+l.length=x3.1→acc.length=k→(∀n∈l,nQ n)→
  ∃x,aO.l1 m x3 f (k:Int) acc 0 ⟨dz l++rest,false⟩=some (x,acc++l,0,⟨rest,false⟩)
 | l,0,k,acc,hf,_,_,_=>absurd hf (by omega)
 | [],f+1,k,acc,hf,hk,ha,hW=>by
  refine⟨k,?_⟩
  simp only [abg] at hk
  unfold aO.l1
  rw [if_neg (by simp; omega)]
  simp [dz]
 | n::l,f+1,k,acc,hf,hk,ha,hW=>by
  simp only [aaR] at hf hk
  have kV:(2:Int) ^ 30=1073741824:=by decide
  obtain⟨x,ih⟩:=IS hm x3 rest hx l f (k+1) (acc++[n]) (by omega) (by omega) (by simp; omega) (fun c hc=>hW c (by simp [hc]))
  refine⟨x,?_⟩
  unfold aO.l1
  have jf:app 56 acc [n]=some (acc++[n]):=by unfold app; rw [if_pos (by simp; omega)]
  rw [if_pos (by simp; omega),if_pos (show (!false)=true from rfl),fX,aaM,Q0 hm (hW n (by simp)),aaA]
  dsimp only
  rw [jf,aaA,ay (by omega) (by omega),show ((k:Int)+1)=((k+1:Nat):Int) by omega,ih]
  simp
theorem Df {m:Nat}(hm:2 ^ 30≤m)(x2:Int × eA)(rest:List Int)(hx:x2.1≤8):∀(l:List ak) (f k:Nat) (acc:List ak),l.length<f→(k:Int)+l.length=x2.1→acc.length=k→(∀t∈l,kQ t)→
  ∃x,aO.l0 m x2 f acc (k:Int) ⟨bM l++rest,false⟩=some (acc++l,x,⟨rest,false⟩)
 | l,0,k,acc,hf,_,_,_=>absurd hf (by omega)
 | [],f+1,k,acc,hf,hk,ha,hW=>by
  refine⟨k,?_⟩
  simp only [abg] at hk
  unfold aO.l0
  rw [if_neg (by simp; omega)]
  simp [bM]
 | t::l,f+1,k,acc,hf,hk,ha,hW=>by
  simp only [aaR] at hf hk
  have kV:(2:Int) ^ 30=1073741824:=by decide
  have q30:(2:Nat) ^ 30=1073741824:=by decide
  have O6:=hW t (by simp)
  have wc:=O6.ng
  obtain⟨x,ih⟩:=Df hm x2 rest hx l f (k+1) (acc++[t]) (by omega) (by omega) (by simp; omega) (fun c hc=>hW c (by simp [hc]))
  obtain⟨y,hy⟩:=IS (m:=m) (by omega) ((t.nodes.length:Int),(⟨dz t.nodes++(bM l++rest),false⟩:eA)) (bM l++rest) (by simp only; omega) t.nodes m 0 [] (by omega) (by simp) rfl O6.nodes
  have hy:aO.l1 m ((t.nodes.length:Int),(⟨dz t.nodes++(bM l++rest),false⟩:eA)) m (0:Int) [] 0 ⟨dz t.nodes++(bM l++rest),false⟩=_:=hy
  refine⟨x,?_⟩
  unfold aO.l0
  have jf:app 32 acc [t]=some (acc++[t]):=by unfold app; rw [if_pos (by simp; omega)]
  rw [if_pos (by simp; omega),if_pos (show (!false)=true from rfl),if_pos (by simp; omega),gW,hY,aaM,aaM,Bl (by omega) (by omega),aaA]
  dsimp only
  rw [hy,aaA]
  dsimp only
  rw [show ak.mk ([]++t.nodes) 0=t by rw [aa5,←O6.root],jf,aaA,ay (by omega) (by omega),show ((k:Int)+1)=((k+1:Nat):Int) by omega,ih]
  simp
end Go.Proofs.YtmekcfdllhphlaaGreatDoor
namespace Go.Proofs.YtmekcfdllhphlaaGreatDoor
open Go Go.R
open Go.IntKind (i64 u64 u8 u32)
theorem IT {m:Nat}(r:eA):∃c r',gg.f m r=some (c,r')∧r'.bO.length≤r.bO.length:=by
 obtain⟨l,bad⟩:=r
 cases l with
 | nil=>exact⟨0,⟨[],true⟩,by unfold gg.f; rw [if_pos (by simp)],aaE _⟩
 | cons c l=>exact⟨c,⟨l,bad⟩,q8,by simp⟩
theorem EJ {m:Nat}:∀(f j:Nat) (n:Int) (r:eA),j≤9→10 - j<f→∃n' s' r',bc.l0 m f n ((7*j:Nat):Int) r=some (n',s',r')∧r'.bO.length≤r.bO.length
 | 0,j,n,r,_,hf=>absurd hf (by omega)
 | f+1,j,n,r,hj,hf=>by
  unfold bc.l0
  split
  rotate_left
  ·exact⟨_,_,_,rfl,aaE _⟩
  obtain⟨c,r',h1,h2⟩:=IT (m:=m) r
  rw [h1,aaA]
  dsimp only
  split
  ·exact⟨_,_,_,rfl,h2⟩
  rename_i g
  have YL:j≤8:=by simp at g; omega
  have OO:∃v,r7 .u64 (u64.wrap (fv .u8 c 127)) ((7*j:Nat):Int)=some v:=⟨_,by unfold r7; rw [if_neg (by omega)]⟩
  obtain⟨v,hv⟩:=OO
  have IU:∃n' s' Bq,bc.l0 m f (ja .u64 n v) (i64.wrap (((7*j:Nat):Int)+7)) r'=some (n',s',Bq)∧Bq.bO.length≤r.bO.length:=by
   obtain⟨n',s',Bq,k1,k2⟩:=EJ f (j+1) (ja .u64 n v) r' (by omega) (by omega)
   refine⟨n',s',Bq,?_,abj k2 h2⟩
   rw [ay (by omega) (by omega),show (((7*j:Nat):Int)+7)=((7*(j+1):Nat):Int) by omega,k1]
  split
  ·split
   ·exact⟨_,_,_,rfl,h2⟩
   ·rw [hv,aaA]
    split
    ·exact⟨_,_,_,rfl,h2⟩
    ·exact IU
  ·rw [hv,aaA]
   split
   ·exact⟨_,_,_,rfl,h2⟩
   ·exact IU
theorem wo {m:Nat}(hm:11≤m)(r:eA):∃n r',bc.f m r=some (n,r')∧-9223372036854775808≤n∧n<9223372036854775808∧r'.bO.length≤r.bO.length:=by
 obtain⟨n',s',r',h1,h2⟩:=EJ (m:=m) m 0 0 r (by omega) (by omega)
 have h1:bc.l0 m m (0:Int) (0:Int) r=_:=h1
 refine⟨i64.wrap n',r',?_,?_,?_,h2⟩
 ·unfold bc.f
  rw [h1,aaA]
 ·rw [qH]; split<;>omega
 ·rw [qH]; split<;>omega
end Go.Proofs.YtmekcfdllhphlaaGreatDoor
namespace Go.Proofs.YtmekcfdllhphlaaGreatDoor
open Go Go.R
open Go.IntKind (i64 u64 u8 u32)
theorem IV {m:Nat}(hm:11≤m)(r:eA)(h0:r.bO.length≤200000):(∃n r',bc.f m r=some (n,r')∧0≤n)→∃s r',hX.f m r=some (s,r')∧r'.bO.length≤r.bO.length:=by
 rintro⟨n,r',h1,hn⟩
 obtain⟨n2,r2,h2,_,_,h3⟩:=wo hm r
 rw [h1] at h2
 cases h2
 unfold hX.f
 rw [h1,aaA]
 dsimp only
 split
 ·exact⟨_,_,rfl,h3⟩
 split
 ·exact⟨_,_,rfl,h3⟩
 rename_i g1 g2
 simp at g2
 have a1:kU r'.bO 0 n=some (r'.bO.take n.toNat):=by unfold kU; rw [if_pos ⟨ab9 _,hn,by omega⟩]; simp
 have a2:kU r'.bO n (r'.bO.length:Int)=some (r'.bO.drop n.toNat):=by
  unfold kU; rw [if_pos ⟨hn,by omega,ab9 _⟩,aa4 (by simp)]
 rw [a1,aaA,a2,aaA]
 exact⟨_,_,rfl,by simp; omega⟩
end Go.Proofs.YtmekcfdllhphlaaGreatDoor
namespace Go.Proofs.YtmekcfdllhphlaaGreatDoor
open Go Go.R
open Go.IntKind (i64 u64 u8 u32)
theorem IW {m:Nat}{b:List Int}{l:List ak}(H:aO.f m b=some (l,0)) :
  ∃v2 x2 i1 ob p,kU b 2 (i64.wrap ((b.length:Int) - 4))=some v2∧bc.f m ⟨v2,false⟩=some x2∧aO.l0 m x2 m [] 0 x2.2=some (l,i1,ob)∧ob.aK=false∧
   (l.length:Int)=x2.1∧bz.f m l=some (p,0)∧dt.f m p b=some true:=by
 unfold aO.f at H
 split at H
 ·simp at H
 split at H
 ·simp at H
 simp only [aaB] at H
 obtain⟨v0,h0,x0,h1,v1,h2,x1,h3,H⟩:=H
 split at H
 ·simp at H
 simp only [aaB] at H
 obtain⟨v2,h4,x2,h5,⟨l',i1,ob⟩,h6,H⟩:=H
 dsimp only at H
 split at H
 ·simp at H
 split at H
 ·simp at H
 rename_i g1 g2
 simp only [aaB] at H
 obtain⟨⟨p,e⟩,h7,H⟩:=H
 split at H
 ·simp at H
 rename_i g3
 simp only [aaB] at H
 obtain⟨x8,h8,H⟩:=H
 split at H
 ·simp at H
 rename_i g4
 simp only [aaD,aaJ] at H
 obtain⟨rfl,_⟩:=H
 have ge:e=0:=by simpa using g3
 subst ge
 have gx:x8=true:=by simpa using g4
 subst gx
 exact⟨v2,x2,i1,ob,p,h4,h5,h6,by simpa using g1,by simpa using g2,h7,h8⟩
theorem IX {m:Nat}(L:List ak):∀(f:Nat) (acc:List ak) (i:Nat) (out),i≤L.length→i<2 ^ 40→L.length<2 ^ 40→bz.l0 m L f acc (i:Int)=some out→
  out = .inl ([],2)∨∃ls x,out = .inr (acc++ls,x)∧ls.length=(L.drop i).length∧∀(j:Nat) (t s:ak),(L.drop i)[j]? = some t→ls[j]? = some s→dr.f m t=some (s,0)
 | 0,acc,i,out,_,_,_,H=>by simp [bz.l0] at H
 | f+1,acc,i,out,hi,Cb,hl,H=>by
  have mZ:(2:Nat) ^ 40=1099511627776:=by decide
  unfold bz.l0 at H
  split at H
  ·rename_i g
   simp only [decide_eq_true_eq] at g
   simp only [aaB] at H
   obtain⟨v0,h0,⟨s0,e⟩,h1,H⟩:=H
   split at H
   ·left
    simpa using H.symm
   ·rename_i g2
    have ge:e=0:=by simpa using g2
    subst ge
    simp only [aaB] at H
    obtain⟨x2,h2,H⟩:=H
    obtain⟨_,_,rfl⟩:=j4 h2
    rw [ay (by omega) (by omega),show ((i:Int)+1)=((i+1:Nat):Int) by omega] at H
    obtain⟨_,_,h3⟩:=hH h0
    rw [aaH] at h3
    have hd:L.drop i=v0::L.drop (i+1):=by
     obtain⟨h4,h5⟩:=aaK.1 h3
     rw [←h5]; exact aaP h4
    rcases IX L f _ (i+1) out (by omega) (by omega) hl H with h | ⟨ls,x,rfl,h6,h7⟩
    ·exact .inl h
    ·refine .inr ⟨s0::ls,x,by simp,by rw [hd]; simp [h6],fun j t s hj hs=>?_⟩
     rw [hd] at hj
     cases j with
     | zero=>simp at hj hs; subst hj hs; exact h1
     | succ j=>exact h7 j t s (by simpa using hj) (by simpa using hs)
  ·rename_i g
   simp only [decide_eq_true_eq] at g
   refine .inr ⟨[],i,by simpa using H.symm,?_,fun j t s hj hs=>by simp at hs⟩
   simp; omega
theorem wq {m:Nat}{l:List ak}{p:List Int}(H:bz.f m l=some (p,0)) :
  ∃ls,l.length≤8∧ls.length=l.length∧(∀(j:Nat) (t s:ak),l[j]? = some t→ls[j]? = some s→dr.f m t=some (s,0))∧bb.f m ls=some p∧gE.f m ls (fun y0=>dM.f m y0)=some false:=by
 unfold bz.f at H
 split at H
 ·simp at H
 rename_i g0
 simp only [aaB] at H
 obtain⟨out,h1,H⟩:=H
 have Uv:l.length≤8:=by simp at g0; omega
 rcases IX l m [] 0 out (by omega) (by omega) (by omega) h1 with rfl | ⟨ls,x,rfl,h5,h6⟩
 ·simp at H
 ·dsimp only at H
  rw [aa5] at H
  simp only [aaB] at H
  obtain⟨x4,h2,H⟩:=H
  split at H
  ·simp at H
  rename_i g4
  have g4:x4=false:=by simpa using g4
  subst g4
  simp only [aaB] at H
  obtain⟨x5,h3,H⟩:=H
  split at H
  ·simp at H
  simp only [aaD,aaJ] at H
  obtain⟨rfl,_⟩:=H
  exact⟨ls,Uv,h5,h6,h3,h2⟩
end Go.Proofs.YtmekcfdllhphlaaGreatDoor
namespace Go.Proofs.YtmekcfdllhphlaaGreatDoor
open Go Go.R
open Go.IntKind (i64 u64 u8 u32)
def Bytes (l:List Int):Prop:=∀x∈l,0≤x∧x<256
theorem Bytes.append {a b:List Int}(ha:Bytes a)(hb:Bytes b):Bytes (a++b):=fun x hx=>(aaQ.1 hx).elim (ha x) (hb x)
theorem iz:∀(k n:Nat),n≤k→Bytes (bX n)
 | k,n,h=>by
  by_cases h1:n<128
  ·rw [iq h1]; intro x hx; simp at hx; omega
  ·cases k with
   | zero=>omega
   | succ k=>
    rw [ka h1]
    intro x hx
    rcases abb.1 hx with rfl | hx
    ·omega
    ·exact iz k (n / 128) (by omega) x hx
theorem Gj (s:ByteArray):Bytes (cV s):=by
 intro x hx
 simp only [cV,aba] at hx
 obtain⟨b,_,rfl⟩:=hx
 have:=b.toNat_lt
 omega
theorem Dg {n:ae}(W:nQ n):Bytes (bY n):=by
 have hk:0≤n.kind∧n.kind≤3:=by rcases W.kind with h | h | h | h<;>(have:=h.1; omega)
 have hs:Bytes (encS n.label):=(iz _ _ (aaE _)).append (Gj _)
 unfold bY
 intro x hx
 rcases abb.1 hx with rfl | hx
 ·omega
 split at hx
 ·exact iz _ _ (aaE _) x hx
 split at hx
 ·exact iz _ _ (aaE _) x hx
 split at hx
 ·exact hs x hx
 ·refine ((hs.append (iz _ _ (aaE _))).append ?_) x hx
  intro y hy
  simp only [List.mem_flatten,aba] at hy
  obtain⟨l,⟨a,_,rfl⟩,hy⟩:=hy
  exact iz _ _ (aaE _) y hy
theorem wu {l:List ak}(W:∀t∈l,kQ t):Bytes (cd l):=by
 refine Bytes.append (fun x hx=>by simp at hx; omega) ((iz _ _ (aaE _)).append ?_)
 intro y hy
 simp only [bM,List.mem_flatten,aba] at hy
 obtain⟨k,⟨t,ht,rfl⟩,hy⟩:=hy
 refine ((iz _ _ (aaE _)).append ?_) y hy
 intro z hz
 simp only [dz,List.mem_flatten,aba] at hz
 obtain⟨k,⟨n,hn,rfl⟩,hz⟩:=hz
 exact Dg ((W t ht).nodes n hn) z hz
theorem mL {m:Nat}{b c:List Int}(H:dm.f m b=some c):Bytes c∧c.length=4:=by
 unfold dm.f at H
 simp only [aaB,aaD] at H
 obtain⟨x,_,rfl⟩:=H
 refine⟨fun y hy=>?_,rfl⟩
 simp only [abb,List.not_mem_nil,or_false] at hy
 rcases hy with rfl | rfl | rfl | rfl<;>(rw [hU]; omega)
theorem bytes_inj {a b:List Int}(ha:Bytes a)(hb:Bytes b)(h:bQ a=bQ b):a=b:=by
 have h:(a.map fun n=>acp n.toNat)=b.map fun n=>acp n.toNat:=by
  have:=congrArg (fun s:ByteArray=>s.data.toList) h
  simpa [bQ] using this
 have hl:a.length=b.length:=by simpa using congrArg ack h
 apply List.ext_getElem hl
 intro i h1 h2
 have:=congrArg (·[i]?) h
 simp only [abi,aaL h1,aaL h2,aaG,aaD] at this
 have g1:=ha _ (abe h1)
 have g2:=hb _ (abe h2)
 have:=congrArg UInt8.toNat this
 simp only [UInt8.toNat_ofNat'] at this
 omega
theorem wv {m:Nat}{a b:List Int}(ha:Bytes a)(hb:Bytes b)(H:dt.f m a b=some true):a=b:=by
 unfold dt.f at H
 simp only [aaD,beq_iff_eq] at H
 refine bytes_inj ha hb ?_
 have:(bQ a).data=(bQ b).data:=Array.toList_inj.1 H
 cases h1:bQ a; cases h2:bQ b
 rw [h1,h2] at this
 cases this
 rfl
theorem Gk {m:Nat}(hm:2 ^ 30≤m){b:List Int}(hb:Bytes b)(Ml:b.length≤200000){l ls:List ak}{p v2:List Int}{x2:Int × eA}{i1:Int}{ob:eA}
  (h1:kU b 2 (i64.wrap ((b.length:Int) - 4))=some v2) (h2:bc.f m ⟨v2,false⟩=some x2) (h3:aO.l0 m x2 m [] 0 x2.2=some (l,i1,ob))
  (h4:dt.f m p b=some true) (h5:bb.f m ls=some p) (h6:ls.length≤8) (W:∀t∈ls,kQ t) (hlen:(bM ls).length+2 ^ 42≤140737488355328):l=ls∧p=b:=by
 have kV:(2:Nat) ^ 30=1073741824:=by decide
 rw [yl hm W hlen (by omega)] at h5
 simp only [aaB] at h5
 obtain⟨c,hc,h5⟩:=h5
 obtain⟨_,_,rfl⟩:=j4 h5
 obtain⟨c1,c2⟩:=mL hc
 have he:=wv ((wu W).append c1) hb h4
 refine⟨?_,he⟩
 have WL:b=[76,1]++((bX ls.length++bM ls)++c):=by rw [←he]; simp [cd]
 have RU:b.length=6+(bX ls.length++bM ls).length:=by rw [WL]; simp [c2]; omega
 have hv:v2=bX ls.length++bM ls:=by
  rw [ay (by omega) (by omega)] at h1
  obtain⟨_,_,_,rfl⟩:=lW h1
  rw [show ((b.length:Int) - 4).toNat - (2:Int).toNat=(bX ls.length++bM ls).length by omega,WL]
  have:([76,1]++((bX ls.length++bM ls)++c)).drop (2:Int).toNat=(bX ls.length++bM ls)++c:=rfl
  rw [this,List.take_left]
 subst hv
 rw [Bl (by omega) (by omega)] at h2
 cases h2
 obtain⟨x,hx⟩:=Df hm ((ls.length:Int),(⟨bM ls,false⟩:eA)) [] (by simp; omega) ls m 0 [] (by omega) (by simp) rfl W
 rw [abu] at hx
 have hx:aO.l0 m ((ls.length:Int),(⟨bM ls,false⟩:eA)) m [] 0 ⟨bM ls,false⟩=_:=hx
 dsimp only at h3
 rw [hx] at h3
 simp at h3
 exact h3.1.symm
end Go.Proofs.YtmekcfdllhphlaaGreatDoor
namespace Go.Proofs.YtmekcfdllhphlaaGreatDoor
open Go Go.R
open Go.IntKind (i64 u64 u8 u32)
theorem Gl {m:Nat}(r:eA)(hb:Bytes r.bO):∃(c:Nat) (r':eA),gg.f m r=some ((c:Int),r')∧c<256∧Bytes r'.bO:=by
 obtain⟨l,bad⟩:=r
 cases l with
 | nil=>exact⟨0,⟨[],true⟩,by unfold gg.f; rw [if_pos (by simp)]; rfl,by omega,hb⟩
 | cons c l=>
  have:=hb c (by simp)
  refine⟨c.toNat,⟨l,bad⟩,?_,by omega,fun x hx=>hb x (by simp [hx])⟩
  rw [show ((c.toNat:Nat):Int)=c by omega]
  exact q8
theorem Br {m:Nat}:∀(f j a:Nat) (r:eA),j≤9→10 - j<f→a<2 ^ (7*j)→Bytes r.bO→∃(a':Nat) (s':Int) (r':eA),bc.l0 m f (a:Int) ((7*j:Nat):Int) r=some ((a':Int),s',r')∧a'<2 ^ 63∧Bytes r'.bO
 | 0,j,a,r,_,hf,_,_=>absurd hf (by omega)
 | f+1,j,a,r,hj,hf,ha,hb=>by
  have hp:2 ^ (7*(j+1))=128*2 ^ (7*j):=by rw [show 7*(j+1)=7+7*j by omega,Nat.pow_add]
  have hp2:2 ^ (7*j)≤2 ^ 63:=Nat.pow_le_pow_right (by omega) (by omega)
  unfold bc.l0
  split
  rotate_left
  ·exact⟨_,_,_,rfl,by omega,hb⟩
  obtain⟨c,r',h1,h2,h3⟩:=Gl (m:=m) r hb
  rw [h1,aaA]
  dsimp only
  split
  ·exact⟨_,_,_,rfl,by omega,h3⟩
  rename_i g
  have YL:j≤8:=by simp at g; omega
  have hp3:2 ^ (7*(j+1))≤2 ^ 63:=Nat.pow_le_pow_right (by omega) (by omega)
  have hc:c % 128*2 ^ (7*j)≤127*2 ^ (7*j):=abq _ (by omega)
  obtain⟨g1,g2⟩:=CV a (c % 128) (7*j) ha (by omega) (by omega) (Nat.mod_lt _ (by omega))
  rw [CU c h2]
  have IU:∃(a':Nat) (s':Int) (Bq:eA),bc.l0 m f ((a+c % 128*2 ^ (7*j):Nat):Int) (i64.wrap (((7*j:Nat):Int)+7)) r'=some ((a':Int),s',Bq)∧a'<2 ^ 63∧Bytes Bq.bO:=by
   rw [ay (by omega) (by omega),show (((7*j:Nat):Int)+7)=((7*(j+1):Nat):Int) by omega]
   exact Br f (j+1) _ r' (by omega) (by omega) (by omega) h3
  split
  ·split
   ·exact⟨_,_,_,rfl,by omega,h3⟩
   ·rw [g1,aaA,g2]
    split
    ·exact⟨_,_,_,rfl,by omega,h3⟩
    ·exact IU
  ·rw [g1,aaA,g2]
   split
   ·exact⟨_,_,_,rfl,by omega,h3⟩
   ·exact IU
theorem nR {m:Nat}(hm:11≤m)(r:eA)(hb:Bytes r.bO):∃(n:Nat) (r':eA),bc.f m r=some ((n:Int),r')∧n<2 ^ 63∧Bytes r'.bO:=by
 obtain⟨n',s',r',h1,h2,h3⟩:=Br (m:=m) m 0 0 r (by omega) (by omega) (by omega) hb
 have h1:bc.l0 m m (0:Int) (0:Int) r=_:=h1
 refine⟨n',r',?_,h2,h3⟩
 unfold bc.f
 rw [h1,aaA]
 dsimp only
 rw [ay (by omega) (by omega)]
end Go.Proofs.YtmekcfdllhphlaaGreatDoor
namespace Go.Proofs.YtmekcfdllhphlaaGreatDoor
open Go Go.R
open Go.IntKind (i64 u64 u8 u32)
theorem Gm {m:Nat}(hm:11≤m)(r:eA)(hb:Bytes r.bO):∃s r',hX.f m r=some (s,r')∧Bytes r'.bO:=by
 obtain⟨n,r',h1,h2,h3⟩:=nR hm r hb
 unfold hX.f
 rw [h1,aaA]
 dsimp only
 split
 ·exact⟨_,_,rfl,h3⟩
 split
 ·exact⟨_,_,rfl,h3⟩
 rename_i g1 g2
 simp at g2
 have a1:kU r'.bO 0 (n:Int)=some (r'.bO.take n):=by unfold kU; rw [if_pos ⟨ab9 _,by omega,by omega⟩]; simp
 have a2:kU r'.bO (n:Int) (r'.bO.length:Int)=some (r'.bO.drop n):=by
  unfold kU; rw [if_pos ⟨by omega,by omega,ab9 _⟩,aa4 (by simp)]; simp
 rw [a1,aaA,a2,aaA]
 exact⟨_,_,rfl,fun x hx=>h3 x (List.mem_of_mem_drop hx)⟩
end Go.Proofs.YtmekcfdllhphlaaGreatDoor
namespace Go.Proofs.YtmekcfdllhphlaaGreatDoor
open Go Go.R
open Go.IntKind (i64 u64 u8 u32)
end Go.Proofs.YtmekcfdllhphlaaGreatDoor
namespace Go.Proofs.YtmekcfdllhphlaaGreatDoor
open Go Go.R
open Go.IntKind (i64 u64 u8 u32)
theorem ji {m:Nat}(hm:11≤m)(r:eA)(hb:Bytes r.bO):∃(n:Nat) (r':eA),bc.f m r=some ((n:Int),r')∧n<2 ^ 63∧Bytes r'.bO∧r'.bO.length≤r.bO.length:=by
 obtain⟨n,r',h1,h2,h3⟩:=nR hm r hb
 obtain⟨n2,r2,k1,_,_,k2⟩:=wo hm r
 rw [h1] at k1
 cases k1
 exact⟨n,r',h1,h2,h3,k2⟩
theorem Gn {m:Nat}(hm:11≤m)(r:eA)(hb:Bytes r.bO)(hl:r.bO.length≤200000):∃s r',hX.f m r=some (s,r')∧Bytes r'.bO∧r'.bO.length≤r.bO.length:=by
 obtain⟨s,r',h1,h2⟩:=Gm hm r hb
 obtain⟨n,rn,g1,g2,_⟩:=nR hm r hb
 obtain⟨s2,r2,k1,k2⟩:=IV hm r hl ⟨n,rn,g1,by omega⟩
 rw [h1] at k1
 cases k1
 exact⟨s,r',h1,h2,k2⟩
theorem ym {m:Nat}(hm:11≤m)(x5:Int × eA)(k0:Int)(lb:ByteArray):∀(f i:Nat) (acc:List Int) (r:eA),8 - i<f→i≤8→acc.length≤i→Bytes r.bO→
  ∃x wx r',cK.l1 m x5 f (i:Int) k0 0 lb acc r=some (x,k0,0,lb,wx,r')∧Bytes r'.bO∧r'.bO.length≤r.bO.length
 | 0,i,acc,r,hf,_,_,_=>absurd hf (by omega)
 | f+1,i,acc,r,hf,hi,ha,hb=>by
  unfold cK.l1
  split
  rotate_left
  ·exact⟨_,_,_,rfl,hb,aaE _⟩
  rename_i g
  have YM:i<8:=by
   unfold mn at g
   simp only [decide_eq_true_eq] at g
   split at g<;>omega
  obtain⟨n,r',h1,h2,h3,h4⟩:=ji hm r hb
  have jf:app 8 acc [(n:Int)]=some (acc++[(n:Int)]):=by unfold app; rw [if_pos (by simp; omega)]
  rw [h1,aaA]
  dsimp only
  rw [jf,aaA,ay (by omega) (by omega),show ((i:Int)+1)=((i+1:Nat):Int) by omega]
  obtain⟨x,wx,Bq,k1,k2,k3⟩:=ym hm x5 k0 lb f (i+1) (acc++[(n:Int)]) r' (by omega) (by omega) (by simp; omega) h3
  exact⟨x,wx,Bq,k1,k2,abj k3 h4⟩
theorem wy {m:Nat}(hm:11≤m)(x5:Int × eA)(k0:Int)(lb:ByteArray):∀(f i:Nat) (acc:List Int) (r:eA),8 - i<f→i≤8→acc.length≤i→Bytes r.bO→
  ∃x wx r',cK.l0 m x5 f (i:Int) k0 0 lb acc r=some (x,k0,0,lb,wx,r')∧Bytes r'.bO∧r'.bO.length≤r.bO.length
 | 0,i,acc,r,hf,_,_,_=>absurd hf (by omega)
 | f+1,i,acc,r,hf,hi,ha,hb=>by
  unfold cK.l0
  split
  rotate_left
  ·exact⟨_,_,_,rfl,hb,aaE _⟩
  rename_i g
  have YM:i<8:=by
   unfold mn at g
   simp only [decide_eq_true_eq] at g
   split at g<;>omega
  obtain⟨n,r',h1,h2,h3,h4⟩:=ji hm r hb
  have jf:app 8 acc [(n:Int)]=some (acc++[(n:Int)]):=by unfold app; rw [if_pos (by simp; omega)]
  rw [h1,aaA]
  dsimp only
  rw [jf,aaA,ay (by omega) (by omega),show ((i:Int)+1)=((i+1:Nat):Int) by omega]
  obtain⟨x,wx,Bq,k1,k2,k3⟩:=wy hm x5 k0 lb f (i+1) (acc++[(n:Int)]) r' (by omega) (by omega) (by simp; omega) h3
  exact⟨x,wx,Bq,k1,k2,abj k3 h4⟩
theorem Gp {m:Nat}(hm:11≤m)(r:eA)(hb:Bytes r.bO)(hl:r.bO.length≤200000):∃n r',cK.f m r=some (n,r')∧Bytes r'.bO∧(r.bO=[]→r'.aK=true∧r'.bO=[])∧(r.bO≠[]→r'.bO.length<r.bO.length)∧(n.kind=0→n.int<2 ^ 63):=by
 unfold cK.f
 obtain⟨bs,bad⟩:=r
 cases bs with
 | nil=>
  obtain⟨k,rfl⟩:∃k,m=k+1:=⟨m - 1,by omega⟩
  have h1:gg.f (k+1) ⟨[],bad⟩=some (0,⟨[],true⟩):=by unfold gg.f; rw [if_pos (by simp)]
  have h2:bc.f (k+1) ⟨[],true⟩=some (0,⟨[],true⟩):=by
   unfold bc.f bc.l0
   rw [if_neg (by simp)]; rfl
  have e0:i64.wrap 0=0:=by decide
  rw [h1,aaA]
  dsimp only
  rw [e0,if_pos (by simp),h2]
  exact⟨_,_,rfl,hb,fun _=>⟨rfl,rfl⟩,fun h=>absurd rfl h,fun _=>by dsimp only; decide⟩
 | cons c l=>
  have hb1:Bytes l:=fun x hx=>hb x (by simp [hx])
  have h1:gg.f m ⟨c::l,bad⟩=some (c,⟨l,bad⟩):=q8
  have hc:=hb c (by simp)
  have hll:l.length≤200000:=by simp at hl; omega
  obtain⟨n,r2,h2,hn,hb2,l2⟩:=ji hm ⟨l,bad⟩ hb1
  obtain⟨s,r3,h3,WM,l3⟩:=Gn hm ⟨l,bad⟩ hb1 hll
  obtain⟨k,r4,h4,_,WN,l4⟩:=ji hm r3 WM
  dsimp only at l2 l3
  have fin:∀(n:ae) (r':eA),Bytes r'.bO→r'.bO.length≤l.length→(n.kind=0→n.int<2 ^ 63)→∃n' Bq,(some (n,r'):Option (ae × eA))=some (n',Bq)∧Bytes Bq.bO∧(c::l=[]→Bq.aK=true∧Bq.bO=[])∧(c::l≠[]→Bq.bO.length<(c::l).length)∧(n'.kind=0→n'.int<2 ^ 63):=
   fun n r' a1 a2 a3=>⟨n,r',rfl,a1,fun h=>(List.cons_ne_nil _ _ h).elim,fun _=>by simp; omega,a3⟩
  rw [h1,aaA]
  dsimp only
  rw [h2,h3]
  simp only [aaA]
  rw [h4]
  simp only [aaA]
  rw [ay (by omega) (by omega)]
  split
  ·exact fin _ _ hb2 l2 fun _=>by dsimp only; omega
  rename_i g0
  have g0:c≠0:=by simpa using g0
  split
  ·split
   ·exact fin _ _ hb2 l2 fun h=>absurd h g0
   ·exact fin _ _ hb2 l2 fun h=>absurd h g0
  split
  ·exact fin _ _ WM l3 fun h=>absurd h g0
  split
  ·split
   ·obtain⟨x,acc,r5,h5,Uw,l5⟩:=wy hm ((k:Int),r4) c s m 0 [] ⟨r4.bO,true⟩ (by omega) (by omega) (by simp) WN
    have h5:cK.l0 m ((k:Int),r4) m (0:Int) c 0 s [] ⟨r4.bO,true⟩=_:=h5
    rw [h5,aaA]
    exact fin _ r5 Uw (by dsimp only at l5; omega) fun h=>absurd h g0
   ·obtain⟨x,acc,r5,h5,Uw,l5⟩:=ym hm ((k:Int),r4) c s m 0 [] r4 (by omega) (by omega) (by simp) WN
    have h5:cK.l1 m ((k:Int),r4) m (0:Int) c 0 s [] r4=_:=h5
    rw [h5,aaA]
    exact fin _ r5 Uw (by omega) fun h=>absurd h g0
  ·exact fin _ _ hb1 (aaE _) fun h=>absurd h g0
end Go.Proofs.YtmekcfdllhphlaaGreatDoor
namespace Go.Proofs.YtmekcfdllhphlaaGreatDoor
open Go Go.R
open Go.IntKind (i64 u64 u8 u32)
def yn:b9:=gm [0,1,2,3,4,5,6,7,8,22,27,67,72,85] [2,3,6,7] [16371,15859,16367,16339,15315,16339,16147,14099,16367,15891,11795,15891,7699,16367,16367] [] []
def aR.l1 (m:Nat)(v0:ae)(v1:ae):Nat→Int→Option (Sum Bool (Int))
 | 0,_=>none
 | k+1,k0=>if (decide (k0<(v0.args.length:Int)))=true then ((ix v0.args k0).bind fun v2=>(ix v1.args k0).bind fun v3=>if (!(v2==v3))=true then (some (.inl false)) else (aR.l1 m v0 v1 k (i64.wrap (k0+(1:Int))))) else (some (.inr k0))
def aR.l0 (m:Nat)(a0:ak)(b0:ak):Nat→Int→Option (Sum Bool (Int))
 | 0,_=>none
 | k+1,i0=>if (decide (i0<(a0.nodes.length:Int)))=true then ((ix a0.nodes i0).bind fun v0=>(ix b0.nodes i0).bind fun v1=>if (!(v0.kind==v1.kind))=true then (some (.inl false)) else (if (!(v0.int==v1.int))=true then (some (.inl false)) else (if (!(v0.label.data.toList==v1.label.data.toList))=true then (some (.inl false)) else (if (!((v0.args.length:Int)==(v1.args.length:Int)))=true then (some (.inl false)) else ((aR.l1 m v0 v1 m (0:Int)).bind fun aF=>match aF with | .inl r0=>some (.inl r0) | .inr k1=>aR.l0 m a0 b0 k (i64.wrap (i0+(1:Int)))))))) else (some (.inr i0))
def aR.f (m:Nat)(a0:ak)(b0:ak):Option (Bool):=if (!((a0.nodes.length:Int)==(b0.nodes.length:Int)))=true then (some false) else (if (!(a0.root==b0.root))=true then (some false) else ((aR.l0 m a0 b0 m (0:Int)).bind fun bm=>match bm with | .inl r1=>some r1 | .inr i1=>some true))
def aR.fin (L:Mem)(r:Bool)(s:St):Prop:=∃av,aH Tryz.prog (s.open yn) Tryz.f22.results.toList=some av∧gf s.h av (.bool r)
def Q1 (cf:CallF)(m:Nat):Prop:=∀(a0:ak) (b0:ak) (r:Bool),aR.f m a0 b0=some r→∀h xs,eR fh h xs [.agg [ah.fz a0.nodes,.int .i64 a0.root],.agg [ah.fz b0.nodes,.int .i64 b0.root]]→cf 22 xs h=some (.bool r,h)
section
variable {cf:CallF}{m:Nat}
theorem aR.eO (L:Mem)(a0:ak)(b0:ak)(i0:Int)(v0:ae)(v1:ae)   : bC Tryz.prog cf yn m (sub [1,1,0,1,0,0,1,0,0,1,1,1,0,0] (codeOf Tryz.f22)) (fun k (σ:Int)=>aR.l1 m v0 v1 k σ) (fun σ s=>match σ with | k0=>∃h1,s=⟨.any :: .any :: .lp 2 0 :: .lp 3 0 :: .any :: .int .i64 i0 :: .lp 6 0 :: .lp 7 0 :: .int .i64 k0::qF [],[some [ah.fz a0.nodes,.int .i64 a0.root],some [ah.fz b0.nodes,.int .i64 b0.root],some [.int .i64 v0.kind,.int .i64 v0.int,.str v0.label,aa.fz v0.args],some [.int .i64 v1.kind,.int .i64 v1.int,.str v1.label,aa.fz v1.args]],h1⟩∧Has h1 (L)) (fun out e s=>(e = .exit 2∧∃k0,.inr k0=out∧∃C8 se pG Oa YN YO h1,s=⟨.any :: .any :: .lp 2 0 :: .lp 3 0 :: .any :: .int .i64 i0::C8::se::pG::jE [Oa,.any],[some [ah.fz a0.nodes,.int .i64 a0.root],some [ah.fz b0.nodes,.int .i64 b0.root],YN,YO],h1⟩∧Has h1 (L))∨(e = .ret∧∃r,.inl r=out∧aR.fin L r s)):=by
 refine gk (fun _=>rfl) ?_
 rintro k k0 s out ⟨h1,rfl,o1⟩ H
 have H:aR.l1 m v0 v1 (k+1) k0=some out:=H
 refine qq <| qq <| q0 <| qc H (fun nH H=>?_) (fun nH H=>?_)
 ·refine qk <| qq <| qb 3 <| qq ?_
  obtain⟨v2,e2,H⟩:=aG H
  obtain⟨v3,e3,H⟩:=aG H
  refine qr [.v 3 (bN (k:=.i64) (E:=aa) (l:=v0.args) dK e2),.v 4 (dd  (E:=aa) (l:=v0.args) h1 A3 e2 rfl),.v 8 (bN (k:=.i64) (E:=aa) (l:=v1.args) dK e3),.v 9 (dd  (E:=aa) (l:=v1.args) h1 A3 e3 rfl)] <| qc H (fun sd H=>?_) (fun sd H=>?_)
  ·exact q1 <| qt <| abD (⟨rfl,_,oi H,cp (.bool false) h1 (cn (au))⟩)
  ·exact qk <| q0 <| ⟨i64.wrap (k0+(1:Int)),⟨h1,by kernel_rfl,o1⟩,H⟩
 ·exact qx 2 <| abM (⟨rfl,k0,oi H,.lp 6 0,.lp 7 0,.int .i64 k0,.bool (decide (k0<(v0.args.length:Int))),some [.int .i64 v0.kind,.int .i64 v0.int,.str v0.label,aa.fz v0.args],some [.int .i64 v1.kind,.int .i64 v1.int,.str v1.label,aa.fz v1.args],h1,by kernel_rfl,o1⟩)
theorem aR.bu (L:Mem)(a0:ak)(b0:ak)   : bC Tryz.prog cf yn m (sub [1,1,0,1,0,0] (codeOf Tryz.f22)) (fun k (σ:Int)=>aR.l0 m a0 b0 k σ) (fun σ s=>match σ with | i0=>∃h0,s=⟨.any :: .any :: .lp 2 0 :: .lp 3 0 :: .any :: .int .i64 i0::r9 [],[some [ah.fz a0.nodes,.int .i64 a0.root],some [ah.fz b0.nodes,.int .i64 b0.root],none,none],h0⟩∧Has h0 (L)) (fun out e s=>(e = .exit 0∧∃i0,.inr i0=out∧∃F5 tG oK zJ Q2 Ux h0,s=⟨.any :: .any::F5::tG :: .any::oK::mT (zJ::jE []),[Q2,Ux,none,none],h0⟩∧Has h0 (L))∨(e = .ret∧∃r,.inl r=out∧aR.fin L r s)):=by
 refine gk (fun _=>rfl) ?_
 rintro k i0 s out ⟨h0,rfl,o0⟩ H
 have H:aR.l0 m a0 b0 (k+1) i0=some out:=H
 refine qq <| qq <| q0 <| qc H (fun c3 H=>?_) (fun c3 H=>?_)
 ·refine qk <| qq <| qb 1 <| qq ?_
  obtain⟨v0,e0,H⟩:=aG H
  obtain⟨v1,e1,H⟩:=aG H
  refine qr [.v 3 (bN (k:=.i64) (E:=ah) (l:=a0.nodes) mj e0),.v 4 (dI  (E:=ah) (l:=a0.nodes) h0 th ti e0),.v 8 (bN (k:=.i64) (E:=ah) (l:=b0.nodes) mj e1),.v 9 (dI  (E:=ah) (l:=b0.nodes) h0 th ti e1)] <| qq <| qq ?_
  rcases dX H with⟨c4,H⟩| ⟨c4,H⟩
  ·exact qr [.b 5 c4] <| uD <| qq <| q0 <| qt <| abD (⟨rfl,_,oi H,cp (.bool false) h0 (cn (au))⟩)
  ·rcases dX H with⟨c6,H⟩| ⟨c6,H⟩
   ·exact qr [.b 5 c4,.b 12 c6] <| uD <| qq <| q0 <| qt <| abD (⟨rfl,_,oi H,cp (.bool false) h0 (cn (au))⟩)
   ·rcases dX H with⟨c8,H⟩| ⟨c8,H⟩
    ·exact qr [.b 5 c4,.b 12 c6,.b 19 c8] <| uD <| qq <| q0 <| qt <| abD (⟨rfl,_,oi H,cp (.bool false) h0 (cn (au))⟩)
    ·refine qr [.b 5 c4,.b 12 c6,.b 19 c8] <| qc H (fun vJ H=>?_) (fun vJ H=>?_)
     ·exact q1 <| qt <| abD (⟨rfl,_,oi H,cp (.bool false) h0 (cn (au))⟩)
     ·refine qk <| qq <| q0 <| qb 2 ?_
      obtain⟨aF,e4,H⟩:=aG H
      refine ql (aR.eO L a0 b0 i0 v0 v1   (0:Int) _ _ ⟨h0,by kernel_rfl,o0⟩ e4) ?_
      rintro e s (⟨rfl,k1,rfl,g0,g1,g2,g3,g4,g5,h2,rfl,o2⟩| ⟨rfl,r0,rfl,l8⟩)
      ·try dsimp only at H
       exact q0 <| ⟨i64.wrap (i0+(1:Int)),⟨h2,by kernel_rfl,o2⟩,H⟩
      ·try dsimp only at H
       exact abD (⟨rfl,_,oi H,l8⟩)
 ·exact qx 0 <| abM (⟨rfl,i0,oi H,.lp 2 0,.lp 3 0,.int .i64 i0,.bool (decide (i0<(a0.nodes.length:Int))),some [ah.fz a0.nodes,.int .i64 a0.root],some [ah.fz b0.nodes,.int .i64 b0.root],h0,by kernel_rfl,o0⟩)
theorem sr {aV:FuncId→b9}(ha:aV 22=yn)  (a0:ak)(b0:ak)(h:AHeap)(L:Mem)  (o:Has h (L)){out:Bool}(H:aR.f m a0 b0=some out) :
  ∃r h',bg Tryz.prog aV cf m 22 [.agg [ah.fz a0.nodes,.int .i64 a0.root],.agg [ah.fz b0.nodes,.int .i64 b0.root]] h=some (r,h')∧gf h' r (.bool out):=by
 refine aj (fn:=Tryz.f22) ha Tryz.func22 (by kernel_rfl) (by kernel_rfl) ?_
 refine aD (Q:=fun s=>aR.fin L out s) (fun _ _ h=>h) ?_
 have H:_=some out:=H
 unfold aR.f at H
 show dA _ cf yn m _ ⟨.agg [ah.fz a0.nodes,.int .i64 a0.root] :: .agg [ah.fz b0.nodes,.int .i64 b0.root]::oE [],[none,none,none,none],h⟩ _
 refine q1 <| qq <| qq ?_
 rcases dX H with⟨c0,H⟩| ⟨c0,H⟩
 ·obtain rfl:=oi H
  exact qr [.b 7 c0] <| uD <| qq <| q0 <| qt <| ⟨.inl rfl,cp (.bool false) h (cn (au))⟩
 ·refine qr [.b 7 c0] <| qc H (fun c2 H=>?_) (fun c2 H=>?_)
  ·obtain rfl:=oi H
   exact q1 <| qt <| ⟨.inl rfl,cp (.bool false) h (cn (au))⟩
  ·refine qk <| qq <| qq <| q0 <| qb 0 ?_
   obtain⟨bm,e5,H⟩:=aG H
   refine ql (aR.bu L a0 b0   (0:Int) _ _ ⟨h,by kernel_rfl,o⟩ e5) ?_
   rintro e s (⟨rfl,i1,rfl,g6,g7,g8,g9,g10,g11,h3,rfl,o3⟩| ⟨rfl,r1,rfl,Q4⟩)
   ·try dsimp only at H
    obtain rfl:=oi H
    exact q1 <| qt <| ⟨.inl rfl,cp (.bool true) h3 (cn (au))⟩
   ·try dsimp only at H
    obtain rfl:=oi H
    exact⟨.inl rfl,Q4⟩
end
end Go.Proofs.YtmekcfdllhphlaaGreatDoor
namespace Go.Proofs.YtmekcfdllhphlaaGreatDoor
open Go Go.R
open Go.IntKind (i64 u64 u8 u32)
theorem Bs {m:Nat}(v:ae)(hv:v.args.length<2 ^ 40):∀(f i:Nat),v.args.length - i<f→i≤v.args.length→∃x,aR.l1 m v v f (i:Int)=some (.inr x)
 | 0,i,hf,_=>absurd hf (by omega)
 | f+1,i,hf,hi=>by
  have mZ:(2:Nat) ^ 40=1099511627776:=by decide
  unfold aR.l1
  by_cases h:i<v.args.length
  ·obtain⟨x,ih⟩:=Bs (m:=m) v hv f (i+1) (by omega) (by omega)
   refine⟨x,?_⟩
   have hx:ix v.args (i:Int)=some v.args[i]:=by unfold ix; rw [if_pos (by omega)]; simp [h]
   rw [if_pos (by simp; omega),hx,aaA,aaA,if_neg (by simp),ay (by omega) (by omega),show ((i:Int)+1)=((i+1:Nat):Int) by omega,ih]
  ·exact⟨i,by rw [if_neg (by simp; omega)]⟩
theorem Bt {m:Nat}(t:ak)(hm:2 ^ 30≤m)(ht:t.nodes.length<2 ^ 30)(ha:∀n∈t.nodes,n.args.length≤8):∀(f i:Nat),t.nodes.length - i<f→i≤t.nodes.length→∃x,aR.l0 m t t f (i:Int)=some (.inr x)
 | 0,i,hf,_=>absurd hf (by omega)
 | f+1,i,hf,hi=>by
  have kV:(2:Nat) ^ 30=1073741824:=by decide
  unfold aR.l0
  by_cases h:i<t.nodes.length
  ·obtain⟨x,ih⟩:=Bt (m:=m) t hm ht ha f (i+1) (by omega) (by omega)
   refine⟨x,?_⟩
   have hx:ix t.nodes (i:Int)=some t.nodes[i]:=by unfold ix; rw [if_pos (by omega)]; simp [h]
   have h8:=ha t.nodes[i] (abe h)
   obtain⟨y,hy⟩:=Bs (m:=m) t.nodes[i] (by omega) m 0 (by omega) (by omega)
   have hy:aR.l1 m t.nodes[i] t.nodes[i] m (0:Int)=_:=hy
   rw [if_pos (by simp; omega),hx,aaA,aaA,if_neg (by simp),if_neg (by simp),if_neg (by simp),if_neg (by simp),hy,aaA]
   dsimp only
   rw [ay (by omega) (by omega),show ((i:Int)+1)=((i+1:Nat):Int) by omega,ih]
  ·exact⟨i,by rw [if_neg (by simp; omega)]⟩
theorem Lk {m:Nat}{b:List Int}{l:List ak}{e:Int}(hb:b.length≤200000)(H:aO.f m b=some (l,e))(he:e≠0):l=[]∧e=2:=by
 unfold aO.f at H
 rw [if_neg (by simp; omega)] at H
 split at H
 ·simp at H; exact⟨H.1,H.2.symm⟩
 simp only [aaB] at H
 obtain⟨v0,h0,x0,h1,v1,h2,x1,h3,H⟩:=H
 split at H
 ·simp at H; exact⟨H.1,H.2.symm⟩
 simp only [aaB] at H
 obtain⟨v2,h4,x2,h5,⟨l',i1,ob⟩,h6,H⟩:=H
 dsimp only at H
 split at H
 ·simp at H; exact⟨H.1,H.2.symm⟩
 split at H
 ·simp at H; exact⟨H.1,H.2.symm⟩
 simp only [aaB] at H
 obtain⟨⟨p,e'⟩,h7,H⟩:=H
 split at H
 ·simp at H; exact⟨H.1,H.2.symm⟩
 simp only [aaB] at H
 obtain⟨x8,h8,H⟩:=H
 split at H
 ·simp at H; exact⟨H.1,H.2.symm⟩
 simp at H
 exact absurd H.2.symm he
end Go.Proofs.YtmekcfdllhphlaaGreatDoor
namespace Go.Proofs.YtmekcfdllhphlaaGreatDoor
open Go Go.R
open Go.IntKind (i64 u64 u8 u32)
def Ab (t:ak):Prop:=∀n∈t.nodes,n.kind=0→n.int<2 ^ 63
theorem IY {s:ByteArray}(h:(s.data.toList==[])=true):s=aaT #[]:=by
 have h:=beq_iff_eq.1 h
 cases s with
 | mk d=>
  cases d with
  | mk l=>simp only at h; subst h; rfl
theorem Sa {l:List Int}(h:l.isEmpty=true):l=[]:=by cases l with | nil=>rfl | cons=>cases h
structure EK (n:ae):Prop where
 kind:n.kind=0∧0≤n.int∧n.label=aaT #[]∧n.args=[]∨n.kind=1∧(-1099511627776≤n.int∧n.int≤1099511627776)∧n.label=aaT #[]∧n.args=[]∨n.kind=2∧n.int=0∧n.args=[]∨n.kind=3∧n.int=0∨n.kind=4∧n.args=[]
 label:n.kind=2∨n.kind=3→1≤n.label.size∧n.label.size≤16
 args:n.args.length≤8
theorem ss {n:ae}{size:Int}(h:nJ n size=true):EK n∧∀a∈n.args,0≤a∧a<size:=by
 unfold nJ at h
 split at h
 ·rename_i k
  simp only [aaF,decide_eq_true_eq] at h
  have ha:=Sa h.2
  exact⟨⟨.inl ⟨k,h.1.1,IY h.1.2,ha⟩,fun z=>by omega,by rw [ha]; decide⟩,fun a h=>by rw [ha] at h; cases h⟩
 split at h
 ·rename_i k
  simp only [aaF,decide_eq_true_eq] at h
  have ha:=Sa h.2
  exact⟨⟨.inr (.inl ⟨k,h.1.1,IY h.1.2,ha⟩),fun z=>by omega,by rw [ha]; decide⟩,fun a h=>by rw [ha] at h; cases h⟩
 split at h
 ·rename_i k
  simp only [aaF,beq_iff_eq] at h
  have ha:=Sa h.2
  exact⟨⟨.inr (.inr (.inl ⟨k,h.1.1,ha⟩)),fun z=>yc h.1.2,by rw [ha]; decide⟩,fun a h=>by rw [ha] at h; cases h⟩
 split at h
 ·rename_i k
  simp only [aaF,beq_iff_eq,decide_eq_true_eq,abd] at h
  exact⟨⟨.inr (.inr (.inr (.inl ⟨k,h.1.1.1.1⟩))),fun z=>yc h.1.1.1.2,h.1.2⟩,h.2⟩
 split at h
 ·rename_i k
  simp only [aaF,decide_eq_true_eq] at h
  have ha:=Sa h.2
  exact⟨⟨.inr (.inr (.inr (.inr ⟨k,ha⟩))),fun z=>by omega,by rw [ha]; decide⟩,fun a h=>by rw [ha] at h; cases h⟩
 ·cases h
theorem su {t:ak}(h:kl t=true):mf t.nodes∧1≤t.nodes.length∧0≤t.root∧t.root<t.nodes.length∧∀n∈t.nodes,EK n:=by
 unfold kl at h
 simp only [aaF,decide_eq_true_eq,abd] at h
 obtain⟨⟨⟨⟨h1,h2⟩,h3⟩,h4⟩,h5⟩:=h
 exact⟨⟨h2,fun n hn=>⟨(ss (h5 n hn)).1.args,(ss (h5 n hn)).2⟩⟩,h1,h3,h4,fun n hn=>(ss (h5 n hn)).1⟩
structure gU (s:ak):Prop where
 root:s.root=0
 ng:s.nodes.length≤8000
 nodes:∀x∈s.nodes,EK x∧(x.kind=0→x.int<2 ^ 63)∧∀a∈x.args,0≤a∧a<8000
theorem EK.map {n:ae}(T:EK n)(f:Int→Int):EK ⟨n.kind,n.int,n.label,n.args.map f⟩:=by
 refine⟨?_,T.label,by simpa using T.args⟩
 rcases T.kind with⟨a,b,c,d⟩| ⟨a,b,c,d⟩| ⟨a,b,d⟩| ⟨a,b⟩| ⟨a,d⟩
 ·exact .inl ⟨a,b,c,by simp [d]⟩
 ·exact .inr (.inl ⟨a,b,c,by simp [d]⟩)
 ·exact .inr (.inr (.inl ⟨a,b,by simp [d]⟩))
 ·exact .inr (.inr (.inr (.inl ⟨a,b⟩)))
 ·exact .inr (.inr (.inr (.inr ⟨a,by simp [d]⟩)))
theorem yo {m:Nat}(hm:2 ^ 41≤m){t:ak}(h:kl t=true)(h0:Ab t):∃s,fm.f m t=some s∧gU s:=by
 obtain⟨ok,h1,r0,r1,hT⟩:=su h
 obtain⟨cls,many,ks,ns,e,P,_,K,CB,Q,hr⟩:=we hm ok h1 r0 r1 (fun _=>True) (fun _ _ _ _ _=>trivial) (fun _ _ _ _ _ _ _ _ _=>trivial)
 have wc:=Q.vs.ng
 have h8000:=ok.1
 have hlen:=Q.len
 refine⟨_,e,rfl,by dsimp only; omega,fun x hx=>?_⟩
 obtain⟨k,hk,e2⟩:=ab7 hx
 dsimp only at hk e2
 have:=Q.new k (by simp) (by omega)
 rw [aaL hk,e2] at this
 have:=aa2 this
 subst this
 have y4:=Q.vs.Ch _ (a8 (l:=vZ cls t.nodes m t.root []) (k:=k) (by omega))
 have GP:=iN y4.1 y4.2
 have YP:=h0 _ GP
 refine⟨(hT _ GP).map _,fun hk=>YP hk,fun a ha=>?_⟩
 obtain⟨b,hb,rfl⟩:=aba.1 ha
 have hin:=Q.arg k (by simp) (by omega) b hb
 have:=abU hin
 rw [aaX] at this
 unfold idx
 omega
theorem yp {m:Nat}(hm:2 ^ 41≤m){t:ak}(h0:Ab t):∃s e,dr.f m t=some (s,e)∧(e=0→gU s):=by
 have kV:(2:Nat) ^ 30=1073741824:=by decide
 have qO:(2:Nat) ^ 41=2199023255552:=by decide
 unfold dr.f
 rw [vU (by omega),aaA]
 cases h:kl t with
 | false=>exact⟨_,_,rfl,fun h=>absurd h (by decide)⟩
 | true=>
  obtain⟨s,e,L⟩:=yo hm h h0
  rw [if_neg (by simp),e]
  exact⟨_,_,rfl,fun _=>L⟩
theorem gU.w {s:ak}(L:gU s)(h:s.nodes.any (fun n=>n.kind==4)=false):kQ s:=by
 refine⟨fun n hn=>?_,?_,L.root⟩
 ·obtain⟨T,i0,ha⟩:=L.nodes n hn
  have h4:n.kind≠4:=fun e=>by
   have:=List.any_eq_false.1 h n hn
   rw [e] at this; exact absurd this (by decide)
  have YQ:(2:Int) ^ 62=4611686018427387904:=by decide
  have ED:(2:Int) ^ 63=9223372036854775808:=by decide
  have mZ:(2:Nat) ^ 40=1099511627776:=by decide
  refine⟨?_,fun hk=>?_,T.args,fun a hx=>by have:=ha a hx; omega⟩
  ·rcases T.kind with⟨a,b,c,d⟩| ⟨a,b,c,d⟩| ⟨a,b,d⟩| ⟨a,b⟩| ⟨a,d⟩
   ·exact .inl ⟨a,⟨b,i0 a⟩,c,d⟩
   ·exact .inr (.inl ⟨a,by omega,c,d⟩)
   ·exact .inr (.inr (.inl ⟨a,b,d⟩))
   ·exact .inr (.inr (.inr ⟨a,b⟩))
   ·exact absurd a h4
  ·have:=T.label (by rcases T.kind with h | h | h | h | h<;>(have:=h.1; omega))
   omega
 ·have:=L.ng
  have kV:(2:Nat) ^ 30=1073741824:=by decide
  omega
theorem nS {n:ae}(W:nQ n)(T:EK n):(bY n).length≤200:=by
 have YR:(2:Int) ^ 63=9223372036854775808:=by decide
 have i62:(2:Int) ^ 62=4611686018427387904:=by decide
 have Le:(2:Nat) ^ 64=18446744073709551616:=by decide
 have ED:(2:Nat) ^ 63=9223372036854775808:=by decide
 have hs:(n.kind=2∨n.kind=3)→(encS n.label).length≤30:=fun h=>by
  obtain⟨h1,h2⟩:=T.label h
  unfold encS
  have:=di (n:=n.label.size) (by omega)
  rw [aaI,fQ]; omega
 have hargs:∀l:List Int,(∀a∈l,0≤a∧a<2 ^ 63)→((l.map fun a=>bX a.toNat).flatten).length≤10*l.length:=by
  intro l
  induction l with
  | nil=>intro _; simp
  | cons a l ih=>
   intro h
   have h1:=h a (by simp)
   have:=ih fun b hb=>h b (by simp [hb])
   have h2:=di (n:=a.toNat) (by omega)
   simp only [aa6,ab6,aaI,aaR]
   omega
 unfold bY
 rw [aaR]
 rcases W.kind with⟨a,⟨b,b'⟩,_,_⟩| ⟨a,⟨b,b'⟩,_,_⟩| ⟨a,_⟩| ⟨a,_⟩
 ·rw [if_pos a]
  have:=di (n:=n.int.toNat) (by omega)
  omega
 ·rw [if_neg (by omega),if_pos a]
  have h1:=wj b b'
  have:=di (n:=rf n.int) (by omega)
  omega
 ·rw [if_neg (by omega),if_neg (by omega),if_pos a]
  have:=hs (.inl a); omega
 ·rw [if_neg (by omega),if_neg (by omega),if_neg (by omega),aaI,aaI]
  have h1:=hs (.inr a)
  have h2:=hargs n.args W.args.2
  have h3:=W.args.1
  have h4:=di (n:=n.args.length) (by omega)
  omega
theorem tk {t:ak}(L:gU t)(W:kQ t):(hY t).length≤2000000:=by
 have hn:∀l:List ae,(∀n∈l,nQ n∧EK n)→(dz l).length≤200*l.length:=by
  intro l
  induction l with
  | nil=>intro _; simp [dz]
  | cons a l ih=>
   intro h
   have h1:=h a (by simp)
   have:=ih fun b hb=>h b (by simp [hb])
   have h2:=nS h1.1 h1.2
   rw [fX,aaI,aaR]; omega
 have h1:=hn t.nodes fun n hn=>⟨W.nodes n hn,(L.nodes n hn).1⟩
 have h2:=L.ng
 have Le:(2:Nat) ^ 64=18446744073709551616:=by decide
 have h3:=di (n:=t.nodes.length) (by omega)
 unfold hY
 rw [aaI]; omega
theorem iJ:∀{l:List ak},(∀t∈l,gU t∧kQ t)→(bM l).length≤2000000*l.length
 | [],_=>by simp [bM]
 | a::l,h=>by
  have h1:=h a (by simp)
  have:=iJ (l:=l) fun b hb=>h b (by simp [hb])
  have h2:=tk h1.1 h1.2
  rw [gW,aaI,aaR]; omega
theorem oC {m:Nat}{t:ak}(h:t.nodes.length<2 ^ 40)(h2:t.nodes.length<m):dM.f m t=some (t.nodes.any fun n=>n.kind==4):=by
 unfold dM.f
 rw [yd (f0:=fun y0=>gH.f m y0) (g:=fun n=>n.kind==4) h h2 (fun n _=>rfl)]; rfl
theorem IZ {m:Nat}:∀(f i:Nat) (Ll:Int),8 - i<f→i≤8→∃c x,bj.l1 m f Ll (i:Int)=some (c,x)
 | 0,i,Ll,hf,_=>absurd hf (by omega)
 | f+1,i,Ll,hf,hi=>by
  unfold bj.l1
  by_cases h:i<8
  ·rw [if_pos (by simp only [decide_eq_true_eq]; omega),ay (by omega) (by omega),show (i:Int)+1=((i+1:Nat):Int) by omega]
   exact IZ f (i+1) _ (by omega) (by omega)
  ·exact⟨_,_,by rw [if_neg (by simp only [decide_eq_true_eq]; omega)]⟩
theorem I0 {m:Nat}(hm:10≤m){b:List Int}(hb:b.length<2 ^ 40):∀(f i:Nat) (Ll:Int),b.length - i<f→i≤b.length→∃c x,bj.l0 m b f Ll (i:Int)=some (c,x)
 | 0,i,Ll,hf,_=>absurd hf (by omega)
 | f+1,i,Ll,hf,hi=>by
  have mZ:(2:Nat) ^ 40=1099511627776:=by decide
  unfold bj.l0
  by_cases h:i<b.length
  ·obtain⟨c,x,k⟩:=IZ (m:=m) m 0 (dD .u32 Ll (u32.wrap (gt b i))) (by omega) (by omega)
   have k:bj.l1 m m (dD .u32 Ll (u32.wrap (gt b i))) 0=_:=k
   rw [if_pos (by simp only [decide_eq_true_eq]; omega),db h,aaA,k,aaA]
   dsimp only
   rw [ay (by omega) (by omega),show (i:Int)+1=((i+1:Nat):Int) by omega]
   exact I0 hm hb f (i+1) _ (by omega) (by omega)
  ·exact⟨_,_,by rw [if_neg (by simp only [decide_eq_true_eq]; omega)]⟩
theorem yq {m:Nat}(hm:10≤m){b:List Int}(hb:b.length<2 ^ 40)(h:b.length<m):∃c,dm.f m b=some c:=by
 obtain⟨c,x,k⟩:=I0 hm hb m 0 4294967295 (by omega) (by omega)
 have k:bj.l0 m b m 4294967295 0=_:=k
 unfold dm.f bj.f
 rw [k]
 exact⟨_,rfl⟩
theorem wz {m:Nat}(hm:2 ^ 41≤m){L:List ak}(hL:L.length≤8)(h0:∀t∈L,Ab t):∀(f i:Nat) (acc:List ak),L.length - i<f→i≤L.length→acc.length≤i→(∀s∈acc,gU s)→
  ∃o,bz.l0 m L f acc (i:Int)=some o∧(o = .inl ([],2)∨∃ls x,o = .inr (ls,x)∧ls.length≤8∧∀s∈ls,gU s)
 | 0,i,acc,hf,_,_,_=>absurd hf (by omega)
 | f+1,i,acc,hf,hi,ha,I1=>by
  unfold bz.l0
  by_cases h:i<L.length
  ·have hx:ix L (i:Int)=some L[i]:=by unfold ix; rw [if_pos (by omega)]; simp [h]
   obtain⟨s,e,k1,k2⟩:=yp hm (h0 _ (abe h))
   rw [if_pos (by simp only [decide_eq_true_eq]; omega),hx,aaA,k1,aaA]
   dsimp only
   by_cases he:e=0
   ·subst he
    have jf:app 32 acc [s]=some (acc++[s]):=by unfold app; rw [if_pos (by simp; omega)]
    rw [if_neg (by simp),jf,aaA,ay (by omega) (by omega),show (i:Int)+1=((i+1:Nat):Int) by omega]
    refine wz hm hL h0 f (i+1) _ (by omega) (by omega) (by simp; omega) fun x hx=>?_
    rcases aaQ.1 hx with hx | hx
    ·exact I1 x hx
    ·simp only [aaO] at hx; subst hx; exact k2 rfl
   ·rw [if_pos (by simpa using he)]
    exact⟨_,rfl,.inl rfl⟩
  ·exact⟨_,by rw [if_neg (by simp only [decide_eq_true_eq]; omega)],.inr ⟨acc,_,rfl,by omega,I1⟩⟩
theorem Lm {m:Nat}(hm:2 ^ 41≤m){L:List ak}(h0:∀t∈L,Ab t):∃r,bz.f m L=some r:=by
 have kV:(2:Nat) ^ 30=1073741824:=by decide
 have qO:(2:Nat) ^ 41=2199023255552:=by decide
 have mZ:(2:Nat) ^ 40=1099511627776:=by decide
 have KU:(2:Nat) ^ 42=4398046511104:=by decide
 unfold bz.f
 by_cases h:L.length≤8
 ·rw [if_neg (by simp only [decide_eq_true_eq]; omega)]
  obtain⟨o,k1,k2⟩:=wz hm h h0 m 0 [] (by omega) (by omega) (by simp) (fun s hs=>by cases hs)
  have k1:bz.l0 m L m [] 0=_:=k1
  rw [k1,aaA]
  rcases k2 with rfl | ⟨ls,x,rfl,hl,Kc⟩
  ·exact⟨_,rfl⟩
  ·dsimp only
   rw [oA (g:=fun t=>t.nodes.any fun n=>n.kind==4) (by omega) (by omega) (fun t ht=>oC (by have:=(Kc t ht).ng; omega) (by have:=(Kc t ht).ng; omega)),aaA]
   cases hc:ls.any fun t=>t.nodes.any fun n=>n.kind==4 with
   | true=>exact⟨_,rfl⟩
   | false=>
    have hW:∀t∈ls,gU t∧kQ t:=fun t ht=>⟨Kc t ht,(Kc t ht).w (by simpa using List.any_eq_false.1 hc t ht)⟩
    have LU:=iJ hW
    have Uy:=di (n:=ls.length) (by omega)
    have Ho:(cd ls).length≤100000000:=by
     unfold cd
     simp only [aaI,aaR,abg]; omega
    obtain⟨c,hc2⟩:=yq (m:=m) (by omega) (b:=cd ls) (by omega) (by omega)
    have:=(mL hc2).2
    have jf:app 1 (cd ls) c=some (cd ls++c):=by unfold app; rw [if_pos (by omega)]
    rw [if_neg (by simp),yl (by omega) (fun t ht=>(hW t ht).2) (by omega) (by omega),hc2,aaA,jf,aaA]
    split
    ·exact⟨_,rfl⟩
    ·exact⟨_,rfl⟩
 ·rw [if_pos (by simp only [decide_eq_true_eq]; omega)]
  exact⟨_,rfl⟩
end Go.Proofs.YtmekcfdllhphlaaGreatDoor
namespace Go.Proofs.YtmekcfdllhphlaaGreatDoor
open Go Go.R
open Go.IntKind (i64 u64 u8 u32)
def yr:b9:=gm [0,2,3,4,5,9,20,25] [] [254,250,242,210,242,242,226,162,226,98,226,226,253] [] []
def bV.l1 (m:Nat)  : Nat→Int→Int→Option (Int × Int)
 | 0,_,_=>none
 | k+1,c2,k0=>if (decide (k0<(8:Int)))=true then (if ((abE c2 (2:Int))==(1:Int))=true then (bV.l1 m k (dD .u32 (u32.wrap (abr c2 (2:Int))) (3988292384:Int)) (i64.wrap (k0+(1:Int)))) else (bV.l1 m k (u32.wrap (abr c2 (2:Int))) (i64.wrap (k0+(1:Int))))) else (some ((c2,k0)))
def bV.l0 (m:Nat)(b0:List Int):Nat→Int→Int→Option (Int × Int)
 | 0,_,_=>none
 | k+1,c0,i0=>if (decide (i0<(b0.length:Int)))=true then ((ix b0 i0).bind fun v0=>(bV.l1 m m (dD .u32 c0 (u32.wrap v0)) (0:Int)).bind fun aF=>match aF with | (c5,k1)=>bV.l0 m b0 k c5 (i64.wrap (i0+(1:Int)))) else (some ((c0,i0)))
def bV.f (m:Nat)(b0:List Int):Option (Int):=(bV.l0 m b0 m (4294967295:Int) (0:Int)).bind fun bm=>match bm with | (c6,i1)=>some (i64.wrap (dD .u32 c6 (4294967295:Int)))
def bV.fin (L:Mem)(r:Int)(s:St):Prop:=∃av,aH Tryz.prog (s.open yr) Tryz.f15.results.toList=some av∧gf s.h av (.int .i64 r)
def Uz (cf:CallF)(m:Nat):Prop:=∀(b0:List Int) (r:Int),bV.f m b0=some r→∀h xs,eR fh h xs [af.fz b0]→cf 15 xs h=some (.int .i64 r,h)
section
variable {cf:CallF}{m:Nat}
theorem bV.eO (L:Mem)(b0:List Int)(i0:Int)   : bC Tryz.prog cf yr m (sub [1,1,0,1,0,0,1,0,0,1,1,0,0] (codeOf Tryz.f15)) (fun k (σ:Int × Int)=>bV.l1 m k σ.1 σ.2) (fun σ s=>match σ with | (c2,k0)=>∃h1,s=⟨af.fz b0 :: .any :: .int .u32 c2 :: .int .i64 i0 :: .int .i64 k0::jE [],[],h1⟩∧Has h1 (L)) (fun out e s=>(e = .exit 2∧∃c2 k0,(c2,k0)=out∧∃oK CX h1,s=⟨[af.fz b0,.any,.int .u32 c2,.int .i64 i0,oK,.any,CX,.any],[],h1⟩∧Has h1 (L))):=by
 refine gk (fun _=>rfl) ?_
 rintro k ⟨c2,k0⟩ s out ⟨h1,rfl,o1⟩ H
 have H:bV.l1 m (k+1) c2 k0=some out:=H
 refine qq <| qq <| q0 <| qc H (fun c3 H=>?_) (fun c3 H=>?_)
 ·refine qk <| qq <| qb 3 <| qq <| q0 <| qc H (fun c4 H=>?_) (fun c4 H=>?_)
  ·exact q0 <| q0 <| ⟨(dD .u32 (u32.wrap (abr c2 (2:Int))) (3988292384:Int),i64.wrap (k0+(1:Int))),⟨h1,by kernel_rfl,o1⟩,H⟩
  ·exact q0 <| q0 <| ⟨(u32.wrap (abr c2 (2:Int)),i64.wrap (k0+(1:Int))),⟨h1,by kernel_rfl,o1⟩,H⟩
 ·exact qx 2 <| ⟨rfl,c2,k0,oi H,.int .i64 k0,.bool (decide (k0<(8:Int))),h1,by kernel_rfl,o1⟩
theorem bV.bu (L:Mem)(b0:List Int)   : bC Tryz.prog cf yr m (sub [1,1,0,1,0,0] (codeOf Tryz.f15)) (fun k (σ:Int × Int)=>bV.l0 m b0 k σ.1 σ.2) (fun σ s=>match σ with | (c0,i0)=>∃h0,s=⟨af.fz b0 :: .any :: .int .u32 c0 :: .int .i64 i0::mT [],[],h0⟩∧Has h0 (L)) (fun out e s=>(e = .exit 0∧∃c0 i0,(c0,i0)=out∧∃kM zp qQ h0,s=⟨[kM,.any,.int .u32 c0,zp,.any,qQ,.any,.any],[],h0⟩∧Has h0 (L))):=by
 refine gk (fun _=>rfl) ?_
 rintro k ⟨c0,i0⟩ s out ⟨h0,rfl,o0⟩ H
 have H:bV.l0 m b0 (k+1) c0 i0=some out:=H
 refine qq <| qq <| q0 <| qc H (fun c1 H=>?_) (fun c1 H=>?_)
 ·refine qk <| qq <| qb 1 <| qq ?_
  obtain⟨v0,e0,H⟩:=aG H
  refine qr [.v 3 (bN (k:=.i64) (E:=af) (l:=b0) tg e0),.v 4 (dd  (E:=af) (l:=b0) h0 A5 e0 rfl)] <| qq <| q0 <| qb 2 ?_
  obtain⟨aF,e1,H⟩:=aG H
  refine ql (bV.eO L b0 i0   (dD .u32 c0 (u32.wrap v0),(0:Int)) _ _ ⟨h0,by kernel_rfl,o0⟩ e1) ?_
  rintro e s ⟨rfl,c5,k1,rfl,g0,g1,h2,rfl,o2⟩
  try dsimp only at H
  exact q0 <| ⟨(c5,i64.wrap (i0+(1:Int))),⟨h2,by kernel_rfl,o2⟩,H⟩
 ·exact qx 0 <| ⟨rfl,c0,i0,oi H,af.fz b0,.int .i64 i0,.bool (decide (i0<(b0.length:Int))),h0,by kernel_rfl,o0⟩
theorem wA {aV:FuncId→b9}(ha:aV 15=yr)  (b0:List Int)(h:AHeap)(L:Mem)  (o:Has h (L)){out:Int}(H:bV.f m b0=some out) :
  ∃r h',bg Tryz.prog aV cf m 15 [af.fz b0] h=some (r,h')∧gf h' r (.int .i64 out):=by
 refine aj (fn:=Tryz.f15) ha Tryz.func15 (by kernel_rfl) (by kernel_rfl) ?_
 refine aD (Q:=fun s=>bV.fin L out s) (fun _ _ h=>h) ?_
 have H:_=some out:=H
 unfold bV.f at H
 show dA _ cf yr m _ ⟨af.fz b0::zY [],[],h⟩ _
 refine q1 <| qq <| q0 <| qq <| qq <| q0 <| qb 0 ?_
 obtain⟨bm,e2,H⟩:=aG H
 refine ql (bV.bu L b0   ((4294967295:Int),(0:Int)) _ _ ⟨h,by kernel_rfl,o⟩ e2) ?_
 rintro e s ⟨rfl,c6,i1,rfl,g2,g3,g4,h3,rfl,o3⟩
 try dsimp only at H
 obtain rfl:=oi H
 exact q1 <| qt <| ⟨.inl rfl,cp (.int .i64 (i64.wrap (dD .u32 c6 (4294967295:Int)))) h3 (cn (dB))⟩
end
end Go.Proofs.YtmekcfdllhphlaaGreatDoor
namespace Go.Proofs.YtmekcfdllhphlaaGreatDoor
open Go Go.R
open Go.IntKind (i64 u64 u8 u32)
def zK:b9:=gm [0,2] [] [2,1] [] []
def fR.f (m:Nat)(c0:Int):Option (Bool):=if (decide (c0≥(97:Int)))=true then (if (decide (c0≤(122:Int)))=true then (some true) else (if (decide (c0≥(65:Int)))=true then (if (decide (c0≤(90:Int)))=true then (some true) else (if (decide (c0≥(48:Int)))=true then (if (decide (c0≤(57:Int)))=true then (some true) else (some (c0==(95:Int)))) else (some (c0==(95:Int))))) else (if (decide (c0≥(48:Int)))=true then (if (decide (c0≤(57:Int)))=true then (some true) else (some (c0==(95:Int)))) else (some (c0==(95:Int)))))) else (if (decide (c0≥(65:Int)))=true then (if (decide (c0≤(90:Int)))=true then (some true) else (if (decide (c0≥(48:Int)))=true then (if (decide (c0≤(57:Int)))=true then (some true) else (some (c0==(95:Int)))) else (some (c0==(95:Int))))) else (if (decide (c0≥(48:Int)))=true then (if (decide (c0≤(57:Int)))=true then (some true) else (some (c0==(95:Int)))) else (some (c0==(95:Int)))))
def fR.fin (L:Mem)(r:Bool)(s:St):Prop:=∃av,aH Tryz.prog (s.open zK) Tryz.f113.results.toList=some av∧gf s.h av (.bool r)
def Ob (cf:CallF)(m:Nat):Prop:=∀(c0:Int) (r:Bool),fR.f m c0=some r→∀h xs,eR fh h xs [.int .u8 c0]→cf 113 xs h=some (.bool r,h)
section
variable {cf:CallF}{m:Nat}
theorem rp {aV:FuncId→b9}(ha:aV 113=zK)  (c0:Int)(h:AHeap)(L:Mem)  (o:Has h (L)){out:Bool}(H:fR.f m c0=some out) :
  ∃r h',bg Tryz.prog aV cf m 113 [.int .u8 c0] h=some (r,h')∧gf h' r (.bool out):=by
 refine aj (fn:=Tryz.f113) ha Tryz.func113 (by kernel_rfl) (by kernel_rfl) ?_
 refine aD (Q:=fun s=>fR.fin L out s) (fun _ _ h=>h) ?_
 have H:_=some out:=H
 unfold fR.f at H
 show dA _ cf zK m _ ⟨[.int .u8 c0,.any],[],h⟩ _
 refine q1 <| qq ?_
 rcases dX H with⟨c1,H⟩| ⟨c1,H⟩
 ·rcases dX H with⟨c2,H⟩| ⟨c2,H⟩
  ·obtain rfl:=oi H
   exact qr [.b 2 c1,.b 6 c2] <| qt <| ⟨.inl rfl,cp (.bool true) h (cn (au))⟩
  ·rcases dX H with⟨c3,H⟩| ⟨c3,H⟩
   ·rcases dX H with⟨c4,H⟩| ⟨c4,H⟩
    ·obtain rfl:=oi H
     exact qr [.b 2 c1,.b 6 c2,.b 9 c3,.b 14 c4] <| qt <| ⟨.inl rfl,cp (.bool true) h (cn (au))⟩
    ·rcases dX H with⟨c5,H⟩| ⟨c5,H⟩
     ·rcases dX H with⟨c6,H⟩| ⟨c6,H⟩
      ·obtain rfl:=oi H
       exact qr [.b 2 c1,.b 6 c2,.b 9 c3,.b 14 c4,.b 17 c5,.b 22 c6] <| qt <| ⟨.inl rfl,cp (.bool true) h (cn (au))⟩
      ·obtain rfl:=oi H
       exact qr [.b 2 c1,.b 6 c2,.b 9 c3,.b 14 c4,.b 17 c5,.b 22 c6] <| qt <| ⟨.inl rfl,cp (.bool (c0==(95:Int))) h (cn (au))⟩
     ·obtain rfl:=oi H
      exact qr [.b 2 c1,.b 6 c2,.b 9 c3,.b 14 c4,.b 17 c5] <| qt <| ⟨.inl rfl,cp (.bool (c0==(95:Int))) h (cn (au))⟩
   ·rcases dX H with⟨c7,H⟩| ⟨c7,H⟩
    ·rcases dX H with⟨c8,H⟩| ⟨c8,H⟩
     ·obtain rfl:=oi H
      exact qr [.b 2 c1,.b 6 c2,.b 9 c3,.b 17 c7,.b 22 c8] <| qt <| ⟨.inl rfl,cp (.bool true) h (cn (au))⟩
     ·obtain rfl:=oi H
      exact qr [.b 2 c1,.b 6 c2,.b 9 c3,.b 17 c7,.b 22 c8] <| qt <| ⟨.inl rfl,cp (.bool (c0==(95:Int))) h (cn (au))⟩
    ·obtain rfl:=oi H
     exact qr [.b 2 c1,.b 6 c2,.b 9 c3,.b 17 c7] <| qt <| ⟨.inl rfl,cp (.bool (c0==(95:Int))) h (cn (au))⟩
 ·rcases dX H with⟨c9,H⟩| ⟨c9,H⟩
  ·rcases dX H with⟨vJ,H⟩| ⟨vJ,H⟩
   ·obtain rfl:=oi H
    exact qr [.b 2 c1,.b 9 c9,.b 14 vJ] <| qt <| ⟨.inl rfl,cp (.bool true) h (cn (au))⟩
   ·rcases dX H with⟨nH,H⟩| ⟨nH,H⟩
    ·rcases dX H with⟨sd,H⟩| ⟨sd,H⟩
     ·obtain rfl:=oi H
      exact qr [.b 2 c1,.b 9 c9,.b 14 vJ,.b 17 nH,.b 22 sd] <| qt <| ⟨.inl rfl,cp (.bool true) h (cn (au))⟩
     ·obtain rfl:=oi H
      exact qr [.b 2 c1,.b 9 c9,.b 14 vJ,.b 17 nH,.b 22 sd] <| qt <| ⟨.inl rfl,cp (.bool (c0==(95:Int))) h (cn (au))⟩
    ·obtain rfl:=oi H
     exact qr [.b 2 c1,.b 9 c9,.b 14 vJ,.b 17 nH] <| qt <| ⟨.inl rfl,cp (.bool (c0==(95:Int))) h (cn (au))⟩
  ·rcases dX H with⟨tI,H⟩| ⟨tI,H⟩
   ·rcases dX H with⟨qP,H⟩| ⟨qP,H⟩
    ·obtain rfl:=oi H
     exact qr [.b 2 c1,.b 9 c9,.b 17 tI,.b 22 qP] <| qt <| ⟨.inl rfl,cp (.bool true) h (cn (au))⟩
    ·obtain rfl:=oi H
     exact qr [.b 2 c1,.b 9 c9,.b 17 tI,.b 22 qP] <| qt <| ⟨.inl rfl,cp (.bool (c0==(95:Int))) h (cn (au))⟩
   ·obtain rfl:=oi H
    exact qr [.b 2 c1,.b 9 c9,.b 17 tI] <| qt <| ⟨.inl rfl,cp (.bool (c0==(95:Int))) h (cn (au))⟩
end
end Go.Proofs.YtmekcfdllhphlaaGreatDoor
namespace Go.Proofs.YtmekcfdllhphlaaGreatDoor
open Go Go.R
open Go.IntKind (i64 u64 u8 u32)
def wC:b9:=gm [0,2,3,11,15,22] [] [62,54,61,58,42,58,26,61,61] [] []
def cY.l0 (m:Nat)(s0:ByteArray):Nat→Int→Option (Sum Bool (Int))
 | 0,_=>none
 | k+1,i0=>if (decide (i0<(s0.size:Int)))=true then ((bt s0 i0).bind fun v0=>(fR.f m v0).bind fun x0=>if (!x0)=true then (some (.inl false)) else (cY.l0 m s0 k (i64.wrap (i0+(1:Int))))) else (some (.inr i0))
def cY.f (m:Nat)(s0:ByteArray):Option (Bool):=if (decide ((s0.size:Int)<(1:Int)))=true then (some false) else (if (decide ((s0.size:Int) > (16:Int)))=true then (some false) else ((cY.l0 m s0 m (0:Int)).bind fun aF=>match aF with | .inl r0=>some r0 | .inr i1=>some true))
def cY.fin (L:Mem)(r:Bool)(s:St):Prop:=∃av,aH Tryz.prog (s.open wC) Tryz.f104.results.toList=some av∧gf s.h av (.bool r)
def Q5 (cf:CallF)(m:Nat):Prop:=∀(s0:ByteArray) (r:Bool),cY.f m s0=some r→∀h xs,eR fh h xs [.str s0]→cf 104 xs h=some (.bool r,h)
section
variable {cf:CallF}{m:Nat}
theorem cY.bu (L:Mem)(s0:ByteArray)  (I2:Ob cf m):bC Tryz.prog cf wC m (sub [1,1,0,1,0,0] (codeOf Tryz.f104)) (fun k (σ:Int)=>cY.l0 m s0 k σ) (fun σ s=>match σ with | i0=>∃h0,s=⟨.str s0 :: .any :: .int .i64 i0::jE [],[],h0⟩∧Has h0 (L)) (fun out e s=>(e = .exit 0∧∃i0,.inr i0=out∧∃kM tG sk h0,s=⟨[kM,.any,tG,.any,sk,.any],[],h0⟩∧Has h0 (L))∨(e = .ret∧∃r,.inl r=out∧cY.fin L r s)):=by
 refine gk (fun _=>rfl) ?_
 rintro k i0 s out ⟨h0,rfl,o0⟩ H
 have H:cY.l0 m s0 (k+1) i0=some out:=H
 refine qq <| qq <| q0 <| qc H (fun c3 H=>?_) (fun c3 H=>?_)
 ·refine qk <| qq <| qb 1 <| qq ?_
  obtain⟨v0,e0,H⟩:=aG H
  obtain⟨x0,e1,H⟩:=aG H
  refine qr [.v 2 (nB (k:=.i64) U9 e0),.a 3 (I2 _ _ e1 h0 _ (fT (ab (aQ) (aA))))] <| qc H (fun c4 H=>?_) (fun c4 H=>?_)
  ·exact q1 <| qt <| abD (⟨rfl,_,oi H,cp (.bool false) h0 (cn (au))⟩)
  ·exact qk <| q0 <| ⟨i64.wrap (i0+(1:Int)),⟨h0,by kernel_rfl,o0⟩,H⟩
 ·exact qx 0 <| abM (⟨rfl,i0,oi H,.str s0,.int .i64 i0,.bool (decide (i0<(s0.size:Int))),h0,by kernel_rfl,o0⟩)
theorem tZ {aV:FuncId→b9}(ha:aV 104=wC)(I2:Ob cf m)(s0:ByteArray)(h:AHeap)(L:Mem)  (o:Has h (L)){out:Bool}(H:cY.f m s0=some out) :
  ∃r h',bg Tryz.prog aV cf m 104 [.str s0] h=some (r,h')∧gf h' r (.bool out):=by
 refine aj (fn:=Tryz.f104) ha Tryz.func104 (by kernel_rfl) (by kernel_rfl) ?_
 refine aD (Q:=fun s=>cY.fin L out s) (fun _ _ h=>h) ?_
 have H:_=some out:=H
 unfold cY.f at H
 show dA _ cf wC m _ ⟨.str s0::qF [],[],h⟩ _
 refine q1 <| qq <| qq ?_
 rcases dX H with⟨c0,H⟩| ⟨c0,H⟩
 ·obtain rfl:=oi H
  exact qr [.b 3 c0] <| uD <| qq <| q0 <| qt <| ⟨.inl rfl,cp (.bool false) h (cn (au))⟩
 ·refine qr [.b 3 c0] <| qc H (fun c2 H=>?_) (fun c2 H=>?_)
  ·obtain rfl:=oi H
   exact q1 <| qt <| ⟨.inl rfl,cp (.bool false) h (cn (au))⟩
  ·refine qk <| qq <| qq <| q0 <| qb 0 ?_
   obtain⟨aF,e2,H⟩:=aG H
   refine ql (cY.bu L s0  I2 (0:Int) _ _ ⟨h,by kernel_rfl,o⟩ e2) ?_
   rintro e s (⟨rfl,i1,rfl,g0,g1,g2,h1,rfl,o1⟩| ⟨rfl,r0,rfl,l8⟩)
   ·try dsimp only at H
    obtain rfl:=oi H
    exact q1 <| qt <| ⟨.inl rfl,cp (.bool true) h1 (cn (au))⟩
   ·try dsimp only at H
    obtain rfl:=oi H
    exact⟨.inl rfl,l8⟩
end
end Go.Proofs.YtmekcfdllhphlaaGreatDoor
namespace Go.Proofs.YtmekcfdllhphlaaGreatDoor
open Go Go.R
open Go.IntKind (i64 u64 u8 u32)
def EL:b9:=gm [0,2] [] [2,1] [] []
def eU.f (m:Nat)(s0:ByteArray):Option (Bool):=if (s0.data.toList==(aaT #[124]).data.toList)=true then (some true) else (if (s0.data.toList==(aaT #[35]).data.toList)=true then (some true) else ((cY.f m s0).bind fun x0=>if x0=true then ((bt s0 (0:Int)).bind fun v0=>if (decide (v0≥(97:Int)))=true then ((bt s0 (0:Int)).bind fun v1=>some (decide (v1≤(122:Int)))) else (some false)) else (some false)))
def eU.fin (L:Mem)(r:Bool)(s:St):Prop:=∃av,aH Tryz.prog (s.open EL) Tryz.f82.results.toList=some av∧gf s.h av (.bool r)
def WO (cf:CallF)(m:Nat):Prop:=∀(s0:ByteArray) (r:Bool),eU.f m s0=some r→∀h xs,eR fh h xs [.str s0]→cf 82 xs h=some (.bool r,h)
section
variable {cf:CallF}{m:Nat}
theorem rq {aV:FuncId→b9}(ha:aV 82=EL)(I3:Q5 cf m)(s0:ByteArray)(h:AHeap)(L:Mem)  (o:Has h (L)){out:Bool}(H:eU.f m s0=some out) :
  ∃r h',bg Tryz.prog aV cf m 82 [.str s0] h=some (r,h')∧gf h' r (.bool out):=by
 refine aj (fn:=Tryz.f82) ha Tryz.func82 (by kernel_rfl) (by kernel_rfl) ?_
 refine aD (Q:=fun s=>eU.fin L out s) (fun _ _ h=>h) ?_
 have H:_=some out:=H
 unfold eU.f at H
 show dA _ cf EL m _ ⟨[.str s0,.any],[],h⟩ _
 refine q1 <| qq ?_
 rcases dX H with⟨c0,H⟩| ⟨c0,H⟩
 ·obtain rfl:=oi H
  exact qr [.b 2 c0] <| qt <| ⟨.inl rfl,cp (.bool true) h (cn (au))⟩
 ·rcases dX H with⟨c1,H⟩| ⟨c1,H⟩
  ·obtain rfl:=oi H
   exact qr [.b 2 c0,.b 6 c1] <| qt <| ⟨.inl rfl,cp (.bool true) h (cn (au))⟩
  ·obtain⟨x0,e0,H⟩:=aG H
   rcases dX H with⟨c2,H⟩| ⟨c2,H⟩
   ·obtain⟨v0,e1,H⟩:=aG H
    rcases dX H with⟨c3,H⟩| ⟨c3,H⟩
    ·obtain⟨v1,e2,H⟩:=aG H
     obtain rfl:=oi H
     exact qr [.b 2 c0,.b 6 c1,.a 8 (I3 _ _ e0 h _ (fT (ab (cF) (aA)))),.b 9 c2,.v 11 (nB (k:=.i64) U9 e1),.b 14 c3,.v 16 (nB (k:=.i64) U9 e2)] <| qt <| ⟨.inl rfl,cp (.bool (decide (v1≤(122:Int)))) h (cn (au))⟩
    ·obtain rfl:=oi H
     exact qr [.b 2 c0,.b 6 c1,.a 8 (I3 _ _ e0 h _ (fT (ab (cF) (aA)))),.b 9 c2,.v 11 (nB (k:=.i64) U9 e1),.b 14 c3] <| qt <| ⟨.inl rfl,cp (.bool false) h (cn (au))⟩
   ·obtain rfl:=oi H
    exact qr [.b 2 c0,.b 6 c1,.a 8 (I3 _ _ e0 h _ (fT (ab (cF) (aA)))),.b 9 c2] <| qt <| ⟨.inl rfl,cp (.bool false) h (cn (au))⟩
end
end Go.Proofs.YtmekcfdllhphlaaGreatDoor
namespace Go.Proofs.YtmekcfdllhphlaaGreatDoor
open Go Go.R
open Go.IntKind (i64 u64 u8 u32)
def Bu:b9:=gm [0,1,2,4,5,7,8,24,45,61,87,109,114,131] [2] [16377,16345,16281,16375,16217,16375,16089,16375,15833,16375,15353,14329,16375,16361,12265,16361,8169,16375,16375,16375] [] []
def cy.l0 (m:Nat)(n0:ae)(aE:Int):Nat→Int→Option (Sum Bool (Int))
 | 0,_=>none
 | k+1,i0=>if (decide (i0<(n0.args.length:Int)))=true then ((ix n0.args i0).bind fun v0=>if (decide (v0<(0:Int)))=true then (some (.inl false)) else ((ix n0.args i0).bind fun v1=>if (decide (v1≥aE))=true then (some (.inl false)) else (cy.l0 m n0 aE k (i64.wrap (i0+(1:Int)))))) else (some (.inr i0))
def cy.f (m:Nat)(n0:ae)(aE:Int):Option (Bool):=if (n0.kind==(0:Int))=true then (if (decide (n0.int≥(0:Int)))=true then (if (n0.label.data.toList==(aaT #[]).data.toList)=true then (some ((n0.args.length:Int)==(0:Int))) else (some false)) else (some false)) else (if (n0.kind==(1:Int))=true then (if (decide (n0.int≥(-1099511627776:Int)))=true then (if (decide (n0.int≤(1099511627776:Int)))=true then (if (n0.label.data.toList==(aaT #[]).data.toList)=true then (some ((n0.args.length:Int)==(0:Int))) else (some false)) else (some false)) else (some false)) else (if (n0.kind==(2:Int))=true then ((eU.f m n0.label).bind fun x0=>if x0=true then (if (n0.int==(0:Int))=true then (some ((n0.args.length:Int)==(0:Int))) else (some false)) else (some false)) else (if (n0.kind==(4:Int))=true then (if (n0.label.data.toList==(aaT #[112,114,111,99]).data.toList)=true then (if (decide (n0.int≥(0:Int)))=true then (some ((n0.args.length:Int)==(0:Int))) else (some false)) else (if (n0.label.data.toList==(aaT #[99,101,108,108]).data.toList)=true then (if (decide (n0.int≥(0:Int)))=true then (some ((n0.args.length:Int)==(0:Int))) else (some false)) else (if (n0.label.data.toList==(aaT #[112,111,114,116]).data.toList)=true then (if (decide (n0.int≥(0:Int)))=true then (some ((n0.args.length:Int)==(0:Int))) else (some false)) else (some false)))) else (if (n0.kind==(3:Int))=true then ((eU.f m n0.label).bind fun x1=>if (!x1)=true then (some false) else (if (!(n0.int==(0:Int)))=true then (some false) else (if (decide ((n0.args.length:Int)<(1:Int)))=true then (some false) else (if (decide ((n0.args.length:Int) > (8:Int)))=true then (some false) else ((cy.l0 m n0 aE m (0:Int)).bind fun aF=>match aF with | .inl r0=>some r0 | .inr i1=>some true))))) else (some false)))))
def cy.fin (L:Mem)(r:Bool)(s:St):Prop:=∃av,aH Tryz.prog (s.open Bu) Tryz.f60.results.toList=some av∧gf s.h av (.bool r)
def UA (cf:CallF)(m:Nat):Prop:=∀(n0:ae) (aE:Int) (r:Bool),cy.f m n0 aE=some r→∀h xs,eR fh h xs [.agg [.int .i64 n0.kind,.int .i64 n0.int,.str n0.label,aa.fz n0.args],.int .i64 aE]→cf 60 xs h=some (.bool r,h)
section
variable {cf:CallF}{m:Nat}
theorem cy.bu (L:Mem)(n0:ae)(aE:Int)   : bC Tryz.prog cf Bu m (sub [1,0,1,0,1,1,1,1,1,1,1,1,1,0,1,0,1,0,0] (codeOf Tryz.f60)) (fun k (σ:Int)=>cy.l0 m n0 aE k σ) (fun σ s=>match σ with | i0=>∃h0,s=⟨.any :: .int .i64 aE :: .lp 2 0 :: .any :: .int .i64 i0::FX [],[some [.int .i64 n0.kind,.int .i64 n0.int,.str n0.label,aa.fz n0.args]],h0⟩∧Has h0 (L)) (fun out e s=>(e = .exit 1∧∃i0,.inr i0=out∧∃qM F5 oK Ra Q2 h0,s=⟨.any::qM::F5 :: .any::oK::zY [Ra,.any],[Q2],h0⟩∧Has h0 (L))∨(e = .ret∧∃r,.inl r=out∧cy.fin L r s)):=by
 refine gk (fun _=>rfl) ?_
 rintro k i0 s out ⟨h0,rfl,o0⟩ H
 have H:cy.l0 m n0 aE (k+1) i0=some out:=H
 refine qq <| qq <| q0 <| qc H (fun YS H=>?_) (fun YS H=>?_)
 ·refine qk <| qq <| qb 2 <| qq ?_
  obtain⟨v0,e2,H⟩:=aG H
  rcases dX H with⟨UB,H⟩| ⟨UB,H⟩
  ·exact qr [.v 3 (bN (k:=.i64) (E:=aa) (l:=n0.args) dK e2),.v 4 (dd  (E:=aa) (l:=n0.args) h0 A3 e2 rfl),.b 6 UB] <| uD <| qq <| q0 <| qt <| abD (⟨rfl,_,oi H,cp (.bool false) h0 (cn (au))⟩)
  ·obtain⟨v1,e3,H⟩:=aG H
   refine qr [.v 3 (bN (k:=.i64) (E:=aa) (l:=n0.args) dK e2),.v 4 (dd  (E:=aa) (l:=n0.args) h0 A3 e2 rfl),.b 6 UB,.v 10 (bN (k:=.i64) (E:=aa) (l:=n0.args) dK e3),.v 11 (dd  (E:=aa) (l:=n0.args) h0 A3 e3 rfl)] <| qc H (fun YT H=>?_) (fun YT H=>?_)
   ·exact q1 <| qt <| abD (⟨rfl,_,oi H,cp (.bool false) h0 (cn (au))⟩)
   ·exact qk <| q0 <| ⟨i64.wrap (i0+(1:Int)),⟨h0,by kernel_rfl,o0⟩,H⟩
 ·exact qx 1 <| abM (⟨rfl,i0,oi H,.int .i64 aE,.lp 2 0,.int .i64 i0,.bool (decide (i0<(n0.args.length:Int))),some [.int .i64 n0.kind,.int .i64 n0.int,.str n0.label,aa.fz n0.args],h0,by kernel_rfl,o0⟩)
theorem sv {aV:FuncId→b9}(ha:aV 60=Bu)(Dh:WO cf m)(n0:ae)(aE:Int)(h:AHeap)(L:Mem)  (o:Has h (L)){out:Bool}(H:cy.f m n0 aE=some out) :
  ∃r h',bg Tryz.prog aV cf m 60 [.agg [.int .i64 n0.kind,.int .i64 n0.int,.str n0.label,aa.fz n0.args],.int .i64 aE] h=some (r,h')∧gf h' r (.bool out):=by
 refine aj (fn:=Tryz.f60) ha Tryz.func60 (by kernel_rfl) (by kernel_rfl) ?_
 refine aD (Q:=fun s=>cy.fin L out s) (fun _ _ h=>h) ?_
 have H:_=some out:=H
 unfold cy.f at H
 show dA _ cf Bu m _ ⟨.agg [.int .i64 n0.kind,.int .i64 n0.int,.str n0.label,aa.fz n0.args] :: .int .i64 aE::oE [],[none],h⟩ _
 refine q1 <| qq <| qq <| q0 <| qb 0 <| qq <| q0 <| qc H (fun c0 H=>?_) (fun c0 H=>?_)
 ·refine qq ?_
  rcases dX H with⟨c1,H⟩| ⟨c1,H⟩
  ·rcases dX H with⟨c2,H⟩| ⟨c2,H⟩
   ·obtain rfl:=oi H
    exact qr [.b 3 c1,.b 8 c2] <| qt <| ⟨.inl rfl,cp (.bool ((n0.args.length:Int)==(0:Int))) h (cn (au))⟩
   ·obtain rfl:=oi H
    exact qr [.b 3 c1,.b 8 c2] <| qt <| ⟨.inl rfl,cp (.bool false) h (cn (au))⟩
  ·obtain rfl:=oi H
   exact qr [.b 3 c1] <| qt <| ⟨.inl rfl,cp (.bool false) h (cn (au))⟩
 ·refine q1 <| qc H (fun c3 H=>?_) (fun c3 H=>?_)
  ·refine qq ?_
   rcases dX H with⟨c4,H⟩| ⟨c4,H⟩
   ·rcases dX H with⟨c5,H⟩| ⟨c5,H⟩
    ·rcases dX H with⟨c6,H⟩| ⟨c6,H⟩
     ·obtain rfl:=oi H
      exact qr [.b 3 c4,.b 8 c5,.b 13 c6] <| qt <| ⟨.inl rfl,cp (.bool ((n0.args.length:Int)==(0:Int))) h (cn (au))⟩
     ·obtain rfl:=oi H
      exact qr [.b 3 c4,.b 8 c5,.b 13 c6] <| qt <| ⟨.inl rfl,cp (.bool false) h (cn (au))⟩
    ·obtain rfl:=oi H
     exact qr [.b 3 c4,.b 8 c5] <| qt <| ⟨.inl rfl,cp (.bool false) h (cn (au))⟩
   ·obtain rfl:=oi H
    exact qr [.b 3 c4] <| qt <| ⟨.inl rfl,cp (.bool false) h (cn (au))⟩
  ·refine q1 <| qc H (fun c7 H=>?_) (fun c7 H=>?_)
   ·refine qq ?_
    obtain⟨x0,e0,H⟩:=aG H
    rcases dX H with⟨c8,H⟩| ⟨c8,H⟩
    ·rcases dX H with⟨c9,H⟩| ⟨c9,H⟩
     ·obtain rfl:=oi H
      exact qr [.a 2 (Dh _ _ e0 h _ (fT (ab (cF) (aA)))),.b 3 c8,.b 8 c9] <| qt <| ⟨.inl rfl,cp (.bool ((n0.args.length:Int)==(0:Int))) h (cn (au))⟩
     ·obtain rfl:=oi H
      exact qr [.a 2 (Dh _ _ e0 h _ (fT (ab (cF) (aA)))),.b 3 c8,.b 8 c9] <| qt <| ⟨.inl rfl,cp (.bool false) h (cn (au))⟩
    ·obtain rfl:=oi H
     exact qr [.a 2 (Dh _ _ e0 h _ (fT (ab (cF) (aA)))),.b 3 c8] <| qt <| ⟨.inl rfl,cp (.bool false) h (cn (au))⟩
   ·refine q1 <| qc H (fun vJ H=>?_) (fun vJ H=>?_)
    ·refine qq ?_
     rcases dX H with⟨nH,H⟩| ⟨nH,H⟩
     ·rcases dX H with⟨sd,H⟩| ⟨sd,H⟩
      ·obtain rfl:=oi H
       exact qr [.b 3 nH,.b 18 sd] <| qt <| ⟨.inl rfl,cp (.bool ((n0.args.length:Int)==(0:Int))) h (cn (au))⟩
      ·obtain rfl:=oi H
       exact qr [.b 3 nH,.b 18 sd] <| qt <| ⟨.inl rfl,cp (.bool false) h (cn (au))⟩
     ·rcases dX H with⟨tI,H⟩| ⟨tI,H⟩
      ·rcases dX H with⟨qP,H⟩| ⟨qP,H⟩
       ·obtain rfl:=oi H
        exact qr [.b 3 nH,.b 8 tI,.b 18 qP] <| qt <| ⟨.inl rfl,cp (.bool ((n0.args.length:Int)==(0:Int))) h (cn (au))⟩
       ·obtain rfl:=oi H
        exact qr [.b 3 nH,.b 8 tI,.b 18 qP] <| qt <| ⟨.inl rfl,cp (.bool false) h (cn (au))⟩
      ·rcases dX H with⟨Eg,H⟩| ⟨Eg,H⟩
       ·rcases dX H with⟨Eh,H⟩| ⟨Eh,H⟩
        ·obtain rfl:=oi H
         exact qr [.b 3 nH,.b 8 tI,.b 13 Eg,.b 18 Eh] <| qt <| ⟨.inl rfl,cp (.bool ((n0.args.length:Int)==(0:Int))) h (cn (au))⟩
        ·obtain rfl:=oi H
         exact qr [.b 3 nH,.b 8 tI,.b 13 Eg,.b 18 Eh] <| qt <| ⟨.inl rfl,cp (.bool false) h (cn (au))⟩
       ·obtain rfl:=oi H
        exact qr [.b 3 nH,.b 8 tI,.b 13 Eg] <| qt <| ⟨.inl rfl,cp (.bool false) h (cn (au))⟩
    ·refine q1 <| qc H (fun F7 H=>?_) (fun F7 H=>?_)
     ·refine qq <| qq ?_
      obtain⟨x1,e1,H⟩:=aG H
      rcases dX H with⟨NN,H⟩| ⟨NN,H⟩
      ·obtain rfl:=oi H
       exact qr [.a 2 (Dh _ _ e1 h _ (fT (ab (cF) (aA)))),.b 4 NN] <| uD <| qq <| q0 <| qt <| ⟨.inl rfl,cp (.bool false) h (cn (au))⟩
      ·rcases dX H with⟨Mm,H⟩| ⟨Mm,H⟩
       ·obtain rfl:=oi H
        exact qr [.a 2 (Dh _ _ e1 h _ (fT (ab (cF) (aA)))),.b 4 NN,.b 9 Mm] <| uD <| qq <| q0 <| qt <| ⟨.inl rfl,cp (.bool false) h (cn (au))⟩
       ·rcases dX H with⟨UC,H⟩| ⟨UC,H⟩
        ·obtain rfl:=oi H
         exact qr [.a 2 (Dh _ _ e1 h _ (fT (ab (cF) (aA)))),.b 4 NN,.b 9 Mm,.b 15 UC] <| uD <| qq <| q0 <| qt <| ⟨.inl rfl,cp (.bool false) h (cn (au))⟩
        ·refine qr [.a 2 (Dh _ _ e1 h _ (fT (ab (cF) (aA)))),.b 4 NN,.b 9 Mm,.b 15 UC] <| qc H (fun YU H=>?_) (fun YU H=>?_)
         ·obtain rfl:=oi H
          exact q1 <| qt <| ⟨.inl rfl,cp (.bool false) h (cn (au))⟩
         ·refine qk <| qq <| qq <| q0 <| qb 1 ?_
          obtain⟨aF,e4,H⟩:=aG H
          refine ql (cy.bu L n0 aE   (0:Int) _ _ ⟨h,by kernel_rfl,o⟩ e4) ?_
          rintro e s (⟨rfl,i1,rfl,g0,g1,g2,g3,g4,h1,rfl,o1⟩| ⟨rfl,r0,rfl,l8⟩)
          ·try dsimp only at H
           obtain rfl:=oi H
           exact q1 <| qt <| ⟨.inl rfl,cp (.bool true) h1 (cn (au))⟩
          ·try dsimp only at H
           obtain rfl:=oi H
           exact⟨.inl rfl,l8⟩
     ·obtain rfl:=oi H
      exact qk <| qq <| q0 <| qt <| ⟨.inl rfl,cp (.bool false) h (cn (au))⟩
end
end Go.Proofs.YtmekcfdllhphlaaGreatDoor
