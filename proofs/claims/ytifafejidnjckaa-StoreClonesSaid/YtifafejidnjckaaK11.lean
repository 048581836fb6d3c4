/- Part of the proof: Q6, Q7, QA, PA1, PA2, PA3, PA4, PA5, PA6, PA7, PR1. -/
import Derived.Test.YtifafejidnjckaaK10
set_option linter.unusedVariables false
set_option linter.unusedSimpArgs false
set_option maxRecDepth 100000
open Bool renaming false_eq_true → VB, not_true → Wn, true_and → WZ
open Int renaming toNat_natCast → VD, natCast_nonneg → WI
open List renaming getElem?_eq_getElem → Vx, getElem?_eq_some_iff → Vy, length_append → VA, length_set → VC, drop_eq_getElem_cons → VE, length_cons → VF, getElem?_append_left → VG, mem_of_getElem? → VH, append_assoc → VI, replicate → VJ, getElem?_append_right → VL, getD_eq_getElem?_getD → VM, length_map → VN, mem_singleton → VQ, mem_cons → VS, length_nil → VT, map_cons → VU, take_append_of_le_length → VW, mem_append → VX, map_append → VY, getElem?_eq_none → V1, nil_append → V7, mem_map → V8, getElem?_cons_zero → V9, drop_zero → Wa, all_cons → Wf, mem_append_left → Wk, take_succ_eq_append_getElem → Wp, length_take → Wt, getElem?_of_mem → Wu, getElem?_cons_succ → Wv, drop_eq_nil_of_le → WE, append_nil → WN, length_replicate → WO, ext_getElem? → WQ, getElem?_set → WR, map_nil → WU
open Nat renaming le_refl → Vv, zero_add → VO, zero_le → Wg, add_comm → WT, add_zero → WV, sub_self → WW
open Option renaming bind_some → Vq
open Option.some renaming injEq → Vt
namespace Go.Proofs.Ytifafejidnjckaa
open Go Go.R
open Go.IntKind (i64 u64 u8 u32)
def CK:b5:=gV [0,1,2,6,7,8,9,10,11,17,26,28,33,36] [] [16376,15864,16375,16329,16265,15241,16375,16137,14089,16137,15881,11785,15881,7689,15881,15881,16375] [] []
def aI.l0 (m:Nat)(b6:List aN)(eP:Bool):Nat→Int→ab→ab→Option (Int × ab × ab)
 | 0,_,_,_=>none
 | k+1,i0,ly,rE=>if (decide (i0<(b6.length:Int)))=true then (if eP=true then ((ix b6 i0).bind fun v0=>(fM.f m rE v0).bind fun x7=>aI.l0 m b6 eP k (i64.wrap (i0+(1:Int))) ly x7.2) else ((ix b6 i0).bind fun v1=>(fM.f m ly v1).bind fun x8=>aI.l0 m b6 eP k (i64.wrap (i0+(1:Int))) x8.2 rE)) else (some ((i0,ly,rE)))
def aI.l1 (m:Nat)(b6:List aN)(eP:Bool):Nat→Int→ab→ab→Option (Int × ab × ab)
 | 0,_,_,_=>none
 | k+1,i2,rF,rG=>if (decide (i2<(b6.length:Int)))=true then (if eP=true then ((ix b6 i2).bind fun v2=>(fM.f m rG v2).bind fun PF=>aI.l1 m b6 eP k (i64.wrap (i2+(1:Int))) rF PF.2) else ((ix b6 i2).bind fun v3=>(fM.f m rF v3).bind fun PG=>aI.l1 m b6 eP k (i64.wrap (i2+(1:Int))) PG.2 rG)) else (some ((i2,rF,rG)))
def aI.f (m:Nat)(l0:List aN)(b6:List aN)(eP:Bool):Option (Bool):=(bB.f m l0).bind fun x0=>if x0=true then ((dP.f m).bind fun x1=>some x1) else ((bB.f m b6).bind fun x2=>if x2=true then ((dP.f m).bind fun x3=>some x3) else ((cd.f m l0).bind fun x4=>(cd.f m l0).bind fun x5=>(de.f m x4).bind fun x6=>I3 x6.1 (some false) fun nX=>if eP=true then ((aI.l0 m b6 eP m (0:Int) nX x6.2).bind fun cg=>match cg with | (i1,cj,fy)=>(bN.f m cj).bind fun x9=>(bN.f m x5).bind fun lG=>if (x9==lG)=true then ((bU.f m cj).bind fun Db=>(bU.f m x5).bind fun G1=>(b9.f m Db G1).bind fun tD=>if tD=true then ((dP.f m).bind fun PH=>some PH) else (some false)) else (some false)) else ((aI.l1 m b6 eP m (0:Int) nX x6.2).bind fun dr=>match dr with | (i3,cz,eJ)=>(bN.f m eJ).bind fun Rx=>(bN.f m x5).bind fun Ry=>if (Rx==Ry)=true then ((bU.f m eJ).bind fun Rz=>(bU.f m x5).bind fun RA=>(b9.f m Rz RA).bind fun RB=>if RB=true then ((dP.f m).bind fun PI=>some PI) else (some false)) else (some false))))
def aI.fin (L:Mem)(r:Bool)(s:St):Prop:=∃av,aP Try.prog (s.open CK) Try.f6.results.toList=some av∧fD s.h av (.bool r)
def S6 (cf:CallF)(m:Nat):Prop:=∀(l0:List aN) (b6:List aN) (eP:Bool) (r:Bool),aI.f m l0 b6 eP=some r→∀h xs,aQ bQ h xs [aH.fz l0,aH.fz b6,.bool eP]→cf 6 xs h=some (.bool r,h)
section
variable {cf:CallF}{m:Nat}
theorem aI.dy (L:Mem)(l0:List aN)(b6:List aN)(eP:Bool)(aG:Nat)(x5:ab)(cV:Nat)(dW:Nat)(eT:Nat)(bX:Nat)  (q8:Kn cf m):dY Try.prog cf CK m (sub [1,1,1,1,1,1,1,0,1,0,0] (b8 Try.f6)) (fun k (σ:Int × ab × ab)=>aI.l0 m b6 eP k σ.1 σ.2.1 σ.2.2) (fun σ s=>match σ with | (i0,ly,rE)=>∃kB kX oZ nn h4,s=⟨.any::aH.fz b6 :: .bool eP :: .any :: .ptr aG 0 :: .ptr cV 0 :: .ptr bX 0 :: .ptr bX 0 :: .int .i64 i0::C9 [],[],h4⟩∧Has h4 ((bX,.ob [.bool ly.aj,.rs kB 0 ly.aa.length 4,.rs kX 0 ly.ae.length 1])::(kB,.sl ly.aa.length 4 (ai.l ly.aa))::(kX,.sl ly.ae.length 1 (af.l ly.ae))::(aG,.ob [.bool rE.aj,.rs oZ 0 rE.aa.length 4,.rs nn 0 rE.ae.length 1])::(oZ,.sl rE.aa.length 4 (ai.l rE.aa))::(nn,.sl rE.ae.length 1 (af.l rE.ae))::(cV,.ob [.bool x5.aj,.rs dW 0 x5.aa.length 4,.rs eT 0 x5.ae.length 1])::(dW,.sl x5.aa.length 4 (ai.l x5.aa))::(eT,.sl x5.ae.length 1 (af.l x5.ae))::L)) (fun out e s=>(e = .exit 0∧∃i0 ly rE,(i0,ly,rE)=out∧∃vG G3 CB xD zr ER kB kX oZ nn h4,s=⟨.any::vG::G3 :: .any::CB :: .ptr cV 0::xD :: .ptr bX 0::zr::rA [ER,.any],[],h4⟩∧Has h4 ((bX,.ob [.bool ly.aj,.rs kB 0 ly.aa.length 4,.rs kX 0 ly.ae.length 1])::(kB,.sl ly.aa.length 4 (ai.l ly.aa))::(kX,.sl ly.ae.length 1 (af.l ly.ae))::(aG,.ob [.bool rE.aj,.rs oZ 0 rE.aa.length 4,.rs nn 0 rE.ae.length 1])::(oZ,.sl rE.aa.length 4 (ai.l rE.aa))::(nn,.sl rE.ae.length 1 (af.l rE.ae))::(cV,.ob [.bool x5.aj,.rs dW 0 x5.aa.length 4,.rs eT 0 x5.ae.length 1])::(dW,.sl x5.aa.length 4 (ai.l x5.aa))::(eT,.sl x5.ae.length 1 (af.l x5.ae))::L))):=by
 refine mf (fun _=>rfl) ?_
 rintro k ⟨i0,ly,rE⟩ s out ⟨kB,kX,oZ,nn,h4,rfl,vK⟩ H
 have H:aI.l0 m b6 eP (k+1) i0 ly rE=some out:=H
 refine qq <| qq <| q0 <| qc H (fun c6 H=>?_) (fun c6 H=>?_)
 ·refine qk <| qq <| qb 1 <| qq <| q0 <| qc H (fun c7 H=>?_) (fun c7 H=>?_)
  ·obtain⟨v0,wo,H⟩:=bk H
   obtain⟨x7,zm,H⟩:=bk H
   obtain⟨vQ,LI,h5,zn,Dc⟩:=q8 _ _ _ zm h4 _ _ _ _ ((Has.front (Has.front (Has.front (Has.front (Has.front (Has.front (Has.front (Has.front (Has.front vK 8 rfl) 8 rfl) 8 rfl) 5 rfl) 5 rfl) 5 rfl) 8 rfl) 8 rfl) 8 rfl))  [.ptr aG 0,.agg [.int .i64 v0.eh,.int .i64 v0.rD,.int .i64 v0.yz,.str v0.dV,af.fz v0.eW,ai.fz v0.qN.nodes,.int .i64 v0.qN.root]] (ar (rfl) (ar (aO (jV (ba (aW) (ba (aW) (ba (aW) (ba (iT) (ba (jg (E:=af)) (ba (jg (E:=ai)) (ba (aW) (jU)))))))))) (bA)))
   exact qr [.v 3 (fm (k:=.i64) (E:=aH) (l:=b6) HY wo),.v 4 (jm  (E:=aH) (l:=b6) h4 Ly Lz wo),.a 5 zn] <| q0 <| ⟨(i64.wrap (i0+(1:Int)),ly,x7.2),⟨kB,kX,vQ,LI,h5,by kernel_rfl,(Has.front (Has.front (Has.front (Has.front (Has.front (Has.front (Has.front (Has.front (Has.front Dc 8 rfl) 8 rfl) 8 rfl) 5 rfl) 5 rfl) 5 rfl) 8 rfl) 8 rfl) 8 rfl)⟩,H⟩
  ·obtain⟨v1,AI,H⟩:=bk H
   obtain⟨x8,A4,H⟩:=bk H
   obtain⟨G5,EM,h6,EH,Dd⟩:=q8 _ _ _ A4 h4 _ _ _ _ (vK)  [.ptr bX 0,.agg [.int .i64 v1.eh,.int .i64 v1.rD,.int .i64 v1.yz,.str v1.dV,af.fz v1.eW,ai.fz v1.qN.nodes,.int .i64 v1.qN.root]] (ar (rfl) (ar (aO (jV (ba (aW) (ba (aW) (ba (aW) (ba (iT) (ba (jg (E:=af)) (ba (jg (E:=ai)) (ba (aW) (jU)))))))))) (bA)))
   exact qr [.v 3 (fm (k:=.i64) (E:=aH) (l:=b6) HY AI),.v 4 (jm  (E:=aH) (l:=b6) h4 Ly Lz AI),.a 5 EH] <| q0 <| ⟨(i64.wrap (i0+(1:Int)),x8.2,rE),⟨G5,EM,oZ,nn,h6,by kernel_rfl,Dd⟩,H⟩
 ·exact qx 0 <| ⟨rfl,i0,ly,rE,oi H,aH.fz b6,.bool eP,.ptr aG 0,.ptr bX 0,.int .i64 i0,.bool (decide (i0<(b6.length:Int))),kB,kX,oZ,nn,h4,by kernel_rfl,vK⟩
theorem aI.kT (L:Mem)(b6:List aN)(eP:Bool)(aG:Nat)(x5:ab)(cV:Nat)(dW:Nat)(eT:Nat)(bX:Nat)  (q8:Kn cf m):dY Try.prog cf CK m (sub [1,1,1,1,1,1,1,0,1,0,0] (b8 Try.f6)) (fun k (σ:Int × ab × ab)=>aI.l1 m b6 eP k σ.1 σ.2.1 σ.2.2) (fun σ s=>match σ with | (i2,rF,rG)=>∃xQ xR xS xT h8,s=⟨.any::aH.fz b6 :: .bool eP :: .any :: .ptr aG 0 :: .ptr cV 0 :: .ptr bX 0 :: .ptr aG 0 :: .int .i64 i2::C9 [],[],h8⟩∧Has h8 ((bX,.ob [.bool rF.aj,.rs xQ 0 rF.aa.length 4,.rs xR 0 rF.ae.length 1])::(xQ,.sl rF.aa.length 4 (ai.l rF.aa))::(xR,.sl rF.ae.length 1 (af.l rF.ae))::(aG,.ob [.bool rG.aj,.rs xS 0 rG.aa.length 4,.rs xT 0 rG.ae.length 1])::(xS,.sl rG.aa.length 4 (ai.l rG.aa))::(xT,.sl rG.ae.length 1 (af.l rG.ae))::(cV,.ob [.bool x5.aj,.rs dW 0 x5.aa.length 4,.rs eT 0 x5.ae.length 1])::(dW,.sl x5.aa.length 4 (ai.l x5.aa))::(eT,.sl x5.ae.length 1 (af.l x5.ae))::L)) (fun out e s=>(e = .exit 0∧∃i2 rF rG,(i2,rF,rG)=out∧∃vG G3 CB xD zr ER xQ xR xS xT h8,s=⟨.any::vG::G3 :: .any::CB :: .ptr cV 0::xD :: .ptr aG 0::zr::rA [ER,.any],[],h8⟩∧Has h8 ((bX,.ob [.bool rF.aj,.rs xQ 0 rF.aa.length 4,.rs xR 0 rF.ae.length 1])::(xQ,.sl rF.aa.length 4 (ai.l rF.aa))::(xR,.sl rF.ae.length 1 (af.l rF.ae))::(aG,.ob [.bool rG.aj,.rs xS 0 rG.aa.length 4,.rs xT 0 rG.ae.length 1])::(xS,.sl rG.aa.length 4 (ai.l rG.aa))::(xT,.sl rG.ae.length 1 (af.l rG.ae))::(cV,.ob [.bool x5.aj,.rs dW 0 x5.aa.length 4,.rs eT 0 x5.ae.length 1])::(dW,.sl x5.aa.length 4 (ai.l x5.aa))::(eT,.sl x5.ae.length 1 (af.l x5.ae))::L))):=by
 refine mf (fun _=>rfl) ?_
 rintro k ⟨i2,rF,rG⟩ s out ⟨xQ,xR,xS,xT,h8,rfl,PJ⟩ H
 have H:aI.l1 m b6 eP (k+1) i2 rF rG=some out:=H
 refine qq <| qq <| q0 <| qc H (fun Ey H=>?_) (fun Ey H=>?_)
 ·refine qk <| qq <| qb 1 <| qq <| q0 <| qc H (fun xK H=>?_) (fun xK H=>?_)
  ·obtain⟨v2,F9,H⟩:=bk H
   obtain⟨PF,Ga,H⟩:=bk H
   obtain⟨PK,PL,h9,H2,Tn⟩:=q8 _ _ _ Ga h8 _ _ _ _ ((Has.front (Has.front (Has.front (Has.front (Has.front (Has.front (Has.front (Has.front (Has.front PJ 8 rfl) 8 rfl) 8 rfl) 5 rfl) 5 rfl) 5 rfl) 8 rfl) 8 rfl) 8 rfl))  [.ptr aG 0,.agg [.int .i64 v2.eh,.int .i64 v2.rD,.int .i64 v2.yz,.str v2.dV,af.fz v2.eW,ai.fz v2.qN.nodes,.int .i64 v2.qN.root]] (ar (rfl) (ar (aO (jV (ba (aW) (ba (aW) (ba (aW) (ba (iT) (ba (jg (E:=af)) (ba (jg (E:=ai)) (ba (aW) (jU)))))))))) (bA)))
   exact qr [.v 3 (fm (k:=.i64) (E:=aH) (l:=b6) HY F9),.v 4 (jm  (E:=aH) (l:=b6) h8 Ly Lz F9),.a 5 H2] <| q0 <| ⟨(i64.wrap (i2+(1:Int)),rF,PF.2),⟨xQ,xR,PK,PL,h9,by kernel_rfl,(Has.front (Has.front (Has.front (Has.front (Has.front (Has.front (Has.front (Has.front (Has.front Tn 8 rfl) 8 rfl) 8 rfl) 5 rfl) 5 rfl) 5 rfl) 8 rfl) 8 rfl) 8 rfl)⟩,H⟩
  ·obtain⟨v3,Kl,H⟩:=bk H
   obtain⟨PG,LP,H⟩:=bk H
   obtain⟨PM,PN,h10,Kk,To⟩:=q8 _ _ _ LP h8 _ _ _ _ (PJ)  [.ptr bX 0,.agg [.int .i64 v3.eh,.int .i64 v3.rD,.int .i64 v3.yz,.str v3.dV,af.fz v3.eW,ai.fz v3.qN.nodes,.int .i64 v3.qN.root]] (ar (rfl) (ar (aO (jV (ba (aW) (ba (aW) (ba (aW) (ba (iT) (ba (jg (E:=af)) (ba (jg (E:=ai)) (ba (aW) (jU)))))))))) (bA)))
   exact qr [.v 3 (fm (k:=.i64) (E:=aH) (l:=b6) HY Kl),.v 4 (jm  (E:=aH) (l:=b6) h8 Ly Lz Kl),.a 5 Kk] <| q0 <| ⟨(i64.wrap (i2+(1:Int)),PG.2,rG),⟨PM,PN,xS,xT,h10,by kernel_rfl,To⟩,H⟩
 ·exact qx 0 <| ⟨rfl,i2,rF,rG,oi H,aH.fz b6,.bool eP,.ptr aG 0,.ptr bX 0,.int .i64 i2,.bool (decide (i2<(b6.length:Int))),xQ,xR,xS,xT,h8,by kernel_rfl,PJ⟩
theorem lN {aX:FuncId→b5}(ha:aX 6=CK)(JB:QE cf m)(G6:QB cf m)(LY:Rw cf m)(G7:QF cf m)(xU:Rk cf m)(q8:Kn cf m)(nr:MF cf m)(LZ:QQ cf m)(l0:List aN)(b6:List aN)(eP:Bool)(h:AHeap)(L:Mem)  (o:Has h (L)){out:Bool}(H:aI.f m l0 b6 eP=some out) :
  ∃r h',a6 Try.prog aX cf m 6 [aH.fz l0,aH.fz b6,.bool eP] h=some (r,h')∧fD h' r (.bool out):=by
 refine au (fn:=Try.f6) ha Try.func6 (by kernel_rfl) (by kernel_rfl) ?_
 refine aK (Q:=fun s=>aI.fin L out s) (fun _ _ h=>h) ?_
 have H:_=some out:=H
 unfold aI.f at H
 show du _ cf CK m _ ⟨aH.fz l0::aH.fz b6 :: .bool eP::sy [],[],h⟩ _
 refine q1 <| qq <| qq ?_
 obtain⟨x0,e0,H⟩:=bk H
 rcases iw H with⟨c0,H⟩| ⟨c0,H⟩
 ·refine qr [.a 1 (JB _ _ e0 h _ (eQ (ah (eG (E:=aH)) (aw)))),.b 2 c0] <| Ke <| qq ?_
  obtain⟨x1,e1,H⟩:=bk H
  obtain rfl:=oi H
  exact qr [.a 0 (G6 _ e1 h _ (eQ (aw)))] <| qt <| ⟨.inl rfl,dv (.bool x1) h (dq (aD))⟩
 ·obtain⟨x2,e2,H⟩:=bk H
  refine qr [.a 1 (JB _ _ e0 h _ (eQ (ah (eG (E:=aH)) (aw)))),.b 2 c0,.a 4 (JB _ _ e2 h _ (eQ (ah (eG (E:=aH)) (aw))))] <| qc H (fun c2 H=>?_) (fun c2 H=>?_)
  ·refine qq ?_
   obtain⟨x3,e3,H⟩:=bk H
   obtain rfl:=oi H
   exact qr [.a 0 (G6 _ e3 h _ (eQ (aw)))] <| qt <| ⟨.inl rfl,dv (.bool x3) h (dq (aD))⟩
  ·refine qk <| qq ?_
   obtain⟨x4,e4,H⟩:=bk H
   obtain⟨aG,eo,eX,h0,e5,o0⟩:=LY _ _ e4 h _  (o)  [aH.fz l0] (ar (aO (jg (E:=aH))) (bA))
   obtain⟨x5,e6,H⟩:=bk H
   obtain⟨cV,dW,eT,h1,e7,o1⟩:=LY _ _ e6 h0 _  (o0)  [aH.fz l0] (ar (aO (jg (E:=aH))) (bA))
   refine qr [.a 1 e5,.a 3 e7] <| qq ?_
   obtain⟨x6,e8,H⟩:=bk H
   rcases CA H with⟨hn0,H⟩| ⟨nX,hn0,H⟩
   ·obtain⟨ku,ju,lf,tG,gd,h2,e9,o2⟩:=LZ _ _ e8 h1 _ _ _ _ ((Has.front (Has.front (Has.front (Has.front (Has.front (Has.front o1 2 rfl) 2 rfl) 2 rfl) 5 rfl) 5 rfl) 5 rfl))  [.ptr aG 0] (ar (rfl) (bA))
    rw [hn0] at e9 o2
    refine qr [.a 1 e9] <| qq <| qq <| q0 <| Ke <| qq <| q0 ?_
    have o3:Has h2 ((aG,.ob [.bool x6.2.aj,.rs tG 0 x6.2.aa.length 4,.rs gd 0 x6.2.ae.length 1])::(tG,.sl x6.2.aa.length 4 (ai.l x6.2.aa))::(gd,.sl x6.2.ae.length 1 (af.l x6.2.ae))::(cV,.ob [.bool x5.aj,.rs dW 0 x5.aa.length 4,.rs eT 0 x5.ae.length 1])::(dW,.sl x5.aa.length 4 (ai.l x5.aa))::L):=Has.del o2 5
    have o4:Has h2 ((aG,.ob [.bool x6.2.aj,.rs tG 0 x6.2.aa.length 4,.rs gd 0 x6.2.ae.length 1])::(tG,.sl x6.2.aa.length 4 (ai.l x6.2.aa))::(gd,.sl x6.2.ae.length 1 (af.l x6.2.ae))::(cV,.ob [.bool x5.aj,.rs dW 0 x5.aa.length 4,.rs eT 0 x5.ae.length 1])::L):=Has.del o3 4
    have o5:Has h2 ((aG,.ob [.bool x6.2.aj,.rs tG 0 x6.2.aa.length 4,.rs gd 0 x6.2.ae.length 1])::(tG,.sl x6.2.aa.length 4 (ai.l x6.2.aa))::(gd,.sl x6.2.ae.length 1 (af.l x6.2.ae))::L):=Has.del o4 3
    have o6:Has h2 ((aG,.ob [.bool x6.2.aj,.rs tG 0 x6.2.aa.length 4,.rs gd 0 x6.2.ae.length 1])::(tG,.sl x6.2.aa.length 4 (ai.l x6.2.aa))::L):=Has.del o5 2
    have o7:Has h2 ((aG,.ob [.bool x6.2.aj,.rs tG 0 x6.2.aa.length 4,.rs gd 0 x6.2.ae.length 1])::L):=Has.del o6 1
    have o8:Has h2 (L):=Has.del o7 0
    obtain rfl:=oi H
    exact qt <| ⟨.inl rfl,dv (.bool false) h2 (dq (aD))⟩
   ·obtain⟨bX,j8,kW,vP,tH,h3,ti,o9⟩:=LZ _ _ e8 h1 _ _ _ _ ((Has.front (Has.front (Has.front (Has.front (Has.front (Has.front o1 2 rfl) 2 rfl) 2 rfl) 5 rfl) 5 rfl) 5 rfl))  [.ptr aG 0] (ar (rfl) (bA))
    rw [hn0] at ti o9
    refine qr [.a 1 ti] <| qq <| qq <| q0 <| Eg <| qk <| qq <| q0 <| qq <| qq <| q0 <| qc H (fun c5 H=>?_) (fun c5 H=>?_)
    ·refine q0 <| qq <| qq <| q0 <| qb 0 ?_
     obtain⟨cg,EI,H⟩:=bk H
     refine ql (aI.dy L l0 b6 eP aG x5 cV dW eT bX  q8 ((0:Int),nX,x6.2) _ _ ⟨j8,kW,vP,tH,h3,by kernel_rfl,o9⟩ EI) ?_
     rintro e s ⟨rfl,i1,cj,fy,rfl,g0,g1,g2,g3,g4,g5,eL,fE,iX,jz,h7,rfl,jq⟩
     try dsimp only at H
     refine qq ?_
     obtain⟨x9,EJ,H⟩:=bk H
     obtain⟨lG,CH,H⟩:=bk H
     rcases iw H with⟨c8,H⟩| ⟨c8,H⟩
     ·obtain⟨Db,F7,H⟩:=bk H
      obtain⟨G1,EK,H⟩:=bk H
      obtain⟨tD,EL,H⟩:=bk H
      rcases iw H with⟨c9,H⟩| ⟨c9,H⟩
      ·obtain⟨PH,F8,H⟩:=bk H
       refine qr [.a 1 (nr _ _ EJ h7 _ (eQ (ah (bS (q:=0) jq rfl (ah (b4) (ah (bI (E:=ai) (l:=cj.aa) (q:=1) jq rfl (fun _=>rfl)) (ah (bI (E:=af) (l:=cj.ae) (q:=2) jq rfl (fun _=>rfl)) (aw))))) (aw)))),.a 3 (nr _ _ CH h7 _ (eQ (ah (bS (q:=6) jq rfl (ah (b4) (ah (bI (E:=ai) (l:=x5.aa) (q:=7) jq rfl (fun _=>rfl)) (ah (bI (E:=af) (l:=x5.ae) (q:=8) jq rfl (fun _=>rfl)) (aw))))) (aw)))),.b 5 c8,.a 7 (xU _ _ F7 h7 _ (eQ (ah (bS (q:=0) jq rfl (ah (b4) (ah (bI (E:=ai) (l:=cj.aa) (q:=1) jq rfl (fun _=>rfl)) (ah (bI (E:=af) (l:=cj.ae) (q:=2) jq rfl (fun _=>rfl)) (aw))))) (aw)))),.a 9 (xU _ _ EK h7 _ (eQ (ah (bS (q:=6) jq rfl (ah (b4) (ah (bI (E:=ai) (l:=x5.aa) (q:=7) jq rfl (fun _=>rfl)) (ah (bI (E:=af) (l:=x5.ae) (q:=8) jq rfl (fun _=>rfl)) (aw))))) (aw)))),.a 10 (G7 _ _ _ EL h7 _ (eQ (ah (eG (E:=af)) (ah (eG (E:=af)) (aw))))),.b 12 c9,.a 13 (G6 _ F8 h7 _ (eQ (aw)))] ?_
       have vR:Has h7 ((bX,.ob [.bool cj.aj,.rs eL 0 cj.aa.length 4,.rs fE 0 cj.ae.length 1])::(eL,.sl cj.aa.length 4 (ai.l cj.aa))::(fE,.sl cj.ae.length 1 (af.l cj.ae))::(aG,.ob [.bool fy.aj,.rs iX 0 fy.aa.length 4,.rs jz 0 fy.ae.length 1])::(iX,.sl fy.aa.length 4 (ai.l fy.aa))::(jz,.sl fy.ae.length 1 (af.l fy.ae))::(cV,.ob [.bool x5.aj,.rs dW 0 x5.aa.length 4,.rs eT 0 x5.ae.length 1])::(dW,.sl x5.aa.length 4 (ai.l x5.aa))::L):=Has.del jq 8
       have EN:Has h7 ((bX,.ob [.bool cj.aj,.rs eL 0 cj.aa.length 4,.rs fE 0 cj.ae.length 1])::(eL,.sl cj.aa.length 4 (ai.l cj.aa))::(fE,.sl cj.ae.length 1 (af.l cj.ae))::(aG,.ob [.bool fy.aj,.rs iX 0 fy.aa.length 4,.rs jz 0 fy.ae.length 1])::(iX,.sl fy.aa.length 4 (ai.l fy.aa))::(jz,.sl fy.ae.length 1 (af.l fy.ae))::(cV,.ob [.bool x5.aj,.rs dW 0 x5.aa.length 4,.rs eT 0 x5.ae.length 1])::L):=Has.del vR 7
       have zt:Has h7 ((bX,.ob [.bool cj.aj,.rs eL 0 cj.aa.length 4,.rs fE 0 cj.ae.length 1])::(eL,.sl cj.aa.length 4 (ai.l cj.aa))::(fE,.sl cj.ae.length 1 (af.l cj.ae))::(aG,.ob [.bool fy.aj,.rs iX 0 fy.aa.length 4,.rs jz 0 fy.ae.length 1])::(iX,.sl fy.aa.length 4 (ai.l fy.aa))::(jz,.sl fy.ae.length 1 (af.l fy.ae))::L):=Has.del EN 6
       have Df:Has h7 ((bX,.ob [.bool cj.aj,.rs eL 0 cj.aa.length 4,.rs fE 0 cj.ae.length 1])::(eL,.sl cj.aa.length 4 (ai.l cj.aa))::(fE,.sl cj.ae.length 1 (af.l cj.ae))::(aG,.ob [.bool fy.aj,.rs iX 0 fy.aa.length 4,.rs jz 0 fy.ae.length 1])::(iX,.sl fy.aa.length 4 (ai.l fy.aa))::L):=Has.del zt 5
       have De:Has h7 ((bX,.ob [.bool cj.aj,.rs eL 0 cj.aa.length 4,.rs fE 0 cj.ae.length 1])::(eL,.sl cj.aa.length 4 (ai.l cj.aa))::(fE,.sl cj.ae.length 1 (af.l cj.ae))::(aG,.ob [.bool fy.aj,.rs iX 0 fy.aa.length 4,.rs jz 0 fy.ae.length 1])::L):=Has.del Df 4
       have CI:Has h7 ((bX,.ob [.bool cj.aj,.rs eL 0 cj.aa.length 4,.rs fE 0 cj.ae.length 1])::(eL,.sl cj.aa.length 4 (ai.l cj.aa))::(fE,.sl cj.ae.length 1 (af.l cj.ae))::L):=Has.del De 3
       have LW:Has h7 ((bX,.ob [.bool cj.aj,.rs eL 0 cj.aa.length 4,.rs fE 0 cj.ae.length 1])::(eL,.sl cj.aa.length 4 (ai.l cj.aa))::L):=Has.del CI 2
       have CJ:Has h7 ((bX,.ob [.bool cj.aj,.rs eL 0 cj.aa.length 4,.rs fE 0 cj.ae.length 1])::L):=Has.del LW 1
       have Jy:Has h7 (L):=Has.del CJ 0
       obtain rfl:=oi H
       exact qt <| ⟨.inl rfl,dv (.bool PH) h7 (dq (aD))⟩
      ·refine qr [.a 1 (nr _ _ EJ h7 _ (eQ (ah (bS (q:=0) jq rfl (ah (b4) (ah (bI (E:=ai) (l:=cj.aa) (q:=1) jq rfl (fun _=>rfl)) (ah (bI (E:=af) (l:=cj.ae) (q:=2) jq rfl (fun _=>rfl)) (aw))))) (aw)))),.a 3 (nr _ _ CH h7 _ (eQ (ah (bS (q:=6) jq rfl (ah (b4) (ah (bI (E:=ai) (l:=x5.aa) (q:=7) jq rfl (fun _=>rfl)) (ah (bI (E:=af) (l:=x5.ae) (q:=8) jq rfl (fun _=>rfl)) (aw))))) (aw)))),.b 5 c8,.a 7 (xU _ _ F7 h7 _ (eQ (ah (bS (q:=0) jq rfl (ah (b4) (ah (bI (E:=ai) (l:=cj.aa) (q:=1) jq rfl (fun _=>rfl)) (ah (bI (E:=af) (l:=cj.ae) (q:=2) jq rfl (fun _=>rfl)) (aw))))) (aw)))),.a 9 (xU _ _ EK h7 _ (eQ (ah (bS (q:=6) jq rfl (ah (b4) (ah (bI (E:=ai) (l:=x5.aa) (q:=7) jq rfl (fun _=>rfl)) (ah (bI (E:=af) (l:=x5.ae) (q:=8) jq rfl (fun _=>rfl)) (aw))))) (aw)))),.a 10 (G7 _ _ _ EL h7 _ (eQ (ah (eG (E:=af)) (ah (eG (E:=af)) (aw))))),.b 12 c9] ?_
       have LX:Has h7 ((bX,.ob [.bool cj.aj,.rs eL 0 cj.aa.length 4,.rs fE 0 cj.ae.length 1])::(eL,.sl cj.aa.length 4 (ai.l cj.aa))::(fE,.sl cj.ae.length 1 (af.l cj.ae))::(aG,.ob [.bool fy.aj,.rs iX 0 fy.aa.length 4,.rs jz 0 fy.ae.length 1])::(iX,.sl fy.aa.length 4 (ai.l fy.aa))::(jz,.sl fy.ae.length 1 (af.l fy.ae))::(cV,.ob [.bool x5.aj,.rs dW 0 x5.aa.length 4,.rs eT 0 x5.ae.length 1])::(dW,.sl x5.aa.length 4 (ai.l x5.aa))::L):=Has.del jq 8
       have Pf:Has h7 ((bX,.ob [.bool cj.aj,.rs eL 0 cj.aa.length 4,.rs fE 0 cj.ae.length 1])::(eL,.sl cj.aa.length 4 (ai.l cj.aa))::(fE,.sl cj.ae.length 1 (af.l cj.ae))::(aG,.ob [.bool fy.aj,.rs iX 0 fy.aa.length 4,.rs jz 0 fy.ae.length 1])::(iX,.sl fy.aa.length 4 (ai.l fy.aa))::(jz,.sl fy.ae.length 1 (af.l fy.ae))::(cV,.ob [.bool x5.aj,.rs dW 0 x5.aa.length 4,.rs eT 0 x5.ae.length 1])::L):=Has.del LX 7
       have Pg:Has h7 ((bX,.ob [.bool cj.aj,.rs eL 0 cj.aa.length 4,.rs fE 0 cj.ae.length 1])::(eL,.sl cj.aa.length 4 (ai.l cj.aa))::(fE,.sl cj.ae.length 1 (af.l cj.ae))::(aG,.ob [.bool fy.aj,.rs iX 0 fy.aa.length 4,.rs jz 0 fy.ae.length 1])::(iX,.sl fy.aa.length 4 (ai.l fy.aa))::(jz,.sl fy.ae.length 1 (af.l fy.ae))::L):=Has.del Pf 6
       have Ph:Has h7 ((bX,.ob [.bool cj.aj,.rs eL 0 cj.aa.length 4,.rs fE 0 cj.ae.length 1])::(eL,.sl cj.aa.length 4 (ai.l cj.aa))::(fE,.sl cj.ae.length 1 (af.l cj.ae))::(aG,.ob [.bool fy.aj,.rs iX 0 fy.aa.length 4,.rs jz 0 fy.ae.length 1])::(iX,.sl fy.aa.length 4 (ai.l fy.aa))::L):=Has.del Pg 5
       have Km:Has h7 ((bX,.ob [.bool cj.aj,.rs eL 0 cj.aa.length 4,.rs fE 0 cj.ae.length 1])::(eL,.sl cj.aa.length 4 (ai.l cj.aa))::(fE,.sl cj.ae.length 1 (af.l cj.ae))::(aG,.ob [.bool fy.aj,.rs iX 0 fy.aa.length 4,.rs jz 0 fy.ae.length 1])::L):=Has.del Ph 4
       have Pj:Has h7 ((bX,.ob [.bool cj.aj,.rs eL 0 cj.aa.length 4,.rs fE 0 cj.ae.length 1])::(eL,.sl cj.aa.length 4 (ai.l cj.aa))::(fE,.sl cj.ae.length 1 (af.l cj.ae))::L):=Has.del Km 3
       have Pk:Has h7 ((bX,.ob [.bool cj.aj,.rs eL 0 cj.aa.length 4,.rs fE 0 cj.ae.length 1])::(eL,.sl cj.aa.length 4 (ai.l cj.aa))::L):=Has.del Pj 2
       have Pl:Has h7 ((bX,.ob [.bool cj.aj,.rs eL 0 cj.aa.length 4,.rs fE 0 cj.ae.length 1])::L):=Has.del Pk 1
       have Rr:Has h7 (L):=Has.del Pl 0
       obtain rfl:=oi H
       exact qt <| ⟨.inl rfl,dv (.bool false) h7 (dq (aD))⟩
     ·refine qr [.a 1 (nr _ _ EJ h7 _ (eQ (ah (bS (q:=0) jq rfl (ah (b4) (ah (bI (E:=ai) (l:=cj.aa) (q:=1) jq rfl (fun _=>rfl)) (ah (bI (E:=af) (l:=cj.ae) (q:=2) jq rfl (fun _=>rfl)) (aw))))) (aw)))),.a 3 (nr _ _ CH h7 _ (eQ (ah (bS (q:=6) jq rfl (ah (b4) (ah (bI (E:=ai) (l:=x5.aa) (q:=7) jq rfl (fun _=>rfl)) (ah (bI (E:=af) (l:=x5.ae) (q:=8) jq rfl (fun _=>rfl)) (aw))))) (aw)))),.b 5 c8] ?_
      have Pm:Has h7 ((bX,.ob [.bool cj.aj,.rs eL 0 cj.aa.length 4,.rs fE 0 cj.ae.length 1])::(eL,.sl cj.aa.length 4 (ai.l cj.aa))::(fE,.sl cj.ae.length 1 (af.l cj.ae))::(aG,.ob [.bool fy.aj,.rs iX 0 fy.aa.length 4,.rs jz 0 fy.ae.length 1])::(iX,.sl fy.aa.length 4 (ai.l fy.aa))::(jz,.sl fy.ae.length 1 (af.l fy.ae))::(cV,.ob [.bool x5.aj,.rs dW 0 x5.aa.length 4,.rs eT 0 x5.ae.length 1])::(dW,.sl x5.aa.length 4 (ai.l x5.aa))::L):=Has.del jq 8
      have Rs:Has h7 ((bX,.ob [.bool cj.aj,.rs eL 0 cj.aa.length 4,.rs fE 0 cj.ae.length 1])::(eL,.sl cj.aa.length 4 (ai.l cj.aa))::(fE,.sl cj.ae.length 1 (af.l cj.ae))::(aG,.ob [.bool fy.aj,.rs iX 0 fy.aa.length 4,.rs jz 0 fy.ae.length 1])::(iX,.sl fy.aa.length 4 (ai.l fy.aa))::(jz,.sl fy.ae.length 1 (af.l fy.ae))::(cV,.ob [.bool x5.aj,.rs dW 0 x5.aa.length 4,.rs eT 0 x5.ae.length 1])::L):=Has.del Pm 7
      have Tp:Has h7 ((bX,.ob [.bool cj.aj,.rs eL 0 cj.aa.length 4,.rs fE 0 cj.ae.length 1])::(eL,.sl cj.aa.length 4 (ai.l cj.aa))::(fE,.sl cj.ae.length 1 (af.l cj.ae))::(aG,.ob [.bool fy.aj,.rs iX 0 fy.aa.length 4,.rs jz 0 fy.ae.length 1])::(iX,.sl fy.aa.length 4 (ai.l fy.aa))::(jz,.sl fy.ae.length 1 (af.l fy.ae))::L):=Has.del Rs 6
      have Tq:Has h7 ((bX,.ob [.bool cj.aj,.rs eL 0 cj.aa.length 4,.rs fE 0 cj.ae.length 1])::(eL,.sl cj.aa.length 4 (ai.l cj.aa))::(fE,.sl cj.ae.length 1 (af.l cj.ae))::(aG,.ob [.bool fy.aj,.rs iX 0 fy.aa.length 4,.rs jz 0 fy.ae.length 1])::(iX,.sl fy.aa.length 4 (ai.l fy.aa))::L):=Has.del Tp 5
      have Tr:Has h7 ((bX,.ob [.bool cj.aj,.rs eL 0 cj.aa.length 4,.rs fE 0 cj.ae.length 1])::(eL,.sl cj.aa.length 4 (ai.l cj.aa))::(fE,.sl cj.ae.length 1 (af.l cj.ae))::(aG,.ob [.bool fy.aj,.rs iX 0 fy.aa.length 4,.rs jz 0 fy.ae.length 1])::L):=Has.del Tq 4
      have Ts:Has h7 ((bX,.ob [.bool cj.aj,.rs eL 0 cj.aa.length 4,.rs fE 0 cj.ae.length 1])::(eL,.sl cj.aa.length 4 (ai.l cj.aa))::(fE,.sl cj.ae.length 1 (af.l cj.ae))::L):=Has.del Tr 3
      have Tt:Has h7 ((bX,.ob [.bool cj.aj,.rs eL 0 cj.aa.length 4,.rs fE 0 cj.ae.length 1])::(eL,.sl cj.aa.length 4 (ai.l cj.aa))::L):=Has.del Ts 2
      have Tu:Has h7 ((bX,.ob [.bool cj.aj,.rs eL 0 cj.aa.length 4,.rs fE 0 cj.ae.length 1])::L):=Has.del Tt 1
      have Vf:Has h7 (L):=Has.del Tu 0
      obtain rfl:=oi H
      exact qt <| ⟨.inl rfl,dv (.bool false) h7 (dq (aD))⟩
    ·refine qk <| qq <| qq <| q0 <| qb 0 ?_
     obtain⟨dr,Kj,H⟩:=bk H
     refine ql (aI.kT L b6 eP aG x5 cV dW eT bX  q8 ((0:Int),nX,x6.2) _ _ ⟨j8,kW,vP,tH,h3,by kernel_rfl,o9⟩ Kj) ?_
     rintro e s ⟨rfl,i3,cz,eJ,rfl,g6,g7,g8,g9,g10,g11,fh,fF,iY,jA,h11,rfl,nt⟩
     try dsimp only at H
     refine qq ?_
     obtain⟨Rx,H0,H⟩:=bk H
     obtain⟨Ry,LV,H⟩:=bk H
     rcases iw H with⟨yC,H⟩| ⟨yC,H⟩
     ·obtain⟨Rz,MN,H⟩:=bk H
      obtain⟨RA,MO,H⟩:=bk H
      obtain⟨RB,MP,H⟩:=bk H
      rcases iw H with⟨CD,H⟩| ⟨CD,H⟩
      ·obtain⟨PI,Pe,H⟩:=bk H
       refine qr [.a 1 (nr _ _ H0 h11 _ (eQ (ah (bS (q:=3) nt rfl (ah (b4) (ah (bI (E:=ai) (l:=eJ.aa) (q:=4) nt rfl (fun _=>rfl)) (ah (bI (E:=af) (l:=eJ.ae) (q:=5) nt rfl (fun _=>rfl)) (aw))))) (aw)))),.a 3 (nr _ _ LV h11 _ (eQ (ah (bS (q:=6) nt rfl (ah (b4) (ah (bI (E:=ai) (l:=x5.aa) (q:=7) nt rfl (fun _=>rfl)) (ah (bI (E:=af) (l:=x5.ae) (q:=8) nt rfl (fun _=>rfl)) (aw))))) (aw)))),.b 5 yC,.a 7 (xU _ _ MN h11 _ (eQ (ah (bS (q:=3) nt rfl (ah (b4) (ah (bI (E:=ai) (l:=eJ.aa) (q:=4) nt rfl (fun _=>rfl)) (ah (bI (E:=af) (l:=eJ.ae) (q:=5) nt rfl (fun _=>rfl)) (aw))))) (aw)))),.a 9 (xU _ _ MO h11 _ (eQ (ah (bS (q:=6) nt rfl (ah (b4) (ah (bI (E:=ai) (l:=x5.aa) (q:=7) nt rfl (fun _=>rfl)) (ah (bI (E:=af) (l:=x5.ae) (q:=8) nt rfl (fun _=>rfl)) (aw))))) (aw)))),.a 10 (G7 _ _ _ MP h11 _ (eQ (ah (eG (E:=af)) (ah (eG (E:=af)) (aw))))),.b 12 CD,.a 13 (G6 _ Pe h11 _ (eQ (aw)))] ?_
       have Tv:Has h11 ((bX,.ob [.bool cz.aj,.rs fh 0 cz.aa.length 4,.rs fF 0 cz.ae.length 1])::(fh,.sl cz.aa.length 4 (ai.l cz.aa))::(fF,.sl cz.ae.length 1 (af.l cz.ae))::(aG,.ob [.bool eJ.aj,.rs iY 0 eJ.aa.length 4,.rs jA 0 eJ.ae.length 1])::(iY,.sl eJ.aa.length 4 (ai.l eJ.aa))::(jA,.sl eJ.ae.length 1 (af.l eJ.ae))::(cV,.ob [.bool x5.aj,.rs dW 0 x5.aa.length 4,.rs eT 0 x5.ae.length 1])::(dW,.sl x5.aa.length 4 (ai.l x5.aa))::L):=Has.del nt 8
       have Tw:Has h11 ((bX,.ob [.bool cz.aj,.rs fh 0 cz.aa.length 4,.rs fF 0 cz.ae.length 1])::(fh,.sl cz.aa.length 4 (ai.l cz.aa))::(fF,.sl cz.ae.length 1 (af.l cz.ae))::(aG,.ob [.bool eJ.aj,.rs iY 0 eJ.aa.length 4,.rs jA 0 eJ.ae.length 1])::(iY,.sl eJ.aa.length 4 (ai.l eJ.aa))::(jA,.sl eJ.ae.length 1 (af.l eJ.ae))::(cV,.ob [.bool x5.aj,.rs dW 0 x5.aa.length 4,.rs eT 0 x5.ae.length 1])::L):=Has.del Tv 7
       have Tx:Has h11 ((bX,.ob [.bool cz.aj,.rs fh 0 cz.aa.length 4,.rs fF 0 cz.ae.length 1])::(fh,.sl cz.aa.length 4 (ai.l cz.aa))::(fF,.sl cz.ae.length 1 (af.l cz.ae))::(aG,.ob [.bool eJ.aj,.rs iY 0 eJ.aa.length 4,.rs jA 0 eJ.ae.length 1])::(iY,.sl eJ.aa.length 4 (ai.l eJ.aa))::(jA,.sl eJ.ae.length 1 (af.l eJ.ae))::L):=Has.del Tw 6
       have Ty:Has h11 ((bX,.ob [.bool cz.aj,.rs fh 0 cz.aa.length 4,.rs fF 0 cz.ae.length 1])::(fh,.sl cz.aa.length 4 (ai.l cz.aa))::(fF,.sl cz.ae.length 1 (af.l cz.ae))::(aG,.ob [.bool eJ.aj,.rs iY 0 eJ.aa.length 4,.rs jA 0 eJ.ae.length 1])::(iY,.sl eJ.aa.length 4 (ai.l eJ.aa))::L):=Has.del Tx 5
       have Tz:Has h11 ((bX,.ob [.bool cz.aj,.rs fh 0 cz.aa.length 4,.rs fF 0 cz.ae.length 1])::(fh,.sl cz.aa.length 4 (ai.l cz.aa))::(fF,.sl cz.ae.length 1 (af.l cz.ae))::(aG,.ob [.bool eJ.aj,.rs iY 0 eJ.aa.length 4,.rs jA 0 eJ.ae.length 1])::L):=Has.del Ty 4
       have TA:Has h11 ((bX,.ob [.bool cz.aj,.rs fh 0 cz.aa.length 4,.rs fF 0 cz.ae.length 1])::(fh,.sl cz.aa.length 4 (ai.l cz.aa))::(fF,.sl cz.ae.length 1 (af.l cz.ae))::L):=Has.del Tz 3
       have TB:Has h11 ((bX,.ob [.bool cz.aj,.rs fh 0 cz.aa.length 4,.rs fF 0 cz.ae.length 1])::(fh,.sl cz.aa.length 4 (ai.l cz.aa))::L):=Has.del TA 2
       have TC:Has h11 ((bX,.ob [.bool cz.aj,.rs fh 0 cz.aa.length 4,.rs fF 0 cz.ae.length 1])::L):=Has.del TB 1
       have Vh:Has h11 (L):=Has.del TC 0
       obtain rfl:=oi H
       exact qt <| ⟨.inl rfl,dv (.bool PI) h11 (dq (aD))⟩
      ·refine qr [.a 1 (nr _ _ H0 h11 _ (eQ (ah (bS (q:=3) nt rfl (ah (b4) (ah (bI (E:=ai) (l:=eJ.aa) (q:=4) nt rfl (fun _=>rfl)) (ah (bI (E:=af) (l:=eJ.ae) (q:=5) nt rfl (fun _=>rfl)) (aw))))) (aw)))),.a 3 (nr _ _ LV h11 _ (eQ (ah (bS (q:=6) nt rfl (ah (b4) (ah (bI (E:=ai) (l:=x5.aa) (q:=7) nt rfl (fun _=>rfl)) (ah (bI (E:=af) (l:=x5.ae) (q:=8) nt rfl (fun _=>rfl)) (aw))))) (aw)))),.b 5 yC,.a 7 (xU _ _ MN h11 _ (eQ (ah (bS (q:=3) nt rfl (ah (b4) (ah (bI (E:=ai) (l:=eJ.aa) (q:=4) nt rfl (fun _=>rfl)) (ah (bI (E:=af) (l:=eJ.ae) (q:=5) nt rfl (fun _=>rfl)) (aw))))) (aw)))),.a 9 (xU _ _ MO h11 _ (eQ (ah (bS (q:=6) nt rfl (ah (b4) (ah (bI (E:=ai) (l:=x5.aa) (q:=7) nt rfl (fun _=>rfl)) (ah (bI (E:=af) (l:=x5.ae) (q:=8) nt rfl (fun _=>rfl)) (aw))))) (aw)))),.a 10 (G7 _ _ _ MP h11 _ (eQ (ah (eG (E:=af)) (ah (eG (E:=af)) (aw))))),.b 12 CD] ?_
       have TD:Has h11 ((bX,.ob [.bool cz.aj,.rs fh 0 cz.aa.length 4,.rs fF 0 cz.ae.length 1])::(fh,.sl cz.aa.length 4 (ai.l cz.aa))::(fF,.sl cz.ae.length 1 (af.l cz.ae))::(aG,.ob [.bool eJ.aj,.rs iY 0 eJ.aa.length 4,.rs jA 0 eJ.ae.length 1])::(iY,.sl eJ.aa.length 4 (ai.l eJ.aa))::(jA,.sl eJ.ae.length 1 (af.l eJ.ae))::(cV,.ob [.bool x5.aj,.rs dW 0 x5.aa.length 4,.rs eT 0 x5.ae.length 1])::(dW,.sl x5.aa.length 4 (ai.l x5.aa))::L):=Has.del nt 8
       have TE:Has h11 ((bX,.ob [.bool cz.aj,.rs fh 0 cz.aa.length 4,.rs fF 0 cz.ae.length 1])::(fh,.sl cz.aa.length 4 (ai.l cz.aa))::(fF,.sl cz.ae.length 1 (af.l cz.ae))::(aG,.ob [.bool eJ.aj,.rs iY 0 eJ.aa.length 4,.rs jA 0 eJ.ae.length 1])::(iY,.sl eJ.aa.length 4 (ai.l eJ.aa))::(jA,.sl eJ.ae.length 1 (af.l eJ.ae))::(cV,.ob [.bool x5.aj,.rs dW 0 x5.aa.length 4,.rs eT 0 x5.ae.length 1])::L):=Has.del TD 7
       have TF:Has h11 ((bX,.ob [.bool cz.aj,.rs fh 0 cz.aa.length 4,.rs fF 0 cz.ae.length 1])::(fh,.sl cz.aa.length 4 (ai.l cz.aa))::(fF,.sl cz.ae.length 1 (af.l cz.ae))::(aG,.ob [.bool eJ.aj,.rs iY 0 eJ.aa.length 4,.rs jA 0 eJ.ae.length 1])::(iY,.sl eJ.aa.length 4 (ai.l eJ.aa))::(jA,.sl eJ.ae.length 1 (af.l eJ.ae))::L):=Has.del TE 6
       have TG:Has h11 ((bX,.ob [.bool cz.aj,.rs fh 0 cz.aa.length 4,.rs fF 0 cz.ae.length 1])::(fh,.sl cz.aa.length 4 (ai.l cz.aa))::(fF,.sl cz.ae.length 1 (af.l cz.ae))::(aG,.ob [.bool eJ.aj,.rs iY 0 eJ.aa.length 4,.rs jA 0 eJ.ae.length 1])::(iY,.sl eJ.aa.length 4 (ai.l eJ.aa))::L):=Has.del TF 5
       have TH:Has h11 ((bX,.ob [.bool cz.aj,.rs fh 0 cz.aa.length 4,.rs fF 0 cz.ae.length 1])::(fh,.sl cz.aa.length 4 (ai.l cz.aa))::(fF,.sl cz.ae.length 1 (af.l cz.ae))::(aG,.ob [.bool eJ.aj,.rs iY 0 eJ.aa.length 4,.rs jA 0 eJ.ae.length 1])::L):=Has.del TG 4
       have TI:Has h11 ((bX,.ob [.bool cz.aj,.rs fh 0 cz.aa.length 4,.rs fF 0 cz.ae.length 1])::(fh,.sl cz.aa.length 4 (ai.l cz.aa))::(fF,.sl cz.ae.length 1 (af.l cz.ae))::L):=Has.del TH 3
       have TJ:Has h11 ((bX,.ob [.bool cz.aj,.rs fh 0 cz.aa.length 4,.rs fF 0 cz.ae.length 1])::(fh,.sl cz.aa.length 4 (ai.l cz.aa))::L):=Has.del TI 2
       have TK:Has h11 ((bX,.ob [.bool cz.aj,.rs fh 0 cz.aa.length 4,.rs fF 0 cz.ae.length 1])::L):=Has.del TJ 1
       have Vi:Has h11 (L):=Has.del TK 0
       obtain rfl:=oi H
       exact qt <| ⟨.inl rfl,dv (.bool false) h11 (dq (aD))⟩
     ·refine qr [.a 1 (nr _ _ H0 h11 _ (eQ (ah (bS (q:=3) nt rfl (ah (b4) (ah (bI (E:=ai) (l:=eJ.aa) (q:=4) nt rfl (fun _=>rfl)) (ah (bI (E:=af) (l:=eJ.ae) (q:=5) nt rfl (fun _=>rfl)) (aw))))) (aw)))),.a 3 (nr _ _ LV h11 _ (eQ (ah (bS (q:=6) nt rfl (ah (b4) (ah (bI (E:=ai) (l:=x5.aa) (q:=7) nt rfl (fun _=>rfl)) (ah (bI (E:=af) (l:=x5.ae) (q:=8) nt rfl (fun _=>rfl)) (aw))))) (aw)))),.b 5 yC] ?_
      have TL:Has h11 ((bX,.ob [.bool cz.aj,.rs fh 0 cz.aa.length 4,.rs fF 0 cz.ae.length 1])::(fh,.sl cz.aa.length 4 (ai.l cz.aa))::(fF,.sl cz.ae.length 1 (af.l cz.ae))::(aG,.ob [.bool eJ.aj,.rs iY 0 eJ.aa.length 4,.rs jA 0 eJ.ae.length 1])::(iY,.sl eJ.aa.length 4 (ai.l eJ.aa))::(jA,.sl eJ.ae.length 1 (af.l eJ.ae))::(cV,.ob [.bool x5.aj,.rs dW 0 x5.aa.length 4,.rs eT 0 x5.ae.length 1])::(dW,.sl x5.aa.length 4 (ai.l x5.aa))::L):=Has.del nt 8
      have TM:Has h11 ((bX,.ob [.bool cz.aj,.rs fh 0 cz.aa.length 4,.rs fF 0 cz.ae.length 1])::(fh,.sl cz.aa.length 4 (ai.l cz.aa))::(fF,.sl cz.ae.length 1 (af.l cz.ae))::(aG,.ob [.bool eJ.aj,.rs iY 0 eJ.aa.length 4,.rs jA 0 eJ.ae.length 1])::(iY,.sl eJ.aa.length 4 (ai.l eJ.aa))::(jA,.sl eJ.ae.length 1 (af.l eJ.ae))::(cV,.ob [.bool x5.aj,.rs dW 0 x5.aa.length 4,.rs eT 0 x5.ae.length 1])::L):=Has.del TL 7
      have TN:Has h11 ((bX,.ob [.bool cz.aj,.rs fh 0 cz.aa.length 4,.rs fF 0 cz.ae.length 1])::(fh,.sl cz.aa.length 4 (ai.l cz.aa))::(fF,.sl cz.ae.length 1 (af.l cz.ae))::(aG,.ob [.bool eJ.aj,.rs iY 0 eJ.aa.length 4,.rs jA 0 eJ.ae.length 1])::(iY,.sl eJ.aa.length 4 (ai.l eJ.aa))::(jA,.sl eJ.ae.length 1 (af.l eJ.ae))::L):=Has.del TM 6
      have TO:Has h11 ((bX,.ob [.bool cz.aj,.rs fh 0 cz.aa.length 4,.rs fF 0 cz.ae.length 1])::(fh,.sl cz.aa.length 4 (ai.l cz.aa))::(fF,.sl cz.ae.length 1 (af.l cz.ae))::(aG,.ob [.bool eJ.aj,.rs iY 0 eJ.aa.length 4,.rs jA 0 eJ.ae.length 1])::(iY,.sl eJ.aa.length 4 (ai.l eJ.aa))::L):=Has.del TN 5
      have TP:Has h11 ((bX,.ob [.bool cz.aj,.rs fh 0 cz.aa.length 4,.rs fF 0 cz.ae.length 1])::(fh,.sl cz.aa.length 4 (ai.l cz.aa))::(fF,.sl cz.ae.length 1 (af.l cz.ae))::(aG,.ob [.bool eJ.aj,.rs iY 0 eJ.aa.length 4,.rs jA 0 eJ.ae.length 1])::L):=Has.del TO 4
      have TQ:Has h11 ((bX,.ob [.bool cz.aj,.rs fh 0 cz.aa.length 4,.rs fF 0 cz.ae.length 1])::(fh,.sl cz.aa.length 4 (ai.l cz.aa))::(fF,.sl cz.ae.length 1 (af.l cz.ae))::L):=Has.del TP 3
      have TR:Has h11 ((bX,.ob [.bool cz.aj,.rs fh 0 cz.aa.length 4,.rs fF 0 cz.ae.length 1])::(fh,.sl cz.aa.length 4 (ai.l cz.aa))::L):=Has.del TQ 2
      have TS:Has h11 ((bX,.ob [.bool cz.aj,.rs fh 0 cz.aa.length 4,.rs fF 0 cz.ae.length 1])::L):=Has.del TR 1
      have Vj:Has h11 (L):=Has.del TS 0
      obtain rfl:=oi H
      exact qt <| ⟨.inl rfl,dv (.bool false) h11 (dq (aD))⟩
end
end Go.Proofs.Ytifafejidnjckaa
namespace Go.Proofs.Ytifafejidnjckaa
open Go Go.R
open Go.IntKind (i64 u64 u8 u32)
def ib.l0 (m:Nat)(n0:Int)(b6:List aN)(x5:aq × Int):Nat→Int→ab→Option (Sum Bool (Int × ab))
 | 0,_,_=>none
 | k+1,i0,nX=>if (decide (i0<(b6.length:Int)))=true then ((ix b6 i0).bind fun v0=>(fM.f m nX v0).bind fun x8=>(kl.f m x8.2 n0).bind fun x9=>if (!(x9.2==(0:Int)))=true then (some (.inl false)) else (if (!(x9.1.kind==x5.1.kind))=true then (some (.inl false)) else (if (!(x9.1.int==x5.1.int))=true then (some (.inl false)) else (if (!(x9.1.label.data.toList==x5.1.label.data.toList))=true then (some (.inl false)) else (if (!((x9.1.args.length:Int)==(x5.1.args.length:Int)))=true then (some (.inl false)) else (ib.l0 m n0 b6 x5 k (i64.wrap (i0+(1:Int))) x8.2)))))) else (some (.inr (i0,nX)))
def ib.f (m:Nat)(l0:List aN)(n0:Int)(b6:List aN):Option (Bool):=(bB.f m l0).bind fun x0=>if x0=true then ((dP.f m).bind fun x1=>some x1) else ((bB.f m b6).bind fun x2=>if x2=true then ((dP.f m).bind fun x3=>some x3) else ((cd.f m l0).bind fun x4=>(kl.f m x4 n0).bind fun x5=>if (!(x5.2==(0:Int)))=true then ((dP.f m).bind fun x6=>some x6) else (if (x5.1.kind==(0:Int))=true then ((dP.f m).bind fun x7=>some x7) else ((ib.l0 m n0 b6 x5 m (0:Int) x4).bind fun cg=>match cg with | .inl r0=>some r0 | .inr (i1,ly)=>(dP.f m).bind fun lG=>some lG))))
def S7 (cf:CallF)(m:Nat):Prop:=∀(l0:List aN) (n0:Int) (b6:List aN) (r:Bool),ib.f m l0 n0 b6=some r→∀h xs,aQ bQ h xs [aH.fz l0,.int .i64 n0,aH.fz b6]→cf 7 xs h=some (.bool r,h)
end Go.Proofs.Ytifafejidnjckaa
namespace Go.Uf
open Go Go.R
open Go.IntKind (i64 u64 u8 u32)
def iK (to:List Int)(n:Int):Int:=to.getD n.toNat n
def gN (to:List Int):Nat→Int→Int
 | 0,n=>n
 | k+1,n=>iK to (gN to k n)
def CL:List Int→Nat→Nat
 | [],_=>0
 | x::l,i=>(if x=(i:Int) then 0 else 1)+CL l (i+1)
def qC (to:List Int):Nat:=CL to 0
def rp (to:List Int)(n:Int):Int:=gN to (qC to) n
def Rg (len:Nat)(n:Int):Prop:=0≤n∧n<len
instance (len:Nat) (n:Int):Decidable (Rg len n):=inferInstanceAs (Decidable (_∧_))
structure Gb (to:List Int):Prop where
 rg:∀n,Rg to.length n→Rg to.length (iK to n)
 rt:∀n,Rg to.length n→iK to (rp to n)=rp to n
theorem EY:∀(l:List Int) (i:Nat),CL l i≤l.length
 | [],_=>Vv _
 | x::l,i=>by
  have:=EY l (i+1)
  simp only [CL,VF]
  split<;>omega
theorem vT (to:List Int):qC to≤to.length:=EY to 0
theorem Bp:∀(l:List Int) (i j:Nat) (b:Int),l[j]? = some ((i+j:Nat):Int)→b≠((i+j:Nat):Int)→CL (l.set j b) i=CL l i+1
 | [],_,_,_,h,_=>by simp at h
 | x::l,i,0,b,h,hb=>by
  simp only [V9,Vt,WV] at h hb
  simp only [List.set_cons_zero,CL,h,if_true]
  rw [if_neg hb]; omega
 | x::l,i,j+1,b,h,hb=>by
  simp only [Wv] at h
  have e:i+(j+1)=i+1+j:=by omega
  rw [e] at h hb
  have:=Bp l (i+1) j b h hb
  simp only [List.set_cons_succ,CL,this]; omega
theorem Bq:∀(l:List Int) (i:Nat),CL (l++[((i+l.length:Nat):Int)]) i=CL l i
 | [],i=>by simp [CL]
 | x::l,i=>by
  have:=Bq l (i+1)
  have e:i+(x::l).length=i+1+l.length:=by simp only [VF]; omega
  rw [e]
  show _+CL (l++_) (i+1)=_+CL l (i+1)
  rw [this]
section
variable {to:List Int}{a b n:Int}
theorem rH (h:Rg to.length n):to[n.toNat]? = some (iK to n):=by
 have hl:n.toNat<to.length:=by have:=h.1; have:=h.2; omega
 unfold iK
 rw [VM,Vx hl]; rfl
theorem vU (h:Rg to.length n):ix to n=some (iK to n):=by
 unfold ix; rw [if_pos h.1,rH h]
theorem sU (o:Gb to)(h:Rg to.length n):∀k,Rg to.length (gN to k n)
 | 0=>h
 | k+1=>o.rg _ (sU o h k)
theorem EZ (o:Gb to)(h:Rg to.length n):Rg to.length (rp to n):=sU o h _
theorem xV (h:iK to n=n):∀k,gN to k n=n
 | 0=>rfl
 | k+1=>by show iK to (gN to k n)=n; rw [xV h k,h]
theorem sV (h:iK to n=n):rp to n=n:=xV h _
theorem xW {d:Nat}(h:iK to (gN to d n)=gN to d n):∀e,gN to (d+e) n=gN to d n
 | 0=>rfl
 | e+1=>by show iK to (gN to (d+e) n)=_; rw [xW h e,h]
theorem G8 {d:Nat}(hd:d≤qC to)(h:iK to (gN to d n)=gN to d n):rp to n=gN to d n:=by
 have:=xW h (qC to - d)
 rw [Nat.add_sub_cancel' hd] at this
 exact this
theorem vV (ha:Rg to.length a):∀n,iK (to.set a.toNat b) n=if n.toNat=a.toNat then b else iK to n:=by
 intro n
 have hl:a.toNat<to.length:=by have:=ha.1; have:=ha.2; omega
 unfold iK
 rw [VM,VM,WR]
 by_cases h:n.toNat=a.toNat
 ·rw [if_pos h.symm,if_pos hl,if_pos h]; rfl
 ·rw [if_neg (fun e=>h e.symm),if_neg h]
theorem Br (ha:Rg to.length a)(h1:iK to a=a)(hne:b≠a):qC (to.set a.toNat b)=qC to+1:=by
 have h0:=ha.1
 refine Bp to 0 a.toNat b ?_ ?_
 ·rw [rH ha,h1]; congr 1; omega
 ·intro e; apply hne; rw [e]; omega
theorem L2 (o:Gb to)(ha:Rg to.length a)(hb:Rg to.length b)(h1:iK to a=a)(h2:iK to b=b)(hne:b≠a) :
  Gb (to.set a.toNat b)∧∀n,Rg to.length n→rp (to.set a.toNat b) n=if rp to n=a then b else rp to n:=by
 have hl:(to.set a.toNat b).length=to.length:=VC
 have hs:∀n,Rg to.length n→iK (to.set a.toNat b) n=if n=a then b else iK to n:=fun n hn=>by
  rw [vV ha]
  by_cases h:n=a
  ·subst h; simp
  ·rw [if_neg h,if_neg (fun e=>h (by have:=hn.1; have:=ha.1; omega))]
 have th:iK (to.set a.toNat b) b=b:=by rw [hs b hb,if_neg hne,h2]
 have key:∀n,Rg to.length n→∀d,gN (to.set a.toNat b) d n=gN to d n∨(gN (to.set a.toNat b) d n=b∧gN to d n=a):=fun n hn d=>by
  induction d with
  | zero=>exact .inl rfl
  | succ d ih=>
   show iK _ (gN _ d n)=iK to (gN to d n)∨(iK _ (gN _ d n)=b∧iK to (gN to d n)=a)
   rcases ih with ih | ⟨ih,TT⟩
   ·rw [ih,hs _ (sU o hn d)]
    by_cases h:gN to d n=a
    ·rw [if_pos h,h,h1]; exact .inr ⟨rfl,rfl⟩
    ·rw [if_neg h]; exact .inl rfl
   ·rw [ih,TT,h1,th]; exact .inr ⟨rfl,rfl⟩
 have RC:∀n,Rg to.length n→rp (to.set a.toNat b) n=if rp to n=a then b else rp to n:=fun n hn=>by
  show gN _ (qC (to.set a.toNat b)) n=_
  rw [Br ha h1 hne]
  have hr:=o.rt n hn
  have TU:=EZ o hn
  show iK _ (gN _ (qC to) n)=_
  rcases key n hn (qC to) with h | ⟨h,h3⟩
  ·rw [h]
   show iK _ (rp to n)=_
   rw [hs _ TU,hr]
  ·have h3:rp to n=a:=h3
   rw [h,th,if_pos h3]
 refine⟨⟨fun n hn=>?_,fun n hn=>?_⟩,RC⟩
 ·rw [hl] at hn ⊢
  rw [hs n hn]
  split
  ·exact hb
  ·exact o.rg n hn
 ·rw [hl] at hn
  rw [RC n hn]
  by_cases h:rp to n=a
  ·rw [if_pos h,th]
  ·rw [if_neg h,hs _ (EZ o hn),if_neg h,o.rt n hn]
theorem L3 (o:Gb to):Gb (to++[(to.length:Int)])∧(∀n,Rg to.length n→rp (to++[(to.length:Int)]) n=rp to n)∧rp (to++[(to.length:Int)]) (to.length:Int)=(to.length:Int):=by
 have hl:(to++[(to.length:Int)]).length=to.length+1:=by simp
 have hn:qC (to++[(to.length:Int)])=qC to:=by
  have:=Bq to 0
  rw [VO] at this
  exact this
 have hs:∀n,Rg to.length n→iK (to++[(to.length:Int)]) n=iK to n:=fun n h=>by
  have:n.toNat<to.length:=by have:=h.1; have:=h.2; omega
  unfold iK
  rw [VM,VM,VG this]
 have hz:iK (to++[(to.length:Int)]) (to.length:Int)=(to.length:Int):=by
  unfold iK
  rw [VM,VD,VL (Vv _),WW]; rfl
 have hi:∀n,Rg to.length n→∀k,gN (to++[(to.length:Int)]) k n=gN to k n:=fun n h k=>by
  induction k with
  | zero=>rfl
  | succ k ih=>show iK _ (gN _ k n)=iK to (gN to k n); rw [ih,hs _ (sU o h k)]
 have hr:∀n,Rg to.length n→rp (to++[(to.length:Int)]) n=rp to n:=fun n h=>by
  unfold rp; rw [hn]; exact hi n h _
 have hc:∀n,Rg (to.length+1) n→Rg to.length n∨n=to.length:=fun n h=>by
  unfold Rg at h ⊢; omega
 refine⟨⟨fun n h=>?_,fun n h=>?_⟩,hr,sV hz⟩
 ·rw [hl] at h ⊢
  rcases hc n h with h | rfl
  ·rw [hs n h]; have:=o.rg n h; unfold Rg at this ⊢; omega
  ·rw [hz]; exact h
 ·rw [hl] at h
  rcases hc n h with h | rfl
  ·rw [hr n h,hs _ (EZ o h),o.rt n h]
  ·rw [sV hz,hz]
end
theorem G9:Gb []:=⟨fun n h=>by have:=h.1; have:=h.2; simp at this; omega,fun n h=>by have:=h.1; have:=h.2; simp at this; omega⟩
end Go.Uf
namespace Go.Uf
open Go Go.R
open Go.IntKind (i64 u64 u8 u32)
def gC (N:List aq)(n:Int):aq:=N.getD n.toNat ⟨0,0,⟨#[]⟩,[]⟩
def gU (N:List aq)(n:Int):Prop:=(gC N n).kind≠0
instance (N:List aq) (n:Int):Decidable (gU N n):=inferInstanceAs (Decidable (_≠_))
def Bt (N:List aq)(a b:Int):Prop:=(gU N a∧¬gU N b)∨((gU N a↔gU N b)∧a≤b)
def mQ (a b:aq):Prop:=a.kind=b.kind∧a.int=b.int∧a.label.data.toList=b.label.data.toList∧a.args.length=b.args.length
structure Cn (N:List aq)(R:Int→Int):Prop where
 rg:∀n,Rg N.length n→Rg N.length (R n)
 id:∀n,Rg N.length n→R (R n)=R n
 bt:∀n,Rg N.length n→Bt N (R n) n
def Cl (N:List aq)(T:Int→Int):Prop:=∀x y,Rg N.length x→Rg N.length y→T x=T y→gU N x→gU N y→mQ (gC N x) (gC N y)∧∀(i:Nat) (a b:Int),(gC N x).args[i]? = some a→(gC N y).args[i]? = some b→T a=T b
def gW (N:List aq)(R T:Int→Int):Prop:=∀x y,Rg N.length x→Rg N.length y→R x=R y→T x=T y
def re (N:List aq)(R:Int→Int)(L:List (Int × Int)):Prop:=∀T,gW N R T→(∀p∈L,T p.1=T p.2)→∀x y,Rg N.length x→Rg N.length y→R x=R y→gU N x→gU N y→mQ (gC N x) (gC N y)∧∀(i:Nat) (a b:Int),(gC N x).args[i]? = some a→(gC N y).args[i]? = some b→T a=T b
def E0 (N:List aq):Prop:=∀v∈N,v.args.length≤8∧∀a∈v.args,Rg N.length a
section
variable {N:List aq}{R T:Int→Int}{a b x y n:Int}
theorem Bs (h:Rg N.length n):N[n.toNat]? = some (gC N n):=by
 have hl:n.toNat<N.length:=by have:=h.1; have:=h.2; omega
 unfold gC
 rw [VM,Vx hl]; rfl
theorem zw (h:Rg N.length n):ix N n=some (gC N n):=by
 unfold ix; rw [if_pos h.1,Bs h]
theorem lO (h:Rg N.length n):gC N n∈N:=VH (Bs h)
theorem Bt.trans {c:Int}(h1:Bt N a b)(h2:Bt N b c):Bt N a c:=by
 unfold Bt at h1 h2 ⊢
 rcases h1 with h1 | h1<;>rcases h2 with h2 | h2
 ·exact absurd h2.1 h1.2
 ·exact .inl ⟨h1.1,fun h=>h1.2 (h2.1.2 h)⟩
 ·exact .inl ⟨h1.1.2 h2.1,h2.2⟩
 ·exact .inr ⟨h1.1.trans h2.1,by omega⟩
theorem Bt.refl:Bt N a a:=.inr ⟨Iff.rfl,Int.le_refl _⟩
theorem Cn.val (c:Cn N R)(h:Rg N.length n)(v:gU N n):gU N (R n):=by
 rcases c.bt n h with h1 | h1
 ·exact h1.1
 ·exact h1.1.2 v
def j9 (N:List aq)(a b:Int):Int × Int:=if gU N a↔gU N b then (if a<b then (b,a) else (a,b)) else (if gU N b then (a,b) else (b,a))
theorem uu (a b:Int):Bt N (j9 N a b).2 (j9 N a b).1∧((j9 N a b).1=a∧(j9 N a b).2=b∨(j9 N a b).1=b∧(j9 N a b).2=a):=by
 unfold j9
 by_cases h:gU N a↔gU N b
 ·rw [if_pos h]
  by_cases h2:a<b
  ·rw [if_pos h2]; exact⟨.inr ⟨h,by dsimp only; omega⟩,.inr ⟨rfl,rfl⟩⟩
  ·rw [if_neg h2]; exact⟨.inr ⟨h.symm,by dsimp only; omega⟩,.inl ⟨rfl,rfl⟩⟩
 ·rw [if_neg h]
  by_cases h2:gU N b
  ·rw [if_pos h2]; exact⟨.inl ⟨h2,fun h3=>h ⟨fun _=>h2,fun _=>h3⟩⟩,.inl ⟨rfl,rfl⟩⟩
  ·rw [if_neg h2]
   refine⟨.inl ⟨?_,h2⟩,.inr ⟨rfl,rfl⟩⟩
   by_cases h3:gU N a
   ·exact h3
   ·exact absurd ⟨fun h4=>absurd h4 h3,fun h4=>absurd h4 h2⟩ h
def sO (R:Int→Int)(q:Int × Int)(n:Int):Int:=if R n=q.1 then q.2 else R n
theorem JC (c:Cn N R){q:Int × Int}(h1:Rg N.length q.1)(h2:Rg N.length q.2)(r1:R q.1=q.1)(r2:R q.2=q.2)(hne:q.2≠q.1)(hb:Bt N q.2 q.1):Cn N (sO R q):=by
 refine⟨fun n hn=>?_,fun n hn=>?_,fun n hn=>?_⟩
 ·unfold sO; split
  ·exact h2
  ·exact c.rg n hn
 ·unfold sO
  by_cases h:R n=q.1
  ·rw [if_pos h,r2,if_neg hne]
  ·rw [if_neg h,c.id n hn,if_neg h]
 ·unfold sO
  split
  ·rename_i h
   have:=c.bt n hn
   rw [h] at this
   exact hb.trans this
  ·exact c.bt n hn
theorem Bu {q:Int × Int}:gW N R (sO R q):=fun x y _ _ h=>by unfold sO; rw [h]
theorem vW {q:Int × Int}(ha:R a=q.1)(hb:R b=q.2)(hne:q.2≠q.1):sO R q a=sO R q b:=by
 unfold sO; rw [if_pos ha,hb,if_neg hne]
theorem CM (c:Cn N R){q:Int × Int}(h1:Rg N.length q.1)(h2:Rg N.length q.2)(s:gW N R T)(h:T q.1=T q.2):gW N (sO R q) T:=by
 have key:∀x,Rg N.length x→T (sO R q x)=T x:=fun x hx=>by
  have e:T (R x)=T x:=s _ _ (c.rg x hx) hx (c.id x hx)
  unfold sO
  split
  ·rename_i h3; rw [←h,←h3,e]
  ·exact e
 intro x y hx hy he
 rw [←key x hx,←key y hy,he]
theorem CN {p:Int × Int}{L:List (Int × Int)}(h:re N R (p::L))(L4:Rg N.length p.1)(L5:Rg N.length p.2)(he:R p.1=R p.2):re N R L:=fun T s hL=>h T s fun q hq=>by
 rcases VS.1 hq with rfl | hq
 ·exact s _ _ L4 L5 he
 ·exact hL q hq
theorem CO (c:Cn N R){p q:Int × Int}{L M:List (Int × Int)}(h:re N R (p::L))(L4:Rg N.length p.1)(L5:Rg N.length p.2)
  (hq:(q.1=R p.1∧q.2=R p.2)∨(q.1=R p.2∧q.2=R p.1)) (hne:q.2≠q.1)
  (hM:gU N (R p.1)→gU N (R p.2)→mQ (gC N (R p.1)) (gC N (R p.2))∧∀(i:Nat) (a b:Int),(gC N (R p.1)).args[i]? = some a→(gC N (R p.2)).args[i]? = some b→(a,b)∈M):re N (sO R q) (L++M):=by
 intro T s hL x y hx hy he vx vy
 have s0:gW N R T:=fun x y hx hy h=>s x y hx hy (Bu x y hx hy h)
 have g1:=c.rg _ L4
 have g2:=c.rg _ L5
 have tp:T p.1=T p.2:=s _ _ L4 L5 (by
  rcases hq with⟨h1,h2⟩| ⟨h1,h2⟩
  ·exact vW h1.symm h2.symm hne
  ·exact (vW h1.symm h2.symm hne).symm)
 have old:=h T s0 (fun q hq=>by
  rcases VS.1 hq with rfl | hq
  ·exact tp
  ·exact hL q (Wk _ hq))
 have mid:∀x y,Rg N.length x→Rg N.length y→R x=R p.1→R y=R p.2→gU N x→gU N y→mQ (gC N x) (gC N y)∧∀(i:Nat) (a b:Int),(gC N x).args[i]? = some a→(gC N y).args[i]? = some b→T a=T b:=by
  intro x y hx hy e1 e2 vx vy
  have v1:gU N (R p.1):=e1 ▸ c.val hx vx
  have v2:gU N (R p.2):=e2 ▸ c.val hy vy
  obtain⟨t0,m0⟩:=hM v1 v2
  obtain⟨t1,m1⟩:=old x (R p.1) hx g1 (by rw [c.id _ L4,e1]) vx v1
  obtain⟨t2,m2⟩:=old (R p.2) y g2 hy (by rw [c.id _ L5,e2]) v2 vy
  refine⟨⟨t1.1.trans (t0.1.trans t2.1),t1.2.1.trans (t0.2.1.trans t2.2.1),t1.2.2.1.trans (t0.2.2.1.trans t2.2.2.1),t1.2.2.2.trans (t0.2.2.2.trans t2.2.2.2)⟩,fun i a b ha hb=>?_⟩
  have l1:i<(gC N (R p.1)).args.length:=by rw [←t1.2.2.2]; exact (Vy.1 ha).1
  have l2:i<(gC N (R p.2)).args.length:=by rw [←t0.2.2.2]; exact l1
  have k1:=Vx l1
  have k2:=Vx l2
  rw [m1 i _ _ ha k1,←m2 i _ _ k2 hb]
  exact hL _ (List.mem_append_right _ (m0 i _ _ k1 k2))
 have sym:∀x y,mQ (gC N x) (gC N y)∧(∀(i:Nat) (a b:Int),(gC N x).args[i]? = some a→(gC N y).args[i]? = some b→T a=T b)→mQ (gC N y) (gC N x)∧∀(i:Nat) (a b:Int),(gC N y).args[i]? = some a→(gC N x).args[i]? = some b→T a=T b:=by
  rintro x y ⟨t,m⟩
  exact⟨⟨t.1.symm,t.2.1.symm,t.2.2.1.symm,t.2.2.2.symm⟩,fun i a b ha hb=>(m i b a hb ha).symm⟩
 by_cases e:R x=R y
 ·exact old x y hx hy e vx vy
 unfold sO at he
 by_cases ex:R x=q.1<;>by_cases ey:R y=q.1
 ·exact absurd (ex.trans ey.symm) e
 ·rw [if_pos ex,if_neg ey] at he
  rcases hq with⟨h1,h2⟩| ⟨h1,h2⟩
  ·exact mid x y hx hy (ex.trans h1) (he.symm.trans h2) vx vy
  ·exact sym _ _ (mid y x hy hx (he.symm.trans h2) (ex.trans h1) vy vx)
 ·rw [if_neg ex,if_pos ey] at he
  rcases hq with⟨h1,h2⟩| ⟨h1,h2⟩
  ·exact sym _ _ (mid y x hy hx (ey.trans h1) (he.trans h2) vy vx)
  ·exact mid x y hx hy (he.trans h2) (ey.trans h1) vx vy
 ·rw [if_neg ex,if_neg ey] at he
  exact absurd he e
theorem E1 (h:re N R []):Cl N R:=fun x y hx hy e vx vy=>h R (fun _ _ _ _ h=>h) (fun _ h=>by cases h) x y hx hy e vx vy
theorem Ha {L:List (Int × Int)}(h:Cl N R)(ha:E0 N):re N R L:=fun T s _ x y hx hy e vx vy=>by
 obtain⟨t,m⟩:=h x y hx hy e vx vy
 exact⟨t,fun i a b h1 h2=>s _ _ ((ha _ (lO hx)).2 a (VH h1)) ((ha _ (lO hy)).2 b (VH h2)) (m i a b h1 h2)⟩
end
end Go.Uf
namespace Go.Uf
open Go Go.R
open Go.IntKind (i64 u64 u8 u32)
theorem L6 (x:Int):i64.wrap x=if x % 18446744073709551616≥9223372036854775808 then x % 18446744073709551616 - 18446744073709551616 else x % 18446744073709551616:=by
 unfold IntKind.wrap; simp [IntKind.signed,IntKind.bits]
theorem me {x:Int}(h0 : -9223372036854775808≤x)(h1:x<9223372036854775808):i64.wrap x=x:=by
 rw [L6]; split<;>omega
theorem Bv {α:Type}{l:List α}{i:Nat}{a:α}(h:l[i]? = some a):ix l (i:Int)=some a:=by
 unfold ix; rw [if_pos (WI _),VD,h]
theorem zx {α:Type}{b:Nat}{l l2:List α}(h:(l.length+l2.length)*(b+1)≤1099511627776):app b l l2=some (l++l2):=by
 unfold app; rw [if_pos h]
end Go.Uf
namespace Go.Proofs.Ytifafejidnjckaa
open Go Go.R Go.Uf
open Go.IntKind (i64 u64 u8 u32)
structure Inv (s:ab):Prop where
 made:s.aj=true
 len:s.ae.length=s.aa.length
 max:s.aa.length≤8000
 ok:Gb s.ae
 cn:Cn s.aa (rp s.ae)
 args:E0 s.aa
section
variable {m:Nat}{s:ab}{a b n:Int}
theorem Inv.rg (v:Inv s)(h:Rg s.aa.length n):Rg s.ae.length n:=by rw [v.len]; exact h
theorem E2 (v:Inv s)(h:Rg s.aa.length n):∀(k d:Nat),d≤qC s.ae→qC s.ae<k+d→bc.l0 m s k (gN s.ae d n)=some (rp s.ae n)
 | 0,d,h1,h2=>by omega
 | k+1,d,h1,h2=>by
  have hr:=sU v.ok (v.rg h) d
  simp only [bc.l0,vU hr,Vq]
  by_cases he:iK s.ae (gN s.ae d n)=gN s.ae d n
  ·rw [G8 h1 he]
   simp [he]
  ·have hd:d<qC s.ae:=by
    rcases Nat.lt_or_ge d (qC s.ae) with h3 | h3
    ·exact h3
    ·have h4:d=qC s.ae:=by omega
     exact absurd (h4 ▸ v.ok.rt n (v.rg h)) he
   have:=E2 v h k (d+1) hd (by omega)
   simp only [gN] at this
   rw [this]
   have hb:(iK s.ae (gN s.ae d n)==gN s.ae d n)=false:=by simpa using he
   simp [hb]
theorem E3 (hm:16000≤m)(v:Inv s)(h:Rg s.aa.length n):bc.f m s n=some (rp s.ae n):=by
 have h1:=vT s.ae
 have h2:=v.len
 have h3:=v.max
 have:=E2 (m:=m) v h m 0 (Wg _) (by omega)
 simp only [gN] at this
 simp only [bc.f,this,Vq]
theorem zy (h:Rg s.aa.length n):ca.f m s n=some ((gC s.aa n).kind==0):=by
 simp only [ca.f,zw h,Vq]
theorem JD (h1:Rg s.aa.length a)(h2:Rg s.aa.length b)(hl:s.ae.length=s.aa.length):cu.f m s a b=some ((j9 s.aa a b).1,⟨s.aj,s.aa,s.ae.set (j9 s.aa a b).1.toNat (j9 s.aa a b).2⟩):=by
 have i1:ix s.ae a=some (iK s.ae a):=vU (by rw [hl]; exact h1)
 have i2:ix s.ae b=some (iK s.ae b):=vU (by rw [hl]; exact h2)
 simp only [cu.f,jn,zy h1,zy h2,Vq,i1,i2]
 unfold j9 gU
 by_cases ha:(gC s.aa a).kind=0<;>by_cases hb:(gC s.aa b).kind=0<;>by_cases KV:a<b
 all_goals
  first
  | have ea:((gC s.aa a).kind==0)=true:=by simpa using ha
  | have ea:((gC s.aa a).kind==0)=false:=by simpa using ha
 all_goals
  first
  | have eb:((gC s.aa b).kind==0)=true:=by simpa using hb
  | have eb:((gC s.aa b).kind==0)=false:=by simpa using hb
 all_goals simp [ha,hb,KV,i1,i2,ea,eb]
theorem Bw:cC.f m s n=some (decide (Rg s.aa.length n)):=by
 unfold cC.f Rg
 by_cases h1:n≥0<;>by_cases h2:n<(s.aa.length:Int)<;>simp [h1,h2]
theorem Inv.join (v:Inv s)(h1:Rg s.aa.length a)(h2:Rg s.aa.length b)(r1:rp s.ae a=a)(r2:rp s.ae b=b)(hne:a≠b) :
  Inv ⟨s.aj,s.aa,s.ae.set (j9 s.aa a b).1.toNat (j9 s.aa a b).2⟩∧(∀n,Rg s.aa.length n→rp (s.ae.set (j9 s.aa a b).1.toNat (j9 s.aa a b).2) n=sO (rp s.ae) (j9 s.aa a b) n)∧qC (s.ae.set (j9 s.aa a b).1.toNat (j9 s.aa a b).2)=qC s.ae+1:=by
 obtain⟨hb,hq⟩:=uu (N:=s.aa) a b
 generalize j9 s.aa a b=q at *
 have g:Rg s.aa.length q.1∧Rg s.aa.length q.2∧rp s.ae q.1=q.1∧rp s.ae q.2=q.2∧q.2≠q.1:=by
  rcases hq with⟨e1,e2⟩| ⟨e1,e2⟩
  ·rw [e1,e2]; exact⟨h1,h2,r1,r2,fun h=>hne h.symm⟩
  ·rw [e1,e2]; exact⟨h2,h1,r2,r1,hne⟩
 obtain⟨g1,g2,g3,g4,g5⟩:=g
 have s1:iK s.ae q.1=q.1:=by have:=v.ok.rt _ (v.rg g1); rwa [g3] at this
 have s2:iK s.ae q.2=q.2:=by have:=v.ok.rt _ (v.rg g2); rwa [g4] at this
 obtain⟨j1,j2⟩:=Uf.L2 v.ok (v.rg g1) (v.rg g2) s1 s2 g5
 have j3:∀n,Rg s.aa.length n→rp (s.ae.set q.1.toNat q.2) n=sO (rp s.ae) q n:=fun n hn=>j2 n (v.rg hn)
 have c:=JC v.cn g1 g2 g3 g4 g5 hb
 refine⟨⟨v.made,by show (List.set _ _ _).length=_; rw [VC]; exact v.len,v.max,j1,⟨fun n hn=>?_,fun n hn=>?_,fun n hn=>?_⟩,v.args⟩,j3,Br (v.rg g1) s1 g5⟩
 ·show Rg _ (rp (s.ae.set q.1.toNat q.2) n)
  rw [j3 n hn]; exact c.rg n hn
 ·show rp (s.ae.set q.1.toNat q.2) (rp (s.ae.set q.1.toNat q.2) n)=_
  rw [j3 n hn,j3 _ (c.rg n hn),c.id n hn]
 ·show Bt _ (rp (s.ae.set q.1.toNat q.2) n) n
  rw [j3 n hn]; exact c.bt n hn
theorem E4 (x y:aq):∃d,fo.f m x y=some d∧(d=false↔mQ x y):=by
 unfold fo.f mQ
 have h5:(((x.args.length:Int)==(y.args.length:Int))=true)↔x.args.length=y.args.length:=by rw [beq_iff_eq]; omega
 by_cases h1:x.kind=y.kind
 ·by_cases h2:x.int=y.int
  ·by_cases h3:x.label.data.toList=y.label.data.toList
   ·refine⟨!((x.args.length:Int)==(y.args.length:Int)),by simp [h1,h2,h3],?_⟩
    rw [Bool.not_eq_false',h5]
    exact⟨fun h=>⟨h1,h2,h3,h⟩,fun h=>h.2.2.2⟩
   ·have h6:¬x.label.data=y.label.data:=fun h=>h3 (by rw [h])
    exact⟨true,by simp [h1,h2,h6],by simp [h6]⟩
  ·exact⟨true,by simp [h1,h2],by simp [h2]⟩
 ·exact⟨true,by simp [h1],by simp [h1]⟩
end
end Go.Proofs.Ytifafejidnjckaa
namespace Go.Proofs.Ytifafejidnjckaa
open Go Go.R Go.Uf
open Go.IntKind (i64 u64 u8 u32)
def wq (p:bb):Int × Int:=(p.j7,p.ld)
def rf (a b:List Int):List bb:=(a.zip b).map fun p=>⟨p.1,p.2⟩
theorem uv {m:Nat}{v2 v3:aq}{s:ab}(hl:v2.args.length=v3.args.length)(h8:v2.args.length≤8):∀(k:Nat) (left:List bb) (i:Nat),i≤v2.args.length→v2.args.length - i<k→left.length+8≤1000000+i→
  az.l1 m v2 v3 k left (i:Int) s=some (left++rf (v2.args.drop i) (v3.args.drop i),(v2.args.length:Int),s)
 | 0,left,i,h1,h2,_=>by omega
 | k+1,left,i,h1,h2,h3=>by
  simp only [az.l1]
  by_cases hi:i<v2.args.length
  ·have RD:i<v3.args.length:=by omega
   have e2:=Vx hi
   have e3:=Vx RD
   have d:decide ((i:Int)<(v2.args.length:Int))=true:=by rw [decide_eq_true_eq]; omega
   have ea:app 16 left [(⟨v2.args[i],v3.args[i]⟩:bb)]=some (left++[⟨v2.args[i],v3.args[i]⟩]):=zx (by
    simp only [VF,VT]; omega)
   have ew:i64.wrap ((i:Int)+1)=((i+1:Nat):Int):=by rw [me (by omega) (by omega)]; omega
   rw [if_pos d,Bv e2,Bv e3]
   simp only [Vq,ea,ew]
   rw [uv hl h8 k _ (i+1) (by omega) (by omega) (by simp only [VA,VF,VT]; omega)]
   have e4:rf (v2.args.drop i) (v3.args.drop i)=⟨v2.args[i],v3.args[i]⟩::rf (v2.args.drop (i+1)) (v3.args.drop (i+1)):=by
    unfold rf
    rw [VE hi,VE RD]; rfl
   rw [e4,VI]; rfl
  ·have d:decide ((i:Int)<(v2.args.length:Int))=false:=by rw [decide_eq_false_iff_not]; omega
   have e:i=v2.args.length:=by omega
   rw [if_neg (by rw [d]; decide),e]
   simp [rf]
def CP (s s':ab)(l:List Int):Prop:=s'.aj=s.aj∧s'.aa=s.aa∧s'.ae.length=s.ae.length∧(∀n∈l,Rg s.ae.length n∧iK s.ae n=n)∧∀n,Rg s.ae.length n→n∉l→iK s'.ae n=iK s.ae n
theorem CP.refl (s:ab):CP s s []:=⟨rfl,rfl,rfl,fun n h=>absurd h (by simp),fun _ _ _=>rfl⟩
theorem CP.step {s s':ab}{l:List Int}{a b:Int}(ha:Rg s.ae.length a)(hr:iK s.ae a=a)(hne:b≠a)(u:CP ⟨s.aj,s.aa,s.ae.set a.toNat b⟩ s' l):CP s s' (a::l):=by
 obtain⟨u1,u2,u3,u4,u5⟩:=u
 have hl:(s.ae.set a.toNat b).length=s.ae.length:=VC
 have hs:=vV (b:=b) ha
 have e:∀n,Rg s.ae.length n→n≠a→iK (s.ae.set a.toNat b) n=iK s.ae n:=fun n hn h=>by
  rw [hs,if_neg (fun e=>h (by have:=hn.1; have:=ha.1; omega))]
 refine⟨u1,u2,u3.trans hl,fun n hn=>?_,fun n hn hm=>?_⟩
 ·rcases VS.1 hn with rfl | hn
  ·exact⟨ha,hr⟩
  ·obtain⟨g1,g2⟩:=u4 n hn
   have g1:Rg (s.ae.set a.toNat b).length n:=g1
   have g2:iK (s.ae.set a.toNat b) n=n:=g2
   rw [hl] at g1
   refine⟨g1,?_⟩
   by_cases h:n=a
   ·subst h; exact hr
   ·rw [e n g1 h] at g2; exact g2
 ·simp only [VS,not_or] at hm
  have:=u5 n (by show Rg (s.ae.set a.toNat b).length n; rw [hl]; exact hn) hm.2
  rw [this]
  exact e n hn hm.1
def Bx (s:ab)(L:List (Int × Int))(ch:List Int):Sum ((List Int) × Bool × ab) ((List Int) × (List bb) × Int × ab)→Prop
 | .inl (E5,b,s')=>b=false∧∃l,E5=ch++l∧CP s s' l∧Inv s'∧(ch++l).length≤8000∧∀T,Cl s.aa T→gW s.aa (rp s.ae) T→(∀p∈L,T p.1=T p.2)→False
 | .inr (E5,_,_,s')=>∃l,E5=ch++l∧CP s s' l∧Inv s'∧(ch++l).length≤8000∧Cl s.aa (rp s'.ae)∧gW s.aa (rp s.ae) (rp s'.ae)∧(∀p∈L,rp s'.ae p.1=rp s'.ae p.2)∧∀T,Cl s.aa T→gW s.aa (rp s.ae) T→(∀p∈L,T p.1=T p.2)→gW s.aa (rp s'.ae) T
end Go.Proofs.Ytifafejidnjckaa
namespace Go.Uf
open Go Go.R
open Go.IntKind (i64 u64 u8 u32)
theorem gW.trans {N:List aq}{R S T:Int→Int}(a:gW N R S)(b:gW N S T):gW N R T:=fun x y hx hy h=>b x y hx hy (a x y hx hy h)
theorem gW.congr {N:List aq}{R S T:Int→Int}(e:∀n,Rg N.length n→R n=S n)(b:gW N S T):gW N R T:=fun x y hx hy h=>b x y hx hy (by rw [←e x hx,←e y hy,h])
theorem gW.JE {N:List aq}{R S T:Int→Int}(e:∀n,Rg N.length n→S n=T n)(b:gW N R S):gW N R T:=fun x y hx hy h=>by rw [←e x hx,←e y hy]; exact b x y hx hy h
theorem re.congr {N:List aq}{R S:Int→Int}{L:List (Int × Int)}(e:∀n,Rg N.length n→R n=S n)(p:re N S L):re N R L:=fun T s hL x y hx hy h=>p T (s.congr fun n hn=>(e n hn).symm) hL x y hx hy (by rw [←e x hx,←e y hy,h])
end Go.Uf
namespace Go.Proofs.Ytifafejidnjckaa
open Go Go.R Go.Uf
open Go.IntKind (i64 u64 u8 u32)
section
variable {s:ab}
theorem Hb {ch:List Int}{left M:List bb}{i:Nat}{p:bb}{q:Int × Int}{out:Sum ((List Int) × Bool × ab) ((List Int) × (List bb) × Int × ab)}
  (v:Inv s) (hp:left[i]? = some p) (h1:Rg s.aa.length p.j7) (h2:Rg s.aa.length p.ld)
  (hq:(q.1=rp s.ae p.j7∧q.2=rp s.ae p.ld)∨(q.1=rp s.ae p.ld∧q.2=rp s.ae p.j7)) (hne:q.2≠q.1)
  (hr:∀n,Rg s.aa.length n→rp (s.ae.set q.1.toNat q.2) n=sO (rp s.ae) q n)
  (hM:∀T,Cl s.aa T→T (rp s.ae p.j7)=T (rp s.ae p.ld)→∀x∈M,T x.j7=T x.ld)
  (h:Bx ⟨s.aj,s.aa,s.ae.set q.1.toNat q.2⟩ (((left++M).drop (i+1)).map wq) (ch++[q.1]) out):Bx s ((left.drop i).map wq) ch out:=by
 have hi:i<left.length:=(Vy.1 hp).1
 have Ni:left[i]=p:=(Vy.1 hp).2
 have ed:left.drop i=p::left.drop (i+1):=by rw [VE hi,Ni]
 have JF:(left++M).drop (i+1)=left.drop (i+1)++M:=List.drop_append_of_le_length (by omega)
 have g1:=v.cn.rg _ h1
 have g2:=v.cn.rg _ h2
 have gq:Rg s.aa.length q.1∧Rg s.aa.length q.2∧rp s.ae q.1=q.1∧rp s.ae q.2=q.2:=by
  rcases hq with⟨e1,e2⟩| ⟨e1,e2⟩
  ·rw [e1,e2]; exact⟨g1,g2,v.cn.id _ h1,v.cn.id _ h2⟩
  ·rw [e1,e2]; exact⟨g2,g1,v.cn.id _ h2,v.cn.id _ h1⟩
 obtain⟨q1,q2,q3,q4⟩:=gq
 have ly:iK s.ae q.1=q.1:=by have:=v.ok.rt _ (v.rg q1); rwa [q3] at this
 have TV:gW s.aa (rp s.ae) (rp (s.ae.set q.1.toNat q.2)):=gW.JE (fun n hn=>(hr n hn).symm) Bu
 have TW:rp (s.ae.set q.1.toNat q.2) p.j7=rp (s.ae.set q.1.toNat q.2) p.ld:=by
  rw [hr _ h1,hr _ h2]
  rcases hq with⟨e1,e2⟩| ⟨e1,e2⟩
  ·exact vW e1.symm e2.symm hne
  ·exact (vW e1.symm e2.symm hne).symm
 have L7:∀T,Cl s.aa T→gW s.aa (rp s.ae) T→(∀x∈(left.drop i).map wq,T x.1=T x.2)→gW s.aa (rp (s.ae.set q.1.toNat q.2)) T∧∀x∈((left++M).drop (i+1)).map wq,T x.1=T x.2:=by
  intro T cT sT hT
  have tp:T p.j7=T p.ld:=hT (wq p) (by rw [ed]; simp)
  have ta:T (rp s.ae p.j7)=T p.j7:=sT _ _ g1 h1 (v.cn.id _ h1)
  have tb:T (rp s.ae p.ld)=T p.ld:=sT _ _ g2 h2 (v.cn.id _ h2)
  have tt:T (rp s.ae p.j7)=T (rp s.ae p.ld):=by rw [ta,tb,tp]
  refine⟨gW.congr hr (CM v.cn q1 q2 sT ?_),fun x hx=>?_⟩
  ·rcases hq with⟨e1,e2⟩| ⟨e1,e2⟩
   ·rw [e1,e2]; exact tt
   ·rw [e1,e2]; exact tt.symm
  ·rw [JF,VY] at hx
   rcases VX.1 hx with hx | hx
   ·exact hT x (by rw [ed]; simp only [VU]; exact List.mem_cons_of_mem _ hx)
   ·obtain⟨y,hy,rfl⟩:=V8.1 hx
    exact hM T cT tt y hy
 match out,h with
 | .inl (E5,b,s'),⟨hb,l,e,u,v',hl,hT⟩=>
  exact⟨hb,q.1::l,by rw [e]; simp,CP.step (v.rg q1) ly hne u,v',by simpa using hl,fun T cT sT pT=>by
   obtain⟨k1,k2⟩:=L7 T cT sT pT
   exact hT T cT k1 k2⟩
 | .inr (E5,H3,i',s'),⟨l,e,u,v',hl,hc,hs,MQ,hT⟩=>
  refine⟨q.1::l,by rw [e]; simp,CP.step (v.rg q1) ly hne u,v',by simpa using hl,hc,TV.trans hs,fun x hx=>?_,fun T cT sT pT=>?_⟩
  ·rw [ed] at hx
   simp only [VU] at hx
   rcases VS.1 hx with rfl | hx
   ·exact hs _ _ h1 h2 TW
   ·exact MQ x (by rw [JF,VY]; exact Wk _ hx)
  ·obtain⟨k1,k2⟩:=L7 T cT sT pT
   exact hT T cT k1 k2
theorem By {a b:List Int}{x:bb}(h:x∈rf a b):∃i:Nat,a[i]? = some x.j7∧b[i]? = some x.ld:=by
 unfold rf at h
 obtain⟨p,hp,rfl⟩:=V8.1 h
 obtain⟨i,hi⟩:=Wu hp
 rw [List.getElem?_zip_eq_some] at hi
 exact⟨i,hi⟩
theorem Hc {a b:List Int}{i:Nat}{x y:Int}(h1:a[i]? = some x)(h2:b[i]? = some y):(x,y)∈(rf a b).map wq:=by
 unfold rf
 rw [List.map_map]
 refine V8.2 ⟨(x,y),?_,rfl⟩
 exact VH (i:=i) (List.getElem?_zip_eq_some.2 ⟨h1,h2⟩)
theorem pS {m:Nat}(hm:16000≤m):∀(k:Nat) (s:ab) (ch:List Int) (left:List bb) (i:Nat),i≤left.length→9*(s.aa.length - qC s.ae)+(left.length - i)<k→left.length≤1+8*qC s.ae→ch.length≤qC s.ae→Inv s→
  (∀p∈left,Rg s.aa.length p.j7∧Rg s.aa.length p.ld)→re s.aa (rp s.ae) ((left.drop i).map wq)→∃out,az.l0 m k ch left (i:Int) s=some out∧Bx s ((left.drop i).map wq) ch out
 | 0,s,ch,left,i,h1,h2,h3,h4,v,hin,hp=>by omega
 | k+1,s,ch,left,i,h1,h2,h3,h4,v,hin,hp=>by
  have n1:=vT s.ae
  have n2:=v.len
  have n3:=v.max
  simp only [az.l0]
  by_cases hi:i<left.length
  rotate_left
  ·have d:decide ((i:Int)<(left.length:Int))=false:=by rw [decide_eq_false_iff_not]; omega
   rw [if_neg (by rw [d]; decide)]
   have hd:left.drop i=[]:=WE (by omega)
   rw [hd] at hp ⊢
   exact⟨_,rfl,[],by simp,CP.refl s,v,by simp; omega,E1 hp,fun _ _ _ _ h=>h,fun x hx=>by simp at hx,fun T _ s _=>s⟩
  have d:decide ((i:Int)<(left.length:Int))=true:=by rw [decide_eq_true_eq]; omega
  have ep:=Vx hi
  generalize left[i]=p at ep
  obtain⟨ra,rb⟩:=hin p (VH ep)
  have ed:left.drop i=p::left.drop (i+1):=by
   rw [VE hi]; congr 1
   exact (Vy.1 ep).2
  have ew:i64.wrap ((i:Int)+1)=((i+1:Nat):Int):=by rw [me (by omega) (by omega)]; omega
  rw [if_pos d,Bv ep]
  simp only [Vq,E3 hm v ra,E3 hm v rb,ew]
  have ga:=v.cn.rg _ ra
  have gb:=v.cn.rg _ rb
  have MQ:re s.aa (rp s.ae) (wq p::(left.drop (i+1)).map wq):=by rw [ed] at hp; exact hp
  by_cases he:rp s.ae p.j7=rp s.ae p.ld
  ·have c1:(rp s.ae p.j7==rp s.ae p.j7&&rp s.ae p.ld==rp s.ae p.j7)=true:=by simp [he]
   rw [if_pos c1]
   obtain⟨out,e1,e2⟩:=pS hm k s ch left (i+1) (by omega) (by omega) h3 h4 v hin (CN MQ ra rb he)
   refine⟨out,e1,?_⟩
   match out,e2 with
   | .inl (E5,b,s'),⟨hb,l,e,u,v',hl,hT⟩=>
    exact⟨hb,l,e,u,v',hl,fun T cT sT pT=>hT T cT sT fun x hx=>pT x (by rw [ed]; simp only [VU]; exact List.mem_cons_of_mem _ hx)⟩
   | .inr (E5,H3,i',s'),⟨l,e,u,v',hl,hc,hs,hq,hT⟩=>
    refine⟨l,e,u,v',hl,hc,hs,fun x hx=>?_,fun T cT sT pT=>hT T cT sT fun x hx=>pT x (by rw [ed]; simp only [VU]; exact List.mem_cons_of_mem _ hx)⟩
    rw [ed] at hx
    simp only [VU] at hx
    rcases VS.1 hx with rfl | hx
    ·exact hs _ _ ra rb he
    ·exact hq x hx
  ·have c1:¬(rp s.ae p.j7==rp s.ae p.j7&&rp s.ae p.ld==rp s.ae p.j7)=true:=by
    simp only [BEq.rfl,WZ,beq_iff_eq]; exact fun h=>he h.symm
   rw [if_neg c1]
   simp only [zw ga,zw gb,Vq]
   obtain⟨jv,jr,jn⟩:=v.join ga gb (v.cn.id _ ra) (v.cn.id _ rb) he
   have ej:=JD (m:=m) ga gb v.len
   obtain⟨ob,oq⟩:=uu (N:=s.aa) (rp s.ae p.j7) (rp s.ae p.ld)
   have hne:(j9 s.aa (rp s.ae p.j7) (rp s.ae p.ld)).2≠(j9 s.aa (rp s.ae p.j7) (rp s.ae p.ld)).1:=by
    rcases oq with⟨e1,e2⟩| ⟨e1,e2⟩
    ·rw [e1,e2]; exact fun h=>he h.symm
    ·rw [e1,e2]; exact he
   generalize j9 s.aa (rp s.ae p.j7) (rp s.ae p.ld)=q at *
   have RE:(q.1=rp s.ae p.j7∧q.2=rp s.ae p.ld)∨(q.1=rp s.ae p.ld∧q.2=rp s.ae p.j7):=oq
   have n4:=vT (s.ae.set q.1.toNat q.2)
   rw [VC,jn] at n4
   have RF:∀M:List bb,M.length≤8→(∀x∈M,Rg s.aa.length x.j7∧Rg s.aa.length x.ld)→
     (∀T,Cl s.aa T→T (rp s.ae p.j7)=T (rp s.ae p.ld)→∀x∈M,T x.j7=T x.ld)→
     (gU s.aa (rp s.ae p.j7)→gU s.aa (rp s.ae p.ld)→mQ (gC s.aa (rp s.ae p.j7)) (gC s.aa (rp s.ae p.ld))∧∀(i:Nat) (a b:Int),(gC s.aa (rp s.ae p.j7)).args[i]? = some a→(gC s.aa (rp s.ae p.ld)).args[i]? = some b→(a,b)∈M.map wq)→
     ∃out,((app 8 ch [q.1]).bind fun x=>az.l0 m k x (left++M) ((i+1:Nat):Int) ⟨s.aj,s.aa,s.ae.set q.1.toNat q.2⟩)=some out∧Bx s ((left.drop i).map wq) ch out:=by
    intro M Vk TX TY TZ
    rw [zx (by simp only [VF,VT]; omega),Vq]
    have JF:((left++M).drop (i+1)).map wq=(left.drop (i+1)).map wq++M.map wq:=by
     rw [List.drop_append_of_le_length (by omega),VY]
    have jn:qC (s.ae.set q.1.toNat q.2)=qC s.ae+1:=jn
    obtain⟨out,e1,e2⟩:=pS hm k ⟨s.aj,s.aa,s.ae.set q.1.toNat q.2⟩ (ch++[q.1]) (left++M) (i+1) (by rw [VA]; omega)
     (by show 9*(s.aa.length - qC (s.ae.set q.1.toNat q.2))+_<k; rw [jn,VA]; omega) (by show _≤1+8*qC (s.ae.set q.1.toNat q.2); rw [jn,VA]; omega)
     (by show _≤qC (s.ae.set q.1.toNat q.2); rw [jn,VA]; simp only [VF,VT]; omega) jv
     (fun x hx=>(VX.1 hx).elim (hin x) (TX x)) (by
      rw [JF]
      exact re.congr jr (CO v.cn (p:=wq p) MQ ra rb RE hne TZ))
    exact⟨out,e1,Hb v ep ra rb RE hne jr TY e2⟩
   have JG:=RF [] (by simp) (fun x hx=>by simp at hx) (fun T _ _ x hx=>by simp at hx)
   rw [WN] at JG
   by_cases k1:(gC s.aa (rp s.ae p.j7)).kind=0
   ·have b1:(!((gC s.aa (rp s.ae p.j7)).kind==(0:Int)))=false:=by rw [k1]; rfl
    rw [b1,if_neg (by decide),ej]
    exact JG fun h=>absurd k1 h
   have b1:(!((gC s.aa (rp s.ae p.j7)).kind==(0:Int)))=true:=by simpa using k1
   rw [b1,if_pos rfl]
   by_cases k2:(gC s.aa (rp s.ae p.ld)).kind=0
   ·have b2:(!((gC s.aa (rp s.ae p.ld)).kind==(0:Int)))=false:=by rw [k2]; rfl
    rw [b2,if_neg (by decide),ej]
    exact JG fun _ h=>absurd k2 h
   have b2:(!((gC s.aa (rp s.ae p.ld)).kind==(0:Int)))=true:=by simpa using k2
   rw [b2,if_pos rfl]
   obtain⟨df,T0,JF⟩:=E4 (m:=m) (gC s.aa (rp s.ae p.j7)) (gC s.aa (rp s.ae p.ld))
   rw [T0,Vq]
   cases df with
   | true=>
    refine⟨_,rfl,rfl,[],by simp,CP.refl s,v,by simp; omega,fun T cT sT pT=>?_⟩
    have tp:T p.j7=T p.ld:=pT (wq p) (by rw [ed]; simp)
    have ta:T (rp s.ae p.j7)=T p.j7:=sT _ _ ga ra (v.cn.id _ ra)
    have tb:T (rp s.ae p.ld)=T p.ld:=sT _ _ gb rb (v.cn.id _ rb)
    have:=(cT _ _ ga gb (by rw [ta,tb,tp]) k1 k2).1
    have:=JF.2 this
    cases this
   | false=>
    have tp:=JF.1 rfl
    have a8:=(v.args _ (lO ga)).1
    have el:az.l1 m (gC s.aa (rp s.ae p.j7)) (gC s.aa (rp s.ae p.ld)) m left 0 s=some (left++rf ((gC s.aa (rp s.ae p.j7)).args.drop 0) ((gC s.aa (rp s.ae p.ld)).args.drop 0),((gC s.aa (rp s.ae p.j7)).args.length:Int),s):=uv tp.2.2.2 a8 m left 0 (Wg _) (by omega) (by omega)
    rw [if_neg (by decide),el]
    simp only [Vq,Wa,ej]
    refine RF (rf (gC s.aa (rp s.ae p.j7)).args (gC s.aa (rp s.ae p.ld)).args) ?_ (fun x hx=>?_) (fun T cT hT x hx=>?_) (fun _ _=>⟨tp,fun i a b ha hb=>Hc ha hb⟩)
    ·unfold rf; rw [VN,List.length_zip]; omega
    ·obtain⟨j,j1,j2⟩:=By hx
     exact⟨(v.args _ (lO ga)).2 _ (VH j1),(v.args _ (lO gb)).2 _ (VH j2)⟩
    ·obtain⟨j,j1,j2⟩:=By hx
     exact (cT _ _ ga gb hT k1 k2).2 j _ _ j1 j2
end
end Go.Proofs.Ytifafejidnjckaa
namespace Go.Proofs.Ytifafejidnjckaa
open Go Go.R Go.Uf
open Go.IntKind (i64 u64 u8 u32)
section
variable {m:Nat}{s s':ab}
theorem uw {a b:ab}(h1:a.aj=b.aj)(h2:a.aa=b.aa)(h3:a.ae=b.ae):a=b:=by
 cases a; cases b; cases h1; cases h2; cases h3; rfl
theorem JH {a b:List Int}(hl:a.length=b.length)(h:∀n,Rg b.length n→iK a n=iK b n):a=b:=by
 refine WQ fun i=>?_
 by_cases hi:i<b.length
 ·have r:Rg b.length (i:Int):=⟨WI _,by omega⟩
  have e1:=rH (to:=b) r
  have e2:=rH (to:=a) (n:=(i:Int)) (by rw [hl]; exact r)
  rw [VD] at e1 e2
  rw [e1,e2,h _ r]
 ·rw [V1 (by omega),V1 (by omega)]
theorem Bz (l:List Int)(hl:l.length≤8000)(s:ab)(hs:∀n∈l,Rg s.ae.length n∧iK s.ae n=n):∀(k:Nat) (i:Nat) (s':ab),i≤l.length→l.length - i<k→s'.aj=s.aj→s'.aa=s.aa→s'.ae.length=s.ae.length→(∀n,Rg s.ae.length n→n∉l.drop i→iK s'.ae n=iK s.ae n)→
  be.l0 m l k (i:Int) s'=some ((l.length:Int),s)
 | 0,i,s',h1,h2,_,_,_,_=>by omega
 | k+1,i,s',h1,h2,e1,e2,e3,h=>by
  simp only [be.l0]
  by_cases hi:i<l.length
  ·have d:decide ((i:Int)<(l.length:Int))=true:=by rw [decide_eq_true_eq]; omega
   have el:=Vx hi
   have ed:l.drop i=l[i]::l.drop (i+1):=VE hi
   generalize l[i]=n at el ed
   obtain⟨rn,sn⟩:=hs n (VH el)
   have RG:Rg s'.ae.length n:=by rw [e3]; exact rn
   have ew:i64.wrap ((i:Int)+1)=((i+1:Nat):Int):=by rw [me (by omega) (by omega)]; omega
   rw [if_pos d,Bv el]
   simp only [Vq,vU RG,ew]
   refine Bz l hl s hs k (i+1) _ (by omega) (by omega) e1 e2 (by show (List.set _ _ _).length=_; rw [VC,e3]) (fun x hx hm=>?_)
   show iK (s'.ae.set n.toNat n) x=_
   rw [vV RG]
   by_cases he:x.toNat=n.toNat
   ·have:x=n:=by have:=hx.1; have:=rn.1; omega
    rw [if_pos he,this,sn]
   ·rw [if_neg he]
    refine h x hx ?_
    rw [ed]
    simp only [VS,not_or]
    exact⟨fun e=>he (by rw [e]),hm⟩
  ·have d:decide ((i:Int)<(l.length:Int))=false:=by rw [decide_eq_false_iff_not]; omega
   rw [if_neg (by rw [d]; decide)]
   have hd:l.drop i=[]:=WE (by omega)
   have:s'=s:=uw e1 e2 (JH e3 fun n hn=>h n hn (by rw [hd]; simp))
   rw [this]
   congr 2; omega
theorem E6 (hm:16000≤m){l:List Int}(hl:l.length≤8000)(u:CP s s' l):be.f m s' l=some s:=by
 obtain⟨u1,u2,u3,u4,u5⟩:=u
 have:=Bz (m:=m) l hl s u4 m 0 s' (Wg _) (by omega) u1 u2 u3 (by rw [Wa]; exact u5)
 have this:be.l0 m l m 0 s'=some ((l.length:Int),s):=this
 simp only [be.f,this,Vq]
theorem xX {f:Int→Option Bool}{g:Int→Bool}(l:List Int)(hl:l.length≤1000000)(hf:∀x∈l,f x=some (g x)):∀(k i:Nat),i≤l.length→l.length - i<k→
  (∃j:Nat,cH.l0 m l f k (i:Int)=some (.inl (j:Int))∧i≤j∧j<l.length∧(∀x,l[j]? = some x→g x=true)∧∀q,i≤q→q<j→∀x,l[q]? = some x→g x=false)∨
  (∃z,cH.l0 m l f k (i:Int)=some (.inr z)∧∀q,i≤q→∀x,l[q]? = some x→g x=false)
 | 0,i,h1,h2=>by omega
 | k+1,i,h1,h2=>by
  simp only [cH.l0]
  by_cases hi:i<l.length
  ·have d:decide ((i:Int)<(l.length:Int))=true:=by rw [decide_eq_true_eq]; omega
   have el:=Vx hi
   generalize l[i]=n at el
   have ew:i64.wrap ((i:Int)+1)=((i+1:Nat):Int):=by rw [me (by omega) (by omega)]; omega
   rw [if_pos d,Bv el]
   simp only [Vq,hf n (VH el),ew]
   cases hg:g n with
   | true=>
    left
    refine⟨i,by simp,Vv _,hi,fun x hx=>?_,fun q h3 h4=>by omega⟩
    rw [el] at hx; cases hx; exact hg
   | false=>
    rw [if_neg (by decide)]
    have iK:∀q,i≤q→q≠i→i+1≤q:=fun q h3 h4=>by omega
    rcases xX l hl hf k (i+1) (by omega) (by omega) with⟨j,e,j1,j2,j3,j4⟩| ⟨z,e,j4⟩
    ·left
     refine⟨j,e,by omega,j2,j3,fun q h3 h4 x hx=>?_⟩
     by_cases hq:q=i
     ·subst hq; rw [el] at hx; cases hx; exact hg
     ·exact j4 q (iK q h3 hq) h4 x hx
    ·right
     refine⟨z,e,fun q h3 x hx=>?_⟩
     by_cases hq:q=i
     ·subst hq; rw [el] at hx; cases hx; exact hg
     ·exact j4 q (iK q h3 hq) x hx
  ·have d:decide ((i:Int)<(l.length:Int))=false:=by rw [decide_eq_false_iff_not]; omega
   rw [if_neg (by rw [d]; decide)]
   right
   refine⟨_,rfl,fun q h3 x hx=>?_⟩
   rw [V1 (by omega)] at hx; cases hx
theorem BA {f:Int→Option Bool}{g:Int→Bool}(hm:2000000≤m)(l:List Int)(hl:l.length≤1000000)(hf:∀x∈l,f x=some (g x)) :
  (∃j:Nat,cH.f m l f=some (j:Int)∧j<l.length∧(∀x,l[j]? = some x→g x=true)∧∀q,q<j→∀x,l[q]? = some x→g x=false)∨
  (cH.f m l f=some (-1)∧∀x∈l,g x=false):=by
 rcases xX (m:=m) l hl hf m 0 (Wg _) (by omega) with⟨j,e,j1,j2,j3,j4⟩| ⟨z,e,j4⟩
 ·left
  have e:cH.l0 m l f m 0=_:=e
  refine⟨j,by simp only [cH.f,e,Vq],j2,j3,fun q=>j4 q (Wg _)⟩
 ·right
  have e:cH.l0 m l f m 0=_:=e
  refine⟨by simp only [cH.f,e,Vq],fun x hx=>?_⟩
  obtain⟨q,hq⟩:=Wu hx
  exact j4 q (Wg _) x hq
theorem sW {f:Int→Option Bool}{g:Int→Bool}(hm:2000000≤m)(l:List Int)(hl:l.length≤1000000)(hf:∀x∈l,f x=some (g x)):eF.f m l f=some (l.any g):=by
 unfold eF.f
 rcases BA hm l hl hf with⟨j,e,j1,j2,_⟩| ⟨e,h⟩
 ·rw [e,Vq]
  have h1:=Vx j1
  have:l.any g=true:=List.any_eq_true.2 ⟨_,VH h1,j2 _ h1⟩
  rw [this]
  rw [show decide ((j:Int)≥0)=true by rw [decide_eq_true_eq]; omega]
 ·rw [e,Vq]
  have:l.any g=false:=by
   rw [List.any_eq_false]
   intro x hx; simp [h x hx]
  rw [this]; rfl
theorem vX (hm:2000000≤m)(hs:s.aj=true)(l:List Int)(hl:l.length≤1000000):bW.f m s l=some (if l.all (fun n=>decide (Rg s.aa.length n)) then 0 else 1):=by
 unfold bW.f bu.f
 rw [hs]
 simp only [Vq,Wn,VB,if_false]
 rw [sW hm l hl (g:=fun n=>!decide (Rg s.aa.length n)) (fun x _=>by simp only [cW.f,Bw,Vq])]
 rw [Vq]
 have:(l.any fun n=>!decide (Rg s.aa.length n)) = !(l.all fun n=>decide (Rg s.aa.length n)):=by
  induction l with
  | nil=>rfl
  | cons a l ih=>simp only [List.any_cons,Wf,Bool.not_and,ih (by simp only [VF] at hl; omega)]
 rw [this]
 cases (l.all fun n=>decide (Rg s.aa.length n))<;>rfl
end
end Go.Proofs.Ytifafejidnjckaa
namespace Go.Proofs.Ytifafejidnjckaa
open Go Go.R Go.Uf
open Go.IntKind (i64 u64 u8 u32)
section
variable {m:Nat}{s s':ab}
theorem pU {f:Int→Option Bool}{g:Int→Bool}(l:List Int)(hl:l.length≤1000000)(hf:∀x∈l,f x=some (g x)):∀(k:Nat) (s1:List Int) (i j:Nat),i≤j→i<l.length→j≤l.length→l.length - j<k→s1.length=l.length→s1.take i=(l.take j).filter (fun x=>!g x)→s1.drop j=l.drop j→
  ∃(s2:List Int) (i2:Nat) (z:Int),dL.l0 m l f k s1 (i:Int) (j:Int)=some (s2,(i2:Int),z)∧i2≤l.length∧s2.length=l.length∧s2.take i2=l.filter (fun x=>!g x)
 | 0,s1,i,j,h1,_,h2,h3,_,_,_=>by omega
 | k+1,s1,i,j,h1,h0,h2,h3,h4,h5,h6=>by
  simp only [dL.l0]
  by_cases hj:j<l.length
  ·have d:decide ((j:Int)<(l.length:Int))=true:=by rw [decide_eq_true_eq]; omega
   have el:=Vx hj
   have e1:s1[j]? = some l[j]:=by
    have:=congrArg (fun z=>z[0]?) h6
    simp only [List.getElem?_drop,WV] at this
    rw [this,el]
   have et:l.take (j+1)=l.take j++[l[j]]:=(Wp hj)
   have PO:i64.wrap ((j:Int)+1)=((j+1:Nat):Int):=by rw [me (by omega) (by omega)]; omega
   have T3:i64.wrap ((i:Int)+1)=((i+1:Nat):Int):=by rw [me (by omega) (by omega)]; omega
   have hd:∀s3:List Int,s3.drop j=l.drop j→s3.drop (j+1)=l.drop (j+1):=fun s3 h=>by
    rw [WT,←List.drop_drop,←List.drop_drop] at *
    rw [WT] at *
    have a1:(s3.drop j).drop 1=(l.drop j).drop 1:=by rw [h]
    simpa [List.drop_drop,WT] using a1
   rw [if_pos d,Bv e1]
   simp only [Vq,hf _ (VH el),PO,T3]
   cases hg:g l[j] with
   | true=>
    rw [if_neg (by decide)]
    exact pU l hl hf k s1 i (j+1) (by omega) h0 (by omega) (by omega) h4 (by rw [et,List.filter_append,h5]; simp [hg]) (hd s1 h6)
   | false=>
    rw [if_pos (by decide)]
    have i1:i<s1.length:=by omega
    have e2:=Vx i1
    rw [Bv e2,Vq,VD]
    by_cases hi:i+1<l.length
    ·refine pU l hl hf k (s1.set i l[j]) (i+1) (j+1) (by omega) hi (by omega) (by omega) (by rw [VC,h4]) ?_ ?_
     ·rw [et,List.filter_append,←h5]
      have:(s1.set i l[j]).take (i+1)=s1.take i++[l[j]]:=by
       rw [Wp (by rw [VC]; exact i1)]
       rw [List.take_set_of_le (Vv _),List.getElem_set_self]
      rw [this]; simp [hg]
     ·rw [List.drop_set_of_lt (by omega)]
      exact hd s1 h6
    ·
     have F3:j+1=l.length:=by omega
     have yy:i=j:=by omega
     cases k with
     | zero=>omega
     | succ k=>
      simp only [dL.l0]
      have d2:decide (((j+1:Nat):Int)<(l.length:Int))=false:=by rw [decide_eq_false_iff_not]; omega
      rw [if_neg (by rw [d2]; decide)]
      refine⟨_,i+1,_,rfl,by omega,by rw [VC,h4],?_⟩
      have:(s1.set i l[j]).take (i+1)=s1.take i++[l[j]]:=by
       rw [Wp (by rw [VC]; exact i1)]
       rw [List.take_set_of_le (Vv _),List.getElem_set_self]
      have L8:l=l.take j++[l[j]]:=by rw [←et,F3,List.take_length]
      rw [this,h5]
      conv=>rhs; rw [L8]
      rw [List.filter_append]; simp [hg]
  ·have d:decide ((j:Int)<(l.length:Int))=false:=by rw [decide_eq_false_iff_not]; omega
   rw [if_neg (by rw [d]; decide)]
   have F3:j=l.length:=by omega
   refine⟨_,i,_,rfl,by omega,h4,?_⟩
   rw [h5,F3,List.take_length]
theorem E7 {f:Int→Option Bool}{g:Int→Bool}(hm:2000000≤m)(l:List Int)(hl:l.length≤1000000)(hf:∀x∈l,f x=some (g x)):dL.f m l f=some (l.filter fun x=>!g x):=by
 unfold dL.f
 rcases BA hm l hl hf with⟨j,e,j1,j2,j3⟩| ⟨e,h⟩
 ·rw [e,Vq]
  have hne:((j:Int) == -1)=false:=by rw [beq_eq_false_iff_ne]; omega
  have PO:i64.wrap ((j:Int)+1)=((j+1:Nat):Int):=by rw [me (by omega) (by omega)]; omega
  have el:=Vx j1
  obtain⟨s2,i2,z,e2,g1,g2,g3⟩:=pU (m:=m) l hl hf m l j (j+1) (by omega) j1 (by omega) (by omega) rfl (by
   rw [Wp j1,List.filter_append]
   have:(l.take j).filter (fun x=>!g x)=l.take j:=by
    rw [List.filter_eq_self]
    intro x hx
    obtain⟨q,hq⟩:=Wu hx
    have PQ:q<j:=by
     have:=(Vy.1 hq).1
     rw [Wt] at this; omega
    rw [List.getElem?_take_of_lt PQ] at hq
    rw [j3 q PQ x hq]; rfl
   rw [this]; simp [j2 _ el]) rfl
  rw [hne,if_neg (by decide),PO,e2]
  simp only [Vq]
  have hc:Kg s2 (i2:Int)=some (s2.take i2++VJ (s2.length - i2) 0):=by
   unfold Kg; rw [if_pos ⟨WI _,by omega⟩,VD]
  rw [hc,Vq]
  have hs:HQ (s2.take i2++VJ (s2.length - i2) 0) 0 (i2:Int)=some (s2.take i2):=by
   unfold HQ
   rw [if_pos ⟨Int.le_refl _,WI _,by rw [VA,Wt,WO]; omega⟩]
   congr 1
   simp only [VD,Int.toNat_zero,Wa,Nat.sub_zero]
   rw [VW (by rw [Wt]; omega),List.take_take,Nat.min_self]
  rw [hs,g3]; rfl
 ·rw [e,Vq]
  have hb:((-1:Int) == -1)=true:=rfl
  rw [hb,if_pos rfl]
  congr 1
  rw [eq_comm,List.filter_eq_self]
  intro x hx; rw [h x hx]; rfl
def T4 (N:List aq)(l:List Int):List Int:=kS (l.filter fun n=>(gC N n).kind==0)
theorem BB (hm:2000000≤m){l:List Int}(hl:l.length≤8000)(hr:∀n∈l,Rg s.aa.length n):cD.f m s l=some (T4 s.aa l):=by
 unfold cD.f
 have h1:C8 8 (l.length:Int) (0:Int)=some (VJ l.length 0):=by
  unfold C8; rw [if_pos ⟨WI _,by rw [VD]; omega⟩,VD]
 have h2:Lu (VJ l.length (0:Int)) l=some l:=by
  unfold Lu; rw [if_pos (by rw [WO]; exact Vv _)]; simp
 rw [h1,Vq,h2,Vq]
 rw [E7 hm l (by omega) (g:=fun n=>!((gC s.aa n).kind==0)) (fun x hx=>by simp only [cX.f,zy (hr x hx),Vq])]
 simp only [Vq,Bool.not_not]
 rfl
theorem xY (hm:2000000≤m)(v:Inv s)(c:Cl s.aa (rp s.ae)){a b:Int}(ha:Rg s.aa.length a)(hb:Rg s.aa.length b) :
  ∃l ok s',az.f m s a b=some (l,ok,s')∧CP s s' l∧Inv s'∧l.length≤8000∧
   (ok=false→∀T,Cl s.aa T→gW s.aa (rp s.ae) T→T a=T b→False)∧
   (ok=true→Cl s.aa (rp s'.ae)∧gW s.aa (rp s.ae) (rp s'.ae)∧rp s'.ae a=rp s'.ae b∧∀T,Cl s.aa T→gW s.aa (rp s.ae) T→T a=T b→gW s.aa (rp s'.ae) T):=by
 have n1:=vT s.ae
 have n2:=v.len
 have n3:=v.max
 obtain⟨out,e1,e2⟩:=pS (m:=m) (by omega) m s [] [⟨a,b⟩] 0 (by simp) (by simp only [VF,VT]; omega) (by simp only [VF,VT]; omega) (by simp) v
  (fun p hp=>by simp only [VQ] at hp; subst hp; exact⟨ha,hb⟩) (by
   rw [Wa]; exact Ha c v.args)
 have e1:az.l0 m m [] [⟨a,b⟩] 0 s=some out:=e1
 unfold az.f
 rw [e1,Vq]
 match out,e2 with
 | .inl (E5,b',s'),⟨th,l,e,u,v',hl,hT⟩=>
  subst th
  rw [V7] at e hl
  subst e
  exact⟨E5,false,s',rfl,u,v',hl,fun _ T cT sT pT=>hT T cT sT fun p hp=>by
   simp only [Wa,VU,WU,VQ] at hp; subst hp; exact pT,fun h=>by cases h⟩
 | .inr (E5,H3,i',s'),⟨l,e,u,v',hl,hc,hs,hq,hT⟩=>
  rw [V7] at e hl
  subst e
  exact⟨E5,true,s',rfl,u,v',hl,(fun h=>by cases h),fun _=>⟨hc,hs,hq (a,b) (by simp [wq]),fun T cT sT pT=>hT T cT sT fun p hp=>by
   simp only [Wa,VU,WU,VQ] at hp; subst hp; exact pT⟩⟩
structure Inv2 (s:ab):Prop where
 inv:Inv s
 cl:Cl s.aa (rp s.ae)
def pf (s:ab)(l:List Int):Bool:=l.all fun n=>decide (Rg s.aa.length n)
theorem E8 {a b:Int}(h:pf s [a,b]=true):Rg s.aa.length a∧Rg s.aa.length b:=by
 simpa [pf] using h
theorem Hd (hm:2000000≤m)(v:Inv2 s)(a b:Int):∃l e s',dh.f m s a b=some (l,e,s')∧Inv2 s'∧s'.aj=s.aj∧s'.aa=s.aa∧
  ((pf s [a,b]=false∧e=1∧s'=s)∨
   (pf s [a,b]=true∧e=8∧s'=s∧∀T,Cl s.aa T→gW s.aa (rp s.ae) T→T a=T b→False)∨
   (pf s [a,b]=true∧e=0∧gW s.aa (rp s.ae) (rp s'.ae)∧rp s'.ae a=rp s'.ae b∧∀T,Cl s.aa T→gW s.aa (rp s.ae) T→T a=T b→gW s.aa (rp s'.ae) T)):=by
 unfold dh.f
 rw [vX hm v.inv.made [a,b] (by simp)]
 show ∃l e s',((some (if pf s [a,b]=true then (0:Int) else 1)).bind _)=_∧_
 rw [Vq]
 cases hn:pf s [a,b] with
 | false=>
  refine⟨[],1,s,by simp,v,rfl,rfl,.inl ⟨rfl,rfl,rfl⟩⟩
 | true=>
  obtain⟨ra,rb⟩:=E8 hn
  obtain⟨l,ok,s',e,u,v',hl,h1,h2⟩:=xY hm v.inv v.cl ra rb
  have e0:(!((if true=true then (0:Int) else 1)==0))=false:=rfl
  rw [e0,if_neg (by decide),e,Vq]
  cases ok with
  | false=>
   rw [if_pos (show (!(l,false,s').2.1)=true from rfl)]
   simp only [E6 (m:=m) (by omega) hl u,Vq]
   exact⟨_,_,s,rfl,v,rfl,rfl,.inr (.inl ⟨by simp,rfl,rfl,h1 rfl⟩)⟩
  | true=>
   rw [if_neg (show ¬(!(l,true,s').2.1)=true by simp)]
   have eN:s'.aa=s.aa:=u.2.1
   simp only []
   rw [BB hm hl (fun n hn=>by rw [eN,←v.inv.len]; exact (u.2.2.2.1 n hn).1)]
   obtain⟨k1,k2,k3,k4⟩:=h2 rfl
   exact⟨_,_,s',rfl,⟨v',by rw [eN]; exact k1⟩,u.1,eN,.inr (.inr ⟨by simp,rfl,k2,k3,k4⟩)⟩
theorem JI (hm:2000000≤m)(v:Inv2 s)(a b:Int):∃t l e,dB.f m s a b=some (t,l,e,s):=by
 unfold dB.f
 rw [vX hm v.inv.made [a,b] (by simp)]
 show ∃t l e,((some (if pf s [a,b]=true then (0:Int) else 1)).bind _)=_
 rw [Vq]
 cases hn:pf s [a,b] with
 | false=>exact⟨0,[],1,by simp⟩
 | true=>
  obtain⟨ra,rb⟩:=E8 hn
  obtain⟨l,ok,s',e,u,v',hl,h1,h2⟩:=xY hm v.inv v.cl ra rb
  have e0:(!((if true=true then (0:Int) else 1)==0))=false:=rfl
  rw [e0,if_neg (by decide),e,Vq]
  simp only [E6 (m:=m) (by omega) hl u,Vq]
  rw [BB hm hl (fun n hn=>by rw [←v.inv.len]; exact (u.2.2.2.1 n hn).1)]
  simp only [Vq]
  cases ok with
  | false=>exact⟨0,[],0,by simp⟩
  | true=>
   rw [if_neg (by simp)]
   split
   ·exact⟨_,_,_,rfl⟩
   ·exact⟨_,_,_,rfl⟩
theorem L9 (hm:2000000≤m)(v:Inv s)(n:Int):dS.f m s n=some (if Rg s.aa.length n then (rp s.ae n,0) else (0,1)):=by
 unfold dS.f
 rw [vX hm v.made [n] (by simp)]
 by_cases h:Rg s.aa.length n
 ·simp [h,E3 (m:=m) (by omega) v h]
 ·simp [h]
end
end Go.Proofs.Ytifafejidnjckaa
namespace Go.R
open Go
open Go.IntKind (i64 u64 u8 u32)
theorem E9 (x:Int):u64.wrap x=x % 18446744073709551616:=by
 unfold IntKind.wrap; simp [IntKind.signed,IntKind.bits]
theorem JJ {x:Int}(h0:0≤x)(h1:x<18446744073709551616):u64.wrap x=x:=by
 rw [E9,Int.emod_eq_of_lt h0 h1]
theorem Fa (x:Int):i64.wrap x=if x % 18446744073709551616≥9223372036854775808 then x % 18446744073709551616 - 18446744073709551616 else x % 18446744073709551616:=by
 unfold IntKind.wrap; simp [IntKind.signed,IntKind.bits]
theorem bH {x:Int}(h0 : -9223372036854775808≤x)(h1:x<9223372036854775808):i64.wrap x=x:=by
 rw [Fa]; split<;>omega
end Go.R
