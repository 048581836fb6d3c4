/- Part of the proof: Q76, PB4, Q75, PB9, PV1, PT13, Q23, Q111, Q86, Q69. -/
import Derived.Test.YtmekcfdllhphlaaDoorK11
set_option linter.unusedVariables false
set_option linter.unusedSimpArgs false
set_option maxRecDepth 100000
open Bool renaming and_eq_true → Xt
open ByteArray renaming mk → XS
open Eq renaming trans → Ym
open Int renaming toNat_natCast → Xv
open List renaming length_append → Xy, length_set → Xz, getElem?_eq_getElem → XA, mem_singleton → XB, mem_append → XE, length_map → XF, replicate → XH, getElem?_eq_none → XI, getD_eq_getElem?_getD → XJ, map_cons → XK, getElem?_append_right → XL, mem_map → XN, length_cons → XO, all_eq_true → XQ, map_append → XT, getElem?_map → XW, nil_append → XZ, drop_zero → X3, mem_cons → X5, mem_append_left → X8, ext_getElem? → Ye, length_nil → Yh, idxOf_lt_length_of_mem → Yp, take_add_one → Yu, take_length → Yx, nodup_append → YC, getElem?_set → YP, getElem_of_mem → YY
open Nat renaming le_refl → Xs, le_trans → X6, sub_self → YX
open Option renaming bind_some → Xo, map_some → Xu
open Option.some renaming inj → XM
open Or renaming inr → Ys, inl → YN
namespace Go.Proofs.YtmekcfdllhphlaaDoor
open Go Go.R
open Go.IntKind (i64 u64 u8 u32)
def mu:cg:=gL [0,2,3,4,5,6,7,8,9,10,11,12,13,14,15,22,27,42,56,67,73,95,109,120,127,148,177] [] [134217726,134217722,134217714,134217666,134217602,134184898,134217602,134217474,134151938,134217474,134086402,134217538,133955394,134217538,134217538,134217474,134217426,133693138,134217426,133168850,134217426,134217426,134216914,132119762,134216914,130022610,134216914,134216666,125829082,134216666,134214618,134214618,134210522,117433306,134210522,134202330,134202330,134185946,100631514,134185946,67077082,134185946,134210522,134216666,134217725] [] [(3,[(5,none,1),(6,none,1)]),(30,[(12,none,1)])]
def ah.l1 (m:Nat)(l0:List ab):Nat→(List Int)→(List Bool)→(List Int)→Bool→Int→Option ((List Int) × (List Bool) × (List Int) × Bool × Int)
 | 0,_,_,_,_,_=>none
 | k+1,cL,dd,cW,kO,i0=>if (decide (i0≥(0:Int)))=true then ((ix dd i0).bind fun v0=>if v0=true then (ah.l1 m l0 k cL dd cW kO (i64.wrap (i0 - (1:Int)))) else ((ix l0 i0).bind fun v1=>(bV.f m v1 dd).bind fun x2=>if (!x2)=true then (ah.l1 m l0 k cL dd cW kO (i64.wrap (i0 - (1:Int)))) else ((b4.f m l0 cW i0 cL).bind fun x3=>(ix cL i0).bind fun v2=>(ix (cL.set i0.toNat x3) i0).bind fun v3=>if (v3==i0)=true then ((app 8 cW ([i0])).bind fun x4=>(ix dd i0).bind fun v4=>ah.l1 m l0 k (cL.set i0.toNat x3) (dd.set i0.toNat true) x4 true (i64.wrap (i0 - (1:Int)))) else ((ix dd i0).bind fun v5=>ah.l1 m l0 k (cL.set i0.toNat x3) (dd.set i0.toNat true) cW true (i64.wrap (i0 - (1:Int))))))) else (some ((cL,dd,cW,kO,i0)))
def ah.l0 (m:Nat)(l0:List ab):Nat→(List Int)→(List Bool)→(List Int)→Bool→Option ((List Int) × (List Bool) × (List Int) × Bool)
 | 0,_,_,_,_=>none
 | k+1,bn,dB,fM,nn=>if nn=true then ((ah.l1 m l0 m bn dB fM false (i64.wrap ((l0.length:Int) - (1:Int)))).bind fun bj=>match bj with | (AX,GI,xK,GJ,i1)=>ah.l0 m l0 k AX GI xK GJ) else (some ((bn,dB,fM,nn)))
def ah.l3 (m:Nat)(l0:List ab)(i2:Int)(x5:List Int):Nat→(List Int)→Int→Option ((List Int) × Int)
 | 0,_,_=>none
 | k+1,cQ,k0=>(ix cQ i2).bind fun v8=>if (v8==i2)=true then ((ix x5 k0).bind fun v9=>if (decide (v9<i2))=true then ((ix l0 i2).bind fun v10=>(ix x5 k0).bind fun v11=>(ix l0 v11).bind fun v12=>(eW.f m v10 v12).bind fun x6=>if x6=true then ((ix x5 k0).bind fun Im=>(ix cQ Im).bind fun zQ=>(ix cQ i2).bind fun mS=>ah.l3 m l0 i2 x5 k (cQ.set i2.toNat zQ) (i64.wrap (k0+(1:Int)))) else (ah.l3 m l0 i2 x5 k cQ (i64.wrap (k0+(1:Int))))) else (some ((cQ,k0)))) else (some ((cQ,k0)))
def ah.l2 (m:Nat)(l0:List ab)(dM:List Bool):Nat→(List Int)→(List Int)→Int→Option ((List Int) × (List Int) × Int)
 | 0,_,_,_=>none
 | k+1,er,jl,i2=>if (decide (i2<(l0.length:Int)))=true then ((ix dM i2).bind fun v6=>if v6=true then (ah.l2 m l0 dM k er jl (i64.wrap (i2+(1:Int)))) else ((app 8 jl ([i2])).bind fun x5=>(ix er i2).bind fun v7=>(ah.l3 m l0 i2 x5 m (er.set i2.toNat i2) (0:Int)).bind fun gP=>match gP with | (AY,k1)=>ah.l2 m l0 dM k AY x5 (i64.wrap (i2+(1:Int))))) else (some ((er,jl,i2)))
def ah.l6 (m:Nat)(l0:List ab)(bC:List Int)(aX:List Int)(j0:Int)(lJ:Int):Nat→(List Int)→Int→Option ((List Int) × Int)
 | 0,_,_=>none
 | k+1,cK,k2=>(ix cK lJ).bind fun TN=>if (TN==lJ)=true then (if (decide (k2<j0))=true then ((ix aX lJ).bind fun TO=>(ix bC k2).bind fun v20=>(ix aX v20).bind fun v21=>if (TO==v21)=true then ((ix l0 lJ).bind fun v22=>(ix bC k2).bind fun TP=>(ix l0 TP).bind fun v24=>(bk.f m v22 v24 aX).bind fun x8=>if x8=true then ((ix bC k2).bind fun TQ=>(ix cK TQ).bind fun Mh=>(ix cK lJ).bind fun VK=>ah.l6 m l0 bC aX j0 lJ k (cK.set lJ.toNat Mh) (i64.wrap (k2+(1:Int)))) else (ah.l6 m l0 bC aX j0 lJ k cK (i64.wrap (k2+(1:Int))))) else (ah.l6 m l0 bC aX j0 lJ k cK (i64.wrap (k2+(1:Int))))) else (some ((cK,k2)))) else (some ((cK,k2)))
def ah.l5 (m:Nat)(l0:List ab)(bC:List Int)(aX:List Int):Nat→Bool→(List Int)→Int→Option (Bool × (List Int) × Int)
 | 0,_,_,_=>none
 | k+1,jr,bP,j0=>if (decide (j0<(bC.length:Int)))=true then ((ix bC j0).bind fun lJ=>(ix bP lJ).bind fun Mi=>(ah.l6 m l0 bC aX j0 lJ m (bP.set lJ.toNat lJ) (0:Int)).bind fun cd=>match cd with | (rj,k3)=>if jr=true then (ah.l5 m l0 bC aX k true rj (i64.wrap (j0+(1:Int)))) else ((ix rj lJ).bind fun v28=>(ix aX lJ).bind fun Rp=>ah.l5 m l0 bC aX k (!(v28==Rp)) rj (i64.wrap (j0+(1:Int))))) else (some ((jr,bP,j0)))
def ah.l4 (m:Nat)(l0:List ab)(bC:List Int):Nat→(List Int)→Bool→Option ((List Int) × Bool)
 | 0,_,_=>none
 | k+1,aX,np=>if np=true then ((app 8 ([]:List Int) aX).bind fun x7=>(ah.l5 m l0 bC aX m false x7 (0:Int)).bind fun tK=>match tK with | (GK,zg,j1)=>ah.l4 m l0 bC k zg GK) else (some ((aX,np)))
def ah.f (m:Nat)(l0:List ab):Option ((List Int)):=(sh 8 (l0.length:Int) (0:Int)).bind fun x0=>(sh 1 (l0.length:Int) false).bind fun x1=>(ah.l0 m l0 m x0 x1 ([]:List Int) true).bind fun bJ=>match bJ with | (ub,dM,II,Ob)=>(ah.l2 m l0 dM m ub ([]:List Int) (0:Int)).bind fun kH=>match kH with | (uc,bC,i3)=>(ah.l4 m l0 bC m uc true).bind fun gz=>match gz with | (qy,Oc)=>some qy
def ah.fin (L:Mem)(r:(List Int))(s:St):Prop:=∃av,aH Tryd.prog (s.open mu) Tryd.f76.results.toList=some av∧fX s.h av (aa.fz r)
def TR (cf:CallF)(m:Nat):Prop:=∀(l0:List ab) (r:(List Int)),ah.f m l0=some r→∀h xs,eN fi h xs [af.fz l0]→cf 76 xs h=some (aa.fz r,h)
section
variable {cf:CallF}{m:Nat}
theorem ah.eQ (L:Mem)(l0:List ab)  (zh:IF cf m)(zi:IG cf m):bD Tryd.prog cf mu m (sub [1,1,1,1,0,1,0,0,1,0,1,1,0,0] (codeOf Tryd.f76)) (fun k (σ:(List Int) × (List Bool) × (List Int) × Bool × Int)=>ah.l1 m l0 k σ.1 σ.2.1 σ.2.2.1 σ.2.2.2.1 σ.2.2.2.2) (fun σ s=>match σ with | (cL,dd,cW,kO,i0)=>∃il gR gQ h3,s=⟨af.fz l0 :: .any :: .rs gQ 0 cL.length 1 :: .rs gR 0 dd.length 1 :: .rs il 0 cW.length 1 :: .rs ((0)) 0 (([]:List Int).length) 1 :: .bool kO :: .int .i64 i0::Kz [],[],h3⟩∧Has h3 ((((0)),.sl (([]:List Int).length) 1 (aa.l ([]:List Int)))::(il,.sl cW.length 1 (aa.l cW))::(gR,.sl dd.length 1 (bO.l dd))::(gQ,.sl cL.length 1 (aa.l cL))::L)) (fun out e s=>(e = .exit 2∧∃cL dd cW kO i0,(cL,dd,cW,kO,i0)=out∧∃qg AT il gR gQ h3,s=⟨af.fz l0 :: .any :: .rs gQ 0 cL.length 1 :: .rs gR 0 dd.length 1 :: .rs il 0 cW.length 1 :: .rs ((0)) 0 (([]:List Int).length) 1 :: .bool kO::qg::pX (AT::uJ []),[],h3⟩∧Has h3 ((((0)),.sl (([]:List Int).length) 1 (aa.l ([]:List Int)))::(il,.sl cW.length 1 (aa.l cW))::(gR,.sl dd.length 1 (bO.l dd))::(gQ,.sl cL.length 1 (aa.l cL))::L))):=by
 refine gH (fun _=>rfl) ?_
 rintro k ⟨cL,dd,cW,kO,i0⟩ s out ⟨il,gR,gQ,h3,rfl,o5⟩ H
 have H:ah.l1 m l0 (k+1) cL dd cW kO i0=some out:=H
 refine qq <| qq <| q0 <| qc H (fun c1 H=>?_) (fun c1 H=>?_)
 ·refine qk <| qq <| qb 3 <| qq <| qq ?_
  obtain⟨v0,e4,H⟩:=aI H
  rcases dJ H with⟨c2,H⟩| ⟨c2,H⟩
  ·exact qr [.v 2 (aE (k:=.i64) (E:=bO) (l:=dd) (q:=2) DB o5 rfl e4),.v 3 (be  (E:=bO) (l:=dd) (q:=2) o5 rfl A4 e4 rfl),.b 4 c2] <| xb <| qx 3 <| q0 <| ⟨(cL,dd,cW,kO,i64.wrap (i0 - (1:Int))),⟨il,gR,gQ,h3,by kernel_rfl,o5⟩,H⟩
  ·obtain⟨v1,e5,H⟩:=aI H
   obtain⟨x2,e6,H⟩:=aI H
   refine qr [.v 2 (aE (k:=.i64) (E:=bO) (l:=dd) (q:=2) DB o5 rfl e4),.v 3 (be  (E:=bO) (l:=dd) (q:=2) o5 rfl A4 e4 rfl),.b 4 c2,.v 7 (bw (k:=.i64) (E:=af) (l:=l0) la e5),.v 8 (dw  (E:=af) (l:=l0) h3 tm tp e5),.a 10 (zh _ _ _ e6 h3 _ (fG (ae (dy (ae (aO) (ae (aO) (ae (bY) (ae (db (E:=aa)) (aC)))))) (ae (s7 (E:=bO) (l:=dd) (q:=2) o5 rfl (fun _=>rfl)) (aC)))))] <| qc H (fun c4 H=>?_) (fun c4 H=>?_)
   ·exact qx 3 <| q0 <| ⟨(cL,dd,cW,kO,i64.wrap (i0 - (1:Int))),⟨il,gR,gQ,h3,by kernel_rfl,o5⟩,H⟩
   ·refine qk <| qq ?_
    obtain⟨x3,e7,H⟩:=aI H
    obtain⟨v2,e8,H⟩:=aI H
    obtain⟨h4,e9,o6⟩:=dD (P:=Tryd.prog) (tf:=3) (E:=aa) (l:=cL) (q:=3) (v:=x3) (x:=.int .i64 x3) o5 rfl Z3 e8 rfl rfl
    refine qr [.a 6 (zi _ _ _ _ _ e7 h3 _ (fG (ae (db (E:=af)) (ae (s7 (E:=aa) (l:=cW) (q:=1) o5 rfl (fun _=>rfl)) (ae (aO) (ae (s7 (E:=aa) (l:=cL) (q:=3) o5 rfl (fun _=>rfl)) (aC))))))),.v 7 (aE (k:=.i64) (E:=aa) (l:=cL) (q:=3) dz o5 rfl e8),.w 8 e9] <| qq <| qq ?_
    obtain⟨v3,nJ,H⟩:=aI H
    refine qr [.v 2 (aE (k:=.i64) (E:=aa) (l:=(cL.set i0.toNat x3)) (q:=3) dz o6 rfl nJ),.v 3 (be  (E:=aa) (l:=(cL.set i0.toNat x3)) (q:=3) o6 rfl A3 nJ rfl)] <| qc H (fun c5 H=>?_) (fun c5 H=>?_)
    ·obtain⟨x4,qm,H⟩:=aI H
     obtain⟨kL,h5,rJ,o7⟩:=fF (P:=Tryd.prog) (E:=aa) (l:=cW) (q:=1) (t2:=42) (x:=.fz [.int .i64 i0] 1 true) (l2:=([i0])) dz o6 rfl (by kernel_rfl) rfl qm
     refine qr [.a 3 rJ] <| qq ?_
     obtain⟨v4,rK,H⟩:=aI H
     obtain⟨h6,tH,o8⟩:=dD (P:=Tryd.prog) (tf:=4) (E:=bO) (l:=dd) (q:=2) (v:=true) (x:=.bool true) o7 rfl Z4 rK rfl rfl
     exact qr [.v 2 (aE (k:=.i64) (E:=bO) (l:=dd) (q:=2) DB o7 rfl rK),.w 3 tH] <| q0 <| q0 <| ⟨(cL.set i0.toNat x3,dd.set i0.toNat true,x4,true,i64.wrap (i0 - (1:Int))),⟨kL,gR,gQ,h6,(Ym (b:=⟨af.fz l0 :: .any :: .rs gQ 0 cL.length 1 :: .rs gR 0 dd.length 1 :: .rs kL 0 x4.length 1 :: .rs ((0)) 0 (([]:List Int).length) 1 :: .bool true :: .int .i64 (i64.wrap (i0 - (1:Int)))::Kz [],[],h6⟩) (by kernel_rfl) (by simp only [Xz])),(by have o:Has h6 ((((0)),.sl (([]:List Int).length) 1 (aa.l ([]:List Int)))::(kL,.sl x4.length 1 (aa.l x4))::(gR,.sl dd.length 1 (bO.l (dd.set i0.toNat true)))::(gQ,.sl cL.length 1 (aa.l (cL.set i0.toNat x3)))::L):=o8; simpa only [Xz] using o)⟩,H⟩
    ·refine qk <| qq ?_
     obtain⟨v5,rL,H⟩:=aI H
     obtain⟨h7,vI,o9⟩:=dD (P:=Tryd.prog) (tf:=4) (E:=bO) (l:=dd) (q:=2) (v:=true) (x:=.bool true) o6 rfl Z4 rL rfl rfl
     exact qr [.v 2 (aE (k:=.i64) (E:=bO) (l:=dd) (q:=2) DB o6 rfl rL),.w 3 vI] <| q0 <| q0 <| ⟨(cL.set i0.toNat x3,dd.set i0.toNat true,cW,true,i64.wrap (i0 - (1:Int))),⟨il,gR,gQ,h7,(Ym (b:=⟨af.fz l0 :: .any :: .rs gQ 0 cL.length 1 :: .rs gR 0 dd.length 1 :: .rs il 0 cW.length 1 :: .rs ((0)) 0 (([]:List Int).length) 1 :: .bool true :: .int .i64 (i64.wrap (i0 - (1:Int)))::Kz [],[],h7⟩) (by kernel_rfl) (by simp only [Xz])),(by have o:Has h7 ((((0)),.sl (([]:List Int).length) 1 (aa.l ([]:List Int)))::(il,.sl cW.length 1 (aa.l cW))::(gR,.sl dd.length 1 (bO.l (dd.set i0.toNat true)))::(gQ,.sl cL.length 1 (aa.l (cL.set i0.toNat x3)))::L):=o9; simpa only [Xz] using o)⟩,H⟩
 ·exact qx 2 <| ⟨rfl,cL,dd,cW,kO,i0,oi H,.int .i64 i0,.bool (decide (i0≥(0:Int))),il,gR,gQ,h3,by kernel_rfl,o5⟩
theorem ah.bI (L:Mem)(l0:List ab)  (zh:IF cf m)(zi:IG cf m):bD Tryd.prog cf mu m (sub [1,1,1,1,0,1,0,0] (codeOf Tryd.f76)) (fun k (σ:(List Int) × (List Bool) × (List Int) × Bool)=>ah.l0 m l0 k σ.1 σ.2.1 σ.2.2.1 σ.2.2.2) (fun σ s=>match σ with | (bn,dB,fM,nn)=>∃g0 g1 fT fb cF h2,s=⟨af.fz l0 :: .any :: .rs cF 0 bn.length 1 :: .rs fb 0 dB.length 1 :: .rs fT 0 fM.length 1 :: .rs ((0)) 0 (([]:List Int).length) 1 :: .bool nn::g0::pX (g1::uJ []),[],h2⟩∧Has h2 ((((0)),.sl (([]:List Int).length) 1 (aa.l ([]:List Int)))::(fT,.sl fM.length 1 (aa.l fM))::(fb,.sl dB.length 1 (bO.l dB))::(cF,.sl bn.length 1 (aa.l bn))::L)) (fun out e s=>(e = .exit 0∧∃bn dB fM nn,(bn,dB,fM,nn)=out∧∃xo uO qg xi AT fT fb cF h2,s=⟨af.fz l0 :: .any :: .rs cF 0 bn.length 1 :: .rs fb 0 dB.length 1::xo :: .rs ((0)) 0 (([]:List Int).length) 1::uO::qg::Ea (xi::AT::uJ []),[],h2⟩∧Has h2 ((((0)),.sl (([]:List Int).length) 1 (aa.l ([]:List Int)))::(fT,.sl fM.length 1 (aa.l fM))::(fb,.sl dB.length 1 (bO.l dB))::(cF,.sl bn.length 1 (aa.l bn))::L))):=by
 refine gH (fun _=>rfl) ?_
 rintro k ⟨bn,dB,fM,nn⟩ s out ⟨g0,g1,fT,fb,cF,h2,rfl,o4⟩ H
 have H:ah.l0 m l0 (k+1) bn dB fM nn=some out:=H
 refine qq <| qq <| q0 <| qc H (fun c0 H=>?_) (fun c0 H=>?_)
 ·refine qk <| qb 1 <| qq <| q0 <| qq <| q0 <| qb 2 ?_
  obtain⟨bj,uR,H⟩:=aI H
  refine ql (ah.eQ L l0  zh zi (bn,dB,fM,false,i64.wrap ((l0.length:Int) - (1:Int))) _ _ ⟨fT,fb,cF,h2,by kernel_rfl,o4⟩ uR) ?_
  rintro e s ⟨rfl,AX,GI,xK,GJ,i1,rfl,g2,g3,xS,eK,nM,h8,rfl,tD⟩
  try dsimp only at H
  exact⟨(AX,GI,xK,GJ),⟨g2,g3,xS,eK,nM,h8,by kernel_rfl,tD⟩,H⟩
 ·exact qx 0 <| ⟨rfl,bn,dB,fM,nn,oi H,.rs fT 0 fM.length 1,.any,.any,.bool nn,.any,fT,fb,cF,h2,by kernel_rfl,o4⟩
theorem ah.oV (L:Mem)(l0:List ab)(gS:Nat)(dM:List Bool)(gS:Nat)(i2:Int)(x5:List Int)(qz:Nat)  (nl:DV cf m):bD Tryd.prog cf mu m (sub [1,1,1,1,1,0,1,0,0,1,0,0,1,1,1,1,0,0] (codeOf Tryd.f76)) (fun k (σ:(List Int) × Int)=>ah.l3 m l0 i2 x5 k σ.1 σ.2) (fun σ s=>match σ with | (cQ,k0)=>∃qA h13,s=⟨af.fz l0 :: .any :: .rs qA 0 cQ.length 1 :: .rs gS 0 dM.length 1 :: .any :: .rs qz 0 x5.length 1 :: .any :: .any :: .int .i64 i2 :: .int .i64 k0::Dt [],[],h13⟩∧Has h13 ((qz,.sl x5.length 1 (aa.l x5))::(gS,.sl dM.length 1 (bO.l dM))::(qA,.sl cQ.length 1 (aa.l cQ))::L)) (fun out e s=>(e = .exit 6∧∃cQ k0,(cQ,k0)=out∧∃qa Rq qA h13,s=⟨af.fz l0 :: .any :: .rs qA 0 cQ.length 1 :: .rs gS 0 dM.length 1 :: .any :: .rs qz 0 x5.length 1 :: .any :: .any :: .int .i64 i2::qa::oL (Rq::rz []),[],h13⟩∧Has h13 ((qz,.sl x5.length 1 (aa.l x5))::(gS,.sl dM.length 1 (bO.l dM))::(qA,.sl cQ.length 1 (aa.l cQ))::L))):=by
 refine gH (fun _=>rfl) ?_
 rintro k ⟨cQ,k0⟩ s out ⟨qA,h13,rfl,lG⟩ H
 have H:ah.l3 m l0 i2 x5 (k+1) cQ k0=some out:=H
 refine qq <| qq ?_
 obtain⟨v8,Ed,H⟩:=aI H
 rcases dJ H with⟨c8,H⟩| ⟨c8,H⟩
 ·obtain⟨v9,FK,H⟩:=aI H
  refine qr [.v 2 (aE (k:=.i64) (E:=aa) (l:=cQ) (q:=2) dz lG rfl Ed),.v 3 (be  (E:=aa) (l:=cQ) (q:=2) lG rfl A3 Ed rfl),.b 6 c8,.v 9 (aE (k:=.i64) (E:=aa) (l:=x5) (q:=0) dz lG rfl FK),.v 10 (be  (E:=aa) (l:=x5) (q:=0) lG rfl A3 FK rfl)] <| qc H (fun c9 H=>?_) (fun c9 H=>?_)
  ·refine qk <| qq <| qb 7 <| qq ?_
   obtain⟨v10,FO,H⟩:=aI H
   obtain⟨v11,Hu,H⟩:=aI H
   obtain⟨v12,FM,H⟩:=aI H
   obtain⟨x6,FN,H⟩:=aI H
   refine qr [.v 2 (bw (k:=.i64) (E:=af) (l:=l0) la FO),.v 3 (dw  (E:=af) (l:=l0) h13 tm tp FO),.v 7 (aE (k:=.i64) (E:=aa) (l:=x5) (q:=0) dz lG rfl Hu),.v 8 (be  (E:=aa) (l:=x5) (q:=0) lG rfl A3 Hu rfl),.v 9 (bw (k:=.i64) (E:=af) (l:=l0) la FM),.v 10 (dw  (E:=af) (l:=l0) h13 tm tp FM),.a 11 (nl _ _ _ FN h13 _ (fG (ae (dy (ae (aO) (ae (aO) (ae (bY) (ae (db (E:=aa)) (aC)))))) (ae (dy (ae (aO) (ae (aO) (ae (bY) (ae (db (E:=aa)) (aC)))))) (aC)))))] <| qc H (fun uN H=>?_) (fun uN H=>?_)
   ·obtain⟨Im,FL,H⟩:=aI H
    obtain⟨zQ,Io,H⟩:=aI H
    obtain⟨mS,Lc,H⟩:=aI H
    obtain⟨h14,Hw,zP⟩:=dD (P:=Tryd.prog) (tf:=3) (E:=aa) (l:=cQ) (q:=2) (v:=zQ) (x:=.int .i64 zQ) lG rfl Z3 Lc rfl rfl
    exact qr [.v 5 (aE (k:=.i64) (E:=aa) (l:=x5) (q:=0) dz lG rfl FL),.v 6 (be  (E:=aa) (l:=x5) (q:=0) lG rfl A3 FL rfl),.v 7 (aE (k:=.i64) (E:=aa) (l:=cQ) (q:=2) dz lG rfl Io),.v 8 (be  (E:=aa) (l:=cQ) (q:=2) lG rfl A3 Io rfl),.v 9 (aE (k:=.i64) (E:=aa) (l:=cQ) (q:=2) dz lG rfl Lc),.w 10 Hw] <| q0 <| ⟨(cQ.set i2.toNat zQ,i64.wrap (k0+(1:Int))),⟨qA,h14,(Ym (b:=⟨af.fz l0 :: .any :: .rs qA 0 cQ.length 1 :: .rs gS 0 dM.length 1 :: .any :: .rs qz 0 x5.length 1 :: .any :: .any :: .int .i64 i2 :: .int .i64 (i64.wrap (k0+(1:Int)))::Dt [],[],h14⟩) (by kernel_rfl) (by simp only [Xz])),(by have o:Has h14 ((qz,.sl x5.length 1 (aa.l x5))::(gS,.sl dM.length 1 (bO.l dM))::(qA,.sl cQ.length 1 (aa.l (cQ.set i2.toNat zQ)))::L):=zP; simpa only [Xz] using o)⟩,H⟩
   ·exact qk <| q0 <| ⟨(cQ,i64.wrap (k0+(1:Int))),⟨qA,h13,by kernel_rfl,lG⟩,H⟩
  ·exact qx 6 <| ⟨rfl,cQ,k0,oi H,.int .i64 k0,.bool (decide (v9<i2)),qA,h13,by kernel_rfl,lG⟩
 ·exact qr [.v 2 (aE (k:=.i64) (E:=aa) (l:=cQ) (q:=2) dz lG rfl Ed),.v 3 (be  (E:=aa) (l:=cQ) (q:=2) lG rfl A3 Ed rfl),.b 6 c8] <| Dx <| qx 6 <| ⟨rfl,cQ,k0,oi H,.int .i64 k0,.bool false,qA,h13,by kernel_rfl,lG⟩
theorem ah.mc (L:Mem)(l0:List ab)(gS:Nat)(dM:List Bool)(gS:Nat)  (nl:DV cf m):bD Tryd.prog cf mu m (sub [1,1,1,1,1,0,1,0,0] (codeOf Tryd.f76)) (fun k (σ:(List Int) × (List Int) × Int)=>ah.l2 m l0 dM k σ.1 σ.2.1 σ.2.2) (fun σ s=>match σ with | (er,jl,i2)=>∃lI ik h10,s=⟨af.fz l0 :: .any :: .rs ik 0 er.length 1 :: .rs gS 0 dM.length 1 :: .any :: .rs lI 0 jl.length 1 :: .any :: .any :: .int .i64 i2::Ky [],[],h10⟩∧Has h10 ((lI,.sl jl.length 1 (aa.l jl))::(gS,.sl dM.length 1 (bO.l dM))::(ik,.sl er.length 1 (aa.l er))::L)) (fun out e s=>(e = .exit 4∧∃er jl i2,(er,jl,i2)=out∧∃DK rE Rr lI ik h10,s=⟨af.fz l0 :: .any :: .rs ik 0 er.length 1::DK :: .any :: .rs lI 0 jl.length 1 :: .any :: .any::rE::uJ (Rr::Ea []),[],h10⟩∧Has h10 ((lI,.sl jl.length 1 (aa.l jl))::(gS,.sl dM.length 1 (bO.l dM))::(ik,.sl er.length 1 (aa.l er))::L))):=by
 refine gH (fun _=>rfl) ?_
 rintro k ⟨er,jl,i2⟩ s out ⟨lI,ik,h10,rfl,lB⟩ H
 have H:ah.l2 m l0 dM (k+1) er jl i2=some out:=H
 refine qq <| qq <| q0 <| qc H (fun c6 H=>?_) (fun c6 H=>?_)
 ·refine qk <| qq <| qb 5 <| qq <| qq ?_
  obtain⟨v6,uw,H⟩:=aI H
  refine qr [.v 2 (aE (k:=.i64) (E:=bO) (l:=dM) (q:=1) DB lB rfl uw),.v 3 (be  (E:=bO) (l:=dM) (q:=1) lB rfl A4 uw rfl)] <| qc H (fun c7 H=>?_) (fun c7 H=>?_)
  ·exact qx 5 <| q0 <| ⟨(er,jl,i64.wrap (i2+(1:Int))),⟨lI,ik,h10,by kernel_rfl,lB⟩,H⟩
  ·refine qk <| qq ?_
   obtain⟨x5,zO,H⟩:=aI H
   obtain⟨qz,h11,B4,uP⟩:=fF (P:=Tryd.prog) (E:=aa) (l:=jl) (q:=0) (t2:=42) (x:=.fz [.int .i64 i2] 1 true) (l2:=([i2])) dz lB rfl (by kernel_rfl) rfl zO
   refine qr [.a 3 B4] <| qq ?_
   obtain⟨v7,Ec,H⟩:=aI H
   obtain⟨h12,FJ,yO⟩:=dD (P:=Tryd.prog) (tf:=3) (E:=aa) (l:=er) (q:=2) (v:=i2) (x:=.int .i64 i2) uP rfl Z3 Ec rfl rfl
   refine qr [.v 3 (aE (k:=.i64) (E:=aa) (l:=er) (q:=2) dz uP rfl Ec),.w 4 FJ] <| qq <| q0 <| qb 6 ?_
   obtain⟨gP,Mb,H⟩:=aI H
   refine ql (ah.oV L l0 gS dM gS i2 x5 qz  nl (er.set i2.toNat i2,(0:Int)) _ _ ⟨ik,h12,(Ym (b:=⟨af.fz l0 :: .any :: .rs ik 0 er.length 1 :: .rs gS 0 dM.length 1 :: .any :: .rs qz 0 x5.length 1 :: .any :: .any :: .int .i64 i2 :: .int .i64 (0:Int)::Dt [],[],h12⟩) (by kernel_rfl) (by simp only [Xz])),(by have o:Has h12 ((qz,.sl x5.length 1 (aa.l x5))::(gS,.sl dM.length 1 (bO.l dM))::(ik,.sl er.length 1 (aa.l (er.set i2.toNat i2)))::L):=yO; simpa only [Xz] using o)⟩ Mb) ?_
   rintro e s ⟨rfl,AY,k1,rfl,g9,g10,Lv,h15,rfl,DL⟩
   try dsimp only at H
   exact q0 <| ⟨(AY,x5,i64.wrap (i2+(1:Int))),⟨qz,Lv,h15,by kernel_rfl,DL⟩,H⟩
 ·exact qx 4 <| ⟨rfl,er,jl,i2,oi H,.rs gS 0 dM.length 1,.int .i64 i2,.bool (decide (i2<(l0.length:Int))),lI,ik,h10,by kernel_rfl,lB⟩
theorem ah.GL (L:Mem)(l0:List ab)(gY:Nat)(bC:List Int)(gY:Nat)(iG:Nat)(aX:List Int)(iG:Nat)(jr:Bool)(j0:Int)(lJ:Int)  (mr:AU cf m):bD Tryd.prog cf mu m (sub [1,1,1,1,1,1,0,1,0,0,1,0,1,1,1,0,1,0,0,1,0,0,1,1,0,1,0,0] (codeOf Tryd.f76)) (fun k (σ:(List Int) × Int)=>ah.l6 m l0 bC aX j0 lJ k σ.1 σ.2) (fun σ s=>match σ with | (cK,k2)=>∃qB h21,s=⟨af.fz l0 :: .any :: .rs iG 0 aX.length 1 :: .any :: .any :: .rs gY 0 bC.length 1::q7 (.bool jr :: .rs qB 0 cK.length 1 :: .int .i64 j0 :: .int .i64 lJ :: .int .i64 k2::mK []),[],h21⟩∧Has h21 ((qB,.sl cK.length 1 (aa.l cK))::(gY,.sl bC.length 1 (aa.l bC))::(iG,.sl aX.length 1 (aa.l aX))::L)) (fun out e s=>(e = .exit 12∧∃cK k2,(cK,k2)=out∧∃tF Od qB h21,s=⟨af.fz l0 :: .any :: .rs iG 0 aX.length 1 :: .any :: .any :: .rs gY 0 bC.length 1::q7 (.bool jr :: .rs qB 0 cK.length 1 :: .int .i64 j0 :: .int .i64 lJ::tF::uJ [Od,.any]),[],h21⟩∧Has h21 ((qB,.sl cK.length 1 (aa.l cK))::(gY,.sl bC.length 1 (aa.l bC))::(iG,.sl aX.length 1 (aa.l aX))::L))):=by
 refine gH (fun _=>rfl) ?_
 rintro k ⟨cK,k2⟩ s out ⟨qB,h21,rfl,mP⟩ H
 have H:ah.l6 m l0 bC aX j0 lJ (k+1) cK k2=some out:=H
 refine qq <| qq ?_
 obtain⟨TN,Ir,H⟩:=aI H
 rcases dJ H with⟨rD,H⟩| ⟨rD,H⟩
 ·refine qr [.v 2 (aE (k:=.i64) (E:=aa) (l:=cK) (q:=0) dz mP rfl Ir),.v 3 (be  (E:=aa) (l:=cK) (q:=0) mP rfl A3 Ir rfl),.b 6 rD] <| qc H (fun B0 H=>?_) (fun B0 H=>?_)
  ·refine qk <| qq <| qb 13 <| qq ?_
   obtain⟨TO,Jo,H⟩:=aI H
   obtain⟨v20,Jp,H⟩:=aI H
   obtain⟨v21,Me,H⟩:=aI H
   rcases dJ H with⟨Eb,H⟩| ⟨Eb,H⟩
   ·obtain⟨v22,TS,H⟩:=aI H
    obtain⟨TP,TT,H⟩:=aI H
    obtain⟨v24,TU,H⟩:=aI H
    obtain⟨x8,VL,H⟩:=aI H
    refine qr [.v 2 (aE (k:=.i64) (E:=aa) (l:=aX) (q:=2) dz mP rfl Jo),.v 3 (be  (E:=aa) (l:=aX) (q:=2) mP rfl A3 Jo rfl),.v 7 (aE (k:=.i64) (E:=aa) (l:=bC) (q:=1) dz mP rfl Jp),.v 8 (be  (E:=aa) (l:=bC) (q:=1) mP rfl A3 Jp rfl),.v 9 (aE (k:=.i64) (E:=aa) (l:=aX) (q:=2) dz mP rfl Me),.v 10 (be  (E:=aa) (l:=aX) (q:=2) mP rfl A3 Me rfl),.b 12 Eb,.v 15 (bw (k:=.i64) (E:=af) (l:=l0) la TS),.v 16 (dw  (E:=af) (l:=l0) h21 tm tp TS),.v 20 (aE (k:=.i64) (E:=aa) (l:=bC) (q:=1) dz mP rfl TT),.v 21 (be  (E:=aa) (l:=bC) (q:=1) mP rfl A3 TT rfl),.v 22 (bw (k:=.i64) (E:=af) (l:=l0) la TU),.v 23 (dw  (E:=af) (l:=l0) h21 tm tp TU),.a 25 (mr _ _ _ _ VL h21 _ (fG (ae (dy (ae (aO) (ae (aO) (ae (bY) (ae (db (E:=aa)) (aC)))))) (ae (dy (ae (aO) (ae (aO) (ae (bY) (ae (db (E:=aa)) (aC)))))) (ae (s7 (E:=aa) (l:=aX) (q:=2) mP rfl (fun _=>rfl)) (aC))))))] ?_
    refine qc H (fun DD H=>?_) (fun DD H=>?_)
    ·obtain⟨TQ,TV,H⟩:=aI H
     obtain⟨Mh,TW,H⟩:=aI H
     obtain⟨VK,TX,H⟩:=aI H
     obtain⟨h22,VM,Jq⟩:=dD (P:=Tryd.prog) (tf:=3) (E:=aa) (l:=cK) (q:=0) (v:=Mh) (x:=.int .i64 Mh) mP rfl Z3 TX rfl rfl
     exact qr [.v 5 (aE (k:=.i64) (E:=aa) (l:=bC) (q:=1) dz mP rfl TV),.v 6 (be  (E:=aa) (l:=bC) (q:=1) mP rfl A3 TV rfl),.v 7 (aE (k:=.i64) (E:=aa) (l:=cK) (q:=0) dz mP rfl TW),.v 8 (be  (E:=aa) (l:=cK) (q:=0) mP rfl A3 TW rfl),.v 9 (aE (k:=.i64) (E:=aa) (l:=cK) (q:=0) dz mP rfl TX),.w 10 VM] <| q0 <| ⟨(cK.set lJ.toNat Mh,i64.wrap (k2+(1:Int))),⟨qB,h22,(Ym (b:=⟨af.fz l0 :: .any :: .rs iG 0 aX.length 1 :: .any :: .any :: .rs gY 0 bC.length 1::q7 (.bool jr :: .rs qB 0 cK.length 1 :: .int .i64 j0 :: .int .i64 lJ :: .int .i64 (i64.wrap (k2+(1:Int)))::mK []),[],h22⟩) (by kernel_rfl) (by simp only [Xz])),(by have o:Has h22 ((qB,.sl cK.length 1 (aa.l (cK.set lJ.toNat Mh)))::(gY,.sl bC.length 1 (aa.l bC))::(iG,.sl aX.length 1 (aa.l aX))::L):=Jq; simpa only [Xz] using o)⟩,H⟩
    ·exact qk <| q0 <| ⟨(cK,i64.wrap (k2+(1:Int))),⟨qB,h21,by kernel_rfl,mP⟩,H⟩
   ·exact qr [.v 2 (aE (k:=.i64) (E:=aa) (l:=aX) (q:=2) dz mP rfl Jo),.v 3 (be  (E:=aa) (l:=aX) (q:=2) mP rfl A3 Jo rfl),.v 7 (aE (k:=.i64) (E:=aa) (l:=bC) (q:=1) dz mP rfl Jp),.v 8 (be  (E:=aa) (l:=bC) (q:=1) mP rfl A3 Jp rfl),.v 9 (aE (k:=.i64) (E:=aa) (l:=aX) (q:=2) dz mP rfl Me),.v 10 (be  (E:=aa) (l:=aX) (q:=2) mP rfl A3 Me rfl),.b 12 Eb] <| Dx <| qk <| q0 <| ⟨(cK,i64.wrap (k2+(1:Int))),⟨qB,h21,by kernel_rfl,mP⟩,H⟩
  ·exact qx 12 <| ⟨rfl,cK,k2,oi H,.int .i64 k2,.bool (decide (k2<j0)),qB,h21,by kernel_rfl,mP⟩
 ·exact qr [.v 2 (aE (k:=.i64) (E:=aa) (l:=cK) (q:=0) dz mP rfl Ir),.v 3 (be  (E:=aa) (l:=cK) (q:=0) mP rfl A3 Ir rfl),.b 6 rD] <| Dx <| qx 12 <| ⟨rfl,cK,k2,oi H,.int .i64 k2,.bool false,qB,h21,by kernel_rfl,mP⟩
theorem ah.GM (L:Mem)(l0:List ab)(gY:Nat)(bC:List Int)(gY:Nat)(iG:Nat)(aX:List Int)(iG:Nat)  (mr:AU cf m):bD Tryd.prog cf mu m (sub [1,1,1,1,1,1,0,1,0,0,1,0,1,1,1,0,1,0,0] (codeOf Tryd.f76)) (fun k (σ:Bool × (List Int) × Int)=>ah.l5 m l0 bC aX k σ.1 σ.2.1 σ.2.2) (fun σ s=>match σ with | (jr,bP,j0)=>∃uU h19,s=⟨af.fz l0 :: .any :: .rs iG 0 aX.length 1 :: .any :: .any :: .rs gY 0 bC.length 1::q7 (.bool jr :: .rs uU 0 bP.length 1 :: .int .i64 j0::rA []),[],h19⟩∧Has h19 ((uU,.sl bP.length 1 (aa.l bP))::(gY,.sl bC.length 1 (aa.l bC))::(iG,.sl aX.length 1 (aa.l aX))::L)) (fun out e s=>(e = .exit 10∧∃jr bP j0,(jr,bP,j0)=out∧∃uM qd Oe uU h19,s=⟨af.fz l0 :: .any::uM :: .any :: .any :: .rs gY 0 bC.length 1::q7 (.bool jr :: .rs uU 0 bP.length 1::qd::oL [Oe,.any,.any]),[],h19⟩∧Has h19 ((uU,.sl bP.length 1 (aa.l bP))::(gY,.sl bC.length 1 (aa.l bC))::(iG,.sl aX.length 1 (aa.l aX))::L))):=by
 refine gH (fun _=>rfl) ?_
 rintro k ⟨jr,bP,j0⟩ s out ⟨uU,h19,rfl,Iq⟩ H
 have H:ah.l5 m l0 bC aX (k+1) jr bP j0=some out:=H
 refine qq <| qq <| q0 <| qc H (fun qf H=>?_) (fun qf H=>?_)
 ·refine qk <| qq <| qb 11 <| qq ?_
  obtain⟨lJ,Le,H⟩:=aI H
  refine qr [.v 2 (aE (k:=.i64) (E:=aa) (l:=bC) (q:=1) dz Iq rfl Le),.v 3 (be  (E:=aa) (l:=bC) (q:=1) Iq rfl A3 Le rfl)] <| qq ?_
  obtain⟨Mi,Md,H⟩:=aI H
  obtain⟨h20,NS,NT⟩:=dD (P:=Tryd.prog) (tf:=3) (E:=aa) (l:=bP) (q:=0) (v:=lJ) (x:=.int .i64 lJ) Iq rfl Z3 Md rfl rfl
  refine qr [.v 3 (aE (k:=.i64) (E:=aa) (l:=bP) (q:=0) dz Iq rfl Md),.w 4 NS] <| qq <| qq <| q0 <| qb 12 ?_
  obtain⟨cd,VN,H⟩:=aI H
  refine ql (ah.GL L l0 gY bC gY iG aX iG jr j0 lJ  mr (bP.set lJ.toNat lJ,(0:Int)) _ _ ⟨uU,h20,(Ym (b:=⟨af.fz l0 :: .any :: .rs iG 0 aX.length 1 :: .any :: .any :: .rs gY 0 bC.length 1::q7 (.bool jr :: .rs uU 0 bP.length 1 :: .int .i64 j0 :: .int .i64 lJ :: .int .i64 (0:Int)::mK []),[],h20⟩) (by kernel_rfl) (by simp only [Xz])),(by have o:Has h20 ((uU,.sl bP.length 1 (aa.l (bP.set lJ.toNat lJ)))::(gY,.sl bC.length 1 (aa.l bC))::(iG,.sl aX.length 1 (aa.l aX))::L):=NT; simpa only [Xz] using o)⟩ VN) ?_
  rintro e s ⟨rfl,rj,k3,rfl,g14,g15,Of,h23,rfl,Hx⟩
  try dsimp only at H
  rcases dJ H with⟨Jz,H⟩| ⟨Jz,H⟩
  ·exact qr [.b 1 Jz] <| q0 <| ⟨(true,rj,i64.wrap (j0+(1:Int))),⟨Of,h23,by kernel_rfl,Hx⟩,H⟩
  ·obtain⟨v28,TY,H⟩:=aI H
   obtain⟨Rp,TZ,H⟩:=aI H
   exact qr [.b 1 Jz,.v 4 (aE (k:=.i64) (E:=aa) (l:=rj) (q:=0) dz Hx rfl TY),.v 5 (be  (E:=aa) (l:=rj) (q:=0) Hx rfl A3 TY rfl),.v 8 (aE (k:=.i64) (E:=aa) (l:=aX) (q:=2) dz Hx rfl TZ),.v 9 (be  (E:=aa) (l:=aX) (q:=2) Hx rfl A3 TZ rfl)] <| q0 <| ⟨(!(v28==Rp),rj,i64.wrap (j0+(1:Int))),⟨Of,h23,by kernel_rfl,Hx⟩,H⟩
 ·exact qx 10 <| ⟨rfl,jr,bP,j0,oi H,.rs iG 0 aX.length 1,.int .i64 j0,.bool (decide (j0<(bC.length:Int))),uU,h19,by kernel_rfl,Iq⟩
theorem ah.oW (L:Mem)(l0:List ab)(gY:Nat)(bC:List Int)(gY:Nat)  (mr:AU cf m):bD Tryd.prog cf mu m (sub [1,1,1,1,1,1,0,1,0,0] (codeOf Tryd.f76)) (fun k (σ:(List Int) × Bool)=>ah.l4 m l0 bC k σ.1 σ.2) (fun σ s=>match σ with | (aX,np)=>∃iG h17,s=⟨af.fz l0 :: .any :: .rs iG 0 aX.length 1 :: .any :: .any :: .rs gY 0 bC.length 1::q7 (.bool np::Fk []),[],h17⟩∧Has h17 ((gY,.sl bC.length 1 (aa.l bC))::(iG,.sl aX.length 1 (aa.l aX))::L)) (fun out e s=>(e = .exit 8∧∃aX np,(aX,np)=out∧∃kG DN Fy GN iG h17,s=⟨kG :: .any :: .rs iG 0 aX.length 1 :: .any :: .any::DN::q7 (Fy::mK (GN::jP [])),[],h17⟩∧Has h17 ((gY,.sl bC.length 1 (aa.l bC))::(iG,.sl aX.length 1 (aa.l aX))::L))):=by
 refine gH (fun _=>rfl) ?_
 rintro k ⟨aX,np⟩ s out ⟨iG,h17,rfl,xn⟩ H
 have H:ah.l4 m l0 bC (k+1) aX np=some out:=H
 refine qq <| qq <| q0 <| qc H (fun nU H=>?_) (fun nU H=>?_)
 ·refine qk <| qb 9 <| qq <| q0 <| qq <| q0 ?_
  have F6:Has h17 (((((0))),.sl (([]:List Int).length) 1 (aa.l ([]:List Int)))::(gY,.sl bC.length 1 (aa.l bC))::(iG,.sl aX.length 1 (aa.l aX))::L):=Has.nil xn 1
  refine qq ?_
  obtain⟨x7,NQ,H⟩:=aI H
  obtain⟨Rs,h18,NR,Ee⟩:=fF (P:=Tryd.prog) (E:=aa) (l:=([]:List Int)) (q:=0) (t2:=42) (x:=.rs iG 0 aX.length 1) (l2:=aX) dz F6 rfl (Dp (E:=aa) (l:=aX) (q:=2) F6 rfl) rfl NQ
  refine qr [.a 2 NR] <| qq <| qq <| q0 <| qb 10 ?_
  obtain⟨tK,VO,H⟩:=aI H
  refine ql (ah.GM L l0 gY bC gY iG aX iG  mr (false,x7,(0:Int)) _ _ ⟨Rs,h18,by kernel_rfl,Ee⟩ VO) ?_
  rintro e s ⟨rfl,GK,zg,j1,rfl,g16,g17,g18,Og,h24,rfl,NU⟩
  try dsimp only at H
  refine q0 ?_
  have NV:Has h24 ((Og,.sl zg.length 1 (aa.l zg))::(gY,.sl bC.length 1 (aa.l bC))::L):=Has.del NU 2
  exact⟨(zg,GK),⟨Og,h24,by kernel_rfl,(Has.front (Has.front NV 0 rfl) 1 rfl)⟩,H⟩
 ·exact qx 8 <| ⟨rfl,aX,np,oi H,af.fz l0,.rs gY 0 bC.length 1,.any,.bool np,iG,h17,by kernel_rfl,xn⟩
theorem nO {aU:FuncId→cg}(ha:aU 76=mu)(zh:IF cf m)(zi:IG cf m)(nl:DV cf m)(mr:AU cf m)(l0:List ab)(h:AHeap)(L:Mem)  (o:Has h (L)){out:(List Int)}(H:ah.f m l0=some out) :
  ∃r h',bc Tryd.prog aU cf m 76 [af.fz l0] h=some (r,h')∧fX h' r (aa.fz out):=by
 refine aq (fn:=Tryd.f76) ha Tryd.func76 (by kernel_rfl) (by kernel_rfl) ?_
 refine aG (Q:=fun s=>ah.fin L out s) (fun _ _ h=>h) ?_
 have H:_=some out:=H
 unfold ah.f at H
 show de _ cf mu m _ ⟨af.fz l0::Ng [],[],h⟩ _
 refine q1 <| qq ?_
 obtain⟨x0,e0,H⟩:=aI H
 obtain⟨aA,h0,e1,o0⟩:=lZ (P:=Tryd.prog) (E:=aa) (z:=(0:Int)) (zv:=.int .i64 (0:Int)) dz o 3 rfl rfl rfl rfl e0
 refine qr [.a 2 e1] <| qq ?_
 obtain⟨x1,e2,H⟩:=aI H
 obtain⟨eS,h1,e3,o1⟩:=lZ (P:=Tryd.prog) (E:=bO) (z:=false) (zv:=.bool false) DB o0 4 rfl rfl rfl rfl e2
 refine qr [.a 2 e3] <| qq <| q0 ?_
 have o2:Has h1 (((0),.sl (([]:List Int).length) 1 (aa.l ([]:List Int)))::(eS,.sl x1.length 1 (bO.l x1))::(aA,.sl x0.length 1 (aa.l x0))::L):=Has.nil o1 1
 have o3:Has h1 ((((0)),.sl (([]:List Int).length) 1 (aa.l ([]:List Int)))::((0),.sl (([]:List Int).length) 1 (aa.l ([]:List Int)))::(eS,.sl x1.length 1 (bO.l x1))::(aA,.sl x0.length 1 (aa.l x0))::L):=Has.nil o2 1
 refine qq <| qq <| q0 <| qb 0 ?_
 obtain⟨bJ,zN,H⟩:=aI H
 refine ql (ah.bI L l0  zh zi (x0,x1,([]:List Int),true) _ _ ⟨.any,.any,(0),eS,aA,h1,by kernel_rfl,o3⟩ zN) ?_
 rintro e s ⟨rfl,ub,dM,II,Ob,rfl,g4,g5,g6,g7,g8,fK,gS,jM,h9,rfl,uv⟩
 try dsimp only at H
 refine qq <| qq <| q0 ?_
 have oT:Has h9 ((((0)),.sl (([]:List Int).length) 1 (aa.l ([]:List Int)))::(gS,.sl dM.length 1 (bO.l dM))::(jM,.sl ub.length 1 (aa.l ub))::L):=Has.del uv 1
 refine qb 4 ?_
 obtain⟨kH,Mc,H⟩:=aI H
 refine ql (ah.mc L l0 gS dM gS  nl (ub,([]:List Int),(0:Int)) _ _ ⟨((0)),jM,h9,by kernel_rfl,oT⟩ Mc) ?_
 rintro e s ⟨rfl,uc,bC,i3,rfl,g11,g12,g13,gY,Oh,h16,rfl,DM⟩
 try dsimp only at H
 refine qq <| qq <| q0 ?_
 have Ld:Has h16 ((gY,.sl bC.length 1 (aa.l bC))::(Oh,.sl uc.length 1 (aa.l uc))::L):=Has.del DM 1
 refine qb 8 ?_
 obtain⟨gz,VP,H⟩:=aI H
 refine ql (ah.oW L l0 gY bC gY  mr (uc,true) _ _ ⟨Oh,h16,by kernel_rfl,Ld⟩ VP) ?_
 rintro e s ⟨rfl,qy,Oc,rfl,g19,g20,g21,g22,Oi,h25,rfl,O0⟩
 try dsimp only at H
 refine q1 ?_
 have QL:Has h25 ((Oi,.sl qy.length 1 (aa.l qy))::L):=Has.del O0 0
 obtain rfl:=oi H
 exact qt <| ⟨.inl rfl,cb (.rs Oi 0 qy.length 1) h25 (b9 (vt (E:=aa) (l:=qy) (q:=0) QL rfl (fun _=>rfl)))⟩
end
end Go.Proofs.YtmekcfdllhphlaaDoor
namespace Go.Proofs.YtmekcfdllhphlaaDoor
open Go Go.R
open Go.IntKind (i64 u64 u8 u32)
def gb (l:List Bool)(k:Nat):Bool:=l.getD k false
theorem Cu {l:List Bool}{k:Nat}(h:k<l.length):l[k]? = some (gb l k):=by
 unfold gb; rw [XJ,XA h]; rfl
theorem Cv {l:List Bool}{i:Int}(h0:0≤i)(h:i.toNat<l.length):ix l i=some (gb l i.toNat):=by
 unfold ix; rw [if_pos h0,Cu h]
theorem AZ {l:List Bool}{i k:Nat}{x:Bool}(hi:i<l.length):gb (l.set i x) k=if k=i then x else gb l k:=by
 unfold gb
 simp only [XJ,YP]
 by_cases h:i=k
 ·subst h; simp [hi]
 ·rw [if_neg h,if_neg (by omega)]
def ar (l:List ab)(i k:Nat):Nat:=(gt (nd l i).args k).toNat
def na (l:List ab)(i:Nat):Nat:=(nd l i).args.length
theorem j9 {l:List ab}(ok:kM l){i k:Nat}(hi:i<l.length)(hk:k<na l i):ar l i k<l.length∧gt (nd l i).args k=(ar l i k:Int):=by
 obtain⟨h0,h1⟩:=(yZ ok hi).2 _ (aJ (l:=(nd l i).args) (k:=k) hk)
 unfold ar; omega
theorem Cw {l:List ab}(ok:kM l){i:Nat}(hi:i<l.length):na l i≤8:=(yZ ok hi).1
theorem ud {m:Nat}(a b:ab):∃x,eW.f m a b=some x∧(x=true↔Alike a b):=by
 unfold eW.f
 by_cases h1:a.kind=b.kind
 ·rw [if_pos (by simpa using h1)]
  by_cases h2:a.int=b.int
  ·rw [if_pos (by simpa using h2)]
   by_cases h3:a.label=b.label
   ·rw [if_pos (by rw [h3]; simp)]
    refine⟨_,rfl,⟨fun h=>⟨h1,h2,h3,by have:=beq_iff_eq.1 h; omega⟩,fun h=>by have:=h.len; rw [beq_iff_eq]; omega⟩⟩
   ·rw [if_neg (fun h=>h3 (AP (by simpa using h)))]
    exact⟨_,rfl,⟨fun h=>(by cases h),fun h=>absurd h.label h3⟩⟩
  ·rw [if_neg (by simpa using h2)]
   exact⟨_,rfl,⟨fun h=>(by cases h),fun h=>absurd h.int h2⟩⟩
 ·rw [if_neg (by simpa using h1)]
  exact⟨_,rfl,⟨fun h=>(by cases h),fun h=>absurd h.kind h1⟩⟩
def SA (l:List ab)(c:List Int)(i j:Nat):Prop:=∀k,k<na l i→gt c (ar l i k)=gt c (ar l j k)
theorem JA {m:Nat}{l:List ab}{c:List Int}(ok:kM l)(hc:c.length=l.length){i j:Nat}(hi:i<l.length)(hj:j<l.length)(hl:na l i=na l j):∀(f k:Nat),na l i - k<f→k≤na l i→
  ∃o,bk.l0 m (nd l i) (nd l j) c f (k:Int)=some o∧((∃x,o = .inr x)∧(∀q,k≤q→q<na l i→gt c (ar l i q)=gt c (ar l j q))∨o = .inl false∧∃q,q<na l i∧gt c (ar l i q)≠gt c (ar l j q))
 | 0,k,hf,_=>absurd hf (by omega)
 | f+1,k,hf,hk=>by
  have h8:=Cw ok hi
  unfold bk.l0
  by_cases h:k<na l i
  ·obtain⟨a1,a2⟩:=j9 ok hi h
   obtain⟨b1,b2⟩:=j9 ok hj (show k<na l j by omega)
   have e1:ix c (gt (nd l i).args k)=some (gt c (ar l i k)):=fV a2 (by omega)
   have e2:ix c (gt (nd l j).args k)=some (gt c (ar l j k)):=fV b2 (by omega)
   rw [if_pos (by simp only [decide_eq_true_eq]; unfold na at h; omega),cj (l:=(nd l i).args) h,Xo,e1,Xo,cj (l:=(nd l j).args) (show k<(nd l j).args.length by unfold na at hl h; omega),Xo,e2,Xo]
   by_cases e:gt c (ar l i k)=gt c (ar l j k)
   ·obtain⟨o,k1,k2⟩:=JA (m:=m) ok hc hi hj hl f (k+1) (by omega) (by omega)
    rw [if_neg (by simp [e]),aD (by omega) (by omega),show (k:Int)+1=((k+1:Nat):Int) by omega,k1]
    refine⟨o,rfl,k2.imp (fun ⟨x,y⟩=>⟨x,fun q q1 q2=>?_⟩) id⟩
    by_cases hq:q=k
    ·subst hq; exact e
    ·exact y q (by omega) q2
   ·rw [if_pos (by simpa using e)]
    exact⟨_,rfl,.inr ⟨rfl,k,h,e⟩⟩
  ·refine⟨_,by rw [if_neg (by simp only [decide_eq_true_eq]; unfold na at h; omega)],.inl ⟨⟨_,rfl⟩,fun q q1 q2=>absurd q2 (by omega)⟩⟩
theorem Cy {m:Nat}(hm:2 ^ 30≤m){l:List ab}{c:List Int}(ok:kM l)(hc:c.length=l.length){i j:Nat}(hi:i<l.length)(hj:j<l.length)(hl:na l i=na l j):∃x,bk.f m (nd l i) (nd l j) c=some x∧(x=true↔SA l c i j):=by
 have ni:(2:Nat) ^ 30=1073741824:=by decide
 have h8:=Cw ok hi
 obtain⟨o,k1,k2⟩:=JA (m:=m) ok hc hi hj hl m 0 (by omega) (by omega)
 have k1:bk.l0 m (nd l i) (nd l j) c m 0=_:=k1
 unfold bk.f
 rw [k1,Xo]
 rcases k2 with⟨⟨x,rfl⟩,k⟩| ⟨rfl,q,q1,q2⟩
 ·exact⟨true,rfl,⟨fun _ k0 hk=>k k0 (by omega) hk,fun _=>rfl⟩⟩
 ·exact⟨false,rfl,⟨fun h=>(by cases h),fun h=>absurd (h q q1) q2⟩⟩
def T0 (l:List ab)(dn:List Bool)(i:Nat):Prop:=∀k,k<na l i→gb dn (ar l i k)=true
theorem GO {m:Nat}{l:List ab}{dn:List Bool}(ok:kM l)(hd:dn.length=l.length){i:Nat}(hi:i<l.length):∀(f k:Nat),na l i - k<f→k≤na l i→
  ∃o,bV.l0 m (nd l i) dn f (k:Int)=some o∧((∃x,o = .inr x)∧(∀q,k≤q→q<na l i→gb dn (ar l i q)=true)∨o = .inl false∧∃q,q<na l i∧gb dn (ar l i q)=false)
 | 0,k,hf,_=>absurd hf (by omega)
 | f+1,k,hf,hk=>by
  have h8:=Cw ok hi
  unfold bV.l0
  by_cases h:k<na l i
  ·obtain⟨a1,a2⟩:=j9 ok hi h
   have e1:ix dn (gt (nd l i).args k)=some (gb dn (ar l i k)):=by
    have:=Cv (l:=dn) (i:=gt (nd l i).args k) (by omega) (by rw [a2,Xv]; omega)
    rw [this,a2,Xv]
   rw [if_pos (by simp only [decide_eq_true_eq]; unfold na at h; omega),cj (l:=(nd l i).args) h,Xo,e1,Xo]
   cases e:gb dn (ar l i k) with
   | true=>
    obtain⟨o,k1,k2⟩:=GO (m:=m) ok hd hi f (k+1) (by omega) (by omega)
    rw [if_neg (by simp),aD (by omega) (by omega),show (k:Int)+1=((k+1:Nat):Int) by omega,k1]
    refine⟨o,rfl,k2.imp (fun ⟨x,y⟩=>⟨x,fun q q1 q2=>?_⟩) id⟩
    by_cases hq:q=k
    ·subst hq; exact e
    ·exact y q (by omega) q2
   | false=>exact⟨_,rfl,.inr ⟨rfl,k,h,e⟩⟩
  ·refine⟨_,by rw [if_neg (by simp only [decide_eq_true_eq]; unfold na at h; omega)],.inl ⟨⟨_,rfl⟩,fun q q1 q2=>absurd q2 (by omega)⟩⟩
theorem GP {m:Nat}(hm:2 ^ 30≤m){l:List ab}{dn:List Bool}(ok:kM l)(hd:dn.length=l.length){i:Nat}(hi:i<l.length):∃x,bV.f m (nd l i) dn=some x∧(x=true→T0 l dn i)∧(x=false→∃q,q<na l i∧gb dn (ar l i q)=false):=by
 have ni:(2:Nat) ^ 30=1073741824:=by decide
 have h8:=Cw ok hi
 obtain⟨o,k1,k2⟩:=GO (m:=m) ok hd hi m 0 (by omega) (by omega)
 have k1:bV.l0 m (nd l i) dn m 0=_:=k1
 unfold bV.f
 rw [k1,Xo]
 rcases k2 with⟨⟨x,rfl⟩,k⟩| ⟨rfl,hq⟩
 ·exact⟨true,rfl,fun _ k0 hk=>k k0 (by omega) hk,fun h=>by cases h⟩
 ·exact⟨false,rfl,fun h=>(by cases h),fun _=>hq⟩
def rl (l:List ab)(c:List Int)(i j:Nat):Prop:=Alike (nd l i) (nd l j)∧SA l c i j
theorem Cz {m:Nat}(hm:2 ^ 30≤m){l:List ab}{c fs:List Int}(ok:kM l)(hc:c.length=l.length){i:Nat}(hi:i<l.length)(hf:∀f∈fs,0≤f∧f<l.length)(Kn:fs.length≤8000):∀(f k:Nat),fs.length - k<f→k≤fs.length→
  ∃o,b4.l0 m l fs (i:Int) c f (k:Int)=some o∧((∃x,o = .inr x)∧(∀q,k≤q→q<fs.length→¬rl l c i (gt fs q).toNat)∨∃v,o = .inl v∧v∈fs∧rl l c i v.toNat)
 | 0,k,h,_=>absurd h (by omega)
 | f+1,k,h,hk=>by
  unfold b4.l0
  by_cases HG:k<fs.length
  ·obtain⟨b0,b1⟩:=hf _ (aJ HG)
   have Oj:((gt fs k).toNat:Int)=gt fs k:=by omega
   obtain⟨xa,a1,a2⟩:=ud (m:=m) (nd l (i:Int)) (nd l (gt fs k))
   have ih:=Cz hm ok hc hi hf Kn f (k+1) (by omega) (by omega)
   obtain⟨o,k1,k2⟩:=ih
   have next:¬rl l c i (gt fs k).toNat→∃o',(b4.l0 m l fs (i:Int) c f (i64.wrap ((k:Int)+1)))=some o'∧((∃x,o' = .inr x)∧(∀q,k≤q→q<fs.length→¬rl l c i (gt fs q).toNat)∨∃v,o' = .inl v∧v∈fs∧rl l c i v.toNat):=fun hn=>by
    rw [aD (by omega) (by omega),show (k:Int)+1=((k+1:Nat):Int) by omega,k1]
    refine⟨o,rfl,k2.imp (fun ⟨x,y⟩=>⟨x,fun q q1 q2=>?_⟩) id⟩
    by_cases hq:q=k
    ·subst hq; exact hn
    ·exact y q (by omega) q2
   rw [if_pos (by simp only [decide_eq_true_eq]; omega),gX (by omega) (by omega),Xo,cj HG,Xo,gX b0 b1,Xo,a1,Xo]
   cases xa with
   | false=>
    rw [if_neg (by simp)]
    refine next fun hs=>?_
    have:=a2.2 (by have:=hs.1; rw [Oj] at this; exact this)
    cases this
   | true=>
    have hA:=a2.1 rfl
    have hl:na l i=na l (gt fs k).toNat:=by unfold na; rw [Oj]; exact hA.len
    obtain⟨xs,s1,s2⟩:=Cy hm ok hc hi (j:=(gt fs k).toNat) (by omega) hl
    rw [Oj] at s1
    rw [if_pos rfl,Xo,Xo,gX b0 b1,Xo,s1,Xo]
    cases xs with
    | false=>
     rw [if_neg (by simp)]
     refine next fun hs=>?_
     have:=s2.2 hs.2; cases this
    | true=>
     exact⟨_,rfl,.inr ⟨_,rfl,aJ HG,by rw [Oj]; exact hA,s2.1 rfl⟩⟩
  ·exact⟨_,by rw [if_neg (by simp only [decide_eq_true_eq]; omega)],.inl ⟨⟨_,rfl⟩,fun q q1 q2=>absurd q2 (by omega)⟩⟩
theorem find_spec {m:Nat}(hm:2 ^ 30≤m){l:List ab}{c fs:List Int}(ok:kM l)(hc:c.length=l.length){i:Nat}(hi:i<l.length)(hf:∀f∈fs,0≤f∧f<l.length)(Kn:fs.length≤8000) :
  ∃v,b4.f m l fs (i:Int) c=some v∧(v=i∧(∀f∈fs,¬rl l c i f.toNat)∨v∈fs∧rl l c i v.toNat):=by
 have ni:(2:Nat) ^ 30=1073741824:=by decide
 obtain⟨o,k1,k2⟩:=Cz hm ok hc hi hf Kn m 0 (by omega) (by omega)
 have k1:b4.l0 m l fs (i:Int) c m 0=_:=k1
 unfold b4.f
 rw [k1,Xo]
 rcases k2 with⟨⟨x,rfl⟩,k⟩| ⟨v,rfl,hv,hs⟩
 ·refine⟨_,rfl,.inl ⟨rfl,fun f hf=>?_⟩⟩
  obtain⟨q,hq,e⟩:=eL hf
  rw [←e]; exact k q (by omega) hq
 ·exact⟨v,rfl,.inr ⟨hv,hs⟩⟩
end Go.Proofs.YtmekcfdllhphlaaDoor
namespace Go.Proofs.YtmekcfdllhphlaaDoor
open Go Go.R
open Go.IntKind (i64 u64 u8 u32)
def vS:cg:=gL [0,1,4,5,6,7,8,9,19,34,50] [] [2044,2036,1988,1990,1734,1926,1926,1414,1926,1926,1798,774,1798,1798,2043] [] [(2,[(6,none,1),(7,none,1)])]
def aK.l1 (m:Nat)(l0:List ab)(v0:Int):Nat→(List Int)→Int→Option ((List Int) × Int)
 | 0,_,_=>none
 | k+1,fW,i0=>if (decide (i0≥(0:Int)))=true then ((ix l0 v0).bind fun v5=>(ix v5.args i0).bind fun v6=>(app 8 fW ([v6])).bind fun x3=>aK.l1 m l0 v0 k x3 (i64.wrap (i0 - (1:Int)))) else (some ((fW,i0)))
def aK.l0 (m:Nat)(l0:List ab):Nat→(List Bool)→(List Int)→(List Int)→Option ((List Bool) × (List Int) × (List Int))
 | 0,_,_,_=>none
 | k+1,fc,bj,fe=>if (decide ((fe.length:Int) > (0:Int)))=true then ((ix fe (i64.wrap ((fe.length:Int) - (1:Int)))).bind fun v0=>(pD fe 0 (i64.wrap ((fe.length:Int) - (1:Int)))).bind fun v1=>(ix fc v0).bind fun v2=>if v2=true then (aK.l0 m l0 k fc bj v1) else ((ix fc v0).bind fun v3=>(app 8 bj ([v0])).bind fun x2=>(ix l0 v0).bind fun v4=>(aK.l1 m l0 v0 m v1 (i64.wrap ((v4.args.length:Int) - (1:Int)))).bind fun bJ=>match bJ with | (qC,i1)=>aK.l0 m l0 k (fc.set v0.toNat true) x2 qC)) else (some ((fc,bj,fe)))
def aK.f (m:Nat)(l0:List ab)(gA:Int):Option ((List Int)):=(sh 1 (l0.length:Int) false).bind fun x0=>(app 8 ([]:List Int) ([gA])).bind fun x1=>(aK.l0 m l0 m x0 ([]:List Int) x1).bind fun kH=>match kH with | (Rt,gP,A0)=>some gP
def aK.fin (L:Mem)(r:(List Int))(s:St):Prop:=∃av,aH Tryd.prog (s.open vS) Tryd.f75.results.toList=some av∧fX s.h av (aa.fz r)
def T1 (cf:CallF)(m:Nat):Prop:=∀(l0:List ab) (gA:Int) (r:(List Int)),aK.f m l0 gA=some r→∀h xs,eN fi h xs [af.fz l0,.int .i64 gA]→cf 75 xs h=some (aa.fz r,h)
section
variable {cf:CallF}{m:Nat}
theorem aK.eQ (L:Mem)(l0:List ab)(cF:Nat)(fc:List Bool)(cF:Nat)(v0:Int)(x2:List Int)(gQ:Nat)   : bD Tryd.prog cf vS m (sub [1,1,1,1,0,0,0,1,0,1,1,1,1,1,1,0,0] (codeOf Tryd.f75)) (fun k (σ:(List Int) × Int)=>aK.l1 m l0 v0 k σ.1 σ.2) (fun σ s=>match σ with | (fW,i0)=>∃gR h5,s=⟨af.fz l0 :: .any :: .any :: .rs cF 0 fc.length 1 :: .rs gQ 0 x2.length 1 :: .rs gR 0 fW.length 1 :: .int .i64 v0 :: .int .i64 i0::jP [],[],h5⟩∧Has h5 ((gR,.sl fW.length 1 (aa.l fW))::(gQ,.sl x2.length 1 (aa.l x2))::(cF,.sl fc.length 1 (bO.l (fc.set v0.toNat true)))::L)) (fun out e s=>(e = .exit 2∧∃fW i0,(fW,i0)=out∧∃qg rE Lw gR h5,s=⟨[af.fz l0,.any,.any,.rs cF 0 fc.length 1,.rs gQ 0 x2.length 1,.rs gR 0 fW.length 1,qg,rE,.any,.any,Lw],[],h5⟩∧Has h5 ((gR,.sl fW.length 1 (aa.l fW))::(gQ,.sl x2.length 1 (aa.l x2))::(cF,.sl fc.length 1 (bO.l (fc.set v0.toNat true)))::L))):=by
 refine gH (fun _=>rfl) ?_
 rintro k ⟨fW,i0⟩ s out ⟨gR,h5,rfl,o8⟩ H
 have H:aK.l1 m l0 v0 (k+1) fW i0=some out:=H
 refine qq <| qq <| q0 <| qc H (fun c2 H=>?_) (fun c2 H=>?_)
 ·refine qk <| qq <| qb 3 ?_
  obtain⟨v5,rJ,H⟩:=aI H
  obtain⟨v6,rK,H⟩:=aI H
  obtain⟨x3,tH,H⟩:=aI H
  obtain⟨il,h6,rL,o9⟩:=fF (P:=Tryd.prog) (E:=aa) (l:=fW) (q:=0) (t2:=42) (x:=.fz [.int .i64 v6] 1 true) (l2:=([v6])) dz o8 rfl (by kernel_rfl) rfl tH
  exact qr [.v 3 (bw (k:=.i64) (E:=af) (l:=l0) la rJ),.v 5 (iA  (E:=af) (l:=l0) (off:=3) h5 KI rJ rfl),.v 7 (bw (k:=.i64) (E:=aa) (l:=v5.args) dz rK),.v 8 (cY  (E:=aa) (l:=v5.args) h5 A3 rK rfl),.a 10 rL] <| q0 <| ⟨(x3,i64.wrap (i0 - (1:Int))),⟨il,h6,(Ym (b:=⟨af.fz l0 :: .any :: .any :: .rs cF 0 fc.length 1 :: .rs gQ 0 x2.length 1 :: .rs il 0 x3.length 1 :: .int .i64 v0 :: .int .i64 (i64.wrap (i0 - (1:Int)))::jP [],[],h6⟩) (by kernel_rfl) (by simp only [Xz])),(by have o:Has h6 ((il,.sl x3.length 1 (aa.l x3))::(gQ,.sl x2.length 1 (aa.l x2))::(cF,.sl fc.length 1 (bO.l (fc.set v0.toNat true)))::L):=o9; simpa only [Xz] using o)⟩,H⟩
 ·exact qx 2 <| ⟨rfl,fW,i0,oi H,.int .i64 v0,.int .i64 i0,.bool (decide (i0≥(0:Int))),gR,h5,(Ym (b:=⟨[af.fz l0,.any,.any,.rs cF 0 fc.length 1,.rs gQ 0 x2.length 1,.rs gR 0 fW.length 1,.int .i64 v0,.int .i64 i0,.any,.any,.bool (decide (i0≥(0:Int)))],[],h5⟩) (by kernel_rfl) (by simp only [Xz])),(by have o:Has h5 ((gR,.sl fW.length 1 (aa.l fW))::(gQ,.sl x2.length 1 (aa.l x2))::(cF,.sl fc.length 1 (bO.l (fc.set v0.toNat true)))::L):=o8; simpa only [Xz] using o)⟩
theorem aK.bI (L:Mem)(l0:List ab)   : bD Tryd.prog cf vS m (sub [1,1,1,1,0,0,0] (codeOf Tryd.f75)) (fun k (σ:(List Bool) × (List Int) × (List Int))=>aK.l0 m l0 k σ.1 σ.2.1 σ.2.2) (fun σ s=>match σ with | (fc,bj,fe)=>∃g0 g1 g2 g3 fT fb cF h2,s=⟨[af.fz l0,.any,.any,.rs cF 0 fc.length 1,.rs fb 0 bj.length 1,.rs fT 0 fe.length 1,g0,g1,.any,g2,g3],[],h2⟩∧Has h2 ((fT,.sl fe.length 1 (aa.l fe))::(fb,.sl bj.length 1 (aa.l bj))::(cF,.sl fc.length 1 (bO.l fc))::L)) (fun out e s=>(e = .exit 0∧∃fc bj fe,(fc,bj,fe)=out∧∃kG xo uO qg rE GQ FG Lw fT fb cF h2,s=⟨[kG,.any,.any,xo,.rs fb 0 bj.length 1,uO,qg,rE,GQ,FG,Lw],[],h2⟩∧Has h2 ((fT,.sl fe.length 1 (aa.l fe))::(fb,.sl bj.length 1 (aa.l bj))::(cF,.sl fc.length 1 (bO.l fc))::L))):=by
 refine gH (fun _=>rfl) ?_
 rintro k ⟨fc,bj,fe⟩ s out ⟨g0,g1,g2,g3,fT,fb,cF,h2,rfl,o4⟩ H
 have H:aK.l0 m l0 (k+1) fc bj fe=some out:=H
 refine qq <| qq <| q0 <| qc H (fun c0 H=>?_) (fun c0 H=>?_)
 ·refine qk <| qb 1 <| qq ?_
  obtain⟨v0,e4,H⟩:=aI H
  refine qr [.v 4 (aE (k:=.i64) (E:=aa) (l:=fe) (q:=0) dz o4 rfl e4),.v 5 (be  (E:=aa) (l:=fe) (q:=0) o4 rfl A3 e4 rfl)] <| qq ?_
  obtain⟨v1,e5,H⟩:=aI H
  obtain⟨Ru,o5⟩:=Ko (P:=Tryd.prog) (k:=.i64) (E:=aa) (q:=0) o4 rfl dz e5
  refine qr [.v 4 Ru] <| qq <| qq ?_
  obtain⟨v2,e6,H⟩:=aI H
  refine qr [.v 2 (aE (k:=.i64) (E:=bO) (l:=fc) (q:=2) DB o5 rfl e6),.v 3 (be  (E:=bO) (l:=fc) (q:=2) o5 rfl A4 e6 rfl)] <| qc H (fun c1 H=>?_) (fun c1 H=>?_)
  ·exact qx 1 <| ⟨(fc,bj,v1),⟨.int .i64 v0,.any,.bool v2,.any,fT,fb,cF,h2,by kernel_rfl,o5⟩,H⟩
  ·refine qk <| qq ?_
   obtain⟨v3,e7,H⟩:=aI H
   obtain⟨h3,e8,o6⟩:=dD (P:=Tryd.prog) (tf:=4) (E:=bO) (l:=fc) (q:=2) (v:=true) (x:=.bool true) o5 rfl Z4 e7 rfl rfl
   refine qr [.v 2 (aE (k:=.i64) (E:=bO) (l:=fc) (q:=2) DB o5 rfl e7),.w 3 e8] <| qq ?_
   obtain⟨x2,e9,H⟩:=aI H
   obtain⟨gQ,h4,nJ,o7⟩:=fF (P:=Tryd.prog) (E:=aa) (l:=bj) (q:=1) (t2:=42) (x:=.fz [.int .i64 v0] 1 true) (l2:=([v0])) dz o6 rfl (by kernel_rfl) rfl e9
   refine qr [.a 3 nJ] <| qq ?_
   obtain⟨v4,qm,H⟩:=aI H
   refine qr [.v 2 (bw (k:=.i64) (E:=af) (l:=l0) la qm),.v 4 (iA  (E:=af) (l:=l0) (off:=3) h4 KI qm rfl)] <| qb 2 ?_
   obtain⟨bJ,vI,H⟩:=aI H
   refine ql (aK.eQ L l0 cF fc cF v0 x2 gQ   (v1,i64.wrap ((v4.args.length:Int) - (1:Int))) _ _ ⟨fT,h4,(Ym (b:=⟨af.fz l0 :: .any :: .any :: .rs cF 0 fc.length 1 :: .rs gQ 0 x2.length 1 :: .rs fT 0 v1.length 1 :: .int .i64 v0 :: .int .i64 (i64.wrap ((v4.args.length:Int) - (1:Int)))::jP [],[],h4⟩) (by kernel_rfl) (by simp only [Xz])),(by have o:Has h4 ((fT,.sl v1.length 1 (aa.l v1))::(gQ,.sl x2.length 1 (aa.l x2))::(cF,.sl fc.length 1 (bO.l (fc.set v0.toNat true)))::L):=o7; simpa only [Xz] using o)⟩ vI) ?_
   rintro e s ⟨rfl,qC,i1,rfl,g4,g5,g6,kL,h7,rfl,tD⟩
   try dsimp only at H
   exact⟨(fc.set v0.toNat true,x2,qC),⟨g4,g5,.any,g6,kL,gQ,cF,h7,(Ym (b:=⟨[af.fz l0,.any,.any,.rs cF 0 fc.length 1,.rs gQ 0 x2.length 1,.rs kL 0 qC.length 1,g4,g5,.any,.any,g6],[],h7⟩) (by kernel_rfl) (by simp only [Xz])),(by have o:Has h7 ((kL,.sl qC.length 1 (aa.l qC))::(gQ,.sl x2.length 1 (aa.l x2))::(cF,.sl fc.length 1 (bO.l (fc.set v0.toNat true)))::L):=tD; simpa only [Xz] using o)⟩,H⟩
 ·exact qx 0 <| ⟨rfl,fc,bj,fe,oi H,af.fz l0,.rs cF 0 fc.length 1,.rs fT 0 fe.length 1,.any,.any,.bool (decide ((fe.length:Int) > (0:Int))),.any,.any,fT,fb,cF,h2,by kernel_rfl,o4⟩
theorem nP {aU:FuncId→cg}(ha:aU 75=vS)  (l0:List ab)(gA:Int)(h:AHeap)(L:Mem)  (o:Has h (L)){out:(List Int)}(H:aK.f m l0 gA=some out) :
  ∃r h',bc Tryd.prog aU cf m 75 [af.fz l0,.int .i64 gA] h=some (r,h')∧fX h' r (aa.fz out):=by
 refine aq (fn:=Tryd.f75) ha Tryd.func75 (by kernel_rfl) (by kernel_rfl) ?_
 refine aG (Q:=fun s=>aK.fin L out s) (fun _ _ h=>h) ?_
 have H:_=some out:=H
 unfold aK.f at H
 show de _ cf vS m _ ⟨af.fz l0 :: .int .i64 gA::BN [],[],h⟩ _
 refine q1 <| qq ?_
 obtain⟨x0,e0,H⟩:=aI H
 obtain⟨aA,h0,e1,o0⟩:=lZ (P:=Tryd.prog) (E:=bO) (z:=false) (zv:=.bool false) DB o 4 rfl rfl rfl rfl e0
 refine qr [.a 2 e1] <| qq <| q0 ?_
 have o1:Has h0 (((0),.sl (([]:List Int).length) 1 (aa.l ([]:List Int)))::(aA,.sl x0.length 1 (bO.l x0))::L):=Has.nil o0 1
 have o2:Has h0 ((((0)),.sl (([]:List Int).length) 1 (aa.l ([]:List Int)))::((0),.sl (([]:List Int).length) 1 (aa.l ([]:List Int)))::(aA,.sl x0.length 1 (bO.l x0))::L):=Has.nil o1 1
 refine qq ?_
 obtain⟨x1,e2,H⟩:=aI H
 obtain⟨eS,h1,e3,o3⟩:=fF (P:=Tryd.prog) (E:=aa) (l:=([]:List Int)) (q:=0) (t2:=42) (x:=.fz [.int .i64 gA] 1 true) (l2:=([gA])) dz o2 rfl (by kernel_rfl) rfl e2
 refine qr [.a 3 e3] <| qq <| qb 0 ?_
 obtain⟨kH,uR,H⟩:=aI H
 refine ql (aK.bI L l0   (x0,([]:List Int),x1) _ _ ⟨.any,.any,.any,.any,eS,(0),aA,h1,by kernel_rfl,o3⟩ uR) ?_
 rintro e s ⟨rfl,Rt,gP,A0,rfl,g7,g8,g9,g10,g11,g12,g13,g14,xS,eK,nM,h8,rfl,uv⟩
 try dsimp only at H
 refine q1 ?_
 have oT:Has h8 ((xS,.sl A0.length 1 (aa.l A0))::(eK,.sl gP.length 1 (aa.l gP))::L):=Has.del uv 2
 have lB:Has h8 ((eK,.sl gP.length 1 (aa.l gP))::L):=Has.del oT 0
 obtain rfl:=oi H
 exact qt <| ⟨.inl rfl,cb (.rs eK 0 gP.length 1) h8 (b9 (vt (E:=aa) (l:=gP) (q:=0) lB rfl (fun _=>rfl)))⟩
end
end Go.Proofs.YtmekcfdllhphlaaDoor
namespace Go.Proofs.YtmekcfdllhphlaaDoor
open Go Go.R
open Go.IntKind (i64 u64 u8 u32)
inductive uf (κ:Int→Int)(A:Int→List Int):List Int→List Int→List Int→Prop
 | nil (o:List Int):uf κ A [] o o
 | skip {v:Int} {st o o':List Int}:κ v∈o.map κ→uf κ A st o o'→uf κ A (v::st) o o'
 | push {v:Int} {st o o':List Int}:κ v∉o.map κ→uf κ A (A v++st) (o++[v]) o'→uf κ A (v::st) o o'
theorem uf.T2 {κ:Int→Int}{A:Int→List Int}{st o o1 o2:List Int}(h:uf κ A st o o1)(k:uf κ A st o o2):o1=o2:=by
 induction h with
 | nil o=>cases k; rfl
 | skip hm _ ih=>
  cases k with
  | skip _ k=>exact ih k
  | push hn _=>exact absurd hm hn
 | push hn _ ih=>
  cases k with
  | skip hm _=>exact absurd hm hn
  | push _ k=>exact ih k
theorem uf.facts {κ:Int→Int}{A:Int→List Int}{n:Nat}{st o o':List Int}(h:uf κ A st o o')(hA:∀v:Int,0≤v→v<n→∀a∈A v,0≤a∧a<n)(hst:∀v∈st,0≤v∧v<n)(ho:∀v∈o,0≤v∧v<n)(AM:(o.map κ).Nodup) :
  (∃t,o'=o++t)∧(∀v∈o',0≤v∧v<n)∧(o'.map κ).Nodup∧(∀v∈st,κ v∈o'.map κ)∧((∀v∈o,∀a∈A v,κ a∈o.map κ∨a∈st)→∀v∈o',∀a∈A v,κ a∈o'.map κ):=by
 induction h with
 | nil o=>
  refine⟨⟨[],by simp⟩,ho,AM,?_,?_⟩
  ·intro v hv; cases hv
  ·intro h v hv a ha; exact (h v hv a ha).resolve_right (by simp)
 | @skip v st o o' hm _ ih=>
  obtain⟨⟨t,rfl⟩,a,b,c,d⟩:=ih (fun x hx=>hst x (by simp [hx])) ho AM
  refine⟨⟨t,rfl⟩,a,b,fun x hx=>?_,fun h=>d fun x hx y hy=>?_⟩
  ·rcases X5.1 hx with rfl | hx
   ·rw [XT]; exact X8 _ hm
   ·exact c x hx
  ·rcases h x hx y hy with h | h
   ·exact .inl h
   ·rcases X5.1 h with rfl | h
    ·exact .inl hm
    ·exact .inr h
 | @push v st o o' hn _ ih=>
  have hv:=hst v (by simp)
  have h1:∀x∈A v++st,0≤x∧x<n:=fun x hx=>by
   rcases XE.1 hx with hx | hx
   ·exact hA v hv.1 hv.2 x hx
   ·exact hst x (by simp [hx])
  have h2:∀x∈o++[v],0≤x∧x<n:=fun x hx=>by
   rcases XE.1 hx with hx | hx
   ·exact ho x hx
   ·rw [XB] at hx; subst hx; exact hv
  have h3:((o++[v]).map κ).Nodup:=by
   rw [XT,YC]
   refine⟨AM,by simp,fun a ha b hb=>?_⟩
   simp only [XK,List.map_nil,XB] at hb
   subst hb; intro e; subst e; exact hn ha
  obtain⟨⟨t,rfl⟩,a,b,c,d⟩:=ih h1 h2 h3
  refine⟨⟨[v]++t,by simp⟩,a,b,fun x hx=>?_,fun h=>d fun x hx y hy=>?_⟩
  ·rcases X5.1 hx with rfl | hx
   ·simp
   ·exact c x (by simp [hx])
  ·rcases XE.1 hx with hx | hx
   ·rcases h x hx y hy with h | h
    ·exact .inl (by rw [XT]; exact X8 _ h)
    ·rcases X5.1 h with rfl | h
     ·exact .inl (by simp)
     ·exact .inr (by simp [h])
   ·rw [XB] at hx; subst hx
    exact .inr (X8 _ hy)
theorem uf.from {A:Int→List Int}{root:Int}{st o o':List Int}(h:uf id A st o o')(hst:∀v∈st,v=root∨∃q,q<o.length∧v∈A (gt o q))(ho:∀i,i<o.length→gt o i=root∨∃q,q<i∧gt o i∈A (gt o q)) :
  ∀i,i<o'.length→gt o' i=root∨∃q,q<i∧gt o' i∈A (gt o' q):=by
 induction h with
 | nil o=>exact ho
 | skip hm _ ih=>exact ih (fun x hx=>hst x (by simp [hx])) ho
 | @push v st o o' hn _ ih=>
  have gl:∀q,q<o.length→gt (o++[v]) q=gt o q:=fun q hq=>ig hq
  have gv:gt (o++[v]) o.length=v:=by unfold gt; rw [XJ,XL (Xs _),YX]; rfl
  refine ih (fun x hx=>?_) (fun i hi=>?_)
  ·rcases XE.1 hx with hx | hx
   ·exact .inr ⟨o.length,by simp,by rw [gv]; exact hx⟩
   ·rcases hst x (by simp [hx]) with h | ⟨q,q1,q2⟩
    ·exact .inl h
    ·exact .inr ⟨q,by simp; omega,by rw [gl q q1]; exact q2⟩
  ·by_cases h:i<o.length
   ·rw [gl i h]
    rcases ho i h with h1 | ⟨q,q1,q2⟩
    ·exact .inl h1
    ·exact .inr ⟨q,q1,by rw [gl q (by omega)]; exact q2⟩
   ·have e:i=o.length:=by simp at hi; omega
    subst e
    rw [gv]
    rcases hst v (by simp) with h | ⟨q,q1,q2⟩
    ·exact .inl h
    ·exact .inr ⟨q,q1,by rw [gl q q1]; exact q2⟩
theorem zj (cls:List Int)(l:List ab)(k:Nat)(i:Int)(o:List Int):re cls l (k+1) i o=if dW cls i∈o.map (dW cls) then o else (nd l i).args.foldl (fun o a=>re cls l k a o) (o++[i]):=rfl
theorem GR {cls:List Int}{l:List ab}(ok:kM l):∀(k:Nat) (i:Int) (o:List Int),0≤i→i<l.length→Vs cls l.length o→Vs cls l.length (re cls l k i o)∧o.length≤(re cls l k i o).length
 | 0,i,o,_,_,v=>⟨v,Xs _⟩
 | k+1,i,o,h0,h1,v=>by
  rw [zj]
  split
  ·exact⟨v,Xs _⟩
  ·rename_i h
   have v1:Vs cls l.length (o++[i]):=by
    refine⟨?_,fun x hx=>?_⟩
    ·rw [XT,YC]
     refine⟨v.Hy,by simp,fun a ha b hb=>?_⟩
     simp only [XK,List.map_nil,XB] at hb
     subst hb; intro e; subst e; exact h ha
    ·rcases XE.1 hx with hx | hx
     ·exact v.nj x hx
     ·simp only [XB] at hx; subst hx; exact⟨h0,h1⟩
   have fold:∀(zs:List Int) (o:List Int),(∀a∈zs,0≤a∧a<l.length)→Vs cls l.length o→Vs cls l.length (zs.foldl (fun o a=>re cls l k a o) o)∧o.length≤(zs.foldl (fun o a=>re cls l k a o) o).length:=by
    intro zs
    induction zs with
    | nil=>intro o _ v; exact⟨v,Xs _⟩
    | cons a zs ih=>
     intro o ha v
     have hr:=ha a (by simp)
     obtain⟨v2,l2⟩:=GR ok k a o hr.1 hr.2 v
     obtain⟨v3,l3⟩:=ih (re cls l k a o) (fun x hx=>ha x (by simp [hx])) v2
     exact⟨v3,X6 l2 l3⟩
   obtain⟨v2,l2⟩:=fold (nd l i).args (o++[i]) (ok.2 _ (fl h0 h1)).2 v1
   exact⟨v2,by simp at l2; omega⟩
theorem pn {cls:List Int}{l:List ab}(ok:kM l):∀(k:Nat) (i:Int) (o st o':List Int),0≤i→i<l.length→Vs cls l.length o→l.length<k+o.length→
  uf (dW cls) (fun v=>(nd l v).args) st (re cls l k i o) o'→uf (dW cls) (fun v=>(nd l v).args) (i::st) o o'
 | 0,i,o,st,o',_,_,v,hk,_=>absurd v.rf (by omega)
 | k+1,i,o,st,o',h0,h1,v,hk,h=>by
  rw [zj] at h
  by_cases hm:dW cls i∈o.map (dW cls)
  ·rw [if_pos hm] at h
   exact .skip hm h
  ·rw [if_neg hm] at h
   refine .push hm ?_
   have v1:Vs cls l.length (o++[i]):=by
    refine⟨?_,fun x hx=>?_⟩
    ·rw [XT,YC]
     refine⟨v.Hy,by simp,fun a ha b hb=>?_⟩
     simp only [XK,List.map_nil,XB] at hb
     subst hb; intro e; subst e; exact hm ha
    ·rcases XE.1 hx with hx | hx
     ·exact v.nj x hx
     ·simp only [XB] at hx; subst hx; exact⟨h0,h1⟩
   have fold:∀(zs:List Int) (o:List Int),(∀a∈zs,0≤a∧a<l.length)→Vs cls l.length o→l.length<k+o.length→uf (dW cls) (fun v=>(nd l v).args) st (zs.foldl (fun o a=>re cls l k a o) o) o'→uf (dW cls) (fun v=>(nd l v).args) (zs++st) o o':=by
    intro zs
    induction zs with
    | nil=>intro o _ _ _ h; exact h
    | cons a zs ih=>
     intro o ha v hk h
     have hr:=ha a (by simp)
     obtain⟨v2,l2⟩:=GR ok k a o hr.1 hr.2 v
     exact pn ok k a o (zs++st) o' hr.1 hr.2 v hk (ih _ (fun x hx=>ha x (by simp [hx])) v2 (by omega) h)
   exact fold (nd l i).args (o++[i]) (ok.2 _ (fl h0 h1)).2 v1 (by simp; omega) h
theorem po {od:List Int}{n:Nat}(h:od.Nodup)(hr:∀x∈od,0≤x∧x<n):od.length≤n:=by
 have:=h.length_le_of_subset (l₂:=ints n) (fun x hx=>iE.2 (hr x hx))
 rwa [dG] at this
theorem GS {m:Nat}{l:List ab}(ok:kM l){v:Int}(h0:0≤v)(h1:v<l.length):∀(f i:Nat) (st:List Int),i<f→i≤(nd l v).args.length→st.length+i≤1000000→
  ∃x,aK.l1 m l v f st ((i:Int) - 1)=some (st++((nd l v).args.take i).reverse,x)
 | 0,i,st,hf,_,_=>absurd hf (by omega)
 | f+1,0,st,hf,hi,hs=>by
  unfold aK.l1
  rw [if_neg (by simp)]
  exact⟨_,by simp; rfl⟩
 | f+1,i+1,st,hf,hi,hs=>by
  have h8:=(ok.2 _ (fl h0 h1)).1
  have ei:((i+1:Nat):Int) - 1=(i:Int):=by omega
  have ew:i64.wrap ((i:Int) - 1)=(i:Int) - 1:=aD (by omega) (by omega)
  have ly:app 8 st [gt (nd l v).args i]=some (st++[gt (nd l v).args i]):=by unfold app; rw [if_pos (by simp; omega)]
  obtain⟨x,ih⟩:=GS (m:=m) ok h0 h1 f i (st++[gt (nd l v).args i]) (by omega) (by omega) (by simp; omega)
  refine⟨x,?_⟩
  unfold aK.l1
  rw [ei,if_pos (by simp),gX h0 h1,Xo,cj (by omega),Xo,ly,Xo,ew,ih]
  rw [Yu,bh (by omega)]
  simp
theorem A6 {m:Nat}(hm:2 ^ 30≤m){l:List ab}(ok:kM l):∀(f:Nat) (met:List Bool) (o st:List Int),st.length+9*(l.length - o.length)<f→st.length+9*(l.length - o.length)≤100000→met.length=l.length→(∀i,i<l.length→(gb met i=true↔(i:Int)∈o))→o.Nodup→(∀v∈o,0≤v∧v<l.length)→(∀v∈st,0≤v∧v<l.length)→
  ∃DW o' ,aK.l0 m l f met o st.reverse=some (DW,o',[])∧uf id (fun v=>(nd l v).args) st o o'
 | 0,met,o,st,hf,_,_,_,_,_,_=>absurd hf (by omega)
 | f+1,met,o,[],hf,hb,ML,Ol,Pb,Pc,KX=>by
  unfold aK.l0
  rw [if_neg (by simp)]
  exact⟨met,o,rfl,.nil o⟩
 | f+1,met,o,v::st,hf,hb,ML,Ol,Pb,Pc,KX=>by
  have ni:(2:Nat) ^ 30=1073741824:=by decide
  have xt:=po Pb Pc
  obtain⟨v0,v1⟩:=KX v (by simp)
  have h8:=(ok.2 _ (fl v0 v1)).1
  have Rv:((v.toNat:Nat):Int)=v:=by omega
  simp only [XO] at hf hb
  have VQ:=ok.1
  unfold aK.l0
  have hlen:((v::st).reverse.length:Int)=(st.length:Int)+1:=by simp
  have ew:i64.wrap ((st.length:Int)+1 - 1)=(st.length:Int):=by rw [aD (by omega) (by omega)]; omega
  have e1:ix (v::st).reverse (st.length:Int)=some v:=by
   unfold ix
   rw [if_pos (by omega),Xv,List.reverse_cons,XL (by simp)]
   simp
  have e2:pD (v::st).reverse 0 (st.length:Int)=some st.reverse:=by
   unfold pD
   rw [if_pos ⟨by omega,by omega,by simp; omega⟩,List.reverse_cons]
   simp only [Xv,X3,Int.toNat_zero,Nat.sub_zero]
   rw [List.take_left' (by simp)]
  have e3:ix met v=some (gb met v.toNat):=Cv v0 (by omega)
  rw [if_pos (by rw [hlen]; simp only [gt_iff_lt,decide_eq_true_eq]; omega),hlen,ew,e1,Xo,e2,Xo,e3,Xo]
  cases hg:gb met v.toNat with
  | true=>
   have ry:v∈o:=by have:=(Ol v.toNat (by omega)).1 hg; rwa [Rv] at this
   obtain⟨DW,o',k1,k2⟩:=A6 hm ok f met o st (by omega) (by omega) ML Ol Pb Pc (fun x hx=>KX x (by simp [hx]))
   rw [if_pos rfl]
   exact⟨DW,o',k1,.skip (by simpa using ry) k2⟩
  | false=>
   have T3:v∉o:=fun h=>by
    have:=(Ol v.toNat (by omega)).2 (by rw [Rv]; exact h)
    rw [hg] at this; cases this
   have T4:(o++[v]).Nodup:=by
    rw [YC]
    refine⟨Pb,by simp,fun a ha b hb=>?_⟩
    rw [XB] at hb
    subst hb; intro e; subst e; exact T3 ha
   have T5:∀x∈o++[v],0≤x∧x<l.length:=fun x hx=>by
    rcases XE.1 hx with hx | hx
    ·exact Pc x hx
    ·rw [XB] at hx; subst hx; exact⟨v0,v1⟩
   have Gi:=po T4 T5
   simp only [Xy,XO,Yh] at Gi
   have ly:app 8 o [v]=some (o++[v]):=by unfold app; rw [if_pos (by simp; omega)]
   have VS:i64.wrap (((nd l v).args.length:Int) - 1)=((nd l v).args.length:Int) - 1:=aD (by omega) (by omega)
   obtain⟨x,q1⟩:=GS (m:=m) ok v0 v1 m (nd l v).args.length st.reverse (by omega) (Xs _) (by simp; omega)
   rw [Yx] at q1
   have Rw:st.reverse++(nd l v).args.reverse=((nd l v).args++st).reverse:=by simp
   rw [Rw] at q1
   rw [if_neg (by simp),Xo,ly,Xo,gX v0 v1,Xo,VS,q1,Xo]
   dsimp only
   obtain⟨DW,o',k1,k2⟩:=A6 hm ok f (met.set v.toNat true) (o++[v]) ((nd l v).args++st) (by simp; omega) (by simp; omega) (by simpa using ML) (fun i hi=>by
    rw [AZ (by omega),XE,XB]
    by_cases e:i=v.toNat
    ·subst e; simp [Rv]
    ·rw [if_neg e,Ol i hi]
     constructor
     ·exact fun h=>.inl h
     ·rintro (h | h)
      ·exact h
      ·omega) T4 T5 (fun x hx=>by
    rcases XE.1 hx with hx | hx
    ·exact (ok.2 _ (fl v0 v1)).2 x hx
    ·exact KX x (by simp [hx]))
   exact⟨DW,o',k1,.push (by simpa using T3) k2⟩
theorem IJ {n k:Nat}:gb (XH n false) k=false:=by
 unfold gb; rw [XJ,List.getElem?_replicate]; split<;>rfl
theorem pq {m:Nat}(hm:2 ^ 30≤m){l:List ab}(ok:kM l){root:Int}(h0:0≤root)(h1:root<l.length):∃o,aK.f m l root=some o∧uf id (fun v=>(nd l v).args) [root] [] o:=by
 have ni:(2:Nat) ^ 30=1073741824:=by decide
 have VQ:=ok.1
 unfold aK.f
 have e1:sh 1 (l.length:Int) false=some (XH l.length false):=by unfold sh; rw [if_pos ⟨by omega,by rw [Xv]; omega⟩,Xv]
 have ly:app 8 ([]:List Int) [root]=some [root]:=by unfold app; rw [if_pos (by simp),XZ]
 obtain⟨DW,o',k1,k2⟩:=A6 hm ok m (XH l.length false) [] [root] (by simp; omega) (by simp; omega) (by simp) (fun i hi=>by rw [IJ]; simp) (by simp) (fun v hv=>by cases hv) (fun v hv=>by rw [XB] at hv; subst hv; exact⟨h0,h1⟩)
 have k1:aK.l0 m l m (XH l.length false) [] [root]=_:=k1
 rw [e1,Xo,ly,Xo,k1,Xo]
 exact⟨o',rfl,k2⟩
end Go.Proofs.YtmekcfdllhphlaaDoor
namespace Go.Proofs.YtmekcfdllhphlaaDoor
open Go Go.R
open Go.IntKind (i64 u64 u8 u32)
structure DX (l k:List ab)(R:Int→Int→Prop):Prop where
 nj:∀i j,R i j→(0≤i∧i<l.length)∧0≤j∧j<k.length
 top:∀i j,R i j→Alike (nd l i) (nd k j)
 arg:∀i j,R i j→∀n,n<(nd l i).args.length→R (gt (nd l i).args n) (gt (nd k j).args n)
theorem Min.same {l:List ab}{c:List Int}(M:Min l c){a b:Int}(a0:0≤a)(a1:a<l.length)(b0:0≤b)(b1:b<l.length)(e:dW c a=dW c b) :
  Alike (nd l a) (nd l b)∧∀n,n<(nd l a).args.length→dW c (gt (nd l a).args n)=dW c (gt (nd l b).args n):=by
 have ea:((a.toNat:Nat):Int)=a:=by omega
 have eb:((b.toNat:Nat):Int)=b:=by omega
 have hA:=M.top a.toNat b.toNat (by omega) (by omega) e
 have hg:=M.arg a.toNat b.toNat (by omega) (by omega) e
 rw [ea,eb] at hA hg
 exact⟨hA,hg⟩
theorem DX.swap {l k:List ab}{R:Int→Int→Prop}(S:DX l k R):DX k l fun j i=>R i j:=
 ⟨fun i j h=>⟨(S.nj j i h).2,(S.nj j i h).1⟩,fun i j h=>(S.top j i h).symm,fun i j h n hn=>S.arg j i h n (by have:=(S.top j i h).len; omega)⟩
theorem DX.cls {l k:List ab}{R:Int→Int→Prop}(S:DX l k R){c1 c2:List Int}(M1:Min l c1)(M2:Min k c2){i j i' j':Int}(h:R i j)(h':R i' j')(e:dW c1 i=dW c1 i'):dW c2 j=dW c2 j':=by
 have g:=S.nj _ _ h
 have g':=S.nj _ _ h'
 refine M2.max (fun a b=>∃i i':Int,R i a∧R i' b∧dW c1 i=dW c1 i') ⟨?_,?_,?_⟩ j.toNat j'.toNat ⟨i,i',by rwa [show ((j.toNat:Nat):Int)=j by omega],by rwa [show ((j'.toNat:Nat):Int)=j' by omega],e⟩
 ·rintro a b ⟨i,i',h,h',_⟩
  have:=S.nj _ _ h
  have:=S.nj _ _ h'
  omega
 ·rintro a b ⟨i,i',h,h',e⟩
  have g:=S.nj _ _ h
  have g':=S.nj _ _ h'
  exact ((S.top _ _ h).symm.trans (M1.same g.1.1 g.1.2 g'.1.1 g'.1.2 e).1).trans (S.top _ _ h')
 ·rintro a b ⟨i,i',h,h',e⟩ n hn
  have g:=S.nj _ _ h
  have g':=S.nj _ _ h'
  obtain⟨sA,sg⟩:=M1.same g.1.1 g.1.2 g'.1.1 g'.1.2 e
  have J0:n<(nd l i).args.length:=by have:=(S.top _ _ h).len; omega
  have k1:=S.arg _ _ h n J0
  have k2:=S.arg _ _ h' n (by have:=sA.len; omega)
  have r1:=(S.nj _ _ k1).2
  have r2:=(S.nj _ _ k2).2
  exact⟨_,_,by rwa [show (((gt (nd k a).args n).toNat:Nat):Int)=gt (nd k a).args n by omega],by rwa [show (((gt (nd k b).args n).toNat:Nat):Int)=gt (nd k b).args n by omega],sg n J0⟩
inductive Rl (R:Int→Int→Prop):List Int→List Int→Prop
 | nil:Rl R [] []
 | cons {a b:Int} {xs ys:List Int}:R a b→Rl R xs ys→Rl R (a::xs) (b::ys)
theorem Rl.app {R:Int→Int→Prop}{a b c d:List Int}(h:Rl R a b)(k:Rl R c d):Rl R (a++c) (b++d):=by
 induction h with
 | nil=>exact k
 | cons h _ ih=>exact .cons h ih
theorem Rl.len {R:Int→Int→Prop}{a b:List Int}(h:Rl R a b):a.length=b.length:=by
 induction h with
 | nil=>rfl
 | cons _ _ ih=>simp [ih]
theorem Rl.at {R:Int→Int→Prop}{a b:List Int}(h:Rl R a b):∀n,n<a.length→R (gt a n) (gt b n):=by
 induction h with
 | nil=>intro n hn; exact absurd hn (by simp)
 | cons h _ ih=>
  intro n hn
  cases n with
  | zero=>exact h
  | succ n=>exact ih n (by simpa using hn)
theorem Rl.of {R:Int→Int→Prop}:∀{a b:List Int},a.length=b.length→(∀n,n<a.length→R (gt a n) (gt b n))→Rl R a b
 | [],[],_,_=>.nil
 | [],_::_,h,_=>by simp at h
 | _::_,[],h,_=>by simp at h
 | x::a,y::b,h,k=>.cons (k 0 (by simp)) (Rl.of (by simpa using h) fun n hn=>k (n+1) (by simpa using hn))
section
variable {l k:List ab}{R:Int→Int→Prop}{c1 c2:List Int}
theorem DX.mem (S:DX l k R)(M1:Min l c1)(M2:Min k c2){v w:Int}(h:R v w){o o2:List Int}(ho:Rl R o o2):dW c1 v∈o.map (dW c1)↔dW c2 w∈o2.map (dW c2):=by
 induction ho with
 | nil=>simp
 | cons h' _ ih=>
  rw [XK,XK,X5,X5,ih]
  have z1:=S.cls M1 M2 h h'
  have z2:=S.swap.cls M2 M1 h h'
  constructor
  ·rintro (e | e)
   ·exact .inl (z1 e)
   ·exact .inr e
  ·rintro (e | e)
   ·exact .inl (z2 e)
   ·exact .inr e
theorem DX.idx (S:DX l k R)(M1:Min l c1)(M2:Min k c2){v w:Int}(h:R v w){o o2:List Int}(ho:Rl R o o2):idx c1 o v=idx c2 o2 w:=by
 unfold Go.Proofs.YtmekcfdllhphlaaDoor.idx
 congr 1
 induction ho with
 | nil=>rfl
 | @cons a b xs ys h' _ ih=>
  rw [XK,XK,List.idxOf_cons,List.idxOf_cons,ih]
  have h1:=S.cls M1 M2 h' h
  have h2:=S.swap.cls M2 M1 h' h
  by_cases e:dW c1 a=dW c1 v
  ·rw [e,h1 e]; simp
  ·have e2:¬dW c2 b=dW c2 w:=fun z=>e (h2 z)
   rw [show (dW c1 a==dW c1 v)=false from by simpa using e,show (dW c2 b==dW c2 w)=false from by simpa using e2]
theorem DX.pre (S:DX l k R)(M1:Min l c1)(M2:Min k c2){st o o':List Int}(h:uf (dW c1) (fun v=>(nd l v).args) st o o'):∀{IK o2:List Int},Rl R st IK→Rl R o o2→∃HA,uf (dW c2) (fun v=>(nd k v).args) IK o2 HA∧Rl R o' HA:=by
 induction h with
 | nil o=>intro IK o2 hs ho; cases hs; exact⟨o2,.nil _,ho⟩
 | skip hm _ ih=>
  intro IK o2 hs ho
  cases hs with
  | cons h hs=>
   obtain⟨HA,k1,k2⟩:=ih hs ho
   exact⟨HA,.skip ((S.mem M1 M2 h ho).1 hm) k1,k2⟩
 | push hn _ ih=>
  intro IK o2 hs ho
  cases hs with
  | cons h hs=>
   obtain⟨HA,k1,k2⟩:=ih ((Rl.of (S.top _ _ h).len (S.arg _ _ h)).app hs) (ho.app (.cons h .nil))
   exact⟨HA,.push (fun z=>hn ((S.mem M1 M2 h ho).2 z)) k1,k2⟩
end
theorem IL {c O:List Int}{a b:Int}(h:dW c a=dW c b):idx c O a=idx c O b:=by unfold idx; rw [h]
theorem Lx {f:Int→Int}{a b:List Int}{g:Int→Int}(hl:a.length=b.length)(h:∀n,n<a.length→f (gt a n)=g (gt b n)):a.map f=b.map g:=by
 apply Ye fun n=>?_
 simp only [XW]
 by_cases hn:n<a.length
 ·rw [bh hn,bh (by omega)]; simp only [Xu,h n hn]
 ·rw [XI (by omega),XI (by omega)]; rfl
theorem DY {m:Nat}(hm:2 ^ 41≤m){t u:ak}(ht:ej t=true)(hu:ej u=true){R:Int→Int→Prop}(S:DX t.nodes u.nodes R)(hr:R t.root u.root):∃s,cy.f m t=some s∧cy.f m u=some s:=by
 have rC:(2:Nat) ^ 41=2199023255552:=by decide
 obtain⟨Ef,_,r0,r1,_⟩:=iZ ht
 obtain⟨T6,_,q0,q1,_⟩:=iZ hu
 obtain⟨c1,n1,e1,M1,Q1,_⟩:=lk hm ht
 obtain⟨c2,n2,e2,M2,Q2,_⟩:=lk hm hu
 have l1:=Ef.1
 have l2:=T6.1
 have P1:=pn (cls:=c1) Ef m t.root [] [] _ r0 r1 ⟨by simp,fun x hx=>by cases hx⟩ (by simp; omega) (.nil _)
 have P2:=pn (cls:=c2) T6 m u.root [] [] _ q0 q1 ⟨by simp,fun x hx=>by cases hx⟩ (by simp; omega) (.nil _)
 obtain⟨HA,k1,k2⟩:=S.pre M1 M2 P1 (.cons hr .nil) .nil
 have:=k1.T2 P2
 subst this
 generalize Xh:re c1 t.nodes m t.root []=O1 at *
 generalize Xi:re c2 u.nodes m u.root []=O2 at *
 have hl:=k2.len
 have w1:=Q1.len
 have w2:=Q2.len
 have hn:n1=n2:=by
  apply Ye fun q=>?_
  by_cases hq:q<O1.length
  ·rw [Q1.new q (by simp) hq,Q2.new q (by simp) (by omega)]
   have h:=k2.at q hq
   have A:=S.top _ _ h
   unfold uS
   rw [A.kind,A.int,A.label,Lx A.len fun n hn=>S.idx M1 M2 (S.arg _ _ h n hn) k2]
  ·rw [XI (by omega),XI (by omega)]
 subst hn
 exact⟨_,e1,e2⟩
theorem A7 {n:ab}{a b:Int}{f:Int→Int}(h:j8 n a=true)(hf:∀x∈n.args,0≤f x∧f x<b):j8 ⟨n.kind,n.int,n.label,n.args.map f⟩ b=true:=by
 unfold j8 at h ⊢
 have he:(n.args.map f).isEmpty=n.args.isEmpty:=by cases n.args<;>rfl
 dsimp only
 rw [he,XF]
 have ha:((n.args.map f).all fun a=>decide (0≤a)&&decide (a<b))=true:=by
  rw [XQ]
  intro x hx
  obtain⟨y,hy,rfl⟩:=XN.1 hx
  have:=hf y hy
  simp only [Xt,decide_eq_true_eq]; exact this
 rw [ha]
 split<;>rename_i h0
 ·rw [if_pos h0] at h; exact h
 ·rw [if_neg h0] at h
  split<;>rename_i h1
  ·rw [if_pos h1] at h; exact h
  ·rw [if_neg h1] at h
   split<;>rename_i h2
   ·rw [if_pos h2] at h; exact h
   ·rw [if_neg h2] at h
    split<;>rename_i h3
    ·rw [if_pos h3] at h
     simp only [Xt] at h ⊢
     exact⟨h.1,trivial⟩
    ·rw [if_neg h3] at h
     exact h
theorem DZ {m:Nat}(hm:2 ^ 41≤m){t:ak}(ht:ej t=true):∃s R,cy.f m t=some s∧ej s=true∧s.nodes.length≤t.nodes.length∧DX t.nodes s.nodes R∧R t.root s.root:=by
 have rC:(2:Nat) ^ 41=2199023255552:=by decide
 obtain⟨ok,_,r0,r1,_⟩:=iZ ht
 obtain⟨c,ns,e,M,Q,hr⟩:=lk hm ht
 have l1:=ok.1
 have fv:=ht
 unfold ej at fv
 simp only [Xt,decide_eq_true_eq] at fv
 generalize hO:re c t.nodes m t.root []=O at *
 have rf:=Q.vs.rf
 have hlen:=Q.len
 have oP:0<O.length:=by cases O with | nil=>simp at hr | cons _ _=>simp
 have AM:∀q:Nat,q<O.length→nd ns (q:Int)=uS c t.nodes O (gt O q):=fun q hq=>by
  have:=Q.new q (by simp) hq
  unfold nd
  rw [Xv,XJ,this]; rfl
 have Pd:∀{v:Int},dW c v∈O.map (dW c)→0≤idx c O v∧idx c O v<O.length∧dW c (gt O (idx c O v).toNat)=dW c v:=fun {v} hv=>by
  have h1:=Yp hv
  have h2:=List.getElem_idxOf h1
  rw [XF] at h1
  unfold idx
  refine⟨by omega,by omega,?_⟩
  rw [Xv]
  have h3:=XA (l:=O.map (dW c)) (i:=(O.map (dW c)).idxOf (dW c v)) (by rw [XF]; exact h1)
  rw [h2,XW,bh h1] at h3
  exact XM h3
 refine⟨⟨ns,0⟩,fun i j=>(0≤i∧i<t.nodes.length)∧dW c i∈O.map (dW c)∧j=idx c O i,e,?_,by show ns.length≤_; omega,⟨?_,?_,?_⟩,⟨r0,r1⟩,hr,?_⟩
 ·unfold ej
  simp only [Xt,decide_eq_true_eq]
  refine⟨⟨⟨⟨by omega,by omega⟩,by omega⟩,by omega⟩,?_⟩
  rw [XQ]
  intro x hx
  obtain⟨q,hq,e2⟩:=YY hx
  have h1:=Q.new q (by simp) (by omega)
  rw [XA hq,e2] at h1
  have h1:=XM h1
  subst h1
  have vf:=Q.vs.nj _ (aJ (l:=O) (k:=q) (by omega))
  refine A7 (XQ.1 fv.2 _ (fl vf.1 vf.2)) fun a ha=>?_
  have:=Pd (Q.arg q (by simp) (by omega) a ha)
  omega
 ·rintro i j ⟨h1,h2,rfl⟩
  have:=Pd h2
  exact⟨h1,by show 0≤_∧_<(ns.length:Int); omega⟩
 ·rintro i j ⟨h1,h2,rfl⟩
  obtain⟨a,b,d⟩:=Pd h2
  have vf:=Q.vs.nj _ (aJ (l:=O) (k:=(idx c O i).toNat) (by omega))
  have hx:=AM (idx c O i).toNat (by omega)
  rw [show (((idx c O i).toNat:Nat):Int)=idx c O i by omega] at hx
  rw [hx]
  have A:=(M.same h1.1 h1.2 vf.1 vf.2 d.symm).1
  exact⟨A.kind,A.int,A.label,by show _=(List.map _ _).length; rw [XF]; exact A.len⟩
 ·rintro i j ⟨h1,h2,rfl⟩ n hn
  obtain⟨a,b,d⟩:=Pd h2
  have vf:=Q.vs.nj _ (aJ (l:=O) (k:=(idx c O i).toNat) (by omega))
  have hx:=AM (idx c O i).toNat (by omega)
  rw [show (((idx c O i).toNat:Nat):Int)=idx c O i by omega] at hx
  rw [hx]
  obtain⟨A,hg⟩:=M.same h1.1 h1.2 vf.1 vf.2 d.symm
  have J1:n<(nd t.nodes (gt O (idx c O i).toNat)).args.length:=by have:=A.len; omega
  have hg:=hg n hn
  have hin:=Q.arg (idx c O i).toNat (by simp) (by omega) _ (aJ J1)
  refine⟨(ok.2 _ (fl h1.1 h1.2)).2 _ (aJ hn),by rw [hg]; exact hin,?_⟩
  have e1:gt (uS c t.nodes O (gt O (idx c O i).toNat)).args n=idx c O (gt (nd t.nodes (gt O (idx c O i).toNat)).args n):=by
   have h3:=bh (l:=(uS c t.nodes O (gt O (idx c O i).toNat)).args) (k:=n) (by show n<(List.map _ _).length; rw [XF]; exact J1)
   have h4:(uS c t.nodes O (gt O (idx c O i).toNat)).args[n]? = some (idx c O (gt (nd t.nodes (gt O (idx c O i).toNat)).args n)):=by
    show (List.map _ _)[n]? = _
    rw [XW,bh J1]; rfl
   rw [h4] at h3; exact (XM h3).symm
  rw [e1]
  exact IL hg.symm
 ·show (0:Int)=idx c O t.root
  have P1:=pn (cls:=c) ok m t.root [] [] _ r0 r1 ⟨by simp,fun x hx=>by cases hx⟩ (by simp; omega) (.nil _)
  rw [hO] at P1
  cases P1 with
  | skip h _=>simp at h
  | push _ k=>
   obtain⟨⟨T,e⟩,_⟩:=k.facts (n:=t.nodes.length) (fun v a b=>(ok.2 _ (fl a b)).2) (fun v hv=>by
    rcases XE.1 hv with hv | hv
    ·exact (ok.2 _ (fl r0 r1)).2 v hv
    ·cases hv) (fun v hv=>by simp at hv; subst hv; exact⟨r0,r1⟩) (by simp)
   rw [e]
   unfold idx
   simp
theorem A8 {m:Nat}(hm:2 ^ 41≤m){t:ak}(ht:ej t=true):∃s,cy.f m t=some s∧ej s=true∧s.nodes.length≤t.nodes.length∧cy.f m s=some s:=by
 obtain⟨s,R,e,v,hl,S,hr⟩:=DZ hm ht
 obtain⟨s',e1,e2⟩:=DY hm ht v S hr
 rw [e1] at e
 cases e
 exact⟨s,e1,v,hl,e2⟩
end Go.Proofs.YtmekcfdllhphlaaDoor
namespace Go.Proofs.YtmekcfdllhphlaaDoor
open Go Go.R
open Go.IntKind (i64 u64 u8 u32)
theorem ug {b:List Int}{lo hi:Int}(h:0≤lo∧lo≤hi∧hi≤b.length):pD b lo hi=some ((b.drop lo.toNat).take (hi.toNat - lo.toNat)):=by unfold pD; rw [if_pos h]
end Go.Proofs.YtmekcfdllhphlaaDoor
namespace Go.Proofs.YtmekcfdllhphlaaDoor
open Go Go.R
open Go.IntKind (i64 u64 u8 u32)
end Go.Proofs.YtmekcfdllhphlaaDoor
namespace Go.Proofs.YtmekcfdllhphlaaDoor
open Go Go.R
open Go.IntKind (i64 u64 u8 u32)
def xL:cg:=gL [0,2] [] [2,1] [] []
def eX.f (m:Nat)(c0:Int):Option (Bool):=if (decide (c0≥(97:Int)))=true then (if (decide (c0≤(122:Int)))=true then (some true) else (if (decide (c0≥(65:Int)))=true then (if (decide (c0≤(90:Int)))=true then (some true) else (if (decide (c0≥(48:Int)))=true then (if (decide (c0≤(57:Int)))=true then (some true) else (some (c0==(95:Int)))) else (some (c0==(95:Int))))) else (if (decide (c0≥(48:Int)))=true then (if (decide (c0≤(57:Int)))=true then (some true) else (some (c0==(95:Int)))) else (some (c0==(95:Int)))))) else (if (decide (c0≥(65:Int)))=true then (if (decide (c0≤(90:Int)))=true then (some true) else (if (decide (c0≥(48:Int)))=true then (if (decide (c0≤(57:Int)))=true then (some true) else (some (c0==(95:Int)))) else (some (c0==(95:Int))))) else (if (decide (c0≥(48:Int)))=true then (if (decide (c0≤(57:Int)))=true then (some true) else (some (c0==(95:Int)))) else (some (c0==(95:Int)))))
def eX.fin (L:Mem)(r:Bool)(s:St):Prop:=∃av,aH Tryd.prog (s.open xL) Tryd.f111.results.toList=some av∧fX s.h av (.bool r)
def Ly (cf:CallF)(m:Nat):Prop:=∀(c0:Int) (r:Bool),eX.f m c0=some r→∀h xs,eN fi h xs [.int .u8 c0]→cf 111 xs h=some (.bool r,h)
section
variable {cf:CallF}{m:Nat}
theorem pt {aU:FuncId→cg}(ha:aU 111=xL)  (c0:Int)(h:AHeap)(L:Mem)  (o:Has h (L)){out:Bool}(H:eX.f m c0=some out) :
  ∃r h',bc Tryd.prog aU cf m 111 [.int .u8 c0] h=some (r,h')∧fX h' r (.bool out):=by
 refine aq (fn:=Tryd.f111) ha Tryd.func111 (by kernel_rfl) (by kernel_rfl) ?_
 refine aG (Q:=fun s=>eX.fin L out s) (fun _ _ h=>h) ?_
 have H:_=some out:=H
 unfold eX.f at H
 show de _ cf xL m _ ⟨[.int .u8 c0,.any],[],h⟩ _
 refine q1 <| qq ?_
 rcases dJ H with⟨c1,H⟩| ⟨c1,H⟩
 ·rcases dJ H with⟨c2,H⟩| ⟨c2,H⟩
  ·obtain rfl:=oi H
   exact qr [.b 2 c1,.b 6 c2] <| qt <| ⟨.inl rfl,cb (.bool true) h (b9 (au))⟩
  ·rcases dJ H with⟨c3,H⟩| ⟨c3,H⟩
   ·rcases dJ H with⟨c4,H⟩| ⟨c4,H⟩
    ·obtain rfl:=oi H
     exact qr [.b 2 c1,.b 6 c2,.b 9 c3,.b 14 c4] <| qt <| ⟨.inl rfl,cb (.bool true) h (b9 (au))⟩
    ·rcases dJ H with⟨c5,H⟩| ⟨c5,H⟩
     ·rcases dJ H with⟨c6,H⟩| ⟨c6,H⟩
      ·obtain rfl:=oi H
       exact qr [.b 2 c1,.b 6 c2,.b 9 c3,.b 14 c4,.b 17 c5,.b 22 c6] <| qt <| ⟨.inl rfl,cb (.bool true) h (b9 (au))⟩
      ·obtain rfl:=oi H
       exact qr [.b 2 c1,.b 6 c2,.b 9 c3,.b 14 c4,.b 17 c5,.b 22 c6] <| qt <| ⟨.inl rfl,cb (.bool (c0==(95:Int))) h (b9 (au))⟩
     ·obtain rfl:=oi H
      exact qr [.b 2 c1,.b 6 c2,.b 9 c3,.b 14 c4,.b 17 c5] <| qt <| ⟨.inl rfl,cb (.bool (c0==(95:Int))) h (b9 (au))⟩
   ·rcases dJ H with⟨c7,H⟩| ⟨c7,H⟩
    ·rcases dJ H with⟨c8,H⟩| ⟨c8,H⟩
     ·obtain rfl:=oi H
      exact qr [.b 2 c1,.b 6 c2,.b 9 c3,.b 17 c7,.b 22 c8] <| qt <| ⟨.inl rfl,cb (.bool true) h (b9 (au))⟩
     ·obtain rfl:=oi H
      exact qr [.b 2 c1,.b 6 c2,.b 9 c3,.b 17 c7,.b 22 c8] <| qt <| ⟨.inl rfl,cb (.bool (c0==(95:Int))) h (b9 (au))⟩
    ·obtain rfl:=oi H
     exact qr [.b 2 c1,.b 6 c2,.b 9 c3,.b 17 c7] <| qt <| ⟨.inl rfl,cb (.bool (c0==(95:Int))) h (b9 (au))⟩
 ·rcases dJ H with⟨c9,H⟩| ⟨c9,H⟩
  ·rcases dJ H with⟨uN,H⟩| ⟨uN,H⟩
   ·obtain rfl:=oi H
    exact qr [.b 2 c1,.b 9 c9,.b 14 uN] <| qt <| ⟨.inl rfl,cb (.bool true) h (b9 (au))⟩
   ·rcases dJ H with⟨nH,H⟩| ⟨nH,H⟩
    ·rcases dJ H with⟨nU,H⟩| ⟨nU,H⟩
     ·obtain rfl:=oi H
      exact qr [.b 2 c1,.b 9 c9,.b 14 uN,.b 17 nH,.b 22 nU] <| qt <| ⟨.inl rfl,cb (.bool true) h (b9 (au))⟩
     ·obtain rfl:=oi H
      exact qr [.b 2 c1,.b 9 c9,.b 14 uN,.b 17 nH,.b 22 nU] <| qt <| ⟨.inl rfl,cb (.bool (c0==(95:Int))) h (b9 (au))⟩
    ·obtain rfl:=oi H
     exact qr [.b 2 c1,.b 9 c9,.b 14 uN,.b 17 nH] <| qt <| ⟨.inl rfl,cb (.bool (c0==(95:Int))) h (b9 (au))⟩
  ·rcases dJ H with⟨qf,H⟩| ⟨qf,H⟩
   ·rcases dJ H with⟨rD,H⟩| ⟨rD,H⟩
    ·obtain rfl:=oi H
     exact qr [.b 2 c1,.b 9 c9,.b 17 qf,.b 22 rD] <| qt <| ⟨.inl rfl,cb (.bool true) h (b9 (au))⟩
    ·obtain rfl:=oi H
     exact qr [.b 2 c1,.b 9 c9,.b 17 qf,.b 22 rD] <| qt <| ⟨.inl rfl,cb (.bool (c0==(95:Int))) h (b9 (au))⟩
   ·obtain rfl:=oi H
    exact qr [.b 2 c1,.b 9 c9,.b 17 qf] <| qt <| ⟨.inl rfl,cb (.bool (c0==(95:Int))) h (b9 (au))⟩
end
end Go.Proofs.YtmekcfdllhphlaaDoor
namespace Go.Proofs.YtmekcfdllhphlaaDoor
open Go Go.R
open Go.IntKind (i64 u64 u8 u32)
def zk:cg:=gL [0,2,3,11,15,22] [] [62,54,61,58,42,58,26,61,61] [] []
def cn.l0 (m:Nat)(s0:ByteArray):Nat→Int→Option (Sum Bool (Int))
 | 0,_=>none
 | k+1,i0=>if (decide (i0<(s0.size:Int)))=true then ((bt s0 i0).bind fun v0=>(eX.f m v0).bind fun x0=>if (!x0)=true then (some (.inl false)) else (cn.l0 m s0 k (i64.wrap (i0+(1:Int))))) else (some (.inr i0))
def cn.f (m:Nat)(s0:ByteArray):Option (Bool):=if (decide ((s0.size:Int)<(1:Int)))=true then (some false) else (if (decide ((s0.size:Int) > (16:Int)))=true then (some false) else ((cn.l0 m s0 m (0:Int)).bind fun bj=>match bj with | .inl r0=>some r0 | .inr i1=>some true))
def cn.fin (L:Mem)(r:Bool)(s:St):Prop:=∃av,aH Tryd.prog (s.open zk) Tryd.f86.results.toList=some av∧fX s.h av (.bool r)
def T7 (cf:CallF)(m:Nat):Prop:=∀(s0:ByteArray) (r:Bool),cn.f m s0=some r→∀h xs,eN fi h xs [.str s0]→cf 86 xs h=some (.bool r,h)
section
variable {cf:CallF}{m:Nat}
theorem cn.bI (L:Mem)(s0:ByteArray)  (GU:Ly cf m):bD Tryd.prog cf zk m (sub [1,1,0,1,0,0] (codeOf Tryd.f86)) (fun k (σ:Int)=>cn.l0 m s0 k σ) (fun σ s=>match σ with | i0=>∃h0,s=⟨.str s0 :: .any :: .int .i64 i0::jP [],[],h0⟩∧Has h0 (L)) (fun out e s=>(e = .exit 0∧∃i0,.inr i0=out∧∃kG uM tF h0,s=⟨[kG,.any,uM,.any,tF,.any],[],h0⟩∧Has h0 (L))∨(e = .ret∧∃r,.inl r=out∧cn.fin L r s)):=by
 refine gH (fun _=>rfl) ?_
 rintro k i0 s out ⟨h0,rfl,o0⟩ H
 have H:cn.l0 m s0 (k+1) i0=some out:=H
 refine qq <| qq <| q0 <| qc H (fun c3 H=>?_) (fun c3 H=>?_)
 ·refine qk <| qq <| qb 1 <| qq ?_
  obtain⟨v0,e0,H⟩:=aI H
  obtain⟨x0,e1,H⟩:=aI H
  refine qr [.v 2 (l8 (k:=.i64) U9 e0),.a 3 (GU _ _ e1 h0 _ (fG (ae (aO) (aC))))] <| qc H (fun c4 H=>?_) (fun c4 H=>?_)
  ·exact q1 <| qt <| Ys (⟨rfl,_,oi H,cb (.bool false) h0 (b9 (au))⟩)
  ·exact qk <| q0 <| ⟨i64.wrap (i0+(1:Int)),⟨h0,by kernel_rfl,o0⟩,H⟩
 ·exact qx 0 <| YN (⟨rfl,i0,oi H,.str s0,.int .i64 i0,.bool (decide (i0<(s0.size:Int))),h0,by kernel_rfl,o0⟩)
theorem rY {aU:FuncId→cg}(ha:aU 86=zk)(GU:Ly cf m)(s0:ByteArray)(h:AHeap)(L:Mem)  (o:Has h (L)){out:Bool}(H:cn.f m s0=some out) :
  ∃r h',bc Tryd.prog aU cf m 86 [.str s0] h=some (r,h')∧fX h' r (.bool out):=by
 refine aq (fn:=Tryd.f86) ha Tryd.func86 (by kernel_rfl) (by kernel_rfl) ?_
 refine aG (Q:=fun s=>cn.fin L out s) (fun _ _ h=>h) ?_
 have H:_=some out:=H
 unfold cn.f at H
 show de _ cf zk m _ ⟨.str s0::rz [],[],h⟩ _
 refine q1 <| qq <| qq ?_
 rcases dJ H with⟨c0,H⟩| ⟨c0,H⟩
 ·obtain rfl:=oi H
  exact qr [.b 3 c0] <| xb <| qq <| q0 <| qt <| ⟨.inl rfl,cb (.bool false) h (b9 (au))⟩
 ·refine qr [.b 3 c0] <| qc H (fun c2 H=>?_) (fun c2 H=>?_)
  ·obtain rfl:=oi H
   exact q1 <| qt <| ⟨.inl rfl,cb (.bool false) h (b9 (au))⟩
  ·refine qk <| qq <| qq <| q0 <| qb 0 ?_
   obtain⟨bj,e2,H⟩:=aI H
   refine ql (cn.bI L s0  GU (0:Int) _ _ ⟨h,by kernel_rfl,o⟩ e2) ?_
   rintro e s (⟨rfl,i1,rfl,g0,g1,g2,h1,rfl,o1⟩| ⟨rfl,r0,rfl,nI⟩)
   ·try dsimp only at H
    obtain rfl:=oi H
    exact q1 <| qt <| ⟨.inl rfl,cb (.bool true) h1 (b9 (au))⟩
   ·try dsimp only at H
    obtain rfl:=oi H
    exact⟨.inl rfl,nI⟩
end
end Go.Proofs.YtmekcfdllhphlaaDoor
namespace Go.Proofs.YtmekcfdllhphlaaDoor
open Go Go.R
open Go.IntKind (i64 u64 u8 u32)
def CA:cg:=gL [0,2] [] [2,1] [] []
def dV.f (m:Nat)(s0:ByteArray):Option (Bool):=if (s0.data.toList==(XS #[124]).data.toList)=true then (some true) else (if (s0.data.toList==(XS #[35]).data.toList)=true then (some true) else ((cn.f m s0).bind fun x0=>if x0=true then ((bt s0 (0:Int)).bind fun v0=>if (decide (v0≥(97:Int)))=true then ((bt s0 (0:Int)).bind fun v1=>some (decide (v1≤(122:Int)))) else (some false)) else (some false)))
def dV.fin (L:Mem)(r:Bool)(s:St):Prop:=∃av,aH Tryd.prog (s.open CA) Tryd.f69.results.toList=some av∧fX s.h av (.bool r)
def T8 (cf:CallF)(m:Nat):Prop:=∀(s0:ByteArray) (r:Bool),dV.f m s0=some r→∀h xs,eN fi h xs [.str s0]→cf 69 xs h=some (.bool r,h)
section
variable {cf:CallF}{m:Nat}
theorem pv {aU:FuncId→cg}(ha:aU 69=CA)(Lz:T7 cf m)(s0:ByteArray)(h:AHeap)(L:Mem)  (o:Has h (L)){out:Bool}(H:dV.f m s0=some out) :
  ∃r h',bc Tryd.prog aU cf m 69 [.str s0] h=some (r,h')∧fX h' r (.bool out):=by
 refine aq (fn:=Tryd.f69) ha Tryd.func69 (by kernel_rfl) (by kernel_rfl) ?_
 refine aG (Q:=fun s=>dV.fin L out s) (fun _ _ h=>h) ?_
 have H:_=some out:=H
 unfold dV.f at H
 show de _ cf CA m _ ⟨[.str s0,.any],[],h⟩ _
 refine q1 <| qq ?_
 rcases dJ H with⟨c0,H⟩| ⟨c0,H⟩
 ·obtain rfl:=oi H
  exact qr [.b 2 c0] <| qt <| ⟨.inl rfl,cb (.bool true) h (b9 (au))⟩
 ·rcases dJ H with⟨c1,H⟩| ⟨c1,H⟩
  ·obtain rfl:=oi H
   exact qr [.b 2 c0,.b 6 c1] <| qt <| ⟨.inl rfl,cb (.bool true) h (b9 (au))⟩
  ·obtain⟨x0,e0,H⟩:=aI H
   rcases dJ H with⟨c2,H⟩| ⟨c2,H⟩
   ·obtain⟨v0,e1,H⟩:=aI H
    rcases dJ H with⟨c3,H⟩| ⟨c3,H⟩
    ·obtain⟨v1,e2,H⟩:=aI H
     obtain rfl:=oi H
     exact qr [.b 2 c0,.b 6 c1,.a 8 (Lz _ _ e0 h _ (fG (ae (bY) (aC)))),.b 9 c2,.v 11 (l8 (k:=.i64) U9 e1),.b 14 c3,.v 16 (l8 (k:=.i64) U9 e2)] <| qt <| ⟨.inl rfl,cb (.bool (decide (v1≤(122:Int)))) h (b9 (au))⟩
    ·obtain rfl:=oi H
     exact qr [.b 2 c0,.b 6 c1,.a 8 (Lz _ _ e0 h _ (fG (ae (bY) (aC)))),.b 9 c2,.v 11 (l8 (k:=.i64) U9 e1),.b 14 c3] <| qt <| ⟨.inl rfl,cb (.bool false) h (b9 (au))⟩
   ·obtain rfl:=oi H
    exact qr [.b 2 c0,.b 6 c1,.a 8 (Lz _ _ e0 h _ (fG (ae (bY) (aC)))),.b 9 c2] <| qt <| ⟨.inl rfl,cb (.bool false) h (b9 (au))⟩
end
end Go.Proofs.YtmekcfdllhphlaaDoor
