/- Part of the proof: Q76, PB4, Q75, PB9, PV1, PT13, Q23, Q111, Q86, Q69. -/
import Derived.Test.YtmekcfdllhphlaaDoorK11
set_option linter.unusedVariables false
set_option linter.unusedSimpArgs false
set_option maxRecDepth 100000
open Bool renaming and_eq_true → Xw
open ByteArray renaming mk → XV
open Eq renaming trans → Yp
open Int renaming toNat_natCast → Xy
open List renaming length_append → XB, length_set → XC, getElem?_eq_getElem → XD, mem_singleton → XE, mem_append → XH, length_map → XI, replicate → XK, getElem?_eq_none → XL, getD_eq_getElem?_getD → XM, map_cons → XN, getElem?_append_right → XO, mem_map → XQ, length_cons → XR, all_eq_true → XT, map_append → XW, getElem?_map → XZ, nil_append → X2, drop_zero → X6, mem_cons → X8, mem_append_left → Yb, ext_getElem? → Yh, length_nil → Yk, idxOf_lt_length_of_mem → Ys, take_add_one → Yx, take_length → YA, nodup_append → YF, getElem?_set → YS, getElem_of_mem → Y1
open Nat renaming le_refl → Xv, le_trans → X9, sub_self → Y0
open Option renaming bind_some → Xr, map_some → Xx
open Option.some renaming inj → XP
open Or renaming inr → Yv, inl → YQ
namespace Go.Proofs.YtmekcfdllhphlaaDoor
open Go Go.R
open Go.IntKind (i64 u64 u8 u32)
def mu:cg:=gK [0,2,3,4,5,6,7,8,9,10,11,12,13,14,15,22,27,42,56,67,73,95,109,120,127,148,177] [] [134217726,134217722,134217714,134217666,134217602,134184898,134217602,134217474,134151938,134217474,134086402,134217538,133955394,134217538,134217538,134217474,134217426,133693138,134217426,133168850,134217426,134217426,134216914,132119762,134216914,130022610,134216914,134216666,125829082,134216666,134214618,134214618,134210522,117433306,134210522,134202330,134202330,134185946,100631514,134185946,67077082,134185946,134210522,134216666,134217725] [] [(3,[(5,none,1),(6,none,1)]),(30,[(12,none,1)])]
def ah.l1 (m:Nat)(l0:List ab):Nat→(List Int)→(List Bool)→(List Int)→Bool→Int→Option ((List Int) × (List Bool) × (List Int) × Bool × Int)
 | 0,_,_,_,_,_=>none
 | k+1,cL,dd,cW,kO,i0=>if (decide (i0≥(0:Int)))=true then ((ix dd i0).bind fun v0=>if v0=true then (ah.l1 m l0 k cL dd cW kO (i64.wrap (i0 - (1:Int)))) else ((ix l0 i0).bind fun v1=>(bV.f m v1 dd).bind fun x2=>if (!x2)=true then (ah.l1 m l0 k cL dd cW kO (i64.wrap (i0 - (1:Int)))) else ((b4.f m l0 cW i0 cL).bind fun x3=>(ix cL i0).bind fun v2=>(ix (cL.set i0.toNat x3) i0).bind fun v3=>if (v3==i0)=true then ((app 8 cW ([i0])).bind fun x4=>(ix dd i0).bind fun v4=>ah.l1 m l0 k (cL.set i0.toNat x3) (dd.set i0.toNat true) x4 true (i64.wrap (i0 - (1:Int)))) else ((ix dd i0).bind fun v5=>ah.l1 m l0 k (cL.set i0.toNat x3) (dd.set i0.toNat true) cW true (i64.wrap (i0 - (1:Int))))))) else (some ((cL,dd,cW,kO,i0)))
def ah.l0 (m:Nat)(l0:List ab):Nat→(List Int)→(List Bool)→(List Int)→Bool→Option ((List Int) × (List Bool) × (List Int) × Bool)
 | 0,_,_,_,_=>none
 | k+1,bn,dB,fL,nn=>if nn=true then ((ah.l1 m l0 m bn dB fL false (i64.wrap ((l0.length:Int) - (1:Int)))).bind fun bj=>match bj with | (A6,GM,xL,GN,i1)=>ah.l0 m l0 k A6 GM xL GN) else (some ((bn,dB,fL,nn)))
def ah.l3 (m:Nat)(l0:List ab)(i2:Int)(x5:List Int):Nat→(List Int)→Int→Option ((List Int) × Int)
 | 0,_,_=>none
 | k+1,cQ,k0=>(ix cQ i2).bind fun v8=>if (v8==i2)=true then ((ix x5 k0).bind fun v9=>if (decide (v9<i2))=true then ((ix l0 i2).bind fun v10=>(ix x5 k0).bind fun v11=>(ix l0 v11).bind fun v12=>(eW.f m v10 v12).bind fun x6=>if x6=true then ((ix x5 k0).bind fun Iq=>(ix cQ Iq).bind fun zU=>(ix cQ i2).bind fun mS=>ah.l3 m l0 i2 x5 k (cQ.set i2.toNat zU) (i64.wrap (k0+(1:Int)))) else (ah.l3 m l0 i2 x5 k cQ (i64.wrap (k0+(1:Int))))) else (some ((cQ,k0)))) else (some ((cQ,k0)))
def ah.l2 (m:Nat)(l0:List ab)(dM:List Bool):Nat→(List Int)→(List Int)→Int→Option ((List Int) × (List Int) × Int)
 | 0,_,_,_=>none
 | k+1,er,jl,i2=>if (decide (i2<(l0.length:Int)))=true then ((ix dM i2).bind fun v6=>if v6=true then (ah.l2 m l0 dM k er jl (i64.wrap (i2+(1:Int)))) else ((app 8 jl ([i2])).bind fun x5=>(ix er i2).bind fun v7=>(ah.l3 m l0 i2 x5 m (er.set i2.toNat i2) (0:Int)).bind fun gO=>match gO with | (A7,k1)=>ah.l2 m l0 dM k A7 x5 (i64.wrap (i2+(1:Int))))) else (some ((er,jl,i2)))
def ah.l6 (m:Nat)(l0:List ab)(bC:List Int)(aX:List Int)(j0:Int)(lJ:Int):Nat→(List Int)→Int→Option ((List Int) × Int)
 | 0,_,_=>none
 | k+1,cK,k2=>(ix cK lJ).bind fun TQ=>if (TQ==lJ)=true then (if (decide (k2<j0))=true then ((ix aX lJ).bind fun TR=>(ix bC k2).bind fun v20=>(ix aX v20).bind fun v21=>if (TR==v21)=true then ((ix l0 lJ).bind fun v22=>(ix bC k2).bind fun TS=>(ix l0 TS).bind fun v24=>(bk.f m v22 v24 aX).bind fun x8=>if x8=true then ((ix bC k2).bind fun TT=>(ix cK TT).bind fun Mk=>(ix cK lJ).bind fun VN=>ah.l6 m l0 bC aX j0 lJ k (cK.set lJ.toNat Mk) (i64.wrap (k2+(1:Int)))) else (ah.l6 m l0 bC aX j0 lJ k cK (i64.wrap (k2+(1:Int))))) else (ah.l6 m l0 bC aX j0 lJ k cK (i64.wrap (k2+(1:Int))))) else (some ((cK,k2)))) else (some ((cK,k2)))
def ah.l5 (m:Nat)(l0:List ab)(bC:List Int)(aX:List Int):Nat→Bool→(List Int)→Int→Option (Bool × (List Int) × Int)
 | 0,_,_,_=>none
 | k+1,jr,bP,j0=>if (decide (j0<(bC.length:Int)))=true then ((ix bC j0).bind fun lJ=>(ix bP lJ).bind fun Ml=>(ah.l6 m l0 bC aX j0 lJ m (bP.set lJ.toNat lJ) (0:Int)).bind fun cd=>match cd with | (rm,k3)=>if jr=true then (ah.l5 m l0 bC aX k true rm (i64.wrap (j0+(1:Int)))) else ((ix rm lJ).bind fun v28=>(ix aX lJ).bind fun Rs=>ah.l5 m l0 bC aX k (!(v28==Rs)) rm (i64.wrap (j0+(1:Int))))) else (some ((jr,bP,j0)))
def ah.l4 (m:Nat)(l0:List ab)(bC:List Int):Nat→(List Int)→Bool→Option ((List Int) × Bool)
 | 0,_,_=>none
 | k+1,aX,np=>if np=true then ((app 8 ([]:List Int) aX).bind fun x7=>(ah.l5 m l0 bC aX m false x7 (0:Int)).bind fun tM=>match tM with | (GO,zh,j1)=>ah.l4 m l0 bC k zh GO) else (some ((aX,np)))
def ah.f (m:Nat)(l0:List ab):Option ((List Int)):=(sj 8 (l0.length:Int) (0:Int)).bind fun x0=>(sj 1 (l0.length:Int) false).bind fun x1=>(ah.l0 m l0 m x0 x1 ([]:List Int) true).bind fun bJ=>match bJ with | (ud,dM,IL,Oe)=>(ah.l2 m l0 dM m ud ([]:List Int) (0:Int)).bind fun kH=>match kH with | (uf,bC,i3)=>(ah.l4 m l0 bC m uf true).bind fun gy=>match gy with | (qz,Of)=>some qz
def ah.fin (L:Mem)(r:(List Int))(s:St):Prop:=∃av,aH Tryd.prog (s.open mu) Tryd.f76.results.toList=some av∧fW s.h av (aa.fz r)
def TU (cf:CallF)(m:Nat):Prop:=∀(l0:List ab) (r:(List Int)),ah.f m l0=some r→∀h xs,eN fi h xs [af.fz l0]→cf 76 xs h=some (aa.fz r,h)
section
variable {cf:CallF}{m:Nat}
theorem ah.eQ (L:Mem)(l0:List ab)  (zi:IJ cf m)(zj:IK cf m):bD Tryd.prog cf mu m (sub [1,1,1,1,0,1,0,0,1,0,1,1,0,0] (codeOf Tryd.f76)) (fun k (σ:(List Int) × (List Bool) × (List Int) × Bool × Int)=>ah.l1 m l0 k σ.1 σ.2.1 σ.2.2.1 σ.2.2.2.1 σ.2.2.2.2) (fun σ s=>match σ with | (cL,dd,cW,kO,i0)=>∃il gQ gP h3,s=⟨af.fz l0 :: .any :: .rs gP 0 cL.length 1 :: .rs gQ 0 dd.length 1 :: .rs il 0 cW.length 1 :: .rs ((0)) 0 (([]:List Int).length) 1 :: .bool kO :: .int .i64 i0::KC [],[],h3⟩∧Has h3 ((((0)),.sl (([]:List Int).length) 1 (aa.l ([]:List Int)))::(il,.sl cW.length 1 (aa.l cW))::(gQ,.sl dd.length 1 (bO.l dd))::(gP,.sl cL.length 1 (aa.l cL))::L)) (fun out e s=>(e = .exit 2∧∃cL dd cW kO i0,(cL,dd,cW,kO,i0)=out∧∃qh AY il gQ gP h3,s=⟨af.fz l0 :: .any :: .rs gP 0 cL.length 1 :: .rs gQ 0 dd.length 1 :: .rs il 0 cW.length 1 :: .rs ((0)) 0 (([]:List Int).length) 1 :: .bool kO::qh::pY (AY::uK []),[],h3⟩∧Has h3 ((((0)),.sl (([]:List Int).length) 1 (aa.l ([]:List Int)))::(il,.sl cW.length 1 (aa.l cW))::(gQ,.sl dd.length 1 (bO.l dd))::(gP,.sl cL.length 1 (aa.l cL))::L))):=by
 refine gG (fun _=>rfl) ?_
 rintro k ⟨cL,dd,cW,kO,i0⟩ s out ⟨il,gQ,gP,h3,rfl,o5⟩ H
 have H:ah.l1 m l0 (k+1) cL dd cW kO i0=some out:=H
 refine qq <| qq <| q0 <| qc H (fun c1 H=>?_) (fun c1 H=>?_)
 ·refine qk <| qq <| qb 3 <| qq <| qq ?_
  obtain⟨v0,e4,H⟩:=aI H
  rcases dJ H with⟨c2,H⟩| ⟨c2,H⟩
  ·exact qr [.v 2 (aE (k:=.i64) (E:=bO) (l:=dd) (q:=2) DF o5 rfl e4),.v 3 (be  (E:=bO) (l:=dd) (q:=2) o5 rfl A4 e4 rfl),.b 4 c2] <| xc <| qx 3 <| q0 <| ⟨(cL,dd,cW,kO,i64.wrap (i0 - (1:Int))),⟨il,gQ,gP,h3,by kernel_rfl,o5⟩,H⟩
  ·obtain⟨v1,e5,H⟩:=aI H
   obtain⟨x2,e6,H⟩:=aI H
   refine qr [.v 2 (aE (k:=.i64) (E:=bO) (l:=dd) (q:=2) DF o5 rfl e4),.v 3 (be  (E:=bO) (l:=dd) (q:=2) o5 rfl A4 e4 rfl),.b 4 c2,.v 7 (bw (k:=.i64) (E:=af) (l:=l0) la e5),.v 8 (dw  (E:=af) (l:=l0) h3 tq tt e5),.a 10 (zi _ _ _ e6 h3 _ (hH (ae (dy (ae (aO) (ae (aO) (ae (bY) (ae (db (E:=aa)) (aC)))))) (ae (s9 (E:=bO) (l:=dd) (q:=2) o5 rfl (fun _=>rfl)) (aC)))))] <| qc H (fun c4 H=>?_) (fun c4 H=>?_)
   ·exact qx 3 <| q0 <| ⟨(cL,dd,cW,kO,i64.wrap (i0 - (1:Int))),⟨il,gQ,gP,h3,by kernel_rfl,o5⟩,H⟩
   ·refine qk <| qq ?_
    obtain⟨x3,e7,H⟩:=aI H
    obtain⟨v2,e8,H⟩:=aI H
    obtain⟨h4,e9,o6⟩:=dD (P:=Tryd.prog) (tf:=3) (E:=aa) (l:=cL) (q:=3) (v:=x3) (x:=.int .i64 x3) o5 rfl Z3 e8 rfl rfl
    refine qr [.a 6 (zj _ _ _ _ _ e7 h3 _ (hH (ae (db (E:=af)) (ae (s9 (E:=aa) (l:=cW) (q:=1) o5 rfl (fun _=>rfl)) (ae (aO) (ae (s9 (E:=aa) (l:=cL) (q:=3) o5 rfl (fun _=>rfl)) (aC))))))),.v 7 (aE (k:=.i64) (E:=aa) (l:=cL) (q:=3) dz o5 rfl e8),.w 8 e9] <| qq <| qq ?_
    obtain⟨v3,nJ,H⟩:=aI H
    refine qr [.v 2 (aE (k:=.i64) (E:=aa) (l:=(cL.set i0.toNat x3)) (q:=3) dz o6 rfl nJ),.v 3 (be  (E:=aa) (l:=(cL.set i0.toNat x3)) (q:=3) o6 rfl A3 nJ rfl)] <| qc H (fun c5 H=>?_) (fun c5 H=>?_)
    ·obtain⟨x4,qn,H⟩:=aI H
     obtain⟨kL,h5,rL,o7⟩:=fF (P:=Tryd.prog) (E:=aa) (l:=cW) (q:=1) (t2:=42) (x:=.fz [.int .i64 i0] 1 true) (l2:=([i0])) dz o6 rfl (by kernel_rfl) rfl qn
     refine qr [.a 3 rL] <| qq ?_
     obtain⟨v4,rM,H⟩:=aI H
     obtain⟨h6,tJ,o8⟩:=dD (P:=Tryd.prog) (tf:=4) (E:=bO) (l:=dd) (q:=2) (v:=true) (x:=.bool true) o7 rfl Z4 rM rfl rfl
     exact qr [.v 2 (aE (k:=.i64) (E:=bO) (l:=dd) (q:=2) DF o7 rfl rM),.w 3 tJ] <| q0 <| q0 <| ⟨(cL.set i0.toNat x3,dd.set i0.toNat true,x4,true,i64.wrap (i0 - (1:Int))),⟨kL,gQ,gP,h6,(Yp (b:=⟨af.fz l0 :: .any :: .rs gP 0 cL.length 1 :: .rs gQ 0 dd.length 1 :: .rs kL 0 x4.length 1 :: .rs ((0)) 0 (([]:List Int).length) 1 :: .bool true :: .int .i64 (i64.wrap (i0 - (1:Int)))::KC [],[],h6⟩) (by kernel_rfl) (by simp only [XC])),(by have o:Has h6 ((((0)),.sl (([]:List Int).length) 1 (aa.l ([]:List Int)))::(kL,.sl x4.length 1 (aa.l x4))::(gQ,.sl dd.length 1 (bO.l (dd.set i0.toNat true)))::(gP,.sl cL.length 1 (aa.l (cL.set i0.toNat x3)))::L):=o8; simpa only [XC] using o)⟩,H⟩
    ·refine qk <| qq ?_
     obtain⟨v5,rN,H⟩:=aI H
     obtain⟨h7,vJ,o9⟩:=dD (P:=Tryd.prog) (tf:=4) (E:=bO) (l:=dd) (q:=2) (v:=true) (x:=.bool true) o6 rfl Z4 rN rfl rfl
     exact qr [.v 2 (aE (k:=.i64) (E:=bO) (l:=dd) (q:=2) DF o6 rfl rN),.w 3 vJ] <| q0 <| q0 <| ⟨(cL.set i0.toNat x3,dd.set i0.toNat true,cW,true,i64.wrap (i0 - (1:Int))),⟨il,gQ,gP,h7,(Yp (b:=⟨af.fz l0 :: .any :: .rs gP 0 cL.length 1 :: .rs gQ 0 dd.length 1 :: .rs il 0 cW.length 1 :: .rs ((0)) 0 (([]:List Int).length) 1 :: .bool true :: .int .i64 (i64.wrap (i0 - (1:Int)))::KC [],[],h7⟩) (by kernel_rfl) (by simp only [XC])),(by have o:Has h7 ((((0)),.sl (([]:List Int).length) 1 (aa.l ([]:List Int)))::(il,.sl cW.length 1 (aa.l cW))::(gQ,.sl dd.length 1 (bO.l (dd.set i0.toNat true)))::(gP,.sl cL.length 1 (aa.l (cL.set i0.toNat x3)))::L):=o9; simpa only [XC] using o)⟩,H⟩
 ·exact qx 2 <| ⟨rfl,cL,dd,cW,kO,i0,oi H,.int .i64 i0,.bool (decide (i0≥(0:Int))),il,gQ,gP,h3,by kernel_rfl,o5⟩
theorem ah.bI (L:Mem)(l0:List ab)  (zi:IJ cf m)(zj:IK cf m):bD Tryd.prog cf mu m (sub [1,1,1,1,0,1,0,0] (codeOf Tryd.f76)) (fun k (σ:(List Int) × (List Bool) × (List Int) × Bool)=>ah.l0 m l0 k σ.1 σ.2.1 σ.2.2.1 σ.2.2.2) (fun σ s=>match σ with | (bn,dB,fL,nn)=>∃g0 g1 fS fb cF h2,s=⟨af.fz l0 :: .any :: .rs cF 0 bn.length 1 :: .rs fb 0 dB.length 1 :: .rs fS 0 fL.length 1 :: .rs ((0)) 0 (([]:List Int).length) 1 :: .bool nn::g0::pY (g1::uK []),[],h2⟩∧Has h2 ((((0)),.sl (([]:List Int).length) 1 (aa.l ([]:List Int)))::(fS,.sl fL.length 1 (aa.l fL))::(fb,.sl dB.length 1 (bO.l dB))::(cF,.sl bn.length 1 (aa.l bn))::L)) (fun out e s=>(e = .exit 0∧∃bn dB fL nn,(bn,dB,fL,nn)=out∧∃xp uP qh xj AY fS fb cF h2,s=⟨af.fz l0 :: .any :: .rs cF 0 bn.length 1 :: .rs fb 0 dB.length 1::xp :: .rs ((0)) 0 (([]:List Int).length) 1::uP::qh::Ee (xj::AY::uK []),[],h2⟩∧Has h2 ((((0)),.sl (([]:List Int).length) 1 (aa.l ([]:List Int)))::(fS,.sl fL.length 1 (aa.l fL))::(fb,.sl dB.length 1 (bO.l dB))::(cF,.sl bn.length 1 (aa.l bn))::L))):=by
 refine gG (fun _=>rfl) ?_
 rintro k ⟨bn,dB,fL,nn⟩ s out ⟨g0,g1,fS,fb,cF,h2,rfl,o4⟩ H
 have H:ah.l0 m l0 (k+1) bn dB fL nn=some out:=H
 refine qq <| qq <| q0 <| qc H (fun c0 H=>?_) (fun c0 H=>?_)
 ·refine qk <| qb 1 <| qq <| q0 <| qq <| q0 <| qb 2 ?_
  obtain⟨bj,uS,H⟩:=aI H
  refine ql (ah.eQ L l0  zi zj (bn,dB,fL,false,i64.wrap ((l0.length:Int) - (1:Int))) _ _ ⟨fS,fb,cF,h2,by kernel_rfl,o4⟩ uS) ?_
  rintro e s ⟨rfl,A6,GM,xL,GN,i1,rfl,g2,g3,xT,eK,nM,h8,rfl,tF⟩
  try dsimp only at H
  exact⟨(A6,GM,xL,GN),⟨g2,g3,xT,eK,nM,h8,by kernel_rfl,tF⟩,H⟩
 ·exact qx 0 <| ⟨rfl,bn,dB,fL,nn,oi H,.rs fS 0 fL.length 1,.any,.any,.bool nn,.any,fS,fb,cF,h2,by kernel_rfl,o4⟩
theorem ah.oV (L:Mem)(l0:List ab)(gR:Nat)(dM:List Bool)(gR:Nat)(i2:Int)(x5:List Int)(qA:Nat)  (nl:DZ cf m):bD Tryd.prog cf mu m (sub [1,1,1,1,1,0,1,0,0,1,0,0,1,1,1,1,0,0] (codeOf Tryd.f76)) (fun k (σ:(List Int) × Int)=>ah.l3 m l0 i2 x5 k σ.1 σ.2) (fun σ s=>match σ with | (cQ,k0)=>∃qB h13,s=⟨af.fz l0 :: .any :: .rs qB 0 cQ.length 1 :: .rs gR 0 dM.length 1 :: .any :: .rs qA 0 x5.length 1 :: .any :: .any :: .int .i64 i2 :: .int .i64 k0::Dx [],[],h13⟩∧Has h13 ((qA,.sl x5.length 1 (aa.l x5))::(gR,.sl dM.length 1 (bO.l dM))::(qB,.sl cQ.length 1 (aa.l cQ))::L)) (fun out e s=>(e = .exit 6∧∃cQ k0,(cQ,k0)=out∧∃qd Rt qB h13,s=⟨af.fz l0 :: .any :: .rs qB 0 cQ.length 1 :: .rs gR 0 dM.length 1 :: .any :: .rs qA 0 x5.length 1 :: .any :: .any :: .int .i64 i2::qd::oL (Rt::rB []),[],h13⟩∧Has h13 ((qA,.sl x5.length 1 (aa.l x5))::(gR,.sl dM.length 1 (bO.l dM))::(qB,.sl cQ.length 1 (aa.l cQ))::L))):=by
 refine gG (fun _=>rfl) ?_
 rintro k ⟨cQ,k0⟩ s out ⟨qB,h13,rfl,lG⟩ H
 have H:ah.l3 m l0 i2 x5 (k+1) cQ k0=some out:=H
 refine qq <| qq ?_
 obtain⟨v8,Eh,H⟩:=aI H
 rcases dJ H with⟨c8,H⟩| ⟨c8,H⟩
 ·obtain⟨v9,FO,H⟩:=aI H
  refine qr [.v 2 (aE (k:=.i64) (E:=aa) (l:=cQ) (q:=2) dz lG rfl Eh),.v 3 (be  (E:=aa) (l:=cQ) (q:=2) lG rfl A3 Eh rfl),.b 6 c8,.v 9 (aE (k:=.i64) (E:=aa) (l:=x5) (q:=0) dz lG rfl FO),.v 10 (be  (E:=aa) (l:=x5) (q:=0) lG rfl A3 FO rfl)] <| qc H (fun c9 H=>?_) (fun c9 H=>?_)
  ·refine qk <| qq <| qb 7 <| qq ?_
   obtain⟨v10,FT,H⟩:=aI H
   obtain⟨v11,Hx,H⟩:=aI H
   obtain⟨v12,FQ,H⟩:=aI H
   obtain⟨x6,FR,H⟩:=aI H
   refine qr [.v 2 (bw (k:=.i64) (E:=af) (l:=l0) la FT),.v 3 (dw  (E:=af) (l:=l0) h13 tq tt FT),.v 7 (aE (k:=.i64) (E:=aa) (l:=x5) (q:=0) dz lG rfl Hx),.v 8 (be  (E:=aa) (l:=x5) (q:=0) lG rfl A3 Hx rfl),.v 9 (bw (k:=.i64) (E:=af) (l:=l0) la FQ),.v 10 (dw  (E:=af) (l:=l0) h13 tq tt FQ),.a 11 (nl _ _ _ FR h13 _ (hH (ae (dy (ae (aO) (ae (aO) (ae (bY) (ae (db (E:=aa)) (aC)))))) (ae (dy (ae (aO) (ae (aO) (ae (bY) (ae (db (E:=aa)) (aC)))))) (aC)))))] <| qc H (fun uO H=>?_) (fun uO H=>?_)
   ·obtain⟨Iq,FP,H⟩:=aI H
    obtain⟨zU,Ir,H⟩:=aI H
    obtain⟨mS,Lg,H⟩:=aI H
    obtain⟨h14,Hz,zT⟩:=dD (P:=Tryd.prog) (tf:=3) (E:=aa) (l:=cQ) (q:=2) (v:=zU) (x:=.int .i64 zU) lG rfl Z3 Lg rfl rfl
    exact qr [.v 5 (aE (k:=.i64) (E:=aa) (l:=x5) (q:=0) dz lG rfl FP),.v 6 (be  (E:=aa) (l:=x5) (q:=0) lG rfl A3 FP rfl),.v 7 (aE (k:=.i64) (E:=aa) (l:=cQ) (q:=2) dz lG rfl Ir),.v 8 (be  (E:=aa) (l:=cQ) (q:=2) lG rfl A3 Ir rfl),.v 9 (aE (k:=.i64) (E:=aa) (l:=cQ) (q:=2) dz lG rfl Lg),.w 10 Hz] <| q0 <| ⟨(cQ.set i2.toNat zU,i64.wrap (k0+(1:Int))),⟨qB,h14,(Yp (b:=⟨af.fz l0 :: .any :: .rs qB 0 cQ.length 1 :: .rs gR 0 dM.length 1 :: .any :: .rs qA 0 x5.length 1 :: .any :: .any :: .int .i64 i2 :: .int .i64 (i64.wrap (k0+(1:Int)))::Dx [],[],h14⟩) (by kernel_rfl) (by simp only [XC])),(by have o:Has h14 ((qA,.sl x5.length 1 (aa.l x5))::(gR,.sl dM.length 1 (bO.l dM))::(qB,.sl cQ.length 1 (aa.l (cQ.set i2.toNat zU)))::L):=zT; simpa only [XC] using o)⟩,H⟩
   ·exact qk <| q0 <| ⟨(cQ,i64.wrap (k0+(1:Int))),⟨qB,h13,by kernel_rfl,lG⟩,H⟩
  ·exact qx 6 <| ⟨rfl,cQ,k0,oi H,.int .i64 k0,.bool (decide (v9<i2)),qB,h13,by kernel_rfl,lG⟩
 ·exact qr [.v 2 (aE (k:=.i64) (E:=aa) (l:=cQ) (q:=2) dz lG rfl Eh),.v 3 (be  (E:=aa) (l:=cQ) (q:=2) lG rfl A3 Eh rfl),.b 6 c8] <| DB <| qx 6 <| ⟨rfl,cQ,k0,oi H,.int .i64 k0,.bool false,qB,h13,by kernel_rfl,lG⟩
theorem ah.mc (L:Mem)(l0:List ab)(gR:Nat)(dM:List Bool)(gR:Nat)  (nl:DZ cf m):bD Tryd.prog cf mu m (sub [1,1,1,1,1,0,1,0,0] (codeOf Tryd.f76)) (fun k (σ:(List Int) × (List Int) × Int)=>ah.l2 m l0 dM k σ.1 σ.2.1 σ.2.2) (fun σ s=>match σ with | (er,jl,i2)=>∃lI ik h10,s=⟨af.fz l0 :: .any :: .rs ik 0 er.length 1 :: .rs gR 0 dM.length 1 :: .any :: .rs lI 0 jl.length 1 :: .any :: .any :: .int .i64 i2::KB [],[],h10⟩∧Has h10 ((lI,.sl jl.length 1 (aa.l jl))::(gR,.sl dM.length 1 (bO.l dM))::(ik,.sl er.length 1 (aa.l er))::L)) (fun out e s=>(e = .exit 4∧∃er jl i2,(er,jl,i2)=out∧∃DO rG Ru lI ik h10,s=⟨af.fz l0 :: .any :: .rs ik 0 er.length 1::DO :: .any :: .rs lI 0 jl.length 1 :: .any :: .any::rG::uK (Ru::Ee []),[],h10⟩∧Has h10 ((lI,.sl jl.length 1 (aa.l jl))::(gR,.sl dM.length 1 (bO.l dM))::(ik,.sl er.length 1 (aa.l er))::L))):=by
 refine gG (fun _=>rfl) ?_
 rintro k ⟨er,jl,i2⟩ s out ⟨lI,ik,h10,rfl,lB⟩ H
 have H:ah.l2 m l0 dM (k+1) er jl i2=some out:=H
 refine qq <| qq <| q0 <| qc H (fun c6 H=>?_) (fun c6 H=>?_)
 ·refine qk <| qq <| qb 5 <| qq <| qq ?_
  obtain⟨v6,ux,H⟩:=aI H
  refine qr [.v 2 (aE (k:=.i64) (E:=bO) (l:=dM) (q:=1) DF lB rfl ux),.v 3 (be  (E:=bO) (l:=dM) (q:=1) lB rfl A4 ux rfl)] <| qc H (fun c7 H=>?_) (fun c7 H=>?_)
  ·exact qx 5 <| q0 <| ⟨(er,jl,i64.wrap (i2+(1:Int))),⟨lI,ik,h10,by kernel_rfl,lB⟩,H⟩
  ·refine qk <| qq ?_
   obtain⟨x5,zS,H⟩:=aI H
   obtain⟨qA,h11,B8,uQ⟩:=fF (P:=Tryd.prog) (E:=aa) (l:=jl) (q:=0) (t2:=42) (x:=.fz [.int .i64 i2] 1 true) (l2:=([i2])) dz lB rfl (by kernel_rfl) rfl zS
   refine qr [.a 3 B8] <| qq ?_
   obtain⟨v7,Eg,H⟩:=aI H
   obtain⟨h12,FN,yP⟩:=dD (P:=Tryd.prog) (tf:=3) (E:=aa) (l:=er) (q:=2) (v:=i2) (x:=.int .i64 i2) uQ rfl Z3 Eg rfl rfl
   refine qr [.v 3 (aE (k:=.i64) (E:=aa) (l:=er) (q:=2) dz uQ rfl Eg),.w 4 FN] <| qq <| q0 <| qb 6 ?_
   obtain⟨gO,Me,H⟩:=aI H
   refine ql (ah.oV L l0 gR dM gR i2 x5 qA  nl (er.set i2.toNat i2,(0:Int)) _ _ ⟨ik,h12,(Yp (b:=⟨af.fz l0 :: .any :: .rs ik 0 er.length 1 :: .rs gR 0 dM.length 1 :: .any :: .rs qA 0 x5.length 1 :: .any :: .any :: .int .i64 i2 :: .int .i64 (0:Int)::Dx [],[],h12⟩) (by kernel_rfl) (by simp only [XC])),(by have o:Has h12 ((qA,.sl x5.length 1 (aa.l x5))::(gR,.sl dM.length 1 (bO.l dM))::(ik,.sl er.length 1 (aa.l (er.set i2.toNat i2)))::L):=yP; simpa only [XC] using o)⟩ Me) ?_
   rintro e s ⟨rfl,A7,k1,rfl,g9,g10,Ly,h15,rfl,DP⟩
   try dsimp only at H
   exact q0 <| ⟨(A7,x5,i64.wrap (i2+(1:Int))),⟨qA,Ly,h15,by kernel_rfl,DP⟩,H⟩
 ·exact qx 4 <| ⟨rfl,er,jl,i2,oi H,.rs gR 0 dM.length 1,.int .i64 i2,.bool (decide (i2<(l0.length:Int))),lI,ik,h10,by kernel_rfl,lB⟩
theorem ah.GP (L:Mem)(l0:List ab)(gX:Nat)(bC:List Int)(gX:Nat)(iG:Nat)(aX:List Int)(iG:Nat)(jr:Bool)(j0:Int)(lJ:Int)  (mr:AZ cf m):bD Tryd.prog cf mu m (sub [1,1,1,1,1,1,0,1,0,0,1,0,1,1,1,0,1,0,0,1,0,0,1,1,0,1,0,0] (codeOf Tryd.f76)) (fun k (σ:(List Int) × Int)=>ah.l6 m l0 bC aX j0 lJ k σ.1 σ.2) (fun σ s=>match σ with | (cK,k2)=>∃qC h21,s=⟨af.fz l0 :: .any :: .rs iG 0 aX.length 1 :: .any :: .any :: .rs gX 0 bC.length 1::q9 (.bool jr :: .rs qC 0 cK.length 1 :: .int .i64 j0 :: .int .i64 lJ :: .int .i64 k2::mK []),[],h21⟩∧Has h21 ((qC,.sl cK.length 1 (aa.l cK))::(gX,.sl bC.length 1 (aa.l bC))::(iG,.sl aX.length 1 (aa.l aX))::L)) (fun out e s=>(e = .exit 12∧∃cK k2,(cK,k2)=out∧∃tH Og qC h21,s=⟨af.fz l0 :: .any :: .rs iG 0 aX.length 1 :: .any :: .any :: .rs gX 0 bC.length 1::q9 (.bool jr :: .rs qC 0 cK.length 1 :: .int .i64 j0 :: .int .i64 lJ::tH::uK [Og,.any]),[],h21⟩∧Has h21 ((qC,.sl cK.length 1 (aa.l cK))::(gX,.sl bC.length 1 (aa.l bC))::(iG,.sl aX.length 1 (aa.l aX))::L))):=by
 refine gG (fun _=>rfl) ?_
 rintro k ⟨cK,k2⟩ s out ⟨qC,h21,rfl,mP⟩ H
 have H:ah.l6 m l0 bC aX j0 lJ (k+1) cK k2=some out:=H
 refine qq <| qq ?_
 obtain⟨TQ,Iu,H⟩:=aI H
 rcases dJ H with⟨rF,H⟩| ⟨rF,H⟩
 ·refine qr [.v 2 (aE (k:=.i64) (E:=aa) (l:=cK) (q:=0) dz mP rfl Iu),.v 3 (be  (E:=aa) (l:=cK) (q:=0) mP rfl A3 Iu rfl),.b 6 rF] <| qc H (fun B4 H=>?_) (fun B4 H=>?_)
  ·refine qk <| qq <| qb 13 <| qq ?_
   obtain⟨TR,Jr,H⟩:=aI H
   obtain⟨v20,Js,H⟩:=aI H
   obtain⟨v21,Mh,H⟩:=aI H
   rcases dJ H with⟨Ef,H⟩| ⟨Ef,H⟩
   ·obtain⟨v22,TV,H⟩:=aI H
    obtain⟨TS,TW,H⟩:=aI H
    obtain⟨v24,TX,H⟩:=aI H
    obtain⟨x8,VO,H⟩:=aI H
    refine qr [.v 2 (aE (k:=.i64) (E:=aa) (l:=aX) (q:=2) dz mP rfl Jr),.v 3 (be  (E:=aa) (l:=aX) (q:=2) mP rfl A3 Jr rfl),.v 7 (aE (k:=.i64) (E:=aa) (l:=bC) (q:=1) dz mP rfl Js),.v 8 (be  (E:=aa) (l:=bC) (q:=1) mP rfl A3 Js rfl),.v 9 (aE (k:=.i64) (E:=aa) (l:=aX) (q:=2) dz mP rfl Mh),.v 10 (be  (E:=aa) (l:=aX) (q:=2) mP rfl A3 Mh rfl),.b 12 Ef,.v 15 (bw (k:=.i64) (E:=af) (l:=l0) la TV),.v 16 (dw  (E:=af) (l:=l0) h21 tq tt TV),.v 20 (aE (k:=.i64) (E:=aa) (l:=bC) (q:=1) dz mP rfl TW),.v 21 (be  (E:=aa) (l:=bC) (q:=1) mP rfl A3 TW rfl),.v 22 (bw (k:=.i64) (E:=af) (l:=l0) la TX),.v 23 (dw  (E:=af) (l:=l0) h21 tq tt TX),.a 25 (mr _ _ _ _ VO h21 _ (hH (ae (dy (ae (aO) (ae (aO) (ae (bY) (ae (db (E:=aa)) (aC)))))) (ae (dy (ae (aO) (ae (aO) (ae (bY) (ae (db (E:=aa)) (aC)))))) (ae (s9 (E:=aa) (l:=aX) (q:=2) mP rfl (fun _=>rfl)) (aC))))))] ?_
    refine qc H (fun DH H=>?_) (fun DH H=>?_)
    ·obtain⟨TT,TY,H⟩:=aI H
     obtain⟨Mk,TZ,H⟩:=aI H
     obtain⟨VN,T0,H⟩:=aI H
     obtain⟨h22,VP,Jt⟩:=dD (P:=Tryd.prog) (tf:=3) (E:=aa) (l:=cK) (q:=0) (v:=Mk) (x:=.int .i64 Mk) mP rfl Z3 T0 rfl rfl
     exact qr [.v 5 (aE (k:=.i64) (E:=aa) (l:=bC) (q:=1) dz mP rfl TY),.v 6 (be  (E:=aa) (l:=bC) (q:=1) mP rfl A3 TY rfl),.v 7 (aE (k:=.i64) (E:=aa) (l:=cK) (q:=0) dz mP rfl TZ),.v 8 (be  (E:=aa) (l:=cK) (q:=0) mP rfl A3 TZ rfl),.v 9 (aE (k:=.i64) (E:=aa) (l:=cK) (q:=0) dz mP rfl T0),.w 10 VP] <| q0 <| ⟨(cK.set lJ.toNat Mk,i64.wrap (k2+(1:Int))),⟨qC,h22,(Yp (b:=⟨af.fz l0 :: .any :: .rs iG 0 aX.length 1 :: .any :: .any :: .rs gX 0 bC.length 1::q9 (.bool jr :: .rs qC 0 cK.length 1 :: .int .i64 j0 :: .int .i64 lJ :: .int .i64 (i64.wrap (k2+(1:Int)))::mK []),[],h22⟩) (by kernel_rfl) (by simp only [XC])),(by have o:Has h22 ((qC,.sl cK.length 1 (aa.l (cK.set lJ.toNat Mk)))::(gX,.sl bC.length 1 (aa.l bC))::(iG,.sl aX.length 1 (aa.l aX))::L):=Jt; simpa only [XC] using o)⟩,H⟩
    ·exact qk <| q0 <| ⟨(cK,i64.wrap (k2+(1:Int))),⟨qC,h21,by kernel_rfl,mP⟩,H⟩
   ·exact qr [.v 2 (aE (k:=.i64) (E:=aa) (l:=aX) (q:=2) dz mP rfl Jr),.v 3 (be  (E:=aa) (l:=aX) (q:=2) mP rfl A3 Jr rfl),.v 7 (aE (k:=.i64) (E:=aa) (l:=bC) (q:=1) dz mP rfl Js),.v 8 (be  (E:=aa) (l:=bC) (q:=1) mP rfl A3 Js rfl),.v 9 (aE (k:=.i64) (E:=aa) (l:=aX) (q:=2) dz mP rfl Mh),.v 10 (be  (E:=aa) (l:=aX) (q:=2) mP rfl A3 Mh rfl),.b 12 Ef] <| DB <| qk <| q0 <| ⟨(cK,i64.wrap (k2+(1:Int))),⟨qC,h21,by kernel_rfl,mP⟩,H⟩
  ·exact qx 12 <| ⟨rfl,cK,k2,oi H,.int .i64 k2,.bool (decide (k2<j0)),qC,h21,by kernel_rfl,mP⟩
 ·exact qr [.v 2 (aE (k:=.i64) (E:=aa) (l:=cK) (q:=0) dz mP rfl Iu),.v 3 (be  (E:=aa) (l:=cK) (q:=0) mP rfl A3 Iu rfl),.b 6 rF] <| DB <| qx 12 <| ⟨rfl,cK,k2,oi H,.int .i64 k2,.bool false,qC,h21,by kernel_rfl,mP⟩
theorem ah.GQ (L:Mem)(l0:List ab)(gX:Nat)(bC:List Int)(gX:Nat)(iG:Nat)(aX:List Int)(iG:Nat)  (mr:AZ cf m):bD Tryd.prog cf mu m (sub [1,1,1,1,1,1,0,1,0,0,1,0,1,1,1,0,1,0,0] (codeOf Tryd.f76)) (fun k (σ:Bool × (List Int) × Int)=>ah.l5 m l0 bC aX k σ.1 σ.2.1 σ.2.2) (fun σ s=>match σ with | (jr,bP,j0)=>∃uV h19,s=⟨af.fz l0 :: .any :: .rs iG 0 aX.length 1 :: .any :: .any :: .rs gX 0 bC.length 1::q9 (.bool jr :: .rs uV 0 bP.length 1 :: .int .i64 j0::rC []),[],h19⟩∧Has h19 ((uV,.sl bP.length 1 (aa.l bP))::(gX,.sl bC.length 1 (aa.l bC))::(iG,.sl aX.length 1 (aa.l aX))::L)) (fun out e s=>(e = .exit 10∧∃jr bP j0,(jr,bP,j0)=out∧∃uN qe Oh uV h19,s=⟨af.fz l0 :: .any::uN :: .any :: .any :: .rs gX 0 bC.length 1::q9 (.bool jr :: .rs uV 0 bP.length 1::qe::oL [Oh,.any,.any]),[],h19⟩∧Has h19 ((uV,.sl bP.length 1 (aa.l bP))::(gX,.sl bC.length 1 (aa.l bC))::(iG,.sl aX.length 1 (aa.l aX))::L))):=by
 refine gG (fun _=>rfl) ?_
 rintro k ⟨jr,bP,j0⟩ s out ⟨uV,h19,rfl,It⟩ H
 have H:ah.l5 m l0 bC aX (k+1) jr bP j0=some out:=H
 refine qq <| qq <| q0 <| qc H (fun qg H=>?_) (fun qg H=>?_)
 ·refine qk <| qq <| qb 11 <| qq ?_
  obtain⟨lJ,Li,H⟩:=aI H
  refine qr [.v 2 (aE (k:=.i64) (E:=aa) (l:=bC) (q:=1) dz It rfl Li),.v 3 (be  (E:=aa) (l:=bC) (q:=1) It rfl A3 Li rfl)] <| qq ?_
  obtain⟨Ml,Mg,H⟩:=aI H
  obtain⟨h20,NV,NW⟩:=dD (P:=Tryd.prog) (tf:=3) (E:=aa) (l:=bP) (q:=0) (v:=lJ) (x:=.int .i64 lJ) It rfl Z3 Mg rfl rfl
  refine qr [.v 3 (aE (k:=.i64) (E:=aa) (l:=bP) (q:=0) dz It rfl Mg),.w 4 NV] <| qq <| qq <| q0 <| qb 12 ?_
  obtain⟨cd,VQ,H⟩:=aI H
  refine ql (ah.GP L l0 gX bC gX iG aX iG jr j0 lJ  mr (bP.set lJ.toNat lJ,(0:Int)) _ _ ⟨uV,h20,(Yp (b:=⟨af.fz l0 :: .any :: .rs iG 0 aX.length 1 :: .any :: .any :: .rs gX 0 bC.length 1::q9 (.bool jr :: .rs uV 0 bP.length 1 :: .int .i64 j0 :: .int .i64 lJ :: .int .i64 (0:Int)::mK []),[],h20⟩) (by kernel_rfl) (by simp only [XC])),(by have o:Has h20 ((uV,.sl bP.length 1 (aa.l (bP.set lJ.toNat lJ)))::(gX,.sl bC.length 1 (aa.l bC))::(iG,.sl aX.length 1 (aa.l aX))::L):=NW; simpa only [XC] using o)⟩ VQ) ?_
  rintro e s ⟨rfl,rm,k3,rfl,g14,g15,Oi,h23,rfl,HA⟩
  try dsimp only at H
  rcases dJ H with⟨JC,H⟩| ⟨JC,H⟩
  ·exact qr [.b 1 JC] <| q0 <| ⟨(true,rm,i64.wrap (j0+(1:Int))),⟨Oi,h23,by kernel_rfl,HA⟩,H⟩
  ·obtain⟨v28,T1,H⟩:=aI H
   obtain⟨Rs,T2,H⟩:=aI H
   exact qr [.b 1 JC,.v 4 (aE (k:=.i64) (E:=aa) (l:=rm) (q:=0) dz HA rfl T1),.v 5 (be  (E:=aa) (l:=rm) (q:=0) HA rfl A3 T1 rfl),.v 8 (aE (k:=.i64) (E:=aa) (l:=aX) (q:=2) dz HA rfl T2),.v 9 (be  (E:=aa) (l:=aX) (q:=2) HA rfl A3 T2 rfl)] <| q0 <| ⟨(!(v28==Rs),rm,i64.wrap (j0+(1:Int))),⟨Oi,h23,by kernel_rfl,HA⟩,H⟩
 ·exact qx 10 <| ⟨rfl,jr,bP,j0,oi H,.rs iG 0 aX.length 1,.int .i64 j0,.bool (decide (j0<(bC.length:Int))),uV,h19,by kernel_rfl,It⟩
theorem ah.oW (L:Mem)(l0:List ab)(gX:Nat)(bC:List Int)(gX:Nat)  (mr:AZ cf m):bD Tryd.prog cf mu m (sub [1,1,1,1,1,1,0,1,0,0] (codeOf Tryd.f76)) (fun k (σ:(List Int) × Bool)=>ah.l4 m l0 bC k σ.1 σ.2) (fun σ s=>match σ with | (aX,np)=>∃iG h17,s=⟨af.fz l0 :: .any :: .rs iG 0 aX.length 1 :: .any :: .any :: .rs gX 0 bC.length 1::q9 (.bool np::Fp []),[],h17⟩∧Has h17 ((gX,.sl bC.length 1 (aa.l bC))::(iG,.sl aX.length 1 (aa.l aX))::L)) (fun out e s=>(e = .exit 8∧∃aX np,(aX,np)=out∧∃kG DR FC GR iG h17,s=⟨kG :: .any :: .rs iG 0 aX.length 1 :: .any :: .any::DR::q9 (FC::mK (GR::jP [])),[],h17⟩∧Has h17 ((gX,.sl bC.length 1 (aa.l bC))::(iG,.sl aX.length 1 (aa.l aX))::L))):=by
 refine gG (fun _=>rfl) ?_
 rintro k ⟨aX,np⟩ s out ⟨iG,h17,rfl,xo⟩ H
 have H:ah.l4 m l0 bC (k+1) aX np=some out:=H
 refine qq <| qq <| q0 <| qc H (fun nU H=>?_) (fun nU H=>?_)
 ·refine qk <| qb 9 <| qq <| q0 <| qq <| q0 ?_
  have Ga:Has h17 (((((0))),.sl (([]:List Int).length) 1 (aa.l ([]:List Int)))::(gX,.sl bC.length 1 (aa.l bC))::(iG,.sl aX.length 1 (aa.l aX))::L):=Has.nil xo 1
  refine qq ?_
  obtain⟨x7,NT,H⟩:=aI H
  obtain⟨Rv,h18,NU,Ei⟩:=fF (P:=Tryd.prog) (E:=aa) (l:=([]:List Int)) (q:=0) (t2:=42) (x:=.rs iG 0 aX.length 1) (l2:=aX) dz Ga rfl (Dt (E:=aa) (l:=aX) (q:=2) Ga rfl) rfl NT
  refine qr [.a 2 NU] <| qq <| qq <| q0 <| qb 10 ?_
  obtain⟨tM,VS,H⟩:=aI H
  refine ql (ah.GQ L l0 gX bC gX iG aX iG  mr (false,x7,(0:Int)) _ _ ⟨Rv,h18,by kernel_rfl,Ei⟩ VS) ?_
  rintro e s ⟨rfl,GO,zh,j1,rfl,g16,g17,g18,Oj,h24,rfl,NX⟩
  try dsimp only at H
  refine q0 ?_
  have NY:Has h24 ((Oj,.sl zh.length 1 (aa.l zh))::(gX,.sl bC.length 1 (aa.l bC))::L):=Has.del NX 2
  exact⟨(zh,GO),⟨Oj,h24,by kernel_rfl,(Has.front (Has.front NY 0 rfl) 1 rfl)⟩,H⟩
 ·exact qx 8 <| ⟨rfl,aX,np,oi H,af.fz l0,.rs gX 0 bC.length 1,.any,.bool np,iG,h17,by kernel_rfl,xo⟩
theorem nO {aU:FuncId→cg}(ha:aU 76=mu)(zi:IJ cf m)(zj:IK cf m)(nl:DZ cf m)(mr:AZ cf m)(l0:List ab)(h:AHeap)(L:Mem)  (o:Has h (L)){out:(List Int)}(H:ah.f m l0=some out) :
  ∃r h',bc Tryd.prog aU cf m 76 [af.fz l0] h=some (r,h')∧fW h' r (aa.fz out):=by
 refine aq (fn:=Tryd.f76) ha Tryd.func76 (by kernel_rfl) (by kernel_rfl) ?_
 refine aG (Q:=fun s=>ah.fin L out s) (fun _ _ h=>h) ?_
 have H:_=some out:=H
 unfold ah.f at H
 show de _ cf mu m _ ⟨af.fz l0::Nj [],[],h⟩ _
 refine q1 <| qq ?_
 obtain⟨x0,e0,H⟩:=aI H
 obtain⟨aA,h0,e1,o0⟩:=lZ (P:=Tryd.prog) (E:=aa) (z:=(0:Int)) (zv:=.int .i64 (0:Int)) dz o 3 rfl rfl rfl rfl e0
 refine qr [.a 2 e1] <| qq ?_
 obtain⟨x1,e2,H⟩:=aI H
 obtain⟨eS,h1,e3,o1⟩:=lZ (P:=Tryd.prog) (E:=bO) (z:=false) (zv:=.bool false) DF o0 4 rfl rfl rfl rfl e2
 refine qr [.a 2 e3] <| qq <| q0 ?_
 have o2:Has h1 (((0),.sl (([]:List Int).length) 1 (aa.l ([]:List Int)))::(eS,.sl x1.length 1 (bO.l x1))::(aA,.sl x0.length 1 (aa.l x0))::L):=Has.nil o1 1
 have o3:Has h1 ((((0)),.sl (([]:List Int).length) 1 (aa.l ([]:List Int)))::((0),.sl (([]:List Int).length) 1 (aa.l ([]:List Int)))::(eS,.sl x1.length 1 (bO.l x1))::(aA,.sl x0.length 1 (aa.l x0))::L):=Has.nil o2 1
 refine qq <| qq <| q0 <| qb 0 ?_
 obtain⟨bJ,zR,H⟩:=aI H
 refine ql (ah.bI L l0  zi zj (x0,x1,([]:List Int),true) _ _ ⟨.any,.any,(0),eS,aA,h1,by kernel_rfl,o3⟩ zR) ?_
 rintro e s ⟨rfl,ud,dM,IL,Oe,rfl,g4,g5,g6,g7,g8,fJ,gR,jM,h9,rfl,uw⟩
 try dsimp only at H
 refine qq <| qq <| q0 ?_
 have oT:Has h9 ((((0)),.sl (([]:List Int).length) 1 (aa.l ([]:List Int)))::(gR,.sl dM.length 1 (bO.l dM))::(jM,.sl ud.length 1 (aa.l ud))::L):=Has.del uw 1
 refine qb 4 ?_
 obtain⟨kH,Mf,H⟩:=aI H
 refine ql (ah.mc L l0 gR dM gR  nl (ud,([]:List Int),(0:Int)) _ _ ⟨((0)),jM,h9,by kernel_rfl,oT⟩ Mf) ?_
 rintro e s ⟨rfl,uf,bC,i3,rfl,g11,g12,g13,gX,Ol,h16,rfl,DQ⟩
 try dsimp only at H
 refine qq <| qq <| q0 ?_
 have Lh:Has h16 ((gX,.sl bC.length 1 (aa.l bC))::(Ol,.sl uf.length 1 (aa.l uf))::L):=Has.del DQ 1
 refine qb 8 ?_
 obtain⟨gy,VT,H⟩:=aI H
 refine ql (ah.oW L l0 gX bC gX  mr (uf,true) _ _ ⟨Ol,h16,by kernel_rfl,Lh⟩ VT) ?_
 rintro e s ⟨rfl,qz,Of,rfl,g19,g20,g21,g22,Om,h25,rfl,O5⟩
 try dsimp only at H
 refine q1 ?_
 have QP:Has h25 ((Om,.sl qz.length 1 (aa.l qz))::L):=Has.del O5 0
 obtain rfl:=oi H
 exact qt <| ⟨.inl rfl,cb (.rs Om 0 qz.length 1) h25 (b9 (vu (E:=aa) (l:=qz) (q:=0) QP rfl (fun _=>rfl)))⟩
end
end Go.Proofs.YtmekcfdllhphlaaDoor
namespace Go.Proofs.YtmekcfdllhphlaaDoor
open Go Go.R
open Go.IntKind (i64 u64 u8 u32)
def gb (l:List Bool)(k:Nat):Bool:=l.getD k false
theorem Cz {l:List Bool}{k:Nat}(h:k<l.length):l[k]? = some (gb l k):=by
 unfold gb; rw [XM,XD h]; rfl
theorem CA {l:List Bool}{i:Int}(h0:0≤i)(h:i.toNat<l.length):ix l i=some (gb l i.toNat):=by
 unfold ix; rw [if_pos h0,Cz h]
theorem A8 {l:List Bool}{i k:Nat}{x:Bool}(hi:i<l.length):gb (l.set i x) k=if k=i then x else gb l k:=by
 unfold gb
 simp only [XM,YS]
 by_cases h:i=k
 ·subst h; simp [hi]
 ·rw [if_neg h,if_neg (by omega)]
def ar (l:List ab)(i k:Nat):Nat:=(gt (nd l i).args k).toNat
def na (l:List ab)(i:Nat):Nat:=(nd l i).args.length
theorem j9 {l:List ab}(ok:kM l){i k:Nat}(hi:i<l.length)(hk:k<na l i):ar l i k<l.length∧gt (nd l i).args k=(ar l i k:Int):=by
 obtain⟨h0,h1⟩:=(y4 ok hi).2 _ (aJ (l:=(nd l i).args) (k:=k) hk)
 unfold ar; omega
theorem CB {l:List ab}(ok:kM l){i:Nat}(hi:i<l.length):na l i≤8:=(y4 ok hi).1
theorem ug {m:Nat}(a b:ab):∃x,eW.f m a b=some x∧(x=true↔Alike a b):=by
 unfold eW.f
 by_cases h1:a.kind=b.kind
 ·rw [if_pos (by simpa using h1)]
  by_cases h2:a.int=b.int
  ·rw [if_pos (by simpa using h2)]
   by_cases h3:a.label=b.label
   ·rw [if_pos (by rw [h3]; simp)]
    refine⟨_,rfl,⟨fun h=>⟨h1,h2,h3,by have:=beq_iff_eq.1 h; omega⟩,fun h=>by have:=h.len; rw [beq_iff_eq]; omega⟩⟩
   ·rw [if_neg (fun h=>h3 (AT (by simpa using h)))]
    exact⟨_,rfl,⟨fun h=>(by cases h),fun h=>absurd h.label h3⟩⟩
  ·rw [if_neg (by simpa using h2)]
   exact⟨_,rfl,⟨fun h=>(by cases h),fun h=>absurd h.int h2⟩⟩
 ·rw [if_neg (by simpa using h1)]
  exact⟨_,rfl,⟨fun h=>(by cases h),fun h=>absurd h.kind h1⟩⟩
def SA (l:List ab)(c:List Int)(i j:Nat):Prop:=∀k,k<na l i→gt c (ar l i k)=gt c (ar l j k)
theorem JD {m:Nat}{l:List ab}{c:List Int}(ok:kM l)(hc:c.length=l.length){i j:Nat}(hi:i<l.length)(hj:j<l.length)(hl:na l i=na l j):∀(f k:Nat),na l i - k<f→k≤na l i→
  ∃o,bk.l0 m (nd l i) (nd l j) c f (k:Int)=some o∧((∃x,o = .inr x)∧(∀q,k≤q→q<na l i→gt c (ar l i q)=gt c (ar l j q))∨o = .inl false∧∃q,q<na l i∧gt c (ar l i q)≠gt c (ar l j q))
 | 0,k,hf,_=>absurd hf (by omega)
 | f+1,k,hf,hk=>by
  have h8:=CB ok hi
  unfold bk.l0
  by_cases h:k<na l i
  ·obtain⟨a1,a2⟩:=j9 ok hi h
   obtain⟨b1,b2⟩:=j9 ok hj (show k<na l j by omega)
   have e1:ix c (gt (nd l i).args k)=some (gt c (ar l i k)):=fU a2 (by omega)
   have e2:ix c (gt (nd l j).args k)=some (gt c (ar l j k)):=fU b2 (by omega)
   rw [if_pos (by simp only [decide_eq_true_eq]; unfold na at h; omega),cj (l:=(nd l i).args) h,Xr,e1,Xr,cj (l:=(nd l j).args) (show k<(nd l j).args.length by unfold na at hl h; omega),Xr,e2,Xr]
   by_cases e:gt c (ar l i k)=gt c (ar l j k)
   ·obtain⟨o,k1,k2⟩:=JD (m:=m) ok hc hi hj hl f (k+1) (by omega) (by omega)
    rw [if_neg (by simp [e]),aD (by omega) (by omega),show (k:Int)+1=((k+1:Nat):Int) by omega,k1]
    refine⟨o,rfl,k2.imp (fun ⟨x,y⟩=>⟨x,fun q q1 q2=>?_⟩) id⟩
    by_cases hq:q=k
    ·subst hq; exact e
    ·exact y q (by omega) q2
   ·rw [if_pos (by simpa using e)]
    exact⟨_,rfl,.inr ⟨rfl,k,h,e⟩⟩
  ·refine⟨_,by rw [if_neg (by simp only [decide_eq_true_eq]; unfold na at h; omega)],.inl ⟨⟨_,rfl⟩,fun q q1 q2=>absurd q2 (by omega)⟩⟩
theorem CC {m:Nat}(hm:2 ^ 30≤m){l:List ab}{c:List Int}(ok:kM l)(hc:c.length=l.length){i j:Nat}(hi:i<l.length)(hj:j<l.length)(hl:na l i=na l j):∃x,bk.f m (nd l i) (nd l j) c=some x∧(x=true↔SA l c i j):=by
 have ni:(2:Nat) ^ 30=1073741824:=by decide
 have h8:=CB ok hi
 obtain⟨o,k1,k2⟩:=JD (m:=m) ok hc hi hj hl m 0 (by omega) (by omega)
 have k1:bk.l0 m (nd l i) (nd l j) c m 0=_:=k1
 unfold bk.f
 rw [k1,Xr]
 rcases k2 with⟨⟨x,rfl⟩,k⟩| ⟨rfl,q,q1,q2⟩
 ·exact⟨true,rfl,⟨fun _ k0 hk=>k k0 (by omega) hk,fun _=>rfl⟩⟩
 ·exact⟨false,rfl,⟨fun h=>(by cases h),fun h=>absurd (h q q1) q2⟩⟩
def T3 (l:List ab)(dn:List Bool)(i:Nat):Prop:=∀k,k<na l i→gb dn (ar l i k)=true
theorem GS {m:Nat}{l:List ab}{dn:List Bool}(ok:kM l)(hd:dn.length=l.length){i:Nat}(hi:i<l.length):∀(f k:Nat),na l i - k<f→k≤na l i→
  ∃o,bV.l0 m (nd l i) dn f (k:Int)=some o∧((∃x,o = .inr x)∧(∀q,k≤q→q<na l i→gb dn (ar l i q)=true)∨o = .inl false∧∃q,q<na l i∧gb dn (ar l i q)=false)
 | 0,k,hf,_=>absurd hf (by omega)
 | f+1,k,hf,hk=>by
  have h8:=CB ok hi
  unfold bV.l0
  by_cases h:k<na l i
  ·obtain⟨a1,a2⟩:=j9 ok hi h
   have e1:ix dn (gt (nd l i).args k)=some (gb dn (ar l i k)):=by
    have:=CA (l:=dn) (i:=gt (nd l i).args k) (by omega) (by rw [a2,Xy]; omega)
    rw [this,a2,Xy]
   rw [if_pos (by simp only [decide_eq_true_eq]; unfold na at h; omega),cj (l:=(nd l i).args) h,Xr,e1,Xr]
   cases e:gb dn (ar l i k) with
   | true=>
    obtain⟨o,k1,k2⟩:=GS (m:=m) ok hd hi f (k+1) (by omega) (by omega)
    rw [if_neg (by simp),aD (by omega) (by omega),show (k:Int)+1=((k+1:Nat):Int) by omega,k1]
    refine⟨o,rfl,k2.imp (fun ⟨x,y⟩=>⟨x,fun q q1 q2=>?_⟩) id⟩
    by_cases hq:q=k
    ·subst hq; exact e
    ·exact y q (by omega) q2
   | false=>exact⟨_,rfl,.inr ⟨rfl,k,h,e⟩⟩
  ·refine⟨_,by rw [if_neg (by simp only [decide_eq_true_eq]; unfold na at h; omega)],.inl ⟨⟨_,rfl⟩,fun q q1 q2=>absurd q2 (by omega)⟩⟩
theorem GU {m:Nat}(hm:2 ^ 30≤m){l:List ab}{dn:List Bool}(ok:kM l)(hd:dn.length=l.length){i:Nat}(hi:i<l.length):∃x,bV.f m (nd l i) dn=some x∧(x=true→T3 l dn i)∧(x=false→∃q,q<na l i∧gb dn (ar l i q)=false):=by
 have ni:(2:Nat) ^ 30=1073741824:=by decide
 have h8:=CB ok hi
 obtain⟨o,k1,k2⟩:=GS (m:=m) ok hd hi m 0 (by omega) (by omega)
 have k1:bV.l0 m (nd l i) dn m 0=_:=k1
 unfold bV.f
 rw [k1,Xr]
 rcases k2 with⟨⟨x,rfl⟩,k⟩| ⟨rfl,hq⟩
 ·exact⟨true,rfl,fun _ k0 hk=>k k0 (by omega) hk,fun h=>by cases h⟩
 ·exact⟨false,rfl,fun h=>(by cases h),fun _=>hq⟩
def rn (l:List ab)(c:List Int)(i j:Nat):Prop:=Alike (nd l i) (nd l j)∧SA l c i j
theorem CD {m:Nat}(hm:2 ^ 30≤m){l:List ab}{c fs:List Int}(ok:kM l)(hc:c.length=l.length){i:Nat}(hi:i<l.length)(hf:∀f∈fs,0≤f∧f<l.length)(Kq:fs.length≤8000):∀(f k:Nat),fs.length - k<f→k≤fs.length→
  ∃o,b4.l0 m l fs (i:Int) c f (k:Int)=some o∧((∃x,o = .inr x)∧(∀q,k≤q→q<fs.length→¬rn l c i (gt fs q).toNat)∨∃v,o = .inl v∧v∈fs∧rn l c i v.toNat)
 | 0,k,h,_=>absurd h (by omega)
 | f+1,k,h,hk=>by
  unfold b4.l0
  by_cases HJ:k<fs.length
  ·obtain⟨b0,b1⟩:=hf _ (aJ HJ)
   have On:((gt fs k).toNat:Int)=gt fs k:=by omega
   obtain⟨xa,a1,a2⟩:=ug (m:=m) (nd l (i:Int)) (nd l (gt fs k))
   have ih:=CD hm ok hc hi hf Kq f (k+1) (by omega) (by omega)
   obtain⟨o,k1,k2⟩:=ih
   have next:¬rn l c i (gt fs k).toNat→∃o',(b4.l0 m l fs (i:Int) c f (i64.wrap ((k:Int)+1)))=some o'∧((∃x,o' = .inr x)∧(∀q,k≤q→q<fs.length→¬rn l c i (gt fs q).toNat)∨∃v,o' = .inl v∧v∈fs∧rn l c i v.toNat):=fun hn=>by
    rw [aD (by omega) (by omega),show (k:Int)+1=((k+1:Nat):Int) by omega,k1]
    refine⟨o,rfl,k2.imp (fun ⟨x,y⟩=>⟨x,fun q q1 q2=>?_⟩) id⟩
    by_cases hq:q=k
    ·subst hq; exact hn
    ·exact y q (by omega) q2
   rw [if_pos (by simp only [decide_eq_true_eq]; omega),gW (by omega) (by omega),Xr,cj HJ,Xr,gW b0 b1,Xr,a1,Xr]
   cases xa with
   | false=>
    rw [if_neg (by simp)]
    refine next fun hs=>?_
    have:=a2.2 (by have:=hs.1; rw [On] at this; exact this)
    cases this
   | true=>
    have hA:=a2.1 rfl
    have hl:na l i=na l (gt fs k).toNat:=by unfold na; rw [On]; exact hA.len
    obtain⟨xs,s1,s2⟩:=CC hm ok hc hi (j:=(gt fs k).toNat) (by omega) hl
    rw [On] at s1
    rw [if_pos rfl,Xr,Xr,gW b0 b1,Xr,s1,Xr]
    cases xs with
    | false=>
     rw [if_neg (by simp)]
     refine next fun hs=>?_
     have:=s2.2 hs.2; cases this
    | true=>
     exact⟨_,rfl,.inr ⟨_,rfl,aJ HJ,by rw [On]; exact hA,s2.1 rfl⟩⟩
  ·exact⟨_,by rw [if_neg (by simp only [decide_eq_true_eq]; omega)],.inl ⟨⟨_,rfl⟩,fun q q1 q2=>absurd q2 (by omega)⟩⟩
theorem find_spec {m:Nat}(hm:2 ^ 30≤m){l:List ab}{c fs:List Int}(ok:kM l)(hc:c.length=l.length){i:Nat}(hi:i<l.length)(hf:∀f∈fs,0≤f∧f<l.length)(Kq:fs.length≤8000) :
  ∃v,b4.f m l fs (i:Int) c=some v∧(v=i∧(∀f∈fs,¬rn l c i f.toNat)∨v∈fs∧rn l c i v.toNat):=by
 have ni:(2:Nat) ^ 30=1073741824:=by decide
 obtain⟨o,k1,k2⟩:=CD hm ok hc hi hf Kq m 0 (by omega) (by omega)
 have k1:b4.l0 m l fs (i:Int) c m 0=_:=k1
 unfold b4.f
 rw [k1,Xr]
 rcases k2 with⟨⟨x,rfl⟩,k⟩| ⟨v,rfl,hv,hs⟩
 ·refine⟨_,rfl,.inl ⟨rfl,fun f hf=>?_⟩⟩
  obtain⟨q,hq,e⟩:=eL hf
  rw [←e]; exact k q (by omega) hq
 ·exact⟨v,rfl,.inr ⟨hv,hs⟩⟩
end Go.Proofs.YtmekcfdllhphlaaDoor
namespace Go.Proofs.YtmekcfdllhphlaaDoor
open Go Go.R
open Go.IntKind (i64 u64 u8 u32)
def vT:cg:=gK [0,1,4,5,6,7,8,9,19,34,50] [] [2044,2036,1988,1990,1734,1926,1926,1414,1926,1926,1798,774,1798,1798,2043] [] [(2,[(6,none,1),(7,none,1)])]
def aK.l1 (m:Nat)(l0:List ab)(v0:Int):Nat→(List Int)→Int→Option ((List Int) × Int)
 | 0,_,_=>none
 | k+1,fV,i0=>if (decide (i0≥(0:Int)))=true then ((ix l0 v0).bind fun v5=>(ix v5.args i0).bind fun v6=>(app 8 fV ([v6])).bind fun x3=>aK.l1 m l0 v0 k x3 (i64.wrap (i0 - (1:Int)))) else (some ((fV,i0)))
def aK.l0 (m:Nat)(l0:List ab):Nat→(List Bool)→(List Int)→(List Int)→Option ((List Bool) × (List Int) × (List Int))
 | 0,_,_,_=>none
 | k+1,fc,bj,fe=>if (decide ((fe.length:Int) > (0:Int)))=true then ((ix fe (i64.wrap ((fe.length:Int) - (1:Int)))).bind fun v0=>(pE fe 0 (i64.wrap ((fe.length:Int) - (1:Int)))).bind fun v1=>(ix fc v0).bind fun v2=>if v2=true then (aK.l0 m l0 k fc bj v1) else ((ix fc v0).bind fun v3=>(app 8 bj ([v0])).bind fun x2=>(ix l0 v0).bind fun v4=>(aK.l1 m l0 v0 m v1 (i64.wrap ((v4.args.length:Int) - (1:Int)))).bind fun bJ=>match bJ with | (qD,i1)=>aK.l0 m l0 k (fc.set v0.toNat true) x2 qD)) else (some ((fc,bj,fe)))
def aK.f (m:Nat)(l0:List ab)(gz:Int):Option ((List Int)):=(sj 1 (l0.length:Int) false).bind fun x0=>(app 8 ([]:List Int) ([gz])).bind fun x1=>(aK.l0 m l0 m x0 ([]:List Int) x1).bind fun kH=>match kH with | (Rw,gO,Ba)=>some gO
def aK.fin (L:Mem)(r:(List Int))(s:St):Prop:=∃av,aH Tryd.prog (s.open vT) Tryd.f75.results.toList=some av∧fW s.h av (aa.fz r)
def T4 (cf:CallF)(m:Nat):Prop:=∀(l0:List ab) (gz:Int) (r:(List Int)),aK.f m l0 gz=some r→∀h xs,eN fi h xs [af.fz l0,.int .i64 gz]→cf 75 xs h=some (aa.fz r,h)
section
variable {cf:CallF}{m:Nat}
theorem aK.eQ (L:Mem)(l0:List ab)(cF:Nat)(fc:List Bool)(cF:Nat)(v0:Int)(x2:List Int)(gP:Nat)   : bD Tryd.prog cf vT m (sub [1,1,1,1,0,0,0,1,0,1,1,1,1,1,1,0,0] (codeOf Tryd.f75)) (fun k (σ:(List Int) × Int)=>aK.l1 m l0 v0 k σ.1 σ.2) (fun σ s=>match σ with | (fV,i0)=>∃gQ h5,s=⟨af.fz l0 :: .any :: .any :: .rs cF 0 fc.length 1 :: .rs gP 0 x2.length 1 :: .rs gQ 0 fV.length 1 :: .int .i64 v0 :: .int .i64 i0::jP [],[],h5⟩∧Has h5 ((gQ,.sl fV.length 1 (aa.l fV))::(gP,.sl x2.length 1 (aa.l x2))::(cF,.sl fc.length 1 (bO.l (fc.set v0.toNat true)))::L)) (fun out e s=>(e = .exit 2∧∃fV i0,(fV,i0)=out∧∃qh rG Lz gQ h5,s=⟨[af.fz l0,.any,.any,.rs cF 0 fc.length 1,.rs gP 0 x2.length 1,.rs gQ 0 fV.length 1,qh,rG,.any,.any,Lz],[],h5⟩∧Has h5 ((gQ,.sl fV.length 1 (aa.l fV))::(gP,.sl x2.length 1 (aa.l x2))::(cF,.sl fc.length 1 (bO.l (fc.set v0.toNat true)))::L))):=by
 refine gG (fun _=>rfl) ?_
 rintro k ⟨fV,i0⟩ s out ⟨gQ,h5,rfl,o8⟩ H
 have H:aK.l1 m l0 v0 (k+1) fV i0=some out:=H
 refine qq <| qq <| q0 <| qc H (fun c2 H=>?_) (fun c2 H=>?_)
 ·refine qk <| qq <| qb 3 ?_
  obtain⟨v5,rL,H⟩:=aI H
  obtain⟨v6,rM,H⟩:=aI H
  obtain⟨x3,tJ,H⟩:=aI H
  obtain⟨il,h6,rN,o9⟩:=fF (P:=Tryd.prog) (E:=aa) (l:=fV) (q:=0) (t2:=42) (x:=.fz [.int .i64 v6] 1 true) (l2:=([v6])) dz o8 rfl (by kernel_rfl) rfl tJ
  exact qr [.v 3 (bw (k:=.i64) (E:=af) (l:=l0) la rL),.v 5 (iA  (E:=af) (l:=l0) (off:=3) h5 KL rL rfl),.v 7 (bw (k:=.i64) (E:=aa) (l:=v5.args) dz rM),.v 8 (cY  (E:=aa) (l:=v5.args) h5 A3 rM rfl),.a 10 rN] <| q0 <| ⟨(x3,i64.wrap (i0 - (1:Int))),⟨il,h6,(Yp (b:=⟨af.fz l0 :: .any :: .any :: .rs cF 0 fc.length 1 :: .rs gP 0 x2.length 1 :: .rs il 0 x3.length 1 :: .int .i64 v0 :: .int .i64 (i64.wrap (i0 - (1:Int)))::jP [],[],h6⟩) (by kernel_rfl) (by simp only [XC])),(by have o:Has h6 ((il,.sl x3.length 1 (aa.l x3))::(gP,.sl x2.length 1 (aa.l x2))::(cF,.sl fc.length 1 (bO.l (fc.set v0.toNat true)))::L):=o9; simpa only [XC] using o)⟩,H⟩
 ·exact qx 2 <| ⟨rfl,fV,i0,oi H,.int .i64 v0,.int .i64 i0,.bool (decide (i0≥(0:Int))),gQ,h5,(Yp (b:=⟨[af.fz l0,.any,.any,.rs cF 0 fc.length 1,.rs gP 0 x2.length 1,.rs gQ 0 fV.length 1,.int .i64 v0,.int .i64 i0,.any,.any,.bool (decide (i0≥(0:Int)))],[],h5⟩) (by kernel_rfl) (by simp only [XC])),(by have o:Has h5 ((gQ,.sl fV.length 1 (aa.l fV))::(gP,.sl x2.length 1 (aa.l x2))::(cF,.sl fc.length 1 (bO.l (fc.set v0.toNat true)))::L):=o8; simpa only [XC] using o)⟩
theorem aK.bI (L:Mem)(l0:List ab)   : bD Tryd.prog cf vT m (sub [1,1,1,1,0,0,0] (codeOf Tryd.f75)) (fun k (σ:(List Bool) × (List Int) × (List Int))=>aK.l0 m l0 k σ.1 σ.2.1 σ.2.2) (fun σ s=>match σ with | (fc,bj,fe)=>∃g0 g1 g2 g3 fS fb cF h2,s=⟨[af.fz l0,.any,.any,.rs cF 0 fc.length 1,.rs fb 0 bj.length 1,.rs fS 0 fe.length 1,g0,g1,.any,g2,g3],[],h2⟩∧Has h2 ((fS,.sl fe.length 1 (aa.l fe))::(fb,.sl bj.length 1 (aa.l bj))::(cF,.sl fc.length 1 (bO.l fc))::L)) (fun out e s=>(e = .exit 0∧∃fc bj fe,(fc,bj,fe)=out∧∃kG xp uP qh rG GV FK Lz fS fb cF h2,s=⟨[kG,.any,.any,xp,.rs fb 0 bj.length 1,uP,qh,rG,GV,FK,Lz],[],h2⟩∧Has h2 ((fS,.sl fe.length 1 (aa.l fe))::(fb,.sl bj.length 1 (aa.l bj))::(cF,.sl fc.length 1 (bO.l fc))::L))):=by
 refine gG (fun _=>rfl) ?_
 rintro k ⟨fc,bj,fe⟩ s out ⟨g0,g1,g2,g3,fS,fb,cF,h2,rfl,o4⟩ H
 have H:aK.l0 m l0 (k+1) fc bj fe=some out:=H
 refine qq <| qq <| q0 <| qc H (fun c0 H=>?_) (fun c0 H=>?_)
 ·refine qk <| qb 1 <| qq ?_
  obtain⟨v0,e4,H⟩:=aI H
  refine qr [.v 4 (aE (k:=.i64) (E:=aa) (l:=fe) (q:=0) dz o4 rfl e4),.v 5 (be  (E:=aa) (l:=fe) (q:=0) o4 rfl A3 e4 rfl)] <| qq ?_
  obtain⟨v1,e5,H⟩:=aI H
  obtain⟨Rx,o5⟩:=Kr (P:=Tryd.prog) (k:=.i64) (E:=aa) (q:=0) o4 rfl dz e5
  refine qr [.v 4 Rx] <| qq <| qq ?_
  obtain⟨v2,e6,H⟩:=aI H
  refine qr [.v 2 (aE (k:=.i64) (E:=bO) (l:=fc) (q:=2) DF o5 rfl e6),.v 3 (be  (E:=bO) (l:=fc) (q:=2) o5 rfl A4 e6 rfl)] <| qc H (fun c1 H=>?_) (fun c1 H=>?_)
  ·exact qx 1 <| ⟨(fc,bj,v1),⟨.int .i64 v0,.any,.bool v2,.any,fS,fb,cF,h2,by kernel_rfl,o5⟩,H⟩
  ·refine qk <| qq ?_
   obtain⟨v3,e7,H⟩:=aI H
   obtain⟨h3,e8,o6⟩:=dD (P:=Tryd.prog) (tf:=4) (E:=bO) (l:=fc) (q:=2) (v:=true) (x:=.bool true) o5 rfl Z4 e7 rfl rfl
   refine qr [.v 2 (aE (k:=.i64) (E:=bO) (l:=fc) (q:=2) DF o5 rfl e7),.w 3 e8] <| qq ?_
   obtain⟨x2,e9,H⟩:=aI H
   obtain⟨gP,h4,nJ,o7⟩:=fF (P:=Tryd.prog) (E:=aa) (l:=bj) (q:=1) (t2:=42) (x:=.fz [.int .i64 v0] 1 true) (l2:=([v0])) dz o6 rfl (by kernel_rfl) rfl e9
   refine qr [.a 3 nJ] <| qq ?_
   obtain⟨v4,qn,H⟩:=aI H
   refine qr [.v 2 (bw (k:=.i64) (E:=af) (l:=l0) la qn),.v 4 (iA  (E:=af) (l:=l0) (off:=3) h4 KL qn rfl)] <| qb 2 ?_
   obtain⟨bJ,vJ,H⟩:=aI H
   refine ql (aK.eQ L l0 cF fc cF v0 x2 gP   (v1,i64.wrap ((v4.args.length:Int) - (1:Int))) _ _ ⟨fS,h4,(Yp (b:=⟨af.fz l0 :: .any :: .any :: .rs cF 0 fc.length 1 :: .rs gP 0 x2.length 1 :: .rs fS 0 v1.length 1 :: .int .i64 v0 :: .int .i64 (i64.wrap ((v4.args.length:Int) - (1:Int)))::jP [],[],h4⟩) (by kernel_rfl) (by simp only [XC])),(by have o:Has h4 ((fS,.sl v1.length 1 (aa.l v1))::(gP,.sl x2.length 1 (aa.l x2))::(cF,.sl fc.length 1 (bO.l (fc.set v0.toNat true)))::L):=o7; simpa only [XC] using o)⟩ vJ) ?_
   rintro e s ⟨rfl,qD,i1,rfl,g4,g5,g6,kL,h7,rfl,tF⟩
   try dsimp only at H
   exact⟨(fc.set v0.toNat true,x2,qD),⟨g4,g5,.any,g6,kL,gP,cF,h7,(Yp (b:=⟨[af.fz l0,.any,.any,.rs cF 0 fc.length 1,.rs gP 0 x2.length 1,.rs kL 0 qD.length 1,g4,g5,.any,.any,g6],[],h7⟩) (by kernel_rfl) (by simp only [XC])),(by have o:Has h7 ((kL,.sl qD.length 1 (aa.l qD))::(gP,.sl x2.length 1 (aa.l x2))::(cF,.sl fc.length 1 (bO.l (fc.set v0.toNat true)))::L):=tF; simpa only [XC] using o)⟩,H⟩
 ·exact qx 0 <| ⟨rfl,fc,bj,fe,oi H,af.fz l0,.rs cF 0 fc.length 1,.rs fS 0 fe.length 1,.any,.any,.bool (decide ((fe.length:Int) > (0:Int))),.any,.any,fS,fb,cF,h2,by kernel_rfl,o4⟩
theorem nP {aU:FuncId→cg}(ha:aU 75=vT)  (l0:List ab)(gz:Int)(h:AHeap)(L:Mem)  (o:Has h (L)){out:(List Int)}(H:aK.f m l0 gz=some out) :
  ∃r h',bc Tryd.prog aU cf m 75 [af.fz l0,.int .i64 gz] h=some (r,h')∧fW h' r (aa.fz out):=by
 refine aq (fn:=Tryd.f75) ha Tryd.func75 (by kernel_rfl) (by kernel_rfl) ?_
 refine aG (Q:=fun s=>aK.fin L out s) (fun _ _ h=>h) ?_
 have H:_=some out:=H
 unfold aK.f at H
 show de _ cf vT m _ ⟨af.fz l0 :: .int .i64 gz::BR [],[],h⟩ _
 refine q1 <| qq ?_
 obtain⟨x0,e0,H⟩:=aI H
 obtain⟨aA,h0,e1,o0⟩:=lZ (P:=Tryd.prog) (E:=bO) (z:=false) (zv:=.bool false) DF o 4 rfl rfl rfl rfl e0
 refine qr [.a 2 e1] <| qq <| q0 ?_
 have o1:Has h0 (((0),.sl (([]:List Int).length) 1 (aa.l ([]:List Int)))::(aA,.sl x0.length 1 (bO.l x0))::L):=Has.nil o0 1
 have o2:Has h0 ((((0)),.sl (([]:List Int).length) 1 (aa.l ([]:List Int)))::((0),.sl (([]:List Int).length) 1 (aa.l ([]:List Int)))::(aA,.sl x0.length 1 (bO.l x0))::L):=Has.nil o1 1
 refine qq ?_
 obtain⟨x1,e2,H⟩:=aI H
 obtain⟨eS,h1,e3,o3⟩:=fF (P:=Tryd.prog) (E:=aa) (l:=([]:List Int)) (q:=0) (t2:=42) (x:=.fz [.int .i64 gz] 1 true) (l2:=([gz])) dz o2 rfl (by kernel_rfl) rfl e2
 refine qr [.a 3 e3] <| qq <| qb 0 ?_
 obtain⟨kH,uS,H⟩:=aI H
 refine ql (aK.bI L l0   (x0,([]:List Int),x1) _ _ ⟨.any,.any,.any,.any,eS,(0),aA,h1,by kernel_rfl,o3⟩ uS) ?_
 rintro e s ⟨rfl,Rw,gO,Ba,rfl,g7,g8,g9,g10,g11,g12,g13,g14,xT,eK,nM,h8,rfl,uw⟩
 try dsimp only at H
 refine q1 ?_
 have oT:Has h8 ((xT,.sl Ba.length 1 (aa.l Ba))::(eK,.sl gO.length 1 (aa.l gO))::L):=Has.del uw 2
 have lB:Has h8 ((eK,.sl gO.length 1 (aa.l gO))::L):=Has.del oT 0
 obtain rfl:=oi H
 exact qt <| ⟨.inl rfl,cb (.rs eK 0 gO.length 1) h8 (b9 (vu (E:=aa) (l:=gO) (q:=0) lB rfl (fun _=>rfl)))⟩
end
end Go.Proofs.YtmekcfdllhphlaaDoor
namespace Go.Proofs.YtmekcfdllhphlaaDoor
open Go Go.R
open Go.IntKind (i64 u64 u8 u32)
inductive uh (κ:Int→Int)(A:Int→List Int):List Int→List Int→List Int→Prop
 | nil (o:List Int):uh κ A [] o o
 | skip {v:Int} {st o o':List Int}:κ v∈o.map κ→uh κ A st o o'→uh κ A (v::st) o o'
 | push {v:Int} {st o o':List Int}:κ v∉o.map κ→uh κ A (A v++st) (o++[v]) o'→uh κ A (v::st) o o'
theorem uh.T5 {κ:Int→Int}{A:Int→List Int}{st o o1 o2:List Int}(h:uh κ A st o o1)(k:uh κ A st o o2):o1=o2:=by
 induction h with
 | nil o=>cases k; rfl
 | skip hm _ ih=>
  cases k with
  | skip _ k=>exact ih k
  | push hn _=>exact absurd hm hn
 | push hn _ ih=>
  cases k with
  | skip hm _=>exact absurd hm hn
  | push _ k=>exact ih k
theorem uh.facts {κ:Int→Int}{A:Int→List Int}{n:Nat}{st o o':List Int}(h:uh κ A st o o')(hA:∀v:Int,0≤v→v<n→∀a∈A v,0≤a∧a<n)(hst:∀v∈st,0≤v∧v<n)(ho:∀v∈o,0≤v∧v<n)(AQ:(o.map κ).Nodup) :
  (∃t,o'=o++t)∧(∀v∈o',0≤v∧v<n)∧(o'.map κ).Nodup∧(∀v∈st,κ v∈o'.map κ)∧((∀v∈o,∀a∈A v,κ a∈o.map κ∨a∈st)→∀v∈o',∀a∈A v,κ a∈o'.map κ):=by
 induction h with
 | nil o=>
  refine⟨⟨[],by simp⟩,ho,AQ,?_,?_⟩
  ·intro v hv; cases hv
  ·intro h v hv a ha; exact (h v hv a ha).resolve_right (by simp)
 | @skip v st o o' hm _ ih=>
  obtain⟨⟨t,rfl⟩,a,b,c,d⟩:=ih (fun x hx=>hst x (by simp [hx])) ho AQ
  refine⟨⟨t,rfl⟩,a,b,fun x hx=>?_,fun h=>d fun x hx y hy=>?_⟩
  ·rcases X8.1 hx with rfl | hx
   ·rw [XW]; exact Yb _ hm
   ·exact c x hx
  ·rcases h x hx y hy with h | h
   ·exact .inl h
   ·rcases X8.1 h with rfl | h
    ·exact .inl hm
    ·exact .inr h
 | @push v st o o' hn _ ih=>
  have hv:=hst v (by simp)
  have h1:∀x∈A v++st,0≤x∧x<n:=fun x hx=>by
   rcases XH.1 hx with hx | hx
   ·exact hA v hv.1 hv.2 x hx
   ·exact hst x (by simp [hx])
  have h2:∀x∈o++[v],0≤x∧x<n:=fun x hx=>by
   rcases XH.1 hx with hx | hx
   ·exact ho x hx
   ·rw [XE] at hx; subst hx; exact hv
  have h3:((o++[v]).map κ).Nodup:=by
   rw [XW,YF]
   refine⟨AQ,by simp,fun a ha b hb=>?_⟩
   simp only [XN,List.map_nil,XE] at hb
   subst hb; intro e; subst e; exact hn ha
  obtain⟨⟨t,rfl⟩,a,b,c,d⟩:=ih h1 h2 h3
  refine⟨⟨[v]++t,by simp⟩,a,b,fun x hx=>?_,fun h=>d fun x hx y hy=>?_⟩
  ·rcases X8.1 hx with rfl | hx
   ·simp
   ·exact c x (by simp [hx])
  ·rcases XH.1 hx with hx | hx
   ·rcases h x hx y hy with h | h
    ·exact .inl (by rw [XW]; exact Yb _ h)
    ·rcases X8.1 h with rfl | h
     ·exact .inl (by simp)
     ·exact .inr (by simp [h])
   ·rw [XE] at hx; subst hx
    exact .inr (Yb _ hy)
theorem uh.from {A:Int→List Int}{root:Int}{st o o':List Int}(h:uh id A st o o')(hst:∀v∈st,v=root∨∃q,q<o.length∧v∈A (gt o q))(ho:∀i,i<o.length→gt o i=root∨∃q,q<i∧gt o i∈A (gt o q)) :
  ∀i,i<o'.length→gt o' i=root∨∃q,q<i∧gt o' i∈A (gt o' q):=by
 induction h with
 | nil o=>exact ho
 | skip hm _ ih=>exact ih (fun x hx=>hst x (by simp [hx])) ho
 | @push v st o o' hn _ ih=>
  have gl:∀q,q<o.length→gt (o++[v]) q=gt o q:=fun q hq=>ig hq
  have gv:gt (o++[v]) o.length=v:=by unfold gt; rw [XM,XO (Xv _),Y0]; rfl
  refine ih (fun x hx=>?_) (fun i hi=>?_)
  ·rcases XH.1 hx with hx | hx
   ·exact .inr ⟨o.length,by simp,by rw [gv]; exact hx⟩
   ·rcases hst x (by simp [hx]) with h | ⟨q,q1,q2⟩
    ·exact .inl h
    ·exact .inr ⟨q,by simp; omega,by rw [gl q q1]; exact q2⟩
  ·by_cases h:i<o.length
   ·rw [gl i h]
    rcases ho i h with h1 | ⟨q,q1,q2⟩
    ·exact .inl h1
    ·exact .inr ⟨q,q1,by rw [gl q (by omega)]; exact q2⟩
   ·have e:i=o.length:=by simp at hi; omega
    subst e
    rw [gv]
    rcases hst v (by simp) with h | ⟨q,q1,q2⟩
    ·exact .inl h
    ·exact .inr ⟨q,q1,by rw [gl q q1]; exact q2⟩
theorem zk (cls:List Int)(l:List ab)(k:Nat)(i:Int)(o:List Int):ri cls l (k+1) i o=if dW cls i∈o.map (dW cls) then o else (nd l i).args.foldl (fun o a=>ri cls l k a o) (o++[i]):=rfl
theorem GW {cls:List Int}{l:List ab}(ok:kM l):∀(k:Nat) (i:Int) (o:List Int),0≤i→i<l.length→Vs cls l.length o→Vs cls l.length (ri cls l k i o)∧o.length≤(ri cls l k i o).length
 | 0,i,o,_,_,v=>⟨v,Xv _⟩
 | k+1,i,o,h0,h1,v=>by
  rw [zk]
  split
  ·exact⟨v,Xv _⟩
  ·rename_i h
   have v1:Vs cls l.length (o++[i]):=by
    refine⟨?_,fun x hx=>?_⟩
    ·rw [XW,YF]
     refine⟨v.HB,by simp,fun a ha b hb=>?_⟩
     simp only [XN,List.map_nil,XE] at hb
     subst hb; intro e; subst e; exact h ha
    ·rcases XH.1 hx with hx | hx
     ·exact v.nj x hx
     ·simp only [XE] at hx; subst hx; exact⟨h0,h1⟩
   have fold:∀(zs:List Int) (o:List Int),(∀a∈zs,0≤a∧a<l.length)→Vs cls l.length o→Vs cls l.length (zs.foldl (fun o a=>ri cls l k a o) o)∧o.length≤(zs.foldl (fun o a=>ri cls l k a o) o).length:=by
    intro zs
    induction zs with
    | nil=>intro o _ v; exact⟨v,Xv _⟩
    | cons a zs ih=>
     intro o ha v
     have hr:=ha a (by simp)
     obtain⟨v2,l2⟩:=GW ok k a o hr.1 hr.2 v
     obtain⟨v3,l3⟩:=ih (ri cls l k a o) (fun x hx=>ha x (by simp [hx])) v2
     exact⟨v3,X9 l2 l3⟩
   obtain⟨v2,l2⟩:=fold (nd l i).args (o++[i]) (ok.2 _ (fl h0 h1)).2 v1
   exact⟨v2,by simp at l2; omega⟩
theorem pn {cls:List Int}{l:List ab}(ok:kM l):∀(k:Nat) (i:Int) (o st o':List Int),0≤i→i<l.length→Vs cls l.length o→l.length<k+o.length→
  uh (dW cls) (fun v=>(nd l v).args) st (ri cls l k i o) o'→uh (dW cls) (fun v=>(nd l v).args) (i::st) o o'
 | 0,i,o,st,o',_,_,v,hk,_=>absurd v.rj (by omega)
 | k+1,i,o,st,o',h0,h1,v,hk,h=>by
  rw [zk] at h
  by_cases hm:dW cls i∈o.map (dW cls)
  ·rw [if_pos hm] at h
   exact .skip hm h
  ·rw [if_neg hm] at h
   refine .push hm ?_
   have v1:Vs cls l.length (o++[i]):=by
    refine⟨?_,fun x hx=>?_⟩
    ·rw [XW,YF]
     refine⟨v.HB,by simp,fun a ha b hb=>?_⟩
     simp only [XN,List.map_nil,XE] at hb
     subst hb; intro e; subst e; exact hm ha
    ·rcases XH.1 hx with hx | hx
     ·exact v.nj x hx
     ·simp only [XE] at hx; subst hx; exact⟨h0,h1⟩
   have fold:∀(zs:List Int) (o:List Int),(∀a∈zs,0≤a∧a<l.length)→Vs cls l.length o→l.length<k+o.length→uh (dW cls) (fun v=>(nd l v).args) st (zs.foldl (fun o a=>ri cls l k a o) o) o'→uh (dW cls) (fun v=>(nd l v).args) (zs++st) o o':=by
    intro zs
    induction zs with
    | nil=>intro o _ _ _ h; exact h
    | cons a zs ih=>
     intro o ha v hk h
     have hr:=ha a (by simp)
     obtain⟨v2,l2⟩:=GW ok k a o hr.1 hr.2 v
     exact pn ok k a o (zs++st) o' hr.1 hr.2 v hk (ih _ (fun x hx=>ha x (by simp [hx])) v2 (by omega) h)
   exact fold (nd l i).args (o++[i]) (ok.2 _ (fl h0 h1)).2 v1 (by simp; omega) h
theorem po {od:List Int}{n:Nat}(h:od.Nodup)(hr:∀x∈od,0≤x∧x<n):od.length≤n:=by
 have:=h.length_le_of_subset (l₂:=ints n) (fun x hx=>iE.2 (hr x hx))
 rwa [dG] at this
theorem GX {m:Nat}{l:List ab}(ok:kM l){v:Int}(h0:0≤v)(h1:v<l.length):∀(f i:Nat) (st:List Int),i<f→i≤(nd l v).args.length→st.length+i≤1000000→
  ∃x,aK.l1 m l v f st ((i:Int) - 1)=some (st++((nd l v).args.take i).reverse,x)
 | 0,i,st,hf,_,_=>absurd hf (by omega)
 | f+1,0,st,hf,hi,hs=>by
  unfold aK.l1
  rw [if_neg (by simp)]
  exact⟨_,by simp; rfl⟩
 | f+1,i+1,st,hf,hi,hs=>by
  have h8:=(ok.2 _ (fl h0 h1)).1
  have ei:((i+1:Nat):Int) - 1=(i:Int):=by omega
  have ew:i64.wrap ((i:Int) - 1)=(i:Int) - 1:=aD (by omega) (by omega)
  have ly:app 8 st [gt (nd l v).args i]=some (st++[gt (nd l v).args i]):=by unfold app; rw [if_pos (by simp; omega)]
  obtain⟨x,ih⟩:=GX (m:=m) ok h0 h1 f i (st++[gt (nd l v).args i]) (by omega) (by omega) (by simp; omega)
  refine⟨x,?_⟩
  unfold aK.l1
  rw [ei,if_pos (by simp),gW h0 h1,Xr,cj (by omega),Xr,ly,Xr,ew,ih]
  rw [Yx,bh (by omega)]
  simp
theorem Bb {m:Nat}(hm:2 ^ 30≤m){l:List ab}(ok:kM l):∀(f:Nat) (met:List Bool) (o st:List Int),st.length+9*(l.length - o.length)<f→st.length+9*(l.length - o.length)≤100000→met.length=l.length→(∀i,i<l.length→(gb met i=true↔(i:Int)∈o))→o.Nodup→(∀v∈o,0≤v∧v<l.length)→(∀v∈st,0≤v∧v<l.length)→
  ∃D0 o' ,aK.l0 m l f met o st.reverse=some (D0,o',[])∧uh id (fun v=>(nd l v).args) st o o'
 | 0,met,o,st,hf,_,_,_,_,_,_=>absurd hf (by omega)
 | f+1,met,o,[],hf,hb,MO,Oo,Pe,Pf,La=>by
  unfold aK.l0
  rw [if_neg (by simp)]
  exact⟨met,o,rfl,.nil o⟩
 | f+1,met,o,v::st,hf,hb,MO,Oo,Pe,Pf,La=>by
  have ni:(2:Nat) ^ 30=1073741824:=by decide
  have xu:=po Pe Pf
  obtain⟨v0,v1⟩:=La v (by simp)
  have h8:=(ok.2 _ (fl v0 v1)).1
  have Ry:((v.toNat:Nat):Int)=v:=by omega
  simp only [XR] at hf hb
  have VU:=ok.1
  unfold aK.l0
  have hlen:((v::st).reverse.length:Int)=(st.length:Int)+1:=by simp
  have ew:i64.wrap ((st.length:Int)+1 - 1)=(st.length:Int):=by rw [aD (by omega) (by omega)]; omega
  have e1:ix (v::st).reverse (st.length:Int)=some v:=by
   unfold ix
   rw [if_pos (by omega),Xy,List.reverse_cons,XO (by simp)]
   simp
  have e2:pE (v::st).reverse 0 (st.length:Int)=some st.reverse:=by
   unfold pE
   rw [if_pos ⟨by omega,by omega,by simp; omega⟩,List.reverse_cons]
   simp only [Xy,X6,Int.toNat_zero,Nat.sub_zero]
   rw [List.take_left' (by simp)]
  have e3:ix met v=some (gb met v.toNat):=CA v0 (by omega)
  rw [if_pos (by rw [hlen]; simp only [gt_iff_lt,decide_eq_true_eq]; omega),hlen,ew,e1,Xr,e2,Xr,e3,Xr]
  cases hg:gb met v.toNat with
  | true=>
   have rA:v∈o:=by have:=(Oo v.toNat (by omega)).1 hg; rwa [Ry] at this
   obtain⟨D0,o',k1,k2⟩:=Bb hm ok f met o st (by omega) (by omega) MO Oo Pe Pf (fun x hx=>La x (by simp [hx]))
   rw [if_pos rfl]
   exact⟨D0,o',k1,.skip (by simpa using rA) k2⟩
  | false=>
   have T6:v∉o:=fun h=>by
    have:=(Oo v.toNat (by omega)).2 (by rw [Ry]; exact h)
    rw [hg] at this; cases this
   have T7:(o++[v]).Nodup:=by
    rw [YF]
    refine⟨Pe,by simp,fun a ha b hb=>?_⟩
    rw [XE] at hb
    subst hb; intro e; subst e; exact T6 ha
   have T8:∀x∈o++[v],0≤x∧x<l.length:=fun x hx=>by
    rcases XH.1 hx with hx | hx
    ·exact Pf x hx
    ·rw [XE] at hx; subst hx; exact⟨v0,v1⟩
   have Gm:=po T7 T8
   simp only [XB,XR,Yk] at Gm
   have ly:app 8 o [v]=some (o++[v]):=by unfold app; rw [if_pos (by simp; omega)]
   have VV:i64.wrap (((nd l v).args.length:Int) - 1)=((nd l v).args.length:Int) - 1:=aD (by omega) (by omega)
   obtain⟨x,q1⟩:=GX (m:=m) ok v0 v1 m (nd l v).args.length st.reverse (by omega) (Xv _) (by simp; omega)
   rw [YA] at q1
   have Rz:st.reverse++(nd l v).args.reverse=((nd l v).args++st).reverse:=by simp
   rw [Rz] at q1
   rw [if_neg (by simp),Xr,ly,Xr,gW v0 v1,Xr,VV,q1,Xr]
   dsimp only
   obtain⟨D0,o',k1,k2⟩:=Bb hm ok f (met.set v.toNat true) (o++[v]) ((nd l v).args++st) (by simp; omega) (by simp; omega) (by simpa using MO) (fun i hi=>by
    rw [A8 (by omega),XH,XE]
    by_cases e:i=v.toNat
    ·subst e; simp [Ry]
    ·rw [if_neg e,Oo i hi]
     constructor
     ·exact fun h=>.inl h
     ·rintro (h | h)
      ·exact h
      ·omega) T7 T8 (fun x hx=>by
    rcases XH.1 hx with hx | hx
    ·exact (ok.2 _ (fl v0 v1)).2 x hx
    ·exact La x (by simp [hx]))
   exact⟨D0,o',k1,.push (by simpa using T6) k2⟩
theorem IM {n k:Nat}:gb (XK n false) k=false:=by
 unfold gb; rw [XM,List.getElem?_replicate]; split<;>rfl
theorem pq {m:Nat}(hm:2 ^ 30≤m){l:List ab}(ok:kM l){root:Int}(h0:0≤root)(h1:root<l.length):∃o,aK.f m l root=some o∧uh id (fun v=>(nd l v).args) [root] [] o:=by
 have ni:(2:Nat) ^ 30=1073741824:=by decide
 have VU:=ok.1
 unfold aK.f
 have e1:sj 1 (l.length:Int) false=some (XK l.length false):=by unfold sj; rw [if_pos ⟨by omega,by rw [Xy]; omega⟩,Xy]
 have ly:app 8 ([]:List Int) [root]=some [root]:=by unfold app; rw [if_pos (by simp),X2]
 obtain⟨D0,o',k1,k2⟩:=Bb hm ok m (XK l.length false) [] [root] (by simp; omega) (by simp; omega) (by simp) (fun i hi=>by rw [IM]; simp) (by simp) (fun v hv=>by cases hv) (fun v hv=>by rw [XE] at hv; subst hv; exact⟨h0,h1⟩)
 have k1:aK.l0 m l m (XK l.length false) [] [root]=_:=k1
 rw [e1,Xr,ly,Xr,k1,Xr]
 exact⟨o',rfl,k2⟩
end Go.Proofs.YtmekcfdllhphlaaDoor
namespace Go.Proofs.YtmekcfdllhphlaaDoor
open Go Go.R
open Go.IntKind (i64 u64 u8 u32)
structure D1 (l k:List ab)(R:Int→Int→Prop):Prop where
 nj:∀i j,R i j→(0≤i∧i<l.length)∧0≤j∧j<k.length
 top:∀i j,R i j→Alike (nd l i) (nd k j)
 arg:∀i j,R i j→∀n,n<(nd l i).args.length→R (gt (nd l i).args n) (gt (nd k j).args n)
theorem Min.same {l:List ab}{c:List Int}(M:Min l c){a b:Int}(a0:0≤a)(a1:a<l.length)(b0:0≤b)(b1:b<l.length)(e:dW c a=dW c b) :
  Alike (nd l a) (nd l b)∧∀n,n<(nd l a).args.length→dW c (gt (nd l a).args n)=dW c (gt (nd l b).args n):=by
 have ea:((a.toNat:Nat):Int)=a:=by omega
 have eb:((b.toNat:Nat):Int)=b:=by omega
 have hA:=M.top a.toNat b.toNat (by omega) (by omega) e
 have hg:=M.arg a.toNat b.toNat (by omega) (by omega) e
 rw [ea,eb] at hA hg
 exact⟨hA,hg⟩
theorem D1.swap {l k:List ab}{R:Int→Int→Prop}(S:D1 l k R):D1 k l fun j i=>R i j:=
 ⟨fun i j h=>⟨(S.nj j i h).2,(S.nj j i h).1⟩,fun i j h=>(S.top j i h).symm,fun i j h n hn=>S.arg j i h n (by have:=(S.top j i h).len; omega)⟩
theorem D1.cls {l k:List ab}{R:Int→Int→Prop}(S:D1 l k R){c1 c2:List Int}(M1:Min l c1)(M2:Min k c2){i j i' j':Int}(h:R i j)(h':R i' j')(e:dW c1 i=dW c1 i'):dW c2 j=dW c2 j':=by
 have g:=S.nj _ _ h
 have g':=S.nj _ _ h'
 refine M2.max (fun a b=>∃i i':Int,R i a∧R i' b∧dW c1 i=dW c1 i') ⟨?_,?_,?_⟩ j.toNat j'.toNat ⟨i,i',by rwa [show ((j.toNat:Nat):Int)=j by omega],by rwa [show ((j'.toNat:Nat):Int)=j' by omega],e⟩
 ·rintro a b ⟨i,i',h,h',_⟩
  have:=S.nj _ _ h
  have:=S.nj _ _ h'
  omega
 ·rintro a b ⟨i,i',h,h',e⟩
  have g:=S.nj _ _ h
  have g':=S.nj _ _ h'
  exact ((S.top _ _ h).symm.trans (M1.same g.1.1 g.1.2 g'.1.1 g'.1.2 e).1).trans (S.top _ _ h')
 ·rintro a b ⟨i,i',h,h',e⟩ n hn
  have g:=S.nj _ _ h
  have g':=S.nj _ _ h'
  obtain⟨sA,sg⟩:=M1.same g.1.1 g.1.2 g'.1.1 g'.1.2 e
  have J3:n<(nd l i).args.length:=by have:=(S.top _ _ h).len; omega
  have k1:=S.arg _ _ h n J3
  have k2:=S.arg _ _ h' n (by have:=sA.len; omega)
  have r1:=(S.nj _ _ k1).2
  have r2:=(S.nj _ _ k2).2
  exact⟨_,_,by rwa [show (((gt (nd k a).args n).toNat:Nat):Int)=gt (nd k a).args n by omega],by rwa [show (((gt (nd k b).args n).toNat:Nat):Int)=gt (nd k b).args n by omega],sg n J3⟩
inductive Rl (R:Int→Int→Prop):List Int→List Int→Prop
 | nil:Rl R [] []
 | cons {a b:Int} {xs ys:List Int}:R a b→Rl R xs ys→Rl R (a::xs) (b::ys)
theorem Rl.app {R:Int→Int→Prop}{a b c d:List Int}(h:Rl R a b)(k:Rl R c d):Rl R (a++c) (b++d):=by
 induction h with
 | nil=>exact k
 | cons h _ ih=>exact .cons h ih
theorem Rl.len {R:Int→Int→Prop}{a b:List Int}(h:Rl R a b):a.length=b.length:=by
 induction h with
 | nil=>rfl
 | cons _ _ ih=>simp [ih]
theorem Rl.at {R:Int→Int→Prop}{a b:List Int}(h:Rl R a b):∀n,n<a.length→R (gt a n) (gt b n):=by
 induction h with
 | nil=>intro n hn; exact absurd hn (by simp)
 | cons h _ ih=>
  intro n hn
  cases n with
  | zero=>exact h
  | succ n=>exact ih n (by simpa using hn)
theorem Rl.of {R:Int→Int→Prop}:∀{a b:List Int},a.length=b.length→(∀n,n<a.length→R (gt a n) (gt b n))→Rl R a b
 | [],[],_,_=>.nil
 | [],_::_,h,_=>by simp at h
 | _::_,[],h,_=>by simp at h
 | x::a,y::b,h,k=>.cons (k 0 (by simp)) (Rl.of (by simpa using h) fun n hn=>k (n+1) (by simpa using hn))
section
variable {l k:List ab}{R:Int→Int→Prop}{c1 c2:List Int}
theorem D1.mem (S:D1 l k R)(M1:Min l c1)(M2:Min k c2){v w:Int}(h:R v w){o o2:List Int}(ho:Rl R o o2):dW c1 v∈o.map (dW c1)↔dW c2 w∈o2.map (dW c2):=by
 induction ho with
 | nil=>simp
 | cons h' _ ih=>
  rw [XN,XN,X8,X8,ih]
  have z1:=S.cls M1 M2 h h'
  have z2:=S.swap.cls M2 M1 h h'
  constructor
  ·rintro (e | e)
   ·exact .inl (z1 e)
   ·exact .inr e
  ·rintro (e | e)
   ·exact .inl (z2 e)
   ·exact .inr e
theorem D1.idx (S:D1 l k R)(M1:Min l c1)(M2:Min k c2){v w:Int}(h:R v w){o o2:List Int}(ho:Rl R o o2):idx c1 o v=idx c2 o2 w:=by
 unfold Go.Proofs.YtmekcfdllhphlaaDoor.idx
 congr 1
 induction ho with
 | nil=>rfl
 | @cons a b xs ys h' _ ih=>
  rw [XN,XN,List.idxOf_cons,List.idxOf_cons,ih]
  have h1:=S.cls M1 M2 h' h
  have h2:=S.swap.cls M2 M1 h' h
  by_cases e:dW c1 a=dW c1 v
  ·rw [e,h1 e]; simp
  ·have e2:¬dW c2 b=dW c2 w:=fun z=>e (h2 z)
   rw [show (dW c1 a==dW c1 v)=false from by simpa using e,show (dW c2 b==dW c2 w)=false from by simpa using e2]
theorem D1.pre (S:D1 l k R)(M1:Min l c1)(M2:Min k c2){st o o':List Int}(h:uh (dW c1) (fun v=>(nd l v).args) st o o'):∀{IN o2:List Int},Rl R st IN→Rl R o o2→∃HD,uh (dW c2) (fun v=>(nd k v).args) IN o2 HD∧Rl R o' HD:=by
 induction h with
 | nil o=>intro IN o2 hs ho; cases hs; exact⟨o2,.nil _,ho⟩
 | skip hm _ ih=>
  intro IN o2 hs ho
  cases hs with
  | cons h hs=>
   obtain⟨HD,k1,k2⟩:=ih hs ho
   exact⟨HD,.skip ((S.mem M1 M2 h ho).1 hm) k1,k2⟩
 | push hn _ ih=>
  intro IN o2 hs ho
  cases hs with
  | cons h hs=>
   obtain⟨HD,k1,k2⟩:=ih ((Rl.of (S.top _ _ h).len (S.arg _ _ h)).app hs) (ho.app (.cons h .nil))
   exact⟨HD,.push (fun z=>hn ((S.mem M1 M2 h ho).2 z)) k1,k2⟩
end
theorem IP {c O:List Int}{a b:Int}(h:dW c a=dW c b):idx c O a=idx c O b:=by unfold idx; rw [h]
theorem LA {f:Int→Int}{a b:List Int}{g:Int→Int}(hl:a.length=b.length)(h:∀n,n<a.length→f (gt a n)=g (gt b n)):a.map f=b.map g:=by
 apply Yh fun n=>?_
 simp only [XZ]
 by_cases hn:n<a.length
 ·rw [bh hn,bh (by omega)]; simp only [Xx,h n hn]
 ·rw [XL (by omega),XL (by omega)]; rfl
theorem D2 {m:Nat}(hm:2 ^ 41≤m){t u:ak}(ht:ej t=true)(hu:ej u=true){R:Int→Int→Prop}(S:D1 t.nodes u.nodes R)(hr:R t.root u.root):∃s,cy.f m t=some s∧cy.f m u=some s:=by
 have rE:(2:Nat) ^ 41=2199023255552:=by decide
 obtain⟨Ej,_,r0,r1,_⟩:=iZ ht
 obtain⟨T9,_,q0,q1,_⟩:=iZ hu
 obtain⟨c1,n1,e1,M1,Q1,_⟩:=lk hm ht
 obtain⟨c2,n2,e2,M2,Q2,_⟩:=lk hm hu
 have l1:=Ej.1
 have l2:=T9.1
 have P1:=pn (cls:=c1) Ej m t.root [] [] _ r0 r1 ⟨by simp,fun x hx=>by cases hx⟩ (by simp; omega) (.nil _)
 have P2:=pn (cls:=c2) T9 m u.root [] [] _ q0 q1 ⟨by simp,fun x hx=>by cases hx⟩ (by simp; omega) (.nil _)
 obtain⟨HD,k1,k2⟩:=S.pre M1 M2 P1 (.cons hr .nil) .nil
 have:=k1.T5 P2
 subst this
 generalize Xk:ri c1 t.nodes m t.root []=O1 at *
 generalize Xl:ri c2 u.nodes m u.root []=O2 at *
 have hl:=k2.len
 have w1:=Q1.len
 have w2:=Q2.len
 have hn:n1=n2:=by
  apply Yh fun q=>?_
  by_cases hq:q<O1.length
  ·rw [Q1.new q (by simp) hq,Q2.new q (by simp) (by omega)]
   have h:=k2.at q hq
   have A:=S.top _ _ h
   unfold uT
   rw [A.kind,A.int,A.label,LA A.len fun n hn=>S.idx M1 M2 (S.arg _ _ h n hn) k2]
  ·rw [XL (by omega),XL (by omega)]
 subst hn
 exact⟨_,e1,e2⟩
theorem Bc {n:ab}{a b:Int}{f:Int→Int}(h:j8 n a=true)(hf:∀x∈n.args,0≤f x∧f x<b):j8 ⟨n.kind,n.int,n.label,n.args.map f⟩ b=true:=by
 unfold j8 at h ⊢
 have he:(n.args.map f).isEmpty=n.args.isEmpty:=by cases n.args<;>rfl
 dsimp only
 rw [he,XI]
 have ha:((n.args.map f).all fun a=>decide (0≤a)&&decide (a<b))=true:=by
  rw [XT]
  intro x hx
  obtain⟨y,hy,rfl⟩:=XQ.1 hx
  have:=hf y hy
  simp only [Xw,decide_eq_true_eq]; exact this
 rw [ha]
 split<;>rename_i h0
 ·rw [if_pos h0] at h; exact h
 ·rw [if_neg h0] at h
  split<;>rename_i h1
  ·rw [if_pos h1] at h; exact h
  ·rw [if_neg h1] at h
   split<;>rename_i h2
   ·rw [if_pos h2] at h; exact h
   ·rw [if_neg h2] at h
    split<;>rename_i h3
    ·rw [if_pos h3] at h
     simp only [Xw] at h ⊢
     exact⟨h.1,trivial⟩
    ·rw [if_neg h3] at h
     exact h
theorem D3 {m:Nat}(hm:2 ^ 41≤m){t:ak}(ht:ej t=true):∃s R,cy.f m t=some s∧ej s=true∧s.nodes.length≤t.nodes.length∧D1 t.nodes s.nodes R∧R t.root s.root:=by
 have rE:(2:Nat) ^ 41=2199023255552:=by decide
 obtain⟨ok,_,r0,r1,_⟩:=iZ ht
 obtain⟨c,ns,e,M,Q,hr⟩:=lk hm ht
 have l1:=ok.1
 have fv:=ht
 unfold ej at fv
 simp only [Xw,decide_eq_true_eq] at fv
 generalize hO:ri c t.nodes m t.root []=O at *
 have rj:=Q.vs.rj
 have hlen:=Q.len
 have oP:0<O.length:=by cases O with | nil=>simp at hr | cons _ _=>simp
 have AQ:∀q:Nat,q<O.length→nd ns (q:Int)=uT c t.nodes O (gt O q):=fun q hq=>by
  have:=Q.new q (by simp) hq
  unfold nd
  rw [Xy,XM,this]; rfl
 have Pg:∀{v:Int},dW c v∈O.map (dW c)→0≤idx c O v∧idx c O v<O.length∧dW c (gt O (idx c O v).toNat)=dW c v:=fun {v} hv=>by
  have h1:=Ys hv
  have h2:=List.getElem_idxOf h1
  rw [XI] at h1
  unfold idx
  refine⟨by omega,by omega,?_⟩
  rw [Xy]
  have h3:=XD (l:=O.map (dW c)) (i:=(O.map (dW c)).idxOf (dW c v)) (by rw [XI]; exact h1)
  rw [h2,XZ,bh h1] at h3
  exact XP h3
 refine⟨⟨ns,0⟩,fun i j=>(0≤i∧i<t.nodes.length)∧dW c i∈O.map (dW c)∧j=idx c O i,e,?_,by show ns.length≤_; omega,⟨?_,?_,?_⟩,⟨r0,r1⟩,hr,?_⟩
 ·unfold ej
  simp only [Xw,decide_eq_true_eq]
  refine⟨⟨⟨⟨by omega,by omega⟩,by omega⟩,by omega⟩,?_⟩
  rw [XT]
  intro x hx
  obtain⟨q,hq,e2⟩:=Y1 hx
  have h1:=Q.new q (by simp) (by omega)
  rw [XD hq,e2] at h1
  have h1:=XP h1
  subst h1
  have vg:=Q.vs.nj _ (aJ (l:=O) (k:=q) (by omega))
  refine Bc (XT.1 fv.2 _ (fl vg.1 vg.2)) fun a ha=>?_
  have:=Pg (Q.arg q (by simp) (by omega) a ha)
  omega
 ·rintro i j ⟨h1,h2,rfl⟩
  have:=Pg h2
  exact⟨h1,by show 0≤_∧_<(ns.length:Int); omega⟩
 ·rintro i j ⟨h1,h2,rfl⟩
  obtain⟨a,b,d⟩:=Pg h2
  have vg:=Q.vs.nj _ (aJ (l:=O) (k:=(idx c O i).toNat) (by omega))
  have hx:=AQ (idx c O i).toNat (by omega)
  rw [show (((idx c O i).toNat:Nat):Int)=idx c O i by omega] at hx
  rw [hx]
  have A:=(M.same h1.1 h1.2 vg.1 vg.2 d.symm).1
  exact⟨A.kind,A.int,A.label,by show _=(List.map _ _).length; rw [XI]; exact A.len⟩
 ·rintro i j ⟨h1,h2,rfl⟩ n hn
  obtain⟨a,b,d⟩:=Pg h2
  have vg:=Q.vs.nj _ (aJ (l:=O) (k:=(idx c O i).toNat) (by omega))
  have hx:=AQ (idx c O i).toNat (by omega)
  rw [show (((idx c O i).toNat:Nat):Int)=idx c O i by omega] at hx
  rw [hx]
  obtain⟨A,hg⟩:=M.same h1.1 h1.2 vg.1 vg.2 d.symm
  have J4:n<(nd t.nodes (gt O (idx c O i).toNat)).args.length:=by have:=A.len; omega
  have hg:=hg n hn
  have hin:=Q.arg (idx c O i).toNat (by simp) (by omega) _ (aJ J4)
  refine⟨(ok.2 _ (fl h1.1 h1.2)).2 _ (aJ hn),by rw [hg]; exact hin,?_⟩
  have e1:gt (uT c t.nodes O (gt O (idx c O i).toNat)).args n=idx c O (gt (nd t.nodes (gt O (idx c O i).toNat)).args n):=by
   have h3:=bh (l:=(uT c t.nodes O (gt O (idx c O i).toNat)).args) (k:=n) (by show n<(List.map _ _).length; rw [XI]; exact J4)
   have h4:(uT c t.nodes O (gt O (idx c O i).toNat)).args[n]? = some (idx c O (gt (nd t.nodes (gt O (idx c O i).toNat)).args n)):=by
    show (List.map _ _)[n]? = _
    rw [XZ,bh J4]; rfl
   rw [h4] at h3; exact (XP h3).symm
  rw [e1]
  exact IP hg.symm
 ·show (0:Int)=idx c O t.root
  have P1:=pn (cls:=c) ok m t.root [] [] _ r0 r1 ⟨by simp,fun x hx=>by cases hx⟩ (by simp; omega) (.nil _)
  rw [hO] at P1
  cases P1 with
  | skip h _=>simp at h
  | push _ k=>
   obtain⟨⟨T,e⟩,_⟩:=k.facts (n:=t.nodes.length) (fun v a b=>(ok.2 _ (fl a b)).2) (fun v hv=>by
    rcases XH.1 hv with hv | hv
    ·exact (ok.2 _ (fl r0 r1)).2 v hv
    ·cases hv) (fun v hv=>by simp at hv; subst hv; exact⟨r0,r1⟩) (by simp)
   rw [e]
   unfold idx
   simp
theorem Bd {m:Nat}(hm:2 ^ 41≤m){t:ak}(ht:ej t=true):∃s,cy.f m t=some s∧ej s=true∧s.nodes.length≤t.nodes.length∧cy.f m s=some s:=by
 obtain⟨s,R,e,v,hl,S,hr⟩:=D3 hm ht
 obtain⟨s',e1,e2⟩:=D2 hm ht v S hr
 rw [e1] at e
 cases e
 exact⟨s,e1,v,hl,e2⟩
end Go.Proofs.YtmekcfdllhphlaaDoor
namespace Go.Proofs.YtmekcfdllhphlaaDoor
open Go Go.R
open Go.IntKind (i64 u64 u8 u32)
theorem ui {b:List Int}{lo hi:Int}(h:0≤lo∧lo≤hi∧hi≤b.length):pE b lo hi=some ((b.drop lo.toNat).take (hi.toNat - lo.toNat)):=by unfold pE; rw [if_pos h]
end Go.Proofs.YtmekcfdllhphlaaDoor
namespace Go.Proofs.YtmekcfdllhphlaaDoor
open Go Go.R
open Go.IntKind (i64 u64 u8 u32)
end Go.Proofs.YtmekcfdllhphlaaDoor
namespace Go.Proofs.YtmekcfdllhphlaaDoor
open Go Go.R
open Go.IntKind (i64 u64 u8 u32)
def xM:cg:=gK [0,2] [] [2,1] [] []
def eX.f (m:Nat)(c0:Int):Option (Bool):=if (decide (c0≥(97:Int)))=true then (if (decide (c0≤(122:Int)))=true then (some true) else (if (decide (c0≥(65:Int)))=true then (if (decide (c0≤(90:Int)))=true then (some true) else (if (decide (c0≥(48:Int)))=true then (if (decide (c0≤(57:Int)))=true then (some true) else (some (c0==(95:Int)))) else (some (c0==(95:Int))))) else (if (decide (c0≥(48:Int)))=true then (if (decide (c0≤(57:Int)))=true then (some true) else (some (c0==(95:Int)))) else (some (c0==(95:Int)))))) else (if (decide (c0≥(65:Int)))=true then (if (decide (c0≤(90:Int)))=true then (some true) else (if (decide (c0≥(48:Int)))=true then (if (decide (c0≤(57:Int)))=true then (some true) else (some (c0==(95:Int)))) else (some (c0==(95:Int))))) else (if (decide (c0≥(48:Int)))=true then (if (decide (c0≤(57:Int)))=true then (some true) else (some (c0==(95:Int)))) else (some (c0==(95:Int)))))
def eX.fin (L:Mem)(r:Bool)(s:St):Prop:=∃av,aH Tryd.prog (s.open xM) Tryd.f111.results.toList=some av∧fW s.h av (.bool r)
def LB (cf:CallF)(m:Nat):Prop:=∀(c0:Int) (r:Bool),eX.f m c0=some r→∀h xs,eN fi h xs [.int .u8 c0]→cf 111 xs h=some (.bool r,h)
section
variable {cf:CallF}{m:Nat}
theorem pt {aU:FuncId→cg}(ha:aU 111=xM)  (c0:Int)(h:AHeap)(L:Mem)  (o:Has h (L)){out:Bool}(H:eX.f m c0=some out) :
  ∃r h',bc Tryd.prog aU cf m 111 [.int .u8 c0] h=some (r,h')∧fW h' r (.bool out):=by
 refine aq (fn:=Tryd.f111) ha Tryd.func111 (by kernel_rfl) (by kernel_rfl) ?_
 refine aG (Q:=fun s=>eX.fin L out s) (fun _ _ h=>h) ?_
 have H:_=some out:=H
 unfold eX.f at H
 show de _ cf xM m _ ⟨[.int .u8 c0,.any],[],h⟩ _
 refine q1 <| qq ?_
 rcases dJ H with⟨c1,H⟩| ⟨c1,H⟩
 ·rcases dJ H with⟨c2,H⟩| ⟨c2,H⟩
  ·obtain rfl:=oi H
   exact qr [.b 2 c1,.b 6 c2] <| qt <| ⟨.inl rfl,cb (.bool true) h (b9 (au))⟩
  ·rcases dJ H with⟨c3,H⟩| ⟨c3,H⟩
   ·rcases dJ H with⟨c4,H⟩| ⟨c4,H⟩
    ·obtain rfl:=oi H
     exact qr [.b 2 c1,.b 6 c2,.b 9 c3,.b 14 c4] <| qt <| ⟨.inl rfl,cb (.bool true) h (b9 (au))⟩
    ·rcases dJ H with⟨c5,H⟩| ⟨c5,H⟩
     ·rcases dJ H with⟨c6,H⟩| ⟨c6,H⟩
      ·obtain rfl:=oi H
       exact qr [.b 2 c1,.b 6 c2,.b 9 c3,.b 14 c4,.b 17 c5,.b 22 c6] <| qt <| ⟨.inl rfl,cb (.bool true) h (b9 (au))⟩
      ·obtain rfl:=oi H
       exact qr [.b 2 c1,.b 6 c2,.b 9 c3,.b 14 c4,.b 17 c5,.b 22 c6] <| qt <| ⟨.inl rfl,cb (.bool (c0==(95:Int))) h (b9 (au))⟩
     ·obtain rfl:=oi H
      exact qr [.b 2 c1,.b 6 c2,.b 9 c3,.b 14 c4,.b 17 c5] <| qt <| ⟨.inl rfl,cb (.bool (c0==(95:Int))) h (b9 (au))⟩
   ·rcases dJ H with⟨c7,H⟩| ⟨c7,H⟩
    ·rcases dJ H with⟨c8,H⟩| ⟨c8,H⟩
     ·obtain rfl:=oi H
      exact qr [.b 2 c1,.b 6 c2,.b 9 c3,.b 17 c7,.b 22 c8] <| qt <| ⟨.inl rfl,cb (.bool true) h (b9 (au))⟩
     ·obtain rfl:=oi H
      exact qr [.b 2 c1,.b 6 c2,.b 9 c3,.b 17 c7,.b 22 c8] <| qt <| ⟨.inl rfl,cb (.bool (c0==(95:Int))) h (b9 (au))⟩
    ·obtain rfl:=oi H
     exact qr [.b 2 c1,.b 6 c2,.b 9 c3,.b 17 c7] <| qt <| ⟨.inl rfl,cb (.bool (c0==(95:Int))) h (b9 (au))⟩
 ·rcases dJ H with⟨c9,H⟩| ⟨c9,H⟩
  ·rcases dJ H with⟨uO,H⟩| ⟨uO,H⟩
   ·obtain rfl:=oi H
    exact qr [.b 2 c1,.b 9 c9,.b 14 uO] <| qt <| ⟨.inl rfl,cb (.bool true) h (b9 (au))⟩
   ·rcases dJ H with⟨nH,H⟩| ⟨nH,H⟩
    ·rcases dJ H with⟨nU,H⟩| ⟨nU,H⟩
     ·obtain rfl:=oi H
      exact qr [.b 2 c1,.b 9 c9,.b 14 uO,.b 17 nH,.b 22 nU] <| qt <| ⟨.inl rfl,cb (.bool true) h (b9 (au))⟩
     ·obtain rfl:=oi H
      exact qr [.b 2 c1,.b 9 c9,.b 14 uO,.b 17 nH,.b 22 nU] <| qt <| ⟨.inl rfl,cb (.bool (c0==(95:Int))) h (b9 (au))⟩
    ·obtain rfl:=oi H
     exact qr [.b 2 c1,.b 9 c9,.b 14 uO,.b 17 nH] <| qt <| ⟨.inl rfl,cb (.bool (c0==(95:Int))) h (b9 (au))⟩
  ·rcases dJ H with⟨qg,H⟩| ⟨qg,H⟩
   ·rcases dJ H with⟨rF,H⟩| ⟨rF,H⟩
    ·obtain rfl:=oi H
     exact qr [.b 2 c1,.b 9 c9,.b 17 qg,.b 22 rF] <| qt <| ⟨.inl rfl,cb (.bool true) h (b9 (au))⟩
    ·obtain rfl:=oi H
     exact qr [.b 2 c1,.b 9 c9,.b 17 qg,.b 22 rF] <| qt <| ⟨.inl rfl,cb (.bool (c0==(95:Int))) h (b9 (au))⟩
   ·obtain rfl:=oi H
    exact qr [.b 2 c1,.b 9 c9,.b 17 qg] <| qt <| ⟨.inl rfl,cb (.bool (c0==(95:Int))) h (b9 (au))⟩
end
end Go.Proofs.YtmekcfdllhphlaaDoor
namespace Go.Proofs.YtmekcfdllhphlaaDoor
open Go Go.R
open Go.IntKind (i64 u64 u8 u32)
def zl:cg:=gK [0,2,3,11,15,22] [] [62,54,61,58,42,58,26,61,61] [] []
def cn.l0 (m:Nat)(s0:ByteArray):Nat→Int→Option (Sum Bool (Int))
 | 0,_=>none
 | k+1,i0=>if (decide (i0<(s0.size:Int)))=true then ((bt s0 i0).bind fun v0=>(eX.f m v0).bind fun x0=>if (!x0)=true then (some (.inl false)) else (cn.l0 m s0 k (i64.wrap (i0+(1:Int))))) else (some (.inr i0))
def cn.f (m:Nat)(s0:ByteArray):Option (Bool):=if (decide ((s0.size:Int)<(1:Int)))=true then (some false) else (if (decide ((s0.size:Int) > (16:Int)))=true then (some false) else ((cn.l0 m s0 m (0:Int)).bind fun bj=>match bj with | .inl r0=>some r0 | .inr i1=>some true))
def cn.fin (L:Mem)(r:Bool)(s:St):Prop:=∃av,aH Tryd.prog (s.open zl) Tryd.f86.results.toList=some av∧fW s.h av (.bool r)
def Ua (cf:CallF)(m:Nat):Prop:=∀(s0:ByteArray) (r:Bool),cn.f m s0=some r→∀h xs,eN fi h xs [.str s0]→cf 86 xs h=some (.bool r,h)
section
variable {cf:CallF}{m:Nat}
theorem cn.bI (L:Mem)(s0:ByteArray)  (GY:LB cf m):bD Tryd.prog cf zl m (sub [1,1,0,1,0,0] (codeOf Tryd.f86)) (fun k (σ:Int)=>cn.l0 m s0 k σ) (fun σ s=>match σ with | i0=>∃h0,s=⟨.str s0 :: .any :: .int .i64 i0::jP [],[],h0⟩∧Has h0 (L)) (fun out e s=>(e = .exit 0∧∃i0,.inr i0=out∧∃kG uN tH h0,s=⟨[kG,.any,uN,.any,tH,.any],[],h0⟩∧Has h0 (L))∨(e = .ret∧∃r,.inl r=out∧cn.fin L r s)):=by
 refine gG (fun _=>rfl) ?_
 rintro k i0 s out ⟨h0,rfl,o0⟩ H
 have H:cn.l0 m s0 (k+1) i0=some out:=H
 refine qq <| qq <| q0 <| qc H (fun c3 H=>?_) (fun c3 H=>?_)
 ·refine qk <| qq <| qb 1 <| qq ?_
  obtain⟨v0,e0,H⟩:=aI H
  obtain⟨x0,e1,H⟩:=aI H
  refine qr [.v 2 (l8 (k:=.i64) U9 e0),.a 3 (GY _ _ e1 h0 _ (hH (ae (aO) (aC))))] <| qc H (fun c4 H=>?_) (fun c4 H=>?_)
  ·exact q1 <| qt <| Yv (⟨rfl,_,oi H,cb (.bool false) h0 (b9 (au))⟩)
  ·exact qk <| q0 <| ⟨i64.wrap (i0+(1:Int)),⟨h0,by kernel_rfl,o0⟩,H⟩
 ·exact qx 0 <| YQ (⟨rfl,i0,oi H,.str s0,.int .i64 i0,.bool (decide (i0<(s0.size:Int))),h0,by kernel_rfl,o0⟩)
theorem r6 {aU:FuncId→cg}(ha:aU 86=zl)(GY:LB cf m)(s0:ByteArray)(h:AHeap)(L:Mem)  (o:Has h (L)){out:Bool}(H:cn.f m s0=some out) :
  ∃r h',bc Tryd.prog aU cf m 86 [.str s0] h=some (r,h')∧fW h' r (.bool out):=by
 refine aq (fn:=Tryd.f86) ha Tryd.func86 (by kernel_rfl) (by kernel_rfl) ?_
 refine aG (Q:=fun s=>cn.fin L out s) (fun _ _ h=>h) ?_
 have H:_=some out:=H
 unfold cn.f at H
 show de _ cf zl m _ ⟨.str s0::rB [],[],h⟩ _
 refine q1 <| qq <| qq ?_
 rcases dJ H with⟨c0,H⟩| ⟨c0,H⟩
 ·obtain rfl:=oi H
  exact qr [.b 3 c0] <| xc <| qq <| q0 <| qt <| ⟨.inl rfl,cb (.bool false) h (b9 (au))⟩
 ·refine qr [.b 3 c0] <| qc H (fun c2 H=>?_) (fun c2 H=>?_)
  ·obtain rfl:=oi H
   exact q1 <| qt <| ⟨.inl rfl,cb (.bool false) h (b9 (au))⟩
  ·refine qk <| qq <| qq <| q0 <| qb 0 ?_
   obtain⟨bj,e2,H⟩:=aI H
   refine ql (cn.bI L s0  GY (0:Int) _ _ ⟨h,by kernel_rfl,o⟩ e2) ?_
   rintro e s (⟨rfl,i1,rfl,g0,g1,g2,h1,rfl,o1⟩| ⟨rfl,r0,rfl,nI⟩)
   ·try dsimp only at H
    obtain rfl:=oi H
    exact q1 <| qt <| ⟨.inl rfl,cb (.bool true) h1 (b9 (au))⟩
   ·try dsimp only at H
    obtain rfl:=oi H
    exact⟨.inl rfl,nI⟩
end
end Go.Proofs.YtmekcfdllhphlaaDoor
namespace Go.Proofs.YtmekcfdllhphlaaDoor
open Go Go.R
open Go.IntKind (i64 u64 u8 u32)
def CE:cg:=gK [0,2] [] [2,1] [] []
def dV.f (m:Nat)(s0:ByteArray):Option (Bool):=if (s0.data.toList==(XV #[124]).data.toList)=true then (some true) else (if (s0.data.toList==(XV #[35]).data.toList)=true then (some true) else ((cn.f m s0).bind fun x0=>if x0=true then ((bt s0 (0:Int)).bind fun v0=>if (decide (v0≥(97:Int)))=true then ((bt s0 (0:Int)).bind fun v1=>some (decide (v1≤(122:Int)))) else (some false)) else (some false)))
def dV.fin (L:Mem)(r:Bool)(s:St):Prop:=∃av,aH Tryd.prog (s.open CE) Tryd.f69.results.toList=some av∧fW s.h av (.bool r)
def Ub (cf:CallF)(m:Nat):Prop:=∀(s0:ByteArray) (r:Bool),dV.f m s0=some r→∀h xs,eN fi h xs [.str s0]→cf 69 xs h=some (.bool r,h)
section
variable {cf:CallF}{m:Nat}
theorem pv {aU:FuncId→cg}(ha:aU 69=CE)(LC:Ua cf m)(s0:ByteArray)(h:AHeap)(L:Mem)  (o:Has h (L)){out:Bool}(H:dV.f m s0=some out) :
  ∃r h',bc Tryd.prog aU cf m 69 [.str s0] h=some (r,h')∧fW h' r (.bool out):=by
 refine aq (fn:=Tryd.f69) ha Tryd.func69 (by kernel_rfl) (by kernel_rfl) ?_
 refine aG (Q:=fun s=>dV.fin L out s) (fun _ _ h=>h) ?_
 have H:_=some out:=H
 unfold dV.f at H
 show de _ cf CE m _ ⟨[.str s0,.any],[],h⟩ _
 refine q1 <| qq ?_
 rcases dJ H with⟨c0,H⟩| ⟨c0,H⟩
 ·obtain rfl:=oi H
  exact qr [.b 2 c0] <| qt <| ⟨.inl rfl,cb (.bool true) h (b9 (au))⟩
 ·rcases dJ H with⟨c1,H⟩| ⟨c1,H⟩
  ·obtain rfl:=oi H
   exact qr [.b 2 c0,.b 6 c1] <| qt <| ⟨.inl rfl,cb (.bool true) h (b9 (au))⟩
  ·obtain⟨x0,e0,H⟩:=aI H
   rcases dJ H with⟨c2,H⟩| ⟨c2,H⟩
   ·obtain⟨v0,e1,H⟩:=aI H
    rcases dJ H with⟨c3,H⟩| ⟨c3,H⟩
    ·obtain⟨v1,e2,H⟩:=aI H
     obtain rfl:=oi H
     exact qr [.b 2 c0,.b 6 c1,.a 8 (LC _ _ e0 h _ (hH (ae (bY) (aC)))),.b 9 c2,.v 11 (l8 (k:=.i64) U9 e1),.b 14 c3,.v 16 (l8 (k:=.i64) U9 e2)] <| qt <| ⟨.inl rfl,cb (.bool (decide (v1≤(122:Int)))) h (b9 (au))⟩
    ·obtain rfl:=oi H
     exact qr [.b 2 c0,.b 6 c1,.a 8 (LC _ _ e0 h _ (hH (ae (bY) (aC)))),.b 9 c2,.v 11 (l8 (k:=.i64) U9 e1),.b 14 c3] <| qt <| ⟨.inl rfl,cb (.bool false) h (b9 (au))⟩
   ·obtain rfl:=oi H
    exact qr [.b 2 c0,.b 6 c1,.a 8 (LC _ _ e0 h _ (hH (ae (bY) (aC)))),.b 9 c2] <| qt <| ⟨.inl rfl,cb (.bool false) h (b9 (au))⟩
end
end Go.Proofs.YtmekcfdllhphlaaDoor
