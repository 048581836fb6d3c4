/- Part of the proof: Q62, PB4, Q61, PB9, PV1, PT13, Q15, Q113, Q104. -/
import Derived.Test.YtmekcfdllhphlaaGreatDoorK11
set_option linter.unusedVariables false
set_option linter.unusedSimpArgs false
set_option maxRecDepth 100000
open Bool renaming and_eq_true → Yo
open Eq renaming trans → Zf
open Int renaming toNat_natCast → Yq
open List renaming length_append → Ys, length_set → Yt, getElem?_eq_getElem → Yv, mem_singleton → Yw, mem_append → Yy, getD_eq_getElem?_getD → YB, getElem?_eq_none → YC, length_cons → YD, getElem?_append_right → YE, replicate → YF, mem_map → YH, map_cons → YJ, all_eq_true → YK, nil_append → YO, map_append → YP, getElem?_map → YQ, mem_cons → YW, length_map → YY, drop_zero → YZ, mem_append_left → Y4, length_nil → Y6, ext_getElem? → Zd, idxOf_lt_length_of_mem → Zl, take_add_one → Zn, take_length → Zq, nodup_append → Zw, getElem?_set → ZH, getElem_of_mem → ZU
open Nat renaming le_refl → Yn, le_trans → Y0, sub_self → ZT
open Option renaming bind_some → Yj, map_some → Yp
open Option.some renaming inj → YI
open Or renaming inr → Zx
namespace Go.Proofs.YtmekcfdllhphlaaGreatDoor
open Go Go.R
open Go.IntKind (i64 u64 u8 u32)
def mX:cm:=gI [0,2,3,4,5,6,7,8,9,10,11,12,13,14,15,22,27,42,56,67,73,95,109,120,127,148,177] [] [134217726,134217722,134217714,134217666,134217602,134184898,134217602,134217474,134151938,134217474,134086402,134217538,133955394,134217538,134217538,134217474,134217426,133693138,134217426,133168850,134217426,134217426,134216914,132119762,134216914,130022610,134216914,134216666,125829082,134216666,134214618,134214618,134210522,117433306,134210522,134202330,134202330,134185946,100631514,134185946,67077082,134185946,134210522,134216666,134217725] [] [(3,[(5,none,1),(6,none,1)]),(30,[(12,none,1)])]
def af.l1 (m:Nat)(l0:List ab):Nat→(List Int)→(List Bool)→(List Int)→Bool→Int→Option ((List Int) × (List Bool) × (List Int) × Bool × Int)
 | 0,_,_,_,_,_=>none
 | k+1,cP,dr,da,lB,i0=>if (decide (i0≥(0:Int)))=true then ((ix dr i0).bind fun v0=>if v0=true then (af.l1 m l0 k cP dr da lB (i64.wrap (i0 - (1:Int)))) else ((ix l0 i0).bind fun v1=>(b4.f m v1 dr).bind fun x2=>if (!x2)=true then (af.l1 m l0 k cP dr da lB (i64.wrap (i0 - (1:Int)))) else ((b9.f m l0 da i0 cP).bind fun x3=>(ix cP i0).bind fun v2=>(ix (cP.set i0.toNat x3) i0).bind fun v3=>if (v3==i0)=true then ((app 8 da ([i0])).bind fun x4=>(ix dr i0).bind fun v4=>af.l1 m l0 k (cP.set i0.toNat x3) (dr.set i0.toNat true) x4 true (i64.wrap (i0 - (1:Int)))) else ((ix dr i0).bind fun v5=>af.l1 m l0 k (cP.set i0.toNat x3) (dr.set i0.toNat true) da true (i64.wrap (i0 - (1:Int))))))) else (some ((cP,dr,da,lB,i0)))
def af.l0 (m:Nat)(l0:List ab):Nat→(List Int)→(List Bool)→(List Int)→Bool→Option ((List Int) × (List Bool) × (List Int) × Bool)
 | 0,_,_,_,_=>none
 | k+1,bq,dI,fY,nR=>if nR=true then ((af.l1 m l0 m bq dI fY false (i64.wrap ((l0.length:Int) - (1:Int)))).bind fun bg=>match bg with | (BL,HC,yp,HD,i1)=>af.l0 m l0 k BL HC yp HD) else (some ((bq,dI,fY,nR)))
def af.l3 (m:Nat)(l0:List ab)(i2:Int)(x5:List Int):Nat→(List Int)→Int→Option ((List Int) × Int)
 | 0,_,_=>none
 | k+1,cX,k0=>(ix cX i2).bind fun v8=>if (v8==i2)=true then ((ix x5 k0).bind fun v9=>if (decide (v9<i2))=true then ((ix l0 i2).bind fun v10=>(ix x5 k0).bind fun v11=>(ix l0 v11).bind fun v12=>(fe.f m v10 v12).bind fun x6=>if x6=true then ((ix x5 k0).bind fun Ji=>(ix cX Ji).bind fun AB=>(ix cX i2).bind fun nA=>af.l3 m l0 i2 x5 k (cX.set i2.toNat AB) (i64.wrap (k0+(1:Int)))) else (af.l3 m l0 i2 x5 k cX (i64.wrap (k0+(1:Int))))) else (some ((cX,k0)))) else (some ((cX,k0)))
def af.l2 (m:Nat)(l0:List ab)(dW:List Bool):Nat→(List Int)→(List Int)→Int→Option ((List Int) × (List Int) × Int)
 | 0,_,_,_=>none
 | k+1,eH,jB,i2=>if (decide (i2<(l0.length:Int)))=true then ((ix dW i2).bind fun v6=>if v6=true then (af.l2 m l0 dW k eH jB (i64.wrap (i2+(1:Int)))) else ((app 8 jB ([i2])).bind fun x5=>(ix eH i2).bind fun v7=>(af.l3 m l0 i2 x5 m (eH.set i2.toNat i2) (0:Int)).bind fun ik=>match ik with | (BM,k1)=>af.l2 m l0 dW k BM x5 (i64.wrap (i2+(1:Int))))) else (some ((eH,jB,i2)))
def af.l6 (m:Nat)(l0:List ab)(bF:List Int)(aY:List Int)(j0:Int)(mo:Int):Nat→(List Int)→Int→Option ((List Int) × Int)
 | 0,_,_=>none
 | k+1,cN,k2=>(ix cN mo).bind fun UC=>if (UC==mo)=true then (if (decide (k2<j0))=true then ((ix aY mo).bind fun UD=>(ix bF k2).bind fun v20=>(ix aY v20).bind fun v21=>if (UD==v21)=true then ((ix l0 mo).bind fun UE=>(ix bF k2).bind fun UF=>(ix l0 UF).bind fun v24=>(bm.f m UE v24 aY).bind fun x8=>if x8=true then ((ix bF k2).bind fun UG=>(ix cN UG).bind fun Nl=>(ix cN mo).bind fun WJ=>af.l6 m l0 bF aY j0 mo k (cN.set mo.toNat Nl) (i64.wrap (k2+(1:Int)))) else (af.l6 m l0 bF aY j0 mo k cN (i64.wrap (k2+(1:Int))))) else (af.l6 m l0 bF aY j0 mo k cN (i64.wrap (k2+(1:Int))))) else (some ((cN,k2)))) else (some ((cN,k2)))
def af.l5 (m:Nat)(l0:List ab)(bF:List Int)(aY:List Int):Nat→Bool→(List Int)→Int→Option (Bool × (List Int) × Int)
 | 0,_,_,_=>none
 | k+1,jJ,bT,j0=>if (decide (j0<(bF.length:Int)))=true then ((ix bF j0).bind fun mo=>(ix bT mo).bind fun Nn=>(af.l6 m l0 bF aY j0 mo m (bT.set mo.toNat mo) (0:Int)).bind fun cF=>match cF with | (rL,k3)=>if jJ=true then (af.l5 m l0 bF aY k true rL (i64.wrap (j0+(1:Int)))) else ((ix rL mo).bind fun v28=>(ix aY mo).bind fun Sw=>af.l5 m l0 bF aY k (!(v28==Sw)) rL (i64.wrap (j0+(1:Int))))) else (some ((jJ,bT,j0)))
def af.l4 (m:Nat)(l0:List ab)(bF:List Int):Nat→(List Int)→Bool→Option ((List Int) × Bool)
 | 0,_,_=>none
 | k+1,aY,nS=>if nS=true then ((app 8 ([]:List Int) aY).bind fun x7=>(af.l5 m l0 bF aY m false x7 (0:Int)).bind fun uv=>match uv with | (HE,z6,j1)=>af.l4 m l0 bF k z6 HE) else (some ((aY,nS)))
def af.f (m:Nat)(l0:List ab):Option ((List Int)):=(vh 8 (l0.length:Int) (0:Int)).bind fun x0=>(vh 1 (l0.length:Int) false).bind fun x1=>(af.l0 m l0 m x0 x1 ([]:List Int) true).bind fun bR=>match bR with | (uK,dW,JC,O9)=>(af.l2 m l0 dW m uK ([]:List Int) (0:Int)).bind fun mN=>match mN with | (uL,bF,i3)=>(af.l4 m l0 bF m uL true).bind fun gO=>match gO with | (qT,Pa)=>some qT
def af.fin (L:Mem)(r:(List Int))(s:St):Prop:=∃av,aH Tryz.prog (s.open mX) Tryz.f62.results.toList=some av∧gu s.h av (aa.fz r)
def UH (cf:CallF)(m:Nat):Prop:=∀(l0:List ab) (r:(List Int)),af.f m l0=some r→∀h xs,eY fq h xs [ah.fz l0]→cf 62 xs h=some (aa.fz r,h)
section
variable {cf:CallF}{m:Nat}
theorem af.fC (L:Mem)(l0:List ab)  (HF:Qa cf m)(HG:Qb cf m):bL Tryz.prog cf mX m (sub [1,1,1,1,0,1,0,0,1,0,1,1,0,0] (codeOf Tryz.f62)) (fun k (σ:(List Int) × (List Bool) × (List Int) × Bool × Int)=>af.l1 m l0 k σ.1 σ.2.1 σ.2.2.1 σ.2.2.2.1 σ.2.2.2.2) (fun σ s=>match σ with | (cP,dr,da,lB,i0)=>∃iJ hY hX h3,s=⟨ah.fz l0 :: .any :: .rs hX 0 cP.length 1 :: .rs hY 0 dr.length 1 :: .rs iJ 0 da.length 1 :: .rs ((0)) 0 (([]:List Int).length) 1 :: .bool lB :: .int .i64 i0::LL [],[],h3⟩∧Has h3 ((((0)),.sl (([]:List Int).length) 1 (aa.l ([]:List Int)))::(iJ,.sl da.length 1 (aa.l da))::(hY,.sl dr.length 1 (cJ.l dr))::(hX,.sl cP.length 1 (aa.l cP))::L)) (fun out e s=>(e = .exit 2∧∃cP dr da lB i0,(cP,dr,da,lB,i0)=out∧∃r6 BG iJ hY hX h3,s=⟨ah.fz l0 :: .any :: .rs hX 0 cP.length 1 :: .rs hY 0 dr.length 1 :: .rs iJ 0 da.length 1 :: .rs ((0)) 0 (([]:List Int).length) 1 :: .bool lB::r6::sI (BG::xG []),[],h3⟩∧Has h3 ((((0)),.sl (([]:List Int).length) 1 (aa.l ([]:List Int)))::(iJ,.sl da.length 1 (aa.l da))::(hY,.sl dr.length 1 (cJ.l dr))::(hX,.sl cP.length 1 (aa.l cP))::L))):=by
 refine ig (fun _=>rfl) ?_
 rintro k ⟨cP,dr,da,lB,i0⟩ s out ⟨iJ,hY,hX,h3,rfl,o5⟩ H
 have H:af.l1 m l0 (k+1) cP dr da lB i0=some out:=H
 refine qq <| qq <| q0 <| qc H (fun c1 H=>?_) (fun c1 H=>?_)
 ·refine qk <| qq <| qb 3 <| qq <| qq ?_
  obtain⟨v0,e4,H⟩:=aI H
  rcases dQ H with⟨c2,H⟩| ⟨c2,H⟩
  ·exact qr [.v 2 (aE (k:=.i64) (E:=cJ) (l:=dr) (q:=2) vl o5 rfl e4),.v 3 (bf  (E:=cJ) (l:=dr) (q:=2) o5 rfl A4 e4 rfl),.b 4 c2] <| wk <| qx 3 <| q0 <| ⟨(cP,dr,da,lB,i64.wrap (i0 - (1:Int))),⟨iJ,hY,hX,h3,by kernel_rfl,o5⟩,H⟩
  ·obtain⟨v1,e5,H⟩:=aI H
   obtain⟨x2,e6,H⟩:=aI H
   refine qr [.v 2 (aE (k:=.i64) (E:=cJ) (l:=dr) (q:=2) vl o5 rfl e4),.v 3 (bf  (E:=cJ) (l:=dr) (q:=2) o5 rfl A4 e4 rfl),.b 4 c2,.v 7 (bI (k:=.i64) (E:=ah) (l:=l0) mf e5),.v 8 (dL  (E:=ah) (l:=l0) h3 tQ tR e5),.a 10 (HF _ _ _ e6 h3 _ (ia (ae (dN (ae (aN) (ae (aN) (ae (b7) (ae (cW (E:=aa)) (aB)))))) (ae (rG (E:=cJ) (l:=dr) (q:=2) o5 rfl (fun _=>rfl)) (aB)))))] <| qc H (fun c4 H=>?_) (fun c4 H=>?_)
   ·exact qx 3 <| q0 <| ⟨(cP,dr,da,lB,i64.wrap (i0 - (1:Int))),⟨iJ,hY,hX,h3,by kernel_rfl,o5⟩,H⟩
   ·refine qk <| qq ?_
    obtain⟨x3,e7,H⟩:=aI H
    obtain⟨v2,e8,H⟩:=aI H
    obtain⟨h4,e9,o6⟩:=dM (P:=Tryz.prog) (tf:=3) (E:=aa) (l:=cP) (q:=3) (v:=x3) (x:=.int .i64 x3) o5 rfl Z3 e8 rfl rfl
    refine qr [.a 6 (HG _ _ _ _ _ e7 h3 _ (ia (ae (cW (E:=ah)) (ae (rG (E:=aa) (l:=da) (q:=1) o5 rfl (fun _=>rfl)) (ae (aN) (ae (rG (E:=aa) (l:=cP) (q:=3) o5 rfl (fun _=>rfl)) (aB))))))),.v 7 (aE (k:=.i64) (E:=aa) (l:=cP) (q:=3) dJ o5 rfl e8),.w 8 e9] <| qq <| qq ?_
    obtain⟨v3,ow,H⟩:=aI H
    refine qr [.v 2 (aE (k:=.i64) (E:=aa) (l:=(cP.set i0.toNat x3)) (q:=3) dJ o6 rfl ow),.v 3 (bf  (E:=aa) (l:=(cP.set i0.toNat x3)) (q:=3) o6 rfl A3 ow rfl)] <| qc H (fun c5 H=>?_) (fun c5 H=>?_)
    ·obtain⟨x4,rI,H⟩:=aI H
     obtain⟨ly,h5,sK,o7⟩:=fP (P:=Tryz.prog) (E:=aa) (l:=da) (q:=1) (t2:=28) (x:=.fz [.int .i64 i0] 1 true) (l2:=([i0])) dJ o6 rfl (by kernel_rfl) rfl rI
     refine qr [.a 3 sK] <| qq ?_
     obtain⟨v4,sL,H⟩:=aI H
     obtain⟨h6,uo,o8⟩:=dM (P:=Tryz.prog) (tf:=4) (E:=cJ) (l:=dr) (q:=2) (v:=true) (x:=.bool true) o7 rfl Z4 sL rfl rfl
     exact qr [.v 2 (aE (k:=.i64) (E:=cJ) (l:=dr) (q:=2) vl o7 rfl sL),.w 3 uo] <| q0 <| q0 <| ⟨(cP.set i0.toNat x3,dr.set i0.toNat true,x4,true,i64.wrap (i0 - (1:Int))),⟨ly,hY,hX,h6,(Zf (b:=⟨ah.fz l0 :: .any :: .rs hX 0 cP.length 1 :: .rs hY 0 dr.length 1 :: .rs ly 0 x4.length 1 :: .rs ((0)) 0 (([]:List Int).length) 1 :: .bool true :: .int .i64 (i64.wrap (i0 - (1:Int)))::LL [],[],h6⟩) (by kernel_rfl) (by simp only [Yt])),(by have o:Has h6 ((((0)),.sl (([]:List Int).length) 1 (aa.l ([]:List Int)))::(ly,.sl x4.length 1 (aa.l x4))::(hY,.sl dr.length 1 (cJ.l (dr.set i0.toNat true)))::(hX,.sl cP.length 1 (aa.l (cP.set i0.toNat x3)))::L):=o8; simpa only [Yt] using o)⟩,H⟩
    ·refine qk <| qq ?_
     obtain⟨v5,sM,H⟩:=aI H
     obtain⟨h7,wy,o9⟩:=dM (P:=Tryz.prog) (tf:=4) (E:=cJ) (l:=dr) (q:=2) (v:=true) (x:=.bool true) o6 rfl Z4 sM rfl rfl
     exact qr [.v 2 (aE (k:=.i64) (E:=cJ) (l:=dr) (q:=2) vl o6 rfl sM),.w 3 wy] <| q0 <| q0 <| ⟨(cP.set i0.toNat x3,dr.set i0.toNat true,da,true,i64.wrap (i0 - (1:Int))),⟨iJ,hY,hX,h7,(Zf (b:=⟨ah.fz l0 :: .any :: .rs hX 0 cP.length 1 :: .rs hY 0 dr.length 1 :: .rs iJ 0 da.length 1 :: .rs ((0)) 0 (([]:List Int).length) 1 :: .bool true :: .int .i64 (i64.wrap (i0 - (1:Int)))::LL [],[],h7⟩) (by kernel_rfl) (by simp only [Yt])),(by have o:Has h7 ((((0)),.sl (([]:List Int).length) 1 (aa.l ([]:List Int)))::(iJ,.sl da.length 1 (aa.l da))::(hY,.sl dr.length 1 (cJ.l (dr.set i0.toNat true)))::(hX,.sl cP.length 1 (aa.l (cP.set i0.toNat x3)))::L):=o9; simpa only [Yt] using o)⟩,H⟩
 ·exact qx 2 <| ⟨rfl,cP,dr,da,lB,i0,oi H,.int .i64 i0,.bool (decide (i0≥(0:Int))),iJ,hY,hX,h3,by kernel_rfl,o5⟩
theorem af.bP (L:Mem)(l0:List ab)  (HF:Qa cf m)(HG:Qb cf m):bL Tryz.prog cf mX m (sub [1,1,1,1,0,1,0,0] (codeOf Tryz.f62)) (fun k (σ:(List Int) × (List Bool) × (List Int) × Bool)=>af.l0 m l0 k σ.1 σ.2.1 σ.2.2.1 σ.2.2.2) (fun σ s=>match σ with | (bq,dI,fY,nR)=>∃g0 g1 gY fu dh h2,s=⟨ah.fz l0 :: .any :: .rs dh 0 bq.length 1 :: .rs fu 0 dI.length 1 :: .rs gY 0 fY.length 1 :: .rs ((0)) 0 (([]:List Int).length) 1 :: .bool nR::g0::sI (g1::xG []),[],h2⟩∧Has h2 ((((0)),.sl (([]:List Int).length) 1 (aa.l ([]:List Int)))::(gY,.sl fY.length 1 (aa.l fY))::(fu,.sl dI.length 1 (cJ.l dI))::(dh,.sl bq.length 1 (aa.l bq))::L)) (fun out e s=>(e = .exit 0∧∃bq dI fY nR,(bq,dI,fY,nR)=out∧∃zG xL r6 xS BG gY fu dh h2,s=⟨ah.fz l0 :: .any :: .rs dh 0 bq.length 1 :: .rs fu 0 dI.length 1::zG :: .rs ((0)) 0 (([]:List Int).length) 1::xL::r6::E1 (xS::BG::xG []),[],h2⟩∧Has h2 ((((0)),.sl (([]:List Int).length) 1 (aa.l ([]:List Int)))::(gY,.sl fY.length 1 (aa.l fY))::(fu,.sl dI.length 1 (cJ.l dI))::(dh,.sl bq.length 1 (aa.l bq))::L))):=by
 refine ig (fun _=>rfl) ?_
 rintro k ⟨bq,dI,fY,nR⟩ s out ⟨g0,g1,gY,fu,dh,h2,rfl,o4⟩ H
 have H:af.l0 m l0 (k+1) bq dI fY nR=some out:=H
 refine qq <| qq <| q0 <| qc H (fun c0 H=>?_) (fun c0 H=>?_)
 ·refine qk <| qb 1 <| qq <| q0 <| qq <| q0 <| qb 2 ?_
  obtain⟨bg,xQ,H⟩:=aI H
  refine ql (af.fC L l0  HF HG (bq,dI,fY,false,i64.wrap ((l0.length:Int) - (1:Int))) _ _ ⟨gY,fu,dh,h2,by kernel_rfl,o4⟩ xQ) ?_
  rintro e s ⟨rfl,BL,HC,yp,HD,i1,rfl,g2,g3,yz,eU,oA,h8,rfl,vo⟩
  try dsimp only at H
  exact⟨(BL,HC,yp,HD),⟨g2,g3,yz,eU,oA,h8,by kernel_rfl,vo⟩,H⟩
 ·exact qx 0 <| ⟨rfl,bq,dI,fY,nR,oi H,.rs gY 0 fY.length 1,.any,.any,.bool nR,.any,gY,fu,dh,h2,by kernel_rfl,o4⟩
theorem af.uj (L:Mem)(l0:List ab)(hZ:Nat)(dW:List Bool)(hZ:Nat)(i2:Int)(x5:List Int)(qU:Nat)  (vw:Nk cf m):bL Tryz.prog cf mX m (sub [1,1,1,1,1,0,1,0,0,1,0,0,1,1,1,1,0,0] (codeOf Tryz.f62)) (fun k (σ:(List Int) × Int)=>af.l3 m l0 i2 x5 k σ.1 σ.2) (fun σ s=>match σ with | (cX,k0)=>∃qV h13,s=⟨ah.fz l0 :: .any :: .rs qV 0 cX.length 1 :: .rs hZ 0 dW.length 1 :: .any :: .rs qU 0 x5.length 1 :: .any :: .any :: .int .i64 i2 :: .int .i64 k0::Ef [],[],h13⟩∧Has h13 ((qU,.sl x5.length 1 (aa.l x5))::(hZ,.sl dW.length 1 (cJ.l dW))::(qV,.sl cX.length 1 (aa.l cX))::L)) (fun out e s=>(e = .exit 6∧∃cX k0,(cX,k0)=out∧∃tT Sx qV h13,s=⟨ah.fz l0 :: .any :: .rs qV 0 cX.length 1 :: .rs hZ 0 dW.length 1 :: .any :: .rs qU 0 x5.length 1 :: .any :: .any :: .int .i64 i2::tT::pq (Sx::rV []),[],h13⟩∧Has h13 ((qU,.sl x5.length 1 (aa.l x5))::(hZ,.sl dW.length 1 (cJ.l dW))::(qV,.sl cX.length 1 (aa.l cX))::L))):=by
 refine ig (fun _=>rfl) ?_
 rintro k ⟨cX,k0⟩ s out ⟨qV,h13,rfl,ml⟩ H
 have H:af.l3 m l0 i2 x5 (k+1) cX k0=some out:=H
 refine qq <| qq ?_
 obtain⟨v8,E5,H⟩:=aI H
 rcases dQ H with⟨c8,H⟩| ⟨c8,H⟩
 ·obtain⟨v9,GD,H⟩:=aI H
  refine qr [.v 2 (aE (k:=.i64) (E:=aa) (l:=cX) (q:=2) dJ ml rfl E5),.v 3 (bf  (E:=aa) (l:=cX) (q:=2) ml rfl A3 E5 rfl),.b 6 c8,.v 9 (aE (k:=.i64) (E:=aa) (l:=x5) (q:=0) dJ ml rfl GD),.v 10 (bf  (E:=aa) (l:=x5) (q:=0) ml rfl A3 GD rfl)] <| qc H (fun c9 H=>?_) (fun c9 H=>?_)
  ·refine qk <| qq <| qb 7 <| qq ?_
   obtain⟨v10,GI,H⟩:=aI H
   obtain⟨v11,Ir,H⟩:=aI H
   obtain⟨v12,GG,H⟩:=aI H
   obtain⟨x6,GH,H⟩:=aI H
   refine qr [.v 2 (bI (k:=.i64) (E:=ah) (l:=l0) mf GI),.v 3 (dL  (E:=ah) (l:=l0) h13 tQ tR GI),.v 7 (aE (k:=.i64) (E:=aa) (l:=x5) (q:=0) dJ ml rfl Ir),.v 8 (bf  (E:=aa) (l:=x5) (q:=0) ml rfl A3 Ir rfl),.v 9 (bI (k:=.i64) (E:=ah) (l:=l0) mf GG),.v 10 (dL  (E:=ah) (l:=l0) h13 tQ tR GG),.a 11 (vw _ _ _ GH h13 _ (ia (ae (dN (ae (aN) (ae (aN) (ae (b7) (ae (cW (E:=aa)) (aB)))))) (ae (dN (ae (aN) (ae (aN) (ae (b7) (ae (cW (E:=aa)) (aB)))))) (aB)))))] <| qc H (fun xK H=>?_) (fun xK H=>?_)
   ·obtain⟨Ji,GF,H⟩:=aI H
    obtain⟨AB,Jj,H⟩:=aI H
    obtain⟨nA,Mc,H⟩:=aI H
    obtain⟨h14,It,Br⟩:=dM (P:=Tryz.prog) (tf:=3) (E:=aa) (l:=cX) (q:=2) (v:=AB) (x:=.int .i64 AB) ml rfl Z3 Mc rfl rfl
    exact qr [.v 5 (aE (k:=.i64) (E:=aa) (l:=x5) (q:=0) dJ ml rfl GF),.v 6 (bf  (E:=aa) (l:=x5) (q:=0) ml rfl A3 GF rfl),.v 7 (aE (k:=.i64) (E:=aa) (l:=cX) (q:=2) dJ ml rfl Jj),.v 8 (bf  (E:=aa) (l:=cX) (q:=2) ml rfl A3 Jj rfl),.v 9 (aE (k:=.i64) (E:=aa) (l:=cX) (q:=2) dJ ml rfl Mc),.w 10 It] <| q0 <| ⟨(cX.set i2.toNat AB,i64.wrap (k0+(1:Int))),⟨qV,h14,(Zf (b:=⟨ah.fz l0 :: .any :: .rs qV 0 cX.length 1 :: .rs hZ 0 dW.length 1 :: .any :: .rs qU 0 x5.length 1 :: .any :: .any :: .int .i64 i2 :: .int .i64 (i64.wrap (k0+(1:Int)))::Ef [],[],h14⟩) (by kernel_rfl) (by simp only [Yt])),(by have o:Has h14 ((qU,.sl x5.length 1 (aa.l x5))::(hZ,.sl dW.length 1 (cJ.l dW))::(qV,.sl cX.length 1 (aa.l (cX.set i2.toNat AB)))::L):=Br; simpa only [Yt] using o)⟩,H⟩
   ·exact qk <| q0 <| ⟨(cX,i64.wrap (k0+(1:Int))),⟨qV,h13,by kernel_rfl,ml⟩,H⟩
  ·exact qx 6 <| ⟨rfl,cX,k0,oi H,.int .i64 k0,.bool (decide (v9<i2)),qV,h13,by kernel_rfl,ml⟩
 ·exact qr [.v 2 (aE (k:=.i64) (E:=aa) (l:=cX) (q:=2) dJ ml rfl E5),.v 3 (bf  (E:=aa) (l:=cX) (q:=2) ml rfl A3 E5 rfl),.b 6 c8] <| Ej <| qx 6 <| ⟨rfl,cX,k0,oi H,.int .i64 k0,.bool false,qV,h13,by kernel_rfl,ml⟩
theorem af.pC (L:Mem)(l0:List ab)(hZ:Nat)(dW:List Bool)(hZ:Nat)  (vw:Nk cf m):bL Tryz.prog cf mX m (sub [1,1,1,1,1,0,1,0,0] (codeOf Tryz.f62)) (fun k (σ:(List Int) × (List Int) × Int)=>af.l2 m l0 dW k σ.1 σ.2.1 σ.2.2) (fun σ s=>match σ with | (eH,jB,i2)=>∃mi iI h10,s=⟨ah.fz l0 :: .any :: .rs iI 0 eH.length 1 :: .rs hZ 0 dW.length 1 :: .any :: .rs mi 0 jB.length 1 :: .any :: .any :: .int .i64 i2::Ob [],[],h10⟩∧Has h10 ((mi,.sl jB.length 1 (aa.l jB))::(hZ,.sl dW.length 1 (cJ.l dW))::(iI,.sl eH.length 1 (aa.l eH))::L)) (fun out e s=>(e = .exit 4∧∃eH jB i2,(eH,jB,i2)=out∧∃Et ud Sy mi iI h10,s=⟨ah.fz l0 :: .any :: .rs iI 0 eH.length 1::Et :: .any :: .rs mi 0 jB.length 1 :: .any :: .any::ud::xG (Sy::E1 []),[],h10⟩∧Has h10 ((mi,.sl jB.length 1 (aa.l jB))::(hZ,.sl dW.length 1 (cJ.l dW))::(iI,.sl eH.length 1 (aa.l eH))::L))):=by
 refine ig (fun _=>rfl) ?_
 rintro k ⟨eH,jB,i2⟩ s out ⟨mi,iI,h10,rfl,mg⟩ H
 have H:af.l2 m l0 dW (k+1) eH jB i2=some out:=H
 refine qq <| qq <| q0 <| qc H (fun c6 H=>?_) (fun c6 H=>?_)
 ·refine qk <| qq <| qb 5 <| qq <| qq ?_
  obtain⟨v6,xR,H⟩:=aI H
  refine qr [.v 2 (aE (k:=.i64) (E:=cJ) (l:=dW) (q:=1) vl mg rfl xR),.v 3 (bf  (E:=cJ) (l:=dW) (q:=1) mg rfl A4 xR rfl)] <| qc H (fun c7 H=>?_) (fun c7 H=>?_)
  ·exact qx 5 <| q0 <| ⟨(eH,jB,i64.wrap (i2+(1:Int))),⟨mi,iI,h10,by kernel_rfl,mg⟩,H⟩
  ·refine qk <| qq ?_
   obtain⟨x5,CO,H⟩:=aI H
   obtain⟨qU,h11,E6,zx⟩:=fP (P:=Tryz.prog) (E:=aa) (l:=jB) (q:=0) (t2:=28) (x:=.fz [.int .i64 i2] 1 true) (l2:=([i2])) dJ mg rfl (by kernel_rfl) rfl CO
   refine qr [.a 3 E6] <| qq ?_
   obtain⟨v7,E4,H⟩:=aI H
   obtain⟨h12,GC,AA⟩:=dM (P:=Tryz.prog) (tf:=3) (E:=aa) (l:=eH) (q:=2) (v:=i2) (x:=.int .i64 i2) zx rfl Z3 E4 rfl rfl
   refine qr [.v 3 (aE (k:=.i64) (E:=aa) (l:=eH) (q:=2) dJ zx rfl E4),.w 4 GC] <| qq <| q0 <| qb 6 ?_
   obtain⟨ik,Nb,H⟩:=aI H
   refine ql (af.uj L l0 hZ dW hZ i2 x5 qU  vw (eH.set i2.toNat i2,(0:Int)) _ _ ⟨iI,h12,(Zf (b:=⟨ah.fz l0 :: .any :: .rs iI 0 eH.length 1 :: .rs hZ 0 dW.length 1 :: .any :: .rs qU 0 x5.length 1 :: .any :: .any :: .int .i64 i2 :: .int .i64 (0:Int)::Ef [],[],h12⟩) (by kernel_rfl) (by simp only [Yt])),(by have o:Has h12 ((qU,.sl x5.length 1 (aa.l x5))::(hZ,.sl dW.length 1 (cJ.l dW))::(iI,.sl eH.length 1 (aa.l (eH.set i2.toNat i2)))::L):=AA; simpa only [Yt] using o)⟩ Nb) ?_
   rintro e s ⟨rfl,BM,k1,rfl,g9,g10,Mu,h15,rfl,Eu⟩
   try dsimp only at H
   exact q0 <| ⟨(BM,x5,i64.wrap (i2+(1:Int))),⟨qU,Mu,h15,by kernel_rfl,Eu⟩,H⟩
 ·exact qx 4 <| ⟨rfl,eH,jB,i2,oi H,.rs hZ 0 dW.length 1,.int .i64 i2,.bool (decide (i2<(l0.length:Int))),mi,iI,h10,by kernel_rfl,mg⟩
theorem af.HH (L:Mem)(l0:List ab)(iu:Nat)(bF:List Int)(iu:Nat)(iY:Nat)(aY:List Int)(iY:Nat)(jJ:Bool)(j0:Int)(mo:Int)  (uJ:Mt cf m):bL Tryz.prog cf mX m (sub [1,1,1,1,1,1,0,1,0,0,1,0,1,1,1,0,1,0,0,1,0,0,1,1,0,1,0,0] (codeOf Tryz.f62)) (fun k (σ:(List Int) × Int)=>af.l6 m l0 bF aY j0 mo k σ.1 σ.2) (fun σ s=>match σ with | (cN,k2)=>∃qW h21,s=⟨ah.fz l0 :: .any :: .rs iY 0 aY.length 1 :: .any :: .any :: .rs iu 0 bF.length 1::oH (.bool jJ :: .rs qW 0 cN.length 1 :: .int .i64 j0 :: .int .i64 mo :: .int .i64 k2::oq []),[],h21⟩∧Has h21 ((qW,.sl cN.length 1 (aa.l cN))::(iu,.sl bF.length 1 (aa.l bF))::(iY,.sl aY.length 1 (aa.l aY))::L)) (fun out e s=>(e = .exit 12∧∃cN k2,(cN,k2)=out∧∃ui Pb qW h21,s=⟨ah.fz l0 :: .any :: .rs iY 0 aY.length 1 :: .any :: .any :: .rs iu 0 bF.length 1::oH (.bool jJ :: .rs qW 0 cN.length 1 :: .int .i64 j0 :: .int .i64 mo::ui::xG [Pb,.any]),[],h21⟩∧Has h21 ((qW,.sl cN.length 1 (aa.l cN))::(iu,.sl bF.length 1 (aa.l bF))::(iY,.sl aY.length 1 (aa.l aY))::L))):=by
 refine ig (fun _=>rfl) ?_
 rintro k ⟨cN,k2⟩ s out ⟨qW,h21,rfl,nv⟩ H
 have H:af.l6 m l0 bF aY j0 mo (k+1) cN k2=some out:=H
 refine qq <| qq ?_
 obtain⟨UC,Jm,H⟩:=aI H
 rcases dQ H with⟨rZ,H⟩| ⟨rZ,H⟩
 ·refine qr [.v 2 (aE (k:=.i64) (E:=aa) (l:=cN) (q:=0) dJ nv rfl Jm),.v 3 (bf  (E:=aa) (l:=cN) (q:=0) nv rfl A3 Jm rfl),.b 6 rZ] <| qc H (fun CJ H=>?_) (fun CJ H=>?_)
  ·refine qk <| qq <| qb 13 <| qq ?_
   obtain⟨UD,Km,H⟩:=aI H
   obtain⟨v20,Kn,H⟩:=aI H
   obtain⟨v21,Ng,H⟩:=aI H
   rcases dQ H with⟨E3,H⟩| ⟨E3,H⟩
   ·obtain⟨UE,UI,H⟩:=aI H
    obtain⟨UF,UJ,H⟩:=aI H
    obtain⟨v24,UK,H⟩:=aI H
    obtain⟨x8,WK,H⟩:=aI H
    refine qr [.v 2 (aE (k:=.i64) (E:=aa) (l:=aY) (q:=2) dJ nv rfl Km),.v 3 (bf  (E:=aa) (l:=aY) (q:=2) nv rfl A3 Km rfl),.v 7 (aE (k:=.i64) (E:=aa) (l:=bF) (q:=1) dJ nv rfl Kn),.v 8 (bf  (E:=aa) (l:=bF) (q:=1) nv rfl A3 Kn rfl),.v 9 (aE (k:=.i64) (E:=aa) (l:=aY) (q:=2) dJ nv rfl Ng),.v 10 (bf  (E:=aa) (l:=aY) (q:=2) nv rfl A3 Ng rfl),.b 12 E3,.v 15 (bI (k:=.i64) (E:=ah) (l:=l0) mf UI),.v 16 (dL  (E:=ah) (l:=l0) h21 tQ tR UI),.v 20 (aE (k:=.i64) (E:=aa) (l:=bF) (q:=1) dJ nv rfl UJ),.v 21 (bf  (E:=aa) (l:=bF) (q:=1) nv rfl A3 UJ rfl),.v 22 (bI (k:=.i64) (E:=ah) (l:=l0) mf UK),.v 23 (dL  (E:=ah) (l:=l0) h21 tQ tR UK),.a 25 (uJ _ _ _ _ WK h21 _ (ia (ae (dN (ae (aN) (ae (aN) (ae (b7) (ae (cW (E:=aa)) (aB)))))) (ae (dN (ae (aN) (ae (aN) (ae (b7) (ae (cW (E:=aa)) (aB)))))) (ae (rG (E:=aa) (l:=aY) (q:=2) nv rfl (fun _=>rfl)) (aB))))))] ?_
    refine qc H (fun Em H=>?_) (fun Em H=>?_)
    ·obtain⟨UG,UL,H⟩:=aI H
     obtain⟨Nl,UM,H⟩:=aI H
     obtain⟨WJ,UN,H⟩:=aI H
     obtain⟨h22,WL,Ko⟩:=dM (P:=Tryz.prog) (tf:=3) (E:=aa) (l:=cN) (q:=0) (v:=Nl) (x:=.int .i64 Nl) nv rfl Z3 UN rfl rfl
     exact qr [.v 5 (aE (k:=.i64) (E:=aa) (l:=bF) (q:=1) dJ nv rfl UL),.v 6 (bf  (E:=aa) (l:=bF) (q:=1) nv rfl A3 UL rfl),.v 7 (aE (k:=.i64) (E:=aa) (l:=cN) (q:=0) dJ nv rfl UM),.v 8 (bf  (E:=aa) (l:=cN) (q:=0) nv rfl A3 UM rfl),.v 9 (aE (k:=.i64) (E:=aa) (l:=cN) (q:=0) dJ nv rfl UN),.w 10 WL] <| q0 <| ⟨(cN.set mo.toNat Nl,i64.wrap (k2+(1:Int))),⟨qW,h22,(Zf (b:=⟨ah.fz l0 :: .any :: .rs iY 0 aY.length 1 :: .any :: .any :: .rs iu 0 bF.length 1::oH (.bool jJ :: .rs qW 0 cN.length 1 :: .int .i64 j0 :: .int .i64 mo :: .int .i64 (i64.wrap (k2+(1:Int)))::oq []),[],h22⟩) (by kernel_rfl) (by simp only [Yt])),(by have o:Has h22 ((qW,.sl cN.length 1 (aa.l (cN.set mo.toNat Nl)))::(iu,.sl bF.length 1 (aa.l bF))::(iY,.sl aY.length 1 (aa.l aY))::L):=Ko; simpa only [Yt] using o)⟩,H⟩
    ·exact qk <| q0 <| ⟨(cN,i64.wrap (k2+(1:Int))),⟨qW,h21,by kernel_rfl,nv⟩,H⟩
   ·exact qr [.v 2 (aE (k:=.i64) (E:=aa) (l:=aY) (q:=2) dJ nv rfl Km),.v 3 (bf  (E:=aa) (l:=aY) (q:=2) nv rfl A3 Km rfl),.v 7 (aE (k:=.i64) (E:=aa) (l:=bF) (q:=1) dJ nv rfl Kn),.v 8 (bf  (E:=aa) (l:=bF) (q:=1) nv rfl A3 Kn rfl),.v 9 (aE (k:=.i64) (E:=aa) (l:=aY) (q:=2) dJ nv rfl Ng),.v 10 (bf  (E:=aa) (l:=aY) (q:=2) nv rfl A3 Ng rfl),.b 12 E3] <| Ej <| qk <| q0 <| ⟨(cN,i64.wrap (k2+(1:Int))),⟨qW,h21,by kernel_rfl,nv⟩,H⟩
  ·exact qx 12 <| ⟨rfl,cN,k2,oi H,.int .i64 k2,.bool (decide (k2<j0)),qW,h21,by kernel_rfl,nv⟩
 ·exact qr [.v 2 (aE (k:=.i64) (E:=aa) (l:=cN) (q:=0) dJ nv rfl Jm),.v 3 (bf  (E:=aa) (l:=cN) (q:=0) nv rfl A3 Jm rfl),.b 6 rZ] <| Ej <| qx 12 <| ⟨rfl,cN,k2,oi H,.int .i64 k2,.bool false,qW,h21,by kernel_rfl,nv⟩
theorem af.HI (L:Mem)(l0:List ab)(iu:Nat)(bF:List Int)(iu:Nat)(iY:Nat)(aY:List Int)(iY:Nat)  (uJ:Mt cf m):bL Tryz.prog cf mX m (sub [1,1,1,1,1,1,0,1,0,0,1,0,1,1,1,0,1,0,0] (codeOf Tryz.f62)) (fun k (σ:Bool × (List Int) × Int)=>af.l5 m l0 bF aY k σ.1 σ.2.1 σ.2.2) (fun σ s=>match σ with | (jJ,bT,j0)=>∃vz h19,s=⟨ah.fz l0 :: .any :: .rs iY 0 aY.length 1 :: .any :: .any :: .rs iu 0 bF.length 1::oH (.bool jJ :: .rs vz 0 bT.length 1 :: .int .i64 j0::rW []),[],h19⟩∧Has h19 ((vz,.sl bT.length 1 (aa.l bT))::(iu,.sl bF.length 1 (aa.l bF))::(iY,.sl aY.length 1 (aa.l aY))::L)) (fun out e s=>(e = .exit 10∧∃jJ bT j0,(jJ,bT,j0)=out∧∃vn ou Pc vz h19,s=⟨ah.fz l0 :: .any::vn :: .any :: .any :: .rs iu 0 bF.length 1::oH (.bool jJ :: .rs vz 0 bT.length 1::ou::pq [Pc,.any,.any]),[],h19⟩∧Has h19 ((vz,.sl bT.length 1 (aa.l bT))::(iu,.sl bF.length 1 (aa.l bF))::(iY,.sl aY.length 1 (aa.l aY))::L))):=by
 refine ig (fun _=>rfl) ?_
 rintro k ⟨jJ,bT,j0⟩ s out ⟨vz,h19,rfl,Jl⟩ H
 have H:af.l5 m l0 bF aY (k+1) jJ bT j0=some out:=H
 refine qq <| qq <| q0 <| qc H (fun tX H=>?_) (fun tX H=>?_)
 ·refine qk <| qq <| qb 11 <| qq ?_
  obtain⟨mo,Me,H⟩:=aI H
  refine qr [.v 2 (aE (k:=.i64) (E:=aa) (l:=bF) (q:=1) dJ Jl rfl Me),.v 3 (bf  (E:=aa) (l:=bF) (q:=1) Jl rfl A3 Me rfl)] <| qq ?_
  obtain⟨Nn,Nd,H⟩:=aI H
  obtain⟨h20,OP,OQ⟩:=dM (P:=Tryz.prog) (tf:=3) (E:=aa) (l:=bT) (q:=0) (v:=mo) (x:=.int .i64 mo) Jl rfl Z3 Nd rfl rfl
  refine qr [.v 3 (aE (k:=.i64) (E:=aa) (l:=bT) (q:=0) dJ Jl rfl Nd),.w 4 OP] <| qq <| qq <| q0 <| qb 12 ?_
  obtain⟨cF,WM,H⟩:=aI H
  refine ql (af.HH L l0 iu bF iu iY aY iY jJ j0 mo  uJ (bT.set mo.toNat mo,(0:Int)) _ _ ⟨vz,h20,(Zf (b:=⟨ah.fz l0 :: .any :: .rs iY 0 aY.length 1 :: .any :: .any :: .rs iu 0 bF.length 1::oH (.bool jJ :: .rs vz 0 bT.length 1 :: .int .i64 j0 :: .int .i64 mo :: .int .i64 (0:Int)::oq []),[],h20⟩) (by kernel_rfl) (by simp only [Yt])),(by have o:Has h20 ((vz,.sl bT.length 1 (aa.l (bT.set mo.toNat mo)))::(iu,.sl bF.length 1 (aa.l bF))::(iY,.sl aY.length 1 (aa.l aY))::L):=OQ; simpa only [Yt] using o)⟩ WM) ?_
  rintro e s ⟨rfl,rL,k3,rfl,g14,g15,Pd,h23,rfl,Iu⟩
  try dsimp only at H
  rcases dQ H with⟨Kx,H⟩| ⟨Kx,H⟩
  ·exact qr [.b 1 Kx] <| q0 <| ⟨(true,rL,i64.wrap (j0+(1:Int))),⟨Pd,h23,by kernel_rfl,Iu⟩,H⟩
  ·obtain⟨v28,UO,H⟩:=aI H
   obtain⟨Sw,UP,H⟩:=aI H
   exact qr [.b 1 Kx,.v 4 (aE (k:=.i64) (E:=aa) (l:=rL) (q:=0) dJ Iu rfl UO),.v 5 (bf  (E:=aa) (l:=rL) (q:=0) Iu rfl A3 UO rfl),.v 8 (aE (k:=.i64) (E:=aa) (l:=aY) (q:=2) dJ Iu rfl UP),.v 9 (bf  (E:=aa) (l:=aY) (q:=2) Iu rfl A3 UP rfl)] <| q0 <| ⟨(!(v28==Sw),rL,i64.wrap (j0+(1:Int))),⟨Pd,h23,by kernel_rfl,Iu⟩,H⟩
 ·exact qx 10 <| ⟨rfl,jJ,bT,j0,oi H,.rs iY 0 aY.length 1,.int .i64 j0,.bool (decide (j0<(bF.length:Int))),vz,h19,by kernel_rfl,Jl⟩
theorem af.uk (L:Mem)(l0:List ab)(iu:Nat)(bF:List Int)(iu:Nat)  (uJ:Mt cf m):bL Tryz.prog cf mX m (sub [1,1,1,1,1,1,0,1,0,0] (codeOf Tryz.f62)) (fun k (σ:(List Int) × Bool)=>af.l4 m l0 bF k σ.1 σ.2) (fun σ s=>match σ with | (aY,nS)=>∃iY h17,s=⟨ah.fz l0 :: .any :: .rs iY 0 aY.length 1 :: .any :: .any :: .rs iu 0 bF.length 1::oH (.bool nS::Gi []),[],h17⟩∧Has h17 ((iu,.sl bF.length 1 (aa.l bF))::(iY,.sl aY.length 1 (aa.l aY))::L)) (fun out e s=>(e = .exit 8∧∃aY nS,(aY,nS)=out∧∃lP Ew Gq HJ iY h17,s=⟨lP :: .any :: .rs iY 0 aY.length 1 :: .any :: .any::Ew::oH (Gq::oq (HJ::kK [])),[],h17⟩∧Has h17 ((iu,.sl bF.length 1 (aa.l bF))::(iY,.sl aY.length 1 (aa.l aY))::L))):=by
 refine ig (fun _=>rfl) ?_
 rintro k ⟨aY,nS⟩ s out ⟨iY,h17,rfl,xY⟩ H
 have H:af.l4 m l0 bF (k+1) aY nS=some out:=H
 refine qq <| qq <| q0 <| qc H (fun rY H=>?_) (fun rY H=>?_)
 ·refine qk <| qb 9 <| qq <| q0 <| qq <| q0 ?_
  have GY:Has h17 (((((0))),.sl (([]:List Int).length) 1 (aa.l ([]:List Int)))::(iu,.sl bF.length 1 (aa.l bF))::(iY,.sl aY.length 1 (aa.l aY))::L):=Has.nil xY 1
  refine qq ?_
  obtain⟨x7,ON,H⟩:=aI H
  obtain⟨Sz,h18,OO,E7⟩:=fP (P:=Tryz.prog) (E:=aa) (l:=([]:List Int)) (q:=0) (t2:=28) (x:=.rs iY 0 aY.length 1) (l2:=aY) dJ GY rfl (Eb (E:=aa) (l:=aY) (q:=2) GY rfl) rfl ON
  refine qr [.a 2 OO] <| qq <| qq <| q0 <| qb 10 ?_
  obtain⟨uv,WN,H⟩:=aI H
  refine ql (af.HI L l0 iu bF iu iY aY iY  uJ (false,x7,(0:Int)) _ _ ⟨Sz,h18,by kernel_rfl,E7⟩ WN) ?_
  rintro e s ⟨rfl,HE,z6,j1,rfl,g16,g17,g18,Pe,h24,rfl,OR⟩
  try dsimp only at H
  refine q0 ?_
  have OS:Has h24 ((Pe,.sl z6.length 1 (aa.l z6))::(iu,.sl bF.length 1 (aa.l bF))::L):=Has.del OR 2
  exact⟨(z6,HE),⟨Pe,h24,by kernel_rfl,(Has.front (Has.front OS 0 rfl) 1 rfl)⟩,H⟩
 ·exact qx 8 <| ⟨rfl,aY,nS,oi H,ah.fz l0,.rs iu 0 bF.length 1,.any,.bool nS,iY,h17,by kernel_rfl,xY⟩
theorem oC {aU:FuncId→cm}(ha:aU 62=mX)(HF:Qa cf m)(HG:Qb cf m)(vw:Nk cf m)(uJ:Mt cf m)(l0:List ab)(h:AHeap)(L:Mem)  (o:Has h (L)){out:(List Int)}(H:af.f m l0=some out) :
  ∃r h',be Tryz.prog aU cf m 62 [ah.fz l0] h=some (r,h')∧gu h' r (aa.fz out):=by
 refine aq (fn:=Tryz.f62) ha Tryz.func62 (by kernel_rfl) (by kernel_rfl) ?_
 refine aG (Q:=fun s=>af.fin L out s) (fun _ _ h=>h) ?_
 have H:_=some out:=H
 unfold af.f at H
 show dt _ cf mX m _ ⟨ah.fz l0::Rc [],[],h⟩ _
 refine q1 <| qq ?_
 obtain⟨x0,e0,H⟩:=aI H
 obtain⟨az,h0,e1,o0⟩:=om (P:=Tryz.prog) (E:=aa) (z:=(0:Int)) (zv:=.int .i64 (0:Int)) dJ o 3 rfl rfl rfl rfl e0
 refine qr [.a 2 e1] <| qq ?_
 obtain⟨x1,e2,H⟩:=aI H
 obtain⟨fK,h1,e3,o1⟩:=om (P:=Tryz.prog) (E:=cJ) (z:=false) (zv:=.bool false) vl o0 4 rfl rfl rfl rfl e2
 refine qr [.a 2 e3] <| qq <| q0 ?_
 have o2:Has h1 (((0),.sl (([]:List Int).length) 1 (aa.l ([]:List Int)))::(fK,.sl x1.length 1 (cJ.l x1))::(az,.sl x0.length 1 (aa.l x0))::L):=Has.nil o1 1
 have o3:Has h1 ((((0)),.sl (([]:List Int).length) 1 (aa.l ([]:List Int)))::((0),.sl (([]:List Int).length) 1 (aa.l ([]:List Int)))::(fK,.sl x1.length 1 (cJ.l x1))::(az,.sl x0.length 1 (aa.l x0))::L):=Has.nil o2 1
 refine qq <| qq <| q0 <| qb 0 ?_
 obtain⟨bR,CN,H⟩:=aI H
 refine ql (af.bP L l0  HF HG (x0,x1,([]:List Int),true) _ _ ⟨.any,.any,(0),fK,az,h1,by kernel_rfl,o3⟩ CN) ?_
 rintro e s ⟨rfl,uK,dW,JC,O9,rfl,g4,g5,g6,g7,g8,fW,hZ,kg,h9,rfl,wq⟩
 try dsimp only at H
 refine qq <| qq <| q0 ?_
 have ug:Has h9 ((((0)),.sl (([]:List Int).length) 1 (aa.l ([]:List Int)))::(hZ,.sl dW.length 1 (cJ.l dW))::(kg,.sl uK.length 1 (aa.l uK))::L):=Has.del wq 1
 refine qb 4 ?_
 obtain⟨mN,Nc,H⟩:=aI H
 refine ql (af.pC L l0 hZ dW hZ  vw (uK,([]:List Int),(0:Int)) _ _ ⟨((0)),kg,h9,by kernel_rfl,ug⟩ Nc) ?_
 rintro e s ⟨rfl,uL,bF,i3,rfl,g11,g12,g13,iu,Pf,h16,rfl,Ev⟩
 try dsimp only at H
 refine qq <| qq <| q0 ?_
 have Md:Has h16 ((iu,.sl bF.length 1 (aa.l bF))::(Pf,.sl uL.length 1 (aa.l uL))::L):=Has.del Ev 1
 refine qb 8 ?_
 obtain⟨gO,WO,H⟩:=aI H
 refine ql (af.uk L l0 iu bF iu  uJ (uL,true) _ _ ⟨Pf,h16,by kernel_rfl,Md⟩ WO) ?_
 rintro e s ⟨rfl,qT,Pa,rfl,g19,g20,g21,g22,Pg,h25,rfl,PV⟩
 try dsimp only at H
 refine q1 ?_
 have RJ:Has h25 ((Pg,.sl qT.length 1 (aa.l qT))::L):=Has.del PV 0
 obtain rfl:=oi H
 exact qt <| ⟨.inl rfl,cp (.rs Pg 0 qT.length 1) h25 (ck (zj (E:=aa) (l:=qT) (q:=0) RJ rfl (fun _=>rfl)))⟩
end
end Go.Proofs.YtmekcfdllhphlaaGreatDoor
namespace Go.Proofs.YtmekcfdllhphlaaGreatDoor
open Go Go.R
open Go.IntKind (i64 u64 u8 u32)
def gb (l:List Bool)(k:Nat):Bool:=l.getD k false
theorem JD {l:List Bool}{k:Nat}(h:k<l.length):l[k]? = some (gb l k):=by
 unfold gb; rw [YB,Yv h]; rfl
theorem Dd {l:List Bool}{i:Int}(h0:0≤i)(h:i.toNat<l.length):ix l i=some (gb l i.toNat):=by
 unfold ix; rw [if_pos h0,JD h]
theorem HK {l:List Bool}{i k:Nat}{x:Bool}(hi:i<l.length):gb (l.set i x) k=if k=i then x else gb l k:=by
 unfold gb
 simp only [YB,ZH]
 by_cases h:i=k
 ·subst h; simp [hi]
 ·rw [if_neg h,if_neg (by omega)]
def ar (l:List ab)(i k:Nat):Nat:=(gt (nd l i).args k).toNat
def na (l:List ab)(i:Nat):Nat:=(nd l i).args.length
theorem kC {l:List ab}(ok:lz l){i k:Nat}(hi:i<l.length)(hk:k<na l i):ar l i k<l.length∧gt (nd l i).args k=(ar l i k:Int):=by
 obtain⟨h0,h1⟩:=(zI ok hi).2 _ (aJ (l:=(nd l i).args) (k:=k) hk)
 unfold ar; omega
theorem De {l:List ab}(ok:lz l){i:Nat}(hi:i<l.length):na l i≤8:=(zI ok hi).1
theorem uM {m:Nat}(a b:ab):∃x,fe.f m a b=some x∧(x=true↔Alike a b):=by
 unfold fe.f
 by_cases h1:a.kind=b.kind
 ·rw [if_pos (by simpa using h1)]
  by_cases h2:a.int=b.int
  ·rw [if_pos (by simpa using h2)]
   by_cases h3:a.label=b.label
   ·rw [if_pos (by rw [h3]; simp)]
    refine⟨_,rfl,⟨fun h=>⟨h1,h2,h3,by have:=beq_iff_eq.1 h; omega⟩,fun h=>by have:=h.len; rw [beq_iff_eq]; omega⟩⟩
   ·rw [if_neg (fun h=>h3 (BD (by simpa using h)))]
    exact⟨_,rfl,⟨fun h=>(by cases h),fun h=>absurd h.label h3⟩⟩
  ·rw [if_neg (by simpa using h2)]
   exact⟨_,rfl,⟨fun h=>(by cases h),fun h=>absurd h.int h2⟩⟩
 ·rw [if_neg (by simpa using h1)]
  exact⟨_,rfl,⟨fun h=>(by cases h),fun h=>absurd h.kind h1⟩⟩
def SA (l:List ab)(c:List Int)(i j:Nat):Prop:=∀k,k<na l i→gt c (ar l i k)=gt c (ar l j k)
theorem Ky {m:Nat}{l:List ab}{c:List Int}(ok:lz l)(hc:c.length=l.length){i j:Nat}(hi:i<l.length)(hj:j<l.length)(hl:na l i=na l j):∀(f k:Nat),na l i - k<f→k≤na l i→
  ∃o,bm.l0 m (nd l i) (nd l j) c f (k:Int)=some o∧((∃x,o = .inr x)∧(∀q,k≤q→q<na l i→gt c (ar l i q)=gt c (ar l j q))∨o = .inl false∧∃q,q<na l i∧gt c (ar l i q)≠gt c (ar l j q))
 | 0,k,hf,_=>absurd hf (by omega)
 | f+1,k,hf,hk=>by
  have h8:=De ok hi
  unfold bm.l0
  by_cases h:k<na l i
  ·obtain⟨a1,a2⟩:=kC ok hi h
   obtain⟨b1,b2⟩:=kC ok hj (show k<na l j by omega)
   have e1:ix c (gt (nd l i).args k)=some (gt c (ar l i k)):=gn a2 (by omega)
   have e2:ix c (gt (nd l j).args k)=some (gt c (ar l j k)):=gn b2 (by omega)
   rw [if_pos (by simp only [decide_eq_true_eq]; unfold na at h; omega),cy (l:=(nd l i).args) h,Yj,e1,Yj,cy (l:=(nd l j).args) (show k<(nd l j).args.length by unfold na at hl h; omega),Yj,e2,Yj]
   by_cases e:gt c (ar l i k)=gt c (ar l j k)
   ·obtain⟨o,k1,k2⟩:=Ky (m:=m) ok hc hi hj hl f (k+1) (by omega) (by omega)
    rw [if_neg (by simp [e]),aA (by omega) (by omega),show (k:Int)+1=((k+1:Nat):Int) by omega,k1]
    refine⟨o,rfl,k2.imp (fun ⟨x,y⟩=>⟨x,fun q q1 q2=>?_⟩) id⟩
    by_cases hq:q=k
    ·subst hq; exact e
    ·exact y q (by omega) q2
   ·rw [if_pos (by simpa using e)]
    exact⟨_,rfl,.inr ⟨rfl,k,h,e⟩⟩
  ·refine⟨_,by rw [if_neg (by simp only [decide_eq_true_eq]; unfold na at h; omega)],.inl ⟨⟨_,rfl⟩,fun q q1 q2=>absurd q2 (by omega)⟩⟩
theorem Df {m:Nat}(hm:2 ^ 30≤m){l:List ab}{c:List Int}(ok:lz l)(hc:c.length=l.length){i j:Nat}(hi:i<l.length)(hj:j<l.length)(hl:na l i=na l j):∃x,bm.f m (nd l i) (nd l j) c=some x∧(x=true↔SA l c i j):=by
 have lE:(2:Nat) ^ 30=1073741824:=by decide
 have h8:=De ok hi
 obtain⟨o,k1,k2⟩:=Ky (m:=m) ok hc hi hj hl m 0 (by omega) (by omega)
 have k1:bm.l0 m (nd l i) (nd l j) c m 0=_:=k1
 unfold bm.f
 rw [k1,Yj]
 rcases k2 with⟨⟨x,rfl⟩,k⟩| ⟨rfl,q,q1,q2⟩
 ·exact⟨true,rfl,⟨fun _ k0 hk=>k k0 (by omega) hk,fun _=>rfl⟩⟩
 ·exact⟨false,rfl,⟨fun h=>(by cases h),fun h=>absurd (h q q1) q2⟩⟩
def UQ (l:List ab)(dn:List Bool)(i:Nat):Prop:=∀k,k<na l i→gb dn (ar l i k)=true
theorem HL {m:Nat}{l:List ab}{dn:List Bool}(ok:lz l)(hd:dn.length=l.length){i:Nat}(hi:i<l.length):∀(f k:Nat),na l i - k<f→k≤na l i→
  ∃o,b4.l0 m (nd l i) dn f (k:Int)=some o∧((∃x,o = .inr x)∧(∀q,k≤q→q<na l i→gb dn (ar l i q)=true)∨o = .inl false∧∃q,q<na l i∧gb dn (ar l i q)=false)
 | 0,k,hf,_=>absurd hf (by omega)
 | f+1,k,hf,hk=>by
  have h8:=De ok hi
  unfold b4.l0
  by_cases h:k<na l i
  ·obtain⟨a1,a2⟩:=kC ok hi h
   have e1:ix dn (gt (nd l i).args k)=some (gb dn (ar l i k)):=by
    have:=Dd (l:=dn) (i:=gt (nd l i).args k) (by omega) (by rw [a2,Yq]; omega)
    rw [this,a2,Yq]
   rw [if_pos (by simp only [decide_eq_true_eq]; unfold na at h; omega),cy (l:=(nd l i).args) h,Yj,e1,Yj]
   cases e:gb dn (ar l i k) with
   | true=>
    obtain⟨o,k1,k2⟩:=HL (m:=m) ok hd hi f (k+1) (by omega) (by omega)
    rw [if_neg (by simp),aA (by omega) (by omega),show (k:Int)+1=((k+1:Nat):Int) by omega,k1]
    refine⟨o,rfl,k2.imp (fun ⟨x,y⟩=>⟨x,fun q q1 q2=>?_⟩) id⟩
    by_cases hq:q=k
    ·subst hq; exact e
    ·exact y q (by omega) q2
   | false=>exact⟨_,rfl,.inr ⟨rfl,k,h,e⟩⟩
  ·refine⟨_,by rw [if_neg (by simp only [decide_eq_true_eq]; unfold na at h; omega)],.inl ⟨⟨_,rfl⟩,fun q q1 q2=>absurd q2 (by omega)⟩⟩
theorem HM {m:Nat}(hm:2 ^ 30≤m){l:List ab}{dn:List Bool}(ok:lz l)(hd:dn.length=l.length){i:Nat}(hi:i<l.length):∃x,b4.f m (nd l i) dn=some x∧(x=true→UQ l dn i)∧(x=false→∃q,q<na l i∧gb dn (ar l i q)=false):=by
 have lE:(2:Nat) ^ 30=1073741824:=by decide
 have h8:=De ok hi
 obtain⟨o,k1,k2⟩:=HL (m:=m) ok hd hi m 0 (by omega) (by omega)
 have k1:b4.l0 m (nd l i) dn m 0=_:=k1
 unfold b4.f
 rw [k1,Yj]
 rcases k2 with⟨⟨x,rfl⟩,k⟩| ⟨rfl,hq⟩
 ·exact⟨true,rfl,fun _ k0 hk=>k k0 (by omega) hk,fun h=>by cases h⟩
 ·exact⟨false,rfl,fun h=>(by cases h),fun _=>hq⟩
def rM (l:List ab)(c:List Int)(i j:Nat):Prop:=Alike (nd l i) (nd l j)∧SA l c i j
theorem Dg {m:Nat}(hm:2 ^ 30≤m){l:List ab}{c fs:List Int}(ok:lz l)(hc:c.length=l.length){i:Nat}(hi:i<l.length)(hf:∀f∈fs,0≤f∧f<l.length)(Lz:fs.length≤8000):∀(f k:Nat),fs.length - k<f→k≤fs.length→
  ∃o,b9.l0 m l fs (i:Int) c f (k:Int)=some o∧((∃x,o = .inr x)∧(∀q,k≤q→q<fs.length→¬rM l c i (gt fs q).toNat)∨∃v,o = .inl v∧v∈fs∧rM l c i v.toNat)
 | 0,k,h,_=>absurd h (by omega)
 | f+1,k,h,hk=>by
  unfold b9.l0
  by_cases IC:k<fs.length
  ·obtain⟨b0,b1⟩:=hf _ (aJ IC)
   have Ph:((gt fs k).toNat:Int)=gt fs k:=by omega
   obtain⟨xa,a1,a2⟩:=uM (m:=m) (nd l (i:Int)) (nd l (gt fs k))
   have ih:=Dg hm ok hc hi hf Lz f (k+1) (by omega) (by omega)
   obtain⟨o,k1,k2⟩:=ih
   have next:¬rM l c i (gt fs k).toNat→∃o',(b9.l0 m l fs (i:Int) c f (i64.wrap ((k:Int)+1)))=some o'∧((∃x,o' = .inr x)∧(∀q,k≤q→q<fs.length→¬rM l c i (gt fs q).toNat)∨∃v,o' = .inl v∧v∈fs∧rM l c i v.toNat):=fun hn=>by
    rw [aA (by omega) (by omega),show (k:Int)+1=((k+1:Nat):Int) by omega,k1]
    refine⟨o,rfl,k2.imp (fun ⟨x,y⟩=>⟨x,fun q q1 q2=>?_⟩) id⟩
    by_cases hq:q=k
    ·subst hq; exact hn
    ·exact y q (by omega) q2
   rw [if_pos (by simp only [decide_eq_true_eq]; omega),il (by omega) (by omega),Yj,cy IC,Yj,il b0 b1,Yj,a1,Yj]
   cases xa with
   | false=>
    rw [if_neg (by simp)]
    refine next fun hs=>?_
    have:=a2.2 (by have:=hs.1; rw [Ph] at this; exact this)
    cases this
   | true=>
    have hA:=a2.1 rfl
    have hl:na l i=na l (gt fs k).toNat:=by unfold na; rw [Ph]; exact hA.len
    obtain⟨xs,s1,s2⟩:=Df hm ok hc hi (j:=(gt fs k).toNat) (by omega) hl
    rw [Ph] at s1
    rw [if_pos rfl,Yj,Yj,il b0 b1,Yj,s1,Yj]
    cases xs with
    | false=>
     rw [if_neg (by simp)]
     refine next fun hs=>?_
     have:=s2.2 hs.2; cases this
    | true=>
     exact⟨_,rfl,.inr ⟨_,rfl,aJ IC,by rw [Ph]; exact hA,s2.1 rfl⟩⟩
  ·exact⟨_,by rw [if_neg (by simp only [decide_eq_true_eq]; omega)],.inl ⟨⟨_,rfl⟩,fun q q1 q2=>absurd q2 (by omega)⟩⟩
theorem find_spec {m:Nat}(hm:2 ^ 30≤m){l:List ab}{c fs:List Int}(ok:lz l)(hc:c.length=l.length){i:Nat}(hi:i<l.length)(hf:∀f∈fs,0≤f∧f<l.length)(Lz:fs.length≤8000) :
  ∃v,b9.f m l fs (i:Int) c=some v∧(v=i∧(∀f∈fs,¬rM l c i f.toNat)∨v∈fs∧rM l c i v.toNat):=by
 have lE:(2:Nat) ^ 30=1073741824:=by decide
 obtain⟨o,k1,k2⟩:=Dg hm ok hc hi hf Lz m 0 (by omega) (by omega)
 have k1:b9.l0 m l fs (i:Int) c m 0=_:=k1
 unfold b9.f
 rw [k1,Yj]
 rcases k2 with⟨⟨x,rfl⟩,k⟩| ⟨v,rfl,hv,hs⟩
 ·refine⟨_,rfl,.inl ⟨rfl,fun f hf=>?_⟩⟩
  obtain⟨q,hq,e⟩:=eW hf
  rw [←e]; exact k q (by omega) hq
 ·exact⟨v,rfl,.inr ⟨hv,hs⟩⟩
end Go.Proofs.YtmekcfdllhphlaaGreatDoor
namespace Go.Proofs.YtmekcfdllhphlaaGreatDoor
open Go Go.R
open Go.IntKind (i64 u64 u8 u32)
def wI:cm:=gI [0,1,4,5,6,7,8,9,19,34,50] [] [2044,2036,1988,1990,1734,1926,1926,1414,1926,1926,1798,774,1798,1798,2043] [] [(2,[(6,none,1),(7,none,1)])]
def aK.l1 (m:Nat)(l0:List ab)(v0:Int):Nat→(List Int)→Int→Option ((List Int) × Int)
 | 0,_,_=>none
 | k+1,gp,i0=>if (decide (i0≥(0:Int)))=true then ((ix l0 v0).bind fun v5=>(ix v5.args i0).bind fun v6=>(app 8 gp ([v6])).bind fun x3=>aK.l1 m l0 v0 k x3 (i64.wrap (i0 - (1:Int)))) else (some ((gp,i0)))
def aK.l0 (m:Nat)(l0:List ab):Nat→(List Bool)→(List Int)→(List Int)→Option ((List Bool) × (List Int) × (List Int))
 | 0,_,_,_=>none
 | k+1,fj,bg,fk=>if (decide ((fk.length:Int) > (0:Int)))=true then ((ix fk (i64.wrap ((fk.length:Int) - (1:Int)))).bind fun v0=>(lD fk 0 (i64.wrap ((fk.length:Int) - (1:Int)))).bind fun v1=>(ix fj v0).bind fun v2=>if v2=true then (aK.l0 m l0 k fj bg v1) else ((ix fj v0).bind fun v3=>(app 8 bg ([v0])).bind fun x2=>(ix l0 v0).bind fun v4=>(aK.l1 m l0 v0 m v1 (i64.wrap ((v4.args.length:Int) - (1:Int)))).bind fun bR=>match bR with | (qX,i1)=>aK.l0 m l0 k (fj.set v0.toNat true) x2 qX)) else (some ((fj,bg,fk)))
def aK.f (m:Nat)(l0:List ab)(gQ:Int):Option ((List Int)):=(vh 1 (l0.length:Int) false).bind fun x0=>(app 8 ([]:List Int) ([gQ])).bind fun x1=>(aK.l0 m l0 m x0 ([]:List Int) x1).bind fun mN=>match mN with | (SB,ik,BN)=>some ik
def aK.fin (L:Mem)(r:(List Int))(s:St):Prop:=∃av,aH Tryz.prog (s.open wI) Tryz.f61.results.toList=some av∧gu s.h av (aa.fz r)
def UR (cf:CallF)(m:Nat):Prop:=∀(l0:List ab) (gQ:Int) (r:(List Int)),aK.f m l0 gQ=some r→∀h xs,eY fq h xs [ah.fz l0,.int .i64 gQ]→cf 61 xs h=some (aa.fz r,h)
section
variable {cf:CallF}{m:Nat}
theorem aK.fC (L:Mem)(l0:List ab)(dh:Nat)(fj:List Bool)(dh:Nat)(v0:Int)(x2:List Int)(hX:Nat)   : bL Tryz.prog cf wI m (sub [1,1,1,1,0,0,0,1,0,1,1,1,1,1,1,0,0] (codeOf Tryz.f61)) (fun k (σ:(List Int) × Int)=>aK.l1 m l0 v0 k σ.1 σ.2) (fun σ s=>match σ with | (gp,i0)=>∃hY h5,s=⟨ah.fz l0 :: .any :: .any :: .rs dh 0 fj.length 1 :: .rs hX 0 x2.length 1 :: .rs hY 0 gp.length 1 :: .int .i64 v0 :: .int .i64 i0::kK [],[],h5⟩∧Has h5 ((hY,.sl gp.length 1 (aa.l gp))::(hX,.sl x2.length 1 (aa.l x2))::(dh,.sl fj.length 1 (cJ.l (fj.set v0.toNat true)))::L)) (fun out e s=>(e = .exit 2∧∃gp i0,(gp,i0)=out∧∃r6 ud Mw hY h5,s=⟨[ah.fz l0,.any,.any,.rs dh 0 fj.length 1,.rs hX 0 x2.length 1,.rs hY 0 gp.length 1,r6,ud,.any,.any,Mw],[],h5⟩∧Has h5 ((hY,.sl gp.length 1 (aa.l gp))::(hX,.sl x2.length 1 (aa.l x2))::(dh,.sl fj.length 1 (cJ.l (fj.set v0.toNat true)))::L))):=by
 refine ig (fun _=>rfl) ?_
 rintro k ⟨gp,i0⟩ s out ⟨hY,h5,rfl,o8⟩ H
 have H:aK.l1 m l0 v0 (k+1) gp i0=some out:=H
 refine qq <| qq <| q0 <| qc H (fun c2 H=>?_) (fun c2 H=>?_)
 ·refine qk <| qq <| qb 3 ?_
  obtain⟨v5,sK,H⟩:=aI H
  obtain⟨v6,sL,H⟩:=aI H
  obtain⟨x3,uo,H⟩:=aI H
  obtain⟨iJ,h6,sM,o9⟩:=fP (P:=Tryz.prog) (E:=aa) (l:=gp) (q:=0) (t2:=28) (x:=.fz [.int .i64 v6] 1 true) (l2:=([v6])) dJ o8 rfl (by kernel_rfl) rfl uo
  exact qr [.v 3 (bI (k:=.i64) (E:=ah) (l:=l0) mf sK),.v 5 (jD  (E:=ah) (l:=l0) (off:=3) h5 LQ sK rfl),.v 7 (bI (k:=.i64) (E:=aa) (l:=v5.args) dJ sL),.v 8 (dv  (E:=aa) (l:=v5.args) h5 A3 sL rfl),.a 10 sM] <| q0 <| ⟨(x3,i64.wrap (i0 - (1:Int))),⟨iJ,h6,(Zf (b:=⟨ah.fz l0 :: .any :: .any :: .rs dh 0 fj.length 1 :: .rs hX 0 x2.length 1 :: .rs iJ 0 x3.length 1 :: .int .i64 v0 :: .int .i64 (i64.wrap (i0 - (1:Int)))::kK [],[],h6⟩) (by kernel_rfl) (by simp only [Yt])),(by have o:Has h6 ((iJ,.sl x3.length 1 (aa.l x3))::(hX,.sl x2.length 1 (aa.l x2))::(dh,.sl fj.length 1 (cJ.l (fj.set v0.toNat true)))::L):=o9; simpa only [Yt] using o)⟩,H⟩
 ·exact qx 2 <| ⟨rfl,gp,i0,oi H,.int .i64 v0,.int .i64 i0,.bool (decide (i0≥(0:Int))),hY,h5,(Zf (b:=⟨[ah.fz l0,.any,.any,.rs dh 0 fj.length 1,.rs hX 0 x2.length 1,.rs hY 0 gp.length 1,.int .i64 v0,.int .i64 i0,.any,.any,.bool (decide (i0≥(0:Int)))],[],h5⟩) (by kernel_rfl) (by simp only [Yt])),(by have o:Has h5 ((hY,.sl gp.length 1 (aa.l gp))::(hX,.sl x2.length 1 (aa.l x2))::(dh,.sl fj.length 1 (cJ.l (fj.set v0.toNat true)))::L):=o8; simpa only [Yt] using o)⟩
theorem aK.bP (L:Mem)(l0:List ab)   : bL Tryz.prog cf wI m (sub [1,1,1,1,0,0,0] (codeOf Tryz.f61)) (fun k (σ:(List Bool) × (List Int) × (List Int))=>aK.l0 m l0 k σ.1 σ.2.1 σ.2.2) (fun σ s=>match σ with | (fj,bg,fk)=>∃g0 g1 g2 g3 gY fu dh h2,s=⟨[ah.fz l0,.any,.any,.rs dh 0 fj.length 1,.rs fu 0 bg.length 1,.rs gY 0 fk.length 1,g0,g1,.any,g2,g3],[],h2⟩∧Has h2 ((gY,.sl fk.length 1 (aa.l fk))::(fu,.sl bg.length 1 (aa.l bg))::(dh,.sl fj.length 1 (cJ.l fj))::L)) (fun out e s=>(e = .exit 0∧∃fj bg fk,(fj,bg,fk)=out∧∃lP zG xL r6 ud HN Gz Mw gY fu dh h2,s=⟨[lP,.any,.any,zG,.rs fu 0 bg.length 1,xL,r6,ud,HN,Gz,Mw],[],h2⟩∧Has h2 ((gY,.sl fk.length 1 (aa.l fk))::(fu,.sl bg.length 1 (aa.l bg))::(dh,.sl fj.length 1 (cJ.l fj))::L))):=by
 refine ig (fun _=>rfl) ?_
 rintro k ⟨fj,bg,fk⟩ s out ⟨g0,g1,g2,g3,gY,fu,dh,h2,rfl,o4⟩ H
 have H:aK.l0 m l0 (k+1) fj bg fk=some out:=H
 refine qq <| qq <| q0 <| qc H (fun c0 H=>?_) (fun c0 H=>?_)
 ·refine qk <| qb 1 <| qq ?_
  obtain⟨v0,e4,H⟩:=aI H
  refine qr [.v 4 (aE (k:=.i64) (E:=aa) (l:=fk) (q:=0) dJ o4 rfl e4),.v 5 (bf  (E:=aa) (l:=fk) (q:=0) o4 rfl A3 e4 rfl)] <| qq ?_
  obtain⟨v1,e5,H⟩:=aI H
  obtain⟨SC,o5⟩:=LA (P:=Tryz.prog) (k:=.i64) (E:=aa) (q:=0) o4 rfl dJ e5
  refine qr [.v 4 SC] <| qq <| qq ?_
  obtain⟨v2,e6,H⟩:=aI H
  refine qr [.v 2 (aE (k:=.i64) (E:=cJ) (l:=fj) (q:=2) vl o5 rfl e6),.v 3 (bf  (E:=cJ) (l:=fj) (q:=2) o5 rfl A4 e6 rfl)] <| qc H (fun c1 H=>?_) (fun c1 H=>?_)
  ·exact qx 1 <| ⟨(fj,bg,v1),⟨.int .i64 v0,.any,.bool v2,.any,gY,fu,dh,h2,by kernel_rfl,o5⟩,H⟩
  ·refine qk <| qq ?_
   obtain⟨v3,e7,H⟩:=aI H
   obtain⟨h3,e8,o6⟩:=dM (P:=Tryz.prog) (tf:=4) (E:=cJ) (l:=fj) (q:=2) (v:=true) (x:=.bool true) o5 rfl Z4 e7 rfl rfl
   refine qr [.v 2 (aE (k:=.i64) (E:=cJ) (l:=fj) (q:=2) vl o5 rfl e7),.w 3 e8] <| qq ?_
   obtain⟨x2,e9,H⟩:=aI H
   obtain⟨hX,h4,ow,o7⟩:=fP (P:=Tryz.prog) (E:=aa) (l:=bg) (q:=1) (t2:=28) (x:=.fz [.int .i64 v0] 1 true) (l2:=([v0])) dJ o6 rfl (by kernel_rfl) rfl e9
   refine qr [.a 3 ow] <| qq ?_
   obtain⟨v4,rI,H⟩:=aI H
   refine qr [.v 2 (bI (k:=.i64) (E:=ah) (l:=l0) mf rI),.v 4 (jD  (E:=ah) (l:=l0) (off:=3) h4 LQ rI rfl)] <| qb 2 ?_
   obtain⟨bR,wy,H⟩:=aI H
   refine ql (aK.fC L l0 dh fj dh v0 x2 hX   (v1,i64.wrap ((v4.args.length:Int) - (1:Int))) _ _ ⟨gY,h4,(Zf (b:=⟨ah.fz l0 :: .any :: .any :: .rs dh 0 fj.length 1 :: .rs hX 0 x2.length 1 :: .rs gY 0 v1.length 1 :: .int .i64 v0 :: .int .i64 (i64.wrap ((v4.args.length:Int) - (1:Int)))::kK [],[],h4⟩) (by kernel_rfl) (by simp only [Yt])),(by have o:Has h4 ((gY,.sl v1.length 1 (aa.l v1))::(hX,.sl x2.length 1 (aa.l x2))::(dh,.sl fj.length 1 (cJ.l (fj.set v0.toNat true)))::L):=o7; simpa only [Yt] using o)⟩ wy) ?_
   rintro e s ⟨rfl,qX,i1,rfl,g4,g5,g6,ly,h7,rfl,vo⟩
   try dsimp only at H
   exact⟨(fj.set v0.toNat true,x2,qX),⟨g4,g5,.any,g6,ly,hX,dh,h7,(Zf (b:=⟨[ah.fz l0,.any,.any,.rs dh 0 fj.length 1,.rs hX 0 x2.length 1,.rs ly 0 qX.length 1,g4,g5,.any,.any,g6],[],h7⟩) (by kernel_rfl) (by simp only [Yt])),(by have o:Has h7 ((ly,.sl qX.length 1 (aa.l qX))::(hX,.sl x2.length 1 (aa.l x2))::(dh,.sl fj.length 1 (cJ.l (fj.set v0.toNat true)))::L):=vo; simpa only [Yt] using o)⟩,H⟩
 ·exact qx 0 <| ⟨rfl,fj,bg,fk,oi H,ah.fz l0,.rs dh 0 fj.length 1,.rs gY 0 fk.length 1,.any,.any,.bool (decide ((fk.length:Int) > (0:Int))),.any,.any,gY,fu,dh,h2,by kernel_rfl,o4⟩
theorem oD {aU:FuncId→cm}(ha:aU 61=wI)  (l0:List ab)(gQ:Int)(h:AHeap)(L:Mem)  (o:Has h (L)){out:(List Int)}(H:aK.f m l0 gQ=some out) :
  ∃r h',be Tryz.prog aU cf m 61 [ah.fz l0,.int .i64 gQ] h=some (r,h')∧gu h' r (aa.fz out):=by
 refine aq (fn:=Tryz.f61) ha Tryz.func61 (by kernel_rfl) (by kernel_rfl) ?_
 refine aG (Q:=fun s=>aK.fin L out s) (fun _ _ h=>h) ?_
 have H:_=some out:=H
 unfold aK.f at H
 show dt _ cf wI m _ ⟨ah.fz l0 :: .int .i64 gQ::Ee [],[],h⟩ _
 refine q1 <| qq ?_
 obtain⟨x0,e0,H⟩:=aI H
 obtain⟨az,h0,e1,o0⟩:=om (P:=Tryz.prog) (E:=cJ) (z:=false) (zv:=.bool false) vl o 4 rfl rfl rfl rfl e0
 refine qr [.a 2 e1] <| qq <| q0 ?_
 have o1:Has h0 (((0),.sl (([]:List Int).length) 1 (aa.l ([]:List Int)))::(az,.sl x0.length 1 (cJ.l x0))::L):=Has.nil o0 1
 have o2:Has h0 ((((0)),.sl (([]:List Int).length) 1 (aa.l ([]:List Int)))::((0),.sl (([]:List Int).length) 1 (aa.l ([]:List Int)))::(az,.sl x0.length 1 (cJ.l x0))::L):=Has.nil o1 1
 refine qq ?_
 obtain⟨x1,e2,H⟩:=aI H
 obtain⟨fK,h1,e3,o3⟩:=fP (P:=Tryz.prog) (E:=aa) (l:=([]:List Int)) (q:=0) (t2:=28) (x:=.fz [.int .i64 gQ] 1 true) (l2:=([gQ])) dJ o2 rfl (by kernel_rfl) rfl e2
 refine qr [.a 3 e3] <| qq <| qb 0 ?_
 obtain⟨mN,xQ,H⟩:=aI H
 refine ql (aK.bP L l0   (x0,([]:List Int),x1) _ _ ⟨.any,.any,.any,.any,fK,(0),az,h1,by kernel_rfl,o3⟩ xQ) ?_
 rintro e s ⟨rfl,SB,ik,BN,rfl,g7,g8,g9,g10,g11,g12,g13,g14,yz,eU,oA,h8,rfl,wq⟩
 try dsimp only at H
 refine q1 ?_
 have ug:Has h8 ((yz,.sl BN.length 1 (aa.l BN))::(eU,.sl ik.length 1 (aa.l ik))::L):=Has.del wq 2
 have mg:Has h8 ((eU,.sl ik.length 1 (aa.l ik))::L):=Has.del ug 0
 obtain rfl:=oi H
 exact qt <| ⟨.inl rfl,cp (.rs eU 0 ik.length 1) h8 (ck (zj (E:=aa) (l:=ik) (q:=0) mg rfl (fun _=>rfl)))⟩
end
end Go.Proofs.YtmekcfdllhphlaaGreatDoor
namespace Go.Proofs.YtmekcfdllhphlaaGreatDoor
open Go Go.R
open Go.IntKind (i64 u64 u8 u32)
inductive uN (κ:Int→Int)(A:Int→List Int):List Int→List Int→List Int→Prop
 | nil (o:List Int):uN κ A [] o o
 | skip {v:Int} {st o o':List Int}:κ v∈o.map κ→uN κ A st o o'→uN κ A (v::st) o o'
 | push {v:Int} {st o o':List Int}:κ v∉o.map κ→uN κ A (A v++st) (o++[v]) o'→uN κ A (v::st) o o'
theorem uN.US {κ:Int→Int}{A:Int→List Int}{st o o1 o2:List Int}(h:uN κ A st o o1)(k:uN κ A st o o2):o1=o2:=by
 induction h with
 | nil o=>cases k; rfl
 | skip hm _ ih=>
  cases k with
  | skip _ k=>exact ih k
  | push hn _=>exact absurd hm hn
 | push hn _ ih=>
  cases k with
  | skip hm _=>exact absurd hm hn
  | push _ k=>exact ih k
theorem uN.facts {κ:Int→Int}{A:Int→List Int}{n:Nat}{st o o':List Int}(h:uN κ A st o o')(hA:∀v:Int,0≤v→v<n→∀a∈A v,0≤a∧a<n)(hst:∀v∈st,0≤v∧v<n)(ho:∀v∈o,0≤v∧v<n)(Bz:(o.map κ).Nodup) :
  (∃t,o'=o++t)∧(∀v∈o',0≤v∧v<n)∧(o'.map κ).Nodup∧(∀v∈st,κ v∈o'.map κ)∧((∀v∈o,∀a∈A v,κ a∈o.map κ∨a∈st)→∀v∈o',∀a∈A v,κ a∈o'.map κ):=by
 induction h with
 | nil o=>
  refine⟨⟨[],by simp⟩,ho,Bz,?_,?_⟩
  ·intro v hv; cases hv
  ·intro h v hv a ha; exact (h v hv a ha).resolve_right (by simp)
 | @skip v st o o' hm _ ih=>
  obtain⟨⟨t,rfl⟩,a,b,c,d⟩:=ih (fun x hx=>hst x (by simp [hx])) ho Bz
  refine⟨⟨t,rfl⟩,a,b,fun x hx=>?_,fun h=>d fun x hx y hy=>?_⟩
  ·rcases YW.1 hx with rfl | hx
   ·rw [YP]; exact Y4 _ hm
   ·exact c x hx
  ·rcases h x hx y hy with h | h
   ·exact .inl h
   ·rcases YW.1 h with rfl | h
    ·exact .inl hm
    ·exact .inr h
 | @push v st o o' hn _ ih=>
  have hv:=hst v (by simp)
  have h1:∀x∈A v++st,0≤x∧x<n:=fun x hx=>by
   rcases Yy.1 hx with hx | hx
   ·exact hA v hv.1 hv.2 x hx
   ·exact hst x (by simp [hx])
  have h2:∀x∈o++[v],0≤x∧x<n:=fun x hx=>by
   rcases Yy.1 hx with hx | hx
   ·exact ho x hx
   ·rw [Yw] at hx; subst hx; exact hv
  have h3:((o++[v]).map κ).Nodup:=by
   rw [YP,Zw]
   refine⟨Bz,by simp,fun a ha b hb=>?_⟩
   simp only [YJ,List.map_nil,Yw] at hb
   subst hb; intro e; subst e; exact hn ha
  obtain⟨⟨t,rfl⟩,a,b,c,d⟩:=ih h1 h2 h3
  refine⟨⟨[v]++t,by simp⟩,a,b,fun x hx=>?_,fun h=>d fun x hx y hy=>?_⟩
  ·rcases YW.1 hx with rfl | hx
   ·simp
   ·exact c x (by simp [hx])
  ·rcases Yy.1 hx with hx | hx
   ·rcases h x hx y hy with h | h
    ·exact .inl (by rw [YP]; exact Y4 _ h)
    ·rcases YW.1 h with rfl | h
     ·exact .inl (by simp)
     ·exact .inr (by simp [h])
   ·rw [Yw] at hx; subst hx
    exact .inr (Y4 _ hy)
theorem uN.from {A:Int→List Int}{root:Int}{st o o':List Int}(h:uN id A st o o')(hst:∀v∈st,v=root∨∃q,q<o.length∧v∈A (gt o q))(ho:∀i,i<o.length→gt o i=root∨∃q,q<i∧gt o i∈A (gt o q)) :
  ∀i,i<o'.length→gt o' i=root∨∃q,q<i∧gt o' i∈A (gt o' q):=by
 induction h with
 | nil o=>exact ho
 | skip hm _ ih=>exact ih (fun x hx=>hst x (by simp [hx])) ho
 | @push v st o o' hn _ ih=>
  have gl:∀q,q<o.length→gt (o++[v]) q=gt o q:=fun q hq=>gX hq
  have gv:gt (o++[v]) o.length=v:=by unfold gt; rw [YB,YE (Yn _),ZT]; rfl
  refine ih (fun x hx=>?_) (fun i hi=>?_)
  ·rcases Yy.1 hx with hx | hx
   ·exact .inr ⟨o.length,by simp,by rw [gv]; exact hx⟩
   ·rcases hst x (by simp [hx]) with h | ⟨q,q1,q2⟩
    ·exact .inl h
    ·exact .inr ⟨q,by simp; omega,by rw [gl q q1]; exact q2⟩
  ·by_cases h:i<o.length
   ·rw [gl i h]
    rcases ho i h with h1 | ⟨q,q1,q2⟩
    ·exact .inl h1
    ·exact .inr ⟨q,q1,by rw [gl q (by omega)]; exact q2⟩
   ·have e:i=o.length:=by simp at hi; omega
    subst e
    rw [gv]
    rcases hst v (by simp) with h | ⟨q,q1,q2⟩
    ·exact .inl h
    ·exact .inr ⟨q,q1,by rw [gl q q1]; exact q2⟩
theorem z7 (cls:List Int)(l:List ab)(k:Nat)(i:Int)(o:List Int):rJ cls l (k+1) i o=if eu cls i∈o.map (eu cls) then o else (nd l i).args.foldl (fun o a=>rJ cls l k a o) (o++[i]):=rfl
theorem HO {cls:List Int}{l:List ab}(ok:lz l):∀(k:Nat) (i:Int) (o:List Int),0≤i→i<l.length→Vs cls l.length o→Vs cls l.length (rJ cls l k i o)∧o.length≤(rJ cls l k i o).length
 | 0,i,o,_,_,v=>⟨v,Yn _⟩
 | k+1,i,o,h0,h1,v=>by
  rw [z7]
  split
  ·exact⟨v,Yn _⟩
  ·rename_i h
   have v1:Vs cls l.length (o++[i]):=by
    refine⟨?_,fun x hx=>?_⟩
    ·rw [YP,Zw]
     refine⟨v.Iv,by simp,fun a ha b hb=>?_⟩
     simp only [YJ,List.map_nil,Yw] at hb
     subst hb; intro e; subst e; exact h ha
    ·rcases Yy.1 hx with hx | hx
     ·exact v.nP x hx
     ·simp only [Yw] at hx; subst hx; exact⟨h0,h1⟩
   have fold:∀(zs:List Int) (o:List Int),(∀a∈zs,0≤a∧a<l.length)→Vs cls l.length o→Vs cls l.length (zs.foldl (fun o a=>rJ cls l k a o) o)∧o.length≤(zs.foldl (fun o a=>rJ cls l k a o) o).length:=by
    intro zs
    induction zs with
    | nil=>intro o _ v; exact⟨v,Yn _⟩
    | cons a zs ih=>
     intro o ha v
     have hr:=ha a (by simp)
     obtain⟨v2,l2⟩:=HO ok k a o hr.1 hr.2 v
     obtain⟨v3,l3⟩:=ih (rJ cls l k a o) (fun x hx=>ha x (by simp [hx])) v2
     exact⟨v3,Y0 l2 l3⟩
   obtain⟨v2,l2⟩:=fold (nd l i).args (o++[i]) (ok.2 _ (fD h0 h1)).2 v1
   exact⟨v2,by simp at l2; omega⟩
theorem pQ {cls:List Int}{l:List ab}(ok:lz l):∀(k:Nat) (i:Int) (o st o':List Int),0≤i→i<l.length→Vs cls l.length o→l.length<k+o.length→
  uN (eu cls) (fun v=>(nd l v).args) st (rJ cls l k i o) o'→uN (eu cls) (fun v=>(nd l v).args) (i::st) o o'
 | 0,i,o,st,o',_,_,v,hk,_=>absurd v.qd (by omega)
 | k+1,i,o,st,o',h0,h1,v,hk,h=>by
  rw [z7] at h
  by_cases hm:eu cls i∈o.map (eu cls)
  ·rw [if_pos hm] at h
   exact .skip hm h
  ·rw [if_neg hm] at h
   refine .push hm ?_
   have v1:Vs cls l.length (o++[i]):=by
    refine⟨?_,fun x hx=>?_⟩
    ·rw [YP,Zw]
     refine⟨v.Iv,by simp,fun a ha b hb=>?_⟩
     simp only [YJ,List.map_nil,Yw] at hb
     subst hb; intro e; subst e; exact hm ha
    ·rcases Yy.1 hx with hx | hx
     ·exact v.nP x hx
     ·simp only [Yw] at hx; subst hx; exact⟨h0,h1⟩
   have fold:∀(zs:List Int) (o:List Int),(∀a∈zs,0≤a∧a<l.length)→Vs cls l.length o→l.length<k+o.length→uN (eu cls) (fun v=>(nd l v).args) st (zs.foldl (fun o a=>rJ cls l k a o) o) o'→uN (eu cls) (fun v=>(nd l v).args) (zs++st) o o':=by
    intro zs
    induction zs with
    | nil=>intro o _ _ _ h; exact h
    | cons a zs ih=>
     intro o ha v hk h
     have hr:=ha a (by simp)
     obtain⟨v2,l2⟩:=HO ok k a o hr.1 hr.2 v
     exact pQ ok k a o (zs++st) o' hr.1 hr.2 v hk (ih _ (fun x hx=>ha x (by simp [hx])) v2 (by omega) h)
   exact fold (nd l i).args (o++[i]) (ok.2 _ (fD h0 h1)).2 v1 (by simp; omega) h
theorem pR {od:List Int}{n:Nat}(h:od.Nodup)(hr:∀x∈od,0≤x∧x<n):od.length≤n:=by
 have:=h.length_le_of_subset (l₂:=ints n) (fun x hx=>iV.2 (hr x hx))
 rwa [dS] at this
theorem HP {m:Nat}{l:List ab}(ok:lz l){v:Int}(h0:0≤v)(h1:v<l.length):∀(f i:Nat) (st:List Int),i<f→i≤(nd l v).args.length→st.length+i≤1000000→
  ∃x,aK.l1 m l v f st ((i:Int) - 1)=some (st++((nd l v).args.take i).reverse,x)
 | 0,i,st,hf,_,_=>absurd hf (by omega)
 | f+1,0,st,hf,hi,hs=>by
  unfold aK.l1
  rw [if_neg (by simp)]
  exact⟨_,by simp; rfl⟩
 | f+1,i+1,st,hf,hi,hs=>by
  have h8:=(ok.2 _ (fD h0 h1)).1
  have ei:((i+1:Nat):Int) - 1=(i:Int):=by omega
  have ew:i64.wrap ((i:Int) - 1)=(i:Int) - 1:=aA (by omega) (by omega)
  have jS:app 8 st [gt (nd l v).args i]=some (st++[gt (nd l v).args i]):=by unfold app; rw [if_pos (by simp; omega)]
  obtain⟨x,ih⟩:=HP (m:=m) ok h0 h1 f i (st++[gt (nd l v).args i]) (by omega) (by omega) (by simp; omega)
  refine⟨x,?_⟩
  unfold aK.l1
  rw [ei,if_pos (by simp),il h0 h1,Yj,cy (by omega),Yj,jS,Yj,ew,ih]
  rw [Zn,bu (by omega)]
  simp
theorem BO {m:Nat}(hm:2 ^ 30≤m){l:List ab}(ok:lz l):∀(f:Nat) (met:List Bool) (o st:List Int),st.length+9*(l.length - o.length)<f→st.length+9*(l.length - o.length)≤100000→met.length=l.length→(∀i,i<l.length→(gb met i=true↔(i:Int)∈o))→o.Nodup→(∀v∈o,0≤v∧v<l.length)→(∀v∈st,0≤v∧v<l.length)→
  ∃EK o' ,aK.l0 m l f met o st.reverse=some (EK,o',[])∧uN id (fun v=>(nd l v).args) st o o'
 | 0,met,o,st,hf,_,_,_,_,_,_=>absurd hf (by omega)
 | f+1,met,o,[],hf,hb,NQ,Pj,Qc,Qd,L8=>by
  unfold aK.l0
  rw [if_neg (by simp)]
  exact⟨met,o,rfl,.nil o⟩
 | f+1,met,o,v::st,hf,hb,NQ,Pj,Qc,Qd,L8=>by
  have lE:(2:Nat) ^ 30=1073741824:=by decide
  have BC:=pR Qc Qd
  obtain⟨v0,v1⟩:=L8 v (by simp)
  have h8:=(ok.2 _ (fD v0 v1)).1
  have SD:((v.toNat:Nat):Int)=v:=by omega
  simp only [YD] at hf hb
  have Sm:=ok.1
  unfold aK.l0
  have hlen:((v::st).reverse.length:Int)=(st.length:Int)+1:=by simp
  have ew:i64.wrap ((st.length:Int)+1 - 1)=(st.length:Int):=by rw [aA (by omega) (by omega)]; omega
  have e1:ix (v::st).reverse (st.length:Int)=some v:=by
   unfold ix
   rw [if_pos (by omega),Yq,List.reverse_cons,YE (by simp)]
   simp
  have e2:lD (v::st).reverse 0 (st.length:Int)=some st.reverse:=by
   unfold lD
   rw [if_pos ⟨by omega,by omega,by simp; omega⟩,List.reverse_cons]
   simp only [Yq,YZ,Int.toNat_zero,Nat.sub_zero]
   rw [List.take_left' (by simp)]
  have e3:ix met v=some (gb met v.toNat):=Dd v0 (by omega)
  rw [if_pos (by rw [hlen]; simp only [gt_iff_lt,decide_eq_true_eq]; omega),hlen,ew,e1,Yj,e2,Yj,e3,Yj]
  cases hg:gb met v.toNat with
  | true=>
   have xm:v∈o:=by have:=(Pj v.toNat (by omega)).1 hg; rwa [SD] at this
   obtain⟨EK,o',k1,k2⟩:=BO hm ok f met o st (by omega) (by omega) NQ Pj Qc Qd (fun x hx=>L8 x (by simp [hx]))
   rw [if_pos rfl]
   exact⟨EK,o',k1,.skip (by simpa using xm) k2⟩
  | false=>
   have UT:v∉o:=fun h=>by
    have:=(Pj v.toNat (by omega)).2 (by rw [SD]; exact h)
    rw [hg] at this; cases this
   have UU:(o++[v]).Nodup:=by
    rw [Zw]
    refine⟨Qc,by simp,fun a ha b hb=>?_⟩
    rw [Yw] at hb
    subst hb; intro e; subst e; exact UT ha
   have UW:∀x∈o++[v],0≤x∧x<l.length:=fun x hx=>by
    rcases Yy.1 hx with hx | hx
    ·exact Qd x hx
    ·rw [Yw] at hx; subst hx; exact⟨v0,v1⟩
   have Ha:=pR UU UW
   simp only [Ys,YD,Y6] at Ha
   have jS:app 8 o [v]=some (o++[v]):=by unfold app; rw [if_pos (by simp; omega)]
   have WQ:i64.wrap (((nd l v).args.length:Int) - 1)=((nd l v).args.length:Int) - 1:=aA (by omega) (by omega)
   obtain⟨x,q1⟩:=HP (m:=m) ok v0 v1 m (nd l v).args.length st.reverse (by omega) (Yn _) (by simp; omega)
   rw [Zq] at q1
   have SE:st.reverse++(nd l v).args.reverse=((nd l v).args++st).reverse:=by simp
   rw [SE] at q1
   rw [if_neg (by simp),Yj,jS,Yj,il v0 v1,Yj,WQ,q1,Yj]
   dsimp only
   obtain⟨EK,o',k1,k2⟩:=BO hm ok f (met.set v.toNat true) (o++[v]) ((nd l v).args++st) (by simp; omega) (by simp; omega) (by simpa using NQ) (fun i hi=>by
    rw [HK (by omega),Yy,Yw]
    by_cases e:i=v.toNat
    ·subst e; simp [SD]
    ·rw [if_neg e,Pj i hi]
     constructor
     ·exact fun h=>.inl h
     ·rintro (h | h)
      ·exact h
      ·omega) UU UW (fun x hx=>by
    rcases Yy.1 hx with hx | hx
    ·exact (ok.2 _ (fD v0 v1)).2 x hx
    ·exact L8 x (by simp [hx]))
   exact⟨EK,o',k1,.push (by simpa using UT) k2⟩
theorem JE {n k:Nat}:gb (YF n false) k=false:=by
 unfold gb; rw [YB,List.getElem?_replicate]; split<;>rfl
theorem pS {m:Nat}(hm:2 ^ 30≤m){l:List ab}(ok:lz l){root:Int}(h0:0≤root)(h1:root<l.length):∃o,aK.f m l root=some o∧uN id (fun v=>(nd l v).args) [root] [] o:=by
 have lE:(2:Nat) ^ 30=1073741824:=by decide
 have Sm:=ok.1
 unfold aK.f
 have e1:vh 1 (l.length:Int) false=some (YF l.length false):=by unfold vh; rw [if_pos ⟨by omega,by rw [Yq]; omega⟩,Yq]
 have jS:app 8 ([]:List Int) [root]=some [root]:=by unfold app; rw [if_pos (by simp),YO]
 obtain⟨EK,o',k1,k2⟩:=BO hm ok m (YF l.length false) [] [root] (by simp; omega) (by simp; omega) (by simp) (fun i hi=>by rw [JE]; simp) (by simp) (fun v hv=>by cases hv) (fun v hv=>by rw [Yw] at hv; subst hv; exact⟨h0,h1⟩)
 have k1:aK.l0 m l m (YF l.length false) [] [root]=_:=k1
 rw [e1,Yj,jS,Yj,k1,Yj]
 exact⟨o',rfl,k2⟩
end Go.Proofs.YtmekcfdllhphlaaGreatDoor
namespace Go.Proofs.YtmekcfdllhphlaaGreatDoor
open Go Go.R
open Go.IntKind (i64 u64 u8 u32)
structure EL (l k:List ab)(R:Int→Int→Prop):Prop where
 nP:∀i j,R i j→(0≤i∧i<l.length)∧0≤j∧j<k.length
 top:∀i j,R i j→Alike (nd l i) (nd k j)
 arg:∀i j,R i j→∀n,n<(nd l i).args.length→R (gt (nd l i).args n) (gt (nd k j).args n)
theorem Min.same {l:List ab}{c:List Int}(M:Min l c){a b:Int}(a0:0≤a)(a1:a<l.length)(b0:0≤b)(b1:b<l.length)(e:eu c a=eu c b) :
  Alike (nd l a) (nd l b)∧∀n,n<(nd l a).args.length→eu c (gt (nd l a).args n)=eu c (gt (nd l b).args n):=by
 have ea:((a.toNat:Nat):Int)=a:=by omega
 have eb:((b.toNat:Nat):Int)=b:=by omega
 have hA:=M.top a.toNat b.toNat (by omega) (by omega) e
 have hg:=M.arg a.toNat b.toNat (by omega) (by omega) e
 rw [ea,eb] at hA hg
 exact⟨hA,hg⟩
theorem EL.swap {l k:List ab}{R:Int→Int→Prop}(S:EL l k R):EL k l fun j i=>R i j:=
 ⟨fun i j h=>⟨(S.nP j i h).2,(S.nP j i h).1⟩,fun i j h=>(S.top j i h).symm,fun i j h n hn=>S.arg j i h n (by have:=(S.top j i h).len; omega)⟩
theorem EL.cls {l k:List ab}{R:Int→Int→Prop}(S:EL l k R){c1 c2:List Int}(M1:Min l c1)(M2:Min k c2){i j i' j':Int}(h:R i j)(h':R i' j')(e:eu c1 i=eu c1 i'):eu c2 j=eu c2 j':=by
 have g:=S.nP _ _ h
 have g':=S.nP _ _ h'
 refine M2.max (fun a b=>∃i i':Int,R i a∧R i' b∧eu c1 i=eu c1 i') ⟨?_,?_,?_⟩ j.toNat j'.toNat ⟨i,i',by rwa [show ((j.toNat:Nat):Int)=j by omega],by rwa [show ((j'.toNat:Nat):Int)=j' by omega],e⟩
 ·rintro a b ⟨i,i',h,h',_⟩
  have:=S.nP _ _ h
  have:=S.nP _ _ h'
  omega
 ·rintro a b ⟨i,i',h,h',e⟩
  have g:=S.nP _ _ h
  have g':=S.nP _ _ h'
  exact ((S.top _ _ h).symm.trans (M1.same g.1.1 g.1.2 g'.1.1 g'.1.2 e).1).trans (S.top _ _ h')
 ·rintro a b ⟨i,i',h,h',e⟩ n hn
  have g:=S.nP _ _ h
  have g':=S.nP _ _ h'
  obtain⟨sA,sg⟩:=M1.same g.1.1 g.1.2 g'.1.1 g'.1.2 e
  have KZ:n<(nd l i).args.length:=by have:=(S.top _ _ h).len; omega
  have k1:=S.arg _ _ h n KZ
  have k2:=S.arg _ _ h' n (by have:=sA.len; omega)
  have r1:=(S.nP _ _ k1).2
  have r2:=(S.nP _ _ k2).2
  exact⟨_,_,by rwa [show (((gt (nd k a).args n).toNat:Nat):Int)=gt (nd k a).args n by omega],by rwa [show (((gt (nd k b).args n).toNat:Nat):Int)=gt (nd k b).args n by omega],sg n KZ⟩
inductive Rl (R:Int→Int→Prop):List Int→List Int→Prop
 | nil:Rl R [] []
 | cons {a b:Int} {xs ys:List Int}:R a b→Rl R xs ys→Rl R (a::xs) (b::ys)
theorem Rl.app {R:Int→Int→Prop}{a b c d:List Int}(h:Rl R a b)(k:Rl R c d):Rl R (a++c) (b++d):=by
 induction h with
 | nil=>exact k
 | cons h _ ih=>exact .cons h ih
theorem Rl.len {R:Int→Int→Prop}{a b:List Int}(h:Rl R a b):a.length=b.length:=by
 induction h with
 | nil=>rfl
 | cons _ _ ih=>simp [ih]
theorem Rl.at {R:Int→Int→Prop}{a b:List Int}(h:Rl R a b):∀n,n<a.length→R (gt a n) (gt b n):=by
 induction h with
 | nil=>intro n hn; exact absurd hn (by simp)
 | cons h _ ih=>
  intro n hn
  cases n with
  | zero=>exact h
  | succ n=>exact ih n (by simpa using hn)
theorem Rl.of {R:Int→Int→Prop}:∀{a b:List Int},a.length=b.length→(∀n,n<a.length→R (gt a n) (gt b n))→Rl R a b
 | [],[],_,_=>.nil
 | [],_::_,h,_=>by simp at h
 | _::_,[],h,_=>by simp at h
 | x::a,y::b,h,k=>.cons (k 0 (by simp)) (Rl.of (by simpa using h) fun n hn=>k (n+1) (by simpa using hn))
section
variable {l k:List ab}{R:Int→Int→Prop}{c1 c2:List Int}
theorem EL.mem (S:EL l k R)(M1:Min l c1)(M2:Min k c2){v w:Int}(h:R v w){o o2:List Int}(ho:Rl R o o2):eu c1 v∈o.map (eu c1)↔eu c2 w∈o2.map (eu c2):=by
 induction ho with
 | nil=>simp
 | cons h' _ ih=>
  rw [YJ,YJ,YW,YW,ih]
  have z1:=S.cls M1 M2 h h'
  have z2:=S.swap.cls M2 M1 h h'
  constructor
  ·rintro (e | e)
   ·exact .inl (z1 e)
   ·exact .inr e
  ·rintro (e | e)
   ·exact .inl (z2 e)
   ·exact .inr e
theorem EL.idx (S:EL l k R)(M1:Min l c1)(M2:Min k c2){v w:Int}(h:R v w){o o2:List Int}(ho:Rl R o o2):idx c1 o v=idx c2 o2 w:=by
 unfold Go.Proofs.YtmekcfdllhphlaaGreatDoor.idx
 congr 1
 induction ho with
 | nil=>rfl
 | @cons a b xs ys h' _ ih=>
  rw [YJ,YJ,List.idxOf_cons,List.idxOf_cons,ih]
  have h1:=S.cls M1 M2 h' h
  have h2:=S.swap.cls M2 M1 h' h
  by_cases e:eu c1 a=eu c1 v
  ·rw [e,h1 e]; simp
  ·have e2:¬eu c2 b=eu c2 w:=fun z=>e (h2 z)
   rw [show (eu c1 a==eu c1 v)=false from by simpa using e,show (eu c2 b==eu c2 w)=false from by simpa using e2]
theorem EL.pre (S:EL l k R)(M1:Min l c1)(M2:Min k c2){st o o':List Int}(h:uN (eu c1) (fun v=>(nd l v).args) st o o'):∀{JF o2:List Int},Rl R st JF→Rl R o o2→∃Iw,uN (eu c2) (fun v=>(nd k v).args) JF o2 Iw∧Rl R o' Iw:=by
 induction h with
 | nil o=>intro JF o2 hs ho; cases hs; exact⟨o2,.nil _,ho⟩
 | skip hm _ ih=>
  intro JF o2 hs ho
  cases hs with
  | cons h hs=>
   obtain⟨Iw,k1,k2⟩:=ih hs ho
   exact⟨Iw,.skip ((S.mem M1 M2 h ho).1 hm) k1,k2⟩
 | push hn _ ih=>
  intro JF o2 hs ho
  cases hs with
  | cons h hs=>
   obtain⟨Iw,k1,k2⟩:=ih ((Rl.of (S.top _ _ h).len (S.arg _ _ h)).app hs) (ho.app (.cons h .nil))
   exact⟨Iw,.push (fun z=>hn ((S.mem M1 M2 h ho).2 z)) k1,k2⟩
end
theorem JG {c O:List Int}{a b:Int}(h:eu c a=eu c b):idx c O a=idx c O b:=by unfold idx; rw [h]
theorem Mx {f:Int→Int}{a b:List Int}{g:Int→Int}(hl:a.length=b.length)(h:∀n,n<a.length→f (gt a n)=g (gt b n)):a.map f=b.map g:=by
 apply Zd fun n=>?_
 simp only [YQ]
 by_cases hn:n<a.length
 ·rw [bu hn,bu (by omega)]; simp only [Yp,h n hn]
 ·rw [YC (by omega),YC (by omega)]; rfl
theorem EM {m:Nat}(hm:2 ^ 41≤m){t u:an}(ht:ej t=true)(hu:ej u=true){R:Int→Int→Prop}(S:EL t.nodes u.nodes R)(hr:R t.root u.root):∃s,cG.f m t=some s∧cG.f m u=some s:=by
 have pz:(2:Nat) ^ 41=2199023255552:=by decide
 obtain⟨E9,_,r0,r1,_⟩:=jr ht
 obtain⟨UX,_,q0,q1,_⟩:=jr hu
 obtain⟨c1,n1,e1,M1,Q1,_⟩:=lU hm ht
 obtain⟨c2,n2,e2,M2,Q2,_⟩:=lU hm hu
 have l1:=E9.1
 have l2:=UX.1
 have P1:=pQ (cls:=c1) E9 m t.root [] [] _ r0 r1 ⟨by simp,fun x hx=>by cases hx⟩ (by simp; omega) (.nil _)
 have P2:=pQ (cls:=c2) UX m u.root [] [] _ q0 q1 ⟨by simp,fun x hx=>by cases hx⟩ (by simp; omega) (.nil _)
 obtain⟨Iw,k1,k2⟩:=S.pre M1 M2 P1 (.cons hr .nil) .nil
 have:=k1.US P2
 subst this
 generalize Ye:rJ c1 t.nodes m t.root []=O1 at *
 generalize Yf:rJ c2 u.nodes m u.root []=O2 at *
 have hl:=k2.len
 have w1:=Q1.len
 have w2:=Q2.len
 have hn:n1=n2:=by
  apply Zd fun q=>?_
  by_cases hq:q<O1.length
  ·rw [Q1.new q (by simp) hq,Q2.new q (by simp) (by omega)]
   have h:=k2.at q hq
   have A:=S.top _ _ h
   unfold vq
   rw [A.kind,A.int,A.label,Mx A.len fun n hn=>S.idx M1 M2 (S.arg _ _ h n hn) k2]
  ·rw [YC (by omega),YC (by omega)]
 subst hn
 exact⟨_,e1,e2⟩
theorem BP {n:ab}{a b:Int}{f:Int→Int}(h:kB n a=true)(hf:∀x∈n.args,0≤f x∧f x<b):kB ⟨n.kind,n.int,n.label,n.args.map f⟩ b=true:=by
 unfold kB at h ⊢
 have he:(n.args.map f).isEmpty=n.args.isEmpty:=by cases n.args<;>rfl
 dsimp only
 rw [he,YY]
 have ha:((n.args.map f).all fun a=>decide (0≤a)&&decide (a<b))=true:=by
  rw [YK]
  intro x hx
  obtain⟨y,hy,rfl⟩:=YH.1 hx
  have:=hf y hy
  simp only [Yo,decide_eq_true_eq]; exact this
 rw [ha]
 split<;>rename_i h0
 ·rw [if_pos h0] at h; exact h
 ·rw [if_neg h0] at h
  split<;>rename_i h1
  ·rw [if_pos h1] at h; exact h
  ·rw [if_neg h1] at h
   split<;>rename_i h2
   ·rw [if_pos h2] at h; exact h
   ·rw [if_neg h2] at h
    split<;>rename_i h3
    ·rw [if_pos h3] at h
     simp only [Yo] at h ⊢
     exact⟨h.1,trivial⟩
    ·rw [if_neg h3] at h
     exact h
theorem EN {m:Nat}(hm:2 ^ 41≤m){t:an}(ht:ej t=true):∃s R,cG.f m t=some s∧ej s=true∧s.nodes.length≤t.nodes.length∧EL t.nodes s.nodes R∧R t.root s.root:=by
 have pz:(2:Nat) ^ 41=2199023255552:=by decide
 obtain⟨ok,_,r0,r1,_⟩:=jr ht
 obtain⟨c,ns,e,M,Q,hr⟩:=lU hm ht
 have l1:=ok.1
 have fv:=ht
 unfold ej at fv
 simp only [Yo,decide_eq_true_eq] at fv
 generalize hO:rJ c t.nodes m t.root []=O at *
 have qd:=Q.vs.qd
 have hlen:=Q.len
 have oP:0<O.length:=by cases O with | nil=>simp at hr | cons _ _=>simp
 have Bz:∀q:Nat,q<O.length→nd ns (q:Int)=vq c t.nodes O (gt O q):=fun q hq=>by
  have:=Q.new q (by simp) hq
  unfold nd
  rw [Yq,YB,this]; rfl
 have Qe:∀{v:Int},eu c v∈O.map (eu c)→0≤idx c O v∧idx c O v<O.length∧eu c (gt O (idx c O v).toNat)=eu c v:=fun {v} hv=>by
  have h1:=Zl hv
  have h2:=List.getElem_idxOf h1
  rw [YY] at h1
  unfold idx
  refine⟨by omega,by omega,?_⟩
  rw [Yq]
  have h3:=Yv (l:=O.map (eu c)) (i:=(O.map (eu c)).idxOf (eu c v)) (by rw [YY]; exact h1)
  rw [h2,YQ,bu h1] at h3
  exact YI h3
 refine⟨⟨ns,0⟩,fun i j=>(0≤i∧i<t.nodes.length)∧eu c i∈O.map (eu c)∧j=idx c O i,e,?_,by show ns.length≤_; omega,⟨?_,?_,?_⟩,⟨r0,r1⟩,hr,?_⟩
 ·unfold ej
  simp only [Yo,decide_eq_true_eq]
  refine⟨⟨⟨⟨by omega,by omega⟩,by omega⟩,by omega⟩,?_⟩
  rw [YK]
  intro x hx
  obtain⟨q,hq,e2⟩:=ZU hx
  have h1:=Q.new q (by simp) (by omega)
  rw [Yv hq,e2] at h1
  have h1:=YI h1
  subst h1
  have yU:=Q.vs.nP _ (aJ (l:=O) (k:=q) (by omega))
  refine BP (YK.1 fv.2 _ (fD yU.1 yU.2)) fun a ha=>?_
  have:=Qe (Q.arg q (by simp) (by omega) a ha)
  omega
 ·rintro i j ⟨h1,h2,rfl⟩
  have:=Qe h2
  exact⟨h1,by show 0≤_∧_<(ns.length:Int); omega⟩
 ·rintro i j ⟨h1,h2,rfl⟩
  obtain⟨a,b,d⟩:=Qe h2
  have yU:=Q.vs.nP _ (aJ (l:=O) (k:=(idx c O i).toNat) (by omega))
  have hx:=Bz (idx c O i).toNat (by omega)
  rw [show (((idx c O i).toNat:Nat):Int)=idx c O i by omega] at hx
  rw [hx]
  have A:=(M.same h1.1 h1.2 yU.1 yU.2 d.symm).1
  exact⟨A.kind,A.int,A.label,by show _=(List.map _ _).length; rw [YY]; exact A.len⟩
 ·rintro i j ⟨h1,h2,rfl⟩ n hn
  obtain⟨a,b,d⟩:=Qe h2
  have yU:=Q.vs.nP _ (aJ (l:=O) (k:=(idx c O i).toNat) (by omega))
  have hx:=Bz (idx c O i).toNat (by omega)
  rw [show (((idx c O i).toNat:Nat):Int)=idx c O i by omega] at hx
  rw [hx]
  obtain⟨A,hg⟩:=M.same h1.1 h1.2 yU.1 yU.2 d.symm
  have IU:n<(nd t.nodes (gt O (idx c O i).toNat)).args.length:=by have:=A.len; omega
  have hg:=hg n hn
  have hin:=Q.arg (idx c O i).toNat (by simp) (by omega) _ (aJ IU)
  refine⟨(ok.2 _ (fD h1.1 h1.2)).2 _ (aJ hn),by rw [hg]; exact hin,?_⟩
  have e1:gt (vq c t.nodes O (gt O (idx c O i).toNat)).args n=idx c O (gt (nd t.nodes (gt O (idx c O i).toNat)).args n):=by
   have h3:=bu (l:=(vq c t.nodes O (gt O (idx c O i).toNat)).args) (k:=n) (by show n<(List.map _ _).length; rw [YY]; exact IU)
   have h4:(vq c t.nodes O (gt O (idx c O i).toNat)).args[n]? = some (idx c O (gt (nd t.nodes (gt O (idx c O i).toNat)).args n)):=by
    show (List.map _ _)[n]? = _
    rw [YQ,bu IU]; rfl
   rw [h4] at h3; exact (YI h3).symm
  rw [e1]
  exact JG hg.symm
 ·show (0:Int)=idx c O t.root
  have P1:=pQ (cls:=c) ok m t.root [] [] _ r0 r1 ⟨by simp,fun x hx=>by cases hx⟩ (by simp; omega) (.nil _)
  rw [hO] at P1
  cases P1 with
  | skip h _=>simp at h
  | push _ k=>
   obtain⟨⟨T,e⟩,_⟩:=k.facts (n:=t.nodes.length) (fun v a b=>(ok.2 _ (fD a b)).2) (fun v hv=>by
    rcases Yy.1 hv with hv | hv
    ·exact (ok.2 _ (fD r0 r1)).2 v hv
    ·cases hv) (fun v hv=>by simp at hv; subst hv; exact⟨r0,r1⟩) (by simp)
   rw [e]
   unfold idx
   simp
theorem BQ {m:Nat}(hm:2 ^ 41≤m){t:an}(ht:ej t=true):∃s,cG.f m t=some s∧ej s=true∧s.nodes.length≤t.nodes.length∧cG.f m s=some s:=by
 obtain⟨s,R,e,v,hl,S,hr⟩:=EN hm ht
 obtain⟨s',e1,e2⟩:=EM hm ht v S hr
 rw [e1] at e
 cases e
 exact⟨s,e1,v,hl,e2⟩
end Go.Proofs.YtmekcfdllhphlaaGreatDoor
namespace Go.Proofs.YtmekcfdllhphlaaGreatDoor
open Go Go.R
open Go.IntKind (i64 u64 u8 u32)
def mu (r:dG):Nat:=r.cj.length+if r.br=true then 0 else 1
theorem HQ {m:Nat}(hm:2 ^ 30≤m)(x3:Int × dG):∀(f:Nat) (k0:Int) (t0:List ab) (t1:Int) (r:dG),Bytes r.cj→r.cj.length≤200000→mu r<f→t0.length+mu r≤300000→(∀n∈t0,n.kind=0→n.int<2 ^ 63)→
  ∃k t2 ob,aD.l1 m x3 f k0 t0 t1 r=some (k,t2,t1,ob)∧Bytes ob.cj∧ob.cj.length≤r.cj.length∧∀n∈t2,n.kind=0→n.int<2 ^ 63
 | 0,k0,t0,t1,r,_,_,hf,_,_=>absurd hf (by omega)
 | f+1,k0,t0,t1,r,hb,hl,hf,ht,hn=>by
  have lE:(2:Nat) ^ 30=1073741824:=by decide
  unfold aD.l1
  split
  ·split
   ·rename_i g
    obtain⟨n,r',h1,h2,h3,h4,h5⟩:=EH (m:=m) (by omega) r hb hl
    have SF:r.br=false:=by simpa using g
    have WR:mu r=r.cj.length+1:=by unfold mu; rw [SF]; rfl
    have WS:mu r'<mu r∧r'.cj.length≤r.cj.length:=by
     by_cases e:r.cj=[]
     ·obtain⟨e1,e2⟩:=h3 e
      have:mu r'=0:=by unfold mu; rw [e1,e2]; rfl
      rw [e2]; exact⟨by omega,by simp⟩
     ·have:=h4 e
      have:mu r'≤r'.cj.length+1:=by unfold mu; split<;>omega
      omega
    have jS:app 56 t0 [n]=some (t0++[n]):=by unfold app; rw [if_pos (by simp; omega)]
    rw [h1,Yj]
    dsimp only
    rw [jS,Yj]
    obtain⟨k,t2,ob,k1,k2,k3,k4⟩:=HQ hm x3 f (i64.wrap (k0+1)) (t0++[n]) t1 r' h2 (by omega) (by omega) (by simp; omega) (fun x hx=>by
     rcases Yy.1 hx with hx | hx
     ·exact hn x hx
     ·simp only [Yw] at hx; subst hx; exact h5)
    exact⟨k,t2,ob,k1,k2,by omega,k4⟩
   ·exact⟨_,_,_,rfl,hb,Yn _,hn⟩
  ·exact⟨_,_,_,rfl,hb,Yn _,hn⟩
theorem HR {m:Nat}(hm:2 ^ 30≤m)(x2:Int × dG):∀(f i:Nat) (acc:List an) (r:dG),8 - i<f→i≤8→acc.length≤i→Bytes r.cj→r.cj.length≤200000→(∀t∈acc,AD t)→
  ∃l x ob,aD.l0 m x2 f acc (i:Int) r=some (l,x,ob)∧∀t∈l,AD t
 | 0,i,acc,r,hf,_,_,_,_,_=>absurd hf (by omega)
 | f+1,i,acc,r,hf,hi,ha,hb,hl,ht=>by
  have lE:(2:Nat) ^ 30=1073741824:=by decide
  unfold aD.l0
  split
  rotate_left
  ·exact⟨_,_,_,rfl,ht⟩
  rename_i g1
  split
  rotate_left
  ·exact⟨_,_,_,rfl,ht⟩
  split
  rotate_left
  ·exact⟨_,_,_,rfl,ht⟩
  rename_i g2 g3
  simp only [decide_eq_true_eq] at g1 g3
  obtain⟨n,r1,h1,_,hb1,UY⟩:=iG (m:=m) (by omega) r hb
  have WR:mu r1≤200001:=by unfold mu; split<;>omega
  obtain⟨k,t2,ob,h2,hb2,Ff,IU⟩:=HQ (m:=m) hm ((n:Int),r1) m 0 [] 0 r1 hb1 (by omega) (by omega) (by simp; omega) (fun n hn=>by cases hn)
  have jS:app 32 acc [(⟨t2,0⟩:an)]=some (acc++[⟨t2,0⟩]):=by unfold app; rw [if_pos (by simp; omega)]
  rw [h1,Yj]
  dsimp only
  rw [h2,Yj]
  dsimp only
  rw [jS,Yj,aA (by omega) (by omega),show (i:Int)+1=((i+1:Nat):Int) by omega]
  refine HR hm x2 f (i+1) _ ob (by omega) (by omega) (by simp; omega) hb2 (by omega) fun t h=>?_
  rcases Yy.1 h with h | h
  ·exact ht t h
  ·simp only [Yw] at h; subst h; exact IU
theorem kh {b:List Int}{lo hi:Int}(h:0≤lo∧lo≤hi∧hi≤b.length):lD b lo hi=some ((b.drop lo.toNat).take (hi.toNat - lo.toNat)):=by unfold lD; rw [if_pos h]
theorem Bytes.sub {b:List Int}(h:Bytes b)(p q:Nat):Bytes ((b.drop p).take q):=fun x hx=>h x (List.mem_of_mem_drop (List.mem_of_mem_take hx))
theorem Dh {m:Nat}(hm:2 ^ 41≤m){b:List Int}(hb:Bytes b):∃r,aD.f m b=some r∧∀t∈r.1,AD t:=by
 have lE:(2:Nat) ^ 30=1073741824:=by decide
 have mj:(2:Nat) ^ 40=1099511627776:=by decide
 have pz:(2:Nat) ^ 41=2199023255552:=by decide
 have nil:∀e:Int,∃r,(some (([]:List an),e))=some r∧∀t∈r.1,AD t:=fun e=>⟨_,rfl,fun t h=>by cases h⟩
 unfold aD.f
 split
 ·exact nil 3
 split
 ·exact nil 2
 rename_i g1 g2
 simp only [decide_eq_true_eq] at g1 g2
 have e4:i64.wrap ((b.length:Int) - 4)=(b.length:Int) - 4:=aA (by omega) (by omega)
 rw [e4,kh ⟨by omega,by omega,by omega⟩,Yj]
 obtain⟨c,hc⟩:=qQ (m:=m) (by omega) (b:=(b.drop (0:Int).toNat).take (((b.length:Int) - 4).toNat - (0:Int).toNat)) (by simp; omega) (by simp; omega)
 rw [hc,Yj,kh ⟨by omega,by omega,by omega⟩,Yj]
 have hE:∀x y:List Int,cO.f m x y=some ((cM x).data.toList==(cM y).data.toList):=fun x y=>rfl
 rw [hE,Yj]
 split
 ·exact nil 2
 rw [kh ⟨by omega,by omega,by omega⟩,Yj]
 obtain⟨n,r1,h1,_,hb1,UY⟩:=iG (m:=m) (by omega) ⟨(b.drop (2:Int).toNat).take (((b.length:Int) - 4).toNat - (2:Int).toNat),false⟩ (hb.sub _ _)
 obtain⟨l,x,ob,h2,ho⟩:=HR (m:=m) (by omega) ((n:Int),r1) m 0 [] r1 (by omega) (by omega) (by simp) hb1 (by simp at UY; omega) (fun t h=>by cases h)
 have h2:aD.l0 m ((n:Int),r1) m [] 0 r1=_:=h2
 rw [h1,Yj,h2,Yj]
 dsimp only
 split
 ·exact nil 2
 split
 ·exact nil 2
 obtain⟨⟨p,e⟩,h3⟩:=JA hm ho
 rw [h3,Yj]
 dsimp only
 split
 ·exact nil 2
 rw [hE,Yj]
 split
 ·exact nil 2
 ·exact⟨_,rfl,ho⟩
end Go.Proofs.YtmekcfdllhphlaaGreatDoor
namespace Go.Proofs.YtmekcfdllhphlaaGreatDoor
open Go Go.R
open Go.IntKind (i64 u64 u8 u32)
end Go.Proofs.YtmekcfdllhphlaaGreatDoor
namespace Go.Proofs.YtmekcfdllhphlaaGreatDoor
open Go Go.R
open Go.IntKind (i64 u64 u8 u32)
def yq:cm:=gI [0,2] [] [2,1] [] []
def ff.f (m:Nat)(c0:Int):Option (Bool):=if (decide (c0≥(97:Int)))=true then (if (decide (c0≤(122:Int)))=true then (some true) else (if (decide (c0≥(65:Int)))=true then (if (decide (c0≤(90:Int)))=true then (some true) else (if (decide (c0≥(48:Int)))=true then (if (decide (c0≤(57:Int)))=true then (some true) else (some (c0==(95:Int)))) else (some (c0==(95:Int))))) else (if (decide (c0≥(48:Int)))=true then (if (decide (c0≤(57:Int)))=true then (some true) else (some (c0==(95:Int)))) else (some (c0==(95:Int)))))) else (if (decide (c0≥(65:Int)))=true then (if (decide (c0≤(90:Int)))=true then (some true) else (if (decide (c0≥(48:Int)))=true then (if (decide (c0≤(57:Int)))=true then (some true) else (some (c0==(95:Int)))) else (some (c0==(95:Int))))) else (if (decide (c0≥(48:Int)))=true then (if (decide (c0≤(57:Int)))=true then (some true) else (some (c0==(95:Int)))) else (some (c0==(95:Int)))))
def ff.fin (L:Mem)(r:Bool)(s:St):Prop:=∃av,aH Tryz.prog (s.open yq) Tryz.f113.results.toList=some av∧gu s.h av (.bool r)
def My (cf:CallF)(m:Nat):Prop:=∀(c0:Int) (r:Bool),ff.f m c0=some r→∀h xs,eY fq h xs [.int .u8 c0]→cf 113 xs h=some (.bool r,h)
section
variable {cf:CallF}{m:Nat}
theorem pT {aU:FuncId→cm}(ha:aU 113=yq)  (c0:Int)(h:AHeap)(L:Mem)  (o:Has h (L)){out:Bool}(H:ff.f m c0=some out) :
  ∃r h',be Tryz.prog aU cf m 113 [.int .u8 c0] h=some (r,h')∧gu h' r (.bool out):=by
 refine aq (fn:=Tryz.f113) ha Tryz.func113 (by kernel_rfl) (by kernel_rfl) ?_
 refine aG (Q:=fun s=>ff.fin L out s) (fun _ _ h=>h) ?_
 have H:_=some out:=H
 unfold ff.f at H
 show dt _ cf yq m _ ⟨[.int .u8 c0,.any],[],h⟩ _
 refine q1 <| qq ?_
 rcases dQ H with⟨c1,H⟩| ⟨c1,H⟩
 ·rcases dQ H with⟨c2,H⟩| ⟨c2,H⟩
  ·obtain rfl:=oi H
   exact qr [.b 2 c1,.b 6 c2] <| qt <| ⟨.inl rfl,cp (.bool true) h (ck (au))⟩
  ·rcases dQ H with⟨c3,H⟩| ⟨c3,H⟩
   ·rcases dQ H with⟨c4,H⟩| ⟨c4,H⟩
    ·obtain rfl:=oi H
     exact qr [.b 2 c1,.b 6 c2,.b 9 c3,.b 14 c4] <| qt <| ⟨.inl rfl,cp (.bool true) h (ck (au))⟩
    ·rcases dQ H with⟨c5,H⟩| ⟨c5,H⟩
     ·rcases dQ H with⟨c6,H⟩| ⟨c6,H⟩
      ·obtain rfl:=oi H
       exact qr [.b 2 c1,.b 6 c2,.b 9 c3,.b 14 c4,.b 17 c5,.b 22 c6] <| qt <| ⟨.inl rfl,cp (.bool true) h (ck (au))⟩
      ·obtain rfl:=oi H
       exact qr [.b 2 c1,.b 6 c2,.b 9 c3,.b 14 c4,.b 17 c5,.b 22 c6] <| qt <| ⟨.inl rfl,cp (.bool (c0==(95:Int))) h (ck (au))⟩
     ·obtain rfl:=oi H
      exact qr [.b 2 c1,.b 6 c2,.b 9 c3,.b 14 c4,.b 17 c5] <| qt <| ⟨.inl rfl,cp (.bool (c0==(95:Int))) h (ck (au))⟩
   ·rcases dQ H with⟨c7,H⟩| ⟨c7,H⟩
    ·rcases dQ H with⟨c8,H⟩| ⟨c8,H⟩
     ·obtain rfl:=oi H
      exact qr [.b 2 c1,.b 6 c2,.b 9 c3,.b 17 c7,.b 22 c8] <| qt <| ⟨.inl rfl,cp (.bool true) h (ck (au))⟩
     ·obtain rfl:=oi H
      exact qr [.b 2 c1,.b 6 c2,.b 9 c3,.b 17 c7,.b 22 c8] <| qt <| ⟨.inl rfl,cp (.bool (c0==(95:Int))) h (ck (au))⟩
    ·obtain rfl:=oi H
     exact qr [.b 2 c1,.b 6 c2,.b 9 c3,.b 17 c7] <| qt <| ⟨.inl rfl,cp (.bool (c0==(95:Int))) h (ck (au))⟩
 ·rcases dQ H with⟨c9,H⟩| ⟨c9,H⟩
  ·rcases dQ H with⟨xK,H⟩| ⟨xK,H⟩
   ·obtain rfl:=oi H
    exact qr [.b 2 c1,.b 9 c9,.b 14 xK] <| qt <| ⟨.inl rfl,cp (.bool true) h (ck (au))⟩
   ·rcases dQ H with⟨pA,H⟩| ⟨pA,H⟩
    ·rcases dQ H with⟨rY,H⟩| ⟨rY,H⟩
     ·obtain rfl:=oi H
      exact qr [.b 2 c1,.b 9 c9,.b 14 xK,.b 17 pA,.b 22 rY] <| qt <| ⟨.inl rfl,cp (.bool true) h (ck (au))⟩
     ·obtain rfl:=oi H
      exact qr [.b 2 c1,.b 9 c9,.b 14 xK,.b 17 pA,.b 22 rY] <| qt <| ⟨.inl rfl,cp (.bool (c0==(95:Int))) h (ck (au))⟩
    ·obtain rfl:=oi H
     exact qr [.b 2 c1,.b 9 c9,.b 14 xK,.b 17 pA] <| qt <| ⟨.inl rfl,cp (.bool (c0==(95:Int))) h (ck (au))⟩
  ·rcases dQ H with⟨tX,H⟩| ⟨tX,H⟩
   ·rcases dQ H with⟨rZ,H⟩| ⟨rZ,H⟩
    ·obtain rfl:=oi H
     exact qr [.b 2 c1,.b 9 c9,.b 17 tX,.b 22 rZ] <| qt <| ⟨.inl rfl,cp (.bool true) h (ck (au))⟩
    ·obtain rfl:=oi H
     exact qr [.b 2 c1,.b 9 c9,.b 17 tX,.b 22 rZ] <| qt <| ⟨.inl rfl,cp (.bool (c0==(95:Int))) h (ck (au))⟩
   ·obtain rfl:=oi H
    exact qr [.b 2 c1,.b 9 c9,.b 17 tX] <| qt <| ⟨.inl rfl,cp (.bool (c0==(95:Int))) h (ck (au))⟩
end
end Go.Proofs.YtmekcfdllhphlaaGreatDoor
namespace Go.Proofs.YtmekcfdllhphlaaGreatDoor
open Go Go.R
open Go.IntKind (i64 u64 u8 u32)
def uO:cm:=gI [0,2,3,11,15,22] [] [62,54,61,58,42,58,26,61,61] [] []
def cw.l0 (m:Nat)(s0:ByteArray):Nat→Int→Option (Sum Bool (Int))
 | 0,_=>none
 | k+1,i0=>if (decide (i0<(s0.size:Int)))=true then ((bt s0 i0).bind fun v0=>(ff.f m v0).bind fun x0=>if (!x0)=true then (some (.inl false)) else (cw.l0 m s0 k (i64.wrap (i0+(1:Int))))) else (some (.inr i0))
def cw.f (m:Nat)(s0:ByteArray):Option (Bool):=if (decide ((s0.size:Int)<(1:Int)))=true then (some false) else (if (decide ((s0.size:Int) > (16:Int)))=true then (some false) else ((cw.l0 m s0 m (0:Int)).bind fun bg=>match bg with | .inl r0=>some r0 | .inr i1=>some true))
def cw.fin (L:Mem)(r:Bool)(s:St):Prop:=∃av,aH Tryz.prog (s.open uO) Tryz.f104.results.toList=some av∧gu s.h av (.bool r)
def Pl (cf:CallF)(m:Nat):Prop:=∀(s0:ByteArray) (r:Bool),cw.f m s0=some r→∀h xs,eY fq h xs [.str s0]→cf 104 xs h=some (.bool r,h)
section
variable {cf:CallF}{m:Nat}
theorem cw.bP (L:Mem)(s0:ByteArray)  (HS:My cf m):bL Tryz.prog cf uO m (sub [1,1,0,1,0,0] (codeOf Tryz.f104)) (fun k (σ:Int)=>cw.l0 m s0 k σ) (fun σ s=>match σ with | i0=>∃h0,s=⟨.str s0 :: .any :: .int .i64 i0::kK [],[],h0⟩∧Has h0 (L)) (fun out e s=>(e = .exit 0∧∃i0,.inr i0=out∧∃lP vn ui h0,s=⟨[lP,.any,vn,.any,ui,.any],[],h0⟩∧Has h0 (L))∨(e = .ret∧∃r,.inl r=out∧cw.fin L r s)):=by
 refine ig (fun _=>rfl) ?_
 rintro k i0 s out ⟨h0,rfl,o0⟩ H
 have H:cw.l0 m s0 (k+1) i0=some out:=H
 refine qq <| qq <| q0 <| qc H (fun c3 H=>?_) (fun c3 H=>?_)
 ·refine qk <| qq <| qb 1 <| qq ?_
  obtain⟨v0,e0,H⟩:=aI H
  obtain⟨x0,e1,H⟩:=aI H
  refine qr [.v 2 (mK (k:=.i64) U9 e0),.a 3 (HS _ _ e1 h0 _ (ia (ae (aN) (aB))))] <| qc H (fun c4 H=>?_) (fun c4 H=>?_)
  ·exact q1 <| qt <| Zx (⟨rfl,_,oi H,cp (.bool false) h0 (ck (au))⟩)
  ·exact qk <| q0 <| ⟨i64.wrap (i0+(1:Int)),⟨h0,by kernel_rfl,o0⟩,H⟩
 ·exact qx 0 <| Or.inl (⟨rfl,i0,oi H,.str s0,.int .i64 i0,.bool (decide (i0<(s0.size:Int))),h0,by kernel_rfl,o0⟩)
theorem ss {aU:FuncId→cm}(ha:aU 104=uO)(HS:My cf m)(s0:ByteArray)(h:AHeap)(L:Mem)  (o:Has h (L)){out:Bool}(H:cw.f m s0=some out) :
  ∃r h',be Tryz.prog aU cf m 104 [.str s0] h=some (r,h')∧gu h' r (.bool out):=by
 refine aq (fn:=Tryz.f104) ha Tryz.func104 (by kernel_rfl) (by kernel_rfl) ?_
 refine aG (Q:=fun s=>cw.fin L out s) (fun _ _ h=>h) ?_
 have H:_=some out:=H
 unfold cw.f at H
 show dt _ cf uO m _ ⟨.str s0::rV [],[],h⟩ _
 refine q1 <| qq <| qq ?_
 rcases dQ H with⟨c0,H⟩| ⟨c0,H⟩
 ·obtain rfl:=oi H
  exact qr [.b 3 c0] <| wk <| qq <| q0 <| qt <| ⟨.inl rfl,cp (.bool false) h (ck (au))⟩
 ·refine qr [.b 3 c0] <| qc H (fun c2 H=>?_) (fun c2 H=>?_)
  ·obtain rfl:=oi H
   exact q1 <| qt <| ⟨.inl rfl,cp (.bool false) h (ck (au))⟩
  ·refine qk <| qq <| qq <| q0 <| qb 0 ?_
   obtain⟨bg,e2,H⟩:=aI H
   refine ql (cw.bP L s0  HS (0:Int) _ _ ⟨h,by kernel_rfl,o⟩ e2) ?_
   rintro e s (⟨rfl,i1,rfl,g0,g1,g2,h1,rfl,o1⟩| ⟨rfl,r0,rfl,ov⟩)
   ·try dsimp only at H
    obtain rfl:=oi H
    exact q1 <| qt <| ⟨.inl rfl,cp (.bool true) h1 (ck (au))⟩
   ·try dsimp only at H
    obtain rfl:=oi H
    exact⟨.inl rfl,ov⟩
end
end Go.Proofs.YtmekcfdllhphlaaGreatDoor
