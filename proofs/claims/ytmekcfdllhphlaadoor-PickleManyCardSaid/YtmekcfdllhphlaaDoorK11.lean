/- Part of the proof: Q76, PB4, Q75, PB9, PV1, PT13, Q23, Q111, Q86, Q69. -/
import Derived.Test.YtmekcfdllhphlaaDoorK10
set_option linter.unusedVariables false
set_option linter.unusedSimpArgs false
set_option maxRecDepth 100000
open Bool renaming and_eq_true → V8
open ByteArray renaming mk → Wu
open Eq renaming trans → W6
open Int renaming toNat_natCast → V9
open List renaming length_set → Wd, length_append → We, mem_singleton → Wf, getElem?_eq_getElem → Wh, mem_append → Wk, getElem?_eq_none → Wl, getD_eq_getElem?_getD → Wm, replicate → Wn, map_cons → Wo, length_cons → Wp, getElem?_append_right → Wq, all_eq_true → Ws, mem_map → Wv, map_append → Wx, nil_append → Wz, getElem?_map → WB, mem_cons → WG, length_map → WI, drop_zero → WK, mem_append_left → WL, ext_getElem? → WV, length_nil → WY, idxOf_lt_length_of_mem → W7, take_length → W9, take_add_one → Xb, nodup_append → Xj, getElem?_set → Xs
open Nat renaming le_refl → V7, le_trans → WQ, sub_self → XC
open Option renaming bind_some → V3, map_some → Wa
open Option.some renaming inj → Wy
open Or renaming inr → WZ, inl → Xt
namespace Go.Proofs.YtmekcfdllhphlaaDoor
open Go Go.R
open Go.IntKind (i64 u64 u8 u32)
def mg:cb:=gJ [0,2,3,4,5,6,7,8,9,10,11,12,13,14,15,22,27,42,56,67,73,95,109,120,127,148,177] [] [134217726,134217722,134217714,134217666,134217602,134184898,134217602,134217474,134151938,134217474,134086402,134217538,133955394,134217538,134217538,134217474,134217426,133693138,134217426,133168850,134217426,134217426,134216914,132119762,134216914,130022610,134216914,134216666,125829082,134216666,134214618,134214618,134210522,117433306,134210522,134202330,134202330,134185946,100631514,134185946,67077082,134185946,134210522,134216666,134217725] [] [(3,[(5,none,1),(6,none,1)]),(30,[(12,none,1)])]
def ah.l1 (m:Nat)(l0:List ab):Nat→(List Int)→(List Bool)→(List Int)→Bool→Int→Option ((List Int) × (List Bool) × (List Int) × Bool × Int)
 | 0,_,_,_,_,_=>none
 | k+1,cH,dd,cW,kJ,i0=>if (decide (i0≥(0:Int)))=true then ((ix dd i0).bind fun v0=>if v0=true then (ah.l1 m l0 k cH dd cW kJ (i64.wrap (i0 - (1:Int)))) else ((ix l0 i0).bind fun v1=>(bU.f m v1 dd).bind fun x2=>if (!x2)=true then (ah.l1 m l0 k cH dd cW kJ (i64.wrap (i0 - (1:Int)))) else ((b5.f m l0 cW i0 cH).bind fun x3=>(ix cH i0).bind fun v2=>(ix (cH.set i0.toNat x3) i0).bind fun v3=>if (v3==i0)=true then ((app 8 cW ([i0])).bind fun x4=>(ix dd i0).bind fun v4=>ah.l1 m l0 k (cH.set i0.toNat x3) (dd.set i0.toNat true) x4 true (i64.wrap (i0 - (1:Int)))) else ((ix dd i0).bind fun v5=>ah.l1 m l0 k (cH.set i0.toNat x3) (dd.set i0.toNat true) cW true (i64.wrap (i0 - (1:Int))))))) else (some ((cH,dd,cW,kJ,i0)))
def ah.l0 (m:Nat)(l0:List ab):Nat→(List Int)→(List Bool)→(List Int)→Bool→Option ((List Int) × (List Bool) × (List Int) × Bool)
 | 0,_,_,_,_=>none
 | k+1,bl,dB,fJ,nh=>if nh=true then ((ah.l1 m l0 m bl dB fJ false (i64.wrap ((l0.length:Int) - (1:Int)))).bind fun bq=>match bq with | (AH,Gd,xk,Ge,i1)=>ah.l0 m l0 k AH Gd xk Ge) else (some ((bl,dB,fJ,nh)))
def ah.l3 (m:Nat)(l0:List ab)(i2:Int)(x5:List Int):Nat→(List Int)→Int→Option ((List Int) × Int)
 | 0,_,_=>none
 | k+1,cQ,k0=>(ix cQ i2).bind fun v8=>if (v8==i2)=true then ((ix x5 k0).bind fun v9=>if (decide (v9<i2))=true then ((ix l0 i2).bind fun v10=>(ix x5 k0).bind fun v11=>(ix l0 v11).bind fun v12=>(eU.f m v10 v12).bind fun x6=>if x6=true then ((ix x5 k0).bind fun HK=>(ix cQ HK).bind fun zx=>(ix cQ i2).bind fun mM=>ah.l3 m l0 i2 x5 k (cQ.set i2.toNat zx) (i64.wrap (k0+(1:Int)))) else (ah.l3 m l0 i2 x5 k cQ (i64.wrap (k0+(1:Int))))) else (some ((cQ,k0)))) else (some ((cQ,k0)))
def ah.l2 (m:Nat)(l0:List ab)(dL:List Bool):Nat→(List Int)→(List Int)→Int→Option ((List Int) × (List Int) × Int)
 | 0,_,_,_=>none
 | k+1,er,jg,i2=>if (decide (i2<(l0.length:Int)))=true then ((ix dL i2).bind fun v6=>if v6=true then (ah.l2 m l0 dL k er jg (i64.wrap (i2+(1:Int)))) else ((app 8 jg ([i2])).bind fun x5=>(ix er i2).bind fun v7=>(ah.l3 m l0 i2 x5 m (er.set i2.toNat i2) (0:Int)).bind fun je=>match je with | (AI,k1)=>ah.l2 m l0 dL k AI x5 (i64.wrap (i2+(1:Int))))) else (some ((er,jg,i2)))
def ah.l6 (m:Nat)(l0:List ab)(bB:List Int)(aY:List Int)(j0:Int)(lD:Int):Nat→(List Int)→Int→Option ((List Int) × Int)
 | 0,_,_=>none
 | k+1,cG,k2=>(ix cG lD).bind fun Ss=>if (Ss==lD)=true then (if (decide (k2<j0))=true then ((ix aY lD).bind fun Su=>(ix bB k2).bind fun v20=>(ix aY v20).bind fun v21=>if (Su==v21)=true then ((ix l0 lD).bind fun Sv=>(ix bB k2).bind fun Sw=>(ix l0 Sw).bind fun v24=>(bg.f m Sv v24 aY).bind fun x8=>if x8=true then ((ix bB k2).bind fun Sx=>(ix cG Sx).bind fun Lk=>(ix cG lD).bind fun Uy=>ah.l6 m l0 bB aY j0 lD k (cG.set lD.toNat Lk) (i64.wrap (k2+(1:Int)))) else (ah.l6 m l0 bB aY j0 lD k cG (i64.wrap (k2+(1:Int))))) else (ah.l6 m l0 bB aY j0 lD k cG (i64.wrap (k2+(1:Int))))) else (some ((cG,k2)))) else (some ((cG,k2)))
def ah.l5 (m:Nat)(l0:List ab)(bB:List Int)(aY:List Int):Nat→Bool→(List Int)→Int→Option (Bool × (List Int) × Int)
 | 0,_,_,_=>none
 | k+1,jl,bN,j0=>if (decide (j0<(bB.length:Int)))=true then ((ix bB j0).bind fun lD=>(ix bN lD).bind fun Ll=>(ah.l6 m l0 bB aY j0 lD m (bN.set lD.toNat lD) (0:Int)).bind fun cF=>match cF with | (qX,k3)=>if jl=true then (ah.l5 m l0 bB aY k true qX (i64.wrap (j0+(1:Int)))) else ((ix qX lD).bind fun v28=>(ix aY lD).bind fun Qs=>ah.l5 m l0 bB aY k (!(v28==Qs)) qX (i64.wrap (j0+(1:Int))))) else (some ((jl,bN,j0)))
def ah.l4 (m:Nat)(l0:List ab)(bB:List Int):Nat→(List Int)→Bool→Option ((List Int) × Bool)
 | 0,_,_=>none
 | k+1,aY,ni=>if ni=true then ((app 8 ([]:List Int) aY).bind fun x7=>(ah.l5 m l0 bB aY m false x7 (0:Int)).bind fun yG=>match yG with | (Gf,yX,j1)=>ah.l4 m l0 bB k yX Gf) else (some ((aY,ni)))
def ah.f (m:Nat)(l0:List ab):Option ((List Int)):=(uv 8 (l0.length:Int) (0:Int)).bind fun x0=>(uv 1 (l0.length:Int) false).bind fun x1=>(ah.l0 m l0 m x0 x1 ([]:List Int) true).bind fun b9=>match b9 with | (tQ,dL,H5,Nd)=>(ah.l2 m l0 dL m tQ ([]:List Int) (0:Int)).bind fun oS=>match oS with | (tR,bB,i3)=>(ah.l4 m l0 bB m tR true).bind fun gu=>match gu with | (qh,Ng)=>some qh
def ah.fin (L:Mem)(r:(List Int))(s:St):Prop:=∃av,aI Tryd.prog (s.open mg) Tryd.f76.results.toList=some av∧fT s.h av (aa.fz r)
def Sy (cf:CallF)(m:Nat):Prop:=∀(l0:List ab) (r:(List Int)),ah.f m l0=some r→∀h xs,eN fc h xs [af.fz l0]→cf 76 xs h=some (aa.fz r,h)
section
variable {cf:CallF}{m:Nat}
theorem ah.eQ (L:Mem)(l0:List ab)  (yY:H3 cf m)(yZ:H4 cf m):bE Tryd.prog cf mg m (sub [1,1,1,1,0,1,0,0,1,0,1,1,0,0] (codeOf Tryd.f76)) (fun k (σ:(List Int) × (List Bool) × (List Int) × Bool × Int)=>ah.l1 m l0 k σ.1 σ.2.1 σ.2.2.1 σ.2.2.2.1 σ.2.2.2.2) (fun σ s=>match σ with | (cH,dd,cW,kJ,i0)=>∃ik gM gL h3,s=⟨af.fz l0 :: .any :: .rs gL 0 cH.length 1 :: .rs gM 0 dd.length 1 :: .rs ik 0 cW.length 1 :: .rs ((0)) 0 (([]:List Int).length) 1 :: .bool kJ :: .int .i64 i0::JU [],[],h3⟩∧Has h3 ((((0)),.sl (([]:List Int).length) 1 (aa.l ([]:List Int)))::(ik,.sl cW.length 1 (aa.l cW))::(gM,.sl dd.length 1 (cu.l dd))::(gL,.sl cH.length 1 (aa.l cH))::L)) (fun out e s=>(e = .exit 2∧∃cH dd cW kJ i0,(cH,dd,cW,kJ,i0)=out∧∃oR AE ik gM gL h3,s=⟨af.fz l0 :: .any :: .rs gL 0 cH.length 1 :: .rs gM 0 dd.length 1 :: .rs ik 0 cW.length 1 :: .rs ((0)) 0 (([]:List Int).length) 1 :: .bool kJ::oR::ri (AE::wK []),[],h3⟩∧Has h3 ((((0)),.sl (([]:List Int).length) 1 (aa.l ([]:List Int)))::(ik,.sl cW.length 1 (aa.l cW))::(gM,.sl dd.length 1 (cu.l dd))::(gL,.sl cH.length 1 (aa.l cH))::L))):=by
 refine gP (fun _=>rfl) ?_
 rintro k ⟨cH,dd,cW,kJ,i0⟩ s out ⟨ik,gM,gL,h3,rfl,o5⟩ H
 have H:ah.l1 m l0 (k+1) cH dd cW kJ i0=some out:=H
 refine qq <| qq <| q0 <| qc H (fun c1 H=>?_) (fun c1 H=>?_)
 ·refine qk <| qq <| qb 3 <| qq <| qq ?_
  obtain⟨v0,e4,H⟩:=aH H
  rcases dt H with⟨c2,H⟩| ⟨c2,H⟩
  ·exact qr [.v 2 (aE (k:=.i64) (E:=cu) (l:=dd) (q:=2) GW o5 rfl e4),.v 3 (bf  (E:=cu) (l:=dd) (q:=2) o5 rfl A4 e4 rfl),.b 4 c2] <| mX <| qx 3 <| q0 <| ⟨(cH,dd,cW,kJ,i64.wrap (i0 - (1:Int))),⟨ik,gM,gL,h3,by kernel_rfl,o5⟩,H⟩
  ·obtain⟨v1,e5,H⟩:=aH H
   obtain⟨x2,e6,H⟩:=aH H
   refine qr [.v 2 (aE (k:=.i64) (E:=cu) (l:=dd) (q:=2) GW o5 rfl e4),.v 3 (bf  (E:=cu) (l:=dd) (q:=2) o5 rfl A4 e4 rfl),.b 4 c2,.v 7 (bo (k:=.i64) (E:=af) (l:=l0) lh e5),.v 8 (cL  (E:=af) (l:=l0) h3 rU rV e5),.a 10 (yY _ _ _ e6 h3 _ (gO (ae (cP (ae (aM) (ae (aM) (ae (bY) (ae (cK (E:=aa)) (az)))))) (ae (sQ (E:=cu) (l:=dd) (q:=2) o5 rfl (fun _=>rfl)) (az)))))] <| qc H (fun c4 H=>?_) (fun c4 H=>?_)
   ·exact qx 3 <| q0 <| ⟨(cH,dd,cW,kJ,i64.wrap (i0 - (1:Int))),⟨ik,gM,gL,h3,by kernel_rfl,o5⟩,H⟩
   ·refine qk <| qq ?_
    obtain⟨x3,e7,H⟩:=aH H
    obtain⟨v2,e8,H⟩:=aH H
    obtain⟨h4,e9,o6⟩:=dF (P:=Tryd.prog) (tf:=3) (E:=aa) (l:=cH) (q:=3) (v:=x3) (x:=.int .i64 x3) o5 rfl Z3 e8 rfl rfl
    refine qr [.a 6 (yZ _ _ _ _ _ e7 h3 _ (gO (ae (cK (E:=af)) (ae (sQ (E:=aa) (l:=cW) (q:=1) o5 rfl (fun _=>rfl)) (ae (aM) (ae (sQ (E:=aa) (l:=cH) (q:=3) o5 rfl (fun _=>rfl)) (az))))))),.v 7 (aE (k:=.i64) (E:=aa) (l:=cH) (q:=3) dz o5 rfl e8),.w 8 e9] <| qq <| qq ?_
    obtain⟨v3,nH,H⟩:=aH H
    refine qr [.v 2 (aE (k:=.i64) (E:=aa) (l:=(cH.set i0.toNat x3)) (q:=3) dz o6 rfl nH),.v 3 (bf  (E:=aa) (l:=(cH.set i0.toNat x3)) (q:=3) o6 rfl A3 nH rfl)] <| qc H (fun c5 H=>?_) (fun c5 H=>?_)
    ·obtain⟨x4,qS,H⟩:=aH H
     obtain⟨kG,h5,rX,o7⟩:=fD (P:=Tryd.prog) (E:=aa) (l:=cW) (q:=1) (t2:=42) (x:=.fz [.int .i64 i0] 1 true) (l2:=([i0])) dz o6 rfl (by kernel_rfl) rfl qS
     refine qr [.a 3 rX] <| qq ?_
     obtain⟨v4,rY,H⟩:=aH H
     obtain⟨h6,qT,o8⟩:=dF (P:=Tryd.prog) (tf:=4) (E:=cu) (l:=dd) (q:=2) (v:=true) (x:=.bool true) o7 rfl Z4 rY rfl rfl
     exact qr [.v 2 (aE (k:=.i64) (E:=cu) (l:=dd) (q:=2) GW o7 rfl rY),.w 3 qT] <| q0 <| q0 <| ⟨(cH.set i0.toNat x3,dd.set i0.toNat true,x4,true,i64.wrap (i0 - (1:Int))),⟨kG,gM,gL,h6,(W6 (b:=⟨af.fz l0 :: .any :: .rs gL 0 cH.length 1 :: .rs gM 0 dd.length 1 :: .rs kG 0 x4.length 1 :: .rs ((0)) 0 (([]:List Int).length) 1 :: .bool true :: .int .i64 (i64.wrap (i0 - (1:Int)))::JU [],[],h6⟩) (by kernel_rfl) (by simp only [Wd])),(by have o:Has h6 ((((0)),.sl (([]:List Int).length) 1 (aa.l ([]:List Int)))::(kG,.sl x4.length 1 (aa.l x4))::(gM,.sl dd.length 1 (cu.l (dd.set i0.toNat true)))::(gL,.sl cH.length 1 (aa.l (cH.set i0.toNat x3)))::L):=o8; simpa only [Wd] using o)⟩,H⟩
    ·refine qk <| qq ?_
     obtain⟨v5,pX,H⟩:=aH H
     obtain⟨h7,uC,o9⟩:=dF (P:=Tryd.prog) (tf:=4) (E:=cu) (l:=dd) (q:=2) (v:=true) (x:=.bool true) o6 rfl Z4 pX rfl rfl
     exact qr [.v 2 (aE (k:=.i64) (E:=cu) (l:=dd) (q:=2) GW o6 rfl pX),.w 3 uC] <| q0 <| q0 <| ⟨(cH.set i0.toNat x3,dd.set i0.toNat true,cW,true,i64.wrap (i0 - (1:Int))),⟨ik,gM,gL,h7,(W6 (b:=⟨af.fz l0 :: .any :: .rs gL 0 cH.length 1 :: .rs gM 0 dd.length 1 :: .rs ik 0 cW.length 1 :: .rs ((0)) 0 (([]:List Int).length) 1 :: .bool true :: .int .i64 (i64.wrap (i0 - (1:Int)))::JU [],[],h7⟩) (by kernel_rfl) (by simp only [Wd])),(by have o:Has h7 ((((0)),.sl (([]:List Int).length) 1 (aa.l ([]:List Int)))::(ik,.sl cW.length 1 (aa.l cW))::(gM,.sl dd.length 1 (cu.l (dd.set i0.toNat true)))::(gL,.sl cH.length 1 (aa.l (cH.set i0.toNat x3)))::L):=o9; simpa only [Wd] using o)⟩,H⟩
 ·exact qx 2 <| ⟨rfl,cH,dd,cW,kJ,i0,oi H,.int .i64 i0,.bool (decide (i0≥(0:Int))),ik,gM,gL,h3,by kernel_rfl,o5⟩
theorem ah.bI (L:Mem)(l0:List ab)  (yY:H3 cf m)(yZ:H4 cf m):bE Tryd.prog cf mg m (sub [1,1,1,1,0,1,0,0] (codeOf Tryd.f76)) (fun k (σ:(List Int) × (List Bool) × (List Int) × Bool)=>ah.l0 m l0 k σ.1 σ.2.1 σ.2.2.1 σ.2.2.2) (fun σ s=>match σ with | (bl,dB,fJ,nh)=>∃g0 g1 gQ fk da h2,s=⟨af.fz l0 :: .any :: .rs da 0 bl.length 1 :: .rs fk 0 dB.length 1 :: .rs gQ 0 fJ.length 1 :: .rs ((0)) 0 (([]:List Int).length) 1 :: .bool nh::g0::ri (g1::wK []),[],h2⟩∧Has h2 ((((0)),.sl (([]:List Int).length) 1 (aa.l ([]:List Int)))::(gQ,.sl fJ.length 1 (aa.l fJ))::(fk,.sl dB.length 1 (cu.l dB))::(da,.sl bl.length 1 (aa.l bl))::L)) (fun out e s=>(e = .exit 0∧∃bl dB fJ nh,(bl,dB,fJ,nh)=out∧∃uE uz oR Al AE gQ fk da h2,s=⟨af.fz l0 :: .any :: .rs da 0 bl.length 1 :: .rs fk 0 dB.length 1::uE :: .rs ((0)) 0 (([]:List Int).length) 1::uz::oR::C2 (Al::AE::wK []),[],h2⟩∧Has h2 ((((0)),.sl (([]:List Int).length) 1 (aa.l ([]:List Int)))::(gQ,.sl fJ.length 1 (aa.l fJ))::(fk,.sl dB.length 1 (cu.l dB))::(da,.sl bl.length 1 (aa.l bl))::L))):=by
 refine gP (fun _=>rfl) ?_
 rintro k ⟨bl,dB,fJ,nh⟩ s out ⟨g0,g1,gQ,fk,da,h2,rfl,o4⟩ H
 have H:ah.l0 m l0 (k+1) bl dB fJ nh=some out:=H
 refine qq <| qq <| q0 <| qc H (fun c0 H=>?_) (fun c0 H=>?_)
 ·refine qk <| qb 1 <| qq <| q0 <| qq <| q0 <| qb 2 ?_
  obtain⟨bq,uf,H⟩:=aH H
  refine ql (ah.eQ L l0  yY yZ (bl,dB,fJ,false,i64.wrap ((l0.length:Int) - (1:Int))) _ _ ⟨gQ,fk,da,h2,by kernel_rfl,o4⟩ uf) ?_
  rintro e s ⟨rfl,AH,Gd,xk,Ge,i1,rfl,g2,g3,xw,eK,nK,h8,rfl,uA⟩
  try dsimp only at H
  exact⟨(AH,Gd,xk,Ge),⟨g2,g3,xw,eK,nK,h8,by kernel_rfl,uA⟩,H⟩
 ·exact qx 0 <| ⟨rfl,bl,dB,fJ,nh,oi H,.rs gQ 0 fJ.length 1,.any,.any,.bool nh,.any,gQ,fk,da,h2,by kernel_rfl,o4⟩
theorem ah.tu (L:Mem)(l0:List ab)(gN:Nat)(dL:List Bool)(gN:Nat)(i2:Int)(x5:List Int)(qi:Nat)  (ng:Ds cf m):bE Tryd.prog cf mg m (sub [1,1,1,1,1,0,1,0,0,1,0,0,1,1,1,1,0,0] (codeOf Tryd.f76)) (fun k (σ:(List Int) × Int)=>ah.l3 m l0 i2 x5 k σ.1 σ.2) (fun σ s=>match σ with | (cQ,k0)=>∃qm h13,s=⟨af.fz l0 :: .any :: .rs qm 0 cQ.length 1 :: .rs gN 0 dL.length 1 :: .any :: .rs qi 0 x5.length 1 :: .any :: .any :: .int .i64 i2 :: .int .i64 k0::EP [],[],h13⟩∧Has h13 ((qi,.sl x5.length 1 (aa.l x5))::(gN,.sl dL.length 1 (cu.l dL))::(qm,.sl cQ.length 1 (aa.l cQ))::L)) (fun out e s=>(e = .exit 6∧∃cQ k0,(cQ,k0)=out∧∃tc Qt qm h13,s=⟨af.fz l0 :: .any :: .rs qm 0 cQ.length 1 :: .rs gN 0 dL.length 1 :: .any :: .rs qi 0 x5.length 1 :: .any :: .any :: .int .i64 i2::tc::oI (Qt::sY []),[],h13⟩∧Has h13 ((qi,.sl x5.length 1 (aa.l x5))::(gN,.sl dL.length 1 (cu.l dL))::(qm,.sl cQ.length 1 (aa.l cQ))::L))):=by
 refine gP (fun _=>rfl) ?_
 rintro k ⟨cQ,k0⟩ s out ⟨qm,h13,rfl,lC⟩ H
 have H:ah.l3 m l0 i2 x5 (k+1) cQ k0=some out:=H
 refine qq <| qq ?_
 obtain⟨v8,DK,H⟩:=aH H
 rcases dt H with⟨c8,H⟩| ⟨c8,H⟩
 ·obtain⟨v9,Ff,H⟩:=aH H
  refine qr [.v 2 (aE (k:=.i64) (E:=aa) (l:=cQ) (q:=2) dz lC rfl DK),.v 3 (bf  (E:=aa) (l:=cQ) (q:=2) lC rfl A3 DK rfl),.b 6 c8,.v 9 (aE (k:=.i64) (E:=aa) (l:=x5) (q:=0) dz lC rfl Ff),.v 10 (bf  (E:=aa) (l:=x5) (q:=0) lC rfl A3 Ff rfl)] <| qc H (fun c9 H=>?_) (fun c9 H=>?_)
  ·refine qk <| qq <| qb 7 <| qq ?_
   obtain⟨v10,Fj,H⟩:=aH H
   obtain⟨v11,GX,H⟩:=aH H
   obtain⟨v12,Fh,H⟩:=aH H
   obtain⟨x6,Fi,H⟩:=aH H
   refine qr [.v 2 (bo (k:=.i64) (E:=af) (l:=l0) lh Fj),.v 3 (cL  (E:=af) (l:=l0) h13 rU rV Fj),.v 7 (aE (k:=.i64) (E:=aa) (l:=x5) (q:=0) dz lC rfl GX),.v 8 (bf  (E:=aa) (l:=x5) (q:=0) lC rfl A3 GX rfl),.v 9 (bo (k:=.i64) (E:=af) (l:=l0) lh Fh),.v 10 (cL  (E:=af) (l:=l0) h13 rU rV Fh),.a 11 (ng _ _ _ Fi h13 _ (gO (ae (cP (ae (aM) (ae (aM) (ae (bY) (ae (cK (E:=aa)) (az)))))) (ae (cP (ae (aM) (ae (aM) (ae (bY) (ae (cK (E:=aa)) (az)))))) (az)))))] <| qc H (fun rm H=>?_) (fun rm H=>?_)
   ·obtain⟨HK,Fg,H⟩:=aH H
    obtain⟨zx,HL,H⟩:=aH H
    obtain⟨mM,Kg,H⟩:=aH H
    obtain⟨h14,GY,Am⟩:=dF (P:=Tryd.prog) (tf:=3) (E:=aa) (l:=cQ) (q:=2) (v:=zx) (x:=.int .i64 zx) lC rfl Z3 Kg rfl rfl
    exact qr [.v 5 (aE (k:=.i64) (E:=aa) (l:=x5) (q:=0) dz lC rfl Fg),.v 6 (bf  (E:=aa) (l:=x5) (q:=0) lC rfl A3 Fg rfl),.v 7 (aE (k:=.i64) (E:=aa) (l:=cQ) (q:=2) dz lC rfl HL),.v 8 (bf  (E:=aa) (l:=cQ) (q:=2) lC rfl A3 HL rfl),.v 9 (aE (k:=.i64) (E:=aa) (l:=cQ) (q:=2) dz lC rfl Kg),.w 10 GY] <| q0 <| ⟨(cQ.set i2.toNat zx,i64.wrap (k0+(1:Int))),⟨qm,h14,(W6 (b:=⟨af.fz l0 :: .any :: .rs qm 0 cQ.length 1 :: .rs gN 0 dL.length 1 :: .any :: .rs qi 0 x5.length 1 :: .any :: .any :: .int .i64 i2 :: .int .i64 (i64.wrap (k0+(1:Int)))::EP [],[],h14⟩) (by kernel_rfl) (by simp only [Wd])),(by have o:Has h14 ((qi,.sl x5.length 1 (aa.l x5))::(gN,.sl dL.length 1 (cu.l dL))::(qm,.sl cQ.length 1 (aa.l (cQ.set i2.toNat zx)))::L):=Am; simpa only [Wd] using o)⟩,H⟩
   ·exact qk <| q0 <| ⟨(cQ,i64.wrap (k0+(1:Int))),⟨qm,h13,by kernel_rfl,lC⟩,H⟩
  ·exact qx 6 <| ⟨rfl,cQ,k0,oi H,.int .i64 k0,.bool (decide (v9<i2)),qm,h13,by kernel_rfl,lC⟩
 ·exact qr [.v 2 (aE (k:=.i64) (E:=aa) (l:=cQ) (q:=2) dz lC rfl DK),.v 3 (bf  (E:=aa) (l:=cQ) (q:=2) lC rfl A3 DK rfl),.b 6 c8] <| C7 <| qx 6 <| ⟨rfl,cQ,k0,oi H,.int .i64 k0,.bool false,qm,h13,by kernel_rfl,lC⟩
theorem ah.oU (L:Mem)(l0:List ab)(gN:Nat)(dL:List Bool)(gN:Nat)  (ng:Ds cf m):bE Tryd.prog cf mg m (sub [1,1,1,1,1,0,1,0,0] (codeOf Tryd.f76)) (fun k (σ:(List Int) × (List Int) × Int)=>ah.l2 m l0 dL k σ.1 σ.2.1 σ.2.2) (fun σ s=>match σ with | (er,jg,i2)=>∃lA ij h10,s=⟨af.fz l0 :: .any :: .rs ij 0 er.length 1 :: .rs gN 0 dL.length 1 :: .any :: .rs lA 0 jg.length 1 :: .any :: .any :: .int .i64 i2::Mf [],[],h10⟩∧Has h10 ((lA,.sl jg.length 1 (aa.l jg))::(gN,.sl dL.length 1 (cu.l dL))::(ij,.sl er.length 1 (aa.l er))::L)) (fun out e s=>(e = .exit 4∧∃er jg i2,(er,jg,i2)=out∧∃Dh tm Qu lA ij h10,s=⟨af.fz l0 :: .any :: .rs ij 0 er.length 1::Dh :: .any :: .rs lA 0 jg.length 1 :: .any :: .any::tm::wK (Qu::C2 []),[],h10⟩∧Has h10 ((lA,.sl jg.length 1 (aa.l jg))::(gN,.sl dL.length 1 (cu.l dL))::(ij,.sl er.length 1 (aa.l er))::L))):=by
 refine gP (fun _=>rfl) ?_
 rintro k ⟨er,jg,i2⟩ s out ⟨lA,ij,h10,rfl,ly⟩ H
 have H:ah.l2 m l0 dL (k+1) er jg i2=some out:=H
 refine qq <| qq <| q0 <| qc H (fun c6 H=>?_) (fun c6 H=>?_)
 ·refine qk <| qq <| qb 5 <| qq <| qq ?_
  obtain⟨v6,uD,H⟩:=aH H
  refine qr [.v 2 (aE (k:=.i64) (E:=cu) (l:=dL) (q:=1) GW ly rfl uD),.v 3 (bf  (E:=cu) (l:=dL) (q:=1) ly rfl A4 uD rfl)] <| qc H (fun c7 H=>?_) (fun c7 H=>?_)
  ·exact qx 5 <| q0 <| ⟨(er,jg,i64.wrap (i2+(1:Int))),⟨lA,ij,h10,by kernel_rfl,ly⟩,H⟩
  ·refine qk <| qq ?_
   obtain⟨x5,zw,H⟩:=aH H
   obtain⟨qi,h11,BG,yv⟩:=fD (P:=Tryd.prog) (E:=aa) (l:=jg) (q:=0) (t2:=42) (x:=.fz [.int .i64 i2] 1 true) (l2:=([i2])) dz ly rfl (by kernel_rfl) rfl zw
   refine qr [.a 3 BG] <| qq ?_
   obtain⟨v7,DJ,H⟩:=aH H
   obtain⟨h12,Fe,zu⟩:=dF (P:=Tryd.prog) (tf:=3) (E:=aa) (l:=er) (q:=2) (v:=i2) (x:=.int .i64 i2) yv rfl Z3 DJ rfl rfl
   refine qr [.v 3 (aE (k:=.i64) (E:=aa) (l:=er) (q:=2) dz yv rfl DJ),.w 4 Fe] <| qq <| q0 <| qb 6 ?_
   obtain⟨je,Ld,H⟩:=aH H
   refine ql (ah.tu L l0 gN dL gN i2 x5 qi  ng (er.set i2.toNat i2,(0:Int)) _ _ ⟨ij,h12,(W6 (b:=⟨af.fz l0 :: .any :: .rs ij 0 er.length 1 :: .rs gN 0 dL.length 1 :: .any :: .rs qi 0 x5.length 1 :: .any :: .any :: .int .i64 i2 :: .int .i64 (0:Int)::EP [],[],h12⟩) (by kernel_rfl) (by simp only [Wd])),(by have o:Has h12 ((qi,.sl x5.length 1 (aa.l x5))::(gN,.sl dL.length 1 (cu.l dL))::(ij,.sl er.length 1 (aa.l (er.set i2.toNat i2)))::L):=zu; simpa only [Wd] using o)⟩ Ld) ?_
   rintro e s ⟨rfl,AI,k1,rfl,g9,g10,Kx,h15,rfl,Di⟩
   try dsimp only at H
   exact q0 <| ⟨(AI,x5,i64.wrap (i2+(1:Int))),⟨qi,Kx,h15,by kernel_rfl,Di⟩,H⟩
 ·exact qx 4 <| ⟨rfl,er,jg,i2,oi H,.rs gN 0 dL.length 1,.int .i64 i2,.bool (decide (i2<(l0.length:Int))),lA,ij,h10,by kernel_rfl,ly⟩
theorem ah.Gg (L:Mem)(l0:List ab)(gW:Nat)(bB:List Int)(gW:Nat)(iE:Nat)(aY:List Int)(iE:Nat)(jl:Bool)(j0:Int)(lD:Int)  (mf:AG cf m):bE Tryd.prog cf mg m (sub [1,1,1,1,1,1,0,1,0,0,1,0,1,1,1,0,1,0,0,1,0,0,1,1,0,1,0,0] (codeOf Tryd.f76)) (fun k (σ:(List Int) × Int)=>ah.l6 m l0 bB aY j0 lD k σ.1 σ.2) (fun σ s=>match σ with | (cG,k2)=>∃qn h21,s=⟨af.fz l0 :: .any :: .rs iE 0 aY.length 1 :: .any :: .any :: .rs gW 0 bB.length 1::qQ (.bool jl :: .rs qn 0 cG.length 1 :: .int .i64 j0 :: .int .i64 lD :: .int .i64 k2::mD []),[],h21⟩∧Has h21 ((qn,.sl cG.length 1 (aa.l cG))::(gW,.sl bB.length 1 (aa.l bB))::(iE,.sl aY.length 1 (aa.l aY))::L)) (fun out e s=>(e = .exit 12∧∃cG k2,(cG,k2)=out∧∃wS Nh qn h21,s=⟨af.fz l0 :: .any :: .rs iE 0 aY.length 1 :: .any :: .any :: .rs gW 0 bB.length 1::qQ (.bool jl :: .rs qn 0 cG.length 1 :: .int .i64 j0 :: .int .i64 lD::wS::wK [Nh,.any]),[],h21⟩∧Has h21 ((qn,.sl cG.length 1 (aa.l cG))::(gW,.sl bB.length 1 (aa.l bB))::(iE,.sl aY.length 1 (aa.l aY))::L))):=by
 refine gP (fun _=>rfl) ?_
 rintro k ⟨cG,k2⟩ s out ⟨qn,h21,rfl,mI⟩ H
 have H:ah.l6 m l0 bB aY j0 lD (k+1) cG k2=some out:=H
 refine qq <| qq ?_
 obtain⟨Ss,HO,H⟩:=aH H
 rcases dt H with⟨mY,H⟩| ⟨mY,H⟩
 ·refine qr [.v 2 (aE (k:=.i64) (E:=aa) (l:=cG) (q:=0) dz mI rfl HO),.v 3 (bf  (E:=aa) (l:=cG) (q:=0) mI rfl A3 HO rfl),.b 6 mY] <| qc H (fun BC H=>?_) (fun BC H=>?_)
  ·refine qk <| qq <| qb 13 <| qq ?_
   obtain⟨Su,IJ,H⟩:=aH H
   obtain⟨v20,IK,H⟩:=aH H
   obtain⟨v21,Lh,H⟩:=aH H
   rcases dt H with⟨xu,H⟩| ⟨xu,H⟩
   ·obtain⟨Sv,Sz,H⟩:=aH H
    obtain⟨Sw,SB,H⟩:=aH H
    obtain⟨v24,SC,H⟩:=aH H
    obtain⟨x8,Uz,H⟩:=aH H
    refine qr [.v 2 (aE (k:=.i64) (E:=aa) (l:=aY) (q:=2) dz mI rfl IJ),.v 3 (bf  (E:=aa) (l:=aY) (q:=2) mI rfl A3 IJ rfl),.v 7 (aE (k:=.i64) (E:=aa) (l:=bB) (q:=1) dz mI rfl IK),.v 8 (bf  (E:=aa) (l:=bB) (q:=1) mI rfl A3 IK rfl),.v 9 (aE (k:=.i64) (E:=aa) (l:=aY) (q:=2) dz mI rfl Lh),.v 10 (bf  (E:=aa) (l:=aY) (q:=2) mI rfl A3 Lh rfl),.b 12 xu,.v 15 (bo (k:=.i64) (E:=af) (l:=l0) lh Sz),.v 16 (cL  (E:=af) (l:=l0) h21 rU rV Sz),.v 20 (aE (k:=.i64) (E:=aa) (l:=bB) (q:=1) dz mI rfl SB),.v 21 (bf  (E:=aa) (l:=bB) (q:=1) mI rfl A3 SB rfl),.v 22 (bo (k:=.i64) (E:=af) (l:=l0) lh SC),.v 23 (cL  (E:=af) (l:=l0) h21 rU rV SC),.a 25 (mf _ _ _ _ Uz h21 _ (gO (ae (cP (ae (aM) (ae (aM) (ae (bY) (ae (cK (E:=aa)) (az)))))) (ae (cP (ae (aM) (ae (aM) (ae (bY) (ae (cK (E:=aa)) (az)))))) (ae (sQ (E:=aa) (l:=aY) (q:=2) mI rfl (fun _=>rfl)) (az))))))] ?_
    refine qc H (fun Da H=>?_) (fun Da H=>?_)
    ·obtain⟨Sx,SD,H⟩:=aH H
     obtain⟨Lk,SE,H⟩:=aH H
     obtain⟨Uy,SF,H⟩:=aH H
     obtain⟨h22,UA,IL⟩:=dF (P:=Tryd.prog) (tf:=3) (E:=aa) (l:=cG) (q:=0) (v:=Lk) (x:=.int .i64 Lk) mI rfl Z3 SF rfl rfl
     exact qr [.v 5 (aE (k:=.i64) (E:=aa) (l:=bB) (q:=1) dz mI rfl SD),.v 6 (bf  (E:=aa) (l:=bB) (q:=1) mI rfl A3 SD rfl),.v 7 (aE (k:=.i64) (E:=aa) (l:=cG) (q:=0) dz mI rfl SE),.v 8 (bf  (E:=aa) (l:=cG) (q:=0) mI rfl A3 SE rfl),.v 9 (aE (k:=.i64) (E:=aa) (l:=cG) (q:=0) dz mI rfl SF),.w 10 UA] <| q0 <| ⟨(cG.set lD.toNat Lk,i64.wrap (k2+(1:Int))),⟨qn,h22,(W6 (b:=⟨af.fz l0 :: .any :: .rs iE 0 aY.length 1 :: .any :: .any :: .rs gW 0 bB.length 1::qQ (.bool jl :: .rs qn 0 cG.length 1 :: .int .i64 j0 :: .int .i64 lD :: .int .i64 (i64.wrap (k2+(1:Int)))::mD []),[],h22⟩) (by kernel_rfl) (by simp only [Wd])),(by have o:Has h22 ((qn,.sl cG.length 1 (aa.l (cG.set lD.toNat Lk)))::(gW,.sl bB.length 1 (aa.l bB))::(iE,.sl aY.length 1 (aa.l aY))::L):=IL; simpa only [Wd] using o)⟩,H⟩
    ·exact qk <| q0 <| ⟨(cG,i64.wrap (k2+(1:Int))),⟨qn,h21,by kernel_rfl,mI⟩,H⟩
   ·exact qr [.v 2 (aE (k:=.i64) (E:=aa) (l:=aY) (q:=2) dz mI rfl IJ),.v 3 (bf  (E:=aa) (l:=aY) (q:=2) mI rfl A3 IJ rfl),.v 7 (aE (k:=.i64) (E:=aa) (l:=bB) (q:=1) dz mI rfl IK),.v 8 (bf  (E:=aa) (l:=bB) (q:=1) mI rfl A3 IK rfl),.v 9 (aE (k:=.i64) (E:=aa) (l:=aY) (q:=2) dz mI rfl Lh),.v 10 (bf  (E:=aa) (l:=aY) (q:=2) mI rfl A3 Lh rfl),.b 12 xu] <| C7 <| qk <| q0 <| ⟨(cG,i64.wrap (k2+(1:Int))),⟨qn,h21,by kernel_rfl,mI⟩,H⟩
  ·exact qx 12 <| ⟨rfl,cG,k2,oi H,.int .i64 k2,.bool (decide (k2<j0)),qn,h21,by kernel_rfl,mI⟩
 ·exact qr [.v 2 (aE (k:=.i64) (E:=aa) (l:=cG) (q:=0) dz mI rfl HO),.v 3 (bf  (E:=aa) (l:=cG) (q:=0) mI rfl A3 HO rfl),.b 6 mY] <| C7 <| qx 12 <| ⟨rfl,cG,k2,oi H,.int .i64 k2,.bool false,qn,h21,by kernel_rfl,mI⟩
theorem ah.Gh (L:Mem)(l0:List ab)(gW:Nat)(bB:List Int)(gW:Nat)(iE:Nat)(aY:List Int)(iE:Nat)  (mf:AG cf m):bE Tryd.prog cf mg m (sub [1,1,1,1,1,1,0,1,0,0,1,0,1,1,1,0,1,0,0] (codeOf Tryd.f76)) (fun k (σ:Bool × (List Int) × Int)=>ah.l5 m l0 bB aY k σ.1 σ.2.1 σ.2.2) (fun σ s=>match σ with | (jl,bN,j0)=>∃uH h19,s=⟨af.fz l0 :: .any :: .rs iE 0 aY.length 1 :: .any :: .any :: .rs gW 0 bB.length 1::qQ (.bool jl :: .rs uH 0 bN.length 1 :: .int .i64 j0::pS []),[],h19⟩∧Has h19 ((uH,.sl bN.length 1 (aa.l bN))::(gW,.sl bB.length 1 (aa.l bB))::(iE,.sl aY.length 1 (aa.l aY))::L)) (fun out e s=>(e = .exit 10∧∃jl bN j0,(jl,bN,j0)=out∧∃ta nE Ni uH h19,s=⟨af.fz l0 :: .any::ta :: .any :: .any :: .rs gW 0 bB.length 1::qQ (.bool jl :: .rs uH 0 bN.length 1::nE::oI [Ni,.any,.any]),[],h19⟩∧Has h19 ((uH,.sl bN.length 1 (aa.l bN))::(gW,.sl bB.length 1 (aa.l bB))::(iE,.sl aY.length 1 (aa.l aY))::L))):=by
 refine gP (fun _=>rfl) ?_
 rintro k ⟨jl,bN,j0⟩ s out ⟨uH,h19,rfl,HN⟩ H
 have H:ah.l5 m l0 bB aY (k+1) jl bN j0=some out:=H
 refine qq <| qq <| q0 <| qc H (fun rn H=>?_) (fun rn H=>?_)
 ·refine qk <| qq <| qb 11 <| qq ?_
  obtain⟨lD,Ki,H⟩:=aH H
  refine qr [.v 2 (aE (k:=.i64) (E:=aa) (l:=bB) (q:=1) dz HN rfl Ki),.v 3 (bf  (E:=aa) (l:=bB) (q:=1) HN rfl A3 Ki rfl)] <| qq ?_
  obtain⟨Ll,Lg,H⟩:=aH H
  obtain⟨h20,MO,MP⟩:=dF (P:=Tryd.prog) (tf:=3) (E:=aa) (l:=bN) (q:=0) (v:=lD) (x:=.int .i64 lD) HN rfl Z3 Lg rfl rfl
  refine qr [.v 3 (aE (k:=.i64) (E:=aa) (l:=bN) (q:=0) dz HN rfl Lg),.w 4 MO] <| qq <| qq <| q0 <| qb 12 ?_
  obtain⟨cF,UB,H⟩:=aH H
  refine ql (ah.Gg L l0 gW bB gW iE aY iE jl j0 lD  mf (bN.set lD.toNat lD,(0:Int)) _ _ ⟨uH,h20,(W6 (b:=⟨af.fz l0 :: .any :: .rs iE 0 aY.length 1 :: .any :: .any :: .rs gW 0 bB.length 1::qQ (.bool jl :: .rs uH 0 bN.length 1 :: .int .i64 j0 :: .int .i64 lD :: .int .i64 (0:Int)::mD []),[],h20⟩) (by kernel_rfl) (by simp only [Wd])),(by have o:Has h20 ((uH,.sl bN.length 1 (aa.l (bN.set lD.toNat lD)))::(gW,.sl bB.length 1 (aa.l bB))::(iE,.sl aY.length 1 (aa.l aY))::L):=MP; simpa only [Wd] using o)⟩ UB) ?_
  rintro e s ⟨rfl,qX,k3,rfl,g14,g15,Nj,h23,rfl,GZ⟩
  try dsimp only at H
  rcases dt H with⟨DN,H⟩| ⟨DN,H⟩
  ·exact qr [.b 1 DN] <| q0 <| ⟨(true,qX,i64.wrap (j0+(1:Int))),⟨Nj,h23,by kernel_rfl,GZ⟩,H⟩
  ·obtain⟨v28,SG,H⟩:=aH H
   obtain⟨Qs,SH,H⟩:=aH H
   exact qr [.b 1 DN,.v 4 (aE (k:=.i64) (E:=aa) (l:=qX) (q:=0) dz GZ rfl SG),.v 5 (bf  (E:=aa) (l:=qX) (q:=0) GZ rfl A3 SG rfl),.v 8 (aE (k:=.i64) (E:=aa) (l:=aY) (q:=2) dz GZ rfl SH),.v 9 (bf  (E:=aa) (l:=aY) (q:=2) GZ rfl A3 SH rfl)] <| q0 <| ⟨(!(v28==Qs),qX,i64.wrap (j0+(1:Int))),⟨Nj,h23,by kernel_rfl,GZ⟩,H⟩
 ·exact qx 10 <| ⟨rfl,jl,bN,j0,oi H,.rs iE 0 aY.length 1,.int .i64 j0,.bool (decide (j0<(bB.length:Int))),uH,h19,by kernel_rfl,HN⟩
theorem ah.tv (L:Mem)(l0:List ab)(gW:Nat)(bB:List Int)(gW:Nat)  (mf:AG cf m):bE Tryd.prog cf mg m (sub [1,1,1,1,1,1,0,1,0,0] (codeOf Tryd.f76)) (fun k (σ:(List Int) × Bool)=>ah.l4 m l0 bB k σ.1 σ.2) (fun σ s=>match σ with | (aY,ni)=>∃iE h17,s=⟨af.fz l0 :: .any :: .rs iE 0 aY.length 1 :: .any :: .any :: .rs gW 0 bB.length 1::qQ (.bool ni::EO []),[],h17⟩∧Has h17 ((gW,.sl bB.length 1 (aa.l bB))::(iE,.sl aY.length 1 (aa.l aY))::L)) (fun out e s=>(e = .exit 8∧∃aY ni,(aY,ni)=out∧∃kC Ar Af Gi iE h17,s=⟨kC :: .any :: .rs iE 0 aY.length 1 :: .any :: .any::Ar::qQ (Af::mD (Gi::ke [])),[],h17⟩∧Has h17 ((gW,.sl bB.length 1 (aa.l bB))::(iE,.sl aY.length 1 (aa.l aY))::L))):=by
 refine gP (fun _=>rfl) ?_
 rintro k ⟨aY,ni⟩ s out ⟨iE,h17,rfl,wX⟩ H
 have H:ah.l4 m l0 bB (k+1) aY ni=some out:=H
 refine qq <| qq <| q0 <| qc H (fun oQ H=>?_) (fun oQ H=>?_)
 ·refine qk <| qb 9 <| qq <| q0 <| qq <| q0 ?_
  have FA:Has h17 (((((0))),.sl (([]:List Int).length) 1 (aa.l ([]:List Int)))::(gW,.sl bB.length 1 (aa.l bB))::(iE,.sl aY.length 1 (aa.l aY))::L):=Has.nil wX 1
  refine qq ?_
  obtain⟨x7,MM,H⟩:=aH H
  obtain⟨Qv,h18,MN,DM⟩:=fD (P:=Tryd.prog) (E:=aa) (l:=([]:List Int)) (q:=0) (t2:=42) (x:=.rs iE 0 aY.length 1) (l2:=aY) dz FA rfl (CY (E:=aa) (l:=aY) (q:=2) FA rfl) rfl MM
  refine qr [.a 2 MN] <| qq <| qq <| q0 <| qb 10 ?_
  obtain⟨yG,UC,H⟩:=aH H
  refine ql (ah.Gh L l0 gW bB gW iE aY iE  mf (false,x7,(0:Int)) _ _ ⟨Qv,h18,by kernel_rfl,DM⟩ UC) ?_
  rintro e s ⟨rfl,Gf,yX,j1,rfl,g16,g17,g18,Nk,h24,rfl,MQ⟩
  try dsimp only at H
  refine q0 ?_
  have MR:Has h24 ((Nk,.sl yX.length 1 (aa.l yX))::(gW,.sl bB.length 1 (aa.l bB))::L):=Has.del MQ 2
  exact⟨(yX,Gf),⟨Nk,h24,by kernel_rfl,(Has.front (Has.front MR 0 rfl) 1 rfl)⟩,H⟩
 ·exact qx 8 <| ⟨rfl,aY,ni,oi H,af.fz l0,.rs gW 0 bB.length 1,.any,.bool ni,iE,h17,by kernel_rfl,wX⟩
theorem nN {aV:FuncId→cb}(ha:aV 76=mg)(yY:H3 cf m)(yZ:H4 cf m)(ng:Ds cf m)(mf:AG cf m)(l0:List ab)(h:AHeap)(L:Mem)  (o:Has h (L)){out:(List Int)}(H:ah.f m l0=some out) :
  ∃r h',be Tryd.prog aV cf m 76 [af.fz l0] h=some (r,h')∧fT h' r (aa.fz out):=by
 refine aq (fn:=Tryd.f76) ha Tryd.func76 (by kernel_rfl) (by kernel_rfl) ?_
 refine aG (Q:=fun s=>ah.fin L out s) (fun _ _ h=>h) ?_
 have H:_=some out:=H
 unfold ah.f at H
 show de _ cf mg m _ ⟨af.fz l0::Pa [],[],h⟩ _
 refine q1 <| qq ?_
 obtain⟨x0,e0,H⟩:=aH H
 obtain⟨aA,h0,e1,o0⟩:=nB (P:=Tryd.prog) (E:=aa) (z:=(0:Int)) (zv:=.int .i64 (0:Int)) dz o 3 rfl rfl rfl rfl e0
 refine qr [.a 2 e1] <| qq ?_
 obtain⟨x1,e2,H⟩:=aH H
 obtain⟨fV,h1,e3,o1⟩:=nB (P:=Tryd.prog) (E:=cu) (z:=false) (zv:=.bool false) GW o0 4 rfl rfl rfl rfl e2
 refine qr [.a 2 e3] <| qq <| q0 ?_
 have o2:Has h1 (((0),.sl (([]:List Int).length) 1 (aa.l ([]:List Int)))::(fV,.sl x1.length 1 (cu.l x1))::(aA,.sl x0.length 1 (aa.l x0))::L):=Has.nil o1 1
 have o3:Has h1 ((((0)),.sl (([]:List Int).length) 1 (aa.l ([]:List Int)))::((0),.sl (([]:List Int).length) 1 (aa.l ([]:List Int)))::(fV,.sl x1.length 1 (cu.l x1))::(aA,.sl x0.length 1 (aa.l x0))::L):=Has.nil o2 1
 refine qq <| qq <| q0 <| qb 0 ?_
 obtain⟨b9,yD,H⟩:=aH H
 refine ql (ah.bI L l0  yY yZ (x0,x1,([]:List Int),true) _ _ ⟨.any,.any,(0),fV,aA,h1,by kernel_rfl,o3⟩ yD) ?_
 rintro e s ⟨rfl,tQ,dL,H5,Nd,rfl,g4,g5,g6,g7,g8,fH,gN,jL,h9,rfl,vk⟩
 try dsimp only at H
 refine qq <| qq <| q0 ?_
 have tq:Has h9 ((((0)),.sl (([]:List Int).length) 1 (aa.l ([]:List Int)))::(gN,.sl dL.length 1 (cu.l dL))::(jL,.sl tQ.length 1 (aa.l tQ))::L):=Has.del vk 1
 refine qb 4 ?_
 obtain⟨oS,Le,H⟩:=aH H
 refine ql (ah.oU L l0 gN dL gN  ng (tQ,([]:List Int),(0:Int)) _ _ ⟨((0)),jL,h9,by kernel_rfl,tq⟩ Le) ?_
 rintro e s ⟨rfl,tR,bB,i3,rfl,g11,g12,g13,gW,Nl,h16,rfl,Dj⟩
 try dsimp only at H
 refine qq <| qq <| q0 ?_
 have Kh:Has h16 ((gW,.sl bB.length 1 (aa.l bB))::(Nl,.sl tR.length 1 (aa.l tR))::L):=Has.del Dj 1
 refine qb 8 ?_
 obtain⟨gu,UD,H⟩:=aH H
 refine ql (ah.tv L l0 gW bB gW  mf (tR,true) _ _ ⟨Nl,h16,by kernel_rfl,Kh⟩ UD) ?_
 rintro e s ⟨rfl,qh,Ng,rfl,g19,g20,g21,g22,Nn,h25,rfl,NZ⟩
 try dsimp only at H
 refine q1 ?_
 have PM:Has h25 ((Nn,.sl qh.length 1 (aa.l qh))::L):=Has.del NZ 0
 obtain rfl:=oi H
 exact qt <| ⟨.inl rfl,bZ (.rs Nn 0 qh.length 1) h25 (bX (yk (E:=aa) (l:=qh) (q:=0) PM rfl (fun _=>rfl)))⟩
end
end Go.Proofs.YtmekcfdllhphlaaDoor
namespace Go.Proofs.YtmekcfdllhphlaaDoor
open Go Go.R
open Go.IntKind (i64 u64 u8 u32)
def gb (l:List Bool)(k:Nat):Bool:=l.getD k false
theorem H6 {l:List Bool}{k:Nat}(h:k<l.length):l[k]? = some (gb l k):=by
 unfold gb; rw [Wm,Wh h]; rfl
theorem B4 {l:List Bool}{i:Int}(h0:0≤i)(h:i.toNat<l.length):ix l i=some (gb l i.toNat):=by
 unfold ix; rw [if_pos h0,H6 h]
theorem Gj {l:List Bool}{i k:Nat}{x:Bool}(hi:i<l.length):gb (l.set i x) k=if k=i then x else gb l k:=by
 unfold gb
 simp only [Wm,Xs]
 by_cases h:i=k
 ·subst h; simp [hi]
 ·rw [if_neg h,if_neg (by omega)]
def ar (l:List ab)(i k:Nat):Nat:=(gt (nd l i).args k).toNat
def na (l:List ab)(i:Nat):Nat:=(nd l i).args.length
theorem j6 {l:List ab}(ok:kH l){i k:Nat}(hi:i<l.length)(hk:k<na l i):ar l i k<l.length∧gt (nd l i).args k=(ar l i k:Int):=by
 obtain⟨h0,h1⟩:=(yI ok hi).2 _ (aN (l:=(nd l i).args) (k:=k) hk)
 unfold ar; omega
theorem B5 {l:List ab}(ok:kH l){i:Nat}(hi:i<l.length):na l i≤8:=(yI ok hi).1
theorem tS {m:Nat}(a b:ab):∃x,eU.f m a b=some x∧(x=true↔Alike a b):=by
 unfold eU.f
 by_cases h1:a.kind=b.kind
 ·rw [if_pos (by simpa using h1)]
  by_cases h2:a.int=b.int
  ·rw [if_pos (by simpa using h2)]
   by_cases h3:a.label=b.label
   ·rw [if_pos (by rw [h3]; simp)]
    refine⟨_,rfl,⟨fun h=>⟨h1,h2,h3,by have:=beq_iff_eq.1 h; omega⟩,fun h=>by have:=h.len; rw [beq_iff_eq]; omega⟩⟩
   ·rw [if_neg (fun h=>h3 (Az (by simpa using h)))]
    exact⟨_,rfl,⟨fun h=>(by cases h),fun h=>absurd h.label h3⟩⟩
  ·rw [if_neg (by simpa using h2)]
   exact⟨_,rfl,⟨fun h=>(by cases h),fun h=>absurd h.int h2⟩⟩
 ·rw [if_neg (by simpa using h1)]
  exact⟨_,rfl,⟨fun h=>(by cases h),fun h=>absurd h.kind h1⟩⟩
def SA (l:List ab)(c:List Int)(i j:Nat):Prop:=∀k,k<na l i→gt c (ar l i k)=gt c (ar l j k)
theorem IW {m:Nat}{l:List ab}{c:List Int}(ok:kH l)(hc:c.length=l.length){i j:Nat}(hi:i<l.length)(hj:j<l.length)(hl:na l i=na l j):∀(f k:Nat),na l i - k<f→k≤na l i→
  ∃o,bg.l0 m (nd l i) (nd l j) c f (k:Int)=some o∧((∃x,o = .inr x)∧(∀q,k≤q→q<na l i→gt c (ar l i q)=gt c (ar l j q))∨o = .inl false∧∃q,q<na l i∧gt c (ar l i q)≠gt c (ar l j q))
 | 0,k,hf,_=>absurd hf (by omega)
 | f+1,k,hf,hk=>by
  have h8:=B5 ok hi
  unfold bg.l0
  by_cases h:k<na l i
  ·obtain⟨a1,a2⟩:=j6 ok hi h
   obtain⟨b1,b2⟩:=j6 ok hj (show k<na l j by omega)
   have e1:ix c (gt (nd l i).args k)=some (gt c (ar l i k)):=fQ a2 (by omega)
   have e2:ix c (gt (nd l j).args k)=some (gt c (ar l j k)):=fQ b2 (by omega)
   rw [if_pos (by simp only [decide_eq_true_eq]; unfold na at h; omega),cn (l:=(nd l i).args) h,V3,e1,V3,cn (l:=(nd l j).args) (show k<(nd l j).args.length by unfold na at hl h; omega),V3,e2,V3]
   by_cases e:gt c (ar l i k)=gt c (ar l j k)
   ·obtain⟨o,k1,k2⟩:=IW (m:=m) ok hc hi hj hl f (k+1) (by omega) (by omega)
    rw [if_neg (by simp [e]),aC (by omega) (by omega),show (k:Int)+1=((k+1:Nat):Int) by omega,k1]
    refine⟨o,rfl,k2.imp (fun ⟨x,y⟩=>⟨x,fun q q1 q2=>?_⟩) id⟩
    by_cases hq:q=k
    ·subst hq; exact e
    ·exact y q (by omega) q2
   ·rw [if_pos (by simpa using e)]
    exact⟨_,rfl,.inr ⟨rfl,k,h,e⟩⟩
  ·refine⟨_,by rw [if_neg (by simp only [decide_eq_true_eq]; unfold na at h; omega)],.inl ⟨⟨_,rfl⟩,fun q q1 q2=>absurd q2 (by omega)⟩⟩
theorem B6 {m:Nat}(hm:2 ^ 30≤m){l:List ab}{c:List Int}(ok:kH l)(hc:c.length=l.length){i j:Nat}(hi:i<l.length)(hj:j<l.length)(hl:na l i=na l j):∃x,bg.f m (nd l i) (nd l j) c=some x∧(x=true↔SA l c i j):=by
 have l8:(2:Nat) ^ 30=1073741824:=by decide
 have h8:=B5 ok hi
 obtain⟨o,k1,k2⟩:=IW (m:=m) ok hc hi hj hl m 0 (by omega) (by omega)
 have k1:bg.l0 m (nd l i) (nd l j) c m 0=_:=k1
 unfold bg.f
 rw [k1,V3]
 rcases k2 with⟨⟨x,rfl⟩,k⟩| ⟨rfl,q,q1,q2⟩
 ·exact⟨true,rfl,⟨fun _ k0 hk=>k k0 (by omega) hk,fun _=>rfl⟩⟩
 ·exact⟨false,rfl,⟨fun h=>(by cases h),fun h=>absurd (h q q1) q2⟩⟩
def SI (l:List ab)(dn:List Bool)(i:Nat):Prop:=∀k,k<na l i→gb dn (ar l i k)=true
theorem Gk {m:Nat}{l:List ab}{dn:List Bool}(ok:kH l)(hd:dn.length=l.length){i:Nat}(hi:i<l.length):∀(f k:Nat),na l i - k<f→k≤na l i→
  ∃o,bU.l0 m (nd l i) dn f (k:Int)=some o∧((∃x,o = .inr x)∧(∀q,k≤q→q<na l i→gb dn (ar l i q)=true)∨o = .inl false∧∃q,q<na l i∧gb dn (ar l i q)=false)
 | 0,k,hf,_=>absurd hf (by omega)
 | f+1,k,hf,hk=>by
  have h8:=B5 ok hi
  unfold bU.l0
  by_cases h:k<na l i
  ·obtain⟨a1,a2⟩:=j6 ok hi h
   have e1:ix dn (gt (nd l i).args k)=some (gb dn (ar l i k)):=by
    have:=B4 (l:=dn) (i:=gt (nd l i).args k) (by omega) (by rw [a2,V9]; omega)
    rw [this,a2,V9]
   rw [if_pos (by simp only [decide_eq_true_eq]; unfold na at h; omega),cn (l:=(nd l i).args) h,V3,e1,V3]
   cases e:gb dn (ar l i k) with
   | true=>
    obtain⟨o,k1,k2⟩:=Gk (m:=m) ok hd hi f (k+1) (by omega) (by omega)
    rw [if_neg (by simp),aC (by omega) (by omega),show (k:Int)+1=((k+1:Nat):Int) by omega,k1]
    refine⟨o,rfl,k2.imp (fun ⟨x,y⟩=>⟨x,fun q q1 q2=>?_⟩) id⟩
    by_cases hq:q=k
    ·subst hq; exact e
    ·exact y q (by omega) q2
   | false=>exact⟨_,rfl,.inr ⟨rfl,k,h,e⟩⟩
  ·refine⟨_,by rw [if_neg (by simp only [decide_eq_true_eq]; unfold na at h; omega)],.inl ⟨⟨_,rfl⟩,fun q q1 q2=>absurd q2 (by omega)⟩⟩
theorem Gl {m:Nat}(hm:2 ^ 30≤m){l:List ab}{dn:List Bool}(ok:kH l)(hd:dn.length=l.length){i:Nat}(hi:i<l.length):∃x,bU.f m (nd l i) dn=some x∧(x=true→SI l dn i)∧(x=false→∃q,q<na l i∧gb dn (ar l i q)=false):=by
 have l8:(2:Nat) ^ 30=1073741824:=by decide
 have h8:=B5 ok hi
 obtain⟨o,k1,k2⟩:=Gk (m:=m) ok hd hi m 0 (by omega) (by omega)
 have k1:bU.l0 m (nd l i) dn m 0=_:=k1
 unfold bU.f
 rw [k1,V3]
 rcases k2 with⟨⟨x,rfl⟩,k⟩| ⟨rfl,hq⟩
 ·exact⟨true,rfl,fun _ k0 hk=>k k0 (by omega) hk,fun h=>by cases h⟩
 ·exact⟨false,rfl,fun h=>(by cases h),fun _=>hq⟩
def qY (l:List ab)(c:List Int)(i j:Nat):Prop:=Alike (nd l i) (nd l j)∧SA l c i j
theorem B7 {m:Nat}(hm:2 ^ 30≤m){l:List ab}{c fs:List Int}(ok:kH l)(hc:c.length=l.length){i:Nat}(hi:i<l.length)(hf:∀f∈fs,0≤f∧f<l.length)(JJ:fs.length≤8000):∀(f k:Nat),fs.length - k<f→k≤fs.length→
  ∃o,b5.l0 m l fs (i:Int) c f (k:Int)=some o∧((∃x,o = .inr x)∧(∀q,k≤q→q<fs.length→¬qY l c i (gt fs q).toNat)∨∃v,o = .inl v∧v∈fs∧qY l c i v.toNat)
 | 0,k,h,_=>absurd h (by omega)
 | f+1,k,h,hk=>by
  unfold b5.l0
  by_cases G9:k<fs.length
  ·obtain⟨b0,b1⟩:=hf _ (aN G9)
   have No:((gt fs k).toNat:Int)=gt fs k:=by omega
   obtain⟨xa,a1,a2⟩:=tS (m:=m) (nd l (i:Int)) (nd l (gt fs k))
   have ih:=B7 hm ok hc hi hf JJ f (k+1) (by omega) (by omega)
   obtain⟨o,k1,k2⟩:=ih
   have next:¬qY l c i (gt fs k).toNat→∃o',(b5.l0 m l fs (i:Int) c f (i64.wrap ((k:Int)+1)))=some o'∧((∃x,o' = .inr x)∧(∀q,k≤q→q<fs.length→¬qY l c i (gt fs q).toNat)∨∃v,o' = .inl v∧v∈fs∧qY l c i v.toNat):=fun hn=>by
    rw [aC (by omega) (by omega),show (k:Int)+1=((k+1:Nat):Int) by omega,k1]
    refine⟨o,rfl,k2.imp (fun ⟨x,y⟩=>⟨x,fun q q1 q2=>?_⟩) id⟩
    by_cases hq:q=k
    ·subst hq; exact hn
    ·exact y q (by omega) q2
   rw [if_pos (by simp only [decide_eq_true_eq]; omega),gV (by omega) (by omega),V3,cn G9,V3,gV b0 b1,V3,a1,V3]
   cases xa with
   | false=>
    rw [if_neg (by simp)]
    refine next fun hs=>?_
    have:=a2.2 (by have:=hs.1; rw [No] at this; exact this)
    cases this
   | true=>
    have hA:=a2.1 rfl
    have hl:na l i=na l (gt fs k).toNat:=by unfold na; rw [No]; exact hA.len
    obtain⟨xs,s1,s2⟩:=B6 hm ok hc hi (j:=(gt fs k).toNat) (by omega) hl
    rw [No] at s1
    rw [if_pos rfl,V3,V3,gV b0 b1,V3,s1,V3]
    cases xs with
    | false=>
     rw [if_neg (by simp)]
     refine next fun hs=>?_
     have:=s2.2 hs.2; cases this
    | true=>
     exact⟨_,rfl,.inr ⟨_,rfl,aN G9,by rw [No]; exact hA,s2.1 rfl⟩⟩
  ·exact⟨_,by rw [if_neg (by simp only [decide_eq_true_eq]; omega)],.inl ⟨⟨_,rfl⟩,fun q q1 q2=>absurd q2 (by omega)⟩⟩
theorem find_spec {m:Nat}(hm:2 ^ 30≤m){l:List ab}{c fs:List Int}(ok:kH l)(hc:c.length=l.length){i:Nat}(hi:i<l.length)(hf:∀f∈fs,0≤f∧f<l.length)(JJ:fs.length≤8000) :
  ∃v,b5.f m l fs (i:Int) c=some v∧(v=i∧(∀f∈fs,¬qY l c i f.toNat)∨v∈fs∧qY l c i v.toNat):=by
 have l8:(2:Nat) ^ 30=1073741824:=by decide
 obtain⟨o,k1,k2⟩:=B7 hm ok hc hi hf JJ m 0 (by omega) (by omega)
 have k1:b5.l0 m l fs (i:Int) c m 0=_:=k1
 unfold b5.f
 rw [k1,V3]
 rcases k2 with⟨⟨x,rfl⟩,k⟩| ⟨v,rfl,hv,hs⟩
 ·refine⟨_,rfl,.inl ⟨rfl,fun f hf=>?_⟩⟩
  obtain⟨q,hq,e⟩:=eL hf
  rw [←e]; exact k q (by omega) hq
 ·exact⟨v,rfl,.inr ⟨hv,hs⟩⟩
end Go.Proofs.YtmekcfdllhphlaaDoor
namespace Go.Proofs.YtmekcfdllhphlaaDoor
open Go Go.R
open Go.IntKind (i64 u64 u8 u32)
def vD:cb:=gJ [0,1,4,5,6,7,8,9,19,34,50] [] [2044,2036,1988,1990,1734,1926,1926,1414,1926,1926,1798,774,1798,1798,2043] [] [(2,[(6,none,1),(7,none,1)])]
def aK.l1 (m:Nat)(l0:List ab)(v0:Int):Nat→(List Int)→Int→Option ((List Int) × Int)
 | 0,_,_=>none
 | k+1,fR,i0=>if (decide (i0≥(0:Int)))=true then ((ix l0 v0).bind fun v5=>(ix v5.args i0).bind fun v6=>(app 8 fR ([v6])).bind fun x3=>aK.l1 m l0 v0 k x3 (i64.wrap (i0 - (1:Int)))) else (some ((fR,i0)))
def aK.l0 (m:Nat)(l0:List ab):Nat→(List Bool)→(List Int)→(List Int)→Option ((List Bool) × (List Int) × (List Int))
 | 0,_,_,_=>none
 | k+1,eY,bq,eZ=>if (decide ((eZ.length:Int) > (0:Int)))=true then ((ix eZ (i64.wrap ((eZ.length:Int) - (1:Int)))).bind fun v0=>(nA eZ 0 (i64.wrap ((eZ.length:Int) - (1:Int)))).bind fun v1=>(ix eY v0).bind fun v2=>if v2=true then (aK.l0 m l0 k eY bq v1) else ((ix eY v0).bind fun v3=>(app 8 bq ([v0])).bind fun x2=>(ix l0 v0).bind fun v4=>(aK.l1 m l0 v0 m v1 (i64.wrap ((v4.args.length:Int) - (1:Int)))).bind fun b9=>match b9 with | (qo,i1)=>aK.l0 m l0 k (eY.set v0.toNat true) x2 qo)) else (some ((eY,bq,eZ)))
def aK.f (m:Nat)(l0:List ab)(gx:Int):Option ((List Int)):=(uv 1 (l0.length:Int) false).bind fun x0=>(app 8 ([]:List Int) ([gx])).bind fun x1=>(aK.l0 m l0 m x0 ([]:List Int) x1).bind fun oS=>match oS with | (Qw,je,AJ)=>some je
def aK.fin (L:Mem)(r:(List Int))(s:St):Prop:=∃av,aI Tryd.prog (s.open vD) Tryd.f75.results.toList=some av∧fT s.h av (aa.fz r)
def SJ (cf:CallF)(m:Nat):Prop:=∀(l0:List ab) (gx:Int) (r:(List Int)),aK.f m l0 gx=some r→∀h xs,eN fc h xs [af.fz l0,.int .i64 gx]→cf 75 xs h=some (aa.fz r,h)
section
variable {cf:CallF}{m:Nat}
theorem aK.eQ (L:Mem)(l0:List ab)(da:Nat)(eY:List Bool)(da:Nat)(v0:Int)(x2:List Int)(gL:Nat)   : bE Tryd.prog cf vD m (sub [1,1,1,1,0,0,0,1,0,1,1,1,1,1,1,0,0] (codeOf Tryd.f75)) (fun k (σ:(List Int) × Int)=>aK.l1 m l0 v0 k σ.1 σ.2) (fun σ s=>match σ with | (fR,i0)=>∃gM h5,s=⟨af.fz l0 :: .any :: .any :: .rs da 0 eY.length 1 :: .rs gL 0 x2.length 1 :: .rs gM 0 fR.length 1 :: .int .i64 v0 :: .int .i64 i0::ke [],[],h5⟩∧Has h5 ((gM,.sl fR.length 1 (aa.l fR))::(gL,.sl x2.length 1 (aa.l x2))::(da,.sl eY.length 1 (cu.l (eY.set v0.toNat true)))::L)) (fun out e s=>(e = .exit 2∧∃fR i0,(fR,i0)=out∧∃oR tm Ky gM h5,s=⟨[af.fz l0,.any,.any,.rs da 0 eY.length 1,.rs gL 0 x2.length 1,.rs gM 0 fR.length 1,oR,tm,.any,.any,Ky],[],h5⟩∧Has h5 ((gM,.sl fR.length 1 (aa.l fR))::(gL,.sl x2.length 1 (aa.l x2))::(da,.sl eY.length 1 (cu.l (eY.set v0.toNat true)))::L))):=by
 refine gP (fun _=>rfl) ?_
 rintro k ⟨fR,i0⟩ s out ⟨gM,h5,rfl,o8⟩ H
 have H:aK.l1 m l0 v0 (k+1) fR i0=some out:=H
 refine qq <| qq <| q0 <| qc H (fun c2 H=>?_) (fun c2 H=>?_)
 ·refine qk <| qq <| qb 3 ?_
  obtain⟨v5,rX,H⟩:=aH H
  obtain⟨v6,rY,H⟩:=aH H
  obtain⟨x3,qT,H⟩:=aH H
  obtain⟨ik,h6,pX,o9⟩:=fD (P:=Tryd.prog) (E:=aa) (l:=fR) (q:=0) (t2:=42) (x:=.fz [.int .i64 v6] 1 true) (l2:=([v6])) dz o8 rfl (by kernel_rfl) rfl qT
  exact qr [.v 3 (bo (k:=.i64) (E:=af) (l:=l0) lh rX),.v 5 (ji  (E:=af) (l:=l0) (off:=3) h5 J0 rX rfl),.v 7 (bo (k:=.i64) (E:=aa) (l:=v5.args) dz rY),.v 8 (cZ  (E:=aa) (l:=v5.args) h5 A3 rY rfl),.a 10 pX] <| q0 <| ⟨(x3,i64.wrap (i0 - (1:Int))),⟨ik,h6,(W6 (b:=⟨af.fz l0 :: .any :: .any :: .rs da 0 eY.length 1 :: .rs gL 0 x2.length 1 :: .rs ik 0 x3.length 1 :: .int .i64 v0 :: .int .i64 (i64.wrap (i0 - (1:Int)))::ke [],[],h6⟩) (by kernel_rfl) (by simp only [Wd])),(by have o:Has h6 ((ik,.sl x3.length 1 (aa.l x3))::(gL,.sl x2.length 1 (aa.l x2))::(da,.sl eY.length 1 (cu.l (eY.set v0.toNat true)))::L):=o9; simpa only [Wd] using o)⟩,H⟩
 ·exact qx 2 <| ⟨rfl,fR,i0,oi H,.int .i64 v0,.int .i64 i0,.bool (decide (i0≥(0:Int))),gM,h5,(W6 (b:=⟨[af.fz l0,.any,.any,.rs da 0 eY.length 1,.rs gL 0 x2.length 1,.rs gM 0 fR.length 1,.int .i64 v0,.int .i64 i0,.any,.any,.bool (decide (i0≥(0:Int)))],[],h5⟩) (by kernel_rfl) (by simp only [Wd])),(by have o:Has h5 ((gM,.sl fR.length 1 (aa.l fR))::(gL,.sl x2.length 1 (aa.l x2))::(da,.sl eY.length 1 (cu.l (eY.set v0.toNat true)))::L):=o8; simpa only [Wd] using o)⟩
theorem aK.bI (L:Mem)(l0:List ab)   : bE Tryd.prog cf vD m (sub [1,1,1,1,0,0,0] (codeOf Tryd.f75)) (fun k (σ:(List Bool) × (List Int) × (List Int))=>aK.l0 m l0 k σ.1 σ.2.1 σ.2.2) (fun σ s=>match σ with | (eY,bq,eZ)=>∃g0 g1 g2 g3 gQ fk da h2,s=⟨[af.fz l0,.any,.any,.rs da 0 eY.length 1,.rs fk 0 bq.length 1,.rs gQ 0 eZ.length 1,g0,g1,.any,g2,g3],[],h2⟩∧Has h2 ((gQ,.sl eZ.length 1 (aa.l eZ))::(fk,.sl bq.length 1 (aa.l bq))::(da,.sl eY.length 1 (cu.l eY))::L)) (fun out e s=>(e = .exit 0∧∃eY bq eZ,(eY,bq,eZ)=out∧∃kC uE uz oR tm Kz Fa Ky gQ fk da h2,s=⟨[kC,.any,.any,uE,.rs fk 0 bq.length 1,uz,oR,tm,Kz,Fa,Ky],[],h2⟩∧Has h2 ((gQ,.sl eZ.length 1 (aa.l eZ))::(fk,.sl bq.length 1 (aa.l bq))::(da,.sl eY.length 1 (cu.l eY))::L))):=by
 refine gP (fun _=>rfl) ?_
 rintro k ⟨eY,bq,eZ⟩ s out ⟨g0,g1,g2,g3,gQ,fk,da,h2,rfl,o4⟩ H
 have H:aK.l0 m l0 (k+1) eY bq eZ=some out:=H
 refine qq <| qq <| q0 <| qc H (fun c0 H=>?_) (fun c0 H=>?_)
 ·refine qk <| qb 1 <| qq ?_
  obtain⟨v0,e4,H⟩:=aH H
  refine qr [.v 4 (aE (k:=.i64) (E:=aa) (l:=eZ) (q:=0) dz o4 rfl e4),.v 5 (bf  (E:=aa) (l:=eZ) (q:=0) o4 rfl A3 e4 rfl)] <| qq ?_
  obtain⟨v1,e5,H⟩:=aH H
  obtain⟨Qx,o5⟩:=JK (P:=Tryd.prog) (k:=.i64) (E:=aa) (q:=0) o4 rfl dz e5
  refine qr [.v 4 Qx] <| qq <| qq ?_
  obtain⟨v2,e6,H⟩:=aH H
  refine qr [.v 2 (aE (k:=.i64) (E:=cu) (l:=eY) (q:=2) GW o5 rfl e6),.v 3 (bf  (E:=cu) (l:=eY) (q:=2) o5 rfl A4 e6 rfl)] <| qc H (fun c1 H=>?_) (fun c1 H=>?_)
  ·exact qx 1 <| ⟨(eY,bq,v1),⟨.int .i64 v0,.any,.bool v2,.any,gQ,fk,da,h2,by kernel_rfl,o5⟩,H⟩
  ·refine qk <| qq ?_
   obtain⟨v3,e7,H⟩:=aH H
   obtain⟨h3,e8,o6⟩:=dF (P:=Tryd.prog) (tf:=4) (E:=cu) (l:=eY) (q:=2) (v:=true) (x:=.bool true) o5 rfl Z4 e7 rfl rfl
   refine qr [.v 2 (aE (k:=.i64) (E:=cu) (l:=eY) (q:=2) GW o5 rfl e7),.w 3 e8] <| qq ?_
   obtain⟨x2,e9,H⟩:=aH H
   obtain⟨gL,h4,nH,o7⟩:=fD (P:=Tryd.prog) (E:=aa) (l:=bq) (q:=1) (t2:=42) (x:=.fz [.int .i64 v0] 1 true) (l2:=([v0])) dz o6 rfl (by kernel_rfl) rfl e9
   refine qr [.a 3 nH] <| qq ?_
   obtain⟨v4,qS,H⟩:=aH H
   refine qr [.v 2 (bo (k:=.i64) (E:=af) (l:=l0) lh qS),.v 4 (ji  (E:=af) (l:=l0) (off:=3) h4 J0 qS rfl)] <| qb 2 ?_
   obtain⟨b9,uC,H⟩:=aH H
   refine ql (aK.eQ L l0 da eY da v0 x2 gL   (v1,i64.wrap ((v4.args.length:Int) - (1:Int))) _ _ ⟨gQ,h4,(W6 (b:=⟨af.fz l0 :: .any :: .any :: .rs da 0 eY.length 1 :: .rs gL 0 x2.length 1 :: .rs gQ 0 v1.length 1 :: .int .i64 v0 :: .int .i64 (i64.wrap ((v4.args.length:Int) - (1:Int)))::ke [],[],h4⟩) (by kernel_rfl) (by simp only [Wd])),(by have o:Has h4 ((gQ,.sl v1.length 1 (aa.l v1))::(gL,.sl x2.length 1 (aa.l x2))::(da,.sl eY.length 1 (cu.l (eY.set v0.toNat true)))::L):=o7; simpa only [Wd] using o)⟩ uC) ?_
   rintro e s ⟨rfl,qo,i1,rfl,g4,g5,g6,kG,h7,rfl,uA⟩
   try dsimp only at H
   exact⟨(eY.set v0.toNat true,x2,qo),⟨g4,g5,.any,g6,kG,gL,da,h7,(W6 (b:=⟨[af.fz l0,.any,.any,.rs da 0 eY.length 1,.rs gL 0 x2.length 1,.rs kG 0 qo.length 1,g4,g5,.any,.any,g6],[],h7⟩) (by kernel_rfl) (by simp only [Wd])),(by have o:Has h7 ((kG,.sl qo.length 1 (aa.l qo))::(gL,.sl x2.length 1 (aa.l x2))::(da,.sl eY.length 1 (cu.l (eY.set v0.toNat true)))::L):=uA; simpa only [Wd] using o)⟩,H⟩
 ·exact qx 0 <| ⟨rfl,eY,bq,eZ,oi H,af.fz l0,.rs da 0 eY.length 1,.rs gQ 0 eZ.length 1,.any,.any,.bool (decide ((eZ.length:Int) > (0:Int))),.any,.any,gQ,fk,da,h2,by kernel_rfl,o4⟩
theorem nO {aV:FuncId→cb}(ha:aV 75=vD)  (l0:List ab)(gx:Int)(h:AHeap)(L:Mem)  (o:Has h (L)){out:(List Int)}(H:aK.f m l0 gx=some out) :
  ∃r h',be Tryd.prog aV cf m 75 [af.fz l0,.int .i64 gx] h=some (r,h')∧fT h' r (aa.fz out):=by
 refine aq (fn:=Tryd.f75) ha Tryd.func75 (by kernel_rfl) (by kernel_rfl) ?_
 refine aG (Q:=fun s=>aK.fin L out s) (fun _ _ h=>h) ?_
 have H:_=some out:=H
 unfold aK.f at H
 show de _ cf vD m _ ⟨af.fz l0 :: .int .i64 gx::C3 [],[],h⟩ _
 refine q1 <| qq ?_
 obtain⟨x0,e0,H⟩:=aH H
 obtain⟨aA,h0,e1,o0⟩:=nB (P:=Tryd.prog) (E:=cu) (z:=false) (zv:=.bool false) GW o 4 rfl rfl rfl rfl e0
 refine qr [.a 2 e1] <| qq <| q0 ?_
 have o1:Has h0 (((0),.sl (([]:List Int).length) 1 (aa.l ([]:List Int)))::(aA,.sl x0.length 1 (cu.l x0))::L):=Has.nil o0 1
 have o2:Has h0 ((((0)),.sl (([]:List Int).length) 1 (aa.l ([]:List Int)))::((0),.sl (([]:List Int).length) 1 (aa.l ([]:List Int)))::(aA,.sl x0.length 1 (cu.l x0))::L):=Has.nil o1 1
 refine qq ?_
 obtain⟨x1,e2,H⟩:=aH H
 obtain⟨fV,h1,e3,o3⟩:=fD (P:=Tryd.prog) (E:=aa) (l:=([]:List Int)) (q:=0) (t2:=42) (x:=.fz [.int .i64 gx] 1 true) (l2:=([gx])) dz o2 rfl (by kernel_rfl) rfl e2
 refine qr [.a 3 e3] <| qq <| qb 0 ?_
 obtain⟨oS,uf,H⟩:=aH H
 refine ql (aK.bI L l0   (x0,([]:List Int),x1) _ _ ⟨.any,.any,.any,.any,fV,(0),aA,h1,by kernel_rfl,o3⟩ uf) ?_
 rintro e s ⟨rfl,Qw,je,AJ,rfl,g7,g8,g9,g10,g11,g12,g13,g14,xw,eK,nK,h8,rfl,vk⟩
 try dsimp only at H
 refine q1 ?_
 have tq:Has h8 ((xw,.sl AJ.length 1 (aa.l AJ))::(eK,.sl je.length 1 (aa.l je))::L):=Has.del vk 2
 have ly:Has h8 ((eK,.sl je.length 1 (aa.l je))::L):=Has.del tq 0
 obtain rfl:=oi H
 exact qt <| ⟨.inl rfl,bZ (.rs eK 0 je.length 1) h8 (bX (yk (E:=aa) (l:=je) (q:=0) ly rfl (fun _=>rfl)))⟩
end
end Go.Proofs.YtmekcfdllhphlaaDoor
namespace Go.Proofs.YtmekcfdllhphlaaDoor
open Go Go.R
open Go.IntKind (i64 u64 u8 u32)
inductive tT (κ:Int→Int)(A:Int→List Int):List Int→List Int→List Int→Prop
 | nil (o:List Int):tT κ A [] o o
 | skip {v:Int} {st o o':List Int}:κ v∈o.map κ→tT κ A st o o'→tT κ A (v::st) o o'
 | push {v:Int} {st o o':List Int}:κ v∉o.map κ→tT κ A (A v++st) (o++[v]) o'→tT κ A (v::st) o o'
theorem tT.SK {κ:Int→Int}{A:Int→List Int}{st o o1 o2:List Int}(h:tT κ A st o o1)(k:tT κ A st o o2):o1=o2:=by
 induction h with
 | nil o=>cases k; rfl
 | skip hm _ ih=>
  cases k with
  | skip _ k=>exact ih k
  | push hn _=>exact absurd hm hn
 | push hn _ ih=>
  cases k with
  | skip hm _=>exact absurd hm hn
  | push _ k=>exact ih k
theorem tT.facts {κ:Int→Int}{A:Int→List Int}{n:Nat}{st o o':List Int}(h:tT κ A st o o')(hA:∀v:Int,0≤v→v<n→∀a∈A v,0≤a∧a<n)(hst:∀v∈st,0≤v∧v<n)(ho:∀v∈o,0≤v∧v<n)(Av:(o.map κ).Nodup) :
  (∃t,o'=o++t)∧(∀v∈o',0≤v∧v<n)∧(o'.map κ).Nodup∧(∀v∈st,κ v∈o'.map κ)∧((∀v∈o,∀a∈A v,κ a∈o.map κ∨a∈st)→∀v∈o',∀a∈A v,κ a∈o'.map κ):=by
 induction h with
 | nil o=>
  refine⟨⟨[],by simp⟩,ho,Av,?_,?_⟩
  ·intro v hv; cases hv
  ·intro h v hv a ha; exact (h v hv a ha).resolve_right (by simp)
 | @skip v st o o' hm _ ih=>
  obtain⟨⟨t,rfl⟩,a,b,c,d⟩:=ih (fun x hx=>hst x (by simp [hx])) ho Av
  refine⟨⟨t,rfl⟩,a,b,fun x hx=>?_,fun h=>d fun x hx y hy=>?_⟩
  ·rcases WG.1 hx with rfl | hx
   ·rw [Wx]; exact WL _ hm
   ·exact c x hx
  ·rcases h x hx y hy with h | h
   ·exact .inl h
   ·rcases WG.1 h with rfl | h
    ·exact .inl hm
    ·exact .inr h
 | @push v st o o' hn _ ih=>
  have hv:=hst v (by simp)
  have h1:∀x∈A v++st,0≤x∧x<n:=fun x hx=>by
   rcases Wk.1 hx with hx | hx
   ·exact hA v hv.1 hv.2 x hx
   ·exact hst x (by simp [hx])
  have h2:∀x∈o++[v],0≤x∧x<n:=fun x hx=>by
   rcases Wk.1 hx with hx | hx
   ·exact ho x hx
   ·rw [Wf] at hx; subst hx; exact hv
  have h3:((o++[v]).map κ).Nodup:=by
   rw [Wx,Xj]
   refine⟨Av,by simp,fun a ha b hb=>?_⟩
   simp only [Wo,List.map_nil,Wf] at hb
   subst hb; intro e; subst e; exact hn ha
  obtain⟨⟨t,rfl⟩,a,b,c,d⟩:=ih h1 h2 h3
  refine⟨⟨[v]++t,by simp⟩,a,b,fun x hx=>?_,fun h=>d fun x hx y hy=>?_⟩
  ·rcases WG.1 hx with rfl | hx
   ·simp
   ·exact c x (by simp [hx])
  ·rcases Wk.1 hx with hx | hx
   ·rcases h x hx y hy with h | h
    ·exact .inl (by rw [Wx]; exact WL _ h)
    ·rcases WG.1 h with rfl | h
     ·exact .inl (by simp)
     ·exact .inr (by simp [h])
   ·rw [Wf] at hx; subst hx
    exact .inr (WL _ hy)
theorem tT.from {A:Int→List Int}{root:Int}{st o o':List Int}(h:tT id A st o o')(hst:∀v∈st,v=root∨∃q,q<o.length∧v∈A (gt o q))(ho:∀i,i<o.length→gt o i=root∨∃q,q<i∧gt o i∈A (gt o q)) :
  ∀i,i<o'.length→gt o' i=root∨∃q,q<i∧gt o' i∈A (gt o' q):=by
 induction h with
 | nil o=>exact ho
 | skip hm _ ih=>exact ih (fun x hx=>hst x (by simp [hx])) ho
 | @push v st o o' hn _ ih=>
  have gl:∀q,q<o.length→gt (o++[v]) q=gt o q:=fun q hq=>ie hq
  have gv:gt (o++[v]) o.length=v:=by unfold gt; rw [Wm,Wq (V7 _),XC]; rfl
  refine ih (fun x hx=>?_) (fun i hi=>?_)
  ·rcases Wk.1 hx with hx | hx
   ·exact .inr ⟨o.length,by simp,by rw [gv]; exact hx⟩
   ·rcases hst x (by simp [hx]) with h | ⟨q,q1,q2⟩
    ·exact .inl h
    ·exact .inr ⟨q,by simp; omega,by rw [gl q q1]; exact q2⟩
  ·by_cases h:i<o.length
   ·rw [gl i h]
    rcases ho i h with h1 | ⟨q,q1,q2⟩
    ·exact .inl h1
    ·exact .inr ⟨q,q1,by rw [gl q (by omega)]; exact q2⟩
   ·have e:i=o.length:=by simp at hi; omega
    subst e
    rw [gv]
    rcases hst v (by simp) with h | ⟨q,q1,q2⟩
    ·exact .inl h
    ·exact .inr ⟨q,q1,by rw [gl q q1]; exact q2⟩
theorem y4 (cls:List Int)(l:List ab)(k:Nat)(i:Int)(o:List Int):qU cls l (k+1) i o=if dV cls i∈o.map (dV cls) then o else (nd l i).args.foldl (fun o a=>qU cls l k a o) (o++[i]):=rfl
theorem Gm {cls:List Int}{l:List ab}(ok:kH l):∀(k:Nat) (i:Int) (o:List Int),0≤i→i<l.length→Vs cls l.length o→Vs cls l.length (qU cls l k i o)∧o.length≤(qU cls l k i o).length
 | 0,i,o,_,_,v=>⟨v,V7 _⟩
 | k+1,i,o,h0,h1,v=>by
  rw [y4]
  split
  ·exact⟨v,V7 _⟩
  ·rename_i h
   have v1:Vs cls l.length (o++[i]):=by
    refine⟨?_,fun x hx=>?_⟩
    ·rw [Wx,Xj]
     refine⟨v.G0,by simp,fun a ha b hb=>?_⟩
     simp only [Wo,List.map_nil,Wf] at hb
     subst hb; intro e; subst e; exact h ha
    ·rcases Wk.1 hx with hx | hx
     ·exact v.nc x hx
     ·simp only [Wf] at hx; subst hx; exact⟨h0,h1⟩
   have fold:∀(zs:List Int) (o:List Int),(∀a∈zs,0≤a∧a<l.length)→Vs cls l.length o→Vs cls l.length (zs.foldl (fun o a=>qU cls l k a o) o)∧o.length≤(zs.foldl (fun o a=>qU cls l k a o) o).length:=by
    intro zs
    induction zs with
    | nil=>intro o _ v; exact⟨v,V7 _⟩
    | cons a zs ih=>
     intro o ha v
     have hr:=ha a (by simp)
     obtain⟨v2,l2⟩:=Gm ok k a o hr.1 hr.2 v
     obtain⟨v3,l3⟩:=ih (qU cls l k a o) (fun x hx=>ha x (by simp [hx])) v2
     exact⟨v3,WQ l2 l3⟩
   obtain⟨v2,l2⟩:=fold (nd l i).args (o++[i]) (ok.2 _ (fi h0 h1)).2 v1
   exact⟨v2,by simp at l2; omega⟩
theorem pg {cls:List Int}{l:List ab}(ok:kH l):∀(k:Nat) (i:Int) (o st o':List Int),0≤i→i<l.length→Vs cls l.length o→l.length<k+o.length→
  tT (dV cls) (fun v=>(nd l v).args) st (qU cls l k i o) o'→tT (dV cls) (fun v=>(nd l v).args) (i::st) o o'
 | 0,i,o,st,o',_,_,v,hk,_=>absurd v.qV (by omega)
 | k+1,i,o,st,o',h0,h1,v,hk,h=>by
  rw [y4] at h
  by_cases hm:dV cls i∈o.map (dV cls)
  ·rw [if_pos hm] at h
   exact .skip hm h
  ·rw [if_neg hm] at h
   refine .push hm ?_
   have v1:Vs cls l.length (o++[i]):=by
    refine⟨?_,fun x hx=>?_⟩
    ·rw [Wx,Xj]
     refine⟨v.G0,by simp,fun a ha b hb=>?_⟩
     simp only [Wo,List.map_nil,Wf] at hb
     subst hb; intro e; subst e; exact hm ha
    ·rcases Wk.1 hx with hx | hx
     ·exact v.nc x hx
     ·simp only [Wf] at hx; subst hx; exact⟨h0,h1⟩
   have fold:∀(zs:List Int) (o:List Int),(∀a∈zs,0≤a∧a<l.length)→Vs cls l.length o→l.length<k+o.length→tT (dV cls) (fun v=>(nd l v).args) st (zs.foldl (fun o a=>qU cls l k a o) o) o'→tT (dV cls) (fun v=>(nd l v).args) (zs++st) o o':=by
    intro zs
    induction zs with
    | nil=>intro o _ _ _ h; exact h
    | cons a zs ih=>
     intro o ha v hk h
     have hr:=ha a (by simp)
     obtain⟨v2,l2⟩:=Gm ok k a o hr.1 hr.2 v
     exact pg ok k a o (zs++st) o' hr.1 hr.2 v hk (ih _ (fun x hx=>ha x (by simp [hx])) v2 (by omega) h)
   exact fold (nd l i).args (o++[i]) (ok.2 _ (fi h0 h1)).2 v1 (by simp; omega) h
theorem ph {od:List Int}{n:Nat}(h:od.Nodup)(hr:∀x∈od,0≤x∧x<n):od.length≤n:=by
 have:=h.length_le_of_subset (l₂:=ints n) (fun x hx=>iC.2 (hr x hx))
 rwa [dG] at this
theorem Gn {m:Nat}{l:List ab}(ok:kH l){v:Int}(h0:0≤v)(h1:v<l.length):∀(f i:Nat) (st:List Int),i<f→i≤(nd l v).args.length→st.length+i≤1000000→
  ∃x,aK.l1 m l v f st ((i:Int) - 1)=some (st++((nd l v).args.take i).reverse,x)
 | 0,i,st,hf,_,_=>absurd hf (by omega)
 | f+1,0,st,hf,hi,hs=>by
  unfold aK.l1
  rw [if_neg (by simp)]
  exact⟨_,by simp; rfl⟩
 | f+1,i+1,st,hf,hi,hs=>by
  have h8:=(ok.2 _ (fi h0 h1)).1
  have ei:((i+1:Nat):Int) - 1=(i:Int):=by omega
  have ew:i64.wrap ((i:Int) - 1)=(i:Int) - 1:=aC (by omega) (by omega)
  have la:app 8 st [gt (nd l v).args i]=some (st++[gt (nd l v).args i]):=by unfold app; rw [if_pos (by simp; omega)]
  obtain⟨x,ih⟩:=Gn (m:=m) ok h0 h1 f i (st++[gt (nd l v).args i]) (by omega) (by omega) (by simp; omega)
  refine⟨x,?_⟩
  unfold aK.l1
  rw [ei,if_pos (by simp),gV h0 h1,V3,cn (by omega),V3,la,V3,ew,ih]
  rw [Xb,bp (by omega)]
  simp
theorem AK {m:Nat}(hm:2 ^ 30≤m){l:List ab}(ok:kH l):∀(f:Nat) (met:List Bool) (o st:List Int),st.length+9*(l.length - o.length)<f→st.length+9*(l.length - o.length)≤100000→met.length=l.length→(∀i,i<l.length→(gb met i=true↔(i:Int)∈o))→o.Nodup→(∀v∈o,0≤v∧v<l.length)→(∀v∈st,0≤v∧v<l.length)→
  ∃Dt o' ,aK.l0 m l f met o st.reverse=some (Dt,o',[])∧tT id (fun v=>(nd l v).args) st o o'
 | 0,met,o,st,hf,_,_,_,_,_,_=>absurd hf (by omega)
 | f+1,met,o,[],hf,hb,LQ,Np,N9,Oa,Ka=>by
  unfold aK.l0
  rw [if_neg (by simp)]
  exact⟨met,o,rfl,.nil o⟩
 | f+1,met,o,v::st,hf,hb,LQ,Np,N9,Oa,Ka=>by
  have l8:(2:Nat) ^ 30=1073741824:=by decide
  have Ay:=ph N9 Oa
  obtain⟨v0,v1⟩:=Ka v (by simp)
  have h8:=(ok.2 _ (fi v0 v1)).1
  have Qy:((v.toNat:Nat):Int)=v:=by omega
  simp only [Wp] at hf hb
  have UE:=ok.1
  unfold aK.l0
  have hlen:((v::st).reverse.length:Int)=(st.length:Int)+1:=by simp
  have ew:i64.wrap ((st.length:Int)+1 - 1)=(st.length:Int):=by rw [aC (by omega) (by omega)]; omega
  have e1:ix (v::st).reverse (st.length:Int)=some v:=by
   unfold ix
   rw [if_pos (by omega),V9,List.reverse_cons,Wq (by simp)]
   simp
  have e2:nA (v::st).reverse 0 (st.length:Int)=some st.reverse:=by
   unfold nA
   rw [if_pos ⟨by omega,by omega,by simp; omega⟩,List.reverse_cons]
   simp only [V9,WK,Int.toNat_zero,Nat.sub_zero]
   rw [List.take_left' (by simp)]
  have e3:ix met v=some (gb met v.toNat):=B4 v0 (by omega)
  rw [if_pos (by rw [hlen]; simp only [gt_iff_lt,decide_eq_true_eq]; omega),hlen,ew,e1,V3,e2,V3,e3,V3]
  cases hg:gb met v.toNat with
  | true=>
   have wu:v∈o:=by have:=(Np v.toNat (by omega)).1 hg; rwa [Qy] at this
   obtain⟨Dt,o',k1,k2⟩:=AK hm ok f met o st (by omega) (by omega) LQ Np N9 Oa (fun x hx=>Ka x (by simp [hx]))
   rw [if_pos rfl]
   exact⟨Dt,o',k1,.skip (by simpa using wu) k2⟩
  | false=>
   have SL:v∉o:=fun h=>by
    have:=(Np v.toNat (by omega)).2 (by rw [Qy]; exact h)
    rw [hg] at this; cases this
   have SM:(o++[v]).Nodup:=by
    rw [Xj]
    refine⟨N9,by simp,fun a ha b hb=>?_⟩
    rw [Wf] at hb
    subst hb; intro e; subst e; exact SL ha
   have SN:∀x∈o++[v],0≤x∧x<l.length:=fun x hx=>by
    rcases Wk.1 hx with hx | hx
    ·exact Oa x hx
    ·rw [Wf] at hx; subst hx; exact⟨v0,v1⟩
   have FM:=ph SM SN
   simp only [We,Wp,WY] at FM
   have la:app 8 o [v]=some (o++[v]):=by unfold app; rw [if_pos (by simp; omega)]
   have UF:i64.wrap (((nd l v).args.length:Int) - 1)=((nd l v).args.length:Int) - 1:=aC (by omega) (by omega)
   obtain⟨x,q1⟩:=Gn (m:=m) ok v0 v1 m (nd l v).args.length st.reverse (by omega) (V7 _) (by simp; omega)
   rw [W9] at q1
   have Qz:st.reverse++(nd l v).args.reverse=((nd l v).args++st).reverse:=by simp
   rw [Qz] at q1
   rw [if_neg (by simp),V3,la,V3,gV v0 v1,V3,UF,q1,V3]
   dsimp only
   obtain⟨Dt,o',k1,k2⟩:=AK hm ok f (met.set v.toNat true) (o++[v]) ((nd l v).args++st) (by simp; omega) (by simp; omega) (by simpa using LQ) (fun i hi=>by
    rw [Gj (by omega),Wk,Wf]
    by_cases e:i=v.toNat
    ·subst e; simp [Qy]
    ·rw [if_neg e,Np i hi]
     constructor
     ·exact fun h=>.inl h
     ·rintro (h | h)
      ·exact h
      ·omega) SM SN (fun x hx=>by
    rcases Wk.1 hx with hx | hx
    ·exact (ok.2 _ (fi v0 v1)).2 x hx
    ·exact Ka x (by simp [hx]))
   exact⟨Dt,o',k1,.push (by simpa using SL) k2⟩
theorem H7 {n k:Nat}:gb (Wn n false) k=false:=by
 unfold gb; rw [Wm,List.getElem?_replicate]; split<;>rfl
theorem pj {m:Nat}(hm:2 ^ 30≤m){l:List ab}(ok:kH l){root:Int}(h0:0≤root)(h1:root<l.length):∃o,aK.f m l root=some o∧tT id (fun v=>(nd l v).args) [root] [] o:=by
 have l8:(2:Nat) ^ 30=1073741824:=by decide
 have UE:=ok.1
 unfold aK.f
 have e1:uv 1 (l.length:Int) false=some (Wn l.length false):=by unfold uv; rw [if_pos ⟨by omega,by rw [V9]; omega⟩,V9]
 have la:app 8 ([]:List Int) [root]=some [root]:=by unfold app; rw [if_pos (by simp),Wz]
 obtain⟨Dt,o',k1,k2⟩:=AK hm ok m (Wn l.length false) [] [root] (by simp; omega) (by simp; omega) (by simp) (fun i hi=>by rw [H7]; simp) (by simp) (fun v hv=>by cases hv) (fun v hv=>by rw [Wf] at hv; subst hv; exact⟨h0,h1⟩)
 have k1:aK.l0 m l m (Wn l.length false) [] [root]=_:=k1
 rw [e1,V3,la,V3,k1,V3]
 exact⟨o',rfl,k2⟩
end Go.Proofs.YtmekcfdllhphlaaDoor
namespace Go.Proofs.YtmekcfdllhphlaaDoor
open Go Go.R
open Go.IntKind (i64 u64 u8 u32)
structure Du (l k:List ab)(R:Int→Int→Prop):Prop where
 nc:∀i j,R i j→(0≤i∧i<l.length)∧0≤j∧j<k.length
 top:∀i j,R i j→Alike (nd l i) (nd k j)
 arg:∀i j,R i j→∀n,n<(nd l i).args.length→R (gt (nd l i).args n) (gt (nd k j).args n)
theorem Min.same {l:List ab}{c:List Int}(M:Min l c){a b:Int}(a0:0≤a)(a1:a<l.length)(b0:0≤b)(b1:b<l.length)(e:dV c a=dV c b) :
  Alike (nd l a) (nd l b)∧∀n,n<(nd l a).args.length→dV c (gt (nd l a).args n)=dV c (gt (nd l b).args n):=by
 have ea:((a.toNat:Nat):Int)=a:=by omega
 have eb:((b.toNat:Nat):Int)=b:=by omega
 have hA:=M.top a.toNat b.toNat (by omega) (by omega) e
 have hg:=M.arg a.toNat b.toNat (by omega) (by omega) e
 rw [ea,eb] at hA hg
 exact⟨hA,hg⟩
theorem Du.swap {l k:List ab}{R:Int→Int→Prop}(S:Du l k R):Du k l fun j i=>R i j:=
 ⟨fun i j h=>⟨(S.nc j i h).2,(S.nc j i h).1⟩,fun i j h=>(S.top j i h).symm,fun i j h n hn=>S.arg j i h n (by have:=(S.top j i h).len; omega)⟩
theorem Du.cls {l k:List ab}{R:Int→Int→Prop}(S:Du l k R){c1 c2:List Int}(M1:Min l c1)(M2:Min k c2){i j i' j':Int}(h:R i j)(h':R i' j')(e:dV c1 i=dV c1 i'):dV c2 j=dV c2 j':=by
 have g:=S.nc _ _ h
 have g':=S.nc _ _ h'
 refine M2.max (fun a b=>∃i i':Int,R i a∧R i' b∧dV c1 i=dV c1 i') ⟨?_,?_,?_⟩ j.toNat j'.toNat ⟨i,i',by rwa [show ((j.toNat:Nat):Int)=j by omega],by rwa [show ((j'.toNat:Nat):Int)=j' by omega],e⟩
 ·rintro a b ⟨i,i',h,h',_⟩
  have:=S.nc _ _ h
  have:=S.nc _ _ h'
  omega
 ·rintro a b ⟨i,i',h,h',e⟩
  have g:=S.nc _ _ h
  have g':=S.nc _ _ h'
  exact ((S.top _ _ h).symm.trans (M1.same g.1.1 g.1.2 g'.1.1 g'.1.2 e).1).trans (S.top _ _ h')
 ·rintro a b ⟨i,i',h,h',e⟩ n hn
  have g:=S.nc _ _ h
  have g':=S.nc _ _ h'
  obtain⟨sA,sg⟩:=M1.same g.1.1 g.1.2 g'.1.1 g'.1.2 e
  have Jm:n<(nd l i).args.length:=by have:=(S.top _ _ h).len; omega
  have k1:=S.arg _ _ h n Jm
  have k2:=S.arg _ _ h' n (by have:=sA.len; omega)
  have r1:=(S.nc _ _ k1).2
  have r2:=(S.nc _ _ k2).2
  exact⟨_,_,by rwa [show (((gt (nd k a).args n).toNat:Nat):Int)=gt (nd k a).args n by omega],by rwa [show (((gt (nd k b).args n).toNat:Nat):Int)=gt (nd k b).args n by omega],sg n Jm⟩
inductive Rl (R:Int→Int→Prop):List Int→List Int→Prop
 | nil:Rl R [] []
 | cons {a b:Int} {xs ys:List Int}:R a b→Rl R xs ys→Rl R (a::xs) (b::ys)
theorem Rl.app {R:Int→Int→Prop}{a b c d:List Int}(h:Rl R a b)(k:Rl R c d):Rl R (a++c) (b++d):=by
 induction h with
 | nil=>exact k
 | cons h _ ih=>exact .cons h ih
theorem Rl.len {R:Int→Int→Prop}{a b:List Int}(h:Rl R a b):a.length=b.length:=by
 induction h with
 | nil=>rfl
 | cons _ _ ih=>simp [ih]
theorem Rl.at {R:Int→Int→Prop}{a b:List Int}(h:Rl R a b):∀n,n<a.length→R (gt a n) (gt b n):=by
 induction h with
 | nil=>intro n hn; exact absurd hn (by simp)
 | cons h _ ih=>
  intro n hn
  cases n with
  | zero=>exact h
  | succ n=>exact ih n (by simpa using hn)
theorem Rl.of {R:Int→Int→Prop}:∀{a b:List Int},a.length=b.length→(∀n,n<a.length→R (gt a n) (gt b n))→Rl R a b
 | [],[],_,_=>.nil
 | [],_::_,h,_=>by simp at h
 | _::_,[],h,_=>by simp at h
 | x::a,y::b,h,k=>.cons (k 0 (by simp)) (Rl.of (by simpa using h) fun n hn=>k (n+1) (by simpa using hn))
section
variable {l k:List ab}{R:Int→Int→Prop}{c1 c2:List Int}
theorem Du.mem (S:Du l k R)(M1:Min l c1)(M2:Min k c2){v w:Int}(h:R v w){o o2:List Int}(ho:Rl R o o2):dV c1 v∈o.map (dV c1)↔dV c2 w∈o2.map (dV c2):=by
 induction ho with
 | nil=>simp
 | cons h' _ ih=>
  rw [Wo,Wo,WG,WG,ih]
  have z1:=S.cls M1 M2 h h'
  have z2:=S.swap.cls M2 M1 h h'
  constructor
  ·rintro (e | e)
   ·exact .inl (z1 e)
   ·exact .inr e
  ·rintro (e | e)
   ·exact .inl (z2 e)
   ·exact .inr e
theorem Du.idx (S:Du l k R)(M1:Min l c1)(M2:Min k c2){v w:Int}(h:R v w){o o2:List Int}(ho:Rl R o o2):idx c1 o v=idx c2 o2 w:=by
 unfold Go.Proofs.YtmekcfdllhphlaaDoor.idx
 congr 1
 induction ho with
 | nil=>rfl
 | @cons a b xs ys h' _ ih=>
  rw [Wo,Wo,List.idxOf_cons,List.idxOf_cons,ih]
  have h1:=S.cls M1 M2 h' h
  have h2:=S.swap.cls M2 M1 h' h
  by_cases e:dV c1 a=dV c1 v
  ·rw [e,h1 e]; simp
  ·have e2:¬dV c2 b=dV c2 w:=fun z=>e (h2 z)
   rw [show (dV c1 a==dV c1 v)=false from by simpa using e,show (dV c2 b==dV c2 w)=false from by simpa using e2]
theorem Du.pre (S:Du l k R)(M1:Min l c1)(M2:Min k c2){st o o':List Int}(h:tT (dV c1) (fun v=>(nd l v).args) st o o'):∀{H8 o2:List Int},Rl R st H8→Rl R o o2→∃G2,tT (dV c2) (fun v=>(nd k v).args) H8 o2 G2∧Rl R o' G2:=by
 induction h with
 | nil o=>intro H8 o2 hs ho; cases hs; exact⟨o2,.nil _,ho⟩
 | skip hm _ ih=>
  intro H8 o2 hs ho
  cases hs with
  | cons h hs=>
   obtain⟨G2,k1,k2⟩:=ih hs ho
   exact⟨G2,.skip ((S.mem M1 M2 h ho).1 hm) k1,k2⟩
 | push hn _ ih=>
  intro H8 o2 hs ho
  cases hs with
  | cons h hs=>
   obtain⟨G2,k1,k2⟩:=ih ((Rl.of (S.top _ _ h).len (S.arg _ _ h)).app hs) (ho.app (.cons h .nil))
   exact⟨G2,.push (fun z=>hn ((S.mem M1 M2 h ho).2 z)) k1,k2⟩
end
theorem H9 {c O:List Int}{a b:Int}(h:dV c a=dV c b):idx c O a=idx c O b:=by unfold idx; rw [h]
theorem KA {f:Int→Int}{a b:List Int}{g:Int→Int}(hl:a.length=b.length)(h:∀n,n<a.length→f (gt a n)=g (gt b n)):a.map f=b.map g:=by
 apply WV fun n=>?_
 simp only [WB]
 by_cases hn:n<a.length
 ·rw [bp hn,bp (by omega)]; simp only [Wa,h n hn]
 ·rw [Wl (by omega),Wl (by omega)]; rfl
theorem Dv {m:Nat}(hm:2 ^ 41≤m){t u:aj}(ht:eh t=true)(hu:eh u=true){R:Int→Int→Prop}(S:Du t.nodes u.nodes R)(hr:R t.root u.root):∃s,cq.f m t=some s∧cq.f m u=some s:=by
 have rl:(2:Nat) ^ 41=2199023255552:=by decide
 obtain⟨DO,_,r0,r1,_⟩:=iT ht
 obtain⟨SO,_,q0,q1,_⟩:=iT hu
 obtain⟨c1,n1,e1,M1,Q1,_⟩:=kZ hm ht
 obtain⟨c2,n2,e2,M2,Q2,_⟩:=kZ hm hu
 have l1:=DO.1
 have l2:=SO.1
 have P1:=pg (cls:=c1) DO m t.root [] [] _ r0 r1 ⟨by simp,fun x hx=>by cases hx⟩ (by simp; omega) (.nil _)
 have P2:=pg (cls:=c2) SO m u.root [] [] _ q0 q1 ⟨by simp,fun x hx=>by cases hx⟩ (by simp; omega) (.nil _)
 obtain⟨G2,k1,k2⟩:=S.pre M1 M2 P1 (.cons hr .nil) .nil
 have:=k1.SK P2
 subst this
 generalize VX:qU c1 t.nodes m t.root []=O1 at *
 generalize VY:qU c2 u.nodes m u.root []=O2 at *
 have hl:=k2.len
 have w1:=Q1.len
 have w2:=Q2.len
 have hn:n1=n2:=by
  apply WV fun q=>?_
  by_cases hq:q<O1.length
  ·rw [Q1.new q (by simp) hq,Q2.new q (by simp) (by omega)]
   have h:=k2.at q hq
   have A:=S.top _ _ h
   unfold uF
   rw [A.kind,A.int,A.label,KA A.len fun n hn=>S.idx M1 M2 (S.arg _ _ h n hn) k2]
  ·rw [Wl (by omega),Wl (by omega)]
 subst hn
 exact⟨_,e1,e2⟩
theorem AL {n:ab}{a b:Int}{f:Int→Int}(h:j4 n a=true)(hf:∀x∈n.args,0≤f x∧f x<b):j4 ⟨n.kind,n.int,n.label,n.args.map f⟩ b=true:=by
 unfold j4 at h ⊢
 have he:(n.args.map f).isEmpty=n.args.isEmpty:=by cases n.args<;>rfl
 dsimp only
 rw [he,WI]
 have ha:((n.args.map f).all fun a=>decide (0≤a)&&decide (a<b))=true:=by
  rw [Ws]
  intro x hx
  obtain⟨y,hy,rfl⟩:=Wv.1 hx
  have:=hf y hy
  simp only [V8,decide_eq_true_eq]; exact this
 rw [ha]
 split<;>rename_i h0
 ·rw [if_pos h0] at h; exact h
 ·rw [if_neg h0] at h
  split<;>rename_i h1
  ·rw [if_pos h1] at h; exact h
  ·rw [if_neg h1] at h
   split<;>rename_i h2
   ·rw [if_pos h2] at h; exact h
   ·rw [if_neg h2] at h
    split<;>rename_i h3
    ·rw [if_pos h3] at h
     simp only [V8] at h ⊢
     exact⟨h.1,trivial⟩
    ·rw [if_neg h3] at h
     exact h
theorem Dw {m:Nat}(hm:2 ^ 41≤m){t:aj}(ht:eh t=true):∃s R,cq.f m t=some s∧eh s=true∧s.nodes.length≤t.nodes.length∧Du t.nodes s.nodes R∧R t.root s.root:=by
 have rl:(2:Nat) ^ 41=2199023255552:=by decide
 obtain⟨ok,_,r0,r1,_⟩:=iT ht
 obtain⟨c,ns,e,M,Q,hr⟩:=kZ hm ht
 have l1:=ok.1
 have fv:=ht
 unfold eh at fv
 simp only [V8,decide_eq_true_eq] at fv
 generalize hO:qU c t.nodes m t.root []=O at *
 have qV:=Q.vs.qV
 have hlen:=Q.len
 have oP:0<O.length:=by cases O with | nil=>simp at hr | cons _ _=>simp
 have Av:∀q:Nat,q<O.length→nd ns (q:Int)=uF c t.nodes O (gt O q):=fun q hq=>by
  have:=Q.new q (by simp) hq
  unfold nd
  rw [V9,Wm,this]; rfl
 have Ob:∀{v:Int},dV c v∈O.map (dV c)→0≤idx c O v∧idx c O v<O.length∧dV c (gt O (idx c O v).toNat)=dV c v:=fun {v} hv=>by
  have h1:=W7 hv
  have h2:=List.getElem_idxOf h1
  rw [WI] at h1
  unfold idx
  refine⟨by omega,by omega,?_⟩
  rw [V9]
  have h3:=Wh (l:=O.map (dV c)) (i:=(O.map (dV c)).idxOf (dV c v)) (by rw [WI]; exact h1)
  rw [h2,WB,bp h1] at h3
  exact Wy h3
 refine⟨⟨ns,0⟩,fun i j=>(0≤i∧i<t.nodes.length)∧dV c i∈O.map (dV c)∧j=idx c O i,e,?_,by show ns.length≤_; omega,⟨?_,?_,?_⟩,⟨r0,r1⟩,hr,?_⟩
 ·unfold eh
  simp only [V8,decide_eq_true_eq]
  refine⟨⟨⟨⟨by omega,by omega⟩,by omega⟩,by omega⟩,?_⟩
  rw [Ws]
  intro x hx
  obtain⟨q,hq,e2⟩:=List.getElem_of_mem hx
  have h1:=Q.new q (by simp) (by omega)
  rw [Wh hq,e2] at h1
  have h1:=Wy h1
  subst h1
  have uZ:=Q.vs.nc _ (aN (l:=O) (k:=q) (by omega))
  refine AL (Ws.1 fv.2 _ (fi uZ.1 uZ.2)) fun a ha=>?_
  have:=Ob (Q.arg q (by simp) (by omega) a ha)
  omega
 ·rintro i j ⟨h1,h2,rfl⟩
  have:=Ob h2
  exact⟨h1,by show 0≤_∧_<(ns.length:Int); omega⟩
 ·rintro i j ⟨h1,h2,rfl⟩
  obtain⟨a,b,d⟩:=Ob h2
  have uZ:=Q.vs.nc _ (aN (l:=O) (k:=(idx c O i).toNat) (by omega))
  have hx:=Av (idx c O i).toNat (by omega)
  rw [show (((idx c O i).toNat:Nat):Int)=idx c O i by omega] at hx
  rw [hx]
  have A:=(M.same h1.1 h1.2 uZ.1 uZ.2 d.symm).1
  exact⟨A.kind,A.int,A.label,by show _=(List.map _ _).length; rw [WI]; exact A.len⟩
 ·rintro i j ⟨h1,h2,rfl⟩ n hn
  obtain⟨a,b,d⟩:=Ob h2
  have uZ:=Q.vs.nc _ (aN (l:=O) (k:=(idx c O i).toNat) (by omega))
  have hx:=Av (idx c O i).toNat (by omega)
  rw [show (((idx c O i).toNat:Nat):Int)=idx c O i by omega] at hx
  rw [hx]
  obtain⟨A,hg⟩:=M.same h1.1 h1.2 uZ.1 uZ.2 d.symm
  have Jn:n<(nd t.nodes (gt O (idx c O i).toNat)).args.length:=by have:=A.len; omega
  have hg:=hg n hn
  have hin:=Q.arg (idx c O i).toNat (by simp) (by omega) _ (aN Jn)
  refine⟨(ok.2 _ (fi h1.1 h1.2)).2 _ (aN hn),by rw [hg]; exact hin,?_⟩
  have e1:gt (uF c t.nodes O (gt O (idx c O i).toNat)).args n=idx c O (gt (nd t.nodes (gt O (idx c O i).toNat)).args n):=by
   have h3:=bp (l:=(uF c t.nodes O (gt O (idx c O i).toNat)).args) (k:=n) (by show n<(List.map _ _).length; rw [WI]; exact Jn)
   have h4:(uF c t.nodes O (gt O (idx c O i).toNat)).args[n]? = some (idx c O (gt (nd t.nodes (gt O (idx c O i).toNat)).args n)):=by
    show (List.map _ _)[n]? = _
    rw [WB,bp Jn]; rfl
   rw [h4] at h3; exact (Wy h3).symm
  rw [e1]
  exact H9 hg.symm
 ·show (0:Int)=idx c O t.root
  have P1:=pg (cls:=c) ok m t.root [] [] _ r0 r1 ⟨by simp,fun x hx=>by cases hx⟩ (by simp; omega) (.nil _)
  rw [hO] at P1
  cases P1 with
  | skip h _=>simp at h
  | push _ k=>
   obtain⟨⟨T,e⟩,_⟩:=k.facts (n:=t.nodes.length) (fun v a b=>(ok.2 _ (fi a b)).2) (fun v hv=>by
    rcases Wk.1 hv with hv | hv
    ·exact (ok.2 _ (fi r0 r1)).2 v hv
    ·cases hv) (fun v hv=>by simp at hv; subst hv; exact⟨r0,r1⟩) (by simp)
   rw [e]
   unfold idx
   simp
theorem AM {m:Nat}(hm:2 ^ 41≤m){t:aj}(ht:eh t=true):∃s,cq.f m t=some s∧eh s=true∧s.nodes.length≤t.nodes.length∧cq.f m s=some s:=by
 obtain⟨s,R,e,v,hl,S,hr⟩:=Dw hm ht
 obtain⟨s',e1,e2⟩:=Dv hm ht v S hr
 rw [e1] at e
 cases e
 exact⟨s,e1,v,hl,e2⟩
end Go.Proofs.YtmekcfdllhphlaaDoor
namespace Go.Proofs.YtmekcfdllhphlaaDoor
open Go Go.R
open Go.IntKind (i64 u64 u8 u32)
theorem tU {b:List Int}{lo hi:Int}(h:0≤lo∧lo≤hi∧hi≤b.length):nA b lo hi=some ((b.drop lo.toNat).take (hi.toNat - lo.toNat)):=by unfold nA; rw [if_pos h]
end Go.Proofs.YtmekcfdllhphlaaDoor
namespace Go.Proofs.YtmekcfdllhphlaaDoor
open Go Go.R
open Go.IntKind (i64 u64 u8 u32)
end Go.Proofs.YtmekcfdllhphlaaDoor
namespace Go.Proofs.YtmekcfdllhphlaaDoor
open Go Go.R
open Go.IntKind (i64 u64 u8 u32)
def xl:cb:=gJ [0,2] [] [2,1] [] []
def eV.f (m:Nat)(c0:Int):Option (Bool):=if (decide (c0≥(97:Int)))=true then (if (decide (c0≤(122:Int)))=true then (some true) else (if (decide (c0≥(65:Int)))=true then (if (decide (c0≤(90:Int)))=true then (some true) else (if (decide (c0≥(48:Int)))=true then (if (decide (c0≤(57:Int)))=true then (some true) else (some (c0==(95:Int)))) else (some (c0==(95:Int))))) else (if (decide (c0≥(48:Int)))=true then (if (decide (c0≤(57:Int)))=true then (some true) else (some (c0==(95:Int)))) else (some (c0==(95:Int)))))) else (if (decide (c0≥(65:Int)))=true then (if (decide (c0≤(90:Int)))=true then (some true) else (if (decide (c0≥(48:Int)))=true then (if (decide (c0≤(57:Int)))=true then (some true) else (some (c0==(95:Int)))) else (some (c0==(95:Int))))) else (if (decide (c0≥(48:Int)))=true then (if (decide (c0≤(57:Int)))=true then (some true) else (some (c0==(95:Int)))) else (some (c0==(95:Int)))))
def eV.fin (L:Mem)(r:Bool)(s:St):Prop:=∃av,aI Tryd.prog (s.open xl) Tryd.f111.results.toList=some av∧fT s.h av (.bool r)
def KB (cf:CallF)(m:Nat):Prop:=∀(c0:Int) (r:Bool),eV.f m c0=some r→∀h xs,eN fc h xs [.int .u8 c0]→cf 111 xs h=some (.bool r,h)
section
variable {cf:CallF}{m:Nat}
theorem pn {aV:FuncId→cb}(ha:aV 111=xl)  (c0:Int)(h:AHeap)(L:Mem)  (o:Has h (L)){out:Bool}(H:eV.f m c0=some out) :
  ∃r h',be Tryd.prog aV cf m 111 [.int .u8 c0] h=some (r,h')∧fT h' r (.bool out):=by
 refine aq (fn:=Tryd.f111) ha Tryd.func111 (by kernel_rfl) (by kernel_rfl) ?_
 refine aG (Q:=fun s=>eV.fin L out s) (fun _ _ h=>h) ?_
 have H:_=some out:=H
 unfold eV.f at H
 show de _ cf xl m _ ⟨[.int .u8 c0,.any],[],h⟩ _
 refine q1 <| qq ?_
 rcases dt H with⟨c1,H⟩| ⟨c1,H⟩
 ·rcases dt H with⟨c2,H⟩| ⟨c2,H⟩
  ·obtain rfl:=oi H
   exact qr [.b 2 c1,.b 6 c2] <| qt <| ⟨.inl rfl,bZ (.bool true) h (bX (ak))⟩
  ·rcases dt H with⟨c3,H⟩| ⟨c3,H⟩
   ·rcases dt H with⟨c4,H⟩| ⟨c4,H⟩
    ·obtain rfl:=oi H
     exact qr [.b 2 c1,.b 6 c2,.b 9 c3,.b 14 c4] <| qt <| ⟨.inl rfl,bZ (.bool true) h (bX (ak))⟩
    ·rcases dt H with⟨c5,H⟩| ⟨c5,H⟩
     ·rcases dt H with⟨c6,H⟩| ⟨c6,H⟩
      ·obtain rfl:=oi H
       exact qr [.b 2 c1,.b 6 c2,.b 9 c3,.b 14 c4,.b 17 c5,.b 22 c6] <| qt <| ⟨.inl rfl,bZ (.bool true) h (bX (ak))⟩
      ·obtain rfl:=oi H
       exact qr [.b 2 c1,.b 6 c2,.b 9 c3,.b 14 c4,.b 17 c5,.b 22 c6] <| qt <| ⟨.inl rfl,bZ (.bool (c0==(95:Int))) h (bX (ak))⟩
     ·obtain rfl:=oi H
      exact qr [.b 2 c1,.b 6 c2,.b 9 c3,.b 14 c4,.b 17 c5] <| qt <| ⟨.inl rfl,bZ (.bool (c0==(95:Int))) h (bX (ak))⟩
   ·rcases dt H with⟨c7,H⟩| ⟨c7,H⟩
    ·rcases dt H with⟨c8,H⟩| ⟨c8,H⟩
     ·obtain rfl:=oi H
      exact qr [.b 2 c1,.b 6 c2,.b 9 c3,.b 17 c7,.b 22 c8] <| qt <| ⟨.inl rfl,bZ (.bool true) h (bX (ak))⟩
     ·obtain rfl:=oi H
      exact qr [.b 2 c1,.b 6 c2,.b 9 c3,.b 17 c7,.b 22 c8] <| qt <| ⟨.inl rfl,bZ (.bool (c0==(95:Int))) h (bX (ak))⟩
    ·obtain rfl:=oi H
     exact qr [.b 2 c1,.b 6 c2,.b 9 c3,.b 17 c7] <| qt <| ⟨.inl rfl,bZ (.bool (c0==(95:Int))) h (bX (ak))⟩
 ·rcases dt H with⟨c9,H⟩| ⟨c9,H⟩
  ·rcases dt H with⟨rm,H⟩| ⟨rm,H⟩
   ·obtain rfl:=oi H
    exact qr [.b 2 c1,.b 9 c9,.b 14 rm] <| qt <| ⟨.inl rfl,bZ (.bool true) h (bX (ak))⟩
   ·rcases dt H with⟨nG,H⟩| ⟨nG,H⟩
    ·rcases dt H with⟨oQ,H⟩| ⟨oQ,H⟩
     ·obtain rfl:=oi H
      exact qr [.b 2 c1,.b 9 c9,.b 14 rm,.b 17 nG,.b 22 oQ] <| qt <| ⟨.inl rfl,bZ (.bool true) h (bX (ak))⟩
     ·obtain rfl:=oi H
      exact qr [.b 2 c1,.b 9 c9,.b 14 rm,.b 17 nG,.b 22 oQ] <| qt <| ⟨.inl rfl,bZ (.bool (c0==(95:Int))) h (bX (ak))⟩
    ·obtain rfl:=oi H
     exact qr [.b 2 c1,.b 9 c9,.b 14 rm,.b 17 nG] <| qt <| ⟨.inl rfl,bZ (.bool (c0==(95:Int))) h (bX (ak))⟩
  ·rcases dt H with⟨rn,H⟩| ⟨rn,H⟩
   ·rcases dt H with⟨mY,H⟩| ⟨mY,H⟩
    ·obtain rfl:=oi H
     exact qr [.b 2 c1,.b 9 c9,.b 17 rn,.b 22 mY] <| qt <| ⟨.inl rfl,bZ (.bool true) h (bX (ak))⟩
    ·obtain rfl:=oi H
     exact qr [.b 2 c1,.b 9 c9,.b 17 rn,.b 22 mY] <| qt <| ⟨.inl rfl,bZ (.bool (c0==(95:Int))) h (bX (ak))⟩
   ·obtain rfl:=oi H
    exact qr [.b 2 c1,.b 9 c9,.b 17 rn] <| qt <| ⟨.inl rfl,bZ (.bool (c0==(95:Int))) h (bX (ak))⟩
end
end Go.Proofs.YtmekcfdllhphlaaDoor
namespace Go.Proofs.YtmekcfdllhphlaaDoor
open Go Go.R
open Go.IntKind (i64 u64 u8 u32)
def y5:cb:=gJ [0,2,3,11,15,22] [] [62,54,61,58,42,58,26,61,61] [] []
def cj.l0 (m:Nat)(s0:ByteArray):Nat→Int→Option (Sum Bool (Int))
 | 0,_=>none
 | k+1,i0=>if (decide (i0<(s0.size:Int)))=true then ((bt s0 i0).bind fun v0=>(eV.f m v0).bind fun x0=>if (!x0)=true then (some (.inl false)) else (cj.l0 m s0 k (i64.wrap (i0+(1:Int))))) else (some (.inr i0))
def cj.f (m:Nat)(s0:ByteArray):Option (Bool):=if (decide ((s0.size:Int)<(1:Int)))=true then (some false) else (if (decide ((s0.size:Int) > (16:Int)))=true then (some false) else ((cj.l0 m s0 m (0:Int)).bind fun bq=>match bq with | .inl r0=>some r0 | .inr i1=>some true))
def cj.fin (L:Mem)(r:Bool)(s:St):Prop:=∃av,aI Tryd.prog (s.open y5) Tryd.f86.results.toList=some av∧fT s.h av (.bool r)
def SP (cf:CallF)(m:Nat):Prop:=∀(s0:ByteArray) (r:Bool),cj.f m s0=some r→∀h xs,eN fc h xs [.str s0]→cf 86 xs h=some (.bool r,h)
section
variable {cf:CallF}{m:Nat}
theorem cj.bI (L:Mem)(s0:ByteArray)  (Gp:KB cf m):bE Tryd.prog cf y5 m (sub [1,1,0,1,0,0] (codeOf Tryd.f86)) (fun k (σ:Int)=>cj.l0 m s0 k σ) (fun σ s=>match σ with | i0=>∃h0,s=⟨.str s0 :: .any :: .int .i64 i0::ke [],[],h0⟩∧Has h0 (L)) (fun out e s=>(e = .exit 0∧∃i0,.inr i0=out∧∃kC ta wS h0,s=⟨[kC,.any,ta,.any,wS,.any],[],h0⟩∧Has h0 (L))∨(e = .ret∧∃r,.inl r=out∧cj.fin L r s)):=by
 refine gP (fun _=>rfl) ?_
 rintro k i0 s out ⟨h0,rfl,o0⟩ H
 have H:cj.l0 m s0 (k+1) i0=some out:=H
 refine qq <| qq <| q0 <| qc H (fun c3 H=>?_) (fun c3 H=>?_)
 ·refine qk <| qq <| qb 1 <| qq ?_
  obtain⟨v0,e0,H⟩:=aH H
  obtain⟨x0,e1,H⟩:=aH H
  refine qr [.v 2 (lT (k:=.i64) U9 e0),.a 3 (Gp _ _ e1 h0 _ (gO (ae (aM) (az))))] <| qc H (fun c4 H=>?_) (fun c4 H=>?_)
  ·exact q1 <| qt <| WZ (⟨rfl,_,oi H,bZ (.bool false) h0 (bX (ak))⟩)
  ·exact qk <| q0 <| ⟨i64.wrap (i0+(1:Int)),⟨h0,by kernel_rfl,o0⟩,H⟩
 ·exact qx 0 <| Xt (⟨rfl,i0,oi H,.str s0,.int .i64 i0,.bool (decide (i0<(s0.size:Int))),h0,by kernel_rfl,o0⟩)
theorem rJ {aV:FuncId→cb}(ha:aV 86=y5)(Gp:KB cf m)(s0:ByteArray)(h:AHeap)(L:Mem)  (o:Has h (L)){out:Bool}(H:cj.f m s0=some out) :
  ∃r h',be Tryd.prog aV cf m 86 [.str s0] h=some (r,h')∧fT h' r (.bool out):=by
 refine aq (fn:=Tryd.f86) ha Tryd.func86 (by kernel_rfl) (by kernel_rfl) ?_
 refine aG (Q:=fun s=>cj.fin L out s) (fun _ _ h=>h) ?_
 have H:_=some out:=H
 unfold cj.f at H
 show de _ cf y5 m _ ⟨.str s0::sY [],[],h⟩ _
 refine q1 <| qq <| qq ?_
 rcases dt H with⟨c0,H⟩| ⟨c0,H⟩
 ·obtain rfl:=oi H
  exact qr [.b 3 c0] <| mX <| qq <| q0 <| qt <| ⟨.inl rfl,bZ (.bool false) h (bX (ak))⟩
 ·refine qr [.b 3 c0] <| qc H (fun c2 H=>?_) (fun c2 H=>?_)
  ·obtain rfl:=oi H
   exact q1 <| qt <| ⟨.inl rfl,bZ (.bool false) h (bX (ak))⟩
  ·refine qk <| qq <| qq <| q0 <| qb 0 ?_
   obtain⟨bq,e2,H⟩:=aH H
   refine ql (cj.bI L s0  Gp (0:Int) _ _ ⟨h,by kernel_rfl,o⟩ e2) ?_
   rintro e s (⟨rfl,i1,rfl,g0,g1,g2,h1,rfl,o1⟩| ⟨rfl,r0,rfl,mE⟩)
   ·try dsimp only at H
    obtain rfl:=oi H
    exact q1 <| qt <| ⟨.inl rfl,bZ (.bool true) h1 (bX (ak))⟩
   ·try dsimp only at H
    obtain rfl:=oi H
    exact⟨.inl rfl,mE⟩
end
end Go.Proofs.YtmekcfdllhphlaaDoor
namespace Go.Proofs.YtmekcfdllhphlaaDoor
open Go Go.R
open Go.IntKind (i64 u64 u8 u32)
def B8:cb:=gJ [0,2] [] [2,1] [] []
def dT.f (m:Nat)(s0:ByteArray):Option (Bool):=if (s0.data.toList==(Wu #[124]).data.toList)=true then (some true) else (if (s0.data.toList==(Wu #[35]).data.toList)=true then (some true) else ((cj.f m s0).bind fun x0=>if x0=true then ((bt s0 (0:Int)).bind fun v0=>if (decide (v0≥(97:Int)))=true then ((bt s0 (0:Int)).bind fun v1=>some (decide (v1≤(122:Int)))) else (some false)) else (some false)))
def dT.fin (L:Mem)(r:Bool)(s:St):Prop:=∃av,aI Tryd.prog (s.open B8) Tryd.f69.results.toList=some av∧fT s.h av (.bool r)
def SQ (cf:CallF)(m:Nat):Prop:=∀(s0:ByteArray) (r:Bool),dT.f m s0=some r→∀h xs,eN fc h xs [.str s0]→cf 69 xs h=some (.bool r,h)
section
variable {cf:CallF}{m:Nat}
theorem po {aV:FuncId→cb}(ha:aV 69=B8)(KC:SP cf m)(s0:ByteArray)(h:AHeap)(L:Mem)  (o:Has h (L)){out:Bool}(H:dT.f m s0=some out) :
  ∃r h',be Tryd.prog aV cf m 69 [.str s0] h=some (r,h')∧fT h' r (.bool out):=by
 refine aq (fn:=Tryd.f69) ha Tryd.func69 (by kernel_rfl) (by kernel_rfl) ?_
 refine aG (Q:=fun s=>dT.fin L out s) (fun _ _ h=>h) ?_
 have H:_=some out:=H
 unfold dT.f at H
 show de _ cf B8 m _ ⟨[.str s0,.any],[],h⟩ _
 refine q1 <| qq ?_
 rcases dt H with⟨c0,H⟩| ⟨c0,H⟩
 ·obtain rfl:=oi H
  exact qr [.b 2 c0] <| qt <| ⟨.inl rfl,bZ (.bool true) h (bX (ak))⟩
 ·rcases dt H with⟨c1,H⟩| ⟨c1,H⟩
  ·obtain rfl:=oi H
   exact qr [.b 2 c0,.b 6 c1] <| qt <| ⟨.inl rfl,bZ (.bool true) h (bX (ak))⟩
  ·obtain⟨x0,e0,H⟩:=aH H
   rcases dt H with⟨c2,H⟩| ⟨c2,H⟩
   ·obtain⟨v0,e1,H⟩:=aH H
    rcases dt H with⟨c3,H⟩| ⟨c3,H⟩
    ·obtain⟨v1,e2,H⟩:=aH H
     obtain rfl:=oi H
     exact qr [.b 2 c0,.b 6 c1,.a 8 (KC _ _ e0 h _ (gO (ae (bY) (az)))),.b 9 c2,.v 11 (lT (k:=.i64) U9 e1),.b 14 c3,.v 16 (lT (k:=.i64) U9 e2)] <| qt <| ⟨.inl rfl,bZ (.bool (decide (v1≤(122:Int)))) h (bX (ak))⟩
    ·obtain rfl:=oi H
     exact qr [.b 2 c0,.b 6 c1,.a 8 (KC _ _ e0 h _ (gO (ae (bY) (az)))),.b 9 c2,.v 11 (lT (k:=.i64) U9 e1),.b 14 c3] <| qt <| ⟨.inl rfl,bZ (.bool false) h (bX (ak))⟩
   ·obtain rfl:=oi H
    exact qr [.b 2 c0,.b 6 c1,.a 8 (KC _ _ e0 h _ (gO (ae (bY) (az)))),.b 9 c2] <| qt <| ⟨.inl rfl,bZ (.bool false) h (bX (ak))⟩
end
end Go.Proofs.YtmekcfdllhphlaaDoor
