/- Part of the proof: Q76, PB4, Q75, PB9, PV1, PT13, Q23, Q111, Q86, Q69. -/
import Derived.Test.YtmekcfdllhphlaaDoorK10
set_option linter.unusedVariables false
set_option linter.unusedSimpArgs false
set_option maxRecDepth 100000
open Bool renaming and_eq_true → WR
open ByteArray renaming mk → Xf
open Eq renaming trans → XO
open Int renaming toNat_natCast → WT
open List renaming length_set → WW, length_append → WX, mem_singleton → WY, getElem?_eq_getElem → W2, mem_append → W5, getElem?_eq_none → W6, getD_eq_getElem?_getD → W7, replicate → W8, length_cons → W9, getElem?_append_right → Xa, map_cons → Xc, all_eq_true → Xd, mem_map → Xg, map_append → Xi, drop_zero → Xl, nil_append → Xm, getElem?_map → Xo, mem_cons → Xs, length_map → Xu, mem_append_left → Xw, ext_getElem? → XE, length_nil → XI, idxOf_lt_length_of_mem → XP, take_add_one → XR, take_length → XU, nodup_append → X0, getElem?_set → Ya
open Nat renaming le_refl → WQ, le_trans → Xz, sub_self → Yj
open Option renaming bind_some → WL, map_some → WS
open Option.some renaming inj → Xj
open Or renaming inr → XH, inl → X6
namespace Go.Proofs.YtmekcfdllhphlaaDoor
open Go Go.R
open Go.IntKind (i64 u64 u8 u32)
def mE:cg:=gk [0,2,3,4,5,6,7,8,9,10,11,12,13,14,15,22,27,42,56,67,73,95,109,120,127,148,177] [] [134217726,134217722,134217714,134217666,134217602,134184898,134217602,134217474,134151938,134217474,134086402,134217538,133955394,134217538,134217538,134217474,134217426,133693138,134217426,133168850,134217426,134217426,134216914,132119762,134216914,130022610,134216914,134216666,125829082,134216666,134214618,134214618,134210522,117433306,134210522,134202330,134202330,134185946,100631514,134185946,67077082,134185946,134210522,134216666,134217725] [] [(3,[(5,none,1),(6,none,1)]),(30,[(12,none,1)])]
def ah.l1 (m:Nat)(l0:List ae):Nat→(List Int)→(List Bool)→(List Int)→Bool→Int→Option ((List Int) × (List Bool) × (List Int) × Bool × Int)
 | 0,_,_,_,_,_=>none
 | k+1,cR,dk,dc,kR,i0=>if (decide (i0≥(0:Int)))=true then ((ix dk i0).bind fun v0=>if v0=true then (ah.l1 m l0 k cR dk dc kR (i64.wrap (i0 - (1:Int)))) else ((ix l0 i0).bind fun v1=>(b6.f m v1 dk).bind fun x2=>if (!x2)=true then (ah.l1 m l0 k cR dk dc kR (i64.wrap (i0 - (1:Int)))) else ((cb.f m l0 dc i0 cR).bind fun x3=>(ix cR i0).bind fun v2=>(ix (cR.set i0.toNat x3) i0).bind fun v3=>if (v3==i0)=true then ((app 8 dc ([i0])).bind fun x4=>(ix dk i0).bind fun v4=>ah.l1 m l0 k (cR.set i0.toNat x3) (dk.set i0.toNat true) x4 true (i64.wrap (i0 - (1:Int)))) else ((ix dk i0).bind fun v5=>ah.l1 m l0 k (cR.set i0.toNat x3) (dk.set i0.toNat true) dc true (i64.wrap (i0 - (1:Int))))))) else (some ((cR,dk,dc,kR,i0)))
def ah.l0 (m:Nat)(l0:List ae):Nat→(List Int)→(List Bool)→(List Int)→Bool→Option ((List Int) × (List Bool) × (List Int) × Bool)
 | 0,_,_,_,_=>none
 | k+1,bn,dE,fR,nz=>if nz=true then ((ah.l1 m l0 m bn dE fR false (i64.wrap ((l0.length:Int) - (1:Int)))).bind fun bq=>match bq with | (A6,Gs,xD,Gt,i1)=>ah.l0 m l0 k A6 Gs xD Gt) else (some ((bn,dE,fR,nz)))
def ah.l3 (m:Nat)(l0:List ae)(i2:Int)(x5:List Int):Nat→(List Int)→Int→Option ((List Int) × Int)
 | 0,_,_=>none
 | k+1,cZ,k0=>(ix cZ i2).bind fun v8=>if (v8==i2)=true then ((ix x5 k0).bind fun v9=>if (decide (v9<i2))=true then ((ix l0 i2).bind fun v10=>(ix x5 k0).bind fun v11=>(ix l0 v11).bind fun v12=>(eZ.f m v10 v12).bind fun x6=>if x6=true then ((ix x5 k0).bind fun H5=>(ix cZ H5).bind fun zP=>(ix cZ i2).bind fun mZ=>ah.l3 m l0 i2 x5 k (cZ.set i2.toNat zP) (i64.wrap (k0+(1:Int)))) else (ah.l3 m l0 i2 x5 k cZ (i64.wrap (k0+(1:Int))))) else (some ((cZ,k0)))) else (some ((cZ,k0)))
def ah.l2 (m:Nat)(l0:List ae)(dP:List Bool):Nat→(List Int)→(List Int)→Int→Option ((List Int) × (List Int) × Int)
 | 0,_,_,_=>none
 | k+1,eC,jq,i2=>if (decide (i2<(l0.length:Int)))=true then ((ix dP i2).bind fun v6=>if v6=true then (ah.l2 m l0 dP k eC jq (i64.wrap (i2+(1:Int)))) else ((app 8 jq ([i2])).bind fun x5=>(ix eC i2).bind fun v7=>(ah.l3 m l0 i2 x5 m (eC.set i2.toNat i2) (0:Int)).bind fun jm=>match jm with | (A7,k1)=>ah.l2 m l0 dP k A7 x5 (i64.wrap (i2+(1:Int))))) else (some ((eC,jq,i2)))
def ah.l6 (m:Nat)(l0:List ae)(bF:List Int)(a6:List Int)(j0:Int)(lS:Int):Nat→(List Int)→Int→Option ((List Int) × Int)
 | 0,_,_=>none
 | k+1,cQ,k2=>(ix cQ lS).bind fun S8=>if (S8==lS)=true then (if (decide (k2<j0))=true then ((ix a6 lS).bind fun S9=>(ix bF k2).bind fun v20=>(ix a6 v20).bind fun v21=>if (S9==v21)=true then ((ix l0 lS).bind fun Ta=>(ix bF k2).bind fun Tb=>(ix l0 Tb).bind fun v24=>(bh.f m Ta v24 a6).bind fun x8=>if x8=true then ((ix bF k2).bind fun Td=>(ix cQ Td).bind fun LI=>(ix cQ lS).bind fun Vc=>ah.l6 m l0 bF a6 j0 lS k (cQ.set lS.toNat LI) (i64.wrap (k2+(1:Int)))) else (ah.l6 m l0 bF a6 j0 lS k cQ (i64.wrap (k2+(1:Int))))) else (ah.l6 m l0 bF a6 j0 lS k cQ (i64.wrap (k2+(1:Int))))) else (some ((cQ,k2)))) else (some ((cQ,k2)))
def ah.l5 (m:Nat)(l0:List ae)(bF:List Int)(a6:List Int):Nat→Bool→(List Int)→Int→Option (Bool × (List Int) × Int)
 | 0,_,_,_=>none
 | k+1,jw,bR,j0=>if (decide (j0<(bF.length:Int)))=true then ((ix bF j0).bind fun lS=>(ix bR lS).bind fun LJ=>(ah.l6 m l0 bF a6 j0 lS m (bR.set lS.toNat lS) (0:Int)).bind fun cP=>match cP with | (rr,k3)=>if jw=true then (ah.l5 m l0 bF a6 k true rr (i64.wrap (j0+(1:Int)))) else ((ix rr lS).bind fun v28=>(ix a6 lS).bind fun QQ=>ah.l5 m l0 bF a6 k (!(v28==QQ)) rr (i64.wrap (j0+(1:Int))))) else (some ((jw,bR,j0)))
def ah.l4 (m:Nat)(l0:List ae)(bF:List Int):Nat→(List Int)→Bool→Option ((List Int) × Bool)
 | 0,_,_=>none
 | k+1,a6,nA=>if nA=true then ((app 8 ([]:List Int) a6).bind fun x7=>(ah.l5 m l0 bF a6 m false x7 (0:Int)).bind fun yW=>match yW with | (Gu,zh,j1)=>ah.l4 m l0 bF k zh Gu) else (some ((a6,nA)))
def ah.f (m:Nat)(l0:List ae):Option ((List Int)):=(uL 8 (l0.length:Int) (0:Int)).bind fun x0=>(uL 1 (l0.length:Int) false).bind fun x1=>(ah.l0 m l0 m x0 x1 ([]:List Int) true).bind fun cq=>match cq with | (ug,dP,Is,NF)=>(ah.l2 m l0 dP m ug ([]:List Int) (0:Int)).bind fun pc=>match pc with | (uh,bF,i3)=>(ah.l4 m l0 bF m uh true).bind fun gE=>match gE with | (qD,NG)=>some qD
def ah.fin (L:Mem)(r:(List Int))(s:St):Prop:=∃av,aI Tryd.prog (s.open mE) Tryd.f76.results.toList=some av∧fB s.h av (aa.fz r)
def Te (cf:CallF)(m:Nat):Prop:=∀(l0:List ae) (r:(List Int)),ah.f m l0=some r→∀h xs,ej eL h xs [af.fz l0]→cf 76 xs h=some (aa.fz r,h)
section
variable {cf:CallF}{m:Nat}
theorem ah.fu (L:Mem)(l0:List ae)  (zi:Iq cf m)(zj:Ir cf m):bI Tryd.prog cf mE m (sub [1,1,1,1,0,1,0,0,1,0,1,1,0,0] (codeOf Tryd.f76)) (fun k (σ:(List Int) × (List Bool) × (List Int) × Bool × Int)=>ah.l1 m l0 k σ.1 σ.2.1 σ.2.2.1 σ.2.2.2.1 σ.2.2.2.2) (fun σ s=>match σ with | (cR,dk,dc,kR,i0)=>∃iy gV gU h3,s=⟨af.fz l0 :: .any :: .rs gU 0 cR.length 1 :: .rs gV 0 dk.length 1 :: .rs iy 0 dc.length 1 :: .rs ((0)) 0 (([]:List Int).length) 1 :: .bool kR :: .int .i64 i0::Kg [],[],h3⟩∧Has h3 ((((0)),.sl (([]:List Int).length) 1 (aa.l ([]:List Int)))::(iy,.sl dc.length 1 (aa.l dc))::(gV,.sl dk.length 1 (cE.l dk))::(gU,.sl cR.length 1 (aa.l cR))::L)) (fun out e s=>(e = .exit 2∧∃cR dk dc kR i0,(cR,dk,dc,kR,i0)=out∧∃qn AX iy gV gU h3,s=⟨af.fz l0 :: .any :: .rs gU 0 cR.length 1 :: .rs gV 0 dk.length 1 :: .rs iy 0 dc.length 1 :: .rs ((0)) 0 (([]:List Int).length) 1 :: .bool kR::qn::rf (AX::uN []),[],h3⟩∧Has h3 ((((0)),.sl (([]:List Int).length) 1 (aa.l ([]:List Int)))::(iy,.sl dc.length 1 (aa.l dc))::(gV,.sl dk.length 1 (cE.l dk))::(gU,.sl cR.length 1 (aa.l cR))::L))):=by
 refine gS (fun _=>rfl) ?_
 rintro k ⟨cR,dk,dc,kR,i0⟩ s out ⟨iy,gV,gU,h3,rfl,o5⟩ H
 have H:ah.l1 m l0 (k+1) cR dk dc kR i0=some out:=H
 refine qq <| qq <| q0 <| qc H (fun c1 H=>?_) (fun c1 H=>?_)
 ·refine qk <| qq <| qb 3 <| qq <| qq ?_
  obtain⟨v0,e4,H⟩:=aJ H
  rcases dw H with⟨c2,H⟩| ⟨c2,H⟩
  ·exact qr [.v 2 (aH (k:=.i64) (E:=cE) (l:=dk) (q:=2) Hb o5 rfl e4),.v 3 (bg  (E:=cE) (l:=dk) (q:=2) o5 rfl A4 e4 rfl),.b 4 c2] <| pa <| qx 3 <| q0 <| ⟨(cR,dk,dc,kR,i64.wrap (i0 - (1:Int))),⟨iy,gV,gU,h3,by kernel_rfl,o5⟩,H⟩
  ·obtain⟨v1,e5,H⟩:=aJ H
   obtain⟨x2,e6,H⟩:=aJ H
   refine qr [.v 2 (aH (k:=.i64) (E:=cE) (l:=dk) (q:=2) Hb o5 rfl e4),.v 3 (bg  (E:=cE) (l:=dk) (q:=2) o5 rfl A4 e4 rfl),.b 4 c2,.v 7 (bo (k:=.i64) (E:=af) (l:=l0) kT e5),.v 8 (cO  (E:=af) (l:=l0) h3 ri rj e5),.a 10 (zi _ _ _ e6 h3 _ (ga (ab (bQ (ab (aE) (ab (aE) (ab (bK) (ab (bS (E:=aa)) (ax)))))) (ab (s8 (E:=cE) (l:=dk) (q:=2) o5 rfl (fun _=>rfl)) (ax)))))] <| qc H (fun c4 H=>?_) (fun c4 H=>?_)
   ·exact qx 3 <| q0 <| ⟨(cR,dk,dc,kR,i64.wrap (i0 - (1:Int))),⟨iy,gV,gU,h3,by kernel_rfl,o5⟩,H⟩
   ·refine qk <| qq ?_
    obtain⟨x3,e7,H⟩:=aJ H
    obtain⟨v2,e8,H⟩:=aJ H
    obtain⟨h4,e9,o6⟩:=dJ (P:=Tryd.prog) (tf:=3) (E:=aa) (l:=cR) (q:=3) (v:=x3) (x:=.int .i64 x3) o5 rfl Z3 e8 rfl rfl
    refine qr [.a 6 (zj _ _ _ _ _ e7 h3 _ (ga (ab (bS (E:=af)) (ab (s8 (E:=aa) (l:=dc) (q:=1) o5 rfl (fun _=>rfl)) (ab (aE) (ab (s8 (E:=aa) (l:=cR) (q:=3) o5 rfl (fun _=>rfl)) (ax))))))),.v 7 (aH (k:=.i64) (E:=aa) (l:=cR) (q:=3) dC o5 rfl e8),.w 8 e9] <| qq <| qq ?_
    obtain⟨v3,mU,H⟩:=aJ H
    refine qr [.v 2 (aH (k:=.i64) (E:=aa) (l:=(cR.set i0.toNat x3)) (q:=3) dC o6 rfl mU),.v 3 (bg  (E:=aa) (l:=(cR.set i0.toNat x3)) (q:=3) o6 rfl A3 mU rfl)] <| qc H (fun c5 H=>?_) (fun c5 H=>?_)
    ·obtain⟨x4,rn,H⟩:=aJ H
     obtain⟨kO,h5,si,o7⟩:=fY (P:=Tryd.prog) (E:=aa) (l:=dc) (q:=1) (t2:=42) (x:=.fz [.int .i64 i0] 1 true) (l2:=([i0])) dC o6 rfl (by kernel_rfl) rfl rn
     refine qr [.a 3 si] <| qq ?_
     obtain⟨v4,sj,H⟩:=aJ H
     obtain⟨h6,uS,o8⟩:=dJ (P:=Tryd.prog) (tf:=4) (E:=cE) (l:=dk) (q:=2) (v:=true) (x:=.bool true) o7 rfl Z4 sj rfl rfl
     exact qr [.v 2 (aH (k:=.i64) (E:=cE) (l:=dk) (q:=2) Hb o7 rfl sj),.w 3 uS] <| q0 <| q0 <| ⟨(cR.set i0.toNat x3,dk.set i0.toNat true,x4,true,i64.wrap (i0 - (1:Int))),⟨kO,gV,gU,h6,(XO (b:=⟨af.fz l0 :: .any :: .rs gU 0 cR.length 1 :: .rs gV 0 dk.length 1 :: .rs kO 0 x4.length 1 :: .rs ((0)) 0 (([]:List Int).length) 1 :: .bool true :: .int .i64 (i64.wrap (i0 - (1:Int)))::Kg [],[],h6⟩) (by kernel_rfl) (by simp only [WW])),(by have o:Has h6 ((((0)),.sl (([]:List Int).length) 1 (aa.l ([]:List Int)))::(kO,.sl x4.length 1 (aa.l x4))::(gV,.sl dk.length 1 (cE.l (dk.set i0.toNat true)))::(gU,.sl cR.length 1 (aa.l (cR.set i0.toNat x3)))::L):=o8; simpa only [WW] using o)⟩,H⟩
    ·refine qk <| qq ?_
     obtain⟨v5,uz,H⟩:=aJ H
     obtain⟨h7,xM,o9⟩:=dJ (P:=Tryd.prog) (tf:=4) (E:=cE) (l:=dk) (q:=2) (v:=true) (x:=.bool true) o6 rfl Z4 uz rfl rfl
     exact qr [.v 2 (aH (k:=.i64) (E:=cE) (l:=dk) (q:=2) Hb o6 rfl uz),.w 3 xM] <| q0 <| q0 <| ⟨(cR.set i0.toNat x3,dk.set i0.toNat true,dc,true,i64.wrap (i0 - (1:Int))),⟨iy,gV,gU,h7,(XO (b:=⟨af.fz l0 :: .any :: .rs gU 0 cR.length 1 :: .rs gV 0 dk.length 1 :: .rs iy 0 dc.length 1 :: .rs ((0)) 0 (([]:List Int).length) 1 :: .bool true :: .int .i64 (i64.wrap (i0 - (1:Int)))::Kg [],[],h7⟩) (by kernel_rfl) (by simp only [WW])),(by have o:Has h7 ((((0)),.sl (([]:List Int).length) 1 (aa.l ([]:List Int)))::(iy,.sl dc.length 1 (aa.l dc))::(gV,.sl dk.length 1 (cE.l (dk.set i0.toNat true)))::(gU,.sl cR.length 1 (aa.l (cR.set i0.toNat x3)))::L):=o9; simpa only [WW] using o)⟩,H⟩
 ·exact qx 2 <| ⟨rfl,cR,dk,dc,kR,i0,oi H,.int .i64 i0,.bool (decide (i0≥(0:Int))),iy,gV,gU,h3,by kernel_rfl,o5⟩
theorem ah.bG (L:Mem)(l0:List ae)  (zi:Iq cf m)(zj:Ir cf m):bI Tryd.prog cf mE m (sub [1,1,1,1,0,1,0,0] (codeOf Tryd.f76)) (fun k (σ:(List Int) × (List Bool) × (List Int) × Bool)=>ah.l0 m l0 k σ.1 σ.2.1 σ.2.2.1 σ.2.2.2) (fun σ s=>match σ with | (bn,dE,fR,nz)=>∃g0 g1 gX fA dj h2,s=⟨af.fz l0 :: .any :: .rs dj 0 bn.length 1 :: .rs fA 0 dE.length 1 :: .rs gX 0 fR.length 1 :: .rs ((0)) 0 (([]:List Int).length) 1 :: .bool nz::g0::rf (g1::uN []),[],h2⟩∧Has h2 ((((0)),.sl (([]:List Int).length) 1 (aa.l ([]:List Int)))::(gX,.sl fR.length 1 (aa.l fR))::(fA,.sl dE.length 1 (cE.l dE))::(dj,.sl bn.length 1 (aa.l bn))::L)) (fun out e s=>(e = .exit 0∧∃bn dE fR nz,(bn,dE,fR,nz)=out∧∃xi tF qn AD AX gX fA dj h2,s=⟨af.fz l0 :: .any :: .rs dj 0 bn.length 1 :: .rs fA 0 dE.length 1::xi :: .rs ((0)) 0 (([]:List Int).length) 1::tF::qn::Dk (AD::AX::uN []),[],h2⟩∧Has h2 ((((0)),.sl (([]:List Int).length) 1 (aa.l ([]:List Int)))::(gX,.sl fR.length 1 (aa.l fR))::(fA,.sl dE.length 1 (cE.l dE))::(dj,.sl bn.length 1 (aa.l bn))::L))):=by
 refine gS (fun _=>rfl) ?_
 rintro k ⟨bn,dE,fR,nz⟩ s out ⟨g0,g1,gX,fA,dj,h2,rfl,o4⟩ H
 have H:ah.l0 m l0 (k+1) bn dE fR nz=some out:=H
 refine qq <| qq <| q0 <| qc H (fun c0 H=>?_) (fun c0 H=>?_)
 ·refine qk <| qb 1 <| qq <| q0 <| qq <| q0 <| qb 2 ?_
  obtain⟨bq,w9,H⟩:=aJ H
  refine ql (ah.fu L l0  zi zj (bn,dE,fR,false,i64.wrap ((l0.length:Int) - (1:Int))) _ _ ⟨gX,fA,dj,h2,by kernel_rfl,o4⟩ w9) ?_
  rintro e s ⟨rfl,A6,Gs,xD,Gt,i1,rfl,g2,g3,xN,eQ,nU,h8,rfl,uQ⟩
  try dsimp only at H
  exact⟨(A6,Gs,xD,Gt),⟨g2,g3,xN,eQ,nU,h8,by kernel_rfl,uQ⟩,H⟩
 ·exact qx 0 <| ⟨rfl,bn,dE,fR,nz,oi H,.rs gX 0 fR.length 1,.any,.any,.bool nz,.any,gX,fA,dj,h2,by kernel_rfl,o4⟩
theorem ah.tL (L:Mem)(l0:List ae)(gW:Nat)(dP:List Bool)(gW:Nat)(i2:Int)(x5:List Int)(qE:Nat)  (ny:DJ cf m):bI Tryd.prog cf mE m (sub [1,1,1,1,1,0,1,0,0,1,0,0,1,1,1,1,0,0] (codeOf Tryd.f76)) (fun k (σ:(List Int) × Int)=>ah.l3 m l0 i2 x5 k σ.1 σ.2) (fun σ s=>match σ with | (cZ,k0)=>∃qF h13,s=⟨af.fz l0 :: .any :: .rs qF 0 cZ.length 1 :: .rs gW 0 dP.length 1 :: .any :: .rs qE 0 x5.length 1 :: .any :: .any :: .int .i64 i2 :: .int .i64 k0::E6 [],[],h13⟩∧Has h13 ((qE,.sl x5.length 1 (aa.l x5))::(gW,.sl dP.length 1 (cE.l dP))::(qF,.sl cZ.length 1 (aa.l cZ))::L)) (fun out e s=>(e = .exit 6∧∃cZ k0,(cZ,k0)=out∧∃tv QR qF h13,s=⟨af.fz l0 :: .any :: .rs qF 0 cZ.length 1 :: .rs gW 0 dP.length 1 :: .any :: .rs qE 0 x5.length 1 :: .any :: .any :: .int .i64 i2::tv::oV (QR::sf []),[],h13⟩∧Has h13 ((qE,.sl x5.length 1 (aa.l x5))::(gW,.sl dP.length 1 (cE.l dP))::(qF,.sl cZ.length 1 (aa.l cZ))::L))):=by
 refine gS (fun _=>rfl) ?_
 rintro k ⟨cZ,k0⟩ s out ⟨qF,h13,rfl,lQ⟩ H
 have H:ah.l3 m l0 i2 x5 (k+1) cZ k0=some out:=H
 refine qq <| qq ?_
 obtain⟨v8,D3,H⟩:=aJ H
 rcases dw H with⟨c8,H⟩| ⟨c8,H⟩
 ·obtain⟨v9,Fw,H⟩:=aJ H
  refine qr [.v 2 (aH (k:=.i64) (E:=aa) (l:=cZ) (q:=2) dC lQ rfl D3),.v 3 (bg  (E:=aa) (l:=cZ) (q:=2) lQ rfl A3 D3 rfl),.b 6 c8,.v 9 (aH (k:=.i64) (E:=aa) (l:=x5) (q:=0) dC lQ rfl Fw),.v 10 (bg  (E:=aa) (l:=x5) (q:=0) lQ rfl A3 Fw rfl)] <| qc H (fun c9 H=>?_) (fun c9 H=>?_)
  ·refine qk <| qq <| qb 7 <| qq ?_
   obtain⟨v10,FA,H⟩:=aJ H
   obtain⟨v11,He,H⟩:=aJ H
   obtain⟨v12,Fy,H⟩:=aJ H
   obtain⟨x6,Fz,H⟩:=aJ H
   refine qr [.v 2 (bo (k:=.i64) (E:=af) (l:=l0) kT FA),.v 3 (cO  (E:=af) (l:=l0) h13 ri rj FA),.v 7 (aH (k:=.i64) (E:=aa) (l:=x5) (q:=0) dC lQ rfl He),.v 8 (bg  (E:=aa) (l:=x5) (q:=0) lQ rfl A3 He rfl),.v 9 (bo (k:=.i64) (E:=af) (l:=l0) kT Fy),.v 10 (cO  (E:=af) (l:=l0) h13 ri rj Fy),.a 11 (ny _ _ _ Fz h13 _ (ga (ab (bQ (ab (aE) (ab (aE) (ab (bK) (ab (bS (E:=aa)) (ax)))))) (ab (bQ (ab (aE) (ab (aE) (ab (bK) (ab (bS (E:=aa)) (ax)))))) (ax)))))] <| qc H (fun uP H=>?_) (fun uP H=>?_)
   ·obtain⟨H5,Fx,H⟩:=aJ H
    obtain⟨zP,H6,H⟩:=aJ H
    obtain⟨mZ,KB,H⟩:=aJ H
    obtain⟨h14,Hg,AE⟩:=dJ (P:=Tryd.prog) (tf:=3) (E:=aa) (l:=cZ) (q:=2) (v:=zP) (x:=.int .i64 zP) lQ rfl Z3 KB rfl rfl
    exact qr [.v 5 (aH (k:=.i64) (E:=aa) (l:=x5) (q:=0) dC lQ rfl Fx),.v 6 (bg  (E:=aa) (l:=x5) (q:=0) lQ rfl A3 Fx rfl),.v 7 (aH (k:=.i64) (E:=aa) (l:=cZ) (q:=2) dC lQ rfl H6),.v 8 (bg  (E:=aa) (l:=cZ) (q:=2) lQ rfl A3 H6 rfl),.v 9 (aH (k:=.i64) (E:=aa) (l:=cZ) (q:=2) dC lQ rfl KB),.w 10 Hg] <| q0 <| ⟨(cZ.set i2.toNat zP,i64.wrap (k0+(1:Int))),⟨qF,h14,(XO (b:=⟨af.fz l0 :: .any :: .rs qF 0 cZ.length 1 :: .rs gW 0 dP.length 1 :: .any :: .rs qE 0 x5.length 1 :: .any :: .any :: .int .i64 i2 :: .int .i64 (i64.wrap (k0+(1:Int)))::E6 [],[],h14⟩) (by kernel_rfl) (by simp only [WW])),(by have o:Has h14 ((qE,.sl x5.length 1 (aa.l x5))::(gW,.sl dP.length 1 (cE.l dP))::(qF,.sl cZ.length 1 (aa.l (cZ.set i2.toNat zP)))::L):=AE; simpa only [WW] using o)⟩,H⟩
   ·exact qk <| q0 <| ⟨(cZ,i64.wrap (k0+(1:Int))),⟨qF,h13,by kernel_rfl,lQ⟩,H⟩
  ·exact qx 6 <| ⟨rfl,cZ,k0,oi H,.int .i64 k0,.bool (decide (v9<i2)),qF,h13,by kernel_rfl,lQ⟩
 ·exact qr [.v 2 (aH (k:=.i64) (E:=aa) (l:=cZ) (q:=2) dC lQ rfl D3),.v 3 (bg  (E:=aa) (l:=cZ) (q:=2) lQ rfl A3 D3 rfl),.b 6 c8] <| Dq <| qx 6 <| ⟨rfl,cZ,k0,oi H,.int .i64 k0,.bool false,qF,h13,by kernel_rfl,lQ⟩
theorem ah.pe (L:Mem)(l0:List ae)(gW:Nat)(dP:List Bool)(gW:Nat)  (ny:DJ cf m):bI Tryd.prog cf mE m (sub [1,1,1,1,1,0,1,0,0] (codeOf Tryd.f76)) (fun k (σ:(List Int) × (List Int) × Int)=>ah.l2 m l0 dP k σ.1 σ.2.1 σ.2.2) (fun σ s=>match σ with | (eC,jq,i2)=>∃lN iw h10,s=⟨af.fz l0 :: .any :: .rs iw 0 eC.length 1 :: .rs gW 0 dP.length 1 :: .any :: .rs lN 0 jq.length 1 :: .any :: .any :: .int .i64 i2::MC [],[],h10⟩∧Has h10 ((lN,.sl jq.length 1 (aa.l jq))::(gW,.sl dP.length 1 (cE.l dP))::(iw,.sl eC.length 1 (aa.l eC))::L)) (fun out e s=>(e = .exit 4∧∃eC jq i2,(eC,jq,i2)=out∧∃Dz tG QS lN iw h10,s=⟨af.fz l0 :: .any :: .rs iw 0 eC.length 1::Dz :: .any :: .rs lN 0 jq.length 1 :: .any :: .any::tG::uN (QS::Dk []),[],h10⟩∧Has h10 ((lN,.sl jq.length 1 (aa.l jq))::(gW,.sl dP.length 1 (cE.l dP))::(iw,.sl eC.length 1 (aa.l eC))::L))):=by
 refine gS (fun _=>rfl) ?_
 rintro k ⟨eC,jq,i2⟩ s out ⟨lN,iw,h10,rfl,lK⟩ H
 have H:ah.l2 m l0 dP (k+1) eC jq i2=some out:=H
 refine qq <| qq <| q0 <| qc H (fun c6 H=>?_) (fun c6 H=>?_)
 ·refine qk <| qq <| qb 5 <| qq <| qq ?_
  obtain⟨v6,xb,H⟩:=aJ H
  refine qr [.v 2 (aH (k:=.i64) (E:=cE) (l:=dP) (q:=1) Hb lK rfl xb),.v 3 (bg  (E:=cE) (l:=dP) (q:=1) lK rfl A4 xb rfl)] <| qc H (fun c7 H=>?_) (fun c7 H=>?_)
  ·exact qx 5 <| q0 <| ⟨(eC,jq,i64.wrap (i2+(1:Int))),⟨lN,iw,h10,by kernel_rfl,lK⟩,H⟩
  ·refine qk <| qq ?_
   obtain⟨x5,BZ,H⟩:=aJ H
   obtain⟨qE,h11,D4,yL⟩:=fY (P:=Tryd.prog) (E:=aa) (l:=jq) (q:=0) (t2:=42) (x:=.fz [.int .i64 i2] 1 true) (l2:=([i2])) dC lK rfl (by kernel_rfl) rfl BZ
   refine qr [.a 3 D4] <| qq ?_
   obtain⟨v7,D2,H⟩:=aJ H
   obtain⟨h12,Fv,zO⟩:=dJ (P:=Tryd.prog) (tf:=3) (E:=aa) (l:=eC) (q:=2) (v:=i2) (x:=.int .i64 i2) yL rfl Z3 D2 rfl rfl
   refine qr [.v 3 (aH (k:=.i64) (E:=aa) (l:=eC) (q:=2) dC yL rfl D2),.w 4 Fv] <| qq <| q0 <| qb 6 ?_
   obtain⟨jm,LB,H⟩:=aJ H
   refine ql (ah.tL L l0 gW dP gW i2 x5 qE  ny (eC.set i2.toNat i2,(0:Int)) _ _ ⟨iw,h12,(XO (b:=⟨af.fz l0 :: .any :: .rs iw 0 eC.length 1 :: .rs gW 0 dP.length 1 :: .any :: .rs qE 0 x5.length 1 :: .any :: .any :: .int .i64 i2 :: .int .i64 (0:Int)::E6 [],[],h12⟩) (by kernel_rfl) (by simp only [WW])),(by have o:Has h12 ((qE,.sl x5.length 1 (aa.l x5))::(gW,.sl dP.length 1 (cE.l dP))::(iw,.sl eC.length 1 (aa.l (eC.set i2.toNat i2)))::L):=zO; simpa only [WW] using o)⟩ LB) ?_
   rintro e s ⟨rfl,A7,k1,rfl,g9,g10,KQ,h15,rfl,DA⟩
   try dsimp only at H
   exact q0 <| ⟨(A7,x5,i64.wrap (i2+(1:Int))),⟨qE,KQ,h15,by kernel_rfl,DA⟩,H⟩
 ·exact qx 4 <| ⟨rfl,eC,jq,i2,oi H,.rs gW 0 dP.length 1,.int .i64 i2,.bool (decide (i2<(l0.length:Int))),lN,iw,h10,by kernel_rfl,lK⟩
theorem ah.Gv (L:Mem)(l0:List ae)(hX:Nat)(bF:List Int)(hX:Nat)(iK:Nat)(a6:List Int)(iK:Nat)(jw:Bool)(j0:Int)(lS:Int)  (mD:AZ cf m):bI Tryd.prog cf mE m (sub [1,1,1,1,1,1,0,1,0,0,1,0,1,1,1,0,1,0,0,1,0,0,1,1,0,1,0,0] (codeOf Tryd.f76)) (fun k (σ:(List Int) × Int)=>ah.l6 m l0 bF a6 j0 lS k σ.1 σ.2) (fun σ s=>match σ with | (cQ,k2)=>∃qG h21,s=⟨af.fz l0 :: .any :: .rs iK 0 a6.length 1 :: .any :: .any :: .rs hX 0 bF.length 1::re (.bool jw :: .rs qG 0 cQ.length 1 :: .int .i64 j0 :: .int .i64 lS :: .int .i64 k2::mS []),[],h21⟩∧Has h21 ((qG,.sl cQ.length 1 (aa.l cQ))::(hX,.sl bF.length 1 (aa.l bF))::(iK,.sl a6.length 1 (aa.l a6))::L)) (fun out e s=>(e = .exit 12∧∃cQ k2,(cQ,k2)=out∧∃tK NH qG h21,s=⟨af.fz l0 :: .any :: .rs iK 0 a6.length 1 :: .any :: .any :: .rs hX 0 bF.length 1::re (.bool jw :: .rs qG 0 cQ.length 1 :: .int .i64 j0 :: .int .i64 lS::tK::uN [NH,.any]),[],h21⟩∧Has h21 ((qG,.sl cQ.length 1 (aa.l cQ))::(hX,.sl bF.length 1 (aa.l bF))::(iK,.sl a6.length 1 (aa.l a6))::L))):=by
 refine gS (fun _=>rfl) ?_
 rintro k ⟨cQ,k2⟩ s out ⟨qG,h21,rfl,mW⟩ H
 have H:ah.l6 m l0 bF a6 j0 lS (k+1) cQ k2=some out:=H
 refine qq <| qq ?_
 obtain⟨S8,H9,H⟩:=aJ H
 rcases dw H with⟨og,H⟩| ⟨og,H⟩
 ·refine qr [.v 2 (aH (k:=.i64) (E:=aa) (l:=cQ) (q:=0) dC mW rfl H9),.v 3 (bg  (E:=aa) (l:=cQ) (q:=0) mW rfl A3 H9 rfl),.b 6 og] <| qc H (fun xL H=>?_) (fun xL H=>?_)
  ·refine qk <| qq <| qb 13 <| qq ?_
   obtain⟨S9,I6,H⟩:=aJ H
   obtain⟨v20,I7,H⟩:=aJ H
   obtain⟨v21,LF,H⟩:=aJ H
   rcases dw H with⟨D1,H⟩| ⟨D1,H⟩
   ·obtain⟨Ta,Tf,H⟩:=aJ H
    obtain⟨Tb,Tg,H⟩:=aJ H
    obtain⟨v24,Th,H⟩:=aJ H
    obtain⟨x8,Vd,H⟩:=aJ H
    refine qr [.v 2 (aH (k:=.i64) (E:=aa) (l:=a6) (q:=2) dC mW rfl I6),.v 3 (bg  (E:=aa) (l:=a6) (q:=2) mW rfl A3 I6 rfl),.v 7 (aH (k:=.i64) (E:=aa) (l:=bF) (q:=1) dC mW rfl I7),.v 8 (bg  (E:=aa) (l:=bF) (q:=1) mW rfl A3 I7 rfl),.v 9 (aH (k:=.i64) (E:=aa) (l:=a6) (q:=2) dC mW rfl LF),.v 10 (bg  (E:=aa) (l:=a6) (q:=2) mW rfl A3 LF rfl),.b 12 D1,.v 15 (bo (k:=.i64) (E:=af) (l:=l0) kT Tf),.v 16 (cO  (E:=af) (l:=l0) h21 ri rj Tf),.v 20 (aH (k:=.i64) (E:=aa) (l:=bF) (q:=1) dC mW rfl Tg),.v 21 (bg  (E:=aa) (l:=bF) (q:=1) mW rfl A3 Tg rfl),.v 22 (bo (k:=.i64) (E:=af) (l:=l0) kT Th),.v 23 (cO  (E:=af) (l:=l0) h21 ri rj Th),.a 25 (mD _ _ _ _ Vd h21 _ (ga (ab (bQ (ab (aE) (ab (aE) (ab (bK) (ab (bS (E:=aa)) (ax)))))) (ab (bQ (ab (aE) (ab (aE) (ab (bK) (ab (bS (E:=aa)) (ax)))))) (ab (s8 (E:=aa) (l:=a6) (q:=2) mW rfl (fun _=>rfl)) (ax))))))] ?_
    refine qc H (fun Ds H=>?_) (fun Ds H=>?_)
    ·obtain⟨Td,Tk,H⟩:=aJ H
     obtain⟨LI,Tm,H⟩:=aJ H
     obtain⟨Vc,To,H⟩:=aJ H
     obtain⟨h22,Ve,I8⟩:=dJ (P:=Tryd.prog) (tf:=3) (E:=aa) (l:=cQ) (q:=0) (v:=LI) (x:=.int .i64 LI) mW rfl Z3 To rfl rfl
     exact qr [.v 5 (aH (k:=.i64) (E:=aa) (l:=bF) (q:=1) dC mW rfl Tk),.v 6 (bg  (E:=aa) (l:=bF) (q:=1) mW rfl A3 Tk rfl),.v 7 (aH (k:=.i64) (E:=aa) (l:=cQ) (q:=0) dC mW rfl Tm),.v 8 (bg  (E:=aa) (l:=cQ) (q:=0) mW rfl A3 Tm rfl),.v 9 (aH (k:=.i64) (E:=aa) (l:=cQ) (q:=0) dC mW rfl To),.w 10 Ve] <| q0 <| ⟨(cQ.set lS.toNat LI,i64.wrap (k2+(1:Int))),⟨qG,h22,(XO (b:=⟨af.fz l0 :: .any :: .rs iK 0 a6.length 1 :: .any :: .any :: .rs hX 0 bF.length 1::re (.bool jw :: .rs qG 0 cQ.length 1 :: .int .i64 j0 :: .int .i64 lS :: .int .i64 (i64.wrap (k2+(1:Int)))::mS []),[],h22⟩) (by kernel_rfl) (by simp only [WW])),(by have o:Has h22 ((qG,.sl cQ.length 1 (aa.l (cQ.set lS.toNat LI)))::(hX,.sl bF.length 1 (aa.l bF))::(iK,.sl a6.length 1 (aa.l a6))::L):=I8; simpa only [WW] using o)⟩,H⟩
    ·exact qk <| q0 <| ⟨(cQ,i64.wrap (k2+(1:Int))),⟨qG,h21,by kernel_rfl,mW⟩,H⟩
   ·exact qr [.v 2 (aH (k:=.i64) (E:=aa) (l:=a6) (q:=2) dC mW rfl I6),.v 3 (bg  (E:=aa) (l:=a6) (q:=2) mW rfl A3 I6 rfl),.v 7 (aH (k:=.i64) (E:=aa) (l:=bF) (q:=1) dC mW rfl I7),.v 8 (bg  (E:=aa) (l:=bF) (q:=1) mW rfl A3 I7 rfl),.v 9 (aH (k:=.i64) (E:=aa) (l:=a6) (q:=2) dC mW rfl LF),.v 10 (bg  (E:=aa) (l:=a6) (q:=2) mW rfl A3 LF rfl),.b 12 D1] <| Dq <| qk <| q0 <| ⟨(cQ,i64.wrap (k2+(1:Int))),⟨qG,h21,by kernel_rfl,mW⟩,H⟩
  ·exact qx 12 <| ⟨rfl,cQ,k2,oi H,.int .i64 k2,.bool (decide (k2<j0)),qG,h21,by kernel_rfl,mW⟩
 ·exact qr [.v 2 (aH (k:=.i64) (E:=aa) (l:=cQ) (q:=0) dC mW rfl H9),.v 3 (bg  (E:=aa) (l:=cQ) (q:=0) mW rfl A3 H9 rfl),.b 6 og] <| Dq <| qx 12 <| ⟨rfl,cQ,k2,oi H,.int .i64 k2,.bool false,qG,h21,by kernel_rfl,mW⟩
theorem ah.Gw (L:Mem)(l0:List ae)(hX:Nat)(bF:List Int)(hX:Nat)(iK:Nat)(a6:List Int)(iK:Nat)  (mD:AZ cf m):bI Tryd.prog cf mE m (sub [1,1,1,1,1,1,0,1,0,0,1,0,1,1,1,0,1,0,0] (codeOf Tryd.f76)) (fun k (σ:Bool × (List Int) × Int)=>ah.l5 m l0 bF a6 k σ.1 σ.2.1 σ.2.2) (fun σ s=>match σ with | (jw,bR,j0)=>∃uV h19,s=⟨af.fz l0 :: .any :: .rs iK 0 a6.length 1 :: .any :: .any :: .rs hX 0 bF.length 1::re (.bool jw :: .rs uV 0 bR.length 1 :: .int .i64 j0::rE []),[],h19⟩∧Has h19 ((uV,.sl bR.length 1 (aa.l bR))::(hX,.sl bF.length 1 (aa.l bF))::(iK,.sl a6.length 1 (aa.l a6))::L)) (fun out e s=>(e = .exit 10∧∃jw bR j0,(jw,bR,j0)=out∧∃tu nQ NI uV h19,s=⟨af.fz l0 :: .any::tu :: .any :: .any :: .rs hX 0 bF.length 1::re (.bool jw :: .rs uV 0 bR.length 1::nQ::oV [NI,.any,.any]),[],h19⟩∧Has h19 ((uV,.sl bR.length 1 (aa.l bR))::(hX,.sl bF.length 1 (aa.l bF))::(iK,.sl a6.length 1 (aa.l a6))::L))):=by
 refine gS (fun _=>rfl) ?_
 rintro k ⟨jw,bR,j0⟩ s out ⟨uV,h19,rfl,H8⟩ H
 have H:ah.l5 m l0 bF a6 (k+1) jw bR j0=some out:=H
 refine qq <| qq <| q0 <| qc H (fun rH H=>?_) (fun rH H=>?_)
 ·refine qk <| qq <| qb 11 <| qq ?_
  obtain⟨lS,KD,H⟩:=aJ H
  refine qr [.v 2 (aH (k:=.i64) (E:=aa) (l:=bF) (q:=1) dC H8 rfl KD),.v 3 (bg  (E:=aa) (l:=bF) (q:=1) H8 rfl A3 KD rfl)] <| qq ?_
  obtain⟨LJ,LD,H⟩:=aJ H
  obtain⟨h20,Nj,Nk⟩:=dJ (P:=Tryd.prog) (tf:=3) (E:=aa) (l:=bR) (q:=0) (v:=lS) (x:=.int .i64 lS) H8 rfl Z3 LD rfl rfl
  refine qr [.v 3 (aH (k:=.i64) (E:=aa) (l:=bR) (q:=0) dC H8 rfl LD),.w 4 Nj] <| qq <| qq <| q0 <| qb 12 ?_
  obtain⟨cP,Vf,H⟩:=aJ H
  refine ql (ah.Gv L l0 hX bF hX iK a6 iK jw j0 lS  mD (bR.set lS.toNat lS,(0:Int)) _ _ ⟨uV,h20,(XO (b:=⟨af.fz l0 :: .any :: .rs iK 0 a6.length 1 :: .any :: .any :: .rs hX 0 bF.length 1::re (.bool jw :: .rs uV 0 bR.length 1 :: .int .i64 j0 :: .int .i64 lS :: .int .i64 (0:Int)::mS []),[],h20⟩) (by kernel_rfl) (by simp only [WW])),(by have o:Has h20 ((uV,.sl bR.length 1 (aa.l (bR.set lS.toNat lS)))::(hX,.sl bF.length 1 (aa.l bF))::(iK,.sl a6.length 1 (aa.l a6))::L):=Nk; simpa only [WW] using o)⟩ Vf) ?_
  rintro e s ⟨rfl,rr,k3,rfl,g14,g15,NJ,h23,rfl,Hh⟩
  try dsimp only at H
  rcases dw H with⟨Jh,H⟩| ⟨Jh,H⟩
  ·exact qr [.b 1 Jh] <| q0 <| ⟨(true,rr,i64.wrap (j0+(1:Int))),⟨NJ,h23,by kernel_rfl,Hh⟩,H⟩
  ·obtain⟨v28,Tp,H⟩:=aJ H
   obtain⟨QQ,Tq,H⟩:=aJ H
   exact qr [.b 1 Jh,.v 4 (aH (k:=.i64) (E:=aa) (l:=rr) (q:=0) dC Hh rfl Tp),.v 5 (bg  (E:=aa) (l:=rr) (q:=0) Hh rfl A3 Tp rfl),.v 8 (aH (k:=.i64) (E:=aa) (l:=a6) (q:=2) dC Hh rfl Tq),.v 9 (bg  (E:=aa) (l:=a6) (q:=2) Hh rfl A3 Tq rfl)] <| q0 <| ⟨(!(v28==QQ),rr,i64.wrap (j0+(1:Int))),⟨NJ,h23,by kernel_rfl,Hh⟩,H⟩
 ·exact qx 10 <| ⟨rfl,jw,bR,j0,oi H,.rs iK 0 a6.length 1,.int .i64 j0,.bool (decide (j0<(bF.length:Int))),uV,h19,by kernel_rfl,H8⟩
theorem ah.tM (L:Mem)(l0:List ae)(hX:Nat)(bF:List Int)(hX:Nat)  (mD:AZ cf m):bI Tryd.prog cf mE m (sub [1,1,1,1,1,1,0,1,0,0] (codeOf Tryd.f76)) (fun k (σ:(List Int) × Bool)=>ah.l4 m l0 bF k σ.1 σ.2) (fun σ s=>match σ with | (a6,nA)=>∃iK h17,s=⟨af.fz l0 :: .any :: .rs iK 0 a6.length 1 :: .any :: .any :: .rs hX 0 bF.length 1::re (.bool nA::Dl []),[],h17⟩∧Has h17 ((hX,.sl bF.length 1 (aa.l bF))::(iK,.sl a6.length 1 (aa.l a6))::L)) (fun out e s=>(e = .exit 8∧∃a6 nA,(a6,nA)=out∧∃kp AJ Fh Gx iK h17,s=⟨kp :: .any :: .rs iK 0 a6.length 1 :: .any :: .any::AJ::re (Fh::mS (Gx::jW [])),[],h17⟩∧Has h17 ((hX,.sl bF.length 1 (aa.l bF))::(iK,.sl a6.length 1 (aa.l a6))::L))):=by
 refine gS (fun _=>rfl) ?_
 rintro k ⟨a6,nA⟩ s out ⟨iK,h17,rfl,xh⟩ H
 have H:ah.l4 m l0 bF (k+1) a6 nA=some out:=H
 refine qq <| qq <| q0 <| qc H (fun qm H=>?_) (fun qm H=>?_)
 ·refine qk <| qb 9 <| qq <| q0 <| qq <| q0 ?_
  have FO:Has h17 (((((0))),.sl (([]:List Int).length) 1 (aa.l ([]:List Int)))::(hX,.sl bF.length 1 (aa.l bF))::(iK,.sl a6.length 1 (aa.l a6))::L):=Has.nil xh 1
  refine qq ?_
  obtain⟨x7,Nh,H⟩:=aJ H
  obtain⟨QT,h18,Ni,D5⟩:=fY (P:=Tryd.prog) (E:=aa) (l:=([]:List Int)) (q:=0) (t2:=42) (x:=.rs iK 0 a6.length 1) (l2:=a6) dC FO rfl (Dh (E:=aa) (l:=a6) (q:=2) FO rfl) rfl Nh
  refine qr [.a 2 Ni] <| qq <| qq <| q0 <| qb 10 ?_
  obtain⟨yW,Vg,H⟩:=aJ H
  refine ql (ah.Gw L l0 hX bF hX iK a6 iK  mD (false,x7,(0:Int)) _ _ ⟨QT,h18,by kernel_rfl,D5⟩ Vg) ?_
  rintro e s ⟨rfl,Gu,zh,j1,rfl,g16,g17,g18,NK,h24,rfl,Nl⟩
  try dsimp only at H
  refine q0 ?_
  have Nn:Has h24 ((NK,.sl zh.length 1 (aa.l zh))::(hX,.sl bF.length 1 (aa.l bF))::L):=Has.del Nl 2
  exact⟨(zh,Gu),⟨NK,h24,by kernel_rfl,(Has.front (Has.front Nn 0 rfl) 1 rfl)⟩,H⟩
 ·exact qx 8 <| ⟨rfl,a6,nA,oi H,af.fz l0,.rs hX 0 bF.length 1,.any,.bool nA,iK,h17,by kernel_rfl,xh⟩
theorem nX {aS:FuncId→cg}(ha:aS 76=mE)(zi:Iq cf m)(zj:Ir cf m)(ny:DJ cf m)(mD:AZ cf m)(l0:List ae)(h:AHeap)(L:Mem)  (o:Has h (L)){out:(List Int)}(H:ah.f m l0=some out) :
  ∃r h',a7 Tryd.prog aS cf m 76 [af.fz l0] h=some (r,h')∧fB h' r (aa.fz out):=by
 refine ak (fn:=Tryd.f76) ha Tryd.func76 (by kernel_rfl) (by kernel_rfl) ?_
 refine aF (Q:=fun s=>ah.fin L out s) (fun _ _ h=>h) ?_
 have H:_=some out:=H
 unfold ah.f at H
 show de _ cf mE m _ ⟨af.fz l0::Pz [],[],h⟩ _
 refine q1 <| qq ?_
 obtain⟨x0,e0,H⟩:=aJ H
 obtain⟨aB,h0,e1,o0⟩:=nM (P:=Tryd.prog) (E:=aa) (z:=(0:Int)) (zv:=.int .i64 (0:Int)) dC o 3 rfl rfl rfl rfl e0
 refine qr [.a 2 e1] <| qq ?_
 obtain⟨x1,e2,H⟩:=aJ H
 obtain⟨gF,h1,e3,o1⟩:=nM (P:=Tryd.prog) (E:=cE) (z:=false) (zv:=.bool false) Hb o0 4 rfl rfl rfl rfl e2
 refine qr [.a 2 e3] <| qq <| q0 ?_
 have o2:Has h1 (((0),.sl (([]:List Int).length) 1 (aa.l ([]:List Int)))::(gF,.sl x1.length 1 (cE.l x1))::(aB,.sl x0.length 1 (aa.l x0))::L):=Has.nil o1 1
 have o3:Has h1 ((((0)),.sl (([]:List Int).length) 1 (aa.l ([]:List Int)))::((0),.sl (([]:List Int).length) 1 (aa.l ([]:List Int)))::(gF,.sl x1.length 1 (cE.l x1))::(aB,.sl x0.length 1 (aa.l x0))::L):=Has.nil o2 1
 refine qq <| qq <| q0 <| qb 0 ?_
 obtain⟨cq,BY,H⟩:=aJ H
 refine ql (ah.bG L l0  zi zj (x0,x1,([]:List Int),true) _ _ ⟨.any,.any,(0),gF,aB,h1,by kernel_rfl,o3⟩ BY) ?_
 rintro e s ⟨rfl,ug,dP,Is,NF,rfl,g4,g5,g6,g7,g8,fP,gW,jT,h9,rfl,vB⟩
 try dsimp only at H
 refine qq <| qq <| q0 ?_
 have tI:Has h9 ((((0)),.sl (([]:List Int).length) 1 (aa.l ([]:List Int)))::(gW,.sl dP.length 1 (cE.l dP))::(jT,.sl ug.length 1 (aa.l ug))::L):=Has.del vB 1
 refine qb 4 ?_
 obtain⟨pc,LC,H⟩:=aJ H
 refine ql (ah.pe L l0 gW dP gW  ny (ug,([]:List Int),(0:Int)) _ _ ⟨((0)),jT,h9,by kernel_rfl,tI⟩ LC) ?_
 rintro e s ⟨rfl,uh,bF,i3,rfl,g11,g12,g13,hX,NL,h16,rfl,DB⟩
 try dsimp only at H
 refine qq <| qq <| q0 ?_
 have KC:Has h16 ((hX,.sl bF.length 1 (aa.l bF))::(NL,.sl uh.length 1 (aa.l uh))::L):=Has.del DB 1
 refine qb 8 ?_
 obtain⟨gE,Vh,H⟩:=aJ H
 refine ql (ah.tM L l0 hX bF hX  mD (uh,true) _ _ ⟨NL,h16,by kernel_rfl,KC⟩ Vh) ?_
 rintro e s ⟨rfl,qD,NG,rfl,g19,g20,g21,g22,NM,h25,rfl,Ol⟩
 try dsimp only at H
 refine q1 ?_
 have Qf:Has h25 ((NM,.sl qD.length 1 (aa.l qD))::L):=Has.del Ol 0
 obtain rfl:=oi H
 exact qt <| ⟨.inl rfl,bZ (.rs NM 0 qD.length 1) h25 (bX (yB (E:=aa) (l:=qD) (q:=0) Qf rfl (fun _=>rfl)))⟩
end
end Go.Proofs.YtmekcfdllhphlaaDoor
namespace Go.Proofs.YtmekcfdllhphlaaDoor
open Go Go.R
open Go.IntKind (i64 u64 u8 u32)
def gb (l:List Bool)(k:Nat):Bool:=l.getD k false
theorem It {l:List Bool}{k:Nat}(h:k<l.length):l[k]? = some (gb l k):=by
 unfold gb; rw [W7,W2 h]; rfl
theorem Cn {l:List Bool}{i:Int}(h0:0≤i)(h:i.toNat<l.length):ix l i=some (gb l i.toNat):=by
 unfold ix; rw [if_pos h0,It h]
theorem Gy {l:List Bool}{i k:Nat}{x:Bool}(hi:i<l.length):gb (l.set i x) k=if k=i then x else gb l k:=by
 unfold gb
 simp only [W7,Ya]
 by_cases h:i=k
 ·subst h; simp [hi]
 ·rw [if_neg h,if_neg (by omega)]
def ar (l:List ae)(i k:Nat):Nat:=(gt (nd l i).args k).toNat
def na (l:List ae)(i:Nat):Nat:=(nd l i).args.length
theorem kh {l:List ae}(ok:kP l){i k:Nat}(hi:i<l.length)(hk:k<na l i):ar l i k<l.length∧gt (nd l i).args k=(ar l i k:Int):=by
 obtain⟨h0,h1⟩:=(yY ok hi).2 _ (aM (l:=(nd l i).args) (k:=k) hk)
 unfold ar; omega
theorem Co {l:List ae}(ok:kP l){i:Nat}(hi:i<l.length):na l i≤8:=(yY ok hi).1
theorem ui {m:Nat}(a b:ae):∃x,eZ.f m a b=some x∧(x=true↔Alike a b):=by
 unfold eZ.f
 by_cases h1:a.kind=b.kind
 ·rw [if_pos (by simpa using h1)]
  by_cases h2:a.int=b.int
  ·rw [if_pos (by simpa using h2)]
   by_cases h3:a.label=b.label
   ·rw [if_pos (by rw [h3]; simp)]
    refine⟨_,rfl,⟨fun h=>⟨h1,h2,h3,by have:=beq_iff_eq.1 h; omega⟩,fun h=>by have:=h.len; rw [beq_iff_eq]; omega⟩⟩
   ·rw [if_neg (fun h=>h3 (AR (by simpa using h)))]
    exact⟨_,rfl,⟨fun h=>(by cases h),fun h=>absurd h.label h3⟩⟩
  ·rw [if_neg (by simpa using h2)]
   exact⟨_,rfl,⟨fun h=>(by cases h),fun h=>absurd h.int h2⟩⟩
 ·rw [if_neg (by simpa using h1)]
  exact⟨_,rfl,⟨fun h=>(by cases h),fun h=>absurd h.kind h1⟩⟩
def SA (l:List ae)(c:List Int)(i j:Nat):Prop:=∀k,k<na l i→gt c (ar l i k)=gt c (ar l j k)
theorem Ji {m:Nat}{l:List ae}{c:List Int}(ok:kP l)(hc:c.length=l.length){i j:Nat}(hi:i<l.length)(hj:j<l.length)(hl:na l i=na l j):∀(f k:Nat),na l i - k<f→k≤na l i→
  ∃o,bh.l0 m (nd l i) (nd l j) c f (k:Int)=some o∧((∃x,o = .inr x)∧(∀q,k≤q→q<na l i→gt c (ar l i q)=gt c (ar l j q))∨o = .inl false∧∃q,q<na l i∧gt c (ar l i q)≠gt c (ar l j q))
 | 0,k,hf,_=>absurd hf (by omega)
 | f+1,k,hf,hk=>by
  have h8:=Co ok hi
  unfold bh.l0
  by_cases h:k<na l i
  ·obtain⟨a1,a2⟩:=kh ok hi h
   obtain⟨b1,b2⟩:=kh ok hj (show k<na l j by omega)
   have e1:ix c (gt (nd l i).args k)=some (gt c (ar l i k)):=gd a2 (by omega)
   have e2:ix c (gt (nd l j).args k)=some (gt c (ar l j k)):=gd b2 (by omega)
   rw [if_pos (by simp only [decide_eq_true_eq]; unfold na at h; omega),cC (l:=(nd l i).args) h,WL,e1,WL,cC (l:=(nd l j).args) (show k<(nd l j).args.length by unfold na at hl h; omega),WL,e2,WL]
   by_cases e:gt c (ar l i k)=gt c (ar l j k)
   ·obtain⟨o,k1,k2⟩:=Ji (m:=m) ok hc hi hj hl f (k+1) (by omega) (by omega)
    rw [if_neg (by simp [e]),aD (by omega) (by omega),show (k:Int)+1=((k+1:Nat):Int) by omega,k1]
    refine⟨o,rfl,k2.imp (fun ⟨x,y⟩=>⟨x,fun q q1 q2=>?_⟩) id⟩
    by_cases hq:q=k
    ·subst hq; exact e
    ·exact y q (by omega) q2
   ·rw [if_pos (by simpa using e)]
    exact⟨_,rfl,.inr ⟨rfl,k,h,e⟩⟩
  ·refine⟨_,by rw [if_neg (by simp only [decide_eq_true_eq]; unfold na at h; omega)],.inl ⟨⟨_,rfl⟩,fun q q1 q2=>absurd q2 (by omega)⟩⟩
theorem Cp {m:Nat}(hm:2 ^ 30≤m){l:List ae}{c:List Int}(ok:kP l)(hc:c.length=l.length){i j:Nat}(hi:i<l.length)(hj:j<l.length)(hl:na l i=na l j):∃x,bh.f m (nd l i) (nd l j) c=some x∧(x=true↔SA l c i j):=by
 have lR:(2:Nat) ^ 30=1073741824:=by decide
 have h8:=Co ok hi
 obtain⟨o,k1,k2⟩:=Ji (m:=m) ok hc hi hj hl m 0 (by omega) (by omega)
 have k1:bh.l0 m (nd l i) (nd l j) c m 0=_:=k1
 unfold bh.f
 rw [k1,WL]
 rcases k2 with⟨⟨x,rfl⟩,k⟩| ⟨rfl,q,q1,q2⟩
 ·exact⟨true,rfl,⟨fun _ k0 hk=>k k0 (by omega) hk,fun _=>rfl⟩⟩
 ·exact⟨false,rfl,⟨fun h=>(by cases h),fun h=>absurd (h q q1) q2⟩⟩
def Ts (l:List ae)(dn:List Bool)(i:Nat):Prop:=∀k,k<na l i→gb dn (ar l i k)=true
theorem Gz {m:Nat}{l:List ae}{dn:List Bool}(ok:kP l)(hd:dn.length=l.length){i:Nat}(hi:i<l.length):∀(f k:Nat),na l i - k<f→k≤na l i→
  ∃o,b6.l0 m (nd l i) dn f (k:Int)=some o∧((∃x,o = .inr x)∧(∀q,k≤q→q<na l i→gb dn (ar l i q)=true)∨o = .inl false∧∃q,q<na l i∧gb dn (ar l i q)=false)
 | 0,k,hf,_=>absurd hf (by omega)
 | f+1,k,hf,hk=>by
  have h8:=Co ok hi
  unfold b6.l0
  by_cases h:k<na l i
  ·obtain⟨a1,a2⟩:=kh ok hi h
   have e1:ix dn (gt (nd l i).args k)=some (gb dn (ar l i k)):=by
    have:=Cn (l:=dn) (i:=gt (nd l i).args k) (by omega) (by rw [a2,WT]; omega)
    rw [this,a2,WT]
   rw [if_pos (by simp only [decide_eq_true_eq]; unfold na at h; omega),cC (l:=(nd l i).args) h,WL,e1,WL]
   cases e:gb dn (ar l i k) with
   | true=>
    obtain⟨o,k1,k2⟩:=Gz (m:=m) ok hd hi f (k+1) (by omega) (by omega)
    rw [if_neg (by simp),aD (by omega) (by omega),show (k:Int)+1=((k+1:Nat):Int) by omega,k1]
    refine⟨o,rfl,k2.imp (fun ⟨x,y⟩=>⟨x,fun q q1 q2=>?_⟩) id⟩
    by_cases hq:q=k
    ·subst hq; exact e
    ·exact y q (by omega) q2
   | false=>exact⟨_,rfl,.inr ⟨rfl,k,h,e⟩⟩
  ·refine⟨_,by rw [if_neg (by simp only [decide_eq_true_eq]; unfold na at h; omega)],.inl ⟨⟨_,rfl⟩,fun q q1 q2=>absurd q2 (by omega)⟩⟩
theorem GA {m:Nat}(hm:2 ^ 30≤m){l:List ae}{dn:List Bool}(ok:kP l)(hd:dn.length=l.length){i:Nat}(hi:i<l.length):∃x,b6.f m (nd l i) dn=some x∧(x=true→Ts l dn i)∧(x=false→∃q,q<na l i∧gb dn (ar l i q)=false):=by
 have lR:(2:Nat) ^ 30=1073741824:=by decide
 have h8:=Co ok hi
 obtain⟨o,k1,k2⟩:=Gz (m:=m) ok hd hi m 0 (by omega) (by omega)
 have k1:b6.l0 m (nd l i) dn m 0=_:=k1
 unfold b6.f
 rw [k1,WL]
 rcases k2 with⟨⟨x,rfl⟩,k⟩| ⟨rfl,hq⟩
 ·exact⟨true,rfl,fun _ k0 hk=>k k0 (by omega) hk,fun h=>by cases h⟩
 ·exact⟨false,rfl,fun h=>(by cases h),fun _=>hq⟩
def ru (l:List ae)(c:List Int)(i j:Nat):Prop:=Alike (nd l i) (nd l j)∧SA l c i j
theorem Cq {m:Nat}(hm:2 ^ 30≤m){l:List ae}{c fs:List Int}(ok:kP l)(hc:c.length=l.length){i:Nat}(hi:i<l.length)(hf:∀f∈fs,0≤f∧f<l.length)(J5:fs.length≤8000):∀(f k:Nat),fs.length - k<f→k≤fs.length→
  ∃o,cb.l0 m l fs (i:Int) c f (k:Int)=some o∧((∃x,o = .inr x)∧(∀q,k≤q→q<fs.length→¬ru l c i (gt fs q).toNat)∨∃v,o = .inl v∧v∈fs∧ru l c i v.toNat)
 | 0,k,h,_=>absurd h (by omega)
 | f+1,k,h,hk=>by
  unfold cb.l0
  by_cases Hr:k<fs.length
  ·obtain⟨b0,b1⟩:=hf _ (aM Hr)
   have NN:((gt fs k).toNat:Int)=gt fs k:=by omega
   obtain⟨xa,a1,a2⟩:=ui (m:=m) (nd l (i:Int)) (nd l (gt fs k))
   have ih:=Cq hm ok hc hi hf J5 f (k+1) (by omega) (by omega)
   obtain⟨o,k1,k2⟩:=ih
   have next:¬ru l c i (gt fs k).toNat→∃o',(cb.l0 m l fs (i:Int) c f (i64.wrap ((k:Int)+1)))=some o'∧((∃x,o' = .inr x)∧(∀q,k≤q→q<fs.length→¬ru l c i (gt fs q).toNat)∨∃v,o' = .inl v∧v∈fs∧ru l c i v.toNat):=fun hn=>by
    rw [aD (by omega) (by omega),show (k:Int)+1=((k+1:Nat):Int) by omega,k1]
    refine⟨o,rfl,k2.imp (fun ⟨x,y⟩=>⟨x,fun q q1 q2=>?_⟩) id⟩
    by_cases hq:q=k
    ·subst hq; exact hn
    ·exact y q (by omega) q2
   rw [if_pos (by simp only [decide_eq_true_eq]; omega),hU (by omega) (by omega),WL,cC Hr,WL,hU b0 b1,WL,a1,WL]
   cases xa with
   | false=>
    rw [if_neg (by simp)]
    refine next fun hs=>?_
    have:=a2.2 (by have:=hs.1; rw [NN] at this; exact this)
    cases this
   | true=>
    have hA:=a2.1 rfl
    have hl:na l i=na l (gt fs k).toNat:=by unfold na; rw [NN]; exact hA.len
    obtain⟨xs,s1,s2⟩:=Cp hm ok hc hi (j:=(gt fs k).toNat) (by omega) hl
    rw [NN] at s1
    rw [if_pos rfl,WL,WL,hU b0 b1,WL,s1,WL]
    cases xs with
    | false=>
     rw [if_neg (by simp)]
     refine next fun hs=>?_
     have:=s2.2 hs.2; cases this
    | true=>
     exact⟨_,rfl,.inr ⟨_,rfl,aM Hr,by rw [NN]; exact hA,s2.1 rfl⟩⟩
  ·exact⟨_,by rw [if_neg (by simp only [decide_eq_true_eq]; omega)],.inl ⟨⟨_,rfl⟩,fun q q1 q2=>absurd q2 (by omega)⟩⟩
theorem find_spec {m:Nat}(hm:2 ^ 30≤m){l:List ae}{c fs:List Int}(ok:kP l)(hc:c.length=l.length){i:Nat}(hi:i<l.length)(hf:∀f∈fs,0≤f∧f<l.length)(J5:fs.length≤8000) :
  ∃v,cb.f m l fs (i:Int) c=some v∧(v=i∧(∀f∈fs,¬ru l c i f.toNat)∨v∈fs∧ru l c i v.toNat):=by
 have lR:(2:Nat) ^ 30=1073741824:=by decide
 obtain⟨o,k1,k2⟩:=Cq hm ok hc hi hf J5 m 0 (by omega) (by omega)
 have k1:cb.l0 m l fs (i:Int) c m 0=_:=k1
 unfold cb.f
 rw [k1,WL]
 rcases k2 with⟨⟨x,rfl⟩,k⟩| ⟨v,rfl,hv,hs⟩
 ·refine⟨_,rfl,.inl ⟨rfl,fun f hf=>?_⟩⟩
  obtain⟨q,hq,e⟩:=eR hf
  rw [←e]; exact k q (by omega) hq
 ·exact⟨v,rfl,.inr ⟨hv,hs⟩⟩
end Go.Proofs.YtmekcfdllhphlaaDoor
namespace Go.Proofs.YtmekcfdllhphlaaDoor
open Go Go.R
open Go.IntKind (i64 u64 u8 u32)
def vO:cg:=gk [0,1,4,5,6,7,8,9,19,34,50] [] [2044,2036,1988,1990,1734,1926,1926,1414,1926,1926,1798,774,1798,1798,2043] [] [(2,[(6,none,1),(7,none,1)])]
def aK.l1 (m:Nat)(l0:List ae)(v0:Int):Nat→(List Int)→Int→Option ((List Int) × Int)
 | 0,_,_=>none
 | k+1,gf,i0=>if (decide (i0≥(0:Int)))=true then ((ix l0 v0).bind fun v5=>(ix v5.args i0).bind fun v6=>(app 8 gf ([v6])).bind fun x3=>aK.l1 m l0 v0 k x3 (i64.wrap (i0 - (1:Int)))) else (some ((gf,i0)))
def aK.l0 (m:Nat)(l0:List ae):Nat→(List Bool)→(List Int)→(List Int)→Option ((List Bool) × (List Int) × (List Int))
 | 0,_,_,_=>none
 | k+1,fi,bq,fj=>if (decide ((fj.length:Int) > (0:Int)))=true then ((ix fj (i64.wrap ((fj.length:Int) - (1:Int)))).bind fun v0=>(pL fj 0 (i64.wrap ((fj.length:Int) - (1:Int)))).bind fun v1=>(ix fi v0).bind fun v2=>if v2=true then (aK.l0 m l0 k fi bq v1) else ((ix fi v0).bind fun v3=>(app 8 bq ([v0])).bind fun x2=>(ix l0 v0).bind fun v4=>(aK.l1 m l0 v0 m v1 (i64.wrap ((v4.args.length:Int) - (1:Int)))).bind fun cq=>match cq with | (qH,i1)=>aK.l0 m l0 k (fi.set v0.toNat true) x2 qH)) else (some ((fi,bq,fj)))
def aK.f (m:Nat)(l0:List ae)(gG:Int):Option ((List Int)):=(uL 1 (l0.length:Int) false).bind fun x0=>(app 8 ([]:List Int) ([gG])).bind fun x1=>(aK.l0 m l0 m x0 ([]:List Int) x1).bind fun pc=>match pc with | (QU,jm,A8)=>some jm
def aK.fin (L:Mem)(r:(List Int))(s:St):Prop:=∃av,aI Tryd.prog (s.open vO) Tryd.f75.results.toList=some av∧fB s.h av (aa.fz r)
def Tt (cf:CallF)(m:Nat):Prop:=∀(l0:List ae) (gG:Int) (r:(List Int)),aK.f m l0 gG=some r→∀h xs,ej eL h xs [af.fz l0,.int .i64 gG]→cf 75 xs h=some (aa.fz r,h)
section
variable {cf:CallF}{m:Nat}
theorem aK.fu (L:Mem)(l0:List ae)(dj:Nat)(fi:List Bool)(dj:Nat)(v0:Int)(x2:List Int)(gU:Nat)   : bI Tryd.prog cf vO m (sub [1,1,1,1,0,0,0,1,0,1,1,1,1,1,1,0,0] (codeOf Tryd.f75)) (fun k (σ:(List Int) × Int)=>aK.l1 m l0 v0 k σ.1 σ.2) (fun σ s=>match σ with | (gf,i0)=>∃gV h5,s=⟨af.fz l0 :: .any :: .any :: .rs dj 0 fi.length 1 :: .rs gU 0 x2.length 1 :: .rs gV 0 gf.length 1 :: .int .i64 v0 :: .int .i64 i0::jW [],[],h5⟩∧Has h5 ((gV,.sl gf.length 1 (aa.l gf))::(gU,.sl x2.length 1 (aa.l x2))::(dj,.sl fi.length 1 (cE.l (fi.set v0.toNat true)))::L)) (fun out e s=>(e = .exit 2∧∃gf i0,(gf,i0)=out∧∃qn tG KR gV h5,s=⟨[af.fz l0,.any,.any,.rs dj 0 fi.length 1,.rs gU 0 x2.length 1,.rs gV 0 gf.length 1,qn,tG,.any,.any,KR],[],h5⟩∧Has h5 ((gV,.sl gf.length 1 (aa.l gf))::(gU,.sl x2.length 1 (aa.l x2))::(dj,.sl fi.length 1 (cE.l (fi.set v0.toNat true)))::L))):=by
 refine gS (fun _=>rfl) ?_
 rintro k ⟨gf,i0⟩ s out ⟨gV,h5,rfl,o8⟩ H
 have H:aK.l1 m l0 v0 (k+1) gf i0=some out:=H
 refine qq <| qq <| q0 <| qc H (fun c2 H=>?_) (fun c2 H=>?_)
 ·refine qk <| qq <| qb 3 ?_
  obtain⟨v5,si,H⟩:=aJ H
  obtain⟨v6,sj,H⟩:=aJ H
  obtain⟨x3,uS,H⟩:=aJ H
  obtain⟨iy,h6,uz,o9⟩:=fY (P:=Tryd.prog) (E:=aa) (l:=gf) (q:=0) (t2:=42) (x:=.fz [.int .i64 v6] 1 true) (l2:=([v6])) dC o8 rfl (by kernel_rfl) rfl uS
  exact qr [.v 3 (bo (k:=.i64) (E:=af) (l:=l0) kT si),.v 5 (js  (E:=af) (l:=l0) (off:=3) h5 Kl si rfl),.v 7 (bo (k:=.i64) (E:=aa) (l:=v5.args) dC sj),.v 8 (cY  (E:=aa) (l:=v5.args) h5 A3 sj rfl),.a 10 uz] <| q0 <| ⟨(x3,i64.wrap (i0 - (1:Int))),⟨iy,h6,(XO (b:=⟨af.fz l0 :: .any :: .any :: .rs dj 0 fi.length 1 :: .rs gU 0 x2.length 1 :: .rs iy 0 x3.length 1 :: .int .i64 v0 :: .int .i64 (i64.wrap (i0 - (1:Int)))::jW [],[],h6⟩) (by kernel_rfl) (by simp only [WW])),(by have o:Has h6 ((iy,.sl x3.length 1 (aa.l x3))::(gU,.sl x2.length 1 (aa.l x2))::(dj,.sl fi.length 1 (cE.l (fi.set v0.toNat true)))::L):=o9; simpa only [WW] using o)⟩,H⟩
 ·exact qx 2 <| ⟨rfl,gf,i0,oi H,.int .i64 v0,.int .i64 i0,.bool (decide (i0≥(0:Int))),gV,h5,(XO (b:=⟨[af.fz l0,.any,.any,.rs dj 0 fi.length 1,.rs gU 0 x2.length 1,.rs gV 0 gf.length 1,.int .i64 v0,.int .i64 i0,.any,.any,.bool (decide (i0≥(0:Int)))],[],h5⟩) (by kernel_rfl) (by simp only [WW])),(by have o:Has h5 ((gV,.sl gf.length 1 (aa.l gf))::(gU,.sl x2.length 1 (aa.l x2))::(dj,.sl fi.length 1 (cE.l (fi.set v0.toNat true)))::L):=o8; simpa only [WW] using o)⟩
theorem aK.bG (L:Mem)(l0:List ae)   : bI Tryd.prog cf vO m (sub [1,1,1,1,0,0,0] (codeOf Tryd.f75)) (fun k (σ:(List Bool) × (List Int) × (List Int))=>aK.l0 m l0 k σ.1 σ.2.1 σ.2.2) (fun σ s=>match σ with | (fi,bq,fj)=>∃g0 g1 g2 g3 gX fA dj h2,s=⟨[af.fz l0,.any,.any,.rs dj 0 fi.length 1,.rs fA 0 bq.length 1,.rs gX 0 fj.length 1,g0,g1,.any,g2,g3],[],h2⟩∧Has h2 ((gX,.sl fj.length 1 (aa.l fj))::(fA,.sl bq.length 1 (aa.l bq))::(dj,.sl fi.length 1 (cE.l fi))::L)) (fun out e s=>(e = .exit 0∧∃fi bq fj,(fi,bq,fj)=out∧∃kp xi tF qn tG KS Fs KR gX fA dj h2,s=⟨[kp,.any,.any,xi,.rs fA 0 bq.length 1,tF,qn,tG,KS,Fs,KR],[],h2⟩∧Has h2 ((gX,.sl fj.length 1 (aa.l fj))::(fA,.sl bq.length 1 (aa.l bq))::(dj,.sl fi.length 1 (cE.l fi))::L))):=by
 refine gS (fun _=>rfl) ?_
 rintro k ⟨fi,bq,fj⟩ s out ⟨g0,g1,g2,g3,gX,fA,dj,h2,rfl,o4⟩ H
 have H:aK.l0 m l0 (k+1) fi bq fj=some out:=H
 refine qq <| qq <| q0 <| qc H (fun c0 H=>?_) (fun c0 H=>?_)
 ·refine qk <| qb 1 <| qq ?_
  obtain⟨v0,e4,H⟩:=aJ H
  refine qr [.v 4 (aH (k:=.i64) (E:=aa) (l:=fj) (q:=0) dC o4 rfl e4),.v 5 (bg  (E:=aa) (l:=fj) (q:=0) o4 rfl A3 e4 rfl)] <| qq ?_
  obtain⟨v1,e5,H⟩:=aJ H
  obtain⟨QV,o5⟩:=J6 (P:=Tryd.prog) (k:=.i64) (E:=aa) (q:=0) o4 rfl dC e5
  refine qr [.v 4 QV] <| qq <| qq ?_
  obtain⟨v2,e6,H⟩:=aJ H
  refine qr [.v 2 (aH (k:=.i64) (E:=cE) (l:=fi) (q:=2) Hb o5 rfl e6),.v 3 (bg  (E:=cE) (l:=fi) (q:=2) o5 rfl A4 e6 rfl)] <| qc H (fun c1 H=>?_) (fun c1 H=>?_)
  ·exact qx 1 <| ⟨(fi,bq,v1),⟨.int .i64 v0,.any,.bool v2,.any,gX,fA,dj,h2,by kernel_rfl,o5⟩,H⟩
  ·refine qk <| qq ?_
   obtain⟨v3,e7,H⟩:=aJ H
   obtain⟨h3,e8,o6⟩:=dJ (P:=Tryd.prog) (tf:=4) (E:=cE) (l:=fi) (q:=2) (v:=true) (x:=.bool true) o5 rfl Z4 e7 rfl rfl
   refine qr [.v 2 (aH (k:=.i64) (E:=cE) (l:=fi) (q:=2) Hb o5 rfl e7),.w 3 e8] <| qq ?_
   obtain⟨x2,e9,H⟩:=aJ H
   obtain⟨gU,h4,mU,o7⟩:=fY (P:=Tryd.prog) (E:=aa) (l:=bq) (q:=1) (t2:=42) (x:=.fz [.int .i64 v0] 1 true) (l2:=([v0])) dC o6 rfl (by kernel_rfl) rfl e9
   refine qr [.a 3 mU] <| qq ?_
   obtain⟨v4,rn,H⟩:=aJ H
   refine qr [.v 2 (bo (k:=.i64) (E:=af) (l:=l0) kT rn),.v 4 (js  (E:=af) (l:=l0) (off:=3) h4 Kl rn rfl)] <| qb 2 ?_
   obtain⟨cq,xM,H⟩:=aJ H
   refine ql (aK.fu L l0 dj fi dj v0 x2 gU   (v1,i64.wrap ((v4.args.length:Int) - (1:Int))) _ _ ⟨gX,h4,(XO (b:=⟨af.fz l0 :: .any :: .any :: .rs dj 0 fi.length 1 :: .rs gU 0 x2.length 1 :: .rs gX 0 v1.length 1 :: .int .i64 v0 :: .int .i64 (i64.wrap ((v4.args.length:Int) - (1:Int)))::jW [],[],h4⟩) (by kernel_rfl) (by simp only [WW])),(by have o:Has h4 ((gX,.sl v1.length 1 (aa.l v1))::(gU,.sl x2.length 1 (aa.l x2))::(dj,.sl fi.length 1 (cE.l (fi.set v0.toNat true)))::L):=o7; simpa only [WW] using o)⟩ xM) ?_
   rintro e s ⟨rfl,qH,i1,rfl,g4,g5,g6,kO,h7,rfl,uQ⟩
   try dsimp only at H
   exact⟨(fi.set v0.toNat true,x2,qH),⟨g4,g5,.any,g6,kO,gU,dj,h7,(XO (b:=⟨[af.fz l0,.any,.any,.rs dj 0 fi.length 1,.rs gU 0 x2.length 1,.rs kO 0 qH.length 1,g4,g5,.any,.any,g6],[],h7⟩) (by kernel_rfl) (by simp only [WW])),(by have o:Has h7 ((kO,.sl qH.length 1 (aa.l qH))::(gU,.sl x2.length 1 (aa.l x2))::(dj,.sl fi.length 1 (cE.l (fi.set v0.toNat true)))::L):=uQ; simpa only [WW] using o)⟩,H⟩
 ·exact qx 0 <| ⟨rfl,fi,bq,fj,oi H,af.fz l0,.rs dj 0 fi.length 1,.rs gX 0 fj.length 1,.any,.any,.bool (decide ((fj.length:Int) > (0:Int))),.any,.any,gX,fA,dj,h2,by kernel_rfl,o4⟩
theorem nY {aS:FuncId→cg}(ha:aS 75=vO)  (l0:List ae)(gG:Int)(h:AHeap)(L:Mem)  (o:Has h (L)){out:(List Int)}(H:aK.f m l0 gG=some out) :
  ∃r h',a7 Tryd.prog aS cf m 75 [af.fz l0,.int .i64 gG] h=some (r,h')∧fB h' r (aa.fz out):=by
 refine ak (fn:=Tryd.f75) ha Tryd.func75 (by kernel_rfl) (by kernel_rfl) ?_
 refine aF (Q:=fun s=>aK.fin L out s) (fun _ _ h=>h) ?_
 have H:_=some out:=H
 unfold aK.f at H
 show de _ cf vO m _ ⟨af.fz l0 :: .int .i64 gG::D0 [],[],h⟩ _
 refine q1 <| qq ?_
 obtain⟨x0,e0,H⟩:=aJ H
 obtain⟨aB,h0,e1,o0⟩:=nM (P:=Tryd.prog) (E:=cE) (z:=false) (zv:=.bool false) Hb o 4 rfl rfl rfl rfl e0
 refine qr [.a 2 e1] <| qq <| q0 ?_
 have o1:Has h0 (((0),.sl (([]:List Int).length) 1 (aa.l ([]:List Int)))::(aB,.sl x0.length 1 (cE.l x0))::L):=Has.nil o0 1
 have o2:Has h0 ((((0)),.sl (([]:List Int).length) 1 (aa.l ([]:List Int)))::((0),.sl (([]:List Int).length) 1 (aa.l ([]:List Int)))::(aB,.sl x0.length 1 (cE.l x0))::L):=Has.nil o1 1
 refine qq ?_
 obtain⟨x1,e2,H⟩:=aJ H
 obtain⟨gF,h1,e3,o3⟩:=fY (P:=Tryd.prog) (E:=aa) (l:=([]:List Int)) (q:=0) (t2:=42) (x:=.fz [.int .i64 gG] 1 true) (l2:=([gG])) dC o2 rfl (by kernel_rfl) rfl e2
 refine qr [.a 3 e3] <| qq <| qb 0 ?_
 obtain⟨pc,w9,H⟩:=aJ H
 refine ql (aK.bG L l0   (x0,([]:List Int),x1) _ _ ⟨.any,.any,.any,.any,gF,(0),aB,h1,by kernel_rfl,o3⟩ w9) ?_
 rintro e s ⟨rfl,QU,jm,A8,rfl,g7,g8,g9,g10,g11,g12,g13,g14,xN,eQ,nU,h8,rfl,vB⟩
 try dsimp only at H
 refine q1 ?_
 have tI:Has h8 ((xN,.sl A8.length 1 (aa.l A8))::(eQ,.sl jm.length 1 (aa.l jm))::L):=Has.del vB 2
 have lK:Has h8 ((eQ,.sl jm.length 1 (aa.l jm))::L):=Has.del tI 0
 obtain rfl:=oi H
 exact qt <| ⟨.inl rfl,bZ (.rs eQ 0 jm.length 1) h8 (bX (yB (E:=aa) (l:=jm) (q:=0) lK rfl (fun _=>rfl)))⟩
end
end Go.Proofs.YtmekcfdllhphlaaDoor
namespace Go.Proofs.YtmekcfdllhphlaaDoor
open Go Go.R
open Go.IntKind (i64 u64 u8 u32)
inductive uj (κ:Int→Int)(A:Int→List Int):List Int→List Int→List Int→Prop
 | nil (o:List Int):uj κ A [] o o
 | skip {v:Int} {st o o':List Int}:κ v∈o.map κ→uj κ A st o o'→uj κ A (v::st) o o'
 | push {v:Int} {st o o':List Int}:κ v∉o.map κ→uj κ A (A v++st) (o++[v]) o'→uj κ A (v::st) o o'
theorem uj.Tu {κ:Int→Int}{A:Int→List Int}{st o o1 o2:List Int}(h:uj κ A st o o1)(k:uj κ A st o o2):o1=o2:=by
 induction h with
 | nil o=>cases k; rfl
 | skip hm _ ih=>
  cases k with
  | skip _ k=>exact ih k
  | push hn _=>exact absurd hm hn
 | push hn _ ih=>
  cases k with
  | skip hm _=>exact absurd hm hn
  | push _ k=>exact ih k
theorem uj.facts {κ:Int→Int}{A:Int→List Int}{n:Nat}{st o o':List Int}(h:uj κ A st o o')(hA:∀v:Int,0≤v→v<n→∀a∈A v,0≤a∧a<n)(hst:∀v∈st,0≤v∧v<n)(ho:∀v∈o,0≤v∧v<n)(AN:(o.map κ).Nodup) :
  (∃t,o'=o++t)∧(∀v∈o',0≤v∧v<n)∧(o'.map κ).Nodup∧(∀v∈st,κ v∈o'.map κ)∧((∀v∈o,∀a∈A v,κ a∈o.map κ∨a∈st)→∀v∈o',∀a∈A v,κ a∈o'.map κ):=by
 induction h with
 | nil o=>
  refine⟨⟨[],by simp⟩,ho,AN,?_,?_⟩
  ·intro v hv; cases hv
  ·intro h v hv a ha; exact (h v hv a ha).resolve_right (by simp)
 | @skip v st o o' hm _ ih=>
  obtain⟨⟨t,rfl⟩,a,b,c,d⟩:=ih (fun x hx=>hst x (by simp [hx])) ho AN
  refine⟨⟨t,rfl⟩,a,b,fun x hx=>?_,fun h=>d fun x hx y hy=>?_⟩
  ·rcases Xs.1 hx with rfl | hx
   ·rw [Xi]; exact Xw _ hm
   ·exact c x hx
  ·rcases h x hx y hy with h | h
   ·exact .inl h
   ·rcases Xs.1 h with rfl | h
    ·exact .inl hm
    ·exact .inr h
 | @push v st o o' hn _ ih=>
  have hv:=hst v (by simp)
  have h1:∀x∈A v++st,0≤x∧x<n:=fun x hx=>by
   rcases W5.1 hx with hx | hx
   ·exact hA v hv.1 hv.2 x hx
   ·exact hst x (by simp [hx])
  have h2:∀x∈o++[v],0≤x∧x<n:=fun x hx=>by
   rcases W5.1 hx with hx | hx
   ·exact ho x hx
   ·rw [WY] at hx; subst hx; exact hv
  have h3:((o++[v]).map κ).Nodup:=by
   rw [Xi,X0]
   refine⟨AN,by simp,fun a ha b hb=>?_⟩
   simp only [Xc,List.map_nil,WY] at hb
   subst hb; intro e; subst e; exact hn ha
  obtain⟨⟨t,rfl⟩,a,b,c,d⟩:=ih h1 h2 h3
  refine⟨⟨[v]++t,by simp⟩,a,b,fun x hx=>?_,fun h=>d fun x hx y hy=>?_⟩
  ·rcases Xs.1 hx with rfl | hx
   ·simp
   ·exact c x (by simp [hx])
  ·rcases W5.1 hx with hx | hx
   ·rcases h x hx y hy with h | h
    ·exact .inl (by rw [Xi]; exact Xw _ h)
    ·rcases Xs.1 h with rfl | h
     ·exact .inl (by simp)
     ·exact .inr (by simp [h])
   ·rw [WY] at hx; subst hx
    exact .inr (Xw _ hy)
theorem uj.from {A:Int→List Int}{root:Int}{st o o':List Int}(h:uj id A st o o')(hst:∀v∈st,v=root∨∃q,q<o.length∧v∈A (gt o q))(ho:∀i,i<o.length→gt o i=root∨∃q,q<i∧gt o i∈A (gt o q)) :
  ∀i,i<o'.length→gt o' i=root∨∃q,q<i∧gt o' i∈A (gt o' q):=by
 induction h with
 | nil o=>exact ho
 | skip hm _ ih=>exact ih (fun x hx=>hst x (by simp [hx])) ho
 | @push v st o o' hn _ ih=>
  have gl:∀q,q<o.length→gt (o++[v]) q=gt o q:=fun q hq=>iq hq
  have gv:gt (o++[v]) o.length=v:=by unfold gt; rw [W7,Xa (WQ _),Yj]; rfl
  refine ih (fun x hx=>?_) (fun i hi=>?_)
  ·rcases W5.1 hx with hx | hx
   ·exact .inr ⟨o.length,by simp,by rw [gv]; exact hx⟩
   ·rcases hst x (by simp [hx]) with h | ⟨q,q1,q2⟩
    ·exact .inl h
    ·exact .inr ⟨q,by simp; omega,by rw [gl q q1]; exact q2⟩
  ·by_cases h:i<o.length
   ·rw [gl i h]
    rcases ho i h with h1 | ⟨q,q1,q2⟩
    ·exact .inl h1
    ·exact .inr ⟨q,q1,by rw [gl q (by omega)]; exact q2⟩
   ·have e:i=o.length:=by simp at hi; omega
    subst e
    rw [gv]
    rcases hst v (by simp) with h | ⟨q,q1,q2⟩
    ·exact .inl h
    ·exact .inr ⟨q,q1,by rw [gl q q1]; exact q2⟩
theorem zk (cls:List Int)(l:List ae)(k:Nat)(i:Int)(o:List Int):rp cls l (k+1) i o=if ef cls i∈o.map (ef cls) then o else (nd l i).args.foldl (fun o a=>rp cls l k a o) (o++[i]):=rfl
theorem GB {cls:List Int}{l:List ae}(ok:kP l):∀(k:Nat) (i:Int) (o:List Int),0≤i→i<l.length→Vs cls l.length o→Vs cls l.length (rp cls l k i o)∧o.length≤(rp cls l k i o).length
 | 0,i,o,_,_,v=>⟨v,WQ _⟩
 | k+1,i,o,h0,h1,v=>by
  rw [zk]
  split
  ·exact⟨v,WQ _⟩
  ·rename_i h
   have v1:Vs cls l.length (o++[i]):=by
    refine⟨?_,fun x hx=>?_⟩
    ·rw [Xi,X0]
     refine⟨v.Hi,by simp,fun a ha b hb=>?_⟩
     simp only [Xc,List.map_nil,WY] at hb
     subst hb; intro e; subst e; exact h ha
    ·rcases W5.1 hx with hx | hx
     ·exact v.nu x hx
     ·simp only [WY] at hx; subst hx; exact⟨h0,h1⟩
   have fold:∀(zs:List Int) (o:List Int),(∀a∈zs,0≤a∧a<l.length)→Vs cls l.length o→Vs cls l.length (zs.foldl (fun o a=>rp cls l k a o) o)∧o.length≤(zs.foldl (fun o a=>rp cls l k a o) o).length:=by
    intro zs
    induction zs with
    | nil=>intro o _ v; exact⟨v,WQ _⟩
    | cons a zs ih=>
     intro o ha v
     have hr:=ha a (by simp)
     obtain⟨v2,l2⟩:=GB ok k a o hr.1 hr.2 v
     obtain⟨v3,l3⟩:=ih (rp cls l k a o) (fun x hx=>ha x (by simp [hx])) v2
     exact⟨v3,Xz l2 l3⟩
   obtain⟨v2,l2⟩:=fold (nd l i).args (o++[i]) (ok.2 _ (fw h0 h1)).2 v1
   exact⟨v2,by simp at l2; omega⟩
theorem pz {cls:List Int}{l:List ae}(ok:kP l):∀(k:Nat) (i:Int) (o st o':List Int),0≤i→i<l.length→Vs cls l.length o→l.length<k+o.length→
  uj (ef cls) (fun v=>(nd l v).args) st (rp cls l k i o) o'→uj (ef cls) (fun v=>(nd l v).args) (i::st) o o'
 | 0,i,o,st,o',_,_,v,hk,_=>absurd v.rq (by omega)
 | k+1,i,o,st,o',h0,h1,v,hk,h=>by
  rw [zk] at h
  by_cases hm:ef cls i∈o.map (ef cls)
  ·rw [if_pos hm] at h
   exact .skip hm h
  ·rw [if_neg hm] at h
   refine .push hm ?_
   have v1:Vs cls l.length (o++[i]):=by
    refine⟨?_,fun x hx=>?_⟩
    ·rw [Xi,X0]
     refine⟨v.Hi,by simp,fun a ha b hb=>?_⟩
     simp only [Xc,List.map_nil,WY] at hb
     subst hb; intro e; subst e; exact hm ha
    ·rcases W5.1 hx with hx | hx
     ·exact v.nu x hx
     ·simp only [WY] at hx; subst hx; exact⟨h0,h1⟩
   have fold:∀(zs:List Int) (o:List Int),(∀a∈zs,0≤a∧a<l.length)→Vs cls l.length o→l.length<k+o.length→uj (ef cls) (fun v=>(nd l v).args) st (zs.foldl (fun o a=>rp cls l k a o) o) o'→uj (ef cls) (fun v=>(nd l v).args) (zs++st) o o':=by
    intro zs
    induction zs with
    | nil=>intro o _ _ _ h; exact h
    | cons a zs ih=>
     intro o ha v hk h
     have hr:=ha a (by simp)
     obtain⟨v2,l2⟩:=GB ok k a o hr.1 hr.2 v
     exact pz ok k a o (zs++st) o' hr.1 hr.2 v hk (ih _ (fun x hx=>ha x (by simp [hx])) v2 (by omega) h)
   exact fold (nd l i).args (o++[i]) (ok.2 _ (fw h0 h1)).2 v1 (by simp; omega) h
theorem pA {od:List Int}{n:Nat}(h:od.Nodup)(hr:∀x∈od,0≤x∧x<n):od.length≤n:=by
 have:=h.length_le_of_subset (l₂:=ints n) (fun x hx=>iI.2 (hr x hx))
 rwa [dK] at this
theorem GC {m:Nat}{l:List ae}(ok:kP l){v:Int}(h0:0≤v)(h1:v<l.length):∀(f i:Nat) (st:List Int),i<f→i≤(nd l v).args.length→st.length+i≤1000000→
  ∃x,aK.l1 m l v f st ((i:Int) - 1)=some (st++((nd l v).args.take i).reverse,x)
 | 0,i,st,hf,_,_=>absurd hf (by omega)
 | f+1,0,st,hf,hi,hs=>by
  unfold aK.l1
  rw [if_neg (by simp)]
  exact⟨_,by simp; rfl⟩
 | f+1,i+1,st,hf,hi,hs=>by
  have h8:=(ok.2 _ (fw h0 h1)).1
  have ei:((i+1:Nat):Int) - 1=(i:Int):=by omega
  have ew:i64.wrap ((i:Int) - 1)=(i:Int) - 1:=aD (by omega) (by omega)
  have lP:app 8 st [gt (nd l v).args i]=some (st++[gt (nd l v).args i]):=by unfold app; rw [if_pos (by simp; omega)]
  obtain⟨x,ih⟩:=GC (m:=m) ok h0 h1 f i (st++[gt (nd l v).args i]) (by omega) (by omega) (by simp; omega)
  refine⟨x,?_⟩
  unfold aK.l1
  rw [ei,if_pos (by simp),hU h0 h1,WL,cC (by omega),WL,lP,WL,ew,ih]
  rw [XR,bw (by omega)]
  simp
theorem Ba {m:Nat}(hm:2 ^ 30≤m){l:List ae}(ok:kP l):∀(f:Nat) (met:List Bool) (o st:List Int),st.length+9*(l.length - o.length)<f→st.length+9*(l.length - o.length)≤100000→met.length=l.length→(∀i,i<l.length→(gb met i=true↔(i:Int)∈o))→o.Nodup→(∀v∈o,0≤v∧v<l.length)→(∀v∈st,0≤v∧v<l.length)→
  ∃DK o' ,aK.l0 m l f met o st.reverse=some (DK,o',[])∧uj id (fun v=>(nd l v).args) st o o'
 | 0,met,o,st,hf,_,_,_,_,_,_=>absurd hf (by omega)
 | f+1,met,o,[],hf,hb,Mf,NO,Ox,Oy,Kw=>by
  unfold aK.l0
  rw [if_neg (by simp)]
  exact⟨met,o,rfl,.nil o⟩
 | f+1,met,o,v::st,hf,hb,Mf,NO,Ox,Oy,Kw=>by
  have lR:(2:Nat) ^ 30=1073741824:=by decide
  have AQ:=pA Ox Oy
  obtain⟨v0,v1⟩:=Kw v (by simp)
  have h8:=(ok.2 _ (fw v0 v1)).1
  have QX:((v.toNat:Nat):Int)=v:=by omega
  simp only [W9] at hf hb
  have Vi:=ok.1
  unfold aK.l0
  have hlen:((v::st).reverse.length:Int)=(st.length:Int)+1:=by simp
  have ew:i64.wrap ((st.length:Int)+1 - 1)=(st.length:Int):=by rw [aD (by omega) (by omega)]; omega
  have e1:ix (v::st).reverse (st.length:Int)=some v:=by
   unfold ix
   rw [if_pos (by omega),WT,List.reverse_cons,Xa (by simp)]
   simp
  have e2:pL (v::st).reverse 0 (st.length:Int)=some st.reverse:=by
   unfold pL
   rw [if_pos ⟨by omega,by omega,by simp; omega⟩,List.reverse_cons]
   simp only [WT,Xl,Int.toNat_zero,Nat.sub_zero]
   rw [List.take_left' (by simp)]
  have e3:ix met v=some (gb met v.toNat):=Cn v0 (by omega)
  rw [if_pos (by rw [hlen]; simp only [gt_iff_lt,decide_eq_true_eq]; omega),hlen,ew,e1,WL,e2,WL,e3,WL]
  cases hg:gb met v.toNat with
  | true=>
   have wH:v∈o:=by have:=(NO v.toNat (by omega)).1 hg; rwa [QX] at this
   obtain⟨DK,o',k1,k2⟩:=Ba hm ok f met o st (by omega) (by omega) Mf NO Ox Oy (fun x hx=>Kw x (by simp [hx]))
   rw [if_pos rfl]
   exact⟨DK,o',k1,.skip (by simpa using wH) k2⟩
  | false=>
   have Tv:v∉o:=fun h=>by
    have:=(NO v.toNat (by omega)).2 (by rw [QX]; exact h)
    rw [hg] at this; cases this
   have Tw:(o++[v]).Nodup:=by
    rw [X0]
    refine⟨Ox,by simp,fun a ha b hb=>?_⟩
    rw [WY] at hb
    subst hb; intro e; subst e; exact Tv ha
   have Tx:∀x∈o++[v],0≤x∧x<l.length:=fun x hx=>by
    rcases W5.1 hx with hx | hx
    ·exact Oy x hx
    ·rw [WY] at hx; subst hx; exact⟨v0,v1⟩
   have F3:=pA Tw Tx
   simp only [WX,W9,XI] at F3
   have lP:app 8 o [v]=some (o++[v]):=by unfold app; rw [if_pos (by simp; omega)]
   have Vj:i64.wrap (((nd l v).args.length:Int) - 1)=((nd l v).args.length:Int) - 1:=aD (by omega) (by omega)
   obtain⟨x,q1⟩:=GC (m:=m) ok v0 v1 m (nd l v).args.length st.reverse (by omega) (WQ _) (by simp; omega)
   rw [XU] at q1
   have QY:st.reverse++(nd l v).args.reverse=((nd l v).args++st).reverse:=by simp
   rw [QY] at q1
   rw [if_neg (by simp),WL,lP,WL,hU v0 v1,WL,Vj,q1,WL]
   dsimp only
   obtain⟨DK,o',k1,k2⟩:=Ba hm ok f (met.set v.toNat true) (o++[v]) ((nd l v).args++st) (by simp; omega) (by simp; omega) (by simpa using Mf) (fun i hi=>by
    rw [Gy (by omega),W5,WY]
    by_cases e:i=v.toNat
    ·subst e; simp [QX]
    ·rw [if_neg e,NO i hi]
     constructor
     ·exact fun h=>.inl h
     ·rintro (h | h)
      ·exact h
      ·omega) Tw Tx (fun x hx=>by
    rcases W5.1 hx with hx | hx
    ·exact (ok.2 _ (fw v0 v1)).2 x hx
    ·exact Kw x (by simp [hx]))
   exact⟨DK,o',k1,.push (by simpa using Tv) k2⟩
theorem Iu {n k:Nat}:gb (W8 n false) k=false:=by
 unfold gb; rw [W7,List.getElem?_replicate]; split<;>rfl
theorem pB {m:Nat}(hm:2 ^ 30≤m){l:List ae}(ok:kP l){root:Int}(h0:0≤root)(h1:root<l.length):∃o,aK.f m l root=some o∧uj id (fun v=>(nd l v).args) [root] [] o:=by
 have lR:(2:Nat) ^ 30=1073741824:=by decide
 have Vi:=ok.1
 unfold aK.f
 have e1:uL 1 (l.length:Int) false=some (W8 l.length false):=by unfold uL; rw [if_pos ⟨by omega,by rw [WT]; omega⟩,WT]
 have lP:app 8 ([]:List Int) [root]=some [root]:=by unfold app; rw [if_pos (by simp),Xm]
 obtain⟨DK,o',k1,k2⟩:=Ba hm ok m (W8 l.length false) [] [root] (by simp; omega) (by simp; omega) (by simp) (fun i hi=>by rw [Iu]; simp) (by simp) (fun v hv=>by cases hv) (fun v hv=>by rw [WY] at hv; subst hv; exact⟨h0,h1⟩)
 have k1:aK.l0 m l m (W8 l.length false) [] [root]=_:=k1
 rw [e1,WL,lP,WL,k1,WL]
 exact⟨o',rfl,k2⟩
end Go.Proofs.YtmekcfdllhphlaaDoor
namespace Go.Proofs.YtmekcfdllhphlaaDoor
open Go Go.R
open Go.IntKind (i64 u64 u8 u32)
structure DL (l k:List ae)(R:Int→Int→Prop):Prop where
 nu:∀i j,R i j→(0≤i∧i<l.length)∧0≤j∧j<k.length
 top:∀i j,R i j→Alike (nd l i) (nd k j)
 arg:∀i j,R i j→∀n,n<(nd l i).args.length→R (gt (nd l i).args n) (gt (nd k j).args n)
theorem Min.same {l:List ae}{c:List Int}(M:Min l c){a b:Int}(a0:0≤a)(a1:a<l.length)(b0:0≤b)(b1:b<l.length)(e:ef c a=ef c b) :
  Alike (nd l a) (nd l b)∧∀n,n<(nd l a).args.length→ef c (gt (nd l a).args n)=ef c (gt (nd l b).args n):=by
 have ea:((a.toNat:Nat):Int)=a:=by omega
 have eb:((b.toNat:Nat):Int)=b:=by omega
 have hA:=M.top a.toNat b.toNat (by omega) (by omega) e
 have hg:=M.arg a.toNat b.toNat (by omega) (by omega) e
 rw [ea,eb] at hA hg
 exact⟨hA,hg⟩
theorem DL.swap {l k:List ae}{R:Int→Int→Prop}(S:DL l k R):DL k l fun j i=>R i j:=
 ⟨fun i j h=>⟨(S.nu j i h).2,(S.nu j i h).1⟩,fun i j h=>(S.top j i h).symm,fun i j h n hn=>S.arg j i h n (by have:=(S.top j i h).len; omega)⟩
theorem DL.cls {l k:List ae}{R:Int→Int→Prop}(S:DL l k R){c1 c2:List Int}(M1:Min l c1)(M2:Min k c2){i j i' j':Int}(h:R i j)(h':R i' j')(e:ef c1 i=ef c1 i'):ef c2 j=ef c2 j':=by
 have g:=S.nu _ _ h
 have g':=S.nu _ _ h'
 refine M2.max (fun a b=>∃i i':Int,R i a∧R i' b∧ef c1 i=ef c1 i') ⟨?_,?_,?_⟩ j.toNat j'.toNat ⟨i,i',by rwa [show ((j.toNat:Nat):Int)=j by omega],by rwa [show ((j'.toNat:Nat):Int)=j' by omega],e⟩
 ·rintro a b ⟨i,i',h,h',_⟩
  have:=S.nu _ _ h
  have:=S.nu _ _ h'
  omega
 ·rintro a b ⟨i,i',h,h',e⟩
  have g:=S.nu _ _ h
  have g':=S.nu _ _ h'
  exact ((S.top _ _ h).symm.trans (M1.same g.1.1 g.1.2 g'.1.1 g'.1.2 e).1).trans (S.top _ _ h')
 ·rintro a b ⟨i,i',h,h',e⟩ n hn
  have g:=S.nu _ _ h
  have g':=S.nu _ _ h'
  obtain⟨sA,sg⟩:=M1.same g.1.1 g.1.2 g'.1.1 g'.1.2 e
  have JI:n<(nd l i).args.length:=by have:=(S.top _ _ h).len; omega
  have k1:=S.arg _ _ h n JI
  have k2:=S.arg _ _ h' n (by have:=sA.len; omega)
  have r1:=(S.nu _ _ k1).2
  have r2:=(S.nu _ _ k2).2
  exact⟨_,_,by rwa [show (((gt (nd k a).args n).toNat:Nat):Int)=gt (nd k a).args n by omega],by rwa [show (((gt (nd k b).args n).toNat:Nat):Int)=gt (nd k b).args n by omega],sg n JI⟩
inductive Rl (R:Int→Int→Prop):List Int→List Int→Prop
 | nil:Rl R [] []
 | cons {a b:Int} {xs ys:List Int}:R a b→Rl R xs ys→Rl R (a::xs) (b::ys)
theorem Rl.app {R:Int→Int→Prop}{a b c d:List Int}(h:Rl R a b)(k:Rl R c d):Rl R (a++c) (b++d):=by
 induction h with
 | nil=>exact k
 | cons h _ ih=>exact .cons h ih
theorem Rl.len {R:Int→Int→Prop}{a b:List Int}(h:Rl R a b):a.length=b.length:=by
 induction h with
 | nil=>rfl
 | cons _ _ ih=>simp [ih]
theorem Rl.at {R:Int→Int→Prop}{a b:List Int}(h:Rl R a b):∀n,n<a.length→R (gt a n) (gt b n):=by
 induction h with
 | nil=>intro n hn; exact absurd hn (by simp)
 | cons h _ ih=>
  intro n hn
  cases n with
  | zero=>exact h
  | succ n=>exact ih n (by simpa using hn)
theorem Rl.of {R:Int→Int→Prop}:∀{a b:List Int},a.length=b.length→(∀n,n<a.length→R (gt a n) (gt b n))→Rl R a b
 | [],[],_,_=>.nil
 | [],_::_,h,_=>by simp at h
 | _::_,[],h,_=>by simp at h
 | x::a,y::b,h,k=>.cons (k 0 (by simp)) (Rl.of (by simpa using h) fun n hn=>k (n+1) (by simpa using hn))
section
variable {l k:List ae}{R:Int→Int→Prop}{c1 c2:List Int}
theorem DL.mem (S:DL l k R)(M1:Min l c1)(M2:Min k c2){v w:Int}(h:R v w){o o2:List Int}(ho:Rl R o o2):ef c1 v∈o.map (ef c1)↔ef c2 w∈o2.map (ef c2):=by
 induction ho with
 | nil=>simp
 | cons h' _ ih=>
  rw [Xc,Xc,Xs,Xs,ih]
  have z1:=S.cls M1 M2 h h'
  have z2:=S.swap.cls M2 M1 h h'
  constructor
  ·rintro (e | e)
   ·exact .inl (z1 e)
   ·exact .inr e
  ·rintro (e | e)
   ·exact .inl (z2 e)
   ·exact .inr e
theorem DL.idx (S:DL l k R)(M1:Min l c1)(M2:Min k c2){v w:Int}(h:R v w){o o2:List Int}(ho:Rl R o o2):idx c1 o v=idx c2 o2 w:=by
 unfold Go.Proofs.YtmekcfdllhphlaaDoor.idx
 congr 1
 induction ho with
 | nil=>rfl
 | @cons a b xs ys h' _ ih=>
  rw [Xc,Xc,List.idxOf_cons,List.idxOf_cons,ih]
  have h1:=S.cls M1 M2 h' h
  have h2:=S.swap.cls M2 M1 h' h
  by_cases e:ef c1 a=ef c1 v
  ·rw [e,h1 e]; simp
  ·have e2:¬ef c2 b=ef c2 w:=fun z=>e (h2 z)
   rw [show (ef c1 a==ef c1 v)=false from by simpa using e,show (ef c2 b==ef c2 w)=false from by simpa using e2]
theorem DL.pre (S:DL l k R)(M1:Min l c1)(M2:Min k c2){st o o':List Int}(h:uj (ef c1) (fun v=>(nd l v).args) st o o'):∀{Iv o2:List Int},Rl R st Iv→Rl R o o2→∃Hk,uj (ef c2) (fun v=>(nd k v).args) Iv o2 Hk∧Rl R o' Hk:=by
 induction h with
 | nil o=>intro Iv o2 hs ho; cases hs; exact⟨o2,.nil _,ho⟩
 | skip hm _ ih=>
  intro Iv o2 hs ho
  cases hs with
  | cons h hs=>
   obtain⟨Hk,k1,k2⟩:=ih hs ho
   exact⟨Hk,.skip ((S.mem M1 M2 h ho).1 hm) k1,k2⟩
 | push hn _ ih=>
  intro Iv o2 hs ho
  cases hs with
  | cons h hs=>
   obtain⟨Hk,k1,k2⟩:=ih ((Rl.of (S.top _ _ h).len (S.arg _ _ h)).app hs) (ho.app (.cons h .nil))
   exact⟨Hk,.push (fun z=>hn ((S.mem M1 M2 h ho).2 z)) k1,k2⟩
end
theorem Iw {c O:List Int}{a b:Int}(h:ef c a=ef c b):idx c O a=idx c O b:=by unfold idx; rw [h]
theorem KT {f:Int→Int}{a b:List Int}{g:Int→Int}(hl:a.length=b.length)(h:∀n,n<a.length→f (gt a n)=g (gt b n)):a.map f=b.map g:=by
 apply XE fun n=>?_
 simp only [Xo]
 by_cases hn:n<a.length
 ·rw [bw hn,bw (by omega)]; simp only [WS,h n hn]
 ·rw [W6 (by omega),W6 (by omega)]; rfl
theorem DM {m:Nat}(hm:2 ^ 41≤m){t u:an}(ht:dQ t=true)(hu:dQ u=true){R:Int→Int→Prop}(S:DL t.nodes u.nodes R)(hr:R t.root u.root):∃s,cm.f m t=some s∧cm.f m u=some s:=by
 have rl:(2:Nat) ^ 41=2199023255552:=by decide
 obtain⟨D6,_,r0,r1,_⟩:=jb ht
 obtain⟨Ty,_,q0,q1,_⟩:=jb hu
 obtain⟨c1,n1,e1,M1,Q1,_⟩:=lu hm ht
 obtain⟨c2,n2,e2,M2,Q2,_⟩:=lu hm hu
 have l1:=D6.1
 have l2:=Ty.1
 have P1:=pz (cls:=c1) D6 m t.root [] [] _ r0 r1 ⟨by simp,fun x hx=>by cases hx⟩ (by simp; omega) (.nil _)
 have P2:=pz (cls:=c2) Ty m u.root [] [] _ q0 q1 ⟨by simp,fun x hx=>by cases hx⟩ (by simp; omega) (.nil _)
 obtain⟨Hk,k1,k2⟩:=S.pre M1 M2 P1 (.cons hr .nil) .nil
 have:=k1.Tu P2
 subst this
 generalize WE:rp c1 t.nodes m t.root []=O1 at *
 generalize WG:rp c2 u.nodes m u.root []=O2 at *
 have hl:=k2.len
 have w1:=Q1.len
 have w2:=Q2.len
 have hn:n1=n2:=by
  apply XE fun q=>?_
  by_cases hq:q<O1.length
  ·rw [Q1.new q (by simp) hq,Q2.new q (by simp) (by omega)]
   have h:=k2.at q hq
   have A:=S.top _ _ h
   unfold uT
   rw [A.kind,A.int,A.label,KT A.len fun n hn=>S.idx M1 M2 (S.arg _ _ h n hn) k2]
  ·rw [W6 (by omega),W6 (by omega)]
 subst hn
 exact⟨_,e1,e2⟩
theorem Bb {n:ae}{a b:Int}{f:Int→Int}(h:kg n a=true)(hf:∀x∈n.args,0≤f x∧f x<b):kg ⟨n.kind,n.int,n.label,n.args.map f⟩ b=true:=by
 unfold kg at h ⊢
 have he:(n.args.map f).isEmpty=n.args.isEmpty:=by cases n.args<;>rfl
 dsimp only
 rw [he,Xu]
 have ha:((n.args.map f).all fun a=>decide (0≤a)&&decide (a<b))=true:=by
  rw [Xd]
  intro x hx
  obtain⟨y,hy,rfl⟩:=Xg.1 hx
  have:=hf y hy
  simp only [WR,decide_eq_true_eq]; exact this
 rw [ha]
 split<;>rename_i h0
 ·rw [if_pos h0] at h; exact h
 ·rw [if_neg h0] at h
  split<;>rename_i h1
  ·rw [if_pos h1] at h; exact h
  ·rw [if_neg h1] at h
   split<;>rename_i h2
   ·rw [if_pos h2] at h; exact h
   ·rw [if_neg h2] at h
    split<;>rename_i h3
    ·rw [if_pos h3] at h
     simp only [WR] at h ⊢
     exact⟨h.1,trivial⟩
    ·rw [if_neg h3] at h
     exact h
theorem DN {m:Nat}(hm:2 ^ 41≤m){t:an}(ht:dQ t=true):∃s R,cm.f m t=some s∧dQ s=true∧s.nodes.length≤t.nodes.length∧DL t.nodes s.nodes R∧R t.root s.root:=by
 have rl:(2:Nat) ^ 41=2199023255552:=by decide
 obtain⟨ok,_,r0,r1,_⟩:=jb ht
 obtain⟨c,ns,e,M,Q,hr⟩:=lu hm ht
 have l1:=ok.1
 have fv:=ht
 unfold dQ at fv
 simp only [WR,decide_eq_true_eq] at fv
 generalize hO:rp c t.nodes m t.root []=O at *
 have rq:=Q.vs.rq
 have hlen:=Q.len
 have oP:0<O.length:=by cases O with | nil=>simp at hr | cons _ _=>simp
 have AN:∀q:Nat,q<O.length→nd ns (q:Int)=uT c t.nodes O (gt O q):=fun q hq=>by
  have:=Q.new q (by simp) hq
  unfold nd
  rw [WT,W7,this]; rfl
 have Oz:∀{v:Int},ef c v∈O.map (ef c)→0≤idx c O v∧idx c O v<O.length∧ef c (gt O (idx c O v).toNat)=ef c v:=fun {v} hv=>by
  have h1:=XP hv
  have h2:=List.getElem_idxOf h1
  rw [Xu] at h1
  unfold idx
  refine⟨by omega,by omega,?_⟩
  rw [WT]
  have h3:=W2 (l:=O.map (ef c)) (i:=(O.map (ef c)).idxOf (ef c v)) (by rw [Xu]; exact h1)
  rw [h2,Xo,bw h1] at h3
  exact Xj h3
 refine⟨⟨ns,0⟩,fun i j=>(0≤i∧i<t.nodes.length)∧ef c i∈O.map (ef c)∧j=idx c O i,e,?_,by show ns.length≤_; omega,⟨?_,?_,?_⟩,⟨r0,r1⟩,hr,?_⟩
 ·unfold dQ
  simp only [WR,decide_eq_true_eq]
  refine⟨⟨⟨⟨by omega,by omega⟩,by omega⟩,by omega⟩,?_⟩
  rw [Xd]
  intro x hx
  obtain⟨q,hq,e2⟩:=List.getElem_of_mem hx
  have h1:=Q.new q (by simp) (by omega)
  rw [W2 hq,e2] at h1
  have h1:=Xj h1
  subst h1
  have uF:=Q.vs.nu _ (aM (l:=O) (k:=q) (by omega))
  refine Bb (Xd.1 fv.2 _ (fw uF.1 uF.2)) fun a ha=>?_
  have:=Oz (Q.arg q (by simp) (by omega) a ha)
  omega
 ·rintro i j ⟨h1,h2,rfl⟩
  have:=Oz h2
  exact⟨h1,by show 0≤_∧_<(ns.length:Int); omega⟩
 ·rintro i j ⟨h1,h2,rfl⟩
  obtain⟨a,b,d⟩:=Oz h2
  have uF:=Q.vs.nu _ (aM (l:=O) (k:=(idx c O i).toNat) (by omega))
  have hx:=AN (idx c O i).toNat (by omega)
  rw [show (((idx c O i).toNat:Nat):Int)=idx c O i by omega] at hx
  rw [hx]
  have A:=(M.same h1.1 h1.2 uF.1 uF.2 d.symm).1
  exact⟨A.kind,A.int,A.label,by show _=(List.map _ _).length; rw [Xu]; exact A.len⟩
 ·rintro i j ⟨h1,h2,rfl⟩ n hn
  obtain⟨a,b,d⟩:=Oz h2
  have uF:=Q.vs.nu _ (aM (l:=O) (k:=(idx c O i).toNat) (by omega))
  have hx:=AN (idx c O i).toNat (by omega)
  rw [show (((idx c O i).toNat:Nat):Int)=idx c O i by omega] at hx
  rw [hx]
  obtain⟨A,hg⟩:=M.same h1.1 h1.2 uF.1 uF.2 d.symm
  have JJ:n<(nd t.nodes (gt O (idx c O i).toNat)).args.length:=by have:=A.len; omega
  have hg:=hg n hn
  have hin:=Q.arg (idx c O i).toNat (by simp) (by omega) _ (aM JJ)
  refine⟨(ok.2 _ (fw h1.1 h1.2)).2 _ (aM hn),by rw [hg]; exact hin,?_⟩
  have e1:gt (uT c t.nodes O (gt O (idx c O i).toNat)).args n=idx c O (gt (nd t.nodes (gt O (idx c O i).toNat)).args n):=by
   have h3:=bw (l:=(uT c t.nodes O (gt O (idx c O i).toNat)).args) (k:=n) (by show n<(List.map _ _).length; rw [Xu]; exact JJ)
   have h4:(uT c t.nodes O (gt O (idx c O i).toNat)).args[n]? = some (idx c O (gt (nd t.nodes (gt O (idx c O i).toNat)).args n)):=by
    show (List.map _ _)[n]? = _
    rw [Xo,bw JJ]; rfl
   rw [h4] at h3; exact (Xj h3).symm
  rw [e1]
  exact Iw hg.symm
 ·show (0:Int)=idx c O t.root
  have P1:=pz (cls:=c) ok m t.root [] [] _ r0 r1 ⟨by simp,fun x hx=>by cases hx⟩ (by simp; omega) (.nil _)
  rw [hO] at P1
  cases P1 with
  | skip h _=>simp at h
  | push _ k=>
   obtain⟨⟨T,e⟩,_⟩:=k.facts (n:=t.nodes.length) (fun v a b=>(ok.2 _ (fw a b)).2) (fun v hv=>by
    rcases W5.1 hv with hv | hv
    ·exact (ok.2 _ (fw r0 r1)).2 v hv
    ·cases hv) (fun v hv=>by simp at hv; subst hv; exact⟨r0,r1⟩) (by simp)
   rw [e]
   unfold idx
   simp
theorem Bc {m:Nat}(hm:2 ^ 41≤m){t:an}(ht:dQ t=true):∃s,cm.f m t=some s∧dQ s=true∧s.nodes.length≤t.nodes.length∧cm.f m s=some s:=by
 obtain⟨s,R,e,v,hl,S,hr⟩:=DN hm ht
 obtain⟨s',e1,e2⟩:=DM hm ht v S hr
 rw [e1] at e
 cases e
 exact⟨s,e1,v,hl,e2⟩
end Go.Proofs.YtmekcfdllhphlaaDoor
namespace Go.Proofs.YtmekcfdllhphlaaDoor
open Go Go.R
open Go.IntKind (i64 u64 u8 u32)
theorem uk {b:List Int}{lo hi:Int}(h:0≤lo∧lo≤hi∧hi≤b.length):pL b lo hi=some ((b.drop lo.toNat).take (hi.toNat - lo.toNat)):=by unfold pL; rw [if_pos h]
end Go.Proofs.YtmekcfdllhphlaaDoor
namespace Go.Proofs.YtmekcfdllhphlaaDoor
open Go Go.R
open Go.IntKind (i64 u64 u8 u32)
end Go.Proofs.YtmekcfdllhphlaaDoor
namespace Go.Proofs.YtmekcfdllhphlaaDoor
open Go Go.R
open Go.IntKind (i64 u64 u8 u32)
def xE:cg:=gk [0,2] [] [2,1] [] []
def fa.f (m:Nat)(c0:Int):Option (Bool):=if (decide (c0≥(97:Int)))=true then (if (decide (c0≤(122:Int)))=true then (some true) else (if (decide (c0≥(65:Int)))=true then (if (decide (c0≤(90:Int)))=true then (some true) else (if (decide (c0≥(48:Int)))=true then (if (decide (c0≤(57:Int)))=true then (some true) else (some (c0==(95:Int)))) else (some (c0==(95:Int))))) else (if (decide (c0≥(48:Int)))=true then (if (decide (c0≤(57:Int)))=true then (some true) else (some (c0==(95:Int)))) else (some (c0==(95:Int)))))) else (if (decide (c0≥(65:Int)))=true then (if (decide (c0≤(90:Int)))=true then (some true) else (if (decide (c0≥(48:Int)))=true then (if (decide (c0≤(57:Int)))=true then (some true) else (some (c0==(95:Int)))) else (some (c0==(95:Int))))) else (if (decide (c0≥(48:Int)))=true then (if (decide (c0≤(57:Int)))=true then (some true) else (some (c0==(95:Int)))) else (some (c0==(95:Int)))))
def fa.fin (L:Mem)(r:Bool)(s:St):Prop:=∃av,aI Tryd.prog (s.open xE) Tryd.f111.results.toList=some av∧fB s.h av (.bool r)
def KU (cf:CallF)(m:Nat):Prop:=∀(c0:Int) (r:Bool),fa.f m c0=some r→∀h xs,ej eL h xs [.int .u8 c0]→cf 111 xs h=some (.bool r,h)
section
variable {cf:CallF}{m:Nat}
theorem pC {aS:FuncId→cg}(ha:aS 111=xE)  (c0:Int)(h:AHeap)(L:Mem)  (o:Has h (L)){out:Bool}(H:fa.f m c0=some out) :
  ∃r h',a7 Tryd.prog aS cf m 111 [.int .u8 c0] h=some (r,h')∧fB h' r (.bool out):=by
 refine ak (fn:=Tryd.f111) ha Tryd.func111 (by kernel_rfl) (by kernel_rfl) ?_
 refine aF (Q:=fun s=>fa.fin L out s) (fun _ _ h=>h) ?_
 have H:_=some out:=H
 unfold fa.f at H
 show de _ cf xE m _ ⟨[.int .u8 c0,.any],[],h⟩ _
 refine q1 <| qq ?_
 rcases dw H with⟨c1,H⟩| ⟨c1,H⟩
 ·rcases dw H with⟨c2,H⟩| ⟨c2,H⟩
  ·obtain rfl:=oi H
   exact qr [.b 2 c1,.b 6 c2] <| qt <| ⟨.inl rfl,bZ (.bool true) h (bX (aj))⟩
  ·rcases dw H with⟨c3,H⟩| ⟨c3,H⟩
   ·rcases dw H with⟨c4,H⟩| ⟨c4,H⟩
    ·obtain rfl:=oi H
     exact qr [.b 2 c1,.b 6 c2,.b 9 c3,.b 14 c4] <| qt <| ⟨.inl rfl,bZ (.bool true) h (bX (aj))⟩
    ·rcases dw H with⟨c5,H⟩| ⟨c5,H⟩
     ·rcases dw H with⟨c6,H⟩| ⟨c6,H⟩
      ·obtain rfl:=oi H
       exact qr [.b 2 c1,.b 6 c2,.b 9 c3,.b 14 c4,.b 17 c5,.b 22 c6] <| qt <| ⟨.inl rfl,bZ (.bool true) h (bX (aj))⟩
      ·obtain rfl:=oi H
       exact qr [.b 2 c1,.b 6 c2,.b 9 c3,.b 14 c4,.b 17 c5,.b 22 c6] <| qt <| ⟨.inl rfl,bZ (.bool (c0==(95:Int))) h (bX (aj))⟩
     ·obtain rfl:=oi H
      exact qr [.b 2 c1,.b 6 c2,.b 9 c3,.b 14 c4,.b 17 c5] <| qt <| ⟨.inl rfl,bZ (.bool (c0==(95:Int))) h (bX (aj))⟩
   ·rcases dw H with⟨c7,H⟩| ⟨c7,H⟩
    ·rcases dw H with⟨c8,H⟩| ⟨c8,H⟩
     ·obtain rfl:=oi H
      exact qr [.b 2 c1,.b 6 c2,.b 9 c3,.b 17 c7,.b 22 c8] <| qt <| ⟨.inl rfl,bZ (.bool true) h (bX (aj))⟩
     ·obtain rfl:=oi H
      exact qr [.b 2 c1,.b 6 c2,.b 9 c3,.b 17 c7,.b 22 c8] <| qt <| ⟨.inl rfl,bZ (.bool (c0==(95:Int))) h (bX (aj))⟩
    ·obtain rfl:=oi H
     exact qr [.b 2 c1,.b 6 c2,.b 9 c3,.b 17 c7] <| qt <| ⟨.inl rfl,bZ (.bool (c0==(95:Int))) h (bX (aj))⟩
 ·rcases dw H with⟨c9,H⟩| ⟨c9,H⟩
  ·rcases dw H with⟨uP,H⟩| ⟨uP,H⟩
   ·obtain rfl:=oi H
    exact qr [.b 2 c1,.b 9 c9,.b 14 uP] <| qt <| ⟨.inl rfl,bZ (.bool true) h (bX (aj))⟩
   ·rcases dw H with⟨ml,H⟩| ⟨ml,H⟩
    ·rcases dw H with⟨qm,H⟩| ⟨qm,H⟩
     ·obtain rfl:=oi H
      exact qr [.b 2 c1,.b 9 c9,.b 14 uP,.b 17 ml,.b 22 qm] <| qt <| ⟨.inl rfl,bZ (.bool true) h (bX (aj))⟩
     ·obtain rfl:=oi H
      exact qr [.b 2 c1,.b 9 c9,.b 14 uP,.b 17 ml,.b 22 qm] <| qt <| ⟨.inl rfl,bZ (.bool (c0==(95:Int))) h (bX (aj))⟩
    ·obtain rfl:=oi H
     exact qr [.b 2 c1,.b 9 c9,.b 14 uP,.b 17 ml] <| qt <| ⟨.inl rfl,bZ (.bool (c0==(95:Int))) h (bX (aj))⟩
  ·rcases dw H with⟨rH,H⟩| ⟨rH,H⟩
   ·rcases dw H with⟨og,H⟩| ⟨og,H⟩
    ·obtain rfl:=oi H
     exact qr [.b 2 c1,.b 9 c9,.b 17 rH,.b 22 og] <| qt <| ⟨.inl rfl,bZ (.bool true) h (bX (aj))⟩
    ·obtain rfl:=oi H
     exact qr [.b 2 c1,.b 9 c9,.b 17 rH,.b 22 og] <| qt <| ⟨.inl rfl,bZ (.bool (c0==(95:Int))) h (bX (aj))⟩
   ·obtain rfl:=oi H
    exact qr [.b 2 c1,.b 9 c9,.b 17 rH] <| qt <| ⟨.inl rfl,bZ (.bool (c0==(95:Int))) h (bX (aj))⟩
end
end Go.Proofs.YtmekcfdllhphlaaDoor
namespace Go.Proofs.YtmekcfdllhphlaaDoor
open Go Go.R
open Go.IntKind (i64 u64 u8 u32)
def zl:cg:=gk [0,2,3,11,15,22] [] [62,54,61,58,42,58,26,61,61] [] []
def cw.l0 (m:Nat)(s0:ByteArray):Nat→Int→Option (Sum Bool (Int))
 | 0,_=>none
 | k+1,i0=>if (decide (i0<(s0.size:Int)))=true then ((bt s0 i0).bind fun v0=>(fa.f m v0).bind fun x0=>if (!x0)=true then (some (.inl false)) else (cw.l0 m s0 k (i64.wrap (i0+(1:Int))))) else (some (.inr i0))
def cw.f (m:Nat)(s0:ByteArray):Option (Bool):=if (decide ((s0.size:Int)<(1:Int)))=true then (some false) else (if (decide ((s0.size:Int) > (16:Int)))=true then (some false) else ((cw.l0 m s0 m (0:Int)).bind fun bq=>match bq with | .inl r0=>some r0 | .inr i1=>some true))
def cw.fin (L:Mem)(r:Bool)(s:St):Prop:=∃av,aI Tryd.prog (s.open zl) Tryd.f86.results.toList=some av∧fB s.h av (.bool r)
def Tz (cf:CallF)(m:Nat):Prop:=∀(s0:ByteArray) (r:Bool),cw.f m s0=some r→∀h xs,ej eL h xs [.str s0]→cf 86 xs h=some (.bool r,h)
section
variable {cf:CallF}{m:Nat}
theorem cw.bG (L:Mem)(s0:ByteArray)  (GD:KU cf m):bI Tryd.prog cf zl m (sub [1,1,0,1,0,0] (codeOf Tryd.f86)) (fun k (σ:Int)=>cw.l0 m s0 k σ) (fun σ s=>match σ with | i0=>∃h0,s=⟨.str s0 :: .any :: .int .i64 i0::jW [],[],h0⟩∧Has h0 (L)) (fun out e s=>(e = .exit 0∧∃i0,.inr i0=out∧∃kp tu tK h0,s=⟨[kp,.any,tu,.any,tK,.any],[],h0⟩∧Has h0 (L))∨(e = .ret∧∃r,.inl r=out∧cw.fin L r s)):=by
 refine gS (fun _=>rfl) ?_
 rintro k i0 s out ⟨h0,rfl,o0⟩ H
 have H:cw.l0 m s0 (k+1) i0=some out:=H
 refine qq <| qq <| q0 <| qc H (fun c3 H=>?_) (fun c3 H=>?_)
 ·refine qk <| qq <| qb 1 <| qq ?_
  obtain⟨v0,e0,H⟩:=aJ H
  obtain⟨x0,e1,H⟩:=aJ H
  refine qr [.v 2 (mh (k:=.i64) U9 e0),.a 3 (GD _ _ e1 h0 _ (ga (ab (aE) (ax))))] <| qc H (fun c4 H=>?_) (fun c4 H=>?_)
  ·exact q1 <| qt <| XH (⟨rfl,_,oi H,bZ (.bool false) h0 (bX (aj))⟩)
  ·exact qk <| q0 <| ⟨i64.wrap (i0+(1:Int)),⟨h0,by kernel_rfl,o0⟩,H⟩
 ·exact qx 0 <| X6 (⟨rfl,i0,oi H,.str s0,.int .i64 i0,.bool (decide (i0<(s0.size:Int))),h0,by kernel_rfl,o0⟩)
theorem rX {aS:FuncId→cg}(ha:aS 86=zl)(GD:KU cf m)(s0:ByteArray)(h:AHeap)(L:Mem)  (o:Has h (L)){out:Bool}(H:cw.f m s0=some out) :
  ∃r h',a7 Tryd.prog aS cf m 86 [.str s0] h=some (r,h')∧fB h' r (.bool out):=by
 refine ak (fn:=Tryd.f86) ha Tryd.func86 (by kernel_rfl) (by kernel_rfl) ?_
 refine aF (Q:=fun s=>cw.fin L out s) (fun _ _ h=>h) ?_
 have H:_=some out:=H
 unfold cw.f at H
 show de _ cf zl m _ ⟨.str s0::sf [],[],h⟩ _
 refine q1 <| qq <| qq ?_
 rcases dw H with⟨c0,H⟩| ⟨c0,H⟩
 ·obtain rfl:=oi H
  exact qr [.b 3 c0] <| pa <| qq <| q0 <| qt <| ⟨.inl rfl,bZ (.bool false) h (bX (aj))⟩
 ·refine qr [.b 3 c0] <| qc H (fun c2 H=>?_) (fun c2 H=>?_)
  ·obtain rfl:=oi H
   exact q1 <| qt <| ⟨.inl rfl,bZ (.bool false) h (bX (aj))⟩
  ·refine qk <| qq <| qq <| q0 <| qb 0 ?_
   obtain⟨bq,e2,H⟩:=aJ H
   refine ql (cw.bG L s0  GD (0:Int) _ _ ⟨h,by kernel_rfl,o⟩ e2) ?_
   rintro e s (⟨rfl,i1,rfl,g0,g1,g2,h1,rfl,o1⟩| ⟨rfl,r0,rfl,lJ⟩)
   ·try dsimp only at H
    obtain rfl:=oi H
    exact q1 <| qt <| ⟨.inl rfl,bZ (.bool true) h1 (bX (aj))⟩
   ·try dsimp only at H
    obtain rfl:=oi H
    exact⟨.inl rfl,lJ⟩
end
end Go.Proofs.YtmekcfdllhphlaaDoor
namespace Go.Proofs.YtmekcfdllhphlaaDoor
open Go Go.R
open Go.IntKind (i64 u64 u8 u32)
def Cr:cg:=gk [0,2] [] [2,1] [] []
def dZ.f (m:Nat)(s0:ByteArray):Option (Bool):=if (s0.data.toList==(Xf #[124]).data.toList)=true then (some true) else (if (s0.data.toList==(Xf #[35]).data.toList)=true then (some true) else ((cw.f m s0).bind fun x0=>if x0=true then ((bt s0 (0:Int)).bind fun v0=>if (decide (v0≥(97:Int)))=true then ((bt s0 (0:Int)).bind fun v1=>some (decide (v1≤(122:Int)))) else (some false)) else (some false)))
def dZ.fin (L:Mem)(r:Bool)(s:St):Prop:=∃av,aI Tryd.prog (s.open Cr) Tryd.f69.results.toList=some av∧fB s.h av (.bool r)
def TA (cf:CallF)(m:Nat):Prop:=∀(s0:ByteArray) (r:Bool),dZ.f m s0=some r→∀h xs,ej eL h xs [.str s0]→cf 69 xs h=some (.bool r,h)
section
variable {cf:CallF}{m:Nat}
theorem pD {aS:FuncId→cg}(ha:aS 69=Cr)(KV:Tz cf m)(s0:ByteArray)(h:AHeap)(L:Mem)  (o:Has h (L)){out:Bool}(H:dZ.f m s0=some out) :
  ∃r h',a7 Tryd.prog aS cf m 69 [.str s0] h=some (r,h')∧fB h' r (.bool out):=by
 refine ak (fn:=Tryd.f69) ha Tryd.func69 (by kernel_rfl) (by kernel_rfl) ?_
 refine aF (Q:=fun s=>dZ.fin L out s) (fun _ _ h=>h) ?_
 have H:_=some out:=H
 unfold dZ.f at H
 show de _ cf Cr m _ ⟨[.str s0,.any],[],h⟩ _
 refine q1 <| qq ?_
 rcases dw H with⟨c0,H⟩| ⟨c0,H⟩
 ·obtain rfl:=oi H
  exact qr [.b 2 c0] <| qt <| ⟨.inl rfl,bZ (.bool true) h (bX (aj))⟩
 ·rcases dw H with⟨c1,H⟩| ⟨c1,H⟩
  ·obtain rfl:=oi H
   exact qr [.b 2 c0,.b 6 c1] <| qt <| ⟨.inl rfl,bZ (.bool true) h (bX (aj))⟩
  ·obtain⟨x0,e0,H⟩:=aJ H
   rcases dw H with⟨c2,H⟩| ⟨c2,H⟩
   ·obtain⟨v0,e1,H⟩:=aJ H
    rcases dw H with⟨c3,H⟩| ⟨c3,H⟩
    ·obtain⟨v1,e2,H⟩:=aJ H
     obtain rfl:=oi H
     exact qr [.b 2 c0,.b 6 c1,.a 8 (KV _ _ e0 h _ (ga (ab (bK) (ax)))),.b 9 c2,.v 11 (mh (k:=.i64) U9 e1),.b 14 c3,.v 16 (mh (k:=.i64) U9 e2)] <| qt <| ⟨.inl rfl,bZ (.bool (decide (v1≤(122:Int)))) h (bX (aj))⟩
    ·obtain rfl:=oi H
     exact qr [.b 2 c0,.b 6 c1,.a 8 (KV _ _ e0 h _ (ga (ab (bK) (ax)))),.b 9 c2,.v 11 (mh (k:=.i64) U9 e1),.b 14 c3] <| qt <| ⟨.inl rfl,bZ (.bool false) h (bX (aj))⟩
   ·obtain rfl:=oi H
    exact qr [.b 2 c0,.b 6 c1,.a 8 (KV _ _ e0 h _ (ga (ab (bK) (ax)))),.b 9 c2] <| qt <| ⟨.inl rfl,bZ (.bool false) h (bX (aj))⟩
end
end Go.Proofs.YtmekcfdllhphlaaDoor
