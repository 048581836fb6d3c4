/- Part of the proof: Q57, Q37, Q38, Q39, Q58, Q40, Q15, PU1, PU2, PB3, PB5, PB6, PB7, PB8. -/
import Derived.Test.YtmekcfdllhphlaaDoorK11
set_option linter.unusedVariables false
set_option linter.unusedSimpArgs false
set_option maxRecDepth 100000
open Bool renaming false_eq_true → W9, true_and → X6
open Eq renaming trans → XN
open Int renaming toNat_natCast → WX
open List renaming length_set → WY, getElem?_eq_some_iff → WZ, mem_singleton → W4, getElem?_eq_getElem → W5, drop_eq_getElem_cons → W6, mem_append → W8, getD_eq_getElem?_getD → Xb, replicate → Xc, length_cons → Xf, getElem?_append_right → Xg, mem_cons → Xo, drop_eq_nil_of_le → Xp, drop_zero → Xr, nil_append → Xs, getElem?_cons_zero → Xz, mem_append_left → XA, all_cons → XO, idxOf_lt_length_of_mem → XS, idxOf_append → X3, nodup_append → X4, mem_filter → Yk
open Nat renaming le_refl → WU, le_trans → XD, sub_self → Yo
open Option renaming bind_some → WQ
open Option.some renaming injEq → WT, inj → Xn
namespace Go.Proofs.YtmekcfdllhphlaaDoor
open Go Go.R
open Go.IntKind (i64 u64 u8 u32)
def lJ:cd:=gh [0,1,4,5,6,7,8,9,10,11,12,13,14,15,16,17,18,19,20,21,22,32,45,59,84,94,120,133,147] [4,10,18,20] [536870904,536870898,536870882,536870850,536870786,534773634,536870786,536870786,536870722,532676418,536870722,536870466,536869954,536868930,528480322,536868930,536868930,536870466,536870722,536868811,536864715,520087499,536864715,536856523,503302091,536856523,536856523,536854475,536821707,469712843,536821707,536821707,536788939,536657867,402440139,536657867,536395723,535871435,534822859,266387403,534822859,534822859,536395723,536657867,536870907] [(42,[(21,none,0)]),(44,[(18,some 0,0)])] [(3,[(7,none,4)]),(12,[(11,none,1)]),(32,[(18,some 0,4)]),(37,[(21,none,1)])]
def ai.l0 (m:Nat)(x0:(List Int)):Nat→(List Int)→Int→Option ((List Int) × Int)
 | 0,_,_=>none
 | k+1,fk,i0=>if (decide (i0<(x0.length:Int)))=true then ((ix x0 i0).bind fun v0=>(ix fk v0).bind fun v1=>ai.l0 m x0 k (fk.set v0.toNat i0) (i64.wrap (i0+(1:Int)))) else (some ((fk,i0)))
def ai.l2 (m:Nat)(bb:List Int)(v3:ae):Nat→(List Int)→Int→Option ((List Int) × Int)
 | 0,_,_=>none
 | k+1,eD,k0=>if (decide (k0<(v3.args.length:Int)))=true then ((ix v3.args k0).bind fun v4=>(ix bb v4).bind fun v5=>(app 8 eD ([v5])).bind fun x2=>ai.l2 m bb v3 k x2 (i64.wrap (k0+(1:Int)))) else (some ((eD,k0)))
def ai.l1 (m:Nat)(l0:List ae)(x0:(List Int))(bb:List Int):Nat→(List ae)→Int→Option ((List ae) × Int)
 | 0,_,_=>none
 | k+1,eP,i2=>if (decide (i2<(x0.length:Int)))=true then ((ix x0 i2).bind fun v2=>(ix l0 v2).bind fun v3=>(ai.l2 m bb v3 m ([]:List Int) (0:Int)).bind fun cD=>match cD with | (mE,k1)=>(app 56 eP [ae.mk v3.kind v3.int v3.label mE]).bind fun x3=>ai.l1 m l0 x0 bb k x3 (i64.wrap (i2+(1:Int)))) else (some ((eP,i2)))
def ai.l4 (m:Nat)(x4:(List Int))(i4:Int):Nat→(List ae)→Int→Option ((List ae) × Int)
 | 0,_,_=>none
 | k+1,dG,k2=>(ix dG i4).bind fun v6=>if (decide (k2<(v6.args.length:Int)))=true then ((ix dG i4).bind fun v7=>(ix dG i4).bind fun v8=>(ix v8.args k2).bind fun v9=>(ix x4 v9).bind fun v10=>(ix v7.args k2).bind fun v11=>ai.l4 m x4 i4 k (dG.set i4.toNat (ae.mk v7.kind v7.int v7.label (v7.args.set k2.toNat v10))) (i64.wrap (k2+(1:Int)))) else (some ((dG,k2)))
def ai.l3 (m:Nat)(x4:(List Int)):Nat→(List ae)→Int→Option ((List ae) × Int)
 | 0,_,_=>none
 | k+1,iP,i4=>if (decide (i4<(iP.length:Int)))=true then ((ai.l4 m x4 i4 m iP (0:Int)).bind fun pf=>match pf with | (GJ,k3)=>ai.l3 m x4 k GJ (i64.wrap (i4+(1:Int)))) else (some ((iP,i4)))
def ai.l5 (m:Nat)(x5:(List Int)):Nat→(List Int)→Int→Option ((List Int) × Int)
 | 0,_,_=>none
 | k+1,fl,i6=>if (decide (i6<(x5.length:Int)))=true then ((ix x5 i6).bind fun v12=>(ix fl v12).bind fun H7=>ai.l5 m x5 k (fl.set v12.toNat i6) (i64.wrap (i6+(1:Int)))) else (some ((fl,i6)))
def ai.l7 (m:Nat)(cy:List Int)(ni:ae):Nat→(List Int)→Int→Option ((List Int) × Int)
 | 0,_,_=>none
 | k+1,iQ,k4=>if (decide (k4<(ni.args.length:Int)))=true then ((ix ni.args k4).bind fun lS=>(ix cy lS).bind fun LM=>(app 8 iQ ([LM])).bind fun x6=>ai.l7 m cy ni k x6 (i64.wrap (k4+(1:Int)))) else (some ((iQ,k4)))
def ai.l6 (m:Nat)(bU:List ae)(x5:(List Int))(cy:List Int):Nat→Int→(List ae)→Int→Option (Int × (List ae) × Int)
 | 0,_,_,_=>none
 | k+1,i8,gG,mC=>if (decide (i8<(x5.length:Int)))=true then ((ix x5 i8).bind fun zV=>(ix bU zV).bind fun ni=>(ai.l7 m cy ni m ([]:List Int) (0:Int)).bind fun FN=>match FN with | (zr,k5)=>(app 56 gG ([(ae.mk ni.kind ni.int ni.label zr)])).bind fun x7=>ai.l6 m bU x5 cy k (i64.wrap (i8+(1:Int))) x7 mC) else (some ((i8,gG,mC)))
def ai.f (m:Nat)(l0:List ae)(gJ:Int):Option (au):=(aK.f m l0 gJ).bind fun x0=>(uM 8 (l0.length:Int) (0:Int)).bind fun x1=>(ai.l0 m x0 m x1 (0:Int)).bind fun bo=>match bo with | (bb,i1)=>(ai.l1 m l0 x0 bb m ([]:List ae) (0:Int)).bind fun jt=>match jt with | (uq,i3)=>(ah.f m uq).bind fun x4=>(ai.l3 m x4 m uq (0:Int)).bind fun cN=>match cN with | (bU,i5)=>(aK.f m bU (0:Int)).bind fun x5=>(ai.l5 m x5 m bb (0:Int)).bind fun y4=>match y4 with | (cy,i7)=>(ai.l6 m bU x5 cy m (0:Int) ([]:List ae) (0:Int)).bind fun Jn=>match Jn with | (i9,IA,GK)=>some (au.mk IA GK)
def ai.fin (L:Mem)(r:au)(s:St):Prop:=∃av,aI Tryd.prog (s.open lJ) Tryd.f57.results.toList=some av∧yD s.h av (.agg [af.fz r.nodes,.int .i64 r.root])
def TE (cf:CallF)(m:Nat):Prop:=∀(l0:List ae) (gJ:Int) (r:au),ai.f m l0 gJ=some r→∀h xs,ml xs [af.fz l0,.int .i64 gJ]→cf 57 xs h=some (.agg [af.fz r.nodes,.int .i64 r.root],h)
section
variable {cf:CallF}{m:Nat}
theorem ai.bG (L:Mem)(l0:List ae)(x0:(List Int))   : bI Tryd.prog cf lJ m (sub [1,1,1,1,0,1,0,0] (codeOf Tryd.f57)) (fun k (σ:(List Int) × Int)=>ai.l0 m x0 k σ.1 σ.2) (fun σ s=>match σ with | (fk,i0)=>∃gH h1,s=⟨af.fz l0 :: .any :: .lp 4 0::aa.fz x0 :: .rs gH 0 fk.length 1 :: .rs (0) 0 (([]:List ae).length) 4 :: .int .i64 i0::MH [],[some [.nils,.int .i64 (0:Int)],none,none,none],h1⟩∧Has h1 (((0),.sl (([]:List ae).length) 4 (gU.l (cb ([]:List ae) ([]:List Nat))))::(gH,.sl fk.length 1 (aa.l fk))::(iT ([]:List ae) ([]:List Nat)++L))) (fun out e s=>(e = .exit 0∧∃fk i0,(fk,i0)=out∧∃rG Lc gH h1,s=⟨af.fz l0 :: .any :: .lp 4 0::aa.fz x0 :: .rs gH 0 fk.length 1 :: .rs (0) 0 (([]:List ae).length) 4::rG::rA (Lc::Dm []),[some [.nils,.int .i64 (0:Int)],none,none,none],h1⟩∧Has h1 (((0),.sl (([]:List ae).length) 4 (gU.l (cb ([]:List ae) ([]:List Nat))))::(gH,.sl fk.length 1 (aa.l fk))::(iT ([]:List ae) ([]:List Nat)++L)))):=by
 refine hX (fun _=>rfl) ?_
 rintro k ⟨fk,i0⟩ s out ⟨gH,h1,rfl,o2⟩ H
 have H:ai.l0 m x0 (k+1) fk i0=some out:=H
 refine qq <| qq <| q0 <| qc H (fun c0 H=>?_) (fun c0 H=>?_)
 ·refine qk <| qq <| qb 1 ?_
  obtain⟨v0,e3,H⟩:=aJ H
  obtain⟨v1,e4,H⟩:=aJ H
  obtain⟨h2,e5,o3⟩:=dK (P:=Tryd.prog) (tf:=3) (E:=aa) (l:=fk) (q:=1) (v:=i0) (x:=.int .i64 i0) o2 rfl Z3 e4 rfl rfl
  exact qr [.v 3 (bD (k:=.i64) (E:=aa) (l:=x0) dA e3),.v 4 (dd  (E:=aa) (l:=x0) h1 A3 e3 rfl),.v 6 (aG (k:=.i64) (E:=aa) (l:=fk) (q:=1) dA o2 rfl e4),.w 7 e5] <| q0 <| ⟨(fk.set v0.toNat i0,i64.wrap (i0+(1:Int))),⟨gH,h2,(XN (b:=⟨af.fz l0 :: .any :: .lp 4 0::aa.fz x0 :: .rs gH 0 fk.length 1 :: .rs (0) 0 (([]:List ae).length) 4 :: .int .i64 (i64.wrap (i0+(1:Int)))::MH [],[some [.nils,.int .i64 (0:Int)],none,none,none],h2⟩) (by kernel_rfl) (by simp only [WY])),(by have o:Has h2 (((0),.sl (([]:List ae).length) 4 (gU.l (cb ([]:List ae) ([]:List Nat))))::(gH,.sl fk.length 1 (aa.l (fk.set v0.toNat i0)))::(iT ([]:List ae) ([]:List Nat)++L)):=o3; simpa only [WY] using o)⟩,H⟩
 ·exact qx 0 <| ⟨rfl,fk,i0,oi H,.int .i64 i0,.bool (decide (i0<(x0.length:Int))),gH,h1,by kernel_rfl,o2⟩
theorem ai.ph (L:Mem)(l0:List ae)(x0:(List Int))(di:Nat)(bb:List Int)(di:Nat)(fy:Nat)(eP:List ae)(i2:Int)(fy:Nat)(nj:List Nat)(v3:ae)   : bI Tryd.prog cf lJ m (sub [1,1,1,1,1,0,1,0,0,1,0,0,1,1,0,1,0,0] (codeOf Tryd.f57)) (fun k (σ:(List Int) × Int)=>ai.l2 m bb v3 k σ.1 σ.2) (fun σ s=>match σ with | (eD,k0)=>∃gZ h5,s=⟨af.fz l0 :: .any :: .lp 4 0::aa.fz x0 :: .rs di 0 bb.length 1 :: .rs fy 0 eP.length 4 :: .any :: .int .i64 i2 :: .lp 10 0 :: .rs gZ 0 eD.length 1 :: .int .i64 k0::MF [],[some [.nils,.int .i64 (0:Int)],some [.int .i64 v3.kind,.int .i64 v3.int,.str v3.label,aa.fz v3.args],none,none],h5⟩∧Has h5 ((gZ,.sl eD.length 1 (aa.l eD))::(fy,.sl eP.length 4 (gU.l (cb eP nj)))::(di,.sl bb.length 1 (aa.l bb))::(iT eP nj++L))) (fun out e s=>(e = .exit 4∧∃eD k0,(eD,k0)=out∧∃xF Ra gZ h5,s=⟨af.fz l0 :: .any :: .lp 4 0::aa.fz x0 :: .rs di 0 bb.length 1 :: .rs fy 0 eP.length 4 :: .any :: .int .i64 i2 :: .lp 10 0 :: .rs gZ 0 eD.length 1::xF::mX (Ra::tl []),[some [.nils,.int .i64 (0:Int)],some [.int .i64 v3.kind,.int .i64 v3.int,.str v3.label,aa.fz v3.args],none,none],h5⟩∧Has h5 ((gZ,.sl eD.length 1 (aa.l eD))::(fy,.sl eP.length 4 (gU.l (cb eP nj)))::(di,.sl bb.length 1 (aa.l bb))::(iT eP nj++L)))):=by
 refine hX (fun _=>rfl) ?_
 rintro k ⟨eD,k0⟩ s out ⟨gZ,h5,rfl,o7⟩ H
 have H:ai.l2 m bb v3 (k+1) eD k0=some out:=H
 refine qq <| qq <| q0 <| qc H (fun c2 H=>?_) (fun c2 H=>?_)
 ·refine qk <| qq <| qb 5 ?_
  obtain⟨v4,e9,H⟩:=aJ H
  obtain⟨v5,pe,H⟩:=aJ H
  obtain⟨x2,sj,H⟩:=aJ H
  obtain⟨gW,h6,uA,o8⟩:=fY (P:=Tryd.prog) (E:=aa) (l:=eD) (q:=0) (t2:=42) (x:=.fz [.int .i64 v5] 1 true) (l2:=([v5])) dA o7 rfl (by kernel_rfl) rfl sj
  exact qr [.v 5 (bD (k:=.i64) (E:=aa) (l:=v3.args) dA e9),.v 6 (dd  (E:=aa) (l:=v3.args) h5 A3 e9 rfl),.v 7 (aG (k:=.i64) (E:=aa) (l:=bb) (q:=2) dA o7 rfl pe),.v 8 (be  (E:=aa) (l:=bb) (q:=2) o7 rfl A3 pe rfl),.a 10 uA] <| q0 <| ⟨(x2,i64.wrap (k0+(1:Int))),⟨gW,h6,by kernel_rfl,o8⟩,H⟩
 ·exact qx 4 <| ⟨rfl,eD,k0,oi H,.int .i64 k0,.bool (decide (k0<(v3.args.length:Int))),gZ,h5,by kernel_rfl,o7⟩
theorem ai.fW (L:Mem)(l0:List ae)(x0:(List Int))(di:Nat)(bb:List Int)(di:Nat)   : bI Tryd.prog cf lJ m (sub [1,1,1,1,1,0,1,0,0] (codeOf Tryd.f57)) (fun k (σ:(List ae) × Int)=>ai.l1 m l0 x0 bb k σ.1 σ.2) (fun σ s=>match σ with | (eP,i2)=>∃fy nj h4,s=⟨af.fz l0 :: .any :: .lp 4 0::aa.fz x0 :: .rs di 0 bb.length 1 :: .rs fy 0 eP.length 4 :: .any :: .int .i64 i2::MG [],[some [.nils,.int .i64 (0:Int)],none,none,none],h4⟩∧Has h4 ((fy,.sl eP.length 4 (gU.l (cb eP nj)))::(di,.sl bb.length 1 (aa.l bb))::(iT eP nj++L))) (fun out e s=>(e = .exit 2∧∃eP i2,(eP,i2)=out∧∃kQ y5 tI Rb fy nj h4,s=⟨kQ :: .any :: .lp 4 0::y5 :: .rs di 0 bb.length 1 :: .rs fy 0 eP.length 4 :: .any::tI::rA (Rb::Hf []),[some [.nils,.int .i64 (0:Int)],none,none,none],h4⟩∧Has h4 ((fy,.sl eP.length 4 (gU.l (cb eP nj)))::(di,.sl bb.length 1 (aa.l bb))::(iT eP nj++L)))):=by
 refine hX (fun _=>rfl) ?_
 rintro k ⟨eP,i2⟩ s out ⟨fy,nj,h4,rfl,o5⟩ H
 have H:ai.l1 m l0 x0 bb (k+1) eP i2=some out:=H
 refine qq <| qq <| q0 <| qc H (fun c1 H=>?_) (fun c1 H=>?_)
 ·refine qk <| qq <| qb 3 <| qq ?_
  obtain⟨v2,e7,H⟩:=aJ H
  obtain⟨v3,e8,H⟩:=aJ H
  refine qr [.v 3 (bD (k:=.i64) (E:=aa) (l:=x0) dA e7),.v 4 (dd  (E:=aa) (l:=x0) h4 A3 e7 rfl),.v 5 (bD (k:=.i64) (E:=af) (l:=l0) lG e8),.v 6 (dE  (E:=af) (l:=l0) h4 sf sh e8)] <| qq <| q0 ?_
  have o6:Has h4 ((((0)),.sl (([]:List Int).length) 1 (aa.l ([]:List Int)))::(fy,.sl eP.length 4 (gU.l (cb eP nj)))::(di,.sl bb.length 1 (aa.l bb))::(iT eP nj++L)):=Has.nil o5 1
  refine qq <| qq <| q0 <| qb 4 ?_
  obtain⟨cD,uB,H⟩:=aJ H
  refine ql (ai.ph L l0 x0 di bb di fy eP i2 fy nj v3   (([]:List Int),(0:Int)) _ _ ⟨((0)),h4,by kernel_rfl,o6⟩ uB) ?_
  rintro e s ⟨rfl,mE,k1,rfl,g2,g3,gX,h7,rfl,o9⟩
  try dsimp only at H
  refine q1 ?_
  obtain⟨x3,uS,H⟩:=aJ H
  obtain⟨iB,Rc,h8,uC,uQ⟩:=Km (P:=Tryd.prog) (t2:=29) (pre:=[(di,.sl bb.length 1 (aa.l bb))]) (ns:=eP) (ids:=nj) (kind:=v3.kind) (int:=v3.int) (label:=v3.label) (args:=mE) (x:=.fz [.int .i64 v3.kind,.int .i64 v3.int,.str v3.label,.rs gX 0 mE.length 1] 1 true) lG (Has.front (Has.front (Has.front o9 2 rfl) 1 rfl) 2 rfl) (by kernel_rfl) rfl uS
  exact qr [.a 3 uC] <| q0 <| ⟨(x3,i64.wrap (i2+(1:Int))),⟨iB,Rc,h8,by kernel_rfl,uQ⟩,H⟩
 ·exact qx 2 <| ⟨rfl,eP,i2,oi H,af.fz l0,aa.fz x0,.int .i64 i2,.bool (decide (i2<(x0.length:Int))),fy,nj,h4,by kernel_rfl,o5⟩
theorem ai.tO (L:Mem)(di:Nat)(bb:List Int)(di:Nat)(x4:(List Int))(i4:Int)   : bI Tryd.prog cf lJ m (sub [1,1,1,1,1,1,1,0,1,0,0,1,0,0,1,0,0] (codeOf Tryd.f57)) (fun k (σ:(List ae) × Int)=>ai.l4 m x4 i4 k σ.1 σ.2) (fun σ s=>match σ with | (dG,k2)=>∃eT j6 h11,s=⟨.any :: .any :: .lp 4 0 :: .any :: .rs di 0 bb.length 1 :: .rs eT 0 dG.length 4::tl (aa.fz x4 :: .int .i64 i4 :: .int .i64 k2::H0 []),[some [.nils,.int .i64 (0:Int)],none,none,none],h11⟩∧Has h11 ((eT,.sl dG.length 4 (gU.l (cb dG j6)))::(di,.sl bb.length 1 (aa.l bb))::(iT dG j6++L))) (fun out e s=>(e = .exit 8∧∃dG k2,(dG,k2)=out∧∃qu Rd eT j6 h11,s=⟨.any :: .any :: .lp 4 0 :: .any :: .rs di 0 bb.length 1 :: .rs eT 0 dG.length 4::tl (aa.fz x4 :: .int .i64 i4::qu::oY (Rd::kz [])),[some [.nils,.int .i64 (0:Int)],none,none,none],h11⟩∧Has h11 ((eT,.sl dG.length 4 (gU.l (cb dG j6)))::(di,.sl bb.length 1 (aa.l bb))::(iT dG j6++L)))):=by
 refine hX (fun _=>rfl) ?_
 rintro k ⟨dG,k2⟩ s out ⟨eT,j6,h11,rfl,lM⟩ H
 have H:ai.l4 m x4 i4 (k+1) dG k2=some out:=H
 refine qq <| qq ?_
 obtain⟨v6,B1,H⟩:=aJ H
 refine qr [.v 3 (aG (k:=.i64) (E:=gU) (l:=(cb dG j6)) (q:=0) lG lM rfl (kj B1)),.v 5 (wQ  (E:=gU) (l:=(cb dG j6)) (q:=0) (off:=3) lM rfl Kp (kj B1) rfl)] <| qc H (fun c4 H=>?_) (fun c4 H=>?_)
 ·refine qk <| qq <| qb 9 ?_
  obtain⟨v7,xe,H⟩:=aJ H
  obtain⟨v8,B2,H⟩:=aJ H
  obtain⟨v9,D6,H⟩:=aJ H
  obtain⟨v10,D4,H⟩:=aJ H
  obtain⟨v11,Fz,H⟩:=aJ H
  obtain⟨h12,D5,yP⟩:=Kn (P:=Tryd.prog) (tf:=3) (pre:=[(di,.sl bb.length 1 (aa.l bb))]) (v:=v10) lM Z3 xe Fz
  refine qr [.v 2 (aG (k:=.i64) (E:=gU) (l:=(cb dG j6)) (q:=0) lG lM rfl (kj xe)),.v 4 (wQ  (E:=gU) (l:=(cb dG j6)) (q:=0) (off:=3) lM rfl Kp (kj xe) rfl),.v 9 (aG (k:=.i64) (E:=gU) (l:=(cb dG j6)) (q:=0) lG lM rfl (kj B2)),.v 11 (wQ  (E:=gU) (l:=(cb dG j6)) (q:=0) (off:=3) lM rfl Kp (kj B2) rfl),.v 13 (aG (k:=.i64) (E:=aa) (l:=v8.args) dA lM (qm (pre:=[(eT,.sl dG.length 4 (gU.l (cb dG j6))),(di,.sl bb.length 1 (aa.l bb))]) (ids:=j6) B2) D6),.v 14 (be  (E:=aa) (l:=v8.args) lM (qm (pre:=[(eT,.sl dG.length 4 (gU.l (cb dG j6))),(di,.sl bb.length 1 (aa.l bb))]) (ids:=j6) B2) A3 D6 rfl),.v 15 (bD (k:=.i64) (E:=aa) (l:=x4) dA D4),.v 16 (dd  (E:=aa) (l:=x4) h11 A3 D4 rfl),.v 17 (aG (k:=.i64) (E:=aa) (l:=v7.args) dA lM (qm (pre:=[(eT,.sl dG.length 4 (gU.l (cb dG j6))),(di,.sl bb.length 1 (aa.l bb))]) (ids:=j6) xe) Fz),.w 18 D5] ?_
  exact q0 <| ⟨(dG.set i4.toNat (ae.mk v7.kind v7.int v7.label (v7.args.set k2.toNat v10)),i64.wrap (k2+(1:Int))),⟨eT,j6,h12,(XN (b:=⟨.any :: .any :: .lp 4 0 :: .any :: .rs di 0 bb.length 1 :: .rs eT 0 dG.length 4::tl (aa.fz x4 :: .int .i64 i4 :: .int .i64 (i64.wrap (k2+(1:Int)))::H0 []),[some [.nils,.int .i64 (0:Int)],none,none,none],h12⟩) (by kernel_rfl) (by simp only [WY])),(by have o:Has h12 ((eT,.sl dG.length 4 (gU.l (cb (dG.set i4.toNat (ae.mk v7.kind v7.int v7.label (v7.args.set k2.toNat v10))) j6)))::(di,.sl bb.length 1 (aa.l bb))::(iT (dG.set i4.toNat (ae.mk v7.kind v7.int v7.label (v7.args.set k2.toNat v10))) j6++L)):=yP; simpa only [WY] using o)⟩,H⟩
 ·exact qx 8 <| ⟨rfl,dG,k2,oi H,.int .i64 k2,.bool (decide (k2<(v6.args.length:Int))),eT,j6,h11,by kernel_rfl,lM⟩
theorem ai.tN (L:Mem)(di:Nat)(bb:List Int)(di:Nat)(x4:(List Int))   : bI Tryd.prog cf lJ m (sub [1,1,1,1,1,1,1,0,1,0,0] (codeOf Tryd.f57)) (fun k (σ:(List ae) × Int)=>ai.l3 m x4 k σ.1 σ.2) (fun σ s=>match σ with | (iP,i4)=>∃xQ zt h10,s=⟨.any :: .any :: .lp 4 0 :: .any :: .rs di 0 bb.length 1 :: .rs xQ 0 iP.length 4::tl (aa.fz x4 :: .int .i64 i4::E8 []),[some [.nils,.int .i64 (0:Int)],none,none,none],h10⟩∧Has h10 ((xQ,.sl iP.length 4 (gU.l (cb iP zt)))::(di,.sl bb.length 1 (aa.l bb))::(iT iP zt++L))) (fun out e s=>(e = .exit 6∧∃iP i4,(iP,i4)=out∧∃mu tL Re xQ zt h10,s=⟨.any :: .any :: .lp 4 0 :: .any :: .rs di 0 bb.length 1 :: .rs xQ 0 iP.length 4::tl (mu::tL::oY (Re::oq [])),[some [.nils,.int .i64 (0:Int)],none,none,none],h10⟩∧Has h10 ((xQ,.sl iP.length 4 (gU.l (cb iP zt)))::(di,.sl bb.length 1 (aa.l bb))::(iT iP zt++L)))):=by
 refine hX (fun _=>rfl) ?_
 rintro k ⟨iP,i4⟩ s out ⟨xQ,zt,h10,rfl,tK⟩ H
 have H:ai.l3 m x4 (k+1) iP i4=some out:=H
 refine qq <| qq <| q0 <| qc H (fun c3 H=>?_) (fun c3 H=>?_)
 ·refine qk <| qq <| qb 7 <| qq <| q0 <| qb 8 ?_
  obtain⟨pf,FA,H⟩:=aJ H
  refine ql (ai.tO L di bb di x4 i4   (iP,(0:Int)) _ _ ⟨xQ,zt,h10,by kernel_rfl,tK⟩ FA) ?_
  rintro e s ⟨rfl,GJ,k3,rfl,g8,g9,nY,Rf,h13,rfl,zU⟩
  try dsimp only at H
  exact q0 <| ⟨(GJ,i64.wrap (i4+(1:Int))),⟨nY,Rf,h13,by kernel_rfl,zU⟩,H⟩
 ·exact qx 6 <| ⟨rfl,iP,i4,oi H,aa.fz x4,.int .i64 i4,.bool (decide (i4<(iP.length:Int))),xQ,zt,h10,by kernel_rfl,tK⟩
theorem ai.GA (L:Mem)(fO:Nat)(bU:List ae)(fO:Nat)(gj:List Nat)(x5:(List Int))   : bI Tryd.prog cf lJ m (sub [1,1,1,1,1,1,1,1,1,0,1,0,0] (codeOf Tryd.f57)) (fun k (σ:(List Int) × Int)=>ai.l5 m x5 k σ.1 σ.2) (fun σ s=>match σ with | (fl,i6)=>∃gY h15,s=⟨.any :: .any :: .lp 4 0 :: .any :: .rs gY 0 fl.length 1 :: .rs fO 0 bU.length 4::se (aa.fz x5 :: .int .i64 i6::nV []),[some [.nils,.int .i64 (0:Int)],none,none,none],h15⟩∧Has h15 ((fO,.sl bU.length 4 (gU.l (cb bU gj)))::(gY,.sl fl.length 1 (aa.l fl))::(iT bU gj++L))) (fun out e s=>(e = .exit 10∧∃fl i6,(fl,i6)=out∧∃xc GB gY h15,s=⟨.any :: .any :: .lp 4 0 :: .any :: .rs gY 0 fl.length 1 :: .rs fO 0 bU.length 4::se (aa.fz x5::xc::wW [GB,.any,.any]),[some [.nils,.int .i64 (0:Int)],none,none,none],h15⟩∧Has h15 ((fO,.sl bU.length 4 (gU.l (cb bU gj)))::(gY,.sl fl.length 1 (aa.l fl))::(iT bU gj++L)))):=by
 refine hX (fun _=>rfl) ?_
 rintro k ⟨fl,i6⟩ s out ⟨gY,h15,rfl,AI⟩ H
 have H:ai.l5 m x5 (k+1) fl i6=some out:=H
 refine qq <| qq <| q0 <| qc H (fun c5 H=>?_) (fun c5 H=>?_)
 ·refine qk <| qq <| qb 11 ?_
  obtain⟨v12,FC,H⟩:=aJ H
  obtain⟨H7,FD,H⟩:=aJ H
  obtain⟨h16,FB,DD⟩:=dK (P:=Tryd.prog) (tf:=3) (E:=aa) (l:=fl) (q:=1) (v:=i6) (x:=.int .i64 i6) AI rfl Z3 FD rfl rfl
  exact qr [.v 3 (bD (k:=.i64) (E:=aa) (l:=x5) dA FC),.v 4 (dd  (E:=aa) (l:=x5) h15 A3 FC rfl),.v 6 (aG (k:=.i64) (E:=aa) (l:=fl) (q:=1) dA AI rfl FD),.w 7 FB] <| q0 <| ⟨(fl.set v12.toNat i6,i64.wrap (i6+(1:Int))),⟨gY,h16,(XN (b:=⟨.any :: .any :: .lp 4 0 :: .any :: .rs gY 0 fl.length 1 :: .rs fO 0 bU.length 4::se (aa.fz x5 :: .int .i64 (i64.wrap (i6+(1:Int)))::nV []),[some [.nils,.int .i64 (0:Int)],none,none,none],h16⟩) (by kernel_rfl) (by simp only [WY])),(by have o:Has h16 ((fO,.sl bU.length 4 (gU.l (cb bU gj)))::(gY,.sl fl.length 1 (aa.l (fl.set v12.toNat i6)))::(iT bU gj++L)):=DD; simpa only [WY] using o)⟩,H⟩
 ·exact qx 10 <| ⟨rfl,fl,i6,oi H,.int .i64 i6,.bool (decide (i6<(x5.length:Int))),gY,h15,by kernel_rfl,AI⟩
theorem ai.NQ (L:Mem)(fO:Nat)(bU:List ae)(fO:Nat)(gj:List Nat)(x5:(List Int))(jZ:Nat)(cy:List Int)(jZ:Nat)(iA:Nat)(i8:Int)(gG:List ae)(mC:Int)(iA:Nat)(zV:Int)(ni:ae)(Hj:ix bU zV=some ni)   : bI Tryd.prog cf lJ m (sub [1,1,1,1,1,1,1,1,1,1,1,0,1,0,0,1,0,0,1,1,0,1,0,0] (codeOf Tryd.f57)) (fun k (σ:(List Int) × Int)=>ai.l7 m cy ni k σ.1 σ.2) (fun σ s=>match σ with | (iQ,k4)=>∃lP h19,s=⟨.any :: .any :: .lp 4 0 :: .any :: .rs jZ 0 cy.length 1 :: .rs fO 0 bU.length 4::se (aa.fz x5 :: .any :: .lp 18 0 :: .int .i64 i8 :: .lp 20 0 :: .rs lP 0 iQ.length 1 :: .int .i64 k4::se []),[some [.nils,.int .i64 (0:Int)],none,some [.rs iA 0 gG.length 4,.int .i64 mC],some [.int .i64 ni.kind,.int .i64 ni.int,.str ni.label,.rs (I7 gj zV) 0 ni.args.length 1]],h19⟩∧Has h19 ((lP,.sl iQ.length 1 (aa.l iQ))::(iA,.sl gG.length 4 (af.l gG))::(fO,.sl bU.length 4 (gU.l (cb bU gj)))::(jZ,.sl cy.length 1 (aa.l cy))::(iT bU gj++L))) (fun out e s=>(e = .exit 14∧∃iQ k4,(iQ,k4)=out∧∃AH NR lP h19,s=⟨.any :: .any :: .lp 4 0 :: .any :: .rs jZ 0 cy.length 1 :: .rs fO 0 bU.length 4::se (aa.fz x5 :: .any :: .lp 18 0 :: .int .i64 i8 :: .lp 20 0 :: .rs lP 0 iQ.length 1::AH::Dm [NR]),[some [.nils,.int .i64 (0:Int)],none,some [.rs iA 0 gG.length 4,.int .i64 mC],some [.int .i64 ni.kind,.int .i64 ni.int,.str ni.label,.rs (I7 gj zV) 0 ni.args.length 1]],h19⟩∧Has h19 ((lP,.sl iQ.length 1 (aa.l iQ))::(iA,.sl gG.length 4 (af.l gG))::(fO,.sl bU.length 4 (gU.l (cb bU gj)))::(jZ,.sl cy.length 1 (aa.l cy))::(iT bU gj++L)))):=by
 refine hX (fun _=>rfl) ?_
 rintro k ⟨iQ,k4⟩ s out ⟨lP,h19,rfl,D7⟩ H
 have H:ai.l7 m cy ni (k+1) iQ k4=some out:=H
 refine qq <| qq <| q0 <| qc H (fun c7 H=>?_) (fun c7 H=>?_)
 ·refine qk <| qq <| qb 15 ?_
  obtain⟨lS,LF,H⟩:=aJ H
  obtain⟨LM,LG,H⟩:=aJ H
  obtain⟨x6,Nk,H⟩:=aJ H
  obtain⟨qE,h20,Nl,Ia⟩:=fY (P:=Tryd.prog) (E:=aa) (l:=iQ) (q:=0) (t2:=42) (x:=.fz [.int .i64 LM] 1 true) (l2:=([LM])) dA D7 rfl (by kernel_rfl) rfl Nk
  exact qr [.v 5 (aG (k:=.i64) (E:=aa) (l:=ni.args) dA D7 (qm (pre:=[(lP,.sl iQ.length 1 (aa.l iQ)),(iA,.sl gG.length 4 (af.l gG)),(fO,.sl bU.length 4 (gU.l (cb bU gj))),(jZ,.sl cy.length 1 (aa.l cy))]) (ids:=gj) Hj) LF),.v 6 (be  (E:=aa) (l:=ni.args) D7 (qm (pre:=[(lP,.sl iQ.length 1 (aa.l iQ)),(iA,.sl gG.length 4 (af.l gG)),(fO,.sl bU.length 4 (gU.l (cb bU gj))),(jZ,.sl cy.length 1 (aa.l cy))]) (ids:=gj) Hj) A3 LF rfl),.v 7 (aG (k:=.i64) (E:=aa) (l:=cy) (q:=3) dA D7 rfl LG),.v 8 (be  (E:=aa) (l:=cy) (q:=3) D7 rfl A3 LG rfl),.a 10 Nl] <| q0 <| ⟨(x6,i64.wrap (k4+(1:Int))),⟨qE,h20,by kernel_rfl,Ia⟩,H⟩
 ·exact qx 14 <| ⟨rfl,iQ,k4,oi H,.int .i64 k4,.bool (decide (k4<(ni.args.length:Int))),lP,h19,by kernel_rfl,D7⟩
theorem ai.Gz (L:Mem)(fO:Nat)(bU:List ae)(fO:Nat)(gj:List Nat)(x5:(List Int))(jZ:Nat)(cy:List Int)(jZ:Nat)   : bI Tryd.prog cf lJ m (sub [1,1,1,1,1,1,1,1,1,1,1,0,1,0,0] (codeOf Tryd.f57)) (fun k (σ:Int × (List ae) × Int)=>ai.l6 m bU x5 cy k σ.1 σ.2.1 σ.2.2) (fun σ s=>match σ with | (i8,gG,mC)=>∃iA h18,s=⟨.any :: .any :: .lp 4 0 :: .any :: .rs jZ 0 cy.length 1 :: .rs fO 0 bU.length 4::se (aa.fz x5 :: .any :: .lp 18 0 :: .int .i64 i8::oY []),[some [.nils,.int .i64 (0:Int)],none,some [.rs iA 0 gG.length 4,.int .i64 mC],none],h18⟩∧Has h18 ((iA,.sl gG.length 4 (af.l gG))::(fO,.sl bU.length 4 (gU.l (cb bU gj)))::(jZ,.sl cy.length 1 (aa.l cy))::(iT bU gj++L))) (fun out e s=>(e = .exit 12∧∃i8 gG mC,(i8,gG,mC)=out∧∃DF w7 AZ KX NS iA h18,s=⟨.any :: .any :: .lp 4 0 :: .any::DF::w7::se (AZ :: .any :: .lp 18 0::KX::Dn [NS,.any]),[some [.nils,.int .i64 (0:Int)],none,some [.rs iA 0 gG.length 4,.int .i64 mC],none],h18⟩∧Has h18 ((iA,.sl gG.length 4 (af.l gG))::(fO,.sl bU.length 4 (gU.l (cb bU gj)))::(jZ,.sl cy.length 1 (aa.l cy))::(iT bU gj++L)))):=by
 refine hX (fun _=>rfl) ?_
 rintro k ⟨i8,gG,mC⟩ s out ⟨iA,h18,rfl,xk⟩ H
 have H:ai.l6 m bU x5 cy (k+1) i8 gG mC=some out:=H
 refine qq <| qq <| q0 <| qc H (fun c6 H=>?_) (fun c6 H=>?_)
 ·refine qk <| qq <| qb 13 <| qq ?_
  obtain⟨zV,KF,H⟩:=aJ H
  obtain⟨ni,Hj,H⟩:=aJ H
  refine qr [.v 3 (bD (k:=.i64) (E:=aa) (l:=x5) dA KF),.v 4 (dd  (E:=aa) (l:=x5) h18 A3 KF rfl),.v 5 (aG (k:=.i64) (E:=gU) (l:=(cb bU gj)) (q:=1) lG xk rfl (kj Hj)),.v 6 (HN  (E:=gU) (l:=(cb bU gj)) (q:=1) xk rfl sf sh (kj Hj))] <| qq <| q0 ?_
  have FT:Has h18 ((((((0)))),.sl (([]:List Int).length) 1 (aa.l ([]:List Int)))::(iA,.sl gG.length 4 (af.l gG))::(fO,.sl bU.length 4 (gU.l (cb bU gj)))::(jZ,.sl cy.length 1 (aa.l cy))::(iT bU gj++L)):=Has.nil xk 1
  refine qq <| qq <| q0 <| qb 14 ?_
  obtain⟨FN,KH,H⟩:=aJ H
  refine ql (ai.NQ L fO bU fO gj x5 jZ cy jZ iA i8 gG mC iA zV ni Hj   (([]:List Int),(0:Int)) _ _ ⟨((((0)))),h18,by kernel_rfl,FT⟩ KH) ?_
  rintro e s ⟨rfl,zr,k5,rfl,g15,g16,qF,h21,rfl,No⟩
  try dsimp only at H
  refine qq ?_
  obtain⟨h22,LH,nc⟩:=ja (E:=aa) (l:=zr) (q:=0) No rfl
  refine zT [.a 0 LH] [] ?_
  obtain⟨x7,Nn,H⟩:=aJ H
  obtain⟨KV,h23,Ib,Jc⟩:=fY (P:=Tryd.prog) (E:=af) (l:=gG) (q:=0) (t2:=29) (x:=.fz [.int .i64 ni.kind,.int .i64 ni.int,.str ni.label,aa.fz zr] 1 true) (l2:=([(ae.mk ni.kind ni.int ni.label zr)])) lG nc rfl (by kernel_rfl) rfl Nn
  exact qr [.a 4 Ib] <| q0 <| ⟨(i64.wrap (i8+(1:Int)),x7,mC),⟨KV,h23,by kernel_rfl,Jc⟩,H⟩
 ·exact qx 12 <| ⟨rfl,i8,gG,mC,oi H,.rs jZ 0 cy.length 1,.rs fO 0 bU.length 4,aa.fz x5,.int .i64 i8,.bool (decide (i8<(x5.length:Int))),iA,h18,by kernel_rfl,xk⟩
theorem qK {aS:FuncId→cd}(ha:aS 57=lJ)(NT:Tv cf m)(Rg:Tg cf m)(l0:List ae)(gJ:Int)(h:AHeap)(L:Mem)  (o:Has h (L)){out:au}(H:ai.f m l0 gJ=some out) :
  ∃r h',aZ Tryd.prog aS cf m 57 [af.fz l0,.int .i64 gJ] h=some (r,h')∧yD h' r (.agg [af.fz out.nodes,.int .i64 out.root]):=by
 refine aj (fn:=Tryd.f57) ha Tryd.func57 (by kernel_rfl) (by kernel_rfl) ?_
 refine aD (Q:=fun s=>ai.fin L out s) (fun _ _ h=>h) ?_
 have H:_=some out:=H
 unfold ai.f at H
 show de _ cf lJ m _ ⟨af.fz l0 :: .int .i64 gJ::MI [],[none,none,none,none],h⟩ _
 refine q1 <| qq ?_
 obtain⟨x0,e0,H⟩:=aJ H
 refine qr [.a 2 (NT _ _ _ e0 h _ (gf (ab (b4 (E:=af)) (ab (aH) (ax)))))] <| qq ?_
 obtain⟨x1,e1,H⟩:=aJ H
 obtain⟨aA,h0,e2,o0⟩:=nS (P:=Tryd.prog) (E:=aa) (z:=(0:Int)) (zv:=.int .i64 (0:Int)) dA o 3 rfl rfl rfl rfl e1
 refine qr [.a 2 e2] <| qq <| q0 ?_
 have o1:Has h0 (((0),.sl (([]:List ae).length) 4 (gU.l (cb ([]:List ae) ([]:List Nat))))::(aA,.sl x1.length 1 (aa.l x1))::(iT ([]:List ae) ([]:List Nat)++L)):=Has.nil o0 4
 refine qq <| qq <| q0 <| qb 0 ?_
 obtain⟨bo,e6,H⟩:=aJ H
 refine ql (ai.bG L l0 x0   (x1,(0:Int)) _ _ ⟨aA,h0,by kernel_rfl,o1⟩ e6) ?_
 rintro e s ⟨rfl,bb,i1,rfl,g0,g1,di,h3,rfl,o4⟩
 try dsimp only at H
 refine qq <| qq <| q0 <| qb 2 ?_
 obtain⟨jt,xP,H⟩:=aJ H
 refine ql (ai.fW L l0 x0 di bb di   (([]:List ae),(0:Int)) _ _ ⟨(0),([]:List Nat),h3,by kernel_rfl,o4⟩ xP) ?_
 rintro e s ⟨rfl,uq,i3,rfl,g4,g5,g6,g7,kT,Ld,h9,rfl,vE⟩
 try dsimp only at H
 refine qq ?_
 obtain⟨x4,xd,H⟩:=aJ H
 refine qr [.a 1 (Rg _ _ xd h9 _ (gf (ab (Fh (pre:=[(kT,.sl uq.length 4 (gU.l (cb uq Ld))),(di,.sl bb.length 1 (aa.l bb))]) (ns:=uq) (ids:=Ld) (q:=0) vE rfl) (ax))))] <| qq <| qq <| q0 <| qb 6 ?_
 obtain⟨cN,FE,H⟩:=aJ H
 refine ql (ai.tN L di bb di x4   (uq,(0:Int)) _ _ ⟨kT,Ld,h9,by kernel_rfl,vE⟩ FE) ?_
 rintro e s ⟨rfl,bU,i5,rfl,g10,g11,g12,fO,gj,h14,rfl,lR⟩
 try dsimp only at H
 refine qq ?_
 obtain⟨x5,Hh,H⟩:=aJ H
 refine qr [.a 1 (NT _ _ _ Hh h14 _ (gf (ab (Fh (pre:=[(fO,.sl bU.length 4 (gU.l (cb bU gj))),(di,.sl bb.length 1 (aa.l bb))]) (ns:=bU) (ids:=gj) (q:=0) lR rfl) (ab (aH) (ax)))))] <| qq <| qq <| q0 <| qb 10 ?_
 obtain⟨y4,H8,H⟩:=aJ H
 refine ql (ai.GA L fO bU fO gj x5   (bb,(0:Int)) _ _ ⟨di,h14,by kernel_rfl,lR⟩ H8) ?_
 rintro e s ⟨rfl,cy,i7,rfl,g13,g14,jZ,h17,rfl,DE⟩
 try dsimp only at H
 refine q1 ?_
 have KG:Has h17 (((((0))),.sl (([]:List ae).length) 4 (af.l ([]:List ae)))::(fO,.sl bU.length 4 (gU.l (cb bU gj)))::(jZ,.sl cy.length 1 (aa.l cy))::(iT bU gj++L)):=Has.nil DE 4
 refine qq <| qq <| q0 <| qb 12 ?_
 obtain⟨Jn,Ja,H⟩:=aJ H
 refine ql (ai.Gz L fO bU fO gj x5 jZ cy jZ   ((0:Int),([]:List ae),(0:Int)) _ _ ⟨(((0))),h17,by kernel_rfl,KG⟩ Ja) ?_
 rintro e s ⟨rfl,i9,IA,GK,rfl,g17,g18,g19,g20,g21,ia,h24,rfl,Hk⟩
 try dsimp only at H
 refine qq ?_
 obtain⟨h25,Jb,Np⟩:=ja (E:=af) (l:=IA) (q:=0) Hk rfl
 refine zT [.a 0 Jb] [] ?_
 have Nq:Has h25 ((fO,.sl bU.length 4 (gU.l (cb bU gj)))::(iT bU gj++L)):=Has.del Np 1
 have Oq:Has h25 (L):=Has.gone (pre:=[]) (Has.del Nq 0)
 obtain rfl:=oi H
 exact qt <| ⟨.inl rfl,wY (.agg [af.fz IA,.int .i64 GK]) h25 (pU (cg (ab (b4) (ab (aH) (ax)))))⟩
end
end Go.Proofs.YtmekcfdllhphlaaDoor
namespace Go.Proofs.YtmekcfdllhphlaaDoor
open Go Go.R
open Go.IntKind (i64 u64 u8 u32)
def Cv:cd:=gh [0,1,2,3,6] [1,2] [25,9,19,19] [] []
def fc.f (m:Nat)(t0:au):Option (au × Int):=(bZ.f m t0).bind fun x0=>if (!x0)=true then (some ((au.mk ([]) (0:Int)),(2:Int))) else ((ai.f m t0.nodes t0.root).bind fun x1=>some (x1,(0:Int)))
def fc.fin (L:Mem)(r:au × Int)(s:St):Prop:=∃av,aI Tryd.prog (s.open Cv) Tryd.f37.results.toList=some av∧yD s.h av (.tup [.agg [af.fz r.1.nodes,.int .i64 r.1.root],.int .i64 r.2])
def Rh (cf:CallF)(m:Nat):Prop:=∀(t0:au) (r:au × Int),fc.f m t0=some r→∀h xs,ml xs [.agg [af.fz t0.nodes,.int .i64 t0.root]]→cf 37 xs h=some (.tup [.agg [af.fz r.1.nodes,.int .i64 r.1.root],.int .i64 r.2],h)
section
variable {cf:CallF}{m:Nat}
theorem qL {aS:FuncId→cd}(ha:aS 37=Cv)(Ri:TD cf m)(Rj:TE cf m)(t0:au)(h:AHeap)(L:Mem)  (o:Has h (L)){out:au × Int}(H:fc.f m t0=some out) :
  ∃r h',aZ Tryd.prog aS cf m 37 [.agg [af.fz t0.nodes,.int .i64 t0.root]] h=some (r,h')∧yD h' r (.tup [.agg [af.fz out.1.nodes,.int .i64 out.1.root],.int .i64 out.2]):=by
 refine aj (fn:=Tryd.f37) ha Tryd.func37 (by kernel_rfl) (by kernel_rfl) ?_
 refine aD (Q:=fun s=>fc.fin L out s) (fun _ _ h=>h) ?_
 have H:_=some out:=H
 unfold fc.f at H
 show de _ cf Cv m _ ⟨.agg [af.fz t0.nodes,.int .i64 t0.root]::oq [],[none,none],h⟩ _
 refine q1 <| qq <| qq ?_
 obtain⟨x0,e0,H⟩:=aJ H
 refine qr [.a 1 (Ri _ _ e0 h _ (gf (ab (cg (ab (b4 (E:=af)) (ab (aH) (ax)))) (ax))))] <| qc H (fun c0 H=>?_) (fun c0 H=>?_)
 ·obtain rfl:=oi H
  exact q1 <| qt <| ⟨.inl rfl,wY (.tup [.agg [.nils,.int .i64 (0:Int)],.int .i64 (2:Int)]) h (pU (gz (ab (cg (ab (gQ) (ab (aH) (ax)))) (ab (aH) (ax)))))⟩
 ·refine qk <| qq ?_
  obtain⟨x1,e1,H⟩:=aJ H
  obtain rfl:=oi H
  exact qr [.a 4 (Rj _ _ _ e1 h _ (cG (iK (E:=af)) (cG (bC) (gA))))] <| qt <| ⟨.inl rfl,wY (.tup [.agg [af.fz x1.nodes,.int .i64 x1.root],.int .i64 (0:Int)]) h (pU (gz (ab (cg (ab (b4) (ab (aH) (ax)))) (ab (aH) (ax)))))⟩
end
end Go.Proofs.YtmekcfdllhphlaaDoor
namespace Go.Proofs.YtmekcfdllhphlaaDoor
open Go Go.R
open Go.IntKind (i64 u64 u8 u32)
end Go.Proofs.YtmekcfdllhphlaaDoor
namespace Go.Proofs.YtmekcfdllhphlaaDoor
open Go Go.R
open Go.IntKind (i64 u64 u8 u32)
end Go.Proofs.YtmekcfdllhphlaaDoor
namespace Go.Proofs.YtmekcfdllhphlaaDoor
open Go Go.R
open Go.IntKind (i64 u64 u8 u32)
end Go.Proofs.YtmekcfdllhphlaaDoor
namespace Go.Proofs.YtmekcfdllhphlaaDoor
open Go Go.R
open Go.IntKind (i64 u64 u8 u32)
end Go.Proofs.YtmekcfdllhphlaaDoor
namespace Go.Proofs.YtmekcfdllhphlaaDoor
open Go Go.R
open Go.IntKind (i64 u64 u8 u32)
end Go.Proofs.YtmekcfdllhphlaaDoor
namespace Go.Proofs.YtmekcfdllhphlaaDoor
open Go Go.R
open Go.IntKind (i64 u64 u8 u32)
end Go.Proofs.YtmekcfdllhphlaaDoor
namespace Go.Proofs.YtmekcfdllhphlaaDoor
open Go Go.R
open Go.IntKind (i64 u64 u8 u32)
end Go.Proofs.YtmekcfdllhphlaaDoor
namespace Go.Proofs.YtmekcfdllhphlaaDoor
open Go Go.R
open Go.IntKind (i64 u64 u8 u32)
theorem xI {m:Nat}(c:Int):eZ.f m c=some (gT c):=by
 unfold eZ.f
 by_cases h1:97≤c<;>by_cases h2:c≤122<;>by_cases h3:65≤c<;>by_cases h4:c≤90<;>by_cases h5:48≤c<;>by_cases h6:c≤57<;>simp [gT,h1,h2,h3,h4,h5,h6]<;>omega
theorem zu {m:Nat}{s:ByteArray}(hs:s.size≤16):∀(f i:Nat),s.size - i<f→i≤s.size→
  ∃o,cu.l0 m s f (i:Int)=some o∧((∃x,o = .inr x)∧((s.data.toList.drop i).all fun c=>gT (c.toNat:Int))=true∨o = .inl false∧((s.data.toList.drop i).all fun c=>gT (c.toNat:Int))=false)
 | 0,i,hf,_=>absurd hf (by omega)
 | f+1,i,hf,hi=>by
  unfold cu.l0
  by_cases h:i<s.size
  ·obtain⟨c,hc,hb⟩:=si h
   obtain⟨h4,h5⟩:=WZ.1 hc
   have hd:s.data.toList.drop i=c::s.data.toList.drop (i+1):=by rw [←h5]; exact W6 h4
   rw [if_pos (by simp only [decide_eq_true_eq]; omega),hb,WQ,xI,WQ,hd,XO]
   cases hl:gT (c.toNat:Int) with
   | false=>exact⟨_,rfl,.inr ⟨rfl,rfl⟩⟩
   | true=>
    obtain⟨o,h1,h2⟩:=zu (m:=m) hs f (i+1) (by omega) (by omega)
    rw [if_neg (by simp),aE (by omega) (by omega),show (i:Int)+1=((i+1:Nat):Int) by omega,h1]
    exact⟨o,rfl,by simpa using h2⟩
  ·refine⟨_,by rw [if_neg (by simp only [decide_eq_true_eq]; omega)],.inl ⟨⟨_,rfl⟩,?_⟩⟩
   rw [Xp (by simp; omega)]; rfl
def GL (s:ByteArray):Bool:=decide (1≤s.data.toList.length)&&decide (s.data.toList.length≤16)&&s.data.toList.all fun c=>gT (c.toNat:Int)
theorem Bh {m:Nat}(hm:20≤m)(s:ByteArray):cu.f m s=some (GL s):=by
 have hsz:s.size=s.data.toList.length:=by simp
 unfold cu.f GL
 by_cases h1:1≤s.data.toList.length
 ·by_cases h2:s.data.toList.length≤16
  ·obtain⟨o,k1,k2⟩:=zu (m:=m) (s:=s) (by omega) m 0 (by omega) (by omega)
   have k1:cu.l0 m s m 0=_:=k1
   rw [Xr] at k2
   rw [if_neg (by simp only [decide_eq_true_eq]; omega),if_neg (by simp only [decide_eq_true_eq]; omega),k1,WQ,decide_eq_true h1,decide_eq_true h2]
   simp only [X6]
   rcases k2 with⟨⟨x,rfl⟩,k⟩| ⟨rfl,k⟩
   ·rw [k]
   ·rw [k]
  ·rw [if_neg (by simp only [decide_eq_true_eq]; omega),if_pos (by simp only [decide_eq_true_eq]; omega),decide_eq_false h2,Bool.and_false]; rfl
 ·rw [if_pos (by simp only [decide_eq_true_eq]; omega),decide_eq_false h1]; rfl
theorem rp {m:Nat}(hm:20≤m)(s:ByteArray):eh.f m s=some (lH s):=by
 have hsz:s.size=s.data.toList.length:=by simp
 unfold eh.f lH
 show (if (s.data.toList==[124])=true then _ else if (s.data.toList==[35])=true then _ else _)=_
 cases h1:s.data.toList==[124] with
 | true=>rfl
 | false=>
  cases h2:s.data.toList==[35] with
  | true=>rfl
  | false=>
   simp only [W9,if_false,Bool.false_or]
   rw [Bh hm,WQ]
   unfold GL yT
   cases hl:s.data.toList with
   | nil=>rfl
   | cons c cs=>
    obtain⟨c',g1,g2⟩:=si (s:=s) (i:=0) (by rw [hsz,hl]; simp)
    rw [hl] at g1
    simp only [Xz,WT] at g1
    subst g1
    have g2:bt s 0=_:=g2
    rw [g2]
    simp only [WQ,Xf]
    cases ha:(c::cs).all fun c=>gT (c.toNat:Int) with
    | false=>simp
    | true=>
     by_cases h3:cs.length≤15
     ·rw [decide_eq_true (show 1≤cs.length+1 by omega),decide_eq_true (show cs.length+1≤16 by omega),decide_eq_true h3]
      simp only [Bool.and_self,if_true,Bool.and_true,X6]
      by_cases h4:(97:Int)≤(c.toNat:Int)
      ·rw [if_pos (by simpa using h4),decide_eq_true h4]; rfl
      ·rw [if_neg (by simpa using h4),decide_eq_false h4]; rfl
     ·rw [decide_eq_false (show ¬cs.length+1≤16 by omega),decide_eq_false h3]; simp
theorem zw {m:Nat}{n:ae}{size:Int}(h8:n.args.length≤8):∀(f i:Nat),n.args.length - i<f→i≤n.args.length→
  ∃o,bY.l0 m n size f (i:Int)=some o∧((∃x,o = .inr x)∧((n.args.drop i).all fun a=>decide (0≤a)&&decide (a<size))=true∨o = .inl false∧((n.args.drop i).all fun a=>decide (0≤a)&&decide (a<size))=false)
 | 0,i,hf,_=>absurd hf (by omega)
 | f+1,i,hf,hi=>by
  unfold bY.l0
  by_cases h:i<n.args.length
  ·have hd:n.args.drop i=gt n.args i::n.args.drop (i+1):=by
    obtain⟨h4,h5⟩:=WZ.1 (bp h)
    rw [←h5]; exact W6 h4
   rw [if_pos (by simp only [decide_eq_true_eq]; omega),cE h,WQ,hd,XO,WQ]
   by_cases h1:gt n.args i<0
   ·rw [if_pos (by simpa using h1),decide_eq_false (show ¬0≤gt n.args i by omega)]
    exact⟨_,rfl,.inr ⟨rfl,rfl⟩⟩
   ·rw [if_neg (by simpa using h1),decide_eq_true (show 0≤gt n.args i by omega)]
    by_cases h2:gt n.args i<size
    ·obtain⟨o,k1,k2⟩:=zw (m:=m) (size:=size) h8 f (i+1) (by omega) (by omega)
     rw [if_neg (by simp only [decide_eq_true_eq]; omega),decide_eq_true h2,aE (by omega) (by omega),show (i:Int)+1=((i+1:Nat):Int) by omega,k1]
     exact⟨o,rfl,by simpa using k2⟩
    ·rw [if_pos (by simp only [decide_eq_true_eq]; omega),decide_eq_false h2]
     exact⟨_,rfl,.inr ⟨rfl,rfl⟩⟩
  ·refine⟨_,by rw [if_neg (by simp only [decide_eq_true_eq]; omega)],.inl ⟨⟨_,rfl⟩,?_⟩⟩
   rw [Xp (by omega)]; rfl
theorem Bi {m:Nat}(hm:20≤m)(n:ae)(size:Int):bY.f m n size=some (kl n size):=by
 unfold bY.f kl
 by_cases k0:n.kind=0
 ·rw [if_pos (by simpa using k0),if_pos k0]
  by_cases h1:0≤n.int
  ·rw [if_pos (by simpa using h1),show decide (0≤n.int)=true by simpa using h1]
   show (if (n.label.data.toList==[])=true then _ else _)=_
   cases n.label.data.toList==[] with
   | true=>rw [if_pos rfl,yV]; rfl
   | false=>rfl
  ·rw [if_neg (by simpa using h1),show decide (0≤n.int)=false by simp; omega]; rfl
 rw [if_neg (by simpa using k0),if_neg k0]
 by_cases k1:n.kind=1
 ·rw [if_pos (by simpa using k1),if_pos k1]
  by_cases h1 : -1099511627776≤n.int
  ·rw [if_pos (by simpa using h1),show decide (-1099511627776≤n.int)=true by simpa using h1]
   by_cases h3:n.int≤1099511627776
   ·rw [if_pos (by simpa using h3),show decide (n.int≤1099511627776)=true by simpa using h3]
    show (if (n.label.data.toList==[])=true then _ else _)=_
    cases n.label.data.toList==[] with
    | true=>rw [if_pos rfl,yV]; rfl
    | false=>rfl
   ·rw [if_neg (by simpa using h3),show decide (n.int≤1099511627776)=false by simp; omega]; rfl
  ·rw [if_neg (by simpa using h1),show decide (-1099511627776≤n.int)=false by simp; omega]; rfl
 rw [if_neg (by simpa using k1),if_neg k1]
 by_cases k2:n.kind=2
 ·rw [if_pos (by simpa using k2),if_pos k2,rp hm,WQ]
  cases lH n.label with
  | false=>simp
  | true=>
   rw [if_pos rfl]
   cases h1:n.int==0 with
   | false=>rfl
   | true=>rw [if_pos rfl,yV]; rfl
 rw [if_neg (by simpa using k2),if_neg k2]
 by_cases k4:n.kind=4
 ·rw [if_pos (by simpa using k4),if_neg (show ¬n.kind=3 by omega),if_pos k4]
  unfold yU
  show (if (n.label.data.toList==[112,114,111,99])=true then _ else if (n.label.data.toList==[99,101,108,108])=true then _ else if (n.label.data.toList==[112,111,114,116])=true then _ else _)=_
  by_cases h1:0≤n.int
  ·have d1:decide (n.int≥0)=true:=decide_eq_true h1
   rw [d1]
   cases n.label.data.toList==[112,114,111,99]<;>cases n.label.data.toList==[99,101,108,108]<;>cases n.label.data.toList==[112,111,114,116]<;>first | rfl | (show some ((n.args.length:Int)==(0:Int))=_; rw [yV]; rfl)
  ·have d1:decide (n.int≥0)=false:=decide_eq_false h1
   rw [d1]
   cases n.label.data.toList==[112,114,111,99]<;>cases n.label.data.toList==[99,101,108,108]<;>cases n.label.data.toList==[112,111,114,116]<;>rfl
 rw [if_neg (by simpa using k4)]
 by_cases k3:n.kind=3
 ·rw [if_pos (by simpa using k3),if_pos k3,rp hm,WQ]
  cases lH n.label with
  | false=>simp
  | true=>
   cases h1:n.int==0 with
   | false=>rfl
   | true=>
    simp only [Bool.not_true,W9,if_false,Bool.and_self,X6]
    by_cases g1:1≤n.args.length
    ·rw [if_neg (by simp only [decide_eq_true_eq]; omega),decide_eq_true g1]
     by_cases g2:n.args.length≤8
     ·obtain⟨o,k1,k2⟩:=zw (m:=m) (size:=size) g2 m 0 (by omega) (by omega)
      have k1:bY.l0 m n size m 0=_:=k1
      rw [Xr] at k2
      rw [if_neg (by simp only [decide_eq_true_eq]; omega),decide_eq_true g2,k1,WQ]
      simp only [X6]
      rcases k2 with⟨⟨x,rfl⟩,k⟩| ⟨rfl,k⟩
      ·rw [k]
      ·rw [k]
     ·rw [if_pos (by simp only [decide_eq_true_eq]; omega),decide_eq_false g2]; simp
    ·rw [if_pos (by simp only [decide_eq_true_eq]; omega),decide_eq_false g1]; simp
 rw [if_neg (by simpa using k3),if_neg k3,if_neg k4]
theorem vR {m:Nat}(hm:20≤m){t:au}(hl:t.nodes.length≤8000):∀(f i:Nat),t.nodes.length - i<f→i≤t.nodes.length→
  ∃o,bZ.l0 m t f (i:Int)=some o∧((∃x,o = .inr x)∧((t.nodes.drop i).all fun n=>kl n t.nodes.length)=true∨o = .inl false∧((t.nodes.drop i).all fun n=>kl n t.nodes.length)=false)
 | 0,i,hf,_=>absurd hf (by omega)
 | f+1,i,hf,hi=>by
  unfold bZ.l0
  by_cases h:i<t.nodes.length
  ·have hx:ix t.nodes (i:Int)=some t.nodes[i]:=by unfold ix; rw [if_pos (by omega)]; simp [h]
   rw [if_pos (by simp only [decide_eq_true_eq]; omega),hx,WQ,Bi hm,WQ,W6 h,XO]
   cases hb:kl t.nodes[i] t.nodes.length with
   | false=>exact⟨_,rfl,.inr ⟨rfl,rfl⟩⟩
   | true=>
    obtain⟨o,k1,k2⟩:=vR (m:=m) hm hl f (i+1) (by omega) (by omega)
    rw [if_neg (by simp),aE (by omega) (by omega),show (i:Int)+1=((i+1:Nat):Int) by omega,k1]
    exact⟨o,rfl,by simpa using k2⟩
  ·refine⟨_,by rw [if_neg (by simp only [decide_eq_true_eq]; omega)],.inl ⟨⟨_,rfl⟩,?_⟩⟩
   rw [Xp (by omega)]; rfl
theorem zx {m:Nat}(hm:2 ^ 30≤m)(t:au):bZ.f m t=some (dT t):=by
 have nb:(2:Nat) ^ 30=1073741824:=by decide
 unfold bZ.f dT
 by_cases h1:1≤t.nodes.length
 ·rw [if_neg (by simp only [decide_eq_true_eq]; omega),decide_eq_true h1]
  by_cases h2:t.nodes.length≤8000
  ·rw [if_neg (by simp only [decide_eq_true_eq]; omega),decide_eq_true h2]
   by_cases h3:0≤t.root
   ·rw [if_neg (by simp only [decide_eq_true_eq]; omega),decide_eq_true h3]
    by_cases h4:t.root<t.nodes.length
    ·rw [if_neg (by simp only [decide_eq_true_eq]; omega),decide_eq_true h4]
     obtain⟨o,k1,k2⟩:=vR (m:=m) (t:=t) (by omega) h2 m 0 (by omega) (by omega)
     have k1:bZ.l0 m t m 0=_:=k1
     rw [Xr] at k2
     rw [k1,WQ]
     simp only [X6]
     rcases k2 with⟨⟨x,rfl⟩,k⟩| ⟨rfl,k⟩
     ·rw [k]
     ·rw [k]
    ·rw [if_pos (by simp only [decide_eq_true_eq]; omega),decide_eq_false h4]; rfl
   ·rw [if_pos (by simp only [decide_eq_true_eq]; omega),decide_eq_false h3]; rfl
  ·rw [if_pos (by simp only [decide_eq_true_eq]; omega),decide_eq_false h2]; rfl
 ·rw [if_pos (by simp only [decide_eq_true_eq]; omega),decide_eq_false h1]; rfl
end Go.Proofs.YtmekcfdllhphlaaDoor
namespace Go.Proofs.YtmekcfdllhphlaaDoor
open Go Go.R
open Go.IntKind (i64 u64 u8 u32)
theorem rn.refl {l:List ae}{c:List Int}(i:Nat):rn l c i i:=⟨Alike.refl _,fun _ _=>rfl⟩
theorem rn.symm {l:List ae}{c:List Int}{i j:Nat}(h:rn l c i j):rn l c j i:=⟨h.1.symm,fun k hk=>(h.2 k (by have:=h.1.len; unfold na at *; omega)).symm⟩
theorem rn.trans {l:List ae}{c:List Int}{i j q:Nat}(h:rn l c i j)(g:rn l c j q):rn l c i q:=
 ⟨h.1.trans g.1,fun k hk=>(h.2 k hk).trans (g.2 k (by have:=h.1.len; unfold na at *; omega))⟩
theorem DM.symm {l:List ae}{R:Nat→Nat→Prop}(B:DM l R):DM l fun i j=>R j i:=
 ⟨fun i j h=>(B.nB j i h).symm,fun i j h=>(B.top j i h).symm,fun i j h k hk=>B.arg j i h k (by have:=(B.top j i h).len; omega)⟩
structure Ho (l:List ae)(cls:List Int)(dn:List Bool)(fs od:List Int):Prop where
 lc:cls.length=l.length
 ld:dn.length=l.length
 Rk:od.Nodup
 Le:∀x∈od,0≤x∧x<l.length
 Hp:∀i,i<l.length→(gb dn i=true↔(i:Int)∈od)
 uW:∀i:Nat,(i:Int)∈od→∀k,k<na l i→((ar l i k:Nat):Int)∈od∧od.idxOf ((ar l i k:Nat):Int)<od.idxOf (i:Int)
 OD:fs.Nodup
 fst:∀f∈fs,f∈od∧gt cls f.toNat=f
 pN:∀i:Nat,(i:Int)∈od→gt cls i∈fs∧rn l cls i (gt cls i).toNat
 apart:∀f∈fs,∀g∈fs,rn l cls f.toNat g.toNat→f=g
 coarse:∀R,DM l R→∀i j:Nat,R i j→(i:Int)∈od→(j:Int)∈od→gt cls i=gt cls j
theorem Cw {od:List Int}{n:Nat}(h:od.Nodup)(hr:∀x∈od,0≤x∧x<n):od.length≤n:=by
 have:=h.length_le_of_subset (l₂:=ints n) (fun x hx=>iM.2 (hr x hx))
 rwa [dM] at this
theorem Ho.Rm {l cls dn fs od}(P:Ho l cls dn fs od):∀f∈fs,0≤f∧f<l.length:=fun f hf=>P.Le f (P.fst f hf).1
theorem GM {l:List ae}{cls:List Int}{dn:List Bool}{fs od:List Int}(ok:kU l)(P:Ho l cls dn fs od){i:Nat}(hi:i<l.length)(hn:(i:Int)∉od)(hr:Tu l dn i){v:Int}
  (hv:v=i∧(∀f∈fs,¬rn l cls i f.toNat)∨v∈fs∧rn l cls i v.toNat) :
  Ho l (cls.set i v) (dn.set i true) (if v=i then fs++[(i:Int)] else fs) (od++[(i:Int)]):=by
 have TF:(i:Int)∉fs:=fun h=>hn (P.fst _ h).1
 have LN:v∈fs→v≠i:=fun h e=>TF (e ▸ h)
 have gc:∀x,x≠i→gt (cls.set i v) x=gt cls x:=fun x hx=>by rw [eC (by rw [P.lc]; exact hi),if_neg hx]
 have gi:gt (cls.set i v) i=v:=by rw [eC (by rw [P.lc]; exact hi),if_pos rfl]
 have ne:∀{x:Nat},(x:Int)∈od→x≠i:=fun h e=>hn (by rw [←e]; exact h)
 have ad:∀x:Nat,((x:Int)∈od∨x=i)→∀k,k<na l x→((ar l x k:Nat):Int)∈od:=fun x hx k hk=>by
  rcases hx with hx | rfl
  ·exact (P.uW x hx k hk).1
  ·exact (P.Hp _ (km ok hi hk).1).1 (hr k hk)
 have sm:∀x y:Nat,((x:Int)∈od∨x=i)→((y:Int)∈od∨y=i)→(rn l (cls.set i v) x y↔rn l cls x y):=fun x y hx hy=>by
  constructor
  ·rintro⟨a,b⟩
   refine⟨a,fun k hk=>?_⟩
   have:=b k hk
   rwa [gc _ (ne (ad x hx k hk)),gc _ (ne (ad y hy k (by have:=a.len; unfold na at *; omega)))] at this
  ·rintro⟨a,b⟩
   refine⟨a,fun k hk=>?_⟩
   rw [gc _ (ne (ad x hx k hk)),gc _ (ne (ad y hy k (by have:=a.len; unfold na at *; omega)))]
   exact b k hk
 have fo:∀f∈fs,((f.toNat:Nat):Int)∈od∧((f.toNat:Nat):Int)=f:=fun f hf=>by
  have h:=P.fst f hf
  have r:=P.Le f h.1
  have e:((f.toNat:Nat):Int)=f:=by omega
  exact⟨by rw [e]; exact h.1,e⟩
 have split:∀{x:Int},x∈od++[(i:Int)]→x∈od∨x=i:=fun h=>by
  rcases W8.1 h with h | h
  ·exact .inl h
  ·exact .inr (W4.1 h)
 have one:∀R,DM l R→∀j:Nat,R i j→(j:Int)∈od→v=gt cls j:=fun R B j hR hj=>by
  obtain⟨g1,g2⟩:=P.pN j hj
  have s1:rn l cls i j:=⟨B.top i j hR,fun k hk=>P.coarse R B _ _ (B.arg i j hR k hk) (ad i (.inr rfl) k hk) (ad j (.inl hj) k (by have:=(B.top i j hR).len; unfold na at *; omega))⟩
  rcases hv with⟨rfl,h⟩| ⟨h1,h2⟩
  ·exact absurd (s1.trans g2) (h _ g1)
  ·exact P.apart v h1 _ g1 (h2.symm.trans (s1.trans g2))
 refine⟨by simpa using P.lc,by simpa using P.ld,?_,?_,fun x hx=>?_,fun x hx k hk=>?_,?_,fun f hf=>?_,fun x hx=>?_,fun f hf g hg hs=>?_,fun R B x y hR hx hy=>?_⟩
 ·rw [X4]
  refine⟨P.Rk,by simp,fun a ha b hb=>?_⟩
  rw [W4] at hb
  subst hb; intro e; subst e; exact hn ha
 ·intro x hx
  rcases split hx with h | h
  ·exact P.Le x h
  ·omega
 ·rw [GC (by rw [P.ld]; exact hi),W8,W4]
  by_cases e:x=i
  ·subst e; simp
  ·rw [if_neg e,P.Hp x hx]
   constructor
   ·exact fun h=>.inl h
   ·rintro (h | h)
    ·exact h
    ·omega
 ·rcases split hx with h | h
  ·obtain⟨r1,r2⟩:=P.uW x h k hk
   refine⟨XA _ r1,?_⟩
   rw [X3,if_pos r1,X3,if_pos h]; exact r2
  ·have e:x=i:=by omega
   subst e
   have r1:=ad x (.inr rfl) k hk
   refine⟨XA _ r1,?_⟩
   rw [X3,if_pos r1,X3,if_neg hn]
   have:=XS r1
   omega
 ·split
  ·rw [X4]
   refine⟨P.OD,by simp,fun a ha b hb=>?_⟩
   rw [W4] at hb
   subst hb; intro e; subst e; exact TF ha
  ·exact P.OD
 ·have Mj:f∈fs∨(f=i∧v=i):=by
   split at hf
   ·rcases W8.1 hf with h | h
    ·exact .inl h
    ·exact .inr ⟨W4.1 h,by assumption⟩
   ·exact .inl hf
  rcases Mj with h | ⟨rfl,h2⟩
  ·obtain⟨a,b⟩:=P.fst f h
   refine⟨XA _ a,?_⟩
   rw [gc _ (by have:=(fo f h).1; exact ne this)]; exact b
  ·refine⟨by simp,?_⟩
   rw [WX,gi]; exact h2
 ·have TG:∀z∈fs,z∈(if v=(i:Int) then fs++[(i:Int)] else fs):=fun z hz=>by
   split
   ·exact XA _ hz
   ·exact hz
  rcases split hx with h | h
  ·obtain⟨a,b⟩:=P.pN x h
   rw [gc x (ne h)]
   exact⟨TG _ a,(sm x _ (.inl h) (.inl (fo _ a).1)).2 b⟩
  ·have e:x=i:=by omega
   subst e
   rw [gi]
   rcases hv with⟨rfl,_⟩| ⟨h1,h2⟩
   ·rw [if_pos rfl,WX]
    exact⟨by simp,rn.refl _⟩
   ·exact⟨TG _ h1,(sm x _ (.inr rfl) (.inl (fo _ h1).1)).2 h2⟩
 ·have cs:∀z,z∈(if v=(i:Int) then fs++[(i:Int)] else fs)→z∈fs∨(z=i∧v=i):=fun z hz=>by
   split at hz
   ·rcases W8.1 hz with h | h
    ·exact .inl h
    ·exact .inr ⟨W4.1 h,by assumption⟩
   ·exact .inl hz
  have TH:v=i→∀f∈fs,¬rn l cls i f.toNat:=fun e f hf=>by
   rcases hv with⟨_,h⟩| ⟨h,_⟩
   ·exact h f hf
   ·exact absurd e (LN h)
  rcases cs f hf with h1 | ⟨rfl,e1⟩
  ·rcases cs g hg with h2 | ⟨rfl,e2⟩
   ·exact P.apart f h1 g h2 ((sm _ _ (.inl (fo f h1).1) (.inl (fo g h2).1)).1 hs)
   ·rw [WX] at hs
    have:=(sm _ _ (.inl (fo f h1).1) (.inr rfl)).1 hs
    exact absurd this.symm (TH e2 f h1)
  ·rcases cs g hg with h2 | ⟨rfl,e2⟩
   ·rw [WX] at hs
    have:=(sm _ _ (.inr rfl) (.inl (fo g h2).1)).1 hs
    exact absurd this (TH e1 g h2)
   ·rfl
 ·rcases split hx with h1 | h1
  ·rcases split hy with h2 | h2
   ·rw [gc x (ne h1),gc y (ne h2)]; exact P.coarse R B x y hR h1 h2
   ·have e:y=i:=by omega
    subst e
    rw [gc x (ne h1),gi]
    exact (one _ B.symm x hR h1).symm
  ·have e:x=i:=by omega
   subst e
   rcases split hy with h2 | h2
   ·rw [gc y (ne h2),gi]; exact one R B y hR h2
   ·have e:y=x:=by omega
    subst e; rfl
theorem xJ {m:Nat}(hm:2 ^ 30≤m){l:List ae}(ok:kU l):∀(f i:Nat) (cls:List Int) (dn:List Bool) (fs od:List Int) (more:Bool),i<f→i≤l.length→Ho l cls dn fs od→
  ∃jz zy zz iw x uD,ah.l1 m l f cls dn fs more ((i:Int) - 1)=some (jz,zy,zz,iw,x)∧Ho l jz zy zz uD∧od.length≤uD.length∧
   (iw=true→more=true∨od.length<uD.length)∧(iw=false→more=false∧uD=od∧∀j,j<i→(j:Int)∉od→∃k,k<na l j∧((ar l j k:Nat):Int)∉od)
 | 0,i,_,_,_,_,_,hf,_,_=>absurd hf (by omega)
 | f+1,0,cls,dn,fs,od,more,hf,hi,P=>by
  unfold ah.l1
  rw [if_neg (by simp)]
  exact⟨cls,dn,fs,more,_,od,rfl,P,WU _,fun h=>.inl h,fun h=>⟨h,rfl,fun j hj=>absurd hj (by omega)⟩⟩
 | f+1,i+1,cls,dn,fs,od,more,hf,hi,P=>by
  have nb:(2:Nat) ^ 30=1073741824:=by decide
  have h8:=ok.1
  have At:i<l.length:=by omega
  unfold ah.l1
  have ei:((i+1:Nat):Int) - 1=(i:Int):=by omega
  have ew:i64.wrap ((i:Int) - 1)=(i:Int) - 1:=aE (by omega) (by omega)
  have hgb:ix dn (i:Int)=some (gb dn i):=by
   have:=Cp (l:=dn) (i:=(i:Int)) (by omega) (by rw [WX,P.ld]; exact At)
   rwa [WX] at this
  rw [ei,ew,if_pos (by simp),hgb,WQ]
  cases hd:gb dn i with
  | true=>
   rw [if_pos rfl]
   obtain⟨jz,zy,zz,iw,x,uD,k1,k2,k3,k4,k5⟩:=xJ hm ok f i cls dn fs od more (by omega) (by omega) P
   refine⟨jz,zy,zz,iw,x,uD,k1,k2,k3,k4,fun h=>?_⟩
   obtain⟨q1,q2,q3⟩:=k5 h
   refine⟨q1,q2,fun j hj hn=>?_⟩
   by_cases e:j=i
   ·subst e; exact absurd ((P.Hp j At).1 hd) hn
   ·exact q3 j (by omega) hn
  | false=>
   have AQ:(i:Int)∉od:=fun h=>by rw [(P.Hp i At).2 h] at hd; cases hd
   obtain⟨xr,r1,r2,r3⟩:=GF hm ok P.ld At
   rw [if_neg (by simp),hZ (by omega) (by omega),WQ,r1,WQ]
   cases xr with
   | false=>
    rw [if_pos (by simp)]
    obtain⟨jz,zy,zz,iw,x,uD,k1,k2,k3,k4,k5⟩:=xJ hm ok f i cls dn fs od more (by omega) (by omega) P
    refine⟨jz,zy,zz,iw,x,uD,k1,k2,k3,k4,fun h=>?_⟩
    obtain⟨q1,q2,q3⟩:=k5 h
    refine⟨q1,q2,fun j hj hn=>?_⟩
    by_cases e:j=i
    ·subst e
     obtain⟨k,g1,g2⟩:=r3 rfl
     exact⟨k,g1,fun h=>by rw [(P.Hp _ (km ok At g1).1).2 h] at g2; cases g2⟩
    ·exact q3 j (by omega) hn
   | true=>
    have J9:fs.length≤8000:=XD (Cw P.OD P.Rm) h8
    obtain⟨v,f1,f2⟩:=find_spec hm ok P.lc At P.Rm J9
    have P':=GM ok P At AQ (r2 rfl) f2
    have hlen:(od++[(i:Int)]).length=od.length+1:=by simp
    have e2:ix cls (i:Int)=some (gt cls i):=cE (by rw [P.lc]; exact At)
    have e3:ix (cls.set i v) (i:Int)=some v:=by
     rw [cE (by simpa using (by rw [P.lc]; exact At)),eC (by rw [P.lc]; exact At),if_pos rfl]
    have rest:∀OE,Ho l (cls.set i v) (dn.set i true) OE (od++[(i:Int)])→∃jz zy zz iw x uD,ah.l1 m l f (cls.set i v) (dn.set i true) OE true ((i:Int) - 1)=some (jz,zy,zz,iw,x)∧Ho l jz zy zz uD∧od.length≤uD.length∧
      (iw=true→more=true∨od.length<uD.length)∧(iw=false→more=false∧uD=od∧∀j,j<i+1→(j:Int)∉od→∃k,k<na l j∧((ar l j k:Nat):Int)∉od):=fun OE P2=>by
     obtain⟨jz,zy,zz,iw,x,uD,k1,k2,k3,k4,k5⟩:=xJ hm ok f i _ _ OE _ true (by omega) (by omega) P2
     exact⟨jz,zy,zz,iw,x,uD,k1,k2,by omega,fun _=>.inr (by omega),fun h=>absurd (k5 h).1 (by simp)⟩
    rw [if_neg (by simp),f1,WQ,e2,WQ,WX,e3,WQ]
    by_cases LN:v=i
    ·have lQ:app 8 fs [(i:Int)]=some (fs++[(i:Int)]):=by unfold app; rw [if_pos (by simp; omega)]
     rw [if_pos (by simpa using LN),lQ,WQ,WQ]
     rw [if_pos LN] at P'
     exact rest _ P'
    ·rw [if_neg (by simpa using LN),WQ]
     rw [if_neg LN] at P'
     exact rest _ P'
theorem GN {m:Nat}(hm:2 ^ 30≤m){l:List ae}(ok:kU l):∀(f:Nat) (cls:List Int) (dn:List Bool) (fs od:List Int),l.length - od.length+1<f→Ho l cls dn fs od→
  ∃jz zy zz uD,ah.l0 m l f cls dn fs true=some (jz,zy,zz,false)∧Ho l jz zy zz uD∧∀j,j<l.length→(j:Int)∉uD→∃k,k<na l j∧((ar l j k:Nat):Int)∉uD
 | 0,_,_,_,_,hf,_=>absurd hf (by omega)
 | f+1,cls,dn,fs,od,hf,P=>by
  have nb:(2:Nat) ^ 30=1073741824:=by decide
  have h8:=ok.1
  unfold ah.l0
  obtain⟨jz,zy,zz,iw,x,uD,k1,k2,k3,k4,k5⟩:=xJ hm ok m l.length cls dn fs od false (by omega) (WU _) P
  have ew:i64.wrap ((l.length:Int) - 1)=(l.length:Int) - 1:=aE (by omega) (by omega)
  rw [if_pos rfl,ew,k1,WQ]
  dsimp only
  have AT:=Cw k2.Rk k2.Le
  cases iw with
  | true=>
   rcases k4 rfl with h | h
   ·cases h
   ·exact GN hm ok f jz zy zz uD (by omega) k2
  | false=>
   obtain⟨_,rfl,q⟩:=k5 rfl
   obtain⟨g,rfl⟩:∃g,f=g+1:=⟨f - 1,by omega⟩
   refine⟨jz,zy,zz,uD,?_,k2,q⟩
   unfold ah.l0
   rw [if_neg (by simp)]
end Go.Proofs.YtmekcfdllhphlaaDoor
namespace Go.Proofs.YtmekcfdllhphlaaDoor
open Go Go.R
open Go.IntKind (i64 u64 u8 u32)
def bH (dn:List Bool):Nat→List Int
 | 0=>[]
 | p+1=>if gb dn p=true then bH dn p else bH dn p++[(p:Int)]
theorem iR {dn:List Bool}:∀{p:Nat} {x:Int},x∈bH dn p↔∃j:Nat,j<p∧gb dn j=false∧x=j
 | 0,x=>⟨fun h=>by simp [bH] at h,fun ⟨j,h,_⟩=>absurd h (by omega)⟩
 | p+1,x=>by
  unfold bH
  have ih:=iR (dn:=dn) (p:=p) (x:=x)
  split
  ·rename_i h
   rw [ih]
   constructor
   ·rintro⟨j,a,b,c⟩; exact⟨j,by omega,b,c⟩
   ·rintro⟨j,a,b,c⟩
    refine⟨j,?_,b,c⟩
    by_cases e:j=p
    ·subst e; rw [b] at h; cases h
    ·omega
  ·rename_i h
   rw [W8,ih,W4]
   constructor
   ·rintro (⟨j,a,b,c⟩| c)
    ·exact⟨j,by omega,b,c⟩
    ·exact⟨p,by omega,by simpa using h,c⟩
   ·rintro⟨j,a,b,c⟩
    by_cases e:j=p
    ·subst e; exact .inr c
    ·exact .inl ⟨j,by omega,b,c⟩
theorem il {dn:List Bool}:∀p,(bH dn p).length≤p
 | 0=>WU _
 | p+1=>by
  have:=il (dn:=dn) p
  unfold bH
  split
  ·omega
  ·simp; omega
theorem mK {dn:List Bool}:∀{p k q:Nat},k<q→q<(bH dn p).length→gt (bH dn p) k<gt (bH dn p) q
 | 0,k,q,_,h=>by simp [bH] at h
 | p+1,k,q,hk,h=>by
  unfold bH at h ⊢
  split at h
  ·rename_i g; rw [if_pos g]; exact mK hk h
  ·rename_i g
   rw [if_neg g]
   by_cases hq:q<(bH dn p).length
   ·rw [iv hq,iv (by omega)]; exact mK hk hq
   ·have e:q=(bH dn p).length:=by simp at h; omega
    have:gt (bH dn p++[(p:Int)]) q=p:=by
     subst e; unfold gt; rw [Xb,Xg (WU _),Yo]; rfl
    rw [this,iv (by omega)]
    obtain⟨j,a,b,c⟩:=iR.1 (aM (l:=bH dn p) (k:=k) (by omega))
    omega
structure NU (l:List ae)(dn:List Bool)(c0:List Int)(p:Nat)(cls:List Int):Prop where
 lc:cls.length=l.length
 old:∀j,gb dn j=true→gt cls j=gt c0 j
 pN:∀j:Nat,(j:Int)∈bH dn p→gt cls j∈bH dn p∧Alike (nd l j) (nd l (gt cls j))∧∀g∈bH dn p,Alike (nd l j) (nd l g)→gt cls j≤g
theorem GO {m:Nat}{l:List ae}{dn:List Bool}(ok:kU l){cls:List Int}{i:Nat}(hi:i<l.length)(hc:cls.length=l.length)(hlt:∀g∈bH dn i,gt cls g.toNat≠i):∀(f k:Nat),(bH dn i).length - k+2≤f→k≤(bH dn i).length→(∀q,q<k→¬Alike (nd l i) (nd l (gt (bH dn i) q)))→
  ∃v x,ah.l3 m l (i:Int) (bH dn i++[(i:Int)]) f (cls.set i (i:Int)) (k:Int)=some (cls.set i v,x)∧(v=i∧(∀g∈bH dn i,¬Alike (nd l i) (nd l g))∨∃g∈bH dn i,Alike (nd l i) (nd l g)∧v=gt cls g.toNat)
 | 0,k,hf,_,_=>absurd hf (by omega)
 | f+1,k,hf,hk,sI=>by
  have h8:=ok.1
  have Ns:=il (dn:=dn) i
  unfold ah.l3
  have At:i<(cls.set i (i:Int)).length:=by simp [hc,hi]
  rw [cE At,eC (by omega),if_pos rfl,WQ,if_pos (by simp)]
  have Sf:(bH dn i++[(i:Int)]).length=(bH dn i).length+1:=by simp
  by_cases h:k<(bH dn i).length
  ·obtain⟨j,j1,j2,j3⟩:=iR.1 (aM (l:=bH dn i) (k:=k) h)
   have hx:ix (bH dn i++[(i:Int)]) (k:Int)=some (gt (bH dn i) k):=by rw [cE (by omega),iv h]
   obtain⟨xa,a1,a2⟩:=uk (m:=m) (nd l (i:Int)) (nd l (gt (bH dn i) k))
   rw [hx,WQ,if_pos (by simp only [decide_eq_true_eq]; omega),hZ (by omega) (by omega),WQ,WQ,hZ (by omega) (by omega),WQ,a1,WQ]
   cases xa with
   | false=>
    rw [if_neg (by simp),aE (by omega) (by omega),show (k:Int)+1=((k+1:Nat):Int) by omega]
    refine GO ok hi hc hlt f (k+1) (by omega) (by omega) fun q hq=>?_
    by_cases e:q=k
    ·subst e; intro hA; have:=a2.2 hA; cases this
    ·exact sI q (by omega)
   | true=>
    have hA:=a2.1 rfl
    have Vu:(gt (bH dn i) k).toNat<cls.length:=by omega
    have KI:ix (cls.set i (i:Int)) (gt (bH dn i) k)=some (gt cls (gt (bH dn i) k).toNat):=by
     rw [fZ (k:=(gt (bH dn i) k).toNat) (by omega) (by simpa using Vu),eC (by omega),if_neg (by omega)]
    rw [if_pos rfl,WQ,KI,WQ,WQ,WX,List.set_set]
    have e:=hlt _ (aM h)
    obtain⟨g,rfl⟩:∃g,f=g+1:=⟨f - 1,by omega⟩
    refine⟨gt cls (gt (bH dn i) k).toNat,i64.wrap ((k:Int)+1),?_,.inr ⟨_,aM h,hA,rfl⟩⟩
    unfold ah.l3
    rw [cE (by simpa [hc] using hi),eC (by omega),if_pos rfl,WQ,if_neg (by simpa using e)]
  ·have e:k=(bH dn i).length:=by omega
   have hx:ix (bH dn i++[(i:Int)]) (k:Int)=some (i:Int):=by
    rw [cE (by omega)]
    subst e; unfold gt; rw [Xb,Xg (WU _),Yo]; rfl
   rw [hx,WQ,if_neg (by simp)]
   refine⟨(i:Int),_,rfl,.inl ⟨rfl,fun g hg=>?_⟩⟩
   obtain⟨q,hq,e2⟩:=eU hg
   rw [←e2]; exact sI q (by omega)
theorem GP {l:List ae}{dn:List Bool}{c0 cls:List Int}{i:Nat}(hi:i<l.length)(hd:gb dn i=false)(P:NU l dn c0 i cls){v:Int}
  (hv:v=i∧(∀g∈bH dn i,¬Alike (nd l i) (nd l g))∨∃g∈bH dn i,Alike (nd l i) (nd l g)∧v=gt cls g.toNat):NU l dn c0 (i+1) (cls.set i v):=by
 have hr:bH dn (i+1)=bH dn i++[(i:Int)]:=by show (if gb dn i=true then _ else _)=_; rw [if_neg (by rw [hd]; simp)]
 have gc:∀x,x≠i→gt (cls.set i v) x=gt cls x:=fun x hx=>by rw [eC (by rw [P.lc]; exact hi),if_neg hx]
 have gi:gt (cls.set i v) i=v:=by rw [eC (by rw [P.lc]; exact hi),if_pos rfl]
 have OF:∀{x:Int},x∈bH dn i→0≤x∧x<i:=fun h=>by obtain⟨j,a,b,c⟩:=iR.1 h; omega
 refine⟨by simpa using P.lc,fun j hj=>?_,fun j hj=>?_⟩
 ·rw [gc j (fun e=>by subst e; rw [hd] at hj; cases hj)]; exact P.old j hj
 ·rw [hr] at hj ⊢
  rcases W8.1 hj with hj | hj
  ·obtain⟨r1,r2,r3⟩:=P.pN j hj
   have hji:=OF hj
   rw [gc j (by omega)]
   refine⟨XA _ r1,r2,fun g hg hA=>?_⟩
   rcases W8.1 hg with hg | hg
   ·exact r3 g hg hA
   ·have:=OF r1
    rw [W4] at hg; omega
  ·rw [W4] at hj
   have e:j=i:=by omega
   subst e
   rw [gi]
   rcases hv with⟨rfl,h⟩| ⟨g,g1,g2,rfl⟩
   ·refine⟨by simp,Alike.refl _,fun g hg hA=>?_⟩
    rcases W8.1 hg with hg | hg
    ·exact absurd hA (h g hg)
    ·rw [W4] at hg; omega
   ·have NN:=OF g1
    have eg:((g.toNat:Nat):Int)=g:=by omega
    obtain⟨r1,r2,r3⟩:=P.pN g.toNat (by rw [eg]; exact g1)
    rw [eg] at r2 r3
    refine⟨XA _ r1,g2.trans r2,fun x hx hA=>?_⟩
    rcases W8.1 hx with hx | hx
    ·exact r3 x hx (g2.symm.trans hA)
    ·have:=OF r1
     rw [W4] at hx; omega
theorem Bj {m:Nat}(hm:2 ^ 30≤m){l:List ae}(ok:kU l){dn:List Bool}(hd:dn.length=l.length){c0:List Int}:∀(f i:Nat) (cls:List Int),l.length - i<f→i≤l.length→NU l dn c0 i cls→
  ∃jz x,ah.l2 m l dn f cls (bH dn i) (i:Int)=some (jz,bH dn l.length,x)∧NU l dn c0 l.length jz
 | 0,i,cls,hf,_,_=>absurd hf (by omega)
 | f+1,i,cls,hf,hi,P=>by
  have nb:(2:Nat) ^ 30=1073741824:=by decide
  have h8:=ok.1
  unfold ah.l2
  by_cases h:i<l.length
  ·have hgb:ix dn (i:Int)=some (gb dn i):=by
    have:=Cp (l:=dn) (i:=(i:Int)) (by omega) (by rw [WX]; omega)
    rwa [WX] at this
   have ew:i64.wrap ((i:Int)+1)=((i+1:Nat):Int):=by rw [aE (by omega) (by omega)]; omega
   rw [if_pos (by simp only [decide_eq_true_eq]; omega),hgb,WQ,ew]
   cases Rn:gb dn i with
   | true=>
    have hr:bH dn (i+1)=bH dn i:=by show (if gb dn i=true then _ else _)=_; rw [if_pos Rn]
    rw [if_pos rfl,←hr]
    exact Bj hm ok hd f (i+1) cls (by omega) (by omega) ⟨P.lc,P.old,fun j hj=>by rw [hr] at hj ⊢; exact P.pN j hj⟩
   | false=>
    have hr:bH dn (i+1)=bH dn i++[(i:Int)]:=by show (if gb dn i=true then _ else _)=_; rw [if_neg (by rw [Rn]; simp)]
    have Ns:=il (dn:=dn) i
    have lQ:app 8 (bH dn i) [(i:Int)]=some (bH dn i++[(i:Int)]):=by unfold app; rw [if_pos (by simp; omega)]
    obtain⟨v,x,k1,k2⟩:=GO (m:=m) ok h P.lc (fun g hg e=>by
     obtain⟨j,a,b,c⟩:=iR.1 hg
     have:=(P.pN j (by rw [←c]; exact hg)).1
     obtain⟨j',a',b',c'⟩:=iR.1 this
     rw [c,WX] at e; omega) m 0 (by omega) (by omega) (fun q hq=>absurd hq (by omega))
    have k1:ah.l3 m l (i:Int) (bH dn i++[(i:Int)]) m (cls.set i (i:Int)) 0=_:=k1
    rw [if_neg (by simp),lQ,WQ,cE (by rw [P.lc]; exact h),WQ,WX,k1,WQ]
    dsimp only
    rw [←hr]
    exact Bj hm ok hd f (i+1) _ (by omega) (by omega) (GP h Rn P k2)
  ·have e:i=l.length:=by omega
   subst e
   exact⟨cls,_,by rw [if_neg (by simp)],P⟩
end Go.Proofs.YtmekcfdllhphlaaDoor
namespace Go.Proofs.YtmekcfdllhphlaaDoor
open Go Go.R
open Go.IntKind (i64 u64 u8 u32)
structure Cy (l:List ae)(dn:List Bool)(c0 cls:List Int):Prop where
 lc:cls.length=l.length
 old:∀j,j<l.length→gb dn j=true→gt cls j=gt c0 j
 pN:∀j:Nat,(j:Int)∈bH dn l.length→gt cls j∈bH dn l.length∧gt cls j≤j∧gt cls (gt cls j).toNat=gt cls j∧Alike (nd l j) (nd l (gt cls j))
 coarse:∀R,DM l R→∀i j:Nat,R i j→(i:Int)∈bH dn l.length→(j:Int)∈bH dn l.length→gt cls i=gt cls j
theorem fR {dn:List Bool}{p:Nat}{x:Int}(h:x∈bH dn p):0≤x∧x<p∧((x.toNat:Nat):Int)=x:=by
 obtain⟨j,a,b,c⟩:=iR.1 h; omega
theorem DT {l:List ae}{dn:List Bool}{c0 cls:List Int}(P:NU l dn c0 l.length cls):Cy l dn c0 cls:=by
 have mn:∀i j:Nat,(i:Int)∈bH dn l.length→(j:Int)∈bH dn l.length→Alike (nd l i) (nd l j)→gt cls i≤gt cls j:=fun i j hi hj hA=>by
  obtain⟨r1,r2,r3⟩:=P.pN j hj
  exact (P.pN i hi).2.2 _ r1 (hA.trans r2)
 refine⟨P.lc,fun j _ h=>P.old j h,fun j hj=>?_,fun R B i j hR hi hj=>?_⟩
 ·obtain⟨r1,r2,r3⟩:=P.pN j hj
  have e:=(fR r1).2.2
  refine⟨r1,r3 j hj (Alike.refl _),?_,r2⟩
  have h1:=mn j (gt cls j).toNat hj (by rw [e]; exact r1) (by rw [e]; exact r2)
  have h2:=mn (gt cls j).toNat j (by rw [e]; exact r1) hj (by rw [e]; exact r2.symm)
  omega
 ·have h1:=mn i j hi hj (B.top i j hR)
  have h2:=mn j i hj hi (B.top i j hR).symm
  omega
def Qr (l:List ae)(cls:List Int)(j g:Nat):Prop:=gt cls j=gt cls g∧SA l cls j g
theorem Cy.al {l dn c0 cls}(P:Cy l dn c0 cls){i j:Nat}(hi:(i:Int)∈bH dn l.length)(hj:(j:Int)∈bH dn l.length)(h:gt cls i=gt cls j):Alike (nd l i) (nd l j):=by
 have a:=(P.pN i hi).2.2.2
 have b:=(P.pN j hj).2.2.2
 rw [h] at a
 exact a.trans b.symm
theorem Cy.Jo {l dn c0 cls}(P:Cy l dn c0 cls){i j:Nat}(hi:(i:Int)∈bH dn l.length)(hj:(j:Int)∈bH dn l.length)(h:Qr l cls i j):Qr l cls j i:=
 ⟨h.1.symm,fun k hk=>(h.2 k (by have:=(P.al hi hj h.1).len; unfold na at *; omega)).symm⟩
theorem Cy.Bk {l dn c0 cls}(P:Cy l dn c0 cls){i j q:Nat}(hi:(i:Int)∈bH dn l.length)(hj:(j:Int)∈bH dn l.length)(h:Qr l cls i j)(g:Qr l cls j q):Qr l cls i q:=
 ⟨h.1.trans g.1,fun k hk=>(h.2 k hk).trans (g.2 k (by have:=(P.al hi hj h.1).len; unfold na at *; omega))⟩
theorem GQ {m:Nat}(hm:2 ^ 30≤m){l:List ae}{dn:List Bool}{c0 cls nx:List Int}(ok:kU l)(P:Cy l dn c0 cls)(hnx:nx.length=l.length){J:Nat}(hJ:J<(bH dn l.length).length)
  (hlt:∀q,q<J→gt nx (gt (bH dn l.length) q).toNat≠gt (bH dn l.length) J):∀(f k:Nat),J - k+2≤f→k≤J→(∀q,q<k→¬Qr l cls (gt (bH dn l.length) J).toNat (gt (bH dn l.length) q).toNat)→
  ∃w x,ah.l6 m l (bH dn l.length) cls (J:Int) (gt (bH dn l.length) J) f (nx.set (gt (bH dn l.length) J).toNat (gt (bH dn l.length) J)) (k:Int)=some (nx.set (gt (bH dn l.length) J).toNat w,x)∧
   (w=gt (bH dn l.length) J∧(∀q,q<J→¬Qr l cls (gt (bH dn l.length) J).toNat (gt (bH dn l.length) q).toNat)∨∃q,q<J∧Qr l cls (gt (bH dn l.length) J).toNat (gt (bH dn l.length) q).toNat∧w=gt nx (gt (bH dn l.length) q).toNat)
 | 0,k,hf,_,_=>absurd hf (by omega)
 | f+1,k,hf,hk,sI=>by
  have nb:(2:Nat) ^ 30=1073741824:=by decide
  have h8:=ok.1
  have Ns:=il (dn:=dn) l.length
  have mJ:=aM hJ
  obtain⟨v0,v1,v2⟩:=fR mJ
  unfold ah.l6
  have nu:∀w,ix (nx.set (gt (bH dn l.length) J).toNat w) (gt (bH dn l.length) J)=some w:=fun w=>by
   rw [fZ (k:=(gt (bH dn l.length) J).toNat) (by omega) (by rw [WY]; omega),eC (by omega),if_pos rfl]
  rw [nu,WQ,if_pos (by simp)]
  by_cases h:k<J
  ·have mk:=aM (l:=bH dn l.length) (k:=k) (by omega)
   obtain⟨w0,w1,w2⟩:=fR mk
   have next:¬Qr l cls (gt (bH dn l.length) J).toNat (gt (bH dn l.length) k).toNat→∃w x,ah.l6 m l (bH dn l.length) cls (J:Int) (gt (bH dn l.length) J) f (nx.set (gt (bH dn l.length) J).toNat (gt (bH dn l.length) J)) (i64.wrap ((k:Int)+1))=some (nx.set (gt (bH dn l.length) J).toNat w,x)∧
     (w=gt (bH dn l.length) J∧(∀q,q<J→¬Qr l cls (gt (bH dn l.length) J).toNat (gt (bH dn l.length) q).toNat)∨∃q,q<J∧Qr l cls (gt (bH dn l.length) J).toNat (gt (bH dn l.length) q).toNat∧w=gt nx (gt (bH dn l.length) q).toNat):=fun hn=>by
    rw [aE (by omega) (by omega),show (k:Int)+1=((k+1:Nat):Int) by omega]
    refine GQ hm ok P hnx hJ hlt f (k+1) (by omega) (by omega) fun q hq=>?_
    by_cases e:q=k
    ·subst e; exact hn
    ·exact sI q (by omega)
   have c1:ix cls (gt (bH dn l.length) J)=some (gt cls (gt (bH dn l.length) J).toNat):=fZ v2.symm (by rw [P.lc]; omega)
   have c2:ix cls (gt (bH dn l.length) k)=some (gt cls (gt (bH dn l.length) k).toNat):=fZ w2.symm (by rw [P.lc]; omega)
   rw [if_pos (by simp only [decide_eq_true_eq]; omega),c1,WQ,cE (by omega),WQ,c2,WQ]
   by_cases e:gt cls (gt (bH dn l.length) J).toNat=gt cls (gt (bH dn l.length) k).toNat
   ·have hA:=P.al (i:=(gt (bH dn l.length) J).toNat) (j:=(gt (bH dn l.length) k).toNat) (by rw [v2]; exact mJ) (by rw [w2]; exact mk) e
    obtain⟨xs,s1,s2⟩:=Cr hm ok P.lc (i:=(gt (bH dn l.length) J).toNat) (j:=(gt (bH dn l.length) k).toNat) (by omega) (by omega) hA.len
    rw [v2,w2] at s1
    rw [if_pos (by simpa using e),hZ (by omega) (by omega),WQ,WQ,hZ (by omega) (by omega),WQ,s1,WQ]
    cases xs with
    | false=>
     rw [if_neg (by simp)]
     exact next fun h=>by have:=s2.2 h.2; cases this
    | true=>
     have hQ:Qr l cls (gt (bH dn l.length) J).toNat (gt (bH dn l.length) k).toNat:=⟨e,s2.1 rfl⟩
     have hne:(gt (bH dn l.length) k).toNat≠(gt (bH dn l.length) J).toNat:=by have:=mK (dn:=dn) (p:=l.length) h hJ; omega
     have n1:ix (nx.set (gt (bH dn l.length) J).toNat (gt (bH dn l.length) J)) (gt (bH dn l.length) k)=some (gt nx (gt (bH dn l.length) k).toNat):=by
      rw [fZ w2.symm (by rw [WY]; omega),eC (by omega),if_neg hne]
     obtain⟨g,rfl⟩:∃g,f=g+1:=⟨f - 1,by omega⟩
     rw [if_pos rfl,WQ,n1,WQ,WQ,List.set_set]
     refine⟨gt nx (gt (bH dn l.length) k).toNat,i64.wrap ((k:Int)+1),?_,.inr ⟨k,h,hQ,rfl⟩⟩
     unfold ah.l6
     rw [nu,WQ,if_neg (by simpa using hlt k h)]
   ·rw [if_neg (by simpa using e)]
    exact next fun h=>e h.1
  ·have e:k=J:=by omega
   rw [if_neg (by simp only [decide_eq_true_eq]; omega)]
   exact⟨gt (bH dn l.length) J,_,rfl,.inl ⟨rfl,fun q hq=>sI q (by omega)⟩⟩
structure N5 (l:List ae)(dn:List Bool)(cls:List Int)(p:Nat)(nx:List Int):Prop where
 ln:nx.length=l.length
 Lg:∀x:Nat,(x:Int)∉bH dn l.length→gt nx x=gt cls x
 later:∀q,p≤q→q<(bH dn l.length).length→gt nx (gt (bH dn l.length) q).toNat=gt cls (gt (bH dn l.length) q).toNat
 new:∀q,q<p→gt nx (gt (bH dn l.length) q).toNat∈bH dn l.length∧Qr l cls (gt (bH dn l.length) q).toNat (gt nx (gt (bH dn l.length) q).toNat).toNat∧∀g∈bH dn l.length,Qr l cls (gt (bH dn l.length) q).toNat g.toNat→gt nx (gt (bH dn l.length) q).toNat≤g
theorem xK {dn:List Bool}{n p q:Nat}(hp:p<(bH dn n).length)(hq:q<(bH dn n).length)(e:(gt (bH dn n) p).toNat=(gt (bH dn n) q).toNat):p=q:=by
 have a:=(fR (aM hp)).2.2
 have b:=(fR (aM hq)).2.2
 rcases Nat.lt_trichotomy p q with h | h | h
 ·have:=mK (dn:=dn) (p:=n) h hq; omega
 ·exact h
 ·have:=mK (dn:=dn) (p:=n) h hp; omega
theorem IB {l:List ae}{dn:List Bool}{c0 cls nx:List Int}(P:Cy l dn c0 cls){p:Nat}(hp:p<(bH dn l.length).length)(N:N5 l dn cls p nx){w:Int}
  (hw:w=gt (bH dn l.length) p∧(∀q,q<p→¬Qr l cls (gt (bH dn l.length) p).toNat (gt (bH dn l.length) q).toNat)∨∃q,q<p∧Qr l cls (gt (bH dn l.length) p).toNat (gt (bH dn l.length) q).toNat∧w=gt nx (gt (bH dn l.length) q).toNat) :
  N5 l dn cls (p+1) (nx.set (gt (bH dn l.length) p).toNat w):=by
 have mp:=aM hp
 obtain⟨v0,v1,v2⟩:=fR mp
 have gc:∀x,x≠(gt (bH dn l.length) p).toNat→gt (nx.set (gt (bH dn l.length) p).toNat w) x=gt nx x:=fun x hx=>by rw [eC (by rw [N.ln]; omega),if_neg hx]
 have gi:gt (nx.set (gt (bH dn l.length) p).toNat w) (gt (bH dn l.length) p).toNat=w:=by rw [eC (by rw [N.ln]; omega),if_pos rfl]
 refine⟨by simpa using N.ln,fun x hx=>?_,fun q h1 h2=>?_,fun q hq=>?_⟩
 ·rw [gc x (fun e=>hx (by rw [e,v2]; exact mp))]; exact N.Lg x hx
 ·rw [gc _ (fun e=>by have:=xK h2 hp e; omega)]; exact N.later q (by omega) h2
 ·by_cases e:q=p
  ·subst e
   rw [gi]
   rcases hw with⟨rfl,h⟩| ⟨q',h1,h2,rfl⟩
   ·refine⟨mp,⟨rfl,fun _ _=>rfl⟩,fun g hg hQ=>?_⟩
    obtain⟨k,hk,rfl⟩:=eU hg
    by_cases Vv:k<q
    ·exact absurd hQ (h k Vv)
    ·by_cases Ro:k=q
     ·subst Ro; exact Int.le_refl _
     ·have:=mK (dn:=dn) (p:=l.length) (k:=q) (q:=k) (by omega) hk; omega
   ·have mq:=aM (l:=bH dn l.length) (k:=q') (by omega)
    have eq2:=(fR mq).2.2
    obtain⟨n1,n2,n3⟩:=N.new q' h1
    have e3:=(fR n1).2.2
    have s1:((gt (bH dn l.length) q).toNat:Int)∈bH dn l.length:=by rw [v2]; exact mp
    have s2:((gt (bH dn l.length) q').toNat:Int)∈bH dn l.length:=by rw [eq2]; exact mq
    exact⟨n1,P.Bk s1 s2 h2 n2,fun g hg hQ=>n3 g hg (P.Bk s2 s1 (P.Jo s1 s2 h2) hQ)⟩
  ·rw [gc _ (fun e2=>by have:=xK (dn:=dn) (n:=l.length) (by omega) hp e2; omega)]
   exact N.new q (by omega)
theorem Bl {m:Nat}(hm:2 ^ 30≤m){l:List ae}{dn:List Bool}{c0 cls:List Int}(ok:kU l)(P:Cy l dn c0 cls):∀(f p:Nat) (more:Bool) (nx:List Int),(bH dn l.length).length - p<f→p≤(bH dn l.length).length→N5 l dn cls p nx→
  (more=true↔∃q,q<p∧gt nx (gt (bH dn l.length) q).toNat≠gt cls (gt (bH dn l.length) q).toNat)→
  ∃iw Rp x,ah.l5 m l (bH dn l.length) cls f more nx (p:Int)=some (iw,Rp,x)∧N5 l dn cls (bH dn l.length).length Rp∧(iw=true↔∃q,q<(bH dn l.length).length∧gt Rp (gt (bH dn l.length) q).toNat≠gt cls (gt (bH dn l.length) q).toNat)
 | 0,p,_,_,hf,_,_,_=>absurd hf (by omega)
 | f+1,p,more,nx,hf,hp,N,mL=>by
  have nb:(2:Nat) ^ 30=1073741824:=by decide
  have h8:=ok.1
  have Ns:=il (dn:=dn) l.length
  unfold ah.l5
  by_cases h:p<(bH dn l.length).length
  ·have mp:=aM h
   obtain⟨v0,v1,v2⟩:=fR mp
   obtain⟨w,x,k1,k2⟩:=GQ hm ok P N.ln h (fun q hq=>by
    obtain⟨n1,n2,n3⟩:=N.new q hq
    have mq:=aM (l:=bH dn l.length) (k:=q) (by omega)
    have:=n3 _ mq ⟨rfl,fun _ _=>rfl⟩
    have:=mK (dn:=dn) (p:=l.length) hq h
    omega) m 0 (by omega) (by omega) (fun q hq=>absurd hq (by omega))
   have k1:ah.l6 m l (bH dn l.length) cls (p:Int) (gt (bH dn l.length) p) m (nx.set (gt (bH dn l.length) p).toNat (gt (bH dn l.length) p)) 0=_:=k1
   have N':=IB P h N k2
   have ew:i64.wrap ((p:Int)+1)=((p+1:Nat):Int):=by rw [aE (by omega) (by omega)]; omega
   have Vw:ix nx (gt (bH dn l.length) p)=some (gt nx (gt (bH dn l.length) p).toNat):=fZ v2.symm (by rw [N.ln]; omega)
   have c1:ix cls (gt (bH dn l.length) p)=some (gt cls (gt (bH dn l.length) p).toNat):=fZ v2.symm (by rw [P.lc]; omega)
   have c2:ix (nx.set (gt (bH dn l.length) p).toNat w) (gt (bH dn l.length) p)=some w:=by
    rw [fZ v2.symm (by rw [WY,N.ln]; omega),eC (by rw [N.ln]; omega),if_pos rfl]
   have gw:gt (nx.set (gt (bH dn l.length) p).toNat w) (gt (bH dn l.length) p).toNat=w:=by rw [eC (by rw [N.ln]; omega),if_pos rfl]
   have old:∀q,q<p→gt (nx.set (gt (bH dn l.length) p).toNat w) (gt (bH dn l.length) q).toNat=gt nx (gt (bH dn l.length) q).toNat:=fun q hq=>by
    rw [eC (by rw [N.ln]; omega),if_neg (fun e=>by have:=xK (dn:=dn) (n:=l.length) (by omega) h e; omega)]
   rw [if_pos (by simp only [decide_eq_true_eq]; omega),cE h,WQ,Vw,WQ,k1,WQ]
   dsimp only
   rw [ew]
   cases more with
   | true=>
    rw [if_pos rfl]
    refine Bl hm ok P f (p+1) true _ (by clear mL k2; omega) (by clear mL k2; omega) N' ⟨fun _=>?_,fun _=>rfl⟩
    obtain⟨q,q1,q2⟩:=mL.1 rfl
    exact⟨q,by omega,by rw [old q q1]; exact q2⟩
   | false=>
    rw [if_neg (by simp),c2,WQ,c1,WQ]
    refine Bl hm ok P f (p+1) _ _ (by clear mL k2; omega) (by clear mL k2; omega) N' ?_
    constructor
    ·intro hb
     refine⟨p,by omega,?_⟩
     rw [gw]; simpa using hb
    ·rintro⟨q,q1,q2⟩
     by_cases e:q=p
     ·subst e; rw [gw] at q2; simpa using q2
     ·rw [old q (by omega)] at q2
      have:=mL.2 ⟨q,by omega,q2⟩
      cases this
  ·have e:p=(bH dn l.length).length:=by omega
   subst e
   exact⟨more,nx,_,by rw [if_neg (by simp)],N,mL⟩
theorem GR {l:List ae}{dn:List Bool}{c0 cls nx:List Int}{od:List Int}(ok:kU l)(P:Cy l dn c0 cls)(N:N5 l dn cls (bH dn l.length).length nx)
  (ye:∀j,j<l.length→(gb dn j=true↔(j:Int)∈od)) (Lu:∀R,DM l R→∀i j:Nat,R i j→(i:Int)∈od→(j:Int)∈od→gt c0 i=gt c0 j)
  (hfin:∀R,DM l R→∀i j:Nat,R i j→(i:Int)∈od→(j:Int)∈od):Cy l dn c0 nx:=by
 have NV:∀j,j<l.length→gb dn j=true→(j:Int)∉bH dn l.length:=fun j _ h hm=>by
  obtain⟨j',a,b,c⟩:=iR.1 hm
  have:j=j':=by omega
  subst this; rw [h] at b; cases b
 have uX:∀j,j<l.length→(j:Int)∉od→(j:Int)∈bH dn l.length:=fun j hj h=>iR.2 ⟨j,hj,by
  cases hb:gb dn j with
  | true=>exact absurd ((ye j hj).1 hb) h
  | false=>rfl,rfl⟩
 have atR:∀j:Nat,(j:Int)∈bH dn l.length→gt nx j∈bH dn l.length∧Qr l cls j (gt nx j).toNat∧∀g∈bH dn l.length,Qr l cls j g.toNat→gt nx j≤g:=fun j hj=>by
  obtain⟨q,hq,e⟩:=eU hj
  have:=N.new q hq
  rw [e,WX] at this
  exact this
 have mn:∀i j:Nat,(i:Int)∈bH dn l.length→(j:Int)∈bH dn l.length→Qr l cls i j→gt nx i≤gt nx j:=fun i j hi hj hQ=>by
  obtain⟨r1,r2,r3⟩:=atR j hj
  exact (atR i hi).2.2 _ r1 (P.Bk hi hj hQ r2)
 have TI:∀i j:Nat,(i:Int)∈bH dn l.length→(j:Int)∈bH dn l.length→Qr l cls i j→gt nx i=gt nx j:=fun i j hi hj hQ=>by
  have h1:=mn i j hi hj hQ
  have h2:=mn j i hj hi (P.Jo hi hj hQ)
  omega
 refine⟨N.ln,fun j hj h=>by rw [N.Lg j (NV j hj h)]; exact P.old j hj h,fun j hj=>?_,fun R B i j hR hi hj=>?_⟩
 ·obtain⟨r1,r2,r3⟩:=atR j hj
  have e:=(fR r1).2.2
  have Af:(((gt nx j).toNat:Nat):Int)∈bH dn l.length:=by rw [e]; exact r1
  refine⟨r1,r3 j hj ⟨rfl,fun _ _=>rfl⟩,(TI j _ hj Af r2).symm,?_⟩
  have:=P.al hj Af r2.1
  rw [e] at this; exact this
 ·refine TI i j hi hj ⟨P.coarse R B i j hR hi hj,fun k hk=>?_⟩
  have NW:R (ar l i k) (ar l j k):=B.arg i j hR k hk
  obtain⟨ra,rb⟩:=B.nB _ _ NW
  by_cases ha:((ar l i k:Nat):Int)∈od
  ·have hb:=hfin R B _ _ NW ha
   rw [P.old _ ra ((ye _ ra).2 ha),P.old _ rb ((ye _ rb).2 hb)]
   exact Lu R B _ _ NW ha hb
  ·have hb:((ar l j k:Nat):Int)∉od:=fun h=>ha (hfin _ B.symm _ _ NW h)
   exact P.coarse R B _ _ NW (uX _ ra ha) (uX _ rb hb)
def DU (dn:List Bool)(n:Nat)(cls:List Int):List Int:=(bH dn n).filter fun j=>gt cls j.toNat==j
theorem DV {dn:List Bool}{n:Nat}:(bH dn n).Nodup:=by
 unfold List.Nodup
 rw [List.pairwise_iff_getElem]
 intro i j hi hj yr e
 have:=mK (dn:=dn) (p:=n) yr hj
 have a:=bp hi
 have b:=bp hj
 rw [W5 hi] at a
 rw [W5 hj] at b
 have a:=Xn a
 have b:=Xn b
 omega
theorem GS {m:Nat}(hm:2 ^ 30≤m){l:List ae}{dn:List Bool}{c0 od:List Int}(ok:kU l)
  (ye:∀j,j<l.length→(gb dn j=true↔(j:Int)∈od)) (Lu:∀R,DM l R→∀i j:Nat,R i j→(i:Int)∈od→(j:Int)∈od→gt c0 i=gt c0 j)
  (hfin:∀R,DM l R→∀i j:Nat,R i j→(i:Int)∈od→(j:Int)∈od):∀(f:Nat) (cls:List Int),(bH dn l.length).length - (DU dn l.length cls).length+1<f→Cy l dn c0 cls→
  ∃jz,ah.l4 m l (bH dn l.length) f cls true=some (jz,false)∧Cy l dn c0 jz∧∀j:Nat,(j:Int)∈bH dn l.length→SA l jz j (gt jz j).toNat
 | 0,cls,hf,_=>absurd hf (by omega)
 | f+1,cls,hf,P=>by
  have nb:(2:Nat) ^ 30=1073741824:=by decide
  have h8:=ok.1
  have Ns:=il (dn:=dn) l.length
  unfold ah.l4
  have lQ:app 8 ([]:List Int) cls=some cls:=by unfold app; rw [if_pos (by simp; rw [P.lc]; omega),Xs]
  obtain⟨iw,nx,x,k1,N,mL⟩:=Bl hm ok P m 0 false cls (by omega) (by omega) ⟨P.lc,fun _ _=>rfl,fun _ _ _=>rfl,fun q hq=>absurd hq (by omega)⟩ ⟨fun h=>(by cases h),fun ⟨q,hq,_⟩=>absurd hq (by omega)⟩
  have k1:ah.l5 m l (bH dn l.length) cls m false cls 0=_:=k1
  have P':=GR ok P N ye Lu hfin
  rw [if_pos rfl,lQ,WQ,k1,WQ]
  dsimp only
  cases TJ:iw with
  | true=>
   obtain⟨q,hq,hne⟩:=mL.1 TJ
   have mq:=aM hq
   have eq2:=(fR mq).2.2
   obtain⟨n1,n2,n3⟩:=N.new q hq
   have e3:=(fR n1).2.2
   have TK:(DU dn l.length cls).length+1≤(DU dn l.length nx).length:=by
    have Vx:(gt nx (gt (bH dn l.length) q).toNat::DU dn l.length cls).Nodup:=by
     rw [List.nodup_cons]
     refine⟨fun h=>?_,List.Pairwise.filter _ DV⟩
     have:=(Yk.1 h).2
     have:=beq_iff_eq.1 this
     exact hne (by rw [n2.1,this])
    have:=Vx.length_le_of_subset (l₂:=DU dn l.length nx) (fun y hy=>by
     rcases Xo.1 hy with rfl | hy
     ·refine Yk.2 ⟨n1,?_⟩
      have:=(P'.pN (gt (bH dn l.length) q).toNat (by rw [eq2]; exact mq)).2.2.1
      rw [beq_iff_eq]; exact this
     ·obtain⟨y1,y2⟩:=Yk.1 hy
      have y2:=beq_iff_eq.1 y2
      refine Yk.2 ⟨y1,?_⟩
      have ey:=(fR y1).2.2
      rw [beq_iff_eq]
      obtain⟨k,hk,e⟩:=eU y1
      obtain⟨m1,m2,m3⟩:=N.new k hk
      rw [e] at m1 m2 m3
      have a1:=m3 y y1 ⟨rfl,fun _ _=>rfl⟩
      have em:=(fR m1).2.2
      have a2:=(P.pN (gt nx y.toNat).toNat (by rw [em]; exact m1)).2.1
      rw [←m2.1,y2] at a2
      omega)
    simpa using this
   have hle:(DU dn l.length nx).length≤(bH dn l.length).length:=List.length_filter_le _ _
   exact GS hm ok ye Lu hfin f nx (by clear mL; omega) P'
  | false=>
   obtain⟨g,rfl⟩:∃g,f=g+1:=⟨f - 1,by omega⟩
   have same:∀j:Nat,(j:Int)∈bH dn l.length→gt nx j=gt cls j:=fun j hj=>by
    obtain⟨k,hk,e⟩:=eU hj
    by_cases hne:gt nx j=gt cls j
    ·exact hne
    ·have:=mL.2 ⟨k,hk,by rw [e,WX]; exact hne⟩
     rw [TJ] at this; cases this
   have Vy:nx=cls:=Fm (by rw [N.ln,P.lc]) fun k hk=>by
    by_cases h:(k:Int)∈bH dn l.length
    ·exact same k h
    ·exact N.Lg k h
   refine⟨nx,?_,P',fun j hj=>?_⟩
   ·unfold ah.l4
    rw [if_neg (by simp)]
   ·obtain⟨k,hk,e⟩:=eU hj
    obtain⟨m1,m2,m3⟩:=N.new k hk
    rw [e,WX] at m2
    rw [Vy] at m2 ⊢
    exact m2.2
end Go.Proofs.YtmekcfdllhphlaaDoor
namespace Go.Proofs.YtmekcfdllhphlaaDoor
open Go Go.R
open Go.IntKind (i64 u64 u8 u32)
structure Lh (l:List ae)(c od:List Int):Prop where
 min:Min l c
 pN:∀i,i<l.length→0≤gt c i∧gt c i<l.length∧gt c (gt c i).toNat=gt c i
 uW:∀i:Nat,(i:Int)∈od→∀k,k<na l i→((ar l i k:Nat):Int)∈od∧od.idxOf ((ar l i k:Nat):Int)<od.idxOf (i:Int)
 Vz:∀i,i<l.length→(i:Int)∉od→gt c i≤i
theorem Li {n k:Nat}:gb (Xc n false) k=false:=by
 unfold gb; rw [Xb,List.getElem?_replicate]; split<;>rfl
theorem zA {m:Nat}(hm:2 ^ 30≤m){l:List ae}(ok:kU l):∃c od,ah.f m l=some c∧Lh l c od:=by
 have nb:(2:Nat) ^ 30=1073741824:=by decide
 have h8:=ok.1
 unfold ah.f
 have e0:uM 8 (l.length:Int) (0:Int)=some (Xc l.length 0):=by unfold uM; rw [if_pos ⟨by omega,by rw [WX]; omega⟩,WX]
 have e1:uM 1 (l.length:Int) false=some (Xc l.length false):=by unfold uM; rw [if_pos ⟨by omega,by rw [WX]; omega⟩,WX]
 obtain⟨c0,dn,fs,od,k1,P1,hq⟩:=GN hm ok m (Xc l.length 0) (Xc l.length false) [] [] (by simp; omega)
  {lc:=by simp,ld:=by simp,Rk:=by simp,Le:=(by intro x hx; cases hx),Hp:=(by intro i hi; rw [Li]; simp),uW:=(by intro i hi; cases hi),OD:=by simp,fst:=(by intro f hf; cases hf),pN:=(by intro i hi; cases hi),apart:=(by intro f hf; cases hf),coarse:=(by intro R B i j hR hi; cases hi)}
 obtain⟨c1,x,k2,P2⟩:=Bj hm ok P1.ld (c0:=c0) m 0 c0 (by omega) (by omega) {lc:=P1.lc,old:=fun _ _=>rfl,pN:=(by intro j hj; cases hj)}
 have k2:ah.l2 m l dn m c0 [] 0=_:=k2
 have hfin:∀R,DM l R→∀i j:Nat,R i j→(i:Int)∈od→(j:Int)∈od:=by
  intro R B
  have:∀N i j:Nat,od.idxOf (i:Int)<N→R i j→(i:Int)∈od→(j:Int)∈od:=by
   intro N
   induction N with
   | zero=>intro i j h; omega
   | succ N ih=>
    intro i j hN hR hi
    by_cases hj:(j:Int)∈od
    ·exact hj
    ·obtain⟨k,g1,g2⟩:=hq j (B.nB i j hR).2 hj
     have r8:k<na l i:=by have:=(B.top i j hR).len; unfold na at *; omega
     obtain⟨r1,r2⟩:=P1.uW i hi k r8
     exact absurd (ih (ar l i k) (ar l j k) (by omega) (B.arg i j hR k r8) r1) g2
  exact fun i j=>this (od.idxOf (i:Int)+1) i j (by omega)
 obtain⟨c,k3,P3,hS⟩:=GS hm ok P1.Hp P1.coarse hfin m c1 (by have:=il (dn:=dn) l.length; omega) (DT P2)
 have uX:∀j,j<l.length→(j:Int)∉od→(j:Int)∈bH dn l.length:=fun j hj h=>iR.2 ⟨j,hj,by
  cases hb:gb dn j with
  | true=>exact absurd ((P1.Hp j hj).1 hb) h
  | false=>rfl,rfl⟩
 have Jp:∀{x:Int},x∈bH dn l.length→x∉od:=fun hx h=>by
  obtain⟨j,a,b,e⟩:=iR.1 hx
  subst e
  rw [(P1.Hp j a).2 h] at b; cases b
 have uY:∀j:Nat,j<l.length→(j:Int)∈od→gt c j=gt c0 j:=fun j hj h=>P3.old j hj ((P1.Hp j hj).2 h)
 have Lj:∀f∈fs,0≤f∧f<l.length∧f∈od∧((f.toNat:Nat):Int)=f:=fun f hf=>by
  have a:=P1.Rm f hf; have b:=(P1.fst f hf).1; exact⟨a.1,a.2,b,by omega⟩
 have Rq:∀i j:Nat,(i:Int)∈od→(j:Int)∈od→rn l c0 i j→SA l c i j:=fun i j hi hj h k hk=>by
  have a:=(P1.uW i hi k hk).1
  have b:=(P1.uW j hj k (by have:=h.1.len; unfold na at *; omega)).1
  have ra:=P1.Le _ a
  have rb:=P1.Le _ b
  rw [uY _ (by omega) a,uY _ (by omega) b]
  exact h.2 k hk
 have both:∀i j:Nat,i<l.length→j<l.length→gt c i=gt c j→Alike (nd l i) (nd l j)∧SA l c i j:=fun i j hi hj e=>by
  by_cases h1:(i:Int)∈od
  ·obtain⟨f1,s1⟩:=P1.pN i h1
   by_cases h2:(j:Int)∈od
   ·obtain⟨f2,s2⟩:=P1.pN j h2
    rw [uY i hi h1,uY j hj h2] at e
    rw [e] at s1
    have s:=s1.trans s2.symm
    exact⟨s.1,Rq i j h1 h2 s⟩
   ·have:=(P3.pN j (uX j hj h2)).1
    rw [←e,uY i hi h1] at this
    exact absurd (Lj _ f1).2.2.1 (Jp this)
  ·have r1:=uX i hi h1
   by_cases h2:(j:Int)∈od
   ·obtain⟨f2,s2⟩:=P1.pN j h2
    have:=(P3.pN i r1).1
    rw [e,uY j hj h2] at this
    exact absurd (Lj _ f2).2.2.1 (Jp this)
   ·have r2:=uX j hj h2
    have hA:=P3.al r1 r2 e
    refine⟨hA,fun k hk=>?_⟩
    have a:=hS i r1 k hk
    have b:=hS j r2 k (by have:=hA.len; unfold na at *; omega)
    rw [e] at a
    exact a.trans b.symm
 refine⟨c,od,?_,⟨P3.lc,fun i j hi hj e=>(both i j hi hj e).1,fun i j hi hj e k hk=>(both i j hi hj e).2 k hk,fun R B i j hR=>?_⟩,fun i hi=>?_,P1.uW,fun i hi h=>(P3.pN i (uX i hi h)).2.1⟩
 ·rw [e0,WQ,e1,WQ,k1,WQ]
  dsimp only
  rw [k2,WQ]
  dsimp only
  rw [k3]; rfl
 ·obtain⟨hi,hj⟩:=B.nB i j hR
  by_cases h1:(i:Int)∈od
  ·have h2:=hfin R B i j hR h1
   rw [uY i hi h1,uY j hj h2]; exact P1.coarse R B i j hR h1 h2
  ·have h2:(j:Int)∉od:=fun h=>h1 (hfin _ B.symm j i hR h)
   exact P3.coarse R B i j hR (uX i hi h1) (uX j hj h2)
 ·by_cases h1:(i:Int)∈od
  ·obtain⟨f1,s1⟩:=P1.pN i h1
   obtain⟨a,b,d,e⟩:=Lj _ f1
   rw [uY i hi h1]
   refine⟨a,b,?_⟩
   rw [uY _ (by omega) (by rw [e]; exact d)]
   exact (P1.fst _ f1).2
  ·obtain⟨r1,r2,r3,r4⟩:=P3.pN i (uX i hi h1)
   have:=fR r1
   exact⟨this.1,this.2.1,r3⟩
end Go.Proofs.YtmekcfdllhphlaaDoor
