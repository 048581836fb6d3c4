/- Part of the proof: Q7, Q15, Q4, Q5, QA, PS1, PT6, PS2, PS3, PS4, PS5, PT7. -/
import Derived.Test.YtifafejidnjckaaGreatK10
set_option linter.unusedVariables false
set_option linter.unusedSimpArgs false
set_option maxRecDepth 100000
open Bool renaming and_eq_true → aaK, false_eq_true → aaU, or_eq_true → abw, true_and → abL, not_true → abM
open Int renaming toNat_natCast → aaS
open List renaming getElem?_eq_getElem → aaL, getElem?_eq_some_iff → aaM, mem_of_getElem? → aaP, drop_eq_getElem_cons → aaT, getD_eq_getElem?_getD → aaV, length_cons → aaW, getElem?_eq_none → aa2, length_nil → aba, getElem?_cons_zero → abg, drop_zero → abl, all_cons → abu, drop_eq_nil_of_le → abH, ext_getElem? → abO, getElem?_set → acb
open Nat renaming le_refl → aaN, zero_add → aa7, mul_le_mul_right → abE, add_zero → ab5
open Option renaming bind_some → aaG
open Option.some renaming injEq → aaJ, inj → aa8
open Prod.mk renaming injEq → aaQ
namespace Go.Proofs.YtifafejidnjckaaGreat
open Go Go.R
open Go.IntKind (i64 u64 u8 u32)
def IF:bR:=gC [0,1,2,4,5,6,7,8,9,10,11,12,14,16,17,18,19,20,22,25,39,60,97,102,117,124] [4,5,12,14,18,19] [67108838,66060262,67108831,67108775,67108391,67106855,65009703,67108831,67106087,67101991,62907687,67108831,67093799,67077415,58688807,67077415,66979111,50201895,66979111,66979111,33522983,67108831,66968871,66706751,66183167,67108831] [] [(8,[(12,some 0,4)]),(9,[(14,some 0,4)])]
def a7.l0 (m:Nat)(gQ:aI × Int)(fw:aI × Int):Nat→Bool→Int→Option (Sum Bool (Bool × Int))
 | 0,_,_=>none
 | k+1,jz,i0=>if (decide (i0<(gQ.1.nodes.length:Int)))=true then ((ix gQ.1.nodes i0).bind fun v0=>(ix fw.1.nodes i0).bind fun v1=>if (v0.kind==0)=true then ((fY.f m (ai.mk v0.kind v1.int v0.label v0.args) v1).bind fun WI=>if (!WI)=true then (some (.inl false)) else (a7.l0 m gQ fw k false (i64.wrap (i0+1)))) else ((fY.f m v0 v1).bind fun WJ=>if (!WJ)=true then (some (.inl false)) else (a7.l0 m gQ fw k jz (i64.wrap (i0+1))))) else (some (.inr (jz,i0)))
def a7.f (m:Nat)(l0:List bb)(a0:aI)(b0:aI):Option (Bool):=(bq.f m l0).bind fun x0=>if x0=true then ((cR.f m).bind fun x1=>some x1) else (if (decide ((a0.nodes.length:Int) > 40))=true then ((cR.f m).bind fun x2=>some x2) else (if (decide ((b0.nodes.length:Int) > 40))=true then ((cR.f m).bind fun x3=>some x3) else ((cK.f m l0).bind fun x4=>(aw.f m x4 a0).bind fun x5=>(aw.f m x5.2.2 b0).bind fun x6=>if (!(x5.2.1==0))=true then (if (x5.2.1==0)=true then (if (x6.2.1==0)=true then ((cR.f m).bind fun x7=>some x7) else ((bG.f m b0).bind fun x8=>if (!x8)=true then ((cR.f m).bind fun x9=>some x9) else (some false))) else ((bG.f m a0).bind fun mr=>if (!mr)=true then (if (x6.2.1==0)=true then ((cR.f m).bind fun Eb=>some Eb) else ((bG.f m b0).bind fun rT=>if (!rT)=true then ((cR.f m).bind fun Ec=>some Ec) else (some false))) else (some false))) else (if (!(x6.2.1==0))=true then (if (x5.2.1==0)=true then (if (x6.2.1==0)=true then ((cR.f m).bind fun WK=>some WK) else ((bG.f m b0).bind fun WL=>if (!WL)=true then ((cR.f m).bind fun WM=>some WM) else (some false))) else ((bG.f m a0).bind fun WN=>if (!WN)=true then (if (x6.2.1==0)=true then ((cR.f m).bind fun WO=>some WO) else ((bG.f m b0).bind fun WQ=>if (!WQ)=true then ((cR.f m).bind fun WR=>some WR) else (some false))) else (some false))) else ((az.f m x6.2.2 x5.1).bind fun gQ=>(dG.f m a0).bind fun fw=>if (!((gQ.1.nodes.length:Int)==(fw.1.nodes.length:Int)))=true then (some false) else ((a7.l0 m gQ fw m true 0).bind fun bP=>match bP with | .inl r0=>some r0 | .inr (EL,i1)=>(dL.f m x6.2.2 x6.1).bind fun WS=>(ji.f m a0 b0).bind fun WT=>(cm.f m x6.2.2 x5.1 x6.1).bind fun WU=>if (!EL)=true then ((cR.f m).bind fun WV=>some WV) else (if (decide ((WS.1.length:Int) > 0))=true then ((cR.f m).bind fun WW=>some WW) else (if ((WU.2.1==0)==WT.1)=true then ((cR.f m).bind fun WX=>some WX) else (some false)))))))))
def a7.fin (L:Mem)(r:Bool)(s:St):Prop:=∃av,aE Tryz.prog (s.open IF) Tryz.f7.results.toList=some av∧eR s.h av (.bool r)
def S7 (cf:CallF)(m:Nat):Prop:=∀(l0:List bb) (a0:aI) (b0:aI) (r:Bool),a7.f m l0 a0 b0=some r→∀h xs,aP bH h xs [bD.fz l0,.agg [ah.fz a0.nodes,.i a0.root],.agg [ah.fz b0.nodes,.i b0.root]]→cf 7 xs h=some (.bool r,h)
section
variable {cf:CallF}{m:Nat}
theorem a7.cb (L:Mem)(l0:List bb)(a0:aI)(b0:aI)(aM:Nat)(x5:Int × Int × ab)(x6:Int × Int × ab)(fj:Nat)(gk:Nat)(gQ:aI × Int)(ib:Nat)(bV:List Nat)(fw:aI × Int)(hH:Nat)(bk:List Nat)  (KO:TF cf m):cY Tryz.prog cf IF m (sub [1,1,1,1,1,1,1,1,1,1,0,1,0,0] (bN Tryz.f7)) (fun k (σ:Bool × Int)=>a7.l0 m gQ fw k σ.1 σ.2) (fun σ s=>match σ with | (jz,i0)=>∃h5,s=⟨nU (.lp 4 0 :: .lp 5 0 :: .any :: .ptr aM 0 :: .i x5.1 :: .any :: .i x6.1 :: .any :: .lp 12 0 :: .lp 14 0 :: .bool jz :: .i i0::wG []),[some [ah.fz a0.nodes,.i a0.root],some [ah.fz b0.nodes,.i b0.root],some [.rs ib 0 gQ.1.nodes.length 4,.i gQ.1.root],some [.rs hH 0 fw.1.nodes.length 4,.i fw.1.root],none,none],h5⟩∧Has h5 ((hH,.sl fw.1.nodes.length 4 (cj.l (aQ fw.1.nodes bk)))::(ib,.sl gQ.1.nodes.length 4 (cj.l (aQ gQ.1.nodes bV)))::(aM,.ob [.bool x6.2.2.aj,.rs fj 0 x6.2.2.aa.length 4,.rs gk 0 x6.2.2.ae.length 1])::(fj,.sl x6.2.2.aa.length 4 (ah.l x6.2.2.aa))::(gk,.sl x6.2.2.ae.length 1 (af.l x6.2.2.ae))::(dd fw.1.nodes bk++(dd gQ.1.nodes bV++L)))) (fun out e s=>(e = .exit 0∧∃jz i0,.inr (jz,i0)=out∧∃Ia yO H9 QM Nx UN h5,s=⟨nU (.lp 4 0 :: .lp 5 0 :: .any :: .ptr aM 0 :: .i x5.1 :: .any :: .i x6.1 :: .any::Ia::yO :: .bool jz::H9::xg [QM,.any,.any]),[some [ah.fz a0.nodes,.i a0.root],some [ah.fz b0.nodes,.i b0.root],Nx,UN,none,none],h5⟩∧Has h5 ((hH,.sl fw.1.nodes.length 4 (cj.l (aQ fw.1.nodes bk)))::(ib,.sl gQ.1.nodes.length 4 (cj.l (aQ gQ.1.nodes bV)))::(aM,.ob [.bool x6.2.2.aj,.rs fj 0 x6.2.2.aa.length 4,.rs gk 0 x6.2.2.ae.length 1])::(fj,.sl x6.2.2.aa.length 4 (ah.l x6.2.2.aa))::(gk,.sl x6.2.2.ae.length 1 (af.l x6.2.2.ae))::(dd fw.1.nodes bk++(dd gQ.1.nodes bV++L))))∨(e = .ret∧∃r,.inl r=out∧a7.fin L r s)):=by
 refine ln (fun _=>rfl) ?_
 rintro k ⟨jz,i0⟩ s out ⟨h5,rfl,F7⟩ H
 have H:a7.l0 m gQ fw (k+1) jz i0=some out:=H
 refine qq <| qq <| q0 <| qc H (fun YO H=>?_) (fun YO H=>?_)
 ·refine qk <| qq <| qb 1 <| qq ?_
  obtain⟨v0,L2,H⟩:=aW H
  obtain⟨v1,KL,H⟩:=aW H
  refine qr [.v 3 (be (k:=.i64) (E:=cj) (l:=(aQ gQ.1.nodes bV)) (q:=1) tS F7 rfl (lJ L2)),.v 4 (qG  (E:=cj) (l:=(aQ gQ.1.nodes bV)) (q:=1) F7 rfl BM BN (lJ L2)),.v 8 (be (k:=.i64) (E:=cj) (l:=(aQ fw.1.nodes bk)) (q:=0) tS F7 rfl (lJ KL)),.v 9 (qG  (E:=cj) (l:=(aQ fw.1.nodes bk)) (q:=0) F7 rfl BM BN (lJ KL))] <| qq <| qq <| q0 <| qc H (fun Qx H=>?_) (fun Qx H=>?_)
  ·refine q1 <| q0 <| qq ?_
   obtain⟨WI,OD,H⟩:=aW H
   refine qr [.a 2 (KO _ _ _ OD h5 _ (lZ (ak (kg (ak (bO) (ak (bO) (ak (kY) (ak (eM (E:=af) (l:=v0.args) (Has.jX (pre:=[(hH,.sl fw.1.nodes.length 4 (cj.l (aQ fw.1.nodes bk))),(ib,.sl gQ.1.nodes.length 4 (cj.l (aQ gQ.1.nodes bV))),(aM,.ob [.bool x6.2.2.aj,.rs fj 0 x6.2.2.aa.length 4,.rs gk 0 x6.2.2.ae.length 1]),(fj,.sl x6.2.2.aa.length 4 (ah.l x6.2.2.aa)),(gk,.sl x6.2.2.ae.length 1 (af.l x6.2.2.ae))]) (mid:=dd fw.1.nodes bk) (N:=dd gQ.1.nodes bV) F7) (yI (pre:=[(hH,.sl fw.1.nodes.length 4 (cj.l (aQ fw.1.nodes bk))),(ib,.sl gQ.1.nodes.length 4 (cj.l (aQ gQ.1.nodes bV))),(aM,.ob [.bool x6.2.2.aj,.rs fj 0 x6.2.2.aa.length 4,.rs gk 0 x6.2.2.ae.length 1]),(fj,.sl x6.2.2.aa.length 4 (ah.l x6.2.2.aa)),(gk,.sl x6.2.2.ae.length 1 (af.l x6.2.2.ae))]) (ids:=bV) L2) (fun _=>rfl)) (aG)))))) (ak (kg (ak (bO) (ak (bO) (ak (kY) (ak (eM (E:=af) (l:=v1.args) F7 (yI (pre:=[(hH,.sl fw.1.nodes.length 4 (cj.l (aQ fw.1.nodes bk))),(ib,.sl gQ.1.nodes.length 4 (cj.l (aQ gQ.1.nodes bV))),(aM,.ob [.bool x6.2.2.aj,.rs fj 0 x6.2.2.aa.length 4,.rs gk 0 x6.2.2.ae.length 1]),(fj,.sl x6.2.2.aa.length 4 (ah.l x6.2.2.aa)),(gk,.sl x6.2.2.ae.length 1 (af.l x6.2.2.ae))]) (ids:=bk) KL) (fun _=>rfl)) (aG)))))) (aG)))))] ?_
   refine qc H (fun YP H=>?_) (fun YP H=>?_)
   ·refine q1 ?_
    have YQ:Has h5 ((hH,.sl fw.1.nodes.length 4 (cj.l (aQ fw.1.nodes bk)))::(ib,.sl gQ.1.nodes.length 4 (cj.l (aQ gQ.1.nodes bV)))::(aM,.ob [.bool x6.2.2.aj,.rs fj 0 x6.2.2.aa.length 4,.rs gk 0 x6.2.2.ae.length 1])::(fj,.sl x6.2.2.aa.length 4 (ah.l x6.2.2.aa))::(dd fw.1.nodes bk++(dd gQ.1.nodes bV++L))):=iJ F7 4
    have YR:Has h5 ((hH,.sl fw.1.nodes.length 4 (cj.l (aQ fw.1.nodes bk)))::(ib,.sl gQ.1.nodes.length 4 (cj.l (aQ gQ.1.nodes bV)))::(aM,.ob [.bool x6.2.2.aj,.rs fj 0 x6.2.2.aa.length 4,.rs gk 0 x6.2.2.ae.length 1])::(dd fw.1.nodes bk++(dd gQ.1.nodes bV++L))):=iJ YQ 3
    have YS:Has h5 ((hH,.sl fw.1.nodes.length 4 (cj.l (aQ fw.1.nodes bk)))::(ib,.sl gQ.1.nodes.length 4 (cj.l (aQ gQ.1.nodes bV)))::(dd fw.1.nodes bk++(dd gQ.1.nodes bV++L))):=iJ YR 2
    have YT:Has h5 ((hH,.sl fw.1.nodes.length 4 (cj.l (aQ fw.1.nodes bk)))::(dd fw.1.nodes bk++L)):=Has.gone (pre:=[(hH,.sl fw.1.nodes.length 4 (cj.l (aQ fw.1.nodes bk)))]) (ns:=gQ.1.nodes) (ids:=bV) (Has.jX (pre:=[(hH,.sl fw.1.nodes.length 4 (cj.l (aQ fw.1.nodes bk)))]) (mid:=dd fw.1.nodes bk) (N:=dd gQ.1.nodes bV) (iJ YS 1))
    have o59:Has h5 (L):=Has.gone (pre:=[]) (iJ YT 0)
    exact qt <| Or.inr (⟨rfl,_,oi H,wI (.bool false) h5 (tP (fU))⟩)
   ·exact qk <| q0 <| ⟨(false,i64.wrap (i0+1)),⟨h5,kr,F7⟩,H⟩
  ·refine qk <| qq ?_
   obtain⟨WJ,OE,H⟩:=aW H
   refine qr [.a 2 (KO _ _ _ OE h5 _ (lZ (ak (kg (ak (bO) (ak (bO) (ak (kY) (ak (eM (E:=af) (l:=v0.args) (Has.jX (pre:=[(hH,.sl fw.1.nodes.length 4 (cj.l (aQ fw.1.nodes bk))),(ib,.sl gQ.1.nodes.length 4 (cj.l (aQ gQ.1.nodes bV))),(aM,.ob [.bool x6.2.2.aj,.rs fj 0 x6.2.2.aa.length 4,.rs gk 0 x6.2.2.ae.length 1]),(fj,.sl x6.2.2.aa.length 4 (ah.l x6.2.2.aa)),(gk,.sl x6.2.2.ae.length 1 (af.l x6.2.2.ae))]) (mid:=dd fw.1.nodes bk) (N:=dd gQ.1.nodes bV) F7) (yI (pre:=[(hH,.sl fw.1.nodes.length 4 (cj.l (aQ fw.1.nodes bk))),(ib,.sl gQ.1.nodes.length 4 (cj.l (aQ gQ.1.nodes bV))),(aM,.ob [.bool x6.2.2.aj,.rs fj 0 x6.2.2.aa.length 4,.rs gk 0 x6.2.2.ae.length 1]),(fj,.sl x6.2.2.aa.length 4 (ah.l x6.2.2.aa)),(gk,.sl x6.2.2.ae.length 1 (af.l x6.2.2.ae))]) (ids:=bV) L2) (fun _=>rfl)) (aG)))))) (ak (kg (ak (bO) (ak (bO) (ak (kY) (ak (eM (E:=af) (l:=v1.args) F7 (yI (pre:=[(hH,.sl fw.1.nodes.length 4 (cj.l (aQ fw.1.nodes bk))),(ib,.sl gQ.1.nodes.length 4 (cj.l (aQ gQ.1.nodes bV))),(aM,.ob [.bool x6.2.2.aj,.rs fj 0 x6.2.2.aa.length 4,.rs gk 0 x6.2.2.ae.length 1]),(fj,.sl x6.2.2.aa.length 4 (ah.l x6.2.2.aa)),(gk,.sl x6.2.2.ae.length 1 (af.l x6.2.2.ae))]) (ids:=bk) KL) (fun _=>rfl)) (aG)))))) (aG)))))] ?_
   refine qc H (fun T6 H=>?_) (fun T6 H=>?_)
   ·refine q1 ?_
    have YU:Has h5 ((hH,.sl fw.1.nodes.length 4 (cj.l (aQ fw.1.nodes bk)))::(ib,.sl gQ.1.nodes.length 4 (cj.l (aQ gQ.1.nodes bV)))::(aM,.ob [.bool x6.2.2.aj,.rs fj 0 x6.2.2.aa.length 4,.rs gk 0 x6.2.2.ae.length 1])::(fj,.sl x6.2.2.aa.length 4 (ah.l x6.2.2.aa))::(dd fw.1.nodes bk++(dd gQ.1.nodes bV++L))):=iJ F7 4
    have YV:Has h5 ((hH,.sl fw.1.nodes.length 4 (cj.l (aQ fw.1.nodes bk)))::(ib,.sl gQ.1.nodes.length 4 (cj.l (aQ gQ.1.nodes bV)))::(aM,.ob [.bool x6.2.2.aj,.rs fj 0 x6.2.2.aa.length 4,.rs gk 0 x6.2.2.ae.length 1])::(dd fw.1.nodes bk++(dd gQ.1.nodes bV++L))):=iJ YU 3
    have YW:Has h5 ((hH,.sl fw.1.nodes.length 4 (cj.l (aQ fw.1.nodes bk)))::(ib,.sl gQ.1.nodes.length 4 (cj.l (aQ gQ.1.nodes bV)))::(dd fw.1.nodes bk++(dd gQ.1.nodes bV++L))):=iJ YV 2
    have YX:Has h5 ((hH,.sl fw.1.nodes.length 4 (cj.l (aQ fw.1.nodes bk)))::(dd fw.1.nodes bk++L)):=Has.gone (pre:=[(hH,.sl fw.1.nodes.length 4 (cj.l (aQ fw.1.nodes bk)))]) (ns:=gQ.1.nodes) (ids:=bV) (Has.jX (pre:=[(hH,.sl fw.1.nodes.length 4 (cj.l (aQ fw.1.nodes bk)))]) (mid:=dd fw.1.nodes bk) (N:=dd gQ.1.nodes bV) (iJ YW 1))
    have o64:Has h5 (L):=Has.gone (pre:=[]) (iJ YX 0)
    exact qt <| Or.inr (⟨rfl,_,oi H,wI (.bool false) h5 (tP (fU))⟩)
   ·exact qk <| q0 <| ⟨(jz,i64.wrap (i0+1)),⟨h5,kr,F7⟩,H⟩
 ·exact qx 0 <| Or.inl (⟨rfl,jz,i0,oi H,.lp 12 0,.lp 14 0,.i i0,.bool (decide (i0<(gQ.1.nodes.length:Int))),some [.rs ib 0 gQ.1.nodes.length 4,.i gQ.1.root],some [.rs hH 0 fw.1.nodes.length 4,.i fw.1.root],h5,kr,F7⟩)
theorem nQ {aS:FuncId→bR}(ha:aS 7=IF)(UO:S8 cf m)(EM:S9 cf m)(UP:WH cf m)(KN:Uz cf m)(ph:Wz cf m)(UQ:WG cf m)(IE:RW cf m)(KO:TF cf m)(UR:Wu cf m)(US:WE cf m)(NP:T4 cf m)(l0:List bb)(a0:aI)(b0:aI)(h:AHeap)(L:Mem)  (o:Has h (L)){out:Bool}(H:a7.f m l0 a0 b0=some out) :
  ∃r h',a6 Tryz.prog aS cf m 7 [bD.fz l0,.agg [ah.fz a0.nodes,.i a0.root],.agg [ah.fz b0.nodes,.i b0.root]] h=some (r,h')∧eR h' r (.bool out):=by
 refine aq (fn:=Tryz.f7) ha Tryz.func7 kr kr ?_
 refine aC (Q:=fun s=>a7.fin L out s) (fun _ _ h=>h) ?_
 have H:_=some out:=H
 unfold a7.f at H
 show cZ _ cf IF m _ ⟨bD.fz l0 :: .agg [ah.fz a0.nodes,.i a0.root] :: .agg [ah.fz b0.nodes,.i b0.root]::MU [],[none,none,none,none,none,none],h⟩ _
 refine q1 <| qq <| qq ?_
 obtain⟨x0,e0,H⟩:=aW H
 rcases du H with⟨c0,H⟩| ⟨c0,H⟩
 ·refine qr [.a 1 (UO _ _ e0 h _ fq),.b 2 c0] <| BK <| qq ?_
  obtain⟨x1,e1,H⟩:=aW H
  exact qr [.a 0 (EM _ e1 h _ fq)] <| qt <| fB H
 ·rcases du H with⟨c2,H⟩| ⟨c2,H⟩
  ·refine qr [.a 1 (UO _ _ e0 h _ fq),.b 2 c0,.b 8 c2] <| BK <| qq ?_
   obtain⟨x2,e2,H⟩:=aW H
   exact qr [.a 0 (EM _ e2 h _ fq)] <| qt <| fB H
  ·refine qr [.a 1 (UO _ _ e0 h _ fq),.b 2 c0,.b 8 c2] <| qc H (fun c4 H=>?_) (fun c4 H=>?_)
   ·refine qq ?_
    obtain⟨x3,e3,H⟩:=aW H
    exact qr [.a 0 (EM _ e3 h _ fq)] <| qt <| fB H
   ·refine qk <| qq ?_
    obtain⟨x4,e4,H⟩:=aW H
    obtain⟨aM,cr,dY,h0,e5,o0⟩:=UP _ _ e4 h _  (o)  [bD.fz l0] cq
    refine qr [.a 1 e5] <| qq ?_
    obtain⟨x5,e6,H⟩:=aW H
    obtain⟨fk,fR,h1,e7,o1⟩:=KN _ _ _ e6 h0 _ _ _ _ (o0)  [.ptr aM 0,.agg [ah.fz a0.nodes,.i a0.root]] cq
    refine qr [.a 2 e7] <| qq ?_
    obtain⟨x6,e8,H⟩:=aW H
    obtain⟨fj,gk,h2,e9,o2⟩:=KN _ _ _ e8 h1 _ _ _ _ (o1)  [.ptr aM 0,.agg [ah.fz b0.nodes,.i b0.root]] cq
    refine qr [.a 2 e9] <| qq <| qq ?_
    rcases du H with⟨c5,H⟩| ⟨c5,H⟩
    ·refine qr [.b 2 c5] <| BK <| qq ?_
     rcases du H with⟨c7,H⟩| ⟨c7,H⟩
     ·rcases du H with⟨c8,H⟩| ⟨c8,H⟩
      ·obtain⟨x7,sL,H⟩:=aW H
       refine qr [.b 2 c7,.b 10 c8,.a 17 (EM _ sL h2 _ fq)] ?_
       exact qt <| fB H
      ·obtain⟨x8,vg,H⟩:=aW H
       rcases du H with⟨c9,H⟩| ⟨c9,H⟩
       ·obtain⟨x9,yQ,H⟩:=aW H
        refine qr [.b 2 c7,.b 10 c8,.a 12 (ph _ _ vg h2 _ fq),.b 16 c9,.a 17 (EM _ yQ h2 _ fq)] ?_
        exact qt <| fB H
       ·refine qr [.b 2 c7,.b 10 c8,.a 12 (ph _ _ vg h2 _ fq),.b 16 c9] ?_
        exact qt <| fB H
     ·obtain⟨mr,wo,H⟩:=aW H
      rcases du H with⟨vl,H⟩| ⟨vl,H⟩
      ·rcases du H with⟨oY,H⟩| ⟨oY,H⟩
       ·obtain⟨Eb,CH,H⟩:=aW H
        refine qr [.b 2 c7,.a 4 (ph _ _ wo h2 _ fq),.b 7 vl,.b 10 oY,.a 17 (EM _ CH h2 _ fq)] ?_
        exact qt <| fB H
       ·obtain⟨rT,AW,H⟩:=aW H
        rcases du H with⟨vm,H⟩| ⟨vm,H⟩
        ·obtain⟨Ec,FZ,H⟩:=aW H
         refine qr [.b 2 c7,.a 4 (ph _ _ wo h2 _ fq),.b 7 vl,.b 10 oY,.a 12 (ph _ _ AW h2 _ fq),.b 16 vm,.a 17 (EM _ FZ h2 _ fq)] ?_
         exact qt <| fB H
        ·refine qr [.b 2 c7,.a 4 (ph _ _ wo h2 _ fq),.b 7 vl,.b 10 oY,.a 12 (ph _ _ AW h2 _ fq),.b 16 vm] ?_
         exact qt <| fB H
      ·refine qr [.b 2 c7,.a 4 (ph _ _ wo h2 _ fq),.b 7 vl] ?_
       exact qt <| fB H
    ·refine qr [.b 2 c5] <| qc H (fun vo H=>?_) (fun vo H=>?_)
     ·refine qq ?_
      rcases du H with⟨rm,H⟩| ⟨rm,H⟩
      ·rcases du H with⟨F4,H⟩| ⟨F4,H⟩
       ·obtain⟨WK,F0,H⟩:=aW H
        refine qr [.b 2 rm,.b 10 F4,.a 17 (EM _ F0 h2 _ fq)] ?_
        exact qt <| fB H
       ·obtain⟨WL,GC,H⟩:=aW H
        rcases du H with⟨GF,H⟩| ⟨GF,H⟩
        ·obtain⟨WM,F3,H⟩:=aW H
         refine qr [.b 2 rm,.b 10 F4,.a 12 (ph _ _ GC h2 _ fq),.b 16 GF,.a 17 (EM _ F3 h2 _ fq)] ?_
         exact qt <| fB H
        ·refine qr [.b 2 rm,.b 10 F4,.a 12 (ph _ _ GC h2 _ fq),.b 16 GF] ?_
         exact qt <| fB H
      ·obtain⟨WN,GD,H⟩:=aW H
       rcases du H with⟨CR,H⟩| ⟨CR,H⟩
       ·rcases du H with⟨GH,H⟩| ⟨GH,H⟩
        ·obtain⟨WO,JN,H⟩:=aW H
         refine qr [.b 2 rm,.a 4 (ph _ _ GD h2 _ fq),.b 7 CR,.b 10 GH,.a 17 (EM _ JN h2 _ fq)] ?_
         exact qt <| fB H
        ·obtain⟨WQ,Il,H⟩:=aW H
         rcases du H with⟨UT,H⟩| ⟨UT,H⟩
         ·obtain⟨WR,JO,H⟩:=aW H
          refine qr [.b 2 rm,.a 4 (ph _ _ GD h2 _ fq),.b 7 CR,.b 10 GH,.a 12 (ph _ _ Il h2 _ fq),.b 16 UT,.a 17 (EM _ JO h2 _ fq)] ?_
          exact qt <| fB H
         ·refine qr [.b 2 rm,.a 4 (ph _ _ GD h2 _ fq),.b 7 CR,.b 10 GH,.a 12 (ph _ _ Il h2 _ fq),.b 16 UT] ?_
          exact qt <| fB H
       ·refine qr [.b 2 rm,.a 4 (ph _ _ GD h2 _ fq),.b 7 CR] ?_
        exact qt <| fB H
     ·refine qk <| qq ?_
      obtain⟨gQ,KK,H⟩:=aW H
      obtain⟨ib,bV,h3,JP,YY,GX⟩:=UQ _ _ _ KK h2 _ _ o2 (lZ (ak (eC (q:=0) o2 rfl (ak (gL) (ak (eM (E:=ah) (l:=x6.2.2.aa) (q:=1) o2 rfl (fun _=>rfl)) (ak (eM (E:=af) (l:=x6.2.2.ae) (q:=2) o2 rfl (fun _=>rfl)) (aG))))) (ak (bO) (aG))))
      have YZ:=Has.jX (pre:=[(ib,.sl gQ.1.nodes.length 4 (cj.l (aQ gQ.1.nodes bV)))]) (N:=[(aM,.ob [.bool x6.2.2.aj,.rs fj 0 x6.2.2.aa.length 4,.rs gk 0 x6.2.2.ae.length 1]),(fj,.sl x6.2.2.aa.length 4 (ah.l x6.2.2.aa)),(gk,.sl x6.2.2.ae.length 1 (af.l x6.2.2.ae))]) (mid:=dd gQ.1.nodes bV) YY
      refine qr [.a 2 JP] <| qq ?_
      obtain⟨fw,L3,H⟩:=aW H
      obtain⟨hH,bk,h4,Qv,Y0,Ml⟩:=IE _ _ L3 h3 _ _ YZ fq
      have WY:=Has.jX (pre:=[(hH,.sl fw.1.nodes.length 4 (cj.l (aQ fw.1.nodes bk)))]) (N:=[(ib,.sl gQ.1.nodes.length 4 (cj.l (aQ gQ.1.nodes bV))),(aM,.ob [.bool x6.2.2.aj,.rs fj 0 x6.2.2.aa.length 4,.rs gk 0 x6.2.2.ae.length 1]),(fj,.sl x6.2.2.aa.length 4 (ah.l x6.2.2.aa)),(gk,.sl x6.2.2.ae.length 1 (af.l x6.2.2.ae))]) (mid:=dd fw.1.nodes bk) Y0
      refine qr [.a 1 Qv] <| qq <| qq <| q0 <| qc H (fun OF H=>?_) (fun OF H=>?_)
      ·refine q1 ?_
       have Y1:Has h4 ((hH,.sl fw.1.nodes.length 4 (cj.l (aQ fw.1.nodes bk)))::(ib,.sl gQ.1.nodes.length 4 (cj.l (aQ gQ.1.nodes bV)))::(aM,.ob [.bool x6.2.2.aj,.rs fj 0 x6.2.2.aa.length 4,.rs gk 0 x6.2.2.ae.length 1])::(fj,.sl x6.2.2.aa.length 4 (ah.l x6.2.2.aa))::(dd fw.1.nodes bk++(dd gQ.1.nodes bV++L))):=iJ WY 4
       have Y2:Has h4 ((hH,.sl fw.1.nodes.length 4 (cj.l (aQ fw.1.nodes bk)))::(ib,.sl gQ.1.nodes.length 4 (cj.l (aQ gQ.1.nodes bV)))::(aM,.ob [.bool x6.2.2.aj,.rs fj 0 x6.2.2.aa.length 4,.rs gk 0 x6.2.2.ae.length 1])::(dd fw.1.nodes bk++(dd gQ.1.nodes bV++L))):=iJ Y1 3
       have Y3:Has h4 ((hH,.sl fw.1.nodes.length 4 (cj.l (aQ fw.1.nodes bk)))::(ib,.sl gQ.1.nodes.length 4 (cj.l (aQ gQ.1.nodes bV)))::(dd fw.1.nodes bk++(dd gQ.1.nodes bV++L))):=iJ Y2 2
       have Y4:Has h4 ((hH,.sl fw.1.nodes.length 4 (cj.l (aQ fw.1.nodes bk)))::(dd fw.1.nodes bk++L)):=Has.gone (pre:=[(hH,.sl fw.1.nodes.length 4 (cj.l (aQ fw.1.nodes bk)))]) (ns:=gQ.1.nodes) (ids:=bV) (Has.jX (pre:=[(hH,.sl fw.1.nodes.length 4 (cj.l (aQ fw.1.nodes bk)))]) (mid:=dd fw.1.nodes bk) (N:=dd gQ.1.nodes bV) (iJ Y3 1))
       have o53:Has h4 (L):=Has.gone (pre:=[]) (iJ Y4 0)
       exact qt <| fB H
      ·refine qk <| qq <| q0 <| qq <| qq <| q0 <| qb 0 ?_
       obtain⟨bP,Uk,H⟩:=aW H
       refine ql (a7.cb L l0 a0 b0 aM x5 x6 fj gk gQ ib bV fw hH bk  KO (true,0) _ _ ⟨h4,kr,WY⟩ Uk) ?_
       rintro e s (⟨rfl,EL,i1,rfl,g0,g1,g2,g3,g4,g5,h6,rfl,RX⟩| ⟨rfl,r0,rfl,rS⟩)
       ·try dsimp only at H
        refine qq ?_
        obtain⟨WS,Up,H⟩:=aW H
        refine qr [.a 2 (UR _ _ _ Up h6 _ (lZ (ak (eC (q:=2) RX rfl (ak (gL) (ak (eM (E:=ah) (l:=x6.2.2.aa) (q:=3) RX rfl (fun _=>rfl)) (ak (eM (E:=af) (l:=x6.2.2.ae) (q:=4) RX rfl (fun _=>rfl)) (aG))))) (ak (bO) (aG)))))] ?_
        have Y5:Has h6 ((hH,.sl fw.1.nodes.length 4 (cj.l (aQ fw.1.nodes bk)))::(aM,.ob [.bool x6.2.2.aj,.rs fj 0 x6.2.2.aa.length 4,.rs gk 0 x6.2.2.ae.length 1])::(fj,.sl x6.2.2.aa.length 4 (ah.l x6.2.2.aa))::(gk,.sl x6.2.2.ae.length 1 (af.l x6.2.2.ae))::(dd fw.1.nodes bk++L)):=Has.gone (pre:=[(hH,.sl fw.1.nodes.length 4 (cj.l (aQ fw.1.nodes bk))),(aM,.ob [.bool x6.2.2.aj,.rs fj 0 x6.2.2.aa.length 4,.rs gk 0 x6.2.2.ae.length 1]),(fj,.sl x6.2.2.aa.length 4 (ah.l x6.2.2.aa)),(gk,.sl x6.2.2.ae.length 1 (af.l x6.2.2.ae))]) (ns:=gQ.1.nodes) (ids:=bV) (Has.jX (pre:=[(hH,.sl fw.1.nodes.length 4 (cj.l (aQ fw.1.nodes bk))),(aM,.ob [.bool x6.2.2.aj,.rs fj 0 x6.2.2.aa.length 4,.rs gk 0 x6.2.2.ae.length 1]),(fj,.sl x6.2.2.aa.length 4 (ah.l x6.2.2.aa)),(gk,.sl x6.2.2.ae.length 1 (af.l x6.2.2.ae))]) (mid:=dd fw.1.nodes bk) (N:=dd gQ.1.nodes bV) (iJ RX 1))
        have Y6:Has h6 ((aM,.ob [.bool x6.2.2.aj,.rs fj 0 x6.2.2.aa.length 4,.rs gk 0 x6.2.2.ae.length 1])::(fj,.sl x6.2.2.aa.length 4 (ah.l x6.2.2.aa))::(gk,.sl x6.2.2.ae.length 1 (af.l x6.2.2.ae))::L):=Has.gone (pre:=[(aM,.ob [.bool x6.2.2.aj,.rs fj 0 x6.2.2.aa.length 4,.rs gk 0 x6.2.2.ae.length 1]),(fj,.sl x6.2.2.aa.length 4 (ah.l x6.2.2.aa)),(gk,.sl x6.2.2.ae.length 1 (af.l x6.2.2.ae))]) (iJ Y5 0)
        refine qq ?_
        obtain⟨WT,Uq,H⟩:=aW H
        refine qr [.a 2 (US _ _ _ Uq h6 _ fq)] <| qq ?_
        obtain⟨WU,Ur,H⟩:=aW H
        obtain⟨GB,jM,lf,h7,Us,o68⟩:=NP _ _ _ _ Ur h6 _ _ _ _ (Y6)  [.ptr aM 0,.i x5.1,.i x6.1] cq
        refine qr [.a 3 Us] ?_
        refine qq ?_
        rcases du H with⟨NL,H⟩| ⟨NL,H⟩
        ·obtain⟨WV,Ut,H⟩:=aW H
         exact qr [.b 2 NL,.a 14 (EM _ Ut h7 _ fq)] <| qt <| fB H
        ·rcases du H with⟨L4,H⟩| ⟨L4,H⟩
         ·obtain⟨WW,RU,H⟩:=aW H
          exact qr [.b 2 NL,.b 7 L4,.a 14 (EM _ RU h7 _ fq)] <| qt <| fB H
         ·rcases du H with⟨UU,H⟩| ⟨UU,H⟩
          ·obtain⟨WX,Uu,H⟩:=aW H
           exact qr [.b 2 NL,.b 7 L4,.b 13 UU,.a 14 (EM _ Uu h7 _ fq)] <| qt <| fB H
          ·exact qr [.b 2 NL,.b 7 L4,.b 13 UU] <| qt <| fB H
       ·try dsimp only at H
        obtain rfl:=oi H
        exact⟨.inl rfl,rS⟩
end
def gt (l:List Int)(k:Nat):Int:=l.getD k 0
theorem dt {l:List Int}{k:Nat}(h:k<l.length):l[k]? = some (gt l k):=by
 unfold gt; rw [aaV,aaL h]; rfl
theorem bK {l:List Int}{k:Nat}(h:k<l.length):gt l k∈l:=aaP (dt h)
theorem gh {l:List Int}{k:Nat}(h:k<l.length):ix l (k:Int)=some (gt l k):=by
 unfold ix; rw [if_pos om,aaS,dt h]
theorem CW {l:List Int}{i:Int}{k:Nat}(hi:i=(k:Int))(h:k<l.length):ix l i=some (gt l k):=by rw [hi,gh h]
theorem r7 {l:List Int}{i k:Nat}{x:Int}(hi:i<l.length):gt (l.set i x) k=if k=i then x else gt l k:=by
 unfold gt
 simp only [aaV,acb]
 by_cases h:i=k
 ·subst h; simp [hi]
 ·rw [if_neg h,if_neg om]
theorem NR {l r:List Int}(hl:l.length=r.length)(h:∀k,k<l.length→gt l k=gt r k):l=r:=by
 apply abO fun k=>?_
 by_cases hk:k<l.length
 ·rw [dt hk,dt (hl ▸ hk),h k hk]
 ·rw [aa2 om,aa2 om]
def swp (l:List Int)(i j:Nat):List Int:=(l.set i (gt l j)).set j (gt l i)
theorem qZ {l:List Int}{i j:Nat}(hi:i<l.length)(hj:j<l.length):(swp l i j).Perm l:=by
 have h1:gt l j=l[j]:=by have:=dt hj; rw [aaL hj] at this; exact (aa8 this).symm
 have h2:gt l i=l[i]:=by have:=dt hi; rw [aaL hi] at this; exact (aa8 this).symm
 unfold swp; rw [h1,h2]; exact List.set_set_perm hi hj
theorem nl {l:List Int}{i j k:Nat}(hi:i<l.length)(hj:j<l.length):gt (swp l i j) k=if k=j then gt l i else if k=i then gt l j else gt l k:=by
 unfold swp
 rw [r7 (by simpa using hj),r7 hi]
theorem vK {l:List Int}{i j:Nat}:(swp l i j).length=l.length:=by simp [swp]
theorem A4 {a b:Nat}(h:a+b<9223372036854775808):i64.wrap (jZ .u64 (u64.wrap (i64.wrap ((a:Int)+(b:Int)))) 1)=(((a+b) / 2:Nat):Int):=by
 rw [bJ (x:=(a:Int)+b) om om,MW om om]
 have:jZ .u64 ((a:Int)+(b:Int)) 1=(((a+b) / 2:Nat):Int):=by
  unfold jZ
  rw [Int.fdiv_eq_ediv_of_nonneg _ (by decide)]
  show ((a:Int)+(b:Int)) / 2=_
  omega
 rw [this,bJ om om]
theorem IG {m:Nat}{l:List Int}{a b n:Nat}(h1:a+n≤b)(h2:b+n≤l.length)(hl:l.length<2 ^ 40):∀(f i:Nat) (d:List Int),n - i<f→i≤n→d.Perm l→
  (∀k,gt d k=if a≤k∧k<a+i then gt l (k - a+b) else if b≤k∧k<b+i then gt l (k - b+a) else gt l k)→
  ∃d' x,bZ.l0 m (a:Int) (b:Int) (n:Int) f d (i:Int)=some (d',x)∧d'.Perm l∧(∀k,gt d' k=if a≤k∧k<a+n then gt l (k - a+b) else if b≤k∧k<b+n then gt l (k - b+a) else gt l k)
 | 0,i,d,hf,_,_,_=>absurd hf om
 | f+1,i,d,hf,hi,hp,hg=>by
  have wu:(2:Nat) ^ 40=1099511627776:=by decide
  have iJ:=hp.length_eq
  unfold bZ.l0
  by_cases h:i<n
  ·have e1:i64.wrap ((b:Int)+(i:Int))=((b+i:Nat):Int):=by rw [bJ om om]; omega
   have e2:i64.wrap ((a:Int)+(i:Int))=((a+i:Nat):Int):=by rw [bJ om om]; omega
   have e3:i64.wrap ((i:Int)+1)=((i+1:Nat):Int):=by rw [bJ om om]; omega
   rw [if_pos (by simp; omega),e1,e2,e3,gh om,gh om,aaS,aaS,aaG,aaG,aaG,gh (by simp; omega),aaG]
   show ∃d' x,bZ.l0 m (a:Int) (b:Int) (n:Int) f (swp d (a+i) (b+i)) ((i+1:Nat):Int)=some (d',x)∧_
   refine IG h1 h2 hl f (i+1) _ om om ((qZ om om).trans hp) fun k=>?_
   rw [nl om om,hg,hg,hg]
   by_cases k1:k=b+i
   ·subst k1
    rw [if_pos rfl,if_neg om,if_neg om,if_neg om,if_pos om]
    congr 1; omega
   ·rw [if_neg k1]
    by_cases k2:k=a+i
    ·subst k2
     rw [if_pos rfl,if_neg om,if_neg om,if_pos om]
     congr 1; omega
    ·rw [if_neg k2]
     by_cases k3:a≤k∧k<a+i
     ·rw [if_pos k3,if_pos om]
     ·rw [if_neg k3,if_neg (show ¬(a≤k∧k<a+(i+1)) by omega)]
      by_cases k4:b≤k∧k<b+i
      ·rw [if_pos k4,if_pos om]
      ·rw [if_neg k4,if_neg om]
  ·have:i=n:=by omega
   subst this
   exact⟨d,i,by rw [if_neg (by simp)],hp,hg⟩
theorem vL {m:Nat}{l:List Int}{a b n:Nat}{cmp:Int→Int→Option Int}(h1:a+n≤b)(h2:b+n≤l.length)(hl:l.length<2 ^ 40)(hm:n<m) :
  ∃d',bZ.f m l (a:Int) (b:Int) (n:Int) cmp=some d'∧d'.Perm l∧(∀k,gt d' k=if a≤k∧k<a+n then gt l (k - a+b) else if b≤k∧k<b+n then gt l (k - b+a) else gt l k):=by
 obtain⟨d',x,e,hp,hg⟩:=IG (m:=m) h1 h2 hl m 0 l om om (List.Perm.refl _) (fun k=>by rw [if_neg om,if_neg om])
 have e:bZ.l0 m (a:Int) (b:Int) (n:Int) m l 0=_:=e
 exact⟨d',by unfold bZ.f; rw [e]; rfl,hp,hg⟩
def OH (l d:List Int)(p i j:Nat):Prop:=d.Perm l∧(∀k,k<j→gt d (p+k)=gt l (p+i+k))∧(∀k,k<i→gt d (p+j+k)=gt l (p+k))∧∀k,k<p∨p+i+j≤k→gt d k=gt l k
theorem CX {m:Nat}{q:Nat}{cmp:Int→Int→Option Int}(hm:2 ^ 41≤m):∀(f i j:Nat) (l:List Int),i+j<f→0<i→0<j→i≤q→q+j≤l.length→l.length<2 ^ 40→
  ∃(d':List Int) (x:Nat) (d:List Int),fK.l0 m (q:Int) cmp f l (i:Int) (j:Int)=some (d',(x:Int),(x:Int))∧bZ.f m d' (i64.wrap ((q:Int) - (x:Int))) (q:Int) (x:Int) cmp=some d∧OH l d (q - i) i j
 | 0,i,j,l,hf,_,_,_,_,_=>absurd hf om
 | f+1,i,j,l,hf,hi,hj,hq,hl,hs=>by
  have wu:(2:Nat) ^ 40=1099511627776:=by decide
  have vM:(2:Nat) ^ 41=2199023255552:=by decide
  unfold fK.l0
  have e1:i64.wrap ((q:Int) - (i:Int))=((q - i:Nat):Int):=by rw [bJ om om]; omega
  by_cases h:i=j
  ·subst h
   rw [if_neg (by simp)]
   obtain⟨d,e,hp,hg⟩:=vL (m:=m) (l:=l) (a:=q - i) (b:=q) (n:=i) (cmp:=cmp) om om hs om
   refine⟨l,i,d,rfl,by rw [e1,e],hp,fun k hk=>?_,fun k hk=>?_,fun k hk=>?_⟩
   ·rw [hg,if_pos om]; congr 1; omega
   ·rw [hg,if_neg om,if_pos om]; congr 1; omega
   ·rw [hg,if_neg om,if_neg om]
  ·rw [if_pos (by simp; omega)]
   by_cases h2:j<i
   ·obtain⟨d1,e,hp,hg⟩:=vL (m:=m) (l:=l) (a:=q - i) (b:=q) (n:=j) (cmp:=cmp) om om hs om
    have hd:=hp.length_eq
    have e2:i64.wrap ((i:Int) - (j:Int))=((i - j:Nat):Int):=by rw [bJ om om]; omega
    rw [if_pos (by simp; omega),e1,e,aaG,e2]
    obtain⟨d',x,d,k1,k2,k3,k4,k5,k6⟩:=CX (q:=q) (cmp:=cmp) hm f (i - j) j d1 om om hj om om om
    refine⟨d',x,d,k1,k2,k3.trans hp,fun k hk=>?_,fun k hk=>?_,fun k hk=>?_⟩
    ·rw [k6 _ om,hg,if_pos om]; congr 1; omega
    ·by_cases UW:k<j
     ·have:=k4 k UW
      rw [show q - (i - j)+k=q - i+j+k by omega,hg,if_neg om,if_pos om] at this
      rw [this]; congr 1; omega
     ·have:=k5 (k - j) om
      rw [show q - (i - j)+j+(k - j)=q - i+j+k by omega,hg,if_neg om,if_neg om] at this
      rw [this]; congr 1; omega
    ·rw [k6 _ om,hg,if_neg om,if_neg om]
   ·have e2:i64.wrap (i64.wrap ((q:Int)+(j:Int)) - (i:Int))=((q+j - i:Nat):Int):=by rw [bJ (x:=(q:Int)+j) om om,bJ om om]; omega
    have e3:i64.wrap ((j:Int) - (i:Int))=((j - i:Nat):Int):=by rw [bJ om om]; omega
    obtain⟨d1,e,hp,hg⟩:=vL (m:=m) (l:=l) (a:=q - i) (b:=q+j - i) (n:=i) (cmp:=cmp) om om hs om
    have hd:=hp.length_eq
    rw [if_neg (by simp; omega),e1,e2,e,aaG,e3]
    obtain⟨d',x,d,k1,k2,k3,k4,k5,k6⟩:=CX (q:=q) (cmp:=cmp) hm f i (j - i) d1 om hi om hq om om
    refine⟨d',x,d,k1,k2,k3.trans hp,fun k hk=>?_,fun k hk=>?_,fun k hk=>?_⟩
    ·by_cases UW:k<j - i
     ·rw [k4 k UW,hg,if_neg om,if_neg om]
     ·have:=k5 (k - (j - i)) om
      rw [show q - i+(j - i)+(k - (j - i))=q - i+k by omega,hg,if_pos om] at this
      rw [this]; congr 1; omega
    ·rw [k6 _ om,hg,if_neg om,if_pos om]; congr 1; omega
    ·rw [k6 _ om,hg,if_neg om,if_neg om]
theorem II {m:Nat}{a q b:Nat}{cmp:Int→Int→Option Int}{l:List Int}(hm:2 ^ 41≤m)(h1:a<q)(h2:q<b)(h3:b≤l.length)(hs:l.length<2 ^ 40) :
  ∃d,fK.f m l (a:Int) (q:Int) (b:Int) cmp=some d∧OH l d a (q - a) (b - q):=by
 have wu:(2:Nat) ^ 40=1099511627776:=by decide
 have vM:(2:Nat) ^ 41=2199023255552:=by decide
 obtain⟨d',x,d,k1,k2,k3⟩:=CX (q:=q) (cmp:=cmp) hm m (q - a) (b - q) l om om om om om hs
 rw [show q - (q - a)=a by omega] at k3
 refine⟨d,?_,k3⟩
 unfold fK.f
 rw [show i64.wrap ((q:Int) - (a:Int))=((q - a:Nat):Int) by rw [bJ om om]; omega,show i64.wrap ((b:Int) - (q:Int))=((b - q:Nat):Int) by rw [bJ om om]; omega,k1,aaG]
 dsimp only
 rw [k2]; rfl
def iH (c:Int):Bool:=decide (97≤c∧c≤122)||decide (65≤c∧c≤90)||decide (48≤c∧c≤57)||c==95
theorem A5 {m:Nat}(c:Int):gE.f m c=some (iH c):=by
 unfold gE.f
 by_cases h1:97≤c<;>by_cases h2:c≤122<;>by_cases h3:65≤c<;>by_cases h4:c≤90<;>by_cases h5:48≤c<;>by_cases h6:c≤57<;>simp [iH,h1,h2,h3,h4,h5,h6]<;>omega
theorem tT {s:ByteArray}{i:Nat}(h:i<s.size):∃c:UInt8,s.data.toList[i]? = some c∧bt s (i:Int)=some (c.toNat:Int):=by
 have h':i<s.data.toList.length:=by simpa using h
 refine⟨s.data.toList[i],aaL h',?_⟩
 unfold bt; rw [if_pos om,aaS,aaL h']; rfl
theorem EN {m:Nat}{s:ByteArray}(hs:s.size≤16):∀(f i:Nat),s.size - i<f→i≤s.size→
  ∃o,de.l0 m s f (i:Int)=some o∧((∃x,o = .inr x)∧((s.data.toList.drop i).all fun c=>iH (c.toNat:Int))=true∨o = .inl false∧((s.data.toList.drop i).all fun c=>iH (c.toNat:Int))=false)
 | 0,i,hf,_=>absurd hf om
 | f+1,i,hf,hi=>by
  unfold de.l0
  by_cases h:i<s.size
  ·obtain⟨c,hc,hb⟩:=tT h
   obtain⟨h4,h5⟩:=aaM.1 hc
   have hd:s.data.toList.drop i=c::s.data.toList.drop (i+1):=by rw [←h5]; exact aaT h4
   rw [if_pos dm,hb,aaG,A5,aaG,hd,abu]
   cases hl:iH (c.toNat:Int) with
   | false=>exact⟨_,rfl,.inr ⟨rfl,rfl⟩⟩
   | true=>
    obtain⟨o,h1,h2⟩:=EN (m:=m) hs f (i+1) om om
    rw [if_neg (by simp),bJ om om,show (i:Int)+1=((i+1:Nat):Int) by omega,h1]
    exact⟨o,rfl,by simpa using h2⟩
  ·refine⟨_,by rw [if_neg dm],.inl ⟨⟨_,rfl⟩,?_⟩⟩
   rw [abH (by simp; omega)]; rfl
def A6 (s:ByteArray)(lo hi:Int):Bool:=match s.data.toList with
 | []=>false
 | c::cs=>decide (cs.length≤15)&&decide (lo≤(c.toNat:Int))&&decide ((c.toNat:Int)≤hi)&&((c::cs).all fun c=>iH (c.toNat:Int))
theorem F8 {m:Nat}(hm:20≤m)(s:ByteArray)(lo hi:Int):de.f m s lo hi=some (A6 s lo hi):=by
 have hsz:s.size=s.data.toList.length:=by simp
 unfold de.f A6
 cases hl:s.data.toList with
 | nil=>rw [if_pos (by rw [hl,aba] at hsz; simp only [decide_eq_true_eq]; omega)]
 | cons c cs=>
  rw [hl,aaW] at hsz
  rw [if_neg dm]
  dsimp only
  by_cases h16:cs.length≤15
  ·obtain⟨c',h1,h2⟩:=tT (s:=s) (i:=0) om
   rw [hl] at h1
   simp only [abg,aaJ] at h1
   subst h1
   have h2:bt s 0=_:=h2
   rw [if_neg dm,h2,aaG]
   by_cases h3:(c.toNat:Int)<lo
   ·rw [if_pos (by simpa using h3)]
    simp only [aaJ]
    rw [show decide (lo≤(c.toNat:Int))=false by simp; omega]; simp
   rw [if_neg (by simpa using h3),aaG]
   by_cases h4:(c.toNat:Int) > hi
   ·rw [if_pos (by simpa using h4)]
    simp only [aaJ]
    rw [show decide ((c.toNat:Int)≤hi)=false by simp; omega]; simp
   rw [if_neg (by simpa using h4)]
   obtain⟨o,k1,k2⟩:=EN (m:=m) (s:=s) om m 0 om om
   have k1:de.l0 m s m 0=_:=k1
   rw [k1,aaG]
   rw [abl,hl] at k2
   rw [show decide (lo≤(c.toNat:Int))=true by simp; omega,show decide ((c.toNat:Int)≤hi)=true by simp; omega,show decide (cs.length≤15)=true by simpa using h16]
   simp only [abL]
   rcases k2 with⟨⟨x,rfl⟩,k⟩| ⟨rfl,k⟩
   ·rw [k]
   ·rw [k]
  ·rw [if_pos dm,show decide (cs.length≤15)=false by simp; omega]; rfl
def lL (s:ByteArray):Bool:=s.data.toList==[124]||s.data.toList==[35]||A6 s 97 122
theorem oZ {m:Nat}(hm:20≤m)(s:ByteArray):gA.f m s=some (lL s):=by
 unfold gA.f lL
 show (if (s.data.toList==[124])=true then _ else if (s.data.toList==[35])=true then _ else _)=_
 cases h1:s.data.toList==[124] with
 | true=>rfl
 | false=>
  cases h2:s.data.toList==[35] with
  | true=>rfl
  | false=>rw [F8 hm]; rfl
theorem xq {s:ByteArray}(h:lL s=true):1≤s.size∧s.size≤16:=by
 have hsz:s.size=s.data.toList.length:=by simp
 unfold lL at h
 simp only [abw,beq_iff_eq] at h
 rcases h with (h | h) | h
 ·rw [h] at hsz; simp at hsz; omega
 ·rw [h] at hsz; simp at hsz; omega
 ·unfold A6 at h
  split at h
  ·cases h
  ·rename_i c cs hl
   rw [hl] at hsz
   simp only [aaK,decide_eq_true_eq] at h
   simp at hsz; omega
def xr (s:ByteArray):Bool:=s.data.toList==[112,114,111,99]||s.data.toList==[99,101,108,108]||s.data.toList==[112,111,114,116]
theorem xt {m:Nat}(s:ByteArray):gN.f m s=some (xr s):=by
 unfold gN.f xr
 show (if (s.data.toList==[112,114,111,99])=true then _ else if (s.data.toList==[99,101,108,108])=true then _ else some (s.data.toList==[112,111,114,116]))=_
 cases h1:s.data.toList==[112,114,111,99] with
 | true=>rfl
 | false=>
  cases h2:s.data.toList==[99,101,108,108] with
  | true=>rfl
  | false=>rfl
theorem IJ {m:Nat}{s:List Int}{f0:Int→Option Bool}{g:Int→Bool}(hs:s.length<2 ^ 40)(C:∀x∈s,f0 x=some (g x)):∀(f i:Nat),s.length - i<f→i≤s.length→
  ∃o,cP.l0 m s f0 f (i:Int)=some o∧((∃x,o = .inr x)∧(s.drop i).any g=false∨(∃x:Nat,o = .inl (x:Int))∧(s.drop i).any g=true)
 | 0,i,hf,_=>absurd hf om
 | f+1,i,hf,hi=>by
  have wu:(2:Nat) ^ 40=1099511627776:=by decide
  unfold cP.l0
  by_cases h:i<s.length
  ·have hx:ix s (i:Int)=some s[i]:=by unfold ix; rw [if_pos om]; simp [h]
   rw [if_pos dm,hx,aaG,C _ (List.getElem_mem h),aaG,aaT h,List.any_cons]
   cases g s[i] with
   | true=>exact⟨_,rfl,.inr ⟨⟨i,rfl⟩,rfl⟩⟩
   | false=>
    obtain⟨o,h1,h2⟩:=IJ (m:=m) hs C f (i+1) om om
    rw [if_neg (by simp),bJ om om,show (i:Int)+1=((i+1:Nat):Int) by omega,h1]
    exact⟨o,rfl,by simpa using h2⟩
  ·refine⟨_,by rw [if_neg dm],.inl ⟨⟨_,rfl⟩,?_⟩⟩
   rw [abH om]; rfl
theorem F9 {m:Nat}{s:List Int}{f0:Int→Option Bool}{g:Int→Bool}(hs:s.length<2 ^ 40)(hm:s.length<m)(C:∀x∈s,f0 x=some (g x)):fi.f m s f0=some (s.any g):=by
 obtain⟨o,h1,h2⟩:=IJ (m:=m) hs C m 0 om om
 have h1:cP.l0 m s f0 m 0=_:=h1
 unfold fi.f cP.f
 rw [h1,aaG]
 rw [abl] at h2
 rcases h2 with⟨⟨x,rfl⟩,k⟩| ⟨⟨x,rfl⟩,k⟩
 ·rw [k]; rfl
 ·rw [k]
  simp only [aaG,aaJ]
  simp
theorem IK {m:Nat}{s:List ai}{f0:ai→Option Bool}{g:ai→Bool}(hs:s.length<2 ^ 40)(C:∀x∈s,f0 x=some (g x)):∀(f i:Nat),s.length - i<f→i≤s.length→
  ∃o,fJ.l0 m s f0 f (i:Int)=some o∧((∃x,o = .inr x)∧(s.drop i).any g=false∨(∃x:Nat,o = .inl (x:Int))∧(s.drop i).any g=true)
 | 0,i,hf,_=>absurd hf om
 | f+1,i,hf,hi=>by
  have wu:(2:Nat) ^ 40=1099511627776:=by decide
  unfold fJ.l0
  by_cases h:i<s.length
  ·have hx:ix s (i:Int)=some s[i]:=by unfold ix; rw [if_pos om]; simp [h]
   rw [if_pos dm,hx,aaG,C _ (List.getElem_mem h),aaG,aaT h,List.any_cons]
   cases g s[i] with
   | true=>exact⟨_,rfl,.inr ⟨⟨i,rfl⟩,rfl⟩⟩
   | false=>
    obtain⟨o,h1,h2⟩:=IK (m:=m) hs C f (i+1) om om
    rw [if_neg (by simp),bJ om om,show (i:Int)+1=((i+1:Nat):Int) by omega,h1]
    exact⟨o,rfl,by simpa using h2⟩
  ·refine⟨_,by rw [if_neg dm],.inl ⟨⟨_,rfl⟩,?_⟩⟩
   rw [abH om]; rfl
theorem Ga {m:Nat}{s:List ai}{f0:ai→Option Bool}{g:ai→Bool}(hs:s.length<2 ^ 40)(hm:s.length<m)(C:∀x∈s,f0 x=some (g x)):iu.f m s f0=some (s.any g):=by
 obtain⟨o,h1,h2⟩:=IK (m:=m) hs C m 0 om om
 have h1:fJ.l0 m s f0 m 0=_:=h1
 unfold iu.f fJ.f
 rw [h1,aaG]
 rw [abl] at h2
 rcases h2 with⟨⟨x,rfl⟩,k⟩| ⟨⟨x,rfl⟩,k⟩
 ·rw [k]; rfl
 ·rw [k]
  simp only [aaG,aaJ]
  simp
def ec (n:ai)(size:Int):Bool:=
 if n.kind=0 then decide (0≤n.int)&&n.label.data.toList==[]&&n.args.isEmpty
 else if n.kind=1 then decide (-1099511627776≤n.int)&&decide (n.int≤1099511627776)&&n.label.data.toList==[]&&n.args.isEmpty
 else if n.kind=2 then n.int==0&&lL n.label&&n.args.isEmpty
 else if n.kind=3 then n.int==0&&lL n.label&&decide (1≤n.args.length)&&decide (n.args.length≤8)&&n.args.all fun a=>decide (0≤a)&&decide (a<size)
 else if n.kind=4 then decide (0≤n.int)&&xr n.label&&n.args.isEmpty
 else false
theorem A7 (l:List Int):((l.length:Int)==(0:Int))=l.isEmpty:=by cases l<;>simp; omega
theorem Gb {m:Nat}(hm:20≤m)(n:ai)(size:Int):jh.f m n size=some (ec n size):=by
 unfold jh.f ec
 by_cases k0:n.kind=0
 ·rw [if_pos (by simpa using k0),if_pos k0]
  by_cases h1:0≤n.int
  ·rw [if_pos (by simpa using h1),show decide (0≤n.int)=true by simpa using h1]
   show (if (n.label.data.toList==[])=true then _ else _)=_
   cases n.label.data.toList==[] with
   | true=>rw [if_pos rfl,A7]; rfl
   | false=>rfl
  ·rw [if_neg (by simpa using h1),show decide (0≤n.int)=false by simp; omega]; rfl
 rw [if_neg (by simpa using k0),if_neg k0]
 by_cases k1:n.kind=1
 ·rw [if_pos (by simpa using k1),if_pos k1]
  by_cases h1 : -1099511627776≤n.int
  ·rw [if_pos (by simpa using h1),show decide (-1099511627776≤n.int)=true by simpa using h1]
   by_cases h3:n.int≤1099511627776
   ·rw [if_pos (by simpa using h3),show decide (n.int≤1099511627776)=true by simpa using h3]
    show (if (n.label.data.toList==[])=true then _ else _)=_
    cases n.label.data.toList==[] with
    | true=>rw [if_pos rfl,A7]; rfl
    | false=>rfl
   ·rw [if_neg (by simpa using h3),show decide (n.int≤1099511627776)=false by simp; omega]; rfl
  ·rw [if_neg (by simpa using h1),show decide (-1099511627776≤n.int)=false by simp; omega]; rfl
 rw [if_neg (by simpa using k1),if_neg k1]
 by_cases k2:n.kind=2
 ·rw [if_pos (by simpa using k2),if_pos k2]
  cases h1:n.int==0 with
  | false=>rfl
  | true=>
   rw [if_pos rfl,oZ hm,aaG]
   cases lL n.label with
   | false=>rfl
   | true=>rw [if_pos rfl,A7]; rfl
 rw [if_neg (by simpa using k2),if_neg k2]
 by_cases k3:n.kind=3
 ·rw [if_pos (by simpa using k3),if_pos k3]
  cases h1:n.int==0 with
  | false=>rfl
  | true=>
   rw [if_pos rfl,oZ hm,aaG]
   cases lL n.label with
   | false=>rfl
   | true=>
    rw [if_pos rfl]
    by_cases g1:1≤n.args.length
    ·rw [if_pos dm,show decide (1≤n.args.length)=true by simpa using g1]
     by_cases g2:n.args.length≤8
     ·rw [if_pos dm,show decide (n.args.length≤8)=true by simpa using g2]
      rw [F9 (g:=fun a=>!(decide (0≤a)&&decide (a<size))) om om (fun a _=>by
       unfold ir.f
       by_cases w:a<0
       ·rw [if_pos (by simpa using w),show decide (0≤a)=false by simp; omega]; rfl
       ·rw [if_neg (by simpa using w),show decide (0≤a)=true by simp; omega]
        by_cases w2:a<size
        ·rw [show decide (a≥size)=false from decide_eq_false om,show decide (a<size)=true from decide_eq_true w2]; rfl
        ·rw [show decide (a≥size)=true from decide_eq_true om,show decide (a<size)=false from decide_eq_false w2]; rfl),aaG]
      simp [List.not_any_eq_all_not]
     ·rw [if_neg dm,show decide (n.args.length≤8)=false from decide_eq_false g2]; rfl
    ·rw [if_neg dm,show decide (1≤n.args.length)=false from decide_eq_false g1]; rfl
 rw [if_neg (by simpa using k3),if_neg k3]
 by_cases k4:n.kind=4
 ·rw [if_pos (by simpa using k4),if_pos k4]
  by_cases h1:0≤n.int
  ·rw [if_pos (by simpa using h1),show decide (0≤n.int)=true by simpa using h1,xt,aaG]
   cases xr n.label with
   | false=>rfl
   | true=>rw [if_pos rfl,A7]; rfl
  ·rw [if_neg (by simpa using h1),show decide (0≤n.int)=false by simp; omega]; rfl
 rw [if_neg (by simpa using k4),if_neg k4]
structure Mv (lo hi:Nat)(l d:List Int):Prop where
 perm:d.Perm l
 out:∀k,k<lo∨hi≤k→gt d k=gt l k
 im:∀k,lo≤k→k<hi→∃k',lo≤k'∧k'<hi∧gt d k=gt l k'
theorem Mv.refl {lo hi:Nat}{l:List Int}:Mv lo hi l l:=⟨List.Perm.refl _,fun _ _=>rfl,fun k h1 h2=>⟨k,h1,h2,rfl⟩⟩
theorem Mv.trans {lo hi:Nat}{l d e:List Int}(a:Mv lo hi l d)(b:Mv lo hi d e):Mv lo hi l e:=
 ⟨b.perm.trans a.perm,fun k hk=>(b.out k hk).trans (a.out k hk),fun k h1 h2=>by
  obtain⟨k',g1,g2,g3⟩:=b.im k h1 h2
  obtain⟨Y7,g4,g5,g6⟩:=a.im k' g1 g2
  exact⟨Y7,g4,g5,g3.trans g6⟩⟩
theorem Mv.length {lo hi:Nat}{l d:List Int}(a:Mv lo hi l d):d.length=l.length:=a.perm.length_eq
theorem Mv.wide {lo hi JC kp:Nat}{l d:List Int}(a:Mv lo hi l d)(h1:JC≤lo)(h2:hi≤kp):Mv JC kp l d:=
 ⟨a.perm,fun k hk=>a.out k om,fun k h3 h4=>by
  by_cases h:lo≤k∧k<hi
  ·obtain⟨k',g1,g2,g3⟩:=a.im k h.1 h.2
   exact⟨k',om,om,g3⟩
  ·exact⟨k,h3,h4,a.out k om⟩⟩
theorem CY {lo hi i j:Nat}{l:List Int}(Rw:lo≤i)(Dq:i<hi)(RR:lo≤j)(JI:j<hi)(h:hi≤l.length):Mv lo hi l (swp l i j):=
 ⟨qZ om om,fun k hk=>by rw [nl om om,if_neg om,if_neg om],fun k h1 h2=>by
  rw [nl om om]
  split
  ·exact⟨i,Rw,Dq,rfl⟩
  split
  ·exact⟨j,RR,JI,rfl⟩
  ·exact⟨k,h1,h2,rfl⟩⟩
def Cm (cmp:Int→Int→Option Int)(c:Int→Int→Int)(l:List Int):Prop:=∀x∈l,∀y∈l,cmp x y=some (c x y)
theorem Cm.perm {cmp c l d}(h:Cm cmp c l)(p:List.Perm d l):Cm cmp c d:=fun x hx y hy=>h x (p.mem_iff.1 hx) y (p.mem_iff.1 hy)
theorem Cm.at {cmp c}{l:List Int}(h:Cm cmp c l){i j:Nat}(hi:i<l.length)(hj:j<l.length):cmp (gt l i) (gt l j)=some (c (gt l i) (gt l j)):=h _ (bK hi) _ (bK hj)
structure Ord (c:Int→Int→Int)(l:List Int):Prop where
 tr:∀x∈l,∀y∈l,∀z∈l,0≤c y x→0≤c z y→0≤c z x
 OI:∀x∈l,∀y∈l,c x y<0→0≤c y x
theorem Ord.perm {c l d}(h:Ord c l)(p:List.Perm d l):Ord c d:=⟨fun x hx y hy z hz=>h.tr x (p.mem_iff.1 hx) y (p.mem_iff.1 hy) z (p.mem_iff.1 hz),fun x hx y hy=>h.OI x (p.mem_iff.1 hx) y (p.mem_iff.1 hy)⟩
def Sg (c:Int→Int→Int)(l:List Int)(a b:Nat):Prop:=∀i j,a≤i→i<j→j<b→0≤c (gt l j) (gt l i)
theorem IL {m:Nat}{a i:Nat}{cmp:Int→Int→Option Int}{c:Int→Int→Int}:∀(f j:Nat) (d:List Int),j - a<f→a≤j→j≤i→i<d.length→d.length<2 ^ 40→Cm cmp c d→
  ∃d' x,aZ.l1 m (a:Int) cmp f d (j:Int)=some (d',x)∧Mv a (i+1) d d'∧
   (Ord c d→(∀x y,a≤x→x<y→y≤i→x≠j→y≠j→0≤c (gt d y) (gt d x))→(∀y,j<y→y≤i→0≤c (gt d y) (gt d j))→Sg c d' a (i+1))
 | 0,j,d,hf,_,_,_,_,_=>absurd hf om
 | f+1,j,d,hf,h1,h2,h3,hs,C=>by
  have wu:(2:Nat) ^ 40=1099511627776:=by decide
  unfold aZ.l1
  by_cases h:a<j
  ·have e1:i64.wrap ((j:Int) - 1)=((j - 1:Nat):Int):=by rw [bJ om om]; omega
   rw [if_pos (by simp; omega),e1,gh om,gh om,aaG,aaG,C.at om om,aaG]
   by_cases hc:c (gt d j) (gt d (j - 1))<0
   ·rw [if_pos (by simpa using hc),aaG,aaG,aaG,aaS,aaS,gh (by simp; omega),aaG]
    obtain⟨d',x,k1,k2,k3⟩:=IL (m:=m) (a:=a) (i:=i) (cmp:=cmp) (c:=c) f (j - 1) (swp d j (j - 1)) om om om (by rw [vK]; omega) (by rw [vK]; omega) (C.perm (qZ om om))
    refine⟨d',x,k1,(CY om om om om om).trans k2,fun O g1 g2=>k3 (O.perm (qZ om om)) (fun x y x1 x2 x3 x4 x5=>?_) (fun y y1 y2=>?_)⟩
    ·rw [nl om om,nl om om,if_neg x5,if_neg x4]
     by_cases hy:y=j
     ·subst hy
      rw [if_pos rfl,if_neg om]
      exact g1 _ _ om om om om om
     ·rw [if_neg hy]
      by_cases hx:x=j
      ·subst hx
       rw [if_pos rfl]
       exact g1 _ _ om om om om om
      ·rw [if_neg hx]
       exact g1 _ _ om om om om om
    ·rw [nl om om,nl om om,if_neg om,if_pos rfl]
     by_cases hy:y=j
     ·subst hy
      rw [if_pos rfl]
      exact O.OI _ (bK om) _ (bK om) hc
     ·rw [if_neg hy]
      exact g2 _ om om
   ·rw [if_neg (by simpa using hc)]
    refine⟨d,j,rfl,Mv.refl,fun O g1 g2 x y x1 x2 x3=>?_⟩
    have hc:0≤c (gt d j) (gt d (j - 1)):=by omega
    by_cases hx:x=j
    ·subst hx; exact g2 _ x2 om
    ·by_cases hy:y=j
     ·subst hy
      by_cases hx1:x=y - 1
      ·subst hx1; exact hc
      ·exact O.tr _ (bK om) (gt d (y - 1)) (bK om) _ (bK om) (g1 _ _ x1 om om hx om) hc
     ·exact g1 _ _ x1 x2 om hx hy
  ·have:j=a:=by omega
   subst this
   rw [if_neg (by simp)]
   refine⟨d,j,rfl,Mv.refl,fun O g1 g2 x y x1 x2 x3=>?_⟩
   by_cases hx:x=j
   ·subst hx; exact g2 _ x2 om
   ·exact g1 _ _ x1 x2 om hx om
theorem IM {m:Nat}{a b:Nat}{cmp:Int→Int→Option Int}{c:Int→Int→Int}(hm:2 ^ 41≤m):∀(f i:Nat) (d:List Int),b - i<f→a<i→b≤d.length→d.length<2 ^ 40→Cm cmp c d→
  ∃d' x,aZ.l0 m (a:Int) (b:Int) cmp f d (i:Int)=some (d',x)∧Mv a b d d'∧(Ord c d→Sg c d a i→Sg c d' a b)
 | 0,i,d,hf,_,_,_,_=>absurd hf om
 | f+1,i,d,hf,h1,h2,hs,C=>by
  have wu:(2:Nat) ^ 40=1099511627776:=by decide
  have vM:(2:Nat) ^ 41=2199023255552:=by decide
  unfold aZ.l0
  by_cases h:i<b
  ·obtain⟨d1,x1,k1,k2,k3⟩:=IL (m:=m) (a:=a) (i:=i) (cmp:=cmp) (c:=c) m i d om om om om hs C
   have e3:i64.wrap ((i:Int)+1)=((i+1:Nat):Int):=by rw [bJ om om]; omega
   rw [if_pos (by simp; omega),k1,aaG]
   dsimp only
   rw [e3]
   have hl:=k2.length
   obtain⟨d',x,g1,g2,g3⟩:=IM (a:=a) (b:=b) (cmp:=cmp) (c:=c) hm f (i+1) d1 om om om om (C.perm k2.perm)
   exact⟨d',x,g1,(k2.wide (aaN _) om).trans g2,fun O S=>g3 (O.perm k2.perm) (k3 O (fun x y q1 q2 q3 q4 q5=>S x y q1 q2 om) (fun y q1 q2=>absurd q1 om))⟩
  ·exact⟨d,i,by rw [if_neg (by simp; omega)],Mv.refl,fun O S x y q1 q2 q3=>S x y q1 q2 om⟩
theorem A8 {m:Nat}{a b:Nat}{cmp:Int→Int→Option Int}{c:Int→Int→Int}(hm:2 ^ 41≤m){l:List Int}(ha:a≤l.length)(hb:b≤l.length)(hs:l.length<2 ^ 40)(C:Cm cmp c l) :
  ∃d,aZ.f m l (a:Int) (b:Int) cmp=some d∧Mv a b l d∧(Ord c l→Sg c d a b):=by
 have wu:(2:Nat) ^ 40=1099511627776:=by decide
 have vM:(2:Nat) ^ 41=2199023255552:=by decide
 have e3:i64.wrap ((a:Int)+1)=((a+1:Nat):Int):=by rw [bJ om om]; omega
 obtain⟨d',x,g1,g2,g3⟩:=IM (a:=a) (b:=b) (cmp:=cmp) (c:=c) hm m (a+1) l om om hb hs C
 exact⟨d',by unfold aZ.f; rw [e3,g1]; rfl,g2,fun O=>g3 O fun x y q1 q2 q3=>absurd q3 om⟩
theorem IN {α β:Type}{B:α→Option β}{c1 c2:Bool}{X:Option α}{d0:α}{G:β→Prop}(D:α→Prop)(h1:c1=true→c2=true→∃x,X=some x∧D x)(h0:¬(c1=true∧c2=true)→D d0)
  (h:∀x,D x→∃d,B x=some d∧G d):∃d,jn B (fun j=>if c1=true then (if c2=true then (X.bind fun x0=>j x0) else j d0) else j d0)=some d∧G d:=by
 unfold jn
 dsimp only
 by_cases a1:c1=true
 ·by_cases a2:c2=true
  ·obtain⟨x,e,hx⟩:=h1 a1 a2
   rw [if_pos a1,if_pos a2,e]; exact h x hx
  ·rw [if_pos a1,if_neg a2]; exact h _ (h0 fun z=>a2 z.2)
 ·rw [if_neg a1]; exact h _ (h0 fun z=>a1 z.1)
theorem UX {α:Type}{c1 c2:Bool}{X:Option α}{d0:α}{G:α→Prop}(h1:c1=true→c2=true→∃x,X=some x∧G x)(h0:¬(c1=true∧c2=true)→G d0) :
  ∃d,(if c1=true then (if c2=true then (X.bind fun x0=>some x0) else some d0) else some d0)=some d∧G d:=by
 by_cases a1:c1=true
 ·by_cases a2:c2=true
  ·obtain⟨x,e,hx⟩:=h1 a1 a2
   rw [if_pos a1,if_pos a2,e]; exact⟨x,rfl,hx⟩
  ·rw [if_pos a1,if_neg a2]; exact⟨_,rfl,h0 fun z=>a2 z.2⟩
 ·rw [if_neg a1]; exact⟨_,rfl,h0 fun z=>a1 z.1⟩
theorem NS {α β:Type}{B:α→Option β}{c:Bool}{x y:α}{G:β→Prop}(h:∀z,(c=true∧z=x)∨(c=false∧z=y)→∃d,B z=some d∧G d):∃d,jn B (fun j=>if c=true then j x else j y)=some d∧G d:=by
 unfold jn
 dsimp only
 cases c with
 | true=>exact h _ (.inl ⟨rfl,rfl⟩)
 | false=>exact h _ (.inr ⟨rfl,rfl⟩)
theorem Ord.refl {c:Int→Int→Int}{l:List Int}(O:Ord c l){x:Int}(hx:x∈l):0≤c x x:=by
 by_cases h:c x x<0
 ·exact O.OI x hx x hx h
 ·omega
theorem Sg.le {c:Int→Int→Int}{l:List Int}{a b:Nat}(S:Sg c l a b)(O:Ord c l){i j:Nat}(h1:a≤i)(h2:i≤j)(h3:j<b)(h4:b≤l.length):0≤c (gt l j) (gt l i):=by
 by_cases h:i=j
 ·subst h; exact O.refl (bK om)
 ·exact S i j h1 om h3
section
variable {m:Nat}{cmp:Int→Int→Option Int}{c:Int→Int→Int}
theorem CZ {l:List Int}{a:Nat}(ha:a<l.length)(hs:l.length<2 ^ 40)(C:Cm cmp c l):∀(f i j:Nat),j - i<f→i≤j→j≤l.length→
  ∃x:Nat,aJ.l0 m l (a:Int) cmp f (i:Int) (j:Int)=some ((x:Int),(x:Int))∧i≤x∧x≤j∧(i<x→c (gt l (x - 1)) (gt l a)<0)∧(x<j→0≤c (gt l x) (gt l a))
 | 0,i,j,hf,_,_=>absurd hf om
 | f+1,i,j,hf,h1,h2=>by
  have wu:(2:Nat) ^ 40=1099511627776:=by decide
  unfold aJ.l0
  by_cases h:i<j
  ·have hh:=A4 (a:=i) (b:=j) om
   rw [if_pos (by simp; omega),hh,gh om,gh ha,aaG,aaG,C.at om ha,aaG]
   by_cases g:c (gt l ((i+j) / 2)) (gt l a)<0
   ·obtain⟨x,e,x1,x2,x3,x4⟩:=CZ ha hs C f ((i+j) / 2+1) j om om h2
    rw [if_pos (by simpa using g),bJ om om,show (((i+j) / 2:Nat):Int)+1=(((i+j) / 2+1:Nat):Int) by omega,e]
    refine⟨x,rfl,om,x2,fun _=>?_,x4⟩
    by_cases hx:x=(i+j) / 2+1
    ·rw [hx]; simpa using g
    ·exact x3 om
   ·obtain⟨x,e,x1,x2,x3,x4⟩:=CZ ha hs C f i ((i+j) / 2) om om om
    rw [if_neg (by simpa using g),e]
    refine⟨x,rfl,x1,om,x3,fun _=>?_⟩
    by_cases hx:x=(i+j) / 2
    ·rw [hx]; omega
    ·exact x4 om
  ·have:i=j:=by omega
   subst this
   exact⟨i,by rw [if_neg (by simp)],aaN _,aaN _,fun h=>absurd h om,fun h=>absurd h om⟩
theorem C0 {l:List Int}{q:Nat}(hq:q<l.length)(hs:l.length<2 ^ 40)(C:Cm cmp c l):∀(f i j:Nat),j - i<f→i≤j→j≤l.length→
  ∃x:Nat,aJ.l2 m l (q:Int) cmp f (i:Int) (j:Int)=some ((x:Int),(x:Int))∧i≤x∧x≤j∧(i<x→0≤c (gt l q) (gt l (x - 1)))∧(x<j→c (gt l q) (gt l x)<0)
 | 0,i,j,hf,_,_=>absurd hf om
 | f+1,i,j,hf,h1,h2=>by
  have wu:(2:Nat) ^ 40=1099511627776:=by decide
  unfold aJ.l2
  by_cases h:i<j
  ·have hh:=A4 (a:=i) (b:=j) om
   rw [if_pos (by simp; omega),hh,gh hq,gh om,aaG,aaG,C.at hq om,aaG]
   by_cases g:c (gt l q) (gt l ((i+j) / 2))<0
   ·obtain⟨x,e,x1,x2,x3,x4⟩:=C0 hq hs C f i ((i+j) / 2) om om om
    rw [if_neg (by simpa using g),e]
    refine⟨x,rfl,x1,om,x3,fun _=>?_⟩
    by_cases hx:x=(i+j) / 2
    ·rw [hx]; omega
    ·exact x4 om
   ·obtain⟨x,e,x1,x2,x3,x4⟩:=C0 hq hs C f ((i+j) / 2+1) j om om h2
    rw [if_pos (by simpa using g),bJ om om,show (((i+j) / 2:Nat):Int)+1=(((i+j) / 2+1:Nat):Int) by omega,e]
    refine⟨x,rfl,om,x2,fun _=>?_,x4⟩
    by_cases hx:x=(i+j) / 2+1
    ·rw [hx]; simp; omega
    ·exact x3 om
  ·have:i=j:=by omega
   subst this
   exact⟨i,by rw [if_neg (by simp)],aaN _,aaN _,fun h=>absurd h om,fun h=>absurd h om⟩
theorem IP {l:List Int}{a x:Nat}(hx:x≤l.length)(UY:a<x)(hs:l.length<2 ^ 40):∀(f k:Nat) (d:List Int),x - k<f→a≤k→k<x→Mv a x l d→
  (∀t,gt d t=if a≤t∧t<k then gt l (t+1) else if t=k then gt l a else gt l t)→
  ∃d' y,aJ.l1 m (x:Int) f d (k:Int)=some (d',y)∧Mv a x l d'∧∀t,gt d' t=if a≤t∧t+1<x then gt l (t+1) else if t+1=x then gt l a else gt l t
 | 0,k,d,hf,_,_,_,_=>absurd hf om
 | f+1,k,d,hf,h1,h2,M,hg=>by
  have wu:(2:Nat) ^ 40=1099511627776:=by decide
  have hl:=M.length
  unfold aJ.l1
  have e0:i64.wrap ((x:Int) - 1)=((x - 1:Nat):Int):=by rw [bJ om om]; omega
  rw [e0]
  by_cases h:k<x - 1
  ·have e1:i64.wrap ((k:Int)+1)=((k+1:Nat):Int):=by rw [bJ om om]; omega
   rw [if_pos (by simp; omega),e1,gh om,gh om,aaG,aaG,aaG,aaS,aaS,gh (by simp; omega),aaG]
   refine IP hx UY hs f (k+1) (swp d k (k+1)) om om om (M.trans (CY om om om om om)) fun t=>?_
   rw [nl om om,hg k,hg (k+1),hg t]
   by_cases t1:t=k+1
   ·subst t1; rw [if_pos rfl,if_neg om,if_pos rfl,if_neg om,if_pos rfl]
   ·rw [if_neg t1]
    by_cases t2:t=k
    ·subst t2; rw [if_pos rfl,if_neg om,if_neg om,if_pos om]
    ·rw [if_neg t2,if_neg t2,if_neg t1]
     by_cases t3:a≤t∧t<k
     ·rw [if_pos t3,if_pos om]
     ·rw [if_neg t3,if_neg om]
  ·refine⟨d,k,by rw [if_neg (by simp; omega)],M,fun t=>?_⟩
   rw [hg]
   by_cases t3:a≤t∧t<k
   ·rw [if_pos t3,if_pos om]
   ·rw [if_neg t3,if_neg (show ¬(a≤t∧t+1<x) by omega)]
    by_cases t4:t=k
    ·rw [if_pos t4,if_pos om]
    ·rw [if_neg t4,if_neg om]
theorem IQ {l:List Int}{q x:Nat}(hx:q<l.length)(UY:x≤q)(hs:l.length<2 ^ 40):∀(f k:Nat) (d:List Int),k - x<f→x≤k→k≤q→Mv x (q+1) l d→
  (∀t,gt d t=if k<t∧t≤q then gt l (t - 1) else if t=k then gt l q else gt l t)→
  ∃d' y,aJ.l3 m (x:Int) f d (k:Int)=some (d',y)∧Mv x (q+1) l d'∧∀t,gt d' t=if x<t∧t≤q then gt l (t - 1) else if t=x then gt l q else gt l t
 | 0,k,d,hf,_,_,_,_=>absurd hf om
 | f+1,k,d,hf,h1,h2,M,hg=>by
  have wu:(2:Nat) ^ 40=1099511627776:=by decide
  have hl:=M.length
  unfold aJ.l3
  by_cases h:x<k
  ·have e1:i64.wrap ((k:Int) - 1)=((k - 1:Nat):Int):=by rw [bJ om om]; omega
   rw [if_pos (by simp; omega),e1,gh om,gh om,aaG,aaG,aaG,aaS,aaS,gh (by simp; omega),aaG]
   refine IQ hx UY hs f (k - 1) (swp d k (k - 1)) om om om (M.trans (CY om om om om om)) fun t=>?_
   rw [nl om om,hg k,hg (k - 1),hg t]
   by_cases t1:t=k - 1
   ·subst t1; rw [if_pos rfl,if_neg om,if_pos rfl,if_neg om,if_pos rfl]
   ·rw [if_neg t1]
    by_cases t2:t=k
    ·subst t2; rw [if_pos rfl,if_neg om,if_neg om,if_pos om]
    ·rw [if_neg t2,if_neg t2,if_neg t1]
     by_cases t3:k<t∧t≤q
     ·rw [if_pos t3,if_pos om]
     ·rw [if_neg t3,if_neg om]
  ·have:k=x:=by omega
   subst this
   exact⟨d,k,by rw [if_neg (by simp)],M,hg⟩
theorem C1 {l:List Int}{a b q:Nat}(MB:a+b<2 ^ 42)(hs:l.length<2 ^ 40)(C:Cm cmp c l):∀(f s r:Nat),r - s<f→s≤r→r≤l.length→r≤(a+b) / 2+q→(a+b) / 2+q≤l.length+s→
  ∃x:Nat,aJ.l4 m l (a:Int) (q:Int) (b:Int) cmp f (s:Int) (r:Int)=some ((x:Int),(x:Int))∧s≤x∧x≤r∧(s<x→0≤c (gt l ((a+b) / 2+q - x)) (gt l (x - 1)))∧(x<r→c (gt l ((a+b) / 2+q - x - 1)) (gt l x)<0)
 | 0,i,j,hf,_,_,_,_=>absurd hf om
 | f+1,s,r,hf,h1,h2,h3,h4=>by
  have wu:(2:Nat) ^ 40=1099511627776:=by decide
  have UZ:(2:Nat) ^ 42=4398046511104:=by decide
  unfold aJ.l4
  by_cases h:s<r
  ·have hh:=A4 (a:=s) (b:=r) om
   have MB:=A4 (a:=a) (b:=b) om
   have e1:i64.wrap (i64.wrap (i64.wrap ((((a+b) / 2:Nat):Int)+(q:Int)) - 1) - (((s+r) / 2:Nat):Int))=(((a+b) / 2+q - (s+r) / 2 - 1:Nat):Int):=by
    rw [bJ (x:=(((a+b) / 2:Nat):Int)+(q:Int)) om om,bJ (x:=(((a+b) / 2:Nat):Int)+(q:Int) - 1) om om,bJ om om]
    omega
   rw [if_pos (by simp; omega),hh,MB,e1,gh om,gh om,aaG,aaG,C.at om om,aaG]
   by_cases g:c (gt l ((a+b) / 2+q - (s+r) / 2 - 1)) (gt l ((s+r) / 2))<0
   ·obtain⟨x,e,x1,x2,x3,x4⟩:=C1 (a:=a) (b:=b) (q:=q) om hs C f s ((s+r) / 2) om om om om om
    rw [if_neg (by simpa using g),e]
    refine⟨x,rfl,x1,om,x3,fun _=>?_⟩
    by_cases hx:x=(s+r) / 2
    ·rw [hx]; exact g
    ·exact x4 om
   ·obtain⟨x,e,x1,x2,x3,x4⟩:=C1 (a:=a) (b:=b) (q:=q) om hs C f ((s+r) / 2+1) r om om h2 h3 om
    rw [if_pos (by simpa using g),bJ om om,show (((s+r) / 2:Nat):Int)+1=(((s+r) / 2+1:Nat):Int) by omega,e]
    refine⟨x,rfl,om,x2,fun _=>?_,x4⟩
    by_cases hx:x=(s+r) / 2+1
    ·rw [hx,show (a+b) / 2+q - ((s+r) / 2+1)=(a+b) / 2+q - (s+r) / 2 - 1 by omega,Nat.add_sub_cancel]; omega
    ·exact x3 om
  ·have:s=r:=by omega
   subst this
   exact⟨s,by rw [if_neg (by simp)],aaN _,aaN _,fun h=>absurd h om,fun h=>absurd h om⟩
end
section
variable {m:Nat}{cmp:Int→Int→Option Int}{c:Int→Int→Int}
theorem vN {l d:List Int}{a q b M E x:Nat}(h1:a≤x)(h2:x≤M)(h3:x≤q)(h4:q≤E)(h5:E≤b)(h6:E+x=M+q)(hb:b≤l.length)
  (R:OH l d x (q - x) (E - q)) (O:Ord c l) (F1:a<x→E<b→0≤c (gt l E) (gt l (x - 1))) (F2:x<q→q<E→c (gt l (E - 1)) (gt l x)<0)
  (S1:Sg c l a q) (S2:Sg c l q b) :
  Sg c d a x∧Sg c d x M∧Sg c d M E∧Sg c d E b∧(∀i j,a≤i→i<M→M≤j→j<b→0≤c (gt d j) (gt d i)):=by
 obtain⟨R1,R2,R3,R4⟩:=R
 have g1:∀k,k<x→gt d k=gt l k:=fun k hk=>R4 k (.inl hk)
 have g2:∀k,x≤k→k<M→gt d k=gt l (q+(k - x)):=fun k hk qh=>by
  have:=R2 (k - x) om
  rw [show x+(k - x)=k by omega,show x+(q - x)+(k - x)=q+(k - x) by omega] at this
  exact this
 have g3:∀k,M≤k→k<E→gt d k=gt l (x+(k - M)):=fun k hk qh=>by
  have:=R3 (k - M) om
  rw [show x+(E - q)+(k - M)=k by omega] at this
  exact this
 have g4:∀k,E≤k→gt d k=gt l k:=fun k hk=>R4 k (.inr om)
 refine⟨fun i j k1 k2 k3=>?_,fun i j k1 k2 k3=>?_,fun i j k1 k2 k3=>?_,fun i j k1 k2 k3=>?_,fun i j k1 k2 k3 k4=>?_⟩
 ·rw [g1 i om,g1 j om]; exact S1 _ _ k1 k2 om
 ·rw [g2 i om om,g2 j om om]; exact S2 _ _ om om om
 ·rw [g3 i om om,g3 j om om]; exact S1 _ _ om om om
 ·rw [g4 i om,g4 j om]; exact S2 _ _ om om om
 ·by_cases hi:i<x
  ·rw [g1 i hi]
   by_cases hj:j<E
   ·rw [g3 j k3 hj]; exact S1 _ _ k1 om om
   ·rw [g4 j om]
    have f1:=F1 om om
    have f2:=S1.le O k1 (show i≤x - 1 by omega) om om
    have f3:=S2.le O (show q≤E from h4) (show E≤j by omega) k4 hb
    exact O.tr _ (bK om) _ (bK (show E<l.length by omega)) _ (bK om) (O.tr _ (bK om) _ (bK (show x - 1<l.length by omega)) _ (bK om) f2 f1) f3
  ·rw [g2 i om k2]
   by_cases hj:j<E
   ·rw [g3 j k3 hj]
    have f1:=O.OI _ (bK (show E - 1<l.length by omega)) _ (bK (show x<l.length by omega)) (F2 om om)
    have f2:=S2.le O (show q≤q+(i - x) by omega) (show q+(i - x)≤E - 1 by omega) om hb
    have f3:=S1.le O h1 (show x≤x+(j - M) by omega) om om
    exact O.tr _ (bK om) _ (bK (show x<l.length by omega)) _ (bK om) (O.tr _ (bK om) _ (bK (show E - 1<l.length by omega)) _ (bK om) f2 f1) f3
   ·rw [g4 j om]; exact S2 _ _ om om k4
theorem IS {l:List Int}{x i j:Nat}(h:i=0∨j=0):OH l l x i j:=
 ⟨List.Perm.refl _,fun k hk=>by rw [show i=0 by omega,ab5],fun k hk=>by rw [show j=0 by omega,ab5],fun _ _=>rfl⟩
theorem NT {l d:List Int}{x i j a b:Nat}(R:OH l d x i j)(h1:a≤x)(h2:x+i+j≤b):Mv a b l d:=by
 obtain⟨R1,R2,R3,R4⟩:=R
 refine⟨R1,fun k hk=>R4 k om,fun k k1 k2=>?_⟩
 by_cases g1:k<x∨x+i+j≤k
 ·exact⟨k,k1,k2,R4 k g1⟩
 ·by_cases g2:k<x+j
  ·have:=R2 (k - x) om
   rw [show x+(k - x)=k by omega] at this
   exact⟨_,om,om,this⟩
  ·have:=R3 (k - x - j) om
   rw [show x+j+(k - x - j)=k by omega] at this
   exact⟨_,om,om,this⟩
theorem q6 (hm:2 ^ 41≤m):∀(f:Nat) (l:List Int) (a q b:Nat),b - a<f→a<q→q<b→b≤l.length→l.length<2 ^ 40→Cm cmp c l→
  ∃d,aJ.f m f l (a:Int) (q:Int) (b:Int) cmp=some d∧Mv a b l d∧(Ord c l→Sg c l a q→Sg c l q b→Sg c d a b)
 | 0,l,a,q,b,hf,_,_,_,_,_=>absurd hf om
 | f+1,l,a,q,b,hf,h1,h2,h3,hs,C=>by
  have wu:(2:Nat) ^ 40=1099511627776:=by decide
  have vM:(2:Nat) ^ 41=2199023255552:=by decide
  have UZ:(2:Nat) ^ 42=4398046511104:=by decide
  unfold aJ.f
  unfold aJ.b
  have e1:i64.wrap ((q:Int) - (a:Int))=((q - a:Nat):Int):=by rw [bJ om om]; omega
  have e2:i64.wrap ((b:Int) - (q:Int))=((b - q:Nat):Int):=by rw [bJ om om]; omega
  have hM:=A4 (a:=a) (b:=b) om
  rw [e1,e2,hM]
  by_cases U0:q - a=1
  ·obtain⟨x,k1,k2,k3,k4,k5⟩:=CZ (m:=m) (a:=a) om hs C m q b om om h3
   obtain⟨d,y,g1,g2,g3⟩:=IP (m:=m) (l:=l) (a:=a) (x:=x) om om hs m a l om (aaN _) om Mv.refl (fun t=>by rw [if_neg om]; split<;>simp_all)
   rw [if_pos (by simp; omega),k1,aaG]
   dsimp only
   rw [g1]
   refine⟨d,rfl,g2.wide (aaN _) k3,fun O S1 S2 i j r1 r2 r3=>?_⟩
   have A1:∀t,a≤t→t+1<x→gt d t=gt l (t+1):=fun t w1 w2=>by rw [g3 t,if_pos ⟨w1,w2⟩]
   have A2:∀t,t+1=x→gt d t=gt l a:=fun t w1=>by rw [g3 t,if_neg om,if_pos w1]
   have A3:∀t,x≤t→gt d t=gt l t:=fun t w1=>by rw [g3 t,if_neg om,if_neg om]
   by_cases i1:i+1<x
   ·rw [A1 i r1 i1]
    by_cases j1:j+1<x
    ·rw [A1 j om j1]; exact S2 _ _ om om om
    ·have f1:=O.OI _ (bK (show x - 1<l.length by omega)) _ (bK (show a<l.length by omega)) (k4 om)
     have f2:=S2.le O (show q≤i+1 by omega) (show i+1≤x - 1 by omega) om h3
     by_cases j2:j+1=x
     ·rw [A2 j j2]
      exact O.tr _ (bK om) _ (bK (show x - 1<l.length by omega)) _ (bK om) f2 f1
     ·rw [A3 j om]; exact S2 _ _ om om om
   ·rw [A3 j om]
    by_cases i2:i+1=x
    ·rw [A2 i i2]
     have f1:=k5 om
     have f2:=S2.le O (show q≤x by omega) (show x≤j by omega) r3 h3
     exact O.tr _ (bK om) _ (bK (show x<l.length by omega)) _ (bK om) f1 f2
    ·rw [A3 i om]; exact S2 _ _ om r2 r3
  rw [if_neg (by simp; omega)]
  by_cases hb1:b - q=1
  ·obtain⟨x,k1,k2,k3,k4,k5⟩:=C0 (m:=m) (q:=q) om hs C m a q om om om
   obtain⟨d,y,g1,g2,g3⟩:=IQ (m:=m) (l:=l) (q:=q) (x:=x) om om hs m q l om om (aaN _) Mv.refl (fun t=>by rw [if_neg om]; split<;>simp_all)
   rw [if_pos (by simp; omega),k1,aaG]
   dsimp only
   rw [g1]
   refine⟨d,rfl,g2.wide k2 om,fun O S1 S2 i j r1 r2 r3=>?_⟩
   have A1:∀t,x<t→t≤q→gt d t=gt l (t - 1):=fun t w1 w2=>by rw [g3 t,if_pos ⟨w1,w2⟩]
   have A2:gt d x=gt l q:=by rw [g3 x,if_neg om,if_pos rfl]
   have A3:∀t,t<x→gt d t=gt l t:=fun t w1=>by rw [g3 t,if_neg om,if_neg om]
   by_cases i1:x<i
   ·rw [A1 i i1 om,A1 j om om]
    exact S1 _ _ om om om
   ·by_cases i2:i=x
    ·subst i2
     rw [A2,A1 j om om]
     have f1:=O.OI _ (bK (show q<l.length by omega)) _ (bK (show i<l.length by omega)) (k5 om)
     have f2:=S1.le O r1 (show i≤j - 1 by omega) om om
     exact O.tr _ (bK om) _ (bK (show i<l.length by omega)) _ (bK om) f1 f2
    ·rw [A3 i om]
     by_cases j1:x<j
     ·rw [A1 j j1 om]
      exact S1.le O r1 om om om
     ·have f1:=k4 om
      have f2:=S1.le O r1 (show i≤x - 1 by omega) om om
      by_cases j2:j=x
      ·subst j2
       rw [A2]
       exact O.tr _ (bK om) _ (bK (show j - 1<l.length by omega)) _ (bK om) f2 f1
      ·rw [A3 j om]; exact S1 _ _ r1 r2 om
  rw [if_neg (by simp; omega)]
  refine NS ?_
  intro z hz
  have WZ:∃s r:Nat,z=((s:Int),(r:Int))∧((q > (a+b) / 2∧s=(a+b) / 2+q - b∧r=(a+b) / 2)∨(q≤(a+b) / 2∧s=a∧r=q)):=by
   rcases hz with⟨hc,rfl⟩| ⟨hc,rfl⟩
   ·refine⟨(a+b) / 2+q - b,(a+b) / 2,?_,.inl ⟨by simp only [decide_eq_true_eq] at hc; omega,rfl,rfl⟩⟩
    simp only [aaQ,and_true]
    simp only [decide_eq_true_eq] at hc
    rw [bJ (x:=(((a+b) / 2:Nat):Int)+(q:Int)) om om,bJ om om]
    omega
   ·refine⟨a,q,rfl,.inr ⟨?_,rfl,rfl⟩⟩
    simp only [decide_eq_false_iff_not] at hc
    omega
  obtain⟨s,r,rfl,WZ⟩:=WZ
  clear hz
  dsimp only
  obtain⟨x,k1,k2,k3,k4,k5⟩:=C1 (m:=m) (a:=a) (b:=b) (q:=q) om hs C m s r om om om om om
  rw [k1,aaG]
  dsimp only
  generalize hMM:(a+b) / 2=M at *
  obtain⟨E,hE⟩:∃E,E=M+q - x:=⟨_,rfl⟩
  have eE:i64.wrap (i64.wrap ((M:Int)+(q:Int)) - (x:Int))=(E:Int):=by
   rw [bJ (x:=(M:Int)+(q:Int)) om om,bJ om om]
   omega
  rw [eE]
  rw [←hE] at k4 k5
  have c1:a≤x:=by omega
  have c2:x≤M:=by omega
  have c3:x≤q:=by omega
  have c4:q≤E:=by omega
  have c5:E≤b:=by omega
  have c6:E+x=M+q:=by omega
  have c7:M≤E:=by omega
  have F1:a<x→E<b→0≤c (gt l E) (gt l (x - 1)):=fun _ _=>k4 om
  have F2:x<q→q<E→c (gt l (E - 1)) (gt l x)<0:=fun _ _=>k5 om
  refine IN (fun d=>OH l d x (q - x) (E - q)) (fun u1 u2=>?_) (fun u=>?_) ?_
  ·simp only [decide_eq_true_eq] at u1 u2
   exact II hm om om om hs
  ·simp only [decide_eq_true_eq] at u
   exact IS om
  intro d5 R
  try dsimp only
  have M5:Mv a b l d5:=NT R c1 om
  have l5:=M5.length
  refine IN (fun d=>Mv a M d5 d∧(Ord c l→Sg c l a q→Sg c l q b→Sg c d a M)) (fun u1 u2=>?_) (fun u=>?_) ?_
  ·simp only [decide_eq_true_eq] at u1 u2
   obtain⟨d,g1,g2,g3⟩:=q6 hm f d5 a x M om om om om om (C.perm M5.perm)
   refine⟨d,g1,g2,fun O S1 S2=>?_⟩
   obtain⟨v1,v2,v3,v4,v5⟩:=vN c1 c2 c3 c4 c5 c6 h3 R O F1 F2 S1 S2
   exact g3 (O.perm M5.perm) v1 v2
  ·simp only [decide_eq_true_eq] at u
   refine⟨Mv.refl,fun O S1 S2=>?_⟩
   obtain⟨v1,v2,v3,v4,v5⟩:=vN c1 c2 c3 c4 c5 c6 h3 R O F1 F2 S1 S2
   by_cases ua:a=x
   ·rw [ua]; exact v2
   ·rw [show M=x by omega]; exact v1
  rintro d6 ⟨M6,S6⟩
  try dsimp only
  have l6:=M6.length
  have U1:=M5.trans (M6.wide (aaN _) om)
  have fin:∀d,Mv M b d6 d→(Ord c l→Sg c l a q→Sg c l q b→Sg c d M b)→Mv a b l d∧(Ord c l→Sg c l a q→Sg c l q b→Sg c d a b):=by
   intro d M7 S7
   refine⟨U1.trans (M7.wide om (aaN _)),fun O S1 S2 i j r1 r2 r3=>?_⟩
   obtain⟨v1,v2,v3,v4,v5⟩:=vN c1 c2 c3 c4 c5 c6 h3 R O F1 F2 S1 S2
   by_cases hj:j<M
   ·rw [M7.out i om,M7.out j om]
    exact S6 O S1 S2 _ _ r1 r2 hj
   ·by_cases hi:M≤i
    ·exact S7 O S1 S2 _ _ hi r2 r3
    ·obtain⟨j',y1,y2,y3⟩:=M7.im j om r3
     obtain⟨i',w1,w2,w3⟩:=M6.im i r1 om
     rw [M7.out i om,y3,M6.out j' om,w3]
     exact v5 _ _ w1 w2 y1 y2
  refine UX (fun u1 u2=>?_) (fun u=>?_)
  ·simp only [decide_eq_true_eq] at u1 u2
   obtain⟨d,g1,g2,g3⟩:=q6 hm f d6 M E b om om om om om (C.perm U1.perm)
   refine⟨d,g1,fin d g2 fun O S1 S2=>?_⟩
   obtain⟨v1,v2,v3,v4,v5⟩:=vN c1 c2 c3 c4 c5 c6 h3 R O F1 F2 S1 S2
   refine g3 (O.perm U1.perm) (fun i j y1 y2 y3=>?_) (fun i j y1 y2 y3=>?_)
   ·rw [M6.out i om,M6.out j om]; exact v3 _ _ y1 y2 y3
   ·rw [M6.out i om,M6.out j om]; exact v4 _ _ y1 y2 y3
  ·simp only [decide_eq_true_eq] at u
   refine fin d6 Mv.refl fun O S1 S2 i j y1 y2 y3=>?_
   obtain⟨v1,v2,v3,v4,v5⟩:=vN c1 c2 c3 c4 c5 c6 h3 R O F1 F2 S1 S2
   rw [M6.out i om,M6.out j om]
   by_cases ue:M=E
   ·exact v4 _ _ om y2 y3
   ·exact v3 _ _ y1 y2 om
end
section
variable {m:Nat}{cmp:Int→Int→Option Int}{c:Int→Int→Int}
def QN (c:Int→Int→Int)(d:List Int)(bs n:Nat):Prop:=∀k i j,k*bs≤i→i<j→j<k*bs+bs→j<n→0≤c (gt d j) (gt d i)
theorem IT (hm:2 ^ 41≤m){n:Nat}{l:List Int}(hn:n=l.length)(hs:l.length<2 ^ 40)(C:Cm cmp c l):∀(f t:Nat) (d:List Int),n - 20*t<f→20*t≤n→Mv 0 (20*t) l d→
  (Ord c l→∀k,k<t→Sg c d (20*k) (20*k+20))→
  ∃d' t' y,bU.l0 m (n:Int) cmp f d ((20*t:Nat):Int) ((20*t+20:Nat):Int)=some (d',((20*t':Nat):Int),y)∧20*t'≤n∧n<20*t'+20∧Mv 0 (20*t') l d'∧(Ord c l→∀k,k<t'→Sg c d' (20*k) (20*k+20))
 | 0,t,d,hf,_,_,_=>absurd hf om
 | f+1,t,d,hf,h1,M,S=>by
  have wu:(2:Nat) ^ 40=1099511627776:=by decide
  have vM:(2:Nat) ^ 41=2199023255552:=by decide
  have hl:=M.length
  unfold bU.l0
  by_cases h:20*t+20≤n
  ·obtain⟨d1,e1,M1,S1⟩:=A8 (a:=20*t) (b:=20*t+20) (cmp:=cmp) (c:=c) hm (l:=d) om om om (C.perm M.perm)
   rw [if_pos dm,e1,aaG,bJ (x:=((20*t+20:Nat):Int)+20) om om]
   have:=IT hm hn hs C f (t+1) d1 om om ((M.wide (aaN _) om).trans (M1.wide om om)) (fun O k hk i j k1 k2 k3=>by
    by_cases J2:k=t
    ·subst J2; exact S1 (O.perm M.perm) _ _ k1 k2 k3
    ·rw [M1.out i om,M1.out j om]; exact S O k om _ _ k1 k2 k3)
   rw [show ((20*(t+1):Nat):Int)=((20*t+20:Nat):Int) by omega,show ((20*(t+1)+20:Nat):Int)=((20*t+20:Nat):Int)+20 by omega] at this
   exact this
  ·exact⟨d,t,_,by rw [if_neg dm],h1,om,M,S⟩
theorem IU (hm:2 ^ 41≤m){n bs:Nat}{l:List Int}(hn:n=l.length)(hs:l.length<2 ^ 40)(hb:0<bs)(Hi:bs<n)(C:Cm cmp c l)(B:Ord c l→QN c l bs n):∀(f t:Nat) (d:List Int),n - t*(2*bs)<f→t*(2*bs)≤n→Mv 0 (t*(2*bs)) l d→
  (Ord c l→∀k,k<t→Sg c d (k*(2*bs)) (k*(2*bs)+2*bs))→
  ∃d' t' y,bU.l2 m (n:Int) cmp (bs:Int) f d ((t*(2*bs):Nat):Int) ((t*(2*bs)+2*bs:Nat):Int)=some (d',((t'*(2*bs):Nat):Int),y)∧t'*(2*bs)≤n∧n<t'*(2*bs)+2*bs∧Mv 0 (t'*(2*bs)) l d'∧(Ord c l→∀k,k<t'→Sg c d' (k*(2*bs)) (k*(2*bs)+2*bs))
 | 0,t,d,hf,_,_,_=>absurd hf om
 | f+1,t,d,hf,h1,M,S=>by
  have wu:(2:Nat) ^ 40=1099511627776:=by decide
  have vM:(2:Nat) ^ 41=2199023255552:=by decide
  have hl:=M.length
  unfold bU.l2
  have ht:(t+1)*(2*bs)=t*(2*bs)+2*bs:=Nat.succ_mul _ _
  have q1:(2*t)*bs=t*(2*bs):=by rw [Nat.mul_assoc,Nat.mul_left_comm]
  have q2:(2*t+1)*bs=t*(2*bs)+bs:=by rw [Nat.succ_mul,q1]
  by_cases h:t*(2*bs)+2*bs≤n
  ·have S0:Ord c l→Sg c d (t*(2*bs)) (t*(2*bs)+bs):=fun O i j k1 k2 k3=>by
    rw [M.out i om,M.out j om]; exact B O (2*t) i j om k2 om om
   have Y8:Ord c l→Sg c d (t*(2*bs)+bs) (t*(2*bs)+2*bs):=fun O i j k1 k2 k3=>by
    rw [M.out i om,M.out j om]; exact B O (2*t+1) i j om k2 om om
   have hk:∀k,k<t→k*(2*bs)+2*bs≤t*(2*bs):=fun k hk=>by
    rw [←Nat.succ_mul]; exact abE _ hk
   generalize hA:t*(2*bs)=A at *
   obtain⟨d1,e1,M1,S1⟩:=q6 (cmp:=cmp) (c:=c) hm m d A (A+bs) (A+2*bs) om om om om om (C.perm M.perm)
   have e0:i64.wrap ((A:Int)+(bs:Int))=((A+bs:Nat):Int):=by rw [bJ om om]; omega
   have e2:i64.wrap ((2:Int)*(bs:Int))=((2*bs:Nat):Int):=by rw [bJ om om]; omega
   have e3:i64.wrap (((A+2*bs:Nat):Int)+((2*bs:Nat):Int))=((A+2*bs+2*bs:Nat):Int):=by rw [bJ om om]; omega
   rw [if_pos dm,e0,e1,aaG,e2,e3]
   have:=IU hm hn hs hb Hi C B f (t+1) d1 om om (by rw [ht]; exact (M.wide (aaN _) om).trans (M1.wide om om)) (fun O k qh i j k1 k2 k3=>by
    by_cases J2:k=t
    ·subst J2; rw [hA] at k1 k3; exact S1 (O.perm M.perm) (S0 O) (Y8 O) _ _ k1 k2 k3
    ·have:=hk k om
     rw [M1.out i om,M1.out j om]; exact S O k om _ _ k1 k2 k3)
   rw [ht] at this
   exact this
  ·exact⟨d,t,_,by rw [if_neg dm],h1,om,M,S⟩
theorem C2 (hm:2 ^ 41≤m){n:Nat}:∀(f bs:Nat) (l:List Int),n=l.length→l.length<2 ^ 40→Cm cmp c l→n - bs<f→0<bs→bs<2 ^ 42→(Ord c l→QN c l bs n)→
  ∃d y,bU.l1 m (n:Int) cmp f l (bs:Int)=some (d,y)∧d.Perm l∧(Ord c l→Sg c d 0 n)
 | 0,bs,l,_,_,_,hf,_,_,_=>absurd hf om
 | f+1,bs,l,hn,hs,C,hf,hb,hb2,B=>by
  have wu:(2:Nat) ^ 40=1099511627776:=by decide
  have vM:(2:Nat) ^ 41=2199023255552:=by decide
  have UZ:(2:Nat) ^ 42=4398046511104:=by decide
  unfold bU.l1
  by_cases h:bs<n
  ·have e2:i64.wrap ((2:Int)*(bs:Int))=((2*bs:Nat):Int):=by rw [bJ om om]; omega
   have e3:i64.wrap ((bs:Int)*(2:Int))=((2*bs:Nat):Int):=by rw [bJ om om]; omega
   obtain⟨d1,t,y,k1,k2,k3,M1,S1⟩:=IU (cmp:=cmp) (c:=c) hm hn hs hb h C B m 0 l om om Mv.refl (fun O k hk=>absurd hk om)
   have l1:=M1.length
   simp only [Nat.zero_mul,aa7] at k1
   have k1:bU.l2 m (n:Int) cmp (bs:Int) m l (0:Int) ((2*bs:Nat):Int)=_:=k1
   rw [if_pos dm,e2,k1,aaG]
   dsimp only
   rw [e3]
   have q1:(2*t)*bs=t*(2*bs):=by rw [Nat.mul_assoc,Nat.mul_left_comm]
   have q2:(2*t+1)*bs=t*(2*bs)+bs:=by rw [Nat.succ_mul,q1]
   have hk:∀k,k<t→k*(2*bs)+2*bs≤t*(2*bs):=fun k hk=>by
    rw [←Nat.succ_mul]; exact abE _ hk
   have qh:∀k,t<k→t*(2*bs)+2*bs≤k*(2*bs):=fun k hk=>by
    rw [←Nat.succ_mul]; exact abE _ hk
   have e0:i64.wrap (((t*(2*bs):Nat):Int)+(bs:Int))=((t*(2*bs)+bs:Nat):Int):=by rw [bJ om om]; omega
   rw [e0]
   by_cases h2:t*(2*bs)+bs<n
   ·obtain⟨d2,e4,M2,S2⟩:=q6 (cmp:=cmp) (c:=c) hm m d1 (t*(2*bs)) (t*(2*bs)+bs) n om om om om om (C.perm M1.perm)
    rw [if_pos dm,e4,aaG]
    have P2:=M2.perm.trans M1.perm
    obtain⟨d,y,g1,g2,g3⟩:=C2 (n:=n) hm f (2*bs) d2 (by have:=P2.length_eq; omega) (by have:=P2.length_eq; omega) (C.perm P2) om om om (fun O k i j w1 w2 w3 w4=>by
     have O:=O.perm P2.symm
     by_cases u1:k<t
     ·have:=hk k u1
      rw [M2.out i om,M2.out j om]; exact S1 O k u1 _ _ w1 w2 w3
     ·by_cases u2:k=t
      ·subst u2
       refine S2 (O.perm M1.perm) (fun i j x1 x2 x3=>?_) (fun i j x1 x2 x3=>?_) _ _ w1 w2 w4
       ·rw [M1.out i om,M1.out j om]; exact B O (2*k) i j om x2 om om
       ·rw [M1.out i om,M1.out j om]; exact B O (2*k+1) i j om x2 om om
      ·have:=qh k om; omega)
    exact⟨d,y,g1,g2.trans P2,fun O=>g3 (O.perm P2)⟩
   ·rw [if_neg dm]
    have P2:=M1.perm
    obtain⟨d,y,g1,g2,g3⟩:=C2 (n:=n) hm f (2*bs) d1 (by have:=P2.length_eq; omega) (by have:=P2.length_eq; omega) (C.perm P2) om om om (fun O k i j w1 w2 w3 w4=>by
     have O:=O.perm P2.symm
     by_cases u1:k<t
     ·exact S1 O k u1 _ _ w1 w2 w3
     ·by_cases u2:k=t
      ·subst u2
       rw [M1.out i om,M1.out j om]; exact B O (2*k) i j om w2 om om
      ·have:=qh k om; omega)
    exact⟨d,y,g1,g2.trans P2,fun O=>g3 (O.perm P2)⟩
  ·refine⟨l,bs,by rw [if_neg dm],List.Perm.refl _,fun O i j w1 w2 w3=>B O 0 i j om w2 om w3⟩
theorem Gc (hm:2 ^ 41≤m){l:List Int}(hs:l.length<2 ^ 40)(C:Cm cmp c l):∃d,gd.f m l cmp=some d∧d.Perm l∧(Ord c l→Sg c d 0 l.length):=by
 have wu:(2:Nat) ^ 40=1099511627776:=by decide
 have vM:(2:Nat) ^ 41=2199023255552:=by decide
 have UZ:(2:Nat) ^ 42=4398046511104:=by decide
 unfold gd.f bU.f
 obtain⟨d1,t,y,k1,k2,k3,M1,S1⟩:=IT (cmp:=cmp) (c:=c) hm rfl hs C m 0 l om om Mv.refl (fun O k hk=>absurd hk om)
 have k1:bU.l0 m (l.length:Int) cmp m l (0:Int) (20:Int)=_:=k1
 have l1:=M1.length
 rw [k1,aaG]
 dsimp only
 obtain⟨d2,e2,M2,S2⟩:=A8 (a:=20*t) (b:=l.length) (cmp:=cmp) (c:=c) hm (l:=d1) om om om (C.perm M1.perm)
 rw [e2,aaG]
 have P2:=M2.perm.trans M1.perm
 obtain⟨d,y,g1,g2,g3⟩:=C2 (cmp:=cmp) (c:=c) (n:=l.length) hm m 20 d2 P2.length_eq.symm (by rw [P2.length_eq]; exact hs) (C.perm P2) om om om (fun O k i j w1 w2 w3 w4=>by
  have O:=O.perm P2.symm
  by_cases u1:k<t
  ·rw [M2.out i om,M2.out j om]; exact S1 O k u1 _ _ om w2 om
  ·exact S2 (O.perm M1.perm) _ _ om w2 om)
 have g1:bU.l1 m (l.length:Int) cmp m d2 (20:Int)=_:=g1
 rw [g1]
 exact⟨d,rfl,g2.trans P2,fun O=>g3 (O.perm P2)⟩
end
def ca (t:aI):Bool:=decide (1≤t.nodes.length)&&decide (t.nodes.length≤8000)&&decide (0≤t.root)&&decide (t.root<t.nodes.length)&&t.nodes.all fun n=>ec n t.nodes.length
theorem lj {m:Nat}(hm:2 ^ 30≤m)(t:aI):gf.f m t=some (ca t):=by
 have IV:(2:Nat) ^ 30=1073741824:=by decide
 have wu:(2:Nat) ^ 40=1099511627776:=by decide
 unfold gf.f ca
 by_cases h1:1≤t.nodes.length
 ·rw [if_pos dm,decide_eq_true h1]
  by_cases h2:t.nodes.length≤8000
  ·rw [if_pos dm,decide_eq_true h2]
   by_cases h3:0≤t.root
   ·rw [if_pos dm,decide_eq_true h3]
    by_cases h4:t.root<t.nodes.length
    ·rw [if_pos dm,decide_eq_true h4]
     rw [Ga (g:=fun n=>!(ec n t.nodes.length)) om om (fun n _=>by unfold gP.f; rw [Gb om]; rfl),aaG]
     simp [List.not_any_eq_all_not]
    ·rw [if_neg dm,decide_eq_false h4]; rfl
   ·rw [if_neg dm,decide_eq_false h3]; rfl
  ·rw [if_neg dm,decide_eq_false h2]; rfl
 ·rw [if_neg dm,decide_eq_false h1]; rfl
def cI (x y:Int):Int:=if x<y then -1 else if y<x then 1 else 0
def cS (x y:ByteArray):Int:=if Op.bytesLess x.data.toList y.data.toList=true then -1 else if (!HA x y)=true then 1 else 0
def Gd (x y:Int):Int:=if x=0 then y else x
def cT (a b:ai):Int:=if a.kind=b.kind then (if a.kind=3 then Gd (cI a.args.length b.args.length) (cS a.label b.label) else Gd (cS a.label b.label) (cI a.int b.int)) else cI a.kind b.kind
theorem ze {m:Nat}(x y:Int):cW.f m x y=some (cI x y):=by
 unfold cW.f cmp_isNaN_int.f cI
 simp only [beq_self_eq_true,abM,aaG,aaU,if_false]
 by_cases h:x<y
 ·rw [if_pos (by simpa using h),if_pos h]
 ·rw [if_neg (by simpa using h),if_neg h]
  by_cases h2:y<x
  ·rw [if_pos (by simpa using h2),if_pos h2]
  ·rw [if_neg (by simpa using h2),if_neg h2]
theorem EO {m:Nat}(x y:ByteArray):cz.f m x y=some (cS x y):=by
 unfold cz.f cmp_isNaN_string.f cS
 simp only [beq_self_eq_true,abM,aaG,aaU,if_false]
 split
 ·rfl
 ·split
  ·rfl
  ·rfl
theorem A9 {m:Nat}(hm:3≤m)(x y:Int):cd.f m [x,y]=some (Gd x y):=by
 obtain⟨k,rfl⟩:∃k,m=k+3:=⟨m - 3,om⟩
 unfold cd.f Gd
 have e1:i64.wrap ((0:Int)+1)=1:=by decide
 have e2:i64.wrap ((1:Int)+1)=2:=by decide
 have a0:ix [x,y] 0=some x:=rfl
 have a1:ix [x,y] 1=some y:=rfl
 unfold cd.l0
 rw [if_pos (by simp),a0,aaG]
 by_cases h:x=0
 ·subst h
  rw [if_neg (by simp),e1,if_pos rfl]
  unfold cd.l0
  rw [if_pos (by simp),a1,aaG]
  by_cases h2:y=0
  ·subst h2
   rw [if_neg (by simp),e2]
   unfold cd.l0
   rw [if_neg (by simp)]; rfl
  ·rw [if_pos (by simpa using h2)]; rfl
 ·rw [if_pos (by simpa using h),if_neg h]; rfl
theorem zf {m:Nat}(hm:3≤m)(a b:ai):cX.f m a b=some (cT a b):=by
 unfold cX.f cT
 by_cases h:a.kind=b.kind
 ·rw [if_neg (by simp [h]),if_pos h]
  by_cases h3:a.kind=3
  ·rw [if_pos (by simpa using h3),if_pos h3,ze,EO,aaG,aaG,A9 hm]; rfl
  ·rw [if_neg (by simpa using h3),if_neg h3,ze,EO,aaG,aaG,A9 hm]; rfl
 ·rw [if_pos (by simpa using h),if_neg h,ze]; rfl
def nd (l:List ai)(i:Int):ai:=l.getD i.toNat ⟨0,0,⟨#[]⟩,[]⟩
theorem sO {l:List ai}{i:Int}(h0:0≤i)(h1:i<l.length):ix l i=some (nd l i):=by
 unfold ix nd
 have h:i.toNat<l.length:=by omega
 rw [if_pos h0,aaV,aaL h]; rfl
theorem gR {l:List ai}{i:Int}(h0:0≤i)(h1:i<l.length):nd l i∈l:=by
 have:=sO h0 h1
 unfold ix at this
 rw [if_pos h0] at this
 exact aaP this
theorem IW {m:Nat}(hm:3≤m){l:List ai}{i j:Int}(h0:0≤i)(h1:i<l.length)(h2:0≤j)(h3:j<l.length):dV.f m i j l=some (cT (nd l i) (nd l j)):=by
 unfold dV.f
 rw [sO h0 h1,sO h2 h3,aaG,aaG,zf hm]; rfl
end Go.Proofs.YtifafejidnjckaaGreat
