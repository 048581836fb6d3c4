/- Part of the proof: Q72, Q76, Q46, Q43, Q21, Q36, Q17, Q12, Q3, Q4, Q5, Q6, Q7, QA. -/
import Derived.Test.YtifafejidnjckaaK9
set_option linter.unusedVariables false
set_option linter.unusedSimpArgs false
set_option maxRecDepth 100000
open Eq renaming trans → VB
open List renaming length_set → Ul
namespace Go.Proofs.Ytifafejidnjckaa
open Go Go.R
open Go.IntKind (i64 u64 u8 u32)
def oH:b4:=gK [0,1,2,3,4,5,6,7,8,9,10,11,12,13,14,15,17,22,23,24,37,38,39,40,61,73,74,75,76,87,88,89,90,110,126] [12] [34359738365,34359738357,34359345141,34358820853,34359345125,34359345141,34359345141,34359738357,34359738325,34359738261,34352398229,34344009621,34352397845,34335620757,34352397973,34352398229,34352398229,34359737757,34359736733,34124855709,33856420253,34124849565,34124841373,30366749085,26071781789,30366699933,30366749085,30366749085,34124779933,25534910877,34124845469,34124855709,34124855709,17179867613,34359738363,34359738269] [] []
def ax.l0 (m:Nat)(x0:List Int):Nat→(List Int)→Int→Option ((List Int) × Int)
 | 0,_,_=>none
 | k+1,eW,x1=>if (decide (x1<(x0.length:Int)))=true then ((ix eW x1).bind fun v0=>ax.l0 m x0 k (eW.set x1.toNat x1) (i64.wrap (x1+(1:Int)))) else (some ((eW,x1)))
def ax.l1 (m:Nat)(aJ:List ao)(bU:List Int)(x3:(List Int)):Nat→(List Int)→Int→Int→Option ((List Int) × Int × Int)
 | 0,_,_,_=>none
 | k+1,dE,dY,x5=>if (decide (x5<(bU.length:Int)))=true then ((ix x3 x5).bind fun v1=>if (decide (x5 > (0:Int)))=true then ((ix x3 (i64.wrap (x5 - (1:Int)))).bind fun v2=>(ix aJ v2).bind fun v3=>(ix aJ v1).bind fun v4=>(dc.f m v3 v4).bind fun x6=>if (!(x6==(0:Int)))=true then ((ix dE v1).bind fun v5=>ax.l1 m aJ bU x3 k (dE.set v1.toNat (i64.wrap (dY+(1:Int)))) (i64.wrap (dY+(1:Int))) (i64.wrap (x5+(1:Int)))) else ((ix dE v1).bind fun v6=>ax.l1 m aJ bU x3 k (dE.set v1.toNat dY) dY (i64.wrap (x5+(1:Int))))) else ((ix dE v1).bind fun v7=>ax.l1 m aJ bU x3 k (dE.set v1.toNat dY) dY (i64.wrap (x5+(1:Int))))) else (some ((dE,dY,x5)))
def ax.l4 (m:Nat)(da:List Int)(v8:ao):Nat→(List Int)→Int→Option ((List Int) × Int)
 | 0,_,_=>none
 | k+1,k0,kM=>if (decide (kM<(v8.args.length:Int)))=true then ((ix v8.args kM).bind fun v10=>(ix da v10).bind fun v11=>(ix k0 (i64.wrap (kM+(1:Int)))).bind fun v12=>ax.l4 m da v8 k (k0.set (i64.wrap (kM+(1:Int))).toNat (i64.wrap (v11+(1:Int)))) (i64.wrap (kM+(1:Int)))) else (some ((k0,kM)))
def ax.l3 (m:Nat)(aJ:List ao)(da:List Int):Nat→(List (List Int × Int))→(List Int)→Int→Option ((List (List Int × Int)) × (List Int) × Int)
 | 0,_,_,_=>none
 | k+1,fj,dp,x9=>if (decide (x9<(aJ.length:Int)))=true then ((ix aJ x9).bind fun v8=>(ix da x9).bind fun v9=>(ax.l4 m da v8 m ([i64.wrap (v9+(1:Int)),(0:Int),(0:Int),(0:Int),(0:Int),(0:Int),(0:Int),(0:Int),(0:Int)]) (0:Int)).bind fun KP=>match KP with | (k1,DQ)=>(FR 9 fj k1).bind fun r0=>if (!r0.2)=true then ((Kl 9 fj k1 (fj.length:Int)).bind fun IM=>(FR 9 IM k1).bind fun r1=>(ix dp x9).bind fun LO=>ax.l3 m aJ da k IM (dp.set x9.toNat r1.1) (i64.wrap (x9+(1:Int)))) else ((FR 9 fj k1).bind fun r2=>(ix dp x9).bind fun RY=>ax.l3 m aJ da k fj (dp.set x9.toNat r2.1) (i64.wrap (x9+(1:Int))))) else (some ((fj,dp,x9)))
def ax.l2 (m:Nat)(aJ:List ao):Nat→(List Int)→Int→Option (Sum (List Int) ((List Int) × Int))
 | 0,_,_=>none
 | k+1,da,iQ=>(Cv 8 (aJ.length:Int) (0:Int)).bind fun x8=>(ax.l3 m aJ da m ([]:List (List Int × Int)) x8 (0:Int)).bind fun KQ=>match KQ with | (nk,mr,Ha)=>if ((nk.length:Int)==(i64.wrap (iQ+(1:Int))))=true then (some (.inl da)) else (ax.l2 m aJ k mr (i64.wrap ((nk.length:Int) - (1:Int))))
def ax.f (m:Nat)(aJ:List ao):Option ((List Int)):=(Cv 8 (aJ.length:Int) (0:Int)).bind fun x0=>(ax.l0 m x0 m x0 (0:Int)).bind fun cJ=>match cJ with | (bU,x2)=>(eS.f m bU (fun y0 y1=>dG.f m y0 y1 aJ)).bind fun x3=>(Cv 8 (aJ.length:Int) (0:Int)).bind fun x4=>(ax.l1 m aJ bU x3 m x4 (0:Int) (0:Int)).bind fun D5=>match D5 with | (mS,many1,x7)=>(ax.l2 m aJ m mS many1).bind fun KR=>match KR with | .inl r3=>some r3 | .inr (N7,KS)=>none
def ax.fin (L:Mem)(r:(List Int))(s:St):Prop:=∃av,aM Try.prog (s.open oH) Try.f72.results.toList=some av∧fL s.h av (af.fz r)
def Qi (cf:CallF)(m:Nat):Prop:=∀(aJ:List ao) (r:(List Int)),ax.f m aJ=some r→∀h xs,aP bQ h xs [ah.fz aJ]→cf 72 xs h=some (af.fz r,h)
section
variable {cf:CallF}{m:Nat}
theorem ax.dB (L:Mem)(aJ:List ao)(aH:Nat)(x0:List Int)   : dU Try.prog cf oH m (sub [1,1,0,1,0,0] (b6 Try.f72)) (fun k (σ:(List Int) × Int)=>ax.l0 m x0 k σ.1 σ.2) (fun σ s=>match σ with | (eW,x1)=>∃ez h2,s=⟨.any :: .ptr aH 0 :: .any :: .rs ez 0 eW.length 1::qm (.int .i64 (x0.length:Int) :: .int .i64 x1::FV []),[none],h2⟩∧Has h2 ((ez,.sl eW.length 1 (af.l eW))::(aH,.ob [ah.fz aJ])::L)) (fun out e s=>(e = .exit 0∧∃eW x1,(eW,x1)=out∧∃yJ Is N8 ez h2,s=⟨.any :: .ptr aH 0 :: .any :: .rs ez 0 eW.length 1::qm (yJ::Is::N8::MP []),[none],h2⟩∧Has h2 ((ez,.sl eW.length 1 (af.l eW))::(aH,.ob [ah.fz aJ])::L))):=by
 refine mK (fun _=>rfl) ?_
 rintro k ⟨eW,x1⟩ s out ⟨ez,h2,rfl,o2⟩ H
 have H:ax.l0 m x0 (k+1) eW x1=some out:=H
 refine q1 <| qq <| qc H (fun c0 H=>?_) (fun c0 H=>?_)
 ·refine qk <| qq <| qb 1 <| qq <| q0 ?_
  obtain⟨v0,e3,H⟩:=bl H
  obtain⟨h3,e4,o3⟩:=eV (P:=Try.prog) (tf:=3) (E:=af) (l:=eW) (q:=0) (v:=x1) (x:=.int .i64 x1) o2 rfl Z3 e3 rfl rfl
  exact qr [.v 3 (bj (k:=.i64) (E:=af) (l:=eW) (q:=0) gH o2 rfl e3),.w 4 e4] <| q0 <| ⟨(eW.set x1.toNat x1,i64.wrap (x1+(1:Int))),⟨ez,h3,(VB (b:=⟨.any :: .ptr aH 0 :: .any :: .rs ez 0 eW.length 1::qm (.int .i64 (x0.length:Int) :: .int .i64 (i64.wrap (x1+(1:Int)))::FV []),[none],h3⟩) (by kernel_rfl) (by simp only [Ul])),(by have o:Has h3 ((ez,.sl eW.length 1 (af.l (eW.set x1.toNat x1)))::(aH,.ob [ah.fz aJ])::L):=o3; simpa only [Ul] using o)⟩,H⟩
 ·exact qx 0 <| ⟨rfl,eW,x1,oi H,.int .i64 (x0.length:Int),.int .i64 x1,.bool (decide (x1<(x0.length:Int))),ez,h2,by kernel_rfl,o2⟩
theorem ax.mi (L:Mem)(aJ:List ao)(aH:Nat)(dd:Nat)(bU:List Int)(dd:Nat)(x3:(List Int))  (D4:LN cf m):dU Try.prog cf oH m (sub [1,1,1,1,1,1,0,1,0,0] (b6 Try.f72)) (fun k (σ:(List Int) × Int × Int)=>ax.l1 m aJ bU x3 k σ.1 σ.2.1 σ.2.2) (fun σ s=>match σ with | (dE,dY,x5)=>∃fX h7,s=⟨.any :: .ptr aH 0 :: .any :: .rs dd 0 bU.length 1 :: .any :: .rs fX 0 dE.length 1 :: .int .i64 dY::qm (.rs dd 0 bU.length 1 :: .int .i64 (bU.length:Int) :: .int .i64 x5::uV []),[none],h7⟩∧Has h7 ((fX,.sl dE.length 1 (af.l dE))::(dd,.sl bU.length 1 (af.l x3))::(aH,.ob [ah.fz aJ])::L)) (fun out e s=>(e = .exit 2∧∃dE dY x5,(dE,dY,x5)=out∧∃Ga Eb Ec Ed IN fX h7,s=⟨.any :: .ptr aH 0 :: .any::Ga :: .any :: .rs fX 0 dE.length 1 :: .int .i64 dY::qm (Eb::Ec::Ed::IN::rV []),[none],h7⟩∧Has h7 ((fX,.sl dE.length 1 (af.l dE))::(dd,.sl bU.length 1 (af.l x3))::(aH,.ob [ah.fz aJ])::L))):=by
 refine mK (fun _=>rfl) ?_
 rintro k ⟨dE,dY,x5⟩ s out ⟨fX,h7,rfl,o7⟩ H
 have H:ax.l1 m aJ bU x3 (k+1) dE dY x5=some out:=H
 refine q1 <| qq <| qc H (fun c1 H=>?_) (fun c1 H=>?_)
 ·refine qk <| qq <| qb 3 <| qq ?_
  obtain⟨v1,sF,H⟩:=bl H
  refine qr [.v 1 (bj (k:=.i64) (E:=af) (l:=x3) (q:=1) gH o7 rfl sF),.v 2 (dr  (E:=af) (l:=x3) (q:=1) o7 rfl A3 sF rfl)] <| qq <| qq ?_
  rcases hZ H with⟨c2,H⟩| ⟨c2,H⟩
  ·obtain⟨v2,w6,H⟩:=bl H
   obtain⟨v3,yD,H⟩:=bl H
   obtain⟨v4,yE,H⟩:=bl H
   obtain⟨x6,BU,H⟩:=bl H
   refine qr [.b 2 c2,.v 3 (show bn Try.prog h7 40 (.ptr aH 0)=some (ah.fz aJ) from bV (q:=2) (cs:=[ah.fz aJ]) o7 rfl (by kernel_rfl)),.v 7 (bj (k:=.i64) (E:=af) (l:=x3) (q:=1) gH o7 rfl w6),.v 8 (dr  (E:=af) (l:=x3) (q:=1) o7 rfl A3 w6 rfl),.v 9 (fR (k:=.i64) (E:=ah) (l:=aJ) wW yD),.v 10 (jZ  (E:=ah) (l:=aJ) h7 DK DL yD),.v 11 (show bn Try.prog h7 40 (.ptr aH 0)=some (ah.fz aJ) from bV (q:=2) (cs:=[ah.fz aJ]) o7 rfl (by kernel_rfl)),.v 13 (fR (k:=.i64) (E:=ah) (l:=aJ) wW yE),.v 14 (jZ  (E:=ah) (l:=aJ) h7 DK DL yE),.a 15 (D4 _ _ _ BU h7 _ (gm (ai (jB (ai (br) (ai (br) (ai (cH) (ai (fT (E:=af)) (ay)))))) (ai (jB (ai (br) (ai (br) (ai (cH) (ai (fT (E:=af)) (ay)))))) (ay)))))] ?_
   refine qc H (fun c3 H=>?_) (fun c3 H=>?_)
   ·refine q0 ?_
    obtain⟨v5,Al,H⟩:=bl H
    obtain⟨h8,D1,o8⟩:=eV (P:=Try.prog) (tf:=3) (E:=af) (l:=dE) (q:=0) (v:=(i64.wrap (dY+(1:Int)))) (x:=.int .i64 (i64.wrap (dY+(1:Int)))) o7 rfl Z3 Al rfl rfl
    exact qr [.v 3 (bj (k:=.i64) (E:=af) (l:=dE) (q:=0) gH o7 rfl Al),.w 4 D1] <| q0 <| ⟨(dE.set v1.toNat (i64.wrap (dY+(1:Int))),i64.wrap (dY+(1:Int)),i64.wrap (x5+(1:Int))),⟨fX,h8,(VB (b:=⟨.any :: .ptr aH 0 :: .any :: .rs dd 0 bU.length 1 :: .any :: .rs fX 0 dE.length 1 :: .int .i64 (i64.wrap (dY+(1:Int)))::qm (.rs dd 0 bU.length 1 :: .int .i64 (bU.length:Int) :: .int .i64 (i64.wrap (x5+(1:Int)))::uV []),[none],h8⟩) (by kernel_rfl) (by simp only [Ul])),(by have o:Has h8 ((fX,.sl dE.length 1 (af.l (dE.set v1.toNat (i64.wrap (dY+(1:Int))))))::(dd,.sl bU.length 1 (af.l x3))::(aH,.ob [ah.fz aJ])::L):=o8; simpa only [Ul] using o)⟩,H⟩
   ·refine qk ?_
    obtain⟨v6,Gf,H⟩:=bl H
    obtain⟨h9,Iy,o9⟩:=eV (P:=Try.prog) (tf:=3) (E:=af) (l:=dE) (q:=0) (v:=dY) (x:=.int .i64 dY) o7 rfl Z3 Gf rfl rfl
    exact qr [.v 3 (bj (k:=.i64) (E:=af) (l:=dE) (q:=0) gH o7 rfl Gf),.w 4 Iy] <| q0 <| ⟨(dE.set v1.toNat dY,dY,i64.wrap (x5+(1:Int))),⟨fX,h9,(VB (b:=⟨.any :: .ptr aH 0 :: .any :: .rs dd 0 bU.length 1 :: .any :: .rs fX 0 dE.length 1 :: .int .i64 dY::qm (.rs dd 0 bU.length 1 :: .int .i64 (bU.length:Int) :: .int .i64 (i64.wrap (x5+(1:Int)))::uV []),[none],h9⟩) (by kernel_rfl) (by simp only [Ul])),(by have o:Has h9 ((fX,.sl dE.length 1 (af.l (dE.set v1.toNat dY)))::(dd,.sl bU.length 1 (af.l x3))::(aH,.ob [ah.fz aJ])::L):=o9; simpa only [Ul] using o)⟩,H⟩
  ·refine qr [.b 2 c2] <| Fh <| qk ?_
   obtain⟨v7,Gg,H⟩:=bl H
   obtain⟨h10,Iz,vF⟩:=eV (P:=Try.prog) (tf:=3) (E:=af) (l:=dE) (q:=0) (v:=dY) (x:=.int .i64 dY) o7 rfl Z3 Gg rfl rfl
   exact qr [.v 3 (bj (k:=.i64) (E:=af) (l:=dE) (q:=0) gH o7 rfl Gg),.w 4 Iz] <| q0 <| ⟨(dE.set v1.toNat dY,dY,i64.wrap (x5+(1:Int))),⟨fX,h10,(VB (b:=⟨.any :: .ptr aH 0 :: .any :: .rs dd 0 bU.length 1 :: .any :: .rs fX 0 dE.length 1 :: .int .i64 dY::qm (.rs dd 0 bU.length 1 :: .int .i64 (bU.length:Int) :: .int .i64 (i64.wrap (x5+(1:Int)))::uV []),[none],h10⟩) (by kernel_rfl) (by simp only [Ul])),(by have o:Has h10 ((fX,.sl dE.length 1 (af.l (dE.set v1.toNat dY)))::(dd,.sl bU.length 1 (af.l x3))::(aH,.ob [ah.fz aJ])::L):=vF; simpa only [Ul] using o)⟩,H⟩
 ·exact qx 2 <| ⟨rfl,dE,dY,x5,oi H,.rs dd 0 bU.length 1,.rs dd 0 bU.length 1,.int .i64 (bU.length:Int),.int .i64 x5,.bool (decide (x5<(bU.length:Int))),fX,h7,(VB (b:=⟨.any :: .ptr aH 0 :: .any :: .rs dd 0 bU.length 1 :: .any :: .rs fX 0 dE.length 1 :: .int .i64 dY::qm (.rs dd 0 bU.length 1 :: .int .i64 (bU.length:Int) :: .int .i64 x5 :: .bool (decide (x5<(bU.length:Int)))::rV []),[none],h7⟩) (by kernel_rfl) (by simp only [Ul])),(by have o:Has h7 ((fX,.sl dE.length 1 (af.l dE))::(dd,.sl bU.length 1 (af.l x3))::(aH,.ob [ah.fz aJ])::L):=o7; simpa only [Ul] using o)⟩
theorem ax.D7 (L:Mem)(aJ:List ao)(aH:Nat)(fu:Nat)(da:List Int)(iQ:Int)(fu:Nat)(kN:Nat)(gL:Nat)(fj:List (List Int × Int))(dp:List Int)(x9:Int)(gL:Nat)(v8:ao)(jc:Nat)   : dU Try.prog cf oH m (sub [1,1,1,1,1,1,1,0,0,0,1,1,0,1,0,0,1,1,0,0,1,1,0,1,0,0] (b6 Try.f72)) (fun k (σ:(List Int) × Int)=>ax.l4 m da v8 k σ.1 σ.2) (fun σ s=>match σ with | (k0,kM)=>∃h18,s=⟨.any :: .ptr aH 0::sQ (.rs fu 0 da.length 1 :: .int .i64 iQ :: .any :: .any :: .mp kN :: .rs gL 0 dp.length 1 :: .int .i64 x9 :: .any :: .ptr jc 0::rV (ah.fz aJ :: .int .i64 (aJ.length:Int) :: .int .i64 x9 :: .any::af.fz v8.args :: .int .i64 (v8.args.length:Int) :: .int .i64 kM::sQ [])),[none],h18⟩∧Has h18 ((jc,.sl 9 1 (af.l k0))::(gL,.sl dp.length 1 (af.l dp))::(kN,.mp (sP fj))::(fu,.sl da.length 1 (af.l da))::(aH,.ob [ah.fz aJ])::L)) (fun out e s=>(e = .exit 8∧∃k0 kM,(k0,kM)=out∧∃N9 Oa Ob Oc h18,s=⟨.any :: .ptr aH 0::sQ (.rs fu 0 da.length 1 :: .int .i64 iQ :: .any :: .any :: .mp kN :: .rs gL 0 dp.length 1 :: .int .i64 x9 :: .any :: .ptr jc 0::rV [ah.fz aJ,.int .i64 (aJ.length:Int),.int .i64 x9,.any,N9,Oa,Ob,Oc,.any,.any]),[none],h18⟩∧Has h18 ((jc,.sl 9 1 (af.l k0))::(gL,.sl dp.length 1 (af.l dp))::(kN,.mp (sP fj))::(fu,.sl da.length 1 (af.l da))::(aH,.ob [ah.fz aJ])::L))):=by
 refine mK (fun _=>rfl) ?_
 rintro k ⟨k0,kM⟩ s out ⟨h18,rfl,BZ⟩ H
 have H:ax.l4 m da v8 (k+1) k0 kM=some out:=H
 refine q1 <| qq <| qc H (fun c6 H=>?_) (fun c6 H=>?_)
 ·refine qk <| qq <| qb 9 <| qq ?_
  obtain⟨v10,LS,H⟩:=bl H
  refine qr [.v 1 (fR (k:=.i64) (E:=af) (l:=v8.args) gH LS),.v 2 (jA  (E:=af) (l:=v8.args) h18 A3 LS rfl)] ?_
  obtain⟨v11,LQ,H⟩:=bl H
  obtain⟨v12,LR,H⟩:=bl H
  obtain⟨h19,RZ,KT⟩:=eV (P:=Try.prog) (tf:=3) (E:=af) (l:=k0) (q:=0) (v:=(i64.wrap (v11+(1:Int)))) (x:=.int .i64 (i64.wrap (v11+(1:Int)))) BZ rfl Z3 LR rfl rfl
  exact qr [.v 4 (bj (k:=.i64) (E:=af) (l:=da) (q:=3) gH BZ rfl LQ),.v 5 (dr  (E:=af) (l:=da) (q:=3) BZ rfl A3 LQ rfl),.v 7 (H0 (k:=.i64) (q:=0) (l:=k0) tL BZ rfl LR),.w 8 RZ] <| q0 <| ⟨(k0.set (i64.wrap (kM+(1:Int))).toNat (i64.wrap (v11+(1:Int))),i64.wrap (kM+(1:Int))),⟨h19,by kernel_rfl,KT⟩,H⟩
 ·exact qx 8 <| ⟨rfl,k0,kM,oi H,af.fz v8.args,.int .i64 (v8.args.length:Int),.int .i64 kM,.bool (decide (kM<(v8.args.length:Int))),h18,by kernel_rfl,BZ⟩
theorem ax.D6 (L:Mem)(aJ:List ao)(aH:Nat)(fu:Nat)(da:List Int)(iQ:Int)(fu:Nat)(kN:Nat)   : dU Try.prog cf oH m (sub [1,1,1,1,1,1,1,0,0,0,1,1,0,1,0,0] (b6 Try.f72)) (fun k (σ:(List (List Int × Int)) × (List Int) × Int)=>ax.l3 m aJ da k σ.1 σ.2.1 σ.2.2) (fun σ s=>match σ with | (fj,dp,x9)=>∃gL h15,s=⟨.any :: .ptr aH 0::sQ (.rs fu 0 da.length 1 :: .int .i64 iQ :: .any :: .any :: .mp kN :: .rs gL 0 dp.length 1::wN (ah.fz aJ :: .int .i64 (aJ.length:Int) :: .int .i64 x9::H3 [])),[none],h15⟩∧Has h15 ((gL,.sl dp.length 1 (af.l dp))::(kN,.mp (sP fj))::(fu,.sl da.length 1 (af.l da))::(aH,.ob [ah.fz aJ])::L)) (fun out e s=>(e = .exit 6∧∃fj dp x9,(fj,dp,x9)=out∧∃Od Oe Of Og gL h15,s=⟨.any :: .ptr aH 0::sQ (.rs fu 0 da.length 1 :: .int .i64 iQ :: .any :: .any :: .mp kN :: .rs gL 0 dp.length 1::wN (Od::Oe::Of::Og::vD [])),[none],h15⟩∧Has h15 ((gL,.sl dp.length 1 (af.l dp))::(kN,.mp (sP fj))::(fu,.sl da.length 1 (af.l da))::(aH,.ob [ah.fz aJ])::L))):=by
 refine mK (fun _=>rfl) ?_
 rintro k ⟨fj,dp,x9⟩ s out ⟨gL,h15,rfl,yP⟩ H
 have H:ax.l3 m aJ da (k+1) fj dp x9=some out:=H
 refine q1 <| qq <| qc H (fun c5 H=>?_) (fun c5 H=>?_)
 ·refine qk <| qq <| qb 7 <| qq ?_
  obtain⟨v8,He,H⟩:=bl H
  refine qr [.v 1 (fR (k:=.i64) (E:=ah) (l:=aJ) wW He),.v 2 (jZ  (E:=ah) (l:=aJ) h15 DK DL He)] <| qq ?_
  obtain⟨v9,Jx,H⟩:=bl H
  obtain⟨jc,h16,NY,D8⟩:=FT (cs:=[.int .i64 (0:Int),.int .i64 (0:Int),.int .i64 (0:Int),.int .i64 (0:Int),.int .i64 (0:Int),.int .i64 (0:Int),.int .i64 (0:Int),.int .i64 (0:Int),.int .i64 (0:Int)]) (l:=[(0:Int),(0:Int),(0:Int),(0:Int),(0:Int),(0:Int),(0:Int),(0:Int),(0:Int)]) yP (by kernel_rfl)
  obtain⟨h17,NX,Cy⟩:=H2 (q:=0) (l:=([(0:Int),(0:Int),(0:Int),(0:Int),(0:Int),(0:Int),(0:Int),(0:Int),(0:Int)])) (l':=[i64.wrap (v9+(1:Int)),(0:Int),(0:Int),(0:Int),(0:Int),(0:Int),(0:Int),(0:Int),(0:Int)]) (x:=.agg [.int .i64 (i64.wrap (v9+(1:Int))),.int .i64 (0:Int),.int .i64 (0:Int),.int .i64 (0:Int),.int .i64 (0:Int),.int .i64 (0:Int),.int .i64 (0:Int),.int .i64 (0:Int),.int .i64 (0:Int)]) tL D8 rfl rfl rfl
  refine qr [.v 2 (bj (k:=.i64) (E:=af) (l:=da) (q:=2) gH yP rfl Jx),.v 3 (dr  (E:=af) (l:=da) (q:=2) yP rfl A3 Jx rfl),.a 6 NY,.w 7 NX] <| qq <| qq <| q0 <| qb 8 ?_
  obtain⟨KP,R0,H⟩:=bl H
  refine ql (ax.D7 L aJ aH fu da iQ fu kN gL fj dp x9 gL v8 jc   ([i64.wrap (v9+(1:Int)),(0:Int),(0:Int),(0:Int),(0:Int),(0:Int),(0:Int),(0:Int),(0:Int)],(0:Int)) _ _ ⟨h17,by kernel_rfl,Cy⟩ R0) ?_
  rintro e s ⟨rfl,k1,DQ,rfl,g13,g14,g15,g16,h20,rfl,B0⟩
  try dsimp only at H
  refine qq <| qq ?_
  obtain⟨r0,R5,H⟩:=bl H
  refine qr [.v 1 (show bn Try.prog h20 115 (.ptr jc 0)=some (.agg (af.l k1)) from uU (q:=0) (l:=k1) tL B0 rfl),.v 2 (show fD Try.prog h20 113 (.mp kN) (.agg (af.l k1)) true=some (.tup [.int .i64 r0.1,.bool r0.2]) from (HY (q:=2) (l:=fj) (k:=k1) zO B0 rfl R5).1)] <| qq <| q0 <| qc H (fun c7 H=>?_) (fun c7 H=>?_)
  ·obtain⟨IM,R6,H⟩:=bl H
   obtain⟨h21,R7,IP⟩:=MO (q:=2) (l:=fj) (k:=k1) (v:=(fj.length:Int)) zO B0 rfl R6
   refine qr [.v 1 (show bn Try.prog h20 115 (.ptr jc 0)=some (.agg (af.l k1)) from uU (q:=0) (l:=k1) tL B0 rfl),.v 3 (show qY Try.prog h20 113 (.mp kN)=some (.int .i64 (fj.length:Int)) from HZ (q:=2) (l:=fj) DM B0 rfl),.w 4 R7] ?_
   obtain⟨r1,R8,H⟩:=bl H
   obtain⟨LO,Qj,H⟩:=bl H
   obtain⟨h22,R9,KU⟩:=eV (P:=Try.prog) (tf:=3) (E:=af) (l:=dp) (q:=1) (v:=r1.1) (x:=.int .i64 r1.1) IP rfl Z3 Qj rfl rfl
   refine qr [.v 3 (show bn Try.prog h21 115 (.ptr jc 0)=some (.agg (af.l k1)) from uU (q:=0) (l:=k1) tL IP rfl),.v 4 (show fD Try.prog h21 113 (.mp kN) (.agg (af.l k1)) false=some (.int .i64 r1.1) from (HY (q:=2) (l:=IM) (k:=k1) zO IP rfl R8).2),.v 5 (bj (k:=.i64) (E:=af) (l:=dp) (q:=1) gH IP rfl Qj),.w 6 R9] ?_
   have Oh:Has h22 ((gL,.sl dp.length 1 (af.l (dp.set x9.toNat r1.1)))::(kN,.mp (sP IM))::(fu,.sl da.length 1 (af.l da))::(aH,.ob [ah.fz aJ])::L):=Has.del KU 0
   exact q0 <| ⟨(IM,dp.set x9.toNat r1.1,i64.wrap (x9+(1:Int))),⟨gL,h22,(VB (b:=⟨.any :: .ptr aH 0::sQ (.rs fu 0 da.length 1 :: .int .i64 iQ :: .any :: .any :: .mp kN :: .rs gL 0 dp.length 1::wN (ah.fz aJ :: .int .i64 (aJ.length:Int) :: .int .i64 (i64.wrap (x9+(1:Int)))::H3 [])),[none],h22⟩) (by kernel_rfl) (by simp only [Ul])),(by have o:Has h22 ((gL,.sl dp.length 1 (af.l (dp.set x9.toNat r1.1)))::(kN,.mp (sP IM))::(fu,.sl da.length 1 (af.l da))::(aH,.ob [ah.fz aJ])::L):=Oh; simpa only [Ul] using o)⟩,H⟩
  ·refine qk ?_
   obtain⟨r2,Sa,H⟩:=bl H
   obtain⟨RY,Qk,H⟩:=bl H
   obtain⟨h23,Sb,Oi⟩:=eV (P:=Try.prog) (tf:=3) (E:=af) (l:=dp) (q:=1) (v:=r2.1) (x:=.int .i64 r2.1) B0 rfl Z3 Qk rfl rfl
   refine qr [.v 3 (show bn Try.prog h20 115 (.ptr jc 0)=some (.agg (af.l k1)) from uU (q:=0) (l:=k1) tL B0 rfl),.v 4 (show fD Try.prog h20 113 (.mp kN) (.agg (af.l k1)) false=some (.int .i64 r2.1) from (HY (q:=2) (l:=fj) (k:=k1) zO B0 rfl Sa).2),.v 5 (bj (k:=.i64) (E:=af) (l:=dp) (q:=1) gH B0 rfl Qk),.w 6 Sb] ?_
   have Oj:Has h23 ((gL,.sl dp.length 1 (af.l (dp.set x9.toNat r2.1)))::(kN,.mp (sP fj))::(fu,.sl da.length 1 (af.l da))::(aH,.ob [ah.fz aJ])::L):=Has.del Oi 0
   exact q0 <| ⟨(fj,dp.set x9.toNat r2.1,i64.wrap (x9+(1:Int))),⟨gL,h23,(VB (b:=⟨.any :: .ptr aH 0::sQ (.rs fu 0 da.length 1 :: .int .i64 iQ :: .any :: .any :: .mp kN :: .rs gL 0 dp.length 1::wN (ah.fz aJ :: .int .i64 (aJ.length:Int) :: .int .i64 (i64.wrap (x9+(1:Int)))::H3 [])),[none],h23⟩) (by kernel_rfl) (by simp only [Ul])),(by have o:Has h23 ((gL,.sl dp.length 1 (af.l (dp.set x9.toNat r2.1)))::(kN,.mp (sP fj))::(fu,.sl da.length 1 (af.l da))::(aH,.ob [ah.fz aJ])::L):=Oj; simpa only [Ul] using o)⟩,H⟩
 ·exact qx 6 <| ⟨rfl,fj,dp,x9,oi H,ah.fz aJ,.int .i64 (aJ.length:Int),.int .i64 x9,.bool (decide (x9<(aJ.length:Int))),gL,h15,by kernel_rfl,yP⟩
theorem ax.si (L:Mem)(aJ:List ao)(aH:Nat)   : dU Try.prog cf oH m (sub [1,1,1,1,1,1,1,0,0] (b6 Try.f72)) (fun k (σ:(List Int) × Int)=>ax.l2 m aJ k σ.1 σ.2) (fun σ s=>match σ with | (da,iQ)=>∃g8 g9 g10 g11 g12 fu h12,s=⟨.any :: .ptr aH 0 :: .any::g8 :: .any :: .rs fu 0 da.length 1 :: .int .i64 iQ::qm (g9::g10::g11::g12::rV []),[none],h12⟩∧Has h12 ((fu,.sl da.length 1 (af.l da))::(aH,.ob [ah.fz aJ])::L)) (fun out e s=>(e = .exit 4∧∃da iQ,.inr (da,iQ)=out∧∃yF Ga Nl Gb Eb Ec Ed IN fu h12,s=⟨.any::yF :: .any::Ga :: .any::Nl::Gb::qm (Eb::Ec::Ed::IN::rV []),[none],h12⟩∧Has h12 ((fu,.sl da.length 1 (af.l da))::(aH,.ob [ah.fz aJ])::L))∨(e = .ret∧∃r,.inl r=out∧ax.fin L r s)):=by
 refine mK (fun _=>rfl) ?_
 rintro k ⟨da,iQ⟩ s out ⟨g8,g9,g10,g11,g12,fu,h12,rfl,vh⟩ H
 have H:ax.l2 m aJ (k+1) da iQ=some out:=H
 refine qb 5 <| qq ?_
 obtain⟨kN,h13,Hc,vi⟩:=Du vh
 refine qr [.m 0 Hc] <| qq ?_
 obtain⟨x8,Hd,H⟩:=bl H
 obtain⟨yK,h14,IA,D3⟩:=uQ (P:=Try.prog) (E:=af) (z:=(0:Int)) (zv:=.int .i64 (0:Int)) gH vi 3 rfl rfl rfl rfl Hd
 refine qr [.v 0 (show bn Try.prog h13 40 (.ptr aH 0)=some (ah.fz aJ) from bV (q:=2) (cs:=[ah.fz aJ]) vi rfl (by kernel_rfl)),.a 2 IA] <| qq <| qq <| qr [.v 0 (show bn Try.prog h14 40 (.ptr aH 0)=some (ah.fz aJ) from bV (q:=3) (cs:=[ah.fz aJ]) D3 rfl (by kernel_rfl))] <| qb 6 ?_
 obtain⟨KQ,Sc,H⟩:=bl H
 refine ql (ax.D6 L aJ aH fu da iQ fu kN   (([]:List (List Int × Int)),x8,(0:Int)) _ _ ⟨yK,h14,by kernel_rfl,D3⟩ Sc) ?_
 rintro e s ⟨rfl,nk,mr,Ha,rfl,g17,g18,g19,g20,lh,h24,rfl,KV⟩
 try dsimp only at H
 refine qq <| qq <| qr [.v 1 (show qY Try.prog h24 113 (.mp kN)=some (.int .i64 (nk.length:Int)) from HZ (q:=1) (l:=nk) DM KV rfl)] <| qc H (fun c8 H=>?_) (fun c8 H=>?_)
 ·refine q1 ?_
  have Ol:Has h24 ((lh,.sl mr.length 1 (af.l mr))::(kN,.mp (sP nk))::(fu,.sl da.length 1 (af.l da))::L):=Has.del KV 3
  have Om:Has h24 ((lh,.sl mr.length 1 (af.l mr))::(fu,.sl da.length 1 (af.l da))::L):=Has.del Ol 1
  have On:Has h24 ((fu,.sl da.length 1 (af.l da))::L):=Has.del Om 0
  exact qt <| Or.inr (⟨rfl,_,oi H,dz (.rs fu 0 da.length 1) h24 (du (Kk (E:=af) (l:=da) (q:=0) On rfl (fun _=>rfl)))⟩)
 ·refine qk <| qr [.v 2 (show qY Try.prog h24 113 (.mp kN)=some (.int .i64 (nk.length:Int)) from HZ (q:=1) (l:=nk) DM KV rfl)] ?_
  have Oo:Has h24 ((lh,.sl mr.length 1 (af.l mr))::(kN,.mp (sP nk))::(aH,.ob [ah.fz aJ])::L):=Has.del KV 2
  have Ql:Has h24 ((lh,.sl mr.length 1 (af.l mr))::(aH,.ob [ah.fz aJ])::L):=Has.del Oo 1
  exact⟨(mr,i64.wrap ((nk.length:Int) - (1:Int))),⟨.any,.any,.any,.any,.any,lh,h24,by kernel_rfl,Ql⟩,H⟩
theorem oI {aV:FuncId→b4}(ha:aV 72=oH)(D4:LN cf m)(Oq:Qh cf m)(Ot:P8 cf m)(aJ:List ao)(h:AHeap)(L:Mem)  (o:Has h (L)){out:(List Int)}(H:ax.f m aJ=some out) :
  ∃r h',ba Try.prog aV cf m 72 [ah.fz aJ] h=some (r,h')∧fL h' r (af.fz out):=by
 refine ar (fn:=Try.f72) ha Try.func72 (by kernel_rfl) (by kernel_rfl) ?_
 refine aI (Q:=fun s=>ax.fin L out s) (fun _ _ h=>h) ?_
 have H:_=some out:=H
 unfold ax.f at H
 show dt _ cf oH m _ ⟨ah.fz aJ::MX [],[none],h⟩ _
 refine qq ?_
 obtain⟨aH,h0,e0,o0⟩:=gd (cs:=[ah.fz aJ]) o (by kernel_rfl)
 refine qr [.a 0 e0] <| qq ?_
 obtain⟨x0,e1,H⟩:=bl H
 obtain⟨di,h1,e2,o1⟩:=uQ (P:=Try.prog) (E:=af) (z:=(0:Int)) (zv:=.int .i64 (0:Int)) gH o0 3 rfl rfl rfl rfl e1
 refine qr [.v 0 (show bn Try.prog h0 40 (.ptr aH 0)=some (ah.fz aJ) from bV (q:=0) (cs:=[ah.fz aJ]) o0 rfl (by kernel_rfl)),.a 2 e2] <| qq <| qq <| q0 <| qb 0 ?_
 obtain⟨cJ,e5,H⟩:=bl H
 refine ql (ax.dB L aJ aH x0   (x0,(0:Int)) _ _ ⟨di,h1,by kernel_rfl,o1⟩ e5) ?_
 rintro e s ⟨rfl,bU,x2,rfl,g0,g1,g2,dd,h4,rfl,o4⟩
 try dsimp only at H
 refine qq ?_
 obtain⟨x3,e6,H⟩:=bl H
 obtain⟨h5,e7,o5⟩:=Oq _ _ _ e6 h4 _ _ _ (o4) 84 [.ptr aH 0] [.fp [ah.fz aJ] 0] rfl (fun h' sV y0 y1 r hr hx=>Ot y0 y1 _ r hr h' sV hx) (fun h' K' o'=>iA (ai (dV (q:=(K'.length+0)) o' (iW rfl) (ai (fT (E:=ah)) (ay))) (ay))) (fun h_=>iA (ai (gj (pure_cons (bL.bH (E:=ah) (l:=aJ)) (pure_nil))) (ay))) [.rs dd 0 bU.length 1,.fn 84 [.ptr aH 0]] (au (rfl) (au (rfl) (bI)))
 refine qr [.a 2 e7] <| qq ?_
 obtain⟨x4,e8,H⟩:=bl H
 obtain⟨eU,h6,e9,o6⟩:=uQ (P:=Try.prog) (E:=af) (z:=(0:Int)) (zv:=.int .i64 (0:Int)) gH o5 3 rfl rfl rfl rfl e8
 refine qr [.v 0 (show bn Try.prog h5 40 (.ptr aH 0)=some (ah.fz aJ) from bV (q:=1) (cs:=[ah.fz aJ]) o5 rfl (by kernel_rfl)),.a 2 e9] <| qq <| q0 <| qq <| qq <| q0 <| qb 2 ?_
 obtain⟨D5,Hb,H⟩:=bl H
 refine ql (ax.mi L aJ aH dd bU dd x3  D4 (x4,(0:Int),(0:Int)) _ _ ⟨eU,h6,(VB (b:=⟨.any :: .ptr aH 0 :: .any :: .rs dd 0 bU.length 1 :: .any :: .rs eU 0 x4.length 1 :: .int .i64 (0:Int)::qm (.rs dd 0 bU.length 1 :: .int .i64 (bU.length:Int) :: .int .i64 (0:Int)::uV []),[none],h6⟩) (by kernel_rfl) (by simp only [Ul])),(by have o:Has h6 ((eU,.sl x4.length 1 (af.l x4))::(dd,.sl bU.length 1 (af.l x3))::(aH,.ob [ah.fz aJ])::L):=o6; simpa only [Ul] using o)⟩ Hb) ?_
 rintro e s ⟨rfl,mS,many1,x7,rfl,g3,g4,g5,g6,g7,fH,h11,rfl,yN⟩
 try dsimp only at H
 refine qb 4 ?_
 have xN:Has h11 ((fH,.sl mS.length 1 (af.l mS))::(aH,.ob [ah.fz aJ])::L):=Has.del yN 1
 obtain⟨KR,Sd,H⟩:=bl H
 refine ql (ax.si L aJ aH   (mS,many1) _ _ ⟨g3,g4,g5,g6,g7,fH,h11,by kernel_rfl,xN⟩ Sd) ?_
 rintro e s (⟨rfl,N7,KS,rfl,g21,g22,g23,g24,TU,TV,TW,TX,mo,h25,rfl,Ou⟩| ⟨rfl,r3,rfl,yB⟩)
 ·try dsimp only at H
  cases H
 ·try dsimp only at H
  obtain rfl:=oi H
  exact⟨.inl rfl,yB⟩
end
end Go.Proofs.Ytifafejidnjckaa
namespace Go.Proofs.Ytifafejidnjckaa
open Go Go.R
open Go.IntKind (i64 u64 u8 u32)
end Go.Proofs.Ytifafejidnjckaa
namespace Go.Proofs.Ytifafejidnjckaa
open Go Go.R
open Go.IntKind (i64 u64 u8 u32)
def AF:b4:=gK [0,1,2,3,4,5,6] [2,4000005] [121,113,97,65,1,25,91,123] [] [(0,[(2,some 0,4)])]
def eX.f (m:Nat)(t0:bu):Option (bu):=(ax.f m t0.nodes).bind fun x0=>(aW.f m m t0.root ([]:List (Int × Int)) x0 (bu.mk ([]:List ao) (0:Int)) t0).bind fun x1=>some x1.2.2
def eX.fin (L:Mem)  (r:bu)(s:St):Prop:=∃(dI:Nat) (eF:List Nat),aM Try.prog (s.open AF) Try.f46.results.toList=some (.agg [.rs dI 0 r.nodes.length 4,.int .i64 r.root])∧Has s.h ((dI,.sl r.nodes.length 4 (fU.l (bC r.nodes eF)))::(fM r.nodes eF++L))
def Qm (cf:CallF)(m:Nat):Prop:=∀(t0:bu) (r:bu),eX.f m t0=some r→∀h L xs,Has h L→aP bQ h xs [.agg [ah.fz t0.nodes,.int .i64 t0.root]]→∃(dI:Nat) (eF:List Nat) (h':AHeap),cf 46 xs h=some (.agg [.rs dI 0 r.nodes.length 4,.int .i64 r.root],h')∧Has h' ((dI,.sl r.nodes.length 4 (fU.l (bC r.nodes eF)))::(fM r.nodes eF++L))∧∀j,j<h.next→h.ver j=h'.ver j
section
variable {cf:CallF}{m:Nat}
theorem qF {aV:FuncId→b4}(ha:aV 46=AF)(Ov:Qi cf m)(DR:LI cf m m)(t0:bu)(h:AHeap)(L:Mem)  (o:Has h (L)){out:bu}(H:eX.f m t0=some out) :
  ∃r h',ba Try.prog aV cf m 46 [.agg [ah.fz t0.nodes,.int .i64 t0.root]] h=some (r,h')∧∃(dI:Nat) (eF:List Nat),r = .agg [.rs dI 0 out.nodes.length 4,.int .i64 out.root]∧Has h' ((dI,.sl out.nodes.length 4 (fU.l (bC out.nodes eF)))::(fM out.nodes eF++L)):=by
 refine ar (fn:=Try.f46) ha Try.func46 (by kernel_rfl) (by kernel_rfl) ?_
 refine aI (Q:=fun s=>eX.fin L out s) (fun _ _ ⟨h1,dI,eF,h2,h3⟩=>⟨h1,_,h2,dI,eF,rfl,h3⟩) ?_
 have H:_=some out:=H
 unfold eX.f at H
 show dt _ cf AF m _ ⟨.agg [ah.fz t0.nodes,.int .i64 t0.root]::vD [],[none,none],h⟩ _
 refine qq ?_
 obtain⟨aH,h0,e0,o0⟩:=gd (cs:=[ah.fz t0.nodes,.int .i64 t0.root]) o (by kernel_rfl)
 refine qr [.a 0 e0] ?_
 have o1:Has h0 (((0),.sl (([]:List ao).length) 4 (fU.l (bC ([]:List ao) ([]:List Nat))))::(aH,.ob [ah.fz t0.nodes,.int .i64 t0.root])::L):=Has.nil o0 4
 refine qq ?_
 obtain⟨x0,e1,H⟩:=bl H
 obtain⟨di,h1,e2,o2⟩:=gd (cs:=[.nils]) o1 (by kernel_rfl)
 obtain⟨h2,e3,o3⟩:=nh (P:=Try.prog) (t:=33) (off:=0) (q:=0) (cs:=[.nils]) (eO:=[af.fz x0]) (x:=af.fz x0) o2 rfl (by kernel_rfl)
 refine qr [.v 1 (show bn Try.prog h0 40 (.ptr aH 0)=some (ah.fz t0.nodes) from bV (q:=1) (cs:=[ah.fz t0.nodes,.int .i64 t0.root]) o1 rfl (by kernel_rfl)),.a 2 (Ov _ _ e1 h0 _ (gm (ai (fT (E:=ah)) (ay)))),.a 3 e2,.w 4 e3] <| qq ?_
 obtain⟨ez,h3,e4,o4⟩:=Du o3
 obtain⟨dd,h4,e5,o5⟩:=gd (cs:=[.lC]) o4 (by kernel_rfl)
 obtain⟨h5,e6,o6⟩:=nh (P:=Try.prog) (t:=82) (off:=0) (q:=0) (cs:=[.lC]) (eO:=[.mp ez]) (x:=.mp ez) o5 rfl (by kernel_rfl)
 refine qr [.m 0 e4,.a 1 e5,.w 2 e6] <| qq ?_
 have o7:Has h5 ((((0)),.sl (([]:List ao).length) 4 (ah.l ([]:List ao)))::(dd,.ob [.mp ez])::(ez,.mp (ou ([]:List (Int × Int))))::(di,.ob [af.fz x0])::((0),.sl (([]:List ao).length) 4 (fU.l (bC ([]:List ao) ([]:List Nat))))::(aH,.ob [ah.fz t0.nodes,.int .i64 t0.root])::L):=Has.nil o6 4
 obtain⟨eU,h6,e7,o8⟩:=gd (cs:=[.rs ((0)) 0 (([]:List ao).length) 4,.int .i64 (0:Int)]) o7 (by kernel_rfl)
 refine qr [.a 0 e7] <| qq ?_
 obtain⟨fX,h7,e8,o9⟩:=gd (cs:=[.nL]) o8 (by kernel_rfl)
 refine qr [.a 0 e8] <| qq ?_
 obtain⟨h8,e9,vF⟩:=nh (P:=Try.prog) (t:=80) (off:=0) (q:=0) (cs:=[.nL]) (eO:=[.fn 73 [.ptr dd 0,.ptr di 0,.ptr eU 0,.ptr aH 0,.ptr fX 0]]) (x:=.fn 73 [.ptr dd 0,.ptr di 0,.ptr eU 0,.ptr aH 0,.ptr fX 0]) o9 rfl (by kernel_rfl)
 refine qr [.w 1 e9] <| qq ?_
 obtain⟨x1,sF,H⟩:=bl H
 obtain⟨fH,eF,h9,w6,yN⟩:=DR _ _ _ _ _ _ sF h8 _ _ _ _ _ _ ([]:List Nat) _ _ ((Has.front (Has.front (Has.front (Has.front (Has.front (Has.front (Has.front (Has.front vF 6 rfl) 1 rfl) 7 rfl) 4 rfl) 4 rfl) 7 rfl) 7 rfl) 7 rfl))  [.int .i64 t0.root,.ptr dd 0,.ptr di 0,.ptr eU 0,.ptr aH 0,.ptr fX 0] (au (aN (bf)) (au (rfl) (au (rfl) (au (rfl) (au (rfl) (au (rfl) (bI)))))))
 have xN:=Has.wV (pre:=[(dd,.ob [.mp ez]),(ez,.mp (ou x1.2.1)),(di,.ob [af.fz x0]),(eU,.ob [.rs fH 0 x1.2.2.nodes.length 4,.int .i64 x1.2.2.root]),(fH,.sl x1.2.2.nodes.length 4 (fU.l (bC x1.2.2.nodes eF))),(aH,.ob [ah.fz t0.nodes,.int .i64 t0.root]),(fX,.ob [.fn 73 [.ptr dd 0,.ptr di 0,.ptr eU 0,.ptr aH 0,.ptr fX 0]])]) (N:=[((0),.sl (([]:List ao).length) 4 (fU.l (bC ([]:List ao) ([]:List Nat))))]) (mid:=fM x1.2.2.nodes eF) yN
 refine qr [.v 0 (show bn Try.prog h8 80 (.ptr fX 0)=some (.fn 73 [.ptr dd 0,.ptr di 0,.ptr eU 0,.ptr aH 0,.ptr fX 0]) from bV (q:=0) (cs:=[.fn 73 [.ptr dd 0,.ptr di 0,.ptr eU 0,.ptr aH 0,.ptr fX 0]]) vF rfl (by kernel_rfl)),.v 2 (show bn Try.prog h8 3 (.ptr aH 1)=some (.int .i64 t0.root) from bV (q:=7) (cs:=[ah.fz t0.nodes,.int .i64 t0.root]) vF rfl (by kernel_rfl)),.a 3 w6] ?_
 have vh:Has h9 ((dd,.ob [.mp ez])::(ez,.mp (ou x1.2.1))::(di,.ob [af.fz x0])::(eU,.ob [.rs fH 0 x1.2.2.nodes.length 4,.int .i64 x1.2.2.root])::(fH,.sl x1.2.2.nodes.length 4 (fU.l (bC x1.2.2.nodes eF)))::(aH,.ob [ah.fz t0.nodes,.int .i64 t0.root])::((0),.sl (([]:List ao).length) 4 (fU.l (bC ([]:List ao) ([]:List Nat))))::(fM x1.2.2.nodes eF++L)):=Has.del xN 6
 have vi:Has h9 ((dd,.ob [.mp ez])::(ez,.mp (ou x1.2.1))::(di,.ob [af.fz x0])::(eU,.ob [.rs fH 0 x1.2.2.nodes.length 4,.int .i64 x1.2.2.root])::(fH,.sl x1.2.2.nodes.length 4 (fU.l (bC x1.2.2.nodes eF)))::((0),.sl (([]:List ao).length) 4 (fU.l (bC ([]:List ao) ([]:List Nat))))::(fM x1.2.2.nodes eF++L)):=Has.del vh 5
 have D3:Has h9 ((dd,.ob [.mp ez])::(ez,.mp (ou x1.2.1))::(eU,.ob [.rs fH 0 x1.2.2.nodes.length 4,.int .i64 x1.2.2.root])::(fH,.sl x1.2.2.nodes.length 4 (fU.l (bC x1.2.2.nodes eF)))::((0),.sl (([]:List ao).length) 4 (fU.l (bC ([]:List ao) ([]:List Nat))))::(fM x1.2.2.nodes eF++L)):=Has.del vi 2
 have yP:Has h9 ((dd,.ob [.mp ez])::(eU,.ob [.rs fH 0 x1.2.2.nodes.length 4,.int .i64 x1.2.2.root])::(fH,.sl x1.2.2.nodes.length 4 (fU.l (bC x1.2.2.nodes eF)))::((0),.sl (([]:List ao).length) 4 (fU.l (bC ([]:List ao) ([]:List Nat))))::(fM x1.2.2.nodes eF++L)):=Has.del D3 1
 have D8:Has h9 ((eU,.ob [.rs fH 0 x1.2.2.nodes.length 4,.int .i64 x1.2.2.root])::(fH,.sl x1.2.2.nodes.length 4 (fU.l (bC x1.2.2.nodes eF)))::((0),.sl (([]:List ao).length) 4 (fU.l (bC ([]:List ao) ([]:List Nat))))::(fM x1.2.2.nodes eF++L)):=Has.del yP 0
 refine qs [.v 0 (show bn Try.prog h9 42 (.ptr eU 0)=some (.agg [.rs fH 0 x1.2.2.nodes.length 4,.int .i64 x1.2.2.root]) from bV (q:=0) (cs:=[.rs fH 0 x1.2.2.nodes.length 4,.int .i64 x1.2.2.root]) D8 rfl (by kernel_rfl))] ?_
 have Cy:Has h9 ((eU,.ob [.rs fH 0 x1.2.2.nodes.length 4,.int .i64 x1.2.2.root])::(fH,.sl x1.2.2.nodes.length 4 (fU.l (bC x1.2.2.nodes eF)))::(fM x1.2.2.nodes eF++L)):=Has.del D8 2
 have BZ:Has h9 ((fH,.sl x1.2.2.nodes.length 4 (fU.l (bC x1.2.2.nodes eF)))::(fM x1.2.2.nodes eF++L)):=Has.del Cy 0
 obtain rfl:=oi H
 exact qt <| ⟨.inl rfl,⟨fH,eF,by kernel_rfl,he BZ⟩⟩
end
end Go.Proofs.Ytifafejidnjckaa
namespace Go.Proofs.Ytifafejidnjckaa
open Go Go.R
open Go.IntKind (i64 u64 u8 u32)
def AG:b4:=gK [0,1,2,3,6] [1,2] [25,9,19,19] [] [(0,[(2,some 0,4)]),(2,[(2,some 0,4)])]
def fK.f (m:Nat)(t0:bu):Option (bu × Int):=(gB.f m t0).bind fun x0=>if (!x0)=true then (some ((bu.mk ([]:List ao) (0:Int)),(2:Int))) else ((eX.f m t0).bind fun x1=>some (x1,(0:Int)))
def fK.fin (L:Mem)  (r:bu × Int)(s:St):Prop:=∃(dI:Nat) (eF:List Nat),aM Try.prog (s.open AG) Try.f43.results.toList=some (.tup [.agg [.rs dI 0 r.1.nodes.length 4,.int .i64 r.1.root],.int .i64 r.2])∧Has s.h ((dI,.sl r.1.nodes.length 4 (fU.l (bC r.1.nodes eF)))::(fM r.1.nodes eF++L))
def Qn (cf:CallF)(m:Nat):Prop:=∀(t0:bu) (r:bu × Int),fK.f m t0=some r→∀h L xs,Has h L→aP bQ h xs [.agg [ah.fz t0.nodes,.int .i64 t0.root]]→∃(dI:Nat) (eF:List Nat) (h':AHeap),cf 43 xs h=some (.tup [.agg [.rs dI 0 r.1.nodes.length 4,.int .i64 r.1.root],.int .i64 r.2],h')∧Has h' ((dI,.sl r.1.nodes.length 4 (fU.l (bC r.1.nodes eF)))::(fM r.1.nodes eF++L))∧∀j,j<h.next→h.ver j=h'.ver j
section
variable {cf:CallF}{m:Nat}
theorem qG {aV:FuncId→b4}(ha:aV 43=AG)(Ow:Qg cf m)(Ox:Qm cf m)(t0:bu)(h:AHeap)(L:Mem)  (o:Has h (L)){out:bu × Int}(H:fK.f m t0=some out) :
  ∃r h',ba Try.prog aV cf m 43 [.agg [ah.fz t0.nodes,.int .i64 t0.root]] h=some (r,h')∧∃(dI:Nat) (eF:List Nat),r = .tup [.agg [.rs dI 0 out.1.nodes.length 4,.int .i64 out.1.root],.int .i64 out.2]∧Has h' ((dI,.sl out.1.nodes.length 4 (fU.l (bC out.1.nodes eF)))::(fM out.1.nodes eF++L)):=by
 refine ar (fn:=Try.f43) ha Try.func43 (by kernel_rfl) (by kernel_rfl) ?_
 refine aI (Q:=fun s=>fK.fin L out s) (fun _ _ ⟨h1,dI,eF,h2,h3⟩=>⟨h1,_,h2,dI,eF,rfl,h3⟩) ?_
 have H:_=some out:=H
 unfold fK.f at H
 show dt _ cf AG m _ ⟨.agg [ah.fz t0.nodes,.int .i64 t0.root]::nK [],[none,none],h⟩ _
 refine q1 ?_
 have o0:Has h (((0),.sl (([]:List ao).length) 4 (fU.l (bC ([]:List ao) ([]:List Nat))))::L):=Has.nil o 4
 refine qq <| qq ?_
 obtain⟨x0,e0,H⟩:=bl H
 refine qr [.a 1 (Ow _ _ e0 h _ (gm (ai (jB (ai (fT (E:=ah)) (ai (br) (ay)))) (ay))))] <| qc H (fun c0 H=>?_) (fun c0 H=>?_)
 ·refine q1 ?_
  have o1:Has h ((((0)),.sl (([]:List ao).length) 4 (fU.l (bC ([]:List ao) ([]:List Nat))))::((0),.sl (([]:List ao).length) 4 (fU.l (bC ([]:List ao) ([]:List Nat))))::L):=Has.nil o0 4
  have o2:Has h ((((0)),.sl (([]:List ao).length) 4 (fU.l (bC ([]:List ao) ([]:List Nat))))::L):=Has.del o1 1
  obtain rfl:=oi H
  exact qt <| ⟨.inl rfl,⟨((0)),([]:List Nat),by kernel_rfl,he o2⟩⟩
 ·refine qk <| qq ?_
  obtain⟨x1,e1,H⟩:=bl H
  obtain⟨aH,cr,h0,e2,o3,Fp⟩:=Ox _ _ e1 h _ _ o0 (gm (ai (jB (ai (fT (E:=ah)) (ai (br) (ay)))) (ay)))
  have o4:=Has.wV (pre:=[(aH,.sl x1.nodes.length 4 (fU.l (bC x1.nodes cr)))]) (N:=[((0),.sl (([]:List ao).length) 4 (fU.l (bC ([]:List ao) ([]:List Nat))))]) (mid:=fM x1.nodes cr) o3
  refine qr [.a 1 e2] ?_
  have o5:Has h0 ((aH,.sl x1.nodes.length 4 (fU.l (bC x1.nodes cr)))::(fM x1.nodes cr++L)):=Has.del o4 1
  obtain rfl:=oi H
  exact qt <| ⟨.inl rfl,⟨aH,cr,by kernel_rfl,he o5⟩⟩
end
end Go.Proofs.Ytifafejidnjckaa
namespace Go.Proofs.Ytifafejidnjckaa
open Go Go.R
open Go.IntKind (i64 u64 u8 u32)
end Go.Proofs.Ytifafejidnjckaa
namespace Go.Proofs.Ytifafejidnjckaa
open Go Go.R
open Go.IntKind (i64 u64 u8 u32)
def sm:b4:=gK [0,1,3,4,5,6,7,8,9,10,11,14,21,33,35,36,37,38,44,51,52,53] [3,6,10] [4194298,4192250,4194279,4194206,4190110,4194279,4194142,4185950,4194279,4079486,3948414,4078718,3816574,4078718,2505854,408702,2504830,2505854,2505854,4079486,4079486,4194279] [(19,[(10,some 3,0)])] [(3,[(6,some 0,4)]),(11,[(10,some 3,1)])]
def aA.l1 (m:Nat)(s0:ab)(v0:ao):Nat→Int→(List Int)→ab→Option (Int × (List Int) × ab)
 | 0,_,_,_=>none
 | k+1,x3,n0,s2=>if (decide (x3<(v0.args.length:Int)))=true then ((ix n0 x3).bind fun v1=>(ix n0 x3).bind fun v2=>aA.l1 m s0 v0 k (i64.wrap (x3+(1:Int))) (n0.set x3.toNat (i64.wrap (v1+(s0.aa.length:Int)))) s2) else (some ((x3,n0,s2)))
def aA.l2 (m:Nat)(s0:ab)(v0:ao):Nat→Int→(List Int)→ab→Option (Int × (List Int) × ab)
 | 0,_,_,_=>none
 | k+1,x7,n2,s4=>if (decide (x7<(v0.args.length:Int)))=true then ((ix n2 x7).bind fun v3=>(ix n2 x7).bind fun v4=>aA.l2 m s0 v0 k (i64.wrap (x7+(1:Int))) (n2.set x7.toNat (i64.wrap (v3+(s0.aa.length:Int)))) s4) else (some ((x7,n2,s4)))
def aA.l0 (m:Nat)(s0:ab)(x1:bu × Int):Nat→Int→ab→Option (Int × ab)
 | 0,_,_=>none
 | k+1,x2,s1=>if (decide (x2<(x1.1.nodes.length:Int)))=true then ((ix x1.1.nodes x2).bind fun v0=>if (v0.kind==(0:Int))=true then ((aA.l1 m s0 v0 m (0:Int) v0.args s1).bind fun cJ=>match cJ with | (x4,n1,s3)=>(app 56 s3.aa ([(ao.mk v0.kind (i64.wrap ((s0.aa.length:Int)+x2)) v0.label n1)])).bind fun x5=>(app 8 s3.ae ([i64.wrap ((s0.aa.length:Int)+x2)])).bind fun x6=>aA.l0 m s0 x1 k (i64.wrap (x2+(1:Int))) (ab.mk s3.aj x5 x6)) else ((aA.l2 m s0 v0 m (0:Int) v0.args s1).bind fun dE=>match dE with | (x8,n3,s5)=>(app 56 s5.aa ([(ao.mk v0.kind v0.int v0.label n3)])).bind fun x9=>(app 8 s5.ae ([i64.wrap ((s0.aa.length:Int)+x2)])).bind fun kM=>aA.l0 m s0 x1 k (i64.wrap (x2+(1:Int))) (ab.mk s5.aj x9 kM))) else (some ((x2,s1)))
def aA.f (m:Nat)(s0:ab)(t0:bu):Option (Int × Int × ab):=(bK.f m s0).bind fun x0=>if (!x0)=true then (some ((0:Int),(6:Int),s0)) else ((fK.f m t0).bind fun x1=>if (!(x1.2==(0:Int)))=true then (some ((0:Int),x1.2,s0)) else (if (decide ((i64.wrap ((s0.aa.length:Int)+(x1.1.nodes.length:Int))) > (8000:Int)))=true then (some ((0:Int),(7:Int),s0)) else ((aA.l0 m s0 x1 m (0:Int) s0).bind fun mS=>match mS with | (DQ,s6)=>some ((s0.aa.length:Int),(0:Int),s6))))
def aA.fin (L:Mem)(aq:Nat)(ak:Nat)(an:Nat)(s0:ab)(t0:bu)(r:Int × Int × ab)(s:St):Prop:=∃aB aC:Nat,aM Try.prog (s.open sm) Try.f36.results.toList=some (.tup [.int .i64 r.1,.int .i64 r.2.1])∧Has s.h ((aq,.ob [.bool r.2.2.aj,.rs aB 0 r.2.2.aa.length 4,.rs aC 0 r.2.2.ae.length 1])::(aB,.sl r.2.2.aa.length 4 (ah.l r.2.2.aa))::(aC,.sl r.2.2.ae.length 1 (af.l r.2.2.ae))::L)
def Qo (cf:CallF)(m:Nat):Prop:=∀(s0:ab) (t0:bu) (r:Int × Int × ab),aA.f m s0 t0=some r→∀h L (aq:Nat) (ak:Nat) (an:Nat),Has h ((aq,.ob [.bool s0.aj,.rs ak 0 s0.aa.length 4,.rs an 0 s0.ae.length 1])::(ak,.sl s0.aa.length 4 (ah.l s0.aa))::(an,.sl s0.ae.length 1 (af.l s0.ae))::L)→∀xs,xs.map aK=[.ptr aq 0,.agg [ah.fz t0.nodes,.int .i64 t0.root]]→∃aB aC h',cf 36 xs h=some (.tup [.int .i64 r.1,.int .i64 r.2.1],h')∧Has h' ((aq,.ob [.bool r.2.2.aj,.rs aB 0 r.2.2.aa.length 4,.rs aC 0 r.2.2.ae.length 1])::(aB,.sl r.2.2.aa.length 4 (ah.l r.2.2.aa))::(aC,.sl r.2.2.ae.length 1 (af.l r.2.2.ae))::L)
section
variable {cf:CallF}{m:Nat}
theorem aA.mi (L:Mem)(aq:Nat)(ak:Nat)(an:Nat)(s0:ab)(t0:bu)(x1:bu × Int)(aH:Nat)(cr:List Nat)(x2:Int)(v0:ao)   : dU Try.prog cf sm m (sub [1,1,1,1,1,1,0,1,0,0,1,1,0,0,1,1,0,1,0,0] (b6 Try.f36)) (fun k (σ:Int × (List Int) × ab)=>aA.l1 m s0 v0 k σ.1 σ.2.1 σ.2.2) (fun σ s=>match σ with | (x3,n0,s2)=>∃dd eU fX h2,s=⟨.ptr aq 0::vD (.int .i64 (s0.aa.length:Int) :: .int .i64 x2 :: .lp 10 0::nK [.rs aH 0 x1.1.nodes.length 4,.int .i64 (x1.1.nodes.length:Int),.int .i64 x2,.any,.any,.int .i64 (v0.args.length:Int),.int .i64 x3,.any]),[none,none,some [.int .i64 v0.kind,.int .i64 (i64.wrap ((s0.aa.length:Int)+x2)),.str v0.label,.rs dd 0 n0.length 1]],h2⟩∧Has h2 ((dd,.sl n0.length 1 (af.l n0))::(aH,.sl x1.1.nodes.length 4 (fU.l (bC x1.1.nodes cr)))::(aq,.ob [.bool s2.aj,.rs eU 0 s2.aa.length 4,.rs fX 0 s2.ae.length 1])::(eU,.sl s2.aa.length 4 (ah.l s2.aa))::(fX,.sl s2.ae.length 1 (af.l s2.ae))::(fM (x1.1.nodes.drop ((i64.wrap (x2+(1:Int))).toNat)) (cr.drop ((i64.wrap (x2+(1:Int))).toNat))++L))) (fun out e s=>(e = .exit 2∧∃x3 n0 s2,(x3,n0,s2)=out∧∃IQ IS DS dd eU fX h2,s=⟨.ptr aq 0::vD (.int .i64 (s0.aa.length:Int) :: .int .i64 x2 :: .lp 10 0::nK [.rs aH 0 x1.1.nodes.length 4,.int .i64 (x1.1.nodes.length:Int),.int .i64 x2,.any,.any,IQ,IS,DS]),[none,none,some [.int .i64 v0.kind,.int .i64 (i64.wrap ((s0.aa.length:Int)+x2)),.str v0.label,.rs dd 0 n0.length 1]],h2⟩∧Has h2 ((dd,.sl n0.length 1 (af.l n0))::(aH,.sl x1.1.nodes.length 4 (fU.l (bC x1.1.nodes cr)))::(aq,.ob [.bool s2.aj,.rs eU 0 s2.aa.length 4,.rs fX 0 s2.ae.length 1])::(eU,.sl s2.aa.length 4 (ah.l s2.aa))::(fX,.sl s2.ae.length 1 (af.l s2.ae))::(fM (x1.1.nodes.drop ((i64.wrap (x2+(1:Int))).toNat)) (cr.drop ((i64.wrap (x2+(1:Int))).toNat))++L)))):=by
 refine mK (fun _=>rfl) ?_
 rintro k ⟨x3,n0,s2⟩ s out ⟨dd,eU,fX,h2,rfl,o6⟩ H
 have H:aA.l1 m s0 v0 (k+1) x3 n0 s2=some out:=H
 refine q1 <| qq <| qc H (fun c5 H=>?_) (fun c5 H=>?_)
 ·refine qk <| qq <| qb 3 <| qq <| q0 ?_
  obtain⟨v1,e4,H⟩:=bl H
  obtain⟨v2,e5,H⟩:=bl H
  obtain⟨h3,e6,o7⟩:=eV (P:=Try.prog) (tf:=3) (E:=af) (l:=n0) (q:=0) (v:=(i64.wrap (v1+(s0.aa.length:Int)))) (x:=.int .i64 (i64.wrap (v1+(s0.aa.length:Int)))) o6 rfl Z3 e5 rfl rfl
  exact qr [.v 3 (bj (k:=.i64) (E:=af) (l:=n0) (q:=0) gH o6 rfl e4),.v 4 (dr  (E:=af) (l:=n0) (q:=0) o6 rfl A3 e4 rfl),.v 7 (bj (k:=.i64) (E:=af) (l:=n0) (q:=0) gH o6 rfl e5),.w 8 e6] <| q0 <| ⟨(i64.wrap (x3+(1:Int)),n0.set x3.toNat (i64.wrap (v1+(s0.aa.length:Int))),s2),⟨dd,eU,fX,h3,(VB (b:=⟨.ptr aq 0::vD (.int .i64 (s0.aa.length:Int) :: .int .i64 x2 :: .lp 10 0::nK [.rs aH 0 x1.1.nodes.length 4,.int .i64 (x1.1.nodes.length:Int),.int .i64 x2,.any,.any,.int .i64 (v0.args.length:Int),.int .i64 (i64.wrap (x3+(1:Int))),.any]),[none,none,some [.int .i64 v0.kind,.int .i64 (i64.wrap ((s0.aa.length:Int)+x2)),.str v0.label,.rs dd 0 n0.length 1]],h3⟩) (by kernel_rfl) (by simp only [Ul])),(by have o:Has h3 ((dd,.sl n0.length 1 (af.l (n0.set x3.toNat (i64.wrap (v1+(s0.aa.length:Int))))))::(aH,.sl x1.1.nodes.length 4 (fU.l (bC x1.1.nodes cr)))::(aq,.ob [.bool s2.aj,.rs eU 0 s2.aa.length 4,.rs fX 0 s2.ae.length 1])::(eU,.sl s2.aa.length 4 (ah.l s2.aa))::(fX,.sl s2.ae.length 1 (af.l s2.ae))::(fM (x1.1.nodes.drop ((i64.wrap (x2+(1:Int))).toNat)) (cr.drop ((i64.wrap (x2+(1:Int))).toNat))++L)):=o7; simpa only [Ul] using o)⟩,H⟩
 ·exact qx 2 <| ⟨rfl,x3,n0,s2,oi H,.int .i64 (v0.args.length:Int),.int .i64 x3,.bool (decide (x3<(v0.args.length:Int))),dd,eU,fX,h2,by kernel_rfl,o6⟩
theorem aA.si (L:Mem)(aq:Nat)(ak:Nat)(an:Nat)(s0:ab)(t0:bu)(x1:bu × Int)(aH:Nat)(cr:List Nat)(x2:Int)(v0:ao)   : dU Try.prog cf sm m (sub [1,1,1,1,1,1,0,1,0,0,1,1,0,0,1,1,0,1,0,0] (b6 Try.f36)) (fun k (σ:Int × (List Int) × ab)=>aA.l2 m s0 v0 k σ.1 σ.2.1 σ.2.2) (fun σ s=>match σ with | (x7,n2,s4)=>∃jc lh mo h10,s=⟨.ptr aq 0::vD (.int .i64 (s0.aa.length:Int) :: .int .i64 x2 :: .lp 10 0::nK [.rs aH 0 x1.1.nodes.length 4,.int .i64 (x1.1.nodes.length:Int),.int .i64 x2,.any,.any,.int .i64 (v0.args.length:Int),.int .i64 x7,.any]),[none,none,some [.int .i64 v0.kind,.int .i64 v0.int,.str v0.label,.rs jc 0 n2.length 1]],h10⟩∧Has h10 ((jc,.sl n2.length 1 (af.l n2))::(aH,.sl x1.1.nodes.length 4 (fU.l (bC x1.1.nodes cr)))::(aq,.ob [.bool s4.aj,.rs lh 0 s4.aa.length 4,.rs mo 0 s4.ae.length 1])::(lh,.sl s4.aa.length 4 (ah.l s4.aa))::(mo,.sl s4.ae.length 1 (af.l s4.ae))::(fM (x1.1.nodes.drop ((i64.wrap (x2+(1:Int))).toNat)) (cr.drop ((i64.wrap (x2+(1:Int))).toNat))++L))) (fun out e s=>(e = .exit 2∧∃x7 n2 s4,(x7,n2,s4)=out∧∃IQ IS DS jc lh mo h10,s=⟨.ptr aq 0::vD (.int .i64 (s0.aa.length:Int) :: .int .i64 x2 :: .lp 10 0::nK [.rs aH 0 x1.1.nodes.length 4,.int .i64 (x1.1.nodes.length:Int),.int .i64 x2,.any,.any,IQ,IS,DS]),[none,none,some [.int .i64 v0.kind,.int .i64 v0.int,.str v0.label,.rs jc 0 n2.length 1]],h10⟩∧Has h10 ((jc,.sl n2.length 1 (af.l n2))::(aH,.sl x1.1.nodes.length 4 (fU.l (bC x1.1.nodes cr)))::(aq,.ob [.bool s4.aj,.rs lh 0 s4.aa.length 4,.rs mo 0 s4.ae.length 1])::(lh,.sl s4.aa.length 4 (ah.l s4.aa))::(mo,.sl s4.ae.length 1 (af.l s4.ae))::(fM (x1.1.nodes.drop ((i64.wrap (x2+(1:Int))).toNat)) (cr.drop ((i64.wrap (x2+(1:Int))).toNat))++L)))):=by
 refine mK (fun _=>rfl) ?_
 rintro k ⟨x7,n2,s4⟩ s out ⟨jc,lh,mo,h10,rfl,vi⟩ H
 have H:aA.l2 m s0 v0 (k+1) x7 n2 s4=some out:=H
 refine q1 <| qq <| qc H (fun c6 H=>?_) (fun c6 H=>?_)
 ·refine qk <| qq <| qb 3 <| qq <| q0 ?_
  obtain⟨v3,Al,H⟩:=bl H
  obtain⟨v4,D1,H⟩:=bl H
  obtain⟨h11,Gf,D3⟩:=eV (P:=Try.prog) (tf:=3) (E:=af) (l:=n2) (q:=0) (v:=(i64.wrap (v3+(s0.aa.length:Int)))) (x:=.int .i64 (i64.wrap (v3+(s0.aa.length:Int)))) vi rfl Z3 D1 rfl rfl
  exact qr [.v 3 (bj (k:=.i64) (E:=af) (l:=n2) (q:=0) gH vi rfl Al),.v 4 (dr  (E:=af) (l:=n2) (q:=0) vi rfl A3 Al rfl),.v 7 (bj (k:=.i64) (E:=af) (l:=n2) (q:=0) gH vi rfl D1),.w 8 Gf] <| q0 <| ⟨(i64.wrap (x7+(1:Int)),n2.set x7.toNat (i64.wrap (v3+(s0.aa.length:Int))),s4),⟨jc,lh,mo,h11,(VB (b:=⟨.ptr aq 0::vD (.int .i64 (s0.aa.length:Int) :: .int .i64 x2 :: .lp 10 0::nK [.rs aH 0 x1.1.nodes.length 4,.int .i64 (x1.1.nodes.length:Int),.int .i64 x2,.any,.any,.int .i64 (v0.args.length:Int),.int .i64 (i64.wrap (x7+(1:Int))),.any]),[none,none,some [.int .i64 v0.kind,.int .i64 v0.int,.str v0.label,.rs jc 0 n2.length 1]],h11⟩) (by kernel_rfl) (by simp only [Ul])),(by have o:Has h11 ((jc,.sl n2.length 1 (af.l (n2.set x7.toNat (i64.wrap (v3+(s0.aa.length:Int))))))::(aH,.sl x1.1.nodes.length 4 (fU.l (bC x1.1.nodes cr)))::(aq,.ob [.bool s4.aj,.rs lh 0 s4.aa.length 4,.rs mo 0 s4.ae.length 1])::(lh,.sl s4.aa.length 4 (ah.l s4.aa))::(mo,.sl s4.ae.length 1 (af.l s4.ae))::(fM (x1.1.nodes.drop ((i64.wrap (x2+(1:Int))).toNat)) (cr.drop ((i64.wrap (x2+(1:Int))).toNat))++L)):=D3; simpa only [Ul] using o)⟩,H⟩
 ·exact qx 2 <| ⟨rfl,x7,n2,s4,oi H,.int .i64 (v0.args.length:Int),.int .i64 x7,.bool (decide (x7<(v0.args.length:Int))),jc,lh,mo,h10,by kernel_rfl,vi⟩
theorem aA.dB (L:Mem)(aq:Nat)(ak:Nat)(an:Nat)(s0:ab)(t0:bu)(x1:bu × Int)(aH:Nat)(cr:List Nat)   : dU Try.prog cf sm m (sub [1,1,1,1,1,1,0,1,0,0] (b6 Try.f36)) (fun k (σ:Int × ab)=>aA.l0 m s0 x1 k σ.1 σ.2) (fun σ s=>match σ with | (x2,s1)=>∃di ez h1,s=⟨.ptr aq 0::vD (.int .i64 (s0.aa.length:Int)::vD (.rs aH 0 x1.1.nodes.length 4 :: .int .i64 (x1.1.nodes.length:Int) :: .int .i64 x2::FU [])),[none,none,none],h1⟩∧Has h1 ((aH,.sl x1.1.nodes.length 4 (fU.l (bC x1.1.nodes cr)))::(aq,.ob [.bool s1.aj,.rs di 0 s1.aa.length 4,.rs ez 0 s1.ae.length 1])::(di,.sl s1.aa.length 4 (ah.l s1.aa))::(ez,.sl s1.ae.length 1 (af.l s1.ae))::(fM (x1.1.nodes.drop x2.toNat) (cr.drop x2.toNat)++L))) (fun out e s=>(e = .exit 0∧∃x2 s1,(x2,s1)=out∧∃po IL Oy Eb Ec di ez h1,s=⟨po::vD (.int .i64 (s0.aa.length:Int)::vD (IL::Oy::Eb::Ec::nK [])),[none,none,none],h1⟩∧Has h1 ((aH,.sl x1.1.nodes.length 4 (fU.l (bC x1.1.nodes cr)))::(aq,.ob [.bool s1.aj,.rs di 0 s1.aa.length 4,.rs ez 0 s1.ae.length 1])::(di,.sl s1.aa.length 4 (ah.l s1.aa))::(ez,.sl s1.ae.length 1 (af.l s1.ae))::(fM (x1.1.nodes.drop x2.toNat) (cr.drop x2.toNat)++L)))):=by
 refine mK (fun _=>rfl) ?_
 rintro k ⟨x2,s1⟩ s out ⟨di,ez,h1,rfl,o4⟩ H
 have H:aA.l0 m s0 x1 (k+1) x2 s1=some out:=H
 refine q1 <| qq <| qc H (fun c3 H=>?_) (fun c3 H=>?_)
 ·refine qk <| qq <| qb 1 <| qq ?_
  obtain⟨v0,e3,H⟩:=bl H
  have o5:=DJ (pre:=[(aH,.sl x1.1.nodes.length 4 (fU.l (bC x1.1.nodes cr))),(aq,.ob [.bool s1.aj,.rs di 0 s1.aa.length 4,.rs ez 0 s1.ae.length 1]),(di,.sl s1.aa.length 4 (ah.l s1.aa)),(ez,.sl s1.ae.length 1 (af.l s1.ae))]) (q:=0) (ns:=x1.1.nodes) (ids:=cr) o4 rfl e3
  refine qr [.v 1 (bj (k:=.i64) (E:=fU) (l:=(bC x1.1.nodes cr)) (q:=0) wW o4 rfl (qU e3)),.v 2 (uR  (E:=fU) (l:=(bC x1.1.nodes cr)) (q:=0) o4 rfl DK DL (qU e3))] <| qq <| qq <| q0 <| qc H (fun c4 H=>?_) (fun c4 H=>?_)
  ·refine q0 <| qq <| qq <| q0 <| qb 2 ?_
   obtain⟨cJ,e7,H⟩:=bl H
   refine ql (aA.mi L aq ak an s0 t0 x1 aH cr x2 v0   ((0:Int),v0.args,s1) _ _ ⟨(Jt cr x2),di,ez,h1,by kernel_rfl,o5⟩ e7) ?_
   rintro e s ⟨rfl,x4,n1,s3,rfl,g0,g1,g2,fH,fu,kN,h4,rfl,o8⟩
   try dsimp only at H
   obtain⟨h5,e8,o9⟩:=rO (E:=af) (l:=n1) (q:=0) o8 rfl
   obtain⟨x5,e9,H⟩:=bl H
   obtain⟨yK,h6,sF,vF⟩:=iV (P:=Try.prog) (E:=ah) (l:=s3.aa) (q:=2) (t2:=40) (x:=.fz [.int .i64 v0.kind,.int .i64 (i64.wrap ((s0.aa.length:Int)+x2)),.str v0.label,af.fz n1] 1 true) (l2:=([(ao.mk v0.kind (i64.wrap ((s0.aa.length:Int)+x2)) v0.label n1)])) wW o9 rfl (by kernel_rfl) rfl e9
   obtain⟨x6,w6,H⟩:=bl H
   obtain⟨gL,h7,yD,yN⟩:=iV (P:=Try.prog) (E:=af) (l:=s3.ae) (q:=3) (t2:=33) (x:=.fz [.int .i64 (i64.wrap ((s0.aa.length:Int)+x2))] 1 true) (l2:=([i64.wrap ((s0.aa.length:Int)+x2)])) gH vF rfl (by kernel_rfl) rfl w6
   obtain⟨h8,yE,xN⟩:=nh (P:=Try.prog) (t:=40) (off:=1) (q:=1) (cs:=[.bool s3.aj,.rs fu 0 s3.aa.length 4,.rs kN 0 s3.ae.length 1]) (eO:=[.bool s3.aj,.rs yK 0 x5.length 4,.rs kN 0 s3.ae.length 1]) (x:=.rs yK 0 x5.length 4) yN rfl (by kernel_rfl)
   obtain⟨h9,BU,vh⟩:=nh (P:=Try.prog) (t:=33) (off:=2) (q:=1) (cs:=[.bool s3.aj,.rs yK 0 x5.length 4,.rs kN 0 s3.ae.length 1]) (eO:=[.bool s3.aj,.rs yK 0 x5.length 4,.rs gL 0 x6.length 1]) (x:=.rs gL 0 x6.length 1) xN rfl (by kernel_rfl)
   exact Ku [.a 0 e8] [.v 5 (show bn Try.prog h5 40 (.ptr aq 1)=some (.rs fu 0 s3.aa.length 4) from bV (q:=1) (cs:=[.bool s3.aj,.rs fu 0 s3.aa.length 4,.rs kN 0 s3.ae.length 1]) o9 rfl (by kernel_rfl)),.a 8 sF,.v 12 (show bn Try.prog h6 33 (.ptr aq 2)=some (.rs kN 0 s3.ae.length 1) from bV (q:=1) (cs:=[.bool s3.aj,.rs fu 0 s3.aa.length 4,.rs kN 0 s3.ae.length 1]) vF rfl (by kernel_rfl)),.a 17 yD,.w 20 yE,.w 23 BU] [.mk (yz o9 (q:=2) rfl (q2:=1) rfl (by decide) sF)] <| q0 <| ⟨(i64.wrap (x2+(1:Int)),(ab.mk s3.aj x5 x6)),⟨yK,gL,h9,by kernel_rfl,vh⟩,H⟩
  ·refine qk <| qq <| qq <| q0 <| qb 2 ?_
   obtain⟨dE,Iy,H⟩:=bl H
   refine ql (aA.si L aq ak an s0 t0 x1 aH cr x2 v0   ((0:Int),v0.args,s1) _ _ ⟨(Jt cr x2),di,ez,h1,by kernel_rfl,o5⟩ Iy) ?_
   rintro e s ⟨rfl,x8,n3,s5,rfl,g3,g4,g5,BY,yL,qz,h12,rfl,yP⟩
   try dsimp only at H
   obtain⟨h13,Gg,D8⟩:=rO (E:=af) (l:=n3) (q:=0) yP rfl
   obtain⟨x9,Iz,H⟩:=bl H
   obtain⟨sd,h14,Hb,Cy⟩:=iV (P:=Try.prog) (E:=ah) (l:=s5.aa) (q:=2) (t2:=40) (x:=.fz [.int .i64 v0.kind,.int .i64 v0.int,.str v0.label,af.fz n3] 1 true) (l2:=([(ao.mk v0.kind v0.int v0.label n3)])) wW D8 rfl (by kernel_rfl) rfl Iz
   obtain⟨kM,Hc,H⟩:=bl H
   obtain⟨D2,h15,Hd,BZ⟩:=iV (P:=Try.prog) (E:=af) (l:=s5.ae) (q:=3) (t2:=33) (x:=.fz [.int .i64 (i64.wrap ((s0.aa.length:Int)+x2))] 1 true) (l2:=([i64.wrap ((s0.aa.length:Int)+x2)])) gH Cy rfl (by kernel_rfl) rfl Hc
   obtain⟨h16,IA,KT⟩:=nh (P:=Try.prog) (t:=40) (off:=1) (q:=1) (cs:=[.bool s5.aj,.rs yL 0 s5.aa.length 4,.rs qz 0 s5.ae.length 1]) (eO:=[.bool s5.aj,.rs sd 0 x9.length 4,.rs qz 0 s5.ae.length 1]) (x:=.rs sd 0 x9.length 4) BZ rfl (by kernel_rfl)
   obtain⟨h17,He,B0⟩:=nh (P:=Try.prog) (t:=33) (off:=2) (q:=1) (cs:=[.bool s5.aj,.rs sd 0 x9.length 4,.rs qz 0 s5.ae.length 1]) (eO:=[.bool s5.aj,.rs sd 0 x9.length 4,.rs D2 0 kM.length 1]) (x:=.rs D2 0 kM.length 1) KT rfl (by kernel_rfl)
   exact Ku [.a 0 Gg] [.v 5 (show bn Try.prog h13 40 (.ptr aq 1)=some (.rs yL 0 s5.aa.length 4) from bV (q:=1) (cs:=[.bool s5.aj,.rs yL 0 s5.aa.length 4,.rs qz 0 s5.ae.length 1]) D8 rfl (by kernel_rfl)),.a 8 Hb,.v 12 (show bn Try.prog h14 33 (.ptr aq 2)=some (.rs qz 0 s5.ae.length 1) from bV (q:=1) (cs:=[.bool s5.aj,.rs yL 0 s5.aa.length 4,.rs qz 0 s5.ae.length 1]) Cy rfl (by kernel_rfl)),.a 17 Hd,.w 20 IA,.w 23 He] [.mk (yz D8 (q:=2) rfl (q2:=1) rfl (by decide) Hb)] <| q0 <| ⟨(i64.wrap (x2+(1:Int)),(ab.mk s5.aj x9 kM)),⟨sd,D2,h17,by kernel_rfl,B0⟩,H⟩
 ·exact qx 0 <| ⟨rfl,x2,s1,oi H,.ptr aq 0,.rs aH 0 x1.1.nodes.length 4,.int .i64 (x1.1.nodes.length:Int),.int .i64 x2,.bool (decide (x2<(x1.1.nodes.length:Int))),di,ez,h1,by kernel_rfl,o4⟩
theorem mu {aV:FuncId→b4}(ha:aV 36=sm)(DP:LH cf m)(Oz:Qn cf m)(s0:ab)(t0:bu)(h:AHeap)(L:Mem)(aq:Nat)(ak:Nat)(an:Nat)  (o:Has h ((aq,.ob [.bool s0.aj,.rs ak 0 s0.aa.length 4,.rs an 0 s0.ae.length 1])::(ak,.sl s0.aa.length 4 (ah.l s0.aa))::(an,.sl s0.ae.length 1 (af.l s0.ae))::L)){out:Int × Int × ab}(H:aA.f m s0 t0=some out) :
  ∃r h',ba Try.prog aV cf m 36 [.ptr aq 0,.agg [ah.fz t0.nodes,.int .i64 t0.root]] h=some (r,h')∧∃aB aC:Nat,r = .tup [.int .i64 out.1,.int .i64 out.2.1]∧Has h' ((aq,.ob [.bool out.2.2.aj,.rs aB 0 out.2.2.aa.length 4,.rs aC 0 out.2.2.ae.length 1])::(aB,.sl out.2.2.aa.length 4 (ah.l out.2.2.aa))::(aC,.sl out.2.2.ae.length 1 (af.l out.2.2.ae))::L):=by
 refine ar (fn:=Try.f36) ha Try.func36 (by kernel_rfl) (by kernel_rfl) ?_
 refine aI (Q:=fun s=>aA.fin L aq ak an s0 t0 out s) (fun _ _ ⟨h1,aB,aC,h2,h3⟩=>⟨h1,_,h2,aB,aC,rfl,h3⟩) ?_
 have H:_=some out:=H
 unfold aA.f at H
 show dt _ cf sm m _ ⟨.ptr aq 0 :: .agg [ah.fz t0.nodes,.int .i64 t0.root]::MR [],[none,none,none],h⟩ _
 refine q1 <| qq <| qq ?_
 obtain⟨x0,e0,H⟩:=bl H
 refine qr [.a 1 (DP _ _ e0 h _ (gm (ai (dV (q:=0) o rfl (ai (gi) (ai (eK (E:=ah) (l:=s0.aa) (q:=1) o rfl (fun _=>rfl)) (ai (eK (E:=af) (l:=s0.ae) (q:=2) o rfl (fun _=>rfl)) (ay))))) (ay))))] <| qc H (fun c0 H=>?_) (fun c0 H=>?_)
 ·obtain rfl:=oi H
  exact q1 <| qt <| ⟨.inl rfl,⟨ak,an,by kernel_rfl,he o⟩⟩
 ·refine qk <| qq ?_
  obtain⟨x1,e1,H⟩:=bl H
  obtain⟨aH,cr,h0,e2,o0,Fp⟩:=Oz _ _ e1 h _ _ o (gm (ai (jB (ai (fT (E:=ah)) (ai (br) (ay)))) (ay)))
  have o1:=Has.wV (pre:=[(aH,.sl x1.1.nodes.length 4 (fU.l (bC x1.1.nodes cr)))]) (N:=[(aq,.ob [.bool s0.aj,.rs ak 0 s0.aa.length 4,.rs an 0 s0.ae.length 1]),(ak,.sl s0.aa.length 4 (ah.l s0.aa)),(an,.sl s0.ae.length 1 (af.l s0.ae))]) (mid:=fM x1.1.nodes cr) o0
  refine qr [.a 1 e2] <| qq <| qq <| q0 <| qc H (fun c1 H=>?_) (fun c1 H=>?_)
  ·refine q1 ?_
   have o2:Has h0 ((aq,.ob [.bool s0.aj,.rs ak 0 s0.aa.length 4,.rs an 0 s0.ae.length 1])::(ak,.sl s0.aa.length 4 (ah.l s0.aa))::(an,.sl s0.ae.length 1 (af.l s0.ae))::L):=Has.gone (pre:=[(aq,.ob [.bool s0.aj,.rs ak 0 s0.aa.length 4,.rs an 0 s0.ae.length 1]),(ak,.sl s0.aa.length 4 (ah.l s0.aa)),(an,.sl s0.ae.length 1 (af.l s0.ae))]) (Has.del o1 0)
   obtain rfl:=oi H
   exact qt <| ⟨.inl rfl,⟨ak,an,by kernel_rfl,he o2⟩⟩
  ·refine qk <| qq <| qr [.v 3 (show bn Try.prog h0 40 (.ptr aq 1)=some (.rs ak 0 s0.aa.length 4) from bV (q:=1) (cs:=[.bool s0.aj,.rs ak 0 s0.aa.length 4,.rs an 0 s0.ae.length 1]) o1 rfl (by kernel_rfl))] <| qq <| qq <| q0 <| qc H (fun c2 H=>?_) (fun c2 H=>?_)
   ·refine q1 ?_
    have o3:Has h0 ((aq,.ob [.bool s0.aj,.rs ak 0 s0.aa.length 4,.rs an 0 s0.ae.length 1])::(ak,.sl s0.aa.length 4 (ah.l s0.aa))::(an,.sl s0.ae.length 1 (af.l s0.ae))::L):=Has.gone (pre:=[(aq,.ob [.bool s0.aj,.rs ak 0 s0.aa.length 4,.rs an 0 s0.ae.length 1]),(ak,.sl s0.aa.length 4 (ah.l s0.aa)),(an,.sl s0.ae.length 1 (af.l s0.ae))]) (Has.del o1 0)
    obtain rfl:=oi H
    exact qt <| ⟨.inl rfl,⟨ak,an,by kernel_rfl,he o3⟩⟩
   ·refine qk <| qq <| qq <| q0 <| qb 0 ?_
    obtain⟨mS,Jx,H⟩:=bl H
    refine ql (aA.dB L aq ak an s0 t0 x1 aH cr   ((0:Int),s0) _ _ ⟨ak,an,h0,by kernel_rfl,o1⟩ Jx) ?_
    rintro e s ⟨rfl,DQ,s6,rfl,g6,g7,g8,g9,g10,yM,yO,h18,rfl,IP⟩
    try dsimp only at H
    refine q1 ?_
    have KU:Has h18 ((aq,.ob [.bool s6.aj,.rs yM 0 s6.aa.length 4,.rs yO 0 s6.ae.length 1])::(yM,.sl s6.aa.length 4 (ah.l s6.aa))::(yO,.sl s6.ae.length 1 (af.l s6.ae))::L):=Has.gone (pre:=[(aq,.ob [.bool s6.aj,.rs yM 0 s6.aa.length 4,.rs yO 0 s6.ae.length 1]),(yM,.sl s6.aa.length 4 (ah.l s6.aa)),(yO,.sl s6.ae.length 1 (af.l s6.ae))]) (Has.del IP 0)
    obtain rfl:=oi H
    exact qt <| ⟨.inl rfl,⟨yM,yO,by kernel_rfl,he KU⟩⟩
end
end Go.Proofs.Ytifafejidnjckaa
namespace Go.Proofs.Ytifafejidnjckaa
open Go Go.R
open Go.IntKind (i64 u64 u8 u32)
def AH:b4:=gK [0,1,3,4,5,7,8,15,24,33,44,55,64,75] [3] [16378,16362,16330,16266,16367,16202,16367,16074,16367,15818,16367,15306,16367,14282,16367,12234,16367,8170,16367,16375] [] []
def fm.f (m:Nat)(s0:ab)(x0:aL):Option (Int × ab):=if (x0.er==(0:Int))=true then ((ec.f m s0).bind fun x1=>some (x1.2.1,x1.2.2)) else (if (x0.er==(1:Int))=true then ((eh.f m s0 x0.sS).bind fun x2=>some (x2.2.1,x2.2.2)) else (if (x0.er==(2:Int))=true then ((dQ.f m s0 x0.eu).bind fun x3=>some (x3.2.1,x3.2.2)) else (if (x0.er==(3:Int))=true then ((dH.f m s0 x0.eu x0.ff).bind fun x4=>some (x4.2.1,x4.2.2)) else (if (x0.er==(4:Int))=true then ((dP.f m s0 x0.eu x0.sS).bind fun x5=>some (x5.2.1,x5.2.2)) else (if (x0.er==(5:Int))=true then ((aA.f m s0 x0.va).bind fun x6=>some (x6.2.1,x6.2.2)) else (if (x0.er==(6:Int))=true then ((cV.f m s0 x0.sS x0.BS).bind fun x7=>some (x7.2.1,x7.2.2)) else (if (x0.er==(7:Int))=true then ((dm.f m s0 x0.sS x0.BS).bind fun x8=>some (x8.2.2.1,x8.2.2.2)) else (some ((0:Int),s0)))))))))
def fm.fin (L:Mem)(aq:Nat)(ak:Nat)(an:Nat)(s0:ab)(x0:aL)(r:Int × ab)(s:St):Prop:=∃aB aC:Nat,aM Try.prog (s.open AH) Try.f17.results.toList=some (.int .i64 r.1)∧Has s.h ((aq,.ob [.bool r.2.aj,.rs aB 0 r.2.aa.length 4,.rs aC 0 r.2.ae.length 1])::(aB,.sl r.2.aa.length 4 (ah.l r.2.aa))::(aC,.sl r.2.ae.length 1 (af.l r.2.ae))::L)
def KW (cf:CallF)(m:Nat):Prop:=∀(s0:ab) (x0:aL) (r:Int × ab),fm.f m s0 x0=some r→∀h L (aq:Nat) (ak:Nat) (an:Nat),Has h ((aq,.ob [.bool s0.aj,.rs ak 0 s0.aa.length 4,.rs an 0 s0.ae.length 1])::(ak,.sl s0.aa.length 4 (ah.l s0.aa))::(an,.sl s0.ae.length 1 (af.l s0.ae))::L)→∀xs,xs.map aK=[.ptr aq 0,.agg [.int .i64 x0.er,.int .i64 x0.sS,.int .i64 x0.BS,.str x0.eu,af.fz x0.ff,ah.fz x0.va.nodes,.int .i64 x0.va.root]]→∃aB aC h',cf 17 xs h=some (.int .i64 r.1,h')∧Has h' ((aq,.ob [.bool r.2.aj,.rs aB 0 r.2.aa.length 4,.rs aC 0 r.2.ae.length 1])::(aB,.sl r.2.aa.length 4 (ah.l r.2.aa))::(aC,.sl r.2.ae.length 1 (af.l r.2.ae))::L)
section
variable {cf:CallF}{m:Nat}
theorem sZ {aV:FuncId→b4}(ha:aV 17=AH)(OA:P9 cf m)(OB:Qa cf m)(OC:PQ cf m)(OD:Qf cf m)(OE:PR cf m)(OF:Qb cf m)(OG:P5 cf m)(OH:Qo cf m)(s0:ab)(x0:aL)(h:AHeap)(L:Mem)(aq:Nat)(ak:Nat)(an:Nat)  (o:Has h ((aq,.ob [.bool s0.aj,.rs ak 0 s0.aa.length 4,.rs an 0 s0.ae.length 1])::(ak,.sl s0.aa.length 4 (ah.l s0.aa))::(an,.sl s0.ae.length 1 (af.l s0.ae))::L)){out:Int × ab}(H:fm.f m s0 x0=some out) :
  ∃r h',ba Try.prog aV cf m 17 [.ptr aq 0,.agg [.int .i64 x0.er,.int .i64 x0.sS,.int .i64 x0.BS,.str x0.eu,af.fz x0.ff,ah.fz x0.va.nodes,.int .i64 x0.va.root]] h=some (r,h')∧∃aB aC:Nat,r = .int .i64 out.1∧Has h' ((aq,.ob [.bool out.2.aj,.rs aB 0 out.2.aa.length 4,.rs aC 0 out.2.ae.length 1])::(aB,.sl out.2.aa.length 4 (ah.l out.2.aa))::(aC,.sl out.2.ae.length 1 (af.l out.2.ae))::L):=by
 refine ar (fn:=Try.f17) ha Try.func17 (by kernel_rfl) (by kernel_rfl) ?_
 refine aI (Q:=fun s=>fm.fin L aq ak an s0 x0 out s) (fun _ _ ⟨h1,aB,aC,h2,h3⟩=>⟨h1,_,h2,aB,aC,rfl,h3⟩) ?_
 have H:_=some out:=H
 unfold fm.f at H
 show dt _ cf AH m _ ⟨.ptr aq 0 :: .agg [.int .i64 x0.er,.int .i64 x0.sS,.int .i64 x0.BS,.str x0.eu,af.fz x0.ff,ah.fz x0.va.nodes,.int .i64 x0.va.root]::uV [],[none],h⟩ _
 refine q1 <| qq <| q0 <| qq <| qq <| q0 <| qb 0 <| qq <| q0 <| qc H (fun c0 H=>?_) (fun c0 H=>?_)
 ·obtain⟨x1,e0,H⟩:=bl H
  obtain⟨aH,di,h0,e1,o0⟩:=OC _ _ e0 h _ _ _ _ (o)  [.ptr aq 0] (au (rfl) (bI))
  obtain rfl:=oi H
  exact qr [.a 1 e1] <| qq <| q0 <| qt <| ⟨.inl rfl,⟨aH,di,by kernel_rfl,he o0⟩⟩
 ·refine q1 <| qc H (fun c1 H=>?_) (fun c1 H=>?_)
  ·obtain⟨x2,e2,H⟩:=bl H
   obtain⟨ez,dd,h1,e3,o1⟩:=OE _ _ _ e2 h _ _ _ _ (o)  [.ptr aq 0,.int .i64 x0.sS] (au (rfl) (au (aN (bf)) (bI)))
   obtain rfl:=oi H
   exact qr [.a 3 e3] <| qq <| q0 <| qt <| ⟨.inl rfl,⟨ez,dd,by kernel_rfl,he o1⟩⟩
  ·refine q1 <| qc H (fun c2 H=>?_) (fun c2 H=>?_)
   ·obtain⟨x3,e4,H⟩:=bl H
    obtain⟨eU,fX,h2,e5,o2⟩:=OD _ _ _ e4 h _ _ _ _ (o)  [.ptr aq 0,.str x0.eu] (au (rfl) (au (aN (j6)) (bI)))
    obtain rfl:=oi H
    exact qr [.a 3 e5] <| qq <| q0 <| qt <| ⟨.inl rfl,⟨eU,fX,by kernel_rfl,he o2⟩⟩
   ·refine q1 <| qc H (fun c3 H=>?_) (fun c3 H=>?_)
    ·obtain⟨x4,e6,H⟩:=bl H
     obtain⟨fH,fu,h3,e7,o3⟩:=OF _ _ _ _ e6 h _ _ _ _ (o)  [.ptr aq 0,.str x0.eu,af.fz x0.ff] (au (rfl) (au (aN (j6)) (au (aN (ng (E:=af))) (bI))))
     obtain rfl:=oi H
     exact qr [.a 5 e7] <| qq <| q0 <| qt <| ⟨.inl rfl,⟨fH,fu,by kernel_rfl,he o3⟩⟩
    ·refine q1 <| qc H (fun c4 H=>?_) (fun c4 H=>?_)
     ·obtain⟨x5,e8,H⟩:=bl H
      obtain⟨kN,yK,h4,e9,o4⟩:=OG _ _ _ _ e8 h _ _ _ _ (o)  [.ptr aq 0,.str x0.eu,.int .i64 x0.sS] (au (rfl) (au (aN (j6)) (au (aN (bf)) (bI))))
      obtain rfl:=oi H
      exact qr [.a 5 e9] <| qq <| q0 <| qt <| ⟨.inl rfl,⟨kN,yK,by kernel_rfl,he o4⟩⟩
     ·refine q1 <| qc H (fun c5 H=>?_) (fun c5 H=>?_)
      ·obtain⟨x6,sF,H⟩:=bl H
       obtain⟨gL,jc,h5,w6,o5⟩:=OH _ _ _ sF h _ _ _ _ (o)  [.ptr aq 0,.agg [ah.fz x0.va.nodes,.int .i64 x0.va.root]] (au (rfl) (au (aN (mb (bO (ng (E:=ah)) (bO (bf) (ma))))) (bI)))
       obtain rfl:=oi H
       exact qr [.a 3 w6] <| qq <| q0 <| qt <| ⟨.inl rfl,⟨gL,jc,by kernel_rfl,he o5⟩⟩
      ·refine q1 <| qc H (fun c6 H=>?_) (fun c6 H=>?_)
       ·obtain⟨x7,yD,H⟩:=bl H
        obtain⟨lh,mo,BY,h6,yE,o6⟩:=OA _ _ _ _ yD h _ _ _ _ (o)  [.ptr aq 0,.int .i64 x0.sS,.int .i64 x0.BS] (au (rfl) (au (aN (bf)) (au (aN (bf)) (bI))))
        refine qr [.a 5 yE] ?_
        have o7:Has h6 ((aq,.ob [.bool x7.2.2.aj,.rs mo 0 x7.2.2.aa.length 4,.rs BY 0 x7.2.2.ae.length 1])::(mo,.sl x7.2.2.aa.length 4 (ah.l x7.2.2.aa))::(BY,.sl x7.2.2.ae.length 1 (af.l x7.2.2.ae))::L):=Has.del o6 0
        obtain rfl:=oi H
        exact q1 <| qt <| ⟨.inl rfl,⟨mo,BY,by kernel_rfl,he o7⟩⟩
       ·refine q1 <| qc H (fun c7 H=>?_) (fun c7 H=>?_)
        ·obtain⟨x8,BU,H⟩:=bl H
         obtain⟨yL,qz,sd,h7,Al,o8⟩:=OB _ _ _ _ BU h _ _ _ _ (o)  [.ptr aq 0,.int .i64 x0.sS,.int .i64 x0.BS] (au (rfl) (au (aN (bf)) (au (aN (bf)) (bI))))
         refine qr [.a 5 Al] ?_
         have o9:Has h7 ((aq,.ob [.bool x8.2.2.2.aj,.rs qz 0 x8.2.2.2.aa.length 4,.rs sd 0 x8.2.2.2.ae.length 1])::(qz,.sl x8.2.2.2.aa.length 4 (ah.l x8.2.2.2.aa))::(sd,.sl x8.2.2.2.ae.length 1 (af.l x8.2.2.2.ae))::L):=Has.del o8 0
         obtain rfl:=oi H
         exact q1 <| qt <| ⟨.inl rfl,⟨qz,sd,by kernel_rfl,he o9⟩⟩
        ·obtain rfl:=oi H
         exact qk <| qq <| q0 <| qt <| ⟨.inl rfl,⟨ak,an,by kernel_rfl,he o⟩⟩
end
end Go.Proofs.Ytifafejidnjckaa
namespace Go.Proofs.Ytifafejidnjckaa
open Go Go.R
open Go.IntKind (i64 u64 u8 u32)
def xe:b4:=gK [0,2,3,4,9] [] [30,26,18,2,18,18,29] [] []
def bZ.l0 (m:Nat)(l0:List aL):Nat→Int→ab→Option (Int × ab)
 | 0,_,_=>none
 | k+1,i0,jh=>if (decide (i0<(l0.length:Int)))=true then ((ix l0 i0).bind fun v0=>(fm.f m jh v0).bind fun x1=>bZ.l0 m l0 k (i64.wrap (i0+(1:Int))) x1.2) else (some ((i0,jh)))
def bZ.f (m:Nat)(l0:List aL):Option (ab):=(iI.f m ).bind fun x0=>(bZ.l0 m l0 m (0:Int) x0).bind fun cJ=>match cJ with | (i1,pb)=>some pb
def bZ.fin (L:Mem)(l0:List aL)(r:ab)(s:St):Prop:=∃dI fV fW:Nat,aM Try.prog (s.open xe) Try.f12.results.toList=some (.ptr dI 0)∧Has s.h ((dI,.ob [.bool r.aj,.rs fV 0 r.aa.length 4,.rs fW 0 r.ae.length 1])::(fV,.sl r.aa.length 4 (ah.l r.aa))::(fW,.sl r.ae.length 1 (af.l r.ae))::L)
def Qp (cf:CallF)(m:Nat):Prop:=∀(l0:List aL) (r:ab),bZ.f m l0=some r→∀h L,Has h (L)→∀xs,xs.map aK=[aO.fz l0]→∃dI fV fW h',cf 12 xs h=some (.ptr dI 0,h')∧Has h' ((dI,.ob [.bool r.aj,.rs fV 0 r.aa.length 4,.rs fW 0 r.ae.length 1])::(fV,.sl r.aa.length 4 (ah.l r.aa))::(fW,.sl r.ae.length 1 (af.l r.ae))::L)
section
variable {cf:CallF}{m:Nat}
theorem bZ.dB (L:Mem)(l0:List aL)(aH:Nat)  (yR:KW cf m):dU Try.prog cf xe m (sub [1,1,0,1,0,0] (b6 Try.f12)) (fun k (σ:Int × ab)=>bZ.l0 m l0 k σ.1 σ.2) (fun σ s=>match σ with | (i0,jh)=>∃dd eU h1,s=⟨[aO.fz l0,.any,.ptr aH 0,.int .i64 i0,.any],[],h1⟩∧Has h1 ((aH,.ob [.bool jh.aj,.rs dd 0 jh.aa.length 4,.rs eU 0 jh.ae.length 1])::(dd,.sl jh.aa.length 4 (ah.l jh.aa))::(eU,.sl jh.ae.length 1 (af.l jh.ae))::L)) (fun out e s=>(e = .exit 0∧∃i0 jh,(i0,jh)=out∧∃po KL BT dd eU h1,s=⟨[po,.any,.ptr aH 0,KL,BT],[],h1⟩∧Has h1 ((aH,.ob [.bool jh.aj,.rs dd 0 jh.aa.length 4,.rs eU 0 jh.ae.length 1])::(dd,.sl jh.aa.length 4 (ah.l jh.aa))::(eU,.sl jh.ae.length 1 (af.l jh.ae))::L))):=by
 refine mK (fun _=>rfl) ?_
 rintro k ⟨i0,jh⟩ s out ⟨dd,eU,h1,rfl,o1⟩ H
 have H:bZ.l0 m l0 (k+1) i0 jh=some out:=H
 refine qq <| qq <| q0 <| qc H (fun c0 H=>?_) (fun c0 H=>?_)
 ·refine qk <| qq <| qb 1 ?_
  obtain⟨v0,e2,H⟩:=bl H
  obtain⟨x1,e3,H⟩:=bl H
  obtain⟨fX,fH,h2,e4,o2⟩:=yR _ _ _ e3 h1 _ _ _ _ (o1)  [.ptr aH 0,.agg [.int .i64 v0.er,.int .i64 v0.sS,.int .i64 v0.BS,.str v0.eu,af.fz v0.ff,ah.fz v0.va.nodes,.int .i64 v0.va.root]] (au (rfl) (au (aN (mb (bO (bf) (bO (bf) (bO (bf) (bO (j6) (bO (ng (E:=af)) (bO (ng (E:=ah)) (bO (bf) (ma)))))))))) (bI)))
  exact qr [.v 3 (fR (k:=.i64) (E:=aO) (l:=l0) KA e2),.v 4 (jZ  (E:=aO) (l:=l0) h1 PB PC e2),.a 5 e4] <| q0 <| ⟨(i64.wrap (i0+(1:Int)),x1.2),⟨fX,fH,h2,by kernel_rfl,o2⟩,H⟩
 ·exact qx 0 <| ⟨rfl,i0,jh,oi H,aO.fz l0,.int .i64 i0,.bool (decide (i0<(l0.length:Int))),dd,eU,h1,by kernel_rfl,o1⟩
theorem qH {aV:FuncId→b4}(ha:aV 12=xe)(yR:KW cf m)(OI:PG cf m)(l0:List aL)(h:AHeap)(L:Mem)  (o:Has h (L)){out:ab}(H:bZ.f m l0=some out) :
  ∃r h',ba Try.prog aV cf m 12 [aO.fz l0] h=some (r,h')∧∃dI fV fW:Nat,r = .ptr dI 0∧Has h' ((dI,.ob [.bool out.aj,.rs fV 0 out.aa.length 4,.rs fW 0 out.ae.length 1])::(fV,.sl out.aa.length 4 (ah.l out.aa))::(fW,.sl out.ae.length 1 (af.l out.ae))::L):=by
 refine ar (fn:=Try.f12) ha Try.func12 (by kernel_rfl) (by kernel_rfl) ?_
 refine aI (Q:=fun s=>bZ.fin L l0 out s) (fun _ _ ⟨h1,dI,fV,fW,h2,h3⟩=>⟨h1,_,h2,dI,fV,fW,rfl,h3⟩) ?_
 have H:_=some out:=H
 unfold bZ.f at H
 show dt _ cf xe m _ ⟨aO.fz l0::nK [],[],h⟩ _
 refine q1 <| qq ?_
 obtain⟨x0,e0,H⟩:=bl H
 obtain⟨aH,di,ez,h0,e1,o0⟩:=OI _ e0 h _  (o)  [] (bI)
 refine qr [.a 0 e1] <| qq <| qq <| q0 <| qb 0 ?_
 obtain⟨cJ,e5,H⟩:=bl H
 refine ql (bZ.dB L l0 aH  yR ((0:Int),x0) _ _ ⟨di,ez,h0,by kernel_rfl,o0⟩ e5) ?_
 rintro e s ⟨rfl,i1,pb,rfl,g0,g1,g2,fu,kN,h3,rfl,o3⟩
 try dsimp only at H
 obtain rfl:=oi H
 exact q1 <| qt <| ⟨.inl rfl,⟨aH,fu,kN,by kernel_rfl,he o3⟩⟩
end
end Go.Proofs.Ytifafejidnjckaa
namespace Go.Proofs.Ytifafejidnjckaa
open Go Go.R
open Go.IntKind (i64 u64 u8 u32)
end Go.Proofs.Ytifafejidnjckaa
namespace Go.Proofs.Ytifafejidnjckaa
open Go Go.R
open Go.IntKind (i64 u64 u8 u32)
end Go.Proofs.Ytifafejidnjckaa
namespace Go.Proofs.Ytifafejidnjckaa
open Go Go.R
open Go.IntKind (i64 u64 u8 u32)
end Go.Proofs.Ytifafejidnjckaa
namespace Go.Proofs.Ytifafejidnjckaa
open Go Go.R
open Go.IntKind (i64 u64 u8 u32)
def cp.l0 (m:Nat)(db:List aL)(jS:Bool):Nat→Int→ab→ab→Option (Int × ab × ab)
 | 0,_,_,_=>none
 | k+1,i0,pb,OJ=>if (decide (i0<(db.length:Int)))=true then (if jS=true then ((ix db i0).bind fun v0=>(fm.f m OJ v0).bind fun x7=>cp.l0 m db jS k (i64.wrap (i0+(1:Int))) pb x7.2) else ((ix db i0).bind fun v1=>(fm.f m pb v1).bind fun x8=>cp.l0 m db jS k (i64.wrap (i0+(1:Int))) x8.2 OJ)) else (some ((i0,pb,OJ)))
def cp.l1 (m:Nat)(db:List aL)(jS:Bool):Nat→Int→ab→ab→Option (Int × ab × ab)
 | 0,_,_,_=>none
 | k+1,i2,OK,OL=>if (decide (i2<(db.length:Int)))=true then (if jS=true then ((ix db i2).bind fun v2=>(fm.f m OL v2).bind fun Se=>cp.l1 m db jS k (i64.wrap (i2+(1:Int))) OK Se.2) else ((ix db i2).bind fun v3=>(fm.f m OK v3).bind fun Sf=>cp.l1 m db jS k (i64.wrap (i2+(1:Int))) Sf.2 OL)) else (some ((i2,OK,OL)))
def cp.f (m:Nat)(l0:List aL)(db:List aL)(jS:Bool):Option (Bool):=(bA.f m l0).bind fun x0=>if x0=true then ((dW.f m).bind fun x1=>some x1) else ((bA.f m db).bind fun x2=>if x2=true then ((dW.f m).bind fun x3=>some x3) else ((bZ.f m l0).bind fun x4=>(bZ.f m l0).bind fun x5=>(oC.f m x4).bind fun x6=>M4 x6.1 (some false) fun jh=>if jS=true then ((cp.l0 m db jS m (0:Int) jh x6.2).bind fun cJ=>match cJ with | (i1,Qq,TY)=>(fh.f m Qq).bind fun x9=>(fh.f m x5).bind fun kM=>if (x9==kM)=true then ((gA.f m Qq).bind fun DQ=>(gA.f m x5).bind fun Ha=>(jC.f m DQ Ha).bind fun tM=>if tM=true then ((dW.f m).bind fun Sh=>some Sh) else (some false)) else (some false)) else ((cp.l1 m db jS m (0:Int) jh x6.2).bind fun dE=>match dE with | (i3,TZ,Qr)=>(fh.f m Qr).bind fun Si=>(fh.f m x5).bind fun Sj=>if (Si==Sj)=true then ((gA.f m Qr).bind fun Sk=>(gA.f m x5).bind fun Sl=>(jC.f m Sk Sl).bind fun Sm=>if Sm=true then ((dW.f m).bind fun Sn=>some Sn) else (some false)) else (some false))))
def S6 (cf:CallF)(m:Nat):Prop:=∀(l0:List aL) (db:List aL) (jS:Bool) (r:Bool),cp.f m l0 db jS=some r→∀h xs,aP bQ h xs [aO.fz l0,aO.fz db,.bool jS]→cf 6 xs h=some (.bool r,h)
end Go.Proofs.Ytifafejidnjckaa
namespace Go.Proofs.Ytifafejidnjckaa
open Go Go.R
open Go.IntKind (i64 u64 u8 u32)
def Ee:b4:=gK [0,1,2,6,7,8,9,10,11,12,18,34,39,85] [8,11] [16376,15352,16375,16361,16265,14281,16375,16201,12105,16201,16201,15433,8009,16375,16375] [] [(4,[(8,some 3,1)]),(11,[(11,some 3,1)])]
def bm.l0 (m:Nat)(n0:Int)(db:List aL)(x5:ao × Int):Nat→Int→ab→Option (Sum Bool (Int × ab))
 | 0,_,_=>none
 | k+1,i0,jh=>if (decide (i0<(db.length:Int)))=true then ((ix db i0).bind fun v0=>(fm.f m jh v0).bind fun x8=>(cm.f m x8.2 n0).bind fun x9=>if (!(x9.2==(0:Int)))=true then (some (.inl false)) else (if (!(x9.1.kind==x5.1.kind))=true then (some (.inl false)) else (if (!(x9.1.int==x5.1.int))=true then (some (.inl false)) else (if (!(x9.1.label.data.toList==x5.1.label.data.toList))=true then (some (.inl false)) else (if (!((x9.1.args.length:Int)==(x5.1.args.length:Int)))=true then (some (.inl false)) else (bm.l0 m n0 db x5 k (i64.wrap (i0+(1:Int))) x8.2)))))) else (some (.inr (i0,jh)))
def bm.f (m:Nat)(l0:List aL)(n0:Int)(db:List aL):Option (Bool):=(bA.f m l0).bind fun x0=>if x0=true then ((dW.f m).bind fun x1=>some x1) else ((bA.f m db).bind fun x2=>if x2=true then ((dW.f m).bind fun x3=>some x3) else ((bZ.f m l0).bind fun x4=>(cm.f m x4 n0).bind fun x5=>if (!(x5.2==(0:Int)))=true then ((dW.f m).bind fun x6=>some x6) else (if (x5.1.kind==(0:Int))=true then ((dW.f m).bind fun x7=>some x7) else ((bm.l0 m n0 db x5 m (0:Int) x4).bind fun cJ=>match cJ with | .inl r0=>some r0 | .inr (i1,pb)=>(dW.f m).bind fun kM=>some kM))))
def bm.fin (L:Mem)(r:Bool)(s:St):Prop:=∃av,aM Try.prog (s.open Ee) Try.f7.results.toList=some av∧fL s.h av (.bool r)
def S7 (cf:CallF)(m:Nat):Prop:=∀(l0:List aL) (n0:Int) (db:List aL) (r:Bool),bm.f m l0 n0 db=some r→∀h xs,aP bQ h xs [aO.fz l0,.int .i64 n0,aO.fz db]→cf 7 xs h=some (.bool r,h)
section
variable {cf:CallF}{m:Nat}
theorem bm.dB (L:Mem)(l0:List aL)(n0:Int)(db:List aL)(aH:Nat)(x5:ao × Int)(dd:Nat)  (yR:KW cf m)(Gh:NZ cf m):dU Try.prog cf Ee m (sub [1,1,1,1,1,0,1,0,0] (b6 Try.f7)) (fun k (σ:Int × ab)=>bm.l0 m n0 db x5 k σ.1 σ.2) (fun σ s=>match σ with | (i0,jh)=>∃eU fX h2,s=⟨.any :: .int .i64 n0::aO.fz db :: .any :: .ptr aH 0 :: .lp 8 0 :: .any :: .int .i64 i0::vD [],[some [.int .i64 x5.1.kind,.int .i64 x5.1.int,.str x5.1.label,.rs dd 0 x5.1.args.length 1],none],h2⟩∧Has h2 ((dd,.sl x5.1.args.length 1 (af.l x5.1.args))::(aH,.ob [.bool jh.aj,.rs eU 0 jh.aa.length 4,.rs fX 0 jh.ae.length 1])::(eU,.sl jh.aa.length 4 (ah.l jh.aa))::(fX,.sl jh.ae.length 1 (af.l jh.ae))::L)) (fun out e s=>(e = .exit 0∧∃i0 jh,.inr (i0,jh)=out∧∃yF Im DN yC yI Ed Sp eU fX h2,s=⟨.any::yF::Im :: .any::DN::yC :: .any::yI::nK [Ed,.any],[Sp,none],h2⟩∧Has h2 ((dd,.sl x5.1.args.length 1 (af.l x5.1.args))::(aH,.ob [.bool jh.aj,.rs eU 0 jh.aa.length 4,.rs fX 0 jh.ae.length 1])::(eU,.sl jh.aa.length 4 (ah.l jh.aa))::(fX,.sl jh.ae.length 1 (af.l jh.ae))::L))∨(e = .ret∧∃r,.inl r=out∧bm.fin L r s)):=by
 refine mK (fun _=>rfl) ?_
 rintro k ⟨i0,jh⟩ s out ⟨eU,fX,h2,rfl,vF⟩ H
 have H:bm.l0 m n0 db x5 (k+1) i0 jh=some out:=H
 refine qq <| qq <| q0 <| qc H (fun c6 H=>?_) (fun c6 H=>?_)
 ·refine qk <| qq <| qb 1 <| qq ?_
  obtain⟨v0,sF,H⟩:=bl H
  obtain⟨x8,w6,H⟩:=bl H
  obtain⟨fH,fu,h3,yD,yN⟩:=yR _ _ _ w6 h2 _ _ _ _ ((Has.front (Has.front (Has.front (Has.front vF 0 rfl) 3 rfl) 3 rfl) 3 rfl))  [.ptr aH 0,.agg [.int .i64 v0.er,.int .i64 v0.sS,.int .i64 v0.BS,.str v0.eu,af.fz v0.ff,ah.fz v0.va.nodes,.int .i64 v0.va.root]] (au (rfl) (au (aN (mb (bO (bf) (bO (bf) (bO (bf) (bO (j6) (bO (ng (E:=af)) (bO (ng (E:=ah)) (bO (bf) (ma)))))))))) (bI)))
  refine qr [.v 3 (fR (k:=.i64) (E:=aO) (l:=db) KA sF),.v 4 (jZ  (E:=aO) (l:=db) h2 PB PC sF),.a 5 yD] <| qq ?_
  obtain⟨x9,yE,H⟩:=bl H
  obtain⟨kN,h4,BU,xN,JL⟩:=Gh _ _ _ yE h3 _ _ yN (gm (ai (dV (q:=0) yN rfl (ai (gi) (ai (eK (E:=ah) (l:=x8.2.aa) (q:=1) yN rfl (fun _=>rfl)) (ai (eK (E:=af) (l:=x8.2.ae) (q:=2) yN rfl (fun _=>rfl)) (ay))))) (ai (br) (ay))))
  refine qr [.a 2 BU] <| qq ?_
  rcases hZ H with⟨c7,H⟩| ⟨c7,H⟩
  ·refine qr [.b 2 c7] ?_
   have vh:Has h4 ((aH,.ob [.bool x8.2.aj,.rs fH 0 x8.2.aa.length 4,.rs fu 0 x8.2.ae.length 1])::(fH,.sl x8.2.aa.length 4 (ah.l x8.2.aa))::(fu,.sl x8.2.ae.length 1 (af.l x8.2.ae))::(dd,.sl x5.1.args.length 1 (af.l x5.1.args))::L):=Has.del xN 0
   refine Fg <| qq <| q0 ?_
   have vi:Has h4 ((aH,.ob [.bool x8.2.aj,.rs fH 0 x8.2.aa.length 4,.rs fu 0 x8.2.ae.length 1])::(fH,.sl x8.2.aa.length 4 (ah.l x8.2.aa))::(fu,.sl x8.2.ae.length 1 (af.l x8.2.ae))::L):=Has.del vh 3
   have D3:Has h4 ((aH,.ob [.bool x8.2.aj,.rs fH 0 x8.2.aa.length 4,.rs fu 0 x8.2.ae.length 1])::(fH,.sl x8.2.aa.length 4 (ah.l x8.2.aa))::L):=Has.del vi 2
   have yP:Has h4 ((aH,.ob [.bool x8.2.aj,.rs fH 0 x8.2.aa.length 4,.rs fu 0 x8.2.ae.length 1])::L):=Has.del D3 1
   have D8:Has h4 (L):=Has.del yP 0
   exact qt <| Or.inr (⟨rfl,_,oi H,dz (.bool false) h4 (du (aD))⟩)
  ·rcases hZ H with⟨c9,H⟩| ⟨c9,H⟩
   ·refine qr [.b 2 c7,.b 9 c9] ?_
    have Cy:Has h4 ((aH,.ob [.bool x8.2.aj,.rs fH 0 x8.2.aa.length 4,.rs fu 0 x8.2.ae.length 1])::(fH,.sl x8.2.aa.length 4 (ah.l x8.2.aa))::(fu,.sl x8.2.ae.length 1 (af.l x8.2.ae))::(dd,.sl x5.1.args.length 1 (af.l x5.1.args))::L):=Has.del xN 0
    refine Fg <| qq <| q0 ?_
    have BZ:Has h4 ((aH,.ob [.bool x8.2.aj,.rs fH 0 x8.2.aa.length 4,.rs fu 0 x8.2.ae.length 1])::(fH,.sl x8.2.aa.length 4 (ah.l x8.2.aa))::(fu,.sl x8.2.ae.length 1 (af.l x8.2.ae))::L):=Has.del Cy 3
    have KT:Has h4 ((aH,.ob [.bool x8.2.aj,.rs fH 0 x8.2.aa.length 4,.rs fu 0 x8.2.ae.length 1])::(fH,.sl x8.2.aa.length 4 (ah.l x8.2.aa))::L):=Has.del BZ 2
    have B0:Has h4 ((aH,.ob [.bool x8.2.aj,.rs fH 0 x8.2.aa.length 4,.rs fu 0 x8.2.ae.length 1])::L):=Has.del KT 1
    have IP:Has h4 (L):=Has.del B0 0
    exact qt <| Or.inr (⟨rfl,_,oi H,dz (.bool false) h4 (du (aD))⟩)
   ·rcases hZ H with⟨tN,H⟩| ⟨tN,H⟩
    ·refine qr [.b 2 c7,.b 9 c9,.b 16 tN] ?_
     have KU:Has h4 ((aH,.ob [.bool x8.2.aj,.rs fH 0 x8.2.aa.length 4,.rs fu 0 x8.2.ae.length 1])::(fH,.sl x8.2.aa.length 4 (ah.l x8.2.aa))::(fu,.sl x8.2.ae.length 1 (af.l x8.2.ae))::(dd,.sl x5.1.args.length 1 (af.l x5.1.args))::L):=Has.del xN 0
     refine Fg <| qq <| q0 ?_
     have Oh:Has h4 ((aH,.ob [.bool x8.2.aj,.rs fH 0 x8.2.aa.length 4,.rs fu 0 x8.2.ae.length 1])::(fH,.sl x8.2.aa.length 4 (ah.l x8.2.aa))::(fu,.sl x8.2.ae.length 1 (af.l x8.2.ae))::L):=Has.del KU 3
     have Oi:Has h4 ((aH,.ob [.bool x8.2.aj,.rs fH 0 x8.2.aa.length 4,.rs fu 0 x8.2.ae.length 1])::(fH,.sl x8.2.aa.length 4 (ah.l x8.2.aa))::L):=Has.del Oh 2
     have Oj:Has h4 ((aH,.ob [.bool x8.2.aj,.rs fH 0 x8.2.aa.length 4,.rs fu 0 x8.2.ae.length 1])::L):=Has.del Oi 1
     have KV:Has h4 (L):=Has.del Oj 0
     exact qt <| Or.inr (⟨rfl,_,oi H,dz (.bool false) h4 (du (aD))⟩)
    ·rcases hZ H with⟨BV,H⟩| ⟨BV,H⟩
     ·refine qr [.b 2 c7,.b 9 c9,.b 16 tN,.b 23 BV] ?_
      have Ol:Has h4 ((aH,.ob [.bool x8.2.aj,.rs fH 0 x8.2.aa.length 4,.rs fu 0 x8.2.ae.length 1])::(fH,.sl x8.2.aa.length 4 (ah.l x8.2.aa))::(fu,.sl x8.2.ae.length 1 (af.l x8.2.ae))::(dd,.sl x5.1.args.length 1 (af.l x5.1.args))::L):=Has.del xN 0
      refine Fg <| qq <| q0 ?_
      have Om:Has h4 ((aH,.ob [.bool x8.2.aj,.rs fH 0 x8.2.aa.length 4,.rs fu 0 x8.2.ae.length 1])::(fH,.sl x8.2.aa.length 4 (ah.l x8.2.aa))::(fu,.sl x8.2.ae.length 1 (af.l x8.2.ae))::L):=Has.del Ol 3
      have On:Has h4 ((aH,.ob [.bool x8.2.aj,.rs fH 0 x8.2.aa.length 4,.rs fu 0 x8.2.ae.length 1])::(fH,.sl x8.2.aa.length 4 (ah.l x8.2.aa))::L):=Has.del Om 2
      have Oo:Has h4 ((aH,.ob [.bool x8.2.aj,.rs fH 0 x8.2.aa.length 4,.rs fu 0 x8.2.ae.length 1])::L):=Has.del On 1
      have Ql:Has h4 (L):=Has.del Oo 0
      exact qt <| Or.inr (⟨rfl,_,oi H,dz (.bool false) h4 (du (aD))⟩)
     ·refine qr [.b 2 c7,.b 9 c9,.b 16 tN,.b 23 BV] ?_
      have Ou:Has h4 ((aH,.ob [.bool x8.2.aj,.rs fH 0 x8.2.aa.length 4,.rs fu 0 x8.2.ae.length 1])::(fH,.sl x8.2.aa.length 4 (ah.l x8.2.aa))::(fu,.sl x8.2.ae.length 1 (af.l x8.2.ae))::(dd,.sl x5.1.args.length 1 (af.l x5.1.args))::L):=Has.del xN 0
      refine qc H (fun KH H=>?_) (fun KH H=>?_)
      ·refine q1 ?_
       have Sq:Has h4 ((aH,.ob [.bool x8.2.aj,.rs fH 0 x8.2.aa.length 4,.rs fu 0 x8.2.ae.length 1])::(fH,.sl x8.2.aa.length 4 (ah.l x8.2.aa))::(fu,.sl x8.2.ae.length 1 (af.l x8.2.ae))::L):=Has.del Ou 3
       have Sr:Has h4 ((aH,.ob [.bool x8.2.aj,.rs fH 0 x8.2.aa.length 4,.rs fu 0 x8.2.ae.length 1])::(fH,.sl x8.2.aa.length 4 (ah.l x8.2.aa))::L):=Has.del Sq 2
       have Ss:Has h4 ((aH,.ob [.bool x8.2.aj,.rs fH 0 x8.2.aa.length 4,.rs fu 0 x8.2.ae.length 1])::L):=Has.del Sr 1
       have T0:Has h4 (L):=Has.del Ss 0
       exact qt <| Or.inr (⟨rfl,_,oi H,dz (.bool false) h4 (du (aD))⟩)
      ·exact qk <| q0 <| ⟨(i64.wrap (i0+(1:Int)),x8.2),⟨fH,fu,h4,by kernel_rfl,(Has.front (Has.front (Has.front (Has.front Ou 2 rfl) 2 rfl) 2 rfl) 3 rfl)⟩,H⟩
 ·exact qx 0 <| Or.inl (⟨rfl,i0,jh,oi H,.int .i64 n0,aO.fz db,.ptr aH 0,.lp 8 0,.int .i64 i0,.bool (decide (i0<(db.length:Int))),some [.int .i64 x5.1.kind,.int .i64 x5.1.int,.str x5.1.label,.rs dd 0 x5.1.args.length 1],eU,fX,h2,by kernel_rfl,vF⟩)
theorem mw {aV:FuncId→b4}(ha:aV 7=Ee)(IT:PF cf m)(Ef:PD cf m)(OM:Qp cf m)(yR:KW cf m)(Gh:NZ cf m)(l0:List aL)(n0:Int)(db:List aL)(h:AHeap)(L:Mem)  (o:Has h (L)){out:Bool}(H:bm.f m l0 n0 db=some out) :
  ∃r h',ba Try.prog aV cf m 7 [aO.fz l0,.int .i64 n0,aO.fz db] h=some (r,h')∧fL h' r (.bool out):=by
 refine ar (fn:=Try.f7) ha Try.func7 (by kernel_rfl) (by kernel_rfl) ?_
 refine aI (Q:=fun s=>bm.fin L out s) (fun _ _ h=>h) ?_
 have H:_=some out:=H
 unfold bm.f at H
 show dt _ cf Ee m _ ⟨aO.fz l0 :: .int .i64 n0::aO.fz db::rV [],[none,none],h⟩ _
 refine q1 <| qq <| qq ?_
 obtain⟨x0,e0,H⟩:=bl H
 rcases hZ H with⟨c0,H⟩| ⟨c0,H⟩
 ·refine qr [.a 1 (IT _ _ e0 h _ (gm (ai (fT (E:=aO)) (ay)))),.b 2 c0] <| Fg <| qq ?_
  obtain⟨x1,e1,H⟩:=bl H
  obtain rfl:=oi H
  exact qr [.a 0 (Ef _ e1 h _ (gm (ay)))] <| qt <| ⟨.inl rfl,dz (.bool x1) h (du (aD))⟩
 ·obtain⟨x2,e2,H⟩:=bl H
  refine qr [.a 1 (IT _ _ e0 h _ (gm (ai (fT (E:=aO)) (ay)))),.b 2 c0,.a 4 (IT _ _ e2 h _ (gm (ai (fT (E:=aO)) (ay))))] <| qc H (fun c2 H=>?_) (fun c2 H=>?_)
  ·refine qq ?_
   obtain⟨x3,e3,H⟩:=bl H
   obtain rfl:=oi H
   exact qr [.a 0 (Ef _ e3 h _ (gm (ay)))] <| qt <| ⟨.inl rfl,dz (.bool x3) h (du (aD))⟩
  ·refine qk <| qq ?_
   obtain⟨x4,e4,H⟩:=bl H
   obtain⟨aH,di,ez,h0,e5,o0⟩:=OM _ _ e4 h _  (o)  [aO.fz l0] (au (aN (ng (E:=aO))) (bI))
   refine qr [.a 1 e5] <| qq ?_
   obtain⟨x5,e6,H⟩:=bl H
   obtain⟨dd,h1,e7,o1,Fp⟩:=Gh _ _ _ e6 h0 _ _ o0 (gm (ai (dV (q:=0) o0 rfl (ai (gi) (ai (eK (E:=ah) (l:=x4.aa) (q:=1) o0 rfl (fun _=>rfl)) (ai (eK (E:=af) (l:=x4.ae) (q:=2) o0 rfl (fun _=>rfl)) (ay))))) (ai (br) (ay))))
   refine qr [.a 2 e7] <| qq <| qq ?_
   rcases hZ H with⟨c3,H⟩| ⟨c3,H⟩
   ·refine qr [.b 2 c3] <| Fg <| qq ?_
    obtain⟨x6,e8,H⟩:=bl H
    refine qr [.a 0 (Ef _ e8 h1 _ (gm (ay)))] ?_
    have o2:Has h1 ((dd,.sl x5.1.args.length 1 (af.l x5.1.args))::(aH,.ob [.bool x4.aj,.rs di 0 x4.aa.length 4,.rs ez 0 x4.ae.length 1])::(di,.sl x4.aa.length 4 (ah.l x4.aa))::L):=Has.del o1 3
    have o3:Has h1 ((dd,.sl x5.1.args.length 1 (af.l x5.1.args))::(aH,.ob [.bool x4.aj,.rs di 0 x4.aa.length 4,.rs ez 0 x4.ae.length 1])::L):=Has.del o2 2
    have o4:Has h1 ((dd,.sl x5.1.args.length 1 (af.l x5.1.args))::L):=Has.del o3 1
    have o5:Has h1 (L):=Has.del o4 0
    obtain rfl:=oi H
    exact qt <| ⟨.inl rfl,dz (.bool x6) h1 (du (aD))⟩
   ·refine qr [.b 2 c3] <| qc H (fun c5 H=>?_) (fun c5 H=>?_)
    ·refine qq ?_
     obtain⟨x7,e9,H⟩:=bl H
     refine qr [.a 0 (Ef _ e9 h1 _ (gm (ay)))] ?_
     have o6:Has h1 ((dd,.sl x5.1.args.length 1 (af.l x5.1.args))::(aH,.ob [.bool x4.aj,.rs di 0 x4.aa.length 4,.rs ez 0 x4.ae.length 1])::(di,.sl x4.aa.length 4 (ah.l x4.aa))::L):=Has.del o1 3
     have o7:Has h1 ((dd,.sl x5.1.args.length 1 (af.l x5.1.args))::(aH,.ob [.bool x4.aj,.rs di 0 x4.aa.length 4,.rs ez 0 x4.ae.length 1])::L):=Has.del o6 2
     have o8:Has h1 ((dd,.sl x5.1.args.length 1 (af.l x5.1.args))::L):=Has.del o7 1
     have o9:Has h1 (L):=Has.del o8 0
     obtain rfl:=oi H
     exact qt <| ⟨.inl rfl,dz (.bool x7) h1 (du (aD))⟩
    ·refine qk <| qq <| qq <| q0 <| qb 0 ?_
     obtain⟨cJ,Al,H⟩:=bl H
     refine ql (bm.dB L l0 n0 db aH x5 dd  yR Gh ((0:Int),x4) _ _ ⟨di,ez,h1,by kernel_rfl,o1⟩ Al) ?_
     rintro e s (⟨rfl,i1,pb,rfl,g0,g1,g2,g3,g4,g5,g6,yK,gL,h5,rfl,Su⟩| ⟨rfl,r0,rfl,yB⟩)
     ·try dsimp only at H
      refine qq ?_
      obtain⟨kM,D1,H⟩:=bl H
      refine qr [.a 0 (Ef _ D1 h5 _ (gm (ay)))] ?_
      have Sv:Has h5 ((dd,.sl x5.1.args.length 1 (af.l x5.1.args))::(aH,.ob [.bool pb.aj,.rs yK 0 pb.aa.length 4,.rs gL 0 pb.ae.length 1])::(yK,.sl pb.aa.length 4 (ah.l pb.aa))::L):=Has.del Su 3
      have Sw:Has h5 ((dd,.sl x5.1.args.length 1 (af.l x5.1.args))::(aH,.ob [.bool pb.aj,.rs yK 0 pb.aa.length 4,.rs gL 0 pb.ae.length 1])::L):=Has.del Sv 2
      have Sx:Has h5 ((dd,.sl x5.1.args.length 1 (af.l x5.1.args))::L):=Has.del Sw 1
      have T3:Has h5 (L):=Has.del Sx 0
      obtain rfl:=oi H
      exact qt <| ⟨.inl rfl,dz (.bool kM) h5 (du (aD))⟩
     ·try dsimp only at H
      obtain rfl:=oi H
      exact⟨.inl rfl,yB⟩
end
end Go.Proofs.Ytifafejidnjckaa
