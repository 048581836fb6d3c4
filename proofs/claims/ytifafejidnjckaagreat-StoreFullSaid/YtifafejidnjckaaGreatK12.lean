/- Part of the proof: Q96, Q99, Q62, Q25, Q28, Q22, Q24, Q58, Q12, Q20, Q21, Q6, Q7, Q15, Q4, Q5, QA, PA1, PA2, PA3. -/
import Derived.Test.YtifafejidnjckaaGreatK11
set_option linter.unusedVariables false
set_option linter.unusedSimpArgs false
set_option maxRecDepth 100000
open Int renaming toNat_natCast → ae7, natCast_nonneg → af5
open List renaming getElem?_eq_some_iff → ae5, getElem?_eq_getElem → ae8, length_cons → afc, getD_eq_getElem?_getD → aff, getElem?_append_right → afg, mem_of_getElem? → afj, getElem?_append_left → afm, mem_cons → afq, mem_append_left → afE, length_set → afJ, getElem?_cons_zero → afK, getElem?_cons_succ → af1, getElem?_set → agl
open Nat renaming le_refl → ae4, zero_add → aft, zero_le → afU, sub_self → aga, add_zero → agz
open Option renaming bind_some → aeZ
open Option.some renaming injEq → ae2
open Or renaming inr → agv
namespace Go.Proofs.YtifafejidnjckaaGreat
open Go Go.R
open Go.IntKind (i64 u64 u8 u32)
def tS:bX:=gP [0,1,2,3,4,5,6,7,8,9,10,11,12,13,14,15,17,22,23,24,37,38,39,40,61,73,74,75,76,87,88,89,90,110,126] [12] [34359738365,34359738357,34359345141,34358820853,34359345125,34359345141,34359345141,34359738357,34359738325,34359738261,34352398229,34344009621,34352397845,34335620757,34352397973,34352398229,34352398229,34359737757,34359736733,34124855709,33856420253,34124849565,34124841373,30366749085,26071781789,30366699933,30366749085,30366749085,34124779933,25534910877,34124845469,34124855709,34124855709,17179867613,34359738363,34359738269] [] []
def aH.l0 (m:Nat)(x0:List Int):Nat→(List Int)→Int→Option ((List Int) × Int)
 | 0,_,_=>none
 | k+1,ju,x1=>if (decide (x1<(x0.length:Int)))=true then ((ix ju x1).bind fun v0=>aH.l0 m x0 k (ju.set x1.toNat x1) (i64.wrap (x1+1))) else (some ((ju,x1)))
def aH.l1 (m:Nat)(aE:List ai)(hY:List Int)(x3:(List Int)):Nat→(List Int)→Int→Int→Option ((List Int) × Int × Int)
 | 0,_,_,_=>none
 | k+1,eT,iH,x5=>if (decide (x5<(hY.length:Int)))=true then ((ix x3 x5).bind fun v1=>if (decide (x5 > 0))=true then ((ix x3 (i64.wrap (x5 - 1))).bind fun v2=>(ix aE v2).bind fun v3=>(ix aE v1).bind fun v4=>(eV.f m v3 v4).bind fun x6=>if (!(x6==0))=true then ((ix eT v1).bind fun v5=>aH.l1 m aE hY x3 k (eT.set v1.toNat (i64.wrap (iH+1))) (i64.wrap (iH+1)) (i64.wrap (x5+1))) else ((ix eT v1).bind fun v6=>aH.l1 m aE hY x3 k (eT.set v1.toNat iH) iH (i64.wrap (x5+1)))) else ((ix eT v1).bind fun v7=>aH.l1 m aE hY x3 k (eT.set v1.toNat iH) iH (i64.wrap (x5+1)))) else (some ((eT,iH,x5)))
def aH.l4 (m:Nat)(eA:List Int)(v8:ai):Nat→(List Int)→Int→Option ((List Int) × Int)
 | 0,_,_=>none
 | k+1,k0,lX=>if (decide (lX<(v8.args.length:Int)))=true then ((ix v8.args lX).bind fun v10=>(ix eA v10).bind fun v11=>(ix k0 (i64.wrap (lX+1))).bind fun v12=>aH.l4 m eA v8 k (k0.set (i64.wrap (lX+1)).toNat (i64.wrap (v11+1))) (i64.wrap (lX+1))) else (some ((k0,lX)))
def aH.l3 (m:Nat)(aE:List ai)(eA:List Int):Nat→(List (List Int × Int))→(List Int)→Int→Option ((List (List Int × Int)) × (List Int) × Int)
 | 0,_,_,_=>none
 | k+1,iP,dh,x9=>if (decide (x9<(aE.length:Int)))=true then ((ix aE x9).bind fun v8=>(ix eA x9).bind fun v9=>(aH.l4 m eA v8 m ([i64.wrap (v9+1),0,0,0,0,0,0,0,0]) 0).bind fun D4=>match D4 with | (k1,xi)=>(On 9 iP k1).bind fun r0=>if (!r0.2)=true then ((Uh 9 iP k1 (iP.length:Int)).bind fun Th=>(On 9 Th k1).bind fun r1=>(ix dh x9).bind fun LG=>aH.l3 m aE eA k Th (dh.set x9.toNat r1.1) (i64.wrap (x9+1))) else ((On 9 iP k1).bind fun r2=>(ix dh x9).bind fun CP=>aH.l3 m aE eA k iP (dh.set x9.toNat r2.1) (i64.wrap (x9+1)))) else (some ((iP,dh,x9)))
def aH.l2 (m:Nat)(aE:List ai):Nat→(List Int)→Int→Option (Sum (List Int) ((List Int) × Int))
 | 0,_,_=>none
 | k+1,eA,mQ=>(sr 8 (aE.length:Int) 0).bind fun x8=>(aH.l3 m aE eA m ([]:List (List Int × Int)) x8 0).bind fun jI=>match jI with | (r9,eL,Jj)=>if ((r9.length:Int)==(i64.wrap (mQ+1)))=true then (some (.inl eA)) else (aH.l2 m aE k eL (i64.wrap ((r9.length:Int) - 1)))
def aH.f (m:Nat)(aE:List ai):Option ((List Int)):=(sr 8 (aE.length:Int) 0).bind fun x0=>(aH.l0 m x0 m x0 0).bind fun bI=>match bI with | (hY,x2)=>(il.f m hY (fun y0 y1=>fy.f m y0 y1 aE)).bind fun x3=>(sr 8 (aE.length:Int) 0).bind fun x4=>(aH.l1 m aE hY x3 m x4 0 0).bind fun qJ=>match qJ with | (jD,many1,x7)=>(aH.l2 m aE m jD many1).bind fun L3=>match L3 with | .inl r3=>some r3 | .inr (qS,Vl)=>none
def aH.fin (L:Mem)(r:(List Int))(s:St):Prop:=∃av,aM Tryz.prog (s.open tS) Tryz.f96.results.toList=some av∧fG s.h av (ae.fz r)
def S96 (cf:CallF)(m:Nat):Prop:=∀(aE:List ai) (r:(List Int)),aH.f m aE=some r→∀h xs,aZ b5 h xs [af.fz aE]→cf 96 xs h=some (ae.fz r,h)
section
variable {cf:CallF}{m:Nat}
theorem aH.cF (L:Mem)(aE:List ai)(aV:Nat)(x0:List Int)   : cd Tryz.prog cf tS m (sub [1,1,0,1,0,0] (bA Tryz.f96)) (fun k (σ:(List Int) × Int)=>aH.l0 m x0 k σ.1 σ.2) (fun σ s=>match σ with | (ju,x1)=>∃cm h2,s=⟨.any :: .ptr aV 0 :: .any :: .rs cm 0 ju.length 1::DC (.i (x0.length:Int) :: .i x1::FF []),[none],h2⟩∧Has h2 ((cm,.sl ju.length 1 (ae.l ju))::(aV,.ob [af.fz aE])::L)) (fun out e s=>(e = .exit 0∧∃ju x1,(ju,x1)=out∧∃uT L6 L7 cm h2,s=⟨.any :: .ptr aV 0 :: .any :: .rs cm 0 ju.length 1::DC (uT::L6::L7::Q2 []),[none],h2⟩∧Has h2 ((cm,.sl ju.length 1 (ae.l ju))::(aV,.ob [af.fz aE])::L))):=by
 refine jW (fun _=>rfl) ?_
 rintro k ⟨ju,x1⟩ s out ⟨cm,h2,rfl,o2⟩ H
 have H:aH.l0 m x0 (k+1) ju x1=some out:=H
 refine q1 <| qq <| qc H (fun c0 H=>?_) (fun c0 H=>?_)
 ·refine qk <| qq <| qb 1 <| qq <| q0 ?_
  obtain⟨v0,e3,H⟩:=aQ H
  obtain⟨h3,e4,o3⟩:=dJ (P:=Tryz.prog) (tf:=3) (E:=ae) (l:=ju) (q:=0) (v:=x1) (x:=.i x1) o2 rfl Z3 e3 rfl rfl
  exact qr [.v 3 (aL (k:=.i64) (E:=ae) (l:=ju) (q:=0) de o2 rfl e3),.w 4 e4] <| q0 <| ⟨(ju.set x1.toNat x1,i64.wrap (x1+1)),⟨cm,h3,ld,(rz o3)⟩,H⟩
 ·exact qx 0 <| ⟨rfl,ju,x1,oi H,.i (x0.length:Int),.i x1,.bool (decide (x1<(x0.length:Int))),cm,h2,kr,o2⟩
theorem aH.jG (L:Mem)(aE:List ai)(aV:Nat)(cE:Nat)(hY:List Int)(cE:Nat)(x3:(List Int))  (D3:ON cf m):cd Tryz.prog cf tS m (sub [1,1,1,1,1,1,0,1,0,0] (bA Tryz.f96)) (fun k (σ:(List Int) × Int × Int)=>aH.l1 m aE hY x3 k σ.1 σ.2.1 σ.2.2) (fun σ s=>match σ with | (eT,iH,x5)=>∃ir h7,s=⟨.any :: .ptr aV 0 :: .any :: .rs cE 0 hY.length 1 :: .any :: .rs ir 0 eT.length 1 :: .i iH::DC (.rs cE 0 hY.length 1 :: .i (hY.length:Int) :: .i x5::BI []),[none],h7⟩∧Has h7 ((ir,.sl eT.length 1 (ae.l eT))::(cE,.sl hY.length 1 (ae.l x3))::(aV,.ob [af.fz aE])::L)) (fun out e s=>(e = .exit 2∧∃eT iH x5,(eT,iH,x5)=out∧∃BP Ma Mb L9 R9 ir h7,s=⟨.any :: .ptr aV 0 :: .any::BP :: .any :: .rs ir 0 eT.length 1 :: .i iH::DC (Ma::Mb::L9::R9::ss []),[none],h7⟩∧Has h7 ((ir,.sl eT.length 1 (ae.l eT))::(cE,.sl hY.length 1 (ae.l x3))::(aV,.ob [af.fz aE])::L))):=by
 refine jW (fun _=>rfl) ?_
 rintro k ⟨eT,iH,x5⟩ s out ⟨ir,h7,rfl,o7⟩ H
 have H:aH.l1 m aE hY x3 (k+1) eT iH x5=some out:=H
 refine q1 <| qq <| qc H (fun c1 H=>?_) (fun c1 H=>?_)
 ·refine qk <| qq <| qb 3 <| qq ?_
  obtain⟨v1,nW,H⟩:=aQ H
  refine qr [.v 1 (aL (k:=.i64) (E:=ae) (l:=x3) (q:=1) de o7 rfl nW),.v 2 (bn  (E:=ae) (l:=x3) (q:=1) o7 rfl A3 nW rfl)] <| qq <| qq ?_
  rcases dZ H with⟨c2,H⟩| ⟨c2,H⟩
  ·obtain⟨v2,rG,H⟩:=aQ H
   obtain⟨v3,sy,H⟩:=aQ H
   obtain⟨v4,rZ,H⟩:=aQ H
   obtain⟨x6,wG,H⟩:=aQ H
   refine qr [.b 2 c2,.v 3 (show bB Tryz.prog h7 23 (.ptr aV 0)=some (af.fz aE) from b7 (q:=2) (cs:=[af.fz aE]) o7 rfl kr),.v 7 (aL (k:=.i64) (E:=ae) (l:=x3) (q:=1) de o7 rfl rG),.v 8 (bn  (E:=ae) (l:=x3) (q:=1) o7 rfl A3 rG rfl),.v 9 (bW (k:=.i64) (E:=af) (l:=aE) lF sy),.v 10 (gf  (E:=af) (l:=aE) h7 sM sN sy),.v 11 (show bB Tryz.prog h7 23 (.ptr aV 0)=some (af.fz aE) from b7 (q:=2) (cs:=[af.fz aE]) o7 rfl kr),.v 13 (bW (k:=.i64) (E:=af) (l:=aE) lF rZ),.v 14 (gf  (E:=af) (l:=aE) h7 sM sN rZ),.a 15 (D3 _ _ _ wG h7 _ fq)] ?_
   refine qc H (fun c3 H=>?_) (fun c3 H=>?_)
   ·refine q0 ?_
    obtain⟨v5,sA,H⟩:=aQ H
    obtain⟨h8,uP,o8⟩:=dJ (P:=Tryz.prog) (tf:=3) (E:=ae) (l:=eT) (q:=0) (v:=(i64.wrap (iH+1))) (x:=.i (i64.wrap (iH+1))) o7 rfl Z3 sA rfl rfl
    exact qr [.v 3 (aL (k:=.i64) (E:=ae) (l:=eT) (q:=0) de o7 rfl sA),.w 4 uP] <| q0 <| ⟨(eT.set v1.toNat (i64.wrap (iH+1)),i64.wrap (iH+1),i64.wrap (x5+1)),⟨ir,h8,ld,(rz o8)⟩,H⟩
   ·refine qk ?_
    obtain⟨v6,wK,H⟩:=aQ H
    obtain⟨h9,zk,o9⟩:=dJ (P:=Tryz.prog) (tf:=3) (E:=ae) (l:=eT) (q:=0) (v:=iH) (x:=.i iH) o7 rfl Z3 wK rfl rfl
    exact qr [.v 3 (aL (k:=.i64) (E:=ae) (l:=eT) (q:=0) de o7 rfl wK),.w 4 zk] <| q0 <| ⟨(eT.set v1.toNat iH,iH,i64.wrap (x5+1)),⟨ir,h9,ld,(rz o9)⟩,H⟩
  ·refine qr [.b 2 c2] <| zD <| qk ?_
   obtain⟨v7,vU,H⟩:=aQ H
   obtain⟨h10,Av,sO⟩:=dJ (P:=Tryz.prog) (tf:=3) (E:=ae) (l:=eT) (q:=0) (v:=iH) (x:=.i iH) o7 rfl Z3 vU rfl rfl
   exact qr [.v 3 (aL (k:=.i64) (E:=ae) (l:=eT) (q:=0) de o7 rfl vU),.w 4 Av] <| q0 <| ⟨(eT.set v1.toNat iH,iH,i64.wrap (x5+1)),⟨ir,h10,ld,(rz sO)⟩,H⟩
 ·exact qx 2 <| ⟨rfl,eT,iH,x5,oi H,.rs cE 0 hY.length 1,.rs cE 0 hY.length 1,.i (hY.length:Int),.i x5,.bool (decide (x5<(hY.length:Int))),ir,h7,ld,(rz o7)⟩
theorem aH.tM (L:Mem)(aE:List ai)(aV:Nat)(iA:Nat)(eA:List Int)(mQ:Int)(iA:Nat)(lh:Nat)(eR:Nat)(iP:List (List Int × Int))(dh:List Int)(x9:Int)(eR:Nat)(v8:ai)(ij:Nat)   : cd Tryz.prog cf tS m (sub [1,1,1,1,1,1,1,0,0,0,1,1,0,1,0,0,1,1,0,0,1,1,0,1,0,0] (bA Tryz.f96)) (fun k (σ:(List Int) × Int)=>aH.l4 m eA v8 k σ.1 σ.2) (fun σ s=>match σ with | (k0,lX)=>∃h18,s=⟨.any :: .ptr aV 0::mU (.rs iA 0 eA.length 1 :: .i mQ :: .any :: .any :: .mp lh :: .rs eR 0 dh.length 1 :: .i x9 :: .any :: .ptr ij 0::ss (af.fz aE :: .i (aE.length:Int) :: .i x9 :: .any::ae.fz v8.args :: .i (v8.args.length:Int) :: .i lX::mU [])),[none],h18⟩∧Has h18 ((ij,.sl 9 1 (ae.l k0))::(eR,.sl dh.length 1 (ae.l dh))::(lh,.mp (BG iP))::(iA,.sl eA.length 1 (ae.l eA))::(aV,.ob [af.fz aE])::L)) (fun out e s=>(e = .exit 8∧∃k0 lX,(k0,lX)=out∧∃Yx Yy Yz YA h18,s=⟨.any :: .ptr aV 0::mU (.rs iA 0 eA.length 1 :: .i mQ :: .any :: .any :: .mp lh :: .rs eR 0 dh.length 1 :: .i x9 :: .any :: .ptr ij 0::ss [af.fz aE,.i (aE.length:Int),.i x9,.any,Yx,Yy,Yz,YA,.any,.any]),[none],h18⟩∧Has h18 ((ij,.sl 9 1 (ae.l k0))::(eR,.sl dh.length 1 (ae.l dh))::(lh,.mp (BG iP))::(iA,.sl eA.length 1 (ae.l eA))::(aV,.ob [af.fz aE])::L))):=by
 refine jW (fun _=>rfl) ?_
 rintro k ⟨k0,lX⟩ s out ⟨h18,rfl,zI⟩ H
 have H:aH.l4 m eA v8 (k+1) k0 lX=some out:=H
 refine q1 <| qq <| qc H (fun c6 H=>?_) (fun c6 H=>?_)
 ·refine qk <| qq <| qb 9 <| qq ?_
  obtain⟨v10,Jo,H⟩:=aQ H
  refine qr [.v 1 (bW (k:=.i64) (E:=ae) (l:=v8.args) de Jo),.v 2 (dk  (E:=ae) (l:=v8.args) h18 A3 Jo rfl)] ?_
  obtain⟨v11,Jp,H⟩:=aQ H
  obtain⟨v12,E0,H⟩:=aQ H
  obtain⟨h19,Jn,LJ⟩:=dJ (P:=Tryz.prog) (tf:=3) (E:=ae) (l:=k0) (q:=0) (v:=(i64.wrap (v11+1))) (x:=.i (i64.wrap (v11+1))) zI rfl Z3 E0 rfl rfl
  exact qr [.v 4 (aL (k:=.i64) (E:=ae) (l:=eA) (q:=3) de zI rfl Jp),.v 5 (bn  (E:=ae) (l:=eA) (q:=3) zI rfl A3 Jp rfl),.v 7 (Q0 (k:=.i64) (q:=0) (l:=k0) Ar zI rfl E0),.w 8 Jn] <| q0 <| ⟨(k0.set (i64.wrap (lX+1)).toNat (i64.wrap (v11+1)),i64.wrap (lX+1)),⟨h19,kr,LJ⟩,H⟩
 ·exact qx 8 <| ⟨rfl,k0,lX,oi H,ae.fz v8.args,.i (v8.args.length:Int),.i lX,.bool (decide (lX<(v8.args.length:Int))),h18,kr,zI⟩
theorem aH.tL (L:Mem)(aE:List ai)(aV:Nat)(iA:Nat)(eA:List Int)(mQ:Int)(iA:Nat)(lh:Nat)   : cd Tryz.prog cf tS m (sub [1,1,1,1,1,1,1,0,0,0,1,1,0,1,0,0] (bA Tryz.f96)) (fun k (σ:(List (List Int × Int)) × (List Int) × Int)=>aH.l3 m aE eA k σ.1 σ.2.1 σ.2.2) (fun σ s=>match σ with | (iP,dh,x9)=>∃eR h15,s=⟨.any :: .ptr aV 0::mU (.rs iA 0 eA.length 1 :: .i mQ :: .any :: .any :: .mp lh :: .rs eR 0 dh.length 1::yi (af.fz aE :: .i (aE.length:Int) :: .i x9::EY [])),[none],h15⟩∧Has h15 ((eR,.sl dh.length 1 (ae.l dh))::(lh,.mp (BG iP))::(iA,.sl eA.length 1 (ae.l eA))::(aV,.ob [af.fz aE])::L)) (fun out e s=>(e = .exit 6∧∃iP dh x9,(iP,dh,x9)=out∧∃YB YC YD YE eR h15,s=⟨.any :: .ptr aV 0::mU (.rs iA 0 eA.length 1 :: .i mQ :: .any :: .any :: .mp lh :: .rs eR 0 dh.length 1::yi (YB::YC::YD::YE::yh [])),[none],h15⟩∧Has h15 ((eR,.sl dh.length 1 (ae.l dh))::(lh,.mp (BG iP))::(iA,.sl eA.length 1 (ae.l eA))::(aV,.ob [af.fz aE])::L))):=by
 refine jW (fun _=>rfl) ?_
 rintro k ⟨iP,dh,x9⟩ s out ⟨eR,h15,rfl,pa⟩ H
 have H:aH.l3 m aE eA (k+1) iP dh x9=some out:=H
 refine q1 <| qq <| qc H (fun c5 H=>?_) (fun c5 H=>?_)
 ·refine qk <| qq <| qb 7 <| qq ?_
  obtain⟨v8,B3,H⟩:=aQ H
  refine qr [.v 1 (bW (k:=.i64) (E:=af) (l:=aE) lF B3),.v 2 (gf  (E:=af) (l:=aE) h15 sM sN B3)] <| qq ?_
  obtain⟨v9,CQ,H⟩:=aQ H
  obtain⟨ij,h16,Jm,zn⟩:=Oq (cs:=[.i 0,.i 0,.i 0,.i 0,.i 0,.i 0,.i 0,.i 0,.i 0]) (l:=[0,0,0,0,0,0,0,0,0]) pa kr
  obtain⟨h17,Hy,px⟩:=Q1 (q:=0) (l:=([0,0,0,0,0,0,0,0,0])) (l':=[i64.wrap (v9+1),0,0,0,0,0,0,0,0]) (x:=.agg [.i (i64.wrap (v9+1)),.i 0,.i 0,.i 0,.i 0,.i 0,.i 0,.i 0,.i 0]) Ar zn rfl rfl rfl
  refine qr [.v 2 (aL (k:=.i64) (E:=ae) (l:=eA) (q:=2) de pa rfl CQ),.v 3 (bn  (E:=ae) (l:=eA) (q:=2) pa rfl A3 CQ rfl),.a 6 Jm,.w 7 Hy] <| qq <| qq <| q0 <| qb 8 ?_
  obtain⟨D4,JY,H⟩:=aQ H
  refine ql (aH.tM L aE aV iA eA mQ iA lh eR iP dh x9 eR v8 ij   ([i64.wrap (v9+1),0,0,0,0,0,0,0,0],0) _ _ ⟨h17,kr,px⟩ JY) ?_
  rintro e s ⟨rfl,k1,xi,rfl,g13,g14,g15,g16,h20,rfl,yJ⟩
  try dsimp only at H
  refine qq <| qq ?_
  obtain⟨r0,OI,H⟩:=aQ H
  refine qr [.v 1 (show bB Tryz.prog h20 121 (.ptr ij 0)=some (.agg (ae.l k1)) from BH (q:=0) (l:=k1) Ar yJ rfl),.v 2 (show iR Tryz.prog h20 119 (.mp lh) (.agg (ae.l k1)) true=some (.tup [.i r0.1,.bool r0.2]) from (QY (q:=2) (l:=iP) (k:=k1) G9 yJ rfl OI).1)] <| qq <| q0 <| qc H (fun c7 H=>?_) (fun c7 H=>?_)
  ·obtain⟨Th,OJ,H⟩:=aQ H
   obtain⟨h21,RL,uV⟩:=Xk (q:=2) (l:=iP) (k:=k1) (v:=(iP.length:Int)) G9 yJ rfl OJ
   refine qr [.v 1 (show bB Tryz.prog h20 121 (.ptr ij 0)=some (.agg (ae.l k1)) from BH (q:=0) (l:=k1) Ar yJ rfl),.v 3 (show xq Tryz.prog h20 119 (.mp lh)=some (.i (iP.length:Int)) from QZ (q:=2) (l:=iP) Lu yJ rfl),.w 4 RL] ?_
   obtain⟨r1,RN,H⟩:=aQ H
   obtain⟨LG,OL,H⟩:=aQ H
   obtain⟨h22,Te,Hx⟩:=dJ (P:=Tryz.prog) (tf:=3) (E:=ae) (l:=dh) (q:=1) (v:=r1.1) (x:=.i r1.1) uV rfl Z3 OL rfl rfl
   refine qr [.v 3 (show bB Tryz.prog h21 121 (.ptr ij 0)=some (.agg (ae.l k1)) from BH (q:=0) (l:=k1) Ar uV rfl),.v 4 (show iR Tryz.prog h21 119 (.mp lh) (.agg (ae.l k1)) false=some (.i r1.1) from (QY (q:=2) (l:=Th) (k:=k1) G9 uV rfl RN).2),.v 5 (aL (k:=.i64) (E:=ae) (l:=dh) (q:=1) de uV rfl OL),.w 6 Te] ?_
   have LK:Has h22 ((eR,.sl dh.length 1 (ae.l (dh.set x9.toNat r1.1)))::(lh,.mp (BG Th))::(iA,.sl eA.length 1 (ae.l eA))::(aV,.ob [af.fz aE])::L):=jV Hx 0
   exact q0 <| ⟨(Th,dh.set x9.toNat r1.1,i64.wrap (x9+1)),⟨eR,h22,ld,(rz LK)⟩,H⟩
  ·refine qk ?_
   obtain⟨r2,U4,H⟩:=aQ H
   obtain⟨CP,OP,H⟩:=aQ H
   obtain⟨h23,PX,RM⟩:=dJ (P:=Tryz.prog) (tf:=3) (E:=ae) (l:=dh) (q:=1) (v:=r2.1) (x:=.i r2.1) yJ rfl Z3 OP rfl rfl
   refine qr [.v 3 (show bB Tryz.prog h20 121 (.ptr ij 0)=some (.agg (ae.l k1)) from BH (q:=0) (l:=k1) Ar yJ rfl),.v 4 (show iR Tryz.prog h20 119 (.mp lh) (.agg (ae.l k1)) false=some (.i r2.1) from (QY (q:=2) (l:=iP) (k:=k1) G9 yJ rfl U4).2),.v 5 (aL (k:=.i64) (E:=ae) (l:=dh) (q:=1) de yJ rfl OP),.w 6 PX] ?_
   have mS:Has h23 ((eR,.sl dh.length 1 (ae.l (dh.set x9.toNat r2.1)))::(lh,.mp (BG iP))::(iA,.sl eA.length 1 (ae.l eA))::(aV,.ob [af.fz aE])::L):=jV RM 0
   exact q0 <| ⟨(iP,dh.set x9.toNat r2.1,i64.wrap (x9+1)),⟨eR,h23,ld,(rz mS)⟩,H⟩
 ·exact qx 6 <| ⟨rfl,iP,dh,x9,oi H,af.fz aE,.i (aE.length:Int),.i x9,.bool (decide (x9<(aE.length:Int))),eR,h15,kr,pa⟩
theorem aH.n5 (L:Mem)(aE:List ai)(aV:Nat)   : cd Tryz.prog cf tS m (sub [1,1,1,1,1,1,1,0,0] (bA Tryz.f96)) (fun k (σ:(List Int) × Int)=>aH.l2 m aE k σ.1 σ.2) (fun σ s=>match σ with | (eA,mQ)=>∃g8 g9 g10 g11 g12 iA h12,s=⟨.any :: .ptr aV 0 :: .any::g8 :: .any :: .rs iA 0 eA.length 1 :: .i mQ::DC (g9::g10::g11::g12::ss []),[none],h12⟩∧Has h12 ((iA,.sl eA.length 1 (ae.l eA))::(aV,.ob [af.fz aE])::L)) (fun out e s=>(e = .exit 4∧∃eA mQ,.inr (eA,mQ)=out∧∃wC BP DP DR Ma Mb L9 R9 iA h12,s=⟨.any::wC :: .any::BP :: .any::DP::DR::DC (Ma::Mb::L9::R9::ss []),[none],h12⟩∧Has h12 ((iA,.sl eA.length 1 (ae.l eA))::(aV,.ob [af.fz aE])::L))∨(e = .ret∧∃r,.inl r=out∧aH.fin L r s)):=by
 refine jW (fun _=>rfl) ?_
 rintro k ⟨eA,mQ⟩ s out ⟨g8,g9,g10,g11,g12,iA,h12,rfl,mK⟩ H
 have H:aH.l2 m aE (k+1) eA mQ=some out:=H
 refine qb 5 <| qq ?_
 obtain⟨lh,h13,Ax,rJ⟩:=KY mK
 refine qr [.m 0 Ax] <| qq ?_
 obtain⟨x8,zl,H⟩:=aQ H
 obtain⟨ml,h14,zH,zm⟩:=qv (P:=Tryz.prog) (E:=ae) (z:=0) (zv:=.i 0) de rJ 3 rfl rfl rfl rfl zl
 refine qr [.v 0 (show bB Tryz.prog h13 23 (.ptr aV 0)=some (af.fz aE) from b7 (q:=2) (cs:=[af.fz aE]) rJ rfl kr),.a 2 zH] <| qq <| qq <| qr [.v 0 (show bB Tryz.prog h14 23 (.ptr aV 0)=some (af.fz aE) from b7 (q:=3) (cs:=[af.fz aE]) zm rfl kr)] <| qb 6 ?_
 obtain⟨jI,PY,H⟩:=aQ H
 refine ql (aH.tL L aE aV iA eA mQ iA lh   (([]:List (List Int × Int)),x8,0) _ _ ⟨ml,h14,kr,zm⟩ PY) ?_
 rintro e s ⟨rfl,r9,eL,Jj,rfl,g17,g18,g19,g20,fF,h24,rfl,NI⟩
 try dsimp only at H
 refine qq <| qq <| qr [.v 1 (show xq Tryz.prog h24 119 (.mp lh)=some (.i (r9.length:Int)) from QZ (q:=1) (l:=r9) Lu NI rfl)] <| qc H (fun c8 H=>?_) (fun c8 H=>?_)
 ·refine q1 ?_
  have JZ:Has h24 ((fF,.sl eL.length 1 (ae.l eL))::(lh,.mp (BG r9))::(iA,.sl eA.length 1 (ae.l eA))::L):=jV NI 3
  have RP:Has h24 ((fF,.sl eL.length 1 (ae.l eL))::(iA,.sl eA.length 1 (ae.l eA))::L):=jV JZ 1
  have RQ:Has h24 ((iA,.sl eA.length 1 (ae.l eA))::L):=jV RP 0
  exact qt <| agv (⟨rfl,_,oi H,yo (.rs iA 0 eA.length 1) h24 (vP (GZ (E:=ae) (l:=eA) (q:=0) RQ rfl (fun _=>rfl)))⟩)
 ·refine qk <| qr [.v 2 (show xq Tryz.prog h24 119 (.mp lh)=some (.i (r9.length:Int)) from QZ (q:=1) (l:=r9) Lu NI rfl)] ?_
  have Tb:Has h24 ((fF,.sl eL.length 1 (ae.l eL))::(lh,.mp (BG r9))::(aV,.ob [af.fz aE])::L):=jV NI 2
  have Yc:Has h24 ((fF,.sl eL.length 1 (ae.l eL))::(aV,.ob [af.fz aE])::L):=jV Tb 1
  exact⟨(eL,i64.wrap ((r9.length:Int) - 1)),⟨.any,.any,.any,.any,.any,fF,h24,kr,Yc⟩,H⟩
theorem tT {aX:FuncId→bX}(ha:aX 96=tS)(D3:ON cf m)(Vm:Vi cf m)(Vn:UX cf m)(aE:List ai)(h:AHeap)(L:Mem)  (o:Has h (L)){out:(List Int)}(H:aH.f m aE=some out) :
  ∃r h',ba Tryz.prog aX cf m 96 [af.fz aE] h=some (r,h')∧fG h' r (ae.fz out):=by
 refine ax (fn:=Tryz.f96) ha Tryz.func96 kr kr ?_
 refine aI (Q:=fun s=>aH.fin L out s) (fun _ _ h=>h) ?_
 have H:_=some out:=H
 unfold aH.f at H
 show dB _ cf tS m _ ⟨af.fz aE::Xr [],[none],h⟩ _
 refine qq ?_
 obtain⟨aV,h0,e0,o0⟩:=iX (cs:=[af.fz aE]) o kr
 refine qr [.a 0 e0] <| qq ?_
 obtain⟨x0,e1,H⟩:=aQ H
 obtain⟨dr,h1,e2,o1⟩:=qv (P:=Tryz.prog) (E:=ae) (z:=0) (zv:=.i 0) de o0 3 rfl rfl rfl rfl e1
 refine qr [.v 0 (show bB Tryz.prog h0 23 (.ptr aV 0)=some (af.fz aE) from b7 (q:=0) (cs:=[af.fz aE]) o0 rfl kr),.a 2 e2] <| qq <| qq <| q0 <| qb 0 ?_
 obtain⟨bI,e5,H⟩:=aQ H
 refine ql (aH.cF L aE aV x0   (x0,0) _ _ ⟨dr,h1,kr,o1⟩ e5) ?_
 rintro e s ⟨rfl,hY,x2,rfl,g0,g1,g2,cE,h4,rfl,o4⟩
 try dsimp only at H
 refine qq ?_
 obtain⟨x3,e6,H⟩:=aQ H
 obtain⟨h5,e7,o5⟩:=Vm _ _ _ e6 h4 _ _ _ (o4) 115 [.ptr aV 0] [.fp [af.fz aE] 0] rfl (fun h' zF y0 y1 r hr hx=>Vn y0 y1 _ r hr h' zF hx) (fun h' K' o'=>ll (ao (da (q:=(K'.length+0)) o' (lV rfl) (ao (kF (E:=af)) (aJ))) (aJ))) (fun h_=>ll (ao (gT (pure_cons (bY.bz (E:=af) (l:=aE)) (pure_nil))) (aJ))) [.rs cE 0 hY.length 1,.fn 115 [.ptr aV 0]] cq
 refine qr [.a 2 e7] <| qq ?_
 obtain⟨x4,e8,H⟩:=aQ H
 obtain⟨dT,h6,e9,o6⟩:=qv (P:=Tryz.prog) (E:=ae) (z:=0) (zv:=.i 0) de o5 3 rfl rfl rfl rfl e8
 refine qr [.v 0 (show bB Tryz.prog h5 23 (.ptr aV 0)=some (af.fz aE) from b7 (q:=1) (cs:=[af.fz aE]) o5 rfl kr),.a 2 e9] <| qq <| q0 <| qq <| qq <| q0 <| qb 2 ?_
 obtain⟨qJ,Aw,H⟩:=aQ H
 refine ql (aH.jG L aE aV cE hY cE x3  D3 (x4,0,0) _ _ ⟨dT,h6,ld,(rz o6)⟩ Aw) ?_
 rintro e s ⟨rfl,jD,many1,x7,rfl,g3,g4,g5,g6,g7,iy,h11,rfl,tH⟩
 try dsimp only at H
 refine qb 4 ?_
 have xj:Has h11 ((iy,.sl jD.length 1 (ae.l jD))::(aV,.ob [af.fz aE])::L):=jV tH 1
 obtain⟨L3,Td,H⟩:=aQ H
 refine ql (aH.n5 L aE aV   (jD,many1) _ _ ⟨g3,g4,g5,g6,g7,iy,h11,kr,xj⟩ Td) ?_
 rintro e s (⟨rfl,qS,Vl,rfl,g21,g22,g23,g24,g25,g26,g27,g28,fP,h25,rfl,o33⟩| ⟨rfl,r3,rfl,sw⟩)
 ·try dsimp only at H
  cases H
 ·try dsimp only at H
  obtain rfl:=oi H
  exact⟨.inl rfl,sw⟩
end
def HW:bX:=gP [0,1,2,3,4,5,6] [2,4000005] [121,113,97,65,1,25,91,123] [] [(0,[(2,some 0,4)])]
def gV.f (m:Nat)(t0:bm):Option (bm):=(aH.f m t0.nodes).bind fun x0=>(bq.f m m t0.root ([]:List (Int × Int)) x0 (bm.mk ([]:List ai) 0) t0).bind fun x1=>some x1.2.2
def gV.fin (L:Mem)  (r:bm)(s:St):Prop:=∃(du:Nat) (eU:List Nat),aM Tryz.prog (s.open HW) Tryz.f62.results.toList=some (.agg [.rs du 0 r.nodes.length 4,.i r.root])∧Has s.h ((du,.sl r.nodes.length 4 (eM.l (bl r.nodes eU)))::(fQ r.nodes eU++L))
def S62 (cf:CallF)(m:Nat):Prop:=∀(t0:bm) (r:bm),gV.f m t0=some r→∀h L xs,Has h L→aZ b5 h xs [.agg [af.fz t0.nodes,.i t0.root]]→∃(du:Nat) (eU:List Nat) (h':AHeap),cf 62 xs h=some (.agg [.rs du 0 r.nodes.length 4,.i r.root],h')∧Has h' ((du,.sl r.nodes.length 4 (eM.l (bl r.nodes eU)))::(fQ r.nodes eU++L))∧∀j,j<h.next→h.ver j=h'.ver j
section
variable {cf:CallF}{m:Nat}
theorem wV {aX:FuncId→bX}(ha:aX 62=HW)(YF:S96 cf m)(Lx:Wg cf m m)(t0:bm)(h:AHeap)(L:Mem)  (o:Has h (L)){out:bm}(H:gV.f m t0=some out) :
  ∃r h',ba Tryz.prog aX cf m 62 [.agg [af.fz t0.nodes,.i t0.root]] h=some (r,h')∧∃(du:Nat) (eU:List Nat),r = .agg [.rs du 0 out.nodes.length 4,.i out.root]∧Has h' ((du,.sl out.nodes.length 4 (eM.l (bl out.nodes eU)))::(fQ out.nodes eU++L)):=by
 refine ax (fn:=Tryz.f62) ha Tryz.func62 kr kr ?_
 refine aI (Q:=fun s=>gV.fin L out s) (fun _ _ ⟨h1,du,eU,h2,h3⟩=>⟨h1,_,h2,du,eU,rfl,h3⟩) ?_
 have H:_=some out:=H
 unfold gV.f at H
 show dB _ cf HW m _ ⟨.agg [af.fz t0.nodes,.i t0.root]::yh [],[none,none],h⟩ _
 refine qq ?_
 obtain⟨aV,h0,e0,o0⟩:=iX (cs:=[af.fz t0.nodes,.i t0.root]) o kr
 refine qr [.a 0 e0] ?_
 have o1:Has h0 (((0),.sl (([]:List ai).length) 4 (eM.l (bl ([]:List ai) ([]:List Nat))))::(aV,.ob [af.fz t0.nodes,.i t0.root])::L):=Has.nil o0 4
 refine qq ?_
 obtain⟨x0,e1,H⟩:=aQ H
 obtain⟨dr,h1,e2,o2⟩:=iX (cs:=[.nils]) o1 kr
 obtain⟨h2,e3,o3⟩:=kb (P:=Tryz.prog) (t:=22) (off:=0) (q:=0) (cs:=[.nils]) (gF:=[ae.fz x0]) (x:=ae.fz x0) o2 rfl kr
 refine qr [.v 1 (show bB Tryz.prog h0 23 (.ptr aV 0)=some (af.fz t0.nodes) from b7 (q:=1) (cs:=[af.fz t0.nodes,.i t0.root]) o1 rfl kr),.a 2 (YF _ _ e1 h0 _ fq),.a 3 e2,.w 4 e3] <| qq ?_
 obtain⟨cm,h3,e4,o4⟩:=KY o3
 obtain⟨cE,h4,e5,o5⟩:=iX (cs:=[.pC]) o4 kr
 obtain⟨h5,e6,o6⟩:=kb (P:=Tryz.prog) (t:=84) (off:=0) (q:=0) (cs:=[.pC]) (gF:=[.mp cm]) (x:=.mp cm) o5 rfl kr
 refine qr [.m 0 e4,.a 1 e5,.w 2 e6] <| qq ?_
 have o7:Has h5 ((((0)),.sl (([]:List ai).length) 4 (af.l ([]:List ai)))::(cE,.ob [.mp cm])::(cm,.mp (ug ([]:List (Int × Int))))::(dr,.ob [ae.fz x0])::((0),.sl (([]:List ai).length) 4 (eM.l (bl ([]:List ai) ([]:List Nat))))::(aV,.ob [af.fz t0.nodes,.i t0.root])::L):=Has.nil o6 4
 obtain⟨dT,h6,e7,o8⟩:=iX (cs:=[.rs ((0)) 0 (([]:List ai).length) 4,.i 0]) o7 kr
 refine qr [.a 0 e7] <| qq ?_
 obtain⟨ir,h7,e8,o9⟩:=iX (cs:=[.sQ]) o8 kr
 refine qr [.a 0 e8] <| qq ?_
 obtain⟨h8,e9,sO⟩:=kb (P:=Tryz.prog) (t:=94) (off:=0) (q:=0) (cs:=[.sQ]) (gF:=[.fn 97 [.ptr cE 0,.ptr dr 0,.ptr dT 0,.ptr aV 0,.ptr ir 0]]) (x:=.fn 97 [.ptr cE 0,.ptr dr 0,.ptr dT 0,.ptr aV 0,.ptr ir 0]) o9 rfl kr
 refine qr [.w 1 e9] <| qq ?_
 obtain⟨x1,nW,H⟩:=aQ H
 obtain⟨iy,eU,h9,rG,tH⟩:=Lx _ _ _ _ _ _ nW h8 _ _ _ _ _ _ ([]:List Nat) _ _ ((bN (bN (bN (bN (bN (bN (bN (bN sO 6) 1) 7) 4) 4) 7) 7) 7))  [.i t0.root,.ptr cE 0,.ptr dr 0,.ptr dT 0,.ptr aV 0,.ptr ir 0] cq
 have xj:=Has.DM (pre:=[(cE,.ob [.mp cm]),(cm,.mp (ug x1.2.1)),(dr,.ob [ae.fz x0]),(dT,.ob [.rs iy 0 x1.2.2.nodes.length 4,.i x1.2.2.root]),(iy,.sl x1.2.2.nodes.length 4 (eM.l (bl x1.2.2.nodes eU))),(aV,.ob [af.fz t0.nodes,.i t0.root]),(ir,.ob [.fn 97 [.ptr cE 0,.ptr dr 0,.ptr dT 0,.ptr aV 0,.ptr ir 0]])]) (N:=[((0),.sl (([]:List ai).length) 4 (eM.l (bl ([]:List ai) ([]:List Nat))))]) (mid:=fQ x1.2.2.nodes eU) tH
 refine qr [.v 0 (show bB Tryz.prog h8 94 (.ptr ir 0)=some (.fn 97 [.ptr cE 0,.ptr dr 0,.ptr dT 0,.ptr aV 0,.ptr ir 0]) from b7 (q:=0) (cs:=[.fn 97 [.ptr cE 0,.ptr dr 0,.ptr dT 0,.ptr aV 0,.ptr ir 0]]) sO rfl kr),.v 2 (show bB Tryz.prog h8 3 (.ptr aV 1)=some (.i t0.root) from b7 (q:=7) (cs:=[af.fz t0.nodes,.i t0.root]) sO rfl kr),.a 3 rG] ?_
 have mK:Has h9 ((cE,.ob [.mp cm])::(cm,.mp (ug x1.2.1))::(dr,.ob [ae.fz x0])::(dT,.ob [.rs iy 0 x1.2.2.nodes.length 4,.i x1.2.2.root])::(iy,.sl x1.2.2.nodes.length 4 (eM.l (bl x1.2.2.nodes eU)))::(aV,.ob [af.fz t0.nodes,.i t0.root])::((0),.sl (([]:List ai).length) 4 (eM.l (bl ([]:List ai) ([]:List Nat))))::(fQ x1.2.2.nodes eU++L)):=jV xj 6
 have rJ:Has h9 ((cE,.ob [.mp cm])::(cm,.mp (ug x1.2.1))::(dr,.ob [ae.fz x0])::(dT,.ob [.rs iy 0 x1.2.2.nodes.length 4,.i x1.2.2.root])::(iy,.sl x1.2.2.nodes.length 4 (eM.l (bl x1.2.2.nodes eU)))::((0),.sl (([]:List ai).length) 4 (eM.l (bl ([]:List ai) ([]:List Nat))))::(fQ x1.2.2.nodes eU++L)):=jV mK 5
 have zm:Has h9 ((cE,.ob [.mp cm])::(cm,.mp (ug x1.2.1))::(dT,.ob [.rs iy 0 x1.2.2.nodes.length 4,.i x1.2.2.root])::(iy,.sl x1.2.2.nodes.length 4 (eM.l (bl x1.2.2.nodes eU)))::((0),.sl (([]:List ai).length) 4 (eM.l (bl ([]:List ai) ([]:List Nat))))::(fQ x1.2.2.nodes eU++L)):=jV rJ 2
 have pa:Has h9 ((cE,.ob [.mp cm])::(dT,.ob [.rs iy 0 x1.2.2.nodes.length 4,.i x1.2.2.root])::(iy,.sl x1.2.2.nodes.length 4 (eM.l (bl x1.2.2.nodes eU)))::((0),.sl (([]:List ai).length) 4 (eM.l (bl ([]:List ai) ([]:List Nat))))::(fQ x1.2.2.nodes eU++L)):=jV zm 1
 have zn:Has h9 ((dT,.ob [.rs iy 0 x1.2.2.nodes.length 4,.i x1.2.2.root])::(iy,.sl x1.2.2.nodes.length 4 (eM.l (bl x1.2.2.nodes eU)))::((0),.sl (([]:List ai).length) 4 (eM.l (bl ([]:List ai) ([]:List Nat))))::(fQ x1.2.2.nodes eU++L)):=jV pa 0
 refine qs [.v 0 (show bB Tryz.prog h9 25 (.ptr dT 0)=some (.agg [.rs iy 0 x1.2.2.nodes.length 4,.i x1.2.2.root]) from b7 (q:=0) (cs:=[.rs iy 0 x1.2.2.nodes.length 4,.i x1.2.2.root]) zn rfl kr)] ?_
 have px:Has h9 ((dT,.ob [.rs iy 0 x1.2.2.nodes.length 4,.i x1.2.2.root])::(iy,.sl x1.2.2.nodes.length 4 (eM.l (bl x1.2.2.nodes eU)))::(fQ x1.2.2.nodes eU++L)):=jV zn 2
 have zI:Has h9 ((iy,.sl x1.2.2.nodes.length 4 (eM.l (bl x1.2.2.nodes eU)))::(fQ x1.2.2.nodes eU++L)):=jV px 0
 obtain rfl:=oi H
 exact qt <| ⟨.inl rfl,⟨iy,eU,kr,he zI⟩⟩
end
def HX:bX:=gP [0,1,2,3,6] [1,2] [25,9,19,19] [] [(0,[(2,some 0,4)]),(2,[(2,some 0,4)])]
def jJ.f (m:Nat)(t0:bm):Option (bm × Int):=(jc.f m t0).bind fun x0=>if (!x0)=true then (some ((bm.mk ([]:List ai) 0),2)) else ((gV.f m t0).bind fun x1=>some (x1,0))
def jJ.fin (L:Mem)  (r:bm × Int)(s:St):Prop:=∃(du:Nat) (eU:List Nat),aM Tryz.prog (s.open HX) Tryz.f25.results.toList=some (.tup [.agg [.rs du 0 r.1.nodes.length 4,.i r.1.root],.i r.2])∧Has s.h ((du,.sl r.1.nodes.length 4 (eM.l (bl r.1.nodes eU)))::(fQ r.1.nodes eU++L))
def S25 (cf:CallF)(m:Nat):Prop:=∀(t0:bm) (r:bm × Int),jJ.f m t0=some r→∀h L xs,Has h L→aZ b5 h xs [.agg [af.fz t0.nodes,.i t0.root]]→∃(du:Nat) (eU:List Nat) (h':AHeap),cf 25 xs h=some (.tup [.agg [.rs du 0 r.1.nodes.length 4,.i r.1.root],.i r.2],h')∧Has h' ((du,.sl r.1.nodes.length 4 (eM.l (bl r.1.nodes eU)))::(fQ r.1.nodes eU++L))∧∀j,j<h.next→h.ver j=h'.ver j
section
variable {cf:CallF}{m:Nat}
theorem wW {aX:FuncId→bX}(ha:aX 25=HX)(R8:Ys cf m)(YG:S62 cf m)(t0:bm)(h:AHeap)(L:Mem)  (o:Has h (L)){out:bm × Int}(H:jJ.f m t0=some out) :
  ∃r h',ba Tryz.prog aX cf m 25 [.agg [af.fz t0.nodes,.i t0.root]] h=some (r,h')∧∃(du:Nat) (eU:List Nat),r = .tup [.agg [.rs du 0 out.1.nodes.length 4,.i out.1.root],.i out.2]∧Has h' ((du,.sl out.1.nodes.length 4 (eM.l (bl out.1.nodes eU)))::(fQ out.1.nodes eU++L)):=by
 refine ax (fn:=Tryz.f25) ha Tryz.func25 kr kr ?_
 refine aI (Q:=fun s=>jJ.fin L out s) (fun _ _ ⟨h1,du,eU,h2,h3⟩=>⟨h1,_,h2,du,eU,rfl,h3⟩) ?_
 have H:_=some out:=H
 unfold jJ.f at H
 show dB _ cf HX m _ ⟨.agg [af.fz t0.nodes,.i t0.root]::lW [],[none,none],h⟩ _
 refine q1 ?_
 have o0:Has h (((0),.sl (([]:List ai).length) 4 (eM.l (bl ([]:List ai) ([]:List Nat))))::L):=Has.nil o 4
 refine qq <| qq ?_
 obtain⟨x0,e0,H⟩:=aQ H
 refine qr [.a 1 (R8 _ _ e0 h _ fq)] <| qc H (fun c0 H=>?_) (fun c0 H=>?_)
 ·refine q1 ?_
  have o1:Has h ((((0)),.sl (([]:List ai).length) 4 (eM.l (bl ([]:List ai) ([]:List Nat))))::((0),.sl (([]:List ai).length) 4 (eM.l (bl ([]:List ai) ([]:List Nat))))::L):=Has.nil o0 4
  have o2:Has h ((((0)),.sl (([]:List ai).length) 4 (eM.l (bl ([]:List ai) ([]:List Nat))))::L):=jV o1 1
  obtain rfl:=oi H
  exact qt <| ⟨.inl rfl,⟨((0)),([]:List Nat),kr,he o2⟩⟩
 ·refine qk <| qq ?_
  obtain⟨x1,e1,H⟩:=aQ H
  obtain⟨aV,eS,h0,e2,o3,NT⟩:=YG _ _ e1 h _ _ o0 fq
  have o4:=Has.DM (pre:=[(aV,.sl x1.nodes.length 4 (eM.l (bl x1.nodes eS)))]) (N:=[((0),.sl (([]:List ai).length) 4 (eM.l (bl ([]:List ai) ([]:List Nat))))]) (mid:=fQ x1.nodes eS) o3
  refine qr [.a 1 e2] ?_
  have o5:Has h0 ((aV,.sl x1.nodes.length 4 (eM.l (bl x1.nodes eS)))::(fQ x1.nodes eS++L)):=jV o4 1
  obtain rfl:=oi H
  exact qt <| ⟨.inl rfl,⟨aV,eS,kr,he o5⟩⟩
end
def yW:bX:=gP [0,1,3,4,5,6,7,8,9,10,11,14,21,33,35,36,37,38,44,51,52,53] [3,6,10] [4194298,4192250,4194279,4194206,4190110,4194279,4194142,4185950,4194279,4079486,3948414,4078718,3816574,4078718,2505854,408702,2504830,2505854,2505854,4079486,4079486,4194279] [(19,[(10,some 3,0)])] [(3,[(6,some 0,4)]),(11,[(10,some 3,1)])]
def aO.l1 (m:Nat)(s0:ab)(v0:ai):Nat→Int→(List Int)→ab→Option (Int × (List Int) × ab)
 | 0,_,_,_=>none
 | k+1,x3,n0,s2=>if (decide (x3<(v0.args.length:Int)))=true then ((ix n0 x3).bind fun v1=>(ix n0 x3).bind fun v2=>aO.l1 m s0 v0 k (i64.wrap (x3+1)) (n0.set x3.toNat (i64.wrap (v1+(s0.aa.length:Int)))) s2) else (some ((x3,n0,s2)))
def aO.l2 (m:Nat)(s0:ab)(v0:ai):Nat→Int→(List Int)→ab→Option (Int × (List Int) × ab)
 | 0,_,_,_=>none
 | k+1,x7,n2,s4=>if (decide (x7<(v0.args.length:Int)))=true then ((ix n2 x7).bind fun v3=>(ix n2 x7).bind fun v4=>aO.l2 m s0 v0 k (i64.wrap (x7+1)) (n2.set x7.toNat (i64.wrap (v3+(s0.aa.length:Int)))) s4) else (some ((x7,n2,s4)))
def aO.l0 (m:Nat)(s0:ab)(x1:bm × Int):Nat→Int→ab→Option (Int × ab)
 | 0,_,_=>none
 | k+1,x2,s1=>if (decide (x2<(x1.1.nodes.length:Int)))=true then ((ix x1.1.nodes x2).bind fun v0=>if (v0.kind==0)=true then ((aO.l1 m s0 v0 m 0 v0.args s1).bind fun bI=>match bI with | (x4,n1,s3)=>(app 56 s3.aa ([(ai.mk v0.kind (i64.wrap ((s0.aa.length:Int)+x2)) v0.label n1)])).bind fun x5=>(app 8 s3.an ([i64.wrap ((s0.aa.length:Int)+x2)])).bind fun x6=>aO.l0 m s0 x1 k (i64.wrap (x2+1)) (ab.mk s3.aA x5 x6)) else ((aO.l2 m s0 v0 m 0 v0.args s1).bind fun eT=>match eT with | (x8,n3,s5)=>(app 56 s5.aa ([(ai.mk v0.kind v0.int v0.label n3)])).bind fun x9=>(app 8 s5.an ([i64.wrap ((s0.aa.length:Int)+x2)])).bind fun lX=>aO.l0 m s0 x1 k (i64.wrap (x2+1)) (ab.mk s5.aA x9 lX))) else (some ((x2,s1)))
def aO.f (m:Nat)(s0:ab)(t0:bm):Option (Int × Int × ab):=(cw.f m s0).bind fun x0=>if (!x0)=true then (some (0,6,s0)) else ((jJ.f m t0).bind fun x1=>if (!(x1.2==0))=true then (some (0,x1.2,s0)) else (if (decide ((i64.wrap ((s0.aa.length:Int)+(x1.1.nodes.length:Int))) > 8000))=true then (some (0,7,s0)) else ((aO.l0 m s0 x1 m 0 s0).bind fun jD=>match jD with | (xi,s6)=>some ((s0.aa.length:Int),0,s6))))
def aO.fin (L:Mem)(aq:Nat)(ak:Nat)(az:Nat)(s0:ab)(t0:bm)(r:Int × Int × ab)(s:St):Prop:=∃aB aC:Nat,aM Tryz.prog (s.open yW) Tryz.f22.results.toList=some (.tup [.i r.1,.i r.2.1])∧Has s.h ((aq,.ob [.bool r.2.2.aA,.rs aB 0 r.2.2.aa.length 4,.rs aC 0 r.2.2.an.length 1])::(aB,.sl r.2.2.aa.length 4 (af.l r.2.2.aa))::(aC,.sl r.2.2.an.length 1 (ae.l r.2.2.an))::L)
def S22 (cf:CallF)(m:Nat):Prop:=∀(s0:ab) (t0:bm) (r:Int × Int × ab),aO.f m s0 t0=some r→∀h L (aq:Nat) (ak:Nat) (az:Nat),Has h ((aq,.ob [.bool s0.aA,.rs ak 0 s0.aa.length 4,.rs az 0 s0.an.length 1])::(ak,.sl s0.aa.length 4 (af.l s0.aa))::(az,.sl s0.an.length 1 (ae.l s0.an))::L)→∀xs,xs.map aP=[.ptr aq 0,.agg [af.fz t0.nodes,.i t0.root]]→∃aB aC h',cf 22 xs h=some (.tup [.i r.1,.i r.2.1],h')∧Has h' ((aq,.ob [.bool r.2.2.aA,.rs aB 0 r.2.2.aa.length 4,.rs aC 0 r.2.2.an.length 1])::(aB,.sl r.2.2.aa.length 4 (af.l r.2.2.aa))::(aC,.sl r.2.2.an.length 1 (ae.l r.2.2.an))::L)
section
variable {cf:CallF}{m:Nat}
theorem aO.jG (L:Mem)(aq:Nat)(ak:Nat)(az:Nat)(s0:ab)(t0:bm)(x1:bm × Int)(aV:Nat)(eS:List Nat)(x2:Int)(v0:ai)   : cd Tryz.prog cf yW m (sub [1,1,1,1,1,1,0,1,0,0,1,1,0,0,1,1,0,1,0,0] (bA Tryz.f22)) (fun k (σ:Int × (List Int) × ab)=>aO.l1 m s0 v0 k σ.1 σ.2.1 σ.2.2) (fun σ s=>match σ with | (x3,n0,s2)=>∃cE dT ir h2,s=⟨.ptr aq 0::yh (.i (s0.aa.length:Int) :: .i x2 :: .lp 10 0::lW [.rs aV 0 x1.1.nodes.length 4,.i (x1.1.nodes.length:Int),.i x2,.any,.any,.i (v0.args.length:Int),.i x3,.any]),[none,none,some [.i v0.kind,.i (i64.wrap ((s0.aa.length:Int)+x2)),.str v0.label,.rs cE 0 n0.length 1]],h2⟩∧Has h2 ((cE,.sl n0.length 1 (ae.l n0))::(aV,.sl x1.1.nodes.length 4 (eM.l (bl x1.1.nodes eS)))::(aq,.ob [.bool s2.aA,.rs dT 0 s2.aa.length 4,.rs ir 0 s2.an.length 1])::(dT,.sl s2.aa.length 4 (af.l s2.aa))::(ir,.sl s2.an.length 1 (ae.l s2.an))::(fQ (x1.1.nodes.drop ((i64.wrap (x2+1)).toNat)) (eS.drop ((i64.wrap (x2+1)).toNat))++L))) (fun out e s=>(e = .exit 2∧∃x3 n0 s2,(x3,n0,s2)=out∧∃L8 Sa Ly cE dT ir h2,s=⟨.ptr aq 0::yh (.i (s0.aa.length:Int) :: .i x2 :: .lp 10 0::lW [.rs aV 0 x1.1.nodes.length 4,.i (x1.1.nodes.length:Int),.i x2,.any,.any,L8,Sa,Ly]),[none,none,some [.i v0.kind,.i (i64.wrap ((s0.aa.length:Int)+x2)),.str v0.label,.rs cE 0 n0.length 1]],h2⟩∧Has h2 ((cE,.sl n0.length 1 (ae.l n0))::(aV,.sl x1.1.nodes.length 4 (eM.l (bl x1.1.nodes eS)))::(aq,.ob [.bool s2.aA,.rs dT 0 s2.aa.length 4,.rs ir 0 s2.an.length 1])::(dT,.sl s2.aa.length 4 (af.l s2.aa))::(ir,.sl s2.an.length 1 (ae.l s2.an))::(fQ (x1.1.nodes.drop ((i64.wrap (x2+1)).toNat)) (eS.drop ((i64.wrap (x2+1)).toNat))++L)))):=by
 refine jW (fun _=>rfl) ?_
 rintro k ⟨x3,n0,s2⟩ s out ⟨cE,dT,ir,h2,rfl,o6⟩ H
 have H:aO.l1 m s0 v0 (k+1) x3 n0 s2=some out:=H
 refine q1 <| qq <| qc H (fun c5 H=>?_) (fun c5 H=>?_)
 ·refine qk <| qq <| qb 3 <| qq <| q0 ?_
  obtain⟨v1,e4,H⟩:=aQ H
  obtain⟨v2,e5,H⟩:=aQ H
  obtain⟨h3,e6,o7⟩:=dJ (P:=Tryz.prog) (tf:=3) (E:=ae) (l:=n0) (q:=0) (v:=(i64.wrap (v1+(s0.aa.length:Int)))) (x:=.i (i64.wrap (v1+(s0.aa.length:Int)))) o6 rfl Z3 e5 rfl rfl
  exact qr [.v 3 (aL (k:=.i64) (E:=ae) (l:=n0) (q:=0) de o6 rfl e4),.v 4 (bn  (E:=ae) (l:=n0) (q:=0) o6 rfl A3 e4 rfl),.v 7 (aL (k:=.i64) (E:=ae) (l:=n0) (q:=0) de o6 rfl e5),.w 8 e6] <| q0 <| ⟨(i64.wrap (x3+1),n0.set x3.toNat (i64.wrap (v1+(s0.aa.length:Int))),s2),⟨cE,dT,ir,h3,ld,(rz o7)⟩,H⟩
 ·exact qx 2 <| ⟨rfl,x3,n0,s2,oi H,.i (v0.args.length:Int),.i x3,.bool (decide (x3<(v0.args.length:Int))),cE,dT,ir,h2,kr,o6⟩
theorem aO.n5 (L:Mem)(aq:Nat)(ak:Nat)(az:Nat)(s0:ab)(t0:bm)(x1:bm × Int)(aV:Nat)(eS:List Nat)(x2:Int)(v0:ai)   : cd Tryz.prog cf yW m (sub [1,1,1,1,1,1,0,1,0,0,1,1,0,0,1,1,0,1,0,0] (bA Tryz.f22)) (fun k (σ:Int × (List Int) × ab)=>aO.l2 m s0 v0 k σ.1 σ.2.1 σ.2.2) (fun σ s=>match σ with | (x7,n2,s4)=>∃ij fF fP h10,s=⟨.ptr aq 0::yh (.i (s0.aa.length:Int) :: .i x2 :: .lp 10 0::lW [.rs aV 0 x1.1.nodes.length 4,.i (x1.1.nodes.length:Int),.i x2,.any,.any,.i (v0.args.length:Int),.i x7,.any]),[none,none,some [.i v0.kind,.i v0.int,.str v0.label,.rs ij 0 n2.length 1]],h10⟩∧Has h10 ((ij,.sl n2.length 1 (ae.l n2))::(aV,.sl x1.1.nodes.length 4 (eM.l (bl x1.1.nodes eS)))::(aq,.ob [.bool s4.aA,.rs fF 0 s4.aa.length 4,.rs fP 0 s4.an.length 1])::(fF,.sl s4.aa.length 4 (af.l s4.aa))::(fP,.sl s4.an.length 1 (ae.l s4.an))::(fQ (x1.1.nodes.drop ((i64.wrap (x2+1)).toNat)) (eS.drop ((i64.wrap (x2+1)).toNat))++L))) (fun out e s=>(e = .exit 2∧∃x7 n2 s4,(x7,n2,s4)=out∧∃L8 Sa Ly ij fF fP h10,s=⟨.ptr aq 0::yh (.i (s0.aa.length:Int) :: .i x2 :: .lp 10 0::lW [.rs aV 0 x1.1.nodes.length 4,.i (x1.1.nodes.length:Int),.i x2,.any,.any,L8,Sa,Ly]),[none,none,some [.i v0.kind,.i v0.int,.str v0.label,.rs ij 0 n2.length 1]],h10⟩∧Has h10 ((ij,.sl n2.length 1 (ae.l n2))::(aV,.sl x1.1.nodes.length 4 (eM.l (bl x1.1.nodes eS)))::(aq,.ob [.bool s4.aA,.rs fF 0 s4.aa.length 4,.rs fP 0 s4.an.length 1])::(fF,.sl s4.aa.length 4 (af.l s4.aa))::(fP,.sl s4.an.length 1 (ae.l s4.an))::(fQ (x1.1.nodes.drop ((i64.wrap (x2+1)).toNat)) (eS.drop ((i64.wrap (x2+1)).toNat))++L)))):=by
 refine jW (fun _=>rfl) ?_
 rintro k ⟨x7,n2,s4⟩ s out ⟨ij,fF,fP,h10,rfl,rJ⟩ H
 have H:aO.l2 m s0 v0 (k+1) x7 n2 s4=some out:=H
 refine q1 <| qq <| qc H (fun c6 H=>?_) (fun c6 H=>?_)
 ·refine qk <| qq <| qb 3 <| qq <| q0 ?_
  obtain⟨v3,sA,H⟩:=aQ H
  obtain⟨v4,uP,H⟩:=aQ H
  obtain⟨h11,wK,zm⟩:=dJ (P:=Tryz.prog) (tf:=3) (E:=ae) (l:=n2) (q:=0) (v:=(i64.wrap (v3+(s0.aa.length:Int)))) (x:=.i (i64.wrap (v3+(s0.aa.length:Int)))) rJ rfl Z3 uP rfl rfl
  exact qr [.v 3 (aL (k:=.i64) (E:=ae) (l:=n2) (q:=0) de rJ rfl sA),.v 4 (bn  (E:=ae) (l:=n2) (q:=0) rJ rfl A3 sA rfl),.v 7 (aL (k:=.i64) (E:=ae) (l:=n2) (q:=0) de rJ rfl uP),.w 8 wK] <| q0 <| ⟨(i64.wrap (x7+1),n2.set x7.toNat (i64.wrap (v3+(s0.aa.length:Int))),s4),⟨ij,fF,fP,h11,ld,(rz zm)⟩,H⟩
 ·exact qx 2 <| ⟨rfl,x7,n2,s4,oi H,.i (v0.args.length:Int),.i x7,.bool (decide (x7<(v0.args.length:Int))),ij,fF,fP,h10,kr,rJ⟩
theorem aO.cF (L:Mem)(aq:Nat)(ak:Nat)(az:Nat)(s0:ab)(t0:bm)(x1:bm × Int)(aV:Nat)(eS:List Nat)   : cd Tryz.prog cf yW m (sub [1,1,1,1,1,1,0,1,0,0] (bA Tryz.f22)) (fun k (σ:Int × ab)=>aO.l0 m s0 x1 k σ.1 σ.2) (fun σ s=>match σ with | (x2,s1)=>∃dr cm h1,s=⟨.ptr aq 0::yh (.i (s0.aa.length:Int)::yh (.rs aV 0 x1.1.nodes.length 4 :: .i (x1.1.nodes.length:Int) :: .i x2::wz [])),[none,none,none],h1⟩∧Has h1 ((aV,.sl x1.1.nodes.length 4 (eM.l (bl x1.1.nodes eS)))::(aq,.ob [.bool s1.aA,.rs dr 0 s1.aa.length 4,.rs cm 0 s1.an.length 1])::(dr,.sl s1.aa.length 4 (af.l s1.aa))::(cm,.sl s1.an.length 1 (ae.l s1.an))::(fQ (x1.1.nodes.drop x2.toNat) (eS.drop x2.toNat)++L))) (fun out e s=>(e = .exit 0∧∃x2 s1,(x2,s1)=out∧∃nA R6 YH Ma Mb dr cm h1,s=⟨nA::yh (.i (s0.aa.length:Int)::yh (R6::YH::Ma::Mb::lW [])),[none,none,none],h1⟩∧Has h1 ((aV,.sl x1.1.nodes.length 4 (eM.l (bl x1.1.nodes eS)))::(aq,.ob [.bool s1.aA,.rs dr 0 s1.aa.length 4,.rs cm 0 s1.an.length 1])::(dr,.sl s1.aa.length 4 (af.l s1.aa))::(cm,.sl s1.an.length 1 (ae.l s1.an))::(fQ (x1.1.nodes.drop x2.toNat) (eS.drop x2.toNat)++L)))):=by
 refine jW (fun _=>rfl) ?_
 rintro k ⟨x2,s1⟩ s out ⟨dr,cm,h1,rfl,o4⟩ H
 have H:aO.l0 m s0 x1 (k+1) x2 s1=some out:=H
 refine q1 <| qq <| qc H (fun c3 H=>?_) (fun c3 H=>?_)
 ·refine qk <| qq <| qb 1 <| qq ?_
  obtain⟨v0,e3,H⟩:=aQ H
  have o5:=Lt (pre:=[(aV,.sl x1.1.nodes.length 4 (eM.l (bl x1.1.nodes eS))),(aq,.ob [.bool s1.aA,.rs dr 0 s1.aa.length 4,.rs cm 0 s1.an.length 1]),(dr,.sl s1.aa.length 4 (af.l s1.aa)),(cm,.sl s1.an.length 1 (ae.l s1.an))]) (q:=0) (ns:=x1.1.nodes) (ids:=eS) o4 rfl e3
  refine qr [.v 1 (aL (k:=.i64) (E:=eM) (l:=(bl x1.1.nodes eS)) (q:=0) lF o4 rfl (kn e3)),.v 2 (xg  (E:=eM) (l:=(bl x1.1.nodes eS)) (q:=0) o4 rfl sM sN (kn e3))] <| qq <| qq <| q0 <| qc H (fun c4 H=>?_) (fun c4 H=>?_)
  ·refine q0 <| qq <| qq <| q0 <| qb 2 ?_
   obtain⟨bI,e7,H⟩:=aQ H
   refine ql (aO.jG L aq ak az s0 t0 x1 aV eS x2 v0   (0,v0.args,s1) _ _ ⟨(JU eS x2),dr,cm,h1,kr,o5⟩ e7) ?_
   rintro e s ⟨rfl,x4,n1,s3,rfl,g0,g1,g2,iy,iA,lh,h4,rfl,o8⟩
   try dsimp only at H
   obtain⟨h5,e8,o9⟩:=lT (E:=ae) (l:=n1) (q:=0) o8 rfl
   obtain⟨x5,e9,H⟩:=aQ H
   obtain⟨ml,h6,nW,sO⟩:=dY (P:=Tryz.prog) (E:=af) (l:=s3.aa) (q:=2) (t2:=23) (x:=.fz [.i v0.kind,.i (i64.wrap ((s0.aa.length:Int)+x2)),.str v0.label,ae.fz n1] 1 true) (l2:=([(ai.mk v0.kind (i64.wrap ((s0.aa.length:Int)+x2)) v0.label n1)])) lF o9 rfl kr rfl e9
   obtain⟨x6,rG,H⟩:=aQ H
   obtain⟨eR,h7,sy,tH⟩:=dY (P:=Tryz.prog) (E:=ae) (l:=s3.an) (q:=3) (t2:=22) (x:=.fz [.i (i64.wrap ((s0.aa.length:Int)+x2))] 1 true) (l2:=([i64.wrap ((s0.aa.length:Int)+x2)])) de sO rfl kr rfl rG
   obtain⟨h8,rZ,xj⟩:=kb (P:=Tryz.prog) (t:=23) (off:=1) (q:=1) (cs:=[.bool s3.aA,.rs iA 0 s3.aa.length 4,.rs lh 0 s3.an.length 1]) (gF:=[.bool s3.aA,.rs ml 0 x5.length 4,.rs lh 0 s3.an.length 1]) (x:=.rs ml 0 x5.length 4) tH rfl kr
   obtain⟨h9,wG,mK⟩:=kb (P:=Tryz.prog) (t:=22) (off:=2) (q:=1) (cs:=[.bool s3.aA,.rs ml 0 x5.length 4,.rs lh 0 s3.an.length 1]) (gF:=[.bool s3.aA,.rs ml 0 x5.length 4,.rs eR 0 x6.length 1]) (x:=.rs eR 0 x6.length 1) xj rfl kr
   exact Ro [.a 0 e8] [.v 5 (show bB Tryz.prog h5 23 (.ptr aq 1)=some (.rs iA 0 s3.aa.length 4) from b7 (q:=1) (cs:=[.bool s3.aA,.rs iA 0 s3.aa.length 4,.rs lh 0 s3.an.length 1]) o9 rfl kr),.a 8 nW,.v 12 (show bB Tryz.prog h6 22 (.ptr aq 2)=some (.rs lh 0 s3.an.length 1) from b7 (q:=1) (cs:=[.bool s3.aA,.rs iA 0 s3.aa.length 4,.rs lh 0 s3.an.length 1]) sO rfl kr),.a 17 sy,.w 20 rZ,.w 23 wG] [.mk (yq o9 (q:=2) rfl (q2:=1) rfl (by decide) nW)] <| q0 <| ⟨(i64.wrap (x2+1),(ab.mk s3.aA x5 x6)),⟨ml,eR,h9,kr,mK⟩,H⟩
  ·refine qk <| qq <| qq <| q0 <| qb 2 ?_
   obtain⟨eT,zk,H⟩:=aQ H
   refine ql (aO.n5 L aq ak az s0 t0 x1 aV eS x2 v0   (0,v0.args,s1) _ _ ⟨(JU eS x2),dr,cm,h1,kr,o5⟩ zk) ?_
   rintro e s ⟨rfl,x8,n3,s5,rfl,g3,g4,g5,gI,iJ,jm,h12,rfl,pa⟩
   try dsimp only at H
   obtain⟨h13,vU,zn⟩:=lT (E:=ae) (l:=n3) (q:=0) pa rfl
   obtain⟨x9,Av,H⟩:=aQ H
   obtain⟨lY,h14,Aw,px⟩:=dY (P:=Tryz.prog) (E:=af) (l:=s5.aa) (q:=2) (t2:=23) (x:=.fz [.i v0.kind,.i v0.int,.str v0.label,ae.fz n3] 1 true) (l2:=([(ai.mk v0.kind v0.int v0.label n3)])) lF zn rfl kr rfl Av
   obtain⟨lX,Ax,H⟩:=aQ H
   obtain⟨mM,h15,zl,zI⟩:=dY (P:=Tryz.prog) (E:=ae) (l:=s5.an) (q:=3) (t2:=22) (x:=.fz [.i (i64.wrap ((s0.aa.length:Int)+x2))] 1 true) (l2:=([i64.wrap ((s0.aa.length:Int)+x2)])) de px rfl kr rfl Ax
   obtain⟨h16,zH,LJ⟩:=kb (P:=Tryz.prog) (t:=23) (off:=1) (q:=1) (cs:=[.bool s5.aA,.rs iJ 0 s5.aa.length 4,.rs jm 0 s5.an.length 1]) (gF:=[.bool s5.aA,.rs lY 0 x9.length 4,.rs jm 0 s5.an.length 1]) (x:=.rs lY 0 x9.length 4) zI rfl kr
   obtain⟨h17,B3,yJ⟩:=kb (P:=Tryz.prog) (t:=22) (off:=2) (q:=1) (cs:=[.bool s5.aA,.rs lY 0 x9.length 4,.rs jm 0 s5.an.length 1]) (gF:=[.bool s5.aA,.rs lY 0 x9.length 4,.rs mM 0 lX.length 1]) (x:=.rs mM 0 lX.length 1) LJ rfl kr
   exact Ro [.a 0 vU] [.v 5 (show bB Tryz.prog h13 23 (.ptr aq 1)=some (.rs iJ 0 s5.aa.length 4) from b7 (q:=1) (cs:=[.bool s5.aA,.rs iJ 0 s5.aa.length 4,.rs jm 0 s5.an.length 1]) zn rfl kr),.a 8 Aw,.v 12 (show bB Tryz.prog h14 22 (.ptr aq 2)=some (.rs jm 0 s5.an.length 1) from b7 (q:=1) (cs:=[.bool s5.aA,.rs iJ 0 s5.aa.length 4,.rs jm 0 s5.an.length 1]) px rfl kr),.a 17 zl,.w 20 zH,.w 23 B3] [.mk (yq zn (q:=2) rfl (q2:=1) rfl (by decide) Aw)] <| q0 <| ⟨(i64.wrap (x2+1),(ab.mk s5.aA x9 lX)),⟨lY,mM,h17,kr,yJ⟩,H⟩
 ·exact qx 0 <| ⟨rfl,x2,s1,oi H,.ptr aq 0,.rs aV 0 x1.1.nodes.length 4,.i (x1.1.nodes.length:Int),.i x2,.bool (decide (x2<(x1.1.nodes.length:Int))),dr,cm,h1,kr,o4⟩
theorem qW {aX:FuncId→bX}(ha:aX 22=yW)(YI:S25 cf m)(FJ:UB cf m)(s0:ab)(t0:bm)(h:AHeap)(L:Mem)(aq:Nat)(ak:Nat)(az:Nat)  (o:Has h ((aq,.ob [.bool s0.aA,.rs ak 0 s0.aa.length 4,.rs az 0 s0.an.length 1])::(ak,.sl s0.aa.length 4 (af.l s0.aa))::(az,.sl s0.an.length 1 (ae.l s0.an))::L)){out:Int × Int × ab}(H:aO.f m s0 t0=some out) :
  ∃r h',ba Tryz.prog aX cf m 22 [.ptr aq 0,.agg [af.fz t0.nodes,.i t0.root]] h=some (r,h')∧∃aB aC:Nat,r = .tup [.i out.1,.i out.2.1]∧Has h' ((aq,.ob [.bool out.2.2.aA,.rs aB 0 out.2.2.aa.length 4,.rs aC 0 out.2.2.an.length 1])::(aB,.sl out.2.2.aa.length 4 (af.l out.2.2.aa))::(aC,.sl out.2.2.an.length 1 (ae.l out.2.2.an))::L):=by
 refine ax (fn:=Tryz.f22) ha Tryz.func22 kr kr ?_
 refine aI (Q:=fun s=>aO.fin L aq ak az s0 t0 out s) (fun _ _ ⟨h1,aB,aC,h2,h3⟩=>⟨h1,_,h2,aB,aC,rfl,h3⟩) ?_
 have H:_=some out:=H
 unfold aO.f at H
 show dB _ cf yW m _ ⟨.ptr aq 0 :: .agg [af.fz t0.nodes,.i t0.root]::Uj [],[none,none,none],h⟩ _
 refine q1 <| qq <| qq ?_
 obtain⟨x0,e0,H⟩:=aQ H
 refine qr [.a 1 (FJ _ _ e0 h _ (km (ao (da (q:=0) o rfl (ao (dD) (ao (b4 (E:=af) (l:=s0.aa) (q:=1) o rfl (fun _=>rfl)) (ao (b4 (E:=ae) (l:=s0.an) (q:=2) o rfl (fun _=>rfl)) (aJ))))) (aJ))))] <| qc H (fun c0 H=>?_) (fun c0 H=>?_)
 ·obtain rfl:=oi H
  exact q1 <| qt <| ⟨.inl rfl,⟨ak,az,kr,he o⟩⟩
 ·refine qk <| qq ?_
  obtain⟨x1,e1,H⟩:=aQ H
  obtain⟨aV,eS,h0,e2,o0,NT⟩:=YI _ _ e1 h _ _ o fq
  have o1:=Has.DM (pre:=[(aV,.sl x1.1.nodes.length 4 (eM.l (bl x1.1.nodes eS)))]) (N:=[(aq,.ob [.bool s0.aA,.rs ak 0 s0.aa.length 4,.rs az 0 s0.an.length 1]),(ak,.sl s0.aa.length 4 (af.l s0.aa)),(az,.sl s0.an.length 1 (ae.l s0.an))]) (mid:=fQ x1.1.nodes eS) o0
  refine qr [.a 1 e2] <| qq <| qq <| q0 <| qc H (fun c1 H=>?_) (fun c1 H=>?_)
  ·refine q1 ?_
   have o2:Has h0 ((aq,.ob [.bool s0.aA,.rs ak 0 s0.aa.length 4,.rs az 0 s0.an.length 1])::(ak,.sl s0.aa.length 4 (af.l s0.aa))::(az,.sl s0.an.length 1 (ae.l s0.an))::L):=Has.gone (pre:=[(aq,.ob [.bool s0.aA,.rs ak 0 s0.aa.length 4,.rs az 0 s0.an.length 1]),(ak,.sl s0.aa.length 4 (af.l s0.aa)),(az,.sl s0.an.length 1 (ae.l s0.an))]) (jV o1 0)
   obtain rfl:=oi H
   exact qt <| ⟨.inl rfl,⟨ak,az,kr,he o2⟩⟩
  ·refine qk <| qq <| qr [.v 3 (show bB Tryz.prog h0 23 (.ptr aq 1)=some (.rs ak 0 s0.aa.length 4) from b7 (q:=1) (cs:=[.bool s0.aA,.rs ak 0 s0.aa.length 4,.rs az 0 s0.an.length 1]) o1 rfl kr)] <| qq <| qq <| q0 <| qc H (fun c2 H=>?_) (fun c2 H=>?_)
   ·refine q1 ?_
    have o3:Has h0 ((aq,.ob [.bool s0.aA,.rs ak 0 s0.aa.length 4,.rs az 0 s0.an.length 1])::(ak,.sl s0.aa.length 4 (af.l s0.aa))::(az,.sl s0.an.length 1 (ae.l s0.an))::L):=Has.gone (pre:=[(aq,.ob [.bool s0.aA,.rs ak 0 s0.aa.length 4,.rs az 0 s0.an.length 1]),(ak,.sl s0.aa.length 4 (af.l s0.aa)),(az,.sl s0.an.length 1 (ae.l s0.an))]) (jV o1 0)
    obtain rfl:=oi H
    exact qt <| ⟨.inl rfl,⟨ak,az,kr,he o3⟩⟩
   ·refine qk <| qq <| qq <| q0 <| qb 0 ?_
    obtain⟨jD,CQ,H⟩:=aQ H
    refine ql (aO.cF L aq ak az s0 t0 x1 aV eS   (0,s0) _ _ ⟨ak,az,h0,kr,o1⟩ CQ) ?_
    rintro e s ⟨rfl,xi,s6,rfl,g6,g7,g8,g9,g10,qM,iK,h18,rfl,uV⟩
    try dsimp only at H
    refine q1 ?_
    have Hx:Has h18 ((aq,.ob [.bool s6.aA,.rs qM 0 s6.aa.length 4,.rs iK 0 s6.an.length 1])::(qM,.sl s6.aa.length 4 (af.l s6.aa))::(iK,.sl s6.an.length 1 (ae.l s6.an))::L):=Has.gone (pre:=[(aq,.ob [.bool s6.aA,.rs qM 0 s6.aa.length 4,.rs iK 0 s6.an.length 1]),(qM,.sl s6.aa.length 4 (af.l s6.aa)),(iK,.sl s6.an.length 1 (ae.l s6.an))]) (jV uV 0)
    obtain rfl:=oi H
    exact qt <| ⟨.inl rfl,⟨qM,iK,kr,he Hx⟩⟩
end
def HY:bX:=gP [0,1,2,5,6,7,8,9,10,11,12,13,14,15,16,17,18,19,20,22,23,35,51,67,87,107,123,151] [5] [268435444,268435348,268434964,267910676,266862100,268435293,268434975,265813524,268435285,268434975,263716372,268435285,268434975,259522068,268435285,268434975,251133460,268435285,268434975,234356244,268435285,268434975,200801812,268433909,268427775,268435439,134217236,268378101,267919359,268435439,268435439] [] []
def jK.f (m:Nat)(s0:ab)(t0:aj)(x0:cH):Option (Bool × ab × aj):=if (x0.fN==0)=true then ((gz.f m s0).bind fun x1=>(gC.f m t0).bind fun x2=>if (x1.1==x2.1)=true then (some (x1.2.1==x2.2.1,x1.2.2,x2.2.2)) else (some (false,x1.2.2,x2.2.2))) else (if (x0.fN==1)=true then ((gA.f m s0 x0.pV).bind fun x3=>(gD.f m t0 x0.pV).bind fun x4=>if (x3.1==x4.1)=true then (some (x3.2.1==x4.2.1,x3.2.2,x4.2.2)) else (some (false,x3.2.2,x4.2.2))) else (if (x0.fN==2)=true then ((fW.f m s0 x0.cP).bind fun x5=>(fX.f m t0 x0.cP).bind fun x6=>if (x5.1==x6.1)=true then (some (x5.2.1==x6.2.1,x5.2.2,x6.2.2)) else (some (false,x5.2.2,x6.2.2))) else (if (x0.fN==3)=true then ((fD.f m s0 x0.cP x0.fO).bind fun x7=>(fE.f m t0 x0.cP x0.fO).bind fun x8=>if (x7.1==x8.1)=true then (some (x7.2.1==x8.2.1,x7.2.2,x8.2.2)) else (some (false,x7.2.2,x8.2.2))) else (if (x0.fN==4)=true then ((fU.f m s0 x0.cP x0.pV).bind fun x9=>(fY.f m t0 x0.cP x0.pV).bind fun lX=>if (x9.1==lX.1)=true then (some (x9.2.1==lX.2.1,x9.2.2,lX.2.2)) else (some (false,x9.2.2,lX.2.2))) else (if (x0.fN==5)=true then ((aO.f m s0 x0.rY).bind fun xi=>(aY.f m t0 x0.rY).bind fun Jj=>if (xi.1==Jj.1)=true then (some (xi.2.1==Jj.2.1,xi.2.2,Jj.2.2)) else (some (false,xi.2.2,Jj.2.2))) else (if (x0.fN==6)=true then ((di.f m s0 x0.pV x0.zE).bind fun mI=>(eK.f m t0 x0.pV x0.zE).bind fun ph=>(db.f m mI.1 ph.1).bind fun x15=>if x15=true then (some (mI.2.1==ph.2.1,mI.2.2,ph.2.2)) else (some (false,mI.2.2,ph.2.2))) else (if (x0.fN==7)=true then ((dG.f m s0 x0.pV x0.zE).bind fun sP=>(fe.f m t0 x0.pV x0.zE).bind fun Wk=>if (sP.1==Wk.1)=true then ((db.f m sP.2.1 Wk.2.1).bind fun x18=>if x18=true then (some (sP.2.2.1==Wk.2.2,sP.2.2.2,t0)) else (some (false,sP.2.2.2,t0))) else (some (false,sP.2.2.2,t0))) else (if (0==0)=true then (some (0==0,s0,t0)) else (some (false,s0,t0))))))))))
def jK.fin (L:Mem)(aq:Nat)(ak:Nat)(az:Nat)(iI:Nat)(gr:Nat)(gu:Nat)(s0:ab)(t0:aj)(x0:cH)(r:Bool × ab × aj)(s:St):Prop:=∃aB aC pz pA:Nat,aM Tryz.prog (s.open HY) Tryz.f12.results.toList=some (.bool r.1)∧Has s.h ((aq,.ob [.bool r.2.1.aA,.rs aB 0 r.2.1.aa.length 4,.rs aC 0 r.2.1.an.length 1])::(aB,.sl r.2.1.aa.length 4 (af.l r.2.1.aa))::(aC,.sl r.2.1.an.length 1 (ae.l r.2.1.an))::(iI,.ob [.rs pz 0 r.2.2.ah.length 4,.rs pA 0 r.2.2.au.length 1,.bool r.2.2.aK])::(pz,.sl r.2.2.ah.length 4 (af.l r.2.2.ah))::(pA,.sl r.2.2.au.length 1 (ae.l r.2.2.au))::L)
def S12 (cf:CallF)(m:Nat):Prop:=∀(s0:ab) (t0:aj) (x0:cH) (r:Bool × ab × aj),jK.f m s0 t0 x0=some r→∀h L (aq:Nat) (ak:Nat) (az:Nat) (iI:Nat) (gr:Nat) (gu:Nat),Has h ((aq,.ob [.bool s0.aA,.rs ak 0 s0.aa.length 4,.rs az 0 s0.an.length 1])::(ak,.sl s0.aa.length 4 (af.l s0.aa))::(az,.sl s0.an.length 1 (ae.l s0.an))::(iI,.ob [.rs gr 0 t0.ah.length 4,.rs gu 0 t0.au.length 1,.bool t0.aK])::(gr,.sl t0.ah.length 4 (af.l t0.ah))::(gu,.sl t0.au.length 1 (ae.l t0.au))::L)→∀xs,xs.map aP=[.ptr aq 0,.ptr iI 0,.agg [.i x0.fN,.i x0.pV,.i x0.zE,.str x0.cP,ae.fz x0.fO,af.fz x0.rY.nodes,.i x0.rY.root]]→∃aB aC pz pA h',cf 12 xs h=some (.bool r.1,h')∧Has h' ((aq,.ob [.bool r.2.1.aA,.rs aB 0 r.2.1.aa.length 4,.rs aC 0 r.2.1.an.length 1])::(aB,.sl r.2.1.aa.length 4 (af.l r.2.1.aa))::(aC,.sl r.2.1.an.length 1 (ae.l r.2.1.an))::(iI,.ob [.rs pz 0 r.2.2.ah.length 4,.rs pA 0 r.2.2.au.length 1,.bool r.2.2.aK])::(pz,.sl r.2.2.ah.length 4 (af.l r.2.2.ah))::(pA,.sl r.2.2.au.length 1 (ae.l r.2.2.au))::L)
section
variable {cf:CallF}{m:Nat}
theorem wX {aX:FuncId→bX}(ha:aX 12=HY)(YJ:S22 cf m)(YK:S29 cf m)(YL:S30 cf m)(YM:S31 cf m)(YN:S33 cf m)(YO:S34 cf m)(OR:S35 cf m)(YP:S39 cf m)(YQ:S40 cf m)(YR:S41 cf m)(YS:S42 cf m)(YT:S43 cf m)(YU:S44 cf m)(YV:S45 cf m)(YW:S46 cf m)(YX:S47 cf m)(YY:S48 cf m)(s0:ab)(t0:aj)(x0:cH)(h:AHeap)(L:Mem)(aq:Nat)(ak:Nat)(az:Nat)(iI:Nat)(gr:Nat)(gu:Nat)  (o:Has h ((aq,.ob [.bool s0.aA,.rs ak 0 s0.aa.length 4,.rs az 0 s0.an.length 1])::(ak,.sl s0.aa.length 4 (af.l s0.aa))::(az,.sl s0.an.length 1 (ae.l s0.an))::(iI,.ob [.rs gr 0 t0.ah.length 4,.rs gu 0 t0.au.length 1,.bool t0.aK])::(gr,.sl t0.ah.length 4 (af.l t0.ah))::(gu,.sl t0.au.length 1 (ae.l t0.au))::L)){out:Bool × ab × aj}(H:jK.f m s0 t0 x0=some out) :
  ∃r h',ba Tryz.prog aX cf m 12 [.ptr aq 0,.ptr iI 0,.agg [.i x0.fN,.i x0.pV,.i x0.zE,.str x0.cP,ae.fz x0.fO,af.fz x0.rY.nodes,.i x0.rY.root]] h=some (r,h')∧∃aB aC pz pA:Nat,r = .bool out.1∧Has h' ((aq,.ob [.bool out.2.1.aA,.rs aB 0 out.2.1.aa.length 4,.rs aC 0 out.2.1.an.length 1])::(aB,.sl out.2.1.aa.length 4 (af.l out.2.1.aa))::(aC,.sl out.2.1.an.length 1 (ae.l out.2.1.an))::(iI,.ob [.rs pz 0 out.2.2.ah.length 4,.rs pA 0 out.2.2.au.length 1,.bool out.2.2.aK])::(pz,.sl out.2.2.ah.length 4 (af.l out.2.2.ah))::(pA,.sl out.2.2.au.length 1 (ae.l out.2.2.au))::L):=by
 refine ax (fn:=Tryz.f12) ha Tryz.func12 kr kr ?_
 refine aI (Q:=fun s=>jK.fin L aq ak az iI gr gu s0 t0 x0 out s) (fun _ _ ⟨h1,aB,aC,pz,pA,h2,h3⟩=>⟨h1,_,h2,aB,aC,pz,pA,rfl,h3⟩) ?_
 have H:_=some out:=H
 unfold jK.f at H
 show dB _ cf HY m _ ⟨.ptr aq 0 :: .ptr iI 0 :: .agg [.i x0.fN,.i x0.pV,.i x0.zE,.str x0.cP,ae.fz x0.fO,af.fz x0.rY.nodes,.i x0.rY.root]::Rc [],[none],h⟩ _
 refine q1 <| qq <| q0 <| qq <| q0 <| qq <| qq <| q0 <| qb 0 <| qq <| q0 <| qc H (fun c0 H=>?_) (fun c0 H=>?_)
 ·refine qq ?_
  obtain⟨x1,e0,H⟩:=aQ H
  obtain⟨aV,dr,h0,e1,o0⟩:=YL _ _ e0 h _ _ _ _ (o)  [.ptr aq 0] cq
  refine qr [.a 1 e1] ?_
  obtain⟨x2,e2,H⟩:=aQ H
  obtain⟨cm,cE,h1,e3,o1⟩:=YP _ _ e2 h0 _ _ _ _ ((bN (bN (bN (bN (bN (bN o0 2) 2) 2) 5) 5) 5))  [.ptr iI 0] cq
  refine qr [.a 1 e3] <| qq ?_
  rcases dZ H with⟨c1,H⟩| ⟨c1,H⟩
  ·obtain rfl:=oi H
   exact qr [.b 3 c1] <| qt <| ⟨.inl rfl,⟨aV,dr,cm,cE,kr,he (bN (bN (bN (bN (bN (bN o1 2) 2) 2) 5) 5) 5)⟩⟩
  ·obtain rfl:=oi H
   exact qr [.b 3 c1] <| qt <| ⟨.inl rfl,⟨aV,dr,cm,cE,kr,he (bN (bN (bN (bN (bN (bN o1 2) 2) 2) 5) 5) 5)⟩⟩
 ·refine q1 <| qc H (fun c2 H=>?_) (fun c2 H=>?_)
  ·refine qq ?_
   obtain⟨x3,e4,H⟩:=aQ H
   obtain⟨dT,ir,h2,e5,o2⟩:=YO _ _ _ e4 h _ _ _ _ (o)  [.ptr aq 0,.i x0.pV] cq
   refine qr [.a 3 e5] ?_
   obtain⟨x4,e6,H⟩:=aQ H
   obtain⟨iy,iA,h3,e7,o3⟩:=YQ _ _ _ e6 h2 _ _ _ _ ((bN (bN (bN (bN (bN (bN o2 2) 2) 2) 5) 5) 5))  [.ptr iI 0,.i x0.pV] cq
   refine qr [.a 3 e7] <| qq ?_
   rcases dZ H with⟨c3,H⟩| ⟨c3,H⟩
   ·obtain rfl:=oi H
    exact qr [.b 3 c3] <| qt <| ⟨.inl rfl,⟨dT,ir,iy,iA,kr,he (bN (bN (bN (bN (bN (bN o3 2) 2) 2) 5) 5) 5)⟩⟩
   ·obtain rfl:=oi H
    exact qr [.b 3 c3] <| qt <| ⟨.inl rfl,⟨dT,ir,iy,iA,kr,he (bN (bN (bN (bN (bN (bN o3 2) 2) 2) 5) 5) 5)⟩⟩
  ·refine q1 <| qc H (fun c4 H=>?_) (fun c4 H=>?_)
   ·refine qq ?_
    obtain⟨x5,e8,H⟩:=aQ H
    obtain⟨lh,ml,h4,e9,o4⟩:=YM _ _ _ e8 h _ _ _ _ (o)  [.ptr aq 0,.str x0.cP] cq
    refine qr [.a 3 e9] ?_
    obtain⟨x6,nW,H⟩:=aQ H
    obtain⟨eR,ij,h5,rG,o5⟩:=YR _ _ _ nW h4 _ _ _ _ ((bN (bN (bN (bN (bN (bN o4 2) 2) 2) 5) 5) 5))  [.ptr iI 0,.str x0.cP] cq
    refine qr [.a 3 rG] <| qq ?_
    rcases dZ H with⟨c5,H⟩| ⟨c5,H⟩
    ·obtain rfl:=oi H
     exact qr [.b 3 c5] <| qt <| ⟨.inl rfl,⟨lh,ml,eR,ij,kr,he (bN (bN (bN (bN (bN (bN o5 2) 2) 2) 5) 5) 5)⟩⟩
    ·obtain rfl:=oi H
     exact qr [.b 3 c5] <| qt <| ⟨.inl rfl,⟨lh,ml,eR,ij,kr,he (bN (bN (bN (bN (bN (bN o5 2) 2) 2) 5) 5) 5)⟩⟩
   ·refine q1 <| qc H (fun c6 H=>?_) (fun c6 H=>?_)
    ·refine qq ?_
     obtain⟨x7,sy,H⟩:=aQ H
     obtain⟨fF,fP,h6,rZ,o6⟩:=YS _ _ _ _ sy h _ _ _ _ (o)  [.ptr aq 0,.str x0.cP,ae.fz x0.fO] cq
     refine qr [.a 5 rZ] ?_
     obtain⟨x8,wG,H⟩:=aQ H
     obtain⟨gI,iJ,h7,sA,o7⟩:=YT _ _ _ _ wG h6 _ _ _ _ ((bN (bN (bN (bN (bN (bN o6 2) 2) 2) 5) 5) 5))  [.ptr iI 0,.str x0.cP,ae.fz x0.fO] cq
     refine qr [.a 5 sA] <| qq ?_
     rcases dZ H with⟨c7,H⟩| ⟨c7,H⟩
     ·obtain rfl:=oi H
      exact qr [.b 3 c7] <| qt <| ⟨.inl rfl,⟨fF,fP,gI,iJ,kr,he (bN (bN (bN (bN (bN (bN o7 2) 2) 2) 5) 5) 5)⟩⟩
     ·obtain rfl:=oi H
      exact qr [.b 3 c7] <| qt <| ⟨.inl rfl,⟨fF,fP,gI,iJ,kr,he (bN (bN (bN (bN (bN (bN o7 2) 2) 2) 5) 5) 5)⟩⟩
    ·refine q1 <| qc H (fun c8 H=>?_) (fun c8 H=>?_)
     ·refine qq ?_
      obtain⟨x9,uP,H⟩:=aQ H
      obtain⟨jm,lY,h8,wK,o8⟩:=YU _ _ _ _ uP h _ _ _ _ (o)  [.ptr aq 0,.str x0.cP,.i x0.pV] cq
      refine qr [.a 5 wK] ?_
      obtain⟨lX,zk,H⟩:=aQ H
      obtain⟨mM,qM,h9,vU,o9⟩:=YV _ _ _ _ zk h8 _ _ _ _ ((bN (bN (bN (bN (bN (bN o8 2) 2) 2) 5) 5) 5))  [.ptr iI 0,.str x0.cP,.i x0.pV] cq
      refine qr [.a 5 vU] <| qq ?_
      rcases dZ H with⟨c9,H⟩| ⟨c9,H⟩
      ·obtain rfl:=oi H
       exact qr [.b 3 c9] <| qt <| ⟨.inl rfl,⟨jm,lY,mM,qM,kr,he (bN (bN (bN (bN (bN (bN o9 2) 2) 2) 5) 5) 5)⟩⟩
      ·obtain rfl:=oi H
       exact qr [.b 3 c9] <| qt <| ⟨.inl rfl,⟨jm,lY,mM,qM,kr,he (bN (bN (bN (bN (bN (bN o9 2) 2) 2) 5) 5) 5)⟩⟩
     ·refine q1 <| qc H (fun yD H=>?_) (fun yD H=>?_)
      ·refine qq ?_
       obtain⟨xi,Av,H⟩:=aQ H
       obtain⟨iK,FQ,h10,Aw,sO⟩:=YJ _ _ _ Av h _ _ _ _ (o)  [.ptr aq 0,.agg [af.fz x0.rY.nodes,.i x0.rY.root]] cq
       refine qr [.a 3 Aw] ?_
       obtain⟨Jj,Ax,H⟩:=aQ H
       obtain⟨kg,DY,h11,zl,tH⟩:=YW _ _ _ Ax h10 _ _ _ _ ((bN (bN (bN (bN (bN (bN sO 2) 2) 2) 5) 5) 5))  [.ptr iI 0,.agg [af.fz x0.rY.nodes,.i x0.rY.root]] cq
       refine qr [.a 3 zl] <| qq ?_
       rcases dZ H with⟨oy,H⟩| ⟨oy,H⟩
       ·obtain rfl:=oi H
        exact qr [.b 3 oy] <| qt <| ⟨.inl rfl,⟨iK,FQ,kg,DY,kr,he (bN (bN (bN (bN (bN (bN tH 2) 2) 2) 5) 5) 5)⟩⟩
       ·obtain rfl:=oi H
        exact qr [.b 3 oy] <| qt <| ⟨.inl rfl,⟨iK,FQ,kg,DY,kr,he (bN (bN (bN (bN (bN (bN tH 2) 2) 2) 5) 5) 5)⟩⟩
      ·refine q1 <| qc H (fun wI H=>?_) (fun wI H=>?_)
       ·refine qq ?_
        obtain⟨mI,zH,H⟩:=aQ H
        obtain⟨uU,mX,uY,h12,B3,xj⟩:=YK _ _ _ _ zH h _ _ _ _ (o)  [.ptr aq 0,.i x0.pV,.i x0.zE] cq
        refine qr [.a 5 B3] <| qq ?_
        obtain⟨ph,CQ,H⟩:=aQ H
        obtain⟨LY,uZ,zM,h13,Jm,mK⟩:=YX _ _ _ _ CQ h12 _ _ _ _ ((bN (bN (bN (bN (bN (bN (bN xj 3) 3) 3) 3) 6) 6) 6))  [.ptr iI 0,.i x0.pV,.i x0.zE] cq
        refine qr [.a 5 Jm] <| qq ?_
        obtain⟨x15,Hy,H⟩:=aQ H
        rcases dZ H with⟨qI,H⟩| ⟨qI,H⟩
        ·refine qr [.a 2 (OR _ _ _ Hy h13 _ (km (ao (b4 (E:=ae) (l:=mI.1) (q:=4) mK rfl (fun _=>rfl)) (ao (b4 (E:=ae) (l:=ph.1) (q:=0) mK rfl (fun _=>rfl)) (aJ))))),.b 3 qI] ?_
         have rJ:Has h13 ((LY,.sl ph.1.length 1 (ae.l ph.1))::(iI,.ob [.rs uZ 0 ph.2.2.ah.length 4,.rs zM 0 ph.2.2.au.length 1,.bool ph.2.2.aK])::(uZ,.sl ph.2.2.ah.length 4 (af.l ph.2.2.ah))::(zM,.sl ph.2.2.au.length 1 (ae.l ph.2.2.au))::(aq,.ob [.bool mI.2.2.aA,.rs mX 0 mI.2.2.aa.length 4,.rs uY 0 mI.2.2.an.length 1])::(mX,.sl mI.2.2.aa.length 4 (af.l mI.2.2.aa))::(uY,.sl mI.2.2.an.length 1 (ae.l mI.2.2.an))::L):=jV mK 4
         have zm:Has h13 ((iI,.ob [.rs uZ 0 ph.2.2.ah.length 4,.rs zM 0 ph.2.2.au.length 1,.bool ph.2.2.aK])::(uZ,.sl ph.2.2.ah.length 4 (af.l ph.2.2.ah))::(zM,.sl ph.2.2.au.length 1 (ae.l ph.2.2.au))::(aq,.ob [.bool mI.2.2.aA,.rs mX 0 mI.2.2.aa.length 4,.rs uY 0 mI.2.2.an.length 1])::(mX,.sl mI.2.2.aa.length 4 (af.l mI.2.2.aa))::(uY,.sl mI.2.2.an.length 1 (ae.l mI.2.2.an))::L):=jV rJ 0
         obtain rfl:=oi H
         exact qt <| ⟨.inl rfl,⟨mX,uY,uZ,zM,kr,he (bN (bN (bN (bN (bN (bN zm 2) 2) 2) 5) 5) 5)⟩⟩
        ·refine qr [.a 2 (OR _ _ _ Hy h13 _ (km (ao (b4 (E:=ae) (l:=mI.1) (q:=4) mK rfl (fun _=>rfl)) (ao (b4 (E:=ae) (l:=ph.1) (q:=0) mK rfl (fun _=>rfl)) (aJ))))),.b 3 qI] ?_
         have pa:Has h13 ((LY,.sl ph.1.length 1 (ae.l ph.1))::(iI,.ob [.rs uZ 0 ph.2.2.ah.length 4,.rs zM 0 ph.2.2.au.length 1,.bool ph.2.2.aK])::(uZ,.sl ph.2.2.ah.length 4 (af.l ph.2.2.ah))::(zM,.sl ph.2.2.au.length 1 (ae.l ph.2.2.au))::(aq,.ob [.bool mI.2.2.aA,.rs mX 0 mI.2.2.aa.length 4,.rs uY 0 mI.2.2.an.length 1])::(mX,.sl mI.2.2.aa.length 4 (af.l mI.2.2.aa))::(uY,.sl mI.2.2.an.length 1 (ae.l mI.2.2.an))::L):=jV mK 4
         have zn:Has h13 ((iI,.ob [.rs uZ 0 ph.2.2.ah.length 4,.rs zM 0 ph.2.2.au.length 1,.bool ph.2.2.aK])::(uZ,.sl ph.2.2.ah.length 4 (af.l ph.2.2.ah))::(zM,.sl ph.2.2.au.length 1 (ae.l ph.2.2.au))::(aq,.ob [.bool mI.2.2.aA,.rs mX 0 mI.2.2.aa.length 4,.rs uY 0 mI.2.2.an.length 1])::(mX,.sl mI.2.2.aa.length 4 (af.l mI.2.2.aa))::(uY,.sl mI.2.2.an.length 1 (ae.l mI.2.2.an))::L):=jV pa 0
         obtain rfl:=oi H
         exact qt <| ⟨.inl rfl,⟨mX,uY,uZ,zM,kr,he (bN (bN (bN (bN (bN (bN zn 2) 2) 2) 5) 5) 5)⟩⟩
       ·refine q1 <| qc H (fun wJ H=>?_) (fun wJ H=>?_)
        ·refine qq ?_
         obtain⟨sP,Jo,H⟩:=aQ H
         obtain⟨ade,Ci,Cj,h14,Jp,px⟩:=YN _ _ _ _ Jo h _ _ _ _ (o)  [.ptr aq 0,.i x0.pV,.i x0.zE] cq
         refine qr [.a 5 Jp] <| qq ?_
         obtain⟨Wk,E0,H⟩:=aQ H
         refine qr [.a 5 (YY _ _ _ _ E0 h14 _ (km (ao (da (q:=4) px rfl (ao (b4 (E:=af) (l:=t0.ah) (q:=5) px rfl (fun _=>rfl)) (ao (b4 (E:=ae) (l:=t0.au) (q:=6) px rfl (fun _=>rfl)) (ao (dD) (aJ))))) (ao (bP) (ao (bP) (aJ))))))] <| qq ?_
         rcases dZ H with⟨D0,H⟩| ⟨D0,H⟩
         ·obtain⟨x18,Jn,H⟩:=aQ H
          rcases dZ H with⟨yI,H⟩| ⟨yI,H⟩
          ·refine qr [.b 3 D0,.a 6 (OR _ _ _ Jn h14 _ (km (ao (b4 (E:=ae) (l:=sP.2.1) (q:=0) px rfl (fun _=>rfl)) (ao (kF (E:=ae)) (aJ))))),.b 8 yI] ?_
           have zI:Has h14 ((aq,.ob [.bool sP.2.2.2.aA,.rs Ci 0 sP.2.2.2.aa.length 4,.rs Cj 0 sP.2.2.2.an.length 1])::(Ci,.sl sP.2.2.2.aa.length 4 (af.l sP.2.2.2.aa))::(Cj,.sl sP.2.2.2.an.length 1 (ae.l sP.2.2.2.an))::(iI,.ob [.rs gr 0 t0.ah.length 4,.rs gu 0 t0.au.length 1,.bool t0.aK])::(gr,.sl t0.ah.length 4 (af.l t0.ah))::(gu,.sl t0.au.length 1 (ae.l t0.au))::L):=jV px 0
           obtain rfl:=oi H
           exact qt <| ⟨.inl rfl,⟨Ci,Cj,gr,gu,kr,he zI⟩⟩
          ·refine qr [.b 3 D0,.a 6 (OR _ _ _ Jn h14 _ (km (ao (b4 (E:=ae) (l:=sP.2.1) (q:=0) px rfl (fun _=>rfl)) (ao (kF (E:=ae)) (aJ))))),.b 8 yI] ?_
           have LJ:Has h14 ((aq,.ob [.bool sP.2.2.2.aA,.rs Ci 0 sP.2.2.2.aa.length 4,.rs Cj 0 sP.2.2.2.an.length 1])::(Ci,.sl sP.2.2.2.aa.length 4 (af.l sP.2.2.2.aa))::(Cj,.sl sP.2.2.2.an.length 1 (ae.l sP.2.2.2.an))::(iI,.ob [.rs gr 0 t0.ah.length 4,.rs gu 0 t0.au.length 1,.bool t0.aK])::(gr,.sl t0.ah.length 4 (af.l t0.ah))::(gu,.sl t0.au.length 1 (ae.l t0.au))::L):=jV px 0
           obtain rfl:=oi H
           exact qt <| ⟨.inl rfl,⟨Ci,Cj,gr,gu,kr,he LJ⟩⟩
         ·refine qr [.b 3 D0] ?_
          have yJ:Has h14 ((aq,.ob [.bool sP.2.2.2.aA,.rs Ci 0 sP.2.2.2.aa.length 4,.rs Cj 0 sP.2.2.2.an.length 1])::(Ci,.sl sP.2.2.2.aa.length 4 (af.l sP.2.2.2.aa))::(Cj,.sl sP.2.2.2.an.length 1 (ae.l sP.2.2.2.an))::(iI,.ob [.rs gr 0 t0.ah.length 4,.rs gu 0 t0.au.length 1,.bool t0.aK])::(gr,.sl t0.ah.length 4 (af.l t0.ah))::(gu,.sl t0.au.length 1 (ae.l t0.au))::L):=jV px 0
          obtain rfl:=oi H
          exact qt <| ⟨.inl rfl,⟨Ci,Cj,gr,gu,kr,he yJ⟩⟩
        ·refine qk <| qq ?_
         rcases dZ H with⟨B6,H⟩| ⟨B6,H⟩
         ·obtain rfl:=oi H
          exact qr [.b 3 B6] <| qt <| ⟨.inl rfl,⟨ak,az,gr,gu,kr,he o⟩⟩
         ·obtain rfl:=oi H
          exact qr [.b 3 B6] <| qt <| ⟨.inl rfl,⟨ak,az,gr,gu,kr,he o⟩⟩
end
end Go.Proofs.YtifafejidnjckaaGreat
namespace Go.Uf
open Go Go.R
open Go.IntKind (i64 u64 u8 u32)
def kL (to:List Int)(n:Int):Int:=to.getD n.toNat n
def jL (to:List Int):Nat→Int→Int
 | 0,n=>n
 | k+1,n=>kL to (jL to k n)
def Jq:List Int→Nat→Nat
 | [],_=>0
 | x::l,i=>(if x=(i:Int) then 0 else 1)+Jq l (i+1)
def vW (to:List Int):Nat:=Jq to 0
def rp (to:List Int)(n:Int):Int:=jL to (vW to) n
def Rg (len:Nat)(n:Int):Prop:=0≤n∧n<len
instance (len:Nat) (n:Int):Decidable (Rg len n):=inferInstanceAs (Decidable (_∧_))
structure NK (to:List Int):Prop where
 rg:∀n,Rg to.length n→Rg to.length (kL to n)
 rt:∀n,Rg to.length n→kL to (rp to n)=rp to n
theorem Mc:∀(l:List Int) (i:Nat),Jq l i≤l.length
 | [],_=>ae4 _
 | x::l,i=>by
  have:=Mc l (i+1)
  simp only [Jq,afc]
  split<;>omega
theorem Ck (to:List Int):vW to≤to.length:=Mc to 0
theorem HZ:∀(l:List Int) (i j:Nat) (b:Int),l[j]? = some ((i+j:Nat):Int)→b≠((i+j:Nat):Int)→Jq (l.set j b) i=Jq l i+1
 | [],_,_,_,h,_=>by simp at h
 | x::l,i,0,b,h,hb=>by
  simp only [afK,ae2,agz] at h hb
  simp only [List.set_cons_zero,Jq,h,if_true]
  rw [if_neg hb]; omega
 | x::l,i,j+1,b,h,hb=>by
  simp only [af1] at h
  have e:i+(j+1)=i+1+j:=by omega
  rw [e] at h hb
  have:=HZ l (i+1) j b h hb
  simp only [List.set_cons_succ,Jq,this]; omega
theorem H0:∀(l:List Int) (i:Nat),Jq (l++[((i+l.length:Nat):Int)]) i=Jq l i
 | [],i=>by simp [Jq]
 | x::l,i=>by
  have:=H0 l (i+1)
  have e:i+(x::l).length=i+1+l.length:=by simp only [afc]; omega
  rw [e]
  show _+Jq (l++_) (i+1)=_+Jq l (i+1)
  rw [this]
section
variable {to:List Int}{a b n:Int}
theorem xk (h:Rg to.length n):to[n.toNat]? = some (kL to n):=by
 have hl:n.toNat<to.length:=by have:=h.1; have:=h.2; omega
 unfold kL
 rw [aff,ae8 hl]; rfl
theorem Co (h:Rg to.length n):ix to n=some (kL to n):=by
 unfold ix; rw [if_pos h.1,xk h]
theorem yX (o:NK to)(h:Rg to.length n):∀k,Rg to.length (jL to k n)
 | 0=>h
 | k+1=>o.rg _ (yX o h k)
theorem Md (o:NK to)(h:Rg to.length n):Rg to.length (rp to n):=yX o h _
theorem Ec (h:kL to n=n):∀k,jL to k n=n
 | 0=>rfl
 | k+1=>by show kL to (jL to k n)=n; rw [Ec h k,h]
theorem pj (h:kL to n=n):rp to n=n:=Ec h _
theorem Ed {d:Nat}(h:kL to (jL to d n)=jL to d n):∀e,jL to (d+e) n=jL to d n
 | 0=>rfl
 | e+1=>by show kL to (jL to (d+e) n)=_; rw [Ed h e,h]
theorem OS {d:Nat}(hd:d≤vW to)(h:kL to (jL to d n)=jL to d n):rp to n=jL to d n:=by
 have:=Ed h (vW to - d)
 rw [Nat.add_sub_cancel' hd] at this
 exact this
theorem Cp (ha:Rg to.length a):∀n,kL (to.set a.toNat b) n=if n.toNat=a.toNat then b else kL to n:=by
 intro n
 have hl:a.toNat<to.length:=by have:=ha.1; have:=ha.2; omega
 unfold kL
 rw [aff,aff,agl]
 by_cases h:n.toNat=a.toNat
 ·rw [if_pos h.symm,if_pos hl,if_pos h]; rfl
 ·rw [if_neg (fun e=>h e.symm),if_neg h]
theorem H2 (ha:Rg to.length a)(h1:kL to a=a)(hne:b≠a):vW (to.set a.toNat b)=vW to+1:=by
 have h0:=ha.1
 refine HZ to 0 a.toNat b ?_ ?_
 ·rw [xk ha,h1]; congr 1; omega
 ·intro e; apply hne; rw [e]; omega
theorem Vo (o:NK to)(ha:Rg to.length a)(hb:Rg to.length b)(h1:kL to a=a)(h2:kL to b=b)(hne:b≠a) :
  NK (to.set a.toNat b)∧∀n,Rg to.length n→rp (to.set a.toNat b) n=if rp to n=a then b else rp to n:=by
 have hl:(to.set a.toNat b).length=to.length:=afJ
 have hs:∀n,Rg to.length n→kL (to.set a.toNat b) n=if n=a then b else kL to n:=fun n hn=>by
  rw [Cp ha]
  by_cases h:n=a
  ·subst h; simp
  ·rw [if_neg h,if_neg (fun e=>h (by have:=hn.1; have:=ha.1; omega))]
 have zi:kL (to.set a.toNat b) b=b:=by rw [hs b hb,if_neg hne,h2]
 have key:∀n,Rg to.length n→∀d,jL (to.set a.toNat b) d n=jL to d n∨(jL (to.set a.toNat b) d n=b∧jL to d n=a):=fun n hn d=>by
  induction d with
  | zero=>exact .inl rfl
  | succ d ih=>
   show kL _ (jL _ d n)=kL to (jL to d n)∨(kL _ (jL _ d n)=b∧kL to (jL to d n)=a)
   rcases ih with ih | ⟨ih,ih2⟩
   ·rw [ih,hs _ (yX o hn d)]
    by_cases h:jL to d n=a
    ·rw [if_pos h,h,h1]; exact .inr ⟨rfl,rfl⟩
    ·rw [if_neg h]; exact .inl rfl
   ·rw [ih,ih2,h1,zi]; exact .inr ⟨rfl,rfl⟩
 have hrp:∀n,Rg to.length n→rp (to.set a.toNat b) n=if rp to n=a then b else rp to n:=fun n hn=>by
  show jL _ (vW (to.set a.toNat b)) n=_
  rw [H2 ha h1 hne]
  have hr:=o.rt n hn
  have hrg:=Md o hn
  show kL _ (jL _ (vW to) n)=_
  rcases key n hn (vW to) with h | ⟨h,h3⟩
  ·rw [h]
   show kL _ (rp to n)=_
   rw [hs _ hrg,hr]
  ·have h3:rp to n=a:=h3
   rw [h,zi,if_pos h3]
 refine⟨⟨fun n hn=>?_,fun n hn=>?_⟩,hrp⟩
 ·rw [hl] at hn ⊢
  rw [hs n hn]
  split
  ·exact hb
  ·exact o.rg n hn
 ·rw [hl] at hn
  rw [hrp n hn]
  by_cases h:rp to n=a
  ·rw [if_pos h,zi]
  ·rw [if_neg h,hs _ (Md o hn),if_neg h,o.rt n hn]
theorem Vp (o:NK to):NK (to++[(to.length:Int)])∧(∀n,Rg to.length n→rp (to++[(to.length:Int)]) n=rp to n)∧rp (to++[(to.length:Int)]) (to.length:Int)=(to.length:Int):=by
 have hl:(to++[(to.length:Int)]).length=to.length+1:=by simp
 have hn:vW (to++[(to.length:Int)])=vW to:=by
  have:=H0 to 0
  rw [aft] at this
  exact this
 have hs:∀n,Rg to.length n→kL (to++[(to.length:Int)]) n=kL to n:=fun n h=>by
  have:n.toNat<to.length:=by have:=h.1; have:=h.2; omega
  unfold kL
  rw [aff,aff,afm this]
 have hz:kL (to++[(to.length:Int)]) (to.length:Int)=(to.length:Int):=by
  unfold kL
  rw [aff,ae7,afg (ae4 _),aga]; rfl
 have hi:∀n,Rg to.length n→∀k,jL (to++[(to.length:Int)]) k n=jL to k n:=fun n h k=>by
  induction k with
  | zero=>rfl
  | succ k ih=>show kL _ (jL _ k n)=kL to (jL to k n); rw [ih,hs _ (yX o h k)]
 have hr:∀n,Rg to.length n→rp (to++[(to.length:Int)]) n=rp to n:=fun n h=>by
  unfold rp; rw [hn]; exact hi n h _
 have hc:∀n,Rg (to.length+1) n→Rg to.length n∨n=to.length:=fun n h=>by
  unfold Rg at h ⊢; omega
 refine⟨⟨fun n h=>?_,fun n h=>?_⟩,hr,pj hz⟩
 ·rw [hl] at h ⊢
  rcases hc n h with h | rfl
  ·rw [hs n h]; have:=o.rg n h; unfold Rg at this ⊢; omega
  ·rw [hz]; exact h
 ·rw [hl] at h
  rcases hc n h with h | rfl
  ·rw [hr n h,hs _ (Md o h),o.rt n h]
  ·rw [pj hz,hz]
end
theorem H3:NK []:=⟨fun n h=>by have:=h.1; have:=h.2; simp at this; omega,fun n h=>by have:=h.1; have:=h.2; simp at this; omega⟩
end Go.Uf
namespace Go.Uf
open Go Go.R
open Go.IntKind (i64 u64 u8 u32)
def fJ (N:List ai)(n:Int):ai:=N.getD n.toNat ⟨0,0,⟨#[]⟩,[]⟩
def jy (N:List ai)(n:Int):Prop:=(fJ N n).kind≠0
instance (N:List ai) (n:Int):Decidable (jy N n):=inferInstanceAs (Decidable (_≠_))
def Bt (N:List ai)(a b:Int):Prop:=(jy N a∧¬jy N b)∨((jy N a↔jy N b)∧a≤b)
def pk (a b:ai):Prop:=a.kind=b.kind∧a.int=b.int∧a.label.data.toList=b.label.data.toList∧a.args.length=b.args.length
structure Cn (N:List ai)(R:Int→Int):Prop where
 rg:∀n,Rg N.length n→Rg N.length (R n)
 id:∀n,Rg N.length n→R (R n)=R n
 bt:∀n,Rg N.length n→Bt N (R n) n
def Cl (N:List ai)(T:Int→Int):Prop:=∀x y,Rg N.length x→Rg N.length y→T x=T y→jy N x→jy N y→pk (fJ N x) (fJ N y)∧∀(i:Nat) (a b:Int),(fJ N x).args[i]? = some a→(fJ N y).args[i]? = some b→T a=T b
def gO (N:List ai)(R T:Int→Int):Prop:=∀x y,Rg N.length x→Rg N.length y→R x=R y→T x=T y
def rL (N:List ai)(R:Int→Int)(L:List (Int × Int)):Prop:=∀T,gO N R T→(∀p∈L,T p.1=T p.2)→∀x y,Rg N.length x→Rg N.length y→R x=R y→jy N x→jy N y→pk (fJ N x) (fJ N y)∧∀(i:Nat) (a b:Int),(fJ N x).args[i]? = some a→(fJ N y).args[i]? = some b→T a=T b
def Me (N:List ai):Prop:=∀v∈N,v.args.length≤8∧∀a∈v.args,Rg N.length a
section
variable {N:List ai}{R T:Int→Int}{a b x y n:Int}
theorem Cq (h:Rg N.length n):N[n.toNat]? = some (fJ N n):=by
 have hl:n.toNat<N.length:=by have:=h.1; have:=h.2; omega
 unfold fJ
 rw [aff,ae8 hl]; rfl
theorem qX (h:Rg N.length n):ix N n=some (fJ N n):=by
 unfold ix; rw [if_pos h.1,Cq h]
theorem lG (h:Rg N.length n):fJ N n∈N:=afj (Cq h)
theorem Bt.antisymm (h1:Bt N a b)(h2:Bt N b a):a=b:=by
 unfold Bt at h1 h2
 rcases h1 with h1 | h1<;>rcases h2 with h2 | h2
 ·exact absurd h1.1 h2.2
 ·exact absurd (h2.1.2 h1.1) h1.2
 ·exact absurd (h1.1.2 h2.1) h2.2
 ·omega
theorem Bt.trans {c:Int}(h1:Bt N a b)(h2:Bt N b c):Bt N a c:=by
 unfold Bt at h1 h2 ⊢
 rcases h1 with h1 | h1<;>rcases h2 with h2 | h2
 ·exact absurd h2.1 h1.2
 ·exact .inl ⟨h1.1,fun h=>h1.2 (h2.1.2 h)⟩
 ·exact .inl ⟨h1.1.2 h2.1,h2.2⟩
 ·exact .inr ⟨h1.1.trans h2.1,om⟩
theorem Bt.refl:Bt N a a:=.inr ⟨Iff.rfl,Int.le_refl _⟩
theorem Cn.val (c:Cn N R)(h:Rg N.length n)(v:jy N n):jy N (R n):=by
 rcases c.bt n h with h1 | h1
 ·exact h1.1
 ·exact h1.1.2 v
theorem Cn.unique {R2:Int→Int}(c:Cn N R)(c2:Cn N R2)(h1:gO N R R2)(h2:gO N R2 R)(hn:Rg N.length n):R n=R2 n:=by
 have e1:R (R2 n)=R n:=h2 _ _ (c2.rg n hn) hn (c2.id n hn)
 have e2:R2 (R n)=R2 n:=h1 _ _ (c.rg n hn) hn (c.id n hn)
 have b1:=c.bt _ (c2.rg n hn)
 have b2:=c2.bt _ (c.rg n hn)
 rw [e1] at b1
 rw [e2] at b2
 exact b1.antisymm b2
def lC (N:List ai)(a b:Int):Int × Int:=if jy N a↔jy N b then (if a<b then (b,a) else (a,b)) else (if jy N b then (a,b) else (b,a))
theorem vf (a b:Int):Bt N (lC N a b).2 (lC N a b).1∧((lC N a b).1=a∧(lC N a b).2=b∨(lC N a b).1=b∧(lC N a b).2=a):=by
 unfold lC
 by_cases h:jy N a↔jy N b
 ·rw [if_pos h]
  by_cases h2:a<b
  ·rw [if_pos h2]; exact⟨.inr ⟨h,by dsimp only; omega⟩,.inr ⟨rfl,rfl⟩⟩
  ·rw [if_neg h2]; exact⟨.inr ⟨h.symm,by dsimp only; omega⟩,.inl ⟨rfl,rfl⟩⟩
 ·rw [if_neg h]
  by_cases h2:jy N b
  ·rw [if_pos h2]; exact⟨.inl ⟨h2,fun h3=>h ⟨fun _=>h2,fun _=>h3⟩⟩,.inl ⟨rfl,rfl⟩⟩
  ·rw [if_neg h2]
   refine⟨.inl ⟨?_,h2⟩,.inr ⟨rfl,rfl⟩⟩
   by_cases h3:jy N a
   ·exact h3
   ·exact absurd ⟨fun h4=>absurd h4 h3,fun h4=>absurd h4 h2⟩ h
def tP (R:Int→Int)(q:Int × Int)(n:Int):Int:=if R n=q.1 then q.2 else R n
theorem Mf (c:Cn N R){q:Int × Int}(h1:Rg N.length q.1)(h2:Rg N.length q.2)(r1:R q.1=q.1)(r2:R q.2=q.2)(hne:q.2≠q.1)(hb:Bt N q.2 q.1):Cn N (tP R q):=by
 refine⟨fun n hn=>?_,fun n hn=>?_,fun n hn=>?_⟩
 ·unfold tP; split
  ·exact h2
  ·exact c.rg n hn
 ·unfold tP
  by_cases h:R n=q.1
  ·rw [if_pos h,r2,if_neg hne]
  ·rw [if_neg h,c.id n hn,if_neg h]
 ·unfold tP
  split
  ·rename_i h
   have:=c.bt n hn
   rw [h] at this
   exact hb.trans this
  ·exact c.bt n hn
theorem Cr {q:Int × Int}:gO N R (tP R q):=fun x y _ _ h=>by unfold tP; rw [h]
theorem vg {q:Int × Int}(ha:R a=q.1)(hb:R b=q.2)(hne:q.2≠q.1):tP R q a=tP R q b:=by
 unfold tP; rw [if_pos ha,hb,if_neg hne]
theorem AA (c:Cn N R){q:Int × Int}(h1:Rg N.length q.1)(h2:Rg N.length q.2)(s:gO N R T)(h:T q.1=T q.2):gO N (tP R q) T:=by
 have key:∀x,Rg N.length x→T (tP R q x)=T x:=fun x hx=>by
  have e:T (R x)=T x:=s _ _ (c.rg x hx) hx (c.id x hx)
  unfold tP
  split
  ·rename_i h3; rw [←h,←h3,e]
  ·exact e
 intro x y hx hy he
 rw [←key x hx,←key y hy,he]
theorem AB {p:Int × Int}{L:List (Int × Int)}(h:rL N R (p::L))(Vq:Rg N.length p.1)(Vr:Rg N.length p.2)(he:R p.1=R p.2):rL N R L:=fun T s hL=>h T s fun q hq=>by
 rcases afq.1 hq with rfl | hq
 ·exact s _ _ Vq Vr he
 ·exact hL q hq
theorem AD (c:Cn N R){p q:Int × Int}{L M:List (Int × Int)}(h:rL N R (p::L))(Vq:Rg N.length p.1)(Vr:Rg N.length p.2)
  (hq:(q.1=R p.1∧q.2=R p.2)∨(q.1=R p.2∧q.2=R p.1)) (hne:q.2≠q.1)
  (hM:jy N (R p.1)→jy N (R p.2)→pk (fJ N (R p.1)) (fJ N (R p.2))∧∀(i:Nat) (a b:Int),(fJ N (R p.1)).args[i]? = some a→(fJ N (R p.2)).args[i]? = some b→(a,b)∈M):rL N (tP R q) (L++M):=by
 intro T s hL x y hx hy he vx vy
 have s0:gO N R T:=fun x y hx hy h=>s x y hx hy (Cr x y hx hy h)
 have g1:=c.rg _ Vq
 have g2:=c.rg _ Vr
 have tp:T p.1=T p.2:=s _ _ Vq Vr (by
  rcases hq with⟨h1,h2⟩| ⟨h1,h2⟩
  ·exact vg h1.symm h2.symm hne
  ·exact (vg h1.symm h2.symm hne).symm)
 have old:=h T s0 (fun q hq=>by
  rcases afq.1 hq with rfl | hq
  ·exact tp
  ·exact hL q (afE _ hq))
 have mid:∀x y,Rg N.length x→Rg N.length y→R x=R p.1→R y=R p.2→jy N x→jy N y→pk (fJ N x) (fJ N y)∧∀(i:Nat) (a b:Int),(fJ N x).args[i]? = some a→(fJ N y).args[i]? = some b→T a=T b:=by
  intro x y hx hy e1 e2 vx vy
  have v1:jy N (R p.1):=e1 ▸ c.val hx vx
  have v2:jy N (R p.2):=e2 ▸ c.val hy vy
  obtain⟨t0,m0⟩:=hM v1 v2
  obtain⟨t1,m1⟩:=old x (R p.1) hx g1 (by rw [c.id _ Vq,e1]) vx v1
  obtain⟨t2,m2⟩:=old (R p.2) y g2 hy (by rw [c.id _ Vr,e2]) v2 vy
  refine⟨⟨t1.1.trans (t0.1.trans t2.1),t1.2.1.trans (t0.2.1.trans t2.2.1),t1.2.2.1.trans (t0.2.2.1.trans t2.2.2.1),t1.2.2.2.trans (t0.2.2.2.trans t2.2.2.2)⟩,fun i a b ha hb=>?_⟩
  have l1:i<(fJ N (R p.1)).args.length:=by rw [←t1.2.2.2]; exact (ae5.1 ha).1
  have l2:i<(fJ N (R p.2)).args.length:=by rw [←t0.2.2.2]; exact l1
  have k1:=ae8 l1
  have k2:=ae8 l2
  rw [m1 i _ _ ha k1,←m2 i _ _ k2 hb]
  exact hL _ (List.mem_append_right _ (m0 i _ _ k1 k2))
 have sym:∀x y,pk (fJ N x) (fJ N y)∧(∀(i:Nat) (a b:Int),(fJ N x).args[i]? = some a→(fJ N y).args[i]? = some b→T a=T b)→pk (fJ N y) (fJ N x)∧∀(i:Nat) (a b:Int),(fJ N y).args[i]? = some a→(fJ N x).args[i]? = some b→T a=T b:=by
  rintro x y ⟨t,m⟩
  exact⟨⟨t.1.symm,t.2.1.symm,t.2.2.1.symm,t.2.2.2.symm⟩,fun i a b ha hb=>(m i b a hb ha).symm⟩
 by_cases e:R x=R y
 ·exact old x y hx hy e vx vy
 unfold tP at he
 by_cases ex:R x=q.1<;>by_cases ey:R y=q.1
 ·exact absurd (ex.trans ey.symm) e
 ·rw [if_pos ex,if_neg ey] at he
  rcases hq with⟨h1,h2⟩| ⟨h1,h2⟩
  ·exact mid x y hx hy (ex.trans h1) (he.symm.trans h2) vx vy
  ·exact sym _ _ (mid y x hy hx (he.symm.trans h2) (ex.trans h1) vy vx)
 ·rw [if_neg ex,if_pos ey] at he
  rcases hq with⟨h1,h2⟩| ⟨h1,h2⟩
  ·exact sym _ _ (mid y x hy hx (ey.trans h1) (he.trans h2) vy vx)
  ·exact mid x y hx hy (he.trans h2) (ey.trans h1) vx vy
 ·rw [if_neg ex,if_neg ey] at he
  exact absurd he e
theorem Ee (h:rL N R []):Cl N R:=fun x y hx hy e vx vy=>h R (fun _ _ _ _ h=>h) (fun _ h=>by cases h) x y hx hy e vx vy
theorem H4 {L:List (Int × Int)}(h:Cl N R)(ha:Me N):rL N R L:=fun T s _ x y hx hy e vx vy=>by
 obtain⟨t,m⟩:=h x y hx hy e vx vy
 exact⟨t,fun i a b h1 h2=>s _ _ ((ha _ (lG hx)).2 a (afj h1)) ((ha _ (lG hy)).2 b (afj h2)) (m i a b h1 h2)⟩
end
end Go.Uf
namespace Go.Uf
open Go Go.R
open Go.IntKind (i64 u64 u8 u32)
theorem Vt (x:Int):i64.wrap x=if x % 18446744073709551616≥9223372036854775808 then x % 18446744073709551616 - 18446744073709551616 else x % 18446744073709551616:=by
 unfold IntKind.wrap; simp [IntKind.signed,IntKind.bits]
theorem mf {x:Int}(h0 : -9223372036854775808≤x)(h1:x<9223372036854775808):i64.wrap x=x:=by
 rw [Vt]; split<;>omega
theorem CS {α:Type}{l:List α}{i:Nat}{a:α}(h:l[i]? = some a):ix l (i:Int)=some a:=by
 unfold ix; rw [if_pos (af5 _),ae7,h]
theorem pU {α:Type}{b:Nat}{l l2:List α}(h:(l.length+l2.length)*(b+1)≤1099511627776):app b l l2=some (l++l2):=by
 unfold app; rw [if_pos h]
end Go.Uf
namespace Go.Proofs.YtifafejidnjckaaGreat
open Go Go.R Go.Uf
open Go.IntKind (i64 u64 u8 u32)
structure Inv (s:ab):Prop where
 made:s.aA=true
 len:s.an.length=s.aa.length
 max:s.aa.length≤8000
 ok:NK s.an
 cn:Cn s.aa (rp s.an)
 args:Me s.aa
section
variable {m:Nat}{s:ab}{a b n:Int}
theorem Inv.rg (v:Inv s)(h:Rg s.aa.length n):Rg s.an.length n:=by rw [v.len]; exact h
theorem Mg (v:Inv s)(h:Rg s.aa.length n):∀(k d:Nat),d≤vW s.an→vW s.an<k+d→bR.l0 m s k (jL s.an d n)=some (rp s.an n)
 | 0,d,h1,h2=>by omega
 | k+1,d,h1,h2=>by
  have hr:=yX v.ok (v.rg h) d
  simp only [bR.l0,Co hr,aeZ]
  by_cases he:kL s.an (jL s.an d n)=jL s.an d n
  ·rw [OS h1 he]
   simp [he]
  ·have hd:d<vW s.an:=by
    rcases Nat.lt_or_ge d (vW s.an) with h3 | h3
    ·exact h3
    ·have h4:d=vW s.an:=by omega
     exact absurd (h4 ▸ v.ok.rt n (v.rg h)) he
   have:=Mg v h k (d+1) hd om
   simp only [jL] at this
   rw [this]
   have hb:(kL s.an (jL s.an d n)==jL s.an d n)=false:=by simpa using he
   simp [hb]
theorem P7 (hm:16000≤m)(v:Inv s)(h:Rg s.aa.length n):bR.f m s n=some (rp s.an n):=by
 have h1:=Ck s.an
 have h2:=v.len
 have h3:=v.max
 have:=Mg (m:=m) v h m 0 (afU _) om
 simp only [jL] at this
 simp only [bR.f,this,aeZ]
theorem FY (h:Rg s.aa.length n):dc.f m s n=some ((fJ s.aa n).kind==0):=by
 simp only [dc.f,qX h,aeZ]
theorem Sb (h1:Rg s.aa.length a)(h2:Rg s.aa.length b)(hl:s.an.length=s.aa.length):dF.f m s a b=some ((lC s.aa a b).1,⟨s.aA,s.aa,s.an.set (lC s.aa a b).1.toNat (lC s.aa a b).2⟩):=by
 have i1:ix s.an a=some (kL s.an a):=Co (by rw [hl]; exact h1)
 have i2:ix s.an b=some (kL s.an b):=Co (by rw [hl]; exact h2)
 simp only [dF.f,jn,FY h1,FY h2,aeZ,i1,i2]
 unfold lC jy
 by_cases ha:(fJ s.aa a).kind=0<;>by_cases hb:(fJ s.aa b).kind=0<;>by_cases NB:a<b
 all_goals
  first
  | have ea:((fJ s.aa a).kind==0)=true:=by simpa using ha
  | have ea:((fJ s.aa a).kind==0)=false:=by simpa using ha
 all_goals
  first
  | have eb:((fJ s.aa b).kind==0)=true:=by simpa using hb
  | have eb:((fJ s.aa b).kind==0)=false:=by simpa using hb
 all_goals simp [ha,hb,NB,i1,i2,ea,eb]
theorem H5:dO.f m s n=some (decide (Rg s.aa.length n)):=by
 unfold dO.f Rg
 by_cases h1:n≥0<;>by_cases h2:n<(s.aa.length:Int)<;>simp [h1,h2]
theorem Inv.join (v:Inv s)(h1:Rg s.aa.length a)(h2:Rg s.aa.length b)(r1:rp s.an a=a)(r2:rp s.an b=b)(hne:a≠b) :
  Inv ⟨s.aA,s.aa,s.an.set (lC s.aa a b).1.toNat (lC s.aa a b).2⟩∧(∀n,Rg s.aa.length n→rp (s.an.set (lC s.aa a b).1.toNat (lC s.aa a b).2) n=tP (rp s.an) (lC s.aa a b) n)∧vW (s.an.set (lC s.aa a b).1.toNat (lC s.aa a b).2)=vW s.an+1:=by
 obtain⟨hb,hq⟩:=vf (N:=s.aa) a b
 generalize lC s.aa a b=q at *
 have g:Rg s.aa.length q.1∧Rg s.aa.length q.2∧rp s.an q.1=q.1∧rp s.an q.2=q.2∧q.2≠q.1:=by
  rcases hq with⟨e1,e2⟩| ⟨e1,e2⟩
  ·rw [e1,e2]; exact⟨h1,h2,r1,r2,fun h=>hne h.symm⟩
  ·rw [e1,e2]; exact⟨h2,h1,r2,r1,hne⟩
 obtain⟨g1,g2,g3,g4,g5⟩:=g
 have s1:kL s.an q.1=q.1:=by have:=v.ok.rt _ (v.rg g1); rwa [g3] at this
 have s2:kL s.an q.2=q.2:=by have:=v.ok.rt _ (v.rg g2); rwa [g4] at this
 obtain⟨j1,j2⟩:=Uf.Vo v.ok (v.rg g1) (v.rg g2) s1 s2 g5
 have j3:∀n,Rg s.aa.length n→rp (s.an.set q.1.toNat q.2) n=tP (rp s.an) q n:=fun n hn=>j2 n (v.rg hn)
 have c:=Mf v.cn g1 g2 g3 g4 g5 hb
 refine⟨⟨v.made,by show (List.set _ _ _).length=_; rw [afJ]; exact v.len,v.max,j1,⟨fun n hn=>?_,fun n hn=>?_,fun n hn=>?_⟩,v.args⟩,j3,H2 (v.rg g1) s1 g5⟩
 ·show Rg _ (rp (s.an.set q.1.toNat q.2) n)
  rw [j3 n hn]; exact c.rg n hn
 ·show rp (s.an.set q.1.toNat q.2) (rp (s.an.set q.1.toNat q.2) n)=_
  rw [j3 n hn,j3 _ (c.rg n hn),c.id n hn]
 ·show Bt _ (rp (s.an.set q.1.toNat q.2) n) n
  rw [j3 n hn]; exact c.bt n hn
theorem Mh (x y:ai):∃d,ie.f m x y=some d∧(d=false↔pk x y):=by
 unfold ie.f pk
 have h5:(((x.args.length:Int)==(y.args.length:Int))=true)↔x.args.length=y.args.length:=by rw [beq_iff_eq]; omega
 by_cases h1:x.kind=y.kind
 ·by_cases h2:x.int=y.int
  ·by_cases h3:x.label.data.toList=y.label.data.toList
   ·refine⟨!((x.args.length:Int)==(y.args.length:Int)),by simp [h1,h2,h3],?_⟩
    rw [Bool.not_eq_false',h5]
    exact⟨fun h=>⟨h1,h2,h3,h⟩,fun h=>h.2.2.2⟩
   ·have h6:¬x.label.data=y.label.data:=fun h=>h3 (by rw [h])
    exact⟨true,by simp [h1,h2,h6],by simp [h6]⟩
  ·exact⟨true,by simp [h1,h2],by simp [h2]⟩
 ·exact⟨true,by simp [h1],by simp [h1]⟩
end
end Go.Proofs.YtifafejidnjckaaGreat
