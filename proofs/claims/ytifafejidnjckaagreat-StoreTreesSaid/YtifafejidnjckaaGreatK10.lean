/- Part of the proof: Q96, Q99, Q62, Q25, Q28, Q22, Q24, Q58, Q12, Q20, Q21, Q6. -/
import Derived.Test.YtifafejidnjckaaGreatK9
set_option linter.unusedVariables false
set_option linter.unusedSimpArgs false
set_option maxRecDepth 100000
namespace Go.Proofs.YtifafejidnjckaaGreat
open Go Go.R
open Go.IntKind (i64 u64 u8 u32)
def qX:bR:=gC [0,1,2,3,4,5,6,7,8,9,10,11,12,13,14,15,17,22,23,24,37,38,39,40,61,73,74,75,76,87,88,89,90,110,126] [12] [34359738365,34359738357,34359345141,34358820853,34359345125,34359345141,34359345141,34359738357,34359738325,34359738261,34352398229,34344009621,34352397845,34335620757,34352397973,34352398229,34352398229,34359737757,34359736733,34124855709,33856420253,34124849565,34124841373,30366749085,26071781789,30366699933,30366749085,30366749085,34124779933,25534910877,34124845469,34124855709,34124855709,17179867613,34359738363,34359738269] [] []
def ax.l0 (m:Nat)(x0:List Int):Nat→(List Int)→Int→Option ((List Int) × Int)
 | 0,_,_=>none
 | k+1,hY,x1=>if (decide (x1<(x0.length:Int)))=true then ((ix hY x1).bind fun v0=>ax.l0 m x0 k (hY.set x1.toNat x1) (i64.wrap (x1+1))) else (some ((hY,x1)))
def ax.l1 (m:Nat)(aL:List ai)(fP:List Int)(x3:(List Int)):Nat→(List Int)→Int→Int→Option ((List Int) × Int × Int)
 | 0,_,_,_=>none
 | k+1,dA,gB,x5=>if (decide (x5<(fP.length:Int)))=true then ((ix x3 x5).bind fun v1=>if (decide (x5 > 0))=true then ((ix x3 (i64.wrap (x5 - 1))).bind fun v2=>(ix aL v2).bind fun v3=>(ix aL v1).bind fun v4=>(cX.f m v3 v4).bind fun x6=>if (!(x6==0))=true then ((ix dA v1).bind fun v5=>ax.l1 m aL fP x3 k (dA.set v1.toNat (i64.wrap (gB+1))) (i64.wrap (gB+1)) (i64.wrap (x5+1))) else ((ix dA v1).bind fun v6=>ax.l1 m aL fP x3 k (dA.set v1.toNat gB) gB (i64.wrap (x5+1)))) else ((ix dA v1).bind fun v7=>ax.l1 m aL fP x3 k (dA.set v1.toNat gB) gB (i64.wrap (x5+1)))) else (some ((dA,gB,x5)))
def ax.l4 (m:Nat)(dB:List Int)(v8:ai):Nat→(List Int)→Int→Option ((List Int) × Int)
 | 0,_,_=>none
 | k+1,k0,mr=>if (decide (mr<(v8.args.length:Int)))=true then ((ix v8.args mr).bind fun v10=>(ix dB v10).bind fun v11=>(ix k0 (i64.wrap (mr+1))).bind fun v12=>ax.l4 m dB v8 k (k0.set (i64.wrap (mr+1)).toNat (i64.wrap (v11+1))) (i64.wrap (mr+1))) else (some ((k0,mr)))
def ax.l3 (m:Nat)(aL:List ai)(dB:List Int):Nat→(List (List Int × Int))→(List Int)→Int→Option ((List (List Int × Int)) × (List Int) × Int)
 | 0,_,_,_=>none
 | k+1,dZ,eX,x9=>if (decide (x9<(aL.length:Int)))=true then ((ix aL x9).bind fun v8=>(ix dB x9).bind fun v9=>(ax.l4 m dB v8 m ([i64.wrap (v9+1),0,0,0,0,0,0,0,0]) 0).bind fun Ie=>match Ie with | (k1,Eb)=>(Kp 9 dZ k1).bind fun r0=>if (!r0.2)=true then ((PA 9 dZ k1 (dZ.length:Int)).bind fun OG=>(Kp 9 OG k1).bind fun r1=>(ix eX x9).bind fun RQ=>ax.l3 m aL dB k OG (eX.set x9.toNat r1.1) (i64.wrap (x9+1))) else ((Kp 9 dZ k1).bind fun r2=>(ix eX x9).bind fun YB=>ax.l3 m aL dB k dZ (eX.set x9.toNat r2.1) (i64.wrap (x9+1)))) else (some ((dZ,eX,x9)))
def ax.l2 (m:Nat)(aL:List ai):Nat→(List Int)→Int→Option (Sum (List Int) ((List Int) × Int))
 | 0,_,_=>none
 | k+1,dB,lh=>(Gz 8 (aL.length:Int) 0).bind fun x8=>(ax.l3 m aL dB m ([]:List (List Int × Int)) x8 0).bind fun QG=>match QG with | (gg,oI,rT)=>if ((gg.length:Int)==(i64.wrap (lh+1)))=true then (some (.inl dB)) else (ax.l2 m aL k oI (i64.wrap ((gg.length:Int) - 1)))
def ax.f (m:Nat)(aL:List ai):Option ((List Int)):=(Gz 8 (aL.length:Int) 0).bind fun x0=>(ax.l0 m x0 m x0 0).bind fun bP=>match bP with | (fP,x2)=>(gd.f m fP (fun y0 y1=>dV.f m y0 y1 aL)).bind fun x3=>(Gz 8 (aL.length:Int) 0).bind fun x4=>(ax.l1 m aL fP x3 m x4 0 0).bind fun AR=>match AR with | (lV,many1,x7)=>(ax.l2 m aL m lV many1).bind fun QH=>match QH with | .inl r3=>some r3 | .inr (Ud,QI)=>none
def ax.fin (L:Mem)(r:(List Int))(s:St):Prop:=∃av,aE Tryz.prog (s.open qX) Tryz.f96.results.toList=some av∧eR s.h av (af.fz r)
def WC (cf:CallF)(m:Nat):Prop:=∀(aL:List ai) (r:(List Int)),ax.f m aL=some r→∀h xs,aP bH h xs [ah.fz aL]→cf 96 xs h=some (af.fz r,h)
section
variable {cf:CallF}{m:Nat}
theorem ax.cb (L:Mem)(aL:List ai)(aM:Nat)(x0:List Int)   : cY Tryz.prog cf qX m (sub [1,1,0,1,0,0] (bN Tryz.f96)) (fun k (σ:(List Int) × Int)=>ax.l0 m x0 k σ.1 σ.2) (fun σ s=>match σ with | (hY,x1)=>∃dY h2,s=⟨.any :: .ptr aM 0 :: .any :: .rs dY 0 hY.length 1::Cw (.i (x0.length:Int) :: .i x1::Ks []),[none],h2⟩∧Has h2 ((dY,.sl hY.length 1 (af.l hY))::(aM,.ob [ah.fz aL])::L)) (fun out e s=>(e = .exit 0∧∃hY x1,(hY,x1)=out∧∃CN Ig Ue dY h2,s=⟨.any :: .ptr aM 0 :: .any :: .rs dY 0 hY.length 1::Cw (CN::Ig::Ue::PF []),[none],h2⟩∧Has h2 ((dY,.sl hY.length 1 (af.l hY))::(aM,.ob [ah.fz aL])::L))):=by
 refine ln (fun _=>rfl) ?_
 rintro k ⟨hY,x1⟩ s out ⟨dY,h2,rfl,o2⟩ H
 have H:ax.l0 m x0 (k+1) hY x1=some out:=H
 refine q1 <| qq <| qc H (fun c0 H=>?_) (fun c0 H=>?_)
 ·refine qk <| qq <| qb 1 <| qq <| q0 ?_
  obtain⟨v0,e3,H⟩:=aW H
  obtain⟨h3,e4,o3⟩:=fN (P:=Tryz.prog) (tf:=3) (E:=af) (l:=hY) (q:=0) (v:=x1) (x:=.i x1) o2 rfl Z3 e3 rfl rfl
  exact qr [.v 3 (be (k:=.i64) (E:=af) (l:=hY) (q:=0) gj o2 rfl e3),.w 4 e4] <| q0 <| ⟨(hY.set x1.toNat x1,i64.wrap (x1+1)),⟨dY,h3,ld,(AL o3)⟩,H⟩
 ·exact qx 0 <| ⟨rfl,hY,x1,oi H,.i (x0.length:Int),.i x1,.bool (decide (x1<(x0.length:Int))),dY,h2,kr,o2⟩
theorem ax.k8 (L:Mem)(aL:List ai)(aM:Nat)(fk:Nat)(fP:List Int)(fk:Nat)(x3:(List Int))  (sN:Iv cf m):cY Tryz.prog cf qX m (sub [1,1,1,1,1,1,0,1,0,0] (bN Tryz.f96)) (fun k (σ:(List Int) × Int × Int)=>ax.l1 m aL fP x3 k σ.1 σ.2.1 σ.2.2) (fun σ s=>match σ with | (dA,gB,x5)=>∃fj h7,s=⟨.any :: .ptr aM 0 :: .any :: .rs fk 0 fP.length 1 :: .any :: .rs fj 0 dA.length 1 :: .i gB::Cw (.rs fk 0 fP.length 1 :: .i (fP.length:Int) :: .i x5::Ay []),[none],h7⟩∧Has h7 ((fj,.sl dA.length 1 (af.l dA))::(fk,.sl fP.length 1 (af.l x3))::(aM,.ob [ah.fz aL])::L)) (fun out e s=>(e = .exit 2∧∃dA gB x5,(dA,gB,x5)=out∧∃FU CL CM If IA fj h7,s=⟨.any :: .ptr aM 0 :: .any::FU :: .any :: .rs fj 0 dA.length 1 :: .i gB::Cw (CL::CM::If::IA::wG []),[none],h7⟩∧Has h7 ((fj,.sl dA.length 1 (af.l dA))::(fk,.sl fP.length 1 (af.l x3))::(aM,.ob [ah.fz aL])::L))):=by
 refine ln (fun _=>rfl) ?_
 rintro k ⟨dA,gB,x5⟩ s out ⟨fj,h7,rfl,o7⟩ H
 have H:ax.l1 m aL fP x3 (k+1) dA gB x5=some out:=H
 refine q1 <| qq <| qc H (fun c1 H=>?_) (fun c1 H=>?_)
 ·refine qk <| qq <| qb 3 <| qq ?_
  obtain⟨v1,sL,H⟩:=aW H
  refine qr [.v 1 (be (k:=.i64) (E:=af) (l:=x3) (q:=1) gj o7 rfl sL),.v 2 (cL  (E:=af) (l:=x3) (q:=1) o7 rfl A3 sL rfl)] <| qq <| qq ?_
  rcases du H with⟨c2,H⟩| ⟨c2,H⟩
  ·obtain⟨v2,vg,H⟩:=aW H
   obtain⟨v3,yQ,H⟩:=aW H
   obtain⟨v4,wo,H⟩:=aW H
   obtain⟨x6,CH,H⟩:=aW H
   refine qr [.b 2 c2,.v 3 (show bw Tryz.prog h7 23 (.ptr aM 0)=some (ah.fz aL) from b6 (q:=2) (cs:=[ah.fz aL]) o7 rfl kr),.v 7 (be (k:=.i64) (E:=af) (l:=x3) (q:=1) gj o7 rfl vg),.v 8 (cL  (E:=af) (l:=x3) (q:=1) o7 rfl A3 vg rfl),.v 9 (eK (k:=.i64) (E:=ah) (l:=aL) tS yQ),.v 10 (ke  (E:=ah) (l:=aL) h7 BM BN yQ),.v 11 (show bw Tryz.prog h7 23 (.ptr aM 0)=some (ah.fz aL) from b6 (q:=2) (cs:=[ah.fz aL]) o7 rfl kr),.v 13 (eK (k:=.i64) (E:=ah) (l:=aL) tS wo),.v 14 (ke  (E:=ah) (l:=aL) h7 BM BN wo),.a 15 (sN _ _ _ CH h7 _ fq)] ?_
   refine qc H (fun c3 H=>?_) (fun c3 H=>?_)
   ·refine q0 ?_
    obtain⟨v5,AW,H⟩:=aW H
    obtain⟨h8,FZ,o8⟩:=fN (P:=Tryz.prog) (tf:=3) (E:=af) (l:=dA) (q:=0) (v:=(i64.wrap (gB+1))) (x:=.i (i64.wrap (gB+1))) o7 rfl Z3 AW rfl rfl
    exact qr [.v 3 (be (k:=.i64) (E:=af) (l:=dA) (q:=0) gj o7 rfl AW),.w 4 FZ] <| q0 <| ⟨(dA.set v1.toNat (i64.wrap (gB+1)),i64.wrap (gB+1),i64.wrap (x5+1)),⟨fj,h8,ld,(AL o8)⟩,H⟩
   ·refine qk ?_
    obtain⟨v6,F0,H⟩:=aW H
    obtain⟨h9,GC,o9⟩:=fN (P:=Tryz.prog) (tf:=3) (E:=af) (l:=dA) (q:=0) (v:=gB) (x:=.i gB) o7 rfl Z3 F0 rfl rfl
    exact qr [.v 3 (be (k:=.i64) (E:=af) (l:=dA) (q:=0) gj o7 rfl F0),.w 4 GC] <| q0 <| ⟨(dA.set v1.toNat gB,gB,i64.wrap (x5+1)),⟨fj,h9,ld,(AL o9)⟩,H⟩
  ·refine qr [.b 2 c2] <| JM <| qk ?_
   obtain⟨v7,F3,H⟩:=aW H
   obtain⟨h10,GD,BP⟩:=fN (P:=Tryz.prog) (tf:=3) (E:=af) (l:=dA) (q:=0) (v:=gB) (x:=.i gB) o7 rfl Z3 F3 rfl rfl
   exact qr [.v 3 (be (k:=.i64) (E:=af) (l:=dA) (q:=0) gj o7 rfl F3),.w 4 GD] <| q0 <| ⟨(dA.set v1.toNat gB,gB,i64.wrap (x5+1)),⟨fj,h10,ld,(AL BP)⟩,H⟩
 ·exact qx 2 <| ⟨rfl,dA,gB,x5,oi H,.rs fk 0 fP.length 1,.rs fk 0 fP.length 1,.i (fP.length:Int),.i x5,.bool (decide (x5<(fP.length:Int))),fj,h7,ld,(AL o7)⟩
theorem ax.Iy (L:Mem)(aL:List ai)(aM:Nat)(ib:Nat)(dB:List Int)(lh:Int)(ib:Nat)(hH:Nat)(jM:Nat)(dZ:List (List Int × Int))(eX:List Int)(x9:Int)(jM:Nat)(v8:ai)(lf:Nat)   : cY Tryz.prog cf qX m (sub [1,1,1,1,1,1,1,0,0,0,1,1,0,1,0,0,1,1,0,0,1,1,0,1,0,0] (bN Tryz.f96)) (fun k (σ:(List Int) × Int)=>ax.l4 m dB v8 k σ.1 σ.2) (fun σ s=>match σ with | (k0,mr)=>∃h18,s=⟨.any :: .ptr aM 0::nU (.rs ib 0 dB.length 1 :: .i lh :: .any :: .any :: .mp hH :: .rs jM 0 eX.length 1 :: .i x9 :: .any :: .ptr lf 0::wG (ah.fz aL :: .i (aL.length:Int) :: .i x9 :: .any::af.fz v8.args :: .i (v8.args.length:Int) :: .i mr::nU [])),[none],h18⟩∧Has h18 ((lf,.sl 9 1 (af.l k0))::(jM,.sl eX.length 1 (af.l eX))::(hH,.mp (yD dZ))::(ib,.sl dB.length 1 (af.l dB))::(aM,.ob [ah.fz aL])::L)) (fun out e s=>(e = .exit 8∧∃k0 mr,(k0,mr)=out∧∃Ug Uh Ui Uj h18,s=⟨.any :: .ptr aM 0::nU (.rs ib 0 dB.length 1 :: .i lh :: .any :: .any :: .mp hH :: .rs jM 0 eX.length 1 :: .i x9 :: .any :: .ptr lf 0::wG [ah.fz aL,.i (aL.length:Int),.i x9,.any,Ug,Uh,Ui,Uj,.any,.any]),[none],h18⟩∧Has h18 ((lf,.sl 9 1 (af.l k0))::(jM,.sl eX.length 1 (af.l eX))::(hH,.mp (yD dZ))::(ib,.sl dB.length 1 (af.l dB))::(aM,.ob [ah.fz aL])::L))):=by
 refine ln (fun _=>rfl) ?_
 rintro k ⟨k0,mr⟩ s out ⟨h18,rfl,F5⟩ H
 have H:ax.l4 m dB v8 (k+1) k0 mr=some out:=H
 refine q1 <| qq <| qc H (fun c6 H=>?_) (fun c6 H=>?_)
 ·refine qk <| qq <| qb 9 <| qq ?_
  obtain⟨v10,KL,H⟩:=aW H
  refine qr [.v 1 (eK (k:=.i64) (E:=af) (l:=v8.args) gj KL),.v 2 (gK  (E:=af) (l:=v8.args) h18 A3 KL rfl)] ?_
  obtain⟨v11,OD,H⟩:=aW H
  obtain⟨v12,OE,H⟩:=aW H
  obtain⟨h19,Uk,QJ⟩:=fN (P:=Tryz.prog) (tf:=3) (E:=af) (l:=k0) (q:=0) (v:=(i64.wrap (v11+1))) (x:=.i (i64.wrap (v11+1))) F5 rfl Z3 OE rfl rfl
  exact qr [.v 4 (be (k:=.i64) (E:=af) (l:=dB) (q:=3) gj F5 rfl OD),.v 5 (cL  (E:=af) (l:=dB) (q:=3) F5 rfl A3 OD rfl),.v 7 (MS (k:=.i64) (q:=0) (l:=k0) xn F5 rfl OE),.w 8 Uk] <| q0 <| ⟨(k0.set (i64.wrap (mr+1)).toNat (i64.wrap (v11+1)),i64.wrap (mr+1)),⟨h19,kr,QJ⟩,H⟩
 ·exact qx 8 <| ⟨rfl,k0,mr,oi H,af.fz v8.args,.i (v8.args.length:Int),.i mr,.bool (decide (mr<(v8.args.length:Int))),h18,kr,F5⟩
theorem ax.Ix (L:Mem)(aL:List ai)(aM:Nat)(ib:Nat)(dB:List Int)(lh:Int)(ib:Nat)(hH:Nat)   : cY Tryz.prog cf qX m (sub [1,1,1,1,1,1,1,0,0,0,1,1,0,1,0,0] (bN Tryz.f96)) (fun k (σ:(List (List Int × Int)) × (List Int) × Int)=>ax.l3 m aL dB k σ.1 σ.2.1 σ.2.2) (fun σ s=>match σ with | (dZ,eX,x9)=>∃jM h15,s=⟨.any :: .ptr aM 0::nU (.rs ib 0 dB.length 1 :: .i lh :: .any :: .any :: .mp hH :: .rs jM 0 eX.length 1::Cy (ah.fz aL :: .i (aL.length:Int) :: .i x9::JL [])),[none],h15⟩∧Has h15 ((jM,.sl eX.length 1 (af.l eX))::(hH,.mp (yD dZ))::(ib,.sl dB.length 1 (af.l dB))::(aM,.ob [ah.fz aL])::L)) (fun out e s=>(e = .exit 6∧∃dZ eX x9,(dZ,eX,x9)=out∧∃Ul Um Un Uo jM h15,s=⟨.any :: .ptr aM 0::nU (.rs ib 0 dB.length 1 :: .i lh :: .any :: .any :: .mp hH :: .rs jM 0 eX.length 1::Cy (Ul::Um::Un::Uo::zA [])),[none],h15⟩∧Has h15 ((jM,.sl eX.length 1 (af.l eX))::(hH,.mp (yD dZ))::(ib,.sl dB.length 1 (af.l dB))::(aM,.ob [ah.fz aL])::L))):=by
 refine ln (fun _=>rfl) ?_
 rintro k ⟨dZ,eX,x9⟩ s out ⟨jM,h15,rfl,CS⟩ H
 have H:ax.l3 m aL dB (k+1) dZ eX x9=some out:=H
 refine q1 <| qq <| qc H (fun c5 H=>?_) (fun c5 H=>?_)
 ·refine qk <| qq <| qb 7 <| qq ?_
  obtain⟨v8,JP,H⟩:=aW H
  refine qr [.v 1 (eK (k:=.i64) (E:=ah) (l:=aL) tS JP),.v 2 (ke  (E:=ah) (l:=aL) h15 BM BN JP)] <| qq ?_
  obtain⟨v9,L3,H⟩:=aW H
  obtain⟨lf,h16,Qv,GI⟩:=Kq (cs:=[.i 0,.i 0,.i 0,.i 0,.i 0,.i 0,.i 0,.i 0,.i 0]) (l:=[0,0,0,0,0,0,0,0,0]) CS kr
  obtain⟨h17,L2,GG⟩:=MT (q:=0) (l:=([0,0,0,0,0,0,0,0,0])) (l':=[i64.wrap (v9+1),0,0,0,0,0,0,0,0]) (x:=.agg [.i (i64.wrap (v9+1)),.i 0,.i 0,.i 0,.i 0,.i 0,.i 0,.i 0,.i 0]) xn GI rfl rfl rfl
  refine qr [.v 2 (be (k:=.i64) (E:=af) (l:=dB) (q:=2) gj CS rfl L3),.v 3 (cL  (E:=af) (l:=dB) (q:=2) CS rfl A3 L3 rfl),.a 6 Qv,.w 7 L2] <| qq <| qq <| q0 <| qb 8 ?_
  obtain⟨Ie,Up,H⟩:=aW H
  refine ql (ax.Iy L aL aM ib dB lh ib hH jM dZ eX x9 jM v8 lf   ([i64.wrap (v9+1),0,0,0,0,0,0,0,0],0) _ _ ⟨h17,kr,GG⟩ Up) ?_
  rintro e s ⟨rfl,k1,Eb,rfl,g13,g14,g15,g16,h20,rfl,F6⟩
  try dsimp only at H
  refine qq <| qq ?_
  obtain⟨r0,Uq,H⟩:=aW H
  refine qr [.v 1 (show bw Tryz.prog h20 121 (.ptr lf 0)=some (.agg (af.l k1)) from yF (q:=0) (l:=k1) xn F6 rfl),.v 2 (show eZ Tryz.prog h20 119 (.mp hH) (.agg (af.l k1)) true=some (.tup [.i r0.1,.bool r0.2]) from (MQ (q:=2) (l:=dZ) (k:=k1) D1 F6 rfl Uq).1)] <| qq <| q0 <| qc H (fun c7 H=>?_) (fun c7 H=>?_)
  ·obtain⟨OG,Ur,H⟩:=aW H
   obtain⟨h21,Us,L5⟩:=SW (q:=2) (l:=dZ) (k:=k1) (v:=(dZ.length:Int)) D1 F6 rfl Ur
   refine qr [.v 1 (show bw Tryz.prog h20 121 (.ptr lf 0)=some (.agg (af.l k1)) from yF (q:=0) (l:=k1) xn F6 rfl),.v 3 (show ub Tryz.prog h20 119 (.mp hH)=some (.i (dZ.length:Int)) from MR (q:=2) (l:=dZ) HZ F6 rfl),.w 4 Us] ?_
   obtain⟨r1,Ut,H⟩:=aW H
   obtain⟨RQ,RU,H⟩:=aW H
   obtain⟨h22,Uu,Uv⟩:=fN (P:=Tryz.prog) (tf:=3) (E:=af) (l:=eX) (q:=1) (v:=r1.1) (x:=.i r1.1) L5 rfl Z3 RU rfl rfl
   refine qr [.v 3 (show bw Tryz.prog h21 121 (.ptr lf 0)=some (.agg (af.l k1)) from yF (q:=0) (l:=k1) xn L5 rfl),.v 4 (show eZ Tryz.prog h21 119 (.mp hH) (.agg (af.l k1)) false=some (.i r1.1) from (MQ (q:=2) (l:=OG) (k:=k1) D1 L5 rfl Ut).2),.v 5 (be (k:=.i64) (E:=af) (l:=eX) (q:=1) gj L5 rfl RU),.w 6 Uu] ?_
   have YC:Has h22 ((jM,.sl eX.length 1 (af.l (eX.set x9.toNat r1.1)))::(hH,.mp (yD OG))::(ib,.sl dB.length 1 (af.l dB))::(aM,.ob [ah.fz aL])::L):=iJ Uv 0
   exact q0 <| ⟨(OG,eX.set x9.toNat r1.1,i64.wrap (x9+1)),⟨jM,h22,ld,(AL YC)⟩,H⟩
  ·refine qk ?_
   obtain⟨r2,YD,H⟩:=aW H
   obtain⟨YB,WD,H⟩:=aW H
   obtain⟨h23,YE,YF⟩:=fN (P:=Tryz.prog) (tf:=3) (E:=af) (l:=eX) (q:=1) (v:=r2.1) (x:=.i r2.1) F6 rfl Z3 WD rfl rfl
   refine qr [.v 3 (show bw Tryz.prog h20 121 (.ptr lf 0)=some (.agg (af.l k1)) from yF (q:=0) (l:=k1) xn F6 rfl),.v 4 (show eZ Tryz.prog h20 119 (.mp hH) (.agg (af.l k1)) false=some (.i r2.1) from (MQ (q:=2) (l:=dZ) (k:=k1) D1 F6 rfl YD).2),.v 5 (be (k:=.i64) (E:=af) (l:=eX) (q:=1) gj F6 rfl WD),.w 6 YE] ?_
   have YG:Has h23 ((jM,.sl eX.length 1 (af.l (eX.set x9.toNat r2.1)))::(hH,.mp (yD dZ))::(ib,.sl dB.length 1 (af.l dB))::(aM,.ob [ah.fz aL])::L):=iJ YF 0
   exact q0 <| ⟨(dZ,eX.set x9.toNat r2.1,i64.wrap (x9+1)),⟨jM,h23,ld,(AL YG)⟩,H⟩
 ·exact qx 6 <| ⟨rfl,dZ,eX,x9,oi H,ah.fz aL,.i (aL.length:Int),.i x9,.bool (decide (x9<(aL.length:Int))),jM,h15,kr,CS⟩
theorem ax.qT (L:Mem)(aL:List ai)(aM:Nat)   : cY Tryz.prog cf qX m (sub [1,1,1,1,1,1,1,0,0] (bN Tryz.f96)) (fun k (σ:(List Int) × Int)=>ax.l2 m aL k σ.1 σ.2) (fun σ s=>match σ with | (dB,lh)=>∃g8 g9 g10 g11 g12 ib h12,s=⟨.any :: .ptr aM 0 :: .any::g8 :: .any :: .rs ib 0 dB.length 1 :: .i lh::Cw (g9::g10::g11::g12::wG []),[none],h12⟩∧Has h12 ((ib,.sl dB.length 1 (af.l dB))::(aM,.ob [ah.fz aL])::L)) (fun out e s=>(e = .exit 4∧∃dB lh,.inr (dB,lh)=out∧∃vd FU Nj H3 CL CM If IA ib h12,s=⟨.any::vd :: .any::FU :: .any::Nj::H3::Cw (CL::CM::If::IA::wG []),[none],h12⟩∧Has h12 ((ib,.sl dB.length 1 (af.l dB))::(aM,.ob [ah.fz aL])::L))∨(e = .ret∧∃r,.inl r=out∧ax.fin L r s)):=by
 refine ln (fun _=>rfl) ?_
 rintro k ⟨dB,lh⟩ s out ⟨g8,g9,g10,g11,g12,ib,h12,rfl,zC⟩ H
 have H:ax.l2 m aL (k+1) dB lh=some out:=H
 refine qb 5 <| qq ?_
 obtain⟨hH,h13,Il,zD⟩:=yE zC
 refine qr [.m 0 Il] <| qq ?_
 obtain⟨x8,JO,H⟩:=aW H
 obtain⟨GB,h14,KK,JQ⟩:=yz (P:=Tryz.prog) (E:=af) (z:=0) (zv:=.i 0) gj zD 3 rfl rfl rfl rfl JO
 refine qr [.v 0 (show bw Tryz.prog h13 23 (.ptr aM 0)=some (ah.fz aL) from b6 (q:=2) (cs:=[ah.fz aL]) zD rfl kr),.a 2 KK] <| qq <| qq <| qr [.v 0 (show bw Tryz.prog h14 23 (.ptr aM 0)=some (ah.fz aL) from b6 (q:=3) (cs:=[ah.fz aL]) JQ rfl kr)] <| qb 6 ?_
 obtain⟨QG,YH,H⟩:=aW H
 refine ql (ax.Ix L aL aM ib dB lh ib hH   (([]:List (List Int × Int)),x8,0) _ _ ⟨GB,h14,kr,JQ⟩ YH) ?_
 rintro e s ⟨rfl,gg,oI,rT,rfl,g17,g18,g19,g20,oF,h24,rfl,RV⟩
 try dsimp only at H
 refine qq <| qq <| qr [.v 1 (show ub Tryz.prog h24 119 (.mp hH)=some (.i (gg.length:Int)) from MR (q:=1) (l:=gg) HZ RV rfl)] <| qc H (fun c8 H=>?_) (fun c8 H=>?_)
 ·refine q1 ?_
  have YI:Has h24 ((oF,.sl oI.length 1 (af.l oI))::(hH,.mp (yD gg))::(ib,.sl dB.length 1 (af.l dB))::L):=iJ RV 3
  have YJ:Has h24 ((oF,.sl oI.length 1 (af.l oI))::(ib,.sl dB.length 1 (af.l dB))::L):=iJ YI 1
  have YK:Has h24 ((ib,.sl dB.length 1 (af.l dB))::L):=iJ YJ 0
  exact qt <| Or.inr (⟨rfl,_,oi H,wI (.rs ib 0 dB.length 1) h24 (tP (LQ (E:=af) (l:=dB) (q:=0) YK rfl (fun _=>rfl)))⟩)
 ·refine qk <| qr [.v 2 (show ub Tryz.prog h24 119 (.mp hH)=some (.i (gg.length:Int)) from MR (q:=1) (l:=gg) HZ RV rfl)] ?_
  have YL:Has h24 ((oF,.sl oI.length 1 (af.l oI))::(hH,.mp (yD gg))::(aM,.ob [ah.fz aL])::L):=iJ RV 2
  have YM:Has h24 ((oF,.sl oI.length 1 (af.l oI))::(aM,.ob [ah.fz aL])::L):=iJ YL 1
  exact⟨(oI,i64.wrap ((gg.length:Int) - 1)),⟨.any,.any,.any,.any,.any,oF,h24,kr,YM⟩,H⟩
theorem qY {aS:FuncId→bR}(ha:aS 96=qX)(sN:Iv cf m)(QK:QE cf m)(QL:Qp cf m)(aL:List ai)(h:AHeap)(L:Mem)  (o:Has h (L)){out:(List Int)}(H:ax.f m aL=some out) :
  ∃r h',a6 Tryz.prog aS cf m 96 [ah.fz aL] h=some (r,h')∧eR h' r (af.fz out):=by
 refine aq (fn:=Tryz.f96) ha Tryz.func96 kr kr ?_
 refine aC (Q:=fun s=>ax.fin L out s) (fun _ _ h=>h) ?_
 have H:_=some out:=H
 unfold ax.f at H
 show cZ _ cf qX m _ ⟨ah.fz aL::Te [],[none],h⟩ _
 refine qq ?_
 obtain⟨aM,h0,e0,o0⟩:=gM (cs:=[ah.fz aL]) o kr
 refine qr [.a 0 e0] <| qq ?_
 obtain⟨x0,e1,H⟩:=aW H
 obtain⟨cr,h1,e2,o1⟩:=yz (P:=Tryz.prog) (E:=af) (z:=0) (zv:=.i 0) gj o0 3 rfl rfl rfl rfl e1
 refine qr [.v 0 (show bw Tryz.prog h0 23 (.ptr aM 0)=some (ah.fz aL) from b6 (q:=0) (cs:=[ah.fz aL]) o0 rfl kr),.a 2 e2] <| qq <| qq <| q0 <| qb 0 ?_
 obtain⟨bP,e5,H⟩:=aW H
 refine ql (ax.cb L aL aM x0   (x0,0) _ _ ⟨cr,h1,kr,o1⟩ e5) ?_
 rintro e s ⟨rfl,fP,x2,rfl,g0,g1,g2,fk,h4,rfl,o4⟩
 try dsimp only at H
 refine qq ?_
 obtain⟨x3,e6,H⟩:=aW H
 obtain⟨h5,e7,o5⟩:=QK _ _ _ e6 h4 _ _ _ (o4) 115 [.ptr aM 0] [.fp [ah.fz aL] 0] rfl (fun h' tj y0 y1 r hr hx=>QL y0 y1 _ r hr h' tj hx) (fun h' K' o'=>iR (ak (eC (q:=(K'.length+0)) o' (jG rfl) (ak (km (E:=ah)) (aG))) (aG))) (fun h_=>iR (ak (fE (pure_cons (bL.bp (E:=ah) (l:=aL)) (pure_nil))) (aG))) [.rs fk 0 fP.length 1,.fn 115 [.ptr aM 0]] cq
 refine qr [.a 2 e7] <| qq ?_
 obtain⟨x4,e8,H⟩:=aW H
 obtain⟨fR,h6,e9,o6⟩:=yz (P:=Tryz.prog) (E:=af) (z:=0) (zv:=.i 0) gj o5 3 rfl rfl rfl rfl e8
 refine qr [.v 0 (show bw Tryz.prog h5 23 (.ptr aM 0)=some (ah.fz aL) from b6 (q:=1) (cs:=[ah.fz aL]) o5 rfl kr),.a 2 e9] <| qq <| q0 <| qq <| qq <| q0 <| qb 2 ?_
 obtain⟨AR,JN,H⟩:=aW H
 refine ql (ax.k8 L aL aM fk fP fk x3  sN (x4,0,0) _ _ ⟨fR,h6,ld,(AL o6)⟩ JN) ?_
 rintro e s ⟨rfl,lV,many1,x7,rfl,g3,g4,g5,g6,g7,gk,h11,rfl,BQ⟩
 try dsimp only at H
 refine qb 4 ?_
 have Im:Has h11 ((gk,.sl lV.length 1 (af.l lV))::(aM,.ob [ah.fz aL])::L):=iJ BQ 1
 obtain⟨QH,YN,H⟩:=aW H
 refine ql (ax.qT L aL aM   (lV,many1) _ _ ⟨g3,g4,g5,g6,g7,gk,h11,kr,Im⟩ YN) ?_
 rintro e s (⟨rfl,Ud,QI,rfl,g21,g22,g23,g24,g25,g26,g27,g28,pU,h25,rfl,o33⟩| ⟨rfl,r3,rfl,rS⟩)
 ·try dsimp only at H
  cases H
 ·try dsimp only at H
  obtain rfl:=oi H
  exact⟨.inl rfl,rS⟩
end
def EH:bR:=gC [0,1,2,3,4,5,6] [2,4000005] [121,113,97,65,1,25,91,123] [] [(0,[(2,some 0,4)])]
def bA.f (m:Nat)(t0:aI):Option (aI):=(ax.f m t0.nodes).bind fun x0=>(bc.f m m t0.root ([]:List (Int × Int)) x0 (aI.mk ([]:List ai) 0) t0).bind fun x1=>some x1.2.2
def bA.fin (L:Mem)  (r:aI)(s:St):Prop:=∃(dz:Nat) (dO:List Nat),aE Tryz.prog (s.open EH) Tryz.f62.results.toList=some (.agg [.rs dz 0 r.nodes.length 4,.i r.root])∧Has s.h ((dz,.sl r.nodes.length 4 (cj.l (aQ r.nodes dO)))::(dd r.nodes dO++L))
def Uw (cf:CallF)(m:Nat):Prop:=∀(t0:aI) (r:aI),bA.f m t0=some r→∀h L xs,Has h L→aP bH h xs [.agg [ah.fz t0.nodes,.i t0.root]]→∃(dz:Nat) (dO:List Nat) (h':AHeap),cf 62 xs h=some (.agg [.rs dz 0 r.nodes.length 4,.i r.root],h')∧Has h' ((dz,.sl r.nodes.length 4 (cj.l (aQ r.nodes dO)))::(dd r.nodes dO++L))∧∀j,j<h.next→h.ver j=h'.ver j
section
variable {cf:CallF}{m:Nat}
theorem tC {aS:FuncId→bR}(ha:aS 62=EH)(Ux:WC cf m)(H7:RM cf m m)(t0:aI)(h:AHeap)(L:Mem)  (o:Has h (L)){out:aI}(H:bA.f m t0=some out) :
  ∃r h',a6 Tryz.prog aS cf m 62 [.agg [ah.fz t0.nodes,.i t0.root]] h=some (r,h')∧∃(dz:Nat) (dO:List Nat),r = .agg [.rs dz 0 out.nodes.length 4,.i out.root]∧Has h' ((dz,.sl out.nodes.length 4 (cj.l (aQ out.nodes dO)))::(dd out.nodes dO++L)):=by
 refine aq (fn:=Tryz.f62) ha Tryz.func62 kr kr ?_
 refine aC (Q:=fun s=>bA.fin L out s) (fun _ _ ⟨h1,dz,dO,h2,h3⟩=>⟨h1,_,h2,dz,dO,rfl,h3⟩) ?_
 have H:_=some out:=H
 unfold bA.f at H
 show cZ _ cf EH m _ ⟨.agg [ah.fz t0.nodes,.i t0.root]::zA [],[none,none],h⟩ _
 refine qq ?_
 obtain⟨aM,h0,e0,o0⟩:=gM (cs:=[ah.fz t0.nodes,.i t0.root]) o kr
 refine qr [.a 0 e0] ?_
 have o1:Has h0 (((0),.sl (([]:List ai).length) 4 (cj.l (aQ ([]:List ai) ([]:List Nat))))::(aM,.ob [ah.fz t0.nodes,.i t0.root])::L):=Has.nil o0 4
 refine qq ?_
 obtain⟨x0,e1,H⟩:=aW H
 obtain⟨cr,h1,e2,o2⟩:=gM (cs:=[.nils]) o1 kr
 obtain⟨h2,e3,o3⟩:=pw (P:=Tryz.prog) (t:=22) (off:=0) (q:=0) (cs:=[.nils]) (fQ:=[af.fz x0]) (x:=af.fz x0) o2 rfl kr
 refine qr [.v 1 (show bw Tryz.prog h0 23 (.ptr aM 0)=some (ah.fz t0.nodes) from b6 (q:=1) (cs:=[ah.fz t0.nodes,.i t0.root]) o1 rfl kr),.a 2 (Ux _ _ e1 h0 _ fq),.a 3 e2,.w 4 e3] <| qq ?_
 obtain⟨dY,h3,e4,o4⟩:=yE o3
 obtain⟨fk,h4,e5,o5⟩:=gM (cs:=[.nw]) o4 kr
 obtain⟨h5,e6,o6⟩:=pw (P:=Tryz.prog) (t:=84) (off:=0) (q:=0) (cs:=[.nw]) (fQ:=[.mp dY]) (x:=.mp dY) o5 rfl kr
 refine qr [.m 0 e4,.a 1 e5,.w 2 e6] <| qq ?_
 have o7:Has h5 ((((0)),.sl (([]:List ai).length) 4 (ah.l ([]:List ai)))::(fk,.ob [.mp dY])::(dY,.mp (nr ([]:List (Int × Int))))::(cr,.ob [af.fz x0])::((0),.sl (([]:List ai).length) 4 (cj.l (aQ ([]:List ai) ([]:List Nat))))::(aM,.ob [ah.fz t0.nodes,.i t0.root])::L):=Has.nil o6 4
 obtain⟨fR,h6,e7,o8⟩:=gM (cs:=[.rs ((0)) 0 (([]:List ai).length) 4,.i 0]) o7 kr
 refine qr [.a 0 e7] <| qq ?_
 obtain⟨fj,h7,e8,o9⟩:=gM (cs:=[.p6]) o8 kr
 refine qr [.a 0 e8] <| qq ?_
 obtain⟨h8,e9,BP⟩:=pw (P:=Tryz.prog) (t:=94) (off:=0) (q:=0) (cs:=[.p6]) (fQ:=[.fn 97 [.ptr fk 0,.ptr cr 0,.ptr fR 0,.ptr aM 0,.ptr fj 0]]) (x:=.fn 97 [.ptr fk 0,.ptr cr 0,.ptr fR 0,.ptr aM 0,.ptr fj 0]) o9 rfl kr
 refine qr [.w 1 e9] <| qq ?_
 obtain⟨x1,sL,H⟩:=aW H
 obtain⟨gk,dO,h9,vg,BQ⟩:=H7 _ _ _ _ _ _ sL h8 _ _ _ _ _ _ ([]:List Nat) _ _ ((fe (fe (fe (fe (fe (fe (fe (fe BP 6) 1) 7) 4) 4) 7) 7) 7))  [.i t0.root,.ptr fk 0,.ptr cr 0,.ptr fR 0,.ptr aM 0,.ptr fj 0] cq
 have Im:=Has.jX (pre:=[(fk,.ob [.mp dY]),(dY,.mp (nr x1.2.1)),(cr,.ob [af.fz x0]),(fR,.ob [.rs gk 0 x1.2.2.nodes.length 4,.i x1.2.2.root]),(gk,.sl x1.2.2.nodes.length 4 (cj.l (aQ x1.2.2.nodes dO))),(aM,.ob [ah.fz t0.nodes,.i t0.root]),(fj,.ob [.fn 97 [.ptr fk 0,.ptr cr 0,.ptr fR 0,.ptr aM 0,.ptr fj 0]])]) (N:=[((0),.sl (([]:List ai).length) 4 (cj.l (aQ ([]:List ai) ([]:List Nat))))]) (mid:=dd x1.2.2.nodes dO) BQ
 refine qr [.v 0 (show bw Tryz.prog h8 94 (.ptr fj 0)=some (.fn 97 [.ptr fk 0,.ptr cr 0,.ptr fR 0,.ptr aM 0,.ptr fj 0]) from b6 (q:=0) (cs:=[.fn 97 [.ptr fk 0,.ptr cr 0,.ptr fR 0,.ptr aM 0,.ptr fj 0]]) BP rfl kr),.v 2 (show bw Tryz.prog h8 3 (.ptr aM 1)=some (.i t0.root) from b6 (q:=7) (cs:=[ah.fz t0.nodes,.i t0.root]) BP rfl kr),.a 3 vg] ?_
 have zC:Has h9 ((fk,.ob [.mp dY])::(dY,.mp (nr x1.2.1))::(cr,.ob [af.fz x0])::(fR,.ob [.rs gk 0 x1.2.2.nodes.length 4,.i x1.2.2.root])::(gk,.sl x1.2.2.nodes.length 4 (cj.l (aQ x1.2.2.nodes dO)))::(aM,.ob [ah.fz t0.nodes,.i t0.root])::((0),.sl (([]:List ai).length) 4 (cj.l (aQ ([]:List ai) ([]:List Nat))))::(dd x1.2.2.nodes dO++L)):=iJ Im 6
 have zD:Has h9 ((fk,.ob [.mp dY])::(dY,.mp (nr x1.2.1))::(cr,.ob [af.fz x0])::(fR,.ob [.rs gk 0 x1.2.2.nodes.length 4,.i x1.2.2.root])::(gk,.sl x1.2.2.nodes.length 4 (cj.l (aQ x1.2.2.nodes dO)))::((0),.sl (([]:List ai).length) 4 (cj.l (aQ ([]:List ai) ([]:List Nat))))::(dd x1.2.2.nodes dO++L)):=iJ zC 5
 have JQ:Has h9 ((fk,.ob [.mp dY])::(dY,.mp (nr x1.2.1))::(fR,.ob [.rs gk 0 x1.2.2.nodes.length 4,.i x1.2.2.root])::(gk,.sl x1.2.2.nodes.length 4 (cj.l (aQ x1.2.2.nodes dO)))::((0),.sl (([]:List ai).length) 4 (cj.l (aQ ([]:List ai) ([]:List Nat))))::(dd x1.2.2.nodes dO++L)):=iJ zD 2
 have CS:Has h9 ((fk,.ob [.mp dY])::(fR,.ob [.rs gk 0 x1.2.2.nodes.length 4,.i x1.2.2.root])::(gk,.sl x1.2.2.nodes.length 4 (cj.l (aQ x1.2.2.nodes dO)))::((0),.sl (([]:List ai).length) 4 (cj.l (aQ ([]:List ai) ([]:List Nat))))::(dd x1.2.2.nodes dO++L)):=iJ JQ 1
 have GI:Has h9 ((fR,.ob [.rs gk 0 x1.2.2.nodes.length 4,.i x1.2.2.root])::(gk,.sl x1.2.2.nodes.length 4 (cj.l (aQ x1.2.2.nodes dO)))::((0),.sl (([]:List ai).length) 4 (cj.l (aQ ([]:List ai) ([]:List Nat))))::(dd x1.2.2.nodes dO++L)):=iJ CS 0
 refine qs [.v 0 (show bw Tryz.prog h9 25 (.ptr fR 0)=some (.agg [.rs gk 0 x1.2.2.nodes.length 4,.i x1.2.2.root]) from b6 (q:=0) (cs:=[.rs gk 0 x1.2.2.nodes.length 4,.i x1.2.2.root]) GI rfl kr)] ?_
 have GG:Has h9 ((fR,.ob [.rs gk 0 x1.2.2.nodes.length 4,.i x1.2.2.root])::(gk,.sl x1.2.2.nodes.length 4 (cj.l (aQ x1.2.2.nodes dO)))::(dd x1.2.2.nodes dO++L)):=iJ GI 2
 have F5:Has h9 ((gk,.sl x1.2.2.nodes.length 4 (cj.l (aQ x1.2.2.nodes dO)))::(dd x1.2.2.nodes dO++L)):=iJ GG 0
 obtain rfl:=oi H
 exact qt <| ⟨.inl rfl,⟨gk,dO,kr,he F5⟩⟩
end
def EI:bR:=gC [0,1,2,3,6] [1,2] [25,9,19,19] [] [(0,[(2,some 0,4)]),(2,[(2,some 0,4)])]
def dG.f (m:Nat)(t0:aI):Option (aI × Int):=(gf.f m t0).bind fun x0=>if (!x0)=true then (some ((aI.mk ([]:List ai) 0),2)) else ((bA.f m t0).bind fun x1=>some (x1,0))
def dG.fin (L:Mem)  (r:aI × Int)(s:St):Prop:=∃(dz:Nat) (dO:List Nat),aE Tryz.prog (s.open EI) Tryz.f25.results.toList=some (.tup [.agg [.rs dz 0 r.1.nodes.length 4,.i r.1.root],.i r.2])∧Has s.h ((dz,.sl r.1.nodes.length 4 (cj.l (aQ r.1.nodes dO)))::(dd r.1.nodes dO++L))
def RW (cf:CallF)(m:Nat):Prop:=∀(t0:aI) (r:aI × Int),dG.f m t0=some r→∀h L xs,Has h L→aP bH h xs [.agg [ah.fz t0.nodes,.i t0.root]]→∃(dz:Nat) (dO:List Nat) (h':AHeap),cf 25 xs h=some (.tup [.agg [.rs dz 0 r.1.nodes.length 4,.i r.1.root],.i r.2],h')∧Has h' ((dz,.sl r.1.nodes.length 4 (cj.l (aQ r.1.nodes dO)))::(dd r.1.nodes dO++L))∧∀j,j<h.next→h.ver j=h'.ver j
section
variable {cf:CallF}{m:Nat}
theorem tD {aS:FuncId→bR}(ha:aS 25=EI)(IB:Ua cf m)(KM:Uw cf m)(t0:aI)(h:AHeap)(L:Mem)  (o:Has h (L)){out:aI × Int}(H:dG.f m t0=some out) :
  ∃r h',a6 Tryz.prog aS cf m 25 [.agg [ah.fz t0.nodes,.i t0.root]] h=some (r,h')∧∃(dz:Nat) (dO:List Nat),r = .tup [.agg [.rs dz 0 out.1.nodes.length 4,.i out.1.root],.i out.2]∧Has h' ((dz,.sl out.1.nodes.length 4 (cj.l (aQ out.1.nodes dO)))::(dd out.1.nodes dO++L)):=by
 refine aq (fn:=Tryz.f25) ha Tryz.func25 kr kr ?_
 refine aC (Q:=fun s=>dG.fin L out s) (fun _ _ ⟨h1,dz,dO,h2,h3⟩=>⟨h1,_,h2,dz,dO,rfl,h3⟩) ?_
 have H:_=some out:=H
 unfold dG.f at H
 show cZ _ cf EI m _ ⟨.agg [ah.fz t0.nodes,.i t0.root]::rN [],[none,none],h⟩ _
 refine q1 ?_
 have o0:Has h (((0),.sl (([]:List ai).length) 4 (cj.l (aQ ([]:List ai) ([]:List Nat))))::L):=Has.nil o 4
 refine qq <| qq ?_
 obtain⟨x0,e0,H⟩:=aW H
 refine qr [.a 1 (IB _ _ e0 h _ fq)] <| qc H (fun c0 H=>?_) (fun c0 H=>?_)
 ·refine q1 ?_
  have o1:Has h ((((0)),.sl (([]:List ai).length) 4 (cj.l (aQ ([]:List ai) ([]:List Nat))))::((0),.sl (([]:List ai).length) 4 (cj.l (aQ ([]:List ai) ([]:List Nat))))::L):=Has.nil o0 4
  have o2:Has h ((((0)),.sl (([]:List ai).length) 4 (cj.l (aQ ([]:List ai) ([]:List Nat))))::L):=iJ o1 1
  obtain rfl:=oi H
  exact qt <| ⟨.inl rfl,⟨((0)),([]:List Nat),kr,he o2⟩⟩
 ·refine qk <| qq ?_
  obtain⟨x1,e1,H⟩:=aW H
  obtain⟨aM,cg,h0,e2,o3,GX⟩:=KM _ _ e1 h _ _ o0 fq
  have o4:=Has.jX (pre:=[(aM,.sl x1.nodes.length 4 (cj.l (aQ x1.nodes cg)))]) (N:=[((0),.sl (([]:List ai).length) 4 (cj.l (aQ ([]:List ai) ([]:List Nat))))]) (mid:=dd x1.nodes cg) o3
  refine qr [.a 1 e2] ?_
  have o5:Has h0 ((aM,.sl x1.nodes.length 4 (cj.l (aQ x1.nodes cg)))::(dd x1.nodes cg++L)):=iJ o4 1
  obtain rfl:=oi H
  exact qt <| ⟨.inl rfl,⟨aM,cg,kr,he o5⟩⟩
end
def EJ:bR:=gC [0,1,2,3,4,5,13] [2,3] [115,51,79,79] [] []
def ji.f (m:Nat)(a0:aI)(b0:aI):Option (Bool × Int):=(gf.f m a0).bind fun x0=>if (!x0)=true then (some (false,2)) else ((gf.f m b0).bind fun x1=>if (!x1)=true then (some (false,2)) else ((bA.f m a0).bind fun x2=>(bA.f m b0).bind fun x3=>(iv.f m x2 x3).bind fun x4=>some (x4,0)))
def ji.fin (L:Mem)(r:Bool × Int)(s:St):Prop:=∃av,aE Tryz.prog (s.open EJ) Tryz.f28.results.toList=some av∧eR s.h av (.tup [.bool r.1,.i r.2])
def WE (cf:CallF)(m:Nat):Prop:=∀(a0:aI) (b0:aI) (r:Bool × Int),ji.f m a0 b0=some r→∀h xs,aP bH h xs [.agg [ah.fz a0.nodes,.i a0.root],.agg [ah.fz b0.nodes,.i b0.root]]→cf 28 xs h=some (.tup [.bool r.1,.i r.2],h)
section
variable {cf:CallF}{m:Nat}
theorem vH {aS:FuncId→bR}(ha:aS 28=EJ)(IB:Ua cf m)(KM:Uw cf m)(Uy:WB cf m)(a0:aI)(b0:aI)(h:AHeap)(L:Mem)  (o:Has h (L)){out:Bool × Int}(H:ji.f m a0 b0=some out) :
  ∃r h',a6 Tryz.prog aS cf m 28 [.agg [ah.fz a0.nodes,.i a0.root],.agg [ah.fz b0.nodes,.i b0.root]] h=some (r,h')∧eR h' r (.tup [.bool out.1,.i out.2]):=by
 refine aq (fn:=Tryz.f28) ha Tryz.func28 kr kr ?_
 refine aC (Q:=fun s=>ji.fin L out s) (fun _ _ h=>h) ?_
 have H:_=some out:=H
 unfold ji.f at H
 show cZ _ cf EJ m _ ⟨.agg [ah.fz a0.nodes,.i a0.root] :: .agg [ah.fz b0.nodes,.i b0.root]::Ax [],[none,none],h⟩ _
 refine q1 <| qq <| qq ?_
 obtain⟨x0,e0,H⟩:=aW H
 rcases du H with⟨c0,H⟩| ⟨c0,H⟩
 ·obtain rfl:=oi H
  exact qr [.a 1 (IB _ _ e0 h _ fq),.b 3 c0] <| BK <| qq <| q0 <| qt <| ⟨.inl rfl,wI (.tup [.bool false,.i 2]) h (tP (uM (jQ (fU) (jQ (mU) (uL)))))⟩
 ·obtain⟨x1,e1,H⟩:=aW H
  refine qr [.a 1 (IB _ _ e0 h _ fq),.b 3 c0,.a 5 (IB _ _ e1 h _ fq)] <| qc H (fun c2 H=>?_) (fun c2 H=>?_)
  ·obtain rfl:=oi H
   exact q1 <| qt <| ⟨.inl rfl,wI (.tup [.bool false,.i 2]) h (tP (uM (jQ (fU) (jQ (mU) (uL)))))⟩
  ·refine qk <| qq ?_
   obtain⟨x2,e2,H⟩:=aW H
   obtain⟨aM,cg,h0,e3,o0,GX⟩:=KM _ _ e2 h _ _ o fq
   obtain⟨x3,e4,H⟩:=aW H
   obtain⟨cr,kh,h1,e5,o1,Ml⟩:=KM _ _ e4 h0 _ _ o0 fq
   have o2:=Has.jX (pre:=[(cr,.sl x3.nodes.length 4 (cj.l (aQ x3.nodes kh)))]) (N:=[(aM,.sl x2.nodes.length 4 (cj.l (aQ x2.nodes cg)))]) (mid:=dd x3.nodes kh) o1
   obtain⟨x4,e6,H⟩:=aW H
   refine qr [.a 1 e3,.a 3 e5,.a 4 (Uy _ _ _ e6 h1 _ (lZ (ak (kg (ak (HI (pre:=[(cr,.sl x3.nodes.length 4 (cj.l (aQ x3.nodes kh))),(aM,.sl x2.nodes.length 4 (cj.l (aQ x2.nodes cg)))]) (ns:=x2.nodes) (ids:=cg) (q:=1) (Has.jX (pre:=[(cr,.sl x3.nodes.length 4 (cj.l (aQ x3.nodes kh))),(aM,.sl x2.nodes.length 4 (cj.l (aQ x2.nodes cg)))]) (mid:=dd x3.nodes kh) (N:=dd x2.nodes cg) o2) rfl) (ak (bO) (aG)))) (ak (kg (ak (HI (pre:=[(cr,.sl x3.nodes.length 4 (cj.l (aQ x3.nodes kh))),(aM,.sl x2.nodes.length 4 (cj.l (aQ x2.nodes cg)))]) (ns:=x3.nodes) (ids:=kh) (q:=0) o2 rfl) (ak (bO) (aG)))) (aG)))))] ?_
   have o3:Has h1 ((cr,.sl x3.nodes.length 4 (cj.l (aQ x3.nodes kh)))::(dd x3.nodes kh++L)):=Has.gone (pre:=[(cr,.sl x3.nodes.length 4 (cj.l (aQ x3.nodes kh)))]) (ns:=x2.nodes) (ids:=cg) (Has.jX (pre:=[(cr,.sl x3.nodes.length 4 (cj.l (aQ x3.nodes kh)))]) (mid:=dd x3.nodes kh) (N:=dd x2.nodes cg) (iJ o2 1))
   have o4:Has h1 (L):=Has.gone (pre:=[]) (iJ o3 0)
   obtain rfl:=oi H
   exact qt <| ⟨.inl rfl,wI (.tup [.bool x4,.i 0]) h1 (tP (uM (jQ (fU) (jQ (mU) (uL)))))⟩
end
def vI:bR:=gC [0,1,3,4,5,6,7,8,9,10,11,14,21,33,35,36,37,38,44,51,52,53] [3,6,10] [4194298,4192250,4194279,4194206,4190110,4194279,4194142,4185950,4194279,4079486,3948414,4078718,3816574,4078718,2505854,408702,2504830,2505854,2505854,4079486,4079486,4194279] [(19,[(10,some 3,0)])] [(3,[(6,some 0,4)]),(11,[(10,some 3,1)])]
def aw.l1 (m:Nat)(s0:ab)(v0:ai):Nat→Int→(List Int)→ab→Option (Int × (List Int) × ab)
 | 0,_,_,_=>none
 | k+1,x3,n0,s2=>if (decide (x3<(v0.args.length:Int)))=true then ((ix n0 x3).bind fun v1=>(ix n0 x3).bind fun v2=>aw.l1 m s0 v0 k (i64.wrap (x3+1)) (n0.set x3.toNat (i64.wrap (v1+(s0.aa.length:Int)))) s2) else (some ((x3,n0,s2)))
def aw.l2 (m:Nat)(s0:ab)(v0:ai):Nat→Int→(List Int)→ab→Option (Int × (List Int) × ab)
 | 0,_,_,_=>none
 | k+1,x7,n2,s4=>if (decide (x7<(v0.args.length:Int)))=true then ((ix n2 x7).bind fun v3=>(ix n2 x7).bind fun v4=>aw.l2 m s0 v0 k (i64.wrap (x7+1)) (n2.set x7.toNat (i64.wrap (v3+(s0.aa.length:Int)))) s4) else (some ((x7,n2,s4)))
def aw.l0 (m:Nat)(s0:ab)(x1:aI × Int):Nat→Int→ab→Option (Int × ab)
 | 0,_,_=>none
 | k+1,x2,s1=>if (decide (x2<(x1.1.nodes.length:Int)))=true then ((ix x1.1.nodes x2).bind fun v0=>if (v0.kind==0)=true then ((aw.l1 m s0 v0 m 0 v0.args s1).bind fun bP=>match bP with | (x4,n1,s3)=>(app 56 s3.aa ([(ai.mk v0.kind (i64.wrap ((s0.aa.length:Int)+x2)) v0.label n1)])).bind fun x5=>(app 8 s3.ae ([i64.wrap ((s0.aa.length:Int)+x2)])).bind fun x6=>aw.l0 m s0 x1 k (i64.wrap (x2+1)) (ab.mk s3.aj x5 x6)) else ((aw.l2 m s0 v0 m 0 v0.args s1).bind fun dA=>match dA with | (x8,n3,s5)=>(app 56 s5.aa ([(ai.mk v0.kind v0.int v0.label n3)])).bind fun x9=>(app 8 s5.ae ([i64.wrap ((s0.aa.length:Int)+x2)])).bind fun mr=>aw.l0 m s0 x1 k (i64.wrap (x2+1)) (ab.mk s5.aj x9 mr))) else (some ((x2,s1)))
def aw.f (m:Nat)(s0:ab)(t0:aI):Option (Int × Int × ab):=(b4.f m s0).bind fun x0=>if (!x0)=true then (some (0,6,s0)) else ((dG.f m t0).bind fun x1=>if (!(x1.2==0))=true then (some (0,x1.2,s0)) else (if (decide ((i64.wrap ((s0.aa.length:Int)+(x1.1.nodes.length:Int))) > 8000))=true then (some (0,7,s0)) else ((aw.l0 m s0 x1 m 0 s0).bind fun lV=>match lV with | (Eb,s6)=>some ((s0.aa.length:Int),0,s6))))
def aw.fin (L:Mem)(ar:Nat)(an:Nat)(ao:Nat)(s0:ab)(t0:aI)(r:Int × Int × ab)(s:St):Prop:=∃aA aB:Nat,aE Tryz.prog (s.open vI) Tryz.f22.results.toList=some (.tup [.i r.1,.i r.2.1])∧Has s.h ((ar,.ob [.bool r.2.2.aj,.rs aA 0 r.2.2.aa.length 4,.rs aB 0 r.2.2.ae.length 1])::(aA,.sl r.2.2.aa.length 4 (ah.l r.2.2.aa))::(aB,.sl r.2.2.ae.length 1 (af.l r.2.2.ae))::L)
def Uz (cf:CallF)(m:Nat):Prop:=∀(s0:ab) (t0:aI) (r:Int × Int × ab),aw.f m s0 t0=some r→∀h L (ar:Nat) (an:Nat) (ao:Nat),Has h ((ar,.ob [.bool s0.aj,.rs an 0 s0.aa.length 4,.rs ao 0 s0.ae.length 1])::(an,.sl s0.aa.length 4 (ah.l s0.aa))::(ao,.sl s0.ae.length 1 (af.l s0.ae))::L)→∀xs,xs.map aN=[.ptr ar 0,.agg [ah.fz t0.nodes,.i t0.root]]→∃aA aB h',cf 22 xs h=some (.tup [.i r.1,.i r.2.1],h')∧Has h' ((ar,.ob [.bool r.2.2.aj,.rs aA 0 r.2.2.aa.length 4,.rs aB 0 r.2.2.ae.length 1])::(aA,.sl r.2.2.aa.length 4 (ah.l r.2.2.aa))::(aB,.sl r.2.2.ae.length 1 (af.l r.2.2.ae))::L)
section
variable {cf:CallF}{m:Nat}
theorem aw.k8 (L:Mem)(ar:Nat)(an:Nat)(ao:Nat)(s0:ab)(t0:aI)(x1:aI × Int)(aM:Nat)(cg:List Nat)(x2:Int)(v0:ai)   : cY Tryz.prog cf vI m (sub [1,1,1,1,1,1,0,1,0,0,1,1,0,0,1,1,0,1,0,0] (bN Tryz.f22)) (fun k (σ:Int × (List Int) × ab)=>aw.l1 m s0 v0 k σ.1 σ.2.1 σ.2.2) (fun σ s=>match σ with | (x3,n0,s2)=>∃fk fR fj h2,s=⟨.ptr ar 0::zA (.i (s0.aa.length:Int) :: .i x2 :: .lp 10 0::rN [.rs aM 0 x1.1.nodes.length 4,.i (x1.1.nodes.length:Int),.i x2,.any,.any,.i (v0.args.length:Int),.i x3,.any]),[none,none,some [.i v0.kind,.i (i64.wrap ((s0.aa.length:Int)+x2)),.str v0.label,.rs fk 0 n0.length 1]],h2⟩∧Has h2 ((fk,.sl n0.length 1 (af.l n0))::(aM,.sl x1.1.nodes.length 4 (cj.l (aQ x1.1.nodes cg)))::(ar,.ob [.bool s2.aj,.rs fR 0 s2.aa.length 4,.rs fj 0 s2.ae.length 1])::(fR,.sl s2.aa.length 4 (ah.l s2.aa))::(fj,.sl s2.ae.length 1 (af.l s2.ae))::(dd (x1.1.nodes.drop ((i64.wrap (x2+1)).toNat)) (cg.drop ((i64.wrap (x2+1)).toNat))++L))) (fun out e s=>(e = .exit 2∧∃x3 n0 s2,(x3,n0,s2)=out∧∃IC ID CG fk fR fj h2,s=⟨.ptr ar 0::zA (.i (s0.aa.length:Int) :: .i x2 :: .lp 10 0::rN [.rs aM 0 x1.1.nodes.length 4,.i (x1.1.nodes.length:Int),.i x2,.any,.any,IC,ID,CG]),[none,none,some [.i v0.kind,.i (i64.wrap ((s0.aa.length:Int)+x2)),.str v0.label,.rs fk 0 n0.length 1]],h2⟩∧Has h2 ((fk,.sl n0.length 1 (af.l n0))::(aM,.sl x1.1.nodes.length 4 (cj.l (aQ x1.1.nodes cg)))::(ar,.ob [.bool s2.aj,.rs fR 0 s2.aa.length 4,.rs fj 0 s2.ae.length 1])::(fR,.sl s2.aa.length 4 (ah.l s2.aa))::(fj,.sl s2.ae.length 1 (af.l s2.ae))::(dd (x1.1.nodes.drop ((i64.wrap (x2+1)).toNat)) (cg.drop ((i64.wrap (x2+1)).toNat))++L)))):=by
 refine ln (fun _=>rfl) ?_
 rintro k ⟨x3,n0,s2⟩ s out ⟨fk,fR,fj,h2,rfl,o6⟩ H
 have H:aw.l1 m s0 v0 (k+1) x3 n0 s2=some out:=H
 refine q1 <| qq <| qc H (fun c5 H=>?_) (fun c5 H=>?_)
 ·refine qk <| qq <| qb 3 <| qq <| q0 ?_
  obtain⟨v1,e4,H⟩:=aW H
  obtain⟨v2,e5,H⟩:=aW H
  obtain⟨h3,e6,o7⟩:=fN (P:=Tryz.prog) (tf:=3) (E:=af) (l:=n0) (q:=0) (v:=(i64.wrap (v1+(s0.aa.length:Int)))) (x:=.i (i64.wrap (v1+(s0.aa.length:Int)))) o6 rfl Z3 e5 rfl rfl
  exact qr [.v 3 (be (k:=.i64) (E:=af) (l:=n0) (q:=0) gj o6 rfl e4),.v 4 (cL  (E:=af) (l:=n0) (q:=0) o6 rfl A3 e4 rfl),.v 7 (be (k:=.i64) (E:=af) (l:=n0) (q:=0) gj o6 rfl e5),.w 8 e6] <| q0 <| ⟨(i64.wrap (x3+1),n0.set x3.toNat (i64.wrap (v1+(s0.aa.length:Int))),s2),⟨fk,fR,fj,h3,ld,(AL o7)⟩,H⟩
 ·exact qx 2 <| ⟨rfl,x3,n0,s2,oi H,.i (v0.args.length:Int),.i x3,.bool (decide (x3<(v0.args.length:Int))),fk,fR,fj,h2,kr,o6⟩
theorem aw.qT (L:Mem)(ar:Nat)(an:Nat)(ao:Nat)(s0:ab)(t0:aI)(x1:aI × Int)(aM:Nat)(cg:List Nat)(x2:Int)(v0:ai)   : cY Tryz.prog cf vI m (sub [1,1,1,1,1,1,0,1,0,0,1,1,0,0,1,1,0,1,0,0] (bN Tryz.f22)) (fun k (σ:Int × (List Int) × ab)=>aw.l2 m s0 v0 k σ.1 σ.2.1 σ.2.2) (fun σ s=>match σ with | (x7,n2,s4)=>∃lf oF pU h10,s=⟨.ptr ar 0::zA (.i (s0.aa.length:Int) :: .i x2 :: .lp 10 0::rN [.rs aM 0 x1.1.nodes.length 4,.i (x1.1.nodes.length:Int),.i x2,.any,.any,.i (v0.args.length:Int),.i x7,.any]),[none,none,some [.i v0.kind,.i v0.int,.str v0.label,.rs lf 0 n2.length 1]],h10⟩∧Has h10 ((lf,.sl n2.length 1 (af.l n2))::(aM,.sl x1.1.nodes.length 4 (cj.l (aQ x1.1.nodes cg)))::(ar,.ob [.bool s4.aj,.rs oF 0 s4.aa.length 4,.rs pU 0 s4.ae.length 1])::(oF,.sl s4.aa.length 4 (ah.l s4.aa))::(pU,.sl s4.ae.length 1 (af.l s4.ae))::(dd (x1.1.nodes.drop ((i64.wrap (x2+1)).toNat)) (cg.drop ((i64.wrap (x2+1)).toNat))++L))) (fun out e s=>(e = .exit 2∧∃x7 n2 s4,(x7,n2,s4)=out∧∃IC ID CG lf oF pU h10,s=⟨.ptr ar 0::zA (.i (s0.aa.length:Int) :: .i x2 :: .lp 10 0::rN [.rs aM 0 x1.1.nodes.length 4,.i (x1.1.nodes.length:Int),.i x2,.any,.any,IC,ID,CG]),[none,none,some [.i v0.kind,.i v0.int,.str v0.label,.rs lf 0 n2.length 1]],h10⟩∧Has h10 ((lf,.sl n2.length 1 (af.l n2))::(aM,.sl x1.1.nodes.length 4 (cj.l (aQ x1.1.nodes cg)))::(ar,.ob [.bool s4.aj,.rs oF 0 s4.aa.length 4,.rs pU 0 s4.ae.length 1])::(oF,.sl s4.aa.length 4 (ah.l s4.aa))::(pU,.sl s4.ae.length 1 (af.l s4.ae))::(dd (x1.1.nodes.drop ((i64.wrap (x2+1)).toNat)) (cg.drop ((i64.wrap (x2+1)).toNat))++L)))):=by
 refine ln (fun _=>rfl) ?_
 rintro k ⟨x7,n2,s4⟩ s out ⟨lf,oF,pU,h10,rfl,zD⟩ H
 have H:aw.l2 m s0 v0 (k+1) x7 n2 s4=some out:=H
 refine q1 <| qq <| qc H (fun c6 H=>?_) (fun c6 H=>?_)
 ·refine qk <| qq <| qb 3 <| qq <| q0 ?_
  obtain⟨v3,AW,H⟩:=aW H
  obtain⟨v4,FZ,H⟩:=aW H
  obtain⟨h11,F0,JQ⟩:=fN (P:=Tryz.prog) (tf:=3) (E:=af) (l:=n2) (q:=0) (v:=(i64.wrap (v3+(s0.aa.length:Int)))) (x:=.i (i64.wrap (v3+(s0.aa.length:Int)))) zD rfl Z3 FZ rfl rfl
  exact qr [.v 3 (be (k:=.i64) (E:=af) (l:=n2) (q:=0) gj zD rfl AW),.v 4 (cL  (E:=af) (l:=n2) (q:=0) zD rfl A3 AW rfl),.v 7 (be (k:=.i64) (E:=af) (l:=n2) (q:=0) gj zD rfl FZ),.w 8 F0] <| q0 <| ⟨(i64.wrap (x7+1),n2.set x7.toNat (i64.wrap (v3+(s0.aa.length:Int))),s4),⟨lf,oF,pU,h11,ld,(AL JQ)⟩,H⟩
 ·exact qx 2 <| ⟨rfl,x7,n2,s4,oi H,.i (v0.args.length:Int),.i x7,.bool (decide (x7<(v0.args.length:Int))),lf,oF,pU,h10,kr,zD⟩
theorem aw.cb (L:Mem)(ar:Nat)(an:Nat)(ao:Nat)(s0:ab)(t0:aI)(x1:aI × Int)(aM:Nat)(cg:List Nat)   : cY Tryz.prog cf vI m (sub [1,1,1,1,1,1,0,1,0,0] (bN Tryz.f22)) (fun k (σ:Int × ab)=>aw.l0 m s0 x1 k σ.1 σ.2) (fun σ s=>match σ with | (x2,s1)=>∃cr dY h1,s=⟨.ptr ar 0::zA (.i (s0.aa.length:Int)::zA (.rs aM 0 x1.1.nodes.length 4 :: .i (x1.1.nodes.length:Int) :: .i x2::Ax [])),[none,none,none],h1⟩∧Has h1 ((aM,.sl x1.1.nodes.length 4 (cj.l (aQ x1.1.nodes cg)))::(ar,.ob [.bool s1.aj,.rs cr 0 s1.aa.length 4,.rs dY 0 s1.ae.length 1])::(cr,.sl s1.aa.length 4 (ah.l s1.aa))::(dY,.sl s1.ae.length 1 (af.l s1.ae))::(dd (x1.1.nodes.drop x2.toNat) (cg.drop x2.toNat)++L))) (fun out e s=>(e = .exit 0∧∃x2 s1,(x2,s1)=out∧∃nC NM Nt CL CM cr dY h1,s=⟨nC::zA (.i (s0.aa.length:Int)::zA (NM::Nt::CL::CM::rN [])),[none,none,none],h1⟩∧Has h1 ((aM,.sl x1.1.nodes.length 4 (cj.l (aQ x1.1.nodes cg)))::(ar,.ob [.bool s1.aj,.rs cr 0 s1.aa.length 4,.rs dY 0 s1.ae.length 1])::(cr,.sl s1.aa.length 4 (ah.l s1.aa))::(dY,.sl s1.ae.length 1 (af.l s1.ae))::(dd (x1.1.nodes.drop x2.toNat) (cg.drop x2.toNat)++L)))):=by
 refine ln (fun _=>rfl) ?_
 rintro k ⟨x2,s1⟩ s out ⟨cr,dY,h1,rfl,o4⟩ H
 have H:aw.l0 m s0 x1 (k+1) x2 s1=some out:=H
 refine q1 <| qq <| qc H (fun c3 H=>?_) (fun c3 H=>?_)
 ·refine qk <| qq <| qb 1 <| qq ?_
  obtain⟨v0,e3,H⟩:=aW H
  have o5:=HX (pre:=[(aM,.sl x1.1.nodes.length 4 (cj.l (aQ x1.1.nodes cg))),(ar,.ob [.bool s1.aj,.rs cr 0 s1.aa.length 4,.rs dY 0 s1.ae.length 1]),(cr,.sl s1.aa.length 4 (ah.l s1.aa)),(dY,.sl s1.ae.length 1 (af.l s1.ae))]) (q:=0) (ns:=x1.1.nodes) (ids:=cg) o4 rfl e3
  refine qr [.v 1 (be (k:=.i64) (E:=cj) (l:=(aQ x1.1.nodes cg)) (q:=0) tS o4 rfl (lJ e3)),.v 2 (qG  (E:=cj) (l:=(aQ x1.1.nodes cg)) (q:=0) o4 rfl BM BN (lJ e3))] <| qq <| qq <| q0 <| qc H (fun c4 H=>?_) (fun c4 H=>?_)
  ·refine q0 <| qq <| qq <| q0 <| qb 2 ?_
   obtain⟨bP,e7,H⟩:=aW H
   refine ql (aw.k8 L ar an ao s0 t0 x1 aM cg x2 v0   (0,v0.args,s1) _ _ ⟨(MX cg x2),cr,dY,h1,kr,o5⟩ e7) ?_
   rintro e s ⟨rfl,x4,n1,s3,rfl,g0,g1,g2,gk,ib,hH,h4,rfl,o8⟩
   try dsimp only at H
   obtain⟨h5,e8,o9⟩:=rK (E:=af) (l:=n1) (q:=0) o8 rfl
   obtain⟨x5,e9,H⟩:=aW H
   obtain⟨GB,h6,sL,BP⟩:=ju (P:=Tryz.prog) (E:=ah) (l:=s3.aa) (q:=2) (t2:=23) (x:=.fz [.i v0.kind,.i (i64.wrap ((s0.aa.length:Int)+x2)),.str v0.label,af.fz n1] 1 true) (l2:=([(ai.mk v0.kind (i64.wrap ((s0.aa.length:Int)+x2)) v0.label n1)])) tS o9 rfl kr rfl e9
   obtain⟨x6,vg,H⟩:=aW H
   obtain⟨jM,h7,yQ,BQ⟩:=ju (P:=Tryz.prog) (E:=af) (l:=s3.ae) (q:=3) (t2:=22) (x:=.fz [.i (i64.wrap ((s0.aa.length:Int)+x2))] 1 true) (l2:=([i64.wrap ((s0.aa.length:Int)+x2)])) gj BP rfl kr rfl vg
   obtain⟨h8,wo,Im⟩:=pw (P:=Tryz.prog) (t:=23) (off:=1) (q:=1) (cs:=[.bool s3.aj,.rs ib 0 s3.aa.length 4,.rs hH 0 s3.ae.length 1]) (fQ:=[.bool s3.aj,.rs GB 0 x5.length 4,.rs hH 0 s3.ae.length 1]) (x:=.rs GB 0 x5.length 4) BQ rfl kr
   obtain⟨h9,CH,zC⟩:=pw (P:=Tryz.prog) (t:=22) (off:=2) (q:=1) (cs:=[.bool s3.aj,.rs GB 0 x5.length 4,.rs hH 0 s3.ae.length 1]) (fQ:=[.bool s3.aj,.rs GB 0 x5.length 4,.rs jM 0 x6.length 1]) (x:=.rs jM 0 x6.length 1) Im rfl kr
   exact PR [.a 0 e8] [.v 5 (show bw Tryz.prog h5 23 (.ptr ar 1)=some (.rs ib 0 s3.aa.length 4) from b6 (q:=1) (cs:=[.bool s3.aj,.rs ib 0 s3.aa.length 4,.rs hH 0 s3.ae.length 1]) o9 rfl kr),.a 8 sL,.v 12 (show bw Tryz.prog h6 22 (.ptr ar 2)=some (.rs hH 0 s3.ae.length 1) from b6 (q:=1) (cs:=[.bool s3.aj,.rs ib 0 s3.aa.length 4,.rs hH 0 s3.ae.length 1]) BP rfl kr),.a 17 yQ,.w 20 wo,.w 23 CH] [.mk (CC o9 (q:=2) rfl (q2:=1) rfl (by decide) sL)] <| q0 <| ⟨(i64.wrap (x2+1),(ab.mk s3.aj x5 x6)),⟨GB,jM,h9,kr,zC⟩,H⟩
  ·refine qk <| qq <| qq <| q0 <| qb 2 ?_
   obtain⟨dA,GC,H⟩:=aW H
   refine ql (aw.qT L ar an ao s0 t0 x1 aM cg x2 v0   (0,v0.args,s1) _ _ ⟨(MX cg x2),cr,dY,h1,kr,o5⟩ GC) ?_
   rintro e s ⟨rfl,x8,n3,s5,rfl,g3,g4,g5,FY,CO,tk,h12,rfl,CS⟩
   try dsimp only at H
   obtain⟨h13,F3,GI⟩:=rK (E:=af) (l:=n3) (q:=0) CS rfl
   obtain⟨x9,GD,H⟩:=aW H
   obtain⟨vq,h14,JN,GG⟩:=ju (P:=Tryz.prog) (E:=ah) (l:=s5.aa) (q:=2) (t2:=23) (x:=.fz [.i v0.kind,.i v0.int,.str v0.label,af.fz n3] 1 true) (l2:=([(ai.mk v0.kind v0.int v0.label n3)])) tS GI rfl kr rfl GD
   obtain⟨mr,Il,H⟩:=aW H
   obtain⟨Ik,h15,JO,F5⟩:=ju (P:=Tryz.prog) (E:=af) (l:=s5.ae) (q:=3) (t2:=22) (x:=.fz [.i (i64.wrap ((s0.aa.length:Int)+x2))] 1 true) (l2:=([i64.wrap ((s0.aa.length:Int)+x2)])) gj GG rfl kr rfl Il
   obtain⟨h16,KK,QJ⟩:=pw (P:=Tryz.prog) (t:=23) (off:=1) (q:=1) (cs:=[.bool s5.aj,.rs CO 0 s5.aa.length 4,.rs tk 0 s5.ae.length 1]) (fQ:=[.bool s5.aj,.rs vq 0 x9.length 4,.rs tk 0 s5.ae.length 1]) (x:=.rs vq 0 x9.length 4) F5 rfl kr
   obtain⟨h17,JP,F6⟩:=pw (P:=Tryz.prog) (t:=22) (off:=2) (q:=1) (cs:=[.bool s5.aj,.rs vq 0 x9.length 4,.rs tk 0 s5.ae.length 1]) (fQ:=[.bool s5.aj,.rs vq 0 x9.length 4,.rs Ik 0 mr.length 1]) (x:=.rs Ik 0 mr.length 1) QJ rfl kr
   exact PR [.a 0 F3] [.v 5 (show bw Tryz.prog h13 23 (.ptr ar 1)=some (.rs CO 0 s5.aa.length 4) from b6 (q:=1) (cs:=[.bool s5.aj,.rs CO 0 s5.aa.length 4,.rs tk 0 s5.ae.length 1]) GI rfl kr),.a 8 JN,.v 12 (show bw Tryz.prog h14 22 (.ptr ar 2)=some (.rs tk 0 s5.ae.length 1) from b6 (q:=1) (cs:=[.bool s5.aj,.rs CO 0 s5.aa.length 4,.rs tk 0 s5.ae.length 1]) GG rfl kr),.a 17 JO,.w 20 KK,.w 23 JP] [.mk (CC GI (q:=2) rfl (q2:=1) rfl (by decide) JN)] <| q0 <| ⟨(i64.wrap (x2+1),(ab.mk s5.aj x9 mr)),⟨vq,Ik,h17,kr,F6⟩,H⟩
 ·exact qx 0 <| ⟨rfl,x2,s1,oi H,.ptr ar 0,.rs aM 0 x1.1.nodes.length 4,.i (x1.1.nodes.length:Int),.i x2,.bool (decide (x2<(x1.1.nodes.length:Int))),cr,dY,h1,kr,o4⟩
theorem oJ {aS:FuncId→bR}(ha:aS 22=vI)(IE:RW cf m)(H5:RK cf m)(s0:ab)(t0:aI)(h:AHeap)(L:Mem)(ar:Nat)(an:Nat)(ao:Nat)  (o:Has h ((ar,.ob [.bool s0.aj,.rs an 0 s0.aa.length 4,.rs ao 0 s0.ae.length 1])::(an,.sl s0.aa.length 4 (ah.l s0.aa))::(ao,.sl s0.ae.length 1 (af.l s0.ae))::L)){out:Int × Int × ab}(H:aw.f m s0 t0=some out) :
  ∃r h',a6 Tryz.prog aS cf m 22 [.ptr ar 0,.agg [ah.fz t0.nodes,.i t0.root]] h=some (r,h')∧∃aA aB:Nat,r = .tup [.i out.1,.i out.2.1]∧Has h' ((ar,.ob [.bool out.2.2.aj,.rs aA 0 out.2.2.aa.length 4,.rs aB 0 out.2.2.ae.length 1])::(aA,.sl out.2.2.aa.length 4 (ah.l out.2.2.aa))::(aB,.sl out.2.2.ae.length 1 (af.l out.2.2.ae))::L):=by
 refine aq (fn:=Tryz.f22) ha Tryz.func22 kr kr ?_
 refine aC (Q:=fun s=>aw.fin L ar an ao s0 t0 out s) (fun _ _ ⟨h1,aA,aB,h2,h3⟩=>⟨h1,_,h2,aA,aB,rfl,h3⟩) ?_
 have H:_=some out:=H
 unfold aw.f at H
 show cZ _ cf vI m _ ⟨.ptr ar 0 :: .agg [ah.fz t0.nodes,.i t0.root]::PH [],[none,none,none],h⟩ _
 refine q1 <| qq <| qq ?_
 obtain⟨x0,e0,H⟩:=aW H
 refine qr [.a 1 (H5 _ _ e0 h _ (lZ (ak (eC (q:=0) o rfl (ak (gL) (ak (eM (E:=ah) (l:=s0.aa) (q:=1) o rfl (fun _=>rfl)) (ak (eM (E:=af) (l:=s0.ae) (q:=2) o rfl (fun _=>rfl)) (aG))))) (aG))))] <| qc H (fun c0 H=>?_) (fun c0 H=>?_)
 ·obtain rfl:=oi H
  exact q1 <| qt <| ⟨.inl rfl,⟨an,ao,kr,he o⟩⟩
 ·refine qk <| qq ?_
  obtain⟨x1,e1,H⟩:=aW H
  obtain⟨aM,cg,h0,e2,o0,GX⟩:=IE _ _ e1 h _ _ o fq
  have o1:=Has.jX (pre:=[(aM,.sl x1.1.nodes.length 4 (cj.l (aQ x1.1.nodes cg)))]) (N:=[(ar,.ob [.bool s0.aj,.rs an 0 s0.aa.length 4,.rs ao 0 s0.ae.length 1]),(an,.sl s0.aa.length 4 (ah.l s0.aa)),(ao,.sl s0.ae.length 1 (af.l s0.ae))]) (mid:=dd x1.1.nodes cg) o0
  refine qr [.a 1 e2] <| qq <| qq <| q0 <| qc H (fun c1 H=>?_) (fun c1 H=>?_)
  ·refine q1 ?_
   have o2:Has h0 ((ar,.ob [.bool s0.aj,.rs an 0 s0.aa.length 4,.rs ao 0 s0.ae.length 1])::(an,.sl s0.aa.length 4 (ah.l s0.aa))::(ao,.sl s0.ae.length 1 (af.l s0.ae))::L):=Has.gone (pre:=[(ar,.ob [.bool s0.aj,.rs an 0 s0.aa.length 4,.rs ao 0 s0.ae.length 1]),(an,.sl s0.aa.length 4 (ah.l s0.aa)),(ao,.sl s0.ae.length 1 (af.l s0.ae))]) (iJ o1 0)
   obtain rfl:=oi H
   exact qt <| ⟨.inl rfl,⟨an,ao,kr,he o2⟩⟩
  ·refine qk <| qq <| qr [.v 3 (show bw Tryz.prog h0 23 (.ptr ar 1)=some (.rs an 0 s0.aa.length 4) from b6 (q:=1) (cs:=[.bool s0.aj,.rs an 0 s0.aa.length 4,.rs ao 0 s0.ae.length 1]) o1 rfl kr)] <| qq <| qq <| q0 <| qc H (fun c2 H=>?_) (fun c2 H=>?_)
   ·refine q1 ?_
    have o3:Has h0 ((ar,.ob [.bool s0.aj,.rs an 0 s0.aa.length 4,.rs ao 0 s0.ae.length 1])::(an,.sl s0.aa.length 4 (ah.l s0.aa))::(ao,.sl s0.ae.length 1 (af.l s0.ae))::L):=Has.gone (pre:=[(ar,.ob [.bool s0.aj,.rs an 0 s0.aa.length 4,.rs ao 0 s0.ae.length 1]),(an,.sl s0.aa.length 4 (ah.l s0.aa)),(ao,.sl s0.ae.length 1 (af.l s0.ae))]) (iJ o1 0)
    obtain rfl:=oi H
    exact qt <| ⟨.inl rfl,⟨an,ao,kr,he o3⟩⟩
   ·refine qk <| qq <| qq <| q0 <| qb 0 ?_
    obtain⟨lV,L3,H⟩:=aW H
    refine ql (aw.cb L ar an ao s0 t0 x1 aM cg   (0,s0) _ _ ⟨an,ao,h0,kr,o1⟩ L3) ?_
    rintro e s ⟨rfl,Eb,s6,rfl,g6,g7,g8,g9,g10,CP,CQ,h18,rfl,L5⟩
    try dsimp only at H
    refine q1 ?_
    have Uv:Has h18 ((ar,.ob [.bool s6.aj,.rs CP 0 s6.aa.length 4,.rs CQ 0 s6.ae.length 1])::(CP,.sl s6.aa.length 4 (ah.l s6.aa))::(CQ,.sl s6.ae.length 1 (af.l s6.ae))::L):=Has.gone (pre:=[(ar,.ob [.bool s6.aj,.rs CP 0 s6.aa.length 4,.rs CQ 0 s6.ae.length 1]),(CP,.sl s6.aa.length 4 (ah.l s6.aa)),(CQ,.sl s6.ae.length 1 (af.l s6.ae))]) (iJ L5 0)
    obtain rfl:=oi H
    exact qt <| ⟨.inl rfl,⟨CP,CQ,kr,he Uv⟩⟩
end
def vJ:bR:=gC [0,1,4,5,6,7,8,9,10,11,13,14,15,16,22,29,30,31,32,40,41,42,43,50,51,52,53] [4,11,14] [134217720,134217704,134201320,134217715,134217690,134217626,133988250,133726106,133987866,133988250,133988250,134217114,130547130,126352826,130546106,130545082,71824826,4715962,71812538,71824826,71824826,130547130,130547130,134217715] [(21,[(14,some 3,0)])] [(0,[(4,some 0,4)]),(3,[(4,some 0,4)]),(11,[(11,some 0,4)]),(15,[(14,some 3,1)])]
def az.l0 (m:Nat)(x1:(List Int)):Nat→(List (Int × Int))→Int→Option ((List (Int × Int)) × Int)
 | 0,_,_=>none
 | k+1,kl,x2=>if (decide (x2<(x1.length:Int)))=true then ((ix x1 x2).bind fun v0=>az.l0 m x1 k (zz kl v0 x2) (i64.wrap (x2+1))) else (some ((kl,x2)))
def az.l2 (m:Nat)(dX:List (Int × Int))(x5:ai):Nat→(List Int)→Int→Option ((List Int) × Int)
 | 0,_,_=>none
 | k+1,x6,x7=>if (decide (x7<(x5.args.length:Int)))=true then ((ix x6 x7).bind fun v2=>(ix x6 x7).bind fun v3=>az.l2 m dX x5 k (x6.set x7.toNat ((nA dX v2).1)) (i64.wrap (x7+1))) else (some ((x6,x7)))
def az.l1 (m:Nat)(s0:ab)(x1:(List Int))(dX:List (Int × Int)):Nat→Int→(List ai)→Int→Option (Int × (List ai) × Int)
 | 0,_,_,_=>none
 | k+1,x4,t0,t1=>if (decide (x4<(x1.length:Int)))=true then ((ix x1 x4).bind fun v1=>(bh.f m s0 v1).bind fun x5=>(az.l2 m dX x5 m x5.args 0).bind fun dA=>match dA with | (x8,x9)=>(app 56 t0 ([(ai.mk x5.kind x5.int x5.label x8)])).bind fun mr=>az.l1 m s0 x1 dX k (i64.wrap (x4+1)) mr t1) else (some ((x4,t0,t1)))
def az.f (m:Nat)(s0:ab)(n0:Int):Option (aI × Int):=(b7.f m s0 ([n0])).bind fun x0=>if (!(x0==0))=true then (some ((aI.mk ([]:List ai) 0),x0)) else ((aF.f m s0 n0).bind fun x1=>(az.l0 m x1 m ([]:List (Int × Int)) 0).bind fun bP=>match bP with | (dX,x3)=>(az.l1 m s0 x1 dX m 0 ([]:List ai) 0).bind fun lV=>match lV with | (Eb,t2,t3)=>(dG.f m (aI.mk t2 t3)).bind fun rT=>some (rT.1,rT.2))
def az.fin (L:Mem)  (r:aI × Int)(s:St):Prop:=∃(dz:Nat) (dO:List Nat),aE Tryz.prog (s.open vJ) Tryz.f24.results.toList=some (.tup [.agg [.rs dz 0 r.1.nodes.length 4,.i r.1.root],.i r.2])∧Has s.h ((dz,.sl r.1.nodes.length 4 (cj.l (aQ r.1.nodes dO)))::(dd r.1.nodes dO++L))
def WG (cf:CallF)(m:Nat):Prop:=∀(s0:ab) (n0:Int) (r:aI × Int),az.f m s0 n0=some r→∀h L xs,Has h L→aP bH h xs [.fp [.bool s0.aj,ah.fz s0.aa,af.fz s0.ae] 0,.i n0]→∃(dz:Nat) (dO:List Nat) (h':AHeap),cf 24 xs h=some (.tup [.agg [.rs dz 0 r.1.nodes.length 4,.i r.1.root],.i r.2],h')∧Has h' ((dz,.sl r.1.nodes.length 4 (cj.l (aQ r.1.nodes dO)))::(dd r.1.nodes dO++L))∧∀j,j<h.next→h.ver j=h'.ver j
section
variable {cf:CallF}{m:Nat}
theorem az.cb (L:Mem)(s0:ab)(x1:(List Int))(aM:Nat)(cr:Nat)   : cY Tryz.prog cf vJ m (sub [1,1,1,1,0,1,0,0] (bN Tryz.f24)) (fun k (σ:(List (Int × Int)) × Int)=>az.l0 m x1 k σ.1 σ.2) (fun σ s=>match σ with | (kl,x2)=>∃h2,s=⟨.fp [.bool s0.aj,ah.fz s0.aa,af.fz s0.ae] 0 :: .any :: .lp 4 0 :: .any :: .any :: .rs aM 0 x1.length 1 :: .mp cr::xg (.rs aM 0 x1.length 1 :: .i (x1.length:Int) :: .i x2::Oz []),[some [.rs (0) 0 (([]:List ai).length) 4,.i 0],none,none],h2⟩∧Has h2 ((cr,.mp (nr kl))::(aM,.sl x1.length 1 (af.l x1))::((0),.sl (([]:List ai).length) 4 (cj.l (aQ ([]:List ai) ([]:List Nat))))::L)) (fun out e s=>(e = .exit 0∧∃kl x2,(kl,x2)=out∧∃NC Iq Ir UA h2,s=⟨.fp [.bool s0.aj,ah.fz s0.aa,af.fz s0.ae] 0 :: .any :: .lp 4 0 :: .any :: .any :: .rs aM 0 x1.length 1 :: .mp cr::xg (NC::Iq::Ir::UA::xg []),[some [.rs (0) 0 (([]:List ai).length) 4,.i 0],none,none],h2⟩∧Has h2 ((cr,.mp (nr kl))::(aM,.sl x1.length 1 (af.l x1))::((0),.sl (([]:List ai).length) 4 (cj.l (aQ ([]:List ai) ([]:List Nat))))::L))):=by
 refine ln (fun _=>rfl) ?_
 rintro k ⟨kl,x2⟩ s out ⟨h2,rfl,o5⟩ H
 have H:az.l0 m x1 (k+1) kl x2=some out:=H
 refine q1 <| qq <| qc H (fun c1 H=>?_) (fun c1 H=>?_)
 ·refine qk <| qq <| qb 1 <| qq ?_
  obtain⟨v0,e4,H⟩:=aW H
  refine qr [.v 1 (be (k:=.i64) (E:=af) (l:=x1) (q:=1) gj o5 rfl e4),.v 2 (cL  (E:=af) (l:=x1) (q:=1) o5 rfl A3 e4 rfl)] ?_
  obtain⟨h3,e5,o6⟩:=PD (q:=0) (l:=kl) (k:=v0) (v:=x2) KH o5 rfl
  exact qr [.w 3 e5] <| q0 <| ⟨(zz kl v0 x2,i64.wrap (x2+1)),⟨h3,kr,o6⟩,H⟩
 ·exact qx 0 <| ⟨rfl,kl,x2,oi H,.rs aM 0 x1.length 1,.i (x1.length:Int),.i x2,.bool (decide (x2<(x1.length:Int))),h2,kr,o5⟩
theorem az.qT (L:Mem)(s0:ab)(x1:(List Int))(aM:Nat)(cr:Nat)(dX:List (Int × Int))(dY:Nat)(x4:Int)(t0:List ai)(t1:Int)(dY:Nat)(x5:ai)   : cY Tryz.prog cf vJ m (sub [1,1,1,1,1,1,0,1,0,0,1,1,0,0,1,1,0,1,0,0] (bN Tryz.f24)) (fun k (σ:(List Int) × Int)=>az.l2 m dX x5 k σ.1 σ.2) (fun σ s=>match σ with | (x6,x7)=>∃fR h7,s=⟨.fp [.bool s0.aj,ah.fz s0.aa,af.fz s0.ae] 0 :: .any :: .lp 4 0::nU (.mp cr :: .any :: .any :: .lp 11 0 :: .any :: .lp 14 0::JL [.rs aM 0 x1.length 1,.i (x1.length:Int),.i x4,.any,.rs fR 0 x6.length 1,.i (x5.args.length:Int),.i x7,.any]),[some [.rs (0) 0 (([]:List ai).length) 4,.i 0],some [.rs dY 0 t0.length 4,.i t1],some [.i x5.kind,.i x5.int,.str x5.label,.rs fR 0 x6.length 1]],h7⟩∧Has h7 ((fR,.sl x6.length 1 (af.l x6))::(dY,.sl t0.length 4 (ah.l t0))::(cr,.mp (nr dX))::(aM,.sl x1.length 1 (af.l x1))::((0),.sl (([]:List ai).length) 4 (cj.l (aQ ([]:List ai) ([]:List Nat))))::L)) (fun out e s=>(e = .exit 4∧∃x6 x7,(x6,x7)=out∧∃UB IC ID CG fR h7,s=⟨.fp [.bool s0.aj,ah.fz s0.aa,af.fz s0.ae] 0 :: .any :: .lp 4 0::nU (.mp cr :: .any :: .any :: .lp 11 0 :: .any :: .lp 14 0::JL [.rs aM 0 x1.length 1,.i (x1.length:Int),.i x4,.any,UB,IC,ID,CG]),[some [.rs (0) 0 (([]:List ai).length) 4,.i 0],some [.rs dY 0 t0.length 4,.i t1],some [.i x5.kind,.i x5.int,.str x5.label,.rs fR 0 x6.length 1]],h7⟩∧Has h7 ((fR,.sl x6.length 1 (af.l x6))::(dY,.sl t0.length 4 (ah.l t0))::(cr,.mp (nr dX))::(aM,.sl x1.length 1 (af.l x1))::((0),.sl (([]:List ai).length) 4 (cj.l (aQ ([]:List ai) ([]:List Nat))))::L))):=by
 refine ln (fun _=>rfl) ?_
 rintro k ⟨x6,x7⟩ s out ⟨fR,h7,rfl,BQ⟩ H
 have H:az.l2 m dX x5 (k+1) x6 x7=some out:=H
 refine q1 <| qq <| qc H (fun c3 H=>?_) (fun c3 H=>?_)
 ·refine qk <| qq <| qb 5 <| qq ?_
  obtain⟨v2,sL,H⟩:=aW H
  refine qr [.v 1 (be (k:=.i64) (E:=af) (l:=x6) (q:=0) gj BQ rfl sL),.v 2 (cL  (E:=af) (l:=x6) (q:=0) BQ rfl A3 sL rfl)] ?_
  obtain⟨v3,vg,H⟩:=aW H
  obtain⟨h8,yQ,Im⟩:=fN (P:=Tryz.prog) (tf:=3) (E:=af) (l:=x6) (q:=0) (v:=((nA dX v2).1)) (x:=.i ((nA dX v2).1)) BQ rfl Z3 vg rfl rfl
  exact qr [.v 5 (show eZ Tryz.prog h7 84 (.mp cr) (.i v2) false=some (.i ((nA dX v2).1)) from (PC (q:=2) (l:=dX) (k:=v2) KH BQ rfl).2),.v 6 (be (k:=.i64) (E:=af) (l:=x6) (q:=0) gj BQ rfl vg),.w 7 yQ] <| q0 <| ⟨(x6.set x7.toNat ((nA dX v2).1),i64.wrap (x7+1)),⟨fR,h8,ld,(AL Im)⟩,H⟩
 ·exact qx 4 <| ⟨rfl,x6,x7,oi H,.rs fR 0 x6.length 1,.i (x5.args.length:Int),.i x7,.bool (decide (x7<(x5.args.length:Int))),fR,h7,kr,BQ⟩
theorem az.k8 (L:Mem)(s0:ab)(x1:(List Int))(aM:Nat)(cr:Nat)(dX:List (Int × Int))  (NO:TK cf m):cY Tryz.prog cf vJ m (sub [1,1,1,1,1,1,0,1,0,0] (bN Tryz.f24)) (fun k (σ:Int × (List ai) × Int)=>az.l1 m s0 x1 dX k σ.1 σ.2.1 σ.2.2) (fun σ s=>match σ with | (x4,t0,t1)=>∃dY h5,s=⟨.fp [.bool s0.aj,ah.fz s0.aa,af.fz s0.ae] 0 :: .any :: .lp 4 0::nU (.mp cr :: .any :: .any :: .lp 11 0::Oz (.rs aM 0 x1.length 1 :: .i (x1.length:Int) :: .i x4::Ax [])),[some [.rs (0) 0 (([]:List ai).length) 4,.i 0],some [.rs dY 0 t0.length 4,.i t1],none],h5⟩∧Has h5 ((dY,.sl t0.length 4 (ah.l t0))::(cr,.mp (nr dX))::(aM,.sl x1.length 1 (af.l x1))::((0),.sl (([]:List ai).length) 4 (cj.l (aQ ([]:List ai) ([]:List Nat))))::L)) (fun out e s=>(e = .exit 2∧∃x4 t0 t1,(x4,t0,t1)=out∧∃nC CF IA UC UD UE dY h5,s=⟨nC :: .any :: .lp 4 0::nU (CF :: .any :: .any :: .lp 11 0::Oz (IA::UC::UD::UE::rN [])),[some [.rs (0) 0 (([]:List ai).length) 4,.i 0],some [.rs dY 0 t0.length 4,.i t1],none],h5⟩∧Has h5 ((dY,.sl t0.length 4 (ah.l t0))::(cr,.mp (nr dX))::(aM,.sl x1.length 1 (af.l x1))::((0),.sl (([]:List ai).length) 4 (cj.l (aQ ([]:List ai) ([]:List Nat))))::L))):=by
 refine ln (fun _=>rfl) ?_
 rintro k ⟨x4,t0,t1⟩ s out ⟨dY,h5,rfl,o9⟩ H
 have H:az.l1 m s0 x1 dX (k+1) x4 t0 t1=some out:=H
 refine q1 <| qq <| qc H (fun c2 H=>?_) (fun c2 H=>?_)
 ·refine qk <| qq <| qb 3 <| qq ?_
  obtain⟨v1,e7,H⟩:=aW H
  refine qr [.v 0 (be (k:=.i64) (E:=af) (l:=x1) (q:=2) gj o9 rfl e7),.v 1 (cL  (E:=af) (l:=x1) (q:=2) o9 rfl A3 e7 rfl)] <| qq ?_
  obtain⟨x5,e8,H⟩:=aW H
  obtain⟨fk,h6,e9,BP,Ml⟩:=NO _ _ _ e8 h5 _ _ o9 (lZ (ak (fE (pure_cons (cu) (pure_cons (bL.bp (E:=ah) (l:=s0.aa)) (pure_cons (bL.bp (E:=af) (l:=s0.ae)) (pure_nil))))) (ak (bO) (aG))))
  refine qr [.a 2 e9] <| qq <| qq <| q0 <| qb 4 ?_
  obtain⟨dA,wo,H⟩:=aW H
  refine ql (az.qT L s0 x1 aM cr dX dY x4 t0 t1 dY x5   (x5.args,0) _ _ ⟨fk,h6,kr,BP⟩ wo) ?_
  rintro e s ⟨rfl,x8,x9,rfl,g4,g5,g6,g7,fj,h9,rfl,zC⟩
  try dsimp only at H
  obtain⟨h10,CH,zD⟩:=rK (E:=af) (l:=x8) (q:=0) zC rfl
  obtain⟨mr,AW,H⟩:=aW H
  obtain⟨gk,h11,FZ,JQ⟩:=ju (P:=Tryz.prog) (E:=ah) (l:=t0) (q:=0) (t2:=23) (x:=.fz [.i x5.kind,.i x5.int,.str x5.label,af.fz x8] 1 true) (l2:=([(ai.mk x5.kind x5.int x5.label x8)])) tS zD rfl kr rfl AW
  exact OA [.a 0 CH] [.a 4 FZ] <| q0 <| ⟨(i64.wrap (x4+1),mr,t1),⟨gk,h11,kr,JQ⟩,H⟩
 ·exact qx 2 <| ⟨rfl,x4,t0,t1,oi H,.fp [.bool s0.aj,ah.fz s0.aa,af.fz s0.ae] 0,.mp cr,.rs aM 0 x1.length 1,.i (x1.length:Int),.i x4,.bool (decide (x4<(x1.length:Int))),dY,h5,kr,o9⟩
theorem nP {aS:FuncId→bR}(ha:aS 24=vJ)(IE:RW cf m)(CT:Qm cf m)(NH:TJ cf m)(NO:TK cf m)(s0:ab)(n0:Int)(h:AHeap)(L:Mem)  (o:Has h (L)){out:aI × Int}(H:az.f m s0 n0=some out) :
  ∃r h',a6 Tryz.prog aS cf m 24 [.fp [.bool s0.aj,ah.fz s0.aa,af.fz s0.ae] 0,.i n0] h=some (r,h')∧∃(dz:Nat) (dO:List Nat),r = .tup [.agg [.rs dz 0 out.1.nodes.length 4,.i out.1.root],.i out.2]∧Has h' ((dz,.sl out.1.nodes.length 4 (cj.l (aQ out.1.nodes dO)))::(dd out.1.nodes dO++L)):=by
 refine aq (fn:=Tryz.f24) ha Tryz.func24 kr kr ?_
 refine aC (Q:=fun s=>az.fin L out s) (fun _ _ ⟨h1,dz,dO,h2,h3⟩=>⟨h1,_,h2,dz,dO,rfl,h3⟩) ?_
 have H:_=some out:=H
 unfold az.f at H
 show cZ _ cf vJ m _ ⟨.fp [.bool s0.aj,ah.fz s0.aa,af.fz s0.ae] 0 :: .i n0::MV [],[none,none,none],h⟩ _
 refine q1 ?_
 have o0:Has h (((0),.sl (([]:List ai).length) 4 (cj.l (aQ ([]:List ai) ([]:List Nat))))::L):=Has.nil o 4
 refine qq <| qq ?_
 obtain⟨x0,e0,H⟩:=aW H
 refine qr [.a 3 (CT _ _ _ e0 h _ (lZ (ak (fE (pure_cons (cu) (pure_cons (bL.bp (E:=ah) (l:=s0.aa)) (pure_cons (bL.bp (E:=af) (l:=s0.ae)) (pure_nil))))) (ak (rL (E:=af) (l:=[n0]) (cs:=[.i n0]) (b:=true) kr kr rfl) (aG)))))] <| qq <| q0 <| qc H (fun c0 H=>?_) (fun c0 H=>?_)
 ·refine q1 ?_
  have o1:Has h ((((0)),.sl (([]:List ai).length) 4 (cj.l (aQ ([]:List ai) ([]:List Nat))))::((0),.sl (([]:List ai).length) 4 (cj.l (aQ ([]:List ai) ([]:List Nat))))::L):=Has.nil o0 4
  have o2:Has h ((((0)),.sl (([]:List ai).length) 4 (cj.l (aQ ([]:List ai) ([]:List Nat))))::L):=iJ o1 1
  obtain rfl:=oi H
  exact qt <| ⟨.inl rfl,⟨((0)),([]:List Nat),kr,he o2⟩⟩
 ·refine qk <| qq ?_
  obtain⟨x1,e1,H⟩:=aW H
  obtain⟨aM,h0,e2,o3,GX⟩:=NH _ _ _ e1 h _ _ o0 (lZ (ak (fE (pure_cons (cu) (pure_cons (bL.bp (E:=ah) (l:=s0.aa)) (pure_cons (bL.bp (E:=af) (l:=s0.ae)) (pure_nil))))) (ak (bO) (aG))))
  refine qr [.a 2 e2] <| qq ?_
  obtain⟨cr,h1,e3,o4⟩:=yE o3
  refine qr [.m 0 e3] <| qq <| qq <| q0 <| qb 0 ?_
  obtain⟨bP,e6,H⟩:=aW H
  refine ql (az.cb L s0 x1 aM cr   (([]:List (Int × Int)),0) _ _ ⟨h1,kr,o4⟩ e6) ?_
  rintro e s ⟨rfl,dX,x3,rfl,g0,g1,g2,g3,h4,rfl,o7⟩
  try dsimp only at H
  refine q1 ?_
  have o8:Has h4 (((((0))),.sl (([]:List ai).length) 4 (ah.l ([]:List ai)))::(cr,.mp (nr dX))::(aM,.sl x1.length 1 (af.l x1))::((0),.sl (([]:List ai).length) 4 (cj.l (aQ ([]:List ai) ([]:List Nat))))::L):=Has.nil o7 4
  refine qq <| qq <| q0 <| qb 2 ?_
  obtain⟨lV,F0,H⟩:=aW H
  refine ql (az.k8 L s0 x1 aM cr dX  NO (0,([]:List ai),0) _ _ ⟨(((0))),h4,kr,o8⟩ F0) ?_
  rintro e s ⟨rfl,Eb,t2,t3,rfl,g8,g9,g10,g11,g12,g13,ib,h12,rfl,CS⟩
  try dsimp only at H
  refine qq ?_
  obtain⟨rT,GC,H⟩:=aW H
  obtain⟨hH,bk,h13,F3,GI,Gu⟩:=IE _ _ GC h12 _ _ CS (lZ (ak (kg (ak (eM (E:=ah) (l:=t2) (q:=0) CS rfl (fun _=>rfl)) (ak (bO) (aG)))) (aG)))
  have GG:=Has.jX (pre:=[(hH,.sl rT.1.nodes.length 4 (cj.l (aQ rT.1.nodes bk)))]) (N:=[(ib,.sl t2.length 4 (ah.l t2)),(cr,.mp (nr dX)),(aM,.sl x1.length 1 (af.l x1)),((0),.sl (([]:List ai).length) 4 (cj.l (aQ ([]:List ai) ([]:List Nat))))]) (mid:=dd rT.1.nodes bk) GI
  refine qr [.a 1 F3] ?_
  have F5:Has h13 ((hH,.sl rT.1.nodes.length 4 (cj.l (aQ rT.1.nodes bk)))::(ib,.sl t2.length 4 (ah.l t2))::(cr,.mp (nr dX))::(aM,.sl x1.length 1 (af.l x1))::(dd rT.1.nodes bk++L)):=iJ GG 4
  have QJ:Has h13 ((hH,.sl rT.1.nodes.length 4 (cj.l (aQ rT.1.nodes bk)))::(ib,.sl t2.length 4 (ah.l t2))::(cr,.mp (nr dX))::(dd rT.1.nodes bk++L)):=iJ F5 3
  have F6:Has h13 ((hH,.sl rT.1.nodes.length 4 (cj.l (aQ rT.1.nodes bk)))::(ib,.sl t2.length 4 (ah.l t2))::(dd rT.1.nodes bk++L)):=iJ QJ 2
  have L5:Has h13 ((hH,.sl rT.1.nodes.length 4 (cj.l (aQ rT.1.nodes bk)))::(dd rT.1.nodes bk++L)):=iJ F6 1
  obtain rfl:=oi H
  exact qt <| ⟨.inl rfl,⟨hH,bk,kr,he L5⟩⟩
end
def EK:bR:=gC [0,1,3,4,5,7,8,15,24,33,44,55,64,75] [3] [16378,16362,16330,16266,16367,16202,16367,16074,16367,15818,16367,15306,16367,14282,16367,12234,16367,8170,16367,16375] [] []
def iU.f (m:Nat)(s0:ab)(x0:bb):Option (Int × ab):=if (x0.fF==0)=true then ((ff.f m s0).bind fun x1=>some (x1.2.1,x1.2.2)) else (if (x0.fF==1)=true then ((fh.f m s0 x0.tc).bind fun x2=>some (x2.2.1,x2.2.2)) else (if (x0.fF==2)=true then ((eH.f m s0 x0.fc).bind fun x3=>some (x3.2.1,x3.2.2)) else (if (x0.fF==3)=true then ((dW.f m s0 x0.fc x0.gz).bind fun x4=>some (x4.2.1,x4.2.2)) else (if (x0.fF==4)=true then ((eG.f m s0 x0.fc x0.tc).bind fun x5=>some (x5.2.1,x5.2.2)) else (if (x0.fF==5)=true then ((aw.f m s0 x0.tR).bind fun x6=>some (x6.2.1,x6.2.2)) else (if (x0.fF==6)=true then ((cm.f m s0 x0.tc x0.D0).bind fun x7=>some (x7.2.1,x7.2.2)) else (if (x0.fF==7)=true then ((dM.f m s0 x0.tc x0.D0).bind fun x8=>some (x8.2.2.1,x8.2.2.2)) else (some (0,s0)))))))))
def iU.fin (L:Mem)(ar:Nat)(an:Nat)(ao:Nat)(s0:ab)(x0:bb)(r:Int × ab)(s:St):Prop:=∃aA aB:Nat,aE Tryz.prog (s.open EK) Tryz.f58.results.toList=some (.i r.1)∧Has s.h ((ar,.ob [.bool r.2.aj,.rs aA 0 r.2.aa.length 4,.rs aB 0 r.2.ae.length 1])::(aA,.sl r.2.aa.length 4 (ah.l r.2.aa))::(aB,.sl r.2.ae.length 1 (af.l r.2.ae))::L)
def UF (cf:CallF)(m:Nat):Prop:=∀(s0:ab) (x0:bb) (r:Int × ab),iU.f m s0 x0=some r→∀h L (ar:Nat) (an:Nat) (ao:Nat),Has h ((ar,.ob [.bool s0.aj,.rs an 0 s0.aa.length 4,.rs ao 0 s0.ae.length 1])::(an,.sl s0.aa.length 4 (ah.l s0.aa))::(ao,.sl s0.ae.length 1 (af.l s0.ae))::L)→∀xs,xs.map aN=[.ptr ar 0,.agg [.i x0.fF,.i x0.tc,.i x0.D0,.str x0.fc,af.fz x0.gz,ah.fz x0.tR.nodes,.i x0.tR.root]]→∃aA aB h',cf 58 xs h=some (.i r.1,h')∧Has h' ((ar,.ob [.bool r.2.aj,.rs aA 0 r.2.aa.length 4,.rs aB 0 r.2.ae.length 1])::(aA,.sl r.2.aa.length 4 (ah.l r.2.aa))::(aB,.sl r.2.ae.length 1 (af.l r.2.ae))::L)
section
variable {cf:CallF}{m:Nat}
theorem wO {aS:FuncId→bR}(ha:aS 58=EK)(KN:Uz cf m)(NP:T4 cf m)(UG:Wj cf m)(UH:WA cf m)(UI:Wv cf m)(UJ:Wk cf m)(UK:Ww cf m)(UL:Wq cf m)(s0:ab)(x0:bb)(h:AHeap)(L:Mem)(ar:Nat)(an:Nat)(ao:Nat)  (o:Has h ((ar,.ob [.bool s0.aj,.rs an 0 s0.aa.length 4,.rs ao 0 s0.ae.length 1])::(an,.sl s0.aa.length 4 (ah.l s0.aa))::(ao,.sl s0.ae.length 1 (af.l s0.ae))::L)){out:Int × ab}(H:iU.f m s0 x0=some out) :
  ∃r h',a6 Tryz.prog aS cf m 58 [.ptr ar 0,.agg [.i x0.fF,.i x0.tc,.i x0.D0,.str x0.fc,af.fz x0.gz,ah.fz x0.tR.nodes,.i x0.tR.root]] h=some (r,h')∧∃aA aB:Nat,r = .i out.1∧Has h' ((ar,.ob [.bool out.2.aj,.rs aA 0 out.2.aa.length 4,.rs aB 0 out.2.ae.length 1])::(aA,.sl out.2.aa.length 4 (ah.l out.2.aa))::(aB,.sl out.2.ae.length 1 (af.l out.2.ae))::L):=by
 refine aq (fn:=Tryz.f58) ha Tryz.func58 kr kr ?_
 refine aC (Q:=fun s=>iU.fin L ar an ao s0 x0 out s) (fun _ _ ⟨h1,aA,aB,h2,h3⟩=>⟨h1,_,h2,aA,aB,rfl,h3⟩) ?_
 have H:_=some out:=H
 unfold iU.f at H
 show cZ _ cf EK m _ ⟨.ptr ar 0 :: .agg [.i x0.fF,.i x0.tc,.i x0.D0,.str x0.fc,af.fz x0.gz,ah.fz x0.tR.nodes,.i x0.tR.root]::Ay [],[none],h⟩ _
 refine q1 <| qq <| q0 <| qq <| qq <| q0 <| qb 0 <| qq <| q0 <| qc H (fun c0 H=>?_) (fun c0 H=>?_)
 ·obtain⟨x1,e0,H⟩:=aW H
  obtain⟨aM,cr,h0,e1,o0⟩:=UG _ _ e0 h _ _ _ _ (o)  [.ptr ar 0] cq
  obtain rfl:=oi H
  exact qr [.a 1 e1] <| qq <| q0 <| qt <| ⟨.inl rfl,⟨aM,cr,kr,he o0⟩⟩
 ·refine q1 <| qc H (fun c1 H=>?_) (fun c1 H=>?_)
  ·obtain⟨x2,e2,H⟩:=aW H
   obtain⟨dY,fk,h1,e3,o1⟩:=UJ _ _ _ e2 h _ _ _ _ (o)  [.ptr ar 0,.i x0.tc] cq
   obtain rfl:=oi H
   exact qr [.a 3 e3] <| qq <| q0 <| qt <| ⟨.inl rfl,⟨dY,fk,kr,he o1⟩⟩
  ·refine q1 <| qc H (fun c2 H=>?_) (fun c2 H=>?_)
   ·obtain⟨x3,e4,H⟩:=aW H
    obtain⟨fR,fj,h2,e5,o2⟩:=UH _ _ _ e4 h _ _ _ _ (o)  [.ptr ar 0,.str x0.fc] cq
    obtain rfl:=oi H
    exact qr [.a 3 e5] <| qq <| q0 <| qt <| ⟨.inl rfl,⟨fR,fj,kr,he o2⟩⟩
   ·refine q1 <| qc H (fun c3 H=>?_) (fun c3 H=>?_)
    ·obtain⟨x4,e6,H⟩:=aW H
     obtain⟨gk,ib,h3,e7,o3⟩:=UK _ _ _ _ e6 h _ _ _ _ (o)  [.ptr ar 0,.str x0.fc,af.fz x0.gz] cq
     obtain rfl:=oi H
     exact qr [.a 5 e7] <| qq <| q0 <| qt <| ⟨.inl rfl,⟨gk,ib,kr,he o3⟩⟩
    ·refine q1 <| qc H (fun c4 H=>?_) (fun c4 H=>?_)
     ·obtain⟨x5,e8,H⟩:=aW H
      obtain⟨hH,GB,h4,e9,o4⟩:=UL _ _ _ _ e8 h _ _ _ _ (o)  [.ptr ar 0,.str x0.fc,.i x0.tc] cq
      obtain rfl:=oi H
      exact qr [.a 5 e9] <| qq <| q0 <| qt <| ⟨.inl rfl,⟨hH,GB,kr,he o4⟩⟩
     ·refine q1 <| qc H (fun c5 H=>?_) (fun c5 H=>?_)
      ·obtain⟨x6,sL,H⟩:=aW H
       obtain⟨jM,lf,h5,vg,o5⟩:=KN _ _ _ sL h _ _ _ _ (o)  [.ptr ar 0,.agg [ah.fz x0.tR.nodes,.i x0.tR.root]] cq
       obtain rfl:=oi H
       exact qr [.a 3 vg] <| qq <| q0 <| qt <| ⟨.inl rfl,⟨jM,lf,kr,he o5⟩⟩
      ·refine q1 <| qc H (fun c6 H=>?_) (fun c6 H=>?_)
       ·obtain⟨x7,yQ,H⟩:=aW H
        obtain⟨oF,pU,FY,h6,wo,o6⟩:=NP _ _ _ _ yQ h _ _ _ _ (o)  [.ptr ar 0,.i x0.tc,.i x0.D0] cq
        refine qr [.a 5 wo] ?_
        have o7:Has h6 ((ar,.ob [.bool x7.2.2.aj,.rs pU 0 x7.2.2.aa.length 4,.rs FY 0 x7.2.2.ae.length 1])::(pU,.sl x7.2.2.aa.length 4 (ah.l x7.2.2.aa))::(FY,.sl x7.2.2.ae.length 1 (af.l x7.2.2.ae))::L):=iJ o6 0
        obtain rfl:=oi H
        exact q1 <| qt <| ⟨.inl rfl,⟨pU,FY,kr,he o7⟩⟩
       ·refine q1 <| qc H (fun c7 H=>?_) (fun c7 H=>?_)
        ·obtain⟨x8,CH,H⟩:=aW H
         obtain⟨CO,tk,vq,h7,AW,o8⟩:=UI _ _ _ _ CH h _ _ _ _ (o)  [.ptr ar 0,.i x0.tc,.i x0.D0] cq
         refine qr [.a 5 AW] ?_
         have o9:Has h7 ((ar,.ob [.bool x8.2.2.2.aj,.rs tk 0 x8.2.2.2.aa.length 4,.rs vq 0 x8.2.2.2.ae.length 1])::(tk,.sl x8.2.2.2.aa.length 4 (ah.l x8.2.2.2.aa))::(vq,.sl x8.2.2.2.ae.length 1 (af.l x8.2.2.2.ae))::L):=iJ o8 0
         obtain rfl:=oi H
         exact q1 <| qt <| ⟨.inl rfl,⟨tk,vq,kr,he o9⟩⟩
        ·obtain rfl:=oi H
         exact qk <| qq <| q0 <| qt <| ⟨.inl rfl,⟨an,ao,kr,he o⟩⟩
end
def A0:bR:=gC [0,2,3,4,9] [] [30,26,18,2,18,18,29] [] []
def cK.l0 (m:Nat)(l0:List bb):Nat→Int→ab→Option (Int × ab)
 | 0,_,_=>none
 | k+1,i0,wq=>if (decide (i0<(l0.length:Int)))=true then ((ix l0 i0).bind fun v0=>(iU.f m wq v0).bind fun x1=>cK.l0 m l0 k (i64.wrap (i0+1)) x1.2) else (some ((i0,wq)))
def cK.f (m:Nat)(l0:List bb):Option (ab):=(jJ.f m ).bind fun x0=>(cK.l0 m l0 m 0 x0).bind fun bP=>match bP with | (i1,Fv)=>some Fv
def cK.fin (L:Mem)(l0:List bb)(r:ab)(s:St):Prop:=∃dz gX gY:Nat,aE Tryz.prog (s.open A0) Tryz.f21.results.toList=some (.ptr dz 0)∧Has s.h ((dz,.ob [.bool r.aj,.rs gX 0 r.aa.length 4,.rs gY 0 r.ae.length 1])::(gX,.sl r.aa.length 4 (ah.l r.aa))::(gY,.sl r.ae.length 1 (af.l r.ae))::L)
def WH (cf:CallF)(m:Nat):Prop:=∀(l0:List bb) (r:ab),cK.f m l0=some r→∀h L,Has h (L)→∀xs,xs.map aN=[bD.fz l0]→∃dz gX gY h',cf 21 xs h=some (.ptr dz 0,h')∧Has h' ((dz,.ob [.bool r.aj,.rs gX 0 r.aa.length 4,.rs gY 0 r.ae.length 1])::(gX,.sl r.aa.length 4 (ah.l r.aa))::(gY,.sl r.ae.length 1 (af.l r.ae))::L)
section
variable {cf:CallF}{m:Nat}
theorem cK.cb (L:Mem)(l0:List bb)(aM:Nat)  (NQ:UF cf m):cY Tryz.prog cf A0 m (sub [1,1,0,1,0,0] (bN Tryz.f21)) (fun k (σ:Int × ab)=>cK.l0 m l0 k σ.1 σ.2) (fun σ s=>match σ with | (i0,wq)=>∃fk fR h1,s=⟨[bD.fz l0,.any,.ptr aM 0,.i i0,.any],[],h1⟩∧Has h1 ((aM,.ob [.bool wq.aj,.rs fk 0 wq.aa.length 4,.rs fR 0 wq.ae.length 1])::(fk,.sl wq.aa.length 4 (ah.l wq.aa))::(fR,.sl wq.ae.length 1 (af.l wq.ae))::L)) (fun out e s=>(e = .exit 0∧∃i0 wq,(i0,wq)=out∧∃nC Qr FV fk fR h1,s=⟨[nC,.any,.ptr aM 0,Qr,FV],[],h1⟩∧Has h1 ((aM,.ob [.bool wq.aj,.rs fk 0 wq.aa.length 4,.rs fR 0 wq.ae.length 1])::(fk,.sl wq.aa.length 4 (ah.l wq.aa))::(fR,.sl wq.ae.length 1 (af.l wq.ae))::L))):=by
 refine ln (fun _=>rfl) ?_
 rintro k ⟨i0,wq⟩ s out ⟨fk,fR,h1,rfl,o1⟩ H
 have H:cK.l0 m l0 (k+1) i0 wq=some out:=H
 refine qq <| qq <| q0 <| qc H (fun c0 H=>?_) (fun c0 H=>?_)
 ·refine qk <| qq <| qb 1 ?_
  obtain⟨v0,e2,H⟩:=aW H
  obtain⟨x1,e3,H⟩:=aW H
  obtain⟨fj,gk,h2,e4,o2⟩:=NQ _ _ _ e3 h1 _ _ _ _ (o1)  [.ptr aM 0,.agg [.i v0.fF,.i v0.tc,.i v0.D0,.str v0.fc,af.fz v0.gz,ah.fz v0.tR.nodes,.i v0.tR.root]] cq
  exact qr [.v 3 (eK (k:=.i64) (E:=bD) (l:=l0) RJ e2),.v 4 (ke  (E:=bD) (l:=l0) h1 Yu Yw e2),.a 5 e4] <| q0 <| ⟨(i64.wrap (i0+1),x1.2),⟨fj,gk,h2,kr,o2⟩,H⟩
 ·exact qx 0 <| ⟨rfl,i0,wq,oi H,bD.fz l0,.i i0,.bool (decide (i0<(l0.length:Int))),fk,fR,h1,kr,o1⟩
theorem tE {aS:FuncId→bR}(ha:aS 21=A0)(UM:We cf m)(NQ:UF cf m)(l0:List bb)(h:AHeap)(L:Mem)  (o:Has h (L)){out:ab}(H:cK.f m l0=some out) :
  ∃r h',a6 Tryz.prog aS cf m 21 [bD.fz l0] h=some (r,h')∧∃dz gX gY:Nat,r = .ptr dz 0∧Has h' ((dz,.ob [.bool out.aj,.rs gX 0 out.aa.length 4,.rs gY 0 out.ae.length 1])::(gX,.sl out.aa.length 4 (ah.l out.aa))::(gY,.sl out.ae.length 1 (af.l out.ae))::L):=by
 refine aq (fn:=Tryz.f21) ha Tryz.func21 kr kr ?_
 refine aC (Q:=fun s=>cK.fin L l0 out s) (fun _ _ ⟨h1,dz,gX,gY,h2,h3⟩=>⟨h1,_,h2,dz,gX,gY,rfl,h3⟩) ?_
 have H:_=some out:=H
 unfold cK.f at H
 show cZ _ cf A0 m _ ⟨bD.fz l0::rN [],[],h⟩ _
 refine q1 <| qq ?_
 obtain⟨x0,e0,H⟩:=aW H
 obtain⟨aM,cr,dY,h0,e1,o0⟩:=UM _ e0 h _  (o)  [] cq
 refine qr [.a 0 e1] <| qq <| qq <| q0 <| qb 0 ?_
 obtain⟨bP,e5,H⟩:=aW H
 refine ql (cK.cb L l0 aM  NQ (0,x0) _ _ ⟨cr,dY,h0,kr,o0⟩ e5) ?_
 rintro e s ⟨rfl,i1,Fv,rfl,g0,g1,g2,ib,hH,h3,rfl,o3⟩
 try dsimp only at H
 obtain rfl:=oi H
 exact q1 <| qt <| ⟨.inl rfl,⟨aM,ib,hH,kr,he o3⟩⟩
end
end Go.Proofs.YtifafejidnjckaaGreat
