/- Part of the proof: Q72, Q76, Q46, Q43, Q21, Q36, Q17, Q12, Q3, Q4, Q5, Q6. -/
import Derived.Test.YtifafejidnjckaaK9
set_option linter.unusedVariables false
set_option linter.unusedSimpArgs false
set_option maxRecDepth 100000
open Eq renaming trans → W8
open List renaming length_set → VG
namespace Go.Proofs.Ytifafejidnjckaa
open Go Go.R
open Go.IntKind (i64 u64 u8 u32)
def pd:b5:=gX [0,1,2,3,4,5,6,7,8,9,10,11,12,13,14,15,17,22,23,24,37,38,39,40,61,73,74,75,76,87,88,89,90,110,126] [12] [34359738365,34359738357,34359345141,34358820853,34359345125,34359345141,34359345141,34359738357,34359738325,34359738261,34352398229,34344009621,34352397845,34335620757,34352397973,34352398229,34352398229,34359737757,34359736733,34124855709,33856420253,34124849565,34124841373,30366749085,26071781789,30366699933,30366749085,30366749085,34124779933,25534910877,34124845469,34124855709,34124855709,17179867613,34359738363,34359738269] [] []
def ax.l0 (m:Nat)(x0:List Int):Nat→(List Int)→Int→Option ((List Int) × Int)
 | 0,_,_=>none
 | k+1,bP,x1=>if (decide (x1<(x0.length:Int)))=true then ((ix bP x1).bind fun v0=>ax.l0 m x0 k (bP.set x1.toNat x1) (i64.wrap (x1+(1:Int)))) else (some ((bP,x1)))
def ax.l1 (m:Nat)(aJ:List aq)(bY:List Int)(x3:(List Int)):Nat→(List Int)→Int→Int→Option ((List Int) × Int × Int)
 | 0,_,_,_=>none
 | k+1,dv,ei,x5=>if (decide (x5<(bY.length:Int)))=true then ((ix x3 x5).bind fun v1=>if (decide (x5 > (0:Int)))=true then ((ix x3 (i64.wrap (x5 - (1:Int)))).bind fun v2=>(ix aJ v2).bind fun v3=>(ix aJ v1).bind fun v4=>(dm.f m v3 v4).bind fun x6=>if (!(x6==(0:Int)))=true then ((ix dv v1).bind fun v5=>ax.l1 m aJ bY x3 k (dv.set v1.toNat (i64.wrap (ei+(1:Int)))) (i64.wrap (ei+(1:Int))) (i64.wrap (x5+(1:Int)))) else ((ix dv v1).bind fun v6=>ax.l1 m aJ bY x3 k (dv.set v1.toNat ei) ei (i64.wrap (x5+(1:Int))))) else ((ix dv v1).bind fun v7=>ax.l1 m aJ bY x3 k (dv.set v1.toNat ei) ei (i64.wrap (x5+(1:Int))))) else (some ((dv,ei,x5)))
def ax.l4 (m:Nat)(dk:List Int)(v8:aq):Nat→(List Int)→Int→Option ((List Int) × Int)
 | 0,_,_=>none
 | k+1,k0,kB=>if (decide (kB<(v8.args.length:Int)))=true then ((ix v8.args kB).bind fun v10=>(ix dk v10).bind fun v11=>(ix k0 (i64.wrap (kB+(1:Int)))).bind fun v12=>ax.l4 m dk v8 k (k0.set (i64.wrap (kB+(1:Int))).toNat (i64.wrap (v11+(1:Int)))) (i64.wrap (kB+(1:Int)))) else (some ((k0,kB)))
def ax.l3 (m:Nat)(aJ:List aq)(dk:List Int):Nat→(List (List Int × Int))→(List Int)→Int→Option ((List (List Int × Int)) × (List Int) × Int)
 | 0,_,_,_=>none
 | k+1,fH,dz,x9=>if (decide (x9<(aJ.length:Int)))=true then ((ix aJ x9).bind fun v8=>(ix dk x9).bind fun v9=>(ax.l4 m dk v8 m ([i64.wrap (v9+(1:Int)),(0:Int),(0:Int),(0:Int),(0:Int),(0:Int),(0:Int),(0:Int),(0:Int)]) (0:Int)).bind fun L3=>match L3 with | (k1,AJ)=>(GV 9 fH k1).bind fun r0=>if (!r0.2)=true then ((Lx 9 fH k1 (fH.length:Int)).bind fun JN=>(GV 9 JN k1).bind fun r1=>(ix dz x9).bind fun M0=>ax.l3 m aJ dk k JN (dz.set x9.toNat r1.1) (i64.wrap (x9+(1:Int)))) else ((GV 9 fH k1).bind fun r2=>(ix dz x9).bind fun Ty=>ax.l3 m aJ dk k fH (dz.set x9.toNat r2.1) (i64.wrap (x9+(1:Int))))) else (some ((fH,dz,x9)))
def ax.l2 (m:Nat)(aJ:List aq):Nat→(List Int)→Int→Option (Sum (List Int) ((List Int) × Int))
 | 0,_,_=>none
 | k+1,dk,jk=>(De 8 (aJ.length:Int) (0:Int)).bind fun x8=>(ax.l3 m aJ dk m ([]:List (List Int × Int)) x8 (0:Int)).bind fun L4=>match L4 with | (nH,mR,EE)=>if ((nH.length:Int)==(i64.wrap (jk+(1:Int))))=true then (some (.inl dk)) else (ax.l2 m aJ k mR (i64.wrap ((nH.length:Int) - (1:Int))))
def ax.f (m:Nat)(aJ:List aq):Option ((List Int)):=(De 8 (aJ.length:Int) (0:Int)).bind fun x0=>(ax.l0 m x0 m x0 (0:Int)).bind fun b4=>match b4 with | (bY,x2)=>(fj.f m bY (fun y0 y1=>dK.f m y0 y1 aJ)).bind fun x3=>(De 8 (aJ.length:Int) (0:Int)).bind fun x4=>(ax.l1 m aJ bY x3 m x4 (0:Int) (0:Int)).bind fun EX=>match EX with | (mP,many1,x7)=>(ax.l2 m aJ m mP many1).bind fun L5=>match L5 with | .inl r3=>some r3 | .inr (Pl,L6)=>none
def ax.fin (L:Mem)(r:(List Int))(s:St):Prop:=∃av,aM Try.prog (s.open pd) Try.f72.results.toList=some av∧fA s.h av (af.fz r)
def Rz (cf:CallF)(m:Nat):Prop:=∀(aJ:List aq) (r:(List Int)),ax.f m aJ=some r→∀h xs,aO bR h xs [ah.fz aJ]→cf 72 xs h=some (af.fz r,h)
section
variable {cf:CallF}{m:Nat}
theorem ax.di (L:Mem)(aJ:List aq)(aI:Nat)(x0:List Int)   : dV Try.prog cf pd m (sub [1,1,0,1,0,0] (b7 Try.f72)) (fun k (σ:(List Int) × Int)=>ax.l0 m x0 k σ.1 σ.2) (fun σ s=>match σ with | (bP,x1)=>∃eS h2,s=⟨.any :: .ptr aI 0 :: .any :: .rs eS 0 bP.length 1::qP (.int .i64 (x0.length:Int) :: .int .i64 x1::GX []),[none],h2⟩∧Has h2 ((eS,.sl bP.length 1 (af.l bP))::(aI,.ob [ah.fz aJ])::L)) (fun out e s=>(e = .exit 0∧∃bP x1,(bP,x1)=out∧∃EP Pm Pn eS h2,s=⟨.any :: .ptr aI 0 :: .any :: .rs eS 0 bP.length 1::qP (EP::Pm::Pn::N8 []),[none],h2⟩∧Has h2 ((eS,.sl bP.length 1 (af.l bP))::(aI,.ob [ah.fz aJ])::L))):=by
 refine me (fun _=>rfl) ?_
 rintro k ⟨bP,x1⟩ s out ⟨eS,h2,rfl,o2⟩ H
 have H:ax.l0 m x0 (k+1) bP x1=some out:=H
 refine q1 <| qq <| qc H (fun c0 H=>?_) (fun c0 H=>?_)
 ·refine qk <| qq <| qb 1 <| qq <| q0 ?_
  obtain⟨v0,e3,H⟩:=bh H
  obtain⟨h3,e4,o3⟩:=fF (P:=Try.prog) (tf:=3) (E:=af) (l:=bP) (q:=0) (v:=x1) (x:=.int .i64 x1) o2 rfl Z3 e3 rfl rfl
  exact qr [.v 3 (bo (k:=.i64) (E:=af) (l:=bP) (q:=0) gK o2 rfl e3),.w 4 e4] <| q0 <| ⟨(bP.set x1.toNat x1,i64.wrap (x1+(1:Int))),⟨eS,h3,(W8 (b:=⟨.any :: .ptr aI 0 :: .any :: .rs eS 0 bP.length 1::qP (.int .i64 (x0.length:Int) :: .int .i64 (i64.wrap (x1+(1:Int)))::GX []),[none],h3⟩) (by kernel_rfl) (by simp only [VG])),(by have o:Has h3 ((eS,.sl bP.length 1 (af.l (bP.set x1.toNat x1)))::(aI,.ob [ah.fz aJ])::L):=o3; simpa only [VG] using o)⟩,H⟩
 ·exact qx 0 <| ⟨rfl,bP,x1,oi H,.int .i64 (x0.length:Int),.int .i64 x1,.bool (decide (x1<(x0.length:Int))),eS,h2,by kernel_rfl,o2⟩
theorem ax.mK (L:Mem)(aJ:List aq)(aI:Nat)(cD:Nat)(bY:List Int)(cD:Nat)(x3:(List Int))  (EW:MZ cf m):dV Try.prog cf pd m (sub [1,1,1,1,1,1,0,1,0,0] (b7 Try.f72)) (fun k (σ:(List Int) × Int × Int)=>ax.l1 m aJ bY x3 k σ.1 σ.2.1 σ.2.2) (fun σ s=>match σ with | (dv,ei,x5)=>∃fo h7,s=⟨.any :: .ptr aI 0 :: .any :: .rs cD 0 bY.length 1 :: .any :: .rs fo 0 dv.length 1 :: .int .i64 ei::qP (.rs cD 0 bY.length 1 :: .int .i64 (bY.length:Int) :: .int .i64 x5::vC []),[none],h7⟩∧Has h7 ((fo,.sl dv.length 1 (af.l dv))::(cD,.sl bY.length 1 (af.l x3))::(aI,.ob [ah.fz aJ])::L)) (fun out e s=>(e = .exit 2∧∃dv ei x5,(dv,ei,x5)=out∧∃EA E3 E4 JO JP fo h7,s=⟨.any :: .ptr aI 0 :: .any::EA :: .any :: .rs fo 0 dv.length 1 :: .int .i64 ei::qP (E3::E4::JO::JP::tI []),[none],h7⟩∧Has h7 ((fo,.sl dv.length 1 (af.l dv))::(cD,.sl bY.length 1 (af.l x3))::(aI,.ob [ah.fz aJ])::L))):=by
 refine me (fun _=>rfl) ?_
 rintro k ⟨dv,ei,x5⟩ s out ⟨fo,h7,rfl,o7⟩ H
 have H:ax.l1 m aJ bY x3 (k+1) dv ei x5=some out:=H
 refine q1 <| qq <| qc H (fun c1 H=>?_) (fun c1 H=>?_)
 ·refine qk <| qq <| qb 3 <| qq ?_
  obtain⟨v1,tw,H⟩:=bh H
  refine qr [.v 1 (bo (k:=.i64) (E:=af) (l:=x3) (q:=1) gK o7 rfl tw),.v 2 (dF  (E:=af) (l:=x3) (q:=1) o7 rfl A3 tw rfl)] <| qq <| qq ?_
  rcases iA H with⟨c2,H⟩| ⟨c2,H⟩
  ·obtain⟨v2,wv,H⟩:=bh H
   obtain⟨v3,zj,H⟩:=bh H
   obtain⟨v4,yy,H⟩:=bh H
   obtain⟨x6,CG,H⟩:=bh H
   refine qr [.b 2 c2,.v 3 (show bm Try.prog h7 40 (.ptr aI 0)=some (ah.fz aJ) from bZ (q:=2) (cs:=[ah.fz aJ]) o7 rfl (by kernel_rfl)),.v 7 (bo (k:=.i64) (E:=af) (l:=x3) (q:=1) gK o7 rfl wv),.v 8 (dF  (E:=af) (l:=x3) (q:=1) o7 rfl A3 wv rfl),.v 9 (eW (k:=.i64) (E:=ah) (l:=aJ) yx zj),.v 10 (ls  (E:=ah) (l:=aJ) h7 Ge Gf zj),.v 11 (show bm Try.prog h7 40 (.ptr aI 0)=some (ah.fz aJ) from bZ (q:=2) (cs:=[ah.fz aJ]) o7 rfl (by kernel_rfl)),.v 13 (eW (k:=.i64) (E:=ah) (l:=aJ) yx yy),.v 14 (ls  (E:=ah) (l:=aJ) h7 Ge Gf yy),.a 15 (EW _ _ _ CG h7 _ (gv (ai (jS (ai (bB) (ai (bB) (ai (cU) (ai (fy (E:=af)) (ay)))))) (ai (jS (ai (bB) (ai (bB) (ai (cU) (ai (fy (E:=af)) (ay)))))) (ay)))))] ?_
   refine qc H (fun c3 H=>?_) (fun c3 H=>?_)
   ·refine q0 ?_
    obtain⟨v5,A6,H⟩:=bh H
    obtain⟨h8,ER,o8⟩:=fF (P:=Try.prog) (tf:=3) (E:=af) (l:=dv) (q:=0) (v:=(i64.wrap (ei+(1:Int)))) (x:=.int .i64 (i64.wrap (ei+(1:Int)))) o7 rfl Z3 A6 rfl rfl
    exact qr [.v 3 (bo (k:=.i64) (E:=af) (l:=dv) (q:=0) gK o7 rfl A6),.w 4 ER] <| q0 <| ⟨(dv.set v1.toNat (i64.wrap (ei+(1:Int))),i64.wrap (ei+(1:Int)),i64.wrap (x5+(1:Int))),⟨fo,h8,(W8 (b:=⟨.any :: .ptr aI 0 :: .any :: .rs cD 0 bY.length 1 :: .any :: .rs fo 0 dv.length 1 :: .int .i64 (i64.wrap (ei+(1:Int)))::qP (.rs cD 0 bY.length 1 :: .int .i64 (bY.length:Int) :: .int .i64 (i64.wrap (x5+(1:Int)))::vC []),[none],h8⟩) (by kernel_rfl) (by simp only [VG])),(by have o:Has h8 ((fo,.sl dv.length 1 (af.l (dv.set v1.toNat (i64.wrap (ei+(1:Int))))))::(cD,.sl bY.length 1 (af.l x3))::(aI,.ob [ah.fz aJ])::L):=o8; simpa only [VG] using o)⟩,H⟩
   ·refine qk ?_
    obtain⟨v6,ES,H⟩:=bh H
    obtain⟨h9,Gg,o9⟩:=fF (P:=Try.prog) (tf:=3) (E:=af) (l:=dv) (q:=0) (v:=ei) (x:=.int .i64 ei) o7 rfl Z3 ES rfl rfl
    exact qr [.v 3 (bo (k:=.i64) (E:=af) (l:=dv) (q:=0) gK o7 rfl ES),.w 4 Gg] <| q0 <| ⟨(dv.set v1.toNat ei,ei,i64.wrap (x5+(1:Int))),⟨fo,h9,(W8 (b:=⟨.any :: .ptr aI 0 :: .any :: .rs cD 0 bY.length 1 :: .any :: .rs fo 0 dv.length 1 :: .int .i64 ei::qP (.rs cD 0 bY.length 1 :: .int .i64 (bY.length:Int) :: .int .i64 (i64.wrap (x5+(1:Int)))::vC []),[none],h9⟩) (by kernel_rfl) (by simp only [VG])),(by have o:Has h9 ((fo,.sl dv.length 1 (af.l (dv.set v1.toNat ei)))::(cD,.sl bY.length 1 (af.l x3))::(aI,.ob [ah.fz aJ])::L):=o9; simpa only [VG] using o)⟩,H⟩
  ·refine qr [.b 2 c2] <| Ek <| qk ?_
   obtain⟨v7,ET,H⟩:=bh H
   obtain⟨h10,Hg,xI⟩:=fF (P:=Try.prog) (tf:=3) (E:=af) (l:=dv) (q:=0) (v:=ei) (x:=.int .i64 ei) o7 rfl Z3 ET rfl rfl
   exact qr [.v 3 (bo (k:=.i64) (E:=af) (l:=dv) (q:=0) gK o7 rfl ET),.w 4 Hg] <| q0 <| ⟨(dv.set v1.toNat ei,ei,i64.wrap (x5+(1:Int))),⟨fo,h10,(W8 (b:=⟨.any :: .ptr aI 0 :: .any :: .rs cD 0 bY.length 1 :: .any :: .rs fo 0 dv.length 1 :: .int .i64 ei::qP (.rs cD 0 bY.length 1 :: .int .i64 (bY.length:Int) :: .int .i64 (i64.wrap (x5+(1:Int)))::vC []),[none],h10⟩) (by kernel_rfl) (by simp only [VG])),(by have o:Has h10 ((fo,.sl dv.length 1 (af.l (dv.set v1.toNat ei)))::(cD,.sl bY.length 1 (af.l x3))::(aI,.ob [ah.fz aJ])::L):=xI; simpa only [VG] using o)⟩,H⟩
 ·exact qx 2 <| ⟨rfl,dv,ei,x5,oi H,.rs cD 0 bY.length 1,.rs cD 0 bY.length 1,.int .i64 (bY.length:Int),.int .i64 x5,.bool (decide (x5<(bY.length:Int))),fo,h7,(W8 (b:=⟨.any :: .ptr aI 0 :: .any :: .rs cD 0 bY.length 1 :: .any :: .rs fo 0 dv.length 1 :: .int .i64 ei::qP (.rs cD 0 bY.length 1 :: .int .i64 (bY.length:Int) :: .int .i64 x5 :: .bool (decide (x5<(bY.length:Int)))::tI []),[none],h7⟩) (by kernel_rfl) (by simp only [VG])),(by have o:Has h7 ((fo,.sl dv.length 1 (af.l dv))::(cD,.sl bY.length 1 (af.l x3))::(aI,.ob [ah.fz aJ])::L):=o7; simpa only [VG] using o)⟩
theorem ax.EZ (L:Mem)(aJ:List aq)(aI:Nat)(gA:Nat)(dk:List Int)(jk:Int)(gA:Nat)(jd:Nat)(il:Nat)(fH:List (List Int × Int))(dz:List Int)(x9:Int)(il:Nat)(v8:aq)(iZ:Nat)   : dV Try.prog cf pd m (sub [1,1,1,1,1,1,1,0,0,0,1,1,0,1,0,0,1,1,0,0,1,1,0,1,0,0] (b7 Try.f72)) (fun k (σ:(List Int) × Int)=>ax.l4 m dk v8 k σ.1 σ.2) (fun σ s=>match σ with | (k0,kB)=>∃h18,s=⟨.any :: .ptr aI 0::sv (.rs gA 0 dk.length 1 :: .int .i64 jk :: .any :: .any :: .mp jd :: .rs il 0 dz.length 1 :: .int .i64 x9 :: .any :: .ptr iZ 0::tI (ah.fz aJ :: .int .i64 (aJ.length:Int) :: .int .i64 x9 :: .any::af.fz v8.args :: .int .i64 (v8.args.length:Int) :: .int .i64 kB::sv [])),[none],h18⟩∧Has h18 ((iZ,.sl 9 1 (af.l k0))::(il,.sl dz.length 1 (af.l dz))::(jd,.mp (tH fH))::(gA,.sl dk.length 1 (af.l dk))::(aI,.ob [ah.fz aJ])::L)) (fun out e s=>(e = .exit 8∧∃k0 kB,(k0,kB)=out∧∃Po Pp Pq Pt h18,s=⟨.any :: .ptr aI 0::sv (.rs gA 0 dk.length 1 :: .int .i64 jk :: .any :: .any :: .mp jd :: .rs il 0 dz.length 1 :: .int .i64 x9 :: .any :: .ptr iZ 0::tI [ah.fz aJ,.int .i64 (aJ.length:Int),.int .i64 x9,.any,Po,Pp,Pq,Pt,.any,.any]),[none],h18⟩∧Has h18 ((iZ,.sl 9 1 (af.l k0))::(il,.sl dz.length 1 (af.l dz))::(jd,.mp (tH fH))::(gA,.sl dk.length 1 (af.l dk))::(aI,.ob [ah.fz aJ])::L))):=by
 refine me (fun _=>rfl) ?_
 rintro k ⟨k0,kB⟩ s out ⟨h18,rfl,CL⟩ H
 have H:ax.l4 m dk v8 (k+1) k0 kB=some out:=H
 refine q1 <| qq <| qc H (fun c6 H=>?_) (fun c6 H=>?_)
 ·refine qk <| qq <| qb 9 <| qq ?_
  obtain⟨v10,Kx,H⟩:=bh H
  refine qr [.v 1 (eW (k:=.i64) (E:=af) (l:=v8.args) gK Kx),.v 2 (ij  (E:=af) (l:=v8.args) h18 A3 Kx rfl)] ?_
  obtain⟨v11,M3,H⟩:=bh H
  obtain⟨v12,M4,H⟩:=bh H
  obtain⟨h19,Tz,M9⟩:=fF (P:=Try.prog) (tf:=3) (E:=af) (l:=k0) (q:=0) (v:=(i64.wrap (v11+(1:Int)))) (x:=.int .i64 (i64.wrap (v11+(1:Int)))) CL rfl Z3 M4 rfl rfl
  exact qr [.v 4 (bo (k:=.i64) (E:=af) (l:=dk) (q:=3) gK CL rfl M3),.v 5 (dF  (E:=af) (l:=dk) (q:=3) CL rfl A3 M3 rfl),.v 7 (I7 (k:=.i64) (q:=0) (l:=k0) uy CL rfl M4),.w 8 Tz] <| q0 <| ⟨(k0.set (i64.wrap (kB+(1:Int))).toNat (i64.wrap (v11+(1:Int))),i64.wrap (kB+(1:Int))),⟨h19,by kernel_rfl,M9⟩,H⟩
 ·exact qx 8 <| ⟨rfl,k0,kB,oi H,af.fz v8.args,.int .i64 (v8.args.length:Int),.int .i64 kB,.bool (decide (kB<(v8.args.length:Int))),h18,by kernel_rfl,CL⟩
theorem ax.EY (L:Mem)(aJ:List aq)(aI:Nat)(gA:Nat)(dk:List Int)(jk:Int)(gA:Nat)(jd:Nat)   : dV Try.prog cf pd m (sub [1,1,1,1,1,1,1,0,0,0,1,1,0,1,0,0] (b7 Try.f72)) (fun k (σ:(List (List Int × Int)) × (List Int) × Int)=>ax.l3 m aJ dk k σ.1 σ.2.1 σ.2.2) (fun σ s=>match σ with | (fH,dz,x9)=>∃il h15,s=⟨.any :: .ptr aI 0::sv (.rs gA 0 dk.length 1 :: .int .i64 jk :: .any :: .any :: .mp jd :: .rs il 0 dz.length 1::vD (ah.fz aJ :: .int .i64 (aJ.length:Int) :: .int .i64 x9::H9 [])),[none],h15⟩∧Has h15 ((il,.sl dz.length 1 (af.l dz))::(jd,.mp (tH fH))::(gA,.sl dk.length 1 (af.l dk))::(aI,.ob [ah.fz aJ])::L)) (fun out e s=>(e = .exit 6∧∃fH dz x9,(fH,dz,x9)=out∧∃Pu Pv Pw Px il h15,s=⟨.any :: .ptr aI 0::sv (.rs gA 0 dk.length 1 :: .int .i64 jk :: .any :: .any :: .mp jd :: .rs il 0 dz.length 1::vD (Pu::Pv::Pw::Px::xo [])),[none],h15⟩∧Has h15 ((il,.sl dz.length 1 (af.l dz))::(jd,.mp (tH fH))::(gA,.sl dk.length 1 (af.l dk))::(aI,.ob [ah.fz aJ])::L))):=by
 refine me (fun _=>rfl) ?_
 rintro k ⟨fH,dz,x9⟩ s out ⟨il,h15,rfl,zr⟩ H
 have H:ax.l3 m aJ dk (k+1) fH dz x9=some out:=H
 refine q1 <| qq <| qc H (fun c5 H=>?_) (fun c5 H=>?_)
 ·refine qk <| qq <| qb 7 <| qq ?_
  obtain⟨v8,Gk,H⟩:=bh H
  refine qr [.v 1 (eW (k:=.i64) (E:=ah) (l:=aJ) yx Gk),.v 2 (ls  (E:=ah) (l:=aJ) h15 Ge Gf Gk)] <| qq ?_
  obtain⟨v9,Hi,H⟩:=bh H
  obtain⟨iZ,h16,Ky,Dl⟩:=GW (cs:=[.int .i64 (0:Int),.int .i64 (0:Int),.int .i64 (0:Int),.int .i64 (0:Int),.int .i64 (0:Int),.int .i64 (0:Int),.int .i64 (0:Int),.int .i64 (0:Int),.int .i64 (0:Int)]) (l:=[(0:Int),(0:Int),(0:Int),(0:Int),(0:Int),(0:Int),(0:Int),(0:Int),(0:Int)]) zr (by kernel_rfl)
  obtain⟨h17,Kw,Dk⟩:=I8 (q:=0) (l:=([(0:Int),(0:Int),(0:Int),(0:Int),(0:Int),(0:Int),(0:Int),(0:Int),(0:Int)])) (l':=[i64.wrap (v9+(1:Int)),(0:Int),(0:Int),(0:Int),(0:Int),(0:Int),(0:Int),(0:Int),(0:Int)]) (x:=.agg [.int .i64 (i64.wrap (v9+(1:Int))),.int .i64 (0:Int),.int .i64 (0:Int),.int .i64 (0:Int),.int .i64 (0:Int),.int .i64 (0:Int),.int .i64 (0:Int),.int .i64 (0:Int),.int .i64 (0:Int)]) uy Dl rfl rfl rfl
  refine qr [.v 2 (bo (k:=.i64) (E:=af) (l:=dk) (q:=2) gK zr rfl Hi),.v 3 (dF  (E:=af) (l:=dk) (q:=2) zr rfl A3 Hi rfl),.a 6 Ky,.w 7 Kw] <| qq <| qq <| q0 <| qb 8 ?_
  obtain⟨L3,TA,H⟩:=bh H
  refine ql (ax.EZ L aJ aI gA dk jk gA jd il fH dz x9 il v8 iZ   ([i64.wrap (v9+(1:Int)),(0:Int),(0:Int),(0:Int),(0:Int),(0:Int),(0:Int),(0:Int),(0:Int)],(0:Int)) _ _ ⟨h17,by kernel_rfl,Dk⟩ TA) ?_
  rintro e s ⟨rfl,k1,AJ,rfl,g13,g14,g15,g16,h20,rfl,CN⟩
  try dsimp only at H
  refine qq <| qq ?_
  obtain⟨r0,TB,H⟩:=bh H
  refine qr [.v 1 (show bm Try.prog h20 115 (.ptr iZ 0)=some (.agg (af.l k1)) from vB (q:=0) (l:=k1) uy CN rfl),.v 2 (show fQ Try.prog h20 113 (.mp jd) (.agg (af.l k1)) true=some (.tup [.int .i64 r0.1,.bool r0.2]) from (I5 (q:=2) (l:=fH) (k:=k1) Ax CN rfl TB).1)] <| qq <| q0 <| qc H (fun c7 H=>?_) (fun c7 H=>?_)
  ·obtain⟨JN,TC,H⟩:=bh H
   obtain⟨h21,TD,Ih⟩:=N7 (q:=2) (l:=fH) (k:=k1) (v:=(fH.length:Int)) Ax CN rfl TC
   refine qr [.v 1 (show bm Try.prog h20 115 (.ptr iZ 0)=some (.agg (af.l k1)) from vB (q:=0) (l:=k1) uy CN rfl),.v 3 (show rJ Try.prog h20 113 (.mp jd)=some (.int .i64 (fH.length:Int)) from I6 (q:=2) (l:=fH) Ez CN rfl),.w 4 TD] ?_
   obtain⟨r1,TE,H⟩:=bh H
   obtain⟨M0,RA,H⟩:=bh H
   obtain⟨h22,TF,L7⟩:=fF (P:=Try.prog) (tf:=3) (E:=af) (l:=dz) (q:=1) (v:=r1.1) (x:=.int .i64 r1.1) Ih rfl Z3 RA rfl rfl
   refine qr [.v 3 (show bm Try.prog h21 115 (.ptr iZ 0)=some (.agg (af.l k1)) from vB (q:=0) (l:=k1) uy Ih rfl),.v 4 (show fQ Try.prog h21 113 (.mp jd) (.agg (af.l k1)) false=some (.int .i64 r1.1) from (I5 (q:=2) (l:=JN) (k:=k1) Ax Ih rfl TE).2),.v 5 (bo (k:=.i64) (E:=af) (l:=dz) (q:=1) gK Ih rfl RA),.w 6 TF] ?_
   have Py:Has h22 ((il,.sl dz.length 1 (af.l (dz.set x9.toNat r1.1)))::(jd,.mp (tH JN))::(gA,.sl dk.length 1 (af.l dk))::(aI,.ob [ah.fz aJ])::L):=Has.del L7 0
   exact q0 <| ⟨(JN,dz.set x9.toNat r1.1,i64.wrap (x9+(1:Int))),⟨il,h22,(W8 (b:=⟨.any :: .ptr aI 0::sv (.rs gA 0 dk.length 1 :: .int .i64 jk :: .any :: .any :: .mp jd :: .rs il 0 dz.length 1::vD (ah.fz aJ :: .int .i64 (aJ.length:Int) :: .int .i64 (i64.wrap (x9+(1:Int)))::H9 [])),[none],h22⟩) (by kernel_rfl) (by simp only [VG])),(by have o:Has h22 ((il,.sl dz.length 1 (af.l (dz.set x9.toNat r1.1)))::(jd,.mp (tH JN))::(gA,.sl dk.length 1 (af.l dk))::(aI,.ob [ah.fz aJ])::L):=Py; simpa only [VG] using o)⟩,H⟩
  ·refine qk ?_
   obtain⟨r2,TG,H⟩:=bh H
   obtain⟨Ty,RB,H⟩:=bh H
   obtain⟨h23,TH,Pz⟩:=fF (P:=Try.prog) (tf:=3) (E:=af) (l:=dz) (q:=1) (v:=r2.1) (x:=.int .i64 r2.1) CN rfl Z3 RB rfl rfl
   refine qr [.v 3 (show bm Try.prog h20 115 (.ptr iZ 0)=some (.agg (af.l k1)) from vB (q:=0) (l:=k1) uy CN rfl),.v 4 (show fQ Try.prog h20 113 (.mp jd) (.agg (af.l k1)) false=some (.int .i64 r2.1) from (I5 (q:=2) (l:=fH) (k:=k1) Ax CN rfl TG).2),.v 5 (bo (k:=.i64) (E:=af) (l:=dz) (q:=1) gK CN rfl RB),.w 6 TH] ?_
   have RC:Has h23 ((il,.sl dz.length 1 (af.l (dz.set x9.toNat r2.1)))::(jd,.mp (tH fH))::(gA,.sl dk.length 1 (af.l dk))::(aI,.ob [ah.fz aJ])::L):=Has.del Pz 0
   exact q0 <| ⟨(fH,dz.set x9.toNat r2.1,i64.wrap (x9+(1:Int))),⟨il,h23,(W8 (b:=⟨.any :: .ptr aI 0::sv (.rs gA 0 dk.length 1 :: .int .i64 jk :: .any :: .any :: .mp jd :: .rs il 0 dz.length 1::vD (ah.fz aJ :: .int .i64 (aJ.length:Int) :: .int .i64 (i64.wrap (x9+(1:Int)))::H9 [])),[none],h23⟩) (by kernel_rfl) (by simp only [VG])),(by have o:Has h23 ((il,.sl dz.length 1 (af.l (dz.set x9.toNat r2.1)))::(jd,.mp (tH fH))::(gA,.sl dk.length 1 (af.l dk))::(aI,.ob [ah.fz aJ])::L):=RC; simpa only [VG] using o)⟩,H⟩
 ·exact qx 6 <| ⟨rfl,fH,dz,x9,oi H,ah.fz aJ,.int .i64 (aJ.length:Int),.int .i64 x9,.bool (decide (x9<(aJ.length:Int))),il,h15,by kernel_rfl,zr⟩
theorem ax.sS (L:Mem)(aJ:List aq)(aI:Nat)   : dV Try.prog cf pd m (sub [1,1,1,1,1,1,1,0,0] (b7 Try.f72)) (fun k (σ:(List Int) × Int)=>ax.l2 m aJ k σ.1 σ.2) (fun σ s=>match σ with | (dk,jk)=>∃g8 g9 g10 g11 g12 gA h12,s=⟨.any :: .ptr aI 0 :: .any::g8 :: .any :: .rs gA 0 dk.length 1 :: .int .i64 jk::qP (g9::g10::g11::g12::tI []),[none],h12⟩∧Has h12 ((gA,.sl dk.length 1 (af.l dk))::(aI,.ob [ah.fz aJ])::L)) (fun out e s=>(e = .exit 4∧∃dk jk,.inr (dk,jk)=out∧∃vK EA Jq Hc E3 E4 JO JP gA h12,s=⟨.any::vK :: .any::EA :: .any::Jq::Hc::qP (E3::E4::JO::JP::tI []),[none],h12⟩∧Has h12 ((gA,.sl dk.length 1 (af.l dk))::(aI,.ob [ah.fz aJ])::L))∨(e = .ret∧∃r,.inl r=out∧ax.fin L r s)):=by
 refine me (fun _=>rfl) ?_
 rintro k ⟨dk,jk⟩ s out ⟨g8,g9,g10,g11,g12,gA,h12,rfl,vQ⟩ H
 have H:ax.l2 m aJ (k+1) dk jk=some out:=H
 refine qb 5 <| qq ?_
 obtain⟨jd,h13,Gi,nl⟩:=Eh vQ
 refine qr [.m 0 Gi] <| qq ?_
 obtain⟨x8,Gj,H⟩:=bh H
 obtain⟨Dh,h14,Hh,EV⟩:=vu (P:=Try.prog) (E:=af) (z:=(0:Int)) (zv:=.int .i64 (0:Int)) gK nl 3 rfl rfl rfl rfl Gj
 refine qr [.v 0 (show bm Try.prog h13 40 (.ptr aI 0)=some (ah.fz aJ) from bZ (q:=2) (cs:=[ah.fz aJ]) nl rfl (by kernel_rfl)),.a 2 Hh] <| qq <| qq <| qr [.v 0 (show bm Try.prog h14 40 (.ptr aI 0)=some (ah.fz aJ) from bZ (q:=3) (cs:=[ah.fz aJ]) EV rfl (by kernel_rfl))] <| qb 6 ?_
 obtain⟨L4,TI,H⟩:=bh H
 refine ql (ax.EY L aJ aI gA dk jk gA jd   (([]:List (List Int × Int)),x8,(0:Int)) _ _ ⟨Dh,h14,by kernel_rfl,EV⟩ TI) ?_
 rintro e s ⟨rfl,nH,mR,EE,rfl,g17,g18,g19,g20,kT,h24,rfl,Kz⟩
 try dsimp only at H
 refine qq <| qq <| qr [.v 1 (show rJ Try.prog h24 113 (.mp jd)=some (.int .i64 (nH.length:Int)) from I6 (q:=1) (l:=nH) Ez Kz rfl)] <| qc H (fun c8 H=>?_) (fun c8 H=>?_)
 ·refine q1 ?_
  have PA:Has h24 ((kT,.sl mR.length 1 (af.l mR))::(jd,.mp (tH nH))::(gA,.sl dk.length 1 (af.l dk))::L):=Has.del Kz 3
  have PB:Has h24 ((kT,.sl mR.length 1 (af.l mR))::(gA,.sl dk.length 1 (af.l dk))::L):=Has.del PA 1
  have PC:Has h24 ((gA,.sl dk.length 1 (af.l dk))::L):=Has.del PB 0
  exact qt <| Or.inr (⟨rfl,_,oi H,dC (.rs gA 0 dk.length 1) h24 (dB (H8 (E:=af) (l:=dk) (q:=0) PC rfl (fun _=>rfl)))⟩)
 ·refine qk <| qr [.v 2 (show rJ Try.prog h24 113 (.mp jd)=some (.int .i64 (nH.length:Int)) from I6 (q:=1) (l:=nH) Ez Kz rfl)] ?_
  have PD:Has h24 ((kT,.sl mR.length 1 (af.l mR))::(jd,.mp (tH nH))::(aI,.ob [ah.fz aJ])::L):=Has.del Kz 2
  have RD:Has h24 ((kT,.sl mR.length 1 (af.l mR))::(aI,.ob [ah.fz aJ])::L):=Has.del PD 1
  exact⟨(mR,i64.wrap ((nH.length:Int) - (1:Int))),⟨.any,.any,.any,.any,.any,kT,h24,by kernel_rfl,RD⟩,H⟩
theorem pe {aV:FuncId→b5}(ha:aV 72=pd)(EW:MZ cf m)(PE:Ry cf m)(PF:Ro cf m)(aJ:List aq)(h:AHeap)(L:Mem)  (o:Has h (L)){out:(List Int)}(H:ax.f m aJ=some out) :
  ∃r h',aZ Try.prog aV cf m 72 [ah.fz aJ] h=some (r,h')∧fA h' r (af.fz out):=by
 refine ar (fn:=Try.f72) ha Try.func72 (by kernel_rfl) (by kernel_rfl) ?_
 refine aH (Q:=fun s=>ax.fin L out s) (fun _ _ h=>h) ?_
 have H:_=some out:=H
 unfold ax.f at H
 show dp _ cf pd m _ ⟨ah.fz aJ::Og [],[none],h⟩ _
 refine qq ?_
 obtain⟨aI,h0,e0,o0⟩:=gw (cs:=[ah.fz aJ]) o (by kernel_rfl)
 refine qr [.a 0 e0] <| qq ?_
 obtain⟨x0,e1,H⟩:=bh H
 obtain⟨dR,h1,e2,o1⟩:=vu (P:=Try.prog) (E:=af) (z:=(0:Int)) (zv:=.int .i64 (0:Int)) gK o0 3 rfl rfl rfl rfl e1
 refine qr [.v 0 (show bm Try.prog h0 40 (.ptr aI 0)=some (ah.fz aJ) from bZ (q:=0) (cs:=[ah.fz aJ]) o0 rfl (by kernel_rfl)),.a 2 e2] <| qq <| qq <| q0 <| qb 0 ?_
 obtain⟨b4,e5,H⟩:=bh H
 refine ql (ax.di L aJ aI x0   (x0,(0:Int)) _ _ ⟨dR,h1,by kernel_rfl,o1⟩ e5) ?_
 rintro e s ⟨rfl,bY,x2,rfl,g0,g1,g2,cD,h4,rfl,o4⟩
 try dsimp only at H
 refine qq ?_
 obtain⟨x3,e6,H⟩:=bh H
 obtain⟨h5,e7,o5⟩:=PE _ _ _ e6 h4 _ _ _ (o4) 84 [.ptr aI 0] [.fp [ah.fz aJ] 0] rfl (fun h' tK y0 y1 r hr hx=>PF y0 y1 _ r hr h' tK hx) (fun h' K' o'=>iP (ai (dQ (q:=(K'.length+0)) o' (jt rfl) (ai (fy (E:=ah)) (ay))) (ay))) (fun h_=>iP (ai (gk (pure_cons (bL.bG (E:=ah) (l:=aJ)) (pure_nil))) (ay))) [.rs cD 0 bY.length 1,.fn 84 [.ptr aI 0]] (au (rfl) (au (rfl) (bE)))
 refine qr [.a 2 e7] <| qq ?_
 obtain⟨x4,e8,H⟩:=bh H
 obtain⟨eB,h6,e9,o6⟩:=vu (P:=Try.prog) (E:=af) (z:=(0:Int)) (zv:=.int .i64 (0:Int)) gK o5 3 rfl rfl rfl rfl e8
 refine qr [.v 0 (show bm Try.prog h5 40 (.ptr aI 0)=some (ah.fz aJ) from bZ (q:=1) (cs:=[ah.fz aJ]) o5 rfl (by kernel_rfl)),.a 2 e9] <| qq <| q0 <| qq <| qq <| q0 <| qb 2 ?_
 obtain⟨EX,Gh,H⟩:=bh H
 refine ql (ax.mK L aJ aI cD bY cD x3  EW (x4,(0:Int),(0:Int)) _ _ ⟨eB,h6,(W8 (b:=⟨.any :: .ptr aI 0 :: .any :: .rs cD 0 bY.length 1 :: .any :: .rs eB 0 x4.length 1 :: .int .i64 (0:Int)::qP (.rs cD 0 bY.length 1 :: .int .i64 (bY.length:Int) :: .int .i64 (0:Int)::vC []),[none],h6⟩) (by kernel_rfl) (by simp only [VG])),(by have o:Has h6 ((eB,.sl x4.length 1 (af.l x4))::(cD,.sl bY.length 1 (af.l x3))::(aI,.ob [ah.fz aJ])::L):=o6; simpa only [VG] using o)⟩ Gh) ?_
 rintro e s ⟨rfl,mP,many1,x7,rfl,g3,g4,g5,g6,g7,gC,h11,rfl,Di⟩
 try dsimp only at H
 refine qb 4 ?_
 have Dj:Has h11 ((gC,.sl mP.length 1 (af.l mP))::(aI,.ob [ah.fz aJ])::L):=Has.del Di 1
 obtain⟨L5,TJ,H⟩:=bh H
 refine ql (ax.sS L aJ aI   (mP,many1) _ _ ⟨g3,g4,g5,g6,g7,gC,h11,by kernel_rfl,Dj⟩ TJ) ?_
 rintro e s (⟨rfl,Pl,L6,rfl,g21,g22,g23,g24,Vh,Vi,Vj,Vk,ec,h25,rfl,RE⟩| ⟨rfl,r3,rfl,xC⟩)
 ·try dsimp only at H
  cases H
 ·try dsimp only at H
  obtain rfl:=oi H
  exact⟨.inl rfl,xC⟩
end
end Go.Proofs.Ytifafejidnjckaa
namespace Go.Proofs.Ytifafejidnjckaa
open Go Go.R
open Go.IntKind (i64 u64 u8 u32)
end Go.Proofs.Ytifafejidnjckaa
namespace Go.Proofs.Ytifafejidnjckaa
open Go Go.R
open Go.IntKind (i64 u64 u8 u32)
def Bo:b5:=gX [0,1,2,3,4,5,6] [2,4000005] [121,113,97,65,1,25,91,123] [] [(0,[(2,some 0,4)])]
def fq.f (m:Nat)(t0:br):Option (br):=(ax.f m t0.nodes).bind fun x0=>(aX.f m m t0.root ([]:List (Int × Int)) x0 (br.mk ([]:List aq) (0:Int)) t0).bind fun x1=>some x1.2.2
def fq.fin (L:Mem)  (r:br)(s:St):Prop:=∃(fc:Nat) (eP:List Nat),aM Try.prog (s.open Bo) Try.f46.results.toList=some (.agg [.rs fc 0 r.nodes.length 4,.int .i64 r.root])∧Has s.h ((fc,.sl r.nodes.length 4 (gj.l (bF r.nodes eP)))::(gd r.nodes eP++L))
def RF (cf:CallF)(m:Nat):Prop:=∀(t0:br) (r:br),fq.f m t0=some r→∀h L xs,Has h L→aO bR h xs [.agg [ah.fz t0.nodes,.int .i64 t0.root]]→∃(fc:Nat) (eP:List Nat) (h':AHeap),cf 46 xs h=some (.agg [.rs fc 0 r.nodes.length 4,.int .i64 r.root],h')∧Has h' ((fc,.sl r.nodes.length 4 (gj.l (bF r.nodes eP)))::(gd r.nodes eP++L))∧∀j,j<h.next→h.ver j=h'.ver j
section
variable {cf:CallF}{m:Nat}
theorem re {aV:FuncId→b5}(ha:aV 46=Bo)(PG:Rz cf m)(EF:MU cf m m)(t0:br)(h:AHeap)(L:Mem)  (o:Has h (L)){out:br}(H:fq.f m t0=some out) :
  ∃r h',aZ Try.prog aV cf m 46 [.agg [ah.fz t0.nodes,.int .i64 t0.root]] h=some (r,h')∧∃(fc:Nat) (eP:List Nat),r = .agg [.rs fc 0 out.nodes.length 4,.int .i64 out.root]∧Has h' ((fc,.sl out.nodes.length 4 (gj.l (bF out.nodes eP)))::(gd out.nodes eP++L)):=by
 refine ar (fn:=Try.f46) ha Try.func46 (by kernel_rfl) (by kernel_rfl) ?_
 refine aH (Q:=fun s=>fq.fin L out s) (fun _ _ ⟨h1,fc,eP,h2,h3⟩=>⟨h1,_,h2,fc,eP,rfl,h3⟩) ?_
 have H:_=some out:=H
 unfold fq.f at H
 show dp _ cf Bo m _ ⟨.agg [ah.fz t0.nodes,.int .i64 t0.root]::xo [],[none,none],h⟩ _
 refine qq ?_
 obtain⟨aI,h0,e0,o0⟩:=gw (cs:=[ah.fz t0.nodes,.int .i64 t0.root]) o (by kernel_rfl)
 refine qr [.a 0 e0] ?_
 have o1:Has h0 (((0),.sl (([]:List aq).length) 4 (gj.l (bF ([]:List aq) ([]:List Nat))))::(aI,.ob [ah.fz t0.nodes,.int .i64 t0.root])::L):=Has.nil o0 4
 refine qq ?_
 obtain⟨x0,e1,H⟩:=bh H
 obtain⟨dR,h1,e2,o2⟩:=gw (cs:=[.nils]) o1 (by kernel_rfl)
 obtain⟨h2,e3,o3⟩:=nF (P:=Try.prog) (t:=33) (off:=0) (q:=0) (cs:=[.nils]) (eY:=[af.fz x0]) (x:=af.fz x0) o2 rfl (by kernel_rfl)
 refine qr [.v 1 (show bm Try.prog h0 40 (.ptr aI 0)=some (ah.fz t0.nodes) from bZ (q:=1) (cs:=[ah.fz t0.nodes,.int .i64 t0.root]) o1 rfl (by kernel_rfl)),.a 2 (PG _ _ e1 h0 _ (gv (ai (fy (E:=ah)) (ay)))),.a 3 e2,.w 4 e3] <| qq ?_
 obtain⟨eS,h3,e4,o4⟩:=Eh o3
 obtain⟨cD,h4,e5,o5⟩:=gw (cs:=[.lT]) o4 (by kernel_rfl)
 obtain⟨h5,e6,o6⟩:=nF (P:=Try.prog) (t:=82) (off:=0) (q:=0) (cs:=[.lT]) (eY:=[.mp eS]) (x:=.mp eS) o5 rfl (by kernel_rfl)
 refine qr [.m 0 e4,.a 1 e5,.w 2 e6] <| qq ?_
 have o7:Has h5 ((((0)),.sl (([]:List aq).length) 4 (ah.l ([]:List aq)))::(cD,.ob [.mp eS])::(eS,.mp (oQ ([]:List (Int × Int))))::(dR,.ob [af.fz x0])::((0),.sl (([]:List aq).length) 4 (gj.l (bF ([]:List aq) ([]:List Nat))))::(aI,.ob [ah.fz t0.nodes,.int .i64 t0.root])::L):=Has.nil o6 4
 obtain⟨eB,h6,e7,o8⟩:=gw (cs:=[.rs ((0)) 0 (([]:List aq).length) 4,.int .i64 (0:Int)]) o7 (by kernel_rfl)
 refine qr [.a 0 e7] <| qq ?_
 obtain⟨fo,h7,e8,o9⟩:=gw (cs:=[.oo]) o8 (by kernel_rfl)
 refine qr [.a 0 e8] <| qq ?_
 obtain⟨h8,e9,xI⟩:=nF (P:=Try.prog) (t:=80) (off:=0) (q:=0) (cs:=[.oo]) (eY:=[.fn 73 [.ptr cD 0,.ptr dR 0,.ptr eB 0,.ptr aI 0,.ptr fo 0]]) (x:=.fn 73 [.ptr cD 0,.ptr dR 0,.ptr eB 0,.ptr aI 0,.ptr fo 0]) o9 rfl (by kernel_rfl)
 refine qr [.w 1 e9] <| qq ?_
 obtain⟨x1,tw,H⟩:=bh H
 obtain⟨gC,eP,h9,wv,Di⟩:=EF _ _ _ _ _ _ tw h8 _ _ _ _ _ _ ([]:List Nat) _ _ ((Has.front (Has.front (Has.front (Has.front (Has.front (Has.front (Has.front (Has.front xI 6 rfl) 1 rfl) 7 rfl) 4 rfl) 4 rfl) 7 rfl) 7 rfl) 7 rfl))  [.int .i64 t0.root,.ptr cD 0,.ptr dR 0,.ptr eB 0,.ptr aI 0,.ptr fo 0] (au (aL (bj)) (au (rfl) (au (rfl) (au (rfl) (au (rfl) (au (rfl) (bE)))))))
 have Dj:=Has.xz (pre:=[(cD,.ob [.mp eS]),(eS,.mp (oQ x1.2.1)),(dR,.ob [af.fz x0]),(eB,.ob [.rs gC 0 x1.2.2.nodes.length 4,.int .i64 x1.2.2.root]),(gC,.sl x1.2.2.nodes.length 4 (gj.l (bF x1.2.2.nodes eP))),(aI,.ob [ah.fz t0.nodes,.int .i64 t0.root]),(fo,.ob [.fn 73 [.ptr cD 0,.ptr dR 0,.ptr eB 0,.ptr aI 0,.ptr fo 0]])]) (N:=[((0),.sl (([]:List aq).length) 4 (gj.l (bF ([]:List aq) ([]:List Nat))))]) (mid:=gd x1.2.2.nodes eP) Di
 refine qr [.v 0 (show bm Try.prog h8 80 (.ptr fo 0)=some (.fn 73 [.ptr cD 0,.ptr dR 0,.ptr eB 0,.ptr aI 0,.ptr fo 0]) from bZ (q:=0) (cs:=[.fn 73 [.ptr cD 0,.ptr dR 0,.ptr eB 0,.ptr aI 0,.ptr fo 0]]) xI rfl (by kernel_rfl)),.v 2 (show bm Try.prog h8 3 (.ptr aI 1)=some (.int .i64 t0.root) from bZ (q:=7) (cs:=[ah.fz t0.nodes,.int .i64 t0.root]) xI rfl (by kernel_rfl)),.a 3 wv] ?_
 have vQ:Has h9 ((cD,.ob [.mp eS])::(eS,.mp (oQ x1.2.1))::(dR,.ob [af.fz x0])::(eB,.ob [.rs gC 0 x1.2.2.nodes.length 4,.int .i64 x1.2.2.root])::(gC,.sl x1.2.2.nodes.length 4 (gj.l (bF x1.2.2.nodes eP)))::(aI,.ob [ah.fz t0.nodes,.int .i64 t0.root])::((0),.sl (([]:List aq).length) 4 (gj.l (bF ([]:List aq) ([]:List Nat))))::(gd x1.2.2.nodes eP++L)):=Has.del Dj 6
 have nl:Has h9 ((cD,.ob [.mp eS])::(eS,.mp (oQ x1.2.1))::(dR,.ob [af.fz x0])::(eB,.ob [.rs gC 0 x1.2.2.nodes.length 4,.int .i64 x1.2.2.root])::(gC,.sl x1.2.2.nodes.length 4 (gj.l (bF x1.2.2.nodes eP)))::((0),.sl (([]:List aq).length) 4 (gj.l (bF ([]:List aq) ([]:List Nat))))::(gd x1.2.2.nodes eP++L)):=Has.del vQ 5
 have EV:Has h9 ((cD,.ob [.mp eS])::(eS,.mp (oQ x1.2.1))::(eB,.ob [.rs gC 0 x1.2.2.nodes.length 4,.int .i64 x1.2.2.root])::(gC,.sl x1.2.2.nodes.length 4 (gj.l (bF x1.2.2.nodes eP)))::((0),.sl (([]:List aq).length) 4 (gj.l (bF ([]:List aq) ([]:List Nat))))::(gd x1.2.2.nodes eP++L)):=Has.del nl 2
 have zr:Has h9 ((cD,.ob [.mp eS])::(eB,.ob [.rs gC 0 x1.2.2.nodes.length 4,.int .i64 x1.2.2.root])::(gC,.sl x1.2.2.nodes.length 4 (gj.l (bF x1.2.2.nodes eP)))::((0),.sl (([]:List aq).length) 4 (gj.l (bF ([]:List aq) ([]:List Nat))))::(gd x1.2.2.nodes eP++L)):=Has.del EV 1
 have Dl:Has h9 ((eB,.ob [.rs gC 0 x1.2.2.nodes.length 4,.int .i64 x1.2.2.root])::(gC,.sl x1.2.2.nodes.length 4 (gj.l (bF x1.2.2.nodes eP)))::((0),.sl (([]:List aq).length) 4 (gj.l (bF ([]:List aq) ([]:List Nat))))::(gd x1.2.2.nodes eP++L)):=Has.del zr 0
 refine qs [.v 0 (show bm Try.prog h9 42 (.ptr eB 0)=some (.agg [.rs gC 0 x1.2.2.nodes.length 4,.int .i64 x1.2.2.root]) from bZ (q:=0) (cs:=[.rs gC 0 x1.2.2.nodes.length 4,.int .i64 x1.2.2.root]) Dl rfl (by kernel_rfl))] ?_
 have Dk:Has h9 ((eB,.ob [.rs gC 0 x1.2.2.nodes.length 4,.int .i64 x1.2.2.root])::(gC,.sl x1.2.2.nodes.length 4 (gj.l (bF x1.2.2.nodes eP)))::(gd x1.2.2.nodes eP++L)):=Has.del Dl 2
 have CL:Has h9 ((gC,.sl x1.2.2.nodes.length 4 (gj.l (bF x1.2.2.nodes eP)))::(gd x1.2.2.nodes eP++L)):=Has.del Dk 0
 obtain rfl:=oi H
 exact qt <| ⟨.inl rfl,⟨gC,eP,by kernel_rfl,he CL⟩⟩
end
end Go.Proofs.Ytifafejidnjckaa
namespace Go.Proofs.Ytifafejidnjckaa
open Go Go.R
open Go.IntKind (i64 u64 u8 u32)
def Bp:b5:=gX [0,1,2,3,6] [1,2] [25,9,19,19] [] [(0,[(2,some 0,4)]),(2,[(2,some 0,4)])]
def fZ.f (m:Nat)(t0:br):Option (br × Int):=(gO.f m t0).bind fun x0=>if (!x0)=true then (some ((br.mk ([]:List aq) (0:Int)),(2:Int))) else ((fq.f m t0).bind fun x1=>some (x1,(0:Int)))
def fZ.fin (L:Mem)  (r:br × Int)(s:St):Prop:=∃(fc:Nat) (eP:List Nat),aM Try.prog (s.open Bp) Try.f43.results.toList=some (.tup [.agg [.rs fc 0 r.1.nodes.length 4,.int .i64 r.1.root],.int .i64 r.2])∧Has s.h ((fc,.sl r.1.nodes.length 4 (gj.l (bF r.1.nodes eP)))::(gd r.1.nodes eP++L))
def RG (cf:CallF)(m:Nat):Prop:=∀(t0:br) (r:br × Int),fZ.f m t0=some r→∀h L xs,Has h L→aO bR h xs [.agg [ah.fz t0.nodes,.int .i64 t0.root]]→∃(fc:Nat) (eP:List Nat) (h':AHeap),cf 43 xs h=some (.tup [.agg [.rs fc 0 r.1.nodes.length 4,.int .i64 r.1.root],.int .i64 r.2],h')∧Has h' ((fc,.sl r.1.nodes.length 4 (gj.l (bF r.1.nodes eP)))::(gd r.1.nodes eP++L))∧∀j,j<h.next→h.ver j=h'.ver j
section
variable {cf:CallF}{m:Nat}
theorem rf {aV:FuncId→b5}(ha:aV 43=Bp)(PH:Rx cf m)(PI:RF cf m)(t0:br)(h:AHeap)(L:Mem)  (o:Has h (L)){out:br × Int}(H:fZ.f m t0=some out) :
  ∃r h',aZ Try.prog aV cf m 43 [.agg [ah.fz t0.nodes,.int .i64 t0.root]] h=some (r,h')∧∃(fc:Nat) (eP:List Nat),r = .tup [.agg [.rs fc 0 out.1.nodes.length 4,.int .i64 out.1.root],.int .i64 out.2]∧Has h' ((fc,.sl out.1.nodes.length 4 (gj.l (bF out.1.nodes eP)))::(gd out.1.nodes eP++L)):=by
 refine ar (fn:=Try.f43) ha Try.func43 (by kernel_rfl) (by kernel_rfl) ?_
 refine aH (Q:=fun s=>fZ.fin L out s) (fun _ _ ⟨h1,fc,eP,h2,h3⟩=>⟨h1,_,h2,fc,eP,rfl,h3⟩) ?_
 have H:_=some out:=H
 unfold fZ.f at H
 show dp _ cf Bp m _ ⟨.agg [ah.fz t0.nodes,.int .i64 t0.root]::og [],[none,none],h⟩ _
 refine q1 ?_
 have o0:Has h (((0),.sl (([]:List aq).length) 4 (gj.l (bF ([]:List aq) ([]:List Nat))))::L):=Has.nil o 4
 refine qq <| qq ?_
 obtain⟨x0,e0,H⟩:=bh H
 refine qr [.a 1 (PH _ _ e0 h _ (gv (ai (jS (ai (fy (E:=ah)) (ai (bB) (ay)))) (ay))))] <| qc H (fun c0 H=>?_) (fun c0 H=>?_)
 ·refine q1 ?_
  have o1:Has h ((((0)),.sl (([]:List aq).length) 4 (gj.l (bF ([]:List aq) ([]:List Nat))))::((0),.sl (([]:List aq).length) 4 (gj.l (bF ([]:List aq) ([]:List Nat))))::L):=Has.nil o0 4
  have o2:Has h ((((0)),.sl (([]:List aq).length) 4 (gj.l (bF ([]:List aq) ([]:List Nat))))::L):=Has.del o1 1
  obtain rfl:=oi H
  exact qt <| ⟨.inl rfl,⟨((0)),([]:List Nat),by kernel_rfl,he o2⟩⟩
 ·refine qk <| qq ?_
  obtain⟨x1,e1,H⟩:=bh H
  obtain⟨aI,cF,h0,e2,o3,IA⟩:=PI _ _ e1 h _ _ o0 (gv (ai (jS (ai (fy (E:=ah)) (ai (bB) (ay)))) (ay)))
  have o4:=Has.xz (pre:=[(aI,.sl x1.nodes.length 4 (gj.l (bF x1.nodes cF)))]) (N:=[((0),.sl (([]:List aq).length) 4 (gj.l (bF ([]:List aq) ([]:List Nat))))]) (mid:=gd x1.nodes cF) o3
  refine qr [.a 1 e2] ?_
  have o5:Has h0 ((aI,.sl x1.nodes.length 4 (gj.l (bF x1.nodes cF)))::(gd x1.nodes cF++L)):=Has.del o4 1
  obtain rfl:=oi H
  exact qt <| ⟨.inl rfl,⟨aI,cF,by kernel_rfl,he o5⟩⟩
end
end Go.Proofs.Ytifafejidnjckaa
namespace Go.Proofs.Ytifafejidnjckaa
open Go Go.R
open Go.IntKind (i64 u64 u8 u32)
end Go.Proofs.Ytifafejidnjckaa
namespace Go.Proofs.Ytifafejidnjckaa
open Go Go.R
open Go.IntKind (i64 u64 u8 u32)
def sW:b5:=gX [0,1,3,4,5,6,7,8,9,10,11,14,21,33,35,36,37,38,44,51,52,53] [3,6,10] [4194298,4192250,4194279,4194206,4190110,4194279,4194142,4185950,4194279,4079486,3948414,4078718,3816574,4078718,2505854,408702,2504830,2505854,2505854,4079486,4079486,4194279] [(19,[(10,some 3,0)])] [(3,[(6,some 0,4)]),(11,[(10,some 3,1)])]
def aC.l1 (m:Nat)(s0:ab)(v0:aq):Nat→Int→(List Int)→ab→Option (Int × (List Int) × ab)
 | 0,_,_,_=>none
 | k+1,x3,n0,s2=>if (decide (x3<(v0.args.length:Int)))=true then ((ix n0 x3).bind fun v1=>(ix n0 x3).bind fun v2=>aC.l1 m s0 v0 k (i64.wrap (x3+(1:Int))) (n0.set x3.toNat (i64.wrap (v1+(s0.aa.length:Int)))) s2) else (some ((x3,n0,s2)))
def aC.l2 (m:Nat)(s0:ab)(v0:aq):Nat→Int→(List Int)→ab→Option (Int × (List Int) × ab)
 | 0,_,_,_=>none
 | k+1,x7,n2,s4=>if (decide (x7<(v0.args.length:Int)))=true then ((ix n2 x7).bind fun v3=>(ix n2 x7).bind fun v4=>aC.l2 m s0 v0 k (i64.wrap (x7+(1:Int))) (n2.set x7.toNat (i64.wrap (v3+(s0.aa.length:Int)))) s4) else (some ((x7,n2,s4)))
def aC.l0 (m:Nat)(s0:ab)(x1:br × Int):Nat→Int→ab→Option (Int × ab)
 | 0,_,_=>none
 | k+1,x2,s1=>if (decide (x2<(x1.1.nodes.length:Int)))=true then ((ix x1.1.nodes x2).bind fun v0=>if (v0.kind==(0:Int))=true then ((aC.l1 m s0 v0 m (0:Int) v0.args s1).bind fun b4=>match b4 with | (x4,n1,s3)=>(app 56 s3.aa ([(aq.mk v0.kind (i64.wrap ((s0.aa.length:Int)+x2)) v0.label n1)])).bind fun x5=>(app 8 s3.ae ([i64.wrap ((s0.aa.length:Int)+x2)])).bind fun x6=>aC.l0 m s0 x1 k (i64.wrap (x2+(1:Int))) (ab.mk s3.aj x5 x6)) else ((aC.l2 m s0 v0 m (0:Int) v0.args s1).bind fun dv=>match dv with | (x8,n3,s5)=>(app 56 s5.aa ([(aq.mk v0.kind v0.int v0.label n3)])).bind fun x9=>(app 8 s5.ae ([i64.wrap ((s0.aa.length:Int)+x2)])).bind fun kB=>aC.l0 m s0 x1 k (i64.wrap (x2+(1:Int))) (ab.mk s5.aj x9 kB))) else (some ((x2,s1)))
def aC.f (m:Nat)(s0:ab)(t0:br):Option (Int × Int × ab):=(bH.f m s0).bind fun x0=>if (!x0)=true then (some ((0:Int),(6:Int),s0)) else ((fZ.f m t0).bind fun x1=>if (!(x1.2==(0:Int)))=true then (some ((0:Int),x1.2,s0)) else (if (decide ((i64.wrap ((s0.aa.length:Int)+(x1.1.nodes.length:Int))) > (8000:Int)))=true then (some ((0:Int),(7:Int),s0)) else ((aC.l0 m s0 x1 m (0:Int) s0).bind fun mP=>match mP with | (AJ,s6)=>some ((s0.aa.length:Int),(0:Int),s6))))
def aC.fin (L:Mem)(ao:Nat)(ak:Nat)(an:Nat)(s0:ab)(t0:br)(r:Int × Int × ab)(s:St):Prop:=∃aA aB:Nat,aM Try.prog (s.open sW) Try.f36.results.toList=some (.tup [.int .i64 r.1,.int .i64 r.2.1])∧Has s.h ((ao,.ob [.bool r.2.2.aj,.rs aA 0 r.2.2.aa.length 4,.rs aB 0 r.2.2.ae.length 1])::(aA,.sl r.2.2.aa.length 4 (ah.l r.2.2.aa))::(aB,.sl r.2.2.ae.length 1 (af.l r.2.2.ae))::L)
def RH (cf:CallF)(m:Nat):Prop:=∀(s0:ab) (t0:br) (r:Int × Int × ab),aC.f m s0 t0=some r→∀h L (ao:Nat) (ak:Nat) (an:Nat),Has h ((ao,.ob [.bool s0.aj,.rs ak 0 s0.aa.length 4,.rs an 0 s0.ae.length 1])::(ak,.sl s0.aa.length 4 (ah.l s0.aa))::(an,.sl s0.ae.length 1 (af.l s0.ae))::L)→∀xs,xs.map aK=[.ptr ao 0,.agg [ah.fz t0.nodes,.int .i64 t0.root]]→∃aA aB h',cf 36 xs h=some (.tup [.int .i64 r.1,.int .i64 r.2.1],h')∧Has h' ((ao,.ob [.bool r.2.2.aj,.rs aA 0 r.2.2.aa.length 4,.rs aB 0 r.2.2.ae.length 1])::(aA,.sl r.2.2.aa.length 4 (ah.l r.2.2.aa))::(aB,.sl r.2.2.ae.length 1 (af.l r.2.2.ae))::L)
section
variable {cf:CallF}{m:Nat}
theorem aC.mK (L:Mem)(ao:Nat)(ak:Nat)(an:Nat)(s0:ab)(t0:br)(x1:br × Int)(aI:Nat)(cF:List Nat)(x2:Int)(v0:aq)   : dV Try.prog cf sW m (sub [1,1,1,1,1,1,0,1,0,0,1,1,0,0,1,1,0,1,0,0] (b7 Try.f36)) (fun k (σ:Int × (List Int) × ab)=>aC.l1 m s0 v0 k σ.1 σ.2.1 σ.2.2) (fun σ s=>match σ with | (x3,n0,s2)=>∃cD eB fo h2,s=⟨.ptr ao 0::xo (.int .i64 (s0.aa.length:Int) :: .int .i64 x2 :: .lp 10 0::og [.rs aI 0 x1.1.nodes.length 4,.int .i64 (x1.1.nodes.length:Int),.int .i64 x2,.any,.any,.int .i64 (v0.args.length:Int),.int .i64 x3,.any]),[none,none,some [.int .i64 v0.kind,.int .i64 (i64.wrap ((s0.aa.length:Int)+x2)),.str v0.label,.rs cD 0 n0.length 1]],h2⟩∧Has h2 ((cD,.sl n0.length 1 (af.l n0))::(aI,.sl x1.1.nodes.length 4 (gj.l (bF x1.1.nodes cF)))::(ao,.ob [.bool s2.aj,.rs eB 0 s2.aa.length 4,.rs fo 0 s2.ae.length 1])::(eB,.sl s2.aa.length 4 (ah.l s2.aa))::(fo,.sl s2.ae.length 1 (af.l s2.ae))::(gd (x1.1.nodes.drop ((i64.wrap (x2+(1:Int))).toNat)) (cF.drop ((i64.wrap (x2+(1:Int))).toNat))++L))) (fun out e s=>(e = .exit 2∧∃x3 n0 s2,(x3,n0,s2)=out∧∃JQ JR EG cD eB fo h2,s=⟨.ptr ao 0::xo (.int .i64 (s0.aa.length:Int) :: .int .i64 x2 :: .lp 10 0::og [.rs aI 0 x1.1.nodes.length 4,.int .i64 (x1.1.nodes.length:Int),.int .i64 x2,.any,.any,JQ,JR,EG]),[none,none,some [.int .i64 v0.kind,.int .i64 (i64.wrap ((s0.aa.length:Int)+x2)),.str v0.label,.rs cD 0 n0.length 1]],h2⟩∧Has h2 ((cD,.sl n0.length 1 (af.l n0))::(aI,.sl x1.1.nodes.length 4 (gj.l (bF x1.1.nodes cF)))::(ao,.ob [.bool s2.aj,.rs eB 0 s2.aa.length 4,.rs fo 0 s2.ae.length 1])::(eB,.sl s2.aa.length 4 (ah.l s2.aa))::(fo,.sl s2.ae.length 1 (af.l s2.ae))::(gd (x1.1.nodes.drop ((i64.wrap (x2+(1:Int))).toNat)) (cF.drop ((i64.wrap (x2+(1:Int))).toNat))++L)))):=by
 refine me (fun _=>rfl) ?_
 rintro k ⟨x3,n0,s2⟩ s out ⟨cD,eB,fo,h2,rfl,o6⟩ H
 have H:aC.l1 m s0 v0 (k+1) x3 n0 s2=some out:=H
 refine q1 <| qq <| qc H (fun c5 H=>?_) (fun c5 H=>?_)
 ·refine qk <| qq <| qb 3 <| qq <| q0 ?_
  obtain⟨v1,e4,H⟩:=bh H
  obtain⟨v2,e5,H⟩:=bh H
  obtain⟨h3,e6,o7⟩:=fF (P:=Try.prog) (tf:=3) (E:=af) (l:=n0) (q:=0) (v:=(i64.wrap (v1+(s0.aa.length:Int)))) (x:=.int .i64 (i64.wrap (v1+(s0.aa.length:Int)))) o6 rfl Z3 e5 rfl rfl
  exact qr [.v 3 (bo (k:=.i64) (E:=af) (l:=n0) (q:=0) gK o6 rfl e4),.v 4 (dF  (E:=af) (l:=n0) (q:=0) o6 rfl A3 e4 rfl),.v 7 (bo (k:=.i64) (E:=af) (l:=n0) (q:=0) gK o6 rfl e5),.w 8 e6] <| q0 <| ⟨(i64.wrap (x3+(1:Int)),n0.set x3.toNat (i64.wrap (v1+(s0.aa.length:Int))),s2),⟨cD,eB,fo,h3,(W8 (b:=⟨.ptr ao 0::xo (.int .i64 (s0.aa.length:Int) :: .int .i64 x2 :: .lp 10 0::og [.rs aI 0 x1.1.nodes.length 4,.int .i64 (x1.1.nodes.length:Int),.int .i64 x2,.any,.any,.int .i64 (v0.args.length:Int),.int .i64 (i64.wrap (x3+(1:Int))),.any]),[none,none,some [.int .i64 v0.kind,.int .i64 (i64.wrap ((s0.aa.length:Int)+x2)),.str v0.label,.rs cD 0 n0.length 1]],h3⟩) (by kernel_rfl) (by simp only [VG])),(by have o:Has h3 ((cD,.sl n0.length 1 (af.l (n0.set x3.toNat (i64.wrap (v1+(s0.aa.length:Int))))))::(aI,.sl x1.1.nodes.length 4 (gj.l (bF x1.1.nodes cF)))::(ao,.ob [.bool s2.aj,.rs eB 0 s2.aa.length 4,.rs fo 0 s2.ae.length 1])::(eB,.sl s2.aa.length 4 (ah.l s2.aa))::(fo,.sl s2.ae.length 1 (af.l s2.ae))::(gd (x1.1.nodes.drop ((i64.wrap (x2+(1:Int))).toNat)) (cF.drop ((i64.wrap (x2+(1:Int))).toNat))++L)):=o7; simpa only [VG] using o)⟩,H⟩
 ·exact qx 2 <| ⟨rfl,x3,n0,s2,oi H,.int .i64 (v0.args.length:Int),.int .i64 x3,.bool (decide (x3<(v0.args.length:Int))),cD,eB,fo,h2,by kernel_rfl,o6⟩
theorem aC.sS (L:Mem)(ao:Nat)(ak:Nat)(an:Nat)(s0:ab)(t0:br)(x1:br × Int)(aI:Nat)(cF:List Nat)(x2:Int)(v0:aq)   : dV Try.prog cf sW m (sub [1,1,1,1,1,1,0,1,0,0,1,1,0,0,1,1,0,1,0,0] (b7 Try.f36)) (fun k (σ:Int × (List Int) × ab)=>aC.l2 m s0 v0 k σ.1 σ.2.1 σ.2.2) (fun σ s=>match σ with | (x7,n2,s4)=>∃iZ kT ec h10,s=⟨.ptr ao 0::xo (.int .i64 (s0.aa.length:Int) :: .int .i64 x2 :: .lp 10 0::og [.rs aI 0 x1.1.nodes.length 4,.int .i64 (x1.1.nodes.length:Int),.int .i64 x2,.any,.any,.int .i64 (v0.args.length:Int),.int .i64 x7,.any]),[none,none,some [.int .i64 v0.kind,.int .i64 v0.int,.str v0.label,.rs iZ 0 n2.length 1]],h10⟩∧Has h10 ((iZ,.sl n2.length 1 (af.l n2))::(aI,.sl x1.1.nodes.length 4 (gj.l (bF x1.1.nodes cF)))::(ao,.ob [.bool s4.aj,.rs kT 0 s4.aa.length 4,.rs ec 0 s4.ae.length 1])::(kT,.sl s4.aa.length 4 (ah.l s4.aa))::(ec,.sl s4.ae.length 1 (af.l s4.ae))::(gd (x1.1.nodes.drop ((i64.wrap (x2+(1:Int))).toNat)) (cF.drop ((i64.wrap (x2+(1:Int))).toNat))++L))) (fun out e s=>(e = .exit 2∧∃x7 n2 s4,(x7,n2,s4)=out∧∃JQ JR EG iZ kT ec h10,s=⟨.ptr ao 0::xo (.int .i64 (s0.aa.length:Int) :: .int .i64 x2 :: .lp 10 0::og [.rs aI 0 x1.1.nodes.length 4,.int .i64 (x1.1.nodes.length:Int),.int .i64 x2,.any,.any,JQ,JR,EG]),[none,none,some [.int .i64 v0.kind,.int .i64 v0.int,.str v0.label,.rs iZ 0 n2.length 1]],h10⟩∧Has h10 ((iZ,.sl n2.length 1 (af.l n2))::(aI,.sl x1.1.nodes.length 4 (gj.l (bF x1.1.nodes cF)))::(ao,.ob [.bool s4.aj,.rs kT 0 s4.aa.length 4,.rs ec 0 s4.ae.length 1])::(kT,.sl s4.aa.length 4 (ah.l s4.aa))::(ec,.sl s4.ae.length 1 (af.l s4.ae))::(gd (x1.1.nodes.drop ((i64.wrap (x2+(1:Int))).toNat)) (cF.drop ((i64.wrap (x2+(1:Int))).toNat))++L)))):=by
 refine me (fun _=>rfl) ?_
 rintro k ⟨x7,n2,s4⟩ s out ⟨iZ,kT,ec,h10,rfl,nl⟩ H
 have H:aC.l2 m s0 v0 (k+1) x7 n2 s4=some out:=H
 refine q1 <| qq <| qc H (fun c6 H=>?_) (fun c6 H=>?_)
 ·refine qk <| qq <| qb 3 <| qq <| q0 ?_
  obtain⟨v3,A6,H⟩:=bh H
  obtain⟨v4,ER,H⟩:=bh H
  obtain⟨h11,ES,EV⟩:=fF (P:=Try.prog) (tf:=3) (E:=af) (l:=n2) (q:=0) (v:=(i64.wrap (v3+(s0.aa.length:Int)))) (x:=.int .i64 (i64.wrap (v3+(s0.aa.length:Int)))) nl rfl Z3 ER rfl rfl
  exact qr [.v 3 (bo (k:=.i64) (E:=af) (l:=n2) (q:=0) gK nl rfl A6),.v 4 (dF  (E:=af) (l:=n2) (q:=0) nl rfl A3 A6 rfl),.v 7 (bo (k:=.i64) (E:=af) (l:=n2) (q:=0) gK nl rfl ER),.w 8 ES] <| q0 <| ⟨(i64.wrap (x7+(1:Int)),n2.set x7.toNat (i64.wrap (v3+(s0.aa.length:Int))),s4),⟨iZ,kT,ec,h11,(W8 (b:=⟨.ptr ao 0::xo (.int .i64 (s0.aa.length:Int) :: .int .i64 x2 :: .lp 10 0::og [.rs aI 0 x1.1.nodes.length 4,.int .i64 (x1.1.nodes.length:Int),.int .i64 x2,.any,.any,.int .i64 (v0.args.length:Int),.int .i64 (i64.wrap (x7+(1:Int))),.any]),[none,none,some [.int .i64 v0.kind,.int .i64 v0.int,.str v0.label,.rs iZ 0 n2.length 1]],h11⟩) (by kernel_rfl) (by simp only [VG])),(by have o:Has h11 ((iZ,.sl n2.length 1 (af.l (n2.set x7.toNat (i64.wrap (v3+(s0.aa.length:Int))))))::(aI,.sl x1.1.nodes.length 4 (gj.l (bF x1.1.nodes cF)))::(ao,.ob [.bool s4.aj,.rs kT 0 s4.aa.length 4,.rs ec 0 s4.ae.length 1])::(kT,.sl s4.aa.length 4 (ah.l s4.aa))::(ec,.sl s4.ae.length 1 (af.l s4.ae))::(gd (x1.1.nodes.drop ((i64.wrap (x2+(1:Int))).toNat)) (cF.drop ((i64.wrap (x2+(1:Int))).toNat))++L)):=EV; simpa only [VG] using o)⟩,H⟩
 ·exact qx 2 <| ⟨rfl,x7,n2,s4,oi H,.int .i64 (v0.args.length:Int),.int .i64 x7,.bool (decide (x7<(v0.args.length:Int))),iZ,kT,ec,h10,by kernel_rfl,nl⟩
theorem aC.di (L:Mem)(ao:Nat)(ak:Nat)(an:Nat)(s0:ab)(t0:br)(x1:br × Int)(aI:Nat)(cF:List Nat)   : dV Try.prog cf sW m (sub [1,1,1,1,1,1,0,1,0,0] (b7 Try.f36)) (fun k (σ:Int × ab)=>aC.l0 m s0 x1 k σ.1 σ.2) (fun σ s=>match σ with | (x2,s1)=>∃dR eS h1,s=⟨.ptr ao 0::xo (.int .i64 (s0.aa.length:Int)::xo (.rs aI 0 x1.1.nodes.length 4 :: .int .i64 (x1.1.nodes.length:Int) :: .int .i64 x2::Ap [])),[none,none,none],h1⟩∧Has h1 ((aI,.sl x1.1.nodes.length 4 (gj.l (bF x1.1.nodes cF)))::(ao,.ob [.bool s1.aj,.rs dR 0 s1.aa.length 4,.rs eS 0 s1.ae.length 1])::(dR,.sl s1.aa.length 4 (ah.l s1.aa))::(eS,.sl s1.ae.length 1 (af.l s1.ae))::(gd (x1.1.nodes.drop x2.toNat) (cF.drop x2.toNat)++L))) (fun out e s=>(e = .exit 0∧∃x2 s1,(x2,s1)=out∧∃n7 JK JS E3 E4 dR eS h1,s=⟨n7::xo (.int .i64 (s0.aa.length:Int)::xo (JK::JS::E3::E4::og [])),[none,none,none],h1⟩∧Has h1 ((aI,.sl x1.1.nodes.length 4 (gj.l (bF x1.1.nodes cF)))::(ao,.ob [.bool s1.aj,.rs dR 0 s1.aa.length 4,.rs eS 0 s1.ae.length 1])::(dR,.sl s1.aa.length 4 (ah.l s1.aa))::(eS,.sl s1.ae.length 1 (af.l s1.ae))::(gd (x1.1.nodes.drop x2.toNat) (cF.drop x2.toNat)++L)))):=by
 refine me (fun _=>rfl) ?_
 rintro k ⟨x2,s1⟩ s out ⟨dR,eS,h1,rfl,o4⟩ H
 have H:aC.l0 m s0 x1 (k+1) x2 s1=some out:=H
 refine q1 <| qq <| qc H (fun c3 H=>?_) (fun c3 H=>?_)
 ·refine qk <| qq <| qb 1 <| qq ?_
  obtain⟨v0,e3,H⟩:=bh H
  have o5:=Ey (pre:=[(aI,.sl x1.1.nodes.length 4 (gj.l (bF x1.1.nodes cF))),(ao,.ob [.bool s1.aj,.rs dR 0 s1.aa.length 4,.rs eS 0 s1.ae.length 1]),(dR,.sl s1.aa.length 4 (ah.l s1.aa)),(eS,.sl s1.ae.length 1 (af.l s1.ae))]) (q:=0) (ns:=x1.1.nodes) (ids:=cF) o4 rfl e3
  refine qr [.v 1 (bo (k:=.i64) (E:=gj) (l:=(bF x1.1.nodes cF)) (q:=0) yx o4 rfl (rE e3)),.v 2 (vw  (E:=gj) (l:=(bF x1.1.nodes cF)) (q:=0) o4 rfl Ge Gf (rE e3))] <| qq <| qq <| q0 <| qc H (fun c4 H=>?_) (fun c4 H=>?_)
  ·refine q0 <| qq <| qq <| q0 <| qb 2 ?_
   obtain⟨b4,e7,H⟩:=bh H
   refine ql (aC.mK L ao ak an s0 t0 x1 aI cF x2 v0   ((0:Int),v0.args,s1) _ _ ⟨(Ks cF x2),dR,eS,h1,by kernel_rfl,o5⟩ e7) ?_
   rintro e s ⟨rfl,x4,n1,s3,rfl,g0,g1,g2,gC,gA,jd,h4,rfl,o8⟩
   try dsimp only at H
   obtain⟨h5,e8,o9⟩:=pK (E:=af) (l:=n1) (q:=0) o8 rfl
   obtain⟨x5,e9,H⟩:=bh H
   obtain⟨Dh,h6,tw,xI⟩:=gH (P:=Try.prog) (E:=ah) (l:=s3.aa) (q:=2) (t2:=40) (x:=.fz [.int .i64 v0.kind,.int .i64 (i64.wrap ((s0.aa.length:Int)+x2)),.str v0.label,af.fz n1] 1 true) (l2:=([(aq.mk v0.kind (i64.wrap ((s0.aa.length:Int)+x2)) v0.label n1)])) yx o9 rfl (by kernel_rfl) rfl e9
   obtain⟨x6,wv,H⟩:=bh H
   obtain⟨il,h7,zj,Di⟩:=gH (P:=Try.prog) (E:=af) (l:=s3.ae) (q:=3) (t2:=33) (x:=.fz [.int .i64 (i64.wrap ((s0.aa.length:Int)+x2))] 1 true) (l2:=([i64.wrap ((s0.aa.length:Int)+x2)])) gK xI rfl (by kernel_rfl) rfl wv
   obtain⟨h8,yy,Dj⟩:=nF (P:=Try.prog) (t:=40) (off:=1) (q:=1) (cs:=[.bool s3.aj,.rs gA 0 s3.aa.length 4,.rs jd 0 s3.ae.length 1]) (eY:=[.bool s3.aj,.rs Dh 0 x5.length 4,.rs jd 0 s3.ae.length 1]) (x:=.rs Dh 0 x5.length 4) Di rfl (by kernel_rfl)
   obtain⟨h9,CG,vQ⟩:=nF (P:=Try.prog) (t:=33) (off:=2) (q:=1) (cs:=[.bool s3.aj,.rs Dh 0 x5.length 4,.rs jd 0 s3.ae.length 1]) (eY:=[.bool s3.aj,.rs Dh 0 x5.length 4,.rs il 0 x6.length 1]) (x:=.rs il 0 x6.length 1) Dj rfl (by kernel_rfl)
   exact LI [.a 0 e8] [.v 5 (show bm Try.prog h5 40 (.ptr ao 1)=some (.rs gA 0 s3.aa.length 4) from bZ (q:=1) (cs:=[.bool s3.aj,.rs gA 0 s3.aa.length 4,.rs jd 0 s3.ae.length 1]) o9 rfl (by kernel_rfl)),.a 8 tw,.v 12 (show bm Try.prog h6 33 (.ptr ao 2)=some (.rs jd 0 s3.ae.length 1) from bZ (q:=1) (cs:=[.bool s3.aj,.rs gA 0 s3.aa.length 4,.rs jd 0 s3.ae.length 1]) xI rfl (by kernel_rfl)),.a 17 zj,.w 20 yy,.w 23 CG] [.mk (zg o9 (q:=2) rfl (q2:=1) rfl (by decide) tw)] <| q0 <| ⟨(i64.wrap (x2+(1:Int)),(ab.mk s3.aj x5 x6)),⟨Dh,il,h9,by kernel_rfl,vQ⟩,H⟩
  ·refine qk <| qq <| qq <| q0 <| qb 2 ?_
   obtain⟨dv,Gg,H⟩:=bh H
   refine ql (aC.sS L ao ak an s0 t0 x1 aI cF x2 v0   ((0:Int),v0.args,s1) _ _ ⟨(Ks cF x2),dR,eS,h1,by kernel_rfl,o5⟩ Gg) ?_
   rintro e s ⟨rfl,x8,n3,s5,rfl,g3,g4,g5,fW,zo,qY,h12,rfl,zr⟩
   try dsimp only at H
   obtain⟨h13,ET,Dl⟩:=pK (E:=af) (l:=n3) (q:=0) zr rfl
   obtain⟨x9,Hg,H⟩:=bh H
   obtain⟨sN,h14,Gh,Dk⟩:=gH (P:=Try.prog) (E:=ah) (l:=s5.aa) (q:=2) (t2:=40) (x:=.fz [.int .i64 v0.kind,.int .i64 v0.int,.str v0.label,af.fz n3] 1 true) (l2:=([(aq.mk v0.kind v0.int v0.label n3)])) yx Dl rfl (by kernel_rfl) rfl Hg
   obtain⟨kB,Gi,H⟩:=bh H
   obtain⟨EU,h15,Gj,CL⟩:=gH (P:=Try.prog) (E:=af) (l:=s5.ae) (q:=3) (t2:=33) (x:=.fz [.int .i64 (i64.wrap ((s0.aa.length:Int)+x2))] 1 true) (l2:=([i64.wrap ((s0.aa.length:Int)+x2)])) gK Dk rfl (by kernel_rfl) rfl Gi
   obtain⟨h16,Hh,M9⟩:=nF (P:=Try.prog) (t:=40) (off:=1) (q:=1) (cs:=[.bool s5.aj,.rs zo 0 s5.aa.length 4,.rs qY 0 s5.ae.length 1]) (eY:=[.bool s5.aj,.rs sN 0 x9.length 4,.rs qY 0 s5.ae.length 1]) (x:=.rs sN 0 x9.length 4) CL rfl (by kernel_rfl)
   obtain⟨h17,Gk,CN⟩:=nF (P:=Try.prog) (t:=33) (off:=2) (q:=1) (cs:=[.bool s5.aj,.rs sN 0 x9.length 4,.rs qY 0 s5.ae.length 1]) (eY:=[.bool s5.aj,.rs sN 0 x9.length 4,.rs EU 0 kB.length 1]) (x:=.rs EU 0 kB.length 1) M9 rfl (by kernel_rfl)
   exact LI [.a 0 ET] [.v 5 (show bm Try.prog h13 40 (.ptr ao 1)=some (.rs zo 0 s5.aa.length 4) from bZ (q:=1) (cs:=[.bool s5.aj,.rs zo 0 s5.aa.length 4,.rs qY 0 s5.ae.length 1]) Dl rfl (by kernel_rfl)),.a 8 Gh,.v 12 (show bm Try.prog h14 33 (.ptr ao 2)=some (.rs qY 0 s5.ae.length 1) from bZ (q:=1) (cs:=[.bool s5.aj,.rs zo 0 s5.aa.length 4,.rs qY 0 s5.ae.length 1]) Dk rfl (by kernel_rfl)),.a 17 Gj,.w 20 Hh,.w 23 Gk] [.mk (zg Dl (q:=2) rfl (q2:=1) rfl (by decide) Gh)] <| q0 <| ⟨(i64.wrap (x2+(1:Int)),(ab.mk s5.aj x9 kB)),⟨sN,EU,h17,by kernel_rfl,CN⟩,H⟩
 ·exact qx 0 <| ⟨rfl,x2,s1,oi H,.ptr ao 0,.rs aI 0 x1.1.nodes.length 4,.int .i64 (x1.1.nodes.length:Int),.int .i64 x2,.bool (decide (x2<(x1.1.nodes.length:Int))),dR,eS,h1,by kernel_rfl,o4⟩
theorem mS {aV:FuncId→b5}(ha:aV 36=sW)(zi:LP cf m)(PJ:RG cf m)(s0:ab)(t0:br)(h:AHeap)(L:Mem)(ao:Nat)(ak:Nat)(an:Nat)  (o:Has h ((ao,.ob [.bool s0.aj,.rs ak 0 s0.aa.length 4,.rs an 0 s0.ae.length 1])::(ak,.sl s0.aa.length 4 (ah.l s0.aa))::(an,.sl s0.ae.length 1 (af.l s0.ae))::L)){out:Int × Int × ab}(H:aC.f m s0 t0=some out) :
  ∃r h',aZ Try.prog aV cf m 36 [.ptr ao 0,.agg [ah.fz t0.nodes,.int .i64 t0.root]] h=some (r,h')∧∃aA aB:Nat,r = .tup [.int .i64 out.1,.int .i64 out.2.1]∧Has h' ((ao,.ob [.bool out.2.2.aj,.rs aA 0 out.2.2.aa.length 4,.rs aB 0 out.2.2.ae.length 1])::(aA,.sl out.2.2.aa.length 4 (ah.l out.2.2.aa))::(aB,.sl out.2.2.ae.length 1 (af.l out.2.2.ae))::L):=by
 refine ar (fn:=Try.f36) ha Try.func36 (by kernel_rfl) (by kernel_rfl) ?_
 refine aH (Q:=fun s=>aC.fin L ao ak an s0 t0 out s) (fun _ _ ⟨h1,aA,aB,h2,h3⟩=>⟨h1,_,h2,aA,aB,rfl,h3⟩) ?_
 have H:_=some out:=H
 unfold aC.f at H
 show dp _ cf sW m _ ⟨.ptr ao 0 :: .agg [ah.fz t0.nodes,.int .i64 t0.root]::Oa [],[none,none,none],h⟩ _
 refine q1 <| qq <| qq ?_
 obtain⟨x0,e0,H⟩:=bh H
 refine qr [.a 1 (zi _ _ e0 h _ (gv (ai (dQ (q:=0) o rfl (ai (fD) (ai (eh (E:=ah) (l:=s0.aa) (q:=1) o rfl (fun _=>rfl)) (ai (eh (E:=af) (l:=s0.ae) (q:=2) o rfl (fun _=>rfl)) (ay))))) (ay))))] <| qc H (fun c0 H=>?_) (fun c0 H=>?_)
 ·obtain rfl:=oi H
  exact q1 <| qt <| ⟨.inl rfl,⟨ak,an,by kernel_rfl,he o⟩⟩
 ·refine qk <| qq ?_
  obtain⟨x1,e1,H⟩:=bh H
  obtain⟨aI,cF,h0,e2,o0,IA⟩:=PJ _ _ e1 h _ _ o (gv (ai (jS (ai (fy (E:=ah)) (ai (bB) (ay)))) (ay)))
  have o1:=Has.xz (pre:=[(aI,.sl x1.1.nodes.length 4 (gj.l (bF x1.1.nodes cF)))]) (N:=[(ao,.ob [.bool s0.aj,.rs ak 0 s0.aa.length 4,.rs an 0 s0.ae.length 1]),(ak,.sl s0.aa.length 4 (ah.l s0.aa)),(an,.sl s0.ae.length 1 (af.l s0.ae))]) (mid:=gd x1.1.nodes cF) o0
  refine qr [.a 1 e2] <| qq <| qq <| q0 <| qc H (fun c1 H=>?_) (fun c1 H=>?_)
  ·refine q1 ?_
   have o2:Has h0 ((ao,.ob [.bool s0.aj,.rs ak 0 s0.aa.length 4,.rs an 0 s0.ae.length 1])::(ak,.sl s0.aa.length 4 (ah.l s0.aa))::(an,.sl s0.ae.length 1 (af.l s0.ae))::L):=Has.gone (pre:=[(ao,.ob [.bool s0.aj,.rs ak 0 s0.aa.length 4,.rs an 0 s0.ae.length 1]),(ak,.sl s0.aa.length 4 (ah.l s0.aa)),(an,.sl s0.ae.length 1 (af.l s0.ae))]) (Has.del o1 0)
   obtain rfl:=oi H
   exact qt <| ⟨.inl rfl,⟨ak,an,by kernel_rfl,he o2⟩⟩
  ·refine qk <| qq <| qr [.v 3 (show bm Try.prog h0 40 (.ptr ao 1)=some (.rs ak 0 s0.aa.length 4) from bZ (q:=1) (cs:=[.bool s0.aj,.rs ak 0 s0.aa.length 4,.rs an 0 s0.ae.length 1]) o1 rfl (by kernel_rfl))] <| qq <| qq <| q0 <| qc H (fun c2 H=>?_) (fun c2 H=>?_)
   ·refine q1 ?_
    have o3:Has h0 ((ao,.ob [.bool s0.aj,.rs ak 0 s0.aa.length 4,.rs an 0 s0.ae.length 1])::(ak,.sl s0.aa.length 4 (ah.l s0.aa))::(an,.sl s0.ae.length 1 (af.l s0.ae))::L):=Has.gone (pre:=[(ao,.ob [.bool s0.aj,.rs ak 0 s0.aa.length 4,.rs an 0 s0.ae.length 1]),(ak,.sl s0.aa.length 4 (ah.l s0.aa)),(an,.sl s0.ae.length 1 (af.l s0.ae))]) (Has.del o1 0)
    obtain rfl:=oi H
    exact qt <| ⟨.inl rfl,⟨ak,an,by kernel_rfl,he o3⟩⟩
   ·refine qk <| qq <| qq <| q0 <| qb 0 ?_
    obtain⟨mP,Hi,H⟩:=bh H
    refine ql (aC.di L ao ak an s0 t0 x1 aI cF   ((0:Int),s0) _ _ ⟨ak,an,h0,by kernel_rfl,o1⟩ Hi) ?_
    rintro e s ⟨rfl,AJ,s6,rfl,g6,g7,g8,g9,g10,zp,zq,h18,rfl,Ih⟩
    try dsimp only at H
    refine q1 ?_
    have L7:Has h18 ((ao,.ob [.bool s6.aj,.rs zp 0 s6.aa.length 4,.rs zq 0 s6.ae.length 1])::(zp,.sl s6.aa.length 4 (ah.l s6.aa))::(zq,.sl s6.ae.length 1 (af.l s6.ae))::L):=Has.gone (pre:=[(ao,.ob [.bool s6.aj,.rs zp 0 s6.aa.length 4,.rs zq 0 s6.ae.length 1]),(zp,.sl s6.aa.length 4 (ah.l s6.aa)),(zq,.sl s6.ae.length 1 (af.l s6.ae))]) (Has.del Ih 0)
    obtain rfl:=oi H
    exact qt <| ⟨.inl rfl,⟨zp,zq,by kernel_rfl,he L7⟩⟩
end
end Go.Proofs.Ytifafejidnjckaa
namespace Go.Proofs.Ytifafejidnjckaa
open Go Go.R
open Go.IntKind (i64 u64 u8 u32)
def Bq:b5:=gX [0,1,3,4,5,7,8,15,24,33,44,55,64,75] [3] [16378,16362,16330,16266,16367,16202,16367,16074,16367,15818,16367,15306,16367,14282,16367,12234,16367,8170,16367,16375] [] []
def fI.f (m:Nat)(s0:ab)(x0:aN):Option (Int × ab):=if (x0.eO==(0:Int))=true then ((eu.f m s0).bind fun x1=>some (x1.2.1,x1.2.2)) else (if (x0.eO==(1:Int))=true then ((ez.f m s0 x0.ux).bind fun x2=>some (x2.2.1,x2.2.2)) else (if (x0.eO==(2:Int))=true then ((dY.f m s0 x0.eR).bind fun x3=>some (x3.2.1,x3.2.2)) else (if (x0.eO==(3:Int))=true then ((dL.f m s0 x0.eR x0.fU).bind fun x4=>some (x4.2.1,x4.2.2)) else (if (x0.eO==(4:Int))=true then ((dX.f m s0 x0.eR x0.ux).bind fun x5=>some (x5.2.1,x5.2.2)) else (if (x0.eO==(5:Int))=true then ((aC.f m s0 x0.xA).bind fun x6=>some (x6.2.1,x6.2.2)) else (if (x0.eO==(6:Int))=true then ((cz.f m s0 x0.ux x0.Dg).bind fun x7=>some (x7.2.1,x7.2.2)) else (if (x0.eO==(7:Int))=true then ((dw.f m s0 x0.ux x0.Dg).bind fun x8=>some (x8.2.2.1,x8.2.2.2)) else (some ((0:Int),s0)))))))))
def fI.fin (L:Mem)(ao:Nat)(ak:Nat)(an:Nat)(s0:ab)(x0:aN)(r:Int × ab)(s:St):Prop:=∃aA aB:Nat,aM Try.prog (s.open Bq) Try.f17.results.toList=some (.int .i64 r.1)∧Has s.h ((ao,.ob [.bool r.2.aj,.rs aA 0 r.2.aa.length 4,.rs aB 0 r.2.ae.length 1])::(aA,.sl r.2.aa.length 4 (ah.l r.2.aa))::(aB,.sl r.2.ae.length 1 (af.l r.2.ae))::L)
def PK (cf:CallF)(m:Nat):Prop:=∀(s0:ab) (x0:aN) (r:Int × ab),fI.f m s0 x0=some r→∀h L (ao:Nat) (ak:Nat) (an:Nat),Has h ((ao,.ob [.bool s0.aj,.rs ak 0 s0.aa.length 4,.rs an 0 s0.ae.length 1])::(ak,.sl s0.aa.length 4 (ah.l s0.aa))::(an,.sl s0.ae.length 1 (af.l s0.ae))::L)→∀xs,xs.map aK=[.ptr ao 0,.agg [.int .i64 x0.eO,.int .i64 x0.ux,.int .i64 x0.Dg,.str x0.eR,af.fz x0.fU,ah.fz x0.xA.nodes,.int .i64 x0.xA.root]]→∃aA aB h',cf 17 xs h=some (.int .i64 r.1,h')∧Has h' ((ao,.ob [.bool r.2.aj,.rs aA 0 r.2.aa.length 4,.rs aB 0 r.2.ae.length 1])::(aA,.sl r.2.aa.length 4 (ah.l r.2.aa))::(aB,.sl r.2.ae.length 1 (af.l r.2.ae))::L)
section
variable {cf:CallF}{m:Nat}
theorem tN {aV:FuncId→b5}(ha:aV 17=Bq)(E1:M8 cf m)(PL:Rp cf m)(PM:Q8 cf m)(PN:Rw cf m)(PO:Q9 cf m)(PQ:Rq cf m)(PR:Rl cf m)(PS:RH cf m)(s0:ab)(x0:aN)(h:AHeap)(L:Mem)(ao:Nat)(ak:Nat)(an:Nat)  (o:Has h ((ao,.ob [.bool s0.aj,.rs ak 0 s0.aa.length 4,.rs an 0 s0.ae.length 1])::(ak,.sl s0.aa.length 4 (ah.l s0.aa))::(an,.sl s0.ae.length 1 (af.l s0.ae))::L)){out:Int × ab}(H:fI.f m s0 x0=some out) :
  ∃r h',aZ Try.prog aV cf m 17 [.ptr ao 0,.agg [.int .i64 x0.eO,.int .i64 x0.ux,.int .i64 x0.Dg,.str x0.eR,af.fz x0.fU,ah.fz x0.xA.nodes,.int .i64 x0.xA.root]] h=some (r,h')∧∃aA aB:Nat,r = .int .i64 out.1∧Has h' ((ao,.ob [.bool out.2.aj,.rs aA 0 out.2.aa.length 4,.rs aB 0 out.2.ae.length 1])::(aA,.sl out.2.aa.length 4 (ah.l out.2.aa))::(aB,.sl out.2.ae.length 1 (af.l out.2.ae))::L):=by
 refine ar (fn:=Try.f17) ha Try.func17 (by kernel_rfl) (by kernel_rfl) ?_
 refine aH (Q:=fun s=>fI.fin L ao ak an s0 x0 out s) (fun _ _ ⟨h1,aA,aB,h2,h3⟩=>⟨h1,_,h2,aA,aB,rfl,h3⟩) ?_
 have H:_=some out:=H
 unfold fI.f at H
 show dp _ cf Bq m _ ⟨.ptr ao 0 :: .agg [.int .i64 x0.eO,.int .i64 x0.ux,.int .i64 x0.Dg,.str x0.eR,af.fz x0.fU,ah.fz x0.xA.nodes,.int .i64 x0.xA.root]::vC [],[none],h⟩ _
 refine q1 <| qq <| q0 <| qq <| qq <| q0 <| qb 0 <| qq <| q0 <| qc H (fun c0 H=>?_) (fun c0 H=>?_)
 ·obtain⟨x1,e0,H⟩:=bh H
  obtain⟨aI,dR,h0,e1,o0⟩:=PM _ _ e0 h _ _ _ _ (o)  [.ptr ao 0] (au (rfl) (bE))
  obtain rfl:=oi H
  exact qr [.a 1 e1] <| qq <| q0 <| qt <| ⟨.inl rfl,⟨aI,dR,by kernel_rfl,he o0⟩⟩
 ·refine q1 <| qc H (fun c1 H=>?_) (fun c1 H=>?_)
  ·obtain⟨x2,e2,H⟩:=bh H
   obtain⟨eS,cD,h1,e3,o1⟩:=PO _ _ _ e2 h _ _ _ _ (o)  [.ptr ao 0,.int .i64 x0.ux] (au (rfl) (au (aL (bj)) (bE)))
   obtain rfl:=oi H
   exact qr [.a 3 e3] <| qq <| q0 <| qt <| ⟨.inl rfl,⟨eS,cD,by kernel_rfl,he o1⟩⟩
  ·refine q1 <| qc H (fun c2 H=>?_) (fun c2 H=>?_)
   ·obtain⟨x3,e4,H⟩:=bh H
    obtain⟨eB,fo,h2,e5,o2⟩:=PN _ _ _ e4 h _ _ _ _ (o)  [.ptr ao 0,.str x0.eR] (au (rfl) (au (aL (ly)) (bE)))
    obtain rfl:=oi H
    exact qr [.a 3 e5] <| qq <| q0 <| qt <| ⟨.inl rfl,⟨eB,fo,by kernel_rfl,he o2⟩⟩
   ·refine q1 <| qc H (fun c3 H=>?_) (fun c3 H=>?_)
    ·obtain⟨x4,e6,H⟩:=bh H
     obtain⟨gC,gA,h3,e7,o3⟩:=PQ _ _ _ _ e6 h _ _ _ _ (o)  [.ptr ao 0,.str x0.eR,af.fz x0.fU] (au (rfl) (au (aL (ly)) (au (aL (mF (E:=af))) (bE))))
     obtain rfl:=oi H
     exact qr [.a 5 e7] <| qq <| q0 <| qt <| ⟨.inl rfl,⟨gC,gA,by kernel_rfl,he o3⟩⟩
    ·refine q1 <| qc H (fun c4 H=>?_) (fun c4 H=>?_)
     ·obtain⟨x5,e8,H⟩:=bh H
      obtain⟨jd,Dh,h4,e9,o4⟩:=PR _ _ _ _ e8 h _ _ _ _ (o)  [.ptr ao 0,.str x0.eR,.int .i64 x0.ux] (au (rfl) (au (aL (ly)) (au (aL (bj)) (bE))))
      obtain rfl:=oi H
      exact qr [.a 5 e9] <| qq <| q0 <| qt <| ⟨.inl rfl,⟨jd,Dh,by kernel_rfl,he o4⟩⟩
     ·refine q1 <| qc H (fun c5 H=>?_) (fun c5 H=>?_)
      ·obtain⟨x6,tw,H⟩:=bh H
       obtain⟨il,iZ,h5,wv,o5⟩:=PS _ _ _ tw h _ _ _ _ (o)  [.ptr ao 0,.agg [ah.fz x0.xA.nodes,.int .i64 x0.xA.root]] (au (rfl) (au (aL (nZ (cu (mF (E:=ah)) (cu (bj) (nY))))) (bE)))
       obtain rfl:=oi H
       exact qr [.a 3 wv] <| qq <| q0 <| qt <| ⟨.inl rfl,⟨il,iZ,by kernel_rfl,he o5⟩⟩
      ·refine q1 <| qc H (fun c6 H=>?_) (fun c6 H=>?_)
       ·obtain⟨x7,zj,H⟩:=bh H
        obtain⟨kT,ec,fW,h6,yy,o6⟩:=E1 _ _ _ _ zj h _ _ _ _ (o)  [.ptr ao 0,.int .i64 x0.ux,.int .i64 x0.Dg] (au (rfl) (au (aL (bj)) (au (aL (bj)) (bE))))
        refine qr [.a 5 yy] ?_
        have o7:Has h6 ((ao,.ob [.bool x7.2.2.aj,.rs ec 0 x7.2.2.aa.length 4,.rs fW 0 x7.2.2.ae.length 1])::(ec,.sl x7.2.2.aa.length 4 (ah.l x7.2.2.aa))::(fW,.sl x7.2.2.ae.length 1 (af.l x7.2.2.ae))::L):=Has.del o6 0
        obtain rfl:=oi H
        exact q1 <| qt <| ⟨.inl rfl,⟨ec,fW,by kernel_rfl,he o7⟩⟩
       ·refine q1 <| qc H (fun c7 H=>?_) (fun c7 H=>?_)
        ·obtain⟨x8,CG,H⟩:=bh H
         obtain⟨zo,qY,sN,h7,A6,o8⟩:=PL _ _ _ _ CG h _ _ _ _ (o)  [.ptr ao 0,.int .i64 x0.ux,.int .i64 x0.Dg] (au (rfl) (au (aL (bj)) (au (aL (bj)) (bE))))
         refine qr [.a 5 A6] ?_
         have o9:Has h7 ((ao,.ob [.bool x8.2.2.2.aj,.rs qY 0 x8.2.2.2.aa.length 4,.rs sN 0 x8.2.2.2.ae.length 1])::(qY,.sl x8.2.2.2.aa.length 4 (ah.l x8.2.2.2.aa))::(sN,.sl x8.2.2.2.ae.length 1 (af.l x8.2.2.2.ae))::L):=Has.del o8 0
         obtain rfl:=oi H
         exact q1 <| qt <| ⟨.inl rfl,⟨qY,sN,by kernel_rfl,he o9⟩⟩
        ·obtain rfl:=oi H
         exact qk <| qq <| q0 <| qt <| ⟨.inl rfl,⟨ak,an,by kernel_rfl,he o⟩⟩
end
end Go.Proofs.Ytifafejidnjckaa
namespace Go.Proofs.Ytifafejidnjckaa
open Go Go.R
open Go.IntKind (i64 u64 u8 u32)
def xR:b5:=gX [0,2,3,4,9] [] [30,26,18,2,18,18,29] [] []
def bU.l0 (m:Nat)(l0:List aN):Nat→Int→ab→Option (Int × ab)
 | 0,_,_=>none
 | k+1,i0,pv=>if (decide (i0<(l0.length:Int)))=true then ((ix l0 i0).bind fun v0=>(fI.f m pv v0).bind fun x1=>bU.l0 m l0 k (i64.wrap (i0+(1:Int))) x1.2) else (some ((i0,pv)))
def bU.f (m:Nat)(l0:List aN):Option (ab):=(iY.f m ).bind fun x0=>(bU.l0 m l0 m (0:Int) x0).bind fun b4=>match b4 with | (i1,wq)=>some wq
def bU.fin (L:Mem)(l0:List aN)(r:ab)(s:St):Prop:=∃fc gm gp:Nat,aM Try.prog (s.open xR) Try.f12.results.toList=some (.ptr fc 0)∧Has s.h ((fc,.ob [.bool r.aj,.rs gm 0 r.aa.length 4,.rs gp 0 r.ae.length 1])::(gm,.sl r.aa.length 4 (ah.l r.aa))::(gp,.sl r.ae.length 1 (af.l r.ae))::L)
def RI (cf:CallF)(m:Nat):Prop:=∀(l0:List aN) (r:ab),bU.f m l0=some r→∀h L,Has h (L)→∀xs,xs.map aK=[aU.fz l0]→∃fc gm gp h',cf 12 xs h=some (.ptr fc 0,h')∧Has h' ((fc,.ob [.bool r.aj,.rs gm 0 r.aa.length 4,.rs gp 0 r.ae.length 1])::(gm,.sl r.aa.length 4 (ah.l r.aa))::(gp,.sl r.ae.length 1 (af.l r.ae))::L)
section
variable {cf:CallF}{m:Nat}
theorem bU.di (L:Mem)(l0:List aN)(aI:Nat)  (JT:PK cf m):dV Try.prog cf xR m (sub [1,1,0,1,0,0] (b7 Try.f12)) (fun k (σ:Int × ab)=>bU.l0 m l0 k σ.1 σ.2) (fun σ s=>match σ with | (i0,pv)=>∃cD eB h1,s=⟨[aU.fz l0,.any,.ptr aI 0,.int .i64 i0,.any],[],h1⟩∧Has h1 ((aI,.ob [.bool pv.aj,.rs cD 0 pv.aa.length 4,.rs eB 0 pv.ae.length 1])::(cD,.sl pv.aa.length 4 (ah.l pv.aa))::(eB,.sl pv.ae.length 1 (af.l pv.ae))::L)) (fun out e s=>(e = .exit 0∧∃i0 pv,(i0,pv)=out∧∃n7 JE CF cD eB h1,s=⟨[n7,.any,.ptr aI 0,JE,CF],[],h1⟩∧Has h1 ((aI,.ob [.bool pv.aj,.rs cD 0 pv.aa.length 4,.rs eB 0 pv.ae.length 1])::(cD,.sl pv.aa.length 4 (ah.l pv.aa))::(eB,.sl pv.ae.length 1 (af.l pv.ae))::L))):=by
 refine me (fun _=>rfl) ?_
 rintro k ⟨i0,pv⟩ s out ⟨cD,eB,h1,rfl,o1⟩ H
 have H:bU.l0 m l0 (k+1) i0 pv=some out:=H
 refine qq <| qq <| q0 <| qc H (fun c0 H=>?_) (fun c0 H=>?_)
 ·refine qk <| qq <| qb 1 ?_
  obtain⟨v0,e2,H⟩:=bh H
  obtain⟨x1,e3,H⟩:=bh H
  obtain⟨fo,gC,h2,e4,o2⟩:=JT _ _ _ e3 h1 _ _ _ _ (o1)  [.ptr aI 0,.agg [.int .i64 v0.eO,.int .i64 v0.ux,.int .i64 v0.Dg,.str v0.eR,af.fz v0.fU,ah.fz v0.xA.nodes,.int .i64 v0.xA.root]] (au (rfl) (au (aL (nZ (cu (bj) (cu (bj) (cu (bj) (cu (ly) (cu (mF (E:=af)) (cu (mF (E:=ah)) (cu (bj) (nY)))))))))) (bE)))
  exact qr [.v 3 (eW (k:=.i64) (E:=aU) (l:=l0) MS e2),.v 4 (ls  (E:=aU) (l:=l0) h1 Ts Tv e2),.a 5 e4] <| q0 <| ⟨(i64.wrap (i0+(1:Int)),x1.2),⟨fo,gC,h2,by kernel_rfl,o2⟩,H⟩
 ·exact qx 0 <| ⟨rfl,i0,pv,oi H,aU.fz l0,.int .i64 i0,.bool (decide (i0<(l0.length:Int))),cD,eB,h1,by kernel_rfl,o1⟩
theorem ri {aV:FuncId→b5}(ha:aV 12=xR)(JT:PK cf m)(PT:QT cf m)(l0:List aN)(h:AHeap)(L:Mem)  (o:Has h (L)){out:ab}(H:bU.f m l0=some out) :
  ∃r h',aZ Try.prog aV cf m 12 [aU.fz l0] h=some (r,h')∧∃fc gm gp:Nat,r = .ptr fc 0∧Has h' ((fc,.ob [.bool out.aj,.rs gm 0 out.aa.length 4,.rs gp 0 out.ae.length 1])::(gm,.sl out.aa.length 4 (ah.l out.aa))::(gp,.sl out.ae.length 1 (af.l out.ae))::L):=by
 refine ar (fn:=Try.f12) ha Try.func12 (by kernel_rfl) (by kernel_rfl) ?_
 refine aH (Q:=fun s=>bU.fin L l0 out s) (fun _ _ ⟨h1,fc,gm,gp,h2,h3⟩=>⟨h1,_,h2,fc,gm,gp,rfl,h3⟩) ?_
 have H:_=some out:=H
 unfold bU.f at H
 show dp _ cf xR m _ ⟨aU.fz l0::og [],[],h⟩ _
 refine q1 <| qq ?_
 obtain⟨x0,e0,H⟩:=bh H
 obtain⟨aI,dR,eS,h0,e1,o0⟩:=PT _ e0 h _  (o)  [] (bE)
 refine qr [.a 0 e1] <| qq <| qq <| q0 <| qb 0 ?_
 obtain⟨b4,e5,H⟩:=bh H
 refine ql (bU.di L l0 aI  JT ((0:Int),x0) _ _ ⟨dR,eS,h0,by kernel_rfl,o0⟩ e5) ?_
 rintro e s ⟨rfl,i1,wq,rfl,g0,g1,g2,gA,jd,h3,rfl,o3⟩
 try dsimp only at H
 obtain rfl:=oi H
 exact q1 <| qt <| ⟨.inl rfl,⟨aI,gA,jd,by kernel_rfl,he o3⟩⟩
end
end Go.Proofs.Ytifafejidnjckaa
namespace Go.Proofs.Ytifafejidnjckaa
open Go Go.R
open Go.IntKind (i64 u64 u8 u32)
def E5:b5:=gX [0,1,2,3,8,9,10,11,12,13,14,15,16,17,24,36,52,61] [14] [262128,245744,262127,262033,261905,261649,261137,228369,261137,260113,194577,260113,258065,126993,258065,253969,253969,254993,261137,253727,262127] [(19,[(12,none,0)])] [(5,[(12,none,2)]),(15,[(16,none,2)])]
def aY.l0 (m:Nat)(bz:List ko)(bP:List Int)(eF:List Bool):Nat→(List ko)→Int→Option ((List ko) × Int)
 | 0,_,_=>none
 | k+1,dr,i0=>if (decide (i0<(bz.length:Int)))=true then ((ix bz i0).bind fun v0=>jn (fun (σ:Int × Int)=>match σ with | (p0,p1)=>jn (fun (σ:Int)=>match σ with | Ii=>(sk dr (0:Int) Ii).bind fun v4=>(app 16 ([]:List ko) v4).bind fun x6=>(app 16 x6 ([(ko.mk p0 p1)])).bind fun x7=>(sk dr Ii (dr.length:Int)).bind fun v5=>(app 16 x7 v5).bind fun x8=>aY.l0 m bz bP eF k x8 (i64.wrap (i0+(1:Int)))) fun Gl=>(if (decide (i0<(bP.length:Int)))=true then ((ix bP i0).bind fun v2=>(Cu .i64 (i64.wrap v2) (i64.wrap ((dr.length:Int)+(1:Int)))).bind fun v3=>Gl v3) else (Gl (0:Int)))) fun tv=>(if (decide (i0<(eF.length:Int)))=true then ((ix eF i0).bind fun v1=>if v1=true then (tv (v0.a1,v0.a0)) else (tv (v0.a0,v0.a1))) else (tv (v0.a0,v0.a1)))) else (some ((dr,i0)))
def aY.f (m:Nat)(l0:List aN)(bz:List ko)(bP:List Int)(eF:List Bool):Option (Bool):=(bw.f m l0).bind fun x0=>if x0=true then ((cJ.f m).bind fun x1=>some x1) else (if (decide ((bz.length:Int) > (30:Int)))=true then ((cJ.f m).bind fun x2=>some x2) else ((bU.f m l0).bind fun x3=>(bU.f m l0).bind fun x4=>(bA.f m x3 bz).bind fun x5=>(aY.l0 m bz bP eF m ([]:List ko) (0:Int)).bind fun b4=>match b4 with | (vS,i1)=>(bA.f m x4 vS).bind fun x9=>if (x5.1==x9.1)=true then (if (!x5.1)=true then ((cJ.f m).bind fun kB=>some kB) else ((bM.f m x5.2).bind fun AJ=>(bM.f m x9.2).bind fun EE=>(bW.f m AJ EE).bind fun sJ=>if sJ=true then ((cJ.f m).bind fun L8=>some L8) else (some false))) else (some false)))
def aY.fin (L:Mem)(r:Bool)(s:St):Prop:=∃av,aM Try.prog (s.open E5) Try.f3.results.toList=some av∧fA s.h av (.bool r)
def S3 (cf:CallF)(m:Nat):Prop:=∀(l0:List aN) (bz:List ko) (bP:List Int) (eF:List Bool) (r:Bool),aY.f m l0 bz bP eF=some r→∀h xs,aO bR h xs [aU.fz l0,kA.fz bz,mB.fz bP,mC.fz eF]→cf 3 xs h=some (.bool r,h)
section
variable {cf:CallF}{m:Nat}
theorem aY.di (L:Mem)(l0:List aN)(bz:List ko)(bP:List Int)(eF:List Bool)(aI:Nat)(x4:ab)(cD:Nat)(eB:Nat)(fo:Nat)(x5:Bool × ab)(gC:Nat)(gA:Nat)   : dV Try.prog cf E5 m (sub [1,1,1,1,1,0,1,0,0] (b7 Try.f3)) (fun k (σ:(List ko) × Int)=>aY.l0 m bz bP eF k σ.1 σ.2) (fun σ s=>match σ with | (dr,i0)=>∃jd h3,s=⟨.any::kA.fz bz::mB.fz bP::mC.fz eF :: .any :: .ptr aI 0 :: .ptr cD 0 :: .bool x5.1 :: .rs jd 0 dr.length 2 :: .int .i64 i0::Aq [],[none],h3⟩∧Has h3 ((jd,.sl dr.length 2 (kA.l dr))::(aI,.ob [.bool x5.2.aj,.rs gC 0 x5.2.aa.length 4,.rs gA 0 x5.2.ae.length 1])::(gC,.sl x5.2.aa.length 4 (ah.l x5.2.aa))::(gA,.sl x5.2.ae.length 1 (af.l x5.2.ae))::(cD,.ob [.bool x4.aj,.rs eB 0 x4.aa.length 4,.rs fo 0 x4.ae.length 1])::(eB,.sl x4.aa.length 4 (ah.l x4.aa))::(fo,.sl x4.ae.length 1 (af.l x4.ae))::L)) (fun out e s=>(e = .exit 0∧∃dr i0,(dr,i0)=out∧∃vK Ju EA sI JS jd h3,s=⟨.any::vK::Ju::EA :: .any :: .ptr aI 0 :: .ptr cD 0 :: .bool x5.1 :: .rs jd 0 dr.length 2::sI::Ap [JS,.any,.any],[none],h3⟩∧Has h3 ((jd,.sl dr.length 2 (kA.l dr))::(aI,.ob [.bool x5.2.aj,.rs gC 0 x5.2.aa.length 4,.rs gA 0 x5.2.ae.length 1])::(gC,.sl x5.2.aa.length 4 (ah.l x5.2.aa))::(gA,.sl x5.2.ae.length 1 (af.l x5.2.ae))::(cD,.ob [.bool x4.aj,.rs eB 0 x4.aa.length 4,.rs fo 0 x4.ae.length 1])::(eB,.sl x4.aa.length 4 (ah.l x4.aa))::(fo,.sl x4.ae.length 1 (af.l x4.ae))::L))):=by
 refine me (fun _=>rfl) ?_
 rintro k ⟨dr,i0⟩ s out ⟨jd,h3,rfl,o4⟩ H
 have H:aY.l0 m bz bP eF (k+1) dr i0=some out:=H
 refine qq <| qq <| q0 <| qc H (fun c3 H=>?_) (fun c3 H=>?_)
 ·refine qk <| qq <| qb 1 <| qq ?_
  obtain⟨v0,e9,H⟩:=bh H
  refine qr [.v 2 (eW (k:=.i64) (E:=kA) (l:=bz) If e9),.v 3 (ls  (E:=kA) (l:=bz) h3 Tq Tt e9)] ?_
  obtain⟨tv,ED,H⟩:=lA H
  refine qj (S:=fun (σ:Int × Int) s=>match σ with | (p0,p1)=>∃(g0:AV) (h4:AHeap),s=⟨.any::kA.fz bz::mB.fz bP::mC.fz eF :: .any :: .ptr aI 0 :: .ptr cD 0 :: .bool x5.1 :: .rs jd 0 dr.length 2 :: .int .i64 i0 :: .lp 14 0::Ap [g0,.any],[some [.int .i64 p0,.int .i64 p1]],h4⟩∧Has h4 ((jd,.sl dr.length 2 (kA.l dr))::(aI,.ob [.bool x5.2.aj,.rs gC 0 x5.2.aa.length 4,.rs gA 0 x5.2.ae.length 1])::(gC,.sl x5.2.aa.length 4 (ah.l x5.2.aa))::(gA,.sl x5.2.ae.length 1 (af.l x5.2.ae))::(cD,.ob [.bool x4.aj,.rs eB 0 x4.aa.length 4,.rs fo 0 x4.ae.length 1])::(eB,.sl x4.aa.length 4 (ah.l x4.aa))::(fo,.sl x4.ae.length 1 (af.l x4.ae))::L)) tv H ?_ ?_
  ·rintro⟨p0,p1⟩ s ⟨g0,h4,rfl,o5⟩ H
   have H:=(ED _).symm.trans H
   try dsimp only at H
   refine q1 ?_
   obtain⟨Gl,Ig,H⟩:=lA H
   refine qj (S:=fun (σ:Int) s=>match σ with | Ii=>∃(g1:AV) (h5:AHeap),s=⟨.any::kA.fz bz::mB.fz bP::mC.fz eF :: .any :: .ptr aI 0 :: .ptr cD 0 :: .bool x5.1 :: .rs jd 0 dr.length 2 :: .int .i64 i0 :: .lp 14 0 :: .int .i64 Ii::Ap [g1],[some [.int .i64 p0,.int .i64 p1]],h5⟩∧Has h5 ((jd,.sl dr.length 2 (kA.l dr))::(aI,.ob [.bool x5.2.aj,.rs gC 0 x5.2.aa.length 4,.rs gA 0 x5.2.ae.length 1])::(gC,.sl x5.2.aa.length 4 (ah.l x5.2.aa))::(gA,.sl x5.2.ae.length 1 (af.l x5.2.ae))::(cD,.ob [.bool x4.aj,.rs eB 0 x4.aa.length 4,.rs fo 0 x4.ae.length 1])::(eB,.sl x4.aa.length 4 (ah.l x4.aa))::(fo,.sl x4.ae.length 1 (af.l x4.ae))::L)) Gl H ?_ ?_
   ·rintro Ii s ⟨g1,h5,rfl,o6⟩ H
    have H:=(Ig _).symm.trans H
    try dsimp only at H
    refine q1 ?_
    have o7:Has h5 ((((0)),.sl (([]:List ko).length) 2 (kA.l ([]:List ko)))::(jd,.sl dr.length 2 (kA.l dr))::(aI,.ob [.bool x5.2.aj,.rs gC 0 x5.2.aa.length 4,.rs gA 0 x5.2.ae.length 1])::(gC,.sl x5.2.aa.length 4 (ah.l x5.2.aa))::(gA,.sl x5.2.ae.length 1 (af.l x5.2.ae))::(cD,.ob [.bool x4.aj,.rs eB 0 x4.aa.length 4,.rs fo 0 x4.ae.length 1])::(eB,.sl x4.aa.length 4 (ah.l x4.aa))::(fo,.sl x4.ae.length 1 (af.l x4.ae))::L):=Has.nil o6 2
    refine qq ?_
    obtain⟨v4,yy,H⟩:=bh H
    obtain⟨x6,CG,H⟩:=bh H
    obtain⟨Dh,h6,A6,o8⟩:=gH (P:=Try.prog) (E:=kA) (l:=([]:List ko)) (q:=0) (t2:=23) (x:=.rs jd (0+((0:Int)).toNat*2) ((Ii).toNat - ((0:Int)).toNat) 2) (l2:=v4) If o7 rfl (sG (E:=kA) (q:=1) (l:=dr) o7 rfl yy) rfl CG
    refine qr [.v 3 (Jo (k':=.i64) (E:=kA) (q:=1) (l:=dr) If o7 rfl yy),.a 4 A6] <| qq ?_
    obtain⟨x7,ER,H⟩:=bh H
    obtain⟨il,h7,ES,o9⟩:=gH (P:=Try.prog) (E:=kA) (l:=x6) (q:=0) (t2:=23) (x:=.fz [.int .i64 p0,.int .i64 p1] 1 true) (l2:=([(ko.mk p0 p1)])) If o8 rfl (by kernel_rfl) rfl ER
    refine qr [.a 3 ES] ?_
    obtain⟨v5,Gg,H⟩:=bh H
    obtain⟨x8,ET,H⟩:=bh H
    obtain⟨iZ,h8,Hg,xI⟩:=gH (P:=Try.prog) (E:=kA) (l:=x7) (q:=0) (t2:=23) (x:=.rs jd (0+(Ii).toNat*2) (((dr.length:Int)).toNat - (Ii).toNat) 2) (l2:=v5) If o9 rfl (sG (E:=kA) (q:=1) (l:=dr) o9 rfl Gg) rfl ET
    refine qr [.v 3 (Jp (k:=.i64) (E:=kA) (q:=1) (l:=dr) If o9 rfl Gg),.a 4 Hg] ?_
    have Di:Has h8 ((iZ,.sl x8.length 2 (kA.l x8))::(aI,.ob [.bool x5.2.aj,.rs gC 0 x5.2.aa.length 4,.rs gA 0 x5.2.ae.length 1])::(gC,.sl x5.2.aa.length 4 (ah.l x5.2.aa))::(gA,.sl x5.2.ae.length 1 (af.l x5.2.ae))::(cD,.ob [.bool x4.aj,.rs eB 0 x4.aa.length 4,.rs fo 0 x4.ae.length 1])::(eB,.sl x4.aa.length 4 (ah.l x4.aa))::(fo,.sl x4.ae.length 1 (af.l x4.ae))::L):=Has.del xI 1
    exact q0 <| ⟨(x8,i64.wrap (i0+(1:Int))),⟨iZ,h8,by kernel_rfl,Di⟩,H⟩
   clear Ig
   intro CM
   refine q1 <| qc H (fun c7 H=>?_) (fun c7 H=>?_)
   ·obtain⟨v2,wv,H⟩:=bh H
    obtain⟨v3,zj,H⟩:=bh H
    exact qr [.v 2 (eW (k:=.i64) (E:=mB) (l:=bP) To wv),.v 3 (ij  (E:=mB) (l:=bP) h4 A5 wv rfl),.v 8 (show jF Try.prog .rem 3 (.int .i64 (i64.wrap v2)) (.int .i64 (i64.wrap ((dr.length:Int)+(1:Int))))=some (.int .i64 v3) from GS zj)] <| CM v3 _ ⟨.any,h4,by kernel_rfl,o5⟩ H
   ·exact qk <| CM (0:Int) _ ⟨.bool (decide (i0<(bP.length:Int))),h4,by kernel_rfl,o5⟩ H
  clear ED
  intro oV
  refine qq ?_
  rcases iA H with⟨c4,H⟩| ⟨c4,H⟩
  ·obtain⟨v1,tw,H⟩:=bh H
   refine qr [.b 4 c4,.v 7 (eW (k:=.i64) (E:=mC) (l:=eF) Tp tw),.v 8 (ij  (E:=mC) (l:=eF) h3 A4 tw rfl)] <| qc H (fun c5 H=>?_) (fun c5 H=>?_)
   ·exact q0 <| oV (v0.a1,v0.a0) _ ⟨.any,h3,by kernel_rfl,o4⟩ H
   ·exact qk <| oV (v0.a0,v0.a1) _ ⟨.bool v1,h3,by kernel_rfl,o4⟩ H
  ·exact qr [.b 4 c4] <| Ek <| qk <| oV (v0.a0,v0.a1) _ ⟨.bool false,h3,by kernel_rfl,o4⟩ H
 ·exact qx 0 <| ⟨rfl,dr,i0,oi H,kA.fz bz,mB.fz bP,mC.fz eF,.int .i64 i0,.bool (decide (i0<(bz.length:Int))),jd,h3,by kernel_rfl,o4⟩
theorem mc {aV:FuncId→b5}(ha:aV 3=E5)(L9:QR cf m)(Hj:QN cf m)(Ma:RI cf m)(Mb:Ru cf m)(Mc:QS cf m)(Hk:Rv cf m)(l0:List aN)(bz:List ko)(bP:List Int)(eF:List Bool)(h:AHeap)(L:Mem)  (o:Has h (L)){out:Bool}(H:aY.f m l0 bz bP eF=some out) :
  ∃r h',aZ Try.prog aV cf m 3 [aU.fz l0,kA.fz bz,mB.fz bP,mC.fz eF] h=some (r,h')∧fA h' r (.bool out):=by
 refine ar (fn:=Try.f3) ha Try.func3 (by kernel_rfl) (by kernel_rfl) ?_
 refine aH (Q:=fun s=>aY.fin L out s) (fun _ _ h=>h) ?_
 have H:_=some out:=H
 unfold aY.f at H
 show dp _ cf E5 m _ ⟨aU.fz l0::kA.fz bz::mB.fz bP::mC.fz eF::vD [],[none],h⟩ _
 refine q1 <| qq <| qq ?_
 obtain⟨x0,e0,H⟩:=bh H
 rcases iA H with⟨c0,H⟩| ⟨c0,H⟩
 ·refine qr [.a 1 (L9 _ _ e0 h _ (gv (ai (fy (E:=aU)) (ay)))),.b 2 c0] <| LC <| qq ?_
  obtain⟨x1,e1,H⟩:=bh H
  obtain rfl:=oi H
  exact qr [.a 0 (Hj _ e1 h _ (gv (ay)))] <| qt <| ⟨.inl rfl,dC (.bool x1) h (dB (aD))⟩
 ·refine qr [.a 1 (L9 _ _ e0 h _ (gv (ai (fy (E:=aU)) (ay)))),.b 2 c0] <| qc H (fun c2 H=>?_) (fun c2 H=>?_)
  ·refine qq ?_
   obtain⟨x2,e2,H⟩:=bh H
   obtain rfl:=oi H
   exact qr [.a 0 (Hj _ e2 h _ (gv (ay)))] <| qt <| ⟨.inl rfl,dC (.bool x2) h (dB (aD))⟩
  ·refine qk <| qq ?_
   obtain⟨x3,e3,H⟩:=bh H
   obtain⟨aI,dR,eS,h0,e4,o0⟩:=Ma _ _ e3 h _  (o)  [aU.fz l0] (au (aL (mF (E:=aU))) (bE))
   obtain⟨x4,e5,H⟩:=bh H
   obtain⟨cD,eB,fo,h1,e6,o1⟩:=Ma _ _ e5 h0 _  (o0)  [aU.fz l0] (au (aL (mF (E:=aU))) (bE))
   refine qr [.a 1 e4,.a 3 e6] <| qq ?_
   obtain⟨x5,e7,H⟩:=bh H
   obtain⟨gC,gA,h2,e8,o2⟩:=Mb _ _ _ e7 h1 _ _ _ _ ((Has.front (Has.front (Has.front (Has.front (Has.front (Has.front o1 2 rfl) 2 rfl) 2 rfl) 5 rfl) 5 rfl) 5 rfl))  [.ptr aI 0,kA.fz bz] (au (rfl) (au (aL (mF (E:=kA))) (bE)))
   refine qr [.a 2 e8] <| qq <| q0 ?_
   have o3:Has h2 (((0),.sl (([]:List ko).length) 2 (kA.l ([]:List ko)))::(aI,.ob [.bool x5.2.aj,.rs gC 0 x5.2.aa.length 4,.rs gA 0 x5.2.ae.length 1])::(gC,.sl x5.2.aa.length 4 (ah.l x5.2.aa))::(gA,.sl x5.2.ae.length 1 (af.l x5.2.ae))::(cD,.ob [.bool x4.aj,.rs eB 0 x4.aa.length 4,.rs fo 0 x4.ae.length 1])::(eB,.sl x4.aa.length 4 (ah.l x4.aa))::(fo,.sl x4.ae.length 1 (af.l x4.ae))::L):=Has.nil o2 2
   refine qq <| qq <| q0 <| qb 0 ?_
   obtain⟨b4,Gh,H⟩:=bh H
   refine ql (aY.di L l0 bz bP eF aI x4 cD eB fo x5 gC gA   (([]:List ko),(0:Int)) _ _ ⟨(0),h2,by kernel_rfl,o3⟩ Gh) ?_
   rintro e s ⟨rfl,vS,i1,rfl,g2,g3,g4,g5,g6,kT,h9,rfl,Dj⟩
   try dsimp only at H
   refine qq ?_
   obtain⟨h10,Gi,vQ⟩:=pK (E:=kA) (l:=vS) (q:=0) Dj rfl
   obtain⟨x9,Gj,H⟩:=bh H
   obtain⟨ec,fW,h11,Hh,nl⟩:=Mb _ _ _ Gj h10 _ _ _ _ ((Has.front (Has.front (Has.front (Has.front (Has.front (Has.front vQ 2 rfl) 2 rfl) 2 rfl) 5 rfl) 5 rfl) 5 rfl))  [.ptr cD 0,kA.fz vS] (au (rfl) (au (aL (mF (E:=kA))) (bE)))
   refine Kt [.a 0 Gi] [.a 2 Hh] <| qq ?_
   rcases iA H with⟨c8,H⟩| ⟨c8,H⟩
   ·rcases iA H with⟨c9,H⟩| ⟨c9,H⟩
    ·obtain⟨kB,Gk,H⟩:=bh H
     refine qr [.b 3 c8,.b 6 c9,.a 15 (Hj _ Gk h11 _ (gv (ay)))] ?_
     have EV:Has h11 ((cD,.ob [.bool x9.2.aj,.rs ec 0 x9.2.aa.length 4,.rs fW 0 x9.2.ae.length 1])::(ec,.sl x9.2.aa.length 4 (ah.l x9.2.aa))::(fW,.sl x9.2.ae.length 1 (af.l x9.2.ae))::(aI,.ob [.bool x5.2.aj,.rs gC 0 x5.2.aa.length 4,.rs gA 0 x5.2.ae.length 1])::(gC,.sl x5.2.aa.length 4 (ah.l x5.2.aa))::L):=Has.del nl 5
     have zr:Has h11 ((cD,.ob [.bool x9.2.aj,.rs ec 0 x9.2.aa.length 4,.rs fW 0 x9.2.ae.length 1])::(ec,.sl x9.2.aa.length 4 (ah.l x9.2.aa))::(fW,.sl x9.2.ae.length 1 (af.l x9.2.ae))::(aI,.ob [.bool x5.2.aj,.rs gC 0 x5.2.aa.length 4,.rs gA 0 x5.2.ae.length 1])::L):=Has.del EV 4
     have Dl:Has h11 ((cD,.ob [.bool x9.2.aj,.rs ec 0 x9.2.aa.length 4,.rs fW 0 x9.2.ae.length 1])::(ec,.sl x9.2.aa.length 4 (ah.l x9.2.aa))::(fW,.sl x9.2.ae.length 1 (af.l x9.2.ae))::L):=Has.del zr 3
     have Dk:Has h11 ((cD,.ob [.bool x9.2.aj,.rs ec 0 x9.2.aa.length 4,.rs fW 0 x9.2.ae.length 1])::(ec,.sl x9.2.aa.length 4 (ah.l x9.2.aa))::L):=Has.del Dl 2
     have CL:Has h11 ((cD,.ob [.bool x9.2.aj,.rs ec 0 x9.2.aa.length 4,.rs fW 0 x9.2.ae.length 1])::L):=Has.del Dk 1
     have M9:Has h11 (L):=Has.del CL 0
     obtain rfl:=oi H
     exact qt <| ⟨.inl rfl,dC (.bool kB) h11 (dB (aD))⟩
    ·obtain⟨AJ,Hi,H⟩:=bh H
     obtain⟨EE,Ky,H⟩:=bh H
     obtain⟨sJ,Kw,H⟩:=bh H
     rcases iA H with⟨CH,H⟩| ⟨CH,H⟩
     ·obtain⟨L8,Kx,H⟩:=bh H
      refine qr [.b 3 c8,.b 6 c9,.a 8 (Hk _ _ Hi h11 _ (gv (ai (dQ (q:=3) nl rfl (ai (fD) (ai (eh (E:=ah) (l:=x5.2.aa) (q:=4) nl rfl (fun _=>rfl)) (ai (eh (E:=af) (l:=x5.2.ae) (q:=5) nl rfl (fun _=>rfl)) (ay))))) (ay)))),.a 10 (Hk _ _ Ky h11 _ (gv (ai (dQ (q:=0) nl rfl (ai (fD) (ai (eh (E:=ah) (l:=x9.2.aa) (q:=1) nl rfl (fun _=>rfl)) (ai (eh (E:=af) (l:=x9.2.ae) (q:=2) nl rfl (fun _=>rfl)) (ay))))) (ay)))),.a 11 (Mc _ _ _ Kw h11 _ (gv (ai (fy (E:=af)) (ai (fy (E:=af)) (ay))))),.b 14 CH,.a 15 (Hj _ Kx h11 _ (gv (ay)))] ?_
      have CN:Has h11 ((cD,.ob [.bool x9.2.aj,.rs ec 0 x9.2.aa.length 4,.rs fW 0 x9.2.ae.length 1])::(ec,.sl x9.2.aa.length 4 (ah.l x9.2.aa))::(fW,.sl x9.2.ae.length 1 (af.l x9.2.ae))::(aI,.ob [.bool x5.2.aj,.rs gC 0 x5.2.aa.length 4,.rs gA 0 x5.2.ae.length 1])::(gC,.sl x5.2.aa.length 4 (ah.l x5.2.aa))::L):=Has.del nl 5
      have Ih:Has h11 ((cD,.ob [.bool x9.2.aj,.rs ec 0 x9.2.aa.length 4,.rs fW 0 x9.2.ae.length 1])::(ec,.sl x9.2.aa.length 4 (ah.l x9.2.aa))::(fW,.sl x9.2.ae.length 1 (af.l x9.2.ae))::(aI,.ob [.bool x5.2.aj,.rs gC 0 x5.2.aa.length 4,.rs gA 0 x5.2.ae.length 1])::L):=Has.del CN 4
      have L7:Has h11 ((cD,.ob [.bool x9.2.aj,.rs ec 0 x9.2.aa.length 4,.rs fW 0 x9.2.ae.length 1])::(ec,.sl x9.2.aa.length 4 (ah.l x9.2.aa))::(fW,.sl x9.2.ae.length 1 (af.l x9.2.ae))::L):=Has.del Ih 3
      have Py:Has h11 ((cD,.ob [.bool x9.2.aj,.rs ec 0 x9.2.aa.length 4,.rs fW 0 x9.2.ae.length 1])::(ec,.sl x9.2.aa.length 4 (ah.l x9.2.aa))::L):=Has.del L7 2
      have Pz:Has h11 ((cD,.ob [.bool x9.2.aj,.rs ec 0 x9.2.aa.length 4,.rs fW 0 x9.2.ae.length 1])::L):=Has.del Py 1
      have RC:Has h11 (L):=Has.del Pz 0
      obtain rfl:=oi H
      exact qt <| ⟨.inl rfl,dC (.bool L8) h11 (dB (aD))⟩
     ·refine qr [.b 3 c8,.b 6 c9,.a 8 (Hk _ _ Hi h11 _ (gv (ai (dQ (q:=3) nl rfl (ai (fD) (ai (eh (E:=ah) (l:=x5.2.aa) (q:=4) nl rfl (fun _=>rfl)) (ai (eh (E:=af) (l:=x5.2.ae) (q:=5) nl rfl (fun _=>rfl)) (ay))))) (ay)))),.a 10 (Hk _ _ Ky h11 _ (gv (ai (dQ (q:=0) nl rfl (ai (fD) (ai (eh (E:=ah) (l:=x9.2.aa) (q:=1) nl rfl (fun _=>rfl)) (ai (eh (E:=af) (l:=x9.2.ae) (q:=2) nl rfl (fun _=>rfl)) (ay))))) (ay)))),.a 11 (Mc _ _ _ Kw h11 _ (gv (ai (fy (E:=af)) (ai (fy (E:=af)) (ay))))),.b 14 CH] ?_
      have Kz:Has h11 ((cD,.ob [.bool x9.2.aj,.rs ec 0 x9.2.aa.length 4,.rs fW 0 x9.2.ae.length 1])::(ec,.sl x9.2.aa.length 4 (ah.l x9.2.aa))::(fW,.sl x9.2.ae.length 1 (af.l x9.2.ae))::(aI,.ob [.bool x5.2.aj,.rs gC 0 x5.2.aa.length 4,.rs gA 0 x5.2.ae.length 1])::(gC,.sl x5.2.aa.length 4 (ah.l x5.2.aa))::L):=Has.del nl 5
      have PA:Has h11 ((cD,.ob [.bool x9.2.aj,.rs ec 0 x9.2.aa.length 4,.rs fW 0 x9.2.ae.length 1])::(ec,.sl x9.2.aa.length 4 (ah.l x9.2.aa))::(fW,.sl x9.2.ae.length 1 (af.l x9.2.ae))::(aI,.ob [.bool x5.2.aj,.rs gC 0 x5.2.aa.length 4,.rs gA 0 x5.2.ae.length 1])::L):=Has.del Kz 4
      have PB:Has h11 ((cD,.ob [.bool x9.2.aj,.rs ec 0 x9.2.aa.length 4,.rs fW 0 x9.2.ae.length 1])::(ec,.sl x9.2.aa.length 4 (ah.l x9.2.aa))::(fW,.sl x9.2.ae.length 1 (af.l x9.2.ae))::L):=Has.del PA 3
      have PC:Has h11 ((cD,.ob [.bool x9.2.aj,.rs ec 0 x9.2.aa.length 4,.rs fW 0 x9.2.ae.length 1])::(ec,.sl x9.2.aa.length 4 (ah.l x9.2.aa))::L):=Has.del PB 2
      have PD:Has h11 ((cD,.ob [.bool x9.2.aj,.rs ec 0 x9.2.aa.length 4,.rs fW 0 x9.2.ae.length 1])::L):=Has.del PC 1
      have RD:Has h11 (L):=Has.del PD 0
      obtain rfl:=oi H
      exact qt <| ⟨.inl rfl,dC (.bool false) h11 (dB (aD))⟩
   ·refine qr [.b 3 c8] ?_
    have RE:Has h11 ((cD,.ob [.bool x9.2.aj,.rs ec 0 x9.2.aa.length 4,.rs fW 0 x9.2.ae.length 1])::(ec,.sl x9.2.aa.length 4 (ah.l x9.2.aa))::(fW,.sl x9.2.ae.length 1 (af.l x9.2.ae))::(aI,.ob [.bool x5.2.aj,.rs gC 0 x5.2.aa.length 4,.rs gA 0 x5.2.ae.length 1])::(gC,.sl x5.2.aa.length 4 (ah.l x5.2.aa))::L):=Has.del nl 5
    have TK:Has h11 ((cD,.ob [.bool x9.2.aj,.rs ec 0 x9.2.aa.length 4,.rs fW 0 x9.2.ae.length 1])::(ec,.sl x9.2.aa.length 4 (ah.l x9.2.aa))::(fW,.sl x9.2.ae.length 1 (af.l x9.2.ae))::(aI,.ob [.bool x5.2.aj,.rs gC 0 x5.2.aa.length 4,.rs gA 0 x5.2.ae.length 1])::L):=Has.del RE 4
    have TL:Has h11 ((cD,.ob [.bool x9.2.aj,.rs ec 0 x9.2.aa.length 4,.rs fW 0 x9.2.ae.length 1])::(ec,.sl x9.2.aa.length 4 (ah.l x9.2.aa))::(fW,.sl x9.2.ae.length 1 (af.l x9.2.ae))::L):=Has.del TK 3
    have TM:Has h11 ((cD,.ob [.bool x9.2.aj,.rs ec 0 x9.2.aa.length 4,.rs fW 0 x9.2.ae.length 1])::(ec,.sl x9.2.aa.length 4 (ah.l x9.2.aa))::L):=Has.del TL 2
    have TN:Has h11 ((cD,.ob [.bool x9.2.aj,.rs ec 0 x9.2.aa.length 4,.rs fW 0 x9.2.ae.length 1])::L):=Has.del TM 1
    have Vl:Has h11 (L):=Has.del TN 0
    obtain rfl:=oi H
    exact qt <| ⟨.inl rfl,dC (.bool false) h11 (dB (aD))⟩
end
end Go.Proofs.Ytifafejidnjckaa
namespace Go.Proofs.Ytifafejidnjckaa
open Go Go.R
open Go.IntKind (i64 u64 u8 u32)
end Go.Proofs.Ytifafejidnjckaa
namespace Go.Proofs.Ytifafejidnjckaa
open Go Go.R
open Go.IntKind (i64 u64 u8 u32)
end Go.Proofs.Ytifafejidnjckaa
namespace Go.Proofs.Ytifafejidnjckaa
open Go Go.R
open Go.IntKind (i64 u64 u8 u32)
def cC.l0 (m:Nat)(fB:List aN)(kh:Bool):Nat→Int→ab→ab→Option (Int × ab × ab)
 | 0,_,_,_=>none
 | k+1,i0,wq,PU=>if (decide (i0<(fB.length:Int)))=true then (if kh=true then ((ix fB i0).bind fun v0=>(fI.f m PU v0).bind fun x7=>cC.l0 m fB kh k (i64.wrap (i0+(1:Int))) wq x7.2) else ((ix fB i0).bind fun v1=>(fI.f m wq v1).bind fun x8=>cC.l0 m fB kh k (i64.wrap (i0+(1:Int))) x8.2 PU)) else (some ((i0,wq,PU)))
def cC.l1 (m:Nat)(fB:List aN)(kh:Bool):Nat→Int→ab→ab→Option (Int × ab × ab)
 | 0,_,_,_=>none
 | k+1,i2,PV,PW=>if (decide (i2<(fB.length:Int)))=true then (if kh=true then ((ix fB i2).bind fun v2=>(fI.f m PW v2).bind fun TO=>cC.l1 m fB kh k (i64.wrap (i2+(1:Int))) PV TO.2) else ((ix fB i2).bind fun v3=>(fI.f m PV v3).bind fun TP=>cC.l1 m fB kh k (i64.wrap (i2+(1:Int))) TP.2 PW)) else (some ((i2,PV,PW)))
def cC.f (m:Nat)(l0:List aN)(fB:List aN)(kh:Bool):Option (Bool):=(bw.f m l0).bind fun x0=>if x0=true then ((cJ.f m).bind fun x1=>some x1) else ((bw.f m fB).bind fun x2=>if x2=true then ((cJ.f m).bind fun x3=>some x3) else ((bU.f m l0).bind fun x4=>(bU.f m l0).bind fun x5=>(oY.f m x4).bind fun x6=>Om x6.1 (some false) fun pv=>if kh=true then ((cC.l0 m fB kh m (0:Int) pv x6.2).bind fun b4=>match b4 with | (i1,RJ,Vm)=>(ca.f m RJ).bind fun x9=>(ca.f m x5).bind fun kB=>if (x9==kB)=true then ((bM.f m RJ).bind fun AJ=>(bM.f m x5).bind fun EE=>(bW.f m AJ EE).bind fun sJ=>if sJ=true then ((cJ.f m).bind fun L8=>some L8) else (some false)) else (some false)) else ((cC.l1 m fB kh m (0:Int) pv x6.2).bind fun dv=>match dv with | (i3,Vn,RK)=>(ca.f m RK).bind fun TQ=>(ca.f m x5).bind fun TR=>if (TQ==TR)=true then ((bM.f m RK).bind fun TS=>(bM.f m x5).bind fun TT=>(bW.f m TS TT).bind fun TU=>if TU=true then ((cJ.f m).bind fun TV=>some TV) else (some false)) else (some false))))
def S6 (cf:CallF)(m:Nat):Prop:=∀(l0:List aN) (fB:List aN) (kh:Bool) (r:Bool),cC.f m l0 fB kh=some r→∀h xs,aO bR h xs [aU.fz l0,aU.fz fB,.bool kh]→cf 6 xs h=some (.bool r,h)
end Go.Proofs.Ytifafejidnjckaa
