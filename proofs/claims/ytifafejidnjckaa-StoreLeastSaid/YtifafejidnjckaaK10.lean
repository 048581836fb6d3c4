/- Part of the proof: Q72, Q76, Q46, Q43, Q21, Q36, Q17, Q12, Q3, Q4, Q5, Q6, Q7, QA. -/
import Derived.Test.YtifafejidnjckaaK9
set_option linter.unusedVariables false
set_option linter.unusedSimpArgs false
set_option maxRecDepth 100000
open Eq renaming trans → V4
open List renaming length_set → UF
namespace Go.Proofs.Ytifafejidnjckaa
open Go Go.R
open Go.IntKind (i64 u64 u8 u32)
def oI:bX:=gQ [0,1,2,3,4,5,6,7,8,9,10,11,12,13,14,15,17,22,23,24,37,38,39,40,61,73,74,75,76,87,88,89,90,110,126] [12] [34359738365,34359738357,34359345141,34358820853,34359345125,34359345141,34359345141,34359738357,34359738325,34359738261,34352398229,34344009621,34352397845,34335620757,34352397973,34352398229,34352398229,34359737757,34359736733,34124855709,33856420253,34124849565,34124841373,30366749085,26071781789,30366699933,30366749085,30366749085,34124779933,25534910877,34124845469,34124855709,34124855709,17179867613,34359738363,34359738269] [] []
def ax.l0 (m:Nat)(x0:List Int):Nat→(List Int)→Int→Option ((List Int) × Int)
 | 0,_,_=>none
 | k+1,eZ,x1=>if (decide (x1<(x0.length:Int)))=true then ((ix eZ x1).bind fun v0=>ax.l0 m x0 k (eZ.set x1.toNat x1) (i64.wrap (x1+(1:Int)))) else (some ((eZ,x1)))
def ax.l1 (m:Nat)(aI:List aq)(bV:List Int)(x3:(List Int)):Nat→(List Int)→Int→Int→Option ((List Int) × Int × Int)
 | 0,_,_,_=>none
 | k+1,dq,dX,x5=>if (decide (x5<(bV.length:Int)))=true then ((ix x3 x5).bind fun v1=>if (decide (x5 > (0:Int)))=true then ((ix x3 (i64.wrap (x5 - (1:Int)))).bind fun v2=>(ix aI v2).bind fun v3=>(ix aI v1).bind fun v4=>(dh.f m v3 v4).bind fun x6=>if (!(x6==(0:Int)))=true then ((ix dq v1).bind fun v5=>ax.l1 m aI bV x3 k (dq.set v1.toNat (i64.wrap (dX+(1:Int)))) (i64.wrap (dX+(1:Int))) (i64.wrap (x5+(1:Int)))) else ((ix dq v1).bind fun v6=>ax.l1 m aI bV x3 k (dq.set v1.toNat dX) dX (i64.wrap (x5+(1:Int))))) else ((ix dq v1).bind fun v7=>ax.l1 m aI bV x3 k (dq.set v1.toNat dX) dX (i64.wrap (x5+(1:Int))))) else (some ((dq,dX,x5)))
def ax.l4 (m:Nat)(de:List Int)(v8:aq):Nat→(List Int)→Int→Option ((List Int) × Int)
 | 0,_,_=>none
 | k+1,k0,kC=>if (decide (kC<(v8.args.length:Int)))=true then ((ix v8.args kC).bind fun v10=>(ix de v10).bind fun v11=>(ix k0 (i64.wrap (kC+(1:Int)))).bind fun v12=>ax.l4 m de v8 k (k0.set (i64.wrap (kC+(1:Int))).toNat (i64.wrap (v11+(1:Int)))) (i64.wrap (kC+(1:Int)))) else (some ((k0,kC)))
def ax.l3 (m:Nat)(aI:List aq)(de:List Int):Nat→(List (List Int × Int))→(List Int)→Int→Option ((List (List Int × Int)) × (List Int) × Int)
 | 0,_,_,_=>none
 | k+1,fB,du,x9=>if (decide (x9<(aI.length:Int)))=true then ((ix aI x9).bind fun v8=>(ix de x9).bind fun v9=>(ax.l4 m de v8 m ([i64.wrap (v9+(1:Int)),(0:Int),(0:Int),(0:Int),(0:Int),(0:Int),(0:Int),(0:Int),(0:Int)]) (0:Int)).bind fun Li=>match Li with | (k1,yK)=>(Gc 9 fB k1).bind fun r0=>if (!r0.2)=true then ((KD 9 fB k1 (fB.length:Int)).bind fun I5=>(Gc 9 I5 k1).bind fun r1=>(ix du x9).bind fun Mc=>ax.l3 m aI de k I5 (du.set x9.toNat r1.1) (i64.wrap (x9+(1:Int)))) else ((Gc 9 fB k1).bind fun r2=>(ix du x9).bind fun Ss=>ax.l3 m aI de k fB (du.set x9.toNat r2.1) (i64.wrap (x9+(1:Int))))) else (some ((fB,du,x9)))
def ax.l2 (m:Nat)(aI:List aq):Nat→(List Int)→Int→Option (Sum (List Int) ((List Int) × Int))
 | 0,_,_=>none
 | k+1,de,ja=>(CB 8 (aI.length:Int) (0:Int)).bind fun x8=>(ax.l3 m aI de m ([]:List (List Int × Int)) x8 (0:Int)).bind fun Lj=>match Lj with | (nj,my,Ht)=>if ((nj.length:Int)==(i64.wrap (ja+(1:Int))))=true then (some (.inl de)) else (ax.l2 m aI k my (i64.wrap ((nj.length:Int) - (1:Int))))
def ax.f (m:Nat)(aI:List aq):Option ((List Int)):=(CB 8 (aI.length:Int) (0:Int)).bind fun x0=>(ax.l0 m x0 m x0 (0:Int)).bind fun bZ=>match bZ with | (bV,x2)=>(eX.f m bV (fun y0 y1=>dG.f m y0 y1 aI)).bind fun x3=>(CB 8 (aI.length:Int) (0:Int)).bind fun x4=>(ax.l1 m aI bV x3 m x4 (0:Int) (0:Int)).bind fun Eh=>match Eh with | (mu,many1,x7)=>(ax.l2 m aI m mu many1).bind fun Lk=>match Lk with | .inl r3=>some r3 | .inr (OA,Ll)=>none
def ax.fin (L:Mem)(r:(List Int))(s:St):Prop:=∃av,aM Try.prog (s.open oI) Try.f72.results.toList=some av∧ff s.h av (af.fz r)
def QC (cf:CallF)(m:Nat):Prop:=∀(aI:List aq) (r:(List Int)),ax.f m aI=some r→∀h xs,aO bO h xs [ai.fz aI]→cf 72 xs h=some (af.fz r,h)
section
variable {cf:CallF}{m:Nat}
theorem ax.dm (L:Mem)(aI:List aq)(aJ:Nat)(x0:List Int)   : dS Try.prog cf oI m (sub [1,1,0,1,0,0] (b8 Try.f72)) (fun k (σ:(List Int) × Int)=>ax.l0 m x0 k σ.1 σ.2) (fun σ s=>match σ with | (eZ,x1)=>∃eM h2,s=⟨.any :: .ptr aJ 0 :: .any :: .rs eM 0 eZ.length 1::qn (.int .i64 (x0.length:Int) :: .int .i64 x1::Gf []),[none],h2⟩∧Has h2 ((eM,.sl eZ.length 1 (af.l eZ))::(aJ,.ob [ai.fz aI])::L)) (fun out e s=>(e = .exit 0∧∃eZ x1,(eZ,x1)=out∧∃Eb OB OC eM h2,s=⟨.any :: .ptr aJ 0 :: .any :: .rs eM 0 eZ.length 1::qn (Eb::OB::OC::Nk []),[none],h2⟩∧Has h2 ((eM,.sl eZ.length 1 (af.l eZ))::(aJ,.ob [ai.fz aI])::L))):=by
 refine me (fun _=>rfl) ?_
 rintro k ⟨eZ,x1⟩ s out ⟨eM,h2,rfl,o2⟩ H
 have H:ax.l0 m x0 (k+1) eZ x1=some out:=H
 refine q1 <| qq <| qc H (fun c0 H=>?_) (fun c0 H=>?_)
 ·refine qk <| qq <| qb 1 <| qq <| q0 ?_
  obtain⟨v0,e3,H⟩:=bj H
  obtain⟨h3,e4,o3⟩:=fw (P:=Try.prog) (tf:=3) (E:=af) (l:=eZ) (q:=0) (v:=x1) (x:=.int .i64 x1) o2 rfl Z3 e3 rfl rfl
  exact qr [.v 3 (bo (k:=.i64) (E:=af) (l:=eZ) (q:=0) fU o2 rfl e3),.w 4 e4] <| q0 <| ⟨(eZ.set x1.toNat x1,i64.wrap (x1+(1:Int))),⟨eM,h3,(V4 (b:=⟨.any :: .ptr aJ 0 :: .any :: .rs eM 0 eZ.length 1::qn (.int .i64 (x0.length:Int) :: .int .i64 (i64.wrap (x1+(1:Int)))::Gf []),[none],h3⟩) (by kernel_rfl) (by simp only [UF])),(by have o:Has h3 ((eM,.sl eZ.length 1 (af.l (eZ.set x1.toNat x1)))::(aJ,.ob [ai.fz aI])::L):=o3; simpa only [UF] using o)⟩,H⟩
 ·exact qx 0 <| ⟨rfl,eZ,x1,oi H,.int .i64 (x0.length:Int),.int .i64 x1,.bool (decide (x1<(x0.length:Int))),eM,h2,by kernel_rfl,o2⟩
theorem ax.mj (L:Mem)(aI:List aq)(aJ:Nat)(cZ:Nat)(bV:List Int)(cZ:Nat)(x3:(List Int))  (Eg:Mb cf m):dS Try.prog cf oI m (sub [1,1,1,1,1,1,0,1,0,0] (b8 Try.f72)) (fun k (σ:(List Int) × Int × Int)=>ax.l1 m aI bV x3 k σ.1 σ.2.1 σ.2.2) (fun σ s=>match σ with | (dq,dX,x5)=>∃eS h7,s=⟨.any :: .ptr aJ 0 :: .any :: .rs cZ 0 bV.length 1 :: .any :: .rs eS 0 dq.length 1 :: .int .i64 dX::qn (.rs cZ 0 bV.length 1 :: .int .i64 (bV.length:Int) :: .int .i64 x5::u6 []),[none],h7⟩∧Has h7 ((eS,.sl dq.length 1 (af.l dq))::(cZ,.sl bV.length 1 (af.l x3))::(aJ,.ob [ai.fz aI])::L)) (fun out e s=>(e = .exit 2∧∃dq dX x5,(dq,dX,x5)=out∧∃DX En Eo I6 I7 eS h7,s=⟨.any :: .ptr aJ 0 :: .any::DX :: .any :: .rs eS 0 dq.length 1 :: .int .i64 dX::qn (En::Eo::I6::I7::sV []),[none],h7⟩∧Has h7 ((eS,.sl dq.length 1 (af.l dq))::(cZ,.sl bV.length 1 (af.l x3))::(aJ,.ob [ai.fz aI])::L))):=by
 refine me (fun _=>rfl) ?_
 rintro k ⟨dq,dX,x5⟩ s out ⟨eS,h7,rfl,o7⟩ H
 have H:ax.l1 m aI bV x3 (k+1) dq dX x5=some out:=H
 refine q1 <| qq <| qc H (fun c1 H=>?_) (fun c1 H=>?_)
 ·refine qk <| qq <| qb 3 <| qq ?_
  obtain⟨v1,sY,H⟩:=bj H
  refine qr [.v 1 (bo (k:=.i64) (E:=af) (l:=x3) (q:=1) fU o7 rfl sY),.v 2 (dB  (E:=af) (l:=x3) (q:=1) o7 rfl A3 sY rfl)] <| qq <| qq ?_
  rcases iG H with⟨c2,H⟩| ⟨c2,H⟩
  ·obtain⟨v2,tS,H⟩:=bj H
   obtain⟨v3,vI,H⟩:=bj H
   obtain⟨v4,xT,H⟩:=bj H
   obtain⟨x6,Ad,H⟩:=bj H
   refine qr [.b 2 c2,.v 3 (show bm Try.prog h7 40 (.ptr aJ 0)=some (ai.fz aI) from bW (q:=2) (cs:=[ai.fz aI]) o7 rfl (by kernel_rfl)),.v 7 (bo (k:=.i64) (E:=af) (l:=x3) (q:=1) fU o7 rfl tS),.v 8 (dB  (E:=af) (l:=x3) (q:=1) o7 rfl A3 tS rfl),.v 9 (eA (k:=.i64) (E:=ai) (l:=aI) xS vI),.v 10 (ma  (E:=ai) (l:=aI) h7 Fz FA vI),.v 11 (show bm Try.prog h7 40 (.ptr aJ 0)=some (ai.fz aI) from bW (q:=2) (cs:=[ai.fz aI]) o7 rfl (by kernel_rfl)),.v 13 (eA (k:=.i64) (E:=ai) (l:=aI) xS xT),.v 14 (ma  (E:=ai) (l:=aI) h7 Fz FA xT),.a 15 (Eg _ _ _ Ad h7 _ (gp (ah (jG (ah (bz) (ah (bz) (ah (cN) (ah (fy (E:=af)) (ay)))))) (ah (jG (ah (bz) (ah (bz) (ah (cN) (ah (fy (E:=af)) (ay)))))) (ay)))))] ?_
   refine qc H (fun c3 H=>?_) (fun c3 H=>?_)
   ·refine q0 ?_
    obtain⟨v5,yP,H⟩:=bj H
    obtain⟨h8,Ec,o8⟩:=fw (P:=Try.prog) (tf:=3) (E:=af) (l:=dq) (q:=0) (v:=(i64.wrap (dX+(1:Int)))) (x:=.int .i64 (i64.wrap (dX+(1:Int)))) o7 rfl Z3 yP rfl rfl
    exact qr [.v 3 (bo (k:=.i64) (E:=af) (l:=dq) (q:=0) fU o7 rfl yP),.w 4 Ec] <| q0 <| ⟨(dq.set v1.toNat (i64.wrap (dX+(1:Int))),i64.wrap (dX+(1:Int)),i64.wrap (x5+(1:Int))),⟨eS,h8,(V4 (b:=⟨.any :: .ptr aJ 0 :: .any :: .rs cZ 0 bV.length 1 :: .any :: .rs eS 0 dq.length 1 :: .int .i64 (i64.wrap (dX+(1:Int)))::qn (.rs cZ 0 bV.length 1 :: .int .i64 (bV.length:Int) :: .int .i64 (i64.wrap (x5+(1:Int)))::u6 []),[none],h8⟩) (by kernel_rfl) (by simp only [UF])),(by have o:Has h8 ((eS,.sl dq.length 1 (af.l (dq.set v1.toNat (i64.wrap (dX+(1:Int))))))::(cZ,.sl bV.length 1 (af.l x3))::(aJ,.ob [ai.fz aI])::L):=o8; simpa only [UF] using o)⟩,H⟩
   ·refine qk ?_
    obtain⟨v6,Ed,H⟩:=bj H
    obtain⟨h9,GA,o9⟩:=fw (P:=Try.prog) (tf:=3) (E:=af) (l:=dq) (q:=0) (v:=dX) (x:=.int .i64 dX) o7 rfl Z3 Ed rfl rfl
    exact qr [.v 3 (bo (k:=.i64) (E:=af) (l:=dq) (q:=0) fU o7 rfl Ed),.w 4 GA] <| q0 <| ⟨(dq.set v1.toNat dX,dX,i64.wrap (x5+(1:Int))),⟨eS,h9,(V4 (b:=⟨.any :: .ptr aJ 0 :: .any :: .rs cZ 0 bV.length 1 :: .any :: .rs eS 0 dq.length 1 :: .int .i64 dX::qn (.rs cZ 0 bV.length 1 :: .int .i64 (bV.length:Int) :: .int .i64 (i64.wrap (x5+(1:Int)))::u6 []),[none],h9⟩) (by kernel_rfl) (by simp only [UF])),(by have o:Has h9 ((eS,.sl dq.length 1 (af.l (dq.set v1.toNat dX)))::(cZ,.sl bV.length 1 (af.l x3))::(aJ,.ob [ai.fz aI])::L):=o9; simpa only [UF] using o)⟩,H⟩
  ·refine qr [.b 2 c2] <| DJ <| qk ?_
   obtain⟨v7,CF,H⟩:=bj H
   obtain⟨h10,FB,xd⟩:=fw (P:=Try.prog) (tf:=3) (E:=af) (l:=dq) (q:=0) (v:=dX) (x:=.int .i64 dX) o7 rfl Z3 CF rfl rfl
   exact qr [.v 3 (bo (k:=.i64) (E:=af) (l:=dq) (q:=0) fU o7 rfl CF),.w 4 FB] <| q0 <| ⟨(dq.set v1.toNat dX,dX,i64.wrap (x5+(1:Int))),⟨eS,h10,(V4 (b:=⟨.any :: .ptr aJ 0 :: .any :: .rs cZ 0 bV.length 1 :: .any :: .rs eS 0 dq.length 1 :: .int .i64 dX::qn (.rs cZ 0 bV.length 1 :: .int .i64 (bV.length:Int) :: .int .i64 (i64.wrap (x5+(1:Int)))::u6 []),[none],h10⟩) (by kernel_rfl) (by simp only [UF])),(by have o:Has h10 ((eS,.sl dq.length 1 (af.l (dq.set v1.toNat dX)))::(cZ,.sl bV.length 1 (af.l x3))::(aJ,.ob [ai.fz aI])::L):=xd; simpa only [UF] using o)⟩,H⟩
 ·exact qx 2 <| ⟨rfl,dq,dX,x5,oi H,.rs cZ 0 bV.length 1,.rs cZ 0 bV.length 1,.int .i64 (bV.length:Int),.int .i64 x5,.bool (decide (x5<(bV.length:Int))),eS,h7,(V4 (b:=⟨.any :: .ptr aJ 0 :: .any :: .rs cZ 0 bV.length 1 :: .any :: .rs eS 0 dq.length 1 :: .int .i64 dX::qn (.rs cZ 0 bV.length 1 :: .int .i64 (bV.length:Int) :: .int .i64 x5 :: .bool (decide (x5<(bV.length:Int)))::sV []),[none],h7⟩) (by kernel_rfl) (by simp only [UF])),(by have o:Has h7 ((eS,.sl dq.length 1 (af.l dq))::(cZ,.sl bV.length 1 (af.l x3))::(aJ,.ob [ai.fz aI])::L):=o7; simpa only [UF] using o)⟩
theorem ax.Ej (L:Mem)(aI:List aq)(aJ:Nat)(hU:Nat)(de:List Int)(ja:Int)(hU:Nat)(jc:Nat)(fj:Nat)(fB:List (List Int × Int))(du:List Int)(x9:Int)(fj:Nat)(v8:aq)(gR:Nat)   : dS Try.prog cf oI m (sub [1,1,1,1,1,1,1,0,0,0,1,1,0,1,0,0,1,1,0,0,1,1,0,1,0,0] (b8 Try.f72)) (fun k (σ:(List Int) × Int)=>ax.l4 m de v8 k σ.1 σ.2) (fun σ s=>match σ with | (k0,kC)=>∃h18,s=⟨.any :: .ptr aJ 0::sJ (.rs hU 0 de.length 1 :: .int .i64 ja :: .any :: .any :: .mp jc :: .rs fj 0 du.length 1 :: .int .i64 x9 :: .any :: .ptr gR 0::sV (ai.fz aI :: .int .i64 (aI.length:Int) :: .int .i64 x9 :: .any::af.fz v8.args :: .int .i64 (v8.args.length:Int) :: .int .i64 kC::sJ [])),[none],h18⟩∧Has h18 ((gR,.sl 9 1 (af.l k0))::(fj,.sl du.length 1 (af.l du))::(jc,.mp (sU fB))::(hU,.sl de.length 1 (af.l de))::(aJ,.ob [ai.fz aI])::L)) (fun out e s=>(e = .exit 8∧∃k0 kC,(k0,kC)=out∧∃OD OE OF OG h18,s=⟨.any :: .ptr aJ 0::sJ (.rs hU 0 de.length 1 :: .int .i64 ja :: .any :: .any :: .mp jc :: .rs fj 0 du.length 1 :: .int .i64 x9 :: .any :: .ptr gR 0::sV [ai.fz aI,.int .i64 (aI.length:Int),.int .i64 x9,.any,OD,OE,OF,OG,.any,.any]),[none],h18⟩∧Has h18 ((gR,.sl 9 1 (af.l k0))::(fj,.sl du.length 1 (af.l du))::(jc,.mp (sU fB))::(hU,.sl de.length 1 (af.l de))::(aJ,.ob [ai.fz aI])::L))):=by
 refine me (fun _=>rfl) ?_
 rintro k ⟨k0,kC⟩ s out ⟨h18,rfl,B5⟩ H
 have H:ax.l4 m de v8 (k+1) k0 kC=some out:=H
 refine q1 <| qq <| qc H (fun c6 H=>?_) (fun c6 H=>?_)
 ·refine qk <| qq <| qb 9 <| qq ?_
  obtain⟨v10,Mg,H⟩:=bj H
  refine qr [.v 1 (eA (k:=.i64) (E:=af) (l:=v8.args) fU Mg),.v 2 (fu  (E:=af) (l:=v8.args) h18 A3 Mg rfl)] ?_
  obtain⟨v11,Me,H⟩:=bj H
  obtain⟨v12,Mf,H⟩:=bj H
  obtain⟨h19,Su,B6⟩:=fw (P:=Try.prog) (tf:=3) (E:=af) (l:=k0) (q:=0) (v:=(i64.wrap (v11+(1:Int)))) (x:=.int .i64 (i64.wrap (v11+(1:Int)))) B5 rfl Z3 Mf rfl rfl
  exact qr [.v 4 (bo (k:=.i64) (E:=af) (l:=de) (q:=3) fU B5 rfl Me),.v 5 (dB  (E:=af) (l:=de) (q:=3) B5 rfl A3 Me rfl),.v 7 (Im (k:=.i64) (q:=0) (l:=k0) tQ B5 rfl Mf),.w 8 Su] <| q0 <| ⟨(k0.set (i64.wrap (kC+(1:Int))).toNat (i64.wrap (v11+(1:Int))),i64.wrap (kC+(1:Int))),⟨h19,by kernel_rfl,B6⟩,H⟩
 ·exact qx 8 <| ⟨rfl,k0,kC,oi H,af.fz v8.args,.int .i64 (v8.args.length:Int),.int .i64 kC,.bool (decide (kC<(v8.args.length:Int))),h18,by kernel_rfl,B5⟩
theorem ax.Ei (L:Mem)(aI:List aq)(aJ:Nat)(hU:Nat)(de:List Int)(ja:Int)(hU:Nat)(jc:Nat)   : dS Try.prog cf oI m (sub [1,1,1,1,1,1,1,0,0,0,1,1,0,1,0,0] (b8 Try.f72)) (fun k (σ:(List (List Int × Int)) × (List Int) × Int)=>ax.l3 m aI de k σ.1 σ.2.1 σ.2.2) (fun σ s=>match σ with | (fB,du,x9)=>∃fj h15,s=⟨.any :: .ptr aJ 0::sJ (.rs hU 0 de.length 1 :: .int .i64 ja :: .any :: .any :: .mp jc :: .rs fj 0 du.length 1::u7 (ai.fz aI :: .int .i64 (aI.length:Int) :: .int .i64 x9::Ge [])),[none],h15⟩∧Has h15 ((fj,.sl du.length 1 (af.l du))::(jc,.mp (sU fB))::(hU,.sl de.length 1 (af.l de))::(aJ,.ob [ai.fz aI])::L)) (fun out e s=>(e = .exit 6∧∃fB du x9,(fB,du,x9)=out∧∃OH OI OJ OK fj h15,s=⟨.any :: .ptr aJ 0::sJ (.rs hU 0 de.length 1 :: .int .i64 ja :: .any :: .any :: .mp jc :: .rs fj 0 du.length 1::u7 (OH::OI::OJ::OK::wS [])),[none],h15⟩∧Has h15 ((fj,.sl du.length 1 (af.l du))::(jc,.mp (sU fB))::(hU,.sl de.length 1 (af.l de))::(aJ,.ob [ai.fz aI])::L))):=by
 refine me (fun _=>rfl) ?_
 rintro k ⟨fB,du,x9⟩ s out ⟨fj,h15,rfl,yT⟩ H
 have H:ax.l3 m aI de (k+1) fB du x9=some out:=H
 refine q1 <| qq <| qc H (fun c5 H=>?_) (fun c5 H=>?_)
 ·refine qk <| qq <| qb 7 <| qq ?_
  obtain⟨v8,Hw,H⟩:=bj H
  refine qr [.v 1 (eA (k:=.i64) (E:=ai) (l:=aI) xS Hw),.v 2 (ma  (E:=ai) (l:=aI) h15 Fz FA Hw)] <| qq ?_
  obtain⟨v9,JP,H⟩:=bj H
  obtain⟨gR,h16,Oo,Ek⟩:=Gd (cs:=[.int .i64 (0:Int),.int .i64 (0:Int),.int .i64 (0:Int),.int .i64 (0:Int),.int .i64 (0:Int),.int .i64 (0:Int),.int .i64 (0:Int),.int .i64 (0:Int),.int .i64 (0:Int)]) (l:=[(0:Int),(0:Int),(0:Int),(0:Int),(0:Int),(0:Int),(0:Int),(0:Int),(0:Int)]) yT (by kernel_rfl)
  obtain⟨h17,On,CI⟩:=Io (q:=0) (l:=([(0:Int),(0:Int),(0:Int),(0:Int),(0:Int),(0:Int),(0:Int),(0:Int),(0:Int)])) (l':=[i64.wrap (v9+(1:Int)),(0:Int),(0:Int),(0:Int),(0:Int),(0:Int),(0:Int),(0:Int),(0:Int)]) (x:=.agg [.int .i64 (i64.wrap (v9+(1:Int))),.int .i64 (0:Int),.int .i64 (0:Int),.int .i64 (0:Int),.int .i64 (0:Int),.int .i64 (0:Int),.int .i64 (0:Int),.int .i64 (0:Int),.int .i64 (0:Int)]) tQ Ek rfl rfl rfl
  refine qr [.v 2 (bo (k:=.i64) (E:=af) (l:=de) (q:=2) fU yT rfl JP),.v 3 (dB  (E:=af) (l:=de) (q:=2) yT rfl A3 JP rfl),.a 6 Oo,.w 7 On] <| qq <| qq <| q0 <| qb 8 ?_
  obtain⟨Li,Sv,H⟩:=bj H
  refine ql (ax.Ej L aI aJ hU de ja hU jc fj fB du x9 fj v8 gR   ([i64.wrap (v9+(1:Int)),(0:Int),(0:Int),(0:Int),(0:Int),(0:Int),(0:Int),(0:Int),(0:Int)],(0:Int)) _ _ ⟨h17,by kernel_rfl,CI⟩ Sv) ?_
  rintro e s ⟨rfl,k1,yK,rfl,g13,g14,g15,g16,h20,rfl,B7⟩
  try dsimp only at H
  refine qq <| qq ?_
  obtain⟨r0,Sw,H⟩:=bj H
  refine qr [.v 1 (show bm Try.prog h20 115 (.ptr gR 0)=some (.agg (af.l k1)) from uZ (q:=0) (l:=k1) tQ B7 rfl),.v 2 (show fK Try.prog h20 113 (.mp jc) (.agg (af.l k1)) true=some (.tup [.int .i64 r0.1,.bool r0.2]) from (Ik (q:=2) (l:=fB) (k:=k1) zV B7 rfl Sw).1)] <| qq <| q0 <| qc H (fun c7 H=>?_) (fun c7 H=>?_)
  ·obtain⟨I5,Sx,H⟩:=bj H
   obtain⟨h21,Sy,Hx⟩:=Nj (q:=2) (l:=fB) (k:=k1) (v:=(fB.length:Int)) zV B7 rfl Sx
   refine qr [.v 1 (show bm Try.prog h20 115 (.ptr gR 0)=some (.agg (af.l k1)) from uZ (q:=0) (l:=k1) tQ B7 rfl),.v 3 (show q8 Try.prog h20 113 (.mp jc)=some (.int .i64 (fB.length:Int)) from Il (q:=2) (l:=fB) DW B7 rfl),.w 4 Sy] ?_
   obtain⟨r1,Sz,H⟩:=bj H
   obtain⟨Mc,QD,H⟩:=bj H
   obtain⟨h22,SA,Mh⟩:=fw (P:=Try.prog) (tf:=3) (E:=af) (l:=du) (q:=1) (v:=r1.1) (x:=.int .i64 r1.1) Hx rfl Z3 QD rfl rfl
   refine qr [.v 3 (show bm Try.prog h21 115 (.ptr gR 0)=some (.agg (af.l k1)) from uZ (q:=0) (l:=k1) tQ Hx rfl),.v 4 (show fK Try.prog h21 113 (.mp jc) (.agg (af.l k1)) false=some (.int .i64 r1.1) from (Ik (q:=2) (l:=I5) (k:=k1) zV Hx rfl Sz).2),.v 5 (bo (k:=.i64) (E:=af) (l:=du) (q:=1) fU Hx rfl QD),.w 6 SA] ?_
   have OL:Has h22 ((fj,.sl du.length 1 (af.l (du.set x9.toNat r1.1)))::(jc,.mp (sU I5))::(hU,.sl de.length 1 (af.l de))::(aJ,.ob [ai.fz aI])::L):=Has.del Mh 0
   exact q0 <| ⟨(I5,du.set x9.toNat r1.1,i64.wrap (x9+(1:Int))),⟨fj,h22,(V4 (b:=⟨.any :: .ptr aJ 0::sJ (.rs hU 0 de.length 1 :: .int .i64 ja :: .any :: .any :: .mp jc :: .rs fj 0 du.length 1::u7 (ai.fz aI :: .int .i64 (aI.length:Int) :: .int .i64 (i64.wrap (x9+(1:Int)))::Ge [])),[none],h22⟩) (by kernel_rfl) (by simp only [UF])),(by have o:Has h22 ((fj,.sl du.length 1 (af.l (du.set x9.toNat r1.1)))::(jc,.mp (sU I5))::(hU,.sl de.length 1 (af.l de))::(aJ,.ob [ai.fz aI])::L):=OL; simpa only [UF] using o)⟩,H⟩
  ·refine qk ?_
   obtain⟨r2,SB,H⟩:=bj H
   obtain⟨Ss,QE,H⟩:=bj H
   obtain⟨h23,SC,OM⟩:=fw (P:=Try.prog) (tf:=3) (E:=af) (l:=du) (q:=1) (v:=r2.1) (x:=.int .i64 r2.1) B7 rfl Z3 QE rfl rfl
   refine qr [.v 3 (show bm Try.prog h20 115 (.ptr gR 0)=some (.agg (af.l k1)) from uZ (q:=0) (l:=k1) tQ B7 rfl),.v 4 (show fK Try.prog h20 113 (.mp jc) (.agg (af.l k1)) false=some (.int .i64 r2.1) from (Ik (q:=2) (l:=fB) (k:=k1) zV B7 rfl SB).2),.v 5 (bo (k:=.i64) (E:=af) (l:=du) (q:=1) fU B7 rfl QE),.w 6 SC] ?_
   have QF:Has h23 ((fj,.sl du.length 1 (af.l (du.set x9.toNat r2.1)))::(jc,.mp (sU fB))::(hU,.sl de.length 1 (af.l de))::(aJ,.ob [ai.fz aI])::L):=Has.del OM 0
   exact q0 <| ⟨(fB,du.set x9.toNat r2.1,i64.wrap (x9+(1:Int))),⟨fj,h23,(V4 (b:=⟨.any :: .ptr aJ 0::sJ (.rs hU 0 de.length 1 :: .int .i64 ja :: .any :: .any :: .mp jc :: .rs fj 0 du.length 1::u7 (ai.fz aI :: .int .i64 (aI.length:Int) :: .int .i64 (i64.wrap (x9+(1:Int)))::Ge [])),[none],h23⟩) (by kernel_rfl) (by simp only [UF])),(by have o:Has h23 ((fj,.sl du.length 1 (af.l (du.set x9.toNat r2.1)))::(jc,.mp (sU fB))::(hU,.sl de.length 1 (af.l de))::(aJ,.ob [ai.fz aI])::L):=QF; simpa only [UF] using o)⟩,H⟩
 ·exact qx 6 <| ⟨rfl,fB,du,x9,oi H,ai.fz aI,.int .i64 (aI.length:Int),.int .i64 x9,.bool (decide (x9<(aI.length:Int))),fj,h15,by kernel_rfl,yT⟩
theorem ax.so (L:Mem)(aI:List aq)(aJ:Nat)   : dS Try.prog cf oI m (sub [1,1,1,1,1,1,1,0,0] (b8 Try.f72)) (fun k (σ:(List Int) × Int)=>ax.l2 m aI k σ.1 σ.2) (fun σ s=>match σ with | (de,ja)=>∃g8 g9 g10 g11 g12 hU h12,s=⟨.any :: .ptr aJ 0 :: .any::g8 :: .any :: .rs hU 0 de.length 1 :: .int .i64 ja::qn (g9::g10::g11::g12::sV []),[none],h12⟩∧Has h12 ((hU,.sl de.length 1 (af.l de))::(aJ,.ob [ai.fz aI])::L)) (fun out e s=>(e = .exit 4∧∃de ja,.inr (de,ja)=out∧∃yI DX KU Gv En Eo I6 I7 hU h12,s=⟨.any::yI :: .any::DX :: .any::KU::Gv::qn (En::Eo::I6::I7::sV []),[none],h12⟩∧Has h12 ((hU,.sl de.length 1 (af.l de))::(aJ,.ob [ai.fz aI])::L))∨(e = .ret∧∃r,.inl r=out∧ax.fin L r s)):=by
 refine me (fun _=>rfl) ?_
 rintro k ⟨de,ja⟩ s out ⟨g8,g9,g10,g11,g12,hU,h12,rfl,s8⟩ H
 have H:ax.l2 m aI (k+1) de ja=some out:=H
 refine qb 5 <| qq ?_
 obtain⟨jc,h13,Hu,s9⟩:=DG s8
 refine qr [.m 0 Hu] <| qq ?_
 obtain⟨x8,Hv,H⟩:=bj H
 obtain⟨CE,h14,IN,Ef⟩:=uV (P:=Try.prog) (E:=af) (z:=(0:Int)) (zv:=.int .i64 (0:Int)) fU s9 3 rfl rfl rfl rfl Hv
 refine qr [.v 0 (show bm Try.prog h13 40 (.ptr aJ 0)=some (ai.fz aI) from bW (q:=2) (cs:=[ai.fz aI]) s9 rfl (by kernel_rfl)),.a 2 IN] <| qq <| qq <| qr [.v 0 (show bm Try.prog h14 40 (.ptr aJ 0)=some (ai.fz aI) from bW (q:=3) (cs:=[ai.fz aI]) Ef rfl (by kernel_rfl))] <| qb 6 ?_
 obtain⟨Lj,SD,H⟩:=bj H
 refine ql (ax.Ei L aI aJ hU de ja hU jc   (([]:List (List Int × Int)),x8,(0:Int)) _ _ ⟨CE,h14,by kernel_rfl,Ef⟩ SD) ?_
 rintro e s ⟨rfl,nj,my,Ht,rfl,g17,g18,g19,g20,ld,h24,rfl,JQ⟩
 try dsimp only at H
 refine qq <| qq <| qr [.v 1 (show q8 Try.prog h24 113 (.mp jc)=some (.int .i64 (nj.length:Int)) from Il (q:=1) (l:=nj) DW JQ rfl)] <| qc H (fun c8 H=>?_) (fun c8 H=>?_)
 ·refine q1 ?_
  have ON:Has h24 ((ld,.sl my.length 1 (af.l my))::(jc,.mp (sU nj))::(hU,.sl de.length 1 (af.l de))::L):=Has.del JQ 3
  have QG:Has h24 ((ld,.sl my.length 1 (af.l my))::(hU,.sl de.length 1 (af.l de))::L):=Has.del ON 1
  have SE:Has h24 ((hU,.sl de.length 1 (af.l de))::L):=Has.del QG 0
  exact qt <| Or.inr (⟨rfl,_,oi H,dy (.rs hU 0 de.length 1) h24 (dw (Ho (E:=af) (l:=de) (q:=0) SE rfl (fun _=>rfl)))⟩)
 ·refine qk <| qr [.v 2 (show q8 Try.prog h24 113 (.mp jc)=some (.int .i64 (nj.length:Int)) from Il (q:=1) (l:=nj) DW JQ rfl)] ?_
  have SF:Has h24 ((ld,.sl my.length 1 (af.l my))::(jc,.mp (sU nj))::(aJ,.ob [ai.fz aI])::L):=Has.del JQ 2
  have SG:Has h24 ((ld,.sl my.length 1 (af.l my))::(aJ,.ob [ai.fz aI])::L):=Has.del SF 1
  exact⟨(my,i64.wrap ((nj.length:Int) - (1:Int))),⟨.any,.any,.any,.any,.any,ld,h24,by kernel_rfl,SG⟩,H⟩
theorem oJ {aV:FuncId→bX}(ha:aV 72=oI)(Eg:Mb cf m)(OO:QB cf m)(OP:Qr cf m)(aI:List aq)(h:AHeap)(L:Mem)  (o:Has h (L)){out:(List Int)}(H:ax.f m aI=some out) :
  ∃r h',a7 Try.prog aV cf m 72 [ai.fz aI] h=some (r,h')∧ff h' r (af.fz out):=by
 refine au (fn:=Try.f72) ha Try.func72 (by kernel_rfl) (by kernel_rfl) ?_
 refine aH (Q:=fun s=>ax.fin L out s) (fun _ _ h=>h) ?_
 have H:_=some out:=H
 unfold ax.f at H
 show dj _ cf oI m _ ⟨ai.fz aI::Nt [],[none],h⟩ _
 refine qq ?_
 obtain⟨aJ,h0,e0,o0⟩:=gk (cs:=[ai.fz aI]) o (by kernel_rfl)
 refine qr [.a 0 e0] <| qq ?_
 obtain⟨x0,e1,H⟩:=bj H
 obtain⟨dV,h1,e2,o1⟩:=uV (P:=Try.prog) (E:=af) (z:=(0:Int)) (zv:=.int .i64 (0:Int)) fU o0 3 rfl rfl rfl rfl e1
 refine qr [.v 0 (show bm Try.prog h0 40 (.ptr aJ 0)=some (ai.fz aI) from bW (q:=0) (cs:=[ai.fz aI]) o0 rfl (by kernel_rfl)),.a 2 e2] <| qq <| qq <| q0 <| qb 0 ?_
 obtain⟨bZ,e5,H⟩:=bj H
 refine ql (ax.dm L aI aJ x0   (x0,(0:Int)) _ _ ⟨dV,h1,by kernel_rfl,o1⟩ e5) ?_
 rintro e s ⟨rfl,bV,x2,rfl,g0,g1,g2,cZ,h4,rfl,o4⟩
 try dsimp only at H
 refine qq ?_
 obtain⟨x3,e6,H⟩:=bj H
 obtain⟨h5,e7,o5⟩:=OO _ _ _ e6 h4 _ _ _ (o4) 84 [.ptr aJ 0] [.fp [ai.fz aI] 0] rfl (fun h' sZ y0 y1 r hr hx=>OP y0 y1 _ r hr h' sZ hx) (fun h' K' o'=>iJ (ah (dM (q:=(K'.length+0)) o' (jg rfl) (ah (fy (E:=ai)) (ay))) (ay))) (fun h_=>iJ (ah (gf (pure_cons (bL.bD (E:=ai) (l:=aI)) (pure_nil))) (ay))) [.rs cZ 0 bV.length 1,.fn 84 [.ptr aJ 0]] (ar (rfl) (ar (rfl) (bE)))
 refine qr [.a 2 e7] <| qq ?_
 obtain⟨x4,e8,H⟩:=bj H
 obtain⟨dZ,h6,e9,o6⟩:=uV (P:=Try.prog) (E:=af) (z:=(0:Int)) (zv:=.int .i64 (0:Int)) fU o5 3 rfl rfl rfl rfl e8
 refine qr [.v 0 (show bm Try.prog h5 40 (.ptr aJ 0)=some (ai.fz aI) from bW (q:=1) (cs:=[ai.fz aI]) o5 rfl (by kernel_rfl)),.a 2 e9] <| qq <| q0 <| qq <| qq <| q0 <| qb 2 ?_
 obtain⟨Eh,FC,H⟩:=bj H
 refine ql (ax.mj L aI aJ cZ bV cZ x3  Eg (x4,(0:Int),(0:Int)) _ _ ⟨dZ,h6,(V4 (b:=⟨.any :: .ptr aJ 0 :: .any :: .rs cZ 0 bV.length 1 :: .any :: .rs dZ 0 x4.length 1 :: .int .i64 (0:Int)::qn (.rs cZ 0 bV.length 1 :: .int .i64 (bV.length:Int) :: .int .i64 (0:Int)::u6 []),[none],h6⟩) (by kernel_rfl) (by simp only [UF])),(by have o:Has h6 ((dZ,.sl x4.length 1 (af.l x4))::(cZ,.sl bV.length 1 (af.l x3))::(aJ,.ob [ai.fz aI])::L):=o6; simpa only [UF] using o)⟩ FC) ?_
 rintro e s ⟨rfl,mu,many1,x7,rfl,g3,g4,g5,g6,g7,j9,h11,rfl,CG⟩
 try dsimp only at H
 refine qb 4 ?_
 have CH:Has h11 ((j9,.sl mu.length 1 (af.l mu))::(aJ,.ob [ai.fz aI])::L):=Has.del CG 1
 obtain⟨Lk,SH,H⟩:=bj H
 refine ql (ax.so L aI aJ   (mu,many1) _ _ ⟨g3,g4,g5,g6,g7,j9,h11,by kernel_rfl,CH⟩ SH) ?_
 rintro e s (⟨rfl,OA,Ll,rfl,g21,g22,g23,g24,Uh,Ui,Uj,Uk,mq,h25,rfl,Ul⟩| ⟨rfl,r3,rfl,w7⟩)
 ·try dsimp only at H
  cases H
 ·try dsimp only at H
  obtain rfl:=oi H
  exact⟨.inl rfl,w7⟩
end
end Go.Proofs.Ytifafejidnjckaa
namespace Go.Proofs.Ytifafejidnjckaa
open Go Go.R
open Go.IntKind (i64 u64 u8 u32)
end Go.Proofs.Ytifafejidnjckaa
namespace Go.Proofs.Ytifafejidnjckaa
open Go Go.R
open Go.IntKind (i64 u64 u8 u32)
def AN:bX:=gQ [0,1,2,3,4,5,6] [2,4000005] [121,113,97,65,1,25,91,123] [] [(0,[(2,some 0,4)])]
def fc.f (m:Nat)(t0:br):Option (br):=(ax.f m t0.nodes).bind fun x0=>(aY.f m m t0.root ([]:List (Int × Int)) x0 (br.mk ([]:List aq) (0:Int)) t0).bind fun x1=>some x1.2.2
def fc.fin (L:Mem)  (r:br)(s:St):Prop:=∃(eR:Nat) (eG:List Nat),aM Try.prog (s.open AN) Try.f46.results.toList=some (.agg [.rs eR 0 r.nodes.length 4,.int .i64 r.root])∧Has s.h ((eR,.sl r.nodes.length 4 (gd.l (bC r.nodes eG)))::(fT r.nodes eG++L))
def QH (cf:CallF)(m:Nat):Prop:=∀(t0:br) (r:br),fc.f m t0=some r→∀h L xs,Has h L→aO bO h xs [.agg [ai.fz t0.nodes,.int .i64 t0.root]]→∃(eR:Nat) (eG:List Nat) (h':AHeap),cf 46 xs h=some (.agg [.rs eR 0 r.nodes.length 4,.int .i64 r.root],h')∧Has h' ((eR,.sl r.nodes.length 4 (gd.l (bC r.nodes eG)))::(fT r.nodes eG++L))∧∀j,j<h.next→h.ver j=h'.ver j
section
variable {cf:CallF}{m:Nat}
theorem qH {aV:FuncId→bX}(ha:aV 46=AN)(OQ:QC cf m)(D1:L6 cf m m)(t0:br)(h:AHeap)(L:Mem)  (o:Has h (L)){out:br}(H:fc.f m t0=some out) :
  ∃r h',a7 Try.prog aV cf m 46 [.agg [ai.fz t0.nodes,.int .i64 t0.root]] h=some (r,h')∧∃(eR:Nat) (eG:List Nat),r = .agg [.rs eR 0 out.nodes.length 4,.int .i64 out.root]∧Has h' ((eR,.sl out.nodes.length 4 (gd.l (bC out.nodes eG)))::(fT out.nodes eG++L)):=by
 refine au (fn:=Try.f46) ha Try.func46 (by kernel_rfl) (by kernel_rfl) ?_
 refine aH (Q:=fun s=>fc.fin L out s) (fun _ _ ⟨h1,eR,eG,h2,h3⟩=>⟨h1,_,h2,eR,eG,rfl,h3⟩) ?_
 have H:_=some out:=H
 unfold fc.f at H
 show dj _ cf AN m _ ⟨.agg [ai.fz t0.nodes,.int .i64 t0.root]::wS [],[none,none],h⟩ _
 refine qq ?_
 obtain⟨aJ,h0,e0,o0⟩:=gk (cs:=[ai.fz t0.nodes,.int .i64 t0.root]) o (by kernel_rfl)
 refine qr [.a 0 e0] ?_
 have o1:Has h0 (((0),.sl (([]:List aq).length) 4 (gd.l (bC ([]:List aq) ([]:List Nat))))::(aJ,.ob [ai.fz t0.nodes,.int .i64 t0.root])::L):=Has.nil o0 4
 refine qq ?_
 obtain⟨x0,e1,H⟩:=bj H
 obtain⟨dV,h1,e2,o2⟩:=gk (cs:=[.nils]) o1 (by kernel_rfl)
 obtain⟨h2,e3,o3⟩:=ng (P:=Try.prog) (t:=33) (off:=0) (q:=0) (cs:=[.nils]) (eQ:=[af.fz x0]) (x:=af.fz x0) o2 rfl (by kernel_rfl)
 refine qr [.v 1 (show bm Try.prog h0 40 (.ptr aJ 0)=some (ai.fz t0.nodes) from bW (q:=1) (cs:=[ai.fz t0.nodes,.int .i64 t0.root]) o1 rfl (by kernel_rfl)),.a 2 (OQ _ _ e1 h0 _ (gp (ah (fy (E:=ai)) (ay)))),.a 3 e2,.w 4 e3] <| qq ?_
 obtain⟨eM,h3,e4,o4⟩:=DG o3
 obtain⟨cZ,h4,e5,o5⟩:=gk (cs:=[.lB]) o4 (by kernel_rfl)
 obtain⟨h5,e6,o6⟩:=ng (P:=Try.prog) (t:=82) (off:=0) (q:=0) (cs:=[.lB]) (eQ:=[.mp eM]) (x:=.mp eM) o5 rfl (by kernel_rfl)
 refine qr [.m 0 e4,.a 1 e5,.w 2 e6] <| qq ?_
 have o7:Has h5 ((((0)),.sl (([]:List aq).length) 4 (ai.l ([]:List aq)))::(cZ,.ob [.mp eM])::(eM,.mp (ov ([]:List (Int × Int))))::(dV,.ob [af.fz x0])::((0),.sl (([]:List aq).length) 4 (gd.l (bC ([]:List aq) ([]:List Nat))))::(aJ,.ob [ai.fz t0.nodes,.int .i64 t0.root])::L):=Has.nil o6 4
 obtain⟨dZ,h6,e7,o8⟩:=gk (cs:=[.rs ((0)) 0 (([]:List aq).length) 4,.int .i64 (0:Int)]) o7 (by kernel_rfl)
 refine qr [.a 0 e7] <| qq ?_
 obtain⟨eS,h7,e8,o9⟩:=gk (cs:=[.nM]) o8 (by kernel_rfl)
 refine qr [.a 0 e8] <| qq ?_
 obtain⟨h8,e9,xd⟩:=ng (P:=Try.prog) (t:=80) (off:=0) (q:=0) (cs:=[.nM]) (eQ:=[.fn 73 [.ptr cZ 0,.ptr dV 0,.ptr dZ 0,.ptr aJ 0,.ptr eS 0]]) (x:=.fn 73 [.ptr cZ 0,.ptr dV 0,.ptr dZ 0,.ptr aJ 0,.ptr eS 0]) o9 rfl (by kernel_rfl)
 refine qr [.w 1 e9] <| qq ?_
 obtain⟨x1,sY,H⟩:=bj H
 obtain⟨j9,eG,h9,tS,CG⟩:=D1 _ _ _ _ _ _ sY h8 _ _ _ _ _ _ ([]:List Nat) _ _ ((Has.front (Has.front (Has.front (Has.front (Has.front (Has.front (Has.front (Has.front xd 6 rfl) 1 rfl) 7 rfl) 4 rfl) 4 rfl) 7 rfl) 7 rfl) 7 rfl))  [.int .i64 t0.root,.ptr cZ 0,.ptr dV 0,.ptr dZ 0,.ptr aJ 0,.ptr eS 0] (ar (aL (bh)) (ar (rfl) (ar (rfl) (ar (rfl) (ar (rfl) (ar (rfl) (bE)))))))
 have CH:=Has.w0 (pre:=[(cZ,.ob [.mp eM]),(eM,.mp (ov x1.2.1)),(dV,.ob [af.fz x0]),(dZ,.ob [.rs j9 0 x1.2.2.nodes.length 4,.int .i64 x1.2.2.root]),(j9,.sl x1.2.2.nodes.length 4 (gd.l (bC x1.2.2.nodes eG))),(aJ,.ob [ai.fz t0.nodes,.int .i64 t0.root]),(eS,.ob [.fn 73 [.ptr cZ 0,.ptr dV 0,.ptr dZ 0,.ptr aJ 0,.ptr eS 0]])]) (N:=[((0),.sl (([]:List aq).length) 4 (gd.l (bC ([]:List aq) ([]:List Nat))))]) (mid:=fT x1.2.2.nodes eG) CG
 refine qr [.v 0 (show bm Try.prog h8 80 (.ptr eS 0)=some (.fn 73 [.ptr cZ 0,.ptr dV 0,.ptr dZ 0,.ptr aJ 0,.ptr eS 0]) from bW (q:=0) (cs:=[.fn 73 [.ptr cZ 0,.ptr dV 0,.ptr dZ 0,.ptr aJ 0,.ptr eS 0]]) xd rfl (by kernel_rfl)),.v 2 (show bm Try.prog h8 3 (.ptr aJ 1)=some (.int .i64 t0.root) from bW (q:=7) (cs:=[ai.fz t0.nodes,.int .i64 t0.root]) xd rfl (by kernel_rfl)),.a 3 tS] ?_
 have s8:Has h9 ((cZ,.ob [.mp eM])::(eM,.mp (ov x1.2.1))::(dV,.ob [af.fz x0])::(dZ,.ob [.rs j9 0 x1.2.2.nodes.length 4,.int .i64 x1.2.2.root])::(j9,.sl x1.2.2.nodes.length 4 (gd.l (bC x1.2.2.nodes eG)))::(aJ,.ob [ai.fz t0.nodes,.int .i64 t0.root])::((0),.sl (([]:List aq).length) 4 (gd.l (bC ([]:List aq) ([]:List Nat))))::(fT x1.2.2.nodes eG++L)):=Has.del CH 6
 have s9:Has h9 ((cZ,.ob [.mp eM])::(eM,.mp (ov x1.2.1))::(dV,.ob [af.fz x0])::(dZ,.ob [.rs j9 0 x1.2.2.nodes.length 4,.int .i64 x1.2.2.root])::(j9,.sl x1.2.2.nodes.length 4 (gd.l (bC x1.2.2.nodes eG)))::((0),.sl (([]:List aq).length) 4 (gd.l (bC ([]:List aq) ([]:List Nat))))::(fT x1.2.2.nodes eG++L)):=Has.del s8 5
 have Ef:Has h9 ((cZ,.ob [.mp eM])::(eM,.mp (ov x1.2.1))::(dZ,.ob [.rs j9 0 x1.2.2.nodes.length 4,.int .i64 x1.2.2.root])::(j9,.sl x1.2.2.nodes.length 4 (gd.l (bC x1.2.2.nodes eG)))::((0),.sl (([]:List aq).length) 4 (gd.l (bC ([]:List aq) ([]:List Nat))))::(fT x1.2.2.nodes eG++L)):=Has.del s9 2
 have yT:Has h9 ((cZ,.ob [.mp eM])::(dZ,.ob [.rs j9 0 x1.2.2.nodes.length 4,.int .i64 x1.2.2.root])::(j9,.sl x1.2.2.nodes.length 4 (gd.l (bC x1.2.2.nodes eG)))::((0),.sl (([]:List aq).length) 4 (gd.l (bC ([]:List aq) ([]:List Nat))))::(fT x1.2.2.nodes eG++L)):=Has.del Ef 1
 have Ek:Has h9 ((dZ,.ob [.rs j9 0 x1.2.2.nodes.length 4,.int .i64 x1.2.2.root])::(j9,.sl x1.2.2.nodes.length 4 (gd.l (bC x1.2.2.nodes eG)))::((0),.sl (([]:List aq).length) 4 (gd.l (bC ([]:List aq) ([]:List Nat))))::(fT x1.2.2.nodes eG++L)):=Has.del yT 0
 refine qs [.v 0 (show bm Try.prog h9 42 (.ptr dZ 0)=some (.agg [.rs j9 0 x1.2.2.nodes.length 4,.int .i64 x1.2.2.root]) from bW (q:=0) (cs:=[.rs j9 0 x1.2.2.nodes.length 4,.int .i64 x1.2.2.root]) Ek rfl (by kernel_rfl))] ?_
 have CI:Has h9 ((dZ,.ob [.rs j9 0 x1.2.2.nodes.length 4,.int .i64 x1.2.2.root])::(j9,.sl x1.2.2.nodes.length 4 (gd.l (bC x1.2.2.nodes eG)))::(fT x1.2.2.nodes eG++L)):=Has.del Ek 2
 have B5:Has h9 ((j9,.sl x1.2.2.nodes.length 4 (gd.l (bC x1.2.2.nodes eG)))::(fT x1.2.2.nodes eG++L)):=Has.del CI 0
 obtain rfl:=oi H
 exact qt <| ⟨.inl rfl,⟨j9,eG,by kernel_rfl,he B5⟩⟩
end
end Go.Proofs.Ytifafejidnjckaa
namespace Go.Proofs.Ytifafejidnjckaa
open Go Go.R
open Go.IntKind (i64 u64 u8 u32)
def AO:bX:=gQ [0,1,2,3,6] [1,2] [25,9,19,19] [] [(0,[(2,some 0,4)]),(2,[(2,some 0,4)])]
def fS.f (m:Nat)(t0:br):Option (br × Int):=(gG.f m t0).bind fun x0=>if (!x0)=true then (some ((br.mk ([]:List aq) (0:Int)),(2:Int))) else ((fc.f m t0).bind fun x1=>some (x1,(0:Int)))
def fS.fin (L:Mem)  (r:br × Int)(s:St):Prop:=∃(eR:Nat) (eG:List Nat),aM Try.prog (s.open AO) Try.f43.results.toList=some (.tup [.agg [.rs eR 0 r.1.nodes.length 4,.int .i64 r.1.root],.int .i64 r.2])∧Has s.h ((eR,.sl r.1.nodes.length 4 (gd.l (bC r.1.nodes eG)))::(fT r.1.nodes eG++L))
def QI (cf:CallF)(m:Nat):Prop:=∀(t0:br) (r:br × Int),fS.f m t0=some r→∀h L xs,Has h L→aO bO h xs [.agg [ai.fz t0.nodes,.int .i64 t0.root]]→∃(eR:Nat) (eG:List Nat) (h':AHeap),cf 43 xs h=some (.tup [.agg [.rs eR 0 r.1.nodes.length 4,.int .i64 r.1.root],.int .i64 r.2],h')∧Has h' ((eR,.sl r.1.nodes.length 4 (gd.l (bC r.1.nodes eG)))::(fT r.1.nodes eG++L))∧∀j,j<h.next→h.ver j=h'.ver j
section
variable {cf:CallF}{m:Nat}
theorem qI {aV:FuncId→bX}(ha:aV 43=AO)(OR:Qz cf m)(OS:QH cf m)(t0:br)(h:AHeap)(L:Mem)  (o:Has h (L)){out:br × Int}(H:fS.f m t0=some out) :
  ∃r h',a7 Try.prog aV cf m 43 [.agg [ai.fz t0.nodes,.int .i64 t0.root]] h=some (r,h')∧∃(eR:Nat) (eG:List Nat),r = .tup [.agg [.rs eR 0 out.1.nodes.length 4,.int .i64 out.1.root],.int .i64 out.2]∧Has h' ((eR,.sl out.1.nodes.length 4 (gd.l (bC out.1.nodes eG)))::(fT out.1.nodes eG++L)):=by
 refine au (fn:=Try.f43) ha Try.func43 (by kernel_rfl) (by kernel_rfl) ?_
 refine aH (Q:=fun s=>fS.fin L out s) (fun _ _ ⟨h1,eR,eG,h2,h3⟩=>⟨h1,_,h2,eR,eG,rfl,h3⟩) ?_
 have H:_=some out:=H
 unfold fS.f at H
 show dj _ cf AO m _ ⟨.agg [ai.fz t0.nodes,.int .i64 t0.root]::nh [],[none,none],h⟩ _
 refine q1 ?_
 have o0:Has h (((0),.sl (([]:List aq).length) 4 (gd.l (bC ([]:List aq) ([]:List Nat))))::L):=Has.nil o 4
 refine qq <| qq ?_
 obtain⟨x0,e0,H⟩:=bj H
 refine qr [.a 1 (OR _ _ e0 h _ (gp (ah (jG (ah (fy (E:=ai)) (ah (bz) (ay)))) (ay))))] <| qc H (fun c0 H=>?_) (fun c0 H=>?_)
 ·refine q1 ?_
  have o1:Has h ((((0)),.sl (([]:List aq).length) 4 (gd.l (bC ([]:List aq) ([]:List Nat))))::((0),.sl (([]:List aq).length) 4 (gd.l (bC ([]:List aq) ([]:List Nat))))::L):=Has.nil o0 4
  have o2:Has h ((((0)),.sl (([]:List aq).length) 4 (gd.l (bC ([]:List aq) ([]:List Nat))))::L):=Has.del o1 1
  obtain rfl:=oi H
  exact qt <| ⟨.inl rfl,⟨((0)),([]:List Nat),by kernel_rfl,he o2⟩⟩
 ·refine qk <| qq ?_
  obtain⟨x1,e1,H⟩:=bj H
  obtain⟨aJ,cy,h0,e2,o3,HP⟩:=OS _ _ e1 h _ _ o0 (gp (ah (jG (ah (fy (E:=ai)) (ah (bz) (ay)))) (ay)))
  have o4:=Has.w0 (pre:=[(aJ,.sl x1.nodes.length 4 (gd.l (bC x1.nodes cy)))]) (N:=[((0),.sl (([]:List aq).length) 4 (gd.l (bC ([]:List aq) ([]:List Nat))))]) (mid:=fT x1.nodes cy) o3
  refine qr [.a 1 e2] ?_
  have o5:Has h0 ((aJ,.sl x1.nodes.length 4 (gd.l (bC x1.nodes cy)))::(fT x1.nodes cy++L)):=Has.del o4 1
  obtain rfl:=oi H
  exact qt <| ⟨.inl rfl,⟨aJ,cy,by kernel_rfl,he o5⟩⟩
end
end Go.Proofs.Ytifafejidnjckaa
namespace Go.Proofs.Ytifafejidnjckaa
open Go Go.R
open Go.IntKind (i64 u64 u8 u32)
end Go.Proofs.Ytifafejidnjckaa
namespace Go.Proofs.Ytifafejidnjckaa
open Go Go.R
open Go.IntKind (i64 u64 u8 u32)
def ss:bX:=gQ [0,1,3,4,5,6,7,8,9,10,11,14,21,33,35,36,37,38,44,51,52,53] [3,6,10] [4194298,4192250,4194279,4194206,4190110,4194279,4194142,4185950,4194279,4079486,3948414,4078718,3816574,4078718,2505854,408702,2504830,2505854,2505854,4079486,4079486,4194279] [(19,[(10,some 3,0)])] [(3,[(6,some 0,4)]),(11,[(10,some 3,1)])]
def aA.l1 (m:Nat)(s0:ab)(v0:aq):Nat→Int→(List Int)→ab→Option (Int × (List Int) × ab)
 | 0,_,_,_=>none
 | k+1,x3,n0,s2=>if (decide (x3<(v0.args.length:Int)))=true then ((ix n0 x3).bind fun v1=>(ix n0 x3).bind fun v2=>aA.l1 m s0 v0 k (i64.wrap (x3+(1:Int))) (n0.set x3.toNat (i64.wrap (v1+(s0.aa.length:Int)))) s2) else (some ((x3,n0,s2)))
def aA.l2 (m:Nat)(s0:ab)(v0:aq):Nat→Int→(List Int)→ab→Option (Int × (List Int) × ab)
 | 0,_,_,_=>none
 | k+1,x7,n2,s4=>if (decide (x7<(v0.args.length:Int)))=true then ((ix n2 x7).bind fun v3=>(ix n2 x7).bind fun v4=>aA.l2 m s0 v0 k (i64.wrap (x7+(1:Int))) (n2.set x7.toNat (i64.wrap (v3+(s0.aa.length:Int)))) s4) else (some ((x7,n2,s4)))
def aA.l0 (m:Nat)(s0:ab)(x1:br × Int):Nat→Int→ab→Option (Int × ab)
 | 0,_,_=>none
 | k+1,x2,s1=>if (decide (x2<(x1.1.nodes.length:Int)))=true then ((ix x1.1.nodes x2).bind fun v0=>if (v0.kind==(0:Int))=true then ((aA.l1 m s0 v0 m (0:Int) v0.args s1).bind fun bZ=>match bZ with | (x4,n1,s3)=>(app 56 s3.aa ([(aq.mk v0.kind (i64.wrap ((s0.aa.length:Int)+x2)) v0.label n1)])).bind fun x5=>(app 8 s3.ae ([i64.wrap ((s0.aa.length:Int)+x2)])).bind fun x6=>aA.l0 m s0 x1 k (i64.wrap (x2+(1:Int))) (ab.mk s3.aj x5 x6)) else ((aA.l2 m s0 v0 m (0:Int) v0.args s1).bind fun dq=>match dq with | (x8,n3,s5)=>(app 56 s5.aa ([(aq.mk v0.kind v0.int v0.label n3)])).bind fun x9=>(app 8 s5.ae ([i64.wrap ((s0.aa.length:Int)+x2)])).bind fun kC=>aA.l0 m s0 x1 k (i64.wrap (x2+(1:Int))) (ab.mk s5.aj x9 kC))) else (some ((x2,s1)))
def aA.f (m:Nat)(s0:ab)(t0:br):Option (Int × Int × ab):=(bF.f m s0).bind fun x0=>if (!x0)=true then (some ((0:Int),(6:Int),s0)) else ((fS.f m t0).bind fun x1=>if (!(x1.2==(0:Int)))=true then (some ((0:Int),x1.2,s0)) else (if (decide ((i64.wrap ((s0.aa.length:Int)+(x1.1.nodes.length:Int))) > (8000:Int)))=true then (some ((0:Int),(7:Int),s0)) else ((aA.l0 m s0 x1 m (0:Int) s0).bind fun mu=>match mu with | (yK,s6)=>some ((s0.aa.length:Int),(0:Int),s6))))
def aA.fin (L:Mem)(ao:Nat)(ak:Nat)(an:Nat)(s0:ab)(t0:br)(r:Int × Int × ab)(s:St):Prop:=∃aB aC:Nat,aM Try.prog (s.open ss) Try.f36.results.toList=some (.tup [.int .i64 r.1,.int .i64 r.2.1])∧Has s.h ((ao,.ob [.bool r.2.2.aj,.rs aB 0 r.2.2.aa.length 4,.rs aC 0 r.2.2.ae.length 1])::(aB,.sl r.2.2.aa.length 4 (ai.l r.2.2.aa))::(aC,.sl r.2.2.ae.length 1 (af.l r.2.2.ae))::L)
def QJ (cf:CallF)(m:Nat):Prop:=∀(s0:ab) (t0:br) (r:Int × Int × ab),aA.f m s0 t0=some r→∀h L (ao:Nat) (ak:Nat) (an:Nat),Has h ((ao,.ob [.bool s0.aj,.rs ak 0 s0.aa.length 4,.rs an 0 s0.ae.length 1])::(ak,.sl s0.aa.length 4 (ai.l s0.aa))::(an,.sl s0.ae.length 1 (af.l s0.ae))::L)→∀xs,xs.map aK=[.ptr ao 0,.agg [ai.fz t0.nodes,.int .i64 t0.root]]→∃aB aC h',cf 36 xs h=some (.tup [.int .i64 r.1,.int .i64 r.2.1],h')∧Has h' ((ao,.ob [.bool r.2.2.aj,.rs aB 0 r.2.2.aa.length 4,.rs aC 0 r.2.2.ae.length 1])::(aB,.sl r.2.2.aa.length 4 (ai.l r.2.2.aa))::(aC,.sl r.2.2.ae.length 1 (af.l r.2.2.ae))::L)
section
variable {cf:CallF}{m:Nat}
theorem aA.mj (L:Mem)(ao:Nat)(ak:Nat)(an:Nat)(s0:ab)(t0:br)(x1:br × Int)(aJ:Nat)(cy:List Nat)(x2:Int)(v0:aq)   : dS Try.prog cf ss m (sub [1,1,1,1,1,1,0,1,0,0,1,1,0,0,1,1,0,1,0,0] (b8 Try.f36)) (fun k (σ:Int × (List Int) × ab)=>aA.l1 m s0 v0 k σ.1 σ.2.1 σ.2.2) (fun σ s=>match σ with | (x3,n0,s2)=>∃cZ dZ eS h2,s=⟨.ptr ao 0::wS (.int .i64 (s0.aa.length:Int) :: .int .i64 x2 :: .lp 10 0::nh [.rs aJ 0 x1.1.nodes.length 4,.int .i64 (x1.1.nodes.length:Int),.int .i64 x2,.any,.any,.int .i64 (v0.args.length:Int),.int .i64 x3,.any]),[none,none,some [.int .i64 v0.kind,.int .i64 (i64.wrap ((s0.aa.length:Int)+x2)),.str v0.label,.rs cZ 0 n0.length 1]],h2⟩∧Has h2 ((cZ,.sl n0.length 1 (af.l n0))::(aJ,.sl x1.1.nodes.length 4 (gd.l (bC x1.1.nodes cy)))::(ao,.ob [.bool s2.aj,.rs dZ 0 s2.aa.length 4,.rs eS 0 s2.ae.length 1])::(dZ,.sl s2.aa.length 4 (ai.l s2.aa))::(eS,.sl s2.ae.length 1 (af.l s2.ae))::(fT (x1.1.nodes.drop ((i64.wrap (x2+(1:Int))).toNat)) (cy.drop ((i64.wrap (x2+(1:Int))).toNat))++L))) (fun out e s=>(e = .exit 2∧∃x3 n0 s2,(x3,n0,s2)=out∧∃I8 I9 D2 cZ dZ eS h2,s=⟨.ptr ao 0::wS (.int .i64 (s0.aa.length:Int) :: .int .i64 x2 :: .lp 10 0::nh [.rs aJ 0 x1.1.nodes.length 4,.int .i64 (x1.1.nodes.length:Int),.int .i64 x2,.any,.any,I8,I9,D2]),[none,none,some [.int .i64 v0.kind,.int .i64 (i64.wrap ((s0.aa.length:Int)+x2)),.str v0.label,.rs cZ 0 n0.length 1]],h2⟩∧Has h2 ((cZ,.sl n0.length 1 (af.l n0))::(aJ,.sl x1.1.nodes.length 4 (gd.l (bC x1.1.nodes cy)))::(ao,.ob [.bool s2.aj,.rs dZ 0 s2.aa.length 4,.rs eS 0 s2.ae.length 1])::(dZ,.sl s2.aa.length 4 (ai.l s2.aa))::(eS,.sl s2.ae.length 1 (af.l s2.ae))::(fT (x1.1.nodes.drop ((i64.wrap (x2+(1:Int))).toNat)) (cy.drop ((i64.wrap (x2+(1:Int))).toNat))++L)))):=by
 refine me (fun _=>rfl) ?_
 rintro k ⟨x3,n0,s2⟩ s out ⟨cZ,dZ,eS,h2,rfl,o6⟩ H
 have H:aA.l1 m s0 v0 (k+1) x3 n0 s2=some out:=H
 refine q1 <| qq <| qc H (fun c5 H=>?_) (fun c5 H=>?_)
 ·refine qk <| qq <| qb 3 <| qq <| q0 ?_
  obtain⟨v1,e4,H⟩:=bj H
  obtain⟨v2,e5,H⟩:=bj H
  obtain⟨h3,e6,o7⟩:=fw (P:=Try.prog) (tf:=3) (E:=af) (l:=n0) (q:=0) (v:=(i64.wrap (v1+(s0.aa.length:Int)))) (x:=.int .i64 (i64.wrap (v1+(s0.aa.length:Int)))) o6 rfl Z3 e5 rfl rfl
  exact qr [.v 3 (bo (k:=.i64) (E:=af) (l:=n0) (q:=0) fU o6 rfl e4),.v 4 (dB  (E:=af) (l:=n0) (q:=0) o6 rfl A3 e4 rfl),.v 7 (bo (k:=.i64) (E:=af) (l:=n0) (q:=0) fU o6 rfl e5),.w 8 e6] <| q0 <| ⟨(i64.wrap (x3+(1:Int)),n0.set x3.toNat (i64.wrap (v1+(s0.aa.length:Int))),s2),⟨cZ,dZ,eS,h3,(V4 (b:=⟨.ptr ao 0::wS (.int .i64 (s0.aa.length:Int) :: .int .i64 x2 :: .lp 10 0::nh [.rs aJ 0 x1.1.nodes.length 4,.int .i64 (x1.1.nodes.length:Int),.int .i64 x2,.any,.any,.int .i64 (v0.args.length:Int),.int .i64 (i64.wrap (x3+(1:Int))),.any]),[none,none,some [.int .i64 v0.kind,.int .i64 (i64.wrap ((s0.aa.length:Int)+x2)),.str v0.label,.rs cZ 0 n0.length 1]],h3⟩) (by kernel_rfl) (by simp only [UF])),(by have o:Has h3 ((cZ,.sl n0.length 1 (af.l (n0.set x3.toNat (i64.wrap (v1+(s0.aa.length:Int))))))::(aJ,.sl x1.1.nodes.length 4 (gd.l (bC x1.1.nodes cy)))::(ao,.ob [.bool s2.aj,.rs dZ 0 s2.aa.length 4,.rs eS 0 s2.ae.length 1])::(dZ,.sl s2.aa.length 4 (ai.l s2.aa))::(eS,.sl s2.ae.length 1 (af.l s2.ae))::(fT (x1.1.nodes.drop ((i64.wrap (x2+(1:Int))).toNat)) (cy.drop ((i64.wrap (x2+(1:Int))).toNat))++L)):=o7; simpa only [UF] using o)⟩,H⟩
 ·exact qx 2 <| ⟨rfl,x3,n0,s2,oi H,.int .i64 (v0.args.length:Int),.int .i64 x3,.bool (decide (x3<(v0.args.length:Int))),cZ,dZ,eS,h2,by kernel_rfl,o6⟩
theorem aA.so (L:Mem)(ao:Nat)(ak:Nat)(an:Nat)(s0:ab)(t0:br)(x1:br × Int)(aJ:Nat)(cy:List Nat)(x2:Int)(v0:aq)   : dS Try.prog cf ss m (sub [1,1,1,1,1,1,0,1,0,0,1,1,0,0,1,1,0,1,0,0] (b8 Try.f36)) (fun k (σ:Int × (List Int) × ab)=>aA.l2 m s0 v0 k σ.1 σ.2.1 σ.2.2) (fun σ s=>match σ with | (x7,n2,s4)=>∃gR ld mq h10,s=⟨.ptr ao 0::wS (.int .i64 (s0.aa.length:Int) :: .int .i64 x2 :: .lp 10 0::nh [.rs aJ 0 x1.1.nodes.length 4,.int .i64 (x1.1.nodes.length:Int),.int .i64 x2,.any,.any,.int .i64 (v0.args.length:Int),.int .i64 x7,.any]),[none,none,some [.int .i64 v0.kind,.int .i64 v0.int,.str v0.label,.rs gR 0 n2.length 1]],h10⟩∧Has h10 ((gR,.sl n2.length 1 (af.l n2))::(aJ,.sl x1.1.nodes.length 4 (gd.l (bC x1.1.nodes cy)))::(ao,.ob [.bool s4.aj,.rs ld 0 s4.aa.length 4,.rs mq 0 s4.ae.length 1])::(ld,.sl s4.aa.length 4 (ai.l s4.aa))::(mq,.sl s4.ae.length 1 (af.l s4.ae))::(fT (x1.1.nodes.drop ((i64.wrap (x2+(1:Int))).toNat)) (cy.drop ((i64.wrap (x2+(1:Int))).toNat))++L))) (fun out e s=>(e = .exit 2∧∃x7 n2 s4,(x7,n2,s4)=out∧∃I8 I9 D2 gR ld mq h10,s=⟨.ptr ao 0::wS (.int .i64 (s0.aa.length:Int) :: .int .i64 x2 :: .lp 10 0::nh [.rs aJ 0 x1.1.nodes.length 4,.int .i64 (x1.1.nodes.length:Int),.int .i64 x2,.any,.any,I8,I9,D2]),[none,none,some [.int .i64 v0.kind,.int .i64 v0.int,.str v0.label,.rs gR 0 n2.length 1]],h10⟩∧Has h10 ((gR,.sl n2.length 1 (af.l n2))::(aJ,.sl x1.1.nodes.length 4 (gd.l (bC x1.1.nodes cy)))::(ao,.ob [.bool s4.aj,.rs ld 0 s4.aa.length 4,.rs mq 0 s4.ae.length 1])::(ld,.sl s4.aa.length 4 (ai.l s4.aa))::(mq,.sl s4.ae.length 1 (af.l s4.ae))::(fT (x1.1.nodes.drop ((i64.wrap (x2+(1:Int))).toNat)) (cy.drop ((i64.wrap (x2+(1:Int))).toNat))++L)))):=by
 refine me (fun _=>rfl) ?_
 rintro k ⟨x7,n2,s4⟩ s out ⟨gR,ld,mq,h10,rfl,s9⟩ H
 have H:aA.l2 m s0 v0 (k+1) x7 n2 s4=some out:=H
 refine q1 <| qq <| qc H (fun c6 H=>?_) (fun c6 H=>?_)
 ·refine qk <| qq <| qb 3 <| qq <| q0 ?_
  obtain⟨v3,yP,H⟩:=bj H
  obtain⟨v4,Ec,H⟩:=bj H
  obtain⟨h11,Ed,Ef⟩:=fw (P:=Try.prog) (tf:=3) (E:=af) (l:=n2) (q:=0) (v:=(i64.wrap (v3+(s0.aa.length:Int)))) (x:=.int .i64 (i64.wrap (v3+(s0.aa.length:Int)))) s9 rfl Z3 Ec rfl rfl
  exact qr [.v 3 (bo (k:=.i64) (E:=af) (l:=n2) (q:=0) fU s9 rfl yP),.v 4 (dB  (E:=af) (l:=n2) (q:=0) s9 rfl A3 yP rfl),.v 7 (bo (k:=.i64) (E:=af) (l:=n2) (q:=0) fU s9 rfl Ec),.w 8 Ed] <| q0 <| ⟨(i64.wrap (x7+(1:Int)),n2.set x7.toNat (i64.wrap (v3+(s0.aa.length:Int))),s4),⟨gR,ld,mq,h11,(V4 (b:=⟨.ptr ao 0::wS (.int .i64 (s0.aa.length:Int) :: .int .i64 x2 :: .lp 10 0::nh [.rs aJ 0 x1.1.nodes.length 4,.int .i64 (x1.1.nodes.length:Int),.int .i64 x2,.any,.any,.int .i64 (v0.args.length:Int),.int .i64 (i64.wrap (x7+(1:Int))),.any]),[none,none,some [.int .i64 v0.kind,.int .i64 v0.int,.str v0.label,.rs gR 0 n2.length 1]],h11⟩) (by kernel_rfl) (by simp only [UF])),(by have o:Has h11 ((gR,.sl n2.length 1 (af.l (n2.set x7.toNat (i64.wrap (v3+(s0.aa.length:Int))))))::(aJ,.sl x1.1.nodes.length 4 (gd.l (bC x1.1.nodes cy)))::(ao,.ob [.bool s4.aj,.rs ld 0 s4.aa.length 4,.rs mq 0 s4.ae.length 1])::(ld,.sl s4.aa.length 4 (ai.l s4.aa))::(mq,.sl s4.ae.length 1 (af.l s4.ae))::(fT (x1.1.nodes.drop ((i64.wrap (x2+(1:Int))).toNat)) (cy.drop ((i64.wrap (x2+(1:Int))).toNat))++L)):=Ef; simpa only [UF] using o)⟩,H⟩
 ·exact qx 2 <| ⟨rfl,x7,n2,s4,oi H,.int .i64 (v0.args.length:Int),.int .i64 x7,.bool (decide (x7<(v0.args.length:Int))),gR,ld,mq,h10,by kernel_rfl,s9⟩
theorem aA.dm (L:Mem)(ao:Nat)(ak:Nat)(an:Nat)(s0:ab)(t0:br)(x1:br × Int)(aJ:Nat)(cy:List Nat)   : dS Try.prog cf ss m (sub [1,1,1,1,1,1,0,1,0,0] (b8 Try.f36)) (fun k (σ:Int × ab)=>aA.l0 m s0 x1 k σ.1 σ.2) (fun σ s=>match σ with | (x2,s1)=>∃dV eM h1,s=⟨.ptr ao 0::wS (.int .i64 (s0.aa.length:Int)::wS (.rs aJ 0 x1.1.nodes.length 4 :: .int .i64 (x1.1.nodes.length:Int) :: .int .i64 x2::Fy [])),[none,none,none],h1⟩∧Has h1 ((aJ,.sl x1.1.nodes.length 4 (gd.l (bC x1.1.nodes cy)))::(ao,.ob [.bool s1.aj,.rs dV 0 s1.aa.length 4,.rs eM 0 s1.ae.length 1])::(dV,.sl s1.aa.length 4 (ai.l s1.aa))::(eM,.sl s1.ae.length 1 (af.l s1.ae))::(fT (x1.1.nodes.drop x2.toNat) (cy.drop x2.toNat)++L))) (fun out e s=>(e = .exit 0∧∃x2 s1,(x2,s1)=out∧∃oz I2 OT En Eo dV eM h1,s=⟨oz::wS (.int .i64 (s0.aa.length:Int)::wS (I2::OT::En::Eo::nh [])),[none,none,none],h1⟩∧Has h1 ((aJ,.sl x1.1.nodes.length 4 (gd.l (bC x1.1.nodes cy)))::(ao,.ob [.bool s1.aj,.rs dV 0 s1.aa.length 4,.rs eM 0 s1.ae.length 1])::(dV,.sl s1.aa.length 4 (ai.l s1.aa))::(eM,.sl s1.ae.length 1 (af.l s1.ae))::(fT (x1.1.nodes.drop x2.toNat) (cy.drop x2.toNat)++L)))):=by
 refine me (fun _=>rfl) ?_
 rintro k ⟨x2,s1⟩ s out ⟨dV,eM,h1,rfl,o4⟩ H
 have H:aA.l0 m s0 x1 (k+1) x2 s1=some out:=H
 refine q1 <| qq <| qc H (fun c3 H=>?_) (fun c3 H=>?_)
 ·refine qk <| qq <| qb 1 <| qq ?_
  obtain⟨v0,e3,H⟩:=bj H
  have o5:=DV (pre:=[(aJ,.sl x1.1.nodes.length 4 (gd.l (bC x1.1.nodes cy))),(ao,.ob [.bool s1.aj,.rs dV 0 s1.aa.length 4,.rs eM 0 s1.ae.length 1]),(dV,.sl s1.aa.length 4 (ai.l s1.aa)),(eM,.sl s1.ae.length 1 (af.l s1.ae))]) (q:=0) (ns:=x1.1.nodes) (ids:=cy) o4 rfl e3
  refine qr [.v 1 (bo (k:=.i64) (E:=gd) (l:=(bC x1.1.nodes cy)) (q:=0) xS o4 rfl (qX e3)),.v 2 (uW  (E:=gd) (l:=(bC x1.1.nodes cy)) (q:=0) o4 rfl Fz FA (qX e3))] <| qq <| qq <| q0 <| qc H (fun c4 H=>?_) (fun c4 H=>?_)
  ·refine q0 <| qq <| qq <| q0 <| qb 2 ?_
   obtain⟨bZ,e7,H⟩:=bj H
   refine ql (aA.mj L ao ak an s0 t0 x1 aJ cy x2 v0   ((0:Int),v0.args,s1) _ _ ⟨(JM cy x2),dV,eM,h1,by kernel_rfl,o5⟩ e7) ?_
   rintro e s ⟨rfl,x4,n1,s3,rfl,g0,g1,g2,j9,hU,jc,h4,rfl,o8⟩
   try dsimp only at H
   obtain⟨h5,e8,o9⟩:=rS (E:=af) (l:=n1) (q:=0) o8 rfl
   obtain⟨x5,e9,H⟩:=bj H
   obtain⟨CE,h6,sY,xd⟩:=iD (P:=Try.prog) (E:=ai) (l:=s3.aa) (q:=2) (t2:=40) (x:=.fz [.int .i64 v0.kind,.int .i64 (i64.wrap ((s0.aa.length:Int)+x2)),.str v0.label,af.fz n1] 1 true) (l2:=([(aq.mk v0.kind (i64.wrap ((s0.aa.length:Int)+x2)) v0.label n1)])) xS o9 rfl (by kernel_rfl) rfl e9
   obtain⟨x6,tS,H⟩:=bj H
   obtain⟨fj,h7,vI,CG⟩:=iD (P:=Try.prog) (E:=af) (l:=s3.ae) (q:=3) (t2:=33) (x:=.fz [.int .i64 (i64.wrap ((s0.aa.length:Int)+x2))] 1 true) (l2:=([i64.wrap ((s0.aa.length:Int)+x2)])) fU xd rfl (by kernel_rfl) rfl tS
   obtain⟨h8,xT,CH⟩:=ng (P:=Try.prog) (t:=40) (off:=1) (q:=1) (cs:=[.bool s3.aj,.rs hU 0 s3.aa.length 4,.rs jc 0 s3.ae.length 1]) (eQ:=[.bool s3.aj,.rs CE 0 x5.length 4,.rs jc 0 s3.ae.length 1]) (x:=.rs CE 0 x5.length 4) CG rfl (by kernel_rfl)
   obtain⟨h9,Ad,s8⟩:=ng (P:=Try.prog) (t:=33) (off:=2) (q:=1) (cs:=[.bool s3.aj,.rs CE 0 x5.length 4,.rs jc 0 s3.ae.length 1]) (eQ:=[.bool s3.aj,.rs CE 0 x5.length 4,.rs fj 0 x6.length 1]) (x:=.rs fj 0 x6.length 1) CH rfl (by kernel_rfl)
   exact KN [.a 0 e8] [.v 5 (show bm Try.prog h5 40 (.ptr ao 1)=some (.rs hU 0 s3.aa.length 4) from bW (q:=1) (cs:=[.bool s3.aj,.rs hU 0 s3.aa.length 4,.rs jc 0 s3.ae.length 1]) o9 rfl (by kernel_rfl)),.a 8 sY,.v 12 (show bm Try.prog h6 33 (.ptr ao 2)=some (.rs jc 0 s3.ae.length 1) from bW (q:=1) (cs:=[.bool s3.aj,.rs hU 0 s3.aa.length 4,.rs jc 0 s3.ae.length 1]) xd rfl (by kernel_rfl)),.a 17 vI,.w 20 xT,.w 23 Ad] [.mk (yG o9 (q:=2) rfl (q2:=1) rfl (by decide) sY)] <| q0 <| ⟨(i64.wrap (x2+(1:Int)),(ab.mk s3.aj x5 x6)),⟨CE,fj,h9,by kernel_rfl,s8⟩,H⟩
  ·refine qk <| qq <| qq <| q0 <| qb 2 ?_
   obtain⟨dq,GA,H⟩:=bj H
   refine ql (aA.so L ao ak an s0 t0 x1 aJ cy x2 v0   ((0:Int),v0.args,s1) _ _ ⟨(JM cy x2),dV,eM,h1,by kernel_rfl,o5⟩ GA) ?_
   rintro e s ⟨rfl,x8,n3,s5,rfl,g3,g4,g5,B4,yQ,qB,h12,rfl,yT⟩
   try dsimp only at H
   obtain⟨h13,CF,Ek⟩:=rS (E:=af) (l:=n3) (q:=0) yT rfl
   obtain⟨x9,FB,H⟩:=bj H
   obtain⟨sh,h14,FC,CI⟩:=iD (P:=Try.prog) (E:=ai) (l:=s5.aa) (q:=2) (t2:=40) (x:=.fz [.int .i64 v0.kind,.int .i64 v0.int,.str v0.label,af.fz n3] 1 true) (l2:=([(aq.mk v0.kind v0.int v0.label n3)])) xS Ek rfl (by kernel_rfl) rfl FB
   obtain⟨kC,Hu,H⟩:=bj H
   obtain⟨Ee,h15,Hv,B5⟩:=iD (P:=Try.prog) (E:=af) (l:=s5.ae) (q:=3) (t2:=33) (x:=.fz [.int .i64 (i64.wrap ((s0.aa.length:Int)+x2))] 1 true) (l2:=([i64.wrap ((s0.aa.length:Int)+x2)])) fU CI rfl (by kernel_rfl) rfl Hu
   obtain⟨h16,IN,B6⟩:=ng (P:=Try.prog) (t:=40) (off:=1) (q:=1) (cs:=[.bool s5.aj,.rs yQ 0 s5.aa.length 4,.rs qB 0 s5.ae.length 1]) (eQ:=[.bool s5.aj,.rs sh 0 x9.length 4,.rs qB 0 s5.ae.length 1]) (x:=.rs sh 0 x9.length 4) B5 rfl (by kernel_rfl)
   obtain⟨h17,Hw,B7⟩:=ng (P:=Try.prog) (t:=33) (off:=2) (q:=1) (cs:=[.bool s5.aj,.rs sh 0 x9.length 4,.rs qB 0 s5.ae.length 1]) (eQ:=[.bool s5.aj,.rs sh 0 x9.length 4,.rs Ee 0 kC.length 1]) (x:=.rs Ee 0 kC.length 1) B6 rfl (by kernel_rfl)
   exact KN [.a 0 CF] [.v 5 (show bm Try.prog h13 40 (.ptr ao 1)=some (.rs yQ 0 s5.aa.length 4) from bW (q:=1) (cs:=[.bool s5.aj,.rs yQ 0 s5.aa.length 4,.rs qB 0 s5.ae.length 1]) Ek rfl (by kernel_rfl)),.a 8 FC,.v 12 (show bm Try.prog h14 33 (.ptr ao 2)=some (.rs qB 0 s5.ae.length 1) from bW (q:=1) (cs:=[.bool s5.aj,.rs yQ 0 s5.aa.length 4,.rs qB 0 s5.ae.length 1]) CI rfl (by kernel_rfl)),.a 17 Hv,.w 20 IN,.w 23 Hw] [.mk (yG Ek (q:=2) rfl (q2:=1) rfl (by decide) FC)] <| q0 <| ⟨(i64.wrap (x2+(1:Int)),(ab.mk s5.aj x9 kC)),⟨sh,Ee,h17,by kernel_rfl,B7⟩,H⟩
 ·exact qx 0 <| ⟨rfl,x2,s1,oi H,.ptr ao 0,.rs aJ 0 x1.1.nodes.length 4,.int .i64 (x1.1.nodes.length:Int),.int .i64 x2,.bool (decide (x2<(x1.1.nodes.length:Int))),dV,eM,h1,by kernel_rfl,o4⟩
theorem mz {aV:FuncId→bX}(ha:aV 36=ss)(yJ:KV cf m)(OU:QI cf m)(s0:ab)(t0:br)(h:AHeap)(L:Mem)(ao:Nat)(ak:Nat)(an:Nat)  (o:Has h ((ao,.ob [.bool s0.aj,.rs ak 0 s0.aa.length 4,.rs an 0 s0.ae.length 1])::(ak,.sl s0.aa.length 4 (ai.l s0.aa))::(an,.sl s0.ae.length 1 (af.l s0.ae))::L)){out:Int × Int × ab}(H:aA.f m s0 t0=some out) :
  ∃r h',a7 Try.prog aV cf m 36 [.ptr ao 0,.agg [ai.fz t0.nodes,.int .i64 t0.root]] h=some (r,h')∧∃aB aC:Nat,r = .tup [.int .i64 out.1,.int .i64 out.2.1]∧Has h' ((ao,.ob [.bool out.2.2.aj,.rs aB 0 out.2.2.aa.length 4,.rs aC 0 out.2.2.ae.length 1])::(aB,.sl out.2.2.aa.length 4 (ai.l out.2.2.aa))::(aC,.sl out.2.2.ae.length 1 (af.l out.2.2.ae))::L):=by
 refine au (fn:=Try.f36) ha Try.func36 (by kernel_rfl) (by kernel_rfl) ?_
 refine aH (Q:=fun s=>aA.fin L ao ak an s0 t0 out s) (fun _ _ ⟨h1,aB,aC,h2,h3⟩=>⟨h1,_,h2,aB,aC,rfl,h3⟩) ?_
 have H:_=some out:=H
 unfold aA.f at H
 show dj _ cf ss m _ ⟨.ptr ao 0 :: .agg [ai.fz t0.nodes,.int .i64 t0.root]::Nn [],[none,none,none],h⟩ _
 refine q1 <| qq <| qq ?_
 obtain⟨x0,e0,H⟩:=bj H
 refine qr [.a 1 (yJ _ _ e0 h _ (gp (ah (dM (q:=0) o rfl (ah (eU) (ah (dW (E:=ai) (l:=s0.aa) (q:=1) o rfl (fun _=>rfl)) (ah (dW (E:=af) (l:=s0.ae) (q:=2) o rfl (fun _=>rfl)) (ay))))) (ay))))] <| qc H (fun c0 H=>?_) (fun c0 H=>?_)
 ·obtain rfl:=oi H
  exact q1 <| qt <| ⟨.inl rfl,⟨ak,an,by kernel_rfl,he o⟩⟩
 ·refine qk <| qq ?_
  obtain⟨x1,e1,H⟩:=bj H
  obtain⟨aJ,cy,h0,e2,o0,HP⟩:=OU _ _ e1 h _ _ o (gp (ah (jG (ah (fy (E:=ai)) (ah (bz) (ay)))) (ay)))
  have o1:=Has.w0 (pre:=[(aJ,.sl x1.1.nodes.length 4 (gd.l (bC x1.1.nodes cy)))]) (N:=[(ao,.ob [.bool s0.aj,.rs ak 0 s0.aa.length 4,.rs an 0 s0.ae.length 1]),(ak,.sl s0.aa.length 4 (ai.l s0.aa)),(an,.sl s0.ae.length 1 (af.l s0.ae))]) (mid:=fT x1.1.nodes cy) o0
  refine qr [.a 1 e2] <| qq <| qq <| q0 <| qc H (fun c1 H=>?_) (fun c1 H=>?_)
  ·refine q1 ?_
   have o2:Has h0 ((ao,.ob [.bool s0.aj,.rs ak 0 s0.aa.length 4,.rs an 0 s0.ae.length 1])::(ak,.sl s0.aa.length 4 (ai.l s0.aa))::(an,.sl s0.ae.length 1 (af.l s0.ae))::L):=Has.gone (pre:=[(ao,.ob [.bool s0.aj,.rs ak 0 s0.aa.length 4,.rs an 0 s0.ae.length 1]),(ak,.sl s0.aa.length 4 (ai.l s0.aa)),(an,.sl s0.ae.length 1 (af.l s0.ae))]) (Has.del o1 0)
   obtain rfl:=oi H
   exact qt <| ⟨.inl rfl,⟨ak,an,by kernel_rfl,he o2⟩⟩
  ·refine qk <| qq <| qr [.v 3 (show bm Try.prog h0 40 (.ptr ao 1)=some (.rs ak 0 s0.aa.length 4) from bW (q:=1) (cs:=[.bool s0.aj,.rs ak 0 s0.aa.length 4,.rs an 0 s0.ae.length 1]) o1 rfl (by kernel_rfl))] <| qq <| qq <| q0 <| qc H (fun c2 H=>?_) (fun c2 H=>?_)
   ·refine q1 ?_
    have o3:Has h0 ((ao,.ob [.bool s0.aj,.rs ak 0 s0.aa.length 4,.rs an 0 s0.ae.length 1])::(ak,.sl s0.aa.length 4 (ai.l s0.aa))::(an,.sl s0.ae.length 1 (af.l s0.ae))::L):=Has.gone (pre:=[(ao,.ob [.bool s0.aj,.rs ak 0 s0.aa.length 4,.rs an 0 s0.ae.length 1]),(ak,.sl s0.aa.length 4 (ai.l s0.aa)),(an,.sl s0.ae.length 1 (af.l s0.ae))]) (Has.del o1 0)
    obtain rfl:=oi H
    exact qt <| ⟨.inl rfl,⟨ak,an,by kernel_rfl,he o3⟩⟩
   ·refine qk <| qq <| qq <| q0 <| qb 0 ?_
    obtain⟨mu,JP,H⟩:=bj H
    refine ql (aA.dm L ao ak an s0 t0 x1 aJ cy   ((0:Int),s0) _ _ ⟨ak,an,h0,by kernel_rfl,o1⟩ JP) ?_
    rintro e s ⟨rfl,yK,s6,rfl,g6,g7,g8,g9,g10,yR,yS,h18,rfl,Hx⟩
    try dsimp only at H
    refine q1 ?_
    have Mh:Has h18 ((ao,.ob [.bool s6.aj,.rs yR 0 s6.aa.length 4,.rs yS 0 s6.ae.length 1])::(yR,.sl s6.aa.length 4 (ai.l s6.aa))::(yS,.sl s6.ae.length 1 (af.l s6.ae))::L):=Has.gone (pre:=[(ao,.ob [.bool s6.aj,.rs yR 0 s6.aa.length 4,.rs yS 0 s6.ae.length 1]),(yR,.sl s6.aa.length 4 (ai.l s6.aa)),(yS,.sl s6.ae.length 1 (af.l s6.ae))]) (Has.del Hx 0)
    obtain rfl:=oi H
    exact qt <| ⟨.inl rfl,⟨yR,yS,by kernel_rfl,he Mh⟩⟩
end
end Go.Proofs.Ytifafejidnjckaa
namespace Go.Proofs.Ytifafejidnjckaa
open Go Go.R
open Go.IntKind (i64 u64 u8 u32)
def AP:bX:=gQ [0,1,3,4,5,7,8,15,24,33,44,55,64,75] [3] [16378,16362,16330,16266,16367,16202,16367,16074,16367,15818,16367,15306,16367,14282,16367,12234,16367,8170,16367,16375] [] []
def fC.f (m:Nat)(s0:ab)(x0:aN):Option (Int × ab):=if (x0.eF==(0:Int))=true then ((ec.f m s0).bind fun x1=>some (x1.2.1,x1.2.2)) else (if (x0.eF==(1:Int))=true then ((eh.f m s0 x0.tP).bind fun x2=>some (x2.2.1,x2.2.2)) else (if (x0.eF==(2:Int))=true then ((dR.f m s0 x0.eJ).bind fun x3=>some (x3.2.1,x3.2.2)) else (if (x0.eF==(3:Int))=true then ((dH.f m s0 x0.eJ x0.fO).bind fun x4=>some (x4.2.1,x4.2.2)) else (if (x0.eF==(4:Int))=true then ((dQ.f m s0 x0.eJ x0.tP).bind fun x5=>some (x5.2.1,x5.2.2)) else (if (x0.eF==(5:Int))=true then ((aA.f m s0 x0.w5).bind fun x6=>some (x6.2.1,x6.2.2)) else (if (x0.eF==(6:Int))=true then ((b7.f m s0 x0.tP x0.CD).bind fun x7=>some (x7.2.1,x7.2.2)) else (if (x0.eF==(7:Int))=true then ((dr.f m s0 x0.tP x0.CD).bind fun x8=>some (x8.2.2.1,x8.2.2.2)) else (some ((0:Int),s0)))))))))
def fC.fin (L:Mem)(ao:Nat)(ak:Nat)(an:Nat)(s0:ab)(x0:aN)(r:Int × ab)(s:St):Prop:=∃aB aC:Nat,aM Try.prog (s.open AP) Try.f17.results.toList=some (.int .i64 r.1)∧Has s.h ((ao,.ob [.bool r.2.aj,.rs aB 0 r.2.aa.length 4,.rs aC 0 r.2.ae.length 1])::(aB,.sl r.2.aa.length 4 (ai.l r.2.aa))::(aC,.sl r.2.ae.length 1 (af.l r.2.ae))::L)
def OV (cf:CallF)(m:Nat):Prop:=∀(s0:ab) (x0:aN) (r:Int × ab),fC.f m s0 x0=some r→∀h L (ao:Nat) (ak:Nat) (an:Nat),Has h ((ao,.ob [.bool s0.aj,.rs ak 0 s0.aa.length 4,.rs an 0 s0.ae.length 1])::(ak,.sl s0.aa.length 4 (ai.l s0.aa))::(an,.sl s0.ae.length 1 (af.l s0.ae))::L)→∀xs,xs.map aK=[.ptr ao 0,.agg [.int .i64 x0.eF,.int .i64 x0.tP,.int .i64 x0.CD,.str x0.eJ,af.fz x0.fO,ai.fz x0.w5.nodes,.int .i64 x0.w5.root]]→∃aB aC h',cf 17 xs h=some (.int .i64 r.1,h')∧Has h' ((ao,.ob [.bool r.2.aj,.rs aB 0 r.2.aa.length 4,.rs aC 0 r.2.ae.length 1])::(aB,.sl r.2.aa.length 4 (ai.l r.2.aa))::(aC,.sl r.2.ae.length 1 (af.l r.2.ae))::L)
section
variable {cf:CallF}{m:Nat}
theorem te {aV:FuncId→bX}(ha:aV 17=AP)(GB:Oq cf m)(OW:Qs cf m)(OX:Qd cf m)(OY:Qy cf m)(OZ:Qe cf m)(O0:Qt cf m)(O1:Qo cf m)(O2:QJ cf m)(s0:ab)(x0:aN)(h:AHeap)(L:Mem)(ao:Nat)(ak:Nat)(an:Nat)  (o:Has h ((ao,.ob [.bool s0.aj,.rs ak 0 s0.aa.length 4,.rs an 0 s0.ae.length 1])::(ak,.sl s0.aa.length 4 (ai.l s0.aa))::(an,.sl s0.ae.length 1 (af.l s0.ae))::L)){out:Int × ab}(H:fC.f m s0 x0=some out) :
  ∃r h',a7 Try.prog aV cf m 17 [.ptr ao 0,.agg [.int .i64 x0.eF,.int .i64 x0.tP,.int .i64 x0.CD,.str x0.eJ,af.fz x0.fO,ai.fz x0.w5.nodes,.int .i64 x0.w5.root]] h=some (r,h')∧∃aB aC:Nat,r = .int .i64 out.1∧Has h' ((ao,.ob [.bool out.2.aj,.rs aB 0 out.2.aa.length 4,.rs aC 0 out.2.ae.length 1])::(aB,.sl out.2.aa.length 4 (ai.l out.2.aa))::(aC,.sl out.2.ae.length 1 (af.l out.2.ae))::L):=by
 refine au (fn:=Try.f17) ha Try.func17 (by kernel_rfl) (by kernel_rfl) ?_
 refine aH (Q:=fun s=>fC.fin L ao ak an s0 x0 out s) (fun _ _ ⟨h1,aB,aC,h2,h3⟩=>⟨h1,_,h2,aB,aC,rfl,h3⟩) ?_
 have H:_=some out:=H
 unfold fC.f at H
 show dj _ cf AP m _ ⟨.ptr ao 0 :: .agg [.int .i64 x0.eF,.int .i64 x0.tP,.int .i64 x0.CD,.str x0.eJ,af.fz x0.fO,ai.fz x0.w5.nodes,.int .i64 x0.w5.root]::u6 [],[none],h⟩ _
 refine q1 <| qq <| q0 <| qq <| qq <| q0 <| qb 0 <| qq <| q0 <| qc H (fun c0 H=>?_) (fun c0 H=>?_)
 ·obtain⟨x1,e0,H⟩:=bj H
  obtain⟨aJ,dV,h0,e1,o0⟩:=OX _ _ e0 h _ _ _ _ (o)  [.ptr ao 0] (ar (rfl) (bE))
  obtain rfl:=oi H
  exact qr [.a 1 e1] <| qq <| q0 <| qt <| ⟨.inl rfl,⟨aJ,dV,by kernel_rfl,he o0⟩⟩
 ·refine q1 <| qc H (fun c1 H=>?_) (fun c1 H=>?_)
  ·obtain⟨x2,e2,H⟩:=bj H
   obtain⟨eM,cZ,h1,e3,o1⟩:=OZ _ _ _ e2 h _ _ _ _ (o)  [.ptr ao 0,.int .i64 x0.tP] (ar (rfl) (ar (aL (bh)) (bE)))
   obtain rfl:=oi H
   exact qr [.a 3 e3] <| qq <| q0 <| qt <| ⟨.inl rfl,⟨eM,cZ,by kernel_rfl,he o1⟩⟩
  ·refine q1 <| qc H (fun c2 H=>?_) (fun c2 H=>?_)
   ·obtain⟨x3,e4,H⟩:=bj H
    obtain⟨dZ,eS,h2,e5,o2⟩:=OY _ _ _ e4 h _ _ _ _ (o)  [.ptr ao 0,.str x0.eJ] (ar (rfl) (ar (aL (kX)) (bE)))
    obtain rfl:=oi H
    exact qr [.a 3 e5] <| qq <| q0 <| qt <| ⟨.inl rfl,⟨dZ,eS,by kernel_rfl,he o2⟩⟩
   ·refine q1 <| qc H (fun c3 H=>?_) (fun c3 H=>?_)
    ·obtain⟨x4,e6,H⟩:=bj H
     obtain⟨j9,hU,h3,e7,o3⟩:=O0 _ _ _ _ e6 h _ _ _ _ (o)  [.ptr ao 0,.str x0.eJ,af.fz x0.fO] (ar (rfl) (ar (aL (kX)) (ar (aL (ou (E:=af))) (bE))))
     obtain rfl:=oi H
     exact qr [.a 5 e7] <| qq <| q0 <| qt <| ⟨.inl rfl,⟨j9,hU,by kernel_rfl,he o3⟩⟩
    ·refine q1 <| qc H (fun c4 H=>?_) (fun c4 H=>?_)
     ·obtain⟨x5,e8,H⟩:=bj H
      obtain⟨jc,CE,h4,e9,o4⟩:=O1 _ _ _ _ e8 h _ _ _ _ (o)  [.ptr ao 0,.str x0.eJ,.int .i64 x0.tP] (ar (rfl) (ar (aL (kX)) (ar (aL (bh)) (bE))))
      obtain rfl:=oi H
      exact qr [.a 5 e9] <| qq <| q0 <| qt <| ⟨.inl rfl,⟨jc,CE,by kernel_rfl,he o4⟩⟩
     ·refine q1 <| qc H (fun c5 H=>?_) (fun c5 H=>?_)
      ·obtain⟨x6,sY,H⟩:=bj H
       obtain⟨fj,gR,h5,tS,o5⟩:=O2 _ _ _ sY h _ _ _ _ (o)  [.ptr ao 0,.agg [ai.fz x0.w5.nodes,.int .i64 x0.w5.root]] (ar (rfl) (ar (aL (nC (cp (ou (E:=ai)) (cp (bh) (nB))))) (bE)))
       obtain rfl:=oi H
       exact qr [.a 3 tS] <| qq <| q0 <| qt <| ⟨.inl rfl,⟨fj,gR,by kernel_rfl,he o5⟩⟩
      ·refine q1 <| qc H (fun c6 H=>?_) (fun c6 H=>?_)
       ·obtain⟨x7,vI,H⟩:=bj H
        obtain⟨ld,mq,B4,h6,xT,o6⟩:=GB _ _ _ _ vI h _ _ _ _ (o)  [.ptr ao 0,.int .i64 x0.tP,.int .i64 x0.CD] (ar (rfl) (ar (aL (bh)) (ar (aL (bh)) (bE))))
        refine qr [.a 5 xT] ?_
        have o7:Has h6 ((ao,.ob [.bool x7.2.2.aj,.rs mq 0 x7.2.2.aa.length 4,.rs B4 0 x7.2.2.ae.length 1])::(mq,.sl x7.2.2.aa.length 4 (ai.l x7.2.2.aa))::(B4,.sl x7.2.2.ae.length 1 (af.l x7.2.2.ae))::L):=Has.del o6 0
        obtain rfl:=oi H
        exact q1 <| qt <| ⟨.inl rfl,⟨mq,B4,by kernel_rfl,he o7⟩⟩
       ·refine q1 <| qc H (fun c7 H=>?_) (fun c7 H=>?_)
        ·obtain⟨x8,Ad,H⟩:=bj H
         obtain⟨yQ,qB,sh,h7,yP,o8⟩:=OW _ _ _ _ Ad h _ _ _ _ (o)  [.ptr ao 0,.int .i64 x0.tP,.int .i64 x0.CD] (ar (rfl) (ar (aL (bh)) (ar (aL (bh)) (bE))))
         refine qr [.a 5 yP] ?_
         have o9:Has h7 ((ao,.ob [.bool x8.2.2.2.aj,.rs qB 0 x8.2.2.2.aa.length 4,.rs sh 0 x8.2.2.2.ae.length 1])::(qB,.sl x8.2.2.2.aa.length 4 (ai.l x8.2.2.2.aa))::(sh,.sl x8.2.2.2.ae.length 1 (af.l x8.2.2.2.ae))::L):=Has.del o8 0
         obtain rfl:=oi H
         exact q1 <| qt <| ⟨.inl rfl,⟨qB,sh,by kernel_rfl,he o9⟩⟩
        ·obtain rfl:=oi H
         exact qk <| qq <| q0 <| qt <| ⟨.inl rfl,⟨ak,an,by kernel_rfl,he o⟩⟩
end
end Go.Proofs.Ytifafejidnjckaa
namespace Go.Proofs.Ytifafejidnjckaa
open Go Go.R
open Go.IntKind (i64 u64 u8 u32)
def xl:bX:=gQ [0,2,3,4,9] [] [30,26,18,2,18,18,29] [] []
def bR.l0 (m:Nat)(l0:List aN):Nat→Int→ab→Option (Int × ab)
 | 0,_,_=>none
 | k+1,i0,oU=>if (decide (i0<(l0.length:Int)))=true then ((ix l0 i0).bind fun v0=>(fC.f m oU v0).bind fun x1=>bR.l0 m l0 k (i64.wrap (i0+(1:Int))) x1.2) else (some ((i0,oU)))
def bR.f (m:Nat)(l0:List aN):Option (ab):=(iR.f m ).bind fun x0=>(bR.l0 m l0 m (0:Int) x0).bind fun bZ=>match bZ with | (i1,vG)=>some vG
def bR.fin (L:Mem)(l0:List aN)(r:ab)(s:St):Prop:=∃eR gg gh:Nat,aM Try.prog (s.open xl) Try.f12.results.toList=some (.ptr eR 0)∧Has s.h ((eR,.ob [.bool r.aj,.rs gg 0 r.aa.length 4,.rs gh 0 r.ae.length 1])::(gg,.sl r.aa.length 4 (ai.l r.aa))::(gh,.sl r.ae.length 1 (af.l r.ae))::L)
def QK (cf:CallF)(m:Nat):Prop:=∀(l0:List aN) (r:ab),bR.f m l0=some r→∀h L,Has h (L)→∀xs,xs.map aK=[aU.fz l0]→∃eR gg gh h',cf 12 xs h=some (.ptr eR 0,h')∧Has h' ((eR,.ob [.bool r.aj,.rs gg 0 r.aa.length 4,.rs gh 0 r.ae.length 1])::(gg,.sl r.aa.length 4 (ai.l r.aa))::(gh,.sl r.ae.length 1 (af.l r.ae))::L)
section
variable {cf:CallF}{m:Nat}
theorem bR.dm (L:Mem)(l0:List aN)(aJ:Nat)  (Ja:OV cf m):dS Try.prog cf xl m (sub [1,1,0,1,0,0] (b8 Try.f12)) (fun k (σ:Int × ab)=>bR.l0 m l0 k σ.1 σ.2) (fun σ s=>match σ with | (i0,oU)=>∃cZ dZ h1,s=⟨[aU.fz l0,.any,.ptr aJ 0,.int .i64 i0,.any],[],h1⟩∧Has h1 ((aJ,.ob [.bool oU.aj,.rs cZ 0 oU.aa.length 4,.rs dZ 0 oU.ae.length 1])::(cZ,.sl oU.aa.length 4 (ai.l oU.aa))::(dZ,.sl oU.ae.length 1 (af.l oU.ae))::L)) (fun out e s=>(e = .exit 0∧∃i0 oU,(i0,oU)=out∧∃oz IU B0 cZ dZ h1,s=⟨[oz,.any,.ptr aJ 0,IU,B0],[],h1⟩∧Has h1 ((aJ,.ob [.bool oU.aj,.rs cZ 0 oU.aa.length 4,.rs dZ 0 oU.ae.length 1])::(cZ,.sl oU.aa.length 4 (ai.l oU.aa))::(dZ,.sl oU.ae.length 1 (af.l oU.ae))::L))):=by
 refine me (fun _=>rfl) ?_
 rintro k ⟨i0,oU⟩ s out ⟨cZ,dZ,h1,rfl,o1⟩ H
 have H:bR.l0 m l0 (k+1) i0 oU=some out:=H
 refine qq <| qq <| q0 <| qc H (fun c0 H=>?_) (fun c0 H=>?_)
 ·refine qk <| qq <| qb 1 ?_
  obtain⟨v0,e2,H⟩:=bj H
  obtain⟨x1,e3,H⟩:=bj H
  obtain⟨eS,j9,h2,e4,o2⟩:=Ja _ _ _ e3 h1 _ _ _ _ (o1)  [.ptr aJ 0,.agg [.int .i64 v0.eF,.int .i64 v0.tP,.int .i64 v0.CD,.str v0.eJ,af.fz v0.fO,ai.fz v0.w5.nodes,.int .i64 v0.w5.root]] (ar (rfl) (ar (aL (nC (cp (bh) (cp (bh) (cp (bh) (cp (kX) (cp (ou (E:=af)) (cp (ou (E:=ai)) (cp (bh) (nB)))))))))) (bE)))
  exact qr [.v 3 (eA (k:=.i64) (E:=aU) (l:=l0) L4 e2),.v 4 (ma  (E:=aU) (l:=l0) h1 Sm Sp e2),.a 5 e4] <| q0 <| ⟨(i64.wrap (i0+(1:Int)),x1.2),⟨eS,j9,h2,by kernel_rfl,o2⟩,H⟩
 ·exact qx 0 <| ⟨rfl,i0,oU,oi H,aU.fz l0,.int .i64 i0,.bool (decide (i0<(l0.length:Int))),cZ,dZ,h1,by kernel_rfl,o1⟩
theorem qJ {aV:FuncId→bX}(ha:aV 12=xl)(Ja:OV cf m)(O3:P4 cf m)(l0:List aN)(h:AHeap)(L:Mem)  (o:Has h (L)){out:ab}(H:bR.f m l0=some out) :
  ∃r h',a7 Try.prog aV cf m 12 [aU.fz l0] h=some (r,h')∧∃eR gg gh:Nat,r = .ptr eR 0∧Has h' ((eR,.ob [.bool out.aj,.rs gg 0 out.aa.length 4,.rs gh 0 out.ae.length 1])::(gg,.sl out.aa.length 4 (ai.l out.aa))::(gh,.sl out.ae.length 1 (af.l out.ae))::L):=by
 refine au (fn:=Try.f12) ha Try.func12 (by kernel_rfl) (by kernel_rfl) ?_
 refine aH (Q:=fun s=>bR.fin L l0 out s) (fun _ _ ⟨h1,eR,gg,gh,h2,h3⟩=>⟨h1,_,h2,eR,gg,gh,rfl,h3⟩) ?_
 have H:_=some out:=H
 unfold bR.f at H
 show dj _ cf xl m _ ⟨aU.fz l0::nh [],[],h⟩ _
 refine q1 <| qq ?_
 obtain⟨x0,e0,H⟩:=bj H
 obtain⟨aJ,dV,eM,h0,e1,o0⟩:=O3 _ e0 h _  (o)  [] (bE)
 refine qr [.a 0 e1] <| qq <| qq <| q0 <| qb 0 ?_
 obtain⟨bZ,e5,H⟩:=bj H
 refine ql (bR.dm L l0 aJ  Ja ((0:Int),x0) _ _ ⟨dV,eM,h0,by kernel_rfl,o0⟩ e5) ?_
 rintro e s ⟨rfl,i1,vG,rfl,g0,g1,g2,hU,jc,h3,rfl,o3⟩
 try dsimp only at H
 obtain rfl:=oi H
 exact q1 <| qt <| ⟨.inl rfl,⟨aJ,hU,jc,by kernel_rfl,he o3⟩⟩
end
end Go.Proofs.Ytifafejidnjckaa
namespace Go.Proofs.Ytifafejidnjckaa
open Go Go.R
open Go.IntKind (i64 u64 u8 u32)
end Go.Proofs.Ytifafejidnjckaa
namespace Go.Proofs.Ytifafejidnjckaa
open Go Go.R
open Go.IntKind (i64 u64 u8 u32)
def Ep:bX:=gQ [0,1,2,3,8,9,10,11,13,14,15,16,18,20,36,43,47,75] [] [262128,253936,262127,262033,261905,261649,245521,262127,261425,260401,227633,260401,258353,192817,258353,129329,262127,257471,262127] [] []
def aX.l0 (m:Nat)(gP:Bool)(x4:(List Int))(x7:(List Int)):Nat→Int→Option (Sum Bool (Int))
 | 0,_=>none
 | k+1,i0=>if (decide (i0<(x7.length:Int)))=true then (jn (fun (σ:Int)=>match σ with | n0=>(ix x7 n0).bind fun v0=>(ix x4 n0).bind fun v1=>if (!(v0==v1))=true then ((ix x4 n0).bind fun v2=>(ix x7 v2).bind fun v3=>(ix x7 n0).bind fun v4=>if (!(v3==v4))=true then (some (.inl false)) else (aX.l0 m gP x4 x7 k (i64.wrap (i0+(1:Int))))) else (aX.l0 m gP x4 x7 k (i64.wrap (i0+(1:Int))))) fun sX=>(if gP=true then (sX (i64.wrap (i64.wrap ((x7.length:Int) - (1:Int)) - i0))) else (sX i0))) else (some (.inr i0))
def aX.f (m:Nat)(l0:List aN)(a0:Int)(b0:Int)(gP:Bool):Option (Bool):=(bw.f m l0).bind fun x0=>if x0=true then ((cU.f m).bind fun x1=>some x1) else ((bR.f m l0).bind fun x2=>(bR.f m l0).bind fun x3=>(bG.f m x2).bind fun x4=>(b7.f m x2 a0 b0).bind fun x5=>if (!(x5.2.1==(0:Int)))=true then ((cU.f m).bind fun x6=>some x6) else ((bG.f m x5.2.2).bind fun x7=>(aX.l0 m gP x4 x7 m (0:Int)).bind fun bZ=>match bZ with | .inl r0=>some r0 | .inr i1=>(b7.f m x3 b0 a0).bind fun x8=>if (x8.2.1==(0:Int))=true then ((bG.f m x8.2.2).bind fun x9=>(bT.f m x9 x7).bind fun kC=>if kC=true then ((cU.f m).bind fun yK=>some yK) else (some false)) else (some false)))
def aX.fin (L:Mem)(r:Bool)(s:St):Prop:=∃av,aM Try.prog (s.open Ep) Try.f4.results.toList=some av∧ff s.h av (.bool r)
def S4 (cf:CallF)(m:Nat):Prop:=∀(l0:List aN) (a0:Int) (b0:Int) (gP:Bool) (r:Bool),aX.f m l0 a0 b0 gP=some r→∀h xs,aO bO h xs [aU.fz l0,.int .i64 a0,.int .i64 b0,.bool gP]→cf 4 xs h=some (.bool r,h)
section
variable {cf:CallF}{m:Nat}
theorem aX.dm (L:Mem)(l0:List aN)(a0:Int)(b0:Int)(gP:Bool)(x3:ab)(cZ:Nat)(dZ:Nat)(eS:Nat)(x4:(List Int))(x7:(List Int))   : dS Try.prog cf Ep m (sub [1,1,1,1,1,1,1,0,1,0,0] (b8 Try.f4)) (fun k (σ:Int)=>aX.l0 m gP x4 x7 k σ) (fun σ s=>match σ with | i0=>∃h3,s=⟨.any :: .int .i64 a0 :: .int .i64 b0 :: .bool gP :: .any :: .any :: .ptr cZ 0::af.fz x4 :: .any::af.fz x7 :: .int .i64 i0::Ge [],[],h3⟩∧Has h3 ((cZ,.ob [.bool x3.aj,.rs dZ 0 x3.aa.length 4,.rs eS 0 x3.ae.length 1])::(dZ,.sl x3.aa.length 4 (ai.l x3.aa))::(eS,.sl x3.ae.length 1 (af.l x3.ae))::L)) (fun out e s=>(e = .exit 0∧∃i0,.inr i0=out∧∃DX D7 IV O4 h3,s=⟨.any :: .int .i64 a0 :: .int .i64 b0::DX :: .any :: .any :: .ptr cZ 0::D7 :: .any::af.fz x7::IV::nh [O4,.any,.any],[],h3⟩∧Has h3 ((cZ,.ob [.bool x3.aj,.rs dZ 0 x3.aa.length 4,.rs eS 0 x3.ae.length 1])::(dZ,.sl x3.aa.length 4 (ai.l x3.aa))::(eS,.sl x3.ae.length 1 (af.l x3.ae))::L))∨(e = .ret∧∃r,.inl r=out∧aX.fin L r s)):=by
 refine me (fun _=>rfl) ?_
 rintro k i0 s out ⟨h3,rfl,s8⟩ H
 have H:aX.l0 m gP x4 x7 (k+1) i0=some out:=H
 refine qq <| qq <| q0 <| qc H (fun c2 H=>?_) (fun c2 H=>?_)
 ·refine qk <| qq <| qb 1 <| qq <| q0 ?_
  obtain⟨sX,D0,H⟩:=mN H
  refine qj (S:=fun (σ:Int) s=>match σ with | n0=>∃(g0:AV) (h4:AHeap),s=⟨.any :: .int .i64 a0 :: .int .i64 b0 :: .bool gP :: .any :: .any :: .ptr cZ 0::af.fz x4 :: .any::af.fz x7 :: .int .i64 i0 :: .int .i64 n0::nh [g0,.any],[],h4⟩∧Has h4 ((cZ,.ob [.bool x3.aj,.rs dZ 0 x3.aa.length 4,.rs eS 0 x3.ae.length 1])::(dZ,.sl x3.aa.length 4 (ai.l x3.aa))::(eS,.sl x3.ae.length 1 (af.l x3.ae))::L)) sX H ?_ ?_
  ·rintro n0 s ⟨g0,h4,rfl,s9⟩ H
   have H:=(D0 _).symm.trans H
   try dsimp only at H
   refine qq ?_
   obtain⟨v0,tS,H⟩:=bj H
   obtain⟨v1,vI,H⟩:=bj H
   rcases iG H with⟨c4,H⟩| ⟨c4,H⟩
   ·obtain⟨v2,xT,H⟩:=bj H
    obtain⟨v3,Ad,H⟩:=bj H
    obtain⟨v4,yP,H⟩:=bj H
    refine qr [.v 2 (eA (k:=.i64) (E:=af) (l:=x7) fU tS),.v 3 (fu  (E:=af) (l:=x7) h4 A3 tS rfl),.v 6 (eA (k:=.i64) (E:=af) (l:=x4) fU vI),.v 7 (fu  (E:=af) (l:=x4) h4 A3 vI rfl),.b 9 c4,.v 13 (eA (k:=.i64) (E:=af) (l:=x4) fU xT),.v 14 (fu  (E:=af) (l:=x4) h4 A3 xT rfl),.v 15 (eA (k:=.i64) (E:=af) (l:=x7) fU Ad),.v 16 (fu  (E:=af) (l:=x7) h4 A3 Ad rfl),.v 19 (eA (k:=.i64) (E:=af) (l:=x7) fU yP),.v 20 (fu  (E:=af) (l:=x7) h4 A3 yP rfl)] <| qc H (fun c5 H=>?_) (fun c5 H=>?_)
    ·refine q1 ?_
     have Ef:Has h4 ((cZ,.ob [.bool x3.aj,.rs dZ 0 x3.aa.length 4,.rs eS 0 x3.ae.length 1])::(dZ,.sl x3.aa.length 4 (ai.l x3.aa))::L):=Has.del s9 2
     have yT:Has h4 ((cZ,.ob [.bool x3.aj,.rs dZ 0 x3.aa.length 4,.rs eS 0 x3.ae.length 1])::L):=Has.del Ef 1
     have Ek:Has h4 (L):=Has.del yT 0
     exact qt <| Or.inr (⟨rfl,_,oi H,dy (.bool false) h4 (dw (aD))⟩)
    ·exact qk <| q0 <| ⟨i64.wrap (i0+(1:Int)),⟨h4,by kernel_rfl,s9⟩,H⟩
   ·exact qr [.v 2 (eA (k:=.i64) (E:=af) (l:=x7) fU tS),.v 3 (fu  (E:=af) (l:=x7) h4 A3 tS rfl),.v 6 (eA (k:=.i64) (E:=af) (l:=x4) fU vI),.v 7 (fu  (E:=af) (l:=x4) h4 A3 vI rfl),.b 9 c4] <| DJ <| qk <| q0 <| ⟨i64.wrap (i0+(1:Int)),⟨h4,by kernel_rfl,s9⟩,H⟩
  clear D0
  intro pv
  refine q1 <| qc H (fun c3 H=>?_) (fun c3 H=>?_)
  ·exact q0 <| pv (i64.wrap (i64.wrap ((x7.length:Int) - (1:Int)) - i0)) _ ⟨.any,h3,by kernel_rfl,s8⟩ H
  ·exact qk <| pv i0 _ ⟨.bool gP,h3,by kernel_rfl,s8⟩ H
 ·exact qx 0 <| Or.inl (⟨rfl,i0,oi H,.bool gP,af.fz x4,.int .i64 i0,.bool (decide (i0<(x7.length:Int))),h3,by kernel_rfl,s8⟩)
theorem lM {aV:FuncId→bX}(ha:aV 4=Ep)(O5:PZ cf m)(Jb:PW cf m)(Lm:QK cf m)(Ln:P3 cf m)(GC:Qx cf m)(GB:Oq cf m)(l0:List aN)(a0:Int)(b0:Int)(gP:Bool)(h:AHeap)(L:Mem)  (o:Has h (L)){out:Bool}(H:aX.f m l0 a0 b0 gP=some out) :
  ∃r h',a7 Try.prog aV cf m 4 [aU.fz l0,.int .i64 a0,.int .i64 b0,.bool gP] h=some (r,h')∧ff h' r (.bool out):=by
 refine au (fn:=Try.f4) ha Try.func4 (by kernel_rfl) (by kernel_rfl) ?_
 refine aH (Q:=fun s=>aX.fin L out s) (fun _ _ h=>h) ?_
 have H:_=some out:=H
 unfold aX.f at H
 show dj _ cf Ep m _ ⟨aU.fz l0 :: .int .i64 a0 :: .int .i64 b0 :: .bool gP::u7 [],[],h⟩ _
 refine q1 <| qq <| qq ?_
 obtain⟨x0,e0,H⟩:=bj H
 refine qr [.a 1 (O5 _ _ e0 h _ (gp (ah (fy (E:=aU)) (ay))))] <| qc H (fun c0 H=>?_) (fun c0 H=>?_)
 ·refine qq ?_
  obtain⟨x1,e1,H⟩:=bj H
  obtain rfl:=oi H
  exact qr [.a 0 (Jb _ e1 h _ (gp (ay)))] <| qt <| ⟨.inl rfl,dy (.bool x1) h (dw (aD))⟩
 ·refine qk <| qq ?_
  obtain⟨x2,e2,H⟩:=bj H
  obtain⟨aJ,dV,eM,h0,e3,o0⟩:=Lm _ _ e2 h _  (o)  [aU.fz l0] (ar (aL (ou (E:=aU))) (bE))
  obtain⟨x3,e4,H⟩:=bj H
  obtain⟨cZ,dZ,eS,h1,e5,o1⟩:=Lm _ _ e4 h0 _  (o0)  [aU.fz l0] (ar (aL (ou (E:=aU))) (bE))
  refine qr [.a 1 e3,.a 3 e5] <| qq ?_
  obtain⟨x4,e6,H⟩:=bj H
  refine qr [.a 1 (GC _ _ e6 h1 _ (gp (ah (dM (q:=3) o1 rfl (ah (eU) (ah (dW (E:=ai) (l:=x2.aa) (q:=4) o1 rfl (fun _=>rfl)) (ah (dW (E:=af) (l:=x2.ae) (q:=5) o1 rfl (fun _=>rfl)) (ay))))) (ay))))] <| qq ?_
  obtain⟨x5,e7,H⟩:=bj H
  obtain⟨j9,hU,jc,h2,e8,o2⟩:=GB _ _ _ _ e7 h1 _ _ _ _ ((Has.front (Has.front (Has.front (Has.front (Has.front (Has.front o1 2 rfl) 2 rfl) 2 rfl) 5 rfl) 5 rfl) 5 rfl))  [.ptr aJ 0,.int .i64 a0,.int .i64 b0] (ar (rfl) (ar (aL (bh)) (ar (aL (bh)) (bE))))
  refine qr [.a 3 e8] ?_
  have o3:Has h2 ((aJ,.ob [.bool x5.2.2.aj,.rs hU 0 x5.2.2.aa.length 4,.rs jc 0 x5.2.2.ae.length 1])::(hU,.sl x5.2.2.aa.length 4 (ai.l x5.2.2.aa))::(jc,.sl x5.2.2.ae.length 1 (af.l x5.2.2.ae))::(cZ,.ob [.bool x3.aj,.rs dZ 0 x3.aa.length 4,.rs eS 0 x3.ae.length 1])::(dZ,.sl x3.aa.length 4 (ai.l x3.aa))::(eS,.sl x3.ae.length 1 (af.l x3.ae))::L):=Has.del o2 0
  refine qq <| qq <| q0 <| qc H (fun c1 H=>?_) (fun c1 H=>?_)
  ·refine qq ?_
   obtain⟨x6,e9,H⟩:=bj H
   refine qr [.a 0 (Jb _ e9 h2 _ (gp (ay)))] ?_
   have o4:Has h2 ((aJ,.ob [.bool x5.2.2.aj,.rs hU 0 x5.2.2.aa.length 4,.rs jc 0 x5.2.2.ae.length 1])::(hU,.sl x5.2.2.aa.length 4 (ai.l x5.2.2.aa))::(jc,.sl x5.2.2.ae.length 1 (af.l x5.2.2.ae))::(cZ,.ob [.bool x3.aj,.rs dZ 0 x3.aa.length 4,.rs eS 0 x3.ae.length 1])::(dZ,.sl x3.aa.length 4 (ai.l x3.aa))::L):=Has.del o3 5
   have o5:Has h2 ((aJ,.ob [.bool x5.2.2.aj,.rs hU 0 x5.2.2.aa.length 4,.rs jc 0 x5.2.2.ae.length 1])::(hU,.sl x5.2.2.aa.length 4 (ai.l x5.2.2.aa))::(jc,.sl x5.2.2.ae.length 1 (af.l x5.2.2.ae))::(cZ,.ob [.bool x3.aj,.rs dZ 0 x3.aa.length 4,.rs eS 0 x3.ae.length 1])::L):=Has.del o4 4
   have o6:Has h2 ((aJ,.ob [.bool x5.2.2.aj,.rs hU 0 x5.2.2.aa.length 4,.rs jc 0 x5.2.2.ae.length 1])::(hU,.sl x5.2.2.aa.length 4 (ai.l x5.2.2.aa))::(jc,.sl x5.2.2.ae.length 1 (af.l x5.2.2.ae))::L):=Has.del o5 3
   have o7:Has h2 ((aJ,.ob [.bool x5.2.2.aj,.rs hU 0 x5.2.2.aa.length 4,.rs jc 0 x5.2.2.ae.length 1])::(hU,.sl x5.2.2.aa.length 4 (ai.l x5.2.2.aa))::L):=Has.del o6 2
   have o8:Has h2 ((aJ,.ob [.bool x5.2.2.aj,.rs hU 0 x5.2.2.aa.length 4,.rs jc 0 x5.2.2.ae.length 1])::L):=Has.del o7 1
   have o9:Has h2 (L):=Has.del o8 0
   obtain rfl:=oi H
   exact qt <| ⟨.inl rfl,dy (.bool x6) h2 (dw (aD))⟩
  ·refine qk <| qq ?_
   obtain⟨x7,sY,H⟩:=bj H
   refine qr [.a 1 (GC _ _ sY h2 _ (gp (ah (dM (q:=0) o3 rfl (ah (eU) (ah (dW (E:=ai) (l:=x5.2.2.aa) (q:=1) o3 rfl (fun _=>rfl)) (ah (dW (E:=af) (l:=x5.2.2.ae) (q:=2) o3 rfl (fun _=>rfl)) (ay))))) (ay))))] ?_
   have xd:Has h2 ((aJ,.ob [.bool x5.2.2.aj,.rs hU 0 x5.2.2.aa.length 4,.rs jc 0 x5.2.2.ae.length 1])::(hU,.sl x5.2.2.aa.length 4 (ai.l x5.2.2.aa))::(cZ,.ob [.bool x3.aj,.rs dZ 0 x3.aa.length 4,.rs eS 0 x3.ae.length 1])::(dZ,.sl x3.aa.length 4 (ai.l x3.aa))::(eS,.sl x3.ae.length 1 (af.l x3.ae))::L):=Has.del o3 2
   have CG:Has h2 ((aJ,.ob [.bool x5.2.2.aj,.rs hU 0 x5.2.2.aa.length 4,.rs jc 0 x5.2.2.ae.length 1])::(cZ,.ob [.bool x3.aj,.rs dZ 0 x3.aa.length 4,.rs eS 0 x3.ae.length 1])::(dZ,.sl x3.aa.length 4 (ai.l x3.aa))::(eS,.sl x3.ae.length 1 (af.l x3.ae))::L):=Has.del xd 1
   have CH:Has h2 ((cZ,.ob [.bool x3.aj,.rs dZ 0 x3.aa.length 4,.rs eS 0 x3.ae.length 1])::(dZ,.sl x3.aa.length 4 (ai.l x3.aa))::(eS,.sl x3.ae.length 1 (af.l x3.ae))::L):=Has.del CG 0
   refine qq <| qq <| q0 <| qb 0 ?_
   obtain⟨bZ,Ec,H⟩:=bj H
   refine ql (aX.dm L l0 a0 b0 gP x3 cZ dZ eS x4 x7   (0:Int) _ _ ⟨h2,by kernel_rfl,CH⟩ Ec) ?_
   rintro e s (⟨rfl,i1,rfl,g1,g2,g3,g4,h5,rfl,CI⟩| ⟨rfl,r0,rfl,w7⟩)
   ·try dsimp only at H
    refine qq ?_
    obtain⟨x8,Ed,H⟩:=bj H
    obtain⟨CE,fj,gR,h6,GA,B5⟩:=GB _ _ _ _ Ed h5 _ _ _ _ (CI)  [.ptr cZ 0,.int .i64 b0,.int .i64 a0] (ar (rfl) (ar (aL (bh)) (ar (aL (bh)) (bE))))
    refine qr [.a 3 GA] ?_
    have B6:Has h6 ((cZ,.ob [.bool x8.2.2.aj,.rs fj 0 x8.2.2.aa.length 4,.rs gR 0 x8.2.2.ae.length 1])::(fj,.sl x8.2.2.aa.length 4 (ai.l x8.2.2.aa))::(gR,.sl x8.2.2.ae.length 1 (af.l x8.2.2.ae))::L):=Has.del B5 0
    refine qq ?_
    rcases iG H with⟨c7,H⟩| ⟨c7,H⟩
    ·obtain⟨x9,CF,H⟩:=bj H
     obtain⟨kC,FB,H⟩:=bj H
     rcases iG H with⟨c8,H⟩| ⟨c8,H⟩
     ·obtain⟨yK,FC,H⟩:=bj H
      refine qr [.b 2 c7,.a 4 (GC _ _ CF h6 _ (gp (ah (dM (q:=0) B6 rfl (ah (eU) (ah (dW (E:=ai) (l:=x8.2.2.aa) (q:=1) B6 rfl (fun _=>rfl)) (ah (dW (E:=af) (l:=x8.2.2.ae) (q:=2) B6 rfl (fun _=>rfl)) (ay))))) (ay)))),.a 6 (Ln _ _ _ FB h6 _ (gp (ah (fy (E:=af)) (ah (fy (E:=af)) (ay))))),.b 8 c8,.a 9 (Jb _ FC h6 _ (gp (ay)))] ?_
      have B7:Has h6 ((cZ,.ob [.bool x8.2.2.aj,.rs fj 0 x8.2.2.aa.length 4,.rs gR 0 x8.2.2.ae.length 1])::(fj,.sl x8.2.2.aa.length 4 (ai.l x8.2.2.aa))::L):=Has.del B6 2
      have Hx:Has h6 ((cZ,.ob [.bool x8.2.2.aj,.rs fj 0 x8.2.2.aa.length 4,.rs gR 0 x8.2.2.ae.length 1])::L):=Has.del B7 1
      have Mh:Has h6 (L):=Has.del Hx 0
      obtain rfl:=oi H
      exact qt <| ⟨.inl rfl,dy (.bool yK) h6 (dw (aD))⟩
     ·refine qr [.b 2 c7,.a 4 (GC _ _ CF h6 _ (gp (ah (dM (q:=0) B6 rfl (ah (eU) (ah (dW (E:=ai) (l:=x8.2.2.aa) (q:=1) B6 rfl (fun _=>rfl)) (ah (dW (E:=af) (l:=x8.2.2.ae) (q:=2) B6 rfl (fun _=>rfl)) (ay))))) (ay)))),.a 6 (Ln _ _ _ FB h6 _ (gp (ah (fy (E:=af)) (ah (fy (E:=af)) (ay))))),.b 8 c8] ?_
      have OL:Has h6 ((cZ,.ob [.bool x8.2.2.aj,.rs fj 0 x8.2.2.aa.length 4,.rs gR 0 x8.2.2.ae.length 1])::(fj,.sl x8.2.2.aa.length 4 (ai.l x8.2.2.aa))::L):=Has.del B6 2
      have OM:Has h6 ((cZ,.ob [.bool x8.2.2.aj,.rs fj 0 x8.2.2.aa.length 4,.rs gR 0 x8.2.2.ae.length 1])::L):=Has.del OL 1
      have QF:Has h6 (L):=Has.del OM 0
      obtain rfl:=oi H
      exact qt <| ⟨.inl rfl,dy (.bool false) h6 (dw (aD))⟩
    ·refine qr [.b 2 c7] ?_
     have JQ:Has h6 ((cZ,.ob [.bool x8.2.2.aj,.rs fj 0 x8.2.2.aa.length 4,.rs gR 0 x8.2.2.ae.length 1])::(fj,.sl x8.2.2.aa.length 4 (ai.l x8.2.2.aa))::L):=Has.del B6 2
     have ON:Has h6 ((cZ,.ob [.bool x8.2.2.aj,.rs fj 0 x8.2.2.aa.length 4,.rs gR 0 x8.2.2.ae.length 1])::L):=Has.del JQ 1
     have QG:Has h6 (L):=Has.del ON 0
     obtain rfl:=oi H
     exact qt <| ⟨.inl rfl,dy (.bool false) h6 (dw (aD))⟩
   ·try dsimp only at H
    obtain rfl:=oi H
    exact⟨.inl rfl,w7⟩
end
end Go.Proofs.Ytifafejidnjckaa
namespace Go.Proofs.Ytifafejidnjckaa
open Go Go.R
open Go.IntKind (i64 u64 u8 u32)
end Go.Proofs.Ytifafejidnjckaa
namespace Go.Proofs.Ytifafejidnjckaa
open Go Go.R
open Go.IntKind (i64 u64 u8 u32)
def cu.l0 (m:Nat)(fh:List aN)(jY:Bool):Nat→Int→ab→ab→Option (Int × ab × ab)
 | 0,_,_,_=>none
 | k+1,i0,vG,O6=>if (decide (i0<(fh.length:Int)))=true then (if jY=true then ((ix fh i0).bind fun v0=>(fC.f m O6 v0).bind fun x7=>cu.l0 m fh jY k (i64.wrap (i0+(1:Int))) vG x7.2) else ((ix fh i0).bind fun v1=>(fC.f m vG v1).bind fun x8=>cu.l0 m fh jY k (i64.wrap (i0+(1:Int))) x8.2 O6)) else (some ((i0,vG,O6)))
def cu.l1 (m:Nat)(fh:List aN)(jY:Bool):Nat→Int→ab→ab→Option (Int × ab × ab)
 | 0,_,_,_=>none
 | k+1,i2,O7,O8=>if (decide (i2<(fh.length:Int)))=true then (if jY=true then ((ix fh i2).bind fun v2=>(fC.f m O8 v2).bind fun SI=>cu.l1 m fh jY k (i64.wrap (i2+(1:Int))) O7 SI.2) else ((ix fh i2).bind fun v3=>(fC.f m O7 v3).bind fun SJ=>cu.l1 m fh jY k (i64.wrap (i2+(1:Int))) SJ.2 O8)) else (some ((i2,O7,O8)))
def cu.f (m:Nat)(l0:List aN)(fh:List aN)(jY:Bool):Option (Bool):=(bw.f m l0).bind fun x0=>if x0=true then ((cU.f m).bind fun x1=>some x1) else ((bw.f m fh).bind fun x2=>if x2=true then ((cU.f m).bind fun x3=>some x3) else ((bR.f m l0).bind fun x4=>(bR.f m l0).bind fun x5=>(oD.f m x4).bind fun x6=>Ny x6.1 (some false) fun oU=>if jY=true then ((cu.l0 m fh jY m (0:Int) oU x6.2).bind fun bZ=>match bZ with | (i1,QL,Um)=>(b6.f m QL).bind fun x9=>(b6.f m x5).bind fun kC=>if (x9==kC)=true then ((bG.f m QL).bind fun yK=>(bG.f m x5).bind fun Ht=>(bT.f m yK Ht).bind fun tR=>if tR=true then ((cU.f m).bind fun SK=>some SK) else (some false)) else (some false)) else ((cu.l1 m fh jY m (0:Int) oU x6.2).bind fun dq=>match dq with | (i3,Un,QM)=>(b6.f m QM).bind fun SL=>(b6.f m x5).bind fun SM=>if (SL==SM)=true then ((bG.f m QM).bind fun SN=>(bG.f m x5).bind fun SO=>(bT.f m SN SO).bind fun SP=>if SP=true then ((cU.f m).bind fun SQ=>some SQ) else (some false)) else (some false))))
def S6 (cf:CallF)(m:Nat):Prop:=∀(l0:List aN) (fh:List aN) (jY:Bool) (r:Bool),cu.f m l0 fh jY=some r→∀h xs,aO bO h xs [aU.fz l0,aU.fz fh,.bool jY]→cf 6 xs h=some (.bool r,h)
end Go.Proofs.Ytifafejidnjckaa
namespace Go.Proofs.Ytifafejidnjckaa
open Go Go.R
open Go.IntKind (i64 u64 u8 u32)
def hX.l0 (m:Nat)(n0:Int)(fh:List aN)(x5:aq × Int):Nat→Int→ab→Option (Sum Bool (Int × ab))
 | 0,_,_=>none
 | k+1,i0,oU=>if (decide (i0<(fh.length:Int)))=true then ((ix fh i0).bind fun v0=>(fC.f m oU v0).bind fun x8=>(jX.f m x8.2 n0).bind fun x9=>if (!(x9.2==(0:Int)))=true then (some (.inl false)) else (if (!(x9.1.kind==x5.1.kind))=true then (some (.inl false)) else (if (!(x9.1.int==x5.1.int))=true then (some (.inl false)) else (if (!(x9.1.label.data.toList==x5.1.label.data.toList))=true then (some (.inl false)) else (if (!((x9.1.args.length:Int)==(x5.1.args.length:Int)))=true then (some (.inl false)) else (hX.l0 m n0 fh x5 k (i64.wrap (i0+(1:Int))) x8.2)))))) else (some (.inr (i0,oU)))
def hX.f (m:Nat)(l0:List aN)(n0:Int)(fh:List aN):Option (Bool):=(bw.f m l0).bind fun x0=>if x0=true then ((cU.f m).bind fun x1=>some x1) else ((bw.f m fh).bind fun x2=>if x2=true then ((cU.f m).bind fun x3=>some x3) else ((bR.f m l0).bind fun x4=>(jX.f m x4 n0).bind fun x5=>if (!(x5.2==(0:Int)))=true then ((cU.f m).bind fun x6=>some x6) else (if (x5.1.kind==(0:Int))=true then ((cU.f m).bind fun x7=>some x7) else ((hX.l0 m n0 fh x5 m (0:Int) x4).bind fun bZ=>match bZ with | .inl r0=>some r0 | .inr (i1,vG)=>(cU.f m).bind fun kC=>some kC))))
def S7 (cf:CallF)(m:Nat):Prop:=∀(l0:List aN) (n0:Int) (fh:List aN) (r:Bool),hX.f m l0 n0 fh=some r→∀h xs,aO bO h xs [aU.fz l0,.int .i64 n0,aU.fz fh]→cf 7 xs h=some (.bool r,h)
end Go.Proofs.Ytifafejidnjckaa
