/- Part of the proof: Q72, Q76, Q46, Q43, Q21, Q36, Q17, Q12, Q3, Q4, Q5, Q6, Q7, QA. -/
import Derived.Test.YtifafejidnjckaaK9
set_option linter.unusedVariables false
set_option linter.unusedSimpArgs false
set_option maxRecDepth 100000
open Eq renaming trans → VL
open List renaming length_set → Uq
namespace Go.Proofs.Ytifafejidnjckaa
open Go Go.R
open Go.IntKind (i64 u64 u8 u32)
def oF:bY:=gK [0,1,2,3,4,5,6,7,8,9,10,11,12,13,14,15,17,22,23,24,37,38,39,40,61,73,74,75,76,87,88,89,90,110,126] [12] [34359738365,34359738357,34359345141,34358820853,34359345125,34359345141,34359345141,34359738357,34359738325,34359738261,34352398229,34344009621,34352397845,34335620757,34352397973,34352398229,34352398229,34359737757,34359736733,34124855709,33856420253,34124849565,34124841373,30366749085,26071781789,30366699933,30366749085,30366749085,34124779933,25534910877,34124845469,34124855709,34124855709,17179867613,34359738363,34359738269] [] []
def ay.l0 (m:Nat)(x0:List Int):Nat→(List Int)→Int→Option ((List Int) × Int)
 | 0,_,_=>none
 | k+1,fa,x1=>if (decide (x1<(x0.length:Int)))=true then ((ix fa x1).bind fun v0=>ay.l0 m x0 k (fa.set x1.toNat x1) (i64.wrap (x1+(1:Int)))) else (some ((fa,x1)))
def ay.l1 (m:Nat)(aK:List aq)(bW:List Int)(x3:(List Int)):Nat→(List Int)→Int→Int→Option ((List Int) × Int × Int)
 | 0,_,_,_=>none
 | k+1,dt,ei,x5=>if (decide (x5<(bW.length:Int)))=true then ((ix x3 x5).bind fun v1=>if (decide (x5 > (0:Int)))=true then ((ix x3 (i64.wrap (x5 - (1:Int)))).bind fun v2=>(ix aK v2).bind fun v3=>(ix aK v1).bind fun v4=>(dj.f m v3 v4).bind fun x6=>if (!(x6==(0:Int)))=true then ((ix dt v1).bind fun v5=>ay.l1 m aK bW x3 k (dt.set v1.toNat (i64.wrap (ei+(1:Int)))) (i64.wrap (ei+(1:Int))) (i64.wrap (x5+(1:Int)))) else ((ix dt v1).bind fun v6=>ay.l1 m aK bW x3 k (dt.set v1.toNat ei) ei (i64.wrap (x5+(1:Int))))) else ((ix dt v1).bind fun v7=>ay.l1 m aK bW x3 k (dt.set v1.toNat ei) ei (i64.wrap (x5+(1:Int))))) else (some ((dt,ei,x5)))
def ay.l4 (m:Nat)(dh:List Int)(v8:aq):Nat→(List Int)→Int→Option ((List Int) × Int)
 | 0,_,_=>none
 | k+1,k0,kz=>if (decide (kz<(v8.args.length:Int)))=true then ((ix v8.args kz).bind fun v10=>(ix dh v10).bind fun v11=>(ix k0 (i64.wrap (kz+(1:Int)))).bind fun v12=>ay.l4 m dh v8 k (k0.set (i64.wrap (kz+(1:Int))).toNat (i64.wrap (v11+(1:Int)))) (i64.wrap (kz+(1:Int)))) else (some ((k0,kz)))
def ay.l3 (m:Nat)(aK:List aq)(dh:List Int):Nat→(List (List Int × Int))→(List Int)→Int→Option ((List (List Int × Int)) × (List Int) × Int)
 | 0,_,_,_=>none
 | k+1,fw,dw,x9=>if (decide (x9<(aK.length:Int)))=true then ((ix aK x9).bind fun v8=>(ix dh x9).bind fun v9=>(ay.l4 m dh v8 m ([i64.wrap (v9+(1:Int)),(0:Int),(0:Int),(0:Int),(0:Int),(0:Int),(0:Int),(0:Int),(0:Int)]) (0:Int)).bind fun KU=>match KU with | (k1,zX)=>(FW 9 fw k1).bind fun r0=>if (!r0.2)=true then ((Ko 9 fw k1 (fw.length:Int)).bind fun IU=>(FW 9 IU k1).bind fun r1=>(ix dw x9).bind fun L2=>ay.l3 m aK dh k IU (dw.set x9.toNat r1.1) (i64.wrap (x9+(1:Int)))) else ((FW 9 fw k1).bind fun r2=>(ix dw x9).bind fun Sd=>ay.l3 m aK dh k fw (dw.set x9.toNat r2.1) (i64.wrap (x9+(1:Int))))) else (some ((fw,dw,x9)))
def ay.l2 (m:Nat)(aK:List aq):Nat→(List Int)→Int→Option (Sum (List Int) ((List Int) × Int))
 | 0,_,_=>none
 | k+1,dh,iT=>(Cq 8 (aK.length:Int) (0:Int)).bind fun x8=>(ay.l3 m aK dh m ([]:List (List Int × Int)) x8 (0:Int)).bind fun KV=>match KV with | (nc,mo,DR)=>if ((nc.length:Int)==(i64.wrap (iT+(1:Int))))=true then (some (.inl dh)) else (ay.l2 m aK k mo (i64.wrap ((nc.length:Int) - (1:Int))))
def ay.f (m:Nat)(aK:List aq):Option ((List Int)):=(Cq 8 (aK.length:Int) (0:Int)).bind fun x0=>(ay.l0 m x0 m x0 (0:Int)).bind fun b6=>match b6 with | (bW,x2)=>(eX.f m bW (fun y0 y1=>dK.f m y0 y1 aK)).bind fun x3=>(Cq 8 (aK.length:Int) (0:Int)).bind fun x4=>(ay.l1 m aK bW x3 m x4 (0:Int) (0:Int)).bind fun D6=>match D6 with | (ml,many1,x7)=>(ay.l2 m aK m ml many1).bind fun KW=>match KW with | .inl r3=>some r3 | .inr (Oo,KX)=>none
def ay.fin (L:Mem)(r:(List Int))(s:St):Prop:=∃av,aM Try.prog (s.open oF) Try.f72.results.toList=some av∧ff s.h av (af.fz r)
def Qq (cf:CallF)(m:Nat):Prop:=∀(aK:List aq) (r:(List Int)),ay.f m aK=some r→∀h xs,aO bO h xs [ai.fz aK]→cf 72 xs h=some (af.fz r,h)
section
variable {cf:CallF}{m:Nat}
theorem ay.dF (L:Mem)(aK:List aq)(aI:Nat)(x0:List Int)   : dZ Try.prog cf oF m (sub [1,1,0,1,0,0] (b8 Try.f72)) (fun k (σ:(List Int) × Int)=>ay.l0 m x0 k σ.1 σ.2) (fun σ s=>match σ with | (fa,x1)=>∃eO h2,s=⟨.any :: .ptr aI 0 :: .any :: .rs eO 0 fa.length 1::qn (.int .i64 (x0.length:Int) :: .int .i64 x1::FZ []),[none],h2⟩∧Has h2 ((eO,.sl fa.length 1 (af.l fa))::(aI,.ob [ai.fz aK])::L)) (fun out e s=>(e = .exit 0∧∃fa x1,(fa,x1)=out∧∃D1 Oq Ot eO h2,s=⟨.any :: .ptr aI 0 :: .any :: .rs eO 0 fa.length 1::qn (D1::Oq::Ot::Na []),[none],h2⟩∧Has h2 ((eO,.sl fa.length 1 (af.l fa))::(aI,.ob [ai.fz aK])::L))):=by
 refine mI (fun _=>rfl) ?_
 rintro k ⟨fa,x1⟩ s out ⟨eO,h2,rfl,o2⟩ H
 have H:ay.l0 m x0 (k+1) fa x1=some out:=H
 refine q1 <| qq <| qc H (fun c0 H=>?_) (fun c0 H=>?_)
 ·refine qk <| qq <| qb 1 <| qq <| q0 ?_
  obtain⟨v0,e3,H⟩:=bj H
  obtain⟨h3,e4,o3⟩:=fo (P:=Try.prog) (tf:=3) (E:=af) (l:=fa) (q:=0) (v:=x1) (x:=.int .i64 x1) o2 rfl Z3 e3 rfl rfl
  exact qr [.v 3 (bn (k:=.i64) (E:=af) (l:=fa) (q:=0) gx o2 rfl e3),.w 4 e4] <| q0 <| ⟨(fa.set x1.toNat x1,i64.wrap (x1+(1:Int))),⟨eO,h3,(VL (b:=⟨.any :: .ptr aI 0 :: .any :: .rs eO 0 fa.length 1::qn (.int .i64 (x0.length:Int) :: .int .i64 (i64.wrap (x1+(1:Int)))::FZ []),[none],h3⟩) (by kernel_rfl) (by simp only [Uq])),(by have o:Has h3 ((eO,.sl fa.length 1 (af.l (fa.set x1.toNat x1)))::(aI,.ob [ai.fz aK])::L):=o3; simpa only [Uq] using o)⟩,H⟩
 ·exact qx 0 <| ⟨rfl,fa,x1,oi H,.int .i64 (x0.length:Int),.int .i64 x1,.bool (decide (x1<(x0.length:Int))),eO,h2,by kernel_rfl,o2⟩
theorem ay.me (L:Mem)(aK:List aq)(aI:Nat)(dG:Nat)(bW:List Int)(dG:Nat)(x3:(List Int))  (D5:LZ cf m):dZ Try.prog cf oF m (sub [1,1,1,1,1,1,0,1,0,0] (b8 Try.f72)) (fun k (σ:(List Int) × Int × Int)=>ay.l1 m aK bW x3 k σ.1 σ.2.1 σ.2.2) (fun σ s=>match σ with | (dt,ei,x5)=>∃fE h7,s=⟨.any :: .ptr aI 0 :: .any :: .rs dG 0 bW.length 1 :: .any :: .rs fE 0 dt.length 1 :: .int .i64 ei::qn (.rs dG 0 bW.length 1 :: .int .i64 (bW.length:Int) :: .int .i64 x5::uV []),[none],h7⟩∧Has h7 ((fE,.sl dt.length 1 (af.l dt))::(dG,.sl bW.length 1 (af.l x3))::(aI,.ob [ai.fz aK])::L)) (fun out e s=>(e = .exit 2∧∃dt ei x5,(dt,ei,x5)=out∧∃Gf Eb Ec IV IW fE h7,s=⟨.any :: .ptr aI 0 :: .any::Gf :: .any :: .rs fE 0 dt.length 1 :: .int .i64 ei::qn (Eb::Ec::IV::IW::sU []),[none],h7⟩∧Has h7 ((fE,.sl dt.length 1 (af.l dt))::(dG,.sl bW.length 1 (af.l x3))::(aI,.ob [ai.fz aK])::L))):=by
 refine mI (fun _=>rfl) ?_
 rintro k ⟨dt,ei,x5⟩ s out ⟨fE,h7,rfl,o7⟩ H
 have H:ay.l1 m aK bW x3 (k+1) dt ei x5=some out:=H
 refine q1 <| qq <| qc H (fun c1 H=>?_) (fun c1 H=>?_)
 ·refine qk <| qq <| qb 3 <| qq ?_
  obtain⟨v1,sX,H⟩:=bj H
  refine qr [.v 1 (bn (k:=.i64) (E:=af) (l:=x3) (q:=1) gx o7 rfl sX),.v 2 (dD  (E:=af) (l:=x3) (q:=1) o7 rfl A3 sX rfl)] <| qq <| qq ?_
  rcases iw H with⟨c2,H⟩| ⟨c2,H⟩
  ·obtain⟨v2,vc,H⟩:=bj H
   obtain⟨v3,w6,H⟩:=bj H
   obtain⟨v4,xN,H⟩:=bj H
   obtain⟨x6,zY,H⟩:=bj H
   refine qr [.b 2 c2,.v 3 (show bl Try.prog h7 40 (.ptr aI 0)=some (ai.fz aK) from bX (q:=2) (cs:=[ai.fz aK]) o7 rfl (by kernel_rfl)),.v 7 (bn (k:=.i64) (E:=af) (l:=x3) (q:=1) gx o7 rfl vc),.v 8 (dD  (E:=af) (l:=x3) (q:=1) o7 rfl A3 vc rfl),.v 9 (fV (k:=.i64) (E:=ai) (l:=aK) xM w6),.v 10 (lX  (E:=ai) (l:=aK) h7 Fj Fk w6),.v 11 (show bl Try.prog h7 40 (.ptr aI 0)=some (ai.fz aK) from bX (q:=2) (cs:=[ai.fz aK]) o7 rfl (by kernel_rfl)),.v 13 (fV (k:=.i64) (E:=ai) (l:=aK) xM xN),.v 14 (lX  (E:=ai) (l:=aK) h7 Fj Fk xN),.a 15 (D5 _ _ _ zY h7 _ (fq (ah (iY (ah (br) (ah (br) (ah (cH) (ah (fe (E:=af)) (ax)))))) (ah (iY (ah (br) (ah (br) (ah (cH) (ah (fe (E:=af)) (ax)))))) (ax)))))] ?_
   refine qc H (fun c3 H=>?_) (fun c3 H=>?_)
   ·refine q0 ?_
    obtain⟨v5,yJ,H⟩:=bj H
    obtain⟨h8,D3,o8⟩:=fo (P:=Try.prog) (tf:=3) (E:=af) (l:=dt) (q:=0) (v:=(i64.wrap (ei+(1:Int)))) (x:=.int .i64 (i64.wrap (ei+(1:Int)))) o7 rfl Z3 yJ rfl rfl
    exact qr [.v 3 (bn (k:=.i64) (E:=af) (l:=dt) (q:=0) gx o7 rfl yJ),.w 4 D3] <| q0 <| ⟨(dt.set v1.toNat (i64.wrap (ei+(1:Int))),i64.wrap (ei+(1:Int)),i64.wrap (x5+(1:Int))),⟨fE,h8,(VL (b:=⟨.any :: .ptr aI 0 :: .any :: .rs dG 0 bW.length 1 :: .any :: .rs fE 0 dt.length 1 :: .int .i64 (i64.wrap (ei+(1:Int)))::qn (.rs dG 0 bW.length 1 :: .int .i64 (bW.length:Int) :: .int .i64 (i64.wrap (x5+(1:Int)))::uV []),[none],h8⟩) (by kernel_rfl) (by simp only [Uq])),(by have o:Has h8 ((fE,.sl dt.length 1 (af.l (dt.set v1.toNat (i64.wrap (ei+(1:Int))))))::(dG,.sl bW.length 1 (af.l x3))::(aI,.ob [ai.fz aK])::L):=o8; simpa only [Uq] using o)⟩,H⟩
   ·refine qk ?_
    obtain⟨v6,Gm,H⟩:=bj H
    obtain⟨h9,IB,o9⟩:=fo (P:=Try.prog) (tf:=3) (E:=af) (l:=dt) (q:=0) (v:=ei) (x:=.int .i64 ei) o7 rfl Z3 Gm rfl rfl
    exact qr [.v 3 (bn (k:=.i64) (E:=af) (l:=dt) (q:=0) gx o7 rfl Gm),.w 4 IB] <| q0 <| ⟨(dt.set v1.toNat ei,ei,i64.wrap (x5+(1:Int))),⟨fE,h9,(VL (b:=⟨.any :: .ptr aI 0 :: .any :: .rs dG 0 bW.length 1 :: .any :: .rs fE 0 dt.length 1 :: .int .i64 ei::qn (.rs dG 0 bW.length 1 :: .int .i64 (bW.length:Int) :: .int .i64 (i64.wrap (x5+(1:Int)))::uV []),[none],h9⟩) (by kernel_rfl) (by simp only [Uq])),(by have o:Has h9 ((fE,.sl dt.length 1 (af.l (dt.set v1.toNat ei)))::(dG,.sl bW.length 1 (af.l x3))::(aI,.ob [ai.fz aK])::L):=o9; simpa only [Uq] using o)⟩,H⟩
  ·refine qr [.b 2 c2] <| DA <| qk ?_
   obtain⟨v7,Gn,H⟩:=bj H
   obtain⟨h10,IC,w7⟩:=fo (P:=Try.prog) (tf:=3) (E:=af) (l:=dt) (q:=0) (v:=ei) (x:=.int .i64 ei) o7 rfl Z3 Gn rfl rfl
   exact qr [.v 3 (bn (k:=.i64) (E:=af) (l:=dt) (q:=0) gx o7 rfl Gn),.w 4 IC] <| q0 <| ⟨(dt.set v1.toNat ei,ei,i64.wrap (x5+(1:Int))),⟨fE,h10,(VL (b:=⟨.any :: .ptr aI 0 :: .any :: .rs dG 0 bW.length 1 :: .any :: .rs fE 0 dt.length 1 :: .int .i64 ei::qn (.rs dG 0 bW.length 1 :: .int .i64 (bW.length:Int) :: .int .i64 (i64.wrap (x5+(1:Int)))::uV []),[none],h10⟩) (by kernel_rfl) (by simp only [Uq])),(by have o:Has h10 ((fE,.sl dt.length 1 (af.l (dt.set v1.toNat ei)))::(dG,.sl bW.length 1 (af.l x3))::(aI,.ob [ai.fz aK])::L):=w7; simpa only [Uq] using o)⟩,H⟩
 ·exact qx 2 <| ⟨rfl,dt,ei,x5,oi H,.rs dG 0 bW.length 1,.rs dG 0 bW.length 1,.int .i64 (bW.length:Int),.int .i64 x5,.bool (decide (x5<(bW.length:Int))),fE,h7,(VL (b:=⟨.any :: .ptr aI 0 :: .any :: .rs dG 0 bW.length 1 :: .any :: .rs fE 0 dt.length 1 :: .int .i64 ei::qn (.rs dG 0 bW.length 1 :: .int .i64 (bW.length:Int) :: .int .i64 x5 :: .bool (decide (x5<(bW.length:Int)))::sU []),[none],h7⟩) (by kernel_rfl) (by simp only [Uq])),(by have o:Has h7 ((fE,.sl dt.length 1 (af.l dt))::(dG,.sl bW.length 1 (af.l x3))::(aI,.ob [ai.fz aK])::L):=o7; simpa only [Uq] using o)⟩
theorem ay.D8 (L:Mem)(aK:List aq)(aI:Nat)(fj:Nat)(dh:List Int)(iT:Int)(fj:Nat)(k8:Nat)(ia:Nat)(fw:List (List Int × Int))(dw:List Int)(x9:Int)(ia:Nat)(v8:aq)(jf:Nat)   : dZ Try.prog cf oF m (sub [1,1,1,1,1,1,1,0,0,0,1,1,0,1,0,0,1,1,0,0,1,1,0,1,0,0] (b8 Try.f72)) (fun k (σ:(List Int) × Int)=>ay.l4 m dh v8 k σ.1 σ.2) (fun σ s=>match σ with | (k0,kz)=>∃h18,s=⟨.any :: .ptr aI 0::sI (.rs fj 0 dh.length 1 :: .int .i64 iT :: .any :: .any :: .mp k8 :: .rs ia 0 dw.length 1 :: .int .i64 x9 :: .any :: .ptr jf 0::sU (ai.fz aK :: .int .i64 (aK.length:Int) :: .int .i64 x9 :: .any::af.fz v8.args :: .int .i64 (v8.args.length:Int) :: .int .i64 kz::sI [])),[none],h18⟩∧Has h18 ((jf,.sl 9 1 (af.l k0))::(ia,.sl dw.length 1 (af.l dw))::(k8,.mp (sS fw))::(fj,.sl dh.length 1 (af.l dh))::(aI,.ob [ai.fz aK])::L)) (fun out e s=>(e = .exit 8∧∃k0 kz,(k0,kz)=out∧∃Ou Ov Ow Ox h18,s=⟨.any :: .ptr aI 0::sI (.rs fj 0 dh.length 1 :: .int .i64 iT :: .any :: .any :: .mp k8 :: .rs ia 0 dw.length 1 :: .int .i64 x9 :: .any :: .ptr jf 0::sU [ai.fz aK,.int .i64 (aK.length:Int),.int .i64 x9,.any,Ou,Ov,Ow,Ox,.any,.any]),[none],h18⟩∧Has h18 ((jf,.sl 9 1 (af.l k0))::(ia,.sl dw.length 1 (af.l dw))::(k8,.mp (sS fw))::(fj,.sl dh.length 1 (af.l dh))::(aI,.ob [ai.fz aK])::L))):=by
 refine mI (fun _=>rfl) ?_
 rintro k ⟨k0,kz⟩ s out ⟨h18,rfl,BY⟩ H
 have H:ay.l4 m dh v8 (k+1) k0 kz=some out:=H
 refine q1 <| qq <| qc H (fun c6 H=>?_) (fun c6 H=>?_)
 ·refine qk <| qq <| qb 9 <| qq ?_
  obtain⟨v10,L6,H⟩:=bj H
  refine qr [.v 1 (fV (k:=.i64) (E:=af) (l:=v8.args) gx L6),.v 2 (iI  (E:=af) (l:=v8.args) h18 A3 L6 rfl)] ?_
  obtain⟨v11,L4,H⟩:=bj H
  obtain⟨v12,L5,H⟩:=bj H
  obtain⟨h19,Se,KY⟩:=fo (P:=Try.prog) (tf:=3) (E:=af) (l:=k0) (q:=0) (v:=(i64.wrap (v11+(1:Int)))) (x:=.int .i64 (i64.wrap (v11+(1:Int)))) BY rfl Z3 L5 rfl rfl
  exact qr [.v 4 (bn (k:=.i64) (E:=af) (l:=dh) (q:=3) gx BY rfl L4),.v 5 (dD  (E:=af) (l:=dh) (q:=3) BY rfl A3 L4 rfl),.v 7 (H9 (k:=.i64) (q:=0) (l:=k0) tN BY rfl L5),.w 8 Se] <| q0 <| ⟨(k0.set (i64.wrap (kz+(1:Int))).toNat (i64.wrap (v11+(1:Int))),i64.wrap (kz+(1:Int))),⟨h19,by kernel_rfl,KY⟩,H⟩
 ·exact qx 8 <| ⟨rfl,k0,kz,oi H,af.fz v8.args,.int .i64 (v8.args.length:Int),.int .i64 kz,.bool (decide (kz<(v8.args.length:Int))),h18,by kernel_rfl,BY⟩
theorem ay.D7 (L:Mem)(aK:List aq)(aI:Nat)(fj:Nat)(dh:List Int)(iT:Int)(fj:Nat)(k8:Nat)   : dZ Try.prog cf oF m (sub [1,1,1,1,1,1,1,0,0,0,1,1,0,1,0,0] (b8 Try.f72)) (fun k (σ:(List (List Int × Int)) × (List Int) × Int)=>ay.l3 m aK dh k σ.1 σ.2.1 σ.2.2) (fun σ s=>match σ with | (fw,dw,x9)=>∃ia h15,s=⟨.any :: .ptr aI 0::sI (.rs fj 0 dh.length 1 :: .int .i64 iT :: .any :: .any :: .mp k8 :: .rs ia 0 dw.length 1::wN (ai.fz aK :: .int .i64 (aK.length:Int) :: .int .i64 x9::FY [])),[none],h15⟩∧Has h15 ((ia,.sl dw.length 1 (af.l dw))::(k8,.mp (sS fw))::(fj,.sl dh.length 1 (af.l dh))::(aI,.ob [ai.fz aK])::L)) (fun out e s=>(e = .exit 6∧∃fw dw x9,(fw,dw,x9)=out∧∃Oy Oz OA OB ia h15,s=⟨.any :: .ptr aI 0::sI (.rs fj 0 dh.length 1 :: .int .i64 iT :: .any :: .any :: .mp k8 :: .rs ia 0 dw.length 1::wN (Oy::Oz::OA::OB::wM [])),[none],h15⟩∧Has h15 ((ia,.sl dw.length 1 (af.l dw))::(k8,.mp (sS fw))::(fj,.sl dh.length 1 (af.l dh))::(aI,.ob [ai.fz aK])::L))):=by
 refine mI (fun _=>rfl) ?_
 rintro k ⟨fw,dw,x9⟩ s out ⟨ia,h15,rfl,yN⟩ H
 have H:ay.l3 m aK dh (k+1) fw dw x9=some out:=H
 refine q1 <| qq <| qc H (fun c5 H=>?_) (fun c5 H=>?_)
 ·refine qk <| qq <| qb 7 <| qq ?_
  obtain⟨v8,Hk,H⟩:=bj H
  refine qr [.v 1 (fV (k:=.i64) (E:=ai) (l:=aK) xM Hk),.v 2 (lX  (E:=ai) (l:=aK) h15 Fj Fk Hk)] <| qq ?_
  obtain⟨v9,JD,H⟩:=bj H
  obtain⟨jf,h16,Of,Cw⟩:=FX (cs:=[.int .i64 (0:Int),.int .i64 (0:Int),.int .i64 (0:Int),.int .i64 (0:Int),.int .i64 (0:Int),.int .i64 (0:Int),.int .i64 (0:Int),.int .i64 (0:Int),.int .i64 (0:Int)]) (l:=[(0:Int),(0:Int),(0:Int),(0:Int),(0:Int),(0:Int),(0:Int),(0:Int),(0:Int)]) yN (by kernel_rfl)
  obtain⟨h17,Oe,Cv⟩:=Ia (q:=0) (l:=([(0:Int),(0:Int),(0:Int),(0:Int),(0:Int),(0:Int),(0:Int),(0:Int),(0:Int)])) (l':=[i64.wrap (v9+(1:Int)),(0:Int),(0:Int),(0:Int),(0:Int),(0:Int),(0:Int),(0:Int),(0:Int)]) (x:=.agg [.int .i64 (i64.wrap (v9+(1:Int))),.int .i64 (0:Int),.int .i64 (0:Int),.int .i64 (0:Int),.int .i64 (0:Int),.int .i64 (0:Int),.int .i64 (0:Int),.int .i64 (0:Int),.int .i64 (0:Int)]) tN Cw rfl rfl rfl
  refine qr [.v 2 (bn (k:=.i64) (E:=af) (l:=dh) (q:=2) gx yN rfl JD),.v 3 (dD  (E:=af) (l:=dh) (q:=2) yN rfl A3 JD rfl),.a 6 Of,.w 7 Oe] <| qq <| qq <| q0 <| qb 8 ?_
  obtain⟨KU,Sf,H⟩:=bj H
  refine ql (ay.D8 L aK aI fj dh iT fj k8 ia fw dw x9 ia v8 jf   ([i64.wrap (v9+(1:Int)),(0:Int),(0:Int),(0:Int),(0:Int),(0:Int),(0:Int),(0:Int),(0:Int)],(0:Int)) _ _ ⟨h17,by kernel_rfl,Cv⟩ Sf) ?_
  rintro e s ⟨rfl,k1,zX,rfl,g13,g14,g15,g16,h20,rfl,Cz⟩
  try dsimp only at H
  refine qq <| qq ?_
  obtain⟨r0,Sh,H⟩:=bj H
  refine qr [.v 1 (show bl Try.prog h20 115 (.ptr jf 0)=some (.agg (af.l k1)) from uU (q:=0) (l:=k1) tN Cz rfl),.v 2 (show fI Try.prog h20 113 (.mp k8) (.agg (af.l k1)) true=some (.tup [.int .i64 r0.1,.bool r0.2]) from (H7 (q:=2) (l:=fw) (k:=k1) zM Cz rfl Sh).1)] <| qq <| q0 <| qc H (fun c7 H=>?_) (fun c7 H=>?_)
  ·obtain⟨IU,Si,H⟩:=bj H
   obtain⟨h21,Sj,Hl⟩:=M9 (q:=2) (l:=fw) (k:=k1) (v:=(fw.length:Int)) zM Cz rfl Si
   refine qr [.v 1 (show bl Try.prog h20 115 (.ptr jf 0)=some (.agg (af.l k1)) from uU (q:=0) (l:=k1) tN Cz rfl),.v 3 (show q7 Try.prog h20 113 (.mp k8)=some (.int .i64 (fw.length:Int)) from H8 (q:=2) (l:=fw) DN Cz rfl),.w 4 Sj] ?_
   obtain⟨r1,Sk,H⟩:=bj H
   obtain⟨L2,Qr,H⟩:=bj H
   obtain⟨h22,Sl,KZ⟩:=fo (P:=Try.prog) (tf:=3) (E:=af) (l:=dw) (q:=1) (v:=r1.1) (x:=.int .i64 r1.1) Hl rfl Z3 Qr rfl rfl
   refine qr [.v 3 (show bl Try.prog h21 115 (.ptr jf 0)=some (.agg (af.l k1)) from uU (q:=0) (l:=k1) tN Hl rfl),.v 4 (show fI Try.prog h21 113 (.mp k8) (.agg (af.l k1)) false=some (.int .i64 r1.1) from (H7 (q:=2) (l:=IU) (k:=k1) zM Hl rfl Sk).2),.v 5 (bn (k:=.i64) (E:=af) (l:=dw) (q:=1) gx Hl rfl Qr),.w 6 Sl] ?_
   have OC:Has h22 ((ia,.sl dw.length 1 (af.l (dw.set x9.toNat r1.1)))::(k8,.mp (sS IU))::(fj,.sl dh.length 1 (af.l dh))::(aI,.ob [ai.fz aK])::L):=Has.del KZ 0
   exact q0 <| ⟨(IU,dw.set x9.toNat r1.1,i64.wrap (x9+(1:Int))),⟨ia,h22,(VL (b:=⟨.any :: .ptr aI 0::sI (.rs fj 0 dh.length 1 :: .int .i64 iT :: .any :: .any :: .mp k8 :: .rs ia 0 dw.length 1::wN (ai.fz aK :: .int .i64 (aK.length:Int) :: .int .i64 (i64.wrap (x9+(1:Int)))::FY [])),[none],h22⟩) (by kernel_rfl) (by simp only [Uq])),(by have o:Has h22 ((ia,.sl dw.length 1 (af.l (dw.set x9.toNat r1.1)))::(k8,.mp (sS IU))::(fj,.sl dh.length 1 (af.l dh))::(aI,.ob [ai.fz aK])::L):=OC; simpa only [Uq] using o)⟩,H⟩
  ·refine qk ?_
   obtain⟨r2,Sm,H⟩:=bj H
   obtain⟨Sd,Qs,H⟩:=bj H
   obtain⟨h23,Sn,OD⟩:=fo (P:=Try.prog) (tf:=3) (E:=af) (l:=dw) (q:=1) (v:=r2.1) (x:=.int .i64 r2.1) Cz rfl Z3 Qs rfl rfl
   refine qr [.v 3 (show bl Try.prog h20 115 (.ptr jf 0)=some (.agg (af.l k1)) from uU (q:=0) (l:=k1) tN Cz rfl),.v 4 (show fI Try.prog h20 113 (.mp k8) (.agg (af.l k1)) false=some (.int .i64 r2.1) from (H7 (q:=2) (l:=fw) (k:=k1) zM Cz rfl Sm).2),.v 5 (bn (k:=.i64) (E:=af) (l:=dw) (q:=1) gx Cz rfl Qs),.w 6 Sn] ?_
   have OE:Has h23 ((ia,.sl dw.length 1 (af.l (dw.set x9.toNat r2.1)))::(k8,.mp (sS fw))::(fj,.sl dh.length 1 (af.l dh))::(aI,.ob [ai.fz aK])::L):=Has.del OD 0
   exact q0 <| ⟨(fw,dw.set x9.toNat r2.1,i64.wrap (x9+(1:Int))),⟨ia,h23,(VL (b:=⟨.any :: .ptr aI 0::sI (.rs fj 0 dh.length 1 :: .int .i64 iT :: .any :: .any :: .mp k8 :: .rs ia 0 dw.length 1::wN (ai.fz aK :: .int .i64 (aK.length:Int) :: .int .i64 (i64.wrap (x9+(1:Int)))::FY [])),[none],h23⟩) (by kernel_rfl) (by simp only [Uq])),(by have o:Has h23 ((ia,.sl dw.length 1 (af.l (dw.set x9.toNat r2.1)))::(k8,.mp (sS fw))::(fj,.sl dh.length 1 (af.l dh))::(aI,.ob [ai.fz aK])::L):=OE; simpa only [Uq] using o)⟩,H⟩
 ·exact qx 6 <| ⟨rfl,fw,dw,x9,oi H,ai.fz aK,.int .i64 (aK.length:Int),.int .i64 x9,.bool (decide (x9<(aK.length:Int))),ia,h15,by kernel_rfl,yN⟩
theorem ay.sm (L:Mem)(aK:List aq)(aI:Nat)   : dZ Try.prog cf oF m (sub [1,1,1,1,1,1,1,0,0] (b8 Try.f72)) (fun k (σ:(List Int) × Int)=>ay.l2 m aK k σ.1 σ.2) (fun σ s=>match σ with | (dh,iT)=>∃g8 g9 g10 g11 g12 fj h12,s=⟨.any :: .ptr aI 0 :: .any::g8 :: .any :: .rs fj 0 dh.length 1 :: .int .i64 iT::qn (g9::g10::g11::g12::sU []),[none],h12⟩∧Has h12 ((fj,.sl dh.length 1 (af.l dh))::(aI,.ob [ai.fz aK])::L)) (fun out e s=>(e = .exit 4∧∃dh iT,.inr (dh,iT)=out∧∃yD Gf KG Gh Eb Ec IV IW fj h12,s=⟨.any::yD :: .any::Gf :: .any::KG::Gh::qn (Eb::Ec::IV::IW::sU []),[none],h12⟩∧Has h12 ((fj,.sl dh.length 1 (af.l dh))::(aI,.ob [ai.fz aK])::L))∨(e = .ret∧∃r,.inl r=out∧ay.fin L r s)):=by
 refine mI (fun _=>rfl) ?_
 rintro k ⟨dh,iT⟩ s out ⟨g8,g9,g10,g11,g12,fj,h12,rfl,vh⟩ H
 have H:ay.l2 m aK (k+1) dh iT=some out:=H
 refine qb 5 <| qq ?_
 obtain⟨k8,h13,Hi,vi⟩:=Dx vh
 refine qr [.m 0 Hi] <| qq ?_
 obtain⟨x8,Hj,H⟩:=bj H
 obtain⟨D2,h14,ID,Fl⟩:=uQ (P:=Try.prog) (E:=af) (z:=(0:Int)) (zv:=.int .i64 (0:Int)) gx vi 3 rfl rfl rfl rfl Hj
 refine qr [.v 0 (show bl Try.prog h13 40 (.ptr aI 0)=some (ai.fz aK) from bX (q:=2) (cs:=[ai.fz aK]) vi rfl (by kernel_rfl)),.a 2 ID] <| qq <| qq <| qr [.v 0 (show bl Try.prog h14 40 (.ptr aI 0)=some (ai.fz aK) from bX (q:=3) (cs:=[ai.fz aK]) Fl rfl (by kernel_rfl))] <| qb 6 ?_
 obtain⟨KV,Sp,H⟩:=bj H
 refine ql (ay.D7 L aK aI fj dh iT fj k8   (([]:List (List Int × Int)),x8,(0:Int)) _ _ ⟨D2,h14,by kernel_rfl,Fl⟩ Sp) ?_
 rintro e s ⟨rfl,nc,mo,DR,rfl,g17,g18,g19,g20,k9,h24,rfl,La⟩
 try dsimp only at H
 refine qq <| qq <| qr [.v 1 (show q7 Try.prog h24 113 (.mp k8)=some (.int .i64 (nc.length:Int)) from H8 (q:=1) (l:=nc) DN La rfl)] <| qc H (fun c8 H=>?_) (fun c8 H=>?_)
 ·refine q1 ?_
  have Sq:Has h24 ((k9,.sl mo.length 1 (af.l mo))::(k8,.mp (sS nc))::(fj,.sl dh.length 1 (af.l dh))::L):=Has.del La 3
  have Sr:Has h24 ((k9,.sl mo.length 1 (af.l mo))::(fj,.sl dh.length 1 (af.l dh))::L):=Has.del Sq 1
  have Ss:Has h24 ((fj,.sl dh.length 1 (af.l dh))::L):=Has.del Sr 0
  exact qt <| Or.inr (⟨rfl,_,oi H,dA (.rs fj 0 dh.length 1) h24 (dz (Hc (E:=af) (l:=dh) (q:=0) Ss rfl (fun _=>rfl)))⟩)
 ·refine qk <| qr [.v 2 (show q7 Try.prog h24 113 (.mp k8)=some (.int .i64 (nc.length:Int)) from H8 (q:=1) (l:=nc) DN La rfl)] ?_
  have Su:Has h24 ((k9,.sl mo.length 1 (af.l mo))::(k8,.mp (sS nc))::(aI,.ob [ai.fz aK])::L):=Has.del La 2
  have Sv:Has h24 ((k9,.sl mo.length 1 (af.l mo))::(aI,.ob [ai.fz aK])::L):=Has.del Su 1
  exact⟨(mo,i64.wrap ((nc.length:Int) - (1:Int))),⟨.any,.any,.any,.any,.any,k9,h24,by kernel_rfl,Sv⟩,H⟩
theorem oG {aV:FuncId→bY}(ha:aV 72=oF)(D5:LZ cf m)(OF:Qp cf m)(OG:Qf cf m)(aK:List aq)(h:AHeap)(L:Mem)  (o:Has h (L)){out:(List Int)}(H:ay.f m aK=some out) :
  ∃r h',a6 Try.prog aV cf m 72 [ai.fz aK] h=some (r,h')∧ff h' r (af.fz out):=by
 refine ar (fn:=Try.f72) ha Try.func72 (by kernel_rfl) (by kernel_rfl) ?_
 refine aH (Q:=fun s=>ay.fin L out s) (fun _ _ h=>h) ?_
 have H:_=some out:=H
 unfold ay.f at H
 show dn _ cf oF m _ ⟨ai.fz aK::Nk [],[none],h⟩ _
 refine qq ?_
 obtain⟨aI,h0,e0,o0⟩:=gg (cs:=[ai.fz aK]) o (by kernel_rfl)
 refine qr [.a 0 e0] <| qq ?_
 obtain⟨x0,e1,H⟩:=bj H
 obtain⟨eh,h1,e2,o1⟩:=uQ (P:=Try.prog) (E:=af) (z:=(0:Int)) (zv:=.int .i64 (0:Int)) gx o0 3 rfl rfl rfl rfl e1
 refine qr [.v 0 (show bl Try.prog h0 40 (.ptr aI 0)=some (ai.fz aK) from bX (q:=0) (cs:=[ai.fz aK]) o0 rfl (by kernel_rfl)),.a 2 e2] <| qq <| qq <| q0 <| qb 0 ?_
 obtain⟨b6,e5,H⟩:=bj H
 refine ql (ay.dF L aK aI x0   (x0,(0:Int)) _ _ ⟨eh,h1,by kernel_rfl,o1⟩ e5) ?_
 rintro e s ⟨rfl,bW,x2,rfl,g0,g1,g2,dG,h4,rfl,o4⟩
 try dsimp only at H
 refine qq ?_
 obtain⟨x3,e6,H⟩:=bj H
 obtain⟨h5,e7,o5⟩:=OF _ _ _ e6 h4 _ _ _ (o4) 84 [.ptr aI 0] [.fp [ai.fz aK] 0] rfl (fun h' sY y0 y1 r hr hx=>OG y0 y1 _ r hr h' sY hx) (fun h' K' o'=>iC (ah (cJ (q:=(K'.length+0)) o' (iZ rfl) (ah (fe (E:=ai)) (ax))) (ax))) (fun h_=>iC (ah (fX (pure_cons (bJ.bw (E:=ai) (l:=aK)) (pure_nil))) (ax))) [.rs dG 0 bW.length 1,.fn 84 [.ptr aI 0]] (au (rfl) (au (rfl) (bG)))
 refine qr [.a 2 e7] <| qq ?_
 obtain⟨x4,e8,H⟩:=bj H
 obtain⟨eH,h6,e9,o6⟩:=uQ (P:=Try.prog) (E:=af) (z:=(0:Int)) (zv:=.int .i64 (0:Int)) gx o5 3 rfl rfl rfl rfl e8
 refine qr [.v 0 (show bl Try.prog h5 40 (.ptr aI 0)=some (ai.fz aK) from bX (q:=1) (cs:=[ai.fz aK]) o5 rfl (by kernel_rfl)),.a 2 e9] <| qq <| q0 <| qq <| qq <| q0 <| qb 2 ?_
 obtain⟨D6,Hh,H⟩:=bj H
 refine ql (ay.me L aK aI dG bW dG x3  D5 (x4,(0:Int),(0:Int)) _ _ ⟨eH,h6,(VL (b:=⟨.any :: .ptr aI 0 :: .any :: .rs dG 0 bW.length 1 :: .any :: .rs eH 0 x4.length 1 :: .int .i64 (0:Int)::qn (.rs dG 0 bW.length 1 :: .int .i64 (bW.length:Int) :: .int .i64 (0:Int)::uV []),[none],h6⟩) (by kernel_rfl) (by simp only [Uq])),(by have o:Has h6 ((eH,.sl x4.length 1 (af.l x4))::(dG,.sl bW.length 1 (af.l x3))::(aI,.ob [ai.fz aK])::L):=o6; simpa only [Uq] using o)⟩ Hh) ?_
 rintro e s ⟨rfl,ml,many1,x7,rfl,g3,g4,g5,g6,g7,fB,h11,rfl,Cs⟩
 try dsimp only at H
 refine qb 4 ?_
 have Cu:Has h11 ((fB,.sl ml.length 1 (af.l ml))::(aI,.ob [ai.fz aK])::L):=Has.del Cs 1
 obtain⟨KW,Sw,H⟩:=bj H
 refine ql (ay.sm L aK aI   (ml,many1) _ _ ⟨g3,g4,g5,g6,g7,fB,h11,by kernel_rfl,Cu⟩ Sw) ?_
 rintro e s (⟨rfl,Oo,KX,rfl,g21,g22,g23,g24,T0,T3,T4,T5,mi,h25,rfl,T6⟩| ⟨rfl,r3,rfl,yC⟩)
 ·try dsimp only at H
  cases H
 ·try dsimp only at H
  obtain rfl:=oi H
  exact⟨.inl rfl,yC⟩
end
end Go.Proofs.Ytifafejidnjckaa
namespace Go.Proofs.Ytifafejidnjckaa
open Go Go.R
open Go.IntKind (i64 u64 u8 u32)
end Go.Proofs.Ytifafejidnjckaa
namespace Go.Proofs.Ytifafejidnjckaa
open Go Go.R
open Go.IntKind (i64 u64 u8 u32)
def AF:bY:=gK [0,1,2,3,4,5,6] [2,4000005] [121,113,97,65,1,25,91,123] [] [(0,[(2,some 0,4)])]
def fb.f (m:Nat)(t0:bu):Option (bu):=(ay.f m t0.nodes).bind fun x0=>(aX.f m m t0.root ([]:List (Int × Int)) x0 (bu.mk ([]:List aq) (0:Int)) t0).bind fun x1=>some x1.2.2
def fb.fin (L:Mem)  (r:bu)(s:St):Prop:=∃(eT:Nat) (eJ:List Nat),aM Try.prog (s.open AF) Try.f46.results.toList=some (.agg [.rs eT 0 r.nodes.length 4,.int .i64 r.root])∧Has s.h ((eT,.sl r.nodes.length 4 (fW.l (bE r.nodes eJ)))::(fQ r.nodes eJ++L))
def Qt (cf:CallF)(m:Nat):Prop:=∀(t0:bu) (r:bu),fb.f m t0=some r→∀h L xs,Has h L→aO bO h xs [.agg [ai.fz t0.nodes,.int .i64 t0.root]]→∃(eT:Nat) (eJ:List Nat) (h':AHeap),cf 46 xs h=some (.agg [.rs eT 0 r.nodes.length 4,.int .i64 r.root],h')∧Has h' ((eT,.sl r.nodes.length 4 (fW.l (bE r.nodes eJ)))::(fQ r.nodes eJ++L))∧∀j,j<h.next→h.ver j=h'.ver j
section
variable {cf:CallF}{m:Nat}
theorem qH {aV:FuncId→bY}(ha:aV 46=AF)(OH:Qq cf m)(DS:LS cf m m)(t0:bu)(h:AHeap)(L:Mem)  (o:Has h (L)){out:bu}(H:fb.f m t0=some out) :
  ∃r h',a6 Try.prog aV cf m 46 [.agg [ai.fz t0.nodes,.int .i64 t0.root]] h=some (r,h')∧∃(eT:Nat) (eJ:List Nat),r = .agg [.rs eT 0 out.nodes.length 4,.int .i64 out.root]∧Has h' ((eT,.sl out.nodes.length 4 (fW.l (bE out.nodes eJ)))::(fQ out.nodes eJ++L)):=by
 refine ar (fn:=Try.f46) ha Try.func46 (by kernel_rfl) (by kernel_rfl) ?_
 refine aH (Q:=fun s=>fb.fin L out s) (fun _ _ ⟨h1,eT,eJ,h2,h3⟩=>⟨h1,_,h2,eT,eJ,rfl,h3⟩) ?_
 have H:_=some out:=H
 unfold fb.f at H
 show dn _ cf AF m _ ⟨.agg [ai.fz t0.nodes,.int .i64 t0.root]::wM [],[none,none],h⟩ _
 refine qq ?_
 obtain⟨aI,h0,e0,o0⟩:=gg (cs:=[ai.fz t0.nodes,.int .i64 t0.root]) o (by kernel_rfl)
 refine qr [.a 0 e0] ?_
 have o1:Has h0 (((0),.sl (([]:List aq).length) 4 (fW.l (bE ([]:List aq) ([]:List Nat))))::(aI,.ob [ai.fz t0.nodes,.int .i64 t0.root])::L):=Has.nil o0 4
 refine qq ?_
 obtain⟨x0,e1,H⟩:=bj H
 obtain⟨eh,h1,e2,o2⟩:=gg (cs:=[.nils]) o1 (by kernel_rfl)
 obtain⟨h2,e3,o3⟩:=na (P:=Try.prog) (t:=33) (off:=0) (q:=0) (cs:=[.nils]) (eS:=[af.fz x0]) (x:=af.fz x0) o2 rfl (by kernel_rfl)
 refine qr [.v 1 (show bl Try.prog h0 40 (.ptr aI 0)=some (ai.fz t0.nodes) from bX (q:=1) (cs:=[ai.fz t0.nodes,.int .i64 t0.root]) o1 rfl (by kernel_rfl)),.a 2 (OH _ _ e1 h0 _ (fq (ah (fe (E:=ai)) (ax)))),.a 3 e2,.w 4 e3] <| qq ?_
 obtain⟨eO,h3,e4,o4⟩:=Dx o3
 obtain⟨dG,h4,e5,o5⟩:=gg (cs:=[.lu]) o4 (by kernel_rfl)
 obtain⟨h5,e6,o6⟩:=na (P:=Try.prog) (t:=82) (off:=0) (q:=0) (cs:=[.lu]) (eS:=[.mp eO]) (x:=.mp eO) o5 rfl (by kernel_rfl)
 refine qr [.m 0 e4,.a 1 e5,.w 2 e6] <| qq ?_
 have o7:Has h5 ((((0)),.sl (([]:List aq).length) 4 (ai.l ([]:List aq)))::(dG,.ob [.mp eO])::(eO,.mp (oo ([]:List (Int × Int))))::(eh,.ob [af.fz x0])::((0),.sl (([]:List aq).length) 4 (fW.l (bE ([]:List aq) ([]:List Nat))))::(aI,.ob [ai.fz t0.nodes,.int .i64 t0.root])::L):=Has.nil o6 4
 obtain⟨eH,h6,e7,o8⟩:=gg (cs:=[.rs ((0)) 0 (([]:List aq).length) 4,.int .i64 (0:Int)]) o7 (by kernel_rfl)
 refine qr [.a 0 e7] <| qq ?_
 obtain⟨fE,h7,e8,o9⟩:=gg (cs:=[.nK]) o8 (by kernel_rfl)
 refine qr [.a 0 e8] <| qq ?_
 obtain⟨h8,e9,w7⟩:=na (P:=Try.prog) (t:=80) (off:=0) (q:=0) (cs:=[.nK]) (eS:=[.fn 73 [.ptr dG 0,.ptr eh 0,.ptr eH 0,.ptr aI 0,.ptr fE 0]]) (x:=.fn 73 [.ptr dG 0,.ptr eh 0,.ptr eH 0,.ptr aI 0,.ptr fE 0]) o9 rfl (by kernel_rfl)
 refine qr [.w 1 e9] <| qq ?_
 obtain⟨x1,sX,H⟩:=bj H
 obtain⟨fB,eJ,h9,vc,Cs⟩:=DS _ _ _ _ _ _ sX h8 _ _ _ _ _ _ ([]:List Nat) _ _ ((Has.front (Has.front (Has.front (Has.front (Has.front (Has.front (Has.front (Has.front w7 6 rfl) 1 rfl) 7 rfl) 4 rfl) 4 rfl) 7 rfl) 7 rfl) 7 rfl))  [.int .i64 t0.root,.ptr dG 0,.ptr eh 0,.ptr eH 0,.ptr aI 0,.ptr fE 0] (au (aN (bg)) (au (rfl) (au (rfl) (au (rfl) (au (rfl) (au (rfl) (bG)))))))
 have Cu:=Has.wV (pre:=[(dG,.ob [.mp eO]),(eO,.mp (oo x1.2.1)),(eh,.ob [af.fz x0]),(eH,.ob [.rs fB 0 x1.2.2.nodes.length 4,.int .i64 x1.2.2.root]),(fB,.sl x1.2.2.nodes.length 4 (fW.l (bE x1.2.2.nodes eJ))),(aI,.ob [ai.fz t0.nodes,.int .i64 t0.root]),(fE,.ob [.fn 73 [.ptr dG 0,.ptr eh 0,.ptr eH 0,.ptr aI 0,.ptr fE 0]])]) (N:=[((0),.sl (([]:List aq).length) 4 (fW.l (bE ([]:List aq) ([]:List Nat))))]) (mid:=fQ x1.2.2.nodes eJ) Cs
 refine qr [.v 0 (show bl Try.prog h8 80 (.ptr fE 0)=some (.fn 73 [.ptr dG 0,.ptr eh 0,.ptr eH 0,.ptr aI 0,.ptr fE 0]) from bX (q:=0) (cs:=[.fn 73 [.ptr dG 0,.ptr eh 0,.ptr eH 0,.ptr aI 0,.ptr fE 0]]) w7 rfl (by kernel_rfl)),.v 2 (show bl Try.prog h8 3 (.ptr aI 1)=some (.int .i64 t0.root) from bX (q:=7) (cs:=[ai.fz t0.nodes,.int .i64 t0.root]) w7 rfl (by kernel_rfl)),.a 3 vc] ?_
 have vh:Has h9 ((dG,.ob [.mp eO])::(eO,.mp (oo x1.2.1))::(eh,.ob [af.fz x0])::(eH,.ob [.rs fB 0 x1.2.2.nodes.length 4,.int .i64 x1.2.2.root])::(fB,.sl x1.2.2.nodes.length 4 (fW.l (bE x1.2.2.nodes eJ)))::(aI,.ob [ai.fz t0.nodes,.int .i64 t0.root])::((0),.sl (([]:List aq).length) 4 (fW.l (bE ([]:List aq) ([]:List Nat))))::(fQ x1.2.2.nodes eJ++L)):=Has.del Cu 6
 have vi:Has h9 ((dG,.ob [.mp eO])::(eO,.mp (oo x1.2.1))::(eh,.ob [af.fz x0])::(eH,.ob [.rs fB 0 x1.2.2.nodes.length 4,.int .i64 x1.2.2.root])::(fB,.sl x1.2.2.nodes.length 4 (fW.l (bE x1.2.2.nodes eJ)))::((0),.sl (([]:List aq).length) 4 (fW.l (bE ([]:List aq) ([]:List Nat))))::(fQ x1.2.2.nodes eJ++L)):=Has.del vh 5
 have Fl:Has h9 ((dG,.ob [.mp eO])::(eO,.mp (oo x1.2.1))::(eH,.ob [.rs fB 0 x1.2.2.nodes.length 4,.int .i64 x1.2.2.root])::(fB,.sl x1.2.2.nodes.length 4 (fW.l (bE x1.2.2.nodes eJ)))::((0),.sl (([]:List aq).length) 4 (fW.l (bE ([]:List aq) ([]:List Nat))))::(fQ x1.2.2.nodes eJ++L)):=Has.del vi 2
 have yN:Has h9 ((dG,.ob [.mp eO])::(eH,.ob [.rs fB 0 x1.2.2.nodes.length 4,.int .i64 x1.2.2.root])::(fB,.sl x1.2.2.nodes.length 4 (fW.l (bE x1.2.2.nodes eJ)))::((0),.sl (([]:List aq).length) 4 (fW.l (bE ([]:List aq) ([]:List Nat))))::(fQ x1.2.2.nodes eJ++L)):=Has.del Fl 1
 have Cw:Has h9 ((eH,.ob [.rs fB 0 x1.2.2.nodes.length 4,.int .i64 x1.2.2.root])::(fB,.sl x1.2.2.nodes.length 4 (fW.l (bE x1.2.2.nodes eJ)))::((0),.sl (([]:List aq).length) 4 (fW.l (bE ([]:List aq) ([]:List Nat))))::(fQ x1.2.2.nodes eJ++L)):=Has.del yN 0
 refine qs [.v 0 (show bl Try.prog h9 42 (.ptr eH 0)=some (.agg [.rs fB 0 x1.2.2.nodes.length 4,.int .i64 x1.2.2.root]) from bX (q:=0) (cs:=[.rs fB 0 x1.2.2.nodes.length 4,.int .i64 x1.2.2.root]) Cw rfl (by kernel_rfl))] ?_
 have Cv:Has h9 ((eH,.ob [.rs fB 0 x1.2.2.nodes.length 4,.int .i64 x1.2.2.root])::(fB,.sl x1.2.2.nodes.length 4 (fW.l (bE x1.2.2.nodes eJ)))::(fQ x1.2.2.nodes eJ++L)):=Has.del Cw 2
 have BY:Has h9 ((fB,.sl x1.2.2.nodes.length 4 (fW.l (bE x1.2.2.nodes eJ)))::(fQ x1.2.2.nodes eJ++L)):=Has.del Cv 0
 obtain rfl:=oi H
 exact qt <| ⟨.inl rfl,⟨fB,eJ,by kernel_rfl,he BY⟩⟩
end
end Go.Proofs.Ytifafejidnjckaa
namespace Go.Proofs.Ytifafejidnjckaa
open Go Go.R
open Go.IntKind (i64 u64 u8 u32)
def AG:bY:=gK [0,1,2,3,6] [1,2] [25,9,19,19] [] [(0,[(2,some 0,4)]),(2,[(2,some 0,4)])]
def fP.f (m:Nat)(t0:bu):Option (bu × Int):=(gB.f m t0).bind fun x0=>if (!x0)=true then (some ((bu.mk ([]:List aq) (0:Int)),(2:Int))) else ((fb.f m t0).bind fun x1=>some (x1,(0:Int)))
def fP.fin (L:Mem)  (r:bu × Int)(s:St):Prop:=∃(eT:Nat) (eJ:List Nat),aM Try.prog (s.open AG) Try.f43.results.toList=some (.tup [.agg [.rs eT 0 r.1.nodes.length 4,.int .i64 r.1.root],.int .i64 r.2])∧Has s.h ((eT,.sl r.1.nodes.length 4 (fW.l (bE r.1.nodes eJ)))::(fQ r.1.nodes eJ++L))
def Qu (cf:CallF)(m:Nat):Prop:=∀(t0:bu) (r:bu × Int),fP.f m t0=some r→∀h L xs,Has h L→aO bO h xs [.agg [ai.fz t0.nodes,.int .i64 t0.root]]→∃(eT:Nat) (eJ:List Nat) (h':AHeap),cf 43 xs h=some (.tup [.agg [.rs eT 0 r.1.nodes.length 4,.int .i64 r.1.root],.int .i64 r.2],h')∧Has h' ((eT,.sl r.1.nodes.length 4 (fW.l (bE r.1.nodes eJ)))::(fQ r.1.nodes eJ++L))∧∀j,j<h.next→h.ver j=h'.ver j
section
variable {cf:CallF}{m:Nat}
theorem qI {aV:FuncId→bY}(ha:aV 43=AG)(OI:Qo cf m)(OJ:Qt cf m)(t0:bu)(h:AHeap)(L:Mem)  (o:Has h (L)){out:bu × Int}(H:fP.f m t0=some out) :
  ∃r h',a6 Try.prog aV cf m 43 [.agg [ai.fz t0.nodes,.int .i64 t0.root]] h=some (r,h')∧∃(eT:Nat) (eJ:List Nat),r = .tup [.agg [.rs eT 0 out.1.nodes.length 4,.int .i64 out.1.root],.int .i64 out.2]∧Has h' ((eT,.sl out.1.nodes.length 4 (fW.l (bE out.1.nodes eJ)))::(fQ out.1.nodes eJ++L)):=by
 refine ar (fn:=Try.f43) ha Try.func43 (by kernel_rfl) (by kernel_rfl) ?_
 refine aH (Q:=fun s=>fP.fin L out s) (fun _ _ ⟨h1,eT,eJ,h2,h3⟩=>⟨h1,_,h2,eT,eJ,rfl,h3⟩) ?_
 have H:_=some out:=H
 unfold fP.f at H
 show dn _ cf AG m _ ⟨.agg [ai.fz t0.nodes,.int .i64 t0.root]::nw [],[none,none],h⟩ _
 refine q1 ?_
 have o0:Has h (((0),.sl (([]:List aq).length) 4 (fW.l (bE ([]:List aq) ([]:List Nat))))::L):=Has.nil o 4
 refine qq <| qq ?_
 obtain⟨x0,e0,H⟩:=bj H
 refine qr [.a 1 (OI _ _ e0 h _ (fq (ah (iY (ah (fe (E:=ai)) (ah (br) (ax)))) (ax))))] <| qc H (fun c0 H=>?_) (fun c0 H=>?_)
 ·refine q1 ?_
  have o1:Has h ((((0)),.sl (([]:List aq).length) 4 (fW.l (bE ([]:List aq) ([]:List Nat))))::((0),.sl (([]:List aq).length) 4 (fW.l (bE ([]:List aq) ([]:List Nat))))::L):=Has.nil o0 4
  have o2:Has h ((((0)),.sl (([]:List aq).length) 4 (fW.l (bE ([]:List aq) ([]:List Nat))))::L):=Has.del o1 1
  obtain rfl:=oi H
  exact qt <| ⟨.inl rfl,⟨((0)),([]:List Nat),by kernel_rfl,he o2⟩⟩
 ·refine qk <| qq ?_
  obtain⟨x1,e1,H⟩:=bj H
  obtain⟨aI,cu,h0,e2,o3,HD⟩:=OJ _ _ e1 h _ _ o0 (fq (ah (iY (ah (fe (E:=ai)) (ah (br) (ax)))) (ax)))
  have o4:=Has.wV (pre:=[(aI,.sl x1.nodes.length 4 (fW.l (bE x1.nodes cu)))]) (N:=[((0),.sl (([]:List aq).length) 4 (fW.l (bE ([]:List aq) ([]:List Nat))))]) (mid:=fQ x1.nodes cu) o3
  refine qr [.a 1 e2] ?_
  have o5:Has h0 ((aI,.sl x1.nodes.length 4 (fW.l (bE x1.nodes cu)))::(fQ x1.nodes cu++L)):=Has.del o4 1
  obtain rfl:=oi H
  exact qt <| ⟨.inl rfl,⟨aI,cu,by kernel_rfl,he o5⟩⟩
end
end Go.Proofs.Ytifafejidnjckaa
namespace Go.Proofs.Ytifafejidnjckaa
open Go Go.R
open Go.IntKind (i64 u64 u8 u32)
end Go.Proofs.Ytifafejidnjckaa
namespace Go.Proofs.Ytifafejidnjckaa
open Go Go.R
open Go.IntKind (i64 u64 u8 u32)
def sr:bY:=gK [0,1,3,4,5,6,7,8,9,10,11,14,21,33,35,36,37,38,44,51,52,53] [3,6,10] [4194298,4192250,4194279,4194206,4190110,4194279,4194142,4185950,4194279,4079486,3948414,4078718,3816574,4078718,2505854,408702,2504830,2505854,2505854,4079486,4079486,4194279] [(19,[(10,some 3,0)])] [(3,[(6,some 0,4)]),(11,[(10,some 3,1)])]
def aA.l1 (m:Nat)(s0:ab)(v0:aq):Nat→Int→(List Int)→ab→Option (Int × (List Int) × ab)
 | 0,_,_,_=>none
 | k+1,x3,n0,s2=>if (decide (x3<(v0.args.length:Int)))=true then ((ix n0 x3).bind fun v1=>(ix n0 x3).bind fun v2=>aA.l1 m s0 v0 k (i64.wrap (x3+(1:Int))) (n0.set x3.toNat (i64.wrap (v1+(s0.aa.length:Int)))) s2) else (some ((x3,n0,s2)))
def aA.l2 (m:Nat)(s0:ab)(v0:aq):Nat→Int→(List Int)→ab→Option (Int × (List Int) × ab)
 | 0,_,_,_=>none
 | k+1,x7,n2,s4=>if (decide (x7<(v0.args.length:Int)))=true then ((ix n2 x7).bind fun v3=>(ix n2 x7).bind fun v4=>aA.l2 m s0 v0 k (i64.wrap (x7+(1:Int))) (n2.set x7.toNat (i64.wrap (v3+(s0.aa.length:Int)))) s4) else (some ((x7,n2,s4)))
def aA.l0 (m:Nat)(s0:ab)(x1:bu × Int):Nat→Int→ab→Option (Int × ab)
 | 0,_,_=>none
 | k+1,x2,s1=>if (decide (x2<(x1.1.nodes.length:Int)))=true then ((ix x1.1.nodes x2).bind fun v0=>if (v0.kind==(0:Int))=true then ((aA.l1 m s0 v0 m (0:Int) v0.args s1).bind fun b6=>match b6 with | (x4,n1,s3)=>(app 56 s3.aa ([(aq.mk v0.kind (i64.wrap ((s0.aa.length:Int)+x2)) v0.label n1)])).bind fun x5=>(app 8 s3.ae ([i64.wrap ((s0.aa.length:Int)+x2)])).bind fun x6=>aA.l0 m s0 x1 k (i64.wrap (x2+(1:Int))) (ab.mk s3.aj x5 x6)) else ((aA.l2 m s0 v0 m (0:Int) v0.args s1).bind fun dt=>match dt with | (x8,n3,s5)=>(app 56 s5.aa ([(aq.mk v0.kind v0.int v0.label n3)])).bind fun x9=>(app 8 s5.ae ([i64.wrap ((s0.aa.length:Int)+x2)])).bind fun kz=>aA.l0 m s0 x1 k (i64.wrap (x2+(1:Int))) (ab.mk s5.aj x9 kz))) else (some ((x2,s1)))
def aA.f (m:Nat)(s0:ab)(t0:bu):Option (Int × Int × ab):=(bA.f m s0).bind fun x0=>if (!x0)=true then (some ((0:Int),(6:Int),s0)) else ((fP.f m t0).bind fun x1=>if (!(x1.2==(0:Int)))=true then (some ((0:Int),x1.2,s0)) else (if (decide ((i64.wrap ((s0.aa.length:Int)+(x1.1.nodes.length:Int))) > (8000:Int)))=true then (some ((0:Int),(7:Int),s0)) else ((aA.l0 m s0 x1 m (0:Int) s0).bind fun ml=>match ml with | (zX,s6)=>some ((s0.aa.length:Int),(0:Int),s6))))
def aA.fin (L:Mem)(ao:Nat)(ak:Nat)(an:Nat)(s0:ab)(t0:bu)(r:Int × Int × ab)(s:St):Prop:=∃aB aC:Nat,aM Try.prog (s.open sr) Try.f36.results.toList=some (.tup [.int .i64 r.1,.int .i64 r.2.1])∧Has s.h ((ao,.ob [.bool r.2.2.aj,.rs aB 0 r.2.2.aa.length 4,.rs aC 0 r.2.2.ae.length 1])::(aB,.sl r.2.2.aa.length 4 (ai.l r.2.2.aa))::(aC,.sl r.2.2.ae.length 1 (af.l r.2.2.ae))::L)
def Qv (cf:CallF)(m:Nat):Prop:=∀(s0:ab) (t0:bu) (r:Int × Int × ab),aA.f m s0 t0=some r→∀h L (ao:Nat) (ak:Nat) (an:Nat),Has h ((ao,.ob [.bool s0.aj,.rs ak 0 s0.aa.length 4,.rs an 0 s0.ae.length 1])::(ak,.sl s0.aa.length 4 (ai.l s0.aa))::(an,.sl s0.ae.length 1 (af.l s0.ae))::L)→∀xs,xs.map aL=[.ptr ao 0,.agg [ai.fz t0.nodes,.int .i64 t0.root]]→∃aB aC h',cf 36 xs h=some (.tup [.int .i64 r.1,.int .i64 r.2.1],h')∧Has h' ((ao,.ob [.bool r.2.2.aj,.rs aB 0 r.2.2.aa.length 4,.rs aC 0 r.2.2.ae.length 1])::(aB,.sl r.2.2.aa.length 4 (ai.l r.2.2.aa))::(aC,.sl r.2.2.ae.length 1 (af.l r.2.2.ae))::L)
section
variable {cf:CallF}{m:Nat}
theorem aA.me (L:Mem)(ao:Nat)(ak:Nat)(an:Nat)(s0:ab)(t0:bu)(x1:bu × Int)(aI:Nat)(cu:List Nat)(x2:Int)(v0:aq)   : dZ Try.prog cf sr m (sub [1,1,1,1,1,1,0,1,0,0,1,1,0,0,1,1,0,1,0,0] (b8 Try.f36)) (fun k (σ:Int × (List Int) × ab)=>aA.l1 m s0 v0 k σ.1 σ.2.1 σ.2.2) (fun σ s=>match σ with | (x3,n0,s2)=>∃dG eH fE h2,s=⟨.ptr ao 0::wM (.int .i64 (s0.aa.length:Int) :: .int .i64 x2 :: .lp 10 0::nw [.rs aI 0 x1.1.nodes.length 4,.int .i64 (x1.1.nodes.length:Int),.int .i64 x2,.any,.any,.int .i64 (v0.args.length:Int),.int .i64 x3,.any]),[none,none,some [.int .i64 v0.kind,.int .i64 (i64.wrap ((s0.aa.length:Int)+x2)),.str v0.label,.rs dG 0 n0.length 1]],h2⟩∧Has h2 ((dG,.sl n0.length 1 (af.l n0))::(aI,.sl x1.1.nodes.length 4 (fW.l (bE x1.1.nodes cu)))::(ao,.ob [.bool s2.aj,.rs eH 0 s2.aa.length 4,.rs fE 0 s2.ae.length 1])::(eH,.sl s2.aa.length 4 (ai.l s2.aa))::(fE,.sl s2.ae.length 1 (af.l s2.ae))::(fQ (x1.1.nodes.drop ((i64.wrap (x2+(1:Int))).toNat)) (cu.drop ((i64.wrap (x2+(1:Int))).toNat))++L))) (fun out e s=>(e = .exit 2∧∃x3 n0 s2,(x3,n0,s2)=out∧∃IX IY DT dG eH fE h2,s=⟨.ptr ao 0::wM (.int .i64 (s0.aa.length:Int) :: .int .i64 x2 :: .lp 10 0::nw [.rs aI 0 x1.1.nodes.length 4,.int .i64 (x1.1.nodes.length:Int),.int .i64 x2,.any,.any,IX,IY,DT]),[none,none,some [.int .i64 v0.kind,.int .i64 (i64.wrap ((s0.aa.length:Int)+x2)),.str v0.label,.rs dG 0 n0.length 1]],h2⟩∧Has h2 ((dG,.sl n0.length 1 (af.l n0))::(aI,.sl x1.1.nodes.length 4 (fW.l (bE x1.1.nodes cu)))::(ao,.ob [.bool s2.aj,.rs eH 0 s2.aa.length 4,.rs fE 0 s2.ae.length 1])::(eH,.sl s2.aa.length 4 (ai.l s2.aa))::(fE,.sl s2.ae.length 1 (af.l s2.ae))::(fQ (x1.1.nodes.drop ((i64.wrap (x2+(1:Int))).toNat)) (cu.drop ((i64.wrap (x2+(1:Int))).toNat))++L)))):=by
 refine mI (fun _=>rfl) ?_
 rintro k ⟨x3,n0,s2⟩ s out ⟨dG,eH,fE,h2,rfl,o6⟩ H
 have H:aA.l1 m s0 v0 (k+1) x3 n0 s2=some out:=H
 refine q1 <| qq <| qc H (fun c5 H=>?_) (fun c5 H=>?_)
 ·refine qk <| qq <| qb 3 <| qq <| q0 ?_
  obtain⟨v1,e4,H⟩:=bj H
  obtain⟨v2,e5,H⟩:=bj H
  obtain⟨h3,e6,o7⟩:=fo (P:=Try.prog) (tf:=3) (E:=af) (l:=n0) (q:=0) (v:=(i64.wrap (v1+(s0.aa.length:Int)))) (x:=.int .i64 (i64.wrap (v1+(s0.aa.length:Int)))) o6 rfl Z3 e5 rfl rfl
  exact qr [.v 3 (bn (k:=.i64) (E:=af) (l:=n0) (q:=0) gx o6 rfl e4),.v 4 (dD  (E:=af) (l:=n0) (q:=0) o6 rfl A3 e4 rfl),.v 7 (bn (k:=.i64) (E:=af) (l:=n0) (q:=0) gx o6 rfl e5),.w 8 e6] <| q0 <| ⟨(i64.wrap (x3+(1:Int)),n0.set x3.toNat (i64.wrap (v1+(s0.aa.length:Int))),s2),⟨dG,eH,fE,h3,(VL (b:=⟨.ptr ao 0::wM (.int .i64 (s0.aa.length:Int) :: .int .i64 x2 :: .lp 10 0::nw [.rs aI 0 x1.1.nodes.length 4,.int .i64 (x1.1.nodes.length:Int),.int .i64 x2,.any,.any,.int .i64 (v0.args.length:Int),.int .i64 (i64.wrap (x3+(1:Int))),.any]),[none,none,some [.int .i64 v0.kind,.int .i64 (i64.wrap ((s0.aa.length:Int)+x2)),.str v0.label,.rs dG 0 n0.length 1]],h3⟩) (by kernel_rfl) (by simp only [Uq])),(by have o:Has h3 ((dG,.sl n0.length 1 (af.l (n0.set x3.toNat (i64.wrap (v1+(s0.aa.length:Int))))))::(aI,.sl x1.1.nodes.length 4 (fW.l (bE x1.1.nodes cu)))::(ao,.ob [.bool s2.aj,.rs eH 0 s2.aa.length 4,.rs fE 0 s2.ae.length 1])::(eH,.sl s2.aa.length 4 (ai.l s2.aa))::(fE,.sl s2.ae.length 1 (af.l s2.ae))::(fQ (x1.1.nodes.drop ((i64.wrap (x2+(1:Int))).toNat)) (cu.drop ((i64.wrap (x2+(1:Int))).toNat))++L)):=o7; simpa only [Uq] using o)⟩,H⟩
 ·exact qx 2 <| ⟨rfl,x3,n0,s2,oi H,.int .i64 (v0.args.length:Int),.int .i64 x3,.bool (decide (x3<(v0.args.length:Int))),dG,eH,fE,h2,by kernel_rfl,o6⟩
theorem aA.sm (L:Mem)(ao:Nat)(ak:Nat)(an:Nat)(s0:ab)(t0:bu)(x1:bu × Int)(aI:Nat)(cu:List Nat)(x2:Int)(v0:aq)   : dZ Try.prog cf sr m (sub [1,1,1,1,1,1,0,1,0,0,1,1,0,0,1,1,0,1,0,0] (b8 Try.f36)) (fun k (σ:Int × (List Int) × ab)=>aA.l2 m s0 v0 k σ.1 σ.2.1 σ.2.2) (fun σ s=>match σ with | (x7,n2,s4)=>∃jf k9 mi h10,s=⟨.ptr ao 0::wM (.int .i64 (s0.aa.length:Int) :: .int .i64 x2 :: .lp 10 0::nw [.rs aI 0 x1.1.nodes.length 4,.int .i64 (x1.1.nodes.length:Int),.int .i64 x2,.any,.any,.int .i64 (v0.args.length:Int),.int .i64 x7,.any]),[none,none,some [.int .i64 v0.kind,.int .i64 v0.int,.str v0.label,.rs jf 0 n2.length 1]],h10⟩∧Has h10 ((jf,.sl n2.length 1 (af.l n2))::(aI,.sl x1.1.nodes.length 4 (fW.l (bE x1.1.nodes cu)))::(ao,.ob [.bool s4.aj,.rs k9 0 s4.aa.length 4,.rs mi 0 s4.ae.length 1])::(k9,.sl s4.aa.length 4 (ai.l s4.aa))::(mi,.sl s4.ae.length 1 (af.l s4.ae))::(fQ (x1.1.nodes.drop ((i64.wrap (x2+(1:Int))).toNat)) (cu.drop ((i64.wrap (x2+(1:Int))).toNat))++L))) (fun out e s=>(e = .exit 2∧∃x7 n2 s4,(x7,n2,s4)=out∧∃IX IY DT jf k9 mi h10,s=⟨.ptr ao 0::wM (.int .i64 (s0.aa.length:Int) :: .int .i64 x2 :: .lp 10 0::nw [.rs aI 0 x1.1.nodes.length 4,.int .i64 (x1.1.nodes.length:Int),.int .i64 x2,.any,.any,IX,IY,DT]),[none,none,some [.int .i64 v0.kind,.int .i64 v0.int,.str v0.label,.rs jf 0 n2.length 1]],h10⟩∧Has h10 ((jf,.sl n2.length 1 (af.l n2))::(aI,.sl x1.1.nodes.length 4 (fW.l (bE x1.1.nodes cu)))::(ao,.ob [.bool s4.aj,.rs k9 0 s4.aa.length 4,.rs mi 0 s4.ae.length 1])::(k9,.sl s4.aa.length 4 (ai.l s4.aa))::(mi,.sl s4.ae.length 1 (af.l s4.ae))::(fQ (x1.1.nodes.drop ((i64.wrap (x2+(1:Int))).toNat)) (cu.drop ((i64.wrap (x2+(1:Int))).toNat))++L)))):=by
 refine mI (fun _=>rfl) ?_
 rintro k ⟨x7,n2,s4⟩ s out ⟨jf,k9,mi,h10,rfl,vi⟩ H
 have H:aA.l2 m s0 v0 (k+1) x7 n2 s4=some out:=H
 refine q1 <| qq <| qc H (fun c6 H=>?_) (fun c6 H=>?_)
 ·refine qk <| qq <| qb 3 <| qq <| q0 ?_
  obtain⟨v3,yJ,H⟩:=bj H
  obtain⟨v4,D3,H⟩:=bj H
  obtain⟨h11,Gm,Fl⟩:=fo (P:=Try.prog) (tf:=3) (E:=af) (l:=n2) (q:=0) (v:=(i64.wrap (v3+(s0.aa.length:Int)))) (x:=.int .i64 (i64.wrap (v3+(s0.aa.length:Int)))) vi rfl Z3 D3 rfl rfl
  exact qr [.v 3 (bn (k:=.i64) (E:=af) (l:=n2) (q:=0) gx vi rfl yJ),.v 4 (dD  (E:=af) (l:=n2) (q:=0) vi rfl A3 yJ rfl),.v 7 (bn (k:=.i64) (E:=af) (l:=n2) (q:=0) gx vi rfl D3),.w 8 Gm] <| q0 <| ⟨(i64.wrap (x7+(1:Int)),n2.set x7.toNat (i64.wrap (v3+(s0.aa.length:Int))),s4),⟨jf,k9,mi,h11,(VL (b:=⟨.ptr ao 0::wM (.int .i64 (s0.aa.length:Int) :: .int .i64 x2 :: .lp 10 0::nw [.rs aI 0 x1.1.nodes.length 4,.int .i64 (x1.1.nodes.length:Int),.int .i64 x2,.any,.any,.int .i64 (v0.args.length:Int),.int .i64 (i64.wrap (x7+(1:Int))),.any]),[none,none,some [.int .i64 v0.kind,.int .i64 v0.int,.str v0.label,.rs jf 0 n2.length 1]],h11⟩) (by kernel_rfl) (by simp only [Uq])),(by have o:Has h11 ((jf,.sl n2.length 1 (af.l (n2.set x7.toNat (i64.wrap (v3+(s0.aa.length:Int))))))::(aI,.sl x1.1.nodes.length 4 (fW.l (bE x1.1.nodes cu)))::(ao,.ob [.bool s4.aj,.rs k9 0 s4.aa.length 4,.rs mi 0 s4.ae.length 1])::(k9,.sl s4.aa.length 4 (ai.l s4.aa))::(mi,.sl s4.ae.length 1 (af.l s4.ae))::(fQ (x1.1.nodes.drop ((i64.wrap (x2+(1:Int))).toNat)) (cu.drop ((i64.wrap (x2+(1:Int))).toNat))++L)):=Fl; simpa only [Uq] using o)⟩,H⟩
 ·exact qx 2 <| ⟨rfl,x7,n2,s4,oi H,.int .i64 (v0.args.length:Int),.int .i64 x7,.bool (decide (x7<(v0.args.length:Int))),jf,k9,mi,h10,by kernel_rfl,vi⟩
theorem aA.dF (L:Mem)(ao:Nat)(ak:Nat)(an:Nat)(s0:ab)(t0:bu)(x1:bu × Int)(aI:Nat)(cu:List Nat)   : dZ Try.prog cf sr m (sub [1,1,1,1,1,1,0,1,0,0] (b8 Try.f36)) (fun k (σ:Int × ab)=>aA.l0 m s0 x1 k σ.1 σ.2) (fun σ s=>match σ with | (x2,s1)=>∃eh eO h1,s=⟨.ptr ao 0::wM (.int .i64 (s0.aa.length:Int)::wM (.rs aI 0 x1.1.nodes.length 4 :: .int .i64 (x1.1.nodes.length:Int) :: .int .i64 x2::Fi [])),[none,none,none],h1⟩∧Has h1 ((aI,.sl x1.1.nodes.length 4 (fW.l (bE x1.1.nodes cu)))::(ao,.ob [.bool s1.aj,.rs eh 0 s1.aa.length 4,.rs eO 0 s1.ae.length 1])::(eh,.sl s1.aa.length 4 (ai.l s1.aa))::(eO,.sl s1.ae.length 1 (af.l s1.ae))::(fQ (x1.1.nodes.drop x2.toNat) (cu.drop x2.toNat)++L))) (fun out e s=>(e = .exit 0∧∃x2 s1,(x2,s1)=out∧∃ow IS OK Eb Ec eh eO h1,s=⟨ow::wM (.int .i64 (s0.aa.length:Int)::wM (IS::OK::Eb::Ec::nw [])),[none,none,none],h1⟩∧Has h1 ((aI,.sl x1.1.nodes.length 4 (fW.l (bE x1.1.nodes cu)))::(ao,.ob [.bool s1.aj,.rs eh 0 s1.aa.length 4,.rs eO 0 s1.ae.length 1])::(eh,.sl s1.aa.length 4 (ai.l s1.aa))::(eO,.sl s1.ae.length 1 (af.l s1.ae))::(fQ (x1.1.nodes.drop x2.toNat) (cu.drop x2.toNat)++L)))):=by
 refine mI (fun _=>rfl) ?_
 rintro k ⟨x2,s1⟩ s out ⟨eh,eO,h1,rfl,o4⟩ H
 have H:aA.l0 m s0 x1 (k+1) x2 s1=some out:=H
 refine q1 <| qq <| qc H (fun c3 H=>?_) (fun c3 H=>?_)
 ·refine qk <| qq <| qb 1 <| qq ?_
  obtain⟨v0,e3,H⟩:=bj H
  have o5:=DM (pre:=[(aI,.sl x1.1.nodes.length 4 (fW.l (bE x1.1.nodes cu))),(ao,.ob [.bool s1.aj,.rs eh 0 s1.aa.length 4,.rs eO 0 s1.ae.length 1]),(eh,.sl s1.aa.length 4 (ai.l s1.aa)),(eO,.sl s1.ae.length 1 (af.l s1.ae))]) (q:=0) (ns:=x1.1.nodes) (ids:=cu) o4 rfl e3
  refine qr [.v 1 (bn (k:=.i64) (E:=fW) (l:=(bE x1.1.nodes cu)) (q:=0) xM o4 rfl (qW e3)),.v 2 (uR  (E:=fW) (l:=(bE x1.1.nodes cu)) (q:=0) o4 rfl Fj Fk (qW e3))] <| qq <| qq <| q0 <| qc H (fun c4 H=>?_) (fun c4 H=>?_)
  ·refine q0 <| qq <| qq <| q0 <| qb 2 ?_
   obtain⟨b6,e7,H⟩:=bj H
   refine ql (aA.me L ao ak an s0 t0 x1 aI cu x2 v0   ((0:Int),v0.args,s1) _ _ ⟨(JA cu x2),eh,eO,h1,by kernel_rfl,o5⟩ e7) ?_
   rintro e s ⟨rfl,x4,n1,s3,rfl,g0,g1,g2,fB,fj,k8,h4,rfl,o8⟩
   try dsimp only at H
   obtain⟨h5,e8,o9⟩:=rR (E:=af) (l:=n1) (q:=0) o8 rfl
   obtain⟨x5,e9,H⟩:=bj H
   obtain⟨D2,h6,sX,w7⟩:=iv (P:=Try.prog) (E:=ai) (l:=s3.aa) (q:=2) (t2:=40) (x:=.fz [.int .i64 v0.kind,.int .i64 (i64.wrap ((s0.aa.length:Int)+x2)),.str v0.label,af.fz n1] 1 true) (l2:=([(aq.mk v0.kind (i64.wrap ((s0.aa.length:Int)+x2)) v0.label n1)])) xM o9 rfl (by kernel_rfl) rfl e9
   obtain⟨x6,vc,H⟩:=bj H
   obtain⟨ia,h7,w6,Cs⟩:=iv (P:=Try.prog) (E:=af) (l:=s3.ae) (q:=3) (t2:=33) (x:=.fz [.int .i64 (i64.wrap ((s0.aa.length:Int)+x2))] 1 true) (l2:=([i64.wrap ((s0.aa.length:Int)+x2)])) gx w7 rfl (by kernel_rfl) rfl vc
   obtain⟨h8,xN,Cu⟩:=na (P:=Try.prog) (t:=40) (off:=1) (q:=1) (cs:=[.bool s3.aj,.rs fj 0 s3.aa.length 4,.rs k8 0 s3.ae.length 1]) (eS:=[.bool s3.aj,.rs D2 0 x5.length 4,.rs k8 0 s3.ae.length 1]) (x:=.rs D2 0 x5.length 4) Cs rfl (by kernel_rfl)
   obtain⟨h9,zY,vh⟩:=na (P:=Try.prog) (t:=33) (off:=2) (q:=1) (cs:=[.bool s3.aj,.rs D2 0 x5.length 4,.rs k8 0 s3.ae.length 1]) (eS:=[.bool s3.aj,.rs D2 0 x5.length 4,.rs ia 0 x6.length 1]) (x:=.rs ia 0 x6.length 1) Cu rfl (by kernel_rfl)
   exact Kz [.a 0 e8] [.v 5 (show bl Try.prog h5 40 (.ptr ao 1)=some (.rs fj 0 s3.aa.length 4) from bX (q:=1) (cs:=[.bool s3.aj,.rs fj 0 s3.aa.length 4,.rs k8 0 s3.ae.length 1]) o9 rfl (by kernel_rfl)),.a 8 sX,.v 12 (show bl Try.prog h6 33 (.ptr ao 2)=some (.rs k8 0 s3.ae.length 1) from bX (q:=1) (cs:=[.bool s3.aj,.rs fj 0 s3.aa.length 4,.rs k8 0 s3.ae.length 1]) w7 rfl (by kernel_rfl)),.a 17 w6,.w 20 xN,.w 23 zY] [.mk (yA o9 (q:=2) rfl (q2:=1) rfl (by decide) sX)] <| q0 <| ⟨(i64.wrap (x2+(1:Int)),(ab.mk s3.aj x5 x6)),⟨D2,ia,h9,by kernel_rfl,vh⟩,H⟩
  ·refine qk <| qq <| qq <| q0 <| qb 2 ?_
   obtain⟨dt,IB,H⟩:=bj H
   refine ql (aA.sm L ao ak an s0 t0 x1 aI cu x2 v0   ((0:Int),v0.args,s1) _ _ ⟨(JA cu x2),eh,eO,h1,by kernel_rfl,o5⟩ IB) ?_
   rintro e s ⟨rfl,x8,n3,s5,rfl,g3,g4,g5,BX,yK,qB,h12,rfl,yN⟩
   try dsimp only at H
   obtain⟨h13,Gn,Cw⟩:=rR (E:=af) (l:=n3) (q:=0) yN rfl
   obtain⟨x9,IC,H⟩:=bj H
   obtain⟨sg,h14,Hh,Cv⟩:=iv (P:=Try.prog) (E:=ai) (l:=s5.aa) (q:=2) (t2:=40) (x:=.fz [.int .i64 v0.kind,.int .i64 v0.int,.str v0.label,af.fz n3] 1 true) (l2:=([(aq.mk v0.kind v0.int v0.label n3)])) xM Cw rfl (by kernel_rfl) rfl IC
   obtain⟨kz,Hi,H⟩:=bj H
   obtain⟨D4,h15,Hj,BY⟩:=iv (P:=Try.prog) (E:=af) (l:=s5.ae) (q:=3) (t2:=33) (x:=.fz [.int .i64 (i64.wrap ((s0.aa.length:Int)+x2))] 1 true) (l2:=([i64.wrap ((s0.aa.length:Int)+x2)])) gx Cv rfl (by kernel_rfl) rfl Hi
   obtain⟨h16,ID,KY⟩:=na (P:=Try.prog) (t:=40) (off:=1) (q:=1) (cs:=[.bool s5.aj,.rs yK 0 s5.aa.length 4,.rs qB 0 s5.ae.length 1]) (eS:=[.bool s5.aj,.rs sg 0 x9.length 4,.rs qB 0 s5.ae.length 1]) (x:=.rs sg 0 x9.length 4) BY rfl (by kernel_rfl)
   obtain⟨h17,Hk,Cz⟩:=na (P:=Try.prog) (t:=33) (off:=2) (q:=1) (cs:=[.bool s5.aj,.rs sg 0 x9.length 4,.rs qB 0 s5.ae.length 1]) (eS:=[.bool s5.aj,.rs sg 0 x9.length 4,.rs D4 0 kz.length 1]) (x:=.rs D4 0 kz.length 1) KY rfl (by kernel_rfl)
   exact Kz [.a 0 Gn] [.v 5 (show bl Try.prog h13 40 (.ptr ao 1)=some (.rs yK 0 s5.aa.length 4) from bX (q:=1) (cs:=[.bool s5.aj,.rs yK 0 s5.aa.length 4,.rs qB 0 s5.ae.length 1]) Cw rfl (by kernel_rfl)),.a 8 Hh,.v 12 (show bl Try.prog h14 33 (.ptr ao 2)=some (.rs qB 0 s5.ae.length 1) from bX (q:=1) (cs:=[.bool s5.aj,.rs yK 0 s5.aa.length 4,.rs qB 0 s5.ae.length 1]) Cv rfl (by kernel_rfl)),.a 17 Hj,.w 20 ID,.w 23 Hk] [.mk (yA Cw (q:=2) rfl (q2:=1) rfl (by decide) Hh)] <| q0 <| ⟨(i64.wrap (x2+(1:Int)),(ab.mk s5.aj x9 kz)),⟨sg,D4,h17,by kernel_rfl,Cz⟩,H⟩
 ·exact qx 0 <| ⟨rfl,x2,s1,oi H,.ptr ao 0,.rs aI 0 x1.1.nodes.length 4,.int .i64 (x1.1.nodes.length:Int),.int .i64 x2,.bool (decide (x2<(x1.1.nodes.length:Int))),eh,eO,h1,by kernel_rfl,o4⟩
theorem mq {aV:FuncId→bY}(ha:aV 36=sr)(yE:KH cf m)(OL:Qu cf m)(s0:ab)(t0:bu)(h:AHeap)(L:Mem)(ao:Nat)(ak:Nat)(an:Nat)  (o:Has h ((ao,.ob [.bool s0.aj,.rs ak 0 s0.aa.length 4,.rs an 0 s0.ae.length 1])::(ak,.sl s0.aa.length 4 (ai.l s0.aa))::(an,.sl s0.ae.length 1 (af.l s0.ae))::L)){out:Int × Int × ab}(H:aA.f m s0 t0=some out) :
  ∃r h',a6 Try.prog aV cf m 36 [.ptr ao 0,.agg [ai.fz t0.nodes,.int .i64 t0.root]] h=some (r,h')∧∃aB aC:Nat,r = .tup [.int .i64 out.1,.int .i64 out.2.1]∧Has h' ((ao,.ob [.bool out.2.2.aj,.rs aB 0 out.2.2.aa.length 4,.rs aC 0 out.2.2.ae.length 1])::(aB,.sl out.2.2.aa.length 4 (ai.l out.2.2.aa))::(aC,.sl out.2.2.ae.length 1 (af.l out.2.2.ae))::L):=by
 refine ar (fn:=Try.f36) ha Try.func36 (by kernel_rfl) (by kernel_rfl) ?_
 refine aH (Q:=fun s=>aA.fin L ao ak an s0 t0 out s) (fun _ _ ⟨h1,aB,aC,h2,h3⟩=>⟨h1,_,h2,aB,aC,rfl,h3⟩) ?_
 have H:_=some out:=H
 unfold aA.f at H
 show dn _ cf sr m _ ⟨.ptr ao 0 :: .agg [ai.fz t0.nodes,.int .i64 t0.root]::Nc [],[none,none,none],h⟩ _
 refine q1 <| qq <| qq ?_
 obtain⟨x0,e0,H⟩:=bj H
 refine qr [.a 1 (yE _ _ e0 h _ (fq (ah (cJ (q:=0) o rfl (ah (dR) (ah (cF (E:=ai) (l:=s0.aa) (q:=1) o rfl (fun _=>rfl)) (ah (cF (E:=af) (l:=s0.ae) (q:=2) o rfl (fun _=>rfl)) (ax))))) (ax))))] <| qc H (fun c0 H=>?_) (fun c0 H=>?_)
 ·obtain rfl:=oi H
  exact q1 <| qt <| ⟨.inl rfl,⟨ak,an,by kernel_rfl,he o⟩⟩
 ·refine qk <| qq ?_
  obtain⟨x1,e1,H⟩:=bj H
  obtain⟨aI,cu,h0,e2,o0,HD⟩:=OL _ _ e1 h _ _ o (fq (ah (iY (ah (fe (E:=ai)) (ah (br) (ax)))) (ax)))
  have o1:=Has.wV (pre:=[(aI,.sl x1.1.nodes.length 4 (fW.l (bE x1.1.nodes cu)))]) (N:=[(ao,.ob [.bool s0.aj,.rs ak 0 s0.aa.length 4,.rs an 0 s0.ae.length 1]),(ak,.sl s0.aa.length 4 (ai.l s0.aa)),(an,.sl s0.ae.length 1 (af.l s0.ae))]) (mid:=fQ x1.1.nodes cu) o0
  refine qr [.a 1 e2] <| qq <| qq <| q0 <| qc H (fun c1 H=>?_) (fun c1 H=>?_)
  ·refine q1 ?_
   have o2:Has h0 ((ao,.ob [.bool s0.aj,.rs ak 0 s0.aa.length 4,.rs an 0 s0.ae.length 1])::(ak,.sl s0.aa.length 4 (ai.l s0.aa))::(an,.sl s0.ae.length 1 (af.l s0.ae))::L):=Has.gone (pre:=[(ao,.ob [.bool s0.aj,.rs ak 0 s0.aa.length 4,.rs an 0 s0.ae.length 1]),(ak,.sl s0.aa.length 4 (ai.l s0.aa)),(an,.sl s0.ae.length 1 (af.l s0.ae))]) (Has.del o1 0)
   obtain rfl:=oi H
   exact qt <| ⟨.inl rfl,⟨ak,an,by kernel_rfl,he o2⟩⟩
  ·refine qk <| qq <| qr [.v 3 (show bl Try.prog h0 40 (.ptr ao 1)=some (.rs ak 0 s0.aa.length 4) from bX (q:=1) (cs:=[.bool s0.aj,.rs ak 0 s0.aa.length 4,.rs an 0 s0.ae.length 1]) o1 rfl (by kernel_rfl))] <| qq <| qq <| q0 <| qc H (fun c2 H=>?_) (fun c2 H=>?_)
   ·refine q1 ?_
    have o3:Has h0 ((ao,.ob [.bool s0.aj,.rs ak 0 s0.aa.length 4,.rs an 0 s0.ae.length 1])::(ak,.sl s0.aa.length 4 (ai.l s0.aa))::(an,.sl s0.ae.length 1 (af.l s0.ae))::L):=Has.gone (pre:=[(ao,.ob [.bool s0.aj,.rs ak 0 s0.aa.length 4,.rs an 0 s0.ae.length 1]),(ak,.sl s0.aa.length 4 (ai.l s0.aa)),(an,.sl s0.ae.length 1 (af.l s0.ae))]) (Has.del o1 0)
    obtain rfl:=oi H
    exact qt <| ⟨.inl rfl,⟨ak,an,by kernel_rfl,he o3⟩⟩
   ·refine qk <| qq <| qq <| q0 <| qb 0 ?_
    obtain⟨ml,JD,H⟩:=bj H
    refine ql (aA.dF L ao ak an s0 t0 x1 aI cu   ((0:Int),s0) _ _ ⟨ak,an,h0,by kernel_rfl,o1⟩ JD) ?_
    rintro e s ⟨rfl,zX,s6,rfl,g6,g7,g8,g9,g10,yL,yM,h18,rfl,Hl⟩
    try dsimp only at H
    refine q1 ?_
    have KZ:Has h18 ((ao,.ob [.bool s6.aj,.rs yL 0 s6.aa.length 4,.rs yM 0 s6.ae.length 1])::(yL,.sl s6.aa.length 4 (ai.l s6.aa))::(yM,.sl s6.ae.length 1 (af.l s6.ae))::L):=Has.gone (pre:=[(ao,.ob [.bool s6.aj,.rs yL 0 s6.aa.length 4,.rs yM 0 s6.ae.length 1]),(yL,.sl s6.aa.length 4 (ai.l s6.aa)),(yM,.sl s6.ae.length 1 (af.l s6.ae))]) (Has.del Hl 0)
    obtain rfl:=oi H
    exact qt <| ⟨.inl rfl,⟨yL,yM,by kernel_rfl,he KZ⟩⟩
end
end Go.Proofs.Ytifafejidnjckaa
namespace Go.Proofs.Ytifafejidnjckaa
open Go Go.R
open Go.IntKind (i64 u64 u8 u32)
def AH:bY:=gK [0,1,3,4,5,7,8,15,24,33,44,55,64,75] [3] [16378,16362,16330,16266,16367,16202,16367,16074,16367,15818,16367,15306,16367,14282,16367,12234,16367,8170,16367,16375] [] []
def eY.f (m:Nat)(s0:ab)(x0:aJ):Option (Int × ab):=if (x0.cK==(0:Int))=true then ((eo.f m s0).bind fun x1=>some (x1.2.1,x1.2.2)) else (if (x0.cK==(1:Int))=true then ((er.f m s0 x0.po).bind fun x2=>some (x2.2.1,x2.2.2)) else (if (x0.cK==(2:Int))=true then ((dW.f m s0 x0.di).bind fun x3=>some (x3.2.1,x3.2.2)) else (if (x0.cK==(3:Int))=true then ((dL.f m s0 x0.di x0.ec).bind fun x4=>some (x4.2.1,x4.2.2)) else (if (x0.cK==(4:Int))=true then ((dV.f m s0 x0.di x0.po).bind fun x5=>some (x5.2.1,x5.2.2)) else (if (x0.cK==(5:Int))=true then ((aA.f m s0 x0.nA).bind fun x6=>some (x6.2.1,x6.2.2)) else (if (x0.cK==(6:Int))=true then ((da.f m s0 x0.po x0.u9).bind fun x7=>some (x7.2.1,x7.2.2)) else (if (x0.cK==(7:Int))=true then ((du.f m s0 x0.po x0.u9).bind fun x8=>some (x8.2.2.1,x8.2.2.2)) else (some ((0:Int),s0)))))))))
def eY.fin (L:Mem)(ao:Nat)(ak:Nat)(an:Nat)(s0:ab)(x0:aJ)(r:Int × ab)(s:St):Prop:=∃aB aC:Nat,aM Try.prog (s.open AH) Try.f17.results.toList=some (.int .i64 r.1)∧Has s.h ((ao,.ob [.bool r.2.aj,.rs aB 0 r.2.aa.length 4,.rs aC 0 r.2.ae.length 1])::(aB,.sl r.2.aa.length 4 (ai.l r.2.aa))::(aC,.sl r.2.ae.length 1 (af.l r.2.ae))::L)
def L7 (cf:CallF)(m:Nat):Prop:=∀(s0:ab) (x0:aJ) (r:Int × ab),eY.f m s0 x0=some r→∀h L (ao:Nat) (ak:Nat) (an:Nat),Has h ((ao,.ob [.bool s0.aj,.rs ak 0 s0.aa.length 4,.rs an 0 s0.ae.length 1])::(ak,.sl s0.aa.length 4 (ai.l s0.aa))::(an,.sl s0.ae.length 1 (af.l s0.ae))::L)→∀xs,xs.map aL=[.ptr ao 0,.agg [.int .i64 x0.cK,.int .i64 x0.po,.int .i64 x0.u9,.str x0.di,af.fz x0.ec,ai.fz x0.nA.nodes,.int .i64 x0.nA.root]]→∃aB aC h',cf 17 xs h=some (.int .i64 r.1,h')∧Has h' ((ao,.ob [.bool r.2.aj,.rs aB 0 r.2.aa.length 4,.rs aC 0 r.2.ae.length 1])::(aB,.sl r.2.aa.length 4 (ai.l r.2.aa))::(aC,.sl r.2.ae.length 1 (af.l r.2.ae))::L)
section
variable {cf:CallF}{m:Nat}
theorem s9 {aV:FuncId→bY}(ha:aV 17=AH)(OM:Qg cf m)(ON:Qh cf m)(OO:PY cf m)(OP:Qn cf m)(OQ:PZ cf m)(OR:Qi cf m)(OS:Qc cf m)(OT:Qv cf m)(s0:ab)(x0:aJ)(h:AHeap)(L:Mem)(ao:Nat)(ak:Nat)(an:Nat)  (o:Has h ((ao,.ob [.bool s0.aj,.rs ak 0 s0.aa.length 4,.rs an 0 s0.ae.length 1])::(ak,.sl s0.aa.length 4 (ai.l s0.aa))::(an,.sl s0.ae.length 1 (af.l s0.ae))::L)){out:Int × ab}(H:eY.f m s0 x0=some out) :
  ∃r h',a6 Try.prog aV cf m 17 [.ptr ao 0,.agg [.int .i64 x0.cK,.int .i64 x0.po,.int .i64 x0.u9,.str x0.di,af.fz x0.ec,ai.fz x0.nA.nodes,.int .i64 x0.nA.root]] h=some (r,h')∧∃aB aC:Nat,r = .int .i64 out.1∧Has h' ((ao,.ob [.bool out.2.aj,.rs aB 0 out.2.aa.length 4,.rs aC 0 out.2.ae.length 1])::(aB,.sl out.2.aa.length 4 (ai.l out.2.aa))::(aC,.sl out.2.ae.length 1 (af.l out.2.ae))::L):=by
 refine ar (fn:=Try.f17) ha Try.func17 (by kernel_rfl) (by kernel_rfl) ?_
 refine aH (Q:=fun s=>eY.fin L ao ak an s0 x0 out s) (fun _ _ ⟨h1,aB,aC,h2,h3⟩=>⟨h1,_,h2,aB,aC,rfl,h3⟩) ?_
 have H:_=some out:=H
 unfold eY.f at H
 show dn _ cf AH m _ ⟨.ptr ao 0 :: .agg [.int .i64 x0.cK,.int .i64 x0.po,.int .i64 x0.u9,.str x0.di,af.fz x0.ec,ai.fz x0.nA.nodes,.int .i64 x0.nA.root]::uV [],[none],h⟩ _
 refine q1 <| qq <| q0 <| qq <| qq <| q0 <| qb 0 <| qq <| q0 <| qc H (fun c0 H=>?_) (fun c0 H=>?_)
 ·obtain⟨x1,e0,H⟩:=bj H
  obtain⟨aI,eh,h0,e1,o0⟩:=OO _ _ e0 h _ _ _ _ (o)  [.ptr ao 0] (au (rfl) (bG))
  obtain rfl:=oi H
  exact qr [.a 1 e1] <| qq <| q0 <| qt <| ⟨.inl rfl,⟨aI,eh,by kernel_rfl,he o0⟩⟩
 ·refine q1 <| qc H (fun c1 H=>?_) (fun c1 H=>?_)
  ·obtain⟨x2,e2,H⟩:=bj H
   obtain⟨eO,dG,h1,e3,o1⟩:=OQ _ _ _ e2 h _ _ _ _ (o)  [.ptr ao 0,.int .i64 x0.po] (au (rfl) (au (aN (bg)) (bG)))
   obtain rfl:=oi H
   exact qr [.a 3 e3] <| qq <| q0 <| qt <| ⟨.inl rfl,⟨eO,dG,by kernel_rfl,he o1⟩⟩
  ·refine q1 <| qc H (fun c2 H=>?_) (fun c2 H=>?_)
   ·obtain⟨x3,e4,H⟩:=bj H
    obtain⟨eH,fE,h2,e5,o2⟩:=OP _ _ _ e4 h _ _ _ _ (o)  [.ptr ao 0,.str x0.di] (au (rfl) (au (aN (j6)) (bG)))
    obtain rfl:=oi H
    exact qr [.a 3 e5] <| qq <| q0 <| qt <| ⟨.inl rfl,⟨eH,fE,by kernel_rfl,he o2⟩⟩
   ·refine q1 <| qc H (fun c3 H=>?_) (fun c3 H=>?_)
    ·obtain⟨x4,e6,H⟩:=bj H
     obtain⟨fB,fj,h3,e7,o3⟩:=OR _ _ _ _ e6 h _ _ _ _ (o)  [.ptr ao 0,.str x0.di,af.fz x0.ec] (au (rfl) (au (aN (j6)) (au (aN (lZ (E:=af))) (bG))))
     obtain rfl:=oi H
     exact qr [.a 5 e7] <| qq <| q0 <| qt <| ⟨.inl rfl,⟨fB,fj,by kernel_rfl,he o3⟩⟩
    ·refine q1 <| qc H (fun c4 H=>?_) (fun c4 H=>?_)
     ·obtain⟨x5,e8,H⟩:=bj H
      obtain⟨k8,D2,h4,e9,o4⟩:=OS _ _ _ _ e8 h _ _ _ _ (o)  [.ptr ao 0,.str x0.di,.int .i64 x0.po] (au (rfl) (au (aN (j6)) (au (aN (bg)) (bG))))
      obtain rfl:=oi H
      exact qr [.a 5 e9] <| qq <| q0 <| qt <| ⟨.inl rfl,⟨k8,D2,by kernel_rfl,he o4⟩⟩
     ·refine q1 <| qc H (fun c5 H=>?_) (fun c5 H=>?_)
      ·obtain⟨x6,sX,H⟩:=bj H
       obtain⟨ia,jf,h5,vc,o5⟩:=OT _ _ _ sX h _ _ _ _ (o)  [.ptr ao 0,.agg [ai.fz x0.nA.nodes,.int .i64 x0.nA.root]] (au (rfl) (au (aN (l8 (bP (lZ (E:=ai)) (bP (bg) (l7))))) (bG)))
       obtain rfl:=oi H
       exact qr [.a 3 vc] <| qq <| q0 <| qt <| ⟨.inl rfl,⟨ia,jf,by kernel_rfl,he o5⟩⟩
      ·refine q1 <| qc H (fun c6 H=>?_) (fun c6 H=>?_)
       ·obtain⟨x7,w6,H⟩:=bj H
        obtain⟨k9,mi,BX,h6,xN,o6⟩:=OM _ _ _ _ w6 h _ _ _ _ (o)  [.ptr ao 0,.int .i64 x0.po,.int .i64 x0.u9] (au (rfl) (au (aN (bg)) (au (aN (bg)) (bG))))
        refine qr [.a 5 xN] ?_
        have o7:Has h6 ((ao,.ob [.bool x7.2.2.aj,.rs mi 0 x7.2.2.aa.length 4,.rs BX 0 x7.2.2.ae.length 1])::(mi,.sl x7.2.2.aa.length 4 (ai.l x7.2.2.aa))::(BX,.sl x7.2.2.ae.length 1 (af.l x7.2.2.ae))::L):=Has.del o6 0
        obtain rfl:=oi H
        exact q1 <| qt <| ⟨.inl rfl,⟨mi,BX,by kernel_rfl,he o7⟩⟩
       ·refine q1 <| qc H (fun c7 H=>?_) (fun c7 H=>?_)
        ·obtain⟨x8,zY,H⟩:=bj H
         obtain⟨yK,qB,sg,h7,yJ,o8⟩:=ON _ _ _ _ zY h _ _ _ _ (o)  [.ptr ao 0,.int .i64 x0.po,.int .i64 x0.u9] (au (rfl) (au (aN (bg)) (au (aN (bg)) (bG))))
         refine qr [.a 5 yJ] ?_
         have o9:Has h7 ((ao,.ob [.bool x8.2.2.2.aj,.rs qB 0 x8.2.2.2.aa.length 4,.rs sg 0 x8.2.2.2.ae.length 1])::(qB,.sl x8.2.2.2.aa.length 4 (ai.l x8.2.2.2.aa))::(sg,.sl x8.2.2.2.ae.length 1 (af.l x8.2.2.2.ae))::L):=Has.del o8 0
         obtain rfl:=oi H
         exact q1 <| qt <| ⟨.inl rfl,⟨qB,sg,by kernel_rfl,he o9⟩⟩
        ·obtain rfl:=oi H
         exact qk <| qq <| q0 <| qt <| ⟨.inl rfl,⟨ak,an,by kernel_rfl,he o⟩⟩
end
end Go.Proofs.Ytifafejidnjckaa
namespace Go.Proofs.Ytifafejidnjckaa
open Go Go.R
open Go.IntKind (i64 u64 u8 u32)
def xf:bY:=gK [0,2,3,4,9] [] [30,26,18,2,18,18,29] [] []
def bS.l0 (m:Nat)(l0:List aJ):Nat→Int→ab→Option (Int × ab)
 | 0,_,_=>none
 | k+1,i0,oR=>if (decide (i0<(l0.length:Int)))=true then ((ix l0 i0).bind fun v0=>(eY.f m oR v0).bind fun x1=>bS.l0 m l0 k (i64.wrap (i0+(1:Int))) x1.2) else (some ((i0,oR)))
def bS.f (m:Nat)(l0:List aJ):Option (ab):=(iL.f m ).bind fun x0=>(bS.l0 m l0 m (0:Int) x0).bind fun b6=>match b6 with | (i1,vC)=>some vC
def bS.fin (L:Mem)(l0:List aJ)(r:ab)(s:St):Prop:=∃eT fY fZ:Nat,aM Try.prog (s.open xf) Try.f12.results.toList=some (.ptr eT 0)∧Has s.h ((eT,.ob [.bool r.aj,.rs fY 0 r.aa.length 4,.rs fZ 0 r.ae.length 1])::(fY,.sl r.aa.length 4 (ai.l r.aa))::(fZ,.sl r.ae.length 1 (af.l r.ae))::L)
def Qw (cf:CallF)(m:Nat):Prop:=∀(l0:List aJ) (r:ab),bS.f m l0=some r→∀h L,Has h (L)→∀xs,xs.map aL=[aQ.fz l0]→∃eT fY fZ h',cf 12 xs h=some (.ptr eT 0,h')∧Has h' ((eT,.ob [.bool r.aj,.rs fY 0 r.aa.length 4,.rs fZ 0 r.ae.length 1])::(fY,.sl r.aa.length 4 (ai.l r.aa))::(fZ,.sl r.ae.length 1 (af.l r.ae))::L)
section
variable {cf:CallF}{m:Nat}
theorem bS.dF (L:Mem)(l0:List aJ)(aI:Nat)  (Ed:L7 cf m):dZ Try.prog cf xf m (sub [1,1,0,1,0,0] (b8 Try.f12)) (fun k (σ:Int × ab)=>bS.l0 m l0 k σ.1 σ.2) (fun σ s=>match σ with | (i0,oR)=>∃dG eH h1,s=⟨[aQ.fz l0,.any,.ptr aI 0,.int .i64 i0,.any],[],h1⟩∧Has h1 ((aI,.ob [.bool oR.aj,.rs dG 0 oR.aa.length 4,.rs eH 0 oR.ae.length 1])::(dG,.sl oR.aa.length 4 (ai.l oR.aa))::(eH,.sl oR.ae.length 1 (af.l oR.ae))::L)) (fun out e s=>(e = .exit 0∧∃i0 oR,(i0,oR)=out∧∃ow IJ BT dG eH h1,s=⟨[ow,.any,.ptr aI 0,IJ,BT],[],h1⟩∧Has h1 ((aI,.ob [.bool oR.aj,.rs dG 0 oR.aa.length 4,.rs eH 0 oR.ae.length 1])::(dG,.sl oR.aa.length 4 (ai.l oR.aa))::(eH,.sl oR.ae.length 1 (af.l oR.ae))::L))):=by
 refine mI (fun _=>rfl) ?_
 rintro k ⟨i0,oR⟩ s out ⟨dG,eH,h1,rfl,o1⟩ H
 have H:bS.l0 m l0 (k+1) i0 oR=some out:=H
 refine qq <| qq <| q0 <| qc H (fun c0 H=>?_) (fun c0 H=>?_)
 ·refine qk <| qq <| qb 1 ?_
  obtain⟨v0,e2,H⟩:=bj H
  obtain⟨x1,e3,H⟩:=bj H
  obtain⟨fE,fB,h2,e4,o2⟩:=Ed _ _ _ e3 h1 _ _ _ _ (o1)  [.ptr aI 0,.agg [.int .i64 v0.cK,.int .i64 v0.po,.int .i64 v0.u9,.str v0.di,af.fz v0.ec,ai.fz v0.nA.nodes,.int .i64 v0.nA.root]] (au (rfl) (au (aN (l8 (bP (bg) (bP (bg) (bP (bg) (bP (j6) (bP (lZ (E:=af)) (bP (lZ (E:=ai)) (bP (bg) (l7)))))))))) (bG)))
  exact qr [.v 3 (fV (k:=.i64) (E:=aQ) (l:=l0) LQ e2),.v 4 (lX  (E:=aQ) (l:=l0) h1 R8 Sa e2),.a 5 e4] <| q0 <| ⟨(i64.wrap (i0+(1:Int)),x1.2),⟨fE,fB,h2,by kernel_rfl,o2⟩,H⟩
 ·exact qx 0 <| ⟨rfl,i0,oR,oi H,aQ.fz l0,.int .i64 i0,.bool (decide (i0<(l0.length:Int))),dG,eH,h1,by kernel_rfl,o1⟩
theorem qJ {aV:FuncId→bY}(ha:aV 12=xf)(Ed:L7 cf m)(OU:PO cf m)(l0:List aJ)(h:AHeap)(L:Mem)  (o:Has h (L)){out:ab}(H:bS.f m l0=some out) :
  ∃r h',a6 Try.prog aV cf m 12 [aQ.fz l0] h=some (r,h')∧∃eT fY fZ:Nat,r = .ptr eT 0∧Has h' ((eT,.ob [.bool out.aj,.rs fY 0 out.aa.length 4,.rs fZ 0 out.ae.length 1])::(fY,.sl out.aa.length 4 (ai.l out.aa))::(fZ,.sl out.ae.length 1 (af.l out.ae))::L):=by
 refine ar (fn:=Try.f12) ha Try.func12 (by kernel_rfl) (by kernel_rfl) ?_
 refine aH (Q:=fun s=>bS.fin L l0 out s) (fun _ _ ⟨h1,eT,fY,fZ,h2,h3⟩=>⟨h1,_,h2,eT,fY,fZ,rfl,h3⟩) ?_
 have H:_=some out:=H
 unfold bS.f at H
 show dn _ cf xf m _ ⟨aQ.fz l0::nw [],[],h⟩ _
 refine q1 <| qq ?_
 obtain⟨x0,e0,H⟩:=bj H
 obtain⟨aI,eh,eO,h0,e1,o0⟩:=OU _ e0 h _  (o)  [] (bG)
 refine qr [.a 0 e1] <| qq <| qq <| q0 <| qb 0 ?_
 obtain⟨b6,e5,H⟩:=bj H
 refine ql (bS.dF L l0 aI  Ed ((0:Int),x0) _ _ ⟨eh,eO,h0,by kernel_rfl,o0⟩ e5) ?_
 rintro e s ⟨rfl,i1,vC,rfl,g0,g1,g2,fj,k8,h3,rfl,o3⟩
 try dsimp only at H
 obtain rfl:=oi H
 exact q1 <| qt <| ⟨.inl rfl,⟨aI,fj,k8,by kernel_rfl,he o3⟩⟩
end
end Go.Proofs.Ytifafejidnjckaa
namespace Go.Proofs.Ytifafejidnjckaa
open Go Go.R
open Go.IntKind (i64 u64 u8 u32)
end Go.Proofs.Ytifafejidnjckaa
namespace Go.Proofs.Ytifafejidnjckaa
open Go Go.R
open Go.IntKind (i64 u64 u8 u32)
end Go.Proofs.Ytifafejidnjckaa
namespace Go.Proofs.Ytifafejidnjckaa
open Go Go.R
open Go.IntKind (i64 u64 u8 u32)
def Gp:bY:=gK [0,1,3,4,5,6,7,14,29] [3] [506,378,503,459,395,207,503,503] [] []
def dM.f (m:Nat)(l0:List aJ)(x0:aJ):Option (Bool):=(bp.f m l0).bind fun x1=>if x1=true then ((cz.f m).bind fun x2=>some x2) else ((bp.f m ([x0])).bind fun x3=>if x3=true then ((cz.f m).bind fun x4=>some x4) else ((bS.f m l0).bind fun x5=>(bS.f m l0).bind fun x6=>(eY.f m x5 x0).bind fun x7=>jn (fun (σ:Bool)=>match σ with | x9=>(bB.f m x7.2).bind fun kz=>(bB.f m x6).bind fun zX=>if (kz==zX)=true then ((bK.f m x7.2).bind fun DR=>(bK.f m x6).bind fun sc=>(bU.f m DR sc).bind fun L8=>if L8=true then ((cz.f m).bind fun Lb=>some Lb) else (some false)) else (some false)) fun sW=>(if (x7.1==(0:Int))=true then (if (!(x0.cK==(7:Int)))=true then ((cz.f m).bind fun x8=>some x8) else (sW (!(x0.cK==(7:Int))))) else (sW false))))
def dM.fin (L:Mem)(r:Bool)(s:St):Prop:=∃av,aM Try.prog (s.open Gp) Try.f5.results.toList=some av∧ff s.h av (.bool r)
def S5 (cf:CallF)(m:Nat):Prop:=∀(l0:List aJ) (x0:aJ) (r:Bool),dM.f m l0 x0=some r→∀h xs,aO bO h xs [aQ.fz l0,.agg [.int .i64 x0.cK,.int .i64 x0.po,.int .i64 x0.u9,.str x0.di,af.fz x0.ec,ai.fz x0.nA.nodes,.int .i64 x0.nA.root]]→cf 5 xs h=some (.bool r,h)
section
variable {cf:CallF}{m:Nat}
theorem lg {aV:FuncId→bY}(ha:aV 5=Gp)(IZ:PM cf m)(Gq:PJ cf m)(Lc:Qw cf m)(Ld:PN cf m)(Gr:Qm cf m)(Ed:L7 cf m)(s8:LU cf m)(l0:List aJ)(x0:aJ)(h:AHeap)(L:Mem)  (o:Has h (L)){out:Bool}(H:dM.f m l0 x0=some out) :
  ∃r h',a6 Try.prog aV cf m 5 [aQ.fz l0,.agg [.int .i64 x0.cK,.int .i64 x0.po,.int .i64 x0.u9,.str x0.di,af.fz x0.ec,ai.fz x0.nA.nodes,.int .i64 x0.nA.root]] h=some (r,h')∧ff h' r (.bool out):=by
 refine ar (fn:=Try.f5) ha Try.func5 (by kernel_rfl) (by kernel_rfl) ?_
 refine aH (Q:=fun s=>dM.fin L out s) (fun _ _ h=>h) ?_
 have H:_=some out:=H
 unfold dM.f at H
 show dn _ cf Gp m _ ⟨aQ.fz l0 :: .agg [.int .i64 x0.cK,.int .i64 x0.po,.int .i64 x0.u9,.str x0.di,af.fz x0.ec,ai.fz x0.nA.nodes,.int .i64 x0.nA.root]::FY [],[none],h⟩ _
 refine q1 <| qq <| qq ?_
 obtain⟨x1,e0,H⟩:=bj H
 rcases iw H with⟨c0,H⟩| ⟨c0,H⟩
 ·refine qr [.a 1 (IZ _ _ e0 h _ (fq (ah (fe (E:=aQ)) (ax)))),.b 2 c0] <| Ku <| qq ?_
  obtain⟨x2,e1,H⟩:=bj H
  obtain rfl:=oi H
  exact qr [.a 0 (Gq _ e1 h _ (fq (ax)))] <| qt <| ⟨.inl rfl,dA (.bool x2) h (dz (aD))⟩
 ·obtain⟨x3,e2,H⟩:=bj H
  refine qr [.a 1 (IZ _ _ e0 h _ (fq (ah (fe (E:=aQ)) (ax)))),.b 2 c0,.a 5 (IZ _ _ e2 h _ (fq (ah (ph (E:=aQ) (l:=[x0]) (cs:=[.int .i64 x0.cK,.int .i64 x0.po,.int .i64 x0.u9,.str x0.di,af.fz x0.ec,ai.fz x0.nA.nodes,.int .i64 x0.nA.root]) (b:=true) (pure_cons (dp) (pure_cons (dp) (pure_cons (dp) (pure_cons (jB) (pure_cons (bJ.bw (E:=af) (l:=x0.ec)) (pure_cons (bJ.bw (E:=ai) (l:=x0.nA.nodes)) (pure_cons (dp) (pure_nil)))))))).1 (pure_cons (dp) (pure_cons (dp) (pure_cons (dp) (pure_cons (jB) (pure_cons (bJ.bw (E:=af) (l:=x0.ec)) (pure_cons (bJ.bw (E:=ai) (l:=x0.nA.nodes)) (pure_cons (dp) (pure_nil)))))))).2 rfl) (ax))))] <| qc H (fun c2 H=>?_) (fun c2 H=>?_)
  ·refine qq ?_
   obtain⟨x4,e3,H⟩:=bj H
   obtain rfl:=oi H
   exact qr [.a 0 (Gq _ e3 h _ (fq (ax)))] <| qt <| ⟨.inl rfl,dA (.bool x4) h (dz (aD))⟩
  ·refine qk <| qq ?_
   obtain⟨x5,e4,H⟩:=bj H
   obtain⟨aI,eh,eO,h0,e5,o0⟩:=Lc _ _ e4 h _  (o)  [aQ.fz l0] (au (aN (lZ (E:=aQ))) (bG))
   obtain⟨x6,e6,H⟩:=bj H
   obtain⟨dG,eH,fE,h1,e7,o1⟩:=Lc _ _ e6 h0 _  (o0)  [aQ.fz l0] (au (aN (lZ (E:=aQ))) (bG))
   refine qr [.a 1 e5,.a 3 e7] <| qq ?_
   obtain⟨x7,e8,H⟩:=bj H
   obtain⟨fB,fj,h2,e9,o2⟩:=Ed _ _ _ e8 h1 _ _ _ _ ((Has.front (Has.front (Has.front (Has.front (Has.front (Has.front o1 2 rfl) 2 rfl) 2 rfl) 5 rfl) 5 rfl) 5 rfl))  [.ptr aI 0,.agg [.int .i64 x0.cK,.int .i64 x0.po,.int .i64 x0.u9,.str x0.di,af.fz x0.ec,ai.fz x0.nA.nodes,.int .i64 x0.nA.root]] (au (rfl) (au (aN (l8 (bP (bg) (bP (bg) (bP (bg) (bP (j6) (bP (lZ (E:=af)) (bP (lZ (E:=ai)) (bP (bg) (l7)))))))))) (bG)))
   refine qr [.a 2 e9] ?_
   obtain⟨sW,DQ,H⟩:=mH H
   refine qj (S:=fun (σ:Bool) s=>match σ with | x9=>∃(h3:AHeap),s=⟨nw [.ptr aI 0,.ptr dG 0,.any,.any,.bool x9],[none],h3⟩∧Has h3 ((aI,.ob [.bool x7.2.aj,.rs fB 0 x7.2.aa.length 4,.rs fj 0 x7.2.ae.length 1])::(fB,.sl x7.2.aa.length 4 (ai.l x7.2.aa))::(fj,.sl x7.2.ae.length 1 (af.l x7.2.ae))::(dG,.ob [.bool x6.aj,.rs eH 0 x6.aa.length 4,.rs fE 0 x6.ae.length 1])::(eH,.sl x6.aa.length 4 (ai.l x6.aa))::(fE,.sl x6.ae.length 1 (af.l x6.ae))::L)) sW H ?_ ?_
   ·rintro x9 s ⟨h3,rfl,o9⟩ H
    have H:=(DQ _).symm.trans H
    try dsimp only at H
    refine qq ?_
    obtain⟨kz,vc,H⟩:=bj H
    obtain⟨zX,w6,H⟩:=bj H
    rcases iw H with⟨c6,H⟩| ⟨c6,H⟩
    ·obtain⟨DR,xN,H⟩:=bj H
     obtain⟨sc,zY,H⟩:=bj H
     obtain⟨L8,yJ,H⟩:=bj H
     rcases iw H with⟨c7,H⟩| ⟨c7,H⟩
     ·obtain⟨Lb,D3,H⟩:=bj H
      refine qr [.a 1 (s8 _ _ vc h3 _ (fq (ah (cJ (q:=0) o9 rfl (ah (dR) (ah (cF (E:=ai) (l:=x7.2.aa) (q:=1) o9 rfl (fun _=>rfl)) (ah (cF (E:=af) (l:=x7.2.ae) (q:=2) o9 rfl (fun _=>rfl)) (ax))))) (ax)))),.a 3 (s8 _ _ w6 h3 _ (fq (ah (cJ (q:=3) o9 rfl (ah (dR) (ah (cF (E:=ai) (l:=x6.aa) (q:=4) o9 rfl (fun _=>rfl)) (ah (cF (E:=af) (l:=x6.ae) (q:=5) o9 rfl (fun _=>rfl)) (ax))))) (ax)))),.b 5 c6,.a 7 (Gr _ _ xN h3 _ (fq (ah (cJ (q:=0) o9 rfl (ah (dR) (ah (cF (E:=ai) (l:=x7.2.aa) (q:=1) o9 rfl (fun _=>rfl)) (ah (cF (E:=af) (l:=x7.2.ae) (q:=2) o9 rfl (fun _=>rfl)) (ax))))) (ax)))),.a 9 (Gr _ _ zY h3 _ (fq (ah (cJ (q:=3) o9 rfl (ah (dR) (ah (cF (E:=ai) (l:=x6.aa) (q:=4) o9 rfl (fun _=>rfl)) (ah (cF (E:=af) (l:=x6.ae) (q:=5) o9 rfl (fun _=>rfl)) (ax))))) (ax)))),.a 10 (Ld _ _ _ yJ h3 _ (fq (ah (fe (E:=af)) (ah (fe (E:=af)) (ax))))),.b 12 c7,.a 13 (Gq _ D3 h3 _ (fq (ax)))] ?_
      have w7:Has h3 ((aI,.ob [.bool x7.2.aj,.rs fB 0 x7.2.aa.length 4,.rs fj 0 x7.2.ae.length 1])::(fB,.sl x7.2.aa.length 4 (ai.l x7.2.aa))::(fj,.sl x7.2.ae.length 1 (af.l x7.2.ae))::(dG,.ob [.bool x6.aj,.rs eH 0 x6.aa.length 4,.rs fE 0 x6.ae.length 1])::(eH,.sl x6.aa.length 4 (ai.l x6.aa))::L):=Has.del o9 5
      have Cs:Has h3 ((aI,.ob [.bool x7.2.aj,.rs fB 0 x7.2.aa.length 4,.rs fj 0 x7.2.ae.length 1])::(fB,.sl x7.2.aa.length 4 (ai.l x7.2.aa))::(fj,.sl x7.2.ae.length 1 (af.l x7.2.ae))::(dG,.ob [.bool x6.aj,.rs eH 0 x6.aa.length 4,.rs fE 0 x6.ae.length 1])::L):=Has.del w7 4
      have Cu:Has h3 ((aI,.ob [.bool x7.2.aj,.rs fB 0 x7.2.aa.length 4,.rs fj 0 x7.2.ae.length 1])::(fB,.sl x7.2.aa.length 4 (ai.l x7.2.aa))::(fj,.sl x7.2.ae.length 1 (af.l x7.2.ae))::L):=Has.del Cs 3
      have vh:Has h3 ((aI,.ob [.bool x7.2.aj,.rs fB 0 x7.2.aa.length 4,.rs fj 0 x7.2.ae.length 1])::(fB,.sl x7.2.aa.length 4 (ai.l x7.2.aa))::L):=Has.del Cu 2
      have vi:Has h3 ((aI,.ob [.bool x7.2.aj,.rs fB 0 x7.2.aa.length 4,.rs fj 0 x7.2.ae.length 1])::L):=Has.del vh 1
      have Fl:Has h3 (L):=Has.del vi 0
      obtain rfl:=oi H
      exact qt <| ⟨.inl rfl,dA (.bool Lb) h3 (dz (aD))⟩
     ·refine qr [.a 1 (s8 _ _ vc h3 _ (fq (ah (cJ (q:=0) o9 rfl (ah (dR) (ah (cF (E:=ai) (l:=x7.2.aa) (q:=1) o9 rfl (fun _=>rfl)) (ah (cF (E:=af) (l:=x7.2.ae) (q:=2) o9 rfl (fun _=>rfl)) (ax))))) (ax)))),.a 3 (s8 _ _ w6 h3 _ (fq (ah (cJ (q:=3) o9 rfl (ah (dR) (ah (cF (E:=ai) (l:=x6.aa) (q:=4) o9 rfl (fun _=>rfl)) (ah (cF (E:=af) (l:=x6.ae) (q:=5) o9 rfl (fun _=>rfl)) (ax))))) (ax)))),.b 5 c6,.a 7 (Gr _ _ xN h3 _ (fq (ah (cJ (q:=0) o9 rfl (ah (dR) (ah (cF (E:=ai) (l:=x7.2.aa) (q:=1) o9 rfl (fun _=>rfl)) (ah (cF (E:=af) (l:=x7.2.ae) (q:=2) o9 rfl (fun _=>rfl)) (ax))))) (ax)))),.a 9 (Gr _ _ zY h3 _ (fq (ah (cJ (q:=3) o9 rfl (ah (dR) (ah (cF (E:=ai) (l:=x6.aa) (q:=4) o9 rfl (fun _=>rfl)) (ah (cF (E:=af) (l:=x6.ae) (q:=5) o9 rfl (fun _=>rfl)) (ax))))) (ax)))),.a 10 (Ld _ _ _ yJ h3 _ (fq (ah (fe (E:=af)) (ah (fe (E:=af)) (ax))))),.b 12 c7] ?_
      have yN:Has h3 ((aI,.ob [.bool x7.2.aj,.rs fB 0 x7.2.aa.length 4,.rs fj 0 x7.2.ae.length 1])::(fB,.sl x7.2.aa.length 4 (ai.l x7.2.aa))::(fj,.sl x7.2.ae.length 1 (af.l x7.2.ae))::(dG,.ob [.bool x6.aj,.rs eH 0 x6.aa.length 4,.rs fE 0 x6.ae.length 1])::(eH,.sl x6.aa.length 4 (ai.l x6.aa))::L):=Has.del o9 5
      have Cw:Has h3 ((aI,.ob [.bool x7.2.aj,.rs fB 0 x7.2.aa.length 4,.rs fj 0 x7.2.ae.length 1])::(fB,.sl x7.2.aa.length 4 (ai.l x7.2.aa))::(fj,.sl x7.2.ae.length 1 (af.l x7.2.ae))::(dG,.ob [.bool x6.aj,.rs eH 0 x6.aa.length 4,.rs fE 0 x6.ae.length 1])::L):=Has.del yN 4
      have Cv:Has h3 ((aI,.ob [.bool x7.2.aj,.rs fB 0 x7.2.aa.length 4,.rs fj 0 x7.2.ae.length 1])::(fB,.sl x7.2.aa.length 4 (ai.l x7.2.aa))::(fj,.sl x7.2.ae.length 1 (af.l x7.2.ae))::L):=Has.del Cw 3
      have BY:Has h3 ((aI,.ob [.bool x7.2.aj,.rs fB 0 x7.2.aa.length 4,.rs fj 0 x7.2.ae.length 1])::(fB,.sl x7.2.aa.length 4 (ai.l x7.2.aa))::L):=Has.del Cv 2
      have KY:Has h3 ((aI,.ob [.bool x7.2.aj,.rs fB 0 x7.2.aa.length 4,.rs fj 0 x7.2.ae.length 1])::L):=Has.del BY 1
      have Cz:Has h3 (L):=Has.del KY 0
      obtain rfl:=oi H
      exact qt <| ⟨.inl rfl,dA (.bool false) h3 (dz (aD))⟩
    ·refine qr [.a 1 (s8 _ _ vc h3 _ (fq (ah (cJ (q:=0) o9 rfl (ah (dR) (ah (cF (E:=ai) (l:=x7.2.aa) (q:=1) o9 rfl (fun _=>rfl)) (ah (cF (E:=af) (l:=x7.2.ae) (q:=2) o9 rfl (fun _=>rfl)) (ax))))) (ax)))),.a 3 (s8 _ _ w6 h3 _ (fq (ah (cJ (q:=3) o9 rfl (ah (dR) (ah (cF (E:=ai) (l:=x6.aa) (q:=4) o9 rfl (fun _=>rfl)) (ah (cF (E:=af) (l:=x6.ae) (q:=5) o9 rfl (fun _=>rfl)) (ax))))) (ax)))),.b 5 c6] ?_
     have Hl:Has h3 ((aI,.ob [.bool x7.2.aj,.rs fB 0 x7.2.aa.length 4,.rs fj 0 x7.2.ae.length 1])::(fB,.sl x7.2.aa.length 4 (ai.l x7.2.aa))::(fj,.sl x7.2.ae.length 1 (af.l x7.2.ae))::(dG,.ob [.bool x6.aj,.rs eH 0 x6.aa.length 4,.rs fE 0 x6.ae.length 1])::(eH,.sl x6.aa.length 4 (ai.l x6.aa))::L):=Has.del o9 5
     have KZ:Has h3 ((aI,.ob [.bool x7.2.aj,.rs fB 0 x7.2.aa.length 4,.rs fj 0 x7.2.ae.length 1])::(fB,.sl x7.2.aa.length 4 (ai.l x7.2.aa))::(fj,.sl x7.2.ae.length 1 (af.l x7.2.ae))::(dG,.ob [.bool x6.aj,.rs eH 0 x6.aa.length 4,.rs fE 0 x6.ae.length 1])::L):=Has.del Hl 4
     have OC:Has h3 ((aI,.ob [.bool x7.2.aj,.rs fB 0 x7.2.aa.length 4,.rs fj 0 x7.2.ae.length 1])::(fB,.sl x7.2.aa.length 4 (ai.l x7.2.aa))::(fj,.sl x7.2.ae.length 1 (af.l x7.2.ae))::L):=Has.del KZ 3
     have OD:Has h3 ((aI,.ob [.bool x7.2.aj,.rs fB 0 x7.2.aa.length 4,.rs fj 0 x7.2.ae.length 1])::(fB,.sl x7.2.aa.length 4 (ai.l x7.2.aa))::L):=Has.del OC 2
     have OE:Has h3 ((aI,.ob [.bool x7.2.aj,.rs fB 0 x7.2.aa.length 4,.rs fj 0 x7.2.ae.length 1])::L):=Has.del OD 1
     have La:Has h3 (L):=Has.del OE 0
     obtain rfl:=oi H
     exact qt <| ⟨.inl rfl,dA (.bool false) h3 (dz (aD))⟩
   clear DQ
   intro pt
   refine qq ?_
   rcases iw H with⟨c3,H⟩| ⟨c3,H⟩
   ·refine qr [.b 2 c3] <| qc H (fun c4 H=>?_) (fun c4 H=>?_)
    ·refine qq ?_
     obtain⟨x8,sX,H⟩:=bj H
     refine qr [.a 0 (Gq _ sX h2 _ (fq (ax)))] ?_
     have o3:Has h2 ((aI,.ob [.bool x7.2.aj,.rs fB 0 x7.2.aa.length 4,.rs fj 0 x7.2.ae.length 1])::(fB,.sl x7.2.aa.length 4 (ai.l x7.2.aa))::(fj,.sl x7.2.ae.length 1 (af.l x7.2.ae))::(dG,.ob [.bool x6.aj,.rs eH 0 x6.aa.length 4,.rs fE 0 x6.ae.length 1])::(eH,.sl x6.aa.length 4 (ai.l x6.aa))::L):=Has.del o2 5
     have o4:Has h2 ((aI,.ob [.bool x7.2.aj,.rs fB 0 x7.2.aa.length 4,.rs fj 0 x7.2.ae.length 1])::(fB,.sl x7.2.aa.length 4 (ai.l x7.2.aa))::(fj,.sl x7.2.ae.length 1 (af.l x7.2.ae))::(dG,.ob [.bool x6.aj,.rs eH 0 x6.aa.length 4,.rs fE 0 x6.ae.length 1])::L):=Has.del o3 4
     have o5:Has h2 ((aI,.ob [.bool x7.2.aj,.rs fB 0 x7.2.aa.length 4,.rs fj 0 x7.2.ae.length 1])::(fB,.sl x7.2.aa.length 4 (ai.l x7.2.aa))::(fj,.sl x7.2.ae.length 1 (af.l x7.2.ae))::L):=Has.del o4 3
     have o6:Has h2 ((aI,.ob [.bool x7.2.aj,.rs fB 0 x7.2.aa.length 4,.rs fj 0 x7.2.ae.length 1])::(fB,.sl x7.2.aa.length 4 (ai.l x7.2.aa))::L):=Has.del o5 2
     have o7:Has h2 ((aI,.ob [.bool x7.2.aj,.rs fB 0 x7.2.aa.length 4,.rs fj 0 x7.2.ae.length 1])::L):=Has.del o6 1
     have o8:Has h2 (L):=Has.del o7 0
     obtain rfl:=oi H
     exact qt <| ⟨.inl rfl,dA (.bool x8) h2 (dz (aD))⟩
    ·exact qk <| pt (!(x0.cK==(7:Int))) _ ⟨h2,by kernel_rfl,o2⟩ H
   ·exact qr [.b 2 c3] <| DA <| qk <| pt false _ ⟨h2,by kernel_rfl,o2⟩ H
end
end Go.Proofs.Ytifafejidnjckaa
namespace Go.Proofs.Ytifafejidnjckaa
open Go Go.R
open Go.IntKind (i64 u64 u8 u32)
def cq.l0 (m:Nat)(fh:List aJ)(jT:Bool):Nat→Int→ab→ab→Option (Int × ab × ab)
 | 0,_,_,_=>none
 | k+1,i0,vC,OV=>if (decide (i0<(fh.length:Int)))=true then (if jT=true then ((ix fh i0).bind fun v0=>(eY.f m OV v0).bind fun x7=>cq.l0 m fh jT k (i64.wrap (i0+(1:Int))) vC x7.2) else ((ix fh i0).bind fun v1=>(eY.f m vC v1).bind fun x8=>cq.l0 m fh jT k (i64.wrap (i0+(1:Int))) x8.2 OV)) else (some ((i0,vC,OV)))
def cq.l1 (m:Nat)(fh:List aJ)(jT:Bool):Nat→Int→ab→ab→Option (Int × ab × ab)
 | 0,_,_,_=>none
 | k+1,i2,OW,OX=>if (decide (i2<(fh.length:Int)))=true then (if jT=true then ((ix fh i2).bind fun v2=>(eY.f m OX v2).bind fun Lb=>cq.l1 m fh jT k (i64.wrap (i2+(1:Int))) OW Lb.2) else ((ix fh i2).bind fun v3=>(eY.f m OW v3).bind fun Sx=>cq.l1 m fh jT k (i64.wrap (i2+(1:Int))) Sx.2 OX)) else (some ((i2,OW,OX)))
def cq.f (m:Nat)(l0:List aJ)(fh:List aJ)(jT:Bool):Option (Bool):=(bp.f m l0).bind fun x0=>if x0=true then ((cz.f m).bind fun x1=>some x1) else ((bp.f m fh).bind fun x2=>if x2=true then ((cz.f m).bind fun x3=>some x3) else ((bS.f m l0).bind fun x4=>(bS.f m l0).bind fun x5=>(oA.f m x4).bind fun x6=>Nq x6.1 (some false) fun oR=>if jT=true then ((cq.l0 m fh jT m (0:Int) oR x6.2).bind fun b6=>match b6 with | (i1,Qx,T7)=>(bB.f m Qx).bind fun x9=>(bB.f m x5).bind fun kz=>if (x9==kz)=true then ((bK.f m Qx).bind fun zX=>(bK.f m x5).bind fun DR=>(bU.f m zX DR).bind fun sc=>if sc=true then ((cz.f m).bind fun L8=>some L8) else (some false)) else (some false)) else ((cq.l1 m fh jT m (0:Int) oR x6.2).bind fun dt=>match dt with | (i3,T8,Qy)=>(bB.f m Qy).bind fun Sy=>(bB.f m x5).bind fun Sz=>if (Sy==Sz)=true then ((bK.f m Qy).bind fun SA=>(bK.f m x5).bind fun SB=>(bU.f m SA SB).bind fun SC=>if SC=true then ((cz.f m).bind fun SD=>some SD) else (some false)) else (some false))))
def S6 (cf:CallF)(m:Nat):Prop:=∀(l0:List aJ) (fh:List aJ) (jT:Bool) (r:Bool),cq.f m l0 fh jT=some r→∀h xs,aO bO h xs [aQ.fz l0,aQ.fz fh,.bool jT]→cf 6 xs h=some (.bool r,h)
end Go.Proofs.Ytifafejidnjckaa
namespace Go.Proofs.Ytifafejidnjckaa
open Go Go.R
open Go.IntKind (i64 u64 u8 u32)
def gW.l0 (m:Nat)(n0:Int)(fh:List aJ)(x5:aq × Int):Nat→Int→ab→Option (Sum Bool (Int × ab))
 | 0,_,_=>none
 | k+1,i0,oR=>if (decide (i0<(fh.length:Int)))=true then ((ix fh i0).bind fun v0=>(eY.f m oR v0).bind fun x8=>(jS.f m x8.2 n0).bind fun x9=>if (!(x9.2==(0:Int)))=true then (some (.inl false)) else (if (!(x9.1.kind==x5.1.kind))=true then (some (.inl false)) else (if (!(x9.1.int==x5.1.int))=true then (some (.inl false)) else (if (!(x9.1.label.data.toList==x5.1.label.data.toList))=true then (some (.inl false)) else (if (!((x9.1.args.length:Int)==(x5.1.args.length:Int)))=true then (some (.inl false)) else (gW.l0 m n0 fh x5 k (i64.wrap (i0+(1:Int))) x8.2)))))) else (some (.inr (i0,oR)))
def gW.f (m:Nat)(l0:List aJ)(n0:Int)(fh:List aJ):Option (Bool):=(bp.f m l0).bind fun x0=>if x0=true then ((cz.f m).bind fun x1=>some x1) else ((bp.f m fh).bind fun x2=>if x2=true then ((cz.f m).bind fun x3=>some x3) else ((bS.f m l0).bind fun x4=>(jS.f m x4 n0).bind fun x5=>if (!(x5.2==(0:Int)))=true then ((cz.f m).bind fun x6=>some x6) else (if (x5.1.kind==(0:Int))=true then ((cz.f m).bind fun x7=>some x7) else ((gW.l0 m n0 fh x5 m (0:Int) x4).bind fun b6=>match b6 with | .inl r0=>some r0 | .inr (i1,vC)=>(cz.f m).bind fun kz=>some kz))))
def S7 (cf:CallF)(m:Nat):Prop:=∀(l0:List aJ) (n0:Int) (fh:List aJ) (r:Bool),gW.f m l0 n0 fh=some r→∀h xs,aO bO h xs [aQ.fz l0,.int .i64 n0,aQ.fz fh]→cf 7 xs h=some (.bool r,h)
end Go.Proofs.Ytifafejidnjckaa
