/- Part of the proof: Q72, Q76, Q46, Q43, Q21, Q36, Q17, Q12, Q3, Q4, Q5. -/
import Derived.Test.YtifafejidnjckaaK9
set_option linter.unusedVariables false
set_option linter.unusedSimpArgs false
set_option maxRecDepth 100000
open Eq renaming trans → WX
open List renaming length_set → VC
namespace Go.Proofs.Ytifafejidnjckaa
open Go Go.R
open Go.IntKind (i64 u64 u8 u32)
def pd:b5:=gV [0,1,2,3,4,5,6,7,8,9,10,11,12,13,14,15,17,22,23,24,37,38,39,40,61,73,74,75,76,87,88,89,90,110,126] [12] [34359738365,34359738357,34359345141,34358820853,34359345125,34359345141,34359345141,34359738357,34359738325,34359738261,34352398229,34344009621,34352397845,34335620757,34352397973,34352398229,34352398229,34359737757,34359736733,34124855709,33856420253,34124849565,34124841373,30366749085,26071781789,30366699933,30366749085,30366749085,34124779933,25534910877,34124845469,34124855709,34124855709,17179867613,34359738363,34359738269] [] []
def ay.l0 (m:Nat)(x0:List Int):Nat→(List Int)→Int→Option ((List Int) × Int)
 | 0,_,_=>none
 | k+1,fA,x1=>if (decide (x1<(x0.length:Int)))=true then ((ix fA x1).bind fun v0=>ay.l0 m x0 k (fA.set x1.toNat x1) (i64.wrap (x1+(1:Int)))) else (some ((fA,x1)))
def ay.l1 (m:Nat)(aL:List aq)(bZ:List Int)(x3:(List Int)):Nat→(List Int)→Int→Int→Option ((List Int) × Int × Int)
 | 0,_,_,_=>none
 | k+1,dr,ez,x5=>if (decide (x5<(bZ.length:Int)))=true then ((ix x3 x5).bind fun v1=>if (decide (x5 > (0:Int)))=true then ((ix x3 (i64.wrap (x5 - (1:Int)))).bind fun v2=>(ix aL v2).bind fun v3=>(ix aL v1).bind fun v4=>(dp.f m v3 v4).bind fun x6=>if (!(x6==(0:Int)))=true then ((ix dr v1).bind fun v5=>ay.l1 m aL bZ x3 k (dr.set v1.toNat (i64.wrap (ez+(1:Int)))) (i64.wrap (ez+(1:Int))) (i64.wrap (x5+(1:Int)))) else ((ix dr v1).bind fun v6=>ay.l1 m aL bZ x3 k (dr.set v1.toNat ez) ez (i64.wrap (x5+(1:Int))))) else ((ix dr v1).bind fun v7=>ay.l1 m aL bZ x3 k (dr.set v1.toNat ez) ez (i64.wrap (x5+(1:Int))))) else (some ((dr,ez,x5)))
def ay.l4 (m:Nat)(dn:List Int)(v8:aq):Nat→(List Int)→Int→Option ((List Int) × Int)
 | 0,_,_=>none
 | k+1,k0,lG=>if (decide (lG<(v8.args.length:Int)))=true then ((ix v8.args lG).bind fun v10=>(ix dn v10).bind fun v11=>(ix k0 (i64.wrap (lG+(1:Int)))).bind fun v12=>ay.l4 m dn v8 k (k0.set (i64.wrap (lG+(1:Int))).toNat (i64.wrap (v11+(1:Int)))) (i64.wrap (lG+(1:Int)))) else (some ((k0,lG)))
def ay.l3 (m:Nat)(aL:List aq)(dn:List Int):Nat→(List (List Int × Int))→(List Int)→Int→Option ((List (List Int × Int)) × (List Int) × Int)
 | 0,_,_,_=>none
 | k+1,fL,dD,x9=>if (decide (x9<(aL.length:Int)))=true then ((ix aL x9).bind fun v8=>(ix dn x9).bind fun v9=>(ay.l4 m dn v8 m ([i64.wrap (v9+(1:Int)),(0:Int),(0:Int),(0:Int),(0:Int),(0:Int),(0:Int),(0:Int),(0:Int)]) (0:Int)).bind fun LQ=>match LQ with | (k1,Db)=>(GK 9 fL k1).bind fun r0=>if (!r0.2)=true then ((Li 9 fL k1 (fL.length:Int)).bind fun Jv=>(GK 9 Jv k1).bind fun r1=>(ix dD x9).bind fun ML=>ay.l3 m aL dn k Jv (dD.set x9.toNat r1.1) (i64.wrap (x9+(1:Int)))) else ((GK 9 fL k1).bind fun r2=>(ix dD x9).bind fun Te=>ay.l3 m aL dn k fL (dD.set x9.toNat r2.1) (i64.wrap (x9+(1:Int))))) else (some ((fL,dD,x9)))
def ay.l2 (m:Nat)(aL:List aq):Nat→(List Int)→Int→Option (Sum (List Int) ((List Int) × Int))
 | 0,_,_=>none
 | k+1,dn,jh=>(C8 8 (aL.length:Int) (0:Int)).bind fun x8=>(ay.l3 m aL dn m ([]:List (List Int × Int)) x8 (0:Int)).bind fun LR=>match LR with | (nF,mO,G1)=>if ((nF.length:Int)==(i64.wrap (jh+(1:Int))))=true then (some (.inl dn)) else (ay.l2 m aL k mO (i64.wrap ((nF.length:Int) - (1:Int))))
def ay.f (m:Nat)(aL:List aq):Option ((List Int)):=(C8 8 (aL.length:Int) (0:Int)).bind fun x0=>(ay.l0 m x0 m x0 (0:Int)).bind fun cg=>match cg with | (bZ,x2)=>(fu.f m bZ (fun y0 y1=>dM.f m y0 y1 aL)).bind fun x3=>(C8 8 (aL.length:Int) (0:Int)).bind fun x4=>(ay.l1 m aL bZ x3 m x4 (0:Int) (0:Int)).bind fun EP=>match EP with | (mM,many1,x7)=>(ay.l2 m aL m mM many1).bind fun LS=>match LS with | .inl r3=>some r3 | .inr (O3,LU)=>none
def ay.fin (L:Mem)(r:(List Int))(s:St):Prop:=∃av,aP Try.prog (s.open pd) Try.f72.results.toList=some av∧fD s.h av (af.fz r)
def Ro (cf:CallF)(m:Nat):Prop:=∀(aL:List aq) (r:(List Int)),ay.f m aL=some r→∀h xs,aQ bQ h xs [ai.fz aL]→cf 72 xs h=some (af.fz r,h)
section
variable {cf:CallF}{m:Nat}
theorem ay.dy (L:Mem)(aL:List aq)(aG:Nat)(x0:List Int)   : dY Try.prog cf pd m (sub [1,1,0,1,0,0] (b8 Try.f72)) (fun k (σ:(List Int) × Int)=>ay.l0 m x0 k σ.1 σ.2) (fun σ s=>match σ with | (fA,x1)=>∃eX h2,s=⟨.any :: .ptr aG 0 :: .any :: .rs eX 0 fA.length 1::qL (.int .i64 (x0.length:Int) :: .int .i64 x1::GM []),[none],h2⟩∧Has h2 ((eX,.sl fA.length 1 (af.l fA))::(aG,.ob [ai.fz aL])::L)) (fun out e s=>(e = .exit 0∧∃fA x1,(fA,x1)=out∧∃EG O4 O5 eX h2,s=⟨.any :: .ptr aG 0 :: .any :: .rs eX 0 fA.length 1::qL (EG::O4::O5::NT []),[none],h2⟩∧Has h2 ((eX,.sl fA.length 1 (af.l fA))::(aG,.ob [ai.fz aL])::L))):=by
 refine mf (fun _=>rfl) ?_
 rintro k ⟨fA,x1⟩ s out ⟨eX,h2,rfl,o2⟩ H
 have H:ay.l0 m x0 (k+1) fA x1=some out:=H
 refine q1 <| qq <| qc H (fun c0 H=>?_) (fun c0 H=>?_)
 ·refine qk <| qq <| qb 1 <| qq <| q0 ?_
  obtain⟨v0,e3,H⟩:=bk H
  obtain⟨h3,e4,o3⟩:=fJ (P:=Try.prog) (tf:=3) (E:=af) (l:=fA) (q:=0) (v:=x1) (x:=.int .i64 x1) o2 rfl Z3 e3 rfl rfl
  exact qr [.v 3 (bp (k:=.i64) (E:=af) (l:=fA) (q:=0) gI o2 rfl e3),.w 4 e4] <| q0 <| ⟨(fA.set x1.toNat x1,i64.wrap (x1+(1:Int))),⟨eX,h3,(WX (b:=⟨.any :: .ptr aG 0 :: .any :: .rs eX 0 fA.length 1::qL (.int .i64 (x0.length:Int) :: .int .i64 (i64.wrap (x1+(1:Int)))::GM []),[none],h3⟩) (by kernel_rfl) (by simp only [VC])),(by have o:Has h3 ((eX,.sl fA.length 1 (af.l (fA.set x1.toNat x1)))::(aG,.ob [ai.fz aL])::L):=o3; simpa only [VC] using o)⟩,H⟩
 ·exact qx 0 <| ⟨rfl,fA,x1,oi H,.int .i64 (x0.length:Int),.int .i64 x1,.bool (decide (x1<(x0.length:Int))),eX,h2,by kernel_rfl,o2⟩
theorem ay.kT (L:Mem)(aL:List aq)(aG:Nat)(cV:Nat)(bZ:List Int)(cV:Nat)(x3:(List Int))  (EO:MK cf m):dY Try.prog cf pd m (sub [1,1,1,1,1,1,0,1,0,0] (b8 Try.f72)) (fun k (σ:(List Int) × Int × Int)=>ay.l1 m aL bZ x3 k σ.1 σ.2.1 σ.2.2) (fun σ s=>match σ with | (dr,ez,x5)=>∃eT h7,s=⟨.any :: .ptr aG 0 :: .any :: .rs cV 0 bZ.length 1 :: .any :: .rs eT 0 dr.length 1 :: .int .i64 ez::qL (.rs cV 0 bZ.length 1 :: .int .i64 (bZ.length:Int) :: .int .i64 x5::vz []),[none],h7⟩∧Has h7 ((eT,.sl dr.length 1 (af.l dr))::(cV,.sl bZ.length 1 (af.l x3))::(aG,.ob [ai.fz aL])::L)) (fun out e s=>(e = .exit 2∧∃dr ez x5,(dr,ez,x5)=out∧∃GZ EW EX Jw Jx eT h7,s=⟨.any :: .ptr aG 0 :: .any::GZ :: .any :: .rs eT 0 dr.length 1 :: .int .i64 ez::qL (EW::EX::Jw::Jx::sy []),[none],h7⟩∧Has h7 ((eT,.sl dr.length 1 (af.l dr))::(cV,.sl bZ.length 1 (af.l x3))::(aG,.ob [ai.fz aL])::L))):=by
 refine mf (fun _=>rfl) ?_
 rintro k ⟨dr,ez,x5⟩ s out ⟨eT,h7,rfl,o7⟩ H
 have H:ay.l1 m aL bZ x3 (k+1) dr ez x5=some out:=H
 refine q1 <| qq <| qc H (fun c1 H=>?_) (fun c1 H=>?_)
 ·refine qk <| qq <| qb 3 <| qq ?_
  obtain⟨v1,ti,H⟩:=bk H
  refine qr [.v 1 (bp (k:=.i64) (E:=af) (l:=x3) (q:=1) gI o7 rfl ti),.v 2 (dH  (E:=af) (l:=x3) (q:=1) o7 rfl A3 ti rfl)] <| qq <| qq ?_
  rcases iw H with⟨c2,H⟩| ⟨c2,H⟩
  ·obtain⟨v2,wo,H⟩:=bk H
   obtain⟨v3,zm,H⟩:=bk H
   obtain⟨v4,zn,H⟩:=bk H
   obtain⟨x6,AI,H⟩:=bk H
   refine qr [.b 2 c2,.v 3 (show bl Try.prog h7 40 (.ptr aG 0)=some (ai.fz aL) from bV (q:=2) (cs:=[ai.fz aL]) o7 rfl (by kernel_rfl)),.v 7 (bp (k:=.i64) (E:=af) (l:=x3) (q:=1) gI o7 rfl wo),.v 8 (dH  (E:=af) (l:=x3) (q:=1) o7 rfl A3 wo rfl),.v 9 (fm (k:=.i64) (E:=ai) (l:=aL) yA zm),.v 10 (jm  (E:=ai) (l:=aL) h7 F5 F6 zm),.v 11 (show bl Try.prog h7 40 (.ptr aG 0)=some (ai.fz aL) from bV (q:=2) (cs:=[ai.fz aL]) o7 rfl (by kernel_rfl)),.v 13 (fm (k:=.i64) (E:=ai) (l:=aL) yA zn),.v 14 (jm  (E:=ai) (l:=aL) h7 F5 F6 zn),.a 15 (EO _ _ _ AI h7 _ (eQ (ah (jT (ah (bD) (ah (bD) (ah (cU) (ah (eG (E:=af)) (aw)))))) (ah (jT (ah (bD) (ah (bD) (ah (cU) (ah (eG (E:=af)) (aw)))))) (aw)))))] ?_
   refine qc H (fun c3 H=>?_) (fun c3 H=>?_)
   ·refine q0 ?_
    obtain⟨v5,A4,H⟩:=bk H
    obtain⟨h8,EH,o8⟩:=fJ (P:=Try.prog) (tf:=3) (E:=af) (l:=dr) (q:=0) (v:=(i64.wrap (ez+(1:Int)))) (x:=.int .i64 (i64.wrap (ez+(1:Int)))) o7 rfl Z3 A4 rfl rfl
    exact qr [.v 3 (bp (k:=.i64) (E:=af) (l:=dr) (q:=0) gI o7 rfl A4),.w 4 EH] <| q0 <| ⟨(dr.set v1.toNat (i64.wrap (ez+(1:Int))),i64.wrap (ez+(1:Int)),i64.wrap (x5+(1:Int))),⟨eT,h8,(WX (b:=⟨.any :: .ptr aG 0 :: .any :: .rs cV 0 bZ.length 1 :: .any :: .rs eT 0 dr.length 1 :: .int .i64 (i64.wrap (ez+(1:Int)))::qL (.rs cV 0 bZ.length 1 :: .int .i64 (bZ.length:Int) :: .int .i64 (i64.wrap (x5+(1:Int)))::vz []),[none],h8⟩) (by kernel_rfl) (by simp only [VC])),(by have o:Has h8 ((eT,.sl dr.length 1 (af.l (dr.set v1.toNat (i64.wrap (ez+(1:Int))))))::(cV,.sl bZ.length 1 (af.l x3))::(aG,.ob [ai.fz aL])::L):=o8; simpa only [VC] using o)⟩,H⟩
   ·refine qk ?_
    obtain⟨v6,EI,H⟩:=bk H
    obtain⟨h9,EJ,o9⟩:=fJ (P:=Try.prog) (tf:=3) (E:=af) (l:=dr) (q:=0) (v:=ez) (x:=.int .i64 ez) o7 rfl Z3 EI rfl rfl
    exact qr [.v 3 (bp (k:=.i64) (E:=af) (l:=dr) (q:=0) gI o7 rfl EI),.w 4 EJ] <| q0 <| ⟨(dr.set v1.toNat ez,ez,i64.wrap (x5+(1:Int))),⟨eT,h9,(WX (b:=⟨.any :: .ptr aG 0 :: .any :: .rs cV 0 bZ.length 1 :: .any :: .rs eT 0 dr.length 1 :: .int .i64 ez::qL (.rs cV 0 bZ.length 1 :: .int .i64 (bZ.length:Int) :: .int .i64 (i64.wrap (x5+(1:Int)))::vz []),[none],h9⟩) (by kernel_rfl) (by simp only [VC])),(by have o:Has h9 ((eT,.sl dr.length 1 (af.l (dr.set v1.toNat ez)))::(cV,.sl bZ.length 1 (af.l x3))::(aG,.ob [ai.fz aL])::L):=o9; simpa only [VC] using o)⟩,H⟩
  ·refine qr [.b 2 c2] <| Eg <| qk ?_
   obtain⟨v7,CH,H⟩:=bk H
   obtain⟨h10,F7,vK⟩:=fJ (P:=Try.prog) (tf:=3) (E:=af) (l:=dr) (q:=0) (v:=ez) (x:=.int .i64 ez) o7 rfl Z3 CH rfl rfl
   exact qr [.v 3 (bp (k:=.i64) (E:=af) (l:=dr) (q:=0) gI o7 rfl CH),.w 4 F7] <| q0 <| ⟨(dr.set v1.toNat ez,ez,i64.wrap (x5+(1:Int))),⟨eT,h10,(WX (b:=⟨.any :: .ptr aG 0 :: .any :: .rs cV 0 bZ.length 1 :: .any :: .rs eT 0 dr.length 1 :: .int .i64 ez::qL (.rs cV 0 bZ.length 1 :: .int .i64 (bZ.length:Int) :: .int .i64 (i64.wrap (x5+(1:Int)))::vz []),[none],h10⟩) (by kernel_rfl) (by simp only [VC])),(by have o:Has h10 ((eT,.sl dr.length 1 (af.l (dr.set v1.toNat ez)))::(cV,.sl bZ.length 1 (af.l x3))::(aG,.ob [ai.fz aL])::L):=vK; simpa only [VC] using o)⟩,H⟩
 ·exact qx 2 <| ⟨rfl,dr,ez,x5,oi H,.rs cV 0 bZ.length 1,.rs cV 0 bZ.length 1,.int .i64 (bZ.length:Int),.int .i64 x5,.bool (decide (x5<(bZ.length:Int))),eT,h7,(WX (b:=⟨.any :: .ptr aG 0 :: .any :: .rs cV 0 bZ.length 1 :: .any :: .rs eT 0 dr.length 1 :: .int .i64 ez::qL (.rs cV 0 bZ.length 1 :: .int .i64 (bZ.length:Int) :: .int .i64 x5 :: .bool (decide (x5<(bZ.length:Int)))::sy []),[none],h7⟩) (by kernel_rfl) (by simp only [VC])),(by have o:Has h7 ((eT,.sl dr.length 1 (af.l dr))::(cV,.sl bZ.length 1 (af.l x3))::(aG,.ob [ai.fz aL])::L):=o7; simpa only [VC] using o)⟩
theorem ay.ET (L:Mem)(aL:List aq)(aG:Nat)(ju:Nat)(dn:List Int)(jh:Int)(ju:Nat)(lf:Nat)(gd:Nat)(fL:List (List Int × Int))(dD:List Int)(x9:Int)(gd:Nat)(v8:aq)(bX:Nat)   : dY Try.prog cf pd m (sub [1,1,1,1,1,1,1,0,0,0,1,1,0,1,0,0,1,1,0,0,1,1,0,1,0,0] (b8 Try.f72)) (fun k (σ:(List Int) × Int)=>ay.l4 m dn v8 k σ.1 σ.2) (fun σ s=>match σ with | (k0,lG)=>∃h18,s=⟨.any :: .ptr aG 0::rA (.rs ju 0 dn.length 1 :: .int .i64 jh :: .any :: .any :: .mp lf :: .rs gd 0 dD.length 1 :: .int .i64 x9 :: .any :: .ptr bX 0::sy (ai.fz aL :: .int .i64 (aL.length:Int) :: .int .i64 x9 :: .any::af.fz v8.args :: .int .i64 (v8.args.length:Int) :: .int .i64 lG::rA [])),[none],h18⟩∧Has h18 ((bX,.sl 9 1 (af.l k0))::(gd,.sl dD.length 1 (af.l dD))::(lf,.mp (tA fL))::(ju,.sl dn.length 1 (af.l dn))::(aG,.ob [ai.fz aL])::L)) (fun out e s=>(e = .exit 8∧∃k0 lG,(k0,lG)=out∧∃O6 O7 O8 O9 h18,s=⟨.any :: .ptr aG 0::rA (.rs ju 0 dn.length 1 :: .int .i64 jh :: .any :: .any :: .mp lf :: .rs gd 0 dD.length 1 :: .int .i64 x9 :: .any :: .ptr bX 0::sy [ai.fz aL,.int .i64 (aL.length:Int),.int .i64 x9,.any,O6,O7,O8,O9,.any,.any]),[none],h18⟩∧Has h18 ((bX,.sl 9 1 (af.l k0))::(gd,.sl dD.length 1 (af.l dD))::(lf,.mp (tA fL))::(ju,.sl dn.length 1 (af.l dn))::(aG,.ob [ai.fz aL])::L))):=by
 refine mf (fun _=>rfl) ?_
 rintro k ⟨k0,lG⟩ s out ⟨h18,rfl,CI⟩ H
 have H:ay.l4 m dn v8 (k+1) k0 lG=some out:=H
 refine q1 <| qq <| qc H (fun c6 H=>?_) (fun c6 H=>?_)
 ·refine qk <| qq <| qb 9 <| qq ?_
  obtain⟨v10,Kk,H⟩:=bk H
  refine qr [.v 1 (fm (k:=.i64) (E:=af) (l:=v8.args) gI Kk),.v 2 (iS  (E:=af) (l:=v8.args) h18 A3 Kk rfl)] ?_
  obtain⟨v11,Kj,H⟩:=bk H
  obtain⟨v12,H0,H⟩:=bk H
  obtain⟨h19,LV,LW⟩:=fJ (P:=Try.prog) (tf:=3) (E:=af) (l:=k0) (q:=0) (v:=(i64.wrap (v11+(1:Int)))) (x:=.int .i64 (i64.wrap (v11+(1:Int)))) CI rfl Z3 H0 rfl rfl
  exact qr [.v 4 (bp (k:=.i64) (E:=af) (l:=dn) (q:=3) gI CI rfl Kj),.v 5 (dH  (E:=af) (l:=dn) (q:=3) CI rfl A3 Kj rfl),.v 7 (IU (k:=.i64) (q:=0) (l:=k0) uq CI rfl H0),.w 8 LV] <| q0 <| ⟨(k0.set (i64.wrap (lG+(1:Int))).toNat (i64.wrap (v11+(1:Int))),i64.wrap (lG+(1:Int))),⟨h19,by kernel_rfl,LW⟩,H⟩
 ·exact qx 8 <| ⟨rfl,k0,lG,oi H,af.fz v8.args,.int .i64 (v8.args.length:Int),.int .i64 lG,.bool (decide (lG<(v8.args.length:Int))),h18,by kernel_rfl,CI⟩
theorem ay.ES (L:Mem)(aL:List aq)(aG:Nat)(ju:Nat)(dn:List Int)(jh:Int)(ju:Nat)(lf:Nat)   : dY Try.prog cf pd m (sub [1,1,1,1,1,1,1,0,0,0,1,1,0,1,0,0] (b8 Try.f72)) (fun k (σ:(List (List Int × Int)) × (List Int) × Int)=>ay.l3 m aL dn k σ.1 σ.2.1 σ.2.2) (fun σ s=>match σ with | (fL,dD,x9)=>∃gd h15,s=⟨.any :: .ptr aG 0::rA (.rs ju 0 dn.length 1 :: .int .i64 jh :: .any :: .any :: .mp lf :: .rs gd 0 dD.length 1::xl (ai.fz aL :: .int .i64 (aL.length:Int) :: .int .i64 x9::HS [])),[none],h15⟩∧Has h15 ((gd,.sl dD.length 1 (af.l dD))::(lf,.mp (tA fL))::(ju,.sl dn.length 1 (af.l dn))::(aG,.ob [ai.fz aL])::L)) (fun out e s=>(e = .exit 6∧∃fL dD x9,(fL,dD,x9)=out∧∃Pa Pb Pc Pd gd h15,s=⟨.any :: .ptr aG 0::rA (.rs ju 0 dn.length 1 :: .int .i64 jh :: .any :: .any :: .mp lf :: .rs gd 0 dD.length 1::xl (Pa::Pb::Pc::Pd::xk [])),[none],h15⟩∧Has h15 ((gd,.sl dD.length 1 (af.l dD))::(lf,.mp (tA fL))::(ju,.sl dn.length 1 (af.l dn))::(aG,.ob [ai.fz aL])::L))):=by
 refine mf (fun _=>rfl) ?_
 rintro k ⟨fL,dD,x9⟩ s out ⟨gd,h15,rfl,zt⟩ H
 have H:ay.l3 m aL dn (k+1) fL dD x9=some out:=H
 refine q1 <| qq <| qc H (fun c5 H=>?_) (fun c5 H=>?_)
 ·refine qk <| qq <| qb 7 <| qq ?_
  obtain⟨v8,Ga,H⟩:=bk H
  refine qr [.v 1 (fm (k:=.i64) (E:=ai) (l:=aL) yA Ga),.v 2 (jm  (E:=ai) (l:=aL) h15 F5 F6 Ga)] <| qq ?_
  obtain⟨v9,H2,H⟩:=bk H
  obtain⟨bX,h16,Kl,Df⟩:=GL (cs:=[.int .i64 (0:Int),.int .i64 (0:Int),.int .i64 (0:Int),.int .i64 (0:Int),.int .i64 (0:Int),.int .i64 (0:Int),.int .i64 (0:Int),.int .i64 (0:Int),.int .i64 (0:Int)]) (l:=[(0:Int),(0:Int),(0:Int),(0:Int),(0:Int),(0:Int),(0:Int),(0:Int),(0:Int)]) zt (by kernel_rfl)
  obtain⟨h17,LP,De⟩:=IV (q:=0) (l:=([(0:Int),(0:Int),(0:Int),(0:Int),(0:Int),(0:Int),(0:Int),(0:Int),(0:Int)])) (l':=[i64.wrap (v9+(1:Int)),(0:Int),(0:Int),(0:Int),(0:Int),(0:Int),(0:Int),(0:Int),(0:Int)]) (x:=.agg [.int .i64 (i64.wrap (v9+(1:Int))),.int .i64 (0:Int),.int .i64 (0:Int),.int .i64 (0:Int),.int .i64 (0:Int),.int .i64 (0:Int),.int .i64 (0:Int),.int .i64 (0:Int),.int .i64 (0:Int)]) uq Df rfl rfl rfl
  refine qr [.v 2 (bp (k:=.i64) (E:=af) (l:=dn) (q:=2) gI zt rfl H2),.v 3 (dH  (E:=af) (l:=dn) (q:=2) zt rfl A3 H2 rfl),.a 6 Kl,.w 7 LP] <| qq <| qq <| q0 <| qb 8 ?_
  obtain⟨LQ,MN,H⟩:=bk H
  refine ql (ay.ET L aL aG ju dn jh ju lf gd fL dD x9 gd v8 bX   ([i64.wrap (v9+(1:Int)),(0:Int),(0:Int),(0:Int),(0:Int),(0:Int),(0:Int),(0:Int),(0:Int)],(0:Int)) _ _ ⟨h17,by kernel_rfl,De⟩ MN) ?_
  rintro e s ⟨rfl,k1,Db,rfl,g13,g14,g15,g16,h20,rfl,CJ⟩
  try dsimp only at H
  refine qq <| qq ?_
  obtain⟨r0,MO,H⟩:=bk H
  refine qr [.v 1 (show bl Try.prog h20 115 (.ptr bX 0)=some (.agg (af.l k1)) from vw (q:=0) (l:=k1) uq CJ rfl),.v 2 (show fU Try.prog h20 113 (.mp lf) (.agg (af.l k1)) true=some (.tup [.int .i64 r0.1,.bool r0.2]) from (IS (q:=2) (l:=fL) (k:=k1) Aw CJ rfl MO).1)] <| qq <| q0 <| qc H (fun c7 H=>?_) (fun c7 H=>?_)
  ·obtain⟨Jv,MP,H⟩:=bk H
   obtain⟨h21,Pe,Jy⟩:=NS (q:=2) (l:=fL) (k:=k1) (v:=(fL.length:Int)) Aw CJ rfl MP
   refine qr [.v 1 (show bl Try.prog h20 115 (.ptr bX 0)=some (.agg (af.l k1)) from vw (q:=0) (l:=k1) uq CJ rfl),.v 3 (show rK Try.prog h20 113 (.mp lf)=some (.int .i64 (fL.length:Int)) from IT (q:=2) (l:=fL) Es CJ rfl),.w 4 Pe] ?_
   obtain⟨r1,Tf,H⟩:=bk H
   obtain⟨ML,Rp,H⟩:=bk H
   obtain⟨h22,Tg,LX⟩:=fJ (P:=Try.prog) (tf:=3) (E:=af) (l:=dD) (q:=1) (v:=r1.1) (x:=.int .i64 r1.1) Jy rfl Z3 Rp rfl rfl
   refine qr [.v 3 (show bl Try.prog h21 115 (.ptr bX 0)=some (.agg (af.l k1)) from vw (q:=0) (l:=k1) uq Jy rfl),.v 4 (show fU Try.prog h21 113 (.mp lf) (.agg (af.l k1)) false=some (.int .i64 r1.1) from (IS (q:=2) (l:=Jv) (k:=k1) Aw Jy rfl Tf).2),.v 5 (bp (k:=.i64) (E:=af) (l:=dD) (q:=1) gI Jy rfl Rp),.w 6 Tg] ?_
   have Pf:Has h22 ((gd,.sl dD.length 1 (af.l (dD.set x9.toNat r1.1)))::(lf,.mp (tA Jv))::(ju,.sl dn.length 1 (af.l dn))::(aG,.ob [ai.fz aL])::L):=Has.del LX 0
   exact q0 <| ⟨(Jv,dD.set x9.toNat r1.1,i64.wrap (x9+(1:Int))),⟨gd,h22,(WX (b:=⟨.any :: .ptr aG 0::rA (.rs ju 0 dn.length 1 :: .int .i64 jh :: .any :: .any :: .mp lf :: .rs gd 0 dD.length 1::xl (ai.fz aL :: .int .i64 (aL.length:Int) :: .int .i64 (i64.wrap (x9+(1:Int)))::HS [])),[none],h22⟩) (by kernel_rfl) (by simp only [VC])),(by have o:Has h22 ((gd,.sl dD.length 1 (af.l (dD.set x9.toNat r1.1)))::(lf,.mp (tA Jv))::(ju,.sl dn.length 1 (af.l dn))::(aG,.ob [ai.fz aL])::L):=Pf; simpa only [VC] using o)⟩,H⟩
  ·refine qk ?_
   obtain⟨r2,Th,H⟩:=bk H
   obtain⟨Te,Rq,H⟩:=bk H
   obtain⟨h23,Tk,Pg⟩:=fJ (P:=Try.prog) (tf:=3) (E:=af) (l:=dD) (q:=1) (v:=r2.1) (x:=.int .i64 r2.1) CJ rfl Z3 Rq rfl rfl
   refine qr [.v 3 (show bl Try.prog h20 115 (.ptr bX 0)=some (.agg (af.l k1)) from vw (q:=0) (l:=k1) uq CJ rfl),.v 4 (show fU Try.prog h20 113 (.mp lf) (.agg (af.l k1)) false=some (.int .i64 r2.1) from (IS (q:=2) (l:=fL) (k:=k1) Aw CJ rfl Th).2),.v 5 (bp (k:=.i64) (E:=af) (l:=dD) (q:=1) gI CJ rfl Rq),.w 6 Tk] ?_
   have Ph:Has h23 ((gd,.sl dD.length 1 (af.l (dD.set x9.toNat r2.1)))::(lf,.mp (tA fL))::(ju,.sl dn.length 1 (af.l dn))::(aG,.ob [ai.fz aL])::L):=Has.del Pg 0
   exact q0 <| ⟨(fL,dD.set x9.toNat r2.1,i64.wrap (x9+(1:Int))),⟨gd,h23,(WX (b:=⟨.any :: .ptr aG 0::rA (.rs ju 0 dn.length 1 :: .int .i64 jh :: .any :: .any :: .mp lf :: .rs gd 0 dD.length 1::xl (ai.fz aL :: .int .i64 (aL.length:Int) :: .int .i64 (i64.wrap (x9+(1:Int)))::HS [])),[none],h23⟩) (by kernel_rfl) (by simp only [VC])),(by have o:Has h23 ((gd,.sl dD.length 1 (af.l (dD.set x9.toNat r2.1)))::(lf,.mp (tA fL))::(ju,.sl dn.length 1 (af.l dn))::(aG,.ob [ai.fz aL])::L):=Ph; simpa only [VC] using o)⟩,H⟩
 ·exact qx 6 <| ⟨rfl,fL,dD,x9,oi H,ai.fz aL,.int .i64 (aL.length:Int),.int .i64 x9,.bool (decide (x9<(aL.length:Int))),gd,h15,by kernel_rfl,zt⟩
theorem ay.sP (L:Mem)(aL:List aq)(aG:Nat)   : dY Try.prog cf pd m (sub [1,1,1,1,1,1,1,0,0] (b8 Try.f72)) (fun k (σ:(List Int) × Int)=>ay.l2 m aL k σ.1 σ.2) (fun σ s=>match σ with | (dn,jh)=>∃g8 g9 g10 g11 g12 ju h12,s=⟨.any :: .ptr aG 0 :: .any::g8 :: .any :: .rs ju 0 dn.length 1 :: .int .i64 jh::qL (g9::g10::g11::g12::sy []),[none],h12⟩∧Has h12 ((ju,.sl dn.length 1 (af.l dn))::(aG,.ob [ai.fz aL])::L)) (fun out e s=>(e = .exit 4∧∃dn jh,.inr (dn,jh)=out∧∃vG GZ LB G0 EW EX Jw Jx ju h12,s=⟨.any::vG :: .any::GZ :: .any::LB::G0::qL (EW::EX::Jw::Jx::sy []),[none],h12⟩∧Has h12 ((ju,.sl dn.length 1 (af.l dn))::(aG,.ob [ai.fz aL])::L))∨(e = .ret∧∃r,.inl r=out∧ay.fin L r s)):=by
 refine mf (fun _=>rfl) ?_
 rintro k ⟨dn,jh⟩ s out ⟨g8,g9,g10,g11,g12,ju,h12,rfl,jq⟩ H
 have H:ay.l2 m aL (k+1) dn jh=some out:=H
 refine qb 5 <| qq ?_
 obtain⟨lf,h13,EL,vR⟩:=Ed jq
 refine qr [.m 0 EL] <| qq ?_
 obtain⟨x8,F8,H⟩:=bk H
 obtain⟨tG,h14,F9,EN⟩:=vp (P:=Try.prog) (E:=af) (z:=(0:Int)) (zv:=.int .i64 (0:Int)) gI vR 3 rfl rfl rfl rfl F8
 refine qr [.v 0 (show bl Try.prog h13 40 (.ptr aG 0)=some (ai.fz aL) from bV (q:=2) (cs:=[ai.fz aL]) vR rfl (by kernel_rfl)),.a 2 F9] <| qq <| qq <| qr [.v 0 (show bl Try.prog h14 40 (.ptr aG 0)=some (ai.fz aL) from bV (q:=3) (cs:=[ai.fz aL]) EN rfl (by kernel_rfl))] <| qb 6 ?_
 obtain⟨LR,Tl,H⟩:=bk H
 refine ql (ay.ES L aL aG ju dn jh ju lf   (([]:List (List Int × Int)),x8,(0:Int)) _ _ ⟨tG,h14,by kernel_rfl,EN⟩ Tl) ?_
 rintro e s ⟨rfl,nF,mO,G1,rfl,g17,g18,g19,g20,j8,h24,rfl,Km⟩
 try dsimp only at H
 refine qq <| qq <| qr [.v 1 (show rK Try.prog h24 113 (.mp lf)=some (.int .i64 (nF.length:Int)) from IT (q:=1) (l:=nF) Es Km rfl)] <| qc H (fun c8 H=>?_) (fun c8 H=>?_)
 ·refine q1 ?_
  have Pj:Has h24 ((j8,.sl mO.length 1 (af.l mO))::(lf,.mp (tA nF))::(ju,.sl dn.length 1 (af.l dn))::L):=Has.del Km 3
  have Pk:Has h24 ((j8,.sl mO.length 1 (af.l mO))::(ju,.sl dn.length 1 (af.l dn))::L):=Has.del Pj 1
  have Pl:Has h24 ((ju,.sl dn.length 1 (af.l dn))::L):=Has.del Pk 0
  exact qt <| Or.inr (⟨rfl,_,oi H,dv (.rs ju 0 dn.length 1) h24 (dq (HR (E:=af) (l:=dn) (q:=0) Pl rfl (fun _=>rfl)))⟩)
 ·refine qk <| qr [.v 2 (show rK Try.prog h24 113 (.mp lf)=some (.int .i64 (nF.length:Int)) from IT (q:=1) (l:=nF) Es Km rfl)] ?_
  have Rr:Has h24 ((j8,.sl mO.length 1 (af.l mO))::(lf,.mp (tA nF))::(aG,.ob [ai.fz aL])::L):=Has.del Km 2
  have Pm:Has h24 ((j8,.sl mO.length 1 (af.l mO))::(aG,.ob [ai.fz aL])::L):=Has.del Rr 1
  exact⟨(mO,i64.wrap ((nF.length:Int) - (1:Int))),⟨.any,.any,.any,.any,.any,j8,h24,by kernel_rfl,Pm⟩,H⟩
theorem pe {aX:FuncId→b5}(ha:aX 72=pd)(EO:MK cf m)(Pn:Rn cf m)(Po:Rb cf m)(aL:List aq)(h:AHeap)(L:Mem)  (o:Has h (L)){out:(List Int)}(H:ay.f m aL=some out) :
  ∃r h',a6 Try.prog aX cf m 72 [ai.fz aL] h=some (r,h')∧fD h' r (af.fz out):=by
 refine au (fn:=Try.f72) ha Try.func72 (by kernel_rfl) (by kernel_rfl) ?_
 refine aK (Q:=fun s=>ay.fin L out s) (fun _ _ h=>h) ?_
 have H:_=some out:=H
 unfold ay.f at H
 show du _ cf pd m _ ⟨ai.fz aL::N1 [],[none],h⟩ _
 refine qq ?_
 obtain⟨aG,h0,e0,o0⟩:=fY (cs:=[ai.fz aL]) o (by kernel_rfl)
 refine qr [.a 0 e0] <| qq ?_
 obtain⟨x0,e1,H⟩:=bk H
 obtain⟨eo,h1,e2,o1⟩:=vp (P:=Try.prog) (E:=af) (z:=(0:Int)) (zv:=.int .i64 (0:Int)) gI o0 3 rfl rfl rfl rfl e1
 refine qr [.v 0 (show bl Try.prog h0 40 (.ptr aG 0)=some (ai.fz aL) from bV (q:=0) (cs:=[ai.fz aL]) o0 rfl (by kernel_rfl)),.a 2 e2] <| qq <| qq <| q0 <| qb 0 ?_
 obtain⟨cg,e5,H⟩:=bk H
 refine ql (ay.dy L aL aG x0   (x0,(0:Int)) _ _ ⟨eo,h1,by kernel_rfl,o1⟩ e5) ?_
 rintro e s ⟨rfl,bZ,x2,rfl,g0,g1,g2,cV,h4,rfl,o4⟩
 try dsimp only at H
 refine qq ?_
 obtain⟨x3,e6,H⟩:=bk H
 obtain⟨h5,e7,o5⟩:=Pn _ _ _ e6 h4 _ _ _ (o4) 84 [.ptr aG 0] [.fp [ai.fz aL] 0] rfl (fun h' tE y0 y1 r hr hx=>Po y0 y1 _ r hr h' tE hx) (fun h' K' o'=>iM (ah (bS (q:=(K'.length+0)) o' (jo rfl) (ah (eG (E:=ai)) (aw))) (aw))) (fun h_=>iM (ah (gv (pure_cons (bM.bG (E:=ai) (l:=aL)) (pure_nil))) (aw))) [.rs cV 0 bZ.length 1,.fn 84 [.ptr aG 0]] (ar (rfl) (ar (rfl) (bA)))
 refine qr [.a 2 e7] <| qq ?_
 obtain⟨x4,e8,H⟩:=bk H
 obtain⟨dW,h6,e9,o6⟩:=vp (P:=Try.prog) (E:=af) (z:=(0:Int)) (zv:=.int .i64 (0:Int)) gI o5 3 rfl rfl rfl rfl e8
 refine qr [.v 0 (show bl Try.prog h5 40 (.ptr aG 0)=some (ai.fz aL) from bV (q:=1) (cs:=[ai.fz aL]) o5 rfl (by kernel_rfl)),.a 2 e9] <| qq <| q0 <| qq <| qq <| q0 <| qb 2 ?_
 obtain⟨EP,EK,H⟩:=bk H
 refine ql (ay.kT L aL aG cV bZ cV x3  EO (x4,(0:Int),(0:Int)) _ _ ⟨dW,h6,(WX (b:=⟨.any :: .ptr aG 0 :: .any :: .rs cV 0 bZ.length 1 :: .any :: .rs dW 0 x4.length 1 :: .int .i64 (0:Int)::qL (.rs cV 0 bZ.length 1 :: .int .i64 (bZ.length:Int) :: .int .i64 (0:Int)::vz []),[none],h6⟩) (by kernel_rfl) (by simp only [VC])),(by have o:Has h6 ((dW,.sl x4.length 1 (af.l x4))::(cV,.sl bZ.length 1 (af.l x3))::(aG,.ob [ai.fz aL])::L):=o6; simpa only [VC] using o)⟩ EK) ?_
 rintro e s ⟨rfl,mM,many1,x7,rfl,g3,g4,g5,g6,g7,ku,h11,rfl,Dc⟩
 try dsimp only at H
 refine qb 4 ?_
 have Dd:Has h11 ((ku,.sl mM.length 1 (af.l mM))::(aG,.ob [ai.fz aL])::L):=Has.del Dc 1
 obtain⟨LS,Tm,H⟩:=bk H
 refine ql (ay.sP L aL aG   (mM,many1) _ _ ⟨g3,g4,g5,g6,g7,ku,h11,by kernel_rfl,Dd⟩ Tm) ?_
 rintro e s (⟨rfl,O3,LU,rfl,g21,g22,g23,g24,Vb,Vc,Vd,Ve,kW,h25,rfl,Rs⟩| ⟨rfl,r3,rfl,zl⟩)
 ·try dsimp only at H
  cases H
 ·try dsimp only at H
  obtain rfl:=oi H
  exact⟨.inl rfl,zl⟩
end
end Go.Proofs.Ytifafejidnjckaa
namespace Go.Proofs.Ytifafejidnjckaa
open Go Go.R
open Go.IntKind (i64 u64 u8 u32)
end Go.Proofs.Ytifafejidnjckaa
namespace Go.Proofs.Ytifafejidnjckaa
open Go Go.R
open Go.IntKind (i64 u64 u8 u32)
def Bm:b5:=gV [0,1,2,3,4,5,6] [2,4000005] [121,113,97,65,1,25,91,123] [] [(0,[(2,some 0,4)])]
def fB.f (m:Nat)(t0:bw):Option (bw):=(ay.f m t0.nodes).bind fun x0=>(aZ.f m m t0.root ([]:List (Int × Int)) x0 (bw.mk ([]:List aq) (0:Int)) t0).bind fun x1=>some x1.2.2
def fB.fin (L:Mem)  (r:bw)(s:St):Prop:=∃(eB:Nat) (eY:List Nat),aP Try.prog (s.open Bm) Try.f46.results.toList=some (.agg [.rs eB 0 r.nodes.length 4,.int .i64 r.root])∧Has s.h ((eB,.sl r.nodes.length 4 (gu.l (bF r.nodes eY)))::(gi r.nodes eY++L))
def Rt (cf:CallF)(m:Nat):Prop:=∀(t0:bw) (r:bw),fB.f m t0=some r→∀h L xs,Has h L→aQ bQ h xs [.agg [ai.fz t0.nodes,.int .i64 t0.root]]→∃(eB:Nat) (eY:List Nat) (h':AHeap),cf 46 xs h=some (.agg [.rs eB 0 r.nodes.length 4,.int .i64 r.root],h')∧Has h' ((eB,.sl r.nodes.length 4 (gu.l (bF r.nodes eY)))::(gi r.nodes eY++L))∧∀j,j<h.next→h.ver j=h'.ver j
section
variable {cf:CallF}{m:Nat}
theorem q6 {aX:FuncId→b5}(ha:aX 46=Bm)(Pp:Ro cf m)(Ev:ME cf m m)(t0:bw)(h:AHeap)(L:Mem)  (o:Has h (L)){out:bw}(H:fB.f m t0=some out) :
  ∃r h',a6 Try.prog aX cf m 46 [.agg [ai.fz t0.nodes,.int .i64 t0.root]] h=some (r,h')∧∃(eB:Nat) (eY:List Nat),r = .agg [.rs eB 0 out.nodes.length 4,.int .i64 out.root]∧Has h' ((eB,.sl out.nodes.length 4 (gu.l (bF out.nodes eY)))::(gi out.nodes eY++L)):=by
 refine au (fn:=Try.f46) ha Try.func46 (by kernel_rfl) (by kernel_rfl) ?_
 refine aK (Q:=fun s=>fB.fin L out s) (fun _ _ ⟨h1,eB,eY,h2,h3⟩=>⟨h1,_,h2,eB,eY,rfl,h3⟩) ?_
 have H:_=some out:=H
 unfold fB.f at H
 show du _ cf Bm m _ ⟨.agg [ai.fz t0.nodes,.int .i64 t0.root]::xk [],[none,none],h⟩ _
 refine qq ?_
 obtain⟨aG,h0,e0,o0⟩:=fY (cs:=[ai.fz t0.nodes,.int .i64 t0.root]) o (by kernel_rfl)
 refine qr [.a 0 e0] ?_
 have o1:Has h0 (((0),.sl (([]:List aq).length) 4 (gu.l (bF ([]:List aq) ([]:List Nat))))::(aG,.ob [ai.fz t0.nodes,.int .i64 t0.root])::L):=Has.nil o0 4
 refine qq ?_
 obtain⟨x0,e1,H⟩:=bk H
 obtain⟨eo,h1,e2,o2⟩:=fY (cs:=[.nils]) o1 (by kernel_rfl)
 obtain⟨h2,e3,o3⟩:=nD (P:=Try.prog) (t:=33) (off:=0) (q:=0) (cs:=[.nils]) (fi:=[af.fz x0]) (x:=af.fz x0) o2 rfl (by kernel_rfl)
 refine qr [.v 1 (show bl Try.prog h0 40 (.ptr aG 0)=some (ai.fz t0.nodes) from bV (q:=1) (cs:=[ai.fz t0.nodes,.int .i64 t0.root]) o1 rfl (by kernel_rfl)),.a 2 (Pp _ _ e1 h0 _ (eQ (ah (eG (E:=ai)) (aw)))),.a 3 e2,.w 4 e3] <| qq ?_
 obtain⟨eX,h3,e4,o4⟩:=Ed o3
 obtain⟨cV,h4,e5,o5⟩:=fY (cs:=[.lV]) o4 (by kernel_rfl)
 obtain⟨h5,e6,o6⟩:=nD (P:=Try.prog) (t:=82) (off:=0) (q:=0) (cs:=[.lV]) (fi:=[.mp eX]) (x:=.mp eX) o5 rfl (by kernel_rfl)
 refine qr [.m 0 e4,.a 1 e5,.w 2 e6] <| qq ?_
 have o7:Has h5 ((((0)),.sl (([]:List aq).length) 4 (ai.l ([]:List aq)))::(cV,.ob [.mp eX])::(eX,.mp (oO ([]:List (Int × Int))))::(eo,.ob [af.fz x0])::((0),.sl (([]:List aq).length) 4 (gu.l (bF ([]:List aq) ([]:List Nat))))::(aG,.ob [ai.fz t0.nodes,.int .i64 t0.root])::L):=Has.nil o6 4
 obtain⟨dW,h6,e7,o8⟩:=fY (cs:=[.rs ((0)) 0 (([]:List aq).length) 4,.int .i64 (0:Int)]) o7 (by kernel_rfl)
 refine qr [.a 0 e7] <| qq ?_
 obtain⟨eT,h7,e8,o9⟩:=fY (cs:=[.oe]) o8 (by kernel_rfl)
 refine qr [.a 0 e8] <| qq ?_
 obtain⟨h8,e9,vK⟩:=nD (P:=Try.prog) (t:=80) (off:=0) (q:=0) (cs:=[.oe]) (fi:=[.fn 73 [.ptr cV 0,.ptr eo 0,.ptr dW 0,.ptr aG 0,.ptr eT 0]]) (x:=.fn 73 [.ptr cV 0,.ptr eo 0,.ptr dW 0,.ptr aG 0,.ptr eT 0]) o9 rfl (by kernel_rfl)
 refine qr [.w 1 e9] <| qq ?_
 obtain⟨x1,ti,H⟩:=bk H
 obtain⟨ku,eY,h9,wo,Dc⟩:=Ev _ _ _ _ _ _ ti h8 _ _ _ _ _ _ ([]:List Nat) _ _ ((Has.front (Has.front (Has.front (Has.front (Has.front (Has.front (Has.front (Has.front vK 6 rfl) 1 rfl) 7 rfl) 4 rfl) 4 rfl) 7 rfl) 7 rfl) 7 rfl))  [.int .i64 t0.root,.ptr cV 0,.ptr eo 0,.ptr dW 0,.ptr aG 0,.ptr eT 0] (ar (aO (aW)) (ar (rfl) (ar (rfl) (ar (rfl) (ar (rfl) (ar (rfl) (bA)))))))
 have Dd:=Has.xz (pre:=[(cV,.ob [.mp eX]),(eX,.mp (oO x1.2.1)),(eo,.ob [af.fz x0]),(dW,.ob [.rs ku 0 x1.2.2.nodes.length 4,.int .i64 x1.2.2.root]),(ku,.sl x1.2.2.nodes.length 4 (gu.l (bF x1.2.2.nodes eY))),(aG,.ob [ai.fz t0.nodes,.int .i64 t0.root]),(eT,.ob [.fn 73 [.ptr cV 0,.ptr eo 0,.ptr dW 0,.ptr aG 0,.ptr eT 0]])]) (N:=[((0),.sl (([]:List aq).length) 4 (gu.l (bF ([]:List aq) ([]:List Nat))))]) (mid:=gi x1.2.2.nodes eY) Dc
 refine qr [.v 0 (show bl Try.prog h8 80 (.ptr eT 0)=some (.fn 73 [.ptr cV 0,.ptr eo 0,.ptr dW 0,.ptr aG 0,.ptr eT 0]) from bV (q:=0) (cs:=[.fn 73 [.ptr cV 0,.ptr eo 0,.ptr dW 0,.ptr aG 0,.ptr eT 0]]) vK rfl (by kernel_rfl)),.v 2 (show bl Try.prog h8 3 (.ptr aG 1)=some (.int .i64 t0.root) from bV (q:=7) (cs:=[ai.fz t0.nodes,.int .i64 t0.root]) vK rfl (by kernel_rfl)),.a 3 wo] ?_
 have jq:Has h9 ((cV,.ob [.mp eX])::(eX,.mp (oO x1.2.1))::(eo,.ob [af.fz x0])::(dW,.ob [.rs ku 0 x1.2.2.nodes.length 4,.int .i64 x1.2.2.root])::(ku,.sl x1.2.2.nodes.length 4 (gu.l (bF x1.2.2.nodes eY)))::(aG,.ob [ai.fz t0.nodes,.int .i64 t0.root])::((0),.sl (([]:List aq).length) 4 (gu.l (bF ([]:List aq) ([]:List Nat))))::(gi x1.2.2.nodes eY++L)):=Has.del Dd 6
 have vR:Has h9 ((cV,.ob [.mp eX])::(eX,.mp (oO x1.2.1))::(eo,.ob [af.fz x0])::(dW,.ob [.rs ku 0 x1.2.2.nodes.length 4,.int .i64 x1.2.2.root])::(ku,.sl x1.2.2.nodes.length 4 (gu.l (bF x1.2.2.nodes eY)))::((0),.sl (([]:List aq).length) 4 (gu.l (bF ([]:List aq) ([]:List Nat))))::(gi x1.2.2.nodes eY++L)):=Has.del jq 5
 have EN:Has h9 ((cV,.ob [.mp eX])::(eX,.mp (oO x1.2.1))::(dW,.ob [.rs ku 0 x1.2.2.nodes.length 4,.int .i64 x1.2.2.root])::(ku,.sl x1.2.2.nodes.length 4 (gu.l (bF x1.2.2.nodes eY)))::((0),.sl (([]:List aq).length) 4 (gu.l (bF ([]:List aq) ([]:List Nat))))::(gi x1.2.2.nodes eY++L)):=Has.del vR 2
 have zt:Has h9 ((cV,.ob [.mp eX])::(dW,.ob [.rs ku 0 x1.2.2.nodes.length 4,.int .i64 x1.2.2.root])::(ku,.sl x1.2.2.nodes.length 4 (gu.l (bF x1.2.2.nodes eY)))::((0),.sl (([]:List aq).length) 4 (gu.l (bF ([]:List aq) ([]:List Nat))))::(gi x1.2.2.nodes eY++L)):=Has.del EN 1
 have Df:Has h9 ((dW,.ob [.rs ku 0 x1.2.2.nodes.length 4,.int .i64 x1.2.2.root])::(ku,.sl x1.2.2.nodes.length 4 (gu.l (bF x1.2.2.nodes eY)))::((0),.sl (([]:List aq).length) 4 (gu.l (bF ([]:List aq) ([]:List Nat))))::(gi x1.2.2.nodes eY++L)):=Has.del zt 0
 refine qs [.v 0 (show bl Try.prog h9 42 (.ptr dW 0)=some (.agg [.rs ku 0 x1.2.2.nodes.length 4,.int .i64 x1.2.2.root]) from bV (q:=0) (cs:=[.rs ku 0 x1.2.2.nodes.length 4,.int .i64 x1.2.2.root]) Df rfl (by kernel_rfl))] ?_
 have De:Has h9 ((dW,.ob [.rs ku 0 x1.2.2.nodes.length 4,.int .i64 x1.2.2.root])::(ku,.sl x1.2.2.nodes.length 4 (gu.l (bF x1.2.2.nodes eY)))::(gi x1.2.2.nodes eY++L)):=Has.del Df 2
 have CI:Has h9 ((ku,.sl x1.2.2.nodes.length 4 (gu.l (bF x1.2.2.nodes eY)))::(gi x1.2.2.nodes eY++L)):=Has.del De 0
 obtain rfl:=oi H
 exact qt <| ⟨.inl rfl,⟨ku,eY,by kernel_rfl,he CI⟩⟩
end
end Go.Proofs.Ytifafejidnjckaa
namespace Go.Proofs.Ytifafejidnjckaa
open Go Go.R
open Go.IntKind (i64 u64 u8 u32)
def Bn:b5:=gV [0,1,2,3,6] [1,2] [25,9,19,19] [] [(0,[(2,some 0,4)]),(2,[(2,some 0,4)])]
def gh.f (m:Nat)(t0:bw):Option (bw × Int):=(gM.f m t0).bind fun x0=>if (!x0)=true then (some ((bw.mk ([]:List aq) (0:Int)),(2:Int))) else ((fB.f m t0).bind fun x1=>some (x1,(0:Int)))
def gh.fin (L:Mem)  (r:bw × Int)(s:St):Prop:=∃(eB:Nat) (eY:List Nat),aP Try.prog (s.open Bn) Try.f43.results.toList=some (.tup [.agg [.rs eB 0 r.1.nodes.length 4,.int .i64 r.1.root],.int .i64 r.2])∧Has s.h ((eB,.sl r.1.nodes.length 4 (gu.l (bF r.1.nodes eY)))::(gi r.1.nodes eY++L))
def Ru (cf:CallF)(m:Nat):Prop:=∀(t0:bw) (r:bw × Int),gh.f m t0=some r→∀h L xs,Has h L→aQ bQ h xs [.agg [ai.fz t0.nodes,.int .i64 t0.root]]→∃(eB:Nat) (eY:List Nat) (h':AHeap),cf 43 xs h=some (.tup [.agg [.rs eB 0 r.1.nodes.length 4,.int .i64 r.1.root],.int .i64 r.2],h')∧Has h' ((eB,.sl r.1.nodes.length 4 (gu.l (bF r.1.nodes eY)))::(gi r.1.nodes eY++L))∧∀j,j<h.next→h.ver j=h'.ver j
section
variable {cf:CallF}{m:Nat}
theorem q7 {aX:FuncId→b5}(ha:aX 43=Bn)(Pq:Rm cf m)(Pt:Rt cf m)(t0:bw)(h:AHeap)(L:Mem)  (o:Has h (L)){out:bw × Int}(H:gh.f m t0=some out) :
  ∃r h',a6 Try.prog aX cf m 43 [.agg [ai.fz t0.nodes,.int .i64 t0.root]] h=some (r,h')∧∃(eB:Nat) (eY:List Nat),r = .tup [.agg [.rs eB 0 out.1.nodes.length 4,.int .i64 out.1.root],.int .i64 out.2]∧Has h' ((eB,.sl out.1.nodes.length 4 (gu.l (bF out.1.nodes eY)))::(gi out.1.nodes eY++L)):=by
 refine au (fn:=Try.f43) ha Try.func43 (by kernel_rfl) (by kernel_rfl) ?_
 refine aK (Q:=fun s=>gh.fin L out s) (fun _ _ ⟨h1,eB,eY,h2,h3⟩=>⟨h1,_,h2,eB,eY,rfl,h3⟩) ?_
 have H:_=some out:=H
 unfold gh.f at H
 show du _ cf Bn m _ ⟨.agg [ai.fz t0.nodes,.int .i64 t0.root]::oc [],[none,none],h⟩ _
 refine q1 ?_
 have o0:Has h (((0),.sl (([]:List aq).length) 4 (gu.l (bF ([]:List aq) ([]:List Nat))))::L):=Has.nil o 4
 refine qq <| qq ?_
 obtain⟨x0,e0,H⟩:=bk H
 refine qr [.a 1 (Pq _ _ e0 h _ (eQ (ah (jT (ah (eG (E:=ai)) (ah (bD) (aw)))) (aw))))] <| qc H (fun c0 H=>?_) (fun c0 H=>?_)
 ·refine q1 ?_
  have o1:Has h ((((0)),.sl (([]:List aq).length) 4 (gu.l (bF ([]:List aq) ([]:List Nat))))::((0),.sl (([]:List aq).length) 4 (gu.l (bF ([]:List aq) ([]:List Nat))))::L):=Has.nil o0 4
  have o2:Has h ((((0)),.sl (([]:List aq).length) 4 (gu.l (bF ([]:List aq) ([]:List Nat))))::L):=Has.del o1 1
  obtain rfl:=oi H
  exact qt <| ⟨.inl rfl,⟨((0)),([]:List Nat),by kernel_rfl,he o2⟩⟩
 ·refine qk <| qq ?_
  obtain⟨x1,e1,H⟩:=bk H
  obtain⟨aG,cF,h0,e2,o3,Il⟩:=Pt _ _ e1 h _ _ o0 (eQ (ah (jT (ah (eG (E:=ai)) (ah (bD) (aw)))) (aw)))
  have o4:=Has.xz (pre:=[(aG,.sl x1.nodes.length 4 (gu.l (bF x1.nodes cF)))]) (N:=[((0),.sl (([]:List aq).length) 4 (gu.l (bF ([]:List aq) ([]:List Nat))))]) (mid:=gi x1.nodes cF) o3
  refine qr [.a 1 e2] ?_
  have o5:Has h0 ((aG,.sl x1.nodes.length 4 (gu.l (bF x1.nodes cF)))::(gi x1.nodes cF++L)):=Has.del o4 1
  obtain rfl:=oi H
  exact qt <| ⟨.inl rfl,⟨aG,cF,by kernel_rfl,he o5⟩⟩
end
end Go.Proofs.Ytifafejidnjckaa
namespace Go.Proofs.Ytifafejidnjckaa
open Go Go.R
open Go.IntKind (i64 u64 u8 u32)
end Go.Proofs.Ytifafejidnjckaa
namespace Go.Proofs.Ytifafejidnjckaa
open Go Go.R
open Go.IntKind (i64 u64 u8 u32)
def sS:b5:=gV [0,1,3,4,5,6,7,8,9,10,11,14,21,33,35,36,37,38,44,51,52,53] [3,6,10] [4194298,4192250,4194279,4194206,4190110,4194279,4194142,4185950,4194279,4079486,3948414,4078718,3816574,4078718,2505854,408702,2504830,2505854,2505854,4079486,4079486,4194279] [(19,[(10,some 3,0)])] [(3,[(6,some 0,4)]),(11,[(10,some 3,1)])]
def aC.l1 (m:Nat)(s0:ab)(v0:aq):Nat→Int→(List Int)→ab→Option (Int × (List Int) × ab)
 | 0,_,_,_=>none
 | k+1,x3,n0,s2=>if (decide (x3<(v0.args.length:Int)))=true then ((ix n0 x3).bind fun v1=>(ix n0 x3).bind fun v2=>aC.l1 m s0 v0 k (i64.wrap (x3+(1:Int))) (n0.set x3.toNat (i64.wrap (v1+(s0.aa.length:Int)))) s2) else (some ((x3,n0,s2)))
def aC.l2 (m:Nat)(s0:ab)(v0:aq):Nat→Int→(List Int)→ab→Option (Int × (List Int) × ab)
 | 0,_,_,_=>none
 | k+1,x7,n2,s4=>if (decide (x7<(v0.args.length:Int)))=true then ((ix n2 x7).bind fun v3=>(ix n2 x7).bind fun v4=>aC.l2 m s0 v0 k (i64.wrap (x7+(1:Int))) (n2.set x7.toNat (i64.wrap (v3+(s0.aa.length:Int)))) s4) else (some ((x7,n2,s4)))
def aC.l0 (m:Nat)(s0:ab)(x1:bw × Int):Nat→Int→ab→Option (Int × ab)
 | 0,_,_=>none
 | k+1,x2,s1=>if (decide (x2<(x1.1.nodes.length:Int)))=true then ((ix x1.1.nodes x2).bind fun v0=>if (v0.kind==(0:Int))=true then ((aC.l1 m s0 v0 m (0:Int) v0.args s1).bind fun cg=>match cg with | (x4,n1,s3)=>(app 56 s3.aa ([(aq.mk v0.kind (i64.wrap ((s0.aa.length:Int)+x2)) v0.label n1)])).bind fun x5=>(app 8 s3.ae ([i64.wrap ((s0.aa.length:Int)+x2)])).bind fun x6=>aC.l0 m s0 x1 k (i64.wrap (x2+(1:Int))) (ab.mk s3.aj x5 x6)) else ((aC.l2 m s0 v0 m (0:Int) v0.args s1).bind fun dr=>match dr with | (x8,n3,s5)=>(app 56 s5.aa ([(aq.mk v0.kind v0.int v0.label n3)])).bind fun x9=>(app 8 s5.ae ([i64.wrap ((s0.aa.length:Int)+x2)])).bind fun lG=>aC.l0 m s0 x1 k (i64.wrap (x2+(1:Int))) (ab.mk s5.aj x9 lG))) else (some ((x2,s1)))
def aC.f (m:Nat)(s0:ab)(t0:bw):Option (Int × Int × ab):=(bu.f m s0).bind fun x0=>if (!x0)=true then (some ((0:Int),(6:Int),s0)) else ((gh.f m t0).bind fun x1=>if (!(x1.2==(0:Int)))=true then (some ((0:Int),x1.2,s0)) else (if (decide ((i64.wrap ((s0.aa.length:Int)+(x1.1.nodes.length:Int))) > (8000:Int)))=true then (some ((0:Int),(7:Int),s0)) else ((aC.l0 m s0 x1 m (0:Int) s0).bind fun mM=>match mM with | (Db,s6)=>some ((s0.aa.length:Int),(0:Int),s6))))
def aC.fin (L:Mem)(ao:Nat)(ak:Nat)(an:Nat)(s0:ab)(t0:bw)(r:Int × Int × ab)(s:St):Prop:=∃aA aB:Nat,aP Try.prog (s.open sS) Try.f36.results.toList=some (.tup [.int .i64 r.1,.int .i64 r.2.1])∧Has s.h ((ao,.ob [.bool r.2.2.aj,.rs aA 0 r.2.2.aa.length 4,.rs aB 0 r.2.2.ae.length 1])::(aA,.sl r.2.2.aa.length 4 (ai.l r.2.2.aa))::(aB,.sl r.2.2.ae.length 1 (af.l r.2.2.ae))::L)
def Rv (cf:CallF)(m:Nat):Prop:=∀(s0:ab) (t0:bw) (r:Int × Int × ab),aC.f m s0 t0=some r→∀h L (ao:Nat) (ak:Nat) (an:Nat),Has h ((ao,.ob [.bool s0.aj,.rs ak 0 s0.aa.length 4,.rs an 0 s0.ae.length 1])::(ak,.sl s0.aa.length 4 (ai.l s0.aa))::(an,.sl s0.ae.length 1 (af.l s0.ae))::L)→∀xs,xs.map aM=[.ptr ao 0,.agg [ai.fz t0.nodes,.int .i64 t0.root]]→∃aA aB h',cf 36 xs h=some (.tup [.int .i64 r.1,.int .i64 r.2.1],h')∧Has h' ((ao,.ob [.bool r.2.2.aj,.rs aA 0 r.2.2.aa.length 4,.rs aB 0 r.2.2.ae.length 1])::(aA,.sl r.2.2.aa.length 4 (ai.l r.2.2.aa))::(aB,.sl r.2.2.ae.length 1 (af.l r.2.2.ae))::L)
section
variable {cf:CallF}{m:Nat}
theorem aC.kT (L:Mem)(ao:Nat)(ak:Nat)(an:Nat)(s0:ab)(t0:bw)(x1:bw × Int)(aG:Nat)(cF:List Nat)(x2:Int)(v0:aq)   : dY Try.prog cf sS m (sub [1,1,1,1,1,1,0,1,0,0,1,1,0,0,1,1,0,1,0,0] (b8 Try.f36)) (fun k (σ:Int × (List Int) × ab)=>aC.l1 m s0 v0 k σ.1 σ.2.1 σ.2.2) (fun σ s=>match σ with | (x3,n0,s2)=>∃cV dW eT h2,s=⟨.ptr ao 0::xk (.int .i64 (s0.aa.length:Int) :: .int .i64 x2 :: .lp 10 0::oc [.rs aG 0 x1.1.nodes.length 4,.int .i64 (x1.1.nodes.length:Int),.int .i64 x2,.any,.any,.int .i64 (v0.args.length:Int),.int .i64 x3,.any]),[none,none,some [.int .i64 v0.kind,.int .i64 (i64.wrap ((s0.aa.length:Int)+x2)),.str v0.label,.rs cV 0 n0.length 1]],h2⟩∧Has h2 ((cV,.sl n0.length 1 (af.l n0))::(aG,.sl x1.1.nodes.length 4 (gu.l (bF x1.1.nodes cF)))::(ao,.ob [.bool s2.aj,.rs dW 0 s2.aa.length 4,.rs eT 0 s2.ae.length 1])::(dW,.sl s2.aa.length 4 (ai.l s2.aa))::(eT,.sl s2.ae.length 1 (af.l s2.ae))::(gi (x1.1.nodes.drop ((i64.wrap (x2+(1:Int))).toNat)) (cF.drop ((i64.wrap (x2+(1:Int))).toNat))++L))) (fun out e s=>(e = .exit 2∧∃x3 n0 s2,(x3,n0,s2)=out∧∃Jz JA Ew cV dW eT h2,s=⟨.ptr ao 0::xk (.int .i64 (s0.aa.length:Int) :: .int .i64 x2 :: .lp 10 0::oc [.rs aG 0 x1.1.nodes.length 4,.int .i64 (x1.1.nodes.length:Int),.int .i64 x2,.any,.any,Jz,JA,Ew]),[none,none,some [.int .i64 v0.kind,.int .i64 (i64.wrap ((s0.aa.length:Int)+x2)),.str v0.label,.rs cV 0 n0.length 1]],h2⟩∧Has h2 ((cV,.sl n0.length 1 (af.l n0))::(aG,.sl x1.1.nodes.length 4 (gu.l (bF x1.1.nodes cF)))::(ao,.ob [.bool s2.aj,.rs dW 0 s2.aa.length 4,.rs eT 0 s2.ae.length 1])::(dW,.sl s2.aa.length 4 (ai.l s2.aa))::(eT,.sl s2.ae.length 1 (af.l s2.ae))::(gi (x1.1.nodes.drop ((i64.wrap (x2+(1:Int))).toNat)) (cF.drop ((i64.wrap (x2+(1:Int))).toNat))++L)))):=by
 refine mf (fun _=>rfl) ?_
 rintro k ⟨x3,n0,s2⟩ s out ⟨cV,dW,eT,h2,rfl,o6⟩ H
 have H:aC.l1 m s0 v0 (k+1) x3 n0 s2=some out:=H
 refine q1 <| qq <| qc H (fun c5 H=>?_) (fun c5 H=>?_)
 ·refine qk <| qq <| qb 3 <| qq <| q0 ?_
  obtain⟨v1,e4,H⟩:=bk H
  obtain⟨v2,e5,H⟩:=bk H
  obtain⟨h3,e6,o7⟩:=fJ (P:=Try.prog) (tf:=3) (E:=af) (l:=n0) (q:=0) (v:=(i64.wrap (v1+(s0.aa.length:Int)))) (x:=.int .i64 (i64.wrap (v1+(s0.aa.length:Int)))) o6 rfl Z3 e5 rfl rfl
  exact qr [.v 3 (bp (k:=.i64) (E:=af) (l:=n0) (q:=0) gI o6 rfl e4),.v 4 (dH  (E:=af) (l:=n0) (q:=0) o6 rfl A3 e4 rfl),.v 7 (bp (k:=.i64) (E:=af) (l:=n0) (q:=0) gI o6 rfl e5),.w 8 e6] <| q0 <| ⟨(i64.wrap (x3+(1:Int)),n0.set x3.toNat (i64.wrap (v1+(s0.aa.length:Int))),s2),⟨cV,dW,eT,h3,(WX (b:=⟨.ptr ao 0::xk (.int .i64 (s0.aa.length:Int) :: .int .i64 x2 :: .lp 10 0::oc [.rs aG 0 x1.1.nodes.length 4,.int .i64 (x1.1.nodes.length:Int),.int .i64 x2,.any,.any,.int .i64 (v0.args.length:Int),.int .i64 (i64.wrap (x3+(1:Int))),.any]),[none,none,some [.int .i64 v0.kind,.int .i64 (i64.wrap ((s0.aa.length:Int)+x2)),.str v0.label,.rs cV 0 n0.length 1]],h3⟩) (by kernel_rfl) (by simp only [VC])),(by have o:Has h3 ((cV,.sl n0.length 1 (af.l (n0.set x3.toNat (i64.wrap (v1+(s0.aa.length:Int))))))::(aG,.sl x1.1.nodes.length 4 (gu.l (bF x1.1.nodes cF)))::(ao,.ob [.bool s2.aj,.rs dW 0 s2.aa.length 4,.rs eT 0 s2.ae.length 1])::(dW,.sl s2.aa.length 4 (ai.l s2.aa))::(eT,.sl s2.ae.length 1 (af.l s2.ae))::(gi (x1.1.nodes.drop ((i64.wrap (x2+(1:Int))).toNat)) (cF.drop ((i64.wrap (x2+(1:Int))).toNat))++L)):=o7; simpa only [VC] using o)⟩,H⟩
 ·exact qx 2 <| ⟨rfl,x3,n0,s2,oi H,.int .i64 (v0.args.length:Int),.int .i64 x3,.bool (decide (x3<(v0.args.length:Int))),cV,dW,eT,h2,by kernel_rfl,o6⟩
theorem aC.sP (L:Mem)(ao:Nat)(ak:Nat)(an:Nat)(s0:ab)(t0:bw)(x1:bw × Int)(aG:Nat)(cF:List Nat)(x2:Int)(v0:aq)   : dY Try.prog cf sS m (sub [1,1,1,1,1,1,0,1,0,0,1,1,0,0,1,1,0,1,0,0] (b8 Try.f36)) (fun k (σ:Int × (List Int) × ab)=>aC.l2 m s0 v0 k σ.1 σ.2.1 σ.2.2) (fun σ s=>match σ with | (x7,n2,s4)=>∃bX j8 kW h10,s=⟨.ptr ao 0::xk (.int .i64 (s0.aa.length:Int) :: .int .i64 x2 :: .lp 10 0::oc [.rs aG 0 x1.1.nodes.length 4,.int .i64 (x1.1.nodes.length:Int),.int .i64 x2,.any,.any,.int .i64 (v0.args.length:Int),.int .i64 x7,.any]),[none,none,some [.int .i64 v0.kind,.int .i64 v0.int,.str v0.label,.rs bX 0 n2.length 1]],h10⟩∧Has h10 ((bX,.sl n2.length 1 (af.l n2))::(aG,.sl x1.1.nodes.length 4 (gu.l (bF x1.1.nodes cF)))::(ao,.ob [.bool s4.aj,.rs j8 0 s4.aa.length 4,.rs kW 0 s4.ae.length 1])::(j8,.sl s4.aa.length 4 (ai.l s4.aa))::(kW,.sl s4.ae.length 1 (af.l s4.ae))::(gi (x1.1.nodes.drop ((i64.wrap (x2+(1:Int))).toNat)) (cF.drop ((i64.wrap (x2+(1:Int))).toNat))++L))) (fun out e s=>(e = .exit 2∧∃x7 n2 s4,(x7,n2,s4)=out∧∃Jz JA Ew bX j8 kW h10,s=⟨.ptr ao 0::xk (.int .i64 (s0.aa.length:Int) :: .int .i64 x2 :: .lp 10 0::oc [.rs aG 0 x1.1.nodes.length 4,.int .i64 (x1.1.nodes.length:Int),.int .i64 x2,.any,.any,Jz,JA,Ew]),[none,none,some [.int .i64 v0.kind,.int .i64 v0.int,.str v0.label,.rs bX 0 n2.length 1]],h10⟩∧Has h10 ((bX,.sl n2.length 1 (af.l n2))::(aG,.sl x1.1.nodes.length 4 (gu.l (bF x1.1.nodes cF)))::(ao,.ob [.bool s4.aj,.rs j8 0 s4.aa.length 4,.rs kW 0 s4.ae.length 1])::(j8,.sl s4.aa.length 4 (ai.l s4.aa))::(kW,.sl s4.ae.length 1 (af.l s4.ae))::(gi (x1.1.nodes.drop ((i64.wrap (x2+(1:Int))).toNat)) (cF.drop ((i64.wrap (x2+(1:Int))).toNat))++L)))):=by
 refine mf (fun _=>rfl) ?_
 rintro k ⟨x7,n2,s4⟩ s out ⟨bX,j8,kW,h10,rfl,vR⟩ H
 have H:aC.l2 m s0 v0 (k+1) x7 n2 s4=some out:=H
 refine q1 <| qq <| qc H (fun c6 H=>?_) (fun c6 H=>?_)
 ·refine qk <| qq <| qb 3 <| qq <| q0 ?_
  obtain⟨v3,A4,H⟩:=bk H
  obtain⟨v4,EH,H⟩:=bk H
  obtain⟨h11,EI,EN⟩:=fJ (P:=Try.prog) (tf:=3) (E:=af) (l:=n2) (q:=0) (v:=(i64.wrap (v3+(s0.aa.length:Int)))) (x:=.int .i64 (i64.wrap (v3+(s0.aa.length:Int)))) vR rfl Z3 EH rfl rfl
  exact qr [.v 3 (bp (k:=.i64) (E:=af) (l:=n2) (q:=0) gI vR rfl A4),.v 4 (dH  (E:=af) (l:=n2) (q:=0) vR rfl A3 A4 rfl),.v 7 (bp (k:=.i64) (E:=af) (l:=n2) (q:=0) gI vR rfl EH),.w 8 EI] <| q0 <| ⟨(i64.wrap (x7+(1:Int)),n2.set x7.toNat (i64.wrap (v3+(s0.aa.length:Int))),s4),⟨bX,j8,kW,h11,(WX (b:=⟨.ptr ao 0::xk (.int .i64 (s0.aa.length:Int) :: .int .i64 x2 :: .lp 10 0::oc [.rs aG 0 x1.1.nodes.length 4,.int .i64 (x1.1.nodes.length:Int),.int .i64 x2,.any,.any,.int .i64 (v0.args.length:Int),.int .i64 (i64.wrap (x7+(1:Int))),.any]),[none,none,some [.int .i64 v0.kind,.int .i64 v0.int,.str v0.label,.rs bX 0 n2.length 1]],h11⟩) (by kernel_rfl) (by simp only [VC])),(by have o:Has h11 ((bX,.sl n2.length 1 (af.l (n2.set x7.toNat (i64.wrap (v3+(s0.aa.length:Int))))))::(aG,.sl x1.1.nodes.length 4 (gu.l (bF x1.1.nodes cF)))::(ao,.ob [.bool s4.aj,.rs j8 0 s4.aa.length 4,.rs kW 0 s4.ae.length 1])::(j8,.sl s4.aa.length 4 (ai.l s4.aa))::(kW,.sl s4.ae.length 1 (af.l s4.ae))::(gi (x1.1.nodes.drop ((i64.wrap (x2+(1:Int))).toNat)) (cF.drop ((i64.wrap (x2+(1:Int))).toNat))++L)):=EN; simpa only [VC] using o)⟩,H⟩
 ·exact qx 2 <| ⟨rfl,x7,n2,s4,oi H,.int .i64 (v0.args.length:Int),.int .i64 x7,.bool (decide (x7<(v0.args.length:Int))),bX,j8,kW,h10,by kernel_rfl,vR⟩
theorem aC.dy (L:Mem)(ao:Nat)(ak:Nat)(an:Nat)(s0:ab)(t0:bw)(x1:bw × Int)(aG:Nat)(cF:List Nat)   : dY Try.prog cf sS m (sub [1,1,1,1,1,1,0,1,0,0] (b8 Try.f36)) (fun k (σ:Int × ab)=>aC.l0 m s0 x1 k σ.1 σ.2) (fun σ s=>match σ with | (x2,s1)=>∃eo eX h1,s=⟨.ptr ao 0::xk (.int .i64 (s0.aa.length:Int)::xk (.rs aG 0 x1.1.nodes.length 4 :: .int .i64 (x1.1.nodes.length:Int) :: .int .i64 x2::C9 [])),[none,none,none],h1⟩∧Has h1 ((aG,.sl x1.1.nodes.length 4 (gu.l (bF x1.1.nodes cF)))::(ao,.ob [.bool s1.aj,.rs eo 0 s1.aa.length 4,.rs eX 0 s1.ae.length 1])::(eo,.sl s1.aa.length 4 (ai.l s1.aa))::(eX,.sl s1.ae.length 1 (af.l s1.ae))::(gi (x1.1.nodes.drop x2.toNat) (cF.drop x2.toNat)++L))) (fun out e s=>(e = .exit 0∧∃x2 s1,(x2,s1)=out∧∃oU Jt Pu EW EX eo eX h1,s=⟨oU::xk (.int .i64 (s0.aa.length:Int)::xk (Jt::Pu::EW::EX::oc [])),[none,none,none],h1⟩∧Has h1 ((aG,.sl x1.1.nodes.length 4 (gu.l (bF x1.1.nodes cF)))::(ao,.ob [.bool s1.aj,.rs eo 0 s1.aa.length 4,.rs eX 0 s1.ae.length 1])::(eo,.sl s1.aa.length 4 (ai.l s1.aa))::(eX,.sl s1.ae.length 1 (af.l s1.ae))::(gi (x1.1.nodes.drop x2.toNat) (cF.drop x2.toNat)++L)))):=by
 refine mf (fun _=>rfl) ?_
 rintro k ⟨x2,s1⟩ s out ⟨eo,eX,h1,rfl,o4⟩ H
 have H:aC.l0 m s0 x1 (k+1) x2 s1=some out:=H
 refine q1 <| qq <| qc H (fun c3 H=>?_) (fun c3 H=>?_)
 ·refine qk <| qq <| qb 1 <| qq ?_
  obtain⟨v0,e3,H⟩:=bk H
  have o5:=Er (pre:=[(aG,.sl x1.1.nodes.length 4 (gu.l (bF x1.1.nodes cF))),(ao,.ob [.bool s1.aj,.rs eo 0 s1.aa.length 4,.rs eX 0 s1.ae.length 1]),(eo,.sl s1.aa.length 4 (ai.l s1.aa)),(eX,.sl s1.ae.length 1 (af.l s1.ae))]) (q:=0) (ns:=x1.1.nodes) (ids:=cF) o4 rfl e3
  refine qr [.v 1 (bp (k:=.i64) (E:=gu) (l:=(bF x1.1.nodes cF)) (q:=0) yA o4 rfl (rB e3)),.v 2 (vq  (E:=gu) (l:=(bF x1.1.nodes cF)) (q:=0) o4 rfl F5 F6 (rB e3))] <| qq <| qq <| q0 <| qc H (fun c4 H=>?_) (fun c4 H=>?_)
  ·refine q0 <| qq <| qq <| q0 <| qb 2 ?_
   obtain⟨cg,e7,H⟩:=bk H
   refine ql (aC.kT L ao ak an s0 t0 x1 aG cF x2 v0   ((0:Int),v0.args,s1) _ _ ⟨(Kd cF x2),eo,eX,h1,by kernel_rfl,o5⟩ e7) ?_
   rintro e s ⟨rfl,x4,n1,s3,rfl,g0,g1,g2,ku,ju,lf,h4,rfl,o8⟩
   try dsimp only at H
   obtain⟨h5,e8,o9⟩:=so (E:=af) (l:=n1) (q:=0) o8 rfl
   obtain⟨x5,e9,H⟩:=bk H
   obtain⟨tG,h6,ti,vK⟩:=iH (P:=Try.prog) (E:=ai) (l:=s3.aa) (q:=2) (t2:=40) (x:=.fz [.int .i64 v0.kind,.int .i64 (i64.wrap ((s0.aa.length:Int)+x2)),.str v0.label,af.fz n1] 1 true) (l2:=([(aq.mk v0.kind (i64.wrap ((s0.aa.length:Int)+x2)) v0.label n1)])) yA o9 rfl (by kernel_rfl) rfl e9
   obtain⟨x6,wo,H⟩:=bk H
   obtain⟨gd,h7,zm,Dc⟩:=iH (P:=Try.prog) (E:=af) (l:=s3.ae) (q:=3) (t2:=33) (x:=.fz [.int .i64 (i64.wrap ((s0.aa.length:Int)+x2))] 1 true) (l2:=([i64.wrap ((s0.aa.length:Int)+x2)])) gI vK rfl (by kernel_rfl) rfl wo
   obtain⟨h8,zn,Dd⟩:=nD (P:=Try.prog) (t:=40) (off:=1) (q:=1) (cs:=[.bool s3.aj,.rs ju 0 s3.aa.length 4,.rs lf 0 s3.ae.length 1]) (fi:=[.bool s3.aj,.rs tG 0 x5.length 4,.rs lf 0 s3.ae.length 1]) (x:=.rs tG 0 x5.length 4) Dc rfl (by kernel_rfl)
   obtain⟨h9,AI,jq⟩:=nD (P:=Try.prog) (t:=33) (off:=2) (q:=1) (cs:=[.bool s3.aj,.rs tG 0 x5.length 4,.rs lf 0 s3.ae.length 1]) (fi:=[.bool s3.aj,.rs tG 0 x5.length 4,.rs gd 0 x6.length 1]) (x:=.rs gd 0 x6.length 1) Dd rfl (by kernel_rfl)
   exact Kf [.a 0 e8] [.v 5 (show bl Try.prog h5 40 (.ptr ao 1)=some (.rs ju 0 s3.aa.length 4) from bV (q:=1) (cs:=[.bool s3.aj,.rs ju 0 s3.aa.length 4,.rs lf 0 s3.ae.length 1]) o9 rfl (by kernel_rfl)),.a 8 ti,.v 12 (show bl Try.prog h6 33 (.ptr ao 2)=some (.rs lf 0 s3.ae.length 1) from bV (q:=1) (cs:=[.bool s3.aj,.rs ju 0 s3.aa.length 4,.rs lf 0 s3.ae.length 1]) vK rfl (by kernel_rfl)),.a 17 zm,.w 20 zn,.w 23 AI] [.mk (zi o9 (q:=2) rfl (q2:=1) rfl (by decide) ti)] <| q0 <| ⟨(i64.wrap (x2+(1:Int)),(ab.mk s3.aj x5 x6)),⟨tG,gd,h9,by kernel_rfl,jq⟩,H⟩
  ·refine qk <| qq <| qq <| q0 <| qb 2 ?_
   obtain⟨dr,EJ,H⟩:=bk H
   refine ql (aC.sP L ao ak an s0 t0 x1 aG cF x2 v0   ((0:Int),v0.args,s1) _ _ ⟨(Kd cF x2),eo,eX,h1,by kernel_rfl,o5⟩ EJ) ?_
   rintro e s ⟨rfl,x8,n3,s5,rfl,g3,g4,g5,vP,tH,kB,h12,rfl,zt⟩
   try dsimp only at H
   obtain⟨h13,CH,Df⟩:=so (E:=af) (l:=n3) (q:=0) zt rfl
   obtain⟨x9,F7,H⟩:=bk H
   obtain⟨kX,h14,EK,De⟩:=iH (P:=Try.prog) (E:=ai) (l:=s5.aa) (q:=2) (t2:=40) (x:=.fz [.int .i64 v0.kind,.int .i64 v0.int,.str v0.label,af.fz n3] 1 true) (l2:=([(aq.mk v0.kind v0.int v0.label n3)])) yA Df rfl (by kernel_rfl) rfl F7
   obtain⟨lG,EL,H⟩:=bk H
   obtain⟨oZ,h15,F8,CI⟩:=iH (P:=Try.prog) (E:=af) (l:=s5.ae) (q:=3) (t2:=33) (x:=.fz [.int .i64 (i64.wrap ((s0.aa.length:Int)+x2))] 1 true) (l2:=([i64.wrap ((s0.aa.length:Int)+x2)])) gI De rfl (by kernel_rfl) rfl EL
   obtain⟨h16,F9,LW⟩:=nD (P:=Try.prog) (t:=40) (off:=1) (q:=1) (cs:=[.bool s5.aj,.rs tH 0 s5.aa.length 4,.rs kB 0 s5.ae.length 1]) (fi:=[.bool s5.aj,.rs kX 0 x9.length 4,.rs kB 0 s5.ae.length 1]) (x:=.rs kX 0 x9.length 4) CI rfl (by kernel_rfl)
   obtain⟨h17,Ga,CJ⟩:=nD (P:=Try.prog) (t:=33) (off:=2) (q:=1) (cs:=[.bool s5.aj,.rs kX 0 x9.length 4,.rs kB 0 s5.ae.length 1]) (fi:=[.bool s5.aj,.rs kX 0 x9.length 4,.rs oZ 0 lG.length 1]) (x:=.rs oZ 0 lG.length 1) LW rfl (by kernel_rfl)
   exact Kf [.a 0 CH] [.v 5 (show bl Try.prog h13 40 (.ptr ao 1)=some (.rs tH 0 s5.aa.length 4) from bV (q:=1) (cs:=[.bool s5.aj,.rs tH 0 s5.aa.length 4,.rs kB 0 s5.ae.length 1]) Df rfl (by kernel_rfl)),.a 8 EK,.v 12 (show bl Try.prog h14 33 (.ptr ao 2)=some (.rs kB 0 s5.ae.length 1) from bV (q:=1) (cs:=[.bool s5.aj,.rs tH 0 s5.aa.length 4,.rs kB 0 s5.ae.length 1]) De rfl (by kernel_rfl)),.a 17 F8,.w 20 F9,.w 23 Ga] [.mk (zi Df (q:=2) rfl (q2:=1) rfl (by decide) EK)] <| q0 <| ⟨(i64.wrap (x2+(1:Int)),(ab.mk s5.aj x9 lG)),⟨kX,oZ,h17,by kernel_rfl,CJ⟩,H⟩
 ·exact qx 0 <| ⟨rfl,x2,s1,oi H,.ptr ao 0,.rs aG 0 x1.1.nodes.length 4,.int .i64 (x1.1.nodes.length:Int),.int .i64 x2,.bool (decide (x2<(x1.1.nodes.length:Int))),eo,eX,h1,by kernel_rfl,o4⟩
theorem mP {aX:FuncId→b5}(ha:aX 36=sS)(vI:Kh cf m)(Pv:Ru cf m)(s0:ab)(t0:bw)(h:AHeap)(L:Mem)(ao:Nat)(ak:Nat)(an:Nat)  (o:Has h ((ao,.ob [.bool s0.aj,.rs ak 0 s0.aa.length 4,.rs an 0 s0.ae.length 1])::(ak,.sl s0.aa.length 4 (ai.l s0.aa))::(an,.sl s0.ae.length 1 (af.l s0.ae))::L)){out:Int × Int × ab}(H:aC.f m s0 t0=some out) :
  ∃r h',a6 Try.prog aX cf m 36 [.ptr ao 0,.agg [ai.fz t0.nodes,.int .i64 t0.root]] h=some (r,h')∧∃aA aB:Nat,r = .tup [.int .i64 out.1,.int .i64 out.2.1]∧Has h' ((ao,.ob [.bool out.2.2.aj,.rs aA 0 out.2.2.aa.length 4,.rs aB 0 out.2.2.ae.length 1])::(aA,.sl out.2.2.aa.length 4 (ai.l out.2.2.aa))::(aB,.sl out.2.2.ae.length 1 (af.l out.2.2.ae))::L):=by
 refine au (fn:=Try.f36) ha Try.func36 (by kernel_rfl) (by kernel_rfl) ?_
 refine aK (Q:=fun s=>aC.fin L ao ak an s0 t0 out s) (fun _ _ ⟨h1,aA,aB,h2,h3⟩=>⟨h1,_,h2,aA,aB,rfl,h3⟩) ?_
 have H:_=some out:=H
 unfold aC.f at H
 show du _ cf sS m _ ⟨.ptr ao 0 :: .agg [ai.fz t0.nodes,.int .i64 t0.root]::NV [],[none,none,none],h⟩ _
 refine q1 <| qq <| qq ?_
 obtain⟨x0,e0,H⟩:=bk H
 refine qr [.a 1 (vI _ _ e0 h _ (eQ (ah (bS (q:=0) o rfl (ah (b4) (ah (bI (E:=ai) (l:=s0.aa) (q:=1) o rfl (fun _=>rfl)) (ah (bI (E:=af) (l:=s0.ae) (q:=2) o rfl (fun _=>rfl)) (aw))))) (aw))))] <| qc H (fun c0 H=>?_) (fun c0 H=>?_)
 ·obtain rfl:=oi H
  exact q1 <| qt <| ⟨.inl rfl,⟨ak,an,by kernel_rfl,he o⟩⟩
 ·refine qk <| qq ?_
  obtain⟨x1,e1,H⟩:=bk H
  obtain⟨aG,cF,h0,e2,o0,Il⟩:=Pv _ _ e1 h _ _ o (eQ (ah (jT (ah (eG (E:=ai)) (ah (bD) (aw)))) (aw)))
  have o1:=Has.xz (pre:=[(aG,.sl x1.1.nodes.length 4 (gu.l (bF x1.1.nodes cF)))]) (N:=[(ao,.ob [.bool s0.aj,.rs ak 0 s0.aa.length 4,.rs an 0 s0.ae.length 1]),(ak,.sl s0.aa.length 4 (ai.l s0.aa)),(an,.sl s0.ae.length 1 (af.l s0.ae))]) (mid:=gi x1.1.nodes cF) o0
  refine qr [.a 1 e2] <| qq <| qq <| q0 <| qc H (fun c1 H=>?_) (fun c1 H=>?_)
  ·refine q1 ?_
   have o2:Has h0 ((ao,.ob [.bool s0.aj,.rs ak 0 s0.aa.length 4,.rs an 0 s0.ae.length 1])::(ak,.sl s0.aa.length 4 (ai.l s0.aa))::(an,.sl s0.ae.length 1 (af.l s0.ae))::L):=Has.gone (pre:=[(ao,.ob [.bool s0.aj,.rs ak 0 s0.aa.length 4,.rs an 0 s0.ae.length 1]),(ak,.sl s0.aa.length 4 (ai.l s0.aa)),(an,.sl s0.ae.length 1 (af.l s0.ae))]) (Has.del o1 0)
   obtain rfl:=oi H
   exact qt <| ⟨.inl rfl,⟨ak,an,by kernel_rfl,he o2⟩⟩
  ·refine qk <| qq <| qr [.v 3 (show bl Try.prog h0 40 (.ptr ao 1)=some (.rs ak 0 s0.aa.length 4) from bV (q:=1) (cs:=[.bool s0.aj,.rs ak 0 s0.aa.length 4,.rs an 0 s0.ae.length 1]) o1 rfl (by kernel_rfl))] <| qq <| qq <| q0 <| qc H (fun c2 H=>?_) (fun c2 H=>?_)
   ·refine q1 ?_
    have o3:Has h0 ((ao,.ob [.bool s0.aj,.rs ak 0 s0.aa.length 4,.rs an 0 s0.ae.length 1])::(ak,.sl s0.aa.length 4 (ai.l s0.aa))::(an,.sl s0.ae.length 1 (af.l s0.ae))::L):=Has.gone (pre:=[(ao,.ob [.bool s0.aj,.rs ak 0 s0.aa.length 4,.rs an 0 s0.ae.length 1]),(ak,.sl s0.aa.length 4 (ai.l s0.aa)),(an,.sl s0.ae.length 1 (af.l s0.ae))]) (Has.del o1 0)
    obtain rfl:=oi H
    exact qt <| ⟨.inl rfl,⟨ak,an,by kernel_rfl,he o3⟩⟩
   ·refine qk <| qq <| qq <| q0 <| qb 0 ?_
    obtain⟨mM,H2,H⟩:=bk H
    refine ql (aC.dy L ao ak an s0 t0 x1 aG cF   ((0:Int),s0) _ _ ⟨ak,an,h0,by kernel_rfl,o1⟩ H2) ?_
    rintro e s ⟨rfl,Db,s6,rfl,g6,g7,g8,g9,g10,nn,vQ,h18,rfl,Jy⟩
    try dsimp only at H
    refine q1 ?_
    have LX:Has h18 ((ao,.ob [.bool s6.aj,.rs nn 0 s6.aa.length 4,.rs vQ 0 s6.ae.length 1])::(nn,.sl s6.aa.length 4 (ai.l s6.aa))::(vQ,.sl s6.ae.length 1 (af.l s6.ae))::L):=Has.gone (pre:=[(ao,.ob [.bool s6.aj,.rs nn 0 s6.aa.length 4,.rs vQ 0 s6.ae.length 1]),(nn,.sl s6.aa.length 4 (ai.l s6.aa)),(vQ,.sl s6.ae.length 1 (af.l s6.ae))]) (Has.del Jy 0)
    obtain rfl:=oi H
    exact qt <| ⟨.inl rfl,⟨nn,vQ,by kernel_rfl,he LX⟩⟩
end
end Go.Proofs.Ytifafejidnjckaa
namespace Go.Proofs.Ytifafejidnjckaa
open Go Go.R
open Go.IntKind (i64 u64 u8 u32)
def Bo:b5:=gV [0,1,3,4,5,7,8,15,24,33,44,55,64,75] [3] [16378,16362,16330,16266,16367,16202,16367,16074,16367,15818,16367,15306,16367,14282,16367,12234,16367,8170,16367,16375] [] []
def fM.f (m:Nat)(s0:ab)(x0:aN):Option (Int × ab):=if (x0.eh==(0:Int))=true then ((eC.f m s0).bind fun x1=>some (x1.2.1,x1.2.2)) else (if (x0.eh==(1:Int))=true then ((eD.f m s0 x0.rD).bind fun x2=>some (x2.2.1,x2.2.2)) else (if (x0.eh==(2:Int))=true then ((en.f m s0 x0.dV).bind fun x3=>some (x3.2.1,x3.2.2)) else (if (x0.eh==(3:Int))=true then ((dN.f m s0 x0.dV x0.eW).bind fun x4=>some (x4.2.1,x4.2.2)) else (if (x0.eh==(4:Int))=true then ((ei.f m s0 x0.dV x0.rD).bind fun x5=>some (x5.2.1,x5.2.2)) else (if (x0.eh==(5:Int))=true then ((aC.f m s0 x0.qN).bind fun x6=>some (x6.2.1,x6.2.2)) else (if (x0.eh==(6:Int))=true then ((dh.f m s0 x0.rD x0.yz).bind fun x7=>some (x7.2.1,x7.2.2)) else (if (x0.eh==(7:Int))=true then ((dB.f m s0 x0.rD x0.yz).bind fun x8=>some (x8.2.2.1,x8.2.2.2)) else (some ((0:Int),s0)))))))))
def fM.fin (L:Mem)(ao:Nat)(ak:Nat)(an:Nat)(s0:ab)(x0:aN)(r:Int × ab)(s:St):Prop:=∃aA aB:Nat,aP Try.prog (s.open Bo) Try.f17.results.toList=some (.int .i64 r.1)∧Has s.h ((ao,.ob [.bool r.2.aj,.rs aA 0 r.2.aa.length 4,.rs aB 0 r.2.ae.length 1])::(aA,.sl r.2.aa.length 4 (ai.l r.2.aa))::(aB,.sl r.2.ae.length 1 (af.l r.2.ae))::L)
def Kn (cf:CallF)(m:Nat):Prop:=∀(s0:ab) (x0:aN) (r:Int × ab),fM.f m s0 x0=some r→∀h L (ao:Nat) (ak:Nat) (an:Nat),Has h ((ao,.ob [.bool s0.aj,.rs ak 0 s0.aa.length 4,.rs an 0 s0.ae.length 1])::(ak,.sl s0.aa.length 4 (ai.l s0.aa))::(an,.sl s0.ae.length 1 (af.l s0.ae))::L)→∀xs,xs.map aM=[.ptr ao 0,.agg [.int .i64 x0.eh,.int .i64 x0.rD,.int .i64 x0.yz,.str x0.dV,af.fz x0.eW,ai.fz x0.qN.nodes,.int .i64 x0.qN.root]]→∃aA aB h',cf 17 xs h=some (.int .i64 r.1,h')∧Has h' ((ao,.ob [.bool r.2.aj,.rs aA 0 r.2.aa.length 4,.rs aB 0 r.2.ae.length 1])::(aA,.sl r.2.aa.length 4 (ai.l r.2.aa))::(aB,.sl r.2.ae.length 1 (af.l r.2.ae))::L)
section
variable {cf:CallF}{m:Nat}
theorem tJ {aX:FuncId→b5}(ha:aX 17=Bo)(Pw:Rc cf m)(Px:Re cf m)(Py:QR cf m)(Pz:Rl cf m)(PA:QS cf m)(PB:Rf cf m)(PC:Q8 cf m)(PD:Rv cf m)(s0:ab)(x0:aN)(h:AHeap)(L:Mem)(ao:Nat)(ak:Nat)(an:Nat)  (o:Has h ((ao,.ob [.bool s0.aj,.rs ak 0 s0.aa.length 4,.rs an 0 s0.ae.length 1])::(ak,.sl s0.aa.length 4 (ai.l s0.aa))::(an,.sl s0.ae.length 1 (af.l s0.ae))::L)){out:Int × ab}(H:fM.f m s0 x0=some out) :
  ∃r h',a6 Try.prog aX cf m 17 [.ptr ao 0,.agg [.int .i64 x0.eh,.int .i64 x0.rD,.int .i64 x0.yz,.str x0.dV,af.fz x0.eW,ai.fz x0.qN.nodes,.int .i64 x0.qN.root]] h=some (r,h')∧∃aA aB:Nat,r = .int .i64 out.1∧Has h' ((ao,.ob [.bool out.2.aj,.rs aA 0 out.2.aa.length 4,.rs aB 0 out.2.ae.length 1])::(aA,.sl out.2.aa.length 4 (ai.l out.2.aa))::(aB,.sl out.2.ae.length 1 (af.l out.2.ae))::L):=by
 refine au (fn:=Try.f17) ha Try.func17 (by kernel_rfl) (by kernel_rfl) ?_
 refine aK (Q:=fun s=>fM.fin L ao ak an s0 x0 out s) (fun _ _ ⟨h1,aA,aB,h2,h3⟩=>⟨h1,_,h2,aA,aB,rfl,h3⟩) ?_
 have H:_=some out:=H
 unfold fM.f at H
 show du _ cf Bo m _ ⟨.ptr ao 0 :: .agg [.int .i64 x0.eh,.int .i64 x0.rD,.int .i64 x0.yz,.str x0.dV,af.fz x0.eW,ai.fz x0.qN.nodes,.int .i64 x0.qN.root]::vz [],[none],h⟩ _
 refine q1 <| qq <| q0 <| qq <| qq <| q0 <| qb 0 <| qq <| q0 <| qc H (fun c0 H=>?_) (fun c0 H=>?_)
 ·obtain⟨x1,e0,H⟩:=bk H
  obtain⟨aG,eo,h0,e1,o0⟩:=Py _ _ e0 h _ _ _ _ (o)  [.ptr ao 0] (ar (rfl) (bA))
  obtain rfl:=oi H
  exact qr [.a 1 e1] <| qq <| q0 <| qt <| ⟨.inl rfl,⟨aG,eo,by kernel_rfl,he o0⟩⟩
 ·refine q1 <| qc H (fun c1 H=>?_) (fun c1 H=>?_)
  ·obtain⟨x2,e2,H⟩:=bk H
   obtain⟨eX,cV,h1,e3,o1⟩:=PA _ _ _ e2 h _ _ _ _ (o)  [.ptr ao 0,.int .i64 x0.rD] (ar (rfl) (ar (aO (aW)) (bA)))
   obtain rfl:=oi H
   exact qr [.a 3 e3] <| qq <| q0 <| qt <| ⟨.inl rfl,⟨eX,cV,by kernel_rfl,he o1⟩⟩
  ·refine q1 <| qc H (fun c2 H=>?_) (fun c2 H=>?_)
   ·obtain⟨x3,e4,H⟩:=bk H
    obtain⟨dW,eT,h2,e5,o2⟩:=Pz _ _ _ e4 h _ _ _ _ (o)  [.ptr ao 0,.str x0.dV] (ar (rfl) (ar (aO (iT)) (bA)))
    obtain rfl:=oi H
    exact qr [.a 3 e5] <| qq <| q0 <| qt <| ⟨.inl rfl,⟨dW,eT,by kernel_rfl,he o2⟩⟩
   ·refine q1 <| qc H (fun c3 H=>?_) (fun c3 H=>?_)
    ·obtain⟨x4,e6,H⟩:=bk H
     obtain⟨ku,ju,h3,e7,o3⟩:=PB _ _ _ _ e6 h _ _ _ _ (o)  [.ptr ao 0,.str x0.dV,af.fz x0.eW] (ar (rfl) (ar (aO (iT)) (ar (aO (jg (E:=af))) (bA))))
     obtain rfl:=oi H
     exact qr [.a 5 e7] <| qq <| q0 <| qt <| ⟨.inl rfl,⟨ku,ju,by kernel_rfl,he o3⟩⟩
    ·refine q1 <| qc H (fun c4 H=>?_) (fun c4 H=>?_)
     ·obtain⟨x5,e8,H⟩:=bk H
      obtain⟨lf,tG,h4,e9,o4⟩:=PC _ _ _ _ e8 h _ _ _ _ (o)  [.ptr ao 0,.str x0.dV,.int .i64 x0.rD] (ar (rfl) (ar (aO (iT)) (ar (aO (aW)) (bA))))
      obtain rfl:=oi H
      exact qr [.a 5 e9] <| qq <| q0 <| qt <| ⟨.inl rfl,⟨lf,tG,by kernel_rfl,he o4⟩⟩
     ·refine q1 <| qc H (fun c5 H=>?_) (fun c5 H=>?_)
      ·obtain⟨x6,ti,H⟩:=bk H
       obtain⟨gd,bX,h5,wo,o5⟩:=PD _ _ _ ti h _ _ _ _ (o)  [.ptr ao 0,.agg [ai.fz x0.qN.nodes,.int .i64 x0.qN.root]] (ar (rfl) (ar (aO (jV (ba (jg (E:=ai)) (ba (aW) (jU))))) (bA)))
       obtain rfl:=oi H
       exact qr [.a 3 wo] <| qq <| q0 <| qt <| ⟨.inl rfl,⟨gd,bX,by kernel_rfl,he o5⟩⟩
      ·refine q1 <| qc H (fun c6 H=>?_) (fun c6 H=>?_)
       ·obtain⟨x7,zm,H⟩:=bk H
        obtain⟨j8,kW,vP,h6,zn,o6⟩:=Pw _ _ _ _ zm h _ _ _ _ (o)  [.ptr ao 0,.int .i64 x0.rD,.int .i64 x0.yz] (ar (rfl) (ar (aO (aW)) (ar (aO (aW)) (bA))))
        refine qr [.a 5 zn] ?_
        have o7:Has h6 ((ao,.ob [.bool x7.2.2.aj,.rs kW 0 x7.2.2.aa.length 4,.rs vP 0 x7.2.2.ae.length 1])::(kW,.sl x7.2.2.aa.length 4 (ai.l x7.2.2.aa))::(vP,.sl x7.2.2.ae.length 1 (af.l x7.2.2.ae))::L):=Has.del o6 0
        obtain rfl:=oi H
        exact q1 <| qt <| ⟨.inl rfl,⟨kW,vP,by kernel_rfl,he o7⟩⟩
       ·refine q1 <| qc H (fun c7 H=>?_) (fun c7 H=>?_)
        ·obtain⟨x8,AI,H⟩:=bk H
         obtain⟨tH,kB,kX,h7,A4,o8⟩:=Px _ _ _ _ AI h _ _ _ _ (o)  [.ptr ao 0,.int .i64 x0.rD,.int .i64 x0.yz] (ar (rfl) (ar (aO (aW)) (ar (aO (aW)) (bA))))
         refine qr [.a 5 A4] ?_
         have o9:Has h7 ((ao,.ob [.bool x8.2.2.2.aj,.rs kB 0 x8.2.2.2.aa.length 4,.rs kX 0 x8.2.2.2.ae.length 1])::(kB,.sl x8.2.2.2.aa.length 4 (ai.l x8.2.2.2.aa))::(kX,.sl x8.2.2.2.ae.length 1 (af.l x8.2.2.2.ae))::L):=Has.del o8 0
         obtain rfl:=oi H
         exact q1 <| qt <| ⟨.inl rfl,⟨kB,kX,by kernel_rfl,he o9⟩⟩
        ·obtain rfl:=oi H
         exact qk <| qq <| q0 <| qt <| ⟨.inl rfl,⟨ak,an,by kernel_rfl,he o⟩⟩
end
end Go.Proofs.Ytifafejidnjckaa
namespace Go.Proofs.Ytifafejidnjckaa
open Go Go.R
open Go.IntKind (i64 u64 u8 u32)
def xP:b5:=gV [0,2,3,4,9] [] [30,26,18,2,18,18,29] [] []
def cd.l0 (m:Nat)(l0:List aN):Nat→Int→ab→Option (Int × ab)
 | 0,_,_=>none
 | k+1,i0,nX=>if (decide (i0<(l0.length:Int)))=true then ((ix l0 i0).bind fun v0=>(fM.f m nX v0).bind fun x1=>cd.l0 m l0 k (i64.wrap (i0+(1:Int))) x1.2) else (some ((i0,nX)))
def cd.f (m:Nat)(l0:List aN):Option (ab):=(iW.f m ).bind fun x0=>(cd.l0 m l0 m (0:Int) x0).bind fun cg=>match cg with | (i1,ly)=>some ly
def cd.fin (L:Mem)(l0:List aN)(r:ab)(s:St):Prop:=∃eB dQ dR:Nat,aP Try.prog (s.open xP) Try.f12.results.toList=some (.ptr eB 0)∧Has s.h ((eB,.ob [.bool r.aj,.rs dQ 0 r.aa.length 4,.rs dR 0 r.ae.length 1])::(dQ,.sl r.aa.length 4 (ai.l r.aa))::(dR,.sl r.ae.length 1 (af.l r.ae))::L)
def Rw (cf:CallF)(m:Nat):Prop:=∀(l0:List aN) (r:ab),cd.f m l0=some r→∀h L,Has h (L)→∀xs,xs.map aM=[aH.fz l0]→∃eB dQ dR h',cf 12 xs h=some (.ptr eB 0,h')∧Has h' ((eB,.ob [.bool r.aj,.rs dQ 0 r.aa.length 4,.rs dR 0 r.ae.length 1])::(dQ,.sl r.aa.length 4 (ai.l r.aa))::(dR,.sl r.ae.length 1 (af.l r.ae))::L)
section
variable {cf:CallF}{m:Nat}
theorem cd.dy (L:Mem)(l0:List aN)(aG:Nat)  (q8:Kn cf m):dY Try.prog cf xP m (sub [1,1,0,1,0,0] (b8 Try.f12)) (fun k (σ:Int × ab)=>cd.l0 m l0 k σ.1 σ.2) (fun σ s=>match σ with | (i0,nX)=>∃cV dW h1,s=⟨[aH.fz l0,.any,.ptr aG 0,.int .i64 i0,.any],[],h1⟩∧Has h1 ((aG,.ob [.bool nX.aj,.rs cV 0 nX.aa.length 4,.rs dW 0 nX.ae.length 1])::(cV,.sl nX.aa.length 4 (ai.l nX.aa))::(dW,.sl nX.ae.length 1 (af.l nX.ae))::L)) (fun out e s=>(e = .exit 0∧∃i0 nX,(i0,nX)=out∧∃oU Jn xD cV dW h1,s=⟨[oU,.any,.ptr aG 0,Jn,xD],[],h1⟩∧Has h1 ((aG,.ob [.bool nX.aj,.rs cV 0 nX.aa.length 4,.rs dW 0 nX.ae.length 1])::(cV,.sl nX.aa.length 4 (ai.l nX.aa))::(dW,.sl nX.ae.length 1 (af.l nX.ae))::L))):=by
 refine mf (fun _=>rfl) ?_
 rintro k ⟨i0,nX⟩ s out ⟨cV,dW,h1,rfl,o1⟩ H
 have H:cd.l0 m l0 (k+1) i0 nX=some out:=H
 refine qq <| qq <| q0 <| qc H (fun c0 H=>?_) (fun c0 H=>?_)
 ·refine qk <| qq <| qb 1 ?_
  obtain⟨v0,e2,H⟩:=bk H
  obtain⟨x1,e3,H⟩:=bk H
  obtain⟨eT,ku,h2,e4,o2⟩:=q8 _ _ _ e3 h1 _ _ _ _ (o1)  [.ptr aG 0,.agg [.int .i64 v0.eh,.int .i64 v0.rD,.int .i64 v0.yz,.str v0.dV,af.fz v0.eW,ai.fz v0.qN.nodes,.int .i64 v0.qN.root]] (ar (rfl) (ar (aO (jV (ba (aW) (ba (aW) (ba (aW) (ba (iT) (ba (jg (E:=af)) (ba (jg (E:=ai)) (ba (aW) (jU)))))))))) (bA)))
  exact qr [.v 3 (fm (k:=.i64) (E:=aH) (l:=l0) HY e2),.v 4 (jm  (E:=aH) (l:=l0) h1 Ly Lz e2),.a 5 e4] <| q0 <| ⟨(i64.wrap (i0+(1:Int)),x1.2),⟨eT,ku,h2,by kernel_rfl,o2⟩,H⟩
 ·exact qx 0 <| ⟨rfl,i0,nX,oi H,aH.fz l0,.int .i64 i0,.bool (decide (i0<(l0.length:Int))),cV,dW,h1,by kernel_rfl,o1⟩
theorem q9 {aX:FuncId→b5}(ha:aX 12=xP)(q8:Kn cf m)(PE:QG cf m)(l0:List aN)(h:AHeap)(L:Mem)  (o:Has h (L)){out:ab}(H:cd.f m l0=some out) :
  ∃r h',a6 Try.prog aX cf m 12 [aH.fz l0] h=some (r,h')∧∃eB dQ dR:Nat,r = .ptr eB 0∧Has h' ((eB,.ob [.bool out.aj,.rs dQ 0 out.aa.length 4,.rs dR 0 out.ae.length 1])::(dQ,.sl out.aa.length 4 (ai.l out.aa))::(dR,.sl out.ae.length 1 (af.l out.ae))::L):=by
 refine au (fn:=Try.f12) ha Try.func12 (by kernel_rfl) (by kernel_rfl) ?_
 refine aK (Q:=fun s=>cd.fin L l0 out s) (fun _ _ ⟨h1,eB,dQ,dR,h2,h3⟩=>⟨h1,_,h2,eB,dQ,dR,rfl,h3⟩) ?_
 have H:_=some out:=H
 unfold cd.f at H
 show du _ cf xP m _ ⟨aH.fz l0::oc [],[],h⟩ _
 refine q1 <| qq ?_
 obtain⟨x0,e0,H⟩:=bk H
 obtain⟨aG,eo,eX,h0,e1,o0⟩:=PE _ e0 h _  (o)  [] (bA)
 refine qr [.a 0 e1] <| qq <| qq <| q0 <| qb 0 ?_
 obtain⟨cg,e5,H⟩:=bk H
 refine ql (cd.dy L l0 aG  q8 ((0:Int),x0) _ _ ⟨eo,eX,h0,by kernel_rfl,o0⟩ e5) ?_
 rintro e s ⟨rfl,i1,ly,rfl,g0,g1,g2,ju,lf,h3,rfl,o3⟩
 try dsimp only at H
 obtain rfl:=oi H
 exact q1 <| qt <| ⟨.inl rfl,⟨aG,ju,lf,by kernel_rfl,he o3⟩⟩
end
end Go.Proofs.Ytifafejidnjckaa
namespace Go.Proofs.Ytifafejidnjckaa
open Go Go.R
open Go.IntKind (i64 u64 u8 u32)
end Go.Proofs.Ytifafejidnjckaa
namespace Go.Proofs.Ytifafejidnjckaa
open Go Go.R
open Go.IntKind (i64 u64 u8 u32)
end Go.Proofs.Ytifafejidnjckaa
namespace Go.Proofs.Ytifafejidnjckaa
open Go Go.R
open Go.IntKind (i64 u64 u8 u32)
end Go.Proofs.Ytifafejidnjckaa
