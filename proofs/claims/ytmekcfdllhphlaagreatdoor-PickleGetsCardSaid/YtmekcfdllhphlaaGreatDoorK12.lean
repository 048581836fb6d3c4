/- Part of the proof: Q45, Q61, Q83, Q85, Q86, Q84, Q62, Q46. -/
import Derived.Test.YtmekcfdllhphlaaGreatDoorK11
set_option linter.unusedVariables false
set_option linter.unusedSimpArgs false
set_option maxRecDepth 100000
open Eq renaming trans → abz
open List renaming length_set → aaN
open Or renaming inr → abD, inl → abM
namespace Go.Proofs.YtmekcfdllhphlaaGreatDoor
open Go Go.R
open Go.IntKind (i64 u64 u8 u32)
def Bv:b9:=gm [0,1,2,3,26,31,43] [1] [125,109,123,117,85,117,53,123,123] [] []
def cz.l0 (m:Nat)(t0:ak):Nat→Int→Option (Sum Bool (Int))
 | 0,_=>none
 | k+1,i0=>if (decide (i0<(t0.nodes.length:Int)))=true then ((ix t0.nodes i0).bind fun v0=>(cy.f m v0 (t0.nodes.length:Int)).bind fun x0=>if (!x0)=true then (some (.inl false)) else (cz.l0 m t0 k (i64.wrap (i0+(1:Int))))) else (some (.inr i0))
def cz.f (m:Nat)(t0:ak):Option (Bool):=if (decide ((t0.nodes.length:Int)<(1:Int)))=true then (some false) else (if (decide ((t0.nodes.length:Int) > (8000:Int)))=true then (some false) else (if (decide (t0.root<(0:Int)))=true then (some false) else (if (decide (t0.root≥(t0.nodes.length:Int)))=true then (some false) else ((cz.l0 m t0 m (0:Int)).bind fun aF=>match aF with | .inl r0=>some r0 | .inr i1=>some true))))
def cz.fin (L:Mem)(r:Bool)(s:St):Prop:=∃av,aH Tryz.prog (s.open Bv) Tryz.f45.results.toList=some av∧gf s.h av (.bool r)
def WQ (cf:CallF)(m:Nat):Prop:=∀(t0:ak) (r:Bool),cz.f m t0=some r→∀h xs,eR fh h xs [.agg [ah.fz t0.nodes,.int .i64 t0.root]]→cf 45 xs h=some (.bool r,h)
section
variable {cf:CallF}{m:Nat}
theorem cz.bu (L:Mem)(t0:ak)  (Oc:UA cf m):bC Tryz.prog cf Bv m (sub [1,1,0,1,0,0] (codeOf Tryz.f45)) (fun k (σ:Int)=>cz.l0 m t0 k σ) (fun σ s=>match σ with | i0=>∃h0,s=⟨.any :: .lp 1 0 :: .any :: .int .i64 i0::jE [],[some [ah.fz t0.nodes,.int .i64 t0.root]],h0⟩∧Has h0 (L)) (fun out e s=>(e = .exit 0∧∃i0,.inr i0=out∧∃qM tG NJ Rb h0,s=⟨[.any,qM,.any,tG,.any,NJ,.any],[Rb],h0⟩∧Has h0 (L))∨(e = .ret∧∃r,.inl r=out∧cz.fin L r s)):=by
 refine gk (fun _=>rfl) ?_
 rintro k i0 s out ⟨h0,rfl,o0⟩ H
 have H:cz.l0 m t0 (k+1) i0=some out:=H
 refine qq <| qq <| q0 <| qc H (fun c7 H=>?_) (fun c7 H=>?_)
 ·refine qk <| qq <| qb 1 <| qq ?_
  obtain⟨v0,e0,H⟩:=aG H
  obtain⟨x0,e1,H⟩:=aG H
  refine qr [.v 3 (bN (k:=.i64) (E:=ah) (l:=t0.nodes) mj e0),.v 4 (dI  (E:=ah) (l:=t0.nodes) h0 th ti e0),.a 8 (Oc _ _ _ e1 h0 _ (fT (ab (dJ (ab (aQ) (ab (aQ) (ab (cF) (ab (bB (E:=aa)) (aA)))))) (ab (aQ) (aA)))))] <| qc H (fun c8 H=>?_) (fun c8 H=>?_)
  ·exact q1 <| qt <| abD (⟨rfl,_,oi H,cp (.bool false) h0 (cn (au))⟩)
  ·exact qk <| q0 <| ⟨i64.wrap (i0+(1:Int)),⟨h0,by kernel_rfl,o0⟩,H⟩
 ·exact qx 0 <| abM (⟨rfl,i0,oi H,.lp 1 0,.int .i64 i0,.bool (decide (i0<(t0.nodes.length:Int))),some [ah.fz t0.nodes,.int .i64 t0.root],h0,by kernel_rfl,o0⟩)
theorem sw {aV:FuncId→b9}(ha:aV 45=Bv)(Oc:UA cf m)(t0:ak)(h:AHeap)(L:Mem)  (o:Has h (L)){out:Bool}(H:cz.f m t0=some out) :
  ∃r h',bg Tryz.prog aV cf m 45 [.agg [ah.fz t0.nodes,.int .i64 t0.root]] h=some (r,h')∧gf h' r (.bool out):=by
 refine aj (fn:=Tryz.f45) ha Tryz.func45 (by kernel_rfl) (by kernel_rfl) ?_
 refine aD (Q:=fun s=>cz.fin L out s) (fun _ _ h=>h) ?_
 have H:_=some out:=H
 unfold cz.f at H
 show dA _ cf Bv m _ ⟨.agg [ah.fz t0.nodes,.int .i64 t0.root]::zX [],[none],h⟩ _
 refine q1 <| qq <| qq ?_
 rcases dX H with⟨c0,H⟩| ⟨c0,H⟩
 ·obtain rfl:=oi H
  exact qr [.b 4 c0] <| uD <| qq <| q0 <| qt <| ⟨.inl rfl,cp (.bool false) h (cn (au))⟩
 ·rcases dX H with⟨c2,H⟩| ⟨c2,H⟩
  ·obtain rfl:=oi H
   exact qr [.b 4 c0,.b 10 c2] <| uD <| qq <| q0 <| qt <| ⟨.inl rfl,cp (.bool false) h (cn (au))⟩
  ·rcases dX H with⟨c4,H⟩| ⟨c4,H⟩
   ·obtain rfl:=oi H
    exact qr [.b 4 c0,.b 10 c2,.b 15 c4] <| uD <| qq <| q0 <| qt <| ⟨.inl rfl,cp (.bool false) h (cn (au))⟩
   ·refine qr [.b 4 c0,.b 10 c2,.b 15 c4] <| qc H (fun c6 H=>?_) (fun c6 H=>?_)
    ·obtain rfl:=oi H
     exact q1 <| qt <| ⟨.inl rfl,cp (.bool false) h (cn (au))⟩
    ·refine qk <| qq <| qq <| q0 <| qb 0 ?_
     obtain⟨aF,e2,H⟩:=aG H
     refine ql (cz.bu L t0  Oc (0:Int) _ _ ⟨h,by kernel_rfl,o⟩ e2) ?_
     rintro e s (⟨rfl,i1,rfl,g0,g1,g2,g3,h1,rfl,o1⟩| ⟨rfl,r0,rfl,l8⟩)
     ·try dsimp only at H
      obtain rfl:=oi H
      exact q1 <| qt <| ⟨.inl rfl,cp (.bool true) h1 (cn (au))⟩
     ·try dsimp only at H
      obtain rfl:=oi H
      exact⟨.inl rfl,l8⟩
end
end Go.Proofs.YtmekcfdllhphlaaGreatDoor
namespace Go.Proofs.YtmekcfdllhphlaaGreatDoor
open Go Go.R
open Go.IntKind (i64 u64 u8 u32)
def yt:b9:=gm [0,1,4,5,6,7,8,9,19,34,50] [] [2044,2036,1988,1990,1734,1926,1926,1414,1926,1926,1798,774,1798,1798,2043] [] [(2,[(6,none,1),(7,none,1)])]
def aW.l1 (m:Nat)(l0:List ae)(v0:Int):Nat→(List Int)→Int→Option ((List Int) × Int)
 | 0,_,_=>none
 | k+1,gZ,i0=>if (decide (i0≥(0:Int)))=true then ((ix l0 v0).bind fun v5=>(ix v5.args i0).bind fun v6=>(app 8 gZ ([v6])).bind fun x3=>aW.l1 m l0 v0 k x3 (i64.wrap (i0 - (1:Int)))) else (some ((gZ,i0)))
def aW.l0 (m:Nat)(l0:List ae):Nat→(List Bool)→(List Int)→(List Int)→Option ((List Bool) × (List Int) × (List Int))
 | 0,_,_,_=>none
 | k+1,fY,aF,fZ=>if (decide ((fZ.length:Int) > (0:Int)))=true then ((ix fZ (i64.wrap ((fZ.length:Int) - (1:Int)))).bind fun v0=>(kU fZ 0 (i64.wrap ((fZ.length:Int) - (1:Int)))).bind fun v1=>(ix fY v0).bind fun v2=>if v2=true then (aW.l0 m l0 k fY aF v1) else ((ix fY v0).bind fun v3=>(app 8 aF ([v0])).bind fun x2=>(ix l0 v0).bind fun v4=>(aW.l1 m l0 v0 m v1 (i64.wrap ((v4.args.length:Int) - (1:Int)))).bind fun bm=>match bm with | (sy,i1)=>aW.l0 m l0 k (fY.set v0.toNat true) x2 sy)) else (some ((fY,aF,fZ)))
def aW.f (m:Nat)(l0:List ae)(iA:Int):Option ((List Int)):=(xb 1 (l0.length:Int) false).bind fun x0=>(app 8 ([]:List Int) ([iA])).bind fun x1=>(aW.l0 m l0 m x0 ([]:List Int) x1).bind fun jR=>match jR with | (UD,cw,Di)=>some cw
def aW.fin (L:Mem)(r:(List Int))(s:St):Prop:=∃av,aH Tryz.prog (s.open yt) Tryz.f61.results.toList=some av∧gf s.h av (aa.fz r)
def WR (cf:CallF)(m:Nat):Prop:=∀(l0:List ae) (iA:Int) (r:(List Int)),aW.f m l0 iA=some r→∀h xs,eR fh h xs [ah.fz l0,.int .i64 iA]→cf 61 xs h=some (aa.fz r,h)
section
variable {cf:CallF}{m:Nat}
theorem aW.eO (L:Mem)(l0:List ae)(cR:Nat)(fY:List Bool)(cR:Nat)(v0:Int)(x2:List Int)(gV:Nat)   : bC Tryz.prog cf yt m (sub [1,1,1,1,0,0,0,1,0,1,1,1,1,1,1,0,0] (codeOf Tryz.f61)) (fun k (σ:(List Int) × Int)=>aW.l1 m l0 v0 k σ.1 σ.2) (fun σ s=>match σ with | (gZ,i0)=>∃fK h5,s=⟨ah.fz l0 :: .any :: .any :: .rs cR 0 fY.length 1 :: .rs gV 0 x2.length 1 :: .rs fK 0 gZ.length 1 :: .int .i64 v0 :: .int .i64 i0::jE [],[],h5⟩∧Has h5 ((fK,.sl gZ.length 1 (aa.l gZ))::(gV,.sl x2.length 1 (aa.l x2))::(cR,.sl fY.length 1 (dk.l (fY.set v0.toNat true)))::L)) (fun out e s=>(e = .exit 2∧∃gZ i0,(gZ,i0)=out∧∃pG qQ Od fK h5,s=⟨[ah.fz l0,.any,.any,.rs cR 0 fY.length 1,.rs gV 0 x2.length 1,.rs fK 0 gZ.length 1,pG,qQ,.any,.any,Od],[],h5⟩∧Has h5 ((fK,.sl gZ.length 1 (aa.l gZ))::(gV,.sl x2.length 1 (aa.l x2))::(cR,.sl fY.length 1 (dk.l (fY.set v0.toNat true)))::L))):=by
 refine gk (fun _=>rfl) ?_
 rintro k ⟨gZ,i0⟩ s out ⟨fK,h5,rfl,o8⟩ H
 have H:aW.l1 m l0 v0 (k+1) gZ i0=some out:=H
 refine qq <| qq <| q0 <| qc H (fun c2 H=>?_) (fun c2 H=>?_)
 ·refine qk <| qq <| qb 3 ?_
  obtain⟨v5,nK,H⟩:=aG H
  obtain⟨v6,pa,H⟩:=aG H
  obtain⟨x3,pc,H⟩:=aG H
  obtain⟨iX,h6,pb,o9⟩:=cL (P:=Tryz.prog) (E:=aa) (l:=gZ) (q:=0) (t2:=28) (x:=.fz [.int .i64 v6] 1 true) (l2:=([v6])) dK o8 rfl (by kernel_rfl) rfl pc
  exact qr [.v 3 (bN (k:=.i64) (E:=ah) (l:=l0) mj nK),.v 5 (mE  (E:=ah) (l:=l0) (off:=3) h5 Qk nK rfl),.v 7 (bN (k:=.i64) (E:=aa) (l:=v5.args) dK pa),.v 8 (dd  (E:=aa) (l:=v5.args) h5 A3 pa rfl),.a 10 pb] <| q0 <| ⟨(x3,i64.wrap (i0 - (1:Int))),⟨iX,h6,(abz (b:=⟨ah.fz l0 :: .any :: .any :: .rs cR 0 fY.length 1 :: .rs gV 0 x2.length 1 :: .rs iX 0 x3.length 1 :: .int .i64 v0 :: .int .i64 (i64.wrap (i0 - (1:Int)))::jE [],[],h6⟩) (by kernel_rfl) (by simp only [aaN])),(by have o:Has h6 ((iX,.sl x3.length 1 (aa.l x3))::(gV,.sl x2.length 1 (aa.l x2))::(cR,.sl fY.length 1 (dk.l (fY.set v0.toNat true)))::L):=o9; simpa only [aaN] using o)⟩,H⟩
 ·exact qx 2 <| ⟨rfl,gZ,i0,oi H,.int .i64 v0,.int .i64 i0,.bool (decide (i0≥(0:Int))),fK,h5,(abz (b:=⟨[ah.fz l0,.any,.any,.rs cR 0 fY.length 1,.rs gV 0 x2.length 1,.rs fK 0 gZ.length 1,.int .i64 v0,.int .i64 i0,.any,.any,.bool (decide (i0≥(0:Int)))],[],h5⟩) (by kernel_rfl) (by simp only [aaN])),(by have o:Has h5 ((fK,.sl gZ.length 1 (aa.l gZ))::(gV,.sl x2.length 1 (aa.l x2))::(cR,.sl fY.length 1 (dk.l (fY.set v0.toNat true)))::L):=o8; simpa only [aaN] using o)⟩
theorem aW.bu (L:Mem)(l0:List ae)   : bC Tryz.prog cf yt m (sub [1,1,1,1,0,0,0] (codeOf Tryz.f61)) (fun k (σ:(List Bool) × (List Int) × (List Int))=>aW.l0 m l0 k σ.1 σ.2.1 σ.2.2) (fun σ s=>match σ with | (fY,aF,fZ)=>∃g0 g1 g2 g3 gY fc cR h2,s=⟨[ah.fz l0,.any,.any,.rs cR 0 fY.length 1,.rs fc 0 aF.length 1,.rs gY 0 fZ.length 1,g0,g1,.any,g2,g3],[],h2⟩∧Has h2 ((gY,.sl fZ.length 1 (aa.l fZ))::(fc,.sl aF.length 1 (aa.l aF))::(cR,.sl fY.length 1 (dk.l fY))::L)) (fun out e s=>(e = .exit 0∧∃fY aF fZ,(fY,aF,fZ)=out∧∃kM oK se pG qQ Dj NL Od gY fc cR h2,s=⟨[kM,.any,.any,oK,.rs fc 0 aF.length 1,se,pG,qQ,Dj,NL,Od],[],h2⟩∧Has h2 ((gY,.sl fZ.length 1 (aa.l fZ))::(fc,.sl aF.length 1 (aa.l aF))::(cR,.sl fY.length 1 (dk.l fY))::L))):=by
 refine gk (fun _=>rfl) ?_
 rintro k ⟨fY,aF,fZ⟩ s out ⟨g0,g1,g2,g3,gY,fc,cR,h2,rfl,o4⟩ H
 have H:aW.l0 m l0 (k+1) fY aF fZ=some out:=H
 refine qq <| qq <| q0 <| qc H (fun c0 H=>?_) (fun c0 H=>?_)
 ·refine qk <| qb 1 <| qq ?_
  obtain⟨v0,e4,H⟩:=aG H
  refine qr [.v 4 (aJ (k:=.i64) (E:=aa) (l:=fZ) (q:=0) dK o4 rfl e4),.v 5 (bA  (E:=aa) (l:=fZ) (q:=0) o4 rfl A3 e4 rfl)] <| qq ?_
  obtain⟨v1,e5,H⟩:=aG H
  obtain⟨UE,o5⟩:=Nk (P:=Tryz.prog) (k:=.i64) (E:=aa) (q:=0) o4 rfl dK e5
  refine qr [.v 4 UE] <| qq <| qq ?_
  obtain⟨v2,e6,H⟩:=aG H
  refine qr [.v 2 (aJ (k:=.i64) (E:=dk) (l:=fY) (q:=2) xf o5 rfl e6),.v 3 (bA  (E:=dk) (l:=fY) (q:=2) o5 rfl A4 e6 rfl)] <| qc H (fun c1 H=>?_) (fun c1 H=>?_)
  ·exact qx 1 <| ⟨(fY,aF,v1),⟨.int .i64 v0,.any,.bool v2,.any,gY,fc,cR,h2,by kernel_rfl,o5⟩,H⟩
  ·refine qk <| qq ?_
   obtain⟨v3,e7,H⟩:=aG H
   obtain⟨h3,e8,o6⟩:=eG (P:=Tryz.prog) (tf:=4) (E:=dk) (l:=fY) (q:=2) (v:=true) (x:=.bool true) o5 rfl Z4 e7 rfl rfl
   refine qr [.v 2 (aJ (k:=.i64) (E:=dk) (l:=fY) (q:=2) xf o5 rfl e7),.w 3 e8] <| qq ?_
   obtain⟨x2,e9,H⟩:=aG H
   obtain⟨gV,h4,lF,o7⟩:=cL (P:=Tryz.prog) (E:=aa) (l:=aF) (q:=1) (t2:=28) (x:=.fz [.int .i64 v0] 1 true) (l2:=([v0])) dK o6 rfl (by kernel_rfl) rfl e9
   refine qr [.a 3 lF] <| qq ?_
   obtain⟨v4,nb,H⟩:=aG H
   refine qr [.v 2 (bN (k:=.i64) (E:=ah) (l:=l0) mj nb),.v 4 (mE  (E:=ah) (l:=l0) (off:=3) h4 Qk nb rfl)] <| qb 2 ?_
   obtain⟨bm,qU,H⟩:=aG H
   refine ql (aW.eO L l0 cR fY cR v0 x2 gV   (v1,i64.wrap ((v4.args.length:Int) - (1:Int))) _ _ ⟨gY,h4,(abz (b:=⟨ah.fz l0 :: .any :: .any :: .rs cR 0 fY.length 1 :: .rs gV 0 x2.length 1 :: .rs gY 0 v1.length 1 :: .int .i64 v0 :: .int .i64 (i64.wrap ((v4.args.length:Int) - (1:Int)))::jE [],[],h4⟩) (by kernel_rfl) (by simp only [aaN])),(by have o:Has h4 ((gY,.sl v1.length 1 (aa.l v1))::(gV,.sl x2.length 1 (aa.l x2))::(cR,.sl fY.length 1 (dk.l (fY.set v0.toNat true)))::L):=o7; simpa only [aaN] using o)⟩ qU) ?_
   rintro e s ⟨rfl,sy,i1,rfl,g4,g5,g6,kP,h7,rfl,oz⟩
   try dsimp only at H
   exact⟨(fY.set v0.toNat true,x2,sy),⟨g4,g5,.any,g6,kP,gV,cR,h7,(abz (b:=⟨[ah.fz l0,.any,.any,.rs cR 0 fY.length 1,.rs gV 0 x2.length 1,.rs kP 0 sy.length 1,g4,g5,.any,.any,g6],[],h7⟩) (by kernel_rfl) (by simp only [aaN])),(by have o:Has h7 ((kP,.sl sy.length 1 (aa.l sy))::(gV,.sl x2.length 1 (aa.l x2))::(cR,.sl fY.length 1 (dk.l (fY.set v0.toNat true)))::L):=oz; simpa only [aaN] using o)⟩,H⟩
 ·exact qx 0 <| ⟨rfl,fY,aF,fZ,oi H,ah.fz l0,.rs cR 0 fY.length 1,.rs gY 0 fZ.length 1,.any,.any,.bool (decide ((fZ.length:Int) > (0:Int))),.any,.any,gY,fc,cR,h2,by kernel_rfl,o4⟩
theorem pK {aV:FuncId→b9}(ha:aV 61=yt)  (l0:List ae)(iA:Int)(h:AHeap)(L:Mem)  (o:Has h (L)){out:(List Int)}(H:aW.f m l0 iA=some out) :
  ∃r h',bg Tryz.prog aV cf m 61 [ah.fz l0,.int .i64 iA] h=some (r,h')∧gf h' r (aa.fz out):=by
 refine aj (fn:=Tryz.f61) ha Tryz.func61 (by kernel_rfl) (by kernel_rfl) ?_
 refine aD (Q:=fun s=>aW.fin L out s) (fun _ _ h=>h) ?_
 have H:_=some out:=H
 unfold aW.f at H
 show dA _ cf yt m _ ⟨ah.fz l0 :: .int .i64 iA::FX [],[],h⟩ _
 refine q1 <| qq ?_
 obtain⟨x0,e0,H⟩:=aG H
 obtain⟨az,h0,e1,o0⟩:=pz (P:=Tryz.prog) (E:=dk) (z:=false) (zv:=.bool false) xf o 4 rfl rfl rfl rfl e0
 refine qr [.a 2 e1] <| qq <| q0 ?_
 have o1:Has h0 (((0),.sl (([]:List Int).length) 1 (aa.l ([]:List Int)))::(az,.sl x0.length 1 (dk.l x0))::L):=Has.nil o0 1
 have o2:Has h0 ((((0)),.sl (([]:List Int).length) 1 (aa.l ([]:List Int)))::((0),.sl (([]:List Int).length) 1 (aa.l ([]:List Int)))::(az,.sl x0.length 1 (dk.l x0))::L):=Has.nil o1 1
 refine qq ?_
 obtain⟨x1,e2,H⟩:=aG H
 obtain⟨dR,h1,e3,o3⟩:=cL (P:=Tryz.prog) (E:=aa) (l:=([]:List Int)) (q:=0) (t2:=28) (x:=.fz [.int .i64 iA] 1 true) (l2:=([iA])) dK o2 rfl (by kernel_rfl) rfl e2
 refine qr [.a 3 e3] <| qq <| qb 0 ?_
 obtain⟨jR,pP,H⟩:=aG H
 refine ql (aW.bu L l0   (x0,([]:List Int),x1) _ _ ⟨.any,.any,.any,.any,dR,(0),az,h1,by kernel_rfl,o3⟩ pP) ?_
 rintro e s ⟨rfl,UD,cw,Di,rfl,g7,g8,g9,g10,g11,g12,g13,g14,rG,eS,me,h8,rfl,sg⟩
 try dsimp only at H
 refine q1 ?_
 have oZ:Has h8 ((rG,.sl Di.length 1 (aa.l Di))::(eS,.sl cw.length 1 (aa.l cw))::L):=Has.del sg 2
 have kN:Has h8 ((eS,.sl cw.length 1 (aa.l cw))::L):=Has.del oZ 0
 obtain rfl:=oi H
 exact qt <| ⟨.inl rfl,cp (.rs eS 0 cw.length 1) h8 (cn (vn (E:=aa) (l:=cw) (q:=0) kN rfl (fun _=>rfl)))⟩
end
end Go.Proofs.YtmekcfdllhphlaaGreatDoor
namespace Go.Proofs.YtmekcfdllhphlaaGreatDoor
open Go Go.R
open Go.IntKind (i64 u64 u8 u32)
def Bw:b9:=gm [0,1,2,4,5,10,21] [2] [121,105,73,105,41,119,119] [] []
def cC.l0 (m:Nat)(n0:ae)(ez:List Bool):Nat→Int→Option (Sum Bool (Int))
 | 0,_=>none
 | k+1,i0=>if (decide (i0<(n0.args.length:Int)))=true then ((ix n0.args i0).bind fun v0=>(ix ez v0).bind fun v1=>if (!v1)=true then (some (.inl false)) else (cC.l0 m n0 ez k (i64.wrap (i0+(1:Int))))) else (some (.inr i0))
def cC.f (m:Nat)(n0:ae)(ez:List Bool):Option (Bool):=(cC.l0 m n0 ez m (0:Int)).bind fun aF=>match aF with | .inl r0=>some r0 | .inr i1=>some true
def cC.fin (L:Mem)(r:Bool)(s:St):Prop:=∃av,aH Tryz.prog (s.open Bw) Tryz.f83.results.toList=some av∧gf s.h av (.bool r)
def Sb (cf:CallF)(m:Nat):Prop:=∀(n0:ae) (ez:List Bool) (r:Bool),cC.f m n0 ez=some r→∀h xs,eR fh h xs [.agg [.int .i64 n0.kind,.int .i64 n0.int,.str n0.label,aa.fz n0.args],dk.fz ez]→cf 83 xs h=some (.bool r,h)
section
variable {cf:CallF}{m:Nat}
theorem cC.bu (L:Mem)(n0:ae)(ez:List Bool)   : bC Tryz.prog cf Bw m (sub [1,0,1,0,0] (codeOf Tryz.f83)) (fun k (σ:Int)=>cC.l0 m n0 ez k σ) (fun σ s=>match σ with | i0=>∃h0,s=⟨[.any,dk.fz ez,.lp 2 0,.any,.int .i64 i0,.any,.any],[some [.int .i64 n0.kind,.int .i64 n0.int,.str n0.label,aa.fz n0.args]],h0⟩∧Has h0 (L)) (fun out e s=>(e = .exit 0∧∃i0,.inr i0=out∧∃qM F5 oK pE Q2 h0,s=⟨[.any,qM,F5,.any,oK,pE,.any],[Q2],h0⟩∧Has h0 (L))∨(e = .ret∧∃r,.inl r=out∧cC.fin L r s)):=by
 refine gk (fun _=>rfl) ?_
 rintro k i0 s out ⟨h0,rfl,o0⟩ H
 have H:cC.l0 m n0 ez (k+1) i0=some out:=H
 refine qq <| qq <| q0 <| qc H (fun c0 H=>?_) (fun c0 H=>?_)
 ·refine qk <| qq <| qb 1 <| qq ?_
  obtain⟨v0,e0,H⟩:=aG H
  obtain⟨v1,e1,H⟩:=aG H
  refine qr [.v 4 (bN (k:=.i64) (E:=aa) (l:=n0.args) dK e0),.v 5 (dd  (E:=aa) (l:=n0.args) h0 A3 e0 rfl),.v 6 (bN (k:=.i64) (E:=dk) (l:=ez) xf e1),.v 7 (dd  (E:=dk) (l:=ez) h0 A4 e1 rfl)] <| qc H (fun c1 H=>?_) (fun c1 H=>?_)
  ·exact q1 <| qt <| abD (⟨rfl,_,oi H,cp (.bool false) h0 (cn (au))⟩)
  ·exact qk <| q0 <| ⟨i64.wrap (i0+(1:Int)),⟨h0,by kernel_rfl,o0⟩,H⟩
 ·exact qx 0 <| abM (⟨rfl,i0,oi H,dk.fz ez,.lp 2 0,.int .i64 i0,.bool (decide (i0<(n0.args.length:Int))),some [.int .i64 n0.kind,.int .i64 n0.int,.str n0.label,aa.fz n0.args],h0,by kernel_rfl,o0⟩)
theorem sA {aV:FuncId→b9}(ha:aV 83=Bw)  (n0:ae)(ez:List Bool)(h:AHeap)(L:Mem)  (o:Has h (L)){out:Bool}(H:cC.f m n0 ez=some out) :
  ∃r h',bg Tryz.prog aV cf m 83 [.agg [.int .i64 n0.kind,.int .i64 n0.int,.str n0.label,aa.fz n0.args],dk.fz ez] h=some (r,h')∧gf h' r (.bool out):=by
 refine aj (fn:=Tryz.f83) ha Tryz.func83 (by kernel_rfl) (by kernel_rfl) ?_
 refine aD (Q:=fun s=>cC.fin L out s) (fun _ _ h=>h) ?_
 have H:_=some out:=H
 unfold cC.f at H
 show dA _ cf Bw m _ ⟨.agg [.int .i64 n0.kind,.int .i64 n0.int,.str n0.label,aa.fz n0.args]::dk.fz ez::qF [],[none],h⟩ _
 refine q1 <| qq <| qq <| q0 <| qb 0 ?_
 obtain⟨aF,e2,H⟩:=aG H
 refine ql (cC.bu L n0 ez   (0:Int) _ _ ⟨h,by kernel_rfl,o⟩ e2) ?_
 rintro e s (⟨rfl,i1,rfl,g0,g1,g2,g3,g4,h1,rfl,o1⟩| ⟨rfl,r0,rfl,l8⟩)
 ·try dsimp only at H
  obtain rfl:=oi H
  exact q1 <| qt <| ⟨.inl rfl,cp (.bool true) h1 (cn (au))⟩
 ·try dsimp only at H
  obtain rfl:=oi H
  exact⟨.inl rfl,l8⟩
end
end Go.Proofs.YtmekcfdllhphlaaGreatDoor
namespace Go.Proofs.YtmekcfdllhphlaaGreatDoor
open Go Go.R
open Go.IntKind (i64 u64 u8 u32)
def EM:b9:=gm [0,1,2,3,4] [2,3] [19,15] [] []
def fS.f (m:Nat)(a0:ae)(b0:ae):Option (Bool):=if (a0.kind==b0.kind)=true then (if (a0.int==b0.int)=true then (if (a0.label.data.toList==b0.label.data.toList)=true then (some ((a0.args.length:Int)==(b0.args.length:Int))) else (some false)) else (some false)) else (some false)
def fS.fin (L:Mem)(r:Bool)(s:St):Prop:=∃av,aH Tryz.prog (s.open EM) Tryz.f85.results.toList=some av∧gf s.h av (.bool r)
def O7 (cf:CallF)(m:Nat):Prop:=∀(a0:ae) (b0:ae) (r:Bool),fS.f m a0 b0=some r→∀h xs,eR fh h xs [.agg [.int .i64 a0.kind,.int .i64 a0.int,.str a0.label,aa.fz a0.args],.agg [.int .i64 b0.kind,.int .i64 b0.int,.str b0.label,aa.fz b0.args]]→cf 85 xs h=some (.bool r,h)
section
variable {cf:CallF}{m:Nat}
theorem sB {aV:FuncId→b9}(ha:aV 85=EM)  (a0:ae)(b0:ae)(h:AHeap)(L:Mem)  (o:Has h (L)){out:Bool}(H:fS.f m a0 b0=some out) :
  ∃r h',bg Tryz.prog aV cf m 85 [.agg [.int .i64 a0.kind,.int .i64 a0.int,.str a0.label,aa.fz a0.args],.agg [.int .i64 b0.kind,.int .i64 b0.int,.str b0.label,aa.fz b0.args]] h=some (r,h')∧gf h' r (.bool out):=by
 refine aj (fn:=Tryz.f85) ha Tryz.func85 (by kernel_rfl) (by kernel_rfl) ?_
 refine aD (Q:=fun s=>fS.fin L out s) (fun _ _ h=>h) ?_
 have H:_=some out:=H
 unfold fS.f at H
 show dA _ cf EM m _ ⟨.agg [.int .i64 a0.kind,.int .i64 a0.int,.str a0.label,aa.fz a0.args] :: .agg [.int .i64 b0.kind,.int .i64 b0.int,.str b0.label,aa.fz b0.args]::jE [],[none,none],h⟩ _
 refine q1 <| qq ?_
 rcases dX H with⟨c0,H⟩| ⟨c0,H⟩
 ·rcases dX H with⟨c1,H⟩| ⟨c1,H⟩
  ·rcases dX H with⟨c2,H⟩| ⟨c2,H⟩
   ·obtain rfl:=oi H
    exact qr [.b 5 c0,.b 12 c1,.b 19 c2] <| qt <| ⟨.inl rfl,cp (.bool ((a0.args.length:Int)==(b0.args.length:Int))) h (cn (au))⟩
   ·obtain rfl:=oi H
    exact qr [.b 5 c0,.b 12 c1,.b 19 c2] <| qt <| ⟨.inl rfl,cp (.bool false) h (cn (au))⟩
  ·obtain rfl:=oi H
   exact qr [.b 5 c0,.b 12 c1] <| qt <| ⟨.inl rfl,cp (.bool false) h (cn (au))⟩
 ·obtain rfl:=oi H
  exact qr [.b 5 c0] <| qt <| ⟨.inl rfl,cp (.bool false) h (cn (au))⟩
end
end Go.Proofs.YtmekcfdllhphlaaGreatDoor
namespace Go.Proofs.YtmekcfdllhphlaaGreatDoor
open Go Go.R
open Go.IntKind (i64 u64 u8 u32)
def Bx:b9:=gm [0,1,2,3,4,6,7,12,31] [3,4] [483,419,291,419,163,479,479] [] []
def bF.l0 (m:Nat)(a0:ae)(b0:ae)(bJ:List Int):Nat→Int→Option (Sum Bool (Int))
 | 0,_=>none
 | k+1,i0=>if (decide (i0<(a0.args.length:Int)))=true then ((ix a0.args i0).bind fun v0=>(ix bJ v0).bind fun v1=>(ix b0.args i0).bind fun v2=>(ix bJ v2).bind fun v3=>if (!(v1==v3))=true then (some (.inl false)) else (bF.l0 m a0 b0 bJ k (i64.wrap (i0+(1:Int))))) else (some (.inr i0))
def bF.f (m:Nat)(a0:ae)(b0:ae)(bJ:List Int):Option (Bool):=(bF.l0 m a0 b0 bJ m (0:Int)).bind fun aF=>match aF with | .inl r0=>some r0 | .inr i1=>some true
def bF.fin (L:Mem)(r:Bool)(s:St):Prop:=∃av,aH Tryz.prog (s.open Bx) Tryz.f86.results.toList=some av∧gf s.h av (.bool r)
def Oe (cf:CallF)(m:Nat):Prop:=∀(a0:ae) (b0:ae) (bJ:List Int) (r:Bool),bF.f m a0 b0 bJ=some r→∀h xs,eR fh h xs [.agg [.int .i64 a0.kind,.int .i64 a0.int,.str a0.label,aa.fz a0.args],.agg [.int .i64 b0.kind,.int .i64 b0.int,.str b0.label,aa.fz b0.args],aa.fz bJ]→cf 86 xs h=some (.bool r,h)
section
variable {cf:CallF}{m:Nat}
theorem bF.bu (L:Mem)(a0:ae)(b0:ae)(bJ:List Int)   : bC Tryz.prog cf Bx m (sub [1,0,1,0,0] (codeOf Tryz.f86)) (fun k (σ:Int)=>bF.l0 m a0 b0 bJ k σ) (fun σ s=>match σ with | i0=>∃h0,s=⟨[.any,.any,aa.fz bJ,.lp 3 0,.lp 4 0,.any,.int .i64 i0,.any,.any],[some [.int .i64 a0.kind,.int .i64 a0.int,.str a0.label,aa.fz a0.args],some [.int .i64 b0.kind,.int .i64 b0.int,.str b0.label,aa.fz b0.args]],h0⟩∧Has h0 (L)) (fun out e s=>(e = .exit 0∧∃i0,.inr i0=out∧∃F5 tG zp se Dk Ux YV h0,s=⟨[.any,.any,F5,tG,zp,.any,se,Dk,.any],[Ux,YV],h0⟩∧Has h0 (L))∨(e = .ret∧∃r,.inl r=out∧bF.fin L r s)):=by
 refine gk (fun _=>rfl) ?_
 rintro k i0 s out ⟨h0,rfl,o0⟩ H
 have H:bF.l0 m a0 b0 bJ (k+1) i0=some out:=H
 refine qq <| qq <| q0 <| qc H (fun c0 H=>?_) (fun c0 H=>?_)
 ·refine qk <| qq <| qb 1 <| qq ?_
  obtain⟨v0,e0,H⟩:=aG H
  obtain⟨v1,e1,H⟩:=aG H
  obtain⟨v2,e2,H⟩:=aG H
  obtain⟨v3,e3,H⟩:=aG H
  refine qr [.v 4 (bN (k:=.i64) (E:=aa) (l:=a0.args) dK e0),.v 5 (dd  (E:=aa) (l:=a0.args) h0 A3 e0 rfl),.v 6 (bN (k:=.i64) (E:=aa) (l:=bJ) dK e1),.v 7 (dd  (E:=aa) (l:=bJ) h0 A3 e1 rfl),.v 12 (bN (k:=.i64) (E:=aa) (l:=b0.args) dK e2),.v 13 (dd  (E:=aa) (l:=b0.args) h0 A3 e2 rfl),.v 14 (bN (k:=.i64) (E:=aa) (l:=bJ) dK e3),.v 15 (dd  (E:=aa) (l:=bJ) h0 A3 e3 rfl)] <| qc H (fun c1 H=>?_) (fun c1 H=>?_)
  ·exact q1 <| qt <| abD (⟨rfl,_,oi H,cp (.bool false) h0 (cn (au))⟩)
  ·exact qk <| q0 <| ⟨i64.wrap (i0+(1:Int)),⟨h0,by kernel_rfl,o0⟩,H⟩
 ·exact qx 0 <| abM (⟨rfl,i0,oi H,aa.fz bJ,.lp 3 0,.lp 4 0,.int .i64 i0,.bool (decide (i0<(a0.args.length:Int))),some [.int .i64 a0.kind,.int .i64 a0.int,.str a0.label,aa.fz a0.args],some [.int .i64 b0.kind,.int .i64 b0.int,.str b0.label,aa.fz b0.args],h0,by kernel_rfl,o0⟩)
theorem oM {aV:FuncId→b9}(ha:aV 86=Bx)  (a0:ae)(b0:ae)(bJ:List Int)(h:AHeap)(L:Mem)  (o:Has h (L)){out:Bool}(H:bF.f m a0 b0 bJ=some out) :
  ∃r h',bg Tryz.prog aV cf m 86 [.agg [.int .i64 a0.kind,.int .i64 a0.int,.str a0.label,aa.fz a0.args],.agg [.int .i64 b0.kind,.int .i64 b0.int,.str b0.label,aa.fz b0.args],aa.fz bJ] h=some (r,h')∧gf h' r (.bool out):=by
 refine aj (fn:=Tryz.f86) ha Tryz.func86 (by kernel_rfl) (by kernel_rfl) ?_
 refine aD (Q:=fun s=>bF.fin L out s) (fun _ _ h=>h) ?_
 have H:_=some out:=H
 unfold bF.f at H
 show dA _ cf Bx m _ ⟨.agg [.int .i64 a0.kind,.int .i64 a0.int,.str a0.label,aa.fz a0.args] :: .agg [.int .i64 b0.kind,.int .i64 b0.int,.str b0.label,aa.fz b0.args]::aa.fz bJ::zX [],[none,none],h⟩ _
 refine q1 <| qq <| qq <| q0 <| qb 0 ?_
 obtain⟨aF,e4,H⟩:=aG H
 refine ql (bF.bu L a0 b0 bJ   (0:Int) _ _ ⟨h,by kernel_rfl,o⟩ e4) ?_
 rintro e s (⟨rfl,i1,rfl,g0,g1,g2,g3,g4,g5,g6,h1,rfl,o1⟩| ⟨rfl,r0,rfl,l8⟩)
 ·try dsimp only at H
  obtain rfl:=oi H
  exact q1 <| qt <| ⟨.inl rfl,cp (.bool true) h1 (cn (au))⟩
 ·try dsimp only at H
  obtain rfl:=oi H
  exact⟨.inl rfl,l8⟩
end
end Go.Proofs.YtmekcfdllhphlaaGreatDoor
namespace Go.Proofs.YtmekcfdllhphlaaGreatDoor
open Go Go.R
open Go.IntKind (i64 u64 u8 u32)
def By:b9:=gm [0,1,2,3,8,9,13,42] [] [240,208,144,208,80,239,239] [] []
def cH.l0 (m:Nat)(l0:List ae)(eV:List Int)(n0:Int)(bJ:List Int):Nat→Int→Option (Sum Int (Int))
 | 0,_=>none
 | k+1,k0=>if (decide (k0<(eV.length:Int)))=true then ((ix l0 n0).bind fun v0=>(ix eV k0).bind fun v1=>(ix l0 v1).bind fun v2=>(fS.f m v0 v2).bind fun x0=>if x0=true then ((ix l0 n0).bind fun v3=>(ix eV k0).bind fun v4=>(ix l0 v4).bind fun v5=>(bF.f m v3 v5 bJ).bind fun x1=>if x1=true then ((ix eV k0).bind fun v6=>some (.inl v6)) else (cH.l0 m l0 eV n0 bJ k (i64.wrap (k0+(1:Int))))) else (cH.l0 m l0 eV n0 bJ k (i64.wrap (k0+(1:Int))))) else (some (.inr k0))
def cH.f (m:Nat)(l0:List ae)(eV:List Int)(n0:Int)(bJ:List Int):Option (Int):=(cH.l0 m l0 eV n0 bJ m (0:Int)).bind fun aF=>match aF with | .inl r0=>some r0 | .inr k1=>some n0
def cH.fin (L:Mem)(r:Int)(s:St):Prop:=∃av,aH Tryz.prog (s.open By) Tryz.f84.results.toList=some av∧gf s.h av (.int .i64 r)
def Sd (cf:CallF)(m:Nat):Prop:=∀(l0:List ae) (eV:List Int) (n0:Int) (bJ:List Int) (r:Int),cH.f m l0 eV n0 bJ=some r→∀h xs,eR fh h xs [ah.fz l0,aa.fz eV,.int .i64 n0,aa.fz bJ]→cf 84 xs h=some (.int .i64 r,h)
section
variable {cf:CallF}{m:Nat}
theorem cH.bu (L:Mem)(l0:List ae)(eV:List Int)(n0:Int)(bJ:List Int)  (xj:O7 cf m)(wD:Oe cf m):bC Tryz.prog cf By m (sub [1,0,1,0,0] (codeOf Tryz.f84)) (fun k (σ:Int)=>cH.l0 m l0 eV n0 bJ k σ) (fun σ s=>match σ with | k0=>∃h0,s=⟨[ah.fz l0,aa.fz eV,.int .i64 n0,aa.fz bJ,.any,.int .i64 k0,.any,.any],[],h0⟩∧Has h0 (L)) (fun out e s=>(e = .exit 0∧∃k0,.inr k0=out∧∃kM qM tG qQ pF h0,s=⟨[kM,qM,.int .i64 n0,tG,.any,qQ,pF,.any],[],h0⟩∧Has h0 (L))∨(e = .ret∧∃r,.inl r=out∧cH.fin L r s)):=by
 refine gk (fun _=>rfl) ?_
 rintro k k0 s out ⟨h0,rfl,o0⟩ H
 have H:cH.l0 m l0 eV n0 bJ (k+1) k0=some out:=H
 refine qq <| qq <| q0 <| qc H (fun c0 H=>?_) (fun c0 H=>?_)
 ·refine qk <| qq <| qb 1 <| qq ?_
  obtain⟨v0,e0,H⟩:=aG H
  obtain⟨v1,e1,H⟩:=aG H
  obtain⟨v2,e2,H⟩:=aG H
  obtain⟨x0,e3,H⟩:=aG H
  rcases dX H with⟨c1,H⟩| ⟨c1,H⟩
  ·obtain⟨v3,e4,H⟩:=aG H
   obtain⟨v4,e5,H⟩:=aG H
   obtain⟨v5,e6,H⟩:=aG H
   obtain⟨x1,e7,H⟩:=aG H
   refine qr [.v 2 (bN (k:=.i64) (E:=ah) (l:=l0) mj e0),.v 3 (dI  (E:=ah) (l:=l0) h0 th ti e0),.v 7 (bN (k:=.i64) (E:=aa) (l:=eV) dK e1),.v 8 (dd  (E:=aa) (l:=eV) h0 A3 e1 rfl),.v 9 (bN (k:=.i64) (E:=ah) (l:=l0) mj e2),.v 10 (dI  (E:=ah) (l:=l0) h0 th ti e2),.a 11 (xj _ _ _ e3 h0 _ (fT (ab (dJ (ab (aQ) (ab (aQ) (ab (cF) (ab (bB (E:=aa)) (aA)))))) (ab (dJ (ab (aQ) (ab (aQ) (ab (cF) (ab (bB (E:=aa)) (aA)))))) (aA))))),.b 12 c1,.v 15 (bN (k:=.i64) (E:=ah) (l:=l0) mj e4),.v 16 (dI  (E:=ah) (l:=l0) h0 th ti e4),.v 20 (bN (k:=.i64) (E:=aa) (l:=eV) dK e5),.v 21 (dd  (E:=aa) (l:=eV) h0 A3 e5 rfl),.v 22 (bN (k:=.i64) (E:=ah) (l:=l0) mj e6),.v 23 (dI  (E:=ah) (l:=l0) h0 th ti e6),.a 25 (wD _ _ _ _ e7 h0 _ (fT (ab (dJ (ab (aQ) (ab (aQ) (ab (cF) (ab (bB (E:=aa)) (aA)))))) (ab (dJ (ab (aQ) (ab (aQ) (ab (cF) (ab (bB (E:=aa)) (aA)))))) (ab (bB (E:=aa)) (aA))))))] ?_
   refine qc H (fun c2 H=>?_) (fun c2 H=>?_)
   ·refine qq ?_
    obtain⟨v6,e8,H⟩:=aG H
    exact qr [.v 2 (bN (k:=.i64) (E:=aa) (l:=eV) dK e8),.v 3 (dd  (E:=aa) (l:=eV) h0 A3 e8 rfl)] <| qt <| abD (⟨rfl,_,oi H,cp (.int .i64 v6) h0 (cn (dB))⟩)
   ·exact qk <| q0 <| ⟨i64.wrap (k0+(1:Int)),⟨h0,by kernel_rfl,o0⟩,H⟩
  ·exact qr [.v 2 (bN (k:=.i64) (E:=ah) (l:=l0) mj e0),.v 3 (dI  (E:=ah) (l:=l0) h0 th ti e0),.v 7 (bN (k:=.i64) (E:=aa) (l:=eV) dK e1),.v 8 (dd  (E:=aa) (l:=eV) h0 A3 e1 rfl),.v 9 (bN (k:=.i64) (E:=ah) (l:=l0) mj e2),.v 10 (dI  (E:=ah) (l:=l0) h0 th ti e2),.a 11 (xj _ _ _ e3 h0 _ (fT (ab (dJ (ab (aQ) (ab (aQ) (ab (cF) (ab (bB (E:=aa)) (aA)))))) (ab (dJ (ab (aQ) (ab (aQ) (ab (cF) (ab (bB (E:=aa)) (aA)))))) (aA))))),.b 12 c1] <| AU <| qk <| q0 <| ⟨i64.wrap (k0+(1:Int)),⟨h0,by kernel_rfl,o0⟩,H⟩
 ·exact qx 0 <| abM (⟨rfl,k0,oi H,ah.fz l0,aa.fz eV,aa.fz bJ,.int .i64 k0,.bool (decide (k0<(eV.length:Int))),h0,by kernel_rfl,o0⟩)
theorem ub {aV:FuncId→b9}(ha:aV 84=By)(xj:O7 cf m)(wD:Oe cf m)(l0:List ae)(eV:List Int)(n0:Int)(bJ:List Int)(h:AHeap)(L:Mem)  (o:Has h (L)){out:Int}(H:cH.f m l0 eV n0 bJ=some out) :
  ∃r h',bg Tryz.prog aV cf m 84 [ah.fz l0,aa.fz eV,.int .i64 n0,aa.fz bJ] h=some (r,h')∧gf h' r (.int .i64 out):=by
 refine aj (fn:=Tryz.f84) ha Tryz.func84 (by kernel_rfl) (by kernel_rfl) ?_
 refine aD (Q:=fun s=>cH.fin L out s) (fun _ _ h=>h) ?_
 have H:_=some out:=H
 unfold cH.f at H
 show dA _ cf By m _ ⟨ah.fz l0::aa.fz eV :: .int .i64 n0::aa.fz bJ::mT [],[],h⟩ _
 refine q1 <| qq <| qq <| q0 <| qb 0 ?_
 obtain⟨aF,e9,H⟩:=aG H
 refine ql (cH.bu L l0 eV n0 bJ  xj wD (0:Int) _ _ ⟨h,by kernel_rfl,o⟩ e9) ?_
 rintro e s (⟨rfl,k1,rfl,g0,g1,g2,g3,g4,h1,rfl,o1⟩| ⟨rfl,r0,rfl,l8⟩)
 ·try dsimp only at H
  obtain rfl:=oi H
  exact q1 <| qt <| ⟨.inl rfl,cp (.int .i64 n0) h1 (cn (dB))⟩
 ·try dsimp only at H
  obtain rfl:=oi H
  exact⟨.inl rfl,l8⟩
end
end Go.Proofs.YtmekcfdllhphlaaGreatDoor
namespace Go.Proofs.YtmekcfdllhphlaaGreatDoor
open Go Go.R
open Go.IntKind (i64 u64 u8 u32)
def nT:b9:=gm [0,2,3,4,5,6,7,8,9,10,11,12,13,14,15,22,27,42,56,67,73,95,109,120,127,148,177] [] [134217726,134217722,134217714,134217666,134217602,134184898,134217602,134217474,134151938,134217474,134086402,134217538,133955394,134217538,134217538,134217474,134217426,133693138,134217426,133168850,134217426,134217426,134216914,132119762,134216914,130022610,134216914,134216666,125829082,134216666,134214618,134214618,134210522,117433306,134210522,134202330,134202330,134185946,100631514,134185946,67077082,134185946,134210522,134216666,134217725] [] [(3,[(5,none,1),(6,none,1)]),(30,[(12,none,1)])]
def ai.l1 (m:Nat)(l0:List ae):Nat→(List Int)→(List Bool)→(List Int)→Bool→Int→Option ((List Int) × (List Bool) × (List Int) × Bool × Int)
 | 0,_,_,_,_,_=>none
 | k+1,du,dS,dF,mh,i0=>if (decide (i0≥(0:Int)))=true then ((ix dS i0).bind fun v0=>if v0=true then (ai.l1 m l0 k du dS dF mh (i64.wrap (i0 - (1:Int)))) else ((ix l0 i0).bind fun v1=>(cC.f m v1 dS).bind fun x2=>if (!x2)=true then (ai.l1 m l0 k du dS dF mh (i64.wrap (i0 - (1:Int)))) else ((cH.f m l0 dF i0 du).bind fun x3=>(ix du i0).bind fun v2=>(ix (du.set i0.toNat x3) i0).bind fun v3=>if (v3==i0)=true then ((app 8 dF ([i0])).bind fun x4=>(ix dS i0).bind fun v4=>ai.l1 m l0 k (du.set i0.toNat x3) (dS.set i0.toNat true) x4 true (i64.wrap (i0 - (1:Int)))) else ((ix dS i0).bind fun v5=>ai.l1 m l0 k (du.set i0.toNat x3) (dS.set i0.toNat true) dF true (i64.wrap (i0 - (1:Int))))))) else (some ((du,dS,dF,mh,i0)))
def ai.l0 (m:Nat)(l0:List ae):Nat→(List Int)→(List Bool)→(List Int)→Bool→Option ((List Int) × (List Bool) × (List Int) × Bool)
 | 0,_,_,_,_=>none
 | k+1,bJ,ez,gI,pf=>if pf=true then ((ai.l1 m l0 m bJ ez gI false (i64.wrap ((l0.length:Int) - (1:Int)))).bind fun aF=>match aF with | (Dl,I4,zL,I5,i1)=>ai.l0 m l0 k Dl I4 zL I5) else (some ((bJ,ez,gI,pf)))
def ai.l3 (m:Nat)(l0:List ae)(i2:Int)(x5:List Int):Nat→(List Int)→Int→Option ((List Int) × Int)
 | 0,_,_=>none
 | k+1,dC,k0=>(ix dC i2).bind fun v8=>if (v8==i2)=true then ((ix x5 k0).bind fun v9=>if (decide (v9<i2))=true then ((ix l0 i2).bind fun v10=>(ix x5 k0).bind fun v11=>(ix l0 v11).bind fun v12=>(fS.f m v10 v12).bind fun x6=>if x6=true then ((ix x5 k0).bind fun KS=>(ix dC KS).bind fun Cg=>(ix dC i2).bind fun oN=>ai.l3 m l0 i2 x5 k (dC.set i2.toNat Cg) (i64.wrap (k0+(1:Int)))) else (ai.l3 m l0 i2 x5 k dC (i64.wrap (k0+(1:Int))))) else (some ((dC,k0)))) else (some ((dC,k0)))
def ai.l2 (m:Nat)(l0:List ae)(eM:List Bool):Nat→(List Int)→(List Int)→Int→Option ((List Int) × (List Int) × Int)
 | 0,_,_,_=>none
 | k+1,fq,ke,i2=>if (decide (i2<(l0.length:Int)))=true then ((ix eM i2).bind fun v6=>if v6=true then (ai.l2 m l0 eM k fq ke (i64.wrap (i2+(1:Int)))) else ((app 8 ke ([i2])).bind fun x5=>(ix fq i2).bind fun v7=>(ai.l3 m l0 i2 x5 m (fq.set i2.toNat i2) (0:Int)).bind fun cw=>match cw with | (Dm,k1)=>ai.l2 m l0 eM k Dm x5 (i64.wrap (i2+(1:Int))))) else (some ((fq,ke,i2)))
def ai.l6 (m:Nat)(l0:List ae)(bW:List Int)(bn:List Int)(j0:Int)(nh:Int):Nat→(List Int)→Int→Option ((List Int) × Int)
 | 0,_,_=>none
 | k+1,dq,k2=>(ix dq nh).bind fun WS=>if (WS==nh)=true then (if (decide (k2<j0))=true then ((ix bn nh).bind fun WT=>(ix bW k2).bind fun v20=>(ix bn v20).bind fun v21=>if (WT==v21)=true then ((ix l0 nh).bind fun v22=>(ix bW k2).bind fun WU=>(ix l0 WU).bind fun v24=>(bF.f m v22 v24 bn).bind fun x8=>if x8=true then ((ix bW k2).bind fun WV=>(ix dq WV).bind fun O8=>(ix dq nh).bind fun YW=>ai.l6 m l0 bW bn j0 nh k (dq.set nh.toNat O8) (i64.wrap (k2+(1:Int)))) else (ai.l6 m l0 bW bn j0 nh k dq (i64.wrap (k2+(1:Int))))) else (ai.l6 m l0 bW bn j0 nh k dq (i64.wrap (k2+(1:Int))))) else (some ((dq,k2)))) else (some ((dq,k2)))
def ai.l5 (m:Nat)(l0:List ae)(bW:List Int)(bn:List Int):Nat→Bool→(List Int)→Int→Option (Bool × (List Int) × Int)
 | 0,_,_,_=>none
 | k+1,kp,ca,j0=>if (decide (j0<(bW.length:Int)))=true then ((ix bW j0).bind fun nh=>(ix ca nh).bind fun O9=>(ai.l6 m l0 bW bn j0 nh m (ca.set nh.toNat nh) (0:Int)).bind fun cE=>match cE with | (tl,k3)=>if kp=true then (ai.l5 m l0 bW bn k true tl (i64.wrap (j0+(1:Int)))) else ((ix tl nh).bind fun v28=>(ix bn nh).bind fun UF=>ai.l5 m l0 bW bn k (!(v28==UF)) tl (i64.wrap (j0+(1:Int))))) else (some ((kp,ca,j0)))
def ai.l4 (m:Nat)(l0:List ae)(bW:List Int):Nat→(List Int)→Bool→Option ((List Int) × Bool)
 | 0,_,_=>none
 | k+1,bn,pg=>if pg=true then ((app 8 ([]:List Int) bn).bind fun x7=>(ai.l5 m l0 bW bn m false x7 (0:Int)).bind fun kW=>match kW with | (I6,Bz,j1)=>ai.l4 m l0 bW k Bz I6) else (some ((bn,pg)))
def ai.f (m:Nat)(l0:List ae):Option ((List Int)):=(xb 8 (l0.length:Int) (0:Int)).bind fun x0=>(xb 1 (l0.length:Int) false).bind fun x1=>(ai.l0 m l0 m x0 x1 ([]:List Int) true).bind fun bm=>match bm with | (wE,eM,Ln,Rc)=>(ai.l2 m l0 eM m wE ([]:List Int) (0:Int)).bind fun jR=>match jR with | (wF,bW,i3)=>(ai.l4 m l0 bW m wF true).bind fun gT=>match gT with | (sC,Re)=>some sC
def ai.fin (L:Mem)(r:(List Int))(s:St):Prop:=∃av,aH Tryz.prog (s.open nT) Tryz.f62.results.toList=some av∧gf s.h av (aa.fz r)
def WW (cf:CallF)(m:Nat):Prop:=∀(l0:List ae) (r:(List Int)),ai.f m l0=some r→∀h xs,eR fh h xs [ah.fz l0]→cf 62 xs h=some (aa.fz r,h)
section
variable {cf:CallF}{m:Nat}
theorem ai.eO (L:Mem)(l0:List ae)  (I7:Sb cf m)(I8:Sd cf m):bC Tryz.prog cf nT m (sub [1,1,1,1,0,1,0,0,1,0,1,1,0,0] (codeOf Tryz.f62)) (fun k (σ:(List Int) × (List Bool) × (List Int) × Bool × Int)=>ai.l1 m l0 k σ.1 σ.2.1 σ.2.2.1 σ.2.2.2.1 σ.2.2.2.2) (fun σ s=>match σ with | (du,dS,dF,mh,i0)=>∃iX fK gV h3,s=⟨ah.fz l0 :: .any :: .rs gV 0 du.length 1 :: .rs fK 0 dS.length 1 :: .rs iX 0 dF.length 1 :: .rs ((0)) 0 (([]:List Int).length) 1 :: .bool mh :: .int .i64 i0::KN [],[],h3⟩∧Has h3 ((((0)),.sl (([]:List Int).length) 1 (aa.l ([]:List Int)))::(iX,.sl dF.length 1 (aa.l dF))::(fK,.sl dS.length 1 (dk.l dS))::(gV,.sl du.length 1 (aa.l du))::L)) (fun out e s=>(e = .exit 2∧∃du dS dF mh i0,(du,dS,dF,mh,i0)=out∧∃pG zJ iX fK gV h3,s=⟨ah.fz l0 :: .any :: .rs gV 0 du.length 1 :: .rs fK 0 dS.length 1 :: .rs iX 0 dF.length 1 :: .rs ((0)) 0 (([]:List Int).length) 1 :: .bool mh::pG::r9 (zJ::xd []),[],h3⟩∧Has h3 ((((0)),.sl (([]:List Int).length) 1 (aa.l ([]:List Int)))::(iX,.sl dF.length 1 (aa.l dF))::(fK,.sl dS.length 1 (dk.l dS))::(gV,.sl du.length 1 (aa.l du))::L))):=by
 refine gk (fun _=>rfl) ?_
 rintro k ⟨du,dS,dF,mh,i0⟩ s out ⟨iX,fK,gV,h3,rfl,o5⟩ H
 have H:ai.l1 m l0 (k+1) du dS dF mh i0=some out:=H
 refine qq <| qq <| q0 <| qc H (fun c1 H=>?_) (fun c1 H=>?_)
 ·refine qk <| qq <| qb 3 <| qq <| qq ?_
  obtain⟨v0,e4,H⟩:=aG H
  rcases dX H with⟨c2,H⟩| ⟨c2,H⟩
  ·exact qr [.v 2 (aJ (k:=.i64) (E:=dk) (l:=dS) (q:=2) xf o5 rfl e4),.v 3 (bA  (E:=dk) (l:=dS) (q:=2) o5 rfl A4 e4 rfl),.b 4 c2] <| uD <| qx 3 <| q0 <| ⟨(du,dS,dF,mh,i64.wrap (i0 - (1:Int))),⟨iX,fK,gV,h3,by kernel_rfl,o5⟩,H⟩
  ·obtain⟨v1,e5,H⟩:=aG H
   obtain⟨x2,e6,H⟩:=aG H
   refine qr [.v 2 (aJ (k:=.i64) (E:=dk) (l:=dS) (q:=2) xf o5 rfl e4),.v 3 (bA  (E:=dk) (l:=dS) (q:=2) o5 rfl A4 e4 rfl),.b 4 c2,.v 7 (bN (k:=.i64) (E:=ah) (l:=l0) mj e5),.v 8 (dI  (E:=ah) (l:=l0) h3 th ti e5),.a 10 (I7 _ _ _ e6 h3 _ (fT (ab (dJ (ab (aQ) (ab (aQ) (ab (cF) (ab (bB (E:=aa)) (aA)))))) (ab (mS (E:=dk) (l:=dS) (q:=2) o5 rfl (fun _=>rfl)) (aA)))))] <| qc H (fun c4 H=>?_) (fun c4 H=>?_)
   ·exact qx 3 <| q0 <| ⟨(du,dS,dF,mh,i64.wrap (i0 - (1:Int))),⟨iX,fK,gV,h3,by kernel_rfl,o5⟩,H⟩
   ·refine qk <| qq ?_
    obtain⟨x3,e7,H⟩:=aG H
    obtain⟨v2,e8,H⟩:=aG H
    obtain⟨h4,e9,o6⟩:=eG (P:=Tryz.prog) (tf:=3) (E:=aa) (l:=du) (q:=3) (v:=x3) (x:=.int .i64 x3) o5 rfl Z3 e8 rfl rfl
    refine qr [.a 6 (I8 _ _ _ _ _ e7 h3 _ (fT (ab (bB (E:=ah)) (ab (mS (E:=aa) (l:=dF) (q:=1) o5 rfl (fun _=>rfl)) (ab (aQ) (ab (mS (E:=aa) (l:=du) (q:=3) o5 rfl (fun _=>rfl)) (aA))))))),.v 7 (aJ (k:=.i64) (E:=aa) (l:=du) (q:=3) dK o5 rfl e8),.w 8 e9] <| qq <| qq ?_
    obtain⟨v3,lF,H⟩:=aG H
    refine qr [.v 2 (aJ (k:=.i64) (E:=aa) (l:=(du.set i0.toNat x3)) (q:=3) dK o6 rfl lF),.v 3 (bA  (E:=aa) (l:=(du.set i0.toNat x3)) (q:=3) o6 rfl A3 lF rfl)] <| qc H (fun c5 H=>?_) (fun c5 H=>?_)
    ·obtain⟨x4,nb,H⟩:=aG H
     obtain⟨kP,h5,nK,o7⟩:=cL (P:=Tryz.prog) (E:=aa) (l:=dF) (q:=1) (t2:=28) (x:=.fz [.int .i64 i0] 1 true) (l2:=([i0])) dK o6 rfl (by kernel_rfl) rfl nb
     refine qr [.a 3 nK] <| qq ?_
     obtain⟨v4,pa,H⟩:=aG H
     obtain⟨h6,pc,o8⟩:=eG (P:=Tryz.prog) (tf:=4) (E:=dk) (l:=dS) (q:=2) (v:=true) (x:=.bool true) o7 rfl Z4 pa rfl rfl
     exact qr [.v 2 (aJ (k:=.i64) (E:=dk) (l:=dS) (q:=2) xf o7 rfl pa),.w 3 pc] <| q0 <| q0 <| ⟨(du.set i0.toNat x3,dS.set i0.toNat true,x4,true,i64.wrap (i0 - (1:Int))),⟨kP,fK,gV,h6,(abz (b:=⟨ah.fz l0 :: .any :: .rs gV 0 du.length 1 :: .rs fK 0 dS.length 1 :: .rs kP 0 x4.length 1 :: .rs ((0)) 0 (([]:List Int).length) 1 :: .bool true :: .int .i64 (i64.wrap (i0 - (1:Int)))::KN [],[],h6⟩) (by kernel_rfl) (by simp only [aaN])),(by have o:Has h6 ((((0)),.sl (([]:List Int).length) 1 (aa.l ([]:List Int)))::(kP,.sl x4.length 1 (aa.l x4))::(fK,.sl dS.length 1 (dk.l (dS.set i0.toNat true)))::(gV,.sl du.length 1 (aa.l (du.set i0.toNat x3)))::L):=o8; simpa only [aaN] using o)⟩,H⟩
    ·refine qk <| qq ?_
     obtain⟨v5,pb,H⟩:=aG H
     obtain⟨h7,qU,o9⟩:=eG (P:=Tryz.prog) (tf:=4) (E:=dk) (l:=dS) (q:=2) (v:=true) (x:=.bool true) o6 rfl Z4 pb rfl rfl
     exact qr [.v 2 (aJ (k:=.i64) (E:=dk) (l:=dS) (q:=2) xf o6 rfl pb),.w 3 qU] <| q0 <| q0 <| ⟨(du.set i0.toNat x3,dS.set i0.toNat true,dF,true,i64.wrap (i0 - (1:Int))),⟨iX,fK,gV,h7,(abz (b:=⟨ah.fz l0 :: .any :: .rs gV 0 du.length 1 :: .rs fK 0 dS.length 1 :: .rs iX 0 dF.length 1 :: .rs ((0)) 0 (([]:List Int).length) 1 :: .bool true :: .int .i64 (i64.wrap (i0 - (1:Int)))::KN [],[],h7⟩) (by kernel_rfl) (by simp only [aaN])),(by have o:Has h7 ((((0)),.sl (([]:List Int).length) 1 (aa.l ([]:List Int)))::(iX,.sl dF.length 1 (aa.l dF))::(fK,.sl dS.length 1 (dk.l (dS.set i0.toNat true)))::(gV,.sl du.length 1 (aa.l (du.set i0.toNat x3)))::L):=o9; simpa only [aaN] using o)⟩,H⟩
 ·exact qx 2 <| ⟨rfl,du,dS,dF,mh,i0,oi H,.int .i64 i0,.bool (decide (i0≥(0:Int))),iX,fK,gV,h3,by kernel_rfl,o5⟩
theorem ai.bu (L:Mem)(l0:List ae)  (I7:Sb cf m)(I8:Sd cf m):bC Tryz.prog cf nT m (sub [1,1,1,1,0,1,0,0] (codeOf Tryz.f62)) (fun k (σ:(List Int) × (List Bool) × (List Int) × Bool)=>ai.l0 m l0 k σ.1 σ.2.1 σ.2.2.1 σ.2.2.2) (fun σ s=>match σ with | (bJ,ez,gI,pf)=>∃g0 g1 gY fc cR h2,s=⟨ah.fz l0 :: .any :: .rs cR 0 bJ.length 1 :: .rs fc 0 ez.length 1 :: .rs gY 0 gI.length 1 :: .rs ((0)) 0 (([]:List Int).length) 1 :: .bool pf::g0::r9 (g1::xd []),[],h2⟩∧Has h2 ((((0)),.sl (([]:List Int).length) 1 (aa.l ([]:List Int)))::(gY,.sl gI.length 1 (aa.l gI))::(fc,.sl ez.length 1 (dk.l ez))::(cR,.sl bJ.length 1 (aa.l bJ))::L)) (fun out e s=>(e = .exit 0∧∃bJ ez gI pf,(bJ,ez,gI,pf)=out∧∃oK se pG zq zJ gY fc cR h2,s=⟨ah.fz l0 :: .any :: .rs cR 0 bJ.length 1 :: .rs fc 0 ez.length 1::oK :: .rs ((0)) 0 (([]:List Int).length) 1::se::pG::zY (zq::zJ::xd []),[],h2⟩∧Has h2 ((((0)),.sl (([]:List Int).length) 1 (aa.l ([]:List Int)))::(gY,.sl gI.length 1 (aa.l gI))::(fc,.sl ez.length 1 (dk.l ez))::(cR,.sl bJ.length 1 (aa.l bJ))::L))):=by
 refine gk (fun _=>rfl) ?_
 rintro k ⟨bJ,ez,gI,pf⟩ s out ⟨g0,g1,gY,fc,cR,h2,rfl,o4⟩ H
 have H:ai.l0 m l0 (k+1) bJ ez gI pf=some out:=H
 refine qq <| qq <| q0 <| qc H (fun c0 H=>?_) (fun c0 H=>?_)
 ·refine qk <| qb 1 <| qq <| q0 <| qq <| q0 <| qb 2 ?_
  obtain⟨aF,pP,H⟩:=aG H
  refine ql (ai.eO L l0  I7 I8 (bJ,ez,gI,false,i64.wrap ((l0.length:Int) - (1:Int))) _ _ ⟨gY,fc,cR,h2,by kernel_rfl,o4⟩ pP) ?_
  rintro e s ⟨rfl,Dl,I4,zL,I5,i1,rfl,g2,g3,rG,eS,me,h8,rfl,oz⟩
  try dsimp only at H
  exact⟨(Dl,I4,zL,I5),⟨g2,g3,rG,eS,me,h8,by kernel_rfl,oz⟩,H⟩
 ·exact qx 0 <| ⟨rfl,bJ,ez,gI,pf,oi H,.rs gY 0 gI.length 1,.any,.any,.bool pf,.any,gY,fc,cR,h2,by kernel_rfl,o4⟩
theorem ai.qT (L:Mem)(l0:List ae)(fP:Nat)(eM:List Bool)(fP:Nat)(i2:Int)(x5:List Int)(sD:Nat)  (xj:O7 cf m):bC Tryz.prog cf nT m (sub [1,1,1,1,1,0,1,0,0,1,0,0,1,1,1,1,0,0] (codeOf Tryz.f62)) (fun k (σ:(List Int) × Int)=>ai.l3 m l0 i2 x5 k σ.1 σ.2) (fun σ s=>match σ with | (dC,k0)=>∃sE h13,s=⟨ah.fz l0 :: .any :: .rs sE 0 dC.length 1 :: .rs fP 0 eM.length 1 :: .any :: .rs sD 0 x5.length 1 :: .any :: .any :: .int .i64 i2 :: .int .i64 k0::CT [],[],h13⟩∧Has h13 ((sD,.sl x5.length 1 (aa.l x5))::(fP,.sl eM.length 1 (dk.l eM))::(sE,.sl dC.length 1 (aa.l dC))::L)) (fun out e s=>(e = .exit 6∧∃dC k0,(dC,k0)=out∧∃pE UG sE h13,s=⟨ah.fz l0 :: .any :: .rs sE 0 dC.length 1 :: .rs fP 0 eM.length 1 :: .any :: .rs sD 0 x5.length 1 :: .any :: .any :: .int .i64 i2::pE::nE (UG::qF []),[],h13⟩∧Has h13 ((sD,.sl x5.length 1 (aa.l x5))::(fP,.sl eM.length 1 (dk.l eM))::(sE,.sl dC.length 1 (aa.l dC))::L))):=by
 refine gk (fun _=>rfl) ?_
 rintro k ⟨dC,k0⟩ s out ⟨sE,h13,rfl,kO⟩ H
 have H:ai.l3 m l0 i2 x5 (k+1) dC k0=some out:=H
 refine qq <| qq ?_
 obtain⟨v8,z6,H⟩:=aG H
 rcases dX H with⟨c8,H⟩| ⟨c8,H⟩
 ·obtain⟨v9,z8,H⟩:=aG H
  refine qr [.v 2 (aJ (k:=.i64) (E:=aa) (l:=dC) (q:=2) dK kO rfl z6),.v 3 (bA  (E:=aa) (l:=dC) (q:=2) kO rfl A3 z6 rfl),.b 6 c8,.v 9 (aJ (k:=.i64) (E:=aa) (l:=x5) (q:=0) dK kO rfl z8),.v 10 (bA  (E:=aa) (l:=x5) (q:=0) kO rfl A3 z8 rfl)] <| qc H (fun c9 H=>?_) (fun c9 H=>?_)
  ·refine qk <| qq <| qb 7 <| qq ?_
   obtain⟨v10,C3,H⟩:=aG H
   obtain⟨v11,El,H⟩:=aG H
   obtain⟨v12,C1,H⟩:=aG H
   obtain⟨x6,C2,H⟩:=aG H
   refine qr [.v 2 (bN (k:=.i64) (E:=ah) (l:=l0) mj C3),.v 3 (dI  (E:=ah) (l:=l0) h13 th ti C3),.v 7 (aJ (k:=.i64) (E:=aa) (l:=x5) (q:=0) dK kO rfl El),.v 8 (bA  (E:=aa) (l:=x5) (q:=0) kO rfl A3 El rfl),.v 9 (bN (k:=.i64) (E:=ah) (l:=l0) mj C1),.v 10 (dI  (E:=ah) (l:=l0) h13 th ti C1),.a 11 (xj _ _ _ C2 h13 _ (fT (ab (dJ (ab (aQ) (ab (aQ) (ab (cF) (ab (bB (E:=aa)) (aA)))))) (ab (dJ (ab (aQ) (ab (aQ) (ab (cF) (ab (bB (E:=aa)) (aA)))))) (aA)))))] <| qc H (fun vJ H=>?_) (fun vJ H=>?_)
   ·obtain⟨KS,Gd,H⟩:=aG H
    obtain⟨Cg,KT,H⟩:=aG H
    obtain⟨oN,NY,H⟩:=aG H
    obtain⟨h14,J9,uF⟩:=eG (P:=Tryz.prog) (tf:=3) (E:=aa) (l:=dC) (q:=2) (v:=Cg) (x:=.int .i64 Cg) kO rfl Z3 NY rfl rfl
    exact qr [.v 5 (aJ (k:=.i64) (E:=aa) (l:=x5) (q:=0) dK kO rfl Gd),.v 6 (bA  (E:=aa) (l:=x5) (q:=0) kO rfl A3 Gd rfl),.v 7 (aJ (k:=.i64) (E:=aa) (l:=dC) (q:=2) dK kO rfl KT),.v 8 (bA  (E:=aa) (l:=dC) (q:=2) kO rfl A3 KT rfl),.v 9 (aJ (k:=.i64) (E:=aa) (l:=dC) (q:=2) dK kO rfl NY),.w 10 J9] <| q0 <| ⟨(dC.set i2.toNat Cg,i64.wrap (k0+(1:Int))),⟨sE,h14,(abz (b:=⟨ah.fz l0 :: .any :: .rs sE 0 dC.length 1 :: .rs fP 0 eM.length 1 :: .any :: .rs sD 0 x5.length 1 :: .any :: .any :: .int .i64 i2 :: .int .i64 (i64.wrap (k0+(1:Int)))::CT [],[],h14⟩) (by kernel_rfl) (by simp only [aaN])),(by have o:Has h14 ((sD,.sl x5.length 1 (aa.l x5))::(fP,.sl eM.length 1 (dk.l eM))::(sE,.sl dC.length 1 (aa.l (dC.set i2.toNat Cg)))::L):=uF; simpa only [aaN] using o)⟩,H⟩
   ·exact qk <| q0 <| ⟨(dC,i64.wrap (k0+(1:Int))),⟨sE,h13,by kernel_rfl,kO⟩,H⟩
  ·exact qx 6 <| ⟨rfl,dC,k0,oi H,.int .i64 k0,.bool (decide (v9<i2)),sE,h13,by kernel_rfl,kO⟩
 ·exact qr [.v 2 (aJ (k:=.i64) (E:=aa) (l:=dC) (q:=2) dK kO rfl z6),.v 3 (bA  (E:=aa) (l:=dC) (q:=2) kO rfl A3 z6 rfl),.b 6 c8] <| AU <| qx 6 <| ⟨rfl,dC,k0,oi H,.int .i64 k0,.bool false,sE,h13,by kernel_rfl,kO⟩
theorem ai.ma (L:Mem)(l0:List ae)(fP:Nat)(eM:List Bool)(fP:Nat)  (xj:O7 cf m):bC Tryz.prog cf nT m (sub [1,1,1,1,1,0,1,0,0] (codeOf Tryz.f62)) (fun k (σ:(List Int) × (List Int) × Int)=>ai.l2 m l0 eM k σ.1 σ.2.1 σ.2.2) (fun σ s=>match σ with | (fq,ke,i2)=>∃kX iB h10,s=⟨ah.fz l0 :: .any :: .rs iB 0 fq.length 1 :: .rs fP 0 eM.length 1 :: .any :: .rs kX 0 ke.length 1 :: .any :: .any :: .int .i64 i2::P8 [],[],h10⟩∧Has h10 ((kX,.sl ke.length 1 (aa.l ke))::(fP,.sl eM.length 1 (dk.l eM))::(iB,.sl fq.length 1 (aa.l fq))::L)) (fun out e s=>(e = .exit 4∧∃fq ke i2,(fq,ke,i2)=out∧∃zp qQ UH kX iB h10,s=⟨ah.fz l0 :: .any :: .rs iB 0 fq.length 1::zp :: .any :: .rs kX 0 ke.length 1 :: .any :: .any::qQ::xd (UH::zY []),[],h10⟩∧Has h10 ((kX,.sl ke.length 1 (aa.l ke))::(fP,.sl eM.length 1 (dk.l eM))::(iB,.sl fq.length 1 (aa.l fq))::L))):=by
 refine gk (fun _=>rfl) ?_
 rintro k ⟨fq,ke,i2⟩ s out ⟨kX,iB,h10,rfl,kN⟩ H
 have H:ai.l2 m l0 eM (k+1) fq ke i2=some out:=H
 refine qq <| qq <| q0 <| qc H (fun c6 H=>?_) (fun c6 H=>?_)
 ·refine qk <| qq <| qb 5 <| qq <| qq ?_
  obtain⟨v6,rF,H⟩:=aG H
  refine qr [.v 2 (aJ (k:=.i64) (E:=dk) (l:=eM) (q:=1) xf kN rfl rF),.v 3 (bA  (E:=dk) (l:=eM) (q:=1) kN rfl A4 rF rfl)] <| qc H (fun c7 H=>?_) (fun c7 H=>?_)
  ·exact qx 5 <| q0 <| ⟨(fq,ke,i64.wrap (i2+(1:Int))),⟨kX,iB,h10,by kernel_rfl,kN⟩,H⟩
  ·refine qk <| qq ?_
   obtain⟨x5,ye,H⟩:=aG H
   obtain⟨sD,h11,z7,tL⟩:=cL (P:=Tryz.prog) (E:=aa) (l:=ke) (q:=0) (t2:=28) (x:=.fz [.int .i64 i2] 1 true) (l2:=([i2])) dK kN rfl (by kernel_rfl) rfl ye
   refine qr [.a 3 z7] <| qq ?_
   obtain⟨v7,zZ,H⟩:=aG H
   obtain⟨h12,Bb,qR⟩:=eG (P:=Tryz.prog) (tf:=3) (E:=aa) (l:=fq) (q:=2) (v:=i2) (x:=.int .i64 i2) tL rfl Z3 zZ rfl rfl
   refine qr [.v 3 (aJ (k:=.i64) (E:=aa) (l:=fq) (q:=2) dK tL rfl zZ),.w 4 Bb] <| qq <| q0 <| qb 6 ?_
   obtain⟨cw,OZ,H⟩:=aG H
   refine ql (ai.qT L l0 fP eM fP i2 x5 sD  xj (fq.set i2.toNat i2,(0:Int)) _ _ ⟨iB,h12,(abz (b:=⟨ah.fz l0 :: .any :: .rs iB 0 fq.length 1 :: .rs fP 0 eM.length 1 :: .any :: .rs sD 0 x5.length 1 :: .any :: .any :: .int .i64 i2 :: .int .i64 (0:Int)::CT [],[],h12⟩) (by kernel_rfl) (by simp only [aaN])),(by have o:Has h12 ((sD,.sl x5.length 1 (aa.l x5))::(fP,.sl eM.length 1 (dk.l eM))::(iB,.sl fq.length 1 (aa.l (fq.set i2.toNat i2)))::L):=qR; simpa only [aaN] using o)⟩ OZ) ?_
   rintro e s ⟨rfl,Dm,k1,rfl,g9,g10,Of,h15,rfl,yf⟩
   try dsimp only at H
   exact q0 <| ⟨(Dm,x5,i64.wrap (i2+(1:Int))),⟨sD,Of,h15,by kernel_rfl,yf⟩,H⟩
 ·exact qx 4 <| ⟨rfl,fq,ke,i2,oi H,.rs fP 0 eM.length 1,.int .i64 i2,.bool (decide (i2<(l0.length:Int))),kX,iB,h10,by kernel_rfl,kN⟩
theorem ai.I9 (L:Mem)(l0:List ae)(iU:Nat)(bW:List Int)(iU:Nat)(jA:Nat)(bn:List Int)(jA:Nat)(kp:Bool)(j0:Int)(nh:Int)  (wD:Oe cf m):bC Tryz.prog cf nT m (sub [1,1,1,1,1,1,0,1,0,0,1,0,1,1,1,0,1,0,0,1,0,0,1,1,0,1,0,0] (codeOf Tryz.f62)) (fun k (σ:(List Int) × Int)=>ai.l6 m l0 bW bn j0 nh k σ.1 σ.2) (fun σ s=>match σ with | (dq,k2)=>∃sF h21,s=⟨ah.fz l0 :: .any :: .rs jA 0 bn.length 1 :: .any :: .any :: .rs iU 0 bW.length 1::mT (.bool kp :: .rs sF 0 dq.length 1 :: .int .i64 j0 :: .int .i64 nh :: .int .i64 k2::oE []),[],h21⟩∧Has h21 ((sF,.sl dq.length 1 (aa.l dq))::(iU,.sl bW.length 1 (aa.l bW))::(jA,.sl bn.length 1 (aa.l bn))::L)) (fun out e s=>(e = .exit 12∧∃dq k2,(dq,k2)=out∧∃sk Rf sF h21,s=⟨ah.fz l0 :: .any :: .rs jA 0 bn.length 1 :: .any :: .any :: .rs iU 0 bW.length 1::mT (.bool kp :: .rs sF 0 dq.length 1 :: .int .i64 j0 :: .int .i64 nh::sk::xd [Rf,.any]),[],h21⟩∧Has h21 ((sF,.sl dq.length 1 (aa.l dq))::(iU,.sl bW.length 1 (aa.l bW))::(jA,.sl bn.length 1 (aa.l bn))::L))):=by
 refine gk (fun _=>rfl) ?_
 rintro k ⟨dq,k2⟩ s out ⟨sF,h21,rfl,oJ⟩ H
 have H:ai.l6 m l0 bW bn j0 nh (k+1) dq k2=some out:=H
 refine qq <| qq ?_
 obtain⟨WS,KV,H⟩:=aG H
 rcases dX H with⟨qP,H⟩| ⟨qP,H⟩
 ·refine qr [.v 2 (aJ (k:=.i64) (E:=aa) (l:=dq) (q:=0) dK oJ rfl KV),.v 3 (bA  (E:=aa) (l:=dq) (q:=0) oJ rfl A3 KV rfl),.b 6 qP] <| qc H (fun Eg H=>?_) (fun Eg H=>?_)
  ·refine qk <| qq <| qb 13 <| qq ?_
   obtain⟨WT,Mb,H⟩:=aG H
   obtain⟨v20,Mc,H⟩:=aG H
   obtain⟨v21,O3,H⟩:=aG H
   rcases dX H with⟨Eh,H⟩| ⟨Eh,H⟩
   ·obtain⟨v22,WX,H⟩:=aG H
    obtain⟨WU,WY,H⟩:=aG H
    obtain⟨v24,WZ,H⟩:=aG H
    obtain⟨x8,YX,H⟩:=aG H
    refine qr [.v 2 (aJ (k:=.i64) (E:=aa) (l:=bn) (q:=2) dK oJ rfl Mb),.v 3 (bA  (E:=aa) (l:=bn) (q:=2) oJ rfl A3 Mb rfl),.v 7 (aJ (k:=.i64) (E:=aa) (l:=bW) (q:=1) dK oJ rfl Mc),.v 8 (bA  (E:=aa) (l:=bW) (q:=1) oJ rfl A3 Mc rfl),.v 9 (aJ (k:=.i64) (E:=aa) (l:=bn) (q:=2) dK oJ rfl O3),.v 10 (bA  (E:=aa) (l:=bn) (q:=2) oJ rfl A3 O3 rfl),.b 12 Eh,.v 15 (bN (k:=.i64) (E:=ah) (l:=l0) mj WX),.v 16 (dI  (E:=ah) (l:=l0) h21 th ti WX),.v 20 (aJ (k:=.i64) (E:=aa) (l:=bW) (q:=1) dK oJ rfl WY),.v 21 (bA  (E:=aa) (l:=bW) (q:=1) oJ rfl A3 WY rfl),.v 22 (bN (k:=.i64) (E:=ah) (l:=l0) mj WZ),.v 23 (dI  (E:=ah) (l:=l0) h21 th ti WZ),.a 25 (wD _ _ _ _ YX h21 _ (fT (ab (dJ (ab (aQ) (ab (aQ) (ab (cF) (ab (bB (E:=aa)) (aA)))))) (ab (dJ (ab (aQ) (ab (aQ) (ab (cF) (ab (bB (E:=aa)) (aA)))))) (ab (mS (E:=aa) (l:=bn) (q:=2) oJ rfl (fun _=>rfl)) (aA))))))] ?_
    refine qc H (fun F7 H=>?_) (fun F7 H=>?_)
    ·obtain⟨WV,W2,H⟩:=aG H
     obtain⟨O8,W3,H⟩:=aG H
     obtain⟨YW,W4,H⟩:=aG H
     obtain⟨h22,YY,Md⟩:=eG (P:=Tryz.prog) (tf:=3) (E:=aa) (l:=dq) (q:=0) (v:=O8) (x:=.int .i64 O8) oJ rfl Z3 W4 rfl rfl
     exact qr [.v 5 (aJ (k:=.i64) (E:=aa) (l:=bW) (q:=1) dK oJ rfl W2),.v 6 (bA  (E:=aa) (l:=bW) (q:=1) oJ rfl A3 W2 rfl),.v 7 (aJ (k:=.i64) (E:=aa) (l:=dq) (q:=0) dK oJ rfl W3),.v 8 (bA  (E:=aa) (l:=dq) (q:=0) oJ rfl A3 W3 rfl),.v 9 (aJ (k:=.i64) (E:=aa) (l:=dq) (q:=0) dK oJ rfl W4),.w 10 YY] <| q0 <| ⟨(dq.set nh.toNat O8,i64.wrap (k2+(1:Int))),⟨sF,h22,(abz (b:=⟨ah.fz l0 :: .any :: .rs jA 0 bn.length 1 :: .any :: .any :: .rs iU 0 bW.length 1::mT (.bool kp :: .rs sF 0 dq.length 1 :: .int .i64 j0 :: .int .i64 nh :: .int .i64 (i64.wrap (k2+(1:Int)))::oE []),[],h22⟩) (by kernel_rfl) (by simp only [aaN])),(by have o:Has h22 ((sF,.sl dq.length 1 (aa.l (dq.set nh.toNat O8)))::(iU,.sl bW.length 1 (aa.l bW))::(jA,.sl bn.length 1 (aa.l bn))::L):=Md; simpa only [aaN] using o)⟩,H⟩
    ·exact qk <| q0 <| ⟨(dq,i64.wrap (k2+(1:Int))),⟨sF,h21,by kernel_rfl,oJ⟩,H⟩
   ·exact qr [.v 2 (aJ (k:=.i64) (E:=aa) (l:=bn) (q:=2) dK oJ rfl Mb),.v 3 (bA  (E:=aa) (l:=bn) (q:=2) oJ rfl A3 Mb rfl),.v 7 (aJ (k:=.i64) (E:=aa) (l:=bW) (q:=1) dK oJ rfl Mc),.v 8 (bA  (E:=aa) (l:=bW) (q:=1) oJ rfl A3 Mc rfl),.v 9 (aJ (k:=.i64) (E:=aa) (l:=bn) (q:=2) dK oJ rfl O3),.v 10 (bA  (E:=aa) (l:=bn) (q:=2) oJ rfl A3 O3 rfl),.b 12 Eh] <| AU <| qk <| q0 <| ⟨(dq,i64.wrap (k2+(1:Int))),⟨sF,h21,by kernel_rfl,oJ⟩,H⟩
  ·exact qx 12 <| ⟨rfl,dq,k2,oi H,.int .i64 k2,.bool (decide (k2<j0)),sF,h21,by kernel_rfl,oJ⟩
 ·exact qr [.v 2 (aJ (k:=.i64) (E:=aa) (l:=dq) (q:=0) dK oJ rfl KV),.v 3 (bA  (E:=aa) (l:=dq) (q:=0) oJ rfl A3 KV rfl),.b 6 qP] <| AU <| qx 12 <| ⟨rfl,dq,k2,oi H,.int .i64 k2,.bool false,sF,h21,by kernel_rfl,oJ⟩
theorem ai.Ja (L:Mem)(l0:List ae)(iU:Nat)(bW:List Int)(iU:Nat)(jA:Nat)(bn:List Int)(jA:Nat)  (wD:Oe cf m):bC Tryz.prog cf nT m (sub [1,1,1,1,1,1,0,1,0,0,1,0,1,1,1,0,1,0,0] (codeOf Tryz.f62)) (fun k (σ:Bool × (List Int) × Int)=>ai.l5 m l0 bW bn k σ.1 σ.2.1 σ.2.2) (fun σ s=>match σ with | (kp,ca,j0)=>∃xk h19,s=⟨ah.fz l0 :: .any :: .rs jA 0 bn.length 1 :: .any :: .any :: .rs iU 0 bW.length 1::mT (.bool kp :: .rs xk 0 ca.length 1 :: .int .i64 j0::qG []),[],h19⟩∧Has h19 ((xk,.sl ca.length 1 (aa.l ca))::(iU,.sl bW.length 1 (aa.l bW))::(jA,.sl bn.length 1 (aa.l bn))::L)) (fun out e s=>(e = .exit 10∧∃kp ca j0,(kp,ca,j0)=out∧∃tG pF Rg xk h19,s=⟨ah.fz l0 :: .any::tG :: .any :: .any :: .rs iU 0 bW.length 1::mT (.bool kp :: .rs xk 0 ca.length 1::pF::nE [Rg,.any,.any]),[],h19⟩∧Has h19 ((xk,.sl ca.length 1 (aa.l ca))::(iU,.sl bW.length 1 (aa.l bW))::(jA,.sl bn.length 1 (aa.l bn))::L))):=by
 refine gk (fun _=>rfl) ?_
 rintro k ⟨kp,ca,j0⟩ s out ⟨xk,h19,rfl,Gg⟩ H
 have H:ai.l5 m l0 bW bn (k+1) kp ca j0=some out:=H
 refine qq <| qq <| q0 <| qc H (fun tI H=>?_) (fun tI H=>?_)
 ·refine qk <| qq <| qb 11 <| qq ?_
  obtain⟨nh,NZ,H⟩:=aG H
  refine qr [.v 2 (aJ (k:=.i64) (E:=aa) (l:=bW) (q:=1) dK Gg rfl NZ),.v 3 (bA  (E:=aa) (l:=bW) (q:=1) Gg rfl A3 NZ rfl)] <| qq ?_
  obtain⟨O9,O1,H⟩:=aG H
  obtain⟨h20,QL,O2⟩:=eG (P:=Tryz.prog) (tf:=3) (E:=aa) (l:=ca) (q:=0) (v:=nh) (x:=.int .i64 nh) Gg rfl Z3 O1 rfl rfl
  refine qr [.v 3 (aJ (k:=.i64) (E:=aa) (l:=ca) (q:=0) dK Gg rfl O1),.w 4 QL] <| qq <| qq <| q0 <| qb 12 ?_
  obtain⟨cE,YZ,H⟩:=aG H
  refine ql (ai.I9 L l0 iU bW iU jA bn jA kp j0 nh  wD (ca.set nh.toNat nh,(0:Int)) _ _ ⟨xk,h20,(abz (b:=⟨ah.fz l0 :: .any :: .rs jA 0 bn.length 1 :: .any :: .any :: .rs iU 0 bW.length 1::mT (.bool kp :: .rs xk 0 ca.length 1 :: .int .i64 j0 :: .int .i64 nh :: .int .i64 (0:Int)::oE []),[],h20⟩) (by kernel_rfl) (by simp only [aaN])),(by have o:Has h20 ((xk,.sl ca.length 1 (aa.l (ca.set nh.toNat nh)))::(iU,.sl bW.length 1 (aa.l bW))::(jA,.sl bn.length 1 (aa.l bn))::L):=O2; simpa only [aaN] using o)⟩ YZ) ?_
  rintro e s ⟨rfl,tl,k3,rfl,g14,g15,Rh,h23,rfl,Ka⟩
  try dsimp only at H
  rcases dX H with⟨Mm,H⟩| ⟨Mm,H⟩
  ·exact qr [.b 1 Mm] <| q0 <| ⟨(true,tl,i64.wrap (j0+(1:Int))),⟨Rh,h23,by kernel_rfl,Ka⟩,H⟩
  ·obtain⟨v28,W5,H⟩:=aG H
   obtain⟨UF,W6,H⟩:=aG H
   exact qr [.b 1 Mm,.v 4 (aJ (k:=.i64) (E:=aa) (l:=tl) (q:=0) dK Ka rfl W5),.v 5 (bA  (E:=aa) (l:=tl) (q:=0) Ka rfl A3 W5 rfl),.v 8 (aJ (k:=.i64) (E:=aa) (l:=bn) (q:=2) dK Ka rfl W6),.v 9 (bA  (E:=aa) (l:=bn) (q:=2) Ka rfl A3 W6 rfl)] <| q0 <| ⟨(!(v28==UF),tl,i64.wrap (j0+(1:Int))),⟨Rh,h23,by kernel_rfl,Ka⟩,H⟩
 ·exact qx 10 <| ⟨rfl,kp,ca,j0,oi H,.rs jA 0 bn.length 1,.int .i64 j0,.bool (decide (j0<(bW.length:Int))),xk,h19,by kernel_rfl,Gg⟩
theorem ai.vQ (L:Mem)(l0:List ae)(iU:Nat)(bW:List Int)(iU:Nat)  (wD:Oe cf m):bC Tryz.prog cf nT m (sub [1,1,1,1,1,1,0,1,0,0] (codeOf Tryz.f62)) (fun k (σ:(List Int) × Bool)=>ai.l4 m l0 bW k σ.1 σ.2) (fun σ s=>match σ with | (bn,pg)=>∃jA h17,s=⟨ah.fz l0 :: .any :: .rs jA 0 bn.length 1 :: .any :: .any :: .rs iU 0 bW.length 1::mT (.bool pg::HR []),[],h17⟩∧Has h17 ((iU,.sl bW.length 1 (aa.l bW))::(jA,.sl bn.length 1 (aa.l bn))::L)) (fun out e s=>(e = .exit 8∧∃bn pg,(bn,pg)=out∧∃kM C8 zj Jb jA h17,s=⟨kM :: .any :: .rs jA 0 bn.length 1 :: .any :: .any::C8::mT (zj::oE (Jb::jE [])),[],h17⟩∧Has h17 ((iU,.sl bW.length 1 (aa.l bW))::(jA,.sl bn.length 1 (aa.l bn))::L))):=by
 refine gk (fun _=>rfl) ?_
 rintro k ⟨bn,pg⟩ s out ⟨jA,h17,rfl,uG⟩ H
 have H:ai.l4 m l0 bW (k+1) bn pg=some out:=H
 refine qq <| qq <| q0 <| qc H (fun sd H=>?_) (fun sd H=>?_)
 ·refine qk <| qb 9 <| qq <| q0 <| qq <| q0 ?_
  have xi:Has h17 (((((0))),.sl (([]:List Int).length) 1 (aa.l ([]:List Int)))::(iU,.sl bW.length 1 (aa.l bW))::(jA,.sl bn.length 1 (aa.l bn))::L):=Has.nil uG 1
  refine qq ?_
  obtain⟨x7,QJ,H⟩:=aG H
  obtain⟨UI,h18,QK,Bd⟩:=cL (P:=Tryz.prog) (E:=aa) (l:=([]:List Int)) (q:=0) (t2:=28) (x:=.rs jA 0 bn.length 1) (l2:=bn) dK xi rfl (gj (E:=aa) (l:=bn) (q:=2) xi rfl) rfl QJ
  refine qr [.a 2 QK] <| qq <| qq <| q0 <| qb 10 ?_
  obtain⟨kW,Y0,H⟩:=aG H
  refine ql (ai.Ja L l0 iU bW iU jA bn jA  wD (false,x7,(0:Int)) _ _ ⟨UI,h18,by kernel_rfl,Bd⟩ Y0) ?_
  rintro e s ⟨rfl,I6,Bz,j1,rfl,g16,g17,g18,Ri,h24,rfl,QM⟩
  try dsimp only at H
  refine q0 ?_
  have QN:Has h24 ((Ri,.sl Bz.length 1 (aa.l Bz))::(iU,.sl bW.length 1 (aa.l bW))::L):=Has.del QM 2
  exact⟨(Bz,I6),⟨Ri,h24,by kernel_rfl,(Has.front (Has.front QN 0 rfl) 1 rfl)⟩,H⟩
 ·exact qx 8 <| ⟨rfl,bn,pg,oi H,ah.fz l0,.rs iU 0 bW.length 1,.any,.bool pg,jA,h17,by kernel_rfl,uG⟩
theorem pL {aV:FuncId→b9}(ha:aV 62=nT)(I7:Sb cf m)(I8:Sd cf m)(xj:O7 cf m)(wD:Oe cf m)(l0:List ae)(h:AHeap)(L:Mem)  (o:Has h (L)){out:(List Int)}(H:ai.f m l0=some out) :
  ∃r h',bg Tryz.prog aV cf m 62 [ah.fz l0] h=some (r,h')∧gf h' r (aa.fz out):=by
 refine aj (fn:=Tryz.f62) ha Tryz.func62 (by kernel_rfl) (by kernel_rfl) ?_
 refine aD (Q:=fun s=>ai.fin L out s) (fun _ _ h=>h) ?_
 have H:_=some out:=H
 unfold ai.f at H
 show dA _ cf nT m _ ⟨ah.fz l0::Tz [],[],h⟩ _
 refine q1 <| qq ?_
 obtain⟨x0,e0,H⟩:=aG H
 obtain⟨az,h0,e1,o0⟩:=pz (P:=Tryz.prog) (E:=aa) (z:=(0:Int)) (zv:=.int .i64 (0:Int)) dK o 3 rfl rfl rfl rfl e0
 refine qr [.a 2 e1] <| qq ?_
 obtain⟨x1,e2,H⟩:=aG H
 obtain⟨dR,h1,e3,o1⟩:=pz (P:=Tryz.prog) (E:=dk) (z:=false) (zv:=.bool false) xf o0 4 rfl rfl rfl rfl e2
 refine qr [.a 2 e3] <| qq <| q0 ?_
 have o2:Has h1 (((0),.sl (([]:List Int).length) 1 (aa.l ([]:List Int)))::(dR,.sl x1.length 1 (dk.l x1))::(az,.sl x0.length 1 (aa.l x0))::L):=Has.nil o1 1
 have o3:Has h1 ((((0)),.sl (([]:List Int).length) 1 (aa.l ([]:List Int)))::((0),.sl (([]:List Int).length) 1 (aa.l ([]:List Int)))::(dR,.sl x1.length 1 (dk.l x1))::(az,.sl x0.length 1 (aa.l x0))::L):=Has.nil o2 1
 refine qq <| qq <| q0 <| qb 0 ?_
 obtain⟨bm,tO,H⟩:=aG H
 refine ql (ai.bu L l0  I7 I8 (x0,x1,([]:List Int),true) _ _ ⟨.any,.any,(0),dR,az,h1,by kernel_rfl,o3⟩ tO) ?_
 rintro e s ⟨rfl,wE,eM,Ln,Rc,rfl,g4,g5,g6,g7,g8,fO,fP,iP,h9,rfl,sg⟩
 try dsimp only at H
 refine qq <| qq <| q0 ?_
 have oZ:Has h9 ((((0)),.sl (([]:List Int).length) 1 (aa.l ([]:List Int)))::(fP,.sl eM.length 1 (dk.l eM))::(iP,.sl wE.length 1 (aa.l wE))::L):=Has.del sg 1
 refine qb 4 ?_
 obtain⟨jR,O0,H⟩:=aG H
 refine ql (ai.ma L l0 fP eM fP  xj (wE,([]:List Int),(0:Int)) _ _ ⟨((0)),iP,h9,by kernel_rfl,oZ⟩ O0) ?_
 rintro e s ⟨rfl,wF,bW,i3,rfl,g11,g12,g13,iU,Rj,h16,rfl,qV⟩
 try dsimp only at H
 refine qq <| qq <| q0 ?_
 have Ew:Has h16 ((iU,.sl bW.length 1 (aa.l bW))::(Rj,.sl wF.length 1 (aa.l wF))::L):=Has.del qV 1
 refine qb 8 ?_
 obtain⟨gT,Y1,H⟩:=aG H
 refine ql (ai.vQ L l0 iU bW iU  wD (wF,true) _ _ ⟨Rj,h16,by kernel_rfl,Ew⟩ Y1) ?_
 rintro e s ⟨rfl,sC,Re,rfl,g19,g20,g21,g22,Rk,h25,rfl,RY⟩
 try dsimp only at H
 refine q1 ?_
 have T3:Has h25 ((Rk,.sl sC.length 1 (aa.l sC))::L):=Has.del RY 0
 obtain rfl:=oi H
 exact qt <| ⟨.inl rfl,cp (.rs Rk 0 sC.length 1) h25 (cn (vn (E:=aa) (l:=sC) (q:=0) T3 rfl (fun _=>rfl)))⟩
end
end Go.Proofs.YtmekcfdllhphlaaGreatDoor
namespace Go.Proofs.YtmekcfdllhphlaaGreatDoor
open Go Go.R
open Go.IntKind (i64 u64 u8 u32)
def mW:b9:=gm [0,1,4,5,6,7,8,9,10,11,12,13,14,15,16,17,18,19,20,21,22,32,45,59,84,94,120,133,147] [4,10,18,20] [536870904,536870898,536870882,536870850,536870786,534773634,536870786,536870786,536870722,532676418,536870722,536870466,536869954,536868930,528480322,536868930,536868930,536870466,536870722,536868811,536864715,520087499,536864715,536856523,503302091,536856523,536856523,536854475,536821707,469712843,536821707,536821707,536788939,536657867,402440139,536657867,536395723,535871435,534822859,266387403,534822859,534822859,536395723,536657867,536870907] [(42,[(21,none,0)]),(44,[(18,some 0,0)])] [(3,[(7,none,4)]),(12,[(11,none,1)]),(32,[(18,some 0,4)]),(37,[(21,none,1)])]
def aq.l0 (m:Nat)(x0:(List Int)):Nat→(List Int)→Int→Option ((List Int) × Int)
 | 0,_,_=>none
 | k+1,ga,i0=>if (decide (i0<(x0.length:Int)))=true then ((ix x0 i0).bind fun v0=>(ix ga v0).bind fun v1=>aq.l0 m x0 k (ga.set v0.toNat i0) (i64.wrap (i0+(1:Int)))) else (some ((ga,i0)))
def aq.l2 (m:Nat)(br:List Int)(v3:ae):Nat→(List Int)→Int→Option ((List Int) × Int)
 | 0,_,_=>none
 | k+1,fk,k0=>if (decide (k0<(v3.args.length:Int)))=true then ((ix v3.args k0).bind fun v4=>(ix br v4).bind fun v5=>(app 8 fk ([v5])).bind fun x2=>aq.l2 m br v3 k x2 (i64.wrap (k0+(1:Int)))) else (some ((fk,k0)))
def aq.l1 (m:Nat)(l0:List ae)(x0:(List Int))(br:List Int):Nat→(List ae)→Int→Option ((List ae) × Int)
 | 0,_,_=>none
 | k+1,fF,i2=>if (decide (i2<(x0.length:Int)))=true then ((ix x0 i2).bind fun v2=>(ix l0 v2).bind fun v3=>(aq.l2 m br v3 m ([]:List Int) (0:Int)).bind fun bm=>match bm with | (nO,k1)=>(app 56 fF [ae.mk v3.kind v3.int v3.label nO]).bind fun x3=>aq.l1 m l0 x0 br k x3 (i64.wrap (i2+(1:Int)))) else (some ((fF,i2)))
def aq.l4 (m:Nat)(x4:(List Int))(i4:Int):Nat→(List ae)→Int→Option ((List ae) × Int)
 | 0,_,_=>none
 | k+1,eD,k2=>(ix eD i4).bind fun v6=>if (decide (k2<(v6.args.length:Int)))=true then ((ix eD i4).bind fun v7=>(ix eD i4).bind fun v8=>(ix v8.args k2).bind fun v9=>(ix x4 v9).bind fun v10=>(ix v7.args k2).bind fun v11=>aq.l4 m x4 i4 k (eD.set i4.toNat (ae.mk v7.kind v7.int v7.label (v7.args.set k2.toNat v10))) (i64.wrap (k2+(1:Int)))) else (some ((eD,k2)))
def aq.l3 (m:Nat)(x4:(List Int)):Nat→(List ae)→Int→Option ((List ae) × Int)
 | 0,_,_=>none
 | k+1,jB,i4=>if (decide (i4<(jB.length:Int)))=true then ((aq.l4 m x4 i4 m jB (0:Int)).bind fun jR=>match jR with | (Jc,k3)=>aq.l3 m x4 k Jc (i64.wrap (i4+(1:Int)))) else (some ((jB,i4)))
def aq.l5 (m:Nat)(x5:(List Int)):Nat→(List Int)→Int→Option ((List Int) × Int)
 | 0,_,_=>none
 | k+1,gd,i6=>if (decide (i6<(x5.length:Int)))=true then ((ix x5 i6).bind fun v12=>(ix gd v12).bind fun KS=>aq.l5 m x5 k (gd.set v12.toNat i6) (i64.wrap (i6+(1:Int)))) else (some ((gd,i6)))
def aq.l7 (m:Nat)(de:List Int)(oN:ae):Nat→(List Int)→Int→Option ((List Int) × Int)
 | 0,_,_=>none
 | k+1,jC,k4=>if (decide (k4<(oN.args.length:Int)))=true then ((ix oN.args k4).bind fun nh=>(ix de nh).bind fun O9=>(app 8 jC ([O9])).bind fun x6=>aq.l7 m de oN k x6 (i64.wrap (k4+(1:Int)))) else (some ((jC,k4)))
def aq.l6 (m:Nat)(cm:List ae)(x5:(List Int))(de:List Int):Nat→Int→(List ae)→Int→Option (Int × (List ae) × Int)
 | 0,_,_,_=>none
 | k+1,i8,gT,iO=>if (decide (i8<(x5.length:Int)))=true then ((ix x5 i8).bind fun Cg=>(ix cm Cg).bind fun oN=>(aq.l7 m de oN m ([]:List Int) (0:Int)).bind fun vV=>match vV with | (BA,k5)=>(app 56 gT ([(ae.mk oN.kind oN.int oN.label BA)])).bind fun x7=>aq.l6 m cm x5 de k (i64.wrap (i8+(1:Int))) x7 iO) else (some ((i8,gT,iO)))
def aq.f (m:Nat)(l0:List ae)(iA:Int):Option (ak):=(aW.f m l0 iA).bind fun x0=>(xb 8 (l0.length:Int) (0:Int)).bind fun x1=>(aq.l0 m x0 m x1 (0:Int)).bind fun aF=>match aF with | (br,i1)=>(aq.l1 m l0 x0 br m ([]:List ae) (0:Int)).bind fun cw=>match cw with | (wG,i3)=>(ai.f m wG).bind fun x4=>(aq.l3 m x4 m wG (0:Int)).bind fun cE=>match cE with | (cm,i5)=>(aW.f m cm (0:Int)).bind fun x5=>(aq.l5 m x5 m br (0:Int)).bind fun kW=>match kW with | (de,i7)=>(aq.l6 m cm x5 de m (0:Int) ([]:List ae) (0:Int)).bind fun Mn=>match Mn with | (i9,Dn,Jd)=>some (ak.mk Dn Jd)
def aq.fin (L:Mem)(r:ak)(s:St):Prop:=∃av,aH Tryz.prog (s.open mW) Tryz.f46.results.toList=some av∧vm s.h av (.agg [ah.fz r.nodes,.int .i64 r.root])
def W7 (cf:CallF)(m:Nat):Prop:=∀(l0:List ae) (iA:Int) (r:ak),aq.f m l0 iA=some r→∀h xs,lh xs [ah.fz l0,.int .i64 iA]→cf 46 xs h=some (.agg [ah.fz r.nodes,.int .i64 r.root],h)
section
variable {cf:CallF}{m:Nat}
theorem aq.bu (L:Mem)(l0:List ae)(x0:(List Int))   : bC Tryz.prog cf mW m (sub [1,1,1,1,0,1,0,0] (codeOf Tryz.f46)) (fun k (σ:(List Int) × Int)=>aq.l0 m x0 k σ.1 σ.2) (fun σ s=>match σ with | (ga,i0)=>∃dR h1,s=⟨ah.fz l0 :: .any :: .lp 4 0::aa.fz x0 :: .rs dR 0 ga.length 1 :: .rs (0) 0 (([]:List ae).length) 4 :: .int .i64 i0::Qa [],[some [.nils,.int .i64 (0:Int)],none,none,none],h1⟩∧Has h1 (((0),.sl (([]:List ae).length) 4 (iL.l (cM ([]:List ae) ([]:List Nat))))::(dR,.sl ga.length 1 (aa.l ga))::(jH ([]:List ae) ([]:List Nat)++L))) (fun out e s=>(e = .exit 0∧∃ga i0,(ga,i0)=out∧∃pG UJ dR h1,s=⟨ah.fz l0 :: .any :: .lp 4 0::aa.fz x0 :: .rs dR 0 ga.length 1 :: .rs (0) 0 (([]:List ae).length) 4::pG::qG (UJ::zY []),[some [.nils,.int .i64 (0:Int)],none,none,none],h1⟩∧Has h1 (((0),.sl (([]:List ae).length) 4 (iL.l (cM ([]:List ae) ([]:List Nat))))::(dR,.sl ga.length 1 (aa.l ga))::(jH ([]:List ae) ([]:List Nat)++L)))):=by
 refine gk (fun _=>rfl) ?_
 rintro k ⟨ga,i0⟩ s out ⟨dR,h1,rfl,o2⟩ H
 have H:aq.l0 m x0 (k+1) ga i0=some out:=H
 refine qq <| qq <| q0 <| qc H (fun c0 H=>?_) (fun c0 H=>?_)
 ·refine qk <| qq <| qb 1 ?_
  obtain⟨v0,e3,H⟩:=aG H
  obtain⟨v1,e4,H⟩:=aG H
  obtain⟨h2,e5,o3⟩:=eG (P:=Tryz.prog) (tf:=3) (E:=aa) (l:=ga) (q:=1) (v:=i0) (x:=.int .i64 i0) o2 rfl Z3 e4 rfl rfl
  exact qr [.v 3 (bN (k:=.i64) (E:=aa) (l:=x0) dK e3),.v 4 (dd  (E:=aa) (l:=x0) h1 A3 e3 rfl),.v 6 (aJ (k:=.i64) (E:=aa) (l:=ga) (q:=1) dK o2 rfl e4),.w 7 e5] <| q0 <| ⟨(ga.set v0.toNat i0,i64.wrap (i0+(1:Int))),⟨dR,h2,(abz (b:=⟨ah.fz l0 :: .any :: .lp 4 0::aa.fz x0 :: .rs dR 0 ga.length 1 :: .rs (0) 0 (([]:List ae).length) 4 :: .int .i64 (i64.wrap (i0+(1:Int)))::Qa [],[some [.nils,.int .i64 (0:Int)],none,none,none],h2⟩) (by kernel_rfl) (by simp only [aaN])),(by have o:Has h2 (((0),.sl (([]:List ae).length) 4 (iL.l (cM ([]:List ae) ([]:List Nat))))::(dR,.sl ga.length 1 (aa.l (ga.set v0.toNat i0)))::(jH ([]:List ae) ([]:List Nat)++L)):=o3; simpa only [aaN] using o)⟩,H⟩
 ·exact qx 0 <| ⟨rfl,ga,i0,oi H,.int .i64 i0,.bool (decide (i0<(x0.length:Int))),dR,h1,by kernel_rfl,o2⟩
theorem aq.ma (L:Mem)(l0:List ae)(x0:(List Int))(cR:Nat)(br:List Int)(cR:Nat)(fc:Nat)(fF:List ae)(i2:Int)(fc:Nat)(oO:List Nat)(v3:ae)   : bC Tryz.prog cf mW m (sub [1,1,1,1,1,0,1,0,0,1,0,0,1,1,0,1,0,0] (codeOf Tryz.f46)) (fun k (σ:(List Int) × Int)=>aq.l2 m br v3 k σ.1 σ.2) (fun σ s=>match σ with | (fk,k0)=>∃gY h5,s=⟨ah.fz l0 :: .any :: .lp 4 0::aa.fz x0 :: .rs cR 0 br.length 1 :: .rs fc 0 fF.length 4 :: .any :: .int .i64 i2 :: .lp 10 0 :: .rs gY 0 fk.length 1 :: .int .i64 k0::P8 [],[some [.nils,.int .i64 (0:Int)],some [.int .i64 v3.kind,.int .i64 v3.int,.str v3.label,aa.fz v3.args],none,none],h5⟩∧Has h5 ((gY,.sl fk.length 1 (aa.l fk))::(fc,.sl fF.length 4 (iL.l (cM fF oO)))::(cR,.sl br.length 1 (aa.l br))::(jH fF oO++L))) (fun out e s=>(e = .exit 4∧∃fk k0,(fk,k0)=out∧∃Dk UK gY h5,s=⟨ah.fz l0 :: .any :: .lp 4 0::aa.fz x0 :: .rs cR 0 br.length 1 :: .rs fc 0 fF.length 4 :: .any :: .int .i64 i2 :: .lp 10 0 :: .rs gY 0 fk.length 1::Dk::oE (UK::qF []),[some [.nils,.int .i64 (0:Int)],some [.int .i64 v3.kind,.int .i64 v3.int,.str v3.label,aa.fz v3.args],none,none],h5⟩∧Has h5 ((gY,.sl fk.length 1 (aa.l fk))::(fc,.sl fF.length 4 (iL.l (cM fF oO)))::(cR,.sl br.length 1 (aa.l br))::(jH fF oO++L)))):=by
 refine gk (fun _=>rfl) ?_
 rintro k ⟨fk,k0⟩ s out ⟨gY,h5,rfl,o7⟩ H
 have H:aq.l2 m br v3 (k+1) fk k0=some out:=H
 refine qq <| qq <| q0 <| qc H (fun c2 H=>?_) (fun c2 H=>?_)
 ·refine qk <| qq <| qb 5 ?_
  obtain⟨v4,e9,H⟩:=aG H
  obtain⟨v5,lF,H⟩:=aG H
  obtain⟨x2,nb,H⟩:=aG H
  obtain⟨gV,h6,nK,o8⟩:=cL (P:=Tryz.prog) (E:=aa) (l:=fk) (q:=0) (t2:=28) (x:=.fz [.int .i64 v5] 1 true) (l2:=([v5])) dK o7 rfl (by kernel_rfl) rfl nb
  exact qr [.v 5 (bN (k:=.i64) (E:=aa) (l:=v3.args) dK e9),.v 6 (dd  (E:=aa) (l:=v3.args) h5 A3 e9 rfl),.v 7 (aJ (k:=.i64) (E:=aa) (l:=br) (q:=2) dK o7 rfl lF),.v 8 (bA  (E:=aa) (l:=br) (q:=2) o7 rfl A3 lF rfl),.a 10 nK] <| q0 <| ⟨(x2,i64.wrap (k0+(1:Int))),⟨gV,h6,by kernel_rfl,o8⟩,H⟩
 ·exact qx 4 <| ⟨rfl,fk,k0,oi H,.int .i64 k0,.bool (decide (k0<(v3.args.length:Int))),gY,h5,by kernel_rfl,o7⟩
theorem aq.eO (L:Mem)(l0:List ae)(x0:(List Int))(cR:Nat)(br:List Int)(cR:Nat)   : bC Tryz.prog cf mW m (sub [1,1,1,1,1,0,1,0,0] (codeOf Tryz.f46)) (fun k (σ:(List ae) × Int)=>aq.l1 m l0 x0 br k σ.1 σ.2) (fun σ s=>match σ with | (fF,i2)=>∃fc oO h4,s=⟨ah.fz l0 :: .any :: .lp 4 0::aa.fz x0 :: .rs cR 0 br.length 1 :: .rs fc 0 fF.length 4 :: .any :: .int .i64 i2::P9 [],[some [.nils,.int .i64 (0:Int)],none,none,none],h4⟩∧Has h4 ((fc,.sl fF.length 4 (iL.l (cM fF oO)))::(cR,.sl br.length 1 (aa.l br))::(jH fF oO++L))) (fun out e s=>(e = .exit 2∧∃fF i2,(fF,i2)=out∧∃kM oK qQ UL fc oO h4,s=⟨kM :: .any :: .lp 4 0::oK :: .rs cR 0 br.length 1 :: .rs fc 0 fF.length 4 :: .any::qQ::qG (UL::zX []),[some [.nils,.int .i64 (0:Int)],none,none,none],h4⟩∧Has h4 ((fc,.sl fF.length 4 (iL.l (cM fF oO)))::(cR,.sl br.length 1 (aa.l br))::(jH fF oO++L)))):=by
 refine gk (fun _=>rfl) ?_
 rintro k ⟨fF,i2⟩ s out ⟨fc,oO,h4,rfl,o5⟩ H
 have H:aq.l1 m l0 x0 br (k+1) fF i2=some out:=H
 refine qq <| qq <| q0 <| qc H (fun c1 H=>?_) (fun c1 H=>?_)
 ·refine qk <| qq <| qb 3 <| qq ?_
  obtain⟨v2,e7,H⟩:=aG H
  obtain⟨v3,e8,H⟩:=aG H
  refine qr [.v 3 (bN (k:=.i64) (E:=aa) (l:=x0) dK e7),.v 4 (dd  (E:=aa) (l:=x0) h4 A3 e7 rfl),.v 5 (bN (k:=.i64) (E:=ah) (l:=l0) mj e8),.v 6 (dI  (E:=ah) (l:=l0) h4 th ti e8)] <| qq <| q0 ?_
  have o6:Has h4 ((((0)),.sl (([]:List Int).length) 1 (aa.l ([]:List Int)))::(fc,.sl fF.length 4 (iL.l (cM fF oO)))::(cR,.sl br.length 1 (aa.l br))::(jH fF oO++L)):=Has.nil o5 1
  refine qq <| qq <| q0 <| qb 4 ?_
  obtain⟨bm,pa,H⟩:=aG H
  refine ql (aq.ma L l0 x0 cR br cR fc fF i2 fc oO v3   (([]:List Int),(0:Int)) _ _ ⟨((0)),h4,by kernel_rfl,o6⟩ pa) ?_
  rintro e s ⟨rfl,nO,k1,rfl,g2,g3,fK,h7,rfl,o9⟩
  try dsimp only at H
  refine q1 ?_
  obtain⟨x3,pc,H⟩:=aG H
  obtain⟨iX,UM,h8,pb,oz⟩:=Ny (P:=Tryz.prog) (t2:=42) (pre:=[(cR,.sl br.length 1 (aa.l br))]) (ns:=fF) (ids:=oO) (kind:=v3.kind) (int:=v3.int) (label:=v3.label) (args:=nO) (x:=.fz [.int .i64 v3.kind,.int .i64 v3.int,.str v3.label,.rs fK 0 nO.length 1] 1 true) mj (Has.front (Has.front (Has.front o9 2 rfl) 1 rfl) 2 rfl) (by kernel_rfl) rfl pc
  exact qr [.a 3 pb] <| q0 <| ⟨(x3,i64.wrap (i2+(1:Int))),⟨iX,UM,h8,by kernel_rfl,oz⟩,H⟩
 ·exact qx 2 <| ⟨rfl,fF,i2,oi H,ah.fz l0,aa.fz x0,.int .i64 i2,.bool (decide (i2<(x0.length:Int))),fc,oO,h4,by kernel_rfl,o5⟩
theorem aq.vQ (L:Mem)(cR:Nat)(br:List Int)(cR:Nat)(x4:(List Int))(i4:Int)   : bC Tryz.prog cf mW m (sub [1,1,1,1,1,1,1,0,1,0,0,1,0,0,1,0,0] (codeOf Tryz.f46)) (fun k (σ:(List ae) × Int)=>aq.l4 m x4 i4 k σ.1 σ.2) (fun σ s=>match σ with | (eD,k2)=>∃eS kY h11,s=⟨.any :: .any :: .lp 4 0 :: .any :: .rs cR 0 br.length 1 :: .rs eS 0 eD.length 4::qF (aa.fz x4 :: .int .i64 i4 :: .int .i64 k2::HQ []),[some [.nils,.int .i64 (0:Int)],none,none,none],h11⟩∧Has h11 ((eS,.sl eD.length 4 (iL.l (cM eD kY)))::(cR,.sl br.length 1 (aa.l br))::(jH eD kY++L))) (fun out e s=>(e = .exit 8∧∃eD k2,(eD,k2)=out∧∃sk UN eS kY h11,s=⟨.any :: .any :: .lp 4 0 :: .any :: .rs cR 0 br.length 1 :: .rs eS 0 eD.length 4::qF (aa.fz x4 :: .int .i64 i4::sk::nE (UN::jE [])),[some [.nils,.int .i64 (0:Int)],none,none,none],h11⟩∧Has h11 ((eS,.sl eD.length 4 (iL.l (cM eD kY)))::(cR,.sl br.length 1 (aa.l br))::(jH eD kY++L)))):=by
 refine gk (fun _=>rfl) ?_
 rintro k ⟨eD,k2⟩ s out ⟨eS,kY,h11,rfl,kN⟩ H
 have H:aq.l4 m x4 i4 (k+1) eD k2=some out:=H
 refine qq <| qq ?_
 obtain⟨v6,tO,H⟩:=aG H
 refine qr [.v 3 (aJ (k:=.i64) (E:=iL) (l:=(cM eD kY)) (q:=0) mj kN rfl (lk tO)),.v 5 (ox  (E:=iL) (l:=(cM eD kY)) (q:=0) (off:=3) kN rfl Qk (lk tO) rfl)] <| qc H (fun c4 H=>?_) (fun c4 H=>?_)
 ·refine qk <| qq <| qb 9 ?_
  obtain⟨v7,rF,H⟩:=aG H
  obtain⟨v8,ye,H⟩:=aG H
  obtain⟨v9,z7,H⟩:=aG H
  obtain⟨v10,zZ,H⟩:=aG H
  obtain⟨v11,Bb,H⟩:=aG H
  obtain⟨h12,z6,tL⟩:=Nz (P:=Tryz.prog) (tf:=3) (pre:=[(cR,.sl br.length 1 (aa.l br))]) (v:=v10) kN Z3 rF Bb
  refine qr [.v 2 (aJ (k:=.i64) (E:=iL) (l:=(cM eD kY)) (q:=0) mj kN rfl (lk rF)),.v 4 (ox  (E:=iL) (l:=(cM eD kY)) (q:=0) (off:=3) kN rfl Qk (lk rF) rfl),.v 9 (aJ (k:=.i64) (E:=iL) (l:=(cM eD kY)) (q:=0) mj kN rfl (lk ye)),.v 11 (ox  (E:=iL) (l:=(cM eD kY)) (q:=0) (off:=3) kN rfl Qk (lk ye) rfl),.v 13 (aJ (k:=.i64) (E:=aa) (l:=v8.args) dK kN (sa (pre:=[(eS,.sl eD.length 4 (iL.l (cM eD kY))),(cR,.sl br.length 1 (aa.l br))]) (ids:=kY) ye) z7),.v 14 (bA  (E:=aa) (l:=v8.args) kN (sa (pre:=[(eS,.sl eD.length 4 (iL.l (cM eD kY))),(cR,.sl br.length 1 (aa.l br))]) (ids:=kY) ye) A3 z7 rfl),.v 15 (bN (k:=.i64) (E:=aa) (l:=x4) dK zZ),.v 16 (dd  (E:=aa) (l:=x4) h11 A3 zZ rfl),.v 17 (aJ (k:=.i64) (E:=aa) (l:=v7.args) dK kN (sa (pre:=[(eS,.sl eD.length 4 (iL.l (cM eD kY))),(cR,.sl br.length 1 (aa.l br))]) (ids:=kY) rF) Bb),.w 18 z6] ?_
  exact q0 <| ⟨(eD.set i4.toNat (ae.mk v7.kind v7.int v7.label (v7.args.set k2.toNat v10)),i64.wrap (k2+(1:Int))),⟨eS,kY,h12,(abz (b:=⟨.any :: .any :: .lp 4 0 :: .any :: .rs cR 0 br.length 1 :: .rs eS 0 eD.length 4::qF (aa.fz x4 :: .int .i64 i4 :: .int .i64 (i64.wrap (k2+(1:Int)))::HQ []),[some [.nils,.int .i64 (0:Int)],none,none,none],h12⟩) (by kernel_rfl) (by simp only [aaN])),(by have o:Has h12 ((eS,.sl eD.length 4 (iL.l (cM (eD.set i4.toNat (ae.mk v7.kind v7.int v7.label (v7.args.set k2.toNat v10))) kY)))::(cR,.sl br.length 1 (aa.l br))::(jH (eD.set i4.toNat (ae.mk v7.kind v7.int v7.label (v7.args.set k2.toNat v10))) kY++L)):=tL; simpa only [aaN] using o)⟩,H⟩
 ·exact qx 8 <| ⟨rfl,eD,k2,oi H,.int .i64 k2,.bool (decide (k2<(v6.args.length:Int))),eS,kY,h11,by kernel_rfl,kN⟩
theorem aq.qT (L:Mem)(cR:Nat)(br:List Int)(cR:Nat)(x4:(List Int))   : bC Tryz.prog cf mW m (sub [1,1,1,1,1,1,1,0,1,0,0] (codeOf Tryz.f46)) (fun k (σ:(List ae) × Int)=>aq.l3 m x4 k σ.1 σ.2) (fun σ s=>match σ with | (jB,i4)=>∃rG BB h10,s=⟨.any :: .any :: .lp 4 0 :: .any :: .rs cR 0 br.length 1 :: .rs rG 0 jB.length 4::qF (aa.fz x4 :: .int .i64 i4::HR []),[some [.nils,.int .i64 (0:Int)],none,none,none],h10⟩∧Has h10 ((rG,.sl jB.length 4 (iL.l (cM jB BB)))::(cR,.sl br.length 1 (aa.l br))::(jH jB BB++L))) (fun out e s=>(e = .exit 6∧∃jB i4,(jB,i4)=out∧∃pF sj UO rG BB h10,s=⟨.any :: .any :: .lp 4 0 :: .any :: .rs cR 0 br.length 1 :: .rs rG 0 jB.length 4::qF (pF::sj::nE (UO::mT [])),[some [.nils,.int .i64 (0:Int)],none,none,none],h10⟩∧Has h10 ((rG,.sl jB.length 4 (iL.l (cM jB BB)))::(cR,.sl br.length 1 (aa.l br))::(jH jB BB++L)))):=by
 refine gk (fun _=>rfl) ?_
 rintro k ⟨jB,i4⟩ s out ⟨rG,BB,h10,rfl,oZ⟩ H
 have H:aq.l3 m x4 (k+1) jB i4=some out:=H
 refine qq <| qq <| q0 <| qc H (fun c3 H=>?_) (fun c3 H=>?_)
 ·refine qk <| qq <| qb 7 <| qq <| q0 <| qb 8 ?_
  obtain⟨jR,z8,H⟩:=aG H
  refine ql (aq.vQ L cR br cR x4 i4   (jB,(0:Int)) _ _ ⟨rG,BB,h10,by kernel_rfl,oZ⟩ z8) ?_
  rintro e s ⟨rfl,Jc,k3,rfl,g8,g9,me,UP,h13,rfl,qR⟩
  try dsimp only at H
  exact q0 <| ⟨(Jc,i64.wrap (i4+(1:Int))),⟨me,UP,h13,by kernel_rfl,qR⟩,H⟩
 ·exact qx 6 <| ⟨rfl,jB,i4,oi H,aa.fz x4,.int .i64 i4,.bool (decide (i4<(jB.length:Int))),rG,BB,h10,by kernel_rfl,oZ⟩
theorem aq.Ja (L:Mem)(fO:Nat)(cm:List ae)(fO:Nat)(ia:List Nat)(x5:(List Int))   : bC Tryz.prog cf mW m (sub [1,1,1,1,1,1,1,1,1,0,1,0,0] (codeOf Tryz.f46)) (fun k (σ:(List Int) × Int)=>aq.l5 m x5 k σ.1 σ.2) (fun σ s=>match σ with | (gd,i6)=>∃fP h15,s=⟨.any :: .any :: .lp 4 0 :: .any :: .rs fP 0 gd.length 1 :: .rs fO 0 cm.length 4::r9 (aa.fz x5 :: .int .i64 i6::nF []),[some [.nils,.int .i64 (0:Int)],none,none,none],h15⟩∧Has h15 ((fO,.sl cm.length 4 (iL.l (cM cm ia)))::(fP,.sl gd.length 1 (aa.l gd))::(jH cm ia++L))) (fun out e s=>(e = .exit 10∧∃gd i6,(gd,i6)=out∧∃Ia Jb fP h15,s=⟨.any :: .any :: .lp 4 0 :: .any :: .rs fP 0 gd.length 1 :: .rs fO 0 cm.length 4::r9 (aa.fz x5::Ia::xd [Jb,.any,.any]),[some [.nils,.int .i64 (0:Int)],none,none,none],h15⟩∧Has h15 ((fO,.sl cm.length 4 (iL.l (cM cm ia)))::(fP,.sl gd.length 1 (aa.l gd))::(jH cm ia++L)))):=by
 refine gk (fun _=>rfl) ?_
 rintro k ⟨gd,i6⟩ s out ⟨fP,h15,rfl,uF⟩ H
 have H:aq.l5 m x5 (k+1) gd i6=some out:=H
 refine qq <| qq <| q0 <| qc H (fun c5 H=>?_) (fun c5 H=>?_)
 ·refine qk <| qq <| qb 11 ?_
  obtain⟨v12,C1,H⟩:=aG H
  obtain⟨KS,C2,H⟩:=aG H
  obtain⟨h16,Gd,yf⟩:=eG (P:=Tryz.prog) (tf:=3) (E:=aa) (l:=gd) (q:=1) (v:=i6) (x:=.int .i64 i6) uF rfl Z3 C2 rfl rfl
  exact qr [.v 3 (bN (k:=.i64) (E:=aa) (l:=x5) dK C1),.v 4 (dd  (E:=aa) (l:=x5) h15 A3 C1 rfl),.v 6 (aJ (k:=.i64) (E:=aa) (l:=gd) (q:=1) dK uF rfl C2),.w 7 Gd] <| q0 <| ⟨(gd.set v12.toNat i6,i64.wrap (i6+(1:Int))),⟨fP,h16,(abz (b:=⟨.any :: .any :: .lp 4 0 :: .any :: .rs fP 0 gd.length 1 :: .rs fO 0 cm.length 4::r9 (aa.fz x5 :: .int .i64 (i64.wrap (i6+(1:Int)))::nF []),[some [.nils,.int .i64 (0:Int)],none,none,none],h16⟩) (by kernel_rfl) (by simp only [aaN])),(by have o:Has h16 ((fO,.sl cm.length 4 (iL.l (cM cm ia)))::(fP,.sl gd.length 1 (aa.l (gd.set v12.toNat i6)))::(jH cm ia++L)):=yf; simpa only [aaN] using o)⟩,H⟩
 ·exact qx 10 <| ⟨rfl,gd,i6,oi H,.int .i64 i6,.bool (decide (i6<(x5.length:Int))),fP,h15,by kernel_rfl,uF⟩
theorem aq.Rl (L:Mem)(fO:Nat)(cm:List ae)(fO:Nat)(ia:List Nat)(x5:(List Int))(iP:Nat)(de:List Int)(iP:Nat)(iB:Nat)(i8:Int)(gT:List ae)(iO:Int)(iB:Nat)(Cg:Int)(oN:ae)(J9:ix cm Cg=some oN)   : bC Tryz.prog cf mW m (sub [1,1,1,1,1,1,1,1,1,1,1,0,1,0,0,1,0,0,1,1,0,1,0,0] (codeOf Tryz.f46)) (fun k (σ:(List Int) × Int)=>aq.l7 m de oN k σ.1 σ.2) (fun σ s=>match σ with | (jC,k4)=>∃kX h19,s=⟨.any :: .any :: .lp 4 0 :: .any :: .rs iP 0 de.length 1 :: .rs fO 0 cm.length 4::r9 (aa.fz x5 :: .any :: .lp 18 0 :: .int .i64 i8 :: .lp 20 0 :: .rs kX 0 jC.length 1 :: .int .i64 k4::r9 []),[some [.nils,.int .i64 (0:Int)],none,some [.rs iB 0 gT.length 4,.int .i64 iO],some [.int .i64 oN.kind,.int .i64 oN.int,.str oN.label,.rs (L4 ia Cg) 0 oN.args.length 1]],h19⟩∧Has h19 ((kX,.sl jC.length 1 (aa.l jC))::(iB,.sl gT.length 4 (ah.l gT))::(fO,.sl cm.length 4 (iL.l (cM cm ia)))::(iP,.sl de.length 1 (aa.l de))::(jH cm ia++L))) (fun out e s=>(e = .exit 14∧∃jC k4,(jC,k4)=out∧∃zq Rm kX h19,s=⟨.any :: .any :: .lp 4 0 :: .any :: .rs iP 0 de.length 1 :: .rs fO 0 cm.length 4::r9 (aa.fz x5 :: .any :: .lp 18 0 :: .int .i64 i8 :: .lp 20 0 :: .rs kX 0 jC.length 1::zq::zY [Rm]),[some [.nils,.int .i64 (0:Int)],none,some [.rs iB 0 gT.length 4,.int .i64 iO],some [.int .i64 oN.kind,.int .i64 oN.int,.str oN.label,.rs (L4 ia Cg) 0 oN.args.length 1]],h19⟩∧Has h19 ((kX,.sl jC.length 1 (aa.l jC))::(iB,.sl gT.length 4 (ah.l gT))::(fO,.sl cm.length 4 (iL.l (cM cm ia)))::(iP,.sl de.length 1 (aa.l de))::(jH cm ia++L)))):=by
 refine gk (fun _=>rfl) ?_
 rintro k ⟨jC,k4⟩ s out ⟨kX,h19,rfl,Bd⟩ H
 have H:aq.l7 m de oN (k+1) jC k4=some out:=H
 refine qq <| qq <| q0 <| qc H (fun c7 H=>?_) (fun c7 H=>?_)
 ·refine qk <| qq <| qb 15 ?_
  obtain⟨nh,OZ,H⟩:=aG H
  obtain⟨O9,O0,H⟩:=aG H
  obtain⟨x6,QJ,H⟩:=aG H
  obtain⟨sD,h20,QK,Gg⟩:=cL (P:=Tryz.prog) (E:=aa) (l:=jC) (q:=0) (t2:=28) (x:=.fz [.int .i64 O9] 1 true) (l2:=([O9])) dK Bd rfl (by kernel_rfl) rfl QJ
  exact qr [.v 5 (aJ (k:=.i64) (E:=aa) (l:=oN.args) dK Bd (sa (pre:=[(kX,.sl jC.length 1 (aa.l jC)),(iB,.sl gT.length 4 (ah.l gT)),(fO,.sl cm.length 4 (iL.l (cM cm ia))),(iP,.sl de.length 1 (aa.l de))]) (ids:=ia) J9) OZ),.v 6 (bA  (E:=aa) (l:=oN.args) Bd (sa (pre:=[(kX,.sl jC.length 1 (aa.l jC)),(iB,.sl gT.length 4 (ah.l gT)),(fO,.sl cm.length 4 (iL.l (cM cm ia))),(iP,.sl de.length 1 (aa.l de))]) (ids:=ia) J9) A3 OZ rfl),.v 7 (aJ (k:=.i64) (E:=aa) (l:=de) (q:=3) dK Bd rfl O0),.v 8 (bA  (E:=aa) (l:=de) (q:=3) Bd rfl A3 O0 rfl),.a 10 QK] <| q0 <| ⟨(x6,i64.wrap (k4+(1:Int))),⟨sD,h20,by kernel_rfl,Gg⟩,H⟩
 ·exact qx 14 <| ⟨rfl,jC,k4,oi H,.int .i64 k4,.bool (decide (k4<(oN.args.length:Int))),kX,h19,by kernel_rfl,Bd⟩
theorem aq.I9 (L:Mem)(fO:Nat)(cm:List ae)(fO:Nat)(ia:List Nat)(x5:(List Int))(iP:Nat)(de:List Int)(iP:Nat)   : bC Tryz.prog cf mW m (sub [1,1,1,1,1,1,1,1,1,1,1,0,1,0,0] (codeOf Tryz.f46)) (fun k (σ:Int × (List ae) × Int)=>aq.l6 m cm x5 de k σ.1 σ.2.1 σ.2.2) (fun σ s=>match σ with | (i8,gT,iO)=>∃iB h18,s=⟨.any :: .any :: .lp 4 0 :: .any :: .rs iP 0 de.length 1 :: .rs fO 0 cm.length 4::r9 (aa.fz x5 :: .any :: .lp 18 0 :: .int .i64 i8::nE []),[some [.nils,.int .i64 (0:Int)],none,some [.rs iB 0 gT.length 4,.int .i64 iO],none],h18⟩∧Has h18 ((iB,.sl gT.length 4 (ah.l gT))::(fO,.sl cm.length 4 (iL.l (cM cm ia)))::(iP,.sl de.length 1 (aa.l de))::(jH cm ia++L))) (fun out e s=>(e = .exit 12∧∃i8 gT iO,(i8,gT,iO)=out∧∃C8 se IL Dj Rn iB h18,s=⟨.any :: .any :: .lp 4 0 :: .any::C8::se::r9 (IL :: .any :: .lp 18 0::Dj::FX [Rn,.any]),[some [.nils,.int .i64 (0:Int)],none,some [.rs iB 0 gT.length 4,.int .i64 iO],none],h18⟩∧Has h18 ((iB,.sl gT.length 4 (ah.l gT))::(fO,.sl cm.length 4 (iL.l (cM cm ia)))::(iP,.sl de.length 1 (aa.l de))::(jH cm ia++L)))):=by
 refine gk (fun _=>rfl) ?_
 rintro k ⟨i8,gT,iO⟩ s out ⟨iB,h18,rfl,uG⟩ H
 have H:aq.l6 m cm x5 de (k+1) i8 gT iO=some out:=H
 refine qq <| qq <| q0 <| qc H (fun c6 H=>?_) (fun c6 H=>?_)
 ·refine qk <| qq <| qb 13 <| qq ?_
  obtain⟨Cg,NY,H⟩:=aG H
  obtain⟨oN,J9,H⟩:=aG H
  refine qr [.v 3 (bN (k:=.i64) (E:=aa) (l:=x5) dK NY),.v 4 (dd  (E:=aa) (l:=x5) h18 A3 NY rfl),.v 5 (aJ (k:=.i64) (E:=iL) (l:=(cM cm ia)) (q:=1) mj uG rfl (lk J9)),.v 6 (uy  (E:=iL) (l:=(cM cm ia)) (q:=1) uG rfl th ti (lk J9))] <| qq <| q0 ?_
  have xi:Has h18 ((((((0)))),.sl (([]:List Int).length) 1 (aa.l ([]:List Int)))::(iB,.sl gT.length 4 (ah.l gT))::(fO,.sl cm.length 4 (iL.l (cM cm ia)))::(iP,.sl de.length 1 (aa.l de))::(jH cm ia++L)):=Has.nil uG 1
  refine qq <| qq <| q0 <| qb 14 ?_
  obtain⟨vV,NZ,H⟩:=aG H
  refine ql (aq.Rl L fO cm fO ia x5 iP de iP iB i8 gT iO iB Cg oN J9   (([]:List Int),(0:Int)) _ _ ⟨((((0)))),h18,by kernel_rfl,xi⟩ NZ) ?_
  rintro e s ⟨rfl,BA,k5,rfl,g15,g16,sE,h21,rfl,O2⟩
  try dsimp only at H
  refine qq ?_
  obtain⟨h22,O1,oJ⟩:=fV (E:=aa) (l:=BA) (q:=0) O2 rfl
  refine uC [.a 0 O1] [] ?_
  obtain⟨x7,QL,H⟩:=aG H
  obtain⟨Of,h23,KV,Md⟩:=cL (P:=Tryz.prog) (E:=ah) (l:=gT) (q:=0) (t2:=42) (x:=.fz [.int .i64 oN.kind,.int .i64 oN.int,.str oN.label,aa.fz BA] 1 true) (l2:=([(ae.mk oN.kind oN.int oN.label BA)])) mj oJ rfl (by kernel_rfl) rfl QL
  exact qr [.a 4 KV] <| q0 <| ⟨(i64.wrap (i8+(1:Int)),x7,iO),⟨Of,h23,by kernel_rfl,Md⟩,H⟩
 ·exact qx 12 <| ⟨rfl,i8,gT,iO,oi H,.rs iP 0 de.length 1,.rs fO 0 cm.length 4,aa.fz x5,.int .i64 i8,.bool (decide (i8<(x5.length:Int))),iB,h18,by kernel_rfl,uG⟩
theorem sG {aV:FuncId→b9}(ha:aV 46=mW)(Ro:WR cf m)(UQ:WW cf m)(l0:List ae)(iA:Int)(h:AHeap)(L:Mem)  (o:Has h (L)){out:ak}(H:aq.f m l0 iA=some out) :
  ∃r h',bg Tryz.prog aV cf m 46 [ah.fz l0,.int .i64 iA] h=some (r,h')∧vm h' r (.agg [ah.fz out.nodes,.int .i64 out.root]):=by
 refine aj (fn:=Tryz.f46) ha Tryz.func46 (by kernel_rfl) (by kernel_rfl) ?_
 refine aD (Q:=fun s=>aq.fin L out s) (fun _ _ h=>h) ?_
 have H:_=some out:=H
 unfold aq.f at H
 show dA _ cf mW m _ ⟨ah.fz l0 :: .int .i64 iA::Qc [],[none,none,none,none],h⟩ _
 refine q1 <| qq ?_
 obtain⟨x0,e0,H⟩:=aG H
 refine qr [.a 2 (Ro _ _ _ e0 h _ (fT (ab (bB (E:=ah)) (ab (aQ) (aA)))))] <| qq ?_
 obtain⟨x1,e1,H⟩:=aG H
 obtain⟨az,h0,e2,o0⟩:=pz (P:=Tryz.prog) (E:=aa) (z:=(0:Int)) (zv:=.int .i64 (0:Int)) dK o 3 rfl rfl rfl rfl e1
 refine qr [.a 2 e2] <| qq <| q0 ?_
 have o1:Has h0 (((0),.sl (([]:List ae).length) 4 (iL.l (cM ([]:List ae) ([]:List Nat))))::(az,.sl x1.length 1 (aa.l x1))::(jH ([]:List ae) ([]:List Nat)++L)):=Has.nil o0 4
 refine qq <| qq <| q0 <| qb 0 ?_
 obtain⟨aF,e6,H⟩:=aG H
 refine ql (aq.bu L l0 x0   (x1,(0:Int)) _ _ ⟨az,h0,by kernel_rfl,o1⟩ e6) ?_
 rintro e s ⟨rfl,br,i1,rfl,g0,g1,cR,h3,rfl,o4⟩
 try dsimp only at H
 refine qq <| qq <| q0 <| qb 2 ?_
 obtain⟨cw,qU,H⟩:=aG H
 refine ql (aq.eO L l0 x0 cR br cR   (([]:List ae),(0:Int)) _ _ ⟨(0),([]:List Nat),h3,by kernel_rfl,o4⟩ qU) ?_
 rintro e s ⟨rfl,wG,i3,rfl,g4,g5,g6,g7,kP,Og,h9,rfl,sg⟩
 try dsimp only at H
 refine qq ?_
 obtain⟨x4,pP,H⟩:=aG H
 refine qr [.a 1 (UQ _ _ pP h9 _ (fT (ab (HV (pre:=[(kP,.sl wG.length 4 (iL.l (cM wG Og))),(cR,.sl br.length 1 (aa.l br))]) (ns:=wG) (ids:=Og) (q:=0) sg rfl) (aA))))] <| qq <| qq <| q0 <| qb 6 ?_
 obtain⟨cE,C3,H⟩:=aG H
 refine ql (aq.qT L cR br cR x4   (wG,(0:Int)) _ _ ⟨kP,Og,h9,by kernel_rfl,sg⟩ C3) ?_
 rintro e s ⟨rfl,cm,i5,rfl,g10,g11,g12,fO,ia,h14,rfl,kO⟩
 try dsimp only at H
 refine qq ?_
 obtain⟨x5,El,H⟩:=aG H
 refine qr [.a 1 (Ro _ _ _ El h14 _ (fT (ab (HV (pre:=[(fO,.sl cm.length 4 (iL.l (cM cm ia))),(cR,.sl br.length 1 (aa.l br))]) (ns:=cm) (ids:=ia) (q:=0) kO rfl) (ab (aQ) (aA)))))] <| qq <| qq <| q0 <| qb 10 ?_
 obtain⟨kW,KT,H⟩:=aG H
 refine ql (aq.Ja L fO cm fO ia x5   (br,(0:Int)) _ _ ⟨cR,h14,by kernel_rfl,kO⟩ KT) ?_
 rintro e s ⟨rfl,de,i7,rfl,g13,g14,iP,h17,rfl,qV⟩
 try dsimp only at H
 refine q1 ?_
 have Ew:Has h17 (((((0))),.sl (([]:List ae).length) 4 (ah.l ([]:List ae)))::(fO,.sl cm.length 4 (iL.l (cM cm ia)))::(iP,.sl de.length 1 (aa.l de))::(jH cm ia++L)):=Has.nil qV 4
 refine qq <| qq <| q0 <| qb 12 ?_
 obtain⟨Mn,Mb,H⟩:=aG H
 refine ql (aq.I9 L fO cm fO ia x5 iP de iP   ((0:Int),([]:List ae),(0:Int)) _ _ ⟨(((0))),h17,by kernel_rfl,Ew⟩ Mb) ?_
 rintro e s ⟨rfl,i9,Dn,Jd,rfl,g17,g18,g19,g20,g21,iU,h24,rfl,Ka⟩
 try dsimp only at H
 refine qq ?_
 obtain⟨h25,Mc,QM⟩:=fV (E:=ah) (l:=Dn) (q:=0) Ka rfl
 refine uC [.a 0 Mc] [] ?_
 have QN:Has h25 ((fO,.sl cm.length 4 (iL.l (cM cm ia)))::(jH cm ia++L)):=Has.del QM 1
 have RY:Has h25 (L):=Has.gone (pre:=[]) (Has.del QN 0)
 obtain rfl:=oi H
 exact qt <| ⟨.inl rfl,oF (.agg [ah.fz Dn,.int .i64 Jd]) h25 (lI (dJ (ab (bB) (ab (aQ) (aA)))))⟩
end
end Go.Proofs.YtmekcfdllhphlaaGreatDoor
