/- Part of the proof: Q10, Q46, Q55, Q96, Q99, Q62, Q25, Q28, Q22, Q24, Q58, Q12, Q20, Q21, Q6, Q7. -/
import Derived.Test.YtifafejidnjckaaGreatK10
set_option linter.unusedVariables false
set_option linter.unusedSimpArgs false
set_option maxRecDepth 100000
open Eq renaming trans → acq
open List renaming length_set → abF
open Or renaming inr → ac3
namespace Go.Proofs.YtifafejidnjckaaGreat
open Go Go.R
open Go.IntKind (i64 u64 u8 u32)
def xT:cu:=gj [0,2,3,4,5,6,20,22,23,24,25,31] [6] [4094,4030,4089,4086,3191,2167,3143,1095,3143,3143,3191,3191,4089] [(10,[(6,some 3,0)])] []
def bE.l0 (m:Nat)(aw:List ah):Nat→Int→aj→Option (Int × aj)
 | 0,_,_=>none
 | k+1,x2,bR=>if (decide (x2<(aw.length:Int)))=true then ((ix aw x2).bind fun v0=>jn (fun (σ:Int)=>match σ with | n0=>(J7 1 v0.args).bind fun x3=>(app 56 bR.ae ([(ah.mk v0.kind n0 v0.label x3)])).bind fun x4=>(app 8 bR.aB ([x2])).bind fun x5=>bE.l0 m aw k (i64.wrap (x2+(1:Int))) (aj.mk bR.aF x4 x5)) fun EJ=>(if (v0.kind==(0:Int))=true then (EJ x2) else (EJ v0.int))) else (some ((x2,bR)))
def bE.l1 (m:Nat)(aw:List ah):Nat→Int→aj→Option (Int × aj)
 | 0,_,_=>none
 | k+1,x8,bf=>if (decide (x8<(aw.length:Int)))=true then ((ix aw x8).bind fun v1=>jn (fun (σ:Int)=>match σ with | n1=>(J7 1 v1.args).bind fun x9=>(app 56 bf.ae ([(ah.mk v1.kind n1 v1.label x9)])).bind fun mT=>(app 8 bf.aB ([x8])).bind fun C0=>bE.l1 m aw k (i64.wrap (x8+(1:Int))) (aj.mk bf.aF mT C0)) fun Ka=>(if (v1.kind==(0:Int))=true then (Ka x8) else (Ka v1.int))) else (some ((x8,bf)))
def bE.f (m:Nat)(aw:List ah):Option ((Option aj) × Int):=if (decide ((aw.length:Int) > (8000:Int)))=true then (some (none,(2:Int))) else (if (decide ((aw.length:Int) > (0:Int)))=true then ((ib.f m (aZ.mk aw (0:Int))).bind fun x0=>if (!x0)=true then (some (none,(2:Int))) else ((js.f m ).bind fun x1=>(bE.l0 m aw m (0:Int) x1).bind fun bo=>match bo with | (x6,iL)=>some (some iL,(0:Int)))) else ((js.f m ).bind fun x7=>(bE.l1 m aw m (0:Int) x7).bind fun bZ=>match bZ with | (r8,XB)=>some (some XB,(0:Int))))
def bE.fin (L:Mem)(aw:List ah)(r:(Option aj) × Int)(s:St):Prop:=∃ez de dh:Nat,aP Tryz.prog (s.open xT) Tryz.f10.results.toList=some (.tup [(F6 r.1 ez),.int .i64 r.2])∧Has s.h (F7 r.1 (fun y=>[(ez,.ob [.bool y.aF,.rs de 0 y.ae.length 4,.rs dh 0 y.aB.length 1]),(de,.sl y.ae.length 4 (af.l y.ae)),(dh,.sl y.aB.length 1 (aa.l y.aB))])++(L))
def XC (cf:CallF)(m:Nat):Prop:=∀(aw:List ah) (r:(Option aj) × Int),bE.f m aw=some r→∀h L,Has h (L)→∀xs,xs.map bh=[af.fz aw]→∃ez de dh h',cf 10 xs h=some (.tup [(F6 r.1 ez),.int .i64 r.2],h')∧Has h' (F7 r.1 (fun y=>[(ez,.ob [.bool y.aF,.rs de 0 y.ae.length 4,.rs dh 0 y.aB.length 1]),(de,.sl y.ae.length 4 (af.l y.ae)),(dh,.sl y.aB.length 1 (aa.l y.aB))])++(L))
section
variable {cf:CallF}{m:Nat}
theorem bE.cd (L:Mem)(aw:List ah)(aV:Nat)  (Ba:QI cf m):b8 Tryz.prog cf xT m (sub [1,1,1,0,1,0,0] (br Tryz.f10)) (fun k (σ:Int × aj)=>bE.l0 m aw k σ.1 σ.2) (fun σ s=>match σ with | (x2,bR)=>∃dj eP h1,s=⟨j5 (.ptr aV 0::j5 [af.fz aw,.int .i64 (aw.length:Int),.int .i64 x2,.any,.any]),[none],h1⟩∧Has h1 ((aV,.ob [.bool bR.aF,.rs dj 0 bR.ae.length 4,.rs eP 0 bR.aB.length 1])::(dj,.sl bR.ae.length 4 (af.l bR.ae))::(eP,.sl bR.aB.length 1 (aa.l bR.aB))::L)) (fun out e s=>(e = .exit 0∧∃x2 bR,(x2,bR)=out∧∃si zm IW CZ dj eP h1,s=⟨j5 (.ptr aV 0::j5 [si,zm,IW,CZ,.any]),[none],h1⟩∧Has h1 ((aV,.ob [.bool bR.aF,.rs dj 0 bR.ae.length 4,.rs eP 0 bR.aB.length 1])::(dj,.sl bR.ae.length 4 (af.l bR.ae))::(eP,.sl bR.aB.length 1 (aa.l bR.aB))::L))):=by
 refine iO (fun _=>rfl) ?_
 rintro k ⟨x2,bR⟩ s out ⟨dj,eP,h1,rfl,o1⟩ H
 have H:bE.l0 m aw (k+1) x2 bR=some out:=H
 refine q1 <| qq <| qc H (fun c4 H=>?_) (fun c4 H=>?_)
 ·refine qk <| qq <| qb 1 <| qq ?_
  obtain⟨v0,e3,H⟩:=aS H
  refine qr [.v 1 (bO (k:=.i64) (E:=af) (l:=aw) kI e3),.v 2 (fm  (E:=af) (l:=aw) h1 rA rB e3)] ?_
  obtain⟨EJ,MD,H⟩:=oG H
  refine qj (S:=fun (σ:Int) s=>match σ with | n0=>∃(g0:AV) (h2:AHeap),s=⟨j5 [.ptr aV 0,.int .i64 x2,.lp 6 0,.any,af.fz aw,.int .i64 (aw.length:Int),.int .i64 x2,.any,g0],[some [.int .i64 v0.kind,.int .i64 n0,.str v0.label,aa.fz v0.args]],h2⟩∧Has h2 ((aV,.ob [.bool bR.aF,.rs dj 0 bR.ae.length 4,.rs eP 0 bR.aB.length 1])::(dj,.sl bR.ae.length 4 (af.l bR.ae))::(eP,.sl bR.aB.length 1 (aa.l bR.aB))::L)) EJ H ?_ ?_
  ·rintro n0 s ⟨g0,h2,rfl,o2⟩ H
   have H:=(MD _).symm.trans H
   try dsimp only at H
   refine qq ?_
   obtain⟨x3,e4,H⟩:=aS H
   obtain⟨gd,h3,e5,o3⟩:=H6 (E:=aa) (l:=v0.args) Ba o2 e4
   refine qr [.a 2 e5] ?_
   obtain⟨h4,e6,o4⟩:=mO (E:=aa) (l:=x3) (q:=0) o3 rfl
   obtain⟨x4,e7,H⟩:=aS H
   obtain⟨fS,h5,e8,o5⟩:=fH (P:=Tryz.prog) (E:=af) (l:=bR.ae) (q:=1) (t2:=23) (x:=.fz [.int .i64 v0.kind,.int .i64 n0,.str v0.label,aa.fz x3] 1 true) (l2:=([(ah.mk v0.kind n0 v0.label x3)])) kI o4 rfl (by kernel_rfl) rfl e7
   obtain⟨x5,e9,H⟩:=aS H
   obtain⟨gF,h6,lg,o6⟩:=fH (P:=Tryz.prog) (E:=aa) (l:=bR.aB) (q:=2) (t2:=22) (x:=.fz [.int .i64 x2] 1 true) (l2:=([x2])) dt o5 rfl (by kernel_rfl) rfl e9
   obtain⟨h7,mf,o7⟩:=pn (P:=Tryz.prog) (t:=23) (off:=1) (q:=0) (cs:=[.bool bR.aF,.rs dj 0 bR.ae.length 4,.rs eP 0 bR.aB.length 1]) (gp:=[.bool bR.aF,.rs fS 0 x4.length 4,.rs eP 0 bR.aB.length 1]) (x:=.rs fS 0 x4.length 4) o6 rfl (by kernel_rfl)
   obtain⟨h8,nI,o8⟩:=pn (P:=Tryz.prog) (t:=22) (off:=2) (q:=0) (cs:=[.bool bR.aF,.rs fS 0 x4.length 4,.rs eP 0 bR.aB.length 1]) (gp:=[.bool bR.aF,.rs fS 0 x4.length 4,.rs gF 0 x5.length 1]) (x:=.rs gF 0 x5.length 1) o7 rfl (by kernel_rfl)
   exact WW [.a 0 e6] [.v 5 (show b7 Tryz.prog h4 23 (.ptr aV 1)=some (.rs dj 0 bR.ae.length 4) from dO (q:=0) (cs:=[.bool bR.aF,.rs dj 0 bR.ae.length 4,.rs eP 0 bR.aB.length 1]) o4 rfl (by kernel_rfl)),.a 8 e8,.v 12 (show b7 Tryz.prog h5 22 (.ptr aV 2)=some (.rs eP 0 bR.aB.length 1) from dO (q:=0) (cs:=[.bool bR.aF,.rs dj 0 bR.ae.length 4,.rs eP 0 bR.aB.length 1]) o5 rfl (by kernel_rfl)),.a 15 lg,.w 18 mf,.w 21 nI] [.mk (Ie o4 (q:=1) rfl (q2:=0) rfl (by decide) e8)] <| q0 <| ⟨(i64.wrap (x2+(1:Int)),(aj.mk bR.aF x4 x5)),⟨fS,gF,h8,by kernel_rfl,o8⟩,H⟩
  clear MD
  intro Bh
  refine q1 <| qc H (fun c5 H=>?_) (fun c5 H=>?_)
  ·exact q0 <| Bh x2 _ ⟨.any,h1,by kernel_rfl,o1⟩ H
  ·exact qk <| Bh v0.int _ ⟨.bool (v0.kind==(0:Int)),h1,by kernel_rfl,o1⟩ H
 ·exact qx 0 <| ⟨rfl,x2,bR,oi H,af.fz aw,.int .i64 (aw.length:Int),.int .i64 x2,.bool (decide (x2<(aw.length:Int))),dj,eP,h1,by kernel_rfl,o1⟩
theorem bE.gN (L:Mem)(aw:List ah)(b9:Nat)  (Ba:QI cf m):b8 Tryz.prog cf xT m (sub [1,1,1,0,1,0,0] (br Tryz.f10)) (fun k (σ:Int × aj)=>bE.l1 m aw k σ.1 σ.2) (fun σ s=>match σ with | (x8,bf)=>∃fR gR h11,s=⟨j5 (.ptr b9 0::j5 [af.fz aw,.int .i64 (aw.length:Int),.int .i64 x8,.any,.any]),[none],h11⟩∧Has h11 ((b9,.ob [.bool bf.aF,.rs fR 0 bf.ae.length 4,.rs gR 0 bf.aB.length 1])::(fR,.sl bf.ae.length 4 (af.l bf.ae))::(gR,.sl bf.aB.length 1 (aa.l bf.aB))::L)) (fun out e s=>(e = .exit 0∧∃x8 bf,(x8,bf)=out∧∃si zm IW CZ fR gR h11,s=⟨j5 (.ptr b9 0::j5 [si,zm,IW,CZ,.any]),[none],h11⟩∧Has h11 ((b9,.ob [.bool bf.aF,.rs fR 0 bf.ae.length 4,.rs gR 0 bf.aB.length 1])::(fR,.sl bf.ae.length 4 (af.l bf.ae))::(gR,.sl bf.aB.length 1 (aa.l bf.aB))::L))):=by
 refine iO (fun _=>rfl) ?_
 rintro k ⟨x8,bf⟩ s out ⟨fR,gR,h11,rfl,oR⟩ H
 have H:bE.l1 m aw (k+1) x8 bf=some out:=H
 refine q1 <| qq <| qc H (fun c7 H=>?_) (fun c7 H=>?_)
 ·refine qk <| qq <| qb 1 <| qq ?_
  obtain⟨v1,wE,H⟩:=aS H
  refine qr [.v 1 (bO (k:=.i64) (E:=af) (l:=aw) kI wE),.v 2 (fm  (E:=af) (l:=aw) h11 rA rB wE)] ?_
  obtain⟨Ka,Om,H⟩:=oG H
  refine qj (S:=fun (σ:Int) s=>match σ with | n1=>∃(g5:AV) (h12:AHeap),s=⟨j5 [.ptr b9 0,.int .i64 x8,.lp 6 0,.any,af.fz aw,.int .i64 (aw.length:Int),.int .i64 x8,.any,g5],[some [.int .i64 v1.kind,.int .i64 n1,.str v1.label,aa.fz v1.args]],h12⟩∧Has h12 ((b9,.ob [.bool bf.aF,.rs fR 0 bf.ae.length 4,.rs gR 0 bf.aB.length 1])::(fR,.sl bf.ae.length 4 (af.l bf.ae))::(gR,.sl bf.aB.length 1 (aa.l bf.aB))::L)) Ka H ?_ ?_
  ·rintro n1 s ⟨g5,h12,rfl,s6⟩ H
   have H:=(Om _).symm.trans H
   try dsimp only at H
   refine qq ?_
   obtain⟨x9,zh,H⟩:=aS H
   obtain⟨dm,h13,EI,lP⟩:=H6 (E:=aa) (l:=v1.args) Ba s6 zh
   refine qr [.a 2 EI] ?_
   obtain⟨h14,zx,vH⟩:=mO (E:=aa) (l:=x9) (q:=0) lP rfl
   obtain⟨mT,EH,H⟩:=aS H
   obtain⟨b6,h15,Gd,xR⟩:=fH (P:=Tryz.prog) (E:=af) (l:=bf.ae) (q:=1) (t2:=23) (x:=.fz [.int .i64 v1.kind,.int .i64 n1,.str v1.label,aa.fz x9] 1 true) (l2:=([(ah.mk v1.kind n1 v1.label x9)])) kI vH rfl (by kernel_rfl) rfl EH
   obtain⟨C0,GW,H⟩:=aS H
   obtain⟨cE,h16,IG,mA⟩:=fH (P:=Tryz.prog) (E:=aa) (l:=bf.aB) (q:=2) (t2:=22) (x:=.fz [.int .i64 x8] 1 true) (l2:=([x8])) dt xR rfl (by kernel_rfl) rfl GW
   obtain⟨h17,GV,zw⟩:=pn (P:=Tryz.prog) (t:=23) (off:=1) (q:=0) (cs:=[.bool bf.aF,.rs fR 0 bf.ae.length 4,.rs gR 0 bf.aB.length 1]) (gp:=[.bool bf.aF,.rs b6 0 mT.length 4,.rs gR 0 bf.aB.length 1]) (x:=.rs b6 0 mT.length 4) mA rfl (by kernel_rfl)
   obtain⟨h18,IE,xS⟩:=pn (P:=Tryz.prog) (t:=22) (off:=2) (q:=0) (cs:=[.bool bf.aF,.rs b6 0 mT.length 4,.rs gR 0 bf.aB.length 1]) (gp:=[.bool bf.aF,.rs b6 0 mT.length 4,.rs cE 0 C0.length 1]) (x:=.rs cE 0 C0.length 1) zw rfl (by kernel_rfl)
   exact WW [.a 0 zx] [.v 5 (show b7 Tryz.prog h14 23 (.ptr b9 1)=some (.rs fR 0 bf.ae.length 4) from dO (q:=0) (cs:=[.bool bf.aF,.rs fR 0 bf.ae.length 4,.rs gR 0 bf.aB.length 1]) vH rfl (by kernel_rfl)),.a 8 Gd,.v 12 (show b7 Tryz.prog h15 22 (.ptr b9 2)=some (.rs gR 0 bf.aB.length 1) from dO (q:=0) (cs:=[.bool bf.aF,.rs fR 0 bf.ae.length 4,.rs gR 0 bf.aB.length 1]) xR rfl (by kernel_rfl)),.a 15 IG,.w 18 GV,.w 21 IE] [.mk (Ie vH (q:=1) rfl (q2:=0) rfl (by decide) Gd)] <| q0 <| ⟨(i64.wrap (x8+(1:Int)),(aj.mk bf.aF mT C0)),⟨b6,cE,h18,by kernel_rfl,xS⟩,H⟩
  clear Om
  intro Ge
  refine q1 <| qc H (fun c8 H=>?_) (fun c8 H=>?_)
  ·exact q0 <| Ge x8 _ ⟨.any,h11,by kernel_rfl,oR⟩ H
  ·exact qk <| Ge v1.int _ ⟨.bool (v1.kind==(0:Int)),h11,by kernel_rfl,oR⟩ H
 ·exact qx 0 <| ⟨rfl,x8,bf,oi H,af.fz aw,.int .i64 (aw.length:Int),.int .i64 x8,.bool (decide (x8<(aw.length:Int))),fR,gR,h11,by kernel_rfl,oR⟩
theorem sv {a7:FuncId→cu}(ha:a7 10=xT)(RK:WY cf m)(Ov:UW cf m)(Ba:QI cf m)(aw:List ah)(h:AHeap)(L:Mem)  (o:Has h (L)){out:(Option aj) × Int}(H:bE.f m aw=some out) :
  ∃r h',bj Tryz.prog a7 cf m 10 [af.fz aw] h=some (r,h')∧∃ez de dh:Nat,r = .tup [(F6 out.1 ez),.int .i64 out.2]∧Has h' (F7 out.1 (fun y=>[(ez,.ob [.bool y.aF,.rs de 0 y.ae.length 4,.rs dh 0 y.aB.length 1]),(de,.sl y.ae.length 4 (af.l y.ae)),(dh,.sl y.aB.length 1 (aa.l y.aB))])++(L)):=by
 refine au (fn:=Tryz.f10) ha Tryz.func10 (by kernel_rfl) (by kernel_rfl) ?_
 refine aK (Q:=fun s=>bE.fin L aw out s) (fun _ _ ⟨h1,ez,de,dh,h2,h3⟩=>⟨h1,_,h2,ez,de,dh,rfl,h3⟩) ?_
 have H:_=some out:=H
 unfold bE.f at H
 show dR _ cf xT m _ ⟨af.fz aw::qL [],[none],h⟩ _
 refine q1 <| qq <| qq ?_
 rcases eu H with⟨c0,H⟩| ⟨c0,H⟩
 ·obtain rfl:=oi H
  exact qr [.b 3 c0] <| zX <| qq <| q0 <| qt <| ⟨.inl rfl,⟨0,0,0,by kernel_rfl,he o⟩⟩
 ·rcases eu H with⟨c2,H⟩| ⟨c2,H⟩
  ·obtain⟨x0,e0,H⟩:=aS H
   refine qr [.b 3 c0,.b 7 c2,.a 10 (Ov _ _ e0 h _ (er (ab (bT (ab (cQ (E:=af)) (ab (aA) (aq)))) (aq))))] <| qc H (fun c3 H=>?_) (fun c3 H=>?_)
   ·obtain rfl:=oi H
    exact q1 <| qt <| ⟨.inl rfl,⟨0,0,0,by kernel_rfl,he o⟩⟩
   ·refine qk <| qq ?_
    obtain⟨x1,e1,H⟩:=aS H
    obtain⟨aV,dA,ca,h0,e2,o0⟩:=RK _ e1 h _  (o)  [] (eO)
    refine qr [.a 0 e2] <| qq <| qq <| q0 <| qb 0 ?_
    obtain⟨bo,oJ,H⟩:=aS H
    refine ql (bE.cd L aw aV  Ba ((0:Int),x1) _ _ ⟨dA,ca,h0,by kernel_rfl,o0⟩ oJ) ?_
    rintro e s ⟨rfl,x6,iL,rfl,g1,g2,g3,g4,jb,kB,h9,rfl,o9⟩
    try dsimp only at H
    obtain rfl:=oi H
    exact q1 <| qt <| ⟨.inl rfl,⟨aV,jb,kB,by kernel_rfl,he o9⟩⟩
  ·refine qr [.b 3 c0,.b 7 c2] <| Eb <| qk <| qq ?_
   obtain⟨x7,uc,H⟩:=aS H
   obtain⟨b9,fW,gG,h10,wD,qU⟩:=RK _ uc h _  (o)  [] (eO)
   refine qr [.a 0 wD] <| qq <| qq <| q0 <| qb 0 ?_
   obtain⟨bZ,IF,H⟩:=aS H
   refine ql (bE.gN L aw b9  Ba ((0:Int),x7) _ _ ⟨fW,gG,h10,by kernel_rfl,qU⟩ IF) ?_
   rintro e s ⟨rfl,r8,XB,rfl,g6,g7,g8,g9,pP,II,h19,rfl,ud⟩
   try dsimp only at H
   obtain rfl:=oi H
   exact q1 <| qt <| ⟨.inl rfl,⟨b9,pP,II,by kernel_rfl,he ud⟩⟩
end
end Go.Proofs.YtifafejidnjckaaGreat
namespace Go.Proofs.YtifafejidnjckaaGreat
open Go Go.R
open Go.IntKind (i64 u64 u8 u32)
end Go.Proofs.YtifafejidnjckaaGreat
namespace Go.Proofs.YtifafejidnjckaaGreat
open Go Go.R
open Go.IntKind (i64 u64 u8 u32)
def vP:cu:=gj [0,1,4,5,6,7,8,9,10,11,12,13,16,21,35,48,61] [4,9,11] [131064,126968,131059,122872,131059,131050,131018,130954,114570,130954,130954,130890,130634,97866,130634,130122,129098,127050,61514,127050,127050,130122,130634,131059] [(21,[(12,none,0)]),(23,[(9,some 0,0)])] [(11,[(9,some 0,4)]),(16,[(12,none,1)])]
def aE.l0 (m:Nat)(x2:(List Int)):Nat→(List Int)→Int→Option ((List Int) × Int)
 | 0,_,_=>none
 | k+1,bV,i0=>if (decide (i0<(x2.length:Int)))=true then ((ix x2 i0).bind fun v0=>(ix bV v0).bind fun v1=>aE.l0 m x2 k (bV.set v0.toNat i0) (i64.wrap (i0+(1:Int)))) else (some ((bV,i0)))
def aE.l2 (m:Nat)(aG:List Int)(x4:ah):Nat→(List Int)→Int→Option ((List Int) × Int)
 | 0,_,_=>none
 | k+1,cg,k0=>if (decide (k0<(x4.args.length:Int)))=true then ((ix x4.args k0).bind fun v3=>(ix aG v3).bind fun v4=>(app 8 cg ([v4])).bind fun x5=>aE.l2 m aG x4 k x5 (i64.wrap (k0+(1:Int)))) else (some ((cg,k0)))
def aE.l1 (m:Nat)(s0:ay)(x2:(List Int))(aG:List Int):Nat→Int→(List ah)→Int→Option (Int × (List ah) × Int)
 | 0,_,_,_=>none
 | k+1,i2,t0,t1=>if (decide (i2<(x2.length:Int)))=true then ((ix x2 i2).bind fun v2=>(bk.f m s0 v2).bind fun x4=>(aE.l2 m aG x4 m ([]:List Int) (0:Int)).bind fun bZ=>match bZ with | (iV,k1)=>(app 56 t0 ([(ah.mk x4.kind x4.int x4.label iV)])).bind fun x6=>aE.l1 m s0 x2 aG k (i64.wrap (i2+(1:Int))) x6 t1) else (some ((i2,t0,t1)))
def aE.f (m:Nat)(s0:ay)(n0:Int):Option (aZ × Int):=(cD.f m s0).bind fun x0=>if (!x0)=true then (some ((aZ.mk ([]) (0:Int)),(6:Int))) else ((di.f m s0 n0).bind fun x1=>if (!x1)=true then (some ((aZ.mk ([]) (0:Int)),(1:Int))) else ((aL.f m s0 n0).bind fun x2=>(pX 8 (s0.ai.length:Int) (0:Int)).bind fun x3=>(aE.l0 m x2 m x3 (0:Int)).bind fun bo=>match bo with | (aG,i1)=>(aE.l1 m s0 x2 aG m (0:Int) ([]:List ah) (0:Int)).bind fun fC=>match fC with | (i3,t2,t3)=>(gW.f m (aZ.mk t2 t3)).bind fun x7=>some (x7.1,x7.2)))
def aE.fin (L:Mem)(r:aZ × Int)(s:St):Prop:=∃av,aP Tryz.prog (s.open vP) Tryz.f55.results.toList=some av∧CR s.h av (.tup [.agg [af.fz r.1.nodes,.int .i64 r.1.root],.int .i64 r.2])
def XD (cf:CallF)(m:Nat):Prop:=∀(s0:ay) (n0:Int) (r:aZ × Int),aE.f m s0 n0=some r→∀h xs,pk xs [.fp [af.fz s0.ai,aa.fz s0.an,.bool s0.aH] 0,.int .i64 n0]→cf 55 xs h=some (.tup [.agg [af.fz r.1.nodes,.int .i64 r.1.root],.int .i64 r.2],h)
section
variable {cf:CallF}{m:Nat}
theorem aE.cd (L:Mem)(s0:ay)(x2:(List Int))   : b8 Tryz.prog cf vP m (sub [1,1,1,1,1,0,1,0,0] (br Tryz.f55)) (fun k (σ:(List Int) × Int)=>aE.l0 m x2 k σ.1 σ.2) (fun σ s=>match σ with | (bV,i0)=>∃dA h1,s=⟨.fp [af.fz s0.ai,aa.fz s0.an,.bool s0.aH] 0 :: .any :: .lp 4 0 :: .any::aa.fz x2 :: .rs dA 0 bV.length 1 :: .int .i64 i0::u4 [],[some [.nils,.int .i64 (0:Int)],none,none],h1⟩∧Has h1 ((dA,.sl bV.length 1 (aa.l bV))::L)) (fun out e s=>(e = .exit 0∧∃bV i0,(bV,i0)=out∧∃qT Ou dA h1,s=⟨.fp [af.fz s0.ai,aa.fz s0.an,.bool s0.aH] 0 :: .any :: .lp 4 0 :: .any::aa.fz x2 :: .rs dA 0 bV.length 1::qT::zV [Ou,.any,.any],[some [.nils,.int .i64 (0:Int)],none,none],h1⟩∧Has h1 ((dA,.sl bV.length 1 (aa.l bV))::L))):=by
 refine iO (fun _=>rfl) ?_
 rintro k ⟨bV,i0⟩ s out ⟨dA,h1,rfl,o1⟩ H
 have H:aE.l0 m x2 (k+1) bV i0=some out:=H
 refine qq <| qq <| q0 <| qc H (fun c2 H=>?_) (fun c2 H=>?_)
 ·refine qk <| qq <| qb 1 ?_
  obtain⟨v0,e5,H⟩:=aS H
  obtain⟨v1,e6,H⟩:=aS H
  obtain⟨h2,e7,o2⟩:=en (P:=Tryz.prog) (tf:=3) (E:=aa) (l:=bV) (q:=0) (v:=i0) (x:=.int .i64 i0) o1 rfl Z3 e6 rfl rfl
  exact qr [.v 3 (bO (k:=.i64) (E:=aa) (l:=x2) dt e5),.v 4 (cF  (E:=aa) (l:=x2) h1 A3 e5 rfl),.v 6 (aJ (k:=.i64) (E:=aa) (l:=bV) (q:=0) dt o1 rfl e6),.w 7 e7] <| q0 <| ⟨(bV.set v0.toNat i0,i64.wrap (i0+(1:Int))),⟨dA,h2,(acq (b:=⟨.fp [af.fz s0.ai,aa.fz s0.an,.bool s0.aH] 0 :: .any :: .lp 4 0 :: .any::aa.fz x2 :: .rs dA 0 bV.length 1 :: .int .i64 (i64.wrap (i0+(1:Int)))::u4 [],[some [.nils,.int .i64 (0:Int)],none,none],h2⟩) (by kernel_rfl) (by simp only [abF])),(by have o:Has h2 ((dA,.sl bV.length 1 (aa.l (bV.set v0.toNat i0)))::L):=o2; simpa only [abF] using o)⟩,H⟩
 ·exact qx 0 <| ⟨rfl,bV,i0,oi H,.int .i64 i0,.bool (decide (i0<(x2.length:Int))),dA,h1,by kernel_rfl,o1⟩
theorem aE.mj (L:Mem)(s0:ay)(x2:(List Int))(ca:Nat)(aG:List Int)(ca:Nat)(dj:Nat)(i2:Int)(t0:List ah)(t1:Int)(dj:Nat)(x4:ah)   : b8 Tryz.prog cf vP m (sub [1,1,1,1,1,1,1,0,1,0,0,1,0,0,1,1,0,1,0,0] (br Tryz.f55)) (fun k (σ:(List Int) × Int)=>aE.l2 m aG x4 k σ.1 σ.2) (fun σ s=>match σ with | (cg,k0)=>∃eP h5,s=⟨.fp [af.fz s0.ai,aa.fz s0.an,.bool s0.aH] 0 :: .any :: .lp 4 0 :: .any::aa.fz x2 :: .rs ca 0 aG.length 1 :: .any :: .lp 9 0 :: .int .i64 i2 :: .lp 11 0 :: .rs eP 0 cg.length 1 :: .int .i64 k0::tu [],[some [.nils,.int .i64 (0:Int)],some [.rs dj 0 t0.length 4,.int .i64 t1],some [.int .i64 x4.kind,.int .i64 x4.int,.str x4.label,aa.fz x4.args]],h5⟩∧Has h5 ((eP,.sl cg.length 1 (aa.l cg))::(dj,.sl t0.length 4 (af.l t0))::(ca,.sl aG.length 1 (aa.l aG))::L)) (fun out e s=>(e = .exit 4∧∃cg k0,(cg,k0)=out∧∃pK U0 eP h5,s=⟨.fp [af.fz s0.ai,aa.fz s0.an,.bool s0.aH] 0 :: .any :: .lp 4 0 :: .any::aa.fz x2 :: .rs ca 0 aG.length 1 :: .any :: .lp 9 0 :: .int .i64 i2 :: .lp 11 0 :: .rs eP 0 cg.length 1::pK::qJ [U0],[some [.nils,.int .i64 (0:Int)],some [.rs dj 0 t0.length 4,.int .i64 t1],some [.int .i64 x4.kind,.int .i64 x4.int,.str x4.label,aa.fz x4.args]],h5⟩∧Has h5 ((eP,.sl cg.length 1 (aa.l cg))::(dj,.sl t0.length 4 (af.l t0))::(ca,.sl aG.length 1 (aa.l aG))::L))):=by
 refine iO (fun _=>rfl) ?_
 rintro k ⟨cg,k0⟩ s out ⟨eP,h5,rfl,o7⟩ H
 have H:aE.l2 m aG x4 (k+1) cg k0=some out:=H
 refine qq <| qq <| q0 <| qc H (fun c4 H=>?_) (fun c4 H=>?_)
 ·refine qk <| qq <| qb 5 ?_
  obtain⟨v3,mf,H⟩:=aS H
  obtain⟨v4,nI,H⟩:=aS H
  obtain⟨x5,oJ,H⟩:=aS H
  obtain⟨gd,h6,uc,o8⟩:=fH (P:=Tryz.prog) (E:=aa) (l:=cg) (q:=0) (t2:=22) (x:=.fz [.int .i64 v4] 1 true) (l2:=([v4])) dt o7 rfl (by kernel_rfl) rfl oJ
  exact qr [.v 5 (bO (k:=.i64) (E:=aa) (l:=x4.args) dt mf),.v 6 (cF  (E:=aa) (l:=x4.args) h5 A3 mf rfl),.v 7 (aJ (k:=.i64) (E:=aa) (l:=aG) (q:=2) dt o7 rfl nI),.v 8 (bm  (E:=aa) (l:=aG) (q:=2) o7 rfl A3 nI rfl),.a 10 uc] <| q0 <| ⟨(x5,i64.wrap (k0+(1:Int))),⟨gd,h6,by kernel_rfl,o8⟩,H⟩
 ·exact qx 4 <| ⟨rfl,cg,k0,oi H,.int .i64 k0,.bool (decide (k0<(x4.args.length:Int))),eP,h5,by kernel_rfl,o7⟩
theorem aE.gN (L:Mem)(s0:ay)(x2:(List Int))(ca:Nat)(aG:List Int)(ca:Nat)  (za:Pm cf m):b8 Tryz.prog cf vP m (sub [1,1,1,1,1,1,1,0,1,0,0] (br Tryz.f55)) (fun k (σ:Int × (List ah) × Int)=>aE.l1 m s0 x2 aG k σ.1 σ.2.1 σ.2.2) (fun σ s=>match σ with | (i2,t0,t1)=>∃dj h4,s=⟨.fp [af.fz s0.ai,aa.fz s0.an,.bool s0.aH] 0 :: .any :: .lp 4 0 :: .any::aa.fz x2 :: .rs ca 0 aG.length 1 :: .any :: .lp 9 0 :: .int .i64 i2::qK [],[some [.nils,.int .i64 (0:Int)],some [.rs dj 0 t0.length 4,.int .i64 t1],none],h4⟩∧Has h4 ((dj,.sl t0.length 4 (af.l t0))::(ca,.sl aG.length 1 (aa.l aG))::L)) (fun out e s=>(e = .exit 2∧∃i2 t0 t1,(i2,t0,t1)=out∧∃kX ze vm pM Oa dj h4,s=⟨kX :: .any :: .lp 4 0 :: .any::ze::vm :: .any :: .lp 9 0::pM::GR [Oa,.any],[some [.nils,.int .i64 (0:Int)],some [.rs dj 0 t0.length 4,.int .i64 t1],none],h4⟩∧Has h4 ((dj,.sl t0.length 4 (af.l t0))::(ca,.sl aG.length 1 (aa.l aG))::L))):=by
 refine iO (fun _=>rfl) ?_
 rintro k ⟨i2,t0,t1⟩ s out ⟨dj,h4,rfl,o5⟩ H
 have H:aE.l1 m s0 x2 aG (k+1) i2 t0 t1=some out:=H
 refine qq <| qq <| q0 <| qc H (fun c3 H=>?_) (fun c3 H=>?_)
 ·refine qk <| qq <| qb 3 <| qq ?_
  obtain⟨v2,e9,H⟩:=aS H
  obtain⟨x4,lg,H⟩:=aS H
  refine qr [.v 3 (bO (k:=.i64) (E:=aa) (l:=x2) dt e9),.v 4 (cF  (E:=aa) (l:=x2) h4 A3 e9 rfl),.a 5 (za _ _ _ lg h4 _ (hX (AW (pure_cons (bG.aI (E:=af) (l:=s0.ai)) (pure_cons (bG.aI (E:=aa) (l:=s0.an)) (pure_cons (ba) (pure_nil))))) (hX (dc) (n7))))] <| qq <| q0 ?_
  have o6:Has h4 ((((0)),.sl (([]:List Int).length) 1 (aa.l ([]:List Int)))::(dj,.sl t0.length 4 (af.l t0))::(ca,.sl aG.length 1 (aa.l aG))::L):=Has.nil o5 1
  refine qq <| qq <| q0 <| qb 4 ?_
  obtain⟨bZ,wD,H⟩:=aS H
  refine ql (aE.mj L s0 x2 ca aG ca dj i2 t0 t1 dj x4   (([]:List Int),(0:Int)) _ _ ⟨((0)),h4,by kernel_rfl,o6⟩ wD) ?_
  rintro e s ⟨rfl,iV,k1,rfl,g2,g3,fS,h7,rfl,o9⟩
  try dsimp only at H
  refine qq ?_
  obtain⟨h8,wE,qU⟩:=mO (E:=aa) (l:=iV) (q:=0) o9 rfl
  refine J5 [.a 0 wE] [] ?_
  obtain⟨x6,zh,H⟩:=aS H
  obtain⟨gF,h9,EI,oR⟩:=fH (P:=Tryz.prog) (E:=af) (l:=t0) (q:=0) (t2:=23) (x:=.fz [.int .i64 x4.kind,.int .i64 x4.int,.str x4.label,aa.fz iV] 1 true) (l2:=([(ah.mk x4.kind x4.int x4.label iV)])) kI qU rfl (by kernel_rfl) rfl zh
  exact qr [.a 4 EI] <| q0 <| ⟨(i64.wrap (i2+(1:Int)),x6,t1),⟨gF,h9,by kernel_rfl,oR⟩,H⟩
 ·exact qx 2 <| ⟨rfl,i2,t0,t1,oi H,.fp [af.fz s0.ai,aa.fz s0.an,.bool s0.aH] 0,aa.fz x2,.rs ca 0 aG.length 1,.int .i64 i2,.bool (decide (i2<(x2.length:Int))),dj,h4,by kernel_rfl,o5⟩
theorem nF {a7:FuncId→cu}(ha:a7 55=vP)(zl:Pl cf m)(U1:XA cf m)(C5:QJ cf m)(za:Pm cf m)(N9:Uq cf m)(s0:ay)(n0:Int)(h:AHeap)(L:Mem)  (o:Has h (L)){out:aZ × Int}(H:aE.f m s0 n0=some out) :
  ∃r h',bj Tryz.prog a7 cf m 55 [.fp [af.fz s0.ai,aa.fz s0.an,.bool s0.aH] 0,.int .i64 n0] h=some (r,h')∧CR h' r (.tup [.agg [af.fz out.1.nodes,.int .i64 out.1.root],.int .i64 out.2]):=by
 refine au (fn:=Tryz.f55) ha Tryz.func55 (by kernel_rfl) (by kernel_rfl) ?_
 refine aK (Q:=fun s=>aE.fin L out s) (fun _ _ h=>h) ?_
 have H:_=some out:=H
 unfold aE.f at H
 show dR _ cf vP m _ ⟨.fp [af.fz s0.ai,aa.fz s0.an,.bool s0.aH] 0 :: .int .i64 n0::KO [],[none,none,none],h⟩ _
 refine q1 <| qq <| qq ?_
 obtain⟨x0,e0,H⟩:=aS H
 refine qr [.a 1 (zl _ _ e0 h _ (er (ab (dJ (pure_cons (bG.aI (E:=af) (l:=s0.ai)) (pure_cons (bG.aI (E:=aa) (l:=s0.an)) (pure_cons (ba) (pure_nil))))) (aq))))] <| qc H (fun c0 H=>?_) (fun c0 H=>?_)
 ·obtain rfl:=oi H
  exact q1 <| qt <| ⟨.inl rfl,J6 (.tup [.agg [.nils,.int .i64 (0:Int)],.int .i64 (6:Int)]) h (yq (n4 (ab (bT (ab (qI) (ab (aA) (aq)))) (ab (aA) (aq)))))⟩
 ·refine qk <| qq <| qq ?_
  obtain⟨x1,e1,H⟩:=aS H
  refine qr [.a 2 (C5 _ _ _ e1 h _ (er (ab (dJ (pure_cons (bG.aI (E:=af) (l:=s0.ai)) (pure_cons (bG.aI (E:=aa) (l:=s0.an)) (pure_cons (ba) (pure_nil))))) (ab (aA) (aq)))))] <| qc H (fun c1 H=>?_) (fun c1 H=>?_)
  ·obtain rfl:=oi H
   exact q1 <| qt <| ⟨.inl rfl,J6 (.tup [.agg [.nils,.int .i64 (0:Int)],.int .i64 (1:Int)]) h (yq (n4 (ab (bT (ab (qI) (ab (aA) (aq)))) (ab (aA) (aq)))))⟩
  ·refine qk <| qq ?_
   obtain⟨x2,e2,H⟩:=aS H
   refine qr [.a 2 (N9 _ _ _ e2 h _ (er (ab (dJ (pure_cons (bG.aI (E:=af) (l:=s0.ai)) (pure_cons (bG.aI (E:=aa) (l:=s0.an)) (pure_cons (ba) (pure_nil))))) (ab (aA) (aq)))))] <| qq ?_
   obtain⟨x3,e3,H⟩:=aS H
   obtain⟨aV,h0,e4,o0⟩:=lL (P:=Tryz.prog) (E:=aa) (z:=(0:Int)) (zv:=.int .i64 (0:Int)) dt o 3 rfl rfl rfl rfl e3
   refine qr [.a 5 e4] <| qq <| qq <| q0 <| qb 0 ?_
   obtain⟨bo,e8,H⟩:=aS H
   refine ql (aE.cd L s0 x2   (x3,(0:Int)) _ _ ⟨aV,h0,by kernel_rfl,o0⟩ e8) ?_
   rintro e s ⟨rfl,aG,i1,rfl,g0,g1,ca,h3,rfl,o3⟩
   try dsimp only at H
   refine q1 ?_
   have o4:Has h3 (((0),.sl (([]:List ah).length) 4 (af.l ([]:List ah)))::(ca,.sl aG.length 1 (aa.l aG))::L):=Has.nil o3 4
   refine qq <| qq <| q0 <| qb 2 ?_
   obtain⟨fC,zx,H⟩:=aS H
   refine ql (aE.gN L s0 x2 ca aG ca  za ((0:Int),([]:List ah),(0:Int)) _ _ ⟨(0),h3,by kernel_rfl,o4⟩ zx) ?_
   rintro e s ⟨rfl,i3,t2,t3,rfl,g4,g5,g6,g7,g8,jb,h10,rfl,s6⟩
   try dsimp only at H
   refine qq ?_
   obtain⟨h11,EH,lP⟩:=mO (E:=af) (l:=t2) (q:=0) s6 rfl
   obtain⟨x7,Gd,H⟩:=aS H
   refine J5 [.a 0 EH] [.a 1 (U1 _ _ Gd h11 _ (hX (NB (hX (sZ (E:=af)) (hX (dc) (n7)))) (n7)))] ?_
   have vH:Has h11 (L):=Has.del lP 0
   obtain rfl:=oi H
   exact qt <| ⟨.inl rfl,J6 (.tup [.agg [af.fz x7.1.nodes,.int .i64 x7.1.root],.int .i64 x7.2]) h11 (yq (n4 (ab (bT (ab (cQ) (ab (aA) (aq)))) (ab (aA) (aq)))))⟩
end
end Go.Proofs.YtifafejidnjckaaGreat
namespace Go.Proofs.YtifafejidnjckaaGreat
open Go Go.R
open Go.IntKind (i64 u64 u8 u32)
def q9:cu:=gj [0,1,2,3,4,5,6,7,8,9,10,11,12,13,14,15,17,22,23,24,37,38,39,40,61,73,74,75,76,87,88,89,90,110,126] [12] [34359738365,34359738357,34359345141,34358820853,34359345125,34359345141,34359345141,34359738357,34359738325,34359738261,34352398229,34344009621,34352397845,34335620757,34352397973,34352398229,34352398229,34359737757,34359736733,34124855709,33856420253,34124849565,34124841373,30366749085,26071781789,30366699933,30366749085,30366749085,34124779933,25534910877,34124845469,34124855709,34124855709,17179867613,34359738363,34359738269] [] []
def aC.l0 (m:Nat)(x0:List Int):Nat→(List Int)→Int→Option ((List Int) × Int)
 | 0,_,_=>none
 | k+1,gC,x1=>if (decide (x1<(x0.length:Int)))=true then ((ix gC x1).bind fun v0=>aC.l0 m x0 k (gC.set x1.toNat x1) (i64.wrap (x1+(1:Int)))) else (some ((gC,x1)))
def aC.l1 (m:Nat)(aw:List ah)(cO:List Int)(x3:(List Int)):Nat→(List Int)→Int→Int→Option ((List Int) × Int × Int)
 | 0,_,_,_=>none
 | k+1,bZ,fG,x5=>if (decide (x5<(cO.length:Int)))=true then ((ix x3 x5).bind fun v1=>if (decide (x5 > (0:Int)))=true then ((ix x3 (i64.wrap (x5 - (1:Int)))).bind fun v2=>(ix aw v2).bind fun v3=>(ix aw v1).bind fun v4=>(eA.f m v3 v4).bind fun x6=>if (!(x6==(0:Int)))=true then ((ix bZ v1).bind fun v5=>aC.l1 m aw cO x3 k (bZ.set v1.toNat (i64.wrap (fG+(1:Int)))) (i64.wrap (fG+(1:Int))) (i64.wrap (x5+(1:Int)))) else ((ix bZ v1).bind fun v6=>aC.l1 m aw cO x3 k (bZ.set v1.toNat fG) fG (i64.wrap (x5+(1:Int))))) else ((ix bZ v1).bind fun v7=>aC.l1 m aw cO x3 k (bZ.set v1.toNat fG) fG (i64.wrap (x5+(1:Int))))) else (some ((bZ,fG,x5)))
def aC.l4 (m:Nat)(du:List Int)(v8:ah):Nat→(List Int)→Int→Option ((List Int) × Int)
 | 0,_,_=>none
 | k+1,k0,mT=>if (decide (mT<(v8.args.length:Int)))=true then ((ix v8.args mT).bind fun v10=>(ix du v10).bind fun v11=>(ix k0 (i64.wrap (mT+(1:Int)))).bind fun v12=>aC.l4 m du v8 k (k0.set (i64.wrap (mT+(1:Int))).toNat (i64.wrap (v11+(1:Int)))) (i64.wrap (mT+(1:Int)))) else (some ((k0,mT)))
def aC.l3 (m:Nat)(aw:List ah)(du:List Int):Nat→(List (List Int × Int))→(List Int)→Int→Option ((List (List Int × Int)) × (List Int) × Int)
 | 0,_,_,_=>none
 | k+1,eV,cq,x9=>if (decide (x9<(aw.length:Int)))=true then ((ix aw x9).bind fun v8=>(ix du x9).bind fun v9=>(aC.l4 m du v8 m ([i64.wrap (v9+(1:Int)),(0:Int),(0:Int),(0:Int),(0:Int),(0:Int),(0:Int),(0:Int),(0:Int)]) (0:Int)).bind fun vz=>match vz with | (k1,C0)=>(KL 9 eV k1).bind fun r0=>if (!r0.2)=true then ((Qq 9 eV k1 (eV.length:Int)).bind fun Ow=>(KL 9 Ow k1).bind fun r1=>(ix cq x9).bind fun Lh=>aC.l3 m aw du k Ow (cq.set x9.toNat r1.1) (i64.wrap (x9+(1:Int)))) else ((KL 9 eV k1).bind fun r2=>(ix cq x9).bind fun Cd=>aC.l3 m aw du k eV (cq.set x9.toNat r2.1) (i64.wrap (x9+(1:Int))))) else (some ((eV,cq,x9)))
def aC.l2 (m:Nat)(aw:List ah):Nat→(List Int)→Int→Option (Sum (List Int) ((List Int) × Int))
 | 0,_,_=>none
 | k+1,du,kg=>(pX 8 (aw.length:Int) (0:Int)).bind fun x8=>(aC.l3 m aw du m ([]:List (List Int × Int)) x8 (0:Int)).bind fun iG=>match iG with | (gE,dH,r8)=>if ((gE.length:Int)==(i64.wrap (kg+(1:Int))))=true then (some (.inl du)) else (aC.l2 m aw k dH (i64.wrap ((gE.length:Int) - (1:Int))))
def aC.f (m:Nat)(aw:List ah):Option ((List Int)):=(pX 8 (aw.length:Int) (0:Int)).bind fun x0=>(aC.l0 m x0 m x0 (0:Int)).bind fun bo=>match bo with | (cO,x2)=>(gA.f m cO (fun y0 y1=>eX.f m y0 y1 aw)).bind fun x3=>(pX 8 (aw.length:Int) (0:Int)).bind fun x4=>(aC.l1 m aw cO x3 m x4 (0:Int) (0:Int)).bind fun kY=>match kY with | (fC,many1,x7)=>(aC.l2 m aw m fC many1).bind fun IT=>match IT with | .inl r3=>some r3 | .inr (ov,RL)=>none
def aC.fin (L:Mem)(r:(List Int))(s:St):Prop:=∃av,aP Tryz.prog (s.open q9) Tryz.f96.results.toList=some av∧fi s.h av (aa.fz r)
def XE (cf:CallF)(m:Nat):Prop:=∀(aw:List ah) (r:(List Int)),aC.f m aw=some r→∀h xs,aX b5 h xs [af.fz aw]→cf 96 xs h=some (aa.fz r,h)
section
variable {cf:CallF}{m:Nat}
theorem aC.cd (L:Mem)(aw:List ah)(aV:Nat)(x0:List Int)   : b8 Tryz.prog cf q9 m (sub [1,1,0,1,0,0] (br Tryz.f96)) (fun k (σ:(List Int) × Int)=>aC.l0 m x0 k σ.1 σ.2) (fun σ s=>match σ with | (gC,x1)=>∃ca h2,s=⟨.any :: .ptr aV 0 :: .any :: .rs ca 0 gC.length 1::qM (.int .i64 (x0.length:Int) :: .int .i64 x1::HZ []),[none],h2⟩∧Has h2 ((ca,.sl gC.length 1 (aa.l gC))::(aV,.ob [af.fz aw])::L)) (fun out e s=>(e = .exit 0∧∃gC x1,(gC,x1)=out∧∃si zm IW ca h2,s=⟨.any :: .ptr aV 0 :: .any :: .rs ca 0 gC.length 1::qM (si::zm::IW::KO []),[none],h2⟩∧Has h2 ((ca,.sl gC.length 1 (aa.l gC))::(aV,.ob [af.fz aw])::L))):=by
 refine iO (fun _=>rfl) ?_
 rintro k ⟨gC,x1⟩ s out ⟨ca,h2,rfl,o2⟩ H
 have H:aC.l0 m x0 (k+1) gC x1=some out:=H
 refine q1 <| qq <| qc H (fun c0 H=>?_) (fun c0 H=>?_)
 ·refine qk <| qq <| qb 1 <| qq <| q0 ?_
  obtain⟨v0,e3,H⟩:=aS H
  obtain⟨h3,e4,o3⟩:=en (P:=Tryz.prog) (tf:=3) (E:=aa) (l:=gC) (q:=0) (v:=x1) (x:=.int .i64 x1) o2 rfl Z3 e3 rfl rfl
  exact qr [.v 3 (aJ (k:=.i64) (E:=aa) (l:=gC) (q:=0) dt o2 rfl e3),.w 4 e4] <| q0 <| ⟨(gC.set x1.toNat x1,i64.wrap (x1+(1:Int))),⟨ca,h3,(acq (b:=⟨.any :: .ptr aV 0 :: .any :: .rs ca 0 gC.length 1::qM (.int .i64 (x0.length:Int) :: .int .i64 (i64.wrap (x1+(1:Int)))::HZ []),[none],h3⟩) (by kernel_rfl) (by simp only [abF])),(by have o:Has h3 ((ca,.sl gC.length 1 (aa.l (gC.set x1.toNat x1)))::(aV,.ob [af.fz aw])::L):=o3; simpa only [abF] using o)⟩,H⟩
 ·exact qx 0 <| ⟨rfl,gC,x1,oi H,.int .i64 (x0.length:Int),.int .i64 x1,.bool (decide (x1<(x0.length:Int))),ca,h2,by kernel_rfl,o2⟩
theorem aC.gN (L:Mem)(aw:List ah)(aV:Nat)(dj:Nat)(cO:List Int)(dj:Nat)(x3:(List Int))  (Bd:Lg cf m):b8 Tryz.prog cf q9 m (sub [1,1,1,1,1,1,0,1,0,0] (br Tryz.f96)) (fun k (σ:(List Int) × Int × Int)=>aC.l1 m aw cO x3 k σ.1 σ.2.1 σ.2.2) (fun σ s=>match σ with | (bZ,fG,x5)=>∃gd h7,s=⟨.any :: .ptr aV 0 :: .any :: .rs dj 0 cO.length 1 :: .any :: .rs gd 0 bZ.length 1 :: .int .i64 fG::qM (.rs dj 0 cO.length 1 :: .int .i64 (cO.length:Int) :: .int .i64 x5::oQ []),[none],h7⟩∧Has h7 ((gd,.sl bZ.length 1 (aa.l bZ))::(dj,.sl cO.length 1 (aa.l x3))::(aV,.ob [af.fz aw])::L)) (fun out e s=>(e = .exit 2∧∃bZ fG x5,(bZ,fG,x5)=out∧∃zk Is It Iu IX gd h7,s=⟨.any :: .ptr aV 0 :: .any::zk :: .any :: .rs gd 0 bZ.length 1 :: .int .i64 fG::qM (Is::It::Iu::IX::qL []),[none],h7⟩∧Has h7 ((gd,.sl bZ.length 1 (aa.l bZ))::(dj,.sl cO.length 1 (aa.l x3))::(aV,.ob [af.fz aw])::L))):=by
 refine iO (fun _=>rfl) ?_
 rintro k ⟨bZ,fG,x5⟩ s out ⟨gd,h7,rfl,o7⟩ H
 have H:aC.l1 m aw cO x3 (k+1) bZ fG x5=some out:=H
 refine q1 <| qq <| qc H (fun c1 H=>?_) (fun c1 H=>?_)
 ·refine qk <| qq <| qb 3 <| qq ?_
  obtain⟨v1,lg,H⟩:=aS H
  refine qr [.v 1 (aJ (k:=.i64) (E:=aa) (l:=x3) (q:=1) dt o7 rfl lg),.v 2 (bm  (E:=aa) (l:=x3) (q:=1) o7 rfl A3 lg rfl)] <| qq <| qq ?_
  rcases eu H with⟨c2,H⟩| ⟨c2,H⟩
  ·obtain⟨v2,mf,H⟩:=aS H
   obtain⟨v3,nI,H⟩:=aS H
   obtain⟨v4,oJ,H⟩:=aS H
   obtain⟨x6,uc,H⟩:=aS H
   refine qr [.b 2 c2,.v 3 (show b7 Tryz.prog h7 23 (.ptr aV 0)=some (af.fz aw) from dO (q:=2) (cs:=[af.fz aw]) o7 rfl (by kernel_rfl)),.v 7 (aJ (k:=.i64) (E:=aa) (l:=x3) (q:=1) dt o7 rfl mf),.v 8 (bm  (E:=aa) (l:=x3) (q:=1) o7 rfl A3 mf rfl),.v 9 (bO (k:=.i64) (E:=af) (l:=aw) kI nI),.v 10 (fm  (E:=af) (l:=aw) h7 rA rB nI),.v 11 (show b7 Tryz.prog h7 23 (.ptr aV 0)=some (af.fz aw) from dO (q:=2) (cs:=[af.fz aw]) o7 rfl (by kernel_rfl)),.v 13 (bO (k:=.i64) (E:=af) (l:=aw) kI oJ),.v 14 (fm  (E:=af) (l:=aw) h7 rA rB oJ),.a 15 (Bd _ _ _ uc h7 _ (er (ab (bT (ab (aA) (ab (aA) (ab (bH) (ab (cQ (E:=aa)) (aq)))))) (ab (bT (ab (aA) (ab (aA) (ab (bH) (ab (cQ (E:=aa)) (aq)))))) (aq)))))] ?_
   refine qc H (fun c3 H=>?_) (fun c3 H=>?_)
   ·refine q0 ?_
    obtain⟨v5,wD,H⟩:=aS H
    obtain⟨h8,wE,o8⟩:=en (P:=Tryz.prog) (tf:=3) (E:=aa) (l:=bZ) (q:=0) (v:=(i64.wrap (fG+(1:Int)))) (x:=.int .i64 (i64.wrap (fG+(1:Int)))) o7 rfl Z3 wD rfl rfl
    exact qr [.v 3 (aJ (k:=.i64) (E:=aa) (l:=bZ) (q:=0) dt o7 rfl wD),.w 4 wE] <| q0 <| ⟨(bZ.set v1.toNat (i64.wrap (fG+(1:Int))),i64.wrap (fG+(1:Int)),i64.wrap (x5+(1:Int))),⟨gd,h8,(acq (b:=⟨.any :: .ptr aV 0 :: .any :: .rs dj 0 cO.length 1 :: .any :: .rs gd 0 bZ.length 1 :: .int .i64 (i64.wrap (fG+(1:Int)))::qM (.rs dj 0 cO.length 1 :: .int .i64 (cO.length:Int) :: .int .i64 (i64.wrap (x5+(1:Int)))::oQ []),[none],h8⟩) (by kernel_rfl) (by simp only [abF])),(by have o:Has h8 ((gd,.sl bZ.length 1 (aa.l (bZ.set v1.toNat (i64.wrap (fG+(1:Int))))))::(dj,.sl cO.length 1 (aa.l x3))::(aV,.ob [af.fz aw])::L):=o8; simpa only [abF] using o)⟩,H⟩
   ·refine qk ?_
    obtain⟨v6,zh,H⟩:=aS H
    obtain⟨h9,EI,o9⟩:=en (P:=Tryz.prog) (tf:=3) (E:=aa) (l:=bZ) (q:=0) (v:=fG) (x:=.int .i64 fG) o7 rfl Z3 zh rfl rfl
    exact qr [.v 3 (aJ (k:=.i64) (E:=aa) (l:=bZ) (q:=0) dt o7 rfl zh),.w 4 EI] <| q0 <| ⟨(bZ.set v1.toNat fG,fG,i64.wrap (x5+(1:Int))),⟨gd,h9,(acq (b:=⟨.any :: .ptr aV 0 :: .any :: .rs dj 0 cO.length 1 :: .any :: .rs gd 0 bZ.length 1 :: .int .i64 fG::qM (.rs dj 0 cO.length 1 :: .int .i64 (cO.length:Int) :: .int .i64 (i64.wrap (x5+(1:Int)))::oQ []),[none],h9⟩) (by kernel_rfl) (by simp only [abF])),(by have o:Has h9 ((gd,.sl bZ.length 1 (aa.l (bZ.set v1.toNat fG)))::(dj,.sl cO.length 1 (aa.l x3))::(aV,.ob [af.fz aw])::L):=o9; simpa only [abF] using o)⟩,H⟩
  ·refine qr [.b 2 c2] <| Eb <| qk ?_
   obtain⟨v7,zx,H⟩:=aS H
   obtain⟨h10,EH,qU⟩:=en (P:=Tryz.prog) (tf:=3) (E:=aa) (l:=bZ) (q:=0) (v:=fG) (x:=.int .i64 fG) o7 rfl Z3 zx rfl rfl
   exact qr [.v 3 (aJ (k:=.i64) (E:=aa) (l:=bZ) (q:=0) dt o7 rfl zx),.w 4 EH] <| q0 <| ⟨(bZ.set v1.toNat fG,fG,i64.wrap (x5+(1:Int))),⟨gd,h10,(acq (b:=⟨.any :: .ptr aV 0 :: .any :: .rs dj 0 cO.length 1 :: .any :: .rs gd 0 bZ.length 1 :: .int .i64 fG::qM (.rs dj 0 cO.length 1 :: .int .i64 (cO.length:Int) :: .int .i64 (i64.wrap (x5+(1:Int)))::oQ []),[none],h10⟩) (by kernel_rfl) (by simp only [abF])),(by have o:Has h10 ((gd,.sl bZ.length 1 (aa.l (bZ.set v1.toNat fG)))::(dj,.sl cO.length 1 (aa.l x3))::(aV,.ob [af.fz aw])::L):=qU; simpa only [abF] using o)⟩,H⟩
 ·exact qx 2 <| ⟨rfl,bZ,fG,x5,oi H,.rs dj 0 cO.length 1,.rs dj 0 cO.length 1,.int .i64 (cO.length:Int),.int .i64 x5,.bool (decide (x5<(cO.length:Int))),gd,h7,(acq (b:=⟨.any :: .ptr aV 0 :: .any :: .rs dj 0 cO.length 1 :: .any :: .rs gd 0 bZ.length 1 :: .int .i64 fG::qM (.rs dj 0 cO.length 1 :: .int .i64 (cO.length:Int) :: .int .i64 x5 :: .bool (decide (x5<(cO.length:Int)))::qL []),[none],h7⟩) (by kernel_rfl) (by simp only [abF])),(by have o:Has h7 ((gd,.sl bZ.length 1 (aa.l bZ))::(dj,.sl cO.length 1 (aa.l x3))::(aV,.ob [af.fz aw])::L):=o7; simpa only [abF] using o)⟩
theorem aC.vL (L:Mem)(aw:List ah)(aV:Nat)(gF:Nat)(du:List Int)(kg:Int)(gF:Nat)(jb:Nat)(b9:Nat)(eV:List (List Int × Int))(cq:List Int)(x9:Int)(b9:Nat)(v8:ah)(fW:Nat)   : b8 Tryz.prog cf q9 m (sub [1,1,1,1,1,1,1,0,0,0,1,1,0,1,0,0,1,1,0,0,1,1,0,1,0,0] (br Tryz.f96)) (fun k (σ:(List Int) × Int)=>aC.l4 m du v8 k σ.1 σ.2) (fun σ s=>match σ with | (k0,mT)=>∃h18,s=⟨.any :: .ptr aV 0::j5 (.rs gF 0 du.length 1 :: .int .i64 kg :: .any :: .any :: .mp jb :: .rs b9 0 cq.length 1 :: .int .i64 x9 :: .any :: .ptr fW 0::qL (af.fz aw :: .int .i64 (aw.length:Int) :: .int .i64 x9 :: .any::aa.fz v8.args :: .int .i64 (v8.args.length:Int) :: .int .i64 mT::j5 [])),[none],h18⟩∧Has h18 ((fW,.sl 9 1 (aa.l k0))::(b9,.sl cq.length 1 (aa.l cq))::(jb,.mp (wP eV))::(gF,.sl du.length 1 (aa.l du))::(aV,.ob [af.fz aw])::L)) (fun out e s=>(e = .exit 8∧∃k0 mT,(k0,mT)=out∧∃U2 U3 U4 U5 h18,s=⟨.any :: .ptr aV 0::j5 (.rs gF 0 du.length 1 :: .int .i64 kg :: .any :: .any :: .mp jb :: .rs b9 0 cq.length 1 :: .int .i64 x9 :: .any :: .ptr fW 0::qL [af.fz aw,.int .i64 (aw.length:Int),.int .i64 x9,.any,U2,U3,U4,U5,.any,.any]),[none],h18⟩∧Has h18 ((fW,.sl 9 1 (aa.l k0))::(b9,.sl cq.length 1 (aa.l cq))::(jb,.mp (wP eV))::(gF,.sl du.length 1 (aa.l du))::(aV,.ob [af.fz aw])::L))):=by
 refine iO (fun _=>rfl) ?_
 rintro k ⟨k0,mT⟩ s out ⟨h18,rfl,ud⟩ H
 have H:aC.l4 m du v8 (k+1) k0 mT=some out:=H
 refine q1 <| qq <| qc H (fun c6 H=>?_) (fun c6 H=>?_)
 ·refine qk <| qq <| qb 9 <| qq ?_
  obtain⟨v10,Lk,H⟩:=aS H
  refine qr [.v 1 (bO (k:=.i64) (E:=aa) (l:=v8.args) dt Lk),.v 2 (cF  (E:=aa) (l:=v8.args) h18 A3 Lk rfl)] ?_
  obtain⟨v11,Ll,H⟩:=aS H
  obtain⟨v12,Lm,H⟩:=aS H
  obtain⟨h19,Og,Lp⟩:=en (P:=Tryz.prog) (tf:=3) (E:=aa) (l:=k0) (q:=0) (v:=(i64.wrap (v11+(1:Int)))) (x:=.int .i64 (i64.wrap (v11+(1:Int)))) ud rfl Z3 Lm rfl rfl
  exact qr [.v 4 (aJ (k:=.i64) (E:=aa) (l:=du) (q:=3) dt ud rfl Ll),.v 5 (bm  (E:=aa) (l:=du) (q:=3) ud rfl A3 Ll rfl),.v 7 (NF (k:=.i64) (q:=0) (l:=k0) xM ud rfl Lm),.w 8 Og] <| q0 <| ⟨(k0.set (i64.wrap (mT+(1:Int))).toNat (i64.wrap (v11+(1:Int))),i64.wrap (mT+(1:Int))),⟨h19,by kernel_rfl,Lp⟩,H⟩
 ·exact qx 8 <| ⟨rfl,k0,mT,oi H,aa.fz v8.args,.int .i64 (v8.args.length:Int),.int .i64 mT,.bool (decide (mT<(v8.args.length:Int))),h18,by kernel_rfl,ud⟩
theorem aC.vK (L:Mem)(aw:List ah)(aV:Nat)(gF:Nat)(du:List Int)(kg:Int)(gF:Nat)(jb:Nat)   : b8 Tryz.prog cf q9 m (sub [1,1,1,1,1,1,1,0,0,0,1,1,0,1,0,0] (br Tryz.f96)) (fun k (σ:(List (List Int × Int)) × (List Int) × Int)=>aC.l3 m aw du k σ.1 σ.2.1 σ.2.2) (fun σ s=>match σ with | (eV,cq,x9)=>∃b9 h15,s=⟨.any :: .ptr aV 0::j5 (.rs gF 0 du.length 1 :: .int .i64 kg :: .any :: .any :: .mp jb :: .rs b9 0 cq.length 1::u5 (af.fz aw :: .int .i64 (aw.length:Int) :: .int .i64 x9::zV [])),[none],h15⟩∧Has h15 ((b9,.sl cq.length 1 (aa.l cq))::(jb,.mp (wP eV))::(gF,.sl du.length 1 (aa.l du))::(aV,.ob [af.fz aw])::L)) (fun out e s=>(e = .exit 6∧∃eV cq x9,(eV,cq,x9)=out∧∃U6 U7 U8 Va b9 h15,s=⟨.any :: .ptr aV 0::j5 (.rs gF 0 du.length 1 :: .int .i64 kg :: .any :: .any :: .mp jb :: .rs b9 0 cq.length 1::u5 (U6::U7::U8::Va::GR [])),[none],h15⟩∧Has h15 ((b9,.sl cq.length 1 (aa.l cq))::(jb,.mp (wP eV))::(gF,.sl du.length 1 (aa.l du))::(aV,.ob [af.fz aw])::L))):=by
 refine iO (fun _=>rfl) ?_
 rintro k ⟨eV,cq,x9⟩ s out ⟨b9,h15,rfl,mA⟩ H
 have H:aC.l3 m aw du (k+1) eV cq x9=some out:=H
 refine q1 <| qq <| qc H (fun c5 H=>?_) (fun c5 H=>?_)
 ·refine qk <| qq <| qb 7 <| qq ?_
  obtain⟨v8,IE,H⟩:=aS H
  refine qr [.v 1 (bO (k:=.i64) (E:=af) (l:=aw) kI IE),.v 2 (fm  (E:=af) (l:=aw) h15 rA rB IE)] <| qq ?_
  obtain⟨v9,IF,H⟩:=aS H
  obtain⟨fW,h16,MA,zw⟩:=KN (cs:=[.int .i64 (0:Int),.int .i64 (0:Int),.int .i64 (0:Int),.int .i64 (0:Int),.int .i64 (0:Int),.int .i64 (0:Int),.int .i64 (0:Int),.int .i64 (0:Int),.int .i64 (0:Int)]) (l:=[(0:Int),(0:Int),(0:Int),(0:Int),(0:Int),(0:Int),(0:Int),(0:Int),(0:Int)]) mA (by kernel_rfl)
  obtain⟨h17,Lj,xS⟩:=NG (q:=0) (l:=([(0:Int),(0:Int),(0:Int),(0:Int),(0:Int),(0:Int),(0:Int),(0:Int),(0:Int)])) (l':=[i64.wrap (v9+(1:Int)),(0:Int),(0:Int),(0:Int),(0:Int),(0:Int),(0:Int),(0:Int),(0:Int)]) (x:=.agg [.int .i64 (i64.wrap (v9+(1:Int))),.int .i64 (0:Int),.int .i64 (0:Int),.int .i64 (0:Int),.int .i64 (0:Int),.int .i64 (0:Int),.int .i64 (0:Int),.int .i64 (0:Int),.int .i64 (0:Int)]) xM zw rfl rfl rfl
  refine qr [.v 2 (aJ (k:=.i64) (E:=aa) (l:=du) (q:=2) dt mA rfl IF),.v 3 (bm  (E:=aa) (l:=du) (q:=2) mA rfl A3 IF rfl),.a 6 MA,.w 7 Lj] <| qq <| qq <| q0 <| qb 8 ?_
  obtain⟨vz,J8,H⟩:=aS H
  refine ql (aC.vL L aw aV gF du kg gF jb b9 eV cq x9 b9 v8 fW   ([i64.wrap (v9+(1:Int)),(0:Int),(0:Int),(0:Int),(0:Int),(0:Int),(0:Int),(0:Int),(0:Int)],(0:Int)) _ _ ⟨h17,by kernel_rfl,xS⟩ J8) ?_
  rintro e s ⟨rfl,k1,C0,rfl,g13,g14,g15,g16,h20,rfl,wX⟩
  try dsimp only at H
  refine qq <| qq ?_
  obtain⟨r0,Pp,H⟩:=aS H
  refine qr [.v 1 (show b7 Tryz.prog h20 121 (.ptr fW 0)=some (.agg (aa.l k1)) from yZ (q:=0) (l:=k1) xM wX rfl),.v 2 (show fD Tryz.prog h20 119 (.mp jb) (.agg (aa.l k1)) true=some (.tup [.int .i64 r0.1,.bool r0.2]) from (NC (q:=2) (l:=eV) (k:=k1) Eh wX rfl Pp).1)] <| qq <| q0 <| qc H (fun c7 H=>?_) (fun c7 H=>?_)
  ·obtain⟨Ow,Pv,H⟩:=aS H
   obtain⟨h21,Rm,GX⟩:=T9 (q:=2) (l:=eV) (k:=k1) (v:=(eV.length:Int)) Eh wX rfl Pv
   refine qr [.v 1 (show b7 Tryz.prog h20 121 (.ptr fW 0)=some (.agg (aa.l k1)) from yZ (q:=0) (l:=k1) xM wX rfl),.v 3 (show uq Tryz.prog h20 119 (.mp jb)=some (.int .i64 (eV.length:Int)) from ND (q:=2) (l:=eV) Ik wX rfl),.w 4 Rm] ?_
   obtain⟨r1,Rn,H⟩:=aS H
   obtain⟨Lh,Oh,H⟩:=aS H
   obtain⟨h22,Pt,GY⟩:=en (P:=Tryz.prog) (tf:=3) (E:=aa) (l:=cq) (q:=1) (v:=r1.1) (x:=.int .i64 r1.1) GX rfl Z3 Oh rfl rfl
   refine qr [.v 3 (show b7 Tryz.prog h21 121 (.ptr fW 0)=some (.agg (aa.l k1)) from yZ (q:=0) (l:=k1) xM GX rfl),.v 4 (show fD Tryz.prog h21 119 (.mp jb) (.agg (aa.l k1)) false=some (.int .i64 r1.1) from (NC (q:=2) (l:=Ow) (k:=k1) Eh GX rfl Rn).2),.v 5 (aJ (k:=.i64) (E:=aa) (l:=cq) (q:=1) dt GX rfl Oh),.w 6 Pt] ?_
   have IL:Has h22 ((b9,.sl cq.length 1 (aa.l (cq.set x9.toNat r1.1)))::(jb,.mp (wP Ow))::(gF,.sl du.length 1 (aa.l du))::(aV,.ob [af.fz aw])::L):=Has.del GY 0
   exact q0 <| ⟨(Ow,cq.set x9.toNat r1.1,i64.wrap (x9+(1:Int))),⟨b9,h22,(acq (b:=⟨.any :: .ptr aV 0::j5 (.rs gF 0 du.length 1 :: .int .i64 kg :: .any :: .any :: .mp jb :: .rs b9 0 cq.length 1::u5 (af.fz aw :: .int .i64 (aw.length:Int) :: .int .i64 (i64.wrap (x9+(1:Int)))::zV [])),[none],h22⟩) (by kernel_rfl) (by simp only [abF])),(by have o:Has h22 ((b9,.sl cq.length 1 (aa.l (cq.set x9.toNat r1.1)))::(jb,.mp (wP Ow))::(gF,.sl du.length 1 (aa.l du))::(aV,.ob [af.fz aw])::L):=IL; simpa only [abF] using o)⟩,H⟩
  ·refine qk ?_
   obtain⟨r2,Rj,H⟩:=aS H
   obtain⟨Cd,Ln,H⟩:=aS H
   obtain⟨h23,MB,Pu⟩:=en (P:=Tryz.prog) (tf:=3) (E:=aa) (l:=cq) (q:=1) (v:=r2.1) (x:=.int .i64 r2.1) wX rfl Z3 Ln rfl rfl
   refine qr [.v 3 (show b7 Tryz.prog h20 121 (.ptr fW 0)=some (.agg (aa.l k1)) from yZ (q:=0) (l:=k1) xM wX rfl),.v 4 (show fD Tryz.prog h20 119 (.mp jb) (.agg (aa.l k1)) false=some (.int .i64 r2.1) from (NC (q:=2) (l:=eV) (k:=k1) Eh wX rfl Rj).2),.v 5 (aJ (k:=.i64) (E:=aa) (l:=cq) (q:=1) dt wX rfl Ln),.w 6 MB] ?_
   have ot:Has h23 ((b9,.sl cq.length 1 (aa.l (cq.set x9.toNat r2.1)))::(jb,.mp (wP eV))::(gF,.sl du.length 1 (aa.l du))::(aV,.ob [af.fz aw])::L):=Has.del Pu 0
   exact q0 <| ⟨(eV,cq.set x9.toNat r2.1,i64.wrap (x9+(1:Int))),⟨b9,h23,(acq (b:=⟨.any :: .ptr aV 0::j5 (.rs gF 0 du.length 1 :: .int .i64 kg :: .any :: .any :: .mp jb :: .rs b9 0 cq.length 1::u5 (af.fz aw :: .int .i64 (aw.length:Int) :: .int .i64 (i64.wrap (x9+(1:Int)))::zV [])),[none],h23⟩) (by kernel_rfl) (by simp only [abF])),(by have o:Has h23 ((b9,.sl cq.length 1 (aa.l (cq.set x9.toNat r2.1)))::(jb,.mp (wP eV))::(gF,.sl du.length 1 (aa.l du))::(aV,.ob [af.fz aw])::L):=ot; simpa only [abF] using o)⟩,H⟩
 ·exact qx 6 <| ⟨rfl,eV,cq,x9,oi H,af.fz aw,.int .i64 (aw.length:Int),.int .i64 x9,.bool (decide (x9<(aw.length:Int))),b9,h15,by kernel_rfl,mA⟩
theorem aC.mj (L:Mem)(aw:List ah)(aV:Nat)   : b8 Tryz.prog cf q9 m (sub [1,1,1,1,1,1,1,0,0] (br Tryz.f96)) (fun k (σ:(List Int) × Int)=>aC.l2 m aw k σ.1 σ.2) (fun σ s=>match σ with | (du,kg)=>∃g8 g9 g10 g11 g12 gF h12,s=⟨.any :: .ptr aV 0 :: .any::g8 :: .any :: .rs gF 0 du.length 1 :: .int .i64 kg::qM (g9::g10::g11::g12::qL []),[none],h12⟩∧Has h12 ((gF,.sl du.length 1 (aa.l du))::(aV,.ob [af.fz aw])::L)) (fun out e s=>(e = .exit 4∧∃du kg,.inr (du,kg)=out∧∃tw zk vk ze Is It Iu IX gF h12,s=⟨.any::tw :: .any::zk :: .any::vk::ze::qM (Is::It::Iu::IX::qL []),[none],h12⟩∧Has h12 ((gF,.sl du.length 1 (aa.l du))::(aV,.ob [af.fz aw])::L))∨(e = .ret∧∃r,.inl r=out∧aC.fin L r s)):=by
 refine iO (fun _=>rfl) ?_
 rintro k ⟨du,kg⟩ s out ⟨g8,g9,g10,g11,g12,gF,h12,rfl,lP⟩ H
 have H:aC.l2 m aw (k+1) du kg=some out:=H
 refine qb 5 <| qq ?_
 obtain⟨jb,h13,GW,vH⟩:=yY lP
 refine qr [.m 0 GW] <| qq ?_
 obtain⟨x8,IG,H⟩:=aS H
 obtain⟨kB,h14,GV,xR⟩:=lL (P:=Tryz.prog) (E:=aa) (z:=(0:Int)) (zv:=.int .i64 (0:Int)) dt vH 3 rfl rfl rfl rfl IG
 refine qr [.v 0 (show b7 Tryz.prog h13 23 (.ptr aV 0)=some (af.fz aw) from dO (q:=2) (cs:=[af.fz aw]) vH rfl (by kernel_rfl)),.a 2 GV] <| qq <| qq <| qr [.v 0 (show b7 Tryz.prog h14 23 (.ptr aV 0)=some (af.fz aw) from dO (q:=3) (cs:=[af.fz aw]) xR rfl (by kernel_rfl))] <| qb 6 ?_
 obtain⟨iG,MC,H⟩:=aS H
 refine ql (aC.vK L aw aV gF du kg gF jb   (([]:List (List Int × Int)),x8,(0:Int)) _ _ ⟨kB,h14,by kernel_rfl,xR⟩ MC) ?_
 rintro e s ⟨rfl,gE,dH,r8,rfl,g17,g18,g19,g20,gG,h24,rfl,J9⟩
 try dsimp only at H
 refine qq <| qq <| qr [.v 1 (show uq Tryz.prog h24 119 (.mp jb)=some (.int .i64 (gE.length:Int)) from ND (q:=1) (l:=gE) Ik J9 rfl)] <| qc H (fun c8 H=>?_) (fun c8 H=>?_)
 ·refine q1 ?_
  have IM:Has h24 ((gG,.sl dH.length 1 (aa.l dH))::(jb,.mp (wP gE))::(gF,.sl du.length 1 (aa.l du))::L):=Has.del J9 3
  have Oi:Has h24 ((gG,.sl dH.length 1 (aa.l dH))::(gF,.sl du.length 1 (aa.l du))::L):=Has.del IM 1
  have Oj:Has h24 ((gF,.sl du.length 1 (aa.l du))::L):=Has.del Oi 0
  exact qt <| ac3 (⟨rfl,_,oi H,bX (.rs gF 0 du.length 1) h24 (bW (xA (E:=aa) (l:=du) (q:=0) Oj rfl (fun _=>rfl)))⟩)
 ·refine qk <| qr [.v 2 (show uq Tryz.prog h24 119 (.mp jb)=some (.int .i64 (gE.length:Int)) from ND (q:=1) (l:=gE) Ik J9 rfl)] ?_
  have Rr:Has h24 ((gG,.sl dH.length 1 (aa.l dH))::(jb,.mp (wP gE))::(aV,.ob [af.fz aw])::L):=Has.del J9 2
  have Rs:Has h24 ((gG,.sl dH.length 1 (aa.l dH))::(aV,.ob [af.fz aw])::L):=Has.del Rr 1
  exact⟨(dH,i64.wrap ((gE.length:Int) - (1:Int))),⟨.any,.any,.any,.any,.any,gG,h24,by kernel_rfl,Rs⟩,H⟩
theorem re {a7:FuncId→cu}(ha:a7 96=q9)(Bd:Lg cf m)(RM:RH cf m)(RN:Rb cf m)(aw:List ah)(h:AHeap)(L:Mem)  (o:Has h (L)){out:(List Int)}(H:aC.f m aw=some out) :
  ∃r h',bj Tryz.prog a7 cf m 96 [af.fz aw] h=some (r,h')∧fi h' r (aa.fz out):=by
 refine au (fn:=Tryz.f96) ha Tryz.func96 (by kernel_rfl) (by kernel_rfl) ?_
 refine aK (Q:=fun s=>aC.fin L out s) (fun _ _ h=>h) ?_
 have H:_=some out:=H
 unfold aC.f at H
 show dR _ cf q9 m _ ⟨af.fz aw::Ud [],[none],h⟩ _
 refine qq ?_
 obtain⟨aV,h0,e0,o0⟩:=km (cs:=[af.fz aw]) o (by kernel_rfl)
 refine qr [.a 0 e0] <| qq ?_
 obtain⟨x0,e1,H⟩:=aS H
 obtain⟨dA,h1,e2,o1⟩:=lL (P:=Tryz.prog) (E:=aa) (z:=(0:Int)) (zv:=.int .i64 (0:Int)) dt o0 3 rfl rfl rfl rfl e1
 refine qr [.v 0 (show b7 Tryz.prog h0 23 (.ptr aV 0)=some (af.fz aw) from dO (q:=0) (cs:=[af.fz aw]) o0 rfl (by kernel_rfl)),.a 2 e2] <| qq <| qq <| q0 <| qb 0 ?_
 obtain⟨bo,e5,H⟩:=aS H
 refine ql (aC.cd L aw aV x0   (x0,(0:Int)) _ _ ⟨dA,h1,by kernel_rfl,o1⟩ e5) ?_
 rintro e s ⟨rfl,cO,x2,rfl,g0,g1,g2,dj,h4,rfl,o4⟩
 try dsimp only at H
 refine qq ?_
 obtain⟨x3,e6,H⟩:=aS H
 obtain⟨h5,e7,o5⟩:=RM _ _ _ e6 h4 _ _ _ (o4) 115 [.ptr aV 0] [.fp [af.fz aw] 0] rfl (fun h' Lf y0 y1 r hr hx=>RN y0 y1 _ r hr h' Lf hx) (fun h' K' o'=>vf (ab (jT (q:=(K'.length+0)) o' (HW rfl) (ab (cQ (E:=af)) (aq))) (aq))) (fun h_=>vf (ab (dJ (pure_cons (bG.aI (E:=af) (l:=aw)) (pure_nil))) (aq))) [.rs dj 0 cO.length 1,.fn 115 [.ptr aV 0]] (aR (rfl) (aR (rfl) (eO)))
 refine qr [.a 2 e7] <| qq ?_
 obtain⟨x4,e8,H⟩:=aS H
 obtain⟨eP,h6,e9,o6⟩:=lL (P:=Tryz.prog) (E:=aa) (z:=(0:Int)) (zv:=.int .i64 (0:Int)) dt o5 3 rfl rfl rfl rfl e8
 refine qr [.v 0 (show b7 Tryz.prog h5 23 (.ptr aV 0)=some (af.fz aw) from dO (q:=1) (cs:=[af.fz aw]) o5 rfl (by kernel_rfl)),.a 2 e9] <| qq <| q0 <| qq <| qq <| q0 <| qb 2 ?_
 obtain⟨kY,Gd,H⟩:=aS H
 refine ql (aC.gN L aw aV dj cO dj x3  Bd (x4,(0:Int),(0:Int)) _ _ ⟨eP,h6,(acq (b:=⟨.any :: .ptr aV 0 :: .any :: .rs dj 0 cO.length 1 :: .any :: .rs eP 0 x4.length 1 :: .int .i64 (0:Int)::qM (.rs dj 0 cO.length 1 :: .int .i64 (cO.length:Int) :: .int .i64 (0:Int)::oQ []),[none],h6⟩) (by kernel_rfl) (by simp only [abF])),(by have o:Has h6 ((eP,.sl x4.length 1 (aa.l x4))::(dj,.sl cO.length 1 (aa.l x3))::(aV,.ob [af.fz aw])::L):=o6; simpa only [abF] using o)⟩ Gd) ?_
 rintro e s ⟨rfl,fC,many1,x7,rfl,g3,g4,g5,g6,g7,fS,h11,rfl,oR⟩
 try dsimp only at H
 refine qb 4 ?_
 have s6:Has h11 ((fS,.sl fC.length 1 (aa.l fC))::(aV,.ob [af.fz aw])::L):=Has.del oR 1
 obtain⟨IT,Pq,H⟩:=aS H
 refine ql (aC.mj L aw aV   (fC,many1) _ _ ⟨g3,g4,g5,g6,g7,fS,h11,by kernel_rfl,s6⟩ Pq) ?_
 rintro e s (⟨rfl,ov,RL,rfl,g21,g22,g23,g24,g25,g26,g27,g28,fR,h25,rfl,XF⟩| ⟨rfl,r3,rfl,qS⟩)
 ·try dsimp only at H
  cases H
 ·try dsimp only at H
  obtain rfl:=oi H
  exact⟨.inl rfl,qS⟩
end
end Go.Proofs.YtifafejidnjckaaGreat
namespace Go.Proofs.YtifafejidnjckaaGreat
open Go Go.R
open Go.IntKind (i64 u64 u8 u32)
end Go.Proofs.YtifafejidnjckaaGreat
namespace Go.Proofs.YtifafejidnjckaaGreat
open Go Go.R
open Go.IntKind (i64 u64 u8 u32)
def ES:cu:=gj [0,1,2,3,4,5,6] [2,4000005] [121,113,97,65,1,25,91,123] [] [(0,[(2,some 0,4)])]
def eF.f (m:Nat)(t0:aZ):Option (aZ):=(aC.f m t0.nodes).bind fun x0=>(bp.f m m t0.root ([]:List (Int × Int)) x0 (aZ.mk ([]:List ah) (0:Int)) t0).bind fun x1=>some x1.2.2
def eF.fin (L:Mem)  (r:aZ)(s:St):Prop:=∃(ez:Nat) (dk:List Nat),aP Tryz.prog (s.open ES) Tryz.f62.results.toList=some (.agg [.rs ez 0 r.nodes.length 4,.int .i64 r.root])∧Has s.h ((ez,.sl r.nodes.length 4 (db.l (aY r.nodes dk)))::(eR r.nodes dk++L))
def XG (cf:CallF)(m:Nat):Prop:=∀(t0:aZ) (r:aZ),eF.f m t0=some r→∀h L xs,Has h L→aX b5 h xs [.agg [af.fz t0.nodes,.int .i64 t0.root]]→∃(ez:Nat) (dk:List Nat) (h':AHeap),cf 62 xs h=some (.agg [.rs ez 0 r.nodes.length 4,.int .i64 r.root],h')∧Has h' ((ez,.sl r.nodes.length 4 (db.l (aY r.nodes dk)))::(eR r.nodes dk++L))∧∀j,j<h.next→h.ver j=h'.ver j
section
variable {cf:CallF}{m:Nat}
theorem tM {a7:FuncId→cu}(ha:a7 62=ES)(Vb:XE cf m)(Io:SQ cf m m)(t0:aZ)(h:AHeap)(L:Mem)  (o:Has h (L)){out:aZ}(H:eF.f m t0=some out) :
  ∃r h',bj Tryz.prog a7 cf m 62 [.agg [af.fz t0.nodes,.int .i64 t0.root]] h=some (r,h')∧∃(ez:Nat) (dk:List Nat),r = .agg [.rs ez 0 out.nodes.length 4,.int .i64 out.root]∧Has h' ((ez,.sl out.nodes.length 4 (db.l (aY out.nodes dk)))::(eR out.nodes dk++L)):=by
 refine au (fn:=Tryz.f62) ha Tryz.func62 (by kernel_rfl) (by kernel_rfl) ?_
 refine aK (Q:=fun s=>eF.fin L out s) (fun _ _ ⟨h1,ez,dk,h2,h3⟩=>⟨h1,_,h2,ez,dk,rfl,h3⟩) ?_
 have H:_=some out:=H
 unfold eF.f at H
 show dR _ cf ES m _ ⟨.agg [af.fz t0.nodes,.int .i64 t0.root]::GR [],[none,none],h⟩ _
 refine qq ?_
 obtain⟨aV,h0,e0,o0⟩:=km (cs:=[af.fz t0.nodes,.int .i64 t0.root]) o (by kernel_rfl)
 refine qr [.a 0 e0] ?_
 have o1:Has h0 (((0),.sl (([]:List ah).length) 4 (db.l (aY ([]:List ah) ([]:List Nat))))::(aV,.ob [af.fz t0.nodes,.int .i64 t0.root])::L):=Has.nil o0 4
 refine qq ?_
 obtain⟨x0,e1,H⟩:=aS H
 obtain⟨dA,h1,e2,o2⟩:=km (cs:=[.nils]) o1 (by kernel_rfl)
 obtain⟨h2,e3,o3⟩:=pn (P:=Tryz.prog) (t:=22) (off:=0) (q:=0) (cs:=[.nils]) (gp:=[aa.fz x0]) (x:=aa.fz x0) o2 rfl (by kernel_rfl)
 refine qr [.v 1 (show b7 Tryz.prog h0 23 (.ptr aV 0)=some (af.fz t0.nodes) from dO (q:=1) (cs:=[af.fz t0.nodes,.int .i64 t0.root]) o1 rfl (by kernel_rfl)),.a 2 (Vb _ _ e1 h0 _ (er (ab (cQ (E:=af)) (aq)))),.a 3 e2,.w 4 e3] <| qq ?_
 obtain⟨ca,h3,e4,o4⟩:=yY o3
 obtain⟨dj,h4,e5,o5⟩:=km (cs:=[.nu]) o4 (by kernel_rfl)
 obtain⟨h5,e6,o6⟩:=pn (P:=Tryz.prog) (t:=84) (off:=0) (q:=0) (cs:=[.nu]) (gp:=[.mp ca]) (x:=.mp ca) o5 rfl (by kernel_rfl)
 refine qr [.m 0 e4,.a 1 e5,.w 2 e6] <| qq ?_
 have o7:Has h5 ((((0)),.sl (([]:List ah).length) 4 (af.l ([]:List ah)))::(dj,.ob [.mp ca])::(ca,.mp (mz ([]:List (Int × Int))))::(dA,.ob [aa.fz x0])::((0),.sl (([]:List ah).length) 4 (db.l (aY ([]:List ah) ([]:List Nat))))::(aV,.ob [af.fz t0.nodes,.int .i64 t0.root])::L):=Has.nil o6 4
 obtain⟨eP,h6,e7,o8⟩:=km (cs:=[.rs ((0)) 0 (([]:List ah).length) 4,.int .i64 (0:Int)]) o7 (by kernel_rfl)
 refine qr [.a 0 e7] <| qq ?_
 obtain⟨gd,h7,e8,o9⟩:=km (cs:=[.pY]) o8 (by kernel_rfl)
 refine qr [.a 0 e8] <| qq ?_
 obtain⟨h8,e9,qU⟩:=pn (P:=Tryz.prog) (t:=94) (off:=0) (q:=0) (cs:=[.pY]) (gp:=[.fn 97 [.ptr dj 0,.ptr dA 0,.ptr eP 0,.ptr aV 0,.ptr gd 0]]) (x:=.fn 97 [.ptr dj 0,.ptr dA 0,.ptr eP 0,.ptr aV 0,.ptr gd 0]) o9 rfl (by kernel_rfl)
 refine qr [.w 1 e9] <| qq ?_
 obtain⟨x1,lg,H⟩:=aS H
 obtain⟨fS,dk,h9,mf,oR⟩:=Io _ _ _ _ _ _ lg h8 _ _ _ _ _ _ ([]:List Nat) _ _ ((Has.front (Has.front (Has.front (Has.front (Has.front (Has.front (Has.front (Has.front qU 6 rfl) 1 rfl) 7 rfl) 4 rfl) 4 rfl) 7 rfl) 7 rfl) 7 rfl))  [.int .i64 t0.root,.ptr dj 0,.ptr dA 0,.ptr eP 0,.ptr aV 0,.ptr gd 0] (aR (bU (dc)) (aR (rfl) (aR (rfl) (aR (rfl) (aR (rfl) (aR (rfl) (eO)))))))
 have s6:=Has.xI (pre:=[(dj,.ob [.mp ca]),(ca,.mp (mz x1.2.1)),(dA,.ob [aa.fz x0]),(eP,.ob [.rs fS 0 x1.2.2.nodes.length 4,.int .i64 x1.2.2.root]),(fS,.sl x1.2.2.nodes.length 4 (db.l (aY x1.2.2.nodes dk))),(aV,.ob [af.fz t0.nodes,.int .i64 t0.root]),(gd,.ob [.fn 97 [.ptr dj 0,.ptr dA 0,.ptr eP 0,.ptr aV 0,.ptr gd 0]])]) (N:=[((0),.sl (([]:List ah).length) 4 (db.l (aY ([]:List ah) ([]:List Nat))))]) (mid:=eR x1.2.2.nodes dk) oR
 refine qr [.v 0 (show b7 Tryz.prog h8 94 (.ptr gd 0)=some (.fn 97 [.ptr dj 0,.ptr dA 0,.ptr eP 0,.ptr aV 0,.ptr gd 0]) from dO (q:=0) (cs:=[.fn 97 [.ptr dj 0,.ptr dA 0,.ptr eP 0,.ptr aV 0,.ptr gd 0]]) qU rfl (by kernel_rfl)),.v 2 (show b7 Tryz.prog h8 3 (.ptr aV 1)=some (.int .i64 t0.root) from dO (q:=7) (cs:=[af.fz t0.nodes,.int .i64 t0.root]) qU rfl (by kernel_rfl)),.a 3 mf] ?_
 have lP:Has h9 ((dj,.ob [.mp ca])::(ca,.mp (mz x1.2.1))::(dA,.ob [aa.fz x0])::(eP,.ob [.rs fS 0 x1.2.2.nodes.length 4,.int .i64 x1.2.2.root])::(fS,.sl x1.2.2.nodes.length 4 (db.l (aY x1.2.2.nodes dk)))::(aV,.ob [af.fz t0.nodes,.int .i64 t0.root])::((0),.sl (([]:List ah).length) 4 (db.l (aY ([]:List ah) ([]:List Nat))))::(eR x1.2.2.nodes dk++L)):=Has.del s6 6
 have vH:Has h9 ((dj,.ob [.mp ca])::(ca,.mp (mz x1.2.1))::(dA,.ob [aa.fz x0])::(eP,.ob [.rs fS 0 x1.2.2.nodes.length 4,.int .i64 x1.2.2.root])::(fS,.sl x1.2.2.nodes.length 4 (db.l (aY x1.2.2.nodes dk)))::((0),.sl (([]:List ah).length) 4 (db.l (aY ([]:List ah) ([]:List Nat))))::(eR x1.2.2.nodes dk++L)):=Has.del lP 5
 have xR:Has h9 ((dj,.ob [.mp ca])::(ca,.mp (mz x1.2.1))::(eP,.ob [.rs fS 0 x1.2.2.nodes.length 4,.int .i64 x1.2.2.root])::(fS,.sl x1.2.2.nodes.length 4 (db.l (aY x1.2.2.nodes dk)))::((0),.sl (([]:List ah).length) 4 (db.l (aY ([]:List ah) ([]:List Nat))))::(eR x1.2.2.nodes dk++L)):=Has.del vH 2
 have mA:Has h9 ((dj,.ob [.mp ca])::(eP,.ob [.rs fS 0 x1.2.2.nodes.length 4,.int .i64 x1.2.2.root])::(fS,.sl x1.2.2.nodes.length 4 (db.l (aY x1.2.2.nodes dk)))::((0),.sl (([]:List ah).length) 4 (db.l (aY ([]:List ah) ([]:List Nat))))::(eR x1.2.2.nodes dk++L)):=Has.del xR 1
 have zw:Has h9 ((eP,.ob [.rs fS 0 x1.2.2.nodes.length 4,.int .i64 x1.2.2.root])::(fS,.sl x1.2.2.nodes.length 4 (db.l (aY x1.2.2.nodes dk)))::((0),.sl (([]:List ah).length) 4 (db.l (aY ([]:List ah) ([]:List Nat))))::(eR x1.2.2.nodes dk++L)):=Has.del mA 0
 refine qs [.v 0 (show b7 Tryz.prog h9 25 (.ptr eP 0)=some (.agg [.rs fS 0 x1.2.2.nodes.length 4,.int .i64 x1.2.2.root]) from dO (q:=0) (cs:=[.rs fS 0 x1.2.2.nodes.length 4,.int .i64 x1.2.2.root]) zw rfl (by kernel_rfl))] ?_
 have xS:Has h9 ((eP,.ob [.rs fS 0 x1.2.2.nodes.length 4,.int .i64 x1.2.2.root])::(fS,.sl x1.2.2.nodes.length 4 (db.l (aY x1.2.2.nodes dk)))::(eR x1.2.2.nodes dk++L)):=Has.del zw 2
 have ud:Has h9 ((fS,.sl x1.2.2.nodes.length 4 (db.l (aY x1.2.2.nodes dk)))::(eR x1.2.2.nodes dk++L)):=Has.del xS 0
 obtain rfl:=oi H
 exact qt <| ⟨.inl rfl,⟨fS,dk,by kernel_rfl,he ud⟩⟩
end
end Go.Proofs.YtifafejidnjckaaGreat
namespace Go.Proofs.YtifafejidnjckaaGreat
open Go Go.R
open Go.IntKind (i64 u64 u8 u32)
def ET:cu:=gj [0,1,2,3,6] [1,2] [25,9,19,19] [] [(0,[(2,some 0,4)]),(2,[(2,some 0,4)])]
def gD.f (m:Nat)(t0:aZ):Option (aZ × Int):=(ib.f m t0).bind fun x0=>if (!x0)=true then (some ((aZ.mk ([]:List ah) (0:Int)),(2:Int))) else ((eF.f m t0).bind fun x1=>some (x1,(0:Int)))
def gD.fin (L:Mem)  (r:aZ × Int)(s:St):Prop:=∃(ez:Nat) (dk:List Nat),aP Tryz.prog (s.open ET) Tryz.f25.results.toList=some (.tup [.agg [.rs ez 0 r.1.nodes.length 4,.int .i64 r.1.root],.int .i64 r.2])∧Has s.h ((ez,.sl r.1.nodes.length 4 (db.l (aY r.1.nodes dk)))::(eR r.1.nodes dk++L))
def XH (cf:CallF)(m:Nat):Prop:=∀(t0:aZ) (r:aZ × Int),gD.f m t0=some r→∀h L xs,Has h L→aX b5 h xs [.agg [af.fz t0.nodes,.int .i64 t0.root]]→∃(ez:Nat) (dk:List Nat) (h':AHeap),cf 25 xs h=some (.tup [.agg [.rs ez 0 r.1.nodes.length 4,.int .i64 r.1.root],.int .i64 r.2],h')∧Has h' ((ez,.sl r.1.nodes.length 4 (db.l (aY r.1.nodes dk)))::(eR r.1.nodes dk++L))∧∀j,j<h.next→h.ver j=h'.ver j
section
variable {cf:CallF}{m:Nat}
theorem tN {a7:FuncId→cu}(ha:a7 25=ET)(Ov:UW cf m)(Vc:XG cf m)(t0:aZ)(h:AHeap)(L:Mem)  (o:Has h (L)){out:aZ × Int}(H:gD.f m t0=some out) :
  ∃r h',bj Tryz.prog a7 cf m 25 [.agg [af.fz t0.nodes,.int .i64 t0.root]] h=some (r,h')∧∃(ez:Nat) (dk:List Nat),r = .tup [.agg [.rs ez 0 out.1.nodes.length 4,.int .i64 out.1.root],.int .i64 out.2]∧Has h' ((ez,.sl out.1.nodes.length 4 (db.l (aY out.1.nodes dk)))::(eR out.1.nodes dk++L)):=by
 refine au (fn:=Tryz.f25) ha Tryz.func25 (by kernel_rfl) (by kernel_rfl) ?_
 refine aK (Q:=fun s=>gD.fin L out s) (fun _ _ ⟨h1,ez,dk,h2,h3⟩=>⟨h1,_,h2,ez,dk,rfl,h3⟩) ?_
 have H:_=some out:=H
 unfold gD.f at H
 show dR _ cf ET m _ ⟨.agg [af.fz t0.nodes,.int .i64 t0.root]::qJ [],[none,none],h⟩ _
 refine q1 ?_
 have o0:Has h (((0),.sl (([]:List ah).length) 4 (db.l (aY ([]:List ah) ([]:List Nat))))::L):=Has.nil o 4
 refine qq <| qq ?_
 obtain⟨x0,e0,H⟩:=aS H
 refine qr [.a 1 (Ov _ _ e0 h _ (er (ab (bT (ab (cQ (E:=af)) (ab (aA) (aq)))) (aq))))] <| qc H (fun c0 H=>?_) (fun c0 H=>?_)
 ·refine q1 ?_
  have o1:Has h ((((0)),.sl (([]:List ah).length) 4 (db.l (aY ([]:List ah) ([]:List Nat))))::((0),.sl (([]:List ah).length) 4 (db.l (aY ([]:List ah) ([]:List Nat))))::L):=Has.nil o0 4
  have o2:Has h ((((0)),.sl (([]:List ah).length) 4 (db.l (aY ([]:List ah) ([]:List Nat))))::L):=Has.del o1 1
  obtain rfl:=oi H
  exact qt <| ⟨.inl rfl,⟨((0)),([]:List Nat),by kernel_rfl,he o2⟩⟩
 ·refine qk <| qq ?_
  obtain⟨x1,e1,H⟩:=aS H
  obtain⟨aV,vQ,h0,e2,o3,L8⟩:=Vc _ _ e1 h _ _ o0 (er (ab (bT (ab (cQ (E:=af)) (ab (aA) (aq)))) (aq)))
  have o4:=Has.xI (pre:=[(aV,.sl x1.nodes.length 4 (db.l (aY x1.nodes vQ)))]) (N:=[((0),.sl (([]:List ah).length) 4 (db.l (aY ([]:List ah) ([]:List Nat))))]) (mid:=eR x1.nodes vQ) o3
  refine qr [.a 1 e2] ?_
  have o5:Has h0 ((aV,.sl x1.nodes.length 4 (db.l (aY x1.nodes vQ)))::(eR x1.nodes vQ++L)):=Has.del o4 1
  obtain rfl:=oi H
  exact qt <| ⟨.inl rfl,⟨aV,vQ,by kernel_rfl,he o5⟩⟩
end
end Go.Proofs.YtifafejidnjckaaGreat
namespace Go.Proofs.YtifafejidnjckaaGreat
open Go Go.R
open Go.IntKind (i64 u64 u8 u32)
end Go.Proofs.YtifafejidnjckaaGreat
namespace Go.Proofs.YtifafejidnjckaaGreat
open Go Go.R
open Go.IntKind (i64 u64 u8 u32)
end Go.Proofs.YtifafejidnjckaaGreat
namespace Go.Proofs.YtifafejidnjckaaGreat
open Go Go.R
open Go.IntKind (i64 u64 u8 u32)
def vR:cu:=gj [0,1,4,5,6,7,8,9,10,11,13,14,15,16,22,29,30,31,32,40,41,42,43,50,51,52,53] [4,11,14] [134217720,134217704,134201320,134217715,134217690,134217626,133988250,133726106,133987866,133988250,133988250,134217114,130547130,126352826,130546106,130545082,71824826,4715962,71812538,71824826,71824826,130547130,130547130,134217715] [(21,[(14,some 3,0)])] [(0,[(4,some 0,4)]),(3,[(4,some 0,4)]),(11,[(11,some 0,4)]),(15,[(14,some 3,1)])]
def aD.l0 (m:Nat)(x1:(List Int)):Nat→(List (Int × Int))→Int→Option ((List (Int × Int)) × Int)
 | 0,_,_=>none
 | k+1,bV,x2=>if (decide (x2<(x1.length:Int)))=true then ((ix x1 x2).bind fun v0=>aD.l0 m x1 k (zU bV v0 x2) (i64.wrap (x2+(1:Int)))) else (some ((bV,x2)))
def aD.l2 (m:Nat)(aG:List (Int × Int))(x5:ah):Nat→(List Int)→Int→Option ((List Int) × Int)
 | 0,_,_=>none
 | k+1,x6,x7=>if (decide (x7<(x5.args.length:Int)))=true then ((ix x6 x7).bind fun v2=>(ix x6 x7).bind fun v3=>aD.l2 m aG x5 k (x6.set x7.toNat ((nn aG v2).1)) (i64.wrap (x7+(1:Int)))) else (some ((x6,x7)))
def aD.l1 (m:Nat)(s0:aj)(x1:(List Int))(aG:List (Int × Int)):Nat→Int→(List ah)→Int→Option (Int × (List ah) × Int)
 | 0,_,_,_=>none
 | k+1,x4,t0,t1=>if (decide (x4<(x1.length:Int)))=true then ((ix x1 x4).bind fun v1=>(bq.f m s0 v1).bind fun x5=>(aD.l2 m aG x5 m x5.args (0:Int)).bind fun bZ=>match bZ with | (x8,x9)=>(app 56 t0 ([(ah.mk x5.kind x5.int x5.label x8)])).bind fun mT=>aD.l1 m s0 x1 aG k (i64.wrap (x4+(1:Int))) mT t1) else (some ((x4,t0,t1)))
def aD.f (m:Nat)(s0:aj)(n0:Int):Option (aZ × Int):=(cH.f m s0 ([n0])).bind fun x0=>if (!(x0==(0:Int)))=true then (some ((aZ.mk ([]:List ah) (0:Int)),x0)) else ((aM.f m s0 n0).bind fun x1=>(aD.l0 m x1 m ([]:List (Int × Int)) (0:Int)).bind fun bo=>match bo with | (aG,x3)=>(aD.l1 m s0 x1 aG m (0:Int) ([]:List ah) (0:Int)).bind fun fC=>match fC with | (C0,t2,t3)=>(gD.f m (aZ.mk t2 t3)).bind fun r8=>some (r8.1,r8.2))
def aD.fin (L:Mem)  (r:aZ × Int)(s:St):Prop:=∃(ez:Nat) (dk:List Nat),aP Tryz.prog (s.open vR) Tryz.f24.results.toList=some (.tup [.agg [.rs ez 0 r.1.nodes.length 4,.int .i64 r.1.root],.int .i64 r.2])∧Has s.h ((ez,.sl r.1.nodes.length 4 (db.l (aY r.1.nodes dk)))::(eR r.1.nodes dk++L))
def XI (cf:CallF)(m:Nat):Prop:=∀(s0:aj) (n0:Int) (r:aZ × Int),aD.f m s0 n0=some r→∀h L xs,Has h L→aX b5 h xs [.fp [.bool s0.aF,af.fz s0.ae,aa.fz s0.aB] 0,.int .i64 n0]→∃(ez:Nat) (dk:List Nat) (h':AHeap),cf 24 xs h=some (.tup [.agg [.rs ez 0 r.1.nodes.length 4,.int .i64 r.1.root],.int .i64 r.2],h')∧Has h' ((ez,.sl r.1.nodes.length 4 (db.l (aY r.1.nodes dk)))::(eR r.1.nodes dk++L))∧∀j,j<h.next→h.ver j=h'.ver j
section
variable {cf:CallF}{m:Nat}
theorem aD.cd (L:Mem)(s0:aj)(x1:(List Int))(aV:Nat)(dA:Nat)   : b8 Tryz.prog cf vR m (sub [1,1,1,1,0,1,0,0] (br Tryz.f24)) (fun k (σ:(List (Int × Int)) × Int)=>aD.l0 m x1 k σ.1 σ.2) (fun σ s=>match σ with | (bV,x2)=>∃h2,s=⟨.fp [.bool s0.aF,af.fz s0.ae,aa.fz s0.aB] 0 :: .any :: .lp 4 0 :: .any :: .any :: .rs aV 0 x1.length 1 :: .mp dA::qK (.rs aV 0 x1.length 1 :: .int .i64 (x1.length:Int) :: .int .i64 x2::Mp []),[some [.rs (0) 0 (([]:List ah).length) 4,.int .i64 (0:Int)],none,none],h2⟩∧Has h2 ((dA,.mp (mz bV))::(aV,.sl x1.length 1 (aa.l x1))::((0),.sl (([]:List ah).length) 4 (db.l (aY ([]:List ah) ([]:List Nat))))::L)) (fun out e s=>(e = .exit 0∧∃bV x2,(bV,x2)=out∧∃Oe C6 Iw Ot h2,s=⟨.fp [.bool s0.aF,af.fz s0.ae,aa.fz s0.aB] 0 :: .any :: .lp 4 0 :: .any :: .any :: .rs aV 0 x1.length 1 :: .mp dA::qK (Oe::C6::Iw::Ot::qK []),[some [.rs (0) 0 (([]:List ah).length) 4,.int .i64 (0:Int)],none,none],h2⟩∧Has h2 ((dA,.mp (mz bV))::(aV,.sl x1.length 1 (aa.l x1))::((0),.sl (([]:List ah).length) 4 (db.l (aY ([]:List ah) ([]:List Nat))))::L))):=by
 refine iO (fun _=>rfl) ?_
 rintro k ⟨bV,x2⟩ s out ⟨h2,rfl,o5⟩ H
 have H:aD.l0 m x1 (k+1) bV x2=some out:=H
 refine q1 <| qq <| qc H (fun c1 H=>?_) (fun c1 H=>?_)
 ·refine qk <| qq <| qb 1 <| qq ?_
  obtain⟨v0,e4,H⟩:=aS H
  refine qr [.v 1 (aJ (k:=.i64) (E:=aa) (l:=x1) (q:=1) dt o5 rfl e4),.v 2 (bm  (E:=aa) (l:=x1) (q:=1) o5 rfl A3 e4 rfl)] ?_
  obtain⟨h3,e5,o6⟩:=Qt (q:=0) (l:=bV) (k:=v0) (v:=x2) KZ o5 rfl
  exact qr [.w 3 e5] <| q0 <| ⟨(zU bV v0 x2,i64.wrap (x2+(1:Int))),⟨h3,by kernel_rfl,o6⟩,H⟩
 ·exact qx 0 <| ⟨rfl,bV,x2,oi H,.rs aV 0 x1.length 1,.int .i64 (x1.length:Int),.int .i64 x2,.bool (decide (x2<(x1.length:Int))),h2,by kernel_rfl,o5⟩
theorem aD.mj (L:Mem)(s0:aj)(x1:(List Int))(aV:Nat)(dA:Nat)(aG:List (Int × Int))(ca:Nat)(x4:Int)(t0:List ah)(t1:Int)(ca:Nat)(x5:ah)   : b8 Tryz.prog cf vR m (sub [1,1,1,1,1,1,0,1,0,0,1,1,0,0,1,1,0,1,0,0] (br Tryz.f24)) (fun k (σ:(List Int) × Int)=>aD.l2 m aG x5 k σ.1 σ.2) (fun σ s=>match σ with | (x6,x7)=>∃eP h7,s=⟨.fp [.bool s0.aF,af.fz s0.ae,aa.fz s0.aB] 0 :: .any :: .lp 4 0::j5 (.mp dA :: .any :: .any :: .lp 11 0 :: .any :: .lp 14 0::zV [.rs aV 0 x1.length 1,.int .i64 (x1.length:Int),.int .i64 x4,.any,.rs eP 0 x6.length 1,.int .i64 (x5.args.length:Int),.int .i64 x7,.any]),[some [.rs (0) 0 (([]:List ah).length) 4,.int .i64 (0:Int)],some [.rs ca 0 t0.length 4,.int .i64 t1],some [.int .i64 x5.kind,.int .i64 x5.int,.str x5.label,.rs eP 0 x6.length 1]],h7⟩∧Has h7 ((eP,.sl x6.length 1 (aa.l x6))::(ca,.sl t0.length 4 (af.l t0))::(dA,.mp (mz aG))::(aV,.sl x1.length 1 (aa.l x1))::((0),.sl (([]:List ah).length) 4 (db.l (aY ([]:List ah) ([]:List Nat))))::L)) (fun out e s=>(e = .exit 4∧∃x6 x7,(x6,x7)=out∧∃Ip Vd Ve NY eP h7,s=⟨.fp [.bool s0.aF,af.fz s0.ae,aa.fz s0.aB] 0 :: .any :: .lp 4 0::j5 (.mp dA :: .any :: .any :: .lp 11 0 :: .any :: .lp 14 0::zV [.rs aV 0 x1.length 1,.int .i64 (x1.length:Int),.int .i64 x4,.any,Ip,Vd,Ve,NY]),[some [.rs (0) 0 (([]:List ah).length) 4,.int .i64 (0:Int)],some [.rs ca 0 t0.length 4,.int .i64 t1],some [.int .i64 x5.kind,.int .i64 x5.int,.str x5.label,.rs eP 0 x6.length 1]],h7⟩∧Has h7 ((eP,.sl x6.length 1 (aa.l x6))::(ca,.sl t0.length 4 (af.l t0))::(dA,.mp (mz aG))::(aV,.sl x1.length 1 (aa.l x1))::((0),.sl (([]:List ah).length) 4 (db.l (aY ([]:List ah) ([]:List Nat))))::L))):=by
 refine iO (fun _=>rfl) ?_
 rintro k ⟨x6,x7⟩ s out ⟨eP,h7,rfl,oR⟩ H
 have H:aD.l2 m aG x5 (k+1) x6 x7=some out:=H
 refine q1 <| qq <| qc H (fun c3 H=>?_) (fun c3 H=>?_)
 ·refine qk <| qq <| qb 5 <| qq ?_
  obtain⟨v2,lg,H⟩:=aS H
  refine qr [.v 1 (aJ (k:=.i64) (E:=aa) (l:=x6) (q:=0) dt oR rfl lg),.v 2 (bm  (E:=aa) (l:=x6) (q:=0) oR rfl A3 lg rfl)] ?_
  obtain⟨v3,mf,H⟩:=aS H
  obtain⟨h8,nI,s6⟩:=en (P:=Tryz.prog) (tf:=3) (E:=aa) (l:=x6) (q:=0) (v:=((nn aG v2).1)) (x:=.int .i64 ((nn aG v2).1)) oR rfl Z3 mf rfl rfl
  exact qr [.v 5 (show fD Tryz.prog h7 84 (.mp dA) (.int .i64 v2) false=some (.int .i64 ((nn aG v2).1)) from (Qs (q:=2) (l:=aG) (k:=v2) KZ oR rfl).2),.v 6 (aJ (k:=.i64) (E:=aa) (l:=x6) (q:=0) dt oR rfl mf),.w 7 nI] <| q0 <| ⟨(x6.set x7.toNat ((nn aG v2).1),i64.wrap (x7+(1:Int))),⟨eP,h8,(acq (b:=⟨.fp [.bool s0.aF,af.fz s0.ae,aa.fz s0.aB] 0 :: .any :: .lp 4 0::j5 (.mp dA :: .any :: .any :: .lp 11 0 :: .any :: .lp 14 0::zV [.rs aV 0 x1.length 1,.int .i64 (x1.length:Int),.int .i64 x4,.any,.rs eP 0 x6.length 1,.int .i64 (x5.args.length:Int),.int .i64 (i64.wrap (x7+(1:Int))),.any]),[some [.rs (0) 0 (([]:List ah).length) 4,.int .i64 (0:Int)],some [.rs ca 0 t0.length 4,.int .i64 t1],some [.int .i64 x5.kind,.int .i64 x5.int,.str x5.label,.rs eP 0 x6.length 1]],h8⟩) (by kernel_rfl) (by simp only [abF])),(by have o:Has h8 ((eP,.sl x6.length 1 (aa.l (x6.set x7.toNat ((nn aG v2).1))))::(ca,.sl t0.length 4 (af.l t0))::(dA,.mp (mz aG))::(aV,.sl x1.length 1 (aa.l x1))::((0),.sl (([]:List ah).length) 4 (db.l (aY ([]:List ah) ([]:List Nat))))::L):=s6; simpa only [abF] using o)⟩,H⟩
 ·exact qx 4 <| ⟨rfl,x6,x7,oi H,.rs eP 0 x6.length 1,.int .i64 (x5.args.length:Int),.int .i64 x7,.bool (decide (x7<(x5.args.length:Int))),eP,h7,by kernel_rfl,oR⟩
theorem aD.gN (L:Mem)(s0:aj)(x1:(List Int))(aV:Nat)(dA:Nat)(aG:List (Int × Int))  (IQ:SS cf m):b8 Tryz.prog cf vR m (sub [1,1,1,1,1,1,0,1,0,0] (br Tryz.f24)) (fun k (σ:Int × (List ah) × Int)=>aD.l1 m s0 x1 aG k σ.1 σ.2.1 σ.2.2) (fun σ s=>match σ with | (x4,t0,t1)=>∃ca h5,s=⟨.fp [.bool s0.aF,af.fz s0.ae,aa.fz s0.aB] 0 :: .any :: .lp 4 0::j5 (.mp dA :: .any :: .any :: .lp 11 0::Mp (.rs aV 0 x1.length 1 :: .int .i64 (x1.length:Int) :: .int .i64 x4::tu [])),[some [.rs (0) 0 (([]:List ah).length) 4,.int .i64 (0:Int)],some [.rs ca 0 t0.length 4,.int .i64 t1],none],h5⟩∧Has h5 ((ca,.sl t0.length 4 (af.l t0))::(dA,.mp (mz aG))::(aV,.sl x1.length 1 (aa.l x1))::((0),.sl (([]:List ah).length) 4 (db.l (aY ([]:List ah) ([]:List Nat))))::L)) (fun out e s=>(e = .exit 2∧∃x4 t0 t1,(x4,t0,t1)=out∧∃kX qT IX Vf NW Vh ca h5,s=⟨kX :: .any :: .lp 4 0::j5 (qT :: .any :: .any :: .lp 11 0::Mp (IX::Vf::NW::Vh::qJ [])),[some [.rs (0) 0 (([]:List ah).length) 4,.int .i64 (0:Int)],some [.rs ca 0 t0.length 4,.int .i64 t1],none],h5⟩∧Has h5 ((ca,.sl t0.length 4 (af.l t0))::(dA,.mp (mz aG))::(aV,.sl x1.length 1 (aa.l x1))::((0),.sl (([]:List ah).length) 4 (db.l (aY ([]:List ah) ([]:List Nat))))::L))):=by
 refine iO (fun _=>rfl) ?_
 rintro k ⟨x4,t0,t1⟩ s out ⟨ca,h5,rfl,o9⟩ H
 have H:aD.l1 m s0 x1 aG (k+1) x4 t0 t1=some out:=H
 refine q1 <| qq <| qc H (fun c2 H=>?_) (fun c2 H=>?_)
 ·refine qk <| qq <| qb 3 <| qq ?_
  obtain⟨v1,e7,H⟩:=aS H
  refine qr [.v 0 (aJ (k:=.i64) (E:=aa) (l:=x1) (q:=2) dt o9 rfl e7),.v 1 (bm  (E:=aa) (l:=x1) (q:=2) o9 rfl A3 e7 rfl)] <| qq ?_
  obtain⟨x5,e8,H⟩:=aS H
  obtain⟨dj,h6,e9,qU,Pa⟩:=IQ _ _ _ e8 h5 _ _ o9 (er (ab (dJ (pure_cons (ba) (pure_cons (bG.aI (E:=af) (l:=s0.ae)) (pure_cons (bG.aI (E:=aa) (l:=s0.aB)) (pure_nil))))) (ab (aA) (aq))))
  refine qr [.a 2 e9] <| qq <| qq <| q0 <| qb 4 ?_
  obtain⟨bZ,oJ,H⟩:=aS H
  refine ql (aD.mj L s0 x1 aV dA aG ca x4 t0 t1 ca x5   (x5.args,(0:Int)) _ _ ⟨dj,h6,by kernel_rfl,qU⟩ oJ) ?_
  rintro e s ⟨rfl,x8,x9,rfl,g4,g5,g6,g7,gd,h9,rfl,lP⟩
  try dsimp only at H
  obtain⟨h10,uc,vH⟩:=mO (E:=aa) (l:=x8) (q:=0) lP rfl
  obtain⟨mT,wD,H⟩:=aS H
  obtain⟨fS,h11,wE,xR⟩:=fH (P:=Tryz.prog) (E:=af) (l:=t0) (q:=0) (t2:=23) (x:=.fz [.int .i64 x5.kind,.int .i64 x5.int,.str x5.label,aa.fz x8] 1 true) (l2:=([(ah.mk x5.kind x5.int x5.label x8)])) kI vH rfl (by kernel_rfl) rfl wD
  exact J5 [.a 0 uc] [.a 4 wE] <| q0 <| ⟨(i64.wrap (x4+(1:Int)),mT,t1),⟨fS,h11,by kernel_rfl,xR⟩,H⟩
 ·exact qx 2 <| ⟨rfl,x4,t0,t1,oi H,.fp [.bool s0.aF,af.fz s0.ae,aa.fz s0.aB] 0,.mp dA,.rs aV 0 x1.length 1,.int .i64 (x1.length:Int),.int .i64 x4,.bool (decide (x4<(x1.length:Int))),ca,h5,by kernel_rfl,o9⟩
theorem nG {a7:FuncId→cu}(ha:a7 24=vR)(Vi:XH cf m)(Da:Q0 cf m)(Oo:Uy cf m)(IQ:SS cf m)(s0:aj)(n0:Int)(h:AHeap)(L:Mem)  (o:Has h (L)){out:aZ × Int}(H:aD.f m s0 n0=some out) :
  ∃r h',bj Tryz.prog a7 cf m 24 [.fp [.bool s0.aF,af.fz s0.ae,aa.fz s0.aB] 0,.int .i64 n0] h=some (r,h')∧∃(ez:Nat) (dk:List Nat),r = .tup [.agg [.rs ez 0 out.1.nodes.length 4,.int .i64 out.1.root],.int .i64 out.2]∧Has h' ((ez,.sl out.1.nodes.length 4 (db.l (aY out.1.nodes dk)))::(eR out.1.nodes dk++L)):=by
 refine au (fn:=Tryz.f24) ha Tryz.func24 (by kernel_rfl) (by kernel_rfl) ?_
 refine aK (Q:=fun s=>aD.fin L out s) (fun _ _ ⟨h1,ez,dk,h2,h3⟩=>⟨h1,_,h2,ez,dk,rfl,h3⟩) ?_
 have H:_=some out:=H
 unfold aD.f at H
 show dR _ cf vR m _ ⟨.fp [.bool s0.aF,af.fz s0.ae,aa.fz s0.aB] 0 :: .int .i64 n0::Qy [],[none,none,none],h⟩ _
 refine q1 ?_
 have o0:Has h (((0),.sl (([]:List ah).length) 4 (db.l (aY ([]:List ah) ([]:List Nat))))::L):=Has.nil o 4
 refine qq <| qq ?_
 obtain⟨x0,e0,H⟩:=aS H
 refine qr [.a 3 (Da _ _ _ e0 h _ (er (ab (dJ (pure_cons (ba) (pure_cons (bG.aI (E:=af) (l:=s0.ae)) (pure_cons (bG.aI (E:=aa) (l:=s0.aB)) (pure_nil))))) (ab (rU (E:=aa) (l:=[n0]) (cs:=[.int .i64 n0]) (b:=true) (by kernel_rfl) (by kernel_rfl) rfl) (aq)))))] <| qq <| q0 <| qc H (fun c0 H=>?_) (fun c0 H=>?_)
 ·refine q1 ?_
  have o1:Has h ((((0)),.sl (([]:List ah).length) 4 (db.l (aY ([]:List ah) ([]:List Nat))))::((0),.sl (([]:List ah).length) 4 (db.l (aY ([]:List ah) ([]:List Nat))))::L):=Has.nil o0 4
  have o2:Has h ((((0)),.sl (([]:List ah).length) 4 (db.l (aY ([]:List ah) ([]:List Nat))))::L):=Has.del o1 1
  obtain rfl:=oi H
  exact qt <| ⟨.inl rfl,⟨((0)),([]:List Nat),by kernel_rfl,he o2⟩⟩
 ·refine qk <| qq ?_
  obtain⟨x1,e1,H⟩:=aS H
  obtain⟨aV,h0,e2,o3,L8⟩:=Oo _ _ _ e1 h _ _ o0 (er (ab (dJ (pure_cons (ba) (pure_cons (bG.aI (E:=af) (l:=s0.ae)) (pure_cons (bG.aI (E:=aa) (l:=s0.aB)) (pure_nil))))) (ab (aA) (aq))))
  refine qr [.a 2 e2] <| qq ?_
  obtain⟨dA,h1,e3,o4⟩:=yY o3
  refine qr [.m 0 e3] <| qq <| qq <| q0 <| qb 0 ?_
  obtain⟨bo,e6,H⟩:=aS H
  refine ql (aD.cd L s0 x1 aV dA   (([]:List (Int × Int)),(0:Int)) _ _ ⟨h1,by kernel_rfl,o4⟩ e6) ?_
  rintro e s ⟨rfl,aG,x3,rfl,g0,g1,g2,g3,h4,rfl,o7⟩
  try dsimp only at H
  refine q1 ?_
  have o8:Has h4 (((((0))),.sl (([]:List ah).length) 4 (af.l ([]:List ah)))::(dA,.mp (mz aG))::(aV,.sl x1.length 1 (aa.l x1))::((0),.sl (([]:List ah).length) 4 (db.l (aY ([]:List ah) ([]:List Nat))))::L):=Has.nil o7 4
  refine qq <| qq <| q0 <| qb 2 ?_
  obtain⟨fC,zh,H⟩:=aS H
  refine ql (aD.gN L s0 x1 aV dA aG  IQ ((0:Int),([]:List ah),(0:Int)) _ _ ⟨(((0))),h4,by kernel_rfl,o8⟩ zh) ?_
  rintro e s ⟨rfl,C0,t2,t3,rfl,g8,g9,g10,g11,g12,g13,gF,h12,rfl,mA⟩
  try dsimp only at H
  refine qq ?_
  obtain⟨r8,EI,H⟩:=aS H
  obtain⟨jb,k7,h13,zx,zw,L6⟩:=Vi _ _ EI h12 _ _ mA (er (ab (bT (ab (gu (E:=af) (l:=t2) (q:=0) mA rfl (fun _=>rfl)) (ab (aA) (aq)))) (aq)))
  have xS:=Has.xI (pre:=[(jb,.sl r8.1.nodes.length 4 (db.l (aY r8.1.nodes k7)))]) (N:=[(gF,.sl t2.length 4 (af.l t2)),(dA,.mp (mz aG)),(aV,.sl x1.length 1 (aa.l x1)),((0),.sl (([]:List ah).length) 4 (db.l (aY ([]:List ah) ([]:List Nat))))]) (mid:=eR r8.1.nodes k7) zw
  refine qr [.a 1 zx] ?_
  have ud:Has h13 ((jb,.sl r8.1.nodes.length 4 (db.l (aY r8.1.nodes k7)))::(gF,.sl t2.length 4 (af.l t2))::(dA,.mp (mz aG))::(aV,.sl x1.length 1 (aa.l x1))::(eR r8.1.nodes k7++L)):=Has.del xS 4
  have Lp:Has h13 ((jb,.sl r8.1.nodes.length 4 (db.l (aY r8.1.nodes k7)))::(gF,.sl t2.length 4 (af.l t2))::(dA,.mp (mz aG))::(eR r8.1.nodes k7++L)):=Has.del ud 3
  have wX:Has h13 ((jb,.sl r8.1.nodes.length 4 (db.l (aY r8.1.nodes k7)))::(gF,.sl t2.length 4 (af.l t2))::(eR r8.1.nodes k7++L)):=Has.del Lp 2
  have GX:Has h13 ((jb,.sl r8.1.nodes.length 4 (db.l (aY r8.1.nodes k7)))::(eR r8.1.nodes k7++L)):=Has.del wX 1
  obtain rfl:=oi H
  exact qt <| ⟨.inl rfl,⟨jb,k7,by kernel_rfl,he GX⟩⟩
end
end Go.Proofs.YtifafejidnjckaaGreat
namespace Go.Proofs.YtifafejidnjckaaGreat
open Go Go.R
open Go.IntKind (i64 u64 u8 u32)
end Go.Proofs.YtifafejidnjckaaGreat
namespace Go.Proofs.YtifafejidnjckaaGreat
open Go Go.R
open Go.IntKind (i64 u64 u8 u32)
end Go.Proofs.YtifafejidnjckaaGreat
namespace Go.Proofs.YtifafejidnjckaaGreat
open Go Go.R
open Go.IntKind (i64 u64 u8 u32)
def EU:cu:=gj [0,1,2,6,7,8,9,10,11,12,13,14,15,16,17,18,19,20,21,22] [11,13,15,17] [1048568,1048520,1048328,1047560,1044488,1032200,983048,786441,15,1048567] [] [(3,[(11,some 3,1)]),(5,[(15,some 0,4)])]
def gX.f (m:Nat)(s0:aj)(t0:ay)(n0:Int):Option (Bool):=(fb.f m s0 n0).bind fun x0=>(fa.f m t0 n0).bind fun x1=>(ef.f m s0 n0).bind fun x2=>(dZ.f m t0 n0).bind fun x3=>(aD.f m s0 n0).bind fun x4=>(aE.f m t0 n0).bind fun x5=>(eL.f m s0 n0).bind fun x6=>(aT.f m t0 n0).bind fun x7=>if (x0.1==x1.1)=true then (if (x0.2==x1.2)=true then ((fP.f m x2.1 x3.1).bind fun x8=>if x8=true then (if (x2.2==x3.2)=true then ((bB.f m x4.1 x5.1).bind fun x9=>if x9=true then (if (x4.2==x5.2)=true then ((cR.f m x6.1 x7.1).bind fun mT=>if mT=true then (some (x6.2==x7.2)) else (some false)) else (some false)) else (some false)) else (some false)) else (some false)) else (some false)) else (some false)
def gX.fin (L:Mem)(r:Bool)(s:St):Prop:=∃av,aP Tryz.prog (s.open EU) Tryz.f20.results.toList=some av∧fi s.h av (.bool r)
def Vj (cf:CallF)(m:Nat):Prop:=∀(s0:aj) (t0:ay) (n0:Int) (r:Bool),gX.f m s0 t0 n0=some r→∀h xs,aX b5 h xs [.fp [.bool s0.aF,af.fz s0.ae,aa.fz s0.aB] 0,.fp [af.fz t0.ai,aa.fz t0.an,.bool t0.aH] 0,.int .i64 n0]→cf 20 xs h=some (.bool r,h)
section
variable {cf:CallF}{m:Nat}
theorem sw {a7:FuncId→cu}(ha:a7 20=EU)(Vk:XI cf m)(Gf:W7 cf m)(Vl:Xu cf m)(Vm:Xv cf m)(Lb:Uo cf m)(Vn:W8 cf m)(Vo:Xw cf m)(Vp:W9 cf m)(Vq:XD cf m)(Vr:Xa cf m)(Ls:Xb cf m)(s0:aj)(t0:ay)(n0:Int)(h:AHeap)(L:Mem)  (o:Has h (L)){out:Bool}(H:gX.f m s0 t0 n0=some out) :
  ∃r h',bj Tryz.prog a7 cf m 20 [.fp [.bool s0.aF,af.fz s0.ae,aa.fz s0.aB] 0,.fp [af.fz t0.ai,aa.fz t0.an,.bool t0.aH] 0,.int .i64 n0] h=some (r,h')∧fi h' r (.bool out):=by
 refine au (fn:=Tryz.f20) ha Tryz.func20 (by kernel_rfl) (by kernel_rfl) ?_
 refine aK (Q:=fun s=>gX.fin L out s) (fun _ _ h=>h) ?_
 have H:_=some out:=H
 unfold gX.f at H
 show dR _ cf EU m _ ⟨.fp [.bool s0.aF,af.fz s0.ae,aa.fz s0.aB] 0 :: .fp [af.fz t0.ai,aa.fz t0.an,.bool t0.aH] 0 :: .int .i64 n0::H0 [],[none,none,none,none],h⟩ _
 refine q1 <| qq ?_
 obtain⟨x0,e0,H⟩:=aS H
 refine qr [.a 2 (Vm _ _ _ e0 h _ (er (ab (dJ (pure_cons (ba) (pure_cons (bG.aI (E:=af) (l:=s0.ae)) (pure_cons (bG.aI (E:=aa) (l:=s0.aB)) (pure_nil))))) (ab (aA) (aq)))))] <| qq ?_
 obtain⟨x1,e1,H⟩:=aS H
 refine qr [.a 2 (Vn _ _ _ e1 h _ (er (ab (dJ (pure_cons (bG.aI (E:=af) (l:=t0.ai)) (pure_cons (bG.aI (E:=aa) (l:=t0.an)) (pure_cons (ba) (pure_nil))))) (ab (aA) (aq)))))] <| qq ?_
 obtain⟨x2,e2,H⟩:=aS H
 obtain⟨aV,h0,e3,o0,L8⟩:=Vo _ _ _ e2 h _ _ o (er (ab (dJ (pure_cons (ba) (pure_cons (bG.aI (E:=af) (l:=s0.ae)) (pure_cons (bG.aI (E:=aa) (l:=s0.aB)) (pure_nil))))) (ab (aA) (aq))))
 refine qr [.a 2 e3] <| qq ?_
 obtain⟨x3,e4,H⟩:=aS H
 refine qr [.a 2 (Vp _ _ _ e4 h0 _ (hX (AW (pure_cons (bG.aI (E:=af) (l:=t0.ai)) (pure_cons (bG.aI (E:=aa) (l:=t0.an)) (pure_cons (ba) (pure_nil))))) (hX (dc) (n7))))] <| qq ?_
 obtain⟨x4,e5,H⟩:=aS H
 obtain⟨dA,fA,h1,e6,o1,Pa⟩:=Vk _ _ _ e5 h0 _ _ o0 (er (ab (dJ (pure_cons (ba) (pure_cons (bG.aI (E:=af) (l:=s0.ae)) (pure_cons (bG.aI (E:=aa) (l:=s0.aB)) (pure_nil))))) (ab (aA) (aq))))
 have o2:=Has.xI (pre:=[(dA,.sl x4.1.nodes.length 4 (db.l (aY x4.1.nodes fA)))]) (N:=[(aV,.sl x2.1.args.length 1 (aa.l x2.1.args))]) (mid:=eR x4.1.nodes fA) o1
 refine qr [.a 2 e6] <| qq ?_
 obtain⟨x5,e7,H⟩:=aS H
 refine qr [.a 2 (Vq _ _ _ e7 h1 _ (hX (AW (pure_cons (bG.aI (E:=af) (l:=t0.ai)) (pure_cons (bG.aI (E:=aa) (l:=t0.an)) (pure_cons (ba) (pure_nil))))) (hX (dc) (n7))))] <| qq ?_
 obtain⟨x6,e8,H⟩:=aS H
 refine qr [.a 2 (Vl _ _ _ e8 h1 _ (er (ab (dJ (pure_cons (ba) (pure_cons (bG.aI (E:=af) (l:=s0.ae)) (pure_cons (bG.aI (E:=aa) (l:=s0.aB)) (pure_nil))))) (ab (aA) (aq)))))] <| qq ?_
 obtain⟨x7,e9,H⟩:=aS H
 refine qr [.a 2 (Vr _ _ _ e9 h1 _ (er (ab (dJ (pure_cons (bG.aI (E:=af) (l:=t0.ai)) (pure_cons (bG.aI (E:=aa) (l:=t0.an)) (pure_cons (ba) (pure_nil))))) (ab (aA) (aq)))))] <| qq ?_
 rcases eu H with⟨c0,H⟩| ⟨c0,H⟩
 ·rcases eu H with⟨c1,H⟩| ⟨c1,H⟩
  ·obtain⟨x8,lg,H⟩:=aS H
   rcases eu H with⟨c2,H⟩| ⟨c2,H⟩
   ·rcases eu H with⟨c3,H⟩| ⟨c3,H⟩
    ·obtain⟨x9,mf,H⟩:=aS H
     rcases eu H with⟨c4,H⟩| ⟨c4,H⟩
     ·rcases eu H with⟨c5,H⟩| ⟨c5,H⟩
      ·obtain⟨mT,nI,H⟩:=aS H
       rcases eu H with⟨c6,H⟩| ⟨c6,H⟩
       ·refine qr [.b 3 c0,.b 8 c1,.a 11 (Gf _ _ _ lg h1 _ (er (ab (bT (ab (aA) (ab (aA) (ab (bH) (ab (gu (E:=aa) (l:=x2.1.args) (q:=1) o2 rfl (fun _=>rfl)) (aq)))))) (ab (bT (ab (aA) (ab (aA) (ab (bH) (ab (cQ (E:=aa)) (aq)))))) (aq))))),.b 13 c2,.b 18 c3,.a 21 (Ls _ _ _ mf h1 _ (er (ab (bT (ab (rX (pre:=[(dA,.sl x4.1.nodes.length 4 (db.l (aY x4.1.nodes fA))),(aV,.sl x2.1.args.length 1 (aa.l x2.1.args))]) (ns:=x4.1.nodes) (ids:=fA) (q:=0) o2 rfl) (ab (aA) (aq)))) (ab (bT (ab (cQ (E:=af)) (ab (aA) (aq)))) (aq))))),.b 23 c4,.b 28 c5,.a 31 (Lb _ _ _ nI h1 _ (er (ab (cQ (E:=aa)) (ab (cQ (E:=aa)) (aq))))),.b 33 c6] ?_
        have o3:Has h1 ((dA,.sl x4.1.nodes.length 4 (db.l (aY x4.1.nodes fA)))::(eR x4.1.nodes fA++L)):=Has.del o2 1
        have o4:Has h1 (L):=Has.gone (pre:=[]) (Has.del o3 0)
        obtain rfl:=oi H
        exact qt <| ⟨.inl rfl,bX (.bool (x6.2==x7.2)) h1 (bW (ao))⟩
       ·refine qr [.b 3 c0,.b 8 c1,.a 11 (Gf _ _ _ lg h1 _ (er (ab (bT (ab (aA) (ab (aA) (ab (bH) (ab (gu (E:=aa) (l:=x2.1.args) (q:=1) o2 rfl (fun _=>rfl)) (aq)))))) (ab (bT (ab (aA) (ab (aA) (ab (bH) (ab (cQ (E:=aa)) (aq)))))) (aq))))),.b 13 c2,.b 18 c3,.a 21 (Ls _ _ _ mf h1 _ (er (ab (bT (ab (rX (pre:=[(dA,.sl x4.1.nodes.length 4 (db.l (aY x4.1.nodes fA))),(aV,.sl x2.1.args.length 1 (aa.l x2.1.args))]) (ns:=x4.1.nodes) (ids:=fA) (q:=0) o2 rfl) (ab (aA) (aq)))) (ab (bT (ab (cQ (E:=af)) (ab (aA) (aq)))) (aq))))),.b 23 c4,.b 28 c5,.a 31 (Lb _ _ _ nI h1 _ (er (ab (cQ (E:=aa)) (ab (cQ (E:=aa)) (aq))))),.b 33 c6] ?_
        have o5:Has h1 ((dA,.sl x4.1.nodes.length 4 (db.l (aY x4.1.nodes fA)))::(eR x4.1.nodes fA++L)):=Has.del o2 1
        have o6:Has h1 (L):=Has.gone (pre:=[]) (Has.del o5 0)
        obtain rfl:=oi H
        exact qt <| ⟨.inl rfl,bX (.bool false) h1 (bW (ao))⟩
      ·refine qr [.b 3 c0,.b 8 c1,.a 11 (Gf _ _ _ lg h1 _ (er (ab (bT (ab (aA) (ab (aA) (ab (bH) (ab (gu (E:=aa) (l:=x2.1.args) (q:=1) o2 rfl (fun _=>rfl)) (aq)))))) (ab (bT (ab (aA) (ab (aA) (ab (bH) (ab (cQ (E:=aa)) (aq)))))) (aq))))),.b 13 c2,.b 18 c3,.a 21 (Ls _ _ _ mf h1 _ (er (ab (bT (ab (rX (pre:=[(dA,.sl x4.1.nodes.length 4 (db.l (aY x4.1.nodes fA))),(aV,.sl x2.1.args.length 1 (aa.l x2.1.args))]) (ns:=x4.1.nodes) (ids:=fA) (q:=0) o2 rfl) (ab (aA) (aq)))) (ab (bT (ab (cQ (E:=af)) (ab (aA) (aq)))) (aq))))),.b 23 c4,.b 28 c5] ?_
       have o7:Has h1 ((dA,.sl x4.1.nodes.length 4 (db.l (aY x4.1.nodes fA)))::(eR x4.1.nodes fA++L)):=Has.del o2 1
       have o8:Has h1 (L):=Has.gone (pre:=[]) (Has.del o7 0)
       obtain rfl:=oi H
       exact qt <| ⟨.inl rfl,bX (.bool false) h1 (bW (ao))⟩
     ·refine qr [.b 3 c0,.b 8 c1,.a 11 (Gf _ _ _ lg h1 _ (er (ab (bT (ab (aA) (ab (aA) (ab (bH) (ab (gu (E:=aa) (l:=x2.1.args) (q:=1) o2 rfl (fun _=>rfl)) (aq)))))) (ab (bT (ab (aA) (ab (aA) (ab (bH) (ab (cQ (E:=aa)) (aq)))))) (aq))))),.b 13 c2,.b 18 c3,.a 21 (Ls _ _ _ mf h1 _ (er (ab (bT (ab (rX (pre:=[(dA,.sl x4.1.nodes.length 4 (db.l (aY x4.1.nodes fA))),(aV,.sl x2.1.args.length 1 (aa.l x2.1.args))]) (ns:=x4.1.nodes) (ids:=fA) (q:=0) o2 rfl) (ab (aA) (aq)))) (ab (bT (ab (cQ (E:=af)) (ab (aA) (aq)))) (aq))))),.b 23 c4] ?_
      have o9:Has h1 ((dA,.sl x4.1.nodes.length 4 (db.l (aY x4.1.nodes fA)))::(eR x4.1.nodes fA++L)):=Has.del o2 1
      have qU:Has h1 (L):=Has.gone (pre:=[]) (Has.del o9 0)
      obtain rfl:=oi H
      exact qt <| ⟨.inl rfl,bX (.bool false) h1 (bW (ao))⟩
    ·refine qr [.b 3 c0,.b 8 c1,.a 11 (Gf _ _ _ lg h1 _ (er (ab (bT (ab (aA) (ab (aA) (ab (bH) (ab (gu (E:=aa) (l:=x2.1.args) (q:=1) o2 rfl (fun _=>rfl)) (aq)))))) (ab (bT (ab (aA) (ab (aA) (ab (bH) (ab (cQ (E:=aa)) (aq)))))) (aq))))),.b 13 c2,.b 18 c3] ?_
     have oR:Has h1 ((dA,.sl x4.1.nodes.length 4 (db.l (aY x4.1.nodes fA)))::(eR x4.1.nodes fA++L)):=Has.del o2 1
     have s6:Has h1 (L):=Has.gone (pre:=[]) (Has.del oR 0)
     obtain rfl:=oi H
     exact qt <| ⟨.inl rfl,bX (.bool false) h1 (bW (ao))⟩
   ·refine qr [.b 3 c0,.b 8 c1,.a 11 (Gf _ _ _ lg h1 _ (er (ab (bT (ab (aA) (ab (aA) (ab (bH) (ab (gu (E:=aa) (l:=x2.1.args) (q:=1) o2 rfl (fun _=>rfl)) (aq)))))) (ab (bT (ab (aA) (ab (aA) (ab (bH) (ab (cQ (E:=aa)) (aq)))))) (aq))))),.b 13 c2] ?_
    have lP:Has h1 ((dA,.sl x4.1.nodes.length 4 (db.l (aY x4.1.nodes fA)))::(eR x4.1.nodes fA++L)):=Has.del o2 1
    have vH:Has h1 (L):=Has.gone (pre:=[]) (Has.del lP 0)
    obtain rfl:=oi H
    exact qt <| ⟨.inl rfl,bX (.bool false) h1 (bW (ao))⟩
  ·refine qr [.b 3 c0,.b 8 c1] ?_
   have xR:Has h1 ((dA,.sl x4.1.nodes.length 4 (db.l (aY x4.1.nodes fA)))::(eR x4.1.nodes fA++L)):=Has.del o2 1
   have mA:Has h1 (L):=Has.gone (pre:=[]) (Has.del xR 0)
   obtain rfl:=oi H
   exact qt <| ⟨.inl rfl,bX (.bool false) h1 (bW (ao))⟩
 ·refine qr [.b 3 c0] ?_
  have zw:Has h1 ((dA,.sl x4.1.nodes.length 4 (db.l (aY x4.1.nodes fA)))::(eR x4.1.nodes fA++L)):=Has.del o2 1
  have xS:Has h1 (L):=Has.gone (pre:=[]) (Has.del zw 0)
  obtain rfl:=oi H
  exact qt <| ⟨.inl rfl,bX (.bool false) h1 (bW (ao))⟩
end
end Go.Proofs.YtifafejidnjckaaGreat
namespace Go.Proofs.YtifafejidnjckaaGreat
open Go Go.R
open Go.IntKind (i64 u64 u8 u32)
end Go.Proofs.YtifafejidnjckaaGreat
namespace Go.Proofs.YtifafejidnjckaaGreat
open Go Go.R
open Go.IntKind (i64 u64 u8 u32)
end Go.Proofs.YtifafejidnjckaaGreat
namespace Go.Proofs.YtifafejidnjckaaGreat
open Go Go.R
open Go.IntKind (i64 u64 u8 u32)
end Go.Proofs.YtifafejidnjckaaGreat
