/- Part of the proof: Q22, Q24, Q58, Q12, Q20, Q21, Q6, Q7, Q15, Q4, Q5, QA, PA1. -/
import Derived.Test.YtifafejidnjckaaGreatK12
set_option linter.unusedVariables false
set_option linter.unusedSimpArgs false
set_option maxRecDepth 100000
open Int renaming toNat_natCast → aiP
open List renaming getElem?_eq_getElem → aiN, length_cons → aiX, getElem?_append_right → ai0, getD_eq_getElem?_getD → ai2, getElem?_append_left → ai6, length_set → ajw, getElem?_cons_zero → ajx, getElem?_cons_succ → ajV, getElem?_set → aj9
open Nat renaming le_refl → aiQ, zero_add → ajf, sub_self → ajI, add_zero → akj
open Option.some renaming injEq → aiL
open Or renaming inr → ajW, inl → akl
namespace Go.Proofs.YtifafejidnjckaaGreat
open Go Go.R
open Go.IntKind (i64 u64 u8 u32)
def AF:b4:=gL [0,1,3,4,5,6,7,8,9,10,11,14,21,33,35,36,37,38,44,51,52,53] [3,6,10] [4194298,4192250,4194279,4194206,4190110,4194279,4194142,4185950,4194279,4079486,3948414,4078718,3816574,4078718,2505854,408702,2504830,2505854,2505854,4079486,4079486,4194279] [(19,[(10,some 3,0)])] [(3,[(6,some 0,4)]),(11,[(10,some 3,1)])]
def aT.l1 (m:Nat)(s0:ae)(v0:ak):Nat→Int→(List Int)→ae→Option (Int × (List Int) × ae)
 | 0,_,_,_=>none
 | k+1,x3,n0,s2=>if (decide (x3<(v0.args.length:Int)))=true then ((ix n0 x3).bind fun v1=>(ix n0 x3).bind fun v2=>aT.l1 m s0 v0 k (i64.wrap (x3+1)) (n0.set x3.toNat (i64.wrap (v1+(s0.aa.length:Int)))) s2) else (some ((x3,n0,s2)))
def aT.l2 (m:Nat)(s0:ae)(v0:ak):Nat→Int→(List Int)→ae→Option (Int × (List Int) × ae)
 | 0,_,_,_=>none
 | k+1,x7,n2,s4=>if (decide (x7<(v0.args.length:Int)))=true then ((ix n2 x7).bind fun v3=>(ix n2 x7).bind fun v4=>aT.l2 m s0 v0 k (i64.wrap (x7+1)) (n2.set x7.toNat (i64.wrap (v3+(s0.aa.length:Int)))) s4) else (some ((x7,n2,s4)))
def aT.l0 (m:Nat)(s0:ae)(x1:bh × Int):Nat→Int→ae→Option (Int × ae)
 | 0,_,_=>none
 | k+1,x2,s1=>if (decide (x2<(x1.1.nodes.length:Int)))=true then ((ix x1.1.nodes x2).bind fun v0=>if (v0.kind==0)=true then ((aT.l1 m s0 v0 m 0 v0.args s1).bind fun bp=>match bp with | (x4,n1,s3)=>(app 56 s3.aa ([(ak.mk v0.kind (i64.wrap ((s0.aa.length:Int)+x2)) v0.label n1)])).bind fun x5=>(app 8 s3.an ([i64.wrap ((s0.aa.length:Int)+x2)])).bind fun x6=>aT.l0 m s0 x1 k (i64.wrap (x2+1)) (ae.mk s3.ay x5 x6)) else ((aT.l2 m s0 v0 m 0 v0.args s1).bind fun cM=>match cM with | (x8,n3,s5)=>(app 56 s5.aa ([(ak.mk v0.kind v0.int v0.label n3)])).bind fun x9=>(app 8 s5.an ([i64.wrap ((s0.aa.length:Int)+x2)])).bind fun mW=>aT.l0 m s0 x1 k (i64.wrap (x2+1)) (ae.mk s5.ay x9 mW))) else (some ((x2,s1)))
def aT.f (m:Nat)(s0:ae)(t0:bh):Option (Int × Int × ae):=(cH.f m s0).bind fun x0=>if (!x0)=true then (some (0,6,s0)) else ((gT.f m t0).bind fun x1=>if (!(x1.2==0))=true then (some (0,x1.2,s0)) else (if (decide ((i64.wrap ((s0.aa.length:Int)+(x1.1.nodes.length:Int))) > 8000))=true then (some (0,7,s0)) else ((aT.l0 m s0 x1 m 0 s0).bind fun fU=>match fU with | (FD,s6)=>some ((s0.aa.length:Int),0,s6))))
def aT.fin (L:Mem)(au:Nat)(aq:Nat)(az:Nat)(s0:ae)(t0:bh)(r:Int × Int × ae)(s:St):Prop:=∃aB aC:Nat,aK Tryz.prog (s.open AF) Tryz.f22.results.toList=some (.tup [.i r.1,.i r.2.1])∧Has s.h ((au,.ob [.bool r.2.2.ay,.rs aB 0 r.2.2.aa.length 4,.rs aC 0 r.2.2.an.length 1])::(aB,.sl r.2.2.aa.length 4 (af.l r.2.2.aa))::(aC,.sl r.2.2.an.length 1 (ab.l r.2.2.an))::L)
def S22 (cf:CallF)(m:Nat):Prop:=∀(s0:ae) (t0:bh) (r:Int × Int × ae),aT.f m s0 t0=some r→∀h L (au:Nat) (aq:Nat) (az:Nat),Has h ((au,.ob [.bool s0.ay,.rs aq 0 s0.aa.length 4,.rs az 0 s0.an.length 1])::(aq,.sl s0.aa.length 4 (af.l s0.aa))::(az,.sl s0.an.length 1 (ab.l s0.an))::L)→∀xs,xs.map ba=[.ptr au 0,.agg [af.fz t0.nodes,.i t0.root]]→∃aB aC h',cf 22 xs h=some (.tup [.i r.1,.i r.2.1],h')∧Has h' ((au,.ob [.bool r.2.2.ay,.rs aB 0 r.2.2.aa.length 4,.rs aC 0 r.2.2.an.length 1])::(aB,.sl r.2.2.aa.length 4 (af.l r.2.2.aa))::(aC,.sl r.2.2.an.length 1 (ab.l r.2.2.an))::L)
section
variable {cf:CallF}{m:Nat}
theorem aT.iw (L:Mem)(au:Nat)(aq:Nat)(az:Nat)(s0:ae)(t0:bh)(x1:bh × Int)(aX:Nat)(fE:List Nat)(x2:Int)(v0:ak)   : b9 Tryz.prog cf AF m (sub [1,1,1,1,1,1,0,1,0,0,1,1,0,0,1,1,0,1,0,0] (bw Tryz.f22)) (fun k (σ:Int × (List Int) × ae)=>aT.l1 m s0 v0 k σ.1 σ.2.1 σ.2.2) (fun σ s=>match σ with | (x3,n0,s2)=>∃cK dN gM h2,s=⟨.ptr au 0::wF (.i (s0.aa.length:Int) :: .i x2 :: .lp 10 0::l9 [.rs aX 0 x1.1.nodes.length 4,.i (x1.1.nodes.length:Int),.i x2,.any,.any,.i (v0.args.length:Int),.i x3,.any]),[none,none,some [.i v0.kind,.i (i64.wrap ((s0.aa.length:Int)+x2)),.str v0.label,.rs cK 0 n0.length 1]],h2⟩∧Has h2 ((cK,.sl n0.length 1 (ab.l n0))::(aX,.sl x1.1.nodes.length 4 (dJ.l (bm x1.1.nodes fE)))::(au,.ob [.bool s2.ay,.rs dN 0 s2.aa.length 4,.rs gM 0 s2.an.length 1])::(dN,.sl s2.aa.length 4 (af.l s2.aa))::(gM,.sl s2.an.length 1 (ab.l s2.an))::(fA (x1.1.nodes.drop ((i64.wrap (x2+1)).toNat)) (fE.drop ((i64.wrap (x2+1)).toNat))++L))) (fun out e s=>(e = .exit 2∧∃x3 n0 s2,(x3,n0,s2)=out∧∃H2 OH HI cK dN gM h2,s=⟨.ptr au 0::wF (.i (s0.aa.length:Int) :: .i x2 :: .lp 10 0::l9 [.rs aX 0 x1.1.nodes.length 4,.i (x1.1.nodes.length:Int),.i x2,.any,.any,H2,OH,HI]),[none,none,some [.i v0.kind,.i (i64.wrap ((s0.aa.length:Int)+x2)),.str v0.label,.rs cK 0 n0.length 1]],h2⟩∧Has h2 ((cK,.sl n0.length 1 (ab.l n0))::(aX,.sl x1.1.nodes.length 4 (dJ.l (bm x1.1.nodes fE)))::(au,.ob [.bool s2.ay,.rs dN 0 s2.aa.length 4,.rs gM 0 s2.an.length 1])::(dN,.sl s2.aa.length 4 (af.l s2.aa))::(gM,.sl s2.an.length 1 (ab.l s2.an))::(fA (x1.1.nodes.drop ((i64.wrap (x2+1)).toNat)) (fE.drop ((i64.wrap (x2+1)).toNat))++L)))):=by
 refine jF (fun _=>rfl) ?_
 rintro k ⟨x3,n0,s2⟩ s out ⟨cK,dN,gM,h2,rfl,o6⟩ H
 have H:aT.l1 m s0 v0 (k+1) x3 n0 s2=some out:=H
 refine q1 <| qq <| qc H (fun c5 H=>?_) (fun c5 H=>?_)
 ·refine qk <| qq <| qb 3 <| qq <| q0 ?_
  obtain⟨v1,e4,H⟩:=aP H
  obtain⟨v2,e5,H⟩:=aP H
  obtain⟨h3,e6,o7⟩:=dD (P:=Tryz.prog) (tf:=3) (E:=ab) (l:=n0) (q:=0) (v:=(i64.wrap (v1+(s0.aa.length:Int)))) (x:=.i (i64.wrap (v1+(s0.aa.length:Int)))) o6 rfl Z3 e5 rfl rfl
  exact qr [.v 3 (aL (k:=.i64) (E:=ab) (l:=n0) (q:=0) da o6 rfl e4),.v 4 (bq  (E:=ab) (l:=n0) (q:=0) o6 rfl A3 e4 rfl),.v 7 (aL (k:=.i64) (E:=ab) (l:=n0) (q:=0) da o6 rfl e5),.w 8 e6] <| q0 <| ⟨(i64.wrap (x3+1),n0.set x3.toNat (i64.wrap (v1+(s0.aa.length:Int))),s2),⟨cK,dN,gM,h3,ld,(ow o7)⟩,H⟩
 ·exact qx 2 <| ⟨rfl,x3,n0,s2,oi H,.i (v0.args.length:Int),.i x3,.bool (decide (x3<(v0.args.length:Int))),cK,dN,gM,h2,kr,o6⟩
theorem aT.mK (L:Mem)(au:Nat)(aq:Nat)(az:Nat)(s0:ae)(t0:bh)(x1:bh × Int)(aX:Nat)(fE:List Nat)(x2:Int)(v0:ak)   : b9 Tryz.prog cf AF m (sub [1,1,1,1,1,1,0,1,0,0,1,1,0,0,1,1,0,1,0,0] (bw Tryz.f22)) (fun k (σ:Int × (List Int) × ae)=>aT.l2 m s0 v0 k σ.1 σ.2.1 σ.2.2) (fun σ s=>match σ with | (x7,n2,s4)=>∃hY gJ jo h10,s=⟨.ptr au 0::wF (.i (s0.aa.length:Int) :: .i x2 :: .lp 10 0::l9 [.rs aX 0 x1.1.nodes.length 4,.i (x1.1.nodes.length:Int),.i x2,.any,.any,.i (v0.args.length:Int),.i x7,.any]),[none,none,some [.i v0.kind,.i v0.int,.str v0.label,.rs hY 0 n2.length 1]],h10⟩∧Has h10 ((hY,.sl n2.length 1 (ab.l n2))::(aX,.sl x1.1.nodes.length 4 (dJ.l (bm x1.1.nodes fE)))::(au,.ob [.bool s4.ay,.rs gJ 0 s4.aa.length 4,.rs jo 0 s4.an.length 1])::(gJ,.sl s4.aa.length 4 (af.l s4.aa))::(jo,.sl s4.an.length 1 (ab.l s4.an))::(fA (x1.1.nodes.drop ((i64.wrap (x2+1)).toNat)) (fE.drop ((i64.wrap (x2+1)).toNat))++L))) (fun out e s=>(e = .exit 2∧∃x7 n2 s4,(x7,n2,s4)=out∧∃H2 OH HI hY gJ jo h10,s=⟨.ptr au 0::wF (.i (s0.aa.length:Int) :: .i x2 :: .lp 10 0::l9 [.rs aX 0 x1.1.nodes.length 4,.i (x1.1.nodes.length:Int),.i x2,.any,.any,H2,OH,HI]),[none,none,some [.i v0.kind,.i v0.int,.str v0.label,.rs hY 0 n2.length 1]],h10⟩∧Has h10 ((hY,.sl n2.length 1 (ab.l n2))::(aX,.sl x1.1.nodes.length 4 (dJ.l (bm x1.1.nodes fE)))::(au,.ob [.bool s4.ay,.rs gJ 0 s4.aa.length 4,.rs jo 0 s4.an.length 1])::(gJ,.sl s4.aa.length 4 (af.l s4.aa))::(jo,.sl s4.an.length 1 (ab.l s4.an))::(fA (x1.1.nodes.drop ((i64.wrap (x2+1)).toNat)) (fE.drop ((i64.wrap (x2+1)).toNat))++L)))):=by
 refine jF (fun _=>rfl) ?_
 rintro k ⟨x7,n2,s4⟩ s out ⟨hY,gJ,jo,h10,rfl,vW⟩ H
 have H:aT.l2 m s0 v0 (k+1) x7 n2 s4=some out:=H
 refine q1 <| qq <| qc H (fun c6 H=>?_) (fun c6 H=>?_)
 ·refine qk <| qq <| qb 3 <| qq <| q0 ?_
  obtain⟨v3,s8,H⟩:=aP H
  obtain⟨v4,vj,H⟩:=aP H
  obtain⟨h11,yV,Bx⟩:=dD (P:=Tryz.prog) (tf:=3) (E:=ab) (l:=n2) (q:=0) (v:=(i64.wrap (v3+(s0.aa.length:Int)))) (x:=.i (i64.wrap (v3+(s0.aa.length:Int)))) vW rfl Z3 vj rfl rfl
  exact qr [.v 3 (aL (k:=.i64) (E:=ab) (l:=n2) (q:=0) da vW rfl s8),.v 4 (bq  (E:=ab) (l:=n2) (q:=0) vW rfl A3 s8 rfl),.v 7 (aL (k:=.i64) (E:=ab) (l:=n2) (q:=0) da vW rfl vj),.w 8 yV] <| q0 <| ⟨(i64.wrap (x7+1),n2.set x7.toNat (i64.wrap (v3+(s0.aa.length:Int))),s4),⟨hY,gJ,jo,h11,ld,(ow Bx)⟩,H⟩
 ·exact qx 2 <| ⟨rfl,x7,n2,s4,oi H,.i (v0.args.length:Int),.i x7,.bool (decide (x7<(v0.args.length:Int))),hY,gJ,jo,h10,kr,vW⟩
theorem aT.cm (L:Mem)(au:Nat)(aq:Nat)(az:Nat)(s0:ae)(t0:bh)(x1:bh × Int)(aX:Nat)(fE:List Nat)   : b9 Tryz.prog cf AF m (sub [1,1,1,1,1,1,0,1,0,0] (bw Tryz.f22)) (fun k (σ:Int × ae)=>aT.l0 m s0 x1 k σ.1 σ.2) (fun σ s=>match σ with | (x2,s1)=>∃b7 bT h1,s=⟨.ptr au 0::wF (.i (s0.aa.length:Int)::wF (.rs aX 0 x1.1.nodes.length 4 :: .i (x1.1.nodes.length:Int) :: .i x2::sO [])),[none,none,none],h1⟩∧Has h1 ((aX,.sl x1.1.nodes.length 4 (dJ.l (bm x1.1.nodes fE)))::(au,.ob [.bool s1.ay,.rs b7 0 s1.aa.length 4,.rs bT 0 s1.an.length 1])::(b7,.sl s1.aa.length 4 (af.l s1.aa))::(bT,.sl s1.an.length 1 (ab.l s1.an))::(fA (x1.1.nodes.drop x2.toNat) (fE.drop x2.toNat)++L))) (fun out e s=>(e = .exit 0∧∃x2 s1,(x2,s1)=out∧∃lH OE UT HR HS b7 bT h1,s=⟨lH::wF (.i (s0.aa.length:Int)::wF (OE::UT::HR::HS::l9 [])),[none,none,none],h1⟩∧Has h1 ((aX,.sl x1.1.nodes.length 4 (dJ.l (bm x1.1.nodes fE)))::(au,.ob [.bool s1.ay,.rs b7 0 s1.aa.length 4,.rs bT 0 s1.an.length 1])::(b7,.sl s1.aa.length 4 (af.l s1.aa))::(bT,.sl s1.an.length 1 (ab.l s1.an))::(fA (x1.1.nodes.drop x2.toNat) (fE.drop x2.toNat)++L)))):=by
 refine jF (fun _=>rfl) ?_
 rintro k ⟨x2,s1⟩ s out ⟨b7,bT,h1,rfl,o4⟩ H
 have H:aT.l0 m s0 x1 (k+1) x2 s1=some out:=H
 refine q1 <| qq <| qc H (fun c3 H=>?_) (fun c3 H=>?_)
 ·refine qk <| qq <| qb 1 <| qq ?_
  obtain⟨v0,e3,H⟩:=aP H
  have o5:=N0 (pre:=[(aX,.sl x1.1.nodes.length 4 (dJ.l (bm x1.1.nodes fE))),(au,.ob [.bool s1.ay,.rs b7 0 s1.aa.length 4,.rs bT 0 s1.an.length 1]),(b7,.sl s1.aa.length 4 (af.l s1.aa)),(bT,.sl s1.an.length 1 (ab.l s1.an))]) (q:=0) (ns:=x1.1.nodes) (ids:=fE) o4 rfl e3
  refine qr [.v 1 (aL (k:=.i64) (E:=dJ) (l:=(bm x1.1.nodes fE)) (q:=0) lJ o4 rfl (lb e3)),.v 2 (u9  (E:=dJ) (l:=(bm x1.1.nodes fE)) (q:=0) o4 rfl tE tF (lb e3))] <| qq <| qq <| q0 <| qc H (fun c4 H=>?_) (fun c4 H=>?_)
  ·refine q0 <| qq <| qq <| q0 <| qb 2 ?_
   obtain⟨bp,e7,H⟩:=aP H
   refine ql (aT.iw L au aq az s0 t0 x1 aX fE x2 v0   (0,v0.args,s1) _ _ ⟨(Mw fE x2),b7,bT,h1,kr,o5⟩ e7) ?_
   rintro e s ⟨rfl,x4,n1,s3,rfl,g0,g1,g2,iy,iM,kl,h4,rfl,o8⟩
   try dsimp only at H
   obtain⟨h5,e8,o9⟩:=lQ (E:=ab) (l:=n1) (q:=0) o8 rfl
   obtain⟨x5,e9,H⟩:=aP H
   obtain⟨kP,h6,ma,s9⟩:=eu (P:=Tryz.prog) (E:=af) (l:=s3.aa) (q:=2) (t2:=23) (x:=.fz [.i v0.kind,.i (i64.wrap ((s0.aa.length:Int)+x2)),.str v0.label,ab.fz n1] 1 true) (l2:=([(ak.mk v0.kind (i64.wrap ((s0.aa.length:Int)+x2)) v0.label n1)])) lJ o9 rfl kr rfl e9
   obtain⟨x6,nH,H⟩:=aP H
   obtain⟨fC,h7,oS,qP⟩:=eu (P:=Tryz.prog) (E:=ab) (l:=s3.an) (q:=3) (t2:=22) (x:=.fz [.i (i64.wrap ((s0.aa.length:Int)+x2))] 1 true) (l2:=([i64.wrap ((s0.aa.length:Int)+x2)])) da s9 rfl kr rfl nH
   obtain⟨h8,rF,wP⟩:=mV (P:=Tryz.prog) (t:=23) (off:=1) (q:=1) (cs:=[.bool s3.ay,.rs iM 0 s3.aa.length 4,.rs kl 0 s3.an.length 1]) (iO:=[.bool s3.ay,.rs kP 0 x5.length 4,.rs kl 0 s3.an.length 1]) (x:=.rs kP 0 x5.length 4) qP rfl kr
   obtain⟨h9,s7,mX⟩:=mV (P:=Tryz.prog) (t:=22) (off:=2) (q:=1) (cs:=[.bool s3.ay,.rs kP 0 x5.length 4,.rs kl 0 s3.an.length 1]) (iO:=[.bool s3.ay,.rs kP 0 x5.length 4,.rs fC 0 x6.length 1]) (x:=.rs fC 0 x6.length 1) wP rfl kr
   exact V6 [.a 0 e8] [.v 5 (show bR Tryz.prog h5 23 (.ptr au 1)=some (.rs iM 0 s3.aa.length 4) from cJ (q:=1) (cs:=[.bool s3.ay,.rs iM 0 s3.aa.length 4,.rs kl 0 s3.an.length 1]) o9 rfl kr),.a 8 ma,.v 12 (show bR Tryz.prog h6 22 (.ptr au 2)=some (.rs kl 0 s3.an.length 1) from cJ (q:=1) (cs:=[.bool s3.ay,.rs iM 0 s3.aa.length 4,.rs kl 0 s3.an.length 1]) s9 rfl kr),.a 17 oS,.w 20 rF,.w 23 s7] [.mk (HE o9 (q:=2) rfl (q2:=1) rfl (by decide) ma)] <| q0 <| ⟨(i64.wrap (x2+1),(ae.mk s3.ay x5 x6)),⟨kP,fC,h9,kr,mX⟩,H⟩
  ·refine qk <| qq <| qq <| q0 <| qb 2 ?_
   obtain⟨cM,yW,H⟩:=aP H
   refine ql (aT.mK L au aq az s0 t0 x1 aX fE x2 v0   (0,v0.args,s1) _ _ ⟨(Mw fE x2),b7,bT,h1,kr,o5⟩ yW) ?_
   rintro e s ⟨rfl,x8,n3,s5,rfl,g3,g4,g5,kO,jT,lk,h12,rfl,pn⟩
   try dsimp only at H
   obtain⟨h13,vq,yX⟩:=lQ (E:=ab) (l:=n3) (q:=0) pn rfl
   obtain⟨x9,Bd,H⟩:=aP H
   obtain⟨oK,h14,Bu,oM⟩:=eu (P:=Tryz.prog) (E:=af) (l:=s5.aa) (q:=2) (t2:=23) (x:=.fz [.i v0.kind,.i v0.int,.str v0.label,ab.fz n3] 1 true) (l2:=([(ak.mk v0.kind v0.int v0.label n3)])) lJ yX rfl kr rfl Bd
   obtain⟨mW,Bv,H⟩:=aP H
   obtain⟨oL,h15,Be,Ao⟩:=eu (P:=Tryz.prog) (E:=ab) (l:=s5.an) (q:=3) (t2:=22) (x:=.fz [.i (i64.wrap ((s0.aa.length:Int)+x2))] 1 true) (l2:=([i64.wrap ((s0.aa.length:Int)+x2)])) da oM rfl kr rfl Bv
   obtain⟨h16,Bw,LP⟩:=mV (P:=Tryz.prog) (t:=23) (off:=1) (q:=1) (cs:=[.bool s5.ay,.rs jT 0 s5.aa.length 4,.rs lk 0 s5.an.length 1]) (iO:=[.bool s5.ay,.rs oK 0 x9.length 4,.rs lk 0 s5.an.length 1]) (x:=.rs oK 0 x9.length 4) Ao rfl kr
   obtain⟨h17,DM,yp⟩:=mV (P:=Tryz.prog) (t:=22) (off:=2) (q:=1) (cs:=[.bool s5.ay,.rs oK 0 x9.length 4,.rs lk 0 s5.an.length 1]) (iO:=[.bool s5.ay,.rs oK 0 x9.length 4,.rs oL 0 mW.length 1]) (x:=.rs oL 0 mW.length 1) LP rfl kr
   exact V6 [.a 0 vq] [.v 5 (show bR Tryz.prog h13 23 (.ptr au 1)=some (.rs jT 0 s5.aa.length 4) from cJ (q:=1) (cs:=[.bool s5.ay,.rs jT 0 s5.aa.length 4,.rs lk 0 s5.an.length 1]) yX rfl kr),.a 8 Bu,.v 12 (show bR Tryz.prog h14 22 (.ptr au 2)=some (.rs lk 0 s5.an.length 1) from cJ (q:=1) (cs:=[.bool s5.ay,.rs jT 0 s5.aa.length 4,.rs lk 0 s5.an.length 1]) oM rfl kr),.a 17 Be,.w 20 Bw,.w 23 DM] [.mk (HE yX (q:=2) rfl (q2:=1) rfl (by decide) Bu)] <| q0 <| ⟨(i64.wrap (x2+1),(ae.mk s5.ay x9 mW)),⟨oK,oL,h17,kr,yp⟩,H⟩
 ·exact qx 0 <| ⟨rfl,x2,s1,oi H,.ptr au 0,.rs aX 0 x1.1.nodes.length 4,.i (x1.1.nodes.length:Int),.i x2,.bool (decide (x2<(x1.1.nodes.length:Int))),b7,bT,h1,kr,o4⟩
theorem sB {aW:FuncId→b4}(ha:aW 22=AF)(Vk:S25 cf m)(Dx:V9 cf m)(s0:ae)(t0:bh)(h:AHeap)(L:Mem)(au:Nat)(aq:Nat)(az:Nat)  (o:Has h ((au,.ob [.bool s0.ay,.rs aq 0 s0.aa.length 4,.rs az 0 s0.an.length 1])::(aq,.sl s0.aa.length 4 (af.l s0.aa))::(az,.sl s0.an.length 1 (ab.l s0.an))::L)){out:Int × Int × ae}(H:aT.f m s0 t0=some out) :
  ∃r h',bj Tryz.prog aW cf m 22 [.ptr au 0,.agg [af.fz t0.nodes,.i t0.root]] h=some (r,h')∧∃aB aC:Nat,r = .tup [.i out.1,.i out.2.1]∧Has h' ((au,.ob [.bool out.2.2.ay,.rs aB 0 out.2.2.aa.length 4,.rs aC 0 out.2.2.an.length 1])::(aB,.sl out.2.2.aa.length 4 (af.l out.2.2.aa))::(aC,.sl out.2.2.an.length 1 (ab.l out.2.2.an))::L):=by
 refine aw (fn:=Tryz.f22) ha Tryz.func22 kr kr ?_
 refine aI (Q:=fun s=>aT.fin L au aq az s0 t0 out s) (fun _ _ ⟨h1,aB,aC,h2,h3⟩=>⟨h1,_,h2,aB,aC,rfl,h3⟩) ?_
 have H:_=some out:=H
 unfold aT.f at H
 show dE _ cf AF m _ ⟨.ptr au 0 :: .agg [af.fz t0.nodes,.i t0.root]::Xg [],[none,none,none],h⟩ _
 refine q1 <| qq <| qq ?_
 obtain⟨x0,e0,H⟩:=aP H
 refine qr [.a 1 (Dx _ _ e0 h _ (ia (ai (dM (q:=0) o rfl (ai (eM) (ai (cC (E:=af) (l:=s0.aa) (q:=1) o rfl (fun _=>rfl)) (ai (cC (E:=ab) (l:=s0.an) (q:=2) o rfl (fun _=>rfl)) (aD))))) (aD))))] <| qc H (fun c0 H=>?_) (fun c0 H=>?_)
 ·obtain rfl:=oi H
  exact q1 <| qt <| ⟨.inl rfl,⟨aq,az,kr,he o⟩⟩
 ·refine qk <| qq ?_
  obtain⟨x1,e1,H⟩:=aP H
  obtain⟨aX,fE,h0,e2,o0,Lc⟩:=Vk _ _ e1 h _ _ o fq
  have o1:=Has.zZ (pre:=[(aX,.sl x1.1.nodes.length 4 (dJ.l (bm x1.1.nodes fE)))]) (N:=[(au,.ob [.bool s0.ay,.rs aq 0 s0.aa.length 4,.rs az 0 s0.an.length 1]),(aq,.sl s0.aa.length 4 (af.l s0.aa)),(az,.sl s0.an.length 1 (ab.l s0.an))]) (mid:=fA x1.1.nodes fE) o0
  refine qr [.a 1 e2] <| qq <| qq <| q0 <| qc H (fun c1 H=>?_) (fun c1 H=>?_)
  ·refine q1 ?_
   have o2:Has h0 ((au,.ob [.bool s0.ay,.rs aq 0 s0.aa.length 4,.rs az 0 s0.an.length 1])::(aq,.sl s0.aa.length 4 (af.l s0.aa))::(az,.sl s0.an.length 1 (ab.l s0.an))::L):=Has.gone (pre:=[(au,.ob [.bool s0.ay,.rs aq 0 s0.aa.length 4,.rs az 0 s0.an.length 1]),(aq,.sl s0.aa.length 4 (af.l s0.aa)),(az,.sl s0.an.length 1 (ab.l s0.an))]) (iC o1 0)
   obtain rfl:=oi H
   exact qt <| ⟨.inl rfl,⟨aq,az,kr,he o2⟩⟩
  ·refine qk <| qq <| qr [.v 3 (show bR Tryz.prog h0 23 (.ptr au 1)=some (.rs aq 0 s0.aa.length 4) from cJ (q:=1) (cs:=[.bool s0.ay,.rs aq 0 s0.aa.length 4,.rs az 0 s0.an.length 1]) o1 rfl kr)] <| qq <| qq <| q0 <| qc H (fun c2 H=>?_) (fun c2 H=>?_)
   ·refine q1 ?_
    have o3:Has h0 ((au,.ob [.bool s0.ay,.rs aq 0 s0.aa.length 4,.rs az 0 s0.an.length 1])::(aq,.sl s0.aa.length 4 (af.l s0.aa))::(az,.sl s0.an.length 1 (ab.l s0.an))::L):=Has.gone (pre:=[(au,.ob [.bool s0.ay,.rs aq 0 s0.aa.length 4,.rs az 0 s0.an.length 1]),(aq,.sl s0.aa.length 4 (af.l s0.aa)),(az,.sl s0.an.length 1 (ab.l s0.an))]) (iC o1 0)
    obtain rfl:=oi H
    exact qt <| ⟨.inl rfl,⟨aq,az,kr,he o3⟩⟩
   ·refine qk <| qq <| qq <| q0 <| qb 0 ?_
    obtain⟨fU,DS,H⟩:=aP H
    refine ql (aT.cm L au aq az s0 t0 x1 aX fE   (0,s0) _ _ ⟨aq,az,h0,kr,o1⟩ DS) ?_
    rintro e s ⟨rfl,FD,s6,rfl,g6,g7,g8,g9,g10,um,jH,h18,rfl,xN⟩
    try dsimp only at H
    refine q1 ?_
    have JL:Has h18 ((au,.ob [.bool s6.ay,.rs um 0 s6.aa.length 4,.rs jH 0 s6.an.length 1])::(um,.sl s6.aa.length 4 (af.l s6.aa))::(jH,.sl s6.an.length 1 (ab.l s6.an))::L):=Has.gone (pre:=[(au,.ob [.bool s6.ay,.rs um 0 s6.aa.length 4,.rs jH 0 s6.an.length 1]),(um,.sl s6.aa.length 4 (af.l s6.aa)),(jH,.sl s6.an.length 1 (ab.l s6.an))]) (iC xN 0)
    obtain rfl:=oi H
    exact qt <| ⟨.inl rfl,⟨um,jH,kr,he JL⟩⟩
end
def AG:b4:=gL [0,1,4,5,6,7,8,9,10,11,13,14,15,16,22,29,30,31,32,40,41,42,43,50,51,52,53] [4,11,14] [134217720,134217704,134201320,134217715,134217690,134217626,133988250,133726106,133987866,133988250,133988250,134217114,130547130,126352826,130546106,130545082,71824826,4715962,71812538,71824826,71824826,130547130,130547130,134217715] [(21,[(14,some 3,0)])] [(0,[(4,some 0,4)]),(3,[(4,some 0,4)]),(11,[(11,some 0,4)]),(15,[(14,some 3,1)])]
def aN.l0 (m:Nat)(x1:(List Int)):Nat→(List (Int × Int))→Int→Option ((List (Int × Int)) × Int)
 | 0,_,_=>none
 | k+1,cX,x2=>if (decide (x2<(x1.length:Int)))=true then ((ix x1 x2).bind fun v0=>aN.l0 m x1 k (Es cX v0 x2) (i64.wrap (x2+1))) else (some ((cX,x2)))
def aN.l2 (m:Nat)(aV:List (Int × Int))(x5:ak):Nat→(List Int)→Int→Option ((List Int) × Int)
 | 0,_,_=>none
 | k+1,x6,x7=>if (decide (x7<(x5.args.length:Int)))=true then ((ix x6 x7).bind fun v2=>(ix x6 x7).bind fun v3=>aN.l2 m aV x5 k (x6.set x7.toNat ((qX aV v2).1)) (i64.wrap (x7+1))) else (some ((x6,x7)))
def aN.l1 (m:Nat)(s0:ae)(x1:(List Int))(aV:List (Int × Int)):Nat→Int→(List ak)→Int→Option (Int × (List ak) × Int)
 | 0,_,_,_=>none
 | k+1,x4,t0,t1=>if (decide (x4<(x1.length:Int)))=true then ((ix x1 x4).bind fun v1=>(bQ.f m s0 v1).bind fun x5=>(aN.l2 m aV x5 m x5.args 0).bind fun cM=>match cM with | (x8,x9)=>(app 56 t0 ([(ak.mk x5.kind x5.int x5.label x8)])).bind fun mW=>aN.l1 m s0 x1 aV k (i64.wrap (x4+1)) mW t1) else (some ((x4,t0,t1)))
def aN.f (m:Nat)(s0:ae)(n0:Int):Option (bh × Int):=(cQ.f m s0 ([n0])).bind fun x0=>if (!(x0==0))=true then (some ((bh.mk ([]:List ak) 0),x0)) else ((a7.f m s0 n0).bind fun x1=>(aN.l0 m x1 m ([]:List (Int × Int)) 0).bind fun bp=>match bp with | (aV,x3)=>(aN.l1 m s0 x1 aV m 0 ([]:List ak) 0).bind fun fU=>match fU with | (FD,t2,t3)=>(gT.f m (bh.mk t2 t3)).bind fun uy=>some (uy.1,uy.2))
def aN.fin (L:Mem)  (r:bh × Int)(s:St):Prop:=∃(cR:Nat) (dT:List Nat),aK Tryz.prog (s.open AG) Tryz.f24.results.toList=some (.tup [.agg [.rs cR 0 r.1.nodes.length 4,.i r.1.root],.i r.2])∧Has s.h ((cR,.sl r.1.nodes.length 4 (dJ.l (bm r.1.nodes dT)))::(fA r.1.nodes dT++L))
def S24 (cf:CallF)(m:Nat):Prop:=∀(s0:ae) (n0:Int) (r:bh × Int),aN.f m s0 n0=some r→∀h L xs,Has h L→bl cd h xs [.fp [.bool s0.ay,af.fz s0.aa,ab.fz s0.an] 0,.i n0]→∃(cR:Nat) (dT:List Nat) (h':AHeap),cf 24 xs h=some (.tup [.agg [.rs cR 0 r.1.nodes.length 4,.i r.1.root],.i r.2],h')∧Has h' ((cR,.sl r.1.nodes.length 4 (dJ.l (bm r.1.nodes dT)))::(fA r.1.nodes dT++L))∧∀j,j<h.next→h.ver j=h'.ver j
section
variable {cf:CallF}{m:Nat}
theorem aN.cm (L:Mem)(s0:ae)(x1:(List Int))(aX:Nat)(b7:Nat)   : b9 Tryz.prog cf AG m (sub [1,1,1,1,0,1,0,0] (bw Tryz.f24)) (fun k (σ:(List (Int × Int)) × Int)=>aN.l0 m x1 k σ.1 σ.2) (fun σ s=>match σ with | (cX,x2)=>∃h2,s=⟨.fp [.bool s0.ay,af.fz s0.aa,ab.fz s0.an] 0 :: .any :: .lp 4 0 :: .any :: .any :: .rs aX 0 x1.length 1 :: .mp b7::tX (.rs aX 0 x1.length 1 :: .i (x1.length:Int) :: .i x2::NJ []),[some [.rs (0) 0 (([]:List ak).length) 4,.i 0],none,none],h2⟩∧Has h2 ((b7,.mp (qO cX))::(aX,.sl x1.length 1 (ab.l x1))::((0),.sl (([]:List ak).length) 4 (dJ.l (bm ([]:List ak) ([]:List Nat))))::L)) (fun out e s=>(e = .exit 0∧∃cX x2,(cX,x2)=out∧∃U5 HQ HW Vi h2,s=⟨.fp [.bool s0.ay,af.fz s0.aa,ab.fz s0.an] 0 :: .any :: .lp 4 0 :: .any :: .any :: .rs aX 0 x1.length 1 :: .mp b7::tX (U5::HQ::HW::Vi::tX []),[some [.rs (0) 0 (([]:List ak).length) 4,.i 0],none,none],h2⟩∧Has h2 ((b7,.mp (qO cX))::(aX,.sl x1.length 1 (ab.l x1))::((0),.sl (([]:List ak).length) 4 (dJ.l (bm ([]:List ak) ([]:List Nat))))::L))):=by
 refine jF (fun _=>rfl) ?_
 rintro k ⟨cX,x2⟩ s out ⟨h2,rfl,o5⟩ H
 have H:aN.l0 m x1 (k+1) cX x2=some out:=H
 refine q1 <| qq <| qc H (fun c1 H=>?_) (fun c1 H=>?_)
 ·refine qk <| qq <| qb 1 <| qq ?_
  obtain⟨v0,e4,H⟩:=aP H
  refine qr [.v 1 (aL (k:=.i64) (E:=ab) (l:=x1) (q:=1) da o5 rfl e4),.v 2 (bq  (E:=ab) (l:=x1) (q:=1) o5 rfl A3 e4 rfl)] ?_
  obtain⟨h3,e5,o6⟩:=Xe (q:=0) (l:=cX) (k:=v0) (v:=x2) Rr o5 rfl
  exact qr [.w 3 e5] <| q0 <| ⟨(Es cX v0 x2,i64.wrap (x2+1)),⟨h3,kr,o6⟩,H⟩
 ·exact qx 0 <| ⟨rfl,cX,x2,oi H,.rs aX 0 x1.length 1,.i (x1.length:Int),.i x2,.bool (decide (x2<(x1.length:Int))),h2,kr,o5⟩
theorem aN.mK (L:Mem)(s0:ae)(x1:(List Int))(aX:Nat)(b7:Nat)(aV:List (Int × Int))(bT:Nat)(x4:Int)(t0:List ak)(t1:Int)(bT:Nat)(x5:ak)   : b9 Tryz.prog cf AG m (sub [1,1,1,1,1,1,0,1,0,0,1,1,0,0,1,1,0,1,0,0] (bw Tryz.f24)) (fun k (σ:(List Int) × Int)=>aN.l2 m aV x5 k σ.1 σ.2) (fun σ s=>match σ with | (x6,x7)=>∃dN h7,s=⟨.fp [.bool s0.ay,af.fz s0.aa,ab.fz s0.an] 0 :: .any :: .lp 4 0::nc (.mp b7 :: .any :: .any :: .lp 11 0 :: .any :: .lp 14 0::B0 [.rs aX 0 x1.length 1,.i (x1.length:Int),.i x4,.any,.rs dN 0 x6.length 1,.i (x5.args.length:Int),.i x7,.any]),[some [.rs (0) 0 (([]:List ak).length) 4,.i 0],some [.rs bT 0 t0.length 4,.i t1],some [.i x5.kind,.i x5.int,.str x5.label,.rs dN 0 x6.length 1]],h7⟩∧Has h7 ((dN,.sl x6.length 1 (ab.l x6))::(bT,.sl t0.length 4 (af.l t0))::(b7,.mp (qO aV))::(aX,.sl x1.length 1 (ab.l x1))::((0),.sl (([]:List ak).length) 4 (dJ.l (bm ([]:List ak) ([]:List Nat))))::L)) (fun out e s=>(e = .exit 4∧∃x6 x7,(x6,x7)=out∧∃Oa H2 OH HI dN h7,s=⟨.fp [.bool s0.ay,af.fz s0.aa,ab.fz s0.an] 0 :: .any :: .lp 4 0::nc (.mp b7 :: .any :: .any :: .lp 11 0 :: .any :: .lp 14 0::B0 [.rs aX 0 x1.length 1,.i (x1.length:Int),.i x4,.any,Oa,H2,OH,HI]),[some [.rs (0) 0 (([]:List ak).length) 4,.i 0],some [.rs bT 0 t0.length 4,.i t1],some [.i x5.kind,.i x5.int,.str x5.label,.rs dN 0 x6.length 1]],h7⟩∧Has h7 ((dN,.sl x6.length 1 (ab.l x6))::(bT,.sl t0.length 4 (af.l t0))::(b7,.mp (qO aV))::(aX,.sl x1.length 1 (ab.l x1))::((0),.sl (([]:List ak).length) 4 (dJ.l (bm ([]:List ak) ([]:List Nat))))::L))):=by
 refine jF (fun _=>rfl) ?_
 rintro k ⟨x6,x7⟩ s out ⟨dN,h7,rfl,qP⟩ H
 have H:aN.l2 m aV x5 (k+1) x6 x7=some out:=H
 refine q1 <| qq <| qc H (fun c3 H=>?_) (fun c3 H=>?_)
 ·refine qk <| qq <| qb 5 <| qq ?_
  obtain⟨v2,ma,H⟩:=aP H
  refine qr [.v 1 (aL (k:=.i64) (E:=ab) (l:=x6) (q:=0) da qP rfl ma),.v 2 (bq  (E:=ab) (l:=x6) (q:=0) qP rfl A3 ma rfl)] ?_
  obtain⟨v3,nH,H⟩:=aP H
  obtain⟨h8,oS,wP⟩:=dD (P:=Tryz.prog) (tf:=3) (E:=ab) (l:=x6) (q:=0) (v:=((qX aV v2).1)) (x:=.i ((qX aV v2).1)) qP rfl Z3 nH rfl rfl
  exact qr [.v 5 (show hZ Tryz.prog h7 84 (.mp b7) (.i v2) false=some (.i ((qX aV v2).1)) from (Xd (q:=2) (l:=aV) (k:=v2) Rr qP rfl).2),.v 6 (aL (k:=.i64) (E:=ab) (l:=x6) (q:=0) da qP rfl nH),.w 7 oS] <| q0 <| ⟨(x6.set x7.toNat ((qX aV v2).1),i64.wrap (x7+1)),⟨dN,h8,ld,(ow wP)⟩,H⟩
 ·exact qx 4 <| ⟨rfl,x6,x7,oi H,.rs dN 0 x6.length 1,.i (x5.args.length:Int),.i x7,.bool (decide (x7<(x5.args.length:Int))),dN,h7,kr,qP⟩
theorem aN.iw (L:Mem)(s0:ae)(x1:(List Int))(aX:Nat)(b7:Nat)(aV:List (Int × Int))  (Oz:Zf cf m):b9 Tryz.prog cf AG m (sub [1,1,1,1,1,1,0,1,0,0] (bw Tryz.f24)) (fun k (σ:Int × (List ak) × Int)=>aN.l1 m s0 x1 aV k σ.1 σ.2.1 σ.2.2) (fun σ s=>match σ with | (x4,t0,t1)=>∃bT h5,s=⟨.fp [.bool s0.ay,af.fz s0.aa,ab.fz s0.an] 0 :: .any :: .lp 4 0::nc (.mp b7 :: .any :: .any :: .lp 11 0::NJ (.rs aX 0 x1.length 1 :: .i (x1.length:Int) :: .i x4::sO [])),[some [.rs (0) 0 (([]:List ak).length) 4,.i 0],some [.rs bT 0 t0.length 4,.i t1],none],h5⟩∧Has h5 ((bT,.sl t0.length 4 (af.l t0))::(b7,.mp (qO aV))::(aX,.sl x1.length 1 (ab.l x1))::((0),.sl (([]:List ak).length) 4 (dJ.l (bm ([]:List ak) ([]:List Nat))))::L)) (fun out e s=>(e = .exit 2∧∃x4 t0 t1,(x4,t0,t1)=out∧∃lH ud OG abx UF aby bT h5,s=⟨lH :: .any :: .lp 4 0::nc (ud :: .any :: .any :: .lp 11 0::NJ (OG::abx::UF::aby::l9 [])),[some [.rs (0) 0 (([]:List ak).length) 4,.i 0],some [.rs bT 0 t0.length 4,.i t1],none],h5⟩∧Has h5 ((bT,.sl t0.length 4 (af.l t0))::(b7,.mp (qO aV))::(aX,.sl x1.length 1 (ab.l x1))::((0),.sl (([]:List ak).length) 4 (dJ.l (bm ([]:List ak) ([]:List Nat))))::L))):=by
 refine jF (fun _=>rfl) ?_
 rintro k ⟨x4,t0,t1⟩ s out ⟨bT,h5,rfl,o9⟩ H
 have H:aN.l1 m s0 x1 aV (k+1) x4 t0 t1=some out:=H
 refine q1 <| qq <| qc H (fun c2 H=>?_) (fun c2 H=>?_)
 ·refine qk <| qq <| qb 3 <| qq ?_
  obtain⟨v1,e7,H⟩:=aP H
  refine qr [.v 0 (aL (k:=.i64) (E:=ab) (l:=x1) (q:=2) da o9 rfl e7),.v 1 (bq  (E:=ab) (l:=x1) (q:=2) o9 rfl A3 e7 rfl)] <| qq ?_
  obtain⟨x5,e8,H⟩:=aP H
  obtain⟨cK,h6,e9,s9,SD⟩:=Oz _ _ _ e8 h5 _ _ o9 (ia (ai (cV (pure_cons (bc) (pure_cons (bM.aJ (E:=af) (l:=s0.aa)) (pure_cons (bM.aJ (E:=ab) (l:=s0.an)) (pure_nil))))) (ai (aU) (aD))))
  refine qr [.a 2 e9] <| qq <| qq <| q0 <| qb 4 ?_
  obtain⟨cM,rF,H⟩:=aP H
  refine ql (aN.mK L s0 x1 aX b7 aV bT x4 t0 t1 bT x5   (x5.args,0) _ _ ⟨cK,h6,kr,s9⟩ rF) ?_
  rintro e s ⟨rfl,x8,x9,rfl,g4,g5,g6,g7,gM,h9,rfl,mX⟩
  try dsimp only at H
  obtain⟨h10,s7,vW⟩:=lQ (E:=ab) (l:=x8) (q:=0) mX rfl
  obtain⟨mW,s8,H⟩:=aP H
  obtain⟨iy,h11,vj,Bx⟩:=eu (P:=Tryz.prog) (E:=af) (l:=t0) (q:=0) (t2:=23) (x:=.fz [.i x5.kind,.i x5.int,.str x5.label,ab.fz x8] 1 true) (l2:=([(ak.mk x5.kind x5.int x5.label x8)])) lJ vW rfl kr rfl s8
  exact Jb [.a 0 s7] [.a 4 vj] <| q0 <| ⟨(i64.wrap (x4+1),mW,t1),⟨iy,h11,kr,Bx⟩,H⟩
 ·exact qx 2 <| ⟨rfl,x4,t0,t1,oi H,.fp [.bool s0.ay,af.fz s0.aa,ab.fz s0.an] 0,.mp b7,.rs aX 0 x1.length 1,.i (x1.length:Int),.i x4,.bool (decide (x4<(x1.length:Int))),bT,h5,kr,o9⟩
theorem rC {aW:FuncId→b4}(ha:aW 24=AG)(Vk:S25 cf m)(AB:U8 cf m)(Vd:S60 cf m)(Oz:Zf cf m)(s0:ae)(n0:Int)(h:AHeap)(L:Mem)  (o:Has h (L)){out:bh × Int}(H:aN.f m s0 n0=some out) :
  ∃r h',bj Tryz.prog aW cf m 24 [.fp [.bool s0.ay,af.fz s0.aa,ab.fz s0.an] 0,.i n0] h=some (r,h')∧∃(cR:Nat) (dT:List Nat),r = .tup [.agg [.rs cR 0 out.1.nodes.length 4,.i out.1.root],.i out.2]∧Has h' ((cR,.sl out.1.nodes.length 4 (dJ.l (bm out.1.nodes dT)))::(fA out.1.nodes dT++L)):=by
 refine aw (fn:=Tryz.f24) ha Tryz.func24 kr kr ?_
 refine aI (Q:=fun s=>aN.fin L out s) (fun _ _ ⟨h1,cR,dT,h2,h3⟩=>⟨h1,_,h2,cR,dT,rfl,h3⟩) ?_
 have H:_=some out:=H
 unfold aN.f at H
 show dE _ cf AG m _ ⟨.fp [.bool s0.ay,af.fz s0.aa,ab.fz s0.an] 0 :: .i n0::Re [],[none,none,none],h⟩ _
 refine q1 ?_
 have o0:Has h (((0),.sl (([]:List ak).length) 4 (dJ.l (bm ([]:List ak) ([]:List Nat))))::L):=Has.nil o 4
 refine qq <| qq ?_
 obtain⟨x0,e0,H⟩:=aP H
 refine qr [.a 3 (AB _ _ _ e0 h _ (ia (ai (cV (pure_cons (bc) (pure_cons (bM.aJ (E:=af) (l:=s0.aa)) (pure_cons (bM.aJ (E:=ab) (l:=s0.an)) (pure_nil))))) (ai (rW (E:=ab) (l:=[n0]) (cs:=[.i n0]) (b:=true) kr kr rfl) (aD)))))] <| qq <| q0 <| qc H (fun c0 H=>?_) (fun c0 H=>?_)
 ·refine q1 ?_
  have o1:Has h ((((0)),.sl (([]:List ak).length) 4 (dJ.l (bm ([]:List ak) ([]:List Nat))))::((0),.sl (([]:List ak).length) 4 (dJ.l (bm ([]:List ak) ([]:List Nat))))::L):=Has.nil o0 4
  have o2:Has h ((((0)),.sl (([]:List ak).length) 4 (dJ.l (bm ([]:List ak) ([]:List Nat))))::L):=iC o1 1
  obtain rfl:=oi H
  exact qt <| ⟨.inl rfl,⟨((0)),([]:List Nat),kr,he o2⟩⟩
 ·refine qk <| qq ?_
  obtain⟨x1,e1,H⟩:=aP H
  obtain⟨aX,h0,e2,o3,Lc⟩:=Vd _ _ _ e1 h _ _ o0 (ia (ai (cV (pure_cons (bc) (pure_cons (bM.aJ (E:=af) (l:=s0.aa)) (pure_cons (bM.aJ (E:=ab) (l:=s0.an)) (pure_nil))))) (ai (aU) (aD))))
  refine qr [.a 2 e2] <| qq ?_
  obtain⟨b7,h1,e3,o4⟩:=Dm o3
  refine qr [.m 0 e3] <| qq <| qq <| q0 <| qb 0 ?_
  obtain⟨bp,e6,H⟩:=aP H
  refine ql (aN.cm L s0 x1 aX b7   (([]:List (Int × Int)),0) _ _ ⟨h1,kr,o4⟩ e6) ?_
  rintro e s ⟨rfl,aV,x3,rfl,g0,g1,g2,g3,h4,rfl,o7⟩
  try dsimp only at H
  refine q1 ?_
  have o8:Has h4 (((((0))),.sl (([]:List ak).length) 4 (af.l ([]:List ak)))::(b7,.mp (qO aV))::(aX,.sl x1.length 1 (ab.l x1))::((0),.sl (([]:List ak).length) 4 (dJ.l (bm ([]:List ak) ([]:List Nat))))::L):=Has.nil o7 4
  refine qq <| qq <| q0 <| qb 2 ?_
  obtain⟨fU,yV,H⟩:=aP H
  refine ql (aN.iw L s0 x1 aX b7 aV  Oz (0,([]:List ak),0) _ _ ⟨(((0))),h4,kr,o8⟩ yV) ?_
  rintro e s ⟨rfl,FD,t2,t3,rfl,g8,g9,g10,g11,g12,g13,iM,h12,rfl,pn⟩
  try dsimp only at H
  refine qq ?_
  obtain⟨uy,yW,H⟩:=aP H
  obtain⟨kl,nP,h13,vq,yX,SB⟩:=Vk _ _ yW h12 _ _ pn (ia (ai (eJ (ai (cC (E:=af) (l:=t2) (q:=0) pn rfl (fun _=>rfl)) (ai (aU) (aD)))) (aD)))
  have oM:=Has.zZ (pre:=[(kl,.sl uy.1.nodes.length 4 (dJ.l (bm uy.1.nodes nP)))]) (N:=[(iM,.sl t2.length 4 (af.l t2)),(b7,.mp (qO aV)),(aX,.sl x1.length 1 (ab.l x1)),((0),.sl (([]:List ak).length) 4 (dJ.l (bm ([]:List ak) ([]:List Nat))))]) (mid:=fA uy.1.nodes nP) yX
  refine qr [.a 1 vq] ?_
  have Ao:Has h13 ((kl,.sl uy.1.nodes.length 4 (dJ.l (bm uy.1.nodes nP)))::(iM,.sl t2.length 4 (af.l t2))::(b7,.mp (qO aV))::(aX,.sl x1.length 1 (ab.l x1))::(fA uy.1.nodes nP++L)):=iC oM 4
  have LP:Has h13 ((kl,.sl uy.1.nodes.length 4 (dJ.l (bm uy.1.nodes nP)))::(iM,.sl t2.length 4 (af.l t2))::(b7,.mp (qO aV))::(fA uy.1.nodes nP++L)):=iC Ao 3
  have yp:Has h13 ((kl,.sl uy.1.nodes.length 4 (dJ.l (bm uy.1.nodes nP)))::(iM,.sl t2.length 4 (af.l t2))::(fA uy.1.nodes nP++L)):=iC LP 2
  have xN:Has h13 ((kl,.sl uy.1.nodes.length 4 (dJ.l (bm uy.1.nodes nP)))::(fA uy.1.nodes nP++L)):=iC yp 1
  obtain rfl:=oi H
  exact qt <| ⟨.inl rfl,⟨kl,nP,kr,he xN⟩⟩
end
def Kg:b4:=gL [0,1,2,5,6,7,8,9,10,11,12,13,14,15,16,17,18,19,20,22,23,35,51,67,87,107,123,151] [5] [268435444,268435348,268434964,267910676,266862100,268435293,268434975,265813524,268435285,268434975,263716372,268435285,268434975,259522068,268435285,268434975,251133460,268435285,268434975,234356244,268435285,268434975,200801812,268433909,268427775,268435439,134217236,268378101,267919359,268435439,268435439] [] []
def jX.f (m:Nat)(s0:ae)(t0:aj)(x0:cF):Option (Bool × ae × aj):=if (x0.iD==0)=true then ((ij.f m s0).bind fun x1=>(iq.f m t0).bind fun x2=>if (x1.1==x2.1)=true then (some (x1.2.1==x2.2.1,x1.2.2,x2.2.2)) else (some (false,x1.2.2,x2.2.2))) else (if (x0.iD==1)=true then ((ik.f m s0 x0.uc).bind fun x3=>(ir.f m t0 x0.uc).bind fun x4=>if (x3.1==x4.1)=true then (some (x3.2.1==x4.2.1,x3.2.2,x4.2.2)) else (some (false,x3.2.2,x4.2.2))) else (if (x0.iD==2)=true then ((gQ.f m s0 x0.dY).bind fun x5=>(gR.f m t0 x0.dY).bind fun x6=>if (x5.1==x6.1)=true then (some (x5.2.1==x6.2.1,x5.2.2,x6.2.2)) else (some (false,x5.2.2,x6.2.2))) else (if (x0.iD==3)=true then ((gm.f m s0 x0.dY x0.iT).bind fun x7=>(gp.f m t0 x0.dY x0.iT).bind fun x8=>if (x7.1==x8.1)=true then (some (x7.2.1==x8.2.1,x7.2.2,x8.2.2)) else (some (false,x7.2.2,x8.2.2))) else (if (x0.iD==4)=true then ((gP.f m s0 x0.dY x0.uc).bind fun x9=>(gS.f m t0 x0.dY x0.uc).bind fun mW=>if (x9.1==mW.1)=true then (some (x9.2.1==mW.2.1,x9.2.2,mW.2.2)) else (some (false,x9.2.2,mW.2.2))) else (if (x0.iD==5)=true then ((aT.f m s0 x0.Bc).bind fun FD=>(bo.f m t0 x0.Bc).bind fun uy=>if (FD.1==uy.1)=true then (some (FD.2.1==uy.2.1,FD.2.2,uy.2.2)) else (some (false,FD.2.2,uy.2.2))) else (if (x0.iD==6)=true then ((dL.f m s0 x0.uc x0.GX).bind fun nI=>(fi.f m t0 x0.uc x0.GX).bind fun qE=>(dq.f m nI.1 qE.1).bind fun x15=>if x15=true then (some (nI.2.1==qE.2.1,nI.2.2,qE.2.2)) else (some (false,nI.2.2,qE.2.2))) else (if (x0.iD==7)=true then ((eh.f m s0 x0.uc x0.GX).bind fun uz=>(fR.f m t0 x0.uc x0.GX).bind fun Zk=>if (uz.1==Zk.1)=true then ((dq.f m uz.2.1 Zk.2.1).bind fun x18=>if x18=true then (some (uz.2.2.1==Zk.2.2,uz.2.2.2,t0)) else (some (false,uz.2.2.2,t0))) else (some (false,uz.2.2.2,t0))) else (if (0==0)=true then (some (0==0,s0,t0)) else (some (false,s0,t0))))))))))
def jX.fin (L:Mem)(au:Nat)(aq:Nat)(az:Nat)(jD:Nat)(ic:Nat)(ie:Nat)(s0:ae)(t0:aj)(x0:cF)(r:Bool × ae × aj)(s:St):Prop:=∃aB aC qS qT:Nat,aK Tryz.prog (s.open Kg) Tryz.f12.results.toList=some (.bool r.1)∧Has s.h ((au,.ob [.bool r.2.1.ay,.rs aB 0 r.2.1.aa.length 4,.rs aC 0 r.2.1.an.length 1])::(aB,.sl r.2.1.aa.length 4 (af.l r.2.1.aa))::(aC,.sl r.2.1.an.length 1 (ab.l r.2.1.an))::(jD,.ob [.rs qS 0 r.2.2.ah.length 4,.rs qT 0 r.2.2.ao.length 1,.bool r.2.2.aE])::(qS,.sl r.2.2.ah.length 4 (af.l r.2.2.ah))::(qT,.sl r.2.2.ao.length 1 (ab.l r.2.2.ao))::L)
def S12 (cf:CallF)(m:Nat):Prop:=∀(s0:ae) (t0:aj) (x0:cF) (r:Bool × ae × aj),jX.f m s0 t0 x0=some r→∀h L (au:Nat) (aq:Nat) (az:Nat) (jD:Nat) (ic:Nat) (ie:Nat),Has h ((au,.ob [.bool s0.ay,.rs aq 0 s0.aa.length 4,.rs az 0 s0.an.length 1])::(aq,.sl s0.aa.length 4 (af.l s0.aa))::(az,.sl s0.an.length 1 (ab.l s0.an))::(jD,.ob [.rs ic 0 t0.ah.length 4,.rs ie 0 t0.ao.length 1,.bool t0.aE])::(ic,.sl t0.ah.length 4 (af.l t0.ah))::(ie,.sl t0.ao.length 1 (ab.l t0.ao))::L)→∀xs,xs.map ba=[.ptr au 0,.ptr jD 0,.agg [.i x0.iD,.i x0.uc,.i x0.GX,.str x0.dY,ab.fz x0.iT,af.fz x0.Bc.nodes,.i x0.Bc.root]]→∃aB aC qS qT h',cf 12 xs h=some (.bool r.1,h')∧Has h' ((au,.ob [.bool r.2.1.ay,.rs aB 0 r.2.1.aa.length 4,.rs aC 0 r.2.1.an.length 1])::(aB,.sl r.2.1.aa.length 4 (af.l r.2.1.aa))::(aC,.sl r.2.1.an.length 1 (ab.l r.2.1.an))::(jD,.ob [.rs qS 0 r.2.2.ah.length 4,.rs qT 0 r.2.2.ao.length 1,.bool r.2.2.aE])::(qS,.sl r.2.2.ah.length 4 (af.l r.2.2.ah))::(qT,.sl r.2.2.ao.length 1 (ab.l r.2.2.ao))::L)
section
variable {cf:CallF}{m:Nat}
theorem yA {aW:FuncId→b4}(ha:aW 12=Kg)(abA:S22 cf m)(abB:S29 cf m)(abC:S30 cf m)(abD:S31 cf m)(abE:S33 cf m)(abF:S34 cf m)(DK:Zc cf m)(abG:S39 cf m)(abH:S40 cf m)(abI:S41 cf m)(abJ:S42 cf m)(abK:S43 cf m)(abL:S44 cf m)(abM:S45 cf m)(abN:S46 cf m)(abO:S47 cf m)(abP:S48 cf m)(s0:ae)(t0:aj)(x0:cF)(h:AHeap)(L:Mem)(au:Nat)(aq:Nat)(az:Nat)(jD:Nat)(ic:Nat)(ie:Nat)  (o:Has h ((au,.ob [.bool s0.ay,.rs aq 0 s0.aa.length 4,.rs az 0 s0.an.length 1])::(aq,.sl s0.aa.length 4 (af.l s0.aa))::(az,.sl s0.an.length 1 (ab.l s0.an))::(jD,.ob [.rs ic 0 t0.ah.length 4,.rs ie 0 t0.ao.length 1,.bool t0.aE])::(ic,.sl t0.ah.length 4 (af.l t0.ah))::(ie,.sl t0.ao.length 1 (ab.l t0.ao))::L)){out:Bool × ae × aj}(H:jX.f m s0 t0 x0=some out) :
  ∃r h',bj Tryz.prog aW cf m 12 [.ptr au 0,.ptr jD 0,.agg [.i x0.iD,.i x0.uc,.i x0.GX,.str x0.dY,ab.fz x0.iT,af.fz x0.Bc.nodes,.i x0.Bc.root]] h=some (r,h')∧∃aB aC qS qT:Nat,r = .bool out.1∧Has h' ((au,.ob [.bool out.2.1.ay,.rs aB 0 out.2.1.aa.length 4,.rs aC 0 out.2.1.an.length 1])::(aB,.sl out.2.1.aa.length 4 (af.l out.2.1.aa))::(aC,.sl out.2.1.an.length 1 (ab.l out.2.1.an))::(jD,.ob [.rs qS 0 out.2.2.ah.length 4,.rs qT 0 out.2.2.ao.length 1,.bool out.2.2.aE])::(qS,.sl out.2.2.ah.length 4 (af.l out.2.2.ah))::(qT,.sl out.2.2.ao.length 1 (ab.l out.2.2.ao))::L):=by
 refine aw (fn:=Tryz.f12) ha Tryz.func12 kr kr ?_
 refine aI (Q:=fun s=>jX.fin L au aq az jD ic ie s0 t0 x0 out s) (fun _ _ ⟨h1,aB,aC,qS,qT,h2,h3⟩=>⟨h1,_,h2,aB,aC,qS,qT,rfl,h3⟩) ?_
 have H:_=some out:=H
 unfold jX.f at H
 show dE _ cf Kg m _ ⟨.ptr au 0 :: .ptr jD 0 :: .agg [.i x0.iD,.i x0.uc,.i x0.GX,.str x0.dY,ab.fz x0.iT,af.fz x0.Bc.nodes,.i x0.Bc.root]::Re [],[none],h⟩ _
 refine q1 <| qq <| q0 <| qq <| q0 <| qq <| qq <| q0 <| qb 0 <| qq <| q0 <| qc H (fun c0 H=>?_) (fun c0 H=>?_)
 ·refine qq ?_
  obtain⟨x1,e0,H⟩:=aP H
  obtain⟨aX,b7,h0,e1,o0⟩:=abC _ _ e0 h _ _ _ _ (o)  [.ptr au 0] cq
  refine qr [.a 1 e1] ?_
  obtain⟨x2,e2,H⟩:=aP H
  obtain⟨bT,cK,h1,e3,o1⟩:=abG _ _ e2 h0 _ _ _ _ ((bI (bI (bI (bI (bI (bI o0 2) 2) 2) 5) 5) 5))  [.ptr jD 0] cq
  refine qr [.a 1 e3] <| qq ?_
  rcases eV H with⟨c1,H⟩| ⟨c1,H⟩
  ·obtain rfl:=oi H
   exact qr [.b 3 c1] <| qt <| ⟨.inl rfl,⟨aX,b7,bT,cK,kr,he (bI (bI (bI (bI (bI (bI o1 2) 2) 2) 5) 5) 5)⟩⟩
  ·obtain rfl:=oi H
   exact qr [.b 3 c1] <| qt <| ⟨.inl rfl,⟨aX,b7,bT,cK,kr,he (bI (bI (bI (bI (bI (bI o1 2) 2) 2) 5) 5) 5)⟩⟩
 ·refine q1 <| qc H (fun c2 H=>?_) (fun c2 H=>?_)
  ·refine qq ?_
   obtain⟨x3,e4,H⟩:=aP H
   obtain⟨dN,gM,h2,e5,o2⟩:=abF _ _ _ e4 h _ _ _ _ (o)  [.ptr au 0,.i x0.uc] cq
   refine qr [.a 3 e5] ?_
   obtain⟨x4,e6,H⟩:=aP H
   obtain⟨iy,iM,h3,e7,o3⟩:=abH _ _ _ e6 h2 _ _ _ _ ((bI (bI (bI (bI (bI (bI o2 2) 2) 2) 5) 5) 5))  [.ptr jD 0,.i x0.uc] cq
   refine qr [.a 3 e7] <| qq ?_
   rcases eV H with⟨c3,H⟩| ⟨c3,H⟩
   ·obtain rfl:=oi H
    exact qr [.b 3 c3] <| qt <| ⟨.inl rfl,⟨dN,gM,iy,iM,kr,he (bI (bI (bI (bI (bI (bI o3 2) 2) 2) 5) 5) 5)⟩⟩
   ·obtain rfl:=oi H
    exact qr [.b 3 c3] <| qt <| ⟨.inl rfl,⟨dN,gM,iy,iM,kr,he (bI (bI (bI (bI (bI (bI o3 2) 2) 2) 5) 5) 5)⟩⟩
  ·refine q1 <| qc H (fun c4 H=>?_) (fun c4 H=>?_)
   ·refine qq ?_
    obtain⟨x5,e8,H⟩:=aP H
    obtain⟨kl,kP,h4,e9,o4⟩:=abD _ _ _ e8 h _ _ _ _ (o)  [.ptr au 0,.str x0.dY] cq
    refine qr [.a 3 e9] ?_
    obtain⟨x6,ma,H⟩:=aP H
    obtain⟨fC,hY,h5,nH,o5⟩:=abI _ _ _ ma h4 _ _ _ _ ((bI (bI (bI (bI (bI (bI o4 2) 2) 2) 5) 5) 5))  [.ptr jD 0,.str x0.dY] cq
    refine qr [.a 3 nH] <| qq ?_
    rcases eV H with⟨c5,H⟩| ⟨c5,H⟩
    ·obtain rfl:=oi H
     exact qr [.b 3 c5] <| qt <| ⟨.inl rfl,⟨kl,kP,fC,hY,kr,he (bI (bI (bI (bI (bI (bI o5 2) 2) 2) 5) 5) 5)⟩⟩
    ·obtain rfl:=oi H
     exact qr [.b 3 c5] <| qt <| ⟨.inl rfl,⟨kl,kP,fC,hY,kr,he (bI (bI (bI (bI (bI (bI o5 2) 2) 2) 5) 5) 5)⟩⟩
   ·refine q1 <| qc H (fun c6 H=>?_) (fun c6 H=>?_)
    ·refine qq ?_
     obtain⟨x7,oS,H⟩:=aP H
     obtain⟨gJ,jo,h6,rF,o6⟩:=abJ _ _ _ _ oS h _ _ _ _ (o)  [.ptr au 0,.str x0.dY,ab.fz x0.iT] cq
     refine qr [.a 5 rF] ?_
     obtain⟨x8,s7,H⟩:=aP H
     obtain⟨kO,jT,h7,s8,o7⟩:=abK _ _ _ _ s7 h6 _ _ _ _ ((bI (bI (bI (bI (bI (bI o6 2) 2) 2) 5) 5) 5))  [.ptr jD 0,.str x0.dY,ab.fz x0.iT] cq
     refine qr [.a 5 s8] <| qq ?_
     rcases eV H with⟨c7,H⟩| ⟨c7,H⟩
     ·obtain rfl:=oi H
      exact qr [.b 3 c7] <| qt <| ⟨.inl rfl,⟨gJ,jo,kO,jT,kr,he (bI (bI (bI (bI (bI (bI o7 2) 2) 2) 5) 5) 5)⟩⟩
     ·obtain rfl:=oi H
      exact qr [.b 3 c7] <| qt <| ⟨.inl rfl,⟨gJ,jo,kO,jT,kr,he (bI (bI (bI (bI (bI (bI o7 2) 2) 2) 5) 5) 5)⟩⟩
    ·refine q1 <| qc H (fun c8 H=>?_) (fun c8 H=>?_)
     ·refine qq ?_
      obtain⟨x9,vj,H⟩:=aP H
      obtain⟨lk,oK,h8,yV,o8⟩:=abL _ _ _ _ vj h _ _ _ _ (o)  [.ptr au 0,.str x0.dY,.i x0.uc] cq
      refine qr [.a 5 yV] ?_
      obtain⟨mW,yW,H⟩:=aP H
      obtain⟨oL,um,h9,vq,o9⟩:=abM _ _ _ _ yW h8 _ _ _ _ ((bI (bI (bI (bI (bI (bI o8 2) 2) 2) 5) 5) 5))  [.ptr jD 0,.str x0.dY,.i x0.uc] cq
      refine qr [.a 5 vq] <| qq ?_
      rcases eV H with⟨c9,H⟩| ⟨c9,H⟩
      ·obtain rfl:=oi H
       exact qr [.b 3 c9] <| qt <| ⟨.inl rfl,⟨lk,oK,oL,um,kr,he (bI (bI (bI (bI (bI (bI o9 2) 2) 2) 5) 5) 5)⟩⟩
      ·obtain rfl:=oi H
       exact qr [.b 3 c9] <| qt <| ⟨.inl rfl,⟨lk,oK,oL,um,kr,he (bI (bI (bI (bI (bI (bI o9 2) 2) 2) 5) 5) 5)⟩⟩
     ·refine q1 <| qc H (fun Ag H=>?_) (fun Ag H=>?_)
      ·refine qq ?_
       obtain⟨FD,Bd,H⟩:=aP H
       obtain⟨jH,HU,h10,Bu,s9⟩:=abA _ _ _ Bd h _ _ _ _ (o)  [.ptr au 0,.agg [af.fz x0.Bc.nodes,.i x0.Bc.root]] cq
       refine qr [.a 3 Bu] ?_
       obtain⟨uy,Bv,H⟩:=aP H
       obtain⟨kZ,DN,h11,Be,qP⟩:=abN _ _ _ Bv h10 _ _ _ _ ((bI (bI (bI (bI (bI (bI s9 2) 2) 2) 5) 5) 5))  [.ptr jD 0,.agg [af.fz x0.Bc.nodes,.i x0.Bc.root]] cq
       refine qr [.a 3 Be] <| qq ?_
       rcases eV H with⟨sd,H⟩| ⟨sd,H⟩
       ·obtain rfl:=oi H
        exact qr [.b 3 sd] <| qt <| ⟨.inl rfl,⟨jH,HU,kZ,DN,kr,he (bI (bI (bI (bI (bI (bI qP 2) 2) 2) 5) 5) 5)⟩⟩
       ·obtain rfl:=oi H
        exact qr [.b 3 sd] <| qt <| ⟨.inl rfl,⟨jH,HU,kZ,DN,kr,he (bI (bI (bI (bI (bI (bI qP 2) 2) 2) 5) 5) 5)⟩⟩
      ·refine q1 <| qc H (fun yk H=>?_) (fun yk H=>?_)
       ·refine qq ?_
        obtain⟨nI,Bw,H⟩:=aP H
        obtain⟨vt,nN,vC,h12,DM,wP⟩:=abB _ _ _ _ Bw h _ _ _ _ (o)  [.ptr au 0,.i x0.uc,.i x0.GX] cq
        refine qr [.a 5 DM] <| qq ?_
        obtain⟨qE,DS,H⟩:=aP H
        obtain⟨vD,mM,nQ,h13,HV,mX⟩:=abO _ _ _ _ DS h12 _ _ _ _ ((bI (bI (bI (bI (bI (bI (bI wP 3) 3) 3) 3) 6) 6) 6))  [.ptr jD 0,.i x0.uc,.i x0.GX] cq
        refine qr [.a 5 HV] <| qq ?_
        obtain⟨x15,JM,H⟩:=aP H
        rcases eV H with⟨uh,H⟩| ⟨uh,H⟩
        ·refine qr [.a 2 (DK _ _ _ JM h13 _ (ia (ai (cC (E:=ab) (l:=nI.1) (q:=4) mX rfl (fun _=>rfl)) (ai (cC (E:=ab) (l:=qE.1) (q:=0) mX rfl (fun _=>rfl)) (aD))))),.b 3 uh] ?_
         have vW:Has h13 ((vD,.sl qE.1.length 1 (ab.l qE.1))::(jD,.ob [.rs mM 0 qE.2.2.ah.length 4,.rs nQ 0 qE.2.2.ao.length 1,.bool qE.2.2.aE])::(mM,.sl qE.2.2.ah.length 4 (af.l qE.2.2.ah))::(nQ,.sl qE.2.2.ao.length 1 (ab.l qE.2.2.ao))::(au,.ob [.bool nI.2.2.ay,.rs nN 0 nI.2.2.aa.length 4,.rs vC 0 nI.2.2.an.length 1])::(nN,.sl nI.2.2.aa.length 4 (af.l nI.2.2.aa))::(vC,.sl nI.2.2.an.length 1 (ab.l nI.2.2.an))::L):=iC mX 4
         have Bx:Has h13 ((jD,.ob [.rs mM 0 qE.2.2.ah.length 4,.rs nQ 0 qE.2.2.ao.length 1,.bool qE.2.2.aE])::(mM,.sl qE.2.2.ah.length 4 (af.l qE.2.2.ah))::(nQ,.sl qE.2.2.ao.length 1 (ab.l qE.2.2.ao))::(au,.ob [.bool nI.2.2.ay,.rs nN 0 nI.2.2.aa.length 4,.rs vC 0 nI.2.2.an.length 1])::(nN,.sl nI.2.2.aa.length 4 (af.l nI.2.2.aa))::(vC,.sl nI.2.2.an.length 1 (ab.l nI.2.2.an))::L):=iC vW 0
         obtain rfl:=oi H
         exact qt <| ⟨.inl rfl,⟨nN,vC,mM,nQ,kr,he (bI (bI (bI (bI (bI (bI Bx 2) 2) 2) 5) 5) 5)⟩⟩
        ·refine qr [.a 2 (DK _ _ _ JM h13 _ (ia (ai (cC (E:=ab) (l:=nI.1) (q:=4) mX rfl (fun _=>rfl)) (ai (cC (E:=ab) (l:=qE.1) (q:=0) mX rfl (fun _=>rfl)) (aD))))),.b 3 uh] ?_
         have pn:Has h13 ((vD,.sl qE.1.length 1 (ab.l qE.1))::(jD,.ob [.rs mM 0 qE.2.2.ah.length 4,.rs nQ 0 qE.2.2.ao.length 1,.bool qE.2.2.aE])::(mM,.sl qE.2.2.ah.length 4 (af.l qE.2.2.ah))::(nQ,.sl qE.2.2.ao.length 1 (ab.l qE.2.2.ao))::(au,.ob [.bool nI.2.2.ay,.rs nN 0 nI.2.2.aa.length 4,.rs vC 0 nI.2.2.an.length 1])::(nN,.sl nI.2.2.aa.length 4 (af.l nI.2.2.aa))::(vC,.sl nI.2.2.an.length 1 (ab.l nI.2.2.an))::L):=iC mX 4
         have yX:Has h13 ((jD,.ob [.rs mM 0 qE.2.2.ah.length 4,.rs nQ 0 qE.2.2.ao.length 1,.bool qE.2.2.aE])::(mM,.sl qE.2.2.ah.length 4 (af.l qE.2.2.ah))::(nQ,.sl qE.2.2.ao.length 1 (ab.l qE.2.2.ao))::(au,.ob [.bool nI.2.2.ay,.rs nN 0 nI.2.2.aa.length 4,.rs vC 0 nI.2.2.an.length 1])::(nN,.sl nI.2.2.aa.length 4 (af.l nI.2.2.aa))::(vC,.sl nI.2.2.an.length 1 (ab.l nI.2.2.an))::L):=iC pn 0
         obtain rfl:=oi H
         exact qt <| ⟨.inl rfl,⟨nN,vC,mM,nQ,kr,he (bI (bI (bI (bI (bI (bI yX 2) 2) 2) 5) 5) 5)⟩⟩
       ·refine q1 <| qc H (fun yl H=>?_) (fun yl H=>?_)
        ·refine qq ?_
         obtain⟨uz,LR,H⟩:=aP H
         obtain⟨RF,yB,Bz,h14,LS,oM⟩:=abE _ _ _ _ LR h _ _ _ _ (o)  [.ptr au 0,.i x0.uc,.i x0.GX] cq
         refine qr [.a 5 LS] <| qq ?_
         obtain⟨Zk,GZ,H⟩:=aP H
         refine qr [.a 5 (abP _ _ _ _ GZ h14 _ (ia (ai (dM (q:=4) oM rfl (ai (cC (E:=af) (l:=t0.ah) (q:=5) oM rfl (fun _=>rfl)) (ai (cC (E:=ab) (l:=t0.ao) (q:=6) oM rfl (fun _=>rfl)) (ai (eM) (aD))))) (ai (aU) (ai (aU) (aD))))))] <| qq ?_
         rcases eV H with⟨FK,H⟩| ⟨FK,H⟩
         ·obtain⟨x18,LQ,H⟩:=aP H
          rcases eV H with⟨Ev,H⟩| ⟨Ev,H⟩
          ·refine qr [.b 3 FK,.a 6 (DK _ _ _ LQ h14 _ (ia (ai (cC (E:=ab) (l:=uz.2.1) (q:=0) oM rfl (fun _=>rfl)) (ai (iu (E:=ab)) (aD))))),.b 8 Ev] ?_
           have Ao:Has h14 ((au,.ob [.bool uz.2.2.2.ay,.rs yB 0 uz.2.2.2.aa.length 4,.rs Bz 0 uz.2.2.2.an.length 1])::(yB,.sl uz.2.2.2.aa.length 4 (af.l uz.2.2.2.aa))::(Bz,.sl uz.2.2.2.an.length 1 (ab.l uz.2.2.2.an))::(jD,.ob [.rs ic 0 t0.ah.length 4,.rs ie 0 t0.ao.length 1,.bool t0.aE])::(ic,.sl t0.ah.length 4 (af.l t0.ah))::(ie,.sl t0.ao.length 1 (ab.l t0.ao))::L):=iC oM 0
           obtain rfl:=oi H
           exact qt <| ⟨.inl rfl,⟨yB,Bz,ic,ie,kr,he Ao⟩⟩
          ·refine qr [.b 3 FK,.a 6 (DK _ _ _ LQ h14 _ (ia (ai (cC (E:=ab) (l:=uz.2.1) (q:=0) oM rfl (fun _=>rfl)) (ai (iu (E:=ab)) (aD))))),.b 8 Ev] ?_
           have LP:Has h14 ((au,.ob [.bool uz.2.2.2.ay,.rs yB 0 uz.2.2.2.aa.length 4,.rs Bz 0 uz.2.2.2.an.length 1])::(yB,.sl uz.2.2.2.aa.length 4 (af.l uz.2.2.2.aa))::(Bz,.sl uz.2.2.2.an.length 1 (ab.l uz.2.2.2.an))::(jD,.ob [.rs ic 0 t0.ah.length 4,.rs ie 0 t0.ao.length 1,.bool t0.aE])::(ic,.sl t0.ah.length 4 (af.l t0.ah))::(ie,.sl t0.ao.length 1 (ab.l t0.ao))::L):=iC oM 0
           obtain rfl:=oi H
           exact qt <| ⟨.inl rfl,⟨yB,Bz,ic,ie,kr,he LP⟩⟩
         ·refine qr [.b 3 FK] ?_
          have yp:Has h14 ((au,.ob [.bool uz.2.2.2.ay,.rs yB 0 uz.2.2.2.aa.length 4,.rs Bz 0 uz.2.2.2.an.length 1])::(yB,.sl uz.2.2.2.aa.length 4 (af.l uz.2.2.2.aa))::(Bz,.sl uz.2.2.2.an.length 1 (ab.l uz.2.2.2.an))::(jD,.ob [.rs ic 0 t0.ah.length 4,.rs ie 0 t0.ao.length 1,.bool t0.aE])::(ic,.sl t0.ah.length 4 (af.l t0.ah))::(ie,.sl t0.ao.length 1 (ab.l t0.ao))::L):=iC oM 0
          obtain rfl:=oi H
          exact qt <| ⟨.inl rfl,⟨yB,Bz,ic,ie,kr,he yp⟩⟩
        ·refine qk <| qq ?_
         rcases eV H with⟨DR,H⟩| ⟨DR,H⟩
         ·obtain rfl:=oi H
          exact qr [.b 3 DR] <| qt <| ⟨.inl rfl,⟨aq,az,ic,ie,kr,he o⟩⟩
         ·obtain rfl:=oi H
          exact qr [.b 3 DR] <| qt <| ⟨.inl rfl,⟨aq,az,ic,ie,kr,he o⟩⟩
end
def Kh:b4:=gL [0,1,2,6,7,8,9,10,11,12,13,14,15,16,17,18,19,20,21,22] [11,13,15,17] [1048568,1048520,1048328,1047560,1044488,1032200,983048,786441,15,1048567] [] [(3,[(11,some 3,1)]),(5,[(15,some 0,4)])]
def jM.f (m:Nat)(s0:ae)(t0:aj)(n0:Int):Option (Bool):=(gC.f m s0 n0).bind fun x0=>(gA.f m t0 n0).bind fun x1=>(fk.f m s0 n0).bind fun x2=>(fh.f m t0 n0).bind fun x3=>(aN.f m s0 n0).bind fun x4=>(aO.f m t0 n0).bind fun x5=>(fS.f m s0 n0).bind fun x6=>(bk.f m t0 n0).bind fun x7=>if (x0.1==x1.1)=true then (if (x0.2==x1.2)=true then ((iJ.f m x2.1 x3.1).bind fun x8=>if x8=true then (if (x2.2==x3.2)=true then ((bW.f m x4.1 x5.1).bind fun x9=>if x9=true then (if (x4.2==x5.2)=true then ((dq.f m x6.1 x7.1).bind fun mW=>if mW=true then (some (x6.2==x7.2)) else (some false)) else (some false)) else (some false)) else (some false)) else (some false)) else (some false)) else (some false)
def jM.fin (L:Mem)(r:Bool)(s:St):Prop:=∃av,aK Tryz.prog (s.open Kh) Tryz.f20.results.toList=some av∧eX s.h av (.bool r)
def S20 (cf:CallF)(m:Nat):Prop:=∀(s0:ae) (t0:aj) (n0:Int) (r:Bool),jM.f m s0 t0 n0=some r→∀h xs,bl cd h xs [.fp [.bool s0.ay,af.fz s0.aa,ab.fz s0.an] 0,.fp [af.fz t0.ah,ab.fz t0.ao,.bool t0.aE] 0,.i n0]→cf 20 xs h=some (.bool r,h)
section
variable {cf:CallF}{m:Nat}
theorem xb {aW:FuncId→b4}(ha:aW 20=Kh)(abR:S24 cf m)(LW:S26 cf m)(abS:S27 cf m)(abT:S32 cf m)(DK:Zc cf m)(abU:S52 cf m)(abV:S53 cf m)(abW:S54 cf m)(abX:S55 cf m)(abY:S56 cf m)(RG:S57 cf m)(s0:ae)(t0:aj)(n0:Int)(h:AHeap)(L:Mem)  (o:Has h (L)){out:Bool}(H:jM.f m s0 t0 n0=some out) :
  ∃r h',bj Tryz.prog aW cf m 20 [.fp [.bool s0.ay,af.fz s0.aa,ab.fz s0.an] 0,.fp [af.fz t0.ah,ab.fz t0.ao,.bool t0.aE] 0,.i n0] h=some (r,h')∧eX h' r (.bool out):=by
 refine aw (fn:=Tryz.f20) ha Tryz.func20 kr kr ?_
 refine aI (Q:=fun s=>jM.fin L out s) (fun _ _ h=>h) ?_
 have H:_=some out:=H
 unfold jM.f at H
 show dE _ cf Kh m _ ⟨.fp [.bool s0.ay,af.fz s0.aa,ab.fz s0.an] 0 :: .fp [af.fz t0.ah,ab.fz t0.ao,.bool t0.aE] 0 :: .i n0::Rc [],[none,none,none,none],h⟩ _
 refine q1 <| qq ?_
 obtain⟨x0,e0,H⟩:=aP H
 refine qr [.a 2 (abT _ _ _ e0 h _ (ia (ai (cV (pure_cons (bc) (pure_cons (bM.aJ (E:=af) (l:=s0.aa)) (pure_cons (bM.aJ (E:=ab) (l:=s0.an)) (pure_nil))))) (ai (aU) (aD)))))] <| qq ?_
 obtain⟨x1,e1,H⟩:=aP H
 refine qr [.a 2 (abU _ _ _ e1 h _ (ia (ai (cV (pure_cons (bM.aJ (E:=af) (l:=t0.ah)) (pure_cons (bM.aJ (E:=ab) (l:=t0.ao)) (pure_cons (bc) (pure_nil))))) (ai (aU) (aD)))))] <| qq ?_
 obtain⟨x2,e2,H⟩:=aP H
 obtain⟨aX,h0,e3,o0,Lc⟩:=abV _ _ _ e2 h _ _ o (ia (ai (cV (pure_cons (bc) (pure_cons (bM.aJ (E:=af) (l:=s0.aa)) (pure_cons (bM.aJ (E:=ab) (l:=s0.an)) (pure_nil))))) (ai (aU) (aD))))
 refine qr [.a 2 e3] <| qq ?_
 obtain⟨x3,e4,H⟩:=aP H
 refine qr [.a 2 (abW _ _ _ e4 h0 _ (b5 (Fs (pure_cons (bM.aJ (E:=af) (l:=t0.ah)) (pure_cons (bM.aJ (E:=ab) (l:=t0.ao)) (pure_cons (bc) (pure_nil))))) (b5 (ig) (jR))))] <| qq ?_
 obtain⟨x4,e5,H⟩:=aP H
 obtain⟨b7,hH,h1,e6,o1,SD⟩:=abR _ _ _ e5 h0 _ _ o0 (ia (ai (cV (pure_cons (bc) (pure_cons (bM.aJ (E:=af) (l:=s0.aa)) (pure_cons (bM.aJ (E:=ab) (l:=s0.an)) (pure_nil))))) (ai (aU) (aD))))
 have o2:=Has.zZ (pre:=[(b7,.sl x4.1.nodes.length 4 (dJ.l (bm x4.1.nodes hH)))]) (N:=[(aX,.sl x2.1.args.length 1 (ab.l x2.1.args))]) (mid:=fA x4.1.nodes hH) o1
 refine qr [.a 2 e6] <| qq ?_
 obtain⟨x5,e7,H⟩:=aP H
 refine qr [.a 2 (abX _ _ _ e7 h1 _ (b5 (Fs (pure_cons (bM.aJ (E:=af) (l:=t0.ah)) (pure_cons (bM.aJ (E:=ab) (l:=t0.ao)) (pure_cons (bc) (pure_nil))))) (b5 (ig) (jR))))] <| qq ?_
 obtain⟨x6,e8,H⟩:=aP H
 refine qr [.a 2 (abS _ _ _ e8 h1 _ (ia (ai (cV (pure_cons (bc) (pure_cons (bM.aJ (E:=af) (l:=s0.aa)) (pure_cons (bM.aJ (E:=ab) (l:=s0.an)) (pure_nil))))) (ai (aU) (aD)))))] <| qq ?_
 obtain⟨x7,e9,H⟩:=aP H
 refine qr [.a 2 (abY _ _ _ e9 h1 _ (ia (ai (cV (pure_cons (bM.aJ (E:=af) (l:=t0.ah)) (pure_cons (bM.aJ (E:=ab) (l:=t0.ao)) (pure_cons (bc) (pure_nil))))) (ai (aU) (aD)))))] <| qq ?_
 rcases eV H with⟨c0,H⟩| ⟨c0,H⟩
 ·rcases eV H with⟨c1,H⟩| ⟨c1,H⟩
  ·obtain⟨x8,ma,H⟩:=aP H
   rcases eV H with⟨c2,H⟩| ⟨c2,H⟩
   ·rcases eV H with⟨c3,H⟩| ⟨c3,H⟩
    ·obtain⟨x9,nH,H⟩:=aP H
     rcases eV H with⟨c4,H⟩| ⟨c4,H⟩
     ·rcases eV H with⟨c5,H⟩| ⟨c5,H⟩
      ·obtain⟨mW,oS,H⟩:=aP H
       rcases eV H with⟨c6,H⟩| ⟨c6,H⟩
       ·refine qr [.b 3 c0,.b 8 c1,.a 11 (LW _ _ _ ma h1 _ (ia (ai (eJ (ai (aU) (ai (aU) (ai (iB) (ai (cC (E:=ab) (l:=x2.1.args) (q:=1) o2 rfl (fun _=>rfl)) (aD)))))) (ai (eJ (ai (aU) (ai (aU) (ai (iB) (ai (iu (E:=ab)) (aD)))))) (aD))))),.b 13 c2,.b 18 c3,.a 21 (RG _ _ _ nH h1 _ (ia (ai (eJ (ai (wI (pre:=[(b7,.sl x4.1.nodes.length 4 (dJ.l (bm x4.1.nodes hH))),(aX,.sl x2.1.args.length 1 (ab.l x2.1.args))]) (ns:=x4.1.nodes) (ids:=hH) (q:=0) o2 rfl) (ai (aU) (aD)))) (ai (eJ (ai (iu (E:=af)) (ai (aU) (aD)))) (aD))))),.b 23 c4,.b 28 c5,.a 31 (DK _ _ _ oS h1 _ fq),.b 33 c6] ?_
        have o3:Has h1 ((b7,.sl x4.1.nodes.length 4 (dJ.l (bm x4.1.nodes hH)))::(fA x4.1.nodes hH++L)):=iC o2 1
        have o4:Has h1 (L):=Has.gone (pre:=[]) (iC o3 0)
        exact qt <| fB H
       ·refine qr [.b 3 c0,.b 8 c1,.a 11 (LW _ _ _ ma h1 _ (ia (ai (eJ (ai (aU) (ai (aU) (ai (iB) (ai (cC (E:=ab) (l:=x2.1.args) (q:=1) o2 rfl (fun _=>rfl)) (aD)))))) (ai (eJ (ai (aU) (ai (aU) (ai (iB) (ai (iu (E:=ab)) (aD)))))) (aD))))),.b 13 c2,.b 18 c3,.a 21 (RG _ _ _ nH h1 _ (ia (ai (eJ (ai (wI (pre:=[(b7,.sl x4.1.nodes.length 4 (dJ.l (bm x4.1.nodes hH))),(aX,.sl x2.1.args.length 1 (ab.l x2.1.args))]) (ns:=x4.1.nodes) (ids:=hH) (q:=0) o2 rfl) (ai (aU) (aD)))) (ai (eJ (ai (iu (E:=af)) (ai (aU) (aD)))) (aD))))),.b 23 c4,.b 28 c5,.a 31 (DK _ _ _ oS h1 _ fq),.b 33 c6] ?_
        have o5:Has h1 ((b7,.sl x4.1.nodes.length 4 (dJ.l (bm x4.1.nodes hH)))::(fA x4.1.nodes hH++L)):=iC o2 1
        have o6:Has h1 (L):=Has.gone (pre:=[]) (iC o5 0)
        exact qt <| fB H
      ·refine qr [.b 3 c0,.b 8 c1,.a 11 (LW _ _ _ ma h1 _ (ia (ai (eJ (ai (aU) (ai (aU) (ai (iB) (ai (cC (E:=ab) (l:=x2.1.args) (q:=1) o2 rfl (fun _=>rfl)) (aD)))))) (ai (eJ (ai (aU) (ai (aU) (ai (iB) (ai (iu (E:=ab)) (aD)))))) (aD))))),.b 13 c2,.b 18 c3,.a 21 (RG _ _ _ nH h1 _ (ia (ai (eJ (ai (wI (pre:=[(b7,.sl x4.1.nodes.length 4 (dJ.l (bm x4.1.nodes hH))),(aX,.sl x2.1.args.length 1 (ab.l x2.1.args))]) (ns:=x4.1.nodes) (ids:=hH) (q:=0) o2 rfl) (ai (aU) (aD)))) (ai (eJ (ai (iu (E:=af)) (ai (aU) (aD)))) (aD))))),.b 23 c4,.b 28 c5] ?_
       have o7:Has h1 ((b7,.sl x4.1.nodes.length 4 (dJ.l (bm x4.1.nodes hH)))::(fA x4.1.nodes hH++L)):=iC o2 1
       have o8:Has h1 (L):=Has.gone (pre:=[]) (iC o7 0)
       exact qt <| fB H
     ·refine qr [.b 3 c0,.b 8 c1,.a 11 (LW _ _ _ ma h1 _ (ia (ai (eJ (ai (aU) (ai (aU) (ai (iB) (ai (cC (E:=ab) (l:=x2.1.args) (q:=1) o2 rfl (fun _=>rfl)) (aD)))))) (ai (eJ (ai (aU) (ai (aU) (ai (iB) (ai (iu (E:=ab)) (aD)))))) (aD))))),.b 13 c2,.b 18 c3,.a 21 (RG _ _ _ nH h1 _ (ia (ai (eJ (ai (wI (pre:=[(b7,.sl x4.1.nodes.length 4 (dJ.l (bm x4.1.nodes hH))),(aX,.sl x2.1.args.length 1 (ab.l x2.1.args))]) (ns:=x4.1.nodes) (ids:=hH) (q:=0) o2 rfl) (ai (aU) (aD)))) (ai (eJ (ai (iu (E:=af)) (ai (aU) (aD)))) (aD))))),.b 23 c4] ?_
      have o9:Has h1 ((b7,.sl x4.1.nodes.length 4 (dJ.l (bm x4.1.nodes hH)))::(fA x4.1.nodes hH++L)):=iC o2 1
      have s9:Has h1 (L):=Has.gone (pre:=[]) (iC o9 0)
      exact qt <| fB H
    ·refine qr [.b 3 c0,.b 8 c1,.a 11 (LW _ _ _ ma h1 _ (ia (ai (eJ (ai (aU) (ai (aU) (ai (iB) (ai (cC (E:=ab) (l:=x2.1.args) (q:=1) o2 rfl (fun _=>rfl)) (aD)))))) (ai (eJ (ai (aU) (ai (aU) (ai (iB) (ai (iu (E:=ab)) (aD)))))) (aD))))),.b 13 c2,.b 18 c3] ?_
     have qP:Has h1 ((b7,.sl x4.1.nodes.length 4 (dJ.l (bm x4.1.nodes hH)))::(fA x4.1.nodes hH++L)):=iC o2 1
     have wP:Has h1 (L):=Has.gone (pre:=[]) (iC qP 0)
     exact qt <| fB H
   ·refine qr [.b 3 c0,.b 8 c1,.a 11 (LW _ _ _ ma h1 _ (ia (ai (eJ (ai (aU) (ai (aU) (ai (iB) (ai (cC (E:=ab) (l:=x2.1.args) (q:=1) o2 rfl (fun _=>rfl)) (aD)))))) (ai (eJ (ai (aU) (ai (aU) (ai (iB) (ai (iu (E:=ab)) (aD)))))) (aD))))),.b 13 c2] ?_
    have mX:Has h1 ((b7,.sl x4.1.nodes.length 4 (dJ.l (bm x4.1.nodes hH)))::(fA x4.1.nodes hH++L)):=iC o2 1
    have vW:Has h1 (L):=Has.gone (pre:=[]) (iC mX 0)
    exact qt <| fB H
  ·refine qr [.b 3 c0,.b 8 c1] ?_
   have Bx:Has h1 ((b7,.sl x4.1.nodes.length 4 (dJ.l (bm x4.1.nodes hH)))::(fA x4.1.nodes hH++L)):=iC o2 1
   have pn:Has h1 (L):=Has.gone (pre:=[]) (iC Bx 0)
   exact qt <| fB H
 ·refine qr [.b 3 c0] ?_
  have yX:Has h1 ((b7,.sl x4.1.nodes.length 4 (dJ.l (bm x4.1.nodes hH)))::(fA x4.1.nodes hH++L)):=iC o2 1
  have oM:Has h1 (L):=Has.gone (pre:=[]) (iC yX 0)
  exact qt <| fB H
end
def FV:b4:=gL [0,1,4,5,10,14,21] [] [124,108,123,116,84,116,52,123,123] [] []
def dQ.l0 (m:Nat)(s0:ae)(t0:aj):Nat→Int→Option (Sum Bool (Int))
 | 0,_=>none
 | k+1,n0=>(eT.f m t0).bind fun x2=>if (decide (n0≤x2))=true then ((jM.f m s0 t0 n0).bind fun x3=>if (!x3)=true then (some (.inl false)) else (dQ.l0 m s0 t0 k (i64.wrap (n0+1)))) else (some (.inr n0))
def dQ.f (m:Nat)(s0:ae)(t0:aj):Option (Bool):=(fP.f m s0).bind fun x0=>(eT.f m t0).bind fun x1=>if (!(x0==x1))=true then (some false) else ((dQ.l0 m s0 t0 m (-1:Int)).bind fun bp=>match bp with | .inl r0=>some r0 | .inr n1=>some true)
def dQ.fin (L:Mem)(r:Bool)(s:St):Prop:=∃av,aK Tryz.prog (s.open FV) Tryz.f15.results.toList=some av∧eX s.h av (.bool r)
def S15 (cf:CallF)(m:Nat):Prop:=∀(s0:ae) (t0:aj) (r:Bool),dQ.f m s0 t0=some r→∀h xs,bl cd h xs [.fp [.bool s0.ay,af.fz s0.aa,ab.fz s0.an] 0,.fp [af.fz t0.ah,ab.fz t0.ao,.bool t0.aE] 0]→cf 15 xs h=some (.bool r,h)
section
variable {cf:CallF}{m:Nat}
theorem dQ.cm (L:Mem)(s0:ae)(t0:aj)  (RH:S14 cf m)(Vl:S20 cf m):b9 Tryz.prog cf FV m (sub [1,1,0,1,0,0] (bw Tryz.f15)) (fun k (σ:Int)=>dQ.l0 m s0 t0 k σ) (fun σ s=>match σ with | n0=>∃h0,s=⟨.fp [.bool s0.ay,af.fz s0.aa,ab.fz s0.an] 0 :: .fp [af.fz t0.ah,ab.fz t0.ao,.bool t0.aE] 0 :: .any :: .i n0::nc [],[],h0⟩∧Has h0 (L)) (fun out e s=>(e = .exit 0∧∃n0,.inr n0=out∧∃lH wO z8 Aa h0,s=⟨[lH,wO,.any,z8,.any,Aa,.any],[],h0⟩∧Has h0 (L))∨(e = .ret∧∃r,.inl r=out∧dQ.fin L r s)):=by
 refine jF (fun _=>rfl) ?_
 rintro k n0 s out ⟨h0,rfl,o0⟩ H
 have H:dQ.l0 m s0 t0 (k+1) n0=some out:=H
 refine qq <| qq ?_
 obtain⟨x2,e2,H⟩:=aP H
 refine qr [.a 2 (RH _ _ e2 h0 _ (ia (ai (cV (pure_cons (bM.aJ (E:=af) (l:=t0.ah)) (pure_cons (bM.aJ (E:=ab) (l:=t0.ao)) (pure_cons (bc) (pure_nil))))) (aD))))] <| qc H (fun c1 H=>?_) (fun c1 H=>?_)
 ·refine qk <| qq <| qb 1 <| qq ?_
  obtain⟨x3,e3,H⟩:=aP H
  refine qr [.a 3 (Vl _ _ _ _ e3 h0 _ (ia (ai (cV (pure_cons (bc) (pure_cons (bM.aJ (E:=af) (l:=s0.aa)) (pure_cons (bM.aJ (E:=ab) (l:=s0.an)) (pure_nil))))) (ai (cV (pure_cons (bM.aJ (E:=af) (l:=t0.ah)) (pure_cons (bM.aJ (E:=ab) (l:=t0.ao)) (pure_cons (bc) (pure_nil))))) (ai (aU) (aD))))))] <| qc H (fun c2 H=>?_) (fun c2 H=>?_)
  ·exact q1 <| qt <| ajW (⟨rfl,_,oi H,pX (.bool false) h0 (oR (jh))⟩)
  ·exact qk <| q0 <| ⟨i64.wrap (n0+1),⟨h0,kr,o0⟩,H⟩
 ·exact qx 0 <| akl (⟨rfl,n0,oi H,.fp [.bool s0.ay,af.fz s0.aa,ab.fz s0.an] 0,.fp [af.fz t0.ah,ab.fz t0.ao,.bool t0.aE] 0,.i n0,.bool (decide (n0≤x2)),h0,kr,o0⟩)
theorem yC {aW:FuncId→b4}(ha:aW 15=FV)(abZ:S13 cf m)(RH:S14 cf m)(Vl:S20 cf m)(s0:ae)(t0:aj)(h:AHeap)(L:Mem)  (o:Has h (L)){out:Bool}(H:dQ.f m s0 t0=some out) :
  ∃r h',bj Tryz.prog aW cf m 15 [.fp [.bool s0.ay,af.fz s0.aa,ab.fz s0.an] 0,.fp [af.fz t0.ah,ab.fz t0.ao,.bool t0.aE] 0] h=some (r,h')∧eX h' r (.bool out):=by
 refine aw (fn:=Tryz.f15) ha Tryz.func15 kr kr ?_
 refine aI (Q:=fun s=>dQ.fin L out s) (fun _ _ h=>h) ?_
 have H:_=some out:=H
 unfold dQ.f at H
 show dE _ cf FV m _ ⟨.fp [.bool s0.ay,af.fz s0.aa,ab.fz s0.an] 0 :: .fp [af.fz t0.ah,ab.fz t0.ao,.bool t0.aE] 0::sO [],[],h⟩ _
 refine q1 <| qq <| qq ?_
 obtain⟨x0,e0,H⟩:=aP H
 obtain⟨x1,e1,H⟩:=aP H
 refine qr [.a 1 (abZ _ _ e0 h _ (ia (ai (cV (pure_cons (bc) (pure_cons (bM.aJ (E:=af) (l:=s0.aa)) (pure_cons (bM.aJ (E:=ab) (l:=s0.an)) (pure_nil))))) (aD)))),.a 3 (RH _ _ e1 h _ (ia (ai (cV (pure_cons (bM.aJ (E:=af) (l:=t0.ah)) (pure_cons (bM.aJ (E:=ab) (l:=t0.ao)) (pure_cons (bc) (pure_nil))))) (aD))))] <| qc H (fun c0 H=>?_) (fun c0 H=>?_)
 ·exact q1 <| qt <| fB H
 ·refine qk <| qq <| qq <| q0 <| qb 0 ?_
  obtain⟨bp,e4,H⟩:=aP H
  refine ql (dQ.cm L s0 t0  RH Vl (-1:Int) _ _ ⟨h,kr,o⟩ e4) ?_
  rintro e s (⟨rfl,n1,rfl,g0,g1,g2,g3,h1,rfl,o1⟩| ⟨rfl,r0,rfl,r9⟩)
  ·try dsimp only at H
   exact q1 <| qt <| fB H
  ·try dsimp only at H
   obtain rfl:=oi H
   exact⟨.inl rfl,r9⟩
end
def OI:b4:=gL [0,2,3,4,5,7,12,16,24,36] [] [1022,990,1021,1010,946,1021,994,866,994,738,994,482,1021,1021] [] []
def bV.l0 (m:Nat)(l0:List cF):Nat→ae→aj→Int→Option (Sum Bool (ae × aj × Int))
 | 0,_,_,_=>none
 | k+1,s0,t0,i0=>if (decide (i0<(l0.length:Int)))=true then ((ix l0 i0).bind fun v0=>if (v0.iD==8)=true then ((ff.f m s0).bind fun x4=>NP x4.1 ((bP.f m t0).bind fun x5=>NP x5.1 ((ix l0 i0).bind fun v1=>none) fun uK=>(ix l0 i0).bind fun v2=>none) fun jG=>(bP.f m t0).bind fun x6=>NP x6.1 ((ix l0 i0).bind fun v3=>none) fun mB=>(ix l0 i0).bind fun v4=>(jX.f m jG mB v4).bind fun x7=>if (!x7.1)=true then (some (.inl false)) else (bV.l0 m l0 k x7.2.1 x7.2.2 (i64.wrap (i0+1)))) else ((ix l0 i0).bind fun v5=>(jX.f m s0 t0 v5).bind fun x8=>if (!x8.1)=true then (some (.inl false)) else (bV.l0 m l0 k x8.2.1 x8.2.2 (i64.wrap (i0+1))))) else (some (.inr (s0,t0,i0)))
def bV.f (m:Nat)(l0:List cF):Option (Bool):=(db.f m l0).bind fun x0=>if x0=true then ((r8.f m).bind fun x1=>some x1) else ((mj.f m ).bind fun x2=>(mo.f m ).bind fun x3=>(bV.l0 m l0 m x2 x3 0).bind fun bp=>match bp with | .inl r0=>some r0 | .inr (s1,t1,i1)=>(dQ.f m s1 t1).bind fun x9=>if x9=true then ((r8.f m).bind fun mW=>some mW) else (some false))
def bV.fin (L:Mem)(r:Bool)(s:St):Prop:=∃av,aK Tryz.prog (s.open OI) Tryz.f5.results.toList=some av∧eX s.h av (.bool r)
def S5 (cf:CallF)(m:Nat):Prop:=∀(l0:List cF) (r:Bool),bV.f m l0=some r→∀h xs,bl cd h xs [cw.fz l0]→cf 5 xs h=some (.bool r,h)
section
variable {cf:CallF}{m:Nat}
theorem bV.cm (L:Mem)(l0:List cF)  (RJ:S12 cf m)(RK:S18 cf m)(LX:S19 cf m):b9 Tryz.prog cf OI m (sub [1,1,1,1,0,1,0,0] (bw Tryz.f5)) (fun k (σ:ae × aj × Int)=>bV.l0 m l0 k σ.1 σ.2.1 σ.2.2) (fun σ s=>match σ with | (s0,t0,i0)=>∃kP fC hY iy iM kl h2,s=⟨cw.fz l0 :: .any :: .ptr iy 0 :: .ptr kP 0 :: .i i0::sO [],[],h2⟩∧Has h2 ((kP,.ob [.rs fC 0 t0.ah.length 4,.rs hY 0 t0.ao.length 1,.bool t0.aE])::(fC,.sl t0.ah.length 4 (af.l t0.ah))::(hY,.sl t0.ao.length 1 (ab.l t0.ao))::(iy,.ob [.bool s0.ay,.rs iM 0 s0.aa.length 4,.rs kl 0 s0.an.length 1])::(iM,.sl s0.aa.length 4 (af.l s0.aa))::(kl,.sl s0.an.length 1 (ab.l s0.an))::L)) (fun out e s=>(e = .exit 0∧∃s0 t0 i0,.inr (s0,t0,i0)=out∧∃lH z8 DP kP fC hY iy iM kl h2,s=⟨[lH,.any,.ptr iy 0,.ptr kP 0,z8,.any,.any,DP,.any,.any],[],h2⟩∧Has h2 ((kP,.ob [.rs fC 0 t0.ah.length 4,.rs hY 0 t0.ao.length 1,.bool t0.aE])::(fC,.sl t0.ah.length 4 (af.l t0.ah))::(hY,.sl t0.ao.length 1 (ab.l t0.ao))::(iy,.ob [.bool s0.ay,.rs iM 0 s0.aa.length 4,.rs kl 0 s0.an.length 1])::(iM,.sl s0.aa.length 4 (af.l s0.aa))::(kl,.sl s0.an.length 1 (ab.l s0.an))::L))∨(e = .ret∧∃r,.inl r=out∧bV.fin L r s)):=by
 refine jF (fun _=>rfl) ?_
 rintro k ⟨s0,t0,i0⟩ s out ⟨kP,fC,hY,iy,iM,kl,h2,rfl,o2⟩ H
 have H:bV.l0 m l0 (k+1) s0 t0 i0=some out:=H
 refine qq <| qq <| q0 <| qc H (fun c2 H=>?_) (fun c2 H=>?_)
 ·refine qk <| qq <| qb 1 <| qq <| qq ?_
  obtain⟨v0,e6,H⟩:=aP H
  refine qr [.v 2 (bN (k:=.i64) (E:=cw) (l:=l0) V8 e6),.v 4 (kc  (E:=cw) (l:=l0) (off:=0) h2 A3 e6 rfl)] <| qc H (fun c3 H=>?_) (fun c3 H=>?_)
  ·obtain⟨x4,e7,H⟩:=aP H
   rcases wK H with⟨hn0,H⟩| ⟨jG,hn0,H⟩
   ·obtain⟨gJ,jo,kO,jT,lk,h3,e8,o3⟩:=RK _ _ e7 h2 _ _ _ _ ((bI (bI (bI (bI (bI (bI o2 2) 2) 2) 5) 5) 5))  [.ptr iy 0] cq
    rw [hn0] at e8 o3
    obtain⟨x5,e9,H⟩:=aP H
    rcases wK H with⟨M9,H⟩| ⟨uK,M9,H⟩
    ·obtain⟨oK,oL,um,jH,HU,h4,ma,o4⟩:=LX _ _ e9 h3 _ _ _ _ ((bI (bI (bI (bI (bI (bI o3 2) 2) 2) 5) 5) 5))  [.ptr kP 0] cq
     rw [M9] at ma o4
     refine qr [.a 1 e8,.a 3 ma] ?_
     refine qq ?_
     obtain⟨v1,nH,H⟩:=aP H
     cases H
    ·obtain⟨kZ,DN,vt,nN,vC,h5,oS,qP⟩:=LX _ _ e9 h3 _ _ _ _ ((bI (bI (bI (bI (bI (bI o3 2) 2) 2) 5) 5) 5))  [.ptr kP 0] cq
     rw [M9] at oS qP
     refine qr [.a 1 e8,.a 3 oS] ?_
     refine qq ?_
     obtain⟨v2,rF,H⟩:=aP H
     cases H
   ·obtain⟨vD,mM,nQ,RF,yB,h6,s7,oM⟩:=RK _ _ e7 h2 _ _ _ _ ((bI (bI (bI (bI (bI (bI o2 2) 2) 2) 5) 5) 5))  [.ptr iy 0] cq
    rw [hn0] at s7 oM
    obtain⟨x6,s8,H⟩:=aP H
    rcases wK H with⟨Na,H⟩| ⟨mB,Na,H⟩
    ·obtain⟨Bz,agO,agP,agQ,agR,h7,vj,Ao⟩:=LX _ _ s8 h6 _ _ _ _ ((bI (bI (bI (bI (bI (bI (bI (bI (bI oM 5) 5) 5) 5) 5) 5) 8) 8) 8))  [.ptr kP 0] cq
     rw [Na] at vj Ao
     refine qr [.a 1 s7,.a 3 vj] ?_
     refine qq ?_
     obtain⟨v3,yV,H⟩:=aP H
     cases H
    ·obtain⟨FW,yD,yE,D2,FX,h8,yW,ni⟩:=LX _ _ s8 h6 _ _ _ _ ((bI (bI (bI (bI (bI (bI (bI (bI (bI oM 5) 5) 5) 5) 5) 5) 8) 8) 8))  [.ptr kP 0] cq
     rw [Na] at yW ni
     refine qr [.a 1 s7,.a 3 yW] ?_
     have Mz:Has h8 ((FW,.ob [.rs yD 0 mB.ah.length 4,.rs yE 0 mB.ao.length 1,.bool mB.aE])::(yD,.sl mB.ah.length 4 (af.l mB.ah))::(yE,.sl mB.ao.length 1 (ab.l mB.ao))::(kP,.ob [.rs D2 0 x6.2.ah.length 4,.rs FX 0 x6.2.ao.length 1,.bool x6.2.aE])::(D2,.sl x6.2.ah.length 4 (af.l x6.2.ah))::(FX,.sl x6.2.ao.length 1 (ab.l x6.2.ao))::(vD,.ob [.bool jG.ay,.rs mM 0 jG.aa.length 4,.rs nQ 0 jG.an.length 1])::(mM,.sl jG.aa.length 4 (af.l jG.aa))::(nQ,.sl jG.an.length 1 (ab.l jG.an))::(iy,.ob [.bool x4.2.ay,.rs RF 0 x4.2.aa.length 4,.rs yB 0 x4.2.an.length 1])::(RF,.sl x4.2.aa.length 4 (af.l x4.2.aa))::L):=iC ni 11
     have JN:Has h8 ((FW,.ob [.rs yD 0 mB.ah.length 4,.rs yE 0 mB.ao.length 1,.bool mB.aE])::(yD,.sl mB.ah.length 4 (af.l mB.ah))::(yE,.sl mB.ao.length 1 (ab.l mB.ao))::(kP,.ob [.rs D2 0 x6.2.ah.length 4,.rs FX 0 x6.2.ao.length 1,.bool x6.2.aE])::(D2,.sl x6.2.ah.length 4 (af.l x6.2.ah))::(FX,.sl x6.2.ao.length 1 (ab.l x6.2.ao))::(vD,.ob [.bool jG.ay,.rs mM 0 jG.aa.length 4,.rs nQ 0 jG.an.length 1])::(mM,.sl jG.aa.length 4 (af.l jG.aa))::(nQ,.sl jG.an.length 1 (ab.l jG.an))::(iy,.ob [.bool x4.2.ay,.rs RF 0 x4.2.aa.length 4,.rs yB 0 x4.2.an.length 1])::L):=iC Mz 10
     have Rx:Has h8 ((FW,.ob [.rs yD 0 mB.ah.length 4,.rs yE 0 mB.ao.length 1,.bool mB.aE])::(yD,.sl mB.ah.length 4 (af.l mB.ah))::(yE,.sl mB.ao.length 1 (ab.l mB.ao))::(kP,.ob [.rs D2 0 x6.2.ah.length 4,.rs FX 0 x6.2.ao.length 1,.bool x6.2.aE])::(D2,.sl x6.2.ah.length 4 (af.l x6.2.ah))::(FX,.sl x6.2.ao.length 1 (ab.l x6.2.ao))::(vD,.ob [.bool jG.ay,.rs mM 0 jG.aa.length 4,.rs nQ 0 jG.an.length 1])::(mM,.sl jG.aa.length 4 (af.l jG.aa))::(nQ,.sl jG.an.length 1 (ab.l jG.an))::L):=iC JN 9
     have Rz:Has h8 ((FW,.ob [.rs yD 0 mB.ah.length 4,.rs yE 0 mB.ao.length 1,.bool mB.aE])::(yD,.sl mB.ah.length 4 (af.l mB.ah))::(yE,.sl mB.ao.length 1 (ab.l mB.ao))::(kP,.ob [.rs D2 0 x6.2.ah.length 4,.rs FX 0 x6.2.ao.length 1,.bool x6.2.aE])::(D2,.sl x6.2.ah.length 4 (af.l x6.2.ah))::(vD,.ob [.bool jG.ay,.rs mM 0 jG.aa.length 4,.rs nQ 0 jG.an.length 1])::(mM,.sl jG.aa.length 4 (af.l jG.aa))::(nQ,.sl jG.an.length 1 (ab.l jG.an))::L):=iC Rx 5
     have Tb:Has h8 ((FW,.ob [.rs yD 0 mB.ah.length 4,.rs yE 0 mB.ao.length 1,.bool mB.aE])::(yD,.sl mB.ah.length 4 (af.l mB.ah))::(yE,.sl mB.ao.length 1 (ab.l mB.ao))::(kP,.ob [.rs D2 0 x6.2.ah.length 4,.rs FX 0 x6.2.ao.length 1,.bool x6.2.aE])::(vD,.ob [.bool jG.ay,.rs mM 0 jG.aa.length 4,.rs nQ 0 jG.an.length 1])::(mM,.sl jG.aa.length 4 (af.l jG.aa))::(nQ,.sl jG.an.length 1 (ab.l jG.an))::L):=iC Rz 4
     have X2:Has h8 ((FW,.ob [.rs yD 0 mB.ah.length 4,.rs yE 0 mB.ao.length 1,.bool mB.aE])::(yD,.sl mB.ah.length 4 (af.l mB.ah))::(yE,.sl mB.ao.length 1 (ab.l mB.ao))::(vD,.ob [.bool jG.ay,.rs mM 0 jG.aa.length 4,.rs nQ 0 jG.an.length 1])::(mM,.sl jG.aa.length 4 (af.l jG.aa))::(nQ,.sl jG.an.length 1 (ab.l jG.an))::L):=iC Tb 3
     refine qq ?_
     obtain⟨v4,vq,H⟩:=aP H
     obtain⟨x7,Bd,H⟩:=aP H
     obtain⟨ab0,ab1,ab2,ab3,h9,Bu,o33⟩:=RJ _ _ _ _ Bd h8 _ _ _ _ _ _ _ ((bI (bI (bI (bI (bI (bI X2 2) 2) 2) 5) 5) 5))  [.ptr vD 0,.ptr FW 0,.agg [.i v4.iD,.i v4.uc,.i v4.GX,.str v4.dY,ab.fz v4.iT,af.fz v4.Bc.nodes,.i v4.Bc.root]] cq
     refine qr [.v 4 (bN (k:=.i64) (E:=cw) (l:=l0) V8 vq),.v 5 (fZ  (E:=cw) (l:=l0) h8 A27 Z27 vq),.a 6 Bu] <| qc H (fun c4 H=>?_) (fun c4 H=>?_)
     ·refine q1 ?_
      exact qt <| ajW (⟨rfl,_,oi H,pX (.bool false) h9 (oR (jh))⟩)
     ·exact qk <| q0 <| ⟨(x7.2.1,x7.2.2,i64.wrap (i0+1)),⟨FW,ab2,ab3,vD,ab0,ab1,h9,kr,(bI (bI (bI (bI (bI (bI o33 2) 2) 2) 5) 5) 5)⟩,H⟩
  ·refine qk <| qq ?_
   obtain⟨v5,Bv,H⟩:=aP H
   obtain⟨x8,Be,H⟩:=aP H
   obtain⟨ab4,ab5,ab6,ab7,h10,Bw,o40⟩:=RJ _ _ _ _ Be h2 _ _ _ _ _ _ _ ((bI (bI (bI (bI (bI (bI o2 2) 2) 2) 5) 5) 5))  [.ptr iy 0,.ptr kP 0,.agg [.i v5.iD,.i v5.uc,.i v5.GX,.str v5.dY,ab.fz v5.iT,af.fz v5.Bc.nodes,.i v5.Bc.root]] cq
   refine qr [.v 4 (bN (k:=.i64) (E:=cw) (l:=l0) V8 Bv),.v 5 (fZ  (E:=cw) (l:=l0) h2 A27 Z27 Bv),.a 6 Bw] <| qc H (fun c5 H=>?_) (fun c5 H=>?_)
   ·refine q1 ?_
    exact qt <| ajW (⟨rfl,_,oi H,pX (.bool false) h10 (oR (jh))⟩)
   ·exact qk <| q0 <| ⟨(x8.2.1,x8.2.2,i64.wrap (i0+1)),⟨kP,ab6,ab7,iy,ab4,ab5,h10,kr,(bI (bI (bI (bI (bI (bI o40 2) 2) 2) 5) 5) 5)⟩,H⟩
 ·exact qx 0 <| akl (⟨rfl,s0,t0,i0,oi H,cw.fz l0,.i i0,.bool (decide (i0<(l0.length:Int))),kP,fC,hY,iy,iM,kl,h2,kr,o2⟩)
theorem rD {aW:FuncId→b4}(ha:aW 5=OI)(S8_:S8 cf m)(S9_:S9 cf m)(RJ:S12 cf m)(Yj:S15 cf m)(ab8:S16 cf m)(ab9:S17 cf m)(RK:S18 cf m)(LX:S19 cf m)(l0:List cF)(h:AHeap)(L:Mem)  (o:Has h (L)){out:Bool}(H:bV.f m l0=some out) :
  ∃r h',bj Tryz.prog aW cf m 5 [cw.fz l0] h=some (r,h')∧eX h' r (.bool out):=by
 refine aw (fn:=Tryz.f5) ha Tryz.func5 kr kr ?_
 refine aI (Q:=fun s=>bV.fin L out s) (fun _ _ h=>h) ?_
 have H:_=some out:=H
 unfold bV.f at H
 show dE _ cf OI m _ ⟨cw.fz l0::NJ [],[],h⟩ _
 refine q1 <| qq <| qq ?_
 obtain⟨x0,e0,H⟩:=aP H
 refine qr [.a 1 (S8_ _ _ e0 h _ fq)] <| qc H (fun c0 H=>?_) (fun c0 H=>?_)
 ·refine qq ?_
  obtain⟨x1,e1,H⟩:=aP H
  exact qr [.a 0 (S9_ _ e1 h _ fq)] <| qt <| fB H
 ·refine qk <| qq ?_
  obtain⟨x2,e2,H⟩:=aP H
  obtain⟨aX,b7,bT,h0,e3,o0⟩:=ab8 _ e2 h _  (o)  [] cq
  obtain⟨x3,e4,H⟩:=aP H
  obtain⟨cK,dN,gM,h1,e5,o1⟩:=ab9 _ e4 h0 _  (o0)  [] cq
  refine qr [.a 0 e3,.a 1 e5] <| qq <| qq <| q0 <| Dr <| qk <| qq <| qq <| q0 <| qb 0 ?_
  obtain⟨bp,DM,H⟩:=aP H
  refine ql (bV.cm L l0  RJ RK LX (x2,x3,0) _ _ ⟨cK,dN,gM,aX,b7,bT,h1,kr,o1⟩ DM) ?_
  rintro e s (⟨rfl,s1,t1,i1,rfl,g0,g1,g2,agU,agV,agW,agX,agY,agZ,h11,rfl,MB⟩| ⟨rfl,r0,rfl,r9⟩)
  ·try dsimp only at H
   refine qq ?_
   obtain⟨x9,DS,H⟩:=aP H
   rcases eV H with⟨c6,H⟩| ⟨c6,H⟩
   ·obtain⟨mW,HV,H⟩:=aP H
    refine qr [.a 2 (Yj _ _ _ DS h11 _ (ia (ai (dM (q:=3) MB rfl (ai (eM) (ai (cC (E:=af) (l:=s1.aa) (q:=4) MB rfl (fun _=>rfl)) (ai (cC (E:=ab) (l:=s1.an) (q:=5) MB rfl (fun _=>rfl)) (aD))))) (ai (dM (q:=0) MB rfl (ai (cC (E:=af) (l:=t1.ah) (q:=1) MB rfl (fun _=>rfl)) (ai (cC (E:=ab) (l:=t1.ao) (q:=2) MB rfl (fun _=>rfl)) (ai (eM) (aD))))) (aD))))),.b 3 c6,.a 4 (S9_ _ HV h11 _ fq)] ?_
    exact qt <| fB H
   ·refine qr [.a 2 (Yj _ _ _ DS h11 _ (ia (ai (dM (q:=3) MB rfl (ai (eM) (ai (cC (E:=af) (l:=s1.aa) (q:=4) MB rfl (fun _=>rfl)) (ai (cC (E:=ab) (l:=s1.an) (q:=5) MB rfl (fun _=>rfl)) (aD))))) (ai (dM (q:=0) MB rfl (ai (cC (E:=af) (l:=t1.ah) (q:=1) MB rfl (fun _=>rfl)) (ai (cC (E:=ab) (l:=t1.ao) (q:=2) MB rfl (fun _=>rfl)) (ai (eM) (aD))))) (aD))))),.b 3 c6] ?_
    exact qt <| fB H
  ·try dsimp only at H
   obtain rfl:=oi H
   exact⟨.inl rfl,r9⟩
end
end Go.Proofs.YtifafejidnjckaaGreat
namespace Go.Uf
open Go Go.R
open Go.IntKind (i64 u64 u8 u32)
def lI (to:List Int)(n:Int):Int:=to.getD n.toNat n
def kA (to:List Int):Nat→Int→Int
 | 0,n=>n
 | k+1,n=>lI to (kA to k n)
def LY:List Int→Nat→Nat
 | [],_=>0
 | x::l,i=>(if x=(i:Int) then 0 else 1)+LY l (i+1)
def xP (to:List Int):Nat:=LY to 0
def rp (to:List Int)(n:Int):Int:=kA to (xP to) n
def Rg (len:Nat)(n:Int):Prop:=0≤n∧n<len
instance (len:Nat) (n:Int):Decidable (Rg len n):=inferInstanceAs (Decidable (_∧_))
structure Ql (to:List Int):Prop where
 rg:∀n,Rg to.length n→Rg to.length (lI to n)
 rt:∀n,Rg to.length n→lI to (rp to n)=rp to n
theorem OJ:∀(l:List Int) (i:Nat),LY l i≤l.length
 | [],_=>aiQ _
 | x::l,i=>by
  have:=OJ l (i+1)
  simp only [LY,aiX]
  split<;>omega
theorem D3 (to:List Int):xP to≤to.length:=OJ to 0
theorem Ki:∀(l:List Int) (i j:Nat) (b:Int),l[j]? = some ((i+j:Nat):Int)→b≠((i+j:Nat):Int)→LY (l.set j b) i=LY l i+1
 | [],_,_,_,h,_=>by simp at h
 | x::l,i,0,b,h,hb=>by
  simp only [ajx,aiL,akj] at h hb
  simp only [List.set_cons_zero,LY,h,if_true]
  rw [if_neg hb]; omega
 | x::l,i,j+1,b,h,hb=>by
  simp only [ajV] at h
  have e:i+(j+1)=i+1+j:=by omega
  rw [e] at h hb
  have:=Ki l (i+1) j b h hb
  simp only [List.set_cons_succ,LY,this]; omega
theorem Kj:∀(l:List Int) (i:Nat),LY (l++[((i+l.length:Nat):Int)]) i=LY l i
 | [],i=>by simp [LY]
 | x::l,i=>by
  have:=Kj l (i+1)
  have e:i+(x::l).length=i+1+l.length:=by simp only [aiX]; omega
  rw [e]
  show _+LY (l++_) (i+1)=_+LY l (i+1)
  rw [this]
section
variable {to:List Int}{a b n:Int}
theorem yY (h:Rg to.length n):to[n.toNat]? = some (lI to n):=by
 have hl:n.toNat<to.length:=by have:=h.1; have:=h.2; omega
 unfold lI
 rw [ai2,aiN hl]; rfl
theorem D4 (h:Rg to.length n):ix to n=some (lI to n):=by
 unfold ix; rw [if_pos h.1,yY h]
theorem AH (o:Ql to)(h:Rg to.length n):∀k,Rg to.length (kA to k n)
 | 0=>h
 | k+1=>o.rg _ (AH o h k)
theorem OL (o:Ql to)(h:Rg to.length n):Rg to.length (rp to n):=AH o h _
theorem FY (h:lI to n=n):∀k,kA to k n=n
 | 0=>rfl
 | k+1=>by show lI to (kA to k n)=n; rw [FY h k,h]
theorem qF (h:lI to n=n):rp to n=n:=FY h _
theorem FZ {d:Nat}(h:lI to (kA to d n)=kA to d n):∀e,kA to (d+e) n=kA to d n
 | 0=>rfl
 | e+1=>by show lI to (kA to (d+e) n)=_; rw [FZ h e,h]
theorem RL {d:Nat}(hd:d≤xP to)(h:lI to (kA to d n)=kA to d n):rp to n=kA to d n:=by
 have:=FZ h (xP to - d)
 rw [Nat.add_sub_cancel' hd] at this
 exact this
theorem D5 (ha:Rg to.length a):∀n,lI (to.set a.toNat b) n=if n.toNat=a.toNat then b else lI to n:=by
 intro n
 have hl:a.toNat<to.length:=by have:=ha.1; have:=ha.2; omega
 unfold lI
 rw [ai2,ai2,aj9]
 by_cases h:n.toNat=a.toNat
 ·rw [if_pos h.symm,if_pos hl,if_pos h]; rfl
 ·rw [if_neg (fun e=>h e.symm),if_neg h]
theorem Kk (ha:Rg to.length a)(h1:lI to a=a)(hne:b≠a):xP (to.set a.toNat b)=xP to+1:=by
 have h0:=ha.1
 refine Ki to 0 a.toNat b ?_ ?_
 ·rw [yY ha,h1]; congr 1; omega
 ·intro e; apply hne; rw [e]; omega
theorem Yk (o:Ql to)(ha:Rg to.length a)(hb:Rg to.length b)(h1:lI to a=a)(h2:lI to b=b)(hne:b≠a) :
  Ql (to.set a.toNat b)∧∀n,Rg to.length n→rp (to.set a.toNat b) n=if rp to n=a then b else rp to n:=by
 have hl:(to.set a.toNat b).length=to.length:=ajw
 have hs:∀n,Rg to.length n→lI (to.set a.toNat b) n=if n=a then b else lI to n:=fun n hn=>by
  rw [D5 ha]
  by_cases h:n=a
  ·subst h; simp
  ·rw [if_neg h,if_neg (fun e=>h (by have:=hn.1; have:=ha.1; omega))]
 have Ba:lI (to.set a.toNat b) b=b:=by rw [hs b hb,if_neg hne,h2]
 have key:∀n,Rg to.length n→∀d,kA (to.set a.toNat b) d n=kA to d n∨(kA (to.set a.toNat b) d n=b∧kA to d n=a):=fun n hn d=>by
  induction d with
  | zero=>exact .inl rfl
  | succ d ih=>
   show lI _ (kA _ d n)=lI to (kA to d n)∨(lI _ (kA _ d n)=b∧lI to (kA to d n)=a)
   rcases ih with ih | ⟨ih,ih2⟩
   ·rw [ih,hs _ (AH o hn d)]
    by_cases h:kA to d n=a
    ·rw [if_pos h,h,h1]; exact .inr ⟨rfl,rfl⟩
    ·rw [if_neg h]; exact .inl rfl
   ·rw [ih,ih2,h1,Ba]; exact .inr ⟨rfl,rfl⟩
 have hrp:∀n,Rg to.length n→rp (to.set a.toNat b) n=if rp to n=a then b else rp to n:=fun n hn=>by
  show kA _ (xP (to.set a.toNat b)) n=_
  rw [Kk ha h1 hne]
  have hr:=o.rt n hn
  have hrg:=OL o hn
  show lI _ (kA _ (xP to) n)=_
  rcases key n hn (xP to) with h | ⟨h,h3⟩
  ·rw [h]
   show lI _ (rp to n)=_
   rw [hs _ hrg,hr]
  ·have h3:rp to n=a:=h3
   rw [h,Ba,if_pos h3]
 refine⟨⟨fun n hn=>?_,fun n hn=>?_⟩,hrp⟩
 ·rw [hl] at hn ⊢
  rw [hs n hn]
  split
  ·exact hb
  ·exact o.rg n hn
 ·rw [hl] at hn
  rw [hrp n hn]
  by_cases h:rp to n=a
  ·rw [if_pos h,Ba]
  ·rw [if_neg h,hs _ (OL o hn),if_neg h,o.rt n hn]
theorem Yl (o:Ql to):Ql (to++[(to.length:Int)])∧(∀n,Rg to.length n→rp (to++[(to.length:Int)]) n=rp to n)∧rp (to++[(to.length:Int)]) (to.length:Int)=(to.length:Int):=by
 have hl:(to++[(to.length:Int)]).length=to.length+1:=by simp
 have hn:xP (to++[(to.length:Int)])=xP to:=by
  have:=Kj to 0
  rw [ajf] at this
  exact this
 have hs:∀n,Rg to.length n→lI (to++[(to.length:Int)]) n=lI to n:=fun n h=>by
  have:n.toNat<to.length:=by have:=h.1; have:=h.2; omega
  unfold lI
  rw [ai2,ai2,ai6 this]
 have hz:lI (to++[(to.length:Int)]) (to.length:Int)=(to.length:Int):=by
  unfold lI
  rw [ai2,aiP,ai0 (aiQ _),ajI]; rfl
 have hi:∀n,Rg to.length n→∀k,kA (to++[(to.length:Int)]) k n=kA to k n:=fun n h k=>by
  induction k with
  | zero=>rfl
  | succ k ih=>show lI _ (kA _ k n)=lI to (kA to k n); rw [ih,hs _ (AH o h k)]
 have hr:∀n,Rg to.length n→rp (to++[(to.length:Int)]) n=rp to n:=fun n h=>by
  unfold rp; rw [hn]; exact hi n h _
 have hc:∀n,Rg (to.length+1) n→Rg to.length n∨n=to.length:=fun n h=>by
  unfold Rg at h ⊢; omega
 refine⟨⟨fun n h=>?_,fun n h=>?_⟩,hr,qF hz⟩
 ·rw [hl] at h ⊢
  rcases hc n h with h | rfl
  ·rw [hs n h]; have:=o.rg n h; unfold Rg at this ⊢; omega
  ·rw [hz]; exact h
 ·rw [hl] at h
  rcases hc n h with h | rfl
  ·rw [hr n h,hs _ (OL o h),o.rt n h]
  ·rw [qF hz,hz]
end
theorem RM:Ql []:=⟨fun n h=>by have:=h.1; have:=h.2; simp at this; omega,fun n h=>by have:=h.1; have:=h.2; simp at this; omega⟩
end Go.Uf
