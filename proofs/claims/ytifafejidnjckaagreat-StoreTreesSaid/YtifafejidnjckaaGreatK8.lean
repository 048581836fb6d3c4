/- Part of the proof: Q30, Q34, Q52, Q54, Q56, Q57, Q60, Q61, Q63, Q64, Q68, Q70, Q77, Q83, Q84, Q86, Q90, Q100, Q108, Q111, Q122, Q123, Q124, Q127, Q129, Q135, Q136, Q143, Q147, Q148, Q44, Q47, Q48, Q59, Q74, Q79, Q80, Q82, Q103, Q115, Q116, Q117, Q118. -/
import Derived.Test.YtifafejidnjckaaGreatK7
set_option linter.unusedVariables false
set_option linter.unusedSimpArgs false
set_option maxRecDepth 100000
open ByteArray renaming mk → abp
open List renaming append_assoc → aa0, cons_append → abm, nil_append → abr
namespace Go.Proofs.YtifafejidnjckaaGreat
open Go Go.R
open Go.IntKind (i64 u64 u8 u32)
def Ee:bR:=gC [0,2,3] [] [6,1] [] []
def ff.f (m:Nat)(s0:ab):Option (Int × Int × ab):=(bT.f m s0 (dS.f m ) (ai.mk 0 0 (abp #[]) ([]))).bind fun x0=>some (x0.1,x0.2.1,x0.2.2)
def ff.fin (L:Mem)(ar:Nat)(an:Nat)(ao:Nat)(s0:ab)(r:Int × Int × ab)(s:St):Prop:=∃aA aB:Nat,aE Tryz.prog (s.open Ee) Tryz.f30.results.toList=some (.tup [.i r.1,.i r.2.1])∧Has s.h ((ar,.ob [.bool r.2.2.aj,.rs aA 0 r.2.2.aa.length 4,.rs aB 0 r.2.2.ae.length 1])::(aA,.sl r.2.2.aa.length 4 (ah.l r.2.2.aa))::(aB,.sl r.2.2.ae.length 1 (af.l r.2.2.ae))::L)
def Wj (cf:CallF)(m:Nat):Prop:=∀(s0:ab) (r:Int × Int × ab),ff.f m s0=some r→∀h L (ar:Nat) (an:Nat) (ao:Nat),Has h ((ar,.ob [.bool s0.aj,.rs an 0 s0.aa.length 4,.rs ao 0 s0.ae.length 1])::(an,.sl s0.aa.length 4 (ah.l s0.aa))::(ao,.sl s0.ae.length 1 (af.l s0.ae))::L)→∀xs,xs.map aN=[.ptr ar 0]→∃aA aB h',cf 30 xs h=some (.tup [.i r.1,.i r.2.1],h')∧Has h' ((ar,.ob [.bool r.2.2.aj,.rs aA 0 r.2.2.aa.length 4,.rs aB 0 r.2.2.ae.length 1])::(aA,.sl r.2.2.aa.length 4 (ah.l r.2.2.aa))::(aB,.sl r.2.2.ae.length 1 (af.l r.2.2.ae))::L)
section
variable {cf:CallF}{m:Nat}
theorem oD {aS:FuncId→bR}(ha:aS 30=Ee)(y5:OC cf m)(TH:Wg cf m)(s0:ab)(h:AHeap)(L:Mem)(ar:Nat)(an:Nat)(ao:Nat)  (o:Has h ((ar,.ob [.bool s0.aj,.rs an 0 s0.aa.length 4,.rs ao 0 s0.ae.length 1])::(an,.sl s0.aa.length 4 (ah.l s0.aa))::(ao,.sl s0.ae.length 1 (af.l s0.ae))::L)){out:Int × Int × ab}(H:ff.f m s0=some out) :
  ∃r h',a6 Tryz.prog aS cf m 30 [.ptr ar 0] h=some (r,h')∧∃aA aB:Nat,r = .tup [.i out.1,.i out.2.1]∧Has h' ((ar,.ob [.bool out.2.2.aj,.rs aA 0 out.2.2.aa.length 4,.rs aB 0 out.2.2.ae.length 1])::(aA,.sl out.2.2.aa.length 4 (ah.l out.2.2.aa))::(aB,.sl out.2.2.ae.length 1 (af.l out.2.2.ae))::L):=by
 refine aq (fn:=Tryz.f30) ha Tryz.func30 kr kr ?_
 refine aC (Q:=fun s=>ff.fin L ar an ao s0 out s) (fun _ _ ⟨h1,aA,aB,h2,h3⟩=>⟨h1,_,h2,aA,aB,rfl,h3⟩) ?_
 have H:_=some out:=H
 unfold ff.f at H
 show cZ _ cf Ee m _ ⟨[.ptr ar 0,.any,.any],[],h⟩ _
 refine q1 <| qq ?_
 obtain⟨x0,e0,H⟩:=aW H
 obtain⟨aM,cr,h0,e1,o0⟩:=y5 _ _ _ _ e0 h _ _ _ _ (o) 72 [] [] rfl (fun h' tj  r hr hx=>TH  r hr h' tj hx) (fun h' K' o'=>iR (aG)) (fun h_=>iR (aG)) [.ptr ar 0,.fn 72 [],.agg [.i 0,.i 0,.str (abp #[]),.nils]] (gw (rfl) (gw (rfl) (gw (oy (uP (fV (mV) (fV (mV) (fV (uN) (fV (tQ (E:=af)) (uO))))))) cq)))
 obtain rfl:=oi H
 exact qr [.a 2 e1] <| qt <| ⟨.inl rfl,⟨aM,cr,kr,he o0⟩⟩
end
def Ef:bR:=gC [0,1,3,4,5] [] [26,7] [] []
def fh.f (m:Nat)(s0:ab)(n0:Int):Option (Int × Int × ab):=(bT.f m s0 (dq.f m n0) (ai.mk 1 n0 (abp #[]) ([]))).bind fun x0=>some (x0.1,x0.2.1,x0.2.2)
def fh.fin (L:Mem)(ar:Nat)(an:Nat)(ao:Nat)(s0:ab)(n0:Int)(r:Int × Int × ab)(s:St):Prop:=∃aA aB:Nat,aE Tryz.prog (s.open Ef) Tryz.f34.results.toList=some (.tup [.i r.1,.i r.2.1])∧Has s.h ((ar,.ob [.bool r.2.2.aj,.rs aA 0 r.2.2.aa.length 4,.rs aB 0 r.2.2.ae.length 1])::(aA,.sl r.2.2.aa.length 4 (ah.l r.2.2.aa))::(aB,.sl r.2.2.ae.length 1 (af.l r.2.2.ae))::L)
def Wk (cf:CallF)(m:Nat):Prop:=∀(s0:ab) (n0:Int) (r:Int × Int × ab),fh.f m s0 n0=some r→∀h L (ar:Nat) (an:Nat) (ao:Nat),Has h ((ar,.ob [.bool s0.aj,.rs an 0 s0.aa.length 4,.rs ao 0 s0.ae.length 1])::(an,.sl s0.aa.length 4 (ah.l s0.aa))::(ao,.sl s0.ae.length 1 (af.l s0.ae))::L)→∀xs,xs.map aN=[.ptr ar 0,.i n0]→∃aA aB h',cf 34 xs h=some (.tup [.i r.1,.i r.2.1],h')∧Has h' ((ar,.ob [.bool r.2.2.aj,.rs aA 0 r.2.2.aa.length 4,.rs aB 0 r.2.2.ae.length 1])::(aA,.sl r.2.2.aa.length 4 (ah.l r.2.2.aa))::(aB,.sl r.2.2.ae.length 1 (af.l r.2.2.ae))::L)
section
variable {cf:CallF}{m:Nat}
theorem oE {aS:FuncId→bR}(ha:aS 34=Ef)(y5:OC cf m)(TI:Wh cf m)(s0:ab)(n0:Int)(h:AHeap)(L:Mem)(ar:Nat)(an:Nat)(ao:Nat)  (o:Has h ((ar,.ob [.bool s0.aj,.rs an 0 s0.aa.length 4,.rs ao 0 s0.ae.length 1])::(an,.sl s0.aa.length 4 (ah.l s0.aa))::(ao,.sl s0.ae.length 1 (af.l s0.ae))::L)){out:Int × Int × ab}(H:fh.f m s0 n0=some out) :
  ∃r h',a6 Tryz.prog aS cf m 34 [.ptr ar 0,.i n0] h=some (r,h')∧∃aA aB:Nat,r = .tup [.i out.1,.i out.2.1]∧Has h' ((ar,.ob [.bool out.2.2.aj,.rs aA 0 out.2.2.aa.length 4,.rs aB 0 out.2.2.ae.length 1])::(aA,.sl out.2.2.aa.length 4 (ah.l out.2.2.aa))::(aB,.sl out.2.2.ae.length 1 (af.l out.2.2.ae))::L):=by
 refine aq (fn:=Tryz.f34) ha Tryz.func34 kr kr ?_
 refine aC (Q:=fun s=>fh.fin L ar an ao s0 n0 out s) (fun _ _ ⟨h1,aA,aB,h2,h3⟩=>⟨h1,_,h2,aA,aB,rfl,h3⟩) ?_
 have H:_=some out:=H
 unfold fh.f at H
 show cZ _ cf Ef m _ ⟨.ptr ar 0 :: .i n0::nU [],[],h⟩ _
 refine qq ?_
 obtain⟨aM,h0,e0,o0⟩:=gM (cs:=[.i n0]) o kr
 refine qr [.a 0 e0] <| qq ?_
 obtain⟨x0,e1,H⟩:=aW H
 obtain⟨cr,dY,h1,e2,o1⟩:=y5 _ _ _ _ e1 h0 _ _ _ _ ((fe (fe (fe (fe o0 0) 3) 3) 3)) 76 [.ptr aM 0] [.fp [.i n0] 0] rfl (fun h' tj  r hr hx=>TI _ r hr h' tj hx) (fun h' K' o'=>iR (ak (eC (q:=(K'.length+3)) o' (jG rfl) (ak (bO) (aG))) (aG))) (fun h_=>iR (ak (fE (pure_cons (gW) (pure_nil))) (aG))) [.ptr ar 0,.fn 76 [.ptr aM 0],.agg [.i 1,.i n0,.str (abp #[]),.nils]] (gw (rfl) (gw (rfl) (gw (oy (uP (fV (mV) (fV (mV) (fV (uN) (fV (tQ (E:=af)) (uO))))))) cq)))
 refine qr [.v 2 (show bw Tryz.prog h0 3 (.ptr aM 0)=some (.i n0) from b6 (q:=0) (cs:=[.i n0]) o0 rfl kr),.a 4 e2] ?_
 have o2:Has h1 ((ar,.ob [.bool x0.2.2.aj,.rs cr 0 x0.2.2.aa.length 4,.rs dY 0 x0.2.2.ae.length 1])::(cr,.sl x0.2.2.aa.length 4 (ah.l x0.2.2.aa))::(dY,.sl x0.2.2.ae.length 1 (af.l x0.2.2.ae))::L):=iJ o1 3
 obtain rfl:=oi H
 exact qt <| ⟨.inl rfl,⟨cr,dY,kr,he o2⟩⟩
end
def xo:bR:=gC [0,1,4,5,6,7,9,10,23,36,37,38,39,48] [14] [16380,16374,16358,16326,16070,16326,12742,8646,12678,12614,4422,12614,12742,12742,16379] [] []
def aF.l1 (m:Nat)(s0:ab)(v2:ai):Nat→(List Int)→(List (Int × Bool))→Int→Option ((List Int) × (List (Int × Bool)) × Int)
 | 0,_,_,_=>none
 | k+1,dA,gg,x1=>if (decide (x1<(v2.args.length:Int)))=true then ((ix v2.args x1).bind fun v3=>(bg.f m s0 v3).bind fun x2=>if (!((wJ gg x2).1))=true then ((app 8 dA ([x2])).bind fun x3=>aF.l1 m s0 v2 k x3 (CD gg x2 true) (i64.wrap (x1+1))) else (aF.l1 m s0 v2 k dA gg (i64.wrap (x1+1)))) else (some ((dA,gg,x1)))
def aF.l0 (m:Nat)(s0:ab):Nat→(List Int)→(List (Int × Bool))→Int→Option ((List Int) × (List (Int × Bool)) × Int)
 | 0,_,_,_=>none
 | k+1,bP,dZ,k0=>if (decide (k0<(bP.length:Int)))=true then ((ix bP k0).bind fun v1=>(ix s0.aa v1).bind fun v2=>(aF.l1 m s0 v2 m bP dZ 0).bind fun AR=>match AR with | (lV,Ic,x4)=>aF.l0 m s0 k lV Ic (i64.wrap (k0+1))) else (some ((bP,dZ,k0)))
def aF.f (m:Nat)(s0:ab)(n0:Int):Option ((List Int)):=(bg.f m s0 n0).bind fun x0=>(ix ([x0]) 0).bind fun v0=>(aF.l0 m s0 m ([x0]) (CD ([]:List (Int × Bool)) v0 true) 0).bind fun Ie=>match Ie with | (dB,Qc,k1)=>some dB
def aF.fin (L:Mem)  (r:(List Int))(s:St):Prop:=∃dz:Nat,aE Tryz.prog (s.open xo) Tryz.f60.results.toList=some (.rs dz 0 r.length 1)∧Has s.h ((dz,.sl r.length 1 (af.l r))::L)
def TJ (cf:CallF)(m:Nat):Prop:=∀(s0:ab) (n0:Int) (r:(List Int)),aF.f m s0 n0=some r→∀h L xs,Has h L→aP bH h xs [.fp [.bool s0.aj,ah.fz s0.aa,af.fz s0.ae] 0,.i n0]→∃dz h',cf 60 xs h=some (.rs dz 0 r.length 1,h')∧Has h' ((dz,.sl r.length 1 (af.l r))::L)∧∀j,j<h.next→h.ver j=h'.ver j
section
variable {cf:CallF}{m:Nat}
theorem aF.k8 (L:Mem)(s0:ab)(cr:Nat)(k0:Int)(v2:ai)  (pS:LV cf m):cY Tryz.prog cf xo m (sub [1,1,1,0,1,0,0,1,0,0,1,0,0] (bN Tryz.f60)) (fun k (σ:(List Int) × (List (Int × Bool)) × Int)=>aF.l1 m s0 v2 k σ.1 σ.2.1 σ.2.2) (fun σ s=>match σ with | (dA,gg,x1)=>∃fk h4,s=⟨.fp [.bool s0.aj,ah.fz s0.aa,af.fz s0.ae] 0 :: .any :: .any :: .rs fk 0 dA.length 1 :: .mp cr :: .i k0::nU [af.fz v2.args,.i (v2.args.length:Int),.i x1,.any,.any],[none],h4⟩∧Has h4 ((cr,.mp (DX gg))::(fk,.sl dA.length 1 (af.l dA))::L)) (fun out e s=>(e = .exit 2∧∃dA gg x1,(dA,gg,x1)=out∧∃Nt CL CM If fk h4,s=⟨.fp [.bool s0.aj,ah.fz s0.aa,af.fz s0.ae] 0 :: .any :: .any :: .rs fk 0 dA.length 1 :: .mp cr :: .i k0::nU [Nt,CL,CM,If,.any],[none],h4⟩∧Has h4 ((cr,.mp (DX gg))::(fk,.sl dA.length 1 (af.l dA))::L))):=by
 refine ln (fun _=>rfl) ?_
 rintro k ⟨dA,gg,x1⟩ s out ⟨fk,h4,rfl,o4⟩ H
 have H:aF.l1 m s0 v2 (k+1) dA gg x1=some out:=H
 refine q1 <| qq <| qc H (fun c1 H=>?_) (fun c1 H=>?_)
 ·refine qk <| qq <| qb 3 <| qq ?_
  obtain⟨v3,e7,H⟩:=aW H
  refine qr [.v 0 (eK (k:=.i64) (E:=af) (l:=v2.args) gj e7),.v 1 (gK  (E:=af) (l:=v2.args) h4 A3 e7 rfl)] <| qq ?_
  obtain⟨x2,e8,H⟩:=aW H
  refine qr [.a 2 (pS _ _ _ e8 h4 _ (lZ (ak (fE (pure_cons (cu) (pure_cons (bL.bp (E:=ah) (l:=s0.aa)) (pure_cons (bL.bp (E:=af) (l:=s0.ae)) (pure_nil))))) (ak (bO) (aG)))))] <| qq <| qr [.v 2 (show eZ Tryz.prog h4 100 (.mp cr) (.i x2) false=some (.bool ((wJ gg x2).1)) from (Tl (q:=0) (l:=gg) (k:=x2) HY o4 rfl).2)] <| qc H (fun c2 H=>?_) (fun c2 H=>?_)
  ·refine qq ?_
   obtain⟨h5,e9,o5⟩:=PT (q:=0) (l:=gg) (k:=x2) (v:=true) HY o4 rfl
   refine qr [.w 2 e9] ?_
   obtain⟨x3,sL,H⟩:=aW H
   obtain⟨fR,h6,vg,o6⟩:=ju (P:=Tryz.prog) (E:=af) (l:=dA) (q:=1) (t2:=22) (x:=.fz [.i x2] 1 true) (l2:=([x2])) gj o5 rfl kr rfl sL
   exact qr [.a 3 vg] <| q0 <| ⟨(x3,CD gg x2 true,i64.wrap (x1+1)),⟨fR,h6,kr,o6⟩,H⟩
  ·exact qk <| q0 <| ⟨(dA,gg,i64.wrap (x1+1)),⟨fk,h4,kr,o4⟩,H⟩
 ·exact qx 2 <| ⟨rfl,dA,gg,x1,oi H,af.fz v2.args,.i (v2.args.length:Int),.i x1,.bool (decide (x1<(v2.args.length:Int))),fk,h4,kr,o4⟩
theorem aF.cb (L:Mem)(s0:ab)(cr:Nat)  (pS:LV cf m):cY Tryz.prog cf xo m (sub [1,1,1,0,1,0,0] (bN Tryz.f60)) (fun k (σ:(List Int) × (List (Int × Bool)) × Int)=>aF.l0 m s0 k σ.1 σ.2.1 σ.2.2) (fun σ s=>match σ with | (bP,dZ,k0)=>∃dY h3,s=⟨.fp [.bool s0.aj,ah.fz s0.aa,af.fz s0.ae] 0 :: .any :: .any :: .rs dY 0 bP.length 1 :: .mp cr :: .i k0::xg [],[none],h3⟩∧Has h3 ((cr,.mp (DX dZ))::(dY,.sl bP.length 1 (af.l bP))::L)) (fun out e s=>(e = .exit 0∧∃bP dZ k0,(bP,dZ,k0)=out∧∃nC H3 H2 Ig dY h3,s=⟨nC :: .any :: .any :: .rs dY 0 bP.length 1::H3::H2 :: .any :: .any::Ig::Ax [],[none],h3⟩∧Has h3 ((cr,.mp (DX dZ))::(dY,.sl bP.length 1 (af.l bP))::L))):=by
 refine ln (fun _=>rfl) ?_
 rintro k ⟨bP,dZ,k0⟩ s out ⟨dY,h3,rfl,o3⟩ H
 have H:aF.l0 m s0 (k+1) bP dZ k0=some out:=H
 refine qq <| qq <| q0 <| qc H (fun c0 H=>?_) (fun c0 H=>?_)
 ·refine qk <| qq <| qb 1 <| qq ?_
  obtain⟨v1,e5,H⟩:=aW H
  obtain⟨v2,e6,H⟩:=aW H
  refine qr [.v 6 (be (k:=.i64) (E:=af) (l:=bP) (q:=1) gj o3 rfl e5),.v 7 (cL  (E:=af) (l:=bP) (q:=1) o3 rfl A3 e5 rfl),.v 8 (eK (k:=.i64) (E:=ah) (l:=s0.aa) tS e6),.v 10 (rJ  (E:=ah) (l:=s0.aa) (off:=3) h3 Wc e6 rfl)] <| qb 2 ?_
  obtain⟨AR,yQ,H⟩:=aW H
  refine ql (aF.k8 L s0 cr k0 v2  pS (bP,dZ,0) _ _ ⟨dY,h3,kr,o3⟩ yQ) ?_
  rintro e s ⟨rfl,lV,Ic,x4,rfl,g0,g1,g2,g3,fj,h7,rfl,o7⟩
  try dsimp only at H
  exact q0 <| ⟨(lV,Ic,i64.wrap (k0+1)),⟨fj,h7,kr,o7⟩,H⟩
 ·exact qx 0 <| ⟨rfl,bP,dZ,k0,oi H,.fp [.bool s0.aj,ah.fz s0.aa,af.fz s0.ae] 0,.mp cr,.i k0,.bool (decide (k0<(bP.length:Int))),dY,h3,kr,o3⟩
theorem nb {aS:FuncId→bR}(ha:aS 60=xo)(pS:LV cf m)(s0:ab)(n0:Int)(h:AHeap)(L:Mem)  (o:Has h (L)){out:(List Int)}(H:aF.f m s0 n0=some out) :
  ∃r h',a6 Tryz.prog aS cf m 60 [.fp [.bool s0.aj,ah.fz s0.aa,af.fz s0.ae] 0,.i n0] h=some (r,h')∧∃dz:Nat,r = .rs dz 0 out.length 1∧Has h' ((dz,.sl out.length 1 (af.l out))::L):=by
 refine aq (fn:=Tryz.f60) ha Tryz.func60 kr kr ?_
 refine aC (Q:=fun s=>aF.fin L out s) (fun _ _ ⟨h1,dz,h2,h3⟩=>⟨h1,_,h2,dz,rfl,h3⟩) ?_
 have H:_=some out:=H
 unfold aF.f at H
 show cZ _ cf xo m _ ⟨.fp [.bool s0.aj,ah.fz s0.aa,af.fz s0.ae] 0 :: .i n0::Ay [],[none],h⟩ _
 refine q1 <| qq ?_
 obtain⟨x0,e0,H⟩:=aW H
 obtain⟨aM,h0,e1,o0⟩:=DP (E:=af) (l:=[x0]) (cs:=[.i x0]) o kr
 refine qr [.a 2 (pS _ _ _ e0 h _ (lZ (ak (fE (pure_cons (cu) (pure_cons (bL.bp (E:=ah) (l:=s0.aa)) (pure_cons (bL.bp (E:=af) (l:=s0.ae)) (pure_nil))))) (ak (bO) (aG))))),.a 3 e1] <| qq ?_
 obtain⟨cr,h1,e2,o1⟩:=yE o0
 obtain⟨v0,e3,H⟩:=aW H
 obtain⟨h2,e4,o2⟩:=PT (q:=0) (l:=([]:List (Int × Bool))) (k:=v0) (v:=true) HY o1 rfl
 refine qr [.m 0 e2,.v 2 (be (k:=.i64) (E:=af) (l:=([x0])) (q:=1) gj o1 rfl e3),.v 3 (cL  (E:=af) (l:=([x0])) (q:=1) o1 rfl A3 e3 rfl),.w 4 e4] <| qq <| qq <| q0 <| qb 0 ?_
 obtain⟨Ie,wo,H⟩:=aW H
 refine ql (aF.cb L s0 cr  pS ([x0],CD ([]:List (Int × Bool)) v0 true,0) _ _ ⟨aM,h2,ld,(AL o2)⟩ wo) ?_
 rintro e s ⟨rfl,dB,Qc,k1,rfl,g4,g5,g6,g7,gk,h8,rfl,o8⟩
 try dsimp only at H
 refine q1 ?_
 have o9:Has h8 ((gk,.sl dB.length 1 (af.l dB))::L):=iJ o8 0
 obtain rfl:=oi H
 exact qt <| ⟨.inl rfl,⟨gk,kr,he o9⟩⟩
end
def AS:bR:=gC [0,1,4,5,6,7,20,21,22,23] [4,5] [1016,1010,1010,562,50,514,562,562,1019] [] [(0,[(4,some 3,1)])]
def bh.l0 (m:Nat)(s0:ab)(x0:List Int):Nat→(List Int)→Int→Option ((List Int) × Int)
 | 0,_,_=>none
 | k+1,x1,x2=>if (decide (x2<(x0.length:Int)))=true then ((ix x1 x2).bind fun v1=>(bg.f m s0 v1).bind fun x3=>(ix x1 x2).bind fun v2=>bh.l0 m s0 x0 k (x1.set x2.toNat x3) (i64.wrap (x2+1))) else (some ((x1,x2)))
def bh.f (m:Nat)(s0:ab)(n0:Int):Option (ai):=(ix s0.aa n0).bind fun v0=>(Ky 1 v0.args).bind fun x0=>(bh.l0 m s0 x0 m x0 0).bind fun bP=>match bP with | (x4,x5)=>some (ai.mk v0.kind v0.int v0.label x4)
def bh.fin (L:Mem)  (r:ai)(s:St):Prop:=∃dz:Nat,aE Tryz.prog (s.open AS) Tryz.f61.results.toList=some (.agg [.i r.kind,.i r.int,.str r.label,.rs dz 0 r.args.length 1])∧Has s.h ((dz,.sl r.args.length 1 (af.l r.args))::L)
def TK (cf:CallF)(m:Nat):Prop:=∀(s0:ab) (n0:Int) (r:ai),bh.f m s0 n0=some r→∀h L xs,Has h L→aP bH h xs [.fp [.bool s0.aj,ah.fz s0.aa,af.fz s0.ae] 0,.i n0]→∃dz h',cf 61 xs h=some (.agg [.i r.kind,.i r.int,.str r.label,.rs dz 0 r.args.length 1],h')∧Has h' ((dz,.sl r.args.length 1 (af.l r.args))::L)∧∀j,j<h.next→h.ver j=h'.ver j
section
variable {cf:CallF}{m:Nat}
theorem bh.cb (L:Mem)(s0:ab)(v0:ai)(x0:List Int)  (pS:LV cf m):cY Tryz.prog cf AS m (sub [1,1,1,0,1,0,0] (bN Tryz.f61)) (fun k (σ:(List Int) × Int)=>bh.l0 m s0 x0 k σ.1 σ.2) (fun σ s=>match σ with | (x1,x2)=>∃cr h1,s=⟨[.fp [.bool s0.aj,ah.fz s0.aa,af.fz s0.ae] 0,.any,.lp 4 0,.lp 5 0,.any,.any,.rs cr 0 x1.length 1,.i (x0.length:Int),.i x2,.any],[some [.i 0,.i 0,.str (abp #[]),.rs (0) 0 (([]:List Int).length) 1],some [.i v0.kind,.i v0.int,.str v0.label,.rs cr 0 x1.length 1]],h1⟩∧Has h1 ((cr,.sl x1.length 1 (af.l x1))::((0),.sl (([]:List Int).length) 1 (af.l ([]:List Int)))::L)) (fun out e s=>(e = .exit 0∧∃x1 x2,(x1,x2)=out∧∃nC Nu Nv CN Ig cr h1,s=⟨[nC,.any,.lp 4 0,.lp 5 0,.any,.any,Nu,Nv,CN,Ig],[some [.i 0,.i 0,.str (abp #[]),.rs (0) 0 (([]:List Int).length) 1],some [.i v0.kind,.i v0.int,.str v0.label,.rs cr 0 x1.length 1]],h1⟩∧Has h1 ((cr,.sl x1.length 1 (af.l x1))::((0),.sl (([]:List Int).length) 1 (af.l ([]:List Int)))::L))):=by
 refine ln (fun _=>rfl) ?_
 rintro k ⟨x1,x2⟩ s out ⟨cr,h1,rfl,o2⟩ H
 have H:bh.l0 m s0 x0 (k+1) x1 x2=some out:=H
 refine q1 <| qq <| qc H (fun c0 H=>?_) (fun c0 H=>?_)
 ·refine qk <| qq <| qb 1 <| qq ?_
  obtain⟨v1,e3,H⟩:=aW H
  refine qr [.v 1 (be (k:=.i64) (E:=af) (l:=x1) (q:=0) gj o2 rfl e3),.v 2 (cL  (E:=af) (l:=x1) (q:=0) o2 rfl A3 e3 rfl)] ?_
  obtain⟨x3,e4,H⟩:=aW H
  obtain⟨v2,e5,H⟩:=aW H
  obtain⟨h2,e6,o3⟩:=fN (P:=Tryz.prog) (tf:=3) (E:=af) (l:=x1) (q:=0) (v:=x3) (x:=.i x3) o2 rfl Z3 e5 rfl rfl
  exact qr [.a 5 (pS _ _ _ e4 h1 _ (lZ (ak (fE (pure_cons (cu) (pure_cons (bL.bp (E:=ah) (l:=s0.aa)) (pure_cons (bL.bp (E:=af) (l:=s0.ae)) (pure_nil))))) (ak (bO) (aG))))),.v 6 (be (k:=.i64) (E:=af) (l:=x1) (q:=0) gj o2 rfl e5),.w 7 e6] <| q0 <| ⟨(x1.set x2.toNat x3,i64.wrap (x2+1)),⟨cr,h2,ld,(AL o3)⟩,H⟩
 ·exact qx 0 <| ⟨rfl,x1,x2,oi H,.fp [.bool s0.aj,ah.fz s0.aa,af.fz s0.ae] 0,.rs cr 0 x1.length 1,.i (x0.length:Int),.i x2,.bool (decide (x2<(x0.length:Int))),cr,h1,kr,o2⟩
theorem nc {aS:FuncId→bR}(ha:aS 61=AS)(Ih:Tr cf m)(pS:LV cf m)(s0:ab)(n0:Int)(h:AHeap)(L:Mem)  (o:Has h (L)){out:ai}(H:bh.f m s0 n0=some out) :
  ∃r h',a6 Tryz.prog aS cf m 61 [.fp [.bool s0.aj,ah.fz s0.aa,af.fz s0.ae] 0,.i n0] h=some (r,h')∧∃dz:Nat,r = .agg [.i out.kind,.i out.int,.str out.label,.rs dz 0 out.args.length 1]∧Has h' ((dz,.sl out.args.length 1 (af.l out.args))::L):=by
 refine aq (fn:=Tryz.f61) ha Tryz.func61 kr kr ?_
 refine aC (Q:=fun s=>bh.fin L out s) (fun _ _ ⟨h1,dz,h2,h3⟩=>⟨h1,_,h2,dz,rfl,h3⟩) ?_
 have H:_=some out:=H
 unfold bh.f at H
 show cZ _ cf AS m _ ⟨.fp [.bool s0.aj,ah.fz s0.aa,af.fz s0.ae] 0 :: .i n0::xg [],[none,none],h⟩ _
 refine q1 ?_
 have o0:Has h (((0),.sl (([]:List Int).length) 1 (af.l ([]:List Int)))::L):=Has.nil o 1
 refine qq ?_
 obtain⟨v0,e0,H⟩:=aW H
 refine qr [.v 5 (eK (k:=.i64) (E:=ah) (l:=s0.aa) tS e0),.v 6 (ke  (E:=ah) (l:=s0.aa) h BM BN e0)] <| qq ?_
 obtain⟨x0,e1,H⟩:=aW H
 obtain⟨aM,h0,e2,o1⟩:=LS (E:=af) (l:=v0.args) Ih o0 e1
 refine qr [.a 2 e2] <| qq <| qq <| q0 <| qb 0 ?_
 obtain⟨bP,e7,H⟩:=aW H
 refine ql (bh.cb L s0 v0 x0  pS (x0,0) _ _ ⟨aM,h0,kr,o1⟩ e7) ?_
 rintro e s ⟨rfl,x4,x5,rfl,g0,g1,g2,g3,g4,dY,h3,rfl,o4⟩
 try dsimp only at H
 refine q1 ?_
 have o5:Has h3 ((dY,.sl x4.length 1 (af.l x4))::L):=iJ o4 1
 obtain rfl:=oi H
 exact qt <| ⟨.inl rfl,⟨dY,kr,he o5⟩⟩
end
def AT:bR:=gC [0,1,4,5,6,7,12,19,29] [] [508,500,436,507,484,356,484,452,196,484,484,502,507] [] []
def dK.l0 (m:Nat)(s0:List Int)(lW:Int→Option (Bool)):Nat→(List Int)→Int→Int→Option ((List Int) × Int × Int)
 | 0,_,_,_=>none
 | k+1,s1,i0,j0=>if (decide (j0<(s0.length:Int)))=true then ((ix s1 j0).bind fun v0=>(lW v0).bind fun r0=>if (!r0)=true then ((ix s1 i0).bind fun v1=>dK.l0 m s0 lW k (s1.set i0.toNat v0) (i64.wrap (i0+1)) (i64.wrap (j0+1))) else (dK.l0 m s0 lW k s1 i0 (i64.wrap (j0+1)))) else (some ((s1,i0,j0)))
def dK.f (m:Nat)(s0:List Int)(lW:Int→Option (Bool)):Option ((List Int)):=(cP.f m s0 lW).bind fun x0=>if (x0==(-1:Int))=true then (some s0) else ((dK.l0 m s0 lW m s0 x0 (i64.wrap (x0+1))).bind fun bP=>match bP with | (s2,i1,j1)=>(OB s2 i1).bind fun v2=>(LP v2 0 i1).bind fun v3=>some v3)
def dK.fin (L:Mem)(aM:Nat)(s0:List Int)(lW:Int→Option (Bool))(r:(List Int))(s:St):Prop:=aE Tryz.prog (s.open AT) Tryz.f63.results.toList=some (.rs aM 0 r.length 1)∧Has s.h ((aM,.sl r.length 1 (af.l r))::L)
def TL (cf:CallF)(m:Nat):Prop:=∀(s0:List Int) (lW:Int→Option (Bool)) (r:(List Int)),dK.f m s0 lW=some r→∀h L (KJ:Nat) (aM:Nat),Has h ((aM,.sl KJ 1 (af.l s0))::L)→∀(fA:FuncId) (aU b9:List AV),(aN (.fn fA aU) = .fn fA aU)→(∀(h:AHeap) (xs:List AV) (a0:Int) r,lW a0=some r→aP bH h xs ([.i a0]++b9)→cf fA xs h=some (.bool r,h))→(∀h K,Has h (K++(L))→aP cC h aU b9)→(∀h,aP cC h b9 b9)→∀xs,xs.map aN=[.rs aM 0 KJ 1,.fn fA aU]→∃h',cf 63 xs h=some (.rs aM 0 r.length 1,h')∧Has h' ((aM,.sl r.length 1 (af.l r))::L)
section
variable {cf:CallF}{m:Nat}
theorem dK.cb (L:Mem)(aM:Nat)(fA:FuncId)(aU b9:List AV)(s0:List Int)(lW:Int→Option (Bool))  (ve:aN (.fn fA aU) = .fn fA aU)(iF:∀(h:AHeap) (xs:List AV) (a0:Int) r,lW a0=some r→aP bH h xs ([.i a0]++b9)→cf fA xs h=some (.bool r,h))(qM:∀h K,Has h (K++(L))→aP cC h aU b9)(iG:∀h,aP cC h b9 b9)  : cY Tryz.prog cf AT m (sub [1,1,1,0,1,0,0] (bN Tryz.f63)) (fun k (σ:(List Int) × Int × Int)=>dK.l0 m s0 lW k σ.1 σ.2.1 σ.2.2) (fun σ s=>match σ with | (s1,i0,j0)=>∃h0,s=⟨.rs aM 0 s0.length 1 :: .fn fA aU :: .any :: .i i0 :: .i j0::rN [],[],h0⟩∧Has h0 ((aM,.sl s0.length 1 (af.l s1))::L)) (fun out e s=>(e = .exit 0∧∃s1 i0 j0,(s1,i0,j0)=out∧∃vd H3 TM h0,s=⟨[.rs aM 0 s0.length 1,vd,.any,.i i0,H3,.any,.any,TM,.any],[],h0⟩∧Has h0 ((aM,.sl s0.length 1 (af.l s1))::L))):=by
 refine ln (fun _=>rfl) ?_
 rintro k ⟨s1,i0,j0⟩ s out ⟨h0,rfl,o0⟩ H
 have H:dK.l0 m s0 lW (k+1) s1 i0 j0=some out:=H
 refine qq <| qq <| q0 <| qc H (fun c1 H=>?_) (fun c1 H=>?_)
 ·refine qk <| qq <| qb 1 <| qq ?_
  obtain⟨v0,e1,H⟩:=aW H
  refine qr [.v 2 (be (k:=.i64) (E:=af) (l:=s1) (q:=0) gj o0 rfl e1),.v 3 (cL  (E:=af) (l:=s1) (q:=0) o0 rfl A3 e1 rfl)] <| qq ?_
  obtain⟨r0,e2,H⟩:=aW H
  refine qr [.a 2 (iF _ _ _ _ e2 (KE (ak (bO) (aG)) (qM h0 [(aM,.sl s0.length 1 (af.l s1))] o0)))] <| qc H (fun c2 H=>?_) (fun c2 H=>?_)
  ·refine qq ?_
   obtain⟨v1,e3,H⟩:=aW H
   obtain⟨h1,e4,o1⟩:=fN (P:=Tryz.prog) (tf:=3) (E:=af) (l:=s1) (q:=0) (v:=v0) (x:=.i v0) o0 rfl Z3 e3 rfl rfl
   exact qr [.v 3 (be (k:=.i64) (E:=af) (l:=s1) (q:=0) gj o0 rfl e3),.w 4 e4] <| q0 <| q0 <| ⟨(s1.set i0.toNat v0,i64.wrap (i0+1),i64.wrap (j0+1)),⟨h1,kr,o1⟩,H⟩
  ·exact qk <| q0 <| ⟨(s1,i0,i64.wrap (j0+1)),⟨h0,kr,o0⟩,H⟩
 ·exact qx 0 <| ⟨rfl,s1,i0,j0,oi H,.fn fA aU,.i j0,.bool (decide (j0<(s0.length:Int))),h0,kr,o0⟩
theorem wM {aS:FuncId→bR}(ha:aS 63=AT)(Nw:TB cf m)(s0:List Int)(lW:Int→Option (Bool))(h:AHeap)(L:Mem)(aM:Nat)(fA:FuncId)(aU b9:List AV)  (ve:aN (.fn fA aU) = .fn fA aU)(iF:∀(h:AHeap) (xs:List AV) (a0:Int) r,lW a0=some r→aP bH h xs ([.i a0]++b9)→cf fA xs h=some (.bool r,h))(qM:∀h K,Has h (K++(L))→aP cC h aU b9)(iG:∀h,aP cC h b9 b9)(o:Has h ((aM,.sl s0.length 1 (af.l s0))::L)){out:(List Int)}(H:dK.f m s0 lW=some out) :
  ∃r h',a6 Tryz.prog aS cf m 63 [.rs aM 0 s0.length 1,.fn fA aU] h=some (r,h')∧r = .rs aM 0 out.length 1∧Has h' ((aM,.sl out.length 1 (af.l out))::L):=by
 refine aq (fn:=Tryz.f63) ha Tryz.func63 kr kr ?_
 refine aC (Q:=fun s=>dK.fin L aM s0 lW out s) (fun _ _ ⟨h1,h2,h3⟩=>⟨h1,_,h2,rfl,h3⟩) ?_
 have H:_=some out:=H
 unfold dK.f at H
 show cZ _ cf AT m _ ⟨.rs aM 0 s0.length 1 :: .fn fA aU::JL [],[],h⟩ _
 refine q1 <| qq ?_
 obtain⟨x0,e0,H⟩:=aW H
 refine qr [.a 2 (Nw _ _ _ e0 fA b9 iF iG h _ (lZ (ak (eM (E:=af) (l:=s0) (q:=0) o rfl (fun _=>rfl)) (ak (sJ (qM h [(aM,.sl s0.length 1 (af.l s0))] o)) (aG)))))] <| qq <| qq <| q0 <| qc H (fun c0 H=>?_) (fun c0 H=>?_)
 ·obtain rfl:=oi H
  exact q1 <| qt <| ⟨.inl rfl,⟨kr,he o⟩⟩
 ·refine qk <| qq <| qq <| q0 <| qb 0 ?_
  obtain⟨bP,e5,H⟩:=aW H
  refine ql (dK.cb L aM fA aU b9 s0 lW  ve iF qM iG  (s0,x0,i64.wrap (x0+1)) _ _ ⟨h,kr,o⟩ e5) ?_
  rintro e s ⟨rfl,s2,i1,j1,rfl,g0,g1,g2,h2,rfl,o2⟩
  try dsimp only at H
  refine qq ?_
  obtain⟨v2,e6,H⟩:=aW H
  obtain⟨h3,e7,o3⟩:=Ng (q:=0) (l:=s2) Tq o2 rfl e6
  refine qr [.v 2 (Nd (E:=af) (k:=.i64) (q:=0) (l:=s2) gj o2 rfl (uZ e6).1 (uZ e6).2.1),.a 3 e7] <| qq ?_
  obtain⟨v3,e8,H⟩:=aW H
  obtain⟨TO,o4⟩:=MP (P:=Tryz.prog) (k:=.i64) (E:=af) (q:=0) o3 rfl gj e8
  obtain rfl:=oi H
  exact qr [.v 2 TO] <| qt <| ⟨.inl rfl,⟨kr,he o4⟩⟩
end
def Eg:bR:=gC [0,1,3] [] [4,3] [] []
def cU.f (m:Nat)(r0:Int)(x0:ab):Option (Bool):=(b5.f m x0 r0).bind fun x1=>some (!x1)
def cU.fin (L:Mem)(r:Bool)(s:St):Prop:=∃av,aE Tryz.prog (s.open Eg) Tryz.f64.results.toList=some av∧eR s.h av (.bool r)
def Wl (cf:CallF)(m:Nat):Prop:=∀(r0:Int) (x0:ab) (r:Bool),cU.f m r0 x0=some r→∀h xs,aP bH h xs [.i r0,.fp [.fp [.bool x0.aj,ah.fz x0.aa,af.fz x0.ae] 0] 0]→cf 64 xs h=some (.bool r,h)
section
variable {cf:CallF}{m:Nat}
theorem mu {aS:FuncId→bR}(ha:aS 64=Eg)(CI:RL cf m)(r0:Int)(x0:ab)(h:AHeap)(L:Mem)  (o:Has h (L)){out:Bool}(H:cU.f m r0 x0=some out) :
  ∃r h',a6 Tryz.prog aS cf m 64 [.i r0,.fp [.fp [.bool x0.aj,ah.fz x0.aa,af.fz x0.ae] 0] 0] h=some (r,h')∧eR h' r (.bool out):=by
 refine aq (fn:=Tryz.f64) ha Tryz.func64 kr kr ?_
 refine aC (Q:=fun s=>cU.fin L out s) (fun _ _ h=>h) ?_
 have H:_=some out:=H
 unfold cU.f at H
 show cZ _ cf Eg m _ ⟨[.i r0,.fp [.fp [.bool x0.aj,ah.fz x0.aa,af.fz x0.ae] 0] 0,.any],[],h⟩ _
 refine q1 <| qq ?_
 obtain⟨x1,e0,H⟩:=aW H
 exact qr [.a 2 (CI _ _ _ e0 h _ (lZ (ak (fE (pure_cons (cu) (pure_cons (bL.bp (E:=ah) (l:=x0.aa)) (pure_cons (bL.bp (E:=af) (l:=x0.ae)) (pure_nil))))) (ak (bO) (aG)))))] <| qt <| fB H
end
def xp:bR:=gC [0,1,2,6,7,8,9,10,11,12,13,14,22,46,70,73,77,78,79] [11,12,13,18] [524280,524248,524190,524062,519966,524062,523806,515614,522270,505886,489502,524263,325662,63518,323614,325662,325662,524062,524263] [] [(1,[(8,none,1)])]
def ay.l1 (m:Nat)(v2:ai)(v3:ai):Nat→(List bF)→Int→ab→Option ((List bF) × Int × ab)
 | 0,_,_,_=>none
 | k+1,k9,x3,s2=>if (decide (x3<(v2.args.length:Int)))=true then ((ix v2.args x3).bind fun v4=>(ix v3.args x3).bind fun v5=>(app 16 k9 ([(bF.mk v4 v5)])).bind fun x4=>ay.l1 m v2 v3 k x4 (i64.wrap (x3+1)) s2) else (some ((k9,x3,s2)))
def ay.l0 (m:Nat)  : Nat→(List Int)→(List bF)→Int→ab→Option (Sum ((List Int) × Bool × ab) ((List Int) × (List bF) × Int × ab))
 | 0,_,_,_,_=>none
 | k+1,aK,fZ,k0,s1=>if (decide (k0<(fZ.length:Int)))=true then ((ix fZ k0).bind fun v0=>(bg.f m s1 v0.lq).bind fun x0=>(ix fZ k0).bind fun v1=>(bg.f m s1 v1.mH).bind fun x1=>if ((x0==x0)&&(x1==x0))=true then (ay.l0 m k aK fZ (i64.wrap (k0+1)) s1) else ((ix s1.aa x0).bind fun v2=>(ix s1.aa x1).bind fun v3=>if (!(v2.kind==0))=true then (if (!(v3.kind==0))=true then ((fW.f m v2 v3).bind fun x2=>if x2=true then (some (.inl (aK,false,s1))) else ((ay.l1 m v2 v3 m fZ 0 s1).bind fun bP=>match bP with | (Ii,x5,s3)=>(cG.f m s3 x0 x1).bind fun x6=>(app 8 aK ([x6.1])).bind fun x7=>ay.l0 m k x7 Ii (i64.wrap (k0+1)) x6.2)) else ((cG.f m s1 x0 x1).bind fun x8=>(app 8 aK ([x8.1])).bind fun x9=>ay.l0 m k x9 fZ (i64.wrap (k0+1)) x8.2)) else ((cG.f m s1 x0 x1).bind fun mr=>(app 8 aK ([mr.1])).bind fun Eb=>ay.l0 m k Eb fZ (i64.wrap (k0+1)) mr.2))) else (some (.inr (aK,fZ,k0,s1)))
def ay.f (m:Nat)(s0:ab)(a0:Int)(b0:Int):Option ((List Int) × Bool × ab):=(ay.l0 m m ([]:List Int) ([(bF.mk a0 b0)]) 0 s0).bind fun dA=>match dA with | .inl r0=>some r0 | .inr (qQ,Qd,k1,s4)=>some (qQ,true,s4)
def ay.fin (L:Mem)(ar:Nat)(an:Nat)(ao:Nat)(s0:ab)(a0:Int)(b0:Int)(r:(List Int) × Bool × ab)(s:St):Prop:=∃dz aA aB:Nat,aE Tryz.prog (s.open xp) Tryz.f68.results.toList=some (.tup [.rs dz 0 r.1.length 1,.bool r.2.1])∧Has s.h ((dz,.sl r.1.length 1 (af.l r.1))::(ar,.ob [.bool r.2.2.aj,.rs aA 0 r.2.2.aa.length 4,.rs aB 0 r.2.2.ae.length 1])::(aA,.sl r.2.2.aa.length 4 (ah.l r.2.2.aa))::(aB,.sl r.2.2.ae.length 1 (af.l r.2.2.ae))::L)
def TP (cf:CallF)(m:Nat):Prop:=∀(s0:ab) (a0:Int) (b0:Int) (r:(List Int) × Bool × ab),ay.f m s0 a0 b0=some r→∀h L (ar:Nat) (an:Nat) (ao:Nat),Has h ((ar,.ob [.bool s0.aj,.rs an 0 s0.aa.length 4,.rs ao 0 s0.ae.length 1])::(an,.sl s0.aa.length 4 (ah.l s0.aa))::(ao,.sl s0.ae.length 1 (af.l s0.ae))::L)→∀xs,xs.map aN=[.ptr ar 0,.i a0,.i b0]→∃dz aA aB h',cf 68 xs h=some (.tup [.rs dz 0 r.1.length 1,.bool r.2.1],h')∧Has h' ((dz,.sl r.1.length 1 (af.l r.1))::(ar,.ob [.bool r.2.2.aj,.rs aA 0 r.2.2.aa.length 4,.rs aB 0 r.2.2.ae.length 1])::(aA,.sl r.2.2.aa.length 4 (ah.l r.2.2.aa))::(aB,.sl r.2.2.ae.length 1 (af.l r.2.2.ae))::L)
section
variable {cf:CallF}{m:Nat}
theorem ay.k8 (L:Mem)(ar:Nat)(an:Nat)(ao:Nat)(s0:ab)(a0:Int)(b0:Int)(cr:Nat)(aK:List Int)(k0:Int)(cr:Nat)(x0:Int)(x1:Int)(v2:ai)(v3:ai)   : cY Tryz.prog cf xp m (sub [1,1,1,0,1,0,0,1,0,0,1,1,1,0,1,0,1,1,0,0] (bN Tryz.f68)) (fun k (σ:(List bF) × Int × ab)=>ay.l1 m v2 v3 k σ.1 σ.2.1 σ.2.2) (fun σ s=>match σ with | (k9,x3,s2)=>∃fj gk ib h2,s=⟨.ptr ar 0::rN (.rs cr 0 aK.length 1 :: .rs fj 0 k9.length 2 :: .i k0 :: .lp 11 0 :: .lp 12 0 :: .lp 13 0::Ax [.i (v2.args.length:Int),.i x3,.any]),[some [.i x0,.i x1],some [.i v2.kind,.i v2.int,.str v2.label,af.fz v2.args],some [.i v3.kind,.i v3.int,.str v3.label,af.fz v3.args],none],h2⟩∧Has h2 ((fj,.sl k9.length 2 (eO.l k9))::(cr,.sl aK.length 1 (af.l aK))::(ar,.ob [.bool s2.aj,.rs gk 0 s2.aa.length 4,.rs ib 0 s2.ae.length 1])::(gk,.sl s2.aa.length 4 (ah.l s2.aa))::(ib,.sl s2.ae.length 1 (af.l s2.ae))::L)) (fun out e s=>(e = .exit 2∧∃k9 x3 s2,(k9,x3,s2)=out∧∃Ia vf TQ TR TS Nx TT fj gk ib h2,s=⟨.ptr ar 0::rN (.rs cr 0 aK.length 1 :: .rs fj 0 k9.length 2 :: .i k0 :: .lp 11 0::Ia::vf::Ax [TQ,TR,TS]),[some [.i x0,.i x1],Nx,TT,none],h2⟩∧Has h2 ((fj,.sl k9.length 2 (eO.l k9))::(cr,.sl aK.length 1 (af.l aK))::(ar,.ob [.bool s2.aj,.rs gk 0 s2.aa.length 4,.rs ib 0 s2.ae.length 1])::(gk,.sl s2.aa.length 4 (ah.l s2.aa))::(ib,.sl s2.ae.length 1 (af.l s2.ae))::L))):=by
 refine ln (fun _=>rfl) ?_
 rintro k ⟨k9,x3,s2⟩ s out ⟨fj,gk,ib,h2,rfl,o4⟩ H
 have H:ay.l1 m v2 v3 (k+1) k9 x3 s2=some out:=H
 refine q1 <| qq <| qc H (fun c5 H=>?_) (fun c5 H=>?_)
 ·refine qk <| qq <| qb 3 <| qq <| q0 ?_
  obtain⟨v4,e8,H⟩:=aW H
  obtain⟨v5,e9,H⟩:=aW H
  obtain⟨x4,sL,H⟩:=aW H
  obtain⟨hH,h3,vg,o5⟩:=ju (P:=Tryz.prog) (E:=eO) (l:=k9) (q:=0) (t2:=111) (x:=.fz [.i v4,.i v5] 1 true) (l2:=([(bF.mk v4 v5)])) Ni o4 rfl kr rfl sL
  exact qr [.v 4 (eK (k:=.i64) (E:=af) (l:=v2.args) gj e8),.v 5 (gK  (E:=af) (l:=v2.args) h2 A3 e8 rfl),.v 9 (eK (k:=.i64) (E:=af) (l:=v3.args) gj e9),.v 10 (gK  (E:=af) (l:=v3.args) h2 A3 e9 rfl),.a 13 vg] <| q0 <| ⟨(x4,i64.wrap (x3+1),s2),⟨hH,gk,ib,h3,kr,o5⟩,H⟩
 ·exact qx 2 <| ⟨rfl,k9,x3,s2,oi H,.lp 12 0,.lp 13 0,.i (v2.args.length:Int),.i x3,.bool (decide (x3<(v2.args.length:Int))),some [.i v2.kind,.i v2.int,.str v2.label,af.fz v2.args],some [.i v3.kind,.i v3.int,.str v3.label,af.fz v3.args],fj,gk,ib,h2,kr,o4⟩
theorem ay.cb (L:Mem)(ar:Nat)(an:Nat)(ao:Nat)(s0:ab)(a0:Int)(b0:Int)  (pS:LV cf m)(Ij:Nn cf m)(AU:No cf m):cY Tryz.prog cf xp m (sub [1,1,1,0,1,0,0] (bN Tryz.f68)) (fun k (σ:(List Int) × (List bF) × Int × ab)=>ay.l0 m k σ.1 σ.2.1 σ.2.2.1 σ.2.2.2) (fun σ s=>match σ with | (aK,fZ,k0,s1)=>∃dY cr fk fR h1,s=⟨.ptr ar 0::rN (.rs cr 0 aK.length 1 :: .rs dY 0 fZ.length 2 :: .i k0::wG []),[none,none,none,none],h1⟩∧Has h1 ((dY,.sl fZ.length 2 (eO.l fZ))::(cr,.sl aK.length 1 (af.l aK))::(ar,.ob [.bool s1.aj,.rs fk 0 s1.aa.length 4,.rs fR 0 s1.ae.length 1])::(fk,.sl s1.aa.length 4 (ah.l s1.aa))::(fR,.sl s1.ae.length 1 (af.l s1.ae))::L)) (fun out e s=>(e = .exit 0∧∃aK fZ k0 s1,.inr (aK,fZ,k0,s1)=out∧∃nC FV Ib CN dY cr fk fR h1,s=⟨nC::rN (.rs cr 0 aK.length 1::FV::Ib::rN (CN::zA [])),[none,none,none,none],h1⟩∧Has h1 ((dY,.sl fZ.length 2 (eO.l fZ))::(cr,.sl aK.length 1 (af.l aK))::(ar,.ob [.bool s1.aj,.rs fk 0 s1.aa.length 4,.rs fR 0 s1.ae.length 1])::(fk,.sl s1.aa.length 4 (ah.l s1.aa))::(fR,.sl s1.ae.length 1 (af.l s1.ae))::L))∨(e = .ret∧∃r,.inl r=out∧ay.fin L ar an ao s0 a0 b0 r s)):=by
 refine ln (fun _=>rfl) ?_
 rintro k ⟨aK,fZ,k0,s1⟩ s out ⟨dY,cr,fk,fR,h1,rfl,o2⟩ H
 have H:ay.l0 m (k+1) aK fZ k0 s1=some out:=H
 refine qq <| qq <| q0 <| qc H (fun c0 H=>?_) (fun c0 H=>?_)
 ·refine qk <| qq <| qb 1 <| qq ?_
  obtain⟨v0,e1,H⟩:=aW H
  obtain⟨x0,e2,H⟩:=aW H
  obtain⟨v1,e3,H⟩:=aW H
  obtain⟨x1,e4,H⟩:=aW H
  refine PR [] [.v 3 (be (k:=.i64) (E:=eO) (l:=fZ) (q:=0) Ni o2 rfl e1),.v 5 (DO  (E:=eO) (l:=fZ) (q:=0) (off:=0) o2 rfl A3 e1 rfl),.a 6 (pS _ _ _ e2 h1 _ (lZ (ak (eC (q:=2) o2 rfl (ak (gL) (ak (eM (E:=ah) (l:=s1.aa) (q:=3) o2 rfl (fun _=>rfl)) (ak (eM (E:=af) (l:=s1.ae) (q:=4) o2 rfl (fun _=>rfl)) (aG))))) (ak (bO) (aG))))),.v 10 (be (k:=.i64) (E:=eO) (l:=fZ) (q:=0) Ni o2 rfl e3),.v 12 (DO  (E:=eO) (l:=fZ) (q:=0) (off:=1) o2 rfl A3 e3 rfl),.a 13 (pS _ _ _ e4 h1 _ (lZ (ak (eC (q:=2) o2 rfl (ak (gL) (ak (eM (E:=ah) (l:=s1.aa) (q:=3) o2 rfl (fun _=>rfl)) (ak (eM (E:=af) (l:=s1.ae) (q:=4) o2 rfl (fun _=>rfl)) (aG))))) (ak (bO) (aG)))))] [.mk (h:=h1) (h':=h1) (i:=dY) rfl] ?_
  refine qq <| qq <| qr [.v 6 (show nW Tryz.prog .eql 110 (.agg [.i x0,.i x1]) (.agg [.i x0,.i x0])=some (.bool ((x0==x0)&&(x1==x0))) from KF PZ)] <| qc H (fun c1 H=>?_) (fun c1 H=>?_)
  ·exact qx 1 <| q0 <| ⟨(aK,fZ,i64.wrap (k0+1),s1),⟨dY,cr,fk,fR,h1,kr,o2⟩,H⟩
  ·refine qk <| qq ?_
   obtain⟨v2,e5,H⟩:=aW H
   obtain⟨v3,e6,H⟩:=aW H
   refine qr [.v 3 (show bw Tryz.prog h1 23 (.ptr ar 1)=some (.rs fk 0 s1.aa.length 4) from b6 (q:=2) (cs:=[.bool s1.aj,.rs fk 0 s1.aa.length 4,.rs fR 0 s1.ae.length 1]) o2 rfl kr),.v 6 (be (k:=.i64) (E:=ah) (l:=s1.aa) (q:=3) tS o2 rfl e5),.v 7 (qG  (E:=ah) (l:=s1.aa) (q:=3) o2 rfl BM BN e5),.v 11 (show bw Tryz.prog h1 23 (.ptr ar 1)=some (.rs fk 0 s1.aa.length 4) from b6 (q:=2) (cs:=[.bool s1.aj,.rs fk 0 s1.aa.length 4,.rs fR 0 s1.ae.length 1]) o2 rfl kr),.v 14 (be (k:=.i64) (E:=ah) (l:=s1.aa) (q:=3) tS o2 rfl e6),.v 15 (qG  (E:=ah) (l:=s1.aa) (q:=3) o2 rfl BM BN e6)] <| qq <| qq ?_
   rcases du H with⟨c2,H⟩| ⟨c2,H⟩
   ·refine qr [.b 3 c2] <| qc H (fun c3 H=>?_) (fun c3 H=>?_)
    ·refine qq <| qq ?_
     obtain⟨x2,e7,H⟩:=aW H
     refine qr [.a 2 (Ij _ _ _ e7 h1 _ fq)] <| qc H (fun c4 H=>?_) (fun c4 H=>?_)
     ·refine q1 ?_
      have o3:Has h1 ((cr,.sl aK.length 1 (af.l aK))::(ar,.ob [.bool s1.aj,.rs fk 0 s1.aa.length 4,.rs fR 0 s1.ae.length 1])::(fk,.sl s1.aa.length 4 (ah.l s1.aa))::(fR,.sl s1.ae.length 1 (af.l s1.ae))::L):=iJ o2 0
      exact qt <| Or.inr (⟨rfl,_,oi H,⟨cr,fk,fR,kr,he o3⟩⟩)
     ·refine qk <| qq <| q0 <| qb 2 ?_
      obtain⟨bP,yQ,H⟩:=aW H
      refine ql (ay.k8 L ar an ao s0 a0 b0 cr aK k0 cr x0 x1 v2 v3   (fZ,0,s1) _ _ ⟨dY,fk,fR,h1,kr,o2⟩ yQ) ?_
      rintro e s ⟨rfl,Ii,x5,s3,rfl,g0,g1,g2,g3,g4,g5,g6,GB,jM,lf,h4,rfl,o6⟩
      try dsimp only at H
      obtain⟨x6,wo,H⟩:=aW H
      obtain⟨oF,pU,h5,CH,o7⟩:=AU _ _ _ _ wo h4 _ _ _ _ ((fe (fe (fe (fe (fe o6 1) 1) 4) 4) 4))  [.ptr ar 0,.i x0,.i x1] cq
      obtain⟨x7,AW,H⟩:=aW H
      obtain⟨FY,h6,FZ,o8⟩:=ju (P:=Tryz.prog) (E:=af) (l:=aK) (q:=4) (t2:=22) (x:=.fz [.i x6.1] 1 true) (l2:=([x6.1])) gj o7 rfl kr rfl AW
      exact qr [.a 6 CH,.a 8 FZ] <| q0 <| ⟨(x7,Ii,i64.wrap (k0+1),x6.2),⟨GB,FY,oF,pU,h6,kr,(fe (fe (fe (fe (fe o8 2) 2) 2) 4) 4)⟩,H⟩
    ·refine qk ?_
     obtain⟨x8,F0,H⟩:=aW H
     obtain⟨CO,tk,h7,GC,o9⟩:=AU _ _ _ _ F0 h1 _ _ _ _ ((fe (fe (fe (fe (fe o2 1) 1) 4) 4) 4))  [.ptr ar 0,.i x0,.i x1] cq
     obtain⟨x9,F3,H⟩:=aW H
     obtain⟨vq,h8,GD,BP⟩:=ju (P:=Tryz.prog) (E:=af) (l:=aK) (q:=4) (t2:=22) (x:=.fz [.i x8.1] 1 true) (l2:=([x8.1])) gj o9 rfl kr rfl F3
     exact qr [.a 6 GC,.a 8 GD] <| q0 <| ⟨(x9,fZ,i64.wrap (k0+1),x8.2),⟨dY,vq,CO,tk,h8,kr,(fe (fe (fe (fe (fe BP 2) 2) 2) 4) 4)⟩,H⟩
   ·refine qr [.b 3 c2] <| JM <| qk ?_
    obtain⟨mr,JN,H⟩:=aW H
    obtain⟨Ik,CP,h9,Il,BQ⟩:=AU _ _ _ _ JN h1 _ _ _ _ ((fe (fe (fe (fe (fe o2 1) 1) 4) 4) 4))  [.ptr ar 0,.i x0,.i x1] cq
    obtain⟨Eb,JO,H⟩:=aW H
    obtain⟨CQ,h10,KK,Im⟩:=ju (P:=Tryz.prog) (E:=af) (l:=aK) (q:=4) (t2:=22) (x:=.fz [.i mr.1] 1 true) (l2:=([mr.1])) gj BQ rfl kr rfl JO
    exact qr [.a 6 Il,.a 8 KK] <| q0 <| ⟨(Eb,fZ,i64.wrap (k0+1),mr.2),⟨dY,CQ,Ik,CP,h10,kr,(fe (fe (fe (fe (fe Im 2) 2) 2) 4) 4)⟩,H⟩
 ·exact qx 0 <| Or.inl (⟨rfl,aK,fZ,k0,s1,oi H,.ptr ar 0,.rs dY 0 fZ.length 2,.i k0,.bool (decide (k0<(fZ.length:Int))),dY,cr,fk,fR,h1,kr,o2⟩)
theorem mw {aS:FuncId→bR}(ha:aS 68=xp)(pS:LV cf m)(Ij:Nn cf m)(AU:No cf m)(s0:ab)(a0:Int)(b0:Int)(h:AHeap)(L:Mem)(ar:Nat)(an:Nat)(ao:Nat)  (o:Has h ((ar,.ob [.bool s0.aj,.rs an 0 s0.aa.length 4,.rs ao 0 s0.ae.length 1])::(an,.sl s0.aa.length 4 (ah.l s0.aa))::(ao,.sl s0.ae.length 1 (af.l s0.ae))::L)){out:(List Int) × Bool × ab}(H:ay.f m s0 a0 b0=some out) :
  ∃r h',a6 Tryz.prog aS cf m 68 [.ptr ar 0,.i a0,.i b0] h=some (r,h')∧∃dz aA aB:Nat,r = .tup [.rs dz 0 out.1.length 1,.bool out.2.1]∧Has h' ((dz,.sl out.1.length 1 (af.l out.1))::(ar,.ob [.bool out.2.2.aj,.rs aA 0 out.2.2.aa.length 4,.rs aB 0 out.2.2.ae.length 1])::(aA,.sl out.2.2.aa.length 4 (ah.l out.2.2.aa))::(aB,.sl out.2.2.ae.length 1 (af.l out.2.2.ae))::L):=by
 refine aq (fn:=Tryz.f68) ha Tryz.func68 kr kr ?_
 refine aC (Q:=fun s=>ay.fin L ar an ao s0 a0 b0 out s) (fun _ _ ⟨h1,dz,aA,aB,h2,h3⟩=>⟨h1,_,h2,dz,aA,aB,rfl,h3⟩) ?_
 have H:_=some out:=H
 unfold ay.f at H
 show cZ _ cf xp m _ ⟨.ptr ar 0 :: .i a0 :: .i b0::Ks [],[none,none,none,none],h⟩ _
 refine q1 <| qq <| q0 ?_
 have o0:Has h (((0),.sl (([]:List Int).length) 1 (af.l ([]:List Int)))::(ar,.ob [.bool s0.aj,.rs an 0 s0.aa.length 4,.rs ao 0 s0.ae.length 1])::(an,.sl s0.aa.length 4 (ah.l s0.aa))::(ao,.sl s0.ae.length 1 (af.l s0.ae))::L):=Has.nil o 1
 refine qq ?_
 obtain⟨aM,h0,e0,o1⟩:=DP (E:=eO) (l:=[(bF.mk a0 b0)]) (cs:=[.i a0,.i b0]) o0 kr
 refine qr [.a 3 e0] <| qq <| qq <| q0 <| qb 0 ?_
 obtain⟨dA,JP,H⟩:=aW H
 refine ql (ay.cb L ar an ao s0 a0 b0  pS Ij AU (([]:List Int),[(bF.mk a0 b0)],0,s0) _ _ ⟨aM,(0),an,ao,h0,ld,(AL o1)⟩ JP) ?_
 rintro e s (⟨rfl,qQ,Qd,k1,s4,rfl,g7,g8,g9,g10,Yx,Qe,Ny,Nz,h11,rfl,zC⟩| ⟨rfl,r0,rfl,rS⟩)
 ·try dsimp only at H
  refine q1 ?_
  have zD:Has h11 ((Qe,.sl qQ.length 1 (af.l qQ))::(ar,.ob [.bool s4.aj,.rs Ny 0 s4.aa.length 4,.rs Nz 0 s4.ae.length 1])::(Ny,.sl s4.aa.length 4 (ah.l s4.aa))::(Nz,.sl s4.ae.length 1 (af.l s4.ae))::L):=iJ zC 0
  obtain rfl:=oi H
  exact qt <| ⟨.inl rfl,⟨Qe,Ny,Nz,kr,he zD⟩⟩
 ·try dsimp only at H
  obtain rfl:=oi H
  exact⟨.inl rfl,rS⟩
end
def Eh:bR:=gC [0,1,2,4,5] [] [25,9,11,15,15,23] [] []
def cN.f (m:Nat)(s0:ab)(aK:List Int):Option ((List Int)):=(Gz 8 (aK.length:Int) 0).bind fun x0=>(PU x0 aK).bind fun Wm=>(dK.f m Wm (fun y0=>dn.f m y0 s0)).bind fun x1=>some (kZ x1)
def cN.fin (L:Mem)  (r:(List Int))(s:St):Prop:=∃dz:Nat,aE Tryz.prog (s.open Eh) Tryz.f70.results.toList=some (.rs dz 0 r.length 1)∧Has s.h ((dz,.sl r.length 1 (af.l r))::L)
def TU (cf:CallF)(m:Nat):Prop:=∀(s0:ab) (aK:List Int) (r:(List Int)),cN.f m s0 aK=some r→∀h L xs,Has h L→aP bH h xs [.fp [.bool s0.aj,ah.fz s0.aa,af.fz s0.ae] 0,af.fz aK]→∃dz h',cf 70 xs h=some (.rs dz 0 r.length 1,h')∧Has h' ((dz,.sl r.length 1 (af.l r))::L)∧∀j,j<h.next→h.ver j=h'.ver j
section
variable {cf:CallF}{m:Nat}
theorem ng {aS:FuncId→bR}(ha:aS 70=Eh)(NA:TL cf m)(NB:Ts cf m)(Qf:P6 cf m)(s0:ab)(aK:List Int)(h:AHeap)(L:Mem)  (o:Has h (L)){out:(List Int)}(H:cN.f m s0 aK=some out) :
  ∃r h',a6 Tryz.prog aS cf m 70 [.fp [.bool s0.aj,ah.fz s0.aa,af.fz s0.ae] 0,af.fz aK] h=some (r,h')∧∃dz:Nat,r = .rs dz 0 out.length 1∧Has h' ((dz,.sl out.length 1 (af.l out))::L):=by
 refine aq (fn:=Tryz.f70) ha Tryz.func70 kr kr ?_
 refine aC (Q:=fun s=>cN.fin L out s) (fun _ _ ⟨h1,dz,h2,h3⟩=>⟨h1,_,h2,dz,rfl,h3⟩) ?_
 have H:_=some out:=H
 unfold cN.f at H
 show cZ _ cf Eh m _ ⟨.fp [.bool s0.aj,ah.fz s0.aa,af.fz s0.ae] 0::af.fz aK::nU [],[],h⟩ _
 refine qq ?_
 obtain⟨aM,h0,e0,o0⟩:=gM (cs:=[.fp [.bool s0.aj,ah.fz s0.aa,af.fz s0.ae] 0]) o kr
 refine qr [.a 0 e0] <| qq ?_
 obtain⟨x0,e1,H⟩:=aW H
 obtain⟨cr,h1,e2,o1⟩:=yz (P:=Tryz.prog) (E:=af) (z:=0) (zv:=.i 0) gj o0 3 rfl rfl rfl rfl e1
 refine qr [.a 2 e2] <| qq ?_
 obtain⟨Wm,e3,H⟩:=aW H
 obtain⟨h2,e4,o2⟩:=KD (P:=Tryz.prog) (E:=af) (l:=x0) (s:=aK) (q:=0) (t2:=22) gj o1 rfl (Nc (E:=af)) rfl (PV _) e3
 refine qr [.a 2 e4] <| qq ?_
 obtain⟨x1,e5,H⟩:=aW H
 obtain⟨h3,e6,o3⟩:=NA _ _ _ e5 h2 _ _ _ (o2) 107 [.ptr aM 0] [.fp [.fp [.bool s0.aj,ah.fz s0.aa,af.fz s0.ae] 0] 0] rfl (fun h' tj y0 r hr hx=>Qf y0 _ r hr h' tj hx) (fun h' K' o'=>iR (ak (eC (q:=(K'.length+0)) o' (jG rfl) (ak (fE (pure_cons (cu) (pure_cons (bL.bp (E:=ah) (l:=s0.aa)) (pure_cons (bL.bp (E:=af) (l:=s0.ae)) (pure_nil))))) (aG))) (aG))) (fun h_=>iR (ak (fE (pure_cons (lK (pure_cons (cu) (pure_cons (bL.bp (E:=ah) (l:=s0.aa)) (pure_cons (bL.bp (E:=af) (l:=s0.ae)) (pure_nil))))) (pure_nil))) (aG))) [.rs cr 0 x0.length 1,.fn 107 [.ptr aM 0]] cq
 refine qr [.a 2 e6] ?_
 have o4:Has h3 ((cr,.sl x1.length 1 (af.l x1))::L):=iJ o3 1
 refine qq ?_
 obtain⟨h4,e7,o5⟩:=HJ (l:=x1) NB o4
 obtain rfl:=oi H
 exact qr [.a 1 e7] <| qq <| q0 <| qt <| ⟨.inl rfl,⟨cr,by rw [kG]; kernel_rfl,he (by simpa only [kG] using o5)⟩⟩
end
def Ei:bR:=gC [0,1,4] [] [4,3] [] []
def iu.f (m:Nat)(s0:List ai)(f0:ai→Option (Bool)):Option (Bool):=(fJ.f m s0 f0).bind fun x0=>some (decide (x0≥0))
def iu.fin (L:Mem)(r:Bool)(s:St):Prop:=∃av,aE Tryz.prog (s.open Ei) Tryz.f77.results.toList=some av∧eR s.h av (.bool r)
def Wn (cf:CallF)(m:Nat):Prop:=∀(s0:List ai) (f0:ai→Option (Bool)) (r:Bool),iu.f m s0 f0=some r→∀(fA:FuncId) (aU:List AV),(∀(h:AHeap) (xs:List AV) (a0:ai) r,f0 a0=some r→aP bH h xs ([.agg [.i a0.kind,.i a0.int,.str a0.label,af.fz a0.args]]++aU)→cf fA xs h=some (.bool r,h))→(∀h,aP cC h aU aU)→∀h xs,aP bH h xs [ah.fz s0,.fn fA aU]→cf 77 xs h=some (.bool r,h)
section
variable {cf:CallF}{m:Nat}
theorem tl {aS:FuncId→bR}(ha:aS 77=Ei)(Qg:P7 cf m)(s0:List ai)(f0:ai→Option (Bool))(h:AHeap)(L:Mem)(fA:FuncId)(aU:List AV)  (iF:∀(h:AHeap) (xs:List AV) (a0:ai) r,f0 a0=some r→aP bH h xs ([.agg [.i a0.kind,.i a0.int,.str a0.label,af.fz a0.args]]++aU)→cf fA xs h=some (.bool r,h))(iG:∀h,aP cC h aU aU)(o:Has h (L)){out:Bool}(H:iu.f m s0 f0=some out) :
  ∃r h',a6 Tryz.prog aS cf m 77 [ah.fz s0,.fn fA aU] h=some (r,h')∧eR h' r (.bool out):=by
 refine aq (fn:=Tryz.f77) ha Tryz.func77 kr kr ?_
 refine aC (Q:=fun s=>iu.fin L out s) (fun _ _ h=>h) ?_
 have H:_=some out:=H
 unfold iu.f at H
 show cZ _ cf Ei m _ ⟨[ah.fz s0,.fn fA aU,.any],[],h⟩ _
 refine q1 <| qq ?_
 obtain⟨x0,e0,H⟩:=aW H
 exact qr [.a 2 (Qg _ _ _ e0 fA aU iF iG h _ (lZ (ak (km (E:=ah)) (ak (sJ (iG h)) (aG)))))] <| qt <| fB H
end
def Ej:bR:=gC [0,1,4] [] [4,3] [] []
def fi.f (m:Nat)(s0:List Int)(f0:Int→Option (Bool)):Option (Bool):=(cP.f m s0 f0).bind fun x0=>some (decide (x0≥0))
def fi.fin (L:Mem)(r:Bool)(s:St):Prop:=∃av,aE Tryz.prog (s.open Ej) Tryz.f83.results.toList=some av∧eR s.h av (.bool r)
def RN (cf:CallF)(m:Nat):Prop:=∀(s0:List Int) (f0:Int→Option (Bool)) (r:Bool),fi.f m s0 f0=some r→∀(fA:FuncId) (aU:List AV),(∀(h:AHeap) (xs:List AV) (a0:Int) r,f0 a0=some r→aP bH h xs ([.i a0]++aU)→cf fA xs h=some (.bool r,h))→(∀h,aP cC h aU aU)→∀h xs,aP bH h xs [af.fz s0,.fn fA aU]→cf 83 xs h=some (.bool r,h)
section
variable {cf:CallF}{m:Nat}
theorem tm {aS:FuncId→bR}(ha:aS 83=Ej)(Nw:TB cf m)(s0:List Int)(f0:Int→Option (Bool))(h:AHeap)(L:Mem)(fA:FuncId)(aU:List AV)  (iF:∀(h:AHeap) (xs:List AV) (a0:Int) r,f0 a0=some r→aP bH h xs ([.i a0]++aU)→cf fA xs h=some (.bool r,h))(iG:∀h,aP cC h aU aU)(o:Has h (L)){out:Bool}(H:fi.f m s0 f0=some out) :
  ∃r h',a6 Tryz.prog aS cf m 83 [af.fz s0,.fn fA aU] h=some (r,h')∧eR h' r (.bool out):=by
 refine aq (fn:=Tryz.f83) ha Tryz.func83 kr kr ?_
 refine aC (Q:=fun s=>fi.fin L out s) (fun _ _ h=>h) ?_
 have H:_=some out:=H
 unfold fi.f at H
 show cZ _ cf Ej m _ ⟨[af.fz s0,.fn fA aU,.any],[],h⟩ _
 refine q1 <| qq ?_
 obtain⟨x0,e0,H⟩:=aW H
 exact qr [.a 2 (Nw _ _ _ e0 fA aU iF iG h _ (lZ (ak (km (E:=af)) (ak (sJ (iG h)) (aG)))))] <| qt <| fB H
end
def Ek:bR:=gC [0,1,3] [] [4,3] [] []
def cJ.f (m:Nat)(a0:Int)(x0:ab):Option (Bool):=(cM.f m x0 a0).bind fun x1=>some (!x1)
def cJ.fin (L:Mem)(r:Bool)(s:St):Prop:=∃av,aE Tryz.prog (s.open Ek) Tryz.f84.results.toList=some av∧eR s.h av (.bool r)
def Wo (cf:CallF)(m:Nat):Prop:=∀(a0:Int) (x0:ab) (r:Bool),cJ.f m a0 x0=some r→∀h xs,aP bH h xs [.i a0,.fp [.fp [.bool x0.aj,ah.fz x0.aa,af.fz x0.ae] 0] 0]→cf 84 xs h=some (.bool r,h)
section
variable {cf:CallF}{m:Nat}
theorem lg {aS:FuncId→bR}(ha:aS 84=Ek)(Nk:Tu cf m)(a0:Int)(x0:ab)(h:AHeap)(L:Mem)  (o:Has h (L)){out:Bool}(H:cJ.f m a0 x0=some out) :
  ∃r h',a6 Tryz.prog aS cf m 84 [.i a0,.fp [.fp [.bool x0.aj,ah.fz x0.aa,af.fz x0.ae] 0] 0] h=some (r,h')∧eR h' r (.bool out):=by
 refine aq (fn:=Tryz.f84) ha Tryz.func84 kr kr ?_
 refine aC (Q:=fun s=>cJ.fin L out s) (fun _ _ h=>h) ?_
 have H:_=some out:=H
 unfold cJ.f at H
 show cZ _ cf Ek m _ ⟨[.i a0,.fp [.fp [.bool x0.aj,ah.fz x0.aa,af.fz x0.ae] 0] 0,.any],[],h⟩ _
 refine q1 <| qq ?_
 obtain⟨x1,e0,H⟩:=aW H
 exact qr [.a 2 (Nk _ _ _ e0 h _ (lZ (ak (fE (pure_cons (cu) (pure_cons (bL.bp (E:=ah) (l:=x0.aa)) (pure_cons (bL.bp (E:=af) (l:=x0.ae)) (pure_nil))))) (ak (bO) (aG)))))] <| qt <| fB H
end
def El:bR:=gC [0,1,2] [] [4,3] [] []
def cV.f (m:Nat)(x0:ByteArray)(x1:Int):Option (Bool):=(gN.f m x0).bind fun x2=>if x2=true then (some (decide (x1≥0))) else (some false)
def cV.fin (L:Mem)(r:Bool)(s:St):Prop:=∃av,aE Tryz.prog (s.open El) Tryz.f86.results.toList=some av∧eR s.h av (.bool r)
def Wp (cf:CallF)(m:Nat):Prop:=∀(x0:ByteArray) (x1:Int) (r:Bool),cV.f m x0 x1=some r→∀h xs,aP bH h xs [.fp [.str x0] 0,.fp [.i x1] 0]→cf 86 xs h=some (.bool r,h)
section
variable {cf:CallF}{m:Nat}
theorem my {aS:FuncId→bR}(ha:aS 86=El)(Io:Tv cf m)(x0:ByteArray)(x1:Int)(h:AHeap)(L:Mem)  (o:Has h (L)){out:Bool}(H:cV.f m x0 x1=some out) :
  ∃r h',a6 Tryz.prog aS cf m 86 [.fp [.str x0] 0,.fp [.i x1] 0] h=some (r,h')∧eR h' r (.bool out):=by
 refine aq (fn:=Tryz.f86) ha Tryz.func86 kr kr ?_
 refine aC (Q:=fun s=>cV.fin L out s) (fun _ _ h=>h) ?_
 have H:_=some out:=H
 unfold cV.f at H
 show cZ _ cf El m _ ⟨[.fp [.str x0] 0,.fp [.i x1] 0,.any],[],h⟩ _
 refine q1 <| qq ?_
 obtain⟨x2,e0,H⟩:=aW H
 rcases du H with⟨c0,H⟩| ⟨c0,H⟩
 ·exact qr [.a 1 (Io _ _ e0 h _ fq),.b 2 c0] <| qt <| fB H
 ·exact qr [.a 1 (Io _ _ e0 h _ fq),.b 2 c0] <| qt <| fB H
end
def vt:bR:=gC [0,1,2,6,7,27,29,30,31,37] [] [1016,990,1015,830,574,814,318,1015,830,1015] [] []
def de.l0 (m:Nat)(s0:ByteArray):Nat→Int→Option (Sum Bool (Int))
 | 0,_=>none
 | k+1,x0=>if (decide (x0<(s0.size:Int)))=true then ((bt s0 x0).bind fun v2=>(gE.f m v2).bind fun x1=>if (!x1)=true then (some (.inl false)) else (de.l0 m s0 k (i64.wrap (x0+1)))) else (some (.inr x0))
def de.f (m:Nat)(s0:ByteArray)(lX:Int)(px:Int):Option (Bool):=if (decide ((s0.size:Int)<1))=true then (some false) else (if (decide ((s0.size:Int) > 16))=true then (some false) else ((bt s0 0).bind fun v0=>if (decide (v0<lX))=true then (some false) else ((bt s0 0).bind fun v1=>if (decide (v1 > px))=true then (some false) else ((de.l0 m s0 m 0).bind fun bP=>match bP with | .inl r0=>some r0 | .inr x2=>some true))))
def de.fin (L:Mem)(r:Bool)(s:St):Prop:=∃av,aE Tryz.prog (s.open vt) Tryz.f108.results.toList=some av∧eR s.h av (.bool r)
def Qh (cf:CallF)(m:Nat):Prop:=∀(s0:ByteArray) (lX:Int) (px:Int) (r:Bool),de.f m s0 lX px=some r→∀h xs,aP bH h xs [.str s0,.int .u8 lX,.int .u8 px]→cf 108 xs h=some (.bool r,h)
section
variable {cf:CallF}{m:Nat}
theorem de.cb (L:Mem)(s0:ByteArray)  (Ip:Np cf m):cY Tryz.prog cf vt m (sub [1,1,0,1,0,0] (bN Tryz.f108)) (fun k (σ:Int)=>de.l0 m s0 k σ) (fun σ s=>match σ with | x0=>∃h0,s=⟨.str s0::Ax [.i (s0.size:Int),.i x0,.any,.any],[],h0⟩∧Has h0 (L)) (fun out e s=>(e = .exit 0∧∃x0,.inr x0=out∧∃nC NC Iq Ir h0,s=⟨nC::Ax [NC,Iq,Ir,.any],[],h0⟩∧Has h0 (L))∨(e = .ret∧∃r,.inl r=out∧de.fin L r s)):=by
 refine ln (fun _=>rfl) ?_
 rintro k x0 s out ⟨h0,rfl,o0⟩ H
 have H:de.l0 m s0 (k+1) x0=some out:=H
 refine q1 <| qq <| qc H (fun c7 H=>?_) (fun c7 H=>?_)
 ·refine qk <| qq <| qb 1 <| qq <| q0 <| qq ?_
  obtain⟨v2,e2,H⟩:=aW H
  obtain⟨x1,e3,H⟩:=aW H
  refine qr [.v 2 (ow (k:=.i64) U9 e2),.a 3 (Ip _ _ e3 h0 _ fq)] <| qc H (fun c8 H=>?_) (fun c8 H=>?_)
  ·exact q1 <| qt <| Or.inr (⟨rfl,_,oi H,wI (.bool false) h0 (tP (fU))⟩)
  ·exact qk <| q0 <| ⟨i64.wrap (x0+1),⟨h0,kr,o0⟩,H⟩
 ·exact qx 0 <| Or.inl (⟨rfl,x0,oi H,.str s0,.i (s0.size:Int),.i x0,.bool (decide (x0<(s0.size:Int))),h0,kr,o0⟩)
theorem vu {aS:FuncId→bR}(ha:aS 108=vt)(Ip:Np cf m)(s0:ByteArray)(lX:Int)(px:Int)(h:AHeap)(L:Mem)  (o:Has h (L)){out:Bool}(H:de.f m s0 lX px=some out) :
  ∃r h',a6 Tryz.prog aS cf m 108 [.str s0,.int .u8 lX,.int .u8 px] h=some (r,h')∧eR h' r (.bool out):=by
 refine aq (fn:=Tryz.f108) ha Tryz.func108 kr kr ?_
 refine aC (Q:=fun s=>de.fin L out s) (fun _ _ h=>h) ?_
 have H:_=some out:=H
 unfold de.f at H
 show cZ _ cf vt m _ ⟨.str s0 :: .int .u8 lX :: .int .u8 px::JL [],[],h⟩ _
 refine q1 <| qq <| qq ?_
 rcases du H with⟨c0,H⟩| ⟨c0,H⟩
 ·exact qr [.b 3 c0] <| BK <| qq <| q0 <| qt <| fB H
 ·rcases du H with⟨c2,H⟩| ⟨c2,H⟩
  ·exact qr [.b 3 c0,.b 8 c2] <| BK <| qq <| q0 <| qt <| fB H
  ·obtain⟨v0,e0,H⟩:=aW H
   rcases du H with⟨c4,H⟩| ⟨c4,H⟩
   ·exact qr [.b 3 c0,.b 8 c2,.v 10 (ow (k:=.i64) U9 e0),.b 14 c4] <| BK <| qq <| q0 <| qt <| fB H
   ·obtain⟨v1,e1,H⟩:=aW H
    refine qr [.b 3 c0,.b 8 c2,.v 10 (ow (k:=.i64) U9 e0),.b 14 c4,.v 16 (ow (k:=.i64) U9 e1)] <| qc H (fun c6 H=>?_) (fun c6 H=>?_)
    ·exact q1 <| qt <| fB H
    ·refine qk <| qq <| qq <| q0 <| qb 0 ?_
     obtain⟨bP,e4,H⟩:=aW H
     refine ql (de.cb L s0  Ip 0 _ _ ⟨h,kr,o⟩ e4) ?_
     rintro e s (⟨rfl,x2,rfl,g0,g1,g2,g3,h1,rfl,o1⟩| ⟨rfl,r0,rfl,rS⟩)
     ·try dsimp only at H
      exact q1 <| qt <| fB H
     ·try dsimp only at H
      obtain rfl:=oi H
      exact⟨.inl rfl,rS⟩
end
def vw:bR:=gC [0,2,3,11,15,22] [] [62,54,61,58,42,58,26,61,61] [] []
def cy.l0 (m:Nat)(s0:ByteArray):Nat→Int→Option (Sum Bool (Int))
 | 0,_=>none
 | k+1,i0=>if (decide (i0<(s0.size:Int)))=true then ((bt s0 i0).bind fun v0=>(fX.f m v0).bind fun x0=>if (!x0)=true then (some (.inl false)) else (cy.l0 m s0 k (i64.wrap (i0+1)))) else (some (.inr i0))
def cy.f (m:Nat)(s0:ByteArray):Option (Bool):=if (decide ((s0.size:Int)<1))=true then (some false) else (if (decide ((s0.size:Int) > 16))=true then (some false) else ((cy.l0 m s0 m 0).bind fun bP=>match bP with | .inl r0=>some r0 | .inr i1=>some true))
def cy.fin (L:Mem)(r:Bool)(s:St):Prop:=∃av,aE Tryz.prog (s.open vw) Tryz.f111.results.toList=some av∧eR s.h av (.bool r)
def Qi (cf:CallF)(m:Nat):Prop:=∀(s0:ByteArray) (r:Bool),cy.f m s0=some r→∀h xs,aP bH h xs [.str s0]→cf 111 xs h=some (.bool r,h)
section
variable {cf:CallF}{m:Nat}
theorem cy.cb (L:Mem)(s0:ByteArray)  (Is:Nq cf m):cY Tryz.prog cf vw m (sub [1,1,0,1,0,0] (bN Tryz.f111)) (fun k (σ:Int)=>cy.l0 m s0 k σ) (fun σ s=>match σ with | i0=>∃h0,s=⟨.str s0 :: .any :: .i i0::nU [],[],h0⟩∧Has h0 (L)) (fun out e s=>(e = .exit 0∧∃i0,.inr i0=out∧∃nC FU H8 h0,s=⟨[nC,.any,FU,.any,H8,.any],[],h0⟩∧Has h0 (L))∨(e = .ret∧∃r,.inl r=out∧cy.fin L r s)):=by
 refine ln (fun _=>rfl) ?_
 rintro k i0 s out ⟨h0,rfl,o0⟩ H
 have H:cy.l0 m s0 (k+1) i0=some out:=H
 refine qq <| qq <| q0 <| qc H (fun c3 H=>?_) (fun c3 H=>?_)
 ·refine qk <| qq <| qb 1 <| qq ?_
  obtain⟨v0,e0,H⟩:=aW H
  obtain⟨x0,e1,H⟩:=aW H
  refine qr [.v 2 (ow (k:=.i64) U9 e0),.a 3 (Is _ _ e1 h0 _ fq)] <| qc H (fun c4 H=>?_) (fun c4 H=>?_)
  ·exact q1 <| qt <| Or.inr (⟨rfl,_,oi H,wI (.bool false) h0 (tP (fU))⟩)
  ·exact qk <| q0 <| ⟨i64.wrap (i0+1),⟨h0,kr,o0⟩,H⟩
 ·exact qx 0 <| Or.inl (⟨rfl,i0,oi H,.str s0,.i i0,.bool (decide (i0<(s0.size:Int))),h0,kr,o0⟩)
theorem tq {aS:FuncId→bR}(ha:aS 111=vw)(Is:Nq cf m)(s0:ByteArray)(h:AHeap)(L:Mem)  (o:Has h (L)){out:Bool}(H:cy.f m s0=some out) :
  ∃r h',a6 Tryz.prog aS cf m 111 [.str s0] h=some (r,h')∧eR h' r (.bool out):=by
 refine aq (fn:=Tryz.f111) ha Tryz.func111 kr kr ?_
 refine aC (Q:=fun s=>cy.fin L out s) (fun _ _ h=>h) ?_
 have H:_=some out:=H
 unfold cy.f at H
 show cZ _ cf vw m _ ⟨.str s0::Ax [],[],h⟩ _
 refine q1 <| qq <| qq ?_
 rcases du H with⟨c0,H⟩| ⟨c0,H⟩
 ·exact qr [.b 3 c0] <| BK <| qq <| q0 <| qt <| fB H
 ·refine qr [.b 3 c0] <| qc H (fun c2 H=>?_) (fun c2 H=>?_)
  ·exact q1 <| qt <| fB H
  ·refine qk <| qq <| qq <| q0 <| qb 0 ?_
   obtain⟨bP,e2,H⟩:=aW H
   refine ql (cy.cb L s0  Is 0 _ _ ⟨h,kr,o⟩ e2) ?_
   rintro e s (⟨rfl,i1,rfl,g0,g1,g2,h1,rfl,o1⟩| ⟨rfl,r0,rfl,rS⟩)
   ·try dsimp only at H
    exact q1 <| qt <| fB H
   ·try dsimp only at H
    obtain rfl:=oi H
    exact⟨.inl rfl,rS⟩
end
def y6:bR:=gC [0,1,4,5,6,11,12,13,16,19] [] [1020,1012,996,972,959,1019,1019,892,1019,764,1019,511,1019,1019] [] []
def cW.f (m:Nat)(x0:Int)(y0:Int):Option (Int):=(cmp_isNaN_int.f m x0).bind fun x1=>(cmp_isNaN_int.f m y0).bind fun x2=>if x1=true then (if x2=true then (some 0) else (some (-1:Int))) else (if x2=true then (some 1) else (if (decide (x0<y0))=true then (some (-1:Int)) else (if (decide (x0 > y0))=true then (some 1) else (some 0))))
def cW.fin (L:Mem)(r:Int)(s:St):Prop:=∃av,aE Tryz.prog (s.open y6) Tryz.f127.results.toList=some av∧eR s.h av (.i r)
def Qj (cf:CallF)(m:Nat):Prop:=∀(x0:Int) (y0:Int) (r:Int),cW.f m x0 y0=some r→∀h xs,aP bH h xs [.i x0,.i y0]→cf 127 xs h=some (.i r,h)
section
variable {cf:CallF}{m:Nat}
theorem oG {aS:FuncId→bR}(ha:aS 127=y6)(LW:Qa cf m)(x0:Int)(y0:Int)(h:AHeap)(L:Mem)  (o:Has h (L)){out:Int}(H:cW.f m x0 y0=some out) :
  ∃r h',a6 Tryz.prog aS cf m 127 [.i x0,.i y0] h=some (r,h')∧eR h' r (.i out):=by
 refine aq (fn:=Tryz.f127) ha Tryz.func127 kr kr ?_
 refine aC (Q:=fun s=>cW.fin L out s) (fun _ _ h=>h) ?_
 have H:_=some out:=H
 unfold cW.f at H
 show cZ _ cf y6 m _ ⟨.i x0 :: .i y0::xg [],[],h⟩ _
 refine q1 <| qq ?_
 obtain⟨x1,e0,H⟩:=aW H
 refine qr [.a 1 (LW _ _ e0 h _ fq)] <| qq ?_
 obtain⟨x2,e1,H⟩:=aW H
 refine qr [.a 1 (LW _ _ e1 h _ fq)] <| qq <| qq <| q0 <| qc H (fun c0 H=>?_) (fun c0 H=>?_)
 ·refine qq <| qq <| q0 <| qc H (fun c1 H=>?_) (fun c1 H=>?_)
  ·exact q1 <| qt <| fI H
  ·exact qk <| qq <| q0 <| qt <| fI H
 ·refine qk <| qq <| qq <| q0 <| qc H (fun c2 H=>?_) (fun c2 H=>?_)
  ·exact q1 <| qt <| fI H
  ·refine qk <| qq <| qq <| q0 <| qc H (fun c3 H=>?_) (fun c3 H=>?_)
   ·exact q1 <| qt <| fI H
   ·refine qk <| qq <| qq <| q0 <| qc H (fun c4 H=>?_) (fun c4 H=>?_)
    ·exact q1 <| qt <| fI H
    ·exact qk <| qq <| q0 <| qt <| fI H
end
def y7:bR:=gC [0,1,4,5,6,11,12,13,16,19] [] [1020,1012,996,972,959,1019,1019,892,1019,764,1019,511,1019,1019] [] []
def cz.f (m:Nat)(x0:ByteArray)(y0:ByteArray):Option (Int):=(cmp_isNaN_string.f m x0).bind fun x1=>(cmp_isNaN_string.f m y0).bind fun x2=>if x1=true then (if x2=true then (some 0) else (some (-1:Int))) else (if x2=true then (some 1) else (if (Op.bytesLess x0.data.toList y0.data.toList)=true then (some (-1:Int)) else (if (!HA x0 y0)=true then (some 1) else (some 0))))
def cz.fin (L:Mem)(r:Int)(s:St):Prop:=∃av,aE Tryz.prog (s.open y7) Tryz.f129.results.toList=some av∧eR s.h av (.i r)
def Qk (cf:CallF)(m:Nat):Prop:=∀(x0:ByteArray) (y0:ByteArray) (r:Int),cz.f m x0 y0=some r→∀h xs,aP bH h xs [.str x0,.str y0]→cf 129 xs h=some (.i r,h)
section
variable {cf:CallF}{m:Nat}
theorem mz {aS:FuncId→bR}(ha:aS 129=y7)(LX:Qb cf m)(x0:ByteArray)(y0:ByteArray)(h:AHeap)(L:Mem)  (o:Has h (L)){out:Int}(H:cz.f m x0 y0=some out) :
  ∃r h',a6 Tryz.prog aS cf m 129 [.str x0,.str y0] h=some (r,h')∧eR h' r (.i out):=by
 refine aq (fn:=Tryz.f129) ha Tryz.func129 kr kr ?_
 refine aC (Q:=fun s=>cz.fin L out s) (fun _ _ h=>h) ?_
 have H:_=some out:=H
 unfold cz.f at H
 show cZ _ cf y7 m _ ⟨.str x0 :: .str y0::xg [],[],h⟩ _
 refine q1 <| qq ?_
 obtain⟨x1,e0,H⟩:=aW H
 refine qr [.a 1 (LX _ _ e0 h _ fq)] <| qq ?_
 obtain⟨x2,e1,H⟩:=aW H
 refine qr [.a 1 (LX _ _ e1 h _ fq)] <| qq <| qq <| q0 <| qc H (fun c0 H=>?_) (fun c0 H=>?_)
 ·refine qq <| qq <| q0 <| qc H (fun c1 H=>?_) (fun c1 H=>?_)
  ·exact q1 <| qt <| fI H
  ·exact qk <| qq <| q0 <| qt <| fI H
 ·refine qk <| qq <| qq <| q0 <| qc H (fun c2 H=>?_) (fun c2 H=>?_)
  ·exact q1 <| qt <| fI H
  ·refine qk <| qq <| qq <| q0 <| qc H (fun c3 H=>?_) (fun c3 H=>?_)
   ·exact q1 <| qt <| fI H
   ·refine qk <| qq <| qq <| q0 <| qc H (fun c4 H=>?_) (fun c4 H=>?_)
    ·exact q1 <| qt <| fI H
    ·exact qk <| qq <| q0 <| qt <| fI H
end
def vz:bR:=gC [0,1,2,3,4,10,11,20,23] [] [450,394,266,138,394,394,394,394,511] [] []
def fK.l0 (m:Nat)(m0:Int)(aX:Int→Int→Option (Int)):Nat→(List Int)→Int→Int→Option ((List Int) × Int × Int)
 | 0,_,_,_=>none
 | k+1,bz,i0,j0=>if (!(i0==j0))=true then (if (decide (i0 > j0))=true then ((bZ.f m bz (i64.wrap (m0 - i0)) m0 j0 aX).bind fun x0=>fK.l0 m m0 aX k x0 (i64.wrap (i0 - j0)) j0) else ((bZ.f m bz (i64.wrap (m0 - i0)) (i64.wrap (i64.wrap (m0+j0) - i0)) i0 aX).bind fun x1=>fK.l0 m m0 aX k x1 i0 (i64.wrap (j0 - i0)))) else (some ((bz,i0,j0)))
def fK.f (m:Nat)(au:List Int)(a0:Int)(m0:Int)(b0:Int)(aX:Int→Int→Option (Int)):Option ((List Int)):=(fK.l0 m m0 aX m au (i64.wrap (m0 - a0)) (i64.wrap (b0 - m0))).bind fun bP=>match bP with | (dr,i1,j1)=>(bZ.f m dr (i64.wrap (m0 - i1)) m0 i1 aX).bind fun x2=>some x2
def fK.fin (L:Mem)(aM:Nat)(au:List Int)(a0:Int)(m0:Int)(b0:Int)(aX:Int→Int→Option (Int))(r:(List Int))(s:St):Prop:=aE Tryz.prog (s.open vz) Tryz.f148.results.toList=some (.tup [])∧Has s.h ((aM,.sl au.length 1 (af.l r))::L)
def Ql (cf:CallF)(m:Nat):Prop:=∀(au:List Int) (a0:Int) (m0:Int) (b0:Int) (aX:Int→Int→Option (Int)) (r:(List Int)),fK.f m au a0 m0 b0 aX=some r→∀h L (cF:Nat) (aM:Nat),Has h ((aM,.sl cF 1 (af.l au))::L)→∀(fC:FuncId) (bf aY:List AV),(aN (.fn fC bf) = .fn fC bf)→(∀(h:AHeap) (xs:List AV) (a0:Int) (a1:Int) r,aX a0 a1=some r→aP bH h xs ([.i a0,.i a1]++aY)→cf fC xs h=some (.i r,h))→(∀h K,Has h (K++(L))→aP cC h bf aY)→(∀h,aP cC h aY aY)→∀xs,xs.map aN=[.rs aM 0 cF 1,.i a0,.i m0,.i b0,.fn fC bf]→∃h',cf 148 xs h=some (.tup [],h')∧Has h' ((aM,.sl cF 1 (af.l r))::L)
section
variable {cf:CallF}{m:Nat}
theorem fK.cb (L:Mem)(aM:Nat)(fC:FuncId)(bf aY:List AV)(au:List Int)(a0:Int)(m0:Int)(b0:Int)(aX:Int→Int→Option (Int))  (jw:aN (.fn fC bf) = .fn fC bf)(iS:∀(h:AHeap) (xs:List AV) (a0:Int) (a1:Int) r,aX a0 a1=some r→aP bH h xs ([.i a0,.i a1]++aY)→cf fC xs h=some (.i r,h))(iT:∀h K,Has h (K++(L))→aP cC h bf aY)(jx:∀h,aP cC h aY aY)(AX:Ns cf m):cY Tryz.prog cf vz m (sub [1,1,0,0,0] (bN Tryz.f148)) (fun k (σ:(List Int) × Int × Int)=>fK.l0 m m0 aX k σ.1 σ.2.1 σ.2.2) (fun σ s=>match σ with | (bz,i0,j0)=>∃h0,s=⟨[.rs aM 0 au.length 1,.any,.i m0,.any,.fn fC bf,.i i0,.i j0,.any,.any],[],h0⟩∧Has h0 ((aM,.sl au.length 1 (af.l bz))::L)) (fun out e s=>(e = .exit 0∧∃bz i0 j0,(bz,i0,j0)=out∧∃ND Nu h0,s=⟨[.rs aM 0 au.length 1,.any,.i m0,.any,.fn fC bf,.i i0,ND,Nu,.any],[],h0⟩∧Has h0 ((aM,.sl au.length 1 (af.l bz))::L))):=by
 refine ln (fun _=>rfl) ?_
 rintro k ⟨bz,i0,j0⟩ s out ⟨h0,rfl,o0⟩ H
 have H:fK.l0 m m0 aX (k+1) bz i0 j0=some out:=H
 refine qq <| qq <| q0 <| qc H (fun c0 H=>?_) (fun c0 H=>?_)
 ·refine qk <| qb 1 <| qq <| q0 <| qc H (fun c1 H=>?_) (fun c1 H=>?_)
  ·refine qq ?_
   obtain⟨x0,e0,H⟩:=aW H
   obtain⟨h1,e1,o1⟩:=AX _ _ _ _ _ _ e0 h0 _ _ _ (o0) fC bf aY jw iS (fun h' K' o'=>iT h' (K'++[]) (by simpa only [aa0,abm,abr] using o')) jx [.rs aM 0 au.length 1,.i (i64.wrap (m0 - i0)),.i m0,.i j0,.fn fC bf] cq
   exact qr [.a 7 e1] <| q0 <| ⟨(x0,i64.wrap (i0 - j0),j0),⟨h1,kr,o1⟩,H⟩
  ·refine qq ?_
   obtain⟨x1,e2,H⟩:=aW H
   obtain⟨h2,e3,o2⟩:=AX _ _ _ _ _ _ e2 h0 _ _ _ (o0) fC bf aY jw iS (fun h' K' o'=>iT h' (K'++[]) (by simpa only [aa0,abm,abr] using o')) jx [.rs aM 0 au.length 1,.i (i64.wrap (m0 - i0)),.i (i64.wrap (i64.wrap (m0+j0) - i0)),.i i0,.fn fC bf] cq
   exact qr [.a 11 e3] <| q0 <| ⟨(x1,i0,i64.wrap (j0 - i0)),⟨h2,kr,o2⟩,H⟩
 ·exact qx 0 <| ⟨rfl,bz,i0,j0,oi H,.i j0,.bool (!(i0==j0)),h0,kr,o0⟩
theorem y8 {aS:FuncId→bR}(ha:aS 148=vz)(AX:Ns cf m)(au:List Int)(a0:Int)(m0:Int)(b0:Int)(aX:Int→Int→Option (Int))(h:AHeap)(L:Mem)(aM:Nat)(fC:FuncId)(bf aY:List AV)  (jw:aN (.fn fC bf) = .fn fC bf)(iS:∀(h:AHeap) (xs:List AV) (a0:Int) (a1:Int) r,aX a0 a1=some r→aP bH h xs ([.i a0,.i a1]++aY)→cf fC xs h=some (.i r,h))(iT:∀h K,Has h (K++(L))→aP cC h bf aY)(jx:∀h,aP cC h aY aY)(o:Has h ((aM,.sl au.length 1 (af.l au))::L)){out:(List Int)}(H:fK.f m au a0 m0 b0 aX=some out) :
  ∃r h',a6 Tryz.prog aS cf m 148 [.rs aM 0 au.length 1,.i a0,.i m0,.i b0,.fn fC bf] h=some (r,h')∧r = .tup []∧Has h' ((aM,.sl au.length 1 (af.l out))::L):=by
 refine aq (fn:=Tryz.f148) ha Tryz.func148 kr kr ?_
 refine aC (Q:=fun s=>fK.fin L aM au a0 m0 b0 aX out s) (fun _ _ ⟨h1,h2,h3⟩=>⟨h1,_,h2,rfl,h3⟩) ?_
 have H:_=some out:=H
 unfold fK.f at H
 show cZ _ cf vz m _ ⟨.rs aM 0 au.length 1 :: .i a0 :: .i m0 :: .i b0 :: .fn fC bf::rN [],[],h⟩ _
 refine q1 <| qq <| q0 <| qq <| qb 0 ?_
 obtain⟨bP,e4,H⟩:=aW H
 refine ql (fK.cb L aM fC bf aY au a0 m0 b0 aX  jw iS iT jx AX (au,i64.wrap (m0 - a0),i64.wrap (b0 - m0)) _ _ ⟨h,kr,o⟩ e4) ?_
 rintro e s ⟨rfl,dr,i1,j1,rfl,g0,g1,h3,rfl,o3⟩
 try dsimp only at H
 obtain⟨x2,e5,H⟩:=aW H
 obtain⟨h4,e6,o4⟩:=AX _ _ _ _ _ _ e5 h3 _ _ _ (o3) fC bf aY jw iS (fun h' K' o'=>iT h' (K'++[]) (by simpa only [aa0,abm,abr] using o')) jx [.rs aM 0 au.length 1,.i (i64.wrap (m0 - i1)),.i m0,.i i1,.fn fC bf] cq
 obtain rfl:=oi H
 exact qr [.a 7 e6] <| ⟨.inr rfl,⟨kr,he o4⟩⟩
end
def Em:bR:=gC [0,1,2,4,5,6,7] [] [102,31] [] []
def eG.f (m:Nat)(s0:ab)(cD:ByteArray)(n0:Int):Option (Int × Int × ab):=(bT.f m s0 (cV.f m cD n0) (ai.mk 4 n0 cD ([]))).bind fun x0=>some (x0.1,x0.2.1,x0.2.2)
def eG.fin (L:Mem)(ar:Nat)(an:Nat)(ao:Nat)(s0:ab)(cD:ByteArray)(n0:Int)(r:Int × Int × ab)(s:St):Prop:=∃aA aB:Nat,aE Tryz.prog (s.open Em) Tryz.f44.results.toList=some (.tup [.i r.1,.i r.2.1])∧Has s.h ((ar,.ob [.bool r.2.2.aj,.rs aA 0 r.2.2.aa.length 4,.rs aB 0 r.2.2.ae.length 1])::(aA,.sl r.2.2.aa.length 4 (ah.l r.2.2.aa))::(aB,.sl r.2.2.ae.length 1 (af.l r.2.2.ae))::L)
def Wq (cf:CallF)(m:Nat):Prop:=∀(s0:ab) (cD:ByteArray) (n0:Int) (r:Int × Int × ab),eG.f m s0 cD n0=some r→∀h L (ar:Nat) (an:Nat) (ao:Nat),Has h ((ar,.ob [.bool s0.aj,.rs an 0 s0.aa.length 4,.rs ao 0 s0.ae.length 1])::(an,.sl s0.aa.length 4 (ah.l s0.aa))::(ao,.sl s0.ae.length 1 (af.l s0.ae))::L)→∀xs,xs.map aN=[.ptr ar 0,.str cD,.i n0]→∃aA aB h',cf 44 xs h=some (.tup [.i r.1,.i r.2.1],h')∧Has h' ((ar,.ob [.bool r.2.2.aj,.rs aA 0 r.2.2.aa.length 4,.rs aB 0 r.2.2.ae.length 1])::(aA,.sl r.2.2.aa.length 4 (ah.l r.2.2.aa))::(aB,.sl r.2.2.ae.length 1 (af.l r.2.2.ae))::L)
section
variable {cf:CallF}{m:Nat}
theorem nK {aS:FuncId→bR}(ha:aS 44=Em)(y5:OC cf m)(TV:Wp cf m)(s0:ab)(cD:ByteArray)(n0:Int)(h:AHeap)(L:Mem)(ar:Nat)(an:Nat)(ao:Nat)  (o:Has h ((ar,.ob [.bool s0.aj,.rs an 0 s0.aa.length 4,.rs ao 0 s0.ae.length 1])::(an,.sl s0.aa.length 4 (ah.l s0.aa))::(ao,.sl s0.ae.length 1 (af.l s0.ae))::L)){out:Int × Int × ab}(H:eG.f m s0 cD n0=some out) :
  ∃r h',a6 Tryz.prog aS cf m 44 [.ptr ar 0,.str cD,.i n0] h=some (r,h')∧∃aA aB:Nat,r = .tup [.i out.1,.i out.2.1]∧Has h' ((ar,.ob [.bool out.2.2.aj,.rs aA 0 out.2.2.aa.length 4,.rs aB 0 out.2.2.ae.length 1])::(aA,.sl out.2.2.aa.length 4 (ah.l out.2.2.aa))::(aB,.sl out.2.2.ae.length 1 (af.l out.2.2.ae))::L):=by
 refine aq (fn:=Tryz.f44) ha Tryz.func44 kr kr ?_
 refine aC (Q:=fun s=>eG.fin L ar an ao s0 cD n0 out s) (fun _ _ ⟨h1,aA,aB,h2,h3⟩=>⟨h1,_,h2,aA,aB,rfl,h3⟩) ?_
 have H:_=some out:=H
 unfold eG.f at H
 show cZ _ cf Em m _ ⟨.ptr ar 0 :: .str cD :: .i n0::rN [],[],h⟩ _
 refine qq ?_
 obtain⟨aM,h0,e0,o0⟩:=gM (cs:=[.str cD]) o kr
 obtain⟨cr,h1,e1,o1⟩:=gM (cs:=[.i n0]) o0 kr
 refine qr [.a 0 e0,.a 1 e1] <| qq ?_
 obtain⟨x0,e2,H⟩:=aW H
 obtain⟨dY,fk,h2,e3,o2⟩:=y5 _ _ _ _ e2 h1 _ _ _ _ ((fe (fe (fe (fe (fe o1 1) 1) 4) 4) 4)) 86 [.ptr aM 0,.ptr cr 0] [.fp [.str cD] 0,.fp [.i n0] 0] rfl (fun h' tj  r hr hx=>TV _ _ r hr h' tj hx) (fun h' K' o'=>iR (ak (eC (q:=(K'.length+4)) o' (jG rfl) (ak (kY) (aG))) (ak (eC (q:=(K'.length+3)) o' (jG rfl) (ak (bO) (aG))) (aG)))) (fun h_=>iR (ak (fE (pure_cons (ov) (pure_nil))) (ak (fE (pure_cons (gW) (pure_nil))) (aG)))) [.ptr ar 0,.fn 86 [.ptr aM 0,.ptr cr 0],.agg [.i 4,.i n0,.str cD,.nils]] (gw (rfl) (gw (rfl) (gw (oy (uP (fV (mV) (fV (mV) (fV (uN) (fV (tQ (E:=af)) (uO))))))) cq)))
 refine qr [.v 2 (show bw Tryz.prog h1 9 (.ptr aM 0)=some (.str cD) from b6 (q:=1) (cs:=[.str cD]) o1 rfl kr),.v 3 (show bw Tryz.prog h1 3 (.ptr cr 0)=some (.i n0) from b6 (q:=0) (cs:=[.i n0]) o1 rfl kr),.a 5 e3] ?_
 have o3:Has h2 ((ar,.ob [.bool x0.2.2.aj,.rs dY 0 x0.2.2.aa.length 4,.rs fk 0 x0.2.2.ae.length 1])::(dY,.sl x0.2.2.aa.length 4 (ah.l x0.2.2.aa))::(fk,.sl x0.2.2.ae.length 1 (af.l x0.2.2.ae))::(cr,.ob [.i n0])::L):=iJ o2 4
 have o4:Has h2 ((ar,.ob [.bool x0.2.2.aj,.rs dY 0 x0.2.2.aa.length 4,.rs fk 0 x0.2.2.ae.length 1])::(dY,.sl x0.2.2.aa.length 4 (ah.l x0.2.2.aa))::(fk,.sl x0.2.2.ae.length 1 (af.l x0.2.2.ae))::L):=iJ o3 3
 obtain rfl:=oi H
 exact qt <| ⟨.inl rfl,⟨dY,fk,kr,he o4⟩⟩
end
def En:bR:=gC [0,1,2,4,5,9] [] [57,41,55,31,55,55] [] []
def b7.f (m:Nat)(s0:ab)(l0:List Int):Option (Int):=(b4.f m s0).bind fun x0=>if (!x0)=true then (some 6) else ((fi.f m l0 (fun y0=>dk.f m y0 s0)).bind fun x1=>if x1=true then (some 1) else (some 0))
def b7.fin (L:Mem)(r:Int)(s:St):Prop:=∃av,aE Tryz.prog (s.open En) Tryz.f59.results.toList=some av∧eR s.h av (.i r)
def Qm (cf:CallF)(m:Nat):Prop:=∀(s0:ab) (l0:List Int) (r:Int),b7.f m s0 l0=some r→∀h xs,aP bH h xs [.fp [.bool s0.aj,ah.fz s0.aa,af.fz s0.ae] 0,af.fz l0]→cf 59 xs h=some (.i r,h)
section
variable {cf:CallF}{m:Nat}
theorem nh {aS:FuncId→bR}(ha:aS 59=En)(H5:RK cf m)(It:RN cf m)(TW:Wi cf m)(s0:ab)(l0:List Int)(h:AHeap)(L:Mem)  (o:Has h (L)){out:Int}(H:b7.f m s0 l0=some out) :
  ∃r h',a6 Tryz.prog aS cf m 59 [.fp [.bool s0.aj,ah.fz s0.aa,af.fz s0.ae] 0,af.fz l0] h=some (r,h')∧eR h' r (.i out):=by
 refine aq (fn:=Tryz.f59) ha Tryz.func59 kr kr ?_
 refine aC (Q:=fun s=>b7.fin L out s) (fun _ _ h=>h) ?_
 have H:_=some out:=H
 unfold b7.f at H
 show cZ _ cf En m _ ⟨.fp [.bool s0.aj,ah.fz s0.aa,af.fz s0.ae] 0::af.fz l0::rN [],[],h⟩ _
 refine qq ?_
 obtain⟨aM,h0,e0,o0⟩:=gM (cs:=[.fp [.bool s0.aj,ah.fz s0.aa,af.fz s0.ae] 0]) o kr
 refine qr [.a 0 e0] <| qq <| qb 0 <| qq ?_
 obtain⟨x0,e1,H⟩:=aW H
 refine qr [.v 0 (show bw Tryz.prog h0 31 (.ptr aM 0)=some (.fp [.bool s0.aj,ah.fz s0.aa,af.fz s0.ae] 0) from b6 (q:=0) (cs:=[.fp [.bool s0.aj,ah.fz s0.aa,af.fz s0.ae] 0]) o0 rfl kr),.a 1 (H5 _ _ e1 h0 _ (lZ (ak (fE (pure_cons (cu) (pure_cons (bL.bp (E:=ah) (l:=s0.aa)) (pure_cons (bL.bp (E:=af) (l:=s0.ae)) (pure_nil))))) (aG))))] <| qc H (fun c0 H=>?_) (fun c0 H=>?_)
 ·refine q1 ?_
  exact qt <| fI H
 ·refine qq ?_
  obtain⟨x1,e2,H⟩:=aW H
  refine qr [.a 2 (It _ _ _ e2 95 [.fp [.fp [.bool s0.aj,ah.fz s0.aa,af.fz s0.ae] 0] 0] (fun h' tj y0 r hr hx=>TW y0 _ r hr h' tj hx) (fun h_=>iR (ak (fE (pure_cons (lK (pure_cons (cu) (pure_cons (bL.bp (E:=ah) (l:=s0.aa)) (pure_cons (bL.bp (E:=af) (l:=s0.ae)) (pure_nil))))) (pure_nil))) (aG))) h0 _ (lZ (ak (km (E:=af)) (ak (sJ (ak (eC (q:=0) o0 rfl (ak (fE (pure_cons (cu) (pure_cons (bL.bp (E:=ah) (l:=s0.aa)) (pure_cons (bL.bp (E:=af) (l:=s0.ae)) (pure_nil))))) (aG))) (aG))) (aG)))))] ?_
  refine qc H (fun c1 H=>?_) (fun c1 H=>?_)
  ·exact q1 <| qt <| fI H
  ·exact qk <| qq <| q0 <| qt <| fI H
end
def Eo:bR:=gC [0,2] [] [2,1] [] []
def gA.f (m:Nat)(s0:ByteArray):Option (Bool):=if (s0.data.toList==(abp #[124]).data.toList)=true then (some true) else (if (s0.data.toList==(abp #[35]).data.toList)=true then (some true) else ((de.f m s0 97 122).bind fun x0=>some x0))
def gA.fin (L:Mem)(r:Bool)(s:St):Prop:=∃av,aE Tryz.prog (s.open Eo) Tryz.f74.results.toList=some av∧eR s.h av (.bool r)
def RP (cf:CallF)(m:Nat):Prop:=∀(s0:ByteArray) (r:Bool),gA.f m s0=some r→∀h xs,aP bH h xs [.str s0]→cf 74 xs h=some (.bool r,h)
section
variable {cf:CallF}{m:Nat}
theorem vC {aS:FuncId→bR}(ha:aS 74=Eo)(Qn:Qh cf m)(s0:ByteArray)(h:AHeap)(L:Mem)  (o:Has h (L)){out:Bool}(H:gA.f m s0=some out) :
  ∃r h',a6 Tryz.prog aS cf m 74 [.str s0] h=some (r,h')∧eR h' r (.bool out):=by
 refine aq (fn:=Tryz.f74) ha Tryz.func74 kr kr ?_
 refine aC (Q:=fun s=>gA.fin L out s) (fun _ _ h=>h) ?_
 have H:_=some out:=H
 unfold gA.f at H
 show cZ _ cf Eo m _ ⟨[.str s0,.any],[],h⟩ _
 refine q1 <| qq ?_
 rcases du H with⟨c0,H⟩| ⟨c0,H⟩
 ·exact qr [.b 2 c0] <| qt <| fB H
 ·rcases du H with⟨c1,H⟩| ⟨c1,H⟩
  ·exact qr [.b 2 c0,.b 6 c1] <| qt <| fB H
  ·obtain⟨x0,e0,H⟩:=aW H
   exact qr [.b 2 c0,.b 6 c1,.a 8 (Qn _ _ _ _ e0 h _ fq)] <| qt <| fB H
end
def Ep:bR:=gC [0,1,2,3,4,6,7,23,44,60,89] [2] [2035,2003,1939,2031,1875,2031,1747,2031,1491,2031,1019,2031,2031] [] []
def jh.f (m:Nat)(n0:ai)(nu:Int):Option (Bool):=if (n0.kind==0)=true then (if (decide (n0.int≥0))=true then (if (n0.label.data.toList==(abp #[]).data.toList)=true then (some ((n0.args.length:Int)==0)) else (some false)) else (some false)) else (if (n0.kind==1)=true then (if (decide (n0.int≥(-1099511627776:Int)))=true then (if (decide (n0.int≤1099511627776))=true then (if (n0.label.data.toList==(abp #[]).data.toList)=true then (some ((n0.args.length:Int)==0)) else (some false)) else (some false)) else (some false)) else (if (n0.kind==2)=true then (if (n0.int==0)=true then ((gA.f m n0.label).bind fun x0=>if x0=true then (some ((n0.args.length:Int)==0)) else (some false)) else (some false)) else (if (n0.kind==3)=true then (if (n0.int==0)=true then ((gA.f m n0.label).bind fun x1=>if x1=true then (if (decide ((n0.args.length:Int)≥1))=true then (if (decide ((n0.args.length:Int)≤8))=true then ((fi.f m n0.args (fun y0=>ir.f m y0 nu)).bind fun x2=>some (!x2)) else (some false)) else (some false)) else (some false)) else (some false)) else (if (n0.kind==4)=true then (if (decide (n0.int≥0))=true then ((gN.f m n0.label).bind fun x3=>if x3=true then (some ((n0.args.length:Int)==0)) else (some false)) else (some false)) else (some false)))))
def jh.fin (L:Mem)(r:Bool)(s:St):Prop:=∃av,aE Tryz.prog (s.open Ep) Tryz.f79.results.toList=some av∧eR s.h av (.bool r)
def Wr (cf:CallF)(m:Nat):Prop:=∀(n0:ai) (nu:Int) (r:Bool),jh.f m n0 nu=some r→∀h xs,aP bH h xs [.agg [.i n0.kind,.i n0.int,.str n0.label,af.fz n0.args],.i nu]→cf 79 xs h=some (.bool r,h)
section
variable {cf:CallF}{m:Nat}
theorem vD {aS:FuncId→bR}(ha:aS 79=Ep)(rY:RP cf m)(It:RN cf m)(Io:Tv cf m)(Qo:P8 cf m)(n0:ai)(nu:Int)(h:AHeap)(L:Mem)  (o:Has h (L)){out:Bool}(H:jh.f m n0 nu=some out) :
  ∃r h',a6 Tryz.prog aS cf m 79 [.agg [.i n0.kind,.i n0.int,.str n0.label,af.fz n0.args],.i nu] h=some (r,h')∧eR h' r (.bool out):=by
 refine aq (fn:=Tryz.f79) ha Tryz.func79 kr kr ?_
 refine aC (Q:=fun s=>jh.fin L out s) (fun _ _ h=>h) ?_
 have H:_=some out:=H
 unfold jh.f at H
 show cZ _ cf Ep m _ ⟨.agg [.i n0.kind,.i n0.int,.str n0.label,af.fz n0.args] :: .i nu::Oz [],[none],h⟩ _
 refine qq ?_
 obtain⟨aM,h0,e0,o0⟩:=gM (cs:=[.i nu]) o kr
 refine qr [.a 1 e0] <| qq <| qq <| q0 <| qb 0 <| qq <| q0 <| qc H (fun c0 H=>?_) (fun c0 H=>?_)
 ·refine qq ?_
  rcases du H with⟨c1,H⟩| ⟨c1,H⟩
  ·rcases du H with⟨c2,H⟩| ⟨c2,H⟩
   ·refine qr [.b 3 c1,.b 8 c2] ?_
    exact qt <| fB H
   ·refine qr [.b 3 c1,.b 8 c2] ?_
    exact qt <| fB H
  ·refine qr [.b 3 c1] ?_
   exact qt <| fB H
 ·refine q1 <| qc H (fun c3 H=>?_) (fun c3 H=>?_)
  ·refine qq ?_
   rcases du H with⟨c4,H⟩| ⟨c4,H⟩
   ·rcases du H with⟨c5,H⟩| ⟨c5,H⟩
    ·rcases du H with⟨c6,H⟩| ⟨c6,H⟩
     ·refine qr [.b 3 c4,.b 8 c5,.b 13 c6] ?_
      exact qt <| fB H
     ·refine qr [.b 3 c4,.b 8 c5,.b 13 c6] ?_
      exact qt <| fB H
    ·refine qr [.b 3 c4,.b 8 c5] ?_
     exact qt <| fB H
   ·refine qr [.b 3 c4] ?_
    exact qt <| fB H
  ·refine q1 <| qc H (fun c7 H=>?_) (fun c7 H=>?_)
   ·refine qq ?_
    rcases du H with⟨c8,H⟩| ⟨c8,H⟩
    ·obtain⟨x0,e1,H⟩:=aW H
     rcases du H with⟨c9,H⟩| ⟨c9,H⟩
     ·refine qr [.b 3 c8,.a 6 (rY _ _ e1 h0 _ fq),.b 8 c9] ?_
      exact qt <| fB H
     ·refine qr [.b 3 c8,.a 6 (rY _ _ e1 h0 _ fq),.b 8 c9] ?_
      exact qt <| fB H
    ·refine qr [.b 3 c8] ?_
     exact qt <| fB H
   ·refine q1 <| qc H (fun vl H=>?_) (fun vl H=>?_)
    ·refine qq ?_
     rcases du H with⟨oY,H⟩| ⟨oY,H⟩
     ·obtain⟨x1,e2,H⟩:=aW H
      rcases du H with⟨vm,H⟩| ⟨vm,H⟩
      ·rcases du H with⟨vo,H⟩| ⟨vo,H⟩
       ·rcases du H with⟨rm,H⟩| ⟨rm,H⟩
        ·obtain⟨x2,e3,H⟩:=aW H
         refine qr [.b 3 oY,.a 6 (rY _ _ e2 h0 _ fq),.b 8 vm,.b 14 vo,.b 20 rm,.a 24 (It _ _ _ e3 110 [.fp [.i nu] 0] (fun h' tj y0 r hr hx=>Qo y0 _ r hr h' tj hx) (fun h_=>iR (ak (fE (pure_cons (gW) (pure_nil))) (aG))) h0 _ (lZ (ak (km (E:=af)) (ak (sJ (ak (eC (q:=0) o0 rfl (ak (bO) (aG))) (aG))) (aG)))))] ?_
         exact qt <| fB H
        ·refine qr [.b 3 oY,.a 6 (rY _ _ e2 h0 _ fq),.b 8 vm,.b 14 vo,.b 20 rm] ?_
         exact qt <| fB H
       ·refine qr [.b 3 oY,.a 6 (rY _ _ e2 h0 _ fq),.b 8 vm,.b 14 vo] ?_
        exact qt <| fB H
      ·refine qr [.b 3 oY,.a 6 (rY _ _ e2 h0 _ fq),.b 8 vm] ?_
       exact qt <| fB H
     ·refine qr [.b 3 oY] ?_
      exact qt <| fB H
    ·refine q1 ?_
     refine qc H (fun F4 H=>?_) (fun F4 H=>?_)
     ·refine qq ?_
      rcases du H with⟨GF,H⟩| ⟨GF,H⟩
      ·obtain⟨x3,e4,H⟩:=aW H
       rcases du H with⟨CR,H⟩| ⟨CR,H⟩
       ·exact qr [.b 3 GF,.a 6 (Io _ _ e4 h0 _ fq),.b 8 CR] <| qt <| fB H
       ·exact qr [.b 3 GF,.a 6 (Io _ _ e4 h0 _ fq),.b 8 CR] <| qt <| fB H
      ·exact qr [.b 3 GF] <| qt <| fB H
     ·exact qk <| qq <| q0 <| qt <| fB H
end
def Er:bR:=gC [0,2] [] [2,1] [] []
def fu.f (m:Nat)(s0:ByteArray):Option (Bool):=if (s0.data.toList==(abp #[124]).data.toList)=true then (some true) else (if (s0.data.toList==(abp #[35]).data.toList)=true then (some true) else ((cy.f m s0).bind fun x0=>if x0=true then ((bt s0 0).bind fun v0=>if (decide (v0≥97))=true then ((bt s0 0).bind fun v1=>some (decide (v1≤122))) else (some false)) else (some false)))
def fu.fin (L:Mem)(r:Bool)(s:St):Prop:=∃av,aE Tryz.prog (s.open Er) Tryz.f80.results.toList=some av∧eR s.h av (.bool r)
def Ws (cf:CallF)(m:Nat):Prop:=∀(s0:ByteArray) (r:Bool),fu.f m s0=some r→∀h xs,aP bH h xs [.str s0]→cf 80 xs h=some (.bool r,h)
section
variable {cf:CallF}{m:Nat}
theorem qR {aS:FuncId→bR}(ha:aS 80=Er)(Iu:Qi cf m)(s0:ByteArray)(h:AHeap)(L:Mem)  (o:Has h (L)){out:Bool}(H:fu.f m s0=some out) :
  ∃r h',a6 Tryz.prog aS cf m 80 [.str s0] h=some (r,h')∧eR h' r (.bool out):=by
 refine aq (fn:=Tryz.f80) ha Tryz.func80 kr kr ?_
 refine aC (Q:=fun s=>fu.fin L out s) (fun _ _ h=>h) ?_
 have H:_=some out:=H
 unfold fu.f at H
 show cZ _ cf Er m _ ⟨[.str s0,.any],[],h⟩ _
 refine q1 <| qq ?_
 rcases du H with⟨c0,H⟩| ⟨c0,H⟩
 ·exact qr [.b 2 c0] <| qt <| fB H
 ·rcases du H with⟨c1,H⟩| ⟨c1,H⟩
  ·exact qr [.b 2 c0,.b 6 c1] <| qt <| fB H
  ·obtain⟨x0,e0,H⟩:=aW H
   rcases du H with⟨c2,H⟩| ⟨c2,H⟩
   ·obtain⟨v0,e1,H⟩:=aW H
    rcases du H with⟨c3,H⟩| ⟨c3,H⟩
    ·obtain⟨v1,e2,H⟩:=aW H
     exact qr [.b 2 c0,.b 6 c1,.a 8 (Iu _ _ e0 h _ fq),.b 9 c2,.v 11 (ow (k:=.i64) U9 e1),.b 14 c3,.v 16 (ow (k:=.i64) U9 e2)] <| qt <| fB H
    ·exact qr [.b 2 c0,.b 6 c1,.a 8 (Iu _ _ e0 h _ fq),.b 9 c2,.v 11 (ow (k:=.i64) U9 e1),.b 14 c3] <| qt <| fB H
   ·exact qr [.b 2 c0,.b 6 c1,.a 8 (Iu _ _ e0 h _ fq),.b 9 c2] <| qt <| fB H
end
def Es:bR:=gC [0,1,2,3] [] [8,7] [] []
def cH.f (m:Nat)(x0:ByteArray)(x1:List Int)(x2:ab):Option (Bool):=(gA.f m x0).bind fun x3=>if x3=true then (if (decide ((x1.length:Int)≥1))=true then (if (decide ((x1.length:Int)≤8))=true then ((fi.f m x1 (fun y0=>cJ.f m y0 x2)).bind fun x4=>some (!x4)) else (some false)) else (some false)) else (some false)
def cH.fin (L:Mem)(r:Bool)(s:St):Prop:=∃av,aE Tryz.prog (s.open Es) Tryz.f82.results.toList=some av∧eR s.h av (.bool r)
def Wt (cf:CallF)(m:Nat):Prop:=∀(x0:ByteArray) (x1:List Int) (x2:ab) (r:Bool),cH.f m x0 x1 x2=some r→∀h xs,aP bH h xs [.fp [.str x0] 0,.fp [af.fz x1] 0,.fp [.fp [.bool x2.aj,ah.fz x2.aa,af.fz x2.ae] 0] 0]→cf 82 xs h=some (.bool r,h)
section
variable {cf:CallF}{m:Nat}
theorem lY {aS:FuncId→bR}(ha:aS 82=Es)(rY:RP cf m)(It:RN cf m)(TX:Wo cf m)(x0:ByteArray)(x1:List Int)(x2:ab)(h:AHeap)(L:Mem)  (o:Has h (L)){out:Bool}(H:cH.f m x0 x1 x2=some out) :
  ∃r h',a6 Tryz.prog aS cf m 82 [.fp [.str x0] 0,.fp [af.fz x1] 0,.fp [.fp [.bool x2.aj,ah.fz x2.aa,af.fz x2.ae] 0] 0] h=some (r,h')∧eR h' r (.bool out):=by
 refine aq (fn:=Tryz.f82) ha Tryz.func82 kr kr ?_
 refine aC (Q:=fun s=>cH.fin L out s) (fun _ _ h=>h) ?_
 have H:_=some out:=H
 unfold cH.f at H
 show cZ _ cf Es m _ ⟨[.fp [.str x0] 0,.fp [af.fz x1] 0,.fp [.fp [.bool x2.aj,ah.fz x2.aa,af.fz x2.ae] 0] 0,.any],[],h⟩ _
 refine q1 <| qq ?_
 obtain⟨x3,e0,H⟩:=aW H
 rcases du H with⟨c0,H⟩| ⟨c0,H⟩
 ·rcases du H with⟨c1,H⟩| ⟨c1,H⟩
  ·rcases du H with⟨c2,H⟩| ⟨c2,H⟩
   ·obtain⟨x4,e1,H⟩:=aW H
    exact qr [.a 1 (rY _ _ e0 h _ fq),.b 2 c0,.b 7 c1,.b 12 c2,.a 15 (It _ _ _ e1 84 [.fp [.fp [.bool x2.aj,ah.fz x2.aa,af.fz x2.ae] 0] 0] (fun h' tj y0 r hr hx=>TX y0 _ r hr h' tj hx) (fun h_=>iR (ak (fE (pure_cons (lK (pure_cons (cu) (pure_cons (bL.bp (E:=ah) (l:=x2.aa)) (pure_cons (bL.bp (E:=af) (l:=x2.ae)) (pure_nil))))) (pure_nil))) (aG))) h _ (lZ (ak (km (E:=af)) (ak (sJ (ak (fE (pure_cons (lK (pure_cons (cu) (pure_cons (bL.bp (E:=ah) (l:=x2.aa)) (pure_cons (bL.bp (E:=af) (l:=x2.ae)) (pure_nil))))) (pure_nil))) (aG))) (aG)))))] <| qt <| fB H
   ·exact qr [.a 1 (rY _ _ e0 h _ fq),.b 2 c0,.b 7 c1,.b 12 c2] <| qt <| fB H
  ·exact qr [.a 1 (rY _ _ e0 h _ fq),.b 2 c0,.b 7 c1] <| qt <| fB H
 ·exact qr [.a 1 (rY _ _ e0 h _ fq),.b 2 c0] <| qt <| fB H
end
def y9:bR:=gC [0,1,2,3,4,5,16] [2,3] [115,83,111,51,111,111] [] []
def cX.f (m:Nat)(a0:ai)(b0:ai):Option (Int):=if (!(a0.kind==b0.kind))=true then ((cW.f m a0.kind b0.kind).bind fun x0=>some x0) else (if (a0.kind==3)=true then ((cW.f m (a0.args.length:Int) (b0.args.length:Int)).bind fun x1=>(cz.f m a0.label b0.label).bind fun x2=>(cd.f m ([x1,x2])).bind fun x3=>some x3) else ((cz.f m a0.label b0.label).bind fun x4=>(cW.f m a0.int b0.int).bind fun x5=>(cd.f m ([x4,x5])).bind fun x6=>some x6))
def cX.fin (L:Mem)(r:Int)(s:St):Prop:=∃av,aE Tryz.prog (s.open y9) Tryz.f103.results.toList=some av∧eR s.h av (.i r)
def Iv (cf:CallF)(m:Nat):Prop:=∀(a0:ai) (b0:ai) (r:Int),cX.f m a0 b0=some r→∀h xs,aP bH h xs [.agg [.i a0.kind,.i a0.int,.str a0.label,af.fz a0.args],.agg [.i b0.kind,.i b0.int,.str b0.label,af.fz b0.args]]→cf 103 xs h=some (.i r,h)
section
variable {cf:CallF}{m:Nat}
theorem oH {aS:FuncId→bR}(ha:aS 103=y9)(Iw:Qj cf m)(LY:P9 cf m)(LZ:Qk cf m)(a0:ai)(b0:ai)(h:AHeap)(L:Mem)  (o:Has h (L)){out:Int}(H:cX.f m a0 b0=some out) :
  ∃r h',a6 Tryz.prog aS cf m 103 [.agg [.i a0.kind,.i a0.int,.str a0.label,af.fz a0.args],.agg [.i b0.kind,.i b0.int,.str b0.label,af.fz b0.args]] h=some (r,h')∧eR h' r (.i out):=by
 refine aq (fn:=Tryz.f103) ha Tryz.func103 kr kr ?_
 refine aC (Q:=fun s=>cX.fin L out s) (fun _ _ h=>h) ?_
 have H:_=some out:=H
 unfold cX.f at H
 show cZ _ cf y9 m _ ⟨.agg [.i a0.kind,.i a0.int,.str a0.label,af.fz a0.args] :: .agg [.i b0.kind,.i b0.int,.str b0.label,af.fz b0.args]::Ax [],[none,none],h⟩ _
 refine q1 <| qq <| qb 0 <| qq <| q0 <| qc H (fun c0 H=>?_) (fun c0 H=>?_)
 ·refine qq ?_
  obtain⟨x0,e0,H⟩:=aW H
  exact qr [.a 4 (Iw _ _ _ e0 h _ fq)] <| qt <| fI H
 ·refine q1 <| qc H (fun c1 H=>?_) (fun c1 H=>?_)
  ·refine qq ?_
   obtain⟨x1,e1,H⟩:=aW H
   obtain⟨x2,e2,H⟩:=aW H
   obtain⟨x3,e3,H⟩:=aW H
   exact qr [.a 6 (Iw _ _ _ e1 h _ fq),.a 11 (LZ _ _ _ e2 h _ fq),.a 13 (LY _ _ e3 h _ (lZ (ak (rL (E:=af) (l:=[x1,x2]) (cs:=[.i x1,.i x2]) (b:=true) kr kr rfl) (aG))))] <| qt <| fI H
  ·refine qk <| qq ?_
   obtain⟨x4,e4,H⟩:=aW H
   obtain⟨x5,e5,H⟩:=aW H
   obtain⟨x6,e6,H⟩:=aW H
   exact qr [.a 4 (LZ _ _ _ e4 h _ fq),.a 9 (Iw _ _ _ e5 h _ fq),.a 11 (LY _ _ e6 h _ (lZ (ak (rL (E:=af) (l:=[x4,x5]) (cs:=[.i x4,.i x5]) (b:=true) kr kr rfl) (aG))))] <| qt <| fI H
end
def za:bR:=gC [0,1,2,5] [] [8,7] [] []
def dV.f (m:Nat)(i0:Int)(j0:Int)(x0:List ai):Option (Int):=(ix x0 i0).bind fun v0=>(ix x0 j0).bind fun v1=>(cX.f m v0 v1).bind fun x1=>some x1
def dV.fin (L:Mem)(r:Int)(s:St):Prop:=∃av,aE Tryz.prog (s.open za) Tryz.f115.results.toList=some av∧eR s.h av (.i r)
def Qp (cf:CallF)(m:Nat):Prop:=∀(i0:Int) (j0:Int) (x0:List ai) (r:Int),dV.f m i0 j0 x0=some r→∀h xs,aP bH h xs [.i i0,.i j0,.fp [ah.fz x0] 0]→cf 115 xs h=some (.i r,h)
section
variable {cf:CallF}{m:Nat}
theorem pg {aS:FuncId→bR}(ha:aS 115=za)(sN:Iv cf m)(i0:Int)(j0:Int)(x0:List ai)(h:AHeap)(L:Mem)  (o:Has h (L)){out:Int}(H:dV.f m i0 j0 x0=some out) :
  ∃r h',a6 Tryz.prog aS cf m 115 [.i i0,.i j0,.fp [ah.fz x0] 0] h=some (r,h')∧eR h' r (.i out):=by
 refine aq (fn:=Tryz.f115) ha Tryz.func115 kr kr ?_
 refine aC (Q:=fun s=>dV.fin L out s) (fun _ _ h=>h) ?_
 have H:_=some out:=H
 unfold dV.f at H
 show cZ _ cf za m _ ⟨[.i i0,.i j0,.fp [ah.fz x0] 0,.any],[],h⟩ _
 refine q1 <| qq ?_
 obtain⟨v0,e0,H⟩:=aW H
 obtain⟨v1,e1,H⟩:=aW H
 obtain⟨x1,e2,H⟩:=aW H
 exact qr [.v 2 (eK (k:=.i64) (E:=ah) (l:=x0) tS e0),.v 3 (ke  (E:=ah) (l:=x0) h BM BN e0),.v 6 (eK (k:=.i64) (E:=ah) (l:=x0) tS e1),.v 7 (ke  (E:=ah) (l:=x0) h BM BN e1),.a 8 (sN _ _ _ e2 h _ fq)] <| qt <| fI H
end
end Go.Proofs.YtifafejidnjckaaGreat
