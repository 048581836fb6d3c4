/- Part of the proof: Q47, Q48, Q59, Q74, Q79, Q80, Q82, Q103, Q115, Q116, Q117, Q118, Q121, Q133, Q139, Q146, Q27. -/
import Derived.Test.YtifafejidnjckaaGreatK9
set_option linter.unusedVariables false
set_option linter.unusedSimpArgs false
set_option maxRecDepth 100000
open ByteArray renaming mk → ajg
open List renaming append_assoc → ai7, nil_append → ajj, cons_append → ajv
namespace Go.Proofs.YtifafejidnjckaaGreat
open Go Go.R
open Go.IntKind (i64 u64 u8 u32)
def JP:b4:=gL [0,1,2,6,7,8,9,10,13,23,32] [] [2040,1784,2023,1528,2023,1950,990,2023,1886,1919,2023] [] [(0,[(6,none,1)]),(2,[(6,none,1)]),(4,[(6,none,1)]),(7,[(6,none,1)])]
def fi.f (m:Nat)(s0:aj)(a0:Int)(b0:Int):Option ((List Int) × Int × aj):=(ca.f m s0).bind fun x0=>if (!x0)=true then (some (([]:List Int),6,s0)) else ((cU.f m s0 a0).bind fun x1=>if (!x1)=true then (some (([]:List Int),1,s0)) else ((cU.f m s0 b0).bind fun x2=>if (!x2)=true then (some (([]:List Int),1,s0)) else ((ax.f m s0 a0 b0).bind fun x3=>if (!x3.2)=true then (some (([]:List Int),8,s0)) else ((bB.f m s0 x3.1).bind fun x4=>some (x4,0,(aj.mk s0.ah x3.1 s0.aE))))))
def fi.fin (L:Mem)(au:Nat)(aH:Nat)(aq:Nat)(s0:aj)(a0:Int)(b0:Int)(r:(List Int) × Int × aj)(s:St):Prop:=∃cR aB aC:Nat,aK Tryz.prog (s.open JP) Tryz.f47.results.toList=some (.tup [.rs cR 0 r.1.length 1,.i r.2.1])∧Has s.h ((cR,.sl r.1.length 1 (ab.l r.1))::(au,.ob [.rs aB 0 r.2.2.ah.length 4,.rs aC 0 r.2.2.ao.length 1,.bool r.2.2.aE])::(aB,.sl r.2.2.ah.length 4 (af.l r.2.2.ah))::(aC,.sl r.2.2.ao.length 1 (ab.l r.2.2.ao))::L)
def S47 (cf:CallF)(m:Nat):Prop:=∀(s0:aj) (a0:Int) (b0:Int) (r:(List Int) × Int × aj),fi.f m s0 a0 b0=some r→∀h L (au:Nat) (aH:Nat) (aq:Nat),Has h ((au,.ob [.rs aH 0 s0.ah.length 4,.rs aq 0 s0.ao.length 1,.bool s0.aE])::(aH,.sl s0.ah.length 4 (af.l s0.ah))::(aq,.sl s0.ao.length 1 (ab.l s0.ao))::L)→∀xs,xs.map ba=[.ptr au 0,.i a0,.i b0]→∃cR aB aC h',cf 47 xs h=some (.tup [.rs cR 0 r.1.length 1,.i r.2.1],h')∧Has h' ((cR,.sl r.1.length 1 (ab.l r.1))::(au,.ob [.rs aB 0 r.2.2.ah.length 4,.rs aC 0 r.2.2.ao.length 1,.bool r.2.2.aE])::(aB,.sl r.2.2.ah.length 4 (af.l r.2.2.ah))::(aC,.sl r.2.2.ao.length 1 (ab.l r.2.2.ao))::L)
section
variable {cf:CallF}{m:Nat}
theorem qw {aW:FuncId→b4}(ha:aW 47=JP)(qh:N4 cf m)(uk:UC cf m)(U6:S90 cf m)(U7:S91 cf m)(s0:aj)(a0:Int)(b0:Int)(h:AHeap)(L:Mem)(au:Nat)(aH:Nat)(aq:Nat)  (o:Has h ((au,.ob [.rs aH 0 s0.ah.length 4,.rs aq 0 s0.ao.length 1,.bool s0.aE])::(aH,.sl s0.ah.length 4 (af.l s0.ah))::(aq,.sl s0.ao.length 1 (ab.l s0.ao))::L)){out:(List Int) × Int × aj}(H:fi.f m s0 a0 b0=some out) :
  ∃r h',bj Tryz.prog aW cf m 47 [.ptr au 0,.i a0,.i b0] h=some (r,h')∧∃cR aB aC:Nat,r = .tup [.rs cR 0 out.1.length 1,.i out.2.1]∧Has h' ((cR,.sl out.1.length 1 (ab.l out.1))::(au,.ob [.rs aB 0 out.2.2.ah.length 4,.rs aC 0 out.2.2.ao.length 1,.bool out.2.2.aE])::(aB,.sl out.2.2.ah.length 4 (af.l out.2.2.ah))::(aC,.sl out.2.2.ao.length 1 (ab.l out.2.2.ao))::L):=by
 refine aw (fn:=Tryz.f47) ha Tryz.func47 kr kr ?_
 refine aI (Q:=fun s=>fi.fin L au aH aq s0 a0 b0 out s) (fun _ _ ⟨h1,cR,aB,aC,h2,h3⟩=>⟨h1,_,h2,cR,aB,aC,rfl,h3⟩) ?_
 have H:_=some out:=H
 unfold fi.f at H
 show dE _ cf JP m _ ⟨.ptr au 0 :: .i a0 :: .i b0::tX [],[],h⟩ _
 refine q1 <| qq <| qq ?_
 obtain⟨x0,e0,H⟩:=aP H
 refine qr [.a 1 (qh _ _ e0 h _ (ia (ai (dM (q:=0) o rfl (ai (cC (E:=af) (l:=s0.ah) (q:=1) o rfl (fun _=>rfl)) (ai (cC (E:=ab) (l:=s0.ao) (q:=2) o rfl (fun _=>rfl)) (ai (eM) (aD))))) (aD))))] <| qc H (fun c0 H=>?_) (fun c0 H=>?_)
 ·refine q1 ?_
  have o0:Has h (((0),.sl (([]:List Int).length) 1 (ab.l ([]:List Int)))::(au,.ob [.rs aH 0 s0.ah.length 4,.rs aq 0 s0.ao.length 1,.bool s0.aE])::(aH,.sl s0.ah.length 4 (af.l s0.ah))::(aq,.sl s0.ao.length 1 (ab.l s0.ao))::L):=Has.nil o 1
  obtain rfl:=oi H
  exact qt <| ⟨.inl rfl,⟨(0),aH,aq,kr,he o0⟩⟩
 ·refine qk <| qq <| qq ?_
  obtain⟨x1,e1,H⟩:=aP H
  rcases eV H with⟨c1,H⟩| ⟨c1,H⟩
  ·refine qr [.a 2 (uk _ _ _ e1 h _ (ia (ai (dM (q:=0) o rfl (ai (cC (E:=af) (l:=s0.ah) (q:=1) o rfl (fun _=>rfl)) (ai (cC (E:=ab) (l:=s0.ao) (q:=2) o rfl (fun _=>rfl)) (ai (eM) (aD))))) (ai (aU) (aD))))),.b 4 c1] <| Bb <| qq <| q0 ?_
   have o1:Has h ((((0)),.sl (([]:List Int).length) 1 (ab.l ([]:List Int)))::(au,.ob [.rs aH 0 s0.ah.length 4,.rs aq 0 s0.ao.length 1,.bool s0.aE])::(aH,.sl s0.ah.length 4 (af.l s0.ah))::(aq,.sl s0.ao.length 1 (ab.l s0.ao))::L):=Has.nil o 1
   obtain rfl:=oi H
   exact qt <| ⟨.inl rfl,⟨((0)),aH,aq,kr,he o1⟩⟩
  ·obtain⟨x2,e2,H⟩:=aP H
   refine qr [.a 2 (uk _ _ _ e1 h _ (ia (ai (dM (q:=0) o rfl (ai (cC (E:=af) (l:=s0.ah) (q:=1) o rfl (fun _=>rfl)) (ai (cC (E:=ab) (l:=s0.ao) (q:=2) o rfl (fun _=>rfl)) (ai (eM) (aD))))) (ai (aU) (aD))))),.b 4 c1,.a 7 (uk _ _ _ e2 h _ (ia (ai (dM (q:=0) o rfl (ai (cC (E:=af) (l:=s0.ah) (q:=1) o rfl (fun _=>rfl)) (ai (cC (E:=ab) (l:=s0.ao) (q:=2) o rfl (fun _=>rfl)) (ai (eM) (aD))))) (ai (aU) (aD)))))] <| qc H (fun c3 H=>?_) (fun c3 H=>?_)
   ·refine q1 ?_
    have o2:Has h (((((0))),.sl (([]:List Int).length) 1 (ab.l ([]:List Int)))::(au,.ob [.rs aH 0 s0.ah.length 4,.rs aq 0 s0.ao.length 1,.bool s0.aE])::(aH,.sl s0.ah.length 4 (af.l s0.ah))::(aq,.sl s0.ao.length 1 (ab.l s0.ao))::L):=Has.nil o 1
    obtain rfl:=oi H
    exact qt <| ⟨.inl rfl,⟨(((0))),aH,aq,kr,he o2⟩⟩
   ·refine qk <| qq ?_
    obtain⟨x3,e3,H⟩:=aP H
    obtain⟨aX,h0,e4,o3,Lc⟩:=U6 _ _ _ _ e3 h _ _ o (ia (ai (dM (q:=0) o rfl (ai (cC (E:=af) (l:=s0.ah) (q:=1) o rfl (fun _=>rfl)) (ai (cC (E:=ab) (l:=s0.ao) (q:=2) o rfl (fun _=>rfl)) (ai (eM) (aD))))) (ai (aU) (ai (aU) (aD)))))
    refine qr [.a 3 e4] <| qq <| qq <| q0 <| qc H (fun c4 H=>?_) (fun c4 H=>?_)
    ·refine q1 ?_
     have o4:Has h0 ((((((0)))),.sl (([]:List Int).length) 1 (ab.l ([]:List Int)))::(aX,.sl x3.1.length 1 (ab.l x3.1))::(au,.ob [.rs aH 0 s0.ah.length 4,.rs aq 0 s0.ao.length 1,.bool s0.aE])::(aH,.sl s0.ah.length 4 (af.l s0.ah))::(aq,.sl s0.ao.length 1 (ab.l s0.ao))::L):=Has.nil o3 1
     have o5:Has h0 ((((((0)))),.sl (([]:List Int).length) 1 (ab.l ([]:List Int)))::(au,.ob [.rs aH 0 s0.ah.length 4,.rs aq 0 s0.ao.length 1,.bool s0.aE])::(aH,.sl s0.ah.length 4 (af.l s0.ah))::(aq,.sl s0.ao.length 1 (ab.l s0.ao))::L):=iC o4 1
     obtain rfl:=oi H
     exact qt <| ⟨.inl rfl,⟨((((0)))),aH,aq,kr,he o5⟩⟩
    ·refine qk <| qq ?_
     obtain⟨x4,e5,H⟩:=aP H
     obtain⟨b7,h1,e6,o6,SD⟩:=U7 _ _ _ e5 h0 _ _ o3 (ia (ai (dM (q:=1) o3 rfl (ai (cC (E:=af) (l:=s0.ah) (q:=2) o3 rfl (fun _=>rfl)) (ai (cC (E:=ab) (l:=s0.ao) (q:=3) o3 rfl (fun _=>rfl)) (ai (eM) (aD))))) (ai (cC (E:=ab) (l:=x3.1) (q:=0) o3 rfl (fun _=>rfl)) (aD))))
     refine qr [.a 2 e6] <| qq ?_
     obtain⟨h2,e7,o7⟩:=mV (P:=Tryz.prog) (t:=22) (off:=1) (q:=2) (cs:=[.rs aH 0 s0.ah.length 4,.rs aq 0 s0.ao.length 1,.bool s0.aE]) (iO:=[.rs aH 0 s0.ah.length 4,.rs aX 0 x3.1.length 1,.bool s0.aE]) (x:=.rs aX 0 x3.1.length 1) o6 rfl kr
     refine qr [.w 4 e7] ?_
     have o8:Has h2 ((b7,.sl x4.length 1 (ab.l x4))::(aX,.sl x3.1.length 1 (ab.l x3.1))::(au,.ob [.rs aH 0 s0.ah.length 4,.rs aX 0 x3.1.length 1,.bool s0.aE])::(aH,.sl s0.ah.length 4 (af.l s0.ah))::L):=iC o7 4
     obtain rfl:=oi H
     exact q1 <| qt <| ⟨.inl rfl,⟨b7,aH,aX,kr,he (bI (bI (bI (bI o8 1) 3) 3) 3)⟩⟩
end
def JQ:b4:=gL [0,1,2,6,7,8,9,10,11,14,24,33,39] [] [8184,7672,8135,7160,8135,7998,6078,8135,7935,3839,8135,8135] [] []
def fR.f (m:Nat)(s0:aj)(a0:Int)(b0:Int):Option (Int × (List Int) × Int):=(ca.f m s0).bind fun x0=>if (!x0)=true then (some (0,[],6)) else ((cU.f m s0 a0).bind fun x1=>if (!x1)=true then (some (0,[],1)) else ((cU.f m s0 b0).bind fun x2=>if (!x2)=true then (some (0,[],1)) else ((ax.f m s0 a0 b0).bind fun x3=>if (!x3.2)=true then (some (0,[],0)) else ((bB.f m s0 x3.1).bind fun x4=>if (decide ((x4.length:Int) > 0))=true then (some ((-1:Int),x4,0)) else (some (1,[],0))))))
def fR.fin (L:Mem)(r:Int × (List Int) × Int)(s:St):Prop:=∃av,aK Tryz.prog (s.open JQ) Tryz.f48.results.toList=some av∧eX s.h av (.tup [.i r.1,ab.fz r.2.1,.i r.2.2])
def S48 (cf:CallF)(m:Nat):Prop:=∀(s0:aj) (a0:Int) (b0:Int) (r:Int × (List Int) × Int),fR.f m s0 a0 b0=some r→∀h xs,bl cd h xs [.fp [af.fz s0.ah,ab.fz s0.ao,.bool s0.aE] 0,.i a0,.i b0]→cf 48 xs h=some (.tup [.i r.1,ab.fz r.2.1,.i r.2.2],h)
section
variable {cf:CallF}{m:Nat}
theorem rm {aW:FuncId→b4}(ha:aW 48=JQ)(qh:N4 cf m)(uk:UC cf m)(U6:S90 cf m)(U7:S91 cf m)(s0:aj)(a0:Int)(b0:Int)(h:AHeap)(L:Mem)  (o:Has h (L)){out:Int × (List Int) × Int}(H:fR.f m s0 a0 b0=some out) :
  ∃r h',bj Tryz.prog aW cf m 48 [.fp [af.fz s0.ah,ab.fz s0.ao,.bool s0.aE] 0,.i a0,.i b0] h=some (r,h')∧eX h' r (.tup [.i out.1,ab.fz out.2.1,.i out.2.2]):=by
 refine aw (fn:=Tryz.f48) ha Tryz.func48 kr kr ?_
 refine aI (Q:=fun s=>fR.fin L out s) (fun _ _ h=>h) ?_
 have H:_=some out:=H
 unfold fR.f at H
 show dE _ cf JQ m _ ⟨.fp [af.fz s0.ah,ab.fz s0.ao,.bool s0.aE] 0 :: .i a0 :: .i b0::wG [],[],h⟩ _
 refine q1 <| qq <| qq ?_
 obtain⟨x0,e0,H⟩:=aP H
 refine qr [.a 1 (qh _ _ e0 h _ (ia (ai (cV (pure_cons (bM.aJ (E:=af) (l:=s0.ah)) (pure_cons (bM.aJ (E:=ab) (l:=s0.ao)) (pure_cons (bc) (pure_nil))))) (aD))))] <| qc H (fun c0 H=>?_) (fun c0 H=>?_)
 ·obtain rfl:=oi H
  exact q1 <| qt <| ⟨.inl rfl,pX (.tup [.i 0,.nils,.i 6]) h (oR (kN (de (fw) (de (ot) (de (fw) (kM))))))⟩
 ·refine qk <| qq <| qq ?_
  obtain⟨x1,e1,H⟩:=aP H
  rcases eV H with⟨c1,H⟩| ⟨c1,H⟩
  ·obtain rfl:=oi H
   exact qr [.a 2 (uk _ _ _ e1 h _ (ia (ai (cV (pure_cons (bM.aJ (E:=af) (l:=s0.ah)) (pure_cons (bM.aJ (E:=ab) (l:=s0.ao)) (pure_cons (bc) (pure_nil))))) (ai (aU) (aD))))),.b 4 c1] <| Bb <| qq <| q0 <| qt <| ⟨.inl rfl,pX (.tup [.i 0,.nils,.i 1]) h (oR (kN (de (fw) (de (ot) (de (fw) (kM))))))⟩
  ·obtain⟨x2,e2,H⟩:=aP H
   refine qr [.a 2 (uk _ _ _ e1 h _ (ia (ai (cV (pure_cons (bM.aJ (E:=af) (l:=s0.ah)) (pure_cons (bM.aJ (E:=ab) (l:=s0.ao)) (pure_cons (bc) (pure_nil))))) (ai (aU) (aD))))),.b 4 c1,.a 7 (uk _ _ _ e2 h _ (ia (ai (cV (pure_cons (bM.aJ (E:=af) (l:=s0.ah)) (pure_cons (bM.aJ (E:=ab) (l:=s0.ao)) (pure_cons (bc) (pure_nil))))) (ai (aU) (aD)))))] <| qc H (fun c3 H=>?_) (fun c3 H=>?_)
   ·obtain rfl:=oi H
    exact q1 <| qt <| ⟨.inl rfl,pX (.tup [.i 0,.nils,.i 1]) h (oR (kN (de (fw) (de (ot) (de (fw) (kM))))))⟩
   ·refine qk <| qq ?_
    obtain⟨x3,e3,H⟩:=aP H
    obtain⟨aX,h0,e4,o0,Lc⟩:=U6 _ _ _ _ e3 h _ _ o (ia (ai (cV (pure_cons (bM.aJ (E:=af) (l:=s0.ah)) (pure_cons (bM.aJ (E:=ab) (l:=s0.ao)) (pure_cons (bc) (pure_nil))))) (ai (aU) (ai (aU) (aD)))))
    refine qr [.a 3 e4] <| qq <| qq <| q0 <| qc H (fun c4 H=>?_) (fun c4 H=>?_)
    ·refine q1 ?_
     obtain rfl:=oi H
     exact qt <| ⟨.inl rfl,pX (.tup [.i 0,.nils,.i 0]) h0 (oR (kN (de (fw) (de (ot) (de (fw) (kM))))))⟩
    ·refine qk <| qq ?_
     obtain⟨x4,e5,H⟩:=aP H
     obtain⟨b7,h1,e6,o2,SD⟩:=U7 _ _ _ e5 h0 _ _ o0 (ia (ai (cV (pure_cons (bM.aJ (E:=af) (l:=s0.ah)) (pure_cons (bM.aJ (E:=ab) (l:=s0.ao)) (pure_cons (bc) (pure_nil))))) (ai (cC (E:=ab) (l:=x3.1) (q:=0) o0 rfl (fun _=>rfl)) (aD))))
     refine qr [.a 2 e6] ?_
     have o3:Has h1 ((b7,.sl x4.length 1 (ab.l x4))::L):=iC o2 1
     refine qq <| qq <| q0 <| qc H (fun c5 H=>?_) (fun c5 H=>?_)
     ·obtain rfl:=oi H
      exact q1 <| qt <| ⟨.inl rfl,pX (.tup [.i (-1:Int),.rs b7 0 x4.length 1,.i 0]) h1 (oR (kN (de (fw) (de (zI (E:=ab) (l:=x4) (q:=0) o3 rfl (fun _=>rfl)) (de (fw) (kM))))))⟩
     ·refine qk <| qq <| q0 ?_
      obtain rfl:=oi H
      exact qt <| ⟨.inl rfl,pX (.tup [.i 1,.nils,.i 0]) h1 (oR (kN (de (fw) (de (ot) (de (fw) (kM))))))⟩
end
def JR:b4:=gL [0,1,2,4,5,9] [] [57,41,55,31,55,55] [] []
def cQ.f (m:Nat)(s0:ae)(l0:List Int):Option (Int):=(cH.f m s0).bind fun x0=>if (!x0)=true then (some 6) else ((il.f m l0 (fun y0=>eZ.f m y0 s0)).bind fun x1=>if x1=true then (some 1) else (some 0))
def cQ.fin (L:Mem)(r:Int)(s:St):Prop:=∃av,aK Tryz.prog (s.open JR) Tryz.f59.results.toList=some av∧eX s.h av (.i r)
def U8 (cf:CallF)(m:Nat):Prop:=∀(s0:ae) (l0:List Int) (r:Int),cQ.f m s0 l0=some r→∀h xs,bl cd h xs [.fp [.bool s0.ay,af.fz s0.aa,ab.fz s0.an] 0,ab.fz l0]→cf 59 xs h=some (.i r,h)
section
variable {cf:CallF}{m:Nat}
theorem qy {aW:FuncId→b4}(ha:aW 59=JR)(Dx:V9 cf m)(On:Zg cf m)(aaX:S95 cf m)(s0:ae)(l0:List Int)(h:AHeap)(L:Mem)  (o:Has h (L)){out:Int}(H:cQ.f m s0 l0=some out) :
  ∃r h',bj Tryz.prog aW cf m 59 [.fp [.bool s0.ay,af.fz s0.aa,ab.fz s0.an] 0,ab.fz l0] h=some (r,h')∧eX h' r (.i out):=by
 refine aw (fn:=Tryz.f59) ha Tryz.func59 kr kr ?_
 refine aI (Q:=fun s=>cQ.fin L out s) (fun _ _ h=>h) ?_
 have H:_=some out:=H
 unfold cQ.f at H
 show dE _ cf JR m _ ⟨.fp [.bool s0.ay,af.fz s0.aa,ab.fz s0.an] 0::ab.fz l0::l9 [],[],h⟩ _
 refine qq ?_
 obtain⟨aX,h0,e0,o0⟩:=ja (cs:=[.fp [.bool s0.ay,af.fz s0.aa,ab.fz s0.an] 0]) o kr
 refine qr [.a 0 e0] <| qq <| qb 0 <| qq ?_
 obtain⟨x0,e1,H⟩:=aP H
 refine qr [.v 0 (show bR Tryz.prog h0 31 (.ptr aX 0)=some (.fp [.bool s0.ay,af.fz s0.aa,ab.fz s0.an] 0) from cJ (q:=0) (cs:=[.fp [.bool s0.ay,af.fz s0.aa,ab.fz s0.an] 0]) o0 rfl kr),.a 1 (Dx _ _ e1 h0 _ (ia (ai (cV (pure_cons (bc) (pure_cons (bM.aJ (E:=af) (l:=s0.aa)) (pure_cons (bM.aJ (E:=ab) (l:=s0.an)) (pure_nil))))) (aD))))] <| qc H (fun c0 H=>?_) (fun c0 H=>?_)
 ·refine q1 ?_
  exact qt <| fI H
 ·refine qq ?_
  obtain⟨x1,e2,H⟩:=aP H
  refine qr [.a 2 (On _ _ _ e2 95 [.fp [.fp [.bool s0.ay,af.fz s0.aa,ab.fz s0.an] 0] 0] (fun h' Ak y0 r hr hx=>aaX y0 _ r hr h' Ak hx) (fun h_=>lC (ai (cV (pure_cons (nh (pure_cons (bc) (pure_cons (bM.aJ (E:=af) (l:=s0.aa)) (pure_cons (bM.aJ (E:=ab) (l:=s0.an)) (pure_nil))))) (pure_nil))) (aD))) h0 _ (ia (ai (iu (E:=ab)) (ai (zW (ai (dM (q:=0) o0 rfl (ai (cV (pure_cons (bc) (pure_cons (bM.aJ (E:=af) (l:=s0.aa)) (pure_cons (bM.aJ (E:=ab) (l:=s0.an)) (pure_nil))))) (aD))) (aD))) (aD)))))] ?_
  refine qc H (fun c1 H=>?_) (fun c1 H=>?_)
  ·exact q1 <| qt <| fI H
  ·exact qk <| qq <| q0 <| qt <| fI H
end
def JS:b4:=gL [0,2] [] [2,1] [] []
def jA.f (m:Nat)(s0:ByteArray):Option (Bool):=if (s0.data.toList==(ajg #[124]).data.toList)=true then (some true) else (if (s0.data.toList==(ajg #[35]).data.toList)=true then (some true) else ((eU.f m s0 97 122).bind fun x0=>some x0))
def jA.fin (L:Mem)(r:Bool)(s:St):Prop:=∃av,aK Tryz.prog (s.open JS) Tryz.f74.results.toList=some av∧eX s.h av (.bool r)
def Zi (cf:CallF)(m:Nat):Prop:=∀(s0:ByteArray) (r:Bool),jA.f m s0=some r→∀h xs,bl cd h xs [.str s0]→cf 74 xs h=some (.bool r,h)
section
variable {cf:CallF}{m:Nat}
theorem Av {aW:FuncId→b4}(ha:aW 74=JS)(XS:XN cf m)(s0:ByteArray)(h:AHeap)(L:Mem)  (o:Has h (L)){out:Bool}(H:jA.f m s0=some out) :
  ∃r h',bj Tryz.prog aW cf m 74 [.str s0] h=some (r,h')∧eX h' r (.bool out):=by
 refine aw (fn:=Tryz.f74) ha Tryz.func74 kr kr ?_
 refine aI (Q:=fun s=>jA.fin L out s) (fun _ _ h=>h) ?_
 have H:_=some out:=H
 unfold jA.f at H
 show dE _ cf JS m _ ⟨[.str s0,.any],[],h⟩ _
 refine q1 <| qq ?_
 rcases eV H with⟨c0,H⟩| ⟨c0,H⟩
 ·exact qr [.b 2 c0] <| qt <| fB H
 ·rcases eV H with⟨c1,H⟩| ⟨c1,H⟩
  ·exact qr [.b 2 c0,.b 6 c1] <| qt <| fB H
  ·obtain⟨x0,e0,H⟩:=aP H
   exact qr [.b 2 c0,.b 6 c1,.a 8 (XS _ _ _ _ e0 h _ fq)] <| qt <| fB H
end
def JT:b4:=gL [0,1,2,3,4,6,7,23,44,60,89] [2] [2035,2003,1939,2031,1875,2031,1747,2031,1491,2031,1019,2031,2031] [] []
def lD.f (m:Nat)(n0:ak)(qR:Int):Option (Bool):=if (n0.kind==0)=true then (if (decide (n0.int≥0))=true then (if (n0.label.data.toList==(ajg #[]).data.toList)=true then (some ((n0.args.length:Int)==0)) else (some false)) else (some false)) else (if (n0.kind==1)=true then (if (decide (n0.int≥(-1099511627776:Int)))=true then (if (decide (n0.int≤1099511627776))=true then (if (n0.label.data.toList==(ajg #[]).data.toList)=true then (some ((n0.args.length:Int)==0)) else (some false)) else (some false)) else (some false)) else (if (n0.kind==2)=true then (if (n0.int==0)=true then ((jA.f m n0.label).bind fun x0=>if x0=true then (some ((n0.args.length:Int)==0)) else (some false)) else (some false)) else (if (n0.kind==3)=true then (if (n0.int==0)=true then ((jA.f m n0.label).bind fun x1=>if x1=true then (if (decide ((n0.args.length:Int)≥1))=true then (if (decide ((n0.args.length:Int)≤8))=true then ((il.f m n0.args (fun y0=>kq.f m y0 qR)).bind fun x2=>some (!x2)) else (some false)) else (some false)) else (some false)) else (some false)) else (if (n0.kind==4)=true then (if (decide (n0.int≥0))=true then ((jS.f m n0.label).bind fun x3=>if x3=true then (some ((n0.args.length:Int)==0)) else (some false)) else (some false)) else (some false)))))
def lD.fin (L:Mem)(r:Bool)(s:St):Prop:=∃av,aK Tryz.prog (s.open JT) Tryz.f79.results.toList=some av∧eX s.h av (.bool r)
def S79 (cf:CallF)(m:Nat):Prop:=∀(n0:ak) (qR:Int) (r:Bool),lD.f m n0 qR=some r→∀h xs,bl cd h xs [.agg [.i n0.kind,.i n0.int,.str n0.label,ab.fz n0.args],.i qR]→cf 79 xs h=some (.bool r,h)
section
variable {cf:CallF}{m:Nat}
theorem Aw {aW:FuncId→b4}(ha:aW 79=JT)(wZ:Zi cf m)(On:Zg cf m)(Of:S87 cf m)(XT:Xz cf m)(n0:ak)(qR:Int)(h:AHeap)(L:Mem)  (o:Has h (L)){out:Bool}(H:lD.f m n0 qR=some out) :
  ∃r h',bj Tryz.prog aW cf m 79 [.agg [.i n0.kind,.i n0.int,.str n0.label,ab.fz n0.args],.i qR] h=some (r,h')∧eX h' r (.bool out):=by
 refine aw (fn:=Tryz.f79) ha Tryz.func79 kr kr ?_
 refine aI (Q:=fun s=>lD.fin L out s) (fun _ _ h=>h) ?_
 have H:_=some out:=H
 unfold lD.f at H
 show dE _ cf JT m _ ⟨.agg [.i n0.kind,.i n0.int,.str n0.label,ab.fz n0.args] :: .i qR::NJ [],[none],h⟩ _
 refine qq ?_
 obtain⟨aX,h0,e0,o0⟩:=ja (cs:=[.i qR]) o kr
 refine qr [.a 1 e0] <| qq <| qq <| q0 <| qb 0 <| qq <| q0 <| qc H (fun c0 H=>?_) (fun c0 H=>?_)
 ·refine qq ?_
  rcases eV H with⟨c1,H⟩| ⟨c1,H⟩
  ·rcases eV H with⟨c2,H⟩| ⟨c2,H⟩
   ·refine qr [.b 3 c1,.b 8 c2] ?_
    exact qt <| fB H
   ·refine qr [.b 3 c1,.b 8 c2] ?_
    exact qt <| fB H
  ·refine qr [.b 3 c1] ?_
   exact qt <| fB H
 ·refine q1 <| qc H (fun c3 H=>?_) (fun c3 H=>?_)
  ·refine qq ?_
   rcases eV H with⟨c4,H⟩| ⟨c4,H⟩
   ·rcases eV H with⟨c5,H⟩| ⟨c5,H⟩
    ·rcases eV H with⟨c6,H⟩| ⟨c6,H⟩
     ·refine qr [.b 3 c4,.b 8 c5,.b 13 c6] ?_
      exact qt <| fB H
     ·refine qr [.b 3 c4,.b 8 c5,.b 13 c6] ?_
      exact qt <| fB H
    ·refine qr [.b 3 c4,.b 8 c5] ?_
     exact qt <| fB H
   ·refine qr [.b 3 c4] ?_
    exact qt <| fB H
  ·refine q1 <| qc H (fun c7 H=>?_) (fun c7 H=>?_)
   ·refine qq ?_
    rcases eV H with⟨c8,H⟩| ⟨c8,H⟩
    ·obtain⟨x0,e1,H⟩:=aP H
     rcases eV H with⟨c9,H⟩| ⟨c9,H⟩
     ·refine qr [.b 3 c8,.a 6 (wZ _ _ e1 h0 _ fq),.b 8 c9] ?_
      exact qt <| fB H
     ·refine qr [.b 3 c8,.a 6 (wZ _ _ e1 h0 _ fq),.b 8 c9] ?_
      exact qt <| fB H
    ·refine qr [.b 3 c8] ?_
     exact qt <| fB H
   ·refine q1 <| qc H (fun Ag H=>?_) (fun Ag H=>?_)
    ·refine qq ?_
     rcases eV H with⟨sd,H⟩| ⟨sd,H⟩
     ·obtain⟨x1,e2,H⟩:=aP H
      rcases eV H with⟨yk,H⟩| ⟨yk,H⟩
      ·rcases eV H with⟨uh,H⟩| ⟨uh,H⟩
       ·rcases eV H with⟨yl,H⟩| ⟨yl,H⟩
        ·obtain⟨x2,e3,H⟩:=aP H
         refine qr [.b 3 sd,.a 6 (wZ _ _ e2 h0 _ fq),.b 8 yk,.b 14 uh,.b 20 yl,.a 24 (On _ _ _ e3 110 [.fp [.i qR] 0] (fun h' Ak y0 r hr hx=>XT y0 _ r hr h' Ak hx) (fun h_=>lC (ai (cV (pure_cons (jg) (pure_nil))) (aD))) h0 _ (ia (ai (iu (E:=ab)) (ai (zW (ai (dM (q:=0) o0 rfl (ai (aU) (aD))) (aD))) (aD)))))] ?_
         exact qt <| fB H
        ·refine qr [.b 3 sd,.a 6 (wZ _ _ e2 h0 _ fq),.b 8 yk,.b 14 uh,.b 20 yl] ?_
         exact qt <| fB H
       ·refine qr [.b 3 sd,.a 6 (wZ _ _ e2 h0 _ fq),.b 8 yk,.b 14 uh] ?_
        exact qt <| fB H
      ·refine qr [.b 3 sd,.a 6 (wZ _ _ e2 h0 _ fq),.b 8 yk] ?_
       exact qt <| fB H
     ·refine qr [.b 3 sd] ?_
      exact qt <| fB H
    ·refine q1 ?_
     refine qc H (fun FK H=>?_) (fun FK H=>?_)
     ·refine qq ?_
      rcases eV H with⟨Ev,H⟩| ⟨Ev,H⟩
      ·obtain⟨x3,e4,H⟩:=aP H
       rcases eV H with⟨DR,H⟩| ⟨DR,H⟩
       ·exact qr [.b 3 Ev,.a 6 (Of _ _ e4 h0 _ fq),.b 8 DR] <| qt <| fB H
       ·exact qr [.b 3 Ev,.a 6 (Of _ _ e4 h0 _ fq),.b 8 DR] <| qt <| fB H
      ·exact qr [.b 3 Ev] <| qt <| fB H
     ·exact qk <| qq <| q0 <| qt <| fB H
end
def JU:b4:=gL [0,2] [] [2,1] [] []
def iE.f (m:Nat)(s0:ByteArray):Option (Bool):=if (s0.data.toList==(ajg #[124]).data.toList)=true then (some true) else (if (s0.data.toList==(ajg #[35]).data.toList)=true then (some true) else ((dO.f m s0).bind fun x0=>if x0=true then ((bt s0 0).bind fun v0=>if (decide (v0≥97))=true then ((bt s0 0).bind fun v1=>some (decide (v1≤122))) else (some false)) else (some false)))
def iE.fin (L:Mem)(r:Bool)(s:St):Prop:=∃av,aK Tryz.prog (s.open JU) Tryz.f80.results.toList=some av∧eX s.h av (.bool r)
def S80 (cf:CallF)(m:Nat):Prop:=∀(s0:ByteArray) (r:Bool),iE.f m s0=some r→∀h xs,bl cd h xs [.str s0]→cf 80 xs h=some (.bool r,h)
section
variable {cf:CallF}{m:Nat}
theorem vB {aW:FuncId→b4}(ha:aW 80=JU)(Oo:XO cf m)(s0:ByteArray)(h:AHeap)(L:Mem)  (o:Has h (L)){out:Bool}(H:iE.f m s0=some out) :
  ∃r h',bj Tryz.prog aW cf m 80 [.str s0] h=some (r,h')∧eX h' r (.bool out):=by
 refine aw (fn:=Tryz.f80) ha Tryz.func80 kr kr ?_
 refine aI (Q:=fun s=>iE.fin L out s) (fun _ _ h=>h) ?_
 have H:_=some out:=H
 unfold iE.f at H
 show dE _ cf JU m _ ⟨[.str s0,.any],[],h⟩ _
 refine q1 <| qq ?_
 rcases eV H with⟨c0,H⟩| ⟨c0,H⟩
 ·exact qr [.b 2 c0] <| qt <| fB H
 ·rcases eV H with⟨c1,H⟩| ⟨c1,H⟩
  ·exact qr [.b 2 c0,.b 6 c1] <| qt <| fB H
  ·obtain⟨x0,e0,H⟩:=aP H
   rcases eV H with⟨c2,H⟩| ⟨c2,H⟩
   ·obtain⟨v0,e1,H⟩:=aP H
    rcases eV H with⟨c3,H⟩| ⟨c3,H⟩
    ·obtain⟨v1,e2,H⟩:=aP H
     exact qr [.b 2 c0,.b 6 c1,.a 8 (Oo _ _ e0 h _ fq),.b 9 c2,.v 11 (rX (k:=.i64) U9 e1),.b 14 c3,.v 16 (rX (k:=.i64) U9 e2)] <| qt <| fB H
    ·exact qr [.b 2 c0,.b 6 c1,.a 8 (Oo _ _ e0 h _ fq),.b 9 c2,.v 11 (rX (k:=.i64) U9 e1),.b 14 c3] <| qt <| fB H
   ·exact qr [.b 2 c0,.b 6 c1,.a 8 (Oo _ _ e0 h _ fq),.b 9 c2] <| qt <| fB H
end
def JV:b4:=gL [0,1,2,3] [] [8,7] [] []
def en.f (m:Nat)(x0:ByteArray)(x1:List Int)(x2:ae):Option (Bool):=(jA.f m x0).bind fun x3=>if x3=true then (if (decide ((x1.length:Int)≥1))=true then (if (decide ((x1.length:Int)≤8))=true then ((il.f m x1 (fun y0=>eA.f m y0 x2)).bind fun x4=>some (!x4)) else (some false)) else (some false)) else (some false)
def en.fin (L:Mem)(r:Bool)(s:St):Prop:=∃av,aK Tryz.prog (s.open JV) Tryz.f82.results.toList=some av∧eX s.h av (.bool r)
def S82 (cf:CallF)(m:Nat):Prop:=∀(x0:ByteArray) (x1:List Int) (x2:ae) (r:Bool),en.f m x0 x1 x2=some r→∀h xs,bl cd h xs [.fp [.str x0] 0,.fp [ab.fz x1] 0,.fp [.fp [.bool x2.ay,af.fz x2.aa,ab.fz x2.an] 0] 0]→cf 82 xs h=some (.bool r,h)
section
variable {cf:CallF}{m:Nat}
theorem oO {aW:FuncId→b4}(ha:aW 82=JV)(wZ:Zi cf m)(On:Zg cf m)(aaY:S84 cf m)(x0:ByteArray)(x1:List Int)(x2:ae)(h:AHeap)(L:Mem)  (o:Has h (L)){out:Bool}(H:en.f m x0 x1 x2=some out) :
  ∃r h',bj Tryz.prog aW cf m 82 [.fp [.str x0] 0,.fp [ab.fz x1] 0,.fp [.fp [.bool x2.ay,af.fz x2.aa,ab.fz x2.an] 0] 0] h=some (r,h')∧eX h' r (.bool out):=by
 refine aw (fn:=Tryz.f82) ha Tryz.func82 kr kr ?_
 refine aI (Q:=fun s=>en.fin L out s) (fun _ _ h=>h) ?_
 have H:_=some out:=H
 unfold en.f at H
 show dE _ cf JV m _ ⟨[.fp [.str x0] 0,.fp [ab.fz x1] 0,.fp [.fp [.bool x2.ay,af.fz x2.aa,ab.fz x2.an] 0] 0,.any],[],h⟩ _
 refine q1 <| qq ?_
 obtain⟨x3,e0,H⟩:=aP H
 rcases eV H with⟨c0,H⟩| ⟨c0,H⟩
 ·rcases eV H with⟨c1,H⟩| ⟨c1,H⟩
  ·rcases eV H with⟨c2,H⟩| ⟨c2,H⟩
   ·obtain⟨x4,e1,H⟩:=aP H
    exact qr [.a 1 (wZ _ _ e0 h _ fq),.b 2 c0,.b 7 c1,.b 12 c2,.a 15 (On _ _ _ e1 84 [.fp [.fp [.bool x2.ay,af.fz x2.aa,ab.fz x2.an] 0] 0] (fun h' Ak y0 r hr hx=>aaY y0 _ r hr h' Ak hx) (fun h_=>lC (ai (cV (pure_cons (nh (pure_cons (bc) (pure_cons (bM.aJ (E:=af) (l:=x2.aa)) (pure_cons (bM.aJ (E:=ab) (l:=x2.an)) (pure_nil))))) (pure_nil))) (aD))) h _ (ia (ai (iu (E:=ab)) (ai (zW (ai (cV (pure_cons (nh (pure_cons (bc) (pure_cons (bM.aJ (E:=af) (l:=x2.aa)) (pure_cons (bM.aJ (E:=ab) (l:=x2.an)) (pure_nil))))) (pure_nil))) (aD))) (aD)))))] <| qt <| fB H
   ·exact qr [.a 1 (wZ _ _ e0 h _ fq),.b 2 c0,.b 7 c1,.b 12 c2] <| qt <| fB H
  ·exact qr [.a 1 (wZ _ _ e0 h _ fq),.b 2 c0,.b 7 c1] <| qt <| fB H
 ·exact qr [.a 1 (wZ _ _ e0 h _ fq),.b 2 c0] <| qt <| fB H
end
def DW:b4:=gL [0,1,2,3,4,5,16] [2,3] [115,83,111,51,111,111] [] []
def fF.f (m:Nat)(a0:ak)(b0:ak):Option (Int):=if (!(a0.kind==b0.kind))=true then ((eS.f m a0.kind b0.kind).bind fun x0=>some x0) else (if (a0.kind==3)=true then ((eS.f m (a0.args.length:Int) (b0.args.length:Int)).bind fun x1=>(dP.f m a0.label b0.label).bind fun x2=>(dH.f m ([x1,x2])).bind fun x3=>some x3) else ((dP.f m a0.label b0.label).bind fun x4=>(eS.f m a0.int b0.int).bind fun x5=>(dH.f m ([x4,x5])).bind fun x6=>some x6))
def fF.fin (L:Mem)(r:Int)(s:St):Prop:=∃av,aK Tryz.prog (s.open DW) Tryz.f103.results.toList=some av∧eX s.h av (.i r)
def RB (cf:CallF)(m:Nat):Prop:=∀(a0:ak) (b0:ak) (r:Int),fF.f m a0 b0=some r→∀h xs,bl cd h xs [.agg [.i a0.kind,.i a0.int,.str a0.label,ab.fz a0.args],.agg [.i b0.kind,.i b0.int,.str b0.label,ab.fz b0.args]]→cf 103 xs h=some (.i r,h)
section
variable {cf:CallF}{m:Nat}
theorem sr {aW:FuncId→b4}(ha:aW 103=DW)(Oq:XP cf m)(Tf:XA cf m)(Tg:XQ cf m)(a0:ak)(b0:ak)(h:AHeap)(L:Mem)  (o:Has h (L)){out:Int}(H:fF.f m a0 b0=some out) :
  ∃r h',bj Tryz.prog aW cf m 103 [.agg [.i a0.kind,.i a0.int,.str a0.label,ab.fz a0.args],.agg [.i b0.kind,.i b0.int,.str b0.label,ab.fz b0.args]] h=some (r,h')∧eX h' r (.i out):=by
 refine aw (fn:=Tryz.f103) ha Tryz.func103 kr kr ?_
 refine aI (Q:=fun s=>fF.fin L out s) (fun _ _ h=>h) ?_
 have H:_=some out:=H
 unfold fF.f at H
 show dE _ cf DW m _ ⟨.agg [.i a0.kind,.i a0.int,.str a0.label,ab.fz a0.args] :: .agg [.i b0.kind,.i b0.int,.str b0.label,ab.fz b0.args]::sO [],[none,none],h⟩ _
 refine q1 <| qq <| qb 0 <| qq <| q0 <| qc H (fun c0 H=>?_) (fun c0 H=>?_)
 ·refine qq ?_
  obtain⟨x0,e0,H⟩:=aP H
  exact qr [.a 4 (Oq _ _ _ e0 h _ fq)] <| qt <| fI H
 ·refine q1 <| qc H (fun c1 H=>?_) (fun c1 H=>?_)
  ·refine qq ?_
   obtain⟨x1,e1,H⟩:=aP H
   obtain⟨x2,e2,H⟩:=aP H
   obtain⟨x3,e3,H⟩:=aP H
   exact qr [.a 6 (Oq _ _ _ e1 h _ fq),.a 11 (Tg _ _ _ e2 h _ fq),.a 13 (Tf _ _ e3 h _ (ia (ai (rW (E:=ab) (l:=[x1,x2]) (cs:=[.i x1,.i x2]) (b:=true) kr kr rfl) (aD))))] <| qt <| fI H
  ·refine qk <| qq ?_
   obtain⟨x4,e4,H⟩:=aP H
   obtain⟨x5,e5,H⟩:=aP H
   obtain⟨x6,e6,H⟩:=aP H
   exact qr [.a 4 (Tg _ _ _ e4 h _ fq),.a 9 (Oq _ _ _ e5 h _ fq),.a 11 (Tf _ _ e6 h _ (ia (ai (rW (E:=ab) (l:=[x4,x5]) (cs:=[.i x4,.i x5]) (b:=true) kr kr rfl) (aD))))] <| qt <| fI H
end
def DX:b4:=gL [0,1,2,5] [] [8,7] [] []
def gh.f (m:Nat)(i0:Int)(j0:Int)(x0:List ak):Option (Int):=(ix x0 i0).bind fun v0=>(ix x0 j0).bind fun v1=>(fF.f m v0 v1).bind fun x1=>some x1
def gh.fin (L:Mem)(r:Int)(s:St):Prop:=∃av,aK Tryz.prog (s.open DX) Tryz.f115.results.toList=some av∧eX s.h av (.i r)
def XU (cf:CallF)(m:Nat):Prop:=∀(i0:Int) (j0:Int) (x0:List ak) (r:Int),gh.f m i0 j0 x0=some r→∀h xs,bl cd h xs [.i i0,.i j0,.fp [af.fz x0] 0]→cf 115 xs h=some (.i r,h)
section
variable {cf:CallF}{m:Nat}
theorem tg {aW:FuncId→b4}(ha:aW 115=DX)(FN:RB cf m)(i0:Int)(j0:Int)(x0:List ak)(h:AHeap)(L:Mem)  (o:Has h (L)){out:Int}(H:gh.f m i0 j0 x0=some out) :
  ∃r h',bj Tryz.prog aW cf m 115 [.i i0,.i j0,.fp [af.fz x0] 0] h=some (r,h')∧eX h' r (.i out):=by
 refine aw (fn:=Tryz.f115) ha Tryz.func115 kr kr ?_
 refine aI (Q:=fun s=>gh.fin L out s) (fun _ _ h=>h) ?_
 have H:_=some out:=H
 unfold gh.f at H
 show dE _ cf DX m _ ⟨[.i i0,.i j0,.fp [af.fz x0] 0,.any],[],h⟩ _
 refine q1 <| qq ?_
 obtain⟨v0,e0,H⟩:=aP H
 obtain⟨v1,e1,H⟩:=aP H
 obtain⟨x1,e2,H⟩:=aP H
 exact qr [.v 2 (bN (k:=.i64) (E:=af) (l:=x0) lJ e0),.v 3 (fZ  (E:=af) (l:=x0) h tE tF e0),.v 6 (bN (k:=.i64) (E:=af) (l:=x0) lJ e1),.v 7 (fZ  (E:=af) (l:=x0) h tE tF e1),.a 8 (FN _ _ _ e2 h _ fq)] <| qt <| fI H
end
def nM:b4:=gL [0,2,3,4,5,6,7,8,9,10,11,12,13,14,15,22,27,42,56,67,73,95,109,120,127,148,177] [] [134217726,134217722,134217714,134217666,134217602,134184898,134217602,134217474,134151938,134217474,134086402,134217538,133955394,134217538,134217538,134217474,134217426,133693138,134217426,133168850,134217426,134217426,134216914,132119762,134216914,130022610,134216914,134216666,125829082,134216666,134214618,134214618,134210522,117433306,134210522,134202330,134202330,134185946,100631514,134185946,67077082,134185946,134210522,134216666,134217725] [] [(3,[(5,none,1),(6,none,1)]),(30,[(12,none,1)])]
def aA.l1 (m:Nat)(l0:List ak):Nat→(List Int)→(List Bool)→(List Int)→Bool→Int→Option ((List Int) × (List Bool) × (List Int) × Bool × Int)
 | 0,_,_,_,_,_=>none
 | k+1,gj,ib,gk,pt,i0=>if (decide (i0≥0))=true then ((ix ib i0).bind fun v0=>if v0=true then (aA.l1 m l0 k gj ib gk pt (i64.wrap (i0 - 1))) else ((ix l0 i0).bind fun v1=>(dv.f m v1 ib).bind fun x2=>if (!x2)=true then (aA.l1 m l0 k gj ib gk pt (i64.wrap (i0 - 1))) else ((dB.f m l0 gk i0 gj).bind fun x3=>(ix gj i0).bind fun v2=>(ix (gj.set i0.toNat x3) i0).bind fun v3=>if (v3==i0)=true then ((app 8 gk ([i0])).bind fun x4=>(ix ib i0).bind fun v4=>aA.l1 m l0 k (gj.set i0.toNat x3) (ib.set i0.toNat true) x4 true (i64.wrap (i0 - 1))) else ((ix ib i0).bind fun v5=>aA.l1 m l0 k (gj.set i0.toNat x3) (ib.set i0.toNat true) gk true (i64.wrap (i0 - 1)))))) else (some ((gj,ib,gk,pt,i0)))
def aA.l0 (m:Nat)(l0:List ak):Nat→(List Int)→(List Bool)→(List Int)→Bool→Option ((List Int) × (List Bool) × (List Int) × Bool)
 | 0,_,_,_,_=>none
 | k+1,ck,gI,jU,tH=>if tH=true then ((aA.l1 m l0 m ck gI jU false (i64.wrap ((l0.length:Int) - 1))).bind fun bp=>match bp with | (HX,Ot,DY,Ou,i1)=>aA.l0 m l0 k HX Ot DY Ou) else (some ((ck,gI,jU,tH)))
def aA.l3 (m:Nat)(l0:List ak)(i2:Int)(x5:List Int):Nat→(List Int)→Int→Option ((List Int) × Int)
 | 0,_,_=>none
 | k+1,fV,k0=>(ix fV i2).bind fun v8=>if (v8==i2)=true then ((ix x5 k0).bind fun v9=>if (decide (v9<i2))=true then ((ix l0 i2).bind fun v10=>(ix x5 k0).bind fun v11=>(ix l0 v11).bind fun v12=>(gz.f m v10 v12).bind fun x6=>if x6=true then ((ix x5 k0).bind fun Og=>(ix fV Og).bind fun Eu=>(ix fV i2).bind fun si=>aA.l3 m l0 i2 x5 k (fV.set i2.toNat Eu) (i64.wrap (k0+1))) else (aA.l3 m l0 i2 x5 k fV (i64.wrap (k0+1)))) else (some ((fV,k0)))) else (some ((fV,k0)))
def aA.l2 (m:Nat)(l0:List ak)(js:List Bool):Nat→(List Int)→(List Int)→Int→Option ((List Int) × (List Int) × Int)
 | 0,_,_,_=>none
 | k+1,jB,mL,i2=>if (decide (i2<(l0.length:Int)))=true then ((ix js i2).bind fun v6=>if v6=true then (aA.l2 m l0 js k jB mL (i64.wrap (i2+1))) else ((app 8 mL ([i2])).bind fun x5=>(ix jB i2).bind fun v7=>(aA.l3 m l0 i2 x5 m (jB.set i2.toNat i2) 0).bind fun fU=>match fU with | (HY,k1)=>aA.l2 m l0 js k HY x5 (i64.wrap (i2+1)))) else (some ((jB,mL,i2)))
def aA.l6 (m:Nat)(l0:List ak)(dc:List Int)(b8:List Int)(j0:Int)(sR:Int):Nat→(List Int)→Int→Option ((List Int) × Int)
 | 0,_,_=>none
 | k+1,fj,k2=>(ix fj sR).bind fun XK=>if (XK==sR)=true then (if (decide (k2<j0))=true then ((ix b8 sR).bind fun Zh=>(ix dc k2).bind fun v20=>(ix b8 v20).bind fun v21=>if (Zh==v21)=true then ((ix l0 sR).bind fun v22=>(ix dc k2).bind fun v23=>(ix l0 v23).bind fun v24=>(cb.f m v22 v24 b8).bind fun x8=>if x8=true then ((ix dc k2).bind fun v25=>(ix fj v25).bind fun XV=>(ix fj sR).bind fun v27=>aA.l6 m l0 dc b8 j0 sR k (fj.set sR.toNat XV) (i64.wrap (k2+1))) else (aA.l6 m l0 dc b8 j0 sR k fj (i64.wrap (k2+1)))) else (aA.l6 m l0 dc b8 j0 sR k fj (i64.wrap (k2+1)))) else (some ((fj,k2)))) else (some ((fj,k2)))
def aA.l5 (m:Nat)(l0:List ak)(dc:List Int)(b8:List Int):Nat→Bool→(List Int)→Int→Option (Bool × (List Int) × Int)
 | 0,_,_,_=>none
 | k+1,ox,dK,j0=>if (decide (j0<(dc.length:Int)))=true then ((ix dc j0).bind fun sR=>(ix dK sR).bind fun Ta=>(aA.l6 m l0 dc b8 j0 sR m (dK.set sR.toNat sR) 0).bind fun eK=>match eK with | (xO,k3)=>if ox=true then (aA.l5 m l0 dc b8 k true xO (i64.wrap (j0+1))) else ((ix xO sR).bind fun v28=>(ix b8 sR).bind fun v29=>aA.l5 m l0 dc b8 k (!(v28==v29)) xO (i64.wrap (j0+1)))) else (some ((ox,dK,j0)))
def aA.l4 (m:Nat)(l0:List ak)(dc:List Int):Nat→(List Int)→Bool→Option ((List Int) × Bool)
 | 0,_,_=>none
 | k+1,b8,tI=>if tI=true then ((app 8 ([]:List Int) b8).bind fun x7=>(aA.l5 m l0 dc b8 m false x7 0).bind fun Al=>match Al with | (Ov,FO,j1)=>aA.l4 m l0 dc k FO Ov) else (some ((b8,tI)))
def aA.f (m:Nat)(l0:List ak):Option ((List Int)):=(sY 8 (l0.length:Int) 0).bind fun x0=>(sY 1 (l0.length:Int) false).bind fun x1=>(aA.l0 m l0 m x0 x1 ([]:List Int) true).bind fun cM=>match cM with | (Ax,js,RC,XW)=>(aA.l2 m l0 js m Ax ([]:List Int) 0).bind fun mI=>match mI with | (Ay,dc,i3)=>(aA.l4 m l0 dc m Ay true).bind fun ky=>match ky with | (w5,XX)=>some w5
def aA.fin (L:Mem)(r:(List Int))(s:St):Prop:=∃av,aK Tryz.prog (s.open nM) Tryz.f133.results.toList=some av∧eX s.h av (ab.fz r)
def XY (cf:CallF)(m:Nat):Prop:=∀(l0:List ak) (r:(List Int)),aA.f m l0=some r→∀h xs,bl cd h xs [af.fz l0]→cf 133 xs h=some (ab.fz r,h)
section
variable {cf:CallF}{m:Nat}
theorem aA.iw (L:Mem)(l0:List ak)  (FP:Rs cf m)(FQ:RA cf m):b9 Tryz.prog cf nM m (sub [1,1,1,1,0,1,0,0,1,0,1,1,0,0] (bw Tryz.f133)) (fun k (σ:(List Int) × (List Bool) × (List Int) × Bool × Int)=>aA.l1 m l0 k σ.1 σ.2.1 σ.2.2.1 σ.2.2.2.1 σ.2.2.2.2) (fun σ s=>match σ with | (gj,ib,gk,pt,i0)=>∃iM iy gM h3,s=⟨af.fz l0 :: .any :: .rs gM 0 gj.length 1 :: .rs iy 0 ib.length 1 :: .rs iM 0 gk.length 1 :: .rs ((0)) 0 (([]:List Int).length) 1 :: .bool pt :: .i i0::Ul [],[],h3⟩∧Has h3 ((((0)),.sl (([]:List Int).length) 1 (ab.l ([]:List Int)))::(iM,.sl gk.length 1 (ab.l gk))::(iy,.sl ib.length 1 (di.l ib))::(gM,.sl gj.length 1 (ab.l gj))::L)) (fun out e s=>(e = .exit 2∧∃gj ib gk pt i0,(gj,ib,gk,pt,i0)=out∧∃ud N8 iM iy gM h3,s=⟨af.fz l0 :: .any :: .rs gM 0 gj.length 1 :: .rs iy 0 ib.length 1 :: .rs iM 0 gk.length 1 :: .rs ((0)) 0 (([]:List Int).length) 1 :: .bool pt::ud::tX (N8::wG []),[],h3⟩∧Has h3 ((((0)),.sl (([]:List Int).length) 1 (ab.l ([]:List Int)))::(iM,.sl gk.length 1 (ab.l gk))::(iy,.sl ib.length 1 (di.l ib))::(gM,.sl gj.length 1 (ab.l gj))::L))):=by
 refine jF (fun _=>rfl) ?_
 rintro k ⟨gj,ib,gk,pt,i0⟩ s out ⟨iM,iy,gM,h3,rfl,o5⟩ H
 have H:aA.l1 m l0 (k+1) gj ib gk pt i0=some out:=H
 refine qq <| qq <| q0 <| qc H (fun c1 H=>?_) (fun c1 H=>?_)
 ·refine qk <| qq <| qb 3 <| qq <| qq ?_
  obtain⟨v0,e4,H⟩:=aP H
  rcases eV H with⟨c2,H⟩| ⟨c2,H⟩
  ·exact qr [.v 2 (aL (k:=.i64) (E:=di) (l:=ib) (q:=2) GY o5 rfl e4),.v 3 (bq  (E:=di) (l:=ib) (q:=2) o5 rfl A4 e4 rfl),.b 4 c2] <| Bb <| qx 3 <| q0 <| ⟨(gj,ib,gk,pt,i64.wrap (i0 - 1)),⟨iM,iy,gM,h3,kr,o5⟩,H⟩
  ·obtain⟨v1,e5,H⟩:=aP H
   obtain⟨x2,e6,H⟩:=aP H
   refine qr [.v 2 (aL (k:=.i64) (E:=di) (l:=ib) (q:=2) GY o5 rfl e4),.v 3 (bq  (E:=di) (l:=ib) (q:=2) o5 rfl A4 e4 rfl),.b 4 c2,.v 7 (bN (k:=.i64) (E:=af) (l:=l0) lJ e5),.v 8 (fZ  (E:=af) (l:=l0) h3 tE tF e5),.a 10 (FP _ _ _ e6 h3 _ (ia (ai (eJ (ai (aU) (ai (aU) (ai (iB) (ai (iu (E:=ab)) (aD)))))) (ai (cC (E:=di) (l:=ib) (q:=2) o5 rfl (fun _=>rfl)) (aD)))))] <| qc H (fun c4 H=>?_) (fun c4 H=>?_)
   ·exact qx 3 <| q0 <| ⟨(gj,ib,gk,pt,i64.wrap (i0 - 1)),⟨iM,iy,gM,h3,kr,o5⟩,H⟩
   ·refine qk <| qq ?_
    obtain⟨x3,e7,H⟩:=aP H
    obtain⟨v2,e8,H⟩:=aP H
    obtain⟨h4,e9,o6⟩:=dD (P:=Tryz.prog) (tf:=3) (E:=ab) (l:=gj) (q:=3) (v:=x3) (x:=.i x3) o5 rfl Z3 e8 rfl rfl
    refine qr [.a 6 (FQ _ _ _ _ _ e7 h3 _ (ia (ai (iu (E:=af)) (ai (cC (E:=ab) (l:=gk) (q:=1) o5 rfl (fun _=>rfl)) (ai (aU) (ai (cC (E:=ab) (l:=gj) (q:=3) o5 rfl (fun _=>rfl)) (aD))))))),.v 7 (aL (k:=.i64) (E:=ab) (l:=gj) (q:=3) da o5 rfl e8),.w 8 e9] <| qq <| qq ?_
    obtain⟨v3,ma,H⟩:=aP H
    refine qr [.v 2 (aL (k:=.i64) (E:=ab) (l:=(gj.set i0.toNat x3)) (q:=3) da o6 rfl ma),.v 3 (bq  (E:=ab) (l:=(gj.set i0.toNat x3)) (q:=3) o6 rfl A3 ma rfl)] <| qc H (fun c5 H=>?_) (fun c5 H=>?_)
    ·obtain⟨x4,nH,H⟩:=aP H
     obtain⟨kl,h5,oS,o7⟩:=eu (P:=Tryz.prog) (E:=ab) (l:=gk) (q:=1) (t2:=22) (x:=.fz [.i i0] 1 true) (l2:=([i0])) da o6 rfl kr rfl nH
     refine qr [.a 3 oS] <| qq ?_
     obtain⟨v4,rF,H⟩:=aP H
     obtain⟨h6,s7,o8⟩:=dD (P:=Tryz.prog) (tf:=4) (E:=di) (l:=ib) (q:=2) (v:=true) (x:=.bool true) o7 rfl Z4 rF rfl rfl
     exact qr [.v 2 (aL (k:=.i64) (E:=di) (l:=ib) (q:=2) GY o7 rfl rF),.w 3 s7] <| q0 <| q0 <| ⟨(gj.set i0.toNat x3,ib.set i0.toNat true,x4,true,i64.wrap (i0 - 1)),⟨kl,iy,gM,h6,ld,(ow o8)⟩,H⟩
    ·refine qk <| qq ?_
     obtain⟨v5,s8,H⟩:=aP H
     obtain⟨h7,vj,o9⟩:=dD (P:=Tryz.prog) (tf:=4) (E:=di) (l:=ib) (q:=2) (v:=true) (x:=.bool true) o6 rfl Z4 s8 rfl rfl
     exact qr [.v 2 (aL (k:=.i64) (E:=di) (l:=ib) (q:=2) GY o6 rfl s8),.w 3 vj] <| q0 <| q0 <| ⟨(gj.set i0.toNat x3,ib.set i0.toNat true,gk,true,i64.wrap (i0 - 1)),⟨iM,iy,gM,h7,ld,(ow o9)⟩,H⟩
 ·exact qx 2 <| ⟨rfl,gj,ib,gk,pt,i0,oi H,.i i0,.bool (decide (i0≥0)),iM,iy,gM,h3,kr,o5⟩
theorem aA.cm (L:Mem)(l0:List ak)  (FP:Rs cf m)(FQ:RA cf m):b9 Tryz.prog cf nM m (sub [1,1,1,1,0,1,0,0] (bw Tryz.f133)) (fun k (σ:(List Int) × (List Bool) × (List Int) × Bool)=>aA.l0 m l0 k σ.1 σ.2.1 σ.2.2.1 σ.2.2.2) (fun σ s=>match σ with | (ck,gI,jU,tH)=>∃g0 g1 dN cK bT h2,s=⟨af.fz l0 :: .any :: .rs bT 0 ck.length 1 :: .rs cK 0 gI.length 1 :: .rs dN 0 jU.length 1 :: .rs ((0)) 0 (([]:List Int).length) 1 :: .bool tH::g0::tX (g1::wG []),[],h2⟩∧Has h2 ((((0)),.sl (([]:List Int).length) 1 (ab.l ([]:List Int)))::(dN,.sl jU.length 1 (ab.l jU))::(cK,.sl gI.length 1 (di.l gI))::(bT,.sl ck.length 1 (ab.l ck))::L)) (fun out e s=>(e = .exit 0∧∃ck gI jU tH,(ck,gI,jU,tH)=out∧∃z8 wM ud Am N8 dN cK bT h2,s=⟨af.fz l0 :: .any :: .rs bT 0 ck.length 1 :: .rs cK 0 gI.length 1::z8 :: .rs ((0)) 0 (([]:List Int).length) 1::wM::ud::B0 (Am::N8::wG []),[],h2⟩∧Has h2 ((((0)),.sl (([]:List Int).length) 1 (ab.l ([]:List Int)))::(dN,.sl jU.length 1 (ab.l jU))::(cK,.sl gI.length 1 (di.l gI))::(bT,.sl ck.length 1 (ab.l ck))::L))):=by
 refine jF (fun _=>rfl) ?_
 rintro k ⟨ck,gI,jU,tH⟩ s out ⟨g0,g1,dN,cK,bT,h2,rfl,o4⟩ H
 have H:aA.l0 m l0 (k+1) ck gI jU tH=some out:=H
 refine qq <| qq <| q0 <| qc H (fun c0 H=>?_) (fun c0 H=>?_)
 ·refine qk <| qb 1 <| qq <| q0 <| qq <| q0 <| qb 2 ?_
  obtain⟨bp,yV,H⟩:=aP H
  refine ql (aA.iw L l0  FP FQ (ck,gI,jU,false,i64.wrap ((l0.length:Int) - 1)) _ _ ⟨dN,cK,bT,h2,kr,o4⟩ yV) ?_
  rintro e s ⟨rfl,HX,Ot,DY,Ou,i1,rfl,g2,g3,kP,fC,hY,h8,rfl,s9⟩
  try dsimp only at H
  exact⟨(HX,Ot,DY,Ou),⟨g2,g3,kP,fC,hY,h8,kr,s9⟩,H⟩
 ·exact qx 0 <| ⟨rfl,ck,gI,jU,tH,oi H,.rs dN 0 jU.length 1,.any,.any,.bool tH,.any,dN,cK,bT,h2,kr,o4⟩
theorem aA.vz (L:Mem)(l0:List ak)(jo:Nat)(js:List Bool)(jo:Nat)(i2:Int)(x5:List Int)(oK:Nat)  (vo:S4 cf m):b9 Tryz.prog cf nM m (sub [1,1,1,1,1,0,1,0,0,1,0,0,1,1,1,1,0,0] (bw Tryz.f133)) (fun k (σ:(List Int) × Int)=>aA.l3 m l0 i2 x5 k σ.1 σ.2) (fun σ s=>match σ with | (fV,k0)=>∃oL h13,s=⟨af.fz l0 :: .any :: .rs oL 0 fV.length 1 :: .rs jo 0 js.length 1 :: .any :: .rs oK 0 x5.length 1 :: .any :: .any :: .i i2 :: .i k0::Rc [],[],h13⟩∧Has h13 ((oK,.sl x5.length 1 (ab.l x5))::(jo,.sl js.length 1 (di.l js))::(oL,.sl fV.length 1 (ab.l fV))::L)) (fun out e s=>(e = .exit 6∧∃fV k0,(fV,k0)=out∧∃oG aa0 oL h13,s=⟨af.fz l0 :: .any :: .rs oL 0 fV.length 1 :: .rs jo 0 js.length 1 :: .any :: .rs oK 0 x5.length 1 :: .any :: .any :: .i i2::oG::vc (aa0::sO []),[],h13⟩∧Has h13 ((oK,.sl x5.length 1 (ab.l x5))::(jo,.sl js.length 1 (di.l js))::(oL,.sl fV.length 1 (ab.l fV))::L))):=by
 refine jF (fun _=>rfl) ?_
 rintro k ⟨fV,k0⟩ s out ⟨oL,h13,rfl,pn⟩ H
 have H:aA.l3 m l0 i2 x5 (k+1) fV k0=some out:=H
 refine qq <| qq ?_
 obtain⟨v8,Bw,H⟩:=aP H
 rcases eV H with⟨c8,H⟩| ⟨c8,H⟩
 ·obtain⟨v9,DM,H⟩:=aP H
  refine qr [.v 2 (aL (k:=.i64) (E:=ab) (l:=fV) (q:=2) da pn rfl Bw),.v 3 (bq  (E:=ab) (l:=fV) (q:=2) pn rfl A3 Bw rfl),.b 6 c8,.v 9 (aL (k:=.i64) (E:=ab) (l:=x5) (q:=0) da pn rfl DM),.v 10 (bq  (E:=ab) (l:=x5) (q:=0) pn rfl A3 DM rfl)] <| qc H (fun c9 H=>?_) (fun c9 H=>?_)
  ·refine qk <| qq <| qb 7 <| qq ?_
   obtain⟨v10,DS,H⟩:=aP H
   obtain⟨v11,HV,H⟩:=aP H
   obtain⟨v12,JM,H⟩:=aP H
   obtain⟨x6,LR,H⟩:=aP H
   refine qr [.v 2 (bN (k:=.i64) (E:=af) (l:=l0) lJ DS),.v 3 (fZ  (E:=af) (l:=l0) h13 tE tF DS),.v 7 (aL (k:=.i64) (E:=ab) (l:=x5) (q:=0) da pn rfl HV),.v 8 (bq  (E:=ab) (l:=x5) (q:=0) pn rfl A3 HV rfl),.v 9 (bN (k:=.i64) (E:=af) (l:=l0) lJ JM),.v 10 (fZ  (E:=af) (l:=l0) h13 tE tF JM),.a 11 (vo _ _ _ LR h13 _ fq)] <| qc H (fun Ag H=>?_) (fun Ag H=>?_)
   ·obtain⟨Og,LS,H⟩:=aP H
    obtain⟨Eu,GZ,H⟩:=aP H
    obtain⟨si,LQ,H⟩:=aP H
    obtain⟨h14,My,yX⟩:=dD (P:=Tryz.prog) (tf:=3) (E:=ab) (l:=fV) (q:=2) (v:=Eu) (x:=.i Eu) pn rfl Z3 LQ rfl rfl
    exact qr [.v 5 (aL (k:=.i64) (E:=ab) (l:=x5) (q:=0) da pn rfl LS),.v 6 (bq  (E:=ab) (l:=x5) (q:=0) pn rfl A3 LS rfl),.v 7 (aL (k:=.i64) (E:=ab) (l:=fV) (q:=2) da pn rfl GZ),.v 8 (bq  (E:=ab) (l:=fV) (q:=2) pn rfl A3 GZ rfl),.v 9 (aL (k:=.i64) (E:=ab) (l:=fV) (q:=2) da pn rfl LQ),.w 10 My] <| q0 <| ⟨(fV.set i2.toNat Eu,i64.wrap (k0+1)),⟨oL,h14,ld,(ow yX)⟩,H⟩
   ·exact qk <| q0 <| ⟨(fV,i64.wrap (k0+1)),⟨oL,h13,kr,pn⟩,H⟩
  ·exact qx 6 <| ⟨rfl,fV,k0,oi H,.i k0,.bool (decide (v9<i2)),oL,h13,kr,pn⟩
 ·exact qr [.v 2 (aL (k:=.i64) (E:=ab) (l:=fV) (q:=2) da pn rfl Bw),.v 3 (bq  (E:=ab) (l:=fV) (q:=2) pn rfl A3 Bw rfl),.b 6 c8] <| Dr <| qx 6 <| ⟨rfl,fV,k0,oi H,.i k0,.bool false,oL,h13,kr,pn⟩
theorem aA.mK (L:Mem)(l0:List ak)(jo:Nat)(js:List Bool)(jo:Nat)  (vo:S4 cf m):b9 Tryz.prog cf nM m (sub [1,1,1,1,1,0,1,0,0] (bw Tryz.f133)) (fun k (σ:(List Int) × (List Int) × Int)=>aA.l2 m l0 js k σ.1 σ.2.1 σ.2.2) (fun σ s=>match σ with | (jB,mL,i2)=>∃lk jT h10,s=⟨af.fz l0 :: .any :: .rs jT 0 jB.length 1 :: .rs jo 0 js.length 1 :: .any :: .rs lk 0 mL.length 1 :: .any :: .any :: .i i2::Uk [],[],h10⟩∧Has h10 ((lk,.sl mL.length 1 (ab.l mL))::(jo,.sl js.length 1 (di.l js))::(jT,.sl jB.length 1 (ab.l jB))::L)) (fun out e s=>(e = .exit 4∧∃jB mL i2,(jB,mL,i2)=out∧∃Rt vg aa1 lk jT h10,s=⟨af.fz l0 :: .any :: .rs jT 0 jB.length 1::Rt :: .any :: .rs lk 0 mL.length 1 :: .any :: .any::vg::wG (aa1::B0 []),[],h10⟩∧Has h10 ((lk,.sl mL.length 1 (ab.l mL))::(jo,.sl js.length 1 (di.l js))::(jT,.sl jB.length 1 (ab.l jB))::L))):=by
 refine jF (fun _=>rfl) ?_
 rintro k ⟨jB,mL,i2⟩ s out ⟨lk,jT,h10,rfl,mX⟩ H
 have H:aA.l2 m l0 js (k+1) jB mL i2=some out:=H
 refine qq <| qq <| q0 <| qc H (fun c6 H=>?_) (fun c6 H=>?_)
 ·refine qk <| qq <| qb 5 <| qq <| qq ?_
  obtain⟨v6,vq,H⟩:=aP H
  refine qr [.v 2 (aL (k:=.i64) (E:=di) (l:=js) (q:=1) GY mX rfl vq),.v 3 (bq  (E:=di) (l:=js) (q:=1) mX rfl A4 vq rfl)] <| qc H (fun c7 H=>?_) (fun c7 H=>?_)
  ·exact qx 5 <| q0 <| ⟨(jB,mL,i64.wrap (i2+1)),⟨lk,jT,h10,kr,mX⟩,H⟩
  ·refine qk <| qq ?_
   obtain⟨x5,Bd,H⟩:=aP H
   obtain⟨oK,h11,Bu,vW⟩:=eu (P:=Tryz.prog) (E:=ab) (l:=mL) (q:=0) (t2:=22) (x:=.fz [.i i2] 1 true) (l2:=([i2])) da mX rfl kr rfl Bd
   refine qr [.a 3 Bu] <| qq ?_
   obtain⟨v7,Bv,H⟩:=aP H
   obtain⟨h12,Be,Bx⟩:=dD (P:=Tryz.prog) (tf:=3) (E:=ab) (l:=jB) (q:=2) (v:=i2) (x:=.i i2) vW rfl Z3 Bv rfl rfl
   refine qr [.v 3 (aL (k:=.i64) (E:=ab) (l:=jB) (q:=2) da vW rfl Bv),.w 4 Be] <| qq <| q0 <| qb 6 ?_
   obtain⟨fU,Rv,H⟩:=aP H
   refine ql (aA.vz L l0 jo js jo i2 x5 oK  vo (jB.set i2.toNat i2,0) _ _ ⟨jT,h12,ld,(ow Bx)⟩ Rv) ?_
   rintro e s ⟨rfl,HY,k1,rfl,g9,g10,um,h15,rfl,oM⟩
   try dsimp only at H
   exact q0 <| ⟨(HY,x5,i64.wrap (i2+1)),⟨oK,um,h15,kr,oM⟩,H⟩
 ·exact qx 4 <| ⟨rfl,jB,mL,i2,oi H,.rs jo 0 js.length 1,.i i2,.bool (decide (i2<(l0.length:Int))),lk,jT,h10,kr,mX⟩
theorem aA.Ow (L:Mem)(l0:List ak)(jH:Nat)(dc:List Int)(jH:Nat)(kZ:Nat)(b8:List Int)(kZ:Nat)(ox:Bool)(j0:Int)(sR:Int)  (sq:HL cf m):b9 Tryz.prog cf nM m (sub [1,1,1,1,1,1,0,1,0,0,1,0,1,1,1,0,1,0,0,1,0,0,1,1,0,1,0,0] (bw Tryz.f133)) (fun k (σ:(List Int) × Int)=>aA.l6 m l0 dc b8 j0 sR k σ.1 σ.2) (fun σ s=>match σ with | (fj,k2)=>∃nN h21,s=⟨af.fz l0 :: .any :: .rs kZ 0 b8.length 1 :: .any :: .any :: .rs jH 0 dc.length 1::l9 (.bool ox :: .rs nN 0 fj.length 1 :: .i j0 :: .i sR :: .i k2::zN []),[],h21⟩∧Has h21 ((nN,.sl fj.length 1 (ab.l fj))::(jH,.sl dc.length 1 (ab.l dc))::(kZ,.sl b8.length 1 (ab.l b8))::L)) (fun out e s=>(e = .exit 12∧∃fj k2,(fj,k2)=out∧∃DO XZ nN h21,s=⟨af.fz l0 :: .any :: .rs kZ 0 b8.length 1 :: .any :: .any :: .rs jH 0 dc.length 1::l9 (.bool ox :: .rs nN 0 fj.length 1 :: .i j0 :: .i sR::DO::wG [XZ,.any]),[],h21⟩∧Has h21 ((nN,.sl fj.length 1 (ab.l fj))::(jH,.sl dc.length 1 (ab.l dc))::(kZ,.sl b8.length 1 (ab.l b8))::L))):=by
 refine jF (fun _=>rfl) ?_
 rintro k ⟨fj,k2⟩ s out ⟨nN,h21,rfl,ni⟩ H
 have H:aA.l6 m l0 dc b8 j0 sR (k+1) fj k2=some out:=H
 refine qq <| qq ?_
 obtain⟨XK,RD,H⟩:=aP H
 rcases eV H with⟨yl,H⟩| ⟨yl,H⟩
 ·refine qr [.v 2 (aL (k:=.i64) (E:=ab) (l:=fj) (q:=0) da ni rfl RD),.v 3 (bq  (E:=ab) (l:=fj) (q:=0) ni rfl A3 RD rfl),.b 6 yl] <| qc H (fun FK H=>?_) (fun FK H=>?_)
  ·refine qk <| qq <| qb 13 <| qq ?_
   obtain⟨Zh,Th,H⟩:=aP H
   obtain⟨v20,Tk,H⟩:=aP H
   obtain⟨v21,Wc,H⟩:=aP H
   rcases eV H with⟨Ev,H⟩| ⟨Ev,H⟩
   ·obtain⟨v22,e45,H⟩:=aP H
    obtain⟨v23,e46,H⟩:=aP H
    obtain⟨v24,e47,H⟩:=aP H
    obtain⟨x8,e48,H⟩:=aP H
    refine qr [.v 2 (aL (k:=.i64) (E:=ab) (l:=b8) (q:=2) da ni rfl Th),.v 3 (bq  (E:=ab) (l:=b8) (q:=2) ni rfl A3 Th rfl),.v 7 (aL (k:=.i64) (E:=ab) (l:=dc) (q:=1) da ni rfl Tk),.v 8 (bq  (E:=ab) (l:=dc) (q:=1) ni rfl A3 Tk rfl),.v 9 (aL (k:=.i64) (E:=ab) (l:=b8) (q:=2) da ni rfl Wc),.v 10 (bq  (E:=ab) (l:=b8) (q:=2) ni rfl A3 Wc rfl),.b 12 Ev,.v 15 (bN (k:=.i64) (E:=af) (l:=l0) lJ e45),.v 16 (fZ  (E:=af) (l:=l0) h21 tE tF e45),.v 20 (aL (k:=.i64) (E:=ab) (l:=dc) (q:=1) da ni rfl e46),.v 21 (bq  (E:=ab) (l:=dc) (q:=1) ni rfl A3 e46 rfl),.v 22 (bN (k:=.i64) (E:=af) (l:=l0) lJ e47),.v 23 (fZ  (E:=af) (l:=l0) h21 tE tF e47),.a 25 (sq _ _ _ _ e48 h21 _ (ia (ai (eJ (ai (aU) (ai (aU) (ai (iB) (ai (iu (E:=ab)) (aD)))))) (ai (eJ (ai (aU) (ai (aU) (ai (iB) (ai (iu (E:=ab)) (aD)))))) (ai (cC (E:=ab) (l:=b8) (q:=2) ni rfl (fun _=>rfl)) (aD))))))] ?_
    refine qc H (fun DR H=>?_) (fun DR H=>?_)
    ·obtain⟨v25,e49,H⟩:=aP H
     obtain⟨XV,e50,H⟩:=aP H
     obtain⟨v27,e51,H⟩:=aP H
     obtain⟨h22,e52,Mz⟩:=dD (P:=Tryz.prog) (tf:=3) (E:=ab) (l:=fj) (q:=0) (v:=XV) (x:=.i XV) ni rfl Z3 e51 rfl rfl
     exact qr [.v 5 (aL (k:=.i64) (E:=ab) (l:=dc) (q:=1) da ni rfl e49),.v 6 (bq  (E:=ab) (l:=dc) (q:=1) ni rfl A3 e49 rfl),.v 7 (aL (k:=.i64) (E:=ab) (l:=fj) (q:=0) da ni rfl e50),.v 8 (bq  (E:=ab) (l:=fj) (q:=0) ni rfl A3 e50 rfl),.v 9 (aL (k:=.i64) (E:=ab) (l:=fj) (q:=0) da ni rfl e51),.w 10 e52] <| q0 <| ⟨(fj.set sR.toNat XV,i64.wrap (k2+1)),⟨nN,h22,ld,(ow Mz)⟩,H⟩
    ·exact qk <| q0 <| ⟨(fj,i64.wrap (k2+1)),⟨nN,h21,kr,ni⟩,H⟩
   ·exact qr [.v 2 (aL (k:=.i64) (E:=ab) (l:=b8) (q:=2) da ni rfl Th),.v 3 (bq  (E:=ab) (l:=b8) (q:=2) ni rfl A3 Th rfl),.v 7 (aL (k:=.i64) (E:=ab) (l:=dc) (q:=1) da ni rfl Tk),.v 8 (bq  (E:=ab) (l:=dc) (q:=1) ni rfl A3 Tk rfl),.v 9 (aL (k:=.i64) (E:=ab) (l:=b8) (q:=2) da ni rfl Wc),.v 10 (bq  (E:=ab) (l:=b8) (q:=2) ni rfl A3 Wc rfl),.b 12 Ev] <| Dr <| qk <| q0 <| ⟨(fj,i64.wrap (k2+1)),⟨nN,h21,kr,ni⟩,H⟩
  ·exact qx 12 <| ⟨rfl,fj,k2,oi H,.i k2,.bool (decide (k2<j0)),nN,h21,kr,ni⟩
 ·exact qr [.v 2 (aL (k:=.i64) (E:=ab) (l:=fj) (q:=0) da ni rfl RD),.v 3 (bq  (E:=ab) (l:=fj) (q:=0) ni rfl A3 RD rfl),.b 6 yl] <| Dr <| qx 12 <| ⟨rfl,fj,k2,oi H,.i k2,.bool false,nN,h21,kr,ni⟩
theorem aA.Ox (L:Mem)(l0:List ak)(jH:Nat)(dc:List Int)(jH:Nat)(kZ:Nat)(b8:List Int)(kZ:Nat)  (sq:HL cf m):b9 Tryz.prog cf nM m (sub [1,1,1,1,1,1,0,1,0,0,1,0,1,1,1,0,1,0,0] (bw Tryz.f133)) (fun k (σ:Bool × (List Int) × Int)=>aA.l5 m l0 dc b8 k σ.1 σ.2.1 σ.2.2) (fun σ s=>match σ with | (ox,dK,j0)=>∃vt h19,s=⟨af.fz l0 :: .any :: .rs kZ 0 b8.length 1 :: .any :: .any :: .rs jH 0 dc.length 1::l9 (.bool ox :: .rs vt 0 dK.length 1 :: .i j0::zO []),[],h19⟩∧Has h19 ((vt,.sl dK.length 1 (ab.l dK))::(jH,.sl dc.length 1 (ab.l dc))::(kZ,.sl b8.length 1 (ab.l b8))::L)) (fun out e s=>(e = .exit 10∧∃ox dK j0,(ox,dK,j0)=out∧∃Br pZ X0 vt h19,s=⟨af.fz l0 :: .any::Br :: .any :: .any :: .rs jH 0 dc.length 1::l9 (.bool ox :: .rs vt 0 dK.length 1::pZ::vc [X0,.any,.any]),[],h19⟩∧Has h19 ((vt,.sl dK.length 1 (ab.l dK))::(jH,.sl dc.length 1 (ab.l dc))::(kZ,.sl b8.length 1 (ab.l b8))::L))):=by
 refine jF (fun _=>rfl) ?_
 rintro k ⟨ox,dK,j0⟩ s out ⟨vt,h19,rfl,Oj⟩ H
 have H:aA.l5 m l0 dc b8 (k+1) ox dK j0=some out:=H
 refine qq <| qq <| q0 <| qc H (fun uh H=>?_) (fun uh H=>?_)
 ·refine qk <| qq <| qb 11 <| qq ?_
  obtain⟨sR,Ry,H⟩:=aP H
  refine qr [.v 2 (aL (k:=.i64) (E:=ab) (l:=dc) (q:=1) da Oj rfl Ry),.v 3 (bq  (E:=ab) (l:=dc) (q:=1) Oj rfl A3 Ry rfl)] <| qq ?_
  obtain⟨Ta,Wd,H⟩:=aP H
  obtain⟨h20,X1,U3⟩:=dD (P:=Tryz.prog) (tf:=3) (E:=ab) (l:=dK) (q:=0) (v:=sR) (x:=.i sR) Oj rfl Z3 Wd rfl rfl
  refine qr [.v 3 (aL (k:=.i64) (E:=ab) (l:=dK) (q:=0) da Oj rfl Wd),.w 4 X1] <| qq <| qq <| q0 <| qb 12 ?_
  obtain⟨eK,e53,H⟩:=aP H
  refine ql (aA.Ow L l0 jH dc jH kZ b8 kZ ox j0 sR  sq (dK.set sR.toNat sR,0) _ _ ⟨vt,h20,ld,(ow U3)⟩ e53) ?_
  rintro e s ⟨rfl,xO,k3,rfl,g14,g15,vC,h23,rfl,JN⟩
  try dsimp only at H
  rcases eV H with⟨Tm,H⟩| ⟨Tm,H⟩
  ·exact qr [.b 1 Tm] <| q0 <| ⟨(true,xO,i64.wrap (j0+1)),⟨vC,h23,kr,JN⟩,H⟩
  ·obtain⟨v28,e54,H⟩:=aP H
   obtain⟨v29,e55,H⟩:=aP H
   exact qr [.b 1 Tm,.v 4 (aL (k:=.i64) (E:=ab) (l:=xO) (q:=0) da JN rfl e54),.v 5 (bq  (E:=ab) (l:=xO) (q:=0) JN rfl A3 e54 rfl),.v 8 (aL (k:=.i64) (E:=ab) (l:=b8) (q:=2) da JN rfl e55),.v 9 (bq  (E:=ab) (l:=b8) (q:=2) JN rfl A3 e55 rfl)] <| q0 <| ⟨(!(v28==v29),xO,i64.wrap (j0+1)),⟨vC,h23,kr,JN⟩,H⟩
 ·exact qx 10 <| ⟨rfl,ox,dK,j0,oi H,.rs kZ 0 b8.length 1,.i j0,.bool (decide (j0<(dc.length:Int))),vt,h19,kr,Oj⟩
theorem aA.vA (L:Mem)(l0:List ak)(jH:Nat)(dc:List Int)(jH:Nat)  (sq:HL cf m):b9 Tryz.prog cf nM m (sub [1,1,1,1,1,1,0,1,0,0] (bw Tryz.f133)) (fun k (σ:(List Int) × Bool)=>aA.l4 m l0 dc k σ.1 σ.2) (fun σ s=>match σ with | (b8,tI)=>∃kZ h17,s=⟨af.fz l0 :: .any :: .rs kZ 0 b8.length 1 :: .any :: .any :: .rs jH 0 dc.length 1::l9 (.bool tI::HC []),[],h17⟩∧Has h17 ((jH,.sl dc.length 1 (ab.l dc))::(kZ,.sl b8.length 1 (ab.l b8))::L)) (fun out e s=>(e = .exit 8∧∃b8 tI,(b8,tI)=out∧∃lH yh An Oy kZ h17,s=⟨lH :: .any :: .rs kZ 0 b8.length 1 :: .any :: .any::yh::l9 (An::zN (Oy::nc [])),[],h17⟩∧Has h17 ((jH,.sl dc.length 1 (ab.l dc))::(kZ,.sl b8.length 1 (ab.l b8))::L))):=by
 refine jF (fun _=>rfl) ?_
 rintro k ⟨b8,tI⟩ s out ⟨kZ,h17,rfl,yp⟩ H
 have H:aA.l4 m l0 dc (k+1) b8 tI=some out:=H
 refine qq <| qq <| q0 <| qc H (fun yk H=>?_) (fun yk H=>?_)
 ·refine qk <| qb 9 <| qq <| q0 <| qq <| q0 ?_
  have xN:Has h17 (((((0))),.sl (([]:List Int).length) 1 (ab.l ([]:List Int)))::(jH,.sl dc.length 1 (ab.l dc))::(kZ,.sl b8.length 1 (ab.l b8))::L):=Has.nil yp 1
  refine qq ?_
  obtain⟨x7,U2,H⟩:=aP H
  obtain⟨DN,h18,U4,JL⟩:=eu (P:=Tryz.prog) (E:=ab) (l:=([]:List Int)) (q:=0) (t2:=22) (x:=.rs kZ 0 b8.length 1) (l2:=b8) da xN rfl (BW (E:=ab) (l:=b8) (q:=2) xN rfl) rfl U2
  refine qr [.a 2 U4] <| qq <| qq <| q0 <| qb 10 ?_
  obtain⟨Al,e56,H⟩:=aP H
  refine ql (aA.Ox L l0 jH dc jH kZ b8 kZ  sq (false,x7,0) _ _ ⟨DN,h18,kr,JL⟩ e56) ?_
  rintro e s ⟨rfl,Ov,FO,j1,rfl,g16,g17,g18,vD,h24,rfl,Rx⟩
  try dsimp only at H
  refine q0 ?_
  have Rz:Has h24 ((vD,.sl FO.length 1 (ab.l FO))::(jH,.sl dc.length 1 (ab.l dc))::L):=iC Rx 2
  exact⟨(FO,Ov),⟨vD,h24,kr,(bI (bI Rz 0) 1)⟩,H⟩
 ·exact qx 8 <| ⟨rfl,b8,tI,oi H,af.fz l0,.rs jH 0 dc.length 1,.any,.bool tI,kZ,h17,kr,yp⟩
theorem uo {aW:FuncId→b4}(ha:aW 133=nM)(vo:S4 cf m)(FP:Rs cf m)(FQ:RA cf m)(sq:HL cf m)(l0:List ak)(h:AHeap)(L:Mem)  (o:Has h (L)){out:(List Int)}(H:aA.f m l0=some out) :
  ∃r h',bj Tryz.prog aW cf m 133 [af.fz l0] h=some (r,h')∧eX h' r (ab.fz out):=by
 refine aw (fn:=Tryz.f133) ha Tryz.func133 kr kr ?_
 refine aI (Q:=fun s=>aA.fin L out s) (fun _ _ h=>h) ?_
 have H:_=some out:=H
 unfold aA.f at H
 show dE _ cf nM m _ ⟨af.fz l0::Xj [],[],h⟩ _
 refine q1 <| qq ?_
 obtain⟨x0,e0,H⟩:=aP H
 obtain⟨aX,h0,e1,o0⟩:=nE (P:=Tryz.prog) (E:=ab) (z:=0) (zv:=.i 0) da o 3 rfl rfl rfl rfl e0
 refine qr [.a 2 e1] <| qq ?_
 obtain⟨x1,e2,H⟩:=aP H
 obtain⟨b7,h1,e3,o1⟩:=nE (P:=Tryz.prog) (E:=di) (z:=false) (zv:=.bool false) GY o0 4 rfl rfl rfl rfl e2
 refine qr [.a 2 e3] <| qq <| q0 ?_
 have o2:Has h1 (((0),.sl (([]:List Int).length) 1 (ab.l ([]:List Int)))::(b7,.sl x1.length 1 (di.l x1))::(aX,.sl x0.length 1 (ab.l x0))::L):=Has.nil o1 1
 have o3:Has h1 ((((0)),.sl (([]:List Int).length) 1 (ab.l ([]:List Int)))::((0),.sl (([]:List Int).length) 1 (ab.l ([]:List Int)))::(b7,.sl x1.length 1 (di.l x1))::(aX,.sl x0.length 1 (ab.l x0))::L):=Has.nil o2 1
 refine qq <| qq <| q0 <| qb 0 ?_
 obtain⟨cM,yW,H⟩:=aP H
 refine ql (aA.cm L l0  FP FQ (x0,x1,([]:List Int),true) _ _ ⟨.any,.any,(0),b7,aX,h1,kr,o3⟩ yW) ?_
 rintro e s ⟨rfl,Ax,js,RC,XW,rfl,g4,g5,g6,g7,g8,gJ,jo,kO,h9,rfl,qP⟩
 try dsimp only at H
 refine qq <| qq <| q0 ?_
 have wP:Has h9 ((((0)),.sl (([]:List Int).length) 1 (ab.l ([]:List Int)))::(jo,.sl js.length 1 (di.l js))::(kO,.sl Ax.length 1 (ab.l Ax))::L):=iC qP 1
 refine qb 4 ?_
 obtain⟨mI,Rw,H⟩:=aP H
 refine ql (aA.mK L l0 jo js jo  vo (Ax,([]:List Int),0) _ _ ⟨((0)),kO,h9,kr,wP⟩ Rw) ?_
 rintro e s ⟨rfl,Ay,dc,i3,rfl,g11,g12,g13,jH,HU,h16,rfl,Ao⟩
 try dsimp only at H
 refine qq <| qq <| q0 ?_
 have LP:Has h16 ((jH,.sl dc.length 1 (ab.l dc))::(HU,.sl Ay.length 1 (ab.l Ay))::L):=iC Ao 1
 refine qb 8 ?_
 obtain⟨ky,e57,H⟩:=aP H
 refine ql (aA.vA L l0 jH dc jH  sq (Ay,true) _ _ ⟨HU,h16,kr,LP⟩ e57) ?_
 rintro e s ⟨rfl,w5,XX,rfl,g19,g20,g21,g22,mM,h25,rfl,Tb⟩
 try dsimp only at H
 refine q1 ?_
 have X2:Has h25 ((mM,.sl w5.length 1 (ab.l w5))::L):=iC Tb 0
 obtain rfl:=oi H
 exact qt <| ⟨.inl rfl,pX (.rs mM 0 w5.length 1) h25 (oR (zI (E:=ab) (l:=w5) (q:=0) X2 rfl (fun _=>rfl)))⟩
end
def qz:b4:=gL [0,1,2,3,4,10,11,12,13,14,15,16,17,18,19,20,21,22,23,24,28,33,50,58,80,85,103,110,140,151,171,185,199,213] [] [17178820576,17179869124,17179869068,17177771916,17179868940,17175674636,17179869068,17179869068,17179868894,17171480286,17179868894,17179868894,17163091936,17179868650,17179867626,17146313194,17179865578,17112756714,17179867626,17179867626,17179864574,17045646846,17179864574,17179864574,17179860960,17179844576,17179844576,16911409120,17179811808,17179746272,17179811808,17179746272,17179615200,16642744288,17179353056,16105611232,17179615200,17179615200,17179303904,15031820256,17179303908,12884336612,17179336678,8589402086,17179869183] [] []
def be.l0 (m:Nat)(aG:List Int)(a0:Int)(bD:Int→Int→Option (Int)):Nat→Int→Int→Option (Int × Int)
 | 0,_,_=>none
 | k+1,i0,j0=>if (decide (i0<j0))=true then ((ix aG (i64.wrap (mN .u64 (u64.wrap (i64.wrap (i0+j0))) 1))).bind fun v0=>(ix aG a0).bind fun v1=>(bD v0 v1).bind fun r0=>if (decide (r0<0))=true then (be.l0 m aG a0 bD k (i64.wrap (i64.wrap (mN .u64 (u64.wrap (i64.wrap (i0+j0))) 1)+1)) j0) else (be.l0 m aG a0 bD k i0 (i64.wrap (mN .u64 (u64.wrap (i64.wrap (i0+j0))) 1)))) else (some ((i0,j0)))
def be.l1 (m:Nat)(i1:Int):Nat→(List Int)→Int→Option ((List Int) × Int)
 | 0,_,_=>none
 | k+1,cg,k0=>if (decide (k0<(i64.wrap (i1 - 1))))=true then ((ix cg (i64.wrap (k0+1))).bind fun v2=>(ix cg k0).bind fun v3=>(ix cg k0).bind fun v4=>(ix (cg.set k0.toNat v2) (i64.wrap (k0+1))).bind fun v5=>be.l1 m i1 k ((cg.set k0.toNat v2).set (i64.wrap (k0+1)).toNat v3) (i64.wrap (k0+1))) else (some ((cg,k0)))
def be.l2 (m:Nat)(aG:List Int)(m0:Int)(bD:Int→Int→Option (Int)):Nat→Int→Int→Option (Int × Int)
 | 0,_,_=>none
 | k+1,i2,j2=>if (decide (i2<j2))=true then ((ix aG m0).bind fun v6=>(ix aG (i64.wrap (mN .u64 (u64.wrap (i64.wrap (i2+j2))) 1))).bind fun v7=>(bD v6 v7).bind fun r1=>if (!(decide (r1<0)))=true then (be.l2 m aG m0 bD k (i64.wrap (i64.wrap (mN .u64 (u64.wrap (i64.wrap (i2+j2))) 1)+1)) j2) else (be.l2 m aG m0 bD k i2 (i64.wrap (mN .u64 (u64.wrap (i64.wrap (i2+j2))) 1)))) else (some ((i2,j2)))
def be.l3 (m:Nat)(i3:Int):Nat→(List Int)→Int→Option ((List Int) × Int)
 | 0,_,_=>none
 | k+1,gg,k2=>if (decide (k2 > i3))=true then ((ix gg (i64.wrap (k2 - 1))).bind fun v8=>(ix gg k2).bind fun v9=>(ix gg k2).bind fun v10=>(ix (gg.set k2.toNat v8) (i64.wrap (k2 - 1))).bind fun v11=>be.l3 m i3 k ((gg.set k2.toNat v8).set (i64.wrap (k2 - 1)).toNat v9) (i64.wrap (k2 - 1))) else (some ((gg,k2)))
def be.l4 (m:Nat)(aG:List Int)(a0:Int)(m0:Int)(b0:Int)(bD:Int→Int→Option (Int)):Nat→Int→Int→Option (Int × Int)
 | 0,_,_=>none
 | k+1,jV,r3=>if (decide (jV<r3))=true then ((ix aG (i64.wrap (i64.wrap (i64.wrap (i64.wrap (mN .u64 (u64.wrap (i64.wrap (a0+b0))) 1)+m0) - 1) - i64.wrap (mN .u64 (u64.wrap (i64.wrap (jV+r3))) 1)))).bind fun v12=>(ix aG (i64.wrap (mN .u64 (u64.wrap (i64.wrap (jV+r3))) 1))).bind fun Og=>(bD v12 Og).bind fun r4=>if (!(decide (r4<0)))=true then (be.l4 m aG a0 m0 b0 bD k (i64.wrap (i64.wrap (mN .u64 (u64.wrap (i64.wrap (jV+r3))) 1)+1)) r3) else (be.l4 m aG a0 m0 b0 bD k jV (i64.wrap (mN .u64 (u64.wrap (i64.wrap (jV+r3))) 1)))) else (some ((jV,r3)))
def be.b (m:Nat)(rec:(List Int)→Int→Int→Int→(Int→Int→Option (Int))→Option ((List Int)))(aG:List Int)(a0:Int)(m0:Int)(b0:Int)(bD:Int→Int→Option (Int)):Option ((List Int)):=if ((i64.wrap (m0 - a0))==1)=true then ((be.l0 m aG a0 bD m m0 b0).bind fun bp=>match bp with | (i1,j1)=>(be.l1 m i1 m aG a0).bind fun cM=>match cM with | (fe,k1)=>some fe) else (if ((i64.wrap (b0 - m0))==1)=true then ((be.l2 m aG m0 bD m a0 m0).bind fun fU=>match fU with | (i3,j3)=>(be.l3 m i3 m aG m0).bind fun mI=>match mI with | (mY,k3)=>some mY) else (jn (fun (σ:Int × Int)=>match σ with | (Az,r2)=>(be.l4 m aG a0 m0 b0 bD m Az r2).bind fun eK=>match eK with | (jb,r5)=>jn (fun (σ:(List Int))=>match σ with | pv=>jn (fun (σ:(List Int))=>match σ with | vE=>if (decide ((i64.wrap (mN .u64 (u64.wrap (i64.wrap (a0+b0))) 1))<(i64.wrap (i64.wrap (i64.wrap (mN .u64 (u64.wrap (i64.wrap (a0+b0))) 1)+m0) - jb))))=true then (if (decide ((i64.wrap (i64.wrap (i64.wrap (mN .u64 (u64.wrap (i64.wrap (a0+b0))) 1)+m0) - jb))<b0))=true then ((rec vE (i64.wrap (mN .u64 (u64.wrap (i64.wrap (a0+b0))) 1)) (i64.wrap (i64.wrap (i64.wrap (mN .u64 (u64.wrap (i64.wrap (a0+b0))) 1)+m0) - jb)) b0 bD).bind fun x2=>some x2) else (some vE)) else (some vE)) fun vF=>(if (decide (a0<jb))=true then (if (decide (jb<(i64.wrap (mN .u64 (u64.wrap (i64.wrap (a0+b0))) 1))))=true then ((rec pv a0 jb (i64.wrap (mN .u64 (u64.wrap (i64.wrap (a0+b0))) 1)) bD).bind fun x1=>vF x1) else (vF pv)) else (vF pv))) fun LU=>(if (decide (jb<m0))=true then (if (decide (m0<(i64.wrap (i64.wrap (i64.wrap (mN .u64 (u64.wrap (i64.wrap (a0+b0))) 1)+m0) - jb))))=true then ((iX.f m aG jb m0 (i64.wrap (i64.wrap (i64.wrap (mN .u64 (u64.wrap (i64.wrap (a0+b0))) 1)+m0) - jb)) bD).bind fun x0=>LU x0) else (LU aG)) else (LU aG))) fun vh=>(if (decide (m0 > (i64.wrap (mN .u64 (u64.wrap (i64.wrap (a0+b0))) 1))))=true then (vh (i64.wrap (i64.wrap (i64.wrap (mN .u64 (u64.wrap (i64.wrap (a0+b0))) 1)+m0) - b0),i64.wrap (mN .u64 (u64.wrap (i64.wrap (a0+b0))) 1))) else (vh (a0,m0)))))
def be.f (m:Nat):Nat→(List Int)→Int→Int→Int→(Int→Int→Option (Int))→Option ((List Int))
 | 0,_,_,_,_,_=>none
 | k+1,aG,a0,m0,b0,bD=>be.b m (be.f m k) aG a0 m0 b0 bD
def be.fin (L:Mem)(aX:Nat)(aG:List Int)(a0:Int)(m0:Int)(b0:Int)(bD:Int→Int→Option (Int))(r:(List Int))(s:St):Prop:=aK Tryz.prog (s.open qz) Tryz.f146.results.toList=some (.tup [])∧Has s.h ((aX,.sl aG.length 1 (ab.l r))::L)
def By (cf:CallF)(m:Nat)(kk:Nat):Prop:=∀(aG:List Int) (a0:Int) (m0:Int) (b0:Int) (bD:Int→Int→Option (Int)) (r:(List Int)),be.f m kk aG a0 m0 b0 bD=some r→∀h L (dZ:Nat) (aX:Nat),Has h ((aX,.sl dZ 1 (ab.l aG))::L)→∀(iQ:FuncId) (bS bE:List AV),(ba (.fn iQ bS) = .fn iQ bS)→(∀(h:AHeap) (xs:List AV) (a0:Int) (a1:Int) r,bD a0 a1=some r→bl cd h xs ([.i a0,.i a1]++bE)→cf iQ xs h=some (.i r,h))→(∀h K,Has h (K++(L))→bl ez h bS bE)→(∀h,bl ez h bE bE)→∀xs,xs.map ba=[.rs aX 0 dZ 1,.i a0,.i m0,.i b0,.fn iQ bS]→∃h',cf 146 xs h=some (.tup [],h')∧Has h' ((aX,.sl dZ 1 (ab.l r))::L)
section
variable {cf:CallF}{m:Nat}
theorem be.cm (L:Mem)(aX:Nat)(iQ:FuncId)(bS bE:List AV)(aG:List Int)(a0:Int)(m0:Int)(b0:Int)(bD:Int→Int→Option (Int))  {kk:Nat}(lV:By cf m kk)(lT:ba (.fn iQ bS) = .fn iQ bS)(kX:∀(h:AHeap) (xs:List AV) (a0:Int) (a1:Int) r,bD a0 a1=some r→bl cd h xs ([.i a0,.i a1]++bE)→cf iQ xs h=some (.i r,h))(kY:∀h K,Has h (K++(L))→bl ez h bS bE)(lU:∀h,bl ez h bE bE)  : b9 Tryz.prog cf qz m (sub [0,1,0,1,1,0,0,0] (bw Tryz.f146)) (fun k (σ:Int × Int)=>be.l0 m aG a0 bD k σ.1 σ.2) (fun σ s=>match σ with | (i0,j0)=>∃h0,s=⟨.rs aX 0 aG.length 1 :: .i a0 :: .any :: .any :: .fn iQ bS :: .i i0 :: .i j0::Un [],[],h0⟩∧Has h0 ((aX,.sl aG.length 1 (ab.l aG))::L)) (fun out e s=>(e = .exit 0∧∃i0 j0,(i0,j0)=out∧∃Rt An aa2 h0,s=⟨.rs aX 0 aG.length 1 :: .i a0 :: .any :: .any::Rt :: .i i0::An::zO (aa2::zN []),[],h0⟩∧Has h0 ((aX,.sl aG.length 1 (ab.l aG))::L))):=by
 refine jF (fun _=>rfl) ?_
 rintro k ⟨i0,j0⟩ s out ⟨h0,rfl,o0⟩ H
 have H:be.l0 m aG a0 bD (k+1) i0 j0=some out:=H
 refine qq <| qq <| q0 <| qc H (fun c1 H=>?_) (fun c1 H=>?_)
 ·refine qk <| qb 1 <| qq <| q0 <| qq ?_
  obtain⟨v0,e0,H⟩:=aP H
  obtain⟨v1,e1,H⟩:=aP H
  obtain⟨r0,e2,H⟩:=aP H
  refine qr [.v 3 (aL (k:=.i64) (E:=ab) (l:=aG) (q:=0) da o0 rfl e0),.v 4 (bq  (E:=ab) (l:=aG) (q:=0) o0 rfl A3 e0 rfl),.v 7 (aL (k:=.i64) (E:=ab) (l:=aG) (q:=0) da o0 rfl e1),.v 8 (bq  (E:=ab) (l:=aG) (q:=0) o0 rfl A3 e1 rfl),.a 9 (kX _ _ _ _ _ e2 (S3 (ai (aU) (ai (aU) (aD))) (kY h0 [(aX,.sl aG.length 1 (ab.l aG))] o0)))] <| qc H (fun c2 H=>?_) (fun c2 H=>?_)
  ·exact q0 <| ⟨(i64.wrap (i64.wrap (mN .u64 (u64.wrap (i64.wrap (i0+j0))) 1)+1),j0),⟨h0,kr,o0⟩,H⟩
  ·exact q0 <| ⟨(i0,i64.wrap (mN .u64 (u64.wrap (i64.wrap (i0+j0))) 1)),⟨h0,kr,o0⟩,H⟩
 ·exact qx 0 <| ⟨rfl,i0,j0,oi H,.fn iQ bS,.i j0,.bool (decide (i0<j0)),h0,kr,o0⟩
theorem be.iw (L:Mem)(aX:Nat)(iQ:FuncId)(bS bE:List AV)(aG:List Int)(a0:Int)(m0:Int)(b0:Int)(bD:Int→Int→Option (Int))(i1:Int)  {kk:Nat}(lV:By cf m kk)(lT:ba (.fn iQ bS) = .fn iQ bS)(kX:∀(h:AHeap) (xs:List AV) (a0:Int) (a1:Int) r,bD a0 a1=some r→bl cd h xs ([.i a0,.i a1]++bE)→cf iQ xs h=some (.i r,h))(kY:∀h K,Has h (K++(L))→bl ez h bS bE)(lU:∀h,bl ez h bE bE)  : b9 Tryz.prog cf qz m (sub [0,1,0,1,1,1,0,1,0,0] (bw Tryz.f146)) (fun k (σ:(List Int) × Int)=>be.l1 m i1 k σ.1 σ.2) (fun σ s=>match σ with | (cg,k0)=>∃h2,s=⟨.rs aX 0 aG.length 1::l9 (.i i1 :: .any :: .any :: .i k0::Re []),[],h2⟩∧Has h2 ((aX,.sl aG.length 1 (ab.l cg))::L)) (fun out e s=>(e = .exit 2∧∃cg k0,(cg,k0)=out∧∃lH oG pZ N7 h2,s=⟨lH::l9 (oG :: .any :: .any::pZ::zO (N7::wG [])),[],h2⟩∧Has h2 ((aX,.sl aG.length 1 (ab.l cg))::L))):=by
 refine jF (fun _=>rfl) ?_
 rintro k ⟨cg,k0⟩ s out ⟨h2,rfl,o2⟩ H
 have H:be.l1 m i1 (k+1) cg k0=some out:=H
 refine qq <| qq <| q0 <| qc H (fun c3 H=>?_) (fun c3 H=>?_)
 ·refine qk <| qq <| qb 3 ?_
  obtain⟨v2,e4,H⟩:=aP H
  obtain⟨v3,e5,H⟩:=aP H
  obtain⟨v4,e6,H⟩:=aP H
  obtain⟨h3,e7,o3⟩:=dD (P:=Tryz.prog) (tf:=3) (E:=ab) (l:=cg) (q:=0) (v:=v2) (x:=.i v2) o2 rfl Z3 e6 rfl rfl
  obtain⟨v5,e8,H⟩:=aP H
  obtain⟨h4,e9,o4⟩:=dD (P:=Tryz.prog) (tf:=3) (E:=ab) (l:=(cg.set k0.toNat v2)) (q:=0) (v:=v3) (x:=.i v3) o3 rfl Z3 e8 rfl rfl
  exact qr [.v 8 (aL (k:=.i64) (E:=ab) (l:=cg) (q:=0) da o2 rfl e4),.v 9 (bq  (E:=ab) (l:=cg) (q:=0) o2 rfl A3 e4 rfl),.v 12 (aL (k:=.i64) (E:=ab) (l:=cg) (q:=0) da o2 rfl e5),.v 13 (bq  (E:=ab) (l:=cg) (q:=0) o2 rfl A3 e5 rfl),.v 14 (aL (k:=.i64) (E:=ab) (l:=cg) (q:=0) da o2 rfl e6),.w 15 e7,.v 16 (aL (k:=.i64) (E:=ab) (l:=(cg.set k0.toNat v2)) (q:=0) da o3 rfl e8),.w 17 e9] <| q0 <| ⟨((cg.set k0.toNat v2).set (i64.wrap (k0+1)).toNat v3,i64.wrap (k0+1)),⟨h4,kr,o4⟩,H⟩
 ·exact qx 2 <| ⟨rfl,cg,k0,oi H,.rs aX 0 aG.length 1,.i i1,.i k0,.bool (decide (k0<(i64.wrap (i1 - 1)))),h2,kr,o2⟩
theorem be.mK (L:Mem)(aX:Nat)(iQ:FuncId)(bS bE:List AV)(aG:List Int)(a0:Int)(m0:Int)(b0:Int)(bD:Int→Int→Option (Int))  {kk:Nat}(lV:By cf m kk)(lT:ba (.fn iQ bS) = .fn iQ bS)(kX:∀(h:AHeap) (xs:List AV) (a0:Int) (a1:Int) r,bD a0 a1=some r→bl cd h xs ([.i a0,.i a1]++bE)→cf iQ xs h=some (.i r,h))(kY:∀h K,Has h (K++(L))→bl ez h bS bE)(lU:∀h,bl ez h bE bE)  : b9 Tryz.prog cf qz m (sub [1,0,1,0,1,1,0,0,0] (bw Tryz.f146)) (fun k (σ:Int × Int)=>be.l2 m aG m0 bD k σ.1 σ.2) (fun σ s=>match σ with | (i2,j2)=>∃h6,s=⟨.rs aX 0 aG.length 1 :: .any :: .i m0 :: .any :: .fn iQ bS::l9 (.i i2 :: .i j2::Xi []),[],h6⟩∧Has h6 ((aX,.sl aG.length 1 (ab.l aG))::L)) (fun out e s=>(e = .exit 4∧∃i2 j2,(i2,j2)=out∧∃Rt DO aa3 h6,s=⟨.rs aX 0 aG.length 1 :: .any :: .i m0 :: .any::Rt::l9 (.i i2::DO::zO (aa3::tX [])),[],h6⟩∧Has h6 ((aX,.sl aG.length 1 (ab.l aG))::L))):=by
 refine jF (fun _=>rfl) ?_
 rintro k ⟨i2,j2⟩ s out ⟨h6,rfl,o6⟩ H
 have H:be.l2 m aG m0 bD (k+1) i2 j2=some out:=H
 refine qq <| qq <| q0 <| qc H (fun c5 H=>?_) (fun c5 H=>?_)
 ·refine qk <| qb 5 <| qq <| q0 <| qq ?_
  obtain⟨v6,nH,H⟩:=aP H
  obtain⟨v7,oS,H⟩:=aP H
  obtain⟨r1,rF,H⟩:=aP H
  refine qr [.v 3 (aL (k:=.i64) (E:=ab) (l:=aG) (q:=0) da o6 rfl nH),.v 4 (bq  (E:=ab) (l:=aG) (q:=0) o6 rfl A3 nH rfl),.v 7 (aL (k:=.i64) (E:=ab) (l:=aG) (q:=0) da o6 rfl oS),.v 8 (bq  (E:=ab) (l:=aG) (q:=0) o6 rfl A3 oS rfl),.a 9 (kX _ _ _ _ _ rF (S3 (ai (aU) (ai (aU) (aD))) (kY h6 [(aX,.sl aG.length 1 (ab.l aG))] o6)))] <| qc H (fun c6 H=>?_) (fun c6 H=>?_)
  ·exact q0 <| ⟨(i64.wrap (i64.wrap (mN .u64 (u64.wrap (i64.wrap (i2+j2))) 1)+1),j2),⟨h6,kr,o6⟩,H⟩
  ·exact q0 <| ⟨(i2,i64.wrap (mN .u64 (u64.wrap (i64.wrap (i2+j2))) 1)),⟨h6,kr,o6⟩,H⟩
 ·exact qx 4 <| ⟨rfl,i2,j2,oi H,.fn iQ bS,.i j2,.bool (decide (i2<j2)),h6,kr,o6⟩
theorem be.vz (L:Mem)(aX:Nat)(iQ:FuncId)(bS bE:List AV)(aG:List Int)(a0:Int)(m0:Int)(b0:Int)(bD:Int→Int→Option (Int))(i3:Int)  {kk:Nat}(lV:By cf m kk)(lT:ba (.fn iQ bS) = .fn iQ bS)(kX:∀(h:AHeap) (xs:List AV) (a0:Int) (a1:Int) r,bD a0 a1=some r→bl cd h xs ([.i a0,.i a1]++bE)→cf iQ xs h=some (.i r,h))(kY:∀h K,Has h (K++(L))→bl ez h bS bE)(lU:∀h,bl ez h bE bE)  : b9 Tryz.prog cf qz m (sub [1,0,1,0,1,1,1,0,1,0,0] (bw Tryz.f146)) (fun k (σ:(List Int) × Int)=>be.l3 m i3 k σ.1 σ.2) (fun σ s=>match σ with | (gg,k2)=>∃h8,s=⟨.rs aX 0 aG.length 1::tX (.i i3 :: .any :: .any :: .i k2::Um []),[],h8⟩∧Has h8 ((aX,.sl aG.length 1 (ab.l gg))::L)) (fun out e s=>(e = .exit 6∧∃gg k2,(gg,k2)=out∧∃lH Aa DQ X3 h8,s=⟨lH::tX (Aa :: .any :: .any::DQ::zO (X3::wF [])),[],h8⟩∧Has h8 ((aX,.sl aG.length 1 (ab.l gg))::L))):=by
 refine jF (fun _=>rfl) ?_
 rintro k ⟨gg,k2⟩ s out ⟨h8,rfl,o8⟩ H
 have H:be.l3 m i3 (k+1) gg k2=some out:=H
 refine qq <| qq <| q0 <| qc H (fun c7 H=>?_) (fun c7 H=>?_)
 ·refine qk <| qq <| qb 7 ?_
  obtain⟨v8,s8,H⟩:=aP H
  obtain⟨v9,vj,H⟩:=aP H
  obtain⟨v10,yV,H⟩:=aP H
  obtain⟨h9,yW,o9⟩:=dD (P:=Tryz.prog) (tf:=3) (E:=ab) (l:=gg) (q:=0) (v:=v8) (x:=.i v8) o8 rfl Z3 yV rfl rfl
  obtain⟨v11,vq,H⟩:=aP H
  obtain⟨h10,Bd,s9⟩:=dD (P:=Tryz.prog) (tf:=3) (E:=ab) (l:=(gg.set k2.toNat v8)) (q:=0) (v:=v9) (x:=.i v9) o9 rfl Z3 vq rfl rfl
  exact qr [.v 8 (aL (k:=.i64) (E:=ab) (l:=gg) (q:=0) da o8 rfl s8),.v 9 (bq  (E:=ab) (l:=gg) (q:=0) o8 rfl A3 s8 rfl),.v 12 (aL (k:=.i64) (E:=ab) (l:=gg) (q:=0) da o8 rfl vj),.v 13 (bq  (E:=ab) (l:=gg) (q:=0) o8 rfl A3 vj rfl),.v 14 (aL (k:=.i64) (E:=ab) (l:=gg) (q:=0) da o8 rfl yV),.w 15 yW,.v 16 (aL (k:=.i64) (E:=ab) (l:=(gg.set k2.toNat v8)) (q:=0) da o9 rfl vq),.w 17 Bd] <| q0 <| ⟨((gg.set k2.toNat v8).set (i64.wrap (k2 - 1)).toNat v9,i64.wrap (k2 - 1)),⟨h10,kr,s9⟩,H⟩
 ·exact qx 6 <| ⟨rfl,gg,k2,oi H,.rs aX 0 aG.length 1,.i i3,.i k2,.bool (decide (k2 > i3)),h8,kr,o8⟩
theorem be.vA (L:Mem)(aX:Nat)(iQ:FuncId)(bS bE:List AV)(aG:List Int)(a0:Int)(m0:Int)(b0:Int)(bD:Int→Int→Option (Int))  {kk:Nat}(lV:By cf m kk)(lT:ba (.fn iQ bS) = .fn iQ bS)(kX:∀(h:AHeap) (xs:List AV) (a0:Int) (a1:Int) r,bD a0 a1=some r→bl cd h xs ([.i a0,.i a1]++bE)→cf iQ xs h=some (.i r,h))(kY:∀h K,Has h (K++(L))→bl ez h bS bE)(lU:∀h,bl ez h bE bE)  : b9 Tryz.prog cf qz m (sub [1,1,1,1,1,1,1,0,0,0] (bw Tryz.f146)) (fun k (σ:Int × Int)=>be.l4 m aG a0 m0 b0 bD k σ.1 σ.2) (fun σ s=>match σ with | (jV,r3)=>∃h13,s=⟨.rs aX 0 aG.length 1 :: .i a0 :: .i m0 :: .i b0 :: .fn iQ bS::tX (.i (i64.wrap (mN .u64 (u64.wrap (i64.wrap (a0+b0))) 1)) :: .i (i64.wrap (i64.wrap (mN .u64 (u64.wrap (i64.wrap (a0+b0))) 1)+m0)) :: .i jV :: .i r3 :: .i (i64.wrap (i64.wrap (i64.wrap (mN .u64 (u64.wrap (i64.wrap (a0+b0))) 1)+m0) - 1))::HC []),[],h13⟩∧Has h13 ((aX,.sl aG.length 1 (ab.l aG))::L)) (fun out e s=>(e = .exit 8∧∃jV r3,(jV,r3)=out∧∃UW Am X4 h13,s=⟨.rs aX 0 aG.length 1 :: .i a0 :: .i m0 :: .i b0 :: .fn iQ bS::tX (.i (i64.wrap (mN .u64 (u64.wrap (i64.wrap (a0+b0))) 1)) :: .i (i64.wrap (i64.wrap (mN .u64 (u64.wrap (i64.wrap (a0+b0))) 1)+m0)) :: .i jV::UW::Am::vc (X4::l9 [])),[],h13⟩∧Has h13 ((aX,.sl aG.length 1 (ab.l aG))::L))):=by
 refine jF (fun _=>rfl) ?_
 rintro k ⟨jV,r3⟩ s out ⟨h13,rfl,mX⟩ H
 have H:be.l4 m aG a0 m0 b0 bD (k+1) jV r3=some out:=H
 refine qq <| qq <| q0 <| qc H (fun c9 H=>?_) (fun c9 H=>?_)
 ·refine qk <| qb 9 <| qq <| q0 <| qq ?_
  obtain⟨v12,Bv,H⟩:=aP H
  obtain⟨Og,Be,H⟩:=aP H
  obtain⟨r4,Bw,H⟩:=aP H
  refine qr [.v 5 (aL (k:=.i64) (E:=ab) (l:=aG) (q:=0) da mX rfl Bv),.v 6 (bq  (E:=ab) (l:=aG) (q:=0) mX rfl A3 Bv rfl),.v 9 (aL (k:=.i64) (E:=ab) (l:=aG) (q:=0) da mX rfl Be),.v 10 (bq  (E:=ab) (l:=aG) (q:=0) mX rfl A3 Be rfl),.a 11 (kX _ _ _ _ _ Bw (S3 (ai (aU) (ai (aU) (aD))) (kY h13 [(aX,.sl aG.length 1 (ab.l aG))] mX)))] <| qc H (fun Ag H=>?_) (fun Ag H=>?_)
  ·exact q0 <| ⟨(i64.wrap (i64.wrap (mN .u64 (u64.wrap (i64.wrap (jV+r3))) 1)+1),r3),⟨h13,kr,mX⟩,H⟩
  ·exact q0 <| ⟨(jV,i64.wrap (mN .u64 (u64.wrap (i64.wrap (jV+r3))) 1)),⟨h13,kr,mX⟩,H⟩
 ·exact qx 8 <| ⟨rfl,jV,r3,oi H,.i r3,.i (i64.wrap (i64.wrap (i64.wrap (mN .u64 (u64.wrap (i64.wrap (a0+b0))) 1)+m0) - 1)),.bool (decide (jV<r3)),h13,kr,mX⟩
theorem AA {aW:FuncId→b4}(ha:aW 146=qz)(X5:XR cf m)(aG:List Int)(a0:Int)(m0:Int)(b0:Int)(bD:Int→Int→Option (Int))(h:AHeap)(L:Mem)(aX:Nat)(iQ:FuncId)(bS bE:List AV)  {kk:Nat}(lV:By cf m kk)(lT:ba (.fn iQ bS) = .fn iQ bS)(kX:∀(h:AHeap) (xs:List AV) (a0:Int) (a1:Int) r,bD a0 a1=some r→bl cd h xs ([.i a0,.i a1]++bE)→cf iQ xs h=some (.i r,h))(kY:∀h K,Has h (K++(L))→bl ez h bS bE)(lU:∀h,bl ez h bE bE)(o:Has h ((aX,.sl aG.length 1 (ab.l aG))::L)){out:(List Int)}(H:be.f m (kk+1) aG a0 m0 b0 bD=some out) :
  ∃r h',bj Tryz.prog aW cf m 146 [.rs aX 0 aG.length 1,.i a0,.i m0,.i b0,.fn iQ bS] h=some (r,h')∧r = .tup []∧Has h' ((aX,.sl aG.length 1 (ab.l out))::L):=by
 refine aw (fn:=Tryz.f146) ha Tryz.func146 kr kr ?_
 refine aI (Q:=fun s=>be.fin L aX aG a0 m0 b0 bD out s) (fun _ _ ⟨h1,h2,h3⟩=>⟨h1,_,h2,rfl,h3⟩) ?_
 have H:be.b m (be.f m kk) aG a0 m0 b0 bD=some out:=H
 unfold be.b at H
 show dE _ cf qz m _ ⟨.rs aX 0 aG.length 1 :: .i a0 :: .i m0 :: .i b0 :: .fn iQ bS::Xk [],[],h⟩ _
 refine qq <| qq <| q0 <| qc H (fun c0 H=>?_) (fun c0 H=>?_)
 ·refine q1 <| qq <| q0 <| qq <| qb 0 ?_
  obtain⟨bp,e3,H⟩:=aP H
  refine ql (be.cm L aX iQ bS bE aG a0 m0 b0 bD  lV lT kX kY lU  (m0,b0) _ _ ⟨h,kr,o⟩ e3) ?_
  rintro e s ⟨rfl,i1,j1,rfl,g0,g1,g2,h1,rfl,o1⟩
  try dsimp only at H
  refine qq <| qq <| q0 <| qb 2 ?_
  obtain⟨cM,ma,H⟩:=aP H
  refine ql (be.iw L aX iQ bS bE aG a0 m0 b0 bD i1  lV lT kX kY lU  (aG,a0) _ _ ⟨h1,kr,o1⟩ ma) ?_
  rintro e s ⟨rfl,fe,k1,rfl,g3,g4,g5,g6,h5,rfl,o5⟩
  try dsimp only at H
  obtain rfl:=oi H
  exact qt <| ⟨.inl rfl,⟨kr,he o5⟩⟩
 ·refine qk <| qq <| qq <| q0 <| qc H (fun c4 H=>?_) (fun c4 H=>?_)
  ·refine q1 <| qq <| q0 <| qq <| qb 4 ?_
   obtain⟨fU,s7,H⟩:=aP H
   refine ql (be.mK L aX iQ bS bE aG a0 m0 b0 bD  lV lT kX kY lU  (a0,m0) _ _ ⟨h,kr,o⟩ s7) ?_
   rintro e s ⟨rfl,i3,j3,rfl,g7,g8,g9,h7,rfl,o7⟩
   try dsimp only at H
   refine qq <| qq <| q0 <| qb 6 ?_
   obtain⟨mI,Bu,H⟩:=aP H
   refine ql (be.vz L aX iQ bS bE aG a0 m0 b0 bD i3  lV lT kX kY lU  (aG,m0) _ _ ⟨h7,kr,o7⟩ Bu) ?_
   rintro e s ⟨rfl,mY,k3,rfl,g10,g11,g12,g13,h11,rfl,qP⟩
   try dsimp only at H
   obtain rfl:=oi H
   exact qt <| ⟨.inl rfl,⟨kr,he qP⟩⟩
  ·refine qk <| qq <| q0 <| qq <| q0 <| qq <| q0 ?_
   obtain⟨vh,Jo,H⟩:=ov H
   refine qj (S:=fun (σ:Int × Int) s=>match σ with | (Az,r2)=>∃(h12:AHeap),s=⟨.rs aX 0 aG.length 1 :: .i a0 :: .i m0 :: .i b0 :: .fn iQ bS::tX (.i (i64.wrap (mN .u64 (u64.wrap (i64.wrap (a0+b0))) 1)) :: .i (i64.wrap (i64.wrap (mN .u64 (u64.wrap (i64.wrap (a0+b0))) 1)+m0)) :: .i Az :: .i r2::Rc []),[],h12⟩∧Has h12 ((aX,.sl aG.length 1 (ab.l aG))::L)) vh H ?_ ?_
   ·rintro⟨Az,r2⟩ s ⟨h12,rfl,wP⟩ H
    have H:=(Jo _).symm.trans H
    try dsimp only at H
    refine q1 <| qq <| qb 8 ?_
    obtain⟨eK,DM,H⟩:=aP H
    refine ql (be.vA L aX iQ bS bE aG a0 m0 b0 bD  lV lT kX kY lU  (Az,r2) _ _ ⟨h12,kr,wP⟩ DM) ?_
    rintro e s ⟨rfl,jb,r5,rfl,g14,g15,g16,h14,rfl,vW⟩
    try dsimp only at H
    refine q1 ?_
    obtain⟨LU,Va,H⟩:=ov H
    refine qj (S:=fun (σ:(List Int)) s=>match σ with | pv=>∃(g17:AV) (g18:AV) (h16:AHeap),s=⟨.rs aX 0 aG.length 1 :: .i a0::g17 :: .i b0 :: .fn iQ bS::tX (.i (i64.wrap (mN .u64 (u64.wrap (i64.wrap (a0+b0))) 1)) :: .any :: .i jb::nc (.i (i64.wrap (i64.wrap (i64.wrap (mN .u64 (u64.wrap (i64.wrap (a0+b0))) 1)+m0) - jb))::vc [g18,.any,.any])),[],h16⟩∧Has h16 ((aX,.sl aG.length 1 (ab.l pv))::L)) LU H ?_ ?_
    ·rintro pv s ⟨g17,g18,h16,rfl,pn⟩ H
     have H:=(Va _).symm.trans H
     try dsimp only at H
     obtain⟨vF,Hs,H⟩:=ov H
     refine qj (S:=fun (σ:(List Int)) s=>match σ with | vE=>∃(g19:AV) (g20:AV) (g21:AV) (h18:AHeap),s=⟨.rs aX 0 aG.length 1::g19 :: .any :: .i b0 :: .fn iQ bS::tX (.i (i64.wrap (mN .u64 (u64.wrap (i64.wrap (a0+b0))) 1)) :: .any::g20::nc (.i (i64.wrap (i64.wrap (i64.wrap (mN .u64 (u64.wrap (i64.wrap (a0+b0))) 1)+m0) - jb))::zN [g21,.any])),[],h18⟩∧Has h18 ((aX,.sl aG.length 1 (ab.l vE))::L)) vF H ?_ ?_
     ·rintro vE s ⟨g19,g20,g21,h18,rfl,oM⟩ H
      have H:=(Hs _).symm.trans H
      try dsimp only at H
      refine qq ?_
      rcases eV H with⟨DR,H⟩| ⟨DR,H⟩
      ·refine qr [.b 3 DR] <| qc H (fun Vb H=>?_) (fun Vb H=>?_)
       ·obtain⟨x2,LS,H⟩:=aP H
        obtain⟨h19,GZ,Ao⟩:=lV _ _ _ _ _ _ LS h18 _ _ _ (oM) iQ bS bE lT kX (fun h' K' o'=>kY h' (K'++[]) (by simpa only [ai7,ajv,ajj] using o')) lU [.rs aX 0 aG.length 1,.i (i64.wrap (mN .u64 (u64.wrap (i64.wrap (a0+b0))) 1)),.i (i64.wrap (i64.wrap (i64.wrap (mN .u64 (u64.wrap (i64.wrap (a0+b0))) 1)+m0) - jb)),.i b0,.fn iQ bS] cq
        obtain rfl:=oi H
        exact qr [.a 5 GZ] <| ⟨.inr rfl,⟨kr,he Ao⟩⟩
       ·obtain rfl:=oi H
        exact qk <| ⟨.inr rfl,⟨kr,he oM⟩⟩
      ·obtain rfl:=oi H
       exact qr [.b 3 DR] <| Dr <| qk <| ⟨.inr rfl,⟨kr,he oM⟩⟩
     clear Hs
     intro Vc
     refine qq ?_
     rcases eV H with⟨yl,H⟩| ⟨yl,H⟩
     ·refine qr [.b 3 yl] <| qc H (fun FK H=>?_) (fun FK H=>?_)
      ·obtain⟨x1,JM,H⟩:=aP H
       obtain⟨h17,LR,yX⟩:=lV _ _ _ _ _ _ JM h16 _ _ _ (pn) iQ bS bE lT kX (fun h' K' o'=>kY h' (K'++[]) (by simpa only [ai7,ajv,ajj] using o')) lU [.rs aX 0 aG.length 1,.i a0,.i jb,.i (i64.wrap (mN .u64 (u64.wrap (i64.wrap (a0+b0))) 1)),.fn iQ bS] cq
       exact qr [.a 5 LR] <| Vc x1 _ ⟨.any,.any,.any,h17,kr,yX⟩ H
      ·exact qk <| Vc pv _ ⟨.i a0,.i jb,.bool (decide (jb<(i64.wrap (mN .u64 (u64.wrap (i64.wrap (a0+b0))) 1)))),h16,kr,pn⟩ H
     ·exact qr [.b 3 yl] <| Dr <| qk <| Vc pv _ ⟨.i a0,.i jb,.bool false,h16,kr,pn⟩ H
    clear Va
    intro LV
    refine qq ?_
    rcases eV H with⟨sd,H⟩| ⟨sd,H⟩
    ·refine qr [.b 3 sd] <| qc H (fun yk H=>?_) (fun yk H=>?_)
     ·obtain⟨x0,DS,H⟩:=aP H
      obtain⟨h15,HV,Bx⟩:=X5 _ _ _ _ _ _ DS h14 _ _ _ (vW) iQ bS bE lT kX (fun h' K' o'=>kY h' (K'++[]) (by simpa only [ai7,ajv,ajj] using o')) lU [.rs aX 0 aG.length 1,.i jb,.i m0,.i (i64.wrap (i64.wrap (i64.wrap (mN .u64 (u64.wrap (i64.wrap (a0+b0))) 1)+m0) - jb)),.fn iQ bS] cq
      exact qr [.a 5 HV] <| LV x0 _ ⟨.any,.any,h15,kr,Bx⟩ H
     ·exact qk <| LV aG _ ⟨.i m0,.bool (decide (m0<(i64.wrap (i64.wrap (i64.wrap (mN .u64 (u64.wrap (i64.wrap (a0+b0))) 1)+m0) - jb)))),h14,kr,vW⟩ H
    ·exact qr [.b 3 sd] <| Dr <| qk <| LV aG _ ⟨.i m0,.bool false,h14,kr,vW⟩ H
   clear Jo
   intro sZ
   refine q1 <| qc H (fun c8 H=>?_) (fun c8 H=>?_)
   ·exact q1 <| q0 <| sZ (i64.wrap (i64.wrap (i64.wrap (mN .u64 (u64.wrap (i64.wrap (a0+b0))) 1)+m0) - b0),i64.wrap (mN .u64 (u64.wrap (i64.wrap (a0+b0))) 1)) _ ⟨h,kr,o⟩ H
   ·exact q1 <| q0 <| sZ (a0,m0) _ ⟨h,kr,o⟩ H
end
def JW:b4:=gL [0,1,2,4,5,6,7,13] [] [249,217,89,231,191,191,231] [] []
def fS.f (m:Nat)(s0:ae)(n0:Int):Option ((List Int) × Int):=(cQ.f m s0 ([n0])).bind fun x0=>if (!(x0==0))=true then (some ([],x0)) else ((a7.f m s0 n0).bind fun x1=>(fQ.f m x1 (fun y0=>eP.f m y0 s0)).bind fun x2=>some (kK x2,0))
def fS.fin (L:Mem)(r:(List Int) × Int)(s:St):Prop:=∃av,aK Tryz.prog (s.open JW) Tryz.f27.results.toList=some av∧eX s.h av (.tup [ab.fz r.1,.i r.2])
def S27 (cf:CallF)(m:Nat):Prop:=∀(s0:ae) (n0:Int) (r:(List Int) × Int),fS.f m s0 n0=some r→∀h xs,bl cd h xs [.fp [.bool s0.ay,af.fz s0.aa,ab.fz s0.an] 0,.i n0]→cf 27 xs h=some (.tup [ab.fz r.1,.i r.2],h)
section
variable {cf:CallF}{m:Nat}
theorem rr {aW:FuncId→b4}(ha:aW 27=JW)(AB:U8 cf m)(Vd:S60 cf m)(UZ:S63 cf m)(aa4:S64 cf m)(U0:S66 cf m)(s0:ae)(n0:Int)(h:AHeap)(L:Mem)  (o:Has h (L)){out:(List Int) × Int}(H:fS.f m s0 n0=some out) :
  ∃r h',bj Tryz.prog aW cf m 27 [.fp [.bool s0.ay,af.fz s0.aa,ab.fz s0.an] 0,.i n0] h=some (r,h')∧eX h' r (.tup [ab.fz out.1,.i out.2]):=by
 refine aw (fn:=Tryz.f27) ha Tryz.func27 kr kr ?_
 refine aI (Q:=fun s=>fS.fin L out s) (fun _ _ h=>h) ?_
 have H:_=some out:=H
 unfold fS.f at H
 show dE _ cf JW m _ ⟨.fp [.bool s0.ay,af.fz s0.aa,ab.fz s0.an] 0 :: .i n0::wF [],[],h⟩ _
 refine qq ?_
 obtain⟨aX,h0,e0,o0⟩:=ja (cs:=[.fp [.bool s0.ay,af.fz s0.aa,ab.fz s0.an] 0]) o kr
 refine qr [.a 0 e0] <| qq <| qq ?_
 obtain⟨x0,e1,H⟩:=aP H
 refine qr [.v 0 (show bR Tryz.prog h0 31 (.ptr aX 0)=some (.fp [.bool s0.ay,af.fz s0.aa,ab.fz s0.an] 0) from cJ (q:=0) (cs:=[.fp [.bool s0.ay,af.fz s0.aa,ab.fz s0.an] 0]) o0 rfl kr),.a 3 (AB _ _ _ e1 h0 _ (ia (ai (cV (pure_cons (bc) (pure_cons (bM.aJ (E:=af) (l:=s0.aa)) (pure_cons (bM.aJ (E:=ab) (l:=s0.an)) (pure_nil))))) (ai (rW (E:=ab) (l:=[n0]) (cs:=[.i n0]) (b:=true) kr kr rfl) (aD)))))] <| qq <| q0 <| qc H (fun c0 H=>?_) (fun c0 H=>?_)
 ·refine q1 ?_
  obtain rfl:=oi H
  exact qt <| ⟨.inl rfl,pX (.tup [.nils,.i x0]) h0 (oR (kN (de (ot) (de (fw) (kM)))))⟩
 ·refine qk <| qq ?_
  obtain⟨x1,e2,H⟩:=aP H
  obtain⟨b7,h1,e3,o2,Lc⟩:=Vd _ _ _ e2 h0 _ _ o0 (ia (ai (cV (pure_cons (bc) (pure_cons (bM.aJ (E:=af) (l:=s0.aa)) (pure_cons (bM.aJ (E:=ab) (l:=s0.an)) (pure_nil))))) (ai (aU) (aD))))
  obtain⟨x2,e4,H⟩:=aP H
  obtain⟨h2,e5,o3⟩:=UZ _ _ _ e4 h1 _ _ _ (o2) 64 [.ptr aX 0] [.fp [.fp [.bool s0.ay,af.fz s0.aa,ab.fz s0.an] 0] 0] rfl (fun h' Ak y0 r hr hx=>aa4 y0 _ r hr h' Ak hx) (fun h' K' o'=>lC (ai (dM (q:=(K'.length+0)) o' (mg rfl) (ai (cV (pure_cons (bc) (pure_cons (bM.aJ (E:=af) (l:=s0.aa)) (pure_cons (bM.aJ (E:=ab) (l:=s0.an)) (pure_nil))))) (aD))) (aD))) (fun h_=>lC (ai (cV (pure_cons (nh (pure_cons (bc) (pure_cons (bM.aJ (E:=af) (l:=s0.aa)) (pure_cons (bM.aJ (E:=ab) (l:=s0.an)) (pure_nil))))) (pure_nil))) (aD))) [.rs b7 0 x1.length 1,.fn 64 [.ptr aX 0]] cq
  refine qr [.v 0 (show bR Tryz.prog h0 31 (.ptr aX 0)=some (.fp [.bool s0.ay,af.fz s0.aa,ab.fz s0.an] 0) from cJ (q:=0) (cs:=[.fp [.bool s0.ay,af.fz s0.aa,ab.fz s0.an] 0]) o0 rfl kr),.a 2 e3,.a 4 e5] ?_
  have o4:Has h2 ((b7,.sl x2.length 1 (ab.l x2))::L):=iC o3 1
  refine qq ?_
  obtain⟨h3,e6,o5⟩:=NN (l:=x2) U0 o4
  obtain rfl:=oi H
  exact qr [.a 1 e6] <| qq <| q0 <| qt <| ⟨.inl rfl,pX (.tup [.rs b7 0 x2.length 1,.i 0]) h3 (oR (kN (de (zI (E:=ab) (l:=(kK x2)) (q:=0) o5 rfl (fun _=>rfl)) (de (fw) (kM)))))⟩
end
end Go.Proofs.YtifafejidnjckaaGreat
