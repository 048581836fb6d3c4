/- Part of the proof: Q29, Q32, Q33, Q38, Q42, Q53, Q73, Q78, Q81, Q102, Q112, Q134, Q138, Q11, Q23, Q31, Q36. -/
import Derived.Test.YtifafejidnjckaaGreatK10
set_option linter.unusedVariables false
set_option linter.unusedSimpArgs false
set_option maxRecDepth 100000
open ByteArray renaming mk → ajg
open List renaming append_assoc → ai7, nil_append → ajj, cons_append → ajv
open Or renaming inr → ajW, inl → akl
namespace Go.Proofs.YtifafejidnjckaaGreat
open Go Go.R
open Go.IntKind (i64 u64 u8 u32)
def JX:b4:=gL [0,1,2,6,7,8,9,10,17,27] [] [1016,984,728,999,830,446,1023,999,999] [(6,[(9,none,0)])] [(0,[(6,none,1)]),(3,[(6,none,1)]),(7,[(6,none,1)])]
def dL.f (m:Nat)(s0:ae)(a0:Int)(b0:Int):Option ((List Int) × Int × ae):=(cQ.f m s0 ([a0,b0])).bind fun x0=>if (!(x0==0))=true then (some (([]:List Int),x0,s0)) else ((aQ.f m s0 a0 b0).bind fun x1=>if (!x1.2.1)=true then ((bU.f m x1.2.2 x1.1).bind fun x2=>some (([]:List Int),8,x2)) else ((eH.f m x1.2.2 x1.1).bind fun x3=>some (x3,0,x1.2.2)))
def dL.fin (L:Mem)(au:Nat)(aq:Nat)(az:Nat)(s0:ae)(a0:Int)(b0:Int)(r:(List Int) × Int × ae)(s:St):Prop:=∃cR aB aC:Nat,aK Tryz.prog (s.open JX) Tryz.f29.results.toList=some (.tup [.rs cR 0 r.1.length 1,.i r.2.1])∧Has s.h ((cR,.sl r.1.length 1 (ab.l r.1))::(au,.ob [.bool r.2.2.ay,.rs aB 0 r.2.2.aa.length 4,.rs aC 0 r.2.2.an.length 1])::(aB,.sl r.2.2.aa.length 4 (af.l r.2.2.aa))::(aC,.sl r.2.2.an.length 1 (ab.l r.2.2.an))::L)
def S29 (cf:CallF)(m:Nat):Prop:=∀(s0:ae) (a0:Int) (b0:Int) (r:(List Int) × Int × ae),dL.f m s0 a0 b0=some r→∀h L (au:Nat) (aq:Nat) (az:Nat),Has h ((au,.ob [.bool s0.ay,.rs aq 0 s0.aa.length 4,.rs az 0 s0.an.length 1])::(aq,.sl s0.aa.length 4 (af.l s0.aa))::(az,.sl s0.an.length 1 (ab.l s0.an))::L)→∀xs,xs.map ba=[.ptr au 0,.i a0,.i b0]→∃cR aB aC h',cf 29 xs h=some (.tup [.rs cR 0 r.1.length 1,.i r.2.1],h')∧Has h' ((cR,.sl r.1.length 1 (ab.l r.1))::(au,.ob [.bool r.2.2.ay,.rs aB 0 r.2.2.aa.length 4,.rs aC 0 r.2.2.an.length 1])::(aB,.sl r.2.2.aa.length 4 (af.l r.2.2.aa))::(aC,.sl r.2.2.an.length 1 (ab.l r.2.2.an))::L)
section
variable {cf:CallF}{m:Nat}
theorem qA {aW:FuncId→b4}(ha:aW 29=JX)(AB:U8 cf m)(Ve:S68 cf m)(Vf:S69 cf m)(Vh:S70 cf m)(s0:ae)(a0:Int)(b0:Int)(h:AHeap)(L:Mem)(au:Nat)(aq:Nat)(az:Nat)  (o:Has h ((au,.ob [.bool s0.ay,.rs aq 0 s0.aa.length 4,.rs az 0 s0.an.length 1])::(aq,.sl s0.aa.length 4 (af.l s0.aa))::(az,.sl s0.an.length 1 (ab.l s0.an))::L)){out:(List Int) × Int × ae}(H:dL.f m s0 a0 b0=some out) :
  ∃r h',bj Tryz.prog aW cf m 29 [.ptr au 0,.i a0,.i b0] h=some (r,h')∧∃cR aB aC:Nat,r = .tup [.rs cR 0 out.1.length 1,.i out.2.1]∧Has h' ((cR,.sl out.1.length 1 (ab.l out.1))::(au,.ob [.bool out.2.2.ay,.rs aB 0 out.2.2.aa.length 4,.rs aC 0 out.2.2.an.length 1])::(aB,.sl out.2.2.aa.length 4 (af.l out.2.2.aa))::(aC,.sl out.2.2.an.length 1 (ab.l out.2.2.an))::L):=by
 refine aw (fn:=Tryz.f29) ha Tryz.func29 kr kr ?_
 refine aI (Q:=fun s=>dL.fin L au aq az s0 a0 b0 out s) (fun _ _ ⟨h1,cR,aB,aC,h2,h3⟩=>⟨h1,_,h2,cR,aB,aC,rfl,h3⟩) ?_
 have H:_=some out:=H
 unfold dL.f at H
 show dE _ cf JX m _ ⟨.ptr au 0 :: .i a0 :: .i b0::B0 [],[],h⟩ _
 refine q1 <| qq <| qq ?_
 obtain⟨x0,e0,H⟩:=aP H
 refine qr [.a 4 (AB _ _ _ e0 h _ (ia (ai (dM (q:=0) o rfl (ai (eM) (ai (cC (E:=af) (l:=s0.aa) (q:=1) o rfl (fun _=>rfl)) (ai (cC (E:=ab) (l:=s0.an) (q:=2) o rfl (fun _=>rfl)) (aD))))) (ai (rW (E:=ab) (l:=[a0,b0]) (cs:=[.i a0,.i b0]) (b:=true) kr kr rfl) (aD)))))] <| qq <| q0 <| qc H (fun c0 H=>?_) (fun c0 H=>?_)
 ·refine q1 ?_
  have o0:Has h (((0),.sl (([]:List Int).length) 1 (ab.l ([]:List Int)))::(au,.ob [.bool s0.ay,.rs aq 0 s0.aa.length 4,.rs az 0 s0.an.length 1])::(aq,.sl s0.aa.length 4 (af.l s0.aa))::(az,.sl s0.an.length 1 (ab.l s0.an))::L):=Has.nil o 1
  obtain rfl:=oi H
  exact qt <| ⟨.inl rfl,⟨(0),aq,az,kr,he o0⟩⟩
 ·refine qk <| qq ?_
  obtain⟨x1,e1,H⟩:=aP H
  obtain⟨aX,b7,bT,h0,e2,o1⟩:=Ve _ _ _ _ e1 h _ _ _ _ (o)  [.ptr au 0,.i a0,.i b0] cq
  refine qr [.a 3 e2] <| qq <| qq <| q0 <| qc H (fun c1 H=>?_) (fun c1 H=>?_)
  ·refine qq ?_
   obtain⟨h1,e3,o2⟩:=lQ (E:=ab) (l:=x1.1) (q:=0) o1 rfl
   obtain⟨x2,e4,H⟩:=aP H
   obtain⟨cK,dN,h2,e5,o3⟩:=Vf _ _ _ e4 h1 _ _ _ _ (o2)  [.ptr au 0,ab.fz x1.1] cq
   refine Jb [.a 0 e3] [.a 2 e5] <| qq <| q0 ?_
   have o4:Has h2 ((((0)),.sl (([]:List Int).length) 1 (ab.l ([]:List Int)))::(au,.ob [.bool x2.ay,.rs cK 0 x2.aa.length 4,.rs dN 0 x2.an.length 1])::(cK,.sl x2.aa.length 4 (af.l x2.aa))::(dN,.sl x2.an.length 1 (ab.l x2.an))::L):=Has.nil o3 1
   obtain rfl:=oi H
   exact qt <| ⟨.inl rfl,⟨((0)),cK,dN,kr,he o4⟩⟩
  ·refine qk <| qq ?_
   obtain⟨x3,e6,H⟩:=aP H
   obtain⟨gM,h3,e7,o5,Lc⟩:=Vh _ _ _ e6 h0 _ _ o1 (ia (ai (dM (q:=1) o1 rfl (ai (eM) (ai (cC (E:=af) (l:=x1.2.2.aa) (q:=2) o1 rfl (fun _=>rfl)) (ai (cC (E:=ab) (l:=x1.2.2.an) (q:=3) o1 rfl (fun _=>rfl)) (aD))))) (ai (cC (E:=ab) (l:=x1.1) (q:=0) o1 rfl (fun _=>rfl)) (aD))))
   refine qr [.a 2 e7] ?_
   have o6:Has h3 ((gM,.sl x3.length 1 (ab.l x3))::(au,.ob [.bool x1.2.2.ay,.rs b7 0 x1.2.2.aa.length 4,.rs bT 0 x1.2.2.an.length 1])::(b7,.sl x1.2.2.aa.length 4 (af.l x1.2.2.aa))::(bT,.sl x1.2.2.an.length 1 (ab.l x1.2.2.an))::L):=iC o5 1
   obtain rfl:=oi H
   exact qt <| ⟨.inl rfl,⟨gM,b7,bT,kr,he o6⟩⟩
end
def JY:b4:=gL [0,1,4,5,6,12] [] [60,44,12,51,51] [] []
def gC.f (m:Nat)(s0:ae)(n0:Int):Option (Int × Int):=(cQ.f m s0 ([n0])).bind fun x0=>if (!(x0==0))=true then (some (0,x0)) else ((bK.f m s0 n0).bind fun x1=>some (x1,0))
def gC.fin (L:Mem)(r:Int × Int)(s:St):Prop:=∃av,aK Tryz.prog (s.open JY) Tryz.f32.results.toList=some av∧eX s.h av (.tup [.i r.1,.i r.2])
def S32 (cf:CallF)(m:Nat):Prop:=∀(s0:ae) (n0:Int) (r:Int × Int),gC.f m s0 n0=some r→∀h xs,bl cd h xs [.fp [.bool s0.ay,af.fz s0.aa,ab.fz s0.an] 0,.i n0]→cf 32 xs h=some (.tup [.i r.1,.i r.2],h)
section
variable {cf:CallF}{m:Nat}
theorem ss {aW:FuncId→b4}(ha:aW 32=JY)(AB:U8 cf m)(qo:Qk cf m)(s0:ae)(n0:Int)(h:AHeap)(L:Mem)  (o:Has h (L)){out:Int × Int}(H:gC.f m s0 n0=some out) :
  ∃r h',bj Tryz.prog aW cf m 32 [.fp [.bool s0.ay,af.fz s0.aa,ab.fz s0.an] 0,.i n0] h=some (r,h')∧eX h' r (.tup [.i out.1,.i out.2]):=by
 refine aw (fn:=Tryz.f32) ha Tryz.func32 kr kr ?_
 refine aI (Q:=fun s=>gC.fin L out s) (fun _ _ h=>h) ?_
 have H:_=some out:=H
 unfold gC.f at H
 show dE _ cf JY m _ ⟨.fp [.bool s0.ay,af.fz s0.aa,ab.fz s0.an] 0 :: .i n0::l9 [],[],h⟩ _
 refine q1 <| qq <| qq ?_
 obtain⟨x0,e0,H⟩:=aP H
 refine qr [.a 3 (AB _ _ _ e0 h _ (ia (ai (cV (pure_cons (bc) (pure_cons (bM.aJ (E:=af) (l:=s0.aa)) (pure_cons (bM.aJ (E:=ab) (l:=s0.an)) (pure_nil))))) (ai (rW (E:=ab) (l:=[n0]) (cs:=[.i n0]) (b:=true) kr kr rfl) (aD)))))] <| qq <| q0 <| qc H (fun c0 H=>?_) (fun c0 H=>?_)
 ·obtain rfl:=oi H
  exact q1 <| qt <| ⟨.inl rfl,pX (.tup [.i 0,.i x0]) h (oR (kN (de (fw) (de (fw) (kM)))))⟩
 ·refine qk <| qq ?_
  obtain⟨x1,e1,H⟩:=aP H
  obtain rfl:=oi H
  exact qr [.a 2 (qo _ _ _ e1 h _ (ia (ai (cV (pure_cons (bc) (pure_cons (bM.aJ (E:=af) (l:=s0.aa)) (pure_cons (bM.aJ (E:=ab) (l:=s0.an)) (pure_nil))))) (ai (aU) (aD)))))] <| qt <| ⟨.inl rfl,pX (.tup [.i x1,.i 0]) h (oR (kN (de (fw) (de (fw) (kM)))))⟩
end
def JZ:b4:=gL [0,1,2,6,7,8,9,10,11,12,19,34,37] [] [8184,8120,7096,8135,7806,7806,7423,5631,8135,3583,8135,8135] [(5,[(10,none,0)])] [(0,[(7,none,1)]),(3,[(7,none,1)]),(8,[(7,none,1)]),(10,[(7,none,1)])]
def eh.f (m:Nat)(s0:ae)(a0:Int)(b0:Int):Option (Int × (List Int) × Int × ae):=(cQ.f m s0 ([a0,b0])).bind fun x0=>if (!(x0==0))=true then (some (0,([]:List Int),x0,s0)) else ((aQ.f m s0 a0 b0).bind fun x1=>(bU.f m x1.2.2 x1.1).bind fun x2=>(eH.f m x2 x1.1).bind fun x3=>if (!x1.2.1)=true then (some (0,([]:List Int),0,x2)) else (if ((x3.length:Int)==0)=true then (some (1,([]:List Int),0,x2)) else (some ((-1:Int),x3,0,x2))))
def eh.fin (L:Mem)(au:Nat)(aq:Nat)(az:Nat)(s0:ae)(a0:Int)(b0:Int)(r:Int × (List Int) × Int × ae)(s:St):Prop:=∃MA aB aC:Nat,aK Tryz.prog (s.open JZ) Tryz.f33.results.toList=some (.tup [.i r.1,.rs MA 0 r.2.1.length 1,.i r.2.2.1])∧Has s.h ((MA,.sl r.2.1.length 1 (ab.l r.2.1))::(au,.ob [.bool r.2.2.2.ay,.rs aB 0 r.2.2.2.aa.length 4,.rs aC 0 r.2.2.2.an.length 1])::(aB,.sl r.2.2.2.aa.length 4 (af.l r.2.2.2.aa))::(aC,.sl r.2.2.2.an.length 1 (ab.l r.2.2.2.an))::L)
def S33 (cf:CallF)(m:Nat):Prop:=∀(s0:ae) (a0:Int) (b0:Int) (r:Int × (List Int) × Int × ae),eh.f m s0 a0 b0=some r→∀h L (au:Nat) (aq:Nat) (az:Nat),Has h ((au,.ob [.bool s0.ay,.rs aq 0 s0.aa.length 4,.rs az 0 s0.an.length 1])::(aq,.sl s0.aa.length 4 (af.l s0.aa))::(az,.sl s0.an.length 1 (ab.l s0.an))::L)→∀xs,xs.map ba=[.ptr au 0,.i a0,.i b0]→∃MA aB aC h',cf 33 xs h=some (.tup [.i r.1,.rs MA 0 r.2.1.length 1,.i r.2.2.1],h')∧Has h' ((MA,.sl r.2.1.length 1 (ab.l r.2.1))::(au,.ob [.bool r.2.2.2.ay,.rs aB 0 r.2.2.2.aa.length 4,.rs aC 0 r.2.2.2.an.length 1])::(aB,.sl r.2.2.2.aa.length 4 (af.l r.2.2.2.aa))::(aC,.sl r.2.2.2.an.length 1 (ab.l r.2.2.2.an))::L)
section
variable {cf:CallF}{m:Nat}
theorem ru {aW:FuncId→b4}(ha:aW 33=JZ)(AB:U8 cf m)(Ve:S68 cf m)(Vf:S69 cf m)(Vh:S70 cf m)(s0:ae)(a0:Int)(b0:Int)(h:AHeap)(L:Mem)(au:Nat)(aq:Nat)(az:Nat)  (o:Has h ((au,.ob [.bool s0.ay,.rs aq 0 s0.aa.length 4,.rs az 0 s0.an.length 1])::(aq,.sl s0.aa.length 4 (af.l s0.aa))::(az,.sl s0.an.length 1 (ab.l s0.an))::L)){out:Int × (List Int) × Int × ae}(H:eh.f m s0 a0 b0=some out) :
  ∃r h',bj Tryz.prog aW cf m 33 [.ptr au 0,.i a0,.i b0] h=some (r,h')∧∃MA aB aC:Nat,r = .tup [.i out.1,.rs MA 0 out.2.1.length 1,.i out.2.2.1]∧Has h' ((MA,.sl out.2.1.length 1 (ab.l out.2.1))::(au,.ob [.bool out.2.2.2.ay,.rs aB 0 out.2.2.2.aa.length 4,.rs aC 0 out.2.2.2.an.length 1])::(aB,.sl out.2.2.2.aa.length 4 (af.l out.2.2.2.aa))::(aC,.sl out.2.2.2.an.length 1 (ab.l out.2.2.2.an))::L):=by
 refine aw (fn:=Tryz.f33) ha Tryz.func33 kr kr ?_
 refine aI (Q:=fun s=>eh.fin L au aq az s0 a0 b0 out s) (fun _ _ ⟨h1,MA,aB,aC,h2,h3⟩=>⟨h1,_,h2,MA,aB,aC,rfl,h3⟩) ?_
 have H:_=some out:=H
 unfold eh.f at H
 show dE _ cf JZ m _ ⟨.ptr au 0 :: .i a0 :: .i b0::wG [],[],h⟩ _
 refine q1 <| qq <| qq ?_
 obtain⟨x0,e0,H⟩:=aP H
 refine qr [.a 4 (AB _ _ _ e0 h _ (ia (ai (dM (q:=0) o rfl (ai (eM) (ai (cC (E:=af) (l:=s0.aa) (q:=1) o rfl (fun _=>rfl)) (ai (cC (E:=ab) (l:=s0.an) (q:=2) o rfl (fun _=>rfl)) (aD))))) (ai (rW (E:=ab) (l:=[a0,b0]) (cs:=[.i a0,.i b0]) (b:=true) kr kr rfl) (aD)))))] <| qq <| q0 <| qc H (fun c0 H=>?_) (fun c0 H=>?_)
 ·refine q1 ?_
  have o0:Has h (((0),.sl (([]:List Int).length) 1 (ab.l ([]:List Int)))::(au,.ob [.bool s0.ay,.rs aq 0 s0.aa.length 4,.rs az 0 s0.an.length 1])::(aq,.sl s0.aa.length 4 (af.l s0.aa))::(az,.sl s0.an.length 1 (ab.l s0.an))::L):=Has.nil o 1
  obtain rfl:=oi H
  exact qt <| ⟨.inl rfl,⟨(0),aq,az,kr,he o0⟩⟩
 ·refine qk <| qq ?_
  obtain⟨x1,e1,H⟩:=aP H
  obtain⟨aX,b7,bT,h0,e2,o1⟩:=Ve _ _ _ _ e1 h _ _ _ _ (o)  [.ptr au 0,.i a0,.i b0] cq
  refine qr [.a 3 e2] <| qq ?_
  obtain⟨h1,e3,o2⟩:=lQ (E:=ab) (l:=x1.1) (q:=0) o1 rfl
  obtain⟨x2,e4,H⟩:=aP H
  obtain⟨cK,dN,h2,e5,o3⟩:=Vf _ _ _ e4 h1 _ _ _ _ (o2)  [.ptr au 0,ab.fz x1.1] cq
  refine Jb [.a 0 e3] [.a 2 e5] <| qq ?_
  obtain⟨x3,e6,H⟩:=aP H
  obtain⟨gM,h3,e7,o4,Lc⟩:=Vh _ _ _ e6 h2 _ _ o3 (ia (ai (dM (q:=0) o3 rfl (ai (eM) (ai (cC (E:=af) (l:=x2.aa) (q:=1) o3 rfl (fun _=>rfl)) (ai (cC (E:=ab) (l:=x2.an) (q:=2) o3 rfl (fun _=>rfl)) (aD))))) (ai (iu (E:=ab)) (aD))))
  refine qr [.a 2 e7] <| qq <| qb 0 <| qq <| q0 <| qc H (fun c1 H=>?_) (fun c1 H=>?_)
  ·refine q1 ?_
   have o5:Has h3 ((((0)),.sl (([]:List Int).length) 1 (ab.l ([]:List Int)))::(gM,.sl x3.length 1 (ab.l x3))::(au,.ob [.bool x2.ay,.rs cK 0 x2.aa.length 4,.rs dN 0 x2.an.length 1])::(cK,.sl x2.aa.length 4 (af.l x2.aa))::(dN,.sl x2.an.length 1 (ab.l x2.an))::L):=Has.nil o4 1
   have o6:Has h3 ((((0)),.sl (([]:List Int).length) 1 (ab.l ([]:List Int)))::(au,.ob [.bool x2.ay,.rs cK 0 x2.aa.length 4,.rs dN 0 x2.an.length 1])::(cK,.sl x2.aa.length 4 (af.l x2.aa))::(dN,.sl x2.an.length 1 (ab.l x2.an))::L):=iC o5 1
   obtain rfl:=oi H
   exact qt <| ⟨.inl rfl,⟨((0)),cK,dN,kr,he o6⟩⟩
  ·refine q1 <| qc H (fun c2 H=>?_) (fun c2 H=>?_)
   ·refine q1 ?_
    have o7:Has h3 (((((0))),.sl (([]:List Int).length) 1 (ab.l ([]:List Int)))::(gM,.sl x3.length 1 (ab.l x3))::(au,.ob [.bool x2.ay,.rs cK 0 x2.aa.length 4,.rs dN 0 x2.an.length 1])::(cK,.sl x2.aa.length 4 (af.l x2.aa))::(dN,.sl x2.an.length 1 (ab.l x2.an))::L):=Has.nil o4 1
    have o8:Has h3 (((((0))),.sl (([]:List Int).length) 1 (ab.l ([]:List Int)))::(au,.ob [.bool x2.ay,.rs cK 0 x2.aa.length 4,.rs dN 0 x2.an.length 1])::(cK,.sl x2.aa.length 4 (af.l x2.aa))::(dN,.sl x2.an.length 1 (ab.l x2.an))::L):=iC o7 1
    obtain rfl:=oi H
    exact qt <| ⟨.inl rfl,⟨(((0))),cK,dN,kr,he o8⟩⟩
   ·obtain rfl:=oi H
    exact qk <| qq <| q0 <| qt <| ⟨.inl rfl,⟨gM,cK,dN,kr,he o4⟩⟩
end
def FR:b4:=gL [0,1,2,4,5,7,8,24,45,61,87,109,114,131] [2] [16377,16345,16281,16375,16217,16375,16089,16375,15833,16375,15353,14329,16375,16361,12265,16361,8169,16375,16375,16375] [] []
def dd.l0 (m:Nat)(n0:ak)(bg:Int):Nat→Int→Option (Sum Bool (Int))
 | 0,_=>none
 | k+1,i0=>if (decide (i0<(n0.args.length:Int)))=true then ((ix n0.args i0).bind fun v0=>if (decide (v0<0))=true then (some (.inl false)) else ((ix n0.args i0).bind fun v1=>if (decide (v1≥bg))=true then (some (.inl false)) else (dd.l0 m n0 bg k (i64.wrap (i0+1))))) else (some (.inr i0))
def dd.f (m:Nat)(n0:ak)(bg:Int):Option (Bool):=if (n0.kind==0)=true then (if (decide (n0.int≥0))=true then (if (n0.label.data.toList==(ajg #[]).data.toList)=true then (some ((n0.args.length:Int)==0)) else (some false)) else (some false)) else (if (n0.kind==1)=true then (if (decide (n0.int≥(-1099511627776:Int)))=true then (if (decide (n0.int≤1099511627776))=true then (if (n0.label.data.toList==(ajg #[]).data.toList)=true then (some ((n0.args.length:Int)==0)) else (some false)) else (some false)) else (some false)) else (if (n0.kind==2)=true then ((iE.f m n0.label).bind fun x0=>if x0=true then (if (n0.int==0)=true then (some ((n0.args.length:Int)==0)) else (some false)) else (some false)) else (if (n0.kind==4)=true then (if (n0.label.data.toList==(ajg #[112,114,111,99]).data.toList)=true then (if (decide (n0.int≥0))=true then (some ((n0.args.length:Int)==0)) else (some false)) else (if (n0.label.data.toList==(ajg #[99,101,108,108]).data.toList)=true then (if (decide (n0.int≥0))=true then (some ((n0.args.length:Int)==0)) else (some false)) else (if (n0.label.data.toList==(ajg #[112,111,114,116]).data.toList)=true then (if (decide (n0.int≥0))=true then (some ((n0.args.length:Int)==0)) else (some false)) else (some false)))) else (if (n0.kind==3)=true then ((iE.f m n0.label).bind fun x1=>if (!x1)=true then (some false) else (if (!(n0.int==0))=true then (some false) else (if (decide ((n0.args.length:Int)<1))=true then (some false) else (if (decide ((n0.args.length:Int) > 8))=true then (some false) else ((dd.l0 m n0 bg m 0).bind fun bp=>match bp with | .inl r0=>some r0 | .inr i1=>some true))))) else (some false)))))
def dd.fin (L:Mem)(r:Bool)(s:St):Prop:=∃av,aK Tryz.prog (s.open FR) Tryz.f38.results.toList=some av∧eX s.h av (.bool r)
def Zj (cf:CallF)(m:Nat):Prop:=∀(n0:ak) (bg:Int) (r:Bool),dd.f m n0 bg=some r→∀h xs,bl cd h xs [.agg [.i n0.kind,.i n0.int,.str n0.label,ab.fz n0.args],.i bg]→cf 38 xs h=some (.bool r,h)
section
variable {cf:CallF}{m:Nat}
theorem dd.cm (L:Mem)(n0:ak)(bg:Int)   : b9 Tryz.prog cf FR m (sub [1,0,1,0,1,1,1,1,1,1,1,1,1,0,1,0,1,0,0] (bw Tryz.f38)) (fun k (σ:Int)=>dd.l0 m n0 bg k σ) (fun σ s=>match σ with | i0=>∃h0,s=⟨.any :: .i bg :: .lp 2 0 :: .any :: .i i0::NJ [],[some [.i n0.kind,.i n0.int,.str n0.label,ab.fz n0.args]],h0⟩∧Has h0 (L)) (fun out e s=>(e = .exit 1∧∃i0,.inr i0=out∧∃wO LM z8 X6 XE h0,s=⟨.any::wO::LM :: .any::z8::B0 [X6,.any],[XE],h0⟩∧Has h0 (L))∨(e = .ret∧∃r,.inl r=out∧dd.fin L r s)):=by
 refine jF (fun _=>rfl) ?_
 rintro k i0 s out ⟨h0,rfl,o0⟩ H
 have H:dd.l0 m n0 bg (k+1) i0=some out:=H
 refine qq <| qq <| q0 <| qc H (fun c25 H=>?_) (fun c25 H=>?_)
 ·refine qk <| qq <| qb 2 <| qq ?_
  obtain⟨v0,e2,H⟩:=aP H
  rcases eV H with⟨c26,H⟩| ⟨c26,H⟩
  ·exact qr [.v 3 (bN (k:=.i64) (E:=ab) (l:=n0.args) da e2),.v 4 (cO  (E:=ab) (l:=n0.args) h0 A3 e2 rfl),.b 6 c26] <| Bb <| qq <| q0 <| qt <| ajW (⟨rfl,_,oi H,pX (.bool false) h0 (oR (jh))⟩)
  ·obtain⟨v1,e3,H⟩:=aP H
   refine qr [.v 3 (bN (k:=.i64) (E:=ab) (l:=n0.args) da e2),.v 4 (cO  (E:=ab) (l:=n0.args) h0 A3 e2 rfl),.b 6 c26,.v 10 (bN (k:=.i64) (E:=ab) (l:=n0.args) da e3),.v 11 (cO  (E:=ab) (l:=n0.args) h0 A3 e3 rfl)] <| qc H (fun c28 H=>?_) (fun c28 H=>?_)
   ·exact q1 <| qt <| ajW (⟨rfl,_,oi H,pX (.bool false) h0 (oR (jh))⟩)
   ·exact qk <| q0 <| ⟨i64.wrap (i0+1),⟨h0,kr,o0⟩,H⟩
 ·exact qx 1 <| akl (⟨rfl,i0,oi H,.i bg,.lp 2 0,.i i0,.bool (decide (i0<(n0.args.length:Int))),some [.i n0.kind,.i n0.int,.str n0.label,ab.fz n0.args],h0,kr,o0⟩)
theorem w6 {aW:FuncId→b4}(ha:aW 38=FR)(HZ:S80 cf m)(n0:ak)(bg:Int)(h:AHeap)(L:Mem)  (o:Has h (L)){out:Bool}(H:dd.f m n0 bg=some out) :
  ∃r h',bj Tryz.prog aW cf m 38 [.agg [.i n0.kind,.i n0.int,.str n0.label,ab.fz n0.args],.i bg] h=some (r,h')∧eX h' r (.bool out):=by
 refine aw (fn:=Tryz.f38) ha Tryz.func38 kr kr ?_
 refine aI (Q:=fun s=>dd.fin L out s) (fun _ _ h=>h) ?_
 have H:_=some out:=H
 unfold dd.f at H
 show dE _ cf FR m _ ⟨.agg [.i n0.kind,.i n0.int,.str n0.label,ab.fz n0.args] :: .i bg::zN [],[none],h⟩ _
 refine q1 <| qq <| qq <| q0 <| qb 0 <| qq <| q0 <| qc H (fun c0 H=>?_) (fun c0 H=>?_)
 ·refine qq ?_
  rcases eV H with⟨c1,H⟩| ⟨c1,H⟩
  ·rcases eV H with⟨c2,H⟩| ⟨c2,H⟩
   ·exact qr [.b 3 c1,.b 8 c2] <| qt <| fB H
   ·exact qr [.b 3 c1,.b 8 c2] <| qt <| fB H
  ·exact qr [.b 3 c1] <| qt <| fB H
 ·refine q1 <| qc H (fun c3 H=>?_) (fun c3 H=>?_)
  ·refine qq ?_
   rcases eV H with⟨c4,H⟩| ⟨c4,H⟩
   ·rcases eV H with⟨c5,H⟩| ⟨c5,H⟩
    ·rcases eV H with⟨c6,H⟩| ⟨c6,H⟩
     ·exact qr [.b 3 c4,.b 8 c5,.b 13 c6] <| qt <| fB H
     ·exact qr [.b 3 c4,.b 8 c5,.b 13 c6] <| qt <| fB H
    ·exact qr [.b 3 c4,.b 8 c5] <| qt <| fB H
   ·exact qr [.b 3 c4] <| qt <| fB H
  ·refine q1 <| qc H (fun c7 H=>?_) (fun c7 H=>?_)
   ·refine qq ?_
    obtain⟨x0,e0,H⟩:=aP H
    rcases eV H with⟨c8,H⟩| ⟨c8,H⟩
    ·rcases eV H with⟨c9,H⟩| ⟨c9,H⟩
     ·exact qr [.a 2 (HZ _ _ e0 h _ fq),.b 3 c8,.b 8 c9] <| qt <| fB H
     ·exact qr [.a 2 (HZ _ _ e0 h _ fq),.b 3 c8,.b 8 c9] <| qt <| fB H
    ·exact qr [.a 2 (HZ _ _ e0 h _ fq),.b 3 c8] <| qt <| fB H
   ·refine q1 <| qc H (fun Ag H=>?_) (fun Ag H=>?_)
    ·refine qq ?_
     rcases eV H with⟨sd,H⟩| ⟨sd,H⟩
     ·rcases eV H with⟨yk,H⟩| ⟨yk,H⟩
      ·exact qr [.b 3 sd,.b 18 yk] <| qt <| fB H
      ·exact qr [.b 3 sd,.b 18 yk] <| qt <| fB H
     ·rcases eV H with⟨uh,H⟩| ⟨uh,H⟩
      ·rcases eV H with⟨yl,H⟩| ⟨yl,H⟩
       ·exact qr [.b 3 sd,.b 8 uh,.b 18 yl] <| qt <| fB H
       ·exact qr [.b 3 sd,.b 8 uh,.b 18 yl] <| qt <| fB H
      ·rcases eV H with⟨FK,H⟩| ⟨FK,H⟩
       ·rcases eV H with⟨Ev,H⟩| ⟨Ev,H⟩
        ·exact qr [.b 3 sd,.b 8 uh,.b 13 FK,.b 18 Ev] <| qt <| fB H
        ·exact qr [.b 3 sd,.b 8 uh,.b 13 FK,.b 18 Ev] <| qt <| fB H
       ·exact qr [.b 3 sd,.b 8 uh,.b 13 FK] <| qt <| fB H
    ·refine q1 <| qc H (fun DR H=>?_) (fun DR H=>?_)
     ·refine qq <| qq ?_
      obtain⟨x1,e1,H⟩:=aP H
      rcases eV H with⟨Vb,H⟩| ⟨Vb,H⟩
      ·exact qr [.a 2 (HZ _ _ e1 h _ fq),.b 4 Vb] <| Bb <| qq <| q0 <| qt <| fB H
      ·rcases eV H with⟨Tm,H⟩| ⟨Tm,H⟩
       ·exact qr [.a 2 (HZ _ _ e1 h _ fq),.b 4 Vb,.b 9 Tm] <| Bb <| qq <| q0 <| qt <| fB H
       ·rcases eV H with⟨U1,H⟩| ⟨U1,H⟩
        ·exact qr [.a 2 (HZ _ _ e1 h _ fq),.b 4 Vb,.b 9 Tm,.b 15 U1] <| Bb <| qq <| q0 <| qt <| fB H
        ·refine qr [.a 2 (HZ _ _ e1 h _ fq),.b 4 Vb,.b 9 Tm,.b 15 U1] <| qc H (fun c24 H=>?_) (fun c24 H=>?_)
         ·exact q1 <| qt <| fB H
         ·refine qk <| qq <| qq <| q0 <| qb 1 ?_
          obtain⟨bp,e4,H⟩:=aP H
          refine ql (dd.cm L n0 bg   0 _ _ ⟨h,kr,o⟩ e4) ?_
          rintro e s (⟨rfl,i1,rfl,g0,g1,g2,g3,g4,h1,rfl,o1⟩| ⟨rfl,r0,rfl,r9⟩)
          ·try dsimp only at H
           exact q1 <| qt <| fB H
          ·try dsimp only at H
           obtain rfl:=oi H
           exact⟨.inl rfl,r9⟩
     ·exact qk <| qq <| q0 <| qt <| fB H
end
def J0:b4:=gL [0,1,2,3,4,5,6,7,8] [1000000014] [455,199,319] [] []
def gm.f (m:Nat)(s0:ae)(bZ:ByteArray)(br:List Int):Option (Int × Int × ae):=(GW 1 br).bind fun x0=>(dF.f m s0 (en.f m bZ br s0) (ak.mk 3 0 bZ x0)).bind fun x1=>some (x1.1,x1.2.1,x1.2.2)
def gm.fin (L:Mem)(au:Nat)(aq:Nat)(az:Nat)(s0:ae)(bZ:ByteArray)(br:List Int)(r:Int × Int × ae)(s:St):Prop:=∃aB aC:Nat,aK Tryz.prog (s.open J0) Tryz.f42.results.toList=some (.tup [.i r.1,.i r.2.1])∧Has s.h ((au,.ob [.bool r.2.2.ay,.rs aB 0 r.2.2.aa.length 4,.rs aC 0 r.2.2.an.length 1])::(aB,.sl r.2.2.aa.length 4 (af.l r.2.2.aa))::(aC,.sl r.2.2.an.length 1 (ab.l r.2.2.an))::L)
def S42 (cf:CallF)(m:Nat):Prop:=∀(s0:ae) (bZ:ByteArray) (br:List Int) (r:Int × Int × ae),gm.f m s0 bZ br=some r→∀h L (au:Nat) (aq:Nat) (az:Nat),Has h ((au,.ob [.bool s0.ay,.rs aq 0 s0.aa.length 4,.rs az 0 s0.an.length 1])::(aq,.sl s0.aa.length 4 (af.l s0.aa))::(az,.sl s0.an.length 1 (ab.l s0.an))::L)→∀xs,xs.map ba=[.ptr au 0,.str bZ,ab.fz br]→∃aB aC h',cf 42 xs h=some (.tup [.i r.1,.i r.2.1],h')∧Has h' ((au,.ob [.bool r.2.2.ay,.rs aB 0 r.2.2.aa.length 4,.rs aC 0 r.2.2.an.length 1])::(aB,.sl r.2.2.aa.length 4 (af.l r.2.2.aa))::(aC,.sl r.2.2.an.length 1 (ab.l r.2.2.an))::L)
section
variable {cf:CallF}{m:Nat}
theorem qB {aW:FuncId→b4}(ha:aW 42=J0)(HO:Zb cf m)(DL:Wa cf m)(aa6:S82 cf m)(s0:ae)(bZ:ByteArray)(br:List Int)(h:AHeap)(L:Mem)(au:Nat)(aq:Nat)(az:Nat)  (o:Has h ((au,.ob [.bool s0.ay,.rs aq 0 s0.aa.length 4,.rs az 0 s0.an.length 1])::(aq,.sl s0.aa.length 4 (af.l s0.aa))::(az,.sl s0.an.length 1 (ab.l s0.an))::L)){out:Int × Int × ae}(H:gm.f m s0 bZ br=some out) :
  ∃r h',bj Tryz.prog aW cf m 42 [.ptr au 0,.str bZ,ab.fz br] h=some (r,h')∧∃aB aC:Nat,r = .tup [.i out.1,.i out.2.1]∧Has h' ((au,.ob [.bool out.2.2.ay,.rs aB 0 out.2.2.aa.length 4,.rs aC 0 out.2.2.an.length 1])::(aB,.sl out.2.2.aa.length 4 (af.l out.2.2.aa))::(aC,.sl out.2.2.an.length 1 (ab.l out.2.2.an))::L):=by
 refine aw (fn:=Tryz.f42) ha Tryz.func42 kr kr ?_
 refine aI (Q:=fun s=>gm.fin L au aq az s0 bZ br out s) (fun _ _ ⟨h1,aB,aC,h2,h3⟩=>⟨h1,_,h2,aB,aC,rfl,h3⟩) ?_
 have H:_=some out:=H
 unfold gm.f at H
 show dE _ cf J0 m _ ⟨.ptr au 0 :: .str bZ::ab.fz br::wF [],[none],h⟩ _
 refine qq ?_
 obtain⟨aX,h0,e0,o0⟩:=ja (cs:=[.ptr au 0]) o kr
 obtain⟨b7,h1,e1,o1⟩:=ja (cs:=[.str bZ]) o0 kr
 obtain⟨bT,h2,e2,o2⟩:=ja (cs:=[ab.fz br]) o1 kr
 refine qr [.a 0 e0,.a 1 e1,.a 2 e2] <| qq <| q0 <| qq ?_
 obtain⟨x0,e3,H⟩:=aP H
 obtain⟨cK,h3,e4,o3⟩:=SY (E:=ab) (l:=br) HO o2 e3
 obtain⟨h4,e5,o4⟩:=lQ (E:=ab) (l:=x0) (q:=0) o3 rfl
 obtain⟨x1,e6,H⟩:=aP H
 obtain⟨dN,gM,h5,e7,o5⟩:=DL _ _ _ _ e6 h4 _ _ _ _ ((bI (bI (bI (bI (bI (bI o4 2) 2) 2) 5) 5) 5)) 82 [.ptr b7 0,.ptr bT 0,.ptr aX 0] [.fp [.str bZ] 0,.fp [ab.fz br] 0,.fp [.fp [.bool s0.ay,af.fz s0.aa,ab.fz s0.an] 0] 0] rfl (fun h' Ak  r hr hx=>aa6 _ _ _ r hr h' Ak hx) (fun h' K' o'=>lC (ai (dM (q:=(K'.length+4)) o' (mg rfl) (ai (iB) (aD))) (ai (dM (q:=(K'.length+3)) o' (mg rfl) (ai (iu (E:=ab)) (aD))) (ai (dM (q:=(K'.length+5)) o' (mg rfl) (ai (dM (q:=(K'.length+0)) o' (mg rfl) (ai (eM) (ai (cC (E:=af) (l:=s0.aa) (q:=(K'.length+1)) o' (mg rfl) (fun _=>rfl)) (ai (cC (E:=ab) (l:=s0.an) (q:=(K'.length+2)) o' (mg rfl) (fun _=>rfl)) (aD))))) (aD))) (aD))))) (fun h_=>lC (ai (cV (pure_cons (rV) (pure_nil))) (ai (cV (pure_cons (bM.aJ (E:=ab) (l:=br)) (pure_nil))) (ai (cV (pure_cons (nh (pure_cons (bc) (pure_cons (bM.aJ (E:=af) (l:=s0.aa)) (pure_cons (bM.aJ (E:=ab) (l:=s0.an)) (pure_nil))))) (pure_nil))) (aD))))) [.ptr au 0,.fn 82 [.ptr b7 0,.ptr bT 0,.ptr aX 0],.agg [.i 3,.i 0,.str bZ,ab.fz x0]] cq
 refine V6 [] [.v 0 (show bR Tryz.prog h2 31 (.ptr aX 0)=some (.ptr au 0) from cJ (q:=2) (cs:=[.ptr au 0]) o2 rfl kr),.v 2 (show bR Tryz.prog h2 9 (.ptr b7 0)=some (.str bZ) from cJ (q:=1) (cs:=[.str bZ]) o2 rfl kr),.v 3 (show bR Tryz.prog h2 22 (.ptr bT 0)=some (ab.fz br) from cJ (q:=0) (cs:=[ab.fz br]) o2 rfl kr),.a 4 (Xp e4 e5),.a 6 e7] [.mk ((HF HO o2 (q2:=2) rfl e4).trans (NX (E:=ab) (l:=x0) o3 (q:=0) (q2:=3) rfl rfl e5)),.mk ((HF HO o2 (q2:=1) rfl e4).trans (NX (E:=ab) (l:=x0) o3 (q:=0) (q2:=2) rfl rfl e5))] ?_
 have o6:Has h5 ((au,.ob [.bool x1.2.2.ay,.rs dN 0 x1.2.2.aa.length 4,.rs gM 0 x1.2.2.an.length 1])::(dN,.sl x1.2.2.aa.length 4 (af.l x1.2.2.aa))::(gM,.sl x1.2.2.an.length 1 (ab.l x1.2.2.an))::(bT,.ob [ab.fz br])::(b7,.ob [.str bZ])::L):=iC o5 5
 have o7:Has h5 ((au,.ob [.bool x1.2.2.ay,.rs dN 0 x1.2.2.aa.length 4,.rs gM 0 x1.2.2.an.length 1])::(dN,.sl x1.2.2.aa.length 4 (af.l x1.2.2.aa))::(gM,.sl x1.2.2.an.length 1 (ab.l x1.2.2.an))::(bT,.ob [ab.fz br])::L):=iC o6 4
 have o8:Has h5 ((au,.ob [.bool x1.2.2.ay,.rs dN 0 x1.2.2.aa.length 4,.rs gM 0 x1.2.2.an.length 1])::(dN,.sl x1.2.2.aa.length 4 (af.l x1.2.2.aa))::(gM,.sl x1.2.2.an.length 1 (ab.l x1.2.2.an))::L):=iC o7 3
 obtain rfl:=oi H
 exact qt <| ⟨.inl rfl,⟨dN,gM,kr,he o8⟩⟩
end
def J1:b4:=gL [0,1,4,5,6,12] [4] [56,40,8,51,51] [] [(0,[(4,some 3,1)]),(3,[(4,some 3,1)])]
def fk.f (m:Nat)(s0:ae)(n0:Int):Option (ak × Int):=(cQ.f m s0 ([n0])).bind fun x0=>if (!(x0==0))=true then (some ((ak.mk 0 0 (ajg #[]) ([]:List Int)),x0)) else ((bK.f m s0 n0).bind fun x1=>(bQ.f m s0 x1).bind fun x2=>some (x2,0))
def fk.fin (L:Mem)  (r:ak × Int)(s:St):Prop:=∃cR:Nat,aK Tryz.prog (s.open J1) Tryz.f53.results.toList=some (.tup [.agg [.i r.1.kind,.i r.1.int,.str r.1.label,.rs cR 0 r.1.args.length 1],.i r.2])∧Has s.h ((cR,.sl r.1.args.length 1 (ab.l r.1.args))::L)
def S53 (cf:CallF)(m:Nat):Prop:=∀(s0:ae) (n0:Int) (r:ak × Int),fk.f m s0 n0=some r→∀h L xs,Has h L→bl cd h xs [.fp [.bool s0.ay,af.fz s0.aa,ab.fz s0.an] 0,.i n0]→∃cR h',cf 53 xs h=some (.tup [.agg [.i r.1.kind,.i r.1.int,.str r.1.label,.rs cR 0 r.1.args.length 1],.i r.2],h')∧Has h' ((cR,.sl r.1.args.length 1 (ab.l r.1.args))::L)∧∀j,j<h.next→h.ver j=h'.ver j
section
variable {cf:CallF}{m:Nat}
theorem qC {aW:FuncId→b4}(ha:aW 53=J1)(AB:U8 cf m)(Oz:Zf cf m)(qo:Qk cf m)(s0:ae)(n0:Int)(h:AHeap)(L:Mem)  (o:Has h (L)){out:ak × Int}(H:fk.f m s0 n0=some out) :
  ∃r h',bj Tryz.prog aW cf m 53 [.fp [.bool s0.ay,af.fz s0.aa,ab.fz s0.an] 0,.i n0] h=some (r,h')∧∃cR:Nat,r = .tup [.agg [.i out.1.kind,.i out.1.int,.str out.1.label,.rs cR 0 out.1.args.length 1],.i out.2]∧Has h' ((cR,.sl out.1.args.length 1 (ab.l out.1.args))::L):=by
 refine aw (fn:=Tryz.f53) ha Tryz.func53 kr kr ?_
 refine aI (Q:=fun s=>fk.fin L out s) (fun _ _ ⟨h1,cR,h2,h3⟩=>⟨h1,_,h2,cR,rfl,h3⟩) ?_
 have H:_=some out:=H
 unfold fk.f at H
 show dE _ cf J1 m _ ⟨.fp [.bool s0.ay,af.fz s0.aa,ab.fz s0.an] 0 :: .i n0::l9 [],[none],h⟩ _
 refine q1 ?_
 have o0:Has h (((0),.sl (([]:List Int).length) 1 (ab.l ([]:List Int)))::L):=Has.nil o 1
 refine qq <| qq ?_
 obtain⟨x0,e0,H⟩:=aP H
 refine qr [.a 3 (AB _ _ _ e0 h _ (ia (ai (cV (pure_cons (bc) (pure_cons (bM.aJ (E:=af) (l:=s0.aa)) (pure_cons (bM.aJ (E:=ab) (l:=s0.an)) (pure_nil))))) (ai (rW (E:=ab) (l:=[n0]) (cs:=[.i n0]) (b:=true) kr kr rfl) (aD)))))] <| qq <| q0 <| qc H (fun c0 H=>?_) (fun c0 H=>?_)
 ·refine q1 ?_
  have o1:Has h ((((0)),.sl (([]:List Int).length) 1 (ab.l ([]:List Int)))::((0),.sl (([]:List Int).length) 1 (ab.l ([]:List Int)))::L):=Has.nil o0 1
  have o2:Has h ((((0)),.sl (([]:List Int).length) 1 (ab.l ([]:List Int)))::L):=iC o1 1
  obtain rfl:=oi H
  exact qt <| ⟨.inl rfl,⟨((0)),kr,he o2⟩⟩
 ·refine qk <| qq ?_
  obtain⟨x1,e1,H⟩:=aP H
  obtain⟨x2,e2,H⟩:=aP H
  obtain⟨aX,h0,e3,o3,Lc⟩:=Oz _ _ _ e2 h _ _ o0 (ia (ai (cV (pure_cons (bc) (pure_cons (bM.aJ (E:=af) (l:=s0.aa)) (pure_cons (bM.aJ (E:=ab) (l:=s0.an)) (pure_nil))))) (ai (aU) (aD))))
  refine qr [.a 3 (qo _ _ _ e1 h _ (ia (ai (cV (pure_cons (bc) (pure_cons (bM.aJ (E:=af) (l:=s0.aa)) (pure_cons (bM.aJ (E:=ab) (l:=s0.an)) (pure_nil))))) (ai (aU) (aD))))),.a 4 e3] ?_
  have o4:Has h0 ((aX,.sl x2.args.length 1 (ab.l x2.args))::L):=iC o3 1
  obtain rfl:=oi H
  exact qt <| ⟨.inl rfl,⟨aX,kr,he o4⟩⟩
end
def J2:b4:=gL [0,1] [] [2,1] [] []
def eR.f (m:Nat)(x0:ByteArray):Option (Bool):=(jA.f m x0).bind fun x1=>some x1
def eR.fin (L:Mem)(r:Bool)(s:St):Prop:=∃av,aK Tryz.prog (s.open J2) Tryz.f73.results.toList=some av∧eX s.h av (.bool r)
def S73 (cf:CallF)(m:Nat):Prop:=∀(x0:ByteArray) (r:Bool),eR.f m x0=some r→∀h xs,bl cd h xs [.fp [.str x0] 0]→cf 73 xs h=some (.bool r,h)
section
variable {cf:CallF}{m:Nat}
theorem pw {aW:FuncId→b4}(ha:aW 73=J2)(wZ:Zi cf m)(x0:ByteArray)(h:AHeap)(L:Mem)  (o:Has h (L)){out:Bool}(H:eR.f m x0=some out) :
  ∃r h',bj Tryz.prog aW cf m 73 [.fp [.str x0] 0] h=some (r,h')∧eX h' r (.bool out):=by
 refine aw (fn:=Tryz.f73) ha Tryz.func73 kr kr ?_
 refine aI (Q:=fun s=>eR.fin L out s) (fun _ _ h=>h) ?_
 have H:_=some out:=H
 unfold eR.f at H
 show dE _ cf J2 m _ ⟨[.fp [.str x0] 0,.any],[],h⟩ _
 refine q1 <| qq ?_
 obtain⟨x1,e0,H⟩:=aP H
 exact qr [.a 1 (wZ _ _ e0 h _ fq)] <| qt <| fB H
end
def J3:b4:=gL [0,1,2,3] [2] [9,7] [] []
def jW.f (m:Nat)(n0:ak)(x0:bh):Option (Bool):=(lD.f m n0 (x0.nodes.length:Int)).bind fun x1=>some (!x1)
def jW.fin (L:Mem)(r:Bool)(s:St):Prop:=∃av,aK Tryz.prog (s.open J3) Tryz.f78.results.toList=some av∧eX s.h av (.bool r)
def S78 (cf:CallF)(m:Nat):Prop:=∀(n0:ak) (x0:bh) (r:Bool),jW.f m n0 x0=some r→∀h xs,bl cd h xs [.agg [.i n0.kind,.i n0.int,.str n0.label,ab.fz n0.args],.fp [af.fz x0.nodes,.i x0.root] 0]→cf 78 xs h=some (.bool r,h)
section
variable {cf:CallF}{m:Nat}
theorem vG {aW:FuncId→b4}(ha:aW 78=J3)(aa7:S79 cf m)(n0:ak)(x0:bh)(h:AHeap)(L:Mem)  (o:Has h (L)){out:Bool}(H:jW.f m n0 x0=some out) :
  ∃r h',bj Tryz.prog aW cf m 78 [.agg [.i n0.kind,.i n0.int,.str n0.label,ab.fz n0.args],.fp [af.fz x0.nodes,.i x0.root] 0] h=some (r,h')∧eX h' r (.bool out):=by
 refine aw (fn:=Tryz.f78) ha Tryz.func78 kr kr ?_
 refine aI (Q:=fun s=>jW.fin L out s) (fun _ _ h=>h) ?_
 have H:_=some out:=H
 unfold jW.f at H
 show dE _ cf J3 m _ ⟨[.agg [.i n0.kind,.i n0.int,.str n0.label,ab.fz n0.args],.fp [af.fz x0.nodes,.i x0.root] 0,.any,.any],[none],h⟩ _
 refine q1 <| qq ?_
 obtain⟨x1,e0,H⟩:=aP H
 exact qr [.a 4 (aa7 _ _ _ e0 h _ fq)] <| qt <| fB H
end
def J4:b4:=gL [0,1,3,4,5,6,9,22,28,41] [3] [1018,954,999,890,999,762,999,986,986,474,986,990,991,999] [(11,[(3,some 3,0)])] []
def du.f (m:Nat)(s0:aj)(n0:ak):Option (Int × Int × aj):=(ca.f m s0).bind fun x0=>if (!x0)=true then (some (0,6,s0)) else (jn (fun (σ:Bool)=>match σ with | x2=>if (decide ((s0.ah.length:Int)≥8000))=true then (some (0,7,s0)) else ((app 8 ([]) n0.args).bind fun x3=>jn (fun (σ:Int)=>match σ with | n1=>(app 56 s0.ah ([(ak.mk n0.kind n1 n0.label x3)])).bind fun x4=>(app 8 s0.ao ([(s0.ah.length:Int)])).bind fun x5=>some ((s0.ah.length:Int),0,(aj.mk x4 x5 s0.aE))) fun LU=>(if (n0.kind==0)=true then (LU (s0.ah.length:Int)) else (LU n0.int)))) fun vh=>(if (!(n0.kind==0))=true then ((dd.f m n0 (s0.ah.length:Int)).bind fun x1=>if (!x1)=true then (some (0,1,s0)) else (vh (!x1))) else (vh false)))
def du.fin (L:Mem)(au:Nat)(aH:Nat)(aq:Nat)(s0:aj)(n0:ak)(r:Int × Int × aj)(s:St):Prop:=∃aB aC:Nat,aK Tryz.prog (s.open J4) Tryz.f81.results.toList=some (.tup [.i r.1,.i r.2.1])∧Has s.h ((au,.ob [.rs aB 0 r.2.2.ah.length 4,.rs aC 0 r.2.2.ao.length 1,.bool r.2.2.aE])::(aB,.sl r.2.2.ah.length 4 (af.l r.2.2.ah))::(aC,.sl r.2.2.ao.length 1 (ab.l r.2.2.ao))::L)
def We (cf:CallF)(m:Nat):Prop:=∀(s0:aj) (n0:ak) (r:Int × Int × aj),du.f m s0 n0=some r→∀h L (au:Nat) (aH:Nat) (aq:Nat),Has h ((au,.ob [.rs aH 0 s0.ah.length 4,.rs aq 0 s0.ao.length 1,.bool s0.aE])::(aH,.sl s0.ah.length 4 (af.l s0.ah))::(aq,.sl s0.ao.length 1 (ab.l s0.ao))::L)→∀xs,xs.map ba=[.ptr au 0,.agg [.i n0.kind,.i n0.int,.str n0.label,ab.fz n0.args]]→∃aB aC h',cf 81 xs h=some (.tup [.i r.1,.i r.2.1],h')∧Has h' ((au,.ob [.rs aB 0 r.2.2.ah.length 4,.rs aC 0 r.2.2.ao.length 1,.bool r.2.2.aE])::(aB,.sl r.2.2.ah.length 4 (af.l r.2.2.ah))::(aC,.sl r.2.2.ao.length 1 (ab.l r.2.2.ao))::L)
section
variable {cf:CallF}{m:Nat}
theorem rv {aW:FuncId→b4}(ha:aW 81=J4)(OA:Zj cf m)(qh:N4 cf m)(s0:aj)(n0:ak)(h:AHeap)(L:Mem)(au:Nat)(aH:Nat)(aq:Nat)  (o:Has h ((au,.ob [.rs aH 0 s0.ah.length 4,.rs aq 0 s0.ao.length 1,.bool s0.aE])::(aH,.sl s0.ah.length 4 (af.l s0.ah))::(aq,.sl s0.ao.length 1 (ab.l s0.ao))::L)){out:Int × Int × aj}(H:du.f m s0 n0=some out) :
  ∃r h',bj Tryz.prog aW cf m 81 [.ptr au 0,.agg [.i n0.kind,.i n0.int,.str n0.label,ab.fz n0.args]] h=some (r,h')∧∃aB aC:Nat,r = .tup [.i out.1,.i out.2.1]∧Has h' ((au,.ob [.rs aB 0 out.2.2.ah.length 4,.rs aC 0 out.2.2.ao.length 1,.bool out.2.2.aE])::(aB,.sl out.2.2.ah.length 4 (af.l out.2.2.ah))::(aC,.sl out.2.2.ao.length 1 (ab.l out.2.2.ao))::L):=by
 refine aw (fn:=Tryz.f81) ha Tryz.func81 kr kr ?_
 refine aI (Q:=fun s=>du.fin L au aH aq s0 n0 out s) (fun _ _ ⟨h1,aB,aC,h2,h3⟩=>⟨h1,_,h2,aB,aC,rfl,h3⟩) ?_
 have H:_=some out:=H
 unfold du.f at H
 show dE _ cf J4 m _ ⟨.ptr au 0 :: .agg [.i n0.kind,.i n0.int,.str n0.label,ab.fz n0.args]::tX [],[none],h⟩ _
 refine q1 <| qq <| qq ?_
 obtain⟨x0,e0,H⟩:=aP H
 refine qr [.a 1 (qh _ _ e0 h _ (ia (ai (dM (q:=0) o rfl (ai (cC (E:=af) (l:=s0.ah) (q:=1) o rfl (fun _=>rfl)) (ai (cC (E:=ab) (l:=s0.ao) (q:=2) o rfl (fun _=>rfl)) (ai (eM) (aD))))) (aD))))] <| qc H (fun c0 H=>?_) (fun c0 H=>?_)
 ·obtain rfl:=oi H
  exact q1 <| qt <| ⟨.inl rfl,⟨aH,aq,kr,he o⟩⟩
 ·refine qk ?_
  obtain⟨vh,Jo,H⟩:=ov H
  refine qj (S:=fun (σ:Bool) s=>match σ with | x2=>∃(h0:AHeap),s=⟨.ptr au 0 :: .any :: .lp 3 0::l9 [.bool x2,.any,.any],[some [.i n0.kind,.i n0.int,.str n0.label,ab.fz n0.args]],h0⟩∧Has h0 ((au,.ob [.rs aH 0 s0.ah.length 4,.rs aq 0 s0.ao.length 1,.bool s0.aE])::(aH,.sl s0.ah.length 4 (af.l s0.ah))::(aq,.sl s0.ao.length 1 (ab.l s0.ao))::L)) vh H ?_ ?_
  ·rintro x2 s ⟨h0,rfl,o0⟩ H
   have H:=(Jo _).symm.trans H
   try dsimp only at H
   refine qq <| qq <| qr [.v 3 (show bR Tryz.prog h0 23 (.ptr au 0)=some (.rs aH 0 s0.ah.length 4) from cJ (q:=0) (cs:=[.rs aH 0 s0.ah.length 4,.rs aq 0 s0.ao.length 1,.bool s0.aE]) o0 rfl kr)] <| qc H (fun c4 H=>?_) (fun c4 H=>?_)
   ·obtain rfl:=oi H
    exact q1 <| qt <| ⟨.inl rfl,⟨aH,aq,kr,he o0⟩⟩
   ·refine qk <| qq <| qr [.v 3 (show bR Tryz.prog h0 23 (.ptr au 0)=some (.rs aH 0 s0.ah.length 4) from cJ (q:=0) (cs:=[.rs aH 0 s0.ah.length 4,.rs aq 0 s0.ao.length 1,.bool s0.aE]) o0 rfl kr)] <| qq ?_
    obtain⟨x3,e2,H⟩:=aP H
    obtain⟨aX,h1,e3,o1⟩:=Dh (P:=Tryz.prog) (E:=ab) (s:=.fz [] 0 true) (t2:=22) (x:=ab.fz n0.args) (l2:=n0.args) (.inr rfl) da o0 (zH (E:=ab) (l2:=n0.args) _) rfl e2
    refine qr [.a 3 e3] ?_
    obtain⟨LU,Va,H⟩:=ov H
    refine qj (S:=fun (σ:Int) s=>match σ with | n1=>∃(g0:AV) (h2:AHeap),s=⟨.ptr au 0 :: .any :: .lp 3 0 :: .any :: .any :: .i (s0.ah.length:Int)::nc [g0],[some [.i n0.kind,.i n1,.str n0.label,.rs aX 0 x3.length 1]],h2⟩∧Has h2 ((aX,.sl x3.length 1 (ab.l x3))::(au,.ob [.rs aH 0 s0.ah.length 4,.rs aq 0 s0.ao.length 1,.bool s0.aE])::(aH,.sl s0.ah.length 4 (af.l s0.ah))::(aq,.sl s0.ao.length 1 (ab.l s0.ao))::L)) LU H ?_ ?_
    ·rintro n1 s ⟨g0,h2,rfl,o2⟩ H
     have H:=(Va _).symm.trans H
     try dsimp only at H
     refine qq ?_
     obtain⟨h3,e4,o3⟩:=lQ (E:=ab) (l:=x3) (q:=0) o2 rfl
     obtain⟨x4,e5,H⟩:=aP H
     obtain⟨b7,h4,e6,o4⟩:=eu (P:=Tryz.prog) (E:=af) (l:=s0.ah) (q:=1) (t2:=23) (x:=.fz [.i n0.kind,.i n1,.str n0.label,ab.fz x3] 1 true) (l2:=([(ak.mk n0.kind n1 n0.label x3)])) lJ o3 rfl kr rfl e5
     obtain⟨h5,e7,o5⟩:=mV (P:=Tryz.prog) (t:=23) (off:=0) (q:=0) (cs:=[.rs aH 0 s0.ah.length 4,.rs aq 0 s0.ao.length 1,.bool s0.aE]) (iO:=[.rs b7 0 x4.length 4,.rs aq 0 s0.ao.length 1,.bool s0.aE]) (x:=.rs b7 0 x4.length 4) o4 rfl kr
     refine Jb [.a 0 e4] [.v 4 (show bR Tryz.prog h3 23 (.ptr au 0)=some (.rs aH 0 s0.ah.length 4) from cJ (q:=0) (cs:=[.rs aH 0 s0.ah.length 4,.rs aq 0 s0.ao.length 1,.bool s0.aE]) o3 rfl kr),.a 7 e6,.w 10 e7] <| qq ?_
     obtain⟨x5,e8,H⟩:=aP H
     obtain⟨bT,h6,e9,o6⟩:=eu (P:=Tryz.prog) (E:=ab) (l:=s0.ao) (q:=2) (t2:=22) (x:=.fz [.i (s0.ah.length:Int)] 1 true) (l2:=([(s0.ah.length:Int)])) da o5 rfl kr rfl e8
     obtain⟨h7,ma,o7⟩:=mV (P:=Tryz.prog) (t:=22) (off:=1) (q:=0) (cs:=[.rs b7 0 x4.length 4,.rs aq 0 s0.ao.length 1,.bool s0.aE]) (iO:=[.rs b7 0 x4.length 4,.rs bT 0 x5.length 1,.bool s0.aE]) (x:=.rs bT 0 x5.length 1) o6 rfl kr
     obtain rfl:=oi H
     exact qr [.v 4 (show bR Tryz.prog h5 22 (.ptr au 1)=some (.rs aq 0 s0.ao.length 1) from cJ (q:=0) (cs:=[.rs b7 0 x4.length 4,.rs aq 0 s0.ao.length 1,.bool s0.aE]) o5 rfl kr),.a 7 e9,.w 10 ma] <| qq <| q0 <| qt <| ⟨.inl rfl,⟨b7,bT,kr,he o7⟩⟩
    clear Va
    intro LV
    refine q1 <| qc H (fun c5 H=>?_) (fun c5 H=>?_)
    ·exact q0 <| LV (s0.ah.length:Int) _ ⟨.any,h1,kr,o1⟩ H
    ·exact qk <| LV n0.int _ ⟨.bool (n0.kind==0),h1,kr,o1⟩ H
  clear Jo
  intro sZ
  refine qq ?_
  rcases eV H with⟨c1,H⟩| ⟨c1,H⟩
  ·obtain⟨x1,e1,H⟩:=aP H
   refine qr [.b 3 c1,.v 8 (show bR Tryz.prog h 23 (.ptr au 0)=some (.rs aH 0 s0.ah.length 4) from cJ (q:=0) (cs:=[.rs aH 0 s0.ah.length 4,.rs aq 0 s0.ao.length 1,.bool s0.aE]) o rfl kr),.a 10 (OA _ _ _ e1 h _ fq)] <| qc H (fun c2 H=>?_) (fun c2 H=>?_)
   ·obtain rfl:=oi H
    exact q1 <| qt <| ⟨.inl rfl,⟨aH,aq,kr,he o⟩⟩
   ·exact qk <| sZ (!x1) _ ⟨h,kr,o⟩ H
  ·exact qr [.b 3 c1] <| Dr <| qk <| sZ false _ ⟨h,kr,o⟩ H
end
def mR:b4:=gL [0,1,4,5,6,7,8,9,10,11,12,13,14,15,16,17,18,19,20,21,22,32,45,59,84,94,120,133,147] [4,10,18,20] [536870904,536870898,536870882,536870850,536870786,534773634,536870786,536870786,536870722,532676418,536870722,536870466,536869954,536868930,528480322,536868930,536868930,536870466,536870722,536868811,536864715,520087499,536864715,536856523,503302091,536856523,536856523,536854475,536821707,469712843,536821707,536821707,536788939,536657867,402440139,536657867,536395723,535871435,534822859,266387403,534822859,534822859,536395723,536657867,536870907] [(42,[(21,none,0)]),(44,[(18,some 0,0)])] [(3,[(7,none,4)]),(12,[(11,none,1)]),(32,[(18,some 0,4)]),(37,[(21,none,1)])]
def aF.l0 (m:Nat)(x0:(List Int)):Nat→(List Int)→Int→Option ((List Int) × Int)
 | 0,_,_=>none
 | k+1,cX,i0=>if (decide (i0<(x0.length:Int)))=true then ((ix x0 i0).bind fun v0=>(ix cX v0).bind fun v1=>aF.l0 m x0 k (cX.set v0.toNat i0) (i64.wrap (i0+1))) else (some ((cX,i0)))
def aF.l2 (m:Nat)(aV:List Int)(v3:ak):Nat→(List Int)→Int→Option ((List Int) × Int)
 | 0,_,_=>none
 | k+1,br,k0=>if (decide (k0<(v3.args.length:Int)))=true then ((ix v3.args k0).bind fun v4=>(ix aV v4).bind fun v5=>(app 8 br ([v5])).bind fun x2=>aF.l2 m aV v3 k x2 (i64.wrap (k0+1))) else (some ((br,k0)))
def aF.l1 (m:Nat)(l0:List ak)(x0:(List Int))(aV:List Int):Nat→(List ak)→Int→Option ((List ak) × Int)
 | 0,_,_=>none
 | k+1,iZ,i2=>if (decide (i2<(x0.length:Int)))=true then ((ix x0 i2).bind fun v2=>(ix l0 v2).bind fun v3=>(aF.l2 m aV v3 m ([]:List Int) 0).bind fun cM=>match cM with | (jJ,k1)=>(app 56 iZ [ak.mk v3.kind v3.int v3.label jJ]).bind fun x3=>aF.l1 m l0 x0 aV k x3 (i64.wrap (i2+1))) else (some ((iZ,i2)))
def aF.l4 (m:Nat)(x4:(List Int))(i4:Int):Nat→(List ak)→Int→Option ((List ak) × Int)
 | 0,_,_=>none
 | k+1,iK,k2=>(ix iK i4).bind fun v6=>if (decide (k2<(v6.args.length:Int)))=true then ((ix iK i4).bind fun v7=>(ix iK i4).bind fun v8=>(ix v8.args k2).bind fun v9=>(ix x4 v9).bind fun v10=>(ix v7.args k2).bind fun v11=>aF.l4 m x4 i4 k (iK.set i4.toNat (ak.mk v7.kind v7.int v7.label (v7.args.set k2.toNat v10))) (i64.wrap (k2+1))) else (some ((iK,k2)))
def aF.l3 (m:Nat)(x4:(List Int)):Nat→(List ak)→Int→Option ((List ak) × Int)
 | 0,_,_=>none
 | k+1,lW,i4=>if (decide (i4<(lW.length:Int)))=true then ((aF.l4 m x4 i4 m lW 0).bind fun mI=>match mI with | (OB,k3)=>aF.l3 m x4 k OB (i64.wrap (i4+1))) else (some ((lW,i4)))
def aF.l5 (m:Nat)(x5:(List Int)):Nat→(List Int)→Int→Option ((List Int) × Int)
 | 0,_,_=>none
 | k+1,ke,i6=>if (decide (i6<(x5.length:Int)))=true then ((ix x5 i6).bind fun v12=>(ix ke v12).bind fun Og=>aF.l5 m x5 k (ke.set v12.toNat i6) (i64.wrap (i6+1))) else (some ((ke,i6)))
def aF.l7 (m:Nat)(dV:List Int)(si:ak):Nat→(List Int)→Int→Option ((List Int) × Int)
 | 0,_,_=>none
 | k+1,lX,k4=>if (decide (k4<(si.args.length:Int)))=true then ((ix si.args k4).bind fun sR=>(ix dV sR).bind fun Ta=>(app 8 lX ([Ta])).bind fun x6=>aF.l7 m dV si k x6 (i64.wrap (k4+1))) else (some ((lX,k4)))
def aF.l6 (m:Nat)(dC:List ak)(x5:(List Int))(dV:List Int):Nat→Int→(List ak)→Int→Option (Int × (List ak) × Int)
 | 0,_,_,_=>none
 | k+1,i8,ky,su=>if (decide (i8<(x5.length:Int)))=true then ((ix x5 i8).bind fun Eu=>(ix dC Eu).bind fun si=>(aF.l7 m dV si m ([]:List Int) 0).bind fun OC=>match OC with | (FT,k5)=>(app 56 ky ([(ak.mk si.kind si.int si.label FT)])).bind fun x7=>aF.l6 m dC x5 dV k (i64.wrap (i8+1)) x7 su) else (some ((i8,ky,su)))
def aF.f (m:Nat)(l0:List ak)(ku:Int):Option (bh):=(bz.f m l0 ku).bind fun x0=>(sY 8 (l0.length:Int) 0).bind fun x1=>(aF.l0 m x0 m x1 0).bind fun bp=>match bp with | (aV,i1)=>(aF.l1 m l0 x0 aV m ([]:List ak) 0).bind fun fU=>match fU with | (AD,i3)=>(aA.f m AD).bind fun x4=>(aF.l3 m x4 m AD 0).bind fun eK=>match eK with | (dC,i5)=>(bz.f m dC 0).bind fun x5=>(aF.l5 m x5 m aV 0).bind fun Al=>match Al with | (dV,i7)=>(aF.l6 m dC x5 dV m 0 ([]:List ak) 0).bind fun To=>match To with | (i9,RE,OD)=>some (bh.mk RE OD)
def aF.fin (L:Mem)(r:bh)(s:St):Prop:=∃av,aK Tryz.prog (s.open mR) Tryz.f112.results.toList=some av∧Hy s.h av (.agg [af.fz r.nodes,.i r.root])
def X7 (cf:CallF)(m:Nat):Prop:=∀(l0:List ak) (ku:Int) (r:bh),aF.f m l0 ku=some r→∀h xs,tC xs [af.fz l0,.i ku]→cf 112 xs h=some (.agg [af.fz r.nodes,.i r.root],h)
section
variable {cf:CallF}{m:Nat}
theorem aF.cm (L:Mem)(l0:List ak)(x0:(List Int))   : b9 Tryz.prog cf mR m (sub [1,1,1,1,0,1,0,0] (bw Tryz.f112)) (fun k (σ:(List Int) × Int)=>aF.l0 m x0 k σ.1 σ.2) (fun σ s=>match σ with | (cX,i0)=>∃b7 h1,s=⟨af.fz l0 :: .any :: .lp 4 0::ab.fz x0 :: .rs b7 0 cX.length 1 :: .rs (0) 0 (([]:List ak).length) 4 :: .i i0::Xh [],[some [.nils,.i 0],none,none,none],h1⟩∧Has h1 (((0),.sl (([]:List ak).length) 4 (dJ.l (bm ([]:List ak) ([]:List Nat))))::(b7,.sl cX.length 1 (ab.l cX))::L)) (fun out e s=>(e = .exit 0∧∃cX i0,(cX,i0)=out∧∃ud Vi b7 h1,s=⟨af.fz l0 :: .any :: .lp 4 0::ab.fz x0 :: .rs b7 0 cX.length 1 :: .rs (0) 0 (([]:List ak).length) 4::ud::zO (Vi::B0 []),[some [.nils,.i 0],none,none,none],h1⟩∧Has h1 (((0),.sl (([]:List ak).length) 4 (dJ.l (bm ([]:List ak) ([]:List Nat))))::(b7,.sl cX.length 1 (ab.l cX))::L))):=by
 refine jF (fun _=>rfl) ?_
 rintro k ⟨cX,i0⟩ s out ⟨b7,h1,rfl,o2⟩ H
 have H:aF.l0 m x0 (k+1) cX i0=some out:=H
 refine qq <| qq <| q0 <| qc H (fun c0 H=>?_) (fun c0 H=>?_)
 ·refine qk <| qq <| qb 1 ?_
  obtain⟨v0,e3,H⟩:=aP H
  obtain⟨v1,e4,H⟩:=aP H
  obtain⟨h2,e5,o3⟩:=dD (P:=Tryz.prog) (tf:=3) (E:=ab) (l:=cX) (q:=1) (v:=i0) (x:=.i i0) o2 rfl Z3 e4 rfl rfl
  exact qr [.v 3 (bN (k:=.i64) (E:=ab) (l:=x0) da e3),.v 4 (cO  (E:=ab) (l:=x0) h1 A3 e3 rfl),.v 6 (aL (k:=.i64) (E:=ab) (l:=cX) (q:=1) da o2 rfl e4),.w 7 e5] <| q0 <| ⟨(cX.set v0.toNat i0,i64.wrap (i0+1)),⟨b7,h2,ld,(ow o3)⟩,H⟩
 ·exact qx 0 <| ⟨rfl,cX,i0,oi H,.i i0,.bool (decide (i0<(x0.length:Int))),b7,h1,kr,o2⟩
theorem aF.mK (L:Mem)(l0:List ak)(x0:(List Int))(bT:Nat)(aV:List Int)(bT:Nat)(cK:Nat)(iZ:List ak)(i2:Int)(cK:Nat)(dT:List Nat)(v3:ak)   : b9 Tryz.prog cf mR m (sub [1,1,1,1,1,0,1,0,0,1,0,0,1,1,0,1,0,0] (bw Tryz.f112)) (fun k (σ:(List Int) × Int)=>aF.l2 m aV v3 k σ.1 σ.2) (fun σ s=>match σ with | (br,k0)=>∃dN h5,s=⟨af.fz l0 :: .any :: .lp 4 0::ab.fz x0 :: .rs bT 0 aV.length 1 :: .rs cK 0 iZ.length 4 :: .any :: .i i2 :: .lp 10 0 :: .rs dN 0 br.length 1 :: .i k0::Uk [],[some [.nils,.i 0],some [.i v3.kind,.i v3.int,.str v3.label,ab.fz v3.args],none,none],h5⟩∧Has h5 ((dN,.sl br.length 1 (ab.l br))::(cK,.sl iZ.length 4 (dJ.l (bm iZ dT)))::(bT,.sl aV.length 1 (ab.l aV))::(fA iZ dT++L))) (fun out e s=>(e = .exit 4∧∃br k0,(br,k0)=out∧∃wV aa8 dN h5,s=⟨af.fz l0 :: .any :: .lp 4 0::ab.fz x0 :: .rs bT 0 aV.length 1 :: .rs cK 0 iZ.length 4 :: .any :: .i i2 :: .lp 10 0 :: .rs dN 0 br.length 1::wV::zN (aa8::sO []),[some [.nils,.i 0],some [.i v3.kind,.i v3.int,.str v3.label,ab.fz v3.args],none,none],h5⟩∧Has h5 ((dN,.sl br.length 1 (ab.l br))::(cK,.sl iZ.length 4 (dJ.l (bm iZ dT)))::(bT,.sl aV.length 1 (ab.l aV))::(fA iZ dT++L)))):=by
 refine jF (fun _=>rfl) ?_
 rintro k ⟨br,k0⟩ s out ⟨dN,h5,rfl,o7⟩ H
 have H:aF.l2 m aV v3 (k+1) br k0=some out:=H
 refine qq <| qq <| q0 <| qc H (fun c2 H=>?_) (fun c2 H=>?_)
 ·refine qk <| qq <| qb 5 ?_
  obtain⟨v4,e9,H⟩:=aP H
  obtain⟨v5,ma,H⟩:=aP H
  obtain⟨x2,nH,H⟩:=aP H
  obtain⟨gM,h6,oS,o8⟩:=eu (P:=Tryz.prog) (E:=ab) (l:=br) (q:=0) (t2:=22) (x:=.fz [.i v5] 1 true) (l2:=([v5])) da o7 rfl kr rfl nH
  exact qr [.v 5 (bN (k:=.i64) (E:=ab) (l:=v3.args) da e9),.v 6 (cO  (E:=ab) (l:=v3.args) h5 A3 e9 rfl),.v 7 (aL (k:=.i64) (E:=ab) (l:=aV) (q:=2) da o7 rfl ma),.v 8 (bq  (E:=ab) (l:=aV) (q:=2) o7 rfl A3 ma rfl),.a 10 oS] <| q0 <| ⟨(x2,i64.wrap (k0+1)),⟨gM,h6,kr,o8⟩,H⟩
 ·exact qx 4 <| ⟨rfl,br,k0,oi H,.i k0,.bool (decide (k0<(v3.args.length:Int))),dN,h5,kr,o7⟩
theorem aF.iw (L:Mem)(l0:List ak)(x0:(List Int))(bT:Nat)(aV:List Int)(bT:Nat)   : b9 Tryz.prog cf mR m (sub [1,1,1,1,1,0,1,0,0] (bw Tryz.f112)) (fun k (σ:(List ak) × Int)=>aF.l1 m l0 x0 aV k σ.1 σ.2) (fun σ s=>match σ with | (iZ,i2)=>∃cK dT h4,s=⟨af.fz l0 :: .any :: .lp 4 0::ab.fz x0 :: .rs bT 0 aV.length 1 :: .rs cK 0 iZ.length 4 :: .any :: .i i2::Um [],[some [.nils,.i 0],none,none,none],h4⟩∧Has h4 ((cK,.sl iZ.length 4 (dJ.l (bm iZ dT)))::(bT,.sl aV.length 1 (ab.l aV))::(fA iZ dT++L))) (fun out e s=>(e = .exit 2∧∃iZ i2,(iZ,i2)=out∧∃lH z8 vg aa9 cK dT h4,s=⟨lH :: .any :: .lp 4 0::z8 :: .rs bT 0 aV.length 1 :: .rs cK 0 iZ.length 4 :: .any::vg::zO (aa9::wF []),[some [.nils,.i 0],none,none,none],h4⟩∧Has h4 ((cK,.sl iZ.length 4 (dJ.l (bm iZ dT)))::(bT,.sl aV.length 1 (ab.l aV))::(fA iZ dT++L)))):=by
 refine jF (fun _=>rfl) ?_
 rintro k ⟨iZ,i2⟩ s out ⟨cK,dT,h4,rfl,o5⟩ H
 have H:aF.l1 m l0 x0 aV (k+1) iZ i2=some out:=H
 refine qq <| qq <| q0 <| qc H (fun c1 H=>?_) (fun c1 H=>?_)
 ·refine qk <| qq <| qb 3 <| qq ?_
  obtain⟨v2,e7,H⟩:=aP H
  obtain⟨v3,e8,H⟩:=aP H
  refine qr [.v 3 (bN (k:=.i64) (E:=ab) (l:=x0) da e7),.v 4 (cO  (E:=ab) (l:=x0) h4 A3 e7 rfl),.v 5 (bN (k:=.i64) (E:=af) (l:=l0) lJ e8),.v 6 (fZ  (E:=af) (l:=l0) h4 tE tF e8)] <| qq <| q0 ?_
  have o6:Has h4 ((((0)),.sl (([]:List Int).length) 1 (ab.l ([]:List Int)))::(cK,.sl iZ.length 4 (dJ.l (bm iZ dT)))::(bT,.sl aV.length 1 (ab.l aV))::(fA iZ dT++L)):=Has.nil o5 1
  refine qq <| qq <| q0 <| qb 4 ?_
  obtain⟨cM,rF,H⟩:=aP H
  refine ql (aF.mK L l0 x0 bT aV bT cK iZ i2 cK dT v3   (([]:List Int),0) _ _ ⟨((0)),h4,kr,o6⟩ rF) ?_
  rintro e s ⟨rfl,jJ,k1,rfl,g2,g3,iy,h7,rfl,o9⟩
  try dsimp only at H
  refine q1 ?_
  obtain⟨x3,s7,H⟩:=aP H
  obtain⟨iM,Ac,h8,s8,s9⟩:=NM (P:=Tryz.prog) (t2:=23) (pre:=[(bT,.sl aV.length 1 (ab.l aV))]) (ns:=iZ) (ids:=dT) (kind:=v3.kind) (int:=v3.int) (label:=v3.label) (args:=jJ) (x:=.fz [.i v3.kind,.i v3.int,.str v3.label,.rs iy 0 jJ.length 1] 1 true) lJ (bI (bI (bI o9 2) 1) 2) kr rfl s7
  exact qr [.a 3 s8] <| q0 <| ⟨(x3,i64.wrap (i2+1)),⟨iM,Ac,h8,kr,s9⟩,H⟩
 ·exact qx 2 <| ⟨rfl,iZ,i2,oi H,af.fz l0,ab.fz x0,.i i2,.bool (decide (i2<(x0.length:Int))),cK,dT,h4,kr,o5⟩
theorem aF.vA (L:Mem)(bT:Nat)(aV:List Int)(bT:Nat)(x4:(List Int))(i4:Int)   : b9 Tryz.prog cf mR m (sub [1,1,1,1,1,1,1,0,1,0,0,1,0,0,1,0,0] (bw Tryz.f112)) (fun k (σ:(List ak) × Int)=>aF.l4 m x4 i4 k σ.1 σ.2) (fun σ s=>match σ with | (iK,k2)=>∃fC px h11,s=⟨.any :: .any :: .lp 4 0 :: .any :: .rs bT 0 aV.length 1 :: .rs fC 0 iK.length 4::sO (ab.fz x4 :: .i i4 :: .i k2::Rb []),[some [.nils,.i 0],none,none,none],h11⟩∧Has h11 ((fC,.sl iK.length 4 (dJ.l (bm iK px)))::(bT,.sl aV.length 1 (ab.l aV))::(fA iK px++L))) (fun out e s=>(e = .exit 8∧∃iK k2,(iK,k2)=out∧∃DO aba fC px h11,s=⟨.any :: .any :: .lp 4 0 :: .any :: .rs bT 0 aV.length 1 :: .rs fC 0 iK.length 4::sO (ab.fz x4 :: .i i4::DO::vc (aba::nc [])),[some [.nils,.i 0],none,none,none],h11⟩∧Has h11 ((fC,.sl iK.length 4 (dJ.l (bm iK px)))::(bT,.sl aV.length 1 (ab.l aV))::(fA iK px++L)))):=by
 refine jF (fun _=>rfl) ?_
 rintro k ⟨iK,k2⟩ s out ⟨fC,px,h11,rfl,mX⟩ H
 have H:aF.l4 m x4 i4 (k+1) iK k2=some out:=H
 refine qq <| qq ?_
 obtain⟨v6,yW,H⟩:=aP H
 refine qr [.v 3 (aL (k:=.i64) (E:=dJ) (l:=(bm iK px)) (q:=0) lJ mX rfl (lb yW)),.v 5 (pR  (E:=dJ) (l:=(bm iK px)) (q:=0) (off:=3) mX rfl Qj (lb yW) rfl)] <| qc H (fun c4 H=>?_) (fun c4 H=>?_)
 ·refine qk <| qq <| qb 9 ?_
  obtain⟨v7,vq,H⟩:=aP H
  obtain⟨v8,Bd,H⟩:=aP H
  obtain⟨v9,Bu,H⟩:=aP H
  obtain⟨v10,Bv,H⟩:=aP H
  obtain⟨v11,Be,H⟩:=aP H
  obtain⟨h12,Bw,vW⟩:=Uo (P:=Tryz.prog) (tf:=3) (pre:=[(bT,.sl aV.length 1 (ab.l aV))]) (v:=v10) mX Z3 vq Be
  refine qr [.v 2 (aL (k:=.i64) (E:=dJ) (l:=(bm iK px)) (q:=0) lJ mX rfl (lb vq)),.v 4 (pR  (E:=dJ) (l:=(bm iK px)) (q:=0) (off:=3) mX rfl Qj (lb vq) rfl),.v 9 (aL (k:=.i64) (E:=dJ) (l:=(bm iK px)) (q:=0) lJ mX rfl (lb Bd)),.v 11 (pR  (E:=dJ) (l:=(bm iK px)) (q:=0) (off:=3) mX rfl Qj (lb Bd) rfl),.v 13 (aL (k:=.i64) (E:=ab) (l:=v8.args) da mX (wH (pre:=[(fC,.sl iK.length 4 (dJ.l (bm iK px))),(bT,.sl aV.length 1 (ab.l aV))]) (ids:=px) Bd) Bu),.v 14 (bq  (E:=ab) (l:=v8.args) mX (wH (pre:=[(fC,.sl iK.length 4 (dJ.l (bm iK px))),(bT,.sl aV.length 1 (ab.l aV))]) (ids:=px) Bd) A3 Bu rfl),.v 15 (bN (k:=.i64) (E:=ab) (l:=x4) da Bv),.v 16 (cO  (E:=ab) (l:=x4) h11 A3 Bv rfl),.v 17 (aL (k:=.i64) (E:=ab) (l:=v7.args) da mX (wH (pre:=[(fC,.sl iK.length 4 (dJ.l (bm iK px))),(bT,.sl aV.length 1 (ab.l aV))]) (ids:=px) vq) Be),.w 18 Bw] ?_
  exact q0 <| ⟨(iK.set i4.toNat (ak.mk v7.kind v7.int v7.label (v7.args.set k2.toNat v10)),i64.wrap (k2+1)),⟨fC,px,h12,ld,(ow vW)⟩,H⟩
 ·exact qx 8 <| ⟨rfl,iK,k2,oi H,.i k2,.bool (decide (k2<(v6.args.length:Int))),fC,px,h11,kr,mX⟩
theorem aF.vz (L:Mem)(bT:Nat)(aV:List Int)(bT:Nat)(x4:(List Int))   : b9 Tryz.prog cf mR m (sub [1,1,1,1,1,1,1,0,1,0,0] (bw Tryz.f112)) (fun k (σ:(List ak) × Int)=>aF.l3 m x4 k σ.1 σ.2) (fun σ s=>match σ with | (lW,i4)=>∃kP Ad h10,s=⟨.any :: .any :: .lp 4 0 :: .any :: .rs bT 0 aV.length 1 :: .rs kP 0 lW.length 4::sO (ab.fz x4 :: .i i4::HC []),[some [.nils,.i 0],none,none,none],h10⟩∧Has h10 ((kP,.sl lW.length 4 (dJ.l (bm lW Ad)))::(bT,.sl aV.length 1 (ab.l aV))::(fA lW Ad++L))) (fun out e s=>(e = .exit 6∧∃lW i4,(lW,i4)=out∧∃pZ Aa abb kP Ad h10,s=⟨.any :: .any :: .lp 4 0 :: .any :: .rs bT 0 aV.length 1 :: .rs kP 0 lW.length 4::sO (pZ::Aa::vc (abb::l9 [])),[some [.nils,.i 0],none,none,none],h10⟩∧Has h10 ((kP,.sl lW.length 4 (dJ.l (bm lW Ad)))::(bT,.sl aV.length 1 (ab.l aV))::(fA lW Ad++L)))):=by
 refine jF (fun _=>rfl) ?_
 rintro k ⟨lW,i4⟩ s out ⟨kP,Ad,h10,rfl,wP⟩ H
 have H:aF.l3 m x4 (k+1) lW i4=some out:=H
 refine qq <| qq <| q0 <| qc H (fun c3 H=>?_) (fun c3 H=>?_)
 ·refine qk <| qq <| qb 7 <| qq <| q0 <| qb 8 ?_
  obtain⟨mI,DM,H⟩:=aP H
  refine ql (aF.vA L bT aV bT x4 i4   (lW,0) _ _ ⟨kP,Ad,h10,kr,wP⟩ DM) ?_
  rintro e s ⟨rfl,OB,k3,rfl,g8,g9,hY,abc,h13,rfl,Bx⟩
  try dsimp only at H
  exact q0 <| ⟨(OB,i64.wrap (i4+1)),⟨hY,abc,h13,kr,Bx⟩,H⟩
 ·exact qx 6 <| ⟨rfl,lW,i4,oi H,ab.fz x4,.i i4,.bool (decide (i4<(lW.length:Int))),kP,Ad,h10,kr,wP⟩
theorem aF.Ox (L:Mem)(gJ:Nat)(dC:List ak)(gJ:Nat)(kI:List Nat)(x5:(List Int))   : b9 Tryz.prog cf mR m (sub [1,1,1,1,1,1,1,1,1,0,1,0,0] (bw Tryz.f112)) (fun k (σ:(List Int) × Int)=>aF.l5 m x5 k σ.1 σ.2) (fun σ s=>match σ with | (ke,i6)=>∃jo h15,s=⟨.any :: .any :: .lp 4 0 :: .any :: .rs jo 0 ke.length 1 :: .rs gJ 0 dC.length 4::tX (ab.fz x5 :: .i i6::Fg []),[some [.nils,.i 0],none,none,none],h15⟩∧Has h15 ((gJ,.sl dC.length 4 (dJ.l (bm dC kI)))::(jo,.sl ke.length 1 (ab.l ke))::(fA dC kI++L))) (fun out e s=>(e = .exit 10∧∃ke i6,(ke,i6)=out∧∃DQ Oy jo h15,s=⟨.any :: .any :: .lp 4 0 :: .any :: .rs jo 0 ke.length 1 :: .rs gJ 0 dC.length 4::tX (ab.fz x5::DQ::wG [Oy,.any,.any]),[some [.nils,.i 0],none,none,none],h15⟩∧Has h15 ((gJ,.sl dC.length 4 (dJ.l (bm dC kI)))::(jo,.sl ke.length 1 (ab.l ke))::(fA dC kI++L)))):=by
 refine jF (fun _=>rfl) ?_
 rintro k ⟨ke,i6⟩ s out ⟨jo,h15,rfl,yX⟩ H
 have H:aF.l5 m x5 (k+1) ke i6=some out:=H
 refine qq <| qq <| q0 <| qc H (fun c5 H=>?_) (fun c5 H=>?_)
 ·refine qk <| qq <| qb 11 ?_
  obtain⟨v12,JM,H⟩:=aP H
  obtain⟨Og,LR,H⟩:=aP H
  obtain⟨h16,LS,oM⟩:=dD (P:=Tryz.prog) (tf:=3) (E:=ab) (l:=ke) (q:=1) (v:=i6) (x:=.i i6) yX rfl Z3 LR rfl rfl
  exact qr [.v 3 (bN (k:=.i64) (E:=ab) (l:=x5) da JM),.v 4 (cO  (E:=ab) (l:=x5) h15 A3 JM rfl),.v 6 (aL (k:=.i64) (E:=ab) (l:=ke) (q:=1) da yX rfl LR),.w 7 LS] <| q0 <| ⟨(ke.set v12.toNat i6,i64.wrap (i6+1)),⟨jo,h16,ld,(ow oM)⟩,H⟩
 ·exact qx 10 <| ⟨rfl,ke,i6,oi H,.i i6,.bool (decide (i6<(x5.length:Int))),jo,h15,kr,yX⟩
theorem aF.X8 (L:Mem)(gJ:Nat)(dC:List ak)(gJ:Nat)(kI:List Nat)(x5:(List Int))(kO:Nat)(dV:List Int)(kO:Nat)(jT:Nat)(i8:Int)(ky:List ak)(su:Int)(jT:Nat)(Eu:Int)(si:ak)(My:ix dC Eu=some si)   : b9 Tryz.prog cf mR m (sub [1,1,1,1,1,1,1,1,1,1,1,0,1,0,0,1,0,0,1,1,0,1,0,0] (bw Tryz.f112)) (fun k (σ:(List Int) × Int)=>aF.l7 m dV si k σ.1 σ.2) (fun σ s=>match σ with | (lX,k4)=>∃lk h19,s=⟨.any :: .any :: .lp 4 0 :: .any :: .rs kO 0 dV.length 1 :: .rs gJ 0 dC.length 4::tX (ab.fz x5 :: .any :: .lp 18 0 :: .i i8 :: .lp 20 0 :: .rs lk 0 lX.length 1 :: .i k4::tX []),[some [.nils,.i 0],none,some [.rs jT 0 ky.length 4,.i su],some [.i si.kind,.i si.int,.str si.label,.rs (Mw kI Eu) 0 si.args.length 1]],h19⟩∧Has h19 ((lk,.sl lX.length 1 (ab.l lX))::(jT,.sl ky.length 4 (af.l ky))::(gJ,.sl dC.length 4 (dJ.l (bm dC kI)))::(kO,.sl dV.length 1 (ab.l dV))::(fA dC kI++L))) (fun out e s=>(e = .exit 14∧∃lX k4,(lX,k4)=out∧∃Am X9 lk h19,s=⟨.any :: .any :: .lp 4 0 :: .any :: .rs kO 0 dV.length 1 :: .rs gJ 0 dC.length 4::tX (ab.fz x5 :: .any :: .lp 18 0 :: .i i8 :: .lp 20 0 :: .rs lk 0 lX.length 1::Am::B0 [X9]),[some [.nils,.i 0],none,some [.rs jT 0 ky.length 4,.i su],some [.i si.kind,.i si.int,.str si.label,.rs (Mw kI Eu) 0 si.args.length 1]],h19⟩∧Has h19 ((lk,.sl lX.length 1 (ab.l lX))::(jT,.sl ky.length 4 (af.l ky))::(gJ,.sl dC.length 4 (dJ.l (bm dC kI)))::(kO,.sl dV.length 1 (ab.l dV))::(fA dC kI++L)))):=by
 refine jF (fun _=>rfl) ?_
 rintro k ⟨lX,k4⟩ s out ⟨lk,h19,rfl,JL⟩ H
 have H:aF.l7 m dV si (k+1) lX k4=some out:=H
 refine qq <| qq <| q0 <| qc H (fun c7 H=>?_) (fun c7 H=>?_)
 ·refine qk <| qq <| qb 15 ?_
  obtain⟨sR,Rv,H⟩:=aP H
  obtain⟨Ta,Rw,H⟩:=aP H
  obtain⟨x6,U2,H⟩:=aP H
  obtain⟨oK,h20,U4,Oj⟩:=eu (P:=Tryz.prog) (E:=ab) (l:=lX) (q:=0) (t2:=22) (x:=.fz [.i Ta] 1 true) (l2:=([Ta])) da JL rfl kr rfl U2
  exact qr [.v 5 (aL (k:=.i64) (E:=ab) (l:=si.args) da JL (wH (pre:=[(lk,.sl lX.length 1 (ab.l lX)),(jT,.sl ky.length 4 (af.l ky)),(gJ,.sl dC.length 4 (dJ.l (bm dC kI))),(kO,.sl dV.length 1 (ab.l dV))]) (ids:=kI) My) Rv),.v 6 (bq  (E:=ab) (l:=si.args) JL (wH (pre:=[(lk,.sl lX.length 1 (ab.l lX)),(jT,.sl ky.length 4 (af.l ky)),(gJ,.sl dC.length 4 (dJ.l (bm dC kI))),(kO,.sl dV.length 1 (ab.l dV))]) (ids:=kI) My) A3 Rv rfl),.v 7 (aL (k:=.i64) (E:=ab) (l:=dV) (q:=3) da JL rfl Rw),.v 8 (bq  (E:=ab) (l:=dV) (q:=3) JL rfl A3 Rw rfl),.a 10 U4] <| q0 <| ⟨(x6,i64.wrap (k4+1)),⟨oK,h20,kr,Oj⟩,H⟩
 ·exact qx 14 <| ⟨rfl,lX,k4,oi H,.i k4,.bool (decide (k4<(si.args.length:Int))),lk,h19,kr,JL⟩
theorem aF.Ow (L:Mem)(gJ:Nat)(dC:List ak)(gJ:Nat)(kI:List Nat)(x5:(List Int))(kO:Nat)(dV:List Int)(kO:Nat)   : b9 Tryz.prog cf mR m (sub [1,1,1,1,1,1,1,1,1,1,1,0,1,0,0] (bw Tryz.f112)) (fun k (σ:Int × (List ak) × Int)=>aF.l6 m dC x5 dV k σ.1 σ.2.1 σ.2.2) (fun σ s=>match σ with | (i8,ky,su)=>∃jT h18,s=⟨.any :: .any :: .lp 4 0 :: .any :: .rs kO 0 dV.length 1 :: .rs gJ 0 dC.length 4::tX (ab.fz x5 :: .any :: .lp 18 0 :: .i i8::vc []),[some [.nils,.i 0],none,some [.rs jT 0 ky.length 4,.i su],none],h18⟩∧Has h18 ((jT,.sl ky.length 4 (af.l ky))::(gJ,.sl dC.length 4 (dJ.l (bm dC kI)))::(kO,.sl dV.length 1 (ab.l dV))::(fA dC kI++L))) (fun out e s=>(e = .exit 12∧∃i8 ky su,(i8,ky,su)=out∧∃yh wM DP Ob Ya jT h18,s=⟨.any :: .any :: .lp 4 0 :: .any::yh::wM::tX (DP :: .any :: .lp 18 0::Ob::NJ [Ya,.any]),[some [.nils,.i 0],none,some [.rs jT 0 ky.length 4,.i su],none],h18⟩∧Has h18 ((jT,.sl ky.length 4 (af.l ky))::(gJ,.sl dC.length 4 (dJ.l (bm dC kI)))::(kO,.sl dV.length 1 (ab.l dV))::(fA dC kI++L)))):=by
 refine jF (fun _=>rfl) ?_
 rintro k ⟨i8,ky,su⟩ s out ⟨jT,h18,rfl,yp⟩ H
 have H:aF.l6 m dC x5 dV (k+1) i8 ky su=some out:=H
 refine qq <| qq <| q0 <| qc H (fun c6 H=>?_) (fun c6 H=>?_)
 ·refine qk <| qq <| qb 13 <| qq ?_
  obtain⟨Eu,LQ,H⟩:=aP H
  obtain⟨si,My,H⟩:=aP H
  refine qr [.v 3 (bN (k:=.i64) (E:=ab) (l:=x5) da LQ),.v 4 (cO  (E:=ab) (l:=x5) h18 A3 LQ rfl),.v 5 (aL (k:=.i64) (E:=dJ) (l:=(bm dC kI)) (q:=1) lJ yp rfl (lb My)),.v 6 (u9  (E:=dJ) (l:=(bm dC kI)) (q:=1) yp rfl tE tF (lb My))] <| qq <| q0 ?_
  have xN:Has h18 ((((((0)))),.sl (([]:List Int).length) 1 (ab.l ([]:List Int)))::(jT,.sl ky.length 4 (af.l ky))::(gJ,.sl dC.length 4 (dJ.l (bm dC kI)))::(kO,.sl dV.length 1 (ab.l dV))::(fA dC kI++L)):=Has.nil yp 1
  refine qq <| qq <| q0 <| qb 14 ?_
  obtain⟨OC,Ry,H⟩:=aP H
  refine ql (aF.X8 L gJ dC gJ kI x5 kO dV kO jT i8 ky su jT Eu si My   (([]:List Int),0) _ _ ⟨((((0)))),h18,kr,xN⟩ Ry) ?_
  rintro e s ⟨rfl,FT,k5,rfl,g15,g16,oL,h21,rfl,U3⟩
  try dsimp only at H
  refine qq ?_
  obtain⟨h22,Wd,ni⟩:=lQ (E:=ab) (l:=FT) (q:=0) U3 rfl
  refine Jb [.a 0 Wd] [] ?_
  obtain⟨x7,X1,H⟩:=aP H
  obtain⟨um,h23,RD,Mz⟩:=eu (P:=Tryz.prog) (E:=af) (l:=ky) (q:=0) (t2:=23) (x:=.fz [.i si.kind,.i si.int,.str si.label,ab.fz FT] 1 true) (l2:=([(ak.mk si.kind si.int si.label FT)])) lJ ni rfl kr rfl X1
  exact qr [.a 4 RD] <| q0 <| ⟨(i64.wrap (i8+1),x7,su),⟨um,h23,kr,Mz⟩,H⟩
 ·exact qx 12 <| ⟨rfl,i8,ky,su,oi H,.rs kO 0 dV.length 1,.rs gJ 0 dC.length 4,ab.fz x5,.i i8,.bool (decide (i8<(x5.length:Int))),jT,h18,kr,yp⟩
theorem w7 {aW:FuncId→b4}(ha:aW 112=mR)(Tp:XB cf m)(Yb:XY cf m)(l0:List ak)(ku:Int)(h:AHeap)(L:Mem)  (o:Has h (L)){out:bh}(H:aF.f m l0 ku=some out) :
  ∃r h',bj Tryz.prog aW cf m 112 [af.fz l0,.i ku] h=some (r,h')∧Hy h' r (.agg [af.fz out.nodes,.i out.root]):=by
 refine aw (fn:=Tryz.f112) ha Tryz.func112 kr kr ?_
 refine aI (Q:=fun s=>aF.fin L out s) (fun _ _ h=>h) ?_
 have H:_=some out:=H
 unfold aF.f at H
 show dE _ cf mR m _ ⟨af.fz l0 :: .i ku::Un [],[none,none,none,none],h⟩ _
 refine q1 <| qq ?_
 obtain⟨x0,e0,H⟩:=aP H
 refine qr [.a 2 (Tp _ _ _ e0 h _ fq)] <| qq ?_
 obtain⟨x1,e1,H⟩:=aP H
 obtain⟨aX,h0,e2,o0⟩:=nE (P:=Tryz.prog) (E:=ab) (z:=0) (zv:=.i 0) da o 3 rfl rfl rfl rfl e1
 refine qr [.a 2 e2] <| qq <| q0 ?_
 have o1:Has h0 (((0),.sl (([]:List ak).length) 4 (dJ.l (bm ([]:List ak) ([]:List Nat))))::(aX,.sl x1.length 1 (ab.l x1))::L):=Has.nil o0 4
 refine qq <| qq <| q0 <| qb 0 ?_
 obtain⟨bp,e6,H⟩:=aP H
 refine ql (aF.cm L l0 x0   (x1,0) _ _ ⟨aX,h0,kr,o1⟩ e6) ?_
 rintro e s ⟨rfl,aV,i1,rfl,g0,g1,bT,h3,rfl,o4⟩
 try dsimp only at H
 refine qq <| qq <| q0 <| qb 2 ?_
 obtain⟨fU,vj,H⟩:=aP H
 refine ql (aF.iw L l0 x0 bT aV bT   (([]:List ak),0) _ _ ⟨(0),([]:List Nat),h3,kr,o4⟩ vj) ?_
 rintro e s ⟨rfl,AD,i3,rfl,g4,g5,g6,g7,kl,HJ,h9,rfl,qP⟩
 try dsimp only at H
 refine qq ?_
 obtain⟨x4,yV,H⟩:=aP H
 refine qr [.a 1 (Yb _ _ yV h9 _ (ia (ai (wI (pre:=[(kl,.sl AD.length 4 (dJ.l (bm AD HJ))),(bT,.sl aV.length 1 (ab.l aV))]) (ns:=AD) (ids:=HJ) (q:=0) qP rfl) (aD))))] <| qq <| qq <| q0 <| qb 6 ?_
 obtain⟨eK,DS,H⟩:=aP H
 refine ql (aF.vz L bT aV bT x4   (AD,0) _ _ ⟨kl,HJ,h9,kr,qP⟩ DS) ?_
 rintro e s ⟨rfl,dC,i5,rfl,g10,g11,g12,gJ,kI,h14,rfl,pn⟩
 try dsimp only at H
 refine qq ?_
 obtain⟨x5,HV,H⟩:=aP H
 refine qr [.a 1 (Tp _ _ _ HV h14 _ (ia (ai (wI (pre:=[(gJ,.sl dC.length 4 (dJ.l (bm dC kI))),(bT,.sl aV.length 1 (ab.l aV))]) (ns:=dC) (ids:=kI) (q:=0) pn rfl) (ai (aU) (aD)))))] <| qq <| qq <| q0 <| qb 10 ?_
 obtain⟨Al,GZ,H⟩:=aP H
 refine ql (aF.Ox L gJ dC gJ kI x5   (aV,0) _ _ ⟨bT,h14,kr,pn⟩ GZ) ?_
 rintro e s ⟨rfl,dV,i7,rfl,g13,g14,kO,h17,rfl,Ao⟩
 try dsimp only at H
 refine q1 ?_
 have LP:Has h17 (((((0))),.sl (([]:List ak).length) 4 (af.l ([]:List ak)))::(gJ,.sl dC.length 4 (dJ.l (bm dC kI)))::(kO,.sl dV.length 1 (ab.l dV))::(fA dC kI++L)):=Has.nil Ao 4
 refine qq <| qq <| q0 <| qb 12 ?_
 obtain⟨To,Th,H⟩:=aP H
 refine ql (aF.Ow L gJ dC gJ kI x5 kO dV kO   (0,([]:List ak),0) _ _ ⟨(((0))),h17,kr,LP⟩ Th) ?_
 rintro e s ⟨rfl,i9,RE,OD,rfl,g17,g18,g19,g20,g21,jH,h24,rfl,JN⟩
 try dsimp only at H
 refine qq ?_
 obtain⟨h25,Tk,Rx⟩:=lQ (E:=af) (l:=RE) (q:=0) JN rfl
 refine Jb [.a 0 Tk] [] ?_
 have Rz:Has h25 ((gJ,.sl dC.length 4 (dJ.l (bm dC kI)))::(fA dC kI++L)):=iC Rx 1
 have Tb:Has h25 (L):=Has.gone (pre:=[]) (iC Rz 0)
 obtain rfl:=oi H
 exact qt <| ⟨.inl rfl,Qi (.agg [af.fz RE,.i OD]) h25 (CO (eJ (ai (iu) (ai (aU) (aD)))))⟩
end
def uq:b4:=gL [0,1,2,6,7,8,9,13,30,35,54] [] [2032,1984,1856,2000,1984,1984,2032,1776,1984,1472,2000,1984,1984,1952,928,2032,2032] [] []
def dh.l0 (m:Nat)(n0:Int)(bD:Int→Int→Option (Int)):Nat→(List Int)→Int→Int→Option ((List Int) × Int × Int)
 | 0,_,_,_=>none
 | k+1,cg,a0,b0=>if (decide (b0≤n0))=true then ((bF.f m cg a0 b0 bD).bind fun x0=>dh.l0 m n0 bD k x0 b0 (i64.wrap (b0+20))) else (some ((cg,a0,b0)))
def dh.l2 (m:Nat)(n0:Int)(bD:Int→Int→Option (Int))(bY:Int):Nat→(List Int)→Int→Int→Option ((List Int) × Int × Int)
 | 0,_,_,_=>none
 | k+1,mY,a2,b2=>if (decide (b2≤n0))=true then ((be.f m m mY a2 (i64.wrap (a2+bY)) b2 bD).bind fun x2=>dh.l2 m n0 bD bY k x2 b2 (i64.wrap (b2+i64.wrap (2*bY)))) else (some ((mY,a2,b2)))
def dh.l1 (m:Nat)(n0:Int)(bD:Int→Int→Option (Int)):Nat→(List Int)→Int→Option ((List Int) × Int)
 | 0,_,_=>none
 | k+1,gg,bY=>if (decide (bY<n0))=true then ((dh.l2 m n0 bD bY m gg 0 (i64.wrap (2*bY))).bind fun cM=>match cM with | (pv,a3,b3)=>if (decide ((i64.wrap (a3+bY))<n0))=true then ((be.f m m pv a3 (i64.wrap (a3+bY)) n0 bD).bind fun x3=>dh.l1 m n0 bD k x3 (i64.wrap (bY*2))) else (dh.l1 m n0 bD k pv (i64.wrap (bY*2)))) else (some ((gg,bY)))
def dh.f (m:Nat)(aG:List Int)(n0:Int)(bD:Int→Int→Option (Int)):Option ((List Int)):=(dh.l0 m n0 bD m aG 0 20).bind fun bp=>match bp with | (fe,a1,b1)=>(bF.f m fe a1 n0 bD).bind fun x1=>(dh.l1 m n0 bD m x1 20).bind fun fU=>match fU with | (vE,H0)=>some vE
def dh.fin (L:Mem)(aX:Nat)(aG:List Int)(n0:Int)(bD:Int→Int→Option (Int))(r:(List Int))(s:St):Prop:=aK Tryz.prog (s.open uq) Tryz.f134.results.toList=some (.tup [])∧Has s.h ((aX,.sl aG.length 1 (ab.l r))::L)
def Yc (cf:CallF)(m:Nat):Prop:=∀(aG:List Int) (n0:Int) (bD:Int→Int→Option (Int)) (r:(List Int)),dh.f m aG n0 bD=some r→∀h L (dZ:Nat) (aX:Nat),Has h ((aX,.sl dZ 1 (ab.l aG))::L)→∀(py:FuncId) (fT fb:List AV),(ba (.fn py fT) = .fn py fT)→(∀(h:AHeap) (xs:List AV) (a0:Int) (a1:Int) r,bD a0 a1=some r→bl cd h xs ([.i a0,.i a1]++fb)→cf py xs h=some (.i r,h))→(∀h K,Has h (K++(L))→bl ez h fT fb)→(∀h,bl ez h fb fb)→∀xs,xs.map ba=[.rs aX 0 dZ 1,.i n0,.fn py fT]→∃h',cf 134 xs h=some (.tup [],h')∧Has h' ((aX,.sl dZ 1 (ab.l r))::L)
section
variable {cf:CallF}{m:Nat}
theorem dh.cm (L:Mem)(aX:Nat)(py:FuncId)(fT fb:List AV)(aG:List Int)(n0:Int)(bD:Int→Int→Option (Int))  (yt:ba (.fn py fT) = .fn py fT)(yu:∀(h:AHeap) (xs:List AV) (a0:Int) (a1:Int) r,bD a0 a1=some r→bl cd h xs ([.i a0,.i a1]++fb)→cf py xs h=some (.i r,h))(yv:∀h K,Has h (K++(L))→bl ez h fT fb)(yw:∀h,bl ez h fb fb)(J5:UP cf m):b9 Tryz.prog cf uq m (sub [1,1,0,0,0] (bw Tryz.f134)) (fun k (σ:(List Int) × Int × Int)=>dh.l0 m n0 bD k σ.1 σ.2.1 σ.2.2) (fun σ s=>match σ with | (cg,a0,b0)=>∃h0,s=⟨.rs aX 0 aG.length 1 :: .i n0 :: .fn py fT :: .i 20 :: .i a0 :: .i b0::sO [],[],h0⟩∧Has h0 ((aX,.sl aG.length 1 (ab.l cg))::L)) (fun out e s=>(e = .exit 0∧∃cg a0 b0,(cg,a0,b0)=out∧∃ud pZ h0,s=⟨.rs aX 0 aG.length 1 :: .i n0 :: .fn py fT :: .i 20 :: .i a0::ud :: .any::pZ::nc [],[],h0⟩∧Has h0 ((aX,.sl aG.length 1 (ab.l cg))::L))):=by
 refine jF (fun _=>rfl) ?_
 rintro k ⟨cg,a0,b0⟩ s out ⟨h0,rfl,o0⟩ H
 have H:dh.l0 m n0 bD (k+1) cg a0 b0=some out:=H
 refine qq <| qq <| q0 <| qc H (fun c0 H=>?_) (fun c0 H=>?_)
 ·refine qk <| qb 1 <| qq ?_
  obtain⟨x0,e0,H⟩:=aP H
  obtain⟨h1,e1,o1⟩:=J5 _ _ _ _ _ e0 h0 _ _ _ (o0) py fT fb yt yu (fun h' K' o'=>yv h' (K'++[]) (by simpa only [ai7,ajv,ajj] using o')) yw [.rs aX 0 aG.length 1,.i a0,.i b0,.fn py fT] cq
  exact qr [.a 4 e1] <| qq <| q0 <| q0 <| ⟨(x0,b0,i64.wrap (b0+20)),⟨h1,kr,o1⟩,H⟩
 ·exact qx 0 <| ⟨rfl,cg,a0,b0,oi H,.i b0,.bool (decide (b0≤n0)),h0,kr,o0⟩
theorem dh.mK (L:Mem)(aX:Nat)(py:FuncId)(fT fb:List AV)(aG:List Int)(n0:Int)(bD:Int→Int→Option (Int))(bY:Int)  (yt:ba (.fn py fT) = .fn py fT)(yu:∀(h:AHeap) (xs:List AV) (a0:Int) (a1:Int) r,bD a0 a1=some r→bl cd h xs ([.i a0,.i a1]++fb)→cf py xs h=some (.i r,h))(yv:∀h K,Has h (K++(L))→bl ez h fT fb)(yw:∀h,bl ez h fb fb)(lV:By cf m m):b9 Tryz.prog cf uq m (sub [1,1,1,1,0,0,1,0,1,0,0,0] (bw Tryz.f134)) (fun k (σ:(List Int) × Int × Int)=>dh.l2 m n0 bD bY k σ.1 σ.2.1 σ.2.2) (fun σ s=>match σ with | (mY,a2,b2)=>∃h5,s=⟨.rs aX 0 aG.length 1 :: .i n0 :: .fn py fT :: .i bY :: .i a2 :: .i b2::sO [],[],h5⟩∧Has h5 ((aX,.sl aG.length 1 (ab.l mY))::L)) (fun out e s=>(e = .exit 4∧∃mY a2 b2,(mY,a2,b2)=out∧∃ud OE h5,s=⟨.rs aX 0 aG.length 1 :: .i n0 :: .fn py fT :: .i bY :: .i a2::ud::nc [OE,.any],[],h5⟩∧Has h5 ((aX,.sl aG.length 1 (ab.l mY))::L))):=by
 refine jF (fun _=>rfl) ?_
 rintro k ⟨mY,a2,b2⟩ s out ⟨h5,rfl,o5⟩ H
 have H:dh.l2 m n0 bD bY (k+1) mY a2 b2=some out:=H
 refine qq <| qq <| q0 <| qc H (fun c2 H=>?_) (fun c2 H=>?_)
 ·refine qk <| qb 5 <| qq ?_
  obtain⟨x2,e5,H⟩:=aP H
  obtain⟨h6,e6,o6⟩:=lV _ _ _ _ _ _ e5 h5 _ _ _ (o5) py fT fb yt yu (fun h' K' o'=>yv h' (K'++[]) (by simpa only [ai7,ajv,ajj] using o')) yw [.rs aX 0 aG.length 1,.i a2,.i (i64.wrap (a2+bY)),.i b2,.fn py fT] cq
  exact qr [.a 7 e6] <| qq <| q0 <| q0 <| ⟨(x2,b2,i64.wrap (b2+i64.wrap (2*bY))),⟨h6,kr,o6⟩,H⟩
 ·exact qx 4 <| ⟨rfl,mY,a2,b2,oi H,.i b2,.bool (decide (b2≤n0)),h5,kr,o5⟩
theorem dh.iw (L:Mem)(aX:Nat)(py:FuncId)(fT fb:List AV)(aG:List Int)(n0:Int)(bD:Int→Int→Option (Int))  (yt:ba (.fn py fT) = .fn py fT)(yu:∀(h:AHeap) (xs:List AV) (a0:Int) (a1:Int) r,bD a0 a1=some r→bl cd h xs ([.i a0,.i a1]++fb)→cf py xs h=some (.i r,h))(yv:∀h K,Has h (K++(L))→bl ez h fT fb)(yw:∀h,bl ez h fb fb)(lV:By cf m m):b9 Tryz.prog cf uq m (sub [1,1,1,1,0,0] (bw Tryz.f134)) (fun k (σ:(List Int) × Int)=>dh.l1 m n0 bD k σ.1 σ.2) (fun σ s=>match σ with | (gg,bY)=>∃h4,s=⟨.rs aX 0 aG.length 1 :: .i n0 :: .fn py fT :: .i bY::B0 [],[],h4⟩∧Has h4 ((aX,.sl aG.length 1 (ab.l gg))::L)) (fun out e s=>(e = .exit 2∧∃gg bY,(gg,bY)=out∧∃lH wO LM yh HQ h4,s=⟨lH::wO::LM::yh::l9 [HQ,.any,.any],[],h4⟩∧Has h4 ((aX,.sl aG.length 1 (ab.l gg))::L))):=by
 refine jF (fun _=>rfl) ?_
 rintro k ⟨gg,bY⟩ s out ⟨h4,rfl,o4⟩ H
 have H:dh.l1 m n0 bD (k+1) gg bY=some out:=H
 refine qq <| qq <| q0 <| qc H (fun c1 H=>?_) (fun c1 H=>?_)
 ·refine qk <| qb 3 <| qq <| q0 <| qq <| qb 4 ?_
  obtain⟨cM,e7,H⟩:=aP H
  refine ql (dh.mK L aX py fT fb aG n0 bD bY  yt yu yv yw lV (gg,0,i64.wrap (2*bY)) _ _ ⟨h4,kr,o4⟩ e7) ?_
  rintro e s ⟨rfl,pv,a3,b3,rfl,g2,g3,h7,rfl,o7⟩
  try dsimp only at H
  refine qq <| qq <| q0 <| qq <| q0 <| qc H (fun c3 H=>?_) (fun c3 H=>?_)
  ·obtain⟨x3,e8,H⟩:=aP H
   obtain⟨h8,e9,o8⟩:=lV _ _ _ _ _ _ e8 h7 _ _ _ (o7) py fT fb yt yu (fun h' K' o'=>yv h' (K'++[]) (by simpa only [ai7,ajv,ajj] using o')) yw [.rs aX 0 aG.length 1,.i a3,.i (i64.wrap (a3+bY)),.i n0,.fn py fT] cq
   exact qr [.a 5 e9] <| q0 <| ⟨(x3,i64.wrap (bY*2)),⟨h8,kr,o8⟩,H⟩
  ·exact qk <| q0 <| ⟨(pv,i64.wrap (bY*2)),⟨h7,kr,o7⟩,H⟩
 ·exact qx 2 <| ⟨rfl,gg,bY,oi H,.rs aX 0 aG.length 1,.i n0,.fn py fT,.i bY,.bool (decide (bY<n0)),h4,kr,o4⟩
theorem DZ {aW:FuncId→b4}(ha:aW 134=uq)(J5:UP cf m)(lV:By cf m m)(aG:List Int)(n0:Int)(bD:Int→Int→Option (Int))(h:AHeap)(L:Mem)(aX:Nat)(py:FuncId)(fT fb:List AV)  (yt:ba (.fn py fT) = .fn py fT)(yu:∀(h:AHeap) (xs:List AV) (a0:Int) (a1:Int) r,bD a0 a1=some r→bl cd h xs ([.i a0,.i a1]++fb)→cf py xs h=some (.i r,h))(yv:∀h K,Has h (K++(L))→bl ez h fT fb)(yw:∀h,bl ez h fb fb)(o:Has h ((aX,.sl aG.length 1 (ab.l aG))::L)){out:(List Int)}(H:dh.f m aG n0 bD=some out) :
  ∃r h',bj Tryz.prog aW cf m 134 [.rs aX 0 aG.length 1,.i n0,.fn py fT] h=some (r,h')∧r = .tup []∧Has h' ((aX,.sl aG.length 1 (ab.l out))::L):=by
 refine aw (fn:=Tryz.f134) ha Tryz.func134 kr kr ?_
 refine aI (Q:=fun s=>dh.fin L aX aG n0 bD out s) (fun _ _ ⟨h1,h2,h3⟩=>⟨h1,_,h2,rfl,h3⟩) ?_
 have H:_=some out:=H
 unfold dh.f at H
 show dE _ cf uq m _ ⟨.rs aX 0 aG.length 1 :: .i n0 :: .fn py fT::tX [],[],h⟩ _
 refine q1 <| qq <| q0 <| qq <| qb 0 ?_
 obtain⟨bp,e2,H⟩:=aP H
 refine ql (dh.cm L aX py fT fb aG n0 bD  yt yu yv yw J5 (aG,0,20) _ _ ⟨h,kr,o⟩ e2) ?_
 rintro e s ⟨rfl,fe,a1,b1,rfl,g0,g1,h2,rfl,o2⟩
 try dsimp only at H
 refine qq ?_
 obtain⟨x1,e3,H⟩:=aP H
 obtain⟨h3,e4,o3⟩:=J5 _ _ _ _ _ e3 h2 _ _ _ (o2) py fT fb yt yu (fun h' K' o'=>yv h' (K'++[]) (by simpa only [ai7,ajv,ajj] using o')) yw [.rs aX 0 aG.length 1,.i a1,.i n0,.fn py fT] cq
 refine qr [.a 4 e4] <| qb 2 ?_
 obtain⟨fU,ma,H⟩:=aP H
 refine ql (dh.iw L aX py fT fb aG n0 bD  yt yu yv yw lV (x1,20) _ _ ⟨h3,kr,o3⟩ ma) ?_
 rintro e s ⟨rfl,vE,H0,rfl,g4,g5,g6,g7,g8,h9,rfl,o9⟩
 try dsimp only at H
 obtain rfl:=oi H
 exact⟨.inr rfl,⟨kr,he o9⟩⟩
end
def FU:b4:=gL [0,1,2,3,26,31,43] [1] [125,109,123,117,85,117,53,123,123] [] []
def dw.l0 (m:Nat)(t0:bh):Nat→Int→Option (Sum Bool (Int))
 | 0,_=>none
 | k+1,i0=>if (decide (i0<(t0.nodes.length:Int)))=true then ((ix t0.nodes i0).bind fun v0=>(dd.f m v0 (t0.nodes.length:Int)).bind fun x0=>if (!x0)=true then (some (.inl false)) else (dw.l0 m t0 k (i64.wrap (i0+1)))) else (some (.inr i0))
def dw.f (m:Nat)(t0:bh):Option (Bool):=if (decide ((t0.nodes.length:Int)<1))=true then (some false) else (if (decide ((t0.nodes.length:Int) > 8000))=true then (some false) else (if (decide (t0.root<0))=true then (some false) else (if (decide (t0.root≥(t0.nodes.length:Int)))=true then (some false) else ((dw.l0 m t0 m 0).bind fun bp=>match bp with | .inl r0=>some r0 | .inr i1=>some true))))
def dw.fin (L:Mem)(r:Bool)(s:St):Prop:=∃av,aK Tryz.prog (s.open FU) Tryz.f23.results.toList=some av∧eX s.h av (.bool r)
def S23 (cf:CallF)(m:Nat):Prop:=∀(t0:bh) (r:Bool),dw.f m t0=some r→∀h xs,bl cd h xs [.agg [af.fz t0.nodes,.i t0.root]]→cf 23 xs h=some (.bool r,h)
section
variable {cf:CallF}{m:Nat}
theorem dw.cm (L:Mem)(t0:bh)  (OA:Zj cf m):b9 Tryz.prog cf FU m (sub [1,1,0,1,0,0] (bw Tryz.f23)) (fun k (σ:Int)=>dw.l0 m t0 k σ) (fun σ s=>match σ with | i0=>∃h0,s=⟨.any :: .lp 1 0 :: .any :: .i i0::nc [],[some [af.fz t0.nodes,.i t0.root]],h0⟩∧Has h0 (L)) (fun out e s=>(e = .exit 0∧∃i0,.inr i0=out∧∃wO Br HW b1_ h0,s=⟨[.any,wO,.any,Br,.any,HW,.any],[b1_],h0⟩∧Has h0 (L))∨(e = .ret∧∃r,.inl r=out∧dw.fin L r s)):=by
 refine jF (fun _=>rfl) ?_
 rintro k i0 s out ⟨h0,rfl,o0⟩ H
 have H:dw.l0 m t0 (k+1) i0=some out:=H
 refine qq <| qq <| q0 <| qc H (fun c7 H=>?_) (fun c7 H=>?_)
 ·refine qk <| qq <| qb 1 <| qq ?_
  obtain⟨v0,e0,H⟩:=aP H
  obtain⟨x0,e1,H⟩:=aP H
  refine qr [.v 3 (bN (k:=.i64) (E:=af) (l:=t0.nodes) lJ e0),.v 4 (fZ  (E:=af) (l:=t0.nodes) h0 tE tF e0),.a 8 (OA _ _ _ e1 h0 _ fq)] <| qc H (fun c8 H=>?_) (fun c8 H=>?_)
  ·exact q1 <| qt <| ajW (⟨rfl,_,oi H,pX (.bool false) h0 (oR (jh))⟩)
  ·exact qk <| q0 <| ⟨i64.wrap (i0+1),⟨h0,kr,o0⟩,H⟩
 ·exact qx 0 <| akl (⟨rfl,i0,oi H,.lp 1 0,.i i0,.bool (decide (i0<(t0.nodes.length:Int))),some [af.fz t0.nodes,.i t0.root],h0,kr,o0⟩)
theorem w8 {aW:FuncId→b4}(ha:aW 23=FU)(OA:Zj cf m)(t0:bh)(h:AHeap)(L:Mem)  (o:Has h (L)){out:Bool}(H:dw.f m t0=some out) :
  ∃r h',bj Tryz.prog aW cf m 23 [.agg [af.fz t0.nodes,.i t0.root]] h=some (r,h')∧eX h' r (.bool out):=by
 refine aw (fn:=Tryz.f23) ha Tryz.func23 kr kr ?_
 refine aI (Q:=fun s=>dw.fin L out s) (fun _ _ h=>h) ?_
 have H:_=some out:=H
 unfold dw.f at H
 show dE _ cf FU m _ ⟨.agg [af.fz t0.nodes,.i t0.root]::wF [],[none],h⟩ _
 refine q1 <| qq <| qq ?_
 rcases eV H with⟨c0,H⟩| ⟨c0,H⟩
 ·exact qr [.b 4 c0] <| Bb <| qq <| q0 <| qt <| fB H
 ·rcases eV H with⟨c2,H⟩| ⟨c2,H⟩
  ·exact qr [.b 4 c0,.b 10 c2] <| Bb <| qq <| q0 <| qt <| fB H
  ·rcases eV H with⟨c4,H⟩| ⟨c4,H⟩
   ·exact qr [.b 4 c0,.b 10 c2,.b 15 c4] <| Bb <| qq <| q0 <| qt <| fB H
   ·refine qr [.b 4 c0,.b 10 c2,.b 15 c4] <| qc H (fun c6 H=>?_) (fun c6 H=>?_)
    ·exact q1 <| qt <| fB H
    ·refine qk <| qq <| qq <| q0 <| qb 0 ?_
     obtain⟨bp,e2,H⟩:=aP H
     refine ql (dw.cm L t0  OA 0 _ _ ⟨h,kr,o⟩ e2) ?_
     rintro e s (⟨rfl,i1,rfl,g0,g1,g2,g3,h1,rfl,o1⟩| ⟨rfl,r0,rfl,r9⟩)
     ·try dsimp only at H
      exact q1 <| qt <| fB H
     ·try dsimp only at H
      obtain rfl:=oi H
      exact⟨.inl rfl,r9⟩
end
def J6:b4:=gL [0,1,3,4,5] [] [26,7] [] []
def gQ.f (m:Nat)(s0:ae)(a0:ByteArray):Option (Int × Int × ae):=(dF.f m s0 (eR.f m a0) (ak.mk 2 0 a0 ([]))).bind fun x0=>some (x0.1,x0.2.1,x0.2.2)
def gQ.fin (L:Mem)(au:Nat)(aq:Nat)(az:Nat)(s0:ae)(a0:ByteArray)(r:Int × Int × ae)(s:St):Prop:=∃aB aC:Nat,aK Tryz.prog (s.open J6) Tryz.f31.results.toList=some (.tup [.i r.1,.i r.2.1])∧Has s.h ((au,.ob [.bool r.2.2.ay,.rs aB 0 r.2.2.aa.length 4,.rs aC 0 r.2.2.an.length 1])::(aB,.sl r.2.2.aa.length 4 (af.l r.2.2.aa))::(aC,.sl r.2.2.an.length 1 (ab.l r.2.2.an))::L)
def S31 (cf:CallF)(m:Nat):Prop:=∀(s0:ae) (a0:ByteArray) (r:Int × Int × ae),gQ.f m s0 a0=some r→∀h L (au:Nat) (aq:Nat) (az:Nat),Has h ((au,.ob [.bool s0.ay,.rs aq 0 s0.aa.length 4,.rs az 0 s0.an.length 1])::(aq,.sl s0.aa.length 4 (af.l s0.aa))::(az,.sl s0.an.length 1 (ab.l s0.an))::L)→∀xs,xs.map ba=[.ptr au 0,.str a0]→∃aB aC h',cf 31 xs h=some (.tup [.i r.1,.i r.2.1],h')∧Has h' ((au,.ob [.bool r.2.2.ay,.rs aB 0 r.2.2.aa.length 4,.rs aC 0 r.2.2.an.length 1])::(aB,.sl r.2.2.aa.length 4 (af.l r.2.2.aa))::(aC,.sl r.2.2.an.length 1 (ab.l r.2.2.an))::L)
section
variable {cf:CallF}{m:Nat}
theorem ry {aW:FuncId→b4}(ha:aW 31=J6)(DL:Wa cf m)(abd:S73 cf m)(s0:ae)(a0:ByteArray)(h:AHeap)(L:Mem)(au:Nat)(aq:Nat)(az:Nat)  (o:Has h ((au,.ob [.bool s0.ay,.rs aq 0 s0.aa.length 4,.rs az 0 s0.an.length 1])::(aq,.sl s0.aa.length 4 (af.l s0.aa))::(az,.sl s0.an.length 1 (ab.l s0.an))::L)){out:Int × Int × ae}(H:gQ.f m s0 a0=some out) :
  ∃r h',bj Tryz.prog aW cf m 31 [.ptr au 0,.str a0] h=some (r,h')∧∃aB aC:Nat,r = .tup [.i out.1,.i out.2.1]∧Has h' ((au,.ob [.bool out.2.2.ay,.rs aB 0 out.2.2.aa.length 4,.rs aC 0 out.2.2.an.length 1])::(aB,.sl out.2.2.aa.length 4 (af.l out.2.2.aa))::(aC,.sl out.2.2.an.length 1 (ab.l out.2.2.an))::L):=by
 refine aw (fn:=Tryz.f31) ha Tryz.func31 kr kr ?_
 refine aI (Q:=fun s=>gQ.fin L au aq az s0 a0 out s) (fun _ _ ⟨h1,aB,aC,h2,h3⟩=>⟨h1,_,h2,aB,aC,rfl,h3⟩) ?_
 have H:_=some out:=H
 unfold gQ.f at H
 show dE _ cf J6 m _ ⟨.ptr au 0 :: .str a0::nc [],[],h⟩ _
 refine qq ?_
 obtain⟨aX,h0,e0,o0⟩:=ja (cs:=[.str a0]) o kr
 refine qr [.a 0 e0] <| qq ?_
 obtain⟨x0,e1,H⟩:=aP H
 obtain⟨b7,bT,h1,e2,o1⟩:=DL _ _ _ _ e1 h0 _ _ _ _ ((bI (bI (bI (bI o0 0) 3) 3) 3)) 73 [.ptr aX 0] [.fp [.str a0] 0] rfl (fun h' Ak  r hr hx=>abd _ r hr h' Ak hx) (fun h' K' o'=>lC (ai (dM (q:=(K'.length+3)) o' (mg rfl) (ai (iB) (aD))) (aD))) (fun h_=>lC (ai (cV (pure_cons (rV) (pure_nil))) (aD))) [.ptr au 0,.fn 73 [.ptr aX 0],.agg [.i 2,.i 0,.str a0,.nils]] (fy (rfl) (fy (rfl) (fy (lR (nG (b5 (ig) (b5 (ig) (b5 (pV) (b5 (ou (E:=ab)) (jR))))))) cq)))
 refine qr [.v 2 (show bR Tryz.prog h0 9 (.ptr aX 0)=some (.str a0) from cJ (q:=0) (cs:=[.str a0]) o0 rfl kr),.a 4 e2] ?_
 have o2:Has h1 ((au,.ob [.bool x0.2.2.ay,.rs b7 0 x0.2.2.aa.length 4,.rs bT 0 x0.2.2.an.length 1])::(b7,.sl x0.2.2.aa.length 4 (af.l x0.2.2.aa))::(bT,.sl x0.2.2.an.length 1 (ab.l x0.2.2.an))::L):=iC o1 3
 obtain rfl:=oi H
 exact qt <| ⟨.inl rfl,⟨b7,bT,kr,he o2⟩⟩
end
def J7:b4:=gL [0,1,2] [] [5,3] [] []
def kz.f (m:Nat)(t0:bh):Option (Bool):=if (decide ((t0.nodes.length:Int)≥1))=true then (if (decide ((t0.nodes.length:Int)≤8000))=true then (if (decide (t0.root≥0))=true then (if (decide (t0.root<(t0.nodes.length:Int)))=true then ((kx.f m t0.nodes (fun y0=>jW.f m y0 t0)).bind fun x0=>some (!x0)) else (some false)) else (some false)) else (some false)) else (some false)
def kz.fin (L:Mem)(r:Bool)(s:St):Prop:=∃av,aK Tryz.prog (s.open J7) Tryz.f36.results.toList=some av∧eX s.h av (.bool r)
def S36 (cf:CallF)(m:Nat):Prop:=∀(t0:bh) (r:Bool),kz.f m t0=some r→∀h xs,bl cd h xs [.agg [af.fz t0.nodes,.i t0.root]]→cf 36 xs h=some (.bool r,h)
section
variable {cf:CallF}{m:Nat}
theorem yx {aW:FuncId→b4}(ha:aW 36=J7)(abe:S77 cf m)(abf:S78 cf m)(t0:bh)(h:AHeap)(L:Mem)  (o:Has h (L)){out:Bool}(H:kz.f m t0=some out) :
  ∃r h',bj Tryz.prog aW cf m 36 [.agg [af.fz t0.nodes,.i t0.root]] h=some (r,h')∧eX h' r (.bool out):=by
 refine aw (fn:=Tryz.f36) ha Tryz.func36 kr kr ?_
 refine aI (Q:=fun s=>kz.fin L out s) (fun _ _ h=>h) ?_
 have H:_=some out:=H
 unfold kz.f at H
 show dE _ cf J7 m _ ⟨[.agg [af.fz t0.nodes,.i t0.root],.any,.any],[],h⟩ _
 refine qq ?_
 obtain⟨aX,h0,e0,o0⟩:=ja (cs:=[af.fz t0.nodes,.i t0.root]) o kr
 refine qr [.a 0 e0] <| qq ?_
 rcases eV H with⟨c0,H⟩| ⟨c0,H⟩
 ·rcases eV H with⟨c1,H⟩| ⟨c1,H⟩
  ·rcases eV H with⟨c2,H⟩| ⟨c2,H⟩
   ·rcases eV H with⟨c3,H⟩| ⟨c3,H⟩
    ·obtain⟨x0,e1,H⟩:=aP H
     refine qr [.v 1 (show bR Tryz.prog h0 23 (.ptr aX 0)=some (af.fz t0.nodes) from cJ (q:=0) (cs:=[af.fz t0.nodes,.i t0.root]) o0 rfl kr),.b 4 c0,.v 6 (show bR Tryz.prog h0 23 (.ptr aX 0)=some (af.fz t0.nodes) from cJ (q:=0) (cs:=[af.fz t0.nodes,.i t0.root]) o0 rfl kr),.b 10 c1,.v 12 (show bR Tryz.prog h0 3 (.ptr aX 1)=some (.i t0.root) from cJ (q:=0) (cs:=[af.fz t0.nodes,.i t0.root]) o0 rfl kr),.b 15 c2,.v 17 (show bR Tryz.prog h0 3 (.ptr aX 1)=some (.i t0.root) from cJ (q:=0) (cs:=[af.fz t0.nodes,.i t0.root]) o0 rfl kr),.v 19 (show bR Tryz.prog h0 23 (.ptr aX 0)=some (af.fz t0.nodes) from cJ (q:=0) (cs:=[af.fz t0.nodes,.i t0.root]) o0 rfl kr),.b 23 c3,.v 25 (show bR Tryz.prog h0 23 (.ptr aX 0)=some (af.fz t0.nodes) from cJ (q:=0) (cs:=[af.fz t0.nodes,.i t0.root]) o0 rfl kr),.a 27 (abe _ _ _ e1 78 [.fp [af.fz t0.nodes,.i t0.root] 0] (fun h' Ak y0 r hr hx=>abf y0 _ r hr h' Ak hx) (fun h_=>lC (ai (cV (pure_cons (bM.aJ (E:=af) (l:=t0.nodes)) (pure_cons (jg) (pure_nil)))) (aD))) h0 _ (ia (ai (iu (E:=af)) (ai (zW (ai (dM (q:=0) o0 rfl (ai (iu (E:=af)) (ai (aU) (aD)))) (aD))) (aD)))))] ?_
     exact qt <| fB H
    ·refine qr [.v 1 (show bR Tryz.prog h0 23 (.ptr aX 0)=some (af.fz t0.nodes) from cJ (q:=0) (cs:=[af.fz t0.nodes,.i t0.root]) o0 rfl kr),.b 4 c0,.v 6 (show bR Tryz.prog h0 23 (.ptr aX 0)=some (af.fz t0.nodes) from cJ (q:=0) (cs:=[af.fz t0.nodes,.i t0.root]) o0 rfl kr),.b 10 c1,.v 12 (show bR Tryz.prog h0 3 (.ptr aX 1)=some (.i t0.root) from cJ (q:=0) (cs:=[af.fz t0.nodes,.i t0.root]) o0 rfl kr),.b 15 c2,.v 17 (show bR Tryz.prog h0 3 (.ptr aX 1)=some (.i t0.root) from cJ (q:=0) (cs:=[af.fz t0.nodes,.i t0.root]) o0 rfl kr),.v 19 (show bR Tryz.prog h0 23 (.ptr aX 0)=some (af.fz t0.nodes) from cJ (q:=0) (cs:=[af.fz t0.nodes,.i t0.root]) o0 rfl kr),.b 23 c3] ?_
     exact qt <| fB H
   ·refine qr [.v 1 (show bR Tryz.prog h0 23 (.ptr aX 0)=some (af.fz t0.nodes) from cJ (q:=0) (cs:=[af.fz t0.nodes,.i t0.root]) o0 rfl kr),.b 4 c0,.v 6 (show bR Tryz.prog h0 23 (.ptr aX 0)=some (af.fz t0.nodes) from cJ (q:=0) (cs:=[af.fz t0.nodes,.i t0.root]) o0 rfl kr),.b 10 c1,.v 12 (show bR Tryz.prog h0 3 (.ptr aX 1)=some (.i t0.root) from cJ (q:=0) (cs:=[af.fz t0.nodes,.i t0.root]) o0 rfl kr),.b 15 c2] ?_
    exact qt <| fB H
  ·refine qr [.v 1 (show bR Tryz.prog h0 23 (.ptr aX 0)=some (af.fz t0.nodes) from cJ (q:=0) (cs:=[af.fz t0.nodes,.i t0.root]) o0 rfl kr),.b 4 c0,.v 6 (show bR Tryz.prog h0 23 (.ptr aX 0)=some (af.fz t0.nodes) from cJ (q:=0) (cs:=[af.fz t0.nodes,.i t0.root]) o0 rfl kr),.b 10 c1] ?_
   exact qt <| fB H
 ·refine qr [.v 1 (show bR Tryz.prog h0 23 (.ptr aX 0)=some (af.fz t0.nodes) from cJ (q:=0) (cs:=[af.fz t0.nodes,.i t0.root]) o0 rfl kr),.b 4 c0] ?_
  exact qt <| fB H
end
end Go.Proofs.YtifafejidnjckaaGreat
