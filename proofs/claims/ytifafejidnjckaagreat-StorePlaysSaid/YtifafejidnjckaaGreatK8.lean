/- Part of the proof: Q131, Q132, Q137, Q140, Q141, Q142, Q144, Q145, Q149, Q13, Q14, Q18, Q19, Q26, Q30, Q34, Q52, Q54, Q56, Q57, Q60. -/
import Derived.Test.YtifafejidnjckaaGreatK7
set_option linter.unusedVariables false
set_option linter.unusedSimpArgs false
set_option maxRecDepth 100000
open ByteArray renaming mk → ajg
open Or renaming inr → ajW, inl → akl
namespace Go.Proofs.YtifafejidnjckaaGreat
open Go Go.R
open Go.IntKind (i64 u64 u8 u32)
def DH:b4:=gL [0,2] [] [2,1] [] []
def jj.f (m:Nat)(c0:Int):Option (Bool):=if (decide (c0≥97))=true then (if (decide (c0≤122))=true then (some true) else (if (decide (c0≥65))=true then (if (decide (c0≤90))=true then (some true) else (if (decide (c0≥48))=true then (if (decide (c0≤57))=true then (some true) else (some (c0==95))) else (some (c0==95)))) else (if (decide (c0≥48))=true then (if (decide (c0≤57))=true then (some true) else (some (c0==95))) else (some (c0==95))))) else (if (decide (c0≥65))=true then (if (decide (c0≤90))=true then (some true) else (if (decide (c0≥48))=true then (if (decide (c0≤57))=true then (some true) else (some (c0==95))) else (some (c0==95)))) else (if (decide (c0≥48))=true then (if (decide (c0≤57))=true then (some true) else (some (c0==95))) else (some (c0==95))))
def jj.fin (L:Mem)(r:Bool)(s:St):Prop:=∃av,aK Tryz.prog (s.open DH) Tryz.f131.results.toList=some av∧eX s.h av (.bool r)
def UN (cf:CallF)(m:Nat):Prop:=∀(c0:Int) (r:Bool),jj.f m c0=some r→∀h xs,bl cd h xs [.int .u8 c0]→cf 131 xs h=some (.bool r,h)
section
variable {cf:CallF}{m:Nat}
theorem vm {aW:FuncId→b4}(ha:aW 131=DH)  (c0:Int)(h:AHeap)(L:Mem)  (o:Has h (L)){out:Bool}(H:jj.f m c0=some out) :
  ∃r h',bj Tryz.prog aW cf m 131 [.int .u8 c0] h=some (r,h')∧eX h' r (.bool out):=by
 refine aw (fn:=Tryz.f131) ha Tryz.func131 kr kr ?_
 refine aI (Q:=fun s=>jj.fin L out s) (fun _ _ h=>h) ?_
 have H:_=some out:=H
 unfold jj.f at H
 show dE _ cf DH m _ ⟨[.int .u8 c0,.any],[],h⟩ _
 refine q1 <| qq ?_
 rcases eV H with⟨c1,H⟩| ⟨c1,H⟩
 ·rcases eV H with⟨c2,H⟩| ⟨c2,H⟩
  ·exact qr [.b 2 c1,.b 6 c2] <| qt <| fB H
  ·rcases eV H with⟨c3,H⟩| ⟨c3,H⟩
   ·rcases eV H with⟨c4,H⟩| ⟨c4,H⟩
    ·exact qr [.b 2 c1,.b 6 c2,.b 9 c3,.b 14 c4] <| qt <| fB H
    ·rcases eV H with⟨c5,H⟩| ⟨c5,H⟩
     ·rcases eV H with⟨c6,H⟩| ⟨c6,H⟩
      ·exact qr [.b 2 c1,.b 6 c2,.b 9 c3,.b 14 c4,.b 17 c5,.b 22 c6] <| qt <| fB H
      ·exact qr [.b 2 c1,.b 6 c2,.b 9 c3,.b 14 c4,.b 17 c5,.b 22 c6] <| qt <| fB H
     ·exact qr [.b 2 c1,.b 6 c2,.b 9 c3,.b 14 c4,.b 17 c5] <| qt <| fB H
   ·rcases eV H with⟨c7,H⟩| ⟨c7,H⟩
    ·rcases eV H with⟨c8,H⟩| ⟨c8,H⟩
     ·exact qr [.b 2 c1,.b 6 c2,.b 9 c3,.b 17 c7,.b 22 c8] <| qt <| fB H
     ·exact qr [.b 2 c1,.b 6 c2,.b 9 c3,.b 17 c7,.b 22 c8] <| qt <| fB H
    ·exact qr [.b 2 c1,.b 6 c2,.b 9 c3,.b 17 c7] <| qt <| fB H
 ·rcases eV H with⟨c9,H⟩| ⟨c9,H⟩
  ·rcases eV H with⟨Ag,H⟩| ⟨Ag,H⟩
   ·exact qr [.b 2 c1,.b 9 c9,.b 14 Ag] <| qt <| fB H
   ·rcases eV H with⟨sd,H⟩| ⟨sd,H⟩
    ·rcases eV H with⟨yk,H⟩| ⟨yk,H⟩
     ·exact qr [.b 2 c1,.b 9 c9,.b 14 Ag,.b 17 sd,.b 22 yk] <| qt <| fB H
     ·exact qr [.b 2 c1,.b 9 c9,.b 14 Ag,.b 17 sd,.b 22 yk] <| qt <| fB H
    ·exact qr [.b 2 c1,.b 9 c9,.b 14 Ag,.b 17 sd] <| qt <| fB H
  ·rcases eV H with⟨uh,H⟩| ⟨uh,H⟩
   ·rcases eV H with⟨yl,H⟩| ⟨yl,H⟩
    ·exact qr [.b 2 c1,.b 9 c9,.b 17 uh,.b 22 yl] <| qt <| fB H
    ·exact qr [.b 2 c1,.b 9 c9,.b 17 uh,.b 22 yl] <| qt <| fB H
   ·exact qr [.b 2 c1,.b 9 c9,.b 17 uh] <| qt <| fB H
end
def wT:b4:=gL [0,1,4,5,6,7,8,9,19,34,50] [] [2044,2036,1988,1990,1734,1926,1926,1414,1926,1926,1798,774,1798,1798,2043] [] [(2,[(6,none,1),(7,none,1)])]
def bz.l1 (m:Nat)(l0:List ak)(v0:Int):Nat→(List Int)→Int→Option ((List Int) × Int)
 | 0,_,_=>none
 | k+1,fK,i0=>if (decide (i0≥0))=true then ((ix l0 v0).bind fun v5=>(ix v5.args i0).bind fun v6=>(app 8 fK ([v6])).bind fun x3=>bz.l1 m l0 v0 k x3 (i64.wrap (i0 - 1))) else (some ((fK,i0)))
def bz.l0 (m:Nat)(l0:List ak):Nat→(List Bool)→(List Int)→(List Int)→Option ((List Bool) × (List Int) × (List Int))
 | 0,_,_,_=>none
 | k+1,fL,bp,dz=>if (decide ((dz.length:Int) > 0))=true then ((ix dz (i64.wrap ((dz.length:Int) - 1))).bind fun v0=>(I4 dz 0 (i64.wrap ((dz.length:Int) - 1))).bind fun v1=>(ix fL v0).bind fun v2=>if v2=true then (bz.l0 m l0 k fL bp v1) else ((ix fL v0).bind fun v3=>(app 8 bp ([v0])).bind fun x2=>(ix l0 v0).bind fun v4=>(bz.l1 m l0 v0 m v1 (i64.wrap ((v4.args.length:Int) - 1))).bind fun cM=>match cM with | (uf,i1)=>bz.l0 m l0 k (fL.set v0.toNat true) x2 uf)) else (some ((fL,bp,dz)))
def bz.f (m:Nat)(l0:List ak)(ku:Int):Option ((List Int)):=(sY 1 (l0.length:Int) false).bind fun x0=>(app 8 ([]:List Int) ([ku])).bind fun x1=>(bz.l0 m l0 m x0 ([]:List Int) x1).bind fun mI=>match mI with | (UE,fU,ug)=>some fU
def bz.fin (L:Mem)(r:(List Int))(s:St):Prop:=∃av,aK Tryz.prog (s.open wT) Tryz.f132.results.toList=some av∧eX s.h av (ab.fz r)
def XB (cf:CallF)(m:Nat):Prop:=∀(l0:List ak) (ku:Int) (r:(List Int)),bz.f m l0 ku=some r→∀h xs,bl cd h xs [af.fz l0,.i ku]→cf 132 xs h=some (ab.fz r,h)
section
variable {cf:CallF}{m:Nat}
theorem bz.iw (L:Mem)(l0:List ak)(bT:Nat)(fL:List Bool)(bT:Nat)(v0:Int)(x2:List Int)(gM:Nat)   : b9 Tryz.prog cf wT m (sub [1,1,1,1,0,0,0,1,0,1,1,1,1,1,1,0,0] (bw Tryz.f132)) (fun k (σ:(List Int) × Int)=>bz.l1 m l0 v0 k σ.1 σ.2) (fun σ s=>match σ with | (fK,i0)=>∃iy h5,s=⟨af.fz l0 :: .any :: .any :: .rs bT 0 fL.length 1 :: .rs gM 0 x2.length 1 :: .rs iy 0 fK.length 1 :: .i v0 :: .i i0::nc [],[],h5⟩∧Has h5 ((iy,.sl fK.length 1 (ab.l fK))::(gM,.sl x2.length 1 (ab.l x2))::(bT,.sl fL.length 1 (di.l (fL.set v0.toNat true)))::L)) (fun out e s=>(e = .exit 2∧∃fK i0,(fK,i0)=out∧∃ud vg Oa iy h5,s=⟨[af.fz l0,.any,.any,.rs bT 0 fL.length 1,.rs gM 0 x2.length 1,.rs iy 0 fK.length 1,ud,vg,.any,.any,Oa],[],h5⟩∧Has h5 ((iy,.sl fK.length 1 (ab.l fK))::(gM,.sl x2.length 1 (ab.l x2))::(bT,.sl fL.length 1 (di.l (fL.set v0.toNat true)))::L))):=by
 refine jF (fun _=>rfl) ?_
 rintro k ⟨fK,i0⟩ s out ⟨iy,h5,rfl,o8⟩ H
 have H:bz.l1 m l0 v0 (k+1) fK i0=some out:=H
 refine qq <| qq <| q0 <| qc H (fun c2 H=>?_) (fun c2 H=>?_)
 ·refine qk <| qq <| qb 3 ?_
  obtain⟨v5,oS,H⟩:=aP H
  obtain⟨v6,rF,H⟩:=aP H
  obtain⟨x3,s7,H⟩:=aP H
  obtain⟨iM,h6,s8,o9⟩:=eu (P:=Tryz.prog) (E:=ab) (l:=fK) (q:=0) (t2:=22) (x:=.fz [.i v6] 1 true) (l2:=([v6])) da o8 rfl kr rfl s7
  exact qr [.v 3 (bN (k:=.i64) (E:=af) (l:=l0) lJ oS),.v 5 (kc  (E:=af) (l:=l0) (off:=3) h5 Qj oS rfl),.v 7 (bN (k:=.i64) (E:=ab) (l:=v5.args) da rF),.v 8 (cO  (E:=ab) (l:=v5.args) h5 A3 rF rfl),.a 10 s8] <| q0 <| ⟨(x3,i64.wrap (i0 - 1)),⟨iM,h6,ld,(ow o9)⟩,H⟩
 ·exact qx 2 <| ⟨rfl,fK,i0,oi H,.i v0,.i i0,.bool (decide (i0≥0)),iy,h5,ld,(ow o8)⟩
theorem bz.cm (L:Mem)(l0:List ak)   : b9 Tryz.prog cf wT m (sub [1,1,1,1,0,0,0] (bw Tryz.f132)) (fun k (σ:(List Bool) × (List Int) × (List Int))=>bz.l0 m l0 k σ.1 σ.2.1 σ.2.2) (fun σ s=>match σ with | (fL,bp,dz)=>∃g0 g1 g2 g3 dN cK bT h2,s=⟨[af.fz l0,.any,.any,.rs bT 0 fL.length 1,.rs cK 0 bp.length 1,.rs dN 0 dz.length 1,g0,g1,.any,g2,g3],[],h2⟩∧Has h2 ((dN,.sl dz.length 1 (ab.l dz))::(cK,.sl bp.length 1 (ab.l bp))::(bT,.sl fL.length 1 (di.l fL))::L)) (fun out e s=>(e = .exit 0∧∃fL bp dz,(fL,bp,dz)=out∧∃lH z8 wM ud vg Ob UO Oa dN cK bT h2,s=⟨[lH,.any,.any,z8,.rs cK 0 bp.length 1,wM,ud,vg,Ob,UO,Oa],[],h2⟩∧Has h2 ((dN,.sl dz.length 1 (ab.l dz))::(cK,.sl bp.length 1 (ab.l bp))::(bT,.sl fL.length 1 (di.l fL))::L))):=by
 refine jF (fun _=>rfl) ?_
 rintro k ⟨fL,bp,dz⟩ s out ⟨g0,g1,g2,g3,dN,cK,bT,h2,rfl,o4⟩ H
 have H:bz.l0 m l0 (k+1) fL bp dz=some out:=H
 refine qq <| qq <| q0 <| qc H (fun c0 H=>?_) (fun c0 H=>?_)
 ·refine qk <| qb 1 <| qq ?_
  obtain⟨v0,e4,H⟩:=aP H
  refine qr [.v 4 (aL (k:=.i64) (E:=ab) (l:=dz) (q:=0) da o4 rfl e4),.v 5 (bq  (E:=ab) (l:=dz) (q:=0) o4 rfl A3 e4 rfl)] <| qq ?_
  obtain⟨v1,e5,H⟩:=aP H
  obtain⟨aaE,o5⟩:=Hz (P:=Tryz.prog) (k:=.i64) (E:=ab) (q:=0) o4 rfl da e5
  refine qr [.v 4 aaE] <| qq <| qq ?_
  obtain⟨v2,e6,H⟩:=aP H
  refine qr [.v 2 (aL (k:=.i64) (E:=di) (l:=fL) (q:=2) GY o5 rfl e6),.v 3 (bq  (E:=di) (l:=fL) (q:=2) o5 rfl A4 e6 rfl)] <| qc H (fun c1 H=>?_) (fun c1 H=>?_)
  ·exact qx 1 <| ⟨(fL,bp,v1),⟨.i v0,.any,.bool v2,.any,dN,cK,bT,h2,kr,o5⟩,H⟩
  ·refine qk <| qq ?_
   obtain⟨v3,e7,H⟩:=aP H
   obtain⟨h3,e8,o6⟩:=dD (P:=Tryz.prog) (tf:=4) (E:=di) (l:=fL) (q:=2) (v:=true) (x:=.bool true) o5 rfl Z4 e7 rfl rfl
   refine qr [.v 2 (aL (k:=.i64) (E:=di) (l:=fL) (q:=2) GY o5 rfl e7),.w 3 e8] <| qq ?_
   obtain⟨x2,e9,H⟩:=aP H
   obtain⟨gM,h4,ma,o7⟩:=eu (P:=Tryz.prog) (E:=ab) (l:=bp) (q:=1) (t2:=22) (x:=.fz [.i v0] 1 true) (l2:=([v0])) da o6 rfl kr rfl e9
   refine qr [.a 3 ma] <| qq ?_
   obtain⟨v4,nH,H⟩:=aP H
   refine qr [.v 2 (bN (k:=.i64) (E:=af) (l:=l0) lJ nH),.v 4 (kc  (E:=af) (l:=l0) (off:=3) h4 Qj nH rfl)] <| qb 2 ?_
   obtain⟨cM,vj,H⟩:=aP H
   refine ql (bz.iw L l0 bT fL bT v0 x2 gM   (v1,i64.wrap ((v4.args.length:Int) - 1)) _ _ ⟨dN,h4,ld,(ow o7)⟩ vj) ?_
   rintro e s ⟨rfl,uf,i1,rfl,g4,g5,g6,kl,h7,rfl,s9⟩
   try dsimp only at H
   exact⟨(fL.set v0.toNat true,x2,uf),⟨g4,g5,.any,g6,kl,gM,bT,h7,ld,(ow s9)⟩,H⟩
 ·exact qx 0 <| ⟨rfl,fL,bp,dz,oi H,af.fz l0,.rs bT 0 fL.length 1,.rs dN 0 dz.length 1,.any,.any,.bool (decide ((dz.length:Int) > 0)),.any,.any,dN,cK,bT,h2,kr,o4⟩
theorem ui {aW:FuncId→b4}(ha:aW 132=wT)  (l0:List ak)(ku:Int)(h:AHeap)(L:Mem)  (o:Has h (L)){out:(List Int)}(H:bz.f m l0 ku=some out) :
  ∃r h',bj Tryz.prog aW cf m 132 [af.fz l0,.i ku] h=some (r,h')∧eX h' r (ab.fz out):=by
 refine aw (fn:=Tryz.f132) ha Tryz.func132 kr kr ?_
 refine aI (Q:=fun s=>bz.fin L out s) (fun _ _ h=>h) ?_
 have H:_=some out:=H
 unfold bz.f at H
 show dE _ cf wT m _ ⟨af.fz l0 :: .i ku::NJ [],[],h⟩ _
 refine q1 <| qq ?_
 obtain⟨x0,e0,H⟩:=aP H
 obtain⟨aX,h0,e1,o0⟩:=nE (P:=Tryz.prog) (E:=di) (z:=false) (zv:=.bool false) GY o 4 rfl rfl rfl rfl e0
 refine qr [.a 2 e1] <| qq <| q0 ?_
 have o1:Has h0 (((0),.sl (([]:List Int).length) 1 (ab.l ([]:List Int)))::(aX,.sl x0.length 1 (di.l x0))::L):=Has.nil o0 1
 have o2:Has h0 ((((0)),.sl (([]:List Int).length) 1 (ab.l ([]:List Int)))::((0),.sl (([]:List Int).length) 1 (ab.l ([]:List Int)))::(aX,.sl x0.length 1 (di.l x0))::L):=Has.nil o1 1
 refine qq ?_
 obtain⟨x1,e2,H⟩:=aP H
 obtain⟨b7,h1,e3,o3⟩:=eu (P:=Tryz.prog) (E:=ab) (l:=([]:List Int)) (q:=0) (t2:=22) (x:=.fz [.i ku] 1 true) (l2:=([ku])) da o2 rfl kr rfl e2
 refine qr [.a 3 e3] <| qq <| qb 0 ?_
 obtain⟨mI,yV,H⟩:=aP H
 refine ql (bz.cm L l0   (x0,([]:List Int),x1) _ _ ⟨.any,.any,.any,.any,b7,(0),aX,h1,kr,o3⟩ yV) ?_
 rintro e s ⟨rfl,UE,fU,ug,rfl,g7,g8,g9,g10,g11,g12,g13,g14,kP,fC,hY,h8,rfl,qP⟩
 try dsimp only at H
 refine q1 ?_
 have wP:Has h8 ((kP,.sl ug.length 1 (ab.l ug))::(fC,.sl fU.length 1 (ab.l fU))::L):=iC qP 2
 have mX:Has h8 ((fC,.sl fU.length 1 (ab.l fU))::L):=iC wP 0
 obtain rfl:=oi H
 exact qt <| ⟨.inl rfl,pX (.rs fC 0 fU.length 1) h8 (oR (zI (E:=ab) (l:=fU) (q:=0) mX rfl (fun _=>rfl)))⟩
end
def DI:b4:=gL [0,2] [] [2,1] [] []
def cmp_isNaN_int.f (m:Nat)(x0:Int):Option (Bool):=some (!(x0==x0))
def cmp_isNaN_int.fin (L:Mem)(r:Bool)(s:St):Prop:=∃av,aK Tryz.prog (s.open DI) Tryz.f140.results.toList=some av∧eX s.h av (.bool r)
def XC (cf:CallF)(m:Nat):Prop:=∀(x0:Int) (r:Bool),cmp_isNaN_int.f m x0=some r→∀h xs,bl cd h xs [.i x0]→cf 140 xs h=some (.bool r,h)
section
variable {cf:CallF}{m:Nat}
theorem uj {aW:FuncId→b4}(ha:aW 140=DI)  (x0:Int)(h:AHeap)(L:Mem)  (o:Has h (L)){out:Bool}(H:cmp_isNaN_int.f m x0=some out) :
  ∃r h',bj Tryz.prog aW cf m 140 [.i x0] h=some (r,h')∧eX h' r (.bool out):=by
 refine aw (fn:=Tryz.f140) ha Tryz.func140 kr kr ?_
 refine aI (Q:=fun s=>cmp_isNaN_int.fin L out s) (fun _ _ h=>h) ?_
 have H:_=some out:=H
 unfold cmp_isNaN_int.f at H
 show dE _ cf DI m _ ⟨[.i x0,.any],[],h⟩ _
 exact q1 <| qq <| q0 <| qt <| fB H
end
def DJ:b4:=gL [0,2] [] [2,1] [] []
def cmp_isNaN_string.f (m:Nat)(x0:ByteArray):Option (Bool):=some (!(x0.data.toList==x0.data.toList))
def cmp_isNaN_string.fin (L:Mem)(r:Bool)(s:St):Prop:=∃av,aK Tryz.prog (s.open DJ) Tryz.f141.results.toList=some av∧eX s.h av (.bool r)
def XD (cf:CallF)(m:Nat):Prop:=∀(x0:ByteArray) (r:Bool),cmp_isNaN_string.f m x0=some r→∀h xs,bl cd h xs [.str x0]→cf 141 xs h=some (.bool r,h)
section
variable {cf:CallF}{m:Nat}
theorem re {aW:FuncId→b4}(ha:aW 141=DJ)  (x0:ByteArray)(h:AHeap)(L:Mem)  (o:Has h (L)){out:Bool}(H:cmp_isNaN_string.f m x0=some out) :
  ∃r h',bj Tryz.prog aW cf m 141 [.str x0] h=some (r,h')∧eX h' r (.bool out):=by
 refine aw (fn:=Tryz.f141) ha Tryz.func141 kr kr ?_
 refine aI (Q:=fun s=>cmp_isNaN_string.fin L out s) (fun _ _ h=>h) ?_
 have H:_=some out:=H
 unfold cmp_isNaN_string.f at H
 show dE _ cf DJ m _ ⟨[.str x0,.any],[],h⟩ _
 exact q1 <| qq <| q0 <| qt <| fB H
end
def Ah:b4:=gL [0,1,2,4,5,10,21] [2] [121,105,73,105,41,119,119] [] []
def dv.l0 (m:Nat)(n0:ak)(gI:List Bool):Nat→Int→Option (Sum Bool (Int))
 | 0,_=>none
 | k+1,i0=>if (decide (i0<(n0.args.length:Int)))=true then ((ix n0.args i0).bind fun v0=>(ix gI v0).bind fun v1=>if (!v1)=true then (some (.inl false)) else (dv.l0 m n0 gI k (i64.wrap (i0+1)))) else (some (.inr i0))
def dv.f (m:Nat)(n0:ak)(gI:List Bool):Option (Bool):=(dv.l0 m n0 gI m 0).bind fun bp=>match bp with | .inl r0=>some r0 | .inr i1=>some true
def dv.fin (L:Mem)(r:Bool)(s:St):Prop:=∃av,aK Tryz.prog (s.open Ah) Tryz.f142.results.toList=some av∧eX s.h av (.bool r)
def Rs (cf:CallF)(m:Nat):Prop:=∀(n0:ak) (gI:List Bool) (r:Bool),dv.f m n0 gI=some r→∀h xs,bl cd h xs [.agg [.i n0.kind,.i n0.int,.str n0.label,ab.fz n0.args],di.fz gI]→cf 142 xs h=some (.bool r,h)
section
variable {cf:CallF}{m:Nat}
theorem dv.cm (L:Mem)(n0:ak)(gI:List Bool)   : b9 Tryz.prog cf Ah m (sub [1,0,1,0,0] (bw Tryz.f142)) (fun k (σ:Int)=>dv.l0 m n0 gI k σ) (fun σ s=>match σ with | i0=>∃h0,s=⟨[.any,di.fz gI,.lp 2 0,.any,.i i0,.any,.any],[some [.i n0.kind,.i n0.int,.str n0.label,ab.fz n0.args]],h0⟩∧Has h0 (L)) (fun out e s=>(e = .exit 0∧∃i0,.inr i0=out∧∃wO LM z8 oG XE h0,s=⟨[.any,wO,LM,.any,z8,oG,.any],[XE],h0⟩∧Has h0 (L))∨(e = .ret∧∃r,.inl r=out∧dv.fin L r s)):=by
 refine jF (fun _=>rfl) ?_
 rintro k i0 s out ⟨h0,rfl,o0⟩ H
 have H:dv.l0 m n0 gI (k+1) i0=some out:=H
 refine qq <| qq <| q0 <| qc H (fun c0 H=>?_) (fun c0 H=>?_)
 ·refine qk <| qq <| qb 1 <| qq ?_
  obtain⟨v0,e0,H⟩:=aP H
  obtain⟨v1,e1,H⟩:=aP H
  refine qr [.v 4 (bN (k:=.i64) (E:=ab) (l:=n0.args) da e0),.v 5 (cO  (E:=ab) (l:=n0.args) h0 A3 e0 rfl),.v 6 (bN (k:=.i64) (E:=di) (l:=gI) GY e1),.v 7 (cO  (E:=di) (l:=gI) h0 A4 e1 rfl)] <| qc H (fun c1 H=>?_) (fun c1 H=>?_)
  ·exact q1 <| qt <| ajW (⟨rfl,_,oi H,pX (.bool false) h0 (oR (jh))⟩)
  ·exact qk <| q0 <| ⟨i64.wrap (i0+1),⟨h0,kr,o0⟩,H⟩
 ·exact qx 0 <| akl (⟨rfl,i0,oi H,di.fz gI,.lp 2 0,.i i0,.bool (decide (i0<(n0.args.length:Int))),some [.i n0.kind,.i n0.int,.str n0.label,ab.fz n0.args],h0,kr,o0⟩)
theorem wU {aW:FuncId→b4}(ha:aW 142=Ah)  (n0:ak)(gI:List Bool)(h:AHeap)(L:Mem)  (o:Has h (L)){out:Bool}(H:dv.f m n0 gI=some out) :
  ∃r h',bj Tryz.prog aW cf m 142 [.agg [.i n0.kind,.i n0.int,.str n0.label,ab.fz n0.args],di.fz gI] h=some (r,h')∧eX h' r (.bool out):=by
 refine aw (fn:=Tryz.f142) ha Tryz.func142 kr kr ?_
 refine aI (Q:=fun s=>dv.fin L out s) (fun _ _ h=>h) ?_
 have H:_=some out:=H
 unfold dv.f at H
 show dE _ cf Ah m _ ⟨.agg [.i n0.kind,.i n0.int,.str n0.label,ab.fz n0.args]::di.fz gI::sO [],[none],h⟩ _
 refine q1 <| qq <| qq <| q0 <| qb 0 ?_
 obtain⟨bp,e2,H⟩:=aP H
 refine ql (dv.cm L n0 gI   0 _ _ ⟨h,kr,o⟩ e2) ?_
 rintro e s (⟨rfl,i1,rfl,g0,g1,g2,g3,g4,h1,rfl,o1⟩| ⟨rfl,r0,rfl,r9⟩)
 ·try dsimp only at H
  exact q1 <| qt <| fB H
 ·try dsimp only at H
  obtain rfl:=oi H
  exact⟨.inl rfl,r9⟩
end
def Ai:b4:=gL [0,1,2,3,4,6,7,12,31] [3,4] [483,419,291,419,163,479,479] [] []
def cb.l0 (m:Nat)(a0:ak)(b0:ak)(ck:List Int):Nat→Int→Option (Sum Bool (Int))
 | 0,_=>none
 | k+1,i0=>if (decide (i0<(a0.args.length:Int)))=true then ((ix a0.args i0).bind fun v0=>(ix ck v0).bind fun v1=>(ix b0.args i0).bind fun v2=>(ix ck v2).bind fun v3=>if (!(v1==v3))=true then (some (.inl false)) else (cb.l0 m a0 b0 ck k (i64.wrap (i0+1)))) else (some (.inr i0))
def cb.f (m:Nat)(a0:ak)(b0:ak)(ck:List Int):Option (Bool):=(cb.l0 m a0 b0 ck m 0).bind fun bp=>match bp with | .inl r0=>some r0 | .inr i1=>some true
def cb.fin (L:Mem)(r:Bool)(s:St):Prop:=∃av,aK Tryz.prog (s.open Ai) Tryz.f144.results.toList=some av∧eX s.h av (.bool r)
def HL (cf:CallF)(m:Nat):Prop:=∀(a0:ak) (b0:ak) (ck:List Int) (r:Bool),cb.f m a0 b0 ck=some r→∀h xs,bl cd h xs [.agg [.i a0.kind,.i a0.int,.str a0.label,ab.fz a0.args],.agg [.i b0.kind,.i b0.int,.str b0.label,ab.fz b0.args],ab.fz ck]→cf 144 xs h=some (.bool r,h)
section
variable {cf:CallF}{m:Nat}
theorem cb.cm (L:Mem)(a0:ak)(b0:ak)(ck:List Int)   : b9 Tryz.prog cf Ai m (sub [1,0,1,0,0] (bw Tryz.f144)) (fun k (σ:Int)=>cb.l0 m a0 b0 ck k σ) (fun σ s=>match σ with | i0=>∃h0,s=⟨[.any,.any,ab.fz ck,.lp 3 0,.lp 4 0,.any,.i i0,.any,.any],[some [.i a0.kind,.i a0.int,.str a0.label,ab.fz a0.args],some [.i b0.kind,.i b0.int,.str b0.label,ab.fz b0.args]],h0⟩∧Has h0 (L)) (fun out e s=>(e = .exit 0∧∃i0,.inr i0=out∧∃LM Br Rt wM wV b3_ b4_ h0,s=⟨[.any,.any,LM,Br,Rt,.any,wM,wV,.any],[b3_,b4_],h0⟩∧Has h0 (L))∨(e = .ret∧∃r,.inl r=out∧cb.fin L r s)):=by
 refine jF (fun _=>rfl) ?_
 rintro k i0 s out ⟨h0,rfl,o0⟩ H
 have H:cb.l0 m a0 b0 ck (k+1) i0=some out:=H
 refine qq <| qq <| q0 <| qc H (fun c0 H=>?_) (fun c0 H=>?_)
 ·refine qk <| qq <| qb 1 <| qq ?_
  obtain⟨v0,e0,H⟩:=aP H
  obtain⟨v1,e1,H⟩:=aP H
  obtain⟨v2,e2,H⟩:=aP H
  obtain⟨v3,e3,H⟩:=aP H
  refine qr [.v 4 (bN (k:=.i64) (E:=ab) (l:=a0.args) da e0),.v 5 (cO  (E:=ab) (l:=a0.args) h0 A3 e0 rfl),.v 6 (bN (k:=.i64) (E:=ab) (l:=ck) da e1),.v 7 (cO  (E:=ab) (l:=ck) h0 A3 e1 rfl),.v 12 (bN (k:=.i64) (E:=ab) (l:=b0.args) da e2),.v 13 (cO  (E:=ab) (l:=b0.args) h0 A3 e2 rfl),.v 14 (bN (k:=.i64) (E:=ab) (l:=ck) da e3),.v 15 (cO  (E:=ab) (l:=ck) h0 A3 e3 rfl)] <| qc H (fun c1 H=>?_) (fun c1 H=>?_)
  ·exact q1 <| qt <| ajW (⟨rfl,_,oi H,pX (.bool false) h0 (oR (jh))⟩)
  ·exact qk <| q0 <| ⟨i64.wrap (i0+1),⟨h0,kr,o0⟩,H⟩
 ·exact qx 0 <| akl (⟨rfl,i0,oi H,ab.fz ck,.lp 3 0,.lp 4 0,.i i0,.bool (decide (i0<(a0.args.length:Int))),some [.i a0.kind,.i a0.int,.str a0.label,ab.fz a0.args],some [.i b0.kind,.i b0.int,.str b0.label,ab.fz b0.args],h0,kr,o0⟩)
theorem tc {aW:FuncId→b4}(ha:aW 144=Ai)  (a0:ak)(b0:ak)(ck:List Int)(h:AHeap)(L:Mem)  (o:Has h (L)){out:Bool}(H:cb.f m a0 b0 ck=some out) :
  ∃r h',bj Tryz.prog aW cf m 144 [.agg [.i a0.kind,.i a0.int,.str a0.label,ab.fz a0.args],.agg [.i b0.kind,.i b0.int,.str b0.label,ab.fz b0.args],ab.fz ck] h=some (r,h')∧eX h' r (.bool out):=by
 refine aw (fn:=Tryz.f144) ha Tryz.func144 kr kr ?_
 refine aI (Q:=fun s=>cb.fin L out s) (fun _ _ h=>h) ?_
 have H:_=some out:=H
 unfold cb.f at H
 show dE _ cf Ai m _ ⟨.agg [.i a0.kind,.i a0.int,.str a0.label,ab.fz a0.args] :: .agg [.i b0.kind,.i b0.int,.str b0.label,ab.fz b0.args]::ab.fz ck::wF [],[none,none],h⟩ _
 refine q1 <| qq <| qq <| q0 <| qb 0 ?_
 obtain⟨bp,e4,H⟩:=aP H
 refine ql (cb.cm L a0 b0 ck   0 _ _ ⟨h,kr,o⟩ e4) ?_
 rintro e s (⟨rfl,i1,rfl,g0,g1,g2,g3,g4,g5,g6,h1,rfl,o1⟩| ⟨rfl,r0,rfl,r9⟩)
 ·try dsimp only at H
  exact q1 <| qt <| fB H
 ·try dsimp only at H
  obtain rfl:=oi H
  exact⟨.inl rfl,r9⟩
end
def wW:b4:=gL [0,1,2,3,8,9,14,34] [] [224,160,224,192,64,192,192] [] []
def bF.l1 (m:Nat)(a0:Int)(bD:Int→Int→Option (Int)):Nat→(List Int)→Int→Option ((List Int) × Int)
 | 0,_,_=>none
 | k+1,fe,j0=>if (decide (j0 > a0))=true then ((ix fe j0).bind fun v0=>(ix fe (i64.wrap (j0 - 1))).bind fun v1=>(bD v0 v1).bind fun r0=>if (decide (r0<0))=true then ((ix fe (i64.wrap (j0 - 1))).bind fun v2=>(ix fe j0).bind fun v3=>(ix fe j0).bind fun v4=>(ix (fe.set j0.toNat v2) (i64.wrap (j0 - 1))).bind fun v5=>bF.l1 m a0 bD k ((fe.set j0.toNat v2).set (i64.wrap (j0 - 1)).toNat v3) (i64.wrap (j0 - 1))) else (some ((fe,j0)))) else (some ((fe,j0)))
def bF.l0 (m:Nat)(a0:Int)(b0:Int)(bD:Int→Int→Option (Int)):Nat→(List Int)→Int→Option ((List Int) × Int)
 | 0,_,_=>none
 | k+1,cg,i0=>if (decide (i0<b0))=true then ((bF.l1 m a0 bD m cg i0).bind fun bp=>match bp with | (gg,j1)=>bF.l0 m a0 b0 bD k gg (i64.wrap (i0+1))) else (some ((cg,i0)))
def bF.f (m:Nat)(aG:List Int)(a0:Int)(b0:Int)(bD:Int→Int→Option (Int)):Option ((List Int)):=(bF.l0 m a0 b0 bD m aG (i64.wrap (a0+1))).bind fun cM=>match cM with | (mY,i1)=>some mY
def bF.fin (L:Mem)(aX:Nat)(aG:List Int)(a0:Int)(b0:Int)(bD:Int→Int→Option (Int))(r:(List Int))(s:St):Prop:=aK Tryz.prog (s.open wW) Tryz.f145.results.toList=some (.tup [])∧Has s.h ((aX,.sl aG.length 1 (ab.l r))::L)
def UP (cf:CallF)(m:Nat):Prop:=∀(aG:List Int) (a0:Int) (b0:Int) (bD:Int→Int→Option (Int)) (r:(List Int)),bF.f m aG a0 b0 bD=some r→∀h L (dZ:Nat) (aX:Nat),Has h ((aX,.sl dZ 1 (ab.l aG))::L)→∀(xM:FuncId) (jL iU:List AV),(ba (.fn xM jL) = .fn xM jL)→(∀(h:AHeap) (xs:List AV) (a0:Int) (a1:Int) r,bD a0 a1=some r→bl cd h xs ([.i a0,.i a1]++iU)→cf xM xs h=some (.i r,h))→(∀h K,Has h (K++(L))→bl ez h jL iU)→(∀h,bl ez h iU iU)→∀xs,xs.map ba=[.rs aX 0 dZ 1,.i a0,.i b0,.fn xM jL]→∃h',cf 145 xs h=some (.tup [],h')∧Has h' ((aX,.sl dZ 1 (ab.l r))::L)
section
variable {cf:CallF}{m:Nat}
theorem bF.iw (L:Mem)(aX:Nat)(xM:FuncId)(jL iU:List AV)(aG:List Int)(a0:Int)(b0:Int)(bD:Int→Int→Option (Int))(i0:Int)  (LN:ba (.fn xM jL) = .fn xM jL)(HM:∀(h:AHeap) (xs:List AV) (a0:Int) (a1:Int) r,bD a0 a1=some r→bl cd h xs ([.i a0,.i a1]++iU)→cf xM xs h=some (.i r,h))(HN:∀h K,Has h (K++(L))→bl ez h jL iU)(LO:∀h,bl ez h iU iU)  : b9 Tryz.prog cf wW m (sub [1,0,0,1,0,0,1,0,0] (bw Tryz.f145)) (fun k (σ:(List Int) × Int)=>bF.l1 m a0 bD k σ.1 σ.2) (fun σ s=>match σ with | (fe,j0)=>∃h1,s=⟨[.rs aX 0 aG.length 1,.i a0,.i b0,.fn xM jL,.i i0,.i j0,.any,.any],[],h1⟩∧Has h1 ((aX,.sl aG.length 1 (ab.l fe))::L)) (fun out e s=>(e = .exit 2∧∃fe j0,(fe,j0)=out∧∃vg UO h1,s=⟨[.rs aX 0 aG.length 1,.i a0,.i b0,.fn xM jL,.i i0,vg,.any,UO],[],h1⟩∧Has h1 ((aX,.sl aG.length 1 (ab.l fe))::L))):=by
 refine jF (fun _=>rfl) ?_
 rintro k ⟨fe,j0⟩ s out ⟨h1,rfl,o1⟩ H
 have H:bF.l1 m a0 bD (k+1) fe j0=some out:=H
 refine qq <| qq ?_
 rcases eV H with⟨c1,H⟩| ⟨c1,H⟩
 ·obtain⟨v0,e0,H⟩:=aP H
  obtain⟨v1,e1,H⟩:=aP H
  obtain⟨r0,e2,H⟩:=aP H
  refine qr [.b 3 c1,.v 7 (aL (k:=.i64) (E:=ab) (l:=fe) (q:=0) da o1 rfl e0),.v 8 (bq  (E:=ab) (l:=fe) (q:=0) o1 rfl A3 e0 rfl),.v 12 (aL (k:=.i64) (E:=ab) (l:=fe) (q:=0) da o1 rfl e1),.v 13 (bq  (E:=ab) (l:=fe) (q:=0) o1 rfl A3 e1 rfl),.a 14 (HM _ _ _ _ _ e2 (S3 (ai (aU) (ai (aU) (aD))) (HN h1 [(aX,.sl aG.length 1 (ab.l fe))] o1)))] <| qc H (fun c2 H=>?_) (fun c2 H=>?_)
  ·refine qk <| qq <| qb 3 ?_
   obtain⟨v2,e3,H⟩:=aP H
   obtain⟨v3,e4,H⟩:=aP H
   obtain⟨v4,e5,H⟩:=aP H
   obtain⟨h2,e6,o2⟩:=dD (P:=Tryz.prog) (tf:=3) (E:=ab) (l:=fe) (q:=0) (v:=v2) (x:=.i v2) o1 rfl Z3 e5 rfl rfl
   obtain⟨v5,e7,H⟩:=aP H
   obtain⟨h3,e8,o3⟩:=dD (P:=Tryz.prog) (tf:=3) (E:=ab) (l:=(fe.set j0.toNat v2)) (q:=0) (v:=v3) (x:=.i v3) o2 rfl Z3 e7 rfl rfl
   exact qr [.v 8 (aL (k:=.i64) (E:=ab) (l:=fe) (q:=0) da o1 rfl e3),.v 9 (bq  (E:=ab) (l:=fe) (q:=0) o1 rfl A3 e3 rfl),.v 12 (aL (k:=.i64) (E:=ab) (l:=fe) (q:=0) da o1 rfl e4),.v 13 (bq  (E:=ab) (l:=fe) (q:=0) o1 rfl A3 e4 rfl),.v 14 (aL (k:=.i64) (E:=ab) (l:=fe) (q:=0) da o1 rfl e5),.w 15 e6,.v 16 (aL (k:=.i64) (E:=ab) (l:=(fe.set j0.toNat v2)) (q:=0) da o2 rfl e7),.w 17 e8] <| q0 <| ⟨((fe.set j0.toNat v2).set (i64.wrap (j0 - 1)).toNat v3,i64.wrap (j0 - 1)),⟨h3,kr,o3⟩,H⟩
  ·exact qx 2 <| ⟨rfl,fe,j0,oi H,.i j0,.bool (decide (r0<0)),h1,kr,o1⟩
 ·exact qr [.b 3 c1] <| Dr <| qx 2 <| ⟨rfl,fe,j0,oi H,.i j0,.bool false,h1,kr,o1⟩
theorem bF.cm (L:Mem)(aX:Nat)(xM:FuncId)(jL iU:List AV)(aG:List Int)(a0:Int)(b0:Int)(bD:Int→Int→Option (Int))  (LN:ba (.fn xM jL) = .fn xM jL)(HM:∀(h:AHeap) (xs:List AV) (a0:Int) (a1:Int) r,bD a0 a1=some r→bl cd h xs ([.i a0,.i a1]++iU)→cf xM xs h=some (.i r,h))(HN:∀h K,Has h (K++(L))→bl ez h jL iU)(LO:∀h,bl ez h iU iU)  : b9 Tryz.prog cf wW m (sub [1,0,0] (bw Tryz.f145)) (fun k (σ:(List Int) × Int)=>bF.l0 m a0 b0 bD k σ.1 σ.2) (fun σ s=>match σ with | (cg,i0)=>∃h0,s=⟨.rs aX 0 aG.length 1 :: .i a0 :: .i b0 :: .fn xM jL :: .i i0::nc [],[],h0⟩∧Has h0 ((aX,.sl aG.length 1 (ab.l cg))::L)) (fun out e s=>(e = .exit 0∧∃cg i0,(cg,i0)=out∧∃lH wO LM Br ud Aa h0,s=⟨[lH,wO,LM,Br,ud,.any,Aa,.any],[],h0⟩∧Has h0 ((aX,.sl aG.length 1 (ab.l cg))::L))):=by
 refine jF (fun _=>rfl) ?_
 rintro k ⟨cg,i0⟩ s out ⟨h0,rfl,o0⟩ H
 have H:bF.l0 m a0 b0 bD (k+1) cg i0=some out:=H
 refine qq <| qq <| q0 <| qc H (fun c0 H=>?_) (fun c0 H=>?_)
 ·refine qk <| qq <| qb 1 <| qq <| q0 <| qb 2 ?_
  obtain⟨bp,e9,H⟩:=aP H
  refine ql (bF.iw L aX xM jL iU aG a0 b0 bD i0  LN HM HN LO  (cg,i0) _ _ ⟨h0,kr,o0⟩ e9) ?_
  rintro e s ⟨rfl,gg,j1,rfl,g0,g1,h4,rfl,o4⟩
  try dsimp only at H
  exact q0 <| ⟨(gg,i64.wrap (i0+1)),⟨h4,kr,o4⟩,H⟩
 ·exact qx 0 <| ⟨rfl,cg,i0,oi H,.rs aX 0 aG.length 1,.i a0,.i b0,.fn xM jL,.i i0,.bool (decide (i0<b0)),h0,kr,o0⟩
theorem te {aW:FuncId→b4}(ha:aW 145=wW)  (aG:List Int)(a0:Int)(b0:Int)(bD:Int→Int→Option (Int))(h:AHeap)(L:Mem)(aX:Nat)(xM:FuncId)(jL iU:List AV)  (LN:ba (.fn xM jL) = .fn xM jL)(HM:∀(h:AHeap) (xs:List AV) (a0:Int) (a1:Int) r,bD a0 a1=some r→bl cd h xs ([.i a0,.i a1]++iU)→cf xM xs h=some (.i r,h))(HN:∀h K,Has h (K++(L))→bl ez h jL iU)(LO:∀h,bl ez h iU iU)(o:Has h ((aX,.sl aG.length 1 (ab.l aG))::L)){out:(List Int)}(H:bF.f m aG a0 b0 bD=some out) :
  ∃r h',bj Tryz.prog aW cf m 145 [.rs aX 0 aG.length 1,.i a0,.i b0,.fn xM jL] h=some (r,h')∧r = .tup []∧Has h' ((aX,.sl aG.length 1 (ab.l out))::L):=by
 refine aw (fn:=Tryz.f145) ha Tryz.func145 kr kr ?_
 refine aI (Q:=fun s=>bF.fin L aX aG a0 b0 bD out s) (fun _ _ ⟨h1,h2,h3⟩=>⟨h1,_,h2,rfl,h3⟩) ?_
 have H:_=some out:=H
 unfold bF.f at H
 show dE _ cf wW m _ ⟨.rs aX 0 aG.length 1 :: .i a0 :: .i b0 :: .fn xM jL::l9 [],[],h⟩ _
 refine q1 <| qb 0 ?_
 obtain⟨cM,ma,H⟩:=aP H
 refine ql (bF.cm L aX xM jL iU aG a0 b0 bD  LN HM HN LO  (aG,i64.wrap (a0+1)) _ _ ⟨h,kr,o⟩ ma) ?_
 rintro e s ⟨rfl,mY,i1,rfl,g2,g3,g4,g5,g6,g7,h5,rfl,o5⟩
 try dsimp only at H
 obtain rfl:=oi H
 exact⟨.inr rfl,⟨kr,he o5⟩⟩
end
def Aj:b4:=gL [0,1,2,3,10,13] [] [32,0,32,32] [] []
def dr.l0 (m:Nat)(a0:Int)(b0:Int)(n0:Int):Nat→(List Int)→Int→Option ((List Int) × Int)
 | 0,_,_=>none
 | k+1,cg,i0=>if (decide (i0<n0))=true then ((ix cg (i64.wrap (b0+i0))).bind fun v0=>(ix cg (i64.wrap (a0+i0))).bind fun v1=>(ix cg (i64.wrap (a0+i0))).bind fun v2=>(ix (cg.set (i64.wrap (a0+i0)).toNat v0) (i64.wrap (b0+i0))).bind fun v3=>dr.l0 m a0 b0 n0 k ((cg.set (i64.wrap (a0+i0)).toNat v0).set (i64.wrap (b0+i0)).toNat v1) (i64.wrap (i0+1))) else (some ((cg,i0)))
def dr.f (m:Nat)(aG:List Int)(a0:Int)(b0:Int)(n0:Int)(bD:Int→Int→Option (Int)):Option ((List Int)):=(dr.l0 m a0 b0 n0 m aG 0).bind fun bp=>match bp with | (fe,i1)=>some fe
def dr.fin (L:Mem)(aX:Nat)(aG:List Int)(a0:Int)(b0:Int)(n0:Int)(bD:Int→Int→Option (Int))(r:(List Int))(s:St):Prop:=aK Tryz.prog (s.open Aj) Tryz.f149.results.toList=some (.tup [])∧Has s.h ((aX,.sl aG.length 1 (ab.l r))::L)
def UQ (cf:CallF)(m:Nat):Prop:=∀(aG:List Int) (a0:Int) (b0:Int) (n0:Int) (bD:Int→Int→Option (Int)) (r:(List Int)),dr.f m aG a0 b0 n0 bD=some r→∀h L (dZ:Nat) (aX:Nat),Has h ((aX,.sl dZ 1 (ab.l aG))::L)→∀(iQ:FuncId) (bS bE:List AV),(ba (.fn iQ bS) = .fn iQ bS)→(∀(h:AHeap) (xs:List AV) (a0:Int) (a1:Int) r,bD a0 a1=some r→bl cd h xs ([.i a0,.i a1]++bE)→cf iQ xs h=some (.i r,h))→(∀h K,Has h (K++(L))→bl ez h bS bE)→(∀h,bl ez h bE bE)→∀xs,xs.map ba=[.rs aX 0 dZ 1,.i a0,.i b0,.i n0,.fn iQ bS]→∃h',cf 149 xs h=some (.tup [],h')∧Has h' ((aX,.sl dZ 1 (ab.l r))::L)
section
variable {cf:CallF}{m:Nat}
theorem dr.cm (L:Mem)(aX:Nat)(iQ:FuncId)(bS bE:List AV)(aG:List Int)(a0:Int)(b0:Int)(n0:Int)(bD:Int→Int→Option (Int))  (lT:ba (.fn iQ bS) = .fn iQ bS)(kX:∀(h:AHeap) (xs:List AV) (a0:Int) (a1:Int) r,bD a0 a1=some r→bl cd h xs ([.i a0,.i a1]++bE)→cf iQ xs h=some (.i r,h))(kY:∀h K,Has h (K++(L))→bl ez h bS bE)(lU:∀h,bl ez h bE bE)  : b9 Tryz.prog cf Aj m (sub [1,0,0] (bw Tryz.f149)) (fun k (σ:(List Int) × Int)=>dr.l0 m a0 b0 n0 k σ.1 σ.2) (fun σ s=>match σ with | (cg,i0)=>∃h0,s=⟨[.rs aX 0 aG.length 1,.i a0,.i b0,.i n0,.i i0,.any],[],h0⟩∧Has h0 ((aX,.sl aG.length 1 (ab.l cg))::L)) (fun out e s=>(e = .exit 0∧∃cg i0,(cg,i0)=out∧∃lH wO LM Br oG pZ h0,s=⟨[lH,wO,LM,Br,oG,pZ],[],h0⟩∧Has h0 ((aX,.sl aG.length 1 (ab.l cg))::L))):=by
 refine jF (fun _=>rfl) ?_
 rintro k ⟨cg,i0⟩ s out ⟨h0,rfl,o0⟩ H
 have H:dr.l0 m a0 b0 n0 (k+1) cg i0=some out:=H
 refine qq <| qq <| q0 <| qc H (fun c0 H=>?_) (fun c0 H=>?_)
 ·refine qk <| qq <| qb 1 ?_
  obtain⟨v0,e0,H⟩:=aP H
  obtain⟨v1,e1,H⟩:=aP H
  obtain⟨v2,e2,H⟩:=aP H
  obtain⟨h1,e3,o1⟩:=dD (P:=Tryz.prog) (tf:=3) (E:=ab) (l:=cg) (q:=0) (v:=v0) (x:=.i v0) o0 rfl Z3 e2 rfl rfl
  obtain⟨v3,e4,H⟩:=aP H
  obtain⟨h2,e5,o2⟩:=dD (P:=Tryz.prog) (tf:=3) (E:=ab) (l:=(cg.set (i64.wrap (a0+i0)).toNat v0)) (q:=0) (v:=v1) (x:=.i v1) o1 rfl Z3 e4 rfl rfl
  exact qr [.v 12 (aL (k:=.i64) (E:=ab) (l:=cg) (q:=0) da o0 rfl e0),.v 13 (bq  (E:=ab) (l:=cg) (q:=0) o0 rfl A3 e0 rfl),.v 18 (aL (k:=.i64) (E:=ab) (l:=cg) (q:=0) da o0 rfl e1),.v 19 (bq  (E:=ab) (l:=cg) (q:=0) o0 rfl A3 e1 rfl),.v 20 (aL (k:=.i64) (E:=ab) (l:=cg) (q:=0) da o0 rfl e2),.w 21 e3,.v 22 (aL (k:=.i64) (E:=ab) (l:=(cg.set (i64.wrap (a0+i0)).toNat v0)) (q:=0) da o1 rfl e4),.w 23 e5] <| q0 <| ⟨((cg.set (i64.wrap (a0+i0)).toNat v0).set (i64.wrap (b0+i0)).toNat v1,i64.wrap (i0+1)),⟨h2,kr,o2⟩,H⟩
 ·exact qx 0 <| ⟨rfl,cg,i0,oi H,.rs aX 0 aG.length 1,.i a0,.i b0,.i n0,.i i0,.bool (decide (i0<n0)),h0,kr,o0⟩
theorem ym {aW:FuncId→b4}(ha:aW 149=Aj)  (aG:List Int)(a0:Int)(b0:Int)(n0:Int)(bD:Int→Int→Option (Int))(h:AHeap)(L:Mem)(aX:Nat)(iQ:FuncId)(bS bE:List AV)  (lT:ba (.fn iQ bS) = .fn iQ bS)(kX:∀(h:AHeap) (xs:List AV) (a0:Int) (a1:Int) r,bD a0 a1=some r→bl cd h xs ([.i a0,.i a1]++bE)→cf iQ xs h=some (.i r,h))(kY:∀h K,Has h (K++(L))→bl ez h bS bE)(lU:∀h,bl ez h bE bE)(o:Has h ((aX,.sl aG.length 1 (ab.l aG))::L)){out:(List Int)}(H:dr.f m aG a0 b0 n0 bD=some out) :
  ∃r h',bj Tryz.prog aW cf m 149 [.rs aX 0 aG.length 1,.i a0,.i b0,.i n0,.fn iQ bS] h=some (r,h')∧r = .tup []∧Has h' ((aX,.sl aG.length 1 (ab.l out))::L):=by
 refine aw (fn:=Tryz.f149) ha Tryz.func149 kr kr ?_
 refine aI (Q:=fun s=>dr.fin L aX aG a0 b0 n0 bD out s) (fun _ _ ⟨h1,h2,h3⟩=>⟨h1,_,h2,rfl,h3⟩) ?_
 have H:_=some out:=H
 unfold dr.f at H
 show dE _ cf Aj m _ ⟨[.rs aX 0 aG.length 1,.i a0,.i b0,.i n0,.any,.any],[],h⟩ _
 refine q1 <| qb 0 ?_
 obtain⟨bp,e6,H⟩:=aP H
 refine ql (dr.cm L aX iQ bS bE aG a0 b0 n0 bD  lT kX kY lU  (aG,0) _ _ ⟨h,kr,o⟩ e6) ?_
 rintro e s ⟨rfl,fe,i1,rfl,g0,g1,g2,g3,g4,g5,h3,rfl,o3⟩
 try dsimp only at H
 obtain rfl:=oi H
 exact⟨.inr rfl,⟨kr,he o3⟩⟩
end
def Jw:b4:=gL [0,2,5] [] [6,2,5,5] [] []
def fP.f (m:Nat)(s0:ae):Option (Int):=(cH.f m s0).bind fun x0=>if (!x0)=true then (some 0) else (some (s0.aa.length:Int))
def fP.fin (L:Mem)(r:Int)(s:St):Prop:=∃av,aK Tryz.prog (s.open Jw) Tryz.f13.results.toList=some av∧eX s.h av (.i r)
def S13 (cf:CallF)(m:Nat):Prop:=∀(s0:ae) (r:Int),fP.f m s0=some r→∀h xs,bl cd h xs [.fp [.bool s0.ay,af.fz s0.aa,ab.fz s0.an] 0]→cf 13 xs h=some (.i r,h)
section
variable {cf:CallF}{m:Nat}
theorem rf {aW:FuncId→b4}(ha:aW 13=Jw)(Dx:V9 cf m)(s0:ae)(h:AHeap)(L:Mem)  (o:Has h (L)){out:Int}(H:fP.f m s0=some out) :
  ∃r h',bj Tryz.prog aW cf m 13 [.fp [.bool s0.ay,af.fz s0.aa,ab.fz s0.an] 0] h=some (r,h')∧eX h' r (.i out):=by
 refine aw (fn:=Tryz.f13) ha Tryz.func13 kr kr ?_
 refine aI (Q:=fun s=>fP.fin L out s) (fun _ _ h=>h) ?_
 have H:_=some out:=H
 unfold fP.f at H
 show dE _ cf Jw m _ ⟨[.fp [.bool s0.ay,af.fz s0.aa,ab.fz s0.an] 0,.any,.any],[],h⟩ _
 refine q1 <| qq <| qq ?_
 obtain⟨x0,e0,H⟩:=aP H
 refine qr [.a 1 (Dx _ _ e0 h _ (ia (ai (cV (pure_cons (bc) (pure_cons (bM.aJ (E:=af) (l:=s0.aa)) (pure_cons (bM.aJ (E:=ab) (l:=s0.an)) (pure_nil))))) (aD))))] <| qc H (fun c0 H=>?_) (fun c0 H=>?_)
 ·exact q1 <| qt <| fI H
 ·exact qk <| qq <| q0 <| qt <| fI H
end
def Jx:b4:=gL [0,2,5] [] [6,2,5,5] [] []
def eT.f (m:Nat)(s0:aj):Option (Int):=(ca.f m s0).bind fun x0=>if (!x0)=true then (some 0) else (some (s0.ah.length:Int))
def eT.fin (L:Mem)(r:Int)(s:St):Prop:=∃av,aK Tryz.prog (s.open Jx) Tryz.f14.results.toList=some av∧eX s.h av (.i r)
def S14 (cf:CallF)(m:Nat):Prop:=∀(s0:aj) (r:Int),eT.f m s0=some r→∀h xs,bl cd h xs [.fp [af.fz s0.ah,ab.fz s0.ao,.bool s0.aE] 0]→cf 14 xs h=some (.i r,h)
section
variable {cf:CallF}{m:Nat}
theorem ri {aW:FuncId→b4}(ha:aW 14=Jx)(qh:N4 cf m)(s0:aj)(h:AHeap)(L:Mem)  (o:Has h (L)){out:Int}(H:eT.f m s0=some out) :
  ∃r h',bj Tryz.prog aW cf m 14 [.fp [af.fz s0.ah,ab.fz s0.ao,.bool s0.aE] 0] h=some (r,h')∧eX h' r (.i out):=by
 refine aw (fn:=Tryz.f14) ha Tryz.func14 kr kr ?_
 refine aI (Q:=fun s=>eT.fin L out s) (fun _ _ h=>h) ?_
 have H:_=some out:=H
 unfold eT.f at H
 show dE _ cf Jx m _ ⟨[.fp [af.fz s0.ah,ab.fz s0.ao,.bool s0.aE] 0,.any,.any],[],h⟩ _
 refine q1 <| qq <| qq ?_
 obtain⟨x0,e0,H⟩:=aP H
 refine qr [.a 1 (qh _ _ e0 h _ (ia (ai (cV (pure_cons (bM.aJ (E:=af) (l:=s0.ah)) (pure_cons (bM.aJ (E:=ab) (l:=s0.ao)) (pure_cons (bc) (pure_nil))))) (aD))))] <| qc H (fun c0 H=>?_) (fun c0 H=>?_)
 ·exact q1 <| qt <| fI H
 ·exact qk <| qq <| q0 <| qt <| fI H
end
def Jy:b4:=gL [0,2,5] [] [6,2,5,5] [] []
def ff.f (m:Nat)(s0:ae):Option ((Option ae) × ae):=(cH.f m s0).bind fun x0=>if (!x0)=true then (some (none,s0)) else ((GW 4 s0.aa).bind fun x1=>(GW 1 s0.an).bind fun x2=>some (some (ae.mk true x1 x2),s0))
def ff.fin (L:Mem)(au:Nat)(aq:Nat)(az:Nat)(s0:ae)(r:(Option ae) × ae)(s:St):Prop:=∃cR dR dS aB aC:Nat,aK Tryz.prog (s.open Jy) Tryz.f18.results.toList=some ((LK r.1 cR))∧Has s.h (LL r.1 (fun y=>[(cR,.ob [.bool y.ay,.rs dR 0 y.aa.length 4,.rs dS 0 y.an.length 1]),(dR,.sl y.aa.length 4 (af.l y.aa)),(dS,.sl y.an.length 1 (ab.l y.an))])++((au,.ob [.bool r.2.ay,.rs aB 0 r.2.aa.length 4,.rs aC 0 r.2.an.length 1])::(aB,.sl r.2.aa.length 4 (af.l r.2.aa))::(aC,.sl r.2.an.length 1 (ab.l r.2.an))::L))
def S18 (cf:CallF)(m:Nat):Prop:=∀(s0:ae) (r:(Option ae) × ae),ff.f m s0=some r→∀h L (au:Nat) (aq:Nat) (az:Nat),Has h ((au,.ob [.bool s0.ay,.rs aq 0 s0.aa.length 4,.rs az 0 s0.an.length 1])::(aq,.sl s0.aa.length 4 (af.l s0.aa))::(az,.sl s0.an.length 1 (ab.l s0.an))::L)→∀xs,xs.map ba=[.ptr au 0]→∃cR dR dS aB aC h',cf 18 xs h=some ((LK r.1 cR),h')∧Has h' (LL r.1 (fun y=>[(cR,.ob [.bool y.ay,.rs dR 0 y.aa.length 4,.rs dS 0 y.an.length 1]),(dR,.sl y.aa.length 4 (af.l y.aa)),(dS,.sl y.an.length 1 (ab.l y.an))])++((au,.ob [.bool r.2.ay,.rs aB 0 r.2.aa.length 4,.rs aC 0 r.2.an.length 1])::(aB,.sl r.2.aa.length 4 (af.l r.2.aa))::(aC,.sl r.2.an.length 1 (ab.l r.2.an))::L))
section
variable {cf:CallF}{m:Nat}
theorem qi {aW:FuncId→b4}(ha:aW 18=Jy)(HO:Zb cf m)(Dx:V9 cf m)(XF:S51 cf m)(s0:ae)(h:AHeap)(L:Mem)(au:Nat)(aq:Nat)(az:Nat)  (o:Has h ((au,.ob [.bool s0.ay,.rs aq 0 s0.aa.length 4,.rs az 0 s0.an.length 1])::(aq,.sl s0.aa.length 4 (af.l s0.aa))::(az,.sl s0.an.length 1 (ab.l s0.an))::L)){out:(Option ae) × ae}(H:ff.f m s0=some out) :
  ∃r h',bj Tryz.prog aW cf m 18 [.ptr au 0] h=some (r,h')∧∃cR dR dS aB aC:Nat,r=(LK out.1 cR)∧Has h' (LL out.1 (fun y=>[(cR,.ob [.bool y.ay,.rs dR 0 y.aa.length 4,.rs dS 0 y.an.length 1]),(dR,.sl y.aa.length 4 (af.l y.aa)),(dS,.sl y.an.length 1 (ab.l y.an))])++((au,.ob [.bool out.2.ay,.rs aB 0 out.2.aa.length 4,.rs aC 0 out.2.an.length 1])::(aB,.sl out.2.aa.length 4 (af.l out.2.aa))::(aC,.sl out.2.an.length 1 (ab.l out.2.an))::L)):=by
 refine aw (fn:=Tryz.f18) ha Tryz.func18 kr kr ?_
 refine aI (Q:=fun s=>ff.fin L au aq az s0 out s) (fun _ _ ⟨h1,cR,dR,dS,aB,aC,h2,h3⟩=>⟨h1,_,h2,cR,dR,dS,aB,aC,rfl,h3⟩) ?_
 have H:_=some out:=H
 unfold ff.f at H
 show dE _ cf Jy m _ ⟨[.ptr au 0,.any,.any],[],h⟩ _
 refine q1 <| qq <| qq ?_
 obtain⟨x0,e0,H⟩:=aP H
 refine qr [.a 1 (Dx _ _ e0 h _ (ia (ai (dM (q:=0) o rfl (ai (eM) (ai (cC (E:=af) (l:=s0.aa) (q:=1) o rfl (fun _=>rfl)) (ai (cC (E:=ab) (l:=s0.an) (q:=2) o rfl (fun _=>rfl)) (aD))))) (aD))))] <| qc H (fun c0 H=>?_) (fun c0 H=>?_)
 ·obtain rfl:=oi H
  exact q1 <| qt <| ⟨.inl rfl,⟨0,0,0,aq,az,kr,he o⟩⟩
 ·refine qk <| qq ?_
  obtain⟨x1,e1,H⟩:=aP H
  obtain⟨aX,h0,e2,o0⟩:=SZ (q:=1) (E:=af) (l:=s0.aa) XF o rfl e1
  obtain⟨x2,e3,H⟩:=aP H
  obtain⟨b7,h1,e4,o1⟩:=SZ (q:=3) (E:=ab) (l:=s0.an) HO o0 rfl e3
  obtain⟨bT,h2,e5,o2⟩:=ja (cs:=[.bool true,.rs aX 0 x1.length 4,.rs b7 0 x2.length 1]) o1 kr
  obtain rfl:=oi H
  exact V6 [] [.v 3 (show bR Tryz.prog h 23 (.ptr au 1)=some (.rs aq 0 s0.aa.length 4) from cJ (q:=0) (cs:=[.bool s0.ay,.rs aq 0 s0.aa.length 4,.rs az 0 s0.an.length 1]) o rfl kr),.a 4 e2,.v 8 (show bR Tryz.prog h0 22 (.ptr au 2)=some (.rs az 0 s0.an.length 1) from cJ (q:=1) (cs:=[.bool s0.ay,.rs aq 0 s0.aa.length 4,.rs az 0 s0.an.length 1]) o0 rfl kr),.a 9 e4,.a 11 e5] [.mk (HF XF o (q2:=0) rfl e2)] <| qt <| ⟨.inl rfl,⟨bT,aX,b7,aq,az,kr,he (bI (bI (bI (bI (bI (bI o2 5) 5) 5) 4) 5) 5)⟩⟩
end
def FF:b4:=gL [0,2,3,4,5,8,23] [5,1400000015] [126,94,125,122,114,50,114,98,98,114,125] [(9,[(5,some 3,0)])] []
def bP.l0 (m:Nat)  : Nat→Int→aj→aj→Option (Int × aj × aj)
 | 0,_,_,_=>none
 | k+1,i0,s1,jG=>if (decide (i0<(s1.ah.length:Int)))=true then ((ix s1.ah i0).bind fun v0=>(app 8 ([]) v0.args).bind fun x2=>(app 56 jG.ah ([(ak.mk v0.kind v0.int v0.label x2)])).bind fun x3=>bP.l0 m k (i64.wrap (i0+1)) s1 (aj.mk x3 jG.ao jG.aE)) else (some ((i0,s1,jG)))
def bP.f (m:Nat)(s0:aj):Option ((Option aj) × aj):=(ca.f m s0).bind fun x0=>if (!x0)=true then (some (none,s0)) else ((app 8 ([]) s0.ao).bind fun x1=>(bP.l0 m m 0 s0 (aj.mk ([]:List ak) x1 true)).bind fun bp=>match bp with | (i1,s2,uK)=>some (some uK,s2))
def bP.fin (L:Mem)(au:Nat)(aH:Nat)(aq:Nat)(s0:aj)(r:(Option aj) × aj)(s:St):Prop:=∃cR dR dS aB aC:Nat,aK Tryz.prog (s.open FF) Tryz.f19.results.toList=some ((LK r.1 cR))∧Has s.h (LL r.1 (fun y=>[(cR,.ob [.rs dR 0 y.ah.length 4,.rs dS 0 y.ao.length 1,.bool y.aE]),(dR,.sl y.ah.length 4 (af.l y.ah)),(dS,.sl y.ao.length 1 (ab.l y.ao))])++((au,.ob [.rs aB 0 r.2.ah.length 4,.rs aC 0 r.2.ao.length 1,.bool r.2.aE])::(aB,.sl r.2.ah.length 4 (af.l r.2.ah))::(aC,.sl r.2.ao.length 1 (ab.l r.2.ao))::L))
def S19 (cf:CallF)(m:Nat):Prop:=∀(s0:aj) (r:(Option aj) × aj),bP.f m s0=some r→∀h L (au:Nat) (aH:Nat) (aq:Nat),Has h ((au,.ob [.rs aH 0 s0.ah.length 4,.rs aq 0 s0.ao.length 1,.bool s0.aE])::(aH,.sl s0.ah.length 4 (af.l s0.ah))::(aq,.sl s0.ao.length 1 (ab.l s0.ao))::L)→∀xs,xs.map ba=[.ptr au 0]→∃cR dR dS aB aC h',cf 19 xs h=some ((LK r.1 cR),h')∧Has h' (LL r.1 (fun y=>[(cR,.ob [.rs dR 0 y.ah.length 4,.rs dS 0 y.ao.length 1,.bool y.aE]),(dR,.sl y.ah.length 4 (af.l y.ah)),(dS,.sl y.ao.length 1 (ab.l y.ao))])++((au,.ob [.rs aB 0 r.2.ah.length 4,.rs aC 0 r.2.ao.length 1,.bool r.2.aE])::(aB,.sl r.2.ah.length 4 (af.l r.2.ah))::(aC,.sl r.2.ao.length 1 (ab.l r.2.ao))::L))
section
variable {cf:CallF}{m:Nat}
theorem bP.cm (L:Mem)(au:Nat)(aH:Nat)(aq:Nat)(s0:aj)(b7:Nat)   : b9 Tryz.prog cf FF m (sub [1,1,1,0,1,0,0] (bw Tryz.f19)) (fun k (σ:Int × aj × aj)=>bP.l0 m k σ.1 σ.2.1 σ.2.2) (fun σ s=>match σ with | (i0,s1,jG)=>∃dN gM bT cK h2,s=⟨.ptr au 0 :: .any :: .ptr b7 0 :: .i i0::nc [],[none,none],h2⟩∧Has h2 ((b7,.ob [.rs dN 0 jG.ah.length 4,.rs gM 0 jG.ao.length 1,.bool jG.aE])::(dN,.sl jG.ah.length 4 (af.l jG.ah))::(gM,.sl jG.ao.length 1 (ab.l jG.ao))::(au,.ob [.rs bT 0 s1.ah.length 4,.rs cK 0 s1.ao.length 1,.bool s1.aE])::(bT,.sl s1.ah.length 4 (af.l s1.ah))::(cK,.sl s1.ao.length 1 (ab.l s1.ao))::L)) (fun out e s=>(e = .exit 0∧∃i0 s1 jG,(i0,s1,jG)=out∧∃lH Rt HP dN gM bT cK h2,s=⟨[lH,.any,.ptr b7 0,Rt,.any,.any,HP],[none,none],h2⟩∧Has h2 ((b7,.ob [.rs dN 0 jG.ah.length 4,.rs gM 0 jG.ao.length 1,.bool jG.aE])::(dN,.sl jG.ah.length 4 (af.l jG.ah))::(gM,.sl jG.ao.length 1 (ab.l jG.ao))::(au,.ob [.rs bT 0 s1.ah.length 4,.rs cK 0 s1.ao.length 1,.bool s1.aE])::(bT,.sl s1.ah.length 4 (af.l s1.ah))::(cK,.sl s1.ao.length 1 (ab.l s1.ao))::L))):=by
 refine jF (fun _=>rfl) ?_
 rintro k ⟨i0,s1,jG⟩ s out ⟨dN,gM,bT,cK,h2,rfl,o3⟩ H
 have H:bP.l0 m (k+1) i0 s1 jG=some out:=H
 refine qq <| qq <| qr [.v 4 (show bR Tryz.prog h2 23 (.ptr au 0)=some (.rs bT 0 s1.ah.length 4) from cJ (q:=3) (cs:=[.rs bT 0 s1.ah.length 4,.rs cK 0 s1.ao.length 1,.bool s1.aE]) o3 rfl kr)] <| qc H (fun c1 H=>?_) (fun c1 H=>?_)
 ·refine qk <| qq <| qb 1 <| qq ?_
  obtain⟨v0,e4,H⟩:=aP H
  refine qr [.v 3 (show bR Tryz.prog h2 23 (.ptr au 0)=some (.rs bT 0 s1.ah.length 4) from cJ (q:=3) (cs:=[.rs bT 0 s1.ah.length 4,.rs cK 0 s1.ao.length 1,.bool s1.aE]) o3 rfl kr),.v 5 (aL (k:=.i64) (E:=af) (l:=s1.ah) (q:=4) lJ o3 rfl e4),.v 6 (u9  (E:=af) (l:=s1.ah) (q:=4) o3 rfl tE tF e4)] <| qq ?_
  obtain⟨x2,e5,H⟩:=aP H
  obtain⟨iy,h3,e6,o4⟩:=Dh (P:=Tryz.prog) (E:=ab) (s:=.fz [] 0 true) (t2:=22) (x:=ab.fz v0.args) (l2:=v0.args) (.inr rfl) da o3 (zH (E:=ab) (l2:=v0.args) _) rfl e5
  refine qr [.a 3 e6] ?_
  obtain⟨h4,e7,o5⟩:=lQ (E:=ab) (l:=x2) (q:=0) o4 rfl
  obtain⟨x3,e8,H⟩:=aP H
  obtain⟨iM,h5,e9,o6⟩:=eu (P:=Tryz.prog) (E:=af) (l:=jG.ah) (q:=1) (t2:=23) (x:=.fz [.i v0.kind,.i v0.int,.str v0.label,ab.fz x2] 1 true) (l2:=([(ak.mk v0.kind v0.int v0.label x2)])) lJ o5 rfl kr rfl e8
  obtain⟨h6,ma,o7⟩:=mV (P:=Tryz.prog) (t:=23) (off:=0) (q:=0) (cs:=[.rs dN 0 jG.ah.length 4,.rs gM 0 jG.ao.length 1,.bool jG.aE]) (iO:=[.rs iM 0 x3.length 4,.rs gM 0 jG.ao.length 1,.bool jG.aE]) (x:=.rs iM 0 x3.length 4) o6 rfl kr
  exact Jb [.a 0 e7] [.v 4 (show bR Tryz.prog h4 23 (.ptr b7 0)=some (.rs dN 0 jG.ah.length 4) from cJ (q:=0) (cs:=[.rs dN 0 jG.ah.length 4,.rs gM 0 jG.ao.length 1,.bool jG.aE]) o5 rfl kr),.a 7 e9,.w 10 ma] <| q0 <| ⟨(i64.wrap (i0+1),s1,(aj.mk x3 jG.ao jG.aE)),⟨iM,gM,bT,cK,h6,kr,o7⟩,H⟩
 ·exact qx 0 <| ⟨rfl,i0,s1,jG,oi H,.ptr au 0,.i i0,.bool (decide (i0<(s1.ah.length:Int))),dN,gM,bT,cK,h2,kr,o3⟩
theorem qm {aW:FuncId→b4}(ha:aW 19=FF)(qh:N4 cf m)(s0:aj)(h:AHeap)(L:Mem)(au:Nat)(aH:Nat)(aq:Nat)  (o:Has h ((au,.ob [.rs aH 0 s0.ah.length 4,.rs aq 0 s0.ao.length 1,.bool s0.aE])::(aH,.sl s0.ah.length 4 (af.l s0.ah))::(aq,.sl s0.ao.length 1 (ab.l s0.ao))::L)){out:(Option aj) × aj}(H:bP.f m s0=some out) :
  ∃r h',bj Tryz.prog aW cf m 19 [.ptr au 0] h=some (r,h')∧∃cR dR dS aB aC:Nat,r=(LK out.1 cR)∧Has h' (LL out.1 (fun y=>[(cR,.ob [.rs dR 0 y.ah.length 4,.rs dS 0 y.ao.length 1,.bool y.aE]),(dR,.sl y.ah.length 4 (af.l y.ah)),(dS,.sl y.ao.length 1 (ab.l y.ao))])++((au,.ob [.rs aB 0 out.2.ah.length 4,.rs aC 0 out.2.ao.length 1,.bool out.2.aE])::(aB,.sl out.2.ah.length 4 (af.l out.2.ah))::(aC,.sl out.2.ao.length 1 (ab.l out.2.ao))::L)):=by
 refine aw (fn:=Tryz.f19) ha Tryz.func19 kr kr ?_
 refine aI (Q:=fun s=>bP.fin L au aH aq s0 out s) (fun _ _ ⟨h1,cR,dR,dS,aB,aC,h2,h3⟩=>⟨h1,_,h2,cR,dR,dS,aB,aC,rfl,h3⟩) ?_
 have H:_=some out:=H
 unfold bP.f at H
 show dE _ cf FF m _ ⟨.ptr au 0::wF [],[none,none],h⟩ _
 refine q1 <| qq <| qq ?_
 obtain⟨x0,e0,H⟩:=aP H
 refine qr [.a 1 (qh _ _ e0 h _ (ia (ai (dM (q:=0) o rfl (ai (cC (E:=af) (l:=s0.ah) (q:=1) o rfl (fun _=>rfl)) (ai (cC (E:=ab) (l:=s0.ao) (q:=2) o rfl (fun _=>rfl)) (ai (eM) (aD))))) (aD))))] <| qc H (fun c0 H=>?_) (fun c0 H=>?_)
 ·obtain rfl:=oi H
  exact q1 <| qt <| ⟨.inl rfl,⟨0,0,0,aH,aq,kr,he o⟩⟩
 ·refine qk <| qq ?_
  obtain⟨x1,e1,H⟩:=aP H
  obtain⟨aX,h0,e2,o0⟩:=Dh (P:=Tryz.prog) (E:=ab) (s:=.fz [] 0 true) (t2:=22) (x:=.rs aq 0 s0.ao.length 1) (l2:=s0.ao) (.inr rfl) da o (BW (E:=ab) (l:=s0.ao) (q:=2) o rfl) rfl e1
  have o1:Has h0 (((0),.sl (([]:List ak).length) 4 (af.l ([]:List ak)))::(aX,.sl x1.length 1 (ab.l x1))::(au,.ob [.rs aH 0 s0.ah.length 4,.rs aq 0 s0.ao.length 1,.bool s0.aE])::(aH,.sl s0.ah.length 4 (af.l s0.ah))::(aq,.sl s0.ao.length 1 (ab.l s0.ao))::L):=Has.nil o0 4
  obtain⟨b7,h1,e3,o2⟩:=ja (cs:=[.rs (0) 0 (([]:List ak).length) 4,.rs aX 0 x1.length 1,.bool true]) o1 kr
  refine qr [.v 4 (show bR Tryz.prog h 22 (.ptr au 1)=some (.rs aq 0 s0.ao.length 1) from cJ (q:=0) (cs:=[.rs aH 0 s0.ah.length 4,.rs aq 0 s0.ao.length 1,.bool s0.aE]) o rfl kr),.a 5 e2,.a 7 e3] <| qq <| qq <| q0 <| qb 0 ?_
  obtain⟨bp,nH,H⟩:=aP H
  refine ql (bP.cm L au aH aq s0 b7   (0,s0,(aj.mk ([]:List ak) x1 true)) _ _ ⟨(0),aX,aH,aq,h1,kr,o2⟩ nH) ?_
  rintro e s ⟨rfl,i1,s2,uK,rfl,g0,g1,g2,kl,kP,fC,hY,h7,rfl,o8⟩
  try dsimp only at H
  obtain rfl:=oi H
  exact q1 <| qt <| ⟨.inl rfl,⟨b7,kl,kP,fC,hY,kr,he o8⟩⟩
end
def Jz:b4:=gL [0,1,2,3,4] [2,3] [19,15] [] []
def iJ.f (m:Nat)(a0:ak)(b0:ak):Option (Bool):=if (a0.kind==b0.kind)=true then (if (a0.int==b0.int)=true then (if (a0.label.data.toList==b0.label.data.toList)=true then ((dq.f m a0.args b0.args).bind fun x0=>some x0) else (some false)) else (some false)) else (some false)
def iJ.fin (L:Mem)(r:Bool)(s:St):Prop:=∃av,aK Tryz.prog (s.open Jz) Tryz.f26.results.toList=some av∧eX s.h av (.bool r)
def S26 (cf:CallF)(m:Nat):Prop:=∀(a0:ak) (b0:ak) (r:Bool),iJ.f m a0 b0=some r→∀h xs,bl cd h xs [.agg [.i a0.kind,.i a0.int,.str a0.label,ab.fz a0.args],.agg [.i b0.kind,.i b0.int,.str b0.label,ab.fz b0.args]]→cf 26 xs h=some (.bool r,h)
section
variable {cf:CallF}{m:Nat}
theorem wX {aW:FuncId→b4}(ha:aW 26=Jz)(DK:Zc cf m)(a0:ak)(b0:ak)(h:AHeap)(L:Mem)  (o:Has h (L)){out:Bool}(H:iJ.f m a0 b0=some out) :
  ∃r h',bj Tryz.prog aW cf m 26 [.agg [.i a0.kind,.i a0.int,.str a0.label,ab.fz a0.args],.agg [.i b0.kind,.i b0.int,.str b0.label,ab.fz b0.args]] h=some (r,h')∧eX h' r (.bool out):=by
 refine aw (fn:=Tryz.f26) ha Tryz.func26 kr kr ?_
 refine aI (Q:=fun s=>iJ.fin L out s) (fun _ _ h=>h) ?_
 have H:_=some out:=H
 unfold iJ.f at H
 show dE _ cf Jz m _ ⟨.agg [.i a0.kind,.i a0.int,.str a0.label,ab.fz a0.args] :: .agg [.i b0.kind,.i b0.int,.str b0.label,ab.fz b0.args]::nc [],[none,none],h⟩ _
 refine q1 <| qq ?_
 rcases eV H with⟨c0,H⟩| ⟨c0,H⟩
 ·rcases eV H with⟨c1,H⟩| ⟨c1,H⟩
  ·rcases eV H with⟨c2,H⟩| ⟨c2,H⟩
   ·obtain⟨x0,e0,H⟩:=aP H
    exact qr [.b 5 c0,.b 12 c1,.b 19 c2,.a 24 (DK _ _ _ e0 h _ fq)] <| qt <| fB H
   ·exact qr [.b 5 c0,.b 12 c1,.b 19 c2] <| qt <| fB H
  ·exact qr [.b 5 c0,.b 12 c1] <| qt <| fB H
 ·exact qr [.b 5 c0] <| qt <| fB H
end
def JA:b4:=gL [0,2,3] [] [6,1] [] []
def ij.f (m:Nat)(s0:ae):Option (Int × Int × ae):=(dF.f m s0 (gd.f m ) (ak.mk 0 0 (ajg #[]) ([]))).bind fun x0=>some (x0.1,x0.2.1,x0.2.2)
def ij.fin (L:Mem)(au:Nat)(aq:Nat)(az:Nat)(s0:ae)(r:Int × Int × ae)(s:St):Prop:=∃aB aC:Nat,aK Tryz.prog (s.open JA) Tryz.f30.results.toList=some (.tup [.i r.1,.i r.2.1])∧Has s.h ((au,.ob [.bool r.2.2.ay,.rs aB 0 r.2.2.aa.length 4,.rs aC 0 r.2.2.an.length 1])::(aB,.sl r.2.2.aa.length 4 (af.l r.2.2.aa))::(aC,.sl r.2.2.an.length 1 (ab.l r.2.2.an))::L)
def S30 (cf:CallF)(m:Nat):Prop:=∀(s0:ae) (r:Int × Int × ae),ij.f m s0=some r→∀h L (au:Nat) (aq:Nat) (az:Nat),Has h ((au,.ob [.bool s0.ay,.rs aq 0 s0.aa.length 4,.rs az 0 s0.an.length 1])::(aq,.sl s0.aa.length 4 (af.l s0.aa))::(az,.sl s0.an.length 1 (ab.l s0.an))::L)→∀xs,xs.map ba=[.ptr au 0]→∃aB aC h',cf 30 xs h=some (.tup [.i r.1,.i r.2.1],h')∧Has h' ((au,.ob [.bool r.2.2.ay,.rs aB 0 r.2.2.aa.length 4,.rs aC 0 r.2.2.an.length 1])::(aB,.sl r.2.2.aa.length 4 (af.l r.2.2.aa))::(aC,.sl r.2.2.an.length 1 (ab.l r.2.2.an))::L)
section
variable {cf:CallF}{m:Nat}
theorem se {aW:FuncId→b4}(ha:aW 30=JA)(DL:Wa cf m)(aaJ:S72 cf m)(s0:ae)(h:AHeap)(L:Mem)(au:Nat)(aq:Nat)(az:Nat)  (o:Has h ((au,.ob [.bool s0.ay,.rs aq 0 s0.aa.length 4,.rs az 0 s0.an.length 1])::(aq,.sl s0.aa.length 4 (af.l s0.aa))::(az,.sl s0.an.length 1 (ab.l s0.an))::L)){out:Int × Int × ae}(H:ij.f m s0=some out) :
  ∃r h',bj Tryz.prog aW cf m 30 [.ptr au 0] h=some (r,h')∧∃aB aC:Nat,r = .tup [.i out.1,.i out.2.1]∧Has h' ((au,.ob [.bool out.2.2.ay,.rs aB 0 out.2.2.aa.length 4,.rs aC 0 out.2.2.an.length 1])::(aB,.sl out.2.2.aa.length 4 (af.l out.2.2.aa))::(aC,.sl out.2.2.an.length 1 (ab.l out.2.2.an))::L):=by
 refine aw (fn:=Tryz.f30) ha Tryz.func30 kr kr ?_
 refine aI (Q:=fun s=>ij.fin L au aq az s0 out s) (fun _ _ ⟨h1,aB,aC,h2,h3⟩=>⟨h1,_,h2,aB,aC,rfl,h3⟩) ?_
 have H:_=some out:=H
 unfold ij.f at H
 show dE _ cf JA m _ ⟨[.ptr au 0,.any,.any],[],h⟩ _
 refine q1 <| qq ?_
 obtain⟨x0,e0,H⟩:=aP H
 obtain⟨aX,b7,h0,e1,o0⟩:=DL _ _ _ _ e0 h _ _ _ _ (o) 72 [] [] rfl (fun h' Ak  r hr hx=>aaJ  r hr h' Ak hx) (fun h' K' o'=>lC (aD)) (fun h_=>lC (aD)) [.ptr au 0,.fn 72 [],.agg [.i 0,.i 0,.str (ajg #[]),.nils]] (fy (rfl) (fy (rfl) (fy (lR (nG (b5 (ig) (b5 (ig) (b5 (pV) (b5 (ou (E:=ab)) (jR))))))) cq)))
 obtain rfl:=oi H
 exact qr [.a 2 e1] <| qt <| ⟨.inl rfl,⟨aX,b7,kr,he o0⟩⟩
end
def JB:b4:=gL [0,1,3,4,5] [] [26,7] [] []
def ik.f (m:Nat)(s0:ae)(n0:Int):Option (Int × Int × ae):=(dF.f m s0 (fc.f m n0) (ak.mk 1 n0 (ajg #[]) ([]))).bind fun x0=>some (x0.1,x0.2.1,x0.2.2)
def ik.fin (L:Mem)(au:Nat)(aq:Nat)(az:Nat)(s0:ae)(n0:Int)(r:Int × Int × ae)(s:St):Prop:=∃aB aC:Nat,aK Tryz.prog (s.open JB) Tryz.f34.results.toList=some (.tup [.i r.1,.i r.2.1])∧Has s.h ((au,.ob [.bool r.2.2.ay,.rs aB 0 r.2.2.aa.length 4,.rs aC 0 r.2.2.an.length 1])::(aB,.sl r.2.2.aa.length 4 (af.l r.2.2.aa))::(aC,.sl r.2.2.an.length 1 (ab.l r.2.2.an))::L)
def S34 (cf:CallF)(m:Nat):Prop:=∀(s0:ae) (n0:Int) (r:Int × Int × ae),ik.f m s0 n0=some r→∀h L (au:Nat) (aq:Nat) (az:Nat),Has h ((au,.ob [.bool s0.ay,.rs aq 0 s0.aa.length 4,.rs az 0 s0.an.length 1])::(aq,.sl s0.aa.length 4 (af.l s0.aa))::(az,.sl s0.an.length 1 (ab.l s0.an))::L)→∀xs,xs.map ba=[.ptr au 0,.i n0]→∃aB aC h',cf 34 xs h=some (.tup [.i r.1,.i r.2.1],h')∧Has h' ((au,.ob [.bool r.2.2.ay,.rs aB 0 r.2.2.aa.length 4,.rs aC 0 r.2.2.an.length 1])::(aB,.sl r.2.2.aa.length 4 (af.l r.2.2.aa))::(aC,.sl r.2.2.an.length 1 (ab.l r.2.2.an))::L)
section
variable {cf:CallF}{m:Nat}
theorem sf {aW:FuncId→b4}(ha:aW 34=JB)(DL:Wa cf m)(aaK:S76 cf m)(s0:ae)(n0:Int)(h:AHeap)(L:Mem)(au:Nat)(aq:Nat)(az:Nat)  (o:Has h ((au,.ob [.bool s0.ay,.rs aq 0 s0.aa.length 4,.rs az 0 s0.an.length 1])::(aq,.sl s0.aa.length 4 (af.l s0.aa))::(az,.sl s0.an.length 1 (ab.l s0.an))::L)){out:Int × Int × ae}(H:ik.f m s0 n0=some out) :
  ∃r h',bj Tryz.prog aW cf m 34 [.ptr au 0,.i n0] h=some (r,h')∧∃aB aC:Nat,r = .tup [.i out.1,.i out.2.1]∧Has h' ((au,.ob [.bool out.2.2.ay,.rs aB 0 out.2.2.aa.length 4,.rs aC 0 out.2.2.an.length 1])::(aB,.sl out.2.2.aa.length 4 (af.l out.2.2.aa))::(aC,.sl out.2.2.an.length 1 (ab.l out.2.2.an))::L):=by
 refine aw (fn:=Tryz.f34) ha Tryz.func34 kr kr ?_
 refine aI (Q:=fun s=>ik.fin L au aq az s0 n0 out s) (fun _ _ ⟨h1,aB,aC,h2,h3⟩=>⟨h1,_,h2,aB,aC,rfl,h3⟩) ?_
 have H:_=some out:=H
 unfold ik.f at H
 show dE _ cf JB m _ ⟨.ptr au 0 :: .i n0::nc [],[],h⟩ _
 refine qq ?_
 obtain⟨aX,h0,e0,o0⟩:=ja (cs:=[.i n0]) o kr
 refine qr [.a 0 e0] <| qq ?_
 obtain⟨x0,e1,H⟩:=aP H
 obtain⟨b7,bT,h1,e2,o1⟩:=DL _ _ _ _ e1 h0 _ _ _ _ ((bI (bI (bI (bI o0 0) 3) 3) 3)) 76 [.ptr aX 0] [.fp [.i n0] 0] rfl (fun h' Ak  r hr hx=>aaK _ r hr h' Ak hx) (fun h' K' o'=>lC (ai (dM (q:=(K'.length+3)) o' (mg rfl) (ai (aU) (aD))) (aD))) (fun h_=>lC (ai (cV (pure_cons (jg) (pure_nil))) (aD))) [.ptr au 0,.fn 76 [.ptr aX 0],.agg [.i 1,.i n0,.str (ajg #[]),.nils]] (fy (rfl) (fy (rfl) (fy (lR (nG (b5 (ig) (b5 (ig) (b5 (pV) (b5 (ou (E:=ab)) (jR))))))) cq)))
 refine qr [.v 2 (show bR Tryz.prog h0 3 (.ptr aX 0)=some (.i n0) from cJ (q:=0) (cs:=[.i n0]) o0 rfl kr),.a 4 e2] ?_
 have o2:Has h1 ((au,.ob [.bool x0.2.2.ay,.rs b7 0 x0.2.2.aa.length 4,.rs bT 0 x0.2.2.an.length 1])::(b7,.sl x0.2.2.aa.length 4 (af.l x0.2.2.aa))::(bT,.sl x0.2.2.an.length 1 (ab.l x0.2.2.an))::L):=iC o1 3
 obtain rfl:=oi H
 exact qt <| ⟨.inl rfl,⟨b7,bT,kr,he o2⟩⟩
end
def JC:b4:=gL [0,1,4,5,8,12] [] [60,44,51,28,51,51] [] []
def gA.f (m:Nat)(s0:aj)(n0:Int):Option (Int × Int):=(ca.f m s0).bind fun x0=>if (!x0)=true then (some (0,6)) else ((cU.f m s0 n0).bind fun x1=>if (!x1)=true then (some (0,1)) else ((ix s0.ao n0).bind fun v0=>some (v0,0)))
def gA.fin (L:Mem)(r:Int × Int)(s:St):Prop:=∃av,aK Tryz.prog (s.open JC) Tryz.f52.results.toList=some av∧eX s.h av (.tup [.i r.1,.i r.2])
def S52 (cf:CallF)(m:Nat):Prop:=∀(s0:aj) (n0:Int) (r:Int × Int),gA.f m s0 n0=some r→∀h xs,bl cd h xs [.fp [af.fz s0.ah,ab.fz s0.ao,.bool s0.aE] 0,.i n0]→cf 52 xs h=some (.tup [.i r.1,.i r.2],h)
section
variable {cf:CallF}{m:Nat}
theorem sh {aW:FuncId→b4}(ha:aW 52=JC)(qh:N4 cf m)(uk:UC cf m)(s0:aj)(n0:Int)(h:AHeap)(L:Mem)  (o:Has h (L)){out:Int × Int}(H:gA.f m s0 n0=some out) :
  ∃r h',bj Tryz.prog aW cf m 52 [.fp [af.fz s0.ah,ab.fz s0.ao,.bool s0.aE] 0,.i n0] h=some (r,h')∧eX h' r (.tup [.i out.1,.i out.2]):=by
 refine aw (fn:=Tryz.f52) ha Tryz.func52 kr kr ?_
 refine aI (Q:=fun s=>gA.fin L out s) (fun _ _ h=>h) ?_
 have H:_=some out:=H
 unfold gA.f at H
 show dE _ cf JC m _ ⟨.fp [af.fz s0.ah,ab.fz s0.ao,.bool s0.aE] 0 :: .i n0::l9 [],[],h⟩ _
 refine q1 <| qq <| qq ?_
 obtain⟨x0,e0,H⟩:=aP H
 refine qr [.a 1 (qh _ _ e0 h _ (ia (ai (cV (pure_cons (bM.aJ (E:=af) (l:=s0.ah)) (pure_cons (bM.aJ (E:=ab) (l:=s0.ao)) (pure_cons (bc) (pure_nil))))) (aD))))] <| qc H (fun c0 H=>?_) (fun c0 H=>?_)
 ·obtain rfl:=oi H
  exact q1 <| qt <| ⟨.inl rfl,pX (.tup [.i 0,.i 6]) h (oR (kN (de (fw) (de (fw) (kM)))))⟩
 ·refine qk <| qq <| qq ?_
  obtain⟨x1,e1,H⟩:=aP H
  refine qr [.a 2 (uk _ _ _ e1 h _ (ia (ai (cV (pure_cons (bM.aJ (E:=af) (l:=s0.ah)) (pure_cons (bM.aJ (E:=ab) (l:=s0.ao)) (pure_cons (bc) (pure_nil))))) (ai (aU) (aD)))))] <| qc H (fun c1 H=>?_) (fun c1 H=>?_)
  ·obtain rfl:=oi H
   exact q1 <| qt <| ⟨.inl rfl,pX (.tup [.i 0,.i 1]) h (oR (kN (de (fw) (de (fw) (kM)))))⟩
  ·refine qk <| qq ?_
   obtain⟨v0,e2,H⟩:=aP H
   obtain rfl:=oi H
   exact qr [.v 5 (bN (k:=.i64) (E:=ab) (l:=s0.ao) da e2),.v 6 (cO  (E:=ab) (l:=s0.ao) h A3 e2 rfl)] <| qt <| ⟨.inl rfl,pX (.tup [.i v0,.i 0]) h (oR (kN (de (fw) (de (fw) (kM)))))⟩
end
def JD:b4:=gL [0,1,4,5,8,13] [4] [56,40,51,24,51,51] [] []
def fh.f (m:Nat)(s0:aj)(n0:Int):Option (ak × Int):=(ca.f m s0).bind fun x0=>if (!x0)=true then (some ((ak.mk 0 0 (ajg #[]) ([])),6)) else ((cU.f m s0 n0).bind fun x1=>if (!x1)=true then (some ((ak.mk 0 0 (ajg #[]) ([])),1)) else ((bJ.f m s0 n0).bind fun x2=>some (x2,0)))
def fh.fin (L:Mem)(r:ak × Int)(s:St):Prop:=∃av,aK Tryz.prog (s.open JD) Tryz.f54.results.toList=some av∧Hy s.h av (.tup [.agg [.i r.1.kind,.i r.1.int,.str r.1.label,ab.fz r.1.args],.i r.2])
def S54 (cf:CallF)(m:Nat):Prop:=∀(s0:aj) (n0:Int) (r:ak × Int),fh.f m s0 n0=some r→∀h xs,tC xs [.fp [af.fz s0.ah,ab.fz s0.ao,.bool s0.aE] 0,.i n0]→cf 54 xs h=some (.tup [.agg [.i r.1.kind,.i r.1.int,.str r.1.label,ab.fz r.1.args],.i r.2],h)
section
variable {cf:CallF}{m:Nat}
theorem qn {aW:FuncId→b4}(ha:aW 54=JD)(qh:N4 cf m)(uk:UC cf m)(Dy:Wb cf m)(s0:aj)(n0:Int)(h:AHeap)(L:Mem)  (o:Has h (L)){out:ak × Int}(H:fh.f m s0 n0=some out) :
  ∃r h',bj Tryz.prog aW cf m 54 [.fp [af.fz s0.ah,ab.fz s0.ao,.bool s0.aE] 0,.i n0] h=some (r,h')∧Hy h' r (.tup [.agg [.i out.1.kind,.i out.1.int,.str out.1.label,ab.fz out.1.args],.i out.2]):=by
 refine aw (fn:=Tryz.f54) ha Tryz.func54 kr kr ?_
 refine aI (Q:=fun s=>fh.fin L out s) (fun _ _ h=>h) ?_
 have H:_=some out:=H
 unfold fh.f at H
 show dE _ cf JD m _ ⟨.fp [af.fz s0.ah,ab.fz s0.ao,.bool s0.aE] 0 :: .i n0::l9 [],[none],h⟩ _
 refine q1 <| qq <| qq ?_
 obtain⟨x0,e0,H⟩:=aP H
 refine qr [.a 1 (qh _ _ e0 h _ (ia (ai (cV (pure_cons (bM.aJ (E:=af) (l:=s0.ah)) (pure_cons (bM.aJ (E:=ab) (l:=s0.ao)) (pure_cons (bc) (pure_nil))))) (aD))))] <| qc H (fun c0 H=>?_) (fun c0 H=>?_)
 ·obtain rfl:=oi H
  exact q1 <| qt <| ⟨.inl rfl,Qi (.tup [.agg [.i 0,.i 0,.str (ajg #[]),.nils],.i 6]) h (CO (pU (ai (eJ (ai (aU) (ai (aU) (ai (iB) (ai (va) (aD)))))) (ai (aU) (aD)))))⟩
 ·refine qk <| qq <| qq ?_
  obtain⟨x1,e1,H⟩:=aP H
  refine qr [.a 2 (uk _ _ _ e1 h _ (ia (ai (cV (pure_cons (bM.aJ (E:=af) (l:=s0.ah)) (pure_cons (bM.aJ (E:=ab) (l:=s0.ao)) (pure_cons (bc) (pure_nil))))) (ai (aU) (aD)))))] <| qc H (fun c1 H=>?_) (fun c1 H=>?_)
  ·obtain rfl:=oi H
   exact q1 <| qt <| ⟨.inl rfl,Qi (.tup [.agg [.i 0,.i 0,.str (ajg #[]),.nils],.i 1]) h (CO (pU (ai (eJ (ai (aU) (ai (aU) (ai (iB) (ai (va) (aD)))))) (ai (aU) (aD)))))⟩
  ·refine qk <| qq ?_
   obtain⟨x2,e2,H⟩:=aP H
   obtain rfl:=oi H
   exact qr [.a 2 (Dy _ _ _ e2 h _ (b5 (Fs (pure_cons (bM.aJ (E:=af) (l:=s0.ah)) (pure_cons (bM.aJ (E:=ab) (l:=s0.ao)) (pure_cons (bc) (pure_nil))))) (b5 (ig) (jR))))] <| qt <| ⟨.inl rfl,Qi (.tup [.agg [.i x2.kind,.i x2.int,.str x2.label,ab.fz x2.args],.i 0]) h (CO (pU (ai (eJ (ai (aU) (ai (aU) (ai (iB) (ai (iu) (aD)))))) (ai (aU) (aD)))))⟩
end
def Ca:b4:=gL [0,1,4,5,6,7,8,9,10,13,17,30,54,60] [] [16380,15868,16371,15356,16371,16366,16334,16270,14222,16270,16270,16223,15967,11871,15967,7775,15967,16371] [] [(11,[(9,none,1)])]
def bk.l0 (m:Nat)(s0:aj)(x2:(List Int)):Nat→(List Bool)→Int→Option ((List Bool) × Int)
 | 0,_,_=>none
 | k+1,dU,i0=>if (decide (i0<(x2.length:Int)))=true then ((ix x2 i0).bind fun v0=>(ix x2 i0).bind fun v1=>(ix s0.ah v1).bind fun v2=>(ix dU v0).bind fun v3=>bk.l0 m s0 x2 k (dU.set v0.toNat (v2.kind==0)) (i64.wrap (i0+1))) else (some ((dU,i0)))
def bk.l1 (m:Nat)(kL:List Bool):Nat→(List Int)→Int→Option ((List Int) × Int)
 | 0,_,_=>none
 | k+1,cM,i2=>if (decide (i2<(kL.length:Int)))=true then ((ix kL i2).bind fun v4=>if v4=true then ((app 8 cM ([i2])).bind fun x4=>bk.l1 m kL k x4 (i64.wrap (i2+1))) else (bk.l1 m kL k cM (i64.wrap (i2+1)))) else (some ((cM,i2)))
def bk.f (m:Nat)(s0:aj)(n0:Int):Option ((List Int) × Int):=(ca.f m s0).bind fun x0=>if (!x0)=true then (some ([],6)) else ((cU.f m s0 n0).bind fun x1=>if (!x1)=true then (some ([],1)) else ((aY.f m s0 n0).bind fun x2=>(sY 1 (s0.ah.length:Int) false).bind fun x3=>(bk.l0 m s0 x2 m x3 0).bind fun bp=>match bp with | (kL,i1)=>(bk.l1 m kL m ([]:List Int) 0).bind fun mI=>match mI with | (fU,i3)=>some (fU,0)))
def bk.fin (L:Mem)(r:(List Int) × Int)(s:St):Prop:=∃av,aK Tryz.prog (s.open Ca) Tryz.f56.results.toList=some av∧eX s.h av (.tup [ab.fz r.1,.i r.2])
def S56 (cf:CallF)(m:Nat):Prop:=∀(s0:aj) (n0:Int) (r:(List Int) × Int),bk.f m s0 n0=some r→∀h xs,bl cd h xs [.fp [af.fz s0.ah,ab.fz s0.ao,.bool s0.aE] 0,.i n0]→cf 56 xs h=some (.tup [ab.fz r.1,.i r.2],h)
section
variable {cf:CallF}{m:Nat}
theorem bk.cm (L:Mem)(s0:aj)(x2:(List Int))   : b9 Tryz.prog cf Ca m (sub [1,1,1,1,1,0,1,0,0] (bw Tryz.f56)) (fun k (σ:(List Bool) × Int)=>bk.l0 m s0 x2 k σ.1 σ.2) (fun σ s=>match σ with | (dU,i0)=>∃b7 h1,s=⟨.fp [af.fz s0.ah,ab.fz s0.ao,.bool s0.aE] 0::nc (ab.fz x2 :: .rs b7 0 dU.length 1 :: .i i0::B0 []),[],h1⟩∧Has h1 ((b7,.sl dU.length 1 (di.l dU))::L)) (fun out e s=>(e = .exit 0∧∃dU i0,(dU,i0)=out∧∃lH yh ud HQ b7 h1,s=⟨lH::nc (yh :: .rs b7 0 dU.length 1::ud::l9 [HQ,.any,.any]),[],h1⟩∧Has h1 ((b7,.sl dU.length 1 (di.l dU))::L))):=by
 refine jF (fun _=>rfl) ?_
 rintro k ⟨dU,i0⟩ s out ⟨b7,h1,rfl,o1⟩ H
 have H:bk.l0 m s0 x2 (k+1) dU i0=some out:=H
 refine qq <| qq <| q0 <| qc H (fun c2 H=>?_) (fun c2 H=>?_)
 ·refine qk <| qq <| qb 1 ?_
  obtain⟨v0,e5,H⟩:=aP H
  obtain⟨v1,e6,H⟩:=aP H
  obtain⟨v2,e7,H⟩:=aP H
  obtain⟨v3,e8,H⟩:=aP H
  obtain⟨h2,e9,o2⟩:=dD (P:=Tryz.prog) (tf:=4) (E:=di) (l:=dU) (q:=0) (v:=(v2.kind==0)) (x:=.bool (v2.kind==0)) o1 rfl Z4 e8 rfl rfl
  exact qr [.v 3 (bN (k:=.i64) (E:=ab) (l:=x2) da e5),.v 4 (cO  (E:=ab) (l:=x2) h1 A3 e5 rfl),.v 11 (bN (k:=.i64) (E:=ab) (l:=x2) da e6),.v 12 (cO  (E:=ab) (l:=x2) h1 A3 e6 rfl),.v 13 (bN (k:=.i64) (E:=af) (l:=s0.ah) lJ e7),.v 15 (kc  (E:=af) (l:=s0.ah) (off:=0) h1 A3 e7 rfl),.v 17 (aL (k:=.i64) (E:=di) (l:=dU) (q:=0) GY o1 rfl e8),.w 18 e9] <| q0 <| ⟨(dU.set v0.toNat (v2.kind==0),i64.wrap (i0+1)),⟨b7,h2,ld,(ow o2)⟩,H⟩
 ·exact qx 0 <| ⟨rfl,dU,i0,oi H,.fp [af.fz s0.ah,ab.fz s0.ao,.bool s0.aE] 0,ab.fz x2,.i i0,.bool (decide (i0<(x2.length:Int))),b7,h1,kr,o1⟩
theorem bk.iw (L:Mem)(bT:Nat)(kL:List Bool)(bT:Nat)   : b9 Tryz.prog cf Ca m (sub [1,1,1,1,1,1,1,0,1,0,0] (bw Tryz.f56)) (fun k (σ:(List Int) × Int)=>bk.l1 m kL k σ.1 σ.2) (fun σ s=>match σ with | (cM,i2)=>∃cK h4,s=⟨sO (.rs bT 0 kL.length 1 :: .any :: .rs cK 0 cM.length 1 :: .i i2::sO []),[],h4⟩∧Has h4 ((cK,.sl cM.length 1 (ab.l cM))::(bT,.sl kL.length 1 (di.l kL))::L)) (fun out e s=>(e = .exit 2∧∃cM i2,(cM,i2)=out∧∃wM oG UI cK h4,s=⟨sO (wM :: .any :: .rs cK 0 cM.length 1::oG::nc [UI,.any]),[],h4⟩∧Has h4 ((cK,.sl cM.length 1 (ab.l cM))::(bT,.sl kL.length 1 (di.l kL))::L))):=by
 refine jF (fun _=>rfl) ?_
 rintro k ⟨cM,i2⟩ s out ⟨cK,h4,rfl,o5⟩ H
 have H:bk.l1 m kL (k+1) cM i2=some out:=H
 refine qq <| qq <| q0 <| qc H (fun c3 H=>?_) (fun c3 H=>?_)
 ·refine qk <| qq <| qb 3 <| qq ?_
  obtain⟨v4,nH,H⟩:=aP H
  refine qr [.v 2 (aL (k:=.i64) (E:=di) (l:=kL) (q:=1) GY o5 rfl nH),.v 3 (bq  (E:=di) (l:=kL) (q:=1) o5 rfl A4 nH rfl)] <| qc H (fun c4 H=>?_) (fun c4 H=>?_)
  ·obtain⟨x4,oS,H⟩:=aP H
   obtain⟨dN,h5,rF,o6⟩:=eu (P:=Tryz.prog) (E:=ab) (l:=cM) (q:=0) (t2:=22) (x:=.fz [.i i2] 1 true) (l2:=([i2])) da o5 rfl kr rfl oS
   exact qr [.a 3 rF] <| q0 <| ⟨(x4,i64.wrap (i2+1)),⟨dN,h5,kr,o6⟩,H⟩
  ·exact qk <| q0 <| ⟨(cM,i64.wrap (i2+1)),⟨cK,h4,kr,o5⟩,H⟩
 ·exact qx 2 <| ⟨rfl,cM,i2,oi H,.rs bT 0 kL.length 1,.i i2,.bool (decide (i2<(kL.length:Int))),cK,h4,kr,o5⟩
theorem rj {aW:FuncId→b4}(ha:aW 56=Ca)(qh:N4 cf m)(uk:UC cf m)(UR:S93 cf m)(s0:aj)(n0:Int)(h:AHeap)(L:Mem)  (o:Has h (L)){out:(List Int) × Int}(H:bk.f m s0 n0=some out) :
  ∃r h',bj Tryz.prog aW cf m 56 [.fp [af.fz s0.ah,ab.fz s0.ao,.bool s0.aE] 0,.i n0] h=some (r,h')∧eX h' r (.tup [ab.fz out.1,.i out.2]):=by
 refine aw (fn:=Tryz.f56) ha Tryz.func56 kr kr ?_
 refine aI (Q:=fun s=>bk.fin L out s) (fun _ _ h=>h) ?_
 have H:_=some out:=H
 unfold bk.f at H
 show dE _ cf Ca m _ ⟨.fp [af.fz s0.ah,ab.fz s0.ao,.bool s0.aE] 0 :: .i n0::zN [],[],h⟩ _
 refine q1 <| qq <| qq ?_
 obtain⟨x0,e0,H⟩:=aP H
 refine qr [.a 1 (qh _ _ e0 h _ (ia (ai (cV (pure_cons (bM.aJ (E:=af) (l:=s0.ah)) (pure_cons (bM.aJ (E:=ab) (l:=s0.ao)) (pure_cons (bc) (pure_nil))))) (aD))))] <| qc H (fun c0 H=>?_) (fun c0 H=>?_)
 ·obtain rfl:=oi H
  exact q1 <| qt <| ⟨.inl rfl,pX (.tup [.nils,.i 6]) h (oR (kN (de (ot) (de (fw) (kM)))))⟩
 ·refine qk <| qq <| qq ?_
  obtain⟨x1,e1,H⟩:=aP H
  refine qr [.a 2 (uk _ _ _ e1 h _ (ia (ai (cV (pure_cons (bM.aJ (E:=af) (l:=s0.ah)) (pure_cons (bM.aJ (E:=ab) (l:=s0.ao)) (pure_cons (bc) (pure_nil))))) (ai (aU) (aD)))))] <| qc H (fun c1 H=>?_) (fun c1 H=>?_)
  ·obtain rfl:=oi H
   exact q1 <| qt <| ⟨.inl rfl,pX (.tup [.nils,.i 1]) h (oR (kN (de (ot) (de (fw) (kM)))))⟩
  ·refine qk <| qq ?_
   obtain⟨x2,e2,H⟩:=aP H
   refine qr [.a 2 (UR _ _ _ e2 h _ (ia (ai (cV (pure_cons (bM.aJ (E:=af) (l:=s0.ah)) (pure_cons (bM.aJ (E:=ab) (l:=s0.ao)) (pure_cons (bc) (pure_nil))))) (ai (aU) (aD)))))] <| qq ?_
   obtain⟨x3,e3,H⟩:=aP H
   obtain⟨aX,h0,e4,o0⟩:=nE (P:=Tryz.prog) (E:=di) (z:=false) (zv:=.bool false) GY o 4 rfl rfl rfl rfl e3
   refine qr [.a 5 e4] <| qq <| qq <| q0 <| qb 0 ?_
   obtain⟨bp,ma,H⟩:=aP H
   refine ql (bk.cm L s0 x2   (x3,0) _ _ ⟨aX,h0,kr,o0⟩ ma) ?_
   rintro e s ⟨rfl,kL,i1,rfl,g0,g1,g2,g3,bT,h3,rfl,o3⟩
   try dsimp only at H
   refine q1 ?_
   have o4:Has h3 (((0),.sl (([]:List Int).length) 1 (ab.l ([]:List Int)))::(bT,.sl kL.length 1 (di.l kL))::L):=Has.nil o3 1
   refine qq <| qq <| q0 <| qb 2 ?_
   obtain⟨mI,s7,H⟩:=aP H
   refine ql (bk.iw L bT kL bT   (([]:List Int),0) _ _ ⟨(0),h3,kr,o4⟩ s7) ?_
   rintro e s ⟨rfl,fU,i3,rfl,g4,g5,g6,gM,h6,rfl,o7⟩
   try dsimp only at H
   refine q1 ?_
   have o8:Has h6 ((gM,.sl fU.length 1 (ab.l fU))::L):=iC o7 1
   obtain rfl:=oi H
   exact qt <| ⟨.inl rfl,pX (.tup [.rs gM 0 fU.length 1,.i 0]) h6 (oR (kN (de (zI (E:=ab) (l:=fU) (q:=0) o8 rfl (fun _=>rfl)) (de (fw) (kM)))))⟩
end
def Cb:b4:=gL [0,1,2,3,4,5,6,20,25,39,48,69] [2,3] [4083,3955,4079,4051,3795,4051,3539,4079,3987,2963,3987,1939,4079,4079] [] []
def bW.l1 (m:Nat)(a0:bh)(b0:bh)(i0:Int):Nat→Int→Option (Sum Bool (Int))
 | 0,_=>none
 | k+1,k0=>(ix a0.nodes i0).bind fun v2=>if (decide (k0<(v2.args.length:Int)))=true then ((ix a0.nodes i0).bind fun v3=>(ix v3.args k0).bind fun v4=>(ix b0.nodes i0).bind fun v5=>(ix v5.args k0).bind fun v6=>if (!(v4==v6))=true then (some (.inl false)) else (bW.l1 m a0 b0 i0 k (i64.wrap (k0+1)))) else (some (.inr k0))
def bW.l0 (m:Nat)(a0:bh)(b0:bh):Nat→Int→Option (Sum Bool (Int))
 | 0,_=>none
 | k+1,i0=>if (decide (i0<(a0.nodes.length:Int)))=true then ((ix a0.nodes i0).bind fun v0=>(ix b0.nodes i0).bind fun v1=>(gz.f m v0 v1).bind fun x0=>if (!x0)=true then (some (.inl false)) else ((bW.l1 m a0 b0 i0 m 0).bind fun bp=>match bp with | .inl r0=>some (.inl r0) | .inr k1=>bW.l0 m a0 b0 k (i64.wrap (i0+1)))) else (some (.inr i0))
def bW.f (m:Nat)(a0:bh)(b0:bh):Option (Bool):=if (!(a0.root==b0.root))=true then (some false) else (if (!((a0.nodes.length:Int)==(b0.nodes.length:Int)))=true then (some false) else ((bW.l0 m a0 b0 m 0).bind fun cM=>match cM with | .inl r1=>some r1 | .inr i1=>some true))
def bW.fin (L:Mem)(r:Bool)(s:St):Prop:=∃av,aK Tryz.prog (s.open Cb) Tryz.f57.results.toList=some av∧eX s.h av (.bool r)
def S57 (cf:CallF)(m:Nat):Prop:=∀(a0:bh) (b0:bh) (r:Bool),bW.f m a0 b0=some r→∀h xs,bl cd h xs [.agg [af.fz a0.nodes,.i a0.root],.agg [af.fz b0.nodes,.i b0.root]]→cf 57 xs h=some (.bool r,h)
section
variable {cf:CallF}{m:Nat}
theorem bW.iw (L:Mem)(a0:bh)(b0:bh)(i0:Int)   : b9 Tryz.prog cf Cb m (sub [1,1,0,1,0,0,1,0,0,1,1,0,0] (bw Tryz.f57)) (fun k (σ:Int)=>bW.l1 m a0 b0 i0 k σ) (fun σ s=>match σ with | k0=>∃h1,s=⟨.any :: .any :: .lp 2 0 :: .lp 3 0 :: .any :: .i i0 :: .i k0::sO [],[some [af.fz a0.nodes,.i a0.root],some [af.fz b0.nodes,.i b0.root]],h1⟩∧Has h1 (L)) (fun out e s=>(e = .exit 2∧∃k0,.inr k0=out∧∃yh US h1,s=⟨.any :: .any :: .lp 2 0 :: .lp 3 0 :: .any :: .i i0::yh::nc [US,.any],[some [af.fz a0.nodes,.i a0.root],some [af.fz b0.nodes,.i b0.root]],h1⟩∧Has h1 (L))∨(e = .ret∧∃r,.inl r=out∧bW.fin L r s)):=by
 refine jF (fun _=>rfl) ?_
 rintro k k0 s out ⟨h1,rfl,o1⟩ H
 have H:bW.l1 m a0 b0 i0 (k+1) k0=some out:=H
 refine qq <| qq ?_
 obtain⟨v2,e3,H⟩:=aP H
 refine qr [.v 4 (bN (k:=.i64) (E:=af) (l:=a0.nodes) lJ e3),.v 6 (kc  (E:=af) (l:=a0.nodes) (off:=3) h1 Qj e3 rfl)] <| qc H (fun c5 H=>?_) (fun c5 H=>?_)
 ·refine qk <| qq <| qb 3 <| qq ?_
  obtain⟨v3,e4,H⟩:=aP H
  obtain⟨v4,e5,H⟩:=aP H
  obtain⟨v5,e6,H⟩:=aP H
  obtain⟨v6,e7,H⟩:=aP H
  refine qr [.v 3 (bN (k:=.i64) (E:=af) (l:=a0.nodes) lJ e4),.v 5 (kc  (E:=af) (l:=a0.nodes) (off:=3) h1 Qj e4 rfl),.v 7 (bN (k:=.i64) (E:=ab) (l:=v3.args) da e5),.v 8 (cO  (E:=ab) (l:=v3.args) h1 A3 e5 rfl),.v 12 (bN (k:=.i64) (E:=af) (l:=b0.nodes) lJ e6),.v 14 (kc  (E:=af) (l:=b0.nodes) (off:=3) h1 Qj e6 rfl),.v 16 (bN (k:=.i64) (E:=ab) (l:=v5.args) da e7),.v 17 (cO  (E:=ab) (l:=v5.args) h1 A3 e7 rfl)] <| qc H (fun c6 H=>?_) (fun c6 H=>?_)
  ·exact q1 <| qt <| ajW (⟨rfl,_,oi H,pX (.bool false) h1 (oR (jh))⟩)
  ·exact qk <| q0 <| ⟨i64.wrap (k0+1),⟨h1,kr,o1⟩,H⟩
 ·exact qx 2 <| akl (⟨rfl,k0,oi H,.i k0,.bool (decide (k0<(v2.args.length:Int))),h1,kr,o1⟩)
theorem bW.cm (L:Mem)(a0:bh)(b0:bh)  (vo:S4 cf m):b9 Tryz.prog cf Cb m (sub [1,1,0,1,0,0] (bw Tryz.f57)) (fun k (σ:Int)=>bW.l0 m a0 b0 k σ) (fun σ s=>match σ with | i0=>∃h0,s=⟨.any :: .any :: .lp 2 0 :: .lp 3 0 :: .any :: .i i0::wF [],[some [af.fz a0.nodes,.i a0.root],some [af.fz b0.nodes,.i b0.root]],h0⟩∧Has h0 (L)) (fun out e s=>(e = .exit 0∧∃i0,.inr i0=out∧∃LM Br z8 UD XE b3_ h0,s=⟨.any :: .any::LM::Br :: .any::z8 :: .any :: .any::UD::nc [],[XE,b3_],h0⟩∧Has h0 (L))∨(e = .ret∧∃r,.inl r=out∧bW.fin L r s)):=by
 refine jF (fun _=>rfl) ?_
 rintro k i0 s out ⟨h0,rfl,o0⟩ H
 have H:bW.l0 m a0 b0 (k+1) i0=some out:=H
 refine qq <| qq <| q0 <| qc H (fun c3 H=>?_) (fun c3 H=>?_)
 ·refine qk <| qq <| qb 1 <| qq <| qq ?_
  obtain⟨v0,e0,H⟩:=aP H
  obtain⟨v1,e1,H⟩:=aP H
  obtain⟨x0,e2,H⟩:=aP H
  refine qr [.v 3 (bN (k:=.i64) (E:=af) (l:=a0.nodes) lJ e0),.v 4 (fZ  (E:=af) (l:=a0.nodes) h0 tE tF e0),.v 8 (bN (k:=.i64) (E:=af) (l:=b0.nodes) lJ e1),.v 9 (fZ  (E:=af) (l:=b0.nodes) h0 tE tF e1),.a 10 (vo _ _ _ e2 h0 _ fq)] <| qc H (fun c4 H=>?_) (fun c4 H=>?_)
  ·exact q1 <| qt <| ajW (⟨rfl,_,oi H,pX (.bool false) h0 (oR (jh))⟩)
  ·refine qk <| qq <| q0 <| qb 2 ?_
   obtain⟨bp,e8,H⟩:=aP H
   refine ql (bW.iw L a0 b0 i0   0 _ _ ⟨h0,kr,o0⟩ e8) ?_
   rintro e s (⟨rfl,k1,rfl,g0,g1,h2,rfl,o2⟩| ⟨rfl,r0,rfl,r9⟩)
   ·try dsimp only at H
    exact q0 <| ⟨i64.wrap (i0+1),⟨h2,kr,o2⟩,H⟩
   ·try dsimp only at H
    exact ajW (⟨rfl,_,oi H,r9⟩)
 ·exact qx 0 <| akl (⟨rfl,i0,oi H,.lp 2 0,.lp 3 0,.i i0,.bool (decide (i0<(a0.nodes.length:Int))),some [af.fz a0.nodes,.i a0.root],some [af.fz b0.nodes,.i b0.root],h0,kr,o0⟩)
theorem wY {aW:FuncId→b4}(ha:aW 57=Cb)(vo:S4 cf m)(a0:bh)(b0:bh)(h:AHeap)(L:Mem)  (o:Has h (L)){out:Bool}(H:bW.f m a0 b0=some out) :
  ∃r h',bj Tryz.prog aW cf m 57 [.agg [af.fz a0.nodes,.i a0.root],.agg [af.fz b0.nodes,.i b0.root]] h=some (r,h')∧eX h' r (.bool out):=by
 refine aw (fn:=Tryz.f57) ha Tryz.func57 kr kr ?_
 refine aI (Q:=fun s=>bW.fin L out s) (fun _ _ h=>h) ?_
 have H:_=some out:=H
 unfold bW.f at H
 show dE _ cf Cb m _ ⟨.agg [af.fz a0.nodes,.i a0.root] :: .agg [af.fz b0.nodes,.i b0.root]::wG [],[none,none],h⟩ _
 refine q1 <| qq <| qq ?_
 rcases eV H with⟨c0,H⟩| ⟨c0,H⟩
 ·exact qr [.b 5 c0] <| Bb <| qq <| q0 <| qt <| fB H
 ·refine qr [.b 5 c0] <| qc H (fun c2 H=>?_) (fun c2 H=>?_)
  ·exact q1 <| qt <| fB H
  ·refine qk <| qq <| qq <| q0 <| qb 0 ?_
   obtain⟨cM,e9,H⟩:=aP H
   refine ql (bW.cm L a0 b0  vo 0 _ _ ⟨h,kr,o⟩ e9) ?_
   rintro e s (⟨rfl,i1,rfl,g2,g3,g4,g5,g6,g7,h3,rfl,o3⟩| ⟨rfl,r1,rfl,hf1⟩)
   ·try dsimp only at H
    exact q1 <| qt <| fB H
   ·try dsimp only at H
    obtain rfl:=oi H
    exact⟨.inl rfl,hf1⟩
end
def Cc:b4:=gL [0,1,4,5,6,7,9,10,23,36,37,38,39,48] [14] [16380,16374,16358,16326,16070,16326,12742,8646,12678,12614,4422,12614,12742,12742,16379] [] []
def a7.l1 (m:Nat)(s0:ae)(v2:ak):Nat→(List Int)→(List (Int × Bool))→Int→Option ((List Int) × (List (Int × Bool)) × Int)
 | 0,_,_,_=>none
 | k+1,cM,jq,x1=>if (decide (x1<(v2.args.length:Int)))=true then ((ix v2.args x1).bind fun v3=>(bK.f m s0 v3).bind fun x2=>if (!((Bq jq x2).1))=true then ((app 8 cM ([x2])).bind fun x3=>a7.l1 m s0 v2 k x3 (HG jq x2 true) (i64.wrap (x1+1))) else (a7.l1 m s0 v2 k cM jq (i64.wrap (x1+1)))) else (some ((cM,jq,x1)))
def a7.l0 (m:Nat)(s0:ae):Nat→(List Int)→(List (Int × Bool))→Int→Option ((List Int) × (List (Int × Bool)) × Int)
 | 0,_,_,_=>none
 | k+1,bp,gB,k0=>if (decide (k0<(bp.length:Int)))=true then ((ix bp k0).bind fun v1=>(ix s0.aa v1).bind fun v2=>(a7.l1 m s0 v2 m bp gB 0).bind fun mI=>match mI with | (fU,Oc,x4)=>a7.l0 m s0 k fU Oc (i64.wrap (k0+1))) else (some ((bp,gB,k0)))
def a7.f (m:Nat)(s0:ae)(n0:Int):Option ((List Int)):=(bK.f m s0 n0).bind fun x0=>(ix ([x0]) 0).bind fun v0=>(a7.l0 m s0 m ([x0]) (HG ([]:List (Int × Bool)) v0 true) 0).bind fun Al=>match Al with | (eK,XG,k1)=>some eK
def a7.fin (L:Mem)  (r:(List Int))(s:St):Prop:=∃cR:Nat,aK Tryz.prog (s.open Cc) Tryz.f60.results.toList=some (.rs cR 0 r.length 1)∧Has s.h ((cR,.sl r.length 1 (ab.l r))::L)
def S60 (cf:CallF)(m:Nat):Prop:=∀(s0:ae) (n0:Int) (r:(List Int)),a7.f m s0 n0=some r→∀h L xs,Has h L→bl cd h xs [.fp [.bool s0.ay,af.fz s0.aa,ab.fz s0.an] 0,.i n0]→∃cR h',cf 60 xs h=some (.rs cR 0 r.length 1,h')∧Has h' ((cR,.sl r.length 1 (ab.l r))::L)∧∀j,j<h.next→h.ver j=h'.ver j
section
variable {cf:CallF}{m:Nat}
theorem a7.iw (L:Mem)(s0:ae)(b7:Nat)(k0:Int)(v2:ak)  (qo:Qk cf m):b9 Tryz.prog cf Cc m (sub [1,1,1,0,1,0,0,1,0,0,1,0,0] (bw Tryz.f60)) (fun k (σ:(List Int) × (List (Int × Bool)) × Int)=>a7.l1 m s0 v2 k σ.1 σ.2.1 σ.2.2) (fun σ s=>match σ with | (cM,jq,x1)=>∃cK h4,s=⟨.fp [.bool s0.ay,af.fz s0.aa,ab.fz s0.an] 0 :: .any :: .any :: .rs cK 0 cM.length 1 :: .mp b7 :: .i k0::nc [ab.fz v2.args,.i (v2.args.length:Int),.i x1,.any,.any],[none],h4⟩∧Has h4 ((b7,.mp (Jf jq))::(cK,.sl cM.length 1 (ab.l cM))::L)) (fun out e s=>(e = .exit 2∧∃cM jq x1,(cM,jq,x1)=out∧∃UT HR HS HT cK h4,s=⟨.fp [.bool s0.ay,af.fz s0.aa,ab.fz s0.an] 0 :: .any :: .any :: .rs cK 0 cM.length 1 :: .mp b7 :: .i k0::nc [UT,HR,HS,HT,.any],[none],h4⟩∧Has h4 ((b7,.mp (Jf jq))::(cK,.sl cM.length 1 (ab.l cM))::L))):=by
 refine jF (fun _=>rfl) ?_
 rintro k ⟨cM,jq,x1⟩ s out ⟨cK,h4,rfl,o4⟩ H
 have H:a7.l1 m s0 v2 (k+1) cM jq x1=some out:=H
 refine q1 <| qq <| qc H (fun c1 H=>?_) (fun c1 H=>?_)
 ·refine qk <| qq <| qb 3 <| qq ?_
  obtain⟨v3,e7,H⟩:=aP H
  refine qr [.v 0 (bN (k:=.i64) (E:=ab) (l:=v2.args) da e7),.v 1 (cO  (E:=ab) (l:=v2.args) h4 A3 e7 rfl)] <| qq ?_
  obtain⟨x2,e8,H⟩:=aP H
  refine qr [.a 2 (qo _ _ _ e8 h4 _ (ia (ai (cV (pure_cons (bc) (pure_cons (bM.aJ (E:=af) (l:=s0.aa)) (pure_cons (bM.aJ (E:=ab) (l:=s0.an)) (pure_nil))))) (ai (aU) (aD)))))] <| qq <| qr [.v 2 (show hZ Tryz.prog h4 100 (.mp b7) (.i x2) false=some (.bool ((Bq jq x2).1)) from (aar (q:=0) (l:=jq) (k:=x2) N1 o4 rfl).2)] <| qc H (fun c2 H=>?_) (fun c2 H=>?_)
  ·refine qq ?_
   obtain⟨h5,e9,o5⟩:=Xq (q:=0) (l:=jq) (k:=x2) (v:=true) N1 o4 rfl
   refine qr [.w 2 e9] ?_
   obtain⟨x3,ma,H⟩:=aP H
   obtain⟨dN,h6,nH,o6⟩:=eu (P:=Tryz.prog) (E:=ab) (l:=cM) (q:=1) (t2:=22) (x:=.fz [.i x2] 1 true) (l2:=([x2])) da o5 rfl kr rfl ma
   exact qr [.a 3 nH] <| q0 <| ⟨(x3,HG jq x2 true,i64.wrap (x1+1)),⟨dN,h6,kr,o6⟩,H⟩
  ·exact qk <| q0 <| ⟨(cM,jq,i64.wrap (x1+1)),⟨cK,h4,kr,o4⟩,H⟩
 ·exact qx 2 <| ⟨rfl,cM,jq,x1,oi H,ab.fz v2.args,.i (v2.args.length:Int),.i x1,.bool (decide (x1<(v2.args.length:Int))),cK,h4,kr,o4⟩
theorem a7.cm (L:Mem)(s0:ae)(b7:Nat)  (qo:Qk cf m):b9 Tryz.prog cf Cc m (sub [1,1,1,0,1,0,0] (bw Tryz.f60)) (fun k (σ:(List Int) × (List (Int × Bool)) × Int)=>a7.l0 m s0 k σ.1 σ.2.1 σ.2.2) (fun σ s=>match σ with | (bp,gB,k0)=>∃bT h3,s=⟨.fp [.bool s0.ay,af.fz s0.aa,ab.fz s0.an] 0 :: .any :: .any :: .rs bT 0 bp.length 1 :: .mp b7 :: .i k0::tX [],[none],h3⟩∧Has h3 ((b7,.mp (Jf gB))::(bT,.sl bp.length 1 (ab.l bp))::L)) (fun out e s=>(e = .exit 0∧∃bp gB k0,(bp,gB,k0)=out∧∃lH yh wM HP bT h3,s=⟨lH :: .any :: .any :: .rs bT 0 bp.length 1::yh::wM :: .any :: .any::HP::sO [],[none],h3⟩∧Has h3 ((b7,.mp (Jf gB))::(bT,.sl bp.length 1 (ab.l bp))::L))):=by
 refine jF (fun _=>rfl) ?_
 rintro k ⟨bp,gB,k0⟩ s out ⟨bT,h3,rfl,o3⟩ H
 have H:a7.l0 m s0 (k+1) bp gB k0=some out:=H
 refine qq <| qq <| q0 <| qc H (fun c0 H=>?_) (fun c0 H=>?_)
 ·refine qk <| qq <| qb 1 <| qq ?_
  obtain⟨v1,e5,H⟩:=aP H
  obtain⟨v2,e6,H⟩:=aP H
  refine qr [.v 6 (aL (k:=.i64) (E:=ab) (l:=bp) (q:=1) da o3 rfl e5),.v 7 (bq  (E:=ab) (l:=bp) (q:=1) o3 rfl A3 e5 rfl),.v 8 (bN (k:=.i64) (E:=af) (l:=s0.aa) lJ e6),.v 10 (kc  (E:=af) (l:=s0.aa) (off:=3) h3 Qj e6 rfl)] <| qb 2 ?_
  obtain⟨mI,oS,H⟩:=aP H
  refine ql (a7.iw L s0 b7 k0 v2  qo (bp,gB,0) _ _ ⟨bT,h3,kr,o3⟩ oS) ?_
  rintro e s ⟨rfl,fU,Oc,x4,rfl,g0,g1,g2,g3,gM,h7,rfl,o7⟩
  try dsimp only at H
  exact q0 <| ⟨(fU,Oc,i64.wrap (k0+1)),⟨gM,h7,kr,o7⟩,H⟩
 ·exact qx 0 <| ⟨rfl,bp,gB,k0,oi H,.fp [.bool s0.ay,af.fz s0.aa,ab.fz s0.an] 0,.mp b7,.i k0,.bool (decide (k0<(bp.length:Int))),bT,h3,kr,o3⟩
theorem qp {aW:FuncId→b4}(ha:aW 60=Cc)(qo:Qk cf m)(s0:ae)(n0:Int)(h:AHeap)(L:Mem)  (o:Has h (L)){out:(List Int)}(H:a7.f m s0 n0=some out) :
  ∃r h',bj Tryz.prog aW cf m 60 [.fp [.bool s0.ay,af.fz s0.aa,ab.fz s0.an] 0,.i n0] h=some (r,h')∧∃cR:Nat,r = .rs cR 0 out.length 1∧Has h' ((cR,.sl out.length 1 (ab.l out))::L):=by
 refine aw (fn:=Tryz.f60) ha Tryz.func60 kr kr ?_
 refine aI (Q:=fun s=>a7.fin L out s) (fun _ _ ⟨h1,cR,h2,h3⟩=>⟨h1,_,h2,cR,rfl,h3⟩) ?_
 have H:_=some out:=H
 unfold a7.f at H
 show dE _ cf Cc m _ ⟨.fp [.bool s0.ay,af.fz s0.aa,ab.fz s0.an] 0 :: .i n0::zN [],[none],h⟩ _
 refine q1 <| qq ?_
 obtain⟨x0,e0,H⟩:=aP H
 obtain⟨aX,h0,e1,o0⟩:=yT (E:=ab) (l:=[x0]) (cs:=[.i x0]) o kr
 refine qr [.a 2 (qo _ _ _ e0 h _ (ia (ai (cV (pure_cons (bc) (pure_cons (bM.aJ (E:=af) (l:=s0.aa)) (pure_cons (bM.aJ (E:=ab) (l:=s0.an)) (pure_nil))))) (ai (aU) (aD))))),.a 3 e1] <| qq ?_
 obtain⟨b7,h1,e2,o1⟩:=Dm o0
 obtain⟨v0,e3,H⟩:=aP H
 obtain⟨h2,e4,o2⟩:=Xq (q:=0) (l:=([]:List (Int × Bool))) (k:=v0) (v:=true) N1 o1 rfl
 refine qr [.m 0 e2,.v 2 (aL (k:=.i64) (E:=ab) (l:=([x0])) (q:=1) da o1 rfl e3),.v 3 (bq  (E:=ab) (l:=([x0])) (q:=1) o1 rfl A3 e3 rfl),.w 4 e4] <| qq <| qq <| q0 <| qb 0 ?_
 obtain⟨Al,rF,H⟩:=aP H
 refine ql (a7.cm L s0 b7  qo ([x0],HG ([]:List (Int × Bool)) v0 true,0) _ _ ⟨aX,h2,ld,(ow o2)⟩ rF) ?_
 rintro e s ⟨rfl,eK,XG,k1,rfl,g4,g5,g6,g7,iy,h8,rfl,o8⟩
 try dsimp only at H
 refine q1 ?_
 have o9:Has h8 ((iy,.sl eK.length 1 (ab.l eK))::L):=iC o8 0
 obtain rfl:=oi H
 exact qt <| ⟨.inl rfl,⟨iy,kr,he o9⟩⟩
end
end Go.Proofs.YtifafejidnjckaaGreat
