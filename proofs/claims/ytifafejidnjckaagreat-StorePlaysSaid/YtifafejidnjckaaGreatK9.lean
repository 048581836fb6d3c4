/- Part of the proof: Q61, Q63, Q64, Q68, Q70, Q77, Q83, Q84, Q86, Q90, Q100, Q108, Q111, Q122, Q123, Q124, Q127, Q129, Q135, Q136, Q143, Q147, Q148, Q44. -/
import Derived.Test.YtifafejidnjckaaGreatK8
set_option linter.unusedVariables false
set_option linter.unusedSimpArgs false
set_option maxRecDepth 100000
open ByteArray renaming mk → ajg
open List renaming append_assoc → ai7, nil_append → ajj, cons_append → ajv
open Or renaming inr → ajW, inl → akl
namespace Go.Proofs.YtifafejidnjckaaGreat
open Go Go.R
open Go.IntKind (i64 u64 u8 u32)
def FG:b4:=gL [0,1,4,5,6,7,20,21,22,23] [4,5] [1016,1010,1010,562,50,514,562,562,1019] [] [(0,[(4,some 3,1)])]
def bQ.l0 (m:Nat)(s0:ae)(x0:List Int):Nat→(List Int)→Int→Option ((List Int) × Int)
 | 0,_,_=>none
 | k+1,x1,x2=>if (decide (x2<(x0.length:Int)))=true then ((ix x1 x2).bind fun v1=>(bK.f m s0 v1).bind fun x3=>(ix x1 x2).bind fun v2=>bQ.l0 m s0 x0 k (x1.set x2.toNat x3) (i64.wrap (x2+1))) else (some ((x1,x2)))
def bQ.f (m:Nat)(s0:ae)(n0:Int):Option (ak):=(ix s0.aa n0).bind fun v0=>(GW 1 v0.args).bind fun x0=>(bQ.l0 m s0 x0 m x0 0).bind fun bp=>match bp with | (x4,x5)=>some (ak.mk v0.kind v0.int v0.label x4)
def bQ.fin (L:Mem)  (r:ak)(s:St):Prop:=∃cR:Nat,aK Tryz.prog (s.open FG) Tryz.f61.results.toList=some (.agg [.i r.kind,.i r.int,.str r.label,.rs cR 0 r.args.length 1])∧Has s.h ((cR,.sl r.args.length 1 (ab.l r.args))::L)
def Zf (cf:CallF)(m:Nat):Prop:=∀(s0:ae) (n0:Int) (r:ak),bQ.f m s0 n0=some r→∀h L xs,Has h L→bl cd h xs [.fp [.bool s0.ay,af.fz s0.aa,ab.fz s0.an] 0,.i n0]→∃cR h',cf 61 xs h=some (.agg [.i r.kind,.i r.int,.str r.label,.rs cR 0 r.args.length 1],h')∧Has h' ((cR,.sl r.args.length 1 (ab.l r.args))::L)∧∀j,j<h.next→h.ver j=h'.ver j
section
variable {cf:CallF}{m:Nat}
theorem bQ.cm (L:Mem)(s0:ae)(v0:ak)(x0:List Int)  (qo:Qk cf m):b9 Tryz.prog cf FG m (sub [1,1,1,0,1,0,0] (bw Tryz.f61)) (fun k (σ:(List Int) × Int)=>bQ.l0 m s0 x0 k σ.1 σ.2) (fun σ s=>match σ with | (x1,x2)=>∃b7 h1,s=⟨[.fp [.bool s0.ay,af.fz s0.aa,ab.fz s0.an] 0,.any,.lp 4 0,.lp 5 0,.any,.any,.rs b7 0 x1.length 1,.i (x0.length:Int),.i x2,.any],[some [.i 0,.i 0,.str (ajg #[]),.rs (0) 0 (([]:List Int).length) 1],some [.i v0.kind,.i v0.int,.str v0.label,.rs b7 0 x1.length 1]],h1⟩∧Has h1 ((b7,.sl x1.length 1 (ab.l x1))::((0),.sl (([]:List Int).length) 1 (ab.l ([]:List Int)))::L)) (fun out e s=>(e = .exit 0∧∃x1 x2,(x1,x2)=out∧∃lH UU UW Am HP b7 h1,s=⟨[lH,.any,.lp 4 0,.lp 5 0,.any,.any,UU,UW,Am,HP],[some [.i 0,.i 0,.str (ajg #[]),.rs (0) 0 (([]:List Int).length) 1],some [.i v0.kind,.i v0.int,.str v0.label,.rs b7 0 x1.length 1]],h1⟩∧Has h1 ((b7,.sl x1.length 1 (ab.l x1))::((0),.sl (([]:List Int).length) 1 (ab.l ([]:List Int)))::L))):=by
 refine jF (fun _=>rfl) ?_
 rintro k ⟨x1,x2⟩ s out ⟨b7,h1,rfl,o2⟩ H
 have H:bQ.l0 m s0 x0 (k+1) x1 x2=some out:=H
 refine q1 <| qq <| qc H (fun c0 H=>?_) (fun c0 H=>?_)
 ·refine qk <| qq <| qb 1 <| qq ?_
  obtain⟨v1,e3,H⟩:=aP H
  refine qr [.v 1 (aL (k:=.i64) (E:=ab) (l:=x1) (q:=0) da o2 rfl e3),.v 2 (bq  (E:=ab) (l:=x1) (q:=0) o2 rfl A3 e3 rfl)] ?_
  obtain⟨x3,e4,H⟩:=aP H
  obtain⟨v2,e5,H⟩:=aP H
  obtain⟨h2,e6,o3⟩:=dD (P:=Tryz.prog) (tf:=3) (E:=ab) (l:=x1) (q:=0) (v:=x3) (x:=.i x3) o2 rfl Z3 e5 rfl rfl
  exact qr [.a 5 (qo _ _ _ e4 h1 _ (ia (ai (cV (pure_cons (bc) (pure_cons (bM.aJ (E:=af) (l:=s0.aa)) (pure_cons (bM.aJ (E:=ab) (l:=s0.an)) (pure_nil))))) (ai (aU) (aD))))),.v 6 (aL (k:=.i64) (E:=ab) (l:=x1) (q:=0) da o2 rfl e5),.w 7 e6] <| q0 <| ⟨(x1.set x2.toNat x3,i64.wrap (x2+1)),⟨b7,h2,ld,(ow o3)⟩,H⟩
 ·exact qx 0 <| ⟨rfl,x1,x2,oi H,.fp [.bool s0.ay,af.fz s0.aa,ab.fz s0.an] 0,.rs b7 0 x1.length 1,.i (x0.length:Int),.i x2,.bool (decide (x2<(x0.length:Int))),b7,h1,kr,o2⟩
theorem qu {aW:FuncId→b4}(ha:aW 61=FG)(HO:Zb cf m)(qo:Qk cf m)(s0:ae)(n0:Int)(h:AHeap)(L:Mem)  (o:Has h (L)){out:ak}(H:bQ.f m s0 n0=some out) :
  ∃r h',bj Tryz.prog aW cf m 61 [.fp [.bool s0.ay,af.fz s0.aa,ab.fz s0.an] 0,.i n0] h=some (r,h')∧∃cR:Nat,r = .agg [.i out.kind,.i out.int,.str out.label,.rs cR 0 out.args.length 1]∧Has h' ((cR,.sl out.args.length 1 (ab.l out.args))::L):=by
 refine aw (fn:=Tryz.f61) ha Tryz.func61 kr kr ?_
 refine aI (Q:=fun s=>bQ.fin L out s) (fun _ _ ⟨h1,cR,h2,h3⟩=>⟨h1,_,h2,cR,rfl,h3⟩) ?_
 have H:_=some out:=H
 unfold bQ.f at H
 show dE _ cf FG m _ ⟨.fp [.bool s0.ay,af.fz s0.aa,ab.fz s0.an] 0 :: .i n0::tX [],[none,none],h⟩ _
 refine q1 ?_
 have o0:Has h (((0),.sl (([]:List Int).length) 1 (ab.l ([]:List Int)))::L):=Has.nil o 1
 refine qq ?_
 obtain⟨v0,e0,H⟩:=aP H
 refine qr [.v 5 (bN (k:=.i64) (E:=af) (l:=s0.aa) lJ e0),.v 6 (fZ  (E:=af) (l:=s0.aa) h tE tF e0)] <| qq ?_
 obtain⟨x0,e1,H⟩:=aP H
 obtain⟨aX,h0,e2,o1⟩:=SY (E:=ab) (l:=v0.args) HO o0 e1
 refine qr [.a 2 e2] <| qq <| qq <| q0 <| qb 0 ?_
 obtain⟨bp,e7,H⟩:=aP H
 refine ql (bQ.cm L s0 v0 x0  qo (x0,0) _ _ ⟨aX,h0,kr,o1⟩ e7) ?_
 rintro e s ⟨rfl,x4,x5,rfl,g0,g1,g2,g3,g4,bT,h3,rfl,o4⟩
 try dsimp only at H
 refine q1 ?_
 have o5:Has h3 ((bT,.sl x4.length 1 (ab.l x4))::L):=iC o4 1
 obtain rfl:=oi H
 exact qt <| ⟨.inl rfl,⟨bT,kr,he o5⟩⟩
end
def FH:b4:=gL [0,1,4,5,6,7,12,19,29] [] [508,500,436,507,484,356,484,452,196,484,484,502,507] [] []
def fQ.l0 (m:Nat)(s0:List Int)(oJ:Int→Option (Bool)):Nat→(List Int)→Int→Int→Option ((List Int) × Int × Int)
 | 0,_,_,_=>none
 | k+1,s1,i0,j0=>if (decide (j0<(s0.length:Int)))=true then ((ix s1 j0).bind fun v0=>(oJ v0).bind fun r0=>if (!r0)=true then ((ix s1 i0).bind fun v1=>fQ.l0 m s0 oJ k (s1.set i0.toNat v0) (i64.wrap (i0+1)) (i64.wrap (j0+1))) else (fQ.l0 m s0 oJ k s1 i0 (i64.wrap (j0+1)))) else (some ((s1,i0,j0)))
def fQ.f (m:Nat)(s0:List Int)(oJ:Int→Option (Bool)):Option ((List Int)):=(eO.f m s0 oJ).bind fun x0=>if (x0==(-1:Int))=true then (some s0) else ((fQ.l0 m s0 oJ m s0 x0 (i64.wrap (x0+1))).bind fun bp=>match bp with | (s2,i1,j1)=>(V7 s2 i1).bind fun v2=>(I4 v2 0 i1).bind fun v3=>some v3)
def fQ.fin (L:Mem)(aX:Nat)(s0:List Int)(oJ:Int→Option (Bool))(r:(List Int))(s:St):Prop:=aK Tryz.prog (s.open FH) Tryz.f63.results.toList=some (.rs aX 0 r.length 1)∧Has s.h ((aX,.sl r.length 1 (ab.l r))::L)
def S63 (cf:CallF)(m:Nat):Prop:=∀(s0:List Int) (oJ:Int→Option (Bool)) (r:(List Int)),fQ.f m s0 oJ=some r→∀h L (Ru:Nat) (aX:Nat),Has h ((aX,.sl Ru 1 (ab.l s0))::L)→∀(iP:FuncId) (bA dy:List AV),(ba (.fn iP bA) = .fn iP bA)→(∀(h:AHeap) (xs:List AV) (a0:Int) r,oJ a0=some r→bl cd h xs ([.i a0]++dy)→cf iP xs h=some (.bool r,h))→(∀h K,Has h (K++(L))→bl ez h bA dy)→(∀h,bl ez h dy dy)→∀xs,xs.map ba=[.rs aX 0 Ru 1,.fn iP bA]→∃h',cf 63 xs h=some (.rs aX 0 r.length 1,h')∧Has h' ((aX,.sl r.length 1 (ab.l r))::L)
section
variable {cf:CallF}{m:Nat}
theorem fQ.cm (L:Mem)(aX:Nat)(iP:FuncId)(bA dy:List AV)(s0:List Int)(oJ:Int→Option (Bool))  (Ab:ba (.fn iP bA) = .fn iP bA)(kG:∀(h:AHeap) (xs:List AV) (a0:Int) r,oJ a0=some r→bl cd h xs ([.i a0]++dy)→cf iP xs h=some (.bool r,h))(vi:∀h K,Has h (K++(L))→bl ez h bA dy)(kH:∀h,bl ez h dy dy)  : b9 Tryz.prog cf FH m (sub [1,1,1,0,1,0,0] (bw Tryz.f63)) (fun k (σ:(List Int) × Int × Int)=>fQ.l0 m s0 oJ k σ.1 σ.2.1 σ.2.2) (fun σ s=>match σ with | (s1,i0,j0)=>∃h0,s=⟨.rs aX 0 s0.length 1 :: .fn iP bA :: .any :: .i i0 :: .i j0::l9 [],[],h0⟩∧Has h0 ((aX,.sl s0.length 1 (ab.l s1))::L)) (fun out e s=>(e = .exit 0∧∃s1 i0 j0,(s1,i0,j0)=out∧∃wO yh Ob h0,s=⟨[.rs aX 0 s0.length 1,wO,.any,.i i0,yh,.any,.any,Ob,.any],[],h0⟩∧Has h0 ((aX,.sl s0.length 1 (ab.l s1))::L))):=by
 refine jF (fun _=>rfl) ?_
 rintro k ⟨s1,i0,j0⟩ s out ⟨h0,rfl,o0⟩ H
 have H:fQ.l0 m s0 oJ (k+1) s1 i0 j0=some out:=H
 refine qq <| qq <| q0 <| qc H (fun c1 H=>?_) (fun c1 H=>?_)
 ·refine qk <| qq <| qb 1 <| qq ?_
  obtain⟨v0,e1,H⟩:=aP H
  refine qr [.v 2 (aL (k:=.i64) (E:=ab) (l:=s1) (q:=0) da o0 rfl e1),.v 3 (bq  (E:=ab) (l:=s1) (q:=0) o0 rfl A3 e1 rfl)] <| qq ?_
  obtain⟨r0,e2,H⟩:=aP H
  refine qr [.a 2 (kG _ _ _ _ e2 (S3 (ai (aU) (aD)) (vi h0 [(aX,.sl s0.length 1 (ab.l s1))] o0)))] <| qc H (fun c2 H=>?_) (fun c2 H=>?_)
  ·refine qq ?_
   obtain⟨v1,e3,H⟩:=aP H
   obtain⟨h1,e4,o1⟩:=dD (P:=Tryz.prog) (tf:=3) (E:=ab) (l:=s1) (q:=0) (v:=v0) (x:=.i v0) o0 rfl Z3 e3 rfl rfl
   exact qr [.v 3 (aL (k:=.i64) (E:=ab) (l:=s1) (q:=0) da o0 rfl e3),.w 4 e4] <| q0 <| q0 <| ⟨(s1.set i0.toNat v0,i64.wrap (i0+1),i64.wrap (j0+1)),⟨h1,kr,o1⟩,H⟩
  ·exact qk <| q0 <| ⟨(s1,i0,i64.wrap (j0+1)),⟨h0,kr,o0⟩,H⟩
 ·exact qx 0 <| ⟨rfl,s1,i0,j0,oi H,.fn iP bA,.i j0,.bool (decide (j0<(s0.length:Int))),h0,kr,o0⟩
theorem Bs {aW:FuncId→b4}(ha:aW 63=FH)(UX:S98 cf m)(s0:List Int)(oJ:Int→Option (Bool))(h:AHeap)(L:Mem)(aX:Nat)(iP:FuncId)(bA dy:List AV)  (Ab:ba (.fn iP bA) = .fn iP bA)(kG:∀(h:AHeap) (xs:List AV) (a0:Int) r,oJ a0=some r→bl cd h xs ([.i a0]++dy)→cf iP xs h=some (.bool r,h))(vi:∀h K,Has h (K++(L))→bl ez h bA dy)(kH:∀h,bl ez h dy dy)(o:Has h ((aX,.sl s0.length 1 (ab.l s0))::L)){out:(List Int)}(H:fQ.f m s0 oJ=some out) :
  ∃r h',bj Tryz.prog aW cf m 63 [.rs aX 0 s0.length 1,.fn iP bA] h=some (r,h')∧r = .rs aX 0 out.length 1∧Has h' ((aX,.sl out.length 1 (ab.l out))::L):=by
 refine aw (fn:=Tryz.f63) ha Tryz.func63 kr kr ?_
 refine aI (Q:=fun s=>fQ.fin L aX s0 oJ out s) (fun _ _ ⟨h1,h2,h3⟩=>⟨h1,_,h2,rfl,h3⟩) ?_
 have H:_=some out:=H
 unfold fQ.f at H
 show dE _ cf FH m _ ⟨.rs aX 0 s0.length 1 :: .fn iP bA::B0 [],[],h⟩ _
 refine q1 <| qq ?_
 obtain⟨x0,e0,H⟩:=aP H
 refine qr [.a 2 (UX _ _ _ e0 iP dy kG kH h _ (ia (ai (cC (E:=ab) (l:=s0) (q:=0) o rfl (fun _=>rfl)) (ai (zW (vi h [(aX,.sl s0.length 1 (ab.l s0))] o)) (aD)))))] <| qq <| qq <| q0 <| qc H (fun c0 H=>?_) (fun c0 H=>?_)
 ·obtain rfl:=oi H
  exact q1 <| qt <| ⟨.inl rfl,⟨kr,he o⟩⟩
 ·refine qk <| qq <| qq <| q0 <| qb 0 ?_
  obtain⟨bp,e5,H⟩:=aP H
  refine ql (fQ.cm L aX iP bA dy s0 oJ  Ab kG vi kH  (s0,x0,i64.wrap (x0+1)) _ _ ⟨h,kr,o⟩ e5) ?_
  rintro e s ⟨rfl,s2,i1,j1,rfl,g0,g1,g2,h2,rfl,o2⟩
  try dsimp only at H
  refine qq ?_
  obtain⟨v2,e6,H⟩:=aP H
  obtain⟨h3,e7,o3⟩:=Uy (q:=0) (l:=s2) aau o2 rfl e6
  refine qr [.v 2 (Ux (E:=ab) (k:=.i64) (q:=0) (l:=s2) da o2 rfl (zV e6).1 (zV e6).2.1),.a 3 e7] <| qq ?_
  obtain⟨v3,e8,H⟩:=aP H
  obtain⟨UG,o4⟩:=Hz (P:=Tryz.prog) (k:=.i64) (E:=ab) (q:=0) o3 rfl da e8
  obtain rfl:=oi H
  exact qr [.v 2 UG] <| qt <| ⟨.inl rfl,⟨kr,he o4⟩⟩
end
def JE:b4:=gL [0,1,3] [] [4,3] [] []
def eP.f (m:Nat)(r0:Int)(x0:ae):Option (Bool):=(dt.f m x0 r0).bind fun x1=>some (!x1)
def eP.fin (L:Mem)(r:Bool)(s:St):Prop:=∃av,aK Tryz.prog (s.open JE) Tryz.f64.results.toList=some av∧eX s.h av (.bool r)
def S64 (cf:CallF)(m:Nat):Prop:=∀(r0:Int) (x0:ae) (r:Bool),eP.f m r0 x0=some r→∀h xs,bl cd h xs [.i r0,.fp [.fp [.bool x0.ay,af.fz x0.aa,ab.fz x0.an] 0] 0]→cf 64 xs h=some (.bool r,h)
section
variable {cf:CallF}{m:Nat}
theorem ph {aW:FuncId→b4}(ha:aW 64=JE)(HK:Zd cf m)(r0:Int)(x0:ae)(h:AHeap)(L:Mem)  (o:Has h (L)){out:Bool}(H:eP.f m r0 x0=some out) :
  ∃r h',bj Tryz.prog aW cf m 64 [.i r0,.fp [.fp [.bool x0.ay,af.fz x0.aa,ab.fz x0.an] 0] 0] h=some (r,h')∧eX h' r (.bool out):=by
 refine aw (fn:=Tryz.f64) ha Tryz.func64 kr kr ?_
 refine aI (Q:=fun s=>eP.fin L out s) (fun _ _ h=>h) ?_
 have H:_=some out:=H
 unfold eP.f at H
 show dE _ cf JE m _ ⟨[.i r0,.fp [.fp [.bool x0.ay,af.fz x0.aa,ab.fz x0.an] 0] 0,.any],[],h⟩ _
 refine q1 <| qq ?_
 obtain⟨x1,e0,H⟩:=aP H
 exact qr [.a 2 (HK _ _ _ e0 h _ (ia (ai (cV (pure_cons (bc) (pure_cons (bM.aJ (E:=af) (l:=x0.aa)) (pure_cons (bM.aJ (E:=ab) (l:=x0.an)) (pure_nil))))) (ai (aU) (aD)))))] <| qt <| fB H
end
def Cd:b4:=gL [0,1,2,6,7,8,9,10,11,12,13,14,22,46,70,73,77,78,79] [11,12,13,18] [524280,524248,524190,524062,519966,524062,523806,515614,522270,505886,489502,524263,325662,63518,323614,325662,325662,524062,524263] [] [(1,[(8,none,1)])]
def aQ.l1 (m:Nat)(v2:ak)(v3:ak):Nat→(List cy)→Int→ae→Option ((List cy) × Int × ae)
 | 0,_,_,_=>none
 | k+1,nJ,x3,s2=>if (decide (x3<(v2.args.length:Int)))=true then ((ix v2.args x3).bind fun v4=>(ix v3.args x3).bind fun v5=>(app 16 nJ ([(cy.mk v4 v5)])).bind fun x4=>aQ.l1 m v2 v3 k x4 (i64.wrap (x3+1)) s2) else (some ((nJ,x3,s2)))
def aQ.l0 (m:Nat)  : Nat→(List Int)→(List cy)→Int→ae→Option (Sum ((List Int) × Bool × ae) ((List Int) × (List cy) × Int × ae))
 | 0,_,_,_,_=>none
 | k+1,bf,jk,k0,s1=>if (decide (k0<(jk.length:Int)))=true then ((ix jk k0).bind fun v0=>(bK.f m s1 v0.nW).bind fun x0=>(ix jk k0).bind fun v1=>(bK.f m s1 v1.pE).bind fun x1=>if ((x0==x0)&&(x1==x0))=true then (aQ.l0 m k bf jk (i64.wrap (k0+1)) s1) else ((ix s1.aa x0).bind fun v2=>(ix s1.aa x1).bind fun v3=>if (!(v2.kind==0))=true then (if (!(v3.kind==0))=true then ((ji.f m v2 v3).bind fun x2=>if x2=true then (some (.inl (bf,false,s1))) else ((aQ.l1 m v2 v3 m jk 0 s1).bind fun bp=>match bp with | (Od,x5,s3)=>(ec.f m s3 x0 x1).bind fun x6=>(app 8 bf ([x6.1])).bind fun x7=>aQ.l0 m k x7 Od (i64.wrap (k0+1)) x6.2)) else ((ec.f m s1 x0 x1).bind fun x8=>(app 8 bf ([x8.1])).bind fun x9=>aQ.l0 m k x9 jk (i64.wrap (k0+1)) x8.2)) else ((ec.f m s1 x0 x1).bind fun mW=>(app 8 bf ([mW.1])).bind fun FD=>aQ.l0 m k FD jk (i64.wrap (k0+1)) mW.2))) else (some (.inr (bf,jk,k0,s1)))
def aQ.f (m:Nat)(s0:ae)(a0:Int)(b0:Int):Option ((List Int) × Bool × ae):=(aQ.l0 m m ([]:List Int) ([(cy.mk a0 b0)]) 0 s0).bind fun cM=>match cM with | .inl r0=>some r0 | .inr (vp,XH,k1,s4)=>some (vp,true,s4)
def aQ.fin (L:Mem)(au:Nat)(aq:Nat)(az:Nat)(s0:ae)(a0:Int)(b0:Int)(r:(List Int) × Bool × ae)(s:St):Prop:=∃cR aB aC:Nat,aK Tryz.prog (s.open Cd) Tryz.f68.results.toList=some (.tup [.rs cR 0 r.1.length 1,.bool r.2.1])∧Has s.h ((cR,.sl r.1.length 1 (ab.l r.1))::(au,.ob [.bool r.2.2.ay,.rs aB 0 r.2.2.aa.length 4,.rs aC 0 r.2.2.an.length 1])::(aB,.sl r.2.2.aa.length 4 (af.l r.2.2.aa))::(aC,.sl r.2.2.an.length 1 (ab.l r.2.2.an))::L)
def S68 (cf:CallF)(m:Nat):Prop:=∀(s0:ae) (a0:Int) (b0:Int) (r:(List Int) × Bool × ae),aQ.f m s0 a0 b0=some r→∀h L (au:Nat) (aq:Nat) (az:Nat),Has h ((au,.ob [.bool s0.ay,.rs aq 0 s0.aa.length 4,.rs az 0 s0.an.length 1])::(aq,.sl s0.aa.length 4 (af.l s0.aa))::(az,.sl s0.an.length 1 (ab.l s0.an))::L)→∀xs,xs.map ba=[.ptr au 0,.i a0,.i b0]→∃cR aB aC h',cf 68 xs h=some (.tup [.rs cR 0 r.1.length 1,.bool r.2.1],h')∧Has h' ((cR,.sl r.1.length 1 (ab.l r.1))::(au,.ob [.bool r.2.2.ay,.rs aB 0 r.2.2.aa.length 4,.rs aC 0 r.2.2.an.length 1])::(aB,.sl r.2.2.aa.length 4 (af.l r.2.2.aa))::(aC,.sl r.2.2.an.length 1 (ab.l r.2.2.an))::L)
section
variable {cf:CallF}{m:Nat}
theorem aQ.iw (L:Mem)(au:Nat)(aq:Nat)(az:Nat)(s0:ae)(a0:Int)(b0:Int)(b7:Nat)(bf:List Int)(k0:Int)(b7:Nat)(x0:Int)(x1:Int)(v2:ak)(v3:ak)   : b9 Tryz.prog cf Cd m (sub [1,1,1,0,1,0,0,1,0,0,1,1,1,0,1,0,1,1,0,0] (bw Tryz.f68)) (fun k (σ:(List cy) × Int × ae)=>aQ.l1 m v2 v3 k σ.1 σ.2.1 σ.2.2) (fun σ s=>match σ with | (nJ,x3,s2)=>∃gM iy iM h2,s=⟨.ptr au 0::l9 (.rs b7 0 bf.length 1 :: .rs gM 0 nJ.length 2 :: .i k0 :: .lp 11 0 :: .lp 12 0 :: .lp 13 0::sO [.i (v2.args.length:Int),.i x3,.any]),[some [.i x0,.i x1],some [.i v2.kind,.i v2.int,.str v2.label,ab.fz v2.args],some [.i v3.kind,.i v3.int,.str v3.label,ab.fz v3.args],none],h2⟩∧Has h2 ((gM,.sl nJ.length 2 (gU.l nJ))::(b7,.sl bf.length 1 (ab.l bf))::(au,.ob [.bool s2.ay,.rs iy 0 s2.aa.length 4,.rs iM 0 s2.an.length 1])::(iy,.sl s2.aa.length 4 (af.l s2.aa))::(iM,.sl s2.an.length 1 (ab.l s2.an))::L)) (fun out e s=>(e = .exit 2∧∃nJ x3 s2,(nJ,x3,s2)=out∧∃wV pZ aaO aaP aaQ aaR UY gM iy iM h2,s=⟨.ptr au 0::l9 (.rs b7 0 bf.length 1 :: .rs gM 0 nJ.length 2 :: .i k0 :: .lp 11 0::wV::pZ::sO [aaO,aaP,aaQ]),[some [.i x0,.i x1],aaR,UY,none],h2⟩∧Has h2 ((gM,.sl nJ.length 2 (gU.l nJ))::(b7,.sl bf.length 1 (ab.l bf))::(au,.ob [.bool s2.ay,.rs iy 0 s2.aa.length 4,.rs iM 0 s2.an.length 1])::(iy,.sl s2.aa.length 4 (af.l s2.aa))::(iM,.sl s2.an.length 1 (ab.l s2.an))::L))):=by
 refine jF (fun _=>rfl) ?_
 rintro k ⟨nJ,x3,s2⟩ s out ⟨gM,iy,iM,h2,rfl,o4⟩ H
 have H:aQ.l1 m v2 v3 (k+1) nJ x3 s2=some out:=H
 refine q1 <| qq <| qc H (fun c5 H=>?_) (fun c5 H=>?_)
 ·refine qk <| qq <| qb 3 <| qq <| q0 ?_
  obtain⟨v4,e8,H⟩:=aP H
  obtain⟨v5,e9,H⟩:=aP H
  obtain⟨x4,ma,H⟩:=aP H
  obtain⟨kl,h3,nH,o5⟩:=eu (P:=Tryz.prog) (E:=gU) (l:=nJ) (q:=0) (t2:=111) (x:=.fz [.i v4,.i v5] 1 true) (l2:=([(cy.mk v4 v5)])) UA o4 rfl kr rfl ma
  exact qr [.v 4 (bN (k:=.i64) (E:=ab) (l:=v2.args) da e8),.v 5 (cO  (E:=ab) (l:=v2.args) h2 A3 e8 rfl),.v 9 (bN (k:=.i64) (E:=ab) (l:=v3.args) da e9),.v 10 (cO  (E:=ab) (l:=v3.args) h2 A3 e9 rfl),.a 13 nH] <| q0 <| ⟨(x4,i64.wrap (x3+1),s2),⟨kl,iy,iM,h3,kr,o5⟩,H⟩
 ·exact qx 2 <| ⟨rfl,nJ,x3,s2,oi H,.lp 12 0,.lp 13 0,.i (v2.args.length:Int),.i x3,.bool (decide (x3<(v2.args.length:Int))),some [.i v2.kind,.i v2.int,.str v2.label,ab.fz v2.args],some [.i v3.kind,.i v3.int,.str v3.label,ab.fz v3.args],gM,iy,iM,h2,kr,o4⟩
theorem aQ.cm (L:Mem)(au:Nat)(aq:Nat)(az:Nat)(s0:ae)(a0:Int)(b0:Int)  (qo:Qk cf m)(Oe:UJ cf m)(FI:UK cf m):b9 Tryz.prog cf Cd m (sub [1,1,1,0,1,0,0] (bw Tryz.f68)) (fun k (σ:(List Int) × (List cy) × Int × ae)=>aQ.l0 m k σ.1 σ.2.1 σ.2.2.1 σ.2.2.2) (fun σ s=>match σ with | (bf,jk,k0,s1)=>∃bT b7 cK dN h1,s=⟨.ptr au 0::l9 (.rs b7 0 bf.length 1 :: .rs bT 0 jk.length 2 :: .i k0::vc []),[none,none,none,none],h1⟩∧Has h1 ((bT,.sl jk.length 2 (gU.l jk))::(b7,.sl bf.length 1 (ab.l bf))::(au,.ob [.bool s1.ay,.rs cK 0 s1.aa.length 4,.rs dN 0 s1.an.length 1])::(cK,.sl s1.aa.length 4 (af.l s1.aa))::(dN,.sl s1.an.length 1 (ab.l s1.an))::L)) (fun out e s=>(e = .exit 0∧∃bf jk k0 s1,.inr (bf,jk,k0,s1)=out∧∃lH vg oG Am bT b7 cK dN h1,s=⟨lH::l9 (.rs b7 0 bf.length 1::vg::oG::l9 (Am::wF [])),[none,none,none,none],h1⟩∧Has h1 ((bT,.sl jk.length 2 (gU.l jk))::(b7,.sl bf.length 1 (ab.l bf))::(au,.ob [.bool s1.ay,.rs cK 0 s1.aa.length 4,.rs dN 0 s1.an.length 1])::(cK,.sl s1.aa.length 4 (af.l s1.aa))::(dN,.sl s1.an.length 1 (ab.l s1.an))::L))∨(e = .ret∧∃r,.inl r=out∧aQ.fin L au aq az s0 a0 b0 r s)):=by
 refine jF (fun _=>rfl) ?_
 rintro k ⟨bf,jk,k0,s1⟩ s out ⟨bT,b7,cK,dN,h1,rfl,o2⟩ H
 have H:aQ.l0 m (k+1) bf jk k0 s1=some out:=H
 refine qq <| qq <| q0 <| qc H (fun c0 H=>?_) (fun c0 H=>?_)
 ·refine qk <| qq <| qb 1 <| qq ?_
  obtain⟨v0,e1,H⟩:=aP H
  obtain⟨x0,e2,H⟩:=aP H
  obtain⟨v1,e3,H⟩:=aP H
  obtain⟨x1,e4,H⟩:=aP H
  refine V6 [] [.v 3 (aL (k:=.i64) (E:=gU) (l:=jk) (q:=0) UA o2 rfl e1),.v 5 (pR  (E:=gU) (l:=jk) (q:=0) (off:=0) o2 rfl A3 e1 rfl),.a 6 (qo _ _ _ e2 h1 _ (ia (ai (dM (q:=2) o2 rfl (ai (eM) (ai (cC (E:=af) (l:=s1.aa) (q:=3) o2 rfl (fun _=>rfl)) (ai (cC (E:=ab) (l:=s1.an) (q:=4) o2 rfl (fun _=>rfl)) (aD))))) (ai (aU) (aD))))),.v 10 (aL (k:=.i64) (E:=gU) (l:=jk) (q:=0) UA o2 rfl e3),.v 12 (pR  (E:=gU) (l:=jk) (q:=0) (off:=1) o2 rfl A3 e3 rfl),.a 13 (qo _ _ _ e4 h1 _ (ia (ai (dM (q:=2) o2 rfl (ai (eM) (ai (cC (E:=af) (l:=s1.aa) (q:=3) o2 rfl (fun _=>rfl)) (ai (cC (E:=ab) (l:=s1.an) (q:=4) o2 rfl (fun _=>rfl)) (aD))))) (ai (aU) (aD)))))] [.mk (h:=h1) (h':=h1) (i:=bT) rfl] ?_
  refine qq <| qq <| qr [.v 6 (show rH Tryz.prog .eql 110 (.agg [.i x0,.i x1]) (.agg [.i x0,.i x0])=some (.bool ((x0==x0)&&(x1==x0))) from Rp Xw)] <| qc H (fun c1 H=>?_) (fun c1 H=>?_)
  ·exact qx 1 <| q0 <| ⟨(bf,jk,i64.wrap (k0+1),s1),⟨bT,b7,cK,dN,h1,kr,o2⟩,H⟩
  ·refine qk <| qq ?_
   obtain⟨v2,e5,H⟩:=aP H
   obtain⟨v3,e6,H⟩:=aP H
   refine qr [.v 3 (show bR Tryz.prog h1 23 (.ptr au 1)=some (.rs cK 0 s1.aa.length 4) from cJ (q:=2) (cs:=[.bool s1.ay,.rs cK 0 s1.aa.length 4,.rs dN 0 s1.an.length 1]) o2 rfl kr),.v 6 (aL (k:=.i64) (E:=af) (l:=s1.aa) (q:=3) lJ o2 rfl e5),.v 7 (u9  (E:=af) (l:=s1.aa) (q:=3) o2 rfl tE tF e5),.v 11 (show bR Tryz.prog h1 23 (.ptr au 1)=some (.rs cK 0 s1.aa.length 4) from cJ (q:=2) (cs:=[.bool s1.ay,.rs cK 0 s1.aa.length 4,.rs dN 0 s1.an.length 1]) o2 rfl kr),.v 14 (aL (k:=.i64) (E:=af) (l:=s1.aa) (q:=3) lJ o2 rfl e6),.v 15 (u9  (E:=af) (l:=s1.aa) (q:=3) o2 rfl tE tF e6)] <| qq <| qq ?_
   rcases eV H with⟨c2,H⟩| ⟨c2,H⟩
   ·refine qr [.b 3 c2] <| qc H (fun c3 H=>?_) (fun c3 H=>?_)
    ·refine qq <| qq ?_
     obtain⟨x2,e7,H⟩:=aP H
     refine qr [.a 2 (Oe _ _ _ e7 h1 _ fq)] <| qc H (fun c4 H=>?_) (fun c4 H=>?_)
     ·refine q1 ?_
      have o3:Has h1 ((b7,.sl bf.length 1 (ab.l bf))::(au,.ob [.bool s1.ay,.rs cK 0 s1.aa.length 4,.rs dN 0 s1.an.length 1])::(cK,.sl s1.aa.length 4 (af.l s1.aa))::(dN,.sl s1.an.length 1 (ab.l s1.an))::L):=iC o2 0
      exact qt <| ajW (⟨rfl,_,oi H,⟨b7,cK,dN,kr,he o3⟩⟩)
     ·refine qk <| qq <| q0 <| qb 2 ?_
      obtain⟨bp,oS,H⟩:=aP H
      refine ql (aQ.iw L au aq az s0 a0 b0 b7 bf k0 b7 x0 x1 v2 v3   (jk,0,s1) _ _ ⟨bT,cK,dN,h1,kr,o2⟩ oS) ?_
      rintro e s ⟨rfl,Od,x5,s3,rfl,g0,g1,g2,g3,g4,g5,g6,kP,fC,hY,h4,rfl,o6⟩
      try dsimp only at H
      obtain⟨x6,rF,H⟩:=aP H
      obtain⟨gJ,jo,h5,s7,o7⟩:=FI _ _ _ _ rF h4 _ _ _ _ ((bI (bI (bI (bI (bI o6 1) 1) 4) 4) 4))  [.ptr au 0,.i x0,.i x1] cq
      obtain⟨x7,s8,H⟩:=aP H
      obtain⟨kO,h6,vj,o8⟩:=eu (P:=Tryz.prog) (E:=ab) (l:=bf) (q:=4) (t2:=22) (x:=.fz [.i x6.1] 1 true) (l2:=([x6.1])) da o7 rfl kr rfl s8
      exact qr [.a 6 s7,.a 8 vj] <| q0 <| ⟨(x7,Od,i64.wrap (k0+1),x6.2),⟨kP,kO,gJ,jo,h6,kr,(bI (bI (bI (bI (bI o8 2) 2) 2) 4) 4)⟩,H⟩
    ·refine qk ?_
     obtain⟨x8,yV,H⟩:=aP H
     obtain⟨jT,lk,h7,yW,o9⟩:=FI _ _ _ _ yV h1 _ _ _ _ ((bI (bI (bI (bI (bI o2 1) 1) 4) 4) 4))  [.ptr au 0,.i x0,.i x1] cq
     obtain⟨x9,vq,H⟩:=aP H
     obtain⟨oK,h8,Bd,s9⟩:=eu (P:=Tryz.prog) (E:=ab) (l:=bf) (q:=4) (t2:=22) (x:=.fz [.i x8.1] 1 true) (l2:=([x8.1])) da o9 rfl kr rfl vq
     exact qr [.a 6 yW,.a 8 Bd] <| q0 <| ⟨(x9,jk,i64.wrap (k0+1),x8.2),⟨bT,oK,jT,lk,h8,kr,(bI (bI (bI (bI (bI s9 2) 2) 2) 4) 4)⟩,H⟩
   ·refine qr [.b 3 c2] <| Dr <| qk ?_
    obtain⟨mW,Bu,H⟩:=aP H
    obtain⟨oL,um,h9,Bv,qP⟩:=FI _ _ _ _ Bu h1 _ _ _ _ ((bI (bI (bI (bI (bI o2 1) 1) 4) 4) 4))  [.ptr au 0,.i x0,.i x1] cq
    obtain⟨FD,Be,H⟩:=aP H
    obtain⟨jH,h10,Bw,wP⟩:=eu (P:=Tryz.prog) (E:=ab) (l:=bf) (q:=4) (t2:=22) (x:=.fz [.i mW.1] 1 true) (l2:=([mW.1])) da qP rfl kr rfl Be
    exact qr [.a 6 Bv,.a 8 Bw] <| q0 <| ⟨(FD,jk,i64.wrap (k0+1),mW.2),⟨bT,jH,oL,um,h10,kr,(bI (bI (bI (bI (bI wP 2) 2) 2) 4) 4)⟩,H⟩
 ·exact qx 0 <| akl (⟨rfl,bf,jk,k0,s1,oi H,.ptr au 0,.rs bT 0 jk.length 2,.i k0,.bool (decide (k0<(jk.length:Int))),bT,b7,cK,dN,h1,kr,o2⟩)
theorem pj {aW:FuncId→b4}(ha:aW 68=Cd)(qo:Qk cf m)(Oe:UJ cf m)(FI:UK cf m)(s0:ae)(a0:Int)(b0:Int)(h:AHeap)(L:Mem)(au:Nat)(aq:Nat)(az:Nat)  (o:Has h ((au,.ob [.bool s0.ay,.rs aq 0 s0.aa.length 4,.rs az 0 s0.an.length 1])::(aq,.sl s0.aa.length 4 (af.l s0.aa))::(az,.sl s0.an.length 1 (ab.l s0.an))::L)){out:(List Int) × Bool × ae}(H:aQ.f m s0 a0 b0=some out) :
  ∃r h',bj Tryz.prog aW cf m 68 [.ptr au 0,.i a0,.i b0] h=some (r,h')∧∃cR aB aC:Nat,r = .tup [.rs cR 0 out.1.length 1,.bool out.2.1]∧Has h' ((cR,.sl out.1.length 1 (ab.l out.1))::(au,.ob [.bool out.2.2.ay,.rs aB 0 out.2.2.aa.length 4,.rs aC 0 out.2.2.an.length 1])::(aB,.sl out.2.2.aa.length 4 (af.l out.2.2.aa))::(aC,.sl out.2.2.an.length 1 (ab.l out.2.2.an))::L):=by
 refine aw (fn:=Tryz.f68) ha Tryz.func68 kr kr ?_
 refine aI (Q:=fun s=>aQ.fin L au aq az s0 a0 b0 out s) (fun _ _ ⟨h1,cR,aB,aC,h2,h3⟩=>⟨h1,_,h2,cR,aB,aC,rfl,h3⟩) ?_
 have H:_=some out:=H
 unfold aQ.f at H
 show dE _ cf Cd m _ ⟨.ptr au 0 :: .i a0 :: .i b0::HC [],[none,none,none,none],h⟩ _
 refine q1 <| qq <| q0 ?_
 have o0:Has h (((0),.sl (([]:List Int).length) 1 (ab.l ([]:List Int)))::(au,.ob [.bool s0.ay,.rs aq 0 s0.aa.length 4,.rs az 0 s0.an.length 1])::(aq,.sl s0.aa.length 4 (af.l s0.aa))::(az,.sl s0.an.length 1 (ab.l s0.an))::L):=Has.nil o 1
 refine qq ?_
 obtain⟨aX,h0,e0,o1⟩:=yT (E:=gU) (l:=[(cy.mk a0 b0)]) (cs:=[.i a0,.i b0]) o0 kr
 refine qr [.a 3 e0] <| qq <| qq <| q0 <| qb 0 ?_
 obtain⟨cM,DM,H⟩:=aP H
 refine ql (aQ.cm L au aq az s0 a0 b0  qo Oe FI (([]:List Int),[(cy.mk a0 b0)],0,s0) _ _ ⟨aX,(0),aq,az,h0,ld,(ow o1)⟩ DM) ?_
 rintro e s (⟨rfl,vp,XH,k1,s4,rfl,g7,g8,g9,g10,HU,kZ,DN,vt,h11,rfl,mX⟩| ⟨rfl,r0,rfl,r9⟩)
 ·try dsimp only at H
  refine q1 ?_
  have vW:Has h11 ((kZ,.sl vp.length 1 (ab.l vp))::(au,.ob [.bool s4.ay,.rs DN 0 s4.aa.length 4,.rs vt 0 s4.an.length 1])::(DN,.sl s4.aa.length 4 (af.l s4.aa))::(vt,.sl s4.an.length 1 (ab.l s4.an))::L):=iC mX 0
  obtain rfl:=oi H
  exact qt <| ⟨.inl rfl,⟨kZ,DN,vt,kr,he vW⟩⟩
 ·try dsimp only at H
  obtain rfl:=oi H
  exact⟨.inl rfl,r9⟩
end
def JF:b4:=gL [0,1,2,4,5] [] [25,9,11,15,15,23] [] []
def eH.f (m:Nat)(s0:ae)(bf:List Int):Option ((List Int)):=(sY 8 (bf.length:Int) 0).bind fun x0=>(Xr x0 bf).bind fun cp0=>(fQ.f m cp0 (fun y0=>fa.f m y0 s0)).bind fun x1=>some (kK x1)
def eH.fin (L:Mem)  (r:(List Int))(s:St):Prop:=∃cR:Nat,aK Tryz.prog (s.open JF) Tryz.f70.results.toList=some (.rs cR 0 r.length 1)∧Has s.h ((cR,.sl r.length 1 (ab.l r))::L)
def S70 (cf:CallF)(m:Nat):Prop:=∀(s0:ae) (bf:List Int) (r:(List Int)),eH.f m s0 bf=some r→∀h L xs,Has h L→bl cd h xs [.fp [.bool s0.ay,af.fz s0.aa,ab.fz s0.an] 0,ab.fz bf]→∃cR h',cf 70 xs h=some (.rs cR 0 r.length 1,h')∧Has h' ((cR,.sl r.length 1 (ab.l r))::L)∧∀j,j<h.next→h.ver j=h'.ver j
section
variable {cf:CallF}{m:Nat}
theorem qv {aW:FuncId→b4}(ha:aW 70=JF)(UZ:S63 cf m)(U0:S66 cf m)(XI:Xx cf m)(s0:ae)(bf:List Int)(h:AHeap)(L:Mem)  (o:Has h (L)){out:(List Int)}(H:eH.f m s0 bf=some out) :
  ∃r h',bj Tryz.prog aW cf m 70 [.fp [.bool s0.ay,af.fz s0.aa,ab.fz s0.an] 0,ab.fz bf] h=some (r,h')∧∃cR:Nat,r = .rs cR 0 out.length 1∧Has h' ((cR,.sl out.length 1 (ab.l out))::L):=by
 refine aw (fn:=Tryz.f70) ha Tryz.func70 kr kr ?_
 refine aI (Q:=fun s=>eH.fin L out s) (fun _ _ ⟨h1,cR,h2,h3⟩=>⟨h1,_,h2,cR,rfl,h3⟩) ?_
 have H:_=some out:=H
 unfold eH.f at H
 show dE _ cf JF m _ ⟨.fp [.bool s0.ay,af.fz s0.aa,ab.fz s0.an] 0::ab.fz bf::nc [],[],h⟩ _
 refine qq ?_
 obtain⟨aX,h0,e0,o0⟩:=ja (cs:=[.fp [.bool s0.ay,af.fz s0.aa,ab.fz s0.an] 0]) o kr
 refine qr [.a 0 e0] <| qq ?_
 obtain⟨x0,e1,H⟩:=aP H
 obtain⟨b7,h1,e2,o1⟩:=nE (P:=Tryz.prog) (E:=ab) (z:=0) (zv:=.i 0) da o0 3 rfl rfl rfl rfl e1
 refine qr [.a 2 e2] <| qq ?_
 obtain⟨cp0,e3,H⟩:=aP H
 obtain⟨h2,e4,o2⟩:=Ro (P:=Tryz.prog) (E:=ab) (l:=x0) (s:=bf) (q:=0) (t2:=22) da o1 rfl (Uw (E:=ab)) rfl (Xs _) e3
 refine qr [.a 2 e4] <| qq ?_
 obtain⟨x1,e5,H⟩:=aP H
 obtain⟨h3,e6,o3⟩:=UZ _ _ _ e5 h2 _ _ _ (o2) 107 [.ptr aX 0] [.fp [.fp [.bool s0.ay,af.fz s0.aa,ab.fz s0.an] 0] 0] rfl (fun h' Ak y0 r hr hx=>XI y0 _ r hr h' Ak hx) (fun h' K' o'=>lC (ai (dM (q:=(K'.length+0)) o' (mg rfl) (ai (cV (pure_cons (bc) (pure_cons (bM.aJ (E:=af) (l:=s0.aa)) (pure_cons (bM.aJ (E:=ab) (l:=s0.an)) (pure_nil))))) (aD))) (aD))) (fun h_=>lC (ai (cV (pure_cons (nh (pure_cons (bc) (pure_cons (bM.aJ (E:=af) (l:=s0.aa)) (pure_cons (bM.aJ (E:=ab) (l:=s0.an)) (pure_nil))))) (pure_nil))) (aD))) [.rs b7 0 x0.length 1,.fn 107 [.ptr aX 0]] cq
 refine qr [.a 2 e6] ?_
 have o4:Has h3 ((b7,.sl x1.length 1 (ab.l x1))::L):=iC o3 1
 refine qq ?_
 obtain⟨h4,e7,o5⟩:=NN (l:=x1) U0 o4
 obtain rfl:=oi H
 exact qr [.a 1 e7] <| qq <| q0 <| qt <| ⟨.inl rfl,⟨b7,by rw [pf]; kernel_rfl,he (by simpa only [pf] using o5)⟩⟩
end
def JG:b4:=gL [0,1,4] [] [4,3] [] []
def kx.f (m:Nat)(s0:List ak)(f0:ak→Option (Bool)):Option (Bool):=(iW.f m s0 f0).bind fun x0=>some (decide (x0≥0))
def kx.fin (L:Mem)(r:Bool)(s:St):Prop:=∃av,aK Tryz.prog (s.open JG) Tryz.f77.results.toList=some av∧eX s.h av (.bool r)
def S77 (cf:CallF)(m:Nat):Prop:=∀(s0:List ak) (f0:ak→Option (Bool)) (r:Bool),kx.f m s0 f0=some r→∀(iP:FuncId) (bA:List AV),(∀(h:AHeap) (xs:List AV) (a0:ak) r,f0 a0=some r→bl cd h xs ([.agg [.i a0.kind,.i a0.int,.str a0.label,ab.fz a0.args]]++bA)→cf iP xs h=some (.bool r,h))→(∀h,bl ez h bA bA)→∀h xs,bl cd h xs [af.fz s0,.fn iP bA]→cf 77 xs h=some (.bool r,h)
section
variable {cf:CallF}{m:Nat}
theorem yn {aW:FuncId→b4}(ha:aW 77=JG)(XJ:Xy cf m)(s0:List ak)(f0:ak→Option (Bool))(h:AHeap)(L:Mem)(iP:FuncId)(bA:List AV)  (kG:∀(h:AHeap) (xs:List AV) (a0:ak) r,f0 a0=some r→bl cd h xs ([.agg [.i a0.kind,.i a0.int,.str a0.label,ab.fz a0.args]]++bA)→cf iP xs h=some (.bool r,h))(kH:∀h,bl ez h bA bA)(o:Has h (L)){out:Bool}(H:kx.f m s0 f0=some out) :
  ∃r h',bj Tryz.prog aW cf m 77 [af.fz s0,.fn iP bA] h=some (r,h')∧eX h' r (.bool out):=by
 refine aw (fn:=Tryz.f77) ha Tryz.func77 kr kr ?_
 refine aI (Q:=fun s=>kx.fin L out s) (fun _ _ h=>h) ?_
 have H:_=some out:=H
 unfold kx.f at H
 show dE _ cf JG m _ ⟨[af.fz s0,.fn iP bA,.any],[],h⟩ _
 refine q1 <| qq ?_
 obtain⟨x0,e0,H⟩:=aP H
 exact qr [.a 2 (XJ _ _ _ e0 iP bA kG kH h _ (ia (ai (iu (E:=af)) (ai (zW (kH h)) (aD)))))] <| qt <| fB H
end
def JH:b4:=gL [0,1,4] [] [4,3] [] []
def il.f (m:Nat)(s0:List Int)(f0:Int→Option (Bool)):Option (Bool):=(eO.f m s0 f0).bind fun x0=>some (decide (x0≥0))
def il.fin (L:Mem)(r:Bool)(s:St):Prop:=∃av,aK Tryz.prog (s.open JH) Tryz.f83.results.toList=some av∧eX s.h av (.bool r)
def Zg (cf:CallF)(m:Nat):Prop:=∀(s0:List Int) (f0:Int→Option (Bool)) (r:Bool),il.f m s0 f0=some r→∀(iP:FuncId) (bA:List AV),(∀(h:AHeap) (xs:List AV) (a0:Int) r,f0 a0=some r→bl cd h xs ([.i a0]++bA)→cf iP xs h=some (.bool r,h))→(∀h,bl ez h bA bA)→∀h xs,bl cd h xs [ab.fz s0,.fn iP bA]→cf 83 xs h=some (.bool r,h)
section
variable {cf:CallF}{m:Nat}
theorem yo {aW:FuncId→b4}(ha:aW 83=JH)(UX:S98 cf m)(s0:List Int)(f0:Int→Option (Bool))(h:AHeap)(L:Mem)(iP:FuncId)(bA:List AV)  (kG:∀(h:AHeap) (xs:List AV) (a0:Int) r,f0 a0=some r→bl cd h xs ([.i a0]++bA)→cf iP xs h=some (.bool r,h))(kH:∀h,bl ez h bA bA)(o:Has h (L)){out:Bool}(H:il.f m s0 f0=some out) :
  ∃r h',bj Tryz.prog aW cf m 83 [ab.fz s0,.fn iP bA] h=some (r,h')∧eX h' r (.bool out):=by
 refine aw (fn:=Tryz.f83) ha Tryz.func83 kr kr ?_
 refine aI (Q:=fun s=>il.fin L out s) (fun _ _ h=>h) ?_
 have H:_=some out:=H
 unfold il.f at H
 show dE _ cf JH m _ ⟨[ab.fz s0,.fn iP bA,.any],[],h⟩ _
 refine q1 <| qq ?_
 obtain⟨x0,e0,H⟩:=aP H
 exact qr [.a 2 (UX _ _ _ e0 iP bA kG kH h _ (ia (ai (iu (E:=ab)) (ai (zW (kH h)) (aD)))))] <| qt <| fB H
end
def JI:b4:=gL [0,1,3] [] [4,3] [] []
def eA.f (m:Nat)(a0:Int)(x0:ae):Option (Bool):=(eG.f m x0 a0).bind fun x1=>some (!x1)
def eA.fin (L:Mem)(r:Bool)(s:St):Prop:=∃av,aK Tryz.prog (s.open JI) Tryz.f84.results.toList=some av∧eX s.h av (.bool r)
def S84 (cf:CallF)(m:Nat):Prop:=∀(a0:Int) (x0:ae) (r:Bool),eA.f m a0 x0=some r→∀h xs,bl cd h xs [.i a0,.fp [.fp [.bool x0.ay,af.fz x0.aa,ab.fz x0.an] 0] 0]→cf 84 xs h=some (.bool r,h)
section
variable {cf:CallF}{m:Nat}
theorem nK {aW:FuncId→b4}(ha:aW 84=JI)(UH:S85 cf m)(a0:Int)(x0:ae)(h:AHeap)(L:Mem)  (o:Has h (L)){out:Bool}(H:eA.f m a0 x0=some out) :
  ∃r h',bj Tryz.prog aW cf m 84 [.i a0,.fp [.fp [.bool x0.ay,af.fz x0.aa,ab.fz x0.an] 0] 0] h=some (r,h')∧eX h' r (.bool out):=by
 refine aw (fn:=Tryz.f84) ha Tryz.func84 kr kr ?_
 refine aI (Q:=fun s=>eA.fin L out s) (fun _ _ h=>h) ?_
 have H:_=some out:=H
 unfold eA.f at H
 show dE _ cf JI m _ ⟨[.i a0,.fp [.fp [.bool x0.ay,af.fz x0.aa,ab.fz x0.an] 0] 0,.any],[],h⟩ _
 refine q1 <| qq ?_
 obtain⟨x1,e0,H⟩:=aP H
 exact qr [.a 2 (UH _ _ _ e0 h _ (ia (ai (cV (pure_cons (bc) (pure_cons (bM.aJ (E:=af) (l:=x0.aa)) (pure_cons (bM.aJ (E:=ab) (l:=x0.an)) (pure_nil))))) (ai (aU) (aD)))))] <| qt <| fB H
end
def JJ:b4:=gL [0,1,2] [] [4,3] [] []
def eQ.f (m:Nat)(x0:ByteArray)(x1:Int):Option (Bool):=(jS.f m x0).bind fun x2=>if x2=true then (some (decide (x1≥0))) else (some false)
def eQ.fin (L:Mem)(r:Bool)(s:St):Prop:=∃av,aK Tryz.prog (s.open JJ) Tryz.f86.results.toList=some av∧eX s.h av (.bool r)
def S86 (cf:CallF)(m:Nat):Prop:=∀(x0:ByteArray) (x1:Int) (r:Bool),eQ.f m x0 x1=some r→∀h xs,bl cd h xs [.fp [.str x0] 0,.fp [.i x1] 0]→cf 86 xs h=some (.bool r,h)
section
variable {cf:CallF}{m:Nat}
theorem pk {aW:FuncId→b4}(ha:aW 86=JJ)(Of:S87 cf m)(x0:ByteArray)(x1:Int)(h:AHeap)(L:Mem)  (o:Has h (L)){out:Bool}(H:eQ.f m x0 x1=some out) :
  ∃r h',bj Tryz.prog aW cf m 86 [.fp [.str x0] 0,.fp [.i x1] 0] h=some (r,h')∧eX h' r (.bool out):=by
 refine aw (fn:=Tryz.f86) ha Tryz.func86 kr kr ?_
 refine aI (Q:=fun s=>eQ.fin L out s) (fun _ _ h=>h) ?_
 have H:_=some out:=H
 unfold eQ.f at H
 show dE _ cf JJ m _ ⟨[.fp [.str x0] 0,.fp [.i x1] 0,.any],[],h⟩ _
 refine q1 <| qq ?_
 obtain⟨x2,e0,H⟩:=aP H
 rcases eV H with⟨c0,H⟩| ⟨c0,H⟩
 ·exact qr [.a 1 (Of _ _ e0 h _ fq),.b 2 c0] <| qt <| fB H
 ·exact qr [.a 1 (Of _ _ e0 h _ fq),.b 2 c0] <| qt <| fB H
end
def vu:b4:=gL [0,1,2,6,7,8,9,10,11,12,13,14,15,16,17,31,52,74,102,107,131,147] [13,14,27] [4194296,4194264,4194206,4194078,4161310,4194078,4193310,4127774,4190238,4059166,3928094,4194279,4186142,3661854,4186142,4186142,4185118,4168734,3120158,4168734,2071582,4168734,4194279] [] [(0,[(6,none,1)]),(11,[(6,none,1)])]
def ax.l1 (m:Nat)(v4:ak)(v5:ak):Nat→(List wL)→Int→Option ((List wL) × Int)
 | 0,_,_=>none
 | k+1,nL,k0=>if (decide (k0<(v4.args.length:Int)))=true then ((ix v4.args k0).bind fun v6=>(ix v5.args k0).bind fun v7=>(app 16 nL ([(wL.mk v6 v7)])).bind fun x1=>ax.l1 m v4 v5 k x1 (i64.wrap (k0+1))) else (some ((nL,k0)))
def ax.l2 (m:Nat)(v1:Int)(v3:Int)(x2:Int):Nat→(List Int)→Int→Option ((List Int) × Int)
 | 0,_,_=>none
 | k+1,gW,k2=>if (decide (k2<(gW.length:Int)))=true then ((ix gW k2).bind fun v8=>if (v8==v1)=true then ((ix gW k2).bind fun v9=>ax.l2 m v1 v3 x2 k (gW.set k2.toNat x2) (i64.wrap (k2+1))) else ((ix gW k2).bind fun v10=>if (v10==v3)=true then ((ix gW k2).bind fun v11=>ax.l2 m v1 v3 x2 k (gW.set k2.toNat x2) (i64.wrap (k2+1))) else (ax.l2 m v1 v3 x2 k gW (i64.wrap (k2+1))))) else (some ((gW,k2)))
def ax.l3 (m:Nat)(v1:Int)(v3:Int)(x3:Int):Nat→(List Int)→Int→Option ((List Int) × Int)
 | 0,_,_=>none
 | k+1,gX,k4=>if (decide (k4<(gX.length:Int)))=true then ((ix gX k4).bind fun v12=>if (v12==v1)=true then ((ix gX k4).bind fun Og=>ax.l3 m v1 v3 x3 k (gX.set k4.toNat x3) (i64.wrap (k4+1))) else ((ix gX k4).bind fun Eu=>if (Eu==v3)=true then ((ix gX k4).bind fun si=>ax.l3 m v1 v3 x3 k (gX.set k4.toNat x3) (i64.wrap (k4+1))) else (ax.l3 m v1 v3 x3 k gX (i64.wrap (k4+1))))) else (some ((gX,k4)))
def ax.l4 (m:Nat)(v1:Int)(v3:Int)(x4:Int):Nat→(List Int)→Int→Option ((List Int) × Int)
 | 0,_,_=>none
 | k+1,gY,k6=>if (decide (k6<(gY.length:Int)))=true then ((ix gY k6).bind fun sR=>if (sR==v1)=true then ((ix gY k6).bind fun Ta=>ax.l4 m v1 v3 x4 k (gY.set k6.toNat x4) (i64.wrap (k6+1))) else ((ix gY k6).bind fun XK=>if (XK==v3)=true then ((ix gY k6).bind fun Zh=>ax.l4 m v1 v3 x4 k (gY.set k6.toNat x4) (i64.wrap (k6+1))) else (ax.l4 m v1 v3 x4 k gY (i64.wrap (k6+1))))) else (some ((gY,k6)))
def ax.l0 (m:Nat)(s0:aj)(a0:Int):Nat→(List Int)→(List wL)→Int→Option (Sum ((List Int) × Bool) ((List Int) × (List wL) × Int))
 | 0,_,_,_=>none
 | k+1,cP,dj,i0=>if (decide (i0<(dj.length:Int)))=true then ((ix dj i0).bind fun v0=>(ix cP v0.a0).bind fun v1=>(ix dj i0).bind fun v2=>(ix cP v2.a1).bind fun v3=>if (v1==v3)=true then (ax.l0 m s0 a0 k cP dj (i64.wrap (i0+1))) else ((ix s0.ah v1).bind fun v4=>(ix s0.ah v3).bind fun v5=>if (!(v4.kind==0))=true then (if (!(v5.kind==0))=true then (if (!(v4.kind==v5.kind))=true then (some (.inl (([]:List Int),false))) else (if (!(v4.int==v5.int))=true then (some (.inl (([]:List Int),false))) else (if (!(v4.label.data.toList==v5.label.data.toList))=true then (some (.inl (([]:List Int),false))) else (if (!((v4.args.length:Int)==(v5.args.length:Int)))=true then (some (.inl (([]:List Int),false))) else ((ax.l1 m v4 v5 m dj 0).bind fun bp=>match bp with | (sj,k1)=>(dA.f m s0 v1 v3).bind fun x2=>(ax.l2 m v1 v3 x2 m cP 0).bind fun cM=>match cM with | (vw,k3)=>ax.l0 m s0 a0 k vw sj (i64.wrap (i0+1))))))) else ((dA.f m s0 v1 v3).bind fun x3=>(ax.l3 m v1 v3 x3 m cP 0).bind fun fU=>match fU with | (Oh,k5)=>ax.l0 m s0 a0 k Oh dj (i64.wrap (i0+1)))) else ((dA.f m s0 v1 v3).bind fun x4=>(ax.l4 m v1 v3 x4 m cP 0).bind fun mI=>match mI with | (Oi,k7)=>ax.l0 m s0 a0 k Oi dj (i64.wrap (i0+1))))) else (some (.inr (cP,dj,i0)))
def ax.f (m:Nat)(s0:aj)(a0:Int)(b0:Int):Option ((List Int) × Bool):=(app 8 ([]) s0.ao).bind fun x0=>(ax.l0 m s0 a0 m x0 ([(wL.mk a0 b0)]) 0).bind fun eK=>match eK with | .inl r0=>some r0 | .inr (JK,XL,i1)=>some (JK,true)
def ax.fin (L:Mem)  (r:(List Int) × Bool)(s:St):Prop:=∃cR:Nat,aK Tryz.prog (s.open vu) Tryz.f90.results.toList=some (.tup [.rs cR 0 r.1.length 1,.bool r.2])∧Has s.h ((cR,.sl r.1.length 1 (ab.l r.1))::L)
def S90 (cf:CallF)(m:Nat):Prop:=∀(s0:aj) (a0:Int) (b0:Int) (r:(List Int) × Bool),ax.f m s0 a0 b0=some r→∀h L xs,Has h L→bl cd h xs [.fp [af.fz s0.ah,ab.fz s0.ao,.bool s0.aE] 0,.i a0,.i b0]→∃cR h',cf 90 xs h=some (.tup [.rs cR 0 r.1.length 1,.bool r.2],h')∧Has h' ((cR,.sl r.1.length 1 (ab.l r.1))::L)∧∀j,j<h.next→h.ver j=h'.ver j
section
variable {cf:CallF}{m:Nat}
theorem ax.iw (L:Mem)(s0:aj)(bT:Nat)(cP:List Int)(i0:Int)(bT:Nat)(v1:Int)(v3:Int)(v4:ak)(v5:ak)   : b9 Tryz.prog cf vu m (sub [1,1,1,0,1,0,0,1,0,0,1,1,1,0,1,0,1,1,0,0] (bw Tryz.f90)) (fun k (σ:(List wL) × Int)=>ax.l1 m v4 v5 k σ.1 σ.2) (fun σ s=>match σ with | (nL,k0)=>∃dN h3,s=⟨.fp [af.fz s0.ah,ab.fz s0.ao,.bool s0.aE] 0::l9 (.rs bT 0 cP.length 1 :: .rs dN 0 nL.length 2 :: .i i0 :: .i v1 :: .i v3 :: .lp 13 0 :: .lp 14 0 :: .i k0::NJ []),[some [.i v4.kind,.i v4.int,.str v4.label,ab.fz v4.args],some [.i v5.kind,.i v5.int,.str v5.label,ab.fz v5.args],none],h3⟩∧Has h3 ((dN,.sl nL.length 2 (yU.l nL))::(bT,.sl cP.length 1 (ab.l cP))::L)) (fun out e s=>(e = .exit 2∧∃nL k0,(nL,k0)=out∧∃pZ Aa DO XM UY aaU dN h3,s=⟨.fp [af.fz s0.ah,ab.fz s0.ao,.bool s0.aE] 0::l9 (.rs bT 0 cP.length 1 :: .rs dN 0 nL.length 2 :: .i i0 :: .i v1 :: .i v3::pZ::Aa::DO::wF [XM,.any,.any]),[UY,aaU,none],h3⟩∧Has h3 ((dN,.sl nL.length 2 (yU.l nL))::(bT,.sl cP.length 1 (ab.l cP))::L))):=by
 refine jF (fun _=>rfl) ?_
 rintro k ⟨nL,k0⟩ s out ⟨dN,h3,rfl,Bx⟩ H
 have H:ax.l1 m v4 v5 (k+1) nL k0=some out:=H
 refine qq <| qq <| q0 <| qc H (fun sd H=>?_) (fun sd H=>?_)
 ·refine qk <| qq <| qb 3 ?_
  obtain⟨v6,e9,H⟩:=aP H
  obtain⟨v7,ma,H⟩:=aP H
  obtain⟨x1,nH,H⟩:=aP H
  obtain⟨gM,h4,oS,pn⟩:=eu (P:=Tryz.prog) (E:=yU) (l:=nL) (q:=0) (t2:=117) (x:=.fz [.i v6,.i v7] 1 true) (l2:=([(wL.mk v6 v7)])) UB Bx rfl kr rfl nH
  exact qr [.v 4 (bN (k:=.i64) (E:=ab) (l:=v4.args) da e9),.v 5 (cO  (E:=ab) (l:=v4.args) h3 A3 e9 rfl),.v 9 (bN (k:=.i64) (E:=ab) (l:=v5.args) da ma),.v 10 (cO  (E:=ab) (l:=v5.args) h3 A3 ma rfl),.a 13 oS] <| q0 <| ⟨(x1,i64.wrap (k0+1)),⟨gM,h4,kr,pn⟩,H⟩
 ·exact qx 2 <| ⟨rfl,nL,k0,oi H,.lp 13 0,.lp 14 0,.i k0,.bool (decide (k0<(v4.args.length:Int))),some [.i v4.kind,.i v4.int,.str v4.label,ab.fz v4.args],some [.i v5.kind,.i v5.int,.str v5.label,ab.fz v5.args],dN,h3,kr,Bx⟩
theorem ax.mK (L:Mem)(s0:aj)(i0:Int)(v1:Int)(v3:Int)(iy:Nat)(sj:List wL)(iy:Nat)(x2:Int)   : b9 Tryz.prog cf vu m (sub [1,1,1,0,1,0,0,1,0,0,1,1,1,1,1,1,0,0] (bw Tryz.f90)) (fun k (σ:(List Int) × Int)=>ax.l2 m v1 v3 x2 k σ.1 σ.2) (fun σ s=>match σ with | (gW,k2)=>∃iM h6,s=⟨.fp [af.fz s0.ah,ab.fz s0.ao,.bool s0.aE] 0::l9 (.rs iM 0 gW.length 1 :: .rs iy 0 sj.length 2 :: .i i0 :: .i v1 :: .i v3::nc (.i x2 :: .i k2::B0 [])),[none,none,none],h6⟩∧Has h6 ((iy,.sl sj.length 2 (yU.l sj))::(iM,.sl gW.length 1 (ab.l gW))::L)) (fun out e s=>(e = .exit 4∧∃gW k2,(gW,k2)=out∧∃An wV DP DQ FJ iM h6,s=⟨.fp [af.fz s0.ah,ab.fz s0.ao,.bool s0.aE] 0::l9 (.rs iM 0 gW.length 1 :: .rs iy 0 sj.length 2 :: .i i0::An::wV::nc (DP::DQ::sO [FJ,.any])),[none,none,none],h6⟩∧Has h6 ((iy,.sl sj.length 2 (yU.l sj))::(iM,.sl gW.length 1 (ab.l gW))::L))):=by
 refine jF (fun _=>rfl) ?_
 rintro k ⟨gW,k2⟩ s out ⟨iM,h6,rfl,oM⟩ H
 have H:ax.l2 m v1 v3 x2 (k+1) gW k2=some out:=H
 refine qq <| qq <| q0 <| qc H (fun yk H=>?_) (fun yk H=>?_)
 ·refine qk <| qq <| qb 5 <| qq ?_
  obtain⟨v8,s8,H⟩:=aP H
  rcases eV H with⟨uh,H⟩| ⟨uh,H⟩
  ·refine qr [.v 2 (aL (k:=.i64) (E:=ab) (l:=gW) (q:=1) da oM rfl s8),.v 3 (bq  (E:=ab) (l:=gW) (q:=1) oM rfl A3 s8 rfl),.b 6 uh] <| Bb ?_
   obtain⟨v9,vj,H⟩:=aP H
   obtain⟨h7,yV,Ao⟩:=dD (P:=Tryz.prog) (tf:=3) (E:=ab) (l:=gW) (q:=1) (v:=x2) (x:=.i x2) oM rfl Z3 vj rfl rfl
   exact qr [.v 3 (aL (k:=.i64) (E:=ab) (l:=gW) (q:=1) da oM rfl vj),.w 4 yV] <| q0 <| ⟨(gW.set k2.toNat x2,i64.wrap (k2+1)),⟨iM,h7,ld,(ow Ao)⟩,H⟩
  ·obtain⟨v10,yW,H⟩:=aP H
   refine qr [.v 2 (aL (k:=.i64) (E:=ab) (l:=gW) (q:=1) da oM rfl s8),.v 3 (bq  (E:=ab) (l:=gW) (q:=1) oM rfl A3 s8 rfl),.b 6 uh,.v 9 (aL (k:=.i64) (E:=ab) (l:=gW) (q:=1) da oM rfl yW),.v 10 (bq  (E:=ab) (l:=gW) (q:=1) oM rfl A3 yW rfl)] <| qc H (fun FK H=>?_) (fun FK H=>?_)
   ·obtain⟨v11,vq,H⟩:=aP H
    obtain⟨h8,Bd,LP⟩:=dD (P:=Tryz.prog) (tf:=3) (E:=ab) (l:=gW) (q:=1) (v:=x2) (x:=.i x2) oM rfl Z3 vq rfl rfl
    exact qr [.v 3 (aL (k:=.i64) (E:=ab) (l:=gW) (q:=1) da oM rfl vq),.w 4 Bd] <| q0 <| ⟨(gW.set k2.toNat x2,i64.wrap (k2+1)),⟨iM,h8,ld,(ow LP)⟩,H⟩
   ·exact qk <| q0 <| ⟨(gW,i64.wrap (k2+1)),⟨iM,h6,kr,oM⟩,H⟩
 ·exact qx 4 <| ⟨rfl,gW,k2,oi H,.i v1,.i v3,.i x2,.i k2,.bool (decide (k2<(gW.length:Int))),iM,h6,kr,oM⟩
theorem ax.vz (L:Mem)(s0:aj)(cK:Nat)(dj:List wL)(i0:Int)(cK:Nat)(v1:Int)(v3:Int)(x3:Int)   : b9 Tryz.prog cf vu m (sub [1,1,1,0,1,0,0,1,0,0,1,1,1,1,1,1,0,0] (bw Tryz.f90)) (fun k (σ:(List Int) × Int)=>ax.l3 m v1 v3 x3 k σ.1 σ.2) (fun σ s=>match σ with | (gX,k4)=>∃kP h10,s=⟨.fp [af.fz s0.ah,ab.fz s0.ao,.bool s0.aE] 0::l9 (.rs kP 0 gX.length 1 :: .rs cK 0 dj.length 2 :: .i i0 :: .i v1 :: .i v3::nc (.i x3 :: .i k4::B0 [])),[none,none,none],h10⟩∧Has h10 ((cK,.sl dj.length 2 (yU.l dj))::(kP,.sl gX.length 1 (ab.l gX))::L)) (fun out e s=>(e = .exit 4∧∃gX k4,(gX,k4)=out∧∃An wV DP DQ FJ kP h10,s=⟨.fp [af.fz s0.ah,ab.fz s0.ao,.bool s0.aE] 0::l9 (.rs kP 0 gX.length 1 :: .rs cK 0 dj.length 2 :: .i i0::An::wV::nc (DP::DQ::sO [FJ,.any])),[none,none,none],h10⟩∧Has h10 ((cK,.sl dj.length 2 (yU.l dj))::(kP,.sl gX.length 1 (ab.l gX))::L))):=by
 refine jF (fun _=>rfl) ?_
 rintro k ⟨gX,k4⟩ s out ⟨kP,h10,rfl,xN⟩ H
 have H:ax.l3 m v1 v3 x3 (k+1) gX k4=some out:=H
 refine qq <| qq <| q0 <| qc H (fun Ev H=>?_) (fun Ev H=>?_)
 ·refine qk <| qq <| qb 5 <| qq ?_
  obtain⟨v12,Be,H⟩:=aP H
  rcases eV H with⟨DR,H⟩| ⟨DR,H⟩
  ·refine qr [.v 2 (aL (k:=.i64) (E:=ab) (l:=gX) (q:=1) da xN rfl Be),.v 3 (bq  (E:=ab) (l:=gX) (q:=1) xN rfl A3 Be rfl),.b 6 DR] <| Bb ?_
   obtain⟨Og,Bw,H⟩:=aP H
   obtain⟨h11,DM,JL⟩:=dD (P:=Tryz.prog) (tf:=3) (E:=ab) (l:=gX) (q:=1) (v:=x3) (x:=.i x3) xN rfl Z3 Bw rfl rfl
   exact qr [.v 3 (aL (k:=.i64) (E:=ab) (l:=gX) (q:=1) da xN rfl Bw),.w 4 DM] <| q0 <| ⟨(gX.set k4.toNat x3,i64.wrap (k4+1)),⟨kP,h11,ld,(ow JL)⟩,H⟩
  ·obtain⟨Eu,DS,H⟩:=aP H
   refine qr [.v 2 (aL (k:=.i64) (E:=ab) (l:=gX) (q:=1) da xN rfl Be),.v 3 (bq  (E:=ab) (l:=gX) (q:=1) xN rfl A3 Be rfl),.b 6 DR,.v 9 (aL (k:=.i64) (E:=ab) (l:=gX) (q:=1) da xN rfl DS),.v 10 (bq  (E:=ab) (l:=gX) (q:=1) xN rfl A3 DS rfl)] <| qc H (fun c19 H=>?_) (fun c19 H=>?_)
   ·obtain⟨si,HV,H⟩:=aP H
    obtain⟨h12,JM,Oj⟩:=dD (P:=Tryz.prog) (tf:=3) (E:=ab) (l:=gX) (q:=1) (v:=x3) (x:=.i x3) xN rfl Z3 HV rfl rfl
    exact qr [.v 3 (aL (k:=.i64) (E:=ab) (l:=gX) (q:=1) da xN rfl HV),.w 4 JM] <| q0 <| ⟨(gX.set k4.toNat x3,i64.wrap (k4+1)),⟨kP,h12,ld,(ow Oj)⟩,H⟩
   ·exact qk <| q0 <| ⟨(gX,i64.wrap (k4+1)),⟨kP,h10,kr,xN⟩,H⟩
 ·exact qx 4 <| ⟨rfl,gX,k4,oi H,.i v1,.i v3,.i x3,.i k4,.bool (decide (k4<(gX.length:Int))),kP,h10,kr,xN⟩
theorem ax.vA (L:Mem)(s0:aj)(cK:Nat)(dj:List wL)(i0:Int)(cK:Nat)(v1:Int)(v3:Int)(x4:Int)   : b9 Tryz.prog cf vu m (sub [1,1,1,0,1,0,0,1,0,0,1,1,1,1,1,1,0,0] (bw Tryz.f90)) (fun k (σ:(List Int) × Int)=>ax.l4 m v1 v3 x4 k σ.1 σ.2) (fun σ s=>match σ with | (gY,k6)=>∃hY h14,s=⟨.fp [af.fz s0.ah,ab.fz s0.ao,.bool s0.aE] 0::l9 (.rs hY 0 gY.length 1 :: .rs cK 0 dj.length 2 :: .i i0 :: .i v1 :: .i v3::nc (.i x4 :: .i k6::B0 [])),[none,none,none],h14⟩∧Has h14 ((cK,.sl dj.length 2 (yU.l dj))::(hY,.sl gY.length 1 (ab.l gY))::L)) (fun out e s=>(e = .exit 4∧∃gY k6,(gY,k6)=out∧∃An wV DP DQ FJ hY h14,s=⟨.fp [af.fz s0.ah,ab.fz s0.ao,.bool s0.aE] 0::l9 (.rs hY 0 gY.length 1 :: .rs cK 0 dj.length 2 :: .i i0::An::wV::nc (DP::DQ::sO [FJ,.any])),[none,none,none],h14⟩∧Has h14 ((cK,.sl dj.length 2 (yU.l dj))::(hY,.sl gY.length 1 (ab.l gY))::L))):=by
 refine jF (fun _=>rfl) ?_
 rintro k ⟨gY,k6⟩ s out ⟨hY,h14,rfl,ni⟩ H
 have H:ax.l4 m v1 v3 x4 (k+1) gY k6=some out:=H
 refine qq <| qq <| q0 <| qc H (fun c21 H=>?_) (fun c21 H=>?_)
 ·refine qk <| qq <| qb 5 <| qq ?_
  obtain⟨sR,GZ,H⟩:=aP H
  rcases eV H with⟨U1,H⟩| ⟨U1,H⟩
  ·refine qr [.v 2 (aL (k:=.i64) (E:=ab) (l:=gY) (q:=1) da ni rfl GZ),.v 3 (bq  (E:=ab) (l:=gY) (q:=1) ni rfl A3 GZ rfl),.b 6 U1] <| Bb ?_
   obtain⟨Ta,LQ,H⟩:=aP H
   obtain⟨h15,My,Mz⟩:=dD (P:=Tryz.prog) (tf:=3) (E:=ab) (l:=gY) (q:=1) (v:=x4) (x:=.i x4) ni rfl Z3 LQ rfl rfl
   exact qr [.v 3 (aL (k:=.i64) (E:=ab) (l:=gY) (q:=1) da ni rfl LQ),.w 4 My] <| q0 <| ⟨(gY.set k6.toNat x4,i64.wrap (k6+1)),⟨hY,h15,ld,(ow Mz)⟩,H⟩
  ·obtain⟨XK,Rv,H⟩:=aP H
   refine qr [.v 2 (aL (k:=.i64) (E:=ab) (l:=gY) (q:=1) da ni rfl GZ),.v 3 (bq  (E:=ab) (l:=gY) (q:=1) ni rfl A3 GZ rfl),.b 6 U1,.v 9 (aL (k:=.i64) (E:=ab) (l:=gY) (q:=1) da ni rfl Rv),.v 10 (bq  (E:=ab) (l:=gY) (q:=1) ni rfl A3 Rv rfl)] <| qc H (fun c24 H=>?_) (fun c24 H=>?_)
   ·obtain⟨Zh,Rw,H⟩:=aP H
    obtain⟨h16,U2,JN⟩:=dD (P:=Tryz.prog) (tf:=3) (E:=ab) (l:=gY) (q:=1) (v:=x4) (x:=.i x4) ni rfl Z3 Rw rfl rfl
    exact qr [.v 3 (aL (k:=.i64) (E:=ab) (l:=gY) (q:=1) da ni rfl Rw),.w 4 U2] <| q0 <| ⟨(gY.set k6.toNat x4,i64.wrap (k6+1)),⟨hY,h16,ld,(ow JN)⟩,H⟩
   ·exact qk <| q0 <| ⟨(gY,i64.wrap (k6+1)),⟨hY,h14,kr,ni⟩,H⟩
 ·exact qx 4 <| ⟨rfl,gY,k6,oi H,.i v1,.i v3,.i x4,.i k6,.bool (decide (k6<(gY.length:Int))),hY,h14,kr,ni⟩
theorem ax.cm (L:Mem)(s0:aj)(a0:Int)  (FL:UL cf m):b9 Tryz.prog cf vu m (sub [1,1,1,0,1,0,0] (bw Tryz.f90)) (fun k (σ:(List Int) × (List wL) × Int)=>ax.l0 m s0 a0 k σ.1 σ.2.1 σ.2.2) (fun σ s=>match σ with | (cP,dj,i0)=>∃cK bT h2,s=⟨.fp [af.fz s0.ah,ab.fz s0.ao,.bool s0.aE] 0::l9 (.rs bT 0 cP.length 1 :: .rs cK 0 dj.length 2 :: .i i0::zO []),[none,none,none],h2⟩∧Has h2 ((cK,.sl dj.length 2 (yU.l dj))::(bT,.sl cP.length 1 (ab.l cP))::L)) (fun out e s=>(e = .exit 0∧∃cP dj i0,.inr (cP,dj,i0)=out∧∃lH vg oG HW cK bT h2,s=⟨lH::l9 (.rs bT 0 cP.length 1::vg::oG::B0 (HW::wF [])),[none,none,none],h2⟩∧Has h2 ((cK,.sl dj.length 2 (yU.l dj))::(bT,.sl cP.length 1 (ab.l cP))::L))∨(e = .ret∧∃r,.inl r=out∧ax.fin L r s)):=by
 refine jF (fun _=>rfl) ?_
 rintro k ⟨cP,dj,i0⟩ s out ⟨cK,bT,h2,rfl,o2⟩ H
 have H:ax.l0 m s0 a0 (k+1) cP dj i0=some out:=H
 refine qq <| qq <| q0 <| qc H (fun c0 H=>?_) (fun c0 H=>?_)
 ·refine qk <| qq <| qb 1 <| qq ?_
  obtain⟨v0,e3,H⟩:=aP H
  obtain⟨v1,e4,H⟩:=aP H
  obtain⟨v2,e5,H⟩:=aP H
  obtain⟨v3,e6,H⟩:=aP H
  refine qr [.v 3 (aL (k:=.i64) (E:=yU) (l:=dj) (q:=0) UB o2 rfl e3),.v 5 (pR  (E:=yU) (l:=dj) (q:=0) (off:=0) o2 rfl A3 e3 rfl),.v 6 (aL (k:=.i64) (E:=ab) (l:=cP) (q:=1) da o2 rfl e4),.v 7 (bq  (E:=ab) (l:=cP) (q:=1) o2 rfl A3 e4 rfl),.v 11 (aL (k:=.i64) (E:=yU) (l:=dj) (q:=0) UB o2 rfl e5),.v 13 (pR  (E:=yU) (l:=dj) (q:=0) (off:=1) o2 rfl A3 e5 rfl),.v 14 (aL (k:=.i64) (E:=ab) (l:=cP) (q:=1) da o2 rfl e6),.v 15 (bq  (E:=ab) (l:=cP) (q:=1) o2 rfl A3 e6 rfl)] <| qq <| qq <| q0 <| qc H (fun c1 H=>?_) (fun c1 H=>?_)
  ·exact qx 1 <| q0 <| ⟨(cP,dj,i64.wrap (i0+1)),⟨cK,bT,h2,kr,o2⟩,H⟩
  ·refine qk <| qq ?_
   obtain⟨v4,e7,H⟩:=aP H
   obtain⟨v5,e8,H⟩:=aP H
   refine qr [.v 5 (bN (k:=.i64) (E:=af) (l:=s0.ah) lJ e7),.v 6 (fZ  (E:=af) (l:=s0.ah) h2 tE tF e7),.v 12 (bN (k:=.i64) (E:=af) (l:=s0.ah) lJ e8),.v 13 (fZ  (E:=af) (l:=s0.ah) h2 tE tF e8)] <| qq <| qq ?_
   rcases eV H with⟨c2,H⟩| ⟨c2,H⟩
   ·refine qr [.b 3 c2] <| qc H (fun c3 H=>?_) (fun c3 H=>?_)
    ·refine qq <| qq ?_
     rcases eV H with⟨c4,H⟩| ⟨c4,H⟩
     ·refine qr [.b 5 c4] <| Bb <| qq <| q0 ?_
      have o3:Has h2 (((0),.sl (([]:List Int).length) 1 (ab.l ([]:List Int)))::(cK,.sl dj.length 2 (yU.l dj))::(bT,.sl cP.length 1 (ab.l cP))::L):=Has.nil o2 1
      have o4:Has h2 (((0),.sl (([]:List Int).length) 1 (ab.l ([]:List Int)))::(cK,.sl dj.length 2 (yU.l dj))::L):=iC o3 2
      have o5:Has h2 (((0),.sl (([]:List Int).length) 1 (ab.l ([]:List Int)))::L):=iC o4 1
      exact qt <| ajW (⟨rfl,_,oi H,⟨(0),kr,he o5⟩⟩)
     ·rcases eV H with⟨c6,H⟩| ⟨c6,H⟩
      ·refine qr [.b 5 c4,.b 12 c6] <| Bb <| qq <| q0 ?_
       have o6:Has h2 ((((0)),.sl (([]:List Int).length) 1 (ab.l ([]:List Int)))::(cK,.sl dj.length 2 (yU.l dj))::(bT,.sl cP.length 1 (ab.l cP))::L):=Has.nil o2 1
       have o7:Has h2 ((((0)),.sl (([]:List Int).length) 1 (ab.l ([]:List Int)))::(cK,.sl dj.length 2 (yU.l dj))::L):=iC o6 2
       have o8:Has h2 ((((0)),.sl (([]:List Int).length) 1 (ab.l ([]:List Int)))::L):=iC o7 1
       exact qt <| ajW (⟨rfl,_,oi H,⟨((0)),kr,he o8⟩⟩)
      ·rcases eV H with⟨c8,H⟩| ⟨c8,H⟩
       ·refine qr [.b 5 c4,.b 12 c6,.b 19 c8] <| Bb <| qq <| q0 ?_
        have o9:Has h2 (((((0))),.sl (([]:List Int).length) 1 (ab.l ([]:List Int)))::(cK,.sl dj.length 2 (yU.l dj))::(bT,.sl cP.length 1 (ab.l cP))::L):=Has.nil o2 1
        have s9:Has h2 (((((0))),.sl (([]:List Int).length) 1 (ab.l ([]:List Int)))::(cK,.sl dj.length 2 (yU.l dj))::L):=iC o9 2
        have qP:Has h2 (((((0))),.sl (([]:List Int).length) 1 (ab.l ([]:List Int)))::L):=iC s9 1
        exact qt <| ajW (⟨rfl,_,oi H,⟨(((0))),kr,he qP⟩⟩)
       ·refine qr [.b 5 c4,.b 12 c6,.b 19 c8] <| qc H (fun Ag H=>?_) (fun Ag H=>?_)
        ·refine q1 ?_
         have wP:Has h2 ((((((0)))),.sl (([]:List Int).length) 1 (ab.l ([]:List Int)))::(cK,.sl dj.length 2 (yU.l dj))::(bT,.sl cP.length 1 (ab.l cP))::L):=Has.nil o2 1
         have mX:Has h2 ((((((0)))),.sl (([]:List Int).length) 1 (ab.l ([]:List Int)))::(cK,.sl dj.length 2 (yU.l dj))::L):=iC wP 2
         have vW:Has h2 ((((((0)))),.sl (([]:List Int).length) 1 (ab.l ([]:List Int)))::L):=iC mX 1
         exact qt <| ajW (⟨rfl,_,oi H,⟨((((0)))),kr,he vW⟩⟩)
        ·refine qk <| qq <| q0 <| qb 2 ?_
         obtain⟨bp,rF,H⟩:=aP H
         refine ql (ax.iw L s0 bT cP i0 bT v1 v3 v4 v5   (dj,0) _ _ ⟨cK,h2,kr,o2⟩ rF) ?_
         rintro e s ⟨rfl,sj,k1,rfl,g0,g1,g2,g3,g4,g5,iy,h5,rfl,yX⟩
         try dsimp only at H
         refine qq ?_
         obtain⟨x2,s7,H⟩:=aP H
         refine qr [.a 3 (FL _ _ _ _ s7 h5 _ (ia (ai (cV (pure_cons (bM.aJ (E:=af) (l:=s0.ah)) (pure_cons (bM.aJ (E:=ab) (l:=s0.ao)) (pure_cons (bc) (pure_nil))))) (ai (aU) (ai (aU) (aD))))))] <| qq <| q0 <| qb 4 ?_
         obtain⟨cM,Bu,H⟩:=aP H
         refine ql (ax.mK L s0 i0 v1 v3 iy sj iy x2   (cP,0) _ _ ⟨bT,h5,kr,yX⟩ Bu) ?_
         rintro e s ⟨rfl,vw,k3,rfl,g6,g7,g8,g9,g10,kl,h9,rfl,yp⟩
         try dsimp only at H
         exact q0 <| ⟨(vw,sj,i64.wrap (i0+1)),⟨iy,kl,h9,kr,yp⟩,H⟩
    ·refine qk <| qq ?_
     obtain⟨x3,Bv,H⟩:=aP H
     refine qr [.a 3 (FL _ _ _ _ Bv h2 _ (ia (ai (cV (pure_cons (bM.aJ (E:=af) (l:=s0.ah)) (pure_cons (bM.aJ (E:=ab) (l:=s0.ao)) (pure_cons (bc) (pure_nil))))) (ai (aU) (ai (aU) (aD))))))] <| qq <| q0 <| qb 4 ?_
     obtain⟨fU,LR,H⟩:=aP H
     refine ql (ax.vz L s0 cK dj i0 cK v1 v3 x3   (cP,0) _ _ ⟨bT,h2,kr,o2⟩ LR) ?_
     rintro e s ⟨rfl,Oh,k5,rfl,g11,g12,g13,g14,g15,fC,h13,rfl,U3⟩
     try dsimp only at H
     exact q0 <| ⟨(Oh,dj,i64.wrap (i0+1)),⟨cK,fC,h13,kr,U3⟩,H⟩
   ·refine qr [.b 3 c2] <| Dr <| qk <| qq ?_
    obtain⟨x4,LS,H⟩:=aP H
    refine qr [.a 3 (FL _ _ _ _ LS h2 _ (ia (ai (cV (pure_cons (bM.aJ (E:=af) (l:=s0.ah)) (pure_cons (bM.aJ (E:=ab) (l:=s0.ao)) (pure_cons (bc) (pure_nil))))) (ai (aU) (ai (aU) (aD))))))] <| qq <| q0 <| qb 4 ?_
    obtain⟨mI,U4,H⟩:=aP H
    refine ql (ax.vA L s0 cK dj i0 cK v1 v3 x4   (cP,0) _ _ ⟨bT,h2,kr,o2⟩ U4) ?_
    rintro e s ⟨rfl,Oi,k7,rfl,g16,g17,g18,g19,g20,gJ,h17,rfl,Rx⟩
    try dsimp only at H
    exact q0 <| ⟨(Oi,dj,i64.wrap (i0+1)),⟨cK,gJ,h17,kr,Rx⟩,H⟩
 ·exact qx 0 <| akl (⟨rfl,cP,dj,i0,oi H,.fp [af.fz s0.ah,ab.fz s0.ao,.bool s0.aE] 0,.rs cK 0 dj.length 2,.i i0,.bool (decide (i0<(dj.length:Int))),cK,bT,h2,kr,o2⟩)
theorem po {aW:FuncId→b4}(ha:aW 90=vu)(FL:UL cf m)(s0:aj)(a0:Int)(b0:Int)(h:AHeap)(L:Mem)  (o:Has h (L)){out:(List Int) × Bool}(H:ax.f m s0 a0 b0=some out) :
  ∃r h',bj Tryz.prog aW cf m 90 [.fp [af.fz s0.ah,ab.fz s0.ao,.bool s0.aE] 0,.i a0,.i b0] h=some (r,h')∧∃cR:Nat,r = .tup [.rs cR 0 out.1.length 1,.bool out.2]∧Has h' ((cR,.sl out.1.length 1 (ab.l out.1))::L):=by
 refine aw (fn:=Tryz.f90) ha Tryz.func90 kr kr ?_
 refine aI (Q:=fun s=>ax.fin L out s) (fun _ _ ⟨h1,cR,h2,h3⟩=>⟨h1,_,h2,cR,rfl,h3⟩) ?_
 have H:_=some out:=H
 unfold ax.f at H
 show dE _ cf vu m _ ⟨.fp [af.fz s0.ah,ab.fz s0.ao,.bool s0.aE] 0 :: .i a0 :: .i b0::Ul [],[none,none,none],h⟩ _
 refine q1 <| qq ?_
 obtain⟨x0,e0,H⟩:=aP H
 obtain⟨aX,h0,e1,o0⟩:=Dh (P:=Tryz.prog) (E:=ab) (s:=.fz [] 0 true) (t2:=22) (x:=ab.fz s0.ao) (l2:=s0.ao) (.inr rfl) da o (zH (E:=ab) (l2:=s0.ao) _) rfl e0
 refine qr [.a 5 e1] <| qq ?_
 obtain⟨b7,h1,e2,o1⟩:=yT (E:=yU) (l:=[(wL.mk a0 b0)]) (cs:=[.i a0,.i b0]) o0 kr
 refine qr [.a 3 e2] <| qq <| qq <| q0 <| qb 0 ?_
 obtain⟨eK,Ry,H⟩:=aP H
 refine ql (ax.cm L s0 a0  FL (x0,[(wL.mk a0 b0)],0) _ _ ⟨b7,aX,h1,ld,(ow o1)⟩ Ry) ?_
 rintro e s (⟨rfl,JK,XL,i1,rfl,g21,g22,g23,g24,jo,kO,h18,rfl,Rz⟩| ⟨rfl,r0,rfl,r9⟩)
 ·try dsimp only at H
  refine q1 ?_
  have Tb:Has h18 ((kO,.sl JK.length 1 (ab.l JK))::L):=iC Rz 0
  obtain rfl:=oi H
  exact qt <| ⟨.inl rfl,⟨kO,kr,he Tb⟩⟩
 ·try dsimp only at H
  obtain rfl:=oi H
  exact⟨.inl rfl,r9⟩
end
def Ap:b4:=gL [0,1,2,6,7,27,29,30,31,37] [] [1016,990,1015,830,574,814,318,1015,830,1015] [] []
def eU.l0 (m:Nat)(s0:ByteArray):Nat→Int→Option (Sum Bool (Int))
 | 0,_=>none
 | k+1,x0=>if (decide (x0<(s0.size:Int)))=true then ((bt s0 x0).bind fun v2=>(jK.f m v2).bind fun x1=>if (!x1)=true then (some (.inl false)) else (eU.l0 m s0 k (i64.wrap (x0+1)))) else (some (.inr x0))
def eU.f (m:Nat)(s0:ByteArray)(oN:Int)(tG:Int):Option (Bool):=if (decide ((s0.size:Int)<1))=true then (some false) else (if (decide ((s0.size:Int) > 16))=true then (some false) else ((bt s0 0).bind fun v0=>if (decide (v0<oN))=true then (some false) else ((bt s0 0).bind fun v1=>if (decide (v1 > tG))=true then (some false) else ((eU.l0 m s0 m 0).bind fun bp=>match bp with | .inl r0=>some r0 | .inr x2=>some true))))
def eU.fin (L:Mem)(r:Bool)(s:St):Prop:=∃av,aK Tryz.prog (s.open Ap) Tryz.f108.results.toList=some av∧eX s.h av (.bool r)
def XN (cf:CallF)(m:Nat):Prop:=∀(s0:ByteArray) (oN:Int) (tG:Int) (r:Bool),eU.f m s0 oN tG=some r→∀h xs,bl cd h xs [.str s0,.int .u8 oN,.int .u8 tG]→cf 108 xs h=some (.bool r,h)
section
variable {cf:CallF}{m:Nat}
theorem eU.cm (L:Mem)(s0:ByteArray)  (Ol:UM cf m):b9 Tryz.prog cf Ap m (sub [1,1,0,1,0,0] (bw Tryz.f108)) (fun k (σ:Int)=>eU.l0 m s0 k σ) (fun σ s=>match σ with | x0=>∃h0,s=⟨.str s0::sO [.i (s0.size:Int),.i x0,.any,.any],[],h0⟩∧Has h0 (L)) (fun out e s=>(e = .exit 0∧∃x0,.inr x0=out∧∃lH U5 HQ HW h0,s=⟨lH::sO [U5,HQ,HW,.any],[],h0⟩∧Has h0 (L))∨(e = .ret∧∃r,.inl r=out∧eU.fin L r s)):=by
 refine jF (fun _=>rfl) ?_
 rintro k x0 s out ⟨h0,rfl,o0⟩ H
 have H:eU.l0 m s0 (k+1) x0=some out:=H
 refine q1 <| qq <| qc H (fun c7 H=>?_) (fun c7 H=>?_)
 ·refine qk <| qq <| qb 1 <| qq <| q0 <| qq ?_
  obtain⟨v2,e2,H⟩:=aP H
  obtain⟨x1,e3,H⟩:=aP H
  refine qr [.v 2 (rX (k:=.i64) U9 e2),.a 3 (Ol _ _ e3 h0 _ fq)] <| qc H (fun c8 H=>?_) (fun c8 H=>?_)
  ·exact q1 <| qt <| ajW (⟨rfl,_,oi H,pX (.bool false) h0 (oR (jh))⟩)
  ·exact qk <| q0 <| ⟨i64.wrap (x0+1),⟨h0,kr,o0⟩,H⟩
 ·exact qx 0 <| akl (⟨rfl,x0,oi H,.str s0,.i (s0.size:Int),.i x0,.bool (decide (x0<(s0.size:Int))),h0,kr,o0⟩)
theorem Aq {aW:FuncId→b4}(ha:aW 108=Ap)(Ol:UM cf m)(s0:ByteArray)(oN:Int)(tG:Int)(h:AHeap)(L:Mem)  (o:Has h (L)){out:Bool}(H:eU.f m s0 oN tG=some out) :
  ∃r h',bj Tryz.prog aW cf m 108 [.str s0,.int .u8 oN,.int .u8 tG] h=some (r,h')∧eX h' r (.bool out):=by
 refine aw (fn:=Tryz.f108) ha Tryz.func108 kr kr ?_
 refine aI (Q:=fun s=>eU.fin L out s) (fun _ _ h=>h) ?_
 have H:_=some out:=H
 unfold eU.f at H
 show dE _ cf Ap m _ ⟨.str s0 :: .int .u8 oN :: .int .u8 tG::B0 [],[],h⟩ _
 refine q1 <| qq <| qq ?_
 rcases eV H with⟨c0,H⟩| ⟨c0,H⟩
 ·exact qr [.b 3 c0] <| Bb <| qq <| q0 <| qt <| fB H
 ·rcases eV H with⟨c2,H⟩| ⟨c2,H⟩
  ·exact qr [.b 3 c0,.b 8 c2] <| Bb <| qq <| q0 <| qt <| fB H
  ·obtain⟨v0,e0,H⟩:=aP H
   rcases eV H with⟨c4,H⟩| ⟨c4,H⟩
   ·exact qr [.b 3 c0,.b 8 c2,.v 10 (rX (k:=.i64) U9 e0),.b 14 c4] <| Bb <| qq <| q0 <| qt <| fB H
   ·obtain⟨v1,e1,H⟩:=aP H
    refine qr [.b 3 c0,.b 8 c2,.v 10 (rX (k:=.i64) U9 e0),.b 14 c4,.v 16 (rX (k:=.i64) U9 e1)] <| qc H (fun c6 H=>?_) (fun c6 H=>?_)
    ·exact q1 <| qt <| fB H
    ·refine qk <| qq <| qq <| q0 <| qb 0 ?_
     obtain⟨bp,e4,H⟩:=aP H
     refine ql (eU.cm L s0  Ol 0 _ _ ⟨h,kr,o⟩ e4) ?_
     rintro e s (⟨rfl,x2,rfl,g0,g1,g2,g3,h1,rfl,o1⟩| ⟨rfl,r0,rfl,r9⟩)
     ·try dsimp only at H
      exact q1 <| qt <| fB H
     ·try dsimp only at H
      obtain rfl:=oi H
      exact⟨.inl rfl,r9⟩
end
def Ar:b4:=gL [0,2,3,11,15,22] [] [62,54,61,58,42,58,26,61,61] [] []
def dO.l0 (m:Nat)(s0:ByteArray):Nat→Int→Option (Sum Bool (Int))
 | 0,_=>none
 | k+1,i0=>if (decide (i0<(s0.size:Int)))=true then ((bt s0 i0).bind fun v0=>(jj.f m v0).bind fun x0=>if (!x0)=true then (some (.inl false)) else (dO.l0 m s0 k (i64.wrap (i0+1)))) else (some (.inr i0))
def dO.f (m:Nat)(s0:ByteArray):Option (Bool):=if (decide ((s0.size:Int)<1))=true then (some false) else (if (decide ((s0.size:Int) > 16))=true then (some false) else ((dO.l0 m s0 m 0).bind fun bp=>match bp with | .inl r0=>some r0 | .inr i1=>some true))
def dO.fin (L:Mem)(r:Bool)(s:St):Prop:=∃av,aK Tryz.prog (s.open Ar) Tryz.f111.results.toList=some av∧eX s.h av (.bool r)
def XO (cf:CallF)(m:Nat):Prop:=∀(s0:ByteArray) (r:Bool),dO.f m s0=some r→∀h xs,bl cd h xs [.str s0]→cf 111 xs h=some (.bool r,h)
section
variable {cf:CallF}{m:Nat}
theorem dO.cm (L:Mem)(s0:ByteArray)  (Om:UN cf m):b9 Tryz.prog cf Ar m (sub [1,1,0,1,0,0] (bw Tryz.f111)) (fun k (σ:Int)=>dO.l0 m s0 k σ) (fun σ s=>match σ with | i0=>∃h0,s=⟨.str s0 :: .any :: .i i0::nc [],[],h0⟩∧Has h0 (L)) (fun out e s=>(e = .exit 0∧∃i0,.inr i0=out∧∃lH Br DO h0,s=⟨[lH,.any,Br,.any,DO,.any],[],h0⟩∧Has h0 (L))∨(e = .ret∧∃r,.inl r=out∧dO.fin L r s)):=by
 refine jF (fun _=>rfl) ?_
 rintro k i0 s out ⟨h0,rfl,o0⟩ H
 have H:dO.l0 m s0 (k+1) i0=some out:=H
 refine qq <| qq <| q0 <| qc H (fun c3 H=>?_) (fun c3 H=>?_)
 ·refine qk <| qq <| qb 1 <| qq ?_
  obtain⟨v0,e0,H⟩:=aP H
  obtain⟨x0,e1,H⟩:=aP H
  refine qr [.v 2 (rX (k:=.i64) U9 e0),.a 3 (Om _ _ e1 h0 _ fq)] <| qc H (fun c4 H=>?_) (fun c4 H=>?_)
  ·exact q1 <| qt <| ajW (⟨rfl,_,oi H,pX (.bool false) h0 (oR (jh))⟩)
  ·exact qk <| q0 <| ⟨i64.wrap (i0+1),⟨h0,kr,o0⟩,H⟩
 ·exact qx 0 <| akl (⟨rfl,i0,oi H,.str s0,.i i0,.bool (decide (i0<(s0.size:Int))),h0,kr,o0⟩)
theorem yq {aW:FuncId→b4}(ha:aW 111=Ar)(Om:UN cf m)(s0:ByteArray)(h:AHeap)(L:Mem)  (o:Has h (L)){out:Bool}(H:dO.f m s0=some out) :
  ∃r h',bj Tryz.prog aW cf m 111 [.str s0] h=some (r,h')∧eX h' r (.bool out):=by
 refine aw (fn:=Tryz.f111) ha Tryz.func111 kr kr ?_
 refine aI (Q:=fun s=>dO.fin L out s) (fun _ _ h=>h) ?_
 have H:_=some out:=H
 unfold dO.f at H
 show dE _ cf Ar m _ ⟨.str s0::sO [],[],h⟩ _
 refine q1 <| qq <| qq ?_
 rcases eV H with⟨c0,H⟩| ⟨c0,H⟩
 ·exact qr [.b 3 c0] <| Bb <| qq <| q0 <| qt <| fB H
 ·refine qr [.b 3 c0] <| qc H (fun c2 H=>?_) (fun c2 H=>?_)
  ·exact q1 <| qt <| fB H
  ·refine qk <| qq <| qq <| q0 <| qb 0 ?_
   obtain⟨bp,e2,H⟩:=aP H
   refine ql (dO.cm L s0  Om 0 _ _ ⟨h,kr,o⟩ e2) ?_
   rintro e s (⟨rfl,i1,rfl,g0,g1,g2,h1,rfl,o1⟩| ⟨rfl,r0,rfl,r9⟩)
   ·try dsimp only at H
    exact q1 <| qt <| fB H
   ·try dsimp only at H
    obtain rfl:=oi H
    exact⟨.inl rfl,r9⟩
end
def DT:b4:=gL [0,1,4,5,6,11,12,13,16,19] [] [1020,1012,996,972,959,1019,1019,892,1019,764,1019,511,1019,1019] [] []
def eS.f (m:Nat)(x0:Int)(y0:Int):Option (Int):=(cmp_isNaN_int.f m x0).bind fun x1=>(cmp_isNaN_int.f m y0).bind fun x2=>if x1=true then (if x2=true then (some 0) else (some (-1:Int))) else (if x2=true then (some 1) else (if (decide (x0<y0))=true then (some (-1:Int)) else (if (decide (x0 > y0))=true then (some 1) else (some 0))))
def eS.fin (L:Mem)(r:Int)(s:St):Prop:=∃av,aK Tryz.prog (s.open DT) Tryz.f127.results.toList=some av∧eX s.h av (.i r)
def XP (cf:CallF)(m:Nat):Prop:=∀(x0:Int) (y0:Int) (r:Int),eS.f m x0 y0=some r→∀h xs,bl cd h xs [.i x0,.i y0]→cf 127 xs h=some (.i r,h)
section
variable {cf:CallF}{m:Nat}
theorem so {aW:FuncId→b4}(ha:aW 127=DT)(Td:XC cf m)(x0:Int)(y0:Int)(h:AHeap)(L:Mem)  (o:Has h (L)){out:Int}(H:eS.f m x0 y0=some out) :
  ∃r h',bj Tryz.prog aW cf m 127 [.i x0,.i y0] h=some (r,h')∧eX h' r (.i out):=by
 refine aw (fn:=Tryz.f127) ha Tryz.func127 kr kr ?_
 refine aI (Q:=fun s=>eS.fin L out s) (fun _ _ h=>h) ?_
 have H:_=some out:=H
 unfold eS.f at H
 show dE _ cf DT m _ ⟨.i x0 :: .i y0::tX [],[],h⟩ _
 refine q1 <| qq ?_
 obtain⟨x1,e0,H⟩:=aP H
 refine qr [.a 1 (Td _ _ e0 h _ fq)] <| qq ?_
 obtain⟨x2,e1,H⟩:=aP H
 refine qr [.a 1 (Td _ _ e1 h _ fq)] <| qq <| qq <| q0 <| qc H (fun c0 H=>?_) (fun c0 H=>?_)
 ·refine qq <| qq <| q0 <| qc H (fun c1 H=>?_) (fun c1 H=>?_)
  ·exact q1 <| qt <| fI H
  ·exact qk <| qq <| q0 <| qt <| fI H
 ·refine qk <| qq <| qq <| q0 <| qc H (fun c2 H=>?_) (fun c2 H=>?_)
  ·exact q1 <| qt <| fI H
  ·refine qk <| qq <| qq <| q0 <| qc H (fun c3 H=>?_) (fun c3 H=>?_)
   ·exact q1 <| qt <| fI H
   ·refine qk <| qq <| qq <| q0 <| qc H (fun c4 H=>?_) (fun c4 H=>?_)
    ·exact q1 <| qt <| fI H
    ·exact qk <| qq <| q0 <| qt <| fI H
end
def DU:b4:=gL [0,1,4,5,6,11,12,13,16,19] [] [1020,1012,996,972,959,1019,1019,892,1019,764,1019,511,1019,1019] [] []
def dP.f (m:Nat)(x0:ByteArray)(y0:ByteArray):Option (Int):=(cmp_isNaN_string.f m x0).bind fun x1=>(cmp_isNaN_string.f m y0).bind fun x2=>if x1=true then (if x2=true then (some 0) else (some (-1:Int))) else (if x2=true then (some 1) else (if (Op.bytesLess x0.data.toList y0.data.toList)=true then (some (-1:Int)) else (if (!NF x0 y0)=true then (some 1) else (some 0))))
def dP.fin (L:Mem)(r:Int)(s:St):Prop:=∃av,aK Tryz.prog (s.open DU) Tryz.f129.results.toList=some av∧eX s.h av (.i r)
def XQ (cf:CallF)(m:Nat):Prop:=∀(x0:ByteArray) (y0:ByteArray) (r:Int),dP.f m x0 y0=some r→∀h xs,bl cd h xs [.str x0,.str y0]→cf 129 xs h=some (.i r,h)
section
variable {cf:CallF}{m:Nat}
theorem pq {aW:FuncId→b4}(ha:aW 129=DU)(Te:XD cf m)(x0:ByteArray)(y0:ByteArray)(h:AHeap)(L:Mem)  (o:Has h (L)){out:Int}(H:dP.f m x0 y0=some out) :
  ∃r h',bj Tryz.prog aW cf m 129 [.str x0,.str y0] h=some (r,h')∧eX h' r (.i out):=by
 refine aw (fn:=Tryz.f129) ha Tryz.func129 kr kr ?_
 refine aI (Q:=fun s=>dP.fin L out s) (fun _ _ h=>h) ?_
 have H:_=some out:=H
 unfold dP.f at H
 show dE _ cf DU m _ ⟨.str x0 :: .str y0::tX [],[],h⟩ _
 refine q1 <| qq ?_
 obtain⟨x1,e0,H⟩:=aP H
 refine qr [.a 1 (Te _ _ e0 h _ fq)] <| qq ?_
 obtain⟨x2,e1,H⟩:=aP H
 refine qr [.a 1 (Te _ _ e1 h _ fq)] <| qq <| qq <| q0 <| qc H (fun c0 H=>?_) (fun c0 H=>?_)
 ·refine qq <| qq <| q0 <| qc H (fun c1 H=>?_) (fun c1 H=>?_)
  ·exact q1 <| qt <| fI H
  ·exact qk <| qq <| q0 <| qt <| fI H
 ·refine qk <| qq <| qq <| q0 <| qc H (fun c2 H=>?_) (fun c2 H=>?_)
  ·exact q1 <| qt <| fI H
  ·refine qk <| qq <| qq <| q0 <| qc H (fun c3 H=>?_) (fun c3 H=>?_)
   ·exact q1 <| qt <| fI H
   ·refine qk <| qq <| qq <| q0 <| qc H (fun c4 H=>?_) (fun c4 H=>?_)
    ·exact q1 <| qt <| fI H
    ·exact qk <| qq <| q0 <| qt <| fI H
end
def As:b4:=gL [0,1,2,3,8,9,13,42] [] [240,208,144,208,80,239,239] [] []
def dB.l0 (m:Nat)(l0:List ak)(dU:List Int)(n0:Int)(ck:List Int):Nat→Int→Option (Sum Int (Int))
 | 0,_=>none
 | k+1,k0=>if (decide (k0<(dU.length:Int)))=true then ((ix l0 n0).bind fun v0=>(ix dU k0).bind fun v1=>(ix l0 v1).bind fun v2=>(gz.f m v0 v2).bind fun x0=>if x0=true then ((ix l0 n0).bind fun v3=>(ix dU k0).bind fun v4=>(ix l0 v4).bind fun v5=>(cb.f m v3 v5 ck).bind fun x1=>if x1=true then ((ix dU k0).bind fun v6=>some (.inl v6)) else (dB.l0 m l0 dU n0 ck k (i64.wrap (k0+1)))) else (dB.l0 m l0 dU n0 ck k (i64.wrap (k0+1)))) else (some (.inr k0))
def dB.f (m:Nat)(l0:List ak)(dU:List Int)(n0:Int)(ck:List Int):Option (Int):=(dB.l0 m l0 dU n0 ck m 0).bind fun bp=>match bp with | .inl r0=>some r0 | .inr k1=>some n0
def dB.fin (L:Mem)(r:Int)(s:St):Prop:=∃av,aK Tryz.prog (s.open As) Tryz.f143.results.toList=some av∧eX s.h av (.i r)
def RA (cf:CallF)(m:Nat):Prop:=∀(l0:List ak) (dU:List Int) (n0:Int) (ck:List Int) (r:Int),dB.f m l0 dU n0 ck=some r→∀h xs,bl cd h xs [af.fz l0,ab.fz dU,.i n0,ab.fz ck]→cf 143 xs h=some (.i r,h)
section
variable {cf:CallF}{m:Nat}
theorem dB.cm (L:Mem)(l0:List ak)(dU:List Int)(n0:Int)(ck:List Int)  (vo:S4 cf m)(sq:HL cf m):b9 Tryz.prog cf As m (sub [1,0,1,0,0] (bw Tryz.f143)) (fun k (σ:Int)=>dB.l0 m l0 dU n0 ck k σ) (fun σ s=>match σ with | k0=>∃h0,s=⟨[af.fz l0,ab.fz dU,.i n0,ab.fz ck,.any,.i k0,.any,.any],[],h0⟩∧Has h0 (L)) (fun out e s=>(e = .exit 0∧∃k0,.inr k0=out∧∃lH wO Br vg pZ h0,s=⟨[lH,wO,.i n0,Br,.any,vg,pZ,.any],[],h0⟩∧Has h0 (L))∨(e = .ret∧∃r,.inl r=out∧dB.fin L r s)):=by
 refine jF (fun _=>rfl) ?_
 rintro k k0 s out ⟨h0,rfl,o0⟩ H
 have H:dB.l0 m l0 dU n0 ck (k+1) k0=some out:=H
 refine qq <| qq <| q0 <| qc H (fun c0 H=>?_) (fun c0 H=>?_)
 ·refine qk <| qq <| qb 1 <| qq ?_
  obtain⟨v0,e0,H⟩:=aP H
  obtain⟨v1,e1,H⟩:=aP H
  obtain⟨v2,e2,H⟩:=aP H
  obtain⟨x0,e3,H⟩:=aP H
  rcases eV H with⟨c1,H⟩| ⟨c1,H⟩
  ·obtain⟨v3,e4,H⟩:=aP H
   obtain⟨v4,e5,H⟩:=aP H
   obtain⟨v5,e6,H⟩:=aP H
   obtain⟨x1,e7,H⟩:=aP H
   refine qr [.v 2 (bN (k:=.i64) (E:=af) (l:=l0) lJ e0),.v 3 (fZ  (E:=af) (l:=l0) h0 tE tF e0),.v 7 (bN (k:=.i64) (E:=ab) (l:=dU) da e1),.v 8 (cO  (E:=ab) (l:=dU) h0 A3 e1 rfl),.v 9 (bN (k:=.i64) (E:=af) (l:=l0) lJ e2),.v 10 (fZ  (E:=af) (l:=l0) h0 tE tF e2),.a 11 (vo _ _ _ e3 h0 _ fq),.b 12 c1,.v 15 (bN (k:=.i64) (E:=af) (l:=l0) lJ e4),.v 16 (fZ  (E:=af) (l:=l0) h0 tE tF e4),.v 20 (bN (k:=.i64) (E:=ab) (l:=dU) da e5),.v 21 (cO  (E:=ab) (l:=dU) h0 A3 e5 rfl),.v 22 (bN (k:=.i64) (E:=af) (l:=l0) lJ e6),.v 23 (fZ  (E:=af) (l:=l0) h0 tE tF e6),.a 25 (sq _ _ _ _ e7 h0 _ fq)] ?_
   refine qc H (fun c2 H=>?_) (fun c2 H=>?_)
   ·refine qq ?_
    obtain⟨v6,e8,H⟩:=aP H
    exact qr [.v 2 (bN (k:=.i64) (E:=ab) (l:=dU) da e8),.v 3 (cO  (E:=ab) (l:=dU) h0 A3 e8 rfl)] <| qt <| ajW (⟨rfl,_,oi H,pX (.i v6) h0 (oR (fw))⟩)
   ·exact qk <| q0 <| ⟨i64.wrap (k0+1),⟨h0,kr,o0⟩,H⟩
  ·exact qr [.v 2 (bN (k:=.i64) (E:=af) (l:=l0) lJ e0),.v 3 (fZ  (E:=af) (l:=l0) h0 tE tF e0),.v 7 (bN (k:=.i64) (E:=ab) (l:=dU) da e1),.v 8 (cO  (E:=ab) (l:=dU) h0 A3 e1 rfl),.v 9 (bN (k:=.i64) (E:=af) (l:=l0) lJ e2),.v 10 (fZ  (E:=af) (l:=l0) h0 tE tF e2),.a 11 (vo _ _ _ e3 h0 _ fq),.b 12 c1] <| Dr <| qk <| q0 <| ⟨i64.wrap (k0+1),⟨h0,kr,o0⟩,H⟩
 ·exact qx 0 <| akl (⟨rfl,k0,oi H,af.fz l0,ab.fz dU,ab.fz ck,.i k0,.bool (decide (k0<(dU.length:Int))),h0,kr,o0⟩)
theorem yr {aW:FuncId→b4}(ha:aW 143=As)(vo:S4 cf m)(sq:HL cf m)(l0:List ak)(dU:List Int)(n0:Int)(ck:List Int)(h:AHeap)(L:Mem)  (o:Has h (L)){out:Int}(H:dB.f m l0 dU n0 ck=some out) :
  ∃r h',bj Tryz.prog aW cf m 143 [af.fz l0,ab.fz dU,.i n0,ab.fz ck] h=some (r,h')∧eX h' r (.i out):=by
 refine aw (fn:=Tryz.f143) ha Tryz.func143 kr kr ?_
 refine aI (Q:=fun s=>dB.fin L out s) (fun _ _ h=>h) ?_
 have H:_=some out:=H
 unfold dB.f at H
 show dE _ cf As m _ ⟨af.fz l0::ab.fz dU :: .i n0::ab.fz ck::l9 [],[],h⟩ _
 refine q1 <| qq <| qq <| q0 <| qb 0 ?_
 obtain⟨bp,e9,H⟩:=aP H
 refine ql (dB.cm L l0 dU n0 ck  vo sq 0 _ _ ⟨h,kr,o⟩ e9) ?_
 rintro e s (⟨rfl,k1,rfl,g0,g1,g2,g3,g4,h1,rfl,o1⟩| ⟨rfl,r0,rfl,r9⟩)
 ·try dsimp only at H
  exact q1 <| qt <| fI H
 ·try dsimp only at H
  obtain rfl:=oi H
  exact⟨.inl rfl,r9⟩
end
def Au:b4:=gL [0,1,2,3,4,10,11,20,23] [] [450,394,266,138,394,394,394,394,511] [] []
def iX.l0 (m:Nat)(m0:Int)(bD:Int→Int→Option (Int)):Nat→(List Int)→Int→Int→Option ((List Int) × Int × Int)
 | 0,_,_,_=>none
 | k+1,cg,i0,j0=>if (!(i0==j0))=true then (if (decide (i0 > j0))=true then ((dr.f m cg (i64.wrap (m0 - i0)) m0 j0 bD).bind fun x0=>iX.l0 m m0 bD k x0 (i64.wrap (i0 - j0)) j0) else ((dr.f m cg (i64.wrap (m0 - i0)) (i64.wrap (i64.wrap (m0+j0) - i0)) i0 bD).bind fun x1=>iX.l0 m m0 bD k x1 i0 (i64.wrap (j0 - i0)))) else (some ((cg,i0,j0)))
def iX.f (m:Nat)(aG:List Int)(a0:Int)(m0:Int)(b0:Int)(bD:Int→Int→Option (Int)):Option ((List Int)):=(iX.l0 m m0 bD m aG (i64.wrap (m0 - a0)) (i64.wrap (b0 - m0))).bind fun bp=>match bp with | (fe,i1,j1)=>(dr.f m fe (i64.wrap (m0 - i1)) m0 i1 bD).bind fun x2=>some x2
def iX.fin (L:Mem)(aX:Nat)(aG:List Int)(a0:Int)(m0:Int)(b0:Int)(bD:Int→Int→Option (Int))(r:(List Int))(s:St):Prop:=aK Tryz.prog (s.open Au) Tryz.f148.results.toList=some (.tup [])∧Has s.h ((aX,.sl aG.length 1 (ab.l r))::L)
def XR (cf:CallF)(m:Nat):Prop:=∀(aG:List Int) (a0:Int) (m0:Int) (b0:Int) (bD:Int→Int→Option (Int)) (r:(List Int)),iX.f m aG a0 m0 b0 bD=some r→∀h L (dZ:Nat) (aX:Nat),Has h ((aX,.sl dZ 1 (ab.l aG))::L)→∀(iQ:FuncId) (bS bE:List AV),(ba (.fn iQ bS) = .fn iQ bS)→(∀(h:AHeap) (xs:List AV) (a0:Int) (a1:Int) r,bD a0 a1=some r→bl cd h xs ([.i a0,.i a1]++bE)→cf iQ xs h=some (.i r,h))→(∀h K,Has h (K++(L))→bl ez h bS bE)→(∀h,bl ez h bE bE)→∀xs,xs.map ba=[.rs aX 0 dZ 1,.i a0,.i m0,.i b0,.fn iQ bS]→∃h',cf 148 xs h=some (.tup [],h')∧Has h' ((aX,.sl dZ 1 (ab.l r))::L)
section
variable {cf:CallF}{m:Nat}
theorem iX.cm (L:Mem)(aX:Nat)(iQ:FuncId)(bS bE:List AV)(aG:List Int)(a0:Int)(m0:Int)(b0:Int)(bD:Int→Int→Option (Int))  (lT:ba (.fn iQ bS) = .fn iQ bS)(kX:∀(h:AHeap) (xs:List AV) (a0:Int) (a1:Int) r,bD a0 a1=some r→bl cd h xs ([.i a0,.i a1]++bE)→cf iQ xs h=some (.i r,h))(kY:∀h K,Has h (K++(L))→bl ez h bS bE)(lU:∀h,bl ez h bE bE)(FM:UQ cf m):b9 Tryz.prog cf Au m (sub [1,1,0,0,0] (bw Tryz.f148)) (fun k (σ:(List Int) × Int × Int)=>iX.l0 m m0 bD k σ.1 σ.2.1 σ.2.2) (fun σ s=>match σ with | (cg,i0,j0)=>∃h0,s=⟨[.rs aX 0 aG.length 1,.any,.i m0,.any,.fn iQ bS,.i i0,.i j0,.any,.any],[],h0⟩∧Has h0 ((aX,.sl aG.length 1 (ab.l cg))::L)) (fun out e s=>(e = .exit 0∧∃cg i0 j0,(cg,i0,j0)=out∧∃An UU h0,s=⟨[.rs aX 0 aG.length 1,.any,.i m0,.any,.fn iQ bS,.i i0,An,UU,.any],[],h0⟩∧Has h0 ((aX,.sl aG.length 1 (ab.l cg))::L))):=by
 refine jF (fun _=>rfl) ?_
 rintro k ⟨cg,i0,j0⟩ s out ⟨h0,rfl,o0⟩ H
 have H:iX.l0 m m0 bD (k+1) cg i0 j0=some out:=H
 refine qq <| qq <| q0 <| qc H (fun c0 H=>?_) (fun c0 H=>?_)
 ·refine qk <| qb 1 <| qq <| q0 <| qc H (fun c1 H=>?_) (fun c1 H=>?_)
  ·refine qq ?_
   obtain⟨x0,e0,H⟩:=aP H
   obtain⟨h1,e1,o1⟩:=FM _ _ _ _ _ _ e0 h0 _ _ _ (o0) iQ bS bE lT kX (fun h' K' o'=>kY h' (K'++[]) (by simpa only [ai7,ajv,ajj] using o')) lU [.rs aX 0 aG.length 1,.i (i64.wrap (m0 - i0)),.i m0,.i j0,.fn iQ bS] cq
   exact qr [.a 7 e1] <| q0 <| ⟨(x0,i64.wrap (i0 - j0),j0),⟨h1,kr,o1⟩,H⟩
  ·refine qq ?_
   obtain⟨x1,e2,H⟩:=aP H
   obtain⟨h2,e3,o2⟩:=FM _ _ _ _ _ _ e2 h0 _ _ _ (o0) iQ bS bE lT kX (fun h' K' o'=>kY h' (K'++[]) (by simpa only [ai7,ajv,ajj] using o')) lU [.rs aX 0 aG.length 1,.i (i64.wrap (m0 - i0)),.i (i64.wrap (i64.wrap (m0+j0) - i0)),.i i0,.fn iQ bS] cq
   exact qr [.a 11 e3] <| q0 <| ⟨(x1,i0,i64.wrap (j0 - i0)),⟨h2,kr,o2⟩,H⟩
 ·exact qx 0 <| ⟨rfl,cg,i0,j0,oi H,.i j0,.bool (!(i0==j0)),h0,kr,o0⟩
theorem DV {aW:FuncId→b4}(ha:aW 148=Au)(FM:UQ cf m)(aG:List Int)(a0:Int)(m0:Int)(b0:Int)(bD:Int→Int→Option (Int))(h:AHeap)(L:Mem)(aX:Nat)(iQ:FuncId)(bS bE:List AV)  (lT:ba (.fn iQ bS) = .fn iQ bS)(kX:∀(h:AHeap) (xs:List AV) (a0:Int) (a1:Int) r,bD a0 a1=some r→bl cd h xs ([.i a0,.i a1]++bE)→cf iQ xs h=some (.i r,h))(kY:∀h K,Has h (K++(L))→bl ez h bS bE)(lU:∀h,bl ez h bE bE)(o:Has h ((aX,.sl aG.length 1 (ab.l aG))::L)){out:(List Int)}(H:iX.f m aG a0 m0 b0 bD=some out) :
  ∃r h',bj Tryz.prog aW cf m 148 [.rs aX 0 aG.length 1,.i a0,.i m0,.i b0,.fn iQ bS] h=some (r,h')∧r = .tup []∧Has h' ((aX,.sl aG.length 1 (ab.l out))::L):=by
 refine aw (fn:=Tryz.f148) ha Tryz.func148 kr kr ?_
 refine aI (Q:=fun s=>iX.fin L aX aG a0 m0 b0 bD out s) (fun _ _ ⟨h1,h2,h3⟩=>⟨h1,_,h2,rfl,h3⟩) ?_
 have H:_=some out:=H
 unfold iX.f at H
 show dE _ cf Au m _ ⟨.rs aX 0 aG.length 1 :: .i a0 :: .i m0 :: .i b0 :: .fn iQ bS::l9 [],[],h⟩ _
 refine q1 <| qq <| q0 <| qq <| qb 0 ?_
 obtain⟨bp,e4,H⟩:=aP H
 refine ql (iX.cm L aX iQ bS bE aG a0 m0 b0 bD  lT kX kY lU FM (aG,i64.wrap (m0 - a0),i64.wrap (b0 - m0)) _ _ ⟨h,kr,o⟩ e4) ?_
 rintro e s ⟨rfl,fe,i1,j1,rfl,g0,g1,h3,rfl,o3⟩
 try dsimp only at H
 obtain⟨x2,e5,H⟩:=aP H
 obtain⟨h4,e6,o4⟩:=FM _ _ _ _ _ _ e5 h3 _ _ _ (o3) iQ bS bE lT kX (fun h' K' o'=>kY h' (K'++[]) (by simpa only [ai7,ajv,ajj] using o')) lU [.rs aX 0 aG.length 1,.i (i64.wrap (m0 - i1)),.i m0,.i i1,.fn iQ bS] cq
 obtain rfl:=oi H
 exact qr [.a 7 e6] <| ⟨.inr rfl,⟨kr,he o4⟩⟩
end
def JO:b4:=gL [0,1,2,4,5,6,7] [] [102,31] [] []
def gP.f (m:Nat)(s0:ae)(bZ:ByteArray)(n0:Int):Option (Int × Int × ae):=(dF.f m s0 (eQ.f m bZ n0) (ak.mk 4 n0 bZ ([]))).bind fun x0=>some (x0.1,x0.2.1,x0.2.2)
def gP.fin (L:Mem)(au:Nat)(aq:Nat)(az:Nat)(s0:ae)(bZ:ByteArray)(n0:Int)(r:Int × Int × ae)(s:St):Prop:=∃aB aC:Nat,aK Tryz.prog (s.open JO) Tryz.f44.results.toList=some (.tup [.i r.1,.i r.2.1])∧Has s.h ((au,.ob [.bool r.2.2.ay,.rs aB 0 r.2.2.aa.length 4,.rs aC 0 r.2.2.an.length 1])::(aB,.sl r.2.2.aa.length 4 (af.l r.2.2.aa))::(aC,.sl r.2.2.an.length 1 (ab.l r.2.2.an))::L)
def S44 (cf:CallF)(m:Nat):Prop:=∀(s0:ae) (bZ:ByteArray) (n0:Int) (r:Int × Int × ae),gP.f m s0 bZ n0=some r→∀h L (au:Nat) (aq:Nat) (az:Nat),Has h ((au,.ob [.bool s0.ay,.rs aq 0 s0.aa.length 4,.rs az 0 s0.an.length 1])::(aq,.sl s0.aa.length 4 (af.l s0.aa))::(az,.sl s0.an.length 1 (ab.l s0.an))::L)→∀xs,xs.map ba=[.ptr au 0,.str bZ,.i n0]→∃aB aC h',cf 44 xs h=some (.tup [.i r.1,.i r.2.1],h')∧Has h' ((au,.ob [.bool r.2.2.ay,.rs aB 0 r.2.2.aa.length 4,.rs aC 0 r.2.2.an.length 1])::(aB,.sl r.2.2.aa.length 4 (af.l r.2.2.aa))::(aC,.sl r.2.2.an.length 1 (ab.l r.2.2.an))::L)
section
variable {cf:CallF}{m:Nat}
theorem rl {aW:FuncId→b4}(ha:aW 44=JO)(DL:Wa cf m)(aaW:S86 cf m)(s0:ae)(bZ:ByteArray)(n0:Int)(h:AHeap)(L:Mem)(au:Nat)(aq:Nat)(az:Nat)  (o:Has h ((au,.ob [.bool s0.ay,.rs aq 0 s0.aa.length 4,.rs az 0 s0.an.length 1])::(aq,.sl s0.aa.length 4 (af.l s0.aa))::(az,.sl s0.an.length 1 (ab.l s0.an))::L)){out:Int × Int × ae}(H:gP.f m s0 bZ n0=some out) :
  ∃r h',bj Tryz.prog aW cf m 44 [.ptr au 0,.str bZ,.i n0] h=some (r,h')∧∃aB aC:Nat,r = .tup [.i out.1,.i out.2.1]∧Has h' ((au,.ob [.bool out.2.2.ay,.rs aB 0 out.2.2.aa.length 4,.rs aC 0 out.2.2.an.length 1])::(aB,.sl out.2.2.aa.length 4 (af.l out.2.2.aa))::(aC,.sl out.2.2.an.length 1 (ab.l out.2.2.an))::L):=by
 refine aw (fn:=Tryz.f44) ha Tryz.func44 kr kr ?_
 refine aI (Q:=fun s=>gP.fin L au aq az s0 bZ n0 out s) (fun _ _ ⟨h1,aB,aC,h2,h3⟩=>⟨h1,_,h2,aB,aC,rfl,h3⟩) ?_
 have H:_=some out:=H
 unfold gP.f at H
 show dE _ cf JO m _ ⟨.ptr au 0 :: .str bZ :: .i n0::l9 [],[],h⟩ _
 refine qq ?_
 obtain⟨aX,h0,e0,o0⟩:=ja (cs:=[.str bZ]) o kr
 obtain⟨b7,h1,e1,o1⟩:=ja (cs:=[.i n0]) o0 kr
 refine qr [.a 0 e0,.a 1 e1] <| qq ?_
 obtain⟨x0,e2,H⟩:=aP H
 obtain⟨bT,cK,h2,e3,o2⟩:=DL _ _ _ _ e2 h1 _ _ _ _ ((bI (bI (bI (bI (bI o1 1) 1) 4) 4) 4)) 86 [.ptr aX 0,.ptr b7 0] [.fp [.str bZ] 0,.fp [.i n0] 0] rfl (fun h' Ak  r hr hx=>aaW _ _ r hr h' Ak hx) (fun h' K' o'=>lC (ai (dM (q:=(K'.length+4)) o' (mg rfl) (ai (iB) (aD))) (ai (dM (q:=(K'.length+3)) o' (mg rfl) (ai (aU) (aD))) (aD)))) (fun h_=>lC (ai (cV (pure_cons (rV) (pure_nil))) (ai (cV (pure_cons (jg) (pure_nil))) (aD)))) [.ptr au 0,.fn 86 [.ptr aX 0,.ptr b7 0],.agg [.i 4,.i n0,.str bZ,.nils]] (fy (rfl) (fy (rfl) (fy (lR (nG (b5 (ig) (b5 (ig) (b5 (pV) (b5 (ou (E:=ab)) (jR))))))) cq)))
 refine qr [.v 2 (show bR Tryz.prog h1 9 (.ptr aX 0)=some (.str bZ) from cJ (q:=1) (cs:=[.str bZ]) o1 rfl kr),.v 3 (show bR Tryz.prog h1 3 (.ptr b7 0)=some (.i n0) from cJ (q:=0) (cs:=[.i n0]) o1 rfl kr),.a 5 e3] ?_
 have o3:Has h2 ((au,.ob [.bool x0.2.2.ay,.rs bT 0 x0.2.2.aa.length 4,.rs cK 0 x0.2.2.an.length 1])::(bT,.sl x0.2.2.aa.length 4 (af.l x0.2.2.aa))::(cK,.sl x0.2.2.an.length 1 (ab.l x0.2.2.an))::(b7,.ob [.i n0])::L):=iC o2 4
 have o4:Has h2 ((au,.ob [.bool x0.2.2.ay,.rs bT 0 x0.2.2.aa.length 4,.rs cK 0 x0.2.2.an.length 1])::(bT,.sl x0.2.2.aa.length 4 (af.l x0.2.2.aa))::(cK,.sl x0.2.2.an.length 1 (ab.l x0.2.2.an))::L):=iC o3 3
 obtain rfl:=oi H
 exact qt <| ⟨.inl rfl,⟨bT,cK,kr,he o4⟩⟩
end
end Go.Proofs.YtifafejidnjckaaGreat
