/- Part of the proof: Q145, Q149, Q13, Q14, Q18, Q19, Q26, Q30, Q34, Q52, Q54, Q56, Q57, Q60, Q61, Q63, Q64, Q68, Q70, Q77, Q83, Q84, Q86, Q90, Q100, Q108, Q111, Q122, Q123, Q124, Q127, Q129, Q135, Q136, Q143, Q147. -/
import Derived.Test.YtifafejidnjckaaGreatK7
set_option linter.unusedVariables false
set_option linter.unusedSimpArgs false
set_option maxRecDepth 100000
open ByteArray renaming mk → ab7
open Eq renaming trans → acq
open List renaming length_set → abF
open Or renaming inr → ac3
namespace Go.Proofs.YtifafejidnjckaaGreat
open Go Go.R
open Go.IntKind (i64 u64 u8 u32)
def se:cu:=gj [0,1,2,3,8,9,14,34] [] [224,160,224,192,64,192,192] [] []
def be.l1 (m:Nat)(a0:Int)(bb:Int→Int→Option (Int)):Nat→(List Int)→Int→Option ((List Int) × Int)
 | 0,_,_=>none
 | k+1,dY,j0=>if (decide (j0 > a0))=true then ((ix dY j0).bind fun v0=>(ix dY (i64.wrap (j0 - (1:Int)))).bind fun v1=>(bb v0 v1).bind fun r0=>if (decide (r0<(0:Int)))=true then ((ix dY (i64.wrap (j0 - (1:Int)))).bind fun v2=>(ix dY j0).bind fun v3=>(ix dY j0).bind fun v4=>(ix (dY.set j0.toNat v2) (i64.wrap (j0 - (1:Int)))).bind fun v5=>be.l1 m a0 bb k ((dY.set j0.toNat v2).set (i64.wrap (j0 - (1:Int))).toNat v3) (i64.wrap (j0 - (1:Int)))) else (some ((dY,j0)))) else (some ((dY,j0)))
def be.l0 (m:Nat)(a0:Int)(b0:Int)(bb:Int→Int→Option (Int)):Nat→(List Int)→Int→Option ((List Int) × Int)
 | 0,_,_=>none
 | k+1,bJ,i0=>if (decide (i0<b0))=true then ((be.l1 m a0 bb m bJ i0).bind fun bo=>match bo with | (eU,j1)=>be.l0 m a0 b0 bb k eU (i64.wrap (i0+(1:Int)))) else (some ((bJ,i0)))
def be.f (m:Nat)(az:List Int)(a0:Int)(b0:Int)(bb:Int→Int→Option (Int)):Option ((List Int)):=(be.l0 m a0 b0 bb m az (i64.wrap (a0+(1:Int)))).bind fun bZ=>match bZ with | (kq,i1)=>some kq
def be.fin (L:Mem)(aV:Nat)(az:List Int)(a0:Int)(b0:Int)(bb:Int→Int→Option (Int))(r:(List Int))(s:St):Prop:=aP Tryz.prog (s.open se) Tryz.f145.results.toList=some (.tup [])∧Has s.h ((aV,.sl az.length 1 (aa.l r))::L)
def N6 (cf:CallF)(m:Nat):Prop:=∀(az:List Int) (a0:Int) (b0:Int) (bb:Int→Int→Option (Int)) (r:(List Int)),be.f m az a0 b0 bb=some r→∀h L (dr:Nat) (aV:Nat),Has h ((aV,.sl dr 1 (aa.l az))::L)→∀(s9:FuncId) (gV fX:List AV),(bh (.fn s9 gV) = .fn s9 gV)→(∀(h:AHeap) (xs:List AV) (a0:Int) (a1:Int) r,bb a0 a1=some r→aX b5 h xs ([.int .i64 a0,.int .i64 a1]++fX)→cf s9 xs h=some (.int .i64 r,h))→(∀h K,Has h (K++(L))→aX dD h gV fX)→(∀h,aX dD h fX fX)→∀xs,xs.map bh=[.rs aV 0 dr 1,.int .i64 a0,.int .i64 b0,.fn s9 gV]→∃h',cf 145 xs h=some (.tup [],h')∧Has h' ((aV,.sl dr 1 (aa.l r))::L)
section
variable {cf:CallF}{m:Nat}
theorem be.gN (L:Mem)(aV:Nat)(s9:FuncId)(gV fX:List AV)(az:List Int)(a0:Int)(b0:Int)(bb:Int→Int→Option (Int))(i0:Int)  (F9:bh (.fn s9 gV) = .fn s9 gV)(C3:∀(h:AHeap) (xs:List AV) (a0:Int) (a1:Int) r,bb a0 a1=some r→aX b5 h xs ([.int .i64 a0,.int .i64 a1]++fX)→cf s9 xs h=some (.int .i64 r,h))(C4:∀h K,Has h (K++(L))→aX dD h gV fX)(Ga:∀h,aX dD h fX fX)  : b8 Tryz.prog cf se m (sub [1,0,0,1,0,0,1,0,0] (br Tryz.f145)) (fun k (σ:(List Int) × Int)=>be.l1 m a0 bb k σ.1 σ.2) (fun σ s=>match σ with | (dY,j0)=>∃h1,s=⟨[.rs aV 0 az.length 1,.int .i64 a0,.int .i64 b0,.fn s9 gV,.int .i64 i0,.int .i64 j0,.any,.any],[],h1⟩∧Has h1 ((aV,.sl az.length 1 (aa.l dY))::L)) (fun out e s=>(e = .exit 2∧∃dY j0,(dY,j0)=out∧∃wS N2 h1,s=⟨[.rs aV 0 az.length 1,.int .i64 a0,.int .i64 b0,.fn s9 gV,.int .i64 i0,wS,.any,N2],[],h1⟩∧Has h1 ((aV,.sl az.length 1 (aa.l dY))::L))):=by
 refine iO (fun _=>rfl) ?_
 rintro k ⟨dY,j0⟩ s out ⟨h1,rfl,o1⟩ H
 have H:be.l1 m a0 bb (k+1) dY j0=some out:=H
 refine qq <| qq ?_
 rcases eu H with⟨c1,H⟩| ⟨c1,H⟩
 ·obtain⟨v0,e0,H⟩:=aS H
  obtain⟨v1,e1,H⟩:=aS H
  obtain⟨r0,e2,H⟩:=aS H
  refine qr [.b 3 c1,.v 7 (aJ (k:=.i64) (E:=aa) (l:=dY) (q:=0) dt o1 rfl e0),.v 8 (bm  (E:=aa) (l:=dY) (q:=0) o1 rfl A3 e0 rfl),.v 12 (aJ (k:=.i64) (E:=aa) (l:=dY) (q:=0) dt o1 rfl e1),.v 13 (bm  (E:=aa) (l:=dY) (q:=0) o1 rfl A3 e1 rfl),.a 14 (C3 _ _ _ _ _ e2 (NT (ab (aA) (ab (aA) (aq))) (C4 h1 [(aV,.sl az.length 1 (aa.l dY))] o1)))] <| qc H (fun c2 H=>?_) (fun c2 H=>?_)
  ·refine qk <| qq <| qb 3 ?_
   obtain⟨v2,e3,H⟩:=aS H
   obtain⟨v3,e4,H⟩:=aS H
   obtain⟨v4,e5,H⟩:=aS H
   obtain⟨h2,e6,o2⟩:=en (P:=Tryz.prog) (tf:=3) (E:=aa) (l:=dY) (q:=0) (v:=v2) (x:=.int .i64 v2) o1 rfl Z3 e5 rfl rfl
   obtain⟨v5,e7,H⟩:=aS H
   obtain⟨h3,e8,o3⟩:=en (P:=Tryz.prog) (tf:=3) (E:=aa) (l:=(dY.set j0.toNat v2)) (q:=0) (v:=v3) (x:=.int .i64 v3) o2 rfl Z3 e7 rfl rfl
   exact qr [.v 8 (aJ (k:=.i64) (E:=aa) (l:=dY) (q:=0) dt o1 rfl e3),.v 9 (bm  (E:=aa) (l:=dY) (q:=0) o1 rfl A3 e3 rfl),.v 12 (aJ (k:=.i64) (E:=aa) (l:=dY) (q:=0) dt o1 rfl e4),.v 13 (bm  (E:=aa) (l:=dY) (q:=0) o1 rfl A3 e4 rfl),.v 14 (aJ (k:=.i64) (E:=aa) (l:=dY) (q:=0) dt o1 rfl e5),.w 15 e6,.v 16 (aJ (k:=.i64) (E:=aa) (l:=(dY.set j0.toNat v2)) (q:=0) dt o2 rfl e7),.w 17 e8] <| q0 <| ⟨((dY.set j0.toNat v2).set (i64.wrap (j0 - (1:Int))).toNat v3,i64.wrap (j0 - (1:Int))),⟨h3,by kernel_rfl,o3⟩,H⟩
  ·exact qx 2 <| ⟨rfl,dY,j0,oi H,.int .i64 j0,.bool (decide (r0<(0:Int))),h1,by kernel_rfl,o1⟩
 ·exact qr [.b 3 c1] <| Eb <| qx 2 <| ⟨rfl,dY,j0,oi H,.int .i64 j0,.bool false,h1,by kernel_rfl,o1⟩
theorem be.cd (L:Mem)(aV:Nat)(s9:FuncId)(gV fX:List AV)(az:List Int)(a0:Int)(b0:Int)(bb:Int→Int→Option (Int))  (F9:bh (.fn s9 gV) = .fn s9 gV)(C3:∀(h:AHeap) (xs:List AV) (a0:Int) (a1:Int) r,bb a0 a1=some r→aX b5 h xs ([.int .i64 a0,.int .i64 a1]++fX)→cf s9 xs h=some (.int .i64 r,h))(C4:∀h K,Has h (K++(L))→aX dD h gV fX)(Ga:∀h,aX dD h fX fX)  : b8 Tryz.prog cf se m (sub [1,0,0] (br Tryz.f145)) (fun k (σ:(List Int) × Int)=>be.l0 m a0 b0 bb k σ.1 σ.2) (fun σ s=>match σ with | (bJ,i0)=>∃h0,s=⟨.rs aV 0 az.length 1 :: .int .i64 a0 :: .int .i64 b0 :: .fn s9 gV :: .int .i64 i0::j5 [],[],h0⟩∧Has h0 ((aV,.sl az.length 1 (aa.l bJ))::L)) (fun out e s=>(e = .exit 0∧∃bJ i0,(bJ,i0)=out∧∃kX tw F8 zk qT vl h0,s=⟨[kX,tw,F8,zk,qT,.any,vl,.any],[],h0⟩∧Has h0 ((aV,.sl az.length 1 (aa.l bJ))::L))):=by
 refine iO (fun _=>rfl) ?_
 rintro k ⟨bJ,i0⟩ s out ⟨h0,rfl,o0⟩ H
 have H:be.l0 m a0 b0 bb (k+1) bJ i0=some out:=H
 refine qq <| qq <| q0 <| qc H (fun c0 H=>?_) (fun c0 H=>?_)
 ·refine qk <| qq <| qb 1 <| qq <| q0 <| qb 2 ?_
  obtain⟨bo,e9,H⟩:=aS H
  refine ql (be.gN L aV s9 gV fX az a0 b0 bb i0  F9 C3 C4 Ga  (bJ,i0) _ _ ⟨h0,by kernel_rfl,o0⟩ e9) ?_
  rintro e s ⟨rfl,eU,j1,rfl,g0,g1,h4,rfl,o4⟩
  try dsimp only at H
  exact q0 <| ⟨(eU,i64.wrap (i0+(1:Int))),⟨h4,by kernel_rfl,o4⟩,H⟩
 ·exact qx 0 <| ⟨rfl,bJ,i0,oi H,.rs aV 0 az.length 1,.int .i64 a0,.int .i64 b0,.fn s9 gV,.int .i64 i0,.bool (decide (i0<b0)),h0,by kernel_rfl,o0⟩
theorem oT {a7:FuncId→cu}(ha:a7 145=se)  (az:List Int)(a0:Int)(b0:Int)(bb:Int→Int→Option (Int))(h:AHeap)(L:Mem)(aV:Nat)(s9:FuncId)(gV fX:List AV)  (F9:bh (.fn s9 gV) = .fn s9 gV)(C3:∀(h:AHeap) (xs:List AV) (a0:Int) (a1:Int) r,bb a0 a1=some r→aX b5 h xs ([.int .i64 a0,.int .i64 a1]++fX)→cf s9 xs h=some (.int .i64 r,h))(C4:∀h K,Has h (K++(L))→aX dD h gV fX)(Ga:∀h,aX dD h fX fX)(o:Has h ((aV,.sl az.length 1 (aa.l az))::L)){out:(List Int)}(H:be.f m az a0 b0 bb=some out) :
  ∃r h',bj Tryz.prog a7 cf m 145 [.rs aV 0 az.length 1,.int .i64 a0,.int .i64 b0,.fn s9 gV] h=some (r,h')∧r = .tup []∧Has h' ((aV,.sl az.length 1 (aa.l out))::L):=by
 refine au (fn:=Tryz.f145) ha Tryz.func145 (by kernel_rfl) (by kernel_rfl) ?_
 refine aK (Q:=fun s=>be.fin L aV az a0 b0 bb out s) (fun _ _ ⟨h1,h2,h3⟩=>⟨h1,_,h2,rfl,h3⟩) ?_
 have H:_=some out:=H
 unfold be.f at H
 show dR _ cf se m _ ⟨.rs aV 0 az.length 1 :: .int .i64 a0 :: .int .i64 b0 :: .fn s9 gV::qJ [],[],h⟩ _
 refine q1 <| qb 0 ?_
 obtain⟨bZ,lg,H⟩:=aS H
 refine ql (be.cd L aV s9 gV fX az a0 b0 bb  F9 C3 C4 Ga  (az,i64.wrap (a0+(1:Int))) _ _ ⟨h,by kernel_rfl,o⟩ lg) ?_
 rintro e s ⟨rfl,kq,i1,rfl,g2,g3,g4,g5,g6,g7,h5,rfl,o5⟩
 try dsimp only at H
 obtain rfl:=oi H
 exact⟨.inr rfl,⟨by kernel_rfl,he o5⟩⟩
end
end Go.Proofs.YtifafejidnjckaaGreat
namespace Go.Proofs.YtifafejidnjckaaGreat
open Go Go.R
open Go.IntKind (i64 u64 u8 u32)
def vw:cu:=gj [0,1,2,3,10,13] [] [32,0,32,32] [] []
def cC.l0 (m:Nat)(a0:Int)(b0:Int)(n0:Int):Nat→(List Int)→Int→Option ((List Int) × Int)
 | 0,_,_=>none
 | k+1,bJ,i0=>if (decide (i0<n0))=true then ((ix bJ (i64.wrap (b0+i0))).bind fun v0=>(ix bJ (i64.wrap (a0+i0))).bind fun v1=>(ix bJ (i64.wrap (a0+i0))).bind fun v2=>(ix (bJ.set (i64.wrap (a0+i0)).toNat v0) (i64.wrap (b0+i0))).bind fun v3=>cC.l0 m a0 b0 n0 k ((bJ.set (i64.wrap (a0+i0)).toNat v0).set (i64.wrap (b0+i0)).toNat v1) (i64.wrap (i0+(1:Int)))) else (some ((bJ,i0)))
def cC.f (m:Nat)(az:List Int)(a0:Int)(b0:Int)(n0:Int)(bb:Int→Int→Option (Int)):Option ((List Int)):=(cC.l0 m a0 b0 n0 m az (0:Int)).bind fun bo=>match bo with | (dY,i1)=>some dY
def cC.fin (L:Mem)(aV:Nat)(az:List Int)(a0:Int)(b0:Int)(n0:Int)(bb:Int→Int→Option (Int))(r:(List Int))(s:St):Prop:=aP Tryz.prog (s.open vw) Tryz.f149.results.toList=some (.tup [])∧Has s.h ((aV,.sl az.length 1 (aa.l r))::L)
def N7 (cf:CallF)(m:Nat):Prop:=∀(az:List Int) (a0:Int) (b0:Int) (n0:Int) (bb:Int→Int→Option (Int)) (r:(List Int)),cC.f m az a0 b0 n0 bb=some r→∀h L (dr:Nat) (aV:Nat),Has h ((aV,.sl dr 1 (aa.l az))::L)→∀(fT:FuncId) (bu bc:List AV),(bh (.fn fT bu) = .fn fT bu)→(∀(h:AHeap) (xs:List AV) (a0:Int) (a1:Int) r,bb a0 a1=some r→aX b5 h xs ([.int .i64 a0,.int .i64 a1]++bc)→cf fT xs h=some (.int .i64 r,h))→(∀h K,Has h (K++(L))→aX dD h bu bc)→(∀h,aX dD h bc bc)→∀xs,xs.map bh=[.rs aV 0 dr 1,.int .i64 a0,.int .i64 b0,.int .i64 n0,.fn fT bu]→∃h',cf 149 xs h=some (.tup [],h')∧Has h' ((aV,.sl dr 1 (aa.l r))::L)
section
variable {cf:CallF}{m:Nat}
theorem cC.cd (L:Mem)(aV:Nat)(fT:FuncId)(bu bc:List AV)(az:List Int)(a0:Int)(b0:Int)(n0:Int)(bb:Int→Int→Option (Int))  (iE:bh (.fn fT bu) = .fn fT bu)(iW:∀(h:AHeap) (xs:List AV) (a0:Int) (a1:Int) r,bb a0 a1=some r→aX b5 h xs ([.int .i64 a0,.int .i64 a1]++bc)→cf fT xs h=some (.int .i64 r,h))(iX:∀h K,Has h (K++(L))→aX dD h bu bc)(jF:∀h,aX dD h bc bc)  : b8 Tryz.prog cf vw m (sub [1,0,0] (br Tryz.f149)) (fun k (σ:(List Int) × Int)=>cC.l0 m a0 b0 n0 k σ.1 σ.2) (fun σ s=>match σ with | (bJ,i0)=>∃h0,s=⟨[.rs aV 0 az.length 1,.int .i64 a0,.int .i64 b0,.int .i64 n0,.int .i64 i0,.any],[],h0⟩∧Has h0 ((aV,.sl az.length 1 (aa.l bJ))::L)) (fun out e s=>(e = .exit 0∧∃bJ i0,(bJ,i0)=out∧∃kX tw F8 zk pM pK h0,s=⟨[kX,tw,F8,zk,pM,pK],[],h0⟩∧Has h0 ((aV,.sl az.length 1 (aa.l bJ))::L))):=by
 refine iO (fun _=>rfl) ?_
 rintro k ⟨bJ,i0⟩ s out ⟨h0,rfl,o0⟩ H
 have H:cC.l0 m a0 b0 n0 (k+1) bJ i0=some out:=H
 refine qq <| qq <| q0 <| qc H (fun c0 H=>?_) (fun c0 H=>?_)
 ·refine qk <| qq <| qb 1 ?_
  obtain⟨v0,e0,H⟩:=aS H
  obtain⟨v1,e1,H⟩:=aS H
  obtain⟨v2,e2,H⟩:=aS H
  obtain⟨h1,e3,o1⟩:=en (P:=Tryz.prog) (tf:=3) (E:=aa) (l:=bJ) (q:=0) (v:=v0) (x:=.int .i64 v0) o0 rfl Z3 e2 rfl rfl
  obtain⟨v3,e4,H⟩:=aS H
  obtain⟨h2,e5,o2⟩:=en (P:=Tryz.prog) (tf:=3) (E:=aa) (l:=(bJ.set (i64.wrap (a0+i0)).toNat v0)) (q:=0) (v:=v1) (x:=.int .i64 v1) o1 rfl Z3 e4 rfl rfl
  exact qr [.v 12 (aJ (k:=.i64) (E:=aa) (l:=bJ) (q:=0) dt o0 rfl e0),.v 13 (bm  (E:=aa) (l:=bJ) (q:=0) o0 rfl A3 e0 rfl),.v 18 (aJ (k:=.i64) (E:=aa) (l:=bJ) (q:=0) dt o0 rfl e1),.v 19 (bm  (E:=aa) (l:=bJ) (q:=0) o0 rfl A3 e1 rfl),.v 20 (aJ (k:=.i64) (E:=aa) (l:=bJ) (q:=0) dt o0 rfl e2),.w 21 e3,.v 22 (aJ (k:=.i64) (E:=aa) (l:=(bJ.set (i64.wrap (a0+i0)).toNat v0)) (q:=0) dt o1 rfl e4),.w 23 e5] <| q0 <| ⟨((bJ.set (i64.wrap (a0+i0)).toNat v0).set (i64.wrap (b0+i0)).toNat v1,i64.wrap (i0+(1:Int))),⟨h2,by kernel_rfl,o2⟩,H⟩
 ·exact qx 0 <| ⟨rfl,bJ,i0,oi H,.rs aV 0 az.length 1,.int .i64 a0,.int .i64 b0,.int .i64 n0,.int .i64 i0,.bool (decide (i0<n0)),h0,by kernel_rfl,o0⟩
theorem tD {a7:FuncId→cu}(ha:a7 149=vw)  (az:List Int)(a0:Int)(b0:Int)(n0:Int)(bb:Int→Int→Option (Int))(h:AHeap)(L:Mem)(aV:Nat)(fT:FuncId)(bu bc:List AV)  (iE:bh (.fn fT bu) = .fn fT bu)(iW:∀(h:AHeap) (xs:List AV) (a0:Int) (a1:Int) r,bb a0 a1=some r→aX b5 h xs ([.int .i64 a0,.int .i64 a1]++bc)→cf fT xs h=some (.int .i64 r,h))(iX:∀h K,Has h (K++(L))→aX dD h bu bc)(jF:∀h,aX dD h bc bc)(o:Has h ((aV,.sl az.length 1 (aa.l az))::L)){out:(List Int)}(H:cC.f m az a0 b0 n0 bb=some out) :
  ∃r h',bj Tryz.prog a7 cf m 149 [.rs aV 0 az.length 1,.int .i64 a0,.int .i64 b0,.int .i64 n0,.fn fT bu] h=some (r,h')∧r = .tup []∧Has h' ((aV,.sl az.length 1 (aa.l out))::L):=by
 refine au (fn:=Tryz.f149) ha Tryz.func149 (by kernel_rfl) (by kernel_rfl) ?_
 refine aK (Q:=fun s=>cC.fin L aV az a0 b0 n0 bb out s) (fun _ _ ⟨h1,h2,h3⟩=>⟨h1,_,h2,rfl,h3⟩) ?_
 have H:_=some out:=H
 unfold cC.f at H
 show dR _ cf vw m _ ⟨[.rs aV 0 az.length 1,.int .i64 a0,.int .i64 b0,.int .i64 n0,.any,.any],[],h⟩ _
 refine q1 <| qb 0 ?_
 obtain⟨bo,e6,H⟩:=aS H
 refine ql (cC.cd L aV fT bu bc az a0 b0 n0 bb  iE iW iX jF  (az,(0:Int)) _ _ ⟨h,by kernel_rfl,o⟩ e6) ?_
 rintro e s ⟨rfl,dY,i1,rfl,g0,g1,g2,g3,g4,g5,h3,rfl,o3⟩
 try dsimp only at H
 obtain rfl:=oi H
 exact⟨.inr rfl,⟨by kernel_rfl,he o3⟩⟩
end
end Go.Proofs.YtifafejidnjckaaGreat
namespace Go.Proofs.YtifafejidnjckaaGreat
open Go Go.R
open Go.IntKind (i64 u64 u8 u32)
def Et:cu:=gj [0,2,5] [] [6,2,5,5] [] []
def eK.f (m:Nat)(s0:aj):Option (Int):=(dL.f m s0).bind fun x0=>if (!x0)=true then (some (0:Int)) else (some (s0.ae.length:Int))
def eK.fin (L:Mem)(r:Int)(s:St):Prop:=∃av,aP Tryz.prog (s.open Et) Tryz.f13.results.toList=some av∧fi s.h av (.int .i64 r)
def W6 (cf:CallF)(m:Nat):Prop:=∀(s0:aj) (r:Int),eK.f m s0=some r→∀h xs,aX b5 h xs [.fp [.bool s0.aF,af.fz s0.ae,aa.fz s0.aB] 0]→cf 13 xs h=some (.int .i64 r,h)
section
variable {cf:CallF}{m:Nat}
theorem nB {a7:FuncId→cu}(ha:a7 13=Et)(N8:Up cf m)(s0:aj)(h:AHeap)(L:Mem)  (o:Has h (L)){out:Int}(H:eK.f m s0=some out) :
  ∃r h',bj Tryz.prog a7 cf m 13 [.fp [.bool s0.aF,af.fz s0.ae,aa.fz s0.aB] 0] h=some (r,h')∧fi h' r (.int .i64 out):=by
 refine au (fn:=Tryz.f13) ha Tryz.func13 (by kernel_rfl) (by kernel_rfl) ?_
 refine aK (Q:=fun s=>eK.fin L out s) (fun _ _ h=>h) ?_
 have H:_=some out:=H
 unfold eK.f at H
 show dR _ cf Et m _ ⟨[.fp [.bool s0.aF,af.fz s0.ae,aa.fz s0.aB] 0,.any,.any],[],h⟩ _
 refine q1 <| qq <| qq ?_
 obtain⟨x0,e0,H⟩:=aS H
 refine qr [.a 1 (N8 _ _ e0 h _ (er (ab (dJ (pure_cons (ba) (pure_cons (bG.aI (E:=af) (l:=s0.ae)) (pure_cons (bG.aI (E:=aa) (l:=s0.aB)) (pure_nil))))) (aq))))] <| qc H (fun c0 H=>?_) (fun c0 H=>?_)
 ·obtain rfl:=oi H
  exact q1 <| qt <| ⟨.inl rfl,bX (.int .i64 (0:Int)) h (bW (cp))⟩
 ·obtain rfl:=oi H
  exact qk <| qq <| q0 <| qt <| ⟨.inl rfl,bX (.int .i64 (s0.ae.length:Int)) h (bW (cp))⟩
end
end Go.Proofs.YtifafejidnjckaaGreat
namespace Go.Proofs.YtifafejidnjckaaGreat
open Go Go.R
open Go.IntKind (i64 u64 u8 u32)
def Eu:cu:=gj [0,2,5] [] [6,2,5,5] [] []
def dM.f (m:Nat)(s0:ay):Option (Int):=(cD.f m s0).bind fun x0=>if (!x0)=true then (some (0:Int)) else (some (s0.ai.length:Int))
def dM.fin (L:Mem)(r:Int)(s:St):Prop:=∃av,aP Tryz.prog (s.open Eu) Tryz.f14.results.toList=some av∧fi s.h av (.int .i64 r)
def Ux (cf:CallF)(m:Nat):Prop:=∀(s0:ay) (r:Int),dM.f m s0=some r→∀h xs,aX b5 h xs [.fp [af.fz s0.ai,aa.fz s0.an,.bool s0.aH] 0]→cf 14 xs h=some (.int .i64 r,h)
section
variable {cf:CallF}{m:Nat}
theorem nC {a7:FuncId→cu}(ha:a7 14=Eu)(zl:Pl cf m)(s0:ay)(h:AHeap)(L:Mem)  (o:Has h (L)){out:Int}(H:dM.f m s0=some out) :
  ∃r h',bj Tryz.prog a7 cf m 14 [.fp [af.fz s0.ai,aa.fz s0.an,.bool s0.aH] 0] h=some (r,h')∧fi h' r (.int .i64 out):=by
 refine au (fn:=Tryz.f14) ha Tryz.func14 (by kernel_rfl) (by kernel_rfl) ?_
 refine aK (Q:=fun s=>dM.fin L out s) (fun _ _ h=>h) ?_
 have H:_=some out:=H
 unfold dM.f at H
 show dR _ cf Eu m _ ⟨[.fp [af.fz s0.ai,aa.fz s0.an,.bool s0.aH] 0,.any,.any],[],h⟩ _
 refine q1 <| qq <| qq ?_
 obtain⟨x0,e0,H⟩:=aS H
 refine qr [.a 1 (zl _ _ e0 h _ (er (ab (dJ (pure_cons (bG.aI (E:=af) (l:=s0.ai)) (pure_cons (bG.aI (E:=aa) (l:=s0.an)) (pure_cons (ba) (pure_nil))))) (aq))))] <| qc H (fun c0 H=>?_) (fun c0 H=>?_)
 ·obtain rfl:=oi H
  exact q1 <| qt <| ⟨.inl rfl,bX (.int .i64 (0:Int)) h (bW (cp))⟩
 ·obtain rfl:=oi H
  exact qk <| qq <| q0 <| qt <| ⟨.inl rfl,bX (.int .i64 (s0.ai.length:Int)) h (bW (cp))⟩
end
end Go.Proofs.YtifafejidnjckaaGreat
namespace Go.Proofs.YtifafejidnjckaaGreat
open Go Go.R
open Go.IntKind (i64 u64 u8 u32)
end Go.Proofs.YtifafejidnjckaaGreat
namespace Go.Proofs.YtifafejidnjckaaGreat
open Go Go.R
open Go.IntKind (i64 u64 u8 u32)
end Go.Proofs.YtifafejidnjckaaGreat
namespace Go.Proofs.YtifafejidnjckaaGreat
open Go Go.R
open Go.IntKind (i64 u64 u8 u32)
def Ev:cu:=gj [0,1,2,3,4] [2,3] [19,15] [] []
def fP.f (m:Nat)(a0:ah)(b0:ah):Option (Bool):=if (a0.kind==b0.kind)=true then (if (a0.int==b0.int)=true then (if (a0.label.data.toList==b0.label.data.toList)=true then ((cR.f m a0.args b0.args).bind fun x0=>some x0) else (some false)) else (some false)) else (some false)
def fP.fin (L:Mem)(r:Bool)(s:St):Prop:=∃av,aP Tryz.prog (s.open Ev) Tryz.f26.results.toList=some av∧fi s.h av (.bool r)
def W7 (cf:CallF)(m:Nat):Prop:=∀(a0:ah) (b0:ah) (r:Bool),fP.f m a0 b0=some r→∀h xs,aX b5 h xs [.agg [.int .i64 a0.kind,.int .i64 a0.int,.str a0.label,aa.fz a0.args],.agg [.int .i64 b0.kind,.int .i64 b0.int,.str b0.label,aa.fz b0.args]]→cf 26 xs h=some (.bool r,h)
section
variable {cf:CallF}{m:Nat}
theorem sf {a7:FuncId→cu}(ha:a7 26=Ev)(Lb:Uo cf m)(a0:ah)(b0:ah)(h:AHeap)(L:Mem)  (o:Has h (L)){out:Bool}(H:fP.f m a0 b0=some out) :
  ∃r h',bj Tryz.prog a7 cf m 26 [.agg [.int .i64 a0.kind,.int .i64 a0.int,.str a0.label,aa.fz a0.args],.agg [.int .i64 b0.kind,.int .i64 b0.int,.str b0.label,aa.fz b0.args]] h=some (r,h')∧fi h' r (.bool out):=by
 refine au (fn:=Tryz.f26) ha Tryz.func26 (by kernel_rfl) (by kernel_rfl) ?_
 refine aK (Q:=fun s=>fP.fin L out s) (fun _ _ h=>h) ?_
 have H:_=some out:=H
 unfold fP.f at H
 show dR _ cf Ev m _ ⟨.agg [.int .i64 a0.kind,.int .i64 a0.int,.str a0.label,aa.fz a0.args] :: .agg [.int .i64 b0.kind,.int .i64 b0.int,.str b0.label,aa.fz b0.args]::j5 [],[none,none],h⟩ _
 refine q1 <| qq ?_
 rcases eu H with⟨c0,H⟩| ⟨c0,H⟩
 ·rcases eu H with⟨c1,H⟩| ⟨c1,H⟩
  ·rcases eu H with⟨c2,H⟩| ⟨c2,H⟩
   ·obtain⟨x0,e0,H⟩:=aS H
    obtain rfl:=oi H
    exact qr [.b 5 c0,.b 12 c1,.b 19 c2,.a 24 (Lb _ _ _ e0 h _ (er (ab (cQ (E:=aa)) (ab (cQ (E:=aa)) (aq)))))] <| qt <| ⟨.inl rfl,bX (.bool x0) h (bW (ao))⟩
   ·obtain rfl:=oi H
    exact qr [.b 5 c0,.b 12 c1,.b 19 c2] <| qt <| ⟨.inl rfl,bX (.bool false) h (bW (ao))⟩
  ·obtain rfl:=oi H
   exact qr [.b 5 c0,.b 12 c1] <| qt <| ⟨.inl rfl,bX (.bool false) h (bW (ao))⟩
 ·obtain rfl:=oi H
  exact qr [.b 5 c0] <| qt <| ⟨.inl rfl,bX (.bool false) h (bW (ao))⟩
end
end Go.Proofs.YtifafejidnjckaaGreat
namespace Go.Proofs.YtifafejidnjckaaGreat
open Go Go.R
open Go.IntKind (i64 u64 u8 u32)
end Go.Proofs.YtifafejidnjckaaGreat
namespace Go.Proofs.YtifafejidnjckaaGreat
open Go Go.R
open Go.IntKind (i64 u64 u8 u32)
end Go.Proofs.YtifafejidnjckaaGreat
namespace Go.Proofs.YtifafejidnjckaaGreat
open Go Go.R
open Go.IntKind (i64 u64 u8 u32)
def Ew:cu:=gj [0,1,4,5,8,12] [] [60,44,51,28,51,51] [] []
def fa.f (m:Nat)(s0:ay)(n0:Int):Option (Int × Int):=(cD.f m s0).bind fun x0=>if (!x0)=true then (some ((0:Int),(6:Int))) else ((di.f m s0 n0).bind fun x1=>if (!x1)=true then (some ((0:Int),(1:Int))) else ((ix s0.an n0).bind fun v0=>some (v0,(0:Int))))
def fa.fin (L:Mem)(r:Int × Int)(s:St):Prop:=∃av,aP Tryz.prog (s.open Ew) Tryz.f52.results.toList=some av∧fi s.h av (.tup [.int .i64 r.1,.int .i64 r.2])
def W8 (cf:CallF)(m:Nat):Prop:=∀(s0:ay) (n0:Int) (r:Int × Int),fa.f m s0 n0=some r→∀h xs,aX b5 h xs [.fp [af.fz s0.ai,aa.fz s0.an,.bool s0.aH] 0,.int .i64 n0]→cf 52 xs h=some (.tup [.int .i64 r.1,.int .i64 r.2],h)
section
variable {cf:CallF}{m:Nat}
theorem og {a7:FuncId→cu}(ha:a7 52=Ew)(zl:Pl cf m)(C5:QJ cf m)(s0:ay)(n0:Int)(h:AHeap)(L:Mem)  (o:Has h (L)){out:Int × Int}(H:fa.f m s0 n0=some out) :
  ∃r h',bj Tryz.prog a7 cf m 52 [.fp [af.fz s0.ai,aa.fz s0.an,.bool s0.aH] 0,.int .i64 n0] h=some (r,h')∧fi h' r (.tup [.int .i64 out.1,.int .i64 out.2]):=by
 refine au (fn:=Tryz.f52) ha Tryz.func52 (by kernel_rfl) (by kernel_rfl) ?_
 refine aK (Q:=fun s=>fa.fin L out s) (fun _ _ h=>h) ?_
 have H:_=some out:=H
 unfold fa.f at H
 show dR _ cf Ew m _ ⟨.fp [af.fz s0.ai,aa.fz s0.an,.bool s0.aH] 0 :: .int .i64 n0::qJ [],[],h⟩ _
 refine q1 <| qq <| qq ?_
 obtain⟨x0,e0,H⟩:=aS H
 refine qr [.a 1 (zl _ _ e0 h _ (er (ab (dJ (pure_cons (bG.aI (E:=af) (l:=s0.ai)) (pure_cons (bG.aI (E:=aa) (l:=s0.an)) (pure_cons (ba) (pure_nil))))) (aq))))] <| qc H (fun c0 H=>?_) (fun c0 H=>?_)
 ·obtain rfl:=oi H
  exact q1 <| qt <| ⟨.inl rfl,bX (.tup [.int .i64 (0:Int),.int .i64 (6:Int)]) h (bW (lN (fE (cp) (fE (cp) (lM)))))⟩
 ·refine qk <| qq <| qq ?_
  obtain⟨x1,e1,H⟩:=aS H
  refine qr [.a 2 (C5 _ _ _ e1 h _ (er (ab (dJ (pure_cons (bG.aI (E:=af) (l:=s0.ai)) (pure_cons (bG.aI (E:=aa) (l:=s0.an)) (pure_cons (ba) (pure_nil))))) (ab (aA) (aq)))))] <| qc H (fun c1 H=>?_) (fun c1 H=>?_)
  ·obtain rfl:=oi H
   exact q1 <| qt <| ⟨.inl rfl,bX (.tup [.int .i64 (0:Int),.int .i64 (1:Int)]) h (bW (lN (fE (cp) (fE (cp) (lM)))))⟩
  ·refine qk <| qq ?_
   obtain⟨v0,e2,H⟩:=aS H
   obtain rfl:=oi H
   exact qr [.v 5 (bO (k:=.i64) (E:=aa) (l:=s0.an) dt e2),.v 6 (cF  (E:=aa) (l:=s0.an) h A3 e2 rfl)] <| qt <| ⟨.inl rfl,bX (.tup [.int .i64 v0,.int .i64 (0:Int)]) h (bW (lN (fE (cp) (fE (cp) (lM)))))⟩
end
end Go.Proofs.YtifafejidnjckaaGreat
namespace Go.Proofs.YtifafejidnjckaaGreat
open Go Go.R
open Go.IntKind (i64 u64 u8 u32)
def Ey:cu:=gj [0,1,4,5,8,13] [4] [56,40,51,24,51,51] [] []
def dZ.f (m:Nat)(s0:ay)(n0:Int):Option (ah × Int):=(cD.f m s0).bind fun x0=>if (!x0)=true then (some ((ah.mk (0:Int) (0:Int) (ab7 #[]) ([])),(6:Int))) else ((di.f m s0 n0).bind fun x1=>if (!x1)=true then (some ((ah.mk (0:Int) (0:Int) (ab7 #[]) ([])),(1:Int))) else ((bk.f m s0 n0).bind fun x2=>some (x2,(0:Int))))
def dZ.fin (L:Mem)(r:ah × Int)(s:St):Prop:=∃av,aP Tryz.prog (s.open Ey) Tryz.f54.results.toList=some av∧CR s.h av (.tup [.agg [.int .i64 r.1.kind,.int .i64 r.1.int,.str r.1.label,aa.fz r.1.args],.int .i64 r.2])
def W9 (cf:CallF)(m:Nat):Prop:=∀(s0:ay) (n0:Int) (r:ah × Int),dZ.f m s0 n0=some r→∀h xs,pk xs [.fp [af.fz s0.ai,aa.fz s0.an,.bool s0.aH] 0,.int .i64 n0]→cf 54 xs h=some (.tup [.agg [.int .i64 r.1.kind,.int .i64 r.1.int,.str r.1.label,aa.fz r.1.args],.int .i64 r.2],h)
section
variable {cf:CallF}{m:Nat}
theorem mU {a7:FuncId→cu}(ha:a7 54=Ey)(zl:Pl cf m)(C5:QJ cf m)(za:Pm cf m)(s0:ay)(n0:Int)(h:AHeap)(L:Mem)  (o:Has h (L)){out:ah × Int}(H:dZ.f m s0 n0=some out) :
  ∃r h',bj Tryz.prog a7 cf m 54 [.fp [af.fz s0.ai,aa.fz s0.an,.bool s0.aH] 0,.int .i64 n0] h=some (r,h')∧CR h' r (.tup [.agg [.int .i64 out.1.kind,.int .i64 out.1.int,.str out.1.label,aa.fz out.1.args],.int .i64 out.2]):=by
 refine au (fn:=Tryz.f54) ha Tryz.func54 (by kernel_rfl) (by kernel_rfl) ?_
 refine aK (Q:=fun s=>dZ.fin L out s) (fun _ _ h=>h) ?_
 have H:_=some out:=H
 unfold dZ.f at H
 show dR _ cf Ey m _ ⟨.fp [af.fz s0.ai,aa.fz s0.an,.bool s0.aH] 0 :: .int .i64 n0::qJ [],[none],h⟩ _
 refine q1 <| qq <| qq ?_
 obtain⟨x0,e0,H⟩:=aS H
 refine qr [.a 1 (zl _ _ e0 h _ (er (ab (dJ (pure_cons (bG.aI (E:=af) (l:=s0.ai)) (pure_cons (bG.aI (E:=aa) (l:=s0.an)) (pure_cons (ba) (pure_nil))))) (aq))))] <| qc H (fun c0 H=>?_) (fun c0 H=>?_)
 ·obtain rfl:=oi H
  exact q1 <| qt <| ⟨.inl rfl,J6 (.tup [.agg [.int .i64 (0:Int),.int .i64 (0:Int),.str (ab7 #[]),.nils],.int .i64 (6:Int)]) h (yq (n4 (ab (bT (ab (aA) (ab (aA) (ab (bH) (ab (qI) (aq)))))) (ab (aA) (aq)))))⟩
 ·refine qk <| qq <| qq ?_
  obtain⟨x1,e1,H⟩:=aS H
  refine qr [.a 2 (C5 _ _ _ e1 h _ (er (ab (dJ (pure_cons (bG.aI (E:=af) (l:=s0.ai)) (pure_cons (bG.aI (E:=aa) (l:=s0.an)) (pure_cons (ba) (pure_nil))))) (ab (aA) (aq)))))] <| qc H (fun c1 H=>?_) (fun c1 H=>?_)
  ·obtain rfl:=oi H
   exact q1 <| qt <| ⟨.inl rfl,J6 (.tup [.agg [.int .i64 (0:Int),.int .i64 (0:Int),.str (ab7 #[]),.nils],.int .i64 (1:Int)]) h (yq (n4 (ab (bT (ab (aA) (ab (aA) (ab (bH) (ab (qI) (aq)))))) (ab (aA) (aq)))))⟩
  ·refine qk <| qq ?_
   obtain⟨x2,e2,H⟩:=aS H
   obtain rfl:=oi H
   exact qr [.a 2 (za _ _ _ e2 h _ (hX (AW (pure_cons (bG.aI (E:=af) (l:=s0.ai)) (pure_cons (bG.aI (E:=aa) (l:=s0.an)) (pure_cons (ba) (pure_nil))))) (hX (dc) (n7))))] <| qt <| ⟨.inl rfl,J6 (.tup [.agg [.int .i64 x2.kind,.int .i64 x2.int,.str x2.label,aa.fz x2.args],.int .i64 (0:Int)]) h (yq (n4 (ab (bT (ab (aA) (ab (aA) (ab (bH) (ab (cQ) (aq)))))) (ab (aA) (aq)))))⟩
end
end Go.Proofs.YtifafejidnjckaaGreat
namespace Go.Proofs.YtifafejidnjckaaGreat
open Go Go.R
open Go.IntKind (i64 u64 u8 u32)
def xO:cu:=gj [0,1,4,5,6,7,8,9,10,13,17,30,54,60] [] [16380,15868,16371,15356,16371,16366,16334,16270,14222,16270,16270,16223,15967,11871,15967,7775,15967,16371] [] [(11,[(9,none,1)])]
def aT.l0 (m:Nat)(s0:ay)(x2:(List Int)):Nat→(List Bool)→Int→Option ((List Bool) × Int)
 | 0,_,_=>none
 | k+1,cW,i0=>if (decide (i0<(x2.length:Int)))=true then ((ix x2 i0).bind fun v0=>(ix x2 i0).bind fun v1=>(ix s0.ai v1).bind fun v2=>(ix cW v0).bind fun v3=>aT.l0 m s0 x2 k (cW.set v0.toNat (v2.kind==(0:Int))) (i64.wrap (i0+(1:Int)))) else (some ((cW,i0)))
def aT.l1 (m:Nat)(iP:List Bool):Nat→(List Int)→Int→Option ((List Int) × Int)
 | 0,_,_=>none
 | k+1,bZ,i2=>if (decide (i2<(iP.length:Int)))=true then ((ix iP i2).bind fun v4=>if v4=true then ((app 8 bZ ([i2])).bind fun x4=>aT.l1 m iP k x4 (i64.wrap (i2+(1:Int)))) else (aT.l1 m iP k bZ (i64.wrap (i2+(1:Int))))) else (some ((bZ,i2)))
def aT.f (m:Nat)(s0:ay)(n0:Int):Option ((List Int) × Int):=(cD.f m s0).bind fun x0=>if (!x0)=true then (some ([],(6:Int))) else ((di.f m s0 n0).bind fun x1=>if (!x1)=true then (some ([],(1:Int))) else ((aL.f m s0 n0).bind fun x2=>(pX 1 (s0.ai.length:Int) false).bind fun x3=>(aT.l0 m s0 x2 m x3 (0:Int)).bind fun bo=>match bo with | (iP,i1)=>(aT.l1 m iP m ([]:List Int) (0:Int)).bind fun kY=>match kY with | (fC,i3)=>some (fC,(0:Int))))
def aT.fin (L:Mem)(r:(List Int) × Int)(s:St):Prop:=∃av,aP Tryz.prog (s.open xO) Tryz.f56.results.toList=some av∧fi s.h av (.tup [aa.fz r.1,.int .i64 r.2])
def Xa (cf:CallF)(m:Nat):Prop:=∀(s0:ay) (n0:Int) (r:(List Int) × Int),aT.f m s0 n0=some r→∀h xs,aX b5 h xs [.fp [af.fz s0.ai,aa.fz s0.an,.bool s0.aH] 0,.int .i64 n0]→cf 56 xs h=some (.tup [aa.fz r.1,.int .i64 r.2],h)
section
variable {cf:CallF}{m:Nat}
theorem aT.cd (L:Mem)(s0:ay)(x2:(List Int))   : b8 Tryz.prog cf xO m (sub [1,1,1,1,1,0,1,0,0] (br Tryz.f56)) (fun k (σ:(List Bool) × Int)=>aT.l0 m s0 x2 k σ.1 σ.2) (fun σ s=>match σ with | (cW,i0)=>∃dA h1,s=⟨.fp [af.fz s0.ai,aa.fz s0.an,.bool s0.aH] 0::j5 (aa.fz x2 :: .rs dA 0 cW.length 1 :: .int .i64 i0::zV []),[],h1⟩∧Has h1 ((dA,.sl cW.length 1 (bS.l cW))::L)) (fun out e s=>(e = .exit 0∧∃cW i0,(cW,i0)=out∧∃kX ze qT C6 dA h1,s=⟨kX::j5 (ze :: .rs dA 0 cW.length 1::qT::qJ [C6,.any,.any]),[],h1⟩∧Has h1 ((dA,.sl cW.length 1 (bS.l cW))::L))):=by
 refine iO (fun _=>rfl) ?_
 rintro k ⟨cW,i0⟩ s out ⟨dA,h1,rfl,o1⟩ H
 have H:aT.l0 m s0 x2 (k+1) cW i0=some out:=H
 refine qq <| qq <| q0 <| qc H (fun c2 H=>?_) (fun c2 H=>?_)
 ·refine qk <| qq <| qb 1 ?_
  obtain⟨v0,e5,H⟩:=aS H
  obtain⟨v1,e6,H⟩:=aS H
  obtain⟨v2,e7,H⟩:=aS H
  obtain⟨v3,e8,H⟩:=aS H
  obtain⟨h2,e9,o2⟩:=en (P:=Tryz.prog) (tf:=4) (E:=bS) (l:=cW) (q:=0) (v:=(v2.kind==(0:Int))) (x:=.bool (v2.kind==(0:Int))) o1 rfl Z4 e8 rfl rfl
  exact qr [.v 3 (bO (k:=.i64) (E:=aa) (l:=x2) dt e5),.v 4 (cF  (E:=aa) (l:=x2) h1 A3 e5 rfl),.v 11 (bO (k:=.i64) (E:=aa) (l:=x2) dt e6),.v 12 (cF  (E:=aa) (l:=x2) h1 A3 e6 rfl),.v 13 (bO (k:=.i64) (E:=af) (l:=s0.ai) kI e7),.v 15 (mN  (E:=af) (l:=s0.ai) (off:=0) h1 A3 e7 rfl),.v 17 (aJ (k:=.i64) (E:=bS) (l:=cW) (q:=0) Cc o1 rfl e8),.w 18 e9] <| q0 <| ⟨(cW.set v0.toNat (v2.kind==(0:Int)),i64.wrap (i0+(1:Int))),⟨dA,h2,(acq (b:=⟨.fp [af.fz s0.ai,aa.fz s0.an,.bool s0.aH] 0::j5 (aa.fz x2 :: .rs dA 0 cW.length 1 :: .int .i64 (i64.wrap (i0+(1:Int)))::zV []),[],h2⟩) (by kernel_rfl) (by simp only [abF])),(by have o:Has h2 ((dA,.sl cW.length 1 (bS.l (cW.set v0.toNat (v2.kind==(0:Int)))))::L):=o2; simpa only [abF] using o)⟩,H⟩
 ·exact qx 0 <| ⟨rfl,cW,i0,oi H,.fp [af.fz s0.ai,aa.fz s0.an,.bool s0.aH] 0,aa.fz x2,.int .i64 i0,.bool (decide (i0<(x2.length:Int))),dA,h1,by kernel_rfl,o1⟩
theorem aT.gN (L:Mem)(ca:Nat)(iP:List Bool)(ca:Nat)   : b8 Tryz.prog cf xO m (sub [1,1,1,1,1,1,1,0,1,0,0] (br Tryz.f56)) (fun k (σ:(List Int) × Int)=>aT.l1 m iP k σ.1 σ.2) (fun σ s=>match σ with | (bZ,i2)=>∃dj h4,s=⟨tu (.rs ca 0 iP.length 1 :: .any :: .rs dj 0 bZ.length 1 :: .int .i64 i2::tu []),[],h4⟩∧Has h4 ((dj,.sl bZ.length 1 (aa.l bZ))::(ca,.sl iP.length 1 (bS.l iP))::L)) (fun out e s=>(e = .exit 2∧∃bZ i2,(bZ,i2)=out∧∃vm pM NZ dj h4,s=⟨tu (vm :: .any :: .rs dj 0 bZ.length 1::pM::j5 [NZ,.any]),[],h4⟩∧Has h4 ((dj,.sl bZ.length 1 (aa.l bZ))::(ca,.sl iP.length 1 (bS.l iP))::L))):=by
 refine iO (fun _=>rfl) ?_
 rintro k ⟨bZ,i2⟩ s out ⟨dj,h4,rfl,o5⟩ H
 have H:aT.l1 m iP (k+1) bZ i2=some out:=H
 refine qq <| qq <| q0 <| qc H (fun c3 H=>?_) (fun c3 H=>?_)
 ·refine qk <| qq <| qb 3 <| qq ?_
  obtain⟨v4,mf,H⟩:=aS H
  refine qr [.v 2 (aJ (k:=.i64) (E:=bS) (l:=iP) (q:=1) Cc o5 rfl mf),.v 3 (bm  (E:=bS) (l:=iP) (q:=1) o5 rfl A4 mf rfl)] <| qc H (fun c4 H=>?_) (fun c4 H=>?_)
  ·obtain⟨x4,nI,H⟩:=aS H
   obtain⟨eP,h5,oJ,o6⟩:=fH (P:=Tryz.prog) (E:=aa) (l:=bZ) (q:=0) (t2:=22) (x:=.fz [.int .i64 i2] 1 true) (l2:=([i2])) dt o5 rfl (by kernel_rfl) rfl nI
   exact qr [.a 3 oJ] <| q0 <| ⟨(x4,i64.wrap (i2+(1:Int))),⟨eP,h5,by kernel_rfl,o6⟩,H⟩
  ·exact qk <| q0 <| ⟨(bZ,i64.wrap (i2+(1:Int))),⟨dj,h4,by kernel_rfl,o5⟩,H⟩
 ·exact qx 2 <| ⟨rfl,bZ,i2,oi H,.rs ca 0 iP.length 1,.int .i64 i2,.bool (decide (i2<(iP.length:Int))),dj,h4,by kernel_rfl,o5⟩
theorem nD {a7:FuncId→cu}(ha:a7 56=xO)(zl:Pl cf m)(C5:QJ cf m)(N9:Uq cf m)(s0:ay)(n0:Int)(h:AHeap)(L:Mem)  (o:Has h (L)){out:(List Int) × Int}(H:aT.f m s0 n0=some out) :
  ∃r h',bj Tryz.prog a7 cf m 56 [.fp [af.fz s0.ai,aa.fz s0.an,.bool s0.aH] 0,.int .i64 n0] h=some (r,h')∧fi h' r (.tup [aa.fz out.1,.int .i64 out.2]):=by
 refine au (fn:=Tryz.f56) ha Tryz.func56 (by kernel_rfl) (by kernel_rfl) ?_
 refine aK (Q:=fun s=>aT.fin L out s) (fun _ _ h=>h) ?_
 have H:_=some out:=H
 unfold aT.f at H
 show dR _ cf xO m _ ⟨.fp [af.fz s0.ai,aa.fz s0.an,.bool s0.aH] 0 :: .int .i64 n0::oQ [],[],h⟩ _
 refine q1 <| qq <| qq ?_
 obtain⟨x0,e0,H⟩:=aS H
 refine qr [.a 1 (zl _ _ e0 h _ (er (ab (dJ (pure_cons (bG.aI (E:=af) (l:=s0.ai)) (pure_cons (bG.aI (E:=aa) (l:=s0.an)) (pure_cons (ba) (pure_nil))))) (aq))))] <| qc H (fun c0 H=>?_) (fun c0 H=>?_)
 ·obtain rfl:=oi H
  exact q1 <| qt <| ⟨.inl rfl,bX (.tup [.nils,.int .i64 (6:Int)]) h (bW (lN (fE (yX) (fE (cp) (lM)))))⟩
 ·refine qk <| qq <| qq ?_
  obtain⟨x1,e1,H⟩:=aS H
  refine qr [.a 2 (C5 _ _ _ e1 h _ (er (ab (dJ (pure_cons (bG.aI (E:=af) (l:=s0.ai)) (pure_cons (bG.aI (E:=aa) (l:=s0.an)) (pure_cons (ba) (pure_nil))))) (ab (aA) (aq)))))] <| qc H (fun c1 H=>?_) (fun c1 H=>?_)
  ·obtain rfl:=oi H
   exact q1 <| qt <| ⟨.inl rfl,bX (.tup [.nils,.int .i64 (1:Int)]) h (bW (lN (fE (yX) (fE (cp) (lM)))))⟩
  ·refine qk <| qq ?_
   obtain⟨x2,e2,H⟩:=aS H
   refine qr [.a 2 (N9 _ _ _ e2 h _ (er (ab (dJ (pure_cons (bG.aI (E:=af) (l:=s0.ai)) (pure_cons (bG.aI (E:=aa) (l:=s0.an)) (pure_cons (ba) (pure_nil))))) (ab (aA) (aq)))))] <| qq ?_
   obtain⟨x3,e3,H⟩:=aS H
   obtain⟨aV,h0,e4,o0⟩:=lL (P:=Tryz.prog) (E:=bS) (z:=false) (zv:=.bool false) Cc o 4 rfl rfl rfl rfl e3
   refine qr [.a 5 e4] <| qq <| qq <| q0 <| qb 0 ?_
   obtain⟨bo,lg,H⟩:=aS H
   refine ql (aT.cd L s0 x2   (x3,(0:Int)) _ _ ⟨aV,h0,by kernel_rfl,o0⟩ lg) ?_
   rintro e s ⟨rfl,iP,i1,rfl,g0,g1,g2,g3,ca,h3,rfl,o3⟩
   try dsimp only at H
   refine q1 ?_
   have o4:Has h3 (((0),.sl (([]:List Int).length) 1 (aa.l ([]:List Int)))::(ca,.sl iP.length 1 (bS.l iP))::L):=Has.nil o3 1
   refine qq <| qq <| q0 <| qb 2 ?_
   obtain⟨kY,uc,H⟩:=aS H
   refine ql (aT.gN L ca iP ca   (([]:List Int),(0:Int)) _ _ ⟨(0),h3,by kernel_rfl,o4⟩ uc) ?_
   rintro e s ⟨rfl,fC,i3,rfl,g4,g5,g6,gd,h6,rfl,o7⟩
   try dsimp only at H
   refine q1 ?_
   have o8:Has h6 ((gd,.sl fC.length 1 (aa.l fC))::L):=Has.del o7 1
   obtain rfl:=oi H
   exact qt <| ⟨.inl rfl,bX (.tup [.rs gd 0 fC.length 1,.int .i64 (0:Int)]) h6 (bW (lN (fE (xA (E:=aa) (l:=fC) (q:=0) o8 rfl (fun _=>rfl)) (fE (cp) (lM)))))⟩
end
end Go.Proofs.YtifafejidnjckaaGreat
namespace Go.Proofs.YtifafejidnjckaaGreat
open Go Go.R
open Go.IntKind (i64 u64 u8 u32)
def xP:cu:=gj [0,1,2,3,4,5,6,20,25,39,48,69] [2,3] [4083,3955,4079,4051,3795,4051,3539,4079,3987,2963,3987,1939,4079,4079] [] []
def bB.l1 (m:Nat)(a0:aZ)(b0:aZ)(i0:Int):Nat→Int→Option (Sum Bool (Int))
 | 0,_=>none
 | k+1,k0=>(ix a0.nodes i0).bind fun v2=>if (decide (k0<(v2.args.length:Int)))=true then ((ix a0.nodes i0).bind fun v3=>(ix v3.args k0).bind fun v4=>(ix b0.nodes i0).bind fun v5=>(ix v5.args k0).bind fun v6=>if (!(v4==v6))=true then (some (.inl false)) else (bB.l1 m a0 b0 i0 k (i64.wrap (k0+(1:Int))))) else (some (.inr k0))
def bB.l0 (m:Nat)(a0:aZ)(b0:aZ):Nat→Int→Option (Sum Bool (Int))
 | 0,_=>none
 | k+1,i0=>if (decide (i0<(a0.nodes.length:Int)))=true then ((ix a0.nodes i0).bind fun v0=>(ix b0.nodes i0).bind fun v1=>(eZ.f m v0 v1).bind fun x0=>if (!x0)=true then (some (.inl false)) else ((bB.l1 m a0 b0 i0 m (0:Int)).bind fun bo=>match bo with | .inl r0=>some (.inl r0) | .inr k1=>bB.l0 m a0 b0 k (i64.wrap (i0+(1:Int))))) else (some (.inr i0))
def bB.f (m:Nat)(a0:aZ)(b0:aZ):Option (Bool):=if (!(a0.root==b0.root))=true then (some false) else (if (!((a0.nodes.length:Int)==(b0.nodes.length:Int)))=true then (some false) else ((bB.l0 m a0 b0 m (0:Int)).bind fun bZ=>match bZ with | .inl r1=>some r1 | .inr i1=>some true))
def bB.fin (L:Mem)(r:Bool)(s:St):Prop:=∃av,aP Tryz.prog (s.open xP) Tryz.f57.results.toList=some av∧fi s.h av (.bool r)
def Xb (cf:CallF)(m:Nat):Prop:=∀(a0:aZ) (b0:aZ) (r:Bool),bB.f m a0 b0=some r→∀h xs,aX b5 h xs [.agg [af.fz a0.nodes,.int .i64 a0.root],.agg [af.fz b0.nodes,.int .i64 b0.root]]→cf 57 xs h=some (.bool r,h)
section
variable {cf:CallF}{m:Nat}
theorem bB.gN (L:Mem)(a0:aZ)(b0:aZ)(i0:Int)   : b8 Tryz.prog cf xP m (sub [1,1,0,1,0,0,1,0,0,1,1,0,0] (br Tryz.f57)) (fun k (σ:Int)=>bB.l1 m a0 b0 i0 k σ) (fun σ s=>match σ with | k0=>∃h1,s=⟨.any :: .any :: .lp 2 0 :: .lp 3 0 :: .any :: .int .i64 i0 :: .int .i64 k0::tu [],[some [af.fz a0.nodes,.int .i64 a0.root],some [af.fz b0.nodes,.int .i64 b0.root]],h1⟩∧Has h1 (L)) (fun out e s=>(e = .exit 2∧∃k0,.inr k0=out∧∃ze Oa h1,s=⟨.any :: .any :: .lp 2 0 :: .lp 3 0 :: .any :: .int .i64 i0::ze::j5 [Oa,.any],[some [af.fz a0.nodes,.int .i64 a0.root],some [af.fz b0.nodes,.int .i64 b0.root]],h1⟩∧Has h1 (L))∨(e = .ret∧∃r,.inl r=out∧bB.fin L r s)):=by
 refine iO (fun _=>rfl) ?_
 rintro k k0 s out ⟨h1,rfl,o1⟩ H
 have H:bB.l1 m a0 b0 i0 (k+1) k0=some out:=H
 refine qq <| qq ?_
 obtain⟨v2,e3,H⟩:=aS H
 refine qr [.v 4 (bO (k:=.i64) (E:=af) (l:=a0.nodes) kI e3),.v 6 (mN  (E:=af) (l:=a0.nodes) (off:=3) h1 KY e3 rfl)] <| qc H (fun c5 H=>?_) (fun c5 H=>?_)
 ·refine qk <| qq <| qb 3 <| qq ?_
  obtain⟨v3,e4,H⟩:=aS H
  obtain⟨v4,e5,H⟩:=aS H
  obtain⟨v5,e6,H⟩:=aS H
  obtain⟨v6,e7,H⟩:=aS H
  refine qr [.v 3 (bO (k:=.i64) (E:=af) (l:=a0.nodes) kI e4),.v 5 (mN  (E:=af) (l:=a0.nodes) (off:=3) h1 KY e4 rfl),.v 7 (bO (k:=.i64) (E:=aa) (l:=v3.args) dt e5),.v 8 (cF  (E:=aa) (l:=v3.args) h1 A3 e5 rfl),.v 12 (bO (k:=.i64) (E:=af) (l:=b0.nodes) kI e6),.v 14 (mN  (E:=af) (l:=b0.nodes) (off:=3) h1 KY e6 rfl),.v 16 (bO (k:=.i64) (E:=aa) (l:=v5.args) dt e7),.v 17 (cF  (E:=aa) (l:=v5.args) h1 A3 e7 rfl)] <| qc H (fun c6 H=>?_) (fun c6 H=>?_)
  ·exact q1 <| qt <| ac3 (⟨rfl,_,oi H,bX (.bool false) h1 (bW (ao))⟩)
  ·exact qk <| q0 <| ⟨i64.wrap (k0+(1:Int)),⟨h1,by kernel_rfl,o1⟩,H⟩
 ·exact qx 2 <| Or.inl (⟨rfl,k0,oi H,.int .i64 k0,.bool (decide (k0<(v2.args.length:Int))),h1,by kernel_rfl,o1⟩)
theorem bB.cd (L:Mem)(a0:aZ)(b0:aZ)  (qX:Mu cf m):b8 Tryz.prog cf xP m (sub [1,1,0,1,0,0] (br Tryz.f57)) (fun k (σ:Int)=>bB.l0 m a0 b0 k σ) (fun σ s=>match σ with | i0=>∃h0,s=⟨.any :: .any :: .lp 2 0 :: .lp 3 0 :: .any :: .int .i64 i0::GR [],[some [af.fz a0.nodes,.int .i64 a0.root],some [af.fz b0.nodes,.int .i64 b0.root]],h0⟩∧Has h0 (L)) (fun out e s=>(e = .exit 0∧∃i0,.inr i0=out∧∃F8 zk vk CZ QR Uw h0,s=⟨.any :: .any::F8::zk :: .any::vk :: .any :: .any::CZ::j5 [],[QR,Uw],h0⟩∧Has h0 (L))∨(e = .ret∧∃r,.inl r=out∧bB.fin L r s)):=by
 refine iO (fun _=>rfl) ?_
 rintro k i0 s out ⟨h0,rfl,o0⟩ H
 have H:bB.l0 m a0 b0 (k+1) i0=some out:=H
 refine qq <| qq <| q0 <| qc H (fun c3 H=>?_) (fun c3 H=>?_)
 ·refine qk <| qq <| qb 1 <| qq <| qq ?_
  obtain⟨v0,e0,H⟩:=aS H
  obtain⟨v1,e1,H⟩:=aS H
  obtain⟨x0,e2,H⟩:=aS H
  refine qr [.v 3 (bO (k:=.i64) (E:=af) (l:=a0.nodes) kI e0),.v 4 (fm  (E:=af) (l:=a0.nodes) h0 rA rB e0),.v 8 (bO (k:=.i64) (E:=af) (l:=b0.nodes) kI e1),.v 9 (fm  (E:=af) (l:=b0.nodes) h0 rA rB e1),.a 10 (qX _ _ _ e2 h0 _ (er (ab (bT (ab (aA) (ab (aA) (ab (bH) (ab (cQ (E:=aa)) (aq)))))) (ab (bT (ab (aA) (ab (aA) (ab (bH) (ab (cQ (E:=aa)) (aq)))))) (aq)))))] <| qc H (fun c4 H=>?_) (fun c4 H=>?_)
  ·exact q1 <| qt <| ac3 (⟨rfl,_,oi H,bX (.bool false) h0 (bW (ao))⟩)
  ·refine qk <| qq <| q0 <| qb 2 ?_
   obtain⟨bo,e8,H⟩:=aS H
   refine ql (bB.gN L a0 b0 i0   (0:Int) _ _ ⟨h0,by kernel_rfl,o0⟩ e8) ?_
   rintro e s (⟨rfl,k1,rfl,g0,g1,h2,rfl,o2⟩| ⟨rfl,r0,rfl,qS⟩)
   ·try dsimp only at H
    exact q0 <| ⟨i64.wrap (i0+(1:Int)),⟨h2,by kernel_rfl,o2⟩,H⟩
   ·try dsimp only at H
    exact ac3 (⟨rfl,_,oi H,qS⟩)
 ·exact qx 0 <| Or.inl (⟨rfl,i0,oi H,.lp 2 0,.lp 3 0,.int .i64 i0,.bool (decide (i0<(a0.nodes.length:Int))),some [af.fz a0.nodes,.int .i64 a0.root],some [af.fz b0.nodes,.int .i64 b0.root],h0,by kernel_rfl,o0⟩)
theorem sh {a7:FuncId→cu}(ha:a7 57=xP)(qX:Mu cf m)(a0:aZ)(b0:aZ)(h:AHeap)(L:Mem)  (o:Has h (L)){out:Bool}(H:bB.f m a0 b0=some out) :
  ∃r h',bj Tryz.prog a7 cf m 57 [.agg [af.fz a0.nodes,.int .i64 a0.root],.agg [af.fz b0.nodes,.int .i64 b0.root]] h=some (r,h')∧fi h' r (.bool out):=by
 refine au (fn:=Tryz.f57) ha Tryz.func57 (by kernel_rfl) (by kernel_rfl) ?_
 refine aK (Q:=fun s=>bB.fin L out s) (fun _ _ h=>h) ?_
 have H:_=some out:=H
 unfold bB.f at H
 show dR _ cf xP m _ ⟨.agg [af.fz a0.nodes,.int .i64 a0.root] :: .agg [af.fz b0.nodes,.int .i64 b0.root]::u4 [],[none,none],h⟩ _
 refine q1 <| qq <| qq ?_
 rcases eu H with⟨c0,H⟩| ⟨c0,H⟩
 ·obtain rfl:=oi H
  exact qr [.b 5 c0] <| zX <| qq <| q0 <| qt <| ⟨.inl rfl,bX (.bool false) h (bW (ao))⟩
 ·refine qr [.b 5 c0] <| qc H (fun c2 H=>?_) (fun c2 H=>?_)
  ·obtain rfl:=oi H
   exact q1 <| qt <| ⟨.inl rfl,bX (.bool false) h (bW (ao))⟩
  ·refine qk <| qq <| qq <| q0 <| qb 0 ?_
   obtain⟨bZ,e9,H⟩:=aS H
   refine ql (bB.cd L a0 b0  qX (0:Int) _ _ ⟨h,by kernel_rfl,o⟩ e9) ?_
   rintro e s (⟨rfl,i1,rfl,g2,g3,g4,g5,g6,g7,h3,rfl,o3⟩| ⟨rfl,r1,rfl,Y8⟩)
   ·try dsimp only at H
    obtain rfl:=oi H
    exact q1 <| qt <| ⟨.inl rfl,bX (.bool true) h3 (bW (ao))⟩
   ·try dsimp only at H
    obtain rfl:=oi H
    exact⟨.inl rfl,Y8⟩
end
end Go.Proofs.YtifafejidnjckaaGreat
namespace Go.Proofs.YtifafejidnjckaaGreat
open Go Go.R
open Go.IntKind (i64 u64 u8 u32)
def xQ:cu:=gj [0,1,4,5,6,7,9,10,23,36,37,38,39,48] [14] [16380,16374,16358,16326,16070,16326,12742,8646,12678,12614,4422,12614,12742,12742,16379] [] []
def aM.l1 (m:Nat)(s0:aj)(v2:ah):Nat→(List Int)→(List (Int × Bool))→Int→Option ((List Int) × (List (Int × Bool)) × Int)
 | 0,_,_,_=>none
 | k+1,bZ,gE,x1=>if (decide (x1<(v2.args.length:Int)))=true then ((ix v2.args x1).bind fun v3=>(bz.f m s0 v3).bind fun x2=>if (!((wR gE x2).1))=true then ((app 8 bZ ([x2])).bind fun x3=>aM.l1 m s0 v2 k x3 (Cb gE x2 true) (i64.wrap (x1+(1:Int)))) else (aM.l1 m s0 v2 k bZ gE (i64.wrap (x1+(1:Int))))) else (some ((bZ,gE,x1)))
def aM.l0 (m:Nat)(s0:aj):Nat→(List Int)→(List (Int × Bool))→Int→Option ((List Int) × (List (Int × Bool)) × Int)
 | 0,_,_,_=>none
 | k+1,bo,eV,k0=>if (decide (k0<(bo.length:Int)))=true then ((ix bo k0).bind fun v1=>(ix s0.ae v1).bind fun v2=>(aM.l1 m s0 v2 m bo eV (0:Int)).bind fun kY=>match kY with | (fC,Ir,x4)=>aM.l0 m s0 k fC Ir (i64.wrap (k0+(1:Int)))) else (some ((bo,eV,k0)))
def aM.f (m:Nat)(s0:aj)(n0:Int):Option ((List Int)):=(bz.f m s0 n0).bind fun x0=>(ix ([x0]) (0:Int)).bind fun v0=>(aM.l0 m s0 m ([x0]) (Cb ([]:List (Int × Bool)) v0 true) (0:Int)).bind fun vz=>match vz with | (du,QS,k1)=>some du
def aM.fin (L:Mem)  (r:(List Int))(s:St):Prop:=∃ez:Nat,aP Tryz.prog (s.open xQ) Tryz.f60.results.toList=some (.rs ez 0 r.length 1)∧Has s.h ((ez,.sl r.length 1 (aa.l r))::L)
def Uy (cf:CallF)(m:Nat):Prop:=∀(s0:aj) (n0:Int) (r:(List Int)),aM.f m s0 n0=some r→∀h L xs,Has h L→aX b5 h xs [.fp [.bool s0.aF,af.fz s0.ae,aa.fz s0.aB] 0,.int .i64 n0]→∃ez h',cf 60 xs h=some (.rs ez 0 r.length 1,h')∧Has h' ((ez,.sl r.length 1 (aa.l r))::L)∧∀j,j<h.next→h.ver j=h'.ver j
section
variable {cf:CallF}{m:Nat}
theorem aM.gN (L:Mem)(s0:aj)(dA:Nat)(k0:Int)(v2:ah)  (qY:Mt cf m):b8 Tryz.prog cf xQ m (sub [1,1,1,0,1,0,0,1,0,0,1,0,0] (br Tryz.f60)) (fun k (σ:(List Int) × (List (Int × Bool)) × Int)=>aM.l1 m s0 v2 k σ.1 σ.2.1 σ.2.2) (fun σ s=>match σ with | (bZ,gE,x1)=>∃dj h4,s=⟨.fp [.bool s0.aF,af.fz s0.ae,aa.fz s0.aB] 0 :: .any :: .any :: .rs dj 0 bZ.length 1 :: .mp dA :: .int .i64 k0::j5 [aa.fz v2.args,.int .i64 (v2.args.length:Int),.int .i64 x1,.any,.any],[none],h4⟩∧Has h4 ((dA,.mp (CX gE))::(dj,.sl bZ.length 1 (aa.l bZ))::L)) (fun out e s=>(e = .exit 2∧∃bZ gE x1,(bZ,gE,x1)=out∧∃Uz Is It Iu dj h4,s=⟨.fp [.bool s0.aF,af.fz s0.ae,aa.fz s0.aB] 0 :: .any :: .any :: .rs dj 0 bZ.length 1 :: .mp dA :: .int .i64 k0::j5 [Uz,Is,It,Iu,.any],[none],h4⟩∧Has h4 ((dA,.mp (CX gE))::(dj,.sl bZ.length 1 (aa.l bZ))::L))):=by
 refine iO (fun _=>rfl) ?_
 rintro k ⟨bZ,gE,x1⟩ s out ⟨dj,h4,rfl,o4⟩ H
 have H:aM.l1 m s0 v2 (k+1) bZ gE x1=some out:=H
 refine q1 <| qq <| qc H (fun c1 H=>?_) (fun c1 H=>?_)
 ·refine qk <| qq <| qb 3 <| qq ?_
  obtain⟨v3,e7,H⟩:=aS H
  refine qr [.v 0 (bO (k:=.i64) (E:=aa) (l:=v2.args) dt e7),.v 1 (cF  (E:=aa) (l:=v2.args) h4 A3 e7 rfl)] <| qq ?_
  obtain⟨x2,e8,H⟩:=aS H
  refine qr [.a 2 (qY _ _ _ e8 h4 _ (er (ab (dJ (pure_cons (ba) (pure_cons (bG.aI (E:=af) (l:=s0.ae)) (pure_cons (bG.aI (E:=aa) (l:=s0.aB)) (pure_nil))))) (ab (aA) (aq)))))] <| qq <| qr [.v 2 (show fD Tryz.prog h4 100 (.mp dA) (.int .i64 x2) false=some (.bool ((wR gE x2).1)) from (Uk (q:=0) (l:=gE) (k:=x2) Ij o4 rfl).2)] <| qc H (fun c2 H=>?_) (fun c2 H=>?_)
  ·refine qq ?_
   obtain⟨h5,e9,o5⟩:=QF (q:=0) (l:=gE) (k:=x2) (v:=true) Ij o4 rfl
   refine qr [.w 2 e9] ?_
   obtain⟨x3,lg,H⟩:=aS H
   obtain⟨eP,h6,mf,o6⟩:=fH (P:=Tryz.prog) (E:=aa) (l:=bZ) (q:=1) (t2:=22) (x:=.fz [.int .i64 x2] 1 true) (l2:=([x2])) dt o5 rfl (by kernel_rfl) rfl lg
   exact qr [.a 3 mf] <| q0 <| ⟨(x3,Cb gE x2 true,i64.wrap (x1+(1:Int))),⟨eP,h6,by kernel_rfl,o6⟩,H⟩
  ·exact qk <| q0 <| ⟨(bZ,gE,i64.wrap (x1+(1:Int))),⟨dj,h4,by kernel_rfl,o4⟩,H⟩
 ·exact qx 2 <| ⟨rfl,bZ,gE,x1,oi H,aa.fz v2.args,.int .i64 (v2.args.length:Int),.int .i64 x1,.bool (decide (x1<(v2.args.length:Int))),dj,h4,by kernel_rfl,o4⟩
theorem aM.cd (L:Mem)(s0:aj)(dA:Nat)  (qY:Mt cf m):b8 Tryz.prog cf xQ m (sub [1,1,1,0,1,0,0] (br Tryz.f60)) (fun k (σ:(List Int) × (List (Int × Bool)) × Int)=>aM.l0 m s0 k σ.1 σ.2.1 σ.2.2) (fun σ s=>match σ with | (bo,eV,k0)=>∃ca h3,s=⟨.fp [.bool s0.aF,af.fz s0.ae,aa.fz s0.aB] 0 :: .any :: .any :: .rs ca 0 bo.length 1 :: .mp dA :: .int .i64 k0::qK [],[none],h3⟩∧Has h3 ((dA,.mp (CX eV))::(ca,.sl bo.length 1 (aa.l bo))::L)) (fun out e s=>(e = .exit 0∧∃bo eV k0,(bo,eV,k0)=out∧∃kX ze vm zm ca h3,s=⟨kX :: .any :: .any :: .rs ca 0 bo.length 1::ze::vm :: .any :: .any::zm::tu [],[none],h3⟩∧Has h3 ((dA,.mp (CX eV))::(ca,.sl bo.length 1 (aa.l bo))::L))):=by
 refine iO (fun _=>rfl) ?_
 rintro k ⟨bo,eV,k0⟩ s out ⟨ca,h3,rfl,o3⟩ H
 have H:aM.l0 m s0 (k+1) bo eV k0=some out:=H
 refine qq <| qq <| q0 <| qc H (fun c0 H=>?_) (fun c0 H=>?_)
 ·refine qk <| qq <| qb 1 <| qq ?_
  obtain⟨v1,e5,H⟩:=aS H
  obtain⟨v2,e6,H⟩:=aS H
  refine qr [.v 6 (aJ (k:=.i64) (E:=aa) (l:=bo) (q:=1) dt o3 rfl e5),.v 7 (bm  (E:=aa) (l:=bo) (q:=1) o3 rfl A3 e5 rfl),.v 8 (bO (k:=.i64) (E:=af) (l:=s0.ae) kI e6),.v 10 (mN  (E:=af) (l:=s0.ae) (off:=3) h3 KY e6 rfl)] <| qb 2 ?_
  obtain⟨kY,nI,H⟩:=aS H
  refine ql (aM.gN L s0 dA k0 v2  qY (bo,eV,(0:Int)) _ _ ⟨ca,h3,by kernel_rfl,o3⟩ nI) ?_
  rintro e s ⟨rfl,fC,Ir,x4,rfl,g0,g1,g2,g3,gd,h7,rfl,o7⟩
  try dsimp only at H
  exact q0 <| ⟨(fC,Ir,i64.wrap (k0+(1:Int))),⟨gd,h7,by kernel_rfl,o7⟩,H⟩
 ·exact qx 0 <| ⟨rfl,bo,eV,k0,oi H,.fp [.bool s0.aF,af.fz s0.ae,aa.fz s0.aB] 0,.mp dA,.int .i64 k0,.bool (decide (k0<(bo.length:Int))),ca,h3,by kernel_rfl,o3⟩
theorem mV {a7:FuncId→cu}(ha:a7 60=xQ)(qY:Mt cf m)(s0:aj)(n0:Int)(h:AHeap)(L:Mem)  (o:Has h (L)){out:(List Int)}(H:aM.f m s0 n0=some out) :
  ∃r h',bj Tryz.prog a7 cf m 60 [.fp [.bool s0.aF,af.fz s0.ae,aa.fz s0.aB] 0,.int .i64 n0] h=some (r,h')∧∃ez:Nat,r = .rs ez 0 out.length 1∧Has h' ((ez,.sl out.length 1 (aa.l out))::L):=by
 refine au (fn:=Tryz.f60) ha Tryz.func60 (by kernel_rfl) (by kernel_rfl) ?_
 refine aK (Q:=fun s=>aM.fin L out s) (fun _ _ ⟨h1,ez,h2,h3⟩=>⟨h1,_,h2,ez,rfl,h3⟩) ?_
 have H:_=some out:=H
 unfold aM.f at H
 show dR _ cf xQ m _ ⟨.fp [.bool s0.aF,af.fz s0.ae,aa.fz s0.aB] 0 :: .int .i64 n0::oQ [],[none],h⟩ _
 refine q1 <| qq ?_
 obtain⟨x0,e0,H⟩:=aS H
 obtain⟨aV,h0,e1,o0⟩:=D5 (E:=aa) (l:=[x0]) (cs:=[.int .i64 x0]) o (by kernel_rfl)
 refine qr [.a 2 (qY _ _ _ e0 h _ (er (ab (dJ (pure_cons (ba) (pure_cons (bG.aI (E:=af) (l:=s0.ae)) (pure_cons (bG.aI (E:=aa) (l:=s0.aB)) (pure_nil))))) (ab (aA) (aq))))),.a 3 e1] <| qq ?_
 obtain⟨dA,h1,e2,o1⟩:=yY o0
 obtain⟨v0,e3,H⟩:=aS H
 obtain⟨h2,e4,o2⟩:=QF (q:=0) (l:=([]:List (Int × Bool))) (k:=v0) (v:=true) Ij o1 rfl
 refine qr [.m 0 e2,.v 2 (aJ (k:=.i64) (E:=aa) (l:=([x0])) (q:=1) dt o1 rfl e3),.v 3 (bm  (E:=aa) (l:=([x0])) (q:=1) o1 rfl A3 e3 rfl),.w 4 e4] <| qq <| qq <| q0 <| qb 0 ?_
 obtain⟨vz,oJ,H⟩:=aS H
 refine ql (aM.cd L s0 dA  qY ([x0],Cb ([]:List (Int × Bool)) v0 true,(0:Int)) _ _ ⟨aV,h2,(acq (b:=⟨.fp [.bool s0.aF,af.fz s0.ae,aa.fz s0.aB] 0 :: .any :: .any :: .rs aV 0 (([x0]:List Int).length) 1 :: .mp dA :: .int .i64 (0:Int)::qK [],[none],h2⟩) (by kernel_rfl) (by simp only [abF])),(by have o:Has h2 ((dA,.mp (CX (Cb ([]:List (Int × Bool)) v0 true)))::(aV,.sl (([x0]:List Int).length) 1 (aa.l ([x0])))::L):=o2; simpa only [abF] using o)⟩ oJ) ?_
 rintro e s ⟨rfl,du,QS,k1,rfl,g4,g5,g6,g7,fS,h8,rfl,o8⟩
 try dsimp only at H
 refine q1 ?_
 have o9:Has h8 ((fS,.sl du.length 1 (aa.l du))::L):=Has.del o8 0
 obtain rfl:=oi H
 exact qt <| ⟨.inl rfl,⟨fS,by kernel_rfl,he o9⟩⟩
end
end Go.Proofs.YtifafejidnjckaaGreat
namespace Go.Proofs.YtifafejidnjckaaGreat
open Go Go.R
open Go.IntKind (i64 u64 u8 u32)
def A9:cu:=gj [0,1,4,5,6,7,20,21,22,23] [4,5] [1016,1010,1010,562,50,514,562,562,1019] [] [(0,[(4,some 3,1)])]
def bq.l0 (m:Nat)(s0:aj)(x0:List Int):Nat→(List Int)→Int→Option ((List Int) × Int)
 | 0,_,_=>none
 | k+1,x1,x2=>if (decide (x2<(x0.length:Int)))=true then ((ix x1 x2).bind fun v1=>(bz.f m s0 v1).bind fun x3=>(ix x1 x2).bind fun v2=>bq.l0 m s0 x0 k (x1.set x2.toNat x3) (i64.wrap (x2+(1:Int)))) else (some ((x1,x2)))
def bq.f (m:Nat)(s0:aj)(n0:Int):Option (ah):=(ix s0.ae n0).bind fun v0=>(J7 1 v0.args).bind fun x0=>(bq.l0 m s0 x0 m x0 (0:Int)).bind fun bo=>match bo with | (x4,x5)=>some (ah.mk v0.kind v0.int v0.label x4)
def bq.fin (L:Mem)  (r:ah)(s:St):Prop:=∃ez:Nat,aP Tryz.prog (s.open A9) Tryz.f61.results.toList=some (.agg [.int .i64 r.kind,.int .i64 r.int,.str r.label,.rs ez 0 r.args.length 1])∧Has s.h ((ez,.sl r.args.length 1 (aa.l r.args))::L)
def SS (cf:CallF)(m:Nat):Prop:=∀(s0:aj) (n0:Int) (r:ah),bq.f m s0 n0=some r→∀h L xs,Has h L→aX b5 h xs [.fp [.bool s0.aF,af.fz s0.ae,aa.fz s0.aB] 0,.int .i64 n0]→∃ez h',cf 61 xs h=some (.agg [.int .i64 r.kind,.int .i64 r.int,.str r.label,.rs ez 0 r.args.length 1],h')∧Has h' ((ez,.sl r.args.length 1 (aa.l r.args))::L)∧∀j,j<h.next→h.ver j=h'.ver j
section
variable {cf:CallF}{m:Nat}
theorem bq.cd (L:Mem)(s0:aj)(v0:ah)(x0:List Int)  (qY:Mt cf m):b8 Tryz.prog cf A9 m (sub [1,1,1,0,1,0,0] (br Tryz.f61)) (fun k (σ:(List Int) × Int)=>bq.l0 m s0 x0 k σ.1 σ.2) (fun σ s=>match σ with | (x1,x2)=>∃dA h1,s=⟨[.fp [.bool s0.aF,af.fz s0.ae,aa.fz s0.aB] 0,.any,.lp 4 0,.lp 5 0,.any,.any,.rs dA 0 x1.length 1,.int .i64 (x0.length:Int),.int .i64 x2,.any],[some [.int .i64 (0:Int),.int .i64 (0:Int),.str (ab7 #[]),.rs (0) 0 (([]:List Int).length) 1],some [.int .i64 v0.kind,.int .i64 v0.int,.str v0.label,.rs dA 0 x1.length 1]],h1⟩∧Has h1 ((dA,.sl x1.length 1 (aa.l x1))::((0),.sl (([]:List Int).length) 1 (aa.l ([]:List Int)))::L)) (fun out e s=>(e = .exit 0∧∃x1 x2,(x1,x2)=out∧∃kX Ob Oc si zm dA h1,s=⟨[kX,.any,.lp 4 0,.lp 5 0,.any,.any,Ob,Oc,si,zm],[some [.int .i64 (0:Int),.int .i64 (0:Int),.str (ab7 #[]),.rs (0) 0 (([]:List Int).length) 1],some [.int .i64 v0.kind,.int .i64 v0.int,.str v0.label,.rs dA 0 x1.length 1]],h1⟩∧Has h1 ((dA,.sl x1.length 1 (aa.l x1))::((0),.sl (([]:List Int).length) 1 (aa.l ([]:List Int)))::L))):=by
 refine iO (fun _=>rfl) ?_
 rintro k ⟨x1,x2⟩ s out ⟨dA,h1,rfl,o2⟩ H
 have H:bq.l0 m s0 x0 (k+1) x1 x2=some out:=H
 refine q1 <| qq <| qc H (fun c0 H=>?_) (fun c0 H=>?_)
 ·refine qk <| qq <| qb 1 <| qq ?_
  obtain⟨v1,e3,H⟩:=aS H
  refine qr [.v 1 (aJ (k:=.i64) (E:=aa) (l:=x1) (q:=0) dt o2 rfl e3),.v 2 (bm  (E:=aa) (l:=x1) (q:=0) o2 rfl A3 e3 rfl)] ?_
  obtain⟨x3,e4,H⟩:=aS H
  obtain⟨v2,e5,H⟩:=aS H
  obtain⟨h2,e6,o3⟩:=en (P:=Tryz.prog) (tf:=3) (E:=aa) (l:=x1) (q:=0) (v:=x3) (x:=.int .i64 x3) o2 rfl Z3 e5 rfl rfl
  exact qr [.a 5 (qY _ _ _ e4 h1 _ (er (ab (dJ (pure_cons (ba) (pure_cons (bG.aI (E:=af) (l:=s0.ae)) (pure_cons (bG.aI (E:=aa) (l:=s0.aB)) (pure_nil))))) (ab (aA) (aq))))),.v 6 (aJ (k:=.i64) (E:=aa) (l:=x1) (q:=0) dt o2 rfl e5),.w 7 e6] <| q0 <| ⟨(x1.set x2.toNat x3,i64.wrap (x2+(1:Int))),⟨dA,h2,(acq (b:=⟨[.fp [.bool s0.aF,af.fz s0.ae,aa.fz s0.aB] 0,.any,.lp 4 0,.lp 5 0,.any,.any,.rs dA 0 x1.length 1,.int .i64 (x0.length:Int),.int .i64 (i64.wrap (x2+(1:Int))),.any],[some [.int .i64 (0:Int),.int .i64 (0:Int),.str (ab7 #[]),.rs (0) 0 (([]:List Int).length) 1],some [.int .i64 v0.kind,.int .i64 v0.int,.str v0.label,.rs dA 0 x1.length 1]],h2⟩) (by kernel_rfl) (by simp only [abF])),(by have o:Has h2 ((dA,.sl x1.length 1 (aa.l (x1.set x2.toNat x3)))::((0),.sl (([]:List Int).length) 1 (aa.l ([]:List Int)))::L):=o3; simpa only [abF] using o)⟩,H⟩
 ·exact qx 0 <| ⟨rfl,x1,x2,oi H,.fp [.bool s0.aF,af.fz s0.ae,aa.fz s0.aB] 0,.rs dA 0 x1.length 1,.int .i64 (x0.length:Int),.int .i64 x2,.bool (decide (x2<(x0.length:Int))),dA,h1,by kernel_rfl,o2⟩
theorem mW {a7:FuncId→cu}(ha:a7 61=A9)(Ba:QI cf m)(qY:Mt cf m)(s0:aj)(n0:Int)(h:AHeap)(L:Mem)  (o:Has h (L)){out:ah}(H:bq.f m s0 n0=some out) :
  ∃r h',bj Tryz.prog a7 cf m 61 [.fp [.bool s0.aF,af.fz s0.ae,aa.fz s0.aB] 0,.int .i64 n0] h=some (r,h')∧∃ez:Nat,r = .agg [.int .i64 out.kind,.int .i64 out.int,.str out.label,.rs ez 0 out.args.length 1]∧Has h' ((ez,.sl out.args.length 1 (aa.l out.args))::L):=by
 refine au (fn:=Tryz.f61) ha Tryz.func61 (by kernel_rfl) (by kernel_rfl) ?_
 refine aK (Q:=fun s=>bq.fin L out s) (fun _ _ ⟨h1,ez,h2,h3⟩=>⟨h1,_,h2,ez,rfl,h3⟩) ?_
 have H:_=some out:=H
 unfold bq.f at H
 show dR _ cf A9 m _ ⟨.fp [.bool s0.aF,af.fz s0.ae,aa.fz s0.aB] 0 :: .int .i64 n0::qK [],[none,none],h⟩ _
 refine q1 ?_
 have o0:Has h (((0),.sl (([]:List Int).length) 1 (aa.l ([]:List Int)))::L):=Has.nil o 1
 refine qq ?_
 obtain⟨v0,e0,H⟩:=aS H
 refine qr [.v 5 (bO (k:=.i64) (E:=af) (l:=s0.ae) kI e0),.v 6 (fm  (E:=af) (l:=s0.ae) h rA rB e0)] <| qq ?_
 obtain⟨x0,e1,H⟩:=aS H
 obtain⟨aV,h0,e2,o1⟩:=H6 (E:=aa) (l:=v0.args) Ba o0 e1
 refine qr [.a 2 e2] <| qq <| qq <| q0 <| qb 0 ?_
 obtain⟨bo,e7,H⟩:=aS H
 refine ql (bq.cd L s0 v0 x0  qY (x0,(0:Int)) _ _ ⟨aV,h0,by kernel_rfl,o1⟩ e7) ?_
 rintro e s ⟨rfl,x4,x5,rfl,g0,g1,g2,g3,g4,ca,h3,rfl,o4⟩
 try dsimp only at H
 refine q1 ?_
 have o5:Has h3 ((ca,.sl x4.length 1 (aa.l x4))::L):=Has.del o4 1
 obtain rfl:=oi H
 exact qt <| ⟨.inl rfl,⟨ca,by kernel_rfl,he o5⟩⟩
end
end Go.Proofs.YtifafejidnjckaaGreat
namespace Go.Proofs.YtifafejidnjckaaGreat
open Go Go.R
open Go.IntKind (i64 u64 u8 u32)
def Bb:cu:=gj [0,1,4,5,6,7,12,19,29] [] [508,500,436,507,484,356,484,452,196,484,484,502,507] [] []
def eW.l0 (m:Nat)(s0:List Int)(lQ:Int→Option (Bool)):Nat→(List Int)→Int→Int→Option ((List Int) × Int × Int)
 | 0,_,_,_=>none
 | k+1,s1,i0,j0=>if (decide (j0<(s0.length:Int)))=true then ((ix s1 j0).bind fun v0=>(lQ v0).bind fun r0=>if (!r0)=true then ((ix s1 i0).bind fun v1=>eW.l0 m s0 lQ k (s1.set i0.toNat v0) (i64.wrap (i0+(1:Int))) (i64.wrap (j0+(1:Int)))) else (eW.l0 m s0 lQ k s1 i0 (i64.wrap (j0+(1:Int))))) else (some ((s1,i0,j0)))
def eW.f (m:Nat)(s0:List Int)(lQ:Int→Option (Bool)):Option ((List Int)):=(dC.f m s0 lQ).bind fun x0=>if (x0==(-1:Int))=true then (some s0) else ((eW.l0 m s0 lQ m s0 x0 (i64.wrap (x0+(1:Int)))).bind fun bo=>match bo with | (s2,i1,j1)=>(Pk s2 i1).bind fun v2=>(D4 v2 0 i1).bind fun v3=>some v3)
def eW.fin (L:Mem)(aV:Nat)(s0:List Int)(lQ:Int→Option (Bool))(r:(List Int))(s:St):Prop:=aP Tryz.prog (s.open Bb) Tryz.f63.results.toList=some (.rs aV 0 r.length 1)∧Has s.h ((aV,.sl r.length 1 (aa.l r))::L)
def Xc (cf:CallF)(m:Nat):Prop:=∀(s0:List Int) (lQ:Int→Option (Bool)) (r:(List Int)),eW.f m s0 lQ=some r→∀h L (Lc:Nat) (aV:Nat),Has h ((aV,.sl Lc 1 (aa.l s0))::L)→∀(gO:FuncId) (bn eC:List AV),(bh (.fn gO bn) = .fn gO bn)→(∀(h:AHeap) (xs:List AV) (a0:Int) r,lQ a0=some r→aX b5 h xs ([.int .i64 a0]++eC)→cf gO xs h=some (.bool r,h))→(∀h K,Has h (K++(L))→aX dD h bn eC)→(∀h,aX dD h eC eC)→∀xs,xs.map bh=[.rs aV 0 Lc 1,.fn gO bn]→∃h',cf 63 xs h=some (.rs aV 0 r.length 1,h')∧Has h' ((aV,.sl r.length 1 (aa.l r))::L)
section
variable {cf:CallF}{m:Nat}
theorem eW.cd (L:Mem)(aV:Nat)(gO:FuncId)(bn eC:List AV)(s0:List Int)(lQ:Int→Option (Bool))  (zn:bh (.fn gO bn) = .fn gO bn)(jx:∀(h:AHeap) (xs:List AV) (a0:Int) r,lQ a0=some r→aX b5 h xs ([.int .i64 a0]++eC)→cf gO xs h=some (.bool r,h))(wU:∀h K,Has h (K++(L))→aX dD h bn eC)(jg:∀h,aX dD h eC eC)  : b8 Tryz.prog cf Bb m (sub [1,1,1,0,1,0,0] (br Tryz.f63)) (fun k (σ:(List Int) × Int × Int)=>eW.l0 m s0 lQ k σ.1 σ.2.1 σ.2.2) (fun σ s=>match σ with | (s1,i0,j0)=>∃h0,s=⟨.rs aV 0 s0.length 1 :: .fn gO bn :: .any :: .int .i64 i0 :: .int .i64 j0::qJ [],[],h0⟩∧Has h0 ((aV,.sl s0.length 1 (aa.l s1))::L)) (fun out e s=>(e = .exit 0∧∃s1 i0 j0,(s1,i0,j0)=out∧∃tw ze Iq h0,s=⟨[.rs aV 0 s0.length 1,tw,.any,.int .i64 i0,ze,.any,.any,Iq,.any],[],h0⟩∧Has h0 ((aV,.sl s0.length 1 (aa.l s1))::L))):=by
 refine iO (fun _=>rfl) ?_
 rintro k ⟨s1,i0,j0⟩ s out ⟨h0,rfl,o0⟩ H
 have H:eW.l0 m s0 lQ (k+1) s1 i0 j0=some out:=H
 refine qq <| qq <| q0 <| qc H (fun c1 H=>?_) (fun c1 H=>?_)
 ·refine qk <| qq <| qb 1 <| qq ?_
  obtain⟨v0,e1,H⟩:=aS H
  refine qr [.v 2 (aJ (k:=.i64) (E:=aa) (l:=s1) (q:=0) dt o0 rfl e1),.v 3 (bm  (E:=aa) (l:=s1) (q:=0) o0 rfl A3 e1 rfl)] <| qq ?_
  obtain⟨r0,e2,H⟩:=aS H
  refine qr [.a 2 (jx _ _ _ _ e2 (NT (ab (aA) (aq)) (wU h0 [(aV,.sl s0.length 1 (aa.l s1))] o0)))] <| qc H (fun c2 H=>?_) (fun c2 H=>?_)
  ·refine qq ?_
   obtain⟨v1,e3,H⟩:=aS H
   obtain⟨h1,e4,o1⟩:=en (P:=Tryz.prog) (tf:=3) (E:=aa) (l:=s1) (q:=0) (v:=v0) (x:=.int .i64 v0) o0 rfl Z3 e3 rfl rfl
   exact qr [.v 3 (aJ (k:=.i64) (E:=aa) (l:=s1) (q:=0) dt o0 rfl e3),.w 4 e4] <| q0 <| q0 <| ⟨(s1.set i0.toNat v0,i64.wrap (i0+(1:Int)),i64.wrap (j0+(1:Int))),⟨h1,by kernel_rfl,o1⟩,H⟩
  ·exact qk <| q0 <| ⟨(s1,i0,i64.wrap (j0+(1:Int))),⟨h0,by kernel_rfl,o0⟩,H⟩
 ·exact qx 0 <| ⟨rfl,s1,i0,j0,oi H,.fn gO bn,.int .i64 j0,.bool (decide (j0<(s0.length:Int))),h0,by kernel_rfl,o0⟩
theorem wV {a7:FuncId→cu}(ha:a7 63=Bb)(Od:Uu cf m)(s0:List Int)(lQ:Int→Option (Bool))(h:AHeap)(L:Mem)(aV:Nat)(gO:FuncId)(bn eC:List AV)  (zn:bh (.fn gO bn) = .fn gO bn)(jx:∀(h:AHeap) (xs:List AV) (a0:Int) r,lQ a0=some r→aX b5 h xs ([.int .i64 a0]++eC)→cf gO xs h=some (.bool r,h))(wU:∀h K,Has h (K++(L))→aX dD h bn eC)(jg:∀h,aX dD h eC eC)(o:Has h ((aV,.sl s0.length 1 (aa.l s0))::L)){out:(List Int)}(H:eW.f m s0 lQ=some out) :
  ∃r h',bj Tryz.prog a7 cf m 63 [.rs aV 0 s0.length 1,.fn gO bn] h=some (r,h')∧r = .rs aV 0 out.length 1∧Has h' ((aV,.sl out.length 1 (aa.l out))::L):=by
 refine au (fn:=Tryz.f63) ha Tryz.func63 (by kernel_rfl) (by kernel_rfl) ?_
 refine aK (Q:=fun s=>eW.fin L aV s0 lQ out s) (fun _ _ ⟨h1,h2,h3⟩=>⟨h1,_,h2,rfl,h3⟩) ?_
 have H:_=some out:=H
 unfold eW.f at H
 show dR _ cf Bb m _ ⟨.rs aV 0 s0.length 1 :: .fn gO bn::zV [],[],h⟩ _
 refine q1 <| qq ?_
 obtain⟨x0,e0,H⟩:=aS H
 refine qr [.a 2 (Od _ _ _ e0 gO eC jx jg h _ (er (ab (gu (E:=aa) (l:=s0) (q:=0) o rfl (fun _=>rfl)) (ab (xH (wU h [(aV,.sl s0.length 1 (aa.l s0))] o)) (aq)))))] <| qq <| qq <| q0 <| qc H (fun c0 H=>?_) (fun c0 H=>?_)
 ·obtain rfl:=oi H
  exact q1 <| qt <| ⟨.inl rfl,⟨by kernel_rfl,he o⟩⟩
 ·refine qk <| qq <| qq <| q0 <| qb 0 ?_
  obtain⟨bo,e5,H⟩:=aS H
  refine ql (eW.cd L aV gO bn eC s0 lQ  zn jx wU jg  (s0,x0,i64.wrap (x0+(1:Int))) _ _ ⟨h,by kernel_rfl,o⟩ e5) ?_
  rintro e s ⟨rfl,s2,i1,j1,rfl,g0,g1,g2,h2,rfl,o2⟩
  try dsimp only at H
  refine qq ?_
  obtain⟨v2,e6,H⟩:=aS H
  obtain⟨h3,e7,o3⟩:=NS (q:=0) (l:=s2) Un o2 rfl e6
  refine qr [.v 2 (NR (E:=aa) (k:=.i64) (q:=0) (l:=s2) dt o2 rfl (ve e6).1 (ve e6).2.1),.a 3 e7] <| qq ?_
  obtain⟨v3,e8,H⟩:=aS H
  obtain⟨NX,o4⟩:=CS (P:=Tryz.prog) (k:=.i64) (E:=aa) (q:=0) o3 rfl dt e8
  obtain rfl:=oi H
  exact qr [.v 2 NX] <| qt <| ⟨.inl rfl,⟨by kernel_rfl,he o4⟩⟩
end
end Go.Proofs.YtifafejidnjckaaGreat
namespace Go.Proofs.YtifafejidnjckaaGreat
open Go Go.R
open Go.IntKind (i64 u64 u8 u32)
def Ez:cu:=gj [0,1,3] [] [4,3] [] []
def dF.f (m:Nat)(r0:Int)(x0:aj):Option (Bool):=(eH.f m x0 r0).bind fun x1=>some (!x1)
def dF.fin (L:Mem)(r:Bool)(s:St):Prop:=∃av,aP Tryz.prog (s.open Ez) Tryz.f64.results.toList=some av∧fi s.h av (.bool r)
def Xd (cf:CallF)(m:Nat):Prop:=∀(r0:Int) (x0:aj) (r:Bool),dF.f m r0 x0=some r→∀h xs,aX b5 h xs [.int .i64 r0,.fp [.fp [.bool x0.aF,af.fz x0.ae,aa.fz x0.aB] 0] 0]→cf 64 xs h=some (.bool r,h)
section
variable {cf:CallF}{m:Nat}
theorem mg {a7:FuncId→cu}(ha:a7 64=Ez)(UA:W2 cf m)(r0:Int)(x0:aj)(h:AHeap)(L:Mem)  (o:Has h (L)){out:Bool}(H:dF.f m r0 x0=some out) :
  ∃r h',bj Tryz.prog a7 cf m 64 [.int .i64 r0,.fp [.fp [.bool x0.aF,af.fz x0.ae,aa.fz x0.aB] 0] 0] h=some (r,h')∧fi h' r (.bool out):=by
 refine au (fn:=Tryz.f64) ha Tryz.func64 (by kernel_rfl) (by kernel_rfl) ?_
 refine aK (Q:=fun s=>dF.fin L out s) (fun _ _ h=>h) ?_
 have H:_=some out:=H
 unfold dF.f at H
 show dR _ cf Ez m _ ⟨[.int .i64 r0,.fp [.fp [.bool x0.aF,af.fz x0.ae,aa.fz x0.aB] 0] 0,.any],[],h⟩ _
 refine q1 <| qq ?_
 obtain⟨x1,e0,H⟩:=aS H
 obtain rfl:=oi H
 exact qr [.a 2 (UA _ _ _ e0 h _ (er (ab (dJ (pure_cons (ba) (pure_cons (bG.aI (E:=af) (l:=x0.ae)) (pure_cons (bG.aI (E:=aa) (l:=x0.aB)) (pure_nil))))) (ab (aA) (aq)))))] <| qt <| ⟨.inl rfl,bX (.bool (!x1)) h (bW (ao))⟩
end
end Go.Proofs.YtifafejidnjckaaGreat
namespace Go.Proofs.YtifafejidnjckaaGreat
open Go Go.R
open Go.IntKind (i64 u64 u8 u32)
end Go.Proofs.YtifafejidnjckaaGreat
namespace Go.Proofs.YtifafejidnjckaaGreat
open Go Go.R
open Go.IntKind (i64 u64 u8 u32)
end Go.Proofs.YtifafejidnjckaaGreat
namespace Go.Proofs.YtifafejidnjckaaGreat
open Go Go.R
open Go.IntKind (i64 u64 u8 u32)
def EA:cu:=gj [0,1,4] [] [4,3] [] []
def iF.f (m:Nat)(s0:List ah)(f0:ah→Option (Bool)):Option (Bool):=(gf.f m s0 f0).bind fun x0=>some (decide (x0≥(0:Int)))
def iF.fin (L:Mem)(r:Bool)(s:St):Prop:=∃av,aP Tryz.prog (s.open EA) Tryz.f77.results.toList=some av∧fi s.h av (.bool r)
def Xe (cf:CallF)(m:Nat):Prop:=∀(s0:List ah) (f0:ah→Option (Bool)) (r:Bool),iF.f m s0 f0=some r→∀(gO:FuncId) (bn:List AV),(∀(h:AHeap) (xs:List AV) (a0:ah) r,f0 a0=some r→aX b5 h xs ([.agg [.int .i64 a0.kind,.int .i64 a0.int,.str a0.label,aa.fz a0.args]]++bn)→cf gO xs h=some (.bool r,h))→(∀h,aX dD h bn bn)→∀h xs,aX b5 h xs [af.fz s0,.fn gO bn]→cf 77 xs h=some (.bool r,h)
section
variable {cf:CallF}{m:Nat}
theorem tE {a7:FuncId→cu}(ha:a7 77=EA)(QT:QK cf m)(s0:List ah)(f0:ah→Option (Bool))(h:AHeap)(L:Mem)(gO:FuncId)(bn:List AV)  (jx:∀(h:AHeap) (xs:List AV) (a0:ah) r,f0 a0=some r→aX b5 h xs ([.agg [.int .i64 a0.kind,.int .i64 a0.int,.str a0.label,aa.fz a0.args]]++bn)→cf gO xs h=some (.bool r,h))(jg:∀h,aX dD h bn bn)(o:Has h (L)){out:Bool}(H:iF.f m s0 f0=some out) :
  ∃r h',bj Tryz.prog a7 cf m 77 [af.fz s0,.fn gO bn] h=some (r,h')∧fi h' r (.bool out):=by
 refine au (fn:=Tryz.f77) ha Tryz.func77 (by kernel_rfl) (by kernel_rfl) ?_
 refine aK (Q:=fun s=>iF.fin L out s) (fun _ _ h=>h) ?_
 have H:_=some out:=H
 unfold iF.f at H
 show dR _ cf EA m _ ⟨[af.fz s0,.fn gO bn,.any],[],h⟩ _
 refine q1 <| qq ?_
 obtain⟨x0,e0,H⟩:=aS H
 obtain rfl:=oi H
 exact qr [.a 2 (QT _ _ _ e0 gO bn jx jg h _ (er (ab (cQ (E:=af)) (ab (xH (jg h)) (aq)))))] <| qt <| ⟨.inl rfl,bX (.bool (decide (x0≥(0:Int)))) h (bW (ao))⟩
end
end Go.Proofs.YtifafejidnjckaaGreat
namespace Go.Proofs.YtifafejidnjckaaGreat
open Go Go.R
open Go.IntKind (i64 u64 u8 u32)
def EB:cu:=gj [0,1,4] [] [4,3] [] []
def fY.f (m:Nat)(s0:List Int)(f0:Int→Option (Bool)):Option (Bool):=(dC.f m s0 f0).bind fun x0=>some (decide (x0≥(0:Int)))
def fY.fin (L:Mem)(r:Bool)(s:St):Prop:=∃av,aP Tryz.prog (s.open EB) Tryz.f83.results.toList=some av∧fi s.h av (.bool r)
def UB (cf:CallF)(m:Nat):Prop:=∀(s0:List Int) (f0:Int→Option (Bool)) (r:Bool),fY.f m s0 f0=some r→∀(gO:FuncId) (bn:List AV),(∀(h:AHeap) (xs:List AV) (a0:Int) r,f0 a0=some r→aX b5 h xs ([.int .i64 a0]++bn)→cf gO xs h=some (.bool r,h))→(∀h,aX dD h bn bn)→∀h xs,aX b5 h xs [aa.fz s0,.fn gO bn]→cf 83 xs h=some (.bool r,h)
section
variable {cf:CallF}{m:Nat}
theorem tF {a7:FuncId→cu}(ha:a7 83=EB)(Od:Uu cf m)(s0:List Int)(f0:Int→Option (Bool))(h:AHeap)(L:Mem)(gO:FuncId)(bn:List AV)  (jx:∀(h:AHeap) (xs:List AV) (a0:Int) r,f0 a0=some r→aX b5 h xs ([.int .i64 a0]++bn)→cf gO xs h=some (.bool r,h))(jg:∀h,aX dD h bn bn)(o:Has h (L)){out:Bool}(H:fY.f m s0 f0=some out) :
  ∃r h',bj Tryz.prog a7 cf m 83 [aa.fz s0,.fn gO bn] h=some (r,h')∧fi h' r (.bool out):=by
 refine au (fn:=Tryz.f83) ha Tryz.func83 (by kernel_rfl) (by kernel_rfl) ?_
 refine aK (Q:=fun s=>fY.fin L out s) (fun _ _ h=>h) ?_
 have H:_=some out:=H
 unfold fY.f at H
 show dR _ cf EB m _ ⟨[aa.fz s0,.fn gO bn,.any],[],h⟩ _
 refine q1 <| qq ?_
 obtain⟨x0,e0,H⟩:=aS H
 obtain rfl:=oi H
 exact qr [.a 2 (Od _ _ _ e0 gO bn jx jg h _ (er (ab (cQ (E:=aa)) (ab (xH (jg h)) (aq)))))] <| qt <| ⟨.inl rfl,bX (.bool (decide (x0≥(0:Int)))) h (bW (ao))⟩
end
end Go.Proofs.YtifafejidnjckaaGreat
namespace Go.Proofs.YtifafejidnjckaaGreat
open Go Go.R
open Go.IntKind (i64 u64 u8 u32)
end Go.Proofs.YtifafejidnjckaaGreat
namespace Go.Proofs.YtifafejidnjckaaGreat
open Go Go.R
open Go.IntKind (i64 u64 u8 u32)
end Go.Proofs.YtifafejidnjckaaGreat
namespace Go.Proofs.YtifafejidnjckaaGreat
open Go Go.R
open Go.IntKind (i64 u64 u8 u32)
end Go.Proofs.YtifafejidnjckaaGreat
namespace Go.Proofs.YtifafejidnjckaaGreat
open Go Go.R
open Go.IntKind (i64 u64 u8 u32)
end Go.Proofs.YtifafejidnjckaaGreat
namespace Go.Proofs.YtifafejidnjckaaGreat
open Go Go.R
open Go.IntKind (i64 u64 u8 u32)
def vA:cu:=gj [0,1,2,6,7,27,29,30,31,37] [] [1016,990,1015,830,574,814,318,1015,830,1015] [] []
def dN.l0 (m:Nat)(s0:ByteArray):Nat→Int→Option (Sum Bool (Int))
 | 0,_=>none
 | k+1,x0=>if (decide (x0<(s0.size:Int)))=true then ((bt s0 x0).bind fun v2=>(gU.f m v2).bind fun x1=>if (!x1)=true then (some (.inl false)) else (dN.l0 m s0 k (i64.wrap (x0+(1:Int))))) else (some (.inr x0))
def dN.f (m:Nat)(s0:ByteArray)(lR:Int)(po:Int):Option (Bool):=if (decide ((s0.size:Int)<(1:Int)))=true then (some false) else (if (decide ((s0.size:Int) > (16:Int)))=true then (some false) else ((bt s0 (0:Int)).bind fun v0=>if (decide (v0<lR))=true then (some false) else ((bt s0 (0:Int)).bind fun v1=>if (decide (v1 > po))=true then (some false) else ((dN.l0 m s0 m (0:Int)).bind fun bo=>match bo with | .inl r0=>some r0 | .inr x2=>some true))))
def dN.fin (L:Mem)(r:Bool)(s:St):Prop:=∃av,aP Tryz.prog (s.open vA) Tryz.f108.results.toList=some av∧fi s.h av (.bool r)
def QU (cf:CallF)(m:Nat):Prop:=∀(s0:ByteArray) (lR:Int) (po:Int) (r:Bool),dN.f m s0 lR po=some r→∀h xs,aX b5 h xs [.str s0,.int .u8 lR,.int .u8 po]→cf 108 xs h=some (.bool r,h)
section
variable {cf:CallF}{m:Nat}
theorem dN.cd (L:Mem)(s0:ByteArray)  (Iv:N0 cf m):b8 Tryz.prog cf vA m (sub [1,1,0,1,0,0] (br Tryz.f108)) (fun k (σ:Int)=>dN.l0 m s0 k σ) (fun σ s=>match σ with | x0=>∃h0,s=⟨.str s0::tu [.int .i64 (s0.size:Int),.int .i64 x0,.any,.any],[],h0⟩∧Has h0 (L)) (fun out e s=>(e = .exit 0∧∃x0,.inr x0=out∧∃kX Oe C6 Iw h0,s=⟨kX::tu [Oe,C6,Iw,.any],[],h0⟩∧Has h0 (L))∨(e = .ret∧∃r,.inl r=out∧dN.fin L r s)):=by
 refine iO (fun _=>rfl) ?_
 rintro k x0 s out ⟨h0,rfl,o0⟩ H
 have H:dN.l0 m s0 (k+1) x0=some out:=H
 refine q1 <| qq <| qc H (fun c7 H=>?_) (fun c7 H=>?_)
 ·refine qk <| qq <| qb 1 <| qq <| q0 <| qq ?_
  obtain⟨v2,e2,H⟩:=aS H
  obtain⟨x1,e3,H⟩:=aS H
  refine qr [.v 2 (n5 (k:=.i64) U9 e2),.a 3 (Iv _ _ e3 h0 _ (er (ab (aA) (aq))))] <| qc H (fun c8 H=>?_) (fun c8 H=>?_)
  ·exact q1 <| qt <| ac3 (⟨rfl,_,oi H,bX (.bool false) h0 (bW (ao))⟩)
  ·exact qk <| q0 <| ⟨i64.wrap (x0+(1:Int)),⟨h0,by kernel_rfl,o0⟩,H⟩
 ·exact qx 0 <| Or.inl (⟨rfl,x0,oi H,.str s0,.int .i64 (s0.size:Int),.int .i64 x0,.bool (decide (x0<(s0.size:Int))),h0,by kernel_rfl,o0⟩)
theorem vB {a7:FuncId→cu}(ha:a7 108=vA)(Iv:N0 cf m)(s0:ByteArray)(lR:Int)(po:Int)(h:AHeap)(L:Mem)  (o:Has h (L)){out:Bool}(H:dN.f m s0 lR po=some out) :
  ∃r h',bj Tryz.prog a7 cf m 108 [.str s0,.int .u8 lR,.int .u8 po] h=some (r,h')∧fi h' r (.bool out):=by
 refine au (fn:=Tryz.f108) ha Tryz.func108 (by kernel_rfl) (by kernel_rfl) ?_
 refine aK (Q:=fun s=>dN.fin L out s) (fun _ _ h=>h) ?_
 have H:_=some out:=H
 unfold dN.f at H
 show dR _ cf vA m _ ⟨.str s0 :: .int .u8 lR :: .int .u8 po::zV [],[],h⟩ _
 refine q1 <| qq <| qq ?_
 rcases eu H with⟨c0,H⟩| ⟨c0,H⟩
 ·obtain rfl:=oi H
  exact qr [.b 3 c0] <| zX <| qq <| q0 <| qt <| ⟨.inl rfl,bX (.bool false) h (bW (ao))⟩
 ·rcases eu H with⟨c2,H⟩| ⟨c2,H⟩
  ·obtain rfl:=oi H
   exact qr [.b 3 c0,.b 8 c2] <| zX <| qq <| q0 <| qt <| ⟨.inl rfl,bX (.bool false) h (bW (ao))⟩
  ·obtain⟨v0,e0,H⟩:=aS H
   rcases eu H with⟨c4,H⟩| ⟨c4,H⟩
   ·obtain rfl:=oi H
    exact qr [.b 3 c0,.b 8 c2,.v 10 (n5 (k:=.i64) U9 e0),.b 14 c4] <| zX <| qq <| q0 <| qt <| ⟨.inl rfl,bX (.bool false) h (bW (ao))⟩
   ·obtain⟨v1,e1,H⟩:=aS H
    refine qr [.b 3 c0,.b 8 c2,.v 10 (n5 (k:=.i64) U9 e0),.b 14 c4,.v 16 (n5 (k:=.i64) U9 e1)] <| qc H (fun c6 H=>?_) (fun c6 H=>?_)
    ·obtain rfl:=oi H
     exact q1 <| qt <| ⟨.inl rfl,bX (.bool false) h (bW (ao))⟩
    ·refine qk <| qq <| qq <| q0 <| qb 0 ?_
     obtain⟨bo,e4,H⟩:=aS H
     refine ql (dN.cd L s0  Iv (0:Int) _ _ ⟨h,by kernel_rfl,o⟩ e4) ?_
     rintro e s (⟨rfl,x2,rfl,g0,g1,g2,g3,h1,rfl,o1⟩| ⟨rfl,r0,rfl,qS⟩)
     ·try dsimp only at H
      obtain rfl:=oi H
      exact q1 <| qt <| ⟨.inl rfl,bX (.bool true) h1 (bW (ao))⟩
     ·try dsimp only at H
      obtain rfl:=oi H
      exact⟨.inl rfl,qS⟩
end
end Go.Proofs.YtifafejidnjckaaGreat
namespace Go.Proofs.YtifafejidnjckaaGreat
open Go Go.R
open Go.IntKind (i64 u64 u8 u32)
def vC:cu:=gj [0,2,3,11,15,22] [] [62,54,61,58,42,58,26,61,61] [] []
def cX.l0 (m:Nat)(s0:ByteArray):Nat→Int→Option (Sum Bool (Int))
 | 0,_=>none
 | k+1,i0=>if (decide (i0<(s0.size:Int)))=true then ((bt s0 i0).bind fun v0=>(gz.f m v0).bind fun x0=>if (!x0)=true then (some (.inl false)) else (cX.l0 m s0 k (i64.wrap (i0+(1:Int))))) else (some (.inr i0))
def cX.f (m:Nat)(s0:ByteArray):Option (Bool):=if (decide ((s0.size:Int)<(1:Int)))=true then (some false) else (if (decide ((s0.size:Int) > (16:Int)))=true then (some false) else ((cX.l0 m s0 m (0:Int)).bind fun bo=>match bo with | .inl r0=>some r0 | .inr i1=>some true))
def cX.fin (L:Mem)(r:Bool)(s:St):Prop:=∃av,aP Tryz.prog (s.open vC) Tryz.f111.results.toList=some av∧fi s.h av (.bool r)
def QV (cf:CallF)(m:Nat):Prop:=∀(s0:ByteArray) (r:Bool),cX.f m s0=some r→∀h xs,aX b5 h xs [.str s0]→cf 111 xs h=some (.bool r,h)
section
variable {cf:CallF}{m:Nat}
theorem cX.cd (L:Mem)(s0:ByteArray)  (Ix:N1 cf m):b8 Tryz.prog cf vC m (sub [1,1,0,1,0,0] (br Tryz.f111)) (fun k (σ:Int)=>cX.l0 m s0 k σ) (fun σ s=>match σ with | i0=>∃h0,s=⟨.str s0 :: .any :: .int .i64 i0::j5 [],[],h0⟩∧Has h0 (L)) (fun out e s=>(e = .exit 0∧∃i0,.inr i0=out∧∃kX zk C7 h0,s=⟨[kX,.any,zk,.any,C7,.any],[],h0⟩∧Has h0 (L))∨(e = .ret∧∃r,.inl r=out∧cX.fin L r s)):=by
 refine iO (fun _=>rfl) ?_
 rintro k i0 s out ⟨h0,rfl,o0⟩ H
 have H:cX.l0 m s0 (k+1) i0=some out:=H
 refine qq <| qq <| q0 <| qc H (fun c3 H=>?_) (fun c3 H=>?_)
 ·refine qk <| qq <| qb 1 <| qq ?_
  obtain⟨v0,e0,H⟩:=aS H
  obtain⟨x0,e1,H⟩:=aS H
  refine qr [.v 2 (n5 (k:=.i64) U9 e0),.a 3 (Ix _ _ e1 h0 _ (er (ab (aA) (aq))))] <| qc H (fun c4 H=>?_) (fun c4 H=>?_)
  ·exact q1 <| qt <| ac3 (⟨rfl,_,oi H,bX (.bool false) h0 (bW (ao))⟩)
  ·exact qk <| q0 <| ⟨i64.wrap (i0+(1:Int)),⟨h0,by kernel_rfl,o0⟩,H⟩
 ·exact qx 0 <| Or.inl (⟨rfl,i0,oi H,.str s0,.int .i64 i0,.bool (decide (i0<(s0.size:Int))),h0,by kernel_rfl,o0⟩)
theorem tG {a7:FuncId→cu}(ha:a7 111=vC)(Ix:N1 cf m)(s0:ByteArray)(h:AHeap)(L:Mem)  (o:Has h (L)){out:Bool}(H:cX.f m s0=some out) :
  ∃r h',bj Tryz.prog a7 cf m 111 [.str s0] h=some (r,h')∧fi h' r (.bool out):=by
 refine au (fn:=Tryz.f111) ha Tryz.func111 (by kernel_rfl) (by kernel_rfl) ?_
 refine aK (Q:=fun s=>cX.fin L out s) (fun _ _ h=>h) ?_
 have H:_=some out:=H
 unfold cX.f at H
 show dR _ cf vC m _ ⟨.str s0::tu [],[],h⟩ _
 refine q1 <| qq <| qq ?_
 rcases eu H with⟨c0,H⟩| ⟨c0,H⟩
 ·obtain rfl:=oi H
  exact qr [.b 3 c0] <| zX <| qq <| q0 <| qt <| ⟨.inl rfl,bX (.bool false) h (bW (ao))⟩
 ·refine qr [.b 3 c0] <| qc H (fun c2 H=>?_) (fun c2 H=>?_)
  ·obtain rfl:=oi H
   exact q1 <| qt <| ⟨.inl rfl,bX (.bool false) h (bW (ao))⟩
  ·refine qk <| qq <| qq <| q0 <| qb 0 ?_
   obtain⟨bo,e2,H⟩:=aS H
   refine ql (cX.cd L s0  Ix (0:Int) _ _ ⟨h,by kernel_rfl,o⟩ e2) ?_
   rintro e s (⟨rfl,i1,rfl,g0,g1,g2,h1,rfl,o1⟩| ⟨rfl,r0,rfl,qS⟩)
   ·try dsimp only at H
    obtain rfl:=oi H
    exact q1 <| qt <| ⟨.inl rfl,bX (.bool true) h1 (bW (ao))⟩
   ·try dsimp only at H
    obtain rfl:=oi H
    exact⟨.inl rfl,qS⟩
end
end Go.Proofs.YtifafejidnjckaaGreat
namespace Go.Proofs.YtifafejidnjckaaGreat
open Go Go.R
open Go.IntKind (i64 u64 u8 u32)
end Go.Proofs.YtifafejidnjckaaGreat
namespace Go.Proofs.YtifafejidnjckaaGreat
open Go Go.R
open Go.IntKind (i64 u64 u8 u32)
end Go.Proofs.YtifafejidnjckaaGreat
namespace Go.Proofs.YtifafejidnjckaaGreat
open Go Go.R
open Go.IntKind (i64 u64 u8 u32)
end Go.Proofs.YtifafejidnjckaaGreat
namespace Go.Proofs.YtifafejidnjckaaGreat
open Go Go.R
open Go.IntKind (i64 u64 u8 u32)
def zo:cu:=gj [0,1,4,5,6,11,12,13,16,19] [] [1020,1012,996,972,959,1019,1019,892,1019,764,1019,511,1019,1019] [] []
def dI.f (m:Nat)(x0:Int)(y0:Int):Option (Int):=(cmp_isNaN_int.f m x0).bind fun x1=>(cmp_isNaN_int.f m y0).bind fun x2=>if x1=true then (if x2=true then (some (0:Int)) else (some (-1:Int))) else (if x2=true then (some (1:Int)) else (if (decide (x0<y0))=true then (some (-1:Int)) else (if (decide (x0 > y0))=true then (some (1:Int)) else (some (0:Int)))))
def dI.fin (L:Mem)(r:Int)(s:St):Prop:=∃av,aP Tryz.prog (s.open zo) Tryz.f127.results.toList=some av∧fi s.h av (.int .i64 r)
def QX (cf:CallF)(m:Nat):Prop:=∀(x0:Int) (y0:Int) (r:Int),dI.f m x0 y0=some r→∀h xs,aX b5 h xs [.int .i64 x0,.int .i64 y0]→cf 127 xs h=some (.int .i64 r,h)
section
variable {cf:CallF}{m:Nat}
theorem om {a7:FuncId→cu}(ha:a7 127=zo)(Mw:QP cf m)(x0:Int)(y0:Int)(h:AHeap)(L:Mem)  (o:Has h (L)){out:Int}(H:dI.f m x0 y0=some out) :
  ∃r h',bj Tryz.prog a7 cf m 127 [.int .i64 x0,.int .i64 y0] h=some (r,h')∧fi h' r (.int .i64 out):=by
 refine au (fn:=Tryz.f127) ha Tryz.func127 (by kernel_rfl) (by kernel_rfl) ?_
 refine aK (Q:=fun s=>dI.fin L out s) (fun _ _ h=>h) ?_
 have H:_=some out:=H
 unfold dI.f at H
 show dR _ cf zo m _ ⟨.int .i64 x0 :: .int .i64 y0::qK [],[],h⟩ _
 refine q1 <| qq ?_
 obtain⟨x1,e0,H⟩:=aS H
 refine qr [.a 1 (Mw _ _ e0 h _ (er (ab (aA) (aq))))] <| qq ?_
 obtain⟨x2,e1,H⟩:=aS H
 refine qr [.a 1 (Mw _ _ e1 h _ (er (ab (aA) (aq))))] <| qq <| qq <| q0 <| qc H (fun c0 H=>?_) (fun c0 H=>?_)
 ·refine qq <| qq <| q0 <| qc H (fun c1 H=>?_) (fun c1 H=>?_)
  ·obtain rfl:=oi H
   exact q1 <| qt <| ⟨.inl rfl,bX (.int .i64 (0:Int)) h (bW (cp))⟩
  ·obtain rfl:=oi H
   exact qk <| qq <| q0 <| qt <| ⟨.inl rfl,bX (.int .i64 (-1:Int)) h (bW (cp))⟩
 ·refine qk <| qq <| qq <| q0 <| qc H (fun c2 H=>?_) (fun c2 H=>?_)
  ·obtain rfl:=oi H
   exact q1 <| qt <| ⟨.inl rfl,bX (.int .i64 (1:Int)) h (bW (cp))⟩
  ·refine qk <| qq <| qq <| q0 <| qc H (fun c3 H=>?_) (fun c3 H=>?_)
   ·obtain rfl:=oi H
    exact q1 <| qt <| ⟨.inl rfl,bX (.int .i64 (-1:Int)) h (bW (cp))⟩
   ·refine qk <| qq <| qq <| q0 <| qc H (fun c4 H=>?_) (fun c4 H=>?_)
    ·obtain rfl:=oi H
     exact q1 <| qt <| ⟨.inl rfl,bX (.int .i64 (1:Int)) h (bW (cp))⟩
    ·obtain rfl:=oi H
     exact qk <| qq <| q0 <| qt <| ⟨.inl rfl,bX (.int .i64 (0:Int)) h (bW (cp))⟩
end
end Go.Proofs.YtifafejidnjckaaGreat
namespace Go.Proofs.YtifafejidnjckaaGreat
open Go Go.R
open Go.IntKind (i64 u64 u8 u32)
def zp:cu:=gj [0,1,4,5,6,11,12,13,16,19] [] [1020,1012,996,972,959,1019,1019,892,1019,764,1019,511,1019,1019] [] []
def cY.f (m:Nat)(x0:ByteArray)(y0:ByteArray):Option (Int):=(cmp_isNaN_string.f m x0).bind fun x1=>(cmp_isNaN_string.f m y0).bind fun x2=>if x1=true then (if x2=true then (some (0:Int)) else (some (-1:Int))) else (if x2=true then (some (1:Int)) else (if (Op.bytesLess x0.data.toList y0.data.toList)=true then (some (-1:Int)) else (if (!HU x0 y0)=true then (some (1:Int)) else (some (0:Int)))))
def cY.fin (L:Mem)(r:Int)(s:St):Prop:=∃av,aP Tryz.prog (s.open zp) Tryz.f129.results.toList=some av∧fi s.h av (.int .i64 r)
def QY (cf:CallF)(m:Nat):Prop:=∀(x0:ByteArray) (y0:ByteArray) (r:Int),cY.f m x0 y0=some r→∀h xs,aX b5 h xs [.str x0,.str y0]→cf 129 xs h=some (.int .i64 r,h)
section
variable {cf:CallF}{m:Nat}
theorem mh {a7:FuncId→cu}(ha:a7 129=zp)(Mx:QQ cf m)(x0:ByteArray)(y0:ByteArray)(h:AHeap)(L:Mem)  (o:Has h (L)){out:Int}(H:cY.f m x0 y0=some out) :
  ∃r h',bj Tryz.prog a7 cf m 129 [.str x0,.str y0] h=some (r,h')∧fi h' r (.int .i64 out):=by
 refine au (fn:=Tryz.f129) ha Tryz.func129 (by kernel_rfl) (by kernel_rfl) ?_
 refine aK (Q:=fun s=>cY.fin L out s) (fun _ _ h=>h) ?_
 have H:_=some out:=H
 unfold cY.f at H
 show dR _ cf zp m _ ⟨.str x0 :: .str y0::qK [],[],h⟩ _
 refine q1 <| qq ?_
 obtain⟨x1,e0,H⟩:=aS H
 refine qr [.a 1 (Mx _ _ e0 h _ (er (ab (bH) (aq))))] <| qq ?_
 obtain⟨x2,e1,H⟩:=aS H
 refine qr [.a 1 (Mx _ _ e1 h _ (er (ab (bH) (aq))))] <| qq <| qq <| q0 <| qc H (fun c0 H=>?_) (fun c0 H=>?_)
 ·refine qq <| qq <| q0 <| qc H (fun c1 H=>?_) (fun c1 H=>?_)
  ·obtain rfl:=oi H
   exact q1 <| qt <| ⟨.inl rfl,bX (.int .i64 (0:Int)) h (bW (cp))⟩
  ·obtain rfl:=oi H
   exact qk <| qq <| q0 <| qt <| ⟨.inl rfl,bX (.int .i64 (-1:Int)) h (bW (cp))⟩
 ·refine qk <| qq <| qq <| q0 <| qc H (fun c2 H=>?_) (fun c2 H=>?_)
  ·obtain rfl:=oi H
   exact q1 <| qt <| ⟨.inl rfl,bX (.int .i64 (1:Int)) h (bW (cp))⟩
  ·refine qk <| qq <| qq <| q0 <| qc H (fun c3 H=>?_) (fun c3 H=>?_)
   ·obtain rfl:=oi H
    exact q1 <| qt <| ⟨.inl rfl,bX (.int .i64 (-1:Int)) h (bW (cp))⟩
   ·refine qk <| qq <| qq <| q0 <| qc H (fun c4 H=>?_) (fun c4 H=>?_)
    ·obtain rfl:=oi H
     exact q1 <| qt <| ⟨.inl rfl,bX (.int .i64 (1:Int)) h (bW (cp))⟩
    ·obtain rfl:=oi H
     exact qk <| qq <| q0 <| qt <| ⟨.inl rfl,bX (.int .i64 (0:Int)) h (bW (cp))⟩
end
end Go.Proofs.YtifafejidnjckaaGreat
namespace Go.Proofs.YtifafejidnjckaaGreat
open Go Go.R
open Go.IntKind (i64 u64 u8 u32)
end Go.Proofs.YtifafejidnjckaaGreat
namespace Go.Proofs.YtifafejidnjckaaGreat
open Go Go.R
open Go.IntKind (i64 u64 u8 u32)
end Go.Proofs.YtifafejidnjckaaGreat
namespace Go.Proofs.YtifafejidnjckaaGreat
open Go Go.R
open Go.IntKind (i64 u64 u8 u32)
def vD:cu:=gj [0,1,2,3,8,9,13,42] [] [240,208,144,208,80,239,239] [] []
def cN.l0 (m:Nat)(l0:List ah)(cW:List Int)(n0:Int)(bL:List Int):Nat→Int→Option (Sum Int (Int))
 | 0,_=>none
 | k+1,k0=>if (decide (k0<(cW.length:Int)))=true then ((ix l0 n0).bind fun v0=>(ix cW k0).bind fun v1=>(ix l0 v1).bind fun v2=>(eZ.f m v0 v2).bind fun x0=>if x0=true then ((ix l0 n0).bind fun v3=>(ix cW k0).bind fun v4=>(ix l0 v4).bind fun v5=>(bI.f m v3 v5 bL).bind fun x1=>if x1=true then ((ix cW k0).bind fun v6=>some (.inl v6)) else (cN.l0 m l0 cW n0 bL k (i64.wrap (k0+(1:Int))))) else (cN.l0 m l0 cW n0 bL k (i64.wrap (k0+(1:Int))))) else (some (.inr k0))
def cN.f (m:Nat)(l0:List ah)(cW:List Int)(n0:Int)(bL:List Int):Option (Int):=(cN.l0 m l0 cW n0 bL m (0:Int)).bind fun bo=>match bo with | .inl r0=>some r0 | .inr k1=>some n0
def cN.fin (L:Mem)(r:Int)(s:St):Prop:=∃av,aP Tryz.prog (s.open vD) Tryz.f143.results.toList=some av∧fi s.h av (.int .i64 r)
def Le (cf:CallF)(m:Nat):Prop:=∀(l0:List ah) (cW:List Int) (n0:Int) (bL:List Int) (r:Int),cN.f m l0 cW n0 bL=some r→∀h xs,aX b5 h xs [af.fz l0,aa.fz cW,.int .i64 n0,aa.fz bL]→cf 143 xs h=some (.int .i64 r,h)
section
variable {cf:CallF}{m:Nat}
theorem cN.cd (L:Mem)(l0:List ah)(cW:List Int)(n0:Int)(bL:List Int)  (qX:Mu cf m)(oo:C2 cf m):b8 Tryz.prog cf vD m (sub [1,0,1,0,0] (br Tryz.f143)) (fun k (σ:Int)=>cN.l0 m l0 cW n0 bL k σ) (fun σ s=>match σ with | k0=>∃h0,s=⟨[af.fz l0,aa.fz cW,.int .i64 n0,aa.fz bL,.any,.int .i64 k0,.any,.any],[],h0⟩∧Has h0 (L)) (fun out e s=>(e = .exit 0∧∃k0,.inr k0=out∧∃kX tw zk wS pK h0,s=⟨[kX,tw,.int .i64 n0,zk,.any,wS,pK,.any],[],h0⟩∧Has h0 (L))∨(e = .ret∧∃r,.inl r=out∧cN.fin L r s)):=by
 refine iO (fun _=>rfl) ?_
 rintro k k0 s out ⟨h0,rfl,o0⟩ H
 have H:cN.l0 m l0 cW n0 bL (k+1) k0=some out:=H
 refine qq <| qq <| q0 <| qc H (fun c0 H=>?_) (fun c0 H=>?_)
 ·refine qk <| qq <| qb 1 <| qq ?_
  obtain⟨v0,e0,H⟩:=aS H
  obtain⟨v1,e1,H⟩:=aS H
  obtain⟨v2,e2,H⟩:=aS H
  obtain⟨x0,e3,H⟩:=aS H
  rcases eu H with⟨c1,H⟩| ⟨c1,H⟩
  ·obtain⟨v3,e4,H⟩:=aS H
   obtain⟨v4,e5,H⟩:=aS H
   obtain⟨v5,e6,H⟩:=aS H
   obtain⟨x1,e7,H⟩:=aS H
   refine qr [.v 2 (bO (k:=.i64) (E:=af) (l:=l0) kI e0),.v 3 (fm  (E:=af) (l:=l0) h0 rA rB e0),.v 7 (bO (k:=.i64) (E:=aa) (l:=cW) dt e1),.v 8 (cF  (E:=aa) (l:=cW) h0 A3 e1 rfl),.v 9 (bO (k:=.i64) (E:=af) (l:=l0) kI e2),.v 10 (fm  (E:=af) (l:=l0) h0 rA rB e2),.a 11 (qX _ _ _ e3 h0 _ (er (ab (bT (ab (aA) (ab (aA) (ab (bH) (ab (cQ (E:=aa)) (aq)))))) (ab (bT (ab (aA) (ab (aA) (ab (bH) (ab (cQ (E:=aa)) (aq)))))) (aq))))),.b 12 c1,.v 15 (bO (k:=.i64) (E:=af) (l:=l0) kI e4),.v 16 (fm  (E:=af) (l:=l0) h0 rA rB e4),.v 20 (bO (k:=.i64) (E:=aa) (l:=cW) dt e5),.v 21 (cF  (E:=aa) (l:=cW) h0 A3 e5 rfl),.v 22 (bO (k:=.i64) (E:=af) (l:=l0) kI e6),.v 23 (fm  (E:=af) (l:=l0) h0 rA rB e6),.a 25 (oo _ _ _ _ e7 h0 _ (er (ab (bT (ab (aA) (ab (aA) (ab (bH) (ab (cQ (E:=aa)) (aq)))))) (ab (bT (ab (aA) (ab (aA) (ab (bH) (ab (cQ (E:=aa)) (aq)))))) (ab (cQ (E:=aa)) (aq))))))] ?_
   refine qc H (fun c2 H=>?_) (fun c2 H=>?_)
   ·refine qq ?_
    obtain⟨v6,e8,H⟩:=aS H
    exact qr [.v 2 (bO (k:=.i64) (E:=aa) (l:=cW) dt e8),.v 3 (cF  (E:=aa) (l:=cW) h0 A3 e8 rfl)] <| qt <| ac3 (⟨rfl,_,oi H,bX (.int .i64 v6) h0 (bW (cp))⟩)
   ·exact qk <| q0 <| ⟨i64.wrap (k0+(1:Int)),⟨h0,by kernel_rfl,o0⟩,H⟩
  ·exact qr [.v 2 (bO (k:=.i64) (E:=af) (l:=l0) kI e0),.v 3 (fm  (E:=af) (l:=l0) h0 rA rB e0),.v 7 (bO (k:=.i64) (E:=aa) (l:=cW) dt e1),.v 8 (cF  (E:=aa) (l:=cW) h0 A3 e1 rfl),.v 9 (bO (k:=.i64) (E:=af) (l:=l0) kI e2),.v 10 (fm  (E:=af) (l:=l0) h0 rA rB e2),.a 11 (qX _ _ _ e3 h0 _ (er (ab (bT (ab (aA) (ab (aA) (ab (bH) (ab (cQ (E:=aa)) (aq)))))) (ab (bT (ab (aA) (ab (aA) (ab (bH) (ab (cQ (E:=aa)) (aq)))))) (aq))))),.b 12 c1] <| Eb <| qk <| q0 <| ⟨i64.wrap (k0+(1:Int)),⟨h0,by kernel_rfl,o0⟩,H⟩
 ·exact qx 0 <| Or.inl (⟨rfl,k0,oi H,af.fz l0,aa.fz cW,aa.fz bL,.int .i64 k0,.bool (decide (k0<(cW.length:Int))),h0,by kernel_rfl,o0⟩)
theorem tH {a7:FuncId→cu}(ha:a7 143=vD)(qX:Mu cf m)(oo:C2 cf m)(l0:List ah)(cW:List Int)(n0:Int)(bL:List Int)(h:AHeap)(L:Mem)  (o:Has h (L)){out:Int}(H:cN.f m l0 cW n0 bL=some out) :
  ∃r h',bj Tryz.prog a7 cf m 143 [af.fz l0,aa.fz cW,.int .i64 n0,aa.fz bL] h=some (r,h')∧fi h' r (.int .i64 out):=by
 refine au (fn:=Tryz.f143) ha Tryz.func143 (by kernel_rfl) (by kernel_rfl) ?_
 refine aK (Q:=fun s=>cN.fin L out s) (fun _ _ h=>h) ?_
 have H:_=some out:=H
 unfold cN.f at H
 show dR _ cf vD m _ ⟨af.fz l0::aa.fz cW :: .int .i64 n0::aa.fz bL::qJ [],[],h⟩ _
 refine q1 <| qq <| qq <| q0 <| qb 0 ?_
 obtain⟨bo,e9,H⟩:=aS H
 refine ql (cN.cd L l0 cW n0 bL  qX oo (0:Int) _ _ ⟨h,by kernel_rfl,o⟩ e9) ?_
 rintro e s (⟨rfl,k1,rfl,g0,g1,g2,g3,g4,h1,rfl,o1⟩| ⟨rfl,r0,rfl,qS⟩)
 ·try dsimp only at H
  obtain rfl:=oi H
  exact q1 <| qt <| ⟨.inl rfl,bX (.int .i64 n0) h1 (bW (cp))⟩
 ·try dsimp only at H
  obtain rfl:=oi H
  exact⟨.inl rfl,qS⟩
end
end Go.Proofs.YtifafejidnjckaaGreat
namespace Go.Proofs.YtifafejidnjckaaGreat
open Go Go.R
open Go.IntKind (i64 u64 u8 u32)
end Go.Proofs.YtifafejidnjckaaGreat
