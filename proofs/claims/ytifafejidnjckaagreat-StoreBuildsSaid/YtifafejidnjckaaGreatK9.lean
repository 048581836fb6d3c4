/- Part of the proof: Q148, Q44, Q47, Q48, Q59, Q74, Q79, Q80, Q82, Q103, Q115, Q116, Q117, Q118, Q121, Q133, Q139, Q146, Q27, Q29. -/
import Derived.Test.YtifafejidnjckaaGreatK8
set_option linter.unusedVariables false
set_option linter.unusedSimpArgs false
set_option maxRecDepth 100000
open ByteArray renaming mk → ab7
open Eq renaming trans → acq
open List renaming length_set → abF, append_assoc → abX, cons_append → acg, nil_append → aci
namespace Go.Proofs.YtifafejidnjckaaGreat
open Go Go.R
open Go.IntKind (i64 u64 u8 u32)
def vE:cu:=gj [0,1,2,3,4,10,11,20,23] [] [450,394,266,138,394,394,394,394,511] [] []
def gg.l0 (m:Nat)(m0:Int)(bb:Int→Int→Option (Int)):Nat→(List Int)→Int→Int→Option ((List Int) × Int × Int)
 | 0,_,_,_=>none
 | k+1,bJ,i0,j0=>if (!(i0==j0))=true then (if (decide (i0 > j0))=true then ((cC.f m bJ (i64.wrap (m0 - i0)) m0 j0 bb).bind fun x0=>gg.l0 m m0 bb k x0 (i64.wrap (i0 - j0)) j0) else ((cC.f m bJ (i64.wrap (m0 - i0)) (i64.wrap (i64.wrap (m0+j0) - i0)) i0 bb).bind fun x1=>gg.l0 m m0 bb k x1 i0 (i64.wrap (j0 - i0)))) else (some ((bJ,i0,j0)))
def gg.f (m:Nat)(az:List Int)(a0:Int)(m0:Int)(b0:Int)(bb:Int→Int→Option (Int)):Option ((List Int)):=(gg.l0 m m0 bb m az (i64.wrap (m0 - a0)) (i64.wrap (b0 - m0))).bind fun bo=>match bo with | (dY,i1,j1)=>(cC.f m dY (i64.wrap (m0 - i1)) m0 i1 bb).bind fun x2=>some x2
def gg.fin (L:Mem)(aV:Nat)(az:List Int)(a0:Int)(m0:Int)(b0:Int)(bb:Int→Int→Option (Int))(r:(List Int))(s:St):Prop:=aP Tryz.prog (s.open vE) Tryz.f148.results.toList=some (.tup [])∧Has s.h ((aV,.sl az.length 1 (aa.l r))::L)
def QZ (cf:CallF)(m:Nat):Prop:=∀(az:List Int) (a0:Int) (m0:Int) (b0:Int) (bb:Int→Int→Option (Int)) (r:(List Int)),gg.f m az a0 m0 b0 bb=some r→∀h L (dr:Nat) (aV:Nat),Has h ((aV,.sl dr 1 (aa.l az))::L)→∀(fT:FuncId) (bu bc:List AV),(bh (.fn fT bu) = .fn fT bu)→(∀(h:AHeap) (xs:List AV) (a0:Int) (a1:Int) r,bb a0 a1=some r→aX b5 h xs ([.int .i64 a0,.int .i64 a1]++bc)→cf fT xs h=some (.int .i64 r,h))→(∀h K,Has h (K++(L))→aX dD h bu bc)→(∀h,aX dD h bc bc)→∀xs,xs.map bh=[.rs aV 0 dr 1,.int .i64 a0,.int .i64 m0,.int .i64 b0,.fn fT bu]→∃h',cf 148 xs h=some (.tup [],h')∧Has h' ((aV,.sl dr 1 (aa.l r))::L)
section
variable {cf:CallF}{m:Nat}
theorem gg.cd (L:Mem)(aV:Nat)(fT:FuncId)(bu bc:List AV)(az:List Int)(a0:Int)(m0:Int)(b0:Int)(bb:Int→Int→Option (Int))  (iE:bh (.fn fT bu) = .fn fT bu)(iW:∀(h:AHeap) (xs:List AV) (a0:Int) (a1:Int) r,bb a0 a1=some r→aX b5 h xs ([.int .i64 a0,.int .i64 a1]++bc)→cf fT xs h=some (.int .i64 r,h))(iX:∀h K,Has h (K++(L))→aX dD h bu bc)(jF:∀h,aX dD h bc bc)(Bc:N7 cf m):b8 Tryz.prog cf vE m (sub [1,1,0,0,0] (br Tryz.f148)) (fun k (σ:(List Int) × Int × Int)=>gg.l0 m m0 bb k σ.1 σ.2.1 σ.2.2) (fun σ s=>match σ with | (bJ,i0,j0)=>∃h0,s=⟨[.rs aV 0 az.length 1,.any,.int .i64 m0,.any,.fn fT bu,.int .i64 i0,.int .i64 j0,.any,.any],[],h0⟩∧Has h0 ((aV,.sl az.length 1 (aa.l bJ))::L)) (fun out e s=>(e = .exit 0∧∃bJ i0 j0,(bJ,i0,j0)=out∧∃Iy Ob h0,s=⟨[.rs aV 0 az.length 1,.any,.int .i64 m0,.any,.fn fT bu,.int .i64 i0,Iy,Ob,.any],[],h0⟩∧Has h0 ((aV,.sl az.length 1 (aa.l bJ))::L))):=by
 refine iO (fun _=>rfl) ?_
 rintro k ⟨bJ,i0,j0⟩ s out ⟨h0,rfl,o0⟩ H
 have H:gg.l0 m m0 bb (k+1) bJ i0 j0=some out:=H
 refine qq <| qq <| q0 <| qc H (fun c0 H=>?_) (fun c0 H=>?_)
 ·refine qk <| qb 1 <| qq <| q0 <| qc H (fun c1 H=>?_) (fun c1 H=>?_)
  ·refine qq ?_
   obtain⟨x0,e0,H⟩:=aS H
   obtain⟨h1,e1,o1⟩:=Bc _ _ _ _ _ _ e0 h0 _ _ _ (o0) fT bu bc iE iW (fun h' K' o'=>iX h' (K'++[]) (by simpa only [abX,acg,aci] using o')) jF [.rs aV 0 az.length 1,.int .i64 (i64.wrap (m0 - i0)),.int .i64 m0,.int .i64 j0,.fn fT bu] (aR (rfl) (aR (bU (dc)) (aR (bU (dc)) (aR (bU (dc)) (aR (iE) (eO))))))
   exact qr [.a 7 e1] <| q0 <| ⟨(x0,i64.wrap (i0 - j0),j0),⟨h1,by kernel_rfl,o1⟩,H⟩
  ·refine qq ?_
   obtain⟨x1,e2,H⟩:=aS H
   obtain⟨h2,e3,o2⟩:=Bc _ _ _ _ _ _ e2 h0 _ _ _ (o0) fT bu bc iE iW (fun h' K' o'=>iX h' (K'++[]) (by simpa only [abX,acg,aci] using o')) jF [.rs aV 0 az.length 1,.int .i64 (i64.wrap (m0 - i0)),.int .i64 (i64.wrap (i64.wrap (m0+j0) - i0)),.int .i64 i0,.fn fT bu] (aR (rfl) (aR (bU (dc)) (aR (bU (dc)) (aR (bU (dc)) (aR (iE) (eO))))))
   exact qr [.a 11 e3] <| q0 <| ⟨(x1,i0,i64.wrap (j0 - i0)),⟨h2,by kernel_rfl,o2⟩,H⟩
 ·exact qx 0 <| ⟨rfl,bJ,i0,j0,oi H,.int .i64 j0,.bool (!(i0==j0)),h0,by kernel_rfl,o0⟩
theorem zq {a7:FuncId→cu}(ha:a7 148=vE)(Bc:N7 cf m)(az:List Int)(a0:Int)(m0:Int)(b0:Int)(bb:Int→Int→Option (Int))(h:AHeap)(L:Mem)(aV:Nat)(fT:FuncId)(bu bc:List AV)  (iE:bh (.fn fT bu) = .fn fT bu)(iW:∀(h:AHeap) (xs:List AV) (a0:Int) (a1:Int) r,bb a0 a1=some r→aX b5 h xs ([.int .i64 a0,.int .i64 a1]++bc)→cf fT xs h=some (.int .i64 r,h))(iX:∀h K,Has h (K++(L))→aX dD h bu bc)(jF:∀h,aX dD h bc bc)(o:Has h ((aV,.sl az.length 1 (aa.l az))::L)){out:(List Int)}(H:gg.f m az a0 m0 b0 bb=some out) :
  ∃r h',bj Tryz.prog a7 cf m 148 [.rs aV 0 az.length 1,.int .i64 a0,.int .i64 m0,.int .i64 b0,.fn fT bu] h=some (r,h')∧r = .tup []∧Has h' ((aV,.sl az.length 1 (aa.l out))::L):=by
 refine au (fn:=Tryz.f148) ha Tryz.func148 (by kernel_rfl) (by kernel_rfl) ?_
 refine aK (Q:=fun s=>gg.fin L aV az a0 m0 b0 bb out s) (fun _ _ ⟨h1,h2,h3⟩=>⟨h1,_,h2,rfl,h3⟩) ?_
 have H:_=some out:=H
 unfold gg.f at H
 show dR _ cf vE m _ ⟨.rs aV 0 az.length 1 :: .int .i64 a0 :: .int .i64 m0 :: .int .i64 b0 :: .fn fT bu::qJ [],[],h⟩ _
 refine q1 <| qq <| q0 <| qq <| qb 0 ?_
 obtain⟨bo,e4,H⟩:=aS H
 refine ql (gg.cd L aV fT bu bc az a0 m0 b0 bb  iE iW iX jF Bc (az,i64.wrap (m0 - a0),i64.wrap (b0 - m0)) _ _ ⟨h,by kernel_rfl,o⟩ e4) ?_
 rintro e s ⟨rfl,dY,i1,j1,rfl,g0,g1,h3,rfl,o3⟩
 try dsimp only at H
 obtain⟨x2,e5,H⟩:=aS H
 obtain⟨h4,e6,o4⟩:=Bc _ _ _ _ _ _ e5 h3 _ _ _ (o3) fT bu bc iE iW (fun h' K' o'=>iX h' (K'++[]) (by simpa only [abX,acg,aci] using o')) jF [.rs aV 0 az.length 1,.int .i64 (i64.wrap (m0 - i1)),.int .i64 m0,.int .i64 i1,.fn fT bu] (aR (rfl) (aR (bU (dc)) (aR (bU (dc)) (aR (bU (dc)) (aR (iE) (eO))))))
 obtain rfl:=oi H
 exact qr [.a 7 e6] <| ⟨.inr rfl,⟨by kernel_rfl,he o4⟩⟩
end
end Go.Proofs.YtifafejidnjckaaGreat
namespace Go.Proofs.YtifafejidnjckaaGreat
open Go Go.R
open Go.IntKind (i64 u64 u8 u32)
end Go.Proofs.YtifafejidnjckaaGreat
namespace Go.Proofs.YtifafejidnjckaaGreat
open Go Go.R
open Go.IntKind (i64 u64 u8 u32)
end Go.Proofs.YtifafejidnjckaaGreat
namespace Go.Proofs.YtifafejidnjckaaGreat
open Go Go.R
open Go.IntKind (i64 u64 u8 u32)
end Go.Proofs.YtifafejidnjckaaGreat
namespace Go.Proofs.YtifafejidnjckaaGreat
open Go Go.R
open Go.IntKind (i64 u64 u8 u32)
def EC:cu:=gj [0,1,2,4,5,9] [] [57,41,55,31,55,55] [] []
def cH.f (m:Nat)(s0:aj)(l0:List Int):Option (Int):=(dL.f m s0).bind fun x0=>if (!x0)=true then (some (6:Int)) else ((fY.f m l0 (fun y0=>dS.f m y0 s0)).bind fun x1=>if x1=true then (some (1:Int)) else (some (0:Int)))
def cH.fin (L:Mem)(r:Int)(s:St):Prop:=∃av,aP Tryz.prog (s.open EC) Tryz.f59.results.toList=some av∧fi s.h av (.int .i64 r)
def Q0 (cf:CallF)(m:Nat):Prop:=∀(s0:aj) (l0:List Int) (r:Int),cH.f m s0 l0=some r→∀h xs,aX b5 h xs [.fp [.bool s0.aF,af.fz s0.ae,aa.fz s0.aB] 0,aa.fz l0]→cf 59 xs h=some (.int .i64 r,h)
section
variable {cf:CallF}{m:Nat}
theorem mX {a7:FuncId→cu}(ha:a7 59=EC)(N8:Up cf m)(Of:UB cf m)(UC:W5 cf m)(s0:aj)(l0:List Int)(h:AHeap)(L:Mem)  (o:Has h (L)){out:Int}(H:cH.f m s0 l0=some out) :
  ∃r h',bj Tryz.prog a7 cf m 59 [.fp [.bool s0.aF,af.fz s0.ae,aa.fz s0.aB] 0,aa.fz l0] h=some (r,h')∧fi h' r (.int .i64 out):=by
 refine au (fn:=Tryz.f59) ha Tryz.func59 (by kernel_rfl) (by kernel_rfl) ?_
 refine aK (Q:=fun s=>cH.fin L out s) (fun _ _ h=>h) ?_
 have H:_=some out:=H
 unfold cH.f at H
 show dR _ cf EC m _ ⟨.fp [.bool s0.aF,af.fz s0.ae,aa.fz s0.aB] 0::aa.fz l0::qJ [],[],h⟩ _
 refine qq ?_
 obtain⟨aV,h0,e0,o0⟩:=km (cs:=[.fp [.bool s0.aF,af.fz s0.ae,aa.fz s0.aB] 0]) o (by kernel_rfl)
 refine qr [.a 0 e0] <| qq <| qb 0 <| qq ?_
 obtain⟨x0,e1,H⟩:=aS H
 refine qr [.v 0 (show b7 Tryz.prog h0 31 (.ptr aV 0)=some (.fp [.bool s0.aF,af.fz s0.ae,aa.fz s0.aB] 0) from dO (q:=0) (cs:=[.fp [.bool s0.aF,af.fz s0.ae,aa.fz s0.aB] 0]) o0 rfl (by kernel_rfl)),.a 1 (N8 _ _ e1 h0 _ (er (ab (dJ (pure_cons (ba) (pure_cons (bG.aI (E:=af) (l:=s0.ae)) (pure_cons (bG.aI (E:=aa) (l:=s0.aB)) (pure_nil))))) (aq))))] <| qc H (fun c0 H=>?_) (fun c0 H=>?_)
 ·refine q1 ?_
  have o1:Has h0 (L):=Has.del o0 0
  obtain rfl:=oi H
  exact qt <| ⟨.inl rfl,bX (.int .i64 (6:Int)) h0 (bW (cp))⟩
 ·refine qq ?_
  obtain⟨x1,e2,H⟩:=aS H
  refine qr [.a 2 (Of _ _ _ e2 95 [.fp [.fp [.bool s0.aF,af.fz s0.ae,aa.fz s0.aB] 0] 0] (fun h' Lf y0 r hr hx=>UC y0 _ r hr h' Lf hx) (fun h_=>vf (ab (dJ (pure_cons (qQ (pure_cons (ba) (pure_cons (bG.aI (E:=af) (l:=s0.ae)) (pure_cons (bG.aI (E:=aa) (l:=s0.aB)) (pure_nil))))) (pure_nil))) (aq))) h0 _ (er (ab (cQ (E:=aa)) (ab (xH (ab (jT (q:=0) o0 rfl (ab (dJ (pure_cons (ba) (pure_cons (bG.aI (E:=af) (l:=s0.ae)) (pure_cons (bG.aI (E:=aa) (l:=s0.aB)) (pure_nil))))) (aq))) (aq))) (aq)))))] ?_
  have o2:Has h0 (L):=Has.del o0 0
  refine qc H (fun c1 H=>?_) (fun c1 H=>?_)
  ·obtain rfl:=oi H
   exact q1 <| qt <| ⟨.inl rfl,bX (.int .i64 (1:Int)) h0 (bW (cp))⟩
  ·obtain rfl:=oi H
   exact qk <| qq <| q0 <| qt <| ⟨.inl rfl,bX (.int .i64 (0:Int)) h0 (bW (cp))⟩
end
end Go.Proofs.YtifafejidnjckaaGreat
namespace Go.Proofs.YtifafejidnjckaaGreat
open Go Go.R
open Go.IntKind (i64 u64 u8 u32)
def ED:cu:=gj [0,2] [] [2,1] [] []
def iM.f (m:Nat)(s0:ByteArray):Option (Bool):=if (s0.data.toList==(ab7 #[124]).data.toList)=true then (some true) else (if (s0.data.toList==(ab7 #[35]).data.toList)=true then (some true) else ((dN.f m s0 (97:Int) (122:Int)).bind fun x0=>some x0))
def iM.fin (L:Mem)(r:Bool)(s:St):Prop:=∃av,aP Tryz.prog (s.open ED) Tryz.f74.results.toList=some av∧fi s.h av (.bool r)
def Xf (cf:CallF)(m:Nat):Prop:=∀(s0:ByteArray) (r:Bool),iM.f m s0=some r→∀h xs,aX b5 h xs [.str s0]→cf 74 xs h=some (.bool r,h)
section
variable {cf:CallF}{m:Nat}
theorem vF {a7:FuncId→cu}(ha:a7 74=ED)(Q3:QU cf m)(s0:ByteArray)(h:AHeap)(L:Mem)  (o:Has h (L)){out:Bool}(H:iM.f m s0=some out) :
  ∃r h',bj Tryz.prog a7 cf m 74 [.str s0] h=some (r,h')∧fi h' r (.bool out):=by
 refine au (fn:=Tryz.f74) ha Tryz.func74 (by kernel_rfl) (by kernel_rfl) ?_
 refine aK (Q:=fun s=>iM.fin L out s) (fun _ _ h=>h) ?_
 have H:_=some out:=H
 unfold iM.f at H
 show dR _ cf ED m _ ⟨[.str s0,.any],[],h⟩ _
 refine q1 <| qq ?_
 rcases eu H with⟨c0,H⟩| ⟨c0,H⟩
 ·obtain rfl:=oi H
  exact qr [.b 2 c0] <| qt <| ⟨.inl rfl,bX (.bool true) h (bW (ao))⟩
 ·rcases eu H with⟨c1,H⟩| ⟨c1,H⟩
  ·obtain rfl:=oi H
   exact qr [.b 2 c0,.b 6 c1] <| qt <| ⟨.inl rfl,bX (.bool true) h (bW (ao))⟩
  ·obtain⟨x0,e0,H⟩:=aS H
   obtain rfl:=oi H
   exact qr [.b 2 c0,.b 6 c1,.a 8 (Q3 _ _ _ _ e0 h _ (er (ab (bH) (ab (aA) (ab (aA) (aq))))))] <| qt <| ⟨.inl rfl,bX (.bool x0) h (bW (ao))⟩
end
end Go.Proofs.YtifafejidnjckaaGreat
namespace Go.Proofs.YtifafejidnjckaaGreat
open Go Go.R
open Go.IntKind (i64 u64 u8 u32)
def EE:cu:=gj [0,1,2,3,4,6,7,23,44,60,89] [2] [2035,2003,1939,2031,1875,2031,1747,2031,1491,2031,1019,2031,2031] [] []
def jt.f (m:Nat)(n0:ah)(nr:Int):Option (Bool):=if (n0.kind==(0:Int))=true then (if (decide (n0.int≥(0:Int)))=true then (if (n0.label.data.toList==(ab7 #[]).data.toList)=true then (some ((n0.args.length:Int)==(0:Int))) else (some false)) else (some false)) else (if (n0.kind==(1:Int))=true then (if (decide (n0.int≥(-1099511627776:Int)))=true then (if (decide (n0.int≤(1099511627776:Int)))=true then (if (n0.label.data.toList==(ab7 #[]).data.toList)=true then (some ((n0.args.length:Int)==(0:Int))) else (some false)) else (some false)) else (some false)) else (if (n0.kind==(2:Int))=true then (if (n0.int==(0:Int))=true then ((iM.f m n0.label).bind fun x0=>if x0=true then (some ((n0.args.length:Int)==(0:Int))) else (some false)) else (some false)) else (if (n0.kind==(3:Int))=true then (if (n0.int==(0:Int))=true then ((iM.f m n0.label).bind fun x1=>if x1=true then (if (decide ((n0.args.length:Int)≥(1:Int)))=true then (if (decide ((n0.args.length:Int)≤(8:Int)))=true then ((fY.f m n0.args (fun y0=>iC.f m y0 nr)).bind fun x2=>some (!x2)) else (some false)) else (some false)) else (some false)) else (some false)) else (if (n0.kind==(4:Int))=true then (if (decide (n0.int≥(0:Int)))=true then ((iB.f m n0.label).bind fun x3=>if x3=true then (some ((n0.args.length:Int)==(0:Int))) else (some false)) else (some false)) else (some false)))))
def jt.fin (L:Mem)(r:Bool)(s:St):Prop:=∃av,aP Tryz.prog (s.open EE) Tryz.f79.results.toList=some av∧fi s.h av (.bool r)
def Xg (cf:CallF)(m:Nat):Prop:=∀(n0:ah) (nr:Int) (r:Bool),jt.f m n0 nr=some r→∀h xs,aX b5 h xs [.agg [.int .i64 n0.kind,.int .i64 n0.int,.str n0.label,aa.fz n0.args],.int .i64 nr]→cf 79 xs h=some (.bool r,h)
section
variable {cf:CallF}{m:Nat}
theorem vG {a7:FuncId→cu}(ha:a7 79=EE)(Gb:Xf cf m)(Of:UB cf m)(Q9:W4 cf m)(Ra:QL cf m)(n0:ah)(nr:Int)(h:AHeap)(L:Mem)  (o:Has h (L)){out:Bool}(H:jt.f m n0 nr=some out) :
  ∃r h',bj Tryz.prog a7 cf m 79 [.agg [.int .i64 n0.kind,.int .i64 n0.int,.str n0.label,aa.fz n0.args],.int .i64 nr] h=some (r,h')∧fi h' r (.bool out):=by
 refine au (fn:=Tryz.f79) ha Tryz.func79 (by kernel_rfl) (by kernel_rfl) ?_
 refine aK (Q:=fun s=>jt.fin L out s) (fun _ _ h=>h) ?_
 have H:_=some out:=H
 unfold jt.f at H
 show dR _ cf EE m _ ⟨.agg [.int .i64 n0.kind,.int .i64 n0.int,.str n0.label,aa.fz n0.args] :: .int .i64 nr::Mp [],[none],h⟩ _
 refine qq ?_
 obtain⟨aV,h0,e0,o0⟩:=km (cs:=[.int .i64 nr]) o (by kernel_rfl)
 refine qr [.a 1 e0] <| qq <| qq <| q0 <| qb 0 <| qq <| q0 <| qc H (fun c0 H=>?_) (fun c0 H=>?_)
 ·refine qq ?_
  rcases eu H with⟨c1,H⟩| ⟨c1,H⟩
  ·rcases eu H with⟨c2,H⟩| ⟨c2,H⟩
   ·refine qr [.b 3 c1,.b 8 c2] ?_
    have o1:Has h0 (L):=Has.del o0 0
    obtain rfl:=oi H
    exact qt <| ⟨.inl rfl,bX (.bool ((n0.args.length:Int)==(0:Int))) h0 (bW (ao))⟩
   ·refine qr [.b 3 c1,.b 8 c2] ?_
    have o2:Has h0 (L):=Has.del o0 0
    obtain rfl:=oi H
    exact qt <| ⟨.inl rfl,bX (.bool false) h0 (bW (ao))⟩
  ·refine qr [.b 3 c1] ?_
   have o3:Has h0 (L):=Has.del o0 0
   obtain rfl:=oi H
   exact qt <| ⟨.inl rfl,bX (.bool false) h0 (bW (ao))⟩
 ·refine q1 <| qc H (fun c3 H=>?_) (fun c3 H=>?_)
  ·refine qq ?_
   rcases eu H with⟨c4,H⟩| ⟨c4,H⟩
   ·rcases eu H with⟨c5,H⟩| ⟨c5,H⟩
    ·rcases eu H with⟨c6,H⟩| ⟨c6,H⟩
     ·refine qr [.b 3 c4,.b 8 c5,.b 13 c6] ?_
      have o4:Has h0 (L):=Has.del o0 0
      obtain rfl:=oi H
      exact qt <| ⟨.inl rfl,bX (.bool ((n0.args.length:Int)==(0:Int))) h0 (bW (ao))⟩
     ·refine qr [.b 3 c4,.b 8 c5,.b 13 c6] ?_
      have o5:Has h0 (L):=Has.del o0 0
      obtain rfl:=oi H
      exact qt <| ⟨.inl rfl,bX (.bool false) h0 (bW (ao))⟩
    ·refine qr [.b 3 c4,.b 8 c5] ?_
     have o6:Has h0 (L):=Has.del o0 0
     obtain rfl:=oi H
     exact qt <| ⟨.inl rfl,bX (.bool false) h0 (bW (ao))⟩
   ·refine qr [.b 3 c4] ?_
    have o7:Has h0 (L):=Has.del o0 0
    obtain rfl:=oi H
    exact qt <| ⟨.inl rfl,bX (.bool false) h0 (bW (ao))⟩
  ·refine q1 <| qc H (fun c7 H=>?_) (fun c7 H=>?_)
   ·refine qq ?_
    rcases eu H with⟨c8,H⟩| ⟨c8,H⟩
    ·obtain⟨x0,e1,H⟩:=aS H
     rcases eu H with⟨c9,H⟩| ⟨c9,H⟩
     ·refine qr [.b 3 c8,.a 6 (Gb _ _ e1 h0 _ (er (ab (bH) (aq)))),.b 8 c9] ?_
      have o8:Has h0 (L):=Has.del o0 0
      obtain rfl:=oi H
      exact qt <| ⟨.inl rfl,bX (.bool ((n0.args.length:Int)==(0:Int))) h0 (bW (ao))⟩
     ·refine qr [.b 3 c8,.a 6 (Gb _ _ e1 h0 _ (er (ab (bH) (aq)))),.b 8 c9] ?_
      have o9:Has h0 (L):=Has.del o0 0
      obtain rfl:=oi H
      exact qt <| ⟨.inl rfl,bX (.bool false) h0 (bW (ao))⟩
    ·refine qr [.b 3 c8] ?_
     have qU:Has h0 (L):=Has.del o0 0
     obtain rfl:=oi H
     exact qt <| ⟨.inl rfl,bX (.bool false) h0 (bW (ao))⟩
   ·refine q1 <| qc H (fun wT H=>?_) (fun wT H=>?_)
    ·refine qq ?_
     rcases eu H with⟨oK,H⟩| ⟨oK,H⟩
     ·obtain⟨x1,e2,H⟩:=aS H
      rcases eu H with⟨tC,H⟩| ⟨tC,H⟩
      ·rcases eu H with⟨s7,H⟩| ⟨s7,H⟩
       ·rcases eu H with⟨s8,H⟩| ⟨s8,H⟩
        ·obtain⟨x2,e3,H⟩:=aS H
         refine qr [.b 3 oK,.a 6 (Gb _ _ e2 h0 _ (er (ab (bH) (aq)))),.b 8 tC,.b 14 s7,.b 20 s8,.a 24 (Of _ _ _ e3 110 [.fp [.int .i64 nr] 0] (fun h' Lf y0 r hr hx=>Ra y0 _ r hr h' Lf hx) (fun h_=>vf (ab (dJ (pure_cons (qH) (pure_nil))) (aq))) h0 _ (er (ab (cQ (E:=aa)) (ab (xH (ab (jT (q:=0) o0 rfl (ab (aA) (aq))) (aq))) (aq)))))] ?_
         have oR:Has h0 (L):=Has.del o0 0
         obtain rfl:=oi H
         exact qt <| ⟨.inl rfl,bX (.bool (!x2)) h0 (bW (ao))⟩
        ·refine qr [.b 3 oK,.a 6 (Gb _ _ e2 h0 _ (er (ab (bH) (aq)))),.b 8 tC,.b 14 s7,.b 20 s8] ?_
         have s6:Has h0 (L):=Has.del o0 0
         obtain rfl:=oi H
         exact qt <| ⟨.inl rfl,bX (.bool false) h0 (bW (ao))⟩
       ·refine qr [.b 3 oK,.a 6 (Gb _ _ e2 h0 _ (er (ab (bH) (aq)))),.b 8 tC,.b 14 s7] ?_
        have lP:Has h0 (L):=Has.del o0 0
        obtain rfl:=oi H
        exact qt <| ⟨.inl rfl,bX (.bool false) h0 (bW (ao))⟩
      ·refine qr [.b 3 oK,.a 6 (Gb _ _ e2 h0 _ (er (ab (bH) (aq)))),.b 8 tC] ?_
       have vH:Has h0 (L):=Has.del o0 0
       obtain rfl:=oi H
       exact qt <| ⟨.inl rfl,bX (.bool false) h0 (bW (ao))⟩
     ·refine qr [.b 3 oK] ?_
      have xR:Has h0 (L):=Has.del o0 0
      obtain rfl:=oi H
      exact qt <| ⟨.inl rfl,bX (.bool false) h0 (bW (ao))⟩
    ·refine q1 ?_
     have mA:Has h0 (L):=Has.del o0 0
     refine qc H (fun EF H=>?_) (fun EF H=>?_)
     ·refine qq ?_
      rcases eu H with⟨GU,H⟩| ⟨GU,H⟩
      ·obtain⟨x3,e4,H⟩:=aS H
       rcases eu H with⟨Gc,H⟩| ⟨Gc,H⟩
       ·obtain rfl:=oi H
        exact qr [.b 3 GU,.a 6 (Q9 _ _ e4 h0 _ (er (ab (bH) (aq)))),.b 8 Gc] <| qt <| ⟨.inl rfl,bX (.bool ((n0.args.length:Int)==(0:Int))) h0 (bW (ao))⟩
       ·obtain rfl:=oi H
        exact qr [.b 3 GU,.a 6 (Q9 _ _ e4 h0 _ (er (ab (bH) (aq)))),.b 8 Gc] <| qt <| ⟨.inl rfl,bX (.bool false) h0 (bW (ao))⟩
      ·obtain rfl:=oi H
       exact qr [.b 3 GU] <| qt <| ⟨.inl rfl,bX (.bool false) h0 (bW (ao))⟩
     ·obtain rfl:=oi H
      exact qk <| qq <| q0 <| qt <| ⟨.inl rfl,bX (.bool false) h0 (bW (ao))⟩
end
end Go.Proofs.YtifafejidnjckaaGreat
namespace Go.Proofs.YtifafejidnjckaaGreat
open Go Go.R
open Go.IntKind (i64 u64 u8 u32)
def EG:cu:=gj [0,2] [] [2,1] [] []
def fK.f (m:Nat)(s0:ByteArray):Option (Bool):=if (s0.data.toList==(ab7 #[124]).data.toList)=true then (some true) else (if (s0.data.toList==(ab7 #[35]).data.toList)=true then (some true) else ((cX.f m s0).bind fun x0=>if x0=true then ((bt s0 (0:Int)).bind fun v0=>if (decide (v0≥(97:Int)))=true then ((bt s0 (0:Int)).bind fun v1=>some (decide (v1≤(122:Int)))) else (some false)) else (some false)))
def fK.fin (L:Mem)(r:Bool)(s:St):Prop:=∃av,aP Tryz.prog (s.open EG) Tryz.f80.results.toList=some av∧fi s.h av (.bool r)
def Xh (cf:CallF)(m:Nat):Prop:=∀(s0:ByteArray) (r:Bool),fK.f m s0=some r→∀h xs,aX b5 h xs [.str s0]→cf 80 xs h=some (.bool r,h)
section
variable {cf:CallF}{m:Nat}
theorem qZ {a7:FuncId→cu}(ha:a7 80=EG)(Iz:QV cf m)(s0:ByteArray)(h:AHeap)(L:Mem)  (o:Has h (L)){out:Bool}(H:fK.f m s0=some out) :
  ∃r h',bj Tryz.prog a7 cf m 80 [.str s0] h=some (r,h')∧fi h' r (.bool out):=by
 refine au (fn:=Tryz.f80) ha Tryz.func80 (by kernel_rfl) (by kernel_rfl) ?_
 refine aK (Q:=fun s=>fK.fin L out s) (fun _ _ h=>h) ?_
 have H:_=some out:=H
 unfold fK.f at H
 show dR _ cf EG m _ ⟨[.str s0,.any],[],h⟩ _
 refine q1 <| qq ?_
 rcases eu H with⟨c0,H⟩| ⟨c0,H⟩
 ·obtain rfl:=oi H
  exact qr [.b 2 c0] <| qt <| ⟨.inl rfl,bX (.bool true) h (bW (ao))⟩
 ·rcases eu H with⟨c1,H⟩| ⟨c1,H⟩
  ·obtain rfl:=oi H
   exact qr [.b 2 c0,.b 6 c1] <| qt <| ⟨.inl rfl,bX (.bool true) h (bW (ao))⟩
  ·obtain⟨x0,e0,H⟩:=aS H
   rcases eu H with⟨c2,H⟩| ⟨c2,H⟩
   ·obtain⟨v0,e1,H⟩:=aS H
    rcases eu H with⟨c3,H⟩| ⟨c3,H⟩
    ·obtain⟨v1,e2,H⟩:=aS H
     obtain rfl:=oi H
     exact qr [.b 2 c0,.b 6 c1,.a 8 (Iz _ _ e0 h _ (er (ab (bH) (aq)))),.b 9 c2,.v 11 (n5 (k:=.i64) U9 e1),.b 14 c3,.v 16 (n5 (k:=.i64) U9 e2)] <| qt <| ⟨.inl rfl,bX (.bool (decide (v1≤(122:Int)))) h (bW (ao))⟩
    ·obtain rfl:=oi H
     exact qr [.b 2 c0,.b 6 c1,.a 8 (Iz _ _ e0 h _ (er (ab (bH) (aq)))),.b 9 c2,.v 11 (n5 (k:=.i64) U9 e1),.b 14 c3] <| qt <| ⟨.inl rfl,bX (.bool false) h (bW (ao))⟩
   ·obtain rfl:=oi H
    exact qr [.b 2 c0,.b 6 c1,.a 8 (Iz _ _ e0 h _ (er (ab (bH) (aq)))),.b 9 c2] <| qt <| ⟨.inl rfl,bX (.bool false) h (bW (ao))⟩
end
end Go.Proofs.YtifafejidnjckaaGreat
namespace Go.Proofs.YtifafejidnjckaaGreat
open Go Go.R
open Go.IntKind (i64 u64 u8 u32)
end Go.Proofs.YtifafejidnjckaaGreat
namespace Go.Proofs.YtifafejidnjckaaGreat
open Go Go.R
open Go.IntKind (i64 u64 u8 u32)
def zr:cu:=gj [0,1,2,3,4,5,16] [2,3] [115,83,111,51,111,111] [] []
def eA.f (m:Nat)(a0:ah)(b0:ah):Option (Int):=if (!(a0.kind==b0.kind))=true then ((dI.f m a0.kind b0.kind).bind fun x0=>some x0) else (if (a0.kind==(3:Int))=true then ((dI.f m (a0.args.length:Int) (b0.args.length:Int)).bind fun x1=>(cY.f m a0.label b0.label).bind fun x2=>(cU.f m ([x1,x2])).bind fun x3=>some x3) else ((cY.f m a0.label b0.label).bind fun x4=>(dI.f m a0.int b0.int).bind fun x5=>(cU.f m ([x4,x5])).bind fun x6=>some x6))
def eA.fin (L:Mem)(r:Int)(s:St):Prop:=∃av,aP Tryz.prog (s.open zr) Tryz.f103.results.toList=some av∧fi s.h av (.int .i64 r)
def Lg (cf:CallF)(m:Nat):Prop:=∀(a0:ah) (b0:ah) (r:Int),eA.f m a0 b0=some r→∀h xs,aX b5 h xs [.agg [.int .i64 a0.kind,.int .i64 a0.int,.str a0.label,aa.fz a0.args],.agg [.int .i64 b0.kind,.int .i64 b0.int,.str b0.label,aa.fz b0.args]]→cf 103 xs h=some (.int .i64 r,h)
section
variable {cf:CallF}{m:Nat}
theorem oq {a7:FuncId→cu}(ha:a7 103=zr)(IA:QX cf m)(My:QM cf m)(Mz:QY cf m)(a0:ah)(b0:ah)(h:AHeap)(L:Mem)  (o:Has h (L)){out:Int}(H:eA.f m a0 b0=some out) :
  ∃r h',bj Tryz.prog a7 cf m 103 [.agg [.int .i64 a0.kind,.int .i64 a0.int,.str a0.label,aa.fz a0.args],.agg [.int .i64 b0.kind,.int .i64 b0.int,.str b0.label,aa.fz b0.args]] h=some (r,h')∧fi h' r (.int .i64 out):=by
 refine au (fn:=Tryz.f103) ha Tryz.func103 (by kernel_rfl) (by kernel_rfl) ?_
 refine aK (Q:=fun s=>eA.fin L out s) (fun _ _ h=>h) ?_
 have H:_=some out:=H
 unfold eA.f at H
 show dR _ cf zr m _ ⟨.agg [.int .i64 a0.kind,.int .i64 a0.int,.str a0.label,aa.fz a0.args] :: .agg [.int .i64 b0.kind,.int .i64 b0.int,.str b0.label,aa.fz b0.args]::tu [],[none,none],h⟩ _
 refine q1 <| qq <| qb 0 <| qq <| q0 <| qc H (fun c0 H=>?_) (fun c0 H=>?_)
 ·refine qq ?_
  obtain⟨x0,e0,H⟩:=aS H
  obtain rfl:=oi H
  exact qr [.a 4 (IA _ _ _ e0 h _ (er (ab (aA) (ab (aA) (aq)))))] <| qt <| ⟨.inl rfl,bX (.int .i64 x0) h (bW (cp))⟩
 ·refine q1 <| qc H (fun c1 H=>?_) (fun c1 H=>?_)
  ·refine qq ?_
   obtain⟨x1,e1,H⟩:=aS H
   obtain⟨x2,e2,H⟩:=aS H
   obtain⟨x3,e3,H⟩:=aS H
   obtain rfl:=oi H
   exact qr [.a 6 (IA _ _ _ e1 h _ (er (ab (aA) (ab (aA) (aq))))),.a 11 (Mz _ _ _ e2 h _ (er (ab (bH) (ab (bH) (aq))))),.a 13 (My _ _ e3 h _ (er (ab (rU (E:=aa) (l:=[x1,x2]) (cs:=[.int .i64 x1,.int .i64 x2]) (b:=true) (by kernel_rfl) (by kernel_rfl) rfl) (aq))))] <| qt <| ⟨.inl rfl,bX (.int .i64 x3) h (bW (cp))⟩
  ·refine qk <| qq ?_
   obtain⟨x4,e4,H⟩:=aS H
   obtain⟨x5,e5,H⟩:=aS H
   obtain⟨x6,e6,H⟩:=aS H
   obtain rfl:=oi H
   exact qr [.a 4 (Mz _ _ _ e4 h _ (er (ab (bH) (ab (bH) (aq))))),.a 9 (IA _ _ _ e5 h _ (er (ab (aA) (ab (aA) (aq))))),.a 11 (My _ _ e6 h _ (er (ab (rU (E:=aa) (l:=[x4,x5]) (cs:=[.int .i64 x4,.int .i64 x5]) (b:=true) (by kernel_rfl) (by kernel_rfl) rfl) (aq))))] <| qt <| ⟨.inl rfl,bX (.int .i64 x6) h (bW (cp))⟩
end
end Go.Proofs.YtifafejidnjckaaGreat
namespace Go.Proofs.YtifafejidnjckaaGreat
open Go Go.R
open Go.IntKind (i64 u64 u8 u32)
def zt:cu:=gj [0,1,2,5] [] [8,7] [] []
def eX.f (m:Nat)(i0:Int)(j0:Int)(x0:List ah):Option (Int):=(ix x0 i0).bind fun v0=>(ix x0 j0).bind fun v1=>(eA.f m v0 v1).bind fun x1=>some x1
def eX.fin (L:Mem)(r:Int)(s:St):Prop:=∃av,aP Tryz.prog (s.open zt) Tryz.f115.results.toList=some av∧fi s.h av (.int .i64 r)
def Rb (cf:CallF)(m:Nat):Prop:=∀(i0:Int) (j0:Int) (x0:List ah) (r:Int),eX.f m i0 j0 x0=some r→∀h xs,aX b5 h xs [.int .i64 i0,.int .i64 j0,.fp [af.fz x0] 0]→cf 115 xs h=some (.int .i64 r,h)
section
variable {cf:CallF}{m:Nat}
theorem oU {a7:FuncId→cu}(ha:a7 115=zt)(Bd:Lg cf m)(i0:Int)(j0:Int)(x0:List ah)(h:AHeap)(L:Mem)  (o:Has h (L)){out:Int}(H:eX.f m i0 j0 x0=some out) :
  ∃r h',bj Tryz.prog a7 cf m 115 [.int .i64 i0,.int .i64 j0,.fp [af.fz x0] 0] h=some (r,h')∧fi h' r (.int .i64 out):=by
 refine au (fn:=Tryz.f115) ha Tryz.func115 (by kernel_rfl) (by kernel_rfl) ?_
 refine aK (Q:=fun s=>eX.fin L out s) (fun _ _ h=>h) ?_
 have H:_=some out:=H
 unfold eX.f at H
 show dR _ cf zt m _ ⟨[.int .i64 i0,.int .i64 j0,.fp [af.fz x0] 0,.any],[],h⟩ _
 refine q1 <| qq ?_
 obtain⟨v0,e0,H⟩:=aS H
 obtain⟨v1,e1,H⟩:=aS H
 obtain⟨x1,e2,H⟩:=aS H
 obtain rfl:=oi H
 exact qr [.v 2 (bO (k:=.i64) (E:=af) (l:=x0) kI e0),.v 3 (fm  (E:=af) (l:=x0) h rA rB e0),.v 6 (bO (k:=.i64) (E:=af) (l:=x0) kI e1),.v 7 (fm  (E:=af) (l:=x0) h rA rB e1),.a 8 (Bd _ _ _ e2 h _ (er (ab (bT (ab (aA) (ab (aA) (ab (bH) (ab (cQ (E:=aa)) (aq)))))) (ab (bT (ab (aA) (ab (aA) (ab (bH) (ab (cQ (E:=aa)) (aq)))))) (aq)))))] <| qt <| ⟨.inl rfl,bX (.int .i64 x1) h (bW (cp))⟩
end
end Go.Proofs.YtifafejidnjckaaGreat
namespace Go.Proofs.YtifafejidnjckaaGreat
open Go Go.R
open Go.IntKind (i64 u64 u8 u32)
end Go.Proofs.YtifafejidnjckaaGreat
namespace Go.Proofs.YtifafejidnjckaaGreat
open Go Go.R
open Go.IntKind (i64 u64 u8 u32)
end Go.Proofs.YtifafejidnjckaaGreat
namespace Go.Proofs.YtifafejidnjckaaGreat
open Go Go.R
open Go.IntKind (i64 u64 u8 u32)
end Go.Proofs.YtifafejidnjckaaGreat
namespace Go.Proofs.YtifafejidnjckaaGreat
open Go Go.R
open Go.IntKind (i64 u64 u8 u32)
end Go.Proofs.YtifafejidnjckaaGreat
namespace Go.Proofs.YtifafejidnjckaaGreat
open Go Go.R
open Go.IntKind (i64 u64 u8 u32)
def kZ:cu:=gj [0,2,3,4,5,6,7,8,9,10,11,12,13,14,15,22,27,42,56,67,73,95,109,120,127,148,177] [] [134217726,134217722,134217714,134217666,134217602,134184898,134217602,134217474,134151938,134217474,134086402,134217538,133955394,134217538,134217538,134217474,134217426,133693138,134217426,133168850,134217426,134217426,134216914,132119762,134216914,130022610,134216914,134216666,125829082,134216666,134214618,134214618,134210522,117433306,134210522,134202330,134202330,134185946,100631514,134185946,67077082,134185946,134210522,134216666,134217725] [] [(3,[(5,none,1),(6,none,1)]),(30,[(12,none,1)])]
def ak.l1 (m:Nat)(l0:List ah):Nat→(List Int)→(List Bool)→(List Int)→Bool→Int→Option ((List Int) × (List Bool) × (List Int) × Bool × Int)
 | 0,_,_,_,_,_=>none
 | k+1,dG,eQ,ec,mi,i0=>if (decide (i0≥(0:Int)))=true then ((ix eQ i0).bind fun v0=>if v0=true then (ak.l1 m l0 k dG eQ ec mi (i64.wrap (i0 - (1:Int)))) else ((ix l0 i0).bind fun v1=>(cG.f m v1 eQ).bind fun x2=>if (!x2)=true then (ak.l1 m l0 k dG eQ ec mi (i64.wrap (i0 - (1:Int)))) else ((cN.f m l0 ec i0 dG).bind fun x3=>(ix dG i0).bind fun v2=>(ix (dG.set i0.toNat x3) i0).bind fun v3=>if (v3==i0)=true then ((app 8 ec ([i0])).bind fun x4=>(ix eQ i0).bind fun v4=>ak.l1 m l0 k (dG.set i0.toNat x3) (eQ.set i0.toNat true) x4 true (i64.wrap (i0 - (1:Int)))) else ((ix eQ i0).bind fun v5=>ak.l1 m l0 k (dG.set i0.toNat x3) (eQ.set i0.toNat true) ec true (i64.wrap (i0 - (1:Int))))))) else (some ((dG,eQ,ec,mi,i0)))
def ak.l0 (m:Nat)(l0:List ah):Nat→(List Int)→(List Bool)→(List Int)→Bool→Option ((List Int) × (List Bool) × (List Int) × Bool)
 | 0,_,_,_,_=>none
 | k+1,bL,fh,hY,pq=>if pq=true then ((ak.l1 m l0 m bL fh hY false (i64.wrap ((l0.length:Int) - (1:Int)))).bind fun bo=>match bo with | (C8,IB,zu,IC,i1)=>ak.l0 m l0 k C8 IB zu IC) else (some ((bL,fh,hY,pq)))
def ak.l3 (m:Nat)(l0:List ah)(i2:Int)(x5:List Int):Nat→(List Int)→Int→Option ((List Int) × Int)
 | 0,_,_=>none
 | k+1,dT,k0=>(ix dT i2).bind fun v8=>if (v8==i2)=true then ((ix x5 k0).bind fun v9=>if (decide (v9<i2))=true then ((ix l0 i2).bind fun v10=>(ix x5 k0).bind fun v11=>(ix l0 v11).bind fun v12=>(eZ.f m v10 v12).bind fun x6=>if x6=true then ((ix x5 k0).bind fun Lh=>(ix dT Lh).bind fun Cd=>(ix dT i2).bind fun oV=>ak.l3 m l0 i2 x5 k (dT.set i2.toNat Cd) (i64.wrap (k0+(1:Int)))) else (ak.l3 m l0 i2 x5 k dT (i64.wrap (k0+(1:Int))))) else (some ((dT,k0)))) else (some ((dT,k0)))
def ak.l2 (m:Nat)(l0:List ah)(fF:List Bool):Nat→(List Int)→(List Int)→Int→Option ((List Int) × (List Int) × Int)
 | 0,_,_,_=>none
 | k+1,fZ,ke,i2=>if (decide (i2<(l0.length:Int)))=true then ((ix fF i2).bind fun v6=>if v6=true then (ak.l2 m l0 fF k fZ ke (i64.wrap (i2+(1:Int)))) else ((app 8 ke ([i2])).bind fun x5=>(ix fZ i2).bind fun v7=>(ak.l3 m l0 i2 x5 m (fZ.set i2.toNat i2) (0:Int)).bind fun fC=>match fC with | (C9,k1)=>ak.l2 m l0 fF k C9 x5 (i64.wrap (i2+(1:Int))))) else (some ((fZ,ke,i2)))
def ak.l6 (m:Nat)(l0:List ah)(b4:List Int)(bA:List Int)(j0:Int)(nJ:Int):Nat→(List Int)→Int→Option ((List Int) × Int)
 | 0,_,_=>none
 | k+1,dH,k2=>(ix dH nJ).bind fun Xi=>if (Xi==nJ)=true then (if (decide (k2<j0))=true then ((ix bA nJ).bind fun Xj=>(ix b4 k2).bind fun v20=>(ix bA v20).bind fun v21=>if (Xj==v21)=true then ((ix l0 nJ).bind fun v22=>(ix b4 k2).bind fun Xk=>(ix l0 Xk).bind fun v24=>(bI.f m v22 v24 bA).bind fun x8=>if x8=true then ((ix b4 k2).bind fun Xl=>(ix dH Xl).bind fun Pn=>(ix dH nJ).bind fun Y9=>ak.l6 m l0 b4 bA j0 nJ k (dH.set nJ.toNat Pn) (i64.wrap (k2+(1:Int)))) else (ak.l6 m l0 b4 bA j0 nJ k dH (i64.wrap (k2+(1:Int))))) else (ak.l6 m l0 b4 bA j0 nJ k dH (i64.wrap (k2+(1:Int))))) else (some ((dH,k2)))) else (some ((dH,k2)))
def ak.l5 (m:Nat)(l0:List ah)(b4:List Int)(bA:List Int):Nat→Bool→(List Int)→Int→Option (Bool × (List Int) × Int)
 | 0,_,_,_=>none
 | k+1,kr,cq,j0=>if (decide (j0<(b4.length:Int)))=true then ((ix b4 j0).bind fun nJ=>(ix cq nJ).bind fun Po=>(ak.l6 m l0 b4 bA j0 nJ m (cq.set nJ.toNat nJ) (0:Int)).bind fun du=>match du with | (ta,k3)=>if kr=true then (ak.l5 m l0 b4 bA k true ta (i64.wrap (j0+(1:Int)))) else ((ix ta nJ).bind fun v28=>(ix bA nJ).bind fun UD=>ak.l5 m l0 b4 bA k (!(v28==UD)) ta (i64.wrap (j0+(1:Int))))) else (some ((kr,cq,j0)))
def ak.l4 (m:Nat)(l0:List ah)(b4:List Int):Nat→(List Int)→Bool→Option ((List Int) × Bool)
 | 0,_,_=>none
 | k+1,bA,pt=>if pt=true then ((app 8 ([]:List Int) bA).bind fun x7=>(ak.l5 m l0 b4 bA m false x7 (0:Int)).bind fun vz=>match vz with | (ID,Be,j1)=>ak.l4 m l0 b4 k Be ID) else (some ((bA,pt)))
def ak.f (m:Nat)(l0:List ah):Option ((List Int)):=(pX 8 (l0.length:Int) (0:Int)).bind fun x0=>(pX 1 (l0.length:Int) false).bind fun x1=>(ak.l0 m l0 m x0 x1 ([]:List Int) true).bind fun bZ=>match bZ with | (vI,fF,Li,Rc)=>(ak.l2 m l0 fF m vI ([]:List Int) (0:Int)).bind fun kY=>match kY with | (vJ,b4,i3)=>(ak.l4 m l0 b4 m vJ true).bind fun iG=>match iG with | (sj,Re)=>some sj
def ak.fin (L:Mem)(r:(List Int))(s:St):Prop:=∃av,aP Tryz.prog (s.open kZ) Tryz.f133.results.toList=some av∧fi s.h av (aa.fz r)
def Rf (cf:CallF)(m:Nat):Prop:=∀(l0:List ah) (r:(List Int)),ak.f m l0=some r→∀h xs,aX b5 h xs [af.fz l0]→cf 133 xs h=some (aa.fz r,h)
section
variable {cf:CallF}{m:Nat}
theorem ak.gN (L:Mem)(l0:List ah)  (Bf:La cf m)(Bg:Le cf m):b8 Tryz.prog cf kZ m (sub [1,1,1,1,0,1,0,0,1,0,1,1,0,0] (br Tryz.f133)) (fun k (σ:(List Int) × (List Bool) × (List Int) × Bool × Int)=>ak.l1 m l0 k σ.1 σ.2.1 σ.2.2.1 σ.2.2.2.1 σ.2.2.2.2) (fun σ s=>match σ with | (dG,eQ,ec,mi,i0)=>∃gF fS gd h3,s=⟨af.fz l0 :: .any :: .rs gd 0 dG.length 1 :: .rs fS 0 eQ.length 1 :: .rs gF 0 ec.length 1 :: .rs ((0)) 0 (([]:List Int).length) 1 :: .bool mi :: .int .i64 i0::NH [],[],h3⟩∧Has h3 ((((0)),.sl (([]:List Int).length) 1 (aa.l ([]:List Int)))::(gF,.sl ec.length 1 (aa.l ec))::(fS,.sl eQ.length 1 (bS.l eQ))::(gd,.sl dG.length 1 (aa.l dG))::L)) (fun out e s=>(e = .exit 2∧∃dG eQ ec mi i0,(dG,eQ,ec,mi,i0)=out∧∃qT Im gF fS gd h3,s=⟨af.fz l0 :: .any :: .rs gd 0 dG.length 1 :: .rs fS 0 eQ.length 1 :: .rs gF 0 ec.length 1 :: .rs ((0)) 0 (([]:List Int).length) 1 :: .bool mi::qT::qK (Im::u4 []),[],h3⟩∧Has h3 ((((0)),.sl (([]:List Int).length) 1 (aa.l ([]:List Int)))::(gF,.sl ec.length 1 (aa.l ec))::(fS,.sl eQ.length 1 (bS.l eQ))::(gd,.sl dG.length 1 (aa.l dG))::L))):=by
 refine iO (fun _=>rfl) ?_
 rintro k ⟨dG,eQ,ec,mi,i0⟩ s out ⟨gF,fS,gd,h3,rfl,o5⟩ H
 have H:ak.l1 m l0 (k+1) dG eQ ec mi i0=some out:=H
 refine qq <| qq <| q0 <| qc H (fun c1 H=>?_) (fun c1 H=>?_)
 ·refine qk <| qq <| qb 3 <| qq <| qq ?_
  obtain⟨v0,e4,H⟩:=aS H
  rcases eu H with⟨c2,H⟩| ⟨c2,H⟩
  ·exact qr [.v 2 (aJ (k:=.i64) (E:=bS) (l:=eQ) (q:=2) Cc o5 rfl e4),.v 3 (bm  (E:=bS) (l:=eQ) (q:=2) o5 rfl A4 e4 rfl),.b 4 c2] <| zX <| qx 3 <| q0 <| ⟨(dG,eQ,ec,mi,i64.wrap (i0 - (1:Int))),⟨gF,fS,gd,h3,by kernel_rfl,o5⟩,H⟩
  ·obtain⟨v1,e5,H⟩:=aS H
   obtain⟨x2,e6,H⟩:=aS H
   refine qr [.v 2 (aJ (k:=.i64) (E:=bS) (l:=eQ) (q:=2) Cc o5 rfl e4),.v 3 (bm  (E:=bS) (l:=eQ) (q:=2) o5 rfl A4 e4 rfl),.b 4 c2,.v 7 (bO (k:=.i64) (E:=af) (l:=l0) kI e5),.v 8 (fm  (E:=af) (l:=l0) h3 rA rB e5),.a 10 (Bf _ _ _ e6 h3 _ (er (ab (bT (ab (aA) (ab (aA) (ab (bH) (ab (cQ (E:=aa)) (aq)))))) (ab (gu (E:=bS) (l:=eQ) (q:=2) o5 rfl (fun _=>rfl)) (aq)))))] <| qc H (fun c4 H=>?_) (fun c4 H=>?_)
   ·exact qx 3 <| q0 <| ⟨(dG,eQ,ec,mi,i64.wrap (i0 - (1:Int))),⟨gF,fS,gd,h3,by kernel_rfl,o5⟩,H⟩
   ·refine qk <| qq ?_
    obtain⟨x3,e7,H⟩:=aS H
    obtain⟨v2,e8,H⟩:=aS H
    obtain⟨h4,e9,o6⟩:=en (P:=Tryz.prog) (tf:=3) (E:=aa) (l:=dG) (q:=3) (v:=x3) (x:=.int .i64 x3) o5 rfl Z3 e8 rfl rfl
    refine qr [.a 6 (Bg _ _ _ _ _ e7 h3 _ (er (ab (cQ (E:=af)) (ab (gu (E:=aa) (l:=ec) (q:=1) o5 rfl (fun _=>rfl)) (ab (aA) (ab (gu (E:=aa) (l:=dG) (q:=3) o5 rfl (fun _=>rfl)) (aq))))))),.v 7 (aJ (k:=.i64) (E:=aa) (l:=dG) (q:=3) dt o5 rfl e8),.w 8 e9] <| qq <| qq ?_
    obtain⟨v3,lg,H⟩:=aS H
    refine qr [.v 2 (aJ (k:=.i64) (E:=aa) (l:=(dG.set i0.toNat x3)) (q:=3) dt o6 rfl lg),.v 3 (bm  (E:=aa) (l:=(dG.set i0.toNat x3)) (q:=3) o6 rfl A3 lg rfl)] <| qc H (fun c5 H=>?_) (fun c5 H=>?_)
    ·obtain⟨x4,mf,H⟩:=aS H
     obtain⟨jb,h5,nI,o7⟩:=fH (P:=Tryz.prog) (E:=aa) (l:=ec) (q:=1) (t2:=22) (x:=.fz [.int .i64 i0] 1 true) (l2:=([i0])) dt o6 rfl (by kernel_rfl) rfl mf
     refine qr [.a 3 nI] <| qq ?_
     obtain⟨v4,oJ,H⟩:=aS H
     obtain⟨h6,uc,o8⟩:=en (P:=Tryz.prog) (tf:=4) (E:=bS) (l:=eQ) (q:=2) (v:=true) (x:=.bool true) o7 rfl Z4 oJ rfl rfl
     exact qr [.v 2 (aJ (k:=.i64) (E:=bS) (l:=eQ) (q:=2) Cc o7 rfl oJ),.w 3 uc] <| q0 <| q0 <| ⟨(dG.set i0.toNat x3,eQ.set i0.toNat true,x4,true,i64.wrap (i0 - (1:Int))),⟨jb,fS,gd,h6,(acq (b:=⟨af.fz l0 :: .any :: .rs gd 0 dG.length 1 :: .rs fS 0 eQ.length 1 :: .rs jb 0 x4.length 1 :: .rs ((0)) 0 (([]:List Int).length) 1 :: .bool true :: .int .i64 (i64.wrap (i0 - (1:Int)))::NH [],[],h6⟩) (by kernel_rfl) (by simp only [abF])),(by have o:Has h6 ((((0)),.sl (([]:List Int).length) 1 (aa.l ([]:List Int)))::(jb,.sl x4.length 1 (aa.l x4))::(fS,.sl eQ.length 1 (bS.l (eQ.set i0.toNat true)))::(gd,.sl dG.length 1 (aa.l (dG.set i0.toNat x3)))::L):=o8; simpa only [abF] using o)⟩,H⟩
    ·refine qk <| qq ?_
     obtain⟨v5,wD,H⟩:=aS H
     obtain⟨h7,wE,o9⟩:=en (P:=Tryz.prog) (tf:=4) (E:=bS) (l:=eQ) (q:=2) (v:=true) (x:=.bool true) o6 rfl Z4 wD rfl rfl
     exact qr [.v 2 (aJ (k:=.i64) (E:=bS) (l:=eQ) (q:=2) Cc o6 rfl wD),.w 3 wE] <| q0 <| q0 <| ⟨(dG.set i0.toNat x3,eQ.set i0.toNat true,ec,true,i64.wrap (i0 - (1:Int))),⟨gF,fS,gd,h7,(acq (b:=⟨af.fz l0 :: .any :: .rs gd 0 dG.length 1 :: .rs fS 0 eQ.length 1 :: .rs gF 0 ec.length 1 :: .rs ((0)) 0 (([]:List Int).length) 1 :: .bool true :: .int .i64 (i64.wrap (i0 - (1:Int)))::NH [],[],h7⟩) (by kernel_rfl) (by simp only [abF])),(by have o:Has h7 ((((0)),.sl (([]:List Int).length) 1 (aa.l ([]:List Int)))::(gF,.sl ec.length 1 (aa.l ec))::(fS,.sl eQ.length 1 (bS.l (eQ.set i0.toNat true)))::(gd,.sl dG.length 1 (aa.l (dG.set i0.toNat x3)))::L):=o9; simpa only [abF] using o)⟩,H⟩
 ·exact qx 2 <| ⟨rfl,dG,eQ,ec,mi,i0,oi H,.int .i64 i0,.bool (decide (i0≥(0:Int))),gF,fS,gd,h3,by kernel_rfl,o5⟩
theorem ak.cd (L:Mem)(l0:List ah)  (Bf:La cf m)(Bg:Le cf m):b8 Tryz.prog cf kZ m (sub [1,1,1,1,0,1,0,0] (br Tryz.f133)) (fun k (σ:(List Int) × (List Bool) × (List Int) × Bool)=>ak.l0 m l0 k σ.1 σ.2.1 σ.2.2.1 σ.2.2.2) (fun σ s=>match σ with | (bL,fh,hY,pq)=>∃g0 g1 eP dj ca h2,s=⟨af.fz l0 :: .any :: .rs ca 0 bL.length 1 :: .rs dj 0 fh.length 1 :: .rs eP 0 hY.length 1 :: .rs ((0)) 0 (([]:List Int).length) 1 :: .bool pq::g0::qK (g1::u4 []),[],h2⟩∧Has h2 ((((0)),.sl (([]:List Int).length) 1 (aa.l ([]:List Int)))::(eP,.sl hY.length 1 (aa.l hY))::(dj,.sl fh.length 1 (bS.l fh))::(ca,.sl bL.length 1 (aa.l bL))::L)) (fun out e s=>(e = .exit 0∧∃bL fh hY pq,(bL,fh,hY,pq)=out∧∃vk vm qT si Im eP dj ca h2,s=⟨af.fz l0 :: .any :: .rs ca 0 bL.length 1 :: .rs dj 0 fh.length 1::vk :: .rs ((0)) 0 (([]:List Int).length) 1::vm::qT::zV (si::Im::u4 []),[],h2⟩∧Has h2 ((((0)),.sl (([]:List Int).length) 1 (aa.l ([]:List Int)))::(eP,.sl hY.length 1 (aa.l hY))::(dj,.sl fh.length 1 (bS.l fh))::(ca,.sl bL.length 1 (aa.l bL))::L))):=by
 refine iO (fun _=>rfl) ?_
 rintro k ⟨bL,fh,hY,pq⟩ s out ⟨g0,g1,eP,dj,ca,h2,rfl,o4⟩ H
 have H:ak.l0 m l0 (k+1) bL fh hY pq=some out:=H
 refine qq <| qq <| q0 <| qc H (fun c0 H=>?_) (fun c0 H=>?_)
 ·refine qk <| qb 1 <| qq <| q0 <| qq <| q0 <| qb 2 ?_
  obtain⟨bo,zh,H⟩:=aS H
  refine ql (ak.gN L l0  Bf Bg (bL,fh,hY,false,i64.wrap ((l0.length:Int) - (1:Int))) _ _ ⟨eP,dj,ca,h2,by kernel_rfl,o4⟩ zh) ?_
  rintro e s ⟨rfl,C8,IB,zu,IC,i1,rfl,g2,g3,kB,b9,fW,h8,rfl,qU⟩
  try dsimp only at H
  exact⟨(C8,IB,zu,IC),⟨g2,g3,kB,b9,fW,h8,by kernel_rfl,qU⟩,H⟩
 ·exact qx 0 <| ⟨rfl,bL,fh,hY,pq,oi H,.rs eP 0 hY.length 1,.any,.any,.bool pq,.any,eP,dj,ca,h2,by kernel_rfl,o4⟩
theorem ak.vK (L:Mem)(l0:List ah)(fR:Nat)(fF:List Bool)(fR:Nat)(i2:Int)(x5:List Int)(cE:Nat)  (qX:Mu cf m):b8 Tryz.prog cf kZ m (sub [1,1,1,1,1,0,1,0,0,1,0,0,1,1,1,1,0,0] (br Tryz.f133)) (fun k (σ:(List Int) × Int)=>ak.l3 m l0 i2 x5 k σ.1 σ.2) (fun σ s=>match σ with | (dT,k0)=>∃pP h13,s=⟨af.fz l0 :: .any :: .rs pP 0 dT.length 1 :: .rs fR 0 fF.length 1 :: .any :: .rs cE 0 x5.length 1 :: .any :: .any :: .int .i64 i2 :: .int .i64 k0::H0 [],[],h13⟩∧Has h13 ((cE,.sl x5.length 1 (aa.l x5))::(fR,.sl fF.length 1 (bS.l fF))::(pP,.sl dT.length 1 (aa.l dT))::L)) (fun out e s=>(e = .exit 6∧∃dT k0,(dT,k0)=out∧∃pM UE pP h13,s=⟨af.fz l0 :: .any :: .rs pP 0 dT.length 1 :: .rs fR 0 fF.length 1 :: .any :: .rs cE 0 x5.length 1 :: .any :: .any :: .int .i64 i2::pM::qL (UE::tu []),[],h13⟩∧Has h13 ((cE,.sl x5.length 1 (aa.l x5))::(fR,.sl fF.length 1 (bS.l fF))::(pP,.sl dT.length 1 (aa.l dT))::L))):=by
 refine iO (fun _=>rfl) ?_
 rintro k ⟨dT,k0⟩ s out ⟨pP,h13,rfl,mA⟩ H
 have H:ak.l3 m l0 i2 x5 (k+1) dT k0=some out:=H
 refine qq <| qq ?_
 obtain⟨v8,GV,H⟩:=aS H
 rcases eu H with⟨c8,H⟩| ⟨c8,H⟩
 ·obtain⟨v9,IE,H⟩:=aS H
  refine qr [.v 2 (aJ (k:=.i64) (E:=aa) (l:=dT) (q:=2) dt mA rfl GV),.v 3 (bm  (E:=aa) (l:=dT) (q:=2) mA rfl A3 GV rfl),.b 6 c8,.v 9 (aJ (k:=.i64) (E:=aa) (l:=x5) (q:=0) dt mA rfl IE),.v 10 (bm  (E:=aa) (l:=x5) (q:=0) mA rfl A3 IE rfl)] <| qc H (fun c9 H=>?_) (fun c9 H=>?_)
  ·refine qk <| qq <| qb 7 <| qq ?_
   obtain⟨v10,IF,H⟩:=aS H
   obtain⟨v11,MA,H⟩:=aS H
   obtain⟨v12,Lj,H⟩:=aS H
   obtain⟨x6,Lk,H⟩:=aS H
   refine qr [.v 2 (bO (k:=.i64) (E:=af) (l:=l0) kI IF),.v 3 (fm  (E:=af) (l:=l0) h13 rA rB IF),.v 7 (aJ (k:=.i64) (E:=aa) (l:=x5) (q:=0) dt mA rfl MA),.v 8 (bm  (E:=aa) (l:=x5) (q:=0) mA rfl A3 MA rfl),.v 9 (bO (k:=.i64) (E:=af) (l:=l0) kI Lj),.v 10 (fm  (E:=af) (l:=l0) h13 rA rB Lj),.a 11 (qX _ _ _ Lk h13 _ (er (ab (bT (ab (aA) (ab (aA) (ab (bH) (ab (cQ (E:=aa)) (aq)))))) (ab (bT (ab (aA) (ab (aA) (ab (bH) (ab (cQ (E:=aa)) (aq)))))) (aq)))))] <| qc H (fun wT H=>?_) (fun wT H=>?_)
   ·obtain⟨Lh,Ll,H⟩:=aS H
    obtain⟨Cd,Lm,H⟩:=aS H
    obtain⟨oV,Og,H⟩:=aS H
    obtain⟨h14,J8,zw⟩:=en (P:=Tryz.prog) (tf:=3) (E:=aa) (l:=dT) (q:=2) (v:=Cd) (x:=.int .i64 Cd) mA rfl Z3 Og rfl rfl
    exact qr [.v 5 (aJ (k:=.i64) (E:=aa) (l:=x5) (q:=0) dt mA rfl Ll),.v 6 (bm  (E:=aa) (l:=x5) (q:=0) mA rfl A3 Ll rfl),.v 7 (aJ (k:=.i64) (E:=aa) (l:=dT) (q:=2) dt mA rfl Lm),.v 8 (bm  (E:=aa) (l:=dT) (q:=2) mA rfl A3 Lm rfl),.v 9 (aJ (k:=.i64) (E:=aa) (l:=dT) (q:=2) dt mA rfl Og),.w 10 J8] <| q0 <| ⟨(dT.set i2.toNat Cd,i64.wrap (k0+(1:Int))),⟨pP,h14,(acq (b:=⟨af.fz l0 :: .any :: .rs pP 0 dT.length 1 :: .rs fR 0 fF.length 1 :: .any :: .rs cE 0 x5.length 1 :: .any :: .any :: .int .i64 i2 :: .int .i64 (i64.wrap (k0+(1:Int)))::H0 [],[],h14⟩) (by kernel_rfl) (by simp only [abF])),(by have o:Has h14 ((cE,.sl x5.length 1 (aa.l x5))::(fR,.sl fF.length 1 (bS.l fF))::(pP,.sl dT.length 1 (aa.l (dT.set i2.toNat Cd)))::L):=zw; simpa only [abF] using o)⟩,H⟩
   ·exact qk <| q0 <| ⟨(dT,i64.wrap (k0+(1:Int))),⟨pP,h13,by kernel_rfl,mA⟩,H⟩
  ·exact qx 6 <| ⟨rfl,dT,k0,oi H,.int .i64 k0,.bool (decide (v9<i2)),pP,h13,by kernel_rfl,mA⟩
 ·exact qr [.v 2 (aJ (k:=.i64) (E:=aa) (l:=dT) (q:=2) dt mA rfl GV),.v 3 (bm  (E:=aa) (l:=dT) (q:=2) mA rfl A3 GV rfl),.b 6 c8] <| Eb <| qx 6 <| ⟨rfl,dT,k0,oi H,.int .i64 k0,.bool false,pP,h13,by kernel_rfl,mA⟩
theorem ak.mj (L:Mem)(l0:List ah)(fR:Nat)(fF:List Bool)(fR:Nat)  (qX:Mu cf m):b8 Tryz.prog cf kZ m (sub [1,1,1,1,1,0,1,0,0] (br Tryz.f133)) (fun k (σ:(List Int) × (List Int) × Int)=>ak.l2 m l0 fF k σ.1 σ.2.1 σ.2.2) (fun σ s=>match σ with | (fZ,ke,i2)=>∃b6 dm h10,s=⟨af.fz l0 :: .any :: .rs dm 0 fZ.length 1 :: .rs fR 0 fF.length 1 :: .any :: .rs b6 0 ke.length 1 :: .any :: .any :: .int .i64 i2::Qv [],[],h10⟩∧Has h10 ((b6,.sl ke.length 1 (aa.l ke))::(fR,.sl fF.length 1 (bS.l fF))::(dm,.sl fZ.length 1 (aa.l fZ))::L)) (fun out e s=>(e = .exit 4∧∃fZ ke i2,(fZ,ke,i2)=out∧∃N3 wS UF b6 dm h10,s=⟨af.fz l0 :: .any :: .rs dm 0 fZ.length 1::N3 :: .any :: .rs b6 0 ke.length 1 :: .any :: .any::wS::u4 (UF::zV []),[],h10⟩∧Has h10 ((b6,.sl ke.length 1 (aa.l ke))::(fR,.sl fF.length 1 (bS.l fF))::(dm,.sl fZ.length 1 (aa.l fZ))::L))):=by
 refine iO (fun _=>rfl) ?_
 rintro k ⟨fZ,ke,i2⟩ s out ⟨b6,dm,h10,rfl,lP⟩ H
 have H:ak.l2 m l0 fF (k+1) fZ ke i2=some out:=H
 refine qq <| qq <| q0 <| qc H (fun c6 H=>?_) (fun c6 H=>?_)
 ·refine qk <| qq <| qb 5 <| qq <| qq ?_
  obtain⟨v6,zx,H⟩:=aS H
  refine qr [.v 2 (aJ (k:=.i64) (E:=bS) (l:=fF) (q:=1) Cc lP rfl zx),.v 3 (bm  (E:=bS) (l:=fF) (q:=1) lP rfl A4 zx rfl)] <| qc H (fun c7 H=>?_) (fun c7 H=>?_)
  ·exact qx 5 <| q0 <| ⟨(fZ,ke,i64.wrap (i2+(1:Int))),⟨b6,dm,h10,by kernel_rfl,lP⟩,H⟩
  ·refine qk <| qq ?_
   obtain⟨x5,EH,H⟩:=aS H
   obtain⟨cE,h11,Gd,vH⟩:=fH (P:=Tryz.prog) (E:=aa) (l:=ke) (q:=0) (t2:=22) (x:=.fz [.int .i64 i2] 1 true) (l2:=([i2])) dt lP rfl (by kernel_rfl) rfl EH
   refine qr [.a 3 Gd] <| qq ?_
   obtain⟨v7,GW,H⟩:=aS H
   obtain⟨h12,IG,xR⟩:=en (P:=Tryz.prog) (tf:=3) (E:=aa) (l:=fZ) (q:=2) (v:=i2) (x:=.int .i64 i2) vH rfl Z3 GW rfl rfl
   refine qr [.v 3 (aJ (k:=.i64) (E:=aa) (l:=fZ) (q:=2) dt vH rfl GW),.w 4 IG] <| qq <| q0 <| qb 6 ?_
   obtain⟨fC,Pp,H⟩:=aS H
   refine ql (ak.vK L l0 fR fF fR i2 x5 cE  qX (fZ.set i2.toNat i2,(0:Int)) _ _ ⟨dm,h12,(acq (b:=⟨af.fz l0 :: .any :: .rs dm 0 fZ.length 1 :: .rs fR 0 fF.length 1 :: .any :: .rs cE 0 x5.length 1 :: .any :: .any :: .int .i64 i2 :: .int .i64 (0:Int)::H0 [],[],h12⟩) (by kernel_rfl) (by simp only [abF])),(by have o:Has h12 ((cE,.sl x5.length 1 (aa.l x5))::(fR,.sl fF.length 1 (bS.l fF))::(dm,.sl fZ.length 1 (aa.l (fZ.set i2.toNat i2)))::L):=xR; simpa only [abF] using o)⟩ Pp) ?_
   rintro e s ⟨rfl,C9,k1,rfl,g9,g10,II,h15,rfl,xS⟩
   try dsimp only at H
   exact q0 <| ⟨(C9,x5,i64.wrap (i2+(1:Int))),⟨cE,II,h15,by kernel_rfl,xS⟩,H⟩
 ·exact qx 4 <| ⟨rfl,fZ,ke,i2,oi H,.rs fR 0 fF.length 1,.int .i64 i2,.bool (decide (i2<(l0.length:Int))),b6,dm,h10,by kernel_rfl,lP⟩
theorem ak.IJ (L:Mem)(l0:List ah)(iY:Nat)(b4:List Int)(iY:Nat)(jG:Nat)(bA:List Int)(jG:Nat)(kr:Bool)(j0:Int)(nJ:Int)  (oo:C2 cf m):b8 Tryz.prog cf kZ m (sub [1,1,1,1,1,1,0,1,0,0,1,0,1,1,1,0,1,0,0,1,0,0,1,1,0,1,0,0] (br Tryz.f133)) (fun k (σ:(List Int) × Int)=>ak.l6 m l0 b4 bA j0 nJ k σ.1 σ.2) (fun σ s=>match σ with | (dH,k2)=>∃sn h21,s=⟨af.fz l0 :: .any :: .rs jG 0 bA.length 1 :: .any :: .any :: .rs iY 0 b4.length 1::qJ (.bool kr :: .rs sn 0 dH.length 1 :: .int .i64 j0 :: .int .i64 nJ :: .int .i64 k2::oQ []),[],h21⟩∧Has h21 ((sn,.sl dH.length 1 (aa.l dH))::(iY,.sl b4.length 1 (aa.l b4))::(jG,.sl bA.length 1 (aa.l bA))::L)) (fun out e s=>(e = .exit 12∧∃dH k2,(dH,k2)=out∧∃C7 Rh sn h21,s=⟨af.fz l0 :: .any :: .rs jG 0 bA.length 1 :: .any :: .any :: .rs iY 0 b4.length 1::qJ (.bool kr :: .rs sn 0 dH.length 1 :: .int .i64 j0 :: .int .i64 nJ::C7::u4 [Rh,.any]),[],h21⟩∧Has h21 ((sn,.sl dH.length 1 (aa.l dH))::(iY,.sl b4.length 1 (aa.l b4))::(jG,.sl bA.length 1 (aa.l bA))::L))):=by
 refine iO (fun _=>rfl) ?_
 rintro k ⟨dH,k2⟩ s out ⟨sn,h21,rfl,ot⟩ H
 have H:ak.l6 m l0 b4 bA j0 nJ (k+1) dH k2=some out:=H
 refine qq <| qq ?_
 obtain⟨Xi,Ln,H⟩:=aS H
 rcases eu H with⟨s8,H⟩| ⟨s8,H⟩
 ·refine qr [.v 2 (aJ (k:=.i64) (E:=aa) (l:=dH) (q:=0) dt ot rfl Ln),.v 3 (bm  (E:=aa) (l:=dH) (q:=0) ot rfl A3 Ln rfl),.b 6 s8] <| qc H (fun EF H=>?_) (fun EF H=>?_)
  ·refine qk <| qq <| qb 13 <| qq ?_
   obtain⟨Xj,MB,H⟩:=aS H
   obtain⟨v20,MC,H⟩:=aS H
   obtain⟨v21,Pq,H⟩:=aS H
   rcases eu H with⟨GU,H⟩| ⟨GU,H⟩
   ·obtain⟨v22,Xm,H⟩:=aS H
    obtain⟨Xk,Xn,H⟩:=aS H
    obtain⟨v24,Xo,H⟩:=aS H
    obtain⟨x8,Za,H⟩:=aS H
    refine qr [.v 2 (aJ (k:=.i64) (E:=aa) (l:=bA) (q:=2) dt ot rfl MB),.v 3 (bm  (E:=aa) (l:=bA) (q:=2) ot rfl A3 MB rfl),.v 7 (aJ (k:=.i64) (E:=aa) (l:=b4) (q:=1) dt ot rfl MC),.v 8 (bm  (E:=aa) (l:=b4) (q:=1) ot rfl A3 MC rfl),.v 9 (aJ (k:=.i64) (E:=aa) (l:=bA) (q:=2) dt ot rfl Pq),.v 10 (bm  (E:=aa) (l:=bA) (q:=2) ot rfl A3 Pq rfl),.b 12 GU,.v 15 (bO (k:=.i64) (E:=af) (l:=l0) kI Xm),.v 16 (fm  (E:=af) (l:=l0) h21 rA rB Xm),.v 20 (aJ (k:=.i64) (E:=aa) (l:=b4) (q:=1) dt ot rfl Xn),.v 21 (bm  (E:=aa) (l:=b4) (q:=1) ot rfl A3 Xn rfl),.v 22 (bO (k:=.i64) (E:=af) (l:=l0) kI Xo),.v 23 (fm  (E:=af) (l:=l0) h21 rA rB Xo),.a 25 (oo _ _ _ _ Za h21 _ (er (ab (bT (ab (aA) (ab (aA) (ab (bH) (ab (cQ (E:=aa)) (aq)))))) (ab (bT (ab (aA) (ab (aA) (ab (bH) (ab (cQ (E:=aa)) (aq)))))) (ab (gu (E:=aa) (l:=bA) (q:=2) ot rfl (fun _=>rfl)) (aq))))))] ?_
    refine qc H (fun Gc H=>?_) (fun Gc H=>?_)
    ·obtain⟨Xl,Xp,H⟩:=aS H
     obtain⟨Pn,Xq,H⟩:=aS H
     obtain⟨Y9,Xr,H⟩:=aS H
     obtain⟨h22,Zb,J9⟩:=en (P:=Tryz.prog) (tf:=3) (E:=aa) (l:=dH) (q:=0) (v:=Pn) (x:=.int .i64 Pn) ot rfl Z3 Xr rfl rfl
     exact qr [.v 5 (aJ (k:=.i64) (E:=aa) (l:=b4) (q:=1) dt ot rfl Xp),.v 6 (bm  (E:=aa) (l:=b4) (q:=1) ot rfl A3 Xp rfl),.v 7 (aJ (k:=.i64) (E:=aa) (l:=dH) (q:=0) dt ot rfl Xq),.v 8 (bm  (E:=aa) (l:=dH) (q:=0) ot rfl A3 Xq rfl),.v 9 (aJ (k:=.i64) (E:=aa) (l:=dH) (q:=0) dt ot rfl Xr),.w 10 Zb] <| q0 <| ⟨(dH.set nJ.toNat Pn,i64.wrap (k2+(1:Int))),⟨sn,h22,(acq (b:=⟨af.fz l0 :: .any :: .rs jG 0 bA.length 1 :: .any :: .any :: .rs iY 0 b4.length 1::qJ (.bool kr :: .rs sn 0 dH.length 1 :: .int .i64 j0 :: .int .i64 nJ :: .int .i64 (i64.wrap (k2+(1:Int)))::oQ []),[],h22⟩) (by kernel_rfl) (by simp only [abF])),(by have o:Has h22 ((sn,.sl dH.length 1 (aa.l (dH.set nJ.toNat Pn)))::(iY,.sl b4.length 1 (aa.l b4))::(jG,.sl bA.length 1 (aa.l bA))::L):=J9; simpa only [abF] using o)⟩,H⟩
    ·exact qk <| q0 <| ⟨(dH,i64.wrap (k2+(1:Int))),⟨sn,h21,by kernel_rfl,ot⟩,H⟩
   ·exact qr [.v 2 (aJ (k:=.i64) (E:=aa) (l:=bA) (q:=2) dt ot rfl MB),.v 3 (bm  (E:=aa) (l:=bA) (q:=2) ot rfl A3 MB rfl),.v 7 (aJ (k:=.i64) (E:=aa) (l:=b4) (q:=1) dt ot rfl MC),.v 8 (bm  (E:=aa) (l:=b4) (q:=1) ot rfl A3 MC rfl),.v 9 (aJ (k:=.i64) (E:=aa) (l:=bA) (q:=2) dt ot rfl Pq),.v 10 (bm  (E:=aa) (l:=bA) (q:=2) ot rfl A3 Pq rfl),.b 12 GU] <| Eb <| qk <| q0 <| ⟨(dH,i64.wrap (k2+(1:Int))),⟨sn,h21,by kernel_rfl,ot⟩,H⟩
  ·exact qx 12 <| ⟨rfl,dH,k2,oi H,.int .i64 k2,.bool (decide (k2<j0)),sn,h21,by kernel_rfl,ot⟩
 ·exact qr [.v 2 (aJ (k:=.i64) (E:=aa) (l:=dH) (q:=0) dt ot rfl Ln),.v 3 (bm  (E:=aa) (l:=dH) (q:=0) ot rfl A3 Ln rfl),.b 6 s8] <| Eb <| qx 12 <| ⟨rfl,dH,k2,oi H,.int .i64 k2,.bool false,sn,h21,by kernel_rfl,ot⟩
theorem ak.IK (L:Mem)(l0:List ah)(iY:Nat)(b4:List Int)(iY:Nat)(jG:Nat)(bA:List Int)(jG:Nat)  (oo:C2 cf m):b8 Tryz.prog cf kZ m (sub [1,1,1,1,1,1,0,1,0,0,1,0,1,1,1,0,1,0,0] (br Tryz.f133)) (fun k (σ:Bool × (List Int) × Int)=>ak.l5 m l0 b4 bA k σ.1 σ.2.1 σ.2.2) (fun σ s=>match σ with | (kr,cq,j0)=>∃wW h19,s=⟨af.fz l0 :: .any :: .rs jG 0 bA.length 1 :: .any :: .any :: .rs iY 0 b4.length 1::qJ (.bool kr :: .rs wW 0 cq.length 1 :: .int .i64 j0::u5 []),[],h19⟩∧Has h19 ((wW,.sl cq.length 1 (aa.l cq))::(iY,.sl b4.length 1 (aa.l b4))::(jG,.sl bA.length 1 (aa.l bA))::L)) (fun out e s=>(e = .exit 10∧∃kr cq j0,(kr,cq,j0)=out∧∃zk pK Ri wW h19,s=⟨af.fz l0 :: .any::zk :: .any :: .any :: .rs iY 0 b4.length 1::qJ (.bool kr :: .rs wW 0 cq.length 1::pK::qL [Ri,.any,.any]),[],h19⟩∧Has h19 ((wW,.sl cq.length 1 (aa.l cq))::(iY,.sl b4.length 1 (aa.l b4))::(jG,.sl bA.length 1 (aa.l bA))::L))):=by
 refine iO (fun _=>rfl) ?_
 rintro k ⟨kr,cq,j0⟩ s out ⟨wW,h19,rfl,IL⟩ H
 have H:ak.l5 m l0 b4 bA (k+1) kr cq j0=some out:=H
 refine qq <| qq <| q0 <| qc H (fun s7 H=>?_) (fun s7 H=>?_)
 ·refine qk <| qq <| qb 11 <| qq ?_
  obtain⟨nJ,Oh,H⟩:=aS H
  refine qr [.v 2 (aJ (k:=.i64) (E:=aa) (l:=b4) (q:=1) dt IL rfl Oh),.v 3 (bm  (E:=aa) (l:=b4) (q:=1) IL rfl A3 Oh rfl)] <| qq ?_
  obtain⟨Po,Pt,H⟩:=aS H
  obtain⟨h20,Rj,Pu⟩:=en (P:=Tryz.prog) (tf:=3) (E:=aa) (l:=cq) (q:=0) (v:=nJ) (x:=.int .i64 nJ) IL rfl Z3 Pt rfl rfl
  refine qr [.v 3 (aJ (k:=.i64) (E:=aa) (l:=cq) (q:=0) dt IL rfl Pt),.w 4 Rj] <| qq <| qq <| q0 <| qb 12 ?_
  obtain⟨du,Zc,H⟩:=aS H
  refine ql (ak.IJ L l0 iY b4 iY jG bA jG kr j0 nJ  oo (cq.set nJ.toNat nJ,(0:Int)) _ _ ⟨wW,h20,(acq (b:=⟨af.fz l0 :: .any :: .rs jG 0 bA.length 1 :: .any :: .any :: .rs iY 0 b4.length 1::qJ (.bool kr :: .rs wW 0 cq.length 1 :: .int .i64 j0 :: .int .i64 nJ :: .int .i64 (0:Int)::oQ []),[],h20⟩) (by kernel_rfl) (by simp only [abF])),(by have o:Has h20 ((wW,.sl cq.length 1 (aa.l (cq.set nJ.toNat nJ)))::(iY,.sl b4.length 1 (aa.l b4))::(jG,.sl bA.length 1 (aa.l bA))::L):=Pu; simpa only [abF] using o)⟩ Zc) ?_
  rintro e s ⟨rfl,ta,k3,rfl,g14,g15,Rk,h23,rfl,IM⟩
  try dsimp only at H
  rcases eu H with⟨IN,H⟩| ⟨IN,H⟩
  ·exact qr [.b 1 IN] <| q0 <| ⟨(true,ta,i64.wrap (j0+(1:Int))),⟨Rk,h23,by kernel_rfl,IM⟩,H⟩
  ·obtain⟨v28,Xs,H⟩:=aS H
   obtain⟨UD,Xt,H⟩:=aS H
   exact qr [.b 1 IN,.v 4 (aJ (k:=.i64) (E:=aa) (l:=ta) (q:=0) dt IM rfl Xs),.v 5 (bm  (E:=aa) (l:=ta) (q:=0) IM rfl A3 Xs rfl),.v 8 (aJ (k:=.i64) (E:=aa) (l:=bA) (q:=2) dt IM rfl Xt),.v 9 (bm  (E:=aa) (l:=bA) (q:=2) IM rfl A3 Xt rfl)] <| q0 <| ⟨(!(v28==UD),ta,i64.wrap (j0+(1:Int))),⟨Rk,h23,by kernel_rfl,IM⟩,H⟩
 ·exact qx 10 <| ⟨rfl,kr,cq,j0,oi H,.rs jG 0 bA.length 1,.int .i64 j0,.bool (decide (j0<(b4.length:Int))),wW,h19,by kernel_rfl,IL⟩
theorem ak.vL (L:Mem)(l0:List ah)(iY:Nat)(b4:List Int)(iY:Nat)  (oo:C2 cf m):b8 Tryz.prog cf kZ m (sub [1,1,1,1,1,1,0,1,0,0] (br Tryz.f133)) (fun k (σ:(List Int) × Bool)=>ak.l4 m l0 b4 k σ.1 σ.2) (fun σ s=>match σ with | (bA,pt)=>∃jG h17,s=⟨af.fz l0 :: .any :: .rs jG 0 bA.length 1 :: .any :: .any :: .rs iY 0 b4.length 1::qJ (.bool pt::HZ []),[],h17⟩∧Has h17 ((iY,.sl b4.length 1 (aa.l b4))::(jG,.sl bA.length 1 (aa.l bA))::L)) (fun out e s=>(e = .exit 8∧∃bA pt,(bA,pt)=out∧∃kX ze Iy IP jG h17,s=⟨kX :: .any :: .rs jG 0 bA.length 1 :: .any :: .any::ze::qJ (Iy::oQ (IP::j5 [])),[],h17⟩∧Has h17 ((iY,.sl b4.length 1 (aa.l b4))::(jG,.sl bA.length 1 (aa.l bA))::L))):=by
 refine iO (fun _=>rfl) ?_
 rintro k ⟨bA,pt⟩ s out ⟨jG,h17,rfl,wX⟩ H
 have H:ak.l4 m l0 b4 (k+1) bA pt=some out:=H
 refine qq <| qq <| q0 <| qc H (fun tC H=>?_) (fun tC H=>?_)
 ·refine qk <| qb 9 <| qq <| q0 <| qq <| q0 ?_
  have GX:Has h17 (((((0))),.sl (([]:List Int).length) 1 (aa.l ([]:List Int)))::(iY,.sl b4.length 1 (aa.l b4))::(jG,.sl bA.length 1 (aa.l bA))::L):=Has.nil wX 1
  refine qq ?_
  obtain⟨x7,Rm,H⟩:=aS H
  obtain⟨UG,h18,Rn,GY⟩:=fH (P:=Tryz.prog) (E:=aa) (l:=([]:List Int)) (q:=0) (t2:=22) (x:=.rs jG 0 bA.length 1) (l2:=bA) dt GX rfl (FX (E:=aa) (l:=bA) (q:=2) GX rfl) rfl Rm
  refine qr [.a 2 Rn] <| qq <| qq <| q0 <| qb 10 ?_
  obtain⟨vz,Zd,H⟩:=aS H
  refine ql (ak.IK L l0 iY b4 iY jG bA jG  oo (false,x7,(0:Int)) _ _ ⟨UG,h18,by kernel_rfl,GY⟩ Zd) ?_
  rintro e s ⟨rfl,ID,Be,j1,rfl,g16,g17,g18,Ro,h24,rfl,Oi⟩
  try dsimp only at H
  refine q0 ?_
  have Oj:Has h24 ((Ro,.sl Be.length 1 (aa.l Be))::(iY,.sl b4.length 1 (aa.l b4))::L):=Has.del Oi 2
  exact⟨(Be,ID),⟨Ro,h24,by kernel_rfl,(Has.front (Has.front Oj 0 rfl) 1 rfl)⟩,H⟩
 ·exact qx 8 <| ⟨rfl,bA,pt,oi H,af.fz l0,.rs iY 0 b4.length 1,.any,.bool pt,jG,h17,by kernel_rfl,wX⟩
theorem pQ {a7:FuncId→cu}(ha:a7 133=kZ)(qX:Mu cf m)(Bf:La cf m)(Bg:Le cf m)(oo:C2 cf m)(l0:List ah)(h:AHeap)(L:Mem)  (o:Has h (L)){out:(List Int)}(H:ak.f m l0=some out) :
  ∃r h',bj Tryz.prog a7 cf m 133 [af.fz l0] h=some (r,h')∧fi h' r (aa.fz out):=by
 refine au (fn:=Tryz.f133) ha Tryz.func133 (by kernel_rfl) (by kernel_rfl) ?_
 refine aK (Q:=fun s=>ak.fin L out s) (fun _ _ h=>h) ?_
 have H:_=some out:=H
 unfold ak.f at H
 show dR _ cf kZ m _ ⟨af.fz l0::Ub [],[],h⟩ _
 refine q1 <| qq ?_
 obtain⟨x0,e0,H⟩:=aS H
 obtain⟨aV,h0,e1,o0⟩:=lL (P:=Tryz.prog) (E:=aa) (z:=(0:Int)) (zv:=.int .i64 (0:Int)) dt o 3 rfl rfl rfl rfl e0
 refine qr [.a 2 e1] <| qq ?_
 obtain⟨x1,e2,H⟩:=aS H
 obtain⟨dA,h1,e3,o1⟩:=lL (P:=Tryz.prog) (E:=bS) (z:=false) (zv:=.bool false) Cc o0 4 rfl rfl rfl rfl e2
 refine qr [.a 2 e3] <| qq <| q0 ?_
 have o2:Has h1 (((0),.sl (([]:List Int).length) 1 (aa.l ([]:List Int)))::(dA,.sl x1.length 1 (bS.l x1))::(aV,.sl x0.length 1 (aa.l x0))::L):=Has.nil o1 1
 have o3:Has h1 ((((0)),.sl (([]:List Int).length) 1 (aa.l ([]:List Int)))::((0),.sl (([]:List Int).length) 1 (aa.l ([]:List Int)))::(dA,.sl x1.length 1 (bS.l x1))::(aV,.sl x0.length 1 (aa.l x0))::L):=Has.nil o2 1
 refine qq <| qq <| q0 <| qb 0 ?_
 obtain⟨bZ,EI,H⟩:=aS H
 refine ql (ak.cd L l0  Bf Bg (x0,x1,([]:List Int),true) _ _ ⟨.any,.any,(0),dA,aV,h1,by kernel_rfl,o3⟩ EI) ?_
 rintro e s ⟨rfl,vI,fF,Li,Rc,rfl,g4,g5,g6,g7,g8,gG,fR,gR,h9,rfl,oR⟩
 try dsimp only at H
 refine qq <| qq <| q0 ?_
 have s6:Has h9 ((((0)),.sl (([]:List Int).length) 1 (aa.l ([]:List Int)))::(fR,.sl fF.length 1 (bS.l fF))::(gR,.sl vI.length 1 (aa.l vI))::L):=Has.del oR 1
 refine qb 4 ?_
 obtain⟨kY,Pv,H⟩:=aS H
 refine ql (ak.mj L l0 fR fF fR  qX (vI,([]:List Int),(0:Int)) _ _ ⟨((0)),gR,h9,by kernel_rfl,s6⟩ Pv) ?_
 rintro e s ⟨rfl,vJ,b4,i3,rfl,g11,g12,g13,iY,Rp,h16,rfl,ud⟩
 try dsimp only at H
 refine qq <| qq <| q0 ?_
 have Lp:Has h16 ((iY,.sl b4.length 1 (aa.l b4))::(Rp,.sl vJ.length 1 (aa.l vJ))::L):=Has.del ud 1
 refine qb 8 ?_
 obtain⟨iG,Ze,H⟩:=aS H
 refine ql (ak.vL L l0 iY b4 iY  oo (vJ,true) _ _ ⟨Rp,h16,by kernel_rfl,Lp⟩ Ze) ?_
 rintro e s ⟨rfl,sj,Re,rfl,g19,g20,g21,g22,Rq,h25,rfl,Rr⟩
 try dsimp only at H
 refine q1 ?_
 have Rs:Has h25 ((Rq,.sl sj.length 1 (aa.l sj))::L):=Has.del Rr 0
 obtain rfl:=oi H
 exact qt <| ⟨.inl rfl,bX (.rs Rq 0 sj.length 1) h25 (bW (xA (E:=aa) (l:=sj) (q:=0) Rs rfl (fun _=>rfl)))⟩
end
end Go.Proofs.YtifafejidnjckaaGreat
namespace Go.Proofs.YtifafejidnjckaaGreat
open Go Go.R
open Go.IntKind (i64 u64 u8 u32)
end Go.Proofs.YtifafejidnjckaaGreat
namespace Go.Proofs.YtifafejidnjckaaGreat
open Go Go.R
open Go.IntKind (i64 u64 u8 u32)
def mY:cu:=gj [0,1,2,3,4,10,11,12,13,14,15,16,17,18,19,20,21,22,23,24,28,33,50,58,80,85,103,110,140,151,171,185,199,213] [] [17178820576,17179869124,17179869068,17177771916,17179868940,17175674636,17179869068,17179869068,17179868894,17171480286,17179868894,17179868894,17163091936,17179868650,17179867626,17146313194,17179865578,17112756714,17179867626,17179867626,17179864574,17045646846,17179864574,17179864574,17179860960,17179844576,17179844576,16911409120,17179811808,17179746272,17179811808,17179746272,17179615200,16642744288,17179353056,16105611232,17179615200,17179615200,17179303904,15031820256,17179303908,12884336612,17179336678,8589402086,17179869183] [] []
def aQ.l0 (m:Nat)(az:List Int)(a0:Int)(bb:Int→Int→Option (Int)):Nat→Int→Int→Option (Int × Int)
 | 0,_,_=>none
 | k+1,i0,j0=>if (decide (i0<j0))=true then ((ix az (i64.wrap (kh .u64 (u64.wrap (i64.wrap (i0+j0))) 1))).bind fun v0=>(ix az a0).bind fun v1=>(bb v0 v1).bind fun r0=>if (decide (r0<(0:Int)))=true then (aQ.l0 m az a0 bb k (i64.wrap (i64.wrap (kh .u64 (u64.wrap (i64.wrap (i0+j0))) 1)+(1:Int))) j0) else (aQ.l0 m az a0 bb k i0 (i64.wrap (kh .u64 (u64.wrap (i64.wrap (i0+j0))) 1)))) else (some ((i0,j0)))
def aQ.l1 (m:Nat)(i1:Int):Nat→(List Int)→Int→Option ((List Int) × Int)
 | 0,_,_=>none
 | k+1,bJ,k0=>if (decide (k0<(i64.wrap (i1 - (1:Int)))))=true then ((ix bJ (i64.wrap (k0+(1:Int)))).bind fun v2=>(ix bJ k0).bind fun v3=>(ix bJ k0).bind fun v4=>(ix (bJ.set k0.toNat v2) (i64.wrap (k0+(1:Int)))).bind fun v5=>aQ.l1 m i1 k ((bJ.set k0.toNat v2).set (i64.wrap (k0+(1:Int))).toNat v3) (i64.wrap (k0+(1:Int)))) else (some ((bJ,k0)))
def aQ.l2 (m:Nat)(az:List Int)(m0:Int)(bb:Int→Int→Option (Int)):Nat→Int→Int→Option (Int × Int)
 | 0,_,_=>none
 | k+1,i2,j2=>if (decide (i2<j2))=true then ((ix az m0).bind fun v6=>(ix az (i64.wrap (kh .u64 (u64.wrap (i64.wrap (i2+j2))) 1))).bind fun v7=>(bb v6 v7).bind fun r1=>if (!(decide (r1<(0:Int))))=true then (aQ.l2 m az m0 bb k (i64.wrap (i64.wrap (kh .u64 (u64.wrap (i64.wrap (i2+j2))) 1)+(1:Int))) j2) else (aQ.l2 m az m0 bb k i2 (i64.wrap (kh .u64 (u64.wrap (i64.wrap (i2+j2))) 1)))) else (some ((i2,j2)))
def aQ.l3 (m:Nat)(i3:Int):Nat→(List Int)→Int→Option ((List Int) × Int)
 | 0,_,_=>none
 | k+1,eU,k2=>if (decide (k2 > i3))=true then ((ix eU (i64.wrap (k2 - (1:Int)))).bind fun v8=>(ix eU k2).bind fun v9=>(ix eU k2).bind fun v10=>(ix (eU.set k2.toNat v8) (i64.wrap (k2 - (1:Int)))).bind fun v11=>aQ.l3 m i3 k ((eU.set k2.toNat v8).set (i64.wrap (k2 - (1:Int))).toNat v9) (i64.wrap (k2 - (1:Int)))) else (some ((eU,k2)))
def aQ.l4 (m:Nat)(az:List Int)(a0:Int)(m0:Int)(b0:Int)(bb:Int→Int→Option (Int)):Nat→Int→Int→Option (Int × Int)
 | 0,_,_=>none
 | k+1,hZ,r3=>if (decide (hZ<r3))=true then ((ix az (i64.wrap (i64.wrap (i64.wrap (i64.wrap (kh .u64 (u64.wrap (i64.wrap (a0+b0))) 1)+m0) - (1:Int)) - i64.wrap (kh .u64 (u64.wrap (i64.wrap (hZ+r3))) 1)))).bind fun v12=>(ix az (i64.wrap (kh .u64 (u64.wrap (i64.wrap (hZ+r3))) 1))).bind fun Lh=>(bb v12 Lh).bind fun r4=>if (!(decide (r4<(0:Int))))=true then (aQ.l4 m az a0 m0 b0 bb k (i64.wrap (i64.wrap (kh .u64 (u64.wrap (i64.wrap (hZ+r3))) 1)+(1:Int))) r3) else (aQ.l4 m az a0 m0 b0 bb k hZ (i64.wrap (kh .u64 (u64.wrap (i64.wrap (hZ+r3))) 1)))) else (some ((hZ,r3)))
def aQ.b (m:Nat)(rec:(List Int)→Int→Int→Int→(Int→Int→Option (Int))→Option ((List Int)))(az:List Int)(a0:Int)(m0:Int)(b0:Int)(bb:Int→Int→Option (Int)):Option ((List Int)):=if ((i64.wrap (m0 - a0))==(1:Int))=true then ((aQ.l0 m az a0 bb m m0 b0).bind fun bo=>match bo with | (i1,j1)=>(aQ.l1 m i1 m az a0).bind fun bZ=>match bZ with | (dY,k1)=>some dY) else (if ((i64.wrap (b0 - m0))==(1:Int))=true then ((aQ.l2 m az m0 bb m a0 m0).bind fun fC=>match fC with | (i3,j3)=>(aQ.l3 m i3 m az m0).bind fun kY=>match kY with | (kq,k3)=>some kq) else (jn (fun (σ:Int × Int)=>match σ with | (vM,r2)=>(aQ.l4 m az a0 m0 b0 bb m vM r2).bind fun du=>match du with | (gm,r5)=>jn (fun (σ:(List Int))=>match σ with | mo=>jn (fun (σ:(List Int))=>match σ with | q6=>if (decide ((i64.wrap (kh .u64 (u64.wrap (i64.wrap (a0+b0))) 1))<(i64.wrap (i64.wrap (i64.wrap (kh .u64 (u64.wrap (i64.wrap (a0+b0))) 1)+m0) - gm))))=true then (if (decide ((i64.wrap (i64.wrap (i64.wrap (kh .u64 (u64.wrap (i64.wrap (a0+b0))) 1)+m0) - gm))<b0))=true then ((rec q6 (i64.wrap (kh .u64 (u64.wrap (i64.wrap (a0+b0))) 1)) (i64.wrap (i64.wrap (i64.wrap (kh .u64 (u64.wrap (i64.wrap (a0+b0))) 1)+m0) - gm)) b0 bb).bind fun x2=>some x2) else (some q6)) else (some q6)) fun Rt=>(if (decide (a0<gm))=true then (if (decide (gm<(i64.wrap (kh .u64 (u64.wrap (i64.wrap (a0+b0))) 1))))=true then ((rec mo a0 gm (i64.wrap (kh .u64 (u64.wrap (i64.wrap (a0+b0))) 1)) bb).bind fun x1=>Rt x1) else (Rt mo)) else (Rt mo))) fun Ka=>(if (decide (gm<m0))=true then (if (decide (m0<(i64.wrap (i64.wrap (i64.wrap (kh .u64 (u64.wrap (i64.wrap (a0+b0))) 1)+m0) - gm))))=true then ((gg.f m az gm m0 (i64.wrap (i64.wrap (i64.wrap (kh .u64 (u64.wrap (i64.wrap (a0+b0))) 1)+m0) - gm)) bb).bind fun x0=>Ka x0) else (Ka az)) else (Ka az))) fun EJ=>(if (decide (m0 > (i64.wrap (kh .u64 (u64.wrap (i64.wrap (a0+b0))) 1))))=true then (EJ (i64.wrap (i64.wrap (i64.wrap (kh .u64 (u64.wrap (i64.wrap (a0+b0))) 1)+m0) - b0),i64.wrap (kh .u64 (u64.wrap (i64.wrap (a0+b0))) 1))) else (EJ (a0,m0)))))
def aQ.f (m:Nat):Nat→(List Int)→Int→Int→Int→(Int→Int→Option (Int))→Option ((List Int))
 | 0,_,_,_,_,_=>none
 | k+1,az,a0,m0,b0,bb=>aQ.b m (aQ.f m k) az a0 m0 b0 bb
def aQ.fin (L:Mem)(aV:Nat)(az:List Int)(a0:Int)(m0:Int)(b0:Int)(bb:Int→Int→Option (Int))(r:(List Int))(s:St):Prop:=aP Tryz.prog (s.open mY) Tryz.f146.results.toList=some (.tup [])∧Has s.h ((aV,.sl az.length 1 (aa.l r))::L)
def wY (cf:CallF)(m:Nat)(kk:Nat):Prop:=∀(az:List Int) (a0:Int) (m0:Int) (b0:Int) (bb:Int→Int→Option (Int)) (r:(List Int)),aQ.f m kk az a0 m0 b0 bb=some r→∀h L (dr:Nat) (aV:Nat),Has h ((aV,.sl dr 1 (aa.l az))::L)→∀(fT:FuncId) (bu bc:List AV),(bh (.fn fT bu) = .fn fT bu)→(∀(h:AHeap) (xs:List AV) (a0:Int) (a1:Int) r,bb a0 a1=some r→aX b5 h xs ([.int .i64 a0,.int .i64 a1]++bc)→cf fT xs h=some (.int .i64 r,h))→(∀h K,Has h (K++(L))→aX dD h bu bc)→(∀h,aX dD h bc bc)→∀xs,xs.map bh=[.rs aV 0 dr 1,.int .i64 a0,.int .i64 m0,.int .i64 b0,.fn fT bu]→∃h',cf 146 xs h=some (.tup [],h')∧Has h' ((aV,.sl dr 1 (aa.l r))::L)
section
variable {cf:CallF}{m:Nat}
theorem aQ.cd (L:Mem)(aV:Nat)(fT:FuncId)(bu bc:List AV)(az:List Int)(a0:Int)(m0:Int)(b0:Int)(bb:Int→Int→Option (Int))  {kk:Nat}(jH:wY cf m kk)(iE:bh (.fn fT bu) = .fn fT bu)(iW:∀(h:AHeap) (xs:List AV) (a0:Int) (a1:Int) r,bb a0 a1=some r→aX b5 h xs ([.int .i64 a0,.int .i64 a1]++bc)→cf fT xs h=some (.int .i64 r,h))(iX:∀h K,Has h (K++(L))→aX dD h bu bc)(jF:∀h,aX dD h bc bc)  : b8 Tryz.prog cf mY m (sub [0,1,0,1,1,0,0,0] (br Tryz.f146)) (fun k (σ:Int × Int)=>aQ.l0 m az a0 bb k σ.1 σ.2) (fun σ s=>match σ with | (i0,j0)=>∃h0,s=⟨.rs aV 0 az.length 1 :: .int .i64 a0 :: .any :: .any :: .fn fT bu :: .int .i64 i0 :: .int .i64 j0::Qz [],[],h0⟩∧Has h0 ((aV,.sl az.length 1 (aa.l az))::L)) (fun out e s=>(e = .exit 0∧∃i0 j0,(i0,j0)=out∧∃N3 Iy UH h0,s=⟨.rs aV 0 az.length 1 :: .int .i64 a0 :: .any :: .any::N3 :: .int .i64 i0::Iy::u5 (UH::oQ []),[],h0⟩∧Has h0 ((aV,.sl az.length 1 (aa.l az))::L))):=by
 refine iO (fun _=>rfl) ?_
 rintro k ⟨i0,j0⟩ s out ⟨h0,rfl,o0⟩ H
 have H:aQ.l0 m az a0 bb (k+1) i0 j0=some out:=H
 refine qq <| qq <| q0 <| qc H (fun c1 H=>?_) (fun c1 H=>?_)
 ·refine qk <| qb 1 <| qq <| q0 <| qq ?_
  obtain⟨v0,e0,H⟩:=aS H
  obtain⟨v1,e1,H⟩:=aS H
  obtain⟨r0,e2,H⟩:=aS H
  refine qr [.v 3 (aJ (k:=.i64) (E:=aa) (l:=az) (q:=0) dt o0 rfl e0),.v 4 (bm  (E:=aa) (l:=az) (q:=0) o0 rfl A3 e0 rfl),.v 7 (aJ (k:=.i64) (E:=aa) (l:=az) (q:=0) dt o0 rfl e1),.v 8 (bm  (E:=aa) (l:=az) (q:=0) o0 rfl A3 e1 rfl),.a 9 (iW _ _ _ _ _ e2 (NT (ab (aA) (ab (aA) (aq))) (iX h0 [(aV,.sl az.length 1 (aa.l az))] o0)))] <| qc H (fun c2 H=>?_) (fun c2 H=>?_)
  ·exact q0 <| ⟨(i64.wrap (i64.wrap (kh .u64 (u64.wrap (i64.wrap (i0+j0))) 1)+(1:Int)),j0),⟨h0,by kernel_rfl,o0⟩,H⟩
  ·exact q0 <| ⟨(i0,i64.wrap (kh .u64 (u64.wrap (i64.wrap (i0+j0))) 1)),⟨h0,by kernel_rfl,o0⟩,H⟩
 ·exact qx 0 <| ⟨rfl,i0,j0,oi H,.fn fT bu,.int .i64 j0,.bool (decide (i0<j0)),h0,by kernel_rfl,o0⟩
theorem aQ.gN (L:Mem)(aV:Nat)(fT:FuncId)(bu bc:List AV)(az:List Int)(a0:Int)(m0:Int)(b0:Int)(bb:Int→Int→Option (Int))(i1:Int)  {kk:Nat}(jH:wY cf m kk)(iE:bh (.fn fT bu) = .fn fT bu)(iW:∀(h:AHeap) (xs:List AV) (a0:Int) (a1:Int) r,bb a0 a1=some r→aX b5 h xs ([.int .i64 a0,.int .i64 a1]++bc)→cf fT xs h=some (.int .i64 r,h))(iX:∀h K,Has h (K++(L))→aX dD h bu bc)(jF:∀h,aX dD h bc bc)  : b8 Tryz.prog cf mY m (sub [0,1,0,1,1,1,0,1,0,0] (br Tryz.f146)) (fun k (σ:(List Int) × Int)=>aQ.l1 m i1 k σ.1 σ.2) (fun σ s=>match σ with | (bJ,k0)=>∃h2,s=⟨.rs aV 0 az.length 1::qJ (.int .i64 i1 :: .any :: .any :: .int .i64 k0::Qy []),[],h2⟩∧Has h2 ((aV,.sl az.length 1 (aa.l bJ))::L)) (fun out e s=>(e = .exit 2∧∃bJ k0,(bJ,k0)=out∧∃kX pM pK Il h2,s=⟨kX::qJ (pM :: .any :: .any::pK::u5 (Il::u4 [])),[],h2⟩∧Has h2 ((aV,.sl az.length 1 (aa.l bJ))::L))):=by
 refine iO (fun _=>rfl) ?_
 rintro k ⟨bJ,k0⟩ s out ⟨h2,rfl,o2⟩ H
 have H:aQ.l1 m i1 (k+1) bJ k0=some out:=H
 refine qq <| qq <| q0 <| qc H (fun c3 H=>?_) (fun c3 H=>?_)
 ·refine qk <| qq <| qb 3 ?_
  obtain⟨v2,e4,H⟩:=aS H
  obtain⟨v3,e5,H⟩:=aS H
  obtain⟨v4,e6,H⟩:=aS H
  obtain⟨h3,e7,o3⟩:=en (P:=Tryz.prog) (tf:=3) (E:=aa) (l:=bJ) (q:=0) (v:=v2) (x:=.int .i64 v2) o2 rfl Z3 e6 rfl rfl
  obtain⟨v5,e8,H⟩:=aS H
  obtain⟨h4,e9,o4⟩:=en (P:=Tryz.prog) (tf:=3) (E:=aa) (l:=(bJ.set k0.toNat v2)) (q:=0) (v:=v3) (x:=.int .i64 v3) o3 rfl Z3 e8 rfl rfl
  exact qr [.v 8 (aJ (k:=.i64) (E:=aa) (l:=bJ) (q:=0) dt o2 rfl e4),.v 9 (bm  (E:=aa) (l:=bJ) (q:=0) o2 rfl A3 e4 rfl),.v 12 (aJ (k:=.i64) (E:=aa) (l:=bJ) (q:=0) dt o2 rfl e5),.v 13 (bm  (E:=aa) (l:=bJ) (q:=0) o2 rfl A3 e5 rfl),.v 14 (aJ (k:=.i64) (E:=aa) (l:=bJ) (q:=0) dt o2 rfl e6),.w 15 e7,.v 16 (aJ (k:=.i64) (E:=aa) (l:=(bJ.set k0.toNat v2)) (q:=0) dt o3 rfl e8),.w 17 e9] <| q0 <| ⟨((bJ.set k0.toNat v2).set (i64.wrap (k0+(1:Int))).toNat v3,i64.wrap (k0+(1:Int))),⟨h4,by kernel_rfl,o4⟩,H⟩
 ·exact qx 2 <| ⟨rfl,bJ,k0,oi H,.rs aV 0 az.length 1,.int .i64 i1,.int .i64 k0,.bool (decide (k0<(i64.wrap (i1 - (1:Int))))),h2,by kernel_rfl,o2⟩
theorem aQ.mj (L:Mem)(aV:Nat)(fT:FuncId)(bu bc:List AV)(az:List Int)(a0:Int)(m0:Int)(b0:Int)(bb:Int→Int→Option (Int))  {kk:Nat}(jH:wY cf m kk)(iE:bh (.fn fT bu) = .fn fT bu)(iW:∀(h:AHeap) (xs:List AV) (a0:Int) (a1:Int) r,bb a0 a1=some r→aX b5 h xs ([.int .i64 a0,.int .i64 a1]++bc)→cf fT xs h=some (.int .i64 r,h))(iX:∀h K,Has h (K++(L))→aX dD h bu bc)(jF:∀h,aX dD h bc bc)  : b8 Tryz.prog cf mY m (sub [1,0,1,0,1,1,0,0,0] (br Tryz.f146)) (fun k (σ:Int × Int)=>aQ.l2 m az m0 bb k σ.1 σ.2) (fun σ s=>match σ with | (i2,j2)=>∃h6,s=⟨.rs aV 0 az.length 1 :: .any :: .int .i64 m0 :: .any :: .fn fT bu::qJ (.int .i64 i2 :: .int .i64 j2::Ua []),[],h6⟩∧Has h6 ((aV,.sl az.length 1 (aa.l az))::L)) (fun out e s=>(e = .exit 4∧∃i2 j2,(i2,j2)=out∧∃N3 C7 UI h6,s=⟨.rs aV 0 az.length 1 :: .any :: .int .i64 m0 :: .any::N3::qJ (.int .i64 i2::C7::u5 (UI::qK [])),[],h6⟩∧Has h6 ((aV,.sl az.length 1 (aa.l az))::L))):=by
 refine iO (fun _=>rfl) ?_
 rintro k ⟨i2,j2⟩ s out ⟨h6,rfl,o6⟩ H
 have H:aQ.l2 m az m0 bb (k+1) i2 j2=some out:=H
 refine qq <| qq <| q0 <| qc H (fun c5 H=>?_) (fun c5 H=>?_)
 ·refine qk <| qb 5 <| qq <| q0 <| qq ?_
  obtain⟨v6,mf,H⟩:=aS H
  obtain⟨v7,nI,H⟩:=aS H
  obtain⟨r1,oJ,H⟩:=aS H
  refine qr [.v 3 (aJ (k:=.i64) (E:=aa) (l:=az) (q:=0) dt o6 rfl mf),.v 4 (bm  (E:=aa) (l:=az) (q:=0) o6 rfl A3 mf rfl),.v 7 (aJ (k:=.i64) (E:=aa) (l:=az) (q:=0) dt o6 rfl nI),.v 8 (bm  (E:=aa) (l:=az) (q:=0) o6 rfl A3 nI rfl),.a 9 (iW _ _ _ _ _ oJ (NT (ab (aA) (ab (aA) (aq))) (iX h6 [(aV,.sl az.length 1 (aa.l az))] o6)))] <| qc H (fun c6 H=>?_) (fun c6 H=>?_)
  ·exact q0 <| ⟨(i64.wrap (i64.wrap (kh .u64 (u64.wrap (i64.wrap (i2+j2))) 1)+(1:Int)),j2),⟨h6,by kernel_rfl,o6⟩,H⟩
  ·exact q0 <| ⟨(i2,i64.wrap (kh .u64 (u64.wrap (i64.wrap (i2+j2))) 1)),⟨h6,by kernel_rfl,o6⟩,H⟩
 ·exact qx 4 <| ⟨rfl,i2,j2,oi H,.fn fT bu,.int .i64 j2,.bool (decide (i2<j2)),h6,by kernel_rfl,o6⟩
theorem aQ.vK (L:Mem)(aV:Nat)(fT:FuncId)(bu bc:List AV)(az:List Int)(a0:Int)(m0:Int)(b0:Int)(bb:Int→Int→Option (Int))(i3:Int)  {kk:Nat}(jH:wY cf m kk)(iE:bh (.fn fT bu) = .fn fT bu)(iW:∀(h:AHeap) (xs:List AV) (a0:Int) (a1:Int) r,bb a0 a1=some r→aX b5 h xs ([.int .i64 a0,.int .i64 a1]++bc)→cf fT xs h=some (.int .i64 r,h))(iX:∀h K,Has h (K++(L))→aX dD h bu bc)(jF:∀h,aX dD h bc bc)  : b8 Tryz.prog cf mY m (sub [1,0,1,0,1,1,1,0,1,0,0] (br Tryz.f146)) (fun k (σ:(List Int) × Int)=>aQ.l3 m i3 k σ.1 σ.2) (fun σ s=>match σ with | (eU,k2)=>∃h8,s=⟨.rs aV 0 az.length 1::qK (.int .i64 i3 :: .any :: .any :: .int .i64 k2::Qw []),[],h8⟩∧Has h8 ((aV,.sl az.length 1 (aa.l eU))::L)) (fun out e s=>(e = .exit 6∧∃eU k2,(eU,k2)=out∧∃kX vl Ol Ru h8,s=⟨kX::qK (vl :: .any :: .any::Ol::u5 (Ru::GR [])),[],h8⟩∧Has h8 ((aV,.sl az.length 1 (aa.l eU))::L))):=by
 refine iO (fun _=>rfl) ?_
 rintro k ⟨eU,k2⟩ s out ⟨h8,rfl,o8⟩ H
 have H:aQ.l3 m i3 (k+1) eU k2=some out:=H
 refine qq <| qq <| q0 <| qc H (fun c7 H=>?_) (fun c7 H=>?_)
 ·refine qk <| qq <| qb 7 ?_
  obtain⟨v8,wD,H⟩:=aS H
  obtain⟨v9,wE,H⟩:=aS H
  obtain⟨v10,zh,H⟩:=aS H
  obtain⟨h9,EI,o9⟩:=en (P:=Tryz.prog) (tf:=3) (E:=aa) (l:=eU) (q:=0) (v:=v8) (x:=.int .i64 v8) o8 rfl Z3 zh rfl rfl
  obtain⟨v11,zx,H⟩:=aS H
  obtain⟨h10,EH,qU⟩:=en (P:=Tryz.prog) (tf:=3) (E:=aa) (l:=(eU.set k2.toNat v8)) (q:=0) (v:=v9) (x:=.int .i64 v9) o9 rfl Z3 zx rfl rfl
  exact qr [.v 8 (aJ (k:=.i64) (E:=aa) (l:=eU) (q:=0) dt o8 rfl wD),.v 9 (bm  (E:=aa) (l:=eU) (q:=0) o8 rfl A3 wD rfl),.v 12 (aJ (k:=.i64) (E:=aa) (l:=eU) (q:=0) dt o8 rfl wE),.v 13 (bm  (E:=aa) (l:=eU) (q:=0) o8 rfl A3 wE rfl),.v 14 (aJ (k:=.i64) (E:=aa) (l:=eU) (q:=0) dt o8 rfl zh),.w 15 EI,.v 16 (aJ (k:=.i64) (E:=aa) (l:=(eU.set k2.toNat v8)) (q:=0) dt o9 rfl zx),.w 17 EH] <| q0 <| ⟨((eU.set k2.toNat v8).set (i64.wrap (k2 - (1:Int))).toNat v9,i64.wrap (k2 - (1:Int))),⟨h10,by kernel_rfl,qU⟩,H⟩
 ·exact qx 6 <| ⟨rfl,eU,k2,oi H,.rs aV 0 az.length 1,.int .i64 i3,.int .i64 k2,.bool (decide (k2 > i3)),h8,by kernel_rfl,o8⟩
theorem aQ.vL (L:Mem)(aV:Nat)(fT:FuncId)(bu bc:List AV)(az:List Int)(a0:Int)(m0:Int)(b0:Int)(bb:Int→Int→Option (Int))  {kk:Nat}(jH:wY cf m kk)(iE:bh (.fn fT bu) = .fn fT bu)(iW:∀(h:AHeap) (xs:List AV) (a0:Int) (a1:Int) r,bb a0 a1=some r→aX b5 h xs ([.int .i64 a0,.int .i64 a1]++bc)→cf fT xs h=some (.int .i64 r,h))(iX:∀h K,Has h (K++(L))→aX dD h bu bc)(jF:∀h,aX dD h bc bc)  : b8 Tryz.prog cf mY m (sub [1,1,1,1,1,1,1,0,0,0] (br Tryz.f146)) (fun k (σ:Int × Int)=>aQ.l4 m az a0 m0 b0 bb k σ.1 σ.2) (fun σ s=>match σ with | (hZ,r3)=>∃h13,s=⟨.rs aV 0 az.length 1 :: .int .i64 a0 :: .int .i64 m0 :: .int .i64 b0 :: .fn fT bu::qK (.int .i64 (i64.wrap (kh .u64 (u64.wrap (i64.wrap (a0+b0))) 1)) :: .int .i64 (i64.wrap (i64.wrap (kh .u64 (u64.wrap (i64.wrap (a0+b0))) 1)+m0)) :: .int .i64 hZ :: .int .i64 r3 :: .int .i64 (i64.wrap (i64.wrap (i64.wrap (kh .u64 (u64.wrap (i64.wrap (a0+b0))) 1)+m0) - (1:Int)))::HZ []),[],h13⟩∧Has h13 ((aV,.sl az.length 1 (aa.l az))::L)) (fun out e s=>(e = .exit 8∧∃hZ r3,(hZ,r3)=out∧∃Oc si Rv h13,s=⟨.rs aV 0 az.length 1 :: .int .i64 a0 :: .int .i64 m0 :: .int .i64 b0 :: .fn fT bu::qK (.int .i64 (i64.wrap (kh .u64 (u64.wrap (i64.wrap (a0+b0))) 1)) :: .int .i64 (i64.wrap (i64.wrap (kh .u64 (u64.wrap (i64.wrap (a0+b0))) 1)+m0)) :: .int .i64 hZ::Oc::si::qL (Rv::qJ [])),[],h13⟩∧Has h13 ((aV,.sl az.length 1 (aa.l az))::L))):=by
 refine iO (fun _=>rfl) ?_
 rintro k ⟨hZ,r3⟩ s out ⟨h13,rfl,lP⟩ H
 have H:aQ.l4 m az a0 m0 b0 bb (k+1) hZ r3=some out:=H
 refine qq <| qq <| q0 <| qc H (fun c9 H=>?_) (fun c9 H=>?_)
 ·refine qk <| qb 9 <| qq <| q0 <| qq ?_
  obtain⟨v12,GW,H⟩:=aS H
  obtain⟨Lh,IG,H⟩:=aS H
  obtain⟨r4,GV,H⟩:=aS H
  refine qr [.v 5 (aJ (k:=.i64) (E:=aa) (l:=az) (q:=0) dt lP rfl GW),.v 6 (bm  (E:=aa) (l:=az) (q:=0) lP rfl A3 GW rfl),.v 9 (aJ (k:=.i64) (E:=aa) (l:=az) (q:=0) dt lP rfl IG),.v 10 (bm  (E:=aa) (l:=az) (q:=0) lP rfl A3 IG rfl),.a 11 (iW _ _ _ _ _ GV (NT (ab (aA) (ab (aA) (aq))) (iX h13 [(aV,.sl az.length 1 (aa.l az))] lP)))] <| qc H (fun wT H=>?_) (fun wT H=>?_)
  ·exact q0 <| ⟨(i64.wrap (i64.wrap (kh .u64 (u64.wrap (i64.wrap (hZ+r3))) 1)+(1:Int)),r3),⟨h13,by kernel_rfl,lP⟩,H⟩
  ·exact q0 <| ⟨(hZ,i64.wrap (kh .u64 (u64.wrap (i64.wrap (hZ+r3))) 1)),⟨h13,by kernel_rfl,lP⟩,H⟩
 ·exact qx 8 <| ⟨rfl,hZ,r3,oi H,.int .i64 r3,.int .i64 (i64.wrap (i64.wrap (i64.wrap (kh .u64 (u64.wrap (i64.wrap (a0+b0))) 1)+m0) - (1:Int))),.bool (decide (hZ<r3)),h13,by kernel_rfl,lP⟩
theorem vN {a7:FuncId→cu}(ha:a7 146=mY)(Rw:QZ cf m)(az:List Int)(a0:Int)(m0:Int)(b0:Int)(bb:Int→Int→Option (Int))(h:AHeap)(L:Mem)(aV:Nat)(fT:FuncId)(bu bc:List AV)  {kk:Nat}(jH:wY cf m kk)(iE:bh (.fn fT bu) = .fn fT bu)(iW:∀(h:AHeap) (xs:List AV) (a0:Int) (a1:Int) r,bb a0 a1=some r→aX b5 h xs ([.int .i64 a0,.int .i64 a1]++bc)→cf fT xs h=some (.int .i64 r,h))(iX:∀h K,Has h (K++(L))→aX dD h bu bc)(jF:∀h,aX dD h bc bc)(o:Has h ((aV,.sl az.length 1 (aa.l az))::L)){out:(List Int)}(H:aQ.f m (kk+1) az a0 m0 b0 bb=some out) :
  ∃r h',bj Tryz.prog a7 cf m 146 [.rs aV 0 az.length 1,.int .i64 a0,.int .i64 m0,.int .i64 b0,.fn fT bu] h=some (r,h')∧r = .tup []∧Has h' ((aV,.sl az.length 1 (aa.l out))::L):=by
 refine au (fn:=Tryz.f146) ha Tryz.func146 (by kernel_rfl) (by kernel_rfl) ?_
 refine aK (Q:=fun s=>aQ.fin L aV az a0 m0 b0 bb out s) (fun _ _ ⟨h1,h2,h3⟩=>⟨h1,_,h2,rfl,h3⟩) ?_
 have H:aQ.b m (aQ.f m kk) az a0 m0 b0 bb=some out:=H
 unfold aQ.b at H
 show dR _ cf mY m _ ⟨.rs aV 0 az.length 1 :: .int .i64 a0 :: .int .i64 m0 :: .int .i64 b0 :: .fn fT bu::Uc [],[],h⟩ _
 refine qq <| qq <| q0 <| qc H (fun c0 H=>?_) (fun c0 H=>?_)
 ·refine q1 <| qq <| q0 <| qq <| qb 0 ?_
  obtain⟨bo,e3,H⟩:=aS H
  refine ql (aQ.cd L aV fT bu bc az a0 m0 b0 bb  jH iE iW iX jF  (m0,b0) _ _ ⟨h,by kernel_rfl,o⟩ e3) ?_
  rintro e s ⟨rfl,i1,j1,rfl,g0,g1,g2,h1,rfl,o1⟩
  try dsimp only at H
  refine qq <| qq <| q0 <| qb 2 ?_
  obtain⟨bZ,lg,H⟩:=aS H
  refine ql (aQ.gN L aV fT bu bc az a0 m0 b0 bb i1  jH iE iW iX jF  (az,a0) _ _ ⟨h1,by kernel_rfl,o1⟩ lg) ?_
  rintro e s ⟨rfl,dY,k1,rfl,g3,g4,g5,g6,h5,rfl,o5⟩
  try dsimp only at H
  obtain rfl:=oi H
  exact qt <| ⟨.inl rfl,⟨by kernel_rfl,he o5⟩⟩
 ·refine qk <| qq <| qq <| q0 <| qc H (fun c4 H=>?_) (fun c4 H=>?_)
  ·refine q1 <| qq <| q0 <| qq <| qb 4 ?_
   obtain⟨fC,uc,H⟩:=aS H
   refine ql (aQ.mj L aV fT bu bc az a0 m0 b0 bb  jH iE iW iX jF  (a0,m0) _ _ ⟨h,by kernel_rfl,o⟩ uc) ?_
   rintro e s ⟨rfl,i3,j3,rfl,g7,g8,g9,h7,rfl,o7⟩
   try dsimp only at H
   refine qq <| qq <| q0 <| qb 6 ?_
   obtain⟨kY,Gd,H⟩:=aS H
   refine ql (aQ.vK L aV fT bu bc az a0 m0 b0 bb i3  jH iE iW iX jF  (az,m0) _ _ ⟨h7,by kernel_rfl,o7⟩ Gd) ?_
   rintro e s ⟨rfl,kq,k3,rfl,g10,g11,g12,g13,h11,rfl,oR⟩
   try dsimp only at H
   obtain rfl:=oi H
   exact qt <| ⟨.inl rfl,⟨by kernel_rfl,he oR⟩⟩
  ·refine qk <| qq <| q0 <| qq <| q0 <| qq <| q0 ?_
   obtain⟨EJ,MD,H⟩:=oG H
   refine qj (S:=fun (σ:Int × Int) s=>match σ with | (vM,r2)=>∃(h12:AHeap),s=⟨.rs aV 0 az.length 1 :: .int .i64 a0 :: .int .i64 m0 :: .int .i64 b0 :: .fn fT bu::qK (.int .i64 (i64.wrap (kh .u64 (u64.wrap (i64.wrap (a0+b0))) 1)) :: .int .i64 (i64.wrap (i64.wrap (kh .u64 (u64.wrap (i64.wrap (a0+b0))) 1)+m0)) :: .int .i64 vM :: .int .i64 r2::H0 []),[],h12⟩∧Has h12 ((aV,.sl az.length 1 (aa.l az))::L)) EJ H ?_ ?_
   ·rintro⟨vM,r2⟩ s ⟨h12,rfl,s6⟩ H
    have H:=(MD _).symm.trans H
    try dsimp only at H
    refine q1 <| qq <| qb 8 ?_
    obtain⟨du,IE,H⟩:=aS H
    refine ql (aQ.vL L aV fT bu bc az a0 m0 b0 bb  jH iE iW iX jF  (vM,r2) _ _ ⟨h12,by kernel_rfl,s6⟩ IE) ?_
    rintro e s ⟨rfl,gm,r5,rfl,g14,g15,g16,h14,rfl,vH⟩
    try dsimp only at H
    refine q1 ?_
    obtain⟨Ka,Om,H⟩:=oG H
    refine qj (S:=fun (σ:(List Int)) s=>match σ with | mo=>∃(g17:AV) (g18:AV) (h16:AHeap),s=⟨.rs aV 0 az.length 1 :: .int .i64 a0::g17 :: .int .i64 b0 :: .fn fT bu::qK (.int .i64 (i64.wrap (kh .u64 (u64.wrap (i64.wrap (a0+b0))) 1)) :: .any :: .int .i64 gm::j5 (.int .i64 (i64.wrap (i64.wrap (i64.wrap (kh .u64 (u64.wrap (i64.wrap (a0+b0))) 1)+m0) - gm))::qL [g18,.any,.any])),[],h16⟩∧Has h16 ((aV,.sl az.length 1 (aa.l mo))::L)) Ka H ?_ ?_
    ·rintro mo s ⟨g17,g18,h16,rfl,mA⟩ H
     have H:=(Om _).symm.trans H
     try dsimp only at H
     obtain⟨Rt,CL,H⟩:=oG H
     refine qj (S:=fun (σ:(List Int)) s=>match σ with | q6=>∃(g19:AV) (g20:AV) (g21:AV) (h18:AHeap),s=⟨.rs aV 0 az.length 1::g19 :: .any :: .int .i64 b0 :: .fn fT bu::qK (.int .i64 (i64.wrap (kh .u64 (u64.wrap (i64.wrap (a0+b0))) 1)) :: .any::g20::j5 (.int .i64 (i64.wrap (i64.wrap (i64.wrap (kh .u64 (u64.wrap (i64.wrap (a0+b0))) 1)+m0) - gm))::oQ [g21,.any])),[],h18⟩∧Has h18 ((aV,.sl az.length 1 (aa.l q6))::L)) Rt H ?_ ?_
     ·rintro q6 s ⟨g19,g20,g21,h18,rfl,xS⟩ H
      have H:=(CL _).symm.trans H
      try dsimp only at H
      refine qq ?_
      rcases eu H with⟨Gc,H⟩| ⟨Gc,H⟩
      ·refine qr [.b 3 Gc] <| qc H (fun GZ H=>?_) (fun GZ H=>?_)
       ·obtain⟨x2,Ll,H⟩:=aS H
        obtain⟨h19,Lm,ud⟩:=jH _ _ _ _ _ _ Ll h18 _ _ _ (xS) fT bu bc iE iW (fun h' K' o'=>iX h' (K'++[]) (by simpa only [abX,acg,aci] using o')) jF [.rs aV 0 az.length 1,.int .i64 (i64.wrap (kh .u64 (u64.wrap (i64.wrap (a0+b0))) 1)),.int .i64 (i64.wrap (i64.wrap (i64.wrap (kh .u64 (u64.wrap (i64.wrap (a0+b0))) 1)+m0) - gm)),.int .i64 b0,.fn fT bu] (aR (rfl) (aR (bU (dc)) (aR (bU (dc)) (aR (bU (dc)) (aR (iE) (eO))))))
        obtain rfl:=oi H
        exact qr [.a 5 Lm] <| ⟨.inr rfl,⟨by kernel_rfl,he ud⟩⟩
       ·obtain rfl:=oi H
        exact qk <| ⟨.inr rfl,⟨by kernel_rfl,he xS⟩⟩
      ·obtain rfl:=oi H
       exact qr [.b 3 Gc] <| Eb <| qk <| ⟨.inr rfl,⟨by kernel_rfl,he xS⟩⟩
     clear CL
     intro On
     refine qq ?_
     rcases eu H with⟨s8,H⟩| ⟨s8,H⟩
     ·refine qr [.b 3 s8] <| qc H (fun EF H=>?_) (fun EF H=>?_)
      ·obtain⟨x1,Lj,H⟩:=aS H
       obtain⟨h17,Lk,zw⟩:=jH _ _ _ _ _ _ Lj h16 _ _ _ (mA) fT bu bc iE iW (fun h' K' o'=>iX h' (K'++[]) (by simpa only [abX,acg,aci] using o')) jF [.rs aV 0 az.length 1,.int .i64 a0,.int .i64 gm,.int .i64 (i64.wrap (kh .u64 (u64.wrap (i64.wrap (a0+b0))) 1)),.fn fT bu] (aR (rfl) (aR (bU (dc)) (aR (bU (dc)) (aR (bU (dc)) (aR (iE) (eO))))))
       exact qr [.a 5 Lk] <| On x1 _ ⟨.any,.any,.any,h17,by kernel_rfl,zw⟩ H
      ·exact qk <| On mo _ ⟨.int .i64 a0,.int .i64 gm,.bool (decide (gm<(i64.wrap (kh .u64 (u64.wrap (i64.wrap (a0+b0))) 1)))),h16,by kernel_rfl,mA⟩ H
     ·exact qr [.b 3 s8] <| Eb <| qk <| On mo _ ⟨.int .i64 a0,.int .i64 gm,.bool false,h16,by kernel_rfl,mA⟩ H
    clear Om
    intro Ge
    refine qq ?_
    rcases eu H with⟨oK,H⟩| ⟨oK,H⟩
    ·refine qr [.b 3 oK] <| qc H (fun tC H=>?_) (fun tC H=>?_)
     ·obtain⟨x0,IF,H⟩:=aS H
      obtain⟨h15,MA,xR⟩:=Rw _ _ _ _ _ _ IF h14 _ _ _ (vH) fT bu bc iE iW (fun h' K' o'=>iX h' (K'++[]) (by simpa only [abX,acg,aci] using o')) jF [.rs aV 0 az.length 1,.int .i64 gm,.int .i64 m0,.int .i64 (i64.wrap (i64.wrap (i64.wrap (kh .u64 (u64.wrap (i64.wrap (a0+b0))) 1)+m0) - gm)),.fn fT bu] (aR (rfl) (aR (bU (dc)) (aR (bU (dc)) (aR (bU (dc)) (aR (iE) (eO))))))
      exact qr [.a 5 MA] <| Ge x0 _ ⟨.any,.any,h15,by kernel_rfl,xR⟩ H
     ·exact qk <| Ge az _ ⟨.int .i64 m0,.bool (decide (m0<(i64.wrap (i64.wrap (i64.wrap (kh .u64 (u64.wrap (i64.wrap (a0+b0))) 1)+m0) - gm)))),h14,by kernel_rfl,vH⟩ H
    ·exact qr [.b 3 oK] <| Eb <| qk <| Ge az _ ⟨.int .i64 m0,.bool false,h14,by kernel_rfl,vH⟩ H
   clear MD
   intro Bh
   refine q1 <| qc H (fun c8 H=>?_) (fun c8 H=>?_)
   ·exact q1 <| q0 <| Bh (i64.wrap (i64.wrap (i64.wrap (kh .u64 (u64.wrap (i64.wrap (a0+b0))) 1)+m0) - b0),i64.wrap (kh .u64 (u64.wrap (i64.wrap (a0+b0))) 1)) _ ⟨h,by kernel_rfl,o⟩ H
   ·exact q1 <| q0 <| Bh (a0,m0) _ ⟨h,by kernel_rfl,o⟩ H
end
end Go.Proofs.YtifafejidnjckaaGreat
namespace Go.Proofs.YtifafejidnjckaaGreat
open Go Go.R
open Go.IntKind (i64 u64 u8 u32)
def EK:cu:=gj [0,1,2,4,5,6,7,13] [] [249,217,89,231,191,191,231] [] []
def eL.f (m:Nat)(s0:aj)(n0:Int):Option ((List Int) × Int):=(cH.f m s0 ([n0])).bind fun x0=>if (!(x0==(0:Int)))=true then (some ([],x0)) else ((aM.f m s0 n0).bind fun x1=>(eW.f m x1 (fun y0=>dF.f m y0 s0)).bind fun x2=>some (jr x2,(0:Int)))
def eL.fin (L:Mem)(r:(List Int) × Int)(s:St):Prop:=∃av,aP Tryz.prog (s.open EK) Tryz.f27.results.toList=some av∧fi s.h av (.tup [aa.fz r.1,.int .i64 r.2])
def Xu (cf:CallF)(m:Nat):Prop:=∀(s0:aj) (n0:Int) (r:(List Int) × Int),eL.f m s0 n0=some r→∀h xs,aX b5 h xs [.fp [.bool s0.aF,af.fz s0.ae,aa.fz s0.aB] 0,.int .i64 n0]→cf 27 xs h=some (.tup [aa.fz r.1,.int .i64 r.2],h)
section
variable {cf:CallF}{m:Nat}
theorem nE {a7:FuncId→cu}(ha:a7 27=EK)(Da:Q0 cf m)(Oo:Uy cf m)(UJ:Xc cf m)(UK:Xd cf m)(UL:WX cf m)(s0:aj)(n0:Int)(h:AHeap)(L:Mem)  (o:Has h (L)){out:(List Int) × Int}(H:eL.f m s0 n0=some out) :
  ∃r h',bj Tryz.prog a7 cf m 27 [.fp [.bool s0.aF,af.fz s0.ae,aa.fz s0.aB] 0,.int .i64 n0] h=some (r,h')∧fi h' r (.tup [aa.fz out.1,.int .i64 out.2]):=by
 refine au (fn:=Tryz.f27) ha Tryz.func27 (by kernel_rfl) (by kernel_rfl) ?_
 refine aK (Q:=fun s=>eL.fin L out s) (fun _ _ h=>h) ?_
 have H:_=some out:=H
 unfold eL.f at H
 show dR _ cf EK m _ ⟨.fp [.bool s0.aF,af.fz s0.ae,aa.fz s0.aB] 0 :: .int .i64 n0::GR [],[],h⟩ _
 refine qq ?_
 obtain⟨aV,h0,e0,o0⟩:=km (cs:=[.fp [.bool s0.aF,af.fz s0.ae,aa.fz s0.aB] 0]) o (by kernel_rfl)
 refine qr [.a 0 e0] <| qq <| qq ?_
 obtain⟨x0,e1,H⟩:=aS H
 refine qr [.v 0 (show b7 Tryz.prog h0 31 (.ptr aV 0)=some (.fp [.bool s0.aF,af.fz s0.ae,aa.fz s0.aB] 0) from dO (q:=0) (cs:=[.fp [.bool s0.aF,af.fz s0.ae,aa.fz s0.aB] 0]) o0 rfl (by kernel_rfl)),.a 3 (Da _ _ _ e1 h0 _ (er (ab (dJ (pure_cons (ba) (pure_cons (bG.aI (E:=af) (l:=s0.ae)) (pure_cons (bG.aI (E:=aa) (l:=s0.aB)) (pure_nil))))) (ab (rU (E:=aa) (l:=[n0]) (cs:=[.int .i64 n0]) (b:=true) (by kernel_rfl) (by kernel_rfl) rfl) (aq)))))] <| qq <| q0 <| qc H (fun c0 H=>?_) (fun c0 H=>?_)
 ·refine q1 ?_
  have o1:Has h0 (L):=Has.del o0 0
  obtain rfl:=oi H
  exact qt <| ⟨.inl rfl,bX (.tup [.nils,.int .i64 x0]) h0 (bW (lN (fE (yX) (fE (cp) (lM)))))⟩
 ·refine qk <| qq ?_
  obtain⟨x1,e2,H⟩:=aS H
  obtain⟨dA,h1,e3,o2,L8⟩:=Oo _ _ _ e2 h0 _ _ o0 (er (ab (dJ (pure_cons (ba) (pure_cons (bG.aI (E:=af) (l:=s0.ae)) (pure_cons (bG.aI (E:=aa) (l:=s0.aB)) (pure_nil))))) (ab (aA) (aq))))
  obtain⟨x2,e4,H⟩:=aS H
  obtain⟨h2,e5,o3⟩:=UJ _ _ _ e4 h1 _ _ _ (o2) 64 [.ptr aV 0] [.fp [.fp [.bool s0.aF,af.fz s0.ae,aa.fz s0.aB] 0] 0] rfl (fun h' Lf y0 r hr hx=>UK y0 _ r hr h' Lf hx) (fun h' K' o'=>vf (ab (jT (q:=(K'.length+0)) o' (HW rfl) (ab (dJ (pure_cons (ba) (pure_cons (bG.aI (E:=af) (l:=s0.ae)) (pure_cons (bG.aI (E:=aa) (l:=s0.aB)) (pure_nil))))) (aq))) (aq))) (fun h_=>vf (ab (dJ (pure_cons (qQ (pure_cons (ba) (pure_cons (bG.aI (E:=af) (l:=s0.ae)) (pure_cons (bG.aI (E:=aa) (l:=s0.aB)) (pure_nil))))) (pure_nil))) (aq))) [.rs dA 0 x1.length 1,.fn 64 [.ptr aV 0]] (aR (rfl) (aR (rfl) (eO)))
  refine qr [.v 0 (show b7 Tryz.prog h0 31 (.ptr aV 0)=some (.fp [.bool s0.aF,af.fz s0.ae,aa.fz s0.aB] 0) from dO (q:=0) (cs:=[.fp [.bool s0.aF,af.fz s0.ae,aa.fz s0.aB] 0]) o0 rfl (by kernel_rfl)),.a 2 e3,.a 4 e5] ?_
  have o4:Has h2 ((dA,.sl x2.length 1 (aa.l x2))::L):=Has.del o3 1
  refine qq ?_
  obtain⟨h3,e6,o5⟩:=NM (l:=x2) UL o4
  obtain rfl:=oi H
  exact qr [.a 1 e6] <| qq <| q0 <| qt <| ⟨.inl rfl,bX (.tup [.rs dA 0 x2.length 1,.int .i64 (0:Int)]) h3 (bW (lN (fE (xA (E:=aa) (l:=(jr x2)) (q:=0) o5 rfl (fun _=>rfl)) (fE (cp) (lM)))))⟩
end
end Go.Proofs.YtifafejidnjckaaGreat
namespace Go.Proofs.YtifafejidnjckaaGreat
open Go Go.R
open Go.IntKind (i64 u64 u8 u32)
end Go.Proofs.YtifafejidnjckaaGreat
