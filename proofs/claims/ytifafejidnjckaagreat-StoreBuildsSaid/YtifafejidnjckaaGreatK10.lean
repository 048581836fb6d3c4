/- Part of the proof: Q32, Q33, Q38, Q42, Q53, Q73, Q78, Q81, Q102, Q112, Q134, Q138, Q11, Q23, Q31, Q36, Q39, Q40, Q41, Q43, Q45, Q67, Q88, Q114, Q119. -/
import Derived.Test.YtifafejidnjckaaGreatK9
set_option linter.unusedVariables false
set_option linter.unusedSimpArgs false
set_option maxRecDepth 100000
open ByteArray renaming mk → ab7
open Eq renaming trans → acq
open List renaming length_set → abF, append_assoc → abX, cons_append → acg, nil_append → aci
open Or renaming inr → ac3
namespace Go.Proofs.YtifafejidnjckaaGreat
open Go Go.R
open Go.IntKind (i64 u64 u8 u32)
def EL:cu:=gj [0,1,4,5,6,12] [] [60,44,12,51,51] [] []
def fb.f (m:Nat)(s0:aj)(n0:Int):Option (Int × Int):=(cH.f m s0 ([n0])).bind fun x0=>if (!(x0==(0:Int)))=true then (some ((0:Int),x0)) else ((bz.f m s0 n0).bind fun x1=>some (x1,(0:Int)))
def fb.fin (L:Mem)(r:Int × Int)(s:St):Prop:=∃av,aP Tryz.prog (s.open EL) Tryz.f32.results.toList=some av∧fi s.h av (.tup [.int .i64 r.1,.int .i64 r.2])
def Xv (cf:CallF)(m:Nat):Prop:=∀(s0:aj) (n0:Int) (r:Int × Int),fb.f m s0 n0=some r→∀h xs,aX b5 h xs [.fp [.bool s0.aF,af.fz s0.ae,aa.fz s0.aB] 0,.int .i64 n0]→cf 32 xs h=some (.tup [.int .i64 r.1,.int .i64 r.2],h)
section
variable {cf:CallF}{m:Nat}
theorem ou {a7:FuncId→cu}(ha:a7 32=EL)(Da:Q0 cf m)(qY:Mt cf m)(s0:aj)(n0:Int)(h:AHeap)(L:Mem)  (o:Has h (L)){out:Int × Int}(H:fb.f m s0 n0=some out) :
  ∃r h',bj Tryz.prog a7 cf m 32 [.fp [.bool s0.aF,af.fz s0.ae,aa.fz s0.aB] 0,.int .i64 n0] h=some (r,h')∧fi h' r (.tup [.int .i64 out.1,.int .i64 out.2]):=by
 refine au (fn:=Tryz.f32) ha Tryz.func32 (by kernel_rfl) (by kernel_rfl) ?_
 refine aK (Q:=fun s=>fb.fin L out s) (fun _ _ h=>h) ?_
 have H:_=some out:=H
 unfold fb.f at H
 show dR _ cf EL m _ ⟨.fp [.bool s0.aF,af.fz s0.ae,aa.fz s0.aB] 0 :: .int .i64 n0::qJ [],[],h⟩ _
 refine q1 <| qq <| qq ?_
 obtain⟨x0,e0,H⟩:=aS H
 refine qr [.a 3 (Da _ _ _ e0 h _ (er (ab (dJ (pure_cons (ba) (pure_cons (bG.aI (E:=af) (l:=s0.ae)) (pure_cons (bG.aI (E:=aa) (l:=s0.aB)) (pure_nil))))) (ab (rU (E:=aa) (l:=[n0]) (cs:=[.int .i64 n0]) (b:=true) (by kernel_rfl) (by kernel_rfl) rfl) (aq)))))] <| qq <| q0 <| qc H (fun c0 H=>?_) (fun c0 H=>?_)
 ·obtain rfl:=oi H
  exact q1 <| qt <| ⟨.inl rfl,bX (.tup [.int .i64 (0:Int),.int .i64 x0]) h (bW (lN (fE (cp) (fE (cp) (lM)))))⟩
 ·refine qk <| qq ?_
  obtain⟨x1,e1,H⟩:=aS H
  obtain rfl:=oi H
  exact qr [.a 2 (qY _ _ _ e1 h _ (er (ab (dJ (pure_cons (ba) (pure_cons (bG.aI (E:=af) (l:=s0.ae)) (pure_cons (bG.aI (E:=aa) (l:=s0.aB)) (pure_nil))))) (ab (aA) (aq)))))] <| qt <| ⟨.inl rfl,bX (.tup [.int .i64 x1,.int .i64 (0:Int)]) h (bW (lN (fE (cp) (fE (cp) (lM)))))⟩
end
end Go.Proofs.YtifafejidnjckaaGreat
namespace Go.Proofs.YtifafejidnjckaaGreat
open Go Go.R
open Go.IntKind (i64 u64 u8 u32)
end Go.Proofs.YtifafejidnjckaaGreat
namespace Go.Proofs.YtifafejidnjckaaGreat
open Go Go.R
open Go.IntKind (i64 u64 u8 u32)
def Bi:cu:=gj [0,1,2,4,5,7,8,24,45,61,87,109,114,131] [2] [16377,16345,16281,16375,16217,16375,16089,16375,15833,16375,15353,14329,16375,16361,12265,16361,8169,16375,16375,16375] [] []
def cw.l0 (m:Nat)(n0:ah)(aw:Int):Nat→Int→Option (Sum Bool (Int))
 | 0,_=>none
 | k+1,i0=>if (decide (i0<(n0.args.length:Int)))=true then ((ix n0.args i0).bind fun v0=>if (decide (v0<(0:Int)))=true then (some (.inl false)) else ((ix n0.args i0).bind fun v1=>if (decide (v1≥aw))=true then (some (.inl false)) else (cw.l0 m n0 aw k (i64.wrap (i0+(1:Int)))))) else (some (.inr i0))
def cw.f (m:Nat)(n0:ah)(aw:Int):Option (Bool):=if (n0.kind==(0:Int))=true then (if (decide (n0.int≥(0:Int)))=true then (if (n0.label.data.toList==(ab7 #[]).data.toList)=true then (some ((n0.args.length:Int)==(0:Int))) else (some false)) else (some false)) else (if (n0.kind==(1:Int))=true then (if (decide (n0.int≥(-1099511627776:Int)))=true then (if (decide (n0.int≤(1099511627776:Int)))=true then (if (n0.label.data.toList==(ab7 #[]).data.toList)=true then (some ((n0.args.length:Int)==(0:Int))) else (some false)) else (some false)) else (some false)) else (if (n0.kind==(2:Int))=true then ((fK.f m n0.label).bind fun x0=>if x0=true then (if (n0.int==(0:Int))=true then (some ((n0.args.length:Int)==(0:Int))) else (some false)) else (some false)) else (if (n0.kind==(4:Int))=true then (if (n0.label.data.toList==(ab7 #[112,114,111,99]).data.toList)=true then (if (decide (n0.int≥(0:Int)))=true then (some ((n0.args.length:Int)==(0:Int))) else (some false)) else (if (n0.label.data.toList==(ab7 #[99,101,108,108]).data.toList)=true then (if (decide (n0.int≥(0:Int)))=true then (some ((n0.args.length:Int)==(0:Int))) else (some false)) else (if (n0.label.data.toList==(ab7 #[112,111,114,116]).data.toList)=true then (if (decide (n0.int≥(0:Int)))=true then (some ((n0.args.length:Int)==(0:Int))) else (some false)) else (some false)))) else (if (n0.kind==(3:Int))=true then ((fK.f m n0.label).bind fun x1=>if (!x1)=true then (some false) else (if (!(n0.int==(0:Int)))=true then (some false) else (if (decide ((n0.args.length:Int)<(1:Int)))=true then (some false) else (if (decide ((n0.args.length:Int) > (8:Int)))=true then (some false) else ((cw.l0 m n0 aw m (0:Int)).bind fun bo=>match bo with | .inl r0=>some r0 | .inr i1=>some true))))) else (some false)))))
def cw.fin (L:Mem)(r:Bool)(s:St):Prop:=∃av,aP Tryz.prog (s.open Bi) Tryz.f38.results.toList=some av∧fi s.h av (.bool r)
def Rx (cf:CallF)(m:Nat):Prop:=∀(n0:ah) (aw:Int) (r:Bool),cw.f m n0 aw=some r→∀h xs,aX b5 h xs [.agg [.int .i64 n0.kind,.int .i64 n0.int,.str n0.label,aa.fz n0.args],.int .i64 aw]→cf 38 xs h=some (.bool r,h)
section
variable {cf:CallF}{m:Nat}
theorem cw.cd (L:Mem)(n0:ah)(aw:Int)   : b8 Tryz.prog cf Bi m (sub [1,0,1,0,1,1,1,1,1,1,1,1,1,0,1,0,1,0,0] (br Tryz.f38)) (fun k (σ:Int)=>cw.l0 m n0 aw k σ) (fun σ s=>match σ with | i0=>∃h0,s=⟨.any :: .int .i64 aw :: .lp 2 0 :: .any :: .int .i64 i0::Mp [],[some [.int .i64 n0.kind,.int .i64 n0.int,.str n0.label,aa.fz n0.args]],h0⟩∧Has h0 (L)) (fun out e s=>(e = .exit 1∧∃i0,.inr i0=out∧∃tw F8 vk Ry QR h0,s=⟨.any::tw::F8 :: .any::vk::zV [Ry,.any],[QR],h0⟩∧Has h0 (L))∨(e = .ret∧∃r,.inl r=out∧cw.fin L r s)):=by
 refine iO (fun _=>rfl) ?_
 rintro k i0 s out ⟨h0,rfl,o0⟩ H
 have H:cw.l0 m n0 aw (k+1) i0=some out:=H
 refine qq <| qq <| q0 <| qc H (fun Kb H=>?_) (fun Kb H=>?_)
 ·refine qk <| qq <| qb 2 <| qq ?_
  obtain⟨v0,e2,H⟩:=aS H
  rcases eu H with⟨Lq,H⟩| ⟨Lq,H⟩
  ·exact qr [.v 3 (bO (k:=.i64) (E:=aa) (l:=n0.args) dt e2),.v 4 (cF  (E:=aa) (l:=n0.args) h0 A3 e2 rfl),.b 6 Lq] <| zX <| qq <| q0 <| qt <| ac3 (⟨rfl,_,oi H,bX (.bool false) h0 (bW (ao))⟩)
  ·obtain⟨v1,e3,H⟩:=aS H
   refine qr [.v 3 (bO (k:=.i64) (E:=aa) (l:=n0.args) dt e2),.v 4 (cF  (E:=aa) (l:=n0.args) h0 A3 e2 rfl),.b 6 Lq,.v 10 (bO (k:=.i64) (E:=aa) (l:=n0.args) dt e3),.v 11 (cF  (E:=aa) (l:=n0.args) h0 A3 e3 rfl)] <| qc H (fun Rz H=>?_) (fun Rz H=>?_)
   ·exact q1 <| qt <| ac3 (⟨rfl,_,oi H,bX (.bool false) h0 (bW (ao))⟩)
   ·exact qk <| q0 <| ⟨i64.wrap (i0+(1:Int)),⟨h0,by kernel_rfl,o0⟩,H⟩
 ·exact qx 1 <| Or.inl (⟨rfl,i0,oi H,.int .i64 aw,.lp 2 0,.int .i64 i0,.bool (decide (i0<(n0.args.length:Int))),some [.int .i64 n0.kind,.int .i64 n0.int,.str n0.label,aa.fz n0.args],h0,by kernel_rfl,o0⟩)
theorem so {a7:FuncId→cu}(ha:a7 38=Bi)(Db:Xh cf m)(n0:ah)(aw:Int)(h:AHeap)(L:Mem)  (o:Has h (L)){out:Bool}(H:cw.f m n0 aw=some out) :
  ∃r h',bj Tryz.prog a7 cf m 38 [.agg [.int .i64 n0.kind,.int .i64 n0.int,.str n0.label,aa.fz n0.args],.int .i64 aw] h=some (r,h')∧fi h' r (.bool out):=by
 refine au (fn:=Tryz.f38) ha Tryz.func38 (by kernel_rfl) (by kernel_rfl) ?_
 refine aK (Q:=fun s=>cw.fin L out s) (fun _ _ h=>h) ?_
 have H:_=some out:=H
 unfold cw.f at H
 show dR _ cf Bi m _ ⟨.agg [.int .i64 n0.kind,.int .i64 n0.int,.str n0.label,aa.fz n0.args] :: .int .i64 aw::oQ [],[none],h⟩ _
 refine q1 <| qq <| qq <| q0 <| qb 0 <| qq <| q0 <| qc H (fun c0 H=>?_) (fun c0 H=>?_)
 ·refine qq ?_
  rcases eu H with⟨c1,H⟩| ⟨c1,H⟩
  ·rcases eu H with⟨c2,H⟩| ⟨c2,H⟩
   ·obtain rfl:=oi H
    exact qr [.b 3 c1,.b 8 c2] <| qt <| ⟨.inl rfl,bX (.bool ((n0.args.length:Int)==(0:Int))) h (bW (ao))⟩
   ·obtain rfl:=oi H
    exact qr [.b 3 c1,.b 8 c2] <| qt <| ⟨.inl rfl,bX (.bool false) h (bW (ao))⟩
  ·obtain rfl:=oi H
   exact qr [.b 3 c1] <| qt <| ⟨.inl rfl,bX (.bool false) h (bW (ao))⟩
 ·refine q1 <| qc H (fun c3 H=>?_) (fun c3 H=>?_)
  ·refine qq ?_
   rcases eu H with⟨c4,H⟩| ⟨c4,H⟩
   ·rcases eu H with⟨c5,H⟩| ⟨c5,H⟩
    ·rcases eu H with⟨c6,H⟩| ⟨c6,H⟩
     ·obtain rfl:=oi H
      exact qr [.b 3 c4,.b 8 c5,.b 13 c6] <| qt <| ⟨.inl rfl,bX (.bool ((n0.args.length:Int)==(0:Int))) h (bW (ao))⟩
     ·obtain rfl:=oi H
      exact qr [.b 3 c4,.b 8 c5,.b 13 c6] <| qt <| ⟨.inl rfl,bX (.bool false) h (bW (ao))⟩
    ·obtain rfl:=oi H
     exact qr [.b 3 c4,.b 8 c5] <| qt <| ⟨.inl rfl,bX (.bool false) h (bW (ao))⟩
   ·obtain rfl:=oi H
    exact qr [.b 3 c4] <| qt <| ⟨.inl rfl,bX (.bool false) h (bW (ao))⟩
  ·refine q1 <| qc H (fun c7 H=>?_) (fun c7 H=>?_)
   ·refine qq ?_
    obtain⟨x0,e0,H⟩:=aS H
    rcases eu H with⟨c8,H⟩| ⟨c8,H⟩
    ·rcases eu H with⟨c9,H⟩| ⟨c9,H⟩
     ·obtain rfl:=oi H
      exact qr [.a 2 (Db _ _ e0 h _ (er (ab (bH) (aq)))),.b 3 c8,.b 8 c9] <| qt <| ⟨.inl rfl,bX (.bool ((n0.args.length:Int)==(0:Int))) h (bW (ao))⟩
     ·obtain rfl:=oi H
      exact qr [.a 2 (Db _ _ e0 h _ (er (ab (bH) (aq)))),.b 3 c8,.b 8 c9] <| qt <| ⟨.inl rfl,bX (.bool false) h (bW (ao))⟩
    ·obtain rfl:=oi H
     exact qr [.a 2 (Db _ _ e0 h _ (er (ab (bH) (aq)))),.b 3 c8] <| qt <| ⟨.inl rfl,bX (.bool false) h (bW (ao))⟩
   ·refine q1 <| qc H (fun wT H=>?_) (fun wT H=>?_)
    ·refine qq ?_
     rcases eu H with⟨oK,H⟩| ⟨oK,H⟩
     ·rcases eu H with⟨tC,H⟩| ⟨tC,H⟩
      ·obtain rfl:=oi H
       exact qr [.b 3 oK,.b 18 tC] <| qt <| ⟨.inl rfl,bX (.bool ((n0.args.length:Int)==(0:Int))) h (bW (ao))⟩
      ·obtain rfl:=oi H
       exact qr [.b 3 oK,.b 18 tC] <| qt <| ⟨.inl rfl,bX (.bool false) h (bW (ao))⟩
     ·rcases eu H with⟨s7,H⟩| ⟨s7,H⟩
      ·rcases eu H with⟨s8,H⟩| ⟨s8,H⟩
       ·obtain rfl:=oi H
        exact qr [.b 3 oK,.b 8 s7,.b 18 s8] <| qt <| ⟨.inl rfl,bX (.bool ((n0.args.length:Int)==(0:Int))) h (bW (ao))⟩
       ·obtain rfl:=oi H
        exact qr [.b 3 oK,.b 8 s7,.b 18 s8] <| qt <| ⟨.inl rfl,bX (.bool false) h (bW (ao))⟩
      ·rcases eu H with⟨EF,H⟩| ⟨EF,H⟩
       ·rcases eu H with⟨GU,H⟩| ⟨GU,H⟩
        ·obtain rfl:=oi H
         exact qr [.b 3 oK,.b 8 s7,.b 13 EF,.b 18 GU] <| qt <| ⟨.inl rfl,bX (.bool ((n0.args.length:Int)==(0:Int))) h (bW (ao))⟩
        ·obtain rfl:=oi H
         exact qr [.b 3 oK,.b 8 s7,.b 13 EF,.b 18 GU] <| qt <| ⟨.inl rfl,bX (.bool false) h (bW (ao))⟩
       ·obtain rfl:=oi H
        exact qr [.b 3 oK,.b 8 s7,.b 13 EF] <| qt <| ⟨.inl rfl,bX (.bool false) h (bW (ao))⟩
    ·refine q1 <| qc H (fun Gc H=>?_) (fun Gc H=>?_)
     ·refine qq <| qq ?_
      obtain⟨x1,e1,H⟩:=aS H
      rcases eu H with⟨GZ,H⟩| ⟨GZ,H⟩
      ·obtain rfl:=oi H
       exact qr [.a 2 (Db _ _ e1 h _ (er (ab (bH) (aq)))),.b 4 GZ] <| zX <| qq <| q0 <| qt <| ⟨.inl rfl,bX (.bool false) h (bW (ao))⟩
      ·rcases eu H with⟨IN,H⟩| ⟨IN,H⟩
       ·obtain rfl:=oi H
        exact qr [.a 2 (Db _ _ e1 h _ (er (ab (bH) (aq)))),.b 4 GZ,.b 9 IN] <| zX <| qq <| q0 <| qt <| ⟨.inl rfl,bX (.bool false) h (bW (ao))⟩
       ·rcases eu H with⟨Oq,H⟩| ⟨Oq,H⟩
        ·obtain rfl:=oi H
         exact qr [.a 2 (Db _ _ e1 h _ (er (ab (bH) (aq)))),.b 4 GZ,.b 9 IN,.b 15 Oq] <| zX <| qq <| q0 <| qt <| ⟨.inl rfl,bX (.bool false) h (bW (ao))⟩
        ·refine qr [.a 2 (Db _ _ e1 h _ (er (ab (bH) (aq)))),.b 4 GZ,.b 9 IN,.b 15 Oq] <| qc H (fun UM H=>?_) (fun UM H=>?_)
         ·obtain rfl:=oi H
          exact q1 <| qt <| ⟨.inl rfl,bX (.bool false) h (bW (ao))⟩
         ·refine qk <| qq <| qq <| q0 <| qb 1 ?_
          obtain⟨bo,e4,H⟩:=aS H
          refine ql (cw.cd L n0 aw   (0:Int) _ _ ⟨h,by kernel_rfl,o⟩ e4) ?_
          rintro e s (⟨rfl,i1,rfl,g0,g1,g2,g3,g4,h1,rfl,o1⟩| ⟨rfl,r0,rfl,qS⟩)
          ·try dsimp only at H
           obtain rfl:=oi H
           exact q1 <| qt <| ⟨.inl rfl,bX (.bool true) h1 (bW (ao))⟩
          ·try dsimp only at H
           obtain rfl:=oi H
           exact⟨.inl rfl,qS⟩
     ·obtain rfl:=oi H
      exact qk <| qq <| q0 <| qt <| ⟨.inl rfl,bX (.bool false) h (bW (ao))⟩
end
end Go.Proofs.YtifafejidnjckaaGreat
namespace Go.Proofs.YtifafejidnjckaaGreat
open Go Go.R
open Go.IntKind (i64 u64 u8 u32)
end Go.Proofs.YtifafejidnjckaaGreat
namespace Go.Proofs.YtifafejidnjckaaGreat
open Go Go.R
open Go.IntKind (i64 u64 u8 u32)
def EM:cu:=gj [0,1,4,5,6,12] [4] [56,40,8,51,51] [] [(0,[(4,some 3,1)]),(3,[(4,some 3,1)])]
def ef.f (m:Nat)(s0:aj)(n0:Int):Option (ah × Int):=(cH.f m s0 ([n0])).bind fun x0=>if (!(x0==(0:Int)))=true then (some ((ah.mk (0:Int) (0:Int) (ab7 #[]) ([]:List Int)),x0)) else ((bz.f m s0 n0).bind fun x1=>(bq.f m s0 x1).bind fun x2=>some (x2,(0:Int)))
def ef.fin (L:Mem)  (r:ah × Int)(s:St):Prop:=∃ez:Nat,aP Tryz.prog (s.open EM) Tryz.f53.results.toList=some (.tup [.agg [.int .i64 r.1.kind,.int .i64 r.1.int,.str r.1.label,.rs ez 0 r.1.args.length 1],.int .i64 r.2])∧Has s.h ((ez,.sl r.1.args.length 1 (aa.l r.1.args))::L)
def Xw (cf:CallF)(m:Nat):Prop:=∀(s0:aj) (n0:Int) (r:ah × Int),ef.f m s0 n0=some r→∀h L xs,Has h L→aX b5 h xs [.fp [.bool s0.aF,af.fz s0.ae,aa.fz s0.aB] 0,.int .i64 n0]→∃ez h',cf 53 xs h=some (.tup [.agg [.int .i64 r.1.kind,.int .i64 r.1.int,.str r.1.label,.rs ez 0 r.1.args.length 1],.int .i64 r.2],h')∧Has h' ((ez,.sl r.1.args.length 1 (aa.l r.1.args))::L)∧∀j,j<h.next→h.ver j=h'.ver j
section
variable {cf:CallF}{m:Nat}
theorem mZ {a7:FuncId→cu}(ha:a7 53=EM)(Da:Q0 cf m)(IQ:SS cf m)(qY:Mt cf m)(s0:aj)(n0:Int)(h:AHeap)(L:Mem)  (o:Has h (L)){out:ah × Int}(H:ef.f m s0 n0=some out) :
  ∃r h',bj Tryz.prog a7 cf m 53 [.fp [.bool s0.aF,af.fz s0.ae,aa.fz s0.aB] 0,.int .i64 n0] h=some (r,h')∧∃ez:Nat,r = .tup [.agg [.int .i64 out.1.kind,.int .i64 out.1.int,.str out.1.label,.rs ez 0 out.1.args.length 1],.int .i64 out.2]∧Has h' ((ez,.sl out.1.args.length 1 (aa.l out.1.args))::L):=by
 refine au (fn:=Tryz.f53) ha Tryz.func53 (by kernel_rfl) (by kernel_rfl) ?_
 refine aK (Q:=fun s=>ef.fin L out s) (fun _ _ ⟨h1,ez,h2,h3⟩=>⟨h1,_,h2,ez,rfl,h3⟩) ?_
 have H:_=some out:=H
 unfold ef.f at H
 show dR _ cf EM m _ ⟨.fp [.bool s0.aF,af.fz s0.ae,aa.fz s0.aB] 0 :: .int .i64 n0::qJ [],[none],h⟩ _
 refine q1 ?_
 have o0:Has h (((0),.sl (([]:List Int).length) 1 (aa.l ([]:List Int)))::L):=Has.nil o 1
 refine qq <| qq ?_
 obtain⟨x0,e0,H⟩:=aS H
 refine qr [.a 3 (Da _ _ _ e0 h _ (er (ab (dJ (pure_cons (ba) (pure_cons (bG.aI (E:=af) (l:=s0.ae)) (pure_cons (bG.aI (E:=aa) (l:=s0.aB)) (pure_nil))))) (ab (rU (E:=aa) (l:=[n0]) (cs:=[.int .i64 n0]) (b:=true) (by kernel_rfl) (by kernel_rfl) rfl) (aq)))))] <| qq <| q0 <| qc H (fun c0 H=>?_) (fun c0 H=>?_)
 ·refine q1 ?_
  have o1:Has h ((((0)),.sl (([]:List Int).length) 1 (aa.l ([]:List Int)))::((0),.sl (([]:List Int).length) 1 (aa.l ([]:List Int)))::L):=Has.nil o0 1
  have o2:Has h ((((0)),.sl (([]:List Int).length) 1 (aa.l ([]:List Int)))::L):=Has.del o1 1
  obtain rfl:=oi H
  exact qt <| ⟨.inl rfl,⟨((0)),by kernel_rfl,he o2⟩⟩
 ·refine qk <| qq ?_
  obtain⟨x1,e1,H⟩:=aS H
  obtain⟨x2,e2,H⟩:=aS H
  obtain⟨aV,h0,e3,o3,L8⟩:=IQ _ _ _ e2 h _ _ o0 (er (ab (dJ (pure_cons (ba) (pure_cons (bG.aI (E:=af) (l:=s0.ae)) (pure_cons (bG.aI (E:=aa) (l:=s0.aB)) (pure_nil))))) (ab (aA) (aq))))
  refine qr [.a 3 (qY _ _ _ e1 h _ (er (ab (dJ (pure_cons (ba) (pure_cons (bG.aI (E:=af) (l:=s0.ae)) (pure_cons (bG.aI (E:=aa) (l:=s0.aB)) (pure_nil))))) (ab (aA) (aq))))),.a 4 e3] ?_
  have o4:Has h0 ((aV,.sl x2.args.length 1 (aa.l x2.args))::L):=Has.del o3 1
  obtain rfl:=oi H
  exact qt <| ⟨.inl rfl,⟨aV,by kernel_rfl,he o4⟩⟩
end
end Go.Proofs.YtifafejidnjckaaGreat
namespace Go.Proofs.YtifafejidnjckaaGreat
open Go Go.R
open Go.IntKind (i64 u64 u8 u32)
end Go.Proofs.YtifafejidnjckaaGreat
namespace Go.Proofs.YtifafejidnjckaaGreat
open Go Go.R
open Go.IntKind (i64 u64 u8 u32)
def EN:cu:=gj [0,1,2,3] [2] [9,7] [] []
def ia.f (m:Nat)(n0:ah)(x0:aZ):Option (Bool):=(jt.f m n0 (x0.nodes.length:Int)).bind fun x1=>some (!x1)
def ia.fin (L:Mem)(r:Bool)(s:St):Prop:=∃av,aP Tryz.prog (s.open EN) Tryz.f78.results.toList=some av∧fi s.h av (.bool r)
def Xx (cf:CallF)(m:Nat):Prop:=∀(n0:ah) (x0:aZ) (r:Bool),ia.f m n0 x0=some r→∀h xs,aX b5 h xs [.agg [.int .i64 n0.kind,.int .i64 n0.int,.str n0.label,aa.fz n0.args],.fp [af.fz x0.nodes,.int .i64 x0.root] 0]→cf 78 xs h=some (.bool r,h)
section
variable {cf:CallF}{m:Nat}
theorem q7 {a7:FuncId→cu}(ha:a7 78=EN)(UN:Xg cf m)(n0:ah)(x0:aZ)(h:AHeap)(L:Mem)  (o:Has h (L)){out:Bool}(H:ia.f m n0 x0=some out) :
  ∃r h',bj Tryz.prog a7 cf m 78 [.agg [.int .i64 n0.kind,.int .i64 n0.int,.str n0.label,aa.fz n0.args],.fp [af.fz x0.nodes,.int .i64 x0.root] 0] h=some (r,h')∧fi h' r (.bool out):=by
 refine au (fn:=Tryz.f78) ha Tryz.func78 (by kernel_rfl) (by kernel_rfl) ?_
 refine aK (Q:=fun s=>ia.fin L out s) (fun _ _ h=>h) ?_
 have H:_=some out:=H
 unfold ia.f at H
 show dR _ cf EN m _ ⟨[.agg [.int .i64 n0.kind,.int .i64 n0.int,.str n0.label,aa.fz n0.args],.fp [af.fz x0.nodes,.int .i64 x0.root] 0,.any,.any],[none],h⟩ _
 refine q1 <| qq ?_
 obtain⟨x1,e0,H⟩:=aS H
 obtain rfl:=oi H
 exact qr [.a 4 (UN _ _ _ e0 h _ (er (ab (bT (ab (aA) (ab (aA) (ab (bH) (ab (cQ (E:=aa)) (aq)))))) (ab (aA) (aq)))))] <| qt <| ⟨.inl rfl,bX (.bool (!x1)) h (bW (ao))⟩
end
end Go.Proofs.YtifafejidnjckaaGreat
namespace Go.Proofs.YtifafejidnjckaaGreat
open Go Go.R
open Go.IntKind (i64 u64 u8 u32)
end Go.Proofs.YtifafejidnjckaaGreat
namespace Go.Proofs.YtifafejidnjckaaGreat
open Go Go.R
open Go.IntKind (i64 u64 u8 u32)
end Go.Proofs.YtifafejidnjckaaGreat
namespace Go.Proofs.YtifafejidnjckaaGreat
open Go Go.R
open Go.IntKind (i64 u64 u8 u32)
def kn:cu:=gj [0,1,4,5,6,7,8,9,10,11,12,13,14,15,16,17,18,19,20,21,22,32,45,59,84,94,120,133,147] [4,10,18,20] [536870904,536870898,536870882,536870850,536870786,534773634,536870786,536870786,536870722,532676418,536870722,536870466,536869954,536868930,528480322,536868930,536868930,536870466,536870722,536868811,536864715,520087499,536864715,536856523,503302091,536856523,536856523,536854475,536821707,469712843,536821707,536821707,536788939,536657867,402440139,536657867,536395723,535871435,534822859,266387403,534822859,534822859,536395723,536657867,536870907] [(42,[(21,none,0)]),(44,[(18,some 0,0)])] [(3,[(7,none,4)]),(12,[(11,none,1)]),(32,[(18,some 0,4)]),(37,[(21,none,1)])]
def ax.l0 (m:Nat)(x0:(List Int)):Nat→(List Int)→Int→Option ((List Int) × Int)
 | 0,_,_=>none
 | k+1,bV,i0=>if (decide (i0<(x0.length:Int)))=true then ((ix x0 i0).bind fun v0=>(ix bV v0).bind fun v1=>ax.l0 m x0 k (bV.set v0.toNat i0) (i64.wrap (i0+(1:Int)))) else (some ((bV,i0)))
def ax.l2 (m:Nat)(aG:List Int)(v3:ah):Nat→(List Int)→Int→Option ((List Int) × Int)
 | 0,_,_=>none
 | k+1,cg,k0=>if (decide (k0<(v3.args.length:Int)))=true then ((ix v3.args k0).bind fun v4=>(ix aG v4).bind fun v5=>(app 8 cg ([v5])).bind fun x2=>ax.l2 m aG v3 k x2 (i64.wrap (k0+(1:Int)))) else (some ((cg,k0)))
def ax.l1 (m:Nat)(l0:List ah)(x0:(List Int))(aG:List Int):Nat→(List ah)→Int→Option ((List ah) × Int)
 | 0,_,_=>none
 | k+1,gk,i2=>if (decide (i2<(x0.length:Int)))=true then ((ix x0 i2).bind fun v2=>(ix l0 v2).bind fun v3=>(ax.l2 m aG v3 m ([]:List Int) (0:Int)).bind fun bZ=>match bZ with | (iV,k1)=>(app 56 gk [ah.mk v3.kind v3.int v3.label iV]).bind fun x3=>ax.l1 m l0 x0 aG k x3 (i64.wrap (i2+(1:Int)))) else (some ((gk,i2)))
def ax.l4 (m:Nat)(x4:(List Int))(i4:Int):Nat→(List ah)→Int→Option ((List ah) × Int)
 | 0,_,_=>none
 | k+1,fq,k2=>(ix fq i4).bind fun v6=>if (decide (k2<(v6.args.length:Int)))=true then ((ix fq i4).bind fun v7=>(ix fq i4).bind fun v8=>(ix v8.args k2).bind fun v9=>(ix x4 v9).bind fun v10=>(ix v7.args k2).bind fun v11=>ax.l4 m x4 i4 k (fq.set i4.toNat (ah.mk v7.kind v7.int v7.label (v7.args.set k2.toNat v10))) (i64.wrap (k2+(1:Int)))) else (some ((fq,k2)))
def ax.l3 (m:Nat)(x4:(List Int)):Nat→(List ah)→Int→Option ((List ah) × Int)
 | 0,_,_=>none
 | k+1,jI,i4=>if (decide (i4<(jI.length:Int)))=true then ((ax.l4 m x4 i4 m jI (0:Int)).bind fun kY=>match kY with | (IS,k3)=>ax.l3 m x4 k IS (i64.wrap (i4+(1:Int)))) else (some ((jI,i4)))
def ax.l5 (m:Nat)(x5:(List Int)):Nat→(List Int)→Int→Option ((List Int) × Int)
 | 0,_,_=>none
 | k+1,gB,i6=>if (decide (i6<(x5.length:Int)))=true then ((ix x5 i6).bind fun v12=>(ix gB v12).bind fun Lh=>ax.l5 m x5 k (gB.set v12.toNat i6) (i64.wrap (i6+(1:Int)))) else (some ((gB,i6)))
def ax.l7 (m:Nat)(dp:List Int)(oV:ah):Nat→(List Int)→Int→Option ((List Int) × Int)
 | 0,_,_=>none
 | k+1,jJ,k4=>if (decide (k4<(oV.args.length:Int)))=true then ((ix oV.args k4).bind fun nJ=>(ix dp nJ).bind fun Po=>(app 8 jJ ([Po])).bind fun x6=>ax.l7 m dp oV k x6 (i64.wrap (k4+(1:Int)))) else (some ((jJ,k4)))
def ax.l6 (m:Nat)(cy:List ah)(x5:(List Int))(dp:List Int):Nat→Int→(List ah)→Int→Option (Int × (List ah) × Int)
 | 0,_,_,_=>none
 | k+1,i8,iG,ov=>if (decide (i8<(x5.length:Int)))=true then ((ix x5 i8).bind fun Cd=>(ix cy Cd).bind fun oV=>(ax.l7 m dp oV m ([]:List Int) (0:Int)).bind fun IT=>match IT with | (Bj,k5)=>(app 56 iG ([(ah.mk oV.kind oV.int oV.label Bj)])).bind fun x7=>ax.l6 m cy x5 dp k (i64.wrap (i8+(1:Int))) x7 ov) else (some ((i8,iG,ov)))
def ax.f (m:Nat)(l0:List ah)(iD:Int):Option (aZ):=(a6.f m l0 iD).bind fun x0=>(pX 8 (l0.length:Int) (0:Int)).bind fun x1=>(ax.l0 m x0 m x1 (0:Int)).bind fun bo=>match bo with | (aG,i1)=>(ax.l1 m l0 x0 aG m ([]:List ah) (0:Int)).bind fun fC=>match fC with | (vO,i3)=>(ak.f m vO).bind fun x4=>(ax.l3 m x4 m vO (0:Int)).bind fun du=>match du with | (cy,i5)=>(a6.f m cy (0:Int)).bind fun x5=>(ax.l5 m x5 m aG (0:Int)).bind fun vz=>match vz with | (dp,i7)=>(ax.l6 m cy x5 dp m (0:Int) ([]:List ah) (0:Int)).bind fun ME=>match ME with | (i9,Lr,IU)=>some (aZ.mk Lr IU)
def ax.fin (L:Mem)(r:aZ)(s:St):Prop:=∃av,aP Tryz.prog (s.open kn) Tryz.f112.results.toList=some av∧CR s.h av (.agg [af.fz r.nodes,.int .i64 r.root])
def RA (cf:CallF)(m:Nat):Prop:=∀(l0:List ah) (iD:Int) (r:aZ),ax.f m l0 iD=some r→∀h xs,pk xs [af.fz l0,.int .i64 iD]→cf 112 xs h=some (.agg [af.fz r.nodes,.int .i64 r.root],h)
section
variable {cf:CallF}{m:Nat}
theorem ax.cd (L:Mem)(l0:List ah)(x0:(List Int))   : b8 Tryz.prog cf kn m (sub [1,1,1,1,0,1,0,0] (br Tryz.f112)) (fun k (σ:(List Int) × Int)=>ax.l0 m x0 k σ.1 σ.2) (fun σ s=>match σ with | (bV,i0)=>∃dA h1,s=⟨af.fz l0 :: .any :: .lp 4 0::aa.fz x0 :: .rs dA 0 bV.length 1 :: .rs (0) 0 (([]:List ah).length) 4 :: .int .i64 i0::Qx [],[some [.nils,.int .i64 (0:Int)],none,none,none],h1⟩∧Has h1 (((0),.sl (([]:List ah).length) 4 (db.l (aY ([]:List ah) ([]:List Nat))))::(dA,.sl bV.length 1 (aa.l bV))::L)) (fun out e s=>(e = .exit 0∧∃bV i0,(bV,i0)=out∧∃qT Ot dA h1,s=⟨af.fz l0 :: .any :: .lp 4 0::aa.fz x0 :: .rs dA 0 bV.length 1 :: .rs (0) 0 (([]:List ah).length) 4::qT::u5 (Ot::zV []),[some [.nils,.int .i64 (0:Int)],none,none,none],h1⟩∧Has h1 (((0),.sl (([]:List ah).length) 4 (db.l (aY ([]:List ah) ([]:List Nat))))::(dA,.sl bV.length 1 (aa.l bV))::L))):=by
 refine iO (fun _=>rfl) ?_
 rintro k ⟨bV,i0⟩ s out ⟨dA,h1,rfl,o2⟩ H
 have H:ax.l0 m x0 (k+1) bV i0=some out:=H
 refine qq <| qq <| q0 <| qc H (fun c0 H=>?_) (fun c0 H=>?_)
 ·refine qk <| qq <| qb 1 ?_
  obtain⟨v0,e3,H⟩:=aS H
  obtain⟨v1,e4,H⟩:=aS H
  obtain⟨h2,e5,o3⟩:=en (P:=Tryz.prog) (tf:=3) (E:=aa) (l:=bV) (q:=1) (v:=i0) (x:=.int .i64 i0) o2 rfl Z3 e4 rfl rfl
  exact qr [.v 3 (bO (k:=.i64) (E:=aa) (l:=x0) dt e3),.v 4 (cF  (E:=aa) (l:=x0) h1 A3 e3 rfl),.v 6 (aJ (k:=.i64) (E:=aa) (l:=bV) (q:=1) dt o2 rfl e4),.w 7 e5] <| q0 <| ⟨(bV.set v0.toNat i0,i64.wrap (i0+(1:Int))),⟨dA,h2,(acq (b:=⟨af.fz l0 :: .any :: .lp 4 0::aa.fz x0 :: .rs dA 0 bV.length 1 :: .rs (0) 0 (([]:List ah).length) 4 :: .int .i64 (i64.wrap (i0+(1:Int)))::Qx [],[some [.nils,.int .i64 (0:Int)],none,none,none],h2⟩) (by kernel_rfl) (by simp only [abF])),(by have o:Has h2 (((0),.sl (([]:List ah).length) 4 (db.l (aY ([]:List ah) ([]:List Nat))))::(dA,.sl bV.length 1 (aa.l (bV.set v0.toNat i0)))::L):=o3; simpa only [abF] using o)⟩,H⟩
 ·exact qx 0 <| ⟨rfl,bV,i0,oi H,.int .i64 i0,.bool (decide (i0<(x0.length:Int))),dA,h1,by kernel_rfl,o2⟩
theorem ax.mj (L:Mem)(l0:List ah)(x0:(List Int))(ca:Nat)(aG:List Int)(ca:Nat)(dj:Nat)(gk:List ah)(i2:Int)(dj:Nat)(dk:List Nat)(v3:ah)   : b8 Tryz.prog cf kn m (sub [1,1,1,1,1,0,1,0,0,1,0,0,1,1,0,1,0,0] (br Tryz.f112)) (fun k (σ:(List Int) × Int)=>ax.l2 m aG v3 k σ.1 σ.2) (fun σ s=>match σ with | (cg,k0)=>∃eP h5,s=⟨af.fz l0 :: .any :: .lp 4 0::aa.fz x0 :: .rs ca 0 aG.length 1 :: .rs dj 0 gk.length 4 :: .any :: .int .i64 i2 :: .lp 10 0 :: .rs eP 0 cg.length 1 :: .int .i64 k0::Qv [],[some [.nils,.int .i64 (0:Int)],some [.int .i64 v3.kind,.int .i64 v3.int,.str v3.label,aa.fz v3.args],none,none],h5⟩∧Has h5 ((eP,.sl cg.length 1 (aa.l cg))::(dj,.sl gk.length 4 (db.l (aY gk dk)))::(ca,.sl aG.length 1 (aa.l aG))::(eR gk dk++L))) (fun out e s=>(e = .exit 4∧∃cg k0,(cg,k0)=out∧∃N4 UO eP h5,s=⟨af.fz l0 :: .any :: .lp 4 0::aa.fz x0 :: .rs ca 0 aG.length 1 :: .rs dj 0 gk.length 4 :: .any :: .int .i64 i2 :: .lp 10 0 :: .rs eP 0 cg.length 1::N4::oQ (UO::tu []),[some [.nils,.int .i64 (0:Int)],some [.int .i64 v3.kind,.int .i64 v3.int,.str v3.label,aa.fz v3.args],none,none],h5⟩∧Has h5 ((eP,.sl cg.length 1 (aa.l cg))::(dj,.sl gk.length 4 (db.l (aY gk dk)))::(ca,.sl aG.length 1 (aa.l aG))::(eR gk dk++L)))):=by
 refine iO (fun _=>rfl) ?_
 rintro k ⟨cg,k0⟩ s out ⟨eP,h5,rfl,o7⟩ H
 have H:ax.l2 m aG v3 (k+1) cg k0=some out:=H
 refine qq <| qq <| q0 <| qc H (fun c2 H=>?_) (fun c2 H=>?_)
 ·refine qk <| qq <| qb 5 ?_
  obtain⟨v4,e9,H⟩:=aS H
  obtain⟨v5,lg,H⟩:=aS H
  obtain⟨x2,mf,H⟩:=aS H
  obtain⟨gd,h6,nI,o8⟩:=fH (P:=Tryz.prog) (E:=aa) (l:=cg) (q:=0) (t2:=22) (x:=.fz [.int .i64 v5] 1 true) (l2:=([v5])) dt o7 rfl (by kernel_rfl) rfl mf
  exact qr [.v 5 (bO (k:=.i64) (E:=aa) (l:=v3.args) dt e9),.v 6 (cF  (E:=aa) (l:=v3.args) h5 A3 e9 rfl),.v 7 (aJ (k:=.i64) (E:=aa) (l:=aG) (q:=2) dt o7 rfl lg),.v 8 (bm  (E:=aa) (l:=aG) (q:=2) o7 rfl A3 lg rfl),.a 10 nI] <| q0 <| ⟨(x2,i64.wrap (k0+(1:Int))),⟨gd,h6,by kernel_rfl,o8⟩,H⟩
 ·exact qx 4 <| ⟨rfl,cg,k0,oi H,.int .i64 k0,.bool (decide (k0<(v3.args.length:Int))),eP,h5,by kernel_rfl,o7⟩
theorem ax.gN (L:Mem)(l0:List ah)(x0:(List Int))(ca:Nat)(aG:List Int)(ca:Nat)   : b8 Tryz.prog cf kn m (sub [1,1,1,1,1,0,1,0,0] (br Tryz.f112)) (fun k (σ:(List ah) × Int)=>ax.l1 m l0 x0 aG k σ.1 σ.2) (fun σ s=>match σ with | (gk,i2)=>∃dj dk h4,s=⟨af.fz l0 :: .any :: .lp 4 0::aa.fz x0 :: .rs ca 0 aG.length 1 :: .rs dj 0 gk.length 4 :: .any :: .int .i64 i2::Qw [],[some [.nils,.int .i64 (0:Int)],none,none,none],h4⟩∧Has h4 ((dj,.sl gk.length 4 (db.l (aY gk dk)))::(ca,.sl aG.length 1 (aa.l aG))::(eR gk dk++L))) (fun out e s=>(e = .exit 2∧∃gk i2,(gk,i2)=out∧∃kX vk wS UP dj dk h4,s=⟨kX :: .any :: .lp 4 0::vk :: .rs ca 0 aG.length 1 :: .rs dj 0 gk.length 4 :: .any::wS::u5 (UP::GR []),[some [.nils,.int .i64 (0:Int)],none,none,none],h4⟩∧Has h4 ((dj,.sl gk.length 4 (db.l (aY gk dk)))::(ca,.sl aG.length 1 (aa.l aG))::(eR gk dk++L)))):=by
 refine iO (fun _=>rfl) ?_
 rintro k ⟨gk,i2⟩ s out ⟨dj,dk,h4,rfl,o5⟩ H
 have H:ax.l1 m l0 x0 aG (k+1) gk i2=some out:=H
 refine qq <| qq <| q0 <| qc H (fun c1 H=>?_) (fun c1 H=>?_)
 ·refine qk <| qq <| qb 3 <| qq ?_
  obtain⟨v2,e7,H⟩:=aS H
  obtain⟨v3,e8,H⟩:=aS H
  refine qr [.v 3 (bO (k:=.i64) (E:=aa) (l:=x0) dt e7),.v 4 (cF  (E:=aa) (l:=x0) h4 A3 e7 rfl),.v 5 (bO (k:=.i64) (E:=af) (l:=l0) kI e8),.v 6 (fm  (E:=af) (l:=l0) h4 rA rB e8)] <| qq <| q0 ?_
  have o6:Has h4 ((((0)),.sl (([]:List Int).length) 1 (aa.l ([]:List Int)))::(dj,.sl gk.length 4 (db.l (aY gk dk)))::(ca,.sl aG.length 1 (aa.l aG))::(eR gk dk++L)):=Has.nil o5 1
  refine qq <| qq <| q0 <| qb 4 ?_
  obtain⟨bZ,oJ,H⟩:=aS H
  refine ql (ax.mj L l0 x0 ca aG ca dj gk i2 dj dk v3   (([]:List Int),(0:Int)) _ _ ⟨((0)),h4,by kernel_rfl,o6⟩ oJ) ?_
  rintro e s ⟨rfl,iV,k1,rfl,g2,g3,fS,h7,rfl,o9⟩
  try dsimp only at H
  refine q1 ?_
  obtain⟨x3,uc,H⟩:=aS H
  obtain⟨gF,vo,h8,wD,qU⟩:=H4 (P:=Tryz.prog) (t2:=23) (pre:=[(ca,.sl aG.length 1 (aa.l aG))]) (ns:=gk) (ids:=dk) (kind:=v3.kind) (int:=v3.int) (label:=v3.label) (args:=iV) (x:=.fz [.int .i64 v3.kind,.int .i64 v3.int,.str v3.label,.rs fS 0 iV.length 1] 1 true) kI (Has.front (Has.front (Has.front o9 2 rfl) 1 rfl) 2 rfl) (by kernel_rfl) rfl uc
  exact qr [.a 3 wD] <| q0 <| ⟨(x3,i64.wrap (i2+(1:Int))),⟨gF,vo,h8,by kernel_rfl,qU⟩,H⟩
 ·exact qx 2 <| ⟨rfl,gk,i2,oi H,af.fz l0,aa.fz x0,.int .i64 i2,.bool (decide (i2<(x0.length:Int))),dj,dk,h4,by kernel_rfl,o5⟩
theorem ax.vL (L:Mem)(ca:Nat)(aG:List Int)(ca:Nat)(x4:(List Int))(i4:Int)   : b8 Tryz.prog cf kn m (sub [1,1,1,1,1,1,1,0,1,0,0,1,0,0,1,0,0] (br Tryz.f112)) (fun k (σ:(List ah) × Int)=>ax.l4 m x4 i4 k σ.1 σ.2) (fun σ s=>match σ with | (fq,k2)=>∃b9 lh h11,s=⟨.any :: .any :: .lp 4 0 :: .any :: .rs ca 0 aG.length 1 :: .rs b9 0 fq.length 4::tu (aa.fz x4 :: .int .i64 i4 :: .int .i64 k2::KO []),[some [.nils,.int .i64 (0:Int)],none,none,none],h11⟩∧Has h11 ((b9,.sl fq.length 4 (db.l (aY fq lh)))::(ca,.sl aG.length 1 (aa.l aG))::(eR fq lh++L))) (fun out e s=>(e = .exit 8∧∃fq k2,(fq,k2)=out∧∃C7 UQ b9 lh h11,s=⟨.any :: .any :: .lp 4 0 :: .any :: .rs ca 0 aG.length 1 :: .rs b9 0 fq.length 4::tu (aa.fz x4 :: .int .i64 i4::C7::qL (UQ::j5 [])),[some [.nils,.int .i64 (0:Int)],none,none,none],h11⟩∧Has h11 ((b9,.sl fq.length 4 (db.l (aY fq lh)))::(ca,.sl aG.length 1 (aa.l aG))::(eR fq lh++L)))):=by
 refine iO (fun _=>rfl) ?_
 rintro k ⟨fq,k2⟩ s out ⟨b9,lh,h11,rfl,lP⟩ H
 have H:ax.l4 m x4 i4 (k+1) fq k2=some out:=H
 refine qq <| qq ?_
 obtain⟨v6,EI,H⟩:=aS H
 refine qr [.v 3 (aJ (k:=.i64) (E:=db) (l:=(aY fq lh)) (q:=0) kI lP rfl (j6 EI)),.v 5 (yT  (E:=db) (l:=(aY fq lh)) (q:=0) (off:=3) lP rfl KY (j6 EI) rfl)] <| qc H (fun c4 H=>?_) (fun c4 H=>?_)
 ·refine qk <| qq <| qb 9 ?_
  obtain⟨v7,zx,H⟩:=aS H
  obtain⟨v8,EH,H⟩:=aS H
  obtain⟨v9,Gd,H⟩:=aS H
  obtain⟨v10,GW,H⟩:=aS H
  obtain⟨v11,IG,H⟩:=aS H
  obtain⟨h12,GV,vH⟩:=NI (P:=Tryz.prog) (tf:=3) (pre:=[(ca,.sl aG.length 1 (aa.l aG))]) (v:=v10) lP Z3 zx IG
  refine qr [.v 2 (aJ (k:=.i64) (E:=db) (l:=(aY fq lh)) (q:=0) kI lP rfl (j6 zx)),.v 4 (yT  (E:=db) (l:=(aY fq lh)) (q:=0) (off:=3) lP rfl KY (j6 zx) rfl),.v 9 (aJ (k:=.i64) (E:=db) (l:=(aY fq lh)) (q:=0) kI lP rfl (j6 EH)),.v 11 (yT  (E:=db) (l:=(aY fq lh)) (q:=0) (off:=3) lP rfl KY (j6 EH) rfl),.v 13 (aJ (k:=.i64) (E:=aa) (l:=v8.args) dt lP (rW (pre:=[(b9,.sl fq.length 4 (db.l (aY fq lh))),(ca,.sl aG.length 1 (aa.l aG))]) (ids:=lh) EH) Gd),.v 14 (bm  (E:=aa) (l:=v8.args) lP (rW (pre:=[(b9,.sl fq.length 4 (db.l (aY fq lh))),(ca,.sl aG.length 1 (aa.l aG))]) (ids:=lh) EH) A3 Gd rfl),.v 15 (bO (k:=.i64) (E:=aa) (l:=x4) dt GW),.v 16 (cF  (E:=aa) (l:=x4) h11 A3 GW rfl),.v 17 (aJ (k:=.i64) (E:=aa) (l:=v7.args) dt lP (rW (pre:=[(b9,.sl fq.length 4 (db.l (aY fq lh))),(ca,.sl aG.length 1 (aa.l aG))]) (ids:=lh) zx) IG),.w 18 GV] ?_
  exact q0 <| ⟨(fq.set i4.toNat (ah.mk v7.kind v7.int v7.label (v7.args.set k2.toNat v10)),i64.wrap (k2+(1:Int))),⟨b9,lh,h12,(acq (b:=⟨.any :: .any :: .lp 4 0 :: .any :: .rs ca 0 aG.length 1 :: .rs b9 0 fq.length 4::tu (aa.fz x4 :: .int .i64 i4 :: .int .i64 (i64.wrap (k2+(1:Int)))::KO []),[some [.nils,.int .i64 (0:Int)],none,none,none],h12⟩) (by kernel_rfl) (by simp only [abF])),(by have o:Has h12 ((b9,.sl fq.length 4 (db.l (aY (fq.set i4.toNat (ah.mk v7.kind v7.int v7.label (v7.args.set k2.toNat v10))) lh)))::(ca,.sl aG.length 1 (aa.l aG))::(eR (fq.set i4.toNat (ah.mk v7.kind v7.int v7.label (v7.args.set k2.toNat v10))) lh++L)):=vH; simpa only [abF] using o)⟩,H⟩
 ·exact qx 8 <| ⟨rfl,fq,k2,oi H,.int .i64 k2,.bool (decide (k2<(v6.args.length:Int))),b9,lh,h11,by kernel_rfl,lP⟩
theorem ax.vK (L:Mem)(ca:Nat)(aG:List Int)(ca:Nat)(x4:(List Int))   : b8 Tryz.prog cf kn m (sub [1,1,1,1,1,1,1,0,1,0,0] (br Tryz.f112)) (fun k (σ:(List ah) × Int)=>ax.l3 m x4 k σ.1 σ.2) (fun σ s=>match σ with | (jI,i4)=>∃kB r9 h10,s=⟨.any :: .any :: .lp 4 0 :: .any :: .rs ca 0 aG.length 1 :: .rs kB 0 jI.length 4::tu (aa.fz x4 :: .int .i64 i4::HZ []),[some [.nils,.int .i64 (0:Int)],none,none,none],h10⟩∧Has h10 ((kB,.sl jI.length 4 (db.l (aY jI r9)))::(ca,.sl aG.length 1 (aa.l aG))::(eR jI r9++L))) (fun out e s=>(e = .exit 6∧∃jI i4,(jI,i4)=out∧∃pK vl UR kB r9 h10,s=⟨.any :: .any :: .lp 4 0 :: .any :: .rs ca 0 aG.length 1 :: .rs kB 0 jI.length 4::tu (pK::vl::qL (UR::qJ [])),[some [.nils,.int .i64 (0:Int)],none,none,none],h10⟩∧Has h10 ((kB,.sl jI.length 4 (db.l (aY jI r9)))::(ca,.sl aG.length 1 (aa.l aG))::(eR jI r9++L)))):=by
 refine iO (fun _=>rfl) ?_
 rintro k ⟨jI,i4⟩ s out ⟨kB,r9,h10,rfl,s6⟩ H
 have H:ax.l3 m x4 (k+1) jI i4=some out:=H
 refine qq <| qq <| q0 <| qc H (fun c3 H=>?_) (fun c3 H=>?_)
 ·refine qk <| qq <| qb 7 <| qq <| q0 <| qb 8 ?_
  obtain⟨kY,IE,H⟩:=aS H
  refine ql (ax.vL L ca aG ca x4 i4   (jI,(0:Int)) _ _ ⟨kB,r9,h10,by kernel_rfl,s6⟩ IE) ?_
  rintro e s ⟨rfl,IS,k3,rfl,g8,g9,fW,US,h13,rfl,xR⟩
  try dsimp only at H
  exact q0 <| ⟨(IS,i64.wrap (i4+(1:Int))),⟨fW,US,h13,by kernel_rfl,xR⟩,H⟩
 ·exact qx 6 <| ⟨rfl,jI,i4,oi H,aa.fz x4,.int .i64 i4,.bool (decide (i4<(jI.length:Int))),kB,r9,h10,by kernel_rfl,s6⟩
theorem ax.IK (L:Mem)(gG:Nat)(cy:List ah)(gG:Nat)(iv:List Nat)(x5:(List Int))   : b8 Tryz.prog cf kn m (sub [1,1,1,1,1,1,1,1,1,0,1,0,0] (br Tryz.f112)) (fun k (σ:(List Int) × Int)=>ax.l5 m x5 k σ.1 σ.2) (fun σ s=>match σ with | (gB,i6)=>∃fR h15,s=⟨.any :: .any :: .lp 4 0 :: .any :: .rs fR 0 gB.length 1 :: .rs gG 0 cy.length 4::qK (aa.fz x5 :: .int .i64 i6::qM []),[some [.nils,.int .i64 (0:Int)],none,none,none],h15⟩∧Has h15 ((gG,.sl cy.length 4 (db.l (aY cy iv)))::(fR,.sl gB.length 1 (aa.l gB))::(eR cy iv++L))) (fun out e s=>(e = .exit 10∧∃gB i6,(gB,i6)=out∧∃Ol IP fR h15,s=⟨.any :: .any :: .lp 4 0 :: .any :: .rs fR 0 gB.length 1 :: .rs gG 0 cy.length 4::qK (aa.fz x5::Ol::u4 [IP,.any,.any]),[some [.nils,.int .i64 (0:Int)],none,none,none],h15⟩∧Has h15 ((gG,.sl cy.length 4 (db.l (aY cy iv)))::(fR,.sl gB.length 1 (aa.l gB))::(eR cy iv++L)))):=by
 refine iO (fun _=>rfl) ?_
 rintro k ⟨gB,i6⟩ s out ⟨fR,h15,rfl,zw⟩ H
 have H:ax.l5 m x5 (k+1) gB i6=some out:=H
 refine qq <| qq <| q0 <| qc H (fun c5 H=>?_) (fun c5 H=>?_)
 ·refine qk <| qq <| qb 11 ?_
  obtain⟨v12,Lj,H⟩:=aS H
  obtain⟨Lh,Lk,H⟩:=aS H
  obtain⟨h16,Ll,xS⟩:=en (P:=Tryz.prog) (tf:=3) (E:=aa) (l:=gB) (q:=1) (v:=i6) (x:=.int .i64 i6) zw rfl Z3 Lk rfl rfl
  exact qr [.v 3 (bO (k:=.i64) (E:=aa) (l:=x5) dt Lj),.v 4 (cF  (E:=aa) (l:=x5) h15 A3 Lj rfl),.v 6 (aJ (k:=.i64) (E:=aa) (l:=gB) (q:=1) dt zw rfl Lk),.w 7 Ll] <| q0 <| ⟨(gB.set v12.toNat i6,i64.wrap (i6+(1:Int))),⟨fR,h16,(acq (b:=⟨.any :: .any :: .lp 4 0 :: .any :: .rs fR 0 gB.length 1 :: .rs gG 0 cy.length 4::qK (aa.fz x5 :: .int .i64 (i64.wrap (i6+(1:Int)))::qM []),[some [.nils,.int .i64 (0:Int)],none,none,none],h16⟩) (by kernel_rfl) (by simp only [abF])),(by have o:Has h16 ((gG,.sl cy.length 4 (db.l (aY cy iv)))::(fR,.sl gB.length 1 (aa.l (gB.set v12.toNat i6)))::(eR cy iv++L)):=xS; simpa only [abF] using o)⟩,H⟩
 ·exact qx 10 <| ⟨rfl,gB,i6,oi H,.int .i64 i6,.bool (decide (i6<(x5.length:Int))),fR,h15,by kernel_rfl,zw⟩
theorem ax.RB (L:Mem)(gG:Nat)(cy:List ah)(gG:Nat)(iv:List Nat)(x5:(List Int))(gR:Nat)(dp:List Int)(gR:Nat)(dm:Nat)(i8:Int)(iG:List ah)(ov:Int)(dm:Nat)(Cd:Int)(oV:ah)(J8:ix cy Cd=some oV)   : b8 Tryz.prog cf kn m (sub [1,1,1,1,1,1,1,1,1,1,1,0,1,0,0,1,0,0,1,1,0,1,0,0] (br Tryz.f112)) (fun k (σ:(List Int) × Int)=>ax.l7 m dp oV k σ.1 σ.2) (fun σ s=>match σ with | (jJ,k4)=>∃b6 h19,s=⟨.any :: .any :: .lp 4 0 :: .any :: .rs gR 0 dp.length 1 :: .rs gG 0 cy.length 4::qK (aa.fz x5 :: .any :: .lp 18 0 :: .int .i64 i8 :: .lp 20 0 :: .rs b6 0 jJ.length 1 :: .int .i64 k4::qK []),[some [.nils,.int .i64 (0:Int)],none,some [.rs dm 0 iG.length 4,.int .i64 ov],some [.int .i64 oV.kind,.int .i64 oV.int,.str oV.label,.rs (Mq iv Cd) 0 oV.args.length 1]],h19⟩∧Has h19 ((b6,.sl jJ.length 1 (aa.l jJ))::(dm,.sl iG.length 4 (af.l iG))::(gG,.sl cy.length 4 (db.l (aY cy iv)))::(gR,.sl dp.length 1 (aa.l dp))::(eR cy iv++L))) (fun out e s=>(e = .exit 14∧∃jJ k4,(jJ,k4)=out∧∃si RC b6 h19,s=⟨.any :: .any :: .lp 4 0 :: .any :: .rs gR 0 dp.length 1 :: .rs gG 0 cy.length 4::qK (aa.fz x5 :: .any :: .lp 18 0 :: .int .i64 i8 :: .lp 20 0 :: .rs b6 0 jJ.length 1::si::zV [RC]),[some [.nils,.int .i64 (0:Int)],none,some [.rs dm 0 iG.length 4,.int .i64 ov],some [.int .i64 oV.kind,.int .i64 oV.int,.str oV.label,.rs (Mq iv Cd) 0 oV.args.length 1]],h19⟩∧Has h19 ((b6,.sl jJ.length 1 (aa.l jJ))::(dm,.sl iG.length 4 (af.l iG))::(gG,.sl cy.length 4 (db.l (aY cy iv)))::(gR,.sl dp.length 1 (aa.l dp))::(eR cy iv++L)))):=by
 refine iO (fun _=>rfl) ?_
 rintro k ⟨jJ,k4⟩ s out ⟨b6,h19,rfl,GY⟩ H
 have H:ax.l7 m dp oV (k+1) jJ k4=some out:=H
 refine qq <| qq <| q0 <| qc H (fun c7 H=>?_) (fun c7 H=>?_)
 ·refine qk <| qq <| qb 15 ?_
  obtain⟨nJ,Pp,H⟩:=aS H
  obtain⟨Po,Pv,H⟩:=aS H
  obtain⟨x6,Rm,H⟩:=aS H
  obtain⟨cE,h20,Rn,IL⟩:=fH (P:=Tryz.prog) (E:=aa) (l:=jJ) (q:=0) (t2:=22) (x:=.fz [.int .i64 Po] 1 true) (l2:=([Po])) dt GY rfl (by kernel_rfl) rfl Rm
  exact qr [.v 5 (aJ (k:=.i64) (E:=aa) (l:=oV.args) dt GY (rW (pre:=[(b6,.sl jJ.length 1 (aa.l jJ)),(dm,.sl iG.length 4 (af.l iG)),(gG,.sl cy.length 4 (db.l (aY cy iv))),(gR,.sl dp.length 1 (aa.l dp))]) (ids:=iv) J8) Pp),.v 6 (bm  (E:=aa) (l:=oV.args) GY (rW (pre:=[(b6,.sl jJ.length 1 (aa.l jJ)),(dm,.sl iG.length 4 (af.l iG)),(gG,.sl cy.length 4 (db.l (aY cy iv))),(gR,.sl dp.length 1 (aa.l dp))]) (ids:=iv) J8) A3 Pp rfl),.v 7 (aJ (k:=.i64) (E:=aa) (l:=dp) (q:=3) dt GY rfl Pv),.v 8 (bm  (E:=aa) (l:=dp) (q:=3) GY rfl A3 Pv rfl),.a 10 Rn] <| q0 <| ⟨(x6,i64.wrap (k4+(1:Int))),⟨cE,h20,by kernel_rfl,IL⟩,H⟩
 ·exact qx 14 <| ⟨rfl,jJ,k4,oi H,.int .i64 k4,.bool (decide (k4<(oV.args.length:Int))),b6,h19,by kernel_rfl,GY⟩
theorem ax.IJ (L:Mem)(gG:Nat)(cy:List ah)(gG:Nat)(iv:List Nat)(x5:(List Int))(gR:Nat)(dp:List Int)(gR:Nat)   : b8 Tryz.prog cf kn m (sub [1,1,1,1,1,1,1,1,1,1,1,0,1,0,0] (br Tryz.f112)) (fun k (σ:Int × (List ah) × Int)=>ax.l6 m cy x5 dp k σ.1 σ.2.1 σ.2.2) (fun σ s=>match σ with | (i8,iG,ov)=>∃dm h18,s=⟨.any :: .any :: .lp 4 0 :: .any :: .rs gR 0 dp.length 1 :: .rs gG 0 cy.length 4::qK (aa.fz x5 :: .any :: .lp 18 0 :: .int .i64 i8::qL []),[some [.nils,.int .i64 (0:Int)],none,some [.rs dm 0 iG.length 4,.int .i64 ov],none],h18⟩∧Has h18 ((dm,.sl iG.length 4 (af.l iG))::(gG,.sl cy.length 4 (db.l (aY cy iv)))::(gR,.sl dp.length 1 (aa.l dp))::(eR cy iv++L))) (fun out e s=>(e = .exit 12∧∃i8 iG ov,(i8,iG,ov)=out∧∃ze vm UT Iq RD dm h18,s=⟨.any :: .any :: .lp 4 0 :: .any::ze::vm::qK (UT :: .any :: .lp 18 0::Iq::Mp [RD,.any]),[some [.nils,.int .i64 (0:Int)],none,some [.rs dm 0 iG.length 4,.int .i64 ov],none],h18⟩∧Has h18 ((dm,.sl iG.length 4 (af.l iG))::(gG,.sl cy.length 4 (db.l (aY cy iv)))::(gR,.sl dp.length 1 (aa.l dp))::(eR cy iv++L)))):=by
 refine iO (fun _=>rfl) ?_
 rintro k ⟨i8,iG,ov⟩ s out ⟨dm,h18,rfl,wX⟩ H
 have H:ax.l6 m cy x5 dp (k+1) i8 iG ov=some out:=H
 refine qq <| qq <| q0 <| qc H (fun c6 H=>?_) (fun c6 H=>?_)
 ·refine qk <| qq <| qb 13 <| qq ?_
  obtain⟨Cd,Og,H⟩:=aS H
  obtain⟨oV,J8,H⟩:=aS H
  refine qr [.v 3 (bO (k:=.i64) (E:=aa) (l:=x5) dt Og),.v 4 (cF  (E:=aa) (l:=x5) h18 A3 Og rfl),.v 5 (aJ (k:=.i64) (E:=db) (l:=(aY cy iv)) (q:=1) kI wX rfl (j6 J8)),.v 6 (KG  (E:=db) (l:=(aY cy iv)) (q:=1) wX rfl rA rB (j6 J8))] <| qq <| q0 ?_
  have GX:Has h18 ((((((0)))),.sl (([]:List Int).length) 1 (aa.l ([]:List Int)))::(dm,.sl iG.length 4 (af.l iG))::(gG,.sl cy.length 4 (db.l (aY cy iv)))::(gR,.sl dp.length 1 (aa.l dp))::(eR cy iv++L)):=Has.nil wX 1
  refine qq <| qq <| q0 <| qb 14 ?_
  obtain⟨IT,Oh,H⟩:=aS H
  refine ql (ax.RB L gG cy gG iv x5 gR dp gR dm i8 iG ov dm Cd oV J8   (([]:List Int),(0:Int)) _ _ ⟨((((0)))),h18,by kernel_rfl,GX⟩ Oh) ?_
  rintro e s ⟨rfl,Bj,k5,rfl,g15,g16,pP,h21,rfl,Pu⟩
  try dsimp only at H
  refine qq ?_
  obtain⟨h22,Pt,ot⟩:=mO (E:=aa) (l:=Bj) (q:=0) Pu rfl
  refine J5 [.a 0 Pt] [] ?_
  obtain⟨x7,Rj,H⟩:=aS H
  obtain⟨II,h23,Ln,J9⟩:=fH (P:=Tryz.prog) (E:=af) (l:=iG) (q:=0) (t2:=23) (x:=.fz [.int .i64 oV.kind,.int .i64 oV.int,.str oV.label,aa.fz Bj] 1 true) (l2:=([(ah.mk oV.kind oV.int oV.label Bj)])) kI ot rfl (by kernel_rfl) rfl Rj
  exact qr [.a 4 Ln] <| q0 <| ⟨(i64.wrap (i8+(1:Int)),x7,ov),⟨II,h23,by kernel_rfl,J9⟩,H⟩
 ·exact qx 12 <| ⟨rfl,i8,iG,ov,oi H,.rs gR 0 dp.length 1,.rs gG 0 cy.length 4,aa.fz x5,.int .i64 i8,.bool (decide (i8<(x5.length:Int))),dm,h18,by kernel_rfl,wX⟩
theorem sq {a7:FuncId→cu}(ha:a7 112=kn)(MF:QN cf m)(RE:Rf cf m)(l0:List ah)(iD:Int)(h:AHeap)(L:Mem)  (o:Has h (L)){out:aZ}(H:ax.f m l0 iD=some out) :
  ∃r h',bj Tryz.prog a7 cf m 112 [af.fz l0,.int .i64 iD] h=some (r,h')∧CR h' r (.agg [af.fz out.nodes,.int .i64 out.root]):=by
 refine au (fn:=Tryz.f112) ha Tryz.func112 (by kernel_rfl) (by kernel_rfl) ?_
 refine aK (Q:=fun s=>ax.fin L out s) (fun _ _ h=>h) ?_
 have H:_=some out:=H
 unfold ax.f at H
 show dR _ cf kn m _ ⟨af.fz l0 :: .int .i64 iD::Qz [],[none,none,none,none],h⟩ _
 refine q1 <| qq ?_
 obtain⟨x0,e0,H⟩:=aS H
 refine qr [.a 2 (MF _ _ _ e0 h _ (er (ab (cQ (E:=af)) (ab (aA) (aq)))))] <| qq ?_
 obtain⟨x1,e1,H⟩:=aS H
 obtain⟨aV,h0,e2,o0⟩:=lL (P:=Tryz.prog) (E:=aa) (z:=(0:Int)) (zv:=.int .i64 (0:Int)) dt o 3 rfl rfl rfl rfl e1
 refine qr [.a 2 e2] <| qq <| q0 ?_
 have o1:Has h0 (((0),.sl (([]:List ah).length) 4 (db.l (aY ([]:List ah) ([]:List Nat))))::(aV,.sl x1.length 1 (aa.l x1))::L):=Has.nil o0 4
 refine qq <| qq <| q0 <| qb 0 ?_
 obtain⟨bo,e6,H⟩:=aS H
 refine ql (ax.cd L l0 x0   (x1,(0:Int)) _ _ ⟨aV,h0,by kernel_rfl,o1⟩ e6) ?_
 rintro e s ⟨rfl,aG,i1,rfl,g0,g1,ca,h3,rfl,o4⟩
 try dsimp only at H
 refine qq <| qq <| q0 <| qb 2 ?_
 obtain⟨fC,wE,H⟩:=aS H
 refine ql (ax.gN L l0 x0 ca aG ca   (([]:List ah),(0:Int)) _ _ ⟨(0),([]:List Nat),h3,by kernel_rfl,o4⟩ wE) ?_
 rintro e s ⟨rfl,vO,i3,rfl,g4,g5,g6,g7,jb,C1,h9,rfl,oR⟩
 try dsimp only at H
 refine qq ?_
 obtain⟨x4,zh,H⟩:=aS H
 refine qr [.a 1 (RE _ _ zh h9 _ (er (ab (rX (pre:=[(jb,.sl vO.length 4 (db.l (aY vO C1))),(ca,.sl aG.length 1 (aa.l aG))]) (ns:=vO) (ids:=C1) (q:=0) oR rfl) (aq))))] <| qq <| qq <| q0 <| qb 6 ?_
 obtain⟨du,IF,H⟩:=aS H
 refine ql (ax.vK L ca aG ca x4   (vO,(0:Int)) _ _ ⟨jb,C1,h9,by kernel_rfl,oR⟩ IF) ?_
 rintro e s ⟨rfl,cy,i5,rfl,g10,g11,g12,gG,iv,h14,rfl,mA⟩
 try dsimp only at H
 refine qq ?_
 obtain⟨x5,MA,H⟩:=aS H
 refine qr [.a 1 (MF _ _ _ MA h14 _ (er (ab (rX (pre:=[(gG,.sl cy.length 4 (db.l (aY cy iv))),(ca,.sl aG.length 1 (aa.l aG))]) (ns:=cy) (ids:=iv) (q:=0) mA rfl) (ab (aA) (aq)))))] <| qq <| qq <| q0 <| qb 10 ?_
 obtain⟨vz,Lm,H⟩:=aS H
 refine ql (ax.IK L gG cy gG iv x5   (aG,(0:Int)) _ _ ⟨ca,h14,by kernel_rfl,mA⟩ Lm) ?_
 rintro e s ⟨rfl,dp,i7,rfl,g13,g14,gR,h17,rfl,ud⟩
 try dsimp only at H
 refine q1 ?_
 have Lp:Has h17 (((((0))),.sl (([]:List ah).length) 4 (af.l ([]:List ah)))::(gG,.sl cy.length 4 (db.l (aY cy iv)))::(gR,.sl dp.length 1 (aa.l dp))::(eR cy iv++L)):=Has.nil ud 4
 refine qq <| qq <| q0 <| qb 12 ?_
 obtain⟨ME,MB,H⟩:=aS H
 refine ql (ax.IJ L gG cy gG iv x5 gR dp gR   ((0:Int),([]:List ah),(0:Int)) _ _ ⟨(((0))),h17,by kernel_rfl,Lp⟩ MB) ?_
 rintro e s ⟨rfl,i9,Lr,IU,rfl,g17,g18,g19,g20,g21,iY,h24,rfl,IM⟩
 try dsimp only at H
 refine qq ?_
 obtain⟨h25,MC,Oi⟩:=mO (E:=af) (l:=Lr) (q:=0) IM rfl
 refine J5 [.a 0 MC] [] ?_
 have Oj:Has h25 ((gG,.sl cy.length 4 (db.l (aY cy iv)))::(eR cy iv++L)):=Has.del Oi 1
 have Rr:Has h25 (L):=Has.gone (pre:=[]) (Has.del Oj 0)
 obtain rfl:=oi H
 exact qt <| ⟨.inl rfl,J6 (.agg [af.fz Lr,.int .i64 IU]) h25 (yq (bT (ab (cQ) (ab (aA) (aq)))))⟩
end
end Go.Proofs.YtifafejidnjckaaGreat
namespace Go.Proofs.YtifafejidnjckaaGreat
open Go Go.R
open Go.IntKind (i64 u64 u8 u32)
def pR:cu:=gj [0,1,2,6,7,8,9,13,30,35,54] [] [2032,1984,1856,2000,1984,1984,2032,1776,1984,1472,2000,1984,1984,1952,928,2032,2032] [] []
def cm.l0 (m:Nat)(n0:Int)(bb:Int→Int→Option (Int)):Nat→(List Int)→Int→Int→Option ((List Int) × Int × Int)
 | 0,_,_,_=>none
 | k+1,bJ,a0,b0=>if (decide (b0≤n0))=true then ((be.f m bJ a0 b0 bb).bind fun x0=>cm.l0 m n0 bb k x0 b0 (i64.wrap (b0+(20:Int)))) else (some ((bJ,a0,b0)))
def cm.l2 (m:Nat)(n0:Int)(bb:Int→Int→Option (Int))(bD:Int):Nat→(List Int)→Int→Int→Option ((List Int) × Int × Int)
 | 0,_,_,_=>none
 | k+1,kq,a2,b2=>if (decide (b2≤n0))=true then ((aQ.f m m kq a2 (i64.wrap (a2+bD)) b2 bb).bind fun x2=>cm.l2 m n0 bb bD k x2 b2 (i64.wrap (b2+i64.wrap ((2:Int)*bD)))) else (some ((kq,a2,b2)))
def cm.l1 (m:Nat)(n0:Int)(bb:Int→Int→Option (Int)):Nat→(List Int)→Int→Option ((List Int) × Int)
 | 0,_,_=>none
 | k+1,eU,bD=>if (decide (bD<n0))=true then ((cm.l2 m n0 bb bD m eU (0:Int) (i64.wrap ((2:Int)*bD))).bind fun bZ=>match bZ with | (mo,a3,b3)=>if (decide ((i64.wrap (a3+bD))<n0))=true then ((aQ.f m m mo a3 (i64.wrap (a3+bD)) n0 bb).bind fun x3=>cm.l1 m n0 bb k x3 (i64.wrap (bD*(2:Int)))) else (cm.l1 m n0 bb k mo (i64.wrap (bD*(2:Int))))) else (some ((eU,bD)))
def cm.f (m:Nat)(az:List Int)(n0:Int)(bb:Int→Int→Option (Int)):Option ((List Int)):=(cm.l0 m n0 bb m az (0:Int) (20:Int)).bind fun bo=>match bo with | (dY,a1,b1)=>(be.f m dY a1 n0 bb).bind fun x1=>(cm.l1 m n0 bb m x1 (20:Int)).bind fun fC=>match fC with | (q6,Dc)=>some q6
def cm.fin (L:Mem)(aV:Nat)(az:List Int)(n0:Int)(bb:Int→Int→Option (Int))(r:(List Int))(s:St):Prop:=aP Tryz.prog (s.open pR) Tryz.f134.results.toList=some (.tup [])∧Has s.h ((aV,.sl az.length 1 (aa.l r))::L)
def RF (cf:CallF)(m:Nat):Prop:=∀(az:List Int) (n0:Int) (bb:Int→Int→Option (Int)) (r:(List Int)),cm.f m az n0 bb=some r→∀h L (dr:Nat) (aV:Nat),Has h ((aV,.sl dr 1 (aa.l az))::L)→∀(mr:FuncId) (eM dU:List AV),(bh (.fn mr eM) = .fn mr eM)→(∀(h:AHeap) (xs:List AV) (a0:Int) (a1:Int) r,bb a0 a1=some r→aX b5 h xs ([.int .i64 a0,.int .i64 a1]++dU)→cf mr xs h=some (.int .i64 r,h))→(∀h K,Has h (K++(L))→aX dD h eM dU)→(∀h,aX dD h dU dU)→∀xs,xs.map bh=[.rs aV 0 dr 1,.int .i64 n0,.fn mr eM]→∃h',cf 134 xs h=some (.tup [],h')∧Has h' ((aV,.sl dr 1 (aa.l r))::L)
section
variable {cf:CallF}{m:Nat}
theorem cm.cd (L:Mem)(aV:Nat)(mr:FuncId)(eM dU:List AV)(az:List Int)(n0:Int)(bb:Int→Int→Option (Int))  (oW:bh (.fn mr eM) = .fn mr eM)(tI:∀(h:AHeap) (xs:List AV) (a0:Int) (a1:Int) r,bb a0 a1=some r→aX b5 h xs ([.int .i64 a0,.int .i64 a1]++dU)→cf mr xs h=some (.int .i64 r,h))(tJ:∀h K,Has h (K++(L))→aX dD h eM dU)(tK:∀h,aX dD h dU dU)(EO:N6 cf m):b8 Tryz.prog cf pR m (sub [1,1,0,0,0] (br Tryz.f134)) (fun k (σ:(List Int) × Int × Int)=>cm.l0 m n0 bb k σ.1 σ.2.1 σ.2.2) (fun σ s=>match σ with | (bJ,a0,b0)=>∃h0,s=⟨.rs aV 0 az.length 1 :: .int .i64 n0 :: .fn mr eM :: .int .i64 (20:Int) :: .int .i64 a0 :: .int .i64 b0::tu [],[],h0⟩∧Has h0 ((aV,.sl az.length 1 (aa.l bJ))::L)) (fun out e s=>(e = .exit 0∧∃bJ a0 b0,(bJ,a0,b0)=out∧∃qT pK h0,s=⟨.rs aV 0 az.length 1 :: .int .i64 n0 :: .fn mr eM :: .int .i64 (20:Int) :: .int .i64 a0::qT :: .any::pK::j5 [],[],h0⟩∧Has h0 ((aV,.sl az.length 1 (aa.l bJ))::L))):=by
 refine iO (fun _=>rfl) ?_
 rintro k ⟨bJ,a0,b0⟩ s out ⟨h0,rfl,o0⟩ H
 have H:cm.l0 m n0 bb (k+1) bJ a0 b0=some out:=H
 refine qq <| qq <| q0 <| qc H (fun c0 H=>?_) (fun c0 H=>?_)
 ·refine qk <| qb 1 <| qq ?_
  obtain⟨x0,e0,H⟩:=aS H
  obtain⟨h1,e1,o1⟩:=EO _ _ _ _ _ e0 h0 _ _ _ (o0) mr eM dU oW tI (fun h' K' o'=>tJ h' (K'++[]) (by simpa only [abX,acg,aci] using o')) tK [.rs aV 0 az.length 1,.int .i64 a0,.int .i64 b0,.fn mr eM] (aR (rfl) (aR (bU (dc)) (aR (bU (dc)) (aR (oW) (eO)))))
  exact qr [.a 4 e1] <| qq <| q0 <| q0 <| ⟨(x0,b0,i64.wrap (b0+(20:Int))),⟨h1,by kernel_rfl,o1⟩,H⟩
 ·exact qx 0 <| ⟨rfl,bJ,a0,b0,oi H,.int .i64 b0,.bool (decide (b0≤n0)),h0,by kernel_rfl,o0⟩
theorem cm.mj (L:Mem)(aV:Nat)(mr:FuncId)(eM dU:List AV)(az:List Int)(n0:Int)(bb:Int→Int→Option (Int))(bD:Int)  (oW:bh (.fn mr eM) = .fn mr eM)(tI:∀(h:AHeap) (xs:List AV) (a0:Int) (a1:Int) r,bb a0 a1=some r→aX b5 h xs ([.int .i64 a0,.int .i64 a1]++dU)→cf mr xs h=some (.int .i64 r,h))(tJ:∀h K,Has h (K++(L))→aX dD h eM dU)(tK:∀h,aX dD h dU dU)(jH:wY cf m m):b8 Tryz.prog cf pR m (sub [1,1,1,1,0,0,1,0,1,0,0,0] (br Tryz.f134)) (fun k (σ:(List Int) × Int × Int)=>cm.l2 m n0 bb bD k σ.1 σ.2.1 σ.2.2) (fun σ s=>match σ with | (kq,a2,b2)=>∃h5,s=⟨.rs aV 0 az.length 1 :: .int .i64 n0 :: .fn mr eM :: .int .i64 bD :: .int .i64 a2 :: .int .i64 b2::tu [],[],h5⟩∧Has h5 ((aV,.sl az.length 1 (aa.l kq))::L)) (fun out e s=>(e = .exit 4∧∃kq a2 b2,(kq,a2,b2)=out∧∃qT Ou h5,s=⟨.rs aV 0 az.length 1 :: .int .i64 n0 :: .fn mr eM :: .int .i64 bD :: .int .i64 a2::qT::j5 [Ou,.any],[],h5⟩∧Has h5 ((aV,.sl az.length 1 (aa.l kq))::L))):=by
 refine iO (fun _=>rfl) ?_
 rintro k ⟨kq,a2,b2⟩ s out ⟨h5,rfl,o5⟩ H
 have H:cm.l2 m n0 bb bD (k+1) kq a2 b2=some out:=H
 refine qq <| qq <| q0 <| qc H (fun c2 H=>?_) (fun c2 H=>?_)
 ·refine qk <| qb 5 <| qq ?_
  obtain⟨x2,e5,H⟩:=aS H
  obtain⟨h6,e6,o6⟩:=jH _ _ _ _ _ _ e5 h5 _ _ _ (o5) mr eM dU oW tI (fun h' K' o'=>tJ h' (K'++[]) (by simpa only [abX,acg,aci] using o')) tK [.rs aV 0 az.length 1,.int .i64 a2,.int .i64 (i64.wrap (a2+bD)),.int .i64 b2,.fn mr eM] (aR (rfl) (aR (bU (dc)) (aR (bU (dc)) (aR (bU (dc)) (aR (oW) (eO))))))
  exact qr [.a 7 e6] <| qq <| q0 <| q0 <| ⟨(x2,b2,i64.wrap (b2+i64.wrap ((2:Int)*bD))),⟨h6,by kernel_rfl,o6⟩,H⟩
 ·exact qx 4 <| ⟨rfl,kq,a2,b2,oi H,.int .i64 b2,.bool (decide (b2≤n0)),h5,by kernel_rfl,o5⟩
theorem cm.gN (L:Mem)(aV:Nat)(mr:FuncId)(eM dU:List AV)(az:List Int)(n0:Int)(bb:Int→Int→Option (Int))  (oW:bh (.fn mr eM) = .fn mr eM)(tI:∀(h:AHeap) (xs:List AV) (a0:Int) (a1:Int) r,bb a0 a1=some r→aX b5 h xs ([.int .i64 a0,.int .i64 a1]++dU)→cf mr xs h=some (.int .i64 r,h))(tJ:∀h K,Has h (K++(L))→aX dD h eM dU)(tK:∀h,aX dD h dU dU)(jH:wY cf m m):b8 Tryz.prog cf pR m (sub [1,1,1,1,0,0] (br Tryz.f134)) (fun k (σ:(List Int) × Int)=>cm.l1 m n0 bb k σ.1 σ.2) (fun σ s=>match σ with | (eU,bD)=>∃h4,s=⟨.rs aV 0 az.length 1 :: .int .i64 n0 :: .fn mr eM :: .int .i64 bD::zV [],[],h4⟩∧Has h4 ((aV,.sl az.length 1 (aa.l eU))::L)) (fun out e s=>(e = .exit 2∧∃eU bD,(eU,bD)=out∧∃kX tw F8 ze C6 h4,s=⟨kX::tw::F8::ze::qJ [C6,.any,.any],[],h4⟩∧Has h4 ((aV,.sl az.length 1 (aa.l eU))::L))):=by
 refine iO (fun _=>rfl) ?_
 rintro k ⟨eU,bD⟩ s out ⟨h4,rfl,o4⟩ H
 have H:cm.l1 m n0 bb (k+1) eU bD=some out:=H
 refine qq <| qq <| q0 <| qc H (fun c1 H=>?_) (fun c1 H=>?_)
 ·refine qk <| qb 3 <| qq <| q0 <| qq <| qb 4 ?_
  obtain⟨bZ,e7,H⟩:=aS H
  refine ql (cm.mj L aV mr eM dU az n0 bb bD  oW tI tJ tK jH (eU,(0:Int),i64.wrap ((2:Int)*bD)) _ _ ⟨h4,by kernel_rfl,o4⟩ e7) ?_
  rintro e s ⟨rfl,mo,a3,b3,rfl,g2,g3,h7,rfl,o7⟩
  try dsimp only at H
  refine qq <| qq <| q0 <| qq <| q0 <| qc H (fun c3 H=>?_) (fun c3 H=>?_)
  ·obtain⟨x3,e8,H⟩:=aS H
   obtain⟨h8,e9,o8⟩:=jH _ _ _ _ _ _ e8 h7 _ _ _ (o7) mr eM dU oW tI (fun h' K' o'=>tJ h' (K'++[]) (by simpa only [abX,acg,aci] using o')) tK [.rs aV 0 az.length 1,.int .i64 a3,.int .i64 (i64.wrap (a3+bD)),.int .i64 n0,.fn mr eM] (aR (rfl) (aR (bU (dc)) (aR (bU (dc)) (aR (bU (dc)) (aR (oW) (eO))))))
   exact qr [.a 5 e9] <| q0 <| ⟨(x3,i64.wrap (bD*(2:Int))),⟨h8,by kernel_rfl,o8⟩,H⟩
  ·exact qk <| q0 <| ⟨(mo,i64.wrap (bD*(2:Int))),⟨h7,by kernel_rfl,o7⟩,H⟩
 ·exact qx 2 <| ⟨rfl,eU,bD,oi H,.rs aV 0 az.length 1,.int .i64 n0,.fn mr eM,.int .i64 bD,.bool (decide (bD<n0)),h4,by kernel_rfl,o4⟩
theorem zy {a7:FuncId→cu}(ha:a7 134=pR)(EO:N6 cf m)(jH:wY cf m m)(az:List Int)(n0:Int)(bb:Int→Int→Option (Int))(h:AHeap)(L:Mem)(aV:Nat)(mr:FuncId)(eM dU:List AV)  (oW:bh (.fn mr eM) = .fn mr eM)(tI:∀(h:AHeap) (xs:List AV) (a0:Int) (a1:Int) r,bb a0 a1=some r→aX b5 h xs ([.int .i64 a0,.int .i64 a1]++dU)→cf mr xs h=some (.int .i64 r,h))(tJ:∀h K,Has h (K++(L))→aX dD h eM dU)(tK:∀h,aX dD h dU dU)(o:Has h ((aV,.sl az.length 1 (aa.l az))::L)){out:(List Int)}(H:cm.f m az n0 bb=some out) :
  ∃r h',bj Tryz.prog a7 cf m 134 [.rs aV 0 az.length 1,.int .i64 n0,.fn mr eM] h=some (r,h')∧r = .tup []∧Has h' ((aV,.sl az.length 1 (aa.l out))::L):=by
 refine au (fn:=Tryz.f134) ha Tryz.func134 (by kernel_rfl) (by kernel_rfl) ?_
 refine aK (Q:=fun s=>cm.fin L aV az n0 bb out s) (fun _ _ ⟨h1,h2,h3⟩=>⟨h1,_,h2,rfl,h3⟩) ?_
 have H:_=some out:=H
 unfold cm.f at H
 show dR _ cf pR m _ ⟨.rs aV 0 az.length 1 :: .int .i64 n0 :: .fn mr eM::qK [],[],h⟩ _
 refine q1 <| qq <| q0 <| qq <| qb 0 ?_
 obtain⟨bo,e2,H⟩:=aS H
 refine ql (cm.cd L aV mr eM dU az n0 bb  oW tI tJ tK EO (az,(0:Int),(20:Int)) _ _ ⟨h,by kernel_rfl,o⟩ e2) ?_
 rintro e s ⟨rfl,dY,a1,b1,rfl,g0,g1,h2,rfl,o2⟩
 try dsimp only at H
 refine qq ?_
 obtain⟨x1,e3,H⟩:=aS H
 obtain⟨h3,e4,o3⟩:=EO _ _ _ _ _ e3 h2 _ _ _ (o2) mr eM dU oW tI (fun h' K' o'=>tJ h' (K'++[]) (by simpa only [abX,acg,aci] using o')) tK [.rs aV 0 az.length 1,.int .i64 a1,.int .i64 n0,.fn mr eM] (aR (rfl) (aR (bU (dc)) (aR (bU (dc)) (aR (oW) (eO)))))
 refine qr [.a 4 e4] <| qb 2 ?_
 obtain⟨fC,lg,H⟩:=aS H
 refine ql (cm.gN L aV mr eM dU az n0 bb  oW tI tJ tK jH (x1,(20:Int)) _ _ ⟨h3,by kernel_rfl,o3⟩ lg) ?_
 rintro e s ⟨rfl,q6,Dc,rfl,g4,g5,g6,g7,g8,h9,rfl,o9⟩
 try dsimp only at H
 obtain rfl:=oi H
 exact⟨.inr rfl,⟨by kernel_rfl,he o9⟩⟩
end
end Go.Proofs.YtifafejidnjckaaGreat
namespace Go.Proofs.YtifafejidnjckaaGreat
open Go Go.R
open Go.IntKind (i64 u64 u8 u32)
end Go.Proofs.YtifafejidnjckaaGreat
namespace Go.Proofs.YtifafejidnjckaaGreat
open Go Go.R
open Go.IntKind (i64 u64 u8 u32)
def Bk:cu:=gj [0,2,3,4,5,6,9,14,25,33] [6] [1022,958,1017,1014,998,870,998,966,710,1017,966,454,966,998,998,1017] [(13,[(6,some 3,0)])] []
def bQ.l0 (m:Nat)(aw:List ah):Nat→Int→ay→Option (Sum ((Option ay) × Int) (Int × ay))
 | 0,_,_=>none
 | k+1,i0,bR=>if (decide (i0<(aw.length:Int)))=true then ((ix aw i0).bind fun v0=>(cw.f m v0 (aw.length:Int)).bind fun x1=>if (!x1)=true then (some (.inl (none,(2:Int)))) else ((app 8 ([]) v0.args).bind fun x2=>jn (fun (σ:Int)=>match σ with | n0=>(app 56 bR.ai ([(ah.mk v0.kind n0 v0.label x2)])).bind fun x3=>(app 8 bR.an ([i0])).bind fun x4=>bQ.l0 m aw k (i64.wrap (i0+(1:Int))) (ay.mk x3 x4 bR.aH)) fun EJ=>(if (v0.kind==(0:Int))=true then (EJ i0) else (EJ v0.int)))) else (some (.inr (i0,bR)))
def bQ.f (m:Nat)(aw:List ah):Option ((Option ay) × Int):=if (decide ((aw.length:Int) > (8000:Int)))=true then (some (none,(2:Int))) else ((jU.f m ).bind fun x0=>(bQ.l0 m aw m (0:Int) x0).bind fun bo=>match bo with | .inl r0=>some r0 | .inr (i1,iL)=>some (some iL,(0:Int)))
def bQ.fin (L:Mem)(aw:List ah)(r:(Option ay) × Int)(s:St):Prop:=∃ez de dh:Nat,aP Tryz.prog (s.open Bk) Tryz.f11.results.toList=some (.tup [(F6 r.1 ez),.int .i64 r.2])∧Has s.h (F7 r.1 (fun y=>[(ez,.ob [.rs de 0 y.ai.length 4,.rs dh 0 y.an.length 1,.bool y.aH]),(de,.sl y.ai.length 4 (af.l y.ai)),(dh,.sl y.an.length 1 (aa.l y.an))])++(L))
def Xy (cf:CallF)(m:Nat):Prop:=∀(aw:List ah) (r:(Option ay) × Int),bQ.f m aw=some r→∀h L,Has h (L)→∀xs,xs.map bh=[af.fz aw]→∃ez de dh h',cf 11 xs h=some (.tup [(F6 r.1 ez),.int .i64 r.2],h')∧Has h' (F7 r.1 (fun y=>[(ez,.ob [.rs de 0 y.ai.length 4,.rs dh 0 y.an.length 1,.bool y.aH]),(de,.sl y.ai.length 4 (af.l y.ai)),(dh,.sl y.an.length 1 (aa.l y.an))])++(L))
section
variable {cf:CallF}{m:Nat}
theorem bQ.cd (L:Mem)(aw:List ah)(aV:Nat)  (Dd:Rx cf m):b8 Tryz.prog cf Bk m (sub [1,1,1,0,1,0,0] (br Tryz.f11)) (fun k (σ:Int × ay)=>bQ.l0 m aw k σ.1 σ.2) (fun σ s=>match σ with | (i0,bR)=>∃dj eP h1,s=⟨af.fz aw :: .any :: .any :: .ptr aV 0 :: .int .i64 i0::tu [],[none],h1⟩∧Has h1 ((aV,.ob [.rs dj 0 bR.ai.length 4,.rs eP 0 bR.an.length 1,.bool bR.aH])::(dj,.sl bR.ai.length 4 (af.l bR.ai))::(eP,.sl bR.an.length 1 (aa.l bR.an))::L)) (fun out e s=>(e = .exit 0∧∃i0 bR,.inr (i0,bR)=out∧∃kX vk vl dj eP h1,s=⟨[kX,.any,.any,.ptr aV 0,vk,.any,.any,vl,.any,.any],[none],h1⟩∧Has h1 ((aV,.ob [.rs dj 0 bR.ai.length 4,.rs eP 0 bR.an.length 1,.bool bR.aH])::(dj,.sl bR.ai.length 4 (af.l bR.ai))::(eP,.sl bR.an.length 1 (aa.l bR.an))::L))∨(e = .ret∧∃r,.inl r=out∧bQ.fin L aw r s)):=by
 refine iO (fun _=>rfl) ?_
 rintro k ⟨i0,bR⟩ s out ⟨dj,eP,h1,rfl,o1⟩ H
 have H:bQ.l0 m aw (k+1) i0 bR=some out:=H
 refine qq <| qq <| q0 <| qc H (fun c1 H=>?_) (fun c1 H=>?_)
 ·refine qk <| qq <| qb 1 <| qq ?_
  obtain⟨v0,e2,H⟩:=aS H
  refine qr [.v 2 (bO (k:=.i64) (E:=af) (l:=aw) kI e2),.v 3 (fm  (E:=af) (l:=aw) h1 rA rB e2)] <| qq <| qq ?_
  obtain⟨x1,e3,H⟩:=aS H
  refine qr [.a 3 (Dd _ _ _ e3 h1 _ (er (ab (bT (ab (aA) (ab (aA) (ab (bH) (ab (cQ (E:=aa)) (aq)))))) (ab (aA) (aq)))))] <| qc H (fun c2 H=>?_) (fun c2 H=>?_)
  ·refine q1 ?_
   have o2:Has h1 ((aV,.ob [.rs dj 0 bR.ai.length 4,.rs eP 0 bR.an.length 1,.bool bR.aH])::(dj,.sl bR.ai.length 4 (af.l bR.ai))::L):=Has.del o1 2
   have o3:Has h1 ((aV,.ob [.rs dj 0 bR.ai.length 4,.rs eP 0 bR.an.length 1,.bool bR.aH])::L):=Has.del o2 1
   have o4:Has h1 (L):=Has.del o3 0
   exact qt <| ac3 (⟨rfl,_,oi H,⟨0,0,0,by kernel_rfl,he o4⟩⟩)
  ·refine qk <| qq ?_
   obtain⟨x2,e4,H⟩:=aS H
   obtain⟨gd,h2,e5,o5⟩:=Nz (P:=Tryz.prog) (E:=aa) (s:=.fz [] 0 true) (t2:=22) (x:=aa.fz v0.args) (l2:=v0.args) (.inr rfl) dt o1 (HO (E:=aa) (l2:=v0.args) _) rfl e4
   refine qr [.a 3 e5] ?_
   obtain⟨EJ,MD,H⟩:=oG H
   refine qj (S:=fun (σ:Int) s=>match σ with | n0=>∃(g0:AV) (h3:AHeap),s=⟨af.fz aw :: .any :: .any :: .ptr aV 0 :: .int .i64 i0 :: .lp 6 0::j5 [g0],[some [.int .i64 v0.kind,.int .i64 n0,.str v0.label,.rs gd 0 x2.length 1]],h3⟩∧Has h3 ((gd,.sl x2.length 1 (aa.l x2))::(aV,.ob [.rs dj 0 bR.ai.length 4,.rs eP 0 bR.an.length 1,.bool bR.aH])::(dj,.sl bR.ai.length 4 (af.l bR.ai))::(eP,.sl bR.an.length 1 (aa.l bR.an))::L)) EJ H ?_ ?_
   ·rintro n0 s ⟨g0,h3,rfl,o6⟩ H
    have H:=(MD _).symm.trans H
    try dsimp only at H
    refine qq ?_
    obtain⟨h4,e6,o7⟩:=mO (E:=aa) (l:=x2) (q:=0) o6 rfl
    obtain⟨x3,e7,H⟩:=aS H
    obtain⟨fS,h5,e8,o8⟩:=fH (P:=Tryz.prog) (E:=af) (l:=bR.ai) (q:=1) (t2:=23) (x:=.fz [.int .i64 v0.kind,.int .i64 n0,.str v0.label,aa.fz x2] 1 true) (l2:=([(ah.mk v0.kind n0 v0.label x2)])) kI o7 rfl (by kernel_rfl) rfl e7
    obtain⟨h6,e9,o9⟩:=pn (P:=Tryz.prog) (t:=23) (off:=0) (q:=0) (cs:=[.rs dj 0 bR.ai.length 4,.rs eP 0 bR.an.length 1,.bool bR.aH]) (gp:=[.rs fS 0 x3.length 4,.rs eP 0 bR.an.length 1,.bool bR.aH]) (x:=.rs fS 0 x3.length 4) o8 rfl (by kernel_rfl)
    refine J5 [.a 0 e6] [.v 4 (show b7 Tryz.prog h4 23 (.ptr aV 0)=some (.rs dj 0 bR.ai.length 4) from dO (q:=0) (cs:=[.rs dj 0 bR.ai.length 4,.rs eP 0 bR.an.length 1,.bool bR.aH]) o7 rfl (by kernel_rfl)),.a 7 e8,.w 10 e9] ?_
    obtain⟨x4,lg,H⟩:=aS H
    obtain⟨gF,h7,mf,qU⟩:=fH (P:=Tryz.prog) (E:=aa) (l:=bR.an) (q:=2) (t2:=22) (x:=.fz [.int .i64 i0] 1 true) (l2:=([i0])) dt o9 rfl (by kernel_rfl) rfl lg
    obtain⟨h8,nI,oR⟩:=pn (P:=Tryz.prog) (t:=22) (off:=1) (q:=0) (cs:=[.rs fS 0 x3.length 4,.rs eP 0 bR.an.length 1,.bool bR.aH]) (gp:=[.rs fS 0 x3.length 4,.rs gF 0 x4.length 1,.bool bR.aH]) (x:=.rs gF 0 x4.length 1) qU rfl (by kernel_rfl)
    exact qr [.v 4 (show b7 Tryz.prog h6 22 (.ptr aV 1)=some (.rs eP 0 bR.an.length 1) from dO (q:=0) (cs:=[.rs fS 0 x3.length 4,.rs eP 0 bR.an.length 1,.bool bR.aH]) o9 rfl (by kernel_rfl)),.a 7 mf,.w 10 nI] <| q0 <| ⟨(i64.wrap (i0+(1:Int)),(ay.mk x3 x4 bR.aH)),⟨fS,gF,h8,by kernel_rfl,oR⟩,H⟩
   clear MD
   intro Bh
   refine q1 <| qc H (fun c3 H=>?_) (fun c3 H=>?_)
   ·exact q0 <| Bh i0 _ ⟨.any,h2,by kernel_rfl,o5⟩ H
   ·exact qk <| Bh v0.int _ ⟨.bool (v0.kind==(0:Int)),h2,by kernel_rfl,o5⟩ H
 ·exact qx 0 <| Or.inl (⟨rfl,i0,bR,oi H,af.fz aw,.int .i64 i0,.bool (decide (i0<(aw.length:Int))),dj,eP,h1,by kernel_rfl,o1⟩)
theorem sr {a7:FuncId→cu}(ha:a7 11=Bk)(UU:WZ cf m)(Dd:Rx cf m)(aw:List ah)(h:AHeap)(L:Mem)  (o:Has h (L)){out:(Option ay) × Int}(H:bQ.f m aw=some out) :
  ∃r h',bj Tryz.prog a7 cf m 11 [af.fz aw] h=some (r,h')∧∃ez de dh:Nat,r = .tup [(F6 out.1 ez),.int .i64 out.2]∧Has h' (F7 out.1 (fun y=>[(ez,.ob [.rs de 0 y.ai.length 4,.rs dh 0 y.an.length 1,.bool y.aH]),(de,.sl y.ai.length 4 (af.l y.ai)),(dh,.sl y.an.length 1 (aa.l y.an))])++(L)):=by
 refine au (fn:=Tryz.f11) ha Tryz.func11 (by kernel_rfl) (by kernel_rfl) ?_
 refine aK (Q:=fun s=>bQ.fin L aw out s) (fun _ _ ⟨h1,ez,de,dh,h2,h3⟩=>⟨h1,_,h2,ez,de,dh,rfl,h3⟩) ?_
 have H:_=some out:=H
 unfold bQ.f at H
 show dR _ cf Bk m _ ⟨af.fz aw::Mp [],[none],h⟩ _
 refine q1 <| qq <| qq <| q0 <| qc H (fun c0 H=>?_) (fun c0 H=>?_)
 ·obtain rfl:=oi H
  exact q1 <| qt <| ⟨.inl rfl,⟨0,0,0,by kernel_rfl,he o⟩⟩
 ·refine qk <| qq ?_
  obtain⟨x0,e0,H⟩:=aS H
  obtain⟨aV,dA,ca,h0,e1,o0⟩:=UU _ e0 h _  (o)  [] (eO)
  refine qr [.a 0 e1] <| qq <| qq <| q0 <| qb 0 ?_
  obtain⟨bo,oJ,H⟩:=aS H
  refine ql (bQ.cd L aw aV  Dd ((0:Int),x0) _ _ ⟨dA,ca,h0,by kernel_rfl,o0⟩ oJ) ?_
  rintro e s (⟨rfl,i1,iL,rfl,g1,g2,g3,jb,kB,h9,rfl,s6⟩| ⟨rfl,r0,rfl,qS⟩)
  ·try dsimp only at H
   obtain rfl:=oi H
   exact q1 <| qt <| ⟨.inl rfl,⟨aV,jb,kB,by kernel_rfl,he s6⟩⟩
  ·try dsimp only at H
   obtain rfl:=oi H
   exact⟨.inl rfl,qS⟩
end
end Go.Proofs.YtifafejidnjckaaGreat
namespace Go.Proofs.YtifafejidnjckaaGreat
open Go Go.R
open Go.IntKind (i64 u64 u8 u32)
def Bl:cu:=gj [0,1,2,3,26,31,43] [1] [125,109,123,117,85,117,53,123,123] [] []
def cJ.l0 (m:Nat)(t0:aZ):Nat→Int→Option (Sum Bool (Int))
 | 0,_=>none
 | k+1,i0=>if (decide (i0<(t0.nodes.length:Int)))=true then ((ix t0.nodes i0).bind fun v0=>(cw.f m v0 (t0.nodes.length:Int)).bind fun x0=>if (!x0)=true then (some (.inl false)) else (cJ.l0 m t0 k (i64.wrap (i0+(1:Int))))) else (some (.inr i0))
def cJ.f (m:Nat)(t0:aZ):Option (Bool):=if (decide ((t0.nodes.length:Int)<(1:Int)))=true then (some false) else (if (decide ((t0.nodes.length:Int) > (8000:Int)))=true then (some false) else (if (decide (t0.root<(0:Int)))=true then (some false) else (if (decide (t0.root≥(t0.nodes.length:Int)))=true then (some false) else ((cJ.l0 m t0 m (0:Int)).bind fun bo=>match bo with | .inl r0=>some r0 | .inr i1=>some true))))
def cJ.fin (L:Mem)(r:Bool)(s:St):Prop:=∃av,aP Tryz.prog (s.open Bl) Tryz.f23.results.toList=some av∧fi s.h av (.bool r)
def Xz (cf:CallF)(m:Nat):Prop:=∀(t0:aZ) (r:Bool),cJ.f m t0=some r→∀h xs,aX b5 h xs [.agg [af.fz t0.nodes,.int .i64 t0.root]]→cf 23 xs h=some (.bool r,h)
section
variable {cf:CallF}{m:Nat}
theorem cJ.cd (L:Mem)(t0:aZ)  (Dd:Rx cf m):b8 Tryz.prog cf Bl m (sub [1,1,0,1,0,0] (br Tryz.f23)) (fun k (σ:Int)=>cJ.l0 m t0 k σ) (fun σ s=>match σ with | i0=>∃h0,s=⟨.any :: .lp 1 0 :: .any :: .int .i64 i0::j5 [],[some [af.fz t0.nodes,.int .i64 t0.root]],h0⟩∧Has h0 (L)) (fun out e s=>(e = .exit 0∧∃i0,.inr i0=out∧∃tw zk Iw Zf h0,s=⟨[.any,tw,.any,zk,.any,Iw,.any],[Zf],h0⟩∧Has h0 (L))∨(e = .ret∧∃r,.inl r=out∧cJ.fin L r s)):=by
 refine iO (fun _=>rfl) ?_
 rintro k i0 s out ⟨h0,rfl,o0⟩ H
 have H:cJ.l0 m t0 (k+1) i0=some out:=H
 refine qq <| qq <| q0 <| qc H (fun c7 H=>?_) (fun c7 H=>?_)
 ·refine qk <| qq <| qb 1 <| qq ?_
  obtain⟨v0,e0,H⟩:=aS H
  obtain⟨x0,e1,H⟩:=aS H
  refine qr [.v 3 (bO (k:=.i64) (E:=af) (l:=t0.nodes) kI e0),.v 4 (fm  (E:=af) (l:=t0.nodes) h0 rA rB e0),.a 8 (Dd _ _ _ e1 h0 _ (er (ab (bT (ab (aA) (ab (aA) (ab (bH) (ab (cQ (E:=aa)) (aq)))))) (ab (aA) (aq)))))] <| qc H (fun c8 H=>?_) (fun c8 H=>?_)
  ·exact q1 <| qt <| ac3 (⟨rfl,_,oi H,bX (.bool false) h0 (bW (ao))⟩)
  ·exact qk <| q0 <| ⟨i64.wrap (i0+(1:Int)),⟨h0,by kernel_rfl,o0⟩,H⟩
 ·exact qx 0 <| Or.inl (⟨rfl,i0,oi H,.lp 1 0,.int .i64 i0,.bool (decide (i0<(t0.nodes.length:Int))),some [af.fz t0.nodes,.int .i64 t0.root],h0,by kernel_rfl,o0⟩)
theorem ss {a7:FuncId→cu}(ha:a7 23=Bl)(Dd:Rx cf m)(t0:aZ)(h:AHeap)(L:Mem)  (o:Has h (L)){out:Bool}(H:cJ.f m t0=some out) :
  ∃r h',bj Tryz.prog a7 cf m 23 [.agg [af.fz t0.nodes,.int .i64 t0.root]] h=some (r,h')∧fi h' r (.bool out):=by
 refine au (fn:=Tryz.f23) ha Tryz.func23 (by kernel_rfl) (by kernel_rfl) ?_
 refine aK (Q:=fun s=>cJ.fin L out s) (fun _ _ h=>h) ?_
 have H:_=some out:=H
 unfold cJ.f at H
 show dR _ cf Bl m _ ⟨.agg [af.fz t0.nodes,.int .i64 t0.root]::GR [],[none],h⟩ _
 refine q1 <| qq <| qq ?_
 rcases eu H with⟨c0,H⟩| ⟨c0,H⟩
 ·obtain rfl:=oi H
  exact qr [.b 4 c0] <| zX <| qq <| q0 <| qt <| ⟨.inl rfl,bX (.bool false) h (bW (ao))⟩
 ·rcases eu H with⟨c2,H⟩| ⟨c2,H⟩
  ·obtain rfl:=oi H
   exact qr [.b 4 c0,.b 10 c2] <| zX <| qq <| q0 <| qt <| ⟨.inl rfl,bX (.bool false) h (bW (ao))⟩
  ·rcases eu H with⟨c4,H⟩| ⟨c4,H⟩
   ·obtain rfl:=oi H
    exact qr [.b 4 c0,.b 10 c2,.b 15 c4] <| zX <| qq <| q0 <| qt <| ⟨.inl rfl,bX (.bool false) h (bW (ao))⟩
   ·refine qr [.b 4 c0,.b 10 c2,.b 15 c4] <| qc H (fun c6 H=>?_) (fun c6 H=>?_)
    ·obtain rfl:=oi H
     exact q1 <| qt <| ⟨.inl rfl,bX (.bool false) h (bW (ao))⟩
    ·refine qk <| qq <| qq <| q0 <| qb 0 ?_
     obtain⟨bo,e2,H⟩:=aS H
     refine ql (cJ.cd L t0  Dd (0:Int) _ _ ⟨h,by kernel_rfl,o⟩ e2) ?_
     rintro e s (⟨rfl,i1,rfl,g0,g1,g2,g3,h1,rfl,o1⟩| ⟨rfl,r0,rfl,qS⟩)
     ·try dsimp only at H
      obtain rfl:=oi H
      exact q1 <| qt <| ⟨.inl rfl,bX (.bool true) h1 (bW (ao))⟩
     ·try dsimp only at H
      obtain rfl:=oi H
      exact⟨.inl rfl,qS⟩
end
end Go.Proofs.YtifafejidnjckaaGreat
namespace Go.Proofs.YtifafejidnjckaaGreat
open Go Go.R
open Go.IntKind (i64 u64 u8 u32)
end Go.Proofs.YtifafejidnjckaaGreat
namespace Go.Proofs.YtifafejidnjckaaGreat
open Go Go.R
open Go.IntKind (i64 u64 u8 u32)
def EP:cu:=gj [0,1,2] [] [5,3] [] []
def ib.f (m:Nat)(t0:aZ):Option (Bool):=if (decide ((t0.nodes.length:Int)≥(1:Int)))=true then (if (decide ((t0.nodes.length:Int)≤(8000:Int)))=true then (if (decide (t0.root≥(0:Int)))=true then (if (decide (t0.root<(t0.nodes.length:Int)))=true then ((iF.f m t0.nodes (fun y0=>ia.f m y0 t0)).bind fun x0=>some (!x0)) else (some false)) else (some false)) else (some false)) else (some false)
def ib.fin (L:Mem)(r:Bool)(s:St):Prop:=∃av,aP Tryz.prog (s.open EP) Tryz.f36.results.toList=some av∧fi s.h av (.bool r)
def UW (cf:CallF)(m:Nat):Prop:=∀(t0:aZ) (r:Bool),ib.f m t0=some r→∀h xs,aX b5 h xs [.agg [af.fz t0.nodes,.int .i64 t0.root]]→cf 36 xs h=some (.bool r,h)
section
variable {cf:CallF}{m:Nat}
theorem tL {a7:FuncId→cu}(ha:a7 36=EP)(UX:Xe cf m)(UY:Xx cf m)(t0:aZ)(h:AHeap)(L:Mem)  (o:Has h (L)){out:Bool}(H:ib.f m t0=some out) :
  ∃r h',bj Tryz.prog a7 cf m 36 [.agg [af.fz t0.nodes,.int .i64 t0.root]] h=some (r,h')∧fi h' r (.bool out):=by
 refine au (fn:=Tryz.f36) ha Tryz.func36 (by kernel_rfl) (by kernel_rfl) ?_
 refine aK (Q:=fun s=>ib.fin L out s) (fun _ _ h=>h) ?_
 have H:_=some out:=H
 unfold ib.f at H
 show dR _ cf EP m _ ⟨[.agg [af.fz t0.nodes,.int .i64 t0.root],.any,.any],[],h⟩ _
 refine qq ?_
 obtain⟨aV,h0,e0,o0⟩:=km (cs:=[af.fz t0.nodes,.int .i64 t0.root]) o (by kernel_rfl)
 refine qr [.a 0 e0] <| qq ?_
 rcases eu H with⟨c0,H⟩| ⟨c0,H⟩
 ·rcases eu H with⟨c1,H⟩| ⟨c1,H⟩
  ·rcases eu H with⟨c2,H⟩| ⟨c2,H⟩
   ·rcases eu H with⟨c3,H⟩| ⟨c3,H⟩
    ·obtain⟨x0,e1,H⟩:=aS H
     refine qr [.v 1 (show b7 Tryz.prog h0 23 (.ptr aV 0)=some (af.fz t0.nodes) from dO (q:=0) (cs:=[af.fz t0.nodes,.int .i64 t0.root]) o0 rfl (by kernel_rfl)),.b 4 c0,.v 6 (show b7 Tryz.prog h0 23 (.ptr aV 0)=some (af.fz t0.nodes) from dO (q:=0) (cs:=[af.fz t0.nodes,.int .i64 t0.root]) o0 rfl (by kernel_rfl)),.b 10 c1,.v 12 (show b7 Tryz.prog h0 3 (.ptr aV 1)=some (.int .i64 t0.root) from dO (q:=0) (cs:=[af.fz t0.nodes,.int .i64 t0.root]) o0 rfl (by kernel_rfl)),.b 15 c2,.v 17 (show b7 Tryz.prog h0 3 (.ptr aV 1)=some (.int .i64 t0.root) from dO (q:=0) (cs:=[af.fz t0.nodes,.int .i64 t0.root]) o0 rfl (by kernel_rfl)),.v 19 (show b7 Tryz.prog h0 23 (.ptr aV 0)=some (af.fz t0.nodes) from dO (q:=0) (cs:=[af.fz t0.nodes,.int .i64 t0.root]) o0 rfl (by kernel_rfl)),.b 23 c3,.v 25 (show b7 Tryz.prog h0 23 (.ptr aV 0)=some (af.fz t0.nodes) from dO (q:=0) (cs:=[af.fz t0.nodes,.int .i64 t0.root]) o0 rfl (by kernel_rfl)),.a 27 (UX _ _ _ e1 78 [.fp [af.fz t0.nodes,.int .i64 t0.root] 0] (fun h' Lf y0 r hr hx=>UY y0 _ r hr h' Lf hx) (fun h_=>vf (ab (dJ (pure_cons (bG.aI (E:=af) (l:=t0.nodes)) (pure_cons (qH) (pure_nil)))) (aq))) h0 _ (er (ab (cQ (E:=af)) (ab (xH (ab (jT (q:=0) o0 rfl (ab (cQ (E:=af)) (ab (aA) (aq)))) (aq))) (aq)))))] ?_
     have o1:Has h0 (L):=Has.del o0 0
     obtain rfl:=oi H
     exact qt <| ⟨.inl rfl,bX (.bool (!x0)) h0 (bW (ao))⟩
    ·refine qr [.v 1 (show b7 Tryz.prog h0 23 (.ptr aV 0)=some (af.fz t0.nodes) from dO (q:=0) (cs:=[af.fz t0.nodes,.int .i64 t0.root]) o0 rfl (by kernel_rfl)),.b 4 c0,.v 6 (show b7 Tryz.prog h0 23 (.ptr aV 0)=some (af.fz t0.nodes) from dO (q:=0) (cs:=[af.fz t0.nodes,.int .i64 t0.root]) o0 rfl (by kernel_rfl)),.b 10 c1,.v 12 (show b7 Tryz.prog h0 3 (.ptr aV 1)=some (.int .i64 t0.root) from dO (q:=0) (cs:=[af.fz t0.nodes,.int .i64 t0.root]) o0 rfl (by kernel_rfl)),.b 15 c2,.v 17 (show b7 Tryz.prog h0 3 (.ptr aV 1)=some (.int .i64 t0.root) from dO (q:=0) (cs:=[af.fz t0.nodes,.int .i64 t0.root]) o0 rfl (by kernel_rfl)),.v 19 (show b7 Tryz.prog h0 23 (.ptr aV 0)=some (af.fz t0.nodes) from dO (q:=0) (cs:=[af.fz t0.nodes,.int .i64 t0.root]) o0 rfl (by kernel_rfl)),.b 23 c3] ?_
     have o2:Has h0 (L):=Has.del o0 0
     obtain rfl:=oi H
     exact qt <| ⟨.inl rfl,bX (.bool false) h0 (bW (ao))⟩
   ·refine qr [.v 1 (show b7 Tryz.prog h0 23 (.ptr aV 0)=some (af.fz t0.nodes) from dO (q:=0) (cs:=[af.fz t0.nodes,.int .i64 t0.root]) o0 rfl (by kernel_rfl)),.b 4 c0,.v 6 (show b7 Tryz.prog h0 23 (.ptr aV 0)=some (af.fz t0.nodes) from dO (q:=0) (cs:=[af.fz t0.nodes,.int .i64 t0.root]) o0 rfl (by kernel_rfl)),.b 10 c1,.v 12 (show b7 Tryz.prog h0 3 (.ptr aV 1)=some (.int .i64 t0.root) from dO (q:=0) (cs:=[af.fz t0.nodes,.int .i64 t0.root]) o0 rfl (by kernel_rfl)),.b 15 c2] ?_
    have o3:Has h0 (L):=Has.del o0 0
    obtain rfl:=oi H
    exact qt <| ⟨.inl rfl,bX (.bool false) h0 (bW (ao))⟩
  ·refine qr [.v 1 (show b7 Tryz.prog h0 23 (.ptr aV 0)=some (af.fz t0.nodes) from dO (q:=0) (cs:=[af.fz t0.nodes,.int .i64 t0.root]) o0 rfl (by kernel_rfl)),.b 4 c0,.v 6 (show b7 Tryz.prog h0 23 (.ptr aV 0)=some (af.fz t0.nodes) from dO (q:=0) (cs:=[af.fz t0.nodes,.int .i64 t0.root]) o0 rfl (by kernel_rfl)),.b 10 c1] ?_
   have o4:Has h0 (L):=Has.del o0 0
   obtain rfl:=oi H
   exact qt <| ⟨.inl rfl,bX (.bool false) h0 (bW (ao))⟩
 ·refine qr [.v 1 (show b7 Tryz.prog h0 23 (.ptr aV 0)=some (af.fz t0.nodes) from dO (q:=0) (cs:=[af.fz t0.nodes,.int .i64 t0.root]) o0 rfl (by kernel_rfl)),.b 4 c0] ?_
  have o5:Has h0 (L):=Has.del o0 0
  obtain rfl:=oi H
  exact qt <| ⟨.inl rfl,bX (.bool false) h0 (bW (ao))⟩
end
end Go.Proofs.YtifafejidnjckaaGreat
namespace Go.Proofs.YtifafejidnjckaaGreat
open Go Go.R
open Go.IntKind (i64 u64 u8 u32)
end Go.Proofs.YtifafejidnjckaaGreat
namespace Go.Proofs.YtifafejidnjckaaGreat
open Go Go.R
open Go.IntKind (i64 u64 u8 u32)
end Go.Proofs.YtifafejidnjckaaGreat
namespace Go.Proofs.YtifafejidnjckaaGreat
open Go Go.R
open Go.IntKind (i64 u64 u8 u32)
end Go.Proofs.YtifafejidnjckaaGreat
namespace Go.Proofs.YtifafejidnjckaaGreat
open Go Go.R
open Go.IntKind (i64 u64 u8 u32)
end Go.Proofs.YtifafejidnjckaaGreat
namespace Go.Proofs.YtifafejidnjckaaGreat
open Go Go.R
open Go.IntKind (i64 u64 u8 u32)
end Go.Proofs.YtifafejidnjckaaGreat
namespace Go.Proofs.YtifafejidnjckaaGreat
open Go Go.R
open Go.IntKind (i64 u64 u8 u32)
end Go.Proofs.YtifafejidnjckaaGreat
namespace Go.Proofs.YtifafejidnjckaaGreat
open Go Go.R
open Go.IntKind (i64 u64 u8 u32)
def ER:cu:=gj [0,1,2,3,6] [1,2] [25,9,19,19] [] []
def gW.f (m:Nat)(t0:aZ):Option (aZ × Int):=(cJ.f m t0).bind fun x0=>if (!x0)=true then (some ((aZ.mk ([]) (0:Int)),(2:Int))) else ((ax.f m t0.nodes t0.root).bind fun x1=>some (x1,(0:Int)))
def gW.fin (L:Mem)(r:aZ × Int)(s:St):Prop:=∃av,aP Tryz.prog (s.open ER) Tryz.f88.results.toList=some av∧CR s.h av (.tup [.agg [af.fz r.1.nodes,.int .i64 r.1.root],.int .i64 r.2])
def XA (cf:CallF)(m:Nat):Prop:=∀(t0:aZ) (r:aZ × Int),gW.f m t0=some r→∀h xs,pk xs [.agg [af.fz t0.nodes,.int .i64 t0.root]]→cf 88 xs h=some (.tup [.agg [af.fz r.1.nodes,.int .i64 r.1.root],.int .i64 r.2],h)
section
variable {cf:CallF}{m:Nat}
theorem su {a7:FuncId→cu}(ha:a7 88=ER)(UZ:Xz cf m)(RG:RA cf m)(t0:aZ)(h:AHeap)(L:Mem)  (o:Has h (L)){out:aZ × Int}(H:gW.f m t0=some out) :
  ∃r h',bj Tryz.prog a7 cf m 88 [.agg [af.fz t0.nodes,.int .i64 t0.root]] h=some (r,h')∧CR h' r (.tup [.agg [af.fz out.1.nodes,.int .i64 out.1.root],.int .i64 out.2]):=by
 refine au (fn:=Tryz.f88) ha Tryz.func88 (by kernel_rfl) (by kernel_rfl) ?_
 refine aK (Q:=fun s=>gW.fin L out s) (fun _ _ h=>h) ?_
 have H:_=some out:=H
 unfold gW.f at H
 show dR _ cf ER m _ ⟨.agg [af.fz t0.nodes,.int .i64 t0.root]::qJ [],[none,none],h⟩ _
 refine q1 <| qq <| qq ?_
 obtain⟨x0,e0,H⟩:=aS H
 refine qr [.a 1 (UZ _ _ e0 h _ (er (ab (bT (ab (cQ (E:=af)) (ab (aA) (aq)))) (aq))))] <| qc H (fun c0 H=>?_) (fun c0 H=>?_)
 ·obtain rfl:=oi H
  exact q1 <| qt <| ⟨.inl rfl,J6 (.tup [.agg [.nils,.int .i64 (0:Int)],.int .i64 (2:Int)]) h (yq (n4 (ab (bT (ab (qI) (ab (aA) (aq)))) (ab (aA) (aq)))))⟩
 ·refine qk <| qq ?_
  obtain⟨x1,e1,H⟩:=aS H
  obtain rfl:=oi H
  exact qr [.a 4 (RG _ _ _ e1 h _ (hX (sZ (E:=af)) (hX (dc) (n7))))] <| qt <| ⟨.inl rfl,J6 (.tup [.agg [af.fz x1.nodes,.int .i64 x1.root],.int .i64 (0:Int)]) h (yq (n4 (ab (bT (ab (cQ) (ab (aA) (aq)))) (ab (aA) (aq)))))⟩
end
end Go.Proofs.YtifafejidnjckaaGreat
namespace Go.Proofs.YtifafejidnjckaaGreat
open Go Go.R
open Go.IntKind (i64 u64 u8 u32)
def zz:cu:=gj [0,1] [] [3] [] []
def gA.f (m:Nat)(x0:List Int)(bb:Int→Int→Option (Int)):Option ((List Int)):=(cm.f m x0 (x0.length:Int) bb).bind fun x1=>some x1
def gA.fin (L:Mem)(aV:Nat)(x0:List Int)(bb:Int→Int→Option (Int))(r:(List Int))(s:St):Prop:=aP Tryz.prog (s.open zz) Tryz.f114.results.toList=some (.tup [])∧Has s.h ((aV,.sl x0.length 1 (aa.l r))::L)
def RH (cf:CallF)(m:Nat):Prop:=∀(x0:List Int) (bb:Int→Int→Option (Int)) (r:(List Int)),gA.f m x0 bb=some r→∀h L (IV:Nat) (aV:Nat),Has h ((aV,.sl IV 1 (aa.l x0))::L)→∀(gO:FuncId) (bn eC:List AV),(bh (.fn gO bn) = .fn gO bn)→(∀(h:AHeap) (xs:List AV) (a0:Int) (a1:Int) r,bb a0 a1=some r→aX b5 h xs ([.int .i64 a0,.int .i64 a1]++eC)→cf gO xs h=some (.int .i64 r,h))→(∀h K,Has h (K++(L))→aX dD h bn eC)→(∀h,aX dD h eC eC)→∀xs,xs.map bh=[.rs aV 0 IV 1,.fn gO bn]→∃h',cf 114 xs h=some (.tup [],h')∧Has h' ((aV,.sl IV 1 (aa.l r))::L)
section
variable {cf:CallF}{m:Nat}
theorem q8 {a7:FuncId→cu}(ha:a7 114=zz)(RJ:RF cf m)(x0:List Int)(bb:Int→Int→Option (Int))(h:AHeap)(L:Mem)(aV:Nat)(gO:FuncId)(bn eC:List AV)  (zn:bh (.fn gO bn) = .fn gO bn)(jx:∀(h:AHeap) (xs:List AV) (a0:Int) (a1:Int) r,bb a0 a1=some r→aX b5 h xs ([.int .i64 a0,.int .i64 a1]++eC)→cf gO xs h=some (.int .i64 r,h))(wU:∀h K,Has h (K++(L))→aX dD h bn eC)(jg:∀h,aX dD h eC eC)(o:Has h ((aV,.sl x0.length 1 (aa.l x0))::L)){out:(List Int)}(H:gA.f m x0 bb=some out) :
  ∃r h',bj Tryz.prog a7 cf m 114 [.rs aV 0 x0.length 1,.fn gO bn] h=some (r,h')∧r = .tup []∧Has h' ((aV,.sl x0.length 1 (aa.l out))::L):=by
 refine au (fn:=Tryz.f114) ha Tryz.func114 (by kernel_rfl) (by kernel_rfl) ?_
 refine aK (Q:=fun s=>gA.fin L aV x0 bb out s) (fun _ _ ⟨h1,h2,h3⟩=>⟨h1,_,h2,rfl,h3⟩) ?_
 have H:_=some out:=H
 unfold gA.f at H
 show dR _ cf zz m _ ⟨[.rs aV 0 x0.length 1,.fn gO bn],[],h⟩ _
 obtain⟨x1,e0,H⟩:=aS H
 obtain⟨h0,e1,o0⟩:=RJ _ _ _ _ e0 h _ _ _ (o) gO bn eC zn jx (fun h' K' o'=>wU h' (K'++[]) (by simpa only [abX,acg,aci] using o')) jg [.rs aV 0 x0.length 1,.int .i64 (x0.length:Int),.fn gO bn] (aR (rfl) (aR (bU (dc)) (aR (zn) (eO))))
 obtain rfl:=oi H
 exact qr [.a 4 e1] <| ⟨.inr rfl,⟨by kernel_rfl,he o0⟩⟩
end
end Go.Proofs.YtifafejidnjckaaGreat
namespace Go.Proofs.YtifafejidnjckaaGreat
open Go Go.R
open Go.IntKind (i64 u64 u8 u32)
end Go.Proofs.YtifafejidnjckaaGreat
