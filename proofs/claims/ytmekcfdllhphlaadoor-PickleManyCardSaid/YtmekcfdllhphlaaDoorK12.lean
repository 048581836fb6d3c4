/- Part of the proof: Q48, Q25, Q57, Q37, Q38, Q39, Q58, Q40, Q15, PU1, PU2, PB3, PB5, PB6. -/
import Derived.Test.YtmekcfdllhphlaaDoorK11
set_option linter.unusedVariables false
set_option linter.unusedSimpArgs false
set_option maxRecDepth 100000
open Bool renaming false_eq_true → Wj, true_and → Xl
open ByteArray renaming mk → Wu
open Eq renaming trans → W6
open Int renaming toNat_natCast → V9
open List renaming getElem?_eq_some_iff → Wb, length_set → Wd, mem_singleton → Wf, drop_eq_getElem_cons → Wi, mem_append → Wk, getD_eq_getElem?_getD → Wm, length_cons → Wp, getElem?_append_right → Wq, getElem?_cons_zero → WJ, drop_zero → WK, mem_append_left → WL, drop_eq_nil_of_le → WO, all_cons → W2, idxOf_lt_length_of_mem → W7, idxOf_append → Xi, nodup_append → Xj
open Nat renaming le_refl → V7, le_trans → WQ, sub_self → XC
open Option renaming bind_some → V3
open Option.some renaming injEq → V6
open Or renaming inr → WZ, inl → Xt
namespace Go.Proofs.YtmekcfdllhphlaaDoor
open Go Go.R
open Go.IntKind (i64 u64 u8 u32)
def y6:cb:=gJ [0,1,2,4,5,7,8,24,45,61,87,109,114,131] [2] [16377,16345,16281,16375,16217,16375,16089,16375,15833,16375,15353,14329,16375,16361,12265,16361,8169,16375,16375,16375] [] []
def bV.l0 (m:Nat)(n0:ab)(ax:Int):Nat→Int→Option (Sum Bool (Int))
 | 0,_=>none
 | k+1,i0=>if (decide (i0<(n0.args.length:Int)))=true then ((ix n0.args i0).bind fun v0=>if (decide (v0<(0:Int)))=true then (some (.inl false)) else ((ix n0.args i0).bind fun v1=>if (decide (v1≥ax))=true then (some (.inl false)) else (bV.l0 m n0 ax k (i64.wrap (i0+(1:Int)))))) else (some (.inr i0))
def bV.f (m:Nat)(n0:ab)(ax:Int):Option (Bool):=if (n0.kind==(0:Int))=true then (if (decide (n0.int≥(0:Int)))=true then (if (n0.label.data.toList==(Wu #[]).data.toList)=true then (some ((n0.args.length:Int)==(0:Int))) else (some false)) else (some false)) else (if (n0.kind==(1:Int))=true then (if (decide (n0.int≥(-1099511627776:Int)))=true then (if (decide (n0.int≤(1099511627776:Int)))=true then (if (n0.label.data.toList==(Wu #[]).data.toList)=true then (some ((n0.args.length:Int)==(0:Int))) else (some false)) else (some false)) else (some false)) else (if (n0.kind==(2:Int))=true then ((dT.f m n0.label).bind fun x0=>if x0=true then (if (n0.int==(0:Int))=true then (some ((n0.args.length:Int)==(0:Int))) else (some false)) else (some false)) else (if (n0.kind==(4:Int))=true then (if (n0.label.data.toList==(Wu #[112,114,111,99]).data.toList)=true then (if (decide (n0.int≥(0:Int)))=true then (some ((n0.args.length:Int)==(0:Int))) else (some false)) else (if (n0.label.data.toList==(Wu #[99,101,108,108]).data.toList)=true then (if (decide (n0.int≥(0:Int)))=true then (some ((n0.args.length:Int)==(0:Int))) else (some false)) else (if (n0.label.data.toList==(Wu #[112,111,114,116]).data.toList)=true then (if (decide (n0.int≥(0:Int)))=true then (some ((n0.args.length:Int)==(0:Int))) else (some false)) else (some false)))) else (if (n0.kind==(3:Int))=true then ((dT.f m n0.label).bind fun x1=>if (!x1)=true then (some false) else (if (!(n0.int==(0:Int)))=true then (some false) else (if (decide ((n0.args.length:Int)<(1:Int)))=true then (some false) else (if (decide ((n0.args.length:Int) > (8:Int)))=true then (some false) else ((bV.l0 m n0 ax m (0:Int)).bind fun bq=>match bq with | .inl r0=>some r0 | .inr i1=>some true))))) else (some false)))))
def bV.fin (L:Mem)(r:Bool)(s:St):Prop:=∃av,aI Tryd.prog (s.open y6) Tryd.f48.results.toList=some av∧fT s.h av (.bool r)
def QA (cf:CallF)(m:Nat):Prop:=∀(n0:ab) (ax:Int) (r:Bool),bV.f m n0 ax=some r→∀h xs,eN fc h xs [.agg [.int .i64 n0.kind,.int .i64 n0.int,.str n0.label,aa.fz n0.args],.int .i64 ax]→cf 48 xs h=some (.bool r,h)
section
variable {cf:CallF}{m:Nat}
theorem bV.bI (L:Mem)(n0:ab)(ax:Int)   : bE Tryd.prog cf y6 m (sub [1,0,1,0,1,1,1,1,1,1,1,1,1,0,1,0,1,0,0] (codeOf Tryd.f48)) (fun k (σ:Int)=>bV.l0 m n0 ax k σ) (fun σ s=>match σ with | i0=>∃h0,s=⟨.any :: .int .i64 ax :: .lp 2 0 :: .any :: .int .i64 i0::C3 [],[some [.int .i64 n0.kind,.int .i64 n0.int,.str n0.label,aa.fz n0.args]],h0⟩∧Has h0 (L)) (fun out e s=>(e = .exit 1∧∃i0,.inr i0=out∧∃uy C8 uE Nq Nb h0,s=⟨.any::uy::C8 :: .any::uE::C2 [Nq,.any],[Nb],h0⟩∧Has h0 (L))∨(e = .ret∧∃r,.inl r=out∧bV.fin L r s)):=by
 refine gP (fun _=>rfl) ?_
 rintro k i0 s out ⟨h0,rfl,o0⟩ H
 have H:bV.l0 m n0 ax (k+1) i0=some out:=H
 refine qq <| qq <| q0 <| qc H (fun UG H=>?_) (fun UG H=>?_)
 ·refine qk <| qq <| qb 2 <| qq ?_
  obtain⟨v0,e2,H⟩:=aH H
  rcases dt H with⟨QB,H⟩| ⟨QB,H⟩
  ·exact qr [.v 3 (bo (k:=.i64) (E:=aa) (l:=n0.args) dz e2),.v 4 (cZ  (E:=aa) (l:=n0.args) h0 A3 e2 rfl),.b 6 QB] <| mX <| qq <| q0 <| qt <| WZ (⟨rfl,_,oi H,bZ (.bool false) h0 (bX (ak))⟩)
  ·obtain⟨v1,e3,H⟩:=aH H
   refine qr [.v 3 (bo (k:=.i64) (E:=aa) (l:=n0.args) dz e2),.v 4 (cZ  (E:=aa) (l:=n0.args) h0 A3 e2 rfl),.b 6 QB,.v 10 (bo (k:=.i64) (E:=aa) (l:=n0.args) dz e3),.v 11 (cZ  (E:=aa) (l:=n0.args) h0 A3 e3 rfl)] <| qc H (fun UH H=>?_) (fun UH H=>?_)
   ·exact q1 <| qt <| WZ (⟨rfl,_,oi H,bZ (.bool false) h0 (bX (ak))⟩)
   ·exact qk <| q0 <| ⟨i64.wrap (i0+(1:Int)),⟨h0,by kernel_rfl,o0⟩,H⟩
 ·exact qx 1 <| Xt (⟨rfl,i0,oi H,.int .i64 ax,.lp 2 0,.int .i64 i0,.bool (decide (i0<(n0.args.length:Int))),some [.int .i64 n0.kind,.int .i64 n0.int,.str n0.label,aa.fz n0.args],h0,by kernel_rfl,o0⟩)
theorem qp {aV:FuncId→cb}(ha:aV 48=y6)(AN:SQ cf m)(n0:ab)(ax:Int)(h:AHeap)(L:Mem)  (o:Has h (L)){out:Bool}(H:bV.f m n0 ax=some out) :
  ∃r h',be Tryd.prog aV cf m 48 [.agg [.int .i64 n0.kind,.int .i64 n0.int,.str n0.label,aa.fz n0.args],.int .i64 ax] h=some (r,h')∧fT h' r (.bool out):=by
 refine aq (fn:=Tryd.f48) ha Tryd.func48 (by kernel_rfl) (by kernel_rfl) ?_
 refine aG (Q:=fun s=>bV.fin L out s) (fun _ _ h=>h) ?_
 have H:_=some out:=H
 unfold bV.f at H
 show de _ cf y6 m _ ⟨.agg [.int .i64 n0.kind,.int .i64 n0.int,.str n0.label,aa.fz n0.args] :: .int .i64 ax::mD [],[none],h⟩ _
 refine q1 <| qq <| qq <| q0 <| qb 0 <| qq <| q0 <| qc H (fun c0 H=>?_) (fun c0 H=>?_)
 ·refine qq ?_
  rcases dt H with⟨c1,H⟩| ⟨c1,H⟩
  ·rcases dt H with⟨c2,H⟩| ⟨c2,H⟩
   ·obtain rfl:=oi H
    exact qr [.b 3 c1,.b 8 c2] <| qt <| ⟨.inl rfl,bZ (.bool ((n0.args.length:Int)==(0:Int))) h (bX (ak))⟩
   ·obtain rfl:=oi H
    exact qr [.b 3 c1,.b 8 c2] <| qt <| ⟨.inl rfl,bZ (.bool false) h (bX (ak))⟩
  ·obtain rfl:=oi H
   exact qr [.b 3 c1] <| qt <| ⟨.inl rfl,bZ (.bool false) h (bX (ak))⟩
 ·refine q1 <| qc H (fun c3 H=>?_) (fun c3 H=>?_)
  ·refine qq ?_
   rcases dt H with⟨c4,H⟩| ⟨c4,H⟩
   ·rcases dt H with⟨c5,H⟩| ⟨c5,H⟩
    ·rcases dt H with⟨c6,H⟩| ⟨c6,H⟩
     ·obtain rfl:=oi H
      exact qr [.b 3 c4,.b 8 c5,.b 13 c6] <| qt <| ⟨.inl rfl,bZ (.bool ((n0.args.length:Int)==(0:Int))) h (bX (ak))⟩
     ·obtain rfl:=oi H
      exact qr [.b 3 c4,.b 8 c5,.b 13 c6] <| qt <| ⟨.inl rfl,bZ (.bool false) h (bX (ak))⟩
    ·obtain rfl:=oi H
     exact qr [.b 3 c4,.b 8 c5] <| qt <| ⟨.inl rfl,bZ (.bool false) h (bX (ak))⟩
   ·obtain rfl:=oi H
    exact qr [.b 3 c4] <| qt <| ⟨.inl rfl,bZ (.bool false) h (bX (ak))⟩
  ·refine q1 <| qc H (fun c7 H=>?_) (fun c7 H=>?_)
   ·refine qq ?_
    obtain⟨x0,e0,H⟩:=aH H
    rcases dt H with⟨c8,H⟩| ⟨c8,H⟩
    ·rcases dt H with⟨c9,H⟩| ⟨c9,H⟩
     ·obtain rfl:=oi H
      exact qr [.a 2 (AN _ _ e0 h _ (gO (ae (bY) (az)))),.b 3 c8,.b 8 c9] <| qt <| ⟨.inl rfl,bZ (.bool ((n0.args.length:Int)==(0:Int))) h (bX (ak))⟩
     ·obtain rfl:=oi H
      exact qr [.a 2 (AN _ _ e0 h _ (gO (ae (bY) (az)))),.b 3 c8,.b 8 c9] <| qt <| ⟨.inl rfl,bZ (.bool false) h (bX (ak))⟩
    ·obtain rfl:=oi H
     exact qr [.a 2 (AN _ _ e0 h _ (gO (ae (bY) (az)))),.b 3 c8] <| qt <| ⟨.inl rfl,bZ (.bool false) h (bX (ak))⟩
   ·refine q1 <| qc H (fun rm H=>?_) (fun rm H=>?_)
    ·refine qq ?_
     rcases dt H with⟨nG,H⟩| ⟨nG,H⟩
     ·rcases dt H with⟨oQ,H⟩| ⟨oQ,H⟩
      ·obtain rfl:=oi H
       exact qr [.b 3 nG,.b 18 oQ] <| qt <| ⟨.inl rfl,bZ (.bool ((n0.args.length:Int)==(0:Int))) h (bX (ak))⟩
      ·obtain rfl:=oi H
       exact qr [.b 3 nG,.b 18 oQ] <| qt <| ⟨.inl rfl,bZ (.bool false) h (bX (ak))⟩
     ·rcases dt H with⟨rn,H⟩| ⟨rn,H⟩
      ·rcases dt H with⟨mY,H⟩| ⟨mY,H⟩
       ·obtain rfl:=oi H
        exact qr [.b 3 nG,.b 8 rn,.b 18 mY] <| qt <| ⟨.inl rfl,bZ (.bool ((n0.args.length:Int)==(0:Int))) h (bX (ak))⟩
       ·obtain rfl:=oi H
        exact qr [.b 3 nG,.b 8 rn,.b 18 mY] <| qt <| ⟨.inl rfl,bZ (.bool false) h (bX (ak))⟩
      ·rcases dt H with⟨BC,H⟩| ⟨BC,H⟩
       ·rcases dt H with⟨xu,H⟩| ⟨xu,H⟩
        ·obtain rfl:=oi H
         exact qr [.b 3 nG,.b 8 rn,.b 13 BC,.b 18 xu] <| qt <| ⟨.inl rfl,bZ (.bool ((n0.args.length:Int)==(0:Int))) h (bX (ak))⟩
        ·obtain rfl:=oi H
         exact qr [.b 3 nG,.b 8 rn,.b 13 BC,.b 18 xu] <| qt <| ⟨.inl rfl,bZ (.bool false) h (bX (ak))⟩
       ·obtain rfl:=oi H
        exact qr [.b 3 nG,.b 8 rn,.b 13 BC] <| qt <| ⟨.inl rfl,bZ (.bool false) h (bX (ak))⟩
    ·refine q1 <| qc H (fun Da H=>?_) (fun Da H=>?_)
     ·refine qq <| qq ?_
      obtain⟨x1,e1,H⟩:=aH H
      rcases dt H with⟨DL,H⟩| ⟨DL,H⟩
      ·obtain rfl:=oi H
       exact qr [.a 2 (AN _ _ e1 h _ (gO (ae (bY) (az)))),.b 4 DL] <| mX <| qq <| q0 <| qt <| ⟨.inl rfl,bZ (.bool false) h (bX (ak))⟩
      ·rcases dt H with⟨DN,H⟩| ⟨DN,H⟩
       ·obtain rfl:=oi H
        exact qr [.a 2 (AN _ _ e1 h _ (gO (ae (bY) (az)))),.b 4 DL,.b 9 DN] <| mX <| qq <| q0 <| qt <| ⟨.inl rfl,bZ (.bool false) h (bX (ak))⟩
       ·rcases dt H with⟨Nr,H⟩| ⟨Nr,H⟩
        ·obtain rfl:=oi H
         exact qr [.a 2 (AN _ _ e1 h _ (gO (ae (bY) (az)))),.b 4 DL,.b 9 DN,.b 15 Nr] <| mX <| qq <| q0 <| qt <| ⟨.inl rfl,bZ (.bool false) h (bX (ak))⟩
        ·refine qr [.a 2 (AN _ _ e1 h _ (gO (ae (bY) (az)))),.b 4 DL,.b 9 DN,.b 15 Nr] <| qc H (fun UI H=>?_) (fun UI H=>?_)
         ·obtain rfl:=oi H
          exact q1 <| qt <| ⟨.inl rfl,bZ (.bool false) h (bX (ak))⟩
         ·refine qk <| qq <| qq <| q0 <| qb 1 ?_
          obtain⟨bq,e4,H⟩:=aH H
          refine ql (bV.bI L n0 ax   (0:Int) _ _ ⟨h,by kernel_rfl,o⟩ e4) ?_
          rintro e s (⟨rfl,i1,rfl,g0,g1,g2,g3,g4,h1,rfl,o1⟩| ⟨rfl,r0,rfl,mE⟩)
          ·try dsimp only at H
           obtain rfl:=oi H
           exact q1 <| qt <| ⟨.inl rfl,bZ (.bool true) h1 (bX (ak))⟩
          ·try dsimp only at H
           obtain rfl:=oi H
           exact⟨.inl rfl,mE⟩
     ·obtain rfl:=oi H
      exact qk <| qq <| q0 <| qt <| ⟨.inl rfl,bZ (.bool false) h (bX (ak))⟩
end
end Go.Proofs.YtmekcfdllhphlaaDoor
namespace Go.Proofs.YtmekcfdllhphlaaDoor
open Go Go.R
open Go.IntKind (i64 u64 u8 u32)
def y7:cb:=gJ [0,1,2,3,26,31,43] [1] [125,109,123,117,85,117,53,123,123] [] []
def bW.l0 (m:Nat)(t0:aj):Nat→Int→Option (Sum Bool (Int))
 | 0,_=>none
 | k+1,i0=>if (decide (i0<(t0.nodes.length:Int)))=true then ((ix t0.nodes i0).bind fun v0=>(bV.f m v0 (t0.nodes.length:Int)).bind fun x0=>if (!x0)=true then (some (.inl false)) else (bW.l0 m t0 k (i64.wrap (i0+(1:Int))))) else (some (.inr i0))
def bW.f (m:Nat)(t0:aj):Option (Bool):=if (decide ((t0.nodes.length:Int)<(1:Int)))=true then (some false) else (if (decide ((t0.nodes.length:Int) > (8000:Int)))=true then (some false) else (if (decide (t0.root<(0:Int)))=true then (some false) else (if (decide (t0.root≥(t0.nodes.length:Int)))=true then (some false) else ((bW.l0 m t0 m (0:Int)).bind fun bq=>match bq with | .inl r0=>some r0 | .inr i1=>some true))))
def bW.fin (L:Mem)(r:Bool)(s:St):Prop:=∃av,aI Tryd.prog (s.open y7) Tryd.f25.results.toList=some av∧fT s.h av (.bool r)
def SS (cf:CallF)(m:Nat):Prop:=∀(t0:aj) (r:Bool),bW.f m t0=some r→∀h xs,eN fc h xs [.agg [af.fz t0.nodes,.int .i64 t0.root]]→cf 25 xs h=some (.bool r,h)
section
variable {cf:CallF}{m:Nat}
theorem bW.bI (L:Mem)(t0:aj)  (KD:QA cf m):bE Tryd.prog cf y7 m (sub [1,1,0,1,0,0] (codeOf Tryd.f25)) (fun k (σ:Int)=>bW.l0 m t0 k σ) (fun σ s=>match σ with | i0=>∃h0,s=⟨.any :: .lp 1 0 :: .any :: .int .i64 i0::ke [],[some [af.fz t0.nodes,.int .i64 t0.root]],h0⟩∧Has h0 (L)) (fun out e s=>(e = .exit 0∧∃i0,.inr i0=out∧∃uy ta J4 UJ h0,s=⟨[.any,uy,.any,ta,.any,J4,.any],[UJ],h0⟩∧Has h0 (L))∨(e = .ret∧∃r,.inl r=out∧bW.fin L r s)):=by
 refine gP (fun _=>rfl) ?_
 rintro k i0 s out ⟨h0,rfl,o0⟩ H
 have H:bW.l0 m t0 (k+1) i0=some out:=H
 refine qq <| qq <| q0 <| qc H (fun c7 H=>?_) (fun c7 H=>?_)
 ·refine qk <| qq <| qb 1 <| qq ?_
  obtain⟨v0,e0,H⟩:=aH H
  obtain⟨x0,e1,H⟩:=aH H
  refine qr [.v 3 (bo (k:=.i64) (E:=af) (l:=t0.nodes) lh e0),.v 4 (cL  (E:=af) (l:=t0.nodes) h0 rU rV e0),.a 8 (KD _ _ _ e1 h0 _ (gO (ae (cP (ae (aM) (ae (aM) (ae (bY) (ae (cK (E:=aa)) (az)))))) (ae (aM) (az)))))] <| qc H (fun c8 H=>?_) (fun c8 H=>?_)
  ·exact q1 <| qt <| WZ (⟨rfl,_,oi H,bZ (.bool false) h0 (bX (ak))⟩)
  ·exact qk <| q0 <| ⟨i64.wrap (i0+(1:Int)),⟨h0,by kernel_rfl,o0⟩,H⟩
 ·exact qx 0 <| Xt (⟨rfl,i0,oi H,.lp 1 0,.int .i64 i0,.bool (decide (i0<(t0.nodes.length:Int))),some [af.fz t0.nodes,.int .i64 t0.root],h0,by kernel_rfl,o0⟩)
theorem qu {aV:FuncId→cb}(ha:aV 25=y7)(KD:QA cf m)(t0:aj)(h:AHeap)(L:Mem)  (o:Has h (L)){out:Bool}(H:bW.f m t0=some out) :
  ∃r h',be Tryd.prog aV cf m 25 [.agg [af.fz t0.nodes,.int .i64 t0.root]] h=some (r,h')∧fT h' r (.bool out):=by
 refine aq (fn:=Tryd.f25) ha Tryd.func25 (by kernel_rfl) (by kernel_rfl) ?_
 refine aG (Q:=fun s=>bW.fin L out s) (fun _ _ h=>h) ?_
 have H:_=some out:=H
 unfold bW.f at H
 show de _ cf y7 m _ ⟨.agg [af.fz t0.nodes,.int .i64 t0.root]::GV [],[none],h⟩ _
 refine q1 <| qq <| qq ?_
 rcases dt H with⟨c0,H⟩| ⟨c0,H⟩
 ·obtain rfl:=oi H
  exact qr [.b 4 c0] <| mX <| qq <| q0 <| qt <| ⟨.inl rfl,bZ (.bool false) h (bX (ak))⟩
 ·rcases dt H with⟨c2,H⟩| ⟨c2,H⟩
  ·obtain rfl:=oi H
   exact qr [.b 4 c0,.b 10 c2] <| mX <| qq <| q0 <| qt <| ⟨.inl rfl,bZ (.bool false) h (bX (ak))⟩
  ·rcases dt H with⟨c4,H⟩| ⟨c4,H⟩
   ·obtain rfl:=oi H
    exact qr [.b 4 c0,.b 10 c2,.b 15 c4] <| mX <| qq <| q0 <| qt <| ⟨.inl rfl,bZ (.bool false) h (bX (ak))⟩
   ·refine qr [.b 4 c0,.b 10 c2,.b 15 c4] <| qc H (fun c6 H=>?_) (fun c6 H=>?_)
    ·obtain rfl:=oi H
     exact q1 <| qt <| ⟨.inl rfl,bZ (.bool false) h (bX (ak))⟩
    ·refine qk <| qq <| qq <| q0 <| qb 0 ?_
     obtain⟨bq,e2,H⟩:=aH H
     refine ql (bW.bI L t0  KD (0:Int) _ _ ⟨h,by kernel_rfl,o⟩ e2) ?_
     rintro e s (⟨rfl,i1,rfl,g0,g1,g2,g3,h1,rfl,o1⟩| ⟨rfl,r0,rfl,mE⟩)
     ·try dsimp only at H
      obtain rfl:=oi H
      exact q1 <| qt <| ⟨.inl rfl,bZ (.bool true) h1 (bX (ak))⟩
     ·try dsimp only at H
      obtain rfl:=oi H
      exact⟨.inl rfl,mE⟩
end
end Go.Proofs.YtmekcfdllhphlaaDoor
namespace Go.Proofs.YtmekcfdllhphlaaDoor
open Go Go.R
open Go.IntKind (i64 u64 u8 u32)
def lq:cb:=gJ [0,1,4,5,6,7,8,9,10,11,12,13,14,15,16,17,18,19,20,21,22,32,45,59,84,94,120,133,147] [4,10,18,20] [536870904,536870898,536870882,536870850,536870786,534773634,536870786,536870786,536870722,532676418,536870722,536870466,536869954,536868930,528480322,536868930,536868930,536870466,536870722,536868811,536864715,520087499,536864715,536856523,503302091,536856523,536856523,536854475,536821707,469712843,536821707,536821707,536788939,536657867,402440139,536657867,536395723,535871435,534822859,266387403,534822859,534822859,536395723,536657867,536870907] [(42,[(21,none,0)]),(44,[(18,some 0,0)])] [(3,[(7,none,4)]),(12,[(11,none,1)]),(32,[(18,some 0,4)]),(37,[(21,none,1)])]
def ai.l0 (m:Nat)(x0:(List Int)):Nat→(List Int)→Int→Option ((List Int) × Int)
 | 0,_,_=>none
 | k+1,fa,i0=>if (decide (i0<(x0.length:Int)))=true then ((ix x0 i0).bind fun v0=>(ix fa v0).bind fun v1=>ai.l0 m x0 k (fa.set v0.toNat i0) (i64.wrap (i0+(1:Int)))) else (some ((fa,i0)))
def ai.l2 (m:Nat)(ba:List Int)(v3:ab):Nat→(List Int)→Int→Option ((List Int) × Int)
 | 0,_,_=>none
 | k+1,ej,k0=>if (decide (k0<(v3.args.length:Int)))=true then ((ix v3.args k0).bind fun v4=>(ix ba v4).bind fun v5=>(app 8 ej ([v5])).bind fun x2=>ai.l2 m ba v3 k x2 (i64.wrap (k0+(1:Int)))) else (some ((ej,k0)))
def ai.l1 (m:Nat)(l0:List ab)(x0:(List Int))(ba:List Int):Nat→(List ab)→Int→Option ((List ab) × Int)
 | 0,_,_=>none
 | k+1,eD,i2=>if (decide (i2<(x0.length:Int)))=true then ((ix x0 i2).bind fun v2=>(ix l0 v2).bind fun v3=>(ai.l2 m ba v3 m ([]:List Int) (0:Int)).bind fun b9=>match b9 with | (mb,k1)=>(app 56 eD [ab.mk v3.kind v3.int v3.label mb]).bind fun x3=>ai.l1 m l0 x0 ba k x3 (i64.wrap (i2+(1:Int)))) else (some ((eD,i2)))
def ai.l4 (m:Nat)(x4:(List Int))(i4:Int):Nat→(List ab)→Int→Option ((List ab) × Int)
 | 0,_,_=>none
 | k+1,dD,k2=>(ix dD i4).bind fun v6=>if (decide (k2<(v6.args.length:Int)))=true then ((ix dD i4).bind fun v7=>(ix dD i4).bind fun v8=>(ix v8.args k2).bind fun v9=>(ix x4 v9).bind fun v10=>(ix v7.args k2).bind fun v11=>ai.l4 m x4 i4 k (dD.set i4.toNat (ab.mk v7.kind v7.int v7.label (v7.args.set k2.toNat v10))) (i64.wrap (k2+(1:Int)))) else (some ((dD,k2)))
def ai.l3 (m:Nat)(x4:(List Int)):Nat→(List ab)→Int→Option ((List ab) × Int)
 | 0,_,_=>none
 | k+1,iF,i4=>if (decide (i4<(iF.length:Int)))=true then ((ai.l4 m x4 i4 m iF (0:Int)).bind fun oS=>match oS with | (Gq,k3)=>ai.l3 m x4 k Gq (i64.wrap (i4+(1:Int)))) else (some ((iF,i4)))
def ai.l5 (m:Nat)(x5:(List Int)):Nat→(List Int)→Int→Option ((List Int) × Int)
 | 0,_,_=>none
 | k+1,fb,i6=>if (decide (i6<(x5.length:Int)))=true then ((ix x5 i6).bind fun v12=>(ix fb v12).bind fun HK=>ai.l5 m x5 k (fb.set v12.toNat i6) (i64.wrap (i6+(1:Int)))) else (some ((fb,i6)))
def ai.l7 (m:Nat)(ck:List Int)(mM:ab):Nat→(List Int)→Int→Option ((List Int) × Int)
 | 0,_,_=>none
 | k+1,iG,k4=>if (decide (k4<(mM.args.length:Int)))=true then ((ix mM.args k4).bind fun lD=>(ix ck lD).bind fun Ll=>(app 8 iG ([Ll])).bind fun x6=>ai.l7 m ck mM k x6 (i64.wrap (k4+(1:Int)))) else (some ((iG,k4)))
def ai.l6 (m:Nat)(bQ:List ab)(x5:(List Int))(ck:List Int):Nat→Int→(List ab)→Int→Option (Int × (List ab) × Int)
 | 0,_,_,_=>none
 | k+1,i8,gu,l9=>if (decide (i8<(x5.length:Int)))=true then ((ix x5 i8).bind fun zx=>(ix bQ zx).bind fun mM=>(ai.l7 m ck mM m ([]:List Int) (0:Int)).bind fun Fv=>match Fv with | (y8,k5)=>(app 56 gu ([(ab.mk mM.kind mM.int mM.label y8)])).bind fun x7=>ai.l6 m bQ x5 ck k (i64.wrap (i8+(1:Int))) x7 l9) else (some ((i8,gu,l9)))
def ai.f (m:Nat)(l0:List ab)(gx:Int):Option (aj):=(aK.f m l0 gx).bind fun x0=>(uv 8 (l0.length:Int) (0:Int)).bind fun x1=>(ai.l0 m x0 m x1 (0:Int)).bind fun bq=>match bq with | (ba,i1)=>(ai.l1 m l0 x0 ba m ([]:List ab) (0:Int)).bind fun je=>match je with | (tV,i3)=>(ah.f m tV).bind fun x4=>(ai.l3 m x4 m tV (0:Int)).bind fun cF=>match cF with | (bQ,i5)=>(aK.f m bQ (0:Int)).bind fun x5=>(ai.l5 m x5 m ba (0:Int)).bind fun yG=>match yG with | (ck,i7)=>(ai.l6 m bQ x5 ck m (0:Int) ([]:List ab) (0:Int)).bind fun IX=>match IX with | (i9,Ia,Gr)=>some (aj.mk Ia Gr)
def ai.fin (L:Mem)(r:aj)(s:St):Prop:=∃av,aI Tryd.prog (s.open lq) Tryd.f57.results.toList=some av∧yi s.h av (.agg [af.fz r.nodes,.int .i64 r.root])
def SU (cf:CallF)(m:Nat):Prop:=∀(l0:List ab) (gx:Int) (r:aj),ai.f m l0 gx=some r→∀h xs,lV xs [af.fz l0,.int .i64 gx]→cf 57 xs h=some (.agg [af.fz r.nodes,.int .i64 r.root],h)
section
variable {cf:CallF}{m:Nat}
theorem ai.bI (L:Mem)(l0:List ab)(x0:(List Int))   : bE Tryd.prog cf lq m (sub [1,1,1,1,0,1,0,0] (codeOf Tryd.f57)) (fun k (σ:(List Int) × Int)=>ai.l0 m x0 k σ.1 σ.2) (fun σ s=>match σ with | (fa,i0)=>∃fV h1,s=⟨af.fz l0 :: .any :: .lp 4 0::aa.fz x0 :: .rs fV 0 fa.length 1 :: .rs (0) 0 (([]:List ab).length) 4 :: .int .i64 i0::Mg [],[some [.nils,.int .i64 (0:Int)],none,none,none],h1⟩∧Has h1 (((0),.sl (([]:List ab).length) 4 (gI.l (b7 ([]:List ab) ([]:List Nat))))::(fV,.sl fa.length 1 (aa.l fa))::(iI ([]:List ab) ([]:List Nat)++L))) (fun out e s=>(e = .exit 0∧∃fa i0,(fa,i0)=out∧∃oR KE fV h1,s=⟨af.fz l0 :: .any :: .lp 4 0::aa.fz x0 :: .rs fV 0 fa.length 1 :: .rs (0) 0 (([]:List ab).length) 4::oR::pS (KE::C2 []),[some [.nils,.int .i64 (0:Int)],none,none,none],h1⟩∧Has h1 (((0),.sl (([]:List ab).length) 4 (gI.l (b7 ([]:List ab) ([]:List Nat))))::(fV,.sl fa.length 1 (aa.l fa))::(iI ([]:List ab) ([]:List Nat)++L)))):=by
 refine gP (fun _=>rfl) ?_
 rintro k ⟨fa,i0⟩ s out ⟨fV,h1,rfl,o2⟩ H
 have H:ai.l0 m x0 (k+1) fa i0=some out:=H
 refine qq <| qq <| q0 <| qc H (fun c0 H=>?_) (fun c0 H=>?_)
 ·refine qk <| qq <| qb 1 ?_
  obtain⟨v0,e3,H⟩:=aH H
  obtain⟨v1,e4,H⟩:=aH H
  obtain⟨h2,e5,o3⟩:=dF (P:=Tryd.prog) (tf:=3) (E:=aa) (l:=fa) (q:=1) (v:=i0) (x:=.int .i64 i0) o2 rfl Z3 e4 rfl rfl
  exact qr [.v 3 (bo (k:=.i64) (E:=aa) (l:=x0) dz e3),.v 4 (cZ  (E:=aa) (l:=x0) h1 A3 e3 rfl),.v 6 (aE (k:=.i64) (E:=aa) (l:=fa) (q:=1) dz o2 rfl e4),.w 7 e5] <| q0 <| ⟨(fa.set v0.toNat i0,i64.wrap (i0+(1:Int))),⟨fV,h2,(W6 (b:=⟨af.fz l0 :: .any :: .lp 4 0::aa.fz x0 :: .rs fV 0 fa.length 1 :: .rs (0) 0 (([]:List ab).length) 4 :: .int .i64 (i64.wrap (i0+(1:Int)))::Mg [],[some [.nils,.int .i64 (0:Int)],none,none,none],h2⟩) (by kernel_rfl) (by simp only [Wd])),(by have o:Has h2 (((0),.sl (([]:List ab).length) 4 (gI.l (b7 ([]:List ab) ([]:List Nat))))::(fV,.sl fa.length 1 (aa.l (fa.set v0.toNat i0)))::(iI ([]:List ab) ([]:List Nat)++L)):=o3; simpa only [Wd] using o)⟩,H⟩
 ·exact qx 0 <| ⟨rfl,fa,i0,oi H,.int .i64 i0,.bool (decide (i0<(x0.length:Int))),fV,h1,by kernel_rfl,o2⟩
theorem ai.oU (L:Mem)(l0:List ab)(x0:(List Int))(da:Nat)(ba:List Int)(da:Nat)(fk:Nat)(eD:List ab)(i2:Int)(fk:Nat)(mN:List Nat)(v3:ab)   : bE Tryd.prog cf lq m (sub [1,1,1,1,1,0,1,0,0,1,0,0,1,1,0,1,0,0] (codeOf Tryd.f57)) (fun k (σ:(List Int) × Int)=>ai.l2 m ba v3 k σ.1 σ.2) (fun σ s=>match σ with | (ej,k0)=>∃gQ h5,s=⟨af.fz l0 :: .any :: .lp 4 0::aa.fz x0 :: .rs da 0 ba.length 1 :: .rs fk 0 eD.length 4 :: .any :: .int .i64 i2 :: .lp 10 0 :: .rs gQ 0 ej.length 1 :: .int .i64 k0::Mf [],[some [.nils,.int .i64 (0:Int)],some [.int .i64 v3.kind,.int .i64 v3.int,.str v3.label,aa.fz v3.args],none,none],h5⟩∧Has h5 ((gQ,.sl ej.length 1 (aa.l ej))::(fk,.sl eD.length 4 (gI.l (b7 eD mN)))::(da,.sl ba.length 1 (aa.l ba))::(iI eD mN++L))) (fun out e s=>(e = .exit 4∧∃ej k0,(ej,k0)=out∧∃Gc QC gQ h5,s=⟨af.fz l0 :: .any :: .lp 4 0::aa.fz x0 :: .rs da 0 ba.length 1 :: .rs fk 0 eD.length 4 :: .any :: .int .i64 i2 :: .lp 10 0 :: .rs gQ 0 ej.length 1::Gc::mD (QC::sY []),[some [.nils,.int .i64 (0:Int)],some [.int .i64 v3.kind,.int .i64 v3.int,.str v3.label,aa.fz v3.args],none,none],h5⟩∧Has h5 ((gQ,.sl ej.length 1 (aa.l ej))::(fk,.sl eD.length 4 (gI.l (b7 eD mN)))::(da,.sl ba.length 1 (aa.l ba))::(iI eD mN++L)))):=by
 refine gP (fun _=>rfl) ?_
 rintro k ⟨ej,k0⟩ s out ⟨gQ,h5,rfl,o7⟩ H
 have H:ai.l2 m ba v3 (k+1) ej k0=some out:=H
 refine qq <| qq <| q0 <| qc H (fun c2 H=>?_) (fun c2 H=>?_)
 ·refine qk <| qq <| qb 5 ?_
  obtain⟨v4,e9,H⟩:=aH H
  obtain⟨v5,nH,H⟩:=aH H
  obtain⟨x2,qS,H⟩:=aH H
  obtain⟨gL,h6,rX,o8⟩:=fD (P:=Tryd.prog) (E:=aa) (l:=ej) (q:=0) (t2:=42) (x:=.fz [.int .i64 v5] 1 true) (l2:=([v5])) dz o7 rfl (by kernel_rfl) rfl qS
  exact qr [.v 5 (bo (k:=.i64) (E:=aa) (l:=v3.args) dz e9),.v 6 (cZ  (E:=aa) (l:=v3.args) h5 A3 e9 rfl),.v 7 (aE (k:=.i64) (E:=aa) (l:=ba) (q:=2) dz o7 rfl nH),.v 8 (bf  (E:=aa) (l:=ba) (q:=2) o7 rfl A3 nH rfl),.a 10 rX] <| q0 <| ⟨(x2,i64.wrap (k0+(1:Int))),⟨gL,h6,by kernel_rfl,o8⟩,H⟩
 ·exact qx 4 <| ⟨rfl,ej,k0,oi H,.int .i64 k0,.bool (decide (k0<(v3.args.length:Int))),gQ,h5,by kernel_rfl,o7⟩
theorem ai.eQ (L:Mem)(l0:List ab)(x0:(List Int))(da:Nat)(ba:List Int)(da:Nat)   : bE Tryd.prog cf lq m (sub [1,1,1,1,1,0,1,0,0] (codeOf Tryd.f57)) (fun k (σ:(List ab) × Int)=>ai.l1 m l0 x0 ba k σ.1 σ.2) (fun σ s=>match σ with | (eD,i2)=>∃fk mN h4,s=⟨af.fz l0 :: .any :: .lp 4 0::aa.fz x0 :: .rs da 0 ba.length 1 :: .rs fk 0 eD.length 4 :: .any :: .int .i64 i2::JV [],[some [.nils,.int .i64 (0:Int)],none,none,none],h4⟩∧Has h4 ((fk,.sl eD.length 4 (gI.l (b7 eD mN)))::(da,.sl ba.length 1 (aa.l ba))::(iI eD mN++L))) (fun out e s=>(e = .exit 2∧∃eD i2,(eD,i2)=out∧∃kC uE tm QD fk mN h4,s=⟨kC :: .any :: .lp 4 0::uE :: .rs da 0 ba.length 1 :: .rs fk 0 eD.length 4 :: .any::tm::pS (QD::GV []),[some [.nils,.int .i64 (0:Int)],none,none,none],h4⟩∧Has h4 ((fk,.sl eD.length 4 (gI.l (b7 eD mN)))::(da,.sl ba.length 1 (aa.l ba))::(iI eD mN++L)))):=by
 refine gP (fun _=>rfl) ?_
 rintro k ⟨eD,i2⟩ s out ⟨fk,mN,h4,rfl,o5⟩ H
 have H:ai.l1 m l0 x0 ba (k+1) eD i2=some out:=H
 refine qq <| qq <| q0 <| qc H (fun c1 H=>?_) (fun c1 H=>?_)
 ·refine qk <| qq <| qb 3 <| qq ?_
  obtain⟨v2,e7,H⟩:=aH H
  obtain⟨v3,e8,H⟩:=aH H
  refine qr [.v 3 (bo (k:=.i64) (E:=aa) (l:=x0) dz e7),.v 4 (cZ  (E:=aa) (l:=x0) h4 A3 e7 rfl),.v 5 (bo (k:=.i64) (E:=af) (l:=l0) lh e8),.v 6 (cL  (E:=af) (l:=l0) h4 rU rV e8)] <| qq <| q0 ?_
  have o6:Has h4 ((((0)),.sl (([]:List Int).length) 1 (aa.l ([]:List Int)))::(fk,.sl eD.length 4 (gI.l (b7 eD mN)))::(da,.sl ba.length 1 (aa.l ba))::(iI eD mN++L)):=Has.nil o5 1
  refine qq <| qq <| q0 <| qb 4 ?_
  obtain⟨b9,rY,H⟩:=aH H
  refine ql (ai.oU L l0 x0 da ba da fk eD i2 fk mN v3   (([]:List Int),(0:Int)) _ _ ⟨((0)),h4,by kernel_rfl,o6⟩ rY) ?_
  rintro e s ⟨rfl,mb,k1,rfl,g2,g3,gM,h7,rfl,o9⟩
  try dsimp only at H
  refine q1 ?_
  obtain⟨x3,qT,H⟩:=aH H
  obtain⟨ik,QE,h8,pX,uA⟩:=JX (P:=Tryd.prog) (t2:=29) (pre:=[(da,.sl ba.length 1 (aa.l ba))]) (ns:=eD) (ids:=mN) (kind:=v3.kind) (int:=v3.int) (label:=v3.label) (args:=mb) (x:=.fz [.int .i64 v3.kind,.int .i64 v3.int,.str v3.label,.rs gM 0 mb.length 1] 1 true) lh (Has.front (Has.front (Has.front o9 2 rfl) 1 rfl) 2 rfl) (by kernel_rfl) rfl qT
  exact qr [.a 3 pX] <| q0 <| ⟨(x3,i64.wrap (i2+(1:Int))),⟨ik,QE,h8,by kernel_rfl,uA⟩,H⟩
 ·exact qx 2 <| ⟨rfl,eD,i2,oi H,af.fz l0,aa.fz x0,.int .i64 i2,.bool (decide (i2<(x0.length:Int))),fk,mN,h4,by kernel_rfl,o5⟩
theorem ai.tv (L:Mem)(da:Nat)(ba:List Int)(da:Nat)(x4:(List Int))(i4:Int)   : bE Tryd.prog cf lq m (sub [1,1,1,1,1,1,1,0,1,0,0,1,0,0,1,0,0] (codeOf Tryd.f57)) (fun k (σ:(List ab) × Int)=>ai.l4 m x4 i4 k σ.1 σ.2) (fun σ s=>match σ with | (dD,k2)=>∃eK jP h11,s=⟨.any :: .any :: .lp 4 0 :: .any :: .rs da 0 ba.length 1 :: .rs eK 0 dD.length 4::sY (aa.fz x4 :: .int .i64 i4 :: .int .i64 k2::HE []),[some [.nils,.int .i64 (0:Int)],none,none,none],h11⟩∧Has h11 ((eK,.sl dD.length 4 (gI.l (b7 dD jP)))::(da,.sl ba.length 1 (aa.l ba))::(iI dD jP++L))) (fun out e s=>(e = .exit 8∧∃dD k2,(dD,k2)=out∧∃wS QF eK jP h11,s=⟨.any :: .any :: .lp 4 0 :: .any :: .rs da 0 ba.length 1 :: .rs eK 0 dD.length 4::sY (aa.fz x4 :: .int .i64 i4::wS::oI (QF::ke [])),[some [.nils,.int .i64 (0:Int)],none,none,none],h11⟩∧Has h11 ((eK,.sl dD.length 4 (gI.l (b7 dD jP)))::(da,.sl ba.length 1 (aa.l ba))::(iI dD jP++L)))):=by
 refine gP (fun _=>rfl) ?_
 rintro k ⟨dD,k2⟩ s out ⟨eK,jP,h11,rfl,ly⟩ H
 have H:ai.l4 m x4 i4 (k+1) dD k2=some out:=H
 refine qq <| qq ?_
 obtain⟨v6,yD,H⟩:=aH H
 refine qr [.v 3 (aE (k:=.i64) (E:=gI) (l:=(b7 dD jP)) (q:=0) lh ly rfl (jZ yD)),.v 5 (wE  (E:=gI) (l:=(b7 dD jP)) (q:=0) (off:=3) ly rfl J0 (jZ yD) rfl)] <| qc H (fun c4 H=>?_) (fun c4 H=>?_)
 ·refine qk <| qq <| qb 9 ?_
  obtain⟨v7,uD,H⟩:=aH H
  obtain⟨v8,zw,H⟩:=aH H
  obtain⟨v9,BG,H⟩:=aH H
  obtain⟨v10,DJ,H⟩:=aH H
  obtain⟨v11,Fe,H⟩:=aH H
  obtain⟨h12,DK,yv⟩:=JY (P:=Tryd.prog) (tf:=3) (pre:=[(da,.sl ba.length 1 (aa.l ba))]) (v:=v10) ly Z3 uD Fe
  refine qr [.v 2 (aE (k:=.i64) (E:=gI) (l:=(b7 dD jP)) (q:=0) lh ly rfl (jZ uD)),.v 4 (wE  (E:=gI) (l:=(b7 dD jP)) (q:=0) (off:=3) ly rfl J0 (jZ uD) rfl),.v 9 (aE (k:=.i64) (E:=gI) (l:=(b7 dD jP)) (q:=0) lh ly rfl (jZ zw)),.v 11 (wE  (E:=gI) (l:=(b7 dD jP)) (q:=0) (off:=3) ly rfl J0 (jZ zw) rfl),.v 13 (aE (k:=.i64) (E:=aa) (l:=v8.args) dz ly (pT (pre:=[(eK,.sl dD.length 4 (gI.l (b7 dD jP))),(da,.sl ba.length 1 (aa.l ba))]) (ids:=jP) zw) BG),.v 14 (bf  (E:=aa) (l:=v8.args) ly (pT (pre:=[(eK,.sl dD.length 4 (gI.l (b7 dD jP))),(da,.sl ba.length 1 (aa.l ba))]) (ids:=jP) zw) A3 BG rfl),.v 15 (bo (k:=.i64) (E:=aa) (l:=x4) dz DJ),.v 16 (cZ  (E:=aa) (l:=x4) h11 A3 DJ rfl),.v 17 (aE (k:=.i64) (E:=aa) (l:=v7.args) dz ly (pT (pre:=[(eK,.sl dD.length 4 (gI.l (b7 dD jP))),(da,.sl ba.length 1 (aa.l ba))]) (ids:=jP) uD) Fe),.w 18 DK] ?_
  exact q0 <| ⟨(dD.set i4.toNat (ab.mk v7.kind v7.int v7.label (v7.args.set k2.toNat v10)),i64.wrap (k2+(1:Int))),⟨eK,jP,h12,(W6 (b:=⟨.any :: .any :: .lp 4 0 :: .any :: .rs da 0 ba.length 1 :: .rs eK 0 dD.length 4::sY (aa.fz x4 :: .int .i64 i4 :: .int .i64 (i64.wrap (k2+(1:Int)))::HE []),[some [.nils,.int .i64 (0:Int)],none,none,none],h12⟩) (by kernel_rfl) (by simp only [Wd])),(by have o:Has h12 ((eK,.sl dD.length 4 (gI.l (b7 (dD.set i4.toNat (ab.mk v7.kind v7.int v7.label (v7.args.set k2.toNat v10))) jP)))::(da,.sl ba.length 1 (aa.l ba))::(iI (dD.set i4.toNat (ab.mk v7.kind v7.int v7.label (v7.args.set k2.toNat v10))) jP++L)):=yv; simpa only [Wd] using o)⟩,H⟩
 ·exact qx 8 <| ⟨rfl,dD,k2,oi H,.int .i64 k2,.bool (decide (k2<(v6.args.length:Int))),eK,jP,h11,by kernel_rfl,ly⟩
theorem ai.tu (L:Mem)(da:Nat)(ba:List Int)(da:Nat)(x4:(List Int))   : bE Tryd.prog cf lq m (sub [1,1,1,1,1,1,1,0,1,0,0] (codeOf Tryd.f57)) (fun k (σ:(List ab) × Int)=>ai.l3 m x4 k σ.1 σ.2) (fun σ s=>match σ with | (iF,i4)=>∃xw y9 h10,s=⟨.any :: .any :: .lp 4 0 :: .any :: .rs da 0 ba.length 1 :: .rs xw 0 iF.length 4::sY (aa.fz x4 :: .int .i64 i4::EO []),[some [.nils,.int .i64 (0:Int)],none,none,none],h10⟩∧Has h10 ((xw,.sl iF.length 4 (gI.l (b7 iF y9)))::(da,.sl ba.length 1 (aa.l ba))::(iI iF y9++L))) (fun out e s=>(e = .exit 6∧∃iF i4,(iF,i4)=out∧∃nE Ai QG xw y9 h10,s=⟨.any :: .any :: .lp 4 0 :: .any :: .rs da 0 ba.length 1 :: .rs xw 0 iF.length 4::sY (nE::Ai::oI (QG::qQ [])),[some [.nils,.int .i64 (0:Int)],none,none,none],h10⟩∧Has h10 ((xw,.sl iF.length 4 (gI.l (b7 iF y9)))::(da,.sl ba.length 1 (aa.l ba))::(iI iF y9++L)))):=by
 refine gP (fun _=>rfl) ?_
 rintro k ⟨iF,i4⟩ s out ⟨xw,y9,h10,rfl,tq⟩ H
 have H:ai.l3 m x4 (k+1) iF i4=some out:=H
 refine qq <| qq <| q0 <| qc H (fun c3 H=>?_) (fun c3 H=>?_)
 ·refine qk <| qq <| qb 7 <| qq <| q0 <| qb 8 ?_
  obtain⟨oS,Ff,H⟩:=aH H
  refine ql (ai.tv L da ba da x4 i4   (iF,(0:Int)) _ _ ⟨xw,y9,h10,by kernel_rfl,tq⟩ Ff) ?_
  rintro e s ⟨rfl,Gq,k3,rfl,g8,g9,nK,QH,h13,rfl,zu⟩
  try dsimp only at H
  exact q0 <| ⟨(Gq,i64.wrap (i4+(1:Int))),⟨nK,QH,h13,by kernel_rfl,zu⟩,H⟩
 ·exact qx 6 <| ⟨rfl,iF,i4,oi H,aa.fz x4,.int .i64 i4,.bool (decide (i4<(iF.length:Int))),xw,y9,h10,by kernel_rfl,tq⟩
theorem ai.Gh (L:Mem)(fH:Nat)(bQ:List ab)(fH:Nat)(fW:List Nat)(x5:(List Int))   : bE Tryd.prog cf lq m (sub [1,1,1,1,1,1,1,1,1,0,1,0,0] (codeOf Tryd.f57)) (fun k (σ:(List Int) × Int)=>ai.l5 m x5 k σ.1 σ.2) (fun σ s=>match σ with | (fb,i6)=>∃gN h15,s=⟨.any :: .any :: .lp 4 0 :: .any :: .rs gN 0 fb.length 1 :: .rs fH 0 bQ.length 4::ri (aa.fz x5 :: .int .i64 i6::nD []),[some [.nils,.int .i64 (0:Int)],none,none,none],h15⟩∧Has h15 ((fH,.sl bQ.length 4 (gI.l (b7 bQ fW)))::(gN,.sl fb.length 1 (aa.l fb))::(iI bQ fW++L))) (fun out e s=>(e = .exit 10∧∃fb i6,(fb,i6)=out∧∃Ak Gi gN h15,s=⟨.any :: .any :: .lp 4 0 :: .any :: .rs gN 0 fb.length 1 :: .rs fH 0 bQ.length 4::ri (aa.fz x5::Ak::wK [Gi,.any,.any]),[some [.nils,.int .i64 (0:Int)],none,none,none],h15⟩∧Has h15 ((fH,.sl bQ.length 4 (gI.l (b7 bQ fW)))::(gN,.sl fb.length 1 (aa.l fb))::(iI bQ fW++L)))):=by
 refine gP (fun _=>rfl) ?_
 rintro k ⟨fb,i6⟩ s out ⟨gN,h15,rfl,Am⟩ H
 have H:ai.l5 m x5 (k+1) fb i6=some out:=H
 refine qq <| qq <| q0 <| qc H (fun c5 H=>?_) (fun c5 H=>?_)
 ·refine qk <| qq <| qb 11 ?_
  obtain⟨v12,Fh,H⟩:=aH H
  obtain⟨HK,Fi,H⟩:=aH H
  obtain⟨h16,Fg,Di⟩:=dF (P:=Tryd.prog) (tf:=3) (E:=aa) (l:=fb) (q:=1) (v:=i6) (x:=.int .i64 i6) Am rfl Z3 Fi rfl rfl
  exact qr [.v 3 (bo (k:=.i64) (E:=aa) (l:=x5) dz Fh),.v 4 (cZ  (E:=aa) (l:=x5) h15 A3 Fh rfl),.v 6 (aE (k:=.i64) (E:=aa) (l:=fb) (q:=1) dz Am rfl Fi),.w 7 Fg] <| q0 <| ⟨(fb.set v12.toNat i6,i64.wrap (i6+(1:Int))),⟨gN,h16,(W6 (b:=⟨.any :: .any :: .lp 4 0 :: .any :: .rs gN 0 fb.length 1 :: .rs fH 0 bQ.length 4::ri (aa.fz x5 :: .int .i64 (i64.wrap (i6+(1:Int)))::nD []),[some [.nils,.int .i64 (0:Int)],none,none,none],h16⟩) (by kernel_rfl) (by simp only [Wd])),(by have o:Has h16 ((fH,.sl bQ.length 4 (gI.l (b7 bQ fW)))::(gN,.sl fb.length 1 (aa.l (fb.set v12.toNat i6)))::(iI bQ fW++L)):=Di; simpa only [Wd] using o)⟩,H⟩
 ·exact qx 10 <| ⟨rfl,fb,i6,oi H,.int .i64 i6,.bool (decide (i6<(x5.length:Int))),gN,h15,by kernel_rfl,Am⟩
theorem ai.Ns (L:Mem)(fH:Nat)(bQ:List ab)(fH:Nat)(fW:List Nat)(x5:(List Int))(jL:Nat)(ck:List Int)(jL:Nat)(ij:Nat)(i8:Int)(gu:List ab)(l9:Int)(ij:Nat)(zx:Int)(mM:ab)(GY:ix bQ zx=some mM)   : bE Tryd.prog cf lq m (sub [1,1,1,1,1,1,1,1,1,1,1,0,1,0,0,1,0,0,1,1,0,1,0,0] (codeOf Tryd.f57)) (fun k (σ:(List Int) × Int)=>ai.l7 m ck mM k σ.1 σ.2) (fun σ s=>match σ with | (iG,k4)=>∃lA h19,s=⟨.any :: .any :: .lp 4 0 :: .any :: .rs jL 0 ck.length 1 :: .rs fH 0 bQ.length 4::ri (aa.fz x5 :: .any :: .lp 18 0 :: .int .i64 i8 :: .lp 20 0 :: .rs lA 0 iG.length 1 :: .int .i64 k4::ri []),[some [.nils,.int .i64 (0:Int)],none,some [.rs ij 0 gu.length 4,.int .i64 l9],some [.int .i64 mM.kind,.int .i64 mM.int,.str mM.label,.rs (IF fW zx) 0 mM.args.length 1]],h19⟩∧Has h19 ((lA,.sl iG.length 1 (aa.l iG))::(ij,.sl gu.length 4 (af.l gu))::(fH,.sl bQ.length 4 (gI.l (b7 bQ fW)))::(jL,.sl ck.length 1 (aa.l ck))::(iI bQ fW++L))) (fun out e s=>(e = .exit 14∧∃iG k4,(iG,k4)=out∧∃Al Nt lA h19,s=⟨.any :: .any :: .lp 4 0 :: .any :: .rs jL 0 ck.length 1 :: .rs fH 0 bQ.length 4::ri (aa.fz x5 :: .any :: .lp 18 0 :: .int .i64 i8 :: .lp 20 0 :: .rs lA 0 iG.length 1::Al::C2 [Nt]),[some [.nils,.int .i64 (0:Int)],none,some [.rs ij 0 gu.length 4,.int .i64 l9],some [.int .i64 mM.kind,.int .i64 mM.int,.str mM.label,.rs (IF fW zx) 0 mM.args.length 1]],h19⟩∧Has h19 ((lA,.sl iG.length 1 (aa.l iG))::(ij,.sl gu.length 4 (af.l gu))::(fH,.sl bQ.length 4 (gI.l (b7 bQ fW)))::(jL,.sl ck.length 1 (aa.l ck))::(iI bQ fW++L)))):=by
 refine gP (fun _=>rfl) ?_
 rintro k ⟨iG,k4⟩ s out ⟨lA,h19,rfl,DM⟩ H
 have H:ai.l7 m ck mM (k+1) iG k4=some out:=H
 refine qq <| qq <| q0 <| qc H (fun c7 H=>?_) (fun c7 H=>?_)
 ·refine qk <| qq <| qb 15 ?_
  obtain⟨lD,Ld,H⟩:=aH H
  obtain⟨Ll,Le,H⟩:=aH H
  obtain⟨x6,MM,H⟩:=aH H
  obtain⟨qi,h20,MN,HN⟩:=fD (P:=Tryd.prog) (E:=aa) (l:=iG) (q:=0) (t2:=42) (x:=.fz [.int .i64 Ll] 1 true) (l2:=([Ll])) dz DM rfl (by kernel_rfl) rfl MM
  exact qr [.v 5 (aE (k:=.i64) (E:=aa) (l:=mM.args) dz DM (pT (pre:=[(lA,.sl iG.length 1 (aa.l iG)),(ij,.sl gu.length 4 (af.l gu)),(fH,.sl bQ.length 4 (gI.l (b7 bQ fW))),(jL,.sl ck.length 1 (aa.l ck))]) (ids:=fW) GY) Ld),.v 6 (bf  (E:=aa) (l:=mM.args) DM (pT (pre:=[(lA,.sl iG.length 1 (aa.l iG)),(ij,.sl gu.length 4 (af.l gu)),(fH,.sl bQ.length 4 (gI.l (b7 bQ fW))),(jL,.sl ck.length 1 (aa.l ck))]) (ids:=fW) GY) A3 Ld rfl),.v 7 (aE (k:=.i64) (E:=aa) (l:=ck) (q:=3) dz DM rfl Le),.v 8 (bf  (E:=aa) (l:=ck) (q:=3) DM rfl A3 Le rfl),.a 10 MN] <| q0 <| ⟨(x6,i64.wrap (k4+(1:Int))),⟨qi,h20,by kernel_rfl,HN⟩,H⟩
 ·exact qx 14 <| ⟨rfl,iG,k4,oi H,.int .i64 k4,.bool (decide (k4<(mM.args.length:Int))),lA,h19,by kernel_rfl,DM⟩
theorem ai.Gg (L:Mem)(fH:Nat)(bQ:List ab)(fH:Nat)(fW:List Nat)(x5:(List Int))(jL:Nat)(ck:List Int)(jL:Nat)   : bE Tryd.prog cf lq m (sub [1,1,1,1,1,1,1,1,1,1,1,0,1,0,0] (codeOf Tryd.f57)) (fun k (σ:Int × (List ab) × Int)=>ai.l6 m bQ x5 ck k σ.1 σ.2.1 σ.2.2) (fun σ s=>match σ with | (i8,gu,l9)=>∃ij h18,s=⟨.any :: .any :: .lp 4 0 :: .any :: .rs jL 0 ck.length 1 :: .rs fH 0 bQ.length 4::ri (aa.fz x5 :: .any :: .lp 18 0 :: .int .i64 i8::oI []),[some [.nils,.int .i64 (0:Int)],none,some [.rs ij 0 gu.length 4,.int .i64 l9],none],h18⟩∧Has h18 ((ij,.sl gu.length 4 (af.l gu))::(fH,.sl bQ.length 4 (gI.l (b7 bQ fW)))::(jL,.sl ck.length 1 (aa.l ck))::(iI bQ fW++L))) (fun out e s=>(e = .exit 12∧∃i8 gu l9,(i8,gu,l9)=out∧∃Ar uz FX Kz Nu ij h18,s=⟨.any :: .any :: .lp 4 0 :: .any::Ar::uz::ri (FX :: .any :: .lp 18 0::Kz::C3 [Nu,.any]),[some [.nils,.int .i64 (0:Int)],none,some [.rs ij 0 gu.length 4,.int .i64 l9],none],h18⟩∧Has h18 ((ij,.sl gu.length 4 (af.l gu))::(fH,.sl bQ.length 4 (gI.l (b7 bQ fW)))::(jL,.sl ck.length 1 (aa.l ck))::(iI bQ fW++L)))):=by
 refine gP (fun _=>rfl) ?_
 rintro k ⟨i8,gu,l9⟩ s out ⟨ij,h18,rfl,wX⟩ H
 have H:ai.l6 m bQ x5 ck (k+1) i8 gu l9=some out:=H
 refine qq <| qq <| q0 <| qc H (fun c6 H=>?_) (fun c6 H=>?_)
 ·refine qk <| qq <| qb 13 <| qq ?_
  obtain⟨zx,Kg,H⟩:=aH H
  obtain⟨mM,GY,H⟩:=aH H
  refine qr [.v 3 (bo (k:=.i64) (E:=aa) (l:=x5) dz Kg),.v 4 (cZ  (E:=aa) (l:=x5) h18 A3 Kg rfl),.v 5 (aE (k:=.i64) (E:=gI) (l:=(b7 bQ fW)) (q:=1) lh wX rfl (jZ GY)),.v 6 (Hs  (E:=gI) (l:=(b7 bQ fW)) (q:=1) wX rfl rU rV (jZ GY))] <| qq <| q0 ?_
  have FA:Has h18 ((((((0)))),.sl (([]:List Int).length) 1 (aa.l ([]:List Int)))::(ij,.sl gu.length 4 (af.l gu))::(fH,.sl bQ.length 4 (gI.l (b7 bQ fW)))::(jL,.sl ck.length 1 (aa.l ck))::(iI bQ fW++L)):=Has.nil wX 1
  refine qq <| qq <| q0 <| qb 14 ?_
  obtain⟨Fv,Ki,H⟩:=aH H
  refine ql (ai.Ns L fH bQ fH fW x5 jL ck jL ij i8 gu l9 ij zx mM GY   (([]:List Int),(0:Int)) _ _ ⟨((((0)))),h18,by kernel_rfl,FA⟩ Ki) ?_
  rintro e s ⟨rfl,y8,k5,rfl,g15,g16,qm,h21,rfl,MP⟩
  try dsimp only at H
  refine qq ?_
  obtain⟨h22,Lg,mI⟩:=iz (E:=aa) (l:=y8) (q:=0) MP rfl
  refine yr [.a 0 Lg] [] ?_
  obtain⟨x7,MO,H⟩:=aH H
  obtain⟨Kx,h23,HO,IL⟩:=fD (P:=Tryd.prog) (E:=af) (l:=gu) (q:=0) (t2:=29) (x:=.fz [.int .i64 mM.kind,.int .i64 mM.int,.str mM.label,aa.fz y8] 1 true) (l2:=([(ab.mk mM.kind mM.int mM.label y8)])) lh mI rfl (by kernel_rfl) rfl MO
  exact qr [.a 4 HO] <| q0 <| ⟨(i64.wrap (i8+(1:Int)),x7,l9),⟨Kx,h23,by kernel_rfl,IL⟩,H⟩
 ·exact qx 12 <| ⟨rfl,i8,gu,l9,oi H,.rs jL 0 ck.length 1,.rs fH 0 bQ.length 4,aa.fz x5,.int .i64 i8,.bool (decide (i8<(x5.length:Int))),ij,h18,by kernel_rfl,wX⟩
theorem qv {aV:FuncId→cb}(ha:aV 57=lq)(Nv:SJ cf m)(QI:Sy cf m)(l0:List ab)(gx:Int)(h:AHeap)(L:Mem)  (o:Has h (L)){out:aj}(H:ai.f m l0 gx=some out) :
  ∃r h',be Tryd.prog aV cf m 57 [af.fz l0,.int .i64 gx] h=some (r,h')∧yi h' r (.agg [af.fz out.nodes,.int .i64 out.root]):=by
 refine aq (fn:=Tryd.f57) ha Tryd.func57 (by kernel_rfl) (by kernel_rfl) ?_
 refine aG (Q:=fun s=>ai.fin L out s) (fun _ _ h=>h) ?_
 have H:_=some out:=H
 unfold ai.f at H
 show de _ cf lq m _ ⟨af.fz l0 :: .int .i64 gx::Mh [],[none,none,none,none],h⟩ _
 refine q1 <| qq ?_
 obtain⟨x0,e0,H⟩:=aH H
 refine qr [.a 2 (Nv _ _ _ e0 h _ (gO (ae (cK (E:=af)) (ae (aM) (az)))))] <| qq ?_
 obtain⟨x1,e1,H⟩:=aH H
 obtain⟨aA,h0,e2,o0⟩:=nB (P:=Tryd.prog) (E:=aa) (z:=(0:Int)) (zv:=.int .i64 (0:Int)) dz o 3 rfl rfl rfl rfl e1
 refine qr [.a 2 e2] <| qq <| q0 ?_
 have o1:Has h0 (((0),.sl (([]:List ab).length) 4 (gI.l (b7 ([]:List ab) ([]:List Nat))))::(aA,.sl x1.length 1 (aa.l x1))::(iI ([]:List ab) ([]:List Nat)++L)):=Has.nil o0 4
 refine qq <| qq <| q0 <| qb 0 ?_
 obtain⟨bq,e6,H⟩:=aH H
 refine ql (ai.bI L l0 x0   (x1,(0:Int)) _ _ ⟨aA,h0,by kernel_rfl,o1⟩ e6) ?_
 rintro e s ⟨rfl,ba,i1,rfl,g0,g1,da,h3,rfl,o4⟩
 try dsimp only at H
 refine qq <| qq <| q0 <| qb 2 ?_
 obtain⟨je,uC,H⟩:=aH H
 refine ql (ai.eQ L l0 x0 da ba da   (([]:List ab),(0:Int)) _ _ ⟨(0),([]:List Nat),h3,by kernel_rfl,o4⟩ uC) ?_
 rintro e s ⟨rfl,tV,i3,rfl,g4,g5,g6,g7,kG,KF,h9,rfl,vk⟩
 try dsimp only at H
 refine qq ?_
 obtain⟨x4,uf,H⟩:=aH H
 refine qr [.a 1 (QI _ _ uf h9 _ (gO (ae (EX (pre:=[(kG,.sl tV.length 4 (gI.l (b7 tV KF))),(da,.sl ba.length 1 (aa.l ba))]) (ns:=tV) (ids:=KF) (q:=0) vk rfl) (az))))] <| qq <| qq <| q0 <| qb 6 ?_
 obtain⟨cF,Fj,H⟩:=aH H
 refine ql (ai.tu L da ba da x4   (tV,(0:Int)) _ _ ⟨kG,KF,h9,by kernel_rfl,vk⟩ Fj) ?_
 rintro e s ⟨rfl,bQ,i5,rfl,g10,g11,g12,fH,fW,h14,rfl,lC⟩
 try dsimp only at H
 refine qq ?_
 obtain⟨x5,GX,H⟩:=aH H
 refine qr [.a 1 (Nv _ _ _ GX h14 _ (gO (ae (EX (pre:=[(fH,.sl bQ.length 4 (gI.l (b7 bQ fW))),(da,.sl ba.length 1 (aa.l ba))]) (ns:=bQ) (ids:=fW) (q:=0) lC rfl) (ae (aM) (az)))))] <| qq <| qq <| q0 <| qb 10 ?_
 obtain⟨yG,HL,H⟩:=aH H
 refine ql (ai.Gh L fH bQ fH fW x5   (ba,(0:Int)) _ _ ⟨da,h14,by kernel_rfl,lC⟩ HL) ?_
 rintro e s ⟨rfl,ck,i7,rfl,g13,g14,jL,h17,rfl,Dj⟩
 try dsimp only at H
 refine q1 ?_
 have Kh:Has h17 (((((0))),.sl (([]:List ab).length) 4 (af.l ([]:List ab)))::(fH,.sl bQ.length 4 (gI.l (b7 bQ fW)))::(jL,.sl ck.length 1 (aa.l ck))::(iI bQ fW++L)):=Has.nil Dj 4
 refine qq <| qq <| q0 <| qb 12 ?_
 obtain⟨IX,IJ,H⟩:=aH H
 refine ql (ai.Gg L fH bQ fH fW x5 jL ck jL   ((0:Int),([]:List ab),(0:Int)) _ _ ⟨(((0))),h17,by kernel_rfl,Kh⟩ IJ) ?_
 rintro e s ⟨rfl,i9,Ia,Gr,rfl,g17,g18,g19,g20,g21,gW,h24,rfl,GZ⟩
 try dsimp only at H
 refine qq ?_
 obtain⟨h25,IK,MQ⟩:=iz (E:=af) (l:=Ia) (q:=0) GZ rfl
 refine yr [.a 0 IK] [] ?_
 have MR:Has h25 ((fH,.sl bQ.length 4 (gI.l (b7 bQ fW)))::(iI bQ fW++L)):=Has.del MQ 1
 have NZ:Has h25 (L):=Has.gone (pre:=[]) (Has.del MR 0)
 obtain rfl:=oi H
 exact qt <| ⟨.inl rfl,wM (.agg [af.fz Ia,.int .i64 Gr]) h25 (pF (cP (ae (cK) (ae (aM) (az)))))⟩
end
end Go.Proofs.YtmekcfdllhphlaaDoor
namespace Go.Proofs.YtmekcfdllhphlaaDoor
open Go Go.R
open Go.IntKind (i64 u64 u8 u32)
def B9:cb:=gJ [0,1,2,3,6] [1,2] [25,9,19,19] [] []
def eW.f (m:Nat)(t0:aj):Option (aj × Int):=(bW.f m t0).bind fun x0=>if (!x0)=true then (some ((aj.mk ([]) (0:Int)),(2:Int))) else ((ai.f m t0.nodes t0.root).bind fun x1=>some (x1,(0:Int)))
def eW.fin (L:Mem)(r:aj × Int)(s:St):Prop:=∃av,aI Tryd.prog (s.open B9) Tryd.f37.results.toList=some av∧yi s.h av (.tup [.agg [af.fz r.1.nodes,.int .i64 r.1.root],.int .i64 r.2])
def QJ (cf:CallF)(m:Nat):Prop:=∀(t0:aj) (r:aj × Int),eW.f m t0=some r→∀h xs,lV xs [.agg [af.fz t0.nodes,.int .i64 t0.root]]→cf 37 xs h=some (.tup [.agg [af.fz r.1.nodes,.int .i64 r.1.root],.int .i64 r.2],h)
section
variable {cf:CallF}{m:Nat}
theorem qw {aV:FuncId→cb}(ha:aV 37=B9)(QK:SS cf m)(QL:SU cf m)(t0:aj)(h:AHeap)(L:Mem)  (o:Has h (L)){out:aj × Int}(H:eW.f m t0=some out) :
  ∃r h',be Tryd.prog aV cf m 37 [.agg [af.fz t0.nodes,.int .i64 t0.root]] h=some (r,h')∧yi h' r (.tup [.agg [af.fz out.1.nodes,.int .i64 out.1.root],.int .i64 out.2]):=by
 refine aq (fn:=Tryd.f37) ha Tryd.func37 (by kernel_rfl) (by kernel_rfl) ?_
 refine aG (Q:=fun s=>eW.fin L out s) (fun _ _ h=>h) ?_
 have H:_=some out:=H
 unfold eW.f at H
 show de _ cf B9 m _ ⟨.agg [af.fz t0.nodes,.int .i64 t0.root]::qQ [],[none,none],h⟩ _
 refine q1 <| qq <| qq ?_
 obtain⟨x0,e0,H⟩:=aH H
 refine qr [.a 1 (QK _ _ e0 h _ (gO (ae (cP (ae (cK (E:=af)) (ae (aM) (az)))) (az))))] <| qc H (fun c0 H=>?_) (fun c0 H=>?_)
 ·obtain rfl:=oi H
  exact q1 <| qt <| ⟨.inl rfl,wM (.tup [.agg [.nils,.int .i64 (0:Int)],.int .i64 (2:Int)]) h (pF (gj (ae (cP (ae (gD) (ae (aM) (az)))) (ae (aM) (az)))))⟩
 ·refine qk <| qq ?_
  obtain⟨x1,e1,H⟩:=aH H
  obtain rfl:=oi H
  exact qr [.a 4 (QL _ _ _ e1 h _ (cR (ib (E:=af)) (cR (bD) (gH))))] <| qt <| ⟨.inl rfl,wM (.tup [.agg [af.fz x1.nodes,.int .i64 x1.root],.int .i64 (0:Int)]) h (pF (gj (ae (cP (ae (cK) (ae (aM) (az)))) (ae (aM) (az)))))⟩
end
end Go.Proofs.YtmekcfdllhphlaaDoor
namespace Go.Proofs.YtmekcfdllhphlaaDoor
open Go Go.R
open Go.IntKind (i64 u64 u8 u32)
end Go.Proofs.YtmekcfdllhphlaaDoor
namespace Go.Proofs.YtmekcfdllhphlaaDoor
open Go Go.R
open Go.IntKind (i64 u64 u8 u32)
end Go.Proofs.YtmekcfdllhphlaaDoor
namespace Go.Proofs.YtmekcfdllhphlaaDoor
open Go Go.R
open Go.IntKind (i64 u64 u8 u32)
end Go.Proofs.YtmekcfdllhphlaaDoor
namespace Go.Proofs.YtmekcfdllhphlaaDoor
open Go Go.R
open Go.IntKind (i64 u64 u8 u32)
end Go.Proofs.YtmekcfdllhphlaaDoor
namespace Go.Proofs.YtmekcfdllhphlaaDoor
open Go Go.R
open Go.IntKind (i64 u64 u8 u32)
end Go.Proofs.YtmekcfdllhphlaaDoor
namespace Go.Proofs.YtmekcfdllhphlaaDoor
open Go Go.R
open Go.IntKind (i64 u64 u8 u32)
end Go.Proofs.YtmekcfdllhphlaaDoor
namespace Go.Proofs.YtmekcfdllhphlaaDoor
open Go Go.R
open Go.IntKind (i64 u64 u8 u32)
end Go.Proofs.YtmekcfdllhphlaaDoor
namespace Go.Proofs.YtmekcfdllhphlaaDoor
open Go Go.R
open Go.IntKind (i64 u64 u8 u32)
theorem xm {m:Nat}(c:Int):eV.f m c=some (gG c):=by
 unfold eV.f
 by_cases h1:97≤c<;>by_cases h2:c≤122<;>by_cases h3:65≤c<;>by_cases h4:c≤90<;>by_cases h5:48≤c<;>by_cases h6:c≤57<;>simp [gG,h1,h2,h3,h4,h5,h6]<;>omega
theorem za {m:Nat}{s:ByteArray}(hs:s.size≤16):∀(f i:Nat),s.size - i<f→i≤s.size→
  ∃o,cj.l0 m s f (i:Int)=some o∧((∃x,o = .inr x)∧((s.data.toList.drop i).all fun c=>gG (c.toNat:Int))=true∨o = .inl false∧((s.data.toList.drop i).all fun c=>gG (c.toNat:Int))=false)
 | 0,i,hf,_=>absurd hf (by omega)
 | f+1,i,hf,hi=>by
  unfold cj.l0
  by_cases h:i<s.size
  ·obtain⟨c,hc,hb⟩:=rW h
   obtain⟨h4,h5⟩:=Wb.1 hc
   have hd:s.data.toList.drop i=c::s.data.toList.drop (i+1):=by rw [←h5]; exact Wi h4
   rw [if_pos (by simp only [decide_eq_true_eq]; omega),hb,V3,xm,V3,hd,W2]
   cases hl:gG (c.toNat:Int) with
   | false=>exact⟨_,rfl,.inr ⟨rfl,rfl⟩⟩
   | true=>
    obtain⟨o,h1,h2⟩:=za (m:=m) hs f (i+1) (by omega) (by omega)
    rw [if_neg (by simp),aC (by omega) (by omega),show (i:Int)+1=((i+1:Nat):Int) by omega,h1]
    exact⟨o,rfl,by simpa using h2⟩
  ·refine⟨_,by rw [if_neg (by simp only [decide_eq_true_eq]; omega)],.inl ⟨⟨_,rfl⟩,?_⟩⟩
   rw [WO (by simp; omega)]; rfl
def Gs (s:ByteArray):Bool:=decide (1≤s.data.toList.length)&&decide (s.data.toList.length≤16)&&s.data.toList.all fun c=>gG (c.toNat:Int)
theorem AO {m:Nat}(hm:20≤m)(s:ByteArray):cj.f m s=some (Gs s):=by
 have hsz:s.size=s.data.toList.length:=by simp
 unfold cj.f Gs
 by_cases h1:1≤s.data.toList.length
 ·by_cases h2:s.data.toList.length≤16
  ·obtain⟨o,k1,k2⟩:=za (m:=m) (s:=s) (by omega) m 0 (by omega) (by omega)
   have k1:cj.l0 m s m 0=_:=k1
   rw [WK] at k2
   rw [if_neg (by simp only [decide_eq_true_eq]; omega),if_neg (by simp only [decide_eq_true_eq]; omega),k1,V3,decide_eq_true h1,decide_eq_true h2]
   simp only [Xl]
   rcases k2 with⟨⟨x,rfl⟩,k⟩| ⟨rfl,k⟩
   ·rw [k]
   ·rw [k]
  ·rw [if_neg (by simp only [decide_eq_true_eq]; omega),if_pos (by simp only [decide_eq_true_eq]; omega),decide_eq_false h2,Bool.and_false]; rfl
 ·rw [if_pos (by simp only [decide_eq_true_eq]; omega),decide_eq_false h1]; rfl
theorem qZ {m:Nat}(hm:20≤m)(s:ByteArray):dT.f m s=some (lj s):=by
 have hsz:s.size=s.data.toList.length:=by simp
 unfold dT.f lj
 show (if (s.data.toList==[124])=true then _ else if (s.data.toList==[35])=true then _ else _)=_
 cases h1:s.data.toList==[124] with
 | true=>rfl
 | false=>
  cases h2:s.data.toList==[35] with
  | true=>rfl
  | false=>
   simp only [Wj,if_false,Bool.false_or]
   rw [AO hm,V3]
   unfold Gs yz
   cases hl:s.data.toList with
   | nil=>rfl
   | cons c cs=>
    obtain⟨c',g1,g2⟩:=rW (s:=s) (i:=0) (by rw [hsz,hl]; simp)
    rw [hl] at g1
    simp only [WJ,V6] at g1
    subst g1
    have g2:bt s 0=_:=g2
    rw [g2]
    simp only [V3,Wp]
    cases ha:(c::cs).all fun c=>gG (c.toNat:Int) with
    | false=>simp
    | true=>
     by_cases h3:cs.length≤15
     ·rw [decide_eq_true (show 1≤cs.length+1 by omega),decide_eq_true (show cs.length+1≤16 by omega),decide_eq_true h3]
      simp only [Bool.and_self,if_true,Bool.and_true,Xl]
      by_cases h4:(97:Int)≤(c.toNat:Int)
      ·rw [if_pos (by simpa using h4),decide_eq_true h4]; rfl
      ·rw [if_neg (by simpa using h4),decide_eq_false h4]; rfl
     ·rw [decide_eq_false (show ¬cs.length+1≤16 by omega),decide_eq_false h3]; simp
theorem zb {m:Nat}{n:ab}{size:Int}(h8:n.args.length≤8):∀(f i:Nat),n.args.length - i<f→i≤n.args.length→
  ∃o,bV.l0 m n size f (i:Int)=some o∧((∃x,o = .inr x)∧((n.args.drop i).all fun a=>decide (0≤a)&&decide (a<size))=true∨o = .inl false∧((n.args.drop i).all fun a=>decide (0≤a)&&decide (a<size))=false)
 | 0,i,hf,_=>absurd hf (by omega)
 | f+1,i,hf,hi=>by
  unfold bV.l0
  by_cases h:i<n.args.length
  ·have hd:n.args.drop i=gt n.args i::n.args.drop (i+1):=by
    obtain⟨h4,h5⟩:=Wb.1 (bp h)
    rw [←h5]; exact Wi h4
   rw [if_pos (by simp only [decide_eq_true_eq]; omega),cn h,V3,hd,W2,V3]
   by_cases h1:gt n.args i<0
   ·rw [if_pos (by simpa using h1),decide_eq_false (show ¬0≤gt n.args i by omega)]
    exact⟨_,rfl,.inr ⟨rfl,rfl⟩⟩
   ·rw [if_neg (by simpa using h1),decide_eq_true (show 0≤gt n.args i by omega)]
    by_cases h2:gt n.args i<size
    ·obtain⟨o,k1,k2⟩:=zb (m:=m) (size:=size) h8 f (i+1) (by omega) (by omega)
     rw [if_neg (by simp only [decide_eq_true_eq]; omega),decide_eq_true h2,aC (by omega) (by omega),show (i:Int)+1=((i+1:Nat):Int) by omega,k1]
     exact⟨o,rfl,by simpa using k2⟩
    ·rw [if_pos (by simp only [decide_eq_true_eq]; omega),decide_eq_false h2]
     exact⟨_,rfl,.inr ⟨rfl,rfl⟩⟩
  ·refine⟨_,by rw [if_neg (by simp only [decide_eq_true_eq]; omega)],.inl ⟨⟨_,rfl⟩,?_⟩⟩
   rw [WO (by omega)]; rfl
theorem AP {m:Nat}(hm:20≤m)(n:ab)(size:Int):bV.f m n size=some (j4 n size):=by
 unfold bV.f j4
 by_cases k0:n.kind=0
 ·rw [if_pos (by simpa using k0),if_pos k0]
  by_cases h1:0≤n.int
  ·rw [if_pos (by simpa using h1),show decide (0≤n.int)=true by simpa using h1]
   show (if (n.label.data.toList==[])=true then _ else _)=_
   cases n.label.data.toList==[] with
   | true=>rw [if_pos rfl,yB]; rfl
   | false=>rfl
  ·rw [if_neg (by simpa using h1),show decide (0≤n.int)=false by simp; omega]; rfl
 rw [if_neg (by simpa using k0),if_neg k0]
 by_cases k1:n.kind=1
 ·rw [if_pos (by simpa using k1),if_pos k1]
  by_cases h1 : -1099511627776≤n.int
  ·rw [if_pos (by simpa using h1),show decide (-1099511627776≤n.int)=true by simpa using h1]
   by_cases h3:n.int≤1099511627776
   ·rw [if_pos (by simpa using h3),show decide (n.int≤1099511627776)=true by simpa using h3]
    show (if (n.label.data.toList==[])=true then _ else _)=_
    cases n.label.data.toList==[] with
    | true=>rw [if_pos rfl,yB]; rfl
    | false=>rfl
   ·rw [if_neg (by simpa using h3),show decide (n.int≤1099511627776)=false by simp; omega]; rfl
  ·rw [if_neg (by simpa using h1),show decide (-1099511627776≤n.int)=false by simp; omega]; rfl
 rw [if_neg (by simpa using k1),if_neg k1]
 by_cases k2:n.kind=2
 ·rw [if_pos (by simpa using k2),if_pos k2,qZ hm,V3]
  cases lj n.label with
  | false=>simp
  | true=>
   rw [if_pos rfl]
   cases h1:n.int==0 with
   | false=>rfl
   | true=>rw [if_pos rfl,yB]; rfl
 rw [if_neg (by simpa using k2),if_neg k2]
 by_cases k4:n.kind=4
 ·rw [if_pos (by simpa using k4),if_neg (show ¬n.kind=3 by omega),if_pos k4]
  unfold yA
  show (if (n.label.data.toList==[112,114,111,99])=true then _ else if (n.label.data.toList==[99,101,108,108])=true then _ else if (n.label.data.toList==[112,111,114,116])=true then _ else _)=_
  by_cases h1:0≤n.int
  ·have d1:decide (n.int≥0)=true:=decide_eq_true h1
   rw [d1]
   cases n.label.data.toList==[112,114,111,99]<;>cases n.label.data.toList==[99,101,108,108]<;>cases n.label.data.toList==[112,111,114,116]<;>first | rfl | (show some ((n.args.length:Int)==(0:Int))=_; rw [yB]; rfl)
  ·have d1:decide (n.int≥0)=false:=decide_eq_false h1
   rw [d1]
   cases n.label.data.toList==[112,114,111,99]<;>cases n.label.data.toList==[99,101,108,108]<;>cases n.label.data.toList==[112,111,114,116]<;>rfl
 rw [if_neg (by simpa using k4)]
 by_cases k3:n.kind=3
 ·rw [if_pos (by simpa using k3),if_pos k3,qZ hm,V3]
  cases lj n.label with
  | false=>simp
  | true=>
   cases h1:n.int==0 with
   | false=>rfl
   | true=>
    simp only [Bool.not_true,Wj,if_false,Bool.and_self,Xl]
    by_cases g1:1≤n.args.length
    ·rw [if_neg (by simp only [decide_eq_true_eq]; omega),decide_eq_true g1]
     by_cases g2:n.args.length≤8
     ·obtain⟨o,k1,k2⟩:=zb (m:=m) (size:=size) g2 m 0 (by omega) (by omega)
      have k1:bV.l0 m n size m 0=_:=k1
      rw [WK] at k2
      rw [if_neg (by simp only [decide_eq_true_eq]; omega),decide_eq_true g2,k1,V3]
      simp only [Xl]
      rcases k2 with⟨⟨x,rfl⟩,k⟩| ⟨rfl,k⟩
      ·rw [k]
      ·rw [k]
     ·rw [if_pos (by simp only [decide_eq_true_eq]; omega),decide_eq_false g2]; simp
    ·rw [if_pos (by simp only [decide_eq_true_eq]; omega),decide_eq_false g1]; simp
 rw [if_neg (by simpa using k3),if_neg k3,if_neg k4]
theorem vE {m:Nat}(hm:20≤m){t:aj}(hl:t.nodes.length≤8000):∀(f i:Nat),t.nodes.length - i<f→i≤t.nodes.length→
  ∃o,bW.l0 m t f (i:Int)=some o∧((∃x,o = .inr x)∧((t.nodes.drop i).all fun n=>j4 n t.nodes.length)=true∨o = .inl false∧((t.nodes.drop i).all fun n=>j4 n t.nodes.length)=false)
 | 0,i,hf,_=>absurd hf (by omega)
 | f+1,i,hf,hi=>by
  unfold bW.l0
  by_cases h:i<t.nodes.length
  ·have hx:ix t.nodes (i:Int)=some t.nodes[i]:=by unfold ix; rw [if_pos (by omega)]; simp [h]
   rw [if_pos (by simp only [decide_eq_true_eq]; omega),hx,V3,AP hm,V3,Wi h,W2]
   cases hb:j4 t.nodes[i] t.nodes.length with
   | false=>exact⟨_,rfl,.inr ⟨rfl,rfl⟩⟩
   | true=>
    obtain⟨o,k1,k2⟩:=vE (m:=m) hm hl f (i+1) (by omega) (by omega)
    rw [if_neg (by simp),aC (by omega) (by omega),show (i:Int)+1=((i+1:Nat):Int) by omega,k1]
    exact⟨o,rfl,by simpa using k2⟩
  ·refine⟨_,by rw [if_neg (by simp only [decide_eq_true_eq]; omega)],.inl ⟨⟨_,rfl⟩,?_⟩⟩
   rw [WO (by omega)]; rfl
theorem zc {m:Nat}(hm:2 ^ 30≤m)(t:aj):bW.f m t=some (eh t):=by
 have l8:(2:Nat) ^ 30=1073741824:=by decide
 unfold bW.f eh
 by_cases h1:1≤t.nodes.length
 ·rw [if_neg (by simp only [decide_eq_true_eq]; omega),decide_eq_true h1]
  by_cases h2:t.nodes.length≤8000
  ·rw [if_neg (by simp only [decide_eq_true_eq]; omega),decide_eq_true h2]
   by_cases h3:0≤t.root
   ·rw [if_neg (by simp only [decide_eq_true_eq]; omega),decide_eq_true h3]
    by_cases h4:t.root<t.nodes.length
    ·rw [if_neg (by simp only [decide_eq_true_eq]; omega),decide_eq_true h4]
     obtain⟨o,k1,k2⟩:=vE (m:=m) (t:=t) (by omega) h2 m 0 (by omega) (by omega)
     have k1:bW.l0 m t m 0=_:=k1
     rw [WK] at k2
     rw [k1,V3]
     simp only [Xl]
     rcases k2 with⟨⟨x,rfl⟩,k⟩| ⟨rfl,k⟩
     ·rw [k]
     ·rw [k]
    ·rw [if_pos (by simp only [decide_eq_true_eq]; omega),decide_eq_false h4]; rfl
   ·rw [if_pos (by simp only [decide_eq_true_eq]; omega),decide_eq_false h3]; rfl
  ·rw [if_pos (by simp only [decide_eq_true_eq]; omega),decide_eq_false h2]; rfl
 ·rw [if_pos (by simp only [decide_eq_true_eq]; omega),decide_eq_false h1]; rfl
end Go.Proofs.YtmekcfdllhphlaaDoor
namespace Go.Proofs.YtmekcfdllhphlaaDoor
open Go Go.R
open Go.IntKind (i64 u64 u8 u32)
theorem qY.refl {l:List ab}{c:List Int}(i:Nat):qY l c i i:=⟨Alike.refl _,fun _ _=>rfl⟩
theorem qY.symm {l:List ab}{c:List Int}{i j:Nat}(h:qY l c i j):qY l c j i:=⟨h.1.symm,fun k hk=>(h.2 k (by have:=h.1.len; unfold na at *; omega)).symm⟩
theorem qY.trans {l:List ab}{c:List Int}{i j q:Nat}(h:qY l c i j)(g:qY l c j q):qY l c i q:=
 ⟨h.1.trans g.1,fun k hk=>(h.2 k hk).trans (g.2 k (by have:=h.1.len; unfold na at *; omega))⟩
theorem Dq.symm {l:List ab}{R:Nat→Nat→Prop}(B:Dq l R):Dq l fun i j=>R j i:=
 ⟨fun i j h=>(B.nc j i h).symm,fun i j h=>(B.top j i h).symm,fun i j h k hk=>B.arg j i h k (by have:=(B.top j i h).len; omega)⟩
structure G3 (l:List ab)(cls:List Int)(dn:List Bool)(fs od:List Int):Prop where
 lc:cls.length=l.length
 ld:dn.length=l.length
 QM:od.Nodup
 KG:∀x∈od,0≤x∧x<l.length
 G4:∀i,i<l.length→(gb dn i=true↔(i:Int)∈od)
 uI:∀i:Nat,(i:Int)∈od→∀k,k<na l i→((ar l i k:Nat):Int)∈od∧od.idxOf ((ar l i k:Nat):Int)<od.idxOf (i:Int)
 Oc:fs.Nodup
 fst:∀f∈fs,f∈od∧gt cls f.toNat=f
 py:∀i:Nat,(i:Int)∈od→gt cls i∈fs∧qY l cls i (gt cls i).toNat
 apart:∀f∈fs,∀g∈fs,qY l cls f.toNat g.toNat→f=g
 coarse:∀R,Dq l R→∀i j:Nat,R i j→(i:Int)∈od→(j:Int)∈od→gt cls i=gt cls j
theorem Ca {od:List Int}{n:Nat}(h:od.Nodup)(hr:∀x∈od,0≤x∧x<n):od.length≤n:=by
 have:=h.length_le_of_subset (l₂:=ints n) (fun x hx=>iC.2 (hr x hx))
 rwa [dG] at this
theorem G3.QN {l cls dn fs od}(P:G3 l cls dn fs od):∀f∈fs,0≤f∧f<l.length:=fun f hf=>P.KG f (P.fst f hf).1
theorem Gt {l:List ab}{cls:List Int}{dn:List Bool}{fs od:List Int}(ok:kH l)(P:G3 l cls dn fs od){i:Nat}(hi:i<l.length)(hn:(i:Int)∉od)(hr:SI l dn i){v:Int}
  (hv:v=i∧(∀f∈fs,¬qY l cls i f.toNat)∨v∈fs∧qY l cls i v.toNat) :
  G3 l (cls.set i v) (dn.set i true) (if v=i then fs++[(i:Int)] else fs) (od++[(i:Int)]):=by
 have SV:(i:Int)∉fs:=fun h=>hn (P.fst _ h).1
 have Lm:v∈fs→v≠i:=fun h e=>SV (e ▸ h)
 have gc:∀x,x≠i→gt (cls.set i v) x=gt cls x:=fun x hx=>by rw [ef (by rw [P.lc]; exact hi),if_neg hx]
 have gi:gt (cls.set i v) i=v:=by rw [ef (by rw [P.lc]; exact hi),if_pos rfl]
 have ne:∀{x:Nat},(x:Int)∈od→x≠i:=fun h e=>hn (by rw [←e]; exact h)
 have ad:∀x:Nat,((x:Int)∈od∨x=i)→∀k,k<na l x→((ar l x k:Nat):Int)∈od:=fun x hx k hk=>by
  rcases hx with hx | rfl
  ·exact (P.uI x hx k hk).1
  ·exact (P.G4 _ (j6 ok hi hk).1).1 (hr k hk)
 have sm:∀x y:Nat,((x:Int)∈od∨x=i)→((y:Int)∈od∨y=i)→(qY l (cls.set i v) x y↔qY l cls x y):=fun x y hx hy=>by
  constructor
  ·rintro⟨a,b⟩
   refine⟨a,fun k hk=>?_⟩
   have:=b k hk
   rwa [gc _ (ne (ad x hx k hk)),gc _ (ne (ad y hy k (by have:=a.len; unfold na at *; omega)))] at this
  ·rintro⟨a,b⟩
   refine⟨a,fun k hk=>?_⟩
   rw [gc _ (ne (ad x hx k hk)),gc _ (ne (ad y hy k (by have:=a.len; unfold na at *; omega)))]
   exact b k hk
 have fo:∀f∈fs,((f.toNat:Nat):Int)∈od∧((f.toNat:Nat):Int)=f:=fun f hf=>by
  have h:=P.fst f hf
  have r:=P.KG f h.1
  have e:((f.toNat:Nat):Int)=f:=by omega
  exact⟨by rw [e]; exact h.1,e⟩
 have split:∀{x:Int},x∈od++[(i:Int)]→x∈od∨x=i:=fun h=>by
  rcases Wk.1 h with h | h
  ·exact .inl h
  ·exact .inr (Wf.1 h)
 have one:∀R,Dq l R→∀j:Nat,R i j→(j:Int)∈od→v=gt cls j:=fun R B j hR hj=>by
  obtain⟨g1,g2⟩:=P.py j hj
  have s1:qY l cls i j:=⟨B.top i j hR,fun k hk=>P.coarse R B _ _ (B.arg i j hR k hk) (ad i (.inr rfl) k hk) (ad j (.inl hj) k (by have:=(B.top i j hR).len; unfold na at *; omega))⟩
  rcases hv with⟨rfl,h⟩| ⟨h1,h2⟩
  ·exact absurd (s1.trans g2) (h _ g1)
  ·exact P.apart v h1 _ g1 (h2.symm.trans (s1.trans g2))
 refine⟨by simpa using P.lc,by simpa using P.ld,?_,?_,fun x hx=>?_,fun x hx k hk=>?_,?_,fun f hf=>?_,fun x hx=>?_,fun f hf g hg hs=>?_,fun R B x y hR hx hy=>?_⟩
 ·rw [Xj]
  refine⟨P.QM,by simp,fun a ha b hb=>?_⟩
  rw [Wf] at hb
  subst hb; intro e; subst e; exact hn ha
 ·intro x hx
  rcases split hx with h | h
  ·exact P.KG x h
  ·omega
 ·rw [Gj (by rw [P.ld]; exact hi),Wk,Wf]
  by_cases e:x=i
  ·subst e; simp
  ·rw [if_neg e,P.G4 x hx]
   constructor
   ·exact fun h=>.inl h
   ·rintro (h | h)
    ·exact h
    ·omega
 ·rcases split hx with h | h
  ·obtain⟨r1,r2⟩:=P.uI x h k hk
   refine⟨WL _ r1,?_⟩
   rw [Xi,if_pos r1,Xi,if_pos h]; exact r2
  ·have e:x=i:=by omega
   subst e
   have r1:=ad x (.inr rfl) k hk
   refine⟨WL _ r1,?_⟩
   rw [Xi,if_pos r1,Xi,if_neg hn]
   have:=W7 r1
   omega
 ·split
  ·rw [Xj]
   refine⟨P.Oc,by simp,fun a ha b hb=>?_⟩
   rw [Wf] at hb
   subst hb; intro e; subst e; exact SV ha
  ·exact P.Oc
 ·have LR:f∈fs∨(f=i∧v=i):=by
   split at hf
   ·rcases Wk.1 hf with h | h
    ·exact .inl h
    ·exact .inr ⟨Wf.1 h,by assumption⟩
   ·exact .inl hf
  rcases LR with h | ⟨rfl,h2⟩
  ·obtain⟨a,b⟩:=P.fst f h
   refine⟨WL _ a,?_⟩
   rw [gc _ (by have:=(fo f h).1; exact ne this)]; exact b
  ·refine⟨by simp,?_⟩
   rw [V9,gi]; exact h2
 ·have SW:∀z∈fs,z∈(if v=(i:Int) then fs++[(i:Int)] else fs):=fun z hz=>by
   split
   ·exact WL _ hz
   ·exact hz
  rcases split hx with h | h
  ·obtain⟨a,b⟩:=P.py x h
   rw [gc x (ne h)]
   exact⟨SW _ a,(sm x _ (.inl h) (.inl (fo _ a).1)).2 b⟩
  ·have e:x=i:=by omega
   subst e
   rw [gi]
   rcases hv with⟨rfl,_⟩| ⟨h1,h2⟩
   ·rw [if_pos rfl,V9]
    exact⟨by simp,qY.refl _⟩
   ·exact⟨SW _ h1,(sm x _ (.inr rfl) (.inl (fo _ h1).1)).2 h2⟩
 ·have cs:∀z,z∈(if v=(i:Int) then fs++[(i:Int)] else fs)→z∈fs∨(z=i∧v=i):=fun z hz=>by
   split at hz
   ·rcases Wk.1 hz with h | h
    ·exact .inl h
    ·exact .inr ⟨Wf.1 h,by assumption⟩
   ·exact .inl hz
  have SX:v=i→∀f∈fs,¬qY l cls i f.toNat:=fun e f hf=>by
   rcases hv with⟨_,h⟩| ⟨h,_⟩
   ·exact h f hf
   ·exact absurd e (Lm h)
  rcases cs f hf with h1 | ⟨rfl,e1⟩
  ·rcases cs g hg with h2 | ⟨rfl,e2⟩
   ·exact P.apart f h1 g h2 ((sm _ _ (.inl (fo f h1).1) (.inl (fo g h2).1)).1 hs)
   ·rw [V9] at hs
    have:=(sm _ _ (.inl (fo f h1).1) (.inr rfl)).1 hs
    exact absurd this.symm (SX e2 f h1)
  ·rcases cs g hg with h2 | ⟨rfl,e2⟩
   ·rw [V9] at hs
    have:=(sm _ _ (.inr rfl) (.inl (fo g h2).1)).1 hs
    exact absurd this (SX e1 g h2)
   ·rfl
 ·rcases split hx with h1 | h1
  ·rcases split hy with h2 | h2
   ·rw [gc x (ne h1),gc y (ne h2)]; exact P.coarse R B x y hR h1 h2
   ·have e:y=i:=by omega
    subst e
    rw [gc x (ne h1),gi]
    exact (one _ B.symm x hR h1).symm
  ·have e:x=i:=by omega
   subst e
   rcases split hy with h2 | h2
   ·rw [gc y (ne h2),gi]; exact one R B y hR h2
   ·have e:y=x:=by omega
    subst e; rfl
theorem xn {m:Nat}(hm:2 ^ 30≤m){l:List ab}(ok:kH l):∀(f i:Nat) (cls:List Int) (dn:List Bool) (fs od:List Int) (more:Bool),i<f→i≤l.length→G3 l cls dn fs od→
  ∃jj zd ze ig x ug,ah.l1 m l f cls dn fs more ((i:Int) - 1)=some (jj,zd,ze,ig,x)∧G3 l jj zd ze ug∧od.length≤ug.length∧
   (ig=true→more=true∨od.length<ug.length)∧(ig=false→more=false∧ug=od∧∀j,j<i→(j:Int)∉od→∃k,k<na l j∧((ar l j k:Nat):Int)∉od)
 | 0,i,_,_,_,_,_,hf,_,_=>absurd hf (by omega)
 | f+1,0,cls,dn,fs,od,more,hf,hi,P=>by
  unfold ah.l1
  rw [if_neg (by simp)]
  exact⟨cls,dn,fs,more,_,od,rfl,P,V7 _,fun h=>.inl h,fun h=>⟨h,rfl,fun j hj=>absurd hj (by omega)⟩⟩
 | f+1,i+1,cls,dn,fs,od,more,hf,hi,P=>by
  have l8:(2:Nat) ^ 30=1073741824:=by decide
  have h8:=ok.1
  have zY:i<l.length:=by omega
  unfold ah.l1
  have ei:((i+1:Nat):Int) - 1=(i:Int):=by omega
  have ew:i64.wrap ((i:Int) - 1)=(i:Int) - 1:=aC (by omega) (by omega)
  have hgb:ix dn (i:Int)=some (gb dn i):=by
   have:=B4 (l:=dn) (i:=(i:Int)) (by omega) (by rw [V9,P.ld]; exact zY)
   rwa [V9] at this
  rw [ei,ew,if_pos (by simp),hgb,V3]
  cases hd:gb dn i with
  | true=>
   rw [if_pos rfl]
   obtain⟨jj,zd,ze,ig,x,ug,k1,k2,k3,k4,k5⟩:=xn hm ok f i cls dn fs od more (by omega) (by omega) P
   refine⟨jj,zd,ze,ig,x,ug,k1,k2,k3,k4,fun h=>?_⟩
   obtain⟨q1,q2,q3⟩:=k5 h
   refine⟨q1,q2,fun j hj hn=>?_⟩
   by_cases e:j=i
   ·subst e; exact absurd ((P.G4 j zY).1 hd) hn
   ·exact q3 j (by omega) hn
  | false=>
   have Av:(i:Int)∉od:=fun h=>by rw [(P.G4 i zY).2 h] at hd; cases hd
   obtain⟨xr,r1,r2,r3⟩:=Gl hm ok P.ld zY
   rw [if_neg (by simp),gV (by omega) (by omega),V3,r1,V3]
   cases xr with
   | false=>
    rw [if_pos (by simp)]
    obtain⟨jj,zd,ze,ig,x,ug,k1,k2,k3,k4,k5⟩:=xn hm ok f i cls dn fs od more (by omega) (by omega) P
    refine⟨jj,zd,ze,ig,x,ug,k1,k2,k3,k4,fun h=>?_⟩
    obtain⟨q1,q2,q3⟩:=k5 h
    refine⟨q1,q2,fun j hj hn=>?_⟩
    by_cases e:j=i
    ·subst e
     obtain⟨k,g1,g2⟩:=r3 rfl
     exact⟨k,g1,fun h=>by rw [(P.G4 _ (j6 ok zY g1).1).2 h] at g2; cases g2⟩
    ·exact q3 j (by omega) hn
   | true=>
    have JJ:fs.length≤8000:=WQ (Ca P.Oc P.QN) h8
    obtain⟨v,f1,f2⟩:=find_spec hm ok P.lc zY P.QN JJ
    have P':=Gt ok P zY Av (r2 rfl) f2
    have hlen:(od++[(i:Int)]).length=od.length+1:=by simp
    have e2:ix cls (i:Int)=some (gt cls i):=cn (by rw [P.lc]; exact zY)
    have e3:ix (cls.set i v) (i:Int)=some v:=by
     rw [cn (by simpa using (by rw [P.lc]; exact zY)),ef (by rw [P.lc]; exact zY),if_pos rfl]
    have rest:∀Od,G3 l (cls.set i v) (dn.set i true) Od (od++[(i:Int)])→∃jj zd ze ig x ug,ah.l1 m l f (cls.set i v) (dn.set i true) Od true ((i:Int) - 1)=some (jj,zd,ze,ig,x)∧G3 l jj zd ze ug∧od.length≤ug.length∧
      (ig=true→more=true∨od.length<ug.length)∧(ig=false→more=false∧ug=od∧∀j,j<i+1→(j:Int)∉od→∃k,k<na l j∧((ar l j k:Nat):Int)∉od):=fun Od P2=>by
     obtain⟨jj,zd,ze,ig,x,ug,k1,k2,k3,k4,k5⟩:=xn hm ok f i _ _ Od _ true (by omega) (by omega) P2
     exact⟨jj,zd,ze,ig,x,ug,k1,k2,by omega,fun _=>.inr (by omega),fun h=>absurd (k5 h).1 (by simp)⟩
    rw [if_neg (by simp),f1,V3,e2,V3,V9,e3,V3]
    by_cases Lm:v=i
    ·have la:app 8 fs [(i:Int)]=some (fs++[(i:Int)]):=by unfold app; rw [if_pos (by simp; omega)]
     rw [if_pos (by simpa using Lm),la,V3,V3]
     rw [if_pos Lm] at P'
     exact rest _ P'
    ·rw [if_neg (by simpa using Lm),V3]
     rw [if_neg Lm] at P'
     exact rest _ P'
theorem Gu {m:Nat}(hm:2 ^ 30≤m){l:List ab}(ok:kH l):∀(f:Nat) (cls:List Int) (dn:List Bool) (fs od:List Int),l.length - od.length+1<f→G3 l cls dn fs od→
  ∃jj zd ze ug,ah.l0 m l f cls dn fs true=some (jj,zd,ze,false)∧G3 l jj zd ze ug∧∀j,j<l.length→(j:Int)∉ug→∃k,k<na l j∧((ar l j k:Nat):Int)∉ug
 | 0,_,_,_,_,hf,_=>absurd hf (by omega)
 | f+1,cls,dn,fs,od,hf,P=>by
  have l8:(2:Nat) ^ 30=1073741824:=by decide
  have h8:=ok.1
  unfold ah.l0
  obtain⟨jj,zd,ze,ig,x,ug,k1,k2,k3,k4,k5⟩:=xn hm ok m l.length cls dn fs od false (by omega) (V7 _) P
  have ew:i64.wrap ((l.length:Int) - 1)=(l.length:Int) - 1:=aC (by omega) (by omega)
  rw [if_pos rfl,ew,k1,V3]
  dsimp only
  have Ay:=Ca k2.QM k2.KG
  cases ig with
  | true=>
   rcases k4 rfl with h | h
   ·cases h
   ·exact Gu hm ok f jj zd ze ug (by omega) k2
  | false=>
   obtain⟨_,rfl,q⟩:=k5 rfl
   obtain⟨g,rfl⟩:∃g,f=g+1:=⟨f - 1,by omega⟩
   refine⟨jj,zd,ze,ug,?_,k2,q⟩
   unfold ah.l0
   rw [if_neg (by simp)]
end Go.Proofs.YtmekcfdllhphlaaDoor
namespace Go.Proofs.YtmekcfdllhphlaaDoor
open Go Go.R
open Go.IntKind (i64 u64 u8 u32)
def bF (dn:List Bool):Nat→List Int
 | 0=>[]
 | p+1=>if gb dn p=true then bF dn p else bF dn p++[(p:Int)]
theorem iH {dn:List Bool}:∀{p:Nat} {x:Int},x∈bF dn p↔∃j:Nat,j<p∧gb dn j=false∧x=j
 | 0,x=>⟨fun h=>by simp [bF] at h,fun ⟨j,h,_⟩=>absurd h (by omega)⟩
 | p+1,x=>by
  unfold bF
  have ih:=iH (dn:=dn) (p:=p) (x:=x)
  split
  ·rename_i h
   rw [ih]
   constructor
   ·rintro⟨j,a,b,c⟩; exact⟨j,by omega,b,c⟩
   ·rintro⟨j,a,b,c⟩
    refine⟨j,?_,b,c⟩
    by_cases e:j=p
    ·subst e; rw [b] at h; cases h
    ·omega
  ·rename_i h
   rw [Wk,ih,Wf]
   constructor
   ·rintro (⟨j,a,b,c⟩| c)
    ·exact⟨j,by omega,b,c⟩
    ·exact⟨p,by omega,by simpa using h,c⟩
   ·rintro⟨j,a,b,c⟩
    by_cases e:j=p
    ·subst e; exact .inr c
    ·exact .inl ⟨j,by omega,b,c⟩
theorem hY {dn:List Bool}:∀p,(bF dn p).length≤p
 | 0=>V7 _
 | p+1=>by
  have:=hY (dn:=dn) p
  unfold bF
  split
  ·omega
  ·simp; omega
theorem mh {dn:List Bool}:∀{p k q:Nat},k<q→q<(bF dn p).length→gt (bF dn p) k<gt (bF dn p) q
 | 0,k,q,_,h=>by simp [bF] at h
 | p+1,k,q,hk,h=>by
  unfold bF at h ⊢
  split at h
  ·rename_i g; rw [if_pos g]; exact mh hk h
  ·rename_i g
   rw [if_neg g]
   by_cases hq:q<(bF dn p).length
   ·rw [ie hq,ie (by omega)]; exact mh hk hq
   ·have e:q=(bF dn p).length:=by simp at h; omega
    have:gt (bF dn p++[(p:Int)]) q=p:=by
     subst e; unfold gt; rw [Wm,Wq (V7 _),XC]; rfl
    rw [this,ie (by omega)]
    obtain⟨j,a,b,c⟩:=iH.1 (aN (l:=bF dn p) (k:=k) (by omega))
    omega
structure Nw (l:List ab)(dn:List Bool)(c0:List Int)(p:Nat)(cls:List Int):Prop where
 lc:cls.length=l.length
 old:∀j,gb dn j=true→gt cls j=gt c0 j
 py:∀j:Nat,(j:Int)∈bF dn p→gt cls j∈bF dn p∧Alike (nd l j) (nd l (gt cls j))∧∀g∈bF dn p,Alike (nd l j) (nd l g)→gt cls j≤g
theorem Gv {m:Nat}{l:List ab}{dn:List Bool}(ok:kH l){cls:List Int}{i:Nat}(hi:i<l.length)(hc:cls.length=l.length)(hlt:∀g∈bF dn i,gt cls g.toNat≠i):∀(f k:Nat),(bF dn i).length - k+2≤f→k≤(bF dn i).length→(∀q,q<k→¬Alike (nd l i) (nd l (gt (bF dn i) q)))→
  ∃v x,ah.l3 m l (i:Int) (bF dn i++[(i:Int)]) f (cls.set i (i:Int)) (k:Int)=some (cls.set i v,x)∧(v=i∧(∀g∈bF dn i,¬Alike (nd l i) (nd l g))∨∃g∈bF dn i,Alike (nd l i) (nd l g)∧v=gt cls g.toNat)
 | 0,k,hf,_,_=>absurd hf (by omega)
 | f+1,k,hf,hk,sq=>by
  have h8:=ok.1
  have MT:=hY (dn:=dn) i
  unfold ah.l3
  have zY:i<(cls.set i (i:Int)).length:=by simp [hc,hi]
  rw [cn zY,ef (by omega),if_pos rfl,V3,if_pos (by simp)]
  have Rw:(bF dn i++[(i:Int)]).length=(bF dn i).length+1:=by simp
  by_cases h:k<(bF dn i).length
  ·obtain⟨j,j1,j2,j3⟩:=iH.1 (aN (l:=bF dn i) (k:=k) h)
   have hx:ix (bF dn i++[(i:Int)]) (k:Int)=some (gt (bF dn i) k):=by rw [cn (by omega),ie h]
   obtain⟨xa,a1,a2⟩:=tS (m:=m) (nd l (i:Int)) (nd l (gt (bF dn i) k))
   rw [hx,V3,if_pos (by simp only [decide_eq_true_eq]; omega),gV (by omega) (by omega),V3,V3,gV (by omega) (by omega),V3,a1,V3]
   cases xa with
   | false=>
    rw [if_neg (by simp),aC (by omega) (by omega),show (k:Int)+1=((k+1:Nat):Int) by omega]
    refine Gv ok hi hc hlt f (k+1) (by omega) (by omega) fun q hq=>?_
    by_cases e:q=k
    ·subst e; intro hA; have:=a2.2 hA; cases this
    ·exact sq q (by omega)
   | true=>
    have hA:=a2.1 rfl
    have UK:(gt (bF dn i) k).toNat<cls.length:=by omega
    have Kj:ix (cls.set i (i:Int)) (gt (bF dn i) k)=some (gt cls (gt (bF dn i) k).toNat):=by
     rw [fQ (k:=(gt (bF dn i) k).toNat) (by omega) (by simpa using UK),ef (by omega),if_neg (by omega)]
    rw [if_pos rfl,V3,Kj,V3,V3,V9,List.set_set]
    have e:=hlt _ (aN h)
    obtain⟨g,rfl⟩:∃g,f=g+1:=⟨f - 1,by omega⟩
    refine⟨gt cls (gt (bF dn i) k).toNat,i64.wrap ((k:Int)+1),?_,.inr ⟨_,aN h,hA,rfl⟩⟩
    unfold ah.l3
    rw [cn (by simpa [hc] using hi),ef (by omega),if_pos rfl,V3,if_neg (by simpa using e)]
  ·have e:k=(bF dn i).length:=by omega
   have hx:ix (bF dn i++[(i:Int)]) (k:Int)=some (i:Int):=by
    rw [cn (by omega)]
    subst e; unfold gt; rw [Wm,Wq (V7 _),XC]; rfl
   rw [hx,V3,if_neg (by simp)]
   refine⟨(i:Int),_,rfl,.inl ⟨rfl,fun g hg=>?_⟩⟩
   obtain⟨q,hq,e2⟩:=eL hg
   rw [←e2]; exact sq q (by omega)
theorem Gw {l:List ab}{dn:List Bool}{c0 cls:List Int}{i:Nat}(hi:i<l.length)(hd:gb dn i=false)(P:Nw l dn c0 i cls){v:Int}
  (hv:v=i∧(∀g∈bF dn i,¬Alike (nd l i) (nd l g))∨∃g∈bF dn i,Alike (nd l i) (nd l g)∧v=gt cls g.toNat):Nw l dn c0 (i+1) (cls.set i v):=by
 have hr:bF dn (i+1)=bF dn i++[(i:Int)]:=by show (if gb dn i=true then _ else _)=_; rw [if_neg (by rw [hd]; simp)]
 have gc:∀x,x≠i→gt (cls.set i v) x=gt cls x:=fun x hx=>by rw [ef (by rw [P.lc]; exact hi),if_neg hx]
 have gi:gt (cls.set i v) i=v:=by rw [ef (by rw [P.lc]; exact hi),if_pos rfl]
 have Oe:∀{x:Int},x∈bF dn i→0≤x∧x<i:=fun h=>by obtain⟨j,a,b,c⟩:=iH.1 h; omega
 refine⟨by simpa using P.lc,fun j hj=>?_,fun j hj=>?_⟩
 ·rw [gc j (fun e=>by subst e; rw [hd] at hj; cases hj)]; exact P.old j hj
 ·rw [hr] at hj ⊢
  rcases Wk.1 hj with hj | hj
  ·obtain⟨r1,r2,r3⟩:=P.py j hj
   have hji:=Oe hj
   rw [gc j (by omega)]
   refine⟨WL _ r1,r2,fun g hg hA=>?_⟩
   rcases Wk.1 hg with hg | hg
   ·exact r3 g hg hA
   ·have:=Oe r1
    rw [Wf] at hg; omega
  ·rw [Wf] at hj
   have e:j=i:=by omega
   subst e
   rw [gi]
   rcases hv with⟨rfl,h⟩| ⟨g,g1,g2,rfl⟩
   ·refine⟨by simp,Alike.refl _,fun g hg hA=>?_⟩
    rcases Wk.1 hg with hg | hg
    ·exact absurd hA (h g hg)
    ·rw [Wf] at hg; omega
   ·have No:=Oe g1
    have eg:((g.toNat:Nat):Int)=g:=by omega
    obtain⟨r1,r2,r3⟩:=P.py g.toNat (by rw [eg]; exact g1)
    rw [eg] at r2 r3
    refine⟨WL _ r1,g2.trans r2,fun x hx hA=>?_⟩
    rcases Wk.1 hx with hx | hx
    ·exact r3 x hx (g2.symm.trans hA)
    ·have:=Oe r1
     rw [Wf] at hx; omega
theorem AQ {m:Nat}(hm:2 ^ 30≤m){l:List ab}(ok:kH l){dn:List Bool}(hd:dn.length=l.length){c0:List Int}:∀(f i:Nat) (cls:List Int),l.length - i<f→i≤l.length→Nw l dn c0 i cls→
  ∃jj x,ah.l2 m l dn f cls (bF dn i) (i:Int)=some (jj,bF dn l.length,x)∧Nw l dn c0 l.length jj
 | 0,i,cls,hf,_,_=>absurd hf (by omega)
 | f+1,i,cls,hf,hi,P=>by
  have l8:(2:Nat) ^ 30=1073741824:=by decide
  have h8:=ok.1
  unfold ah.l2
  by_cases h:i<l.length
  ·have hgb:ix dn (i:Int)=some (gb dn i):=by
    have:=B4 (l:=dn) (i:=(i:Int)) (by omega) (by rw [V9]; omega)
    rwa [V9] at this
   have ew:i64.wrap ((i:Int)+1)=((i+1:Nat):Int):=by rw [aC (by omega) (by omega)]; omega
   rw [if_pos (by simp only [decide_eq_true_eq]; omega),hgb,V3,ew]
   cases QP:gb dn i with
   | true=>
    have hr:bF dn (i+1)=bF dn i:=by show (if gb dn i=true then _ else _)=_; rw [if_pos QP]
    rw [if_pos rfl,←hr]
    exact AQ hm ok hd f (i+1) cls (by omega) (by omega) ⟨P.lc,P.old,fun j hj=>by rw [hr] at hj ⊢; exact P.py j hj⟩
   | false=>
    have hr:bF dn (i+1)=bF dn i++[(i:Int)]:=by show (if gb dn i=true then _ else _)=_; rw [if_neg (by rw [QP]; simp)]
    have MT:=hY (dn:=dn) i
    have la:app 8 (bF dn i) [(i:Int)]=some (bF dn i++[(i:Int)]):=by unfold app; rw [if_pos (by simp; omega)]
    obtain⟨v,x,k1,k2⟩:=Gv (m:=m) ok h P.lc (fun g hg e=>by
     obtain⟨j,a,b,c⟩:=iH.1 hg
     have:=(P.py j (by rw [←c]; exact hg)).1
     obtain⟨j',a',b',c'⟩:=iH.1 this
     rw [c,V9] at e; omega) m 0 (by omega) (by omega) (fun q hq=>absurd hq (by omega))
    have k1:ah.l3 m l (i:Int) (bF dn i++[(i:Int)]) m (cls.set i (i:Int)) 0=_:=k1
    rw [if_neg (by simp),la,V3,cn (by rw [P.lc]; exact h),V3,V9,k1,V3]
    dsimp only
    rw [←hr]
    exact AQ hm ok hd f (i+1) _ (by omega) (by omega) (Gw h QP P k2)
  ·have e:i=l.length:=by omega
   subst e
   exact⟨cls,_,by rw [if_neg (by simp)],P⟩
end Go.Proofs.YtmekcfdllhphlaaDoor
