/- Part of the proof: Q48, Q25, Q57, Q37, Q38, Q39, Q58, Q40, Q15, PU1, PU2, PB3, PB5, PB6. -/
import Derived.Test.YtmekcfdllhphlaaDoorK12
set_option linter.unusedVariables false
set_option linter.unusedSimpArgs false
set_option maxRecDepth 100000
open Bool renaming false_eq_true → XJ, true_and → YH
open ByteArray renaming mk → XV
open Eq renaming trans → Yp
open Int renaming toNat_natCast → Xy
open List renaming getElem?_eq_some_iff → XA, length_set → XC, mem_singleton → XE, drop_eq_getElem_cons → XG, mem_append → XH, getD_eq_getElem?_getD → XM, getElem?_append_right → XO, length_cons → XR, drop_eq_nil_of_le → X3, drop_zero → X6, getElem?_cons_zero → X7, mem_append_left → Yb, all_cons → Ym, idxOf_lt_length_of_mem → Ys, idxOf_append → YE, nodup_append → YF
open Nat renaming le_refl → Xv, le_trans → X9, sub_self → Y0
open Option renaming bind_some → Xr
open Option.some renaming injEq → Xu
open Or renaming inr → Yv, inl → YQ
namespace Go.Proofs.YtmekcfdllhphlaaDoor
open Go Go.R
open Go.IntKind (i64 u64 u8 u32)
def zm:cg:=gK [0,1,2,4,5,7,8,24,45,61,87,109,114,131] [2] [16377,16345,16281,16375,16217,16375,16089,16375,15833,16375,15353,14329,16375,16361,12265,16361,8169,16375,16375,16375] [] []
def bW.l0 (m:Nat)(n0:ab)(ay:Int):Nat→Int→Option (Sum Bool (Int))
 | 0,_=>none
 | k+1,i0=>if (decide (i0<(n0.args.length:Int)))=true then ((ix n0.args i0).bind fun v0=>if (decide (v0<(0:Int)))=true then (some (.inl false)) else ((ix n0.args i0).bind fun v1=>if (decide (v1≥ay))=true then (some (.inl false)) else (bW.l0 m n0 ay k (i64.wrap (i0+(1:Int)))))) else (some (.inr i0))
def bW.f (m:Nat)(n0:ab)(ay:Int):Option (Bool):=if (n0.kind==(0:Int))=true then (if (decide (n0.int≥(0:Int)))=true then (if (n0.label.data.toList==(XV #[]).data.toList)=true then (some ((n0.args.length:Int)==(0:Int))) else (some false)) else (some false)) else (if (n0.kind==(1:Int))=true then (if (decide (n0.int≥(-1099511627776:Int)))=true then (if (decide (n0.int≤(1099511627776:Int)))=true then (if (n0.label.data.toList==(XV #[]).data.toList)=true then (some ((n0.args.length:Int)==(0:Int))) else (some false)) else (some false)) else (some false)) else (if (n0.kind==(2:Int))=true then ((dV.f m n0.label).bind fun x0=>if x0=true then (if (n0.int==(0:Int))=true then (some ((n0.args.length:Int)==(0:Int))) else (some false)) else (some false)) else (if (n0.kind==(4:Int))=true then (if (n0.label.data.toList==(XV #[112,114,111,99]).data.toList)=true then (if (decide (n0.int≥(0:Int)))=true then (some ((n0.args.length:Int)==(0:Int))) else (some false)) else (if (n0.label.data.toList==(XV #[99,101,108,108]).data.toList)=true then (if (decide (n0.int≥(0:Int)))=true then (some ((n0.args.length:Int)==(0:Int))) else (some false)) else (if (n0.label.data.toList==(XV #[112,111,114,116]).data.toList)=true then (if (decide (n0.int≥(0:Int)))=true then (some ((n0.args.length:Int)==(0:Int))) else (some false)) else (some false)))) else (if (n0.kind==(3:Int))=true then ((dV.f m n0.label).bind fun x1=>if (!x1)=true then (some false) else (if (!(n0.int==(0:Int)))=true then (some false) else (if (decide ((n0.args.length:Int)<(1:Int)))=true then (some false) else (if (decide ((n0.args.length:Int) > (8:Int)))=true then (some false) else ((bW.l0 m n0 ay m (0:Int)).bind fun bj=>match bj with | .inl r0=>some r0 | .inr i1=>some true))))) else (some false)))))
def bW.fin (L:Mem)(r:Bool)(s:St):Prop:=∃av,aH Tryd.prog (s.open zm) Tryd.f48.results.toList=some av∧fW s.h av (.bool r)
def RA (cf:CallF)(m:Nat):Prop:=∀(n0:ab) (ay:Int) (r:Bool),bW.f m n0 ay=some r→∀h xs,eN fi h xs [.agg [.int .i64 n0.kind,.int .i64 n0.int,.str n0.label,aa.fz n0.args],.int .i64 ay]→cf 48 xs h=some (.bool r,h)
section
variable {cf:CallF}{m:Nat}
theorem bW.bI (L:Mem)(n0:ab)(ay:Int)   : bD Tryd.prog cf zm m (sub [1,0,1,0,1,1,1,1,1,1,1,1,1,0,1,0,1,0,0] (codeOf Tryd.f48)) (fun k (σ:Int)=>bW.l0 m n0 ay k σ) (fun σ s=>match σ with | i0=>∃h0,s=⟨.any :: .int .i64 ay :: .lp 2 0 :: .any :: .int .i64 i0::BR [],[some [.int .i64 n0.kind,.int .i64 n0.int,.str n0.label,aa.fz n0.args]],h0⟩∧Has h0 (L)) (fun out e s=>(e = .exit 1∧∃i0,.inr i0=out∧∃uM FB xp Oq Rq h0,s=⟨.any::uM::FB :: .any::xp::Ee [Oq,.any],[Rq],h0⟩∧Has h0 (L))∨(e = .ret∧∃r,.inl r=out∧bW.fin L r s)):=by
 refine gG (fun _=>rfl) ?_
 rintro k i0 s out ⟨h0,rfl,o0⟩ H
 have H:bW.l0 m n0 ay (k+1) i0=some out:=H
 refine qq <| qq <| q0 <| qc H (fun VW H=>?_) (fun VW H=>?_)
 ·refine qk <| qq <| qb 2 <| qq ?_
  obtain⟨v0,e2,H⟩:=aI H
  rcases dJ H with⟨RB,H⟩| ⟨RB,H⟩
  ·exact qr [.v 3 (bw (k:=.i64) (E:=aa) (l:=n0.args) dz e2),.v 4 (cY  (E:=aa) (l:=n0.args) h0 A3 e2 rfl),.b 6 RB] <| xc <| qq <| q0 <| qt <| Yv (⟨rfl,_,oi H,cb (.bool false) h0 (b9 (au))⟩)
  ·obtain⟨v1,e3,H⟩:=aI H
   refine qr [.v 3 (bw (k:=.i64) (E:=aa) (l:=n0.args) dz e2),.v 4 (cY  (E:=aa) (l:=n0.args) h0 A3 e2 rfl),.b 6 RB,.v 10 (bw (k:=.i64) (E:=aa) (l:=n0.args) dz e3),.v 11 (cY  (E:=aa) (l:=n0.args) h0 A3 e3 rfl)] <| qc H (fun VX H=>?_) (fun VX H=>?_)
   ·exact q1 <| qt <| Yv (⟨rfl,_,oi H,cb (.bool false) h0 (b9 (au))⟩)
   ·exact qk <| q0 <| ⟨i64.wrap (i0+(1:Int)),⟨h0,by kernel_rfl,o0⟩,H⟩
 ·exact qx 1 <| YQ (⟨rfl,i0,oi H,.int .i64 ay,.lp 2 0,.int .i64 i0,.bool (decide (i0<(n0.args.length:Int))),some [.int .i64 n0.kind,.int .i64 n0.int,.str n0.label,aa.fz n0.args],h0,by kernel_rfl,o0⟩)
theorem qE {aU:FuncId→cg}(ha:aU 48=zm)(Be:Ub cf m)(n0:ab)(ay:Int)(h:AHeap)(L:Mem)  (o:Has h (L)){out:Bool}(H:bW.f m n0 ay=some out) :
  ∃r h',bc Tryd.prog aU cf m 48 [.agg [.int .i64 n0.kind,.int .i64 n0.int,.str n0.label,aa.fz n0.args],.int .i64 ay] h=some (r,h')∧fW h' r (.bool out):=by
 refine aq (fn:=Tryd.f48) ha Tryd.func48 (by kernel_rfl) (by kernel_rfl) ?_
 refine aG (Q:=fun s=>bW.fin L out s) (fun _ _ h=>h) ?_
 have H:_=some out:=H
 unfold bW.f at H
 show de _ cf zm m _ ⟨.agg [.int .i64 n0.kind,.int .i64 n0.int,.str n0.label,aa.fz n0.args] :: .int .i64 ay::mK [],[none],h⟩ _
 refine q1 <| qq <| qq <| q0 <| qb 0 <| qq <| q0 <| qc H (fun c0 H=>?_) (fun c0 H=>?_)
 ·refine qq ?_
  rcases dJ H with⟨c1,H⟩| ⟨c1,H⟩
  ·rcases dJ H with⟨c2,H⟩| ⟨c2,H⟩
   ·obtain rfl:=oi H
    exact qr [.b 3 c1,.b 8 c2] <| qt <| ⟨.inl rfl,cb (.bool ((n0.args.length:Int)==(0:Int))) h (b9 (au))⟩
   ·obtain rfl:=oi H
    exact qr [.b 3 c1,.b 8 c2] <| qt <| ⟨.inl rfl,cb (.bool false) h (b9 (au))⟩
  ·obtain rfl:=oi H
   exact qr [.b 3 c1] <| qt <| ⟨.inl rfl,cb (.bool false) h (b9 (au))⟩
 ·refine q1 <| qc H (fun c3 H=>?_) (fun c3 H=>?_)
  ·refine qq ?_
   rcases dJ H with⟨c4,H⟩| ⟨c4,H⟩
   ·rcases dJ H with⟨c5,H⟩| ⟨c5,H⟩
    ·rcases dJ H with⟨c6,H⟩| ⟨c6,H⟩
     ·obtain rfl:=oi H
      exact qr [.b 3 c4,.b 8 c5,.b 13 c6] <| qt <| ⟨.inl rfl,cb (.bool ((n0.args.length:Int)==(0:Int))) h (b9 (au))⟩
     ·obtain rfl:=oi H
      exact qr [.b 3 c4,.b 8 c5,.b 13 c6] <| qt <| ⟨.inl rfl,cb (.bool false) h (b9 (au))⟩
    ·obtain rfl:=oi H
     exact qr [.b 3 c4,.b 8 c5] <| qt <| ⟨.inl rfl,cb (.bool false) h (b9 (au))⟩
   ·obtain rfl:=oi H
    exact qr [.b 3 c4] <| qt <| ⟨.inl rfl,cb (.bool false) h (b9 (au))⟩
  ·refine q1 <| qc H (fun c7 H=>?_) (fun c7 H=>?_)
   ·refine qq ?_
    obtain⟨x0,e0,H⟩:=aI H
    rcases dJ H with⟨c8,H⟩| ⟨c8,H⟩
    ·rcases dJ H with⟨c9,H⟩| ⟨c9,H⟩
     ·obtain rfl:=oi H
      exact qr [.a 2 (Be _ _ e0 h _ (hH (ae (bY) (aC)))),.b 3 c8,.b 8 c9] <| qt <| ⟨.inl rfl,cb (.bool ((n0.args.length:Int)==(0:Int))) h (b9 (au))⟩
     ·obtain rfl:=oi H
      exact qr [.a 2 (Be _ _ e0 h _ (hH (ae (bY) (aC)))),.b 3 c8,.b 8 c9] <| qt <| ⟨.inl rfl,cb (.bool false) h (b9 (au))⟩
    ·obtain rfl:=oi H
     exact qr [.a 2 (Be _ _ e0 h _ (hH (ae (bY) (aC)))),.b 3 c8] <| qt <| ⟨.inl rfl,cb (.bool false) h (b9 (au))⟩
   ·refine q1 <| qc H (fun uO H=>?_) (fun uO H=>?_)
    ·refine qq ?_
     rcases dJ H with⟨nH,H⟩| ⟨nH,H⟩
     ·rcases dJ H with⟨nU,H⟩| ⟨nU,H⟩
      ·obtain rfl:=oi H
       exact qr [.b 3 nH,.b 18 nU] <| qt <| ⟨.inl rfl,cb (.bool ((n0.args.length:Int)==(0:Int))) h (b9 (au))⟩
      ·obtain rfl:=oi H
       exact qr [.b 3 nH,.b 18 nU] <| qt <| ⟨.inl rfl,cb (.bool false) h (b9 (au))⟩
     ·rcases dJ H with⟨qg,H⟩| ⟨qg,H⟩
      ·rcases dJ H with⟨rF,H⟩| ⟨rF,H⟩
       ·obtain rfl:=oi H
        exact qr [.b 3 nH,.b 8 qg,.b 18 rF] <| qt <| ⟨.inl rfl,cb (.bool ((n0.args.length:Int)==(0:Int))) h (b9 (au))⟩
       ·obtain rfl:=oi H
        exact qr [.b 3 nH,.b 8 qg,.b 18 rF] <| qt <| ⟨.inl rfl,cb (.bool false) h (b9 (au))⟩
      ·rcases dJ H with⟨B4,H⟩| ⟨B4,H⟩
       ·rcases dJ H with⟨Ef,H⟩| ⟨Ef,H⟩
        ·obtain rfl:=oi H
         exact qr [.b 3 nH,.b 8 qg,.b 13 B4,.b 18 Ef] <| qt <| ⟨.inl rfl,cb (.bool ((n0.args.length:Int)==(0:Int))) h (b9 (au))⟩
        ·obtain rfl:=oi H
         exact qr [.b 3 nH,.b 8 qg,.b 13 B4,.b 18 Ef] <| qt <| ⟨.inl rfl,cb (.bool false) h (b9 (au))⟩
       ·obtain rfl:=oi H
        exact qr [.b 3 nH,.b 8 qg,.b 13 B4] <| qt <| ⟨.inl rfl,cb (.bool false) h (b9 (au))⟩
    ·refine q1 <| qc H (fun DH H=>?_) (fun DH H=>?_)
     ·refine qq <| qq ?_
      obtain⟨x1,e1,H⟩:=aI H
      rcases dJ H with⟨KV,H⟩| ⟨KV,H⟩
      ·obtain rfl:=oi H
       exact qr [.a 2 (Be _ _ e1 h _ (hH (ae (bY) (aC)))),.b 4 KV] <| xc <| qq <| q0 <| qt <| ⟨.inl rfl,cb (.bool false) h (b9 (au))⟩
      ·rcases dJ H with⟨JC,H⟩| ⟨JC,H⟩
       ·obtain rfl:=oi H
        exact qr [.a 2 (Be _ _ e1 h _ (hH (ae (bY) (aC)))),.b 4 KV,.b 9 JC] <| xc <| qq <| q0 <| qt <| ⟨.inl rfl,cb (.bool false) h (b9 (au))⟩
       ·rcases dJ H with⟨RC,H⟩| ⟨RC,H⟩
        ·obtain rfl:=oi H
         exact qr [.a 2 (Be _ _ e1 h _ (hH (ae (bY) (aC)))),.b 4 KV,.b 9 JC,.b 15 RC] <| xc <| qq <| q0 <| qt <| ⟨.inl rfl,cb (.bool false) h (b9 (au))⟩
        ·refine qr [.a 2 (Be _ _ e1 h _ (hH (ae (bY) (aC)))),.b 4 KV,.b 9 JC,.b 15 RC] <| qc H (fun VY H=>?_) (fun VY H=>?_)
         ·obtain rfl:=oi H
          exact q1 <| qt <| ⟨.inl rfl,cb (.bool false) h (b9 (au))⟩
         ·refine qk <| qq <| qq <| q0 <| qb 1 ?_
          obtain⟨bj,e4,H⟩:=aI H
          refine ql (bW.bI L n0 ay   (0:Int) _ _ ⟨h,by kernel_rfl,o⟩ e4) ?_
          rintro e s (⟨rfl,i1,rfl,g0,g1,g2,g3,g4,h1,rfl,o1⟩| ⟨rfl,r0,rfl,nI⟩)
          ·try dsimp only at H
           obtain rfl:=oi H
           exact q1 <| qt <| ⟨.inl rfl,cb (.bool true) h1 (b9 (au))⟩
          ·try dsimp only at H
           obtain rfl:=oi H
           exact⟨.inl rfl,nI⟩
     ·obtain rfl:=oi H
      exact qk <| qq <| q0 <| qt <| ⟨.inl rfl,cb (.bool false) h (b9 (au))⟩
end
end Go.Proofs.YtmekcfdllhphlaaDoor
namespace Go.Proofs.YtmekcfdllhphlaaDoor
open Go Go.R
open Go.IntKind (i64 u64 u8 u32)
def zn:cg:=gK [0,1,2,3,26,31,43] [1] [125,109,123,117,85,117,53,123,123] [] []
def bX.l0 (m:Nat)(t0:ak):Nat→Int→Option (Sum Bool (Int))
 | 0,_=>none
 | k+1,i0=>if (decide (i0<(t0.nodes.length:Int)))=true then ((ix t0.nodes i0).bind fun v0=>(bW.f m v0 (t0.nodes.length:Int)).bind fun x0=>if (!x0)=true then (some (.inl false)) else (bX.l0 m t0 k (i64.wrap (i0+(1:Int))))) else (some (.inr i0))
def bX.f (m:Nat)(t0:ak):Option (Bool):=if (decide ((t0.nodes.length:Int)<(1:Int)))=true then (some false) else (if (decide ((t0.nodes.length:Int) > (8000:Int)))=true then (some false) else (if (decide (t0.root<(0:Int)))=true then (some false) else (if (decide (t0.root≥(t0.nodes.length:Int)))=true then (some false) else ((bX.l0 m t0 m (0:Int)).bind fun bj=>match bj with | .inl r0=>some r0 | .inr i1=>some true))))
def bX.fin (L:Mem)(r:Bool)(s:St):Prop:=∃av,aH Tryd.prog (s.open zn) Tryd.f25.results.toList=some av∧fW s.h av (.bool r)
def Uc (cf:CallF)(m:Nat):Prop:=∀(t0:ak) (r:Bool),bX.f m t0=some r→∀h xs,eN fi h xs [.agg [af.fz t0.nodes,.int .i64 t0.root]]→cf 25 xs h=some (.bool r,h)
section
variable {cf:CallF}{m:Nat}
theorem bX.bI (L:Mem)(t0:ak)  (LD:RA cf m):bD Tryd.prog cf zn m (sub [1,1,0,1,0,0] (codeOf Tryd.f25)) (fun k (σ:Int)=>bX.l0 m t0 k σ) (fun σ s=>match σ with | i0=>∃h0,s=⟨.any :: .lp 1 0 :: .any :: .int .i64 i0::jP [],[some [af.fz t0.nodes,.int .i64 t0.root]],h0⟩∧Has h0 (L)) (fun out e s=>(e = .exit 0∧∃i0,.inr i0=out∧∃uM uN KR VZ h0,s=⟨[.any,uM,.any,uN,.any,KR,.any],[VZ],h0⟩∧Has h0 (L))∨(e = .ret∧∃r,.inl r=out∧bX.fin L r s)):=by
 refine gG (fun _=>rfl) ?_
 rintro k i0 s out ⟨h0,rfl,o0⟩ H
 have H:bX.l0 m t0 (k+1) i0=some out:=H
 refine qq <| qq <| q0 <| qc H (fun c7 H=>?_) (fun c7 H=>?_)
 ·refine qk <| qq <| qb 1 <| qq ?_
  obtain⟨v0,e0,H⟩:=aI H
  obtain⟨x0,e1,H⟩:=aI H
  refine qr [.v 3 (bw (k:=.i64) (E:=af) (l:=t0.nodes) la e0),.v 4 (dw  (E:=af) (l:=t0.nodes) h0 tq tt e0),.a 8 (LD _ _ _ e1 h0 _ (hH (ae (dy (ae (aO) (ae (aO) (ae (bY) (ae (db (E:=aa)) (aC)))))) (ae (aO) (aC)))))] <| qc H (fun c8 H=>?_) (fun c8 H=>?_)
  ·exact q1 <| qt <| Yv (⟨rfl,_,oi H,cb (.bool false) h0 (b9 (au))⟩)
  ·exact qk <| q0 <| ⟨i64.wrap (i0+(1:Int)),⟨h0,by kernel_rfl,o0⟩,H⟩
 ·exact qx 0 <| YQ (⟨rfl,i0,oi H,.lp 1 0,.int .i64 i0,.bool (decide (i0<(t0.nodes.length:Int))),some [af.fz t0.nodes,.int .i64 t0.root],h0,by kernel_rfl,o0⟩)
theorem qF {aU:FuncId→cg}(ha:aU 25=zn)(LD:RA cf m)(t0:ak)(h:AHeap)(L:Mem)  (o:Has h (L)){out:Bool}(H:bX.f m t0=some out) :
  ∃r h',bc Tryd.prog aU cf m 25 [.agg [af.fz t0.nodes,.int .i64 t0.root]] h=some (r,h')∧fW h' r (.bool out):=by
 refine aq (fn:=Tryd.f25) ha Tryd.func25 (by kernel_rfl) (by kernel_rfl) ?_
 refine aG (Q:=fun s=>bX.fin L out s) (fun _ _ h=>h) ?_
 have H:_=some out:=H
 unfold bX.f at H
 show de _ cf zn m _ ⟨.agg [af.fz t0.nodes,.int .i64 t0.root]::BQ [],[none],h⟩ _
 refine q1 <| qq <| qq ?_
 rcases dJ H with⟨c0,H⟩| ⟨c0,H⟩
 ·obtain rfl:=oi H
  exact qr [.b 4 c0] <| xc <| qq <| q0 <| qt <| ⟨.inl rfl,cb (.bool false) h (b9 (au))⟩
 ·rcases dJ H with⟨c2,H⟩| ⟨c2,H⟩
  ·obtain rfl:=oi H
   exact qr [.b 4 c0,.b 10 c2] <| xc <| qq <| q0 <| qt <| ⟨.inl rfl,cb (.bool false) h (b9 (au))⟩
  ·rcases dJ H with⟨c4,H⟩| ⟨c4,H⟩
   ·obtain rfl:=oi H
    exact qr [.b 4 c0,.b 10 c2,.b 15 c4] <| xc <| qq <| q0 <| qt <| ⟨.inl rfl,cb (.bool false) h (b9 (au))⟩
   ·refine qr [.b 4 c0,.b 10 c2,.b 15 c4] <| qc H (fun c6 H=>?_) (fun c6 H=>?_)
    ·obtain rfl:=oi H
     exact q1 <| qt <| ⟨.inl rfl,cb (.bool false) h (b9 (au))⟩
    ·refine qk <| qq <| qq <| q0 <| qb 0 ?_
     obtain⟨bj,e2,H⟩:=aI H
     refine ql (bX.bI L t0  LD (0:Int) _ _ ⟨h,by kernel_rfl,o⟩ e2) ?_
     rintro e s (⟨rfl,i1,rfl,g0,g1,g2,g3,h1,rfl,o1⟩| ⟨rfl,r0,rfl,nI⟩)
     ·try dsimp only at H
      obtain rfl:=oi H
      exact q1 <| qt <| ⟨.inl rfl,cb (.bool true) h1 (b9 (au))⟩
     ·try dsimp only at H
      obtain rfl:=oi H
      exact⟨.inl rfl,nI⟩
end
end Go.Proofs.YtmekcfdllhphlaaDoor
namespace Go.Proofs.YtmekcfdllhphlaaDoor
open Go Go.R
open Go.IntKind (i64 u64 u8 u32)
def lE:cg:=gK [0,1,4,5,6,7,8,9,10,11,12,13,14,15,16,17,18,19,20,21,22,32,45,59,84,94,120,133,147] [4,10,18,20] [536870904,536870898,536870882,536870850,536870786,534773634,536870786,536870786,536870722,532676418,536870722,536870466,536869954,536868930,528480322,536868930,536868930,536870466,536870722,536868811,536864715,520087499,536864715,536856523,503302091,536856523,536856523,536854475,536821707,469712843,536821707,536821707,536788939,536657867,402440139,536657867,536395723,535871435,534822859,266387403,534822859,534822859,536395723,536657867,536870907] [(42,[(21,none,0)]),(44,[(18,some 0,0)])] [(3,[(7,none,4)]),(12,[(11,none,1)]),(32,[(18,some 0,4)]),(37,[(21,none,1)])]
def aj.l0 (m:Nat)(x0:(List Int)):Nat→(List Int)→Int→Option ((List Int) × Int)
 | 0,_,_=>none
 | k+1,ff,i0=>if (decide (i0<(x0.length:Int)))=true then ((ix x0 i0).bind fun v0=>(ix ff v0).bind fun v1=>aj.l0 m x0 k (ff.set v0.toNat i0) (i64.wrap (i0+(1:Int)))) else (some ((ff,i0)))
def aj.l2 (m:Nat)(a8:List Int)(v3:ab):Nat→(List Int)→Int→Option ((List Int) × Int)
 | 0,_,_=>none
 | k+1,en,k0=>if (decide (k0<(v3.args.length:Int)))=true then ((ix v3.args k0).bind fun v4=>(ix a8 v4).bind fun v5=>(app 8 en ([v5])).bind fun x2=>aj.l2 m a8 v3 k x2 (i64.wrap (k0+(1:Int)))) else (some ((en,k0)))
def aj.l1 (m:Nat)(l0:List ab)(x0:(List Int))(a8:List Int):Nat→(List ab)→Int→Option ((List ab) × Int)
 | 0,_,_=>none
 | k+1,eD,i2=>if (decide (i2<(x0.length:Int)))=true then ((ix x0 i2).bind fun v2=>(ix l0 v2).bind fun v3=>(aj.l2 m a8 v3 m ([]:List Int) (0:Int)).bind fun bJ=>match bJ with | (mj,k1)=>(app 56 eD [ab.mk v3.kind v3.int v3.label mj]).bind fun x3=>aj.l1 m l0 x0 a8 k x3 (i64.wrap (i2+(1:Int)))) else (some ((eD,i2)))
def aj.l4 (m:Nat)(x4:(List Int))(i4:Int):Nat→(List ab)→Int→Option ((List ab) × Int)
 | 0,_,_=>none
 | k+1,dE,k2=>(ix dE i4).bind fun v6=>if (decide (k2<(v6.args.length:Int)))=true then ((ix dE i4).bind fun v7=>(ix dE i4).bind fun v8=>(ix v8.args k2).bind fun v9=>(ix x4 v9).bind fun v10=>(ix v7.args k2).bind fun v11=>aj.l4 m x4 i4 k (dE.set i4.toNat (ab.mk v7.kind v7.int v7.label (v7.args.set k2.toNat v10))) (i64.wrap (k2+(1:Int)))) else (some ((dE,k2)))
def aj.l3 (m:Nat)(x4:(List Int)):Nat→(List ab)→Int→Option ((List ab) × Int)
 | 0,_,_=>none
 | k+1,iH,i4=>if (decide (i4<(iH.length:Int)))=true then ((aj.l4 m x4 i4 m iH (0:Int)).bind fun kH=>match kH with | (GZ,k3)=>aj.l3 m x4 k GZ (i64.wrap (i4+(1:Int)))) else (some ((iH,i4)))
def aj.l5 (m:Nat)(x5:(List Int)):Nat→(List Int)→Int→Option ((List Int) × Int)
 | 0,_,_=>none
 | k+1,fh,i6=>if (decide (i6<(x5.length:Int)))=true then ((ix x5 i6).bind fun v12=>(ix fh v12).bind fun Iq=>aj.l5 m x5 k (fh.set v12.toNat i6) (i64.wrap (i6+(1:Int)))) else (some ((fh,i6)))
def aj.l7 (m:Nat)(cp:List Int)(mS:ab):Nat→(List Int)→Int→Option ((List Int) × Int)
 | 0,_,_=>none
 | k+1,iI,k4=>if (decide (k4<(mS.args.length:Int)))=true then ((ix mS.args k4).bind fun lJ=>(ix cp lJ).bind fun Ml=>(app 8 iI ([Ml])).bind fun x6=>aj.l7 m cp mS k x6 (i64.wrap (k4+(1:Int)))) else (some ((iI,k4)))
def aj.l6 (m:Nat)(bS:List ab)(x5:(List Int))(cp:List Int):Nat→Int→(List ab)→Int→Option (Int × (List ab) × Int)
 | 0,_,_,_=>none
 | k+1,i8,gy,mh=>if (decide (i8<(x5.length:Int)))=true then ((ix x5 i8).bind fun zU=>(ix bS zU).bind fun mS=>(aj.l7 m cp mS m ([]:List Int) (0:Int)).bind fun F5=>match F5 with | (zo,k5)=>(app 56 gy ([(ab.mk mS.kind mS.int mS.label zo)])).bind fun x7=>aj.l6 m bS x5 cp k (i64.wrap (i8+(1:Int))) x7 mh) else (some ((i8,gy,mh)))
def aj.f (m:Nat)(l0:List ab)(gz:Int):Option (ak):=(aK.f m l0 gz).bind fun x0=>(sj 8 (l0.length:Int) (0:Int)).bind fun x1=>(aj.l0 m x0 m x1 (0:Int)).bind fun bj=>match bj with | (a8,i1)=>(aj.l1 m l0 x0 a8 m ([]:List ab) (0:Int)).bind fun gO=>match gO with | (uj,i3)=>(ah.f m uj).bind fun x4=>(aj.l3 m x4 m uj (0:Int)).bind fun cd=>match cd with | (bS,i5)=>(aK.f m bS (0:Int)).bind fun x5=>(aj.l5 m x5 m a8 (0:Int)).bind fun tM=>match tM with | (cp,i7)=>(aj.l6 m bS x5 cp m (0:Int) ([]:List ab) (0:Int)).bind fun JE=>match JE with | (i9,IQ,G0)=>some (ak.mk IQ G0)
def aj.fin (L:Mem)(r:ak)(s:St):Prop:=∃av,aH Tryd.prog (s.open lE) Tryd.f57.results.toList=some av∧wX s.h av (.agg [af.fz r.nodes,.int .i64 r.root])
def Ud (cf:CallF)(m:Nat):Prop:=∀(l0:List ab) (gz:Int) (r:ak),aj.f m l0 gz=some r→∀h xs,lA xs [af.fz l0,.int .i64 gz]→cf 57 xs h=some (.agg [af.fz r.nodes,.int .i64 r.root],h)
section
variable {cf:CallF}{m:Nat}
theorem aj.bI (L:Mem)(l0:List ab)(x0:(List Int))   : bD Tryd.prog cf lE m (sub [1,1,1,1,0,1,0,0] (codeOf Tryd.f57)) (fun k (σ:(List Int) × Int)=>aj.l0 m x0 k σ.1 σ.2) (fun σ s=>match σ with | (ff,i0)=>∃eS h1,s=⟨af.fz l0 :: .any :: .lp 4 0::aa.fz x0 :: .rs eS 0 ff.length 1 :: .rs (0) 0 (([]:List ab).length) 4 :: .int .i64 i0::Ni [],[some [.nils,.int .i64 (0:Int)],none,none,none],h1⟩∧Has h1 (((0),.sl (([]:List ab).length) 4 (gM.l (b6 ([]:List ab) ([]:List Nat))))::(eS,.sl ff.length 1 (aa.l ff))::(iM ([]:List ab) ([]:List Nat)++L))) (fun out e s=>(e = .exit 0∧∃ff i0,(ff,i0)=out∧∃qh LF eS h1,s=⟨af.fz l0 :: .any :: .lp 4 0::aa.fz x0 :: .rs eS 0 ff.length 1 :: .rs (0) 0 (([]:List ab).length) 4::qh::rC (LF::Ee []),[some [.nils,.int .i64 (0:Int)],none,none,none],h1⟩∧Has h1 (((0),.sl (([]:List ab).length) 4 (gM.l (b6 ([]:List ab) ([]:List Nat))))::(eS,.sl ff.length 1 (aa.l ff))::(iM ([]:List ab) ([]:List Nat)++L)))):=by
 refine gG (fun _=>rfl) ?_
 rintro k ⟨ff,i0⟩ s out ⟨eS,h1,rfl,o2⟩ H
 have H:aj.l0 m x0 (k+1) ff i0=some out:=H
 refine qq <| qq <| q0 <| qc H (fun c0 H=>?_) (fun c0 H=>?_)
 ·refine qk <| qq <| qb 1 ?_
  obtain⟨v0,e3,H⟩:=aI H
  obtain⟨v1,e4,H⟩:=aI H
  obtain⟨h2,e5,o3⟩:=dD (P:=Tryd.prog) (tf:=3) (E:=aa) (l:=ff) (q:=1) (v:=i0) (x:=.int .i64 i0) o2 rfl Z3 e4 rfl rfl
  exact qr [.v 3 (bw (k:=.i64) (E:=aa) (l:=x0) dz e3),.v 4 (cY  (E:=aa) (l:=x0) h1 A3 e3 rfl),.v 6 (aE (k:=.i64) (E:=aa) (l:=ff) (q:=1) dz o2 rfl e4),.w 7 e5] <| q0 <| ⟨(ff.set v0.toNat i0,i64.wrap (i0+(1:Int))),⟨eS,h2,(Yp (b:=⟨af.fz l0 :: .any :: .lp 4 0::aa.fz x0 :: .rs eS 0 ff.length 1 :: .rs (0) 0 (([]:List ab).length) 4 :: .int .i64 (i64.wrap (i0+(1:Int)))::Ni [],[some [.nils,.int .i64 (0:Int)],none,none,none],h2⟩) (by kernel_rfl) (by simp only [XC])),(by have o:Has h2 (((0),.sl (([]:List ab).length) 4 (gM.l (b6 ([]:List ab) ([]:List Nat))))::(eS,.sl ff.length 1 (aa.l (ff.set v0.toNat i0)))::(iM ([]:List ab) ([]:List Nat)++L)):=o3; simpa only [XC] using o)⟩,H⟩
 ·exact qx 0 <| ⟨rfl,ff,i0,oi H,.int .i64 i0,.bool (decide (i0<(x0.length:Int))),eS,h1,by kernel_rfl,o2⟩
theorem aj.mc (L:Mem)(l0:List ab)(x0:(List Int))(cF:Nat)(a8:List Int)(cF:Nat)(fb:Nat)(eD:List ab)(i2:Int)(fb:Nat)(mT:List Nat)(v3:ab)   : bD Tryd.prog cf lE m (sub [1,1,1,1,1,0,1,0,0,1,0,0,1,1,0,1,0,0] (codeOf Tryd.f57)) (fun k (σ:(List Int) × Int)=>aj.l2 m a8 v3 k σ.1 σ.2) (fun σ s=>match σ with | (en,k0)=>∃fS h5,s=⟨af.fz l0 :: .any :: .lp 4 0::aa.fz x0 :: .rs cF 0 a8.length 1 :: .rs fb 0 eD.length 4 :: .any :: .int .i64 i2 :: .lp 10 0 :: .rs fS 0 en.length 1 :: .int .i64 k0::KB [],[some [.nils,.int .i64 (0:Int)],some [.int .i64 v3.kind,.int .i64 v3.int,.str v3.label,aa.fz v3.args],none,none],h5⟩∧Has h5 ((fS,.sl en.length 1 (aa.l en))::(fb,.sl eD.length 4 (gM.l (b6 eD mT)))::(cF,.sl a8.length 1 (aa.l a8))::(iM eD mT++L))) (fun out e s=>(e = .exit 4∧∃en k0,(en,k0)=out∧∃A0 RD fS h5,s=⟨af.fz l0 :: .any :: .lp 4 0::aa.fz x0 :: .rs cF 0 a8.length 1 :: .rs fb 0 eD.length 4 :: .any :: .int .i64 i2 :: .lp 10 0 :: .rs fS 0 en.length 1::A0::mK (RD::rB []),[some [.nils,.int .i64 (0:Int)],some [.int .i64 v3.kind,.int .i64 v3.int,.str v3.label,aa.fz v3.args],none,none],h5⟩∧Has h5 ((fS,.sl en.length 1 (aa.l en))::(fb,.sl eD.length 4 (gM.l (b6 eD mT)))::(cF,.sl a8.length 1 (aa.l a8))::(iM eD mT++L)))):=by
 refine gG (fun _=>rfl) ?_
 rintro k ⟨en,k0⟩ s out ⟨fS,h5,rfl,o7⟩ H
 have H:aj.l2 m a8 v3 (k+1) en k0=some out:=H
 refine qq <| qq <| q0 <| qc H (fun c2 H=>?_) (fun c2 H=>?_)
 ·refine qk <| qq <| qb 5 ?_
  obtain⟨v4,e9,H⟩:=aI H
  obtain⟨v5,nJ,H⟩:=aI H
  obtain⟨x2,qn,H⟩:=aI H
  obtain⟨gP,h6,rL,o8⟩:=fF (P:=Tryd.prog) (E:=aa) (l:=en) (q:=0) (t2:=42) (x:=.fz [.int .i64 v5] 1 true) (l2:=([v5])) dz o7 rfl (by kernel_rfl) rfl qn
  exact qr [.v 5 (bw (k:=.i64) (E:=aa) (l:=v3.args) dz e9),.v 6 (cY  (E:=aa) (l:=v3.args) h5 A3 e9 rfl),.v 7 (aE (k:=.i64) (E:=aa) (l:=a8) (q:=2) dz o7 rfl nJ),.v 8 (be  (E:=aa) (l:=a8) (q:=2) o7 rfl A3 nJ rfl),.a 10 rL] <| q0 <| ⟨(x2,i64.wrap (k0+(1:Int))),⟨gP,h6,by kernel_rfl,o8⟩,H⟩
 ·exact qx 4 <| ⟨rfl,en,k0,oi H,.int .i64 k0,.bool (decide (k0<(v3.args.length:Int))),fS,h5,by kernel_rfl,o7⟩
theorem aj.eQ (L:Mem)(l0:List ab)(x0:(List Int))(cF:Nat)(a8:List Int)(cF:Nat)   : bD Tryd.prog cf lE m (sub [1,1,1,1,1,0,1,0,0] (codeOf Tryd.f57)) (fun k (σ:(List ab) × Int)=>aj.l1 m l0 x0 a8 k σ.1 σ.2) (fun σ s=>match σ with | (eD,i2)=>∃fb mT h4,s=⟨af.fz l0 :: .any :: .lp 4 0::aa.fz x0 :: .rs cF 0 a8.length 1 :: .rs fb 0 eD.length 4 :: .any :: .int .i64 i2::Nh [],[some [.nils,.int .i64 (0:Int)],none,none,none],h4⟩∧Has h4 ((fb,.sl eD.length 4 (gM.l (b6 eD mT)))::(cF,.sl a8.length 1 (aa.l a8))::(iM eD mT++L))) (fun out e s=>(e = .exit 2∧∃eD i2,(eD,i2)=out∧∃kG xp rG RE fb mT h4,s=⟨kG :: .any :: .lp 4 0::xp :: .rs cF 0 a8.length 1 :: .rs fb 0 eD.length 4 :: .any::rG::rC (RE::BQ []),[some [.nils,.int .i64 (0:Int)],none,none,none],h4⟩∧Has h4 ((fb,.sl eD.length 4 (gM.l (b6 eD mT)))::(cF,.sl a8.length 1 (aa.l a8))::(iM eD mT++L)))):=by
 refine gG (fun _=>rfl) ?_
 rintro k ⟨eD,i2⟩ s out ⟨fb,mT,h4,rfl,o5⟩ H
 have H:aj.l1 m l0 x0 a8 (k+1) eD i2=some out:=H
 refine qq <| qq <| q0 <| qc H (fun c1 H=>?_) (fun c1 H=>?_)
 ·refine qk <| qq <| qb 3 <| qq ?_
  obtain⟨v2,e7,H⟩:=aI H
  obtain⟨v3,e8,H⟩:=aI H
  refine qr [.v 3 (bw (k:=.i64) (E:=aa) (l:=x0) dz e7),.v 4 (cY  (E:=aa) (l:=x0) h4 A3 e7 rfl),.v 5 (bw (k:=.i64) (E:=af) (l:=l0) la e8),.v 6 (dw  (E:=af) (l:=l0) h4 tq tt e8)] <| qq <| q0 ?_
  have o6:Has h4 ((((0)),.sl (([]:List Int).length) 1 (aa.l ([]:List Int)))::(fb,.sl eD.length 4 (gM.l (b6 eD mT)))::(cF,.sl a8.length 1 (aa.l a8))::(iM eD mT++L)):=Has.nil o5 1
  refine qq <| qq <| q0 <| qb 4 ?_
  obtain⟨bJ,rM,H⟩:=aI H
  refine ql (aj.mc L l0 x0 cF a8 cF fb eD i2 fb mT v3   (([]:List Int),(0:Int)) _ _ ⟨((0)),h4,by kernel_rfl,o6⟩ rM) ?_
  rintro e s ⟨rfl,mj,k1,rfl,g2,g3,gQ,h7,rfl,o9⟩
  try dsimp only at H
  refine q1 ?_
  obtain⟨x3,tJ,H⟩:=aI H
  obtain⟨il,RF,h8,rN,tF⟩:=KE (P:=Tryd.prog) (t2:=29) (pre:=[(cF,.sl a8.length 1 (aa.l a8))]) (ns:=eD) (ids:=mT) (kind:=v3.kind) (int:=v3.int) (label:=v3.label) (args:=mj) (x:=.fz [.int .i64 v3.kind,.int .i64 v3.int,.str v3.label,.rs gQ 0 mj.length 1] 1 true) la (Has.front (Has.front (Has.front o9 2 rfl) 1 rfl) 2 rfl) (by kernel_rfl) rfl tJ
  exact qr [.a 3 rN] <| q0 <| ⟨(x3,i64.wrap (i2+(1:Int))),⟨il,RF,h8,by kernel_rfl,tF⟩,H⟩
 ·exact qx 2 <| ⟨rfl,eD,i2,oi H,af.fz l0,aa.fz x0,.int .i64 i2,.bool (decide (i2<(x0.length:Int))),fb,mT,h4,by kernel_rfl,o5⟩
theorem aj.oW (L:Mem)(cF:Nat)(a8:List Int)(cF:Nat)(x4:(List Int))(i4:Int)   : bD Tryd.prog cf lE m (sub [1,1,1,1,1,1,1,0,1,0,0,1,0,0,1,0,0] (codeOf Tryd.f57)) (fun k (σ:(List ab) × Int)=>aj.l4 m x4 i4 k σ.1 σ.2) (fun σ s=>match σ with | (dE,k2)=>∃eK jQ h11,s=⟨.any :: .any :: .lp 4 0 :: .any :: .rs cF 0 a8.length 1 :: .rs eK 0 dE.length 4::rB (aa.fz x4 :: .int .i64 i4 :: .int .i64 k2::Dw []),[some [.nils,.int .i64 (0:Int)],none,none,none],h11⟩∧Has h11 ((eK,.sl dE.length 4 (gM.l (b6 dE jQ)))::(cF,.sl a8.length 1 (aa.l a8))::(iM dE jQ++L))) (fun out e s=>(e = .exit 8∧∃dE k2,(dE,k2)=out∧∃tH RG eK jQ h11,s=⟨.any :: .any :: .lp 4 0 :: .any :: .rs cF 0 a8.length 1 :: .rs eK 0 dE.length 4::rB (aa.fz x4 :: .int .i64 i4::tH::oL (RG::jP [])),[some [.nils,.int .i64 (0:Int)],none,none,none],h11⟩∧Has h11 ((eK,.sl dE.length 4 (gM.l (b6 dE jQ)))::(cF,.sl a8.length 1 (aa.l a8))::(iM dE jQ++L)))):=by
 refine gG (fun _=>rfl) ?_
 rintro k ⟨dE,k2⟩ s out ⟨eK,jQ,h11,rfl,lB⟩ H
 have H:aj.l4 m x4 i4 (k+1) dE k2=some out:=H
 refine qq <| qq ?_
 obtain⟨v6,zR,H⟩:=aI H
 refine qr [.v 3 (aE (k:=.i64) (E:=gM) (l:=(b6 dE jQ)) (q:=0) la lB rfl (j5 zR)),.v 5 (wW  (E:=gM) (l:=(b6 dE jQ)) (q:=0) (off:=3) lB rfl KL (j5 zR) rfl)] <| qc H (fun c4 H=>?_) (fun c4 H=>?_)
 ·refine qk <| qq <| qb 9 ?_
  obtain⟨v7,ux,H⟩:=aI H
  obtain⟨v8,zS,H⟩:=aI H
  obtain⟨v9,B8,H⟩:=aI H
  obtain⟨v10,Eg,H⟩:=aI H
  obtain⟨v11,FN,H⟩:=aI H
  obtain⟨h12,Eh,uQ⟩:=KF (P:=Tryd.prog) (tf:=3) (pre:=[(cF,.sl a8.length 1 (aa.l a8))]) (v:=v10) lB Z3 ux FN
  refine qr [.v 2 (aE (k:=.i64) (E:=gM) (l:=(b6 dE jQ)) (q:=0) la lB rfl (j5 ux)),.v 4 (wW  (E:=gM) (l:=(b6 dE jQ)) (q:=0) (off:=3) lB rfl KL (j5 ux) rfl),.v 9 (aE (k:=.i64) (E:=gM) (l:=(b6 dE jQ)) (q:=0) la lB rfl (j5 zS)),.v 11 (wW  (E:=gM) (l:=(b6 dE jQ)) (q:=0) (off:=3) lB rfl KL (j5 zS) rfl),.v 13 (aE (k:=.i64) (E:=aa) (l:=v8.args) dz lB (pZ (pre:=[(eK,.sl dE.length 4 (gM.l (b6 dE jQ))),(cF,.sl a8.length 1 (aa.l a8))]) (ids:=jQ) zS) B8),.v 14 (be  (E:=aa) (l:=v8.args) lB (pZ (pre:=[(eK,.sl dE.length 4 (gM.l (b6 dE jQ))),(cF,.sl a8.length 1 (aa.l a8))]) (ids:=jQ) zS) A3 B8 rfl),.v 15 (bw (k:=.i64) (E:=aa) (l:=x4) dz Eg),.v 16 (cY  (E:=aa) (l:=x4) h11 A3 Eg rfl),.v 17 (aE (k:=.i64) (E:=aa) (l:=v7.args) dz lB (pZ (pre:=[(eK,.sl dE.length 4 (gM.l (b6 dE jQ))),(cF,.sl a8.length 1 (aa.l a8))]) (ids:=jQ) ux) FN),.w 18 Eh] ?_
  exact q0 <| ⟨(dE.set i4.toNat (ab.mk v7.kind v7.int v7.label (v7.args.set k2.toNat v10)),i64.wrap (k2+(1:Int))),⟨eK,jQ,h12,(Yp (b:=⟨.any :: .any :: .lp 4 0 :: .any :: .rs cF 0 a8.length 1 :: .rs eK 0 dE.length 4::rB (aa.fz x4 :: .int .i64 i4 :: .int .i64 (i64.wrap (k2+(1:Int)))::Dw []),[some [.nils,.int .i64 (0:Int)],none,none,none],h12⟩) (by kernel_rfl) (by simp only [XC])),(by have o:Has h12 ((eK,.sl dE.length 4 (gM.l (b6 (dE.set i4.toNat (ab.mk v7.kind v7.int v7.label (v7.args.set k2.toNat v10))) jQ)))::(cF,.sl a8.length 1 (aa.l a8))::(iM (dE.set i4.toNat (ab.mk v7.kind v7.int v7.label (v7.args.set k2.toNat v10))) jQ++L)):=uQ; simpa only [XC] using o)⟩,H⟩
 ·exact qx 8 <| ⟨rfl,dE,k2,oi H,.int .i64 k2,.bool (decide (k2<(v6.args.length:Int))),eK,jQ,h11,by kernel_rfl,lB⟩
theorem aj.oV (L:Mem)(cF:Nat)(a8:List Int)(cF:Nat)(x4:(List Int))   : bD Tryd.prog cf lE m (sub [1,1,1,1,1,1,1,0,1,0,0] (codeOf Tryd.f57)) (fun k (σ:(List ab) × Int)=>aj.l3 m x4 k σ.1 σ.2) (fun σ s=>match σ with | (iH,i4)=>∃xT zp h10,s=⟨.any :: .any :: .lp 4 0 :: .any :: .rs cF 0 a8.length 1 :: .rs xT 0 iH.length 4::rB (aa.fz x4 :: .int .i64 i4::Fp []),[some [.nils,.int .i64 (0:Int)],none,none,none],h10⟩∧Has h10 ((xT,.sl iH.length 4 (gM.l (b6 iH zp)))::(cF,.sl a8.length 1 (aa.l a8))::(iM iH zp++L))) (fun out e s=>(e = .exit 6∧∃iH i4,(iH,i4)=out∧∃qe xi RH xT zp h10,s=⟨.any :: .any :: .lp 4 0 :: .any :: .rs cF 0 a8.length 1 :: .rs xT 0 iH.length 4::rB (qe::xi::oL (RH::q9 [])),[some [.nils,.int .i64 (0:Int)],none,none,none],h10⟩∧Has h10 ((xT,.sl iH.length 4 (gM.l (b6 iH zp)))::(cF,.sl a8.length 1 (aa.l a8))::(iM iH zp++L)))):=by
 refine gG (fun _=>rfl) ?_
 rintro k ⟨iH,i4⟩ s out ⟨xT,zp,h10,rfl,oT⟩ H
 have H:aj.l3 m x4 (k+1) iH i4=some out:=H
 refine qq <| qq <| q0 <| qc H (fun c3 H=>?_) (fun c3 H=>?_)
 ·refine qk <| qq <| qb 7 <| qq <| q0 <| qb 8 ?_
  obtain⟨kH,FO,H⟩:=aI H
  refine ql (aj.oW L cF a8 cF x4 i4   (iH,(0:Int)) _ _ ⟨xT,zp,h10,by kernel_rfl,oT⟩ FO) ?_
  rintro e s ⟨rfl,GZ,k3,rfl,g8,g9,nM,RI,h13,rfl,yP⟩
  try dsimp only at H
  exact q0 <| ⟨(GZ,i64.wrap (i4+(1:Int))),⟨nM,RI,h13,by kernel_rfl,yP⟩,H⟩
 ·exact qx 6 <| ⟨rfl,iH,i4,oi H,aa.fz x4,.int .i64 i4,.bool (decide (i4<(iH.length:Int))),xT,zp,h10,by kernel_rfl,oT⟩
theorem aj.GQ (L:Mem)(fJ:Nat)(bS:List ab)(fJ:Nat)(fY:List Nat)(x5:(List Int))   : bD Tryd.prog cf lE m (sub [1,1,1,1,1,1,1,1,1,0,1,0,0] (codeOf Tryd.f57)) (fun k (σ:(List Int) × Int)=>aj.l5 m x5 k σ.1 σ.2) (fun σ s=>match σ with | (fh,i6)=>∃gR h15,s=⟨.any :: .any :: .lp 4 0 :: .any :: .rs gR 0 fh.length 1 :: .rs fJ 0 bS.length 4::pY (aa.fz x5 :: .int .i64 i6::mL []),[some [.nils,.int .i64 (0:Int)],none,none,none],h15⟩∧Has h15 ((fJ,.sl bS.length 4 (gM.l (b6 bS fY)))::(gR,.sl fh.length 1 (aa.l fh))::(iM bS fY++L))) (fun out e s=>(e = .exit 10∧∃fh i6,(fh,i6)=out∧∃AI GR gR h15,s=⟨.any :: .any :: .lp 4 0 :: .any :: .rs gR 0 fh.length 1 :: .rs fJ 0 bS.length 4::pY (aa.fz x5::AI::uK [GR,.any,.any]),[some [.nils,.int .i64 (0:Int)],none,none,none],h15⟩∧Has h15 ((fJ,.sl bS.length 4 (gM.l (b6 bS fY)))::(gR,.sl fh.length 1 (aa.l fh))::(iM bS fY++L)))):=by
 refine gG (fun _=>rfl) ?_
 rintro k ⟨fh,i6⟩ s out ⟨gR,h15,rfl,zT⟩ H
 have H:aj.l5 m x5 (k+1) fh i6=some out:=H
 refine qq <| qq <| q0 <| qc H (fun c5 H=>?_) (fun c5 H=>?_)
 ·refine qk <| qq <| qb 11 ?_
  obtain⟨v12,FQ,H⟩:=aI H
  obtain⟨Iq,FR,H⟩:=aI H
  obtain⟨h16,FP,DP⟩:=dD (P:=Tryd.prog) (tf:=3) (E:=aa) (l:=fh) (q:=1) (v:=i6) (x:=.int .i64 i6) zT rfl Z3 FR rfl rfl
  exact qr [.v 3 (bw (k:=.i64) (E:=aa) (l:=x5) dz FQ),.v 4 (cY  (E:=aa) (l:=x5) h15 A3 FQ rfl),.v 6 (aE (k:=.i64) (E:=aa) (l:=fh) (q:=1) dz zT rfl FR),.w 7 FP] <| q0 <| ⟨(fh.set v12.toNat i6,i64.wrap (i6+(1:Int))),⟨gR,h16,(Yp (b:=⟨.any :: .any :: .lp 4 0 :: .any :: .rs gR 0 fh.length 1 :: .rs fJ 0 bS.length 4::pY (aa.fz x5 :: .int .i64 (i64.wrap (i6+(1:Int)))::mL []),[some [.nils,.int .i64 (0:Int)],none,none,none],h16⟩) (by kernel_rfl) (by simp only [XC])),(by have o:Has h16 ((fJ,.sl bS.length 4 (gM.l (b6 bS fY)))::(gR,.sl fh.length 1 (aa.l (fh.set v12.toNat i6)))::(iM bS fY++L)):=DP; simpa only [XC] using o)⟩,H⟩
 ·exact qx 10 <| ⟨rfl,fh,i6,oi H,.int .i64 i6,.bool (decide (i6<(x5.length:Int))),gR,h15,by kernel_rfl,zT⟩
theorem aj.Ot (L:Mem)(fJ:Nat)(bS:List ab)(fJ:Nat)(fY:List Nat)(x5:(List Int))(jM:Nat)(cp:List Int)(jM:Nat)(ik:Nat)(i8:Int)(gy:List ab)(mh:Int)(ik:Nat)(zU:Int)(mS:ab)(Hz:ix bS zU=some mS)   : bD Tryd.prog cf lE m (sub [1,1,1,1,1,1,1,1,1,1,1,0,1,0,0,1,0,0,1,1,0,1,0,0] (codeOf Tryd.f57)) (fun k (σ:(List Int) × Int)=>aj.l7 m cp mS k σ.1 σ.2) (fun σ s=>match σ with | (iI,k4)=>∃lI h19,s=⟨.any :: .any :: .lp 4 0 :: .any :: .rs jM 0 cp.length 1 :: .rs fJ 0 bS.length 4::pY (aa.fz x5 :: .any :: .lp 18 0 :: .int .i64 i8 :: .lp 20 0 :: .rs lI 0 iI.length 1 :: .int .i64 k4::pY []),[some [.nils,.int .i64 (0:Int)],none,some [.rs ik 0 gy.length 4,.int .i64 mh],some [.int .i64 mS.kind,.int .i64 mS.int,.str mS.label,.rs (Jm fY zU) 0 mS.args.length 1]],h19⟩∧Has h19 ((lI,.sl iI.length 1 (aa.l iI))::(ik,.sl gy.length 4 (af.l gy))::(fJ,.sl bS.length 4 (gM.l (b6 bS fY)))::(jM,.sl cp.length 1 (aa.l cp))::(iM bS fY++L))) (fun out e s=>(e = .exit 14∧∃iI k4,(iI,k4)=out∧∃xj Ou lI h19,s=⟨.any :: .any :: .lp 4 0 :: .any :: .rs jM 0 cp.length 1 :: .rs fJ 0 bS.length 4::pY (aa.fz x5 :: .any :: .lp 18 0 :: .int .i64 i8 :: .lp 20 0 :: .rs lI 0 iI.length 1::xj::Ee [Ou]),[some [.nils,.int .i64 (0:Int)],none,some [.rs ik 0 gy.length 4,.int .i64 mh],some [.int .i64 mS.kind,.int .i64 mS.int,.str mS.label,.rs (Jm fY zU) 0 mS.args.length 1]],h19⟩∧Has h19 ((lI,.sl iI.length 1 (aa.l iI))::(ik,.sl gy.length 4 (af.l gy))::(fJ,.sl bS.length 4 (gM.l (b6 bS fY)))::(jM,.sl cp.length 1 (aa.l cp))::(iM bS fY++L)))):=by
 refine gG (fun _=>rfl) ?_
 rintro k ⟨iI,k4⟩ s out ⟨lI,h19,rfl,Ei⟩ H
 have H:aj.l7 m cp mS (k+1) iI k4=some out:=H
 refine qq <| qq <| q0 <| qc H (fun c7 H=>?_) (fun c7 H=>?_)
 ·refine qk <| qq <| qb 15 ?_
  obtain⟨lJ,Me,H⟩:=aI H
  obtain⟨Ml,Mf,H⟩:=aI H
  obtain⟨x6,NT,H⟩:=aI H
  obtain⟨qA,h20,NU,It⟩:=fF (P:=Tryd.prog) (E:=aa) (l:=iI) (q:=0) (t2:=42) (x:=.fz [.int .i64 Ml] 1 true) (l2:=([Ml])) dz Ei rfl (by kernel_rfl) rfl NT
  exact qr [.v 5 (aE (k:=.i64) (E:=aa) (l:=mS.args) dz Ei (pZ (pre:=[(lI,.sl iI.length 1 (aa.l iI)),(ik,.sl gy.length 4 (af.l gy)),(fJ,.sl bS.length 4 (gM.l (b6 bS fY))),(jM,.sl cp.length 1 (aa.l cp))]) (ids:=fY) Hz) Me),.v 6 (be  (E:=aa) (l:=mS.args) Ei (pZ (pre:=[(lI,.sl iI.length 1 (aa.l iI)),(ik,.sl gy.length 4 (af.l gy)),(fJ,.sl bS.length 4 (gM.l (b6 bS fY))),(jM,.sl cp.length 1 (aa.l cp))]) (ids:=fY) Hz) A3 Me rfl),.v 7 (aE (k:=.i64) (E:=aa) (l:=cp) (q:=3) dz Ei rfl Mf),.v 8 (be  (E:=aa) (l:=cp) (q:=3) Ei rfl A3 Mf rfl),.a 10 NU] <| q0 <| ⟨(x6,i64.wrap (k4+(1:Int))),⟨qA,h20,by kernel_rfl,It⟩,H⟩
 ·exact qx 14 <| ⟨rfl,iI,k4,oi H,.int .i64 k4,.bool (decide (k4<(mS.args.length:Int))),lI,h19,by kernel_rfl,Ei⟩
theorem aj.GP (L:Mem)(fJ:Nat)(bS:List ab)(fJ:Nat)(fY:List Nat)(x5:(List Int))(jM:Nat)(cp:List Int)(jM:Nat)   : bD Tryd.prog cf lE m (sub [1,1,1,1,1,1,1,1,1,1,1,0,1,0,0] (codeOf Tryd.f57)) (fun k (σ:Int × (List ab) × Int)=>aj.l6 m bS x5 cp k σ.1 σ.2.1 σ.2.2) (fun σ s=>match σ with | (i8,gy,mh)=>∃ik h18,s=⟨.any :: .any :: .lp 4 0 :: .any :: .rs jM 0 cp.length 1 :: .rs fJ 0 bS.length 4::pY (aa.fz x5 :: .any :: .lp 18 0 :: .int .i64 i8::oL []),[some [.nils,.int .i64 (0:Int)],none,some [.rs ik 0 gy.length 4,.int .i64 mh],none],h18⟩∧Has h18 ((ik,.sl gy.length 4 (af.l gy))::(fJ,.sl bS.length 4 (gM.l (b6 bS fY)))::(jM,.sl cp.length 1 (aa.l cp))::(iM bS fY++L))) (fun out e s=>(e = .exit 12∧∃i8 gy mh,(i8,gy,mh)=out∧∃DR uP Gx GV Ov ik h18,s=⟨.any :: .any :: .lp 4 0 :: .any::DR::uP::pY (Gx :: .any :: .lp 18 0::GV::BR [Ov,.any]),[some [.nils,.int .i64 (0:Int)],none,some [.rs ik 0 gy.length 4,.int .i64 mh],none],h18⟩∧Has h18 ((ik,.sl gy.length 4 (af.l gy))::(fJ,.sl bS.length 4 (gM.l (b6 bS fY)))::(jM,.sl cp.length 1 (aa.l cp))::(iM bS fY++L)))):=by
 refine gG (fun _=>rfl) ?_
 rintro k ⟨i8,gy,mh⟩ s out ⟨ik,h18,rfl,xo⟩ H
 have H:aj.l6 m bS x5 cp (k+1) i8 gy mh=some out:=H
 refine qq <| qq <| q0 <| qc H (fun c6 H=>?_) (fun c6 H=>?_)
 ·refine qk <| qq <| qb 13 <| qq ?_
  obtain⟨zU,Lg,H⟩:=aI H
  obtain⟨mS,Hz,H⟩:=aI H
  refine qr [.v 3 (bw (k:=.i64) (E:=aa) (l:=x5) dz Lg),.v 4 (cY  (E:=aa) (l:=x5) h18 A3 Lg rfl),.v 5 (aE (k:=.i64) (E:=gM) (l:=(b6 bS fY)) (q:=1) la xo rfl (j5 Hz)),.v 6 (H4  (E:=gM) (l:=(b6 bS fY)) (q:=1) xo rfl tq tt (j5 Hz))] <| qq <| q0 ?_
  have Ga:Has h18 ((((((0)))),.sl (([]:List Int).length) 1 (aa.l ([]:List Int)))::(ik,.sl gy.length 4 (af.l gy))::(fJ,.sl bS.length 4 (gM.l (b6 bS fY)))::(jM,.sl cp.length 1 (aa.l cp))::(iM bS fY++L)):=Has.nil xo 1
  refine qq <| qq <| q0 <| qb 14 ?_
  obtain⟨F5,Li,H⟩:=aI H
  refine ql (aj.Ot L fJ bS fJ fY x5 jM cp jM ik i8 gy mh ik zU mS Hz   (([]:List Int),(0:Int)) _ _ ⟨((((0)))),h18,by kernel_rfl,Ga⟩ Li) ?_
  rintro e s ⟨rfl,zo,k5,rfl,g15,g16,qB,h21,rfl,NW⟩
  try dsimp only at H
  refine qq ?_
  obtain⟨h22,Mg,mP⟩:=iU (E:=aa) (l:=zo) (q:=0) NW rfl
  refine zQ [.a 0 Mg] [] ?_
  obtain⟨x7,NV,H⟩:=aI H
  obtain⟨Ly,h23,Iu,Jt⟩:=fF (P:=Tryd.prog) (E:=af) (l:=gy) (q:=0) (t2:=29) (x:=.fz [.int .i64 mS.kind,.int .i64 mS.int,.str mS.label,aa.fz zo] 1 true) (l2:=([(ab.mk mS.kind mS.int mS.label zo)])) la mP rfl (by kernel_rfl) rfl NV
  exact qr [.a 4 Iu] <| q0 <| ⟨(i64.wrap (i8+(1:Int)),x7,mh),⟨Ly,h23,by kernel_rfl,Jt⟩,H⟩
 ·exact qx 12 <| ⟨rfl,i8,gy,mh,oi H,.rs jM 0 cp.length 1,.rs fJ 0 bS.length 4,aa.fz x5,.int .i64 i8,.bool (decide (i8<(x5.length:Int))),ik,h18,by kernel_rfl,xo⟩
theorem qG {aU:FuncId→cg}(ha:aU 57=lE)(Ow:T4 cf m)(RJ:TU cf m)(l0:List ab)(gz:Int)(h:AHeap)(L:Mem)  (o:Has h (L)){out:ak}(H:aj.f m l0 gz=some out) :
  ∃r h',bc Tryd.prog aU cf m 57 [af.fz l0,.int .i64 gz] h=some (r,h')∧wX h' r (.agg [af.fz out.nodes,.int .i64 out.root]):=by
 refine aq (fn:=Tryd.f57) ha Tryd.func57 (by kernel_rfl) (by kernel_rfl) ?_
 refine aG (Q:=fun s=>aj.fin L out s) (fun _ _ h=>h) ?_
 have H:_=some out:=H
 unfold aj.f at H
 show de _ cf lE m _ ⟨af.fz l0 :: .int .i64 gz::Nk [],[none,none,none,none],h⟩ _
 refine q1 <| qq ?_
 obtain⟨x0,e0,H⟩:=aI H
 refine qr [.a 2 (Ow _ _ _ e0 h _ (hH (ae (db (E:=af)) (ae (aO) (aC)))))] <| qq ?_
 obtain⟨x1,e1,H⟩:=aI H
 obtain⟨aA,h0,e2,o0⟩:=lZ (P:=Tryd.prog) (E:=aa) (z:=(0:Int)) (zv:=.int .i64 (0:Int)) dz o 3 rfl rfl rfl rfl e1
 refine qr [.a 2 e2] <| qq <| q0 ?_
 have o1:Has h0 (((0),.sl (([]:List ab).length) 4 (gM.l (b6 ([]:List ab) ([]:List Nat))))::(aA,.sl x1.length 1 (aa.l x1))::(iM ([]:List ab) ([]:List Nat)++L)):=Has.nil o0 4
 refine qq <| qq <| q0 <| qb 0 ?_
 obtain⟨bj,e6,H⟩:=aI H
 refine ql (aj.bI L l0 x0   (x1,(0:Int)) _ _ ⟨aA,h0,by kernel_rfl,o1⟩ e6) ?_
 rintro e s ⟨rfl,a8,i1,rfl,g0,g1,cF,h3,rfl,o4⟩
 try dsimp only at H
 refine qq <| qq <| q0 <| qb 2 ?_
 obtain⟨gO,vJ,H⟩:=aI H
 refine ql (aj.eQ L l0 x0 cF a8 cF   (([]:List ab),(0:Int)) _ _ ⟨(0),([]:List Nat),h3,by kernel_rfl,o4⟩ vJ) ?_
 rintro e s ⟨rfl,uj,i3,rfl,g4,g5,g6,g7,kL,LG,h9,rfl,uw⟩
 try dsimp only at H
 refine qq ?_
 obtain⟨x4,uS,H⟩:=aI H
 refine qr [.a 1 (RJ _ _ uS h9 _ (hH (ae (Fx (pre:=[(kL,.sl uj.length 4 (gM.l (b6 uj LG))),(cF,.sl a8.length 1 (aa.l a8))]) (ns:=uj) (ids:=LG) (q:=0) uw rfl) (aC))))] <| qq <| qq <| q0 <| qb 6 ?_
 obtain⟨cd,FT,H⟩:=aI H
 refine ql (aj.oV L cF a8 cF x4   (uj,(0:Int)) _ _ ⟨kL,LG,h9,by kernel_rfl,uw⟩ FT) ?_
 rintro e s ⟨rfl,bS,i5,rfl,g10,g11,g12,fJ,fY,h14,rfl,lG⟩
 try dsimp only at H
 refine qq ?_
 obtain⟨x5,Hx,H⟩:=aI H
 refine qr [.a 1 (Ow _ _ _ Hx h14 _ (hH (ae (Fx (pre:=[(fJ,.sl bS.length 4 (gM.l (b6 bS fY))),(cF,.sl a8.length 1 (aa.l a8))]) (ns:=bS) (ids:=fY) (q:=0) lG rfl) (ae (aO) (aC)))))] <| qq <| qq <| q0 <| qb 10 ?_
 obtain⟨tM,Ir,H⟩:=aI H
 refine ql (aj.GQ L fJ bS fJ fY x5   (a8,(0:Int)) _ _ ⟨cF,h14,by kernel_rfl,lG⟩ Ir) ?_
 rintro e s ⟨rfl,cp,i7,rfl,g13,g14,jM,h17,rfl,DQ⟩
 try dsimp only at H
 refine q1 ?_
 have Lh:Has h17 (((((0))),.sl (([]:List ab).length) 4 (af.l ([]:List ab)))::(fJ,.sl bS.length 4 (gM.l (b6 bS fY)))::(jM,.sl cp.length 1 (aa.l cp))::(iM bS fY++L)):=Has.nil DQ 4
 refine qq <| qq <| q0 <| qb 12 ?_
 obtain⟨JE,Jr,H⟩:=aI H
 refine ql (aj.GP L fJ bS fJ fY x5 jM cp jM   ((0:Int),([]:List ab),(0:Int)) _ _ ⟨(((0))),h17,by kernel_rfl,Lh⟩ Jr) ?_
 rintro e s ⟨rfl,i9,IQ,G0,rfl,g17,g18,g19,g20,g21,gX,h24,rfl,HA⟩
 try dsimp only at H
 refine qq ?_
 obtain⟨h25,Js,NX⟩:=iU (E:=af) (l:=IQ) (q:=0) HA rfl
 refine zQ [.a 0 Js] [] ?_
 have NY:Has h25 ((fJ,.sl bS.length 4 (gM.l (b6 bS fY)))::(iM bS fY++L)):=Has.del NX 1
 have O5:Has h25 (L):=Has.gone (pre:=[]) (Has.del NY 0)
 obtain rfl:=oi H
 exact qt <| ⟨.inl rfl,vD (.agg [af.fz IQ,.int .i64 G0]) h25 (pD (dy (ae (db) (ae (aO) (aC)))))⟩
end
end Go.Proofs.YtmekcfdllhphlaaDoor
namespace Go.Proofs.YtmekcfdllhphlaaDoor
open Go Go.R
open Go.IntKind (i64 u64 u8 u32)
def CF:cg:=gK [0,1,2,3,6] [1,2] [25,9,19,19] [] []
def eY.f (m:Nat)(t0:ak):Option (ak × Int):=(bX.f m t0).bind fun x0=>if (!x0)=true then (some ((ak.mk ([]) (0:Int)),(2:Int))) else ((aj.f m t0.nodes t0.root).bind fun x1=>some (x1,(0:Int)))
def eY.fin (L:Mem)(r:ak × Int)(s:St):Prop:=∃av,aH Tryd.prog (s.open CF) Tryd.f37.results.toList=some av∧wX s.h av (.tup [.agg [af.fz r.1.nodes,.int .i64 r.1.root],.int .i64 r.2])
def RK (cf:CallF)(m:Nat):Prop:=∀(t0:ak) (r:ak × Int),eY.f m t0=some r→∀h xs,lA xs [.agg [af.fz t0.nodes,.int .i64 t0.root]]→cf 37 xs h=some (.tup [.agg [af.fz r.1.nodes,.int .i64 r.1.root],.int .i64 r.2],h)
section
variable {cf:CallF}{m:Nat}
theorem qH {aU:FuncId→cg}(ha:aU 37=CF)(RL:Uc cf m)(RM:Ud cf m)(t0:ak)(h:AHeap)(L:Mem)  (o:Has h (L)){out:ak × Int}(H:eY.f m t0=some out) :
  ∃r h',bc Tryd.prog aU cf m 37 [.agg [af.fz t0.nodes,.int .i64 t0.root]] h=some (r,h')∧wX h' r (.tup [.agg [af.fz out.1.nodes,.int .i64 out.1.root],.int .i64 out.2]):=by
 refine aq (fn:=Tryd.f37) ha Tryd.func37 (by kernel_rfl) (by kernel_rfl) ?_
 refine aG (Q:=fun s=>eY.fin L out s) (fun _ _ h=>h) ?_
 have H:_=some out:=H
 unfold eY.f at H
 show de _ cf CF m _ ⟨.agg [af.fz t0.nodes,.int .i64 t0.root]::q9 [],[none,none],h⟩ _
 refine q1 <| qq <| qq ?_
 obtain⟨x0,e0,H⟩:=aI H
 refine qr [.a 1 (RL _ _ e0 h _ (hH (ae (dy (ae (db (E:=af)) (ae (aO) (aC)))) (aC))))] <| qc H (fun c0 H=>?_) (fun c0 H=>?_)
 ·obtain rfl:=oi H
  exact q1 <| qt <| ⟨.inl rfl,vD (.tup [.agg [.nils,.int .i64 (0:Int)],.int .i64 (2:Int)]) h (pD (fT (ae (dy (ae (gF) (ae (aO) (aC)))) (ae (aO) (aC)))))⟩
 ·refine qk <| qq ?_
  obtain⟨x1,e1,H⟩:=aI H
  obtain rfl:=oi H
  exact qr [.a 4 (RM _ _ _ e1 h _ (cG (iN (E:=af)) (cG (bE) (gL))))] <| qt <| ⟨.inl rfl,vD (.tup [.agg [af.fz x1.nodes,.int .i64 x1.root],.int .i64 (0:Int)]) h (pD (fT (ae (dy (ae (db) (ae (aO) (aC)))) (ae (aO) (aC)))))⟩
end
end Go.Proofs.YtmekcfdllhphlaaDoor
namespace Go.Proofs.YtmekcfdllhphlaaDoor
open Go Go.R
open Go.IntKind (i64 u64 u8 u32)
end Go.Proofs.YtmekcfdllhphlaaDoor
namespace Go.Proofs.YtmekcfdllhphlaaDoor
open Go Go.R
open Go.IntKind (i64 u64 u8 u32)
end Go.Proofs.YtmekcfdllhphlaaDoor
namespace Go.Proofs.YtmekcfdllhphlaaDoor
open Go Go.R
open Go.IntKind (i64 u64 u8 u32)
end Go.Proofs.YtmekcfdllhphlaaDoor
namespace Go.Proofs.YtmekcfdllhphlaaDoor
open Go Go.R
open Go.IntKind (i64 u64 u8 u32)
end Go.Proofs.YtmekcfdllhphlaaDoor
namespace Go.Proofs.YtmekcfdllhphlaaDoor
open Go Go.R
open Go.IntKind (i64 u64 u8 u32)
end Go.Proofs.YtmekcfdllhphlaaDoor
namespace Go.Proofs.YtmekcfdllhphlaaDoor
open Go Go.R
open Go.IntKind (i64 u64 u8 u32)
end Go.Proofs.YtmekcfdllhphlaaDoor
namespace Go.Proofs.YtmekcfdllhphlaaDoor
open Go Go.R
open Go.IntKind (i64 u64 u8 u32)
end Go.Proofs.YtmekcfdllhphlaaDoor
namespace Go.Proofs.YtmekcfdllhphlaaDoor
open Go Go.R
open Go.IntKind (i64 u64 u8 u32)
theorem xN {m:Nat}(c:Int):eX.f m c=some (gJ c):=by
 unfold eX.f
 by_cases h1:97≤c<;>by_cases h2:c≤122<;>by_cases h3:65≤c<;>by_cases h4:c≤90<;>by_cases h5:48≤c<;>by_cases h6:c≤57<;>simp [gJ,h1,h2,h3,h4,h5,h6]<;>omega
theorem zq {m:Nat}{s:ByteArray}(hs:s.size≤16):∀(f i:Nat),s.size - i<f→i≤s.size→
  ∃o,cn.l0 m s f (i:Int)=some o∧((∃x,o = .inr x)∧((s.data.toList.drop i).all fun c=>gJ (c.toNat:Int))=true∨o = .inl false∧((s.data.toList.drop i).all fun c=>gJ (c.toNat:Int))=false)
 | 0,i,hf,_=>absurd hf (by omega)
 | f+1,i,hf,hi=>by
  unfold cn.l0
  by_cases h:i<s.size
  ·obtain⟨c,hc,hb⟩:=so h
   obtain⟨h4,h5⟩:=XA.1 hc
   have hd:s.data.toList.drop i=c::s.data.toList.drop (i+1):=by rw [←h5]; exact XG h4
   rw [if_pos (by simp only [decide_eq_true_eq]; omega),hb,Xr,xN,Xr,hd,Ym]
   cases hl:gJ (c.toNat:Int) with
   | false=>exact⟨_,rfl,.inr ⟨rfl,rfl⟩⟩
   | true=>
    obtain⟨o,h1,h2⟩:=zq (m:=m) hs f (i+1) (by omega) (by omega)
    rw [if_neg (by simp),aD (by omega) (by omega),show (i:Int)+1=((i+1:Nat):Int) by omega,h1]
    exact⟨o,rfl,by simpa using h2⟩
  ·refine⟨_,by rw [if_neg (by simp only [decide_eq_true_eq]; omega)],.inl ⟨⟨_,rfl⟩,?_⟩⟩
   rw [X3 (by simp; omega)]; rfl
def G1 (s:ByteArray):Bool:=decide (1≤s.data.toList.length)&&decide (s.data.toList.length≤16)&&s.data.toList.all fun c=>gJ (c.toNat:Int)
theorem Bf {m:Nat}(hm:20≤m)(s:ByteArray):cn.f m s=some (G1 s):=by
 have hsz:s.size=s.data.toList.length:=by simp
 unfold cn.f G1
 by_cases h1:1≤s.data.toList.length
 ·by_cases h2:s.data.toList.length≤16
  ·obtain⟨o,k1,k2⟩:=zq (m:=m) (s:=s) (by omega) m 0 (by omega) (by omega)
   have k1:cn.l0 m s m 0=_:=k1
   rw [X6] at k2
   rw [if_neg (by simp only [decide_eq_true_eq]; omega),if_neg (by simp only [decide_eq_true_eq]; omega),k1,Xr,decide_eq_true h1,decide_eq_true h2]
   simp only [YH]
   rcases k2 with⟨⟨x,rfl⟩,k⟩| ⟨rfl,k⟩
   ·rw [k]
   ·rw [k]
  ·rw [if_neg (by simp only [decide_eq_true_eq]; omega),if_pos (by simp only [decide_eq_true_eq]; omega),decide_eq_false h2,Bool.and_false]; rfl
 ·rw [if_pos (by simp only [decide_eq_true_eq]; omega),decide_eq_false h1]; rfl
theorem rp {m:Nat}(hm:20≤m)(s:ByteArray):dV.f m s=some (lC s):=by
 have hsz:s.size=s.data.toList.length:=by simp
 unfold dV.f lC
 show (if (s.data.toList==[124])=true then _ else if (s.data.toList==[35])=true then _ else _)=_
 cases h1:s.data.toList==[124] with
 | true=>rfl
 | false=>
  cases h2:s.data.toList==[35] with
  | true=>rfl
  | false=>
   simp only [XJ,if_false,Bool.false_or]
   rw [Bf hm,Xr]
   unfold G1 yT
   cases hl:s.data.toList with
   | nil=>rfl
   | cons c cs=>
    obtain⟨c',g1,g2⟩:=so (s:=s) (i:=0) (by rw [hsz,hl]; simp)
    rw [hl] at g1
    simp only [X7,Xu] at g1
    subst g1
    have g2:bt s 0=_:=g2
    rw [g2]
    simp only [Xr,XR]
    cases ha:(c::cs).all fun c=>gJ (c.toNat:Int) with
    | false=>simp
    | true=>
     by_cases h3:cs.length≤15
     ·rw [decide_eq_true (show 1≤cs.length+1 by omega),decide_eq_true (show cs.length+1≤16 by omega),decide_eq_true h3]
      simp only [Bool.and_self,if_true,Bool.and_true,YH]
      by_cases h4:(97:Int)≤(c.toNat:Int)
      ·rw [if_pos (by simpa using h4),decide_eq_true h4]; rfl
      ·rw [if_neg (by simpa using h4),decide_eq_false h4]; rfl
     ·rw [decide_eq_false (show ¬cs.length+1≤16 by omega),decide_eq_false h3]; simp
theorem zr {m:Nat}{n:ab}{size:Int}(h8:n.args.length≤8):∀(f i:Nat),n.args.length - i<f→i≤n.args.length→
  ∃o,bW.l0 m n size f (i:Int)=some o∧((∃x,o = .inr x)∧((n.args.drop i).all fun a=>decide (0≤a)&&decide (a<size))=true∨o = .inl false∧((n.args.drop i).all fun a=>decide (0≤a)&&decide (a<size))=false)
 | 0,i,hf,_=>absurd hf (by omega)
 | f+1,i,hf,hi=>by
  unfold bW.l0
  by_cases h:i<n.args.length
  ·have hd:n.args.drop i=gt n.args i::n.args.drop (i+1):=by
    obtain⟨h4,h5⟩:=XA.1 (bh h)
    rw [←h5]; exact XG h4
   rw [if_pos (by simp only [decide_eq_true_eq]; omega),cj h,Xr,hd,Ym,Xr]
   by_cases h1:gt n.args i<0
   ·rw [if_pos (by simpa using h1),decide_eq_false (show ¬0≤gt n.args i by omega)]
    exact⟨_,rfl,.inr ⟨rfl,rfl⟩⟩
   ·rw [if_neg (by simpa using h1),decide_eq_true (show 0≤gt n.args i by omega)]
    by_cases h2:gt n.args i<size
    ·obtain⟨o,k1,k2⟩:=zr (m:=m) (size:=size) h8 f (i+1) (by omega) (by omega)
     rw [if_neg (by simp only [decide_eq_true_eq]; omega),decide_eq_true h2,aD (by omega) (by omega),show (i:Int)+1=((i+1:Nat):Int) by omega,k1]
     exact⟨o,rfl,by simpa using k2⟩
    ·rw [if_pos (by simp only [decide_eq_true_eq]; omega),decide_eq_false h2]
     exact⟨_,rfl,.inr ⟨rfl,rfl⟩⟩
  ·refine⟨_,by rw [if_neg (by simp only [decide_eq_true_eq]; omega)],.inl ⟨⟨_,rfl⟩,?_⟩⟩
   rw [X3 (by omega)]; rfl
theorem Bg {m:Nat}(hm:20≤m)(n:ab)(size:Int):bW.f m n size=some (j8 n size):=by
 unfold bW.f j8
 by_cases k0:n.kind=0
 ·rw [if_pos (by simpa using k0),if_pos k0]
  by_cases h1:0≤n.int
  ·rw [if_pos (by simpa using h1),show decide (0≤n.int)=true by simpa using h1]
   show (if (n.label.data.toList==[])=true then _ else _)=_
   cases n.label.data.toList==[] with
   | true=>rw [if_pos rfl,yV]; rfl
   | false=>rfl
  ·rw [if_neg (by simpa using h1),show decide (0≤n.int)=false by simp; omega]; rfl
 rw [if_neg (by simpa using k0),if_neg k0]
 by_cases k1:n.kind=1
 ·rw [if_pos (by simpa using k1),if_pos k1]
  by_cases h1 : -1099511627776≤n.int
  ·rw [if_pos (by simpa using h1),show decide (-1099511627776≤n.int)=true by simpa using h1]
   by_cases h3:n.int≤1099511627776
   ·rw [if_pos (by simpa using h3),show decide (n.int≤1099511627776)=true by simpa using h3]
    show (if (n.label.data.toList==[])=true then _ else _)=_
    cases n.label.data.toList==[] with
    | true=>rw [if_pos rfl,yV]; rfl
    | false=>rfl
   ·rw [if_neg (by simpa using h3),show decide (n.int≤1099511627776)=false by simp; omega]; rfl
  ·rw [if_neg (by simpa using h1),show decide (-1099511627776≤n.int)=false by simp; omega]; rfl
 rw [if_neg (by simpa using k1),if_neg k1]
 by_cases k2:n.kind=2
 ·rw [if_pos (by simpa using k2),if_pos k2,rp hm,Xr]
  cases lC n.label with
  | false=>simp
  | true=>
   rw [if_pos rfl]
   cases h1:n.int==0 with
   | false=>rfl
   | true=>rw [if_pos rfl,yV]; rfl
 rw [if_neg (by simpa using k2),if_neg k2]
 by_cases k4:n.kind=4
 ·rw [if_pos (by simpa using k4),if_neg (show ¬n.kind=3 by omega),if_pos k4]
  unfold yU
  show (if (n.label.data.toList==[112,114,111,99])=true then _ else if (n.label.data.toList==[99,101,108,108])=true then _ else if (n.label.data.toList==[112,111,114,116])=true then _ else _)=_
  by_cases h1:0≤n.int
  ·have d1:decide (n.int≥0)=true:=decide_eq_true h1
   rw [d1]
   cases n.label.data.toList==[112,114,111,99]<;>cases n.label.data.toList==[99,101,108,108]<;>cases n.label.data.toList==[112,111,114,116]<;>first | rfl | (show some ((n.args.length:Int)==(0:Int))=_; rw [yV]; rfl)
  ·have d1:decide (n.int≥0)=false:=decide_eq_false h1
   rw [d1]
   cases n.label.data.toList==[112,114,111,99]<;>cases n.label.data.toList==[99,101,108,108]<;>cases n.label.data.toList==[112,111,114,116]<;>rfl
 rw [if_neg (by simpa using k4)]
 by_cases k3:n.kind=3
 ·rw [if_pos (by simpa using k3),if_pos k3,rp hm,Xr]
  cases lC n.label with
  | false=>simp
  | true=>
   cases h1:n.int==0 with
   | false=>rfl
   | true=>
    simp only [Bool.not_true,XJ,if_false,Bool.and_self,YH]
    by_cases g1:1≤n.args.length
    ·rw [if_neg (by simp only [decide_eq_true_eq]; omega),decide_eq_true g1]
     by_cases g2:n.args.length≤8
     ·obtain⟨o,k1,k2⟩:=zr (m:=m) (size:=size) g2 m 0 (by omega) (by omega)
      have k1:bW.l0 m n size m 0=_:=k1
      rw [X6] at k2
      rw [if_neg (by simp only [decide_eq_true_eq]; omega),decide_eq_true g2,k1,Xr]
      simp only [YH]
      rcases k2 with⟨⟨x,rfl⟩,k⟩| ⟨rfl,k⟩
      ·rw [k]
      ·rw [k]
     ·rw [if_pos (by simp only [decide_eq_true_eq]; omega),decide_eq_false g2]; simp
    ·rw [if_pos (by simp only [decide_eq_true_eq]; omega),decide_eq_false g1]; simp
 rw [if_neg (by simpa using k3),if_neg k3,if_neg k4]
theorem vU {m:Nat}(hm:20≤m){t:ak}(hl:t.nodes.length≤8000):∀(f i:Nat),t.nodes.length - i<f→i≤t.nodes.length→
  ∃o,bX.l0 m t f (i:Int)=some o∧((∃x,o = .inr x)∧((t.nodes.drop i).all fun n=>j8 n t.nodes.length)=true∨o = .inl false∧((t.nodes.drop i).all fun n=>j8 n t.nodes.length)=false)
 | 0,i,hf,_=>absurd hf (by omega)
 | f+1,i,hf,hi=>by
  unfold bX.l0
  by_cases h:i<t.nodes.length
  ·have hx:ix t.nodes (i:Int)=some t.nodes[i]:=by unfold ix; rw [if_pos (by omega)]; simp [h]
   rw [if_pos (by simp only [decide_eq_true_eq]; omega),hx,Xr,Bg hm,Xr,XG h,Ym]
   cases hb:j8 t.nodes[i] t.nodes.length with
   | false=>exact⟨_,rfl,.inr ⟨rfl,rfl⟩⟩
   | true=>
    obtain⟨o,k1,k2⟩:=vU (m:=m) hm hl f (i+1) (by omega) (by omega)
    rw [if_neg (by simp),aD (by omega) (by omega),show (i:Int)+1=((i+1:Nat):Int) by omega,k1]
    exact⟨o,rfl,by simpa using k2⟩
  ·refine⟨_,by rw [if_neg (by simp only [decide_eq_true_eq]; omega)],.inl ⟨⟨_,rfl⟩,?_⟩⟩
   rw [X3 (by omega)]; rfl
theorem zt {m:Nat}(hm:2 ^ 30≤m)(t:ak):bX.f m t=some (ej t):=by
 have ni:(2:Nat) ^ 30=1073741824:=by decide
 unfold bX.f ej
 by_cases h1:1≤t.nodes.length
 ·rw [if_neg (by simp only [decide_eq_true_eq]; omega),decide_eq_true h1]
  by_cases h2:t.nodes.length≤8000
  ·rw [if_neg (by simp only [decide_eq_true_eq]; omega),decide_eq_true h2]
   by_cases h3:0≤t.root
   ·rw [if_neg (by simp only [decide_eq_true_eq]; omega),decide_eq_true h3]
    by_cases h4:t.root<t.nodes.length
    ·rw [if_neg (by simp only [decide_eq_true_eq]; omega),decide_eq_true h4]
     obtain⟨o,k1,k2⟩:=vU (m:=m) (t:=t) (by omega) h2 m 0 (by omega) (by omega)
     have k1:bX.l0 m t m 0=_:=k1
     rw [X6] at k2
     rw [k1,Xr]
     simp only [YH]
     rcases k2 with⟨⟨x,rfl⟩,k⟩| ⟨rfl,k⟩
     ·rw [k]
     ·rw [k]
    ·rw [if_pos (by simp only [decide_eq_true_eq]; omega),decide_eq_false h4]; rfl
   ·rw [if_pos (by simp only [decide_eq_true_eq]; omega),decide_eq_false h3]; rfl
  ·rw [if_pos (by simp only [decide_eq_true_eq]; omega),decide_eq_false h2]; rfl
 ·rw [if_pos (by simp only [decide_eq_true_eq]; omega),decide_eq_false h1]; rfl
end Go.Proofs.YtmekcfdllhphlaaDoor
namespace Go.Proofs.YtmekcfdllhphlaaDoor
open Go Go.R
open Go.IntKind (i64 u64 u8 u32)
theorem rn.refl {l:List ab}{c:List Int}(i:Nat):rn l c i i:=⟨Alike.refl _,fun _ _=>rfl⟩
theorem rn.symm {l:List ab}{c:List Int}{i j:Nat}(h:rn l c i j):rn l c j i:=⟨h.1.symm,fun k hk=>(h.2 k (by have:=h.1.len; unfold na at *; omega)).symm⟩
theorem rn.trans {l:List ab}{c:List Int}{i j q:Nat}(h:rn l c i j)(g:rn l c j q):rn l c i q:=
 ⟨h.1.trans g.1,fun k hk=>(h.2 k hk).trans (g.2 k (by have:=h.1.len; unfold na at *; omega))⟩
theorem DX.symm {l:List ab}{R:Nat→Nat→Prop}(B:DX l R):DX l fun i j=>R j i:=
 ⟨fun i j h=>(B.nj j i h).symm,fun i j h=>(B.top j i h).symm,fun i j h k hk=>B.arg j i h k (by have:=(B.top j i h).len; omega)⟩
structure HE (l:List ab)(cls:List Int)(dn:List Bool)(fs od:List Int):Prop where
 lc:cls.length=l.length
 ld:dn.length=l.length
 RN:od.Nodup
 LH:∀x∈od,0≤x∧x<l.length
 HF:∀i,i<l.length→(gb dn i=true↔(i:Int)∈od)
 uW:∀i:Nat,(i:Int)∈od→∀k,k<na l i→((ar l i k:Nat):Int)∈od∧od.idxOf ((ar l i k:Nat):Int)<od.idxOf (i:Int)
 Ph:fs.Nodup
 fst:∀f∈fs,f∈od∧gt cls f.toNat=f
 pF:∀i:Nat,(i:Int)∈od→gt cls i∈fs∧rn l cls i (gt cls i).toNat
 apart:∀f∈fs,∀g∈fs,rn l cls f.toNat g.toNat→f=g
 coarse:∀R,DX l R→∀i j:Nat,R i j→(i:Int)∈od→(j:Int)∈od→gt cls i=gt cls j
theorem CG {od:List Int}{n:Nat}(h:od.Nodup)(hr:∀x∈od,0≤x∧x<n):od.length≤n:=by
 have:=h.length_le_of_subset (l₂:=ints n) (fun x hx=>iE.2 (hr x hx))
 rwa [dG] at this
theorem HE.RP {l cls dn fs od}(P:HE l cls dn fs od):∀f∈fs,0≤f∧f<l.length:=fun f hf=>P.LH f (P.fst f hf).1
theorem G2 {l:List ab}{cls:List Int}{dn:List Bool}{fs od:List Int}(ok:kM l)(P:HE l cls dn fs od){i:Nat}(hi:i<l.length)(hn:(i:Int)∉od)(hr:T3 l dn i){v:Int}
  (hv:v=i∧(∀f∈fs,¬rn l cls i f.toNat)∨v∈fs∧rn l cls i v.toNat) :
  HE l (cls.set i v) (dn.set i true) (if v=i then fs++[(i:Int)] else fs) (od++[(i:Int)]):=by
 have Ue:(i:Int)∉fs:=fun h=>hn (P.fst _ h).1
 have Mm:v∈fs→v≠i:=fun h e=>Ue (e ▸ h)
 have gc:∀x,x≠i→gt (cls.set i v) x=gt cls x:=fun x hx=>by rw [eh (by rw [P.lc]; exact hi),if_neg hx]
 have gi:gt (cls.set i v) i=v:=by rw [eh (by rw [P.lc]; exact hi),if_pos rfl]
 have ne:∀{x:Nat},(x:Int)∈od→x≠i:=fun h e=>hn (by rw [←e]; exact h)
 have ad:∀x:Nat,((x:Int)∈od∨x=i)→∀k,k<na l x→((ar l x k:Nat):Int)∈od:=fun x hx k hk=>by
  rcases hx with hx | rfl
  ·exact (P.uW x hx k hk).1
  ·exact (P.HF _ (j9 ok hi hk).1).1 (hr k hk)
 have sm:∀x y:Nat,((x:Int)∈od∨x=i)→((y:Int)∈od∨y=i)→(rn l (cls.set i v) x y↔rn l cls x y):=fun x y hx hy=>by
  constructor
  ·rintro⟨a,b⟩
   refine⟨a,fun k hk=>?_⟩
   have:=b k hk
   rwa [gc _ (ne (ad x hx k hk)),gc _ (ne (ad y hy k (by have:=a.len; unfold na at *; omega)))] at this
  ·rintro⟨a,b⟩
   refine⟨a,fun k hk=>?_⟩
   rw [gc _ (ne (ad x hx k hk)),gc _ (ne (ad y hy k (by have:=a.len; unfold na at *; omega)))]
   exact b k hk
 have fo:∀f∈fs,((f.toNat:Nat):Int)∈od∧((f.toNat:Nat):Int)=f:=fun f hf=>by
  have h:=P.fst f hf
  have r:=P.LH f h.1
  have e:((f.toNat:Nat):Int)=f:=by omega
  exact⟨by rw [e]; exact h.1,e⟩
 have split:∀{x:Int},x∈od++[(i:Int)]→x∈od∨x=i:=fun h=>by
  rcases XH.1 h with h | h
  ·exact .inl h
  ·exact .inr (XE.1 h)
 have one:∀R,DX l R→∀j:Nat,R i j→(j:Int)∈od→v=gt cls j:=fun R B j hR hj=>by
  obtain⟨g1,g2⟩:=P.pF j hj
  have s1:rn l cls i j:=⟨B.top i j hR,fun k hk=>P.coarse R B _ _ (B.arg i j hR k hk) (ad i (.inr rfl) k hk) (ad j (.inl hj) k (by have:=(B.top i j hR).len; unfold na at *; omega))⟩
  rcases hv with⟨rfl,h⟩| ⟨h1,h2⟩
  ·exact absurd (s1.trans g2) (h _ g1)
  ·exact P.apart v h1 _ g1 (h2.symm.trans (s1.trans g2))
 refine⟨by simpa using P.lc,by simpa using P.ld,?_,?_,fun x hx=>?_,fun x hx k hk=>?_,?_,fun f hf=>?_,fun x hx=>?_,fun f hf g hg hs=>?_,fun R B x y hR hx hy=>?_⟩
 ·rw [YF]
  refine⟨P.RN,by simp,fun a ha b hb=>?_⟩
  rw [XE] at hb
  subst hb; intro e; subst e; exact hn ha
 ·intro x hx
  rcases split hx with h | h
  ·exact P.LH x h
  ·omega
 ·rw [A8 (by rw [P.ld]; exact hi),XH,XE]
  by_cases e:x=i
  ·subst e; simp
  ·rw [if_neg e,P.HF x hx]
   constructor
   ·exact fun h=>.inl h
   ·rintro (h | h)
    ·exact h
    ·omega
 ·rcases split hx with h | h
  ·obtain⟨r1,r2⟩:=P.uW x h k hk
   refine⟨Yb _ r1,?_⟩
   rw [YE,if_pos r1,YE,if_pos h]; exact r2
  ·have e:x=i:=by omega
   subst e
   have r1:=ad x (.inr rfl) k hk
   refine⟨Yb _ r1,?_⟩
   rw [YE,if_pos r1,YE,if_neg hn]
   have:=Ys r1
   omega
 ·split
  ·rw [YF]
   refine⟨P.Ph,by simp,fun a ha b hb=>?_⟩
   rw [XE] at hb
   subst hb; intro e; subst e; exact Ue ha
  ·exact P.Ph
 ·have MP:f∈fs∨(f=i∧v=i):=by
   split at hf
   ·rcases XH.1 hf with h | h
    ·exact .inl h
    ·exact .inr ⟨XE.1 h,by assumption⟩
   ·exact .inl hf
  rcases MP with h | ⟨rfl,h2⟩
  ·obtain⟨a,b⟩:=P.fst f h
   refine⟨Yb _ a,?_⟩
   rw [gc _ (by have:=(fo f h).1; exact ne this)]; exact b
  ·refine⟨by simp,?_⟩
   rw [Xy,gi]; exact h2
 ·have Uf:∀z∈fs,z∈(if v=(i:Int) then fs++[(i:Int)] else fs):=fun z hz=>by
   split
   ·exact Yb _ hz
   ·exact hz
  rcases split hx with h | h
  ·obtain⟨a,b⟩:=P.pF x h
   rw [gc x (ne h)]
   exact⟨Uf _ a,(sm x _ (.inl h) (.inl (fo _ a).1)).2 b⟩
  ·have e:x=i:=by omega
   subst e
   rw [gi]
   rcases hv with⟨rfl,_⟩| ⟨h1,h2⟩
   ·rw [if_pos rfl,Xy]
    exact⟨by simp,rn.refl _⟩
   ·exact⟨Uf _ h1,(sm x _ (.inr rfl) (.inl (fo _ h1).1)).2 h2⟩
 ·have cs:∀z,z∈(if v=(i:Int) then fs++[(i:Int)] else fs)→z∈fs∨(z=i∧v=i):=fun z hz=>by
   split at hz
   ·rcases XH.1 hz with h | h
    ·exact .inl h
    ·exact .inr ⟨XE.1 h,by assumption⟩
   ·exact .inl hz
  have Ug:v=i→∀f∈fs,¬rn l cls i f.toNat:=fun e f hf=>by
   rcases hv with⟨_,h⟩| ⟨h,_⟩
   ·exact h f hf
   ·exact absurd e (Mm h)
  rcases cs f hf with h1 | ⟨rfl,e1⟩
  ·rcases cs g hg with h2 | ⟨rfl,e2⟩
   ·exact P.apart f h1 g h2 ((sm _ _ (.inl (fo f h1).1) (.inl (fo g h2).1)).1 hs)
   ·rw [Xy] at hs
    have:=(sm _ _ (.inl (fo f h1).1) (.inr rfl)).1 hs
    exact absurd this.symm (Ug e2 f h1)
  ·rcases cs g hg with h2 | ⟨rfl,e2⟩
   ·rw [Xy] at hs
    have:=(sm _ _ (.inr rfl) (.inl (fo g h2).1)).1 hs
    exact absurd this (Ug e1 g h2)
   ·rfl
 ·rcases split hx with h1 | h1
  ·rcases split hy with h2 | h2
   ·rw [gc x (ne h1),gc y (ne h2)]; exact P.coarse R B x y hR h1 h2
   ·have e:y=i:=by omega
    subst e
    rw [gc x (ne h1),gi]
    exact (one _ B.symm x hR h1).symm
  ·have e:x=i:=by omega
   subst e
   rcases split hy with h2 | h2
   ·rw [gc y (ne h2),gi]; exact one R B y hR h2
   ·have e:y=x:=by omega
    subst e; rfl
theorem xO {m:Nat}(hm:2 ^ 30≤m){l:List ab}(ok:kM l):∀(f i:Nat) (cls:List Int) (dn:List Bool) (fs od:List Int) (more:Bool),i<f→i≤l.length→HE l cls dn fs od→
  ∃jo zu zw ij x uy,ah.l1 m l f cls dn fs more ((i:Int) - 1)=some (jo,zu,zw,ij,x)∧HE l jo zu zw uy∧od.length≤uy.length∧
   (ij=true→more=true∨od.length<uy.length)∧(ij=false→more=false∧uy=od∧∀j,j<i→(j:Int)∉od→∃k,k<na l j∧((ar l j k:Nat):Int)∉od)
 | 0,i,_,_,_,_,_,hf,_,_=>absurd hf (by omega)
 | f+1,0,cls,dn,fs,od,more,hf,hi,P=>by
  unfold ah.l1
  rw [if_neg (by simp)]
  exact⟨cls,dn,fs,more,_,od,rfl,P,Xv _,fun h=>.inl h,fun h=>⟨h,rfl,fun j hj=>absurd hj (by omega)⟩⟩
 | f+1,i+1,cls,dn,fs,od,more,hf,hi,P=>by
  have ni:(2:Nat) ^ 30=1073741824:=by decide
  have h8:=ok.1
  have Au:i<l.length:=by omega
  unfold ah.l1
  have ei:((i+1:Nat):Int) - 1=(i:Int):=by omega
  have ew:i64.wrap ((i:Int) - 1)=(i:Int) - 1:=aD (by omega) (by omega)
  have hgb:ix dn (i:Int)=some (gb dn i):=by
   have:=CA (l:=dn) (i:=(i:Int)) (by omega) (by rw [Xy,P.ld]; exact Au)
   rwa [Xy] at this
  rw [ei,ew,if_pos (by simp),hgb,Xr]
  cases hd:gb dn i with
  | true=>
   rw [if_pos rfl]
   obtain⟨jo,zu,zw,ij,x,uy,k1,k2,k3,k4,k5⟩:=xO hm ok f i cls dn fs od more (by omega) (by omega) P
   refine⟨jo,zu,zw,ij,x,uy,k1,k2,k3,k4,fun h=>?_⟩
   obtain⟨q1,q2,q3⟩:=k5 h
   refine⟨q1,q2,fun j hj hn=>?_⟩
   by_cases e:j=i
   ·subst e; exact absurd ((P.HF j Au).1 hd) hn
   ·exact q3 j (by omega) hn
  | false=>
   have AQ:(i:Int)∉od:=fun h=>by rw [(P.HF i Au).2 h] at hd; cases hd
   obtain⟨xr,r1,r2,r3⟩:=GU hm ok P.ld Au
   rw [if_neg (by simp),gW (by omega) (by omega),Xr,r1,Xr]
   cases xr with
   | false=>
    rw [if_pos (by simp)]
    obtain⟨jo,zu,zw,ij,x,uy,k1,k2,k3,k4,k5⟩:=xO hm ok f i cls dn fs od more (by omega) (by omega) P
    refine⟨jo,zu,zw,ij,x,uy,k1,k2,k3,k4,fun h=>?_⟩
    obtain⟨q1,q2,q3⟩:=k5 h
    refine⟨q1,q2,fun j hj hn=>?_⟩
    by_cases e:j=i
    ·subst e
     obtain⟨k,g1,g2⟩:=r3 rfl
     exact⟨k,g1,fun h=>by rw [(P.HF _ (j9 ok Au g1).1).2 h] at g2; cases g2⟩
    ·exact q3 j (by omega) hn
   | true=>
    have Kq:fs.length≤8000:=X9 (CG P.Ph P.RP) h8
    obtain⟨v,f1,f2⟩:=find_spec hm ok P.lc Au P.RP Kq
    have P':=G2 ok P Au AQ (r2 rfl) f2
    have hlen:(od++[(i:Int)]).length=od.length+1:=by simp
    have e2:ix cls (i:Int)=some (gt cls i):=cj (by rw [P.lc]; exact Au)
    have e3:ix (cls.set i v) (i:Int)=some v:=by
     rw [cj (by simpa using (by rw [P.lc]; exact Au)),eh (by rw [P.lc]; exact Au),if_pos rfl]
    have rest:∀Pj,HE l (cls.set i v) (dn.set i true) Pj (od++[(i:Int)])→∃jo zu zw ij x uy,ah.l1 m l f (cls.set i v) (dn.set i true) Pj true ((i:Int) - 1)=some (jo,zu,zw,ij,x)∧HE l jo zu zw uy∧od.length≤uy.length∧
      (ij=true→more=true∨od.length<uy.length)∧(ij=false→more=false∧uy=od∧∀j,j<i+1→(j:Int)∉od→∃k,k<na l j∧((ar l j k:Nat):Int)∉od):=fun Pj P2=>by
     obtain⟨jo,zu,zw,ij,x,uy,k1,k2,k3,k4,k5⟩:=xO hm ok f i _ _ Pj _ true (by omega) (by omega) P2
     exact⟨jo,zu,zw,ij,x,uy,k1,k2,by omega,fun _=>.inr (by omega),fun h=>absurd (k5 h).1 (by simp)⟩
    rw [if_neg (by simp),f1,Xr,e2,Xr,Xy,e3,Xr]
    by_cases Mm:v=i
    ·have ly:app 8 fs [(i:Int)]=some (fs++[(i:Int)]):=by unfold app; rw [if_pos (by simp; omega)]
     rw [if_pos (by simpa using Mm),ly,Xr,Xr]
     rw [if_pos Mm] at P'
     exact rest _ P'
    ·rw [if_neg (by simpa using Mm),Xr]
     rw [if_neg Mm] at P'
     exact rest _ P'
theorem G3 {m:Nat}(hm:2 ^ 30≤m){l:List ab}(ok:kM l):∀(f:Nat) (cls:List Int) (dn:List Bool) (fs od:List Int),l.length - od.length+1<f→HE l cls dn fs od→
  ∃jo zu zw uy,ah.l0 m l f cls dn fs true=some (jo,zu,zw,false)∧HE l jo zu zw uy∧∀j,j<l.length→(j:Int)∉uy→∃k,k<na l j∧((ar l j k:Nat):Int)∉uy
 | 0,_,_,_,_,hf,_=>absurd hf (by omega)
 | f+1,cls,dn,fs,od,hf,P=>by
  have ni:(2:Nat) ^ 30=1073741824:=by decide
  have h8:=ok.1
  unfold ah.l0
  obtain⟨jo,zu,zw,ij,x,uy,k1,k2,k3,k4,k5⟩:=xO hm ok m l.length cls dn fs od false (by omega) (Xv _) P
  have ew:i64.wrap ((l.length:Int) - 1)=(l.length:Int) - 1:=aD (by omega) (by omega)
  rw [if_pos rfl,ew,k1,Xr]
  dsimp only
  have xu:=CG k2.RN k2.LH
  cases ij with
  | true=>
   rcases k4 rfl with h | h
   ·cases h
   ·exact G3 hm ok f jo zu zw uy (by omega) k2
  | false=>
   obtain⟨_,rfl,q⟩:=k5 rfl
   obtain⟨g,rfl⟩:∃g,f=g+1:=⟨f - 1,by omega⟩
   refine⟨jo,zu,zw,uy,?_,k2,q⟩
   unfold ah.l0
   rw [if_neg (by simp)]
end Go.Proofs.YtmekcfdllhphlaaDoor
namespace Go.Proofs.YtmekcfdllhphlaaDoor
open Go Go.R
open Go.IntKind (i64 u64 u8 u32)
def bF (dn:List Bool):Nat→List Int
 | 0=>[]
 | p+1=>if gb dn p=true then bF dn p else bF dn p++[(p:Int)]
theorem iJ {dn:List Bool}:∀{p:Nat} {x:Int},x∈bF dn p↔∃j:Nat,j<p∧gb dn j=false∧x=j
 | 0,x=>⟨fun h=>by simp [bF] at h,fun ⟨j,h,_⟩=>absurd h (by omega)⟩
 | p+1,x=>by
  unfold bF
  have ih:=iJ (dn:=dn) (p:=p) (x:=x)
  split
  ·rename_i h
   rw [ih]
   constructor
   ·rintro⟨j,a,b,c⟩; exact⟨j,by omega,b,c⟩
   ·rintro⟨j,a,b,c⟩
    refine⟨j,?_,b,c⟩
    by_cases e:j=p
    ·subst e; rw [b] at h; cases h
    ·omega
  ·rename_i h
   rw [XH,ih,XE]
   constructor
   ·rintro (⟨j,a,b,c⟩| c)
    ·exact⟨j,by omega,b,c⟩
    ·exact⟨p,by omega,by simpa using h,c⟩
   ·rintro⟨j,a,b,c⟩
    by_cases e:j=p
    ·subst e; exact .inr c
    ·exact .inl ⟨j,by omega,b,c⟩
theorem ia {dn:List Bool}:∀p,(bF dn p).length≤p
 | 0=>Xv _
 | p+1=>by
  have:=ia (dn:=dn) p
  unfold bF
  split
  ·omega
  ·simp; omega
theorem mw {dn:List Bool}:∀{p k q:Nat},k<q→q<(bF dn p).length→gt (bF dn p) k<gt (bF dn p) q
 | 0,k,q,_,h=>by simp [bF] at h
 | p+1,k,q,hk,h=>by
  unfold bF at h ⊢
  split at h
  ·rename_i g; rw [if_pos g]; exact mw hk h
  ·rename_i g
   rw [if_neg g]
   by_cases hq:q<(bF dn p).length
   ·rw [ig hq,ig (by omega)]; exact mw hk hq
   ·have e:q=(bF dn p).length:=by simp at h; omega
    have:gt (bF dn p++[(p:Int)]) q=p:=by
     subst e; unfold gt; rw [XM,XO (Xv _),Y0]; rfl
    rw [this,ig (by omega)]
    obtain⟨j,a,b,c⟩:=iJ.1 (aJ (l:=bF dn p) (k:=k) (by omega))
    omega
structure Ox (l:List ab)(dn:List Bool)(c0:List Int)(p:Nat)(cls:List Int):Prop where
 lc:cls.length=l.length
 old:∀j,gb dn j=true→gt cls j=gt c0 j
 pF:∀j:Nat,(j:Int)∈bF dn p→gt cls j∈bF dn p∧Alike (nd l j) (nd l (gt cls j))∧∀g∈bF dn p,Alike (nd l j) (nd l g)→gt cls j≤g
theorem G4 {m:Nat}{l:List ab}{dn:List Bool}(ok:kM l){cls:List Int}{i:Nat}(hi:i<l.length)(hc:cls.length=l.length)(hlt:∀g∈bF dn i,gt cls g.toNat≠i):∀(f k:Nat),(bF dn i).length - k+2≤f→k≤(bF dn i).length→(∀q,q<k→¬Alike (nd l i) (nd l (gt (bF dn i) q)))→
  ∃v x,ah.l3 m l (i:Int) (bF dn i++[(i:Int)]) f (cls.set i (i:Int)) (k:Int)=some (cls.set i v,x)∧(v=i∧(∀g∈bF dn i,¬Alike (nd l i) (nd l g))∨∃g∈bF dn i,Alike (nd l i) (nd l g)∧v=gt cls g.toNat)
 | 0,k,hf,_,_=>absurd hf (by omega)
 | f+1,k,hf,hk,sJ=>by
  have h8:=ok.1
  have N0:=ia (dn:=dn) i
  unfold ah.l3
  have Au:i<(cls.set i (i:Int)).length:=by simp [hc,hi]
  rw [cj Au,eh (by omega),if_pos rfl,Xr,if_pos (by simp)]
  have SS:(bF dn i++[(i:Int)]).length=(bF dn i).length+1:=by simp
  by_cases h:k<(bF dn i).length
  ·obtain⟨j,j1,j2,j3⟩:=iJ.1 (aJ (l:=bF dn i) (k:=k) h)
   have hx:ix (bF dn i++[(i:Int)]) (k:Int)=some (gt (bF dn i) k):=by rw [cj (by omega),ig h]
   obtain⟨xa,a1,a2⟩:=ug (m:=m) (nd l (i:Int)) (nd l (gt (bF dn i) k))
   rw [hx,Xr,if_pos (by simp only [decide_eq_true_eq]; omega),gW (by omega) (by omega),Xr,Xr,gW (by omega) (by omega),Xr,a1,Xr]
   cases xa with
   | false=>
    rw [if_neg (by simp),aD (by omega) (by omega),show (k:Int)+1=((k+1:Nat):Int) by omega]
    refine G4 ok hi hc hlt f (k+1) (by omega) (by omega) fun q hq=>?_
    by_cases e:q=k
    ·subst e; intro hA; have:=a2.2 hA; cases this
    ·exact sJ q (by omega)
   | true=>
    have hA:=a2.1 rfl
    have V0:(gt (bF dn i) k).toNat<cls.length:=by omega
    have Lj:ix (cls.set i (i:Int)) (gt (bF dn i) k)=some (gt cls (gt (bF dn i) k).toNat):=by
     rw [fU (k:=(gt (bF dn i) k).toNat) (by omega) (by simpa using V0),eh (by omega),if_neg (by omega)]
    rw [if_pos rfl,Xr,Lj,Xr,Xr,Xy,List.set_set]
    have e:=hlt _ (aJ h)
    obtain⟨g,rfl⟩:∃g,f=g+1:=⟨f - 1,by omega⟩
    refine⟨gt cls (gt (bF dn i) k).toNat,i64.wrap ((k:Int)+1),?_,.inr ⟨_,aJ h,hA,rfl⟩⟩
    unfold ah.l3
    rw [cj (by simpa [hc] using hi),eh (by omega),if_pos rfl,Xr,if_neg (by simpa using e)]
  ·have e:k=(bF dn i).length:=by omega
   have hx:ix (bF dn i++[(i:Int)]) (k:Int)=some (i:Int):=by
    rw [cj (by omega)]
    subst e; unfold gt; rw [XM,XO (Xv _),Y0]; rfl
   rw [hx,Xr,if_neg (by simp)]
   refine⟨(i:Int),_,rfl,.inl ⟨rfl,fun g hg=>?_⟩⟩
   obtain⟨q,hq,e2⟩:=eL hg
   rw [←e2]; exact sJ q (by omega)
theorem G5 {l:List ab}{dn:List Bool}{c0 cls:List Int}{i:Nat}(hi:i<l.length)(hd:gb dn i=false)(P:Ox l dn c0 i cls){v:Int}
  (hv:v=i∧(∀g∈bF dn i,¬Alike (nd l i) (nd l g))∨∃g∈bF dn i,Alike (nd l i) (nd l g)∧v=gt cls g.toNat):Ox l dn c0 (i+1) (cls.set i v):=by
 have hr:bF dn (i+1)=bF dn i++[(i:Int)]:=by show (if gb dn i=true then _ else _)=_; rw [if_neg (by rw [hd]; simp)]
 have gc:∀x,x≠i→gt (cls.set i v) x=gt cls x:=fun x hx=>by rw [eh (by rw [P.lc]; exact hi),if_neg hx]
 have gi:gt (cls.set i v) i=v:=by rw [eh (by rw [P.lc]; exact hi),if_pos rfl]
 have Pl:∀{x:Int},x∈bF dn i→0≤x∧x<i:=fun h=>by obtain⟨j,a,b,c⟩:=iJ.1 h; omega
 refine⟨by simpa using P.lc,fun j hj=>?_,fun j hj=>?_⟩
 ·rw [gc j (fun e=>by subst e; rw [hd] at hj; cases hj)]; exact P.old j hj
 ·rw [hr] at hj ⊢
  rcases XH.1 hj with hj | hj
  ·obtain⟨r1,r2,r3⟩:=P.pF j hj
   have hji:=Pl hj
   rw [gc j (by omega)]
   refine⟨Yb _ r1,r2,fun g hg hA=>?_⟩
   rcases XH.1 hg with hg | hg
   ·exact r3 g hg hA
   ·have:=Pl r1
    rw [XE] at hg; omega
  ·rw [XE] at hj
   have e:j=i:=by omega
   subst e
   rw [gi]
   rcases hv with⟨rfl,h⟩| ⟨g,g1,g2,rfl⟩
   ·refine⟨by simp,Alike.refl _,fun g hg hA=>?_⟩
    rcases XH.1 hg with hg | hg
    ·exact absurd hA (h g hg)
    ·rw [XE] at hg; omega
   ·have On:=Pl g1
    have eg:((g.toNat:Nat):Int)=g:=by omega
    obtain⟨r1,r2,r3⟩:=P.pF g.toNat (by rw [eg]; exact g1)
    rw [eg] at r2 r3
    refine⟨Yb _ r1,g2.trans r2,fun x hx hA=>?_⟩
    rcases XH.1 hx with hx | hx
    ·exact r3 x hx (g2.symm.trans hA)
    ·have:=Pl r1
     rw [XE] at hx; omega
theorem Bh {m:Nat}(hm:2 ^ 30≤m){l:List ab}(ok:kM l){dn:List Bool}(hd:dn.length=l.length){c0:List Int}:∀(f i:Nat) (cls:List Int),l.length - i<f→i≤l.length→Ox l dn c0 i cls→
  ∃jo x,ah.l2 m l dn f cls (bF dn i) (i:Int)=some (jo,bF dn l.length,x)∧Ox l dn c0 l.length jo
 | 0,i,cls,hf,_,_=>absurd hf (by omega)
 | f+1,i,cls,hf,hi,P=>by
  have ni:(2:Nat) ^ 30=1073741824:=by decide
  have h8:=ok.1
  unfold ah.l2
  by_cases h:i<l.length
  ·have hgb:ix dn (i:Int)=some (gb dn i):=by
    have:=CA (l:=dn) (i:=(i:Int)) (by omega) (by rw [Xy]; omega)
    rwa [Xy] at this
   have ew:i64.wrap ((i:Int)+1)=((i+1:Nat):Int):=by rw [aD (by omega) (by omega)]; omega
   rw [if_pos (by simp only [decide_eq_true_eq]; omega),hgb,Xr,ew]
   cases RQ:gb dn i with
   | true=>
    have hr:bF dn (i+1)=bF dn i:=by show (if gb dn i=true then _ else _)=_; rw [if_pos RQ]
    rw [if_pos rfl,←hr]
    exact Bh hm ok hd f (i+1) cls (by omega) (by omega) ⟨P.lc,P.old,fun j hj=>by rw [hr] at hj ⊢; exact P.pF j hj⟩
   | false=>
    have hr:bF dn (i+1)=bF dn i++[(i:Int)]:=by show (if gb dn i=true then _ else _)=_; rw [if_neg (by rw [RQ]; simp)]
    have N0:=ia (dn:=dn) i
    have ly:app 8 (bF dn i) [(i:Int)]=some (bF dn i++[(i:Int)]):=by unfold app; rw [if_pos (by simp; omega)]
    obtain⟨v,x,k1,k2⟩:=G4 (m:=m) ok h P.lc (fun g hg e=>by
     obtain⟨j,a,b,c⟩:=iJ.1 hg
     have:=(P.pF j (by rw [←c]; exact hg)).1
     obtain⟨j',a',b',c'⟩:=iJ.1 this
     rw [c,Xy] at e; omega) m 0 (by omega) (by omega) (fun q hq=>absurd hq (by omega))
    have k1:ah.l3 m l (i:Int) (bF dn i++[(i:Int)]) m (cls.set i (i:Int)) 0=_:=k1
    rw [if_neg (by simp),ly,Xr,cj (by rw [P.lc]; exact h),Xr,Xy,k1,Xr]
    dsimp only
    rw [←hr]
    exact Bh hm ok hd f (i+1) _ (by omega) (by omega) (G5 h RQ P k2)
  ·have e:i=l.length:=by omega
   subst e
   exact⟨cls,_,by rw [if_neg (by simp)],P⟩
end Go.Proofs.YtmekcfdllhphlaaDoor
