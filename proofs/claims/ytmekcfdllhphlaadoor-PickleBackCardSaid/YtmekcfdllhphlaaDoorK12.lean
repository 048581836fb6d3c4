/- Part of the proof: Q48, Q25, Q57, Q37, Q38, Q39, Q58, Q40, Q15, PU1, PU2, PB3, PB5, PB6. -/
import Derived.Test.YtmekcfdllhphlaaDoorK11
set_option linter.unusedVariables false
set_option linter.unusedSimpArgs false
set_option maxRecDepth 100000
open Bool renaming false_eq_true → W4, true_and → X2
open ByteArray renaming mk → Xf
open Eq renaming trans → XO
open Int renaming toNat_natCast → WT
open List renaming getElem?_eq_some_iff → WU, length_set → WW, mem_singleton → WY, drop_eq_getElem_cons → WZ, mem_append → W5, getD_eq_getElem?_getD → W7, length_cons → W9, getElem?_append_right → Xa, drop_eq_nil_of_le → Xk, drop_zero → Xl, getElem?_cons_zero → Xv, mem_append_left → Xw, all_cons → XK, idxOf_lt_length_of_mem → XP, idxOf_append → XZ, nodup_append → X0
open Nat renaming le_refl → WQ, le_trans → Xz, sub_self → Yj
open Option renaming bind_some → WL
open Option.some renaming injEq → WO
open Or renaming inr → XH, inl → X6
namespace Go.Proofs.YtmekcfdllhphlaaDoor
open Go Go.R
open Go.IntKind (i64 u64 u8 u32)
def zm:cg:=gk [0,1,2,4,5,7,8,24,45,61,87,109,114,131] [2] [16377,16345,16281,16375,16217,16375,16089,16375,15833,16375,15353,14329,16375,16361,12265,16361,8169,16375,16375,16375] [] []
def b7.l0 (m:Nat)(n0:ae)(az:Int):Nat→Int→Option (Sum Bool (Int))
 | 0,_=>none
 | k+1,i0=>if (decide (i0<(n0.args.length:Int)))=true then ((ix n0.args i0).bind fun v0=>if (decide (v0<(0:Int)))=true then (some (.inl false)) else ((ix n0.args i0).bind fun v1=>if (decide (v1≥az))=true then (some (.inl false)) else (b7.l0 m n0 az k (i64.wrap (i0+(1:Int)))))) else (some (.inr i0))
def b7.f (m:Nat)(n0:ae)(az:Int):Option (Bool):=if (n0.kind==(0:Int))=true then (if (decide (n0.int≥(0:Int)))=true then (if (n0.label.data.toList==(Xf #[]).data.toList)=true then (some ((n0.args.length:Int)==(0:Int))) else (some false)) else (some false)) else (if (n0.kind==(1:Int))=true then (if (decide (n0.int≥(-1099511627776:Int)))=true then (if (decide (n0.int≤(1099511627776:Int)))=true then (if (n0.label.data.toList==(Xf #[]).data.toList)=true then (some ((n0.args.length:Int)==(0:Int))) else (some false)) else (some false)) else (some false)) else (if (n0.kind==(2:Int))=true then ((dZ.f m n0.label).bind fun x0=>if x0=true then (if (n0.int==(0:Int))=true then (some ((n0.args.length:Int)==(0:Int))) else (some false)) else (some false)) else (if (n0.kind==(4:Int))=true then (if (n0.label.data.toList==(Xf #[112,114,111,99]).data.toList)=true then (if (decide (n0.int≥(0:Int)))=true then (some ((n0.args.length:Int)==(0:Int))) else (some false)) else (if (n0.label.data.toList==(Xf #[99,101,108,108]).data.toList)=true then (if (decide (n0.int≥(0:Int)))=true then (some ((n0.args.length:Int)==(0:Int))) else (some false)) else (if (n0.label.data.toList==(Xf #[112,111,114,116]).data.toList)=true then (if (decide (n0.int≥(0:Int)))=true then (some ((n0.args.length:Int)==(0:Int))) else (some false)) else (some false)))) else (if (n0.kind==(3:Int))=true then ((dZ.f m n0.label).bind fun x1=>if (!x1)=true then (some false) else (if (!(n0.int==(0:Int)))=true then (some false) else (if (decide ((n0.args.length:Int)<(1:Int)))=true then (some false) else (if (decide ((n0.args.length:Int) > (8:Int)))=true then (some false) else ((b7.l0 m n0 az m (0:Int)).bind fun bq=>match bq with | .inl r0=>some r0 | .inr i1=>some true))))) else (some false)))))
def b7.fin (L:Mem)(r:Bool)(s:St):Prop:=∃av,aI Tryd.prog (s.open zm) Tryd.f48.results.toList=some av∧fB s.h av (.bool r)
def QZ (cf:CallF)(m:Nat):Prop:=∀(n0:ae) (az:Int) (r:Bool),b7.f m n0 az=some r→∀h xs,ej eL h xs [.agg [.int .i64 n0.kind,.int .i64 n0.int,.str n0.label,aa.fz n0.args],.int .i64 az]→cf 48 xs h=some (.bool r,h)
section
variable {cf:CallF}{m:Nat}
theorem b7.bG (L:Mem)(n0:ae)(az:Int)   : bI Tryd.prog cf zm m (sub [1,0,1,0,1,1,1,1,1,1,1,1,1,0,1,0,1,0,0] (codeOf Tryd.f48)) (fun k (σ:Int)=>b7.l0 m n0 az k σ) (fun σ s=>match σ with | i0=>∃h0,s=⟨.any :: .int .i64 az :: .lp 2 0 :: .any :: .int .i64 i0::D0 [],[some [.int .i64 n0.kind,.int .i64 n0.int,.str n0.label,aa.fz n0.args]],h0⟩∧Has h0 (L)) (fun out e s=>(e = .exit 1∧∃i0,.inr i0=out∧∃rF Ay xi NP NC h0,s=⟨.any::rF::Ay :: .any::xi::Dk [NP,.any],[NC],h0⟩∧Has h0 (L))∨(e = .ret∧∃r,.inl r=out∧b7.fin L r s)):=by
 refine gS (fun _=>rfl) ?_
 rintro k i0 s out ⟨h0,rfl,o0⟩ H
 have H:b7.l0 m n0 az (k+1) i0=some out:=H
 refine qq <| qq <| q0 <| qc H (fun Vk H=>?_) (fun Vk H=>?_)
 ·refine qk <| qq <| qb 2 <| qq ?_
  obtain⟨v0,e2,H⟩:=aJ H
  rcases dw H with⟨Q0,H⟩| ⟨Q0,H⟩
  ·exact qr [.v 3 (bo (k:=.i64) (E:=aa) (l:=n0.args) dC e2),.v 4 (cY  (E:=aa) (l:=n0.args) h0 A3 e2 rfl),.b 6 Q0] <| pa <| qq <| q0 <| qt <| XH (⟨rfl,_,oi H,bZ (.bool false) h0 (bX (aj))⟩)
  ·obtain⟨v1,e3,H⟩:=aJ H
   refine qr [.v 3 (bo (k:=.i64) (E:=aa) (l:=n0.args) dC e2),.v 4 (cY  (E:=aa) (l:=n0.args) h0 A3 e2 rfl),.b 6 Q0,.v 10 (bo (k:=.i64) (E:=aa) (l:=n0.args) dC e3),.v 11 (cY  (E:=aa) (l:=n0.args) h0 A3 e3 rfl)] <| qc H (fun Vl H=>?_) (fun Vl H=>?_)
   ·exact q1 <| qt <| XH (⟨rfl,_,oi H,bZ (.bool false) h0 (bX (aj))⟩)
   ·exact qk <| q0 <| ⟨i64.wrap (i0+(1:Int)),⟨h0,by kernel_rfl,o0⟩,H⟩
 ·exact qx 1 <| X6 (⟨rfl,i0,oi H,.int .i64 az,.lp 2 0,.int .i64 i0,.bool (decide (i0<(n0.args.length:Int))),some [.int .i64 n0.kind,.int .i64 n0.int,.str n0.label,aa.fz n0.args],h0,by kernel_rfl,o0⟩)
theorem qI {aS:FuncId→cg}(ha:aS 48=zm)(Bd:TA cf m)(n0:ae)(az:Int)(h:AHeap)(L:Mem)  (o:Has h (L)){out:Bool}(H:b7.f m n0 az=some out) :
  ∃r h',a7 Tryd.prog aS cf m 48 [.agg [.int .i64 n0.kind,.int .i64 n0.int,.str n0.label,aa.fz n0.args],.int .i64 az] h=some (r,h')∧fB h' r (.bool out):=by
 refine ak (fn:=Tryd.f48) ha Tryd.func48 (by kernel_rfl) (by kernel_rfl) ?_
 refine aF (Q:=fun s=>b7.fin L out s) (fun _ _ h=>h) ?_
 have H:_=some out:=H
 unfold b7.f at H
 show de _ cf zm m _ ⟨.agg [.int .i64 n0.kind,.int .i64 n0.int,.str n0.label,aa.fz n0.args] :: .int .i64 az::mS [],[none],h⟩ _
 refine q1 <| qq <| qq <| q0 <| qb 0 <| qq <| q0 <| qc H (fun c0 H=>?_) (fun c0 H=>?_)
 ·refine qq ?_
  rcases dw H with⟨c1,H⟩| ⟨c1,H⟩
  ·rcases dw H with⟨c2,H⟩| ⟨c2,H⟩
   ·obtain rfl:=oi H
    exact qr [.b 3 c1,.b 8 c2] <| qt <| ⟨.inl rfl,bZ (.bool ((n0.args.length:Int)==(0:Int))) h (bX (aj))⟩
   ·obtain rfl:=oi H
    exact qr [.b 3 c1,.b 8 c2] <| qt <| ⟨.inl rfl,bZ (.bool false) h (bX (aj))⟩
  ·obtain rfl:=oi H
   exact qr [.b 3 c1] <| qt <| ⟨.inl rfl,bZ (.bool false) h (bX (aj))⟩
 ·refine q1 <| qc H (fun c3 H=>?_) (fun c3 H=>?_)
  ·refine qq ?_
   rcases dw H with⟨c4,H⟩| ⟨c4,H⟩
   ·rcases dw H with⟨c5,H⟩| ⟨c5,H⟩
    ·rcases dw H with⟨c6,H⟩| ⟨c6,H⟩
     ·obtain rfl:=oi H
      exact qr [.b 3 c4,.b 8 c5,.b 13 c6] <| qt <| ⟨.inl rfl,bZ (.bool ((n0.args.length:Int)==(0:Int))) h (bX (aj))⟩
     ·obtain rfl:=oi H
      exact qr [.b 3 c4,.b 8 c5,.b 13 c6] <| qt <| ⟨.inl rfl,bZ (.bool false) h (bX (aj))⟩
    ·obtain rfl:=oi H
     exact qr [.b 3 c4,.b 8 c5] <| qt <| ⟨.inl rfl,bZ (.bool false) h (bX (aj))⟩
   ·obtain rfl:=oi H
    exact qr [.b 3 c4] <| qt <| ⟨.inl rfl,bZ (.bool false) h (bX (aj))⟩
  ·refine q1 <| qc H (fun c7 H=>?_) (fun c7 H=>?_)
   ·refine qq ?_
    obtain⟨x0,e0,H⟩:=aJ H
    rcases dw H with⟨c8,H⟩| ⟨c8,H⟩
    ·rcases dw H with⟨c9,H⟩| ⟨c9,H⟩
     ·obtain rfl:=oi H
      exact qr [.a 2 (Bd _ _ e0 h _ (ga (ab (bK) (ax)))),.b 3 c8,.b 8 c9] <| qt <| ⟨.inl rfl,bZ (.bool ((n0.args.length:Int)==(0:Int))) h (bX (aj))⟩
     ·obtain rfl:=oi H
      exact qr [.a 2 (Bd _ _ e0 h _ (ga (ab (bK) (ax)))),.b 3 c8,.b 8 c9] <| qt <| ⟨.inl rfl,bZ (.bool false) h (bX (aj))⟩
    ·obtain rfl:=oi H
     exact qr [.a 2 (Bd _ _ e0 h _ (ga (ab (bK) (ax)))),.b 3 c8] <| qt <| ⟨.inl rfl,bZ (.bool false) h (bX (aj))⟩
   ·refine q1 <| qc H (fun uP H=>?_) (fun uP H=>?_)
    ·refine qq ?_
     rcases dw H with⟨ml,H⟩| ⟨ml,H⟩
     ·rcases dw H with⟨qm,H⟩| ⟨qm,H⟩
      ·obtain rfl:=oi H
       exact qr [.b 3 ml,.b 18 qm] <| qt <| ⟨.inl rfl,bZ (.bool ((n0.args.length:Int)==(0:Int))) h (bX (aj))⟩
      ·obtain rfl:=oi H
       exact qr [.b 3 ml,.b 18 qm] <| qt <| ⟨.inl rfl,bZ (.bool false) h (bX (aj))⟩
     ·rcases dw H with⟨rH,H⟩| ⟨rH,H⟩
      ·rcases dw H with⟨og,H⟩| ⟨og,H⟩
       ·obtain rfl:=oi H
        exact qr [.b 3 ml,.b 8 rH,.b 18 og] <| qt <| ⟨.inl rfl,bZ (.bool ((n0.args.length:Int)==(0:Int))) h (bX (aj))⟩
       ·obtain rfl:=oi H
        exact qr [.b 3 ml,.b 8 rH,.b 18 og] <| qt <| ⟨.inl rfl,bZ (.bool false) h (bX (aj))⟩
      ·rcases dw H with⟨xL,H⟩| ⟨xL,H⟩
       ·rcases dw H with⟨D1,H⟩| ⟨D1,H⟩
        ·obtain rfl:=oi H
         exact qr [.b 3 ml,.b 8 rH,.b 13 xL,.b 18 D1] <| qt <| ⟨.inl rfl,bZ (.bool ((n0.args.length:Int)==(0:Int))) h (bX (aj))⟩
        ·obtain rfl:=oi H
         exact qr [.b 3 ml,.b 8 rH,.b 13 xL,.b 18 D1] <| qt <| ⟨.inl rfl,bZ (.bool false) h (bX (aj))⟩
       ·obtain rfl:=oi H
        exact qr [.b 3 ml,.b 8 rH,.b 13 xL] <| qt <| ⟨.inl rfl,bZ (.bool false) h (bX (aj))⟩
    ·refine q1 <| qc H (fun Ds H=>?_) (fun Ds H=>?_)
     ·refine qq <| qq ?_
      obtain⟨x1,e1,H⟩:=aJ H
      rcases dw H with⟨Kr,H⟩| ⟨Kr,H⟩
      ·obtain rfl:=oi H
       exact qr [.a 2 (Bd _ _ e1 h _ (ga (ab (bK) (ax)))),.b 4 Kr] <| pa <| qq <| q0 <| qt <| ⟨.inl rfl,bZ (.bool false) h (bX (aj))⟩
      ·rcases dw H with⟨Jh,H⟩| ⟨Jh,H⟩
       ·obtain rfl:=oi H
        exact qr [.a 2 (Bd _ _ e1 h _ (ga (ab (bK) (ax)))),.b 4 Kr,.b 9 Jh] <| pa <| qq <| q0 <| qt <| ⟨.inl rfl,bZ (.bool false) h (bX (aj))⟩
       ·rcases dw H with⟨Q5,H⟩| ⟨Q5,H⟩
        ·obtain rfl:=oi H
         exact qr [.a 2 (Bd _ _ e1 h _ (ga (ab (bK) (ax)))),.b 4 Kr,.b 9 Jh,.b 15 Q5] <| pa <| qq <| q0 <| qt <| ⟨.inl rfl,bZ (.bool false) h (bX (aj))⟩
        ·refine qr [.a 2 (Bd _ _ e1 h _ (ga (ab (bK) (ax)))),.b 4 Kr,.b 9 Jh,.b 15 Q5] <| qc H (fun Vm H=>?_) (fun Vm H=>?_)
         ·obtain rfl:=oi H
          exact q1 <| qt <| ⟨.inl rfl,bZ (.bool false) h (bX (aj))⟩
         ·refine qk <| qq <| qq <| q0 <| qb 1 ?_
          obtain⟨bq,e4,H⟩:=aJ H
          refine ql (b7.bG L n0 az   (0:Int) _ _ ⟨h,by kernel_rfl,o⟩ e4) ?_
          rintro e s (⟨rfl,i1,rfl,g0,g1,g2,g3,g4,h1,rfl,o1⟩| ⟨rfl,r0,rfl,lJ⟩)
          ·try dsimp only at H
           obtain rfl:=oi H
           exact q1 <| qt <| ⟨.inl rfl,bZ (.bool true) h1 (bX (aj))⟩
          ·try dsimp only at H
           obtain rfl:=oi H
           exact⟨.inl rfl,lJ⟩
     ·obtain rfl:=oi H
      exact qk <| qq <| q0 <| qt <| ⟨.inl rfl,bZ (.bool false) h (bX (aj))⟩
end
end Go.Proofs.YtmekcfdllhphlaaDoor
namespace Go.Proofs.YtmekcfdllhphlaaDoor
open Go Go.R
open Go.IntKind (i64 u64 u8 u32)
def zn:cg:=gk [0,1,2,3,26,31,43] [1] [125,109,123,117,85,117,53,123,123] [] []
def b8.l0 (m:Nat)(t0:an):Nat→Int→Option (Sum Bool (Int))
 | 0,_=>none
 | k+1,i0=>if (decide (i0<(t0.nodes.length:Int)))=true then ((ix t0.nodes i0).bind fun v0=>(b7.f m v0 (t0.nodes.length:Int)).bind fun x0=>if (!x0)=true then (some (.inl false)) else (b8.l0 m t0 k (i64.wrap (i0+(1:Int))))) else (some (.inr i0))
def b8.f (m:Nat)(t0:an):Option (Bool):=if (decide ((t0.nodes.length:Int)<(1:Int)))=true then (some false) else (if (decide ((t0.nodes.length:Int) > (8000:Int)))=true then (some false) else (if (decide (t0.root<(0:Int)))=true then (some false) else (if (decide (t0.root≥(t0.nodes.length:Int)))=true then (some false) else ((b8.l0 m t0 m (0:Int)).bind fun bq=>match bq with | .inl r0=>some r0 | .inr i1=>some true))))
def b8.fin (L:Mem)(r:Bool)(s:St):Prop:=∃av,aI Tryd.prog (s.open zn) Tryd.f25.results.toList=some av∧fB s.h av (.bool r)
def TB (cf:CallF)(m:Nat):Prop:=∀(t0:an) (r:Bool),b8.f m t0=some r→∀h xs,ej eL h xs [.agg [af.fz t0.nodes,.int .i64 t0.root]]→cf 25 xs h=some (.bool r,h)
section
variable {cf:CallF}{m:Nat}
theorem b8.bG (L:Mem)(t0:an)  (KW:QZ cf m):bI Tryd.prog cf zn m (sub [1,1,0,1,0,0] (codeOf Tryd.f25)) (fun k (σ:Int)=>b8.l0 m t0 k σ) (fun σ s=>match σ with | i0=>∃h0,s=⟨.any :: .lp 1 0 :: .any :: .int .i64 i0::jW [],[some [af.fz t0.nodes,.int .i64 t0.root]],h0⟩∧Has h0 (L)) (fun out e s=>(e = .exit 0∧∃i0,.inr i0=out∧∃rF tu Kp Vn h0,s=⟨[.any,rF,.any,tu,.any,Kp,.any],[Vn],h0⟩∧Has h0 (L))∨(e = .ret∧∃r,.inl r=out∧b8.fin L r s)):=by
 refine gS (fun _=>rfl) ?_
 rintro k i0 s out ⟨h0,rfl,o0⟩ H
 have H:b8.l0 m t0 (k+1) i0=some out:=H
 refine qq <| qq <| q0 <| qc H (fun c7 H=>?_) (fun c7 H=>?_)
 ·refine qk <| qq <| qb 1 <| qq ?_
  obtain⟨v0,e0,H⟩:=aJ H
  obtain⟨x0,e1,H⟩:=aJ H
  refine qr [.v 3 (bo (k:=.i64) (E:=af) (l:=t0.nodes) kT e0),.v 4 (cO  (E:=af) (l:=t0.nodes) h0 ri rj e0),.a 8 (KW _ _ _ e1 h0 _ (ga (ab (bQ (ab (aE) (ab (aE) (ab (bK) (ab (bS (E:=aa)) (ax)))))) (ab (aE) (ax)))))] <| qc H (fun c8 H=>?_) (fun c8 H=>?_)
  ·exact q1 <| qt <| XH (⟨rfl,_,oi H,bZ (.bool false) h0 (bX (aj))⟩)
  ·exact qk <| q0 <| ⟨i64.wrap (i0+(1:Int)),⟨h0,by kernel_rfl,o0⟩,H⟩
 ·exact qx 0 <| X6 (⟨rfl,i0,oi H,.lp 1 0,.int .i64 i0,.bool (decide (i0<(t0.nodes.length:Int))),some [af.fz t0.nodes,.int .i64 t0.root],h0,by kernel_rfl,o0⟩)
theorem qJ {aS:FuncId→cg}(ha:aS 25=zn)(KW:QZ cf m)(t0:an)(h:AHeap)(L:Mem)  (o:Has h (L)){out:Bool}(H:b8.f m t0=some out) :
  ∃r h',a7 Tryd.prog aS cf m 25 [.agg [af.fz t0.nodes,.int .i64 t0.root]] h=some (r,h')∧fB h' r (.bool out):=by
 refine ak (fn:=Tryd.f25) ha Tryd.func25 (by kernel_rfl) (by kernel_rfl) ?_
 refine aF (Q:=fun s=>b8.fin L out s) (fun _ _ h=>h) ?_
 have H:_=some out:=H
 unfold b8.f at H
 show de _ cf zn m _ ⟨.agg [af.fz t0.nodes,.int .i64 t0.root]::Ha [],[none],h⟩ _
 refine q1 <| qq <| qq ?_
 rcases dw H with⟨c0,H⟩| ⟨c0,H⟩
 ·obtain rfl:=oi H
  exact qr [.b 4 c0] <| pa <| qq <| q0 <| qt <| ⟨.inl rfl,bZ (.bool false) h (bX (aj))⟩
 ·rcases dw H with⟨c2,H⟩| ⟨c2,H⟩
  ·obtain rfl:=oi H
   exact qr [.b 4 c0,.b 10 c2] <| pa <| qq <| q0 <| qt <| ⟨.inl rfl,bZ (.bool false) h (bX (aj))⟩
  ·rcases dw H with⟨c4,H⟩| ⟨c4,H⟩
   ·obtain rfl:=oi H
    exact qr [.b 4 c0,.b 10 c2,.b 15 c4] <| pa <| qq <| q0 <| qt <| ⟨.inl rfl,bZ (.bool false) h (bX (aj))⟩
   ·refine qr [.b 4 c0,.b 10 c2,.b 15 c4] <| qc H (fun c6 H=>?_) (fun c6 H=>?_)
    ·obtain rfl:=oi H
     exact q1 <| qt <| ⟨.inl rfl,bZ (.bool false) h (bX (aj))⟩
    ·refine qk <| qq <| qq <| q0 <| qb 0 ?_
     obtain⟨bq,e2,H⟩:=aJ H
     refine ql (b8.bG L t0  KW (0:Int) _ _ ⟨h,by kernel_rfl,o⟩ e2) ?_
     rintro e s (⟨rfl,i1,rfl,g0,g1,g2,g3,h1,rfl,o1⟩| ⟨rfl,r0,rfl,lJ⟩)
     ·try dsimp only at H
      obtain rfl:=oi H
      exact q1 <| qt <| ⟨.inl rfl,bZ (.bool true) h1 (bX (aj))⟩
     ·try dsimp only at H
      obtain rfl:=oi H
      exact⟨.inl rfl,lJ⟩
end
end Go.Proofs.YtmekcfdllhphlaaDoor
namespace Go.Proofs.YtmekcfdllhphlaaDoor
open Go Go.R
open Go.IntKind (i64 u64 u8 u32)
def lG:cg:=gk [0,1,4,5,6,7,8,9,10,11,12,13,14,15,16,17,18,19,20,21,22,32,45,59,84,94,120,133,147] [4,10,18,20] [536870904,536870898,536870882,536870850,536870786,534773634,536870786,536870786,536870722,532676418,536870722,536870466,536869954,536868930,528480322,536868930,536868930,536870466,536870722,536868811,536864715,520087499,536864715,536856523,503302091,536856523,536856523,536854475,536821707,469712843,536821707,536821707,536788939,536657867,402440139,536657867,536395723,535871435,534822859,266387403,534822859,534822859,536395723,536657867,536870907] [(42,[(21,none,0)]),(44,[(18,some 0,0)])] [(3,[(7,none,4)]),(12,[(11,none,1)]),(32,[(18,some 0,4)]),(37,[(21,none,1)])]
def ai.l0 (m:Nat)(x0:(List Int)):Nat→(List Int)→Int→Option ((List Int) × Int)
 | 0,_,_=>none
 | k+1,fk,i0=>if (decide (i0<(x0.length:Int)))=true then ((ix x0 i0).bind fun v0=>(ix fk v0).bind fun v1=>ai.l0 m x0 k (fk.set v0.toNat i0) (i64.wrap (i0+(1:Int)))) else (some ((fk,i0)))
def ai.l2 (m:Nat)(be:List Int)(v3:ae):Nat→(List Int)→Int→Option ((List Int) × Int)
 | 0,_,_=>none
 | k+1,eA,k0=>if (decide (k0<(v3.args.length:Int)))=true then ((ix v3.args k0).bind fun v4=>(ix be v4).bind fun v5=>(app 8 eA ([v5])).bind fun x2=>ai.l2 m be v3 k x2 (i64.wrap (k0+(1:Int)))) else (some ((eA,k0)))
def ai.l1 (m:Nat)(l0:List ae)(x0:(List Int))(be:List Int):Nat→(List ae)→Int→Option ((List ae) × Int)
 | 0,_,_=>none
 | k+1,eM,i2=>if (decide (i2<(x0.length:Int)))=true then ((ix x0 i2).bind fun v2=>(ix l0 v2).bind fun v3=>(ai.l2 m be v3 m ([]:List Int) (0:Int)).bind fun cq=>match cq with | (mA,k1)=>(app 56 eM [ae.mk v3.kind v3.int v3.label mA]).bind fun x3=>ai.l1 m l0 x0 be k x3 (i64.wrap (i2+(1:Int)))) else (some ((eM,i2)))
def ai.l4 (m:Nat)(x4:(List Int))(i4:Int):Nat→(List ae)→Int→Option ((List ae) × Int)
 | 0,_,_=>none
 | k+1,dG,k2=>(ix dG i4).bind fun v6=>if (decide (k2<(v6.args.length:Int)))=true then ((ix dG i4).bind fun v7=>(ix dG i4).bind fun v8=>(ix v8.args k2).bind fun v9=>(ix x4 v9).bind fun v10=>(ix v7.args k2).bind fun v11=>ai.l4 m x4 i4 k (dG.set i4.toNat (ae.mk v7.kind v7.int v7.label (v7.args.set k2.toNat v10))) (i64.wrap (k2+(1:Int)))) else (some ((dG,k2)))
def ai.l3 (m:Nat)(x4:(List Int)):Nat→(List ae)→Int→Option ((List ae) × Int)
 | 0,_,_=>none
 | k+1,iL,i4=>if (decide (i4<(iL.length:Int)))=true then ((ai.l4 m x4 i4 m iL (0:Int)).bind fun pc=>match pc with | (GF,k3)=>ai.l3 m x4 k GF (i64.wrap (i4+(1:Int)))) else (some ((iL,i4)))
def ai.l5 (m:Nat)(x5:(List Int)):Nat→(List Int)→Int→Option ((List Int) × Int)
 | 0,_,_=>none
 | k+1,fl,i6=>if (decide (i6<(x5.length:Int)))=true then ((ix x5 i6).bind fun v12=>(ix fl v12).bind fun H5=>ai.l5 m x5 k (fl.set v12.toNat i6) (i64.wrap (i6+(1:Int)))) else (some ((fl,i6)))
def ai.l7 (m:Nat)(cy:List Int)(mZ:ae):Nat→(List Int)→Int→Option ((List Int) × Int)
 | 0,_,_=>none
 | k+1,iM,k4=>if (decide (k4<(mZ.args.length:Int)))=true then ((ix mZ.args k4).bind fun lS=>(ix cy lS).bind fun LJ=>(app 8 iM ([LJ])).bind fun x6=>ai.l7 m cy mZ k x6 (i64.wrap (k4+(1:Int)))) else (some ((iM,k4)))
def ai.l6 (m:Nat)(bW:List ae)(x5:(List Int))(cy:List Int):Nat→Int→(List ae)→Int→Option (Int × (List ae) × Int)
 | 0,_,_,_=>none
 | k+1,i8,gE,my=>if (decide (i8<(x5.length:Int)))=true then ((ix x5 i8).bind fun zP=>(ix bW zP).bind fun mZ=>(ai.l7 m cy mZ m ([]:List Int) (0:Int)).bind fun FJ=>match FJ with | (zo,k5)=>(app 56 gE ([(ae.mk mZ.kind mZ.int mZ.label zo)])).bind fun x7=>ai.l6 m bW x5 cy k (i64.wrap (i8+(1:Int))) x7 my) else (some ((i8,gE,my)))
def ai.f (m:Nat)(l0:List ae)(gG:Int):Option (an):=(aK.f m l0 gG).bind fun x0=>(uL 8 (l0.length:Int) (0:Int)).bind fun x1=>(ai.l0 m x0 m x1 (0:Int)).bind fun bq=>match bq with | (be,i1)=>(ai.l1 m l0 x0 be m ([]:List ae) (0:Int)).bind fun jm=>match jm with | (um,i3)=>(ah.f m um).bind fun x4=>(ai.l3 m x4 m um (0:Int)).bind fun cP=>match cP with | (bW,i5)=>(aK.f m bW (0:Int)).bind fun x5=>(ai.l5 m x5 m be (0:Int)).bind fun yW=>match yW with | (cy,i7)=>(ai.l6 m bW x5 cy m (0:Int) ([]:List ae) (0:Int)).bind fun Jj=>match Jj with | (i9,Ix,GG)=>some (an.mk Ix GG)
def ai.fin (L:Mem)(r:an)(s:St):Prop:=∃av,aI Tryd.prog (s.open lG) Tryd.f57.results.toList=some av∧wQ s.h av (.agg [af.fz r.nodes,.int .i64 r.root])
def TC (cf:CallF)(m:Nat):Prop:=∀(l0:List ae) (gG:Int) (r:an),ai.f m l0 gG=some r→∀h xs,lD xs [af.fz l0,.int .i64 gG]→cf 57 xs h=some (.agg [af.fz r.nodes,.int .i64 r.root],h)
section
variable {cf:CallF}{m:Nat}
theorem ai.bG (L:Mem)(l0:List ae)(x0:(List Int))   : bI Tryd.prog cf lG m (sub [1,1,1,1,0,1,0,0] (codeOf Tryd.f57)) (fun k (σ:(List Int) × Int)=>ai.l0 m x0 k σ.1 σ.2) (fun σ s=>match σ with | (fk,i0)=>∃gF h1,s=⟨af.fz l0 :: .any :: .lp 4 0::aa.fz x0 :: .rs gF 0 fk.length 1 :: .rs (0) 0 (([]:List ae).length) 4 :: .int .i64 i0::ME [],[some [.nils,.int .i64 (0:Int)],none,none,none],h1⟩∧Has h1 (((0),.sl (([]:List ae).length) 4 (gR.l (cj ([]:List ae) ([]:List Nat))))::(gF,.sl fk.length 1 (aa.l fk))::(iP ([]:List ae) ([]:List Nat)++L))) (fun out e s=>(e = .exit 0∧∃fk i0,(fk,i0)=out∧∃qn KX gF h1,s=⟨af.fz l0 :: .any :: .lp 4 0::aa.fz x0 :: .rs gF 0 fk.length 1 :: .rs (0) 0 (([]:List ae).length) 4::qn::rE (KX::Dk []),[some [.nils,.int .i64 (0:Int)],none,none,none],h1⟩∧Has h1 (((0),.sl (([]:List ae).length) 4 (gR.l (cj ([]:List ae) ([]:List Nat))))::(gF,.sl fk.length 1 (aa.l fk))::(iP ([]:List ae) ([]:List Nat)++L)))):=by
 refine gS (fun _=>rfl) ?_
 rintro k ⟨fk,i0⟩ s out ⟨gF,h1,rfl,o2⟩ H
 have H:ai.l0 m x0 (k+1) fk i0=some out:=H
 refine qq <| qq <| q0 <| qc H (fun c0 H=>?_) (fun c0 H=>?_)
 ·refine qk <| qq <| qb 1 ?_
  obtain⟨v0,e3,H⟩:=aJ H
  obtain⟨v1,e4,H⟩:=aJ H
  obtain⟨h2,e5,o3⟩:=dJ (P:=Tryd.prog) (tf:=3) (E:=aa) (l:=fk) (q:=1) (v:=i0) (x:=.int .i64 i0) o2 rfl Z3 e4 rfl rfl
  exact qr [.v 3 (bo (k:=.i64) (E:=aa) (l:=x0) dC e3),.v 4 (cY  (E:=aa) (l:=x0) h1 A3 e3 rfl),.v 6 (aH (k:=.i64) (E:=aa) (l:=fk) (q:=1) dC o2 rfl e4),.w 7 e5] <| q0 <| ⟨(fk.set v0.toNat i0,i64.wrap (i0+(1:Int))),⟨gF,h2,(XO (b:=⟨af.fz l0 :: .any :: .lp 4 0::aa.fz x0 :: .rs gF 0 fk.length 1 :: .rs (0) 0 (([]:List ae).length) 4 :: .int .i64 (i64.wrap (i0+(1:Int)))::ME [],[some [.nils,.int .i64 (0:Int)],none,none,none],h2⟩) (by kernel_rfl) (by simp only [WW])),(by have o:Has h2 (((0),.sl (([]:List ae).length) 4 (gR.l (cj ([]:List ae) ([]:List Nat))))::(gF,.sl fk.length 1 (aa.l (fk.set v0.toNat i0)))::(iP ([]:List ae) ([]:List Nat)++L)):=o3; simpa only [WW] using o)⟩,H⟩
 ·exact qx 0 <| ⟨rfl,fk,i0,oi H,.int .i64 i0,.bool (decide (i0<(x0.length:Int))),gF,h1,by kernel_rfl,o2⟩
theorem ai.pe (L:Mem)(l0:List ae)(x0:(List Int))(dj:Nat)(be:List Int)(dj:Nat)(fA:Nat)(eM:List ae)(i2:Int)(fA:Nat)(nb:List Nat)(v3:ae)   : bI Tryd.prog cf lG m (sub [1,1,1,1,1,0,1,0,0,1,0,0,1,1,0,1,0,0] (codeOf Tryd.f57)) (fun k (σ:(List Int) × Int)=>ai.l2 m be v3 k σ.1 σ.2) (fun σ s=>match σ with | (eA,k0)=>∃gX h5,s=⟨af.fz l0 :: .any :: .lp 4 0::aa.fz x0 :: .rs dj 0 be.length 1 :: .rs fA 0 eM.length 4 :: .any :: .int .i64 i2 :: .lp 10 0 :: .rs gX 0 eA.length 1 :: .int .i64 k0::MC [],[some [.nils,.int .i64 (0:Int)],some [.int .i64 v3.kind,.int .i64 v3.int,.str v3.label,aa.fz v3.args],none,none],h5⟩∧Has h5 ((gX,.sl eA.length 1 (aa.l eA))::(fA,.sl eM.length 4 (gR.l (cj eM nb)))::(dj,.sl be.length 1 (aa.l be))::(iP eM nb++L))) (fun out e s=>(e = .exit 4∧∃eA k0,(eA,k0)=out∧∃A0 Q6 gX h5,s=⟨af.fz l0 :: .any :: .lp 4 0::aa.fz x0 :: .rs dj 0 be.length 1 :: .rs fA 0 eM.length 4 :: .any :: .int .i64 i2 :: .lp 10 0 :: .rs gX 0 eA.length 1::A0::mS (Q6::sf []),[some [.nils,.int .i64 (0:Int)],some [.int .i64 v3.kind,.int .i64 v3.int,.str v3.label,aa.fz v3.args],none,none],h5⟩∧Has h5 ((gX,.sl eA.length 1 (aa.l eA))::(fA,.sl eM.length 4 (gR.l (cj eM nb)))::(dj,.sl be.length 1 (aa.l be))::(iP eM nb++L)))):=by
 refine gS (fun _=>rfl) ?_
 rintro k ⟨eA,k0⟩ s out ⟨gX,h5,rfl,o7⟩ H
 have H:ai.l2 m be v3 (k+1) eA k0=some out:=H
 refine qq <| qq <| q0 <| qc H (fun c2 H=>?_) (fun c2 H=>?_)
 ·refine qk <| qq <| qb 5 ?_
  obtain⟨v4,e9,H⟩:=aJ H
  obtain⟨v5,mU,H⟩:=aJ H
  obtain⟨x2,rn,H⟩:=aJ H
  obtain⟨gU,h6,si,o8⟩:=fY (P:=Tryd.prog) (E:=aa) (l:=eA) (q:=0) (t2:=42) (x:=.fz [.int .i64 v5] 1 true) (l2:=([v5])) dC o7 rfl (by kernel_rfl) rfl rn
  exact qr [.v 5 (bo (k:=.i64) (E:=aa) (l:=v3.args) dC e9),.v 6 (cY  (E:=aa) (l:=v3.args) h5 A3 e9 rfl),.v 7 (aH (k:=.i64) (E:=aa) (l:=be) (q:=2) dC o7 rfl mU),.v 8 (bg  (E:=aa) (l:=be) (q:=2) o7 rfl A3 mU rfl),.a 10 si] <| q0 <| ⟨(x2,i64.wrap (k0+(1:Int))),⟨gU,h6,by kernel_rfl,o8⟩,H⟩
 ·exact qx 4 <| ⟨rfl,eA,k0,oi H,.int .i64 k0,.bool (decide (k0<(v3.args.length:Int))),gX,h5,by kernel_rfl,o7⟩
theorem ai.fu (L:Mem)(l0:List ae)(x0:(List Int))(dj:Nat)(be:List Int)(dj:Nat)   : bI Tryd.prog cf lG m (sub [1,1,1,1,1,0,1,0,0] (codeOf Tryd.f57)) (fun k (σ:(List ae) × Int)=>ai.l1 m l0 x0 be k σ.1 σ.2) (fun σ s=>match σ with | (eM,i2)=>∃fA nb h4,s=⟨af.fz l0 :: .any :: .lp 4 0::aa.fz x0 :: .rs dj 0 be.length 1 :: .rs fA 0 eM.length 4 :: .any :: .int .i64 i2::MD [],[some [.nils,.int .i64 (0:Int)],none,none,none],h4⟩∧Has h4 ((fA,.sl eM.length 4 (gR.l (cj eM nb)))::(dj,.sl be.length 1 (aa.l be))::(iP eM nb++L))) (fun out e s=>(e = .exit 2∧∃eM i2,(eM,i2)=out∧∃kp xi tG Q7 fA nb h4,s=⟨kp :: .any :: .lp 4 0::xi :: .rs dj 0 be.length 1 :: .rs fA 0 eM.length 4 :: .any::tG::rE (Q7::Ha []),[some [.nils,.int .i64 (0:Int)],none,none,none],h4⟩∧Has h4 ((fA,.sl eM.length 4 (gR.l (cj eM nb)))::(dj,.sl be.length 1 (aa.l be))::(iP eM nb++L)))):=by
 refine gS (fun _=>rfl) ?_
 rintro k ⟨eM,i2⟩ s out ⟨fA,nb,h4,rfl,o5⟩ H
 have H:ai.l1 m l0 x0 be (k+1) eM i2=some out:=H
 refine qq <| qq <| q0 <| qc H (fun c1 H=>?_) (fun c1 H=>?_)
 ·refine qk <| qq <| qb 3 <| qq ?_
  obtain⟨v2,e7,H⟩:=aJ H
  obtain⟨v3,e8,H⟩:=aJ H
  refine qr [.v 3 (bo (k:=.i64) (E:=aa) (l:=x0) dC e7),.v 4 (cY  (E:=aa) (l:=x0) h4 A3 e7 rfl),.v 5 (bo (k:=.i64) (E:=af) (l:=l0) kT e8),.v 6 (cO  (E:=af) (l:=l0) h4 ri rj e8)] <| qq <| q0 ?_
  have o6:Has h4 ((((0)),.sl (([]:List Int).length) 1 (aa.l ([]:List Int)))::(fA,.sl eM.length 4 (gR.l (cj eM nb)))::(dj,.sl be.length 1 (aa.l be))::(iP eM nb++L)):=Has.nil o5 1
  refine qq <| qq <| q0 <| qb 4 ?_
  obtain⟨cq,sj,H⟩:=aJ H
  refine ql (ai.pe L l0 x0 dj be dj fA eM i2 fA nb v3   (([]:List Int),(0:Int)) _ _ ⟨((0)),h4,by kernel_rfl,o6⟩ sj) ?_
  rintro e s ⟨rfl,mA,k1,rfl,g2,g3,gV,h7,rfl,o9⟩
  try dsimp only at H
  refine q1 ?_
  obtain⟨x3,uS,H⟩:=aJ H
  obtain⟨iy,Q8,h8,uz,uQ⟩:=Ki (P:=Tryd.prog) (t2:=29) (pre:=[(dj,.sl be.length 1 (aa.l be))]) (ns:=eM) (ids:=nb) (kind:=v3.kind) (int:=v3.int) (label:=v3.label) (args:=mA) (x:=.fz [.int .i64 v3.kind,.int .i64 v3.int,.str v3.label,.rs gV 0 mA.length 1] 1 true) kT (Has.front (Has.front (Has.front o9 2 rfl) 1 rfl) 2 rfl) (by kernel_rfl) rfl uS
  exact qr [.a 3 uz] <| q0 <| ⟨(x3,i64.wrap (i2+(1:Int))),⟨iy,Q8,h8,by kernel_rfl,uQ⟩,H⟩
 ·exact qx 2 <| ⟨rfl,eM,i2,oi H,af.fz l0,aa.fz x0,.int .i64 i2,.bool (decide (i2<(x0.length:Int))),fA,nb,h4,by kernel_rfl,o5⟩
theorem ai.tM (L:Mem)(dj:Nat)(be:List Int)(dj:Nat)(x4:(List Int))(i4:Int)   : bI Tryd.prog cf lG m (sub [1,1,1,1,1,1,1,0,1,0,0,1,0,0,1,0,0] (codeOf Tryd.f57)) (fun k (σ:(List ae) × Int)=>ai.l4 m x4 i4 k σ.1 σ.2) (fun σ s=>match σ with | (dG,k2)=>∃eQ jX h11,s=⟨.any :: .any :: .lp 4 0 :: .any :: .rs dj 0 be.length 1 :: .rs eQ 0 dG.length 4::sf (aa.fz x4 :: .int .i64 i4 :: .int .i64 k2::HY []),[some [.nils,.int .i64 (0:Int)],none,none,none],h11⟩∧Has h11 ((eQ,.sl dG.length 4 (gR.l (cj dG jX)))::(dj,.sl be.length 1 (aa.l be))::(iP dG jX++L))) (fun out e s=>(e = .exit 8∧∃dG k2,(dG,k2)=out∧∃tK Q9 eQ jX h11,s=⟨.any :: .any :: .lp 4 0 :: .any :: .rs dj 0 be.length 1 :: .rs eQ 0 dG.length 4::sf (aa.fz x4 :: .int .i64 i4::tK::oV (Q9::jW [])),[some [.nils,.int .i64 (0:Int)],none,none,none],h11⟩∧Has h11 ((eQ,.sl dG.length 4 (gR.l (cj dG jX)))::(dj,.sl be.length 1 (aa.l be))::(iP dG jX++L)))):=by
 refine gS (fun _=>rfl) ?_
 rintro k ⟨dG,k2⟩ s out ⟨eQ,jX,h11,rfl,lK⟩ H
 have H:ai.l4 m x4 i4 (k+1) dG k2=some out:=H
 refine qq <| qq ?_
 obtain⟨v6,BY,H⟩:=aJ H
 refine qr [.v 3 (aH (k:=.i64) (E:=gR) (l:=(cj dG jX)) (q:=0) kT lK rfl (ke BY)),.v 5 (wP  (E:=gR) (l:=(cj dG jX)) (q:=0) (off:=3) lK rfl Kl (ke BY) rfl)] <| qc H (fun c4 H=>?_) (fun c4 H=>?_)
 ·refine qk <| qq <| qb 9 ?_
  obtain⟨v7,xb,H⟩:=aJ H
  obtain⟨v8,BZ,H⟩:=aJ H
  obtain⟨v9,D4,H⟩:=aJ H
  obtain⟨v10,D2,H⟩:=aJ H
  obtain⟨v11,Fv,H⟩:=aJ H
  obtain⟨h12,D3,yL⟩:=Kj (P:=Tryd.prog) (tf:=3) (pre:=[(dj,.sl be.length 1 (aa.l be))]) (v:=v10) lK Z3 xb Fv
  refine qr [.v 2 (aH (k:=.i64) (E:=gR) (l:=(cj dG jX)) (q:=0) kT lK rfl (ke xb)),.v 4 (wP  (E:=gR) (l:=(cj dG jX)) (q:=0) (off:=3) lK rfl Kl (ke xb) rfl),.v 9 (aH (k:=.i64) (E:=gR) (l:=(cj dG jX)) (q:=0) kT lK rfl (ke BZ)),.v 11 (wP  (E:=gR) (l:=(cj dG jX)) (q:=0) (off:=3) lK rfl Kl (ke BZ) rfl),.v 13 (aH (k:=.i64) (E:=aa) (l:=v8.args) dC lK (qh (pre:=[(eQ,.sl dG.length 4 (gR.l (cj dG jX))),(dj,.sl be.length 1 (aa.l be))]) (ids:=jX) BZ) D4),.v 14 (bg  (E:=aa) (l:=v8.args) lK (qh (pre:=[(eQ,.sl dG.length 4 (gR.l (cj dG jX))),(dj,.sl be.length 1 (aa.l be))]) (ids:=jX) BZ) A3 D4 rfl),.v 15 (bo (k:=.i64) (E:=aa) (l:=x4) dC D2),.v 16 (cY  (E:=aa) (l:=x4) h11 A3 D2 rfl),.v 17 (aH (k:=.i64) (E:=aa) (l:=v7.args) dC lK (qh (pre:=[(eQ,.sl dG.length 4 (gR.l (cj dG jX))),(dj,.sl be.length 1 (aa.l be))]) (ids:=jX) xb) Fv),.w 18 D3] ?_
  exact q0 <| ⟨(dG.set i4.toNat (ae.mk v7.kind v7.int v7.label (v7.args.set k2.toNat v10)),i64.wrap (k2+(1:Int))),⟨eQ,jX,h12,(XO (b:=⟨.any :: .any :: .lp 4 0 :: .any :: .rs dj 0 be.length 1 :: .rs eQ 0 dG.length 4::sf (aa.fz x4 :: .int .i64 i4 :: .int .i64 (i64.wrap (k2+(1:Int)))::HY []),[some [.nils,.int .i64 (0:Int)],none,none,none],h12⟩) (by kernel_rfl) (by simp only [WW])),(by have o:Has h12 ((eQ,.sl dG.length 4 (gR.l (cj (dG.set i4.toNat (ae.mk v7.kind v7.int v7.label (v7.args.set k2.toNat v10))) jX)))::(dj,.sl be.length 1 (aa.l be))::(iP (dG.set i4.toNat (ae.mk v7.kind v7.int v7.label (v7.args.set k2.toNat v10))) jX++L)):=yL; simpa only [WW] using o)⟩,H⟩
 ·exact qx 8 <| ⟨rfl,dG,k2,oi H,.int .i64 k2,.bool (decide (k2<(v6.args.length:Int))),eQ,jX,h11,by kernel_rfl,lK⟩
theorem ai.tL (L:Mem)(dj:Nat)(be:List Int)(dj:Nat)(x4:(List Int))   : bI Tryd.prog cf lG m (sub [1,1,1,1,1,1,1,0,1,0,0] (codeOf Tryd.f57)) (fun k (σ:(List ae) × Int)=>ai.l3 m x4 k σ.1 σ.2) (fun σ s=>match σ with | (iL,i4)=>∃xN zp h10,s=⟨.any :: .any :: .lp 4 0 :: .any :: .rs dj 0 be.length 1 :: .rs xN 0 iL.length 4::sf (aa.fz x4 :: .int .i64 i4::Dl []),[some [.nils,.int .i64 (0:Int)],none,none,none],h10⟩∧Has h10 ((xN,.sl iL.length 4 (gR.l (cj iL zp)))::(dj,.sl be.length 1 (aa.l be))::(iP iL zp++L))) (fun out e s=>(e = .exit 6∧∃iL i4,(iL,i4)=out∧∃nQ w7 Ra xN zp h10,s=⟨.any :: .any :: .lp 4 0 :: .any :: .rs dj 0 be.length 1 :: .rs xN 0 iL.length 4::sf (nQ::w7::oV (Ra::re [])),[some [.nils,.int .i64 (0:Int)],none,none,none],h10⟩∧Has h10 ((xN,.sl iL.length 4 (gR.l (cj iL zp)))::(dj,.sl be.length 1 (aa.l be))::(iP iL zp++L)))):=by
 refine gS (fun _=>rfl) ?_
 rintro k ⟨iL,i4⟩ s out ⟨xN,zp,h10,rfl,tI⟩ H
 have H:ai.l3 m x4 (k+1) iL i4=some out:=H
 refine qq <| qq <| q0 <| qc H (fun c3 H=>?_) (fun c3 H=>?_)
 ·refine qk <| qq <| qb 7 <| qq <| q0 <| qb 8 ?_
  obtain⟨pc,Fw,H⟩:=aJ H
  refine ql (ai.tM L dj be dj x4 i4   (iL,(0:Int)) _ _ ⟨xN,zp,h10,by kernel_rfl,tI⟩ Fw) ?_
  rintro e s ⟨rfl,GF,k3,rfl,g8,g9,nU,Rb,h13,rfl,zO⟩
  try dsimp only at H
  exact q0 <| ⟨(GF,i64.wrap (i4+(1:Int))),⟨nU,Rb,h13,by kernel_rfl,zO⟩,H⟩
 ·exact qx 6 <| ⟨rfl,iL,i4,oi H,aa.fz x4,.int .i64 i4,.bool (decide (i4<(iL.length:Int))),xN,zp,h10,by kernel_rfl,tI⟩
theorem ai.Gw (L:Mem)(fP:Nat)(bW:List ae)(fP:Nat)(gh:List Nat)(x5:(List Int))   : bI Tryd.prog cf lG m (sub [1,1,1,1,1,1,1,1,1,0,1,0,0] (codeOf Tryd.f57)) (fun k (σ:(List Int) × Int)=>ai.l5 m x5 k σ.1 σ.2) (fun σ s=>match σ with | (fl,i6)=>∃gW h15,s=⟨.any :: .any :: .lp 4 0 :: .any :: .rs gW 0 fl.length 1 :: .rs fP 0 bW.length 4::rf (aa.fz x5 :: .int .i64 i6::nP []),[some [.nils,.int .i64 (0:Int)],none,none,none],h15⟩∧Has h15 ((fP,.sl bW.length 4 (gR.l (cj bW gh)))::(gW,.sl fl.length 1 (aa.l fl))::(iP bW gh++L))) (fun out e s=>(e = .exit 10∧∃fl i6,(fl,i6)=out∧∃w8 Gx gW h15,s=⟨.any :: .any :: .lp 4 0 :: .any :: .rs gW 0 fl.length 1 :: .rs fP 0 bW.length 4::rf (aa.fz x5::w8::uN [Gx,.any,.any]),[some [.nils,.int .i64 (0:Int)],none,none,none],h15⟩∧Has h15 ((fP,.sl bW.length 4 (gR.l (cj bW gh)))::(gW,.sl fl.length 1 (aa.l fl))::(iP bW gh++L)))):=by
 refine gS (fun _=>rfl) ?_
 rintro k ⟨fl,i6⟩ s out ⟨gW,h15,rfl,AE⟩ H
 have H:ai.l5 m x5 (k+1) fl i6=some out:=H
 refine qq <| qq <| q0 <| qc H (fun c5 H=>?_) (fun c5 H=>?_)
 ·refine qk <| qq <| qb 11 ?_
  obtain⟨v12,Fy,H⟩:=aJ H
  obtain⟨H5,Fz,H⟩:=aJ H
  obtain⟨h16,Fx,DA⟩:=dJ (P:=Tryd.prog) (tf:=3) (E:=aa) (l:=fl) (q:=1) (v:=i6) (x:=.int .i64 i6) AE rfl Z3 Fz rfl rfl
  exact qr [.v 3 (bo (k:=.i64) (E:=aa) (l:=x5) dC Fy),.v 4 (cY  (E:=aa) (l:=x5) h15 A3 Fy rfl),.v 6 (aH (k:=.i64) (E:=aa) (l:=fl) (q:=1) dC AE rfl Fz),.w 7 Fx] <| q0 <| ⟨(fl.set v12.toNat i6,i64.wrap (i6+(1:Int))),⟨gW,h16,(XO (b:=⟨.any :: .any :: .lp 4 0 :: .any :: .rs gW 0 fl.length 1 :: .rs fP 0 bW.length 4::rf (aa.fz x5 :: .int .i64 (i64.wrap (i6+(1:Int)))::nP []),[some [.nils,.int .i64 (0:Int)],none,none,none],h16⟩) (by kernel_rfl) (by simp only [WW])),(by have o:Has h16 ((fP,.sl bW.length 4 (gR.l (cj bW gh)))::(gW,.sl fl.length 1 (aa.l (fl.set v12.toNat i6)))::(iP bW gh++L)):=DA; simpa only [WW] using o)⟩,H⟩
 ·exact qx 10 <| ⟨rfl,fl,i6,oi H,.int .i64 i6,.bool (decide (i6<(x5.length:Int))),gW,h15,by kernel_rfl,AE⟩
theorem ai.NQ (L:Mem)(fP:Nat)(bW:List ae)(fP:Nat)(gh:List Nat)(x5:(List Int))(jT:Nat)(cy:List Int)(jT:Nat)(iw:Nat)(i8:Int)(gE:List ae)(my:Int)(iw:Nat)(zP:Int)(mZ:ae)(Hg:ix bW zP=some mZ)   : bI Tryd.prog cf lG m (sub [1,1,1,1,1,1,1,1,1,1,1,0,1,0,0,1,0,0,1,1,0,1,0,0] (codeOf Tryd.f57)) (fun k (σ:(List Int) × Int)=>ai.l7 m cy mZ k σ.1 σ.2) (fun σ s=>match σ with | (iM,k4)=>∃lN h19,s=⟨.any :: .any :: .lp 4 0 :: .any :: .rs jT 0 cy.length 1 :: .rs fP 0 bW.length 4::rf (aa.fz x5 :: .any :: .lp 18 0 :: .int .i64 i8 :: .lp 20 0 :: .rs lN 0 iM.length 1 :: .int .i64 k4::rf []),[some [.nils,.int .i64 (0:Int)],none,some [.rs iw 0 gE.length 4,.int .i64 my],some [.int .i64 mZ.kind,.int .i64 mZ.int,.str mZ.label,.rs (I3 gh zP) 0 mZ.args.length 1]],h19⟩∧Has h19 ((lN,.sl iM.length 1 (aa.l iM))::(iw,.sl gE.length 4 (af.l gE))::(fP,.sl bW.length 4 (gR.l (cj bW gh)))::(jT,.sl cy.length 1 (aa.l cy))::(iP bW gh++L))) (fun out e s=>(e = .exit 14∧∃iM k4,(iM,k4)=out∧∃AD NR lN h19,s=⟨.any :: .any :: .lp 4 0 :: .any :: .rs jT 0 cy.length 1 :: .rs fP 0 bW.length 4::rf (aa.fz x5 :: .any :: .lp 18 0 :: .int .i64 i8 :: .lp 20 0 :: .rs lN 0 iM.length 1::AD::Dk [NR]),[some [.nils,.int .i64 (0:Int)],none,some [.rs iw 0 gE.length 4,.int .i64 my],some [.int .i64 mZ.kind,.int .i64 mZ.int,.str mZ.label,.rs (I3 gh zP) 0 mZ.args.length 1]],h19⟩∧Has h19 ((lN,.sl iM.length 1 (aa.l iM))::(iw,.sl gE.length 4 (af.l gE))::(fP,.sl bW.length 4 (gR.l (cj bW gh)))::(jT,.sl cy.length 1 (aa.l cy))::(iP bW gh++L)))):=by
 refine gS (fun _=>rfl) ?_
 rintro k ⟨iM,k4⟩ s out ⟨lN,h19,rfl,D5⟩ H
 have H:ai.l7 m cy mZ (k+1) iM k4=some out:=H
 refine qq <| qq <| q0 <| qc H (fun c7 H=>?_) (fun c7 H=>?_)
 ·refine qk <| qq <| qb 15 ?_
  obtain⟨lS,LB,H⟩:=aJ H
  obtain⟨LJ,LC,H⟩:=aJ H
  obtain⟨x6,Nh,H⟩:=aJ H
  obtain⟨qE,h20,Ni,H8⟩:=fY (P:=Tryd.prog) (E:=aa) (l:=iM) (q:=0) (t2:=42) (x:=.fz [.int .i64 LJ] 1 true) (l2:=([LJ])) dC D5 rfl (by kernel_rfl) rfl Nh
  exact qr [.v 5 (aH (k:=.i64) (E:=aa) (l:=mZ.args) dC D5 (qh (pre:=[(lN,.sl iM.length 1 (aa.l iM)),(iw,.sl gE.length 4 (af.l gE)),(fP,.sl bW.length 4 (gR.l (cj bW gh))),(jT,.sl cy.length 1 (aa.l cy))]) (ids:=gh) Hg) LB),.v 6 (bg  (E:=aa) (l:=mZ.args) D5 (qh (pre:=[(lN,.sl iM.length 1 (aa.l iM)),(iw,.sl gE.length 4 (af.l gE)),(fP,.sl bW.length 4 (gR.l (cj bW gh))),(jT,.sl cy.length 1 (aa.l cy))]) (ids:=gh) Hg) A3 LB rfl),.v 7 (aH (k:=.i64) (E:=aa) (l:=cy) (q:=3) dC D5 rfl LC),.v 8 (bg  (E:=aa) (l:=cy) (q:=3) D5 rfl A3 LC rfl),.a 10 Ni] <| q0 <| ⟨(x6,i64.wrap (k4+(1:Int))),⟨qE,h20,by kernel_rfl,H8⟩,H⟩
 ·exact qx 14 <| ⟨rfl,iM,k4,oi H,.int .i64 k4,.bool (decide (k4<(mZ.args.length:Int))),lN,h19,by kernel_rfl,D5⟩
theorem ai.Gv (L:Mem)(fP:Nat)(bW:List ae)(fP:Nat)(gh:List Nat)(x5:(List Int))(jT:Nat)(cy:List Int)(jT:Nat)   : bI Tryd.prog cf lG m (sub [1,1,1,1,1,1,1,1,1,1,1,0,1,0,0] (codeOf Tryd.f57)) (fun k (σ:Int × (List ae) × Int)=>ai.l6 m bW x5 cy k σ.1 σ.2.1 σ.2.2) (fun σ s=>match σ with | (i8,gE,my)=>∃iw h18,s=⟨.any :: .any :: .lp 4 0 :: .any :: .rs jT 0 cy.length 1 :: .rs fP 0 bW.length 4::rf (aa.fz x5 :: .any :: .lp 18 0 :: .int .i64 i8::oV []),[some [.nils,.int .i64 (0:Int)],none,some [.rs iw 0 gE.length 4,.int .i64 my],none],h18⟩∧Has h18 ((iw,.sl gE.length 4 (af.l gE))::(fP,.sl bW.length 4 (gR.l (cj bW gh)))::(jT,.sl cy.length 1 (aa.l cy))::(iP bW gh++L))) (fun out e s=>(e = .exit 12∧∃i8 gE my,(i8,gE,my)=out∧∃AJ tF AW KS NS iw h18,s=⟨.any :: .any :: .lp 4 0 :: .any::AJ::tF::rf (AW :: .any :: .lp 18 0::KS::D0 [NS,.any]),[some [.nils,.int .i64 (0:Int)],none,some [.rs iw 0 gE.length 4,.int .i64 my],none],h18⟩∧Has h18 ((iw,.sl gE.length 4 (af.l gE))::(fP,.sl bW.length 4 (gR.l (cj bW gh)))::(jT,.sl cy.length 1 (aa.l cy))::(iP bW gh++L)))):=by
 refine gS (fun _=>rfl) ?_
 rintro k ⟨i8,gE,my⟩ s out ⟨iw,h18,rfl,xh⟩ H
 have H:ai.l6 m bW x5 cy (k+1) i8 gE my=some out:=H
 refine qq <| qq <| q0 <| qc H (fun c6 H=>?_) (fun c6 H=>?_)
 ·refine qk <| qq <| qb 13 <| qq ?_
  obtain⟨zP,KB,H⟩:=aJ H
  obtain⟨mZ,Hg,H⟩:=aJ H
  refine qr [.v 3 (bo (k:=.i64) (E:=aa) (l:=x5) dC KB),.v 4 (cY  (E:=aa) (l:=x5) h18 A3 KB rfl),.v 5 (aH (k:=.i64) (E:=gR) (l:=(cj bW gh)) (q:=1) kT xh rfl (ke Hg)),.v 6 (HK  (E:=gR) (l:=(cj bW gh)) (q:=1) xh rfl ri rj (ke Hg))] <| qq <| q0 ?_
  have FO:Has h18 ((((((0)))),.sl (([]:List Int).length) 1 (aa.l ([]:List Int)))::(iw,.sl gE.length 4 (af.l gE))::(fP,.sl bW.length 4 (gR.l (cj bW gh)))::(jT,.sl cy.length 1 (aa.l cy))::(iP bW gh++L)):=Has.nil xh 1
  refine qq <| qq <| q0 <| qb 14 ?_
  obtain⟨FJ,KD,H⟩:=aJ H
  refine ql (ai.NQ L fP bW fP gh x5 jT cy jT iw i8 gE my iw zP mZ Hg   (([]:List Int),(0:Int)) _ _ ⟨((((0)))),h18,by kernel_rfl,FO⟩ KD) ?_
  rintro e s ⟨rfl,zo,k5,rfl,g15,g16,qF,h21,rfl,Nk⟩
  try dsimp only at H
  refine qq ?_
  obtain⟨h22,LD,mW⟩:=iW (E:=aa) (l:=zo) (q:=0) Nk rfl
  refine zN [.a 0 LD] [] ?_
  obtain⟨x7,Nj,H⟩:=aJ H
  obtain⟨KQ,h23,H9,I8⟩:=fY (P:=Tryd.prog) (E:=af) (l:=gE) (q:=0) (t2:=29) (x:=.fz [.int .i64 mZ.kind,.int .i64 mZ.int,.str mZ.label,aa.fz zo] 1 true) (l2:=([(ae.mk mZ.kind mZ.int mZ.label zo)])) kT mW rfl (by kernel_rfl) rfl Nj
  exact qr [.a 4 H9] <| q0 <| ⟨(i64.wrap (i8+(1:Int)),x7,my),⟨KQ,h23,by kernel_rfl,I8⟩,H⟩
 ·exact qx 12 <| ⟨rfl,i8,gE,my,oi H,.rs jT 0 cy.length 1,.rs fP 0 bW.length 4,aa.fz x5,.int .i64 i8,.bool (decide (i8<(x5.length:Int))),iw,h18,by kernel_rfl,xh⟩
theorem qK {aS:FuncId→cg}(ha:aS 57=lG)(NT:Tt cf m)(Rc:Te cf m)(l0:List ae)(gG:Int)(h:AHeap)(L:Mem)  (o:Has h (L)){out:an}(H:ai.f m l0 gG=some out) :
  ∃r h',a7 Tryd.prog aS cf m 57 [af.fz l0,.int .i64 gG] h=some (r,h')∧wQ h' r (.agg [af.fz out.nodes,.int .i64 out.root]):=by
 refine ak (fn:=Tryd.f57) ha Tryd.func57 (by kernel_rfl) (by kernel_rfl) ?_
 refine aF (Q:=fun s=>ai.fin L out s) (fun _ _ h=>h) ?_
 have H:_=some out:=H
 unfold ai.f at H
 show de _ cf lG m _ ⟨af.fz l0 :: .int .i64 gG::MF [],[none,none,none,none],h⟩ _
 refine q1 <| qq ?_
 obtain⟨x0,e0,H⟩:=aJ H
 refine qr [.a 2 (NT _ _ _ e0 h _ (ga (ab (bS (E:=af)) (ab (aE) (ax)))))] <| qq ?_
 obtain⟨x1,e1,H⟩:=aJ H
 obtain⟨aB,h0,e2,o0⟩:=nM (P:=Tryd.prog) (E:=aa) (z:=(0:Int)) (zv:=.int .i64 (0:Int)) dC o 3 rfl rfl rfl rfl e1
 refine qr [.a 2 e2] <| qq <| q0 ?_
 have o1:Has h0 (((0),.sl (([]:List ae).length) 4 (gR.l (cj ([]:List ae) ([]:List Nat))))::(aB,.sl x1.length 1 (aa.l x1))::(iP ([]:List ae) ([]:List Nat)++L)):=Has.nil o0 4
 refine qq <| qq <| q0 <| qb 0 ?_
 obtain⟨bq,e6,H⟩:=aJ H
 refine ql (ai.bG L l0 x0   (x1,(0:Int)) _ _ ⟨aB,h0,by kernel_rfl,o1⟩ e6) ?_
 rintro e s ⟨rfl,be,i1,rfl,g0,g1,dj,h3,rfl,o4⟩
 try dsimp only at H
 refine qq <| qq <| q0 <| qb 2 ?_
 obtain⟨jm,xM,H⟩:=aJ H
 refine ql (ai.fu L l0 x0 dj be dj   (([]:List ae),(0:Int)) _ _ ⟨(0),([]:List Nat),h3,by kernel_rfl,o4⟩ xM) ?_
 rintro e s ⟨rfl,um,i3,rfl,g4,g5,g6,g7,kO,KY,h9,rfl,vB⟩
 try dsimp only at H
 refine qq ?_
 obtain⟨x4,w9,H⟩:=aJ H
 refine qr [.a 1 (Rc _ _ w9 h9 _ (ga (ab (Fe (pre:=[(kO,.sl um.length 4 (gR.l (cj um KY))),(dj,.sl be.length 1 (aa.l be))]) (ns:=um) (ids:=KY) (q:=0) vB rfl) (ax))))] <| qq <| qq <| q0 <| qb 6 ?_
 obtain⟨cP,FA,H⟩:=aJ H
 refine ql (ai.tL L dj be dj x4   (um,(0:Int)) _ _ ⟨kO,KY,h9,by kernel_rfl,vB⟩ FA) ?_
 rintro e s ⟨rfl,bW,i5,rfl,g10,g11,g12,fP,gh,h14,rfl,lQ⟩
 try dsimp only at H
 refine qq ?_
 obtain⟨x5,He,H⟩:=aJ H
 refine qr [.a 1 (NT _ _ _ He h14 _ (ga (ab (Fe (pre:=[(fP,.sl bW.length 4 (gR.l (cj bW gh))),(dj,.sl be.length 1 (aa.l be))]) (ns:=bW) (ids:=gh) (q:=0) lQ rfl) (ab (aE) (ax)))))] <| qq <| qq <| q0 <| qb 10 ?_
 obtain⟨yW,H6,H⟩:=aJ H
 refine ql (ai.Gw L fP bW fP gh x5   (be,(0:Int)) _ _ ⟨dj,h14,by kernel_rfl,lQ⟩ H6) ?_
 rintro e s ⟨rfl,cy,i7,rfl,g13,g14,jT,h17,rfl,DB⟩
 try dsimp only at H
 refine q1 ?_
 have KC:Has h17 (((((0))),.sl (([]:List ae).length) 4 (af.l ([]:List ae)))::(fP,.sl bW.length 4 (gR.l (cj bW gh)))::(jT,.sl cy.length 1 (aa.l cy))::(iP bW gh++L)):=Has.nil DB 4
 refine qq <| qq <| q0 <| qb 12 ?_
 obtain⟨Jj,I6,H⟩:=aJ H
 refine ql (ai.Gv L fP bW fP gh x5 jT cy jT   ((0:Int),([]:List ae),(0:Int)) _ _ ⟨(((0))),h17,by kernel_rfl,KC⟩ I6) ?_
 rintro e s ⟨rfl,i9,Ix,GG,rfl,g17,g18,g19,g20,g21,hX,h24,rfl,Hh⟩
 try dsimp only at H
 refine qq ?_
 obtain⟨h25,I7,Nl⟩:=iW (E:=af) (l:=Ix) (q:=0) Hh rfl
 refine zN [.a 0 I7] [] ?_
 have Nn:Has h25 ((fP,.sl bW.length 4 (gR.l (cj bW gh)))::(iP bW gh++L)):=Has.del Nl 1
 have Ol:Has h25 (L):=Has.gone (pre:=[]) (Has.del Nn 0)
 obtain rfl:=oi H
 exact qt <| ⟨.inl rfl,vz (.agg [af.fz Ix,.int .i64 GG]) h25 (pK (bQ (ab (bS) (ab (aE) (ax)))))⟩
end
end Go.Proofs.YtmekcfdllhphlaaDoor
namespace Go.Proofs.YtmekcfdllhphlaaDoor
open Go Go.R
open Go.IntKind (i64 u64 u8 u32)
def Cs:cg:=gk [0,1,2,3,6] [1,2] [25,9,19,19] [] []
def fb.f (m:Nat)(t0:an):Option (an × Int):=(b8.f m t0).bind fun x0=>if (!x0)=true then (some ((an.mk ([]) (0:Int)),(2:Int))) else ((ai.f m t0.nodes t0.root).bind fun x1=>some (x1,(0:Int)))
def fb.fin (L:Mem)(r:an × Int)(s:St):Prop:=∃av,aI Tryd.prog (s.open Cs) Tryd.f37.results.toList=some av∧wQ s.h av (.tup [.agg [af.fz r.1.nodes,.int .i64 r.1.root],.int .i64 r.2])
def Rd (cf:CallF)(m:Nat):Prop:=∀(t0:an) (r:an × Int),fb.f m t0=some r→∀h xs,lD xs [.agg [af.fz t0.nodes,.int .i64 t0.root]]→cf 37 xs h=some (.tup [.agg [af.fz r.1.nodes,.int .i64 r.1.root],.int .i64 r.2],h)
section
variable {cf:CallF}{m:Nat}
theorem qL {aS:FuncId→cg}(ha:aS 37=Cs)(Re:TB cf m)(Rf:TC cf m)(t0:an)(h:AHeap)(L:Mem)  (o:Has h (L)){out:an × Int}(H:fb.f m t0=some out) :
  ∃r h',a7 Tryd.prog aS cf m 37 [.agg [af.fz t0.nodes,.int .i64 t0.root]] h=some (r,h')∧wQ h' r (.tup [.agg [af.fz out.1.nodes,.int .i64 out.1.root],.int .i64 out.2]):=by
 refine ak (fn:=Tryd.f37) ha Tryd.func37 (by kernel_rfl) (by kernel_rfl) ?_
 refine aF (Q:=fun s=>fb.fin L out s) (fun _ _ h=>h) ?_
 have H:_=some out:=H
 unfold fb.f at H
 show de _ cf Cs m _ ⟨.agg [af.fz t0.nodes,.int .i64 t0.root]::re [],[none,none],h⟩ _
 refine q1 <| qq <| qq ?_
 obtain⟨x0,e0,H⟩:=aJ H
 refine qr [.a 1 (Re _ _ e0 h _ (ga (ab (bQ (ab (bS (E:=af)) (ab (aE) (ax)))) (ax))))] <| qc H (fun c0 H=>?_) (fun c0 H=>?_)
 ·obtain rfl:=oi H
  exact q1 <| qt <| ⟨.inl rfl,vz (.tup [.agg [.nils,.int .i64 (0:Int)],.int .i64 (2:Int)]) h (pK (fZ (ab (bQ (ab (gN) (ab (aE) (ax)))) (ab (aE) (ax)))))⟩
 ·refine qk <| qq ?_
  obtain⟨x1,e1,H⟩:=aJ H
  obtain rfl:=oi H
  exact qr [.a 4 (Rf _ _ _ e1 h _ (b5 (gy (E:=af)) (b5 (bD) (fe))))] <| qt <| ⟨.inl rfl,vz (.tup [.agg [af.fz x1.nodes,.int .i64 x1.root],.int .i64 (0:Int)]) h (pK (fZ (ab (bQ (ab (bS) (ab (aE) (ax)))) (ab (aE) (ax)))))⟩
end
end Go.Proofs.YtmekcfdllhphlaaDoor
namespace Go.Proofs.YtmekcfdllhphlaaDoor
open Go Go.R
open Go.IntKind (i64 u64 u8 u32)
end Go.Proofs.YtmekcfdllhphlaaDoor
namespace Go.Proofs.YtmekcfdllhphlaaDoor
open Go Go.R
open Go.IntKind (i64 u64 u8 u32)
end Go.Proofs.YtmekcfdllhphlaaDoor
namespace Go.Proofs.YtmekcfdllhphlaaDoor
open Go Go.R
open Go.IntKind (i64 u64 u8 u32)
end Go.Proofs.YtmekcfdllhphlaaDoor
namespace Go.Proofs.YtmekcfdllhphlaaDoor
open Go Go.R
open Go.IntKind (i64 u64 u8 u32)
end Go.Proofs.YtmekcfdllhphlaaDoor
namespace Go.Proofs.YtmekcfdllhphlaaDoor
open Go Go.R
open Go.IntKind (i64 u64 u8 u32)
end Go.Proofs.YtmekcfdllhphlaaDoor
namespace Go.Proofs.YtmekcfdllhphlaaDoor
open Go Go.R
open Go.IntKind (i64 u64 u8 u32)
end Go.Proofs.YtmekcfdllhphlaaDoor
namespace Go.Proofs.YtmekcfdllhphlaaDoor
open Go Go.R
open Go.IntKind (i64 u64 u8 u32)
end Go.Proofs.YtmekcfdllhphlaaDoor
namespace Go.Proofs.YtmekcfdllhphlaaDoor
open Go Go.R
open Go.IntKind (i64 u64 u8 u32)
theorem xF {m:Nat}(c:Int):fa.f m c=some (gQ c):=by
 unfold fa.f
 by_cases h1:97≤c<;>by_cases h2:c≤122<;>by_cases h3:65≤c<;>by_cases h4:c≤90<;>by_cases h5:48≤c<;>by_cases h6:c≤57<;>simp [gQ,h1,h2,h3,h4,h5,h6]<;>omega
theorem zq {m:Nat}{s:ByteArray}(hs:s.size≤16):∀(f i:Nat),s.size - i<f→i≤s.size→
  ∃o,cw.l0 m s f (i:Int)=some o∧((∃x,o = .inr x)∧((s.data.toList.drop i).all fun c=>gQ (c.toNat:Int))=true∨o = .inl false∧((s.data.toList.drop i).all fun c=>gQ (c.toNat:Int))=false)
 | 0,i,hf,_=>absurd hf (by omega)
 | f+1,i,hf,hi=>by
  unfold cw.l0
  by_cases h:i<s.size
  ·obtain⟨c,hc,hb⟩:=sh h
   obtain⟨h4,h5⟩:=WU.1 hc
   have hd:s.data.toList.drop i=c::s.data.toList.drop (i+1):=by rw [←h5]; exact WZ h4
   rw [if_pos (by simp only [decide_eq_true_eq]; omega),hb,WL,xF,WL,hd,XK]
   cases hl:gQ (c.toNat:Int) with
   | false=>exact⟨_,rfl,.inr ⟨rfl,rfl⟩⟩
   | true=>
    obtain⟨o,h1,h2⟩:=zq (m:=m) hs f (i+1) (by omega) (by omega)
    rw [if_neg (by simp),aD (by omega) (by omega),show (i:Int)+1=((i+1:Nat):Int) by omega,h1]
    exact⟨o,rfl,by simpa using h2⟩
  ·refine⟨_,by rw [if_neg (by simp only [decide_eq_true_eq]; omega)],.inl ⟨⟨_,rfl⟩,?_⟩⟩
   rw [Xk (by simp; omega)]; rfl
def GH (s:ByteArray):Bool:=decide (1≤s.data.toList.length)&&decide (s.data.toList.length≤16)&&s.data.toList.all fun c=>gQ (c.toNat:Int)
theorem Be {m:Nat}(hm:20≤m)(s:ByteArray):cw.f m s=some (GH s):=by
 have hsz:s.size=s.data.toList.length:=by simp
 unfold cw.f GH
 by_cases h1:1≤s.data.toList.length
 ·by_cases h2:s.data.toList.length≤16
  ·obtain⟨o,k1,k2⟩:=zq (m:=m) (s:=s) (by omega) m 0 (by omega) (by omega)
   have k1:cw.l0 m s m 0=_:=k1
   rw [Xl] at k2
   rw [if_neg (by simp only [decide_eq_true_eq]; omega),if_neg (by simp only [decide_eq_true_eq]; omega),k1,WL,decide_eq_true h1,decide_eq_true h2]
   simp only [X2]
   rcases k2 with⟨⟨x,rfl⟩,k⟩| ⟨rfl,k⟩
   ·rw [k]
   ·rw [k]
  ·rw [if_neg (by simp only [decide_eq_true_eq]; omega),if_pos (by simp only [decide_eq_true_eq]; omega),decide_eq_false h2,Bool.and_false]; rfl
 ·rw [if_pos (by simp only [decide_eq_true_eq]; omega),decide_eq_false h1]; rfl
theorem rv {m:Nat}(hm:20≤m)(s:ByteArray):dZ.f m s=some (lE s):=by
 have hsz:s.size=s.data.toList.length:=by simp
 unfold dZ.f lE
 show (if (s.data.toList==[124])=true then _ else if (s.data.toList==[35])=true then _ else _)=_
 cases h1:s.data.toList==[124] with
 | true=>rfl
 | false=>
  cases h2:s.data.toList==[35] with
  | true=>rfl
  | false=>
   simp only [W4,if_false,Bool.false_or]
   rw [Be hm,WL]
   unfold GH yP
   cases hl:s.data.toList with
   | nil=>rfl
   | cons c cs=>
    obtain⟨c',g1,g2⟩:=sh (s:=s) (i:=0) (by rw [hsz,hl]; simp)
    rw [hl] at g1
    simp only [Xv,WO] at g1
    subst g1
    have g2:bt s 0=_:=g2
    rw [g2]
    simp only [WL,W9]
    cases ha:(c::cs).all fun c=>gQ (c.toNat:Int) with
    | false=>simp
    | true=>
     by_cases h3:cs.length≤15
     ·rw [decide_eq_true (show 1≤cs.length+1 by omega),decide_eq_true (show cs.length+1≤16 by omega),decide_eq_true h3]
      simp only [Bool.and_self,if_true,Bool.and_true,X2]
      by_cases h4:(97:Int)≤(c.toNat:Int)
      ·rw [if_pos (by simpa using h4),decide_eq_true h4]; rfl
      ·rw [if_neg (by simpa using h4),decide_eq_false h4]; rfl
     ·rw [decide_eq_false (show ¬cs.length+1≤16 by omega),decide_eq_false h3]; simp
theorem zr {m:Nat}{n:ae}{size:Int}(h8:n.args.length≤8):∀(f i:Nat),n.args.length - i<f→i≤n.args.length→
  ∃o,b7.l0 m n size f (i:Int)=some o∧((∃x,o = .inr x)∧((n.args.drop i).all fun a=>decide (0≤a)&&decide (a<size))=true∨o = .inl false∧((n.args.drop i).all fun a=>decide (0≤a)&&decide (a<size))=false)
 | 0,i,hf,_=>absurd hf (by omega)
 | f+1,i,hf,hi=>by
  unfold b7.l0
  by_cases h:i<n.args.length
  ·have hd:n.args.drop i=gt n.args i::n.args.drop (i+1):=by
    obtain⟨h4,h5⟩:=WU.1 (bw h)
    rw [←h5]; exact WZ h4
   rw [if_pos (by simp only [decide_eq_true_eq]; omega),cC h,WL,hd,XK,WL]
   by_cases h1:gt n.args i<0
   ·rw [if_pos (by simpa using h1),decide_eq_false (show ¬0≤gt n.args i by omega)]
    exact⟨_,rfl,.inr ⟨rfl,rfl⟩⟩
   ·rw [if_neg (by simpa using h1),decide_eq_true (show 0≤gt n.args i by omega)]
    by_cases h2:gt n.args i<size
    ·obtain⟨o,k1,k2⟩:=zr (m:=m) (size:=size) h8 f (i+1) (by omega) (by omega)
     rw [if_neg (by simp only [decide_eq_true_eq]; omega),decide_eq_true h2,aD (by omega) (by omega),show (i:Int)+1=((i+1:Nat):Int) by omega,k1]
     exact⟨o,rfl,by simpa using k2⟩
    ·rw [if_pos (by simp only [decide_eq_true_eq]; omega),decide_eq_false h2]
     exact⟨_,rfl,.inr ⟨rfl,rfl⟩⟩
  ·refine⟨_,by rw [if_neg (by simp only [decide_eq_true_eq]; omega)],.inl ⟨⟨_,rfl⟩,?_⟩⟩
   rw [Xk (by omega)]; rfl
theorem Bf {m:Nat}(hm:20≤m)(n:ae)(size:Int):b7.f m n size=some (kg n size):=by
 unfold b7.f kg
 by_cases k0:n.kind=0
 ·rw [if_pos (by simpa using k0),if_pos k0]
  by_cases h1:0≤n.int
  ·rw [if_pos (by simpa using h1),show decide (0≤n.int)=true by simpa using h1]
   show (if (n.label.data.toList==[])=true then _ else _)=_
   cases n.label.data.toList==[] with
   | true=>rw [if_pos rfl,yR]; rfl
   | false=>rfl
  ·rw [if_neg (by simpa using h1),show decide (0≤n.int)=false by simp; omega]; rfl
 rw [if_neg (by simpa using k0),if_neg k0]
 by_cases k1:n.kind=1
 ·rw [if_pos (by simpa using k1),if_pos k1]
  by_cases h1 : -1099511627776≤n.int
  ·rw [if_pos (by simpa using h1),show decide (-1099511627776≤n.int)=true by simpa using h1]
   by_cases h3:n.int≤1099511627776
   ·rw [if_pos (by simpa using h3),show decide (n.int≤1099511627776)=true by simpa using h3]
    show (if (n.label.data.toList==[])=true then _ else _)=_
    cases n.label.data.toList==[] with
    | true=>rw [if_pos rfl,yR]; rfl
    | false=>rfl
   ·rw [if_neg (by simpa using h3),show decide (n.int≤1099511627776)=false by simp; omega]; rfl
  ·rw [if_neg (by simpa using h1),show decide (-1099511627776≤n.int)=false by simp; omega]; rfl
 rw [if_neg (by simpa using k1),if_neg k1]
 by_cases k2:n.kind=2
 ·rw [if_pos (by simpa using k2),if_pos k2,rv hm,WL]
  cases lE n.label with
  | false=>simp
  | true=>
   rw [if_pos rfl]
   cases h1:n.int==0 with
   | false=>rfl
   | true=>rw [if_pos rfl,yR]; rfl
 rw [if_neg (by simpa using k2),if_neg k2]
 by_cases k4:n.kind=4
 ·rw [if_pos (by simpa using k4),if_neg (show ¬n.kind=3 by omega),if_pos k4]
  unfold yQ
  show (if (n.label.data.toList==[112,114,111,99])=true then _ else if (n.label.data.toList==[99,101,108,108])=true then _ else if (n.label.data.toList==[112,111,114,116])=true then _ else _)=_
  by_cases h1:0≤n.int
  ·have d1:decide (n.int≥0)=true:=decide_eq_true h1
   rw [d1]
   cases n.label.data.toList==[112,114,111,99]<;>cases n.label.data.toList==[99,101,108,108]<;>cases n.label.data.toList==[112,111,114,116]<;>first | rfl | (show some ((n.args.length:Int)==(0:Int))=_; rw [yR]; rfl)
  ·have d1:decide (n.int≥0)=false:=decide_eq_false h1
   rw [d1]
   cases n.label.data.toList==[112,114,111,99]<;>cases n.label.data.toList==[99,101,108,108]<;>cases n.label.data.toList==[112,111,114,116]<;>rfl
 rw [if_neg (by simpa using k4)]
 by_cases k3:n.kind=3
 ·rw [if_pos (by simpa using k3),if_pos k3,rv hm,WL]
  cases lE n.label with
  | false=>simp
  | true=>
   cases h1:n.int==0 with
   | false=>rfl
   | true=>
    simp only [Bool.not_true,W4,if_false,Bool.and_self,X2]
    by_cases g1:1≤n.args.length
    ·rw [if_neg (by simp only [decide_eq_true_eq]; omega),decide_eq_true g1]
     by_cases g2:n.args.length≤8
     ·obtain⟨o,k1,k2⟩:=zr (m:=m) (size:=size) g2 m 0 (by omega) (by omega)
      have k1:b7.l0 m n size m 0=_:=k1
      rw [Xl] at k2
      rw [if_neg (by simp only [decide_eq_true_eq]; omega),decide_eq_true g2,k1,WL]
      simp only [X2]
      rcases k2 with⟨⟨x,rfl⟩,k⟩| ⟨rfl,k⟩
      ·rw [k]
      ·rw [k]
     ·rw [if_pos (by simp only [decide_eq_true_eq]; omega),decide_eq_false g2]; simp
    ·rw [if_pos (by simp only [decide_eq_true_eq]; omega),decide_eq_false g1]; simp
 rw [if_neg (by simpa using k3),if_neg k3,if_neg k4]
theorem vP {m:Nat}(hm:20≤m){t:an}(hl:t.nodes.length≤8000):∀(f i:Nat),t.nodes.length - i<f→i≤t.nodes.length→
  ∃o,b8.l0 m t f (i:Int)=some o∧((∃x,o = .inr x)∧((t.nodes.drop i).all fun n=>kg n t.nodes.length)=true∨o = .inl false∧((t.nodes.drop i).all fun n=>kg n t.nodes.length)=false)
 | 0,i,hf,_=>absurd hf (by omega)
 | f+1,i,hf,hi=>by
  unfold b8.l0
  by_cases h:i<t.nodes.length
  ·have hx:ix t.nodes (i:Int)=some t.nodes[i]:=by unfold ix; rw [if_pos (by omega)]; simp [h]
   rw [if_pos (by simp only [decide_eq_true_eq]; omega),hx,WL,Bf hm,WL,WZ h,XK]
   cases hb:kg t.nodes[i] t.nodes.length with
   | false=>exact⟨_,rfl,.inr ⟨rfl,rfl⟩⟩
   | true=>
    obtain⟨o,k1,k2⟩:=vP (m:=m) hm hl f (i+1) (by omega) (by omega)
    rw [if_neg (by simp),aD (by omega) (by omega),show (i:Int)+1=((i+1:Nat):Int) by omega,k1]
    exact⟨o,rfl,by simpa using k2⟩
  ·refine⟨_,by rw [if_neg (by simp only [decide_eq_true_eq]; omega)],.inl ⟨⟨_,rfl⟩,?_⟩⟩
   rw [Xk (by omega)]; rfl
theorem zt {m:Nat}(hm:2 ^ 30≤m)(t:an):b8.f m t=some (dQ t):=by
 have lR:(2:Nat) ^ 30=1073741824:=by decide
 unfold b8.f dQ
 by_cases h1:1≤t.nodes.length
 ·rw [if_neg (by simp only [decide_eq_true_eq]; omega),decide_eq_true h1]
  by_cases h2:t.nodes.length≤8000
  ·rw [if_neg (by simp only [decide_eq_true_eq]; omega),decide_eq_true h2]
   by_cases h3:0≤t.root
   ·rw [if_neg (by simp only [decide_eq_true_eq]; omega),decide_eq_true h3]
    by_cases h4:t.root<t.nodes.length
    ·rw [if_neg (by simp only [decide_eq_true_eq]; omega),decide_eq_true h4]
     obtain⟨o,k1,k2⟩:=vP (m:=m) (t:=t) (by omega) h2 m 0 (by omega) (by omega)
     have k1:b8.l0 m t m 0=_:=k1
     rw [Xl] at k2
     rw [k1,WL]
     simp only [X2]
     rcases k2 with⟨⟨x,rfl⟩,k⟩| ⟨rfl,k⟩
     ·rw [k]
     ·rw [k]
    ·rw [if_pos (by simp only [decide_eq_true_eq]; omega),decide_eq_false h4]; rfl
   ·rw [if_pos (by simp only [decide_eq_true_eq]; omega),decide_eq_false h3]; rfl
  ·rw [if_pos (by simp only [decide_eq_true_eq]; omega),decide_eq_false h2]; rfl
 ·rw [if_pos (by simp only [decide_eq_true_eq]; omega),decide_eq_false h1]; rfl
end Go.Proofs.YtmekcfdllhphlaaDoor
namespace Go.Proofs.YtmekcfdllhphlaaDoor
open Go Go.R
open Go.IntKind (i64 u64 u8 u32)
theorem ru.refl {l:List ae}{c:List Int}(i:Nat):ru l c i i:=⟨Alike.refl _,fun _ _=>rfl⟩
theorem ru.symm {l:List ae}{c:List Int}{i j:Nat}(h:ru l c i j):ru l c j i:=⟨h.1.symm,fun k hk=>(h.2 k (by have:=h.1.len; unfold na at *; omega)).symm⟩
theorem ru.trans {l:List ae}{c:List Int}{i j q:Nat}(h:ru l c i j)(g:ru l c j q):ru l c i q:=
 ⟨h.1.trans g.1,fun k hk=>(h.2 k hk).trans (g.2 k (by have:=h.1.len; unfold na at *; omega))⟩
theorem DH.symm {l:List ae}{R:Nat→Nat→Prop}(B:DH l R):DH l fun i j=>R j i:=
 ⟨fun i j h=>(B.nu j i h).symm,fun i j h=>(B.top j i h).symm,fun i j h k hk=>B.arg j i h k (by have:=(B.top j i h).len; omega)⟩
structure Hl (l:List ae)(cls:List Int)(dn:List Bool)(fs od:List Int):Prop where
 lc:cls.length=l.length
 ld:dn.length=l.length
 Rg:od.Nodup
 KZ:∀x∈od,0≤x∧x<l.length
 Hm:∀i,i<l.length→(gb dn i=true↔(i:Int)∈od)
 uW:∀i:Nat,(i:Int)∈od→∀k,k<na l i→((ar l i k:Nat):Int)∈od∧od.idxOf ((ar l i k:Nat):Int)<od.idxOf (i:Int)
 OA:fs.Nodup
 fst:∀f∈fs,f∈od∧gt cls f.toNat=f
 pM:∀i:Nat,(i:Int)∈od→gt cls i∈fs∧ru l cls i (gt cls i).toNat
 apart:∀f∈fs,∀g∈fs,ru l cls f.toNat g.toNat→f=g
 coarse:∀R,DH l R→∀i j:Nat,R i j→(i:Int)∈od→(j:Int)∈od→gt cls i=gt cls j
theorem Cu {od:List Int}{n:Nat}(h:od.Nodup)(hr:∀x∈od,0≤x∧x<n):od.length≤n:=by
 have:=h.length_le_of_subset (l₂:=ints n) (fun x hx=>iI.2 (hr x hx))
 rwa [dK] at this
theorem Hl.Rh {l cls dn fs od}(P:Hl l cls dn fs od):∀f∈fs,0≤f∧f<l.length:=fun f hf=>P.KZ f (P.fst f hf).1
theorem GI {l:List ae}{cls:List Int}{dn:List Bool}{fs od:List Int}(ok:kP l)(P:Hl l cls dn fs od){i:Nat}(hi:i<l.length)(hn:(i:Int)∉od)(hr:Ts l dn i){v:Int}
  (hv:v=i∧(∀f∈fs,¬ru l cls i f.toNat)∨v∈fs∧ru l cls i v.toNat) :
  Hl l (cls.set i v) (dn.set i true) (if v=i then fs++[(i:Int)] else fs) (od++[(i:Int)]):=by
 have TD:(i:Int)∉fs:=fun h=>hn (P.fst _ h).1
 have LK:v∈fs→v≠i:=fun h e=>TD (e ▸ h)
 have gc:∀x,x≠i→gt (cls.set i v) x=gt cls x:=fun x hx=>by rw [ez (by rw [P.lc]; exact hi),if_neg hx]
 have gi:gt (cls.set i v) i=v:=by rw [ez (by rw [P.lc]; exact hi),if_pos rfl]
 have ne:∀{x:Nat},(x:Int)∈od→x≠i:=fun h e=>hn (by rw [←e]; exact h)
 have ad:∀x:Nat,((x:Int)∈od∨x=i)→∀k,k<na l x→((ar l x k:Nat):Int)∈od:=fun x hx k hk=>by
  rcases hx with hx | rfl
  ·exact (P.uW x hx k hk).1
  ·exact (P.Hm _ (kh ok hi hk).1).1 (hr k hk)
 have sm:∀x y:Nat,((x:Int)∈od∨x=i)→((y:Int)∈od∨y=i)→(ru l (cls.set i v) x y↔ru l cls x y):=fun x y hx hy=>by
  constructor
  ·rintro⟨a,b⟩
   refine⟨a,fun k hk=>?_⟩
   have:=b k hk
   rwa [gc _ (ne (ad x hx k hk)),gc _ (ne (ad y hy k (by have:=a.len; unfold na at *; omega)))] at this
  ·rintro⟨a,b⟩
   refine⟨a,fun k hk=>?_⟩
   rw [gc _ (ne (ad x hx k hk)),gc _ (ne (ad y hy k (by have:=a.len; unfold na at *; omega)))]
   exact b k hk
 have fo:∀f∈fs,((f.toNat:Nat):Int)∈od∧((f.toNat:Nat):Int)=f:=fun f hf=>by
  have h:=P.fst f hf
  have r:=P.KZ f h.1
  have e:((f.toNat:Nat):Int)=f:=by omega
  exact⟨by rw [e]; exact h.1,e⟩
 have split:∀{x:Int},x∈od++[(i:Int)]→x∈od∨x=i:=fun h=>by
  rcases W5.1 h with h | h
  ·exact .inl h
  ·exact .inr (WY.1 h)
 have one:∀R,DH l R→∀j:Nat,R i j→(j:Int)∈od→v=gt cls j:=fun R B j hR hj=>by
  obtain⟨g1,g2⟩:=P.pM j hj
  have s1:ru l cls i j:=⟨B.top i j hR,fun k hk=>P.coarse R B _ _ (B.arg i j hR k hk) (ad i (.inr rfl) k hk) (ad j (.inl hj) k (by have:=(B.top i j hR).len; unfold na at *; omega))⟩
  rcases hv with⟨rfl,h⟩| ⟨h1,h2⟩
  ·exact absurd (s1.trans g2) (h _ g1)
  ·exact P.apart v h1 _ g1 (h2.symm.trans (s1.trans g2))
 refine⟨by simpa using P.lc,by simpa using P.ld,?_,?_,fun x hx=>?_,fun x hx k hk=>?_,?_,fun f hf=>?_,fun x hx=>?_,fun f hf g hg hs=>?_,fun R B x y hR hx hy=>?_⟩
 ·rw [X0]
  refine⟨P.Rg,by simp,fun a ha b hb=>?_⟩
  rw [WY] at hb
  subst hb; intro e; subst e; exact hn ha
 ·intro x hx
  rcases split hx with h | h
  ·exact P.KZ x h
  ·omega
 ·rw [Gy (by rw [P.ld]; exact hi),W5,WY]
  by_cases e:x=i
  ·subst e; simp
  ·rw [if_neg e,P.Hm x hx]
   constructor
   ·exact fun h=>.inl h
   ·rintro (h | h)
    ·exact h
    ·omega
 ·rcases split hx with h | h
  ·obtain⟨r1,r2⟩:=P.uW x h k hk
   refine⟨Xw _ r1,?_⟩
   rw [XZ,if_pos r1,XZ,if_pos h]; exact r2
  ·have e:x=i:=by omega
   subst e
   have r1:=ad x (.inr rfl) k hk
   refine⟨Xw _ r1,?_⟩
   rw [XZ,if_pos r1,XZ,if_neg hn]
   have:=XP r1
   omega
 ·split
  ·rw [X0]
   refine⟨P.OA,by simp,fun a ha b hb=>?_⟩
   rw [WY] at hb
   subst hb; intro e; subst e; exact TD ha
  ·exact P.OA
 ·have Mg:f∈fs∨(f=i∧v=i):=by
   split at hf
   ·rcases W5.1 hf with h | h
    ·exact .inl h
    ·exact .inr ⟨WY.1 h,by assumption⟩
   ·exact .inl hf
  rcases Mg with h | ⟨rfl,h2⟩
  ·obtain⟨a,b⟩:=P.fst f h
   refine⟨Xw _ a,?_⟩
   rw [gc _ (by have:=(fo f h).1; exact ne this)]; exact b
  ·refine⟨by simp,?_⟩
   rw [WT,gi]; exact h2
 ·have TE:∀z∈fs,z∈(if v=(i:Int) then fs++[(i:Int)] else fs):=fun z hz=>by
   split
   ·exact Xw _ hz
   ·exact hz
  rcases split hx with h | h
  ·obtain⟨a,b⟩:=P.pM x h
   rw [gc x (ne h)]
   exact⟨TE _ a,(sm x _ (.inl h) (.inl (fo _ a).1)).2 b⟩
  ·have e:x=i:=by omega
   subst e
   rw [gi]
   rcases hv with⟨rfl,_⟩| ⟨h1,h2⟩
   ·rw [if_pos rfl,WT]
    exact⟨by simp,ru.refl _⟩
   ·exact⟨TE _ h1,(sm x _ (.inr rfl) (.inl (fo _ h1).1)).2 h2⟩
 ·have cs:∀z,z∈(if v=(i:Int) then fs++[(i:Int)] else fs)→z∈fs∨(z=i∧v=i):=fun z hz=>by
   split at hz
   ·rcases W5.1 hz with h | h
    ·exact .inl h
    ·exact .inr ⟨WY.1 h,by assumption⟩
   ·exact .inl hz
  have TF:v=i→∀f∈fs,¬ru l cls i f.toNat:=fun e f hf=>by
   rcases hv with⟨_,h⟩| ⟨h,_⟩
   ·exact h f hf
   ·exact absurd e (LK h)
  rcases cs f hf with h1 | ⟨rfl,e1⟩
  ·rcases cs g hg with h2 | ⟨rfl,e2⟩
   ·exact P.apart f h1 g h2 ((sm _ _ (.inl (fo f h1).1) (.inl (fo g h2).1)).1 hs)
   ·rw [WT] at hs
    have:=(sm _ _ (.inl (fo f h1).1) (.inr rfl)).1 hs
    exact absurd this.symm (TF e2 f h1)
  ·rcases cs g hg with h2 | ⟨rfl,e2⟩
   ·rw [WT] at hs
    have:=(sm _ _ (.inr rfl) (.inl (fo g h2).1)).1 hs
    exact absurd this (TF e1 g h2)
   ·rfl
 ·rcases split hx with h1 | h1
  ·rcases split hy with h2 | h2
   ·rw [gc x (ne h1),gc y (ne h2)]; exact P.coarse R B x y hR h1 h2
   ·have e:y=i:=by omega
    subst e
    rw [gc x (ne h1),gi]
    exact (one _ B.symm x hR h1).symm
  ·have e:x=i:=by omega
   subst e
   rcases split hy with h2 | h2
   ·rw [gc y (ne h2),gi]; exact one R B y hR h2
   ·have e:y=x:=by omega
    subst e; rfl
theorem xG {m:Nat}(hm:2 ^ 30≤m){l:List ae}(ok:kP l):∀(f i:Nat) (cls:List Int) (dn:List Bool) (fs od:List Int) (more:Bool),i<f→i≤l.length→Hl l cls dn fs od→
  ∃ju zu zw ir x uA,ah.l1 m l f cls dn fs more ((i:Int) - 1)=some (ju,zu,zw,ir,x)∧Hl l ju zu zw uA∧od.length≤uA.length∧
   (ir=true→more=true∨od.length<uA.length)∧(ir=false→more=false∧uA=od∧∀j,j<i→(j:Int)∉od→∃k,k<na l j∧((ar l j k:Nat):Int)∉od)
 | 0,i,_,_,_,_,_,hf,_,_=>absurd hf (by omega)
 | f+1,0,cls,dn,fs,od,more,hf,hi,P=>by
  unfold ah.l1
  rw [if_neg (by simp)]
  exact⟨cls,dn,fs,more,_,od,rfl,P,WQ _,fun h=>.inl h,fun h=>⟨h,rfl,fun j hj=>absurd hj (by omega)⟩⟩
 | f+1,i+1,cls,dn,fs,od,more,hf,hi,P=>by
  have lR:(2:Nat) ^ 30=1073741824:=by decide
  have h8:=ok.1
  have An:i<l.length:=by omega
  unfold ah.l1
  have ei:((i+1:Nat):Int) - 1=(i:Int):=by omega
  have ew:i64.wrap ((i:Int) - 1)=(i:Int) - 1:=aD (by omega) (by omega)
  have hgb:ix dn (i:Int)=some (gb dn i):=by
   have:=Cn (l:=dn) (i:=(i:Int)) (by omega) (by rw [WT,P.ld]; exact An)
   rwa [WT] at this
  rw [ei,ew,if_pos (by simp),hgb,WL]
  cases hd:gb dn i with
  | true=>
   rw [if_pos rfl]
   obtain⟨ju,zu,zw,ir,x,uA,k1,k2,k3,k4,k5⟩:=xG hm ok f i cls dn fs od more (by omega) (by omega) P
   refine⟨ju,zu,zw,ir,x,uA,k1,k2,k3,k4,fun h=>?_⟩
   obtain⟨q1,q2,q3⟩:=k5 h
   refine⟨q1,q2,fun j hj hn=>?_⟩
   by_cases e:j=i
   ·subst e; exact absurd ((P.Hm j An).1 hd) hn
   ·exact q3 j (by omega) hn
  | false=>
   have AN:(i:Int)∉od:=fun h=>by rw [(P.Hm i An).2 h] at hd; cases hd
   obtain⟨xr,r1,r2,r3⟩:=GA hm ok P.ld An
   rw [if_neg (by simp),hU (by omega) (by omega),WL,r1,WL]
   cases xr with
   | false=>
    rw [if_pos (by simp)]
    obtain⟨ju,zu,zw,ir,x,uA,k1,k2,k3,k4,k5⟩:=xG hm ok f i cls dn fs od more (by omega) (by omega) P
    refine⟨ju,zu,zw,ir,x,uA,k1,k2,k3,k4,fun h=>?_⟩
    obtain⟨q1,q2,q3⟩:=k5 h
    refine⟨q1,q2,fun j hj hn=>?_⟩
    by_cases e:j=i
    ·subst e
     obtain⟨k,g1,g2⟩:=r3 rfl
     exact⟨k,g1,fun h=>by rw [(P.Hm _ (kh ok An g1).1).2 h] at g2; cases g2⟩
    ·exact q3 j (by omega) hn
   | true=>
    have J5:fs.length≤8000:=Xz (Cu P.OA P.Rh) h8
    obtain⟨v,f1,f2⟩:=find_spec hm ok P.lc An P.Rh J5
    have P':=GI ok P An AN (r2 rfl) f2
    have hlen:(od++[(i:Int)]).length=od.length+1:=by simp
    have e2:ix cls (i:Int)=some (gt cls i):=cC (by rw [P.lc]; exact An)
    have e3:ix (cls.set i v) (i:Int)=some v:=by
     rw [cC (by simpa using (by rw [P.lc]; exact An)),ez (by rw [P.lc]; exact An),if_pos rfl]
    have rest:∀OB,Hl l (cls.set i v) (dn.set i true) OB (od++[(i:Int)])→∃ju zu zw ir x uA,ah.l1 m l f (cls.set i v) (dn.set i true) OB true ((i:Int) - 1)=some (ju,zu,zw,ir,x)∧Hl l ju zu zw uA∧od.length≤uA.length∧
      (ir=true→more=true∨od.length<uA.length)∧(ir=false→more=false∧uA=od∧∀j,j<i+1→(j:Int)∉od→∃k,k<na l j∧((ar l j k:Nat):Int)∉od):=fun OB P2=>by
     obtain⟨ju,zu,zw,ir,x,uA,k1,k2,k3,k4,k5⟩:=xG hm ok f i _ _ OB _ true (by omega) (by omega) P2
     exact⟨ju,zu,zw,ir,x,uA,k1,k2,by omega,fun _=>.inr (by omega),fun h=>absurd (k5 h).1 (by simp)⟩
    rw [if_neg (by simp),f1,WL,e2,WL,WT,e3,WL]
    by_cases LK:v=i
    ·have lP:app 8 fs [(i:Int)]=some (fs++[(i:Int)]):=by unfold app; rw [if_pos (by simp; omega)]
     rw [if_pos (by simpa using LK),lP,WL,WL]
     rw [if_pos LK] at P'
     exact rest _ P'
    ·rw [if_neg (by simpa using LK),WL]
     rw [if_neg LK] at P'
     exact rest _ P'
theorem GJ {m:Nat}(hm:2 ^ 30≤m){l:List ae}(ok:kP l):∀(f:Nat) (cls:List Int) (dn:List Bool) (fs od:List Int),l.length - od.length+1<f→Hl l cls dn fs od→
  ∃ju zu zw uA,ah.l0 m l f cls dn fs true=some (ju,zu,zw,false)∧Hl l ju zu zw uA∧∀j,j<l.length→(j:Int)∉uA→∃k,k<na l j∧((ar l j k:Nat):Int)∉uA
 | 0,_,_,_,_,hf,_=>absurd hf (by omega)
 | f+1,cls,dn,fs,od,hf,P=>by
  have lR:(2:Nat) ^ 30=1073741824:=by decide
  have h8:=ok.1
  unfold ah.l0
  obtain⟨ju,zu,zw,ir,x,uA,k1,k2,k3,k4,k5⟩:=xG hm ok m l.length cls dn fs od false (by omega) (WQ _) P
  have ew:i64.wrap ((l.length:Int) - 1)=(l.length:Int) - 1:=aD (by omega) (by omega)
  rw [if_pos rfl,ew,k1,WL]
  dsimp only
  have AQ:=Cu k2.Rg k2.KZ
  cases ir with
  | true=>
   rcases k4 rfl with h | h
   ·cases h
   ·exact GJ hm ok f ju zu zw uA (by omega) k2
  | false=>
   obtain⟨_,rfl,q⟩:=k5 rfl
   obtain⟨g,rfl⟩:∃g,f=g+1:=⟨f - 1,by omega⟩
   refine⟨ju,zu,zw,uA,?_,k2,q⟩
   unfold ah.l0
   rw [if_neg (by simp)]
end Go.Proofs.YtmekcfdllhphlaaDoor
namespace Go.Proofs.YtmekcfdllhphlaaDoor
open Go Go.R
open Go.IntKind (i64 u64 u8 u32)
def bJ (dn:List Bool):Nat→List Int
 | 0=>[]
 | p+1=>if gb dn p=true then bJ dn p else bJ dn p++[(p:Int)]
theorem iN {dn:List Bool}:∀{p:Nat} {x:Int},x∈bJ dn p↔∃j:Nat,j<p∧gb dn j=false∧x=j
 | 0,x=>⟨fun h=>by simp [bJ] at h,fun ⟨j,h,_⟩=>absurd h (by omega)⟩
 | p+1,x=>by
  unfold bJ
  have ih:=iN (dn:=dn) (p:=p) (x:=x)
  split
  ·rename_i h
   rw [ih]
   constructor
   ·rintro⟨j,a,b,c⟩; exact⟨j,by omega,b,c⟩
   ·rintro⟨j,a,b,c⟩
    refine⟨j,?_,b,c⟩
    by_cases e:j=p
    ·subst e; rw [b] at h; cases h
    ·omega
  ·rename_i h
   rw [W5,ih,WY]
   constructor
   ·rintro (⟨j,a,b,c⟩| c)
    ·exact⟨j,by omega,b,c⟩
    ·exact⟨p,by omega,by simpa using h,c⟩
   ·rintro⟨j,a,b,c⟩
    by_cases e:j=p
    ·subst e; exact .inr c
    ·exact .inl ⟨j,by omega,b,c⟩
theorem ig {dn:List Bool}:∀p,(bJ dn p).length≤p
 | 0=>WQ _
 | p+1=>by
  have:=ig (dn:=dn) p
  unfold bJ
  split
  ·omega
  ·simp; omega
theorem mF {dn:List Bool}:∀{p k q:Nat},k<q→q<(bJ dn p).length→gt (bJ dn p) k<gt (bJ dn p) q
 | 0,k,q,_,h=>by simp [bJ] at h
 | p+1,k,q,hk,h=>by
  unfold bJ at h ⊢
  split at h
  ·rename_i g; rw [if_pos g]; exact mF hk h
  ·rename_i g
   rw [if_neg g]
   by_cases hq:q<(bJ dn p).length
   ·rw [iq hq,iq (by omega)]; exact mF hk hq
   ·have e:q=(bJ dn p).length:=by simp at h; omega
    have:gt (bJ dn p++[(p:Int)]) q=p:=by
     subst e; unfold gt; rw [W7,Xa (WQ _),Yj]; rfl
    rw [this,iq (by omega)]
    obtain⟨j,a,b,c⟩:=iN.1 (aM (l:=bJ dn p) (k:=k) (by omega))
    omega
structure NU (l:List ae)(dn:List Bool)(c0:List Int)(p:Nat)(cls:List Int):Prop where
 lc:cls.length=l.length
 old:∀j,gb dn j=true→gt cls j=gt c0 j
 pM:∀j:Nat,(j:Int)∈bJ dn p→gt cls j∈bJ dn p∧Alike (nd l j) (nd l (gt cls j))∧∀g∈bJ dn p,Alike (nd l j) (nd l g)→gt cls j≤g
theorem GK {m:Nat}{l:List ae}{dn:List Bool}(ok:kP l){cls:List Int}{i:Nat}(hi:i<l.length)(hc:cls.length=l.length)(hlt:∀g∈bJ dn i,gt cls g.toNat≠i):∀(f k:Nat),(bJ dn i).length - k+2≤f→k≤(bJ dn i).length→(∀q,q<k→¬Alike (nd l i) (nd l (gt (bJ dn i) q)))→
  ∃v x,ah.l3 m l (i:Int) (bJ dn i++[(i:Int)]) f (cls.set i (i:Int)) (k:Int)=some (cls.set i v,x)∧(v=i∧(∀g∈bJ dn i,¬Alike (nd l i) (nd l g))∨∃g∈bJ dn i,Alike (nd l i) (nd l g)∧v=gt cls g.toNat)
 | 0,k,hf,_,_=>absurd hf (by omega)
 | f+1,k,hf,hk,sI=>by
  have h8:=ok.1
  have Np:=ig (dn:=dn) i
  unfold ah.l3
  have An:i<(cls.set i (i:Int)).length:=by simp [hc,hi]
  rw [cC An,ez (by omega),if_pos rfl,WL,if_pos (by simp)]
  have Sb:(bJ dn i++[(i:Int)]).length=(bJ dn i).length+1:=by simp
  by_cases h:k<(bJ dn i).length
  ·obtain⟨j,j1,j2,j3⟩:=iN.1 (aM (l:=bJ dn i) (k:=k) h)
   have hx:ix (bJ dn i++[(i:Int)]) (k:Int)=some (gt (bJ dn i) k):=by rw [cC (by omega),iq h]
   obtain⟨xa,a1,a2⟩:=ui (m:=m) (nd l (i:Int)) (nd l (gt (bJ dn i) k))
   rw [hx,WL,if_pos (by simp only [decide_eq_true_eq]; omega),hU (by omega) (by omega),WL,WL,hU (by omega) (by omega),WL,a1,WL]
   cases xa with
   | false=>
    rw [if_neg (by simp),aD (by omega) (by omega),show (k:Int)+1=((k+1:Nat):Int) by omega]
    refine GK ok hi hc hlt f (k+1) (by omega) (by omega) fun q hq=>?_
    by_cases e:q=k
    ·subst e; intro hA; have:=a2.2 hA; cases this
    ·exact sI q (by omega)
   | true=>
    have hA:=a2.1 rfl
    have Vo:(gt (bJ dn i) k).toNat<cls.length:=by omega
    have KE:ix (cls.set i (i:Int)) (gt (bJ dn i) k)=some (gt cls (gt (bJ dn i) k).toNat):=by
     rw [gd (k:=(gt (bJ dn i) k).toNat) (by omega) (by simpa using Vo),ez (by omega),if_neg (by omega)]
    rw [if_pos rfl,WL,KE,WL,WL,WT,List.set_set]
    have e:=hlt _ (aM h)
    obtain⟨g,rfl⟩:∃g,f=g+1:=⟨f - 1,by omega⟩
    refine⟨gt cls (gt (bJ dn i) k).toNat,i64.wrap ((k:Int)+1),?_,.inr ⟨_,aM h,hA,rfl⟩⟩
    unfold ah.l3
    rw [cC (by simpa [hc] using hi),ez (by omega),if_pos rfl,WL,if_neg (by simpa using e)]
  ·have e:k=(bJ dn i).length:=by omega
   have hx:ix (bJ dn i++[(i:Int)]) (k:Int)=some (i:Int):=by
    rw [cC (by omega)]
    subst e; unfold gt; rw [W7,Xa (WQ _),Yj]; rfl
   rw [hx,WL,if_neg (by simp)]
   refine⟨(i:Int),_,rfl,.inl ⟨rfl,fun g hg=>?_⟩⟩
   obtain⟨q,hq,e2⟩:=eR hg
   rw [←e2]; exact sI q (by omega)
theorem GL {l:List ae}{dn:List Bool}{c0 cls:List Int}{i:Nat}(hi:i<l.length)(hd:gb dn i=false)(P:NU l dn c0 i cls){v:Int}
  (hv:v=i∧(∀g∈bJ dn i,¬Alike (nd l i) (nd l g))∨∃g∈bJ dn i,Alike (nd l i) (nd l g)∧v=gt cls g.toNat):NU l dn c0 (i+1) (cls.set i v):=by
 have hr:bJ dn (i+1)=bJ dn i++[(i:Int)]:=by show (if gb dn i=true then _ else _)=_; rw [if_neg (by rw [hd]; simp)]
 have gc:∀x,x≠i→gt (cls.set i v) x=gt cls x:=fun x hx=>by rw [ez (by rw [P.lc]; exact hi),if_neg hx]
 have gi:gt (cls.set i v) i=v:=by rw [ez (by rw [P.lc]; exact hi),if_pos rfl]
 have OC:∀{x:Int},x∈bJ dn i→0≤x∧x<i:=fun h=>by obtain⟨j,a,b,c⟩:=iN.1 h; omega
 refine⟨by simpa using P.lc,fun j hj=>?_,fun j hj=>?_⟩
 ·rw [gc j (fun e=>by subst e; rw [hd] at hj; cases hj)]; exact P.old j hj
 ·rw [hr] at hj ⊢
  rcases W5.1 hj with hj | hj
  ·obtain⟨r1,r2,r3⟩:=P.pM j hj
   have hji:=OC hj
   rw [gc j (by omega)]
   refine⟨Xw _ r1,r2,fun g hg hA=>?_⟩
   rcases W5.1 hg with hg | hg
   ·exact r3 g hg hA
   ·have:=OC r1
    rw [WY] at hg; omega
  ·rw [WY] at hj
   have e:j=i:=by omega
   subst e
   rw [gi]
   rcases hv with⟨rfl,h⟩| ⟨g,g1,g2,rfl⟩
   ·refine⟨by simp,Alike.refl _,fun g hg hA=>?_⟩
    rcases W5.1 hg with hg | hg
    ·exact absurd hA (h g hg)
    ·rw [WY] at hg; omega
   ·have NN:=OC g1
    have eg:((g.toNat:Nat):Int)=g:=by omega
    obtain⟨r1,r2,r3⟩:=P.pM g.toNat (by rw [eg]; exact g1)
    rw [eg] at r2 r3
    refine⟨Xw _ r1,g2.trans r2,fun x hx hA=>?_⟩
    rcases W5.1 hx with hx | hx
    ·exact r3 x hx (g2.symm.trans hA)
    ·have:=OC r1
     rw [WY] at hx; omega
theorem Bg {m:Nat}(hm:2 ^ 30≤m){l:List ae}(ok:kP l){dn:List Bool}(hd:dn.length=l.length){c0:List Int}:∀(f i:Nat) (cls:List Int),l.length - i<f→i≤l.length→NU l dn c0 i cls→
  ∃ju x,ah.l2 m l dn f cls (bJ dn i) (i:Int)=some (ju,bJ dn l.length,x)∧NU l dn c0 l.length ju
 | 0,i,cls,hf,_,_=>absurd hf (by omega)
 | f+1,i,cls,hf,hi,P=>by
  have lR:(2:Nat) ^ 30=1073741824:=by decide
  have h8:=ok.1
  unfold ah.l2
  by_cases h:i<l.length
  ·have hgb:ix dn (i:Int)=some (gb dn i):=by
    have:=Cn (l:=dn) (i:=(i:Int)) (by omega) (by rw [WT]; omega)
    rwa [WT] at this
   have ew:i64.wrap ((i:Int)+1)=((i+1:Nat):Int):=by rw [aD (by omega) (by omega)]; omega
   rw [if_pos (by simp only [decide_eq_true_eq]; omega),hgb,WL,ew]
   cases Ri:gb dn i with
   | true=>
    have hr:bJ dn (i+1)=bJ dn i:=by show (if gb dn i=true then _ else _)=_; rw [if_pos Ri]
    rw [if_pos rfl,←hr]
    exact Bg hm ok hd f (i+1) cls (by omega) (by omega) ⟨P.lc,P.old,fun j hj=>by rw [hr] at hj ⊢; exact P.pM j hj⟩
   | false=>
    have hr:bJ dn (i+1)=bJ dn i++[(i:Int)]:=by show (if gb dn i=true then _ else _)=_; rw [if_neg (by rw [Ri]; simp)]
    have Np:=ig (dn:=dn) i
    have lP:app 8 (bJ dn i) [(i:Int)]=some (bJ dn i++[(i:Int)]):=by unfold app; rw [if_pos (by simp; omega)]
    obtain⟨v,x,k1,k2⟩:=GK (m:=m) ok h P.lc (fun g hg e=>by
     obtain⟨j,a,b,c⟩:=iN.1 hg
     have:=(P.pM j (by rw [←c]; exact hg)).1
     obtain⟨j',a',b',c'⟩:=iN.1 this
     rw [c,WT] at e; omega) m 0 (by omega) (by omega) (fun q hq=>absurd hq (by omega))
    have k1:ah.l3 m l (i:Int) (bJ dn i++[(i:Int)]) m (cls.set i (i:Int)) 0=_:=k1
    rw [if_neg (by simp),lP,WL,cC (by rw [P.lc]; exact h),WL,WT,k1,WL]
    dsimp only
    rw [←hr]
    exact Bg hm ok hd f (i+1) _ (by omega) (by omega) (GL h Ri P k2)
  ·have e:i=l.length:=by omega
   subst e
   exact⟨cls,_,by rw [if_neg (by simp)],P⟩
end Go.Proofs.YtmekcfdllhphlaaDoor
