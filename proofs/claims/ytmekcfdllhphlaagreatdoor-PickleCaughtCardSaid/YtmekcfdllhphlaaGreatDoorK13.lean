/- Part of the proof: Q82, Q60, Q45, Q46, Q29, Q47, Q48, Q63, Q49, Q30, PU1, PU2, PB3, PB5, PB6. -/
import Derived.Test.YtmekcfdllhphlaaGreatDoorK12
set_option linter.unusedVariables false
set_option linter.unusedSimpArgs false
set_option maxRecDepth 100000
open BitVec renaming ofInt → YS, ofNat → Y9
open Bool renaming false_eq_true → YA, true_and → Zy
open ByteArray renaming mk → YM
open Eq renaming trans → Zf
open Int renaming toNat_natCast → Yq, tmod → Zp, tmod_eq_emod_of_nonneg → ZO
open List renaming length_append → Ys, length_set → Yt, getElem?_eq_some_iff → Yu, mem_singleton → Yw, mem_append → Yy, drop_eq_getElem_cons → Yz, getD_eq_getElem?_getD → YB, length_cons → YD, getElem?_append_right → YE, drop_zero → YZ, getElem?_cons_zero → Y1, drop_eq_nil_of_le → Y3, mem_append_left → Y4, length_nil → Y6, all_cons → Zg, idxOf_lt_length_of_mem → Zl, idxOf_append → Zv, nodup_append → Zw, length → ZS
open Nat renaming le_refl → Yn, zero_add → YG, le_trans → Y0, sub_self → ZT
open Option renaming bind_some → Yj
open Option.some renaming injEq → Ym
open Or renaming inr → Zx
namespace Go.Proofs.YtmekcfdllhphlaaGreatDoor
open Go Go.R
open Go.IntKind (i64 u64 u8 u32)
def Di:cm:=gI [0,2] [] [2,1] [] []
def ep.f (m:Nat)(s0:ByteArray):Option (Bool):=if (s0.data.toList==(YM #[124]).data.toList)=true then (some true) else (if (s0.data.toList==(YM #[35]).data.toList)=true then (some true) else ((cw.f m s0).bind fun x0=>if x0=true then ((bt s0 (0:Int)).bind fun v0=>if (decide (v0≥(97:Int)))=true then ((bt s0 (0:Int)).bind fun v1=>some (decide (v1≤(122:Int)))) else (some false)) else (some false)))
def ep.fin (L:Mem)(r:Bool)(s:St):Prop:=∃av,aH Tryz.prog (s.open Di) Tryz.f82.results.toList=some av∧gu s.h av (.bool r)
def UZ (cf:CallF)(m:Nat):Prop:=∀(s0:ByteArray) (r:Bool),ep.f m s0=some r→∀h xs,eY fq h xs [.str s0]→cf 82 xs h=some (.bool r,h)
section
variable {cf:CallF}{m:Nat}
theorem pU {aU:FuncId→cm}(ha:aU 82=Di)(HT:Pl cf m)(s0:ByteArray)(h:AHeap)(L:Mem)  (o:Has h (L)){out:Bool}(H:ep.f m s0=some out) :
  ∃r h',be Tryz.prog aU cf m 82 [.str s0] h=some (r,h')∧gu h' r (.bool out):=by
 refine aq (fn:=Tryz.f82) ha Tryz.func82 (by kernel_rfl) (by kernel_rfl) ?_
 refine aG (Q:=fun s=>ep.fin L out s) (fun _ _ h=>h) ?_
 have H:_=some out:=H
 unfold ep.f at H
 show dt _ cf Di m _ ⟨[.str s0,.any],[],h⟩ _
 refine q1 <| qq ?_
 rcases dQ H with⟨c0,H⟩| ⟨c0,H⟩
 ·obtain rfl:=oi H
  exact qr [.b 2 c0] <| qt <| ⟨.inl rfl,cp (.bool true) h (ck (au))⟩
 ·rcases dQ H with⟨c1,H⟩| ⟨c1,H⟩
  ·obtain rfl:=oi H
   exact qr [.b 2 c0,.b 6 c1] <| qt <| ⟨.inl rfl,cp (.bool true) h (ck (au))⟩
  ·obtain⟨x0,e0,H⟩:=aI H
   rcases dQ H with⟨c2,H⟩| ⟨c2,H⟩
   ·obtain⟨v0,e1,H⟩:=aI H
    rcases dQ H with⟨c3,H⟩| ⟨c3,H⟩
    ·obtain⟨v1,e2,H⟩:=aI H
     obtain rfl:=oi H
     exact qr [.b 2 c0,.b 6 c1,.a 8 (HT _ _ e0 h _ (ia (ae (b7) (aB)))),.b 9 c2,.v 11 (mK (k:=.i64) U9 e1),.b 14 c3,.v 16 (mK (k:=.i64) U9 e2)] <| qt <| ⟨.inl rfl,cp (.bool (decide (v1≤(122:Int)))) h (ck (au))⟩
    ·obtain rfl:=oi H
     exact qr [.b 2 c0,.b 6 c1,.a 8 (HT _ _ e0 h _ (ia (ae (b7) (aB)))),.b 9 c2,.v 11 (mK (k:=.i64) U9 e1),.b 14 c3] <| qt <| ⟨.inl rfl,cp (.bool false) h (ck (au))⟩
   ·obtain rfl:=oi H
    exact qr [.b 2 c0,.b 6 c1,.a 8 (HT _ _ e0 h _ (ia (ae (b7) (aB)))),.b 9 c2] <| qt <| ⟨.inl rfl,cp (.bool false) h (ck (au))⟩
end
end Go.Proofs.YtmekcfdllhphlaaGreatDoor
namespace Go.Proofs.YtmekcfdllhphlaaGreatDoor
open Go Go.R
open Go.IntKind (i64 u64 u8 u32)
def z8:cm:=gI [0,1,2,4,5,7,8,24,45,61,87,109,114,131] [2] [16377,16345,16281,16375,16217,16375,16089,16375,15833,16375,15353,14329,16375,16361,12265,16361,8169,16375,16375,16375] [] []
def b5.l0 (m:Nat)(n0:ab)(ax:Int):Nat→Int→Option (Sum Bool (Int))
 | 0,_=>none
 | k+1,i0=>if (decide (i0<(n0.args.length:Int)))=true then ((ix n0.args i0).bind fun v0=>if (decide (v0<(0:Int)))=true then (some (.inl false)) else ((ix n0.args i0).bind fun v1=>if (decide (v1≥ax))=true then (some (.inl false)) else (b5.l0 m n0 ax k (i64.wrap (i0+(1:Int)))))) else (some (.inr i0))
def b5.f (m:Nat)(n0:ab)(ax:Int):Option (Bool):=if (n0.kind==(0:Int))=true then (if (decide (n0.int≥(0:Int)))=true then (if (n0.label.data.toList==(YM #[]).data.toList)=true then (some ((n0.args.length:Int)==(0:Int))) else (some false)) else (some false)) else (if (n0.kind==(1:Int))=true then (if (decide (n0.int≥(-1099511627776:Int)))=true then (if (decide (n0.int≤(1099511627776:Int)))=true then (if (n0.label.data.toList==(YM #[]).data.toList)=true then (some ((n0.args.length:Int)==(0:Int))) else (some false)) else (some false)) else (some false)) else (if (n0.kind==(2:Int))=true then ((ep.f m n0.label).bind fun x0=>if x0=true then (if (n0.int==(0:Int))=true then (some ((n0.args.length:Int)==(0:Int))) else (some false)) else (some false)) else (if (n0.kind==(4:Int))=true then (if (n0.label.data.toList==(YM #[112,114,111,99]).data.toList)=true then (if (decide (n0.int≥(0:Int)))=true then (some ((n0.args.length:Int)==(0:Int))) else (some false)) else (if (n0.label.data.toList==(YM #[99,101,108,108]).data.toList)=true then (if (decide (n0.int≥(0:Int)))=true then (some ((n0.args.length:Int)==(0:Int))) else (some false)) else (if (n0.label.data.toList==(YM #[112,111,114,116]).data.toList)=true then (if (decide (n0.int≥(0:Int)))=true then (some ((n0.args.length:Int)==(0:Int))) else (some false)) else (some false)))) else (if (n0.kind==(3:Int))=true then ((ep.f m n0.label).bind fun x1=>if (!x1)=true then (some false) else (if (!(n0.int==(0:Int)))=true then (some false) else (if (decide ((n0.args.length:Int)<(1:Int)))=true then (some false) else (if (decide ((n0.args.length:Int) > (8:Int)))=true then (some false) else ((b5.l0 m n0 ax m (0:Int)).bind fun bg=>match bg with | .inl r0=>some r0 | .inr i1=>some true))))) else (some false)))))
def b5.fin (L:Mem)(r:Bool)(s:St):Prop:=∃av,aH Tryz.prog (s.open z8) Tryz.f60.results.toList=some av∧gu s.h av (.bool r)
def SG (cf:CallF)(m:Nat):Prop:=∀(n0:ab) (ax:Int) (r:Bool),b5.f m n0 ax=some r→∀h xs,eY fq h xs [.agg [.int .i64 n0.kind,.int .i64 n0.int,.str n0.label,aa.fz n0.args],.int .i64 ax]→cf 60 xs h=some (.bool r,h)
section
variable {cf:CallF}{m:Nat}
theorem b5.bP (L:Mem)(n0:ab)(ax:Int)   : bL Tryz.prog cf z8 m (sub [1,0,1,0,1,1,1,1,1,1,1,1,1,0,1,0,1,0,0] (codeOf Tryz.f60)) (fun k (σ:Int)=>b5.l0 m n0 ax k σ) (fun σ s=>match σ with | i0=>∃h0,s=⟨.any :: .int .i64 ax :: .lp 2 0 :: .any :: .int .i64 i0::Ee [],[some [.int .i64 n0.kind,.int .i64 n0.int,.str n0.label,aa.fz n0.args]],h0⟩∧Has h0 (L)) (fun out e s=>(e = .exit 1∧∃i0,.inr i0=out∧∃vm Gp zG Pm Su h0,s=⟨.any::vm::Gp :: .any::zG::E1 [Pm,.any],[Su],h0⟩∧Has h0 (L))∨(e = .ret∧∃r,.inl r=out∧b5.fin L r s)):=by
 refine ig (fun _=>rfl) ?_
 rintro k i0 s out ⟨h0,rfl,o0⟩ H
 have H:b5.l0 m n0 ax (k+1) i0=some out:=H
 refine qq <| qq <| q0 <| qc H (fun WT H=>?_) (fun WT H=>?_)
 ·refine qk <| qq <| qb 2 <| qq ?_
  obtain⟨v0,e2,H⟩:=aI H
  rcases dQ H with⟨SH,H⟩| ⟨SH,H⟩
  ·exact qr [.v 3 (bI (k:=.i64) (E:=aa) (l:=n0.args) dJ e2),.v 4 (dv  (E:=aa) (l:=n0.args) h0 A3 e2 rfl),.b 6 SH] <| wk <| qq <| q0 <| qt <| Zx (⟨rfl,_,oi H,cp (.bool false) h0 (ck (au))⟩)
  ·obtain⟨v1,e3,H⟩:=aI H
   refine qr [.v 3 (bI (k:=.i64) (E:=aa) (l:=n0.args) dJ e2),.v 4 (dv  (E:=aa) (l:=n0.args) h0 A3 e2 rfl),.b 6 SH,.v 10 (bI (k:=.i64) (E:=aa) (l:=n0.args) dJ e3),.v 11 (dv  (E:=aa) (l:=n0.args) h0 A3 e3 rfl)] <| qc H (fun WU H=>?_) (fun WU H=>?_)
   ·exact q1 <| qt <| Zx (⟨rfl,_,oi H,cp (.bool false) h0 (ck (au))⟩)
   ·exact qk <| q0 <| ⟨i64.wrap (i0+(1:Int)),⟨h0,by kernel_rfl,o0⟩,H⟩
 ·exact qx 1 <| Or.inl (⟨rfl,i0,oi H,.int .i64 ax,.lp 2 0,.int .i64 i0,.bool (decide (i0<(n0.args.length:Int))),some [.int .i64 n0.kind,.int .i64 n0.int,.str n0.label,aa.fz n0.args],h0,by kernel_rfl,o0⟩)
theorem qY {aU:FuncId→cm}(ha:aU 60=z8)(BR:UZ cf m)(n0:ab)(ax:Int)(h:AHeap)(L:Mem)  (o:Has h (L)){out:Bool}(H:b5.f m n0 ax=some out) :
  ∃r h',be Tryz.prog aU cf m 60 [.agg [.int .i64 n0.kind,.int .i64 n0.int,.str n0.label,aa.fz n0.args],.int .i64 ax] h=some (r,h')∧gu h' r (.bool out):=by
 refine aq (fn:=Tryz.f60) ha Tryz.func60 (by kernel_rfl) (by kernel_rfl) ?_
 refine aG (Q:=fun s=>b5.fin L out s) (fun _ _ h=>h) ?_
 have H:_=some out:=H
 unfold b5.f at H
 show dt _ cf z8 m _ ⟨.agg [.int .i64 n0.kind,.int .i64 n0.int,.str n0.label,aa.fz n0.args] :: .int .i64 ax::oq [],[none],h⟩ _
 refine q1 <| qq <| qq <| q0 <| qb 0 <| qq <| q0 <| qc H (fun c0 H=>?_) (fun c0 H=>?_)
 ·refine qq ?_
  rcases dQ H with⟨c1,H⟩| ⟨c1,H⟩
  ·rcases dQ H with⟨c2,H⟩| ⟨c2,H⟩
   ·obtain rfl:=oi H
    exact qr [.b 3 c1,.b 8 c2] <| qt <| ⟨.inl rfl,cp (.bool ((n0.args.length:Int)==(0:Int))) h (ck (au))⟩
   ·obtain rfl:=oi H
    exact qr [.b 3 c1,.b 8 c2] <| qt <| ⟨.inl rfl,cp (.bool false) h (ck (au))⟩
  ·obtain rfl:=oi H
   exact qr [.b 3 c1] <| qt <| ⟨.inl rfl,cp (.bool false) h (ck (au))⟩
 ·refine q1 <| qc H (fun c3 H=>?_) (fun c3 H=>?_)
  ·refine qq ?_
   rcases dQ H with⟨c4,H⟩| ⟨c4,H⟩
   ·rcases dQ H with⟨c5,H⟩| ⟨c5,H⟩
    ·rcases dQ H with⟨c6,H⟩| ⟨c6,H⟩
     ·obtain rfl:=oi H
      exact qr [.b 3 c4,.b 8 c5,.b 13 c6] <| qt <| ⟨.inl rfl,cp (.bool ((n0.args.length:Int)==(0:Int))) h (ck (au))⟩
     ·obtain rfl:=oi H
      exact qr [.b 3 c4,.b 8 c5,.b 13 c6] <| qt <| ⟨.inl rfl,cp (.bool false) h (ck (au))⟩
    ·obtain rfl:=oi H
     exact qr [.b 3 c4,.b 8 c5] <| qt <| ⟨.inl rfl,cp (.bool false) h (ck (au))⟩
   ·obtain rfl:=oi H
    exact qr [.b 3 c4] <| qt <| ⟨.inl rfl,cp (.bool false) h (ck (au))⟩
  ·refine q1 <| qc H (fun c7 H=>?_) (fun c7 H=>?_)
   ·refine qq ?_
    obtain⟨x0,e0,H⟩:=aI H
    rcases dQ H with⟨c8,H⟩| ⟨c8,H⟩
    ·rcases dQ H with⟨c9,H⟩| ⟨c9,H⟩
     ·obtain rfl:=oi H
      exact qr [.a 2 (BR _ _ e0 h _ (ia (ae (b7) (aB)))),.b 3 c8,.b 8 c9] <| qt <| ⟨.inl rfl,cp (.bool ((n0.args.length:Int)==(0:Int))) h (ck (au))⟩
     ·obtain rfl:=oi H
      exact qr [.a 2 (BR _ _ e0 h _ (ia (ae (b7) (aB)))),.b 3 c8,.b 8 c9] <| qt <| ⟨.inl rfl,cp (.bool false) h (ck (au))⟩
    ·obtain rfl:=oi H
     exact qr [.a 2 (BR _ _ e0 h _ (ia (ae (b7) (aB)))),.b 3 c8] <| qt <| ⟨.inl rfl,cp (.bool false) h (ck (au))⟩
   ·refine q1 <| qc H (fun xK H=>?_) (fun xK H=>?_)
    ·refine qq ?_
     rcases dQ H with⟨pA,H⟩| ⟨pA,H⟩
     ·rcases dQ H with⟨rY,H⟩| ⟨rY,H⟩
      ·obtain rfl:=oi H
       exact qr [.b 3 pA,.b 18 rY] <| qt <| ⟨.inl rfl,cp (.bool ((n0.args.length:Int)==(0:Int))) h (ck (au))⟩
      ·obtain rfl:=oi H
       exact qr [.b 3 pA,.b 18 rY] <| qt <| ⟨.inl rfl,cp (.bool false) h (ck (au))⟩
     ·rcases dQ H with⟨tX,H⟩| ⟨tX,H⟩
      ·rcases dQ H with⟨rZ,H⟩| ⟨rZ,H⟩
       ·obtain rfl:=oi H
        exact qr [.b 3 pA,.b 8 tX,.b 18 rZ] <| qt <| ⟨.inl rfl,cp (.bool ((n0.args.length:Int)==(0:Int))) h (ck (au))⟩
       ·obtain rfl:=oi H
        exact qr [.b 3 pA,.b 8 tX,.b 18 rZ] <| qt <| ⟨.inl rfl,cp (.bool false) h (ck (au))⟩
      ·rcases dQ H with⟨CJ,H⟩| ⟨CJ,H⟩
       ·rcases dQ H with⟨E3,H⟩| ⟨E3,H⟩
        ·obtain rfl:=oi H
         exact qr [.b 3 pA,.b 8 tX,.b 13 CJ,.b 18 E3] <| qt <| ⟨.inl rfl,cp (.bool ((n0.args.length:Int)==(0:Int))) h (ck (au))⟩
        ·obtain rfl:=oi H
         exact qr [.b 3 pA,.b 8 tX,.b 13 CJ,.b 18 E3] <| qt <| ⟨.inl rfl,cp (.bool false) h (ck (au))⟩
       ·obtain rfl:=oi H
        exact qr [.b 3 pA,.b 8 tX,.b 13 CJ] <| qt <| ⟨.inl rfl,cp (.bool false) h (ck (au))⟩
    ·refine q1 <| qc H (fun Em H=>?_) (fun Em H=>?_)
     ·refine qq <| qq ?_
      obtain⟨x1,e1,H⟩:=aI H
      rcases dQ H with⟨L2,H⟩| ⟨L2,H⟩
      ·obtain rfl:=oi H
       exact qr [.a 2 (BR _ _ e1 h _ (ia (ae (b7) (aB)))),.b 4 L2] <| wk <| qq <| q0 <| qt <| ⟨.inl rfl,cp (.bool false) h (ck (au))⟩
      ·rcases dQ H with⟨Kx,H⟩| ⟨Kx,H⟩
       ·obtain rfl:=oi H
        exact qr [.a 2 (BR _ _ e1 h _ (ia (ae (b7) (aB)))),.b 4 L2,.b 9 Kx] <| wk <| qq <| q0 <| qt <| ⟨.inl rfl,cp (.bool false) h (ck (au))⟩
       ·rcases dQ H with⟨SI,H⟩| ⟨SI,H⟩
        ·obtain rfl:=oi H
         exact qr [.a 2 (BR _ _ e1 h _ (ia (ae (b7) (aB)))),.b 4 L2,.b 9 Kx,.b 15 SI] <| wk <| qq <| q0 <| qt <| ⟨.inl rfl,cp (.bool false) h (ck (au))⟩
        ·refine qr [.a 2 (BR _ _ e1 h _ (ia (ae (b7) (aB)))),.b 4 L2,.b 9 Kx,.b 15 SI] <| qc H (fun WV H=>?_) (fun WV H=>?_)
         ·obtain rfl:=oi H
          exact q1 <| qt <| ⟨.inl rfl,cp (.bool false) h (ck (au))⟩
         ·refine qk <| qq <| qq <| q0 <| qb 1 ?_
          obtain⟨bg,e4,H⟩:=aI H
          refine ql (b5.bP L n0 ax   (0:Int) _ _ ⟨h,by kernel_rfl,o⟩ e4) ?_
          rintro e s (⟨rfl,i1,rfl,g0,g1,g2,g3,g4,h1,rfl,o1⟩| ⟨rfl,r0,rfl,ov⟩)
          ·try dsimp only at H
           obtain rfl:=oi H
           exact q1 <| qt <| ⟨.inl rfl,cp (.bool true) h1 (ck (au))⟩
          ·try dsimp only at H
           obtain rfl:=oi H
           exact⟨.inl rfl,ov⟩
     ·obtain rfl:=oi H
      exact qk <| qq <| q0 <| qt <| ⟨.inl rfl,cp (.bool false) h (ck (au))⟩
end
end Go.Proofs.YtmekcfdllhphlaaGreatDoor
namespace Go.Proofs.YtmekcfdllhphlaaGreatDoor
open Go Go.R
open Go.IntKind (i64 u64 u8 u32)
def Aa:cm:=gI [0,1,2,3,26,31,43] [1] [125,109,123,117,85,117,53,123,123] [] []
def b6.l0 (m:Nat)(t0:an):Nat→Int→Option (Sum Bool (Int))
 | 0,_=>none
 | k+1,i0=>if (decide (i0<(t0.nodes.length:Int)))=true then ((ix t0.nodes i0).bind fun v0=>(b5.f m v0 (t0.nodes.length:Int)).bind fun x0=>if (!x0)=true then (some (.inl false)) else (b6.l0 m t0 k (i64.wrap (i0+(1:Int))))) else (some (.inr i0))
def b6.f (m:Nat)(t0:an):Option (Bool):=if (decide ((t0.nodes.length:Int)<(1:Int)))=true then (some false) else (if (decide ((t0.nodes.length:Int) > (8000:Int)))=true then (some false) else (if (decide (t0.root<(0:Int)))=true then (some false) else (if (decide (t0.root≥(t0.nodes.length:Int)))=true then (some false) else ((b6.l0 m t0 m (0:Int)).bind fun bg=>match bg with | .inl r0=>some r0 | .inr i1=>some true))))
def b6.fin (L:Mem)(r:Bool)(s:St):Prop:=∃av,aH Tryz.prog (s.open Aa) Tryz.f45.results.toList=some av∧gu s.h av (.bool r)
def U0 (cf:CallF)(m:Nat):Prop:=∀(t0:an) (r:Bool),b6.f m t0=some r→∀h xs,eY fq h xs [.agg [ah.fz t0.nodes,.int .i64 t0.root]]→cf 45 xs h=some (.bool r,h)
section
variable {cf:CallF}{m:Nat}
theorem b6.bP (L:Mem)(t0:an)  (Mz:SG cf m):bL Tryz.prog cf Aa m (sub [1,1,0,1,0,0] (codeOf Tryz.f45)) (fun k (σ:Int)=>b6.l0 m t0 k σ) (fun σ s=>match σ with | i0=>∃h0,s=⟨.any :: .lp 1 0 :: .any :: .int .i64 i0::kK [],[some [ah.fz t0.nodes,.int .i64 t0.root]],h0⟩∧Has h0 (L)) (fun out e s=>(e = .exit 0∧∃i0,.inr i0=out∧∃vm vn LX WW h0,s=⟨[.any,vm,.any,vn,.any,LX,.any],[WW],h0⟩∧Has h0 (L))∨(e = .ret∧∃r,.inl r=out∧b6.fin L r s)):=by
 refine ig (fun _=>rfl) ?_
 rintro k i0 s out ⟨h0,rfl,o0⟩ H
 have H:b6.l0 m t0 (k+1) i0=some out:=H
 refine qq <| qq <| q0 <| qc H (fun c7 H=>?_) (fun c7 H=>?_)
 ·refine qk <| qq <| qb 1 <| qq ?_
  obtain⟨v0,e0,H⟩:=aI H
  obtain⟨x0,e1,H⟩:=aI H
  refine qr [.v 3 (bI (k:=.i64) (E:=ah) (l:=t0.nodes) mf e0),.v 4 (dL  (E:=ah) (l:=t0.nodes) h0 tQ tR e0),.a 8 (Mz _ _ _ e1 h0 _ (ia (ae (dN (ae (aN) (ae (aN) (ae (b7) (ae (cW (E:=aa)) (aB)))))) (ae (aN) (aB)))))] <| qc H (fun c8 H=>?_) (fun c8 H=>?_)
  ·exact q1 <| qt <| Zx (⟨rfl,_,oi H,cp (.bool false) h0 (ck (au))⟩)
  ·exact qk <| q0 <| ⟨i64.wrap (i0+(1:Int)),⟨h0,by kernel_rfl,o0⟩,H⟩
 ·exact qx 0 <| Or.inl (⟨rfl,i0,oi H,.lp 1 0,.int .i64 i0,.bool (decide (i0<(t0.nodes.length:Int))),some [ah.fz t0.nodes,.int .i64 t0.root],h0,by kernel_rfl,o0⟩)
theorem qZ {aU:FuncId→cm}(ha:aU 45=Aa)(Mz:SG cf m)(t0:an)(h:AHeap)(L:Mem)  (o:Has h (L)){out:Bool}(H:b6.f m t0=some out) :
  ∃r h',be Tryz.prog aU cf m 45 [.agg [ah.fz t0.nodes,.int .i64 t0.root]] h=some (r,h')∧gu h' r (.bool out):=by
 refine aq (fn:=Tryz.f45) ha Tryz.func45 (by kernel_rfl) (by kernel_rfl) ?_
 refine aG (Q:=fun s=>b6.fin L out s) (fun _ _ h=>h) ?_
 have H:_=some out:=H
 unfold b6.f at H
 show dt _ cf Aa m _ ⟨.agg [ah.fz t0.nodes,.int .i64 t0.root]::Gh [],[none],h⟩ _
 refine q1 <| qq <| qq ?_
 rcases dQ H with⟨c0,H⟩| ⟨c0,H⟩
 ·obtain rfl:=oi H
  exact qr [.b 4 c0] <| wk <| qq <| q0 <| qt <| ⟨.inl rfl,cp (.bool false) h (ck (au))⟩
 ·rcases dQ H with⟨c2,H⟩| ⟨c2,H⟩
  ·obtain rfl:=oi H
   exact qr [.b 4 c0,.b 10 c2] <| wk <| qq <| q0 <| qt <| ⟨.inl rfl,cp (.bool false) h (ck (au))⟩
  ·rcases dQ H with⟨c4,H⟩| ⟨c4,H⟩
   ·obtain rfl:=oi H
    exact qr [.b 4 c0,.b 10 c2,.b 15 c4] <| wk <| qq <| q0 <| qt <| ⟨.inl rfl,cp (.bool false) h (ck (au))⟩
   ·refine qr [.b 4 c0,.b 10 c2,.b 15 c4] <| qc H (fun c6 H=>?_) (fun c6 H=>?_)
    ·obtain rfl:=oi H
     exact q1 <| qt <| ⟨.inl rfl,cp (.bool false) h (ck (au))⟩
    ·refine qk <| qq <| qq <| q0 <| qb 0 ?_
     obtain⟨bg,e2,H⟩:=aI H
     refine ql (b6.bP L t0  Mz (0:Int) _ _ ⟨h,by kernel_rfl,o⟩ e2) ?_
     rintro e s (⟨rfl,i1,rfl,g0,g1,g2,g3,h1,rfl,o1⟩| ⟨rfl,r0,rfl,ov⟩)
     ·try dsimp only at H
      obtain rfl:=oi H
      exact q1 <| qt <| ⟨.inl rfl,cp (.bool true) h1 (ck (au))⟩
     ·try dsimp only at H
      obtain rfl:=oi H
      exact⟨.inl rfl,ov⟩
end
end Go.Proofs.YtmekcfdllhphlaaGreatDoor
namespace Go.Proofs.YtmekcfdllhphlaaGreatDoor
open Go Go.R
open Go.IntKind (i64 u64 u8 u32)
def mc:cm:=gI [0,1,4,5,6,7,8,9,10,11,12,13,14,15,16,17,18,19,20,21,22,32,45,59,84,94,120,133,147] [4,10,18,20] [536870904,536870898,536870882,536870850,536870786,534773634,536870786,536870786,536870722,532676418,536870722,536870466,536869954,536868930,528480322,536868930,536868930,536870466,536870722,536868811,536864715,520087499,536864715,536856523,503302091,536856523,536856523,536854475,536821707,469712843,536821707,536821707,536788939,536657867,402440139,536657867,536395723,535871435,534822859,266387403,534822859,534822859,536395723,536657867,536870907] [(42,[(21,none,0)]),(44,[(18,some 0,0)])] [(3,[(7,none,4)]),(12,[(11,none,1)]),(32,[(18,some 0,4)]),(37,[(21,none,1)])]
def ai.l0 (m:Nat)(x0:(List Int)):Nat→(List Int)→Int→Option ((List Int) × Int)
 | 0,_,_=>none
 | k+1,fl,i0=>if (decide (i0<(x0.length:Int)))=true then ((ix x0 i0).bind fun v0=>(ix fl v0).bind fun v1=>ai.l0 m x0 k (fl.set v0.toNat i0) (i64.wrap (i0+(1:Int)))) else (some ((fl,i0)))
def ai.l2 (m:Nat)(bc:List Int)(v3:ab):Nat→(List Int)→Int→Option ((List Int) × Int)
 | 0,_,_=>none
 | k+1,eF,k0=>if (decide (k0<(v3.args.length:Int)))=true then ((ix v3.args k0).bind fun v4=>(ix bc v4).bind fun v5=>(app 8 eF ([v5])).bind fun x2=>ai.l2 m bc v3 k x2 (i64.wrap (k0+(1:Int)))) else (some ((eF,k0)))
def ai.l1 (m:Nat)(l0:List ab)(x0:(List Int))(bc:List Int):Nat→(List ab)→Int→Option ((List ab) × Int)
 | 0,_,_=>none
 | k+1,eQ,i2=>if (decide (i2<(x0.length:Int)))=true then ((ix x0 i2).bind fun v2=>(ix l0 v2).bind fun v3=>(ai.l2 m bc v3 m ([]:List Int) (0:Int)).bind fun bR=>match bR with | (mT,k1)=>(app 56 eQ [ab.mk v3.kind v3.int v3.label mT]).bind fun x3=>ai.l1 m l0 x0 bc k x3 (i64.wrap (i2+(1:Int)))) else (some ((eQ,i2)))
def ai.l4 (m:Nat)(x4:(List Int))(i4:Int):Nat→(List ab)→Int→Option ((List ab) × Int)
 | 0,_,_=>none
 | k+1,dO,k2=>(ix dO i4).bind fun v6=>if (decide (k2<(v6.args.length:Int)))=true then ((ix dO i4).bind fun v7=>(ix dO i4).bind fun v8=>(ix v8.args k2).bind fun v9=>(ix x4 v9).bind fun v10=>(ix v7.args k2).bind fun v11=>ai.l4 m x4 i4 k (dO.set i4.toNat (ab.mk v7.kind v7.int v7.label (v7.args.set k2.toNat v10))) (i64.wrap (k2+(1:Int)))) else (some ((dO,k2)))
def ai.l3 (m:Nat)(x4:(List Int)):Nat→(List ab)→Int→Option ((List ab) × Int)
 | 0,_,_=>none
 | k+1,iZ,i4=>if (decide (i4<(iZ.length:Int)))=true then ((ai.l4 m x4 i4 m iZ (0:Int)).bind fun mN=>match mN with | (HU,k3)=>ai.l3 m x4 k HU (i64.wrap (i4+(1:Int)))) else (some ((iZ,i4)))
def ai.l5 (m:Nat)(x5:(List Int)):Nat→(List Int)→Int→Option ((List Int) × Int)
 | 0,_,_=>none
 | k+1,fm,i6=>if (decide (i6<(x5.length:Int)))=true then ((ix x5 i6).bind fun v12=>(ix fm v12).bind fun Ji=>ai.l5 m x5 k (fm.set v12.toNat i6) (i64.wrap (i6+(1:Int)))) else (some ((fm,i6)))
def ai.l7 (m:Nat)(cC:List Int)(nA:ab):Nat→(List Int)→Int→Option ((List Int) × Int)
 | 0,_,_=>none
 | k+1,ja,k4=>if (decide (k4<(nA.args.length:Int)))=true then ((ix nA.args k4).bind fun mo=>(ix cC mo).bind fun Nn=>(app 8 ja ([Nn])).bind fun x6=>ai.l7 m cC nA k x6 (i64.wrap (k4+(1:Int)))) else (some ((ja,k4)))
def ai.l6 (m:Nat)(bX:List ab)(x5:(List Int))(cC:List Int):Nat→Int→(List ab)→Int→Option (Int × (List ab) × Int)
 | 0,_,_,_=>none
 | k+1,i8,gO,mR=>if (decide (i8<(x5.length:Int)))=true then ((ix x5 i8).bind fun AB=>(ix bX AB).bind fun nA=>(ai.l7 m cC nA m ([]:List Int) (0:Int)).bind fun GS=>match GS with | (Ab,k5)=>(app 56 gO ([(ab.mk nA.kind nA.int nA.label Ab)])).bind fun x7=>ai.l6 m bX x5 cC k (i64.wrap (i8+(1:Int))) x7 mR) else (some ((i8,gO,mR)))
def ai.f (m:Nat)(l0:List ab)(gQ:Int):Option (an):=(aK.f m l0 gQ).bind fun x0=>(vh 8 (l0.length:Int) (0:Int)).bind fun x1=>(ai.l0 m x0 m x1 (0:Int)).bind fun bg=>match bg with | (bc,i1)=>(ai.l1 m l0 x0 bc m ([]:List ab) (0:Int)).bind fun ik=>match ik with | (uP,i3)=>(af.f m uP).bind fun x4=>(ai.l3 m x4 m uP (0:Int)).bind fun cF=>match cF with | (bX,i5)=>(aK.f m bX (0:Int)).bind fun x5=>(ai.l5 m x5 m bc (0:Int)).bind fun uv=>match uv with | (cC,i7)=>(ai.l6 m bX x5 cC m (0:Int) ([]:List ab) (0:Int)).bind fun Kz=>match Kz with | (i9,JH,HV)=>some (an.mk JH HV)
def ai.fin (L:Mem)(r:an)(s:St):Prop:=∃av,aH Tryz.prog (s.open mc) Tryz.f46.results.toList=some av∧xz s.h av (.agg [ah.fz r.nodes,.int .i64 r.root])
def U1 (cf:CallF)(m:Nat):Prop:=∀(l0:List ab) (gQ:Int) (r:an),ai.f m l0 gQ=some r→∀h xs,l9 xs [ah.fz l0,.int .i64 gQ]→cf 46 xs h=some (.agg [ah.fz r.nodes,.int .i64 r.root],h)
section
variable {cf:CallF}{m:Nat}
theorem ai.bP (L:Mem)(l0:List ab)(x0:(List Int))   : bL Tryz.prog cf mc m (sub [1,1,1,1,0,1,0,0] (codeOf Tryz.f46)) (fun k (σ:(List Int) × Int)=>ai.l0 m x0 k σ.1 σ.2) (fun σ s=>match σ with | (fl,i0)=>∃fK h1,s=⟨ah.fz l0 :: .any :: .lp 4 0::aa.fz x0 :: .rs fK 0 fl.length 1 :: .rs (0) 0 (([]:List ab).length) 4 :: .int .i64 i0::Od [],[some [.nils,.int .i64 (0:Int)],none,none,none],h1⟩∧Has h1 (((0),.sl (([]:List ab).length) 4 (hH.l (cd ([]:List ab) ([]:List Nat))))::(fK,.sl fl.length 1 (aa.l fl))::(jd ([]:List ab) ([]:List Nat)++L))) (fun out e s=>(e = .exit 0∧∃fl i0,(fl,i0)=out∧∃r6 MA fK h1,s=⟨ah.fz l0 :: .any :: .lp 4 0::aa.fz x0 :: .rs fK 0 fl.length 1 :: .rs (0) 0 (([]:List ab).length) 4::r6::rW (MA::E1 []),[some [.nils,.int .i64 (0:Int)],none,none,none],h1⟩∧Has h1 (((0),.sl (([]:List ab).length) 4 (hH.l (cd ([]:List ab) ([]:List Nat))))::(fK,.sl fl.length 1 (aa.l fl))::(jd ([]:List ab) ([]:List Nat)++L)))):=by
 refine ig (fun _=>rfl) ?_
 rintro k ⟨fl,i0⟩ s out ⟨fK,h1,rfl,o2⟩ H
 have H:ai.l0 m x0 (k+1) fl i0=some out:=H
 refine qq <| qq <| q0 <| qc H (fun c0 H=>?_) (fun c0 H=>?_)
 ·refine qk <| qq <| qb 1 ?_
  obtain⟨v0,e3,H⟩:=aI H
  obtain⟨v1,e4,H⟩:=aI H
  obtain⟨h2,e5,o3⟩:=dM (P:=Tryz.prog) (tf:=3) (E:=aa) (l:=fl) (q:=1) (v:=i0) (x:=.int .i64 i0) o2 rfl Z3 e4 rfl rfl
  exact qr [.v 3 (bI (k:=.i64) (E:=aa) (l:=x0) dJ e3),.v 4 (dv  (E:=aa) (l:=x0) h1 A3 e3 rfl),.v 6 (aE (k:=.i64) (E:=aa) (l:=fl) (q:=1) dJ o2 rfl e4),.w 7 e5] <| q0 <| ⟨(fl.set v0.toNat i0,i64.wrap (i0+(1:Int))),⟨fK,h2,(Zf (b:=⟨ah.fz l0 :: .any :: .lp 4 0::aa.fz x0 :: .rs fK 0 fl.length 1 :: .rs (0) 0 (([]:List ab).length) 4 :: .int .i64 (i64.wrap (i0+(1:Int)))::Od [],[some [.nils,.int .i64 (0:Int)],none,none,none],h2⟩) (by kernel_rfl) (by simp only [Yt])),(by have o:Has h2 (((0),.sl (([]:List ab).length) 4 (hH.l (cd ([]:List ab) ([]:List Nat))))::(fK,.sl fl.length 1 (aa.l (fl.set v0.toNat i0)))::(jd ([]:List ab) ([]:List Nat)++L)):=o3; simpa only [Yt] using o)⟩,H⟩
 ·exact qx 0 <| ⟨rfl,fl,i0,oi H,.int .i64 i0,.bool (decide (i0<(x0.length:Int))),fK,h1,by kernel_rfl,o2⟩
theorem ai.pC (L:Mem)(l0:List ab)(x0:(List Int))(dh:Nat)(bc:List Int)(dh:Nat)(fu:Nat)(eQ:List ab)(i2:Int)(fu:Nat)(nB:List Nat)(v3:ab)   : bL Tryz.prog cf mc m (sub [1,1,1,1,1,0,1,0,0,1,0,0,1,1,0,1,0,0] (codeOf Tryz.f46)) (fun k (σ:(List Int) × Int)=>ai.l2 m bc v3 k σ.1 σ.2) (fun σ s=>match σ with | (eF,k0)=>∃gY h5,s=⟨ah.fz l0 :: .any :: .lp 4 0::aa.fz x0 :: .rs dh 0 bc.length 1 :: .rs fu 0 eQ.length 4 :: .any :: .int .i64 i2 :: .lp 10 0 :: .rs gY 0 eF.length 1 :: .int .i64 k0::Ob [],[some [.nils,.int .i64 (0:Int)],some [.int .i64 v3.kind,.int .i64 v3.int,.str v3.label,aa.fz v3.args],none,none],h5⟩∧Has h5 ((gY,.sl eF.length 1 (aa.l eF))::(fu,.sl eQ.length 4 (hH.l (cd eQ nB)))::(dh,.sl bc.length 1 (aa.l bc))::(jd eQ nB++L))) (fun out e s=>(e = .exit 4∧∃eF k0,(eF,k0)=out∧∃BK SJ gY h5,s=⟨ah.fz l0 :: .any :: .lp 4 0::aa.fz x0 :: .rs dh 0 bc.length 1 :: .rs fu 0 eQ.length 4 :: .any :: .int .i64 i2 :: .lp 10 0 :: .rs gY 0 eF.length 1::BK::oq (SJ::rV []),[some [.nils,.int .i64 (0:Int)],some [.int .i64 v3.kind,.int .i64 v3.int,.str v3.label,aa.fz v3.args],none,none],h5⟩∧Has h5 ((gY,.sl eF.length 1 (aa.l eF))::(fu,.sl eQ.length 4 (hH.l (cd eQ nB)))::(dh,.sl bc.length 1 (aa.l bc))::(jd eQ nB++L)))):=by
 refine ig (fun _=>rfl) ?_
 rintro k ⟨eF,k0⟩ s out ⟨gY,h5,rfl,o7⟩ H
 have H:ai.l2 m bc v3 (k+1) eF k0=some out:=H
 refine qq <| qq <| q0 <| qc H (fun c2 H=>?_) (fun c2 H=>?_)
 ·refine qk <| qq <| qb 5 ?_
  obtain⟨v4,e9,H⟩:=aI H
  obtain⟨v5,ow,H⟩:=aI H
  obtain⟨x2,rI,H⟩:=aI H
  obtain⟨hX,h6,sK,o8⟩:=fP (P:=Tryz.prog) (E:=aa) (l:=eF) (q:=0) (t2:=28) (x:=.fz [.int .i64 v5] 1 true) (l2:=([v5])) dJ o7 rfl (by kernel_rfl) rfl rI
  exact qr [.v 5 (bI (k:=.i64) (E:=aa) (l:=v3.args) dJ e9),.v 6 (dv  (E:=aa) (l:=v3.args) h5 A3 e9 rfl),.v 7 (aE (k:=.i64) (E:=aa) (l:=bc) (q:=2) dJ o7 rfl ow),.v 8 (bf  (E:=aa) (l:=bc) (q:=2) o7 rfl A3 ow rfl),.a 10 sK] <| q0 <| ⟨(x2,i64.wrap (k0+(1:Int))),⟨hX,h6,by kernel_rfl,o8⟩,H⟩
 ·exact qx 4 <| ⟨rfl,eF,k0,oi H,.int .i64 k0,.bool (decide (k0<(v3.args.length:Int))),gY,h5,by kernel_rfl,o7⟩
theorem ai.fC (L:Mem)(l0:List ab)(x0:(List Int))(dh:Nat)(bc:List Int)(dh:Nat)   : bL Tryz.prog cf mc m (sub [1,1,1,1,1,0,1,0,0] (codeOf Tryz.f46)) (fun k (σ:(List ab) × Int)=>ai.l1 m l0 x0 bc k σ.1 σ.2) (fun σ s=>match σ with | (eQ,i2)=>∃fu nB h4,s=⟨ah.fz l0 :: .any :: .lp 4 0::aa.fz x0 :: .rs dh 0 bc.length 1 :: .rs fu 0 eQ.length 4 :: .any :: .int .i64 i2::Oc [],[some [.nils,.int .i64 (0:Int)],none,none,none],h4⟩∧Has h4 ((fu,.sl eQ.length 4 (hH.l (cd eQ nB)))::(dh,.sl bc.length 1 (aa.l bc))::(jd eQ nB++L))) (fun out e s=>(e = .exit 2∧∃eQ i2,(eQ,i2)=out∧∃lP zG ud SK fu nB h4,s=⟨lP :: .any :: .lp 4 0::zG :: .rs dh 0 bc.length 1 :: .rs fu 0 eQ.length 4 :: .any::ud::rW (SK::Gh []),[some [.nils,.int .i64 (0:Int)],none,none,none],h4⟩∧Has h4 ((fu,.sl eQ.length 4 (hH.l (cd eQ nB)))::(dh,.sl bc.length 1 (aa.l bc))::(jd eQ nB++L)))):=by
 refine ig (fun _=>rfl) ?_
 rintro k ⟨eQ,i2⟩ s out ⟨fu,nB,h4,rfl,o5⟩ H
 have H:ai.l1 m l0 x0 bc (k+1) eQ i2=some out:=H
 refine qq <| qq <| q0 <| qc H (fun c1 H=>?_) (fun c1 H=>?_)
 ·refine qk <| qq <| qb 3 <| qq ?_
  obtain⟨v2,e7,H⟩:=aI H
  obtain⟨v3,e8,H⟩:=aI H
  refine qr [.v 3 (bI (k:=.i64) (E:=aa) (l:=x0) dJ e7),.v 4 (dv  (E:=aa) (l:=x0) h4 A3 e7 rfl),.v 5 (bI (k:=.i64) (E:=ah) (l:=l0) mf e8),.v 6 (dL  (E:=ah) (l:=l0) h4 tQ tR e8)] <| qq <| q0 ?_
  have o6:Has h4 ((((0)),.sl (([]:List Int).length) 1 (aa.l ([]:List Int)))::(fu,.sl eQ.length 4 (hH.l (cd eQ nB)))::(dh,.sl bc.length 1 (aa.l bc))::(jd eQ nB++L)):=Has.nil o5 1
  refine qq <| qq <| q0 <| qb 4 ?_
  obtain⟨bR,sL,H⟩:=aI H
  refine ql (ai.pC L l0 x0 dh bc dh fu eQ i2 fu nB v3   (([]:List Int),(0:Int)) _ _ ⟨((0)),h4,by kernel_rfl,o6⟩ sL) ?_
  rintro e s ⟨rfl,mT,k1,rfl,g2,g3,hY,h7,rfl,o9⟩
  try dsimp only at H
  refine q1 ?_
  obtain⟨x3,uo,H⟩:=aI H
  obtain⟨iJ,SL,h8,sM,vo⟩:=LN (P:=Tryz.prog) (t2:=42) (pre:=[(dh,.sl bc.length 1 (aa.l bc))]) (ns:=eQ) (ids:=nB) (kind:=v3.kind) (int:=v3.int) (label:=v3.label) (args:=mT) (x:=.fz [.int .i64 v3.kind,.int .i64 v3.int,.str v3.label,.rs hY 0 mT.length 1] 1 true) mf (Has.front (Has.front (Has.front o9 2 rfl) 1 rfl) 2 rfl) (by kernel_rfl) rfl uo
  exact qr [.a 3 sM] <| q0 <| ⟨(x3,i64.wrap (i2+(1:Int))),⟨iJ,SL,h8,by kernel_rfl,vo⟩,H⟩
 ·exact qx 2 <| ⟨rfl,eQ,i2,oi H,ah.fz l0,aa.fz x0,.int .i64 i2,.bool (decide (i2<(x0.length:Int))),fu,nB,h4,by kernel_rfl,o5⟩
theorem ai.uk (L:Mem)(dh:Nat)(bc:List Int)(dh:Nat)(x4:(List Int))(i4:Int)   : bL Tryz.prog cf mc m (sub [1,1,1,1,1,1,1,0,1,0,0,1,0,0,1,0,0] (codeOf Tryz.f46)) (fun k (σ:(List ab) × Int)=>ai.l4 m x4 i4 k σ.1 σ.2) (fun σ s=>match σ with | (dO,k2)=>∃eU kl h11,s=⟨.any :: .any :: .lp 4 0 :: .any :: .rs dh 0 bc.length 1 :: .rs eU 0 dO.length 4::rV (aa.fz x4 :: .int .i64 i4 :: .int .i64 k2::Jd []),[some [.nils,.int .i64 (0:Int)],none,none,none],h11⟩∧Has h11 ((eU,.sl dO.length 4 (hH.l (cd dO kl)))::(dh,.sl bc.length 1 (aa.l bc))::(jd dO kl++L))) (fun out e s=>(e = .exit 8∧∃dO k2,(dO,k2)=out∧∃ui SM eU kl h11,s=⟨.any :: .any :: .lp 4 0 :: .any :: .rs dh 0 bc.length 1 :: .rs eU 0 dO.length 4::rV (aa.fz x4 :: .int .i64 i4::ui::pq (SM::kK [])),[some [.nils,.int .i64 (0:Int)],none,none,none],h11⟩∧Has h11 ((eU,.sl dO.length 4 (hH.l (cd dO kl)))::(dh,.sl bc.length 1 (aa.l bc))::(jd dO kl++L)))):=by
 refine ig (fun _=>rfl) ?_
 rintro k ⟨dO,k2⟩ s out ⟨eU,kl,h11,rfl,mg⟩ H
 have H:ai.l4 m x4 i4 (k+1) dO k2=some out:=H
 refine qq <| qq ?_
 obtain⟨v6,CN,H⟩:=aI H
 refine qr [.v 3 (aE (k:=.i64) (E:=hH) (l:=(cd dO kl)) (q:=0) mf mg rfl (kz CN)),.v 5 (xy  (E:=hH) (l:=(cd dO kl)) (q:=0) (off:=3) mg rfl LQ (kz CN) rfl)] <| qc H (fun c4 H=>?_) (fun c4 H=>?_)
 ·refine qk <| qq <| qb 9 ?_
  obtain⟨v7,xR,H⟩:=aI H
  obtain⟨v8,CO,H⟩:=aI H
  obtain⟨v9,E6,H⟩:=aI H
  obtain⟨v10,E4,H⟩:=aI H
  obtain⟨v11,GC,H⟩:=aI H
  obtain⟨h12,E5,zx⟩:=LO (P:=Tryz.prog) (tf:=3) (pre:=[(dh,.sl bc.length 1 (aa.l bc))]) (v:=v10) mg Z3 xR GC
  refine qr [.v 2 (aE (k:=.i64) (E:=hH) (l:=(cd dO kl)) (q:=0) mf mg rfl (kz xR)),.v 4 (xy  (E:=hH) (l:=(cd dO kl)) (q:=0) (off:=3) mg rfl LQ (kz xR) rfl),.v 9 (aE (k:=.i64) (E:=hH) (l:=(cd dO kl)) (q:=0) mf mg rfl (kz CO)),.v 11 (xy  (E:=hH) (l:=(cd dO kl)) (q:=0) (off:=3) mg rfl LQ (kz CO) rfl),.v 13 (aE (k:=.i64) (E:=aa) (l:=v8.args) dJ mg (qF (pre:=[(eU,.sl dO.length 4 (hH.l (cd dO kl))),(dh,.sl bc.length 1 (aa.l bc))]) (ids:=kl) CO) E6),.v 14 (bf  (E:=aa) (l:=v8.args) mg (qF (pre:=[(eU,.sl dO.length 4 (hH.l (cd dO kl))),(dh,.sl bc.length 1 (aa.l bc))]) (ids:=kl) CO) A3 E6 rfl),.v 15 (bI (k:=.i64) (E:=aa) (l:=x4) dJ E4),.v 16 (dv  (E:=aa) (l:=x4) h11 A3 E4 rfl),.v 17 (aE (k:=.i64) (E:=aa) (l:=v7.args) dJ mg (qF (pre:=[(eU,.sl dO.length 4 (hH.l (cd dO kl))),(dh,.sl bc.length 1 (aa.l bc))]) (ids:=kl) xR) GC),.w 18 E5] ?_
  exact q0 <| ⟨(dO.set i4.toNat (ab.mk v7.kind v7.int v7.label (v7.args.set k2.toNat v10)),i64.wrap (k2+(1:Int))),⟨eU,kl,h12,(Zf (b:=⟨.any :: .any :: .lp 4 0 :: .any :: .rs dh 0 bc.length 1 :: .rs eU 0 dO.length 4::rV (aa.fz x4 :: .int .i64 i4 :: .int .i64 (i64.wrap (k2+(1:Int)))::Jd []),[some [.nils,.int .i64 (0:Int)],none,none,none],h12⟩) (by kernel_rfl) (by simp only [Yt])),(by have o:Has h12 ((eU,.sl dO.length 4 (hH.l (cd (dO.set i4.toNat (ab.mk v7.kind v7.int v7.label (v7.args.set k2.toNat v10))) kl)))::(dh,.sl bc.length 1 (aa.l bc))::(jd (dO.set i4.toNat (ab.mk v7.kind v7.int v7.label (v7.args.set k2.toNat v10))) kl++L)):=zx; simpa only [Yt] using o)⟩,H⟩
 ·exact qx 8 <| ⟨rfl,dO,k2,oi H,.int .i64 k2,.bool (decide (k2<(v6.args.length:Int))),eU,kl,h11,by kernel_rfl,mg⟩
theorem ai.uj (L:Mem)(dh:Nat)(bc:List Int)(dh:Nat)(x4:(List Int))   : bL Tryz.prog cf mc m (sub [1,1,1,1,1,1,1,0,1,0,0] (codeOf Tryz.f46)) (fun k (σ:(List ab) × Int)=>ai.l3 m x4 k σ.1 σ.2) (fun σ s=>match σ with | (iZ,i4)=>∃yz Ac h10,s=⟨.any :: .any :: .lp 4 0 :: .any :: .rs dh 0 bc.length 1 :: .rs yz 0 iZ.length 4::rV (aa.fz x4 :: .int .i64 i4::Gi []),[some [.nils,.int .i64 (0:Int)],none,none,none],h10⟩∧Has h10 ((yz,.sl iZ.length 4 (hH.l (cd iZ Ac)))::(dh,.sl bc.length 1 (aa.l bc))::(jd iZ Ac++L))) (fun out e s=>(e = .exit 6∧∃iZ i4,(iZ,i4)=out∧∃ou xP SN yz Ac h10,s=⟨.any :: .any :: .lp 4 0 :: .any :: .rs dh 0 bc.length 1 :: .rs yz 0 iZ.length 4::rV (ou::xP::pq (SN::oH [])),[some [.nils,.int .i64 (0:Int)],none,none,none],h10⟩∧Has h10 ((yz,.sl iZ.length 4 (hH.l (cd iZ Ac)))::(dh,.sl bc.length 1 (aa.l bc))::(jd iZ Ac++L)))):=by
 refine ig (fun _=>rfl) ?_
 rintro k ⟨iZ,i4⟩ s out ⟨yz,Ac,h10,rfl,ug⟩ H
 have H:ai.l3 m x4 (k+1) iZ i4=some out:=H
 refine qq <| qq <| q0 <| qc H (fun c3 H=>?_) (fun c3 H=>?_)
 ·refine qk <| qq <| qb 7 <| qq <| q0 <| qb 8 ?_
  obtain⟨mN,GD,H⟩:=aI H
  refine ql (ai.uk L dh bc dh x4 i4   (iZ,(0:Int)) _ _ ⟨yz,Ac,h10,by kernel_rfl,ug⟩ GD) ?_
  rintro e s ⟨rfl,HU,k3,rfl,g8,g9,oA,SO,h13,rfl,AA⟩
  try dsimp only at H
  exact q0 <| ⟨(HU,i64.wrap (i4+(1:Int))),⟨oA,SO,h13,by kernel_rfl,AA⟩,H⟩
 ·exact qx 6 <| ⟨rfl,iZ,i4,oi H,aa.fz x4,.int .i64 i4,.bool (decide (i4<(iZ.length:Int))),yz,Ac,h10,by kernel_rfl,ug⟩
theorem ai.HI (L:Mem)(fW:Nat)(bX:List ab)(fW:Nat)(gB:List Nat)(x5:(List Int))   : bL Tryz.prog cf mc m (sub [1,1,1,1,1,1,1,1,1,0,1,0,0] (codeOf Tryz.f46)) (fun k (σ:(List Int) × Int)=>ai.l5 m x5 k σ.1 σ.2) (fun σ s=>match σ with | (fm,i6)=>∃hZ h15,s=⟨.any :: .any :: .lp 4 0 :: .any :: .rs hZ 0 fm.length 1 :: .rs fW 0 bX.length 4::sI (aa.fz x5 :: .int .i64 i6::ot []),[some [.nils,.int .i64 (0:Int)],none,none,none],h15⟩∧Has h15 ((fW,.sl bX.length 4 (hH.l (cd bX gB)))::(hZ,.sl fm.length 1 (aa.l fm))::(jd bX gB++L))) (fun out e s=>(e = .exit 10∧∃fm i6,(fm,i6)=out∧∃Bq HJ hZ h15,s=⟨.any :: .any :: .lp 4 0 :: .any :: .rs hZ 0 fm.length 1 :: .rs fW 0 bX.length 4::sI (aa.fz x5::Bq::xG [HJ,.any,.any]),[some [.nils,.int .i64 (0:Int)],none,none,none],h15⟩∧Has h15 ((fW,.sl bX.length 4 (hH.l (cd bX gB)))::(hZ,.sl fm.length 1 (aa.l fm))::(jd bX gB++L)))):=by
 refine ig (fun _=>rfl) ?_
 rintro k ⟨fm,i6⟩ s out ⟨hZ,h15,rfl,Br⟩ H
 have H:ai.l5 m x5 (k+1) fm i6=some out:=H
 refine qq <| qq <| q0 <| qc H (fun c5 H=>?_) (fun c5 H=>?_)
 ·refine qk <| qq <| qb 11 ?_
  obtain⟨v12,GG,H⟩:=aI H
  obtain⟨Ji,GH,H⟩:=aI H
  obtain⟨h16,GF,Eu⟩:=dM (P:=Tryz.prog) (tf:=3) (E:=aa) (l:=fm) (q:=1) (v:=i6) (x:=.int .i64 i6) Br rfl Z3 GH rfl rfl
  exact qr [.v 3 (bI (k:=.i64) (E:=aa) (l:=x5) dJ GG),.v 4 (dv  (E:=aa) (l:=x5) h15 A3 GG rfl),.v 6 (aE (k:=.i64) (E:=aa) (l:=fm) (q:=1) dJ Br rfl GH),.w 7 GF] <| q0 <| ⟨(fm.set v12.toNat i6,i64.wrap (i6+(1:Int))),⟨hZ,h16,(Zf (b:=⟨.any :: .any :: .lp 4 0 :: .any :: .rs hZ 0 fm.length 1 :: .rs fW 0 bX.length 4::sI (aa.fz x5 :: .int .i64 (i64.wrap (i6+(1:Int)))::ot []),[some [.nils,.int .i64 (0:Int)],none,none,none],h16⟩) (by kernel_rfl) (by simp only [Yt])),(by have o:Has h16 ((fW,.sl bX.length 4 (hH.l (cd bX gB)))::(hZ,.sl fm.length 1 (aa.l (fm.set v12.toNat i6)))::(jd bX gB++L)):=Eu; simpa only [Yt] using o)⟩,H⟩
 ·exact qx 10 <| ⟨rfl,fm,i6,oi H,.int .i64 i6,.bool (decide (i6<(x5.length:Int))),hZ,h15,by kernel_rfl,Br⟩
theorem ai.Pn (L:Mem)(fW:Nat)(bX:List ab)(fW:Nat)(gB:List Nat)(x5:(List Int))(kg:Nat)(cC:List Int)(kg:Nat)(iI:Nat)(i8:Int)(gO:List ab)(mR:Int)(iI:Nat)(AB:Int)(nA:ab)(It:ix bX AB=some nA)   : bL Tryz.prog cf mc m (sub [1,1,1,1,1,1,1,1,1,1,1,0,1,0,0,1,0,0,1,1,0,1,0,0] (codeOf Tryz.f46)) (fun k (σ:(List Int) × Int)=>ai.l7 m cC nA k σ.1 σ.2) (fun σ s=>match σ with | (ja,k4)=>∃mi h19,s=⟨.any :: .any :: .lp 4 0 :: .any :: .rs kg 0 cC.length 1 :: .rs fW 0 bX.length 4::sI (aa.fz x5 :: .any :: .lp 18 0 :: .int .i64 i8 :: .lp 20 0 :: .rs mi 0 ja.length 1 :: .int .i64 k4::sI []),[some [.nils,.int .i64 (0:Int)],none,some [.rs iI 0 gO.length 4,.int .i64 mR],some [.int .i64 nA.kind,.int .i64 nA.int,.str nA.label,.rs (Kh gB AB) 0 nA.args.length 1]],h19⟩∧Has h19 ((mi,.sl ja.length 1 (aa.l ja))::(iI,.sl gO.length 4 (ah.l gO))::(fW,.sl bX.length 4 (hH.l (cd bX gB)))::(kg,.sl cC.length 1 (aa.l cC))::(jd bX gB++L))) (fun out e s=>(e = .exit 14∧∃ja k4,(ja,k4)=out∧∃xS Po mi h19,s=⟨.any :: .any :: .lp 4 0 :: .any :: .rs kg 0 cC.length 1 :: .rs fW 0 bX.length 4::sI (aa.fz x5 :: .any :: .lp 18 0 :: .int .i64 i8 :: .lp 20 0 :: .rs mi 0 ja.length 1::xS::E1 [Po]),[some [.nils,.int .i64 (0:Int)],none,some [.rs iI 0 gO.length 4,.int .i64 mR],some [.int .i64 nA.kind,.int .i64 nA.int,.str nA.label,.rs (Kh gB AB) 0 nA.args.length 1]],h19⟩∧Has h19 ((mi,.sl ja.length 1 (aa.l ja))::(iI,.sl gO.length 4 (ah.l gO))::(fW,.sl bX.length 4 (hH.l (cd bX gB)))::(kg,.sl cC.length 1 (aa.l cC))::(jd bX gB++L)))):=by
 refine ig (fun _=>rfl) ?_
 rintro k ⟨ja,k4⟩ s out ⟨mi,h19,rfl,E7⟩ H
 have H:ai.l7 m cC nA (k+1) ja k4=some out:=H
 refine qq <| qq <| q0 <| qc H (fun c7 H=>?_) (fun c7 H=>?_)
 ·refine qk <| qq <| qb 15 ?_
  obtain⟨mo,Nb,H⟩:=aI H
  obtain⟨Nn,Nc,H⟩:=aI H
  obtain⟨x6,ON,H⟩:=aI H
  obtain⟨qU,h20,OO,Jl⟩:=fP (P:=Tryz.prog) (E:=aa) (l:=ja) (q:=0) (t2:=28) (x:=.fz [.int .i64 Nn] 1 true) (l2:=([Nn])) dJ E7 rfl (by kernel_rfl) rfl ON
  exact qr [.v 5 (aE (k:=.i64) (E:=aa) (l:=nA.args) dJ E7 (qF (pre:=[(mi,.sl ja.length 1 (aa.l ja)),(iI,.sl gO.length 4 (ah.l gO)),(fW,.sl bX.length 4 (hH.l (cd bX gB))),(kg,.sl cC.length 1 (aa.l cC))]) (ids:=gB) It) Nb),.v 6 (bf  (E:=aa) (l:=nA.args) E7 (qF (pre:=[(mi,.sl ja.length 1 (aa.l ja)),(iI,.sl gO.length 4 (ah.l gO)),(fW,.sl bX.length 4 (hH.l (cd bX gB))),(kg,.sl cC.length 1 (aa.l cC))]) (ids:=gB) It) A3 Nb rfl),.v 7 (aE (k:=.i64) (E:=aa) (l:=cC) (q:=3) dJ E7 rfl Nc),.v 8 (bf  (E:=aa) (l:=cC) (q:=3) E7 rfl A3 Nc rfl),.a 10 OO] <| q0 <| ⟨(x6,i64.wrap (k4+(1:Int))),⟨qU,h20,by kernel_rfl,Jl⟩,H⟩
 ·exact qx 14 <| ⟨rfl,ja,k4,oi H,.int .i64 k4,.bool (decide (k4<(nA.args.length:Int))),mi,h19,by kernel_rfl,E7⟩
theorem ai.HH (L:Mem)(fW:Nat)(bX:List ab)(fW:Nat)(gB:List Nat)(x5:(List Int))(kg:Nat)(cC:List Int)(kg:Nat)   : bL Tryz.prog cf mc m (sub [1,1,1,1,1,1,1,1,1,1,1,0,1,0,0] (codeOf Tryz.f46)) (fun k (σ:Int × (List ab) × Int)=>ai.l6 m bX x5 cC k σ.1 σ.2.1 σ.2.2) (fun σ s=>match σ with | (i8,gO,mR)=>∃iI h18,s=⟨.any :: .any :: .lp 4 0 :: .any :: .rs kg 0 cC.length 1 :: .rs fW 0 bX.length 4::sI (aa.fz x5 :: .any :: .lp 18 0 :: .int .i64 i8::pq []),[some [.nils,.int .i64 (0:Int)],none,some [.rs iI 0 gO.length 4,.int .i64 mR],none],h18⟩∧Has h18 ((iI,.sl gO.length 4 (ah.l gO))::(fW,.sl bX.length 4 (hH.l (cd bX gB)))::(kg,.sl cC.length 1 (aa.l cC))::(jd bX gB++L))) (fun out e s=>(e = .exit 12∧∃i8 gO mR,(i8,gO,mR)=out∧∃Ew xL Hl HN Pp iI h18,s=⟨.any :: .any :: .lp 4 0 :: .any::Ew::xL::sI (Hl :: .any :: .lp 18 0::HN::Ee [Pp,.any]),[some [.nils,.int .i64 (0:Int)],none,some [.rs iI 0 gO.length 4,.int .i64 mR],none],h18⟩∧Has h18 ((iI,.sl gO.length 4 (ah.l gO))::(fW,.sl bX.length 4 (hH.l (cd bX gB)))::(kg,.sl cC.length 1 (aa.l cC))::(jd bX gB++L)))):=by
 refine ig (fun _=>rfl) ?_
 rintro k ⟨i8,gO,mR⟩ s out ⟨iI,h18,rfl,xY⟩ H
 have H:ai.l6 m bX x5 cC (k+1) i8 gO mR=some out:=H
 refine qq <| qq <| q0 <| qc H (fun c6 H=>?_) (fun c6 H=>?_)
 ·refine qk <| qq <| qb 13 <| qq ?_
  obtain⟨AB,Mc,H⟩:=aI H
  obtain⟨nA,It,H⟩:=aI H
  refine qr [.v 3 (bI (k:=.i64) (E:=aa) (l:=x5) dJ Mc),.v 4 (dv  (E:=aa) (l:=x5) h18 A3 Mc rfl),.v 5 (aE (k:=.i64) (E:=hH) (l:=(cd bX gB)) (q:=1) mf xY rfl (kz It)),.v 6 (I0  (E:=hH) (l:=(cd bX gB)) (q:=1) xY rfl tQ tR (kz It))] <| qq <| q0 ?_
  have GY:Has h18 ((((((0)))),.sl (([]:List Int).length) 1 (aa.l ([]:List Int)))::(iI,.sl gO.length 4 (ah.l gO))::(fW,.sl bX.length 4 (hH.l (cd bX gB)))::(kg,.sl cC.length 1 (aa.l cC))::(jd bX gB++L)):=Has.nil xY 1
  refine qq <| qq <| q0 <| qb 14 ?_
  obtain⟨GS,Me,H⟩:=aI H
  refine ql (ai.Pn L fW bX fW gB x5 kg cC kg iI i8 gO mR iI AB nA It   (([]:List Int),(0:Int)) _ _ ⟨((((0)))),h18,by kernel_rfl,GY⟩ Me) ?_
  rintro e s ⟨rfl,Ab,k5,rfl,g15,g16,qV,h21,rfl,OQ⟩
  try dsimp only at H
  refine qq ?_
  obtain⟨h22,Nd,nv⟩:=iS (E:=aa) (l:=Ab) (q:=0) OQ rfl
  refine zt [.a 0 Nd] [] ?_
  obtain⟨x7,OP,H⟩:=aI H
  obtain⟨Mu,h23,Jm,Ko⟩:=fP (P:=Tryz.prog) (E:=ah) (l:=gO) (q:=0) (t2:=42) (x:=.fz [.int .i64 nA.kind,.int .i64 nA.int,.str nA.label,aa.fz Ab] 1 true) (l2:=([(ab.mk nA.kind nA.int nA.label Ab)])) mf nv rfl (by kernel_rfl) rfl OP
  exact qr [.a 4 Jm] <| q0 <| ⟨(i64.wrap (i8+(1:Int)),x7,mR),⟨Mu,h23,by kernel_rfl,Ko⟩,H⟩
 ·exact qx 12 <| ⟨rfl,i8,gO,mR,oi H,.rs kg 0 cC.length 1,.rs fW 0 bX.length 4,aa.fz x5,.int .i64 i8,.bool (decide (i8<(x5.length:Int))),iI,h18,by kernel_rfl,xY⟩
theorem q6 {aU:FuncId→cm}(ha:aU 46=mc)(Pq:UR cf m)(SP:UH cf m)(l0:List ab)(gQ:Int)(h:AHeap)(L:Mem)  (o:Has h (L)){out:an}(H:ai.f m l0 gQ=some out) :
  ∃r h',be Tryz.prog aU cf m 46 [ah.fz l0,.int .i64 gQ] h=some (r,h')∧xz h' r (.agg [ah.fz out.nodes,.int .i64 out.root]):=by
 refine aq (fn:=Tryz.f46) ha Tryz.func46 (by kernel_rfl) (by kernel_rfl) ?_
 refine aG (Q:=fun s=>ai.fin L out s) (fun _ _ h=>h) ?_
 have H:_=some out:=H
 unfold ai.f at H
 show dt _ cf mc m _ ⟨ah.fz l0 :: .int .i64 gQ::Oe [],[none,none,none,none],h⟩ _
 refine q1 <| qq ?_
 obtain⟨x0,e0,H⟩:=aI H
 refine qr [.a 2 (Pq _ _ _ e0 h _ (ia (ae (cW (E:=ah)) (ae (aN) (aB)))))] <| qq ?_
 obtain⟨x1,e1,H⟩:=aI H
 obtain⟨az,h0,e2,o0⟩:=om (P:=Tryz.prog) (E:=aa) (z:=(0:Int)) (zv:=.int .i64 (0:Int)) dJ o 3 rfl rfl rfl rfl e1
 refine qr [.a 2 e2] <| qq <| q0 ?_
 have o1:Has h0 (((0),.sl (([]:List ab).length) 4 (hH.l (cd ([]:List ab) ([]:List Nat))))::(az,.sl x1.length 1 (aa.l x1))::(jd ([]:List ab) ([]:List Nat)++L)):=Has.nil o0 4
 refine qq <| qq <| q0 <| qb 0 ?_
 obtain⟨bg,e6,H⟩:=aI H
 refine ql (ai.bP L l0 x0   (x1,(0:Int)) _ _ ⟨az,h0,by kernel_rfl,o1⟩ e6) ?_
 rintro e s ⟨rfl,bc,i1,rfl,g0,g1,dh,h3,rfl,o4⟩
 try dsimp only at H
 refine qq <| qq <| q0 <| qb 2 ?_
 obtain⟨ik,wy,H⟩:=aI H
 refine ql (ai.fC L l0 x0 dh bc dh   (([]:List ab),(0:Int)) _ _ ⟨(0),([]:List Nat),h3,by kernel_rfl,o4⟩ wy) ?_
 rintro e s ⟨rfl,uP,i3,rfl,g4,g5,g6,g7,ly,MB,h9,rfl,wq⟩
 try dsimp only at H
 refine qq ?_
 obtain⟨x4,xQ,H⟩:=aI H
 refine qr [.a 1 (SP _ _ xQ h9 _ (ia (ae (Gl (pre:=[(ly,.sl uP.length 4 (hH.l (cd uP MB))),(dh,.sl bc.length 1 (aa.l bc))]) (ns:=uP) (ids:=MB) (q:=0) wq rfl) (aB))))] <| qq <| qq <| q0 <| qb 6 ?_
 obtain⟨cF,GI,H⟩:=aI H
 refine ql (ai.uj L dh bc dh x4   (uP,(0:Int)) _ _ ⟨ly,MB,h9,by kernel_rfl,wq⟩ GI) ?_
 rintro e s ⟨rfl,bX,i5,rfl,g10,g11,g12,fW,gB,h14,rfl,ml⟩
 try dsimp only at H
 refine qq ?_
 obtain⟨x5,Ir,H⟩:=aI H
 refine qr [.a 1 (Pq _ _ _ Ir h14 _ (ia (ae (Gl (pre:=[(fW,.sl bX.length 4 (hH.l (cd bX gB))),(dh,.sl bc.length 1 (aa.l bc))]) (ns:=bX) (ids:=gB) (q:=0) ml rfl) (ae (aN) (aB)))))] <| qq <| qq <| q0 <| qb 10 ?_
 obtain⟨uv,Jj,H⟩:=aI H
 refine ql (ai.HI L fW bX fW gB x5   (bc,(0:Int)) _ _ ⟨dh,h14,by kernel_rfl,ml⟩ Jj) ?_
 rintro e s ⟨rfl,cC,i7,rfl,g13,g14,kg,h17,rfl,Ev⟩
 try dsimp only at H
 refine q1 ?_
 have Md:Has h17 (((((0))),.sl (([]:List ab).length) 4 (ah.l ([]:List ab)))::(fW,.sl bX.length 4 (hH.l (cd bX gB)))::(kg,.sl cC.length 1 (aa.l cC))::(jd bX gB++L)):=Has.nil Ev 4
 refine qq <| qq <| q0 <| qb 12 ?_
 obtain⟨Kz,Km,H⟩:=aI H
 refine ql (ai.HH L fW bX fW gB x5 kg cC kg   ((0:Int),([]:List ab),(0:Int)) _ _ ⟨(((0))),h17,by kernel_rfl,Md⟩ Km) ?_
 rintro e s ⟨rfl,i9,JH,HV,rfl,g17,g18,g19,g20,g21,iu,h24,rfl,Iu⟩
 try dsimp only at H
 refine qq ?_
 obtain⟨h25,Kn,OR⟩:=iS (E:=ah) (l:=JH) (q:=0) Iu rfl
 refine zt [.a 0 Kn] [] ?_
 have OS:Has h25 ((fW,.sl bX.length 4 (hH.l (cd bX gB)))::(jd bX gB++L)):=Has.del OR 1
 have PV:Has h25 (L):=Has.gone (pre:=[]) (Has.del OS 0)
 obtain rfl:=oi H
 exact qt <| ⟨.inl rfl,vk (.agg [ah.fz JH,.int .i64 HV]) h25 (oK (dN (ae (cW) (ae (aN) (aB)))))⟩
end
end Go.Proofs.YtmekcfdllhphlaaGreatDoor
namespace Go.Proofs.YtmekcfdllhphlaaGreatDoor
open Go Go.R
open Go.IntKind (i64 u64 u8 u32)
def Dj:cm:=gI [0,1,2,3,6] [1,2] [25,9,19,19] [] []
def fh.f (m:Nat)(t0:an):Option (an × Int):=(b6.f m t0).bind fun x0=>if (!x0)=true then (some ((an.mk ([]) (0:Int)),(2:Int))) else ((ai.f m t0.nodes t0.root).bind fun x1=>some (x1,(0:Int)))
def fh.fin (L:Mem)(r:an × Int)(s:St):Prop:=∃av,aH Tryz.prog (s.open Dj) Tryz.f29.results.toList=some av∧xz s.h av (.tup [.agg [ah.fz r.1.nodes,.int .i64 r.1.root],.int .i64 r.2])
def SQ (cf:CallF)(m:Nat):Prop:=∀(t0:an) (r:an × Int),fh.f m t0=some r→∀h xs,l9 xs [.agg [ah.fz t0.nodes,.int .i64 t0.root]]→cf 29 xs h=some (.tup [.agg [ah.fz r.1.nodes,.int .i64 r.1.root],.int .i64 r.2],h)
section
variable {cf:CallF}{m:Nat}
theorem q7 {aU:FuncId→cm}(ha:aU 29=Dj)(SS:U0 cf m)(SU:U1 cf m)(t0:an)(h:AHeap)(L:Mem)  (o:Has h (L)){out:an × Int}(H:fh.f m t0=some out) :
  ∃r h',be Tryz.prog aU cf m 29 [.agg [ah.fz t0.nodes,.int .i64 t0.root]] h=some (r,h')∧xz h' r (.tup [.agg [ah.fz out.1.nodes,.int .i64 out.1.root],.int .i64 out.2]):=by
 refine aq (fn:=Tryz.f29) ha Tryz.func29 (by kernel_rfl) (by kernel_rfl) ?_
 refine aG (Q:=fun s=>fh.fin L out s) (fun _ _ h=>h) ?_
 have H:_=some out:=H
 unfold fh.f at H
 show dt _ cf Dj m _ ⟨.agg [ah.fz t0.nodes,.int .i64 t0.root]::oH [],[none,none],h⟩ _
 refine q1 <| qq <| qq ?_
 obtain⟨x0,e0,H⟩:=aI H
 refine qr [.a 1 (SS _ _ e0 h _ (ia (ae (dN (ae (cW (E:=ah)) (ae (aN) (aB)))) (aB))))] <| qc H (fun c0 H=>?_) (fun c0 H=>?_)
 ·obtain rfl:=oi H
  exact q1 <| qt <| ⟨.inl rfl,vk (.tup [.agg [.nils,.int .i64 (0:Int)],.int .i64 (2:Int)]) h (oK (fQ (ae (dN (ae (gr) (ae (aN) (aB)))) (ae (aN) (aB)))))⟩
 ·refine qk <| qq ?_
  obtain⟨x1,e1,H⟩:=aI H
  obtain rfl:=oi H
  exact qr [.a 4 (SU _ _ _ e1 h _ (cY (iE (E:=ah)) (cY (bJ) (gZ))))] <| qt <| ⟨.inl rfl,vk (.tup [.agg [ah.fz x1.nodes,.int .i64 x1.root],.int .i64 (0:Int)]) h (oK (fQ (ae (dN (ae (cW) (ae (aN) (aB)))) (ae (aN) (aB)))))⟩
end
end Go.Proofs.YtmekcfdllhphlaaGreatDoor
namespace Go.Proofs.YtmekcfdllhphlaaGreatDoor
open Go Go.R
open Go.IntKind (i64 u64 u8 u32)
def fZ.l0 (m:Nat)  : Nat→Int→(List Int)→Option (Int × (List Int))
 | 0,_,_=>none
 | k+1,n1,bg=>if (decide (n1≥(128:Int)))=true then ((app 1 bg ([u8.wrap (u64.wrap (Zp n1 (128:Int)+(128:Int)))])).bind fun x0=>fZ.l0 m k (u64.wrap (Int.tdiv n1 (128:Int))) x0) else (some ((n1,bg)))
def fZ.f (m:Nat)(n0:Int):Option ((List Int)):=(fZ.l0 m m n0 ([]:List Int)).bind fun ik=>match ik with | (n2,bR)=>(app 1 bR ([u8.wrap n2])).bind fun x1=>some x1
end Go.Proofs.YtmekcfdllhphlaaGreatDoor
namespace Go.Proofs.YtmekcfdllhphlaaGreatDoor
open Go Go.R
open Go.IntKind (i64 u64 u8 u32)
end Go.Proofs.YtmekcfdllhphlaaGreatDoor
namespace Go.Proofs.YtmekcfdllhphlaaGreatDoor
open Go Go.R
open Go.IntKind (i64 u64 u8 u32)
end Go.Proofs.YtmekcfdllhphlaaGreatDoor
namespace Go.Proofs.YtmekcfdllhphlaaGreatDoor
open Go Go.R
open Go.IntKind (i64 u64 u8 u32)
end Go.Proofs.YtmekcfdllhphlaaGreatDoor
namespace Go.Proofs.YtmekcfdllhphlaaGreatDoor
open Go Go.R
open Go.IntKind (i64 u64 u8 u32)
end Go.Proofs.YtmekcfdllhphlaaGreatDoor
namespace Go.Proofs.YtmekcfdllhphlaaGreatDoor
open Go Go.R
open Go.IntKind (i64 u64 u8 u32)
theorem Pt {a b:List Int}(h:a.length+b.length≤500000000000):app 1 a b=some (a++b):=by unfold app; rw [if_pos (by omega)]
theorem KA {m:Nat}:∀(k f n:Nat) (out:List Int),k<f→n<128 ^ (k+1)→n<2 ^ 64→out.length+k≤400000000000→
  ∃(n':Nat) (ya:List Int),fZ.l0 m f (n:Int) out=some ((n':Int),ya)∧n'<128∧ya++[(n':Int)]=out++de n
 | k,0,n,out,hf,_,_,_=>absurd hf (by omega)
 | k,f+1,n,out,hf,hn,h64,hl=>by
  have Ni:(2:Nat) ^ 64=18446744073709551616:=by decide
  unfold fZ.l0
  by_cases h:n<128
  ·rw [if_neg (by simp only [ge_iff_le,decide_eq_true_eq]; omega)]
   exact⟨n,out,rfl,h,by rw [jm h]⟩
  ·cases k with
   | zero=>simp at hn; omega
   | succ k=>
    have hd:n / 128<128 ^ (k+1):=Nat.div_lt_of_lt_mul (by rw [Nat.mul_comm,←Nat.pow_succ]; exact hn)
    have e1:Zp (n:Int) 128=((n % 128:Nat):Int):=by rw [ZO (by omega)]; omega
    have e2:Int.tdiv (n:Int) 128=((n / 128:Nat):Int):=by rw [Int.tdiv_eq_ediv_of_nonneg (by omega)]; omega
    obtain⟨n',ya,k1,k2,k3⟩:=KA (m:=m) k f (n / 128) (out++[((n % 128+128:Nat):Int)]) (by omega) hd (by omega) (by simp; omega)
    refine⟨n',ya,?_,k2,?_⟩
    ·rw [if_pos (by simp only [ge_iff_le,decide_eq_true_eq]; omega),e1,e2,gm (x:=((n % 128:Nat):Int)+128) (by omega) (by omega),gm (x:=((n / 128:Nat):Int)) (by omega) (by omega),fR,
      show (((n % 128:Nat):Int)+128) % 256=((n % 128+128:Nat):Int) by omega,Pt (by simp; omega),Yj,k1]
    ·rw [k3,lh h]; simp
theorem rn {m n:Nat}(hm:11≤m)(hn:n<2 ^ 64):fZ.f m (n:Int)=some (de n):=by
 have Ni:(2:Nat) ^ 64=18446744073709551616:=by decide
 obtain⟨n',ya,k1,k2,k3⟩:=KA (m:=m) 9 m n [] (by omega) (by omega) hn (by simp)
 unfold fZ.f
 rw [k1,Yj]
 dsimp only
 have hlen:=congrArg ZS k3
 simp only [Ys,YD,Y6,YG] at hlen
 have:=di hn
 rw [fR,show (n':Int) % 256=(n':Int) by omega,Pt (by simp; omega),k3]
 rfl
end Go.Proofs.YtmekcfdllhphlaaGreatDoor
namespace Go.Proofs.YtmekcfdllhphlaaGreatDoor
open Go Go.R
open Go.IntKind (i64 u64 u8 u32)
theorem uQ (x:Int):u32.wrap x=x % 4294967296:=by
 unfold IntKind.wrap; simp [IntKind.signed,IntKind.bits]
theorem MC (n:Nat):YS 32 (n:Int)=Y9 32 n:=by
 apply BitVec.eq_of_toNat_eq; simp
end Go.Proofs.YtmekcfdllhphlaaGreatDoor
namespace Go.Proofs.YtmekcfdllhphlaaGreatDoor
open Go Go.R
open Go.IntKind (i64 u64 u8 u32)
theorem yr {m:Nat}(c:Int):ff.f m c=some (gW c):=by
 unfold ff.f
 by_cases h1:97≤c<;>by_cases h2:c≤122<;>by_cases h3:65≤c<;>by_cases h4:c≤90<;>by_cases h5:48≤c<;>by_cases h6:c≤57<;>simp [gW,h1,h2,h3,h4,h5,h6]<;>omega
theorem Ad {m:Nat}{s:ByteArray}(hs:s.size≤16):∀(f i:Nat),s.size - i<f→i≤s.size→
  ∃o,cw.l0 m s f (i:Int)=some o∧((∃x,o = .inr x)∧((s.data.toList.drop i).all fun c=>gW (c.toNat:Int))=true∨o = .inl false∧((s.data.toList.drop i).all fun c=>gW (c.toNat:Int))=false)
 | 0,i,hf,_=>absurd hf (by omega)
 | f+1,i,hf,hi=>by
  unfold cw.l0
  by_cases h:i<s.size
  ·obtain⟨c,hc,hb⟩:=sJ h
   obtain⟨h4,h5⟩:=Yu.1 hc
   have hd:s.data.toList.drop i=c::s.data.toList.drop (i+1):=by rw [←h5]; exact Yz h4
   rw [if_pos (by simp only [decide_eq_true_eq]; omega),hb,Yj,yr,Yj,hd,Zg]
   cases hl:gW (c.toNat:Int) with
   | false=>exact⟨_,rfl,.inr ⟨rfl,rfl⟩⟩
   | true=>
    obtain⟨o,h1,h2⟩:=Ad (m:=m) hs f (i+1) (by omega) (by omega)
    rw [if_neg (by simp),aA (by omega) (by omega),show (i:Int)+1=((i+1:Nat):Int) by omega,h1]
    exact⟨o,rfl,by simpa using h2⟩
  ·refine⟨_,by rw [if_neg (by simp only [decide_eq_true_eq]; omega)],.inl ⟨⟨_,rfl⟩,?_⟩⟩
   rw [Y3 (by simp; omega)]; rfl
def HW (s:ByteArray):Bool:=decide (1≤s.data.toList.length)&&decide (s.data.toList.length≤16)&&s.data.toList.all fun c=>gW (c.toNat:Int)
theorem BS {m:Nat}(hm:20≤m)(s:ByteArray):cw.f m s=some (HW s):=by
 have hsz:s.size=s.data.toList.length:=by simp
 unfold cw.f HW
 by_cases h1:1≤s.data.toList.length
 ·by_cases h2:s.data.toList.length≤16
  ·obtain⟨o,k1,k2⟩:=Ad (m:=m) (s:=s) (by omega) m 0 (by omega) (by omega)
   have k1:cw.l0 m s m 0=_:=k1
   rw [YZ] at k2
   rw [if_neg (by simp only [decide_eq_true_eq]; omega),if_neg (by simp only [decide_eq_true_eq]; omega),k1,Yj,decide_eq_true h1,decide_eq_true h2]
   simp only [Zy]
   rcases k2 with⟨⟨x,rfl⟩,k⟩| ⟨rfl,k⟩
   ·rw [k]
   ·rw [k]
  ·rw [if_neg (by simp only [decide_eq_true_eq]; omega),if_pos (by simp only [decide_eq_true_eq]; omega),decide_eq_false h2,Bool.and_false]; rfl
 ·rw [if_pos (by simp only [decide_eq_true_eq]; omega),decide_eq_false h1]; rfl
theorem rN {m:Nat}(hm:20≤m)(s:ByteArray):ep.f m s=some (ma s):=by
 have hsz:s.size=s.data.toList.length:=by simp
 unfold ep.f ma
 show (if (s.data.toList==[124])=true then _ else if (s.data.toList==[35])=true then _ else _)=_
 cases h1:s.data.toList==[124] with
 | true=>rfl
 | false=>
  cases h2:s.data.toList==[35] with
  | true=>rfl
  | false=>
   simp only [YA,if_false,Bool.false_or]
   rw [BS hm,Yj]
   unfold HW zB
   cases hl:s.data.toList with
   | nil=>rfl
   | cons c cs=>
    obtain⟨c',g1,g2⟩:=sJ (s:=s) (i:=0) (by rw [hsz,hl]; simp)
    rw [hl] at g1
    simp only [Y1,Ym] at g1
    subst g1
    have g2:bt s 0=_:=g2
    rw [g2]
    simp only [Yj,YD]
    cases ha:(c::cs).all fun c=>gW (c.toNat:Int) with
    | false=>simp
    | true=>
     by_cases h3:cs.length≤15
     ·rw [decide_eq_true (show 1≤cs.length+1 by omega),decide_eq_true (show cs.length+1≤16 by omega),decide_eq_true h3]
      simp only [Bool.and_self,if_true,Bool.and_true,Zy]
      by_cases h4:(97:Int)≤(c.toNat:Int)
      ·rw [if_pos (by simpa using h4),decide_eq_true h4]; rfl
      ·rw [if_neg (by simpa using h4),decide_eq_false h4]; rfl
     ·rw [decide_eq_false (show ¬cs.length+1≤16 by omega),decide_eq_false h3]; simp
theorem Ae {m:Nat}{n:ab}{size:Int}(h8:n.args.length≤8):∀(f i:Nat),n.args.length - i<f→i≤n.args.length→
  ∃o,b5.l0 m n size f (i:Int)=some o∧((∃x,o = .inr x)∧((n.args.drop i).all fun a=>decide (0≤a)&&decide (a<size))=true∨o = .inl false∧((n.args.drop i).all fun a=>decide (0≤a)&&decide (a<size))=false)
 | 0,i,hf,_=>absurd hf (by omega)
 | f+1,i,hf,hi=>by
  unfold b5.l0
  by_cases h:i<n.args.length
  ·have hd:n.args.drop i=gt n.args i::n.args.drop (i+1):=by
    obtain⟨h4,h5⟩:=Yu.1 (bu h)
    rw [←h5]; exact Yz h4
   rw [if_pos (by simp only [decide_eq_true_eq]; omega),cy h,Yj,hd,Zg,Yj]
   by_cases h1:gt n.args i<0
   ·rw [if_pos (by simpa using h1),decide_eq_false (show ¬0≤gt n.args i by omega)]
    exact⟨_,rfl,.inr ⟨rfl,rfl⟩⟩
   ·rw [if_neg (by simpa using h1),decide_eq_true (show 0≤gt n.args i by omega)]
    by_cases h2:gt n.args i<size
    ·obtain⟨o,k1,k2⟩:=Ae (m:=m) (size:=size) h8 f (i+1) (by omega) (by omega)
     rw [if_neg (by simp only [decide_eq_true_eq]; omega),decide_eq_true h2,aA (by omega) (by omega),show (i:Int)+1=((i+1:Nat):Int) by omega,k1]
     exact⟨o,rfl,by simpa using k2⟩
    ·rw [if_pos (by simp only [decide_eq_true_eq]; omega),decide_eq_false h2]
     exact⟨_,rfl,.inr ⟨rfl,rfl⟩⟩
  ·refine⟨_,by rw [if_neg (by simp only [decide_eq_true_eq]; omega)],.inl ⟨⟨_,rfl⟩,?_⟩⟩
   rw [Y3 (by omega)]; rfl
theorem BT {m:Nat}(hm:20≤m)(n:ab)(size:Int):b5.f m n size=some (kB n size):=by
 unfold b5.f kB
 by_cases k0:n.kind=0
 ·rw [if_pos (by simpa using k0),if_pos k0]
  by_cases h1:0≤n.int
  ·rw [if_pos (by simpa using h1),show decide (0≤n.int)=true by simpa using h1]
   show (if (n.label.data.toList==[])=true then _ else _)=_
   cases n.label.data.toList==[] with
   | true=>rw [if_pos rfl,zD]; rfl
   | false=>rfl
  ·rw [if_neg (by simpa using h1),show decide (0≤n.int)=false by simp; omega]; rfl
 rw [if_neg (by simpa using k0),if_neg k0]
 by_cases k1:n.kind=1
 ·rw [if_pos (by simpa using k1),if_pos k1]
  by_cases h1 : -1099511627776≤n.int
  ·rw [if_pos (by simpa using h1),show decide (-1099511627776≤n.int)=true by simpa using h1]
   by_cases h3:n.int≤1099511627776
   ·rw [if_pos (by simpa using h3),show decide (n.int≤1099511627776)=true by simpa using h3]
    show (if (n.label.data.toList==[])=true then _ else _)=_
    cases n.label.data.toList==[] with
    | true=>rw [if_pos rfl,zD]; rfl
    | false=>rfl
   ·rw [if_neg (by simpa using h3),show decide (n.int≤1099511627776)=false by simp; omega]; rfl
  ·rw [if_neg (by simpa using h1),show decide (-1099511627776≤n.int)=false by simp; omega]; rfl
 rw [if_neg (by simpa using k1),if_neg k1]
 by_cases k2:n.kind=2
 ·rw [if_pos (by simpa using k2),if_pos k2,rN hm,Yj]
  cases ma n.label with
  | false=>simp
  | true=>
   rw [if_pos rfl]
   cases h1:n.int==0 with
   | false=>rfl
   | true=>rw [if_pos rfl,zD]; rfl
 rw [if_neg (by simpa using k2),if_neg k2]
 by_cases k4:n.kind=4
 ·rw [if_pos (by simpa using k4),if_neg (show ¬n.kind=3 by omega),if_pos k4]
  unfold zC
  show (if (n.label.data.toList==[112,114,111,99])=true then _ else if (n.label.data.toList==[99,101,108,108])=true then _ else if (n.label.data.toList==[112,111,114,116])=true then _ else _)=_
  by_cases h1:0≤n.int
  ·have d1:decide (n.int≥0)=true:=decide_eq_true h1
   rw [d1]
   cases n.label.data.toList==[112,114,111,99]<;>cases n.label.data.toList==[99,101,108,108]<;>cases n.label.data.toList==[112,111,114,116]<;>first | rfl | (show some ((n.args.length:Int)==(0:Int))=_; rw [zD]; rfl)
  ·have d1:decide (n.int≥0)=false:=decide_eq_false h1
   rw [d1]
   cases n.label.data.toList==[112,114,111,99]<;>cases n.label.data.toList==[99,101,108,108]<;>cases n.label.data.toList==[112,111,114,116]<;>rfl
 rw [if_neg (by simpa using k4)]
 by_cases k3:n.kind=3
 ·rw [if_pos (by simpa using k3),if_pos k3,rN hm,Yj]
  cases ma n.label with
  | false=>simp
  | true=>
   cases h1:n.int==0 with
   | false=>rfl
   | true=>
    simp only [Bool.not_true,YA,if_false,Bool.and_self,Zy]
    by_cases g1:1≤n.args.length
    ·rw [if_neg (by simp only [decide_eq_true_eq]; omega),decide_eq_true g1]
     by_cases g2:n.args.length≤8
     ·obtain⟨o,k1,k2⟩:=Ae (m:=m) (size:=size) g2 m 0 (by omega) (by omega)
      have k1:b5.l0 m n size m 0=_:=k1
      rw [YZ] at k2
      rw [if_neg (by simp only [decide_eq_true_eq]; omega),decide_eq_true g2,k1,Yj]
      simp only [Zy]
      rcases k2 with⟨⟨x,rfl⟩,k⟩| ⟨rfl,k⟩
      ·rw [k]
      ·rw [k]
     ·rw [if_pos (by simp only [decide_eq_true_eq]; omega),decide_eq_false g2]; simp
    ·rw [if_pos (by simp only [decide_eq_true_eq]; omega),decide_eq_false g1]; simp
 rw [if_neg (by simpa using k3),if_neg k3,if_neg k4]
theorem wJ {m:Nat}(hm:20≤m){t:an}(hl:t.nodes.length≤8000):∀(f i:Nat),t.nodes.length - i<f→i≤t.nodes.length→
  ∃o,b6.l0 m t f (i:Int)=some o∧((∃x,o = .inr x)∧((t.nodes.drop i).all fun n=>kB n t.nodes.length)=true∨o = .inl false∧((t.nodes.drop i).all fun n=>kB n t.nodes.length)=false)
 | 0,i,hf,_=>absurd hf (by omega)
 | f+1,i,hf,hi=>by
  unfold b6.l0
  by_cases h:i<t.nodes.length
  ·have hx:ix t.nodes (i:Int)=some t.nodes[i]:=by unfold ix; rw [if_pos (by omega)]; simp [h]
   rw [if_pos (by simp only [decide_eq_true_eq]; omega),hx,Yj,BT hm,Yj,Yz h,Zg]
   cases hb:kB t.nodes[i] t.nodes.length with
   | false=>exact⟨_,rfl,.inr ⟨rfl,rfl⟩⟩
   | true=>
    obtain⟨o,k1,k2⟩:=wJ (m:=m) hm hl f (i+1) (by omega) (by omega)
    rw [if_neg (by simp),aA (by omega) (by omega),show (i:Int)+1=((i+1:Nat):Int) by omega,k1]
    exact⟨o,rfl,by simpa using k2⟩
  ·refine⟨_,by rw [if_neg (by simp only [decide_eq_true_eq]; omega)],.inl ⟨⟨_,rfl⟩,?_⟩⟩
   rw [Y3 (by omega)]; rfl
theorem Af {m:Nat}(hm:2 ^ 30≤m)(t:an):b6.f m t=some (ej t):=by
 have lE:(2:Nat) ^ 30=1073741824:=by decide
 unfold b6.f ej
 by_cases h1:1≤t.nodes.length
 ·rw [if_neg (by simp only [decide_eq_true_eq]; omega),decide_eq_true h1]
  by_cases h2:t.nodes.length≤8000
  ·rw [if_neg (by simp only [decide_eq_true_eq]; omega),decide_eq_true h2]
   by_cases h3:0≤t.root
   ·rw [if_neg (by simp only [decide_eq_true_eq]; omega),decide_eq_true h3]
    by_cases h4:t.root<t.nodes.length
    ·rw [if_neg (by simp only [decide_eq_true_eq]; omega),decide_eq_true h4]
     obtain⟨o,k1,k2⟩:=wJ (m:=m) (t:=t) (by omega) h2 m 0 (by omega) (by omega)
     have k1:b6.l0 m t m 0=_:=k1
     rw [YZ] at k2
     rw [k1,Yj]
     simp only [Zy]
     rcases k2 with⟨⟨x,rfl⟩,k⟩| ⟨rfl,k⟩
     ·rw [k]
     ·rw [k]
    ·rw [if_pos (by simp only [decide_eq_true_eq]; omega),decide_eq_false h4]; rfl
   ·rw [if_pos (by simp only [decide_eq_true_eq]; omega),decide_eq_false h3]; rfl
  ·rw [if_pos (by simp only [decide_eq_true_eq]; omega),decide_eq_false h2]; rfl
 ·rw [if_pos (by simp only [decide_eq_true_eq]; omega),decide_eq_false h1]; rfl
end Go.Proofs.YtmekcfdllhphlaaGreatDoor
namespace Go.Proofs.YtmekcfdllhphlaaGreatDoor
open Go Go.R
open Go.IntKind (i64 u64 u8 u32)
theorem rM.refl {l:List ab}{c:List Int}(i:Nat):rM l c i i:=⟨Alike.refl _,fun _ _=>rfl⟩
theorem rM.symm {l:List ab}{c:List Int}{i j:Nat}(h:rM l c i j):rM l c j i:=⟨h.1.symm,fun k hk=>(h.2 k (by have:=h.1.len; unfold na at *; omega)).symm⟩
theorem rM.trans {l:List ab}{c:List Int}{i j q:Nat}(h:rM l c i j)(g:rM l c j q):rM l c i q:=
 ⟨h.1.trans g.1,fun k hk=>(h.2 k hk).trans (g.2 k (by have:=h.1.len; unfold na at *; omega))⟩
theorem EI.symm {l:List ab}{R:Nat→Nat→Prop}(B:EI l R):EI l fun i j=>R j i:=
 ⟨fun i j h=>(B.nP j i h).symm,fun i j h=>(B.top j i h).symm,fun i j h k hk=>B.arg j i h k (by have:=(B.top j i h).len; omega)⟩
structure Ix (l:List ab)(cls:List Int)(dn:List Bool)(fs od:List Int):Prop where
 lc:cls.length=l.length
 ld:dn.length=l.length
 SV:od.Nodup
 MD:∀x∈od,0≤x∧x<l.length
 Iy:∀i,i<l.length→(gb dn i=true↔(i:Int)∈od)
 vA:∀i:Nat,(i:Int)∈od→∀k,k<na l i→((ar l i k:Nat):Int)∈od∧od.idxOf ((ar l i k:Nat):Int)<od.idxOf (i:Int)
 Qf:fs.Nodup
 fst:∀f∈fs,f∈od∧gt cls f.toNat=f
 qe:∀i:Nat,(i:Int)∈od→gt cls i∈fs∧rM l cls i (gt cls i).toNat
 apart:∀f∈fs,∀g∈fs,rM l cls f.toNat g.toNat→f=g
 coarse:∀R,EI l R→∀i j:Nat,R i j→(i:Int)∈od→(j:Int)∈od→gt cls i=gt cls j
theorem Dk {od:List Int}{n:Nat}(h:od.Nodup)(hr:∀x∈od,0≤x∧x<n):od.length≤n:=by
 have:=h.length_le_of_subset (l₂:=ints n) (fun x hx=>iV.2 (hr x hx))
 rwa [dS] at this
theorem Ix.SW {l cls dn fs od}(P:Ix l cls dn fs od):∀f∈fs,0≤f∧f<l.length:=fun f hf=>P.MD f (P.fst f hf).1
theorem HX {l:List ab}{cls:List Int}{dn:List Bool}{fs od:List Int}(ok:lz l)(P:Ix l cls dn fs od){i:Nat}(hi:i<l.length)(hn:(i:Int)∉od)(hr:UQ l dn i){v:Int}
  (hv:v=i∧(∀f∈fs,¬rM l cls i f.toNat)∨v∈fs∧rM l cls i v.toNat) :
  Ix l (cls.set i v) (dn.set i true) (if v=i then fs++[(i:Int)] else fs) (od++[(i:Int)]):=by
 have U2:(i:Int)∉fs:=fun h=>hn (P.fst _ h).1
 have No:v∈fs→v≠i:=fun h e=>U2 (e ▸ h)
 have gc:∀x,x≠i→gt (cls.set i v) x=gt cls x:=fun x hx=>by rw [eh (by rw [P.lc]; exact hi),if_neg hx]
 have gi:gt (cls.set i v) i=v:=by rw [eh (by rw [P.lc]; exact hi),if_pos rfl]
 have ne:∀{x:Nat},(x:Int)∈od→x≠i:=fun h e=>hn (by rw [←e]; exact h)
 have ad:∀x:Nat,((x:Int)∈od∨x=i)→∀k,k<na l x→((ar l x k:Nat):Int)∈od:=fun x hx k hk=>by
  rcases hx with hx | rfl
  ·exact (P.vA x hx k hk).1
  ·exact (P.Iy _ (kC ok hi hk).1).1 (hr k hk)
 have sm:∀x y:Nat,((x:Int)∈od∨x=i)→((y:Int)∈od∨y=i)→(rM l (cls.set i v) x y↔rM l cls x y):=fun x y hx hy=>by
  constructor
  ·rintro⟨a,b⟩
   refine⟨a,fun k hk=>?_⟩
   have:=b k hk
   rwa [gc _ (ne (ad x hx k hk)),gc _ (ne (ad y hy k (by have:=a.len; unfold na at *; omega)))] at this
  ·rintro⟨a,b⟩
   refine⟨a,fun k hk=>?_⟩
   rw [gc _ (ne (ad x hx k hk)),gc _ (ne (ad y hy k (by have:=a.len; unfold na at *; omega)))]
   exact b k hk
 have fo:∀f∈fs,((f.toNat:Nat):Int)∈od∧((f.toNat:Nat):Int)=f:=fun f hf=>by
  have h:=P.fst f hf
  have r:=P.MD f h.1
  have e:((f.toNat:Nat):Int)=f:=by omega
  exact⟨by rw [e]; exact h.1,e⟩
 have split:∀{x:Int},x∈od++[(i:Int)]→x∈od∨x=i:=fun h=>by
  rcases Yy.1 h with h | h
  ·exact .inl h
  ·exact .inr (Yw.1 h)
 have one:∀R,EI l R→∀j:Nat,R i j→(j:Int)∈od→v=gt cls j:=fun R B j hR hj=>by
  obtain⟨g1,g2⟩:=P.qe j hj
  have s1:rM l cls i j:=⟨B.top i j hR,fun k hk=>P.coarse R B _ _ (B.arg i j hR k hk) (ad i (.inr rfl) k hk) (ad j (.inl hj) k (by have:=(B.top i j hR).len; unfold na at *; omega))⟩
  rcases hv with⟨rfl,h⟩| ⟨h1,h2⟩
  ·exact absurd (s1.trans g2) (h _ g1)
  ·exact P.apart v h1 _ g1 (h2.symm.trans (s1.trans g2))
 refine⟨by simpa using P.lc,by simpa using P.ld,?_,?_,fun x hx=>?_,fun x hx k hk=>?_,?_,fun f hf=>?_,fun x hx=>?_,fun f hf g hg hs=>?_,fun R B x y hR hx hy=>?_⟩
 ·rw [Zw]
  refine⟨P.SV,by simp,fun a ha b hb=>?_⟩
  rw [Yw] at hb
  subst hb; intro e; subst e; exact hn ha
 ·intro x hx
  rcases split hx with h | h
  ·exact P.MD x h
  ·omega
 ·rw [HK (by rw [P.ld]; exact hi),Yy,Yw]
  by_cases e:x=i
  ·subst e; simp
  ·rw [if_neg e,P.Iy x hx]
   constructor
   ·exact fun h=>.inl h
   ·rintro (h | h)
    ·exact h
    ·omega
 ·rcases split hx with h | h
  ·obtain⟨r1,r2⟩:=P.vA x h k hk
   refine⟨Y4 _ r1,?_⟩
   rw [Zv,if_pos r1,Zv,if_pos h]; exact r2
  ·have e:x=i:=by omega
   subst e
   have r1:=ad x (.inr rfl) k hk
   refine⟨Y4 _ r1,?_⟩
   rw [Zv,if_pos r1,Zv,if_neg hn]
   have:=Zl r1
   omega
 ·split
  ·rw [Zw]
   refine⟨P.Qf,by simp,fun a ha b hb=>?_⟩
   rw [Yw] at hb
   subst hb; intro e; subst e; exact U2 ha
  ·exact P.Qf
 ·have NR:f∈fs∨(f=i∧v=i):=by
   split at hf
   ·rcases Yy.1 hf with h | h
    ·exact .inl h
    ·exact .inr ⟨Yw.1 h,by assumption⟩
   ·exact .inl hf
  rcases NR with h | ⟨rfl,h2⟩
  ·obtain⟨a,b⟩:=P.fst f h
   refine⟨Y4 _ a,?_⟩
   rw [gc _ (by have:=(fo f h).1; exact ne this)]; exact b
  ·refine⟨by simp,?_⟩
   rw [Yq,gi]; exact h2
 ·have U3:∀z∈fs,z∈(if v=(i:Int) then fs++[(i:Int)] else fs):=fun z hz=>by
   split
   ·exact Y4 _ hz
   ·exact hz
  rcases split hx with h | h
  ·obtain⟨a,b⟩:=P.qe x h
   rw [gc x (ne h)]
   exact⟨U3 _ a,(sm x _ (.inl h) (.inl (fo _ a).1)).2 b⟩
  ·have e:x=i:=by omega
   subst e
   rw [gi]
   rcases hv with⟨rfl,_⟩| ⟨h1,h2⟩
   ·rw [if_pos rfl,Yq]
    exact⟨by simp,rM.refl _⟩
   ·exact⟨U3 _ h1,(sm x _ (.inr rfl) (.inl (fo _ h1).1)).2 h2⟩
 ·have cs:∀z,z∈(if v=(i:Int) then fs++[(i:Int)] else fs)→z∈fs∨(z=i∧v=i):=fun z hz=>by
   split at hz
   ·rcases Yy.1 hz with h | h
    ·exact .inl h
    ·exact .inr ⟨Yw.1 h,by assumption⟩
   ·exact .inl hz
  have U4:v=i→∀f∈fs,¬rM l cls i f.toNat:=fun e f hf=>by
   rcases hv with⟨_,h⟩| ⟨h,_⟩
   ·exact h f hf
   ·exact absurd e (No h)
  rcases cs f hf with h1 | ⟨rfl,e1⟩
  ·rcases cs g hg with h2 | ⟨rfl,e2⟩
   ·exact P.apart f h1 g h2 ((sm _ _ (.inl (fo f h1).1) (.inl (fo g h2).1)).1 hs)
   ·rw [Yq] at hs
    have:=(sm _ _ (.inl (fo f h1).1) (.inr rfl)).1 hs
    exact absurd this.symm (U4 e2 f h1)
  ·rcases cs g hg with h2 | ⟨rfl,e2⟩
   ·rw [Yq] at hs
    have:=(sm _ _ (.inr rfl) (.inl (fo g h2).1)).1 hs
    exact absurd this (U4 e1 g h2)
   ·rfl
 ·rcases split hx with h1 | h1
  ·rcases split hy with h2 | h2
   ·rw [gc x (ne h1),gc y (ne h2)]; exact P.coarse R B x y hR h1 h2
   ·have e:y=i:=by omega
    subst e
    rw [gc x (ne h1),gi]
    exact (one _ B.symm x hR h1).symm
  ·have e:x=i:=by omega
   subst e
   rcases split hy with h2 | h2
   ·rw [gc y (ne h2),gi]; exact one R B y hR h2
   ·have e:y=x:=by omega
    subst e; rfl
theorem yt {m:Nat}(hm:2 ^ 30≤m){l:List ab}(ok:lz l):∀(f i:Nat) (cls:List Int) (dn:List Bool) (fs od:List Int) (more:Bool),i<f→i≤l.length→Ix l cls dn fs od→
  ∃jF Ag Ah iH x u6,af.l1 m l f cls dn fs more ((i:Int) - 1)=some (jF,Ag,Ah,iH,x)∧Ix l jF Ag Ah u6∧od.length≤u6.length∧
   (iH=true→more=true∨od.length<u6.length)∧(iH=false→more=false∧u6=od∧∀j,j<i→(j:Int)∉od→∃k,k<na l j∧((ar l j k:Nat):Int)∉od)
 | 0,i,_,_,_,_,_,hf,_,_=>absurd hf (by omega)
 | f+1,0,cls,dn,fs,od,more,hf,hi,P=>by
  unfold af.l1
  rw [if_neg (by simp)]
  exact⟨cls,dn,fs,more,_,od,rfl,P,Yn _,fun h=>.inl h,fun h=>⟨h,rfl,fun j hj=>absurd hj (by omega)⟩⟩
 | f+1,i+1,cls,dn,fs,od,more,hf,hi,P=>by
  have lE:(2:Nat) ^ 30=1073741824:=by decide
  have h8:=ok.1
  have Bb:i<l.length:=by omega
  unfold af.l1
  have ei:((i+1:Nat):Int) - 1=(i:Int):=by omega
  have ew:i64.wrap ((i:Int) - 1)=(i:Int) - 1:=aA (by omega) (by omega)
  have hgb:ix dn (i:Int)=some (gb dn i):=by
   have:=Dd (l:=dn) (i:=(i:Int)) (by omega) (by rw [Yq,P.ld]; exact Bb)
   rwa [Yq] at this
  rw [ei,ew,if_pos (by simp),hgb,Yj]
  cases hd:gb dn i with
  | true=>
   rw [if_pos rfl]
   obtain⟨jF,Ag,Ah,iH,x,u6,k1,k2,k3,k4,k5⟩:=yt hm ok f i cls dn fs od more (by omega) (by omega) P
   refine⟨jF,Ag,Ah,iH,x,u6,k1,k2,k3,k4,fun h=>?_⟩
   obtain⟨q1,q2,q3⟩:=k5 h
   refine⟨q1,q2,fun j hj hn=>?_⟩
   by_cases e:j=i
   ·subst e; exact absurd ((P.Iy j Bb).1 hd) hn
   ·exact q3 j (by omega) hn
  | false=>
   have Bz:(i:Int)∉od:=fun h=>by rw [(P.Iy i Bb).2 h] at hd; cases hd
   obtain⟨xr,r1,r2,r3⟩:=HM hm ok P.ld Bb
   rw [if_neg (by simp),il (by omega) (by omega),Yj,r1,Yj]
   cases xr with
   | false=>
    rw [if_pos (by simp)]
    obtain⟨jF,Ag,Ah,iH,x,u6,k1,k2,k3,k4,k5⟩:=yt hm ok f i cls dn fs od more (by omega) (by omega) P
    refine⟨jF,Ag,Ah,iH,x,u6,k1,k2,k3,k4,fun h=>?_⟩
    obtain⟨q1,q2,q3⟩:=k5 h
    refine⟨q1,q2,fun j hj hn=>?_⟩
    by_cases e:j=i
    ·subst e
     obtain⟨k,g1,g2⟩:=r3 rfl
     exact⟨k,g1,fun h=>by rw [(P.Iy _ (kC ok Bb g1).1).2 h] at g2; cases g2⟩
    ·exact q3 j (by omega) hn
   | true=>
    have Lz:fs.length≤8000:=Y0 (Dk P.Qf P.SW) h8
    obtain⟨v,f1,f2⟩:=find_spec hm ok P.lc Bb P.SW Lz
    have P':=HX ok P Bb Bz (r2 rfl) f2
    have hlen:(od++[(i:Int)]).length=od.length+1:=by simp
    have e2:ix cls (i:Int)=some (gt cls i):=cy (by rw [P.lc]; exact Bb)
    have e3:ix (cls.set i v) (i:Int)=some v:=by
     rw [cy (by simpa using (by rw [P.lc]; exact Bb)),eh (by rw [P.lc]; exact Bb),if_pos rfl]
    have rest:∀Qg,Ix l (cls.set i v) (dn.set i true) Qg (od++[(i:Int)])→∃jF Ag Ah iH x u6,af.l1 m l f (cls.set i v) (dn.set i true) Qg true ((i:Int) - 1)=some (jF,Ag,Ah,iH,x)∧Ix l jF Ag Ah u6∧od.length≤u6.length∧
      (iH=true→more=true∨od.length<u6.length)∧(iH=false→more=false∧u6=od∧∀j,j<i+1→(j:Int)∉od→∃k,k<na l j∧((ar l j k:Nat):Int)∉od):=fun Qg P2=>by
     obtain⟨jF,Ag,Ah,iH,x,u6,k1,k2,k3,k4,k5⟩:=yt hm ok f i _ _ Qg _ true (by omega) (by omega) P2
     exact⟨jF,Ag,Ah,iH,x,u6,k1,k2,by omega,fun _=>.inr (by omega),fun h=>absurd (k5 h).1 (by simp)⟩
    rw [if_neg (by simp),f1,Yj,e2,Yj,Yq,e3,Yj]
    by_cases No:v=i
    ·have jS:app 8 fs [(i:Int)]=some (fs++[(i:Int)]):=by unfold app; rw [if_pos (by simp; omega)]
     rw [if_pos (by simpa using No),jS,Yj,Yj]
     rw [if_pos No] at P'
     exact rest _ P'
    ·rw [if_neg (by simpa using No),Yj]
     rw [if_neg No] at P'
     exact rest _ P'
theorem HY {m:Nat}(hm:2 ^ 30≤m){l:List ab}(ok:lz l):∀(f:Nat) (cls:List Int) (dn:List Bool) (fs od:List Int),l.length - od.length+1<f→Ix l cls dn fs od→
  ∃jF Ag Ah u6,af.l0 m l f cls dn fs true=some (jF,Ag,Ah,false)∧Ix l jF Ag Ah u6∧∀j,j<l.length→(j:Int)∉u6→∃k,k<na l j∧((ar l j k:Nat):Int)∉u6
 | 0,_,_,_,_,hf,_=>absurd hf (by omega)
 | f+1,cls,dn,fs,od,hf,P=>by
  have lE:(2:Nat) ^ 30=1073741824:=by decide
  have h8:=ok.1
  unfold af.l0
  obtain⟨jF,Ag,Ah,iH,x,u6,k1,k2,k3,k4,k5⟩:=yt hm ok m l.length cls dn fs od false (by omega) (Yn _) P
  have ew:i64.wrap ((l.length:Int) - 1)=(l.length:Int) - 1:=aA (by omega) (by omega)
  rw [if_pos rfl,ew,k1,Yj]
  dsimp only
  have BC:=Dk k2.SV k2.MD
  cases iH with
  | true=>
   rcases k4 rfl with h | h
   ·cases h
   ·exact HY hm ok f jF Ag Ah u6 (by omega) k2
  | false=>
   obtain⟨_,rfl,q⟩:=k5 rfl
   obtain⟨g,rfl⟩:∃g,f=g+1:=⟨f - 1,by omega⟩
   refine⟨jF,Ag,Ah,u6,?_,k2,q⟩
   unfold af.l0
   rw [if_neg (by simp)]
end Go.Proofs.YtmekcfdllhphlaaGreatDoor
namespace Go.Proofs.YtmekcfdllhphlaaGreatDoor
open Go Go.R
open Go.IntKind (i64 u64 u8 u32)
def bK (dn:List Bool):Nat→List Int
 | 0=>[]
 | p+1=>if gb dn p=true then bK dn p else bK dn p++[(p:Int)]
theorem jb {dn:List Bool}:∀{p:Nat} {x:Int},x∈bK dn p↔∃j:Nat,j<p∧gb dn j=false∧x=j
 | 0,x=>⟨fun h=>by simp [bK] at h,fun ⟨j,h,_⟩=>absurd h (by omega)⟩
 | p+1,x=>by
  unfold bK
  have ih:=jb (dn:=dn) (p:=p) (x:=x)
  split
  ·rename_i h
   rw [ih]
   constructor
   ·rintro⟨j,a,b,c⟩; exact⟨j,by omega,b,c⟩
   ·rintro⟨j,a,b,c⟩
    refine⟨j,?_,b,c⟩
    by_cases e:j=p
    ·subst e; rw [b] at h; cases h
    ·omega
  ·rename_i h
   rw [Yy,ih,Yw]
   constructor
   ·rintro (⟨j,a,b,c⟩| c)
    ·exact⟨j,by omega,b,c⟩
    ·exact⟨p,by omega,by simpa using h,c⟩
   ·rintro⟨j,a,b,c⟩
    by_cases e:j=p
    ·subst e; exact .inr c
    ·exact .inl ⟨j,by omega,b,c⟩
theorem iB {dn:List Bool}:∀p,(bK dn p).length≤p
 | 0=>Yn _
 | p+1=>by
  have:=iB (dn:=dn) p
  unfold bK
  split
  ·omega
  ·simp; omega
theorem mY {dn:List Bool}:∀{p k q:Nat},k<q→q<(bK dn p).length→gt (bK dn p) k<gt (bK dn p) q
 | 0,k,q,_,h=>by simp [bK] at h
 | p+1,k,q,hk,h=>by
  unfold bK at h ⊢
  split at h
  ·rename_i g; rw [if_pos g]; exact mY hk h
  ·rename_i g
   rw [if_neg g]
   by_cases hq:q<(bK dn p).length
   ·rw [gX hq,gX (by omega)]; exact mY hk hq
   ·have e:q=(bK dn p).length:=by simp at h; omega
    have:gt (bK dn p++[(p:Int)]) q=p:=by
     subst e; unfold gt; rw [YB,YE (Yn _),ZT]; rfl
    rw [this,gX (by omega)]
    obtain⟨j,a,b,c⟩:=jb.1 (aJ (l:=bK dn p) (k:=k) (by omega))
    omega
structure Pu (l:List ab)(dn:List Bool)(c0:List Int)(p:Nat)(cls:List Int):Prop where
 lc:cls.length=l.length
 old:∀j,gb dn j=true→gt cls j=gt c0 j
 qe:∀j:Nat,(j:Int)∈bK dn p→gt cls j∈bK dn p∧Alike (nd l j) (nd l (gt cls j))∧∀g∈bK dn p,Alike (nd l j) (nd l g)→gt cls j≤g
theorem HZ {m:Nat}{l:List ab}{dn:List Bool}(ok:lz l){cls:List Int}{i:Nat}(hi:i<l.length)(hc:cls.length=l.length)(hlt:∀g∈bK dn i,gt cls g.toNat≠i):∀(f k:Nat),(bK dn i).length - k+2≤f→k≤(bK dn i).length→(∀q,q<k→¬Alike (nd l i) (nd l (gt (bK dn i) q)))→
  ∃v x,af.l3 m l (i:Int) (bK dn i++[(i:Int)]) f (cls.set i (i:Int)) (k:Int)=some (cls.set i v,x)∧(v=i∧(∀g∈bK dn i,¬Alike (nd l i) (nd l g))∨∃g∈bK dn i,Alike (nd l i) (nd l g)∧v=gt cls g.toNat)
 | 0,k,hf,_,_=>absurd hf (by omega)
 | f+1,k,hf,hk,rT=>by
  have h8:=ok.1
  have OV:=iB (dn:=dn) i
  unfold af.l3
  have Bb:i<(cls.set i (i:Int)).length:=by simp [hc,hi]
  rw [cy Bb,eh (by omega),if_pos rfl,Yj,if_pos (by simp)]
  have TU:(bK dn i++[(i:Int)]).length=(bK dn i).length+1:=by simp
  by_cases h:k<(bK dn i).length
  ·obtain⟨j,j1,j2,j3⟩:=jb.1 (aJ (l:=bK dn i) (k:=k) h)
   have hx:ix (bK dn i++[(i:Int)]) (k:Int)=some (gt (bK dn i) k):=by rw [cy (by omega),gX h]
   obtain⟨xa,a1,a2⟩:=uM (m:=m) (nd l (i:Int)) (nd l (gt (bK dn i) k))
   rw [hx,Yj,if_pos (by simp only [decide_eq_true_eq]; omega),il (by omega) (by omega),Yj,Yj,il (by omega) (by omega),Yj,a1,Yj]
   cases xa with
   | false=>
    rw [if_neg (by simp),aA (by omega) (by omega),show (k:Int)+1=((k+1:Nat):Int) by omega]
    refine HZ ok hi hc hlt f (k+1) (by omega) (by omega) fun q hq=>?_
    by_cases e:q=k
    ·subst e; intro hA; have:=a2.2 hA; cases this
    ·exact rT q (by omega)
   | true=>
    have hA:=a2.1 rfl
    have WX:(gt (bK dn i) k).toNat<cls.length:=by omega
    have Mf:ix (cls.set i (i:Int)) (gt (bK dn i) k)=some (gt cls (gt (bK dn i) k).toNat):=by
     rw [gn (k:=(gt (bK dn i) k).toNat) (by omega) (by simpa using WX),eh (by omega),if_neg (by omega)]
    rw [if_pos rfl,Yj,Mf,Yj,Yj,Yq,List.set_set]
    have e:=hlt _ (aJ h)
    obtain⟨g,rfl⟩:∃g,f=g+1:=⟨f - 1,by omega⟩
    refine⟨gt cls (gt (bK dn i) k).toNat,i64.wrap ((k:Int)+1),?_,.inr ⟨_,aJ h,hA,rfl⟩⟩
    unfold af.l3
    rw [cy (by simpa [hc] using hi),eh (by omega),if_pos rfl,Yj,if_neg (by simpa using e)]
  ·have e:k=(bK dn i).length:=by omega
   have hx:ix (bK dn i++[(i:Int)]) (k:Int)=some (i:Int):=by
    rw [cy (by omega)]
    subst e; unfold gt; rw [YB,YE (Yn _),ZT]; rfl
   rw [hx,Yj,if_neg (by simp)]
   refine⟨(i:Int),_,rfl,.inl ⟨rfl,fun g hg=>?_⟩⟩
   obtain⟨q,hq,e2⟩:=eW hg
   rw [←e2]; exact rT q (by omega)
theorem H0 {l:List ab}{dn:List Bool}{c0 cls:List Int}{i:Nat}(hi:i<l.length)(hd:gb dn i=false)(P:Pu l dn c0 i cls){v:Int}
  (hv:v=i∧(∀g∈bK dn i,¬Alike (nd l i) (nd l g))∨∃g∈bK dn i,Alike (nd l i) (nd l g)∧v=gt cls g.toNat):Pu l dn c0 (i+1) (cls.set i v):=by
 have hr:bK dn (i+1)=bK dn i++[(i:Int)]:=by show (if gb dn i=true then _ else _)=_; rw [if_neg (by rw [hd]; simp)]
 have gc:∀x,x≠i→gt (cls.set i v) x=gt cls x:=fun x hx=>by rw [eh (by rw [P.lc]; exact hi),if_neg hx]
 have gi:gt (cls.set i v) i=v:=by rw [eh (by rw [P.lc]; exact hi),if_pos rfl]
 have Qh:∀{x:Int},x∈bK dn i→0≤x∧x<i:=fun h=>by obtain⟨j,a,b,c⟩:=jb.1 h; omega
 refine⟨by simpa using P.lc,fun j hj=>?_,fun j hj=>?_⟩
 ·rw [gc j (fun e=>by subst e; rw [hd] at hj; cases hj)]; exact P.old j hj
 ·rw [hr] at hj ⊢
  rcases Yy.1 hj with hj | hj
  ·obtain⟨r1,r2,r3⟩:=P.qe j hj
   have hji:=Qh hj
   rw [gc j (by omega)]
   refine⟨Y4 _ r1,r2,fun g hg hA=>?_⟩
   rcases Yy.1 hg with hg | hg
   ·exact r3 g hg hA
   ·have:=Qh r1
    rw [Yw] at hg; omega
  ·rw [Yw] at hj
   have e:j=i:=by omega
   subst e
   rw [gi]
   rcases hv with⟨rfl,h⟩| ⟨g,g1,g2,rfl⟩
   ·refine⟨by simp,Alike.refl _,fun g hg hA=>?_⟩
    rcases Yy.1 hg with hg | hg
    ·exact absurd hA (h g hg)
    ·rw [Yw] at hg; omega
   ·have Ph:=Qh g1
    have eg:((g.toNat:Nat):Int)=g:=by omega
    obtain⟨r1,r2,r3⟩:=P.qe g.toNat (by rw [eg]; exact g1)
    rw [eg] at r2 r3
    refine⟨Y4 _ r1,g2.trans r2,fun x hx hA=>?_⟩
    rcases Yy.1 hx with hx | hx
    ·exact r3 x hx (g2.symm.trans hA)
    ·have:=Qh r1
     rw [Yw] at hx; omega
theorem BU {m:Nat}(hm:2 ^ 30≤m){l:List ab}(ok:lz l){dn:List Bool}(hd:dn.length=l.length){c0:List Int}:∀(f i:Nat) (cls:List Int),l.length - i<f→i≤l.length→Pu l dn c0 i cls→
  ∃jF x,af.l2 m l dn f cls (bK dn i) (i:Int)=some (jF,bK dn l.length,x)∧Pu l dn c0 l.length jF
 | 0,i,cls,hf,_,_=>absurd hf (by omega)
 | f+1,i,cls,hf,hi,P=>by
  have lE:(2:Nat) ^ 30=1073741824:=by decide
  have h8:=ok.1
  unfold af.l2
  by_cases h:i<l.length
  ·have hgb:ix dn (i:Int)=some (gb dn i):=by
    have:=Dd (l:=dn) (i:=(i:Int)) (by omega) (by rw [Yq]; omega)
    rwa [Yq] at this
   have ew:i64.wrap ((i:Int)+1)=((i+1:Nat):Int):=by rw [aA (by omega) (by omega)]; omega
   rw [if_pos (by simp only [decide_eq_true_eq]; omega),hgb,Yj,ew]
   cases SX:gb dn i with
   | true=>
    have hr:bK dn (i+1)=bK dn i:=by show (if gb dn i=true then _ else _)=_; rw [if_pos SX]
    rw [if_pos rfl,←hr]
    exact BU hm ok hd f (i+1) cls (by omega) (by omega) ⟨P.lc,P.old,fun j hj=>by rw [hr] at hj ⊢; exact P.qe j hj⟩
   | false=>
    have hr:bK dn (i+1)=bK dn i++[(i:Int)]:=by show (if gb dn i=true then _ else _)=_; rw [if_neg (by rw [SX]; simp)]
    have OV:=iB (dn:=dn) i
    have jS:app 8 (bK dn i) [(i:Int)]=some (bK dn i++[(i:Int)]):=by unfold app; rw [if_pos (by simp; omega)]
    obtain⟨v,x,k1,k2⟩:=HZ (m:=m) ok h P.lc (fun g hg e=>by
     obtain⟨j,a,b,c⟩:=jb.1 hg
     have:=(P.qe j (by rw [←c]; exact hg)).1
     obtain⟨j',a',b',c'⟩:=jb.1 this
     rw [c,Yq] at e; omega) m 0 (by omega) (by omega) (fun q hq=>absurd hq (by omega))
    have k1:af.l3 m l (i:Int) (bK dn i++[(i:Int)]) m (cls.set i (i:Int)) 0=_:=k1
    rw [if_neg (by simp),jS,Yj,cy (by rw [P.lc]; exact h),Yj,Yq,k1,Yj]
    dsimp only
    rw [←hr]
    exact BU hm ok hd f (i+1) _ (by omega) (by omega) (H0 h SX P k2)
  ·have e:i=l.length:=by omega
   subst e
   exact⟨cls,_,by rw [if_neg (by simp)],P⟩
end Go.Proofs.YtmekcfdllhphlaaGreatDoor
