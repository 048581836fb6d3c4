/- Part of the proof: Q109, Q110, Q117, Q111, Q99, Q98, PT7, Q77, PT8, PT9, Q78, Q53. -/
import Derived.Test.YtmekcfdllhphlaaGreatDoorK8
set_option linter.unusedVariables false
set_option linter.unusedSimpArgs false
set_option maxRecDepth 100000
open Bool renaming and_eq_true → aaF, false_eq_true → aaS
open Eq renaming trans → abz
open Int renaming toNat_natCast → aaH
open List renaming getElem?_eq_getElem → aaL, append_assoc → aaM, length_set → aaN, mem_singleton → aaO, mem_append → aaQ, length_cons → aaR, replicate → aaV, getD_eq_getElem?_getD → aaW, cons_append → aa0, map_append → aa8, mem_map → aba, mem_cons → abb, getElem_mem → abe, getElem?_map → abi, mem_append_left → abo, all_cons → abA, mem_of_getElem? → abI, take_add_one → abL, take_length → abO, idxOf_append → abS, nodup_append → abT, idxOf_lt_length_of_mem → abU, getElem_of_mem → ab7, set_append_right → acf, length_replicate → acg
open Nat renaming le_refl → aaE, zero_add → aaZ, sub_self → acm
open Option renaming bind_some → aaA
open Option.some renaming inj → aa2
open Or renaming inr → abD, inl → abM
open Prod.mk renaming injEq → aaJ
namespace Go.Proofs.YtmekcfdllhphlaaGreatDoor
open Go Go.R
open Go.IntKind (i64 u64 u8 u32)
def zt:b9:=gm [0,1,4,5,6,11,12,13,16,19] [] [1020,1012,996,972,959,1019,1019,892,1019,764,1019,511,1019,1019] [] []
def dv.f (m:Nat)(x0:Int)(y0:Int):Option (Int):=(cmp_isNaN_int.f m x0).bind fun x1=>(cmp_isNaN_int.f m y0).bind fun x2=>if x1=true then (if x2=true then (some (0:Int)) else (some (-1:Int))) else (if x2=true then (some (1:Int)) else (if (decide (x0<y0))=true then (some (-1:Int)) else (if (decide (x0 > y0))=true then (some (1:Int)) else (some (0:Int)))))
def dv.fin (L:Mem)(r:Int)(s:St):Prop:=∃av,aH Tryz.prog (s.open zt) Tryz.f109.results.toList=some av∧gf s.h av (.int .i64 r)
def QD (cf:CallF)(m:Nat):Prop:=∀(x0:Int) (y0:Int) (r:Int),dv.f m x0 y0=some r→∀h xs,eR fh h xs [.int .i64 x0,.int .i64 y0]→cf 109 xs h=some (.int .i64 r,h)
section
variable {cf:CallF}{m:Nat}
theorem nL {aV:FuncId→b9}(ha:aV 109=zt)(QE:Wv cf m)(x0:Int)(y0:Int)(h:AHeap)(L:Mem)  (o:Has h (L)){out:Int}(H:dv.f m x0 y0=some out) :
  ∃r h',bg Tryz.prog aV cf m 109 [.int .i64 x0,.int .i64 y0] h=some (r,h')∧gf h' r (.int .i64 out):=by
 refine aj (fn:=Tryz.f109) ha Tryz.func109 (by kernel_rfl) (by kernel_rfl) ?_
 refine aD (Q:=fun s=>dv.fin L out s) (fun _ _ h=>h) ?_
 have H:_=some out:=H
 unfold dv.f at H
 show dA _ cf zt m _ ⟨.int .i64 x0 :: .int .i64 y0::r9 [],[],h⟩ _
 refine q1 <| qq ?_
 obtain⟨x1,e0,H⟩:=aG H
 refine qr [.a 1 (QE _ _ e0 h _ (fT (ab (aQ) (aA))))] <| qq ?_
 obtain⟨x2,e1,H⟩:=aG H
 refine qr [.a 1 (QE _ _ e1 h _ (fT (ab (aQ) (aA))))] <| qq <| qq <| q0 <| qc H (fun c0 H=>?_) (fun c0 H=>?_)
 ·refine qq <| qq <| q0 <| qc H (fun c1 H=>?_) (fun c1 H=>?_)
  ·obtain rfl:=oi H
   exact q1 <| qt <| ⟨.inl rfl,cp (.int .i64 (0:Int)) h (cn (dB))⟩
  ·obtain rfl:=oi H
   exact qk <| qq <| q0 <| qt <| ⟨.inl rfl,cp (.int .i64 (-1:Int)) h (cn (dB))⟩
 ·refine qk <| qq <| qq <| q0 <| qc H (fun c2 H=>?_) (fun c2 H=>?_)
  ·obtain rfl:=oi H
   exact q1 <| qt <| ⟨.inl rfl,cp (.int .i64 (1:Int)) h (cn (dB))⟩
  ·refine qk <| qq <| qq <| q0 <| qc H (fun c3 H=>?_) (fun c3 H=>?_)
   ·obtain rfl:=oi H
    exact q1 <| qt <| ⟨.inl rfl,cp (.int .i64 (-1:Int)) h (cn (dB))⟩
   ·refine qk <| qq <| qq <| q0 <| qc H (fun c4 H=>?_) (fun c4 H=>?_)
    ·obtain rfl:=oi H
     exact q1 <| qt <| ⟨.inl rfl,cp (.int .i64 (1:Int)) h (cn (dB))⟩
    ·obtain rfl:=oi H
     exact qk <| qq <| q0 <| qt <| ⟨.inl rfl,cp (.int .i64 (0:Int)) h (cn (dB))⟩
end
end Go.Proofs.YtmekcfdllhphlaaGreatDoor
namespace Go.Proofs.YtmekcfdllhphlaaGreatDoor
open Go Go.R
open Go.IntKind (i64 u64 u8 u32)
def vT:b9:=gm [0,2,3,5,6,7,8,9,14] [] [510,506,395,267,387,131,509,395,509] [] []
def cO.l0 (m:Nat)(gS:List Int):Nat→Int→Option (Sum Int (Int))
 | 0,_=>none
 | k+1,x0=>if (decide (x0<(gS.length:Int)))=true then ((ix gS x0).bind fun v0=>if (!(v0==(0:Int)))=true then (some (.inl v0)) else (cO.l0 m gS k (i64.wrap (x0+(1:Int))))) else (some (.inr x0))
def cO.f (m:Nat)(gS:List Int):Option (Int):=(cO.l0 m gS m (0:Int)).bind fun aF=>match aF with | .inl r0=>some r0 | .inr x1=>some (0:Int)
def cO.fin (L:Mem)(r:Int)(s:St):Prop:=∃av,aH Tryz.prog (s.open vT) Tryz.f110.results.toList=some av∧gf s.h av (.int .i64 r)
def QF (cf:CallF)(m:Nat):Prop:=∀(gS:List Int) (r:Int),cO.f m gS=some r→∀h xs,eR fh h xs [aa.fz gS]→cf 110 xs h=some (.int .i64 r,h)
section
variable {cf:CallF}{m:Nat}
theorem cO.bu (L:Mem)(gS:List Int)   : bC Tryz.prog cf vT m (sub [1,1,0,1,0,0] (codeOf Tryz.f110)) (fun k (σ:Int)=>cO.l0 m gS k σ) (fun σ s=>match σ with | x0=>∃h0,s=⟨[.any,.any,.int .i64 (0:Int),.any,aa.fz gS,.int .i64 (gS.length:Int),.int .i64 x0,.any,.any],[],h0⟩∧Has h0 (L)) (fun out e s=>(e = .exit 0∧∃x0,.inr x0=out∧∃C8 se pG qQ h0,s=⟨[.any,.any,.int .i64 (0:Int),.any,C8,se,pG,qQ,.any],[],h0⟩∧Has h0 (L))∨(e = .ret∧∃r,.inl r=out∧cO.fin L r s)):=by
 refine gk (fun _=>rfl) ?_
 rintro k x0 s out ⟨h0,rfl,o0⟩ H
 have H:cO.l0 m gS (k+1) x0=some out:=H
 refine q1 <| qq <| qc H (fun c0 H=>?_) (fun c0 H=>?_)
 ·refine qk <| qq <| qb 1 <| qq ?_
  obtain⟨v0,e0,H⟩:=aG H
  refine qr [.v 0 (bN (k:=.i64) (E:=aa) (l:=gS) dK e0),.v 1 (dd  (E:=aa) (l:=gS) h0 A3 e0 rfl)] <| qq <| q0 <| qc H (fun c1 H=>?_) (fun c1 H=>?_)
  ·exact q1 <| qt <| abD (⟨rfl,_,oi H,cp (.int .i64 v0) h0 (cn (dB))⟩)
  ·exact qk <| q0 <| ⟨i64.wrap (x0+(1:Int)),⟨h0,by kernel_rfl,o0⟩,H⟩
 ·exact qx 0 <| abM (⟨rfl,x0,oi H,aa.fz gS,.int .i64 (gS.length:Int),.int .i64 x0,.bool (decide (x0<(gS.length:Int))),h0,by kernel_rfl,o0⟩)
theorem tR {aV:FuncId→b9}(ha:aV 110=vT)  (gS:List Int)(h:AHeap)(L:Mem)  (o:Has h (L)){out:Int}(H:cO.f m gS=some out) :
  ∃r h',bg Tryz.prog aV cf m 110 [aa.fz gS] h=some (r,h')∧gf h' r (.int .i64 out):=by
 refine aj (fn:=Tryz.f110) ha Tryz.func110 (by kernel_rfl) (by kernel_rfl) ?_
 refine aD (Q:=fun s=>cO.fin L out s) (fun _ _ h=>h) ?_
 have H:_=some out:=H
 unfold cO.f at H
 show dA _ cf vT m _ ⟨aa.fz gS::r9 [],[],h⟩ _
 refine q1 <| qq <| q0 <| qq <| qq <| q0 <| qb 0 ?_
 obtain⟨aF,e1,H⟩:=aG H
 refine ql (cO.bu L gS   (0:Int) _ _ ⟨h,by kernel_rfl,o⟩ e1) ?_
 rintro e s (⟨rfl,x1,rfl,g0,g1,g2,g3,h1,rfl,o1⟩| ⟨rfl,r0,rfl,l8⟩)
 ·try dsimp only at H
  obtain rfl:=oi H
  exact q1 <| qt <| ⟨.inl rfl,cp (.int .i64 (0:Int)) h1 (cn (dB))⟩
 ·try dsimp only at H
  obtain rfl:=oi H
  exact⟨.inl rfl,l8⟩
end
end Go.Proofs.YtmekcfdllhphlaaGreatDoor
namespace Go.Proofs.YtmekcfdllhphlaaGreatDoor
open Go Go.R
open Go.IntKind (i64 u64 u8 u32)
def zu:b9:=gm [0,2] [] [2,1] [] []
def cmp_isNaN_string.f (m:Nat)(x0:ByteArray):Option (Bool):=some (!(x0.data.toList==x0.data.toList))
def cmp_isNaN_string.fin (L:Mem)(r:Bool)(s:St):Prop:=∃av,aH Tryz.prog (s.open zu) Tryz.f117.results.toList=some av∧gf s.h av (.bool r)
def QG (cf:CallF)(m:Nat):Prop:=∀(x0:ByteArray) (r:Bool),cmp_isNaN_string.f m x0=some r→∀h xs,eR fh h xs [.str x0]→cf 117 xs h=some (.bool r,h)
section
variable {cf:CallF}{m:Nat}
theorem nc {aV:FuncId→b9}(ha:aV 117=zu)  (x0:ByteArray)(h:AHeap)(L:Mem)  (o:Has h (L)){out:Bool}(H:cmp_isNaN_string.f m x0=some out) :
  ∃r h',bg Tryz.prog aV cf m 117 [.str x0] h=some (r,h')∧gf h' r (.bool out):=by
 refine aj (fn:=Tryz.f117) ha Tryz.func117 (by kernel_rfl) (by kernel_rfl) ?_
 refine aD (Q:=fun s=>cmp_isNaN_string.fin L out s) (fun _ _ h=>h) ?_
 have H:_=some out:=H
 unfold cmp_isNaN_string.f at H
 show dA _ cf zu m _ ⟨[.str x0,.any],[],h⟩ _
 obtain rfl:=oi H
 exact q1 <| qq <| q0 <| qt <| ⟨.inl rfl,cp (.bool (!(x0.data.toList==x0.data.toList))) h (cn (au))⟩
end
end Go.Proofs.YtmekcfdllhphlaaGreatDoor
namespace Go.Proofs.YtmekcfdllhphlaaGreatDoor
open Go Go.R
open Go.IntKind (i64 u64 u8 u32)
def zw:b9:=gm [0,1,4,5,6,11,12,13,16,19] [] [1020,1012,996,972,959,1019,1019,892,1019,764,1019,511,1019,1019] [] []
def cX.f (m:Nat)(x0:ByteArray)(y0:ByteArray):Option (Int):=(cmp_isNaN_string.f m x0).bind fun x1=>(cmp_isNaN_string.f m y0).bind fun x2=>if x1=true then (if x2=true then (some (0:Int)) else (some (-1:Int))) else (if x2=true then (some (1:Int)) else (if (Op.bytesLess x0.data.toList y0.data.toList)=true then (some (-1:Int)) else (if (!HF x0 y0)=true then (some (1:Int)) else (some (0:Int)))))
def cX.fin (L:Mem)(r:Int)(s:St):Prop:=∃av,aH Tryz.prog (s.open zw) Tryz.f111.results.toList=some av∧gf s.h av (.int .i64 r)
def QH (cf:CallF)(m:Nat):Prop:=∀(x0:ByteArray) (y0:ByteArray) (r:Int),cX.f m x0 y0=some r→∀h xs,eR fh h xs [.str x0,.str y0]→cf 111 xs h=some (.int .i64 r,h)
section
variable {cf:CallF}{m:Nat}
theorem mc {aV:FuncId→b9}(ha:aV 111=zw)(L8:QG cf m)(x0:ByteArray)(y0:ByteArray)(h:AHeap)(L:Mem)  (o:Has h (L)){out:Int}(H:cX.f m x0 y0=some out) :
  ∃r h',bg Tryz.prog aV cf m 111 [.str x0,.str y0] h=some (r,h')∧gf h' r (.int .i64 out):=by
 refine aj (fn:=Tryz.f111) ha Tryz.func111 (by kernel_rfl) (by kernel_rfl) ?_
 refine aD (Q:=fun s=>cX.fin L out s) (fun _ _ h=>h) ?_
 have H:_=some out:=H
 unfold cX.f at H
 show dA _ cf zw m _ ⟨.str x0 :: .str y0::r9 [],[],h⟩ _
 refine q1 <| qq ?_
 obtain⟨x1,e0,H⟩:=aG H
 refine qr [.a 1 (L8 _ _ e0 h _ (fT (ab (cF) (aA))))] <| qq ?_
 obtain⟨x2,e1,H⟩:=aG H
 refine qr [.a 1 (L8 _ _ e1 h _ (fT (ab (cF) (aA))))] <| qq <| qq <| q0 <| qc H (fun c0 H=>?_) (fun c0 H=>?_)
 ·refine qq <| qq <| q0 <| qc H (fun c1 H=>?_) (fun c1 H=>?_)
  ·obtain rfl:=oi H
   exact q1 <| qt <| ⟨.inl rfl,cp (.int .i64 (0:Int)) h (cn (dB))⟩
  ·obtain rfl:=oi H
   exact qk <| qq <| q0 <| qt <| ⟨.inl rfl,cp (.int .i64 (-1:Int)) h (cn (dB))⟩
 ·refine qk <| qq <| qq <| q0 <| qc H (fun c2 H=>?_) (fun c2 H=>?_)
  ·obtain rfl:=oi H
   exact q1 <| qt <| ⟨.inl rfl,cp (.int .i64 (1:Int)) h (cn (dB))⟩
  ·refine qk <| qq <| qq <| q0 <| qc H (fun c3 H=>?_) (fun c3 H=>?_)
   ·obtain rfl:=oi H
    exact q1 <| qt <| ⟨.inl rfl,cp (.int .i64 (-1:Int)) h (cn (dB))⟩
   ·refine qk <| qq <| qq <| q0 <| qc H (fun c4 H=>?_) (fun c4 H=>?_)
    ·obtain rfl:=oi H
     exact q1 <| qt <| ⟨.inl rfl,cp (.int .i64 (1:Int)) h (cn (dB))⟩
    ·obtain rfl:=oi H
     exact qk <| qq <| q0 <| qt <| ⟨.inl rfl,cp (.int .i64 (0:Int)) h (cn (dB))⟩
end
end Go.Proofs.YtmekcfdllhphlaaGreatDoor
namespace Go.Proofs.YtmekcfdllhphlaaGreatDoor
open Go Go.R
open Go.IntKind (i64 u64 u8 u32)
def Es:b9:=gm [0,1,2,3,4,5,16] [2,3] [115,83,111,51,111,111] [] []
def dL.f (m:Nat)(a0:ae)(b0:ae):Option (Int):=if (!(a0.kind==b0.kind))=true then ((dv.f m a0.kind b0.kind).bind fun x0=>some x0) else (if (a0.kind==(3:Int))=true then ((dv.f m (a0.args.length:Int) (b0.args.length:Int)).bind fun x1=>(cX.f m a0.label b0.label).bind fun x2=>(cO.f m ([x1,x2])).bind fun x3=>some x3) else ((cX.f m a0.label b0.label).bind fun x4=>(dv.f m a0.int b0.int).bind fun x5=>(cO.f m ([x4,x5])).bind fun x6=>some x6))
def dL.fin (L:Mem)(r:Int)(s:St):Prop:=∃av,aH Tryz.prog (s.open Es) Tryz.f99.results.toList=some av∧gf s.h av (.int .i64 r)
def RX (cf:CallF)(m:Nat):Prop:=∀(a0:ae) (b0:ae) (r:Int),dL.f m a0 b0=some r→∀h xs,eR fh h xs [.agg [.int .i64 a0.kind,.int .i64 a0.int,.str a0.label,aa.fz a0.args],.agg [.int .i64 b0.kind,.int .i64 b0.int,.str b0.label,aa.fz b0.args]]→cf 99 xs h=some (.int .i64 r,h)
section
variable {cf:CallF}{m:Nat}
theorem nM {aV:FuncId→b9}(ha:aV 99=Es)(Ij:QD cf m)(L9:QF cf m)(Ma:QH cf m)(a0:ae)(b0:ae)(h:AHeap)(L:Mem)  (o:Has h (L)){out:Int}(H:dL.f m a0 b0=some out) :
  ∃r h',bg Tryz.prog aV cf m 99 [.agg [.int .i64 a0.kind,.int .i64 a0.int,.str a0.label,aa.fz a0.args],.agg [.int .i64 b0.kind,.int .i64 b0.int,.str b0.label,aa.fz b0.args]] h=some (r,h')∧gf h' r (.int .i64 out):=by
 refine aj (fn:=Tryz.f99) ha Tryz.func99 (by kernel_rfl) (by kernel_rfl) ?_
 refine aD (Q:=fun s=>dL.fin L out s) (fun _ _ h=>h) ?_
 have H:_=some out:=H
 unfold dL.f at H
 show dA _ cf Es m _ ⟨.agg [.int .i64 a0.kind,.int .i64 a0.int,.str a0.label,aa.fz a0.args] :: .agg [.int .i64 b0.kind,.int .i64 b0.int,.str b0.label,aa.fz b0.args]::qF [],[none,none],h⟩ _
 refine q1 <| qq <| qb 0 <| qq <| q0 <| qc H (fun c0 H=>?_) (fun c0 H=>?_)
 ·refine qq ?_
  obtain⟨x0,e0,H⟩:=aG H
  obtain rfl:=oi H
  exact qr [.a 4 (Ij _ _ _ e0 h _ (fT (ab (aQ) (ab (aQ) (aA)))))] <| qt <| ⟨.inl rfl,cp (.int .i64 x0) h (cn (dB))⟩
 ·refine q1 <| qc H (fun c1 H=>?_) (fun c1 H=>?_)
  ·refine qq ?_
   obtain⟨x1,e1,H⟩:=aG H
   obtain⟨x2,e2,H⟩:=aG H
   obtain⟨x3,e3,H⟩:=aG H
   obtain rfl:=oi H
   exact qr [.a 6 (Ij _ _ _ e1 h _ (fT (ab (aQ) (ab (aQ) (aA))))),.a 11 (Ma _ _ _ e2 h _ (fT (ab (cF) (ab (cF) (aA))))),.a 13 (L9 _ _ e3 h _ (fT (ab (HC (E:=aa) (l:=[x1,x2]) (cs:=[.int .i64 x1,.int .i64 x2]) (b:=true) (by kernel_rfl) (by kernel_rfl) rfl) (aA))))] <| qt <| ⟨.inl rfl,cp (.int .i64 x3) h (cn (dB))⟩
  ·refine qk <| qq ?_
   obtain⟨x4,e4,H⟩:=aG H
   obtain⟨x5,e5,H⟩:=aG H
   obtain⟨x6,e6,H⟩:=aG H
   obtain rfl:=oi H
   exact qr [.a 4 (Ma _ _ _ e4 h _ (fT (ab (cF) (ab (cF) (aA))))),.a 9 (Ij _ _ _ e5 h _ (fT (ab (aQ) (ab (aQ) (aA))))),.a 11 (L9 _ _ e6 h _ (fT (ab (HC (E:=aa) (l:=[x4,x5]) (cs:=[.int .i64 x4,.int .i64 x5]) (b:=true) (by kernel_rfl) (by kernel_rfl) rfl) (aA))))] <| qt <| ⟨.inl rfl,cp (.int .i64 x6) h (cn (dB))⟩
end
end Go.Proofs.YtmekcfdllhphlaaGreatDoor
namespace Go.Proofs.YtmekcfdllhphlaaGreatDoor
open Go Go.R
open Go.IntKind (i64 u64 u8 u32)
def Et:b9:=gm [0,1,2,5] [] [8,7] [] []
def dZ.f (m:Nat)(i0:Int)(j0:Int)(x0:List ae):Option (Int):=(ix x0 i0).bind fun v0=>(ix x0 j0).bind fun v1=>(dL.f m v0 v1).bind fun x1=>some x1
def dZ.fin (h:AHeap)(r:Int)(s:St):Prop:=aH Tryz.prog (s.open Et) Tryz.f98.results.toList=some (.int .i64 r)∧s.h=h
def Ww (cf:CallF)(m:Nat):Prop:=∀(i0:Int) (j0:Int) (x0:List ae) (r:Int),dZ.f m i0 j0 x0=some r→∀h L (fA cj:Nat),Has h L→L[fA]? = some (cj,.ob [ah.fz x0])→cf 98 [.int .i64 i0,.int .i64 j0,.ptr cj 0] h=some (.int .i64 r,h)
section
variable {cf:CallF}{m:Nat}
theorem oI {aV:FuncId→b9}(ha:aV 98=Et)(Ik:RX cf m)(i0:Int)(j0:Int)(x0:List ae)(h:AHeap)(L:Mem)  {fA cj:Nat}(gR:L[fA]? = some (cj,.ob [ah.fz x0]))(o:Has h (L)){out:Int}(H:dZ.f m i0 j0 x0=some out) :
  ∃r h',bg Tryz.prog aV cf m 98 [.int .i64 i0,.int .i64 j0,.ptr cj 0] h=some (r,h')∧r=(.int .i64 out)∧h'=h:=by
 refine aj (fn:=Tryz.f98) ha Tryz.func98 (by kernel_rfl) (by kernel_rfl) ?_
 refine aD (Q:=fun s=>dZ.fin h out s) (fun _ _ ⟨h1,h2,h3⟩=>⟨h1,_,h2,rfl,h3⟩) ?_
 have H:_=some out:=H
 unfold dZ.f at H
 show dA _ cf Et m _ ⟨[.int .i64 i0,.int .i64 j0,.ptr cj 0,.any],[],h⟩ _
 refine q1 <| qq ?_
 obtain⟨v0,e0,H⟩:=aG H
 obtain⟨v1,e1,H⟩:=aG H
 obtain⟨x1,e2,H⟩:=aG H
 obtain rfl:=oi H
 exact qr [.v 0 (show bp Tryz.prog h 42 (.ptr cj 0)=some (ah.fz x0) from cg (q:=fA) (cs:=[ah.fz x0]) o gR (by kernel_rfl)),.v 2 (bN (k:=.i64) (E:=ah) (l:=x0) mj e0),.v 3 (dI  (E:=ah) (l:=x0) h th ti e0),.v 4 (show bp Tryz.prog h 42 (.ptr cj 0)=some (ah.fz x0) from cg (q:=fA) (cs:=[ah.fz x0]) o gR (by kernel_rfl)),.v 6 (bN (k:=.i64) (E:=ah) (l:=x0) mj e1),.v 7 (dI  (E:=ah) (l:=x0) h th ti e1),.a 8 (Ik _ _ _ e2 h _ (fT (ab (dJ (ab (aQ) (ab (aQ) (ab (cF) (ab (bB (E:=aa)) (aA)))))) (ab (dJ (ab (aQ) (ab (aQ) (ab (cF) (ab (bB (E:=aa)) (aA)))))) (aA)))))] <| qt <| ⟨.inl rfl,⟨by kernel_rfl,by kernel_rfl⟩⟩
end
end Go.Proofs.YtmekcfdllhphlaaGreatDoor
namespace Go.Proofs.YtmekcfdllhphlaaGreatDoor
open Go Go.R
open Go.IntKind (i64 u64 u8 u32)
def kl (t:ak):Bool:=decide (1≤t.nodes.length)&&decide (t.nodes.length≤8000)&&decide (0≤t.root)&&decide (t.root<t.nodes.length)&&t.nodes.all fun n=>nJ n t.nodes.length
theorem vU {m:Nat}(hm:2 ^ 30≤m)(t:ak):iy.f m t=some (kl t):=by
 have kV:(2:Nat) ^ 30=1073741824:=by decide
 have mZ:(2:Nat) ^ 40=1099511627776:=by decide
 unfold iy.f kl
 by_cases h1:1≤t.nodes.length
 ·rw [if_pos (by simp only [decide_eq_true_eq]; omega),decide_eq_true h1]
  by_cases h2:t.nodes.length≤8000
  ·rw [if_pos (by simp only [decide_eq_true_eq]; omega),decide_eq_true h2]
   by_cases h3:0≤t.root
   ·rw [if_pos (by simp only [decide_eq_true_eq]; omega),decide_eq_true h3]
    by_cases h4:t.root<t.nodes.length
    ·rw [if_pos (by simp only [decide_eq_true_eq]; omega),decide_eq_true h4]
     rw [yd (g:=fun n=>!(nJ n t.nodes.length)) (by omega) (by omega) (fun n _=>by unfold gG.f; rw [Gb (by omega)]; rfl),aaA]
     simp [List.not_any_eq_all_not]
    ·rw [if_neg (by simp only [decide_eq_true_eq]; omega),decide_eq_false h4]; rfl
   ·rw [if_neg (by simp only [decide_eq_true_eq]; omega),decide_eq_false h3]; rfl
  ·rw [if_neg (by simp only [decide_eq_true_eq]; omega),decide_eq_false h2]; rfl
 ·rw [if_neg (by simp only [decide_eq_true_eq]; omega),decide_eq_false h1]; rfl
def cI (x y:Int):Int:=if x<y then -1 else if y<x then 1 else 0
def cS (x y:ByteArray):Int:=if Op.bytesLess x.data.toList y.data.toList=true then -1 else if (!HF x y)=true then 1 else 0
def Gf (x y:Int):Int:=if x=0 then y else x
def cT (a b:ae):Int:=if a.kind=b.kind then (if a.kind=3 then Gf (cI a.args.length b.args.length) (cS a.label b.label) else Gf (cS a.label b.label) (cI a.int b.int)) else cI a.kind b.kind
theorem zx {m:Nat}(x y:Int):dv.f m x y=some (cI x y):=by
 unfold dv.f cmp_isNaN_int.f cI
 simp only [beq_self_eq_true,Bool.not_true,aaA,aaS,if_false]
 by_cases h:x<y
 ·rw [if_pos (by simpa using h),if_pos h]
 ·rw [if_neg (by simpa using h),if_neg h]
  by_cases h2:y<x
  ·rw [if_pos (by simpa using h2),if_pos h2]
  ·rw [if_neg (by simpa using h2),if_neg h2]
theorem Eu {m:Nat}(x y:ByteArray):cX.f m x y=some (cS x y):=by
 unfold cX.f cmp_isNaN_string.f cS
 simp only [beq_self_eq_true,Bool.not_true,aaA,aaS,if_false]
 split
 ·rfl
 ·split
  ·rfl
  ·rfl
theorem Bc {m:Nat}(hm:3≤m)(x y:Int):cO.f m [x,y]=some (Gf x y):=by
 obtain⟨k,rfl⟩:∃k,m=k+3:=⟨m - 3,by omega⟩
 unfold cO.f Gf
 have e1:i64.wrap ((0:Int)+1)=1:=by decide
 have e2:i64.wrap ((1:Int)+1)=2:=by decide
 have a0:ix [x,y] 0=some x:=rfl
 have a1:ix [x,y] 1=some y:=rfl
 unfold cO.l0
 rw [if_pos (by simp),a0,aaA]
 by_cases h:x=0
 ·subst h
  rw [if_neg (by simp),e1,if_pos rfl]
  unfold cO.l0
  rw [if_pos (by simp),a1,aaA]
  by_cases h2:y=0
  ·subst h2
   rw [if_neg (by simp),e2]
   unfold cO.l0
   rw [if_neg (by simp)]; rfl
  ·rw [if_pos (by simpa using h2)]; rfl
 ·rw [if_pos (by simpa using h),if_neg h]; rfl
theorem Ev {m:Nat}(hm:3≤m)(a b:ae):dL.f m a b=some (cT a b):=by
 unfold dL.f cT
 by_cases h:a.kind=b.kind
 ·rw [if_neg (by simp [h]),if_pos h]
  by_cases h3:a.kind=3
  ·rw [if_pos (by simpa using h3),if_pos h3,zx,Eu,aaA,aaA,Bc hm]; rfl
  ·rw [if_neg (by simpa using h3),if_neg h3,zx,Eu,aaA,aaA,Bc hm]; rfl
 ·rw [if_pos (by simpa using h),if_neg h,zx]; rfl
def nd (l:List ae)(i:Int):ae:=l.getD i.toNat ⟨0,0,⟨#[]⟩,[]⟩
theorem iT {l:List ae}{i:Int}(h0:0≤i)(h1:i<l.length):ix l i=some (nd l i):=by
 unfold ix nd
 have h:i.toNat<l.length:=by omega
 rw [if_pos h0,aaW,aaL h]; rfl
theorem iN {l:List ae}{i:Int}(h0:0≤i)(h1:i<l.length):nd l i∈l:=by
 have:=iT h0 h1
 unfold ix at this
 rw [if_pos h0] at this
 exact abI this
theorem Il {m:Nat}(hm:3≤m){l:List ae}{i j:Int}(h0:0≤i)(h1:i<l.length)(h2:0≤j)(h3:j<l.length):dZ.f m i j l=some (cT (nd l i) (nd l j)):=by
 unfold dZ.f
 rw [iT h0 h1,iT h2 h3,aaA,aaA,Ev hm]; rfl
end Go.Proofs.YtmekcfdllhphlaaGreatDoor
namespace Go.Proofs.YtmekcfdllhphlaaGreatDoor
open Go Go.R
open Go.IntKind (i64 u64 u8 u32)
def qZ:b9:=gm [0,1,2,3,4,5,6,7,8,9,10,11,12,13,14,15,17,22,23,24,37,38,39,40,61,73,74,75,76,87,88,89,90,110,126] [12] [34359738365,34359738357,34359345141,34358820853,34359345125,34359345141,34359345141,34359738357,34359738325,34359738261,34352398229,34344009621,34352397845,34335620757,34352397973,34352398229,34352398229,34359737757,34359736733,34124855709,33856420253,34124849565,34124841373,30366749085,26071781789,30366699933,30366749085,30366749085,34124779933,25534910877,34124845469,34124855709,34124855709,17179867613,34359738363,34359738269] [] []
def ax.l0 (m:Nat)(x0:List Int):Nat→(List Int)→Int→Option ((List Int) × Int)
 | 0,_,_=>none
 | k+1,fW,x1=>if (decide (x1<(x0.length:Int)))=true then ((ix fW x1).bind fun v0=>ax.l0 m x0 k (fW.set x1.toNat x1) (i64.wrap (x1+(1:Int)))) else (some ((fW,x1)))
def ax.l1 (m:Nat)(aE:List ae)(cG:List Int)(x3:(List Int)):Nat→(List Int)→Int→Int→Option ((List Int) × Int × Int)
 | 0,_,_,_=>none
 | k+1,bm,eK,x5=>if (decide (x5<(cG.length:Int)))=true then ((ix x3 x5).bind fun v1=>if (decide (x5 > (0:Int)))=true then ((ix x3 (i64.wrap (x5 - (1:Int)))).bind fun v2=>(ix aE v2).bind fun v3=>(ix aE v1).bind fun v4=>(dL.f m v3 v4).bind fun x6=>if (!(x6==(0:Int)))=true then ((ix bm v1).bind fun v5=>ax.l1 m aE cG x3 k (bm.set v1.toNat (i64.wrap (eK+(1:Int)))) (i64.wrap (eK+(1:Int))) (i64.wrap (x5+(1:Int)))) else ((ix bm v1).bind fun v6=>ax.l1 m aE cG x3 k (bm.set v1.toNat eK) eK (i64.wrap (x5+(1:Int))))) else ((ix bm v1).bind fun v7=>ax.l1 m aE cG x3 k (bm.set v1.toNat eK) eK (i64.wrap (x5+(1:Int))))) else (some ((bm,eK,x5)))
def ax.l4 (m:Nat)(cE:List Int)(v8:ae):Nat→(List Int)→Int→Option ((List Int) × Int)
 | 0,_,_=>none
 | k+1,k0,jF=>if (decide (jF<(v8.args.length:Int)))=true then ((ix v8.args jF).bind fun v10=>(ix cE v10).bind fun v11=>(ix k0 (i64.wrap (jF+(1:Int)))).bind fun v12=>ax.l4 m cE v8 k (k0.set (i64.wrap (jF+(1:Int))).toNat (i64.wrap (v11+(1:Int)))) (i64.wrap (jF+(1:Int)))) else (some ((k0,jF)))
def ax.l3 (m:Nat)(aE:List ae)(cE:List Int):Nat→(List (List Int × Int))→(List Int)→Int→Option ((List (List Int × Int)) × (List Int) × Int)
 | 0,_,_,_=>none
 | k+1,gn,ca,x9=>if (decide (x9<(aE.length:Int)))=true then ((ix aE x9).bind fun v8=>(ix cE x9).bind fun v9=>(ax.l4 m cE v8 m ([i64.wrap (v9+(1:Int)),(0:Int),(0:Int),(0:Int),(0:Int),(0:Int),(0:Int),(0:Int),(0:Int)]) (0:Int)).bind fun kW=>match kW with | (k1,pQ)=>(KG 9 gn k1).bind fun r0=>if (!r0.2)=true then ((P6 9 gn k1 (gn.length:Int)).bind fun NV=>(KG 9 NV k1).bind fun r1=>(ix ca x9).bind fun KS=>ax.l3 m aE cE k NV (ca.set x9.toNat r1.1) (i64.wrap (x9+(1:Int)))) else ((KG 9 gn k1).bind fun r2=>(ix ca x9).bind fun Cg=>ax.l3 m aE cE k gn (ca.set x9.toNat r2.1) (i64.wrap (x9+(1:Int))))) else (some ((gn,ca,x9)))
def ax.l2 (m:Nat)(aE:List ae):Nat→(List Int)→Int→Option (Sum (List Int) ((List Int) × Int))
 | 0,_,_=>none
 | k+1,cE,kc=>(xb 8 (aE.length:Int) (0:Int)).bind fun x8=>(ax.l3 m aE cE m ([]:List (List Int × Int)) x8 (0:Int)).bind fun gT=>match gT with | (pd,dq,xh)=>if ((pd.length:Int)==(i64.wrap (kc+(1:Int))))=true then (some (.inl cE)) else (ax.l2 m aE k dq (i64.wrap ((pd.length:Int) - (1:Int))))
def ax.f (m:Nat)(aE:List ae):Option ((List Int)):=(xb 8 (aE.length:Int) (0:Int)).bind fun x0=>(ax.l0 m x0 m x0 (0:Int)).bind fun aF=>match aF with | (cG,x2)=>(fN.f m cG (fun y0 y1=>dZ.f m y0 y1 aE)).bind fun x3=>(xb 8 (aE.length:Int) (0:Int)).bind fun x4=>(ax.l1 m aE cG x3 m x4 (0:Int) (0:Int)).bind fun jR=>match jR with | (cw,many1,x7)=>(ax.l2 m aE m cw many1).bind fun vV=>match vV with | .inl r3=>some r3 | .inr (iO,QI)=>none
def ax.fin (L:Mem)(r:(List Int))(s:St):Prop:=∃av,aH Tryz.prog (s.open qZ) Tryz.f77.results.toList=some av∧gf s.h av (aa.fz r)
def Wx (cf:CallF)(m:Nat):Prop:=∀(aE:List ae) (r:(List Int)),ax.f m aE=some r→∀h xs,eR fh h xs [ah.fz aE]→cf 77 xs h=some (aa.fz r,h)
section
variable {cf:CallF}{m:Nat}
theorem ax.bu (L:Mem)(aE:List ae)(az:Nat)(x0:List Int)   : bC Tryz.prog cf qZ m (sub [1,1,0,1,0,0] (codeOf Tryz.f77)) (fun k (σ:(List Int) × Int)=>ax.l0 m x0 k σ.1 σ.2) (fun σ s=>match σ with | (fW,x1)=>∃cR h2,s=⟨.any :: .ptr az 0 :: .any :: .rs cR 0 fW.length 1::nF (.int .i64 (x0.length:Int) :: .int .i64 x1::HR []),[none],h2⟩∧Has h2 ((cR,.sl fW.length 1 (aa.l fW))::(az,.ob [ah.fz aE])::L)) (fun out e s=>(e = .exit 0∧∃fW x1,(fW,x1)=out∧∃zq TV NW cR h2,s=⟨.any :: .ptr az 0 :: .any :: .rs cR 0 fW.length 1::nF (zq::TV::NW::HQ []),[none],h2⟩∧Has h2 ((cR,.sl fW.length 1 (aa.l fW))::(az,.ob [ah.fz aE])::L))):=by
 refine gk (fun _=>rfl) ?_
 rintro k ⟨fW,x1⟩ s out ⟨cR,h2,rfl,o2⟩ H
 have H:ax.l0 m x0 (k+1) fW x1=some out:=H
 refine q1 <| qq <| qc H (fun c0 H=>?_) (fun c0 H=>?_)
 ·refine qk <| qq <| qb 1 <| qq <| q0 ?_
  obtain⟨v0,e3,H⟩:=aG H
  obtain⟨h3,e4,o3⟩:=eG (P:=Tryz.prog) (tf:=3) (E:=aa) (l:=fW) (q:=0) (v:=x1) (x:=.int .i64 x1) o2 rfl Z3 e3 rfl rfl
  exact qr [.v 3 (aJ (k:=.i64) (E:=aa) (l:=fW) (q:=0) dK o2 rfl e3),.w 4 e4] <| q0 <| ⟨(fW.set x1.toNat x1,i64.wrap (x1+(1:Int))),⟨cR,h3,(abz (b:=⟨.any :: .ptr az 0 :: .any :: .rs cR 0 fW.length 1::nF (.int .i64 (x0.length:Int) :: .int .i64 (i64.wrap (x1+(1:Int)))::HR []),[none],h3⟩) (by kernel_rfl) (by simp only [aaN])),(by have o:Has h3 ((cR,.sl fW.length 1 (aa.l (fW.set x1.toNat x1)))::(az,.ob [ah.fz aE])::L):=o3; simpa only [aaN] using o)⟩,H⟩
 ·exact qx 0 <| ⟨rfl,fW,x1,oi H,.int .i64 (x0.length:Int),.int .i64 x1,.bool (decide (x1<(x0.length:Int))),cR,h2,by kernel_rfl,o2⟩
theorem ax.eO (L:Mem)(aE:List ae)(az:Nat)(fc:Nat)(cG:List Int)(fc:Nat)(x3:(List Int))  (Ik:RX cf m):bC Tryz.prog cf qZ m (sub [1,1,1,1,1,1,0,1,0,0] (codeOf Tryz.f77)) (fun k (σ:(List Int) × Int × Int)=>ax.l1 m aE cG x3 k σ.1 σ.2.1 σ.2.2) (fun σ s=>match σ with | (bm,eK,x5)=>∃gV h7,s=⟨.any :: .ptr az 0 :: .any :: .rs fc 0 cG.length 1 :: .any :: .rs gV 0 bm.length 1 :: .int .i64 eK::nF (.rs fc 0 cG.length 1 :: .int .i64 (cG.length:Int) :: .int .i64 x5::oE []),[none],h7⟩∧Has h7 ((gV,.sl bm.length 1 (aa.l bm))::(fc,.sl cG.length 1 (aa.l x3))::(az,.ob [ah.fz aE])::L)) (fun out e s=>(e = .exit 2∧∃bm eK x5,(bm,eK,x5)=out∧∃tG Im Io Ip Iq gV h7,s=⟨.any :: .ptr az 0 :: .any::tG :: .any :: .rs gV 0 bm.length 1 :: .int .i64 eK::nF (Im::Io::Ip::Iq::nE []),[none],h7⟩∧Has h7 ((gV,.sl bm.length 1 (aa.l bm))::(fc,.sl cG.length 1 (aa.l x3))::(az,.ob [ah.fz aE])::L))):=by
 refine gk (fun _=>rfl) ?_
 rintro k ⟨bm,eK,x5⟩ s out ⟨gV,h7,rfl,o7⟩ H
 have H:ax.l1 m aE cG x3 (k+1) bm eK x5=some out:=H
 refine q1 <| qq <| qc H (fun c1 H=>?_) (fun c1 H=>?_)
 ·refine qk <| qq <| qb 3 <| qq ?_
  obtain⟨v1,lF,H⟩:=aG H
  refine qr [.v 1 (aJ (k:=.i64) (E:=aa) (l:=x3) (q:=1) dK o7 rfl lF),.v 2 (bA  (E:=aa) (l:=x3) (q:=1) o7 rfl A3 lF rfl)] <| qq <| qq ?_
  rcases dX H with⟨c2,H⟩| ⟨c2,H⟩
  ·obtain⟨v2,nb,H⟩:=aG H
   obtain⟨v3,nK,H⟩:=aG H
   obtain⟨v4,pa,H⟩:=aG H
   obtain⟨x6,pc,H⟩:=aG H
   refine qr [.b 2 c2,.v 3 (show bp Tryz.prog h7 42 (.ptr az 0)=some (ah.fz aE) from cg (q:=2) (cs:=[ah.fz aE]) o7 rfl (by kernel_rfl)),.v 7 (aJ (k:=.i64) (E:=aa) (l:=x3) (q:=1) dK o7 rfl nb),.v 8 (bA  (E:=aa) (l:=x3) (q:=1) o7 rfl A3 nb rfl),.v 9 (bN (k:=.i64) (E:=ah) (l:=aE) mj nK),.v 10 (dI  (E:=ah) (l:=aE) h7 th ti nK),.v 11 (show bp Tryz.prog h7 42 (.ptr az 0)=some (ah.fz aE) from cg (q:=2) (cs:=[ah.fz aE]) o7 rfl (by kernel_rfl)),.v 13 (bN (k:=.i64) (E:=ah) (l:=aE) mj pa),.v 14 (dI  (E:=ah) (l:=aE) h7 th ti pa),.a 15 (Ik _ _ _ pc h7 _ (fT (ab (dJ (ab (aQ) (ab (aQ) (ab (cF) (ab (bB (E:=aa)) (aA)))))) (ab (dJ (ab (aQ) (ab (aQ) (ab (cF) (ab (bB (E:=aa)) (aA)))))) (aA)))))] ?_
   refine qc H (fun c3 H=>?_) (fun c3 H=>?_)
   ·refine q0 ?_
    obtain⟨v5,pb,H⟩:=aG H
    obtain⟨h8,qU,o8⟩:=eG (P:=Tryz.prog) (tf:=3) (E:=aa) (l:=bm) (q:=0) (v:=(i64.wrap (eK+(1:Int)))) (x:=.int .i64 (i64.wrap (eK+(1:Int)))) o7 rfl Z3 pb rfl rfl
    exact qr [.v 3 (aJ (k:=.i64) (E:=aa) (l:=bm) (q:=0) dK o7 rfl pb),.w 4 qU] <| q0 <| ⟨(bm.set v1.toNat (i64.wrap (eK+(1:Int))),i64.wrap (eK+(1:Int)),i64.wrap (x5+(1:Int))),⟨gV,h8,(abz (b:=⟨.any :: .ptr az 0 :: .any :: .rs fc 0 cG.length 1 :: .any :: .rs gV 0 bm.length 1 :: .int .i64 (i64.wrap (eK+(1:Int)))::nF (.rs fc 0 cG.length 1 :: .int .i64 (cG.length:Int) :: .int .i64 (i64.wrap (x5+(1:Int)))::oE []),[none],h8⟩) (by kernel_rfl) (by simp only [aaN])),(by have o:Has h8 ((gV,.sl bm.length 1 (aa.l (bm.set v1.toNat (i64.wrap (eK+(1:Int))))))::(fc,.sl cG.length 1 (aa.l x3))::(az,.ob [ah.fz aE])::L):=o8; simpa only [aaN] using o)⟩,H⟩
   ·refine qk ?_
    obtain⟨v6,pP,H⟩:=aG H
    obtain⟨h9,tO,o9⟩:=eG (P:=Tryz.prog) (tf:=3) (E:=aa) (l:=bm) (q:=0) (v:=eK) (x:=.int .i64 eK) o7 rfl Z3 pP rfl rfl
    exact qr [.v 3 (aJ (k:=.i64) (E:=aa) (l:=bm) (q:=0) dK o7 rfl pP),.w 4 tO] <| q0 <| ⟨(bm.set v1.toNat eK,eK,i64.wrap (x5+(1:Int))),⟨gV,h9,(abz (b:=⟨.any :: .ptr az 0 :: .any :: .rs fc 0 cG.length 1 :: .any :: .rs gV 0 bm.length 1 :: .int .i64 eK::nF (.rs fc 0 cG.length 1 :: .int .i64 (cG.length:Int) :: .int .i64 (i64.wrap (x5+(1:Int)))::oE []),[none],h9⟩) (by kernel_rfl) (by simp only [aaN])),(by have o:Has h9 ((gV,.sl bm.length 1 (aa.l (bm.set v1.toNat eK)))::(fc,.sl cG.length 1 (aa.l x3))::(az,.ob [ah.fz aE])::L):=o9; simpa only [aaN] using o)⟩,H⟩
  ·refine qr [.b 2 c2] <| AU <| qk ?_
   obtain⟨v7,rF,H⟩:=aG H
   obtain⟨h10,ye,oz⟩:=eG (P:=Tryz.prog) (tf:=3) (E:=aa) (l:=bm) (q:=0) (v:=eK) (x:=.int .i64 eK) o7 rfl Z3 rF rfl rfl
   exact qr [.v 3 (aJ (k:=.i64) (E:=aa) (l:=bm) (q:=0) dK o7 rfl rF),.w 4 ye] <| q0 <| ⟨(bm.set v1.toNat eK,eK,i64.wrap (x5+(1:Int))),⟨gV,h10,(abz (b:=⟨.any :: .ptr az 0 :: .any :: .rs fc 0 cG.length 1 :: .any :: .rs gV 0 bm.length 1 :: .int .i64 eK::nF (.rs fc 0 cG.length 1 :: .int .i64 (cG.length:Int) :: .int .i64 (i64.wrap (x5+(1:Int)))::oE []),[none],h10⟩) (by kernel_rfl) (by simp only [aaN])),(by have o:Has h10 ((gV,.sl bm.length 1 (aa.l (bm.set v1.toNat eK)))::(fc,.sl cG.length 1 (aa.l x3))::(az,.ob [ah.fz aE])::L):=oz; simpa only [aaN] using o)⟩,H⟩
 ·exact qx 2 <| ⟨rfl,bm,eK,x5,oi H,.rs fc 0 cG.length 1,.rs fc 0 cG.length 1,.int .i64 (cG.length:Int),.int .i64 x5,.bool (decide (x5<(cG.length:Int))),gV,h7,(abz (b:=⟨.any :: .ptr az 0 :: .any :: .rs fc 0 cG.length 1 :: .any :: .rs gV 0 bm.length 1 :: .int .i64 eK::nF (.rs fc 0 cG.length 1 :: .int .i64 (cG.length:Int) :: .int .i64 x5 :: .bool (decide (x5<(cG.length:Int)))::nE []),[none],h7⟩) (by kernel_rfl) (by simp only [aaN])),(by have o:Has h7 ((gV,.sl bm.length 1 (aa.l bm))::(fc,.sl cG.length 1 (aa.l x3))::(az,.ob [ah.fz aE])::L):=o7; simpa only [aaN] using o)⟩
theorem ax.vQ (L:Mem)(aE:List ae)(az:Nat)(iX:Nat)(cE:List Int)(kc:Int)(iX:Nat)(kP:Nat)(eS:Nat)(gn:List (List Int × Int))(ca:List Int)(x9:Int)(eS:Nat)(v8:ae)(me:Nat)   : bC Tryz.prog cf qZ m (sub [1,1,1,1,1,1,1,0,0,0,1,1,0,1,0,0,1,1,0,0,1,1,0,1,0,0] (codeOf Tryz.f77)) (fun k (σ:(List Int) × Int)=>ax.l4 m cE v8 k σ.1 σ.2) (fun σ s=>match σ with | (k0,jF)=>∃h18,s=⟨.any :: .ptr az 0::jE (.rs iX 0 cE.length 1 :: .int .i64 kc :: .any :: .any :: .mp kP :: .rs eS 0 ca.length 1 :: .int .i64 x9 :: .any :: .ptr me 0::nE (ah.fz aE :: .int .i64 (aE.length:Int) :: .int .i64 x9 :: .any::aa.fz v8.args :: .int .i64 (v8.args.length:Int) :: .int .i64 jF::jE [])),[none],h18⟩∧Has h18 ((me,.sl 9 1 (aa.l k0))::(eS,.sl ca.length 1 (aa.l ca))::(kP,.mp (xc gn))::(iX,.sl cE.length 1 (aa.l cE))::(az,.ob [ah.fz aE])::L)) (fun out e s=>(e = .exit 8∧∃k0 jF,(k0,jF)=out∧∃TW NX TX TY h18,s=⟨.any :: .ptr az 0::jE (.rs iX 0 cE.length 1 :: .int .i64 kc :: .any :: .any :: .mp kP :: .rs eS 0 ca.length 1 :: .int .i64 x9 :: .any :: .ptr me 0::nE [ah.fz aE,.int .i64 (aE.length:Int),.int .i64 x9,.any,TW,NX,TX,TY,.any,.any]),[none],h18⟩∧Has h18 ((me,.sl 9 1 (aa.l k0))::(eS,.sl ca.length 1 (aa.l ca))::(kP,.mp (xc gn))::(iX,.sl cE.length 1 (aa.l cE))::(az,.ob [ah.fz aE])::L))):=by
 refine gk (fun _=>rfl) ?_
 rintro k ⟨k0,jF⟩ s out ⟨h18,rfl,qV⟩ H
 have H:ax.l4 m cE v8 (k+1) k0 jF=some out:=H
 refine q1 <| qq <| qc H (fun c6 H=>?_) (fun c6 H=>?_)
 ·refine qk <| qq <| qb 9 <| qq ?_
  obtain⟨v10,C2,H⟩:=aG H
  refine qr [.v 1 (bN (k:=.i64) (E:=aa) (l:=v8.args) dK C2),.v 2 (dd  (E:=aa) (l:=v8.args) h18 A3 C2 rfl)] ?_
  obtain⟨v11,Gd,H⟩:=aG H
  obtain⟨v12,KT,H⟩:=aG H
  obtain⟨h19,NY,Ew⟩:=eG (P:=Tryz.prog) (tf:=3) (E:=aa) (l:=k0) (q:=0) (v:=(i64.wrap (v11+(1:Int)))) (x:=.int .i64 (i64.wrap (v11+(1:Int)))) qV rfl Z3 KT rfl rfl
  exact qr [.v 4 (aJ (k:=.i64) (E:=aa) (l:=cE) (q:=3) dK qV rfl Gd),.v 5 (bA  (E:=aa) (l:=cE) (q:=3) qV rfl A3 Gd rfl),.v 7 (Nr (k:=.i64) (q:=0) (l:=k0) ya qV rfl KT),.w 8 NY] <| q0 <| ⟨(k0.set (i64.wrap (jF+(1:Int))).toNat (i64.wrap (v11+(1:Int))),i64.wrap (jF+(1:Int))),⟨h19,by kernel_rfl,Ew⟩,H⟩
 ·exact qx 8 <| ⟨rfl,k0,jF,oi H,aa.fz v8.args,.int .i64 (v8.args.length:Int),.int .i64 jF,.bool (decide (jF<(v8.args.length:Int))),h18,by kernel_rfl,qV⟩
theorem ax.qT (L:Mem)(aE:List ae)(az:Nat)(iX:Nat)(cE:List Int)(kc:Int)(iX:Nat)(kP:Nat)   : bC Tryz.prog cf qZ m (sub [1,1,1,1,1,1,1,0,0,0,1,1,0,1,0,0] (codeOf Tryz.f77)) (fun k (σ:(List (List Int × Int)) × (List Int) × Int)=>ax.l3 m aE cE k σ.1 σ.2.1 σ.2.2) (fun σ s=>match σ with | (gn,ca,x9)=>∃eS h15,s=⟨.any :: .ptr az 0::jE (.rs iX 0 cE.length 1 :: .int .i64 kc :: .any :: .any :: .mp kP :: .rs eS 0 ca.length 1::qG (ah.fz aE :: .int .i64 (aE.length:Int) :: .int .i64 x9::zY [])),[none],h15⟩∧Has h15 ((eS,.sl ca.length 1 (aa.l ca))::(kP,.mp (xc gn))::(iX,.sl cE.length 1 (aa.l cE))::(az,.ob [ah.fz aE])::L)) (fun out e s=>(e = .exit 6∧∃gn ca x9,(gn,ca,x9)=out∧∃TZ T0 T1 T2 eS h15,s=⟨.any :: .ptr az 0::jE (.rs iX 0 cE.length 1 :: .int .i64 kc :: .any :: .any :: .mp kP :: .rs eS 0 ca.length 1::qG (TZ::T0::T1::T2::zX [])),[none],h15⟩∧Has h15 ((eS,.sl ca.length 1 (aa.l ca))::(kP,.mp (xc gn))::(iX,.sl cE.length 1 (aa.l cE))::(az,.ob [ah.fz aE])::L))):=by
 refine gk (fun _=>rfl) ?_
 rintro k ⟨gn,ca,x9⟩ s out ⟨eS,h15,rfl,kO⟩ H
 have H:ax.l3 m aE cE (k+1) gn ca x9=some out:=H
 refine q1 <| qq <| qc H (fun c5 H=>?_) (fun c5 H=>?_)
 ·refine qk <| qq <| qb 7 <| qq ?_
  obtain⟨v8,z8,H⟩:=aG H
  refine qr [.v 1 (bN (k:=.i64) (E:=ah) (l:=aE) mj z8),.v 2 (dI  (E:=ah) (l:=aE) h15 th ti z8)] <| qq ?_
  obtain⟨v9,C3,H⟩:=aG H
  obtain⟨me,h16,El,uF⟩:=KI (cs:=[.int .i64 (0:Int),.int .i64 (0:Int),.int .i64 (0:Int),.int .i64 (0:Int),.int .i64 (0:Int),.int .i64 (0:Int),.int .i64 (0:Int),.int .i64 (0:Int),.int .i64 (0:Int)]) (l:=[(0:Int),(0:Int),(0:Int),(0:Int),(0:Int),(0:Int),(0:Int),(0:Int),(0:Int)]) kO (by kernel_rfl)
  obtain⟨h17,C1,yf⟩:=Ns (q:=0) (l:=([(0:Int),(0:Int),(0:Int),(0:Int),(0:Int),(0:Int),(0:Int),(0:Int),(0:Int)])) (l':=[i64.wrap (v9+(1:Int)),(0:Int),(0:Int),(0:Int),(0:Int),(0:Int),(0:Int),(0:Int),(0:Int)]) (x:=.agg [.int .i64 (i64.wrap (v9+(1:Int))),.int .i64 (0:Int),.int .i64 (0:Int),.int .i64 (0:Int),.int .i64 (0:Int),.int .i64 (0:Int),.int .i64 (0:Int),.int .i64 (0:Int),.int .i64 (0:Int)]) ya uF rfl rfl rfl
  refine qr [.v 2 (aJ (k:=.i64) (E:=aa) (l:=cE) (q:=2) dK kO rfl C3),.v 3 (bA  (E:=aa) (l:=cE) (q:=2) kO rfl A3 C3 rfl),.a 6 El,.w 7 C1] <| qq <| qq <| q0 <| qb 8 ?_
  obtain⟨kW,J9,H⟩:=aG H
  refine ql (ax.vQ L aE az iX cE kc iX kP eS gn ca x9 eS v8 me   ([i64.wrap (v9+(1:Int)),(0:Int),(0:Int),(0:Int),(0:Int),(0:Int),(0:Int),(0:Int),(0:Int)],(0:Int)) _ _ ⟨h17,by kernel_rfl,yf⟩ J9) ?_
  rintro e s ⟨rfl,k1,pQ,rfl,g13,g14,g15,g16,h20,rfl,uG⟩
  try dsimp only at H
  refine qq <| qq ?_
  obtain⟨r0,OZ,H⟩:=aG H
  refine qr [.v 1 (show bp Tryz.prog h20 134 (.ptr me 0)=some (.agg (aa.l k1)) from zg (q:=0) (l:=k1) ya uG rfl),.v 2 (show gz Tryz.prog h20 132 (.mp kP) (.agg (aa.l k1)) true=some (.tup [.int .i64 r0.1,.bool r0.2]) from (Np (q:=2) (l:=gn) (k:=k1) Ea uG rfl OZ).1)] <| qq <| q0 <| qc H (fun c7 H=>?_) (fun c7 H=>?_)
  ·obtain⟨NV,O0,H⟩:=aG H
   obtain⟨h21,QJ,xi⟩:=Tx (q:=2) (l:=gn) (k:=k1) (v:=(gn.length:Int)) Ea uG rfl O0
   refine qr [.v 1 (show bp Tryz.prog h20 134 (.ptr me 0)=some (.agg (aa.l k1)) from zg (q:=0) (l:=k1) ya uG rfl),.v 3 (show uK Tryz.prog h20 132 (.mp kP)=some (.int .i64 (gn.length:Int)) from Nq (q:=2) (l:=gn) HY uG rfl),.w 4 QJ] ?_
   obtain⟨r1,QK,H⟩:=aG H
   obtain⟨KS,NZ,H⟩:=aG H
   obtain⟨h22,O1,Bd⟩:=eG (P:=Tryz.prog) (tf:=3) (E:=aa) (l:=ca) (q:=1) (v:=r1.1) (x:=.int .i64 r1.1) xi rfl Z3 NZ rfl rfl
   refine qr [.v 3 (show bp Tryz.prog h21 134 (.ptr me 0)=some (.agg (aa.l k1)) from zg (q:=0) (l:=k1) ya xi rfl),.v 4 (show gz Tryz.prog h21 132 (.mp kP) (.agg (aa.l k1)) false=some (.int .i64 r1.1) from (Np (q:=2) (l:=NV) (k:=k1) Ea xi rfl QK).2),.v 5 (aJ (k:=.i64) (E:=aa) (l:=ca) (q:=1) dK xi rfl NZ),.w 6 O1] ?_
   have Gg:Has h22 ((eS,.sl ca.length 1 (aa.l (ca.set x9.toNat r1.1)))::(kP,.mp (xc NV))::(iX,.sl cE.length 1 (aa.l cE))::(az,.ob [ah.fz aE])::L):=Has.del Bd 0
   exact q0 <| ⟨(NV,ca.set x9.toNat r1.1,i64.wrap (x9+(1:Int))),⟨eS,h22,(abz (b:=⟨.any :: .ptr az 0::jE (.rs iX 0 cE.length 1 :: .int .i64 kc :: .any :: .any :: .mp kP :: .rs eS 0 ca.length 1::qG (ah.fz aE :: .int .i64 (aE.length:Int) :: .int .i64 (i64.wrap (x9+(1:Int)))::zY [])),[none],h22⟩) (by kernel_rfl) (by simp only [aaN])),(by have o:Has h22 ((eS,.sl ca.length 1 (aa.l (ca.set x9.toNat r1.1)))::(kP,.mp (xc NV))::(iX,.sl cE.length 1 (aa.l cE))::(az,.ob [ah.fz aE])::L):=Gg; simpa only [aaN] using o)⟩,H⟩
  ·refine qk ?_
   obtain⟨r2,QL,H⟩:=aG H
   obtain⟨Cg,KV,H⟩:=aG H
   obtain⟨h23,Mb,O2⟩:=eG (P:=Tryz.prog) (tf:=3) (E:=aa) (l:=ca) (q:=1) (v:=r2.1) (x:=.int .i64 r2.1) uG rfl Z3 KV rfl rfl
   refine qr [.v 3 (show bp Tryz.prog h20 134 (.ptr me 0)=some (.agg (aa.l k1)) from zg (q:=0) (l:=k1) ya uG rfl),.v 4 (show gz Tryz.prog h20 132 (.mp kP) (.agg (aa.l k1)) false=some (.int .i64 r2.1) from (Np (q:=2) (l:=gn) (k:=k1) Ea uG rfl QL).2),.v 5 (aJ (k:=.i64) (E:=aa) (l:=ca) (q:=1) dK uG rfl KV),.w 6 Mb] ?_
   have oJ:Has h23 ((eS,.sl ca.length 1 (aa.l (ca.set x9.toNat r2.1)))::(kP,.mp (xc gn))::(iX,.sl cE.length 1 (aa.l cE))::(az,.ob [ah.fz aE])::L):=Has.del O2 0
   exact q0 <| ⟨(gn,ca.set x9.toNat r2.1,i64.wrap (x9+(1:Int))),⟨eS,h23,(abz (b:=⟨.any :: .ptr az 0::jE (.rs iX 0 cE.length 1 :: .int .i64 kc :: .any :: .any :: .mp kP :: .rs eS 0 ca.length 1::qG (ah.fz aE :: .int .i64 (aE.length:Int) :: .int .i64 (i64.wrap (x9+(1:Int)))::zY [])),[none],h23⟩) (by kernel_rfl) (by simp only [aaN])),(by have o:Has h23 ((eS,.sl ca.length 1 (aa.l (ca.set x9.toNat r2.1)))::(kP,.mp (xc gn))::(iX,.sl cE.length 1 (aa.l cE))::(az,.ob [ah.fz aE])::L):=oJ; simpa only [aaN] using o)⟩,H⟩
 ·exact qx 6 <| ⟨rfl,gn,ca,x9,oi H,ah.fz aE,.int .i64 (aE.length:Int),.int .i64 x9,.bool (decide (x9<(aE.length:Int))),eS,h15,by kernel_rfl,kO⟩
theorem ax.ma (L:Mem)(aE:List ae)(az:Nat)   : bC Tryz.prog cf qZ m (sub [1,1,1,1,1,1,1,0,0] (codeOf Tryz.f77)) (fun k (σ:(List Int) × Int)=>ax.l2 m aE k σ.1 σ.2) (fun σ s=>match σ with | (cE,kc)=>∃g8 g9 g10 g11 g12 iX h12,s=⟨.any :: .ptr az 0 :: .any::g8 :: .any :: .rs iX 0 cE.length 1 :: .int .i64 kc::nF (g9::g10::g11::g12::nE []),[none],h12⟩∧Has h12 ((iX,.sl cE.length 1 (aa.l cE))::(az,.ob [ah.fz aE])::L)) (fun out e s=>(e = .exit 4∧∃cE kc,.inr (cE,kc)=out∧∃qM tG oK C8 Im Io Ip Iq iX h12,s=⟨.any::qM :: .any::tG :: .any::oK::C8::nF (Im::Io::Ip::Iq::nE []),[none],h12⟩∧Has h12 ((iX,.sl cE.length 1 (aa.l cE))::(az,.ob [ah.fz aE])::L))∨(e = .ret∧∃r,.inl r=out∧ax.fin L r s)):=by
 refine gk (fun _=>rfl) ?_
 rintro k ⟨cE,kc⟩ s out ⟨g8,g9,g10,g11,g12,iX,h12,rfl,kN⟩ H
 have H:ax.l2 m aE (k+1) cE kc=some out:=H
 refine qb 5 <| qq ?_
 obtain⟨kP,h13,zZ,tL⟩:=HM kN
 refine qr [.m 0 zZ] <| qq ?_
 obtain⟨x8,Bb,H⟩:=aG H
 obtain⟨rG,h14,z6,qR⟩:=pz (P:=Tryz.prog) (E:=aa) (z:=(0:Int)) (zv:=.int .i64 (0:Int)) dK tL 3 rfl rfl rfl rfl Bb
 refine qr [.v 0 (show bp Tryz.prog h13 42 (.ptr az 0)=some (ah.fz aE) from cg (q:=2) (cs:=[ah.fz aE]) tL rfl (by kernel_rfl)),.a 2 z6] <| qq <| qq <| qr [.v 0 (show bp Tryz.prog h14 42 (.ptr az 0)=some (ah.fz aE) from cg (q:=3) (cs:=[ah.fz aE]) qR rfl (by kernel_rfl))] <| qb 6 ?_
 obtain⟨gT,Mc,H⟩:=aG H
 refine ql (ax.qT L aE az iX cE kc iX kP   (([]:List (List Int × Int)),x8,(0:Int)) _ _ ⟨rG,h14,by kernel_rfl,qR⟩ Mc) ?_
 rintro e s ⟨rfl,pd,dq,xh,rfl,g17,g18,g19,g20,fO,h24,rfl,Md⟩
 try dsimp only at H
 refine qq <| qq <| qr [.v 1 (show uK Tryz.prog h24 132 (.mp kP)=some (.int .i64 (pd.length:Int)) from Nq (q:=1) (l:=pd) HY Md rfl)] <| qc H (fun c8 H=>?_) (fun c8 H=>?_)
 ·refine q1 ?_
  have Ka:Has h24 ((fO,.sl dq.length 1 (aa.l dq))::(kP,.mp (xc pd))::(iX,.sl cE.length 1 (aa.l cE))::L):=Has.del Md 3
  have QM:Has h24 ((fO,.sl dq.length 1 (aa.l dq))::(iX,.sl cE.length 1 (aa.l cE))::L):=Has.del Ka 1
  have QN:Has h24 ((iX,.sl cE.length 1 (aa.l cE))::L):=Has.del QM 0
  exact qt <| abD (⟨rfl,_,oi H,cp (.rs iX 0 cE.length 1) h24 (cn (vn (E:=aa) (l:=cE) (q:=0) QN rfl (fun _=>rfl)))⟩)
 ·refine qk <| qr [.v 2 (show uK Tryz.prog h24 132 (.mp kP)=some (.int .i64 (pd.length:Int)) from Nq (q:=1) (l:=pd) HY Md rfl)] ?_
  have RY:Has h24 ((fO,.sl dq.length 1 (aa.l dq))::(kP,.mp (xc pd))::(az,.ob [ah.fz aE])::L):=Has.del Md 2
  have T3:Has h24 ((fO,.sl dq.length 1 (aa.l dq))::(az,.ob [ah.fz aE])::L):=Has.del RY 1
  exact⟨(dq,i64.wrap ((pd.length:Int) - (1:Int))),⟨.any,.any,.any,.any,.any,fO,h24,by kernel_rfl,T3⟩,H⟩
theorem q6 {aV:FuncId→b9}(ha:aV 77=qZ)(T4:Ws cf m)(T5:Ww cf m)(Ik:RX cf m)(aE:List ae)(h:AHeap)(L:Mem)  (o:Has h (L)){out:(List Int)}(H:ax.f m aE=some out) :
  ∃r h',bg Tryz.prog aV cf m 77 [ah.fz aE] h=some (r,h')∧gf h' r (aa.fz out):=by
 refine aj (fn:=Tryz.f77) ha Tryz.func77 (by kernel_rfl) (by kernel_rfl) ?_
 refine aD (Q:=fun s=>ax.fin L out s) (fun _ _ h=>h) ?_
 have H:_=some out:=H
 unfold ax.f at H
 show dA _ cf qZ m _ ⟨ah.fz aE::TB [],[none],h⟩ _
 refine qq ?_
 obtain⟨az,h0,e0,o0⟩:=kL (cs:=[ah.fz aE]) o (by kernel_rfl)
 refine qr [.a 0 e0] <| qq ?_
 obtain⟨x0,e1,H⟩:=aG H
 obtain⟨dR,h1,e2,o1⟩:=pz (P:=Tryz.prog) (E:=aa) (z:=(0:Int)) (zv:=.int .i64 (0:Int)) dK o0 3 rfl rfl rfl rfl e1
 refine qr [.v 0 (show bp Tryz.prog h0 42 (.ptr az 0)=some (ah.fz aE) from cg (q:=0) (cs:=[ah.fz aE]) o0 rfl (by kernel_rfl)),.a 2 e2] <| qq <| qq <| q0 <| qb 0 ?_
 obtain⟨aF,e5,H⟩:=aG H
 refine ql (ax.bu L aE az x0   (x0,(0:Int)) _ _ ⟨dR,h1,by kernel_rfl,o1⟩ e5) ?_
 rintro e s ⟨rfl,cG,x2,rfl,g0,g1,g2,fc,h4,rfl,o4⟩
 try dsimp only at H
 refine qq ?_
 obtain⟨x3,e6,H⟩:=aG H
 obtain⟨h5,e7,o5⟩:=T4 _ _ _ e6 h4 _ _ _ (o4) 98 [.ptr az 0] rfl (fun h' K' o' y0 y1 r hr=>T5 y0 y1 _ r hr h' _ (K'.length+0) _ o' (No rfl)) [.rs fc 0 cG.length 1,.fn 98 [.ptr az 0]] (an (rfl) (an (rfl) (aT)))
 refine qr [.a 2 e7] <| qq ?_
 obtain⟨x4,e8,H⟩:=aG H
 obtain⟨gY,h6,e9,o6⟩:=pz (P:=Tryz.prog) (E:=aa) (z:=(0:Int)) (zv:=.int .i64 (0:Int)) dK o5 3 rfl rfl rfl rfl e8
 refine qr [.v 0 (show bp Tryz.prog h5 42 (.ptr az 0)=some (ah.fz aE) from cg (q:=1) (cs:=[ah.fz aE]) o5 rfl (by kernel_rfl)),.a 2 e9] <| qq <| q0 <| qq <| qq <| q0 <| qb 2 ?_
 obtain⟨jR,z7,H⟩:=aG H
 refine ql (ax.eO L aE az fc cG fc x3  Ik (x4,(0:Int),(0:Int)) _ _ ⟨gY,h6,(abz (b:=⟨.any :: .ptr az 0 :: .any :: .rs fc 0 cG.length 1 :: .any :: .rs gY 0 x4.length 1 :: .int .i64 (0:Int)::nF (.rs fc 0 cG.length 1 :: .int .i64 (cG.length:Int) :: .int .i64 (0:Int)::oE []),[none],h6⟩) (by kernel_rfl) (by simp only [aaN])),(by have o:Has h6 ((gY,.sl x4.length 1 (aa.l x4))::(fc,.sl cG.length 1 (aa.l x3))::(az,.ob [ah.fz aE])::L):=o6; simpa only [aaN] using o)⟩ z7) ?_
 rintro e s ⟨rfl,cw,many1,x7,rfl,g3,g4,g5,g6,g7,fK,h11,rfl,sg⟩
 try dsimp only at H
 refine qb 4 ?_
 have oZ:Has h11 ((fK,.sl cw.length 1 (aa.l cw))::(az,.ob [ah.fz aE])::L):=Has.del sg 1
 obtain⟨vV,O3,H⟩:=aG H
 refine ql (ax.ma L aE az   (cw,many1) _ _ ⟨g3,g4,g5,g6,g7,fK,h11,by kernel_rfl,oZ⟩ O3) ?_
 rintro e s (⟨rfl,iO,QI,rfl,g21,g22,g23,g24,g25,g26,g27,g28,fP,h25,rfl,o33⟩| ⟨rfl,r3,rfl,l8⟩)
 ·try dsimp only at H
  cases H
 ·try dsimp only at H
  obtain rfl:=oi H
  exact⟨.inl rfl,l8⟩
end
end Go.Proofs.YtmekcfdllhphlaaGreatDoor
namespace Go.Proofs.YtmekcfdllhphlaaGreatDoor
open Go Go.R
open Go.IntKind (i64 u64 u8 u32)
def key (out:List Int)(n:ae)(i:Nat):List Int:=(gt out i+1)::((n.args.map fun a=>gt out a.toNat+1)++aaV (8 - n.args.length) 0)
def enum:List (List Int)→Nat→List (List Int × Int)
 | [],_=>[]
 | k::ks,s=>(k,(s:Int))::enum ks (s+1)
theorem nN:∀(ks:List (List Int)) (s:Nat),(enum ks s).length=ks.length
 | [],_=>rfl
 | k::ks,s=>by simp [enum,nN ks]
theorem vW:∀(ks:List (List Int)) (s:Nat) (k:List Int),vq (enum ks s) k=if k∈ks then (((s+ks.idxOf k:Nat):Int),true) else (0,false)
 | [],s,k=>rfl
 | a::ks,s,k=>by
  simp only [enum,vq,vW ks (s+1) k,abb,List.idxOf_cons]
  by_cases h:k=a
  ·subst h; simp
  ·have h':(a==k)=false:=by simpa using fun z:a=k=>h z.symm
   rw [if_neg h,h']
   by_cases h2:k∈ks
   ·simp only [h2,if_true,or_true,cond_false]
    simp only [aaJ,and_true]
    omega
   ·simp [h2,h]
theorem Be:∀(ks:List (List Int)) (s:Nat) (k:List Int),k∉ks→CR (enum ks s) k ((s+ks.length:Nat):Int)=enum (ks++[k]) s
 | [],s,k,_=>rfl
 | a::ks,s,k,h=>by
  have h1:k≠a:=fun z=>h (by simp [z])
  have h2:k∉ks:=fun z=>h (by simp [z])
  simp only [enum,CR,aa0,if_neg h1,aaR]
  rw [show s+(ks.length+1)=s+1+ks.length by omega,Be ks (s+1) k h2]
theorem oB {n:Nat}:∀(ks:List (List Int)) (s:Nat) (k:List Int),k.length=n→(∀a∈ks,a.length=n)→vp n (enum ks s) k=true
 | [],s,k,h,_=>by simp [vp,enum,h]
 | a::ks,s,k,h,h2=>by
  have:=oB ks (s+1) k h fun a ha=>h2 a (by simp [ha])
  simp only [vp,aaF,beq_iff_eq,h,true_and] at this ⊢
  simp only [enum,abA,aaF,beq_iff_eq]
  exact⟨h2 a (by simp),this⟩
structure Part (n:Nat)(out:List Int)(many:Nat):Prop where
 len:out.length=n
 Ch:∀i,i<n→0≤gt out i∧gt out i≤many
 Wy:∀v:Nat,v≤many→∃i,i<n∧gt out i=v
structure sn (l:List ae)(out:List Int)(p:Nat)(ks:List (List Int)):Prop where
 Kb:ks.Nodup
 mem:∀k,k∈ks↔∃i,i<p∧key out (nd l i) i=k
def mf (l:List ae):Prop:=l.length≤8000∧∀n∈l,n.args.length≤8∧∀a∈n.args,0≤a∧a<l.length
theorem KW {a:Int}{L:List Int}{t:Nat}{v:Int}(hL:L.length=t)(ht:t<8):(a::(L++aaV (8 - t) 0)).set (t+1) v=a::((L++[v])++aaV (8 - (t+1)) 0):=by
 rw [List.set_cons_succ,acf _ _ (by omega),hL,acm,show 8 - t=(8 - (t+1))+1 by omega,List.replicate_succ,List.set_cons_zero,aaM]
 rfl
theorem Ir {m:Nat}{out:List Int}{n:ae}(h8:n.args.length≤8)(ha:∀a∈n.args,0≤a∧a<out.length)(ho:∀i,i<out.length→0≤gt out i∧gt out i<2 ^ 40)(o:Int):∀(f t:Nat),n.args.length - t<f→t≤n.args.length→
  ∃x,ax.l4 m out n f (o::(((n.args.take t).map fun a=>gt out a.toNat+1)++aaV (8 - t) 0)) (t:Int)=some (o::((n.args.map fun a=>gt out a.toNat+1)++aaV (8 - n.args.length) 0),x)
 | 0,t,hf,_=>absurd hf (by omega)
 | f+1,t,hf,ht=>by
  have mZ:(2:Nat) ^ 40=1099511627776:=by decide
  have i40:(2:Int) ^ 40=1099511627776:=by decide
  unfold ax.l4
  by_cases h:t<n.args.length
  ·have hx:ix n.args (t:Int)=some (gt n.args t):=db h
   obtain⟨b0,b1⟩:=ha _ (a8 h)
   obtain⟨c0,c1⟩:=ho (gt n.args t).toNat (by omega)
   have hy:ix out (gt n.args t)=some (gt out (gt n.args t).toNat):=gX (by omega) (by omega)
   have e1:i64.wrap ((t:Int)+1)=((t+1:Nat):Int):=by rw [ay (by omega) (by omega)]; omega
   have hT:((n.args.take t).map fun a=>gt out a.toNat+1).length=t:=by simp; omega
   have hz:∃z,ix (o::(((n.args.take t).map fun a=>gt out a.toNat+1)++aaV (8 - t) 0)) ((t+1:Nat):Int)=some z:=⟨_,db (by simp; omega)⟩
   obtain⟨z,hz⟩:=hz
   obtain⟨x,ih⟩:=Ir (m:=m) h8 ha ho o f (t+1) (by omega) (by omega)
   have hT1:n.args.take (t+1)=n.args.take t++[gt n.args t]:=by rw [abL,bL h]; rfl
   rw [hT1,aa8] at ih
   rw [if_pos (by simp only [decide_eq_true_eq]; omega),hx,aaA,hy,aaA,e1,hz,aaA,aaH,ay (x:=gt out (gt n.args t).toNat+1) (by omega) (by omega),KW hT (by omega)]
   exact⟨x,ih⟩
  ·have:t=n.args.length:=by omega
   subst this
   exact⟨_,by rw [if_neg (by simp),abO]⟩
theorem vX {out:List Int}{n:ae}{i:Nat}(h8:n.args.length≤8):(key out n i).length=9:=by simp [key]; omega
theorem Bf {l:List ae}(ok:mf l){i:Nat}(h:i<l.length):(nd l i).args.length≤8∧∀a∈(nd l i).args,0≤a∧a<l.length:=ok.2 _ (iN (by omega) (by omega))
theorem Da {m:Nat}(hm:2 ^ 30≤m){l:List ae}{out:List Int}{many:Nat}(ok:mf l)(P:Part l.length out many)(Me:many<2 ^ 30):∀(f p:Nat) (ks:List (List Int)) (next:List Int),l.length - p<f→p≤l.length→sn l out p ks→next.length=l.length→
  (∀i,i<p→gt next i=(ks.idxOf (key out (nd l i) i):Int))→
  ∃T6 next' x,ax.l3 m l out f (enum ks 0) next (p:Int)=some (enum T6 0,next',x)∧sn l out l.length T6∧next'.length=l.length∧∀i,i<l.length→gt next' i=(T6.idxOf (key out (nd l i) i):Int)
 | 0,p,ks,next,hf,_,_,_,_=>absurd hf (by omega)
 | f+1,p,ks,next,hf,hp,K,hn,hg=>by
  have kV:(2:Nat) ^ 30=1073741824:=by decide
  have mZ:(2:Nat) ^ 40=1099511627776:=by decide
  have i40:(2:Int) ^ 40=1099511627776:=by decide
  have h8000:=ok.1
  have J4:=P.len
  unfold ax.l3
  by_cases h:p<l.length
  ·obtain⟨n1,n2⟩:=Bf ok h
   obtain⟨r0,r1⟩:=P.Ch p h
   have e1:i64.wrap ((p:Int)+1)=((p+1:Nat):Int):=by rw [ay (by omega) (by omega)]; omega
   obtain⟨x,hk⟩:=Ir (m:=m) (out:=out) (n:=nd l p) n1 (by rw [J4]; exact n2) (fun i hi=>by have:=P.Ch i (by omega); omega) (gt out p+1) m 0 (by omega) (by omega)
   have hk:ax.l4 m out (nd l p) m [gt out p+1,0,0,0,0,0,0,0,0] 0=some (key out (nd l p) p,x):=hk
   have RZ:=vX (out:=out) (i:=p) n1
   have CB:∀a∈ks,a.length=9:=fun a ha=>by
    obtain⟨i,hi,rfl⟩:=(K.mem a).1 ha
    exact vX (Bf ok (by omega)).1
   have N0:∃z,ix next (p:Int)=some z:=⟨_,db (by omega)⟩
   obtain⟨z,hz⟩:=N0
   rw [if_pos (by simp only [decide_eq_true_eq]; omega),iT (by omega) (by omega),aaA,db (by omega),aaA,ay (x:=gt out p+1) (by omega) (by omega),hk,aaA]
   dsimp only
   have hG:KG 9 (enum ks 0) (key out (nd l p) p)=some (if key out (nd l p) p∈ks then (((ks.idxOf (key out (nd l p) p):Nat):Int),true) else (0,false)):=by
    unfold KG; rw [if_pos (oB _ _ _ RZ CB),vW,aaZ]
   rw [hG,aaA,e1,hz]
   by_cases hin:key out (nd l p) p∈ks
   ·rw [if_pos hin,if_neg (by simp),aaA,aaA,aaH]
    refine Da hm ok P Me f (p+1) ks _ (by omega) (by omega) ⟨K.Kb,fun k=>⟨fun hk=>?_,fun ⟨i,hi,rS⟩=>?_⟩⟩ (by simpa using hn) (fun i hi=>?_)
    ·obtain⟨i,hi,h⟩:=(K.mem k).1 hk; exact⟨i,by omega,h⟩
    ·by_cases KX:i=p
     ·subst KX; rw [←rS]; exact hin
     ·exact (K.mem k).2 ⟨i,by omega,rS⟩
    ·rw [fj (by omega)]
     by_cases KX:i=p
     ·subst KX; rw [if_pos rfl]
     ·rw [if_neg KX]; exact hg i (by omega)
   ·have hS:P6 9 (enum ks 0) (key out (nd l p) p) (((enum ks 0).length:Nat):Int)=some (enum (ks++[key out (nd l p) p]) 0):=by
     unfold P6; rw [if_pos (oB _ _ _ RZ CB),nN]
     have:=Be ks 0 _ hin
     rw [aaZ] at this
     rw [this]
    have hid:(ks++[key out (nd l p) p]).idxOf (key out (nd l p) p)=ks.length:=by
     rw [abS,if_neg hin,List.idxOf_cons_self,aaZ]
    have YI:KG 9 (enum (ks++[key out (nd l p) p]) 0) (key out (nd l p) p)=some (((ks.length:Nat):Int),true):=by
     unfold KG
     rw [if_pos (oB _ _ _ RZ (fun a ha=>by rcases aaQ.1 ha with ha | ha; exact CB a ha; simp only [aaO] at ha; rw [ha]; exact RZ)),vW,if_pos (by simp),aaZ,hid]
    rw [if_neg hin,if_pos (by simp),hS,aaA,YI,aaA,aaA,aaH]
    refine Da hm ok P Me f (p+1) (ks++[key out (nd l p) p]) _ (by omega) (by omega) ⟨?_,fun k=>⟨fun hk=>?_,fun ⟨i,hi,rS⟩=>?_⟩⟩ (by simpa using hn) (fun i hi=>?_)
    ·rw [abT]
     refine⟨K.Kb,by simp,fun a ha b hb=>?_⟩
     simp only [aaO] at hb
     subst hb; intro e; subst e; exact hin ha
    ·rcases aaQ.1 hk with hk | hk
     ·obtain⟨i,hi,h⟩:=(K.mem k).1 hk; exact⟨i,by omega,h⟩
     ·simp only [aaO] at hk; exact⟨p,by omega,hk.symm⟩
    ·by_cases KX:i=p
     ·subst KX; rw [←rS]; simp
     ·exact abo _ ((K.mem k).2 ⟨i,by omega,rS⟩)
    ·rw [fj (by omega)]
     by_cases KX:i=p
     ·subst KX; rw [if_pos rfl,hid]
     ·rw [if_neg KX,abS,if_pos ((K.mem _).2 ⟨i,by omega,rfl⟩)]; exact hg i (by omega)
  ·have:p=l.length:=by omega
   subst this
   exact⟨ks,next,_,by rw [if_neg (by simp)],K,hn,hg⟩
theorem KY {l:List ae}{out:List Int}{ks:List (List Int)}(K:sn l out l.length ks):ks.length≤l.length:=by
 have:=K.Kb.length_le_of_subset (l₂:=(List.range l.length).map fun i:Nat=>key out (nd l i) i) (fun k hk=>by
  obtain⟨i,hi,h⟩:=(K.mem k).1 hk
  exact aba.2 ⟨i,List.mem_range.2 hi,h⟩)
 simpa using this
theorem Ey {l:List ae}{out:List Int}{many:Nat}{ks:List (List Int)}(P:Part l.length out many)(K:sn l out l.length ks):many+1≤ks.length:=by
 have hn:((List.range (many+1)).map fun v:Nat=>((v:Int)+1)).Nodup:=by
  unfold List.Nodup
  rw [List.pairwise_map]
  exact List.Pairwise.imp (fun h=>by omega) List.nodup_range
 have:=hn.length_le_of_subset (l₂:=ks.map fun k=>k.headD 0) (fun x hx=>by
  obtain⟨v,hv,rfl⟩:=aba.1 hx
  obtain⟨i,hi,h⟩:=P.Wy v (by have:=List.mem_range.1 hv; omega)
  exact aba.2 ⟨_,(K.mem _).2 ⟨i,hi,rfl⟩,by simp [key,h]⟩)
 simpa using this
theorem Gh {l:List ae}{out next:List Int}{many:Nat}{ks:List (List Int)}(P:Part l.length out many)(K:sn l out l.length ks)(hn:next.length=l.length)(hg:∀i,i<l.length→gt next i=(ks.idxOf (key out (nd l i) i):Int)):Part l.length next (ks.length - 1):=by
 have:=Ey P K
 refine⟨hn,fun i hi=>?_,fun v hv=>?_⟩
 ·have:=abU ((K.mem _).2 ⟨i,hi,rfl⟩)
  rw [hg i hi]; omega
 ·have hv:v<ks.length:=by omega
  obtain⟨i,hi,h⟩:=(K.mem _).1 (abe hv)
  refine⟨i,hi,?_⟩
  rw [hg i hi,h,K.Kb.idxOf_getElem]
theorem Is {m:Nat}(hm:2 ^ 30≤m){l:List ae}(ok:mf l)(Inv:List Int→Prop)
  (hI:∀out many ks next,Part l.length out many→Inv out→sn l out l.length ks→next.length=l.length→(∀i,i<l.length→gt next i=(ks.idxOf (key out (nd l i) i):Int))→Inv next):∀(f:Nat) (out:List Int) (many:Nat),l.length - many<f→many<l.length→Part l.length out many→Inv out→
  ∃r Mf ks,ax.l2 m l f out (many:Int)=some (.inl r)∧Part l.length r Mf∧Inv r∧sn l r l.length ks∧ks.length=Mf+1
 | 0,out,many,hf,_,_,_=>absurd hf (by omega)
 | f+1,out,many,hf,hlt,P,I=>by
  have kV:(2:Nat) ^ 30=1073741824:=by decide
  have h8000:=ok.1
  unfold ax.l2
  have e0:xb 8 (l.length:Int) (0:Int)=some (aaV l.length 0):=by unfold xb; rw [if_pos ⟨by omega,by rw [aaH]; omega⟩,aaH]
  obtain⟨ks,next,x,h1,K,hn,hg⟩:=Da hm ok P (by omega) m 0 [] (aaV l.length 0) (by omega) (by omega) ⟨by simp,fun k=>⟨fun h=>by simp at h,fun ⟨i,hi,_⟩=>absurd hi (by omega)⟩⟩ (by simp) (fun i hi=>absurd hi (by omega))
  have h1:ax.l3 m l out m [] (aaV l.length 0) 0=_:=h1
  have g1:=KY K
  have g2:=Ey P K
  rw [e0,aaA,h1,aaA]
  dsimp only
  rw [nN,ay (x:=(many:Int)+1) (by omega) (by omega),ay (x:=(ks.length:Int) - 1) (by omega) (by omega)]
  by_cases h:ks.length=many+1
  ·rw [if_pos (by simp; omega)]
   exact⟨out,many,ks,rfl,P,I,K,h⟩
  ·rw [if_neg (by simp; omega),show (ks.length:Int) - 1=((ks.length - 1:Nat):Int) by omega]
   exact Is hm ok Inv hI f next (ks.length - 1) (by omega) (by omega) (Gh P K hn hg) (hI _ _ _ _ P I K hn hg)
end Go.Proofs.YtmekcfdllhphlaaGreatDoor
namespace Go.Proofs.YtmekcfdllhphlaaGreatDoor
open Go Go.R
open Go.IntKind (i64 u64 u8 u32)
def ints (n:Nat):List Int:=(List.range n).map fun k:Nat=>(k:Int)
theorem eH (n:Nat):(ints n).length=n:=by simp [ints]
theorem KZ {n k:Nat}(h:k<n):gt (ints n) k=k:=by
 have h1:=bL (l:=ints n) (k:=k) (by rw [eH]; exact h)
 have h2:(ints n)[k]? = some (k:Int):=by
  unfold ints
  rw [abi,aaL (by simpa using h)]
  simp
 rw [h2] at h1; exact (aa2 h1).symm
theorem jz {n:Nat}{x:Int}:x∈ints n↔0≤x∧x<n:=by
 unfold ints
 rw [aba]
 constructor
 ·rintro⟨k,hk,rfl⟩; have:=List.mem_range.1 hk; omega
 ·intro h; exact⟨x.toNat,List.mem_range.2 (by omega),by omega⟩
theorem Db (n:Nat):(ints n).Nodup:=by
 unfold ints List.Nodup
 rw [List.pairwise_map]
 exact List.Pairwise.imp (fun h=>by omega) List.nodup_range
theorem vY {l:List Int}(h:l.Nodup){i j:Nat}(hi:i<l.length)(hj:j<l.length)(e:gt l i=gt l j):i=j:=by
 have h1:=bL hi
 have h2:=bL hj
 rw [aaL hi] at h1
 rw [aaL hj] at h2
 have h1:=aa2 h1
 have h2:=aa2 h2
 exact (List.getElem_inj (h₀:=hi) (h₁:=hj) h).1 (by rw [h1,h2,e])
theorem fL {l:List Int}{x:Int}(h:x∈l):∃k,k<l.length∧gt l k=x:=by
 obtain⟨k,hk,e⟩:=ab7 h
 refine⟨k,hk,?_⟩
 have h1:=bL hk
 rw [aaL hk,e] at h1
 exact (aa2 h1).symm
theorem It {m:Nat}{z:List Int}(hz:z.length<2 ^ 40):∀(f i:Nat) (d:List Int),z.length - i<f→i≤z.length→d.length=z.length→(∀k,k<i→gt d k=k)→
  ∃x,ax.l0 m z f d (i:Int)=some (ints z.length,x)
 | 0,i,d,hf,_,_,_=>absurd hf (by omega)
 | f+1,i,d,hf,hi,hd,hg=>by
  have mZ:(2:Nat) ^ 40=1099511627776:=by decide
  unfold ax.l0
  by_cases h:i<z.length
  ·obtain⟨v,hv⟩:∃v,ix d (i:Int)=some v:=⟨_,db (by omega)⟩
   rw [if_pos (by simp only [decide_eq_true_eq]; omega),hv,aaA,aaH,ay (by omega) (by omega),show (i:Int)+1=((i+1:Nat):Int) by omega]
   refine It hz f (i+1) _ (by omega) (by omega) (by simpa using hd) fun k hk=>?_
   rw [fj (by omega)]
   by_cases e:k=i
   ·subst e; rw [if_pos rfl]
   ·rw [if_neg e]; exact hg k (by omega)
  ·refine⟨i,?_⟩
   rw [if_neg (by simp only [decide_eq_true_eq]; omega)]
   have:d=ints z.length:=HZ (by rw [eH,hd]) fun k hk=>by rw [hg k (by omega),KZ (by omega)]
   rw [this]
def rk (l:List ae)(d:List Int):Nat→Nat
 | 0=>0
 | k+1=>rk l d k+if cT (nd l (gt d k)) (nd l (gt d (k+1)))=0 then 0 else 1
theorem Iu (l:List ae)(d:List Int):∀k,rk l d k≤k
 | 0=>aaE _
 | k+1=>by have:=Iu l d k; unfold rk; split<;>omega
theorem zy (l:List ae)(d:List Int)(i:Nat):∀j,i≤j→rk l d i≤rk l d j
 | 0,h=>by
   have:i=0:=by omega
   subst this; exact aaE _
 | j+1,h=>by
  by_cases e:i=j+1
  ·subst e; exact aaE _
  ·have:=zy l d i j (by omega)
   show _≤rk l d j+_
   omega
theorem Iv (l:List ae)(d:List Int):∀(j v:Nat),v≤rk l d j→∃k,k≤j∧rk l d k=v
 | 0,v,h=>⟨0,aaE _,by unfold rk at h ⊢; omega⟩
 | j+1,v,h=>by
  by_cases e:v=rk l d (j+1)
  ·exact⟨j+1,aaE _,e.symm⟩
  ·have h2:rk l d (j+1)≤rk l d j+1:=by show rk l d j+_≤_; split<;>omega
   obtain⟨k,hk,e⟩:=Iv l d j v (by omega)
   exact⟨k,by omega,e⟩
theorem Iw {m:Nat}(hm:3≤m){l:List ae}{o d:List Int}(hl:l.length≤8000)(ho:o.length=l.length)(hp:d.Perm (ints l.length)):∀(f p:Nat) (out:List Int),l.length - p<f→p≤l.length→out.length=l.length→(∀k,k<p→gt out (gt d k).toNat=rk l d k)→
  ∃jI x,ax.l1 m l o d f out ((rk l d (p - 1):Nat):Int) (p:Int)=some (jI,((rk l d (l.length - 1):Nat):Int),x)∧jI.length=l.length∧∀k,k<l.length→gt jI (gt d k).toNat=rk l d k
 | 0,p,out,hf,_,_,_=>absurd hf (by omega)
 | f+1,p,out,hf,Cw,QP,hg=>by
  have TH:d.length=l.length:=by rw [hp.length_eq,eH]
  have hd:∀k,k<l.length→0≤gt d k∧gt d k<l.length:=fun k hk=>jz.1 (hp.mem_iff.1 (a8 (by omega)))
  have GP:d.Nodup:=hp.symm.nodup (Db _)
  unfold ax.l1
  by_cases h:p<l.length
  ·obtain⟨d0,d1⟩:=hd p h
   have CD:∀k,k<p+1→gt (out.set (gt d p).toNat ((rk l d p:Nat):Int)) (gt d k).toNat=rk l d k:=fun k hk=>by
    rw [fj (by omega)]
    by_cases e:k=p
    ·subst e; rw [if_pos rfl]
    ·have:gt d k≠gt d p:=fun h=>e (vY GP (by omega) (by omega) h)
     have:=hd k (by omega)
     rw [if_neg (by omega)]; exact hg k (by omega)
   obtain⟨z,hz⟩:∃z,ix out (gt d p)=some z:=⟨_,gX (k:=(gt d p).toNat) (by omega) (by omega)⟩
   have e1:i64.wrap ((p:Int)+1)=((p+1:Nat):Int):=by rw [ay (by omega) (by omega)]; omega
   have hr:=Iu l d p
   have IH:=Iw hm hl ho hp f (p+1) (out.set (gt d p).toNat ((rk l d p:Nat):Int)) (by omega) (by omega) (by simpa using QP) CD
   rw [show p+1 - 1=p by omega] at IH
   rw [if_pos (by simp only [decide_eq_true_eq]; omega),db (by omega),aaA]
   by_cases h0:0<p
   ·obtain⟨q,rfl⟩:∃q,p=q+1:=⟨p - 1,by omega⟩
    obtain⟨q0,q1⟩:=hd q (by omega)
    rw [show q+1 - 1=q by omega]
    have e2:i64.wrap (((q+1:Nat):Int) - 1)=(q:Int):=by rw [ay (by omega) (by omega)]; omega
    rw [if_pos (by simp only [decide_eq_true_eq]; omega),e2,db (by omega),aaA,iT q0 q1,aaA,iT d0 d1,aaA,Ev hm,aaA,hz,e1]
    by_cases hc:cT (nd l (gt d q)) (nd l (gt d (q+1)))=0
    ·have T7:rk l d (q+1)=rk l d q:=by show rk l d q+_=_; rw [if_pos hc]; omega
     rw [if_neg (by simp [hc]),aaA]
     rw [T7] at IH; exact IH
    ·have T7:rk l d (q+1)=rk l d q+1:=by show rk l d q+_=_; rw [if_neg hc]
     rw [if_pos (by simpa using hc),aaA,ay (by omega) (by omega)]
     rw [T7] at IH; exact IH
   ·have:p=0:=by omega
    subst this
    rw [if_neg (by simp),hz,aaA,e1]
    exact IH
  ·have:p=l.length:=by omega
   subst this
   exact⟨out,_,by rw [if_neg (by simp only [decide_eq_true_eq]; omega)],QP,hg⟩
theorem La {m:Nat}(hm:3≤m)(l:List ae):Cm (fun y0 y1=>dZ.f m y0 y1 l) (fun x y=>cT (nd l x) (nd l y)) (ints l.length):=fun x hx y hy=>by
 have hx:=jz.1 hx
 have hy:=jz.1 hy
 exact Il hm hx.1 hx.2 hy.1 hy.2
theorem zz {m:Nat}(hm:2 ^ 41≤m){l:List ae}(ok:mf l)(h1:1≤l.length)(Inv:List Int→Prop)
  (hI0:∀d out,d.Perm (ints l.length)→(Ord (fun x y=>cT (nd l x) (nd l y)) (ints l.length)→Sg (fun x y=>cT (nd l x) (nd l y)) d 0 l.length)→(∀k,k<l.length→gt out (gt d k).toNat=rk l d k)→Inv out)
  (hI:∀out many ks next,Part l.length out many→Inv out→sn l out l.length ks→next.length=l.length→(∀i,i<l.length→gt next i=(ks.idxOf (key out (nd l i) i):Int))→Inv next) :
  ∃r many ks,ax.f m l=some r∧Part l.length r many∧Inv r∧sn l r l.length ks∧ks.length=many+1:=by
 have mZ:(2:Nat) ^ 40=1099511627776:=by decide
 have qO:(2:Nat) ^ 41=2199023255552:=by decide
 have kV:(2:Nat) ^ 30=1073741824:=by decide
 have h8000:=ok.1
 have e0:xb 8 (l.length:Int) (0:Int)=some (aaV l.length 0):=by unfold xb; rw [if_pos ⟨by omega,by rw [aaH]; omega⟩,aaH]
 unfold ax.f
 obtain⟨x,k1⟩:=It (m:=m) (z:=aaV l.length 0) (by simp; omega) m 0 (aaV l.length 0) (by simp; omega) (by omega) rfl (fun k hk=>absurd hk (by omega))
 have k1:ax.l0 m (aaV l.length 0) m (aaV l.length 0) 0=_:=k1
 rw [acg] at k1
 rw [e0,aaA,k1,aaA]
 dsimp only
 obtain⟨d,k2,hp,hs⟩:=Ge hm (l:=ints l.length) (by rw [eH]; omega) (La (m:=m) (by omega) l)
 rw [k2,aaA,aaA]
 obtain⟨out,x,k3,ho,hg⟩:=Iw (m:=m) (l:=l) (o:=ints l.length) (d:=d) (by omega) h8000 (eH _) hp m 0 (aaV l.length 0) (by omega) (by omega) (by simp) (fun k hk=>absurd hk (by omega))
 have k3:ax.l1 m l (ints l.length) d m (aaV l.length 0) 0 0=_:=k3
 rw [k3,aaA]
 dsimp only
 rw [eH] at hs
 have TH:d.length=l.length:=by rw [hp.length_eq,eH]
 have hP:Part l.length out (rk l d (l.length - 1)):=by
  refine⟨ho,fun i hi=>?_,fun v hv=>?_⟩
  ·obtain⟨k,hk,e⟩:=fL (hp.mem_iff.2 (jz.2 (show 0≤(i:Int)∧(i:Int)<l.length by omega)))
   have:=hg k (by omega)
   rw [e,aaH] at this
   have h2:=zy l d k (l.length - 1) (by omega)
   omega
  ·obtain⟨k,hk,e⟩:=Iv l d _ v hv
   have Kj:k<l.length:=by omega
   have:=jz.1 (hp.mem_iff.1 (a8 (l:=d) (k:=k) (by omega)))
   exact⟨(gt d k).toNat,by omega,by rw [hg k Kj,e]⟩
 have QQ:=Iu l d (l.length - 1)
 obtain⟨r,many,ks,k4,P,I,K,CB⟩:=Is (m:=m) (by omega) ok Inv hI m out (rk l d (l.length - 1)) (by omega) (by omega) hP (hI0 d out hp hs hg)
 rw [k4]
 exact⟨r,many,ks,rfl,P,I,K,CB⟩
end Go.Proofs.YtmekcfdllhphlaaGreatDoor
namespace Go.Proofs.YtmekcfdllhphlaaGreatDoor
open Go Go.R
open Go.IntKind (i64 u64 u8 u32)
def Bg:b9:=gm [0,1,2,3,4,5,7,8,9,10,11,12,14,24,53,54,55,56] [11] [262080,261696,253760,262079,261568,261574,260567,260567,258519,144855,13783,140759,144855,144855,261631,262079] [(14,[(12,none,0)])] [(8,[(12,none,1)])]
def bk.l0 (m:Nat)(x1:List Int)(x3:ak)(rec:Int→(List (Int × Int))→(List Int)→ak→ak→Option (Int × (List (Int × Int)) × ak))(v2:ae):Nat→(List Int)→Int→(List (Int × Int))→ak→Option ((List Int) × Int × (List (Int × Int)) × ak)
 | 0,_,_,_,_=>none
 | k+1,fk,x6,x7,x8=>if (decide (x6<(v2.args.length:Int)))=true then ((ix v2.args x6).bind fun v3=>(rec v3 x7 x1 x8 x3).bind fun x9=>(app 8 fk ([x9.1])).bind fun jF=>bk.l0 m x1 x3 rec v2 k jF (i64.wrap (x6+(1:Int))) x9.2.1 x9.2.2) else (some ((fk,x6,x7,x8)))
def bk.b (m:Nat)(rec:Int→(List (Int × Int))→(List Int)→ak→ak→Option (Int × (List (Int × Int)) × ak))(i0:Int)(x0:List (Int × Int))(x1:List Int)(x2:ak)(x3:ak):Option (Int × (List (Int × Int)) × ak):=(ix x1 i0).bind fun v0=>if ((AO x0 v0).2)=true then (some ((AO x0 v0).1,x0,x2)) else ((ix x1 i0).bind fun v1=>(ix x3.nodes i0).bind fun v2=>(app 56 x2.nodes ([(ae.mk v2.kind v2.int v2.label ([]))])).bind fun x5=>(bk.l0 m x1 x3 rec v2 m ([]:List Int) (0:Int) (HJ x0 v1 (x2.nodes.length:Int)) (ak.mk x5 x2.root)).bind fun aF=>match aF with | (nO,pQ,xh,rH)=>(ix rH.nodes (x2.nodes.length:Int)).bind fun v4=>some ((x2.nodes.length:Int),xh,(ak.mk (rH.nodes.set (x2.nodes.length:Int).toNat (ae.mk v4.kind v4.int v4.label nO)) rH.root)))
def bk.f (m:Nat):Nat→Int→(List (Int × Int))→(List Int)→ak→ak→Option (Int × (List (Int × Int)) × ak)
 | 0,_,_,_,_,_=>none
 | k+1,i0,x0,x1,x2,x3=>bk.b m (bk.f m k) i0 x0 x1 x2 x3
def bk.fin (L:Mem)(cj:Nat)(fl:Nat)(eL:Nat)(ev:Nat)(fD:Nat)(eP:Nat)(eJ:Nat)(i0:Int)(x0:List (Int × Int))(x1:List Int)(x2:ak)(x3:ak)(r:Int × (List (Int × Int)) × ak)(s:St):Prop:=∃mV:Nat,aH Tryz.prog (s.open Bg) Tryz.f78.results.toList=some (.int .i64 r.1)∧Has s.h ((cj,.ob [.mp fl])::(fl,.mp (vt r.2.1))::(eL,.ob [aa.fz x1])::(ev,.ob [.rs mV 0 r.2.2.nodes.length 4,.int .i64 r.2.2.root])::(mV,.sl r.2.2.nodes.length 4 (ah.l r.2.2.nodes))::(eP,.ob [ah.fz x3.nodes,.int .i64 x3.root])::(eJ,.ob [.fn 78 [.ptr cj 0,.ptr eL 0,.ptr ev 0,.ptr eP 0,.ptr eJ 0]])::L)
def R0 (cf:CallF)(m:Nat)(kk:Nat):Prop:=∀(i0:Int) (x0:List (Int × Int)) (x1:List Int) (x2:ak) (x3:ak) (r:Int × (List (Int × Int)) × ak),bk.f m kk i0 x0 x1 x2 x3=some r→∀h L (cj:Nat) (fl:Nat) (eL:Nat) (ev:Nat) (fD:Nat) (eP:Nat) (eJ:Nat),Has h ((cj,.ob [.mp fl])::(fl,.mp (vt x0))::(eL,.ob [aa.fz x1])::(ev,.ob [.rs fD 0 x2.nodes.length 4,.int .i64 x2.root])::(fD,.sl x2.nodes.length 4 (ah.l x2.nodes))::(eP,.ob [ah.fz x3.nodes,.int .i64 x3.root])::(eJ,.ob [.fn 78 [.ptr cj 0,.ptr eL 0,.ptr ev 0,.ptr eP 0,.ptr eJ 0]])::L)→∀xs,xs.map aC=[.int .i64 i0,.ptr cj 0,.ptr eL 0,.ptr ev 0,.ptr eP 0,.ptr eJ 0]→∃mV h',cf 78 xs h=some (.int .i64 r.1,h')∧Has h' ((cj,.ob [.mp fl])::(fl,.mp (vt r.2.1))::(eL,.ob [aa.fz x1])::(ev,.ob [.rs mV 0 r.2.2.nodes.length 4,.int .i64 r.2.2.root])::(mV,.sl r.2.2.nodes.length 4 (ah.l r.2.2.nodes))::(eP,.ob [ah.fz x3.nodes,.int .i64 x3.root])::(eJ,.ob [.fn 78 [.ptr cj 0,.ptr eL 0,.ptr ev 0,.ptr eP 0,.ptr eJ 0]])::L)
section
variable {cf:CallF}{m:Nat}
theorem bk.bu (L:Mem)(cj:Nat)(fl:Nat)(eL:Nat)(ev:Nat)(fD:Nat)(eP:Nat)(eJ:Nat)(i0:Int)(x0:List (Int × Int))(x1:List Int)(x2:ak)(x3:ak)(v2:ae)  {kk:Nat}(Ix:R0 cf m kk)  : bC Tryz.prog cf Bg m (sub [1,1,1,1,1,1,1,0,1,0,0] (codeOf Tryz.f78)) (fun k (σ:(List Int) × Int × (List (Int × Int)) × ak)=>bk.l0 m x1 x3 (bk.f m kk) v2 k σ.1 σ.2.1 σ.2.2.1 σ.2.2.2) (fun σ s=>match σ with | (fk,x6,x7,x8)=>∃dR cR h3,s=⟨jE (.ptr ev 0 :: .any :: .ptr eJ 0::jE [.int .i64 (x2.nodes.length:Int),.any,.rs dR 0 fk.length 1,.any,.any,aa.fz v2.args,.int .i64 (v2.args.length:Int),.int .i64 x6,.any]),[none],h3⟩∧Has h3 ((dR,.sl fk.length 1 (aa.l fk))::(cj,.ob [.mp fl])::(fl,.mp (vt x7))::(eL,.ob [aa.fz x1])::(ev,.ob [.rs cR 0 x8.nodes.length 4,.int .i64 x8.root])::(cR,.sl x8.nodes.length 4 (ah.l x8.nodes))::(eP,.ob [ah.fz x3.nodes,.int .i64 x3.root])::(eJ,.ob [.fn 78 [.ptr cj 0,.ptr eL 0,.ptr ev 0,.ptr eP 0,.ptr eJ 0]])::L)) (fun out e s=>(e = .exit 0∧∃fk x6 x7 x8,(fk,x6,x7,x8)=out∧∃oK Iy Iz IA IB dR cR h3,s=⟨jE (.ptr ev 0 :: .any::oK::jE [.int .i64 (x2.nodes.length:Int),.any,.rs dR 0 fk.length 1,.any,.any,Iy,Iz,IA,IB]),[none],h3⟩∧Has h3 ((dR,.sl fk.length 1 (aa.l fk))::(cj,.ob [.mp fl])::(fl,.mp (vt x7))::(eL,.ob [aa.fz x1])::(ev,.ob [.rs cR 0 x8.nodes.length 4,.int .i64 x8.root])::(cR,.sl x8.nodes.length 4 (ah.l x8.nodes))::(eP,.ob [ah.fz x3.nodes,.int .i64 x3.root])::(eJ,.ob [.fn 78 [.ptr cj 0,.ptr eL 0,.ptr ev 0,.ptr eP 0,.ptr eJ 0]])::L))):=by
 refine gk (fun _=>rfl) ?_
 rintro k ⟨fk,x6,x7,x8⟩ s out ⟨dR,cR,h3,rfl,o4⟩ H
 have H:bk.l0 m x1 x3 (bk.f m kk) v2 (k+1) fk x6 x7 x8=some out:=H
 refine q1 <| qq <| qc H (fun c1 H=>?_) (fun c1 H=>?_)
 ·refine qk <| qq <| qb 1 <| qq ?_
  obtain⟨v3,e7,H⟩:=aG H
  refine qr [.v 0 (bN (k:=.i64) (E:=aa) (l:=v2.args) dK e7),.v 1 (dd  (E:=aa) (l:=v2.args) h3 A3 e7 rfl)] ?_
  obtain⟨x9,e8,H⟩:=aG H
  obtain⟨fc,h4,e9,o5⟩:=Ix _ _ _ _ _ _ e8 h3 _ _ _ _ _ _ _ _ ((Has.front (Has.front (Has.front (Has.front (Has.front (Has.front (Has.front (Has.front o4 0 rfl) 7 rfl) 7 rfl) 7 rfl) 7 rfl) 7 rfl) 7 rfl) 7 rfl))  [.int .i64 v3,.ptr cj 0,.ptr eL 0,.ptr ev 0,.ptr eP 0,.ptr eJ 0] (an (aP (bD)) (an (rfl) (an (rfl) (an (rfl) (an (rfl) (an (rfl) (aT)))))))
  obtain⟨jF,lF,H⟩:=aG H
  obtain⟨gY,h5,nb,o6⟩:=cL (P:=Tryz.prog) (E:=aa) (l:=fk) (q:=7) (t2:=28) (x:=.fz [.int .i64 x9.1] 1 true) (l2:=([x9.1])) dK o5 rfl (by kernel_rfl) rfl lF
  exact qr [.v 1 (show bp Tryz.prog h3 111 (.ptr eJ 0)=some (.fn 78 [.ptr cj 0,.ptr eL 0,.ptr ev 0,.ptr eP 0,.ptr eJ 0]) from cg (q:=7) (cs:=[.fn 78 [.ptr cj 0,.ptr eL 0,.ptr ev 0,.ptr eP 0,.ptr eJ 0]]) o4 rfl (by kernel_rfl)),.a 3 e9,.a 5 nb] <| q0 <| ⟨(jF,i64.wrap (x6+(1:Int)),x9.2.1,x9.2.2),⟨gY,fc,h5,by kernel_rfl,(Has.front (Has.front (Has.front (Has.front (Has.front (Has.front (Has.front (Has.front o6 6 rfl) 6 rfl) 6 rfl) 6 rfl) 6 rfl) 6 rfl) 6 rfl) 7 rfl)⟩,H⟩
 ·exact qx 0 <| ⟨rfl,fk,x6,x7,x8,oi H,.ptr eJ 0,aa.fz v2.args,.int .i64 (v2.args.length:Int),.int .i64 x6,.bool (decide (x6<(v2.args.length:Int))),dR,cR,h3,by kernel_rfl,o4⟩
theorem q7 {aV:FuncId→b9}(ha:aV 78=Bg)  (i0:Int)(x0:List (Int × Int))(x1:List Int)(x2:ak)(x3:ak)(h:AHeap)(L:Mem)(cj:Nat)(fl:Nat)(eL:Nat)(ev:Nat)(fD:Nat)(eP:Nat)(eJ:Nat)  {kk:Nat}(Ix:R0 cf m kk)(o:Has h ((cj,.ob [.mp fl])::(fl,.mp (vt x0))::(eL,.ob [aa.fz x1])::(ev,.ob [.rs fD 0 x2.nodes.length 4,.int .i64 x2.root])::(fD,.sl x2.nodes.length 4 (ah.l x2.nodes))::(eP,.ob [ah.fz x3.nodes,.int .i64 x3.root])::(eJ,.ob [.fn 78 [.ptr cj 0,.ptr eL 0,.ptr ev 0,.ptr eP 0,.ptr eJ 0]])::L)){out:Int × (List (Int × Int)) × ak}(H:bk.f m (kk+1) i0 x0 x1 x2 x3=some out) :
  ∃r h',bg Tryz.prog aV cf m 78 [.int .i64 i0,.ptr cj 0,.ptr eL 0,.ptr ev 0,.ptr eP 0,.ptr eJ 0] h=some (r,h')∧∃mV:Nat,r = .int .i64 out.1∧Has h' ((cj,.ob [.mp fl])::(fl,.mp (vt out.2.1))::(eL,.ob [aa.fz x1])::(ev,.ob [.rs mV 0 out.2.2.nodes.length 4,.int .i64 out.2.2.root])::(mV,.sl out.2.2.nodes.length 4 (ah.l out.2.2.nodes))::(eP,.ob [ah.fz x3.nodes,.int .i64 x3.root])::(eJ,.ob [.fn 78 [.ptr cj 0,.ptr eL 0,.ptr ev 0,.ptr eP 0,.ptr eJ 0]])::L):=by
 refine aj (fn:=Tryz.f78) ha Tryz.func78 (by kernel_rfl) (by kernel_rfl) ?_
 refine aD (Q:=fun s=>bk.fin L cj fl eL ev fD eP eJ i0 x0 x1 x2 x3 out s) (fun _ _ ⟨h1,mV,h2,h3⟩=>⟨h1,_,h2,mV,rfl,h3⟩) ?_
 have H:bk.b m (bk.f m kk) i0 x0 x1 x2 x3=some out:=H
 unfold bk.b at H
 show dA _ cf Bg m _ ⟨.int .i64 i0 :: .ptr cj 0 :: .ptr eL 0 :: .ptr ev 0 :: .ptr eP 0 :: .ptr eJ 0::oE [],[none],h⟩ _
 refine q1 <| qq <| qq ?_
 obtain⟨v0,e0,H⟩:=aG H
 refine qr [.v 0 (show bp Tryz.prog h 110 (.ptr cj 0)=some (.mp fl) from cg (q:=0) (cs:=[.mp fl]) o rfl (by kernel_rfl)),.v 1 (show bp Tryz.prog h 28 (.ptr eL 0)=some (aa.fz x1) from cg (q:=2) (cs:=[aa.fz x1]) o rfl (by kernel_rfl)),.v 3 (bN (k:=.i64) (E:=aa) (l:=x1) dK e0),.v 4 (dd  (E:=aa) (l:=x1) h A3 e0 rfl),.v 5 (show gz Tryz.prog h 110 (.mp fl) (.int .i64 v0) true=some (.tup [.int .i64 ((AO x0 v0).1),.bool ((AO x0 v0).2)]) from (Tv (q:=1) (l:=x0) (k:=v0) L7 o rfl).1)] <| qq <| q0 <| qc H (fun c0 H=>?_) (fun c0 H=>?_)
 ·obtain rfl:=oi H
  exact q1 <| qt <| ⟨.inl rfl,⟨fD,by kernel_rfl,he o⟩⟩
 ·refine qk <| qq <| qr [.v 1 (show bp Tryz.prog h 42 (.ptr ev 0)=some (.rs fD 0 x2.nodes.length 4) from cg (q:=3) (cs:=[.rs fD 0 x2.nodes.length 4,.int .i64 x2.root]) o rfl (by kernel_rfl))] <| qq ?_
  obtain⟨v1,e1,H⟩:=aG H
  obtain⟨h0,e2,o0⟩:=Tw (q:=1) (l:=x0) (k:=v1) (v:=(x2.nodes.length:Int)) L7 o rfl
  refine qr [.v 0 (show bp Tryz.prog h 110 (.ptr cj 0)=some (.mp fl) from cg (q:=0) (cs:=[.mp fl]) o rfl (by kernel_rfl)),.v 1 (show bp Tryz.prog h 28 (.ptr eL 0)=some (aa.fz x1) from cg (q:=2) (cs:=[aa.fz x1]) o rfl (by kernel_rfl)),.v 3 (bN (k:=.i64) (E:=aa) (l:=x1) dK e1),.v 4 (dd  (E:=aa) (l:=x1) h A3 e1 rfl),.w 6 e2] <| qq ?_
  obtain⟨v2,e3,H⟩:=aG H
  refine qr [.v 1 (show bp Tryz.prog h0 42 (.ptr eP 0)=some (ah.fz x3.nodes) from cg (q:=5) (cs:=[ah.fz x3.nodes,.int .i64 x3.root]) o0 rfl (by kernel_rfl)),.v 3 (bN (k:=.i64) (E:=ah) (l:=x3.nodes) mj e3),.v 4 (dI  (E:=ah) (l:=x3.nodes) h0 th ti e3)] <| qq ?_
  obtain⟨x5,e4,H⟩:=aG H
  obtain⟨az,h1,e5,o1⟩:=cL (P:=Tryz.prog) (E:=ah) (l:=x2.nodes) (q:=4) (t2:=42) (x:=.fz [.int .i64 v2.kind,.int .i64 v2.int,.str v2.label,.nils] 1 true) (l2:=([(ae.mk v2.kind v2.int v2.label ([]))])) mj o0 rfl (by kernel_rfl) rfl e4
  obtain⟨h2,e6,o2⟩:=jx (P:=Tryz.prog) (t:=42) (off:=0) (q:=3) (cs:=[.rs fD 0 x2.nodes.length 4,.int .i64 x2.root]) (fU:=[.rs az 0 x5.length 4,.int .i64 x2.root]) (x:=.rs az 0 x5.length 4) o1 rfl (by kernel_rfl)
  refine qr [.v 1 (show bp Tryz.prog h0 42 (.ptr ev 0)=some (.rs fD 0 x2.nodes.length 4) from cg (q:=3) (cs:=[.rs fD 0 x2.nodes.length 4,.int .i64 x2.root]) o0 rfl (by kernel_rfl)),.a 10 e5,.w 12 e6] <| qq <| q0 ?_
  have o3:Has h2 (((0),.sl (([]:List Int).length) 1 (aa.l ([]:List Int)))::(cj,.ob [.mp fl])::(fl,.mp (vt (HJ x0 v1 (x2.nodes.length:Int))))::(eL,.ob [aa.fz x1])::(ev,.ob [.rs az 0 x5.length 4,.int .i64 x2.root])::(az,.sl x5.length 4 (ah.l x5))::(eP,.ob [ah.fz x3.nodes,.int .i64 x3.root])::(eJ,.ob [.fn 78 [.ptr cj 0,.ptr eL 0,.ptr ev 0,.ptr eP 0,.ptr eJ 0]])::L):=Has.nil o2 1
  refine qq <| qq <| q0 <| qb 0 ?_
  obtain⟨aF,nK,H⟩:=aG H
  refine ql (bk.bu L cj fl eL ev fD eP eJ i0 x0 x1 x2 x3 v2  Ix  (([]:List Int),(0:Int),HJ x0 v1 (x2.nodes.length:Int),(ak.mk x5 x2.root)) _ _ ⟨(0),az,h2,by kernel_rfl,o3⟩ nK) ?_
  rintro e s ⟨rfl,nO,pQ,xh,rH,rfl,g0,g1,g2,g3,g4,gV,fK,h6,rfl,o7⟩
  try dsimp only at H
  refine qq ?_
  obtain⟨h7,pa,o8⟩:=fV (E:=aa) (l:=nO) (q:=0) o7 rfl
  obtain⟨v4,pc,H⟩:=aG H
  obtain⟨h8,pb,o9⟩:=KB (P:=Tryz.prog) (tf:=28) (E:=ah) (l:=rH.nodes) (q:=4) (off:=3) (v:=(ae.mk v4.kind v4.int v4.label nO)) (x:=aa.fz nO) o8 rfl YF pc rfl rfl (by decide) rfl
  obtain rfl:=oi H
  exact uC [.a 0 pa] [.v 1 (show bp Tryz.prog h7 42 (.ptr ev 0)=some (.rs fK 0 rH.nodes.length 4) from cg (q:=3) (cs:=[.rs fK 0 rH.nodes.length 4,.int .i64 rH.root]) o8 rfl (by kernel_rfl)),.v 4 (aJ (k:=.i64) (E:=ah) (l:=rH.nodes) (q:=4) mj o8 rfl pc),.w 6 pb] <| qq <| q0 <| qt <| ⟨.inl rfl,⟨fK,by kernel_rfl,he (by have o:Has h8 ((cj,.ob [.mp fl])::(fl,.mp (vt xh))::(eL,.ob [aa.fz x1])::(ev,.ob [.rs fK 0 rH.nodes.length 4,.int .i64 rH.root])::(fK,.sl rH.nodes.length 4 (ah.l (rH.nodes.set (x2.nodes.length:Int).toNat (ae.mk v4.kind v4.int v4.label nO))))::(eP,.ob [ah.fz x3.nodes,.int .i64 x3.root])::(eJ,.ob [.fn 78 [.ptr cj 0,.ptr eL 0,.ptr ev 0,.ptr eP 0,.ptr eJ 0]])::L):=o9; simpa only [aaN] using o)⟩⟩
end
end Go.Proofs.YtmekcfdllhphlaaGreatDoor
namespace Go.Proofs.YtmekcfdllhphlaaGreatDoor
open Go Go.R
open Go.IntKind (i64 u64 u8 u32)
def Ez:b9:=gm [0,1,2,3,4,5,6] [2,4000005] [121,113,97,65,1,25,91,123] [] [(0,[(2,some 0,4)])]
def fm.f (m:Nat)(t0:ak):Option (ak):=(ax.f m t0.nodes).bind fun x0=>(bk.f m m t0.root ([]:List (Int × Int)) x0 (ak.mk ([]:List ae) (0:Int)) t0).bind fun x1=>some x1.2.2
def fm.fin (L:Mem)(r:ak)(s:St):Prop:=∃av,aH Tryz.prog (s.open Ez) Tryz.f53.results.toList=some av∧vm s.h av (.agg [ah.fz r.nodes,.int .i64 r.root])
def Wz (cf:CallF)(m:Nat):Prop:=∀(t0:ak) (r:ak),fm.f m t0=some r→∀h xs,lh xs [.agg [ah.fz t0.nodes,.int .i64 t0.root]]→cf 53 xs h=some (.agg [ah.fz r.nodes,.int .i64 r.root],h)
section
variable {cf:CallF}{m:Nat}
theorem tS {aV:FuncId→b9}(ha:aV 53=Ez)(T8:Wx cf m)(Ix:R0 cf m m)(t0:ak)(h:AHeap)(L:Mem)  (o:Has h (L)){out:ak}(H:fm.f m t0=some out) :
  ∃r h',bg Tryz.prog aV cf m 53 [.agg [ah.fz t0.nodes,.int .i64 t0.root]] h=some (r,h')∧vm h' r (.agg [ah.fz out.nodes,.int .i64 out.root]):=by
 refine aj (fn:=Tryz.f53) ha Tryz.func53 (by kernel_rfl) (by kernel_rfl) ?_
 refine aD (Q:=fun s=>fm.fin L out s) (fun _ _ h=>h) ?_
 have H:_=some out:=H
 unfold fm.f at H
 show dA _ cf Ez m _ ⟨.agg [ah.fz t0.nodes,.int .i64 t0.root]::zX [],[none,none],h⟩ _
 refine qq ?_
 obtain⟨az,h0,e0,o0⟩:=kL (cs:=[ah.fz t0.nodes,.int .i64 t0.root]) o (by kernel_rfl)
 refine qr [.a 0 e0] ?_
 have o1:Has h0 (((0),.sl (([]:List ae).length) 4 (ah.l ([]:List ae)))::(az,.ob [ah.fz t0.nodes,.int .i64 t0.root])::L):=Has.nil o0 4
 refine qq ?_
 obtain⟨x0,e1,H⟩:=aG H
 obtain⟨dR,h1,e2,o2⟩:=kL (cs:=[.nils]) o1 (by kernel_rfl)
 obtain⟨h2,e3,o3⟩:=jx (P:=Tryz.prog) (t:=28) (off:=0) (q:=0) (cs:=[.nils]) (fU:=[aa.fz x0]) (x:=aa.fz x0) o2 rfl (by kernel_rfl)
 refine qr [.v 1 (show bp Tryz.prog h0 42 (.ptr az 0)=some (ah.fz t0.nodes) from cg (q:=1) (cs:=[ah.fz t0.nodes,.int .i64 t0.root]) o1 rfl (by kernel_rfl)),.a 2 (T8 _ _ e1 h0 _ (fT (ab (bB (E:=ah)) (aA)))),.a 3 e2,.w 4 e3] <| qq ?_
 obtain⟨cR,h3,e4,o4⟩:=HM o3
 obtain⟨fc,h4,e5,o5⟩:=kL (cs:=[.ph]) o4 (by kernel_rfl)
 obtain⟨h5,e6,o6⟩:=jx (P:=Tryz.prog) (t:=110) (off:=0) (q:=0) (cs:=[.ph]) (fU:=[.mp cR]) (x:=.mp cR) o5 rfl (by kernel_rfl)
 refine qr [.m 0 e4,.a 1 e5,.w 2 e6] <| qq ?_
 have o7:Has h5 ((((0)),.sl (([]:List ae).length) 4 (ah.l ([]:List ae)))::(fc,.ob [.mp cR])::(cR,.mp (vt ([]:List (Int × Int))))::(dR,.ob [aa.fz x0])::((0),.sl (([]:List ae).length) 4 (ah.l ([]:List ae)))::(az,.ob [ah.fz t0.nodes,.int .i64 t0.root])::L):=Has.nil o6 4
 obtain⟨gY,h6,e7,o8⟩:=kL (cs:=[.rs ((0)) 0 (([]:List ae).length) 4,.int .i64 (0:Int)]) o7 (by kernel_rfl)
 refine qr [.a 0 e7] <| qq ?_
 obtain⟨gV,h7,e8,o9⟩:=kL (cs:=[.uI]) o8 (by kernel_rfl)
 refine qr [.a 0 e8] <| qq ?_
 obtain⟨h8,e9,oz⟩:=jx (P:=Tryz.prog) (t:=111) (off:=0) (q:=0) (cs:=[.uI]) (fU:=[.fn 78 [.ptr fc 0,.ptr dR 0,.ptr gY 0,.ptr az 0,.ptr gV 0]]) (x:=.fn 78 [.ptr fc 0,.ptr dR 0,.ptr gY 0,.ptr az 0,.ptr gV 0]) o9 rfl (by kernel_rfl)
 refine qr [.w 1 e9] <| qq ?_
 obtain⟨x1,lF,H⟩:=aG H
 obtain⟨fK,h9,nb,sg⟩:=Ix _ _ _ _ _ _ lF h8 _ _ _ _ _ _ _ _ ((Has.front (Has.front (Has.front (Has.front (Has.front (Has.front (Has.front (Has.front oz 6 rfl) 1 rfl) 7 rfl) 4 rfl) 4 rfl) 7 rfl) 7 rfl) 7 rfl))  [.int .i64 t0.root,.ptr fc 0,.ptr dR 0,.ptr gY 0,.ptr az 0,.ptr gV 0] (an (aP (bD)) (an (rfl) (an (rfl) (an (rfl) (an (rfl) (an (rfl) (aT)))))))
 refine qr [.v 0 (show bp Tryz.prog h8 111 (.ptr gV 0)=some (.fn 78 [.ptr fc 0,.ptr dR 0,.ptr gY 0,.ptr az 0,.ptr gV 0]) from cg (q:=0) (cs:=[.fn 78 [.ptr fc 0,.ptr dR 0,.ptr gY 0,.ptr az 0,.ptr gV 0]]) oz rfl (by kernel_rfl)),.v 2 (show bp Tryz.prog h8 3 (.ptr az 1)=some (.int .i64 t0.root) from cg (q:=7) (cs:=[ah.fz t0.nodes,.int .i64 t0.root]) oz rfl (by kernel_rfl)),.a 3 nb] ?_
 have oZ:Has h9 ((fc,.ob [.mp cR])::(cR,.mp (vt x1.2.1))::(dR,.ob [aa.fz x0])::(gY,.ob [.rs fK 0 x1.2.2.nodes.length 4,.int .i64 x1.2.2.root])::(fK,.sl x1.2.2.nodes.length 4 (ah.l x1.2.2.nodes))::(az,.ob [ah.fz t0.nodes,.int .i64 t0.root])::((0),.sl (([]:List ae).length) 4 (ah.l ([]:List ae)))::L):=Has.del sg 6
 have kN:Has h9 ((fc,.ob [.mp cR])::(cR,.mp (vt x1.2.1))::(dR,.ob [aa.fz x0])::(gY,.ob [.rs fK 0 x1.2.2.nodes.length 4,.int .i64 x1.2.2.root])::(fK,.sl x1.2.2.nodes.length 4 (ah.l x1.2.2.nodes))::((0),.sl (([]:List ae).length) 4 (ah.l ([]:List ae)))::L):=Has.del oZ 5
 have tL:Has h9 ((fc,.ob [.mp cR])::(cR,.mp (vt x1.2.1))::(gY,.ob [.rs fK 0 x1.2.2.nodes.length 4,.int .i64 x1.2.2.root])::(fK,.sl x1.2.2.nodes.length 4 (ah.l x1.2.2.nodes))::((0),.sl (([]:List ae).length) 4 (ah.l ([]:List ae)))::L):=Has.del kN 2
 have qR:Has h9 ((fc,.ob [.mp cR])::(gY,.ob [.rs fK 0 x1.2.2.nodes.length 4,.int .i64 x1.2.2.root])::(fK,.sl x1.2.2.nodes.length 4 (ah.l x1.2.2.nodes))::((0),.sl (([]:List ae).length) 4 (ah.l ([]:List ae)))::L):=Has.del tL 1
 have kO:Has h9 ((gY,.ob [.rs fK 0 x1.2.2.nodes.length 4,.int .i64 x1.2.2.root])::(fK,.sl x1.2.2.nodes.length 4 (ah.l x1.2.2.nodes))::((0),.sl (([]:List ae).length) 4 (ah.l ([]:List ae)))::L):=Has.del qR 0
 refine qs [.v 0 (show bp Tryz.prog h9 44 (.ptr gY 0)=some (.agg [.rs fK 0 x1.2.2.nodes.length 4,.int .i64 x1.2.2.root]) from cg (q:=0) (cs:=[.rs fK 0 x1.2.2.nodes.length 4,.int .i64 x1.2.2.root]) kO rfl (by kernel_rfl))] ?_
 have uF:Has h9 ((gY,.ob [.rs fK 0 x1.2.2.nodes.length 4,.int .i64 x1.2.2.root])::(fK,.sl x1.2.2.nodes.length 4 (ah.l x1.2.2.nodes))::L):=Has.del kO 2
 have yf:Has h9 ((fK,.sl x1.2.2.nodes.length 4 (ah.l x1.2.2.nodes))::L):=Has.del uF 0
 obtain rfl:=oi H
 exact qt <| ⟨.inl rfl,oF (.agg [.rs fK 0 x1.2.2.nodes.length 4,.int .i64 x1.2.2.root]) h9 (lI (dJ (ab (mS (E:=ah) (l:=x1.2.2.nodes) (q:=0) yf rfl (fun _=>rfl)) (ab (aQ) (aA)))))⟩
end
end Go.Proofs.YtmekcfdllhphlaaGreatDoor
