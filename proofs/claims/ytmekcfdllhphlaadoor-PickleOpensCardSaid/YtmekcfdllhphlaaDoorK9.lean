/- Part of the proof: Q81, Q82, Q109, Q83, Q65, Q85, PT7, Q67, PT8, PT9, Q68, Q47. -/
import Derived.Test.YtmekcfdllhphlaaDoorK8
set_option linter.unusedVariables false
set_option linter.unusedSimpArgs false
set_option maxRecDepth 100000
open Bool renaming and_eq_true → Xw, false_eq_true → XJ
open Eq renaming trans → Yp
open Int renaming toNat_natCast → Xy
open List renaming length_set → XC, getElem?_eq_getElem → XD, mem_singleton → XE, append_assoc → XF, mem_append → XH, replicate → XK, getD_eq_getElem?_getD → XM, mem_map → XQ, length_cons → XR, cons_append → XU, map_append → XW, getElem?_map → XZ, mem_cons → X8, mem_append_left → Yb, all_cons → Ym, getElem_mem → Yo, idxOf_lt_length_of_mem → Ys, mem_of_getElem? → Yu, take_add_one → Yx, take_length → YA, idxOf_append → YE, nodup_append → YF, set_append_right → YW, length_replicate → YX, getElem_of_mem → Y1
open Nat renaming le_refl → Xv, zero_add → XS, sub_self → Y0
open Option renaming bind_some → Xr
open Option.some renaming inj → XP
open Or renaming inr → Yv, inl → YQ
open Prod.mk renaming injEq → Xz
namespace Go.Proofs.YtmekcfdllhphlaaDoor
open Go Go.R
open Go.IntKind (i64 u64 u8 u32)
def Cd:cg:=gK [0,1,4,5,6,11,12,13,16,19] [] [1020,1012,996,972,959,1019,1019,892,1019,764,1019,511,1019,1019] [] []
def cM.f (m:Nat)(x0:Int)(y0:Int):Option (Int):=(cmp_isNaN_int.f m x0).bind fun x1=>(cmp_isNaN_int.f m y0).bind fun x2=>if x1=true then (if x2=true then (some (0:Int)) else (some (-1:Int))) else (if x2=true then (some (1:Int)) else (if (decide (x0<y0))=true then (some (-1:Int)) else (if (decide (x0 > y0))=true then (some (1:Int)) else (some (0:Int)))))
def cM.fin (L:Mem)(r:Int)(s:St):Prop:=∃av,aH Tryd.prog (s.open Cd) Tryd.f81.results.toList=some av∧fW s.h av (.int .i64 r)
def Tv (cf:CallF)(m:Nat):Prop:=∀(x0:Int) (y0:Int) (r:Int),cM.f m x0 y0=some r→∀h xs,eN fi h xs [.int .i64 x0,.int .i64 y0]→cf 81 xs h=some (.int .i64 r,h)
section
variable {cf:CallF}{m:Nat}
theorem me {aU:FuncId→cg}(ha:aU 81=Cd)(Jp:NO cf m)(x0:Int)(y0:Int)(h:AHeap)(L:Mem)  (o:Has h (L)){out:Int}(H:cM.f m x0 y0=some out) :
  ∃r h',bc Tryd.prog aU cf m 81 [.int .i64 x0,.int .i64 y0] h=some (r,h')∧fW h' r (.int .i64 out):=by
 refine aq (fn:=Tryd.f81) ha Tryd.func81 (by kernel_rfl) (by kernel_rfl) ?_
 refine aG (Q:=fun s=>cM.fin L out s) (fun _ _ h=>h) ?_
 have H:_=some out:=H
 unfold cM.f at H
 show de _ cf Cd m _ ⟨.int .i64 x0 :: .int .i64 y0::pY [],[],h⟩ _
 refine q1 <| qq ?_
 obtain⟨x1,e0,H⟩:=aI H
 refine qr [.a 1 (Jp _ _ e0 h _ (hH (ae (aO) (aC))))] <| qq ?_
 obtain⟨x2,e1,H⟩:=aI H
 refine qr [.a 1 (Jp _ _ e1 h _ (hH (ae (aO) (aC))))] <| qq <| qq <| q0 <| qc H (fun c0 H=>?_) (fun c0 H=>?_)
 ·refine qq <| qq <| q0 <| qc H (fun c1 H=>?_) (fun c1 H=>?_)
  ·obtain rfl:=oi H
   exact q1 <| qt <| ⟨.inl rfl,cb (.int .i64 (0:Int)) h (b9 (eG))⟩
  ·obtain rfl:=oi H
   exact qk <| qq <| q0 <| qt <| ⟨.inl rfl,cb (.int .i64 (-1:Int)) h (b9 (eG))⟩
 ·refine qk <| qq <| qq <| q0 <| qc H (fun c2 H=>?_) (fun c2 H=>?_)
  ·obtain rfl:=oi H
   exact q1 <| qt <| ⟨.inl rfl,cb (.int .i64 (1:Int)) h (b9 (eG))⟩
  ·refine qk <| qq <| qq <| q0 <| qc H (fun c3 H=>?_) (fun c3 H=>?_)
   ·obtain rfl:=oi H
    exact q1 <| qt <| ⟨.inl rfl,cb (.int .i64 (-1:Int)) h (b9 (eG))⟩
   ·refine qk <| qq <| qq <| q0 <| qc H (fun c4 H=>?_) (fun c4 H=>?_)
    ·obtain rfl:=oi H
     exact q1 <| qt <| ⟨.inl rfl,cb (.int .i64 (1:Int)) h (b9 (eG))⟩
    ·obtain rfl:=oi H
     exact qk <| qq <| q0 <| qt <| ⟨.inl rfl,cb (.int .i64 (0:Int)) h (b9 (eG))⟩
end
end Go.Proofs.YtmekcfdllhphlaaDoor
namespace Go.Proofs.YtmekcfdllhphlaaDoor
open Go Go.R
open Go.IntKind (i64 u64 u8 u32)
def yX:cg:=gK [0,2,3,5,6,7,8,9,14] [] [510,506,395,267,387,131,509,395,509] [] []
def b7.l0 (m:Nat)(fR:List Int):Nat→Int→Option (Sum Int (Int))
 | 0,_=>none
 | k+1,x0=>if (decide (x0<(fR.length:Int)))=true then ((ix fR x0).bind fun v0=>if (!(v0==(0:Int)))=true then (some (.inl v0)) else (b7.l0 m fR k (i64.wrap (x0+(1:Int))))) else (some (.inr x0))
def b7.f (m:Nat)(fR:List Int):Option (Int):=(b7.l0 m fR m (0:Int)).bind fun bj=>match bj with | .inl r0=>some r0 | .inr x1=>some (0:Int)
def b7.fin (L:Mem)(r:Int)(s:St):Prop:=∃av,aH Tryd.prog (s.open yX) Tryd.f82.results.toList=some av∧fW s.h av (.int .i64 r)
def Tw (cf:CallF)(m:Nat):Prop:=∀(fR:List Int) (r:Int),b7.f m fR=some r→∀h xs,eN fi h xs [aa.fz fR]→cf 82 xs h=some (.int .i64 r,h)
section
variable {cf:CallF}{m:Nat}
theorem b7.bI (L:Mem)(fR:List Int)   : bD Tryd.prog cf yX m (sub [1,1,0,1,0,0] (codeOf Tryd.f82)) (fun k (σ:Int)=>b7.l0 m fR k σ) (fun σ s=>match σ with | x0=>∃h0,s=⟨[.any,.any,.int .i64 (0:Int),.any,aa.fz fR,.int .i64 (fR.length:Int),.int .i64 x0,.any,.any],[],h0⟩∧Has h0 (L)) (fun out e s=>(e = .exit 0∧∃x0,.inr x0=out∧∃DR uP qh rG h0,s=⟨[.any,.any,.int .i64 (0:Int),.any,DR,uP,qh,rG,.any],[],h0⟩∧Has h0 (L))∨(e = .ret∧∃r,.inl r=out∧b7.fin L r s)):=by
 refine gG (fun _=>rfl) ?_
 rintro k x0 s out ⟨h0,rfl,o0⟩ H
 have H:b7.l0 m fR (k+1) x0=some out:=H
 refine q1 <| qq <| qc H (fun c0 H=>?_) (fun c0 H=>?_)
 ·refine qk <| qq <| qb 1 <| qq ?_
  obtain⟨v0,e0,H⟩:=aI H
  refine qr [.v 0 (bw (k:=.i64) (E:=aa) (l:=fR) dz e0),.v 1 (cY  (E:=aa) (l:=fR) h0 A3 e0 rfl)] <| qq <| q0 <| qc H (fun c1 H=>?_) (fun c1 H=>?_)
  ·exact q1 <| qt <| Yv (⟨rfl,_,oi H,cb (.int .i64 v0) h0 (b9 (eG))⟩)
  ·exact qk <| q0 <| ⟨i64.wrap (x0+(1:Int)),⟨h0,by kernel_rfl,o0⟩,H⟩
 ·exact qx 0 <| YQ (⟨rfl,x0,oi H,aa.fz fR,.int .i64 (fR.length:Int),.int .i64 x0,.bool (decide (x0<(fR.length:Int))),h0,by kernel_rfl,o0⟩)
theorem rQ {aU:FuncId→cg}(ha:aU 82=yX)  (fR:List Int)(h:AHeap)(L:Mem)  (o:Has h (L)){out:Int}(H:b7.f m fR=some out) :
  ∃r h',bc Tryd.prog aU cf m 82 [aa.fz fR] h=some (r,h')∧fW h' r (.int .i64 out):=by
 refine aq (fn:=Tryd.f82) ha Tryd.func82 (by kernel_rfl) (by kernel_rfl) ?_
 refine aG (Q:=fun s=>b7.fin L out s) (fun _ _ h=>h) ?_
 have H:_=some out:=H
 unfold b7.f at H
 show de _ cf yX m _ ⟨aa.fz fR::pY [],[],h⟩ _
 refine q1 <| qq <| q0 <| qq <| qq <| q0 <| qb 0 ?_
 obtain⟨bj,e1,H⟩:=aI H
 refine ql (b7.bI L fR   (0:Int) _ _ ⟨h,by kernel_rfl,o⟩ e1) ?_
 rintro e s (⟨rfl,x1,rfl,g0,g1,g2,g3,h1,rfl,o1⟩| ⟨rfl,r0,rfl,nI⟩)
 ·try dsimp only at H
  obtain rfl:=oi H
  exact q1 <| qt <| ⟨.inl rfl,cb (.int .i64 (0:Int)) h1 (b9 (eG))⟩
 ·try dsimp only at H
  obtain rfl:=oi H
  exact⟨.inl rfl,nI⟩
end
end Go.Proofs.YtmekcfdllhphlaaDoor
namespace Go.Proofs.YtmekcfdllhphlaaDoor
open Go Go.R
open Go.IntKind (i64 u64 u8 u32)
def xm:cg:=gK [0,2] [] [2,1] [] []
def cmp_isNaN_string.f (m:Nat)(x0:ByteArray):Option (Bool):=some (!(x0.data.toList==x0.data.toList))
def cmp_isNaN_string.fin (L:Mem)(r:Bool)(s:St):Prop:=∃av,aH Tryd.prog (s.open xm) Tryd.f109.results.toList=some av∧fW s.h av (.bool r)
def NP (cf:CallF)(m:Nat):Prop:=∀(x0:ByteArray) (r:Bool),cmp_isNaN_string.f m x0=some r→∀h xs,eN fi h xs [.str x0]→cf 109 xs h=some (.bool r,h)
section
variable {cf:CallF}{m:Nat}
theorem lH {aU:FuncId→cg}(ha:aU 109=xm)  (x0:ByteArray)(h:AHeap)(L:Mem)  (o:Has h (L)){out:Bool}(H:cmp_isNaN_string.f m x0=some out) :
  ∃r h',bc Tryd.prog aU cf m 109 [.str x0] h=some (r,h')∧fW h' r (.bool out):=by
 refine aq (fn:=Tryd.f109) ha Tryd.func109 (by kernel_rfl) (by kernel_rfl) ?_
 refine aG (Q:=fun s=>cmp_isNaN_string.fin L out s) (fun _ _ h=>h) ?_
 have H:_=some out:=H
 unfold cmp_isNaN_string.f at H
 show de _ cf xm m _ ⟨[.str x0,.any],[],h⟩ _
 obtain rfl:=oi H
 exact q1 <| qq <| q0 <| qt <| ⟨.inl rfl,cb (.bool (!(x0.data.toList==x0.data.toList))) h (b9 (au))⟩
end
end Go.Proofs.YtmekcfdllhphlaaDoor
namespace Go.Proofs.YtmekcfdllhphlaaDoor
open Go Go.R
open Go.IntKind (i64 u64 u8 u32)
def Ce:cg:=gK [0,1,4,5,6,11,12,13,16,19] [] [1020,1012,996,972,959,1019,1019,892,1019,764,1019,511,1019,1019] [] []
def cm.f (m:Nat)(x0:ByteArray)(y0:ByteArray):Option (Int):=(cmp_isNaN_string.f m x0).bind fun x1=>(cmp_isNaN_string.f m y0).bind fun x2=>if x1=true then (if x2=true then (some (0:Int)) else (some (-1:Int))) else (if x2=true then (some (1:Int)) else (if (Op.bytesLess x0.data.toList y0.data.toList)=true then (some (-1:Int)) else (if (!Fa x0 y0)=true then (some (1:Int)) else (some (0:Int)))))
def cm.fin (L:Mem)(r:Int)(s:St):Prop:=∃av,aH Tryd.prog (s.open Ce) Tryd.f83.results.toList=some av∧fW s.h av (.int .i64 r)
def Tx (cf:CallF)(m:Nat):Prop:=∀(x0:ByteArray) (y0:ByteArray) (r:Int),cm.f m x0 y0=some r→∀h xs,eN fi h xs [.str x0,.str y0]→cf 83 xs h=some (.int .i64 r,h)
section
variable {cf:CallF}{m:Nat}
theorem kK {aU:FuncId→cg}(ha:aU 83=Ce)(Jq:NP cf m)(x0:ByteArray)(y0:ByteArray)(h:AHeap)(L:Mem)  (o:Has h (L)){out:Int}(H:cm.f m x0 y0=some out) :
  ∃r h',bc Tryd.prog aU cf m 83 [.str x0,.str y0] h=some (r,h')∧fW h' r (.int .i64 out):=by
 refine aq (fn:=Tryd.f83) ha Tryd.func83 (by kernel_rfl) (by kernel_rfl) ?_
 refine aG (Q:=fun s=>cm.fin L out s) (fun _ _ h=>h) ?_
 have H:_=some out:=H
 unfold cm.f at H
 show de _ cf Ce m _ ⟨.str x0 :: .str y0::pY [],[],h⟩ _
 refine q1 <| qq ?_
 obtain⟨x1,e0,H⟩:=aI H
 refine qr [.a 1 (Jq _ _ e0 h _ (hH (ae (bY) (aC))))] <| qq ?_
 obtain⟨x2,e1,H⟩:=aI H
 refine qr [.a 1 (Jq _ _ e1 h _ (hH (ae (bY) (aC))))] <| qq <| qq <| q0 <| qc H (fun c0 H=>?_) (fun c0 H=>?_)
 ·refine qq <| qq <| q0 <| qc H (fun c1 H=>?_) (fun c1 H=>?_)
  ·obtain rfl:=oi H
   exact q1 <| qt <| ⟨.inl rfl,cb (.int .i64 (0:Int)) h (b9 (eG))⟩
  ·obtain rfl:=oi H
   exact qk <| qq <| q0 <| qt <| ⟨.inl rfl,cb (.int .i64 (-1:Int)) h (b9 (eG))⟩
 ·refine qk <| qq <| qq <| q0 <| qc H (fun c2 H=>?_) (fun c2 H=>?_)
  ·obtain rfl:=oi H
   exact q1 <| qt <| ⟨.inl rfl,cb (.int .i64 (1:Int)) h (b9 (eG))⟩
  ·refine qk <| qq <| qq <| q0 <| qc H (fun c3 H=>?_) (fun c3 H=>?_)
   ·obtain rfl:=oi H
    exact q1 <| qt <| ⟨.inl rfl,cb (.int .i64 (-1:Int)) h (b9 (eG))⟩
   ·refine qk <| qq <| qq <| q0 <| qc H (fun c4 H=>?_) (fun c4 H=>?_)
    ·obtain rfl:=oi H
     exact q1 <| qt <| ⟨.inl rfl,cb (.int .i64 (1:Int)) h (b9 (eG))⟩
    ·obtain rfl:=oi H
     exact qk <| qq <| q0 <| qt <| ⟨.inl rfl,cb (.int .i64 (0:Int)) h (b9 (eG))⟩
end
end Go.Proofs.YtmekcfdllhphlaaDoor
namespace Go.Proofs.YtmekcfdllhphlaaDoor
open Go Go.R
open Go.IntKind (i64 u64 u8 u32)
def Cf:cg:=gK [0,1,2,3,4,5,16] [2,3] [115,83,111,51,111,111] [] []
def da.f (m:Nat)(a0:ab)(b0:ab):Option (Int):=if (!(a0.kind==b0.kind))=true then ((cM.f m a0.kind b0.kind).bind fun x0=>some x0) else (if (a0.kind==(3:Int))=true then ((cM.f m (a0.args.length:Int) (b0.args.length:Int)).bind fun x1=>(cm.f m a0.label b0.label).bind fun x2=>(b7.f m ([x1,x2])).bind fun x3=>some x3) else ((cm.f m a0.label b0.label).bind fun x4=>(cM.f m a0.int b0.int).bind fun x5=>(b7.f m ([x4,x5])).bind fun x6=>some x6))
def da.fin (L:Mem)(r:Int)(s:St):Prop:=∃av,aH Tryd.prog (s.open Cf) Tryd.f65.results.toList=some av∧fW s.h av (.int .i64 r)
def O4 (cf:CallF)(m:Nat):Prop:=∀(a0:ab) (b0:ab) (r:Int),da.f m a0 b0=some r→∀h xs,eN fi h xs [.agg [.int .i64 a0.kind,.int .i64 a0.int,.str a0.label,aa.fz a0.args],.agg [.int .i64 b0.kind,.int .i64 b0.int,.str b0.label,aa.fz b0.args]]→cf 65 xs h=some (.int .i64 r,h)
section
variable {cf:CallF}{m:Nat}
theorem mf {aU:FuncId→cg}(ha:aU 65=Cf)(Lc:Tv cf m)(NQ:Tw cf m)(NR:Tx cf m)(a0:ab)(b0:ab)(h:AHeap)(L:Mem)  (o:Has h (L)){out:Int}(H:da.f m a0 b0=some out) :
  ∃r h',bc Tryd.prog aU cf m 65 [.agg [.int .i64 a0.kind,.int .i64 a0.int,.str a0.label,aa.fz a0.args],.agg [.int .i64 b0.kind,.int .i64 b0.int,.str b0.label,aa.fz b0.args]] h=some (r,h')∧fW h' r (.int .i64 out):=by
 refine aq (fn:=Tryd.f65) ha Tryd.func65 (by kernel_rfl) (by kernel_rfl) ?_
 refine aG (Q:=fun s=>da.fin L out s) (fun _ _ h=>h) ?_
 have H:_=some out:=H
 unfold da.f at H
 show de _ cf Cf m _ ⟨.agg [.int .i64 a0.kind,.int .i64 a0.int,.str a0.label,aa.fz a0.args] :: .agg [.int .i64 b0.kind,.int .i64 b0.int,.str b0.label,aa.fz b0.args]::rB [],[none,none],h⟩ _
 refine q1 <| qq <| qb 0 <| qq <| q0 <| qc H (fun c0 H=>?_) (fun c0 H=>?_)
 ·refine qq ?_
  obtain⟨x0,e0,H⟩:=aI H
  obtain rfl:=oi H
  exact qr [.a 4 (Lc _ _ _ e0 h _ (hH (ae (aO) (ae (aO) (aC)))))] <| qt <| ⟨.inl rfl,cb (.int .i64 x0) h (b9 (eG))⟩
 ·refine q1 <| qc H (fun c1 H=>?_) (fun c1 H=>?_)
  ·refine qq ?_
   obtain⟨x1,e1,H⟩:=aI H
   obtain⟨x2,e2,H⟩:=aI H
   obtain⟨x3,e3,H⟩:=aI H
   obtain rfl:=oi H
   exact qr [.a 6 (Lc _ _ _ e1 h _ (hH (ae (aO) (ae (aO) (aC))))),.a 11 (NR _ _ _ e2 h _ (hH (ae (bY) (ae (bY) (aC))))),.a 13 (NQ _ _ e3 h _ (hH (ae (E7 (E:=aa) (l:=[x1,x2]) (cs:=[.int .i64 x1,.int .i64 x2]) (b:=true) (by kernel_rfl) (by kernel_rfl) rfl) (aC))))] <| qt <| ⟨.inl rfl,cb (.int .i64 x3) h (b9 (eG))⟩
  ·refine qk <| qq ?_
   obtain⟨x4,e4,H⟩:=aI H
   obtain⟨x5,e5,H⟩:=aI H
   obtain⟨x6,e6,H⟩:=aI H
   obtain rfl:=oi H
   exact qr [.a 4 (NR _ _ _ e4 h _ (hH (ae (bY) (ae (bY) (aC))))),.a 9 (Lc _ _ _ e5 h _ (hH (ae (aO) (ae (aO) (aC))))),.a 11 (NQ _ _ e6 h _ (hH (ae (E7 (E:=aa) (l:=[x4,x5]) (cs:=[.int .i64 x4,.int .i64 x5]) (b:=true) (by kernel_rfl) (by kernel_rfl) rfl) (aC))))] <| qt <| ⟨.inl rfl,cb (.int .i64 x6) h (b9 (eG))⟩
end
end Go.Proofs.YtmekcfdllhphlaaDoor
namespace Go.Proofs.YtmekcfdllhphlaaDoor
open Go Go.R
open Go.IntKind (i64 u64 u8 u32)
def Cg:cg:=gK [0,1,2,5] [] [8,7] [] []
def dk.f (m:Nat)(i0:Int)(j0:Int)(x0:List ab):Option (Int):=(ix x0 i0).bind fun v0=>(ix x0 j0).bind fun v1=>(da.f m v0 v1).bind fun x1=>some x1
def dk.fin (h:AHeap)(r:Int)(s:St):Prop:=aH Tryd.prog (s.open Cg) Tryd.f85.results.toList=some (.int .i64 r)∧s.h=h
def Ty (cf:CallF)(m:Nat):Prop:=∀(i0:Int) (j0:Int) (x0:List ab) (r:Int),dk.f m i0 j0 x0=some r→∀h L (ez bQ:Nat),Has h L→L[ez]? = some (bQ,.ob [af.fz x0])→cf 85 [.int .i64 i0,.int .i64 j0,.ptr bQ 0] h=some (.int .i64 r,h)
section
variable {cf:CallF}{m:Nat}
theorem mO {aU:FuncId→cg}(ha:aU 85=Cg)(F3:O4 cf m)(i0:Int)(j0:Int)(x0:List ab)(h:AHeap)(L:Mem)  {ez bQ:Nat}(fQ:L[ez]? = some (bQ,.ob [af.fz x0]))(o:Has h (L)){out:Int}(H:dk.f m i0 j0 x0=some out) :
  ∃r h',bc Tryd.prog aU cf m 85 [.int .i64 i0,.int .i64 j0,.ptr bQ 0] h=some (r,h')∧r=(.int .i64 out)∧h'=h:=by
 refine aq (fn:=Tryd.f85) ha Tryd.func85 (by kernel_rfl) (by kernel_rfl) ?_
 refine aG (Q:=fun s=>dk.fin h out s) (fun _ _ ⟨h1,h2,h3⟩=>⟨h1,_,h2,rfl,h3⟩) ?_
 have H:_=some out:=H
 unfold dk.f at H
 show de _ cf Cg m _ ⟨[.int .i64 i0,.int .i64 j0,.ptr bQ 0,.any],[],h⟩ _
 refine q1 <| qq ?_
 obtain⟨v0,e0,H⟩:=aI H
 obtain⟨v1,e1,H⟩:=aI H
 obtain⟨x1,e2,H⟩:=aI H
 obtain rfl:=oi H
 exact qr [.v 0 (show bl Tryd.prog h 29 (.ptr bQ 0)=some (af.fz x0) from ca (q:=ez) (cs:=[af.fz x0]) o fQ (by kernel_rfl)),.v 2 (bw (k:=.i64) (E:=af) (l:=x0) la e0),.v 3 (dw  (E:=af) (l:=x0) h tq tt e0),.v 4 (show bl Tryd.prog h 29 (.ptr bQ 0)=some (af.fz x0) from ca (q:=ez) (cs:=[af.fz x0]) o fQ (by kernel_rfl)),.v 6 (bw (k:=.i64) (E:=af) (l:=x0) la e1),.v 7 (dw  (E:=af) (l:=x0) h tq tt e1),.a 8 (F3 _ _ _ e2 h _ (hH (ae (dy (ae (aO) (ae (aO) (ae (bY) (ae (db (E:=aa)) (aC)))))) (ae (dy (ae (aO) (ae (aO) (ae (bY) (ae (db (E:=aa)) (aC)))))) (aC)))))] <| qt <| ⟨.inl rfl,⟨by kernel_rfl,by kernel_rfl⟩⟩
end
end Go.Proofs.YtmekcfdllhphlaaDoor
namespace Go.Proofs.YtmekcfdllhphlaaDoor
open Go Go.R
open Go.IntKind (i64 u64 u8 u32)
def ej (t:ak):Bool:=decide (1≤t.nodes.length)&&decide (t.nodes.length≤8000)&&decide (0≤t.root)&&decide (t.root<t.nodes.length)&&t.nodes.all fun n=>j8 n t.nodes.length
theorem tL {m:Nat}(hm:2 ^ 30≤m)(t:ak):gx.f m t=some (ej t):=by
 have ni:(2:Nat) ^ 30=1073741824:=by decide
 have nT:(2:Nat) ^ 40=1099511627776:=by decide
 unfold gx.f ej
 by_cases h1:1≤t.nodes.length
 ·rw [if_pos (by simp only [decide_eq_true_eq]; omega),decide_eq_true h1]
  by_cases h2:t.nodes.length≤8000
  ·rw [if_pos (by simp only [decide_eq_true_eq]; omega),decide_eq_true h2]
   by_cases h3:0≤t.root
   ·rw [if_pos (by simp only [decide_eq_true_eq]; omega),decide_eq_true h3]
    by_cases h4:t.root<t.nodes.length
    ·rw [if_pos (by simp only [decide_eq_true_eq]; omega),decide_eq_true h4]
     rw [vI (g:=fun n=>!(j8 n t.nodes.length)) (by omega) (by omega) (fun n _=>by unfold fI.f; rw [DM (by omega)]; rfl),Xr]
     simp [List.not_any_eq_all_not]
    ·rw [if_neg (by simp only [decide_eq_true_eq]; omega),decide_eq_false h4]; rfl
   ·rw [if_neg (by simp only [decide_eq_true_eq]; omega),decide_eq_false h3]; rfl
  ·rw [if_neg (by simp only [decide_eq_true_eq]; omega),decide_eq_false h2]; rfl
 ·rw [if_neg (by simp only [decide_eq_true_eq]; omega),decide_eq_false h1]; rfl
def cI (x y:Int):Int:=if x<y then -1 else if y<x then 1 else 0
def cS (x y:ByteArray):Int:=if Op.bytesLess x.data.toList y.data.toList=true then -1 else if (!Fa x y)=true then 1 else 0
def DT (x y:Int):Int:=if x=0 then y else x
def cT (a b:ab):Int:=if a.kind=b.kind then (if a.kind=3 then DT (cI a.args.length b.args.length) (cS a.label b.label) else DT (cS a.label b.label) (cI a.int b.int)) else cI a.kind b.kind
theorem xn {m:Nat}(x y:Int):cM.f m x y=some (cI x y):=by
 unfold cM.f cmp_isNaN_int.f cI
 simp only [beq_self_eq_true,Bool.not_true,Xr,XJ,if_false]
 by_cases h:x<y
 ·rw [if_pos (by simpa using h),if_pos h]
 ·rw [if_neg (by simpa using h),if_neg h]
  by_cases h2:y<x
  ·rw [if_pos (by simpa using h2),if_pos h2]
  ·rw [if_neg (by simpa using h2),if_neg h2]
theorem Ch {m:Nat}(x y:ByteArray):cm.f m x y=some (cS x y):=by
 unfold cm.f cmp_isNaN_string.f cS
 simp only [beq_self_eq_true,Bool.not_true,Xr,XJ,if_false]
 split
 ·rfl
 ·split
  ·rfl
  ·rfl
theorem yY {m:Nat}(hm:3≤m)(x y:Int):b7.f m [x,y]=some (DT x y):=by
 obtain⟨k,rfl⟩:∃k,m=k+3:=⟨m - 3,by omega⟩
 unfold b7.f DT
 have e1:i64.wrap ((0:Int)+1)=1:=by decide
 have e2:i64.wrap ((1:Int)+1)=2:=by decide
 have a0:ix [x,y] 0=some x:=rfl
 have a1:ix [x,y] 1=some y:=rfl
 unfold b7.l0
 rw [if_pos (by simp),a0,Xr]
 by_cases h:x=0
 ·subst h
  rw [if_neg (by simp),e1,if_pos rfl]
  unfold b7.l0
  rw [if_pos (by simp),a1,Xr]
  by_cases h2:y=0
  ·subst h2
   rw [if_neg (by simp),e2]
   unfold b7.l0
   rw [if_neg (by simp)]; rfl
  ·rw [if_pos (by simpa using h2)]; rfl
 ·rw [if_pos (by simpa using h),if_neg h]; rfl
theorem Ci {m:Nat}(hm:3≤m)(a b:ab):da.f m a b=some (cT a b):=by
 unfold da.f cT
 by_cases h:a.kind=b.kind
 ·rw [if_neg (by simp [h]),if_pos h]
  by_cases h3:a.kind=3
  ·rw [if_pos (by simpa using h3),if_pos h3,xn,Ch,Xr,Xr,yY hm]; rfl
  ·rw [if_neg (by simpa using h3),if_neg h3,xn,Ch,Xr,Xr,yY hm]; rfl
 ·rw [if_pos (by simpa using h),if_neg h,xn]; rfl
def nd (l:List ab)(i:Int):ab:=l.getD i.toNat ⟨0,0,⟨#[]⟩,[]⟩
theorem gW {l:List ab}{i:Int}(h0:0≤i)(h1:i<l.length):ix l i=some (nd l i):=by
 unfold ix nd
 have h:i.toNat<l.length:=by omega
 rw [if_pos h0,XM,XD h]; rfl
theorem fl {l:List ab}{i:Int}(h0:0≤i)(h1:i<l.length):nd l i∈l:=by
 have:=gW h0 h1
 unfold ix at this
 rw [if_pos h0] at this
 exact Yu this
theorem F4 {m:Nat}(hm:3≤m){l:List ab}{i j:Int}(h0:0≤i)(h1:i<l.length)(h2:0≤j)(h3:j<l.length):dk.f m i j l=some (cT (nd l i) (nd l j)):=by
 unfold dk.f
 rw [gW h0 h1,gW h2 h3,Xr,Xr,Ci hm]; rfl
end Go.Proofs.YtmekcfdllhphlaaDoor
namespace Go.Proofs.YtmekcfdllhphlaaDoor
open Go Go.R
open Go.IntKind (i64 u64 u8 u32)
def pa:cg:=gK [0,1,2,3,4,5,6,7,8,9,10,11,12,13,14,15,17,22,23,24,37,38,39,40,61,73,74,75,76,87,88,89,90,110,126] [12] [34359738365,34359738357,34359345141,34358820853,34359345125,34359345141,34359345141,34359738357,34359738325,34359738261,34352398229,34344009621,34352397845,34335620757,34352397973,34352398229,34352398229,34359737757,34359736733,34124855709,33856420253,34124849565,34124841373,30366749085,26071781789,30366699933,30366749085,30366749085,34124779933,25534910877,34124845469,34124855709,34124855709,17179867613,34359738363,34359738269] [] []
def ax.l0 (m:Nat)(x0:List Int):Nat→(List Int)→Int→Option ((List Int) × Int)
 | 0,_,_=>none
 | k+1,fa,x1=>if (decide (x1<(x0.length:Int)))=true then ((ix fa x1).bind fun v0=>ax.l0 m x0 k (fa.set x1.toNat x1) (i64.wrap (x1+(1:Int)))) else (some ((fa,x1)))
def ax.l1 (m:Nat)(ay:List ab)(bZ:List Int)(x3:(List Int)):Nat→(List Int)→Int→Int→Option ((List Int) × Int × Int)
 | 0,_,_,_=>none
 | k+1,bJ,dK,x5=>if (decide (x5<(bZ.length:Int)))=true then ((ix x3 x5).bind fun v1=>if (decide (x5 > (0:Int)))=true then ((ix x3 (i64.wrap (x5 - (1:Int)))).bind fun v2=>(ix ay v2).bind fun v3=>(ix ay v1).bind fun v4=>(da.f m v3 v4).bind fun x6=>if (!(x6==(0:Int)))=true then ((ix bJ v1).bind fun v5=>ax.l1 m ay bZ x3 k (bJ.set v1.toNat (i64.wrap (dK+(1:Int)))) (i64.wrap (dK+(1:Int))) (i64.wrap (x5+(1:Int)))) else ((ix bJ v1).bind fun v6=>ax.l1 m ay bZ x3 k (bJ.set v1.toNat dK) dK (i64.wrap (x5+(1:Int))))) else ((ix bJ v1).bind fun v7=>ax.l1 m ay bZ x3 k (bJ.set v1.toNat dK) dK (i64.wrap (x5+(1:Int))))) else (some ((bJ,dK,x5)))
def ax.l4 (m:Nat)(cd:List Int)(v8:ab):Nat→(List Int)→Int→Option ((List Int) × Int)
 | 0,_,_=>none
 | k+1,k0,mg=>if (decide (mg<(v8.args.length:Int)))=true then ((ix v8.args mg).bind fun v10=>(ix cd v10).bind fun v11=>(ix k0 (i64.wrap (mg+(1:Int)))).bind fun v12=>ax.l4 m cd v8 k (k0.set (i64.wrap (mg+(1:Int))).toNat (i64.wrap (v11+(1:Int)))) (i64.wrap (mg+(1:Int)))) else (some ((k0,mg)))
def ax.l3 (m:Nat)(ay:List ab)(cd:List Int):Nat→(List (List Int × Int))→(List Int)→Int→Option ((List (List Int × Int)) × (List Int) × Int)
 | 0,_,_,_=>none
 | k+1,cZ,bP,x9=>if (decide (x9<(ay.length:Int)))=true then ((ix ay x9).bind fun v8=>(ix cd x9).bind fun v9=>(ax.l4 m cd v8 m ([i64.wrap (v9+(1:Int)),(0:Int),(0:Int),(0:Int),(0:Int),(0:Int),(0:Int),(0:Int),(0:Int)]) (0:Int)).bind fun tM=>match tM with | (k1,Hy)=>(Ic 9 cZ k1).bind fun r0=>if (!r0.2)=true then ((Nd 9 cZ k1 (cZ.length:Int)).bind fun Ld=>(Ic 9 Ld k1).bind fun r1=>(ix bP x9).bind fun Iq=>ax.l3 m ay cd k Ld (bP.set x9.toNat r1.1) (i64.wrap (x9+(1:Int)))) else ((Ic 9 cZ k1).bind fun r2=>(ix bP x9).bind fun zU=>ax.l3 m ay cd k cZ (bP.set x9.toNat r2.1) (i64.wrap (x9+(1:Int))))) else (some ((cZ,bP,x9)))
def ax.l2 (m:Nat)(ay:List ab):Nat→(List Int)→Int→Option (Sum (List Int) ((List Int) × Int))
 | 0,_,_=>none
 | k+1,cd,jk=>(sj 8 (ay.length:Int) (0:Int)).bind fun x8=>(ax.l3 m ay cd m ([]:List (List Int × Int)) x8 (0:Int)).bind fun gy=>match gy with | (cU,cK,Is)=>if ((cU.length:Int)==(i64.wrap (jk+(1:Int))))=true then (some (.inl cd)) else (ax.l2 m ay k cK (i64.wrap ((cU.length:Int) - (1:Int))))
def ax.f (m:Nat)(ay:List ab):Option ((List Int)):=(sj 8 (ay.length:Int) (0:Int)).bind fun x0=>(ax.l0 m x0 m x0 (0:Int)).bind fun bj=>match bj with | (bZ,x2)=>(eR.f m bZ (fun y0 y1=>dk.f m y0 y1 ay)).bind fun x3=>(sj 8 (ay.length:Int) (0:Int)).bind fun x4=>(ax.l1 m ay bZ x3 m x4 (0:Int) (0:Int)).bind fun kH=>match kH with | (gO,many1,x7)=>(ax.l2 m ay m gO many1).bind fun F5=>match F5 with | .inl r3=>some r3 | .inr (mh,NS)=>none
def ax.fin (L:Mem)(r:(List Int))(s:St):Prop:=∃av,aH Tryd.prog (s.open pa) Tryd.f67.results.toList=some av∧fW s.h av (aa.fz r)
def Tz (cf:CallF)(m:Nat):Prop:=∀(ay:List ab) (r:(List Int)),ax.f m ay=some r→∀h xs,eN fi h xs [af.fz ay]→cf 67 xs h=some (aa.fz r,h)
section
variable {cf:CallF}{m:Nat}
theorem ax.bI (L:Mem)(ay:List ab)(aA:Nat)(x0:List Int)   : bD Tryd.prog cf pa m (sub [1,1,0,1,0,0] (codeOf Tryd.f67)) (fun k (σ:(List Int) × Int)=>ax.l0 m x0 k σ.1 σ.2) (fun σ s=>match σ with | (fa,x1)=>∃cF h2,s=⟨.any :: .ptr aA 0 :: .any :: .rs cF 0 fa.length 1::mL (.int .i64 (x0.length:Int) :: .int .i64 x1::Fp []),[none],h2⟩∧Has h2 ((cF,.sl fa.length 1 (aa.l fa))::(aA,.ob [af.fz ay])::L)) (fun out e s=>(e = .exit 0∧∃fa x1,(fa,x1)=out∧∃xj QF Le cF h2,s=⟨.any :: .ptr aA 0 :: .any :: .rs cF 0 fa.length 1::mL (xj::QF::Le::Dw []),[none],h2⟩∧Has h2 ((cF,.sl fa.length 1 (aa.l fa))::(aA,.ob [af.fz ay])::L))):=by
 refine gG (fun _=>rfl) ?_
 rintro k ⟨fa,x1⟩ s out ⟨cF,h2,rfl,o2⟩ H
 have H:ax.l0 m x0 (k+1) fa x1=some out:=H
 refine q1 <| qq <| qc H (fun c0 H=>?_) (fun c0 H=>?_)
 ·refine qk <| qq <| qb 1 <| qq <| q0 ?_
  obtain⟨v0,e3,H⟩:=aI H
  obtain⟨h3,e4,o3⟩:=dD (P:=Tryd.prog) (tf:=3) (E:=aa) (l:=fa) (q:=0) (v:=x1) (x:=.int .i64 x1) o2 rfl Z3 e3 rfl rfl
  exact qr [.v 3 (aE (k:=.i64) (E:=aa) (l:=fa) (q:=0) dz o2 rfl e3),.w 4 e4] <| q0 <| ⟨(fa.set x1.toNat x1,i64.wrap (x1+(1:Int))),⟨cF,h3,(Yp (b:=⟨.any :: .ptr aA 0 :: .any :: .rs cF 0 fa.length 1::mL (.int .i64 (x0.length:Int) :: .int .i64 (i64.wrap (x1+(1:Int)))::Fp []),[none],h3⟩) (by kernel_rfl) (by simp only [XC])),(by have o:Has h3 ((cF,.sl fa.length 1 (aa.l (fa.set x1.toNat x1)))::(aA,.ob [af.fz ay])::L):=o3; simpa only [XC] using o)⟩,H⟩
 ·exact qx 0 <| ⟨rfl,fa,x1,oi H,.int .i64 (x0.length:Int),.int .i64 x1,.bool (decide (x1<(x0.length:Int))),cF,h2,by kernel_rfl,o2⟩
theorem ax.eQ (L:Mem)(ay:List ab)(aA:Nat)(fb:Nat)(bZ:List Int)(fb:Nat)(x3:(List Int))  (F3:O4 cf m):bD Tryd.prog cf pa m (sub [1,1,1,1,1,1,0,1,0,0] (codeOf Tryd.f67)) (fun k (σ:(List Int) × Int × Int)=>ax.l1 m ay bZ x3 k σ.1 σ.2.1 σ.2.2) (fun σ s=>match σ with | (bJ,dK,x5)=>∃gP h7,s=⟨.any :: .ptr aA 0 :: .any :: .rs fb 0 bZ.length 1 :: .any :: .rs gP 0 bJ.length 1 :: .int .i64 dK::mL (.rs fb 0 bZ.length 1 :: .int .i64 (bZ.length:Int) :: .int .i64 x5::mK []),[none],h7⟩∧Has h7 ((gP,.sl bJ.length 1 (aa.l bJ))::(fb,.sl bZ.length 1 (aa.l x3))::(aA,.ob [af.fz ay])::L)) (fun out e s=>(e = .exit 2∧∃bJ dK x5,(bJ,dK,x5)=out∧∃uN F6 F7 F8 F9 gP h7,s=⟨.any :: .ptr aA 0 :: .any::uN :: .any :: .rs gP 0 bJ.length 1 :: .int .i64 dK::mL (F6::F7::F8::F9::oL []),[none],h7⟩∧Has h7 ((gP,.sl bJ.length 1 (aa.l bJ))::(fb,.sl bZ.length 1 (aa.l x3))::(aA,.ob [af.fz ay])::L))):=by
 refine gG (fun _=>rfl) ?_
 rintro k ⟨bJ,dK,x5⟩ s out ⟨gP,h7,rfl,o7⟩ H
 have H:ax.l1 m ay bZ x3 (k+1) bJ dK x5=some out:=H
 refine q1 <| qq <| qc H (fun c1 H=>?_) (fun c1 H=>?_)
 ·refine qk <| qq <| qb 3 <| qq ?_
  obtain⟨v1,nJ,H⟩:=aI H
  refine qr [.v 1 (aE (k:=.i64) (E:=aa) (l:=x3) (q:=1) dz o7 rfl nJ),.v 2 (be  (E:=aa) (l:=x3) (q:=1) o7 rfl A3 nJ rfl)] <| qq <| qq ?_
  rcases dJ H with⟨c2,H⟩| ⟨c2,H⟩
  ·obtain⟨v2,qn,H⟩:=aI H
   obtain⟨v3,rL,H⟩:=aI H
   obtain⟨v4,rM,H⟩:=aI H
   obtain⟨x6,tJ,H⟩:=aI H
   refine qr [.b 2 c2,.v 3 (show bl Tryd.prog h7 29 (.ptr aA 0)=some (af.fz ay) from ca (q:=2) (cs:=[af.fz ay]) o7 rfl (by kernel_rfl)),.v 7 (aE (k:=.i64) (E:=aa) (l:=x3) (q:=1) dz o7 rfl qn),.v 8 (be  (E:=aa) (l:=x3) (q:=1) o7 rfl A3 qn rfl),.v 9 (bw (k:=.i64) (E:=af) (l:=ay) la rL),.v 10 (dw  (E:=af) (l:=ay) h7 tq tt rL),.v 11 (show bl Tryd.prog h7 29 (.ptr aA 0)=some (af.fz ay) from ca (q:=2) (cs:=[af.fz ay]) o7 rfl (by kernel_rfl)),.v 13 (bw (k:=.i64) (E:=af) (l:=ay) la rM),.v 14 (dw  (E:=af) (l:=ay) h7 tq tt rM),.a 15 (F3 _ _ _ tJ h7 _ (hH (ae (dy (ae (aO) (ae (aO) (ae (bY) (ae (db (E:=aa)) (aC)))))) (ae (dy (ae (aO) (ae (aO) (ae (bY) (ae (db (E:=aa)) (aC)))))) (aC)))))] ?_
   refine qc H (fun c3 H=>?_) (fun c3 H=>?_)
   ·refine q0 ?_
    obtain⟨v5,rN,H⟩:=aI H
    obtain⟨h8,vJ,o8⟩:=dD (P:=Tryd.prog) (tf:=3) (E:=aa) (l:=bJ) (q:=0) (v:=(i64.wrap (dK+(1:Int)))) (x:=.int .i64 (i64.wrap (dK+(1:Int)))) o7 rfl Z3 rN rfl rfl
    exact qr [.v 3 (aE (k:=.i64) (E:=aa) (l:=bJ) (q:=0) dz o7 rfl rN),.w 4 vJ] <| q0 <| ⟨(bJ.set v1.toNat (i64.wrap (dK+(1:Int))),i64.wrap (dK+(1:Int)),i64.wrap (x5+(1:Int))),⟨gP,h8,(Yp (b:=⟨.any :: .ptr aA 0 :: .any :: .rs fb 0 bZ.length 1 :: .any :: .rs gP 0 bJ.length 1 :: .int .i64 (i64.wrap (dK+(1:Int)))::mL (.rs fb 0 bZ.length 1 :: .int .i64 (bZ.length:Int) :: .int .i64 (i64.wrap (x5+(1:Int)))::mK []),[none],h8⟩) (by kernel_rfl) (by simp only [XC])),(by have o:Has h8 ((gP,.sl bJ.length 1 (aa.l (bJ.set v1.toNat (i64.wrap (dK+(1:Int))))))::(fb,.sl bZ.length 1 (aa.l x3))::(aA,.ob [af.fz ay])::L):=o8; simpa only [XC] using o)⟩,H⟩
   ·refine qk ?_
    obtain⟨v6,uS,H⟩:=aI H
    obtain⟨h9,zR,o9⟩:=dD (P:=Tryd.prog) (tf:=3) (E:=aa) (l:=bJ) (q:=0) (v:=dK) (x:=.int .i64 dK) o7 rfl Z3 uS rfl rfl
    exact qr [.v 3 (aE (k:=.i64) (E:=aa) (l:=bJ) (q:=0) dz o7 rfl uS),.w 4 zR] <| q0 <| ⟨(bJ.set v1.toNat dK,dK,i64.wrap (x5+(1:Int))),⟨gP,h9,(Yp (b:=⟨.any :: .ptr aA 0 :: .any :: .rs fb 0 bZ.length 1 :: .any :: .rs gP 0 bJ.length 1 :: .int .i64 dK::mL (.rs fb 0 bZ.length 1 :: .int .i64 (bZ.length:Int) :: .int .i64 (i64.wrap (x5+(1:Int)))::mK []),[none],h9⟩) (by kernel_rfl) (by simp only [XC])),(by have o:Has h9 ((gP,.sl bJ.length 1 (aa.l (bJ.set v1.toNat dK)))::(fb,.sl bZ.length 1 (aa.l x3))::(aA,.ob [af.fz ay])::L):=o9; simpa only [XC] using o)⟩,H⟩
  ·refine qr [.b 2 c2] <| DB <| qk ?_
   obtain⟨v7,ux,H⟩:=aI H
   obtain⟨h10,zS,tF⟩:=dD (P:=Tryd.prog) (tf:=3) (E:=aa) (l:=bJ) (q:=0) (v:=dK) (x:=.int .i64 dK) o7 rfl Z3 ux rfl rfl
   exact qr [.v 3 (aE (k:=.i64) (E:=aa) (l:=bJ) (q:=0) dz o7 rfl ux),.w 4 zS] <| q0 <| ⟨(bJ.set v1.toNat dK,dK,i64.wrap (x5+(1:Int))),⟨gP,h10,(Yp (b:=⟨.any :: .ptr aA 0 :: .any :: .rs fb 0 bZ.length 1 :: .any :: .rs gP 0 bJ.length 1 :: .int .i64 dK::mL (.rs fb 0 bZ.length 1 :: .int .i64 (bZ.length:Int) :: .int .i64 (i64.wrap (x5+(1:Int)))::mK []),[none],h10⟩) (by kernel_rfl) (by simp only [XC])),(by have o:Has h10 ((gP,.sl bJ.length 1 (aa.l (bJ.set v1.toNat dK)))::(fb,.sl bZ.length 1 (aa.l x3))::(aA,.ob [af.fz ay])::L):=tF; simpa only [XC] using o)⟩,H⟩
 ·exact qx 2 <| ⟨rfl,bJ,dK,x5,oi H,.rs fb 0 bZ.length 1,.rs fb 0 bZ.length 1,.int .i64 (bZ.length:Int),.int .i64 x5,.bool (decide (x5<(bZ.length:Int))),gP,h7,(Yp (b:=⟨.any :: .ptr aA 0 :: .any :: .rs fb 0 bZ.length 1 :: .any :: .rs gP 0 bJ.length 1 :: .int .i64 dK::mL (.rs fb 0 bZ.length 1 :: .int .i64 (bZ.length:Int) :: .int .i64 x5 :: .bool (decide (x5<(bZ.length:Int)))::oL []),[none],h7⟩) (by kernel_rfl) (by simp only [XC])),(by have o:Has h7 ((gP,.sl bJ.length 1 (aa.l bJ))::(fb,.sl bZ.length 1 (aa.l x3))::(aA,.ob [af.fz ay])::L):=o7; simpa only [XC] using o)⟩
theorem ax.oW (L:Mem)(ay:List ab)(aA:Nat)(il:Nat)(cd:List Int)(jk:Int)(il:Nat)(kL:Nat)(eK:Nat)(cZ:List (List Int × Int))(bP:List Int)(x9:Int)(eK:Nat)(v8:ab)(nM:Nat)   : bD Tryd.prog cf pa m (sub [1,1,1,1,1,1,1,0,0,0,1,1,0,1,0,0,1,1,0,0,1,1,0,1,0,0] (codeOf Tryd.f67)) (fun k (σ:(List Int) × Int)=>ax.l4 m cd v8 k σ.1 σ.2) (fun σ s=>match σ with | (k0,mg)=>∃h18,s=⟨.any :: .ptr aA 0::jP (.rs il 0 cd.length 1 :: .int .i64 jk :: .any :: .any :: .mp kL :: .rs eK 0 bP.length 1 :: .int .i64 x9 :: .any :: .ptr nM 0::oL (af.fz ay :: .int .i64 (ay.length:Int) :: .int .i64 x9 :: .any::aa.fz v8.args :: .int .i64 (v8.args.length:Int) :: .int .i64 mg::jP [])),[none],h18⟩∧Has h18 ((nM,.sl 9 1 (aa.l k0))::(eK,.sl bP.length 1 (aa.l bP))::(kL,.mp (uJ cZ))::(il,.sl cd.length 1 (aa.l cd))::(aA,.ob [af.fz ay])::L)) (fun out e s=>(e = .exit 8∧∃k0 mg,(k0,mg)=out∧∃QG QH QI QJ h18,s=⟨.any :: .ptr aA 0::jP (.rs il 0 cd.length 1 :: .int .i64 jk :: .any :: .any :: .mp kL :: .rs eK 0 bP.length 1 :: .int .i64 x9 :: .any :: .ptr nM 0::oL [af.fz ay,.int .i64 (ay.length:Int),.int .i64 x9,.any,QG,QH,QI,QJ,.any,.any]),[none],h18⟩∧Has h18 ((nM,.sl 9 1 (aa.l k0))::(eK,.sl bP.length 1 (aa.l bP))::(kL,.mp (uJ cZ))::(il,.sl cd.length 1 (aa.l cd))::(aA,.ob [af.fz ay])::L))):=by
 refine gG (fun _=>rfl) ?_
 rintro k ⟨k0,mg⟩ s out ⟨h18,rfl,DQ⟩ H
 have H:ax.l4 m cd v8 (k+1) k0 mg=some out:=H
 refine q1 <| qq <| qc H (fun c6 H=>?_) (fun c6 H=>?_)
 ·refine qk <| qq <| qb 9 <| qq ?_
  obtain⟨v10,FR,H⟩:=aI H
  refine qr [.v 1 (bw (k:=.i64) (E:=aa) (l:=v8.args) dz FR),.v 2 (cY  (E:=aa) (l:=v8.args) h18 A3 FR rfl)] ?_
  obtain⟨v11,FP,H⟩:=aI H
  obtain⟨v12,Ir,H⟩:=aI H
  obtain⟨h19,Lg,Lh⟩:=dD (P:=Tryd.prog) (tf:=3) (E:=aa) (l:=k0) (q:=0) (v:=(i64.wrap (v11+(1:Int)))) (x:=.int .i64 (i64.wrap (v11+(1:Int)))) DQ rfl Z3 Ir rfl rfl
  exact qr [.v 4 (aE (k:=.i64) (E:=aa) (l:=cd) (q:=3) dz DQ rfl FP),.v 5 (be  (E:=aa) (l:=cd) (q:=3) DQ rfl A3 FP rfl),.v 7 (Kv (k:=.i64) (q:=0) (l:=k0) vF DQ rfl Ir),.w 8 Lg] <| q0 <| ⟨(k0.set (i64.wrap (mg+(1:Int))).toNat (i64.wrap (v11+(1:Int))),i64.wrap (mg+(1:Int))),⟨h19,by kernel_rfl,Lh⟩,H⟩
 ·exact qx 8 <| ⟨rfl,k0,mg,oi H,aa.fz v8.args,.int .i64 (v8.args.length:Int),.int .i64 mg,.bool (decide (mg<(v8.args.length:Int))),h18,by kernel_rfl,DQ⟩
theorem ax.oV (L:Mem)(ay:List ab)(aA:Nat)(il:Nat)(cd:List Int)(jk:Int)(il:Nat)(kL:Nat)   : bD Tryd.prog cf pa m (sub [1,1,1,1,1,1,1,0,0,0,1,1,0,1,0,0] (codeOf Tryd.f67)) (fun k (σ:(List (List Int × Int)) × (List Int) × Int)=>ax.l3 m ay cd k σ.1 σ.2.1 σ.2.2) (fun σ s=>match σ with | (cZ,bP,x9)=>∃eK h15,s=⟨.any :: .ptr aA 0::jP (.rs il 0 cd.length 1 :: .int .i64 jk :: .any :: .any :: .mp kL :: .rs eK 0 bP.length 1::rC (af.fz ay :: .int .i64 (ay.length:Int) :: .int .i64 x9::Ee [])),[none],h15⟩∧Has h15 ((eK,.sl bP.length 1 (aa.l bP))::(kL,.mp (uJ cZ))::(il,.sl cd.length 1 (aa.l cd))::(aA,.ob [af.fz ay])::L)) (fun out e s=>(e = .exit 6∧∃cZ bP x9,(cZ,bP,x9)=out∧∃QK QL QM QN eK h15,s=⟨.any :: .ptr aA 0::jP (.rs il 0 cd.length 1 :: .int .i64 jk :: .any :: .any :: .mp kL :: .rs eK 0 bP.length 1::rC (QK::QL::QM::QN::BQ [])),[none],h15⟩∧Has h15 ((eK,.sl bP.length 1 (aa.l bP))::(kL,.mp (uJ cZ))::(il,.sl cd.length 1 (aa.l cd))::(aA,.ob [af.fz ay])::L))):=by
 refine gG (fun _=>rfl) ?_
 rintro k ⟨cZ,bP,x9⟩ s out ⟨eK,h15,rfl,lG⟩ H
 have H:ax.l3 m ay cd (k+1) cZ bP x9=some out:=H
 refine q1 <| qq <| qc H (fun c5 H=>?_) (fun c5 H=>?_)
 ·refine qk <| qq <| qb 7 <| qq ?_
  obtain⟨v8,FO,H⟩:=aI H
  refine qr [.v 1 (bw (k:=.i64) (E:=af) (l:=ay) la FO),.v 2 (dw  (E:=af) (l:=ay) h15 tq tt FO)] <| qq ?_
  obtain⟨v9,FT,H⟩:=aI H
  obtain⟨nM,h16,Hx,zT⟩:=If (cs:=[.int .i64 (0:Int),.int .i64 (0:Int),.int .i64 (0:Int),.int .i64 (0:Int),.int .i64 (0:Int),.int .i64 (0:Int),.int .i64 (0:Int),.int .i64 (0:Int),.int .i64 (0:Int)]) (l:=[(0:Int),(0:Int),(0:Int),(0:Int),(0:Int),(0:Int),(0:Int),(0:Int),(0:Int)]) lG (by kernel_rfl)
  obtain⟨h17,FQ,DP⟩:=Kw (q:=0) (l:=([(0:Int),(0:Int),(0:Int),(0:Int),(0:Int),(0:Int),(0:Int),(0:Int),(0:Int)])) (l':=[i64.wrap (v9+(1:Int)),(0:Int),(0:Int),(0:Int),(0:Int),(0:Int),(0:Int),(0:Int),(0:Int)]) (x:=.agg [.int .i64 (i64.wrap (v9+(1:Int))),.int .i64 (0:Int),.int .i64 (0:Int),.int .i64 (0:Int),.int .i64 (0:Int),.int .i64 (0:Int),.int .i64 (0:Int),.int .i64 (0:Int),.int .i64 (0:Int)]) vF zT rfl rfl rfl
  refine qr [.v 2 (aE (k:=.i64) (E:=aa) (l:=cd) (q:=2) dz lG rfl FT),.v 3 (be  (E:=aa) (l:=cd) (q:=2) lG rfl A3 FT rfl),.a 6 Hx,.w 7 FQ] <| qq <| qq <| q0 <| qb 8 ?_
  obtain⟨tM,Hz,H⟩:=aI H
  refine ql (ax.oW L ay aA il cd jk il kL eK cZ bP x9 eK v8 nM   ([i64.wrap (v9+(1:Int)),(0:Int),(0:Int),(0:Int),(0:Int),(0:Int),(0:Int),(0:Int),(0:Int)],(0:Int)) _ _ ⟨h17,by kernel_rfl,DP⟩ Hz) ?_
  rintro e s ⟨rfl,k1,Hy,rfl,g13,g14,g15,g16,h20,rfl,xo⟩
  try dsimp only at H
  refine qq <| qq ?_
  obtain⟨r0,Me,H⟩:=aI H
  refine qr [.v 1 (show bl Tryd.prog h20 116 (.ptr nM 0)=some (.agg (aa.l k1)) from w8 (q:=0) (l:=k1) vF xo rfl),.v 2 (show fB Tryd.prog h20 114 (.mp kL) (.agg (aa.l k1)) true=some (.tup [.int .i64 r0.1,.bool r0.2]) from (Kt (q:=2) (l:=cZ) (k:=k1) BY xo rfl Me).1)] <| qq <| q0 <| qc H (fun c7 H=>?_) (fun c7 H=>?_)
  ·obtain⟨Ld,Mf,H⟩:=aI H
   obtain⟨h21,NT,Ga⟩:=Qe (q:=2) (l:=cZ) (k:=k1) (v:=(cZ.length:Int)) BY xo rfl Mf
   refine qr [.v 1 (show bl Tryd.prog h20 116 (.ptr nM 0)=some (.agg (aa.l k1)) from w8 (q:=0) (l:=k1) vF xo rfl),.v 3 (show su Tryd.prog h20 114 (.mp kL)=some (.int .i64 (cZ.length:Int)) from Ku (q:=2) (l:=cZ) FA xo rfl),.w 4 NT] ?_
   obtain⟨r1,NU,H⟩:=aI H
   obtain⟨Iq,Li,H⟩:=aI H
   obtain⟨h22,Mg,Ei⟩:=dD (P:=Tryd.prog) (tf:=3) (E:=aa) (l:=bP) (q:=1) (v:=r1.1) (x:=.int .i64 r1.1) Ga rfl Z3 Li rfl rfl
   refine qr [.v 3 (show bl Tryd.prog h21 116 (.ptr nM 0)=some (.agg (aa.l k1)) from w8 (q:=0) (l:=k1) vF Ga rfl),.v 4 (show fB Tryd.prog h21 114 (.mp kL) (.agg (aa.l k1)) false=some (.int .i64 r1.1) from (Kt (q:=2) (l:=Ld) (k:=k1) BY Ga rfl NU).2),.v 5 (aE (k:=.i64) (E:=aa) (l:=bP) (q:=1) dz Ga rfl Li),.w 6 Mg] ?_
   have It:Has h22 ((eK,.sl bP.length 1 (aa.l (bP.set x9.toNat r1.1)))::(kL,.mp (uJ Ld))::(il,.sl cd.length 1 (aa.l cd))::(aA,.ob [af.fz ay])::L):=Has.del Ei 0
   exact q0 <| ⟨(Ld,bP.set x9.toNat r1.1,i64.wrap (x9+(1:Int))),⟨eK,h22,(Yp (b:=⟨.any :: .ptr aA 0::jP (.rs il 0 cd.length 1 :: .int .i64 jk :: .any :: .any :: .mp kL :: .rs eK 0 bP.length 1::rC (af.fz ay :: .int .i64 (ay.length:Int) :: .int .i64 (i64.wrap (x9+(1:Int)))::Ee [])),[none],h22⟩) (by kernel_rfl) (by simp only [XC])),(by have o:Has h22 ((eK,.sl bP.length 1 (aa.l (bP.set x9.toNat r1.1)))::(kL,.mp (uJ Ld))::(il,.sl cd.length 1 (aa.l cd))::(aA,.ob [af.fz ay])::L):=It; simpa only [XC] using o)⟩,H⟩
  ·refine qk ?_
   obtain⟨r2,NV,H⟩:=aI H
   obtain⟨zU,Iu,H⟩:=aI H
   obtain⟨h23,Jr,NW⟩:=dD (P:=Tryd.prog) (tf:=3) (E:=aa) (l:=bP) (q:=1) (v:=r2.1) (x:=.int .i64 r2.1) xo rfl Z3 Iu rfl rfl
   refine qr [.v 3 (show bl Tryd.prog h20 116 (.ptr nM 0)=some (.agg (aa.l k1)) from w8 (q:=0) (l:=k1) vF xo rfl),.v 4 (show fB Tryd.prog h20 114 (.mp kL) (.agg (aa.l k1)) false=some (.int .i64 r2.1) from (Kt (q:=2) (l:=cZ) (k:=k1) BY xo rfl NV).2),.v 5 (aE (k:=.i64) (E:=aa) (l:=bP) (q:=1) dz xo rfl Iu),.w 6 Jr] ?_
   have mP:Has h23 ((eK,.sl bP.length 1 (aa.l (bP.set x9.toNat r2.1)))::(kL,.mp (uJ cZ))::(il,.sl cd.length 1 (aa.l cd))::(aA,.ob [af.fz ay])::L):=Has.del NW 0
   exact q0 <| ⟨(cZ,bP.set x9.toNat r2.1,i64.wrap (x9+(1:Int))),⟨eK,h23,(Yp (b:=⟨.any :: .ptr aA 0::jP (.rs il 0 cd.length 1 :: .int .i64 jk :: .any :: .any :: .mp kL :: .rs eK 0 bP.length 1::rC (af.fz ay :: .int .i64 (ay.length:Int) :: .int .i64 (i64.wrap (x9+(1:Int)))::Ee [])),[none],h23⟩) (by kernel_rfl) (by simp only [XC])),(by have o:Has h23 ((eK,.sl bP.length 1 (aa.l (bP.set x9.toNat r2.1)))::(kL,.mp (uJ cZ))::(il,.sl cd.length 1 (aa.l cd))::(aA,.ob [af.fz ay])::L):=mP; simpa only [XC] using o)⟩,H⟩
 ·exact qx 6 <| ⟨rfl,cZ,bP,x9,oi H,af.fz ay,.int .i64 (ay.length:Int),.int .i64 x9,.bool (decide (x9<(ay.length:Int))),eK,h15,by kernel_rfl,lG⟩
theorem ax.mc (L:Mem)(ay:List ab)(aA:Nat)   : bD Tryd.prog cf pa m (sub [1,1,1,1,1,1,1,0,0] (codeOf Tryd.f67)) (fun k (σ:(List Int) × Int)=>ax.l2 m ay k σ.1 σ.2) (fun σ s=>match σ with | (cd,jk)=>∃g8 g9 g10 g11 g12 il h12,s=⟨.any :: .ptr aA 0 :: .any::g8 :: .any :: .rs il 0 cd.length 1 :: .int .i64 jk::mL (g9::g10::g11::g12::oL []),[none],h12⟩∧Has h12 ((il,.sl cd.length 1 (aa.l cd))::(aA,.ob [af.fz ay])::L)) (fun out e s=>(e = .exit 4∧∃cd jk,.inr (cd,jk)=out∧∃uM uN xp DR F6 F7 F8 F9 il h12,s=⟨.any::uM :: .any::uN :: .any::xp::DR::mL (F6::F7::F8::F9::oL []),[none],h12⟩∧Has h12 ((il,.sl cd.length 1 (aa.l cd))::(aA,.ob [af.fz ay])::L))∨(e = .ret∧∃r,.inl r=out∧ax.fin L r s)):=by
 refine gG (fun _=>rfl) ?_
 rintro k ⟨cd,jk⟩ s out ⟨g8,g9,g10,g11,g12,il,h12,rfl,lB⟩ H
 have H:ax.l2 m ay (k+1) cd jk=some out:=H
 refine qb 5 <| qq ?_
 obtain⟨kL,h13,Eg,uQ⟩:=Fk lB
 refine qr [.m 0 Eg] <| qq ?_
 obtain⟨x8,FN,H⟩:=aI H
 obtain⟨xT,h14,Eh,yP⟩:=lZ (P:=Tryd.prog) (E:=aa) (z:=(0:Int)) (zv:=.int .i64 (0:Int)) dz uQ 3 rfl rfl rfl rfl FN
 refine qr [.v 0 (show bl Tryd.prog h13 29 (.ptr aA 0)=some (af.fz ay) from ca (q:=2) (cs:=[af.fz ay]) uQ rfl (by kernel_rfl)),.a 2 Eh] <| qq <| qq <| qr [.v 0 (show bl Tryd.prog h14 29 (.ptr aA 0)=some (af.fz ay) from ca (q:=3) (cs:=[af.fz ay]) yP rfl (by kernel_rfl))] <| qb 6 ?_
 obtain⟨gy,Js,H⟩:=aI H
 refine ql (ax.oV L ay aA il cd jk il kL   (([]:List (List Int × Int)),x8,(0:Int)) _ _ ⟨xT,h14,by kernel_rfl,yP⟩ Js) ?_
 rintro e s ⟨rfl,cU,cK,Is,rfl,g17,g18,g19,g20,fJ,h24,rfl,Jt⟩
 try dsimp only at H
 refine qq <| qq <| qr [.v 1 (show su Tryd.prog h24 114 (.mp kL)=some (.int .i64 (cU.length:Int)) from Ku (q:=1) (l:=cU) FA Jt rfl)] <| qc H (fun c8 H=>?_) (fun c8 H=>?_)
 ·refine q1 ?_
  have HA:Has h24 ((fJ,.sl cK.length 1 (aa.l cK))::(kL,.mp (uJ cU))::(il,.sl cd.length 1 (aa.l cd))::L):=Has.del Jt 3
  have NX:Has h24 ((fJ,.sl cK.length 1 (aa.l cK))::(il,.sl cd.length 1 (aa.l cd))::L):=Has.del HA 1
  have NY:Has h24 ((il,.sl cd.length 1 (aa.l cd))::L):=Has.del NX 0
  exact qt <| Yv (⟨rfl,_,oi H,cb (.rs il 0 cd.length 1) h24 (b9 (vu (E:=aa) (l:=cd) (q:=0) NY rfl (fun _=>rfl)))⟩)
 ·refine qk <| qr [.v 2 (show su Tryd.prog h24 114 (.mp kL)=some (.int .i64 (cU.length:Int)) from Ku (q:=1) (l:=cU) FA Jt rfl)] ?_
  have O5:Has h24 ((fJ,.sl cK.length 1 (aa.l cK))::(kL,.mp (uJ cU))::(aA,.ob [af.fz ay])::L):=Has.del Jt 2
  have QP:Has h24 ((fJ,.sl cK.length 1 (aa.l cK))::(aA,.ob [af.fz ay])::L):=Has.del O5 1
  exact⟨(cK,i64.wrap ((cU.length:Int) - (1:Int))),⟨.any,.any,.any,.any,.any,fJ,h24,by kernel_rfl,QP⟩,H⟩
theorem pb {aU:FuncId→cg}(ha:aU 67=pa)(F3:O4 cf m)(QQ:Ts cf m)(QR:Ty cf m)(ay:List ab)(h:AHeap)(L:Mem)  (o:Has h (L)){out:(List Int)}(H:ax.f m ay=some out) :
  ∃r h',bc Tryd.prog aU cf m 67 [af.fz ay] h=some (r,h')∧fW h' r (aa.fz out):=by
 refine aq (fn:=Tryd.f67) ha Tryd.func67 (by kernel_rfl) (by kernel_rfl) ?_
 refine aG (Q:=fun s=>ax.fin L out s) (fun _ _ h=>h) ?_
 have H:_=some out:=H
 unfold ax.f at H
 show de _ cf pa m _ ⟨af.fz ay::Qk [],[none],h⟩ _
 refine qq ?_
 obtain⟨aA,h0,e0,o0⟩:=ki (cs:=[af.fz ay]) o (by kernel_rfl)
 refine qr [.a 0 e0] <| qq ?_
 obtain⟨x0,e1,H⟩:=aI H
 obtain⟨eS,h1,e2,o1⟩:=lZ (P:=Tryd.prog) (E:=aa) (z:=(0:Int)) (zv:=.int .i64 (0:Int)) dz o0 3 rfl rfl rfl rfl e1
 refine qr [.v 0 (show bl Tryd.prog h0 29 (.ptr aA 0)=some (af.fz ay) from ca (q:=0) (cs:=[af.fz ay]) o0 rfl (by kernel_rfl)),.a 2 e2] <| qq <| qq <| q0 <| qb 0 ?_
 obtain⟨bj,e5,H⟩:=aI H
 refine ql (ax.bI L ay aA x0   (x0,(0:Int)) _ _ ⟨eS,h1,by kernel_rfl,o1⟩ e5) ?_
 rintro e s ⟨rfl,bZ,x2,rfl,g0,g1,g2,fb,h4,rfl,o4⟩
 try dsimp only at H
 refine qq ?_
 obtain⟨x3,e6,H⟩:=aI H
 obtain⟨h5,e7,o5⟩:=QQ _ _ _ e6 h4 _ _ _ (o4) 85 [.ptr aA 0] rfl (fun h' K' o' y0 y1 r hr=>QR y0 y1 _ r hr h' _ (K'.length+0) _ o' (Ks rfl)) [.rs fb 0 bZ.length 1,.fn 85 [.ptr aA 0]] (an (rfl) (an (rfl) (bo)))
 refine qr [.a 2 e7] <| qq ?_
 obtain⟨x4,e8,H⟩:=aI H
 obtain⟨fS,h6,e9,o6⟩:=lZ (P:=Tryd.prog) (E:=aa) (z:=(0:Int)) (zv:=.int .i64 (0:Int)) dz o5 3 rfl rfl rfl rfl e8
 refine qr [.v 0 (show bl Tryd.prog h5 29 (.ptr aA 0)=some (af.fz ay) from ca (q:=1) (cs:=[af.fz ay]) o5 rfl (by kernel_rfl)),.a 2 e9] <| qq <| q0 <| qq <| qq <| q0 <| qb 2 ?_
 obtain⟨kH,B8,H⟩:=aI H
 refine ql (ax.eQ L ay aA fb bZ fb x3  F3 (x4,(0:Int),(0:Int)) _ _ ⟨fS,h6,(Yp (b:=⟨.any :: .ptr aA 0 :: .any :: .rs fb 0 bZ.length 1 :: .any :: .rs fS 0 x4.length 1 :: .int .i64 (0:Int)::mL (.rs fb 0 bZ.length 1 :: .int .i64 (bZ.length:Int) :: .int .i64 (0:Int)::mK []),[none],h6⟩) (by kernel_rfl) (by simp only [XC])),(by have o:Has h6 ((fS,.sl x4.length 1 (aa.l x4))::(fb,.sl bZ.length 1 (aa.l x3))::(aA,.ob [af.fz ay])::L):=o6; simpa only [XC] using o)⟩ B8) ?_
 rintro e s ⟨rfl,gO,many1,x7,rfl,g3,g4,g5,g6,g7,gQ,h11,rfl,uw⟩
 try dsimp only at H
 refine qb 4 ?_
 have oT:Has h11 ((gQ,.sl gO.length 1 (aa.l gO))::(aA,.ob [af.fz ay])::L):=Has.del uw 1
 obtain⟨F5,Mh,H⟩:=aI H
 refine ql (ax.mc L ay aA   (gO,many1) _ _ ⟨g3,g4,g5,g6,g7,gQ,h11,by kernel_rfl,oT⟩ Mh) ?_
 rintro e s (⟨rfl,mh,NS,rfl,g21,g22,g23,g24,Xb,Xc,Xd,Xe,gR,h25,rfl,Xf⟩| ⟨rfl,r3,rfl,nI⟩)
 ·try dsimp only at H
  cases H
 ·try dsimp only at H
  obtain rfl:=oi H
  exact⟨.inl rfl,nI⟩
end
end Go.Proofs.YtmekcfdllhphlaaDoor
namespace Go.Proofs.YtmekcfdllhphlaaDoor
open Go Go.R
open Go.IntKind (i64 u64 u8 u32)
def key (out:List Int)(n:ab)(i:Nat):List Int:=(gt out i+1)::((n.args.map fun a=>gt out a.toNat+1)++XK (8 - n.args.length) 0)
def enum:List (List Int)→Nat→List (List Int × Int)
 | [],_=>[]
 | k::ks,s=>(k,(s:Int))::enum ks (s+1)
theorem mi:∀(ks:List (List Int)) (s:Nat),(enum ks s).length=ks.length
 | [],_=>rfl
 | k::ks,s=>by simp [enum,mi ks]
theorem tN:∀(ks:List (List Int)) (s:Nat) (k:List Int),tc (enum ks s) k=if k∈ks then (((s+ks.idxOf k:Nat):Int),true) else (0,false)
 | [],s,k=>rfl
 | a::ks,s,k=>by
  simp only [enum,tc,tN ks (s+1) k,X8,List.idxOf_cons]
  by_cases h:k=a
  ·subst h; simp
  ·have h':(a==k)=false:=by simpa using fun z:a=k=>h z.symm
   rw [if_neg h,h']
   by_cases h2:k∈ks
   ·simp only [h2,if_true,or_true,cond_false]
    simp only [Xz,and_true]
    omega
   ·simp [h2,h]
theorem yZ:∀(ks:List (List Int)) (s:Nat) (k:List Int),k∉ks→AB (enum ks s) k ((s+ks.length:Nat):Int)=enum (ks++[k]) s
 | [],s,k,_=>rfl
 | a::ks,s,k,h=>by
  have h1:k≠a:=fun z=>h (by simp [z])
  have h2:k∉ks:=fun z=>h (by simp [z])
  simp only [enum,AB,XU,if_neg h1,XR]
  rw [show s+(ks.length+1)=s+1+ks.length by omega,yZ ks (s+1) k h2]
theorem mH {n:Nat}:∀(ks:List (List Int)) (s:Nat) (k:List Int),k.length=n→(∀a∈ks,a.length=n)→ta n (enum ks s) k=true
 | [],s,k,h,_=>by simp [ta,enum,h]
 | a::ks,s,k,h,h2=>by
  have:=mH ks (s+1) k h fun a ha=>h2 a (by simp [ha])
  simp only [ta,Xw,beq_iff_eq,h,true_and] at this ⊢
  simp only [enum,Ym,Xw,beq_iff_eq]
  exact⟨h2 a (by simp),this⟩
structure Part (n:Nat)(out:List Int)(many:Nat):Prop where
 len:out.length=n
 nj:∀i,i<n→0≤gt out i∧gt out i≤many
 TA:∀v:Nat,v≤many→∃i,i<n∧gt out i=v
structure qo (l:List ab)(out:List Int)(p:Nat)(ks:List (List Int)):Prop where
 HB:ks.Nodup
 mem:∀k,k∈ks↔∃i,i<p∧key out (nd l i) i=k
def kM (l:List ab):Prop:=l.length≤8000∧∀n∈l,n.args.length≤8∧∀a∈n.args,0≤a∧a<l.length
theorem Iv {a:Int}{L:List Int}{t:Nat}{v:Int}(hL:L.length=t)(ht:t<8):(a::(L++XK (8 - t) 0)).set (t+1) v=a::((L++[v])++XK (8 - (t+1)) 0):=by
 rw [List.set_cons_succ,YW _ _ (by omega),hL,Y0,show 8 - t=(8 - (t+1))+1 by omega,List.replicate_succ,List.set_cons_zero,XF]
 rfl
theorem Gb {m:Nat}{out:List Int}{n:ab}(h8:n.args.length≤8)(ha:∀a∈n.args,0≤a∧a<out.length)(ho:∀i,i<out.length→0≤gt out i∧gt out i<2 ^ 40)(o:Int):∀(f t:Nat),n.args.length - t<f→t≤n.args.length→
  ∃x,ax.l4 m out n f (o::(((n.args.take t).map fun a=>gt out a.toNat+1)++XK (8 - t) 0)) (t:Int)=some (o::((n.args.map fun a=>gt out a.toNat+1)++XK (8 - n.args.length) 0),x)
 | 0,t,hf,_=>absurd hf (by omega)
 | f+1,t,hf,ht=>by
  have nT:(2:Nat) ^ 40=1099511627776:=by decide
  have i40:(2:Int) ^ 40=1099511627776:=by decide
  unfold ax.l4
  by_cases h:t<n.args.length
  ·have hx:ix n.args (t:Int)=some (gt n.args t):=cj h
   obtain⟨b0,b1⟩:=ha _ (aJ h)
   obtain⟨c0,c1⟩:=ho (gt n.args t).toNat (by omega)
   have hy:ix out (gt n.args t)=some (gt out (gt n.args t).toNat):=fU (by omega) (by omega)
   have e1:i64.wrap ((t:Int)+1)=((t+1:Nat):Int):=by rw [aD (by omega) (by omega)]; omega
   have hT:((n.args.take t).map fun a=>gt out a.toNat+1).length=t:=by simp; omega
   have hz:∃z,ix (o::(((n.args.take t).map fun a=>gt out a.toNat+1)++XK (8 - t) 0)) ((t+1:Nat):Int)=some z:=⟨_,cj (by simp; omega)⟩
   obtain⟨z,hz⟩:=hz
   obtain⟨x,ih⟩:=Gb (m:=m) h8 ha ho o f (t+1) (by omega) (by omega)
   have hT1:n.args.take (t+1)=n.args.take t++[gt n.args t]:=by rw [Yx,bh h]; rfl
   rw [hT1,XW] at ih
   rw [if_pos (by simp only [decide_eq_true_eq]; omega),hx,Xr,hy,Xr,e1,hz,Xr,Xy,aD (x:=gt out (gt n.args t).toNat+1) (by omega) (by omega),Iv hT (by omega)]
   exact⟨x,ih⟩
  ·have:t=n.args.length:=by omega
   subst this
   exact⟨_,by rw [if_neg (by simp),YA]⟩
theorem tO {out:List Int}{n:ab}{i:Nat}(h8:n.args.length≤8):(key out n i).length=9:=by simp [key]; omega
theorem y4 {l:List ab}(ok:kM l){i:Nat}(h:i<l.length):(nd l i).args.length≤8∧∀a∈(nd l i).args,0≤a∧a<l.length:=ok.2 _ (fl (by omega) (by omega))
theorem AO {m:Nat}(hm:2 ^ 30≤m){l:List ab}{out:List Int}{many:Nat}(ok:kM l)(P:Part l.length out many)(Ju:many<2 ^ 30):∀(f p:Nat) (ks:List (List Int)) (next:List Int),l.length - p<f→p≤l.length→qo l out p ks→next.length=l.length→
  (∀i,i<p→gt next i=(ks.idxOf (key out (nd l i) i):Int))→
  ∃QS next' x,ax.l3 m l out f (enum ks 0) next (p:Int)=some (enum QS 0,next',x)∧qo l out l.length QS∧next'.length=l.length∧∀i,i<l.length→gt next' i=(QS.idxOf (key out (nd l i) i):Int)
 | 0,p,ks,next,hf,_,_,_,_=>absurd hf (by omega)
 | f+1,p,ks,next,hf,hp,K,hn,hg=>by
  have ni:(2:Nat) ^ 30=1073741824:=by decide
  have nT:(2:Nat) ^ 40=1099511627776:=by decide
  have i40:(2:Int) ^ 40=1099511627776:=by decide
  have h8000:=ok.1
  have HP:=P.len
  unfold ax.l3
  by_cases h:p<l.length
  ·obtain⟨n1,n2⟩:=y4 ok h
   obtain⟨r0,r1⟩:=P.nj p h
   have e1:i64.wrap ((p:Int)+1)=((p+1:Nat):Int):=by rw [aD (by omega) (by omega)]; omega
   obtain⟨x,hk⟩:=Gb (m:=m) (out:=out) (n:=nd l p) n1 (by rw [HP]; exact n2) (fun i hi=>by have:=P.nj i (by omega); omega) (gt out p+1) m 0 (by omega) (by omega)
   have hk:ax.l4 m out (nd l p) m [gt out p+1,0,0,0,0,0,0,0,0] 0=some (key out (nd l p) p,x):=hk
   have O6:=tO (out:=out) (i:=p) n1
   have Ai:∀a∈ks,a.length=9:=fun a ha=>by
    obtain⟨i,hi,rfl⟩:=(K.mem a).1 ha
    exact tO (y4 ok (by omega)).1
   have Lj:∃z,ix next (p:Int)=some z:=⟨_,cj (by omega)⟩
   obtain⟨z,hz⟩:=Lj
   rw [if_pos (by simp only [decide_eq_true_eq]; omega),gW (by omega) (by omega),Xr,cj (by omega),Xr,aD (x:=gt out p+1) (by omega) (by omega),hk,Xr]
   dsimp only
   have hG:Ic 9 (enum ks 0) (key out (nd l p) p)=some (if key out (nd l p) p∈ks then (((ks.idxOf (key out (nd l p) p):Nat):Int),true) else (0,false)):=by
    unfold Ic; rw [if_pos (mH _ _ _ O6 Ai),tN,XS]
   rw [hG,Xr,e1,hz]
   by_cases hin:key out (nd l p) p∈ks
   ·rw [if_pos hin,if_neg (by simp),Xr,Xr,Xy]
    refine AO hm ok P Ju f (p+1) ks _ (by omega) (by omega) ⟨K.HB,fun k=>⟨fun hk=>?_,fun ⟨i,hi,pP⟩=>?_⟩⟩ (by simpa using hn) (fun i hi=>?_)
    ·obtain⟨i,hi,h⟩:=(K.mem k).1 hk; exact⟨i,by omega,h⟩
    ·by_cases Iw:i=p
     ·subst Iw; rw [←pP]; exact hin
     ·exact (K.mem k).2 ⟨i,by omega,pP⟩
    ·rw [eh (by omega)]
     by_cases Iw:i=p
     ·subst Iw; rw [if_pos rfl]
     ·rw [if_neg Iw]; exact hg i (by omega)
   ·have hS:Nd 9 (enum ks 0) (key out (nd l p) p) (((enum ks 0).length:Nat):Int)=some (enum (ks++[key out (nd l p) p]) 0):=by
     unfold Nd; rw [if_pos (mH _ _ _ O6 Ai),mi]
     have:=yZ ks 0 _ hin
     rw [XS] at this
     rw [this]
    have hid:(ks++[key out (nd l p) p]).idxOf (key out (nd l p) p)=ks.length:=by
     rw [YE,if_neg hin,List.idxOf_cons_self,XS]
    have VA:Ic 9 (enum (ks++[key out (nd l p) p]) 0) (key out (nd l p) p)=some (((ks.length:Nat):Int),true):=by
     unfold Ic
     rw [if_pos (mH _ _ _ O6 (fun a ha=>by rcases XH.1 ha with ha | ha; exact Ai a ha; simp only [XE] at ha; rw [ha]; exact O6)),tN,if_pos (by simp),XS,hid]
    rw [if_neg hin,if_pos (by simp),hS,Xr,VA,Xr,Xr,Xy]
    refine AO hm ok P Ju f (p+1) (ks++[key out (nd l p) p]) _ (by omega) (by omega) ⟨?_,fun k=>⟨fun hk=>?_,fun ⟨i,hi,pP⟩=>?_⟩⟩ (by simpa using hn) (fun i hi=>?_)
    ·rw [YF]
     refine⟨K.HB,by simp,fun a ha b hb=>?_⟩
     simp only [XE] at hb
     subst hb; intro e; subst e; exact hin ha
    ·rcases XH.1 hk with hk | hk
     ·obtain⟨i,hi,h⟩:=(K.mem k).1 hk; exact⟨i,by omega,h⟩
     ·simp only [XE] at hk; exact⟨p,by omega,hk.symm⟩
    ·by_cases Iw:i=p
     ·subst Iw; rw [←pP]; simp
     ·exact Yb _ ((K.mem k).2 ⟨i,by omega,pP⟩)
    ·rw [eh (by omega)]
     by_cases Iw:i=p
     ·subst Iw; rw [if_pos rfl,hid]
     ·rw [if_neg Iw,YE,if_pos ((K.mem _).2 ⟨i,by omega,rfl⟩)]; exact hg i (by omega)
  ·have:p=l.length:=by omega
   subst this
   exact⟨ks,next,_,by rw [if_neg (by simp)],K,hn,hg⟩
theorem Ix {l:List ab}{out:List Int}{ks:List (List Int)}(K:qo l out l.length ks):ks.length≤l.length:=by
 have:=K.HB.length_le_of_subset (l₂:=(List.range l.length).map fun i:Nat=>key out (nd l i) i) (fun k hk=>by
  obtain⟨i,hi,h⟩:=(K.mem k).1 hk
  exact XQ.2 ⟨i,List.mem_range.2 hi,h⟩)
 simpa using this
theorem Cj {l:List ab}{out:List Int}{many:Nat}{ks:List (List Int)}(P:Part l.length out many)(K:qo l out l.length ks):many+1≤ks.length:=by
 have hn:((List.range (many+1)).map fun v:Nat=>((v:Int)+1)).Nodup:=by
  unfold List.Nodup
  rw [List.pairwise_map]
  exact List.Pairwise.imp (fun h=>by omega) List.nodup_range
 have:=hn.length_le_of_subset (l₂:=ks.map fun k=>k.headD 0) (fun x hx=>by
  obtain⟨v,hv,rfl⟩:=XQ.1 hx
  obtain⟨i,hi,h⟩:=P.TA v (by have:=List.mem_range.1 hv; omega)
  exact XQ.2 ⟨_,(K.mem _).2 ⟨i,hi,rfl⟩,by simp [key,h]⟩)
 simpa using this
theorem DU {l:List ab}{out next:List Int}{many:Nat}{ks:List (List Int)}(P:Part l.length out many)(K:qo l out l.length ks)(hn:next.length=l.length)(hg:∀i,i<l.length→gt next i=(ks.idxOf (key out (nd l i) i):Int)):Part l.length next (ks.length - 1):=by
 have:=Cj P K
 refine⟨hn,fun i hi=>?_,fun v hv=>?_⟩
 ·have:=Ys ((K.mem _).2 ⟨i,hi,rfl⟩)
  rw [hg i hi]; omega
 ·have hv:v<ks.length:=by omega
  obtain⟨i,hi,h⟩:=(K.mem _).1 (Yo hv)
  refine⟨i,hi,?_⟩
  rw [hg i hi,h,K.HB.idxOf_getElem]
theorem Gc {m:Nat}(hm:2 ^ 30≤m){l:List ab}(ok:kM l)(Inv:List Int→Prop)
  (hI:∀out many ks next,Part l.length out many→Inv out→qo l out l.length ks→next.length=l.length→(∀i,i<l.length→gt next i=(ks.idxOf (key out (nd l i) i):Int))→Inv next):∀(f:Nat) (out:List Int) (many:Nat),l.length - many<f→many<l.length→Part l.length out many→Inv out→
  ∃r Jv ks,ax.l2 m l f out (many:Int)=some (.inl r)∧Part l.length r Jv∧Inv r∧qo l r l.length ks∧ks.length=Jv+1
 | 0,out,many,hf,_,_,_=>absurd hf (by omega)
 | f+1,out,many,hf,hlt,P,I=>by
  have ni:(2:Nat) ^ 30=1073741824:=by decide
  have h8000:=ok.1
  unfold ax.l2
  have e0:sj 8 (l.length:Int) (0:Int)=some (XK l.length 0):=by unfold sj; rw [if_pos ⟨by omega,by rw [Xy]; omega⟩,Xy]
  obtain⟨ks,next,x,h1,K,hn,hg⟩:=AO hm ok P (by omega) m 0 [] (XK l.length 0) (by omega) (by omega) ⟨by simp,fun k=>⟨fun h=>by simp at h,fun ⟨i,hi,_⟩=>absurd hi (by omega)⟩⟩ (by simp) (fun i hi=>absurd hi (by omega))
  have h1:ax.l3 m l out m [] (XK l.length 0) 0=_:=h1
  have g1:=Ix K
  have g2:=Cj P K
  rw [e0,Xr,h1,Xr]
  dsimp only
  rw [mi,aD (x:=(many:Int)+1) (by omega) (by omega),aD (x:=(ks.length:Int) - 1) (by omega) (by omega)]
  by_cases h:ks.length=many+1
  ·rw [if_pos (by simp; omega)]
   exact⟨out,many,ks,rfl,P,I,K,h⟩
  ·rw [if_neg (by simp; omega),show (ks.length:Int) - 1=((ks.length - 1:Nat):Int) by omega]
   exact Gc hm ok Inv hI f next (ks.length - 1) (by omega) (by omega) (DU P K hn hg) (hI _ _ _ _ P I K hn hg)
end Go.Proofs.YtmekcfdllhphlaaDoor
namespace Go.Proofs.YtmekcfdllhphlaaDoor
open Go Go.R
open Go.IntKind (i64 u64 u8 u32)
def ints (n:Nat):List Int:=(List.range n).map fun k:Nat=>(k:Int)
theorem dG (n:Nat):(ints n).length=n:=by simp [ints]
theorem Iy {n k:Nat}(h:k<n):gt (ints n) k=k:=by
 have h1:=bh (l:=ints n) (k:=k) (by rw [dG]; exact h)
 have h2:(ints n)[k]? = some (k:Int):=by
  unfold ints
  rw [XZ,XD (by simpa using h)]
  simp
 rw [h2] at h1; exact (XP h1).symm
theorem iE {n:Nat}{x:Int}:x∈ints n↔0≤x∧x<n:=by
 unfold ints
 rw [XQ]
 constructor
 ·rintro⟨k,hk,rfl⟩; have:=List.mem_range.1 hk; omega
 ·intro h; exact⟨x.toNat,List.mem_range.2 (by omega),by omega⟩
theorem AP (n:Nat):(ints n).Nodup:=by
 unfold ints List.Nodup
 rw [List.pairwise_map]
 exact List.Pairwise.imp (fun h=>by omega) List.nodup_range
theorem tP {l:List Int}(h:l.Nodup){i j:Nat}(hi:i<l.length)(hj:j<l.length)(e:gt l i=gt l j):i=j:=by
 have h1:=bh hi
 have h2:=bh hj
 rw [XD hi] at h1
 rw [XD hj] at h2
 have h1:=XP h1
 have h2:=XP h2
 exact (List.getElem_inj (h₀:=hi) (h₁:=hj) h).1 (by rw [h1,h2,e])
theorem eL {l:List Int}{x:Int}(h:x∈l):∃k,k<l.length∧gt l k=x:=by
 obtain⟨k,hk,e⟩:=Y1 h
 refine⟨k,hk,?_⟩
 have h1:=bh hk
 rw [XD hk,e] at h1
 exact (XP h1).symm
theorem Gd {m:Nat}{z:List Int}(hz:z.length<2 ^ 40):∀(f i:Nat) (d:List Int),z.length - i<f→i≤z.length→d.length=z.length→(∀k,k<i→gt d k=k)→
  ∃x,ax.l0 m z f d (i:Int)=some (ints z.length,x)
 | 0,i,d,hf,_,_,_=>absurd hf (by omega)
 | f+1,i,d,hf,hi,hd,hg=>by
  have nT:(2:Nat) ^ 40=1099511627776:=by decide
  unfold ax.l0
  by_cases h:i<z.length
  ·obtain⟨v,hv⟩:∃v,ix d (i:Int)=some v:=⟨_,cj (by omega)⟩
   rw [if_pos (by simp only [decide_eq_true_eq]; omega),hv,Xr,Xy,aD (by omega) (by omega),show (i:Int)+1=((i+1:Nat):Int) by omega]
   refine Gd hz f (i+1) _ (by omega) (by omega) (by simpa using hd) fun k hk=>?_
   rw [eh (by omega)]
   by_cases e:k=i
   ·subst e; rw [if_pos rfl]
   ·rw [if_neg e]; exact hg k (by omega)
  ·refine⟨i,?_⟩
   rw [if_neg (by simp only [decide_eq_true_eq]; omega)]
   have:d=ints z.length:=FD (by rw [dG,hd]) fun k hk=>by rw [hg k (by omega),Iy (by omega)]
   rw [this]
def rk (l:List ab)(d:List Int):Nat→Nat
 | 0=>0
 | k+1=>rk l d k+if cT (nd l (gt d k)) (nd l (gt d (k+1)))=0 then 0 else 1
theorem Ge (l:List ab)(d:List Int):∀k,rk l d k≤k
 | 0=>Xv _
 | k+1=>by have:=Ge l d k; unfold rk; split<;>omega
theorem xq (l:List ab)(d:List Int)(i:Nat):∀j,i≤j→rk l d i≤rk l d j
 | 0,h=>by
   have:i=0:=by omega
   subst this; exact Xv _
 | j+1,h=>by
  by_cases e:i=j+1
  ·subst e; exact Xv _
  ·have:=xq l d i j (by omega)
   show _≤rk l d j+_
   omega
theorem Gf (l:List ab)(d:List Int):∀(j v:Nat),v≤rk l d j→∃k,k≤j∧rk l d k=v
 | 0,v,h=>⟨0,Xv _,by unfold rk at h ⊢; omega⟩
 | j+1,v,h=>by
  by_cases e:v=rk l d (j+1)
  ·exact⟨j+1,Xv _,e.symm⟩
  ·have h2:rk l d (j+1)≤rk l d j+1:=by show rk l d j+_≤_; split<;>omega
   obtain⟨k,hk,e⟩:=Gf l d j v (by omega)
   exact⟨k,by omega,e⟩
theorem Gg {m:Nat}(hm:3≤m){l:List ab}{o d:List Int}(hl:l.length≤8000)(ho:o.length=l.length)(hp:d.Perm (ints l.length)):∀(f p:Nat) (out:List Int),l.length - p<f→p≤l.length→out.length=l.length→(∀k,k<p→gt out (gt d k).toNat=rk l d k)→
  ∃Lk x,ax.l1 m l o d f out ((rk l d (p - 1):Nat):Int) (p:Int)=some (Lk,((rk l d (l.length - 1):Nat):Int),x)∧Lk.length=l.length∧∀k,k<l.length→gt Lk (gt d k).toNat=rk l d k
 | 0,p,out,hf,_,_,_=>absurd hf (by omega)
 | f+1,p,out,hf,Ae,NZ,hg=>by
  have Qq:d.length=l.length:=by rw [hp.length_eq,dG]
  have hd:∀k,k<l.length→0≤gt d k∧gt d k<l.length:=fun k hk=>iE.1 (hp.mem_iff.1 (aJ (by omega)))
  have AQ:d.Nodup:=hp.symm.nodup (AP _)
  unfold ax.l1
  by_cases h:p<l.length
  ·obtain⟨d0,d1⟩:=hd p h
   have Al:∀k,k<p+1→gt (out.set (gt d p).toNat ((rk l d p:Nat):Int)) (gt d k).toNat=rk l d k:=fun k hk=>by
    rw [eh (by omega)]
    by_cases e:k=p
    ·subst e; rw [if_pos rfl]
    ·have:gt d k≠gt d p:=fun h=>e (tP AQ (by omega) (by omega) h)
     have:=hd k (by omega)
     rw [if_neg (by omega)]; exact hg k (by omega)
   obtain⟨z,hz⟩:∃z,ix out (gt d p)=some z:=⟨_,fU (k:=(gt d p).toNat) (by omega) (by omega)⟩
   have e1:i64.wrap ((p:Int)+1)=((p+1:Nat):Int):=by rw [aD (by omega) (by omega)]; omega
   have hr:=Ge l d p
   have IH:=Gg hm hl ho hp f (p+1) (out.set (gt d p).toNat ((rk l d p:Nat):Int)) (by omega) (by omega) (by simpa using NZ) Al
   rw [show p+1 - 1=p by omega] at IH
   rw [if_pos (by simp only [decide_eq_true_eq]; omega),cj (by omega),Xr]
   by_cases h0:0<p
   ·obtain⟨q,rfl⟩:∃q,p=q+1:=⟨p - 1,by omega⟩
    obtain⟨q0,q1⟩:=hd q (by omega)
    rw [show q+1 - 1=q by omega]
    have e2:i64.wrap (((q+1:Nat):Int) - 1)=(q:Int):=by rw [aD (by omega) (by omega)]; omega
    rw [if_pos (by simp only [decide_eq_true_eq]; omega),e2,cj (by omega),Xr,gW q0 q1,Xr,gW d0 d1,Xr,Ci hm,Xr,hz,e1]
    by_cases hc:cT (nd l (gt d q)) (nd l (gt d (q+1)))=0
    ·have QT:rk l d (q+1)=rk l d q:=by show rk l d q+_=_; rw [if_pos hc]; omega
     rw [if_neg (by simp [hc]),Xr]
     rw [QT] at IH; exact IH
    ·have QT:rk l d (q+1)=rk l d q+1:=by show rk l d q+_=_; rw [if_neg hc]
     rw [if_pos (by simpa using hc),Xr,aD (by omega) (by omega)]
     rw [QT] at IH; exact IH
   ·have:p=0:=by omega
    subst this
    rw [if_neg (by simp),hz,Xr,e1]
    exact IH
  ·have:p=l.length:=by omega
   subst this
   exact⟨out,_,by rw [if_neg (by simp only [decide_eq_true_eq]; omega)],NZ,hg⟩
theorem Iz {m:Nat}(hm:3≤m)(l:List ab):Cm (fun y0 y1=>dk.f m y0 y1 l) (fun x y=>cT (nd l x) (nd l y)) (ints l.length):=fun x hx y hy=>by
 have hx:=iE.1 hx
 have hy:=iE.1 hy
 exact F4 hm hx.1 hx.2 hy.1 hy.2
theorem xt {m:Nat}(hm:2 ^ 41≤m){l:List ab}(ok:kM l)(h1:1≤l.length)(Inv:List Int→Prop)
  (hI0:∀d out,d.Perm (ints l.length)→(Ord (fun x y=>cT (nd l x) (nd l y)) (ints l.length)→Sg (fun x y=>cT (nd l x) (nd l y)) d 0 l.length)→(∀k,k<l.length→gt out (gt d k).toNat=rk l d k)→Inv out)
  (hI:∀out many ks next,Part l.length out many→Inv out→qo l out l.length ks→next.length=l.length→(∀i,i<l.length→gt next i=(ks.idxOf (key out (nd l i) i):Int))→Inv next) :
  ∃r many ks,ax.f m l=some r∧Part l.length r many∧Inv r∧qo l r l.length ks∧ks.length=many+1:=by
 have nT:(2:Nat) ^ 40=1099511627776:=by decide
 have rE:(2:Nat) ^ 41=2199023255552:=by decide
 have ni:(2:Nat) ^ 30=1073741824:=by decide
 have h8000:=ok.1
 have e0:sj 8 (l.length:Int) (0:Int)=some (XK l.length 0):=by unfold sj; rw [if_pos ⟨by omega,by rw [Xy]; omega⟩,Xy]
 unfold ax.f
 obtain⟨x,k1⟩:=Gd (m:=m) (z:=XK l.length 0) (by simp; omega) m 0 (XK l.length 0) (by simp; omega) (by omega) rfl (fun k hk=>absurd hk (by omega))
 have k1:ax.l0 m (XK l.length 0) m (XK l.length 0) 0=_:=k1
 rw [YX] at k1
 rw [e0,Xr,k1,Xr]
 dsimp only
 obtain⟨d,k2,hp,hs⟩:=DS hm (l:=ints l.length) (by rw [dG]; omega) (Iz (m:=m) (by omega) l)
 rw [k2,Xr,Xr]
 obtain⟨out,x,k3,ho,hg⟩:=Gg (m:=m) (l:=l) (o:=ints l.length) (d:=d) (by omega) h8000 (dG _) hp m 0 (XK l.length 0) (by omega) (by omega) (by simp) (fun k hk=>absurd hk (by omega))
 have k3:ax.l1 m l (ints l.length) d m (XK l.length 0) 0 0=_:=k3
 rw [k3,Xr]
 dsimp only
 rw [dG] at hs
 have Qq:d.length=l.length:=by rw [hp.length_eq,dG]
 have hP:Part l.length out (rk l d (l.length - 1)):=by
  refine⟨ho,fun i hi=>?_,fun v hv=>?_⟩
  ·obtain⟨k,hk,e⟩:=eL (hp.mem_iff.2 (iE.2 (show 0≤(i:Int)∧(i:Int)<l.length by omega)))
   have:=hg k (by omega)
   rw [e,Xy] at this
   have h2:=xq l d k (l.length - 1) (by omega)
   omega
  ·obtain⟨k,hk,e⟩:=Gf l d _ v hv
   have HJ:k<l.length:=by omega
   have:=iE.1 (hp.mem_iff.1 (aJ (l:=d) (k:=k) (by omega)))
   exact⟨(gt d k).toNat,by omega,by rw [hg k HJ,e]⟩
 have N0:=Ge l d (l.length - 1)
 obtain⟨r,many,ks,k4,P,I,K,Ai⟩:=Gc (m:=m) (by omega) ok Inv hI m out (rk l d (l.length - 1)) (by omega) (by omega) hP (hI0 d out hp hs hg)
 rw [k4]
 exact⟨r,many,ks,rfl,P,I,K,Ai⟩
end Go.Proofs.YtmekcfdllhphlaaDoor
namespace Go.Proofs.YtmekcfdllhphlaaDoor
open Go Go.R
open Go.IntKind (i64 u64 u8 u32)
def y5:cg:=gK [0,1,2,3,4,5,7,8,9,10,11,12,14,24,53,54,55,56] [11] [262080,261696,253760,262079,261568,261574,260567,260567,258519,144855,13783,140759,144855,144855,261631,262079] [(14,[(12,none,0)])] [(8,[(12,none,1)])]
def aT.l0 (m:Nat)(x1:List Int)(x3:ak)(rec:Int→(List (Int × Int))→(List Int)→ak→ak→Option (Int × (List (Int × Int)) × ak))(v2:ab):Nat→(List Int)→Int→(List (Int × Int))→ak→Option ((List Int) × Int × (List (Int × Int)) × ak)
 | 0,_,_,_,_=>none
 | k+1,en,x6,x7,x8=>if (decide (x6<(v2.args.length:Int)))=true then ((ix v2.args x6).bind fun v3=>(rec v3 x7 x1 x8 x3).bind fun x9=>(app 8 en ([x9.1])).bind fun mg=>aT.l0 m x1 x3 rec v2 k mg (i64.wrap (x6+(1:Int))) x9.2.1 x9.2.2) else (some ((en,x6,x7,x8)))
def aT.b (m:Nat)(rec:Int→(List (Int × Int))→(List Int)→ak→ak→Option (Int × (List (Int × Int)) × ak))(i0:Int)(x0:List (Int × Int))(x1:List Int)(x2:ak)(x3:ak):Option (Int × (List (Int × Int)) × ak):=(ix x1 i0).bind fun v0=>if ((yG x0 v0).2)=true then (some ((yG x0 v0).1,x0,x2)) else ((ix x1 i0).bind fun v1=>(ix x3.nodes i0).bind fun v2=>(app 56 x2.nodes ([(ab.mk v2.kind v2.int v2.label ([]))])).bind fun x5=>(aT.l0 m x1 x3 rec v2 m ([]:List Int) (0:Int) (Fh x0 v1 (x2.nodes.length:Int)) (ak.mk x5 x2.root)).bind fun bj=>match bj with | (mj,Hy,Is,AR)=>(ix AR.nodes (x2.nodes.length:Int)).bind fun v4=>some ((x2.nodes.length:Int),Is,(ak.mk (AR.nodes.set (x2.nodes.length:Int).toNat (ab.mk v4.kind v4.int v4.label mj)) AR.root)))
def aT.f (m:Nat):Nat→Int→(List (Int × Int))→(List Int)→ak→ak→Option (Int × (List (Int × Int)) × ak)
 | 0,_,_,_,_,_=>none
 | k+1,i0,x0,x1,x2,x3=>aT.b m (aT.f m k) i0 x0 x1 x2 x3
def aT.fin (L:Mem)(bQ:Nat)(ep:Nat)(dL:Nat)(dA:Nat)(eC:Nat)(dR:Nat)(dH:Nat)(i0:Int)(x0:List (Int × Int))(x1:List Int)(x2:ak)(x3:ak)(r:Int × (List (Int × Int)) × ak)(s:St):Prop:=∃lD:Nat,aH Tryd.prog (s.open y5) Tryd.f68.results.toList=some (.int .i64 r.1)∧Has s.h ((bQ,.ob [.mp ep])::(ep,.mp (te r.2.1))::(dL,.ob [aa.fz x1])::(dA,.ob [.rs lD 0 r.2.2.nodes.length 4,.int .i64 r.2.2.root])::(lD,.sl r.2.2.nodes.length 4 (af.l r.2.2.nodes))::(dR,.ob [af.fz x3.nodes,.int .i64 x3.root])::(dH,.ob [.fn 68 [.ptr bQ 0,.ptr dL 0,.ptr dA 0,.ptr dR 0,.ptr dH 0]])::L)
def O7 (cf:CallF)(m:Nat)(kk:Nat):Prop:=∀(i0:Int) (x0:List (Int × Int)) (x1:List Int) (x2:ak) (x3:ak) (r:Int × (List (Int × Int)) × ak),aT.f m kk i0 x0 x1 x2 x3=some r→∀h L (bQ:Nat) (ep:Nat) (dL:Nat) (dA:Nat) (eC:Nat) (dR:Nat) (dH:Nat),Has h ((bQ,.ob [.mp ep])::(ep,.mp (te x0))::(dL,.ob [aa.fz x1])::(dA,.ob [.rs eC 0 x2.nodes.length 4,.int .i64 x2.root])::(eC,.sl x2.nodes.length 4 (af.l x2.nodes))::(dR,.ob [af.fz x3.nodes,.int .i64 x3.root])::(dH,.ob [.fn 68 [.ptr bQ 0,.ptr dL 0,.ptr dA 0,.ptr dR 0,.ptr dH 0]])::L)→∀xs,xs.map az=[.int .i64 i0,.ptr bQ 0,.ptr dL 0,.ptr dA 0,.ptr dR 0,.ptr dH 0]→∃lD h',cf 68 xs h=some (.int .i64 r.1,h')∧Has h' ((bQ,.ob [.mp ep])::(ep,.mp (te r.2.1))::(dL,.ob [aa.fz x1])::(dA,.ob [.rs lD 0 r.2.2.nodes.length 4,.int .i64 r.2.2.root])::(lD,.sl r.2.2.nodes.length 4 (af.l r.2.2.nodes))::(dR,.ob [af.fz x3.nodes,.int .i64 x3.root])::(dH,.ob [.fn 68 [.ptr bQ 0,.ptr dL 0,.ptr dA 0,.ptr dR 0,.ptr dH 0]])::L)
section
variable {cf:CallF}{m:Nat}
theorem aT.bI (L:Mem)(bQ:Nat)(ep:Nat)(dL:Nat)(dA:Nat)(eC:Nat)(dR:Nat)(dH:Nat)(i0:Int)(x0:List (Int × Int))(x1:List Int)(x2:ak)(x3:ak)(v2:ab)  {kk:Nat}(Gh:O7 cf m kk)  : bD Tryd.prog cf y5 m (sub [1,1,1,1,1,1,1,0,1,0,0] (codeOf Tryd.f68)) (fun k (σ:(List Int) × Int × (List (Int × Int)) × ak)=>aT.l0 m x1 x3 (aT.f m kk) v2 k σ.1 σ.2.1 σ.2.2.1 σ.2.2.2) (fun σ s=>match σ with | (en,x6,x7,x8)=>∃eS cF h3,s=⟨jP (.ptr dA 0 :: .any :: .ptr dH 0::jP [.int .i64 (x2.nodes.length:Int),.any,.rs eS 0 en.length 1,.any,.any,aa.fz v2.args,.int .i64 (v2.args.length:Int),.int .i64 x6,.any]),[none],h3⟩∧Has h3 ((eS,.sl en.length 1 (aa.l en))::(bQ,.ob [.mp ep])::(ep,.mp (te x7))::(dL,.ob [aa.fz x1])::(dA,.ob [.rs cF 0 x8.nodes.length 4,.int .i64 x8.root])::(cF,.sl x8.nodes.length 4 (af.l x8.nodes))::(dR,.ob [af.fz x3.nodes,.int .i64 x3.root])::(dH,.ob [.fn 68 [.ptr bQ 0,.ptr dL 0,.ptr dA 0,.ptr dR 0,.ptr dH 0]])::L)) (fun out e s=>(e = .exit 0∧∃en x6 x7 x8,(en,x6,x7,x8)=out∧∃xp Gi Gj Gk Ll eS cF h3,s=⟨jP (.ptr dA 0 :: .any::xp::jP [.int .i64 (x2.nodes.length:Int),.any,.rs eS 0 en.length 1,.any,.any,Gi,Gj,Gk,Ll]),[none],h3⟩∧Has h3 ((eS,.sl en.length 1 (aa.l en))::(bQ,.ob [.mp ep])::(ep,.mp (te x7))::(dL,.ob [aa.fz x1])::(dA,.ob [.rs cF 0 x8.nodes.length 4,.int .i64 x8.root])::(cF,.sl x8.nodes.length 4 (af.l x8.nodes))::(dR,.ob [af.fz x3.nodes,.int .i64 x3.root])::(dH,.ob [.fn 68 [.ptr bQ 0,.ptr dL 0,.ptr dA 0,.ptr dR 0,.ptr dH 0]])::L))):=by
 refine gG (fun _=>rfl) ?_
 rintro k ⟨en,x6,x7,x8⟩ s out ⟨eS,cF,h3,rfl,o4⟩ H
 have H:aT.l0 m x1 x3 (aT.f m kk) v2 (k+1) en x6 x7 x8=some out:=H
 refine q1 <| qq <| qc H (fun c1 H=>?_) (fun c1 H=>?_)
 ·refine qk <| qq <| qb 1 <| qq ?_
  obtain⟨v3,e7,H⟩:=aI H
  refine qr [.v 0 (bw (k:=.i64) (E:=aa) (l:=v2.args) dz e7),.v 1 (cY  (E:=aa) (l:=v2.args) h3 A3 e7 rfl)] ?_
  obtain⟨x9,e8,H⟩:=aI H
  obtain⟨fb,h4,e9,o5⟩:=Gh _ _ _ _ _ _ e8 h3 _ _ _ _ _ _ _ _ ((Has.front (Has.front (Has.front (Has.front (Has.front (Has.front (Has.front (Has.front o4 0 rfl) 7 rfl) 7 rfl) 7 rfl) 7 rfl) 7 rfl) 7 rfl) 7 rfl))  [.int .i64 v3,.ptr bQ 0,.ptr dL 0,.ptr dA 0,.ptr dR 0,.ptr dH 0] (an (aP (bE)) (an (rfl) (an (rfl) (an (rfl) (an (rfl) (an (rfl) (bo)))))))
  obtain⟨mg,nJ,H⟩:=aI H
  obtain⟨fS,h5,qn,o6⟩:=fF (P:=Tryd.prog) (E:=aa) (l:=en) (q:=7) (t2:=42) (x:=.fz [.int .i64 x9.1] 1 true) (l2:=([x9.1])) dz o5 rfl (by kernel_rfl) rfl nJ
  exact qr [.v 1 (show bl Tryd.prog h3 99 (.ptr dH 0)=some (.fn 68 [.ptr bQ 0,.ptr dL 0,.ptr dA 0,.ptr dR 0,.ptr dH 0]) from ca (q:=7) (cs:=[.fn 68 [.ptr bQ 0,.ptr dL 0,.ptr dA 0,.ptr dR 0,.ptr dH 0]]) o4 rfl (by kernel_rfl)),.a 3 e9,.a 5 qn] <| q0 <| ⟨(mg,i64.wrap (x6+(1:Int)),x9.2.1,x9.2.2),⟨fS,fb,h5,by kernel_rfl,(Has.front (Has.front (Has.front (Has.front (Has.front (Has.front (Has.front (Has.front o6 6 rfl) 6 rfl) 6 rfl) 6 rfl) 6 rfl) 6 rfl) 6 rfl) 7 rfl)⟩,H⟩
 ·exact qx 0 <| ⟨rfl,en,x6,x7,x8,oi H,.ptr dH 0,aa.fz v2.args,.int .i64 (v2.args.length:Int),.int .i64 x6,.bool (decide (x6<(v2.args.length:Int))),eS,cF,h3,by kernel_rfl,o4⟩
theorem pc {aU:FuncId→cg}(ha:aU 68=y5)  (i0:Int)(x0:List (Int × Int))(x1:List Int)(x2:ak)(x3:ak)(h:AHeap)(L:Mem)(bQ:Nat)(ep:Nat)(dL:Nat)(dA:Nat)(eC:Nat)(dR:Nat)(dH:Nat)  {kk:Nat}(Gh:O7 cf m kk)(o:Has h ((bQ,.ob [.mp ep])::(ep,.mp (te x0))::(dL,.ob [aa.fz x1])::(dA,.ob [.rs eC 0 x2.nodes.length 4,.int .i64 x2.root])::(eC,.sl x2.nodes.length 4 (af.l x2.nodes))::(dR,.ob [af.fz x3.nodes,.int .i64 x3.root])::(dH,.ob [.fn 68 [.ptr bQ 0,.ptr dL 0,.ptr dA 0,.ptr dR 0,.ptr dH 0]])::L)){out:Int × (List (Int × Int)) × ak}(H:aT.f m (kk+1) i0 x0 x1 x2 x3=some out) :
  ∃r h',bc Tryd.prog aU cf m 68 [.int .i64 i0,.ptr bQ 0,.ptr dL 0,.ptr dA 0,.ptr dR 0,.ptr dH 0] h=some (r,h')∧∃lD:Nat,r = .int .i64 out.1∧Has h' ((bQ,.ob [.mp ep])::(ep,.mp (te out.2.1))::(dL,.ob [aa.fz x1])::(dA,.ob [.rs lD 0 out.2.2.nodes.length 4,.int .i64 out.2.2.root])::(lD,.sl out.2.2.nodes.length 4 (af.l out.2.2.nodes))::(dR,.ob [af.fz x3.nodes,.int .i64 x3.root])::(dH,.ob [.fn 68 [.ptr bQ 0,.ptr dL 0,.ptr dA 0,.ptr dR 0,.ptr dH 0]])::L):=by
 refine aq (fn:=Tryd.f68) ha Tryd.func68 (by kernel_rfl) (by kernel_rfl) ?_
 refine aG (Q:=fun s=>aT.fin L bQ ep dL dA eC dR dH i0 x0 x1 x2 x3 out s) (fun _ _ ⟨h1,lD,h2,h3⟩=>⟨h1,_,h2,lD,rfl,h3⟩) ?_
 have H:aT.b m (aT.f m kk) i0 x0 x1 x2 x3=some out:=H
 unfold aT.b at H
 show de _ cf y5 m _ ⟨.int .i64 i0 :: .ptr bQ 0 :: .ptr dL 0 :: .ptr dA 0 :: .ptr dR 0 :: .ptr dH 0::mK [],[none],h⟩ _
 refine q1 <| qq <| qq ?_
 obtain⟨v0,e0,H⟩:=aI H
 refine qr [.v 0 (show bl Tryd.prog h 98 (.ptr bQ 0)=some (.mp ep) from ca (q:=0) (cs:=[.mp ep]) o rfl (by kernel_rfl)),.v 1 (show bl Tryd.prog h 42 (.ptr dL 0)=some (aa.fz x1) from ca (q:=2) (cs:=[aa.fz x1]) o rfl (by kernel_rfl)),.v 3 (bw (k:=.i64) (E:=aa) (l:=x1) dz e0),.v 4 (cY  (E:=aa) (l:=x1) h A3 e0 rfl),.v 5 (show fB Tryd.prog h 98 (.mp ep) (.int .i64 v0) true=some (.tup [.int .i64 ((yG x0 v0).1),.bool ((yG x0 v0).2)]) from (Qc (q:=1) (l:=x0) (k:=v0) Nu o rfl).1)] <| qq <| q0 <| qc H (fun c0 H=>?_) (fun c0 H=>?_)
 ·obtain rfl:=oi H
  exact q1 <| qt <| ⟨.inl rfl,⟨eC,by kernel_rfl,he o⟩⟩
 ·refine qk <| qq <| qr [.v 1 (show bl Tryd.prog h 29 (.ptr dA 0)=some (.rs eC 0 x2.nodes.length 4) from ca (q:=3) (cs:=[.rs eC 0 x2.nodes.length 4,.int .i64 x2.root]) o rfl (by kernel_rfl))] <| qq ?_
  obtain⟨v1,e1,H⟩:=aI H
  obtain⟨h0,e2,o0⟩:=Qd (q:=1) (l:=x0) (k:=v1) (v:=(x2.nodes.length:Int)) Nu o rfl
  refine qr [.v 0 (show bl Tryd.prog h 98 (.ptr bQ 0)=some (.mp ep) from ca (q:=0) (cs:=[.mp ep]) o rfl (by kernel_rfl)),.v 1 (show bl Tryd.prog h 42 (.ptr dL 0)=some (aa.fz x1) from ca (q:=2) (cs:=[aa.fz x1]) o rfl (by kernel_rfl)),.v 3 (bw (k:=.i64) (E:=aa) (l:=x1) dz e1),.v 4 (cY  (E:=aa) (l:=x1) h A3 e1 rfl),.w 6 e2] <| qq ?_
  obtain⟨v2,e3,H⟩:=aI H
  refine qr [.v 1 (show bl Tryd.prog h0 29 (.ptr dR 0)=some (af.fz x3.nodes) from ca (q:=5) (cs:=[af.fz x3.nodes,.int .i64 x3.root]) o0 rfl (by kernel_rfl)),.v 3 (bw (k:=.i64) (E:=af) (l:=x3.nodes) la e3),.v 4 (dw  (E:=af) (l:=x3.nodes) h0 tq tt e3)] <| qq ?_
  obtain⟨x5,e4,H⟩:=aI H
  obtain⟨aA,h1,e5,o1⟩:=fF (P:=Tryd.prog) (E:=af) (l:=x2.nodes) (q:=4) (t2:=29) (x:=.fz [.int .i64 v2.kind,.int .i64 v2.int,.str v2.label,.nils] 1 true) (l2:=([(ab.mk v2.kind v2.int v2.label ([]))])) la o0 rfl (by kernel_rfl) rfl e4
  obtain⟨h2,e6,o2⟩:=kD (P:=Tryd.prog) (t:=29) (off:=0) (q:=3) (cs:=[.rs eC 0 x2.nodes.length 4,.int .i64 x2.root]) (fm:=[.rs aA 0 x5.length 4,.int .i64 x2.root]) (x:=.rs aA 0 x5.length 4) o1 rfl (by kernel_rfl)
  refine qr [.v 1 (show bl Tryd.prog h0 29 (.ptr dA 0)=some (.rs eC 0 x2.nodes.length 4) from ca (q:=3) (cs:=[.rs eC 0 x2.nodes.length 4,.int .i64 x2.root]) o0 rfl (by kernel_rfl)),.a 10 e5,.w 12 e6] <| qq <| q0 ?_
  have o3:Has h2 (((0),.sl (([]:List Int).length) 1 (aa.l ([]:List Int)))::(bQ,.ob [.mp ep])::(ep,.mp (te (Fh x0 v1 (x2.nodes.length:Int))))::(dL,.ob [aa.fz x1])::(dA,.ob [.rs aA 0 x5.length 4,.int .i64 x2.root])::(aA,.sl x5.length 4 (af.l x5))::(dR,.ob [af.fz x3.nodes,.int .i64 x3.root])::(dH,.ob [.fn 68 [.ptr bQ 0,.ptr dL 0,.ptr dA 0,.ptr dR 0,.ptr dH 0]])::L):=Has.nil o2 1
  refine qq <| qq <| q0 <| qb 0 ?_
  obtain⟨bj,rL,H⟩:=aI H
  refine ql (aT.bI L bQ ep dL dA eC dR dH i0 x0 x1 x2 x3 v2  Gh  (([]:List Int),(0:Int),Fh x0 v1 (x2.nodes.length:Int),(ak.mk x5 x2.root)) _ _ ⟨(0),aA,h2,by kernel_rfl,o3⟩ rL) ?_
  rintro e s ⟨rfl,mj,Hy,Is,AR,rfl,g0,g1,g2,g3,g4,gP,gQ,h6,rfl,o7⟩
  try dsimp only at H
  refine qq ?_
  obtain⟨h7,rM,o8⟩:=iU (E:=aa) (l:=mj) (q:=0) o7 rfl
  obtain⟨v4,tJ,H⟩:=aI H
  obtain⟨h8,rN,o9⟩:=H5 (P:=Tryd.prog) (tf:=42) (E:=af) (l:=AR.nodes) (q:=4) (off:=3) (v:=(ab.mk v4.kind v4.int v4.label mj)) (x:=aa.fz mj) o8 rfl Vx tJ rfl rfl (by decide) rfl
  obtain rfl:=oi H
  exact zQ [.a 0 rM] [.v 1 (show bl Tryd.prog h7 29 (.ptr dA 0)=some (.rs gQ 0 AR.nodes.length 4) from ca (q:=3) (cs:=[.rs gQ 0 AR.nodes.length 4,.int .i64 AR.root]) o8 rfl (by kernel_rfl)),.v 4 (aE (k:=.i64) (E:=af) (l:=AR.nodes) (q:=4) la o8 rfl tJ),.w 6 rN] <| qq <| q0 <| qt <| ⟨.inl rfl,⟨gQ,by kernel_rfl,he (by have o:Has h8 ((bQ,.ob [.mp ep])::(ep,.mp (te Is))::(dL,.ob [aa.fz x1])::(dA,.ob [.rs gQ 0 AR.nodes.length 4,.int .i64 AR.root])::(gQ,.sl AR.nodes.length 4 (af.l (AR.nodes.set (x2.nodes.length:Int).toNat (ab.mk v4.kind v4.int v4.label mj))))::(dR,.ob [af.fz x3.nodes,.int .i64 x3.root])::(dH,.ob [.fn 68 [.ptr bQ 0,.ptr dL 0,.ptr dA 0,.ptr dR 0,.ptr dH 0]])::L):=o9; simpa only [XC] using o)⟩⟩
end
end Go.Proofs.YtmekcfdllhphlaaDoor
namespace Go.Proofs.YtmekcfdllhphlaaDoor
open Go Go.R
open Go.IntKind (i64 u64 u8 u32)
def Ck:cg:=gK [0,1,2,3,4,5,6] [2,4000005] [121,113,97,65,1,25,91,123] [] [(0,[(2,some 0,4)])]
def cy.f (m:Nat)(t0:ak):Option (ak):=(ax.f m t0.nodes).bind fun x0=>(aT.f m m t0.root ([]:List (Int × Int)) x0 (ak.mk ([]:List ab) (0:Int)) t0).bind fun x1=>some x1.2.2
def cy.fin (L:Mem)(r:ak)(s:St):Prop:=∃av,aH Tryd.prog (s.open Ck) Tryd.f47.results.toList=some av∧wX s.h av (.agg [af.fz r.nodes,.int .i64 r.root])
def TB (cf:CallF)(m:Nat):Prop:=∀(t0:ak) (r:ak),cy.f m t0=some r→∀h xs,lA xs [.agg [af.fz t0.nodes,.int .i64 t0.root]]→cf 47 xs h=some (.agg [af.fz r.nodes,.int .i64 r.root],h)
section
variable {cf:CallF}{m:Nat}
theorem rR {aU:FuncId→cg}(ha:aU 47=Ck)(QU:Tz cf m)(Gh:O7 cf m m)(t0:ak)(h:AHeap)(L:Mem)  (o:Has h (L)){out:ak}(H:cy.f m t0=some out) :
  ∃r h',bc Tryd.prog aU cf m 47 [.agg [af.fz t0.nodes,.int .i64 t0.root]] h=some (r,h')∧wX h' r (.agg [af.fz out.nodes,.int .i64 out.root]):=by
 refine aq (fn:=Tryd.f47) ha Tryd.func47 (by kernel_rfl) (by kernel_rfl) ?_
 refine aG (Q:=fun s=>cy.fin L out s) (fun _ _ h=>h) ?_
 have H:_=some out:=H
 unfold cy.f at H
 show de _ cf Ck m _ ⟨.agg [af.fz t0.nodes,.int .i64 t0.root]::BQ [],[none,none],h⟩ _
 refine qq ?_
 obtain⟨aA,h0,e0,o0⟩:=ki (cs:=[af.fz t0.nodes,.int .i64 t0.root]) o (by kernel_rfl)
 refine qr [.a 0 e0] ?_
 have o1:Has h0 (((0),.sl (([]:List ab).length) 4 (af.l ([]:List ab)))::(aA,.ob [af.fz t0.nodes,.int .i64 t0.root])::L):=Has.nil o0 4
 refine qq ?_
 obtain⟨x0,e1,H⟩:=aI H
 obtain⟨eS,h1,e2,o2⟩:=ki (cs:=[.nils]) o1 (by kernel_rfl)
 obtain⟨h2,e3,o3⟩:=kD (P:=Tryd.prog) (t:=42) (off:=0) (q:=0) (cs:=[.nils]) (fm:=[aa.fz x0]) (x:=aa.fz x0) o2 rfl (by kernel_rfl)
 refine qr [.v 1 (show bl Tryd.prog h0 29 (.ptr aA 0)=some (af.fz t0.nodes) from ca (q:=1) (cs:=[af.fz t0.nodes,.int .i64 t0.root]) o1 rfl (by kernel_rfl)),.a 2 (QU _ _ e1 h0 _ (hH (ae (db (E:=af)) (aC)))),.a 3 e2,.w 4 e3] <| qq ?_
 obtain⟨cF,h3,e4,o4⟩:=Fk o3
 obtain⟨fb,h4,e5,o5⟩:=ki (cs:=[.nq]) o4 (by kernel_rfl)
 obtain⟨h5,e6,o6⟩:=kD (P:=Tryd.prog) (t:=98) (off:=0) (q:=0) (cs:=[.nq]) (fm:=[.mp cF]) (x:=.mp cF) o5 rfl (by kernel_rfl)
 refine qr [.m 0 e4,.a 1 e5,.w 2 e6] <| qq ?_
 have o7:Has h5 ((((0)),.sl (([]:List ab).length) 4 (af.l ([]:List ab)))::(fb,.ob [.mp cF])::(cF,.mp (te ([]:List (Int × Int))))::(eS,.ob [aa.fz x0])::((0),.sl (([]:List ab).length) 4 (af.l ([]:List ab)))::(aA,.ob [af.fz t0.nodes,.int .i64 t0.root])::L):=Has.nil o6 4
 obtain⟨fS,h6,e7,o8⟩:=ki (cs:=[.rs ((0)) 0 (([]:List ab).length) 4,.int .i64 (0:Int)]) o7 (by kernel_rfl)
 refine qr [.a 0 e7] <| qq ?_
 obtain⟨gP,h7,e8,o9⟩:=ki (cs:=[.sr]) o8 (by kernel_rfl)
 refine qr [.a 0 e8] <| qq ?_
 obtain⟨h8,e9,tF⟩:=kD (P:=Tryd.prog) (t:=99) (off:=0) (q:=0) (cs:=[.sr]) (fm:=[.fn 68 [.ptr fb 0,.ptr eS 0,.ptr fS 0,.ptr aA 0,.ptr gP 0]]) (x:=.fn 68 [.ptr fb 0,.ptr eS 0,.ptr fS 0,.ptr aA 0,.ptr gP 0]) o9 rfl (by kernel_rfl)
 refine qr [.w 1 e9] <| qq ?_
 obtain⟨x1,nJ,H⟩:=aI H
 obtain⟨gQ,h9,qn,uw⟩:=Gh _ _ _ _ _ _ nJ h8 _ _ _ _ _ _ _ _ ((Has.front (Has.front (Has.front (Has.front (Has.front (Has.front (Has.front (Has.front tF 6 rfl) 1 rfl) 7 rfl) 4 rfl) 4 rfl) 7 rfl) 7 rfl) 7 rfl))  [.int .i64 t0.root,.ptr fb 0,.ptr eS 0,.ptr fS 0,.ptr aA 0,.ptr gP 0] (an (aP (bE)) (an (rfl) (an (rfl) (an (rfl) (an (rfl) (an (rfl) (bo)))))))
 refine qr [.v 0 (show bl Tryd.prog h8 99 (.ptr gP 0)=some (.fn 68 [.ptr fb 0,.ptr eS 0,.ptr fS 0,.ptr aA 0,.ptr gP 0]) from ca (q:=0) (cs:=[.fn 68 [.ptr fb 0,.ptr eS 0,.ptr fS 0,.ptr aA 0,.ptr gP 0]]) tF rfl (by kernel_rfl)),.v 2 (show bl Tryd.prog h8 3 (.ptr aA 1)=some (.int .i64 t0.root) from ca (q:=7) (cs:=[af.fz t0.nodes,.int .i64 t0.root]) tF rfl (by kernel_rfl)),.a 3 qn] ?_
 have oT:Has h9 ((fb,.ob [.mp cF])::(cF,.mp (te x1.2.1))::(eS,.ob [aa.fz x0])::(fS,.ob [.rs gQ 0 x1.2.2.nodes.length 4,.int .i64 x1.2.2.root])::(gQ,.sl x1.2.2.nodes.length 4 (af.l x1.2.2.nodes))::(aA,.ob [af.fz t0.nodes,.int .i64 t0.root])::((0),.sl (([]:List ab).length) 4 (af.l ([]:List ab)))::L):=Has.del uw 6
 have lB:Has h9 ((fb,.ob [.mp cF])::(cF,.mp (te x1.2.1))::(eS,.ob [aa.fz x0])::(fS,.ob [.rs gQ 0 x1.2.2.nodes.length 4,.int .i64 x1.2.2.root])::(gQ,.sl x1.2.2.nodes.length 4 (af.l x1.2.2.nodes))::((0),.sl (([]:List ab).length) 4 (af.l ([]:List ab)))::L):=Has.del oT 5
 have uQ:Has h9 ((fb,.ob [.mp cF])::(cF,.mp (te x1.2.1))::(fS,.ob [.rs gQ 0 x1.2.2.nodes.length 4,.int .i64 x1.2.2.root])::(gQ,.sl x1.2.2.nodes.length 4 (af.l x1.2.2.nodes))::((0),.sl (([]:List ab).length) 4 (af.l ([]:List ab)))::L):=Has.del lB 2
 have yP:Has h9 ((fb,.ob [.mp cF])::(fS,.ob [.rs gQ 0 x1.2.2.nodes.length 4,.int .i64 x1.2.2.root])::(gQ,.sl x1.2.2.nodes.length 4 (af.l x1.2.2.nodes))::((0),.sl (([]:List ab).length) 4 (af.l ([]:List ab)))::L):=Has.del uQ 1
 have lG:Has h9 ((fS,.ob [.rs gQ 0 x1.2.2.nodes.length 4,.int .i64 x1.2.2.root])::(gQ,.sl x1.2.2.nodes.length 4 (af.l x1.2.2.nodes))::((0),.sl (([]:List ab).length) 4 (af.l ([]:List ab)))::L):=Has.del yP 0
 refine qs [.v 0 (show bl Tryd.prog h9 31 (.ptr fS 0)=some (.agg [.rs gQ 0 x1.2.2.nodes.length 4,.int .i64 x1.2.2.root]) from ca (q:=0) (cs:=[.rs gQ 0 x1.2.2.nodes.length 4,.int .i64 x1.2.2.root]) lG rfl (by kernel_rfl))] ?_
 have zT:Has h9 ((fS,.ob [.rs gQ 0 x1.2.2.nodes.length 4,.int .i64 x1.2.2.root])::(gQ,.sl x1.2.2.nodes.length 4 (af.l x1.2.2.nodes))::L):=Has.del lG 2
 have DP:Has h9 ((gQ,.sl x1.2.2.nodes.length 4 (af.l x1.2.2.nodes))::L):=Has.del zT 0
 obtain rfl:=oi H
 exact qt <| ⟨.inl rfl,vD (.agg [.rs gQ 0 x1.2.2.nodes.length 4,.int .i64 x1.2.2.root]) h9 (pD (dy (ae (s9 (E:=af) (l:=x1.2.2.nodes) (q:=0) DP rfl (fun _=>rfl)) (ae (aO) (aC)))))⟩
end
end Go.Proofs.YtmekcfdllhphlaaDoor
