/- Part of the proof: Q29, Q47, Q48, Q63, Q49, Q30, PU1, PT13, Q43, Q27, Q44, Q28, PZ1, PU2. -/
import Derived.Test.YtmekcfdllhphlaaGreatDoorK12
set_option linter.unusedVariables false
set_option linter.unusedSimpArgs false
set_option maxRecDepth 100000
open BitVec renaming ofNat → abv, ofInt → abx, toNat_ofNat → acd
open ByteArray renaming mk → aaT
open Int renaming tdiv → abr, tmod_eq_emod_of_nonneg → abB, tmod → abE, tdiv_eq_ediv_of_nonneg → abX, fdiv_eq_ediv_of_nonneg → ach
open List renaming length_append → aaI, getElem?_eq_some_iff → aaK, getElem?_eq_getElem → aaL, append_assoc → aaM, mem_singleton → aaO, drop_eq_getElem_cons → aaP, mem_append → aaQ, length_cons → aaR, drop_eq_nil_of_le → aaU, cons_append → aa0, drop_zero → aa3, nil_append → aa5, length_nil → abg, append_nil → abu, length → ack
open Nat renaming le_refl → aaE, zero_add → aaZ, le_trans → abj, add_assoc → abl, mul_le_mul_right → abq, add_mul → abJ
open Option renaming bind_some → aaA
open Option.some renaming inj → aa2
open Or renaming inr → abD, inl → abM
namespace Go.Proofs.YtmekcfdllhphlaaGreatDoor
open Go Go.R
open Go.IntKind (i64 u64 u8 u32)
def EN:b9:=gm [0,1,2,3,6] [1,2] [25,9,19,19] [] []
def eW.f (m:Nat)(t0:ak):Option (ak × Int):=(cz.f m t0).bind fun x0=>if (!x0)=true then (some ((ak.mk ([]) (0:Int)),(2:Int))) else ((aq.f m t0.nodes t0.root).bind fun x1=>some (x1,(0:Int)))
def eW.fin (L:Mem)(r:ak × Int)(s:St):Prop:=∃av,aH Tryz.prog (s.open EN) Tryz.f29.results.toList=some av∧vm s.h av (.tup [.agg [ah.fz r.1.nodes,.int .i64 r.1.root],.int .i64 r.2])
def Rp (cf:CallF)(m:Nat):Prop:=∀(t0:ak) (r:ak × Int),eW.f m t0=some r→∀h xs,lh xs [.agg [ah.fz t0.nodes,.int .i64 t0.root]]→cf 29 xs h=some (.tup [.agg [ah.fz r.1.nodes,.int .i64 r.1.root],.int .i64 r.2],h)
section
variable {cf:CallF}{m:Nat}
theorem sH {aV:FuncId→b9}(ha:aV 29=EN)(UR:WQ cf m)(US:W7 cf m)(t0:ak)(h:AHeap)(L:Mem)  (o:Has h (L)){out:ak × Int}(H:eW.f m t0=some out) :
  ∃r h',bg Tryz.prog aV cf m 29 [.agg [ah.fz t0.nodes,.int .i64 t0.root]] h=some (r,h')∧vm h' r (.tup [.agg [ah.fz out.1.nodes,.int .i64 out.1.root],.int .i64 out.2]):=by
 refine aj (fn:=Tryz.f29) ha Tryz.func29 (by kernel_rfl) (by kernel_rfl) ?_
 refine aD (Q:=fun s=>eW.fin L out s) (fun _ _ h=>h) ?_
 have H:_=some out:=H
 unfold eW.f at H
 show dA _ cf EN m _ ⟨.agg [ah.fz t0.nodes,.int .i64 t0.root]::mT [],[none,none],h⟩ _
 refine q1 <| qq <| qq ?_
 obtain⟨x0,e0,H⟩:=aG H
 refine qr [.a 1 (UR _ _ e0 h _ (fT (ab (dJ (ab (bB (E:=ah)) (ab (aQ) (aA)))) (aA))))] <| qc H (fun c0 H=>?_) (fun c0 H=>?_)
 ·obtain rfl:=oi H
  exact q1 <| qt <| ⟨.inl rfl,oF (.tup [.agg [.nils,.int .i64 (0:Int)],.int .i64 (2:Int)]) h (lI (er (ab (dJ (ab (dV) (ab (aQ) (aA)))) (ab (aQ) (aA)))))⟩
 ·refine qk <| qq ?_
  obtain⟨x1,e1,H⟩:=aG H
  obtain rfl:=oi H
  exact qr [.a 4 (US _ _ _ e1 h _ (cb (gP (E:=ah)) (cb (bD) (fH))))] <| qt <| ⟨.inl rfl,oF (.tup [.agg [ah.fz x1.nodes,.int .i64 x1.root],.int .i64 (0:Int)]) h (lI (er (ab (dJ (ab (bB) (ab (aQ) (aA)))) (ab (aQ) (aA)))))⟩
end
end Go.Proofs.YtmekcfdllhphlaaGreatDoor
namespace Go.Proofs.YtmekcfdllhphlaaGreatDoor
open Go Go.R
open Go.IntKind (i64 u64 u8 u32)
def BC:b9:=gm [0,2,3,5] [] [14,10,2,10,10,13] [] [(1,[(3,none,1)])]
def bG.l0 (m:Nat)  : Nat→Int→(List Int)→Option (Int × (List Int))
 | 0,_,_=>none
 | k+1,n1,aF=>if (decide (n1≥(128:Int)))=true then ((app 1 aF ([u8.wrap (u64.wrap (abE n1 (128:Int)+(128:Int)))])).bind fun x0=>bG.l0 m k (u64.wrap (abr n1 (128:Int))) x0) else (some ((n1,aF)))
def bG.f (m:Nat)(n0:Int):Option ((List Int)):=(bG.l0 m m n0 ([]:List Int)).bind fun cw=>match cw with | (n2,bm)=>(app 1 bm ([u8.wrap n2])).bind fun x1=>some x1
def bG.fin (L:Mem)(n0:Int)(r:(List Int))(s:St):Prop:=∃mX:Nat,aH Tryz.prog (s.open BC) Tryz.f47.results.toList=some (.rs mX 0 r.length 1)∧Has s.h ((mX,.sl r.length 1 (af.l r))::L)
def Pa (cf:CallF)(m:Nat):Prop:=∀(n0:Int) (r:(List Int)),bG.f m n0=some r→∀h L,Has h (L)→∀xs,xs.map aC=[.int .u64 n0]→∃mX h',cf 47 xs h=some (.rs mX 0 r.length 1,h')∧Has h' ((mX,.sl r.length 1 (af.l r))::L)
section
variable {cf:CallF}{m:Nat}
theorem bG.bu (L:Mem)(n0:Int)   : bC Tryz.prog cf BC m (sub [1,1,0,0,0] (codeOf Tryz.f47)) (fun k (σ:Int × (List Int))=>bG.l0 m k σ.1 σ.2) (fun σ s=>match σ with | (n1,aF)=>∃az h0,s=⟨[.int .u64 n1,.any,.rs az 0 aF.length 1,.any],[],h0⟩∧Has h0 ((az,.sl aF.length 1 (af.l aF))::L)) (fun out e s=>(e = .exit 0∧∃n1 aF,(n1,aF)=out∧∃oK az h0,s=⟨[.int .u64 n1,.any,.rs az 0 aF.length 1,oK],[],h0⟩∧Has h0 ((az,.sl aF.length 1 (af.l aF))::L))):=by
 refine gk (fun _=>rfl) ?_
 rintro k ⟨n1,aF⟩ s out ⟨az,h0,rfl,o1⟩ H
 have H:bG.l0 m (k+1) n1 aF=some out:=H
 refine qq <| qq <| q0 <| qc H (fun c0 H=>?_) (fun c0 H=>?_)
 ·refine qk <| qb 1 <| qq ?_
  obtain⟨x0,e0,H⟩:=aG H
  obtain⟨dR,h1,e1,o2⟩:=cL (P:=Tryz.prog) (E:=af) (l:=aF) (q:=0) (t2:=22) (x:=.fz [.int .u8 (u8.wrap (u64.wrap (abE n1 (128:Int)+(128:Int))))] 1 true) (l2:=([u8.wrap (u64.wrap (abE n1 (128:Int)+(128:Int)))])) tg o1 rfl (by kernel_rfl) rfl e0
  exact qr [.a 6 e1] <| q0 <| ⟨(u64.wrap (abr n1 (128:Int)),x0),⟨dR,h1,by kernel_rfl,o2⟩,H⟩
 ·exact qx 0 <| ⟨rfl,n1,aF,oi H,.bool (decide (n1≥(128:Int))),az,h0,by kernel_rfl,o1⟩
theorem rr {aV:FuncId→b9}(ha:aV 47=BC)  (n0:Int)(h:AHeap)(L:Mem)  (o:Has h (L)){out:(List Int)}(H:bG.f m n0=some out) :
  ∃r h',bg Tryz.prog aV cf m 47 [.int .u64 n0] h=some (r,h')∧∃mX:Nat,r = .rs mX 0 out.length 1∧Has h' ((mX,.sl out.length 1 (af.l out))::L):=by
 refine aj (fn:=Tryz.f47) ha Tryz.func47 (by kernel_rfl) (by kernel_rfl) ?_
 refine aD (Q:=fun s=>bG.fin L n0 out s) (fun _ _ ⟨h1,mX,h2,h3⟩=>⟨h1,_,h2,mX,rfl,h3⟩) ?_
 have H:_=some out:=H
 unfold bG.f at H
 show dA _ cf BC m _ ⟨.int .u64 n0::jE [],[],h⟩ _
 refine q1 <| qq <| q0 ?_
 have o0:Has h (((0),.sl (([]:List Int).length) 1 (af.l ([]:List Int)))::L):=Has.nil o 1
 refine qq <| qb 0 ?_
 obtain⟨cw,e2,H⟩:=aG H
 refine ql (bG.bu L n0   (n0,([]:List Int)) _ _ ⟨(0),h,by kernel_rfl,o0⟩ e2) ?_
 rintro e s ⟨rfl,n2,bm,rfl,g0,cR,h2,rfl,o3⟩
 try dsimp only at H
 refine qq ?_
 obtain⟨x1,e3,H⟩:=aG H
 obtain⟨fc,h3,e4,o4⟩:=cL (P:=Tryz.prog) (E:=af) (l:=bm) (q:=0) (t2:=22) (x:=.fz [.int .u8 (u8.wrap n2)] 1 true) (l2:=([u8.wrap n2])) tg o3 rfl (by kernel_rfl) rfl e3
 obtain rfl:=oi H
 exact qr [.a 4 e4] <| qt <| ⟨.inl rfl,⟨fc,by kernel_rfl,he o4⟩⟩
end
end Go.Proofs.YtmekcfdllhphlaaGreatDoor
namespace Go.Proofs.YtmekcfdllhphlaaGreatDoor
open Go Go.R
open Go.IntKind (i64 u64 u8 u32)
def BD:b9:=gm [0,1,2,3,8,17] [1] [61,53,37,53,21,59,59] [] []
def cD.l0 (m:Nat)(t0:ak):Nat→Int→Option (Sum Bool (Int))
 | 0,_=>none
 | k+1,i0=>if (decide (i0<(t0.nodes.length:Int)))=true then ((ix t0.nodes i0).bind fun v0=>if (v0.kind==(4:Int))=true then (some (.inl true)) else (cD.l0 m t0 k (i64.wrap (i0+(1:Int))))) else (some (.inr i0))
def cD.f (m:Nat)(t0:ak):Option (Bool):=(cD.l0 m t0 m (0:Int)).bind fun aF=>match aF with | .inl r0=>some r0 | .inr i1=>some false
def cD.fin (L:Mem)(r:Bool)(s:St):Prop:=∃av,aH Tryz.prog (s.open BD) Tryz.f48.results.toList=some av∧gf s.h av (.bool r)
def UT (cf:CallF)(m:Nat):Prop:=∀(t0:ak) (r:Bool),cD.f m t0=some r→∀h xs,eR fh h xs [.agg [ah.fz t0.nodes,.int .i64 t0.root]]→cf 48 xs h=some (.bool r,h)
section
variable {cf:CallF}{m:Nat}
theorem cD.bu (L:Mem)(t0:ak)   : bC Tryz.prog cf BD m (sub [1,0,1,0,0] (codeOf Tryz.f48)) (fun k (σ:Int)=>cD.l0 m t0 k σ) (fun σ s=>match σ with | i0=>∃h0,s=⟨[.any,.lp 1 0,.any,.int .i64 i0,.any,.any],[some [ah.fz t0.nodes,.int .i64 t0.root]],h0⟩∧Has h0 (L)) (fun out e s=>(e = .exit 0∧∃i0,.inr i0=out∧∃qM tG pG Rb h0,s=⟨[.any,qM,.any,tG,pG,.any],[Rb],h0⟩∧Has h0 (L))∨(e = .ret∧∃r,.inl r=out∧cD.fin L r s)):=by
 refine gk (fun _=>rfl) ?_
 rintro k i0 s out ⟨h0,rfl,o0⟩ H
 have H:cD.l0 m t0 (k+1) i0=some out:=H
 refine qq <| qq <| q0 <| qc H (fun c0 H=>?_) (fun c0 H=>?_)
 ·refine qk <| qq <| qb 1 <| qq ?_
  obtain⟨v0,e0,H⟩:=aG H
  refine qr [.v 3 (bN (k:=.i64) (E:=ah) (l:=t0.nodes) mj e0),.v 5 (mE  (E:=ah) (l:=t0.nodes) (off:=0) h0 A3 e0 rfl)] <| qc H (fun c1 H=>?_) (fun c1 H=>?_)
  ·exact q1 <| qt <| abD (⟨rfl,_,oi H,cp (.bool true) h0 (cn (au))⟩)
  ·exact qk <| q0 <| ⟨i64.wrap (i0+(1:Int)),⟨h0,by kernel_rfl,o0⟩,H⟩
 ·exact qx 0 <| abM (⟨rfl,i0,oi H,.lp 1 0,.int .i64 i0,.bool (decide (i0<(t0.nodes.length:Int))),some [ah.fz t0.nodes,.int .i64 t0.root],h0,by kernel_rfl,o0⟩)
theorem sI {aV:FuncId→b9}(ha:aV 48=BD)  (t0:ak)(h:AHeap)(L:Mem)  (o:Has h (L)){out:Bool}(H:cD.f m t0=some out) :
  ∃r h',bg Tryz.prog aV cf m 48 [.agg [ah.fz t0.nodes,.int .i64 t0.root]] h=some (r,h')∧gf h' r (.bool out):=by
 refine aj (fn:=Tryz.f48) ha Tryz.func48 (by kernel_rfl) (by kernel_rfl) ?_
 refine aD (Q:=fun s=>cD.fin L out s) (fun _ _ h=>h) ?_
 have H:_=some out:=H
 unfold cD.f at H
 show dA _ cf BD m _ ⟨.agg [ah.fz t0.nodes,.int .i64 t0.root]::qF [],[none],h⟩ _
 refine q1 <| qq <| qq <| q0 <| qb 0 ?_
 obtain⟨aF,e1,H⟩:=aG H
 refine ql (cD.bu L t0   (0:Int) _ _ ⟨h,by kernel_rfl,o⟩ e1) ?_
 rintro e s (⟨rfl,i1,rfl,g0,g1,g2,g3,h1,rfl,o1⟩| ⟨rfl,r0,rfl,l8⟩)
 ·try dsimp only at H
  obtain rfl:=oi H
  exact q1 <| qt <| ⟨.inl rfl,cp (.bool false) h1 (cn (au))⟩
 ·try dsimp only at H
  obtain rfl:=oi H
  exact⟨.inl rfl,l8⟩
end
end Go.Proofs.YtmekcfdllhphlaaGreatDoor
namespace Go.Proofs.YtmekcfdllhphlaaGreatDoor
open Go Go.R
open Go.IntKind (i64 u64 u8 u32)
def EO:b9:=gm [0,2] [] [2,1] [] []
def gJ.f (m:Nat)(s0:ByteArray):Option ((List Int)):=(bG.f m (u64.wrap (s0.size:Int))).bind fun x0=>(app 1 x0 (cV s0)).bind fun x1=>some x1
def gJ.fin (L:Mem)(s0:ByteArray)(r:(List Int))(s:St):Prop:=∃mX:Nat,aH Tryz.prog (s.open EO) Tryz.f63.results.toList=some (.rs mX 0 r.length 1)∧Has s.h ((mX,.sl r.length 1 (af.l r))::L)
def W8 (cf:CallF)(m:Nat):Prop:=∀(s0:ByteArray) (r:(List Int)),gJ.f m s0=some r→∀h L,Has h (L)→∀xs,xs.map aC=[.str s0]→∃mX h',cf 63 xs h=some (.rs mX 0 r.length 1,h')∧Has h' ((mX,.sl r.length 1 (af.l r))::L)
section
variable {cf:CallF}{m:Nat}
theorem uc {aV:FuncId→b9}(ha:aV 63=EO)(ru:Pa cf m)(s0:ByteArray)(h:AHeap)(L:Mem)  (o:Has h (L)){out:(List Int)}(H:gJ.f m s0=some out) :
  ∃r h',bg Tryz.prog aV cf m 63 [.str s0] h=some (r,h')∧∃mX:Nat,r = .rs mX 0 out.length 1∧Has h' ((mX,.sl out.length 1 (af.l out))::L):=by
 refine aj (fn:=Tryz.f63) ha Tryz.func63 (by kernel_rfl) (by kernel_rfl) ?_
 refine aD (Q:=fun s=>gJ.fin L s0 out s) (fun _ _ ⟨h1,mX,h2,h3⟩=>⟨h1,_,h2,mX,rfl,h3⟩) ?_
 have H:_=some out:=H
 unfold gJ.f at H
 show dA _ cf EO m _ ⟨[.str s0,.any],[],h⟩ _
 refine q1 <| qq ?_
 obtain⟨x0,e0,H⟩:=aG H
 obtain⟨az,h0,e1,o0⟩:=ru _ _ e0 h _  (o)  [.int .u64 (u64.wrap (s0.size:Int))] (an (aP (bD)) (aT))
 obtain⟨x1,e2,H⟩:=aG H
 obtain⟨dR,h1,e3,o1⟩:=cL (P:=Tryz.prog) (E:=af) (l:=x0) (q:=0) (t2:=22) (x:=af.fz (cV s0)) (l2:=(cV s0)) tg o0 rfl (lX (E:=af) (l2:=(cV s0)) _) rfl e2
 obtain rfl:=oi H
 exact qr [.a 3 e1,.v 5 (show eu Tryz.prog h0 9 22 (.str s0)=some (af.fz (cV s0)) from HI (e:=5) rfl rfl rfl),.a 6 e3] <| qt <| ⟨.inl rfl,⟨dR,by kernel_rfl,he o1⟩⟩
end
end Go.Proofs.YtmekcfdllhphlaaGreatDoor
namespace Go.Proofs.YtmekcfdllhphlaaGreatDoor
open Go Go.R
open Go.IntKind (i64 u64 u8 u32)
def BE:b9:=gm [0,1,2,3,4,10,11,19,23,39,46,64] [1,8] [4093,4085,4053,3989,4087,3925,3829,4087,4087,3541,4087,3061,4085,4085,4069,2021,4069,4069,4091] [] []
def dj.l0 (m:Nat)(x0:ae):Nat→(List Int)→Int→Option ((List Int) × Int)
 | 0,_,_=>none
 | k+1,aF,i0=>if (decide (i0<(x0.args.length:Int)))=true then ((ix x0.args i0).bind fun v0=>(bG.f m (u64.wrap v0)).bind fun rH=>(app 1 aF rH).bind fun Mo=>dj.l0 m x0 k Mo (i64.wrap (i0+(1:Int)))) else (some ((aF,i0)))
def dj.f (m:Nat)(x0:ae):Option ((List Int)):=if (x0.kind==(0:Int))=true then ((bG.f m (u64.wrap x0.int)).bind fun x1=>(app 1 ([u8.wrap x0.kind]) x1).bind fun x2=>some x2) else (if (x0.kind==(1:Int))=true then (if (decide (x0.int<(0:Int)))=true then ((bG.f m (u64.wrap (i64.wrap (i64.wrap ((-2:Int)*x0.int) - (1:Int))))).bind fun x3=>(app 1 ([u8.wrap x0.kind]) x3).bind fun x4=>some x4) else ((bG.f m (u64.wrap (i64.wrap ((2:Int)*x0.int)))).bind fun x5=>(app 1 ([u8.wrap x0.kind]) x5).bind fun x6=>some x6)) else (if (x0.kind==(2:Int))=true then ((gJ.f m x0.label).bind fun x7=>(app 1 ([u8.wrap x0.kind]) x7).bind fun x8=>some x8) else (if (x0.kind==(3:Int))=true then ((gJ.f m x0.label).bind fun x9=>(app 1 ([u8.wrap x0.kind]) x9).bind fun jF=>(bG.f m (u64.wrap (x0.args.length:Int))).bind fun pQ=>(app 1 jF pQ).bind fun xh=>(dj.l0 m x0 m xh (0:Int)).bind fun cw=>match cw with | (bm,i1)=>some bm) else (some ([u8.wrap x0.kind])))))
def dj.fin (L:Mem)(x0:ae)(r:(List Int))(s:St):Prop:=∃mX:Nat,aH Tryz.prog (s.open BE) Tryz.f49.results.toList=some (.rs mX 0 r.length 1)∧Has s.h ((mX,.sl r.length 1 (af.l r))::L)
def Se (cf:CallF)(m:Nat):Prop:=∀(x0:ae) (r:(List Int)),dj.f m x0=some r→∀h L,Has h (L)→∀xs,xs.map aC=[.agg [.int .i64 x0.kind,.int .i64 x0.int,.str x0.label,aa.fz x0.args]]→∃mX h',cf 49 xs h=some (.rs mX 0 r.length 1,h')∧Has h' ((mX,.sl r.length 1 (af.l r))::L)
section
variable {cf:CallF}{m:Nat}
theorem dj.bu (L:Mem)(x0:ae)  (ru:Pa cf m):bC Tryz.prog cf BE m (sub [1,1,0,1,0,1,1,1,1,1,1,1,0,1,1,1,0,0] (codeOf Tryz.f49)) (fun k (σ:(List Int) × Int)=>dj.l0 m x0 k σ.1 σ.2) (fun σ s=>match σ with | (aF,i0)=>∃fP h13,s=⟨.any :: .lp 1 0 :: .any :: .rs fP 0 aF.length 1 :: .int .i64 i0::zY [],[some [.int .i64 x0.kind,.int .i64 x0.int,.str x0.label,aa.fz x0.args],none],h13⟩∧Has h13 ((fP,.sl aF.length 1 (af.l aF))::L)) (fun out e s=>(e = .exit 1∧∃aF i0,(aF,i0)=out∧∃qM zp UU Rb fP h13,s=⟨.any::qM :: .any :: .rs fP 0 aF.length 1::zp::zX [UU],[Rb,none],h13⟩∧Has h13 ((fP,.sl aF.length 1 (af.l aF))::L))):=by
 refine gk (fun _=>rfl) ?_
 rintro k ⟨aF,i0⟩ s out ⟨fP,h13,rfl,qV⟩ H
 have H:dj.l0 m x0 (k+1) aF i0=some out:=H
 refine qq <| qq <| q0 <| qc H (fun c5 H=>?_) (fun c5 H=>?_)
 ·refine qk <| qq <| qb 2 ?_
  obtain⟨v0,z8,H⟩:=aG H
  obtain⟨rH,C3,H⟩:=aG H
  obtain⟨iP,h14,El,Ew⟩:=ru _ _ C3 h13 _  (qV)  [.int .u64 (u64.wrap v0)] (an (aP (bD)) (aT))
  obtain⟨Mo,C1,H⟩:=aG H
  obtain⟨iB,h15,C2,uG⟩:=cL (P:=Tryz.prog) (E:=af) (l:=aF) (q:=1) (t2:=22) (x:=.rs iP 0 rH.length 1) (l2:=rH) tg Ew rfl (gj (E:=af) (l:=rH) (q:=0) Ew rfl) rfl C1
  refine qr [.v 4 (bN (k:=.i64) (E:=aa) (l:=x0.args) dK z8),.v 5 (dd  (E:=aa) (l:=x0.args) h13 A3 z8 rfl),.a 7 El,.a 8 C2] ?_
  have xi:Has h15 ((iB,.sl Mo.length 1 (af.l Mo))::L):=Has.del uG 0
  exact q0 <| ⟨(Mo,i64.wrap (i0+(1:Int))),⟨iB,h15,by kernel_rfl,xi⟩,H⟩
 ·exact qx 1 <| ⟨rfl,aF,i0,oi H,.lp 1 0,.int .i64 i0,.bool (decide (i0<(x0.args.length:Int))),some [.int .i64 x0.kind,.int .i64 x0.int,.str x0.label,aa.fz x0.args],fP,h13,by kernel_rfl,qV⟩
theorem ud {aV:FuncId→b9}(ha:aV 49=BE)(ru:Pa cf m)(Rq:W8 cf m)(x0:ae)(h:AHeap)(L:Mem)  (o:Has h (L)){out:(List Int)}(H:dj.f m x0=some out) :
  ∃r h',bg Tryz.prog aV cf m 49 [.agg [.int .i64 x0.kind,.int .i64 x0.int,.str x0.label,aa.fz x0.args]] h=some (r,h')∧∃mX:Nat,r = .rs mX 0 out.length 1∧Has h' ((mX,.sl out.length 1 (af.l out))::L):=by
 refine aj (fn:=Tryz.f49) ha Tryz.func49 (by kernel_rfl) (by kernel_rfl) ?_
 refine aD (Q:=fun s=>dj.fin L x0 out s) (fun _ _ ⟨h1,mX,h2,h3⟩=>⟨h1,_,h2,mX,rfl,h3⟩) ?_
 have H:_=some out:=H
 unfold dj.f at H
 show dA _ cf BE m _ ⟨.agg [.int .i64 x0.kind,.int .i64 x0.int,.str x0.label,aa.fz x0.args]::nE [],[none,none],h⟩ _
 refine q1 <| qq ?_
 obtain⟨az,h0,e0,o0⟩:=uA (E:=af) (l:=[u8.wrap x0.kind]) (cs:=[.int .u8 (u8.wrap x0.kind)]) o (by kernel_rfl)
 refine qr [.a 3 e0] <| qq <| qq <| q0 <| qb 0 <| qq <| q0 <| qc H (fun c0 H=>?_) (fun c0 H=>?_)
 ·obtain⟨x1,e1,H⟩:=aG H
  obtain⟨dR,h1,e2,o1⟩:=ru _ _ e1 h0 _  (o0)  [.int .u64 (u64.wrap x0.int)] (an (aP (bD)) (aT))
  obtain⟨x2,e3,H⟩:=aG H
  obtain⟨cR,h2,e4,o2⟩:=cL (P:=Tryz.prog) (E:=af) (l:=([u8.wrap x0.kind])) (q:=1) (t2:=22) (x:=.rs dR 0 x1.length 1) (l2:=x1) tg o1 rfl (gj (E:=af) (l:=x1) (q:=0) o1 rfl) rfl e3
  refine qr [.a 4 e2,.a 5 e4] ?_
  have o3:Has h2 ((cR,.sl x2.length 1 (af.l x2))::L):=Has.del o2 0
  obtain rfl:=oi H
  exact q1 <| qt <| ⟨.inl rfl,⟨cR,by kernel_rfl,he o3⟩⟩
 ·refine q1 <| qc H (fun c1 H=>?_) (fun c1 H=>?_)
  ·refine q1 <| qc H (fun c2 H=>?_) (fun c2 H=>?_)
   ·obtain⟨x3,e5,H⟩:=aG H
    obtain⟨fc,h3,e6,o4⟩:=ru _ _ e5 h0 _  (o0)  [.int .u64 (u64.wrap (i64.wrap (i64.wrap ((-2:Int)*x0.int) - (1:Int))))] (an (aP (bD)) (aT))
    obtain⟨x4,e7,H⟩:=aG H
    obtain⟨gY,h4,e8,o5⟩:=cL (P:=Tryz.prog) (E:=af) (l:=([u8.wrap x0.kind])) (q:=1) (t2:=22) (x:=.rs fc 0 x3.length 1) (l2:=x3) tg o4 rfl (gj (E:=af) (l:=x3) (q:=0) o4 rfl) rfl e7
    refine qr [.a 6 e6,.a 7 e8] ?_
    have o6:Has h4 ((gY,.sl x4.length 1 (af.l x4))::L):=Has.del o5 0
    obtain rfl:=oi H
    exact q1 <| qt <| ⟨.inl rfl,⟨gY,by kernel_rfl,he o6⟩⟩
   ·obtain⟨x5,e9,H⟩:=aG H
    obtain⟨gV,h5,lF,o7⟩:=ru _ _ e9 h0 _  (o0)  [.int .u64 (u64.wrap (i64.wrap ((2:Int)*x0.int)))] (an (aP (bD)) (aT))
    obtain⟨x6,nb,H⟩:=aG H
    obtain⟨fK,h6,nK,o8⟩:=cL (P:=Tryz.prog) (E:=af) (l:=([u8.wrap x0.kind])) (q:=1) (t2:=22) (x:=.rs gV 0 x5.length 1) (l2:=x5) tg o7 rfl (gj (E:=af) (l:=x5) (q:=0) o7 rfl) rfl nb
    refine qr [.a 5 lF,.a 6 nK] ?_
    have o9:Has h6 ((fK,.sl x6.length 1 (af.l x6))::L):=Has.del o8 0
    obtain rfl:=oi H
    exact q1 <| qt <| ⟨.inl rfl,⟨fK,by kernel_rfl,he o9⟩⟩
  ·refine q1 <| qc H (fun c3 H=>?_) (fun c3 H=>?_)
   ·obtain⟨x7,pa,H⟩:=aG H
    obtain⟨iX,h7,pc,oz⟩:=Rq _ _ pa h0 _  (o0)  [.str x0.label] (an (aP (pA)) (aT))
    obtain⟨x8,pb,H⟩:=aG H
    obtain⟨kP,h8,qU,sg⟩:=cL (P:=Tryz.prog) (E:=af) (l:=([u8.wrap x0.kind])) (q:=1) (t2:=22) (x:=.rs iX 0 x7.length 1) (l2:=x7) tg oz rfl (gj (E:=af) (l:=x7) (q:=0) oz rfl) rfl pb
    refine qr [.a 3 pc,.a 4 qU] ?_
    have oZ:Has h8 ((kP,.sl x8.length 1 (af.l x8))::L):=Has.del sg 0
    obtain rfl:=oi H
    exact q1 <| qt <| ⟨.inl rfl,⟨kP,by kernel_rfl,he oZ⟩⟩
   ·refine q1 <| qc H (fun c4 H=>?_) (fun c4 H=>?_)
    ·refine qq ?_
     obtain⟨x9,pP,H⟩:=aG H
     obtain⟨rG,h9,tO,kN⟩:=Rq _ _ pP h0 _  (o0)  [.str x0.label] (an (aP (pA)) (aT))
     obtain⟨jF,rF,H⟩:=aG H
     obtain⟨eS,h10,ye,tL⟩:=cL (P:=Tryz.prog) (E:=af) (l:=([u8.wrap x0.kind])) (q:=1) (t2:=22) (x:=.rs rG 0 x9.length 1) (l2:=x9) tg kN rfl (gj (E:=af) (l:=x9) (q:=0) kN rfl) rfl rF
     refine qr [.a 3 tO,.a 4 ye] ?_
     have qR:Has h10 ((eS,.sl jF.length 1 (af.l jF))::L):=Has.del tL 0
     refine qq ?_
     obtain⟨pQ,z7,H⟩:=aG H
     obtain⟨me,h11,zZ,kO⟩:=ru _ _ z7 h10 _  (qR)  [.int .u64 (u64.wrap (x0.args.length:Int))] (an (aP (bD)) (aT))
     obtain⟨xh,Bb,H⟩:=aG H
     obtain⟨fO,h12,z6,uF⟩:=cL (P:=Tryz.prog) (E:=af) (l:=jF) (q:=1) (t2:=22) (x:=.rs me 0 pQ.length 1) (l2:=pQ) tg kO rfl (gj (E:=af) (l:=pQ) (q:=0) kO rfl) rfl Bb
     refine qr [.a 5 zZ,.a 6 z6] ?_
     have yf:Has h12 ((fO,.sl xh.length 1 (af.l xh))::L):=Has.del uF 0
     refine q1 <| qb 1 ?_
     obtain⟨cw,Gd,H⟩:=aG H
     refine ql (dj.bu L x0  ru (xh,(0:Int)) _ _ ⟨fO,h12,by kernel_rfl,yf⟩ Gd) ?_
     rintro e s ⟨rfl,bm,i1,rfl,g0,g1,g2,g3,kX,h16,rfl,Bd⟩
     try dsimp only at H
     obtain rfl:=oi H
     exact q1 <| qt <| ⟨.inl rfl,⟨kX,by kernel_rfl,he Bd⟩⟩
    ·obtain rfl:=oi H
     exact qk <| qq <| q0 <| qt <| ⟨.inl rfl,⟨az,by kernel_rfl,he o0⟩⟩
end
end Go.Proofs.YtmekcfdllhphlaaGreatDoor
namespace Go.Proofs.YtmekcfdllhphlaaGreatDoor
open Go Go.R
open Go.IntKind (i64 u64 u8 u32)
def tm:b9:=gm [0,2,3,4,5,6,7,8,9,10,11,12,15,19,31,46,53,71,88,101] [6,36] [1048574,1044478,1048569,1048566,1048550,1040358,1048550,1048454,1032134,1048569,1048550,1048439,1048439,1048183,1015415,1048183,982647,1048569,1048183,1047671,916599,1047671,1047671,1047423,1045375,783231,1045375,1045375,1045375,524159,1048569,1048569] [] [(3,[(4,none,2)])]
def aS.l0 (m:Nat)(aZ:List ak):Nat→(List ak)→Int→Option (Sum ((List Int) × Int) ((List ak) × Int))
 | 0,_,_=>none
 | k+1,dN,i0=>if (decide (i0<(aZ.length:Int)))=true then ((ix aZ i0).bind fun v0=>(eW.f m v0).bind fun x0=>if (!(x0.2==(0:Int)))=true then (some (.inl ([],(2:Int)))) else ((app 32 dN ([x0.1])).bind fun x1=>aS.l0 m aZ k x1 (i64.wrap (i0+(1:Int))))) else (some (.inr (dN,i0)))
def aS.l2 (m:Nat)(bU:List ak)(i2:Int):Nat→(List Int)→Int→Option ((List Int) × Int)
 | 0,_,_=>none
 | k+1,cw,k0=>(ix bU i2).bind fun v3=>if (decide (k0<(v3.nodes.length:Int)))=true then ((ix bU i2).bind fun v4=>(ix v4.nodes k0).bind fun v5=>(dj.f m v5).bind fun x7=>(app 1 cw x7).bind fun x8=>aS.l2 m bU i2 k x8 (i64.wrap (k0+(1:Int)))) else (some ((cw,k0)))
def aS.l1 (m:Nat)(bU:List ak):Nat→(List Int)→Int→Option (Sum ((List Int) × Int) ((List Int) × Int))
 | 0,_,_=>none
 | k+1,bm,i2=>if (decide (i2<(bU.length:Int)))=true then ((ix bU i2).bind fun v1=>(cD.f m v1).bind fun x4=>if x4=true then (some (.inl ([],(4:Int)))) else ((ix bU i2).bind fun v2=>(bG.f m (u64.wrap (v2.nodes.length:Int))).bind fun x5=>(app 1 bm x5).bind fun x6=>(aS.l2 m bU i2 m x6 (0:Int)).bind fun cE=>match cE with | (jR,k1)=>aS.l1 m bU k jR (i64.wrap (i2+(1:Int))))) else (some (.inr (bm,i2)))
def aS.l3 (m:Nat)  : Nat→(List Int)→Int→Int→Option ((List Int) × Int × Int)
 | 0,_,_,_=>none
 | k+1,iO,c6,i4=>if (decide (i4<(4:Int)))=true then ((app 1 iO ([u8.wrap (abE c6 (256:Int))])).bind fun jF=>aS.l3 m k jF (i64.wrap (abr c6 (256:Int))) (i64.wrap (i4+(1:Int)))) else (some ((iO,c6,i4)))
def aS.f (m:Nat)(aZ:List ak):Option ((List Int) × Int):=if (decide ((aZ.length:Int) > (8:Int)))=true then (some ([],(3:Int))) else ((aS.l0 m aZ m ([]:List ak) (0:Int)).bind fun aF=>match aF with | .inl r1=>some r1 | .inr (bU,i1)=>(bG.f m (u64.wrap (bU.length:Int))).bind fun x2=>(app 1 ([(76:Int),(1:Int)]) x2).bind fun x3=>(aS.l1 m bU m x3 (0:Int)).bind fun gT=>match gT with | .inl r0=>some r0 | .inr (kW,i3)=>(bV.f m kW).bind fun x9=>(aS.l3 m m kW x9 (0:Int)).bind fun Dn=>match Dn with | (vV,c8,i5)=>if (decide ((vV.length:Int) > (200000:Int)))=true then (some ([],(3:Int))) else (some (vV,(0:Int))))
def aS.fin (L:Mem)(r:(List Int) × Int)(s:St):Prop:=∃av,aH Tryz.prog (s.open tm) Tryz.f30.results.toList=some av∧gf s.h av (.tup [af.fz r.1,.int .i64 r.2])
def W9 (cf:CallF)(m:Nat):Prop:=∀(aZ:List ak) (r:(List Int) × Int),aS.f m aZ=some r→∀h xs,eR fh h xs [aL.fz aZ]→cf 30 xs h=some (.tup [af.fz r.1,.int .i64 r.2],h)
section
variable {cf:CallF}{m:Nat}
theorem aS.bu (L:Mem)(aZ:List ak)  (Dp:Rp cf m):bC Tryz.prog cf tm m (sub [1,1,1,0,1,0,0] (codeOf Tryz.f30)) (fun k (σ:(List ak) × Int)=>aS.l0 m aZ k σ.1 σ.2) (fun σ s=>match σ with | (dN,i0)=>∃az h0,s=⟨aL.fz aZ :: .any :: .any :: .rs az 0 dN.length 2 :: .int .i64 i0::HQ [],[none,none],h0⟩∧Has h0 ((az,.sl dN.length 2 (aL.l dN))::L)) (fun out e s=>(e = .exit 0∧∃dN i0,.inr (dN,i0)=out∧∃kM oK Dj az h0,s=⟨kM :: .any :: .any :: .rs az 0 dN.length 2::oK::r9 (Dj::zX []),[none,none],h0⟩∧Has h0 ((az,.sl dN.length 2 (aL.l dN))::L))∨(e = .ret∧∃r,.inl r=out∧aS.fin L r s)):=by
 refine gk (fun _=>rfl) ?_
 rintro k ⟨dN,i0⟩ s out ⟨az,h0,rfl,o1⟩ H
 have H:aS.l0 m aZ (k+1) dN i0=some out:=H
 refine qq <| qq <| q0 <| qc H (fun c1 H=>?_) (fun c1 H=>?_)
 ·refine qk <| qq <| qb 1 <| qq ?_
  obtain⟨v0,e0,H⟩:=aG H
  obtain⟨x0,e1,H⟩:=aG H
  refine qr [.v 2 (bN (k:=.i64) (E:=aL) (l:=aZ) xZ e0),.v 3 (dI  (E:=aL) (l:=aZ) h0 J7 J8 e0),.a 4 (Dp _ _ e1 h0 _ (cb (pB (cb (gP (E:=ah)) (cb (bD) (fH)))) (fH)))] <| qq <| qq <| q0 <| qc H (fun c2 H=>?_) (fun c2 H=>?_)
  ·refine q1 ?_
   have o2:Has h0 (L):=Has.del o1 0
   exact qt <| abD (⟨rfl,_,oi H,cp (.tup [.nils,.int .i64 (2:Int)]) h0 (cn (kj (dQ (qC) (dQ (dB) (ki)))))⟩)
  ·refine qk ?_
   obtain⟨x1,e2,H⟩:=aG H
   obtain⟨dR,h1,e3,o3⟩:=cL (P:=Tryz.prog) (E:=aL) (l:=dN) (q:=0) (t2:=24) (x:=.fz [ah.fz x0.1.nodes,.int .i64 x0.1.root] 1 true) (l2:=([x0.1])) xZ o1 rfl (by kernel_rfl) rfl e2
   exact qr [.a 3 e3] <| q0 <| ⟨(x1,i64.wrap (i0+(1:Int))),⟨dR,h1,by kernel_rfl,o3⟩,H⟩
 ·exact qx 0 <| abM (⟨rfl,dN,i0,oi H,aL.fz aZ,.int .i64 i0,.bool (decide (i0<(aZ.length:Int))),az,h0,by kernel_rfl,o1⟩)
theorem aS.ma (L:Mem)(cR:Nat)(bU:List ak)(cR:Nat)(i2:Int)  (Je:Se cf m):bC Tryz.prog cf tm m (sub [1,1,1,1,1,1,0,1,0,0,1,0,0,1,1,1,0,0] (codeOf Tryz.f30)) (fun k (σ:(List Int) × Int)=>aS.l2 m bU i2 k σ.1 σ.2) (fun σ s=>match σ with | (cw,k0)=>∃rG h9,s=⟨jE (.rs cR 0 bU.length 2::jE (.rs rG 0 cw.length 1 :: .int .i64 i2 :: .int .i64 k0::xd [])),[none,none],h9⟩∧Has h9 ((rG,.sl cw.length 1 (af.l cw))::(cR,.sl bU.length 2 (aL.l bU))::L)) (fun out e s=>(e = .exit 4∧∃cw k0,(cw,k0)=out∧∃pE UW rG h9,s=⟨jE (.rs cR 0 bU.length 2::jE (.rs rG 0 cw.length 1 :: .int .i64 i2::pE::zY [UW,.any,.any])),[none,none],h9⟩∧Has h9 ((rG,.sl cw.length 1 (af.l cw))::(cR,.sl bU.length 2 (aL.l bU))::L))):=by
 refine gk (fun _=>rfl) ?_
 rintro k ⟨cw,k0⟩ s out ⟨rG,h9,rfl,qR⟩ H
 have H:aS.l2 m bU i2 (k+1) cw k0=some out:=H
 refine qq <| qq ?_
 obtain⟨v3,pP,H⟩:=aG H
 refine qr [.v 3 (aJ (k:=.i64) (E:=aL) (l:=bU) (q:=1) xZ qR rfl pP),.v 5 (ox  (E:=aL) (l:=bU) (q:=1) (off:=0) qR rfl OV pP rfl)] <| qc H (fun c5 H=>?_) (fun c5 H=>?_)
 ·refine qk <| qq <| qb 5 ?_
  obtain⟨v4,tO,H⟩:=aG H
  obtain⟨v5,rF,H⟩:=aG H
  obtain⟨x7,ye,H⟩:=aG H
  obtain⟨eS,h10,z7,kO⟩:=Je _ _ ye h9 _  (qR)  [.agg [.int .i64 v5.kind,.int .i64 v5.int,.str v5.label,aa.fz v5.args]] (an (aP (pB (cb (bD) (cb (bD) (cb (pA) (cb (gP (E:=aa)) (fH))))))) (aT))
  obtain⟨x8,zZ,H⟩:=aG H
  obtain⟨me,h11,Bb,uF⟩:=cL (P:=Tryz.prog) (E:=af) (l:=cw) (q:=1) (t2:=22) (x:=.rs eS 0 x7.length 1) (l2:=x7) tg kO rfl (gj (E:=af) (l:=x7) (q:=0) kO rfl) rfl zZ
  refine qr [.v 3 (aJ (k:=.i64) (E:=aL) (l:=bU) (q:=1) xZ qR rfl tO),.v 5 (ox  (E:=aL) (l:=bU) (q:=1) (off:=0) qR rfl OV tO rfl),.v 7 (bN (k:=.i64) (E:=ah) (l:=v4.nodes) mj rF),.v 8 (dI  (E:=ah) (l:=v4.nodes) h9 th ti rF),.a 9 z7,.a 10 Bb] ?_
  have yf:Has h11 ((me,.sl x8.length 1 (af.l x8))::(cR,.sl bU.length 2 (aL.l bU))::L):=Has.del uF 0
  exact q0 <| ⟨(x8,i64.wrap (k0+(1:Int))),⟨me,h11,by kernel_rfl,yf⟩,H⟩
 ·exact qx 4 <| ⟨rfl,cw,k0,oi H,.int .i64 k0,.bool (decide (k0<(v3.nodes.length:Int))),rG,h9,by kernel_rfl,qR⟩
theorem aS.eO (L:Mem)(cR:Nat)(bU:List ak)(cR:Nat)  (ru:Pa cf m)(Oh:UT cf m)(Je:Se cf m):bC Tryz.prog cf tm m (sub [1,1,1,1,1,1,0,1,0,0] (codeOf Tryz.f30)) (fun k (σ:(List Int) × Int)=>aS.l1 m bU k σ.1 σ.2) (fun σ s=>match σ with | (bm,i2)=>∃fK h6,s=⟨jE (.rs cR 0 bU.length 2::jE (.rs fK 0 bm.length 1 :: .int .i64 i2::nE [])),[none,none],h6⟩∧Has h6 ((fK,.sl bm.length 1 (af.l bm))::(cR,.sl bU.length 2 (aL.l bU))::L)) (fun out e s=>(e = .exit 2∧∃bm i2,.inr (bm,i2)=out∧∃zp qQ UX fK h6,s=⟨jE (zp::jE (.rs fK 0 bm.length 1::qQ::zX (UX::mT []))),[none,none],h6⟩∧Has h6 ((fK,.sl bm.length 1 (af.l bm))::(cR,.sl bU.length 2 (aL.l bU))::L))∨(e = .ret∧∃r,.inl r=out∧aS.fin L r s)):=by
 refine gk (fun _=>rfl) ?_
 rintro k ⟨bm,i2⟩ s out ⟨fK,h6,rfl,o9⟩ H
 have H:aS.l1 m bU (k+1) bm i2=some out:=H
 refine qq <| qq <| q0 <| qc H (fun c3 H=>?_) (fun c3 H=>?_)
 ·refine qk <| qq <| qb 3 <| qq <| qq ?_
  obtain⟨v1,lF,H⟩:=aG H
  obtain⟨x4,nb,H⟩:=aG H
  refine qr [.v 2 (aJ (k:=.i64) (E:=aL) (l:=bU) (q:=1) xZ o9 rfl lF),.v 3 (uy  (E:=aL) (l:=bU) (q:=1) o9 rfl J7 J8 lF),.a 4 (Oh _ _ nb h6 _ (fT (ab (dJ (ab (bB (E:=ah)) (ab (aQ) (aA)))) (aA))))] <| qc H (fun c4 H=>?_) (fun c4 H=>?_)
  ·refine q1 ?_
   have oz:Has h6 ((fK,.sl bm.length 1 (af.l bm))::L):=Has.del o9 1
   have sg:Has h6 (L):=Has.del oz 0
   exact qt <| abD (⟨rfl,_,oi H,cp (.tup [.nils,.int .i64 (4:Int)]) h6 (cn (kj (dQ (qC) (dQ (dB) (ki)))))⟩)
  ·refine qk <| qq ?_
   obtain⟨v2,nK,H⟩:=aG H
   obtain⟨x5,pa,H⟩:=aG H
   obtain⟨iX,h7,pc,oZ⟩:=ru _ _ pa h6 _  (o9)  [.int .u64 (u64.wrap (v2.nodes.length:Int))] (an (aP (bD)) (aT))
   obtain⟨x6,pb,H⟩:=aG H
   obtain⟨kP,h8,qU,kN⟩:=cL (P:=Tryz.prog) (E:=af) (l:=bm) (q:=1) (t2:=22) (x:=.rs iX 0 x5.length 1) (l2:=x5) tg oZ rfl (gj (E:=af) (l:=x5) (q:=0) oZ rfl) rfl pb
   refine qr [.v 3 (aJ (k:=.i64) (E:=aL) (l:=bU) (q:=1) xZ o9 rfl nK),.v 5 (ox  (E:=aL) (l:=bU) (q:=1) (off:=0) o9 rfl OV nK rfl),.a 8 pc,.a 9 qU] ?_
   have tL:Has h8 ((kP,.sl x6.length 1 (af.l x6))::(cR,.sl bU.length 2 (aL.l bU))::L):=Has.del kN 0
   refine q1 <| qb 4 ?_
   obtain⟨cE,z6,H⟩:=aG H
   refine ql (aS.ma L cR bU cR i2  Je (x6,(0:Int)) _ _ ⟨kP,h8,by kernel_rfl,tL⟩ z6) ?_
   rintro e s ⟨rfl,jR,k1,rfl,g3,g4,fO,h12,rfl,qV⟩
   try dsimp only at H
   exact q0 <| ⟨(jR,i64.wrap (i2+(1:Int))),⟨fO,h12,by kernel_rfl,qV⟩,H⟩
 ·exact qx 2 <| abM (⟨rfl,bm,i2,oi H,.rs cR 0 bU.length 2,.int .i64 i2,.bool (decide (i2<(bU.length:Int))),fK,h6,by kernel_rfl,o9⟩)
theorem aS.qT (L:Mem)    : bC Tryz.prog cf tm m (sub [1,1,1,1,1,1,1,1,0,1,0,0] (codeOf Tryz.f30)) (fun k (σ:(List Int) × Int × Int)=>aS.l3 m k σ.1 σ.2.1 σ.2.2) (fun σ s=>match σ with | (iO,c6,i4)=>∃iP h14,s=⟨zY (.rs iP 0 iO.length 1 :: .any :: .any :: .int .i64 c6 :: .int .i64 i4::r9 []),[none,none],h14⟩∧Has h14 ((iP,.sl iO.length 1 (af.l iO))::L)) (fun out e s=>(e = .exit 6∧∃iO c6 i4,(iO,c6,i4)=out∧∃zj Dk NX iP h14,s=⟨zY (.rs iP 0 iO.length 1 :: .any :: .any::zj::Dk::zX [NX,.any]),[none,none],h14⟩∧Has h14 ((iP,.sl iO.length 1 (af.l iO))::L))):=by
 refine gk (fun _=>rfl) ?_
 rintro k ⟨iO,c6,i4⟩ s out ⟨iP,h14,rfl,xi⟩ H
 have H:aS.l3 m (k+1) iO c6 i4=some out:=H
 refine qq <| qq <| q0 <| qc H (fun c7 H=>?_) (fun c7 H=>?_)
 ·refine qk <| qq <| qb 7 <| qq ?_
  obtain⟨jF,El,H⟩:=aG H
  obtain⟨iB,h15,C1,Bd⟩:=cL (P:=Tryz.prog) (E:=af) (l:=iO) (q:=0) (t2:=22) (x:=.fz [.int .u8 (u8.wrap (abE c6 (256:Int)))] 1 true) (l2:=([u8.wrap (abE c6 (256:Int))])) tg xi rfl (by kernel_rfl) rfl El
  exact qr [.a 5 C1] <| q0 <| q0 <| ⟨(jF,i64.wrap (abr c6 (256:Int)),i64.wrap (i4+(1:Int))),⟨iB,h15,by kernel_rfl,Bd⟩,H⟩
 ·exact qx 6 <| ⟨rfl,iO,c6,i4,oi H,.int .i64 c6,.int .i64 i4,.bool (decide (i4<(4:Int))),iP,h14,by kernel_rfl,xi⟩
theorem wH {aV:FuncId→b9}(ha:aV 30=tm)(Lp:Uz cf m)(Dp:Rp cf m)(ru:Pa cf m)(Oh:UT cf m)(Je:Se cf m)(aZ:List ak)(h:AHeap)(L:Mem)  (o:Has h (L)){out:(List Int) × Int}(H:aS.f m aZ=some out) :
  ∃r h',bg Tryz.prog aV cf m 30 [aL.fz aZ] h=some (r,h')∧gf h' r (.tup [af.fz out.1,.int .i64 out.2]):=by
 refine aj (fn:=Tryz.f30) ha Tryz.func30 (by kernel_rfl) (by kernel_rfl) ?_
 refine aD (Q:=fun s=>aS.fin L out s) (fun _ _ h=>h) ?_
 have H:_=some out:=H
 unfold aS.f at H
 show dA _ cf tm m _ ⟨aL.fz aZ::KN [],[none,none],h⟩ _
 refine q1 <| qq <| qq <| q0 <| qc H (fun c0 H=>?_) (fun c0 H=>?_)
 ·obtain rfl:=oi H
  exact q1 <| qt <| ⟨.inl rfl,cp (.tup [.nils,.int .i64 (3:Int)]) h (cn (kj (dQ (qC) (dQ (dB) (ki)))))⟩
 ·refine qk <| qq <| q0 ?_
  have o0:Has h (((0),.sl (([]:List ak).length) 2 (aL.l ([]:List ak)))::L):=Has.nil o 2
  refine qq <| qq <| q0 <| qb 0 ?_
  obtain⟨aF,e4,H⟩:=aG H
  refine ql (aS.bu L aZ  Dp (([]:List ak),(0:Int)) _ _ ⟨(0),h,by kernel_rfl,o0⟩ e4) ?_
  rintro e s (⟨rfl,bU,i1,rfl,g0,g1,g2,cR,h2,rfl,o4⟩| ⟨rfl,r1,rfl,Q4⟩)
  ·try dsimp only at H
   refine qq ?_
   obtain⟨fc,h3,e5,o5⟩:=uA (E:=af) (l:=[(76:Int),(1:Int)]) (cs:=[.int .u8 (76:Int),.int .u8 (1:Int)]) o4 (by kernel_rfl)
   refine qr [.a 0 e5] <| qq ?_
   obtain⟨x2,e6,H⟩:=aG H
   obtain⟨gY,h4,e7,o6⟩:=ru _ _ e6 h3 _  (o5)  [.int .u64 (u64.wrap (bU.length:Int))] (an (aP (bD)) (aT))
   obtain⟨x3,e8,H⟩:=aG H
   obtain⟨gV,h5,e9,o7⟩:=cL (P:=Tryz.prog) (E:=af) (l:=([(76:Int),(1:Int)])) (q:=1) (t2:=22) (x:=.rs gY 0 x2.length 1) (l2:=x2) tg o6 rfl (gj (E:=af) (l:=x2) (q:=0) o6 rfl) rfl e8
   refine qr [.a 4 e7,.a 5 e9] ?_
   have o8:Has h5 ((gV,.sl x3.length 1 (af.l x3))::(cR,.sl bU.length 2 (aL.l bU))::L):=Has.del o7 0
   refine qq <| qq <| q0 <| qb 2 ?_
   obtain⟨gT,z8,H⟩:=aG H
   refine ql (aS.eO L cR bU cR  ru Oh Je (x3,(0:Int)) _ _ ⟨gV,h5,by kernel_rfl,o8⟩ z8) ?_
   rintro e s (⟨rfl,kW,i3,rfl,g5,g6,g7,fP,h13,rfl,Ew⟩| ⟨rfl,r0,rfl,l8⟩)
   ·try dsimp only at H
    refine qq ?_
    obtain⟨x9,C3,H⟩:=aG H
    refine qr [.a 1 (Lp _ _ C3 h13 _ (fT (ab (mS (E:=af) (l:=kW) (q:=0) Ew rfl (fun _=>rfl)) (aA))))] ?_
    have uG:Has h13 ((fP,.sl kW.length 1 (af.l kW))::L):=Has.del Ew 1
    refine qq <| qq <| q0 <| qb 6 ?_
    obtain⟨Dn,C2,H⟩:=aG H
    refine ql (aS.qT L    (kW,x9,(0:Int)) _ _ ⟨fP,h13,by kernel_rfl,uG⟩ C2) ?_
    rintro e s ⟨rfl,vV,c8,i5,rfl,g8,g9,g10,kX,h16,rfl,Gg⟩
    try dsimp only at H
    refine qq <| qq <| q0 <| qc H (fun c9 H=>?_) (fun c9 H=>?_)
    ·refine q1 ?_
     have O2:Has h16 (L):=Has.del Gg 0
     obtain rfl:=oi H
     exact qt <| ⟨.inl rfl,cp (.tup [.nils,.int .i64 (3:Int)]) h16 (cn (kj (dQ (qC) (dQ (dB) (ki)))))⟩
    ·obtain rfl:=oi H
     exact qk <| qq <| q0 <| qt <| ⟨.inl rfl,cp (.tup [.rs kX 0 vV.length 1,.int .i64 (0:Int)]) h16 (cn (kj (dQ (vn (E:=af) (l:=vV) (q:=0) Gg rfl (fun _=>rfl)) (dQ (dB) (ki)))))⟩
   ·try dsimp only at H
    obtain rfl:=oi H
    exact⟨.inl rfl,l8⟩
  ·try dsimp only at H
   obtain rfl:=oi H
   exact⟨.inl rfl,Q4⟩
end
end Go.Proofs.YtmekcfdllhphlaaGreatDoor
namespace Go.Proofs.YtmekcfdllhphlaaGreatDoor
open Go Go.R
open Go.IntKind (i64 u64 u8 u32)
theorem nU {a b:List Int}(h:a.length+b.length≤500000000000):app 1 a b=some (a++b):=by unfold app; rw [if_pos (by omega)]
theorem Mp {m:Nat}:∀(k f n:Nat) (out:List Int),k<f→n<128 ^ (k+1)→n<2 ^ 64→out.length+k≤400000000000→
  ∃(n':Nat) (jI:List Int),bG.l0 m f (n:Int) out=some ((n':Int),jI)∧n'<128∧jI++[(n':Int)]=out++bX n
 | k,0,n,out,hf,_,_,_=>absurd hf (by omega)
 | k,f+1,n,out,hf,hn,h64,hl=>by
  have Le:(2:Nat) ^ 64=18446744073709551616:=by decide
  unfold bG.l0
  by_cases h:n<128
  ·rw [if_neg (by simp only [ge_iff_le,decide_eq_true_eq]; omega)]
   exact⟨n,out,rfl,h,by rw [iq h]⟩
  ·cases k with
   | zero=>simp at hn; omega
   | succ k=>
    have hd:n / 128<128 ^ (k+1):=Nat.div_lt_of_lt_mul (by rw [Nat.mul_comm,←Nat.pow_succ]; exact hn)
    have e1:abE (n:Int) 128=((n % 128:Nat):Int):=by rw [abB (by omega)]; omega
    have e2:abr (n:Int) 128=((n / 128:Nat):Int):=by rw [abX (by omega)]; omega
    obtain⟨n',jI,k1,k2,k3⟩:=Mp (m:=m) k f (n / 128) (out++[((n % 128+128:Nat):Int)]) (by omega) hd (by omega) (by simp; omega)
    refine⟨n',jI,?_,k2,?_⟩
    ·rw [if_pos (by simp only [ge_iff_le,decide_eq_true_eq]; omega),e1,e2,dW (x:=((n % 128:Nat):Int)+128) (by omega) (by omega),dW (x:=((n / 128:Nat):Int)) (by omega) (by omega),hU,
      show (((n % 128:Nat):Int)+128) % 256=((n % 128+128:Nat):Int) by omega,nU (by simp; omega),aaA,k1]
    ·rw [k3,ka h]; simp
theorem rn {m n:Nat}(hm:11≤m)(hn:n<2 ^ 64):bG.f m (n:Int)=some (bX n):=by
 have Le:(2:Nat) ^ 64=18446744073709551616:=by decide
 obtain⟨n',jI,k1,k2,k3⟩:=Mp (m:=m) 9 m n [] (by omega) (by omega) hn (by simp)
 unfold bG.f
 rw [k1,aaA]
 dsimp only
 have hlen:=congrArg ack k3
 simp only [aaI,aaR,abg,aaZ] at hlen
 have:=di hn
 rw [hU,show (n':Int) % 256=(n':Int) by omega,nU (by simp; omega),k3]
 rfl
theorem Xa {m:Nat}(hm:11≤m){s:ByteArray}(h:s.size≤16):gJ.f m s=some (encS s):=by
 unfold gJ.f encS
 have:=di (n:=s.size) (by
   have:(2:Nat) ^ 64=18446744073709551616:=by decide
   omega)
 have h2:=fQ s
 rw [dW (by omega) (by omega),rn hm (by
   have:(2:Nat) ^ 64=18446744073709551616:=by decide
   omega),aaA,nU (by omega)]
 rfl
theorem Jf {m:Nat}(hm:11≤m){n:ae}(h8:n.args.length≤8)(ha:∀a∈n.args,0≤a∧a<2 ^ 63):∀(f i:Nat) (out:List Int),n.args.length - i<f→i≤n.args.length→out.length+10*(n.args.length - i)≤400000000000→
  ∃x,dj.l0 m n f out (i:Int)=some (out++((n.args.drop i).map fun a=>bX a.toNat).flatten,x)
 | 0,i,out,hf,_,_=>absurd hf (by omega)
 | f+1,i,out,hf,hi,hl=>by
  have Le:(2:Nat) ^ 64=18446744073709551616:=by decide
  have i63:(2:Int) ^ 63=9223372036854775808:=by decide
  unfold dj.l0
  by_cases h:i<n.args.length
  ·obtain⟨a0,a1⟩:=ha _ (a8 h)
   have hD:n.args.drop i=gt n.args i::n.args.drop (i+1):=by
    obtain⟨h4,h5⟩:=aaK.1 (bL h)
    rw [←h5]; exact aaP h4
   have e1:u64.wrap (gt n.args i)=((gt n.args i).toNat:Int):=by rw [dW (by omega) (by omega)]; omega
   have Uy:=di (n:=(gt n.args i).toNat) (by omega)
   obtain⟨x,ih⟩:=Jf hm h8 ha f (i+1) (out++bX (gt n.args i).toNat) (by omega) (by omega) (by simp; omega)
   refine⟨x,?_⟩
   rw [if_pos (by simp only [decide_eq_true_eq]; omega),db h,aaA,e1,rn hm (by omega),aaA,nU (by omega),aaA,ay (by omega) (by omega),show (i:Int)+1=((i+1:Nat):Int) by omega,ih,hD]
   simp
  ·refine⟨(i:Int),?_⟩
   rw [if_neg (by simp only [decide_eq_true_eq]; omega),aaU (by omega)]; simp
theorem Oi {m:Nat}(hm:11≤m){n:ae}(W:nQ n)(T:EK n):dj.f m n=some (bY n):=by
 have Le:(2:Nat) ^ 64=18446744073709551616:=by decide
 have i63:(2:Int) ^ 63=9223372036854775808:=by decide
 have i62:(2:Int) ^ 62=4611686018427387904:=by decide
 have hlen:=nS W T
 have hk:u8.wrap n.kind=n.kind:=by rw [hU]; rcases W.kind with h | h | h | h<;>(have:=h.1; omega)
 unfold dj.f bY
 unfold bY at hlen
 rw [hk]
 rcases W.kind with⟨a,⟨b,b'⟩,_,_⟩| ⟨a,⟨b,b'⟩,_,_⟩| ⟨a,_⟩| ⟨a,_⟩
 ·rw [if_pos (by simpa using a),if_pos a]
  rw [if_pos a] at hlen
  have e1:u64.wrap n.int=(n.int.toNat:Int):=by rw [dW (by omega) (by omega)]; omega
  simp only [aaR] at hlen
  rw [e1,rn hm (by omega),aaA,nU (by simp; omega)]
  rfl
 ·rw [if_neg (by simp; omega),if_pos (by simpa using a),if_neg (show ¬n.kind=0 by omega),if_pos a]
  rw [if_neg (show ¬n.kind=0 by omega),if_pos a] at hlen
  simp only [aaR] at hlen
  have hz:=wj b b'
  have hb : -1099511627776≤n.int∧n.int≤1099511627776:=by
   rcases T.kind with h | h | h | h | h
   ·have:=h.1; omega
   ·exact h.2.1
   ·have:=h.1; omega
   ·have:=h.1; omega
   ·have:=h.1; omega
  have ED:(2:Nat) ^ 63=9223372036854775808:=by decide
  by_cases Dq:n.int<0
  ·have e1:u64.wrap (i64.wrap (i64.wrap ((-2:Int)*n.int) - 1))=(rf n.int:Int):=by
    rw [ay (x:=(-2:Int)*n.int) (by omega) (by omega),ay (x:=(-2:Int)*n.int - 1) (by omega) (by omega),dW (x:=(-2:Int)*n.int - 1) (by omega) (by omega)]
    unfold rf; rw [if_pos Dq]; omega
   rw [if_pos (by simpa using Dq),e1,rn hm (by omega),aaA,nU (by simp; omega)]
   rfl
  ·have e1:u64.wrap (i64.wrap ((2:Int)*n.int))=(rf n.int:Int):=by
    rw [ay (x:=(2:Int)*n.int) (by omega) (by omega),dW (x:=(2:Int)*n.int) (by omega) (by omega)]
    unfold rf; rw [if_neg Dq]; omega
   rw [if_neg (by simpa using Dq),e1,rn hm (by omega),aaA,nU (by simp; omega)]
   rfl
 ·have hs:=T.label (.inl a)
  rw [if_neg (by simp; omega),if_neg (by simp; omega),if_pos (by simpa using a),if_neg (show ¬n.kind=0 by omega),if_neg (show ¬n.kind=1 by omega),if_pos a]
  rw [if_neg (show ¬n.kind=0 by omega),if_neg (show ¬n.kind=1 by omega),if_pos a] at hlen
  simp only [aaR] at hlen
  rw [Xa hm hs.2,aaA,nU (by simp; omega)]
  rfl
 ·have hs:=T.label (.inr a)
  rw [if_neg (by simp; omega),if_neg (by simp; omega),if_neg (by simp; omega),if_pos (by simpa using a),if_neg (show ¬n.kind=0 by omega),if_neg (show ¬n.kind=1 by omega),if_neg (show ¬n.kind=2 by omega)]
  rw [if_neg (show ¬n.kind=0 by omega),if_neg (show ¬n.kind=1 by omega),if_neg (show ¬n.kind=2 by omega)] at hlen
  simp only [aaR,aaI] at hlen
  have h8:=W.args.1
  obtain⟨x,q1⟩:=Jf (m:=m) hm h8 W.args.2 m 0 ([n.kind]++encS n.label++bX n.args.length) (by omega) (by omega) (by simp; omega)
  have q1:dj.l0 m n m ([n.kind]++encS n.label++bX n.args.length) 0=_:=q1
  rw [aa3] at q1
  rw [Xa hm hs.2,aaA,nU (by simp; omega),aaA,dW (x:=(n.args.length:Int)) (by omega) (by omega),rn hm (by omega),aaA,nU (by simp; omega),aaA,q1]
  simp
end Go.Proofs.YtmekcfdllhphlaaGreatDoor
namespace Go.Proofs.YtmekcfdllhphlaaGreatDoor
open Go Go.R
open Go.IntKind (i64 u64 u8 u32)
def mu (r:eA):Nat:=r.bO.length+if r.aK=true then 0 else 1
theorem Jg {m:Nat}(hm:2 ^ 30≤m)(x3:Int × eA):∀(f:Nat) (k0:Int) (t0:List ae) (t1:Int) (r:eA),Bytes r.bO→r.bO.length≤200000→mu r<f→t0.length+mu r≤300000→(∀n∈t0,n.kind=0→n.int<2 ^ 63)→
  ∃k t2 ob,aO.l1 m x3 f k0 t0 t1 r=some (k,t2,t1,ob)∧Bytes ob.bO∧ob.bO.length≤r.bO.length∧∀n∈t2,n.kind=0→n.int<2 ^ 63
 | 0,k0,t0,t1,r,_,_,hf,_,_=>absurd hf (by omega)
 | f+1,k0,t0,t1,r,hb,hl,hf,ht,hn=>by
  have kV:(2:Nat) ^ 30=1073741824:=by decide
  unfold aO.l1
  split
  ·split
   ·rename_i g
    obtain⟨n,r',h1,h2,h3,h4,h5⟩:=Gp (m:=m) (by omega) r hb hl
    have Oj:r.aK=false:=by simpa using g
    have UY:mu r=r.bO.length+1:=by unfold mu; rw [Oj]; rfl
    have Y2:mu r'<mu r∧r'.bO.length≤r.bO.length:=by
     by_cases e:r.bO=[]
     ·obtain⟨e1,e2⟩:=h3 e
      have:mu r'=0:=by unfold mu; rw [e1,e2]; rfl
      rw [e2]; exact⟨by omega,by simp⟩
     ·have:=h4 e
      have:mu r'≤r'.bO.length+1:=by unfold mu; split<;>omega
      omega
    have jf:app 56 t0 [n]=some (t0++[n]):=by unfold app; rw [if_pos (by simp; omega)]
    rw [h1,aaA]
    dsimp only
    rw [jf,aaA]
    obtain⟨k,t2,ob,k1,k2,k3,k4⟩:=Jg hm x3 f (i64.wrap (k0+1)) (t0++[n]) t1 r' h2 (by omega) (by omega) (by simp; omega) (fun x hx=>by
     rcases aaQ.1 hx with hx | hx
     ·exact hn x hx
     ·simp only [aaO] at hx; subst hx; exact h5)
    exact⟨k,t2,ob,k1,k2,by omega,k4⟩
   ·exact⟨_,_,_,rfl,hb,aaE _,hn⟩
  ·exact⟨_,_,_,rfl,hb,aaE _,hn⟩
theorem Jh {m:Nat}(hm:2 ^ 30≤m)(x2:Int × eA):∀(f i:Nat) (acc:List ak) (r:eA),8 - i<f→i≤8→acc.length≤i→Bytes r.bO→r.bO.length≤200000→(∀t∈acc,Ab t)→
  ∃l x ob,aO.l0 m x2 f acc (i:Int) r=some (l,x,ob)∧∀t∈l,Ab t
 | 0,i,acc,r,hf,_,_,_,_,_=>absurd hf (by omega)
 | f+1,i,acc,r,hf,hi,ha,hb,hl,ht=>by
  have kV:(2:Nat) ^ 30=1073741824:=by decide
  unfold aO.l0
  split
  rotate_left
  ·exact⟨_,_,_,rfl,ht⟩
  rename_i g1
  split
  rotate_left
  ·exact⟨_,_,_,rfl,ht⟩
  split
  rotate_left
  ·exact⟨_,_,_,rfl,ht⟩
  rename_i g2 g3
  simp only [decide_eq_true_eq] at g1 g3
  obtain⟨n,r1,h1,_,hb1,Nn⟩:=ji (m:=m) (by omega) r hb
  have UY:mu r1≤200001:=by unfold mu; split<;>omega
  obtain⟨k,t2,ob,h2,hb2,J3,PO⟩:=Jg (m:=m) hm ((n:Int),r1) m 0 [] 0 r1 hb1 (by omega) (by omega) (by simp; omega) (fun n hn=>by cases hn)
  have jf:app 32 acc [(⟨t2,0⟩:ak)]=some (acc++[⟨t2,0⟩]):=by unfold app; rw [if_pos (by simp; omega)]
  rw [h1,aaA]
  dsimp only
  rw [h2,aaA]
  dsimp only
  rw [jf,aaA,ay (by omega) (by omega),show (i:Int)+1=((i+1:Nat):Int) by omega]
  refine Jh hm x2 f (i+1) _ ob (by omega) (by omega) (by simp; omega) hb2 (by omega) fun t h=>?_
  rcases aaQ.1 h with h | h
  ·exact ht t h
  ·simp only [aaO] at h; subst h; exact PO
theorem mi {b:List Int}{lo hi:Int}(h:0≤lo∧lo≤hi∧hi≤b.length):kU b lo hi=some ((b.drop lo.toNat).take (hi.toNat - lo.toNat)):=by unfold kU; rw [if_pos h]
theorem Bytes.sub {b:List Int}(h:Bytes b)(p q:Nat):Bytes ((b.drop p).take q):=fun x hx=>h x (List.mem_of_mem_drop (List.mem_of_mem_take hx))
theorem EP {m:Nat}(hm:2 ^ 41≤m){b:List Int}(hb:Bytes b):∃r,aO.f m b=some r∧∀t∈r.1,Ab t:=by
 have kV:(2:Nat) ^ 30=1073741824:=by decide
 have mZ:(2:Nat) ^ 40=1099511627776:=by decide
 have qO:(2:Nat) ^ 41=2199023255552:=by decide
 have nil:∀e:Int,∃r,(some (([]:List ak),e))=some r∧∀t∈r.1,Ab t:=fun e=>⟨_,rfl,fun t h=>by cases h⟩
 unfold aO.f
 split
 ·exact nil 3
 split
 ·exact nil 2
 rename_i g1 g2
 simp only [decide_eq_true_eq] at g1 g2
 have e4:i64.wrap ((b.length:Int) - 4)=(b.length:Int) - 4:=ay (by omega) (by omega)
 rw [e4,mi ⟨by omega,by omega,by omega⟩,aaA]
 obtain⟨c,hc⟩:=yq (m:=m) (by omega) (b:=(b.drop (0:Int).toNat).take (((b.length:Int) - 4).toNat - (0:Int).toNat)) (by simp; omega) (by simp; omega)
 rw [hc,aaA,mi ⟨by omega,by omega,by omega⟩,aaA]
 have hE:∀x y:List Int,dt.f m x y=some ((bQ x).data.toList==(bQ y).data.toList):=fun x y=>rfl
 rw [hE,aaA]
 split
 ·exact nil 2
 rw [mi ⟨by omega,by omega,by omega⟩,aaA]
 obtain⟨n,r1,h1,_,hb1,Nn⟩:=ji (m:=m) (by omega) ⟨(b.drop (2:Int).toNat).take (((b.length:Int) - 4).toNat - (2:Int).toNat),false⟩ (hb.sub _ _)
 obtain⟨l,x,ob,h2,ho⟩:=Jh (m:=m) (by omega) ((n:Int),r1) m 0 [] r1 (by omega) (by omega) (by simp) hb1 (by simp at Nn; omega) (fun t h=>by cases h)
 have h2:aO.l0 m ((n:Int),r1) m [] 0 r1=_:=h2
 rw [h1,aaA,h2,aaA]
 dsimp only
 split
 ·exact nil 2
 split
 ·exact nil 2
 obtain⟨⟨p,e⟩,h3⟩:=Lm hm ho
 rw [h3,aaA]
 dsimp only
 split
 ·exact nil 2
 rw [hE,aaA]
 split
 ·exact nil 2
 ·exact⟨_,rfl,ho⟩
end Go.Proofs.YtmekcfdllhphlaaGreatDoor
namespace Go.Proofs.YtmekcfdllhphlaaGreatDoor
open Go Go.R
open Go.IntKind (i64 u64 u8 u32)
def ER:b9:=gm [0,2,12] [] [6,2,7,5,6,5] [] []
def b7.f (m:Nat)(t0:ao):Option (Int × ao):=if (decide (t0.dw≥(t0.bO.length:Int)))=true then (some ((0:Int),(ao.mk t0.bO t0.dw true))) else ((ix t0.bO (i64.wrap (i64.wrap (t0.dw+(1:Int)) - (1:Int)))).bind fun v0=>some (v0,(ao.mk t0.bO (i64.wrap (t0.dw+(1:Int))) t0.aK)))
def b7.fin (L:Mem)(az:Nat)(t0:ao)(r:Int × ao)(s:St):Prop:=aH Tryz.prog (s.open ER) Tryz.f43.results.toList=some (.int .u8 r.1)∧Has s.h ((az,.ob [af.fz r.2.bO,.int .i64 r.2.dw,.bool r.2.aK])::L)
def Pb (cf:CallF)(m:Nat):Prop:=∀(t0:ao) (r:Int × ao),b7.f m t0=some r→∀h L (az:Nat),Has h ((az,.ob [af.fz t0.bO,.int .i64 t0.dw,.bool t0.aK])::L)→∀xs,xs.map aC=[.ptr az 0]→∃h',cf 43 xs h=some (.int .u8 r.1,h')∧Has h' ((az,.ob [af.fz r.2.bO,.int .i64 r.2.dw,.bool r.2.aK])::L)
section
variable {cf:CallF}{m:Nat}
theorem nV {aV:FuncId→b9}(ha:aV 43=ER)  (t0:ao)(h:AHeap)(L:Mem)(az:Nat)  (o:Has h ((az,.ob [af.fz t0.bO,.int .i64 t0.dw,.bool t0.aK])::L)){out:Int × ao}(H:b7.f m t0=some out) :
  ∃r h',bg Tryz.prog aV cf m 43 [.ptr az 0] h=some (r,h')∧r = .int .u8 out.1∧Has h' ((az,.ob [af.fz out.2.bO,.int .i64 out.2.dw,.bool out.2.aK])::L):=by
 refine aj (fn:=Tryz.f43) ha Tryz.func43 (by kernel_rfl) (by kernel_rfl) ?_
 refine aD (Q:=fun s=>b7.fin L az t0 out s) (fun _ _ ⟨h1,h2,h3⟩=>⟨h1,_,h2,rfl,h3⟩) ?_
 have H:_=some out:=H
 unfold b7.f at H
 show dA _ cf ER m _ ⟨[.ptr az 0,.any,.any],[],h⟩ _
 refine q1 <| qq <| qq <| qr [.v 3 (show bp Tryz.prog h 3 (.ptr az 1)=some (.int .i64 t0.dw) from cg (q:=0) (cs:=[af.fz t0.bO,.int .i64 t0.dw,.bool t0.aK]) o rfl (by kernel_rfl)),.v 7 (show bp Tryz.prog h 22 (.ptr az 0)=some (af.fz t0.bO) from cg (q:=0) (cs:=[af.fz t0.bO,.int .i64 t0.dw,.bool t0.aK]) o rfl (by kernel_rfl))] <| qc H (fun c0 H=>?_) (fun c0 H=>?_)
 ·refine qq ?_
  obtain⟨h0,e0,o0⟩:=jx (P:=Tryz.prog) (t:=4) (off:=2) (q:=0) (cs:=[af.fz t0.bO,.int .i64 t0.dw,.bool t0.aK]) (fU:=[af.fz t0.bO,.int .i64 t0.dw,.bool true]) (x:=.bool true) o rfl (by kernel_rfl)
  obtain rfl:=oi H
  exact qr [.w 3 e0] <| qq <| q0 <| qt <| ⟨.inl rfl,⟨by kernel_rfl,he o0⟩⟩
 ·refine qk <| qq ?_
  obtain⟨h1,e1,o1⟩:=jx (P:=Tryz.prog) (t:=3) (off:=1) (q:=0) (cs:=[af.fz t0.bO,.int .i64 t0.dw,.bool t0.aK]) (fU:=[af.fz t0.bO,.int .i64 (i64.wrap (t0.dw+(1:Int))),.bool t0.aK]) (x:=.int .i64 (i64.wrap (t0.dw+(1:Int)))) o rfl (by kernel_rfl)
  refine qr [.v 3 (show bp Tryz.prog h 3 (.ptr az 1)=some (.int .i64 t0.dw) from cg (q:=0) (cs:=[af.fz t0.bO,.int .i64 t0.dw,.bool t0.aK]) o rfl (by kernel_rfl)),.w 7 e1] <| qq ?_
  obtain⟨v0,e2,H⟩:=aG H
  obtain rfl:=oi H
  exact qr [.v 3 (show bp Tryz.prog h1 22 (.ptr az 0)=some (af.fz t0.bO) from cg (q:=0) (cs:=[af.fz t0.bO,.int .i64 (i64.wrap (t0.dw+(1:Int))),.bool t0.aK]) o1 rfl (by kernel_rfl)),.v 7 (show bp Tryz.prog h1 3 (.ptr az 1)=some (.int .i64 (i64.wrap (t0.dw+(1:Int)))) from cg (q:=0) (cs:=[af.fz t0.bO,.int .i64 (i64.wrap (t0.dw+(1:Int))),.bool t0.aK]) o1 rfl (by kernel_rfl)),.v 9 (bN (k:=.i64) (E:=af) (l:=t0.bO) tg e2),.v 10 (dd  (E:=af) (l:=t0.bO) h1 A5 e2 rfl)] <| qt <| ⟨.inl rfl,⟨by kernel_rfl,he o1⟩⟩
end
end Go.Proofs.YtmekcfdllhphlaaGreatDoor
namespace Go.Proofs.YtmekcfdllhphlaaGreatDoor
open Go Go.R
open Go.IntKind (i64 u64 u8 u32)
def BF:b9:=gm [0,2,3,4,5,7,21] [] [126,122,114,82,114,98,98,50,125,127,125] [] []
def aB.l0 (m:Nat)  : Nat→Int→Int→ao→Option (Sum (Int × ao) (Int × Int × ao))
 | 0,_,_,_=>none
 | k+1,n0,k0,t1=>if (decide (k0<(9:Int)))=true then ((b7.f m t1).bind fun x0=>(r7 .u64 (u64.wrap (abE x0.1 (128:Int))) (i64.wrap ((7:Int)*k0))).bind fun v0=>if (decide (x0.1<(128:Int)))=true then (some (.inl (i64.wrap (u64.wrap (n0+v0)),x0.2))) else (aB.l0 m k (u64.wrap (n0+v0)) (i64.wrap (k0+(1:Int))) x0.2)) else (some (.inr (n0,k0,t1)))
def aB.f (m:Nat)(t0:ao):Option (Int × ao):=(aB.l0 m m (0:Int) (0:Int) t0).bind fun aF=>match aF with | .inl r0=>some r0 | .inr (n1,k1,t2)=>some ((0:Int),(ao.mk t2.bO t2.dw true))
def aB.fin (L:Mem)(az:Nat)(t0:ao)(r:Int × ao)(s:St):Prop:=aH Tryz.prog (s.open BF) Tryz.f27.results.toList=some (.int .i64 r.1)∧Has s.h ((az,.ob [af.fz r.2.bO,.int .i64 r.2.dw,.bool r.2.aK])::L)
def Pc (cf:CallF)(m:Nat):Prop:=∀(t0:ao) (r:Int × ao),aB.f m t0=some r→∀h L (az:Nat),Has h ((az,.ob [af.fz t0.bO,.int .i64 t0.dw,.bool t0.aK])::L)→∀xs,xs.map aC=[.ptr az 0]→∃h',cf 27 xs h=some (.int .i64 r.1,h')∧Has h' ((az,.ob [af.fz r.2.bO,.int .i64 r.2.dw,.bool r.2.aK])::L)
section
variable {cf:CallF}{m:Nat}
theorem aB.bu (L:Mem)(az:Nat)(t0:ao)  (zM:Pb cf m):bC Tryz.prog cf BF m (sub [1,1,0,1,0,0] (codeOf Tryz.f27)) (fun k (σ:Int × Int × ao)=>aB.l0 m k σ.1 σ.2.1 σ.2.2) (fun σ s=>match σ with | (n0,k0,t1)=>∃h0,s=⟨.ptr az 0 :: .any :: .int .u64 n0 :: .int .i64 k0::jE [],[],h0⟩∧Has h0 ((az,.ob [af.fz t1.bO,.int .i64 t1.dw,.bool t1.aK])::L)) (fun out e s=>(e = .exit 0∧∃n0 k0 t1,.inr (n0,k0,t1)=out∧∃tG zp se h0,s=⟨[.ptr az 0,.any,tG,zp,.any,se,.any],[],h0⟩∧Has h0 ((az,.ob [af.fz t1.bO,.int .i64 t1.dw,.bool t1.aK])::L))∨(e = .ret∧∃r,.inl r=out∧aB.fin L az t0 r s)):=by
 refine gk (fun _=>rfl) ?_
 rintro k ⟨n0,k0,t1⟩ s out ⟨h0,rfl,o0⟩ H
 have H:aB.l0 m (k+1) n0 k0 t1=some out:=H
 refine qq <| qq <| q0 <| qc H (fun c0 H=>?_) (fun c0 H=>?_)
 ·refine qk <| qq <| qb 1 <| qq ?_
  obtain⟨x0,e0,H⟩:=aG H
  obtain⟨h1,e1,o1⟩:=zM _ _ e0 h0 _ _ (o0)  [.ptr az 0] (an (rfl) (aT))
  refine qr [.a 1 e1] <| qq ?_
  obtain⟨v0,e2,H⟩:=aG H
  refine qr [.v 6 (show ml Tryz.prog .shl 40 (.int .u64 (u64.wrap (abE x0.1 (128:Int)))) (.int .i64 (i64.wrap ((7:Int)*k0)))=some (.int .u64 v0) from CQ e2)] <| qq <| q0 <| qc H (fun c1 H=>?_) (fun c1 H=>?_)
  ·exact q1 <| qt <| abD (⟨rfl,_,oi H,⟨by kernel_rfl,he o1⟩⟩)
  ·exact qk <| q0 <| ⟨(u64.wrap (n0+v0),i64.wrap (k0+(1:Int)),x0.2),⟨h1,by kernel_rfl,o1⟩,H⟩
 ·exact qx 0 <| abM (⟨rfl,n0,k0,t1,oi H,.int .u64 n0,.int .i64 k0,.bool (decide (k0<(9:Int))),h0,by kernel_rfl,o0⟩)
theorem mM {aV:FuncId→b9}(ha:aV 27=BF)(zM:Pb cf m)(t0:ao)(h:AHeap)(L:Mem)(az:Nat)  (o:Has h ((az,.ob [af.fz t0.bO,.int .i64 t0.dw,.bool t0.aK])::L)){out:Int × ao}(H:aB.f m t0=some out) :
  ∃r h',bg Tryz.prog aV cf m 27 [.ptr az 0] h=some (r,h')∧r = .int .i64 out.1∧Has h' ((az,.ob [af.fz out.2.bO,.int .i64 out.2.dw,.bool out.2.aK])::L):=by
 refine aj (fn:=Tryz.f27) ha Tryz.func27 (by kernel_rfl) (by kernel_rfl) ?_
 refine aD (Q:=fun s=>aB.fin L az t0 out s) (fun _ _ ⟨h1,h2,h3⟩=>⟨h1,_,h2,rfl,h3⟩) ?_
 have H:_=some out:=H
 unfold aB.f at H
 show dA _ cf BF m _ ⟨.ptr az 0::zX [],[],h⟩ _
 refine q1 <| qq <| q0 <| qq <| qq <| q0 <| qb 0 ?_
 obtain⟨aF,e3,H⟩:=aG H
 refine ql (aB.bu L az t0  zM ((0:Int),(0:Int),t0) _ _ ⟨h,by kernel_rfl,o⟩ e3) ?_
 rintro e s (⟨rfl,n1,k1,t2,rfl,g0,g1,g2,h2,rfl,o2⟩| ⟨rfl,r0,rfl,l8⟩)
 ·try dsimp only at H
  refine qq ?_
  obtain⟨h3,e4,o3⟩:=jx (P:=Tryz.prog) (t:=4) (off:=2) (q:=0) (cs:=[af.fz t2.bO,.int .i64 t2.dw,.bool t2.aK]) (fU:=[af.fz t2.bO,.int .i64 t2.dw,.bool true]) (x:=.bool true) o2 rfl (by kernel_rfl)
  obtain rfl:=oi H
  exact qr [.w 3 e4] <| qq <| q0 <| qt <| ⟨.inl rfl,⟨by kernel_rfl,he o3⟩⟩
 ·try dsimp only at H
  obtain rfl:=oi H
  exact⟨.inl rfl,l8⟩
end
end Go.Proofs.YtmekcfdllhphlaaGreatDoor
namespace Go.Proofs.YtmekcfdllhphlaaGreatDoor
open Go Go.R
open Go.IntKind (i64 u64 u8 u32)
def BG:b9:=gm [0,2,3,4,5,9,15] [] [126,122,90,127,125,114,98,34,98,98,125] [] [(5,[(4,none,1)])]
def a7.l0 (m:Nat)(x0:Int × ao):Nat→(List Int)→Int→ao→Option ((List Int) × Int × ao)
 | 0,_,_,_=>none
 | k+1,aF,i0,t1=>if (decide (i0<x0.1))=true then ((b7.f m t1).bind fun x1=>(app 1 aF ([x1.1])).bind fun x2=>a7.l0 m x0 k x2 (i64.wrap (i0+(1:Int))) x1.2) else (some ((aF,i0,t1)))
def a7.f (m:Nat)(t0:ao):Option (ByteArray × ao):=(aB.f m t0).bind fun x0=>if (decide (x0.1 > (16:Int)))=true then (some ((aaT #[]),(ao.mk x0.2.bO x0.2.dw true))) else ((a7.l0 m x0 m ([]:List Int) (0:Int) x0.2).bind fun cw=>match cw with | (bm,i1,t2)=>some (bQ bm,t2))
def a7.fin (L:Mem)(az:Nat)(t0:ao)(r:ByteArray × ao)(s:St):Prop:=aH Tryz.prog (s.open BG) Tryz.f44.results.toList=some (.str r.1)∧Has s.h ((az,.ob [af.fz r.2.bO,.int .i64 r.2.dw,.bool r.2.aK])::L)
def Xb (cf:CallF)(m:Nat):Prop:=∀(t0:ao) (r:ByteArray × ao),a7.f m t0=some r→∀h L (az:Nat),Has h ((az,.ob [af.fz t0.bO,.int .i64 t0.dw,.bool t0.aK])::L)→∀xs,xs.map aC=[.ptr az 0]→∃h',cf 44 xs h=some (.str r.1,h')∧Has h' ((az,.ob [af.fz r.2.bO,.int .i64 r.2.dw,.bool r.2.aK])::L)
section
variable {cf:CallF}{m:Nat}
theorem a7.bu (L:Mem)(az:Nat)(t0:ao)(x0:Int × ao)  (zM:Pb cf m):bC Tryz.prog cf BG m (sub [1,1,1,1,0,1,0,0] (codeOf Tryz.f44)) (fun k (σ:(List Int) × Int × ao)=>a7.l0 m x0 k σ.1 σ.2.1 σ.2.2) (fun σ s=>match σ with | (aF,i0,t1)=>∃dR h2,s=⟨[.ptr az 0,.any,.int .i64 x0.1,.rs dR 0 aF.length 1,.int .i64 i0,.any,.any],[],h2⟩∧Has h2 ((dR,.sl aF.length 1 (af.l aF))::(az,.ob [af.fz t1.bO,.int .i64 t1.dw,.bool t1.aK])::L)) (fun out e s=>(e = .exit 0∧∃aF i0 t1,(aF,i0,t1)=out∧∃kM tG oK sk dR h2,s=⟨[kM,.any,tG,.rs dR 0 aF.length 1,oK,.any,sk],[],h2⟩∧Has h2 ((dR,.sl aF.length 1 (af.l aF))::(az,.ob [af.fz t1.bO,.int .i64 t1.dw,.bool t1.aK])::L))):=by
 refine gk (fun _=>rfl) ?_
 rintro k ⟨aF,i0,t1⟩ s out ⟨dR,h2,rfl,o3⟩ H
 have H:a7.l0 m x0 (k+1) aF i0 t1=some out:=H
 refine qq <| qq <| q0 <| qc H (fun c1 H=>?_) (fun c1 H=>?_)
 ·refine qk <| qq <| qb 1 ?_
  obtain⟨x1,e3,H⟩:=aG H
  obtain⟨h3,e4,o4⟩:=zM _ _ e3 h2 _ _ ((Has.front (Has.front o3 0 rfl) 1 rfl))  [.ptr az 0] (an (rfl) (aT))
  obtain⟨x2,e5,H⟩:=aG H
  obtain⟨cR,h4,e6,o5⟩:=cL (P:=Tryz.prog) (E:=af) (l:=aF) (q:=1) (t2:=22) (x:=.fz [.int .u8 x1.1] 1 true) (l2:=([x1.1])) tg o4 rfl (by kernel_rfl) rfl e5
  exact qr [.a 2 e4,.a 4 e6] <| q0 <| ⟨(x2,i64.wrap (i0+(1:Int)),x1.2),⟨cR,h4,by kernel_rfl,(Has.front (Has.front o5 0 rfl) 1 rfl)⟩,H⟩
 ·exact qx 0 <| ⟨rfl,aF,i0,t1,oi H,.ptr az 0,.int .i64 x0.1,.int .i64 i0,.bool (decide (i0<x0.1)),dR,h2,by kernel_rfl,o3⟩
theorem nW {aV:FuncId→b9}(ha:aV 44=BG)(sJ:Pc cf m)(zM:Pb cf m)(t0:ao)(h:AHeap)(L:Mem)(az:Nat)  (o:Has h ((az,.ob [af.fz t0.bO,.int .i64 t0.dw,.bool t0.aK])::L)){out:ByteArray × ao}(H:a7.f m t0=some out) :
  ∃r h',bg Tryz.prog aV cf m 44 [.ptr az 0] h=some (r,h')∧r = .str out.1∧Has h' ((az,.ob [af.fz out.2.bO,.int .i64 out.2.dw,.bool out.2.aK])::L):=by
 refine aj (fn:=Tryz.f44) ha Tryz.func44 (by kernel_rfl) (by kernel_rfl) ?_
 refine aD (Q:=fun s=>a7.fin L az t0 out s) (fun _ _ ⟨h1,h2,h3⟩=>⟨h1,_,h2,rfl,h3⟩) ?_
 have H:_=some out:=H
 unfold a7.f at H
 show dA _ cf BG m _ ⟨.ptr az 0::zX [],[],h⟩ _
 refine q1 <| qq ?_
 obtain⟨x0,e0,H⟩:=aG H
 obtain⟨h0,e1,o0⟩:=sJ _ _ e0 h _ _ (o)  [.ptr az 0] (an (rfl) (aT))
 refine qr [.a 1 e1] <| qq <| qq <| q0 <| qc H (fun c0 H=>?_) (fun c0 H=>?_)
 ·refine qq ?_
  obtain⟨h1,e2,o1⟩:=jx (P:=Tryz.prog) (t:=4) (off:=2) (q:=0) (cs:=[af.fz x0.2.bO,.int .i64 x0.2.dw,.bool x0.2.aK]) (fU:=[af.fz x0.2.bO,.int .i64 x0.2.dw,.bool true]) (x:=.bool true) o0 rfl (by kernel_rfl)
  obtain rfl:=oi H
  exact qr [.w 3 e2] <| qq <| q0 <| qt <| ⟨.inl rfl,⟨by kernel_rfl,he o1⟩⟩
 ·refine qk <| qq <| q0 ?_
  have o2:Has h0 (((0),.sl (([]:List Int).length) 1 (af.l ([]:List Int)))::(az,.ob [af.fz x0.2.bO,.int .i64 x0.2.dw,.bool x0.2.aK])::L):=Has.nil o0 1
  refine qq <| qq <| q0 <| qb 0 ?_
  obtain⟨cw,e7,H⟩:=aG H
  refine ql (a7.bu L az t0 x0  zM (([]:List Int),(0:Int),x0.2) _ _ ⟨(0),h0,by kernel_rfl,o2⟩ e7) ?_
  rintro e s ⟨rfl,bm,i1,t2,rfl,g0,g1,g2,g3,fc,h5,rfl,o6⟩
  try dsimp only at H
  refine qs [.v 1 (show eu Tryz.prog h5 22 9 (.rs fc 0 bm.length 1)=some (.str (bQ bm)) from nD (e:=5) (l:=bm) rfl rfl rfl (Nl (q:=0) o6 rfl))] ?_
  have o7:Has h5 ((az,.ob [af.fz t2.bO,.int .i64 t2.dw,.bool t2.aK])::L):=Has.del o6 0
  obtain rfl:=oi H
  exact qt <| ⟨.inl rfl,⟨by kernel_rfl,he o7⟩⟩
end
end Go.Proofs.YtmekcfdllhphlaaGreatDoor
namespace Go.Proofs.YtmekcfdllhphlaaGreatDoor
open Go Go.R
open Go.IntKind (i64 u64 u8 u32)
def BH:b9:=gm [0,2,3,4,5,6,12,16,21,30,36,41,49,56] [2,3] [16380,16376,16312,16377,16184,16377,16056,16369,16369,15865,16377,15288,16377,14328,16376,16360,12264,16377,16381,16328,8136,16328,16328,16381] [(18,[(3,some 3,0)]),(23,[(3,some 3,0)])] [(1,[(3,some 3,1)])]
def aU.l0 (m:Nat)(x5:Int × ao):Nat→Int→Int→Int→ByteArray→(List Int)→ao→Option (Int × Int × Int × ByteArray × (List Int) × ao)
 | 0,_,_,_,_,_,_=>none
 | k+1,i0,x6,x7,x8,x9,t1=>if (decide (i0<x5.1))=true then ((aB.f m t1).bind fun jF=>(app 8 x9 ([jF.1])).bind fun pQ=>aU.l0 m x5 k (i64.wrap (i0+(1:Int))) x6 x7 x8 pQ jF.2) else (some ((i0,x6,x7,x8,x9,t1)))
def aU.f (m:Nat)(t0:ao):Option (ae × ao):=(b7.f m t0).bind fun x0=>if ((i64.wrap x0.1)==(0:Int))=true then ((aB.f m x0.2).bind fun x1=>some ((ae.mk (i64.wrap x0.1) x1.1 (aaT #[]) ([]:List Int)),x1.2)) else (if ((i64.wrap x0.1)==(1:Int))=true then ((aB.f m x0.2).bind fun x2=>if ((abE x2.1 (2:Int))==(1:Int))=true then (some ((ae.mk (i64.wrap x0.1) (i64.wrap (i64.wrap (0 - (i64.wrap (abr x2.1 (2:Int)))) - (1:Int))) (aaT #[]) ([]:List Int)),x2.2)) else (some ((ae.mk (i64.wrap x0.1) (i64.wrap (abr x2.1 (2:Int))) (aaT #[]) ([]:List Int)),x2.2))) else (if ((i64.wrap x0.1)==(2:Int))=true then ((a7.f m x0.2).bind fun x3=>some ((ae.mk (i64.wrap x0.1) (0:Int) x3.1 ([]:List Int)),x3.2)) else (if ((i64.wrap x0.1)==(3:Int))=true then ((a7.f m x0.2).bind fun x4=>(aB.f m x4.2).bind fun x5=>if (decide (x5.1 > (8:Int)))=true then (some ((ae.mk (i64.wrap x0.1) (0:Int) x4.1 ([]:List Int)),(ao.mk x5.2.bO x5.2.dw true))) else ((aU.l0 m x5 m (0:Int) (i64.wrap x0.1) (0:Int) x4.1 ([]:List Int) x5.2).bind fun aF=>match aF with | (i1,xh,rH,Mo,UZ,t2)=>some ((ae.mk xh rH Mo UZ),t2))) else (some ((ae.mk (i64.wrap x0.1) (0:Int) (aaT #[]) ([]:List Int)),(ao.mk x0.2.bO x0.2.dw true))))))
def aU.fin (L:Mem)(az:Nat)(t0:ao)(r:ae × ao)(s:St):Prop:=aH Tryz.prog (s.open BH) Tryz.f28.results.toList=some (.agg [.int .i64 r.1.kind,.int .i64 r.1.int,.str r.1.label,aa.fz r.1.args])∧Has s.h ((az,.ob [af.fz r.2.bO,.int .i64 r.2.dw,.bool r.2.aK])::L)
def Sf (cf:CallF)(m:Nat):Prop:=∀(t0:ao) (r:ae × ao),aU.f m t0=some r→∀h L (az:Nat),Has h ((az,.ob [af.fz t0.bO,.int .i64 t0.dw,.bool t0.aK])::L)→∀xs,xs.map aC=[.ptr az 0]→∃h',cf 28 xs h=some (.agg [.int .i64 r.1.kind,.int .i64 r.1.int,.str r.1.label,aa.fz r.1.args],h')∧Has h' ((az,.ob [af.fz r.2.bO,.int .i64 r.2.dw,.bool r.2.aK])::L)
section
variable {cf:CallF}{m:Nat}
theorem aU.bu (L:Mem)(az:Nat)(t0:ao)(x5:Int × ao)  (sJ:Pc cf m):bC Tryz.prog cf BH m (sub [1,1,0,1,0,1,1,1,1,1,1,1,0,1,1,1,1,0,0] (codeOf Tryz.f28)) (fun k (σ:Int × Int × Int × ByteArray × (List Int) × ao)=>aU.l0 m x5 k σ.1 σ.2.1 σ.2.2.1 σ.2.2.2.1 σ.2.2.2.2.1 σ.2.2.2.2.2) (fun σ s=>match σ with | (i0,x6,x7,x8,x9,t1)=>∃dR h12,s=⟨.ptr az 0 :: .lp 2 0 :: .lp 3 0 :: .any :: .int .i64 x5.1 :: .int .i64 i0::r9 [],[some [.int .i64 (0:Int),.int .i64 (0:Int),.str (aaT #[]),.nils],some [.int .i64 x6,.int .i64 x7,.str x8,.rs dR 0 x9.length 1]],h12⟩∧Has h12 ((az,.ob [af.fz t1.bO,.int .i64 t1.dw,.bool t1.aK])::(dR,.sl x9.length 1 (aa.l x9))::L)) (fun out e s=>(e = .exit 1∧∃i0 x6 x7 x8 x9 t1,(i0,x6,x7,x8,x9,t1)=out∧∃kM oK C8 IB dR h12,s=⟨kM :: .lp 2 0 :: .lp 3 0 :: .any::oK::C8::zY [IB],[some [.int .i64 (0:Int),.int .i64 (0:Int),.str (aaT #[]),.nils],some [.int .i64 x6,.int .i64 x7,.str x8,.rs dR 0 x9.length 1]],h12⟩∧Has h12 ((az,.ob [af.fz t1.bO,.int .i64 t1.dw,.bool t1.aK])::(dR,.sl x9.length 1 (aa.l x9))::L))):=by
 refine gk (fun _=>rfl) ?_
 rintro k ⟨i0,x6,x7,x8,x9,t1⟩ s out ⟨dR,h12,rfl,kN⟩ H
 have H:aU.l0 m x5 (k+1) i0 x6 x7 x8 x9 t1=some out:=H
 refine qq <| qq <| q0 <| qc H (fun c6 H=>?_) (fun c6 H=>?_)
 ·refine qk <| qq <| qb 2 ?_
  obtain⟨jF,tO,H⟩:=aG H
  obtain⟨h13,rF,tL⟩:=sJ _ _ tO h12 _ _ (kN)  [.ptr az 0] (an (rfl) (aT))
  obtain⟨pQ,ye,H⟩:=aG H
  obtain⟨cR,h14,z7,qR⟩:=cL (P:=Tryz.prog) (E:=aa) (l:=x9) (q:=1) (t2:=28) (x:=.fz [.int .i64 jF.1] 1 true) (l2:=([jF.1])) dK tL rfl (by kernel_rfl) rfl ye
  exact qr [.a 3 rF,.a 5 z7] <| q0 <| ⟨(i64.wrap (i0+(1:Int)),x6,x7,x8,pQ,jF.2),⟨cR,h14,by kernel_rfl,qR⟩,H⟩
 ·exact qx 1 <| ⟨rfl,i0,x6,x7,x8,x9,t1,oi H,.ptr az 0,.int .i64 x5.1,.int .i64 i0,.bool (decide (i0<x5.1)),dR,h12,by kernel_rfl,kN⟩
theorem nX {aV:FuncId→b9}(ha:aV 28=BH)(sJ:Pc cf m)(zM:Pb cf m)(Rr:Xb cf m)(t0:ao)(h:AHeap)(L:Mem)(az:Nat)  (o:Has h ((az,.ob [af.fz t0.bO,.int .i64 t0.dw,.bool t0.aK])::L)){out:ae × ao}(H:aU.f m t0=some out) :
  ∃r h',bg Tryz.prog aV cf m 28 [.ptr az 0] h=some (r,h')∧r = .agg [.int .i64 out.1.kind,.int .i64 out.1.int,.str out.1.label,aa.fz out.1.args]∧Has h' ((az,.ob [af.fz out.2.bO,.int .i64 out.2.dw,.bool out.2.aK])::L):=by
 refine aj (fn:=Tryz.f28) ha Tryz.func28 (by kernel_rfl) (by kernel_rfl) ?_
 refine aD (Q:=fun s=>aU.fin L az t0 out s) (fun _ _ ⟨h1,h2,h3⟩=>⟨h1,_,h2,rfl,h3⟩) ?_
 have H:_=some out:=H
 unfold aU.f at H
 show dA _ cf BH m _ ⟨.ptr az 0::nF [],[none,none],h⟩ _
 refine q1 <| qq ?_
 obtain⟨x0,e0,H⟩:=aG H
 obtain⟨h0,e1,o0⟩:=zM _ _ e0 h _ _ (o)  [.ptr az 0] (an (rfl) (aT))
 refine qr [.a 1 e1] ?_
 have o1:Has h0 (((0),.sl (([]:List Int).length) 1 (aa.l ([]:List Int)))::(az,.ob [af.fz x0.2.bO,.int .i64 x0.2.dw,.bool x0.2.aK])::L):=Has.nil o0 1
 refine qq <| qq <| q0 <| qb 0 <| qq <| q0 <| qc H (fun c0 H=>?_) (fun c0 H=>?_)
 ·obtain⟨x1,e2,H⟩:=aG H
  obtain⟨h1,e3,o2⟩:=sJ _ _ e2 h0 _ _ ((Has.front (Has.front o1 0 rfl) 1 rfl))  [.ptr az 0] (an (rfl) (aT))
  refine qr [.a 1 e3] <| qq ?_
  obtain⟨h2,e4,o3⟩:=fV (E:=aa) (l:=([]:List Int)) (q:=1) o2 rfl
  obtain rfl:=oi H
  exact uC [.a 0 e4] [] <| qt <| ⟨.inl rfl,⟨by kernel_rfl,he o3⟩⟩
 ·refine q1 <| qc H (fun c1 H=>?_) (fun c1 H=>?_)
  ·refine qq ?_
   obtain⟨x2,e5,H⟩:=aG H
   obtain⟨h3,e6,o4⟩:=sJ _ _ e5 h0 _ _ ((Has.front (Has.front o1 0 rfl) 1 rfl))  [.ptr az 0] (an (rfl) (aT))
   refine qr [.a 1 e6] <| qq <| q0 <| qq <| q0 <| qc H (fun c2 H=>?_) (fun c2 H=>?_)
   ·refine q0 <| qq ?_
    obtain⟨h4,e7,o5⟩:=fV (E:=aa) (l:=([]:List Int)) (q:=1) o4 rfl
    obtain rfl:=oi H
    exact uC [.a 0 e7] [] <| qt <| ⟨.inl rfl,⟨by kernel_rfl,he o5⟩⟩
   ·refine qk <| qq ?_
    obtain⟨h5,e8,o6⟩:=fV (E:=aa) (l:=([]:List Int)) (q:=1) o4 rfl
    obtain rfl:=oi H
    exact uC [.a 0 e8] [] <| qt <| ⟨.inl rfl,⟨by kernel_rfl,he o6⟩⟩
  ·refine q1 <| qc H (fun c3 H=>?_) (fun c3 H=>?_)
   ·obtain⟨x3,e9,H⟩:=aG H
    obtain⟨h6,lF,o7⟩:=Rr _ _ e9 h0 _ _ ((Has.front (Has.front o1 0 rfl) 1 rfl))  [.ptr az 0] (an (rfl) (aT))
    refine qr [.a 1 lF] <| qq ?_
    obtain⟨h7,nb,o8⟩:=fV (E:=aa) (l:=([]:List Int)) (q:=1) o7 rfl
    obtain rfl:=oi H
    exact uC [.a 0 nb] [] <| qt <| ⟨.inl rfl,⟨by kernel_rfl,he o8⟩⟩
   ·refine q1 <| qc H (fun c4 H=>?_) (fun c4 H=>?_)
    ·refine qq ?_
     obtain⟨x4,nK,H⟩:=aG H
     obtain⟨h8,pa,o9⟩:=Rr _ _ nK h0 _ _ ((Has.front (Has.front o1 0 rfl) 1 rfl))  [.ptr az 0] (an (rfl) (aT))
     refine qr [.a 1 pa] <| qq ?_
     obtain⟨x5,pc,H⟩:=aG H
     obtain⟨h9,pb,oz⟩:=sJ _ _ pc h8 _ _ (o9)  [.ptr az 0] (an (rfl) (aT))
     refine qr [.a 1 pb] <| qq <| qq <| q0 <| qc H (fun c5 H=>?_) (fun c5 H=>?_)
     ·refine qq ?_
      obtain⟨h10,qU,sg⟩:=jx (P:=Tryz.prog) (t:=4) (off:=2) (q:=0) (cs:=[af.fz x5.2.bO,.int .i64 x5.2.dw,.bool x5.2.aK]) (fU:=[af.fz x5.2.bO,.int .i64 x5.2.dw,.bool true]) (x:=.bool true) oz rfl (by kernel_rfl)
      refine qr [.w 3 qU] <| qq ?_
      obtain⟨h11,pP,oZ⟩:=fV (E:=aa) (l:=([]:List Int)) (q:=1) sg rfl
      obtain rfl:=oi H
      exact uC [.a 0 pP] [] <| qt <| ⟨.inl rfl,⟨by kernel_rfl,he oZ⟩⟩
     ·refine qk <| qq <| q0 <| qb 1 ?_
      obtain⟨aF,zZ,H⟩:=aG H
      refine ql (aU.bu L az t0 x5  sJ ((0:Int),i64.wrap x0.1,(0:Int),x4.1,([]:List Int),x5.2) _ _ ⟨(0),h9,by kernel_rfl,oz⟩ zZ) ?_
      rintro e s ⟨rfl,i1,xh,rH,Mo,UZ,t2,rfl,g0,g1,g2,g3,fc,h15,rfl,kO⟩
      try dsimp only at H
      refine qq ?_
      obtain⟨h16,Bb,uF⟩:=fV (E:=aa) (l:=UZ) (q:=1) kO rfl
      obtain rfl:=oi H
      exact uC [.a 0 Bb] [] <| qt <| ⟨.inl rfl,⟨by kernel_rfl,he uF⟩⟩
    ·obtain⟨h17,z6,yf⟩:=jx (P:=Tryz.prog) (t:=4) (off:=2) (q:=1) (cs:=[af.fz x0.2.bO,.int .i64 x0.2.dw,.bool x0.2.aK]) (fU:=[af.fz x0.2.bO,.int .i64 x0.2.dw,.bool true]) (x:=.bool true) o1 rfl (by kernel_rfl)
     refine qr [.w 3 z6] <| qq ?_
     obtain⟨h18,z8,qV⟩:=fV (E:=aa) (l:=([]:List Int)) (q:=0) yf rfl
     obtain rfl:=oi H
     exact uC [.a 0 z8] [] <| qt <| ⟨.inl rfl,⟨by kernel_rfl,he qV⟩⟩
end
end Go.Proofs.YtmekcfdllhphlaaGreatDoor
namespace Go.Proofs.YtmekcfdllhphlaaGreatDoor
open Go Go.R
open Go.IntKind (i64 u64 u8 u32)
structure Ts (b:List Int)(a:Nat)(bad:Bool)(a':Nat)(jk:Bool):Prop where
 le:a≤a'
 len:a'≤b.length
 bad:bad=true→jk=true
theorem Ts.refl {b:List Int}{a:Nat}{bad:Bool}(h:a≤b.length):Ts b a bad a bad:=⟨aaE _,h,id⟩
theorem Ts.trans {b:List Int}{a a1 a2:Nat}{x x1 x2:Bool}(h:Ts b a x a1 x1)(k:Ts b a1 x1 a2 x2):Ts b a x a2 x2:=⟨abj h.le k.le,k.len,fun h'=>k.bad (h.bad h')⟩
section
variable {m:Nat}{b:List Int}
theorem tp {a:Nat}{bad:Bool}{c:Int}{rest:List Int}(hl:b.length≤300000)(h:b.drop a=c::rest):b7.f m ⟨b,(a:Int),bad⟩=some (c,⟨b,((a+1:Nat):Int),bad⟩):=by
 obtain⟨h1,h2,_,_⟩:=drop_cons h
 unfold b7.f
 dsimp only
 rw [if_neg (by simp only [decide_eq_true_eq]; omega),ay (x:=(a:Int)+1) (by omega) (by omega),ay (by omega) (by omega),show (a:Int)+1 - 1=(a:Int) by omega,h2,aaA]
 rfl
theorem sK {a:Nat}{bad:Bool}(hb:Bytes b)(hl:b.length≤300000)(ha:a≤b.length):∃(c:Int) (a':Nat) (jk:Bool),b7.f m ⟨b,(a:Int),bad⟩=some (c,⟨b,((a':Nat):Int),jk⟩)∧Ts b a bad a' jk∧(a<a'∨jk=true)∧0≤c∧c<256:=by
 by_cases h:a<b.length
 ·have hd:b.drop a=gt b a::b.drop (a+1):=by
   rw [aaP h]
   have:=bL h
   rw [aaL h] at this
   rw [aa2 this]
  have:=hb _ (a8 h)
  exact⟨_,_,_,tp hl hd,⟨by omega,h,id⟩,.inl (by omega),this.1,this.2⟩
 ·refine⟨0,a,true,?_,⟨aaE _,ha,fun _=>rfl⟩,.inr rfl,by omega,by omega⟩
  unfold b7.f
  dsimp only
  rw [if_pos (by simp only [decide_eq_true_eq]; omega)]
theorem Dr (x:Int):i64.wrap x<9223372036854775808:=by
 rw [qH]; split<;>omega
theorem BI (hb:Bytes b)(hl:b.length≤300000):∀(f k:Nat) (n:Int) (a:Nat) (bad:Bool),k≤9→9 - k<f→a≤b.length→
  ∃(o:Sum (Int × ao) (Int × Int × ao)) (a':Nat) (jk:Bool),aB.l0 m f n (k:Int) ⟨b,(a:Int),bad⟩=some o∧Ts b a bad a' jk∧(k<9→a<a'∨jk=true)∧((∃z,o = .inl (z,⟨b,(a':Int),jk⟩)∧z<9223372036854775808)∨∃z q,o = .inr (z,q,⟨b,(a':Int),jk⟩))
 | 0,k,n,a,bad,_,hf,_=>absurd hf (by omega)
 | f+1,k,n,a,bad,hk,hf,ha=>by
  unfold aB.l0
  by_cases h:k<9
  ·obtain⟨c,a1,iV,e1,t1,q1,c0,c1⟩:=sK (m:=m) (bad:=bad) hb hl ha
   have hs:∀x:Int,∃v,r7 .u64 x (i64.wrap ((7:Int)*(k:Int)))=some v:=fun x=>by
    rw [ay (by omega) (by omega)]
    unfold r7
    rw [if_neg (by omega)]
    exact⟨_,rfl⟩
   obtain⟨v,hv⟩:=hs (u64.wrap (abE c 128))
   rw [if_pos (by simp only [decide_eq_true_eq]; omega),e1,aaA,hv,aaA]
   split
   ·exact⟨_,a1,iV,rfl,t1,fun _=>q1,.inl ⟨_,rfl,Dr _⟩⟩
   ·obtain⟨o,a2,kR,e2,t2,_,q2⟩:=BI hb hl f (k+1) (u64.wrap (n+v)) a1 iV (by omega) (by omega) t1.len
    rw [ay (by omega) (by omega),show (k:Int)+1=((k+1:Nat):Int) by omega,e2]
    refine⟨o,a2,kR,rfl,t1.trans t2,fun _=>?_,q2⟩
    rcases q1 with q | q
    ·left; have:=t2.le; omega
    ·right; exact t2.bad q
  ·exact⟨_,a,bad,by rw [if_neg (by simp only [decide_eq_true_eq]; omega)],Ts.refl ha,fun h'=>absurd h' h,.inr ⟨_,_,rfl⟩⟩
theorem iC (hm:20≤m)(hb:Bytes b)(hl:b.length≤300000){a:Nat}{bad:Bool}(ha:a≤b.length):∃(z:Int) (a':Nat) (jk:Bool),aB.f m ⟨b,(a:Int),bad⟩=some (z,⟨b,(a':Int),jk⟩)∧Ts b a bad a' jk∧(a<a'∨jk=true)∧z<9223372036854775808:=by
 obtain⟨o,a1,iV,e1,t1,q0,q⟩:=BI (m:=m) hb hl m 0 0 a bad (by omega) (by omega) ha
 have e1:aB.l0 m m 0 0 ⟨b,(a:Int),bad⟩=_:=e1
 unfold aB.f
 rw [e1,aaA]
 rcases q with⟨z,rfl,hz⟩| ⟨z,q,rfl⟩
 ·exact⟨z,a1,iV,rfl,t1,q0 (by omega),hz⟩
 ·exact⟨0,a1,true,rfl,⟨t1.le,t1.len,fun _=>rfl⟩,.inr rfl,by omega⟩
theorem Ji (hl:b.length≤300000):∀(k f:Nat),k<f→∀(n a j at_:Nat) (bad:Bool) (rest:List Int),n<128 ^ (k+1)→a+n*2 ^ (7*j)<2 ^ 63→(j=0∨1≤n)→b.drop at_=bX n++rest→
  aB.l0 m f (a:Int) (j:Int) ⟨b,(at_:Int),bad⟩=some (.inl (((a+n*2 ^ (7*j):Nat):Int),⟨b,((at_+(bX n).length:Nat):Int),bad⟩))
 | k,0,hf,_,_,_,_,_,_,_,_,_,_=>absurd hf (by omega)
 | k,f+1,hf,n,a,j,at_,bad,rest,hk,hn,h0,hd=>by
  have ED:(2:Nat) ^ 63=9223372036854775808:=by decide
  have Le:(2:Nat) ^ 64=18446744073709551616:=by decide
  have hj:j≤8:=by
   rcases h0 with h0 | h0
   ·omega
   ·apply Nat.le_of_not_lt
    intro h
    have h1:2 ^ 63≤2 ^ (7*j):=Nat.pow_le_pow_right (by omega) (by omega)
    have h2:1*2 ^ (7*j)≤n*2 ^ (7*j):=abq _ h0
    omega
  have OO:∀x:Nat,x*2 ^ (7*j)<2 ^ 64→x<128→r7 .u64 (u64.wrap (x:Int)) (i64.wrap ((7:Int)*(j:Int)))=some ((x*2 ^ (7*j):Nat):Int):=fun x hx h128=>by
   rw [ay (by omega) (by omega),dW (by omega) (by omega)]
   unfold r7
   rw [if_neg (by omega)]
   have e1:((7:Int)*(j:Int)).toNat=7*j:=by omega
   have e2:min (7*j) IntKind.u64.bits=7*j:=by show min (7*j) 64=7*j; omega
   rw [e1,e2]
   have e3:(x:Int)*2 ^ (7*j)=((x*2 ^ (7*j):Nat):Int):=by rw [Int.natCast_mul,Int.natCast_pow]; rfl
   rw [e3,dW (by omega) (by omega)]
  unfold aB.l0
  rw [if_pos (by simp only [decide_eq_true_eq]; omega)]
  by_cases h:n<128
  ·rw [iq h] at hd
   have hx:n*2 ^ (7*j)<2 ^ 64:=by omega
   rw [tp hl hd,aaA]
   dsimp only
   rw [abB (by omega),show (n:Int) % 128=(n:Int) by omega,OO n hx h,aaA,if_pos (by simp only [decide_eq_true_eq]; omega),dW (by omega) (by omega),ay (by omega) (by omega),iq h]
   rfl
  ·cases k with
   | zero=>exact absurd hk (by omega)
   | succ k=>
    rw [ka h,aa0] at hd
    have hle:n % 128*2 ^ (7*j)+n / 128*2 ^ (7*(j+1))=n*2 ^ (7*j):=by
     have:2 ^ (7*(j+1))=128*2 ^ (7*j):=by rw [show 7*(j+1)=7+7*j by omega,Nat.pow_add]
     rw [this,←Nat.mul_assoc,←abJ]
     congr 1; omega
    have hx:n % 128*2 ^ (7*j)<2 ^ 64:=by omega
    rw [tp hl hd,aaA]
    dsimp only
    rw [abB (by omega),show (((n % 128+128:Nat):Int)) % 128=((n % 128:Nat):Int) by omega,OO (n % 128) hx (by omega),aaA,if_neg (by simp only [decide_eq_true_eq]; omega),ay (by omega) (by omega),show (j:Int)+1=((j+1:Nat):Int) by omega]
    have e1:u64.wrap ((a:Int)+((n % 128*2 ^ (7*j):Nat):Int))=((a+n % 128*2 ^ (7*j):Nat):Int):=by rw [dW (by omega) (by omega)]; omega
    obtain⟨_,_,zG,_⟩:=drop_cons hd
    rw [e1,Ji hl k f (by omega) (n / 128) _ (j+1) (at_+1) bad rest (by rw [Nat.pow_succ] at hk; omega) (by omega) (.inr (by omega)) zG,ka h,aaR]
    have e2:a+n % 128*2 ^ (7*j)+n / 128*2 ^ (7*(j+1))=a+n*2 ^ (7*j):=by omega
    rw [e2,show at_+1+(bX (n / 128)).length=at_+((bX (n / 128)).length+1) by omega]
theorem Ds (hm:20≤m)(hl:b.length≤300000){n at_:Nat}{bad:Bool}{rest:List Int}(hn:n<2 ^ 63)(hd:b.drop at_=bX n++rest):aB.f m ⟨b,(at_:Int),bad⟩=some ((n:Int),⟨b,((at_+(bX n).length:Nat):Int),bad⟩):=by
 have ED:(2:Nat) ^ 63=9223372036854775808:=by decide
 have hk:(128:Nat) ^ (9+1)=1180591620717411303424:=by decide
 have:=Ji (m:=m) hl 9 m (by omega) n 0 0 at_ bad rest (by omega) (by simpa using hn) (.inl rfl) hd
 have this:aB.l0 m m 0 0 ⟨b,(at_:Int),bad⟩=_:=this
 unfold aB.f
 rw [this,aaA]
 simp
theorem kg {at_:Nat}{x y:List Int}(h:b.drop at_=x++y):b.drop (at_+x.length)=y:=by
 rw [←List.drop_drop,h,List.drop_left]
theorem rv (hb:Bytes b)(hl:b.length≤300000){x:Int × ao}(hx:x.1≤16):∀(f i:Nat) (out:List Int) (a:Nat) (bad:Bool),17 - i<f→i≤17→out.length≤i→a≤b.length→
  ∃(o:List Int) (q:Int) (a':Nat) (jk:Bool),a7.l0 m x f out (i:Int) ⟨b,(a:Int),bad⟩=some (o,q,⟨b,(a':Int),jk⟩)∧Ts b a bad a' jk
 | 0,i,out,a,bad,hf,_,_,_=>absurd hf (by omega)
 | f+1,i,out,a,bad,hf,hi,ho,ha=>by
  unfold a7.l0
  by_cases h:(i:Int)<x.1
  ·obtain⟨c,a1,iV,e1,t1,_,_,_⟩:=sK (m:=m) (bad:=bad) hb hl ha
   obtain⟨o,q,a2,kR,e2,t2⟩:=rv hb hl hx f (i+1) (out++[c]) a1 iV (by omega) (by omega) (by simp; omega) t1.len
   refine⟨o,q,a2,kR,?_,t1.trans t2⟩
   rw [if_pos (by simp only [decide_eq_true_eq]; omega),e1,aaA,nU (by simp; omega),aaA,ay (by omega) (by omega),show (i:Int)+1=((i+1:Nat):Int) by omega,e2]
  ·exact⟨_,_,a,bad,by rw [if_neg (by simp only [decide_eq_true_eq]; omega)],Ts.refl ha⟩
theorem yu (hm:20≤m)(hb:Bytes b)(hl:b.length≤300000){a:Nat}{bad:Bool}(ha:a≤b.length):∃(s:ByteArray) (a':Nat) (jk:Bool),a7.f m ⟨b,(a:Int),bad⟩=some (s,⟨b,(a':Int),jk⟩)∧Ts b a bad a' jk:=by
 obtain⟨z,a1,iV,e1,t1,_,_⟩:=iC (bad:=bad) hm hb hl ha
 unfold a7.f
 rw [e1,aaA]
 dsimp only
 split
 ·exact⟨_,a1,true,rfl,⟨t1.le,t1.len,fun _=>rfl⟩⟩
 ·rename_i g
  simp only [decide_eq_true_eq] at g
  obtain⟨o,q,a2,kR,e2,t2⟩:=rv (m:=m) hb hl (x:=(z,⟨b,(a1:Int),iV⟩)) (by dsimp only; omega) m 0 [] a1 iV (by omega) (by omega) (by simp) t1.len
  have e2:a7.l0 m (z,(⟨b,(a1:Int),iV⟩:ao)) m [] 0 ⟨b,(a1:Int),iV⟩=_:=e2
  rw [e2,aaA]
  exact⟨_,a2,kR,rfl,t1.trans t2⟩
theorem BJ (hl:b.length≤300000){x:Int × ao}(hx:x.1≤16){bad:Bool}{rest:List Int}:∀(l:List Int) (f i:Nat) (out:List Int) (a:Nat),l.length<f→(i:Int)+l.length=x.1→out.length≤i→b.drop a=l++rest→
  ∃q,a7.l0 m x f out (i:Int) ⟨b,(a:Int),bad⟩=some (out++l,q,⟨b,((a+l.length:Nat):Int),bad⟩)
 | l,0,i,out,a,hf,_,_,_=>absurd hf (by omega)
 | [],f+1,i,out,a,hf,hi,ho,hd=>by
  simp only [abg] at hi
  unfold a7.l0
  exact⟨_,by rw [if_neg (by simp only [decide_eq_true_eq]; omega),abu]; rfl⟩
 | c::l,f+1,i,out,a,hf,hi,ho,hd=>by
  simp only [aaR] at hf hi
  rw [aa0] at hd
  obtain⟨_,_,zG,_⟩:=drop_cons hd
  obtain⟨q,ih⟩:=BJ hl hx l f (i+1) (out++[c]) (a+1) (by omega) (by omega) (by simp; omega) zG
  refine⟨q,?_⟩
  unfold a7.l0
  rw [if_pos (by simp only [decide_eq_true_eq]; omega),tp hl hd,aaA,nU (by simp; omega),aaA,ay (by omega) (by omega),show (i:Int)+1=((i+1:Nat):Int) by omega,ih,aaM,aaR,show a+1+l.length=a+(l.length+1) by omega]
  rfl
theorem Mq (hm:20≤m)(hl:b.length≤300000){s:ByteArray}(hs:s.size≤16){at_:Nat}{bad:Bool}{rest:List Int}(hd:b.drop at_=encS s++rest):a7.f m ⟨b,(at_:Int),bad⟩=some (s,⟨b,((at_+(encS s).length:Nat):Int),bad⟩):=by
 have ED:(2:Nat) ^ 63=9223372036854775808:=by decide
 have FB:b.drop at_=bX s.size++(cV s++rest):=by rw [hd]; simp [encS]
 have zG:=kg FB
 obtain⟨q,e⟩:=BJ (m:=m) (b:=b) hl (x:=((s.size:Int),⟨b,((at_+(bX s.size).length:Nat):Int),bad⟩)) (bad:=bad) (rest:=rest) (by dsimp only; omega) (cV s) m 0 [] (at_+(bX s.size).length) (by rw [fQ]; omega) (by rw [fQ]; simp) (by simp) zG
 have e:a7.l0 m ((s.size:Int),(⟨b,((at_+(bX s.size).length:Nat):Int),bad⟩:ao)) m [] 0 ⟨b,((at_+(bX s.size).length:Nat):Int),bad⟩=_:=e
 unfold a7.f
 rw [Ds hm hl (by omega) FB,aaA]
 dsimp only
 rw [if_neg (by simp only [decide_eq_true_eq]; omega),e,aaA]
 dsimp only
 rw [aa5,re]
 unfold encS
 rw [aaI,abl]
end
end Go.Proofs.YtmekcfdllhphlaaGreatDoor
namespace Go.Proofs.YtmekcfdllhphlaaGreatDoor
open Go Go.R
open Go.IntKind (i64 u64 u8 u32)
theorem nY (x:Int):u32.wrap x=x % 4294967296:=by
 unfold IntKind.wrap; simp [IntKind.signed,IntKind.bits]
theorem zN (x y:Int):0≤dD .u32 x y∧dD .u32 x y<4294967296:=by
 unfold dD; rw [nY]; omega
theorem zO (n:Nat):abx 32 (n:Int)=abv 32 n:=by
 apply BitVec.eq_of_toNat_eq; simp
theorem U0 {n:Nat}(h:n<4294967296):fv .u32 (n:Int) 1=((n % 2:Nat):Int):=by
 show u32.wrap (((abx 32 (n:Int) &&& abx 32 ((1:Nat):Int)).toNat:Nat):Int)=_
 rw [zO,zO,nY,BitVec.toNat_and,acd,acd]
 have:n % 2 ^ 32=n:=Nat.mod_eq_of_lt h
 rw [this,show (1:Nat) % 2 ^ 32=2 ^ 1 - 1 by decide,Nat.and_two_pow_sub_one_eq_mod]
 omega
theorem step_eq {n:Nat}(h:n<4294967296):dD .u32 (gO .u32 (n:Int) 1) (fv .u32 (3988292384:Int) (u32.wrap (0 - (fv .u32 (n:Int) (1:Int))))) =
  if (abE (n:Int) (2:Int)==(1:Int))=true then dD .u32 (u32.wrap (abr (n:Int) (2:Int))) (3988292384:Int) else u32.wrap (abr (n:Int) (2:Int)):=by
 have e1:abE (n:Int) 2=((n % 2:Nat):Int):=by rw [abB (by omega)]; omega
 have e2:abr (n:Int) 2=((n / 2:Nat):Int):=by rw [abX (by omega)]; omega
 have e3:gO .u32 (n:Int) 1=((n / 2:Nat):Int):=by
  unfold gO; rw [ach _ (by decide)]; show (n:Int) / 2=_; omega
 have e4:u32.wrap ((n / 2:Nat):Int)=((n / 2:Nat):Int):=by rw [nY]; omega
 rw [U0 h,e1,e2,e3,e4]
 rcases Nat.mod_two_eq_zero_or_one n with h2 | h2
 ·rw [h2,if_neg (by simp)]
  have e5:fv .u32 (3988292384:Int) (u32.wrap (0 - ((0:Nat):Int)))=0:=by decide
  rw [e5]
  show u32.wrap (((abx 32 ((n / 2:Nat):Int) ^^^ abx 32 ((0:Nat):Int)).toNat:Nat):Int)=_
  rw [zO,zO,nY,BitVec.toNat_xor,acd,acd]
  have:n / 2 % 2 ^ 32=n / 2:=Nat.mod_eq_of_lt (by omega)
  rw [this]
  simp
  omega
 ·rw [h2,if_pos (by simp)]
  have e5:fv .u32 (3988292384:Int) (u32.wrap (0 - ((1:Nat):Int)))=3988292384:=by decide
  rw [e5]
theorem sL {m:Nat}:∀(f i n:Nat),n<4294967296→8 - i<f→i≤8→∃c x,bj.l1 m f (n:Int) (i:Int)=some (c,x)∧bV.l1 m f (n:Int) (i:Int)=some (c,x)∧0≤c∧c<4294967296
 | 0,i,n,_,hf,_=>absurd hf (by omega)
 | f+1,i,n,hn,hf,hi=>by
  unfold bj.l1 bV.l1
  by_cases h:i<8
  ·have hs:=step_eq hn
   have e3:i64.wrap ((i:Int)+1)=((i+1:Nat):Int):=by rw [ay (by omega) (by omega)]; omega
   rw [if_pos (by simp only [decide_eq_true_eq]; omega),if_pos (by simp only [decide_eq_true_eq]; omega),e3,hs]
   by_cases hc:(abE (n:Int) (2:Int)==(1:Int))=true
   ·rw [if_pos hc,if_pos hc]
    have hr:=zN (u32.wrap (abr (n:Int) (2:Int))) 3988292384
    obtain⟨q,hq⟩:∃q:Nat,dD .u32 (u32.wrap (abr (n:Int) (2:Int))) 3988292384=(q:Int):=⟨(dD .u32 (u32.wrap (abr (n:Int) (2:Int))) 3988292384).toNat,by omega⟩
    rw [hq] at hr ⊢
    exact sL f (i+1) q (by omega) (by omega) (by omega)
   ·rw [if_neg hc,if_neg hc]
    have hw:0≤u32.wrap (abr (n:Int) (2:Int))∧u32.wrap (abr (n:Int) (2:Int))<4294967296:=by rw [nY]; omega
    obtain⟨q,hq⟩:∃q:Nat,u32.wrap (abr (n:Int) (2:Int))=(q:Int):=⟨(u32.wrap (abr (n:Int) (2:Int))).toNat,by omega⟩
    rw [hq] at hw ⊢
    exact sL f (i+1) q (by omega) (by omega) (by omega)
  ·refine⟨n,i,?_,?_,by omega,by omega⟩
   ·rw [if_neg (by simp only [decide_eq_true_eq]; omega)]
   ·rw [if_neg (by simp only [decide_eq_true_eq]; omega)]
theorem yv {m:Nat}(hm:10≤m){b:List Int}(hb:b.length<2 ^ 40):∀(f i n:Nat),n<4294967296→b.length - i<f→i≤b.length→∃c x,bj.l0 m b f (n:Int) (i:Int)=some (c,x)∧bV.l0 m b f (n:Int) (i:Int)=some (c,x)∧0≤c∧c<4294967296
 | 0,i,n,_,hf,_=>absurd hf (by omega)
 | f+1,i,n,hn,hf,hi=>by
  have mZ:(2:Nat) ^ 40=1099511627776:=by decide
  unfold bj.l0 bV.l0
  by_cases h:i<b.length
  ·have hr:=zN (n:Int) (u32.wrap (gt b i))
   obtain⟨q,hq⟩:∃q:Nat,dD .u32 (n:Int) (u32.wrap (gt b i))=(q:Int):=⟨(dD .u32 (n:Int) (u32.wrap (gt b i))).toNat,by omega⟩
   rw [hq] at hr
   obtain⟨c,x,k1,k2,k3⟩:=sL (m:=m) m 0 q (by omega) (by omega) (by omega)
   have k1:bj.l1 m m (q:Int) 0=_:=k1
   have k2:bV.l1 m m (q:Int) 0=_:=k2
   obtain⟨q2,rfl⟩:∃q2:Nat,c=(q2:Int):=⟨c.toNat,by omega⟩
   have e3:i64.wrap ((i:Int)+1)=((i+1:Nat):Int):=by rw [ay (by omega) (by omega)]; omega
   rw [if_pos (by simp only [decide_eq_true_eq]; omega),if_pos (by simp only [decide_eq_true_eq]; omega),db h,aaA,aaA,hq,k1,k2,aaA,aaA]
   dsimp only
   rw [e3]
   exact yv hm hb f (i+1) q2 (by omega) (by omega) (by omega)
  ·refine⟨n,i,?_,?_,by omega,by omega⟩
   ·rw [if_neg (by simp only [decide_eq_true_eq]; omega)]
   ·rw [if_neg (by simp only [decide_eq_true_eq]; omega)]
theorem Jj {m:Nat}(hm:10≤m){b:List Int}(hb:b.length<2 ^ 40)(hbm:b.length<m):∃s:Nat,bj.f m b=some (s:Int)∧bV.f m b=some (s:Int)∧s<4294967296:=by
 obtain⟨c,x,k1,k2,k3⟩:=yv (m:=m) hm hb m 0 4294967295 (by omega) (by omega) (by omega)
 have k1:bj.l0 m b m 4294967295 0=_:=k1
 have k2:bV.l0 m b m 4294967295 0=_:=k2
 have hx:HH .u32 c=dD .u32 c 4294967295:=by
  show dD .u32 4294967295 c=_
  unfold dD
  rw [BitVec.xor_comm]
 have hr:=zN c 4294967295
 refine⟨(dD .u32 c 4294967295).toNat,?_,?_,by omega⟩
 ·unfold bj.f
  rw [k1,aaA]
  dsimp only
  rw [hx,ay (by omega) (by omega)]
  congr 1
 ·unfold bV.f
  rw [k2,aaA]
  dsimp only
  rw [ay (by omega) (by omega)]
  congr 1
end Go.Proofs.YtmekcfdllhphlaaGreatDoor
