/- Part of the proof: Q31, Q35, Q33, Q14, Q41, Q19, PR6, PR7, PT1, PT2, PR8, PR9, PT3, PT4, PT5, PT11, Q16, Q18, Q4, PR10, PT12, PB2, Q102, Q104, Q105, Q103, Q76, PB4, Q75, PB9, PV1, PT13, Q23, Q111, Q86, Q69, Q48. -/
import Derived.Test.YtmekcfdllhphlaaDoorK9
set_option linter.unusedVariables false
set_option linter.unusedSimpArgs false
set_option maxRecDepth 100000
open Bool renaming and_eq_true → QR
open ByteArray renaming mk → RH
open Int renaming toNat_natCast → QT
open List renaming mem_singleton → QY, getElem?_eq_getElem → QZ, length_append → Q0, getD_eq_getElem?_getD → Q5, mem_append → Q7, getElem?_eq_none → Ra, replicate → Rc, all_eq_true → Rd, getElem?_append_right → Rg, map_append → Ri, mem_map → Rj, getElem?_map → Rk, map_cons → Rq, drop_zero → Rr, mem_cons → Rt, nil_append → Rv, mem_append_left → Rx, length_cons → RA, length_map → RE, ext_getElem? → RJ, length_nil → RN, idxOf_lt_length_of_mem → RR, take_add_one → RU, take_length → RV, getElem_mem → RW, nodup_append → R0, getElem?_set → Sj, getElem_of_mem → Sy, range → SC
open List.cons renaming inj → R6
open Nat renaming le_refl → QS, le_trans → RG, sub_self → Sf
open Option renaming bind_some → QM, map_some → QU
open Option.some renaming injEq → QQ, inj → Rf
open Or renaming inr → Sa
namespace Go.Proofs.YtmekcfdllhphlaaDoor
open Go Go.R
open Go.IntKind (i64 u64 u8 u32)
def yd:ca:=ff [0,1,2,3,6] [1,2] [25,9,19,19] [] []
def cN.f (m:Nat)(t0:aw):Option (aw × Int):=(dB.f m t0).bind fun x0=>if (!x0)=true then (some ((aw.mk ([]) (0:Int)),(2:Int))) else ((bA.f m t0).bind fun x1=>some (x1,(0:Int)))
def cN.fin (L:Mem)(r:aw × Int)(s:St):Prop:=∃av,aP Tryd.prog (s.open yd) Tryd.f31.results.toList=some av∧AM s.h av (.tup [.agg [ae.fz r.1.nodes,.int .i64 r.1.root],.int .i64 r.2])
def MV (cf:CallF)(m:Nat):Prop:=∀(t0:aw) (r:aw × Int),cN.f m t0=some r→∀h xs,nN xs [.agg [ae.fz t0.nodes,.int .i64 t0.root]]→cf 31 xs h=some (.tup [.agg [ae.fz r.1.nodes,.int .i64 r.1.root],.int .i64 r.2],h)
section
variable {cf:CallF}{m:Nat}
theorem ov {a7:FuncId→ca}(ha:a7 31=yd)(BK:KD cf m)(DC:La cf m)(t0:aw)(h:AHeap)(L:Mem)  (o:Has h (L)){out:aw × Int}(H:cN.f m t0=some out) :
  ∃r h',bf Tryd.prog a7 cf m 31 [.agg [ae.fz t0.nodes,.int .i64 t0.root]] h=some (r,h')∧AM h' r (.tup [.agg [ae.fz out.1.nodes,.int .i64 out.1.root],.int .i64 out.2]):=by
 refine aq (fn:=Tryd.f31) ha Tryd.func31 (by kernel_rfl) (by kernel_rfl) ?_
 refine aQ (Q:=fun s=>cN.fin L out s) (fun _ _ h=>h) ?_
 have H:_=some out:=H
 unfold cN.f at H
 show cX _ cf yd m _ ⟨.agg [ae.fz t0.nodes,.int .i64 t0.root]::AW [],[none,none],h⟩ _
 refine q1 <| qq <| qq ?_
 obtain⟨x0,e0,H⟩:=bb H
 refine qr [.a 1 (BK _ _ e0 h _ (eZ (ab (bw (ab (b7 (E:=ae)) (ab (aM) (aA)))) (aA))))] <| qc H (fun c0 H=>?_) (fun c0 H=>?_)
 ·obtain rfl:=oi H
  exact q1 <| qt <| ⟨.inl rfl,I6 (.tup [.agg [.nils,.int .i64 (0:Int)],.int .i64 (2:Int)]) h (zK (wc (ab (bw (ab (xy) (ab (aM) (aA)))) (ab (aM) (aA)))))⟩
 ·refine qk <| qq ?_
  obtain⟨x1,e1,H⟩:=bb H
  obtain rfl:=oi H
  exact qr [.a 1 (DC _ _ e1 h _ (b4 (jU (b4 (ik (E:=ae)) (b4 (br) (fe)))) (fe)))] <| qt <| ⟨.inl rfl,I6 (.tup [.agg [ae.fz x1.nodes,.int .i64 x1.root],.int .i64 (0:Int)]) h (zK (wc (ab (bw (ab (b7) (ab (aM) (aA)))) (ab (aM) (aA)))))⟩
end
end Go.Proofs.YtmekcfdllhphlaaDoor
namespace Go.Proofs.YtmekcfdllhphlaaDoor
open Go Go.R
open Go.IntKind (i64 u64 u8 u32)
end Go.Proofs.YtmekcfdllhphlaaDoor
namespace Go.Proofs.YtmekcfdllhphlaaDoor
open Go Go.R
open Go.IntKind (i64 u64 u8 u32)
end Go.Proofs.YtmekcfdllhphlaaDoor
namespace Go.Proofs.YtmekcfdllhphlaaDoor
open Go Go.R
open Go.IntKind (i64 u64 u8 u32)
end Go.Proofs.YtmekcfdllhphlaaDoor
namespace Go.Proofs.YtmekcfdllhphlaaDoor
open Go Go.R
open Go.IntKind (i64 u64 u8 u32)
end Go.Proofs.YtmekcfdllhphlaaDoor
namespace Go.Proofs.YtmekcfdllhphlaaDoor
open Go Go.R
open Go.IntKind (i64 u64 u8 u32)
end Go.Proofs.YtmekcfdllhphlaaDoor
namespace Go.Proofs.YtmekcfdllhphlaaDoor
open Go Go.R
open Go.IntKind (i64 u64 u8 u32)
end Go.Proofs.YtmekcfdllhphlaaDoor
namespace Go.Proofs.YtmekcfdllhphlaaDoor
open Go Go.R
open Go.IntKind (i64 u64 u8 u32)
end Go.Proofs.YtmekcfdllhphlaaDoor
namespace Go.Proofs.YtmekcfdllhphlaaDoor
open Go Go.R
open Go.IntKind (i64 u64 u8 u32)
end Go.Proofs.YtmekcfdllhphlaaDoor
namespace Go.Proofs.YtmekcfdllhphlaaDoor
open Go Go.R
open Go.IntKind (i64 u64 u8 u32)
end Go.Proofs.YtmekcfdllhphlaaDoor
namespace Go.Proofs.YtmekcfdllhphlaaDoor
open Go Go.R
open Go.IntKind (i64 u64 u8 u32)
end Go.Proofs.YtmekcfdllhphlaaDoor
namespace Go.Proofs.YtmekcfdllhphlaaDoor
open Go Go.R
open Go.IntKind (i64 u64 u8 u32)
def Bytes (l:List Int):Prop:=∀x∈l,0≤x∧x<256
end Go.Proofs.YtmekcfdllhphlaaDoor
namespace Go.Proofs.YtmekcfdllhphlaaDoor
open Go Go.R
open Go.IntKind (i64 u64 u8 u32)
end Go.Proofs.YtmekcfdllhphlaaDoor
namespace Go.Proofs.YtmekcfdllhphlaaDoor
open Go Go.R
open Go.IntKind (i64 u64 u8 u32)
end Go.Proofs.YtmekcfdllhphlaaDoor
namespace Go.Proofs.YtmekcfdllhphlaaDoor
open Go Go.R
open Go.IntKind (i64 u64 u8 u32)
end Go.Proofs.YtmekcfdllhphlaaDoor
namespace Go.Proofs.YtmekcfdllhphlaaDoor
open Go Go.R
open Go.IntKind (i64 u64 u8 u32)
end Go.Proofs.YtmekcfdllhphlaaDoor
namespace Go.Proofs.YtmekcfdllhphlaaDoor
open Go Go.R
open Go.IntKind (i64 u64 u8 u32)
def ye:ca:=ff [0,1,2,3] [1,2] [9,3] [] []
def b6.f (m:Nat)(t0:aw):Option (aw × Int):=(cN.f m t0).bind fun x0=>some (x0.1,x0.2)
def b6.fin (L:Mem)(r:aw × Int)(s:St):Prop:=∃av,aP Tryd.prog (s.open ye) Tryd.f16.results.toList=some av∧AM s.h av (.tup [.agg [ae.fz r.1.nodes,.int .i64 r.1.root],.int .i64 r.2])
def MW (cf:CallF)(m:Nat):Prop:=∀(t0:aw) (r:aw × Int),b6.f m t0=some r→∀h xs,nN xs [.agg [ae.fz t0.nodes,.int .i64 t0.root]]→cf 16 xs h=some (.tup [.agg [ae.fz r.1.nodes,.int .i64 r.1.root],.int .i64 r.2],h)
section
variable {cf:CallF}{m:Nat}
theorem ml {a7:FuncId→ca}(ha:a7 16=ye)(Le:MV cf m)(t0:aw)(h:AHeap)(L:Mem)  (o:Has h (L)){out:aw × Int}(H:b6.f m t0=some out) :
  ∃r h',bf Tryd.prog a7 cf m 16 [.agg [ae.fz t0.nodes,.int .i64 t0.root]] h=some (r,h')∧AM h' r (.tup [.agg [ae.fz out.1.nodes,.int .i64 out.1.root],.int .i64 out.2]):=by
 refine aq (fn:=Tryd.f16) ha Tryd.func16 (by kernel_rfl) (by kernel_rfl) ?_
 refine aQ (Q:=fun s=>b6.fin L out s) (fun _ _ h=>h) ?_
 have H:_=some out:=H
 unfold b6.f at H
 show cX _ cf ye m _ ⟨.agg [ae.fz t0.nodes,.int .i64 t0.root]::mD [],[none,none],h⟩ _
 refine q1 <| qq ?_
 obtain⟨x0,e0,H⟩:=bb H
 obtain rfl:=oi H
 exact qr [.a 1 (Le _ _ e0 h _ (b4 (jU (b4 (ik (E:=ae)) (b4 (br) (fe)))) (fe)))] <| qt <| ⟨.inl rfl,I6 (.tup [.agg [ae.fz x0.1.nodes,.int .i64 x0.1.root],.int .i64 x0.2]) h (zK (wc (ab (bw (ab (b7) (ab (aM) (aA)))) (ab (aM) (aA)))))⟩
end
end Go.Proofs.YtmekcfdllhphlaaDoor
namespace Go.Proofs.YtmekcfdllhphlaaDoor
open Go Go.R
open Go.IntKind (i64 u64 u8 u32)
def rT:ca:=ff [0,1,2,3,4,5,6,7,8,22,27,67,72,85] [2,3,6,7] [16371,15859,16367,16339,15315,16339,16147,14099,16367,15891,11795,15891,7699,16367,16367] [] []
def aJ.l1 (m:Nat)(v0:aa)(v1:aa):Nat→Int→Option (Sum Bool (Int))
 | 0,_=>none
 | k+1,k0=>if (decide (k0<(v0.args.length:Int)))=true then ((ix v0.args k0).bind fun v2=>(ix v1.args k0).bind fun v3=>if (!(v2==v3))=true then (some (.inl false)) else (aJ.l1 m v0 v1 k (i64.wrap (k0+(1:Int))))) else (some (.inr k0))
def aJ.l0 (m:Nat)(a0:aw)(b0:aw):Nat→Int→Option (Sum Bool (Int))
 | 0,_=>none
 | k+1,i0=>if (decide (i0<(a0.nodes.length:Int)))=true then ((ix a0.nodes i0).bind fun v0=>(ix b0.nodes i0).bind fun v1=>if (!(v0.kind==v1.kind))=true then (some (.inl false)) else (if (!(v0.int==v1.int))=true then (some (.inl false)) else (if (!(v0.label.data.toList==v1.label.data.toList))=true then (some (.inl false)) else (if (!((v0.args.length:Int)==(v1.args.length:Int)))=true then (some (.inl false)) else ((aJ.l1 m v0 v1 m (0:Int)).bind fun bR=>match bR with | .inl r0=>some (.inl r0) | .inr k1=>aJ.l0 m a0 b0 k (i64.wrap (i0+(1:Int)))))))) else (some (.inr i0))
def aJ.f (m:Nat)(a0:aw)(b0:aw):Option (Bool):=if (!((a0.nodes.length:Int)==(b0.nodes.length:Int)))=true then (some false) else (if (!(a0.root==b0.root))=true then (some false) else ((aJ.l0 m a0 b0 m (0:Int)).bind fun b5=>match b5 with | .inl r1=>some r1 | .inr i1=>some true))
def aJ.fin (L:Mem)(r:Bool)(s:St):Prop:=∃av,aP Tryd.prog (s.open rT) Tryd.f18.results.toList=some av∧fT s.h av (.bool r)
def MX (cf:CallF)(m:Nat):Prop:=∀(a0:aw) (b0:aw) (r:Bool),aJ.f m a0 b0=some r→∀h xs,eO eV h xs [.agg [ae.fz a0.nodes,.int .i64 a0.root],.agg [ae.fz b0.nodes,.int .i64 b0.root]]→cf 18 xs h=some (.bool r,h)
section
variable {cf:CallF}{m:Nat}
theorem aJ.iS (L:Mem)(a0:aw)(b0:aw)(i0:Int)(v0:aa)(v1:aa)   : cD Tryd.prog cf rT m (sub [1,1,0,1,0,0,1,0,0,1,1,1,0,0] (codeOf Tryd.f18)) (fun k (σ:Int)=>aJ.l1 m v0 v1 k σ) (fun σ s=>match σ with | k0=>∃h1,s=⟨.any :: .any :: .lp 2 0 :: .lp 3 0 :: .any :: .int .i64 i0 :: .lp 6 0 :: .lp 7 0 :: .int .i64 k0::AX [],[some [ae.fz a0.nodes,.int .i64 a0.root],some [ae.fz b0.nodes,.int .i64 b0.root],some [.int .i64 v0.kind,.int .i64 v0.int,.str v0.label,af.fz v0.args],some [.int .i64 v1.kind,.int .i64 v1.int,.str v1.label,af.fz v1.args]],h1⟩∧Has h1 (L)) (fun out e s=>(e = .exit 2∧∃k0,.inr k0=out∧∃FU FC zi Lg Pb Pc h1,s=⟨.any :: .any :: .lp 2 0 :: .lp 3 0 :: .any :: .int .i64 i0::FU::FC::zi::mD [Lg,.any],[some [ae.fz a0.nodes,.int .i64 a0.root],some [ae.fz b0.nodes,.int .i64 b0.root],Pb,Pc],h1⟩∧Has h1 (L))∨(e = .ret∧∃r,.inl r=out∧aJ.fin L r s)):=by
 refine jW (fun _=>rfl) ?_
 rintro k k0 s out ⟨h1,rfl,o1⟩ H
 have H:aJ.l1 m v0 v1 (k+1) k0=some out:=H
 refine qq <| qq <| q0 <| qc H (fun la H=>?_) (fun la H=>?_)
 ·refine qk <| qq <| qb 3 <| qq ?_
  obtain⟨v2,e2,H⟩:=bb H
  obtain⟨v3,e3,H⟩:=bb H
  refine qr [.v 3 (cH (k:=.i64) (E:=af) (l:=v0.args) fV e2),.v 4 (fK  (E:=af) (l:=v0.args) h1 A3 e2 rfl),.v 8 (cH (k:=.i64) (E:=af) (l:=v1.args) fV e3),.v 9 (fK  (E:=af) (l:=v1.args) h1 A3 e3 rfl)] <| qc H (fun kK H=>?_) (fun kK H=>?_)
  ·exact q1 <| qt <| Sa (⟨rfl,_,oi H,bD (.bool false) h1 (bB (aj))⟩)
  ·exact qk <| q0 <| ⟨i64.wrap (k0+(1:Int)),⟨h1,by kernel_rfl,o1⟩,H⟩
 ·exact qx 2 <| Or.inl (⟨rfl,k0,oi H,.lp 6 0,.lp 7 0,.int .i64 k0,.bool (decide (k0<(v0.args.length:Int))),some [.int .i64 v0.kind,.int .i64 v0.int,.str v0.label,af.fz v0.args],some [.int .i64 v1.kind,.int .i64 v1.int,.str v1.label,af.fz v1.args],h1,by kernel_rfl,o1⟩)
theorem aJ.cw (L:Mem)(a0:aw)(b0:aw)   : cD Tryd.prog cf rT m (sub [1,1,0,1,0,0] (codeOf Tryd.f18)) (fun k (σ:Int)=>aJ.l0 m a0 b0 k σ) (fun σ s=>match σ with | i0=>∃h0,s=⟨.any :: .any :: .lp 2 0 :: .lp 3 0 :: .any :: .int .i64 i0::vl [],[some [ae.fz a0.nodes,.int .i64 a0.root],some [ae.fz b0.nodes,.int .i64 b0.root],none,none],h0⟩∧Has h0 (L)) (fun out e s=>(e = .exit 0∧∃i0,.inr i0=out∧∃Bb wo Dw Lh Li Pd h0,s=⟨.any :: .any::Bb::wo :: .any::Dw::AW (Lh::mD []),[Li,Pd,none,none],h0⟩∧Has h0 (L))∨(e = .ret∧∃r,.inl r=out∧aJ.fin L r s)):=by
 refine jW (fun _=>rfl) ?_
 rintro k i0 s out ⟨h0,rfl,o0⟩ H
 have H:aJ.l0 m a0 b0 (k+1) i0=some out:=H
 refine qq <| qq <| q0 <| qc H (fun c3 H=>?_) (fun c3 H=>?_)
 ·refine qk <| qq <| qb 1 <| qq ?_
  obtain⟨v0,e0,H⟩:=bb H
  obtain⟨v1,e1,H⟩:=bb H
  refine qr [.v 3 (cH (k:=.i64) (E:=ae) (l:=a0.nodes) oa e0),.v 4 (gf  (E:=ae) (l:=a0.nodes) h0 xF xG e0),.v 8 (cH (k:=.i64) (E:=ae) (l:=b0.nodes) oa e1),.v 9 (gf  (E:=ae) (l:=b0.nodes) h0 xF xG e1)] <| qq <| qq ?_
  rcases cO H with⟨c4,H⟩| ⟨c4,H⟩
  ·exact qr [.b 5 c4] <| sQ <| qq <| q0 <| qt <| Sa (⟨rfl,_,oi H,bD (.bool false) h0 (bB (aj))⟩)
  ·rcases cO H with⟨c6,H⟩| ⟨c6,H⟩
   ·exact qr [.b 5 c4,.b 12 c6] <| sQ <| qq <| q0 <| qt <| Sa (⟨rfl,_,oi H,bD (.bool false) h0 (bB (aj))⟩)
   ·rcases cO H with⟨c8,H⟩| ⟨c8,H⟩
    ·exact qr [.b 5 c4,.b 12 c6,.b 19 c8] <| sQ <| qq <| q0 <| qt <| Sa (⟨rfl,_,oi H,bD (.bool false) h0 (bB (aj))⟩)
    ·refine qr [.b 5 c4,.b 12 c6,.b 19 c8] <| qc H (fun qT H=>?_) (fun qT H=>?_)
     ·exact q1 <| qt <| Sa (⟨rfl,_,oi H,bD (.bool false) h0 (bB (aj))⟩)
     ·refine qk <| qq <| q0 <| qb 2 ?_
      obtain⟨bR,e4,H⟩:=bb H
      refine ql (aJ.iS L a0 b0 i0 v0 v1   (0:Int) _ _ ⟨h0,by kernel_rfl,o0⟩ e4) ?_
      rintro e s (⟨rfl,k1,rfl,g0,g1,g2,g3,g4,g5,h2,rfl,o2⟩| ⟨rfl,r0,rfl,pW⟩)
      ·try dsimp only at H
       exact q0 <| ⟨i64.wrap (i0+(1:Int)),⟨h2,by kernel_rfl,o2⟩,H⟩
      ·try dsimp only at H
       exact Sa (⟨rfl,_,oi H,pW⟩)
 ·exact qx 0 <| Or.inl (⟨rfl,i0,oi H,.lp 2 0,.lp 3 0,.int .i64 i0,.bool (decide (i0<(a0.nodes.length:Int))),some [ae.fz a0.nodes,.int .i64 a0.root],some [ae.fz b0.nodes,.int .i64 b0.root],h0,by kernel_rfl,o0⟩)
theorem nj {a7:FuncId→ca}(ha:a7 18=rT)  (a0:aw)(b0:aw)(h:AHeap)(L:Mem)  (o:Has h (L)){out:Bool}(H:aJ.f m a0 b0=some out) :
  ∃r h',bf Tryd.prog a7 cf m 18 [.agg [ae.fz a0.nodes,.int .i64 a0.root],.agg [ae.fz b0.nodes,.int .i64 b0.root]] h=some (r,h')∧fT h' r (.bool out):=by
 refine aq (fn:=Tryd.f18) ha Tryd.func18 (by kernel_rfl) (by kernel_rfl) ?_
 refine aQ (Q:=fun s=>aJ.fin L out s) (fun _ _ h=>h) ?_
 have H:_=some out:=H
 unfold aJ.f at H
 show cX _ cf rT m _ ⟨.agg [ae.fz a0.nodes,.int .i64 a0.root] :: .agg [ae.fz b0.nodes,.int .i64 b0.root]::pK [],[none,none,none,none],h⟩ _
 refine q1 <| qq <| qq ?_
 rcases cO H with⟨c0,H⟩| ⟨c0,H⟩
 ·obtain rfl:=oi H
  exact qr [.b 7 c0] <| sQ <| qq <| q0 <| qt <| ⟨.inl rfl,bD (.bool false) h (bB (aj))⟩
 ·refine qr [.b 7 c0] <| qc H (fun c2 H=>?_) (fun c2 H=>?_)
  ·obtain rfl:=oi H
   exact q1 <| qt <| ⟨.inl rfl,bD (.bool false) h (bB (aj))⟩
  ·refine qk <| qq <| qq <| q0 <| qb 0 ?_
   obtain⟨b5,e5,H⟩:=bb H
   refine ql (aJ.cw L a0 b0   (0:Int) _ _ ⟨h,by kernel_rfl,o⟩ e5) ?_
   rintro e s (⟨rfl,i1,rfl,g6,g7,g8,g9,g10,g11,h3,rfl,o3⟩| ⟨rfl,r1,rfl,Lj⟩)
   ·try dsimp only at H
    obtain rfl:=oi H
    exact q1 <| qt <| ⟨.inl rfl,bD (.bool true) h3 (bB (aj))⟩
   ·try dsimp only at H
    obtain rfl:=oi H
    exact⟨.inl rfl,Lj⟩
end
end Go.Proofs.YtmekcfdllhphlaaDoor
namespace Go.Proofs.YtmekcfdllhphlaaDoor
open Go Go.R
open Go.IntKind (i64 u64 u8 u32)
end Go.Proofs.YtmekcfdllhphlaaDoor
namespace Go.Proofs.YtmekcfdllhphlaaDoor
open Go Go.R
open Go.IntKind (i64 u64 u8 u32)
theorem uH {m:Nat}(v:aa)(hv:v.args.length<2 ^ 40):∀(f i:Nat),v.args.length - i<f→i≤v.args.length→∃x,aJ.l1 m v v f (i:Int)=some (.inr x)
 | 0,i,hf,_=>absurd hf (by omega)
 | f+1,i,hf,hi=>by
  have pS:(2:Nat) ^ 40=1099511627776:=by decide
  unfold aJ.l1
  by_cases h:i<v.args.length
  ·obtain⟨x,ih⟩:=uH (m:=m) v hv f (i+1) (by omega) (by omega)
   refine⟨x,?_⟩
   have hx:ix v.args (i:Int)=some v.args[i]:=by unfold ix; rw [if_pos (by omega)]; simp [h]
   rw [if_pos (by simp; omega),hx,QM,QM,if_neg (by simp),aD (by omega) (by omega),show ((i:Int)+1)=((i+1:Nat):Int) by omega,ih]
  ·exact⟨i,by rw [if_neg (by simp; omega)]⟩
theorem uI {m:Nat}(t:aw)(hm:2 ^ 30≤m)(ht:t.nodes.length<2 ^ 30)(ha:∀n∈t.nodes,n.args.length≤8):∀(f i:Nat),t.nodes.length - i<f→i≤t.nodes.length→∃x,aJ.l0 m t t f (i:Int)=some (.inr x)
 | 0,i,hf,_=>absurd hf (by omega)
 | f+1,i,hf,hi=>by
  have lz:(2:Nat) ^ 30=1073741824:=by decide
  unfold aJ.l0
  by_cases h:i<t.nodes.length
  ·obtain⟨x,ih⟩:=uI (m:=m) t hm ht ha f (i+1) (by omega) (by omega)
   refine⟨x,?_⟩
   have hx:ix t.nodes (i:Int)=some t.nodes[i]:=by unfold ix; rw [if_pos (by omega)]; simp [h]
   have h8:=ha t.nodes[i] (RW h)
   obtain⟨y,hy⟩:=uH (m:=m) t.nodes[i] (by omega) m 0 (by omega) (by omega)
   have hy:aJ.l1 m t.nodes[i] t.nodes[i] m (0:Int)=_:=hy
   rw [if_pos (by simp; omega),hx,QM,QM,if_neg (by simp),if_neg (by simp),if_neg (by simp),if_neg (by simp),hy,QM]
   dsimp only
   rw [aD (by omega) (by omega),show ((i:Int)+1)=((i+1:Nat):Int) by omega,ih]
  ·exact⟨i,by rw [if_neg (by simp; omega)]⟩
end Go.Proofs.YtmekcfdllhphlaaDoor
namespace Go.Proofs.YtmekcfdllhphlaaDoor
open Go Go.R
open Go.IntKind (i64 u64 u8 u32)
def El (t:aw):Prop:=∀n∈t.nodes,n.kind=0→n.int<2 ^ 63
theorem BL {s:ByteArray}(h:(s.data.toList==[])=true):s=RH #[]:=by
 have h:=beq_iff_eq.1 h
 cases s with
 | mk d=>
  cases d with
  | mk l=>simp only at h; subst h; rfl
theorem Jd {l:List Int}(h:l.isEmpty=true):l=[]:=by cases l with | nil=>rfl | cons=>cases h
structure zy (n:aa):Prop where
 kind:n.kind=0∧0≤n.int∧n.label=RH #[]∧n.args=[]∨n.kind=1∧(-1099511627776≤n.int∧n.int≤1099511627776)∧n.label=RH #[]∧n.args=[]∨n.kind=2∧n.int=0∧n.args=[]∨n.kind=3∧n.int=0∨n.kind=4∧n.args=[]
 label:n.kind=2∨n.kind=3→1≤n.label.size∧n.label.size≤16
 args:n.args.length≤8
theorem nk {n:aa}{size:Int}(h:gx n size=true):zy n∧∀a∈n.args,0≤a∧a<size:=by
 unfold gx at h
 split at h
 ·rename_i k
  simp only [QR,decide_eq_true_eq] at h
  have ha:=Jd h.2
  exact⟨⟨.inl ⟨k,h.1.1,BL h.1.2,ha⟩,fun z=>by omega,by rw [ha]; decide⟩,fun a h=>by rw [ha] at h; cases h⟩
 split at h
 ·rename_i k
  simp only [QR,decide_eq_true_eq] at h
  have ha:=Jd h.2
  exact⟨⟨.inr (.inl ⟨k,h.1.1,BL h.1.2,ha⟩),fun z=>by omega,by rw [ha]; decide⟩,fun a h=>by rw [ha] at h; cases h⟩
 split at h
 ·rename_i k
  simp only [QR,beq_iff_eq] at h
  have ha:=Jd h.2
  exact⟨⟨.inr (.inr (.inl ⟨k,h.1.1,ha⟩)),fun z=>rO h.1.2,by rw [ha]; decide⟩,fun a h=>by rw [ha] at h; cases h⟩
 split at h
 ·rename_i k
  simp only [QR,beq_iff_eq,decide_eq_true_eq,Rd] at h
  exact⟨⟨.inr (.inr (.inr (.inl ⟨k,h.1.1.1.1⟩))),fun z=>rO h.1.1.1.2,h.1.2⟩,h.2⟩
 split at h
 ·rename_i k
  simp only [QR,decide_eq_true_eq] at h
  have ha:=Jd h.2
  exact⟨⟨.inr (.inr (.inr (.inr ⟨k,ha⟩))),fun z=>by omega,by rw [ha]; decide⟩,fun a h=>by rw [ha] at h; cases h⟩
 ·cases h
theorem fu {t:aw}(h:cC t=true):iD t.nodes∧1≤t.nodes.length∧0≤t.root∧t.root<t.nodes.length∧∀n∈t.nodes,zy n:=by
 unfold cC at h
 simp only [QR,decide_eq_true_eq,Rd] at h
 obtain⟨⟨⟨⟨h1,h2⟩,h3⟩,h4⟩,h5⟩:=h
 exact⟨⟨h2,fun n hn=>⟨(nk (h5 n hn)).1.args,(nk (h5 n hn)).2⟩⟩,h1,h3,h4,fun n hn=>(nk (h5 n hn)).1⟩
structure uJ (s:aw):Prop where
 root:s.root=0
 zx:s.nodes.length≤8000
 nodes:∀x∈s.nodes,zy x∧(x.kind=0→x.int<2 ^ 63)∧∀a∈x.args,0≤a∧a<8000
theorem zy.map {n:aa}(T:zy n)(f:Int→Int):zy ⟨n.kind,n.int,n.label,n.args.map f⟩:=by
 refine⟨?_,T.label,by simpa using T.args⟩
 rcases T.kind with⟨a,b,c,d⟩| ⟨a,b,c,d⟩| ⟨a,b,d⟩| ⟨a,b⟩| ⟨a,d⟩
 ·exact .inl ⟨a,b,c,by simp [d]⟩
 ·exact .inr (.inl ⟨a,b,c,by simp [d]⟩)
 ·exact .inr (.inr (.inl ⟨a,b,by simp [d]⟩))
 ·exact .inr (.inr (.inr (.inl ⟨a,b⟩)))
 ·exact .inr (.inr (.inr (.inr ⟨a,by simp [d]⟩)))
theorem rU {m:Nat}(hm:2 ^ 41≤m){t:aw}(h:cC t=true)(h0:El t):∃s,bA.f m t=some s∧uJ s:=by
 obtain⟨ok,h1,r0,r1,hT⟩:=fu h
 obtain⟨cls,many,ks,ns,e,P,_,K,vJ,Q,hr⟩:=qn hm ok h1 r0 r1 (fun _=>True) (fun _ _ _ _ _=>trivial) (fun _ _ _ _ _ _ _ _ _=>trivial)
 have F5:=Q.vs.zx
 have h8000:=ok.1
 have hlen:=Q.len
 refine⟨_,e,rfl,by dsimp only; omega,fun x hx=>?_⟩
 obtain⟨k,hk,e2⟩:=Sy hx
 dsimp only at hk e2
 have:=Q.new k (by simp) (by omega)
 rw [QZ hk,e2] at this
 have:=Rf this
 subst this
 have sF:=Q.vs.jx _ (aE (l:=nT cls t.nodes m t.root []) (k:=k) (by omega))
 have wL:=dq sF.1 sF.2
 have Pe:=h0 _ wL
 refine⟨(hT _ wL).map _,fun hk=>Pe hk,fun a ha=>?_⟩
 obtain⟨b,hb,rfl⟩:=Rj.1 ha
 have hin:=Q.arg k (by simp) (by omega) b hb
 have:=RR hin
 rw [RE] at this
 unfold idx
 omega
end Go.Proofs.YtmekcfdllhphlaaDoor
namespace Go.Proofs.YtmekcfdllhphlaaDoor
open Go Go.R
open Go.IntKind (i64 u64 u8 u32)
structure zz (l:List aa)(R:Nat→Nat→Prop):Prop where
 jx:∀i j,R i j→i<l.length∧j<l.length
 top:∀i j,R i j→Alike (nd l i) (nd l j)
 arg:∀i j,R i j→∀k,k<(nd l i).args.length→R (gt (nd l i).args k).toNat (gt (nd l j).args k).toNat
structure Min (l:List aa)(r:List Int):Prop where
 len:r.length=l.length
 top:∀i j,i<l.length→j<l.length→gt r i=gt r j→Alike (nd l i) (nd l j)
 arg:∀i j,i<l.length→j<l.length→gt r i=gt r j→∀k,k<(nd l i).args.length→gt r (gt (nd l i).args k).toNat=gt r (gt (nd l j).args k).toNat
 max:∀R,zz l R→∀i j,R i j→gt r i=gt r j
theorem oL (a:aa):cT a a=0:=(Alike.refl a).cT
theorem qW {a b c:aa}(h1:cT a b=0)(h2:cT b c=0):cT a c=0:=by
 have n1:=gj a b
 have n2:=gj b c
 have n3:=gj a c
 have t1:=uG a b c (by omega) (by omega)
 have t2:=uG c b a (by omega) (by omega)
 omega
theorem s6 {l:List aa}{d:List Int}{k:Nat}:∀j,k≤j→rk l d k=rk l d j→cT (nd l (gt d k)) (nd l (gt d j))=0
 | 0,h,_=>by
   have:k=0:=by omega
   subst this; exact oL _
 | j+1,h,e=>by
  by_cases hk:k=j+1
  ·subst hk; exact oL _
  ·have m1:=s3 l d k j (by omega)
   have e2:rk l d (j+1)=rk l d j+if cT (nd l (gt d j)) (nd l (gt d (j+1)))=0 then 0 else 1:=rfl
   by_cases hc:cT (nd l (gt d j)) (nd l (gt d (j+1)))=0
   ·rw [if_pos hc] at e2
    exact qW (s6 j (by omega) (by omega)) hc
   ·rw [if_neg hc] at e2; omega
theorem s7 {l:List aa}{d:List Int}{n:Nat}(S:Sg (fun x y=>cT (nd l x) (nd l y)) d 0 n){k q:Nat}(hq:q<n)(h0:cT (nd l (gt d k)) (nd l (gt d q))=0):∀j,k≤j→j≤q→rk l d j=rk l d k
 | 0,h,_=>by
   have:k=0:=by omega
   subst this; rfl
 | j+1,h,hj=>by
  by_cases hk:k=j+1
  ·subst hk; rfl
  ·have ih:=s7 S hq h0 j (by omega) (by omega)
   have Pf:cT (nd l (gt d k)) (nd l (gt d j))≤0:=by
    by_cases e:k=j
    ·subst e; rw [oL]; omega
    ·have:0≤cT (nd l (gt d j)) (nd l (gt d k)):=S k j (by omega) (by omega) (by omega)
     have n:=gj (nd l (gt d k)) (nd l (gt d j))
     omega
   have Pg:cT (nd l (gt d (j+1))) (nd l (gt d q))≤0:=by
    by_cases e:j+1=q
    ·subst e; rw [oL]; omega
    ·have:0≤cT (nd l (gt d q)) (nd l (gt d (j+1))):=S (j+1) q (by omega) (by omega) hq
     have n:=gj (nd l (gt d (j+1))) (nd l (gt d q))
     omega
   have Ph:cT (nd l (gt d q)) (nd l (gt d k))≤0:=by have n:=gj (nd l (gt d k)) (nd l (gt d q)); omega
   have QG:=uG _ _ _ (uG _ _ _ Pg Ph) Pf
   have s1:=S j (j+1) (by omega) (by omega) (by omega)
   have n:=gj (nd l (gt d j)) (nd l (gt d (j+1)))
   have hz:cT (nd l (gt d j)) (nd l (gt d (j+1)))=0:=by
    have s1:0≤cT (nd l (gt d (j+1))) (nd l (gt d j)):=s1
    omega
   show rk l d j+(if cT (nd l (gt d j)) (nd l (gt d (j+1)))=0 then 0 else 1)=_
   rw [if_pos hz,ih]; rfl
def DD (l:List aa)(out:List Int):Prop:=(∀i j,i<l.length→j<l.length→gt out i=gt out j→cT (nd l i) (nd l j)=0)∧∀R,zz l R→∀i j,R i j→gt out i=gt out j
theorem zA {l:List aa}{d out:List Int}(hp:d.Perm (ints l.length))(hs:Ord (fun x y=>cT (nd l x) (nd l y)) (ints l.length)→Sg (fun x y=>cT (nd l x) (nd l y)) d 0 l.length)(hg:∀k,k<l.length→gt out (gt d k).toNat=rk l d k):DD l out:=by
 have S:=hs (F7 _ _)
 have Ko:d.length=l.length:=by rw [hp.length_eq,cJ]
 have pos:∀i,i<l.length→∃k,k<l.length∧gt d k=i∧gt out i=rk l d k:=fun i hi=>by
  obtain⟨k,hk,e⟩:=dt (hp.mem_iff.2 (fP.2 (show 0≤(i:Int)∧(i:Int)<l.length by omega)))
  have:=hg k (by omega)
  rw [e,QT] at this
  exact⟨k,by omega,e,this⟩
 refine⟨fun i j hi hj e=>?_,fun R B i j hR=>?_⟩
 ·obtain⟨k,hk,ek,Lk⟩:=pos i hi
  obtain⟨q,hq,eq,Ll⟩:=pos j hj
  rw [Lk,Ll] at e
  rw [←ek,←eq]
  rcases Nat.le_total k q with h | h
  ·exact s6 q h (by omega)
  ·have:=s6 (l:=l) (d:=d) k h (by omega)
   have n:=gj (nd l (gt d k)) (nd l (gt d q))
   omega
 ·obtain⟨hi,hj⟩:=B.jx i j hR
  obtain⟨k,hk,ek,Lk⟩:=pos i hi
  obtain⟨q,hq,eq,Ll⟩:=pos j hj
  have h0:=(B.top i j hR).cT
  rw [←ek,←eq] at h0
  rw [Lk,Ll]
  rcases Nat.le_total k q with h | h
  ·rw [s7 S hq h0 q h (QS _)]
  ·have n:=gj (nd l (gt d k)) (nd l (gt d q))
   rw [s7 S hk (by omega) k h (QS _)]
theorem BM {l:List aa}(ok:iD l){out:List Int}{i j:Nat}(h1:(nd l i).args.length=(nd l j).args.length)(e:key out (nd l i) i=key out (nd l j) j):gt out i=gt out j∧∀k,k<(nd l i).args.length→gt out (gt (nd l i).args k).toNat=gt out (gt (nd l j).args k).toNat:=by
 unfold key at e
 have e1:=R6 e
 refine⟨by omega,fun k hk=>?_⟩
 have e2:=e1.2
 rw [h1] at e2
 have e3:=List.append_cancel_right e2
 have e4:=congrArg (fun z=>z[k]?) e3
 simp only [Rk] at e4
 rw [aV hk,aV (by omega)] at e4
 simp only [QU,QQ] at e4
 omega
theorem BN {l:List aa}(ok:iD l)(out:List Int)(many:Nat)(ks:List (List Int))(next:List Int)(P:Part l.length out many)(I:DD l out)(K:ni l out l.length ks)(hn:next.length=l.length)
  (hg:∀i,i<l.length→gt next i=(ks.idxOf (key out (nd l i) i):Int)):DD l next:=by
 refine⟨fun i j hi hj e=>?_,fun R B i j hR=>?_⟩
 ·rw [hg i hi,hg j hj] at e
  have e:ks.idxOf (key out (nd l i) i)=ks.idxOf (key out (nd l j) j):=by omega
  have m1:=RR ((K.mem _).2 ⟨i,hi,rfl⟩)
  have m2:=RR ((K.mem _).2 ⟨j,hj,rfl⟩)
  have g1:=List.getElem_idxOf m1
  have g2:=List.getElem_idxOf m2
  have g3:key out (nd l i) i=key out (nd l j) j:=by rw [←g1,←g2]; congr 1
  exact I.1 i j hi hj (by have:=(R6 g3).1; omega)
 ·obtain⟨hi,hj⟩:=B.jx i j hR
  rw [hg i hi,hg j hj]
  have hk:key out (nd l i) i=key out (nd l j) j:=by
   have hl:=(B.top i j hR).len
   unfold key
   rw [I.2 R B i j hR,hl]
   congr 2
   apply RJ fun k=>?_
   simp only [Rk]
   by_cases h:k<(nd l i).args.length
   ·rw [aV h,aV (by omega)]
    simp only [QU,QQ]
    rw [I.2 R B _ _ (B.arg i j hR k h)]
   ·rw [Ra (by omega),Ra (by omega)]
  rw [hk]
theorem F8 {l:List aa}{r:List Int}{many:Nat}{ks:List (List Int)}(P:Part l.length r many)(K:ni l r l.length ks)(vJ:ks.length=many+1){i j:Nat}(hi:i<l.length)(hj:j<l.length)(e:gt r i=gt r j):key r (nd l i) i=key r (nd l j) j:=by
 by_cases hne:key r (nd l i) i=key r (nd l j) j
 ·exact hne
 ·exfalso
  have Pj:=(K.mem _).2 ⟨i,hi,rfl⟩
  have Pk:=(K.mem _).2 ⟨j,hj,rfl⟩
  have hn:((SC (many+1)).map fun v:Nat=>((v:Int)+1)).Nodup:=by
   unfold List.Nodup
   rw [List.pairwise_map]
   exact List.Pairwise.imp (fun h=>by omega) List.nodup_range
  have:=hn.length_le_of_subset (l₂:=(ks.erase (key r (nd l j) j)).map fun k=>k.headD 0) (fun x hx=>by
   obtain⟨v,hv,rfl⟩:=Rj.1 hx
   obtain⟨q,hq,h⟩:=P.MS v (by have:=List.mem_range.1 hv; omega)
   by_cases CC:key r (nd l q) q=key r (nd l j) j
   ·refine Rj.2 ⟨key r (nd l i) i,(List.mem_erase_of_ne hne).2 Pj,?_⟩
    have h1:=(R6 CC).1
    simp [key,e]
    omega
   ·exact Rj.2 ⟨_,(List.mem_erase_of_ne CC).2 ((K.mem _).2 ⟨q,hq,rfl⟩),by simp [key,h]⟩)
  rw [RE,RE,List.length_range,List.length_erase_of_mem Pk] at this
  omega
theorem nl {l:List aa}(hT:∀n∈l,zy n){i j:Nat}(hi:i<l.length)(hj:j<l.length)(h:cT (nd l i) (nd l j)=0):Alike (nd l i) (nd l j):=by
 have Ti:=hT _ (dq (i:=(i:Int)) (by omega) (by omega))
 have Tj:=hT _ (dq (i:=(j:Int)) (by omega) (by omega))
 have a3:∀{n:aa},zy n→n.kind=3→n.int=0:=fun T h=>by rcases T.kind with z | z | z | z | z<;>(have:=z.1; first | omega | exact z.2)
 have a0:∀{n:aa},zy n→n.kind≠3→n.args=[]:=fun T h=>by
  rcases T.kind with z | z | z | z | z
  ·exact z.2.2.2
  ·exact z.2.2.2
  ·exact z.2.2
  ·exact absurd z.1 h
  ·exact z.2
 exact BJ h (a3 Ti) (a3 Tj) (a0 Ti) (a0 Tj)
theorem jo {m:Nat}(hm:2 ^ 41≤m){t:aw}(h:cC t=true) :
  ∃cls ns,bA.f m t=some ⟨ns,0⟩∧Min t.nodes cls∧Ps cls t.nodes [] (nT cls t.nodes m t.root []) [] ns∧cW cls t.root∈(nT cls t.nodes m t.root []).map (cW cls):=by
 obtain⟨ok,h1,r0,r1,hT⟩:=fu h
 obtain⟨cls,many,ks,ns,e,P,I,K,vJ,Q,hr⟩:=qn hm ok h1 r0 r1 (DD t.nodes) (fun d out hp hs hg=>zA hp hs hg) (fun out many ks next P I K hn hg=>BN ok out many ks next P I K hn hg)
 refine⟨cls,ns,e,⟨P.len,fun i j hi hj e=>nl hT hi hj (I.1 i j hi hj e),fun i j hi hj e k hk=>?_,I.2⟩,Q,hr⟩
 have hA:=nl hT hi hj (I.1 i j hi hj e)
 exact (BM ok hA.len (F8 P K vJ hi hj e)).2 k hk
end Go.Proofs.YtmekcfdllhphlaaDoor
namespace Go.Proofs.YtmekcfdllhphlaaDoor
open Go Go.R
open Go.IntKind (i64 u64 u8 u32)
def dz.l0 (m:Nat)(n0:aa)(qp:List Bool):Nat→Int→Option (Sum Bool (Int))
 | 0,_=>none
 | k+1,i0=>if (decide (i0<(n0.args.length:Int)))=true then ((ix n0.args i0).bind fun v0=>(ix qp v0).bind fun v1=>if (!v1)=true then (some (.inl false)) else (dz.l0 m n0 qp k (i64.wrap (i0+(1:Int))))) else (some (.inr i0))
def dz.f (m:Nat)(n0:aa)(qp:List Bool):Option (Bool):=(dz.l0 m n0 qp m (0:Int)).bind fun bR=>match bR with | .inl r0=>some r0 | .inr i1=>some true
end Go.Proofs.YtmekcfdllhphlaaDoor
namespace Go.Proofs.YtmekcfdllhphlaaDoor
open Go Go.R
open Go.IntKind (i64 u64 u8 u32)
def ir.f (m:Nat)(a0:aa)(b0:aa):Option (Bool):=if (a0.kind==b0.kind)=true then (if (a0.int==b0.int)=true then (if (a0.label.data.toList==b0.label.data.toList)=true then (some ((a0.args.length:Int)==(b0.args.length:Int))) else (some false)) else (some false)) else (some false)
end Go.Proofs.YtmekcfdllhphlaaDoor
namespace Go.Proofs.YtmekcfdllhphlaaDoor
open Go Go.R
open Go.IntKind (i64 u64 u8 u32)
def bZ.l0 (m:Nat)(a0:aa)(b0:aa)(fQ:List Int):Nat→Int→Option (Sum Bool (Int))
 | 0,_=>none
 | k+1,i0=>if (decide (i0<(a0.args.length:Int)))=true then ((ix a0.args i0).bind fun v0=>(ix fQ v0).bind fun v1=>(ix b0.args i0).bind fun v2=>(ix fQ v2).bind fun v3=>if (!(v1==v3))=true then (some (.inl false)) else (bZ.l0 m a0 b0 fQ k (i64.wrap (i0+(1:Int))))) else (some (.inr i0))
def bZ.f (m:Nat)(a0:aa)(b0:aa)(fQ:List Int):Option (Bool):=(bZ.l0 m a0 b0 fQ m (0:Int)).bind fun bR=>match bR with | .inl r0=>some r0 | .inr i1=>some true
end Go.Proofs.YtmekcfdllhphlaaDoor
namespace Go.Proofs.YtmekcfdllhphlaaDoor
open Go Go.R
open Go.IntKind (i64 u64 u8 u32)
def dc.l0 (m:Nat)(l0:List aa)(nU:List Int)(n0:Int)(fQ:List Int):Nat→Int→Option (Sum Int (Int))
 | 0,_=>none
 | k+1,k0=>if (decide (k0<(nU.length:Int)))=true then ((ix l0 n0).bind fun v0=>(ix nU k0).bind fun v1=>(ix l0 v1).bind fun v2=>(ir.f m v0 v2).bind fun x0=>if x0=true then ((ix l0 n0).bind fun v3=>(ix nU k0).bind fun v4=>(ix l0 v4).bind fun v5=>(bZ.f m v3 v5 fQ).bind fun x1=>if x1=true then ((ix nU k0).bind fun v6=>some (.inl v6)) else (dc.l0 m l0 nU n0 fQ k (i64.wrap (k0+(1:Int))))) else (dc.l0 m l0 nU n0 fQ k (i64.wrap (k0+(1:Int))))) else (some (.inr k0))
def dc.f (m:Nat)(l0:List aa)(nU:List Int)(n0:Int)(fQ:List Int):Option (Int):=(dc.l0 m l0 nU n0 fQ m (0:Int)).bind fun bR=>match bR with | .inl r0=>some r0 | .inr k1=>some n0
end Go.Proofs.YtmekcfdllhphlaaDoor
namespace Go.Proofs.YtmekcfdllhphlaaDoor
open Go Go.R
open Go.IntKind (i64 u64 u8 u32)
def ak.l1 (m:Nat)(l0:List aa):Nat→(List Int)→(List Bool)→(List Int)→Bool→Int→Option ((List Int) × (List Bool) × (List Int) × Bool × Int)
 | 0,_,_,_,_,_=>none
 | k+1,j6,mo,kx,BO,i0=>if (decide (i0≥(0:Int)))=true then ((ix mo i0).bind fun v0=>if v0=true then (ak.l1 m l0 k j6 mo kx BO (i64.wrap (i0 - (1:Int)))) else ((ix l0 i0).bind fun v1=>(dz.f m v1 mo).bind fun x2=>if (!x2)=true then (ak.l1 m l0 k j6 mo kx BO (i64.wrap (i0 - (1:Int)))) else ((dc.f m l0 kx i0 j6).bind fun x3=>(ix j6 i0).bind fun v2=>(ix (j6.set i0.toNat x3) i0).bind fun v3=>if (v3==i0)=true then ((app 8 kx ([i0])).bind fun x4=>(ix mo i0).bind fun v4=>ak.l1 m l0 k (j6.set i0.toNat x3) (mo.set i0.toNat true) x4 true (i64.wrap (i0 - (1:Int)))) else ((ix mo i0).bind fun v5=>ak.l1 m l0 k (j6.set i0.toNat x3) (mo.set i0.toNat true) kx true (i64.wrap (i0 - (1:Int))))))) else (some ((j6,mo,kx,BO,i0)))
def ak.l0 (m:Nat)(l0:List aa):Nat→(List Int)→(List Bool)→(List Int)→Bool→Option ((List Int) × (List Bool) × (List Int) × Bool)
 | 0,_,_,_,_=>none
 | k+1,fQ,qp,yf,Em=>if Em=true then ((ak.l1 m l0 m fQ qp yf false (i64.wrap ((l0.length:Int) - (1:Int)))).bind fun bR=>match bR with | (F9,It,DE,Iu,i1)=>ak.l0 m l0 k F9 It DE Iu) else (some ((fQ,qp,yf,Em)))
def ak.l3 (m:Nat)(l0:List aa)(i2:Int)(x5:List Int):Nat→(List Int)→Int→Option ((List Int) × Int)
 | 0,_,_=>none
 | k+1,lk,k0=>(ix lk i2).bind fun v8=>if (v8==i2)=true then ((ix x5 k0).bind fun v9=>if (decide (v9<i2))=true then ((ix l0 i2).bind fun v10=>(ix x5 k0).bind fun v11=>(ix l0 v11).bind fun v12=>(ir.f m v10 v12).bind fun x6=>if x6=true then ((ix x5 k0).bind fun FG=>(ix lk FG).bind fun Ij=>(ix lk i2).bind fun DF=>ak.l3 m l0 i2 x5 k (lk.set i2.toNat Ij) (i64.wrap (k0+(1:Int)))) else (ak.l3 m l0 i2 x5 k lk (i64.wrap (k0+(1:Int))))) else (some ((lk,k0)))) else (some ((lk,k0)))
def ak.l2 (m:Nat)(l0:List aa)(uK:List Bool):Nat→(List Int)→(List Int)→Int→Option ((List Int) × (List Int) × Int)
 | 0,_,_,_=>none
 | k+1,s8,BP,i2=>if (decide (i2<(l0.length:Int)))=true then ((ix uK i2).bind fun v6=>if v6=true then (ak.l2 m l0 uK k s8 BP (i64.wrap (i2+(1:Int)))) else ((app 8 BP ([i2])).bind fun x5=>(ix s8 i2).bind fun v7=>(ak.l3 m l0 i2 x5 m (s8.set i2.toNat i2) (0:Int)).bind fun iT=>match iT with | (Ga,k1)=>ak.l2 m l0 uK k Ga x5 (i64.wrap (i2+(1:Int))))) else (some ((s8,BP,i2)))
def ak.l6 (m:Nat)(l0:List aa)(gz:List Int)(fh:List Int)(j0:Int)(tk:Int):Nat→(List Int)→Int→Option ((List Int) × Int)
 | 0,_,_=>none
 | k+1,fq,k2=>(ix fq tk).bind fun Pl=>if (Pl==tk)=true then (if (decide (k2<j0))=true then ((ix fh tk).bind fun Pm=>(ix gz k2).bind fun v20=>(ix fh v20).bind fun v21=>if (Pm==v21)=true then ((ix l0 tk).bind fun Pn=>(ix gz k2).bind fun Po=>(ix l0 Po).bind fun v24=>(bZ.f m Pn v24 fh).bind fun x8=>if x8=true then ((ix gz k2).bind fun Pp=>(ix fq Pp).bind fun Pq=>(ix fq tk).bind fun QH=>ak.l6 m l0 gz fh j0 tk k (fq.set tk.toNat Pq) (i64.wrap (k2+(1:Int)))) else (ak.l6 m l0 gz fh j0 tk k fq (i64.wrap (k2+(1:Int))))) else (ak.l6 m l0 gz fh j0 tk k fq (i64.wrap (k2+(1:Int))))) else (some ((fq,k2)))) else (some ((fq,k2)))
def ak.l5 (m:Nat)(l0:List aa)(gz:List Int)(fh:List Int):Nat→Bool→(List Int)→Int→Option (Bool × (List Int) × Int)
 | 0,_,_,_=>none
 | k+1,En,bW,j0=>if (decide (j0<(gz.length:Int)))=true then ((ix gz j0).bind fun tk=>(ix bW tk).bind fun MY=>(ak.l6 m l0 gz fh j0 tk m (bW.set tk.toNat tk) (0:Int)).bind fun bV=>match bV with | (BQ,k3)=>if En=true then (ak.l5 m l0 gz fh k true BQ (i64.wrap (j0+(1:Int)))) else ((ix BQ tk).bind fun v28=>(ix fh tk).bind fun Pt=>ak.l5 m l0 gz fh k (!(v28==Pt)) BQ (i64.wrap (j0+(1:Int))))) else (some ((En,bW,j0)))
def ak.l4 (m:Nat)(l0:List aa)(gz:List Int):Nat→(List Int)→Bool→Option ((List Int) × Bool)
 | 0,_,_=>none
 | k+1,fh,Eo=>if Eo=true then ((app 8 ([]:List Int) fh).bind fun x7=>(ak.l5 m l0 gz fh m false x7 (0:Int)).bind fun zu=>match zu with | (Iv,Iw,j1)=>ak.l4 m l0 gz k Iw Iv) else (some ((fh,Eo)))
def ak.f (m:Nat)(l0:List aa):Option ((List Int)):=(qO 8 (l0.length:Int) (0:Int)).bind fun x0=>(qO 1 (l0.length:Int) false).bind fun x1=>(ak.l0 m l0 m x0 x1 ([]:List Int) true).bind fun b5=>match b5 with | (Gb,uK,Je,MZ)=>(ak.l2 m l0 uK m Gb ([]:List Int) (0:Int)).bind fun mb=>match mb with | (Gc,gz,i3)=>(ak.l4 m l0 gz m Gc true).bind fun wI=>match wI with | (Gd,M0)=>some Gd
end Go.Proofs.YtmekcfdllhphlaaDoor
namespace Go.Proofs.YtmekcfdllhphlaaDoor
open Go Go.R
open Go.IntKind (i64 u64 u8 u32)
def gb (l:List Bool)(k:Nat):Bool:=l.getD k false
theorem DG {l:List Bool}{k:Nat}(h:k<l.length):l[k]? = some (gb l k):=by
 unfold gb; rw [Q5,QZ h]; rfl
theorem yg {l:List Bool}{i:Int}(h0:0≤i)(h:i.toNat<l.length):ix l i=some (gb l i.toNat):=by
 unfold ix; rw [if_pos h0,DG h]
theorem BR {l:List Bool}{i k:Nat}{x:Bool}(hi:i<l.length):gb (l.set i x) k=if k=i then x else gb l k:=by
 unfold gb
 simp only [Q5,Sj]
 by_cases h:i=k
 ·subst h; simp [hi]
 ·rw [if_neg h,if_neg (by omega)]
def ar (l:List aa)(i k:Nat):Nat:=(gt (nd l i).args k).toNat
def na (l:List aa)(i:Nat):Nat:=(nd l i).args.length
theorem iu {l:List aa}(ok:iD l){i k:Nat}(hi:i<l.length)(hk:k<na l i):ar l i k<l.length∧gt (nd l i).args k=(ar l i k:Int):=by
 obtain⟨h0,h1⟩:=(rQ ok hi).2 _ (aE (l:=(nd l i).args) (k:=k) hk)
 unfold ar; omega
theorem yh {l:List aa}(ok:iD l){i:Nat}(hi:i<l.length):na l i≤8:=(rQ ok hi).1
theorem qu {m:Nat}(a b:aa):∃x,ir.f m a b=some x∧(x=true↔Alike a b):=by
 unfold ir.f
 by_cases h1:a.kind=b.kind
 ·rw [if_pos (by simpa using h1)]
  by_cases h2:a.int=b.int
  ·rw [if_pos (by simpa using h2)]
   by_cases h3:a.label=b.label
   ·rw [if_pos (by rw [h3]; simp)]
    refine⟨_,rfl,⟨fun h=>⟨h1,h2,h3,by have:=beq_iff_eq.1 h; omega⟩,fun h=>by have:=h.len; rw [beq_iff_eq]; omega⟩⟩
   ·rw [if_neg (fun h=>h3 (wN (by simpa using h)))]
    exact⟨_,rfl,⟨fun h=>(by cases h),fun h=>absurd h.label h3⟩⟩
  ·rw [if_neg (by simpa using h2)]
   exact⟨_,rfl,⟨fun h=>(by cases h),fun h=>absurd h.int h2⟩⟩
 ·rw [if_neg (by simpa using h1)]
  exact⟨_,rfl,⟨fun h=>(by cases h),fun h=>absurd h.kind h1⟩⟩
def SA (l:List aa)(c:List Int)(i j:Nat):Prop:=∀k,k<na l i→gt c (ar l i k)=gt c (ar l j k)
theorem Ep {m:Nat}{l:List aa}{c:List Int}(ok:iD l)(hc:c.length=l.length){i j:Nat}(hi:i<l.length)(hj:j<l.length)(hl:na l i=na l j):∀(f k:Nat),na l i - k<f→k≤na l i→
  ∃o,bZ.l0 m (nd l i) (nd l j) c f (k:Int)=some o∧((∃x,o = .inr x)∧(∀q,k≤q→q<na l i→gt c (ar l i q)=gt c (ar l j q))∨o = .inl false∧∃q,q<na l i∧gt c (ar l i q)≠gt c (ar l j q))
 | 0,k,hf,_=>absurd hf (by omega)
 | f+1,k,hf,hk=>by
  have h8:=yh ok hi
  unfold bZ.l0
  by_cases h:k<na l i
  ·obtain⟨a1,a2⟩:=iu ok hi h
   obtain⟨b1,b2⟩:=iu ok hj (show k<na l j by omega)
   have e1:ix c (gt (nd l i).args k)=some (gt c (ar l i k)):=ef a2 (by omega)
   have e2:ix c (gt (nd l j).args k)=some (gt c (ar l j k)):=ef b2 (by omega)
   rw [if_pos (by simp only [decide_eq_true_eq]; unfold na at h; omega),bH (l:=(nd l i).args) h,QM,e1,QM,bH (l:=(nd l j).args) (show k<(nd l j).args.length by unfold na at hl h; omega),QM,e2,QM]
   by_cases e:gt c (ar l i k)=gt c (ar l j k)
   ·obtain⟨o,k1,k2⟩:=Ep (m:=m) ok hc hi hj hl f (k+1) (by omega) (by omega)
    rw [if_neg (by simp [e]),aD (by omega) (by omega),show (k:Int)+1=((k+1:Nat):Int) by omega,k1]
    refine⟨o,rfl,k2.imp (fun ⟨x,y⟩=>⟨x,fun q q1 q2=>?_⟩) id⟩
    by_cases hq:q=k
    ·subst hq; exact e
    ·exact y q (by omega) q2
   ·rw [if_pos (by simpa using e)]
    exact⟨_,rfl,.inr ⟨rfl,k,h,e⟩⟩
  ·refine⟨_,by rw [if_neg (by simp only [decide_eq_true_eq]; unfold na at h; omega)],.inl ⟨⟨_,rfl⟩,fun q q1 q2=>absurd q2 (by omega)⟩⟩
theorem yi {m:Nat}(hm:2 ^ 30≤m){l:List aa}{c:List Int}(ok:iD l)(hc:c.length=l.length){i j:Nat}(hi:i<l.length)(hj:j<l.length)(hl:na l i=na l j):∃x,bZ.f m (nd l i) (nd l j) c=some x∧(x=true↔SA l c i j):=by
 have lz:(2:Nat) ^ 30=1073741824:=by decide
 have h8:=yh ok hi
 obtain⟨o,k1,k2⟩:=Ep (m:=m) ok hc hi hj hl m 0 (by omega) (by omega)
 have k1:bZ.l0 m (nd l i) (nd l j) c m 0=_:=k1
 unfold bZ.f
 rw [k1,QM]
 rcases k2 with⟨⟨x,rfl⟩,k⟩| ⟨rfl,q,q1,q2⟩
 ·exact⟨true,rfl,⟨fun _ k0 hk=>k k0 (by omega) hk,fun _=>rfl⟩⟩
 ·exact⟨false,rfl,⟨fun h=>(by cases h),fun h=>absurd (h q q1) q2⟩⟩
def M3 (l:List aa)(dn:List Bool)(i:Nat):Prop:=∀k,k<na l i→gb dn (ar l i k)=true
theorem BS {m:Nat}{l:List aa}{dn:List Bool}(ok:iD l)(hd:dn.length=l.length){i:Nat}(hi:i<l.length):∀(f k:Nat),na l i - k<f→k≤na l i→
  ∃o,dz.l0 m (nd l i) dn f (k:Int)=some o∧((∃x,o = .inr x)∧(∀q,k≤q→q<na l i→gb dn (ar l i q)=true)∨o = .inl false∧∃q,q<na l i∧gb dn (ar l i q)=false)
 | 0,k,hf,_=>absurd hf (by omega)
 | f+1,k,hf,hk=>by
  have h8:=yh ok hi
  unfold dz.l0
  by_cases h:k<na l i
  ·obtain⟨a1,a2⟩:=iu ok hi h
   have e1:ix dn (gt (nd l i).args k)=some (gb dn (ar l i k)):=by
    have:=yg (l:=dn) (i:=gt (nd l i).args k) (by omega) (by rw [a2,QT]; omega)
    rw [this,a2,QT]
   rw [if_pos (by simp only [decide_eq_true_eq]; unfold na at h; omega),bH (l:=(nd l i).args) h,QM,e1,QM]
   cases e:gb dn (ar l i k) with
   | true=>
    obtain⟨o,k1,k2⟩:=BS (m:=m) ok hd hi f (k+1) (by omega) (by omega)
    rw [if_neg (by simp),aD (by omega) (by omega),show (k:Int)+1=((k+1:Nat):Int) by omega,k1]
    refine⟨o,rfl,k2.imp (fun ⟨x,y⟩=>⟨x,fun q q1 q2=>?_⟩) id⟩
    by_cases hq:q=k
    ·subst hq; exact e
    ·exact y q (by omega) q2
   | false=>exact⟨_,rfl,.inr ⟨rfl,k,h,e⟩⟩
  ·refine⟨_,by rw [if_neg (by simp only [decide_eq_true_eq]; unfold na at h; omega)],.inl ⟨⟨_,rfl⟩,fun q q1 q2=>absurd q2 (by omega)⟩⟩
theorem BT {m:Nat}(hm:2 ^ 30≤m){l:List aa}{dn:List Bool}(ok:iD l)(hd:dn.length=l.length){i:Nat}(hi:i<l.length):∃x,dz.f m (nd l i) dn=some x∧(x=true→M3 l dn i)∧(x=false→∃q,q<na l i∧gb dn (ar l i q)=false):=by
 have lz:(2:Nat) ^ 30=1073741824:=by decide
 have h8:=yh ok hi
 obtain⟨o,k1,k2⟩:=BS (m:=m) ok hd hi m 0 (by omega) (by omega)
 have k1:dz.l0 m (nd l i) dn m 0=_:=k1
 unfold dz.f
 rw [k1,QM]
 rcases k2 with⟨⟨x,rfl⟩,k⟩| ⟨rfl,hq⟩
 ·exact⟨true,rfl,fun _ k0 hk=>k k0 (by omega) hk,fun h=>by cases h⟩
 ·exact⟨false,rfl,fun h=>(by cases h),fun _=>hq⟩
def nV (l:List aa)(c:List Int)(i j:Nat):Prop:=Alike (nd l i) (nd l j)∧SA l c i j
theorem yj {m:Nat}(hm:2 ^ 30≤m){l:List aa}{c fs:List Int}(ok:iD l)(hc:c.length=l.length){i:Nat}(hi:i<l.length)(hf:∀f∈fs,0≤f∧f<l.length)(Fh:fs.length≤8000):∀(f k:Nat),fs.length - k<f→k≤fs.length→
  ∃o,dc.l0 m l fs (i:Int) c f (k:Int)=some o∧((∃x,o = .inr x)∧(∀q,k≤q→q<fs.length→¬nV l c i (gt fs q).toNat)∨∃v,o = .inl v∧v∈fs∧nV l c i v.toNat)
 | 0,k,h,_=>absurd h (by omega)
 | f+1,k,h,hk=>by
  unfold dc.l0
  by_cases CN:k<fs.length
  ·obtain⟨b0,b1⟩:=hf _ (aE CN)
   have Ix:((gt fs k).toNat:Int)=gt fs k:=by omega
   obtain⟨xa,a1,a2⟩:=qu (m:=m) (nd l (i:Int)) (nd l (gt fs k))
   have ih:=yj hm ok hc hi hf Fh f (k+1) (by omega) (by omega)
   obtain⟨o,k1,k2⟩:=ih
   have next:¬nV l c i (gt fs k).toNat→∃o',(dc.l0 m l fs (i:Int) c f (i64.wrap ((k:Int)+1)))=some o'∧((∃x,o' = .inr x)∧(∀q,k≤q→q<fs.length→¬nV l c i (gt fs q).toNat)∨∃v,o' = .inl v∧v∈fs∧nV l c i v.toNat):=fun hn=>by
    rw [aD (by omega) (by omega),show (k:Int)+1=((k+1:Nat):Int) by omega,k1]
    refine⟨o,rfl,k2.imp (fun ⟨x,y⟩=>⟨x,fun q q1 q2=>?_⟩) id⟩
    by_cases hq:q=k
    ·subst hq; exact hn
    ·exact y q (by omega) q2
   rw [if_pos (by simp only [decide_eq_true_eq]; omega),eX (by omega) (by omega),QM,bH CN,QM,eX b0 b1,QM,a1,QM]
   cases xa with
   | false=>
    rw [if_neg (by simp)]
    refine next fun hs=>?_
    have:=a2.2 (by have:=hs.1; rw [Ix] at this; exact this)
    cases this
   | true=>
    have hA:=a2.1 rfl
    have hl:na l i=na l (gt fs k).toNat:=by unfold na; rw [Ix]; exact hA.len
    obtain⟨xs,s1,s2⟩:=yi hm ok hc hi (j:=(gt fs k).toNat) (by omega) hl
    rw [Ix] at s1
    rw [if_pos rfl,QM,QM,eX b0 b1,QM,s1,QM]
    cases xs with
    | false=>
     rw [if_neg (by simp)]
     refine next fun hs=>?_
     have:=s2.2 hs.2; cases this
    | true=>
     exact⟨_,rfl,.inr ⟨_,rfl,aE CN,by rw [Ix]; exact hA,s2.1 rfl⟩⟩
  ·exact⟨_,by rw [if_neg (by simp only [decide_eq_true_eq]; omega)],.inl ⟨⟨_,rfl⟩,fun q q1 q2=>absurd q2 (by omega)⟩⟩
theorem find_spec {m:Nat}(hm:2 ^ 30≤m){l:List aa}{c fs:List Int}(ok:iD l)(hc:c.length=l.length){i:Nat}(hi:i<l.length)(hf:∀f∈fs,0≤f∧f<l.length)(Fh:fs.length≤8000) :
  ∃v,dc.f m l fs (i:Int) c=some v∧(v=i∧(∀f∈fs,¬nV l c i f.toNat)∨v∈fs∧nV l c i v.toNat):=by
 have lz:(2:Nat) ^ 30=1073741824:=by decide
 obtain⟨o,k1,k2⟩:=yj hm ok hc hi hf Fh m 0 (by omega) (by omega)
 have k1:dc.l0 m l fs (i:Int) c m 0=_:=k1
 unfold dc.f
 rw [k1,QM]
 rcases k2 with⟨⟨x,rfl⟩,k⟩| ⟨v,rfl,hv,hs⟩
 ·refine⟨_,rfl,.inl ⟨rfl,fun f hf=>?_⟩⟩
  obtain⟨q,hq,e⟩:=dt hf
  rw [←e]; exact k q (by omega) hq
 ·exact⟨v,rfl,.inr ⟨hv,hs⟩⟩
end Go.Proofs.YtmekcfdllhphlaaDoor
namespace Go.Proofs.YtmekcfdllhphlaaDoor
open Go Go.R
open Go.IntKind (i64 u64 u8 u32)
def a8.l1 (m:Nat)(l0:List aa)(v0:Int):Nat→(List Int)→Int→Option ((List Int) × Int)
 | 0,_,_=>none
 | k+1,BU,i0=>if (decide (i0≥(0:Int)))=true then ((ix l0 v0).bind fun v5=>(ix v5.args i0).bind fun v6=>(app 8 BU ([v6])).bind fun x3=>a8.l1 m l0 v0 k x3 (i64.wrap (i0 - (1:Int)))) else (some ((BU,i0)))
def a8.l0 (m:Nat)(l0:List aa):Nat→(List Bool)→(List Int)→(List Int)→Option ((List Bool) × (List Int) × (List Int))
 | 0,_,_,_=>none
 | k+1,BV,bR,nn=>if (decide ((nn.length:Int) > (0:Int)))=true then ((ix nn (i64.wrap ((nn.length:Int) - (1:Int)))).bind fun v0=>(J5 nn 0 (i64.wrap ((nn.length:Int) - (1:Int)))).bind fun v1=>(ix BV v0).bind fun v2=>if v2=true then (a8.l0 m l0 k BV bR v1) else ((ix BV v0).bind fun v3=>(app 8 bR ([v0])).bind fun x2=>(ix l0 v0).bind fun v4=>(a8.l1 m l0 v0 m v1 (i64.wrap ((v4.args.length:Int) - (1:Int)))).bind fun b5=>match b5 with | (Ge,i1)=>a8.l0 m l0 k (BV.set v0.toNat true) x2 Ge)) else (some ((BV,bR,nn)))
def a8.f (m:Nat)(l0:List aa)(BW:Int):Option ((List Int)):=(qO 1 (l0.length:Int) false).bind fun x0=>(app 8 ([]:List Int) ([BW])).bind fun x1=>(a8.l0 m l0 m x0 ([]:List Int) x1).bind fun mb=>match mb with | (Pu,iT,Lm)=>some iT
end Go.Proofs.YtmekcfdllhphlaaDoor
namespace Go.Proofs.YtmekcfdllhphlaaDoor
open Go Go.R
open Go.IntKind (i64 u64 u8 u32)
inductive qv (κ:Int→Int)(A:Int→List Int):List Int→List Int→List Int→Prop
 | nil (o:List Int):qv κ A [] o o
 | skip {v:Int} {st o o':List Int}:κ v∈o.map κ→qv κ A st o o'→qv κ A (v::st) o o'
 | push {v:Int} {st o o':List Int}:κ v∉o.map κ→qv κ A (A v++st) (o++[v]) o'→qv κ A (v::st) o o'
theorem qv.M4 {κ:Int→Int}{A:Int→List Int}{st o o1 o2:List Int}(h:qv κ A st o o1)(k:qv κ A st o o2):o1=o2:=by
 induction h with
 | nil o=>cases k; rfl
 | skip hm _ ih=>
  cases k with
  | skip _ k=>exact ih k
  | push hn _=>exact absurd hm hn
 | push hn _ ih=>
  cases k with
  | skip hm _=>exact absurd hm hn
  | push _ k=>exact ih k
theorem qv.facts {κ:Int→Int}{A:Int→List Int}{n:Nat}{st o o':List Int}(h:qv κ A st o o')(hA:∀v:Int,0≤v→v<n→∀a∈A v,0≤a∧a<n)(hst:∀v∈st,0≤v∧v<n)(ho:∀v∈o,0≤v∧v<n)(wL:(o.map κ).Nodup) :
  (∃t,o'=o++t)∧(∀v∈o',0≤v∧v<n)∧(o'.map κ).Nodup∧(∀v∈st,κ v∈o'.map κ)∧((∀v∈o,∀a∈A v,κ a∈o.map κ∨a∈st)→∀v∈o',∀a∈A v,κ a∈o'.map κ):=by
 induction h with
 | nil o=>
  refine⟨⟨[],by simp⟩,ho,wL,?_,?_⟩
  ·intro v hv; cases hv
  ·intro h v hv a ha; exact (h v hv a ha).resolve_right (by simp)
 | @skip v st o o' hm _ ih=>
  obtain⟨⟨t,rfl⟩,a,b,c,d⟩:=ih (fun x hx=>hst x (by simp [hx])) ho wL
  refine⟨⟨t,rfl⟩,a,b,fun x hx=>?_,fun h=>d fun x hx y hy=>?_⟩
  ·rcases Rt.1 hx with rfl | hx
   ·rw [Ri]; exact Rx _ hm
   ·exact c x hx
  ·rcases h x hx y hy with h | h
   ·exact .inl h
   ·rcases Rt.1 h with rfl | h
    ·exact .inl hm
    ·exact .inr h
 | @push v st o o' hn _ ih=>
  have hv:=hst v (by simp)
  have h1:∀x∈A v++st,0≤x∧x<n:=fun x hx=>by
   rcases Q7.1 hx with hx | hx
   ·exact hA v hv.1 hv.2 x hx
   ·exact hst x (by simp [hx])
  have h2:∀x∈o++[v],0≤x∧x<n:=fun x hx=>by
   rcases Q7.1 hx with hx | hx
   ·exact ho x hx
   ·rw [QY] at hx; subst hx; exact hv
  have h3:((o++[v]).map κ).Nodup:=by
   rw [Ri,R0]
   refine⟨wL,by simp,fun a ha b hb=>?_⟩
   simp only [Rq,List.map_nil,QY] at hb
   subst hb; intro e; subst e; exact hn ha
  obtain⟨⟨t,rfl⟩,a,b,c,d⟩:=ih h1 h2 h3
  refine⟨⟨[v]++t,by simp⟩,a,b,fun x hx=>?_,fun h=>d fun x hx y hy=>?_⟩
  ·rcases Rt.1 hx with rfl | hx
   ·simp
   ·exact c x (by simp [hx])
  ·rcases Q7.1 hx with hx | hx
   ·rcases h x hx y hy with h | h
    ·exact .inl (by rw [Ri]; exact Rx _ h)
    ·rcases Rt.1 h with rfl | h
     ·exact .inl (by simp)
     ·exact .inr (by simp [h])
   ·rw [QY] at hx; subst hx
    exact .inr (Rx _ hy)
theorem qv.from {A:Int→List Int}{root:Int}{st o o':List Int}(h:qv id A st o o')(hst:∀v∈st,v=root∨∃q,q<o.length∧v∈A (gt o q))(ho:∀i,i<o.length→gt o i=root∨∃q,q<i∧gt o i∈A (gt o q)) :
  ∀i,i<o'.length→gt o' i=root∨∃q,q<i∧gt o' i∈A (gt o' q):=by
 induction h with
 | nil o=>exact ho
 | skip hm _ ih=>exact ih (fun x hx=>hst x (by simp [hx])) ho
 | @push v st o o' hn _ ih=>
  have gl:∀q,q<o.length→gt (o++[v]) q=gt o q:=fun q hq=>dI hq
  have gv:gt (o++[v]) o.length=v:=by unfold gt; rw [Q5,Rg (QS _),Sf]; rfl
  refine ih (fun x hx=>?_) (fun i hi=>?_)
  ·rcases Q7.1 hx with hx | hx
   ·exact .inr ⟨o.length,by simp,by rw [gv]; exact hx⟩
   ·rcases hst x (by simp [hx]) with h | ⟨q,q1,q2⟩
    ·exact .inl h
    ·exact .inr ⟨q,by simp; omega,by rw [gl q q1]; exact q2⟩
  ·by_cases h:i<o.length
   ·rw [gl i h]
    rcases ho i h with h1 | ⟨q,q1,q2⟩
    ·exact .inl h1
    ·exact .inr ⟨q,q1,by rw [gl q (by omega)]; exact q2⟩
   ·have e:i=o.length:=by simp at hi; omega
    subst e
    rw [gv]
    rcases hst v (by simp) with h | ⟨q,q1,q2⟩
    ·exact .inl h
    ·exact .inr ⟨q,q1,by rw [gl q q1]; exact q2⟩
theorem uL (cls:List Int)(l:List aa)(k:Nat)(i:Int)(o:List Int):nT cls l (k+1) i o=if cW cls i∈o.map (cW cls) then o else (nd l i).args.foldl (fun o a=>nT cls l k a o) (o++[i]):=rfl
theorem BX {cls:List Int}{l:List aa}(ok:iD l):∀(k:Nat) (i:Int) (o:List Int),0≤i→i<l.length→Vs cls l.length o→Vs cls l.length (nT cls l k i o)∧o.length≤(nT cls l k i o).length
 | 0,i,o,_,_,v=>⟨v,QS _⟩
 | k+1,i,o,h0,h1,v=>by
  rw [uL]
  split
  ·exact⟨v,QS _⟩
  ·rename_i h
   have v1:Vs cls l.length (o++[i]):=by
    refine⟨?_,fun x hx=>?_⟩
    ·rw [Ri,R0]
     refine⟨v.CF,by simp,fun a ha b hb=>?_⟩
     simp only [Rq,List.map_nil,QY] at hb
     subst hb; intro e; subst e; exact h ha
    ·rcases Q7.1 hx with hx | hx
     ·exact v.jx x hx
     ·simp only [QY] at hx; subst hx; exact⟨h0,h1⟩
   have fold:∀(zs:List Int) (o:List Int),(∀a∈zs,0≤a∧a<l.length)→Vs cls l.length o→Vs cls l.length (zs.foldl (fun o a=>nT cls l k a o) o)∧o.length≤(zs.foldl (fun o a=>nT cls l k a o) o).length:=by
    intro zs
    induction zs with
    | nil=>intro o _ v; exact⟨v,QS _⟩
    | cons a zs ih=>
     intro o ha v
     have hr:=ha a (by simp)
     obtain⟨v2,l2⟩:=BX ok k a o hr.1 hr.2 v
     obtain⟨v3,l3⟩:=ih (nT cls l k a o) (fun x hx=>ha x (by simp [hx])) v2
     exact⟨v3,RG l2 l3⟩
   obtain⟨v2,l2⟩:=fold (nd l i).args (o++[i]) (ok.2 _ (dq h0 h1)).2 v1
   exact⟨v2,by simp at l2; omega⟩
theorem mr {cls:List Int}{l:List aa}(ok:iD l):∀(k:Nat) (i:Int) (o st o':List Int),0≤i→i<l.length→Vs cls l.length o→l.length<k+o.length→
  qv (cW cls) (fun v=>(nd l v).args) st (nT cls l k i o) o'→qv (cW cls) (fun v=>(nd l v).args) (i::st) o o'
 | 0,i,o,st,o',_,_,v,hk,_=>absurd v.zx (by omega)
 | k+1,i,o,st,o',h0,h1,v,hk,h=>by
  rw [uL] at h
  by_cases hm:cW cls i∈o.map (cW cls)
  ·rw [if_pos hm] at h
   exact .skip hm h
  ·rw [if_neg hm] at h
   refine .push hm ?_
   have v1:Vs cls l.length (o++[i]):=by
    refine⟨?_,fun x hx=>?_⟩
    ·rw [Ri,R0]
     refine⟨v.CF,by simp,fun a ha b hb=>?_⟩
     simp only [Rq,List.map_nil,QY] at hb
     subst hb; intro e; subst e; exact hm ha
    ·rcases Q7.1 hx with hx | hx
     ·exact v.jx x hx
     ·simp only [QY] at hx; subst hx; exact⟨h0,h1⟩
   have fold:∀(zs:List Int) (o:List Int),(∀a∈zs,0≤a∧a<l.length)→Vs cls l.length o→l.length<k+o.length→qv (cW cls) (fun v=>(nd l v).args) st (zs.foldl (fun o a=>nT cls l k a o) o) o'→qv (cW cls) (fun v=>(nd l v).args) (zs++st) o o':=by
    intro zs
    induction zs with
    | nil=>intro o _ _ _ h; exact h
    | cons a zs ih=>
     intro o ha v hk h
     have hr:=ha a (by simp)
     obtain⟨v2,l2⟩:=BX ok k a o hr.1 hr.2 v
     exact mr ok k a o (zs++st) o' hr.1 hr.2 v hk (ih _ (fun x hx=>ha x (by simp [hx])) v2 (by omega) h)
   exact fold (nd l i).args (o++[i]) (ok.2 _ (dq h0 h1)).2 v1 (by simp; omega) h
theorem mu {od:List Int}{n:Nat}(h:od.Nodup)(hr:∀x∈od,0≤x∧x<n):od.length≤n:=by
 have:=h.length_le_of_subset (l₂:=ints n) (fun x hx=>fP.2 (hr x hx))
 rwa [cJ] at this
theorem BY {m:Nat}{l:List aa}(ok:iD l){v:Int}(h0:0≤v)(h1:v<l.length):∀(f i:Nat) (st:List Int),i<f→i≤(nd l v).args.length→st.length+i≤1000000→
  ∃x,a8.l1 m l v f st ((i:Int) - 1)=some (st++((nd l v).args.take i).reverse,x)
 | 0,i,st,hf,_,_=>absurd hf (by omega)
 | f+1,0,st,hf,hi,hs=>by
  unfold a8.l1
  rw [if_neg (by simp)]
  exact⟨_,by simp; rfl⟩
 | f+1,i+1,st,hf,hi,hs=>by
  have h8:=(ok.2 _ (dq h0 h1)).1
  have ei:((i+1:Nat):Int) - 1=(i:Int):=by omega
  have ew:i64.wrap ((i:Int) - 1)=(i:Int) - 1:=aD (by omega) (by omega)
  have nJ:app 8 st [gt (nd l v).args i]=some (st++[gt (nd l v).args i]):=by unfold app; rw [if_pos (by simp; omega)]
  obtain⟨x,ih⟩:=BY (m:=m) ok h0 h1 f i (st++[gt (nd l v).args i]) (by omega) (by omega) (by simp; omega)
  refine⟨x,?_⟩
  unfold a8.l1
  rw [ei,if_pos (by simp),eX h0 h1,QM,bH (by omega),QM,nJ,QM,ew,ih]
  rw [RU,aV (by omega)]
  simp
theorem wO {m:Nat}(hm:2 ^ 30≤m){l:List aa}(ok:iD l):∀(f:Nat) (met:List Bool) (o st:List Int),st.length+9*(l.length - o.length)<f→st.length+9*(l.length - o.length)≤100000→met.length=l.length→(∀i,i<l.length→(gb met i=true↔(i:Int)∈o))→o.Nodup→(∀v∈o,0≤v∧v<l.length)→(∀v∈st,0≤v∧v<l.length)→
  ∃zB o' ,a8.l0 m l f met o st.reverse=some (zB,o',[])∧qv id (fun v=>(nd l v).args) st o o'
 | 0,met,o,st,hf,_,_,_,_,_,_=>absurd hf (by omega)
 | f+1,met,o,[],hf,hb,Hm,Iy,Jf,Jg,FT=>by
  unfold a8.l0
  rw [if_neg (by simp)]
  exact⟨met,o,rfl,.nil o⟩
 | f+1,met,o,v::st,hf,hb,Hm,Iy,Jf,Jg,FT=>by
  have lz:(2:Nat) ^ 30=1073741824:=by decide
  have F5:=mu Jf Jg
  obtain⟨v0,v1⟩:=FT v (by simp)
  have h8:=(ok.2 _ (dq v0 v1)).1
  have Ln:((v.toNat:Nat):Int)=v:=by omega
  simp only [RA] at hf hb
  have Pv:=ok.1
  unfold a8.l0
  have hlen:((v::st).reverse.length:Int)=(st.length:Int)+1:=by simp
  have ew:i64.wrap ((st.length:Int)+1 - 1)=(st.length:Int):=by rw [aD (by omega) (by omega)]; omega
  have e1:ix (v::st).reverse (st.length:Int)=some v:=by
   unfold ix
   rw [if_pos (by omega),QT,List.reverse_cons,Rg (by simp)]
   simp
  have e2:J5 (v::st).reverse 0 (st.length:Int)=some st.reverse:=by
   unfold J5
   rw [if_pos ⟨by omega,by omega,by simp; omega⟩,List.reverse_cons]
   simp only [QT,Rr,Int.toNat_zero,Nat.sub_zero]
   rw [List.take_left' (by simp)]
  have e3:ix met v=some (gb met v.toNat):=yg v0 (by omega)
  rw [if_pos (by rw [hlen]; simp only [gt_iff_lt,decide_eq_true_eq]; omega),hlen,ew,e1,QM,e2,QM,e3,QM]
  cases hg:gb met v.toNat with
  | true=>
   have sF:v∈o:=by have:=(Iy v.toNat (by omega)).1 hg; rwa [Ln] at this
   obtain⟨zB,o',k1,k2⟩:=wO hm ok f met o st (by omega) (by omega) Hm Iy Jf Jg (fun x hx=>FT x (by simp [hx]))
   rw [if_pos rfl]
   exact⟨zB,o',k1,.skip (by simpa using sF) k2⟩
  | false=>
   have M8:v∉o:=fun h=>by
    have:=(Iy v.toNat (by omega)).2 (by rw [Ln]; exact h)
    rw [hg] at this; cases this
   have M9:(o++[v]).Nodup:=by
    rw [R0]
    refine⟨Jf,by simp,fun a ha b hb=>?_⟩
    rw [QY] at hb
    subst hb; intro e; subst e; exact M8 ha
   have Na:∀x∈o++[v],0≤x∧x<l.length:=fun x hx=>by
    rcases Q7.1 hx with hx | hx
    ·exact Jg x hx
    ·rw [QY] at hx; subst hx; exact⟨v0,v1⟩
   have BF:=mu M9 Na
   simp only [Q0,RA,RN] at BF
   have nJ:app 8 o [v]=some (o++[v]):=by unfold app; rw [if_pos (by simp; omega)]
   have Pw:i64.wrap (((nd l v).args.length:Int) - 1)=((nd l v).args.length:Int) - 1:=aD (by omega) (by omega)
   obtain⟨x,q1⟩:=BY (m:=m) ok v0 v1 m (nd l v).args.length st.reverse (by omega) (QS _) (by simp; omega)
   rw [RV] at q1
   have Lp:st.reverse++(nd l v).args.reverse=((nd l v).args++st).reverse:=by simp
   rw [Lp] at q1
   rw [if_neg (by simp),QM,nJ,QM,eX v0 v1,QM,Pw,q1,QM]
   dsimp only
   obtain⟨zB,o',k1,k2⟩:=wO hm ok f (met.set v.toNat true) (o++[v]) ((nd l v).args++st) (by simp; omega) (by simp; omega) (by simpa using Hm) (fun i hi=>by
    rw [BR (by omega),Q7,QY]
    by_cases e:i=v.toNat
    ·subst e; simp [Ln]
    ·rw [if_neg e,Iy i hi]
     constructor
     ·exact fun h=>.inl h
     ·rintro (h | h)
      ·exact h
      ·omega) M9 Na (fun x hx=>by
    rcases Q7.1 hx with hx | hx
    ·exact (ok.2 _ (dq v0 v1)).2 x hx
    ·exact FT x (by simp [hx]))
   exact⟨zB,o',k1,.push (by simpa using M8) k2⟩
theorem DH {n k:Nat}:gb (Rc n false) k=false:=by
 unfold gb; rw [Q5,List.getElem?_replicate]; split<;>rfl
theorem mw {m:Nat}(hm:2 ^ 30≤m){l:List aa}(ok:iD l){root:Int}(h0:0≤root)(h1:root<l.length):∃o,a8.f m l root=some o∧qv id (fun v=>(nd l v).args) [root] [] o:=by
 have lz:(2:Nat) ^ 30=1073741824:=by decide
 have Pv:=ok.1
 unfold a8.f
 have e1:qO 1 (l.length:Int) false=some (Rc l.length false):=by unfold qO; rw [if_pos ⟨by omega,by rw [QT]; omega⟩,QT]
 have nJ:app 8 ([]:List Int) [root]=some [root]:=by unfold app; rw [if_pos (by simp),Rv]
 obtain⟨zB,o',k1,k2⟩:=wO hm ok m (Rc l.length false) [] [root] (by simp; omega) (by simp; omega) (by simp) (fun i hi=>by rw [DH]; simp) (by simp) (fun v hv=>by cases hv) (fun v hv=>by rw [QY] at hv; subst hv; exact⟨h0,h1⟩)
 have k1:a8.l0 m l m (Rc l.length false) [] [root]=_:=k1
 rw [e1,QM,nJ,QM,k1,QM]
 exact⟨o',rfl,k2⟩
end Go.Proofs.YtmekcfdllhphlaaDoor
namespace Go.Proofs.YtmekcfdllhphlaaDoor
open Go Go.R
open Go.IntKind (i64 u64 u8 u32)
structure yk (l k:List aa)(R:Int→Int→Prop):Prop where
 jx:∀i j,R i j→(0≤i∧i<l.length)∧0≤j∧j<k.length
 top:∀i j,R i j→Alike (nd l i) (nd k j)
 arg:∀i j,R i j→∀n,n<(nd l i).args.length→R (gt (nd l i).args n) (gt (nd k j).args n)
theorem Min.same {l:List aa}{c:List Int}(M:Min l c){a b:Int}(a0:0≤a)(a1:a<l.length)(b0:0≤b)(b1:b<l.length)(e:cW c a=cW c b) :
  Alike (nd l a) (nd l b)∧∀n,n<(nd l a).args.length→cW c (gt (nd l a).args n)=cW c (gt (nd l b).args n):=by
 have ea:((a.toNat:Nat):Int)=a:=by omega
 have eb:((b.toNat:Nat):Int)=b:=by omega
 have hA:=M.top a.toNat b.toNat (by omega) (by omega) e
 have hg:=M.arg a.toNat b.toNat (by omega) (by omega) e
 rw [ea,eb] at hA hg
 exact⟨hA,hg⟩
theorem yk.swap {l k:List aa}{R:Int→Int→Prop}(S:yk l k R):yk k l fun j i=>R i j:=
 ⟨fun i j h=>⟨(S.jx j i h).2,(S.jx j i h).1⟩,fun i j h=>(S.top j i h).symm,fun i j h n hn=>S.arg j i h n (by have:=(S.top j i h).len; omega)⟩
theorem yk.cls {l k:List aa}{R:Int→Int→Prop}(S:yk l k R){c1 c2:List Int}(M1:Min l c1)(M2:Min k c2){i j i' j':Int}(h:R i j)(h':R i' j')(e:cW c1 i=cW c1 i'):cW c2 j=cW c2 j':=by
 have g:=S.jx _ _ h
 have g':=S.jx _ _ h'
 refine M2.max (fun a b=>∃i i':Int,R i a∧R i' b∧cW c1 i=cW c1 i') ⟨?_,?_,?_⟩ j.toNat j'.toNat ⟨i,i',by rwa [show ((j.toNat:Nat):Int)=j by omega],by rwa [show ((j'.toNat:Nat):Int)=j' by omega],e⟩
 ·rintro a b ⟨i,i',h,h',_⟩
  have:=S.jx _ _ h
  have:=S.jx _ _ h'
  omega
 ·rintro a b ⟨i,i',h,h',e⟩
  have g:=S.jx _ _ h
  have g':=S.jx _ _ h'
  exact ((S.top _ _ h).symm.trans (M1.same g.1.1 g.1.2 g'.1.1 g'.1.2 e).1).trans (S.top _ _ h')
 ·rintro a b ⟨i,i',h,h',e⟩ n hn
  have g:=S.jx _ _ h
  have g':=S.jx _ _ h'
  obtain⟨sA,sg⟩:=M1.same g.1.1 g.1.2 g'.1.1 g'.1.2 e
  have ET:n<(nd l i).args.length:=by have:=(S.top _ _ h).len; omega
  have k1:=S.arg _ _ h n ET
  have k2:=S.arg _ _ h' n (by have:=sA.len; omega)
  have r1:=(S.jx _ _ k1).2
  have r2:=(S.jx _ _ k2).2
  exact⟨_,_,by rwa [show (((gt (nd k a).args n).toNat:Nat):Int)=gt (nd k a).args n by omega],by rwa [show (((gt (nd k b).args n).toNat:Nat):Int)=gt (nd k b).args n by omega],sg n ET⟩
inductive Rl (R:Int→Int→Prop):List Int→List Int→Prop
 | nil:Rl R [] []
 | cons {a b:Int} {xs ys:List Int}:R a b→Rl R xs ys→Rl R (a::xs) (b::ys)
theorem Rl.app {R:Int→Int→Prop}{a b c d:List Int}(h:Rl R a b)(k:Rl R c d):Rl R (a++c) (b++d):=by
 induction h with
 | nil=>exact k
 | cons h _ ih=>exact .cons h ih
theorem Rl.len {R:Int→Int→Prop}{a b:List Int}(h:Rl R a b):a.length=b.length:=by
 induction h with
 | nil=>rfl
 | cons _ _ ih=>simp [ih]
theorem Rl.at {R:Int→Int→Prop}{a b:List Int}(h:Rl R a b):∀n,n<a.length→R (gt a n) (gt b n):=by
 induction h with
 | nil=>intro n hn; exact absurd hn (by simp)
 | cons h _ ih=>
  intro n hn
  cases n with
  | zero=>exact h
  | succ n=>exact ih n (by simpa using hn)
theorem Rl.of {R:Int→Int→Prop}:∀{a b:List Int},a.length=b.length→(∀n,n<a.length→R (gt a n) (gt b n))→Rl R a b
 | [],[],_,_=>.nil
 | [],_::_,h,_=>by simp at h
 | _::_,[],h,_=>by simp at h
 | x::a,y::b,h,k=>.cons (k 0 (by simp)) (Rl.of (by simpa using h) fun n hn=>k (n+1) (by simpa using hn))
section
variable {l k:List aa}{R:Int→Int→Prop}{c1 c2:List Int}
theorem yk.mem (S:yk l k R)(M1:Min l c1)(M2:Min k c2){v w:Int}(h:R v w){o o2:List Int}(ho:Rl R o o2):cW c1 v∈o.map (cW c1)↔cW c2 w∈o2.map (cW c2):=by
 induction ho with
 | nil=>simp
 | cons h' _ ih=>
  rw [Rq,Rq,Rt,Rt,ih]
  have z1:=S.cls M1 M2 h h'
  have z2:=S.swap.cls M2 M1 h h'
  constructor
  ·rintro (e | e)
   ·exact .inl (z1 e)
   ·exact .inr e
  ·rintro (e | e)
   ·exact .inl (z2 e)
   ·exact .inr e
theorem yk.idx (S:yk l k R)(M1:Min l c1)(M2:Min k c2){v w:Int}(h:R v w){o o2:List Int}(ho:Rl R o o2):idx c1 o v=idx c2 o2 w:=by
 unfold Go.Proofs.YtmekcfdllhphlaaDoor.idx
 congr 1
 induction ho with
 | nil=>rfl
 | @cons a b xs ys h' _ ih=>
  rw [Rq,Rq,List.idxOf_cons,List.idxOf_cons,ih]
  have h1:=S.cls M1 M2 h' h
  have h2:=S.swap.cls M2 M1 h' h
  by_cases e:cW c1 a=cW c1 v
  ·rw [e,h1 e]; simp
  ·have e2:¬cW c2 b=cW c2 w:=fun z=>e (h2 z)
   rw [show (cW c1 a==cW c1 v)=false from by simpa using e,show (cW c2 b==cW c2 w)=false from by simpa using e2]
theorem yk.pre (S:yk l k R)(M1:Min l c1)(M2:Min k c2){st o o':List Int}(h:qv (cW c1) (fun v=>(nd l v).args) st o o'):∀{DI o2:List Int},Rl R st DI→Rl R o o2→∃CG,qv (cW c2) (fun v=>(nd k v).args) DI o2 CG∧Rl R o' CG:=by
 induction h with
 | nil o=>intro DI o2 hs ho; cases hs; exact⟨o2,.nil _,ho⟩
 | skip hm _ ih=>
  intro DI o2 hs ho
  cases hs with
  | cons h hs=>
   obtain⟨CG,k1,k2⟩:=ih hs ho
   exact⟨CG,.skip ((S.mem M1 M2 h ho).1 hm) k1,k2⟩
 | push hn _ ih=>
  intro DI o2 hs ho
  cases hs with
  | cons h hs=>
   obtain⟨CG,k1,k2⟩:=ih ((Rl.of (S.top _ _ h).len (S.arg _ _ h)).app hs) (ho.app (.cons h .nil))
   exact⟨CG,.push (fun z=>hn ((S.mem M1 M2 h ho).2 z)) k1,k2⟩
end
theorem DJ {c O:List Int}{a b:Int}(h:cW c a=cW c b):idx c O a=idx c O b:=by unfold idx; rw [h]
theorem Gf {f:Int→Int}{a b:List Int}{g:Int→Int}(hl:a.length=b.length)(h:∀n,n<a.length→f (gt a n)=g (gt b n)):a.map f=b.map g:=by
 apply RJ fun n=>?_
 simp only [Rk]
 by_cases hn:n<a.length
 ·rw [aV hn,aV (by omega)]; simp only [QU,h n hn]
 ·rw [Ra (by omega),Ra (by omega)]; rfl
theorem rV {m:Nat}(hm:2 ^ 41≤m){t u:aw}(ht:cC t=true)(hu:cC u=true){R:Int→Int→Prop}(S:yk t.nodes u.nodes R)(hr:R t.root u.root):∃s,bA.f m t=some s∧bA.f m u=some s:=by
 have tj:(2:Nat) ^ 41=2199023255552:=by decide
 obtain⟨zQ,_,r0,r1,_⟩:=fu ht
 obtain⟨Nb,_,q0,q1,_⟩:=fu hu
 obtain⟨c1,n1,e1,M1,Q1,_⟩:=jo hm ht
 obtain⟨c2,n2,e2,M2,Q2,_⟩:=jo hm hu
 have l1:=zQ.1
 have l2:=Nb.1
 have P1:=mr (cls:=c1) zQ m t.root [] [] _ r0 r1 ⟨by simp,fun x hx=>by cases hx⟩ (by simp; omega) (.nil _)
 have P2:=mr (cls:=c2) Nb m u.root [] [] _ q0 q1 ⟨by simp,fun x hx=>by cases hx⟩ (by simp; omega) (.nil _)
 obtain⟨CG,k1,k2⟩:=S.pre M1 M2 P1 (.cons hr .nil) .nil
 have:=k1.M4 P2
 subst this
 generalize QI:nT c1 t.nodes m t.root []=O1 at *
 generalize QJ:nT c2 u.nodes m u.root []=O2 at *
 have hl:=k2.len
 have w1:=Q1.len
 have w2:=Q2.len
 have hn:n1=n2:=by
  apply RJ fun q=>?_
  by_cases hq:q<O1.length
  ·rw [Q1.new q (by simp) hq,Q2.new q (by simp) (by omega)]
   have h:=k2.at q hq
   have A:=S.top _ _ h
   unfold qV
   rw [A.kind,A.int,A.label,Gf A.len fun n hn=>S.idx M1 M2 (S.arg _ _ h n hn) k2]
  ·rw [Ra (by omega),Ra (by omega)]
 subst hn
 exact⟨_,e1,e2⟩
theorem wP {n:aa}{a b:Int}{f:Int→Int}(h:gx n a=true)(hf:∀x∈n.args,0≤f x∧f x<b):gx ⟨n.kind,n.int,n.label,n.args.map f⟩ b=true:=by
 unfold gx at h ⊢
 have he:(n.args.map f).isEmpty=n.args.isEmpty:=by cases n.args<;>rfl
 dsimp only
 rw [he,RE]
 have ha:((n.args.map f).all fun a=>decide (0≤a)&&decide (a<b))=true:=by
  rw [Rd]
  intro x hx
  obtain⟨y,hy,rfl⟩:=Rj.1 hx
  have:=hf y hy
  simp only [QR,decide_eq_true_eq]; exact this
 rw [ha]
 split<;>rename_i h0
 ·rw [if_pos h0] at h; exact h
 ·rw [if_neg h0] at h
  split<;>rename_i h1
  ·rw [if_pos h1] at h; exact h
  ·rw [if_neg h1] at h
   split<;>rename_i h2
   ·rw [if_pos h2] at h; exact h
   ·rw [if_neg h2] at h
    split<;>rename_i h3
    ·rw [if_pos h3] at h
     simp only [QR] at h ⊢
     exact⟨h.1,trivial⟩
    ·rw [if_neg h3] at h
     exact h
theorem zC {m:Nat}(hm:2 ^ 41≤m){t:aw}(ht:cC t=true):∃s R,bA.f m t=some s∧cC s=true∧s.nodes.length≤t.nodes.length∧yk t.nodes s.nodes R∧R t.root s.root:=by
 have tj:(2:Nat) ^ 41=2199023255552:=by decide
 obtain⟨ok,_,r0,r1,_⟩:=fu ht
 obtain⟨c,ns,e,M,Q,hr⟩:=jo hm ht
 have l1:=ok.1
 have fv:=ht
 unfold cC at fv
 simp only [QR,decide_eq_true_eq] at fv
 generalize hO:nT c t.nodes m t.root []=O at *
 have zx:=Q.vs.zx
 have hlen:=Q.len
 have oP:0<O.length:=by cases O with | nil=>simp at hr | cons _ _=>simp
 have wL:∀q:Nat,q<O.length→nd ns (q:Int)=qV c t.nodes O (gt O q):=fun q hq=>by
  have:=Q.new q (by simp) hq
  unfold nd
  rw [QT,Q5,this]; rfl
 have Jh:∀{v:Int},cW c v∈O.map (cW c)→0≤idx c O v∧idx c O v<O.length∧cW c (gt O (idx c O v).toNat)=cW c v:=fun {v} hv=>by
  have h1:=RR hv
  have h2:=List.getElem_idxOf h1
  rw [RE] at h1
  unfold idx
  refine⟨by omega,by omega,?_⟩
  rw [QT]
  have h3:=QZ (l:=O.map (cW c)) (i:=(O.map (cW c)).idxOf (cW c v)) (by rw [RE]; exact h1)
  rw [h2,Rk,aV h1] at h3
  exact Rf h3
 refine⟨⟨ns,0⟩,fun i j=>(0≤i∧i<t.nodes.length)∧cW c i∈O.map (cW c)∧j=idx c O i,e,?_,by show ns.length≤_; omega,⟨?_,?_,?_⟩,⟨r0,r1⟩,hr,?_⟩
 ·unfold cC
  simp only [QR,decide_eq_true_eq]
  refine⟨⟨⟨⟨by omega,by omega⟩,by omega⟩,by omega⟩,?_⟩
  rw [Rd]
  intro x hx
  obtain⟨q,hq,e2⟩:=Sy hx
  have h1:=Q.new q (by simp) (by omega)
  rw [QZ hq,e2] at h1
  have h1:=Rf h1
  subst h1
  have xl:=Q.vs.jx _ (aE (l:=O) (k:=q) (by omega))
  refine wP (Rd.1 fv.2 _ (dq xl.1 xl.2)) fun a ha=>?_
  have:=Jh (Q.arg q (by simp) (by omega) a ha)
  omega
 ·rintro i j ⟨h1,h2,rfl⟩
  have:=Jh h2
  exact⟨h1,by show 0≤_∧_<(ns.length:Int); omega⟩
 ·rintro i j ⟨h1,h2,rfl⟩
  obtain⟨a,b,d⟩:=Jh h2
  have xl:=Q.vs.jx _ (aE (l:=O) (k:=(idx c O i).toNat) (by omega))
  have hx:=wL (idx c O i).toNat (by omega)
  rw [show (((idx c O i).toNat:Nat):Int)=idx c O i by omega] at hx
  rw [hx]
  have A:=(M.same h1.1 h1.2 xl.1 xl.2 d.symm).1
  exact⟨A.kind,A.int,A.label,by show _=(List.map _ _).length; rw [RE]; exact A.len⟩
 ·rintro i j ⟨h1,h2,rfl⟩ n hn
  obtain⟨a,b,d⟩:=Jh h2
  have xl:=Q.vs.jx _ (aE (l:=O) (k:=(idx c O i).toNat) (by omega))
  have hx:=wL (idx c O i).toNat (by omega)
  rw [show (((idx c O i).toNat:Nat):Int)=idx c O i by omega] at hx
  rw [hx]
  obtain⟨A,hg⟩:=M.same h1.1 h1.2 xl.1 xl.2 d.symm
  have EU:n<(nd t.nodes (gt O (idx c O i).toNat)).args.length:=by have:=A.len; omega
  have hg:=hg n hn
  have hin:=Q.arg (idx c O i).toNat (by simp) (by omega) _ (aE EU)
  refine⟨(ok.2 _ (dq h1.1 h1.2)).2 _ (aE hn),by rw [hg]; exact hin,?_⟩
  have e1:gt (qV c t.nodes O (gt O (idx c O i).toNat)).args n=idx c O (gt (nd t.nodes (gt O (idx c O i).toNat)).args n):=by
   have h3:=aV (l:=(qV c t.nodes O (gt O (idx c O i).toNat)).args) (k:=n) (by show n<(List.map _ _).length; rw [RE]; exact EU)
   have h4:(qV c t.nodes O (gt O (idx c O i).toNat)).args[n]? = some (idx c O (gt (nd t.nodes (gt O (idx c O i).toNat)).args n)):=by
    show (List.map _ _)[n]? = _
    rw [Rk,aV EU]; rfl
   rw [h4] at h3; exact (Rf h3).symm
  rw [e1]
  exact DJ hg.symm
 ·show (0:Int)=idx c O t.root
  have P1:=mr (cls:=c) ok m t.root [] [] _ r0 r1 ⟨by simp,fun x hx=>by cases hx⟩ (by simp; omega) (.nil _)
  rw [hO] at P1
  cases P1 with
  | skip h _=>simp at h
  | push _ k=>
   obtain⟨⟨T,e⟩,_⟩:=k.facts (n:=t.nodes.length) (fun v a b=>(ok.2 _ (dq a b)).2) (fun v hv=>by
    rcases Q7.1 hv with hv | hv
    ·exact (ok.2 _ (dq r0 r1)).2 v hv
    ·cases hv) (fun v hv=>by simp at hv; subst hv; exact⟨r0,r1⟩) (by simp)
   rw [e]
   unfold idx
   simp
theorem wQ {m:Nat}(hm:2 ^ 41≤m){t:aw}(ht:cC t=true):∃s,bA.f m t=some s∧cC s=true∧s.nodes.length≤t.nodes.length∧bA.f m s=some s:=by
 obtain⟨s,R,e,v,hl,S,hr⟩:=zC hm ht
 obtain⟨s',e1,e2⟩:=rV hm ht v S hr
 rw [e1] at e
 cases e
 exact⟨s,e1,v,hl,e2⟩
end Go.Proofs.YtmekcfdllhphlaaDoor
namespace Go.Proofs.YtmekcfdllhphlaaDoor
open Go Go.R
open Go.IntKind (i64 u64 u8 u32)
end Go.Proofs.YtmekcfdllhphlaaDoor
namespace Go.Proofs.YtmekcfdllhphlaaDoor
open Go Go.R
open Go.IntKind (i64 u64 u8 u32)
end Go.Proofs.YtmekcfdllhphlaaDoor
namespace Go.Proofs.YtmekcfdllhphlaaDoor
open Go Go.R
open Go.IntKind (i64 u64 u8 u32)
def s9:ca:=ff [0,2] [] [2,1] [] []
def dA.f (m:Nat)(c0:Int):Option (Bool):=if (decide (c0≥(97:Int)))=true then (if (decide (c0≤(122:Int)))=true then (some true) else (if (decide (c0≥(65:Int)))=true then (if (decide (c0≤(90:Int)))=true then (some true) else (if (decide (c0≥(48:Int)))=true then (if (decide (c0≤(57:Int)))=true then (some true) else (some (c0==(95:Int)))) else (some (c0==(95:Int))))) else (if (decide (c0≥(48:Int)))=true then (if (decide (c0≤(57:Int)))=true then (some true) else (some (c0==(95:Int)))) else (some (c0==(95:Int)))))) else (if (decide (c0≥(65:Int)))=true then (if (decide (c0≤(90:Int)))=true then (some true) else (if (decide (c0≥(48:Int)))=true then (if (decide (c0≤(57:Int)))=true then (some true) else (some (c0==(95:Int)))) else (some (c0==(95:Int))))) else (if (decide (c0≥(48:Int)))=true then (if (decide (c0≤(57:Int)))=true then (some true) else (some (c0==(95:Int)))) else (some (c0==(95:Int)))))
def dA.fin (L:Mem)(r:Bool)(s:St):Prop:=∃av,aP Tryd.prog (s.open s9) Tryd.f111.results.toList=some av∧fT s.h av (.bool r)
def Gg (cf:CallF)(m:Nat):Prop:=∀(c0:Int) (r:Bool),dA.f m c0=some r→∀h xs,eO eV h xs [.int .u8 c0]→cf 111 xs h=some (.bool r,h)
section
variable {cf:CallF}{m:Nat}
theorem my {a7:FuncId→ca}(ha:a7 111=s9)  (c0:Int)(h:AHeap)(L:Mem)  (o:Has h (L)){out:Bool}(H:dA.f m c0=some out) :
  ∃r h',bf Tryd.prog a7 cf m 111 [.int .u8 c0] h=some (r,h')∧fT h' r (.bool out):=by
 refine aq (fn:=Tryd.f111) ha Tryd.func111 (by kernel_rfl) (by kernel_rfl) ?_
 refine aQ (Q:=fun s=>dA.fin L out s) (fun _ _ h=>h) ?_
 have H:_=some out:=H
 unfold dA.f at H
 show cX _ cf s9 m _ ⟨[.int .u8 c0,.any],[],h⟩ _
 refine q1 <| qq ?_
 rcases cO H with⟨c1,H⟩| ⟨c1,H⟩
 ·rcases cO H with⟨c2,H⟩| ⟨c2,H⟩
  ·obtain rfl:=oi H
   exact qr [.b 2 c1,.b 6 c2] <| qt <| ⟨.inl rfl,bD (.bool true) h (bB (aj))⟩
  ·rcases cO H with⟨c3,H⟩| ⟨c3,H⟩
   ·rcases cO H with⟨c4,H⟩| ⟨c4,H⟩
    ·obtain rfl:=oi H
     exact qr [.b 2 c1,.b 6 c2,.b 9 c3,.b 14 c4] <| qt <| ⟨.inl rfl,bD (.bool true) h (bB (aj))⟩
    ·rcases cO H with⟨c5,H⟩| ⟨c5,H⟩
     ·rcases cO H with⟨c6,H⟩| ⟨c6,H⟩
      ·obtain rfl:=oi H
       exact qr [.b 2 c1,.b 6 c2,.b 9 c3,.b 14 c4,.b 17 c5,.b 22 c6] <| qt <| ⟨.inl rfl,bD (.bool true) h (bB (aj))⟩
      ·obtain rfl:=oi H
       exact qr [.b 2 c1,.b 6 c2,.b 9 c3,.b 14 c4,.b 17 c5,.b 22 c6] <| qt <| ⟨.inl rfl,bD (.bool (c0==(95:Int))) h (bB (aj))⟩
     ·obtain rfl:=oi H
      exact qr [.b 2 c1,.b 6 c2,.b 9 c3,.b 14 c4,.b 17 c5] <| qt <| ⟨.inl rfl,bD (.bool (c0==(95:Int))) h (bB (aj))⟩
   ·rcases cO H with⟨c7,H⟩| ⟨c7,H⟩
    ·rcases cO H with⟨c8,H⟩| ⟨c8,H⟩
     ·obtain rfl:=oi H
      exact qr [.b 2 c1,.b 6 c2,.b 9 c3,.b 17 c7,.b 22 c8] <| qt <| ⟨.inl rfl,bD (.bool true) h (bB (aj))⟩
     ·obtain rfl:=oi H
      exact qr [.b 2 c1,.b 6 c2,.b 9 c3,.b 17 c7,.b 22 c8] <| qt <| ⟨.inl rfl,bD (.bool (c0==(95:Int))) h (bB (aj))⟩
    ·obtain rfl:=oi H
     exact qr [.b 2 c1,.b 6 c2,.b 9 c3,.b 17 c7] <| qt <| ⟨.inl rfl,bD (.bool (c0==(95:Int))) h (bB (aj))⟩
 ·rcases cO H with⟨c9,H⟩| ⟨c9,H⟩
  ·rcases cO H with⟨qT,H⟩| ⟨qT,H⟩
   ·obtain rfl:=oi H
    exact qr [.b 2 c1,.b 9 c9,.b 14 qT] <| qt <| ⟨.inl rfl,bD (.bool true) h (bB (aj))⟩
   ·rcases cO H with⟨la,H⟩| ⟨la,H⟩
    ·rcases cO H with⟨kK,H⟩| ⟨kK,H⟩
     ·obtain rfl:=oi H
      exact qr [.b 2 c1,.b 9 c9,.b 14 qT,.b 17 la,.b 22 kK] <| qt <| ⟨.inl rfl,bD (.bool true) h (bB (aj))⟩
     ·obtain rfl:=oi H
      exact qr [.b 2 c1,.b 9 c9,.b 14 qT,.b 17 la,.b 22 kK] <| qt <| ⟨.inl rfl,bD (.bool (c0==(95:Int))) h (bB (aj))⟩
    ·obtain rfl:=oi H
     exact qr [.b 2 c1,.b 9 c9,.b 14 qT,.b 17 la] <| qt <| ⟨.inl rfl,bD (.bool (c0==(95:Int))) h (bB (aj))⟩
  ·rcases cO H with⟨lb,H⟩| ⟨lb,H⟩
   ·rcases cO H with⟨mE,H⟩| ⟨mE,H⟩
    ·obtain rfl:=oi H
     exact qr [.b 2 c1,.b 9 c9,.b 17 lb,.b 22 mE] <| qt <| ⟨.inl rfl,bD (.bool true) h (bB (aj))⟩
    ·obtain rfl:=oi H
     exact qr [.b 2 c1,.b 9 c9,.b 17 lb,.b 22 mE] <| qt <| ⟨.inl rfl,bD (.bool (c0==(95:Int))) h (bB (aj))⟩
   ·obtain rfl:=oi H
    exact qr [.b 2 c1,.b 9 c9,.b 17 lb] <| qt <| ⟨.inl rfl,bD (.bool (c0==(95:Int))) h (bB (aj))⟩
end
end Go.Proofs.YtmekcfdllhphlaaDoor
namespace Go.Proofs.YtmekcfdllhphlaaDoor
open Go Go.R
open Go.IntKind (i64 u64 u8 u32)
def uM:ca:=ff [0,2,3,11,15,22] [] [62,54,61,58,42,58,26,61,61] [] []
def bF.l0 (m:Nat)(s0:ByteArray):Nat→Int→Option (Sum Bool (Int))
 | 0,_=>none
 | k+1,i0=>if (decide (i0<(s0.size:Int)))=true then ((bt s0 i0).bind fun v0=>(dA.f m v0).bind fun x0=>if (!x0)=true then (some (.inl false)) else (bF.l0 m s0 k (i64.wrap (i0+(1:Int))))) else (some (.inr i0))
def bF.f (m:Nat)(s0:ByteArray):Option (Bool):=if (decide ((s0.size:Int)<(1:Int)))=true then (some false) else (if (decide ((s0.size:Int) > (16:Int)))=true then (some false) else ((bF.l0 m s0 m (0:Int)).bind fun bR=>match bR with | .inl r0=>some r0 | .inr i1=>some true))
def bF.fin (L:Mem)(r:Bool)(s:St):Prop:=∃av,aP Tryd.prog (s.open uM) Tryd.f86.results.toList=some av∧fT s.h av (.bool r)
def Nc (cf:CallF)(m:Nat):Prop:=∀(s0:ByteArray) (r:Bool),bF.f m s0=some r→∀h xs,eO eV h xs [.str s0]→cf 86 xs h=some (.bool r,h)
section
variable {cf:CallF}{m:Nat}
theorem bF.cw (L:Mem)(s0:ByteArray)  (BZ:Gg cf m):cD Tryd.prog cf uM m (sub [1,1,0,1,0,0] (codeOf Tryd.f86)) (fun k (σ:Int)=>bF.l0 m s0 k σ) (fun σ s=>match σ with | i0=>∃h0,s=⟨.str s0 :: .any :: .int .i64 i0::mD [],[],h0⟩∧Has h0 (L)) (fun out e s=>(e = .exit 0∧∃i0,.inr i0=out∧∃qR wo wC h0,s=⟨[qR,.any,wo,.any,wC,.any],[],h0⟩∧Has h0 (L))∨(e = .ret∧∃r,.inl r=out∧bF.fin L r s)):=by
 refine jW (fun _=>rfl) ?_
 rintro k i0 s out ⟨h0,rfl,o0⟩ H
 have H:bF.l0 m s0 (k+1) i0=some out:=H
 refine qq <| qq <| q0 <| qc H (fun c3 H=>?_) (fun c3 H=>?_)
 ·refine qk <| qq <| qb 1 <| qq ?_
  obtain⟨v0,e0,H⟩:=bb H
  obtain⟨x0,e1,H⟩:=bb H
  refine qr [.v 2 (jS (k:=.i64) U9 e0),.a 3 (BZ _ _ e1 h0 _ (eZ (ab (aM) (aA))))] <| qc H (fun c4 H=>?_) (fun c4 H=>?_)
  ·exact q1 <| qt <| Sa (⟨rfl,_,oi H,bD (.bool false) h0 (bB (aj))⟩)
  ·exact qk <| q0 <| ⟨i64.wrap (i0+(1:Int)),⟨h0,by kernel_rfl,o0⟩,H⟩
 ·exact qx 0 <| Or.inl (⟨rfl,i0,oi H,.str s0,.int .i64 i0,.bool (decide (i0<(s0.size:Int))),h0,by kernel_rfl,o0⟩)
theorem ow {a7:FuncId→ca}(ha:a7 86=uM)(BZ:Gg cf m)(s0:ByteArray)(h:AHeap)(L:Mem)  (o:Has h (L)){out:Bool}(H:bF.f m s0=some out) :
  ∃r h',bf Tryd.prog a7 cf m 86 [.str s0] h=some (r,h')∧fT h' r (.bool out):=by
 refine aq (fn:=Tryd.f86) ha Tryd.func86 (by kernel_rfl) (by kernel_rfl) ?_
 refine aQ (Q:=fun s=>bF.fin L out s) (fun _ _ h=>h) ?_
 have H:_=some out:=H
 unfold bF.f at H
 show cX _ cf uM m _ ⟨.str s0::AX [],[],h⟩ _
 refine q1 <| qq <| qq ?_
 rcases cO H with⟨c0,H⟩| ⟨c0,H⟩
 ·obtain rfl:=oi H
  exact qr [.b 3 c0] <| sQ <| qq <| q0 <| qt <| ⟨.inl rfl,bD (.bool false) h (bB (aj))⟩
 ·refine qr [.b 3 c0] <| qc H (fun c2 H=>?_) (fun c2 H=>?_)
  ·obtain rfl:=oi H
   exact q1 <| qt <| ⟨.inl rfl,bD (.bool false) h (bB (aj))⟩
  ·refine qk <| qq <| qq <| q0 <| qb 0 ?_
   obtain⟨bR,e2,H⟩:=bb H
   refine ql (bF.cw L s0  BZ (0:Int) _ _ ⟨h,by kernel_rfl,o⟩ e2) ?_
   rintro e s (⟨rfl,i1,rfl,g0,g1,g2,h1,rfl,o1⟩| ⟨rfl,r0,rfl,pW⟩)
   ·try dsimp only at H
    obtain rfl:=oi H
    exact q1 <| qt <| ⟨.inl rfl,bD (.bool true) h1 (bB (aj))⟩
   ·try dsimp only at H
    obtain rfl:=oi H
    exact⟨.inl rfl,pW⟩
end
end Go.Proofs.YtmekcfdllhphlaaDoor
namespace Go.Proofs.YtmekcfdllhphlaaDoor
open Go Go.R
open Go.IntKind (i64 u64 u8 u32)
def yl:ca:=ff [0,2] [] [2,1] [] []
def cU.f (m:Nat)(s0:ByteArray):Option (Bool):=if (s0.data.toList==(RH #[124]).data.toList)=true then (some true) else (if (s0.data.toList==(RH #[35]).data.toList)=true then (some true) else ((bF.f m s0).bind fun x0=>if x0=true then ((bt s0 (0:Int)).bind fun v0=>if (decide (v0≥(97:Int)))=true then ((bt s0 (0:Int)).bind fun v1=>some (decide (v1≤(122:Int)))) else (some false)) else (some false)))
def cU.fin (L:Mem)(r:Bool)(s:St):Prop:=∃av,aP Tryd.prog (s.open yl) Tryd.f69.results.toList=some av∧fT s.h av (.bool r)
def Nd (cf:CallF)(m:Nat):Prop:=∀(s0:ByteArray) (r:Bool),cU.f m s0=some r→∀h xs,eO eV h xs [.str s0]→cf 69 xs h=some (.bool r,h)
section
variable {cf:CallF}{m:Nat}
theorem mz {a7:FuncId→ca}(ha:a7 69=yl)(Gh:Nc cf m)(s0:ByteArray)(h:AHeap)(L:Mem)  (o:Has h (L)){out:Bool}(H:cU.f m s0=some out) :
  ∃r h',bf Tryd.prog a7 cf m 69 [.str s0] h=some (r,h')∧fT h' r (.bool out):=by
 refine aq (fn:=Tryd.f69) ha Tryd.func69 (by kernel_rfl) (by kernel_rfl) ?_
 refine aQ (Q:=fun s=>cU.fin L out s) (fun _ _ h=>h) ?_
 have H:_=some out:=H
 unfold cU.f at H
 show cX _ cf yl m _ ⟨[.str s0,.any],[],h⟩ _
 refine q1 <| qq ?_
 rcases cO H with⟨c0,H⟩| ⟨c0,H⟩
 ·obtain rfl:=oi H
  exact qr [.b 2 c0] <| qt <| ⟨.inl rfl,bD (.bool true) h (bB (aj))⟩
 ·rcases cO H with⟨c1,H⟩| ⟨c1,H⟩
  ·obtain rfl:=oi H
   exact qr [.b 2 c0,.b 6 c1] <| qt <| ⟨.inl rfl,bD (.bool true) h (bB (aj))⟩
  ·obtain⟨x0,e0,H⟩:=bb H
   rcases cO H with⟨c2,H⟩| ⟨c2,H⟩
   ·obtain⟨v0,e1,H⟩:=bb H
    rcases cO H with⟨c3,H⟩| ⟨c3,H⟩
    ·obtain⟨v1,e2,H⟩:=bb H
     obtain rfl:=oi H
     exact qr [.b 2 c0,.b 6 c1,.a 8 (Gh _ _ e0 h _ (eZ (ab (bJ) (aA)))),.b 9 c2,.v 11 (jS (k:=.i64) U9 e1),.b 14 c3,.v 16 (jS (k:=.i64) U9 e2)] <| qt <| ⟨.inl rfl,bD (.bool (decide (v1≤(122:Int)))) h (bB (aj))⟩
    ·obtain rfl:=oi H
     exact qr [.b 2 c0,.b 6 c1,.a 8 (Gh _ _ e0 h _ (eZ (ab (bJ) (aA)))),.b 9 c2,.v 11 (jS (k:=.i64) U9 e1),.b 14 c3] <| qt <| ⟨.inl rfl,bD (.bool false) h (bB (aj))⟩
   ·obtain rfl:=oi H
    exact qr [.b 2 c0,.b 6 c1,.a 8 (Gh _ _ e0 h _ (eZ (ab (bJ) (aA)))),.b 9 c2] <| qt <| ⟨.inl rfl,bD (.bool false) h (bB (aj))⟩
end
end Go.Proofs.YtmekcfdllhphlaaDoor
namespace Go.Proofs.YtmekcfdllhphlaaDoor
open Go Go.R
open Go.IntKind (i64 u64 u8 u32)
def uN:ca:=ff [0,1,2,4,5,7,8,24,45,61,87,109,114,131] [2] [16377,16345,16281,16375,16217,16375,16089,16375,15833,16375,15353,14329,16375,16361,12265,16361,8169,16375,16375,16375] [] []
def bp.l0 (m:Nat)(n0:aa)(au:Int):Nat→Int→Option (Sum Bool (Int))
 | 0,_=>none
 | k+1,i0=>if (decide (i0<(n0.args.length:Int)))=true then ((ix n0.args i0).bind fun v0=>if (decide (v0<(0:Int)))=true then (some (.inl false)) else ((ix n0.args i0).bind fun v1=>if (decide (v1≥au))=true then (some (.inl false)) else (bp.l0 m n0 au k (i64.wrap (i0+(1:Int)))))) else (some (.inr i0))
def bp.f (m:Nat)(n0:aa)(au:Int):Option (Bool):=if (n0.kind==(0:Int))=true then (if (decide (n0.int≥(0:Int)))=true then (if (n0.label.data.toList==(RH #[]).data.toList)=true then (some ((n0.args.length:Int)==(0:Int))) else (some false)) else (some false)) else (if (n0.kind==(1:Int))=true then (if (decide (n0.int≥(-1099511627776:Int)))=true then (if (decide (n0.int≤(1099511627776:Int)))=true then (if (n0.label.data.toList==(RH #[]).data.toList)=true then (some ((n0.args.length:Int)==(0:Int))) else (some false)) else (some false)) else (some false)) else (if (n0.kind==(2:Int))=true then ((cU.f m n0.label).bind fun x0=>if x0=true then (if (n0.int==(0:Int))=true then (some ((n0.args.length:Int)==(0:Int))) else (some false)) else (some false)) else (if (n0.kind==(4:Int))=true then (if (n0.label.data.toList==(RH #[112,114,111,99]).data.toList)=true then (if (decide (n0.int≥(0:Int)))=true then (some ((n0.args.length:Int)==(0:Int))) else (some false)) else (if (n0.label.data.toList==(RH #[99,101,108,108]).data.toList)=true then (if (decide (n0.int≥(0:Int)))=true then (some ((n0.args.length:Int)==(0:Int))) else (some false)) else (if (n0.label.data.toList==(RH #[112,111,114,116]).data.toList)=true then (if (decide (n0.int≥(0:Int)))=true then (some ((n0.args.length:Int)==(0:Int))) else (some false)) else (some false)))) else (if (n0.kind==(3:Int))=true then ((cU.f m n0.label).bind fun x1=>if (!x1)=true then (some false) else (if (!(n0.int==(0:Int)))=true then (some false) else (if (decide ((n0.args.length:Int)<(1:Int)))=true then (some false) else (if (decide ((n0.args.length:Int) > (8:Int)))=true then (some false) else ((bp.l0 m n0 au m (0:Int)).bind fun bR=>match bR with | .inl r0=>some r0 | .inr i1=>some true))))) else (some false)))))
def bp.fin (L:Mem)(r:Bool)(s:St):Prop:=∃av,aP Tryd.prog (s.open uN) Tryd.f48.results.toList=some av∧fT s.h av (.bool r)
def Lq (cf:CallF)(m:Nat):Prop:=∀(n0:aa) (au:Int) (r:Bool),bp.f m n0 au=some r→∀h xs,eO eV h xs [.agg [.int .i64 n0.kind,.int .i64 n0.int,.str n0.label,af.fz n0.args],.int .i64 au]→cf 48 xs h=some (.bool r,h)
section
variable {cf:CallF}{m:Nat}
theorem bp.cw (L:Mem)(n0:aa)(au:Int)   : cD Tryd.prog cf uN m (sub [1,0,1,0,1,1,1,1,1,1,1,1,1,0,1,0,1,0,0] (codeOf Tryd.f48)) (fun k (σ:Int)=>bp.l0 m n0 au k σ) (fun σ s=>match σ with | i0=>∃h0,s=⟨.any :: .int .i64 au :: .lp 2 0 :: .any :: .int .i64 i0::HJ [],[some [.int .i64 n0.kind,.int .i64 n0.int,.str n0.label,af.fz n0.args]],h0⟩∧Has h0 (L)) (fun out e s=>(e = .exit 1∧∃i0,.inr i0=out∧∃qS Bb Dw Iz Li h0,s=⟨.any::qS::Bb :: .any::Dw::Fp [Iz,.any],[Li],h0⟩∧Has h0 (L))∨(e = .ret∧∃r,.inl r=out∧bp.fin L r s)):=by
 refine jW (fun _=>rfl) ?_
 rintro k i0 s out ⟨h0,rfl,o0⟩ H
 have H:bp.l0 m n0 au (k+1) i0=some out:=H
 refine qq <| qq <| q0 <| qc H (fun Px H=>?_) (fun Px H=>?_)
 ·refine qk <| qq <| qb 2 <| qq ?_
  obtain⟨v0,e2,H⟩:=bb H
  rcases cO H with⟨Lr,H⟩| ⟨Lr,H⟩
  ·exact qr [.v 3 (cH (k:=.i64) (E:=af) (l:=n0.args) fV e2),.v 4 (fK  (E:=af) (l:=n0.args) h0 A3 e2 rfl),.b 6 Lr] <| sQ <| qq <| q0 <| qt <| Sa (⟨rfl,_,oi H,bD (.bool false) h0 (bB (aj))⟩)
  ·obtain⟨v1,e3,H⟩:=bb H
   refine qr [.v 3 (cH (k:=.i64) (E:=af) (l:=n0.args) fV e2),.v 4 (fK  (E:=af) (l:=n0.args) h0 A3 e2 rfl),.b 6 Lr,.v 10 (cH (k:=.i64) (E:=af) (l:=n0.args) fV e3),.v 11 (fK  (E:=af) (l:=n0.args) h0 A3 e3 rfl)] <| qc H (fun Py H=>?_) (fun Py H=>?_)
   ·exact q1 <| qt <| Sa (⟨rfl,_,oi H,bD (.bool false) h0 (bB (aj))⟩)
   ·exact qk <| q0 <| ⟨i64.wrap (i0+(1:Int)),⟨h0,by kernel_rfl,o0⟩,H⟩
 ·exact qx 1 <| Or.inl (⟨rfl,i0,oi H,.int .i64 au,.lp 2 0,.int .i64 i0,.bool (decide (i0<(n0.args.length:Int))),some [.int .i64 n0.kind,.int .i64 n0.int,.str n0.label,af.fz n0.args],h0,by kernel_rfl,o0⟩)
theorem np {a7:FuncId→ca}(ha:a7 48=uN)(wR:Nd cf m)(n0:aa)(au:Int)(h:AHeap)(L:Mem)  (o:Has h (L)){out:Bool}(H:bp.f m n0 au=some out) :
  ∃r h',bf Tryd.prog a7 cf m 48 [.agg [.int .i64 n0.kind,.int .i64 n0.int,.str n0.label,af.fz n0.args],.int .i64 au] h=some (r,h')∧fT h' r (.bool out):=by
 refine aq (fn:=Tryd.f48) ha Tryd.func48 (by kernel_rfl) (by kernel_rfl) ?_
 refine aQ (Q:=fun s=>bp.fin L out s) (fun _ _ h=>h) ?_
 have H:_=some out:=H
 unfold bp.f at H
 show cX _ cf uN m _ ⟨.agg [.int .i64 n0.kind,.int .i64 n0.int,.str n0.label,af.fz n0.args] :: .int .i64 au::pK [],[none],h⟩ _
 refine q1 <| qq <| qq <| q0 <| qb 0 <| qq <| q0 <| qc H (fun c0 H=>?_) (fun c0 H=>?_)
 ·refine qq ?_
  rcases cO H with⟨c1,H⟩| ⟨c1,H⟩
  ·rcases cO H with⟨c2,H⟩| ⟨c2,H⟩
   ·obtain rfl:=oi H
    exact qr [.b 3 c1,.b 8 c2] <| qt <| ⟨.inl rfl,bD (.bool ((n0.args.length:Int)==(0:Int))) h (bB (aj))⟩
   ·obtain rfl:=oi H
    exact qr [.b 3 c1,.b 8 c2] <| qt <| ⟨.inl rfl,bD (.bool false) h (bB (aj))⟩
  ·obtain rfl:=oi H
   exact qr [.b 3 c1] <| qt <| ⟨.inl rfl,bD (.bool false) h (bB (aj))⟩
 ·refine q1 <| qc H (fun c3 H=>?_) (fun c3 H=>?_)
  ·refine qq ?_
   rcases cO H with⟨c4,H⟩| ⟨c4,H⟩
   ·rcases cO H with⟨c5,H⟩| ⟨c5,H⟩
    ·rcases cO H with⟨c6,H⟩| ⟨c6,H⟩
     ·obtain rfl:=oi H
      exact qr [.b 3 c4,.b 8 c5,.b 13 c6] <| qt <| ⟨.inl rfl,bD (.bool ((n0.args.length:Int)==(0:Int))) h (bB (aj))⟩
     ·obtain rfl:=oi H
      exact qr [.b 3 c4,.b 8 c5,.b 13 c6] <| qt <| ⟨.inl rfl,bD (.bool false) h (bB (aj))⟩
    ·obtain rfl:=oi H
     exact qr [.b 3 c4,.b 8 c5] <| qt <| ⟨.inl rfl,bD (.bool false) h (bB (aj))⟩
   ·obtain rfl:=oi H
    exact qr [.b 3 c4] <| qt <| ⟨.inl rfl,bD (.bool false) h (bB (aj))⟩
  ·refine q1 <| qc H (fun c7 H=>?_) (fun c7 H=>?_)
   ·refine qq ?_
    obtain⟨x0,e0,H⟩:=bb H
    rcases cO H with⟨c8,H⟩| ⟨c8,H⟩
    ·rcases cO H with⟨c9,H⟩| ⟨c9,H⟩
     ·obtain rfl:=oi H
      exact qr [.a 2 (wR _ _ e0 h _ (eZ (ab (bJ) (aA)))),.b 3 c8,.b 8 c9] <| qt <| ⟨.inl rfl,bD (.bool ((n0.args.length:Int)==(0:Int))) h (bB (aj))⟩
     ·obtain rfl:=oi H
      exact qr [.a 2 (wR _ _ e0 h _ (eZ (ab (bJ) (aA)))),.b 3 c8,.b 8 c9] <| qt <| ⟨.inl rfl,bD (.bool false) h (bB (aj))⟩
    ·obtain rfl:=oi H
     exact qr [.a 2 (wR _ _ e0 h _ (eZ (ab (bJ) (aA)))),.b 3 c8] <| qt <| ⟨.inl rfl,bD (.bool false) h (bB (aj))⟩
   ·refine q1 <| qc H (fun qT H=>?_) (fun qT H=>?_)
    ·refine qq ?_
     rcases cO H with⟨la,H⟩| ⟨la,H⟩
     ·rcases cO H with⟨kK,H⟩| ⟨kK,H⟩
      ·obtain rfl:=oi H
       exact qr [.b 3 la,.b 18 kK] <| qt <| ⟨.inl rfl,bD (.bool ((n0.args.length:Int)==(0:Int))) h (bB (aj))⟩
      ·obtain rfl:=oi H
       exact qr [.b 3 la,.b 18 kK] <| qt <| ⟨.inl rfl,bD (.bool false) h (bB (aj))⟩
     ·rcases cO H with⟨lb,H⟩| ⟨lb,H⟩
      ·rcases cO H with⟨mE,H⟩| ⟨mE,H⟩
       ·obtain rfl:=oi H
        exact qr [.b 3 la,.b 8 lb,.b 18 mE] <| qt <| ⟨.inl rfl,bD (.bool ((n0.args.length:Int)==(0:Int))) h (bB (aj))⟩
       ·obtain rfl:=oi H
        exact qr [.b 3 la,.b 8 lb,.b 18 mE] <| qt <| ⟨.inl rfl,bD (.bool false) h (bB (aj))⟩
      ·rcases cO H with⟨vn,H⟩| ⟨vn,H⟩
       ·rcases cO H with⟨wx,H⟩| ⟨wx,H⟩
        ·obtain rfl:=oi H
         exact qr [.b 3 la,.b 8 lb,.b 13 vn,.b 18 wx] <| qt <| ⟨.inl rfl,bD (.bool ((n0.args.length:Int)==(0:Int))) h (bB (aj))⟩
        ·obtain rfl:=oi H
         exact qr [.b 3 la,.b 8 lb,.b 13 vn,.b 18 wx] <| qt <| ⟨.inl rfl,bD (.bool false) h (bB (aj))⟩
       ·obtain rfl:=oi H
        exact qr [.b 3 la,.b 8 lb,.b 13 vn] <| qt <| ⟨.inl rfl,bD (.bool false) h (bB (aj))⟩
    ·refine q1 <| qc H (fun wy H=>?_) (fun wy H=>?_)
     ·refine qq <| qq ?_
      obtain⟨x1,e1,H⟩:=bb H
      rcases cO H with⟨zP,H⟩| ⟨zP,H⟩
      ·obtain rfl:=oi H
       exact qr [.a 2 (wR _ _ e1 h _ (eZ (ab (bJ) (aA)))),.b 4 zP] <| sQ <| qq <| q0 <| qt <| ⟨.inl rfl,bD (.bool false) h (bB (aj))⟩
      ·rcases cO H with⟨Ji,H⟩| ⟨Ji,H⟩
       ·obtain rfl:=oi H
        exact qr [.a 2 (wR _ _ e1 h _ (eZ (ab (bJ) (aA)))),.b 4 zP,.b 9 Ji] <| sQ <| qq <| q0 <| qt <| ⟨.inl rfl,bD (.bool false) h (bB (aj))⟩
       ·rcases cO H with⟨Ls,H⟩| ⟨Ls,H⟩
        ·obtain rfl:=oi H
         exact qr [.a 2 (wR _ _ e1 h _ (eZ (ab (bJ) (aA)))),.b 4 zP,.b 9 Ji,.b 15 Ls] <| sQ <| qq <| q0 <| qt <| ⟨.inl rfl,bD (.bool false) h (bB (aj))⟩
        ·refine qr [.a 2 (wR _ _ e1 h _ (eZ (ab (bJ) (aA)))),.b 4 zP,.b 9 Ji,.b 15 Ls] <| qc H (fun Pz H=>?_) (fun Pz H=>?_)
         ·obtain rfl:=oi H
          exact q1 <| qt <| ⟨.inl rfl,bD (.bool false) h (bB (aj))⟩
         ·refine qk <| qq <| qq <| q0 <| qb 1 ?_
          obtain⟨bR,e4,H⟩:=bb H
          refine ql (bp.cw L n0 au   (0:Int) _ _ ⟨h,by kernel_rfl,o⟩ e4) ?_
          rintro e s (⟨rfl,i1,rfl,g0,g1,g2,g3,g4,h1,rfl,o1⟩| ⟨rfl,r0,rfl,pW⟩)
          ·try dsimp only at H
           obtain rfl:=oi H
           exact q1 <| qt <| ⟨.inl rfl,bD (.bool true) h1 (bB (aj))⟩
          ·try dsimp only at H
           obtain rfl:=oi H
           exact⟨.inl rfl,pW⟩
     ·obtain rfl:=oi H
      exact qk <| qq <| q0 <| qt <| ⟨.inl rfl,bD (.bool false) h (bB (aj))⟩
end
end Go.Proofs.YtmekcfdllhphlaaDoor
