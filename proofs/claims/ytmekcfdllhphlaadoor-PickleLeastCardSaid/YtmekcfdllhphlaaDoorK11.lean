/- Part of the proof: Q25, Q57, Q37, Q38, Q39, Q58, Q40, Q15, PU1, PU2, PB3, PB5, PB6, PB7, PB8, PB10. -/
import Derived.Test.YtmekcfdllhphlaaDoorK10
set_option linter.unusedVariables false
set_option linter.unusedSimpArgs false
set_option maxRecDepth 100000
open Bool renaming false_eq_true → Q6, true_and → R5
open Int renaming toNat_natCast → QT
open List renaming getElem?_eq_some_iff → QX, mem_singleton → QY, getElem?_eq_getElem → QZ, getD_eq_getElem?_getD → Q5, mem_append → Q7, drop_eq_getElem_cons → Q9, getElem?_eq_none → Ra, length_set → Rb, replicate → Rc, getElem?_append_right → Rg, map_append → Ri, getElem?_map → Rk, append_assoc → Rm, drop_zero → Rr, mem_cons → Rt, nil_append → Rv, mem_append_left → Rx, drop_eq_nil_of_le → Rz, length_cons → RA, getElem?_cons_zero → RC, length_map → RE, ext_getElem? → RJ, all_cons → RL, idxOf_lt_length_of_mem → RR, take_add_one → RU, take_length → RV, idxOf_append → RZ, nodup_append → R0, getElem?_set → Sj, mem_filter → Su, set_append_right → Sv, length_take → Sx, append_nil → SD
open Nat renaming le_refl → QS, le_trans → RG, sub_self → Sf
open Option renaming bind_some → QM
open Option.some renaming injEq → QQ, inj → Rf
open Or renaming inr → Sa
namespace Go.Proofs.YtmekcfdllhphlaaDoor
open Go Go.R
open Go.IntKind (i64 u64 u8 u32)
def uO:ca:=ff [0,1,2,3,26,31,43] [1] [125,109,123,117,85,117,53,123,123] [] []
def bl.l0 (m:Nat)(t0:aw):Nat→Int→Option (Sum Bool (Int))
 | 0,_=>none
 | k+1,i0=>if (decide (i0<(t0.nodes.length:Int)))=true then ((ix t0.nodes i0).bind fun v0=>(bp.f m v0 (t0.nodes.length:Int)).bind fun x0=>if (!x0)=true then (some (.inl false)) else (bl.l0 m t0 k (i64.wrap (i0+(1:Int))))) else (some (.inr i0))
def bl.f (m:Nat)(t0:aw):Option (Bool):=if (decide ((t0.nodes.length:Int)<(1:Int)))=true then (some false) else (if (decide ((t0.nodes.length:Int) > (8000:Int)))=true then (some false) else (if (decide (t0.root<(0:Int)))=true then (some false) else (if (decide (t0.root≥(t0.nodes.length:Int)))=true then (some false) else ((bl.l0 m t0 m (0:Int)).bind fun bR=>match bR with | .inl r0=>some r0 | .inr i1=>some true))))
def bl.fin (L:Mem)(r:Bool)(s:St):Prop:=∃av,aP Tryd.prog (s.open uO) Tryd.f25.results.toList=some av∧fT s.h av (.bool r)
def Ng (cf:CallF)(m:Nat):Prop:=∀(t0:aw) (r:Bool),bl.f m t0=some r→∀h xs,eO eV h xs [.agg [ae.fz t0.nodes,.int .i64 t0.root]]→cf 25 xs h=some (.bool r,h)
section
variable {cf:CallF}{m:Nat}
theorem bl.cw (L:Mem)(t0:aw)  (Gi:Lq cf m):cD Tryd.prog cf uO m (sub [1,1,0,1,0,0] (codeOf Tryd.f25)) (fun k (σ:Int)=>bl.l0 m t0 k σ) (fun σ s=>match σ with | i0=>∃h0,s=⟨.any :: .lp 1 0 :: .any :: .int .i64 i0::mD [],[some [ae.fz t0.nodes,.int .i64 t0.root]],h0⟩∧Has h0 (L)) (fun out e s=>(e = .exit 0∧∃i0,.inr i0=out∧∃qS wo FB PA h0,s=⟨[.any,qS,.any,wo,.any,FB,.any],[PA],h0⟩∧Has h0 (L))∨(e = .ret∧∃r,.inl r=out∧bl.fin L r s)):=by
 refine jW (fun _=>rfl) ?_
 rintro k i0 s out ⟨h0,rfl,o0⟩ H
 have H:bl.l0 m t0 (k+1) i0=some out:=H
 refine qq <| qq <| q0 <| qc H (fun c7 H=>?_) (fun c7 H=>?_)
 ·refine qk <| qq <| qb 1 <| qq ?_
  obtain⟨v0,e0,H⟩:=bb H
  obtain⟨x0,e1,H⟩:=bb H
  refine qr [.v 3 (cH (k:=.i64) (E:=ae) (l:=t0.nodes) oa e0),.v 4 (gf  (E:=ae) (l:=t0.nodes) h0 xF xG e0),.a 8 (Gi _ _ _ e1 h0 _ (eZ (ab (bw (ab (aM) (ab (aM) (ab (bJ) (ab (b7 (E:=af)) (aA)))))) (ab (aM) (aA)))))] <| qc H (fun c8 H=>?_) (fun c8 H=>?_)
  ·exact q1 <| qt <| Sa (⟨rfl,_,oi H,bD (.bool false) h0 (bB (aj))⟩)
  ·exact qk <| q0 <| ⟨i64.wrap (i0+(1:Int)),⟨h0,by kernel_rfl,o0⟩,H⟩
 ·exact qx 0 <| Or.inl (⟨rfl,i0,oi H,.lp 1 0,.int .i64 i0,.bool (decide (i0<(t0.nodes.length:Int))),some [ae.fz t0.nodes,.int .i64 t0.root],h0,by kernel_rfl,o0⟩)
theorem nq {a7:FuncId→ca}(ha:a7 25=uO)(Gi:Lq cf m)(t0:aw)(h:AHeap)(L:Mem)  (o:Has h (L)){out:Bool}(H:bl.f m t0=some out) :
  ∃r h',bf Tryd.prog a7 cf m 25 [.agg [ae.fz t0.nodes,.int .i64 t0.root]] h=some (r,h')∧fT h' r (.bool out):=by
 refine aq (fn:=Tryd.f25) ha Tryd.func25 (by kernel_rfl) (by kernel_rfl) ?_
 refine aQ (Q:=fun s=>bl.fin L out s) (fun _ _ h=>h) ?_
 have H:_=some out:=H
 unfold bl.f at H
 show cX _ cf uO m _ ⟨.agg [ae.fz t0.nodes,.int .i64 t0.root]::Dg [],[none],h⟩ _
 refine q1 <| qq <| qq ?_
 rcases cO H with⟨c0,H⟩| ⟨c0,H⟩
 ·obtain rfl:=oi H
  exact qr [.b 4 c0] <| sQ <| qq <| q0 <| qt <| ⟨.inl rfl,bD (.bool false) h (bB (aj))⟩
 ·rcases cO H with⟨c2,H⟩| ⟨c2,H⟩
  ·obtain rfl:=oi H
   exact qr [.b 4 c0,.b 10 c2] <| sQ <| qq <| q0 <| qt <| ⟨.inl rfl,bD (.bool false) h (bB (aj))⟩
  ·rcases cO H with⟨c4,H⟩| ⟨c4,H⟩
   ·obtain rfl:=oi H
    exact qr [.b 4 c0,.b 10 c2,.b 15 c4] <| sQ <| qq <| q0 <| qt <| ⟨.inl rfl,bD (.bool false) h (bB (aj))⟩
   ·refine qr [.b 4 c0,.b 10 c2,.b 15 c4] <| qc H (fun c6 H=>?_) (fun c6 H=>?_)
    ·obtain rfl:=oi H
     exact q1 <| qt <| ⟨.inl rfl,bD (.bool false) h (bB (aj))⟩
    ·refine qk <| qq <| qq <| q0 <| qb 0 ?_
     obtain⟨bR,e2,H⟩:=bb H
     refine ql (bl.cw L t0  Gi (0:Int) _ _ ⟨h,by kernel_rfl,o⟩ e2) ?_
     rintro e s (⟨rfl,i1,rfl,g0,g1,g2,g3,h1,rfl,o1⟩| ⟨rfl,r0,rfl,pW⟩)
     ·try dsimp only at H
      obtain rfl:=oi H
      exact q1 <| qt <| ⟨.inl rfl,bD (.bool true) h1 (bB (aj))⟩
     ·try dsimp only at H
      obtain rfl:=oi H
      exact⟨.inl rfl,pW⟩
end
end Go.Proofs.YtmekcfdllhphlaaDoor
namespace Go.Proofs.YtmekcfdllhphlaaDoor
open Go Go.R
open Go.IntKind (i64 u64 u8 u32)
def ax.l0 (m:Nat)(x0:(List Int)):Nat→(List Int)→Int→Option ((List Int) × Int)
 | 0,_,_=>none
 | k+1,wS,i0=>if (decide (i0<(x0.length:Int)))=true then ((ix x0 i0).bind fun v0=>(ix wS v0).bind fun v1=>ax.l0 m x0 k (wS.set v0.toNat i0) (i64.wrap (i0+(1:Int)))) else (some ((wS,i0)))
def ax.l2 (m:Nat)(j7:List Int)(v3:aa):Nat→(List Int)→Int→Option ((List Int) × Int)
 | 0,_,_=>none
 | k+1,fW,k0=>if (decide (k0<(v3.args.length:Int)))=true then ((ix v3.args k0).bind fun v4=>(ix j7 v4).bind fun v5=>(app 8 fW ([v5])).bind fun x2=>ax.l2 m j7 v3 k x2 (i64.wrap (k0+(1:Int)))) else (some ((fW,k0)))
def ax.l1 (m:Nat)(l0:List aa)(x0:(List Int))(j7:List Int):Nat→(List aa)→Int→Option ((List aa) × Int)
 | 0,_,_=>none
 | k+1,Er,i2=>if (decide (i2<(x0.length:Int)))=true then ((ix x0 i2).bind fun v2=>(ix l0 v2).bind fun v3=>(ax.l2 m j7 v3 m ([]:List Int) (0:Int)).bind fun b5=>match b5 with | (nS,k1)=>(app 56 Er [aa.mk v3.kind v3.int v3.label nS]).bind fun x3=>ax.l1 m l0 x0 j7 k x3 (i64.wrap (i2+(1:Int)))) else (some ((Er,i2)))
def ax.l4 (m:Nat)(x4:(List Int))(i4:Int):Nat→(List aa)→Int→Option ((List aa) × Int)
 | 0,_,_=>none
 | k+1,uP,k2=>(ix uP i4).bind fun v6=>if (decide (k2<(v6.args.length:Int)))=true then ((ix uP i4).bind fun v7=>(ix uP i4).bind fun v8=>(ix v8.args k2).bind fun v9=>(ix x4 v9).bind fun v10=>(ix v7.args k2).bind fun v11=>ax.l4 m x4 i4 k (uP.set i4.toNat (aa.mk v7.kind v7.int v7.label (v7.args.set k2.toNat v10))) (i64.wrap (k2+(1:Int)))) else (some ((uP,k2)))
def ax.l3 (m:Nat)(x4:(List Int)):Nat→(List aa)→Int→Option ((List aa) × Int)
 | 0,_,_=>none
 | k+1,B0,i4=>if (decide (i4<(B0.length:Int)))=true then ((ax.l4 m x4 i4 m B0 (0:Int)).bind fun mb=>match mb with | (IA,k3)=>ax.l3 m x4 k IA (i64.wrap (i4+(1:Int)))) else (some ((B0,i4)))
def ax.l5 (m:Nat)(x5:(List Int)):Nat→(List Int)→Int→Option ((List Int) × Int)
 | 0,_,_=>none
 | k+1,wT,i6=>if (decide (i6<(x5.length:Int)))=true then ((ix x5 i6).bind fun v12=>(ix wT v12).bind fun FG=>ax.l5 m x5 k (wT.set v12.toNat i6) (i64.wrap (i6+(1:Int)))) else (some ((wT,i6)))
def ax.l7 (m:Nat)(ll:List Int)(DF:aa):Nat→(List Int)→Int→Option ((List Int) × Int)
 | 0,_,_=>none
 | k+1,Es,k4=>if (decide (k4<(DF.args.length:Int)))=true then ((ix DF.args k4).bind fun tk=>(ix ll tk).bind fun MY=>(app 8 Es ([MY])).bind fun x6=>ax.l7 m ll DF k x6 (i64.wrap (k4+(1:Int)))) else (some ((Es,k4)))
def ax.l6 (m:Nat)(uQ:List aa)(x5:(List Int))(ll:List Int):Nat→Int→(List aa)→Int→Option (Int × (List aa) × Int)
 | 0,_,_,_=>none
 | k+1,i8,wI,Du=>if (decide (i8<(x5.length:Int)))=true then ((ix x5 i8).bind fun Ij=>(ix uQ Ij).bind fun DF=>(ax.l7 m ll DF m ([]:List Int) (0:Int)).bind fun Dt=>match Dt with | (IB,k5)=>(app 56 wI ([(aa.mk DF.kind DF.int DF.label IB)])).bind fun x7=>ax.l6 m uQ x5 ll k (i64.wrap (i8+(1:Int))) x7 Du) else (some ((i8,wI,Du)))
def ax.f (m:Nat)(l0:List aa)(BW:Int):Option (aw):=(a8.f m l0 BW).bind fun x0=>(qO 8 (l0.length:Int) (0:Int)).bind fun x1=>(ax.l0 m x0 m x1 (0:Int)).bind fun bR=>match bR with | (j7,i1)=>(ax.l1 m l0 x0 j7 m ([]:List aa) (0:Int)).bind fun iT=>match iT with | (Et,i3)=>(ak.f m Et).bind fun x4=>(ax.l3 m x4 m Et (0:Int)).bind fun bV=>match bV with | (uQ,i5)=>(a8.f m uQ (0:Int)).bind fun x5=>(ax.l5 m x5 m j7 (0:Int)).bind fun zu=>match zu with | (ll,i7)=>(ax.l6 m uQ x5 ll m (0:Int) ([]:List aa) (0:Int)).bind fun IC=>match IC with | (i9,Lt,ID)=>some (aw.mk Lt ID)
end Go.Proofs.YtmekcfdllhphlaaDoor
namespace Go.Proofs.YtmekcfdllhphlaaDoor
open Go Go.R
open Go.IntKind (i64 u64 u8 u32)
def j9.f (m:Nat)(t0:aw):Option (aw × Int):=(bl.f m t0).bind fun x0=>if (!x0)=true then (some ((aw.mk ([]) (0:Int)),(2:Int))) else ((ax.f m t0.nodes t0.root).bind fun x1=>some (x1,(0:Int)))
end Go.Proofs.YtmekcfdllhphlaaDoor
namespace Go.Proofs.YtmekcfdllhphlaaDoor
open Go Go.R
open Go.IntKind (i64 u64 u8 u32)
end Go.Proofs.YtmekcfdllhphlaaDoor
namespace Go.Proofs.YtmekcfdllhphlaaDoor
open Go Go.R
open Go.IntKind (i64 u64 u8 u32)
end Go.Proofs.YtmekcfdllhphlaaDoor
namespace Go.Proofs.YtmekcfdllhphlaaDoor
open Go Go.R
open Go.IntKind (i64 u64 u8 u32)
end Go.Proofs.YtmekcfdllhphlaaDoor
namespace Go.Proofs.YtmekcfdllhphlaaDoor
open Go Go.R
open Go.IntKind (i64 u64 u8 u32)
end Go.Proofs.YtmekcfdllhphlaaDoor
namespace Go.Proofs.YtmekcfdllhphlaaDoor
open Go Go.R
open Go.IntKind (i64 u64 u8 u32)
end Go.Proofs.YtmekcfdllhphlaaDoor
namespace Go.Proofs.YtmekcfdllhphlaaDoor
open Go Go.R
open Go.IntKind (i64 u64 u8 u32)
end Go.Proofs.YtmekcfdllhphlaaDoor
namespace Go.Proofs.YtmekcfdllhphlaaDoor
open Go Go.R
open Go.IntKind (i64 u64 u8 u32)
end Go.Proofs.YtmekcfdllhphlaaDoor
namespace Go.Proofs.YtmekcfdllhphlaaDoor
open Go Go.R
open Go.IntKind (i64 u64 u8 u32)
theorem ta {m:Nat}(c:Int):dA.f m c=some (eQ c):=by
 unfold dA.f
 by_cases h1:97≤c<;>by_cases h2:c≤122<;>by_cases h3:65≤c<;>by_cases h4:c≤90<;>by_cases h5:48≤c<;>by_cases h6:c≤57<;>simp [eQ,h1,h2,h3,h4,h5,h6]<;>omega
theorem uR {m:Nat}{s:ByteArray}(hs:s.size≤16):∀(f i:Nat),s.size - i<f→i≤s.size→
  ∃o,bF.l0 m s f (i:Int)=some o∧((∃x,o = .inr x)∧((s.data.toList.drop i).all fun c=>eQ (c.toNat:Int))=true∨o = .inl false∧((s.data.toList.drop i).all fun c=>eQ (c.toNat:Int))=false)
 | 0,i,hf,_=>absurd hf (by omega)
 | f+1,i,hf,hi=>by
  unfold bF.l0
  by_cases h:i<s.size
  ·obtain⟨c,hc,hb⟩:=oK h
   obtain⟨h4,h5⟩:=QX.1 hc
   have hd:s.data.toList.drop i=c::s.data.toList.drop (i+1):=by rw [←h5]; exact Q9 h4
   rw [if_pos (by simp only [decide_eq_true_eq]; omega),hb,QM,ta,QM,hd,RL]
   cases hl:eQ (c.toNat:Int) with
   | false=>exact⟨_,rfl,.inr ⟨rfl,rfl⟩⟩
   | true=>
    obtain⟨o,h1,h2⟩:=uR (m:=m) hs f (i+1) (by omega) (by omega)
    rw [if_neg (by simp),aD (by omega) (by omega),show (i:Int)+1=((i+1:Nat):Int) by omega,h1]
    exact⟨o,rfl,by simpa using h2⟩
  ·refine⟨_,by rw [if_neg (by simp only [decide_eq_true_eq]; omega)],.inl ⟨⟨_,rfl⟩,?_⟩⟩
   rw [Rz (by simp; omega)]; rfl
def B1 (s:ByteArray):Bool:=decide (1≤s.data.toList.length)&&decide (s.data.toList.length≤16)&&s.data.toList.all fun c=>eQ (c.toNat:Int)
theorem wU {m:Nat}(hm:20≤m)(s:ByteArray):bF.f m s=some (B1 s):=by
 have hsz:s.size=s.data.toList.length:=by simp
 unfold bF.f B1
 by_cases h1:1≤s.data.toList.length
 ·by_cases h2:s.data.toList.length≤16
  ·obtain⟨o,k1,k2⟩:=uR (m:=m) (s:=s) (by omega) m 0 (by omega) (by omega)
   have k1:bF.l0 m s m 0=_:=k1
   rw [Rr] at k2
   rw [if_neg (by simp only [decide_eq_true_eq]; omega),if_neg (by simp only [decide_eq_true_eq]; omega),k1,QM,decide_eq_true h1,decide_eq_true h2]
   simp only [R5]
   rcases k2 with⟨⟨x,rfl⟩,k⟩| ⟨rfl,k⟩
   ·rw [k]
   ·rw [k]
  ·rw [if_neg (by simp only [decide_eq_true_eq]; omega),if_pos (by simp only [decide_eq_true_eq]; omega),decide_eq_false h2,Bool.and_false]; rfl
 ·rw [if_pos (by simp only [decide_eq_true_eq]; omega),decide_eq_false h1]; rfl
theorem nW {m:Nat}(hm:20≤m)(s:ByteArray):cU.f m s=some (jw s):=by
 have hsz:s.size=s.data.toList.length:=by simp
 unfold cU.f jw
 show (if (s.data.toList==[124])=true then _ else if (s.data.toList==[35])=true then _ else _)=_
 cases h1:s.data.toList==[124] with
 | true=>rfl
 | false=>
  cases h2:s.data.toList==[35] with
  | true=>rfl
  | false=>
   simp only [Q6,if_false,Bool.false_or]
   rw [wU hm,QM]
   unfold B1 ur
   cases hl:s.data.toList with
   | nil=>rfl
   | cons c cs=>
    obtain⟨c',g1,g2⟩:=oK (s:=s) (i:=0) (by rw [hsz,hl]; simp)
    rw [hl] at g1
    simp only [RC,QQ] at g1
    subst g1
    have g2:bt s 0=_:=g2
    rw [g2]
    simp only [QM,RA]
    cases ha:(c::cs).all fun c=>eQ (c.toNat:Int) with
    | false=>simp
    | true=>
     by_cases h3:cs.length≤15
     ·rw [decide_eq_true (show 1≤cs.length+1 by omega),decide_eq_true (show cs.length+1≤16 by omega),decide_eq_true h3]
      simp only [Bool.and_self,if_true,Bool.and_true,R5]
      by_cases h4:(97:Int)≤(c.toNat:Int)
      ·rw [if_pos (by simpa using h4),decide_eq_true h4]; rfl
      ·rw [if_neg (by simpa using h4),decide_eq_false h4]; rfl
     ·rw [decide_eq_false (show ¬cs.length+1≤16 by omega),decide_eq_false h3]; simp
theorem uS {m:Nat}{n:aa}{size:Int}(h8:n.args.length≤8):∀(f i:Nat),n.args.length - i<f→i≤n.args.length→
  ∃o,bp.l0 m n size f (i:Int)=some o∧((∃x,o = .inr x)∧((n.args.drop i).all fun a=>decide (0≤a)&&decide (a<size))=true∨o = .inl false∧((n.args.drop i).all fun a=>decide (0≤a)&&decide (a<size))=false)
 | 0,i,hf,_=>absurd hf (by omega)
 | f+1,i,hf,hi=>by
  unfold bp.l0
  by_cases h:i<n.args.length
  ·have hd:n.args.drop i=gt n.args i::n.args.drop (i+1):=by
    obtain⟨h4,h5⟩:=QX.1 (aV h)
    rw [←h5]; exact Q9 h4
   rw [if_pos (by simp only [decide_eq_true_eq]; omega),bH h,QM,hd,RL,QM]
   by_cases h1:gt n.args i<0
   ·rw [if_pos (by simpa using h1),decide_eq_false (show ¬0≤gt n.args i by omega)]
    exact⟨_,rfl,.inr ⟨rfl,rfl⟩⟩
   ·rw [if_neg (by simpa using h1),decide_eq_true (show 0≤gt n.args i by omega)]
    by_cases h2:gt n.args i<size
    ·obtain⟨o,k1,k2⟩:=uS (m:=m) (size:=size) h8 f (i+1) (by omega) (by omega)
     rw [if_neg (by simp only [decide_eq_true_eq]; omega),decide_eq_true h2,aD (by omega) (by omega),show (i:Int)+1=((i+1:Nat):Int) by omega,k1]
     exact⟨o,rfl,by simpa using k2⟩
    ·rw [if_pos (by simp only [decide_eq_true_eq]; omega),decide_eq_false h2]
     exact⟨_,rfl,.inr ⟨rfl,rfl⟩⟩
  ·refine⟨_,by rw [if_neg (by simp only [decide_eq_true_eq]; omega)],.inl ⟨⟨_,rfl⟩,?_⟩⟩
   rw [Rz (by omega)]; rfl
theorem wV {m:Nat}(hm:20≤m)(n:aa)(size:Int):bp.f m n size=some (gx n size):=by
 unfold bp.f gx
 by_cases k0:n.kind=0
 ·rw [if_pos (by simpa using k0),if_pos k0]
  by_cases h1:0≤n.int
  ·rw [if_pos (by simpa using h1),show decide (0≤n.int)=true by simpa using h1]
   show (if (n.label.data.toList==[])=true then _ else _)=_
   cases n.label.data.toList==[] with
   | true=>rw [if_pos rfl,uv]; rfl
   | false=>rfl
  ·rw [if_neg (by simpa using h1),show decide (0≤n.int)=false by simp; omega]; rfl
 rw [if_neg (by simpa using k0),if_neg k0]
 by_cases k1:n.kind=1
 ·rw [if_pos (by simpa using k1),if_pos k1]
  by_cases h1 : -1099511627776≤n.int
  ·rw [if_pos (by simpa using h1),show decide (-1099511627776≤n.int)=true by simpa using h1]
   by_cases h3:n.int≤1099511627776
   ·rw [if_pos (by simpa using h3),show decide (n.int≤1099511627776)=true by simpa using h3]
    show (if (n.label.data.toList==[])=true then _ else _)=_
    cases n.label.data.toList==[] with
    | true=>rw [if_pos rfl,uv]; rfl
    | false=>rfl
   ·rw [if_neg (by simpa using h3),show decide (n.int≤1099511627776)=false by simp; omega]; rfl
  ·rw [if_neg (by simpa using h1),show decide (-1099511627776≤n.int)=false by simp; omega]; rfl
 rw [if_neg (by simpa using k1),if_neg k1]
 by_cases k2:n.kind=2
 ·rw [if_pos (by simpa using k2),if_pos k2,nW hm,QM]
  cases jw n.label with
  | false=>simp
  | true=>
   rw [if_pos rfl]
   cases h1:n.int==0 with
   | false=>rfl
   | true=>rw [if_pos rfl,uv]; rfl
 rw [if_neg (by simpa using k2),if_neg k2]
 by_cases k4:n.kind=4
 ·rw [if_pos (by simpa using k4),if_neg (show ¬n.kind=3 by omega),if_pos k4]
  unfold uu
  show (if (n.label.data.toList==[112,114,111,99])=true then _ else if (n.label.data.toList==[99,101,108,108])=true then _ else if (n.label.data.toList==[112,111,114,116])=true then _ else _)=_
  by_cases h1:0≤n.int
  ·have d1:decide (n.int≥0)=true:=decide_eq_true h1
   rw [d1]
   cases n.label.data.toList==[112,114,111,99]<;>cases n.label.data.toList==[99,101,108,108]<;>cases n.label.data.toList==[112,111,114,116]<;>first | rfl | (show some ((n.args.length:Int)==(0:Int))=_; rw [uv]; rfl)
  ·have d1:decide (n.int≥0)=false:=decide_eq_false h1
   rw [d1]
   cases n.label.data.toList==[112,114,111,99]<;>cases n.label.data.toList==[99,101,108,108]<;>cases n.label.data.toList==[112,111,114,116]<;>rfl
 rw [if_neg (by simpa using k4)]
 by_cases k3:n.kind=3
 ·rw [if_pos (by simpa using k3),if_pos k3,nW hm,QM]
  cases jw n.label with
  | false=>simp
  | true=>
   cases h1:n.int==0 with
   | false=>rfl
   | true=>
    simp only [Bool.not_true,Q6,if_false,Bool.and_self,R5]
    by_cases g1:1≤n.args.length
    ·rw [if_neg (by simp only [decide_eq_true_eq]; omega),decide_eq_true g1]
     by_cases g2:n.args.length≤8
     ·obtain⟨o,k1,k2⟩:=uS (m:=m) (size:=size) g2 m 0 (by omega) (by omega)
      have k1:bp.l0 m n size m 0=_:=k1
      rw [Rr] at k2
      rw [if_neg (by simp only [decide_eq_true_eq]; omega),decide_eq_true g2,k1,QM]
      simp only [R5]
      rcases k2 with⟨⟨x,rfl⟩,k⟩| ⟨rfl,k⟩
      ·rw [k]
      ·rw [k]
     ·rw [if_pos (by simp only [decide_eq_true_eq]; omega),decide_eq_false g2]; simp
    ·rw [if_pos (by simp only [decide_eq_true_eq]; omega),decide_eq_false g1]; simp
 rw [if_neg (by simpa using k3),if_neg k3,if_neg k4]
theorem rW {m:Nat}(hm:20≤m){t:aw}(hl:t.nodes.length≤8000):∀(f i:Nat),t.nodes.length - i<f→i≤t.nodes.length→
  ∃o,bl.l0 m t f (i:Int)=some o∧((∃x,o = .inr x)∧((t.nodes.drop i).all fun n=>gx n t.nodes.length)=true∨o = .inl false∧((t.nodes.drop i).all fun n=>gx n t.nodes.length)=false)
 | 0,i,hf,_=>absurd hf (by omega)
 | f+1,i,hf,hi=>by
  unfold bl.l0
  by_cases h:i<t.nodes.length
  ·have hx:ix t.nodes (i:Int)=some t.nodes[i]:=by unfold ix; rw [if_pos (by omega)]; simp [h]
   rw [if_pos (by simp only [decide_eq_true_eq]; omega),hx,QM,wV hm,QM,Q9 h,RL]
   cases hb:gx t.nodes[i] t.nodes.length with
   | false=>exact⟨_,rfl,.inr ⟨rfl,rfl⟩⟩
   | true=>
    obtain⟨o,k1,k2⟩:=rW (m:=m) hm hl f (i+1) (by omega) (by omega)
    rw [if_neg (by simp),aD (by omega) (by omega),show (i:Int)+1=((i+1:Nat):Int) by omega,k1]
    exact⟨o,rfl,by simpa using k2⟩
  ·refine⟨_,by rw [if_neg (by simp only [decide_eq_true_eq]; omega)],.inl ⟨⟨_,rfl⟩,?_⟩⟩
   rw [Rz (by omega)]; rfl
theorem nX {m:Nat}(hm:2 ^ 30≤m)(t:aw):bl.f m t=some (cC t):=by
 have lz:(2:Nat) ^ 30=1073741824:=by decide
 unfold bl.f cC
 by_cases h1:1≤t.nodes.length
 ·rw [if_neg (by simp only [decide_eq_true_eq]; omega),decide_eq_true h1]
  by_cases h2:t.nodes.length≤8000
  ·rw [if_neg (by simp only [decide_eq_true_eq]; omega),decide_eq_true h2]
   by_cases h3:0≤t.root
   ·rw [if_neg (by simp only [decide_eq_true_eq]; omega),decide_eq_true h3]
    by_cases h4:t.root<t.nodes.length
    ·rw [if_neg (by simp only [decide_eq_true_eq]; omega),decide_eq_true h4]
     obtain⟨o,k1,k2⟩:=rW (m:=m) (t:=t) (by omega) h2 m 0 (by omega) (by omega)
     have k1:bl.l0 m t m 0=_:=k1
     rw [Rr] at k2
     rw [k1,QM]
     simp only [R5]
     rcases k2 with⟨⟨x,rfl⟩,k⟩| ⟨rfl,k⟩
     ·rw [k]
     ·rw [k]
    ·rw [if_pos (by simp only [decide_eq_true_eq]; omega),decide_eq_false h4]; rfl
   ·rw [if_pos (by simp only [decide_eq_true_eq]; omega),decide_eq_false h3]; rfl
  ·rw [if_pos (by simp only [decide_eq_true_eq]; omega),decide_eq_false h2]; rfl
 ·rw [if_pos (by simp only [decide_eq_true_eq]; omega),decide_eq_false h1]; rfl
end Go.Proofs.YtmekcfdllhphlaaDoor
namespace Go.Proofs.YtmekcfdllhphlaaDoor
open Go Go.R
open Go.IntKind (i64 u64 u8 u32)
theorem nV.refl {l:List aa}{c:List Int}(i:Nat):nV l c i i:=⟨Alike.refl _,fun _ _=>rfl⟩
theorem nV.symm {l:List aa}{c:List Int}{i j:Nat}(h:nV l c i j):nV l c j i:=⟨h.1.symm,fun k hk=>(h.2 k (by have:=h.1.len; unfold na at *; omega)).symm⟩
theorem nV.trans {l:List aa}{c:List Int}{i j q:Nat}(h:nV l c i j)(g:nV l c j q):nV l c i q:=
 ⟨h.1.trans g.1,fun k hk=>(h.2 k hk).trans (g.2 k (by have:=h.1.len; unfold na at *; omega))⟩
theorem zz.symm {l:List aa}{R:Nat→Nat→Prop}(B:zz l R):zz l fun i j=>R j i:=
 ⟨fun i j h=>(B.jx j i h).symm,fun i j h=>(B.top j i h).symm,fun i j h k hk=>B.arg j i h k (by have:=(B.top j i h).len; omega)⟩
structure CH (l:List aa)(cls:List Int)(dn:List Bool)(fs od:List Int):Prop where
 lc:cls.length=l.length
 ld:dn.length=l.length
 Lu:od.Nodup
 Gj:∀x∈od,0≤x∧x<l.length
 CI:∀i,i<l.length→(gb dn i=true↔(i:Int)∈od)
 qX:∀i:Nat,(i:Int)∈od→∀k,k<na l i→((ar l i k:Nat):Int)∈od∧od.idxOf ((ar l i k:Nat):Int)<od.idxOf (i:Int)
 Jj:fs.Nodup
 fst:∀f∈fs,f∈od∧gt cls f.toNat=f
 mG:∀i:Nat,(i:Int)∈od→gt cls i∈fs∧nV l cls i (gt cls i).toNat
 apart:∀f∈fs,∀g∈fs,nV l cls f.toNat g.toNat→f=g
 coarse:∀R,zz l R→∀i j:Nat,R i j→(i:Int)∈od→(j:Int)∈od→gt cls i=gt cls j
theorem ym {od:List Int}{n:Nat}(h:od.Nodup)(hr:∀x∈od,0≤x∧x<n):od.length≤n:=by
 have:=h.length_le_of_subset (l₂:=ints n) (fun x hx=>fP.2 (hr x hx))
 rwa [cJ] at this
theorem CH.Lv {l cls dn fs od}(P:CH l cls dn fs od):∀f∈fs,0≤f∧f<l.length:=fun f hf=>P.Gj f (P.fst f hf).1
theorem B2 {l:List aa}{cls:List Int}{dn:List Bool}{fs od:List Int}(ok:iD l)(P:CH l cls dn fs od){i:Nat}(hi:i<l.length)(hn:(i:Int)∉od)(hr:M3 l dn i){v:Int}
  (hv:v=i∧(∀f∈fs,¬nV l cls i f.toNat)∨v∈fs∧nV l cls i v.toNat) :
  CH l (cls.set i v) (dn.set i true) (if v=i then fs++[(i:Int)] else fs) (od++[(i:Int)]):=by
 have Nh:(i:Int)∉fs:=fun h=>hn (P.fst _ h).1
 have GW:v∈fs→v≠i:=fun h e=>Nh (e ▸ h)
 have gc:∀x,x≠i→gt (cls.set i v) x=gt cls x:=fun x hx=>by rw [cR (by rw [P.lc]; exact hi),if_neg hx]
 have gi:gt (cls.set i v) i=v:=by rw [cR (by rw [P.lc]; exact hi),if_pos rfl]
 have ne:∀{x:Nat},(x:Int)∈od→x≠i:=fun h e=>hn (by rw [←e]; exact h)
 have ad:∀x:Nat,((x:Int)∈od∨x=i)→∀k,k<na l x→((ar l x k:Nat):Int)∈od:=fun x hx k hk=>by
  rcases hx with hx | rfl
  ·exact (P.qX x hx k hk).1
  ·exact (P.CI _ (iu ok hi hk).1).1 (hr k hk)
 have sm:∀x y:Nat,((x:Int)∈od∨x=i)→((y:Int)∈od∨y=i)→(nV l (cls.set i v) x y↔nV l cls x y):=fun x y hx hy=>by
  constructor
  ·rintro⟨a,b⟩
   refine⟨a,fun k hk=>?_⟩
   have:=b k hk
   rwa [gc _ (ne (ad x hx k hk)),gc _ (ne (ad y hy k (by have:=a.len; unfold na at *; omega)))] at this
  ·rintro⟨a,b⟩
   refine⟨a,fun k hk=>?_⟩
   rw [gc _ (ne (ad x hx k hk)),gc _ (ne (ad y hy k (by have:=a.len; unfold na at *; omega)))]
   exact b k hk
 have fo:∀f∈fs,((f.toNat:Nat):Int)∈od∧((f.toNat:Nat):Int)=f:=fun f hf=>by
  have h:=P.fst f hf
  have r:=P.Gj f h.1
  have e:((f.toNat:Nat):Int)=f:=by omega
  exact⟨by rw [e]; exact h.1,e⟩
 have split:∀{x:Int},x∈od++[(i:Int)]→x∈od∨x=i:=fun h=>by
  rcases Q7.1 h with h | h
  ·exact .inl h
  ·exact .inr (QY.1 h)
 have one:∀R,zz l R→∀j:Nat,R i j→(j:Int)∈od→v=gt cls j:=fun R B j hR hj=>by
  obtain⟨g1,g2⟩:=P.mG j hj
  have s1:nV l cls i j:=⟨B.top i j hR,fun k hk=>P.coarse R B _ _ (B.arg i j hR k hk) (ad i (.inr rfl) k hk) (ad j (.inl hj) k (by have:=(B.top i j hR).len; unfold na at *; omega))⟩
  rcases hv with⟨rfl,h⟩| ⟨h1,h2⟩
  ·exact absurd (s1.trans g2) (h _ g1)
  ·exact P.apart v h1 _ g1 (h2.symm.trans (s1.trans g2))
 refine⟨by simpa using P.lc,by simpa using P.ld,?_,?_,fun x hx=>?_,fun x hx k hk=>?_,?_,fun f hf=>?_,fun x hx=>?_,fun f hf g hg hs=>?_,fun R B x y hR hx hy=>?_⟩
 ·rw [R0]
  refine⟨P.Lu,by simp,fun a ha b hb=>?_⟩
  rw [QY] at hb
  subst hb; intro e; subst e; exact hn ha
 ·intro x hx
  rcases split hx with h | h
  ·exact P.Gj x h
  ·omega
 ·rw [BR (by rw [P.ld]; exact hi),Q7,QY]
  by_cases e:x=i
  ·subst e; simp
  ·rw [if_neg e,P.CI x hx]
   constructor
   ·exact fun h=>.inl h
   ·rintro (h | h)
    ·exact h
    ·omega
 ·rcases split hx with h | h
  ·obtain⟨r1,r2⟩:=P.qX x h k hk
   refine⟨Rx _ r1,?_⟩
   rw [RZ,if_pos r1,RZ,if_pos h]; exact r2
  ·have e:x=i:=by omega
   subst e
   have r1:=ad x (.inr rfl) k hk
   refine⟨Rx _ r1,?_⟩
   rw [RZ,if_pos r1,RZ,if_neg hn]
   have:=RR r1
   omega
 ·split
  ·rw [R0]
   refine⟨P.Jj,by simp,fun a ha b hb=>?_⟩
   rw [QY] at hb
   subst hb; intro e; subst e; exact Nh ha
  ·exact P.Jj
 ·have Hn:f∈fs∨(f=i∧v=i):=by
   split at hf
   ·rcases Q7.1 hf with h | h
    ·exact .inl h
    ·exact .inr ⟨QY.1 h,by assumption⟩
   ·exact .inl hf
  rcases Hn with h | ⟨rfl,h2⟩
  ·obtain⟨a,b⟩:=P.fst f h
   refine⟨Rx _ a,?_⟩
   rw [gc _ (by have:=(fo f h).1; exact ne this)]; exact b
  ·refine⟨by simp,?_⟩
   rw [QT,gi]; exact h2
 ·have Ni:∀z∈fs,z∈(if v=(i:Int) then fs++[(i:Int)] else fs):=fun z hz=>by
   split
   ·exact Rx _ hz
   ·exact hz
  rcases split hx with h | h
  ·obtain⟨a,b⟩:=P.mG x h
   rw [gc x (ne h)]
   exact⟨Ni _ a,(sm x _ (.inl h) (.inl (fo _ a).1)).2 b⟩
  ·have e:x=i:=by omega
   subst e
   rw [gi]
   rcases hv with⟨rfl,_⟩| ⟨h1,h2⟩
   ·rw [if_pos rfl,QT]
    exact⟨by simp,nV.refl _⟩
   ·exact⟨Ni _ h1,(sm x _ (.inr rfl) (.inl (fo _ h1).1)).2 h2⟩
 ·have cs:∀z,z∈(if v=(i:Int) then fs++[(i:Int)] else fs)→z∈fs∨(z=i∧v=i):=fun z hz=>by
   split at hz
   ·rcases Q7.1 hz with h | h
    ·exact .inl h
    ·exact .inr ⟨QY.1 h,by assumption⟩
   ·exact .inl hz
  have Nj:v=i→∀f∈fs,¬nV l cls i f.toNat:=fun e f hf=>by
   rcases hv with⟨_,h⟩| ⟨h,_⟩
   ·exact h f hf
   ·exact absurd e (GW h)
  rcases cs f hf with h1 | ⟨rfl,e1⟩
  ·rcases cs g hg with h2 | ⟨rfl,e2⟩
   ·exact P.apart f h1 g h2 ((sm _ _ (.inl (fo f h1).1) (.inl (fo g h2).1)).1 hs)
   ·rw [QT] at hs
    have:=(sm _ _ (.inl (fo f h1).1) (.inr rfl)).1 hs
    exact absurd this.symm (Nj e2 f h1)
  ·rcases cs g hg with h2 | ⟨rfl,e2⟩
   ·rw [QT] at hs
    have:=(sm _ _ (.inr rfl) (.inl (fo g h2).1)).1 hs
    exact absurd this (Nj e1 g h2)
   ·rfl
 ·rcases split hx with h1 | h1
  ·rcases split hy with h2 | h2
   ·rw [gc x (ne h1),gc y (ne h2)]; exact P.coarse R B x y hR h1 h2
   ·have e:y=i:=by omega
    subst e
    rw [gc x (ne h1),gi]
    exact (one _ B.symm x hR h1).symm
  ·have e:x=i:=by omega
   subst e
   rcases split hy with h2 | h2
   ·rw [gc y (ne h2),gi]; exact one R B y hR h2
   ·have e:y=x:=by omega
    subst e; rfl
theorem tc {m:Nat}(hm:2 ^ 30≤m){l:List aa}(ok:iD l):∀(f i:Nat) (cls:List Int) (dn:List Bool) (fs od:List Int) (more:Bool),i<f→i≤l.length→CH l cls dn fs od→
  ∃gC uT uU fw x qC,ak.l1 m l f cls dn fs more ((i:Int) - 1)=some (gC,uT,uU,fw,x)∧CH l gC uT uU qC∧od.length≤qC.length∧
   (fw=true→more=true∨od.length<qC.length)∧(fw=false→more=false∧qC=od∧∀j,j<i→(j:Int)∉od→∃k,k<na l j∧((ar l j k:Nat):Int)∉od)
 | 0,i,_,_,_,_,_,hf,_,_=>absurd hf (by omega)
 | f+1,0,cls,dn,fs,od,more,hf,hi,P=>by
  unfold ak.l1
  rw [if_neg (by simp)]
  exact⟨cls,dn,fs,more,_,od,rfl,P,QS _,fun h=>.inl h,fun h=>⟨h,rfl,fun j hj=>absurd hj (by omega)⟩⟩
 | f+1,i+1,cls,dn,fs,od,more,hf,hi,P=>by
  have lz:(2:Nat) ^ 30=1073741824:=by decide
  have h8:=ok.1
  have vT:i<l.length:=by omega
  unfold ak.l1
  have ei:((i+1:Nat):Int) - 1=(i:Int):=by omega
  have ew:i64.wrap ((i:Int) - 1)=(i:Int) - 1:=aD (by omega) (by omega)
  have hgb:ix dn (i:Int)=some (gb dn i):=by
   have:=yg (l:=dn) (i:=(i:Int)) (by omega) (by rw [QT,P.ld]; exact vT)
   rwa [QT] at this
  rw [ei,ew,if_pos (by simp),hgb,QM]
  cases hd:gb dn i with
  | true=>
   rw [if_pos rfl]
   obtain⟨gC,uT,uU,fw,x,qC,k1,k2,k3,k4,k5⟩:=tc hm ok f i cls dn fs od more (by omega) (by omega) P
   refine⟨gC,uT,uU,fw,x,qC,k1,k2,k3,k4,fun h=>?_⟩
   obtain⟨q1,q2,q3⟩:=k5 h
   refine⟨q1,q2,fun j hj hn=>?_⟩
   by_cases e:j=i
   ·subst e; exact absurd ((P.CI j vT).1 hd) hn
   ·exact q3 j (by omega) hn
  | false=>
   have wL:(i:Int)∉od:=fun h=>by rw [(P.CI i vT).2 h] at hd; cases hd
   obtain⟨xr,r1,r2,r3⟩:=BT hm ok P.ld vT
   rw [if_neg (by simp),eX (by omega) (by omega),QM,r1,QM]
   cases xr with
   | false=>
    rw [if_pos (by simp)]
    obtain⟨gC,uT,uU,fw,x,qC,k1,k2,k3,k4,k5⟩:=tc hm ok f i cls dn fs od more (by omega) (by omega) P
    refine⟨gC,uT,uU,fw,x,qC,k1,k2,k3,k4,fun h=>?_⟩
    obtain⟨q1,q2,q3⟩:=k5 h
    refine⟨q1,q2,fun j hj hn=>?_⟩
    by_cases e:j=i
    ·subst e
     obtain⟨k,g1,g2⟩:=r3 rfl
     exact⟨k,g1,fun h=>by rw [(P.CI _ (iu ok vT g1).1).2 h] at g2; cases g2⟩
    ·exact q3 j (by omega) hn
   | true=>
    have Fh:fs.length≤8000:=RG (ym P.Jj P.Lv) h8
    obtain⟨v,f1,f2⟩:=find_spec hm ok P.lc vT P.Lv Fh
    have P':=B2 ok P vT wL (r2 rfl) f2
    have hlen:(od++[(i:Int)]).length=od.length+1:=by simp
    have e2:ix cls (i:Int)=some (gt cls i):=bH (by rw [P.lc]; exact vT)
    have e3:ix (cls.set i v) (i:Int)=some v:=by
     rw [bH (by simpa using (by rw [P.lc]; exact vT)),cR (by rw [P.lc]; exact vT),if_pos rfl]
    have rest:∀Jk,CH l (cls.set i v) (dn.set i true) Jk (od++[(i:Int)])→∃gC uT uU fw x qC,ak.l1 m l f (cls.set i v) (dn.set i true) Jk true ((i:Int) - 1)=some (gC,uT,uU,fw,x)∧CH l gC uT uU qC∧od.length≤qC.length∧
      (fw=true→more=true∨od.length<qC.length)∧(fw=false→more=false∧qC=od∧∀j,j<i+1→(j:Int)∉od→∃k,k<na l j∧((ar l j k:Nat):Int)∉od):=fun Jk P2=>by
     obtain⟨gC,uT,uU,fw,x,qC,k1,k2,k3,k4,k5⟩:=tc hm ok f i _ _ Jk _ true (by omega) (by omega) P2
     exact⟨gC,uT,uU,fw,x,qC,k1,k2,by omega,fun _=>.inr (by omega),fun h=>absurd (k5 h).1 (by simp)⟩
    rw [if_neg (by simp),f1,QM,e2,QM,QT,e3,QM]
    by_cases GW:v=i
    ·have nJ:app 8 fs [(i:Int)]=some (fs++[(i:Int)]):=by unfold app; rw [if_pos (by simp; omega)]
     rw [if_pos (by simpa using GW),nJ,QM,QM]
     rw [if_pos GW] at P'
     exact rest _ P'
    ·rw [if_neg (by simpa using GW),QM]
     rw [if_neg GW] at P'
     exact rest _ P'
theorem B3 {m:Nat}(hm:2 ^ 30≤m){l:List aa}(ok:iD l):∀(f:Nat) (cls:List Int) (dn:List Bool) (fs od:List Int),l.length - od.length+1<f→CH l cls dn fs od→
  ∃gC uT uU qC,ak.l0 m l f cls dn fs true=some (gC,uT,uU,false)∧CH l gC uT uU qC∧∀j,j<l.length→(j:Int)∉qC→∃k,k<na l j∧((ar l j k:Nat):Int)∉qC
 | 0,_,_,_,_,hf,_=>absurd hf (by omega)
 | f+1,cls,dn,fs,od,hf,P=>by
  have lz:(2:Nat) ^ 30=1073741824:=by decide
  have h8:=ok.1
  unfold ak.l0
  obtain⟨gC,uT,uU,fw,x,qC,k1,k2,k3,k4,k5⟩:=tc hm ok m l.length cls dn fs od false (by omega) (QS _) P
  have ew:i64.wrap ((l.length:Int) - 1)=(l.length:Int) - 1:=aD (by omega) (by omega)
  rw [if_pos rfl,ew,k1,QM]
  dsimp only
  have F5:=ym k2.Lu k2.Gj
  cases fw with
  | true=>
   rcases k4 rfl with h | h
   ·cases h
   ·exact B3 hm ok f gC uT uU qC (by omega) k2
  | false=>
   obtain⟨_,rfl,q⟩:=k5 rfl
   obtain⟨g,rfl⟩:∃g,f=g+1:=⟨f - 1,by omega⟩
   refine⟨gC,uT,uU,qC,?_,k2,q⟩
   unfold ak.l0
   rw [if_neg (by simp)]
end Go.Proofs.YtmekcfdllhphlaaDoor
namespace Go.Proofs.YtmekcfdllhphlaaDoor
open Go Go.R
open Go.IntKind (i64 u64 u8 u32)
def ba (dn:List Bool):Nat→List Int
 | 0=>[]
 | p+1=>if gb dn p=true then ba dn p else ba dn p++[(p:Int)]
theorem fR {dn:List Bool}:∀{p:Nat} {x:Int},x∈ba dn p↔∃j:Nat,j<p∧gb dn j=false∧x=j
 | 0,x=>⟨fun h=>by simp [ba] at h,fun ⟨j,h,_⟩=>absurd h (by omega)⟩
 | p+1,x=>by
  unfold ba
  have ih:=fR (dn:=dn) (p:=p) (x:=x)
  split
  ·rename_i h
   rw [ih]
   constructor
   ·rintro⟨j,a,b,c⟩; exact⟨j,by omega,b,c⟩
   ·rintro⟨j,a,b,c⟩
    refine⟨j,?_,b,c⟩
    by_cases e:j=p
    ·subst e; rw [b] at h; cases h
    ·omega
  ·rename_i h
   rw [Q7,ih,QY]
   constructor
   ·rintro (⟨j,a,b,c⟩| c)
    ·exact⟨j,by omega,b,c⟩
    ·exact⟨p,by omega,by simpa using h,c⟩
   ·rintro⟨j,a,b,c⟩
    by_cases e:j=p
    ·subst e; exact .inr c
    ·exact .inl ⟨j,by omega,b,c⟩
theorem fi {dn:List Bool}:∀p,(ba dn p).length≤p
 | 0=>QS _
 | p+1=>by
  have:=fi (dn:=dn) p
  unfold ba
  split
  ·omega
  ·simp; omega
theorem ka {dn:List Bool}:∀{p k q:Nat},k<q→q<(ba dn p).length→gt (ba dn p) k<gt (ba dn p) q
 | 0,k,q,_,h=>by simp [ba] at h
 | p+1,k,q,hk,h=>by
  unfold ba at h ⊢
  split at h
  ·rename_i g; rw [if_pos g]; exact ka hk h
  ·rename_i g
   rw [if_neg g]
   by_cases hq:q<(ba dn p).length
   ·rw [dI hq,dI (by omega)]; exact ka hk hq
   ·have e:q=(ba dn p).length:=by simp at h; omega
    have:gt (ba dn p++[(p:Int)]) q=p:=by
     subst e; unfold gt; rw [Q5,Rg (QS _),Sf]; rfl
    rw [this,dI (by omega)]
    obtain⟨j,a,b,c⟩:=fR.1 (aE (l:=ba dn p) (k:=k) (by omega))
    omega
structure IE (l:List aa)(dn:List Bool)(c0:List Int)(p:Nat)(cls:List Int):Prop where
 lc:cls.length=l.length
 old:∀j,gb dn j=true→gt cls j=gt c0 j
 mG:∀j:Nat,(j:Int)∈ba dn p→gt cls j∈ba dn p∧Alike (nd l j) (nd l (gt cls j))∧∀g∈ba dn p,Alike (nd l j) (nd l g)→gt cls j≤g
theorem B4 {m:Nat}{l:List aa}{dn:List Bool}(ok:iD l){cls:List Int}{i:Nat}(hi:i<l.length)(hc:cls.length=l.length)(hlt:∀g∈ba dn i,gt cls g.toNat≠i):∀(f k:Nat),(ba dn i).length - k+2≤f→k≤(ba dn i).length→(∀q,q<k→¬Alike (nd l i) (nd l (gt (ba dn i) q)))→
  ∃v x,ak.l3 m l (i:Int) (ba dn i++[(i:Int)]) f (cls.set i (i:Int)) (k:Int)=some (cls.set i v,x)∧(v=i∧(∀g∈ba dn i,¬Alike (nd l i) (nd l g))∨∃g∈ba dn i,Alike (nd l i) (nd l g)∧v=gt cls g.toNat)
 | 0,k,hf,_,_=>absurd hf (by omega)
 | f+1,k,hf,hk,qF=>by
  have h8:=ok.1
  have Ip:=fi (dn:=dn) i
  unfold ak.l3
  have vT:i<(cls.set i (i:Int)).length:=by simp [hc,hi]
  rw [bH vT,cR (by omega),if_pos rfl,QM,if_pos (by simp)]
  have Mn:(ba dn i++[(i:Int)]).length=(ba dn i).length+1:=by simp
  by_cases h:k<(ba dn i).length
  ·obtain⟨j,j1,j2,j3⟩:=fR.1 (aE (l:=ba dn i) (k:=k) h)
   have hx:ix (ba dn i++[(i:Int)]) (k:Int)=some (gt (ba dn i) k):=by rw [bH (by omega),dI h]
   obtain⟨xa,a1,a2⟩:=qu (m:=m) (nd l (i:Int)) (nd l (gt (ba dn i) k))
   rw [hx,QM,if_pos (by simp only [decide_eq_true_eq]; omega),eX (by omega) (by omega),QM,QM,eX (by omega) (by omega),QM,a1,QM]
   cases xa with
   | false=>
    rw [if_neg (by simp),aD (by omega) (by omega),show (k:Int)+1=((k+1:Nat):Int) by omega]
    refine B4 ok hi hc hlt f (k+1) (by omega) (by omega) fun q hq=>?_
    by_cases e:q=k
    ·subst e; intro hA; have:=a2.2 hA; cases this
    ·exact qF q (by omega)
   | true=>
    have hA:=a2.1 rfl
    have PB:(gt (ba dn i) k).toNat<cls.length:=by omega
    have Im:ix (cls.set i (i:Int)) (gt (ba dn i) k)=some (gt cls (gt (ba dn i) k).toNat):=by
     rw [ef (k:=(gt (ba dn i) k).toNat) (by omega) (by simpa using PB),cR (by omega),if_neg (by omega)]
    rw [if_pos rfl,QM,Im,QM,QM,QT,List.set_set]
    have e:=hlt _ (aE h)
    obtain⟨g,rfl⟩:∃g,f=g+1:=⟨f - 1,by omega⟩
    refine⟨gt cls (gt (ba dn i) k).toNat,i64.wrap ((k:Int)+1),?_,.inr ⟨_,aE h,hA,rfl⟩⟩
    unfold ak.l3
    rw [bH (by simpa [hc] using hi),cR (by omega),if_pos rfl,QM,if_neg (by simpa using e)]
  ·have e:k=(ba dn i).length:=by omega
   have hx:ix (ba dn i++[(i:Int)]) (k:Int)=some (i:Int):=by
    rw [bH (by omega)]
    subst e; unfold gt; rw [Q5,Rg (QS _),Sf]; rfl
   rw [hx,QM,if_neg (by simp)]
   refine⟨(i:Int),_,rfl,.inl ⟨rfl,fun g hg=>?_⟩⟩
   obtain⟨q,hq,e2⟩:=dt hg
   rw [←e2]; exact qF q (by omega)
theorem B5 {l:List aa}{dn:List Bool}{c0 cls:List Int}{i:Nat}(hi:i<l.length)(hd:gb dn i=false)(P:IE l dn c0 i cls){v:Int}
  (hv:v=i∧(∀g∈ba dn i,¬Alike (nd l i) (nd l g))∨∃g∈ba dn i,Alike (nd l i) (nd l g)∧v=gt cls g.toNat):IE l dn c0 (i+1) (cls.set i v):=by
 have hr:ba dn (i+1)=ba dn i++[(i:Int)]:=by show (if gb dn i=true then _ else _)=_; rw [if_neg (by rw [hd]; simp)]
 have gc:∀x,x≠i→gt (cls.set i v) x=gt cls x:=fun x hx=>by rw [cR (by rw [P.lc]; exact hi),if_neg hx]
 have gi:gt (cls.set i v) i=v:=by rw [cR (by rw [P.lc]; exact hi),if_pos rfl]
 have Jl:∀{x:Int},x∈ba dn i→0≤x∧x<i:=fun h=>by obtain⟨j,a,b,c⟩:=fR.1 h; omega
 refine⟨by simpa using P.lc,fun j hj=>?_,fun j hj=>?_⟩
 ·rw [gc j (fun e=>by subst e; rw [hd] at hj; cases hj)]; exact P.old j hj
 ·rw [hr] at hj ⊢
  rcases Q7.1 hj with hj | hj
  ·obtain⟨r1,r2,r3⟩:=P.mG j hj
   have hji:=Jl hj
   rw [gc j (by omega)]
   refine⟨Rx _ r1,r2,fun g hg hA=>?_⟩
   rcases Q7.1 hg with hg | hg
   ·exact r3 g hg hA
   ·have:=Jl r1
    rw [QY] at hg; omega
  ·rw [QY] at hj
   have e:j=i:=by omega
   subst e
   rw [gi]
   rcases hv with⟨rfl,h⟩| ⟨g,g1,g2,rfl⟩
   ·refine⟨by simp,Alike.refl _,fun g hg hA=>?_⟩
    rcases Q7.1 hg with hg | hg
    ·exact absurd hA (h g hg)
    ·rw [QY] at hg; omega
   ·have Ix:=Jl g1
    have eg:((g.toNat:Nat):Int)=g:=by omega
    obtain⟨r1,r2,r3⟩:=P.mG g.toNat (by rw [eg]; exact g1)
    rw [eg] at r2 r3
    refine⟨Rx _ r1,g2.trans r2,fun x hx hA=>?_⟩
    rcases Q7.1 hx with hx | hx
    ·exact r3 x hx (g2.symm.trans hA)
    ·have:=Jl r1
     rw [QY] at hx; omega
theorem wW {m:Nat}(hm:2 ^ 30≤m){l:List aa}(ok:iD l){dn:List Bool}(hd:dn.length=l.length){c0:List Int}:∀(f i:Nat) (cls:List Int),l.length - i<f→i≤l.length→IE l dn c0 i cls→
  ∃gC x,ak.l2 m l dn f cls (ba dn i) (i:Int)=some (gC,ba dn l.length,x)∧IE l dn c0 l.length gC
 | 0,i,cls,hf,_,_=>absurd hf (by omega)
 | f+1,i,cls,hf,hi,P=>by
  have lz:(2:Nat) ^ 30=1073741824:=by decide
  have h8:=ok.1
  unfold ak.l2
  by_cases h:i<l.length
  ·have hgb:ix dn (i:Int)=some (gb dn i):=by
    have:=yg (l:=dn) (i:=(i:Int)) (by omega) (by rw [QT]; omega)
    rwa [QT] at this
   have ew:i64.wrap ((i:Int)+1)=((i+1:Nat):Int):=by rw [aD (by omega) (by omega)]; omega
   rw [if_pos (by simp only [decide_eq_true_eq]; omega),hgb,QM,ew]
   cases Lw:gb dn i with
   | true=>
    have hr:ba dn (i+1)=ba dn i:=by show (if gb dn i=true then _ else _)=_; rw [if_pos Lw]
    rw [if_pos rfl,←hr]
    exact wW hm ok hd f (i+1) cls (by omega) (by omega) ⟨P.lc,P.old,fun j hj=>by rw [hr] at hj ⊢; exact P.mG j hj⟩
   | false=>
    have hr:ba dn (i+1)=ba dn i++[(i:Int)]:=by show (if gb dn i=true then _ else _)=_; rw [if_neg (by rw [Lw]; simp)]
    have Ip:=fi (dn:=dn) i
    have nJ:app 8 (ba dn i) [(i:Int)]=some (ba dn i++[(i:Int)]):=by unfold app; rw [if_pos (by simp; omega)]
    obtain⟨v,x,k1,k2⟩:=B4 (m:=m) ok h P.lc (fun g hg e=>by
     obtain⟨j,a,b,c⟩:=fR.1 hg
     have:=(P.mG j (by rw [←c]; exact hg)).1
     obtain⟨j',a',b',c'⟩:=fR.1 this
     rw [c,QT] at e; omega) m 0 (by omega) (by omega) (fun q hq=>absurd hq (by omega))
    have k1:ak.l3 m l (i:Int) (ba dn i++[(i:Int)]) m (cls.set i (i:Int)) 0=_:=k1
    rw [if_neg (by simp),nJ,QM,bH (by rw [P.lc]; exact h),QM,QT,k1,QM]
    dsimp only
    rw [←hr]
    exact wW hm ok hd f (i+1) _ (by omega) (by omega) (B5 h Lw P k2)
  ·have e:i=l.length:=by omega
   subst e
   exact⟨cls,_,by rw [if_neg (by simp)],P⟩
end Go.Proofs.YtmekcfdllhphlaaDoor
namespace Go.Proofs.YtmekcfdllhphlaaDoor
open Go Go.R
open Go.IntKind (i64 u64 u8 u32)
structure yn (l:List aa)(dn:List Bool)(c0 cls:List Int):Prop where
 lc:cls.length=l.length
 old:∀j,j<l.length→gb dn j=true→gt cls j=gt c0 j
 mG:∀j:Nat,(j:Int)∈ba dn l.length→gt cls j∈ba dn l.length∧gt cls j≤j∧gt cls (gt cls j).toNat=gt cls j∧Alike (nd l j) (nd l (gt cls j))
 coarse:∀R,zz l R→∀i j:Nat,R i j→(i:Int)∈ba dn l.length→(j:Int)∈ba dn l.length→gt cls i=gt cls j
theorem dU {dn:List Bool}{p:Nat}{x:Int}(h:x∈ba dn p):0≤x∧x<p∧((x.toNat:Nat):Int)=x:=by
 obtain⟨j,a,b,c⟩:=fR.1 h; omega
theorem zD {l:List aa}{dn:List Bool}{c0 cls:List Int}(P:IE l dn c0 l.length cls):yn l dn c0 cls:=by
 have mn:∀i j:Nat,(i:Int)∈ba dn l.length→(j:Int)∈ba dn l.length→Alike (nd l i) (nd l j)→gt cls i≤gt cls j:=fun i j hi hj hA=>by
  obtain⟨r1,r2,r3⟩:=P.mG j hj
  exact (P.mG i hi).2.2 _ r1 (hA.trans r2)
 refine⟨P.lc,fun j _ h=>P.old j h,fun j hj=>?_,fun R B i j hR hi hj=>?_⟩
 ·obtain⟨r1,r2,r3⟩:=P.mG j hj
  have e:=(dU r1).2.2
  refine⟨r1,r3 j hj (Alike.refl _),?_,r2⟩
  have h1:=mn j (gt cls j).toNat hj (by rw [e]; exact r1) (by rw [e]; exact r2)
  have h2:=mn (gt cls j).toNat j (by rw [e]; exact r1) hj (by rw [e]; exact r2.symm)
  omega
 ·have h1:=mn i j hi hj (B.top i j hR)
  have h2:=mn j i hj hi (B.top i j hR).symm
  omega
def Qr (l:List aa)(cls:List Int)(j g:Nat):Prop:=gt cls j=gt cls g∧SA l cls j g
theorem yn.al {l dn c0 cls}(P:yn l dn c0 cls){i j:Nat}(hi:(i:Int)∈ba dn l.length)(hj:(j:Int)∈ba dn l.length)(h:gt cls i=gt cls j):Alike (nd l i) (nd l j):=by
 have a:=(P.mG i hi).2.2.2
 have b:=(P.mG j hj).2.2.2
 rw [h] at a
 exact a.trans b.symm
theorem yn.Eu {l dn c0 cls}(P:yn l dn c0 cls){i j:Nat}(hi:(i:Int)∈ba dn l.length)(hj:(j:Int)∈ba dn l.length)(h:Qr l cls i j):Qr l cls j i:=
 ⟨h.1.symm,fun k hk=>(h.2 k (by have:=(P.al hi hj h.1).len; unfold na at *; omega)).symm⟩
theorem yn.wX {l dn c0 cls}(P:yn l dn c0 cls){i j q:Nat}(hi:(i:Int)∈ba dn l.length)(hj:(j:Int)∈ba dn l.length)(h:Qr l cls i j)(g:Qr l cls j q):Qr l cls i q:=
 ⟨h.1.trans g.1,fun k hk=>(h.2 k hk).trans (g.2 k (by have:=(P.al hi hj h.1).len; unfold na at *; omega))⟩
theorem B6 {m:Nat}(hm:2 ^ 30≤m){l:List aa}{dn:List Bool}{c0 cls nx:List Int}(ok:iD l)(P:yn l dn c0 cls)(hnx:nx.length=l.length){J:Nat}(hJ:J<(ba dn l.length).length)
  (hlt:∀q,q<J→gt nx (gt (ba dn l.length) q).toNat≠gt (ba dn l.length) J):∀(f k:Nat),J - k+2≤f→k≤J→(∀q,q<k→¬Qr l cls (gt (ba dn l.length) J).toNat (gt (ba dn l.length) q).toNat)→
  ∃w x,ak.l6 m l (ba dn l.length) cls (J:Int) (gt (ba dn l.length) J) f (nx.set (gt (ba dn l.length) J).toNat (gt (ba dn l.length) J)) (k:Int)=some (nx.set (gt (ba dn l.length) J).toNat w,x)∧
   (w=gt (ba dn l.length) J∧(∀q,q<J→¬Qr l cls (gt (ba dn l.length) J).toNat (gt (ba dn l.length) q).toNat)∨∃q,q<J∧Qr l cls (gt (ba dn l.length) J).toNat (gt (ba dn l.length) q).toNat∧w=gt nx (gt (ba dn l.length) q).toNat)
 | 0,k,hf,_,_=>absurd hf (by omega)
 | f+1,k,hf,hk,qF=>by
  have lz:(2:Nat) ^ 30=1073741824:=by decide
  have h8:=ok.1
  have Ip:=fi (dn:=dn) l.length
  have mJ:=aE hJ
  obtain⟨v0,v1,v2⟩:=dU mJ
  unfold ak.l6
  have kH:∀w,ix (nx.set (gt (ba dn l.length) J).toNat w) (gt (ba dn l.length) J)=some w:=fun w=>by
   rw [ef (k:=(gt (ba dn l.length) J).toNat) (by omega) (by rw [Rb]; omega),cR (by omega),if_pos rfl]
  rw [kH,QM,if_pos (by simp)]
  by_cases h:k<J
  ·have mk:=aE (l:=ba dn l.length) (k:=k) (by omega)
   obtain⟨w0,w1,w2⟩:=dU mk
   have next:¬Qr l cls (gt (ba dn l.length) J).toNat (gt (ba dn l.length) k).toNat→∃w x,ak.l6 m l (ba dn l.length) cls (J:Int) (gt (ba dn l.length) J) f (nx.set (gt (ba dn l.length) J).toNat (gt (ba dn l.length) J)) (i64.wrap ((k:Int)+1))=some (nx.set (gt (ba dn l.length) J).toNat w,x)∧
     (w=gt (ba dn l.length) J∧(∀q,q<J→¬Qr l cls (gt (ba dn l.length) J).toNat (gt (ba dn l.length) q).toNat)∨∃q,q<J∧Qr l cls (gt (ba dn l.length) J).toNat (gt (ba dn l.length) q).toNat∧w=gt nx (gt (ba dn l.length) q).toNat):=fun hn=>by
    rw [aD (by omega) (by omega),show (k:Int)+1=((k+1:Nat):Int) by omega]
    refine B6 hm ok P hnx hJ hlt f (k+1) (by omega) (by omega) fun q hq=>?_
    by_cases e:q=k
    ·subst e; exact hn
    ·exact qF q (by omega)
   have c1:ix cls (gt (ba dn l.length) J)=some (gt cls (gt (ba dn l.length) J).toNat):=ef v2.symm (by rw [P.lc]; omega)
   have c2:ix cls (gt (ba dn l.length) k)=some (gt cls (gt (ba dn l.length) k).toNat):=ef w2.symm (by rw [P.lc]; omega)
   rw [if_pos (by simp only [decide_eq_true_eq]; omega),c1,QM,bH (by omega),QM,c2,QM]
   by_cases e:gt cls (gt (ba dn l.length) J).toNat=gt cls (gt (ba dn l.length) k).toNat
   ·have hA:=P.al (i:=(gt (ba dn l.length) J).toNat) (j:=(gt (ba dn l.length) k).toNat) (by rw [v2]; exact mJ) (by rw [w2]; exact mk) e
    obtain⟨xs,s1,s2⟩:=yi hm ok P.lc (i:=(gt (ba dn l.length) J).toNat) (j:=(gt (ba dn l.length) k).toNat) (by omega) (by omega) hA.len
    rw [v2,w2] at s1
    rw [if_pos (by simpa using e),eX (by omega) (by omega),QM,QM,eX (by omega) (by omega),QM,s1,QM]
    cases xs with
    | false=>
     rw [if_neg (by simp)]
     exact next fun h=>by have:=s2.2 h.2; cases this
    | true=>
     have hQ:Qr l cls (gt (ba dn l.length) J).toNat (gt (ba dn l.length) k).toNat:=⟨e,s2.1 rfl⟩
     have hne:(gt (ba dn l.length) k).toNat≠(gt (ba dn l.length) J).toNat:=by have:=ka (dn:=dn) (p:=l.length) h hJ; omega
     have n1:ix (nx.set (gt (ba dn l.length) J).toNat (gt (ba dn l.length) J)) (gt (ba dn l.length) k)=some (gt nx (gt (ba dn l.length) k).toNat):=by
      rw [ef w2.symm (by rw [Rb]; omega),cR (by omega),if_neg hne]
     obtain⟨g,rfl⟩:∃g,f=g+1:=⟨f - 1,by omega⟩
     rw [if_pos rfl,QM,n1,QM,QM,List.set_set]
     refine⟨gt nx (gt (ba dn l.length) k).toNat,i64.wrap ((k:Int)+1),?_,.inr ⟨k,h,hQ,rfl⟩⟩
     unfold ak.l6
     rw [kH,QM,if_neg (by simpa using hlt k h)]
   ·rw [if_neg (by simpa using e)]
    exact next fun h=>e h.1
  ·have e:k=J:=by omega
   rw [if_neg (by simp only [decide_eq_true_eq]; omega)]
   exact⟨gt (ba dn l.length) J,_,rfl,.inl ⟨rfl,fun q hq=>qF q (by omega)⟩⟩
structure N5 (l:List aa)(dn:List Bool)(cls:List Int)(p:Nat)(nx:List Int):Prop where
 ln:nx.length=l.length
 Gk:∀x:Nat,(x:Int)∉ba dn l.length→gt nx x=gt cls x
 later:∀q,p≤q→q<(ba dn l.length).length→gt nx (gt (ba dn l.length) q).toNat=gt cls (gt (ba dn l.length) q).toNat
 new:∀q,q<p→gt nx (gt (ba dn l.length) q).toNat∈ba dn l.length∧Qr l cls (gt (ba dn l.length) q).toNat (gt nx (gt (ba dn l.length) q).toNat).toNat∧∀g∈ba dn l.length,Qr l cls (gt (ba dn l.length) q).toNat g.toNat→gt nx (gt (ba dn l.length) q).toNat≤g
theorem te {dn:List Bool}{n p q:Nat}(hp:p<(ba dn n).length)(hq:q<(ba dn n).length)(e:(gt (ba dn n) p).toNat=(gt (ba dn n) q).toNat):p=q:=by
 have a:=(dU (aE hp)).2.2
 have b:=(dU (aE hq)).2.2
 rcases Nat.lt_trichotomy p q with h | h | h
 ·have:=ka (dn:=dn) (p:=n) h hq; omega
 ·exact h
 ·have:=ka (dn:=dn) (p:=n) h hp; omega
theorem DK {l:List aa}{dn:List Bool}{c0 cls nx:List Int}(P:yn l dn c0 cls){p:Nat}(hp:p<(ba dn l.length).length)(N:N5 l dn cls p nx){w:Int}
  (hw:w=gt (ba dn l.length) p∧(∀q,q<p→¬Qr l cls (gt (ba dn l.length) p).toNat (gt (ba dn l.length) q).toNat)∨∃q,q<p∧Qr l cls (gt (ba dn l.length) p).toNat (gt (ba dn l.length) q).toNat∧w=gt nx (gt (ba dn l.length) q).toNat) :
  N5 l dn cls (p+1) (nx.set (gt (ba dn l.length) p).toNat w):=by
 have mp:=aE hp
 obtain⟨v0,v1,v2⟩:=dU mp
 have gc:∀x,x≠(gt (ba dn l.length) p).toNat→gt (nx.set (gt (ba dn l.length) p).toNat w) x=gt nx x:=fun x hx=>by rw [cR (by rw [N.ln]; omega),if_neg hx]
 have gi:gt (nx.set (gt (ba dn l.length) p).toNat w) (gt (ba dn l.length) p).toNat=w:=by rw [cR (by rw [N.ln]; omega),if_pos rfl]
 refine⟨by simpa using N.ln,fun x hx=>?_,fun q h1 h2=>?_,fun q hq=>?_⟩
 ·rw [gc x (fun e=>hx (by rw [e,v2]; exact mp))]; exact N.Gk x hx
 ·rw [gc _ (fun e=>by have:=te h2 hp e; omega)]; exact N.later q (by omega) h2
 ·by_cases e:q=p
  ·subst e
   rw [gi]
   rcases hw with⟨rfl,h⟩| ⟨q',h1,h2,rfl⟩
   ·refine⟨mp,⟨rfl,fun _ _=>rfl⟩,fun g hg hQ=>?_⟩
    obtain⟨k,hk,rfl⟩:=dt hg
    by_cases PC:k<q
    ·exact absurd hQ (h k PC)
    ·by_cases Lx:k=q
     ·subst Lx; exact Int.le_refl _
     ·have:=ka (dn:=dn) (p:=l.length) (k:=q) (q:=k) (by omega) hk; omega
   ·have mq:=aE (l:=ba dn l.length) (k:=q') (by omega)
    have eq2:=(dU mq).2.2
    obtain⟨n1,n2,n3⟩:=N.new q' h1
    have e3:=(dU n1).2.2
    have s1:((gt (ba dn l.length) q).toNat:Int)∈ba dn l.length:=by rw [v2]; exact mp
    have s2:((gt (ba dn l.length) q').toNat:Int)∈ba dn l.length:=by rw [eq2]; exact mq
    exact⟨n1,P.wX s1 s2 h2 n2,fun g hg hQ=>n3 g hg (P.wX s2 s1 (P.Eu s1 s2 h2) hQ)⟩
  ·rw [gc _ (fun e2=>by have:=te (dn:=dn) (n:=l.length) (by omega) hp e2; omega)]
   exact N.new q (by omega)
theorem wY {m:Nat}(hm:2 ^ 30≤m){l:List aa}{dn:List Bool}{c0 cls:List Int}(ok:iD l)(P:yn l dn c0 cls):∀(f p:Nat) (more:Bool) (nx:List Int),(ba dn l.length).length - p<f→p≤(ba dn l.length).length→N5 l dn cls p nx→
  (more=true↔∃q,q<p∧gt nx (gt (ba dn l.length) q).toNat≠gt cls (gt (ba dn l.length) q).toNat)→
  ∃fw Ly x,ak.l5 m l (ba dn l.length) cls f more nx (p:Int)=some (fw,Ly,x)∧N5 l dn cls (ba dn l.length).length Ly∧(fw=true↔∃q,q<(ba dn l.length).length∧gt Ly (gt (ba dn l.length) q).toNat≠gt cls (gt (ba dn l.length) q).toNat)
 | 0,p,_,_,hf,_,_,_=>absurd hf (by omega)
 | f+1,p,more,nx,hf,hp,N,kb=>by
  have lz:(2:Nat) ^ 30=1073741824:=by decide
  have h8:=ok.1
  have Ip:=fi (dn:=dn) l.length
  unfold ak.l5
  by_cases h:p<(ba dn l.length).length
  ·have mp:=aE h
   obtain⟨v0,v1,v2⟩:=dU mp
   obtain⟨w,x,k1,k2⟩:=B6 hm ok P N.ln h (fun q hq=>by
    obtain⟨n1,n2,n3⟩:=N.new q hq
    have mq:=aE (l:=ba dn l.length) (k:=q) (by omega)
    have:=n3 _ mq ⟨rfl,fun _ _=>rfl⟩
    have:=ka (dn:=dn) (p:=l.length) hq h
    omega) m 0 (by omega) (by omega) (fun q hq=>absurd hq (by omega))
   have k1:ak.l6 m l (ba dn l.length) cls (p:Int) (gt (ba dn l.length) p) m (nx.set (gt (ba dn l.length) p).toNat (gt (ba dn l.length) p)) 0=_:=k1
   have N':=DK P h N k2
   have ew:i64.wrap ((p:Int)+1)=((p+1:Nat):Int):=by rw [aD (by omega) (by omega)]; omega
   have PD:ix nx (gt (ba dn l.length) p)=some (gt nx (gt (ba dn l.length) p).toNat):=ef v2.symm (by rw [N.ln]; omega)
   have c1:ix cls (gt (ba dn l.length) p)=some (gt cls (gt (ba dn l.length) p).toNat):=ef v2.symm (by rw [P.lc]; omega)
   have c2:ix (nx.set (gt (ba dn l.length) p).toNat w) (gt (ba dn l.length) p)=some w:=by
    rw [ef v2.symm (by rw [Rb,N.ln]; omega),cR (by rw [N.ln]; omega),if_pos rfl]
   have gw:gt (nx.set (gt (ba dn l.length) p).toNat w) (gt (ba dn l.length) p).toNat=w:=by rw [cR (by rw [N.ln]; omega),if_pos rfl]
   have old:∀q,q<p→gt (nx.set (gt (ba dn l.length) p).toNat w) (gt (ba dn l.length) q).toNat=gt nx (gt (ba dn l.length) q).toNat:=fun q hq=>by
    rw [cR (by rw [N.ln]; omega),if_neg (fun e=>by have:=te (dn:=dn) (n:=l.length) (by omega) h e; omega)]
   rw [if_pos (by simp only [decide_eq_true_eq]; omega),bH h,QM,PD,QM,k1,QM]
   dsimp only
   rw [ew]
   cases more with
   | true=>
    rw [if_pos rfl]
    refine wY hm ok P f (p+1) true _ (by clear kb k2; omega) (by clear kb k2; omega) N' ⟨fun _=>?_,fun _=>rfl⟩
    obtain⟨q,q1,q2⟩:=kb.1 rfl
    exact⟨q,by omega,by rw [old q q1]; exact q2⟩
   | false=>
    rw [if_neg (by simp),c2,QM,c1,QM]
    refine wY hm ok P f (p+1) _ _ (by clear kb k2; omega) (by clear kb k2; omega) N' ?_
    constructor
    ·intro hb
     refine⟨p,by omega,?_⟩
     rw [gw]; simpa using hb
    ·rintro⟨q,q1,q2⟩
     by_cases e:q=p
     ·subst e; rw [gw] at q2; simpa using q2
     ·rw [old q (by omega)] at q2
      have:=kb.2 ⟨q,by omega,q2⟩
      cases this
  ·have e:p=(ba dn l.length).length:=by omega
   subst e
   exact⟨more,nx,_,by rw [if_neg (by simp)],N,kb⟩
theorem B7 {l:List aa}{dn:List Bool}{c0 cls nx:List Int}{od:List Int}(ok:iD l)(P:yn l dn c0 cls)(N:N5 l dn cls (ba dn l.length).length nx)
  (tC:∀j,j<l.length→(gb dn j=true↔(j:Int)∈od)) (GC:∀R,zz l R→∀i j:Nat,R i j→(i:Int)∈od→(j:Int)∈od→gt c0 i=gt c0 j)
  (hfin:∀R,zz l R→∀i j:Nat,R i j→(i:Int)∈od→(j:Int)∈od):yn l dn c0 nx:=by
 have IF:∀j,j<l.length→gb dn j=true→(j:Int)∉ba dn l.length:=fun j _ h hm=>by
  obtain⟨j',a,b,c⟩:=fR.1 hm
  have:j=j':=by omega
  subst this; rw [h] at b; cases b
 have qY:∀j,j<l.length→(j:Int)∉od→(j:Int)∈ba dn l.length:=fun j hj h=>fR.2 ⟨j,hj,by
  cases hb:gb dn j with
  | true=>exact absurd ((tC j hj).1 hb) h
  | false=>rfl,rfl⟩
 have atR:∀j:Nat,(j:Int)∈ba dn l.length→gt nx j∈ba dn l.length∧Qr l cls j (gt nx j).toNat∧∀g∈ba dn l.length,Qr l cls j g.toNat→gt nx j≤g:=fun j hj=>by
  obtain⟨q,hq,e⟩:=dt hj
  have:=N.new q hq
  rw [e,QT] at this
  exact this
 have mn:∀i j:Nat,(i:Int)∈ba dn l.length→(j:Int)∈ba dn l.length→Qr l cls i j→gt nx i≤gt nx j:=fun i j hi hj hQ=>by
  obtain⟨r1,r2,r3⟩:=atR j hj
  exact (atR i hi).2.2 _ r1 (P.wX hi hj hQ r2)
 have Nk:∀i j:Nat,(i:Int)∈ba dn l.length→(j:Int)∈ba dn l.length→Qr l cls i j→gt nx i=gt nx j:=fun i j hi hj hQ=>by
  have h1:=mn i j hi hj hQ
  have h2:=mn j i hj hi (P.Eu hi hj hQ)
  omega
 refine⟨N.ln,fun j hj h=>by rw [N.Gk j (IF j hj h)]; exact P.old j hj h,fun j hj=>?_,fun R B i j hR hi hj=>?_⟩
 ·obtain⟨r1,r2,r3⟩:=atR j hj
  have e:=(dU r1).2.2
  have vG:(((gt nx j).toNat:Nat):Int)∈ba dn l.length:=by rw [e]; exact r1
  refine⟨r1,r3 j hj ⟨rfl,fun _ _=>rfl⟩,(Nk j _ hj vG r2).symm,?_⟩
  have:=P.al hj vG r2.1
  rw [e] at this; exact this
 ·refine Nk i j hi hj ⟨P.coarse R B i j hR hi hj,fun k hk=>?_⟩
  have IG:R (ar l i k) (ar l j k):=B.arg i j hR k hk
  obtain⟨ra,rb⟩:=B.jx _ _ IG
  by_cases ha:((ar l i k:Nat):Int)∈od
  ·have hb:=hfin R B _ _ IG ha
   rw [P.old _ ra ((tC _ ra).2 ha),P.old _ rb ((tC _ rb).2 hb)]
   exact GC R B _ _ IG ha hb
  ·have hb:((ar l j k:Nat):Int)∉od:=fun h=>ha (hfin _ B.symm _ _ IG h)
   exact P.coarse R B _ _ IG (qY _ ra ha) (qY _ rb hb)
def zE (dn:List Bool)(n:Nat)(cls:List Int):List Int:=(ba dn n).filter fun j=>gt cls j.toNat==j
theorem zF {dn:List Bool}{n:Nat}:(ba dn n).Nodup:=by
 unfold List.Nodup
 rw [List.pairwise_iff_getElem]
 intro i j hi hj tO e
 have:=ka (dn:=dn) (p:=n) tO hj
 have a:=aV hi
 have b:=aV hj
 rw [QZ hi] at a
 rw [QZ hj] at b
 have a:=Rf a
 have b:=Rf b
 omega
theorem B8 {m:Nat}(hm:2 ^ 30≤m){l:List aa}{dn:List Bool}{c0 od:List Int}(ok:iD l)
  (tC:∀j,j<l.length→(gb dn j=true↔(j:Int)∈od)) (GC:∀R,zz l R→∀i j:Nat,R i j→(i:Int)∈od→(j:Int)∈od→gt c0 i=gt c0 j)
  (hfin:∀R,zz l R→∀i j:Nat,R i j→(i:Int)∈od→(j:Int)∈od):∀(f:Nat) (cls:List Int),(ba dn l.length).length - (zE dn l.length cls).length+1<f→yn l dn c0 cls→
  ∃gC,ak.l4 m l (ba dn l.length) f cls true=some (gC,false)∧yn l dn c0 gC∧∀j:Nat,(j:Int)∈ba dn l.length→SA l gC j (gt gC j).toNat
 | 0,cls,hf,_=>absurd hf (by omega)
 | f+1,cls,hf,P=>by
  have lz:(2:Nat) ^ 30=1073741824:=by decide
  have h8:=ok.1
  have Ip:=fi (dn:=dn) l.length
  unfold ak.l4
  have nJ:app 8 ([]:List Int) cls=some cls:=by unfold app; rw [if_pos (by simp; rw [P.lc]; omega),Rv]
  obtain⟨fw,nx,x,k1,N,kb⟩:=wY hm ok P m 0 false cls (by omega) (by omega) ⟨P.lc,fun _ _=>rfl,fun _ _ _=>rfl,fun q hq=>absurd hq (by omega)⟩ ⟨fun h=>(by cases h),fun ⟨q,hq,_⟩=>absurd hq (by omega)⟩
  have k1:ak.l5 m l (ba dn l.length) cls m false cls 0=_:=k1
  have P':=B7 ok P N tC GC hfin
  rw [if_pos rfl,nJ,QM,k1,QM]
  dsimp only
  cases Nl:fw with
  | true=>
   obtain⟨q,hq,hne⟩:=kb.1 Nl
   have mq:=aE hq
   have eq2:=(dU mq).2.2
   obtain⟨n1,n2,n3⟩:=N.new q hq
   have e3:=(dU n1).2.2
   have Nn:(zE dn l.length cls).length+1≤(zE dn l.length nx).length:=by
    have PE:(gt nx (gt (ba dn l.length) q).toNat::zE dn l.length cls).Nodup:=by
     rw [List.nodup_cons]
     refine⟨fun h=>?_,List.Pairwise.filter _ zF⟩
     have:=(Su.1 h).2
     have:=beq_iff_eq.1 this
     exact hne (by rw [n2.1,this])
    have:=PE.length_le_of_subset (l₂:=zE dn l.length nx) (fun y hy=>by
     rcases Rt.1 hy with rfl | hy
     ·refine Su.2 ⟨n1,?_⟩
      have:=(P'.mG (gt (ba dn l.length) q).toNat (by rw [eq2]; exact mq)).2.2.1
      rw [beq_iff_eq]; exact this
     ·obtain⟨y1,y2⟩:=Su.1 hy
      have y2:=beq_iff_eq.1 y2
      refine Su.2 ⟨y1,?_⟩
      have ey:=(dU y1).2.2
      rw [beq_iff_eq]
      obtain⟨k,hk,e⟩:=dt y1
      obtain⟨m1,m2,m3⟩:=N.new k hk
      rw [e] at m1 m2 m3
      have a1:=m3 y y1 ⟨rfl,fun _ _=>rfl⟩
      have em:=(dU m1).2.2
      have a2:=(P.mG (gt nx y.toNat).toNat (by rw [em]; exact m1)).2.1
      rw [←m2.1,y2] at a2
      omega)
    simpa using this
   have hle:(zE dn l.length nx).length≤(ba dn l.length).length:=List.length_filter_le _ _
   exact B8 hm ok tC GC hfin f nx (by clear kb; omega) P'
  | false=>
   obtain⟨g,rfl⟩:∃g,f=g+1:=⟨f - 1,by omega⟩
   have same:∀j:Nat,(j:Int)∈ba dn l.length→gt nx j=gt cls j:=fun j hj=>by
    obtain⟨k,hk,e⟩:=dt hj
    by_cases hne:gt nx j=gt cls j
    ·exact hne
    ·have:=kb.2 ⟨k,hk,by rw [e,QT]; exact hne⟩
     rw [Nl] at this; cases this
   have PF:nx=cls:=Bc (by rw [N.ln,P.lc]) fun k hk=>by
    by_cases h:(k:Int)∈ba dn l.length
    ·exact same k h
    ·exact N.Gk k h
   refine⟨nx,?_,P',fun j hj=>?_⟩
   ·unfold ak.l4
    rw [if_neg (by simp)]
   ·obtain⟨k,hk,e⟩:=dt hj
    obtain⟨m1,m2,m3⟩:=N.new k hk
    rw [e,QT] at m2
    rw [PF] at m2 ⊢
    exact m2.2
end Go.Proofs.YtmekcfdllhphlaaDoor
namespace Go.Proofs.YtmekcfdllhphlaaDoor
open Go Go.R
open Go.IntKind (i64 u64 u8 u32)
structure Gl (l:List aa)(c od:List Int):Prop where
 min:Min l c
 mG:∀i,i<l.length→0≤gt c i∧gt c i<l.length∧gt c (gt c i).toNat=gt c i
 qX:∀i:Nat,(i:Int)∈od→∀k,k<na l i→((ar l i k:Nat):Int)∈od∧od.idxOf ((ar l i k:Nat):Int)<od.idxOf (i:Int)
 PG:∀i,i<l.length→(i:Int)∉od→gt c i≤i
theorem Gm {n k:Nat}:gb (Rc n false) k=false:=by
 unfold gb; rw [Q5,List.getElem?_replicate]; split<;>rfl
theorem uV {m:Nat}(hm:2 ^ 30≤m){l:List aa}(ok:iD l):∃c od,ak.f m l=some c∧Gl l c od:=by
 have lz:(2:Nat) ^ 30=1073741824:=by decide
 have h8:=ok.1
 unfold ak.f
 have e0:qO 8 (l.length:Int) (0:Int)=some (Rc l.length 0):=by unfold qO; rw [if_pos ⟨by omega,by rw [QT]; omega⟩,QT]
 have e1:qO 1 (l.length:Int) false=some (Rc l.length false):=by unfold qO; rw [if_pos ⟨by omega,by rw [QT]; omega⟩,QT]
 obtain⟨c0,dn,fs,od,k1,P1,hq⟩:=B3 hm ok m (Rc l.length 0) (Rc l.length false) [] [] (by simp; omega)
  {lc:=by simp,ld:=by simp,Lu:=by simp,Gj:=(by intro x hx; cases hx),CI:=(by intro i hi; rw [Gm]; simp),qX:=(by intro i hi; cases hi),Jj:=by simp,fst:=(by intro f hf; cases hf),mG:=(by intro i hi; cases hi),apart:=(by intro f hf; cases hf),coarse:=(by intro R B i j hR hi; cases hi)}
 obtain⟨c1,x,k2,P2⟩:=wW hm ok P1.ld (c0:=c0) m 0 c0 (by omega) (by omega) {lc:=P1.lc,old:=fun _ _=>rfl,mG:=(by intro j hj; cases hj)}
 have k2:ak.l2 m l dn m c0 [] 0=_:=k2
 have hfin:∀R,zz l R→∀i j:Nat,R i j→(i:Int)∈od→(j:Int)∈od:=by
  intro R B
  have:∀N i j:Nat,od.idxOf (i:Int)<N→R i j→(i:Int)∈od→(j:Int)∈od:=by
   intro N
   induction N with
   | zero=>intro i j h; omega
   | succ N ih=>
    intro i j hN hR hi
    by_cases hj:(j:Int)∈od
    ·exact hj
    ·obtain⟨k,g1,g2⟩:=hq j (B.jx i j hR).2 hj
     have oD:k<na l i:=by have:=(B.top i j hR).len; unfold na at *; omega
     obtain⟨r1,r2⟩:=P1.qX i hi k oD
     exact absurd (ih (ar l i k) (ar l j k) (by omega) (B.arg i j hR k oD) r1) g2
  exact fun i j=>this (od.idxOf (i:Int)+1) i j (by omega)
 obtain⟨c,k3,P3,hS⟩:=B8 hm ok P1.CI P1.coarse hfin m c1 (by have:=fi (dn:=dn) l.length; omega) (zD P2)
 have qY:∀j,j<l.length→(j:Int)∉od→(j:Int)∈ba dn l.length:=fun j hj h=>fR.2 ⟨j,hj,by
  cases hb:gb dn j with
  | true=>exact absurd ((P1.CI j hj).1 hb) h
  | false=>rfl,rfl⟩
 have Ev:∀{x:Int},x∈ba dn l.length→x∉od:=fun hx h=>by
  obtain⟨j,a,b,e⟩:=fR.1 hx
  subst e
  rw [(P1.CI j a).2 h] at b; cases b
 have qZ:∀j:Nat,j<l.length→(j:Int)∈od→gt c j=gt c0 j:=fun j hj h=>P3.old j hj ((P1.CI j hj).2 h)
 have Gn:∀f∈fs,0≤f∧f<l.length∧f∈od∧((f.toNat:Nat):Int)=f:=fun f hf=>by
  have a:=P1.Lv f hf; have b:=(P1.fst f hf).1; exact⟨a.1,a.2,b,by omega⟩
 have Lz:∀i j:Nat,(i:Int)∈od→(j:Int)∈od→nV l c0 i j→SA l c i j:=fun i j hi hj h k hk=>by
  have a:=(P1.qX i hi k hk).1
  have b:=(P1.qX j hj k (by have:=h.1.len; unfold na at *; omega)).1
  have ra:=P1.Gj _ a
  have rb:=P1.Gj _ b
  rw [qZ _ (by omega) a,qZ _ (by omega) b]
  exact h.2 k hk
 have both:∀i j:Nat,i<l.length→j<l.length→gt c i=gt c j→Alike (nd l i) (nd l j)∧SA l c i j:=fun i j hi hj e=>by
  by_cases h1:(i:Int)∈od
  ·obtain⟨f1,s1⟩:=P1.mG i h1
   by_cases h2:(j:Int)∈od
   ·obtain⟨f2,s2⟩:=P1.mG j h2
    rw [qZ i hi h1,qZ j hj h2] at e
    rw [e] at s1
    have s:=s1.trans s2.symm
    exact⟨s.1,Lz i j h1 h2 s⟩
   ·have:=(P3.mG j (qY j hj h2)).1
    rw [←e,qZ i hi h1] at this
    exact absurd (Gn _ f1).2.2.1 (Ev this)
  ·have r1:=qY i hi h1
   by_cases h2:(j:Int)∈od
   ·obtain⟨f2,s2⟩:=P1.mG j h2
    have:=(P3.mG i r1).1
    rw [e,qZ j hj h2] at this
    exact absurd (Gn _ f2).2.2.1 (Ev this)
   ·have r2:=qY j hj h2
    have hA:=P3.al r1 r2 e
    refine⟨hA,fun k hk=>?_⟩
    have a:=hS i r1 k hk
    have b:=hS j r2 k (by have:=hA.len; unfold na at *; omega)
    rw [e] at a
    exact a.trans b.symm
 refine⟨c,od,?_,⟨P3.lc,fun i j hi hj e=>(both i j hi hj e).1,fun i j hi hj e k hk=>(both i j hi hj e).2 k hk,fun R B i j hR=>?_⟩,fun i hi=>?_,P1.qX,fun i hi h=>(P3.mG i (qY i hi h)).2.1⟩
 ·rw [e0,QM,e1,QM,k1,QM]
  dsimp only
  rw [k2,QM]
  dsimp only
  rw [k3]; rfl
 ·obtain⟨hi,hj⟩:=B.jx i j hR
  by_cases h1:(i:Int)∈od
  ·have h2:=hfin R B i j hR h1
   rw [qZ i hi h1,qZ j hj h2]; exact P1.coarse R B i j hR h1 h2
  ·have h2:(j:Int)∉od:=fun h=>h1 (hfin _ B.symm j i hR h)
   exact P3.coarse R B i j hR (qY i hi h1) (qY j hj h2)
 ·by_cases h1:(i:Int)∈od
  ·obtain⟨f1,s1⟩:=P1.mG i h1
   obtain⟨a,b,d,e⟩:=Gn _ f1
   rw [qZ i hi h1]
   refine⟨a,b,?_⟩
   rw [qZ _ (by omega) (by rw [e]; exact d)]
   exact (P1.fst _ f1).2
  ·obtain⟨r1,r2,r3,r4⟩:=P3.mG i (qY i hi h1)
   have:=dU r1
   exact⟨this.1,this.2.1,r3⟩
end Go.Proofs.YtmekcfdllhphlaaDoor
namespace Go.Proofs.YtmekcfdllhphlaaDoor
open Go Go.R
open Go.IntKind (i64 u64 u8 u32)
def pm (pl:List Int)(n:aa):aa:=⟨n.kind,n.int,n.label,n.args.map fun a=>gt pl a.toNat⟩
theorem jq {l:List aa}{i:Nat}(h:i<l.length):l[i]? = some (nd l i):=by
 have:=eX (l:=l) (i:=(i:Int)) (by omega) (by omega)
 unfold ix at this
 rwa [if_pos (by omega),QT] at this
theorem kc {l:List aa}{i q:Nat}{x:aa}(hi:i<l.length):nd (l.set i x) q=if q=i then x else nd l q:=by
 unfold nd
 simp only [QT,Q5,Sj]
 by_cases h:i=q
 ·subst h; simp [hi]
 ·rw [if_neg h,if_neg (by omega)]
theorem B9 {f:aa→aa}{l:List aa}{i:Nat}(h:i<l.length):nd (l.map f) i=f (nd l i):=by
 have h1:=jq (l:=l.map f) (i:=i) (by simpa using h)
 rw [Rk,jq h] at h1
 exact (Rf h1).symm
theorem DL {f:Int→aa}{l:List Int}{i:Nat}(h:i<l.length):nd (l.map f) i=f (gt l i):=by
 have h1:=jq (l:=l.map f) (i:=i) (by simpa using h)
 rw [Rk,aV h] at h1
 exact (Rf h1).symm
theorem Ca {l r:List aa}(hl:l.length=r.length)(h:∀k,k<l.length→nd l k=nd r k):l=r:=by
 apply RJ fun k=>?_
 by_cases hk:k<l.length
 ·rw [jq hk,jq (hl ▸ hk),h k hk]
 ·rw [Ra (by omega),Ra (by omega)]
theorem uW {m:Nat}{S:List Int}(hn:S.Nodup)(II:S.length≤8000):∀(f i:Nat) (pl:List Int),S.length - i<f→i≤S.length→(∀s∈S,0≤s∧s<pl.length)→(∀q,q<i→gt pl (gt S q).toNat=q)→
  ∃Cb x,ax.l0 m S f pl (i:Int)=some (Cb,x)∧Cb.length=pl.length∧∀q,q<S.length→gt Cb (gt S q).toNat=q
 | 0,i,pl,hf,_,_,_=>absurd hf (by omega)
 | f+1,i,pl,hf,hi,hS,hq=>by
  unfold ax.l0
  by_cases h:i<S.length
  ·obtain⟨s0,s1⟩:=hS _ (aE h)
   have hx:∃z,ix pl (gt S i)=some z:=⟨_,ef (k:=(gt S i).toNat) (by omega) (by omega)⟩
   obtain⟨z,hx⟩:=hx
   obtain⟨Cb,x,k1,k2,k3⟩:=uW (m:=m) hn II f (i+1) (pl.set (gt S i).toNat (i:Int)) (by omega) (by omega) (by simpa using hS) (fun q CB=>by
    rw [cR (by omega)]
    by_cases e:q=i
    ·subst e; rw [if_pos rfl]
    ·have hne:gt S q≠gt S i:=fun e2=>e (qi hn (by omega) h e2)
     have:=hS _ (aE (l:=S) (k:=q) (by omega))
     rw [if_neg (by omega)]; exact hq q (by omega))
   refine⟨Cb,x,?_,by simpa using k2,k3⟩
   rw [if_pos (by simp only [decide_eq_true_eq]; omega),bH h,QM,hx,QM,aD (by omega) (by omega),show (i:Int)+1=((i+1:Nat):Int) by omega]
   exact k1
  ·exact⟨pl,_,by rw [if_neg (by simp only [decide_eq_true_eq]; omega)],rfl,fun q h=>hq q (by omega)⟩
theorem uX {m:Nat}{S:List Int}(hn:S.Nodup)(II:S.length≤8000):∀(f i:Nat) (pl:List Int),S.length - i<f→i≤S.length→(∀s∈S,0≤s∧s<pl.length)→(∀q,q<i→gt pl (gt S q).toNat=q)→
  ∃Cb x,ax.l5 m S f pl (i:Int)=some (Cb,x)∧Cb.length=pl.length∧∀q,q<S.length→gt Cb (gt S q).toNat=q
 | 0,i,pl,hf,_,_,_=>absurd hf (by omega)
 | f+1,i,pl,hf,hi,hS,hq=>by
  unfold ax.l5
  by_cases h:i<S.length
  ·obtain⟨s0,s1⟩:=hS _ (aE h)
   have hx:∃z,ix pl (gt S i)=some z:=⟨_,ef (k:=(gt S i).toNat) (by omega) (by omega)⟩
   obtain⟨z,hx⟩:=hx
   obtain⟨Cb,x,k1,k2,k3⟩:=uX (m:=m) hn II f (i+1) (pl.set (gt S i).toNat (i:Int)) (by omega) (by omega) (by simpa using hS) (fun q CB=>by
    rw [cR (by omega)]
    by_cases e:q=i
    ·subst e; rw [if_pos rfl]
    ·have hne:gt S q≠gt S i:=fun e2=>e (qi hn (by omega) h e2)
     have:=hS _ (aE (l:=S) (k:=q) (by omega))
     rw [if_neg (by omega)]; exact hq q (by omega))
   refine⟨Cb,x,?_,by simpa using k2,k3⟩
   rw [if_pos (by simp only [decide_eq_true_eq]; omega),bH h,QM,hx,QM,aD (by omega) (by omega),show (i:Int)+1=((i+1:Nat):Int) by omega]
   exact k1
  ·exact⟨pl,_,by rw [if_neg (by simp only [decide_eq_true_eq]; omega)],rfl,fun q h=>hq q (by omega)⟩
theorem yo {m:Nat}{pl:List Int}{n:aa}(h8:n.args.length≤8)(ha:∀a∈n.args,0≤a∧a<pl.length):∀(f k:Nat),n.args.length - k<f→k≤n.args.length→
  ∃x,ax.l2 m pl n f ((n.args.take k).map fun a=>gt pl a.toNat) (k:Int)=some (n.args.map fun a=>gt pl a.toNat,x)
 | 0,k,hf,_=>absurd hf (by omega)
 | f+1,k,hf,hk=>by
  unfold ax.l2
  by_cases h:k<n.args.length
  ·obtain⟨a0,a1⟩:=ha _ (aE h)
   have hy:ix pl (gt n.args k)=some (gt pl (gt n.args k).toNat):=ef (by omega) (by omega)
   have hT:n.args.take (k+1)=n.args.take k++[gt n.args k]:=by rw [RU,aV h]; rfl
   have nJ:app 8 ((n.args.take k).map fun a=>gt pl a.toNat) [gt pl (gt n.args k).toNat]=some ((n.args.take (k+1)).map fun a=>gt pl a.toNat):=by
    unfold app; rw [if_pos (by simp; omega),hT,Ri]; rfl
   obtain⟨x,ih⟩:=yo (m:=m) h8 ha f (k+1) (by omega) (by omega)
   rw [if_pos (by simp only [decide_eq_true_eq]; omega),bH h,QM,hy,QM,nJ,QM,aD (by omega) (by omega),show (k:Int)+1=((k+1:Nat):Int) by omega]
   exact⟨x,ih⟩
  ·have e:k=n.args.length:=by omega
   subst e
   exact⟨_,by rw [if_neg (by simp),RV]⟩
theorem yp {m:Nat}{pl:List Int}{n:aa}(h8:n.args.length≤8)(ha:∀a∈n.args,0≤a∧a<pl.length):∀(f k:Nat),n.args.length - k<f→k≤n.args.length→
  ∃x,ax.l7 m pl n f ((n.args.take k).map fun a=>gt pl a.toNat) (k:Int)=some (n.args.map fun a=>gt pl a.toNat,x)
 | 0,k,hf,_=>absurd hf (by omega)
 | f+1,k,hf,hk=>by
  unfold ax.l7
  by_cases h:k<n.args.length
  ·obtain⟨a0,a1⟩:=ha _ (aE h)
   have hy:ix pl (gt n.args k)=some (gt pl (gt n.args k).toNat):=ef (by omega) (by omega)
   have hT:n.args.take (k+1)=n.args.take k++[gt n.args k]:=by rw [RU,aV h]; rfl
   have nJ:app 8 ((n.args.take k).map fun a=>gt pl a.toNat) [gt pl (gt n.args k).toNat]=some ((n.args.take (k+1)).map fun a=>gt pl a.toNat):=by
    unfold app; rw [if_pos (by simp; omega),hT,Ri]; rfl
   obtain⟨x,ih⟩:=yp (m:=m) h8 ha f (k+1) (by omega) (by omega)
   rw [if_pos (by simp only [decide_eq_true_eq]; omega),bH h,QM,hy,QM,nJ,QM,aD (by omega) (by omega),show (k:Int)+1=((k+1:Nat):Int) by omega]
   exact⟨x,ih⟩
  ·have e:k=n.args.length:=by omega
   subst e
   exact⟨_,by rw [if_neg (by simp),RV]⟩
theorem yq {m:Nat}(hm:2 ^ 30≤m){l:List aa}{S pl:List Int}(ok:iD l)(hS:∀s∈S,0≤s∧s<l.length)(II:S.length≤8000)(vF:pl.length=l.length):∀(f i:Nat),S.length - i<f→i≤S.length→
  ∃x,ax.l1 m l S pl f ((S.take i).map fun s=>pm pl (nd l s)) (i:Int)=some (S.map fun s=>pm pl (nd l s),x)
 | 0,i,hf,_=>absurd hf (by omega)
 | f+1,i,hf,hi=>by
  have lz:(2:Nat) ^ 30=1073741824:=by decide
  unfold ax.l1
  by_cases h:i<S.length
  ·obtain⟨s0,s1⟩:=hS _ (aE h)
   obtain⟨n1,n2⟩:=ok.2 _ (dq s0 s1)
   obtain⟨x,q1⟩:=yo (m:=m) (pl:=pl) (n:=nd l (gt S i)) n1 (fun a ha=>by have:=n2 a ha; omega) m 0 (by omega) (by omega)
   have q1:ax.l2 m pl (nd l (gt S i)) m [] 0=_:=q1
   have hT:S.take (i+1)=S.take i++[gt S i]:=by rw [RU,aV h]; rfl
   have nJ:app 56 ((S.take i).map fun s=>pm pl (nd l s)) [aa.mk (nd l (gt S i)).kind (nd l (gt S i)).int (nd l (gt S i)).label ((nd l (gt S i)).args.map fun a=>gt pl a.toNat)]=some ((S.take (i+1)).map fun s=>pm pl (nd l s)):=by
    unfold app; rw [if_pos (by simp; omega),hT,Ri]; rfl
   obtain⟨x,ih⟩:=yq hm ok hS II vF f (i+1) (by omega) (by omega)
   rw [if_pos (by simp only [decide_eq_true_eq]; omega),bH h,QM,eX s0 s1,QM,q1,QM]
   dsimp only
   rw [nJ,QM,aD (by omega) (by omega),show (i:Int)+1=((i+1:Nat):Int) by omega]
   exact⟨x,ih⟩
  ·have e:i=S.length:=by omega
   subst e
   exact⟨_,by rw [if_neg (by simp),RV]⟩
theorem yr {m:Nat}{P:List aa}{c:List Int}(hc:c.length=P.length){i:Nat}(hi:i<P.length)(h8:(nd P i).args.length≤8)(ha:∀a∈(nd P i).args,0≤a∧a<P.length):∀(f k:Nat),(nd P i).args.length - k<f→k≤(nd P i).args.length→
  ∃x,ax.l4 m c (i:Int) f (P.set i ⟨(nd P i).kind,(nd P i).int,(nd P i).label,(((nd P i).args.take k).map fun a=>gt c a.toNat)++(nd P i).args.drop k⟩) (k:Int)=some (P.set i (pm c (nd P i)),x)
 | 0,k,hf,_=>absurd hf (by omega)
 | f+1,k,hf,hk=>by
  unfold ax.l4
  have kH:∀w,ix (P.set i w) (i:Int)=some w:=fun w=>by
   rw [eX (by omega) (by simpa using hi),kc hi,if_pos rfl]
  have hlen:((((nd P i).args.take k).map fun a=>gt c a.toNat)++(nd P i).args.drop k).length=(nd P i).args.length:=by simp; omega
  rw [kH,QM]
  by_cases h:k<(nd P i).args.length
  ·have hg:gt ((((nd P i).args.take k).map fun a=>gt c a.toNat)++(nd P i).args.drop k) k=gt (nd P i).args k:=by
    unfold gt
    rw [Q5,Q5,Rg (by simp; omega)]
    simp only [RE,Sx,List.getElem?_drop]
    congr 2; omega
   obtain⟨a0,a1⟩:=ha _ (aE h)
   have hx:ix ((((nd P i).args.take k).map fun a=>gt c a.toNat)++(nd P i).args.drop k) (k:Int)=some (gt (nd P i).args k):=by rw [bH (by omega),hg]
   have hy:ix c (gt (nd P i).args k)=some (gt c (gt (nd P i).args k).toNat):=ef (by omega) (by omega)
   have vL:((((nd P i).args.take k).map fun a=>gt c a.toNat)++(nd P i).args.drop k).set k (gt c (gt (nd P i).args k).toNat)=(((nd P i).args.take (k+1)).map fun a=>gt c a.toNat)++(nd P i).args.drop (k+1):=by
    have hT:(nd P i).args.take (k+1)=(nd P i).args.take k++[gt (nd P i).args k]:=by rw [RU,aV h]; rfl
    have hD:(nd P i).args.drop k=gt (nd P i).args k::(nd P i).args.drop (k+1):=by
     obtain⟨h4,h5⟩:=QX.1 (aV h)
     rw [←h5]; exact Q9 h4
    have CK:(((nd P i).args.take k).map fun a=>gt c a.toNat).length=k:=by simp; omega
    rw [Sv _ _ (by omega),CK,Sf,hD,List.set_cons_zero,hT,Ri,Rm]
    rfl
   rw [if_pos (by simp only [decide_eq_true_eq]; omega),QM,QM]
   dsimp only
   rw [hx,QM,hy,QM,QM,QT,QT,List.set_set,vL,aD (by omega) (by omega),show (k:Int)+1=((k+1:Nat):Int) by omega]
   exact yr hc hi h8 ha f (k+1) (by omega) (by omega)
  ·have e:k=(nd P i).args.length:=by omega
   subst e
   refine⟨((nd P i).args.length:Int),?_⟩
   rw [if_neg (by simp only [decide_eq_true_eq]; omega),RV,List.drop_length,SD]
   rfl
theorem yt {m:Nat}(hm:2 ^ 30≤m){P:List aa}{c:List Int}(ok:iD P)(hc:c.length=P.length):∀(f i:Nat) (Q:List aa),P.length - i<f→i≤P.length→Q.length=P.length→(∀q,q<P.length→nd Q q=if q<i then pm c (nd P q) else nd P q)→
  ∃x,ax.l3 m c f Q (i:Int)=some (P.map (pm c),x)
 | 0,i,Q,hf,_,_,_=>absurd hf (by omega)
 | f+1,i,Q,hf,hi,hl,hq=>by
  have lz:(2:Nat) ^ 30=1073741824:=by decide
  have h8:=ok.1
  unfold ax.l3
  by_cases h:i<P.length
  ·obtain⟨n1,n2⟩:=rQ ok h
   have Jm:nd Q i=nd P i:=by rw [hq i h,if_neg (by omega)]
   obtain⟨x,q1⟩:=yr (m:=m) (P:=Q) (c:=c) (by omega) (i:=i) (by omega) (by rw [Jm]; exact n1) (by rw [Jm,hl]; exact n2) m 0 (by rw [Jm]; omega) (by omega)
   have kH:Q.set i ⟨(nd Q i).kind,(nd Q i).int,(nd Q i).label,(((nd Q i).args.take 0).map fun a=>gt c a.toNat)++(nd Q i).args.drop 0⟩=Q:=by
    refine Ca (by simp) fun k hk=>?_
    rw [kc (by omega)]
    by_cases e:k=i
    ·subst e; rw [if_pos rfl]; simp
    ·rw [if_neg e]
   rw [kH] at q1
   have q1:ax.l4 m c (i:Int) m Q 0=_:=q1
   rw [if_pos (by simp only [decide_eq_true_eq]; omega),q1,QM]
   dsimp only
   rw [aD (by omega) (by omega),show (i:Int)+1=((i+1:Nat):Int) by omega]
   refine yt hm ok hc f (i+1) _ (by omega) (by omega) (by simpa using hl) fun q PH=>?_
   rw [kc (by omega)]
   by_cases e:q=i
   ·subst e; rw [if_pos rfl,if_pos (by omega),Jm]
   ·rw [if_neg e,hq q PH]
    by_cases hlt:q<i
    ·rw [if_pos hlt,if_pos (by omega)]
    ·rw [if_neg hlt,if_neg (by omega)]
  ·have e:i=P.length:=by omega
   subst e
   refine⟨(P.length:Int),?_⟩
   rw [if_neg (by simp only [decide_eq_true_eq]; omega)]
   have:Q=P.map (pm c):=Ca (by simpa using hl) fun k hk=>by rw [hq k (by omega),if_pos (by omega),B9 (by omega)]
   rw [this]
theorem Cc {m:Nat}(hm:2 ^ 30≤m){P:List aa}{T pl:List Int}(ok:iD P)(hT:∀t∈T,0≤t∧t<P.length)(PI:T.length≤8000)(vF:P.length≤pl.length):∀(f i:Nat),T.length - i<f→i≤T.length→
  ∃x,ax.l6 m P T pl f (i:Int) ((T.take i).map fun t=>pm pl (nd P t)) 0=some (x,T.map fun t=>pm pl (nd P t),0)
 | 0,i,hf,_=>absurd hf (by omega)
 | f+1,i,hf,hi=>by
  have lz:(2:Nat) ^ 30=1073741824:=by decide
  unfold ax.l6
  by_cases h:i<T.length
  ·obtain⟨s0,s1⟩:=hT _ (aE h)
   obtain⟨n1,n2⟩:=ok.2 _ (dq s0 s1)
   obtain⟨x,q1⟩:=yp (m:=m) (pl:=pl) (n:=nd P (gt T i)) n1 (fun a ha=>by have:=n2 a ha; omega) m 0 (by omega) (by omega)
   have q1:ax.l7 m pl (nd P (gt T i)) m [] 0=_:=q1
   have PJ:T.take (i+1)=T.take i++[gt T i]:=by rw [RU,aV h]; rfl
   have nJ:app 56 ((T.take i).map fun t=>pm pl (nd P t)) [aa.mk (nd P (gt T i)).kind (nd P (gt T i)).int (nd P (gt T i)).label ((nd P (gt T i)).args.map fun a=>gt pl a.toNat)]=some ((T.take (i+1)).map fun t=>pm pl (nd P t)):=by
    unfold app; rw [if_pos (by simp; omega),PJ,Ri]; rfl
   obtain⟨x,ih⟩:=Cc hm ok hT PI vF f (i+1) (by omega) (by omega)
   rw [if_pos (by simp only [decide_eq_true_eq]; omega),bH h,QM,eX s0 s1,QM,q1,QM]
   dsimp only
   rw [nJ,QM,aD (by omega) (by omega),show (i:Int)+1=((i+1:Nat):Int) by omega]
   exact⟨x,ih⟩
  ·have e:i=T.length:=by omega
   subst e
   exact⟨_,by rw [if_neg (by simp),RV]⟩
end Go.Proofs.YtmekcfdllhphlaaDoor
