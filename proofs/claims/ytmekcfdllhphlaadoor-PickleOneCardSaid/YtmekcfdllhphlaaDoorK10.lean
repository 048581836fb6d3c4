/- Part of the proof: Q19, PR6, PR7, PT1, PT2, PR8, PR9, PT3, PT4, PT5, PT11, Q16, Q18, Q4, PR10, PT12, PB2, Q102, Q104, Q105, Q103, Q76. -/
import Derived.Test.YtmekcfdllhphlaaDoorK9
set_option linter.unusedVariables false
set_option linter.unusedSimpArgs false
set_option maxRecDepth 100000
open Bool renaming and_eq_true → WV
open ByteArray renaming mk → Xk
open Eq renaming trans → XN
open Int renaming toNat_natCast → WX
open List renaming length_set → WY, length_append → W3, getElem?_eq_getElem → W5, append_assoc → W7, mem_append → W8, getElem?_eq_none → Xa, mem_map → Xd, map_cons → Xe, length_cons → Xf, all_eq_true → Xi, mem_cons → Xo, getElem?_map → Xq, nil_append → Xs, length_map → Xy, ext_getElem? → XI, length_nil → XL, getElem_mem → XM, idxOf_lt_length_of_mem → XS, mem_of_getElem? → XT
open List.cons renaming inj → X7
open Nat renaming le_refl → WU
open Option renaming bind_some → WQ, bind_eq_some_iff → WR, map_some → WW
open Option.some renaming injEq → WT, inj → Xn
open Or renaming inr → XZ, inl → Yf
open UInt8 renaming ofNat → Ys
namespace Go.Proofs.YtmekcfdllhphlaaDoor
open Go Go.R
open Go.IntKind (i64 u64 u8 u32)
def vO:cd:=gh [0,2,3,4,5,6,7,8,9,10,11,12,15,33,56,70,93,106] [8] [262142,258046,262137,253950,262137,262134,262118,262086,262022,245638,262022,261894,261638,261126,228358,261126,261126,262022,196590,262137,259054,131055,262137,262137] [(17,[(8,some 0,0)]),(20,[(5,none,0)])] [(6,[(5,none,2)]),(11,[(8,some 0,4)])]
def bc.l1 (m:Nat)(x3:Int × fB):Nat→Int→(List ae)→Int→fB→Option (Int × (List ae) × Int × fB)
 | 0,_,_,_,_=>none
 | k+1,k0,t0,t1,xB=>if (decide (k0<x3.1))=true then (if (!xB.br)=true then ((cZ.f m xB).bind fun x4=>(app 56 t0 ([x4.1])).bind fun x5=>bc.l1 m x3 k (i64.wrap (k0+(1:Int))) x5 t1 x4.2) else (some ((k0,t0,t1,xB)))) else (some ((k0,t0,t1,xB)))
def bc.l0 (m:Nat)(x2:Int × fB):Nat→(List au)→Int→fB→Option ((List au) × Int × fB)
 | 0,_,_,_=>none
 | k+1,a8,i0,rT=>if (decide (i0<x2.1))=true then (if (!rT.br)=true then (if (decide (x2.1≤(8:Int)))=true then ((bN.f m rT).bind fun x3=>(bc.l1 m x3 m (0:Int) ([]:List ae) (0:Int) x3.2).bind fun bo=>match bo with | (k1,t2,t3,ob2)=>(app 32 a8 ([(au.mk t2 t3)])).bind fun x6=>bc.l0 m x2 k x6 (i64.wrap (i0+(1:Int))) ob2) else (some ((a8,i0,rT)))) else (some ((a8,i0,rT)))) else (some ((a8,i0,rT)))
def bc.f (m:Nat)(b0:List Int):Option ((List au) × Int):=if (decide ((b0.length:Int) > (200000:Int)))=true then (some ([],(3:Int))) else (if (decide ((b0.length:Int)<(7:Int)))=true then (some ([],(2:Int))) else ((pM b0 (0:Int) (i64.wrap ((b0.length:Int) - (4:Int)))).bind fun v0=>(cH.f m v0).bind fun x0=>(pM b0 (i64.wrap ((b0.length:Int) - (4:Int))) (b0.length:Int)).bind fun v1=>(dj.f m x0 v1).bind fun x1=>if (!x1)=true then (some ([],(2:Int))) else ((pM b0 (2:Int) (i64.wrap ((b0.length:Int) - (4:Int)))).bind fun v2=>(bN.f m (fB.mk v2 false)).bind fun x2=>(bc.l0 m x2 m ([]:List au) (0:Int) x2.2).bind fun cD=>match cD with | (nC,i1,Jk)=>if Jk.br=true then (some ([],(2:Int))) else (if (!((nC.length:Int)==x2.1))=true then (some ([],(2:Int))) else ((b6.f m nC).bind fun x7=>if (!(x7.2==(0:Int)))=true then (some ([],(2:Int))) else ((dj.f m x7.1 b0).bind fun x8=>if (!x8)=true then (some ([],(2:Int))) else (some (nC,(0:Int)))))))))
def bc.fin (L:Mem)(r:(List au) × Int)(s:St):Prop:=∃av,aI Tryd.prog (s.open vO) Tryd.f19.results.toList=some av∧yD s.h av (.tup [bl.fz r.1,.int .i64 r.2])
def QN (cf:CallF)(m:Nat):Prop:=∀(b0:List Int) (r:(List au) × Int),bc.f m b0=some r→∀h xs,ml xs [ao.fz b0]→cf 19 xs h=some (.tup [bl.fz r.1,.int .i64 r.2],h)
section
variable {cf:CallF}{m:Nat}
theorem bc.fW (L:Mem)(b0:List Int)(aA:Nat)(x2:Int × fB)(gH:Nat)(a8:List au)(i0:Int)(gH:Nat)(x3:Int × fB)  (Gk:Ox cf m):bI Tryd.prog cf vO m (sub [1,1,1,1,1,1,0,1,0,0,1,0,0,1,1,0,1,0,0] (codeOf Tryd.f19)) (fun k (σ:Int × (List ae) × Int × fB)=>bc.l1 m x3 k σ.1 σ.2.1 σ.2.2.1 σ.2.2.2) (fun σ s=>match σ with | (k0,t0,t1,xB)=>∃di h4,s=⟨ao.fz b0 :: .any :: .any :: .ptr aA 0 :: .rs gH 0 a8.length 2 :: .int .i64 x2.1 :: .int .i64 i0 :: .lp 8 0 :: .int .i64 x3.1 :: .int .i64 k0::se [],[some [.rs di 0 t0.length 4,.int .i64 t1]],h4⟩∧Has h4 ((aA,.ob [ao.fz xB.eR,.bool xB.br])::(di,.sl t0.length 4 (af.l t0))::(gH,.sl a8.length 2 (bl.l a8))::L)) (fun out e s=>(e = .exit 2∧∃k0 t0 t1 xB,(k0,t0,t1,xB)=out∧∃tI tz QP di h4,s=⟨ao.fz b0 :: .any :: .any :: .ptr aA 0 :: .rs gH 0 a8.length 2 :: .int .i64 x2.1 :: .int .i64 i0 :: .lp 8 0::tI::tz::tl [QP,.any,.any],[some [.rs di 0 t0.length 4,.int .i64 t1]],h4⟩∧Has h4 ((aA,.ob [ao.fz xB.eR,.bool xB.br])::(di,.sl t0.length 4 (af.l t0))::(gH,.sl a8.length 2 (bl.l a8))::L))):=by
 refine hX (fun _=>rfl) ?_
 rintro k ⟨k0,t0,t1,xB⟩ s out ⟨di,h4,rfl,o6⟩ H
 have H:bc.l1 m x3 (k+1) k0 t0 t1 xB=some out:=H
 refine qq <| qq ?_
 rcases dF H with⟨c7,H⟩| ⟨c7,H⟩
 ·refine qr [.b 3 c7,.v 7 (show bh Tryd.prog h4 4 (.ptr aA 1)=some (.bool xB.br) from cm (q:=0) (cs:=[ao.fz xB.eR,.bool xB.br]) o6 rfl (by kernel_rfl))] <| qc H (fun c8 H=>?_) (fun c8 H=>?_)
  ·refine qk <| qq <| qb 3 ?_
   obtain⟨x4,pe,H⟩:=aJ H
   obtain⟨h5,sj,o7⟩:=Gk _ _ pe h4 _ _ (o6)  [.ptr aA 0] (an (rfl) (bg))
   obtain⟨x5,uA,H⟩:=aJ H
   obtain⟨fy,h6,uB,o8⟩:=fY (P:=Tryd.prog) (E:=af) (l:=t0) (q:=1) (t2:=29) (x:=.fz [.int .i64 x4.1.kind,.int .i64 x4.1.int,.str x4.1.label,aa.fz x4.1.args] 1 true) (l2:=([x4.1])) lG o7 rfl (by kernel_rfl) rfl uA
   exact qr [.a 3 sj,.a 5 uB] <| q0 <| ⟨(i64.wrap (k0+(1:Int)),x5,t1,x4.2),⟨fy,h6,by kernel_rfl,o8⟩,H⟩
  ·exact qx 2 <| ⟨rfl,k0,t0,t1,xB,oi H,.int .i64 x3.1,.int .i64 k0,.bool (!xB.br),di,h4,by kernel_rfl,o6⟩
 ·exact qr [.b 3 c7] <| Ds <| qx 2 <| ⟨rfl,k0,t0,t1,xB,oi H,.int .i64 x3.1,.int .i64 k0,.bool false,di,h4,by kernel_rfl,o6⟩
theorem bc.bG (L:Mem)(b0:List Int)(aA:Nat)(x2:Int × fB)  (nf:KO cf m)(Gk:Ox cf m):bI Tryd.prog cf vO m (sub [1,1,1,1,1,1,0,1,0,0] (codeOf Tryd.f19)) (fun k (σ:(List au) × Int × fB)=>bc.l0 m x2 k σ.1 σ.2.1 σ.2.2) (fun σ s=>match σ with | (a8,i0,rT)=>∃gH h2,s=⟨ao.fz b0 :: .any :: .any :: .ptr aA 0 :: .rs gH 0 a8.length 2 :: .int .i64 x2.1 :: .int .i64 i0::oY [],[none],h2⟩∧Has h2 ((aA,.ob [ao.fz rT.eR,.bool rT.br])::(gH,.sl a8.length 2 (bl.l a8))::L)) (fun out e s=>(e = .exit 0∧∃a8 i0 rT,(a8,i0,rT)=out∧∃w7 KK gH h2,s=⟨ao.fz b0 :: .any :: .any :: .ptr aA 0 :: .rs gH 0 a8.length 2 :: .int .i64 x2.1::w7::Dm (KK::kz []),[none],h2⟩∧Has h2 ((aA,.ob [ao.fz rT.eR,.bool rT.br])::(gH,.sl a8.length 2 (bl.l a8))::L))):=by
 refine hX (fun _=>rfl) ?_
 rintro k ⟨a8,i0,rT⟩ s out ⟨gH,h2,rfl,o3⟩ H
 have H:bc.l0 m x2 (k+1) a8 i0 rT=some out:=H
 refine qq <| qq ?_
 rcases dF H with⟨c4,H⟩| ⟨c4,H⟩
 ·rcases dF H with⟨c5,H⟩| ⟨c5,H⟩
  ·refine qr [.b 3 c4,.v 7 (show bh Tryd.prog h2 4 (.ptr aA 1)=some (.bool rT.br) from cm (q:=0) (cs:=[ao.fz rT.eR,.bool rT.br]) o3 rfl (by kernel_rfl)),.b 10 c5] <| qc H (fun c6 H=>?_) (fun c6 H=>?_)
   ·refine qk <| qq <| qb 1 <| qq <| q0 ?_
    have o4:Has h2 ((((0)),.sl (([]:List ae).length) 4 (af.l ([]:List ae)))::(aA,.ob [ao.fz rT.eR,.bool rT.br])::(gH,.sl a8.length 2 (bl.l a8))::L):=Has.nil o3 4
    refine qq ?_
    obtain⟨x3,e8,H⟩:=aJ H
    obtain⟨h3,e9,o5⟩:=nf _ _ e8 h2 _ _ ((Has.front (Has.front (Has.front o4 2 rfl) 1 rfl) 2 rfl))  [.ptr aA 0] (an (rfl) (bg))
    refine qr [.a 1 e9] <| qq <| qq <| q0 <| qb 2 ?_
    obtain⟨bo,uS,H⟩:=aJ H
    refine ql (bc.fW L b0 aA x2 gH a8 i0 gH x3  Gk ((0:Int),([]:List ae),(0:Int),x3.2) _ _ ⟨((0)),h3,by kernel_rfl,o5⟩ uS) ?_
    rintro e s ⟨rfl,k1,t2,t3,ob2,rfl,g0,g1,g2,gZ,h7,rfl,o9⟩
    try dsimp only at H
    obtain⟨h8,uC,uQ⟩:=ja (E:=af) (l:=t2) (q:=1) o9 rfl
    obtain⟨x6,xP,H⟩:=aJ H
    obtain⟨gW,h9,xd,vE⟩:=fY (P:=Tryd.prog) (E:=bl) (l:=a8) (q:=1) (t2:=22) (x:=.fz [af.fz t2,.int .i64 t3] 1 true) (l2:=([(au.mk t2 t3)])) Fj uQ rfl (by kernel_rfl) rfl xP
    exact zT [.a 0 uC] [.a 3 xd] <| q0 <| ⟨(x6,i64.wrap (i0+(1:Int)),ob2),⟨gW,h9,by kernel_rfl,vE⟩,H⟩
   ·exact qx 0 <| ⟨rfl,a8,i0,rT,oi H,.int .i64 i0,.bool (decide (x2.1≤(8:Int))),gH,h2,by kernel_rfl,o3⟩
  ·exact qr [.b 3 c4,.v 7 (show bh Tryd.prog h2 4 (.ptr aA 1)=some (.bool rT.br) from cm (q:=0) (cs:=[ao.fz rT.eR,.bool rT.br]) o3 rfl (by kernel_rfl)),.b 10 c5] <| Ds <| qx 0 <| ⟨rfl,a8,i0,rT,oi H,.int .i64 i0,.bool false,gH,h2,by kernel_rfl,o3⟩
 ·exact qr [.b 3 c4] <| Ds <| qx 0 <| ⟨rfl,a8,i0,rT,oi H,.int .i64 i0,.bool false,gH,h2,by kernel_rfl,o3⟩
theorem rU {aS:FuncId→cd}(ha:aS 19=vO)(Ip:QI cf m)(Iq:QM cf m)(KS:QB cf m)(nf:KO cf m)(Gk:Ox cf m)(b0:List Int)(h:AHeap)(L:Mem)  (o:Has h (L)){out:(List au) × Int}(H:bc.f m b0=some out) :
  ∃r h',aZ Tryd.prog aS cf m 19 [ao.fz b0] h=some (r,h')∧yD h' r (.tup [bl.fz out.1,.int .i64 out.2]):=by
 refine aj (fn:=Tryd.f19) ha Tryd.func19 (by kernel_rfl) (by kernel_rfl) ?_
 refine aD (Q:=fun s=>bc.fin L out s) (fun _ _ h=>h) ?_
 have H:_=some out:=H
 unfold bc.f at H
 show de _ cf vO m _ ⟨ao.fz b0::E9 [],[none],h⟩ _
 refine q1 <| qq <| qq <| q0 <| qc H (fun c0 H=>?_) (fun c0 H=>?_)
 ·obtain rfl:=oi H
  exact q1 <| qt <| ⟨.inl rfl,wY (.tup [.nils,.int .i64 (3:Int)]) h (pU (gz (ab (gQ) (ab (aH) (ax)))))⟩
 ·refine qk <| qq <| qq ?_
  rcases dF H with⟨c1,H⟩| ⟨c1,H⟩
  ·obtain rfl:=oi H
   exact qr [.b 3 c1] <| vC <| qq <| q0 <| qt <| ⟨.inl rfl,wY (.tup [.nils,.int .i64 (2:Int)]) h (pU (gz (ab (gQ) (ab (aH) (ax)))))⟩
  ·obtain⟨v0,e0,H⟩:=aJ H
   obtain⟨x0,e1,H⟩:=aJ H
   obtain⟨v1,e2,H⟩:=aJ H
   obtain⟨x1,e3,H⟩:=aJ H
   refine qr [.b 3 c1,.v 8 (show fe Tryd.prog 25 (ao.fz b0) none (some (.int .i64 (i64.wrap ((b0.length:Int) - (4:Int))))) none=some (ao.fz v0) from BF (E:=ao) H6 e0),.a 9 (KS _ _ e1 h _ (gf (ab (b4 (E:=ao)) (ax)))),.v 14 (show fe Tryd.prog 25 (ao.fz b0) (some (.int .i64 (i64.wrap ((b0.length:Int) - (4:Int))))) none none=some (ao.fz v1) from wR (E:=ao) H6 e2),.a 15 (Iq _ _ _ e3 h _ (gf (ab (b4 (E:=ao)) (ab (b4 (E:=ao)) (ax)))))] <| qc H (fun c3 H=>?_) (fun c3 H=>?_)
   ·obtain rfl:=oi H
    exact q1 <| qt <| ⟨.inl rfl,wY (.tup [.nils,.int .i64 (2:Int)]) h (pU (gz (ab (gQ) (ab (aH) (ax)))))⟩
   ·refine qk <| qq ?_
    obtain⟨v2,e4,H⟩:=aJ H
    obtain⟨aA,h0,e5,o0⟩:=ku (cs:=[ao.fz v2,.bool false]) o (by kernel_rfl)
    refine qr [.v 4 (show fe Tryd.prog 25 (ao.fz b0) (some (.int .i64 (2:Int))) (some (.int .i64 (i64.wrap ((b0.length:Int) - (4:Int))))) none=some (ao.fz v2) from HR (E:=ao) H6 e4),.a 6 e5] <| qq <| q0 ?_
    have o1:Has h0 (((0),.sl (([]:List au).length) 2 (bl.l ([]:List au)))::(aA,.ob [ao.fz v2,.bool false])::L):=Has.nil o0 2
    refine qq ?_
    obtain⟨x2,e6,H⟩:=aJ H
    obtain⟨h1,e7,o2⟩:=nf _ _ e6 h0 _ _ ((Has.front (Has.front o1 0 rfl) 1 rfl))  [.ptr aA 0] (an (rfl) (bg))
    refine qr [.a 1 e7] <| qq <| qq <| q0 <| qb 0 ?_
    obtain⟨cD,B1,H⟩:=aJ H
    refine ql (bc.bG L b0 aA x2  nf Gk (([]:List au),(0:Int),x2.2) _ _ ⟨(0),h1,by kernel_rfl,o2⟩ B1) ?_
    rintro e s ⟨rfl,nC,i1,Jk,rfl,g3,g4,gX,h10,rfl,tK⟩
    try dsimp only at H
    refine qq <| qq ?_
    rcases dF H with⟨rE,H⟩| ⟨rE,H⟩
    ·refine qr [.v 3 (show bh Tryd.prog h10 4 (.ptr aA 1)=some (.bool Jk.br) from cm (q:=0) (cs:=[ao.fz Jk.eR,.bool Jk.br]) tK rfl (by kernel_rfl)),.b 4 rE] ?_
     have lM:Has h10 ((gX,.sl nC.length 2 (bl.l nC))::L):=Has.del tK 0
     refine vC <| qq <| q0 ?_
     have yP:Has h10 (L):=Has.del lM 0
     obtain rfl:=oi H
     exact qt <| ⟨.inl rfl,wY (.tup [.nils,.int .i64 (2:Int)]) h10 (pU (gz (ab (gQ) (ab (aH) (ax)))))⟩
    ·refine qr [.v 3 (show bh Tryd.prog h10 4 (.ptr aA 1)=some (.bool Jk.br) from cm (q:=0) (cs:=[ao.fz Jk.eR,.bool Jk.br]) tK rfl (by kernel_rfl)),.b 4 rE] ?_
     have zU:Has h10 ((gX,.sl nC.length 2 (bl.l nC))::L):=Has.del tK 0
     refine qc H (fun rF H=>?_) (fun rF H=>?_)
     ·refine q1 ?_
      have lR:Has h10 (L):=Has.del zU 0
      obtain rfl:=oi H
      exact qt <| ⟨.inl rfl,wY (.tup [.nils,.int .i64 (2:Int)]) h10 (pU (gz (ab (gQ) (ab (aH) (ax)))))⟩
     ·refine qk <| qq ?_
      obtain⟨h11,xe,AI⟩:=ja (E:=bl) (l:=nC) (q:=0) zU rfl
      obtain⟨x7,B2,H⟩:=aJ H
      refine zT [.a 0 xe] [.a 1 (Ip _ _ B2 h11 _ (cG (iK (E:=bl)) (gA)))] <| qq <| qq ?_
      rcases dF H with⟨BX,H⟩| ⟨BX,H⟩
      ·obtain rfl:=oi H
       exact qr [.b 2 BX] <| vC <| qq <| q0 <| qt <| ⟨.inl rfl,wY (.tup [.nils,.int .i64 (2:Int)]) h11 (pU (gz (ab (gQ) (ab (aH) (ax)))))⟩
      ·obtain⟨x8,D6,H⟩:=aJ H
       refine qr [.b 2 BX,.a 5 (Iq _ _ _ D6 h11 _ (gf (ab (b4 (E:=ao)) (ab (b4 (E:=ao)) (ax)))))] <| qc H (fun Dv H=>?_) (fun Dv H=>?_)
       ·obtain rfl:=oi H
        exact q1 <| qt <| ⟨.inl rfl,wY (.tup [.nils,.int .i64 (2:Int)]) h11 (pU (gz (ab (gQ) (ab (aH) (ax)))))⟩
       ·obtain rfl:=oi H
        exact qk <| qq <| q0 <| qt <| ⟨.inl rfl,wY (.tup [bl.fz nC,.int .i64 (0:Int)]) h11 (pU (gz (ab (b4) (ab (aH) (ax)))))⟩
end
end Go.Proofs.YtmekcfdllhphlaaDoor
namespace Go.Proofs.YtmekcfdllhphlaaDoor
open Go Go.R
open Go.IntKind (i64 u64 u8 u32)
def dO (l:List ae):List Int:=(l.map dc).flatten
def jL (t:au):List Int:=dL t.nodes.length++dO t.nodes
def cw (l:List au):List Int:=(l.map jL).flatten
def cC (l:List au):List Int:=[76,1]++(dL l.length++cw l)
structure rl (t:au):Prop where
 nodes:∀n∈t.nodes,rj n
 tU:t.nodes.length<2 ^ 30
 root:t.root=0
theorem jj (n:ae)(l:List ae):dO (n::l)=dc n++dO l:=by simp [dO]
theorem jk (t:au)(l:List au):cw (t::l)=jL t++cw l:=by simp [cw]
theorem drop_cons {α:Type}{l:List α}{i:Nat}{a:α}{r:List α}(h:l.drop i=a::r):i<l.length∧ix l (i:Int)=some a∧l.drop (i+1)=r∧a∈l:=by
 have h1:i<l.length:=by
  have:=congrArg List.length h
  simp at this
  omega
 have h2:l[i]? = some a:=by
  have:=congrArg (·[0]?) h
  simpa using this
 refine⟨h1,?_,by rw [←List.tail_drop,h]; rfl,XT h2⟩
 unfold ix
 rw [if_pos (by omega)]
 exact h2
theorem drop_nil {α:Type}{l:List α}{i:Nat}(h:l.drop i=[]):l.length≤i:=by
 have:=congrArg List.length h
 simp at this
 omega
theorem Gl {m:Nat}(hm:11≤m)(v:au):∀(l:List ae) (f i:Nat) (w:List Int),l.length<f→v.nodes.drop i=l→(∀n∈l,rj n)→w≠[]→w.length+(dO l).length+2 ^ 41≤140737488355328→i+l.length<2 ^ 40→
  ∃x,aT.l1 m v f (i:Int) w=some (x,w++dO l)
 | l,0,i,w,hf,_,_,_,_,_=>absurd hf (by omega)
 | [],f+1,i,w,hf,hd,hW,hw,hl,hi=>by
  refine⟨i,?_⟩
  have:=drop_nil hd
  unfold aT.l1
  rw [if_neg (by simp; omega)]
  simp [dO]
 | n::l,f+1,i,w,hf,hd,hW,hw,hl,hi=>by
  obtain⟨h1,h2,h3,h4⟩:=drop_cons hd
  have rD:(2:Nat) ^ 41=2199023255552:=by decide
  have ot:(2:Nat) ^ 40=1099511627776:=by decide
  have Oy:=hW n (by simp)
  have U8:n.label.size<2 ^ 40:=by
   rcases Oy.kind with⟨_,_,h,_⟩| ⟨_,_,h,_⟩| ⟨h,_⟩| ⟨h,_⟩
   ·rw [h]; decide
   ·rw [h]; decide
   ·exact (Oy.label (by omega)).2
   ·exact (Oy.label (by omega)).2
  rw [jj,W3] at hl
  simp only [Xf] at hf hi
  obtain⟨x,ih⟩:=Gl hm v l f (i+1) (w++dc n) (by omega) h3 (fun k hk=>hW k (by simp [hk])) (by simp [hw]) (by simp; omega) (by omega)
  refine⟨x,?_⟩
  unfold aT.l1
  rw [if_pos (by simp; omega),h2,WQ,NA hm Oy (by omega) hw,WQ,aE (by omega) (by omega),show ((i:Int)+1)=((i+1:Nat):Int) by omega,ih,jj,W7]
theorem Gm {m:Nat}(hm:2 ^ 30≤m)(L:List au):∀(l:List au) (f i:Nat) (w:List Int),l.length<f→L.drop i=l→(∀t∈l,rl t)→w≠[]→w.length+(cw l).length+2 ^ 41≤140737488355328→i+l.length<2 ^ 40→
  ∃x,aT.l0 m L f (i:Int) w=some (x,w++cw l)
 | l,0,i,w,hf,_,_,_,_,_=>absurd hf (by omega)
 | [],f+1,i,w,hf,hd,hW,hw,hl,hi=>by
  refine⟨i,?_⟩
  have:=drop_nil hd
  unfold aT.l0
  rw [if_neg (by simp; omega)]
  simp [cw]
 | t::l,f+1,i,w,hf,hd,hW,hw,hl,hi=>by
  obtain⟨h1,h2,h3,h4⟩:=drop_cons hd
  have rD:(2:Nat) ^ 41=2199023255552:=by decide
  have ot:(2:Nat) ^ 40=1099511627776:=by decide
  have nb:(2:Nat) ^ 30=1073741824:=by decide
  have LK:=hW t (by simp)
  have AT:=LK.tU
  rw [jk,W3] at hl
  have he:(jL t).length=(dL t.nodes.length).length+(dO t.nodes).length:=by simp [jL]
  simp only [Xf] at hf hi
  obtain⟨x,ih⟩:=Gm hm L l f (i+1) (w++jL t) (by omega) h3 (fun k hk=>hW k (by simp [hk])) (by simp [hw]) (by simp; omega) (by omega)
  obtain⟨y,hy⟩:=Gl (m:=m) (by omega) t t.nodes m 0 (w++dL t.nodes.length) (by omega) rfl LK.nodes (by simp [hw]) (by simp; omega) (by omega)
  have hy:aT.l1 m t m (0:Int) (w++dL t.nodes.length)=_:=hy
  refine⟨x,?_⟩
  unfold aT.l0
  rw [if_pos (by simp; omega),h2,WQ,ij (by omega) (by omega),zf (by omega) (by omega) hw (by omega),WQ,hy,WQ]
  dsimp only
  rw [aE (by omega) (by omega),show ((i:Int)+1)=((i+1:Nat):Int) by omega]
  rw [show w++dL t.nodes.length++dO t.nodes=w++jL t by simp [jL]]
  rw [ih,jk,W7]
theorem ND {m:Nat}(hm:2 ^ 30≤m){L:List au}(hW:∀t∈L,rl t)(hl:(cw L).length+2 ^ 42≤140737488355328)(hL:L.length<2 ^ 30):aT.f m L=(cH.f m (cC L)).bind fun c=>app 1 (cC L) c:=by
 have M8:(2:Nat) ^ 42=4398046511104:=by decide
 have rD:(2:Nat) ^ 41=2199023255552:=by decide
 have ot:(2:Nat) ^ 40=1099511627776:=by decide
 have nb:(2:Nat) ^ 30=1073741824:=by decide
 unfold aT.f
 have h1:wB ([]:List Int) [(76:Int)]=some [76]:=by unfold wB; rw [if_pos (by simp)]; rfl
 have e0:(dL L.length).length≤10:=dU (by omega)
 obtain⟨x,hx⟩:=Gm (m:=m) hm L L m 0 ([76]++[1]++dL L.length) (by omega) rfl hW (by simp) (by simp; omega) (by omega)
 have hx:aT.l0 m L m (0:Int) ([76]++[1]++dL L.length)=_:=hx
 rw [h1,WQ,mG (by simp) (by simp) (by simp),WQ,ij (by omega) (by omega),zf (by omega) (by omega) (by simp) (by simp),WQ,hx,WQ]
 dsimp only
 rw [show [(76:Int)]++[1]++dL L.length++cw L=cC L by simp [cC]]
 have h2:tk (cC L)=some ():=by
  unfold tk
  rw [if_pos ⟨by simp [cC],by simp [cC]; omega⟩]
 rw [h2,WQ]
 congr 1
 funext c
 cases app 1 (cC L) c<;>rfl
end Go.Proofs.YtmekcfdllhphlaaDoor
namespace Go.Proofs.YtmekcfdllhphlaaDoor
open Go Go.R
open Go.IntKind (i64 u64 u8 u32)
theorem Gn {m:Nat}(hm:11≤m)(x3:Int × fB)(rest:List Int)(hx:x3.1<2 ^ 30):∀(l:List ae) (f k:Nat) (acc:List ae),l.length<f→(k:Int)+l.length=x3.1→acc.length=k→(∀n∈l,rj n)→
  ∃x,bc.l1 m x3 f (k:Int) acc 0 ⟨dO l++rest,false⟩=some (x,acc++l,0,⟨rest,false⟩)
 | l,0,k,acc,hf,_,_,_=>absurd hf (by omega)
 | [],f+1,k,acc,hf,hk,ha,hW=>by
  refine⟨k,?_⟩
  simp only [XL] at hk
  unfold bc.l1
  rw [if_neg (by simp; omega)]
  simp [dO]
 | n::l,f+1,k,acc,hf,hk,ha,hW=>by
  simp only [Xf] at hf hk
  have nb:(2:Int) ^ 30=1073741824:=by decide
  obtain⟨x,ih⟩:=Gn hm x3 rest hx l f (k+1) (acc++[n]) (by omega) (by omega) (by simp; omega) (fun c hc=>hW c (by simp [hc]))
  refine⟨x,?_⟩
  unfold bc.l1
  have lQ:app 56 acc [n]=some (acc++[n]):=by unfold app; rw [if_pos (by simp; omega)]
  rw [if_pos (by simp; omega),if_pos (show (!false)=true from rfl),jj,W7,NB hm (hW n (by simp)),WQ]
  dsimp only
  rw [lQ,WQ,aE (by omega) (by omega),show ((k:Int)+1)=((k+1:Nat):Int) by omega,ih]
  simp
theorem Gp {m:Nat}(hm:2 ^ 30≤m)(x2:Int × fB)(rest:List Int)(hx:x2.1≤8):∀(l:List au) (f k:Nat) (acc:List au),l.length<f→(k:Int)+l.length=x2.1→acc.length=k→(∀t∈l,rl t)→
  ∃x,bc.l0 m x2 f acc (k:Int) ⟨cw l++rest,false⟩=some (acc++l,x,⟨rest,false⟩)
 | l,0,k,acc,hf,_,_,_=>absurd hf (by omega)
 | [],f+1,k,acc,hf,hk,ha,hW=>by
  refine⟨k,?_⟩
  simp only [XL] at hk
  unfold bc.l0
  rw [if_neg (by simp; omega)]
  simp [cw]
 | t::l,f+1,k,acc,hf,hk,ha,hW=>by
  simp only [Xf] at hf hk
  have nb:(2:Int) ^ 30=1073741824:=by decide
  have WH:(2:Nat) ^ 30=1073741824:=by decide
  have LK:=hW t (by simp)
  have AT:=LK.tU
  obtain⟨x,ih⟩:=Gp hm x2 rest hx l f (k+1) (acc++[t]) (by omega) (by omega) (by simp; omega) (fun c hc=>hW c (by simp [hc]))
  obtain⟨y,hy⟩:=Gn (m:=m) (by omega) ((t.nodes.length:Int),(⟨dO t.nodes++(cw l++rest),false⟩:fB)) (cw l++rest) (by simp only; omega) t.nodes m 0 [] (by omega) (by simp) rfl LK.nodes
  have hy:bc.l1 m ((t.nodes.length:Int),(⟨dO t.nodes++(cw l++rest),false⟩:fB)) m (0:Int) [] 0 ⟨dO t.nodes++(cw l++rest),false⟩=_:=hy
  refine⟨x,?_⟩
  unfold bc.l0
  have lQ:app 32 acc [t]=some (acc++[t]):=by unfold app; rw [if_pos (by simp; omega)]
  rw [if_pos (by simp; omega),if_pos (show (!false)=true from rfl),if_pos (by simp; omega),jk,jL,W7,W7,AW (by omega) (by omega),WQ]
  dsimp only
  rw [hy,WQ]
  dsimp only
  rw [show au.mk ([]++t.nodes) 0=t by rw [Xs,←LK.root],lQ,WQ,aE (by omega) (by omega),show ((k:Int)+1)=((k+1:Nat):Int) by omega,ih]
  simp
end Go.Proofs.YtmekcfdllhphlaaDoor
namespace Go.Proofs.YtmekcfdllhphlaaDoor
open Go Go.R
open Go.IntKind (i64 u64 u8 u32)
end Go.Proofs.YtmekcfdllhphlaaDoor
namespace Go.Proofs.YtmekcfdllhphlaaDoor
open Go Go.R
open Go.IntKind (i64 u64 u8 u32)
end Go.Proofs.YtmekcfdllhphlaaDoor
namespace Go.Proofs.YtmekcfdllhphlaaDoor
open Go Go.R
open Go.IntKind (i64 u64 u8 u32)
end Go.Proofs.YtmekcfdllhphlaaDoor
namespace Go.Proofs.YtmekcfdllhphlaaDoor
open Go Go.R
open Go.IntKind (i64 u64 u8 u32)
def Bytes (l:List Int):Prop:=∀x∈l,0≤x∧x<256
theorem Bytes.append {a b:List Int}(ha:Bytes a)(hb:Bytes b):Bytes (a++b):=fun x hx=>(W8.1 hx).elim (ha x) (hb x)
theorem gI:∀(k n:Nat),n≤k→Bytes (dL n)
 | k,n,h=>by
  by_cases h1:n<128
  ·rw [jX h1]; intro x hx; simp at hx; omega
  ·cases k with
   | zero=>omega
   | succ k=>
    rw [mo h1]
    intro x hx
    rcases Xo.1 hx with rfl | hx
    ·omega
    ·exact gI k (n / 128) (by omega) x hx
theorem DJ (s:ByteArray):Bytes (dX s):=by
 intro x hx
 simp only [dX,Xd] at hx
 obtain⟨b,_,rfl⟩:=hx
 have:=b.toNat_lt
 omega
theorem A0 {n:ae}(W:rj n):Bytes (dc n):=by
 have hk:0≤n.kind∧n.kind≤3:=by rcases W.kind with h | h | h | h<;>(have:=h.1; omega)
 have hs:Bytes (ng n.label):=(gI _ _ (WU _)).append (DJ _)
 unfold dc
 intro x hx
 rcases Xo.1 hx with rfl | hx
 ·omega
 split at hx
 ·exact gI _ _ (WU _) x hx
 split at hx
 ·exact gI _ _ (WU _) x hx
 split at hx
 ·exact hs x hx
 ·refine ((hs.append (gI _ _ (WU _))).append ?_) x hx
  intro y hy
  simp only [List.mem_flatten,Xd] at hy
  obtain⟨l,⟨a,_,rfl⟩,hy⟩:=hy
  exact gI _ _ (WU _) y hy
theorem uc {l:List au}(W:∀t∈l,rl t):Bytes (cC l):=by
 refine Bytes.append (fun x hx=>by simp at hx; omega) ((gI _ _ (WU _)).append ?_)
 intro y hy
 simp only [cw,List.mem_flatten,Xd] at hy
 obtain⟨k,⟨t,ht,rfl⟩,hy⟩:=hy
 refine ((gI _ _ (WU _)).append ?_) y hy
 intro z hz
 simp only [dO,List.mem_flatten,Xd] at hz
 obtain⟨k,⟨n,hn,rfl⟩,hz⟩:=hz
 exact A0 ((W t ht).nodes n hn) z hz
theorem ud {m:Nat}{b c:List Int}(H:cH.f m b=some c):Bytes c∧c.length=4:=by
 unfold cH.f at H
 simp only [WR,WT] at H
 obtain⟨x,_,rfl⟩:=H
 refine⟨fun y hy=>?_,rfl⟩
 simp only [Xo,List.not_mem_nil,or_false] at hy
 rcases hy with rfl | rfl | rfl | rfl<;>(rw [mU]; omega)
theorem bytes_inj {a b:List Int}(ha:Bytes a)(hb:Bytes b)(h:bF a=bF b):a=b:=by
 have h:(a.map fun n=>Ys n.toNat)=b.map fun n=>Ys n.toNat:=by
  have:=congrArg (fun s:ByteArray=>s.data.toList) h
  simpa [bF] using this
 have hl:a.length=b.length:=by simpa using congrArg List.length h
 apply List.ext_getElem hl
 intro i h1 h2
 have:=congrArg (·[i]?) h
 simp only [Xq,W5 h1,W5 h2,WW,WT] at this
 have g1:=ha _ (XM h1)
 have g2:=hb _ (XM h2)
 have:=congrArg UInt8.toNat this
 simp only [UInt8.toNat_ofNat'] at this
 omega
theorem A6 {m:Nat}{a b:List Int}(ha:Bytes a)(hb:Bytes b)(H:dj.f m a b=some true):a=b:=by
 unfold dj.f at H
 simp only [WT,beq_iff_eq] at H
 refine bytes_inj ha hb ?_
 have:(bF a).data=(bF b).data:=Array.toList_inj.1 H
 cases h1:bF a; cases h2:bF b
 rw [h1,h2] at this
 cases this
 rfl
end Go.Proofs.YtmekcfdllhphlaaDoor
namespace Go.Proofs.YtmekcfdllhphlaaDoor
open Go Go.R
open Go.IntKind (i64 u64 u8 u32)
end Go.Proofs.YtmekcfdllhphlaaDoor
namespace Go.Proofs.YtmekcfdllhphlaaDoor
open Go Go.R
open Go.IntKind (i64 u64 u8 u32)
end Go.Proofs.YtmekcfdllhphlaaDoor
namespace Go.Proofs.YtmekcfdllhphlaaDoor
open Go Go.R
open Go.IntKind (i64 u64 u8 u32)
end Go.Proofs.YtmekcfdllhphlaaDoor
namespace Go.Proofs.YtmekcfdllhphlaaDoor
open Go Go.R
open Go.IntKind (i64 u64 u8 u32)
end Go.Proofs.YtmekcfdllhphlaaDoor
namespace Go.Proofs.YtmekcfdllhphlaaDoor
open Go Go.R
open Go.IntKind (i64 u64 u8 u32)
end Go.Proofs.YtmekcfdllhphlaaDoor
namespace Go.Proofs.YtmekcfdllhphlaaDoor
open Go Go.R
open Go.IntKind (i64 u64 u8 u32)
end Go.Proofs.YtmekcfdllhphlaaDoor
namespace Go.Proofs.YtmekcfdllhphlaaDoor
open Go Go.R
open Go.IntKind (i64 u64 u8 u32)
end Go.Proofs.YtmekcfdllhphlaaDoor
namespace Go.Proofs.YtmekcfdllhphlaaDoor
open Go Go.R
open Go.IntKind (i64 u64 u8 u32)
end Go.Proofs.YtmekcfdllhphlaaDoor
namespace Go.Proofs.YtmekcfdllhphlaaDoor
open Go Go.R
open Go.IntKind (i64 u64 u8 u32)
def Gq (t:au):Prop:=∀n∈t.nodes,n.kind=0→n.int<2 ^ 63
theorem Gr {s:ByteArray}(h:(s.data.toList==[])=true):s=Xk #[]:=by
 have h:=beq_iff_eq.1 h
 cases s with
 | mk d=>
  cases d with
  | mk l=>simp only at h; subst h; rfl
theorem Oz {l:List Int}(h:l.isEmpty=true):l=[]:=by cases l with | nil=>rfl | cons=>cases h
structure A7 (n:ae):Prop where
 kind:n.kind=0∧0≤n.int∧n.label=Xk #[]∧n.args=[]∨n.kind=1∧(-1099511627776≤n.int∧n.int≤1099511627776)∧n.label=Xk #[]∧n.args=[]∨n.kind=2∧n.int=0∧n.args=[]∨n.kind=3∧n.int=0∨n.kind=4∧n.args=[]
 label:n.kind=2∨n.kind=3→1≤n.label.size∧n.label.size≤16
 args:n.args.length≤8
theorem qz {n:ae}{size:Int}(h:kl n size=true):A7 n∧∀a∈n.args,0≤a∧a<size:=by
 unfold kl at h
 split at h
 ·rename_i k
  simp only [WV,decide_eq_true_eq] at h
  have ha:=Oz h.2
  exact⟨⟨.inl ⟨k,h.1.1,Gr h.1.2,ha⟩,fun z=>by omega,by rw [ha]; decide⟩,fun a h=>by rw [ha] at h; cases h⟩
 split at h
 ·rename_i k
  simp only [WV,decide_eq_true_eq] at h
  have ha:=Oz h.2
  exact⟨⟨.inr (.inl ⟨k,h.1.1,Gr h.1.2,ha⟩),fun z=>by omega,by rw [ha]; decide⟩,fun a h=>by rw [ha] at h; cases h⟩
 split at h
 ·rename_i k
  simp only [WV,beq_iff_eq] at h
  have ha:=Oz h.2
  exact⟨⟨.inr (.inr (.inl ⟨k,h.1.1,ha⟩)),fun z=>vG h.1.2,by rw [ha]; decide⟩,fun a h=>by rw [ha] at h; cases h⟩
 split at h
 ·rename_i k
  simp only [WV,beq_iff_eq,decide_eq_true_eq,Xi] at h
  exact⟨⟨.inr (.inr (.inr (.inl ⟨k,h.1.1.1.1⟩))),fun z=>vG h.1.1.1.2,h.1.2⟩,h.2⟩
 split at h
 ·rename_i k
  simp only [WV,decide_eq_true_eq] at h
  have ha:=Oz h.2
  exact⟨⟨.inr (.inr (.inr (.inr ⟨k,ha⟩))),fun z=>by omega,by rw [ha]; decide⟩,fun a h=>by rw [ha] at h; cases h⟩
 ·cases h
theorem jf {t:au}(h:dT t=true):kU t.nodes∧1≤t.nodes.length∧0≤t.root∧t.root<t.nodes.length∧∀n∈t.nodes,A7 n:=by
 unfold dT at h
 simp only [WV,decide_eq_true_eq,Xi] at h
 obtain⟨⟨⟨⟨h1,h2⟩,h3⟩,h4⟩,h5⟩:=h
 exact⟨⟨h2,fun n hn=>⟨(qz (h5 n hn)).1.args,(qz (h5 n hn)).2⟩⟩,h1,h3,h4,fun n hn=>(qz (h5 n hn)).1⟩
structure nD (s:au):Prop where
 root:s.root=0
 tU:s.nodes.length≤8000
 nodes:∀x∈s.nodes,A7 x∧(x.kind=0→x.int<2 ^ 63)∧∀a∈x.args,0≤a∧a<8000
theorem A7.map {n:ae}(T:A7 n)(f:Int→Int):A7 ⟨n.kind,n.int,n.label,n.args.map f⟩:=by
 refine⟨?_,T.label,by simpa using T.args⟩
 rcases T.kind with⟨a,b,c,d⟩| ⟨a,b,c,d⟩| ⟨a,b,d⟩| ⟨a,b⟩| ⟨a,d⟩
 ·exact .inl ⟨a,b,c,by simp [d]⟩
 ·exact .inr (.inl ⟨a,b,c,by simp [d]⟩)
 ·exact .inr (.inr (.inl ⟨a,b,by simp [d]⟩))
 ·exact .inr (.inr (.inr (.inl ⟨a,b⟩)))
 ·exact .inr (.inr (.inr (.inr ⟨a,by simp [d]⟩)))
theorem vP {m:Nat}(hm:2 ^ 41≤m){t:au}(h:dT t=true)(h0:Gq t):∃s,ck.f m t=some s∧nD s:=by
 obtain⟨ok,h1,r0,r1,hT⟩:=jf h
 obtain⟨cls,many,ks,ns,e,P,_,K,Ai,Q,hr⟩:=tW hm ok h1 r0 r1 (fun _=>True) (fun _ _ _ _ _=>trivial) (fun _ _ _ _ _ _ _ _ _=>trivial)
 have AT:=Q.vs.tU
 have h8000:=ok.1
 have hlen:=Q.len
 refine⟨_,e,rfl,by dsimp only; omega,fun x hx=>?_⟩
 obtain⟨k,hk,e2⟩:=List.getElem_of_mem hx
 dsimp only at hk e2
 have:=Q.new k (by simp) (by omega)
 rw [W5 hk,e2] at this
 have:=Xn this
 subst this
 have wJ:=Q.vs.nB _ (aM (l:=ri cls t.nodes m t.root []) (k:=k) (by omega))
 have AQ:=fu wJ.1 wJ.2
 have Va:=h0 _ AQ
 refine⟨(hT _ AQ).map _,fun hk=>Va hk,fun a ha=>?_⟩
 obtain⟨b,hb,rfl⟩:=Xd.1 ha
 have hin:=Q.arg k (by simp) (by omega) b hb
 have:=XS hin
 rw [Xy] at this
 unfold idx
 omega
theorem nD.w {s:au}(L:nD s)(h:s.nodes.any (fun n=>n.kind==4)=false):rl s:=by
 refine⟨fun n hn=>?_,?_,L.root⟩
 ·obtain⟨T,i0,ha⟩:=L.nodes n hn
  have h4:n.kind≠4:=fun e=>by
   have:=List.any_eq_false.1 h n hn
   rw [e] at this; exact absurd this (by decide)
  have WI:(2:Int) ^ 62=4611686018427387904:=by decide
  have Hm:(2:Int) ^ 63=9223372036854775808:=by decide
  have ot:(2:Nat) ^ 40=1099511627776:=by decide
  refine⟨?_,fun hk=>?_,T.args,fun a hx=>by have:=ha a hx; omega⟩
  ·rcases T.kind with⟨a,b,c,d⟩| ⟨a,b,c,d⟩| ⟨a,b,d⟩| ⟨a,b⟩| ⟨a,d⟩
   ·exact .inl ⟨a,⟨b,i0 a⟩,c,d⟩
   ·exact .inr (.inl ⟨a,by omega,c,d⟩)
   ·exact .inr (.inr (.inl ⟨a,b,d⟩))
   ·exact .inr (.inr (.inr ⟨a,b⟩))
   ·exact absurd a h4
  ·have:=T.label (by rcases T.kind with h | h | h | h | h<;>(have:=h.1; omega))
   omega
 ·have:=L.tU
  have nb:(2:Nat) ^ 30=1073741824:=by decide
  omega
theorem zj {n:ae}(W:rj n)(T:A7 n):(dc n).length≤200:=by
 have i64:(2:Int) ^ 63=9223372036854775808:=by decide
 have i62:(2:Int) ^ 62=4611686018427387904:=by decide
 have QA:(2:Nat) ^ 64=18446744073709551616:=by decide
 have Hm:(2:Nat) ^ 63=9223372036854775808:=by decide
 have hs:(n.kind=2∨n.kind=3)→(ng n.label).length≤30:=fun h=>by
  obtain⟨h1,h2⟩:=T.label h
  unfold ng
  have:=dU (n:=n.label.size) (by omega)
  rw [W3,iN]; omega
 have hargs:∀l:List Int,(∀a∈l,0≤a∧a<2 ^ 63)→((l.map fun a=>dL a.toNat).flatten).length≤10*l.length:=by
  intro l
  induction l with
  | nil=>intro _; simp
  | cons a l ih=>
   intro h
   have h1:=h a (by simp)
   have:=ih fun b hb=>h b (by simp [hb])
   have h2:=dU (n:=a.toNat) (by omega)
   simp only [Xe,List.flatten_cons,W3,Xf]
   omega
 unfold dc
 rw [Xf]
 rcases W.kind with⟨a,⟨b,b'⟩,_,_⟩| ⟨a,⟨b,b'⟩,_,_⟩| ⟨a,_⟩| ⟨a,_⟩
 ·rw [if_pos a]
  have:=dU (n:=n.int.toNat) (by omega)
  omega
 ·rw [if_neg (by omega),if_pos a]
  have h1:=AY b b'
  have:=dU (n:=xS n.int) (by omega)
  omega
 ·rw [if_neg (by omega),if_neg (by omega),if_pos a]
  have:=hs (.inl a); omega
 ·rw [if_neg (by omega),if_neg (by omega),if_neg (by omega),W3,W3]
  have h1:=hs (.inr a)
  have h2:=hargs n.args W.args.2
  have h3:=W.args.1
  have h4:=dU (n:=n.args.length) (by omega)
  omega
theorem DK {m:Nat}{t:au}(h:t.nodes.length<2 ^ 40)(h2:t.nodes.length<m):eX.f m t=some (t.nodes.any fun n=>n.kind==4):=by
 unfold eX.f
 rw [vH (f0:=fun y0=>fP.f m y0) (g:=fun n=>n.kind==4) h h2 (fun n _=>rfl)]; rfl
theorem Gs {m:Nat}:∀(f i:Nat) (Ir:Int),8 - i<f→i≤8→∃c x,bw.l1 m f Ir (i:Int)=some (c,x)
 | 0,i,Ir,hf,_=>absurd hf (by omega)
 | f+1,i,Ir,hf,hi=>by
  unfold bw.l1
  by_cases h:i<8
  ·rw [if_pos (by simp only [decide_eq_true_eq]; omega),aE (by omega) (by omega),show (i:Int)+1=((i+1:Nat):Int) by omega]
   exact Gs f (i+1) _ (by omega) (by omega)
  ·exact⟨_,_,by rw [if_neg (by simp only [decide_eq_true_eq]; omega)]⟩
theorem Gt {m:Nat}(hm:10≤m){b:List Int}(hb:b.length<2 ^ 40):∀(f i:Nat) (Ir:Int),b.length - i<f→i≤b.length→∃c x,bw.l0 m b f Ir (i:Int)=some (c,x)
 | 0,i,Ir,hf,_=>absurd hf (by omega)
 | f+1,i,Ir,hf,hi=>by
  have ot:(2:Nat) ^ 40=1099511627776:=by decide
  unfold bw.l0
  by_cases h:i<b.length
  ·obtain⟨c,x,k⟩:=Gs (m:=m) m 0 (lk .u32 Ir (u32.wrap (gt b i))) (by omega) (by omega)
   have k:bw.l1 m m (lk .u32 Ir (u32.wrap (gt b i))) 0=_:=k
   rw [if_pos (by simp only [decide_eq_true_eq]; omega),cE h,WQ,k,WQ]
   dsimp only
   rw [aE (by omega) (by omega),show (i:Int)+1=((i+1:Nat):Int) by omega]
   exact Gt hm hb f (i+1) _ (by omega) (by omega)
  ·exact⟨_,_,by rw [if_neg (by simp only [decide_eq_true_eq]; omega)]⟩
theorem DL {m:Nat}(hm:10≤m){b:List Int}(hb:b.length<2 ^ 40)(h:b.length<m):∃c,cH.f m b=some c:=by
 obtain⟨c,x,k⟩:=Gt hm hb m 0 4294967295 (by omega) (by omega)
 have k:bw.l0 m b m 4294967295 0=_:=k
 unfold cH.f bw.f
 rw [k]
 exact⟨_,rfl⟩
end Go.Proofs.YtmekcfdllhphlaaDoor
namespace Go.Proofs.YtmekcfdllhphlaaDoor
open Go Go.R
open Go.IntKind (i64 u64 u8 u32)
structure DM (l:List ae)(R:Nat→Nat→Prop):Prop where
 nB:∀i j,R i j→i<l.length∧j<l.length
 top:∀i j,R i j→Alike (nd l i) (nd l j)
 arg:∀i j,R i j→∀k,k<(nd l i).args.length→R (gt (nd l i).args k).toNat (gt (nd l j).args k).toNat
structure Min (l:List ae)(r:List Int):Prop where
 len:r.length=l.length
 top:∀i j,i<l.length→j<l.length→gt r i=gt r j→Alike (nd l i) (nd l j)
 arg:∀i j,i<l.length→j<l.length→gt r i=gt r j→∀k,k<(nd l i).args.length→gt r (gt (nd l i).args k).toNat=gt r (gt (nd l j).args k).toNat
 max:∀R,DM l R→∀i j,R i j→gt r i=gt r j
theorem sk (a:ae):cT a a=0:=(Alike.refl a).cT
theorem uU {a b c:ae}(h1:cT a b=0)(h2:cT b c=0):cT a c=0:=by
 have n1:=je a b
 have n2:=je b c
 have n3:=je a c
 have t1:=zc a b c (by omega) (by omega)
 have t2:=zc c b a (by omega) (by omega)
 omega
theorem xC {l:List ae}{d:List Int}{k:Nat}:∀j,k≤j→rk l d k=rk l d j→cT (nd l (gt d k)) (nd l (gt d j))=0
 | 0,h,_=>by
   have:k=0:=by omega
   subst this; exact sk _
 | j+1,h,e=>by
  by_cases hk:k=j+1
  ·subst hk; exact sk _
  ·have m1:=xl l d k j (by omega)
   have e2:rk l d (j+1)=rk l d j+if cT (nd l (gt d j)) (nd l (gt d (j+1)))=0 then 0 else 1:=rfl
   by_cases hc:cT (nd l (gt d j)) (nd l (gt d (j+1)))=0
   ·rw [if_pos hc] at e2
    exact uU (xC j (by omega) (by omega)) hc
   ·rw [if_neg hc] at e2; omega
theorem xD {l:List ae}{d:List Int}{n:Nat}(S:Sg (fun x y=>cT (nd l x) (nd l y)) d 0 n){k q:Nat}(hq:q<n)(h0:cT (nd l (gt d k)) (nd l (gt d q))=0):∀j,k≤j→j≤q→rk l d j=rk l d k
 | 0,h,_=>by
   have:k=0:=by omega
   subst this; rfl
 | j+1,h,hj=>by
  by_cases hk:k=j+1
  ·subst hk; rfl
  ·have ih:=xD S hq h0 j (by omega) (by omega)
   have Vb:cT (nd l (gt d k)) (nd l (gt d j))≤0:=by
    by_cases e:k=j
    ·subst e; rw [sk]; omega
    ·have:0≤cT (nd l (gt d j)) (nd l (gt d k)):=S k j (by omega) (by omega) (by omega)
     have n:=je (nd l (gt d k)) (nd l (gt d j))
     omega
   have Vc:cT (nd l (gt d (j+1))) (nd l (gt d q))≤0:=by
    by_cases e:j+1=q
    ·subst e; rw [sk]; omega
    ·have:0≤cT (nd l (gt d q)) (nd l (gt d (j+1))):=S (j+1) q (by omega) (by omega) hq
     have n:=je (nd l (gt d (j+1))) (nd l (gt d q))
     omega
   have Vd:cT (nd l (gt d q)) (nd l (gt d k))≤0:=by have n:=je (nd l (gt d k)) (nd l (gt d q)); omega
   have WJ:=zc _ _ _ (zc _ _ _ Vc Vd) Vb
   have s1:=S j (j+1) (by omega) (by omega) (by omega)
   have n:=je (nd l (gt d j)) (nd l (gt d (j+1)))
   have hz:cT (nd l (gt d j)) (nd l (gt d (j+1)))=0:=by
    have s1:0≤cT (nd l (gt d (j+1))) (nd l (gt d j)):=s1
    omega
   show rk l d j+(if cT (nd l (gt d j)) (nd l (gt d (j+1)))=0 then 0 else 1)=_
   rw [if_pos hz,ih]; rfl
def Is (l:List ae)(out:List Int):Prop:=(∀i j,i<l.length→j<l.length→gt out i=gt out j→cT (nd l i) (nd l j)=0)∧∀R,DM l R→∀i j,R i j→gt out i=gt out j
theorem DN {l:List ae}{d out:List Int}(hp:d.Perm (ints l.length))(hs:Ord (fun x y=>cT (nd l x) (nd l y)) (ints l.length)→Sg (fun x y=>cT (nd l x) (nd l y)) d 0 l.length)(hg:∀k,k<l.length→gt out (gt d k).toNat=rk l d k):Is l out:=by
 have S:=hs (KM _ _)
 have PM:d.length=l.length:=by rw [hp.length_eq,dM]
 have pos:∀i,i<l.length→∃k,k<l.length∧gt d k=i∧gt out i=rk l d k:=fun i hi=>by
  obtain⟨k,hk,e⟩:=eU (hp.mem_iff.2 (iM.2 (show 0≤(i:Int)∧(i:Int)<l.length by omega)))
  have:=hg k (by omega)
  rw [e,WX] at this
  exact⟨k,by omega,e,this⟩
 refine⟨fun i j hi hj e=>?_,fun R B i j hR=>?_⟩
 ·obtain⟨k,hk,ek,QQ⟩:=pos i hi
  obtain⟨q,hq,eq,QR⟩:=pos j hj
  rw [QQ,QR] at e
  rw [←ek,←eq]
  rcases Nat.le_total k q with h | h
  ·exact xC q h (by omega)
  ·have:=xC (l:=l) (d:=d) k h (by omega)
   have n:=je (nd l (gt d k)) (nd l (gt d q))
   omega
 ·obtain⟨hi,hj⟩:=B.nB i j hR
  obtain⟨k,hk,ek,QQ⟩:=pos i hi
  obtain⟨q,hq,eq,QR⟩:=pos j hj
  have h0:=(B.top i j hR).cT
  rw [←ek,←eq] at h0
  rw [QQ,QR]
  rcases Nat.le_total k q with h | h
  ·rw [xD S hq h0 q h (WU _)]
  ·have n:=je (nd l (gt d k)) (nd l (gt d q))
   rw [xD S hk (by omega) k h (WU _)]
theorem Gu {l:List ae}(ok:kU l){out:List Int}{i j:Nat}(h1:(nd l i).args.length=(nd l j).args.length)(e:key out (nd l i) i=key out (nd l j) j):gt out i=gt out j∧∀k,k<(nd l i).args.length→gt out (gt (nd l i).args k).toNat=gt out (gt (nd l j).args k).toNat:=by
 unfold key at e
 have e1:=X7 e
 refine⟨by omega,fun k hk=>?_⟩
 have e2:=e1.2
 rw [h1] at e2
 have e3:=List.append_cancel_right e2
 have e4:=congrArg (fun z=>z[k]?) e3
 simp only [Xq] at e4
 rw [bp hk,bp (by omega)] at e4
 simp only [WW,WT] at e4
 omega
theorem Gv {l:List ae}(ok:kU l)(out:List Int)(many:Nat)(ks:List (List Int))(next:List Int)(P:Part l.length out many)(I:Is l out)(K:qv l out l.length ks)(hn:next.length=l.length)
  (hg:∀i,i<l.length→gt next i=(ks.idxOf (key out (nd l i) i):Int)):Is l next:=by
 refine⟨fun i j hi hj e=>?_,fun R B i j hR=>?_⟩
 ·rw [hg i hi,hg j hj] at e
  have e:ks.idxOf (key out (nd l i) i)=ks.idxOf (key out (nd l j) j):=by omega
  have m1:=XS ((K.mem _).2 ⟨i,hi,rfl⟩)
  have m2:=XS ((K.mem _).2 ⟨j,hj,rfl⟩)
  have g1:=List.getElem_idxOf m1
  have g2:=List.getElem_idxOf m2
  have g3:key out (nd l i) i=key out (nd l j) j:=by rw [←g1,←g2]; congr 1
  exact I.1 i j hi hj (by have:=(X7 g3).1; omega)
 ·obtain⟨hi,hj⟩:=B.nB i j hR
  rw [hg i hi,hg j hj]
  have hk:key out (nd l i) i=key out (nd l j) j:=by
   have hl:=(B.top i j hR).len
   unfold key
   rw [I.2 R B i j hR,hl]
   congr 2
   apply XI fun k=>?_
   simp only [Xq]
   by_cases h:k<(nd l i).args.length
   ·rw [bp h,bp (by omega)]
    simp only [WW,WT]
    rw [I.2 R B _ _ (B.arg i j hR k h)]
   ·rw [Xa (by omega),Xa (by omega)]
  rw [hk]
theorem KU {l:List ae}{r:List Int}{many:Nat}{ks:List (List Int)}(P:Part l.length r many)(K:qv l r l.length ks)(Ai:ks.length=many+1){i j:Nat}(hi:i<l.length)(hj:j<l.length)(e:gt r i=gt r j):key r (nd l i) i=key r (nd l j) j:=by
 by_cases hne:key r (nd l i) i=key r (nd l j) j
 ·exact hne
 ·exfalso
  have Ve:=(K.mem _).2 ⟨i,hi,rfl⟩
  have Vf:=(K.mem _).2 ⟨j,hj,rfl⟩
  have hn:((List.range (many+1)).map fun v:Nat=>((v:Int)+1)).Nodup:=by
   unfold List.Nodup
   rw [List.pairwise_map]
   exact List.Pairwise.imp (fun h=>by omega) List.nodup_range
  have:=hn.length_le_of_subset (l₂:=(ks.erase (key r (nd l j) j)).map fun k=>k.headD 0) (fun x hx=>by
   obtain⟨v,hv,rfl⟩:=Xd.1 hx
   obtain⟨q,hq,h⟩:=P.SP v (by have:=List.mem_range.1 hv; omega)
   by_cases He:key r (nd l q) q=key r (nd l j) j
   ·refine Xd.2 ⟨key r (nd l i) i,(List.mem_erase_of_ne hne).2 Ve,?_⟩
    have h1:=(X7 He).1
    simp [key,e]
    omega
   ·exact Xd.2 ⟨_,(List.mem_erase_of_ne He).2 ((K.mem _).2 ⟨q,hq,rfl⟩),by simp [key,h]⟩)
  rw [Xy,Xy,List.length_range,List.length_erase_of_mem Vf] at this
  omega
theorem qA {l:List ae}(hT:∀n∈l,A7 n){i j:Nat}(hi:i<l.length)(hj:j<l.length)(h:cT (nd l i) (nd l j)=0):Alike (nd l i) (nd l j):=by
 have Ti:=hT _ (fu (i:=(i:Int)) (by omega) (by omega))
 have Tj:=hT _ (fu (i:=(j:Int)) (by omega) (by omega))
 have a3:∀{n:ae},A7 n→n.kind=3→n.int=0:=fun T h=>by rcases T.kind with z | z | z | z | z<;>(have:=z.1; first | omega | exact z.2)
 have a0:∀{n:ae},A7 n→n.kind≠3→n.args=[]:=fun T h=>by
  rcases T.kind with z | z | z | z | z
  ·exact z.2.2.2
  ·exact z.2.2.2
  ·exact z.2.2
  ·exact absurd z.1 h
  ·exact z.2
 exact Gb h (a3 Ti) (a3 Tj) (a0 Ti) (a0 Tj)
theorem lA {m:Nat}(hm:2 ^ 41≤m){t:au}(h:dT t=true) :
  ∃cls ns,ck.f m t=some ⟨ns,0⟩∧Min t.nodes cls∧Ps cls t.nodes [] (ri cls t.nodes m t.root []) [] ns∧en cls t.root∈(ri cls t.nodes m t.root []).map (en cls):=by
 obtain⟨ok,h1,r0,r1,hT⟩:=jf h
 obtain⟨cls,many,ks,ns,e,P,I,K,Ai,Q,hr⟩:=tW hm ok h1 r0 r1 (Is t.nodes) (fun d out hp hs hg=>DN hp hs hg) (fun out many ks next P I K hn hg=>Gv ok out many ks next P I K hn hg)
 refine⟨cls,ns,e,⟨P.len,fun i j hi hj e=>qA hT hi hj (I.1 i j hi hj e),fun i j hi hj e k hk=>?_,I.2⟩,Q,hr⟩
 have hA:=qA hT hi hj (I.1 i j hi hj e)
 exact (Gu ok hA.len (KU P K Ai hi hj e)).2 k hk
end Go.Proofs.YtmekcfdllhphlaaDoor
namespace Go.Proofs.YtmekcfdllhphlaaDoor
open Go Go.R
open Go.IntKind (i64 u64 u8 u32)
def uf:cd:=gh [0,1,2,4,5,10,21] [2] [121,105,73,105,41,119,119] [] []
def bX.l0 (m:Nat)(n0:ae)(dC:List Bool):Nat→Int→Option (Sum Bool (Int))
 | 0,_=>none
 | k+1,i0=>if (decide (i0<(n0.args.length:Int)))=true then ((ix n0.args i0).bind fun v0=>(ix dC v0).bind fun v1=>if (!v1)=true then (some (.inl false)) else (bX.l0 m n0 dC k (i64.wrap (i0+(1:Int))))) else (some (.inr i0))
def bX.f (m:Nat)(n0:ae)(dC:List Bool):Option (Bool):=(bX.l0 m n0 dC m (0:Int)).bind fun bo=>match bo with | .inl r0=>some r0 | .inr i1=>some true
def bX.fin (L:Mem)(r:Bool)(s:St):Prop:=∃av,aI Tryd.prog (s.open uf) Tryd.f102.results.toList=some av∧fA s.h av (.bool r)
def It (cf:CallF)(m:Nat):Prop:=∀(n0:ae) (dC:List Bool) (r:Bool),bX.f m n0 dC=some r→∀h xs,eA eQ h xs [.agg [.int .i64 n0.kind,.int .i64 n0.int,.str n0.label,aa.fz n0.args],cF.fz dC]→cf 102 xs h=some (.bool r,h)
section
variable {cf:CallF}{m:Nat}
theorem bX.bG (L:Mem)(n0:ae)(dC:List Bool)   : bI Tryd.prog cf uf m (sub [1,0,1,0,0] (codeOf Tryd.f102)) (fun k (σ:Int)=>bX.l0 m n0 dC k σ) (fun σ s=>match σ with | i0=>∃h0,s=⟨[.any,cF.fz dC,.lp 2 0,.any,.int .i64 i0,.any,.any],[some [.int .i64 n0.kind,.int .i64 n0.int,.str n0.label,aa.fz n0.args]],h0⟩∧Has h0 (L)) (fun out e s=>(e = .exit 0∧∃i0,.inr i0=out∧∃rB Dt y5 tz QS h0,s=⟨[.any,rB,Dt,.any,y5,tz,.any],[QS],h0⟩∧Has h0 (L))∨(e = .ret∧∃r,.inl r=out∧bX.fin L r s)):=by
 refine hX (fun _=>rfl) ?_
 rintro k i0 s out ⟨h0,rfl,o0⟩ H
 have H:bX.l0 m n0 dC (k+1) i0=some out:=H
 refine qq <| qq <| q0 <| qc H (fun c0 H=>?_) (fun c0 H=>?_)
 ·refine qk <| qq <| qb 1 <| qq ?_
  obtain⟨v0,e0,H⟩:=aJ H
  obtain⟨v1,e1,H⟩:=aJ H
  refine qr [.v 4 (bD (k:=.i64) (E:=aa) (l:=n0.args) dA e0),.v 5 (dd  (E:=aa) (l:=n0.args) h0 A3 e0 rfl),.v 6 (bD (k:=.i64) (E:=cF) (l:=dC) Hg e1),.v 7 (dd  (E:=cF) (l:=dC) h0 A4 e1 rfl)] <| qc H (fun c1 H=>?_) (fun c1 H=>?_)
  ·exact q1 <| qt <| XZ (⟨rfl,_,oi H,ca (.bool false) h0 (b8 (ak))⟩)
  ·exact qk <| q0 <| ⟨i64.wrap (i0+(1:Int)),⟨h0,by kernel_rfl,o0⟩,H⟩
 ·exact qx 0 <| Yf (⟨rfl,i0,oi H,cF.fz dC,.lp 2 0,.int .i64 i0,.bool (decide (i0<(n0.args.length:Int))),some [.int .i64 n0.kind,.int .i64 n0.int,.str n0.label,aa.fz n0.args],h0,by kernel_rfl,o0⟩)
theorem qB {aS:FuncId→cd}(ha:aS 102=uf)  (n0:ae)(dC:List Bool)(h:AHeap)(L:Mem)  (o:Has h (L)){out:Bool}(H:bX.f m n0 dC=some out) :
  ∃r h',aZ Tryd.prog aS cf m 102 [.agg [.int .i64 n0.kind,.int .i64 n0.int,.str n0.label,aa.fz n0.args],cF.fz dC] h=some (r,h')∧fA h' r (.bool out):=by
 refine aj (fn:=Tryd.f102) ha Tryd.func102 (by kernel_rfl) (by kernel_rfl) ?_
 refine aD (Q:=fun s=>bX.fin L out s) (fun _ _ h=>h) ?_
 have H:_=some out:=H
 unfold bX.f at H
 show de _ cf uf m _ ⟨.agg [.int .i64 n0.kind,.int .i64 n0.int,.str n0.label,aa.fz n0.args]::cF.fz dC::tl [],[none],h⟩ _
 refine q1 <| qq <| qq <| q0 <| qb 0 ?_
 obtain⟨bo,e2,H⟩:=aJ H
 refine ql (bX.bG L n0 dC   (0:Int) _ _ ⟨h,by kernel_rfl,o⟩ e2) ?_
 rintro e s (⟨rfl,i1,rfl,g0,g1,g2,g3,g4,h1,rfl,o1⟩| ⟨rfl,r0,rfl,mw⟩)
 ·try dsimp only at H
  obtain rfl:=oi H
  exact q1 <| qt <| ⟨.inl rfl,ca (.bool true) h1 (b8 (ak))⟩
 ·try dsimp only at H
  obtain rfl:=oi H
  exact⟨.inl rfl,mw⟩
end
end Go.Proofs.YtmekcfdllhphlaaDoor
namespace Go.Proofs.YtmekcfdllhphlaaDoor
open Go Go.R
open Go.IntKind (i64 u64 u8 u32)
def xE:cd:=gh [0,1,2,3,4] [2,3] [19,15] [] []
def eY.f (m:Nat)(a0:ae)(b0:ae):Option (Bool):=if (a0.kind==b0.kind)=true then (if (a0.int==b0.int)=true then (if (a0.label.data.toList==b0.label.data.toList)=true then (some ((a0.args.length:Int)==(b0.args.length:Int))) else (some false)) else (some false)) else (some false)
def eY.fin (L:Mem)(r:Bool)(s:St):Prop:=∃av,aI Tryd.prog (s.open xE) Tryd.f104.results.toList=some av∧fA s.h av (.bool r)
def DO (cf:CallF)(m:Nat):Prop:=∀(a0:ae) (b0:ae) (r:Bool),eY.f m a0 b0=some r→∀h xs,eA eQ h xs [.agg [.int .i64 a0.kind,.int .i64 a0.int,.str a0.label,aa.fz a0.args],.agg [.int .i64 b0.kind,.int .i64 b0.int,.str b0.label,aa.fz b0.args]]→cf 104 xs h=some (.bool r,h)
section
variable {cf:CallF}{m:Nat}
theorem qC {aS:FuncId→cd}(ha:aS 104=xE)  (a0:ae)(b0:ae)(h:AHeap)(L:Mem)  (o:Has h (L)){out:Bool}(H:eY.f m a0 b0=some out) :
  ∃r h',aZ Tryd.prog aS cf m 104 [.agg [.int .i64 a0.kind,.int .i64 a0.int,.str a0.label,aa.fz a0.args],.agg [.int .i64 b0.kind,.int .i64 b0.int,.str b0.label,aa.fz b0.args]] h=some (r,h')∧fA h' r (.bool out):=by
 refine aj (fn:=Tryd.f104) ha Tryd.func104 (by kernel_rfl) (by kernel_rfl) ?_
 refine aD (Q:=fun s=>eY.fin L out s) (fun _ _ h=>h) ?_
 have H:_=some out:=H
 unfold eY.f at H
 show de _ cf xE m _ ⟨.agg [.int .i64 a0.kind,.int .i64 a0.int,.str a0.label,aa.fz a0.args] :: .agg [.int .i64 b0.kind,.int .i64 b0.int,.str b0.label,aa.fz b0.args]::kz [],[none,none],h⟩ _
 refine q1 <| qq ?_
 rcases dF H with⟨c0,H⟩| ⟨c0,H⟩
 ·rcases dF H with⟨c1,H⟩| ⟨c1,H⟩
  ·rcases dF H with⟨c2,H⟩| ⟨c2,H⟩
   ·obtain rfl:=oi H
    exact qr [.b 5 c0,.b 12 c1,.b 19 c2] <| qt <| ⟨.inl rfl,ca (.bool ((a0.args.length:Int)==(b0.args.length:Int))) h (b8 (ak))⟩
   ·obtain rfl:=oi H
    exact qr [.b 5 c0,.b 12 c1,.b 19 c2] <| qt <| ⟨.inl rfl,ca (.bool false) h (b8 (ak))⟩
  ·obtain rfl:=oi H
   exact qr [.b 5 c0,.b 12 c1] <| qt <| ⟨.inl rfl,ca (.bool false) h (b8 (ak))⟩
 ·obtain rfl:=oi H
  exact qr [.b 5 c0] <| qt <| ⟨.inl rfl,ca (.bool false) h (b8 (ak))⟩
end
end Go.Proofs.YtmekcfdllhphlaaDoor
namespace Go.Proofs.YtmekcfdllhphlaaDoor
open Go Go.R
open Go.IntKind (i64 u64 u8 u32)
def ug:cd:=gh [0,1,2,3,4,6,7,12,31] [3,4] [483,419,291,419,163,479,479] [] []
def bf.l0 (m:Nat)(a0:ae)(b0:ae)(bk:List Int):Nat→Int→Option (Sum Bool (Int))
 | 0,_=>none
 | k+1,i0=>if (decide (i0<(a0.args.length:Int)))=true then ((ix a0.args i0).bind fun v0=>(ix bk v0).bind fun v1=>(ix b0.args i0).bind fun v2=>(ix bk v2).bind fun v3=>if (!(v1==v3))=true then (some (.inl false)) else (bf.l0 m a0 b0 bk k (i64.wrap (i0+(1:Int))))) else (some (.inr i0))
def bf.f (m:Nat)(a0:ae)(b0:ae)(bk:List Int):Option (Bool):=(bf.l0 m a0 b0 bk m (0:Int)).bind fun bo=>match bo with | .inl r0=>some r0 | .inr i1=>some true
def bf.fin (L:Mem)(r:Bool)(s:St):Prop:=∃av,aI Tryd.prog (s.open ug) Tryd.f105.results.toList=some av∧fA s.h av (.bool r)
def A8 (cf:CallF)(m:Nat):Prop:=∀(a0:ae) (b0:ae) (bk:List Int) (r:Bool),bf.f m a0 b0 bk=some r→∀h xs,eA eQ h xs [.agg [.int .i64 a0.kind,.int .i64 a0.int,.str a0.label,aa.fz a0.args],.agg [.int .i64 b0.kind,.int .i64 b0.int,.str b0.label,aa.fz b0.args],aa.fz bk]→cf 105 xs h=some (.bool r,h)
section
variable {cf:CallF}{m:Nat}
theorem bf.bG (L:Mem)(a0:ae)(b0:ae)(bk:List Int)   : bI Tryd.prog cf ug m (sub [1,0,1,0,0] (codeOf Tryd.f105)) (fun k (σ:Int)=>bf.l0 m a0 b0 bk k σ) (fun σ s=>match σ with | i0=>∃h0,s=⟨[.any,.any,aa.fz bk,.lp 3 0,.lp 4 0,.any,.int .i64 i0,.any,.any],[some [.int .i64 a0.kind,.int .i64 a0.int,.str a0.label,aa.fz a0.args],some [.int .i64 b0.kind,.int .i64 b0.int,.str b0.label,aa.fz b0.args]],h0⟩∧Has h0 (L)) (fun out e s=>(e = .exit 0∧∃i0,.inr i0=out∧∃Dt uP DC w7 xF Vg QT h0,s=⟨[.any,.any,Dt,uP,DC,.any,w7,xF,.any],[Vg,QT],h0⟩∧Has h0 (L))∨(e = .ret∧∃r,.inl r=out∧bf.fin L r s)):=by
 refine hX (fun _=>rfl) ?_
 rintro k i0 s out ⟨h0,rfl,o0⟩ H
 have H:bf.l0 m a0 b0 bk (k+1) i0=some out:=H
 refine qq <| qq <| q0 <| qc H (fun c0 H=>?_) (fun c0 H=>?_)
 ·refine qk <| qq <| qb 1 <| qq ?_
  obtain⟨v0,e0,H⟩:=aJ H
  obtain⟨v1,e1,H⟩:=aJ H
  obtain⟨v2,e2,H⟩:=aJ H
  obtain⟨v3,e3,H⟩:=aJ H
  refine qr [.v 4 (bD (k:=.i64) (E:=aa) (l:=a0.args) dA e0),.v 5 (dd  (E:=aa) (l:=a0.args) h0 A3 e0 rfl),.v 6 (bD (k:=.i64) (E:=aa) (l:=bk) dA e1),.v 7 (dd  (E:=aa) (l:=bk) h0 A3 e1 rfl),.v 12 (bD (k:=.i64) (E:=aa) (l:=b0.args) dA e2),.v 13 (dd  (E:=aa) (l:=b0.args) h0 A3 e2 rfl),.v 14 (bD (k:=.i64) (E:=aa) (l:=bk) dA e3),.v 15 (dd  (E:=aa) (l:=bk) h0 A3 e3 rfl)] <| qc H (fun c1 H=>?_) (fun c1 H=>?_)
  ·exact q1 <| qt <| XZ (⟨rfl,_,oi H,ca (.bool false) h0 (b8 (ak))⟩)
  ·exact qk <| q0 <| ⟨i64.wrap (i0+(1:Int)),⟨h0,by kernel_rfl,o0⟩,H⟩
 ·exact qx 0 <| Yf (⟨rfl,i0,oi H,aa.fz bk,.lp 3 0,.lp 4 0,.int .i64 i0,.bool (decide (i0<(a0.args.length:Int))),some [.int .i64 a0.kind,.int .i64 a0.int,.str a0.label,aa.fz a0.args],some [.int .i64 b0.kind,.int .i64 b0.int,.str b0.label,aa.fz b0.args],h0,by kernel_rfl,o0⟩)
theorem nh {aS:FuncId→cd}(ha:aS 105=ug)  (a0:ae)(b0:ae)(bk:List Int)(h:AHeap)(L:Mem)  (o:Has h (L)){out:Bool}(H:bf.f m a0 b0 bk=some out) :
  ∃r h',aZ Tryd.prog aS cf m 105 [.agg [.int .i64 a0.kind,.int .i64 a0.int,.str a0.label,aa.fz a0.args],.agg [.int .i64 b0.kind,.int .i64 b0.int,.str b0.label,aa.fz b0.args],aa.fz bk] h=some (r,h')∧fA h' r (.bool out):=by
 refine aj (fn:=Tryd.f105) ha Tryd.func105 (by kernel_rfl) (by kernel_rfl) ?_
 refine aD (Q:=fun s=>bf.fin L out s) (fun _ _ h=>h) ?_
 have H:_=some out:=H
 unfold bf.f at H
 show de _ cf ug m _ ⟨.agg [.int .i64 a0.kind,.int .i64 a0.int,.str a0.label,aa.fz a0.args] :: .agg [.int .i64 b0.kind,.int .i64 b0.int,.str b0.label,aa.fz b0.args]::aa.fz bk::Hf [],[none,none],h⟩ _
 refine q1 <| qq <| qq <| q0 <| qb 0 ?_
 obtain⟨bo,e4,H⟩:=aJ H
 refine ql (bf.bG L a0 b0 bk   (0:Int) _ _ ⟨h,by kernel_rfl,o⟩ e4) ?_
 rintro e s (⟨rfl,i1,rfl,g0,g1,g2,g3,g4,g5,g6,h1,rfl,o1⟩| ⟨rfl,r0,rfl,mw⟩)
 ·try dsimp only at H
  obtain rfl:=oi H
  exact q1 <| qt <| ⟨.inl rfl,ca (.bool true) h1 (b8 (ak))⟩
 ·try dsimp only at H
  obtain rfl:=oi H
  exact⟨.inl rfl,mw⟩
end
end Go.Proofs.YtmekcfdllhphlaaDoor
namespace Go.Proofs.YtmekcfdllhphlaaDoor
open Go Go.R
open Go.IntKind (i64 u64 u8 u32)
def uh:cd:=gh [0,1,2,3,8,9,13,42] [] [240,208,144,208,80,239,239] [] []
def b7.l0 (m:Nat)(l0:List ae)(ep:List Int)(n0:Int)(bk:List Int):Nat→Int→Option (Sum Int (Int))
 | 0,_=>none
 | k+1,k0=>if (decide (k0<(ep.length:Int)))=true then ((ix l0 n0).bind fun v0=>(ix ep k0).bind fun v1=>(ix l0 v1).bind fun v2=>(eY.f m v0 v2).bind fun x0=>if x0=true then ((ix l0 n0).bind fun v3=>(ix ep k0).bind fun v4=>(ix l0 v4).bind fun v5=>(bf.f m v3 v5 bk).bind fun x1=>if x1=true then ((ix ep k0).bind fun v6=>some (.inl v6)) else (b7.l0 m l0 ep n0 bk k (i64.wrap (k0+(1:Int))))) else (b7.l0 m l0 ep n0 bk k (i64.wrap (k0+(1:Int))))) else (some (.inr k0))
def b7.f (m:Nat)(l0:List ae)(ep:List Int)(n0:Int)(bk:List Int):Option (Int):=(b7.l0 m l0 ep n0 bk m (0:Int)).bind fun bo=>match bo with | .inl r0=>some r0 | .inr k1=>some n0
def b7.fin (L:Mem)(r:Int)(s:St):Prop:=∃av,aI Tryd.prog (s.open uh) Tryd.f103.results.toList=some av∧fA s.h av (.int .i64 r)
def Iu (cf:CallF)(m:Nat):Prop:=∀(l0:List ae) (ep:List Int) (n0:Int) (bk:List Int) (r:Int),b7.f m l0 ep n0 bk=some r→∀h xs,eA eQ h xs [af.fz l0,aa.fz ep,.int .i64 n0,aa.fz bk]→cf 103 xs h=some (.int .i64 r,h)
section
variable {cf:CallF}{m:Nat}
theorem b7.bG (L:Mem)(l0:List ae)(ep:List Int)(n0:Int)(bk:List Int)  (nE:DO cf m)(mH:A8 cf m):bI Tryd.prog cf uh m (sub [1,0,1,0,0] (codeOf Tryd.f103)) (fun k (σ:Int)=>b7.l0 m l0 ep n0 bk k σ) (fun σ s=>match σ with | k0=>∃h0,s=⟨[af.fz l0,aa.fz ep,.int .i64 n0,aa.fz bk,.any,.int .i64 k0,.any,.any],[],h0⟩∧Has h0 (L)) (fun out e s=>(e = .exit 0∧∃k0,.inr k0=out∧∃kQ rB uP tI mu h0,s=⟨[kQ,rB,.int .i64 n0,uP,.any,tI,mu,.any],[],h0⟩∧Has h0 (L))∨(e = .ret∧∃r,.inl r=out∧b7.fin L r s)):=by
 refine hX (fun _=>rfl) ?_
 rintro k k0 s out ⟨h0,rfl,o0⟩ H
 have H:b7.l0 m l0 ep n0 bk (k+1) k0=some out:=H
 refine qq <| qq <| q0 <| qc H (fun c0 H=>?_) (fun c0 H=>?_)
 ·refine qk <| qq <| qb 1 <| qq ?_
  obtain⟨v0,e0,H⟩:=aJ H
  obtain⟨v1,e1,H⟩:=aJ H
  obtain⟨v2,e2,H⟩:=aJ H
  obtain⟨x0,e3,H⟩:=aJ H
  rcases dF H with⟨c1,H⟩| ⟨c1,H⟩
  ·obtain⟨v3,e4,H⟩:=aJ H
   obtain⟨v4,e5,H⟩:=aJ H
   obtain⟨v5,e6,H⟩:=aJ H
   obtain⟨x1,e7,H⟩:=aJ H
   refine qr [.v 2 (bD (k:=.i64) (E:=af) (l:=l0) lG e0),.v 3 (dE  (E:=af) (l:=l0) h0 sf sh e0),.v 7 (bD (k:=.i64) (E:=aa) (l:=ep) dA e1),.v 8 (dd  (E:=aa) (l:=ep) h0 A3 e1 rfl),.v 9 (bD (k:=.i64) (E:=af) (l:=l0) lG e2),.v 10 (dE  (E:=af) (l:=l0) h0 sf sh e2),.a 11 (nE _ _ _ e3 h0 _ (gf (ab (cg (ab (aH) (ab (aH) (ab (bJ) (ab (b4 (E:=aa)) (ax)))))) (ab (cg (ab (aH) (ab (aH) (ab (bJ) (ab (b4 (E:=aa)) (ax)))))) (ax))))),.b 12 c1,.v 15 (bD (k:=.i64) (E:=af) (l:=l0) lG e4),.v 16 (dE  (E:=af) (l:=l0) h0 sf sh e4),.v 20 (bD (k:=.i64) (E:=aa) (l:=ep) dA e5),.v 21 (dd  (E:=aa) (l:=ep) h0 A3 e5 rfl),.v 22 (bD (k:=.i64) (E:=af) (l:=l0) lG e6),.v 23 (dE  (E:=af) (l:=l0) h0 sf sh e6),.a 25 (mH _ _ _ _ e7 h0 _ (gf (ab (cg (ab (aH) (ab (aH) (ab (bJ) (ab (b4 (E:=aa)) (ax)))))) (ab (cg (ab (aH) (ab (aH) (ab (bJ) (ab (b4 (E:=aa)) (ax)))))) (ab (b4 (E:=aa)) (ax))))))] ?_
   refine qc H (fun c2 H=>?_) (fun c2 H=>?_)
   ·refine qq ?_
    obtain⟨v6,e8,H⟩:=aJ H
    exact qr [.v 2 (bD (k:=.i64) (E:=aa) (l:=ep) dA e8),.v 3 (dd  (E:=aa) (l:=ep) h0 A3 e8 rfl)] <| qt <| XZ (⟨rfl,_,oi H,ca (.int .i64 v6) h0 (b8 (dS))⟩)
   ·exact qk <| q0 <| ⟨i64.wrap (k0+(1:Int)),⟨h0,by kernel_rfl,o0⟩,H⟩
  ·exact qr [.v 2 (bD (k:=.i64) (E:=af) (l:=l0) lG e0),.v 3 (dE  (E:=af) (l:=l0) h0 sf sh e0),.v 7 (bD (k:=.i64) (E:=aa) (l:=ep) dA e1),.v 8 (dd  (E:=aa) (l:=ep) h0 A3 e1 rfl),.v 9 (bD (k:=.i64) (E:=af) (l:=l0) lG e2),.v 10 (dE  (E:=af) (l:=l0) h0 sf sh e2),.a 11 (nE _ _ _ e3 h0 _ (gf (ab (cg (ab (aH) (ab (aH) (ab (bJ) (ab (b4 (E:=aa)) (ax)))))) (ab (cg (ab (aH) (ab (aH) (ab (bJ) (ab (b4 (E:=aa)) (ax)))))) (ax))))),.b 12 c1] <| Ds <| qk <| q0 <| ⟨i64.wrap (k0+(1:Int)),⟨h0,by kernel_rfl,o0⟩,H⟩
 ·exact qx 0 <| Yf (⟨rfl,k0,oi H,af.fz l0,aa.fz ep,aa.fz bk,.int .i64 k0,.bool (decide (k0<(ep.length:Int))),h0,by kernel_rfl,o0⟩)
theorem rV {aS:FuncId→cd}(ha:aS 103=uh)(nE:DO cf m)(mH:A8 cf m)(l0:List ae)(ep:List Int)(n0:Int)(bk:List Int)(h:AHeap)(L:Mem)  (o:Has h (L)){out:Int}(H:b7.f m l0 ep n0 bk=some out) :
  ∃r h',aZ Tryd.prog aS cf m 103 [af.fz l0,aa.fz ep,.int .i64 n0,aa.fz bk] h=some (r,h')∧fA h' r (.int .i64 out):=by
 refine aj (fn:=Tryd.f103) ha Tryd.func103 (by kernel_rfl) (by kernel_rfl) ?_
 refine aD (Q:=fun s=>b7.fin L out s) (fun _ _ h=>h) ?_
 have H:_=some out:=H
 unfold b7.f at H
 show de _ cf uh m _ ⟨af.fz l0::aa.fz ep :: .int .i64 n0::aa.fz bk::oq [],[],h⟩ _
 refine q1 <| qq <| qq <| q0 <| qb 0 ?_
 obtain⟨bo,e9,H⟩:=aJ H
 refine ql (b7.bG L l0 ep n0 bk  nE mH (0:Int) _ _ ⟨h,by kernel_rfl,o⟩ e9) ?_
 rintro e s (⟨rfl,k1,rfl,g0,g1,g2,g3,g4,h1,rfl,o1⟩| ⟨rfl,r0,rfl,mw⟩)
 ·try dsimp only at H
  obtain rfl:=oi H
  exact q1 <| qt <| ⟨.inl rfl,ca (.int .i64 n0) h1 (b8 (dS))⟩
 ·try dsimp only at H
  obtain rfl:=oi H
  exact⟨.inl rfl,mw⟩
end
end Go.Proofs.YtmekcfdllhphlaaDoor
namespace Go.Proofs.YtmekcfdllhphlaaDoor
open Go Go.R
open Go.IntKind (i64 u64 u8 u32)
def mI:cd:=gh [0,2,3,4,5,6,7,8,9,10,11,12,13,14,15,22,27,42,56,67,73,95,109,120,127,148,177] [] [134217726,134217722,134217714,134217666,134217602,134184898,134217602,134217474,134151938,134217474,134086402,134217538,133955394,134217538,134217538,134217474,134217426,133693138,134217426,133168850,134217426,134217426,134216914,132119762,134216914,130022610,134216914,134216666,125829082,134216666,134214618,134214618,134210522,117433306,134210522,134202330,134202330,134185946,100631514,134185946,67077082,134185946,134210522,134216666,134217725] [] [(3,[(5,none,1),(6,none,1)]),(30,[(12,none,1)])]
def ah.l1 (m:Nat)(l0:List ae):Nat→(List Int)→(List Bool)→(List Int)→Bool→Int→Option ((List Int) × (List Bool) × (List Int) × Bool × Int)
 | 0,_,_,_,_,_=>none
 | k+1,cP,dk,da,kW,i0=>if (decide (i0≥(0:Int)))=true then ((ix dk i0).bind fun v0=>if v0=true then (ah.l1 m l0 k cP dk da kW (i64.wrap (i0 - (1:Int)))) else ((ix l0 i0).bind fun v1=>(bX.f m v1 dk).bind fun x2=>if (!x2)=true then (ah.l1 m l0 k cP dk da kW (i64.wrap (i0 - (1:Int)))) else ((b7.f m l0 da i0 cP).bind fun x3=>(ix cP i0).bind fun v2=>(ix (cP.set i0.toNat x3) i0).bind fun v3=>if (v3==i0)=true then ((app 8 da ([i0])).bind fun x4=>(ix dk i0).bind fun v4=>ah.l1 m l0 k (cP.set i0.toNat x3) (dk.set i0.toNat true) x4 true (i64.wrap (i0 - (1:Int)))) else ((ix dk i0).bind fun v5=>ah.l1 m l0 k (cP.set i0.toNat x3) (dk.set i0.toNat true) da true (i64.wrap (i0 - (1:Int))))))) else (some ((cP,dk,da,kW,i0)))
def ah.l0 (m:Nat)(l0:List ae):Nat→(List Int)→(List Bool)→(List Int)→Bool→Option ((List Int) × (List Bool) × (List Int) × Bool)
 | 0,_,_,_,_=>none
 | k+1,bk,dC,fQ,nF=>if nF=true then ((ah.l1 m l0 m bk dC fQ false (i64.wrap ((l0.length:Int) - (1:Int)))).bind fun bo=>match bo with | (Ba,Gw,xG,Gx,i1)=>ah.l0 m l0 k Ba Gw xG Gx) else (some ((bk,dC,fQ,nF)))
def ah.l3 (m:Nat)(l0:List ae)(i2:Int)(x5:List Int):Nat→(List Int)→Int→Option ((List Int) × Int)
 | 0,_,_=>none
 | k+1,cX,k0=>(ix cX i2).bind fun v8=>if (v8==i2)=true then ((ix x5 k0).bind fun v9=>if (decide (v9<i2))=true then ((ix l0 i2).bind fun v10=>(ix x5 k0).bind fun v11=>(ix l0 v11).bind fun v12=>(eY.f m v10 v12).bind fun x6=>if x6=true then ((ix x5 k0).bind fun H7=>(ix cX H7).bind fun zV=>(ix cX i2).bind fun ni=>ah.l3 m l0 i2 x5 k (cX.set i2.toNat zV) (i64.wrap (k0+(1:Int)))) else (ah.l3 m l0 i2 x5 k cX (i64.wrap (k0+(1:Int))))) else (some ((cX,k0)))) else (some ((cX,k0)))
def ah.l2 (m:Nat)(l0:List ae)(dR:List Bool):Nat→(List Int)→(List Int)→Int→Option ((List Int) × (List Int) × Int)
 | 0,_,_,_=>none
 | k+1,eH,jv,i2=>if (decide (i2<(l0.length:Int)))=true then ((ix dR i2).bind fun v6=>if v6=true then (ah.l2 m l0 dR k eH jv (i64.wrap (i2+(1:Int)))) else ((app 8 jv ([i2])).bind fun x5=>(ix eH i2).bind fun v7=>(ah.l3 m l0 i2 x5 m (eH.set i2.toNat i2) (0:Int)).bind fun jt=>match jt with | (Bb,k1)=>ah.l2 m l0 dR k Bb x5 (i64.wrap (i2+(1:Int))))) else (some ((eH,jv,i2)))
def ah.l6 (m:Nat)(l0:List ae)(bB:List Int)(aX:List Int)(j0:Int)(lS:Int):Nat→(List Int)→Int→Option ((List Int) × Int)
 | 0,_,_=>none
 | k+1,cO,k2=>(ix cO lS).bind fun Ta=>if (Ta==lS)=true then (if (decide (k2<j0))=true then ((ix aX lS).bind fun Tb=>(ix bB k2).bind fun v20=>(ix aX v20).bind fun v21=>if (Tb==v21)=true then ((ix l0 lS).bind fun Td=>(ix bB k2).bind fun Te=>(ix l0 Te).bind fun v24=>(bf.f m Td v24 aX).bind fun x8=>if x8=true then ((ix bB k2).bind fun Tf=>(ix cO Tf).bind fun LL=>(ix cO lS).bind fun Vh=>ah.l6 m l0 bB aX j0 lS k (cO.set lS.toNat LL) (i64.wrap (k2+(1:Int)))) else (ah.l6 m l0 bB aX j0 lS k cO (i64.wrap (k2+(1:Int))))) else (ah.l6 m l0 bB aX j0 lS k cO (i64.wrap (k2+(1:Int))))) else (some ((cO,k2)))) else (some ((cO,k2)))
def ah.l5 (m:Nat)(l0:List ae)(bB:List Int)(aX:List Int):Nat→Bool→(List Int)→Int→Option (Bool × (List Int) × Int)
 | 0,_,_,_=>none
 | k+1,jB,bQ,j0=>if (decide (j0<(bB.length:Int)))=true then ((ix bB j0).bind fun lS=>(ix bQ lS).bind fun LM=>(ah.l6 m l0 bB aX j0 lS m (bQ.set lS.toNat lS) (0:Int)).bind fun cN=>match cN with | (rm,k3)=>if jB=true then (ah.l5 m l0 bB aX k true rm (i64.wrap (j0+(1:Int)))) else ((ix rm lS).bind fun v28=>(ix aX lS).bind fun QU=>ah.l5 m l0 bB aX k (!(v28==QU)) rm (i64.wrap (j0+(1:Int))))) else (some ((jB,bQ,j0)))
def ah.l4 (m:Nat)(l0:List ae)(bB:List Int):Nat→(List Int)→Bool→Option ((List Int) × Bool)
 | 0,_,_=>none
 | k+1,aX,nG=>if nG=true then ((app 8 ([]:List Int) aX).bind fun x7=>(ah.l5 m l0 bB aX m false x7 (0:Int)).bind fun y4=>match y4 with | (Gy,zk,j1)=>ah.l4 m l0 bB k zk Gy) else (some ((aX,nG)))
def ah.f (m:Nat)(l0:List ae):Option ((List Int)):=(uM 8 (l0.length:Int) (0:Int)).bind fun x0=>(uM 1 (l0.length:Int) false).bind fun x1=>(ah.l0 m l0 m x0 x1 ([]:List Int) true).bind fun cD=>match cD with | (ui,dR,Iv,NF)=>(ah.l2 m l0 dR m ui ([]:List Int) (0:Int)).bind fun pf=>match pf with | (uj,bB,i3)=>(ah.l4 m l0 bB m uj true).bind fun gG=>match gG with | (qD,NG)=>some qD
def ah.fin (L:Mem)(r:(List Int))(s:St):Prop:=∃av,aI Tryd.prog (s.open mI) Tryd.f76.results.toList=some av∧fA s.h av (aa.fz r)
def Tg (cf:CallF)(m:Nat):Prop:=∀(l0:List ae) (r:(List Int)),ah.f m l0=some r→∀h xs,eA eQ h xs [af.fz l0]→cf 76 xs h=some (aa.fz r,h)
section
variable {cf:CallF}{m:Nat}
theorem ah.fW (L:Mem)(l0:List ae)  (zl:It cf m)(zm:Iu cf m):bI Tryd.prog cf mI m (sub [1,1,1,1,0,1,0,0,1,0,1,1,0,0] (codeOf Tryd.f76)) (fun k (σ:(List Int) × (List Bool) × (List Int) × Bool × Int)=>ah.l1 m l0 k σ.1 σ.2.1 σ.2.2.1 σ.2.2.2.1 σ.2.2.2.2) (fun σ s=>match σ with | (cP,dk,da,kW,i0)=>∃iB gX gW h3,s=⟨af.fz l0 :: .any :: .rs gW 0 cP.length 1 :: .rs gX 0 dk.length 1 :: .rs iB 0 da.length 1 :: .rs ((0)) 0 (([]:List Int).length) 1 :: .bool kW :: .int .i64 i0::Kk [],[],h3⟩∧Has h3 ((((0)),.sl (([]:List Int).length) 1 (aa.l ([]:List Int)))::(iB,.sl da.length 1 (aa.l da))::(gX,.sl dk.length 1 (cF.l dk))::(gW,.sl cP.length 1 (aa.l cP))::L)) (fun out e s=>(e = .exit 2∧∃cP dk da kW i0,(cP,dk,da,kW,i0)=out∧∃rG Gi iB gX gW h3,s=⟨af.fz l0 :: .any :: .rs gW 0 cP.length 1 :: .rs gX 0 dk.length 1 :: .rs iB 0 da.length 1 :: .rs ((0)) 0 (([]:List Int).length) 1 :: .bool kW::rG::se (Gi::wW []),[],h3⟩∧Has h3 ((((0)),.sl (([]:List Int).length) 1 (aa.l ([]:List Int)))::(iB,.sl da.length 1 (aa.l da))::(gX,.sl dk.length 1 (cF.l dk))::(gW,.sl cP.length 1 (aa.l cP))::L))):=by
 refine hX (fun _=>rfl) ?_
 rintro k ⟨cP,dk,da,kW,i0⟩ s out ⟨iB,gX,gW,h3,rfl,o5⟩ H
 have H:ah.l1 m l0 (k+1) cP dk da kW i0=some out:=H
 refine qq <| qq <| q0 <| qc H (fun c1 H=>?_) (fun c1 H=>?_)
 ·refine qk <| qq <| qb 3 <| qq <| qq ?_
  obtain⟨v0,e4,H⟩:=aJ H
  rcases dF H with⟨c2,H⟩| ⟨c2,H⟩
  ·exact qr [.v 2 (aG (k:=.i64) (E:=cF) (l:=dk) (q:=2) Hg o5 rfl e4),.v 3 (be  (E:=cF) (l:=dk) (q:=2) o5 rfl A4 e4 rfl),.b 4 c2] <| vC <| qx 3 <| q0 <| ⟨(cP,dk,da,kW,i64.wrap (i0 - (1:Int))),⟨iB,gX,gW,h3,by kernel_rfl,o5⟩,H⟩
  ·obtain⟨v1,e5,H⟩:=aJ H
   obtain⟨x2,e6,H⟩:=aJ H
   refine qr [.v 2 (aG (k:=.i64) (E:=cF) (l:=dk) (q:=2) Hg o5 rfl e4),.v 3 (be  (E:=cF) (l:=dk) (q:=2) o5 rfl A4 e4 rfl),.b 4 c2,.v 7 (bD (k:=.i64) (E:=af) (l:=l0) lG e5),.v 8 (dE  (E:=af) (l:=l0) h3 sf sh e5),.a 10 (zl _ _ _ e6 h3 _ (gf (ab (cg (ab (aH) (ab (aH) (ab (bJ) (ab (b4 (E:=aa)) (ax)))))) (ab (s8 (E:=cF) (l:=dk) (q:=2) o5 rfl (fun _=>rfl)) (ax)))))] <| qc H (fun c4 H=>?_) (fun c4 H=>?_)
   ·exact qx 3 <| q0 <| ⟨(cP,dk,da,kW,i64.wrap (i0 - (1:Int))),⟨iB,gX,gW,h3,by kernel_rfl,o5⟩,H⟩
   ·refine qk <| qq ?_
    obtain⟨x3,e7,H⟩:=aJ H
    obtain⟨v2,e8,H⟩:=aJ H
    obtain⟨h4,e9,o6⟩:=dK (P:=Tryd.prog) (tf:=3) (E:=aa) (l:=cP) (q:=3) (v:=x3) (x:=.int .i64 x3) o5 rfl Z3 e8 rfl rfl
    refine qr [.a 6 (zm _ _ _ _ _ e7 h3 _ (gf (ab (b4 (E:=af)) (ab (s8 (E:=aa) (l:=da) (q:=1) o5 rfl (fun _=>rfl)) (ab (aH) (ab (s8 (E:=aa) (l:=cP) (q:=3) o5 rfl (fun _=>rfl)) (ax))))))),.v 7 (aG (k:=.i64) (E:=aa) (l:=cP) (q:=3) dA o5 rfl e8),.w 8 e9] <| qq <| qq ?_
    obtain⟨v3,pe,H⟩:=aJ H
    refine qr [.v 2 (aG (k:=.i64) (E:=aa) (l:=(cP.set i0.toNat x3)) (q:=3) dA o6 rfl pe),.v 3 (be  (E:=aa) (l:=(cP.set i0.toNat x3)) (q:=3) o6 rfl A3 pe rfl)] <| qc H (fun c5 H=>?_) (fun c5 H=>?_)
    ·obtain⟨x4,sj,H⟩:=aJ H
     obtain⟨kT,h5,uA,o7⟩:=fY (P:=Tryd.prog) (E:=aa) (l:=da) (q:=1) (t2:=42) (x:=.fz [.int .i64 i0] 1 true) (l2:=([i0])) dA o6 rfl (by kernel_rfl) rfl sj
     refine qr [.a 3 uA] <| qq ?_
     obtain⟨v4,uB,H⟩:=aJ H
     obtain⟨h6,uS,o8⟩:=dK (P:=Tryd.prog) (tf:=4) (E:=cF) (l:=dk) (q:=2) (v:=true) (x:=.bool true) o7 rfl Z4 uB rfl rfl
     exact qr [.v 2 (aG (k:=.i64) (E:=cF) (l:=dk) (q:=2) Hg o7 rfl uB),.w 3 uS] <| q0 <| q0 <| ⟨(cP.set i0.toNat x3,dk.set i0.toNat true,x4,true,i64.wrap (i0 - (1:Int))),⟨kT,gX,gW,h6,(XN (b:=⟨af.fz l0 :: .any :: .rs gW 0 cP.length 1 :: .rs gX 0 dk.length 1 :: .rs kT 0 x4.length 1 :: .rs ((0)) 0 (([]:List Int).length) 1 :: .bool true :: .int .i64 (i64.wrap (i0 - (1:Int)))::Kk [],[],h6⟩) (by kernel_rfl) (by simp only [WY])),(by have o:Has h6 ((((0)),.sl (([]:List Int).length) 1 (aa.l ([]:List Int)))::(kT,.sl x4.length 1 (aa.l x4))::(gX,.sl dk.length 1 (cF.l (dk.set i0.toNat true)))::(gW,.sl cP.length 1 (aa.l (cP.set i0.toNat x3)))::L):=o8; simpa only [WY] using o)⟩,H⟩
    ·refine qk <| qq ?_
     obtain⟨v5,uC,H⟩:=aJ H
     obtain⟨h7,xP,o9⟩:=dK (P:=Tryd.prog) (tf:=4) (E:=cF) (l:=dk) (q:=2) (v:=true) (x:=.bool true) o6 rfl Z4 uC rfl rfl
     exact qr [.v 2 (aG (k:=.i64) (E:=cF) (l:=dk) (q:=2) Hg o6 rfl uC),.w 3 xP] <| q0 <| q0 <| ⟨(cP.set i0.toNat x3,dk.set i0.toNat true,da,true,i64.wrap (i0 - (1:Int))),⟨iB,gX,gW,h7,(XN (b:=⟨af.fz l0 :: .any :: .rs gW 0 cP.length 1 :: .rs gX 0 dk.length 1 :: .rs iB 0 da.length 1 :: .rs ((0)) 0 (([]:List Int).length) 1 :: .bool true :: .int .i64 (i64.wrap (i0 - (1:Int)))::Kk [],[],h7⟩) (by kernel_rfl) (by simp only [WY])),(by have o:Has h7 ((((0)),.sl (([]:List Int).length) 1 (aa.l ([]:List Int)))::(iB,.sl da.length 1 (aa.l da))::(gX,.sl dk.length 1 (cF.l (dk.set i0.toNat true)))::(gW,.sl cP.length 1 (aa.l (cP.set i0.toNat x3)))::L):=o9; simpa only [WY] using o)⟩,H⟩
 ·exact qx 2 <| ⟨rfl,cP,dk,da,kW,i0,oi H,.int .i64 i0,.bool (decide (i0≥(0:Int))),iB,gX,gW,h3,by kernel_rfl,o5⟩
theorem ah.bG (L:Mem)(l0:List ae)  (zl:It cf m)(zm:Iu cf m):bI Tryd.prog cf mI m (sub [1,1,1,1,0,1,0,0] (codeOf Tryd.f76)) (fun k (σ:(List Int) × (List Bool) × (List Int) × Bool)=>ah.l0 m l0 k σ.1 σ.2.1 σ.2.2.1 σ.2.2.2) (fun σ s=>match σ with | (bk,dC,fQ,nF)=>∃g0 g1 gZ fy di h2,s=⟨af.fz l0 :: .any :: .rs di 0 bk.length 1 :: .rs fy 0 dC.length 1 :: .rs gZ 0 fQ.length 1 :: .rs ((0)) 0 (([]:List Int).length) 1 :: .bool nF::g0::se (g1::wW []),[],h2⟩∧Has h2 ((((0)),.sl (([]:List Int).length) 1 (aa.l ([]:List Int)))::(gZ,.sl fQ.length 1 (aa.l fQ))::(fy,.sl dC.length 1 (cF.l dC))::(di,.sl bk.length 1 (aa.l bk))::L)) (fun out e s=>(e = .exit 0∧∃bk dC fQ nF,(bk,dC,fQ,nF)=out∧∃y5 w7 rG AH Gi gZ fy di h2,s=⟨af.fz l0 :: .any :: .rs di 0 bk.length 1 :: .rs fy 0 dC.length 1::y5 :: .rs ((0)) 0 (([]:List Int).length) 1::w7::rG::Dm (AH::Gi::wW []),[],h2⟩∧Has h2 ((((0)),.sl (([]:List Int).length) 1 (aa.l ([]:List Int)))::(gZ,.sl fQ.length 1 (aa.l fQ))::(fy,.sl dC.length 1 (cF.l dC))::(di,.sl bk.length 1 (aa.l bk))::L))):=by
 refine hX (fun _=>rfl) ?_
 rintro k ⟨bk,dC,fQ,nF⟩ s out ⟨g0,g1,gZ,fy,di,h2,rfl,o4⟩ H
 have H:ah.l0 m l0 (k+1) bk dC fQ nF=some out:=H
 refine qq <| qq <| q0 <| qc H (fun c0 H=>?_) (fun c0 H=>?_)
 ·refine qk <| qb 1 <| qq <| q0 <| qq <| q0 <| qb 2 ?_
  obtain⟨bo,xd,H⟩:=aJ H
  refine ql (ah.fW L l0  zl zm (bk,dC,fQ,false,i64.wrap ((l0.length:Int) - (1:Int))) _ _ ⟨gZ,fy,di,h2,by kernel_rfl,o4⟩ xd) ?_
  rintro e s ⟨rfl,Ba,Gw,xG,Gx,i1,rfl,g2,g3,xQ,eT,nY,h8,rfl,uQ⟩
  try dsimp only at H
  exact⟨(Ba,Gw,xG,Gx),⟨g2,g3,xQ,eT,nY,h8,by kernel_rfl,uQ⟩,H⟩
 ·exact qx 0 <| ⟨rfl,bk,dC,fQ,nF,oi H,.rs gZ 0 fQ.length 1,.any,.any,.bool nF,.any,gZ,fy,di,h2,by kernel_rfl,o4⟩
theorem ah.tN (L:Mem)(l0:List ae)(gY:Nat)(dR:List Bool)(gY:Nat)(i2:Int)(x5:List Int)(qE:Nat)  (nE:DO cf m):bI Tryd.prog cf mI m (sub [1,1,1,1,1,0,1,0,0,1,0,0,1,1,1,1,0,0] (codeOf Tryd.f76)) (fun k (σ:(List Int) × Int)=>ah.l3 m l0 i2 x5 k σ.1 σ.2) (fun σ s=>match σ with | (cX,k0)=>∃qF h13,s=⟨af.fz l0 :: .any :: .rs qF 0 cX.length 1 :: .rs gY 0 dR.length 1 :: .any :: .rs qE 0 x5.length 1 :: .any :: .any :: .int .i64 i2 :: .int .i64 k0::E9 [],[],h13⟩∧Has h13 ((qE,.sl x5.length 1 (aa.l x5))::(gY,.sl dR.length 1 (cF.l dR))::(qF,.sl cX.length 1 (aa.l cX))::L)) (fun out e s=>(e = .exit 6∧∃cX k0,(cX,k0)=out∧∃tz QV qF h13,s=⟨af.fz l0 :: .any :: .rs qF 0 cX.length 1 :: .rs gY 0 dR.length 1 :: .any :: .rs qE 0 x5.length 1 :: .any :: .any :: .int .i64 i2::tz::oY (QV::tl []),[],h13⟩∧Has h13 ((qE,.sl x5.length 1 (aa.l x5))::(gY,.sl dR.length 1 (cF.l dR))::(qF,.sl cX.length 1 (aa.l cX))::L))):=by
 refine hX (fun _=>rfl) ?_
 rintro k ⟨cX,k0⟩ s out ⟨qF,h13,rfl,lR⟩ H
 have H:ah.l3 m l0 i2 x5 (k+1) cX k0=some out:=H
 refine qq <| qq ?_
 obtain⟨v8,D5,H⟩:=aJ H
 rcases dF H with⟨c8,H⟩| ⟨c8,H⟩
 ·obtain⟨v9,FA,H⟩:=aJ H
  refine qr [.v 2 (aG (k:=.i64) (E:=aa) (l:=cX) (q:=2) dA lR rfl D5),.v 3 (be  (E:=aa) (l:=cX) (q:=2) lR rfl A3 D5 rfl),.b 6 c8,.v 9 (aG (k:=.i64) (E:=aa) (l:=x5) (q:=0) dA lR rfl FA),.v 10 (be  (E:=aa) (l:=x5) (q:=0) lR rfl A3 FA rfl)] <| qc H (fun c9 H=>?_) (fun c9 H=>?_)
  ·refine qk <| qq <| qb 7 <| qq ?_
   obtain⟨v10,FE,H⟩:=aJ H
   obtain⟨v11,Hh,H⟩:=aJ H
   obtain⟨v12,FC,H⟩:=aJ H
   obtain⟨x6,FD,H⟩:=aJ H
   refine qr [.v 2 (bD (k:=.i64) (E:=af) (l:=l0) lG FE),.v 3 (dE  (E:=af) (l:=l0) h13 sf sh FE),.v 7 (aG (k:=.i64) (E:=aa) (l:=x5) (q:=0) dA lR rfl Hh),.v 8 (be  (E:=aa) (l:=x5) (q:=0) lR rfl A3 Hh rfl),.v 9 (bD (k:=.i64) (E:=af) (l:=l0) lG FC),.v 10 (dE  (E:=af) (l:=l0) h13 sf sh FC),.a 11 (nE _ _ _ FD h13 _ (gf (ab (cg (ab (aH) (ab (aH) (ab (bJ) (ab (b4 (E:=aa)) (ax)))))) (ab (cg (ab (aH) (ab (aH) (ab (bJ) (ab (b4 (E:=aa)) (ax)))))) (ax)))))] <| qc H (fun w6 H=>?_) (fun w6 H=>?_)
   ·obtain⟨H7,FB,H⟩:=aJ H
    obtain⟨zV,H8,H⟩:=aJ H
    obtain⟨ni,KF,H⟩:=aJ H
    obtain⟨h14,Hj,AI⟩:=dK (P:=Tryd.prog) (tf:=3) (E:=aa) (l:=cX) (q:=2) (v:=zV) (x:=.int .i64 zV) lR rfl Z3 KF rfl rfl
    exact qr [.v 5 (aG (k:=.i64) (E:=aa) (l:=x5) (q:=0) dA lR rfl FB),.v 6 (be  (E:=aa) (l:=x5) (q:=0) lR rfl A3 FB rfl),.v 7 (aG (k:=.i64) (E:=aa) (l:=cX) (q:=2) dA lR rfl H8),.v 8 (be  (E:=aa) (l:=cX) (q:=2) lR rfl A3 H8 rfl),.v 9 (aG (k:=.i64) (E:=aa) (l:=cX) (q:=2) dA lR rfl KF),.w 10 Hj] <| q0 <| ⟨(cX.set i2.toNat zV,i64.wrap (k0+(1:Int))),⟨qF,h14,(XN (b:=⟨af.fz l0 :: .any :: .rs qF 0 cX.length 1 :: .rs gY 0 dR.length 1 :: .any :: .rs qE 0 x5.length 1 :: .any :: .any :: .int .i64 i2 :: .int .i64 (i64.wrap (k0+(1:Int)))::E9 [],[],h14⟩) (by kernel_rfl) (by simp only [WY])),(by have o:Has h14 ((qE,.sl x5.length 1 (aa.l x5))::(gY,.sl dR.length 1 (cF.l dR))::(qF,.sl cX.length 1 (aa.l (cX.set i2.toNat zV)))::L):=AI; simpa only [WY] using o)⟩,H⟩
   ·exact qk <| q0 <| ⟨(cX,i64.wrap (k0+(1:Int))),⟨qF,h13,by kernel_rfl,lR⟩,H⟩
  ·exact qx 6 <| ⟨rfl,cX,k0,oi H,.int .i64 k0,.bool (decide (v9<i2)),qF,h13,by kernel_rfl,lR⟩
 ·exact qr [.v 2 (aG (k:=.i64) (E:=aa) (l:=cX) (q:=2) dA lR rfl D5),.v 3 (be  (E:=aa) (l:=cX) (q:=2) lR rfl A3 D5 rfl),.b 6 c8] <| Ds <| qx 6 <| ⟨rfl,cX,k0,oi H,.int .i64 k0,.bool false,qF,h13,by kernel_rfl,lR⟩
theorem ah.ph (L:Mem)(l0:List ae)(gY:Nat)(dR:List Bool)(gY:Nat)  (nE:DO cf m):bI Tryd.prog cf mI m (sub [1,1,1,1,1,0,1,0,0] (codeOf Tryd.f76)) (fun k (σ:(List Int) × (List Int) × Int)=>ah.l2 m l0 dR k σ.1 σ.2.1 σ.2.2) (fun σ s=>match σ with | (eH,jv,i2)=>∃lP iA h10,s=⟨af.fz l0 :: .any :: .rs iA 0 eH.length 1 :: .rs gY 0 dR.length 1 :: .any :: .rs lP 0 jv.length 1 :: .any :: .any :: .int .i64 i2::MF [],[],h10⟩∧Has h10 ((lP,.sl jv.length 1 (aa.l jv))::(gY,.sl dR.length 1 (cF.l dR))::(iA,.sl eH.length 1 (aa.l eH))::L)) (fun out e s=>(e = .exit 4∧∃eH jv i2,(eH,jv,i2)=out∧∃DC tI QX lP iA h10,s=⟨af.fz l0 :: .any :: .rs iA 0 eH.length 1::DC :: .any :: .rs lP 0 jv.length 1 :: .any :: .any::tI::wW (QX::Dm []),[],h10⟩∧Has h10 ((lP,.sl jv.length 1 (aa.l jv))::(gY,.sl dR.length 1 (cF.l dR))::(iA,.sl eH.length 1 (aa.l eH))::L))):=by
 refine hX (fun _=>rfl) ?_
 rintro k ⟨eH,jv,i2⟩ s out ⟨lP,iA,h10,rfl,lM⟩ H
 have H:ah.l2 m l0 dR (k+1) eH jv i2=some out:=H
 refine qq <| qq <| q0 <| qc H (fun c6 H=>?_) (fun c6 H=>?_)
 ·refine qk <| qq <| qb 5 <| qq <| qq ?_
  obtain⟨v6,xe,H⟩:=aJ H
  refine qr [.v 2 (aG (k:=.i64) (E:=cF) (l:=dR) (q:=1) Hg lM rfl xe),.v 3 (be  (E:=cF) (l:=dR) (q:=1) lM rfl A4 xe rfl)] <| qc H (fun c7 H=>?_) (fun c7 H=>?_)
  ·exact qx 5 <| q0 <| ⟨(eH,jv,i64.wrap (i2+(1:Int))),⟨lP,iA,h10,by kernel_rfl,lM⟩,H⟩
  ·refine qk <| qq ?_
   obtain⟨x5,B2,H⟩:=aJ H
   obtain⟨qE,h11,D6,yP⟩:=fY (P:=Tryd.prog) (E:=aa) (l:=jv) (q:=0) (t2:=42) (x:=.fz [.int .i64 i2] 1 true) (l2:=([i2])) dA lM rfl (by kernel_rfl) rfl B2
   refine qr [.a 3 D6] <| qq ?_
   obtain⟨v7,D4,H⟩:=aJ H
   obtain⟨h12,Fz,zU⟩:=dK (P:=Tryd.prog) (tf:=3) (E:=aa) (l:=eH) (q:=2) (v:=i2) (x:=.int .i64 i2) yP rfl Z3 D4 rfl rfl
   refine qr [.v 3 (aG (k:=.i64) (E:=aa) (l:=eH) (q:=2) dA yP rfl D4),.w 4 Fz] <| qq <| q0 <| qb 6 ?_
   obtain⟨jt,LF,H⟩:=aJ H
   refine ql (ah.tN L l0 gY dR gY i2 x5 qE  nE (eH.set i2.toNat i2,(0:Int)) _ _ ⟨iA,h12,(XN (b:=⟨af.fz l0 :: .any :: .rs iA 0 eH.length 1 :: .rs gY 0 dR.length 1 :: .any :: .rs qE 0 x5.length 1 :: .any :: .any :: .int .i64 i2 :: .int .i64 (0:Int)::E9 [],[],h12⟩) (by kernel_rfl) (by simp only [WY])),(by have o:Has h12 ((qE,.sl x5.length 1 (aa.l x5))::(gY,.sl dR.length 1 (cF.l dR))::(iA,.sl eH.length 1 (aa.l (eH.set i2.toNat i2)))::L):=zU; simpa only [WY] using o)⟩ LF) ?_
   rintro e s ⟨rfl,Bb,k1,rfl,g9,g10,KV,h15,rfl,DD⟩
   try dsimp only at H
   exact q0 <| ⟨(Bb,x5,i64.wrap (i2+(1:Int))),⟨qE,KV,h15,by kernel_rfl,DD⟩,H⟩
 ·exact qx 4 <| ⟨rfl,eH,jv,i2,oi H,.rs gY 0 dR.length 1,.int .i64 i2,.bool (decide (i2<(l0.length:Int))),lP,iA,h10,by kernel_rfl,lM⟩
theorem ah.Gz (L:Mem)(l0:List ae)(ia:Nat)(bB:List Int)(ia:Nat)(iO:Nat)(aX:List Int)(iO:Nat)(jB:Bool)(j0:Int)(lS:Int)  (mH:A8 cf m):bI Tryd.prog cf mI m (sub [1,1,1,1,1,1,0,1,0,0,1,0,1,1,1,0,1,0,0,1,0,0,1,1,0,1,0,0] (codeOf Tryd.f76)) (fun k (σ:(List Int) × Int)=>ah.l6 m l0 bB aX j0 lS k σ.1 σ.2) (fun σ s=>match σ with | (cO,k2)=>∃qG h21,s=⟨af.fz l0 :: .any :: .rs iO 0 aX.length 1 :: .any :: .any :: .rs ia 0 bB.length 1::oq (.bool jB :: .rs qG 0 cO.length 1 :: .int .i64 j0 :: .int .i64 lS :: .int .i64 k2::mX []),[],h21⟩∧Has h21 ((qG,.sl cO.length 1 (aa.l cO))::(ia,.sl bB.length 1 (aa.l bB))::(iO,.sl aX.length 1 (aa.l aX))::L)) (fun out e s=>(e = .exit 12∧∃cO k2,(cO,k2)=out∧∃qu NH qG h21,s=⟨af.fz l0 :: .any :: .rs iO 0 aX.length 1 :: .any :: .any :: .rs ia 0 bB.length 1::oq (.bool jB :: .rs qG 0 cO.length 1 :: .int .i64 j0 :: .int .i64 lS::qu::wW [NH,.any]),[],h21⟩∧Has h21 ((qG,.sl cO.length 1 (aa.l cO))::(ia,.sl bB.length 1 (aa.l bB))::(iO,.sl aX.length 1 (aa.l aX))::L))):=by
 refine hX (fun _=>rfl) ?_
 rintro k ⟨cO,k2⟩ s out ⟨qG,h21,rfl,nc⟩ H
 have H:ah.l6 m l0 bB aX j0 lS (k+1) cO k2=some out:=H
 refine qq <| qq ?_
 obtain⟨Ta,Ib,H⟩:=aJ H
 rcases dF H with⟨rF,H⟩| ⟨rF,H⟩
 ·refine qr [.v 2 (aG (k:=.i64) (E:=aa) (l:=cO) (q:=0) dA nc rfl Ib),.v 3 (be  (E:=aa) (l:=cO) (q:=0) nc rfl A3 Ib rfl),.b 6 rF] <| qc H (fun BX H=>?_) (fun BX H=>?_)
  ·refine qk <| qq <| qb 13 <| qq ?_
   obtain⟨Tb,Ja,H⟩:=aJ H
   obtain⟨v20,Jb,H⟩:=aJ H
   obtain⟨v21,LI,H⟩:=aJ H
   rcases dF H with⟨D3,H⟩| ⟨D3,H⟩
   ·obtain⟨Td,Th,H⟩:=aJ H
    obtain⟨Te,Tk,H⟩:=aJ H
    obtain⟨v24,Tm,H⟩:=aJ H
    obtain⟨x8,Vi,H⟩:=aJ H
    refine qr [.v 2 (aG (k:=.i64) (E:=aa) (l:=aX) (q:=2) dA nc rfl Ja),.v 3 (be  (E:=aa) (l:=aX) (q:=2) nc rfl A3 Ja rfl),.v 7 (aG (k:=.i64) (E:=aa) (l:=bB) (q:=1) dA nc rfl Jb),.v 8 (be  (E:=aa) (l:=bB) (q:=1) nc rfl A3 Jb rfl),.v 9 (aG (k:=.i64) (E:=aa) (l:=aX) (q:=2) dA nc rfl LI),.v 10 (be  (E:=aa) (l:=aX) (q:=2) nc rfl A3 LI rfl),.b 12 D3,.v 15 (bD (k:=.i64) (E:=af) (l:=l0) lG Th),.v 16 (dE  (E:=af) (l:=l0) h21 sf sh Th),.v 20 (aG (k:=.i64) (E:=aa) (l:=bB) (q:=1) dA nc rfl Tk),.v 21 (be  (E:=aa) (l:=bB) (q:=1) nc rfl A3 Tk rfl),.v 22 (bD (k:=.i64) (E:=af) (l:=l0) lG Tm),.v 23 (dE  (E:=af) (l:=l0) h21 sf sh Tm),.a 25 (mH _ _ _ _ Vi h21 _ (gf (ab (cg (ab (aH) (ab (aH) (ab (bJ) (ab (b4 (E:=aa)) (ax)))))) (ab (cg (ab (aH) (ab (aH) (ab (bJ) (ab (b4 (E:=aa)) (ax)))))) (ab (s8 (E:=aa) (l:=aX) (q:=2) nc rfl (fun _=>rfl)) (ax))))))] ?_
    refine qc H (fun Dv H=>?_) (fun Dv H=>?_)
    ·obtain⟨Tf,To,H⟩:=aJ H
     obtain⟨LL,Tp,H⟩:=aJ H
     obtain⟨Vh,Tq,H⟩:=aJ H
     obtain⟨h22,Vj,Jc⟩:=dK (P:=Tryd.prog) (tf:=3) (E:=aa) (l:=cO) (q:=0) (v:=LL) (x:=.int .i64 LL) nc rfl Z3 Tq rfl rfl
     exact qr [.v 5 (aG (k:=.i64) (E:=aa) (l:=bB) (q:=1) dA nc rfl To),.v 6 (be  (E:=aa) (l:=bB) (q:=1) nc rfl A3 To rfl),.v 7 (aG (k:=.i64) (E:=aa) (l:=cO) (q:=0) dA nc rfl Tp),.v 8 (be  (E:=aa) (l:=cO) (q:=0) nc rfl A3 Tp rfl),.v 9 (aG (k:=.i64) (E:=aa) (l:=cO) (q:=0) dA nc rfl Tq),.w 10 Vj] <| q0 <| ⟨(cO.set lS.toNat LL,i64.wrap (k2+(1:Int))),⟨qG,h22,(XN (b:=⟨af.fz l0 :: .any :: .rs iO 0 aX.length 1 :: .any :: .any :: .rs ia 0 bB.length 1::oq (.bool jB :: .rs qG 0 cO.length 1 :: .int .i64 j0 :: .int .i64 lS :: .int .i64 (i64.wrap (k2+(1:Int)))::mX []),[],h22⟩) (by kernel_rfl) (by simp only [WY])),(by have o:Has h22 ((qG,.sl cO.length 1 (aa.l (cO.set lS.toNat LL)))::(ia,.sl bB.length 1 (aa.l bB))::(iO,.sl aX.length 1 (aa.l aX))::L):=Jc; simpa only [WY] using o)⟩,H⟩
    ·exact qk <| q0 <| ⟨(cO,i64.wrap (k2+(1:Int))),⟨qG,h21,by kernel_rfl,nc⟩,H⟩
   ·exact qr [.v 2 (aG (k:=.i64) (E:=aa) (l:=aX) (q:=2) dA nc rfl Ja),.v 3 (be  (E:=aa) (l:=aX) (q:=2) nc rfl A3 Ja rfl),.v 7 (aG (k:=.i64) (E:=aa) (l:=bB) (q:=1) dA nc rfl Jb),.v 8 (be  (E:=aa) (l:=bB) (q:=1) nc rfl A3 Jb rfl),.v 9 (aG (k:=.i64) (E:=aa) (l:=aX) (q:=2) dA nc rfl LI),.v 10 (be  (E:=aa) (l:=aX) (q:=2) nc rfl A3 LI rfl),.b 12 D3] <| Ds <| qk <| q0 <| ⟨(cO,i64.wrap (k2+(1:Int))),⟨qG,h21,by kernel_rfl,nc⟩,H⟩
  ·exact qx 12 <| ⟨rfl,cO,k2,oi H,.int .i64 k2,.bool (decide (k2<j0)),qG,h21,by kernel_rfl,nc⟩
 ·exact qr [.v 2 (aG (k:=.i64) (E:=aa) (l:=cO) (q:=0) dA nc rfl Ib),.v 3 (be  (E:=aa) (l:=cO) (q:=0) nc rfl A3 Ib rfl),.b 6 rF] <| Ds <| qx 12 <| ⟨rfl,cO,k2,oi H,.int .i64 k2,.bool false,qG,h21,by kernel_rfl,nc⟩
theorem ah.GA (L:Mem)(l0:List ae)(ia:Nat)(bB:List Int)(ia:Nat)(iO:Nat)(aX:List Int)(iO:Nat)  (mH:A8 cf m):bI Tryd.prog cf mI m (sub [1,1,1,1,1,1,0,1,0,0,1,0,1,1,1,0,1,0,0] (codeOf Tryd.f76)) (fun k (σ:Bool × (List Int) × Int)=>ah.l5 m l0 bB aX k σ.1 σ.2.1 σ.2.2) (fun σ s=>match σ with | (jB,bQ,j0)=>∃uV h19,s=⟨af.fz l0 :: .any :: .rs iO 0 aX.length 1 :: .any :: .any :: .rs ia 0 bB.length 1::oq (.bool jB :: .rs uV 0 bQ.length 1 :: .int .i64 j0::rA []),[],h19⟩∧Has h19 ((uV,.sl bQ.length 1 (aa.l bQ))::(ia,.sl bB.length 1 (aa.l bB))::(iO,.sl aX.length 1 (aa.l aX))::L)) (fun out e s=>(e = .exit 10∧∃jB bQ j0,(jB,bQ,j0)=out∧∃uP mu NI uV h19,s=⟨af.fz l0 :: .any::uP :: .any :: .any :: .rs ia 0 bB.length 1::oq (.bool jB :: .rs uV 0 bQ.length 1::mu::oY [NI,.any,.any]),[],h19⟩∧Has h19 ((uV,.sl bQ.length 1 (aa.l bQ))::(ia,.sl bB.length 1 (aa.l bB))::(iO,.sl aX.length 1 (aa.l aX))::L))):=by
 refine hX (fun _=>rfl) ?_
 rintro k ⟨jB,bQ,j0⟩ s out ⟨uV,h19,rfl,Ia⟩ H
 have H:ah.l5 m l0 bB aX (k+1) jB bQ j0=some out:=H
 refine qq <| qq <| q0 <| qc H (fun tD H=>?_) (fun tD H=>?_)
 ·refine qk <| qq <| qb 11 <| qq ?_
  obtain⟨lS,KH,H⟩:=aJ H
  refine qr [.v 2 (aG (k:=.i64) (E:=aa) (l:=bB) (q:=1) dA Ia rfl KH),.v 3 (be  (E:=aa) (l:=bB) (q:=1) Ia rfl A3 KH rfl)] <| qq ?_
  obtain⟨LM,LH,H⟩:=aJ H
  obtain⟨h20,Nn,No⟩:=dK (P:=Tryd.prog) (tf:=3) (E:=aa) (l:=bQ) (q:=0) (v:=lS) (x:=.int .i64 lS) Ia rfl Z3 LH rfl rfl
  refine qr [.v 3 (aG (k:=.i64) (E:=aa) (l:=bQ) (q:=0) dA Ia rfl LH),.w 4 Nn] <| qq <| qq <| q0 <| qb 12 ?_
  obtain⟨cN,Vk,H⟩:=aJ H
  refine ql (ah.Gz L l0 ia bB ia iO aX iO jB j0 lS  mH (bQ.set lS.toNat lS,(0:Int)) _ _ ⟨uV,h20,(XN (b:=⟨af.fz l0 :: .any :: .rs iO 0 aX.length 1 :: .any :: .any :: .rs ia 0 bB.length 1::oq (.bool jB :: .rs uV 0 bQ.length 1 :: .int .i64 j0 :: .int .i64 lS :: .int .i64 (0:Int)::mX []),[],h20⟩) (by kernel_rfl) (by simp only [WY])),(by have o:Has h20 ((uV,.sl bQ.length 1 (aa.l (bQ.set lS.toNat lS)))::(ia,.sl bB.length 1 (aa.l bB))::(iO,.sl aX.length 1 (aa.l aX))::L):=No; simpa only [WY] using o)⟩ Vk) ?_
  rintro e s ⟨rfl,rm,k3,rfl,g14,g15,NJ,h23,rfl,Hk⟩
  try dsimp only at H
  rcases dF H with⟨Jl,H⟩| ⟨Jl,H⟩
  ·exact qr [.b 1 Jl] <| q0 <| ⟨(true,rm,i64.wrap (j0+(1:Int))),⟨NJ,h23,by kernel_rfl,Hk⟩,H⟩
  ·obtain⟨v28,Ts,H⟩:=aJ H
   obtain⟨QU,Tt,H⟩:=aJ H
   exact qr [.b 1 Jl,.v 4 (aG (k:=.i64) (E:=aa) (l:=rm) (q:=0) dA Hk rfl Ts),.v 5 (be  (E:=aa) (l:=rm) (q:=0) Hk rfl A3 Ts rfl),.v 8 (aG (k:=.i64) (E:=aa) (l:=aX) (q:=2) dA Hk rfl Tt),.v 9 (be  (E:=aa) (l:=aX) (q:=2) Hk rfl A3 Tt rfl)] <| q0 <| ⟨(!(v28==QU),rm,i64.wrap (j0+(1:Int))),⟨NJ,h23,by kernel_rfl,Hk⟩,H⟩
 ·exact qx 10 <| ⟨rfl,jB,bQ,j0,oi H,.rs iO 0 aX.length 1,.int .i64 j0,.bool (decide (j0<(bB.length:Int))),uV,h19,by kernel_rfl,Ia⟩
theorem ah.tO (L:Mem)(l0:List ae)(ia:Nat)(bB:List Int)(ia:Nat)  (mH:A8 cf m):bI Tryd.prog cf mI m (sub [1,1,1,1,1,1,0,1,0,0] (codeOf Tryd.f76)) (fun k (σ:(List Int) × Bool)=>ah.l4 m l0 bB k σ.1 σ.2) (fun σ s=>match σ with | (aX,nG)=>∃iO h17,s=⟨af.fz l0 :: .any :: .rs iO 0 aX.length 1 :: .any :: .any :: .rs ia 0 bB.length 1::oq (.bool nG::E8 []),[],h17⟩∧Has h17 ((ia,.sl bB.length 1 (aa.l bB))::(iO,.sl aX.length 1 (aa.l aX))::L)) (fun out e s=>(e = .exit 8∧∃aX nG,(aX,nG)=out∧∃kQ DF Fl GB iO h17,s=⟨kQ :: .any :: .rs iO 0 aX.length 1 :: .any :: .any::DF::oq (Fl::mX (GB::kz [])),[],h17⟩∧Has h17 ((ia,.sl bB.length 1 (aa.l bB))::(iO,.sl aX.length 1 (aa.l aX))::L))):=by
 refine hX (fun _=>rfl) ?_
 rintro k ⟨aX,nG⟩ s out ⟨iO,h17,rfl,xk⟩ H
 have H:ah.l4 m l0 bB (k+1) aX nG=some out:=H
 refine qq <| qq <| q0 <| qc H (fun rE H=>?_) (fun rE H=>?_)
 ·refine qk <| qb 9 <| qq <| q0 <| qq <| q0 ?_
  have FT:Has h17 (((((0))),.sl (([]:List Int).length) 1 (aa.l ([]:List Int)))::(ia,.sl bB.length 1 (aa.l bB))::(iO,.sl aX.length 1 (aa.l aX))::L):=Has.nil xk 1
  refine qq ?_
  obtain⟨x7,Nk,H⟩:=aJ H
  obtain⟨QY,h18,Nl,D7⟩:=fY (P:=Tryd.prog) (E:=aa) (l:=([]:List Int)) (q:=0) (t2:=42) (x:=.rs iO 0 aX.length 1) (l2:=aX) dA FT rfl (Dj (E:=aa) (l:=aX) (q:=2) FT rfl) rfl Nk
  refine qr [.a 2 Nl] <| qq <| qq <| q0 <| qb 10 ?_
  obtain⟨y4,Vl,H⟩:=aJ H
  refine ql (ah.GA L l0 ia bB ia iO aX iO  mH (false,x7,(0:Int)) _ _ ⟨QY,h18,by kernel_rfl,D7⟩ Vl) ?_
  rintro e s ⟨rfl,Gy,zk,j1,rfl,g16,g17,g18,NK,h24,rfl,Np⟩
  try dsimp only at H
  refine q0 ?_
  have Nq:Has h24 ((NK,.sl zk.length 1 (aa.l zk))::(ia,.sl bB.length 1 (aa.l bB))::L):=Has.del Np 2
  exact⟨(zk,Gy),⟨NK,h24,by kernel_rfl,(Has.front (Has.front Nq 0 rfl) 1 rfl)⟩,H⟩
 ·exact qx 8 <| ⟨rfl,aX,nG,oi H,af.fz l0,.rs ia 0 bB.length 1,.any,.bool nG,iO,h17,by kernel_rfl,xk⟩
theorem oa {aS:FuncId→cd}(ha:aS 76=mI)(zl:It cf m)(zm:Iu cf m)(nE:DO cf m)(mH:A8 cf m)(l0:List ae)(h:AHeap)(L:Mem)  (o:Has h (L)){out:(List Int)}(H:ah.f m l0=some out) :
  ∃r h',aZ Tryd.prog aS cf m 76 [af.fz l0] h=some (r,h')∧fA h' r (aa.fz out):=by
 refine aj (fn:=Tryd.f76) ha Tryd.func76 (by kernel_rfl) (by kernel_rfl) ?_
 refine aD (Q:=fun s=>ah.fin L out s) (fun _ _ h=>h) ?_
 have H:_=some out:=H
 unfold ah.f at H
 show de _ cf mI m _ ⟨af.fz l0::PD [],[],h⟩ _
 refine q1 <| qq ?_
 obtain⟨x0,e0,H⟩:=aJ H
 obtain⟨aA,h0,e1,o0⟩:=nS (P:=Tryd.prog) (E:=aa) (z:=(0:Int)) (zv:=.int .i64 (0:Int)) dA o 3 rfl rfl rfl rfl e0
 refine qr [.a 2 e1] <| qq ?_
 obtain⟨x1,e2,H⟩:=aJ H
 obtain⟨gH,h1,e3,o1⟩:=nS (P:=Tryd.prog) (E:=cF) (z:=false) (zv:=.bool false) Hg o0 4 rfl rfl rfl rfl e2
 refine qr [.a 2 e3] <| qq <| q0 ?_
 have o2:Has h1 (((0),.sl (([]:List Int).length) 1 (aa.l ([]:List Int)))::(gH,.sl x1.length 1 (cF.l x1))::(aA,.sl x0.length 1 (aa.l x0))::L):=Has.nil o1 1
 have o3:Has h1 ((((0)),.sl (([]:List Int).length) 1 (aa.l ([]:List Int)))::((0),.sl (([]:List Int).length) 1 (aa.l ([]:List Int)))::(gH,.sl x1.length 1 (cF.l x1))::(aA,.sl x0.length 1 (aa.l x0))::L):=Has.nil o2 1
 refine qq <| qq <| q0 <| qb 0 ?_
 obtain⟨cD,B1,H⟩:=aJ H
 refine ql (ah.bG L l0  zl zm (x0,x1,([]:List Int),true) _ _ ⟨.any,.any,(0),gH,aA,h1,by kernel_rfl,o3⟩ B1) ?_
 rintro e s ⟨rfl,ui,dR,Iv,NF,rfl,g4,g5,g6,g7,g8,fO,gY,jZ,h9,rfl,vE⟩
 try dsimp only at H
 refine qq <| qq <| q0 ?_
 have tK:Has h9 ((((0)),.sl (([]:List Int).length) 1 (aa.l ([]:List Int)))::(gY,.sl dR.length 1 (cF.l dR))::(jZ,.sl ui.length 1 (aa.l ui))::L):=Has.del vE 1
 refine qb 4 ?_
 obtain⟨pf,LG,H⟩:=aJ H
 refine ql (ah.ph L l0 gY dR gY  nE (ui,([]:List Int),(0:Int)) _ _ ⟨((0)),jZ,h9,by kernel_rfl,tK⟩ LG) ?_
 rintro e s ⟨rfl,uj,bB,i3,rfl,g11,g12,g13,ia,NL,h16,rfl,DE⟩
 try dsimp only at H
 refine qq <| qq <| q0 ?_
 have KG:Has h16 ((ia,.sl bB.length 1 (aa.l bB))::(NL,.sl uj.length 1 (aa.l uj))::L):=Has.del DE 1
 refine qb 8 ?_
 obtain⟨gG,Vm,H⟩:=aJ H
 refine ql (ah.tO L l0 ia bB ia  mH (uj,true) _ _ ⟨NL,h16,by kernel_rfl,KG⟩ Vm) ?_
 rintro e s ⟨rfl,qD,NG,rfl,g19,g20,g21,g22,NM,h25,rfl,Oq⟩
 try dsimp only at H
 refine q1 ?_
 have Qj:Has h25 ((NM,.sl qD.length 1 (aa.l qD))::L):=Has.del Oq 0
 obtain rfl:=oi H
 exact qt <| ⟨.inl rfl,ca (.rs NM 0 qD.length 1) h25 (b8 (yG (E:=aa) (l:=qD) (q:=0) Qj rfl (fun _=>rfl)))⟩
end
end Go.Proofs.YtmekcfdllhphlaaDoor
