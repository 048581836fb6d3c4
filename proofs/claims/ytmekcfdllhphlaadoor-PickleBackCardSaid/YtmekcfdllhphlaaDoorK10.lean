/- Part of the proof: Q19, PR6, PR7, PT1, PT2, PR8, PR9, PT3, PT4, PT5, PT11, Q16, Q18, Q4, PR10, PT12, PB2, Q102, Q104, Q105, Q103. -/
import Derived.Test.YtmekcfdllhphlaaDoorK9
set_option linter.unusedVariables false
set_option linter.unusedSimpArgs false
set_option maxRecDepth 100000
open Bool renaming and_eq_true → WR
open ByteArray renaming mk → Xf
open Int renaming toNat_natCast → WT
open List renaming length_append → WX, getElem?_eq_getElem → W2, append_assoc → W3, getElem?_eq_none → W6, length_cons → W9, map_cons → Xc, all_eq_true → Xd, mem_map → Xg, nil_append → Xm, getElem?_map → Xo, mem_cons → Xs, length_map → Xu, ext_getElem? → XE, length_nil → XI, getElem_mem → XJ, idxOf_lt_length_of_mem → XP, mem_of_getElem? → XQ
open List.cons renaming inj → Yl
open Nat renaming le_refl → WQ
open Option renaming bind_some → WL, bind_eq_some_iff → WM, map_some → WS
open Option.some renaming injEq → WO, inj → Xj
open Or renaming inr → XH, inl → X6
namespace Go.Proofs.YtmekcfdllhphlaaDoor
open Go Go.R
open Go.IntKind (i64 u64 u8 u32)
def vL:cg:=gk [0,2,3,4,5,6,7,8,9,10,11,12,15,33,56,70,93,106] [8] [262142,258046,262137,253950,262137,262134,262118,262086,262022,245638,262022,261894,261638,261126,228358,261126,261126,262022,196590,262137,259054,131055,262137,262137] [(17,[(8,some 0,0)]),(20,[(5,none,0)])] [(6,[(5,none,2)]),(11,[(8,some 0,4)])]
def bm.l1 (m:Nat)(x3:Int × fC):Nat→Int→(List ae)→Int→fC→Option (Int × (List ae) × Int × fC)
 | 0,_,_,_,_=>none
 | k+1,k0,t0,t1,xz=>if (decide (k0<x3.1))=true then (if (!xz.bz)=true then ((db.f m xz).bind fun x4=>(app 56 t0 ([x4.1])).bind fun x5=>bm.l1 m x3 k (i64.wrap (k0+(1:Int))) x5 t1 x4.2) else (some ((k0,t0,t1,xz)))) else (some ((k0,t0,t1,xz)))
def bm.l0 (m:Nat)(x2:Int × fC):Nat→(List an)→Int→fC→Option ((List an) × Int × fC)
 | 0,_,_,_=>none
 | k+1,bb,i0,rU=>if (decide (i0<x2.1))=true then (if (!rU.bz)=true then (if (decide (x2.1≤(8:Int)))=true then ((bN.f m rU).bind fun x3=>(bm.l1 m x3 m (0:Int) ([]:List ae) (0:Int) x3.2).bind fun bq=>match bq with | (k1,t2,t3,ob2)=>(app 32 bb ([(an.mk t2 t3)])).bind fun x6=>bm.l0 m x2 k x6 (i64.wrap (i0+(1:Int))) ob2) else (some ((bb,i0,rU)))) else (some ((bb,i0,rU)))) else (some ((bb,i0,rU)))
def bm.f (m:Nat)(b0:List Int):Option ((List an) × Int):=if (decide ((b0.length:Int) > (200000:Int)))=true then (some ([],(3:Int))) else (if (decide ((b0.length:Int)<(7:Int)))=true then (some ([],(2:Int))) else ((pL b0 (0:Int) (i64.wrap ((b0.length:Int) - (4:Int)))).bind fun v0=>(cF.f m v0).bind fun x0=>(pL b0 (i64.wrap ((b0.length:Int) - (4:Int))) (b0.length:Int)).bind fun v1=>(eX.f m x0 v1).bind fun x1=>if (!x1)=true then (some ([],(2:Int))) else ((pL b0 (2:Int) (i64.wrap ((b0.length:Int) - (4:Int)))).bind fun v2=>(bN.f m (fC.mk v2 false)).bind fun x2=>(bm.l0 m x2 m ([]:List an) (0:Int) x2.2).bind fun cq=>match cq with | (nv,i1,Jg)=>if Jg.bz=true then (some ([],(2:Int))) else (if (!((nv.length:Int)==x2.1))=true then (some ([],(2:Int))) else ((ca.f m nv).bind fun x7=>if (!(x7.2==(0:Int)))=true then (some ([],(2:Int))) else ((eX.f m x7.1 b0).bind fun x8=>if (!x8)=true then (some ([],(2:Int))) else (some (nv,(0:Int)))))))))
def bm.fin (L:Mem)(r:(List an) × Int)(s:St):Prop:=∃av,aI Tryd.prog (s.open vL) Tryd.f19.results.toList=some av∧wQ s.h av (.tup [aT.fz r.1,.int .i64 r.2])
def S5 (cf:CallF)(m:Nat):Prop:=∀(b0:List Int) (r:(List an) × Int),bm.f m b0=some r→∀h xs,lD xs [au.fz b0]→cf 19 xs h=some (.tup [aT.fz r.1,.int .i64 r.2],h)
section
variable {cf:CallF}{m:Nat}
theorem bm.fu (L:Mem)(b0:List Int)(aB:Nat)(x2:Int × fC)(gF:Nat)(bb:List an)(i0:Int)(gF:Nat)(x3:Int × fC)  (Gg:Ot cf m):bI Tryd.prog cf vL m (sub [1,1,1,1,1,1,0,1,0,0,1,0,0,1,1,0,1,0,0] (codeOf Tryd.f19)) (fun k (σ:Int × (List ae) × Int × fC)=>bm.l1 m x3 k σ.1 σ.2.1 σ.2.2.1 σ.2.2.2) (fun σ s=>match σ with | (k0,t0,t1,xz)=>∃dj h4,s=⟨au.fz b0 :: .any :: .any :: .ptr aB 0 :: .rs gF 0 bb.length 2 :: .int .i64 x2.1 :: .int .i64 i0 :: .lp 8 0 :: .int .i64 x3.1 :: .int .i64 k0::rf [],[some [.rs dj 0 t0.length 4,.int .i64 t1]],h4⟩∧Has h4 ((aB,.ob [au.fz xz.eO,.bool xz.bz])::(dj,.sl t0.length 4 (af.l t0))::(gF,.sl bb.length 2 (aT.l bb))::L)) (fun out e s=>(e = .exit 2∧∃k0 t0 t1 xz,(k0,t0,t1,xz)=out∧∃tG tv QH dj h4,s=⟨au.fz b0 :: .any :: .any :: .ptr aB 0 :: .rs gF 0 bb.length 2 :: .int .i64 x2.1 :: .int .i64 i0 :: .lp 8 0::tG::tv::sf [QH,.any,.any],[some [.rs dj 0 t0.length 4,.int .i64 t1]],h4⟩∧Has h4 ((aB,.ob [au.fz xz.eO,.bool xz.bz])::(dj,.sl t0.length 4 (af.l t0))::(gF,.sl bb.length 2 (aT.l bb))::L))):=by
 refine gS (fun _=>rfl) ?_
 rintro k ⟨k0,t0,t1,xz⟩ s out ⟨dj,h4,rfl,o6⟩ H
 have H:bm.l1 m x3 (k+1) k0 t0 t1 xz=some out:=H
 refine qq <| qq ?_
 rcases dw H with⟨c7,H⟩| ⟨c7,H⟩
 ·refine qr [.b 3 c7,.v 7 (show bk Tryd.prog h4 4 (.ptr aB 1)=some (.bool xz.bz) from cn (q:=0) (cs:=[au.fz xz.eO,.bool xz.bz]) o6 rfl (by kernel_rfl))] <| qc H (fun c8 H=>?_) (fun c8 H=>?_)
  ·refine qk <| qq <| qb 3 ?_
   obtain⟨x4,mU,H⟩:=aJ H
   obtain⟨h5,rn,o7⟩:=Gg _ _ mU h4 _ _ (o6)  [.ptr aB 0] (ao (rfl) (bj))
   obtain⟨x5,si,H⟩:=aJ H
   obtain⟨fA,h6,sj,o8⟩:=fY (P:=Tryd.prog) (E:=af) (l:=t0) (q:=1) (t2:=29) (x:=.fz [.int .i64 x4.1.kind,.int .i64 x4.1.int,.str x4.1.label,aa.fz x4.1.args] 1 true) (l2:=([x4.1])) kT o7 rfl (by kernel_rfl) rfl si
   exact qr [.a 3 rn,.a 5 sj] <| q0 <| ⟨(i64.wrap (k0+(1:Int)),x5,t1,x4.2),⟨fA,h6,by kernel_rfl,o8⟩,H⟩
  ·exact qx 2 <| ⟨rfl,k0,t0,t1,xz,oi H,.int .i64 x3.1,.int .i64 k0,.bool (!xz.bz),dj,h4,by kernel_rfl,o6⟩
 ·exact qr [.b 3 c7] <| Dq <| qx 2 <| ⟨rfl,k0,t0,t1,xz,oi H,.int .i64 x3.1,.int .i64 k0,.bool false,dj,h4,by kernel_rfl,o6⟩
theorem bm.bG (L:Mem)(b0:List Int)(aB:Nat)(x2:Int × fC)  (mX:KK cf m)(Gg:Ot cf m):bI Tryd.prog cf vL m (sub [1,1,1,1,1,1,0,1,0,0] (codeOf Tryd.f19)) (fun k (σ:(List an) × Int × fC)=>bm.l0 m x2 k σ.1 σ.2.1 σ.2.2) (fun σ s=>match σ with | (bb,i0,rU)=>∃gF h2,s=⟨au.fz b0 :: .any :: .any :: .ptr aB 0 :: .rs gF 0 bb.length 2 :: .int .i64 x2.1 :: .int .i64 i0::oV [],[none],h2⟩∧Has h2 ((aB,.ob [au.fz rU.eO,.bool rU.bz])::(gF,.sl bb.length 2 (aT.l bb))::L)) (fun out e s=>(e = .exit 0∧∃bb i0 rU,(bb,i0,rU)=out∧∃tF KG gF h2,s=⟨au.fz b0 :: .any :: .any :: .ptr aB 0 :: .rs gF 0 bb.length 2 :: .int .i64 x2.1::tF::Dk (KG::jW []),[none],h2⟩∧Has h2 ((aB,.ob [au.fz rU.eO,.bool rU.bz])::(gF,.sl bb.length 2 (aT.l bb))::L))):=by
 refine gS (fun _=>rfl) ?_
 rintro k ⟨bb,i0,rU⟩ s out ⟨gF,h2,rfl,o3⟩ H
 have H:bm.l0 m x2 (k+1) bb i0 rU=some out:=H
 refine qq <| qq ?_
 rcases dw H with⟨c4,H⟩| ⟨c4,H⟩
 ·rcases dw H with⟨c5,H⟩| ⟨c5,H⟩
  ·refine qr [.b 3 c4,.v 7 (show bk Tryd.prog h2 4 (.ptr aB 1)=some (.bool rU.bz) from cn (q:=0) (cs:=[au.fz rU.eO,.bool rU.bz]) o3 rfl (by kernel_rfl)),.b 10 c5] <| qc H (fun c6 H=>?_) (fun c6 H=>?_)
   ·refine qk <| qq <| qb 1 <| qq <| q0 ?_
    have o4:Has h2 ((((0)),.sl (([]:List ae).length) 4 (af.l ([]:List ae)))::(aB,.ob [au.fz rU.eO,.bool rU.bz])::(gF,.sl bb.length 2 (aT.l bb))::L):=Has.nil o3 4
    refine qq ?_
    obtain⟨x3,e8,H⟩:=aJ H
    obtain⟨h3,e9,o5⟩:=mX _ _ e8 h2 _ _ ((Has.front (Has.front (Has.front o4 2 rfl) 1 rfl) 2 rfl))  [.ptr aB 0] (ao (rfl) (bj))
    refine qr [.a 1 e9] <| qq <| qq <| q0 <| qb 2 ?_
    obtain⟨bq,uS,H⟩:=aJ H
    refine ql (bm.fu L b0 aB x2 gF bb i0 gF x3  Gg ((0:Int),([]:List ae),(0:Int),x3.2) _ _ ⟨((0)),h3,by kernel_rfl,o5⟩ uS) ?_
    rintro e s ⟨rfl,k1,t2,t3,ob2,rfl,g0,g1,g2,gX,h7,rfl,o9⟩
    try dsimp only at H
    obtain⟨h8,uz,uQ⟩:=iW (E:=af) (l:=t2) (q:=1) o9 rfl
    obtain⟨x6,xM,H⟩:=aJ H
    obtain⟨gU,h9,w9,vB⟩:=fY (P:=Tryd.prog) (E:=aT) (l:=bb) (q:=1) (t2:=22) (x:=.fz [af.fz t2,.int .i64 t3] 1 true) (l2:=([(an.mk t2 t3)])) yI uQ rfl (by kernel_rfl) rfl xM
    exact zN [.a 0 uz] [.a 3 w9] <| q0 <| ⟨(x6,i64.wrap (i0+(1:Int)),ob2),⟨gU,h9,by kernel_rfl,vB⟩,H⟩
   ·exact qx 0 <| ⟨rfl,bb,i0,rU,oi H,.int .i64 i0,.bool (decide (x2.1≤(8:Int))),gF,h2,by kernel_rfl,o3⟩
  ·exact qr [.b 3 c4,.v 7 (show bk Tryd.prog h2 4 (.ptr aB 1)=some (.bool rU.bz) from cn (q:=0) (cs:=[au.fz rU.eO,.bool rU.bz]) o3 rfl (by kernel_rfl)),.b 10 c5] <| Dq <| qx 0 <| ⟨rfl,bb,i0,rU,oi H,.int .i64 i0,.bool false,gF,h2,by kernel_rfl,o3⟩
 ·exact qr [.b 3 c4] <| Dq <| qx 0 <| ⟨rfl,bb,i0,rU,oi H,.int .i64 i0,.bool false,gF,h2,by kernel_rfl,o3⟩
theorem rV {aS:FuncId→cg}(ha:aS 19=vL)(Im:QD cf m)(NA:S4 cf m)(KO:Qx cf m)(mX:KK cf m)(Gg:Ot cf m)(b0:List Int)(h:AHeap)(L:Mem)  (o:Has h (L)){out:(List an) × Int}(H:bm.f m b0=some out) :
  ∃r h',a7 Tryd.prog aS cf m 19 [au.fz b0] h=some (r,h')∧wQ h' r (.tup [aT.fz out.1,.int .i64 out.2]):=by
 refine ak (fn:=Tryd.f19) ha Tryd.func19 (by kernel_rfl) (by kernel_rfl) ?_
 refine aF (Q:=fun s=>bm.fin L out s) (fun _ _ h=>h) ?_
 have H:_=some out:=H
 unfold bm.f at H
 show de _ cf vL m _ ⟨au.fz b0::E6 [],[none],h⟩ _
 refine q1 <| qq <| qq <| q0 <| qc H (fun c0 H=>?_) (fun c0 H=>?_)
 ·obtain rfl:=oi H
  exact q1 <| qt <| ⟨.inl rfl,vz (.tup [.nils,.int .i64 (3:Int)]) h (pK (fZ (ab (gN) (ab (aE) (ax)))))⟩
 ·refine qk <| qq <| qq ?_
  rcases dw H with⟨c1,H⟩| ⟨c1,H⟩
  ·obtain rfl:=oi H
   exact qr [.b 3 c1] <| pa <| qq <| q0 <| qt <| ⟨.inl rfl,vz (.tup [.nils,.int .i64 (2:Int)]) h (pK (fZ (ab (gN) (ab (aE) (ax)))))⟩
  ·obtain⟨v0,e0,H⟩:=aJ H
   obtain⟨x0,e1,H⟩:=aJ H
   obtain⟨v1,e2,H⟩:=aJ H
   obtain⟨x1,e3,H⟩:=aJ H
   refine qr [.b 3 c1,.v 8 (show fc Tryd.prog 25 (au.fz b0) none (some (.int .i64 (i64.wrap ((b0.length:Int) - (4:Int))))) none=some (au.fz v0) from BE (E:=au) H4 e0),.a 9 (KO _ _ e1 h _ (ga (ab (bS (E:=au)) (ax)))),.v 14 (show fc Tryd.prog 25 (au.fz b0) (some (.int .i64 (i64.wrap ((b0.length:Int) - (4:Int))))) none none=some (au.fz v1) from wR (E:=au) H4 e2),.a 15 (NA _ _ _ e3 h _ (ga (ab (bS (E:=au)) (ab (bS (E:=au)) (ax)))))] <| qc H (fun c3 H=>?_) (fun c3 H=>?_)
   ·obtain rfl:=oi H
    exact q1 <| qt <| ⟨.inl rfl,vz (.tup [.nils,.int .i64 (2:Int)]) h (pK (fZ (ab (gN) (ab (aE) (ax)))))⟩
   ·refine qk <| qq ?_
    obtain⟨v2,e4,H⟩:=aJ H
    obtain⟨aB,h0,e5,o0⟩:=ko (cs:=[au.fz v2,.bool false]) o (by kernel_rfl)
    refine qr [.v 4 (show fc Tryd.prog 25 (au.fz b0) (some (.int .i64 (2:Int))) (some (.int .i64 (i64.wrap ((b0.length:Int) - (4:Int))))) none=some (au.fz v2) from HO (E:=au) H4 e4),.a 6 e5] <| qq <| q0 ?_
    have o1:Has h0 (((0),.sl (([]:List an).length) 2 (aT.l ([]:List an)))::(aB,.ob [au.fz v2,.bool false])::L):=Has.nil o0 2
    refine qq ?_
    obtain⟨x2,e6,H⟩:=aJ H
    obtain⟨h1,e7,o2⟩:=mX _ _ e6 h0 _ _ ((Has.front (Has.front o1 0 rfl) 1 rfl))  [.ptr aB 0] (ao (rfl) (bj))
    refine qr [.a 1 e7] <| qq <| qq <| q0 <| qb 0 ?_
    obtain⟨cq,BY,H⟩:=aJ H
    refine ql (bm.bG L b0 aB x2  mX Gg (([]:List an),(0:Int),x2.2) _ _ ⟨(0),h1,by kernel_rfl,o2⟩ BY) ?_
    rintro e s ⟨rfl,nv,i1,Jg,rfl,g3,g4,gV,h10,rfl,tI⟩
    try dsimp only at H
    refine qq <| qq ?_
    rcases dw H with⟨qm,H⟩| ⟨qm,H⟩
    ·refine qr [.v 3 (show bk Tryd.prog h10 4 (.ptr aB 1)=some (.bool Jg.bz) from cn (q:=0) (cs:=[au.fz Jg.eO,.bool Jg.bz]) tI rfl (by kernel_rfl)),.b 4 qm] ?_
     have lK:Has h10 ((gV,.sl nv.length 2 (aT.l nv))::L):=Has.del tI 0
     refine pa <| qq <| q0 ?_
     have yL:Has h10 (L):=Has.del lK 0
     obtain rfl:=oi H
     exact qt <| ⟨.inl rfl,vz (.tup [.nils,.int .i64 (2:Int)]) h10 (pK (fZ (ab (gN) (ab (aE) (ax)))))⟩
    ·refine qr [.v 3 (show bk Tryd.prog h10 4 (.ptr aB 1)=some (.bool Jg.bz) from cn (q:=0) (cs:=[au.fz Jg.eO,.bool Jg.bz]) tI rfl (by kernel_rfl)),.b 4 qm] ?_
     have zO:Has h10 ((gV,.sl nv.length 2 (aT.l nv))::L):=Has.del tI 0
     refine qc H (fun og H=>?_) (fun og H=>?_)
     ·refine q1 ?_
      have lQ:Has h10 (L):=Has.del zO 0
      obtain rfl:=oi H
      exact qt <| ⟨.inl rfl,vz (.tup [.nils,.int .i64 (2:Int)]) h10 (pK (fZ (ab (gN) (ab (aE) (ax)))))⟩
     ·refine qk <| qq ?_
      obtain⟨h11,xb,AE⟩:=iW (E:=aT) (l:=nv) (q:=0) zO rfl
      obtain⟨x7,BZ,H⟩:=aJ H
      refine zN [.a 0 xb] [.a 1 (Im _ _ BZ h11 _ (b5 (gy (E:=aT)) (fe)))] <| qq <| qq ?_
      rcases dw H with⟨xL,H⟩| ⟨xL,H⟩
      ·obtain rfl:=oi H
       exact qr [.b 2 xL] <| pa <| qq <| q0 <| qt <| ⟨.inl rfl,vz (.tup [.nils,.int .i64 (2:Int)]) h11 (pK (fZ (ab (gN) (ab (aE) (ax)))))⟩
      ·obtain⟨x8,D4,H⟩:=aJ H
       refine qr [.b 2 xL,.a 5 (NA _ _ _ D4 h11 _ (ga (ab (bS (E:=au)) (ab (bS (E:=au)) (ax)))))] <| qc H (fun Ds H=>?_) (fun Ds H=>?_)
       ·obtain rfl:=oi H
        exact q1 <| qt <| ⟨.inl rfl,vz (.tup [.nils,.int .i64 (2:Int)]) h11 (pK (fZ (ab (gN) (ab (aE) (ax)))))⟩
       ·obtain rfl:=oi H
        exact qk <| qq <| q0 <| qt <| ⟨.inl rfl,vz (.tup [aT.fz nv,.int .i64 (0:Int)]) h11 (pK (fZ (ab (bS) (ab (aE) (ax)))))⟩
end
end Go.Proofs.YtmekcfdllhphlaaDoor
namespace Go.Proofs.YtmekcfdllhphlaaDoor
open Go Go.R
open Go.IntKind (i64 u64 u8 u32)
def dV (l:List ae):List Int:=(l.map du).flatten
def jG (t:an):List Int:=dM t.nodes.length++dV t.nodes
def cG (l:List an):List Int:=(l.map jG).flatten
def cH (l:List an):List Int:=[76,1]++(dM l.length++cG l)
structure tZ (t:an):Prop where
 nodes:∀n∈t.nodes,tX n
 rq:t.nodes.length<2 ^ 30
 root:t.root=0
theorem je (n:ae)(l:List ae):dV (n::l)=du n++dV l:=by simp [dV]
theorem jf (t:an)(l:List an):cG (t::l)=jG t++cG l:=by simp [cG]
theorem drop_cons {α:Type}{l:List α}{i:Nat}{a:α}{r:List α}(h:l.drop i=a::r):i<l.length∧ix l (i:Int)=some a∧l.drop (i+1)=r∧a∈l:=by
 have h1:i<l.length:=by
  have:=congrArg List.length h
  simp at this
  omega
 have h2:l[i]? = some a:=by
  have:=congrArg (·[0]?) h
  simpa using this
 refine⟨h1,?_,by rw [←List.tail_drop,h]; rfl,XQ h2⟩
 unfold ix
 rw [if_pos (by omega)]
 exact h2
theorem drop_nil {α:Type}{l:List α}{i:Nat}(h:l.drop i=[]):l.length≤i:=by
 have:=congrArg List.length h
 simp at this
 omega
theorem Gh {m:Nat}(hm:11≤m)(v:an):∀(l:List ae) (f i:Nat) (w:List Int),l.length<f→v.nodes.drop i=l→(∀n∈l,tX n)→w≠[]→w.length+(dV l).length+2 ^ 41≤140737488355328→i+l.length<2 ^ 40→
  ∃x,aU.l1 m v f (i:Int) w=some (x,w++dV l)
 | l,0,i,w,hf,_,_,_,_,_=>absurd hf (by omega)
 | [],f+1,i,w,hf,hd,hW,hw,hl,hi=>by
  refine⟨i,?_⟩
  have:=drop_nil hd
  unfold aU.l1
  rw [if_neg (by simp; omega)]
  simp [dV]
 | n::l,f+1,i,w,hf,hd,hW,hw,hl,hi=>by
  obtain⟨h1,h2,h3,h4⟩:=drop_cons hd
  have rl:(2:Nat) ^ 41=2199023255552:=by decide
  have nR:(2:Nat) ^ 40=1099511627776:=by decide
  have Ov:=hW n (by simp)
  have U2:n.label.size<2 ^ 40:=by
   rcases Ov.kind with⟨_,_,h,_⟩| ⟨_,_,h,_⟩| ⟨h,_⟩| ⟨h,_⟩
   ·rw [h]; decide
   ·rw [h]; decide
   ·exact (Ov.label (by omega)).2
   ·exact (Ov.label (by omega)).2
  rw [je,WX] at hl
  simp only [W9] at hf hi
  obtain⟨x,ih⟩:=Gh hm v l f (i+1) (w++du n) (by omega) h3 (fun k hk=>hW k (by simp [hk])) (by simp [hw]) (by simp; omega) (by omega)
  refine⟨x,?_⟩
  unfold aU.l1
  rw [if_pos (by simp; omega),h2,WL,Nx hm Ov (by omega) hw,WL,aD (by omega) (by omega),show ((i:Int)+1)=((i+1:Nat):Int) by omega,ih,je,W3]
theorem Gi {m:Nat}(hm:2 ^ 30≤m)(L:List an):∀(l:List an) (f i:Nat) (w:List Int),l.length<f→L.drop i=l→(∀t∈l,tZ t)→w≠[]→w.length+(cG l).length+2 ^ 41≤140737488355328→i+l.length<2 ^ 40→
  ∃x,aU.l0 m L f (i:Int) w=some (x,w++cG l)
 | l,0,i,w,hf,_,_,_,_,_=>absurd hf (by omega)
 | [],f+1,i,w,hf,hd,hW,hw,hl,hi=>by
  refine⟨i,?_⟩
  have:=drop_nil hd
  unfold aU.l0
  rw [if_neg (by simp; omega)]
  simp [cG]
 | t::l,f+1,i,w,hf,hd,hW,hw,hl,hi=>by
  obtain⟨h1,h2,h3,h4⟩:=drop_cons hd
  have rl:(2:Nat) ^ 41=2199023255552:=by decide
  have nR:(2:Nat) ^ 40=1099511627776:=by decide
  have lR:(2:Nat) ^ 30=1073741824:=by decide
  have LH:=hW t (by simp)
  have AQ:=LH.rq
  rw [jf,WX] at hl
  have he:(jG t).length=(dM t.nodes.length).length+(dV t.nodes).length:=by simp [jG]
  simp only [W9] at hf hi
  obtain⟨x,ih⟩:=Gi hm L l f (i+1) (w++jG t) (by omega) h3 (fun k hk=>hW k (by simp [hk])) (by simp [hw]) (by simp; omega) (by omega)
  obtain⟨y,hy⟩:=Gh (m:=m) (by omega) t t.nodes m 0 (w++dM t.nodes.length) (by omega) rfl LH.nodes (by simp [hw]) (by simp; omega) (by omega)
  have hy:aU.l1 m t m (0:Int) (w++dM t.nodes.length)=_:=hy
  refine⟨x,?_⟩
  unfold aU.l0
  rw [if_pos (by simp; omega),h2,WL,ic (by omega) (by omega),za (by omega) (by omega) hw (by omega),WL,hy,WL]
  dsimp only
  rw [aD (by omega) (by omega),show ((i:Int)+1)=((i+1:Nat):Int) by omega]
  rw [show w++dM t.nodes.length++dV t.nodes=w++jG t by simp [jG]]
  rw [ih,jf,W3]
theorem NB {m:Nat}(hm:2 ^ 30≤m){L:List an}(hW:∀t∈L,tZ t)(hl:(cG L).length+2 ^ 42≤140737488355328)(hL:L.length<2 ^ 30):aU.f m L=(cF.f m (cH L)).bind fun c=>app 1 (cH L) c:=by
 have M0:(2:Nat) ^ 42=4398046511104:=by decide
 have rl:(2:Nat) ^ 41=2199023255552:=by decide
 have nR:(2:Nat) ^ 40=1099511627776:=by decide
 have lR:(2:Nat) ^ 30=1073741824:=by decide
 unfold aU.f
 have h1:wB ([]:List Int) [(76:Int)]=some [76]:=by unfold wB; rw [if_pos (by simp)]; rfl
 have e0:(dM L.length).length≤10:=dR (by omega)
 obtain⟨x,hx⟩:=Gi (m:=m) hm L L m 0 ([76]++[1]++dM L.length) (by omega) rfl hW (by simp) (by simp; omega) (by omega)
 have hx:aU.l0 m L m (0:Int) ([76]++[1]++dM L.length)=_:=hx
 rw [h1,WL,mC (by simp) (by simp) (by simp),WL,ic (by omega) (by omega),za (by omega) (by omega) (by simp) (by simp),WL,hx,WL]
 dsimp only
 rw [show [(76:Int)]++[1]++dM L.length++cG L=cH L by simp [cH]]
 have h2:ti (cH L)=some ():=by
  unfold ti
  rw [if_pos ⟨by simp [cH],by simp [cH]; omega⟩]
 rw [h2,WL]
 congr 1
 funext c
 cases app 1 (cH L) c<;>rfl
end Go.Proofs.YtmekcfdllhphlaaDoor
namespace Go.Proofs.YtmekcfdllhphlaaDoor
open Go Go.R
open Go.IntKind (i64 u64 u8 u32)
theorem Gj {m:Nat}(hm:11≤m)(x3:Int × fC)(rest:List Int)(hx:x3.1<2 ^ 30):∀(l:List ae) (f k:Nat) (acc:List ae),l.length<f→(k:Int)+l.length=x3.1→acc.length=k→(∀n∈l,tX n)→
  ∃x,bm.l1 m x3 f (k:Int) acc 0 ⟨dV l++rest,false⟩=some (x,acc++l,0,⟨rest,false⟩)
 | l,0,k,acc,hf,_,_,_=>absurd hf (by omega)
 | [],f+1,k,acc,hf,hk,ha,hW=>by
  refine⟨k,?_⟩
  simp only [XI] at hk
  unfold bm.l1
  rw [if_neg (by simp; omega)]
  simp [dV]
 | n::l,f+1,k,acc,hf,hk,ha,hW=>by
  simp only [W9] at hf hk
  have lR:(2:Int) ^ 30=1073741824:=by decide
  obtain⟨x,ih⟩:=Gj hm x3 rest hx l f (k+1) (acc++[n]) (by omega) (by omega) (by simp; omega) (fun c hc=>hW c (by simp [hc]))
  refine⟨x,?_⟩
  unfold bm.l1
  have lP:app 56 acc [n]=some (acc++[n]):=by unfold app; rw [if_pos (by simp; omega)]
  rw [if_pos (by simp; omega),if_pos (show (!false)=true from rfl),je,W3,Ny hm (hW n (by simp)),WL]
  dsimp only
  rw [lP,WL,aD (by omega) (by omega),show ((k:Int)+1)=((k+1:Nat):Int) by omega,ih]
  simp
theorem Gk {m:Nat}(hm:2 ^ 30≤m)(x2:Int × fC)(rest:List Int)(hx:x2.1≤8):∀(l:List an) (f k:Nat) (acc:List an),l.length<f→(k:Int)+l.length=x2.1→acc.length=k→(∀t∈l,tZ t)→
  ∃x,bm.l0 m x2 f acc (k:Int) ⟨cG l++rest,false⟩=some (acc++l,x,⟨rest,false⟩)
 | l,0,k,acc,hf,_,_,_=>absurd hf (by omega)
 | [],f+1,k,acc,hf,hk,ha,hW=>by
  refine⟨k,?_⟩
  simp only [XI] at hk
  unfold bm.l0
  rw [if_neg (by simp; omega)]
  simp [cG]
 | t::l,f+1,k,acc,hf,hk,ha,hW=>by
  simp only [W9] at hf hk
  have lR:(2:Int) ^ 30=1073741824:=by decide
  have WB:(2:Nat) ^ 30=1073741824:=by decide
  have LH:=hW t (by simp)
  have AQ:=LH.rq
  obtain⟨x,ih⟩:=Gk hm x2 rest hx l f (k+1) (acc++[t]) (by omega) (by omega) (by simp; omega) (fun c hc=>hW c (by simp [hc]))
  obtain⟨y,hy⟩:=Gj (m:=m) (by omega) ((t.nodes.length:Int),(⟨dV t.nodes++(cG l++rest),false⟩:fC)) (cG l++rest) (by simp only; omega) t.nodes m 0 [] (by omega) (by simp) rfl LH.nodes
  have hy:bm.l1 m ((t.nodes.length:Int),(⟨dV t.nodes++(cG l++rest),false⟩:fC)) m (0:Int) [] 0 ⟨dV t.nodes++(cG l++rest),false⟩=_:=hy
  refine⟨x,?_⟩
  unfold bm.l0
  have lP:app 32 acc [t]=some (acc++[t]):=by unfold app; rw [if_pos (by simp; omega)]
  rw [if_pos (by simp; omega),if_pos (show (!false)=true from rfl),if_pos (by simp; omega),jf,jG,W3,W3,AS (by omega) (by omega),WL]
  dsimp only
  rw [hy,WL]
  dsimp only
  rw [show an.mk ([]++t.nodes) 0=t by rw [Xm,←LH.root],lP,WL,aD (by omega) (by omega),show ((k:Int)+1)=((k+1:Nat):Int) by omega,ih]
  simp
end Go.Proofs.YtmekcfdllhphlaaDoor
namespace Go.Proofs.YtmekcfdllhphlaaDoor
open Go Go.R
open Go.IntKind (i64 u64 u8 u32)
end Go.Proofs.YtmekcfdllhphlaaDoor
namespace Go.Proofs.YtmekcfdllhphlaaDoor
open Go Go.R
open Go.IntKind (i64 u64 u8 u32)
end Go.Proofs.YtmekcfdllhphlaaDoor
namespace Go.Proofs.YtmekcfdllhphlaaDoor
open Go Go.R
open Go.IntKind (i64 u64 u8 u32)
end Go.Proofs.YtmekcfdllhphlaaDoor
namespace Go.Proofs.YtmekcfdllhphlaaDoor
open Go Go.R
open Go.IntKind (i64 u64 u8 u32)
def Bytes (l:List Int):Prop:=∀x∈l,0≤x∧x<256
theorem ub {m:Nat}{b c:List Int}(H:cF.f m b=some c):Bytes c∧c.length=4:=by
 unfold cF.f at H
 simp only [WM,WO] at H
 obtain⟨x,_,rfl⟩:=H
 refine⟨fun y hy=>?_,rfl⟩
 simp only [Xs,List.not_mem_nil,or_false] at hy
 rcases hy with rfl | rfl | rfl | rfl<;>(rw [mP]; omega)
end Go.Proofs.YtmekcfdllhphlaaDoor
namespace Go.Proofs.YtmekcfdllhphlaaDoor
open Go Go.R
open Go.IntKind (i64 u64 u8 u32)
end Go.Proofs.YtmekcfdllhphlaaDoor
namespace Go.Proofs.YtmekcfdllhphlaaDoor
open Go Go.R
open Go.IntKind (i64 u64 u8 u32)
end Go.Proofs.YtmekcfdllhphlaaDoor
namespace Go.Proofs.YtmekcfdllhphlaaDoor
open Go Go.R
open Go.IntKind (i64 u64 u8 u32)
end Go.Proofs.YtmekcfdllhphlaaDoor
namespace Go.Proofs.YtmekcfdllhphlaaDoor
open Go Go.R
open Go.IntKind (i64 u64 u8 u32)
end Go.Proofs.YtmekcfdllhphlaaDoor
namespace Go.Proofs.YtmekcfdllhphlaaDoor
open Go Go.R
open Go.IntKind (i64 u64 u8 u32)
def Cl:cg:=gk [0,1,2,3] [1,2] [9,3] [] []
def eY.f (m:Nat)(t0:an):Option (an × Int):=(dS.f m t0).bind fun x0=>some (x0.1,x0.2)
def eY.fin (L:Mem)(r:an × Int)(s:St):Prop:=∃av,aI Tryd.prog (s.open Cl) Tryd.f16.results.toList=some av∧wQ s.h av (.tup [.agg [af.fz r.1.nodes,.int .i64 r.1.root],.int .i64 r.2])
def QI (cf:CallF)(m:Nat):Prop:=∀(t0:an) (r:an × Int),eY.f m t0=some r→∀h xs,lD xs [.agg [af.fz t0.nodes,.int .i64 t0.root]]→cf 16 xs h=some (.tup [.agg [af.fz r.1.nodes,.int .i64 r.1.root],.int .i64 r.2],h)
section
variable {cf:CallF}{m:Nat}
theorem py {aS:FuncId→cg}(ha:aS 16=Cl)(Gf:Ou cf m)(t0:an)(h:AHeap)(L:Mem)  (o:Has h (L)){out:an × Int}(H:eY.f m t0=some out) :
  ∃r h',a7 Tryd.prog aS cf m 16 [.agg [af.fz t0.nodes,.int .i64 t0.root]] h=some (r,h')∧wQ h' r (.tup [.agg [af.fz out.1.nodes,.int .i64 out.1.root],.int .i64 out.2]):=by
 refine ak (fn:=Tryd.f16) ha Tryd.func16 (by kernel_rfl) (by kernel_rfl) ?_
 refine aF (Q:=fun s=>eY.fin L out s) (fun _ _ h=>h) ?_
 have H:_=some out:=H
 unfold eY.f at H
 show de _ cf Cl m _ ⟨.agg [af.fz t0.nodes,.int .i64 t0.root]::jW [],[none,none],h⟩ _
 refine q1 <| qq ?_
 obtain⟨x0,e0,H⟩:=aJ H
 obtain rfl:=oi H
 exact qr [.a 1 (Gf _ _ e0 h _ (b5 (lh (b5 (gy (E:=af)) (b5 (bD) (fe)))) (fe)))] <| qt <| ⟨.inl rfl,vz (.tup [.agg [af.fz x0.1.nodes,.int .i64 x0.1.root],.int .i64 x0.2]) h (pK (fZ (ab (bQ (ab (bS) (ab (aE) (ax)))) (ab (aE) (ax)))))⟩
end
end Go.Proofs.YtmekcfdllhphlaaDoor
namespace Go.Proofs.YtmekcfdllhphlaaDoor
open Go Go.R
open Go.IntKind (i64 u64 u8 u32)
def vM:cg:=gk [0,1,2,3,4,5,6,7,8,22,27,67,72,85] [2,3,6,7] [16371,15859,16367,16339,15315,16339,16147,14099,16367,15891,11795,15891,7699,16367,16367] [] []
def aY.l1 (m:Nat)(v0:ae)(v1:ae):Nat→Int→Option (Sum Bool (Int))
 | 0,_=>none
 | k+1,k0=>if (decide (k0<(v0.args.length:Int)))=true then ((ix v0.args k0).bind fun v2=>(ix v1.args k0).bind fun v3=>if (!(v2==v3))=true then (some (.inl false)) else (aY.l1 m v0 v1 k (i64.wrap (k0+(1:Int))))) else (some (.inr k0))
def aY.l0 (m:Nat)(a0:an)(b0:an):Nat→Int→Option (Sum Bool (Int))
 | 0,_=>none
 | k+1,i0=>if (decide (i0<(a0.nodes.length:Int)))=true then ((ix a0.nodes i0).bind fun v0=>(ix b0.nodes i0).bind fun v1=>if (!(v0.kind==v1.kind))=true then (some (.inl false)) else (if (!(v0.int==v1.int))=true then (some (.inl false)) else (if (!(v0.label.data.toList==v1.label.data.toList))=true then (some (.inl false)) else (if (!((v0.args.length:Int)==(v1.args.length:Int)))=true then (some (.inl false)) else ((aY.l1 m v0 v1 m (0:Int)).bind fun bq=>match bq with | .inl r0=>some (.inl r0) | .inr k1=>aY.l0 m a0 b0 k (i64.wrap (i0+(1:Int)))))))) else (some (.inr i0))
def aY.f (m:Nat)(a0:an)(b0:an):Option (Bool):=if (!((a0.nodes.length:Int)==(b0.nodes.length:Int)))=true then (some false) else (if (!(a0.root==b0.root))=true then (some false) else ((aY.l0 m a0 b0 m (0:Int)).bind fun cq=>match cq with | .inl r1=>some r1 | .inr i1=>some true))
def aY.fin (L:Mem)(r:Bool)(s:St):Prop:=∃av,aI Tryd.prog (s.open vM) Tryd.f18.results.toList=some av∧fB s.h av (.bool r)
def QJ (cf:CallF)(m:Nat):Prop:=∀(a0:an) (b0:an) (r:Bool),aY.f m a0 b0=some r→∀h xs,ej eL h xs [.agg [af.fz a0.nodes,.int .i64 a0.root],.agg [af.fz b0.nodes,.int .i64 b0.root]]→cf 18 xs h=some (.bool r,h)
section
variable {cf:CallF}{m:Nat}
theorem aY.fu (L:Mem)(a0:an)(b0:an)(i0:Int)(v0:ae)(v1:ae)   : bI Tryd.prog cf vM m (sub [1,1,0,1,0,0,1,0,0,1,1,1,0,0] (codeOf Tryd.f18)) (fun k (σ:Int)=>aY.l1 m v0 v1 k σ) (fun σ s=>match σ with | k0=>∃h1,s=⟨.any :: .any :: .lp 2 0 :: .lp 3 0 :: .any :: .int .i64 i0 :: .lp 6 0 :: .lp 7 0 :: .int .i64 k0::sf [],[some [af.fz a0.nodes,.int .i64 a0.root],some [af.fz b0.nodes,.int .i64 b0.root],some [.int .i64 v0.kind,.int .i64 v0.int,.str v0.label,aa.fz v0.args],some [.int .i64 v1.kind,.int .i64 v1.int,.str v1.label,aa.fz v1.args]],h1⟩∧Has h1 (L)) (fun out e s=>(e = .exit 2∧∃k0,.inr k0=out∧∃AJ tF qn QK U3 U4 h1,s=⟨.any :: .any :: .lp 2 0 :: .lp 3 0 :: .any :: .int .i64 i0::AJ::tF::qn::jW [QK,.any],[some [af.fz a0.nodes,.int .i64 a0.root],some [af.fz b0.nodes,.int .i64 b0.root],U3,U4],h1⟩∧Has h1 (L))∨(e = .ret∧∃r,.inl r=out∧aY.fin L r s)):=by
 refine gS (fun _=>rfl) ?_
 rintro k k0 s out ⟨h1,rfl,o1⟩ H
 have H:aY.l1 m v0 v1 (k+1) k0=some out:=H
 refine qq <| qq <| q0 <| qc H (fun ml H=>?_) (fun ml H=>?_)
 ·refine qk <| qq <| qb 3 <| qq ?_
  obtain⟨v2,e2,H⟩:=aJ H
  obtain⟨v3,e3,H⟩:=aJ H
  refine qr [.v 3 (bo (k:=.i64) (E:=aa) (l:=v0.args) dC e2),.v 4 (cY  (E:=aa) (l:=v0.args) h1 A3 e2 rfl),.v 8 (bo (k:=.i64) (E:=aa) (l:=v1.args) dC e3),.v 9 (cY  (E:=aa) (l:=v1.args) h1 A3 e3 rfl)] <| qc H (fun qm H=>?_) (fun qm H=>?_)
  ·exact q1 <| qt <| XH (⟨rfl,_,oi H,bZ (.bool false) h1 (bX (aj))⟩)
  ·exact qk <| q0 <| ⟨i64.wrap (k0+(1:Int)),⟨h1,by kernel_rfl,o1⟩,H⟩
 ·exact qx 2 <| X6 (⟨rfl,k0,oi H,.lp 6 0,.lp 7 0,.int .i64 k0,.bool (decide (k0<(v0.args.length:Int))),some [.int .i64 v0.kind,.int .i64 v0.int,.str v0.label,aa.fz v0.args],some [.int .i64 v1.kind,.int .i64 v1.int,.str v1.label,aa.fz v1.args],h1,by kernel_rfl,o1⟩)
theorem aY.bG (L:Mem)(a0:an)(b0:an)   : bI Tryd.prog cf vM m (sub [1,1,0,1,0,0] (codeOf Tryd.f18)) (fun k (σ:Int)=>aY.l0 m a0 b0 k σ) (fun σ s=>match σ with | i0=>∃h0,s=⟨.any :: .any :: .lp 2 0 :: .lp 3 0 :: .any :: .int .i64 i0::rf [],[some [af.fz a0.nodes,.int .i64 a0.root],some [af.fz b0.nodes,.int .i64 b0.root],none,none],h0⟩∧Has h0 (L)) (fun out e s=>(e = .exit 0∧∃i0,.inr i0=out∧∃Ay tu xi AX NC QL h0,s=⟨.any :: .any::Ay::tu :: .any::xi::re (AX::jW []),[NC,QL,none,none],h0⟩∧Has h0 (L))∨(e = .ret∧∃r,.inl r=out∧aY.fin L r s)):=by
 refine gS (fun _=>rfl) ?_
 rintro k i0 s out ⟨h0,rfl,o0⟩ H
 have H:aY.l0 m a0 b0 (k+1) i0=some out:=H
 refine qq <| qq <| q0 <| qc H (fun c3 H=>?_) (fun c3 H=>?_)
 ·refine qk <| qq <| qb 1 <| qq ?_
  obtain⟨v0,e0,H⟩:=aJ H
  obtain⟨v1,e1,H⟩:=aJ H
  refine qr [.v 3 (bo (k:=.i64) (E:=af) (l:=a0.nodes) kT e0),.v 4 (cO  (E:=af) (l:=a0.nodes) h0 ri rj e0),.v 8 (bo (k:=.i64) (E:=af) (l:=b0.nodes) kT e1),.v 9 (cO  (E:=af) (l:=b0.nodes) h0 ri rj e1)] <| qq <| qq ?_
  rcases dw H with⟨c4,H⟩| ⟨c4,H⟩
  ·exact qr [.b 5 c4] <| pa <| qq <| q0 <| qt <| XH (⟨rfl,_,oi H,bZ (.bool false) h0 (bX (aj))⟩)
  ·rcases dw H with⟨c6,H⟩| ⟨c6,H⟩
   ·exact qr [.b 5 c4,.b 12 c6] <| pa <| qq <| q0 <| qt <| XH (⟨rfl,_,oi H,bZ (.bool false) h0 (bX (aj))⟩)
   ·rcases dw H with⟨c8,H⟩| ⟨c8,H⟩
    ·exact qr [.b 5 c4,.b 12 c6,.b 19 c8] <| pa <| qq <| q0 <| qt <| XH (⟨rfl,_,oi H,bZ (.bool false) h0 (bX (aj))⟩)
    ·refine qr [.b 5 c4,.b 12 c6,.b 19 c8] <| qc H (fun uP H=>?_) (fun uP H=>?_)
     ·exact q1 <| qt <| XH (⟨rfl,_,oi H,bZ (.bool false) h0 (bX (aj))⟩)
     ·refine qk <| qq <| q0 <| qb 2 ?_
      obtain⟨bq,e4,H⟩:=aJ H
      refine ql (aY.fu L a0 b0 i0 v0 v1   (0:Int) _ _ ⟨h0,by kernel_rfl,o0⟩ e4) ?_
      rintro e s (⟨rfl,k1,rfl,g0,g1,g2,g3,g4,g5,h2,rfl,o2⟩| ⟨rfl,r0,rfl,lJ⟩)
      ·try dsimp only at H
       exact q0 <| ⟨i64.wrap (i0+(1:Int)),⟨h2,by kernel_rfl,o2⟩,H⟩
      ·try dsimp only at H
       exact XH (⟨rfl,_,oi H,lJ⟩)
 ·exact qx 0 <| X6 (⟨rfl,i0,oi H,.lp 2 0,.lp 3 0,.int .i64 i0,.bool (decide (i0<(a0.nodes.length:Int))),some [af.fz a0.nodes,.int .i64 a0.root],some [af.fz b0.nodes,.int .i64 b0.root],h0,by kernel_rfl,o0⟩)
theorem qy {aS:FuncId→cg}(ha:aS 18=vM)  (a0:an)(b0:an)(h:AHeap)(L:Mem)  (o:Has h (L)){out:Bool}(H:aY.f m a0 b0=some out) :
  ∃r h',a7 Tryd.prog aS cf m 18 [.agg [af.fz a0.nodes,.int .i64 a0.root],.agg [af.fz b0.nodes,.int .i64 b0.root]] h=some (r,h')∧fB h' r (.bool out):=by
 refine ak (fn:=Tryd.f18) ha Tryd.func18 (by kernel_rfl) (by kernel_rfl) ?_
 refine aF (Q:=fun s=>aY.fin L out s) (fun _ _ h=>h) ?_
 have H:_=some out:=H
 unfold aY.f at H
 show de _ cf vM m _ ⟨.agg [af.fz a0.nodes,.int .i64 a0.root] :: .agg [af.fz b0.nodes,.int .i64 b0.root]::mS [],[none,none,none,none],h⟩ _
 refine q1 <| qq <| qq ?_
 rcases dw H with⟨c0,H⟩| ⟨c0,H⟩
 ·obtain rfl:=oi H
  exact qr [.b 7 c0] <| pa <| qq <| q0 <| qt <| ⟨.inl rfl,bZ (.bool false) h (bX (aj))⟩
 ·refine qr [.b 7 c0] <| qc H (fun c2 H=>?_) (fun c2 H=>?_)
  ·obtain rfl:=oi H
   exact q1 <| qt <| ⟨.inl rfl,bZ (.bool false) h (bX (aj))⟩
  ·refine qk <| qq <| qq <| q0 <| qb 0 ?_
   obtain⟨cq,e5,H⟩:=aJ H
   refine ql (aY.bG L a0 b0   (0:Int) _ _ ⟨h,by kernel_rfl,o⟩ e5) ?_
   rintro e s (⟨rfl,i1,rfl,g6,g7,g8,g9,g10,g11,h3,rfl,o3⟩| ⟨rfl,r1,rfl,ND⟩)
   ·try dsimp only at H
    obtain rfl:=oi H
    exact q1 <| qt <| ⟨.inl rfl,bZ (.bool true) h3 (bX (aj))⟩
   ·try dsimp only at H
    obtain rfl:=oi H
    exact⟨.inl rfl,ND⟩
end
end Go.Proofs.YtmekcfdllhphlaaDoor
namespace Go.Proofs.YtmekcfdllhphlaaDoor
open Go Go.R
open Go.IntKind (i64 u64 u8 u32)
end Go.Proofs.YtmekcfdllhphlaaDoor
namespace Go.Proofs.YtmekcfdllhphlaaDoor
open Go Go.R
open Go.IntKind (i64 u64 u8 u32)
theorem ze {m:Nat}(v:ae)(hv:v.args.length<2 ^ 40):∀(f i:Nat),v.args.length - i<f→i≤v.args.length→∃x,aY.l1 m v v f (i:Int)=some (.inr x)
 | 0,i,hf,_=>absurd hf (by omega)
 | f+1,i,hf,hi=>by
  have nR:(2:Nat) ^ 40=1099511627776:=by decide
  unfold aY.l1
  by_cases h:i<v.args.length
  ·obtain⟨x,ih⟩:=ze (m:=m) v hv f (i+1) (by omega) (by omega)
   refine⟨x,?_⟩
   have hx:ix v.args (i:Int)=some v.args[i]:=by unfold ix; rw [if_pos (by omega)]; simp [h]
   rw [if_pos (by simp; omega),hx,WL,WL,if_neg (by simp),aD (by omega) (by omega),show ((i:Int)+1)=((i+1:Nat):Int) by omega,ih]
  ·exact⟨i,by rw [if_neg (by simp; omega)]⟩
theorem zf {m:Nat}(t:an)(hm:2 ^ 30≤m)(ht:t.nodes.length<2 ^ 30)(ha:∀n∈t.nodes,n.args.length≤8):∀(f i:Nat),t.nodes.length - i<f→i≤t.nodes.length→∃x,aY.l0 m t t f (i:Int)=some (.inr x)
 | 0,i,hf,_=>absurd hf (by omega)
 | f+1,i,hf,hi=>by
  have lR:(2:Nat) ^ 30=1073741824:=by decide
  unfold aY.l0
  by_cases h:i<t.nodes.length
  ·obtain⟨x,ih⟩:=zf (m:=m) t hm ht ha f (i+1) (by omega) (by omega)
   refine⟨x,?_⟩
   have hx:ix t.nodes (i:Int)=some t.nodes[i]:=by unfold ix; rw [if_pos (by omega)]; simp [h]
   have h8:=ha t.nodes[i] (XJ h)
   obtain⟨y,hy⟩:=ze (m:=m) t.nodes[i] (by omega) m 0 (by omega) (by omega)
   have hy:aY.l1 m t.nodes[i] t.nodes[i] m (0:Int)=_:=hy
   rw [if_pos (by simp; omega),hx,WL,WL,if_neg (by simp),if_neg (by simp),if_neg (by simp),if_neg (by simp),hy,WL]
   dsimp only
   rw [aD (by omega) (by omega),show ((i:Int)+1)=((i+1:Nat):Int) by omega,ih]
  ·exact⟨i,by rw [if_neg (by simp; omega)]⟩
end Go.Proofs.YtmekcfdllhphlaaDoor
namespace Go.Proofs.YtmekcfdllhphlaaDoor
open Go Go.R
open Go.IntKind (i64 u64 u8 u32)
def Gl (t:an):Prop:=∀n∈t.nodes,n.kind=0→n.int<2 ^ 63
theorem Gm {s:ByteArray}(h:(s.data.toList==[])=true):s=Xf #[]:=by
 have h:=beq_iff_eq.1 h
 cases s with
 | mk d=>
  cases d with
  | mk l=>simp only at h; subst h; rfl
theorem Ow {l:List Int}(h:l.isEmpty=true):l=[]:=by cases l with | nil=>rfl | cons=>cases h
structure AY (n:ae):Prop where
 kind:n.kind=0∧0≤n.int∧n.label=Xf #[]∧n.args=[]∨n.kind=1∧(-1099511627776≤n.int∧n.int≤1099511627776)∧n.label=Xf #[]∧n.args=[]∨n.kind=2∧n.int=0∧n.args=[]∨n.kind=3∧n.int=0∨n.kind=4∧n.args=[]
 label:n.kind=2∨n.kind=3→1≤n.label.size∧n.label.size≤16
 args:n.args.length≤8
theorem qz {n:ae}{size:Int}(h:kg n size=true):AY n∧∀a∈n.args,0≤a∧a<size:=by
 unfold kg at h
 split at h
 ·rename_i k
  simp only [WR,decide_eq_true_eq] at h
  have ha:=Ow h.2
  exact⟨⟨.inl ⟨k,h.1.1,Gm h.1.2,ha⟩,fun z=>by omega,by rw [ha]; decide⟩,fun a h=>by rw [ha] at h; cases h⟩
 split at h
 ·rename_i k
  simp only [WR,decide_eq_true_eq] at h
  have ha:=Ow h.2
  exact⟨⟨.inr (.inl ⟨k,h.1.1,Gm h.1.2,ha⟩),fun z=>by omega,by rw [ha]; decide⟩,fun a h=>by rw [ha] at h; cases h⟩
 split at h
 ·rename_i k
  simp only [WR,beq_iff_eq] at h
  have ha:=Ow h.2
  exact⟨⟨.inr (.inr (.inl ⟨k,h.1.1,ha⟩)),fun z=>vD h.1.2,by rw [ha]; decide⟩,fun a h=>by rw [ha] at h; cases h⟩
 split at h
 ·rename_i k
  simp only [WR,beq_iff_eq,decide_eq_true_eq,Xd] at h
  exact⟨⟨.inr (.inr (.inr (.inl ⟨k,h.1.1.1.1⟩))),fun z=>vD h.1.1.1.2,h.1.2⟩,h.2⟩
 split at h
 ·rename_i k
  simp only [WR,decide_eq_true_eq] at h
  have ha:=Ow h.2
  exact⟨⟨.inr (.inr (.inr (.inr ⟨k,ha⟩))),fun z=>by omega,by rw [ha]; decide⟩,fun a h=>by rw [ha] at h; cases h⟩
 ·cases h
theorem jb {t:an}(h:dQ t=true):kP t.nodes∧1≤t.nodes.length∧0≤t.root∧t.root<t.nodes.length∧∀n∈t.nodes,AY n:=by
 unfold dQ at h
 simp only [WR,decide_eq_true_eq,Xd] at h
 obtain⟨⟨⟨⟨h1,h2⟩,h3⟩,h4⟩,h5⟩:=h
 exact⟨⟨h2,fun n hn=>⟨(qz (h5 n hn)).1.args,(qz (h5 n hn)).2⟩⟩,h1,h3,h4,fun n hn=>(qz (h5 n hn)).1⟩
structure nw (s:an):Prop where
 root:s.root=0
 rq:s.nodes.length≤8000
 nodes:∀x∈s.nodes,AY x∧(x.kind=0→x.int<2 ^ 63)∧∀a∈x.args,0≤a∧a<8000
theorem AY.map {n:ae}(T:AY n)(f:Int→Int):AY ⟨n.kind,n.int,n.label,n.args.map f⟩:=by
 refine⟨?_,T.label,by simpa using T.args⟩
 rcases T.kind with⟨a,b,c,d⟩| ⟨a,b,c,d⟩| ⟨a,b,d⟩| ⟨a,b⟩| ⟨a,d⟩
 ·exact .inl ⟨a,b,c,by simp [d]⟩
 ·exact .inr (.inl ⟨a,b,c,by simp [d]⟩)
 ·exact .inr (.inr (.inl ⟨a,b,by simp [d]⟩))
 ·exact .inr (.inr (.inr (.inl ⟨a,b⟩)))
 ·exact .inr (.inr (.inr (.inr ⟨a,by simp [d]⟩)))
theorem vN {m:Nat}(hm:2 ^ 41≤m){t:an}(h:dQ t=true)(h0:Gl t):∃s,cm.f m t=some s∧nw s:=by
 obtain⟨ok,h1,r0,r1,hT⟩:=jb h
 obtain⟨cls,many,ks,ns,e,P,_,K,Ac,Q,hr⟩:=tT hm ok h1 r0 r1 (fun _=>True) (fun _ _ _ _ _=>trivial) (fun _ _ _ _ _ _ _ _ _=>trivial)
 have AQ:=Q.vs.rq
 have h8000:=ok.1
 have hlen:=Q.len
 refine⟨_,e,rfl,by dsimp only; omega,fun x hx=>?_⟩
 obtain⟨k,hk,e2⟩:=List.getElem_of_mem hx
 dsimp only at hk e2
 have:=Q.new k (by simp) (by omega)
 rw [W2 hk,e2] at this
 have:=Xj this
 subst this
 have wH:=Q.vs.nu _ (aM (l:=rp cls t.nodes m t.root []) (k:=k) (by omega))
 have AN:=fw wH.1 wH.2
 have U5:=h0 _ AN
 refine⟨(hT _ AN).map _,fun hk=>U5 hk,fun a ha=>?_⟩
 obtain⟨b,hb,rfl⟩:=Xg.1 ha
 have hin:=Q.arg k (by simp) (by omega) b hb
 have:=XP hin
 rw [Xu] at this
 unfold idx
 omega
theorem nw.w {s:an}(L:nw s)(h:s.nodes.any (fun n=>n.kind==4)=false):tZ s:=by
 refine⟨fun n hn=>?_,?_,L.root⟩
 ·obtain⟨T,i0,ha⟩:=L.nodes n hn
  have h4:n.kind≠4:=fun e=>by
   have:=List.any_eq_false.1 h n hn
   rw [e] at this; exact absurd this (by decide)
  have WC:(2:Int) ^ 62=4611686018427387904:=by decide
  have Hj:(2:Int) ^ 63=9223372036854775808:=by decide
  have nR:(2:Nat) ^ 40=1099511627776:=by decide
  refine⟨?_,fun hk=>?_,T.args,fun a hx=>by have:=ha a hx; omega⟩
  ·rcases T.kind with⟨a,b,c,d⟩| ⟨a,b,c,d⟩| ⟨a,b,d⟩| ⟨a,b⟩| ⟨a,d⟩
   ·exact .inl ⟨a,⟨b,i0 a⟩,c,d⟩
   ·exact .inr (.inl ⟨a,by omega,c,d⟩)
   ·exact .inr (.inr (.inl ⟨a,b,d⟩))
   ·exact .inr (.inr (.inr ⟨a,b⟩))
   ·exact absurd a h4
  ·have:=T.label (by rcases T.kind with h | h | h | h | h<;>(have:=h.1; omega))
   omega
 ·have:=L.rq
  have lR:(2:Nat) ^ 30=1073741824:=by decide
  omega
theorem zg {n:ae}(W:tX n)(T:AY n):(du n).length≤200:=by
 have i64:(2:Int) ^ 63=9223372036854775808:=by decide
 have i62:(2:Int) ^ 62=4611686018427387904:=by decide
 have Qw:(2:Nat) ^ 64=18446744073709551616:=by decide
 have Hj:(2:Nat) ^ 63=9223372036854775808:=by decide
 have hs:(n.kind=2∨n.kind=3)→(nW n.label).length≤30:=fun h=>by
  obtain⟨h1,h2⟩:=T.label h
  unfold nW
  have:=dR (n:=n.label.size) (by omega)
  rw [WX,iJ]; omega
 have hargs:∀l:List Int,(∀a∈l,0≤a∧a<2 ^ 63)→((l.map fun a=>dM a.toNat).flatten).length≤10*l.length:=by
  intro l
  induction l with
  | nil=>intro _; simp
  | cons a l ih=>
   intro h
   have h1:=h a (by simp)
   have:=ih fun b hb=>h b (by simp [hb])
   have h2:=dR (n:=a.toNat) (by omega)
   simp only [Xc,List.flatten_cons,WX,W9]
   omega
 unfold du
 rw [W9]
 rcases W.kind with⟨a,⟨b,b'⟩,_,_⟩| ⟨a,⟨b,b'⟩,_,_⟩| ⟨a,_⟩| ⟨a,_⟩
 ·rw [if_pos a]
  have:=dR (n:=n.int.toNat) (by omega)
  omega
 ·rw [if_neg (by omega),if_pos a]
  have h1:=AU b b'
  have:=dR (n:=xP n.int) (by omega)
  omega
 ·rw [if_neg (by omega),if_neg (by omega),if_pos a]
  have:=hs (.inl a); omega
 ·rw [if_neg (by omega),if_neg (by omega),if_neg (by omega),WX,WX]
  have h1:=hs (.inr a)
  have h2:=hargs n.args W.args.2
  have h3:=W.args.1
  have h4:=dR (n:=n.args.length) (by omega)
  omega
theorem DF {m:Nat}{t:an}(h:t.nodes.length<2 ^ 40)(h2:t.nodes.length<m):eW.f m t=some (t.nodes.any fun n=>n.kind==4):=by
 unfold eW.f
 rw [vE (f0:=fun y0=>fQ.f m y0) (g:=fun n=>n.kind==4) h h2 (fun n _=>rfl)]; rfl
theorem Gn {m:Nat}:∀(f i:Nat) (Io:Int),8 - i<f→i≤8→∃c x,bB.l1 m f Io (i:Int)=some (c,x)
 | 0,i,Io,hf,_=>absurd hf (by omega)
 | f+1,i,Io,hf,hi=>by
  unfold bB.l1
  by_cases h:i<8
  ·rw [if_pos (by simp only [decide_eq_true_eq]; omega),aD (by omega) (by omega),show (i:Int)+1=((i+1:Nat):Int) by omega]
   exact Gn f (i+1) _ (by omega) (by omega)
  ·exact⟨_,_,by rw [if_neg (by simp only [decide_eq_true_eq]; omega)]⟩
theorem Gp {m:Nat}(hm:10≤m){b:List Int}(hb:b.length<2 ^ 40):∀(f i:Nat) (Io:Int),b.length - i<f→i≤b.length→∃c x,bB.l0 m b f Io (i:Int)=some (c,x)
 | 0,i,Io,hf,_=>absurd hf (by omega)
 | f+1,i,Io,hf,hi=>by
  have nR:(2:Nat) ^ 40=1099511627776:=by decide
  unfold bB.l0
  by_cases h:i<b.length
  ·obtain⟨c,x,k⟩:=Gn (m:=m) m 0 (lg .u32 Io (u32.wrap (gt b i))) (by omega) (by omega)
   have k:bB.l1 m m (lg .u32 Io (u32.wrap (gt b i))) 0=_:=k
   rw [if_pos (by simp only [decide_eq_true_eq]; omega),cC h,WL,k,WL]
   dsimp only
   rw [aD (by omega) (by omega),show (i:Int)+1=((i+1:Nat):Int) by omega]
   exact Gp hm hb f (i+1) _ (by omega) (by omega)
  ·exact⟨_,_,by rw [if_neg (by simp only [decide_eq_true_eq]; omega)]⟩
theorem DG {m:Nat}(hm:10≤m){b:List Int}(hb:b.length<2 ^ 40)(h:b.length<m):∃c,cF.f m b=some c:=by
 obtain⟨c,x,k⟩:=Gp hm hb m 0 4294967295 (by omega) (by omega)
 have k:bB.l0 m b m 4294967295 0=_:=k
 unfold cF.f bB.f
 rw [k]
 exact⟨_,rfl⟩
end Go.Proofs.YtmekcfdllhphlaaDoor
namespace Go.Proofs.YtmekcfdllhphlaaDoor
open Go Go.R
open Go.IntKind (i64 u64 u8 u32)
structure DH (l:List ae)(R:Nat→Nat→Prop):Prop where
 nu:∀i j,R i j→i<l.length∧j<l.length
 top:∀i j,R i j→Alike (nd l i) (nd l j)
 arg:∀i j,R i j→∀k,k<(nd l i).args.length→R (gt (nd l i).args k).toNat (gt (nd l j).args k).toNat
structure Min (l:List ae)(r:List Int):Prop where
 len:r.length=l.length
 top:∀i j,i<l.length→j<l.length→gt r i=gt r j→Alike (nd l i) (nd l j)
 arg:∀i j,i<l.length→j<l.length→gt r i=gt r j→∀k,k<(nd l i).args.length→gt r (gt (nd l i).args k).toNat=gt r (gt (nd l j).args k).toNat
 max:∀R,DH l R→∀i j,R i j→gt r i=gt r j
theorem sk (a:ae):cT a a=0:=(Alike.refl a).cT
theorem uU {a b c:ae}(h1:cT a b=0)(h2:cT b c=0):cT a c=0:=by
 have n1:=ja a b
 have n2:=ja b c
 have n3:=ja a c
 have t1:=y7 a b c (by omega) (by omega)
 have t2:=y7 c b a (by omega) (by omega)
 omega
theorem xA {l:List ae}{d:List Int}{k:Nat}:∀j,k≤j→rk l d k=rk l d j→cT (nd l (gt d k)) (nd l (gt d j))=0
 | 0,h,_=>by
   have:k=0:=by omega
   subst this; exact sk _
 | j+1,h,e=>by
  by_cases hk:k=j+1
  ·subst hk; exact sk _
  ·have m1:=xj l d k j (by omega)
   have e2:rk l d (j+1)=rk l d j+if cT (nd l (gt d j)) (nd l (gt d (j+1)))=0 then 0 else 1:=rfl
   by_cases hc:cT (nd l (gt d j)) (nd l (gt d (j+1)))=0
   ·rw [if_pos hc] at e2
    exact uU (xA j (by omega) (by omega)) hc
   ·rw [if_neg hc] at e2; omega
theorem xB {l:List ae}{d:List Int}{n:Nat}(S:Sg (fun x y=>cT (nd l x) (nd l y)) d 0 n){k q:Nat}(hq:q<n)(h0:cT (nd l (gt d k)) (nd l (gt d q))=0):∀j,k≤j→j≤q→rk l d j=rk l d k
 | 0,h,_=>by
   have:k=0:=by omega
   subst this; rfl
 | j+1,h,hj=>by
  by_cases hk:k=j+1
  ·subst hk; rfl
  ·have ih:=xB S hq h0 j (by omega) (by omega)
   have U6:cT (nd l (gt d k)) (nd l (gt d j))≤0:=by
    by_cases e:k=j
    ·subst e; rw [sk]; omega
    ·have:0≤cT (nd l (gt d j)) (nd l (gt d k)):=S k j (by omega) (by omega) (by omega)
     have n:=ja (nd l (gt d k)) (nd l (gt d j))
     omega
   have U7:cT (nd l (gt d (j+1))) (nd l (gt d q))≤0:=by
    by_cases e:j+1=q
    ·subst e; rw [sk]; omega
    ·have:0≤cT (nd l (gt d q)) (nd l (gt d (j+1))):=S (j+1) q (by omega) (by omega) hq
     have n:=ja (nd l (gt d (j+1))) (nd l (gt d q))
     omega
   have U8:cT (nd l (gt d q)) (nd l (gt d k))≤0:=by have n:=ja (nd l (gt d k)) (nd l (gt d q)); omega
   have WD:=y7 _ _ _ (y7 _ _ _ U7 U8) U6
   have s1:=S j (j+1) (by omega) (by omega) (by omega)
   have n:=ja (nd l (gt d j)) (nd l (gt d (j+1)))
   have hz:cT (nd l (gt d j)) (nd l (gt d (j+1)))=0:=by
    have s1:0≤cT (nd l (gt d (j+1))) (nd l (gt d j)):=s1
    omega
   show rk l d j+(if cT (nd l (gt d j)) (nd l (gt d (j+1)))=0 then 0 else 1)=_
   rw [if_pos hz,ih]; rfl
def Ip (l:List ae)(out:List Int):Prop:=(∀i j,i<l.length→j<l.length→gt out i=gt out j→cT (nd l i) (nd l j)=0)∧∀R,DH l R→∀i j,R i j→gt out i=gt out j
theorem DI {l:List ae}{d out:List Int}(hp:d.Perm (ints l.length))(hs:Ord (fun x y=>cT (nd l x) (nd l y)) (ints l.length)→Sg (fun x y=>cT (nd l x) (nd l y)) d 0 l.length)(hg:∀k,k<l.length→gt out (gt d k).toNat=rk l d k):Ip l out:=by
 have S:=hs (KI _ _)
 have PI:d.length=l.length:=by rw [hp.length_eq,dK]
 have pos:∀i,i<l.length→∃k,k<l.length∧gt d k=i∧gt out i=rk l d k:=fun i hi=>by
  obtain⟨k,hk,e⟩:=eR (hp.mem_iff.2 (iI.2 (show 0≤(i:Int)∧(i:Int)<l.length by omega)))
  have:=hg k (by omega)
  rw [e,WT] at this
  exact⟨k,by omega,e,this⟩
 refine⟨fun i j hi hj e=>?_,fun R B i j hR=>?_⟩
 ·obtain⟨k,hk,ek,QM⟩:=pos i hi
  obtain⟨q,hq,eq,QN⟩:=pos j hj
  rw [QM,QN] at e
  rw [←ek,←eq]
  rcases Nat.le_total k q with h | h
  ·exact xA q h (by omega)
  ·have:=xA (l:=l) (d:=d) k h (by omega)
   have n:=ja (nd l (gt d k)) (nd l (gt d q))
   omega
 ·obtain⟨hi,hj⟩:=B.nu i j hR
  obtain⟨k,hk,ek,QM⟩:=pos i hi
  obtain⟨q,hq,eq,QN⟩:=pos j hj
  have h0:=(B.top i j hR).cT
  rw [←ek,←eq] at h0
  rw [QM,QN]
  rcases Nat.le_total k q with h | h
  ·rw [xB S hq h0 q h (WQ _)]
  ·have n:=ja (nd l (gt d k)) (nd l (gt d q))
   rw [xB S hk (by omega) k h (WQ _)]
theorem Gq {l:List ae}(ok:kP l){out:List Int}{i j:Nat}(h1:(nd l i).args.length=(nd l j).args.length)(e:key out (nd l i) i=key out (nd l j) j):gt out i=gt out j∧∀k,k<(nd l i).args.length→gt out (gt (nd l i).args k).toNat=gt out (gt (nd l j).args k).toNat:=by
 unfold key at e
 have e1:=Yl e
 refine⟨by omega,fun k hk=>?_⟩
 have e2:=e1.2
 rw [h1] at e2
 have e3:=List.append_cancel_right e2
 have e4:=congrArg (fun z=>z[k]?) e3
 simp only [Xo] at e4
 rw [bw hk,bw (by omega)] at e4
 simp only [WS,WO] at e4
 omega
theorem Gr {l:List ae}(ok:kP l)(out:List Int)(many:Nat)(ks:List (List Int))(next:List Int)(P:Part l.length out many)(I:Ip l out)(K:qu l out l.length ks)(hn:next.length=l.length)
  (hg:∀i,i<l.length→gt next i=(ks.idxOf (key out (nd l i) i):Int)):Ip l next:=by
 refine⟨fun i j hi hj e=>?_,fun R B i j hR=>?_⟩
 ·rw [hg i hi,hg j hj] at e
  have e:ks.idxOf (key out (nd l i) i)=ks.idxOf (key out (nd l j) j):=by omega
  have m1:=XP ((K.mem _).2 ⟨i,hi,rfl⟩)
  have m2:=XP ((K.mem _).2 ⟨j,hj,rfl⟩)
  have g1:=List.getElem_idxOf m1
  have g2:=List.getElem_idxOf m2
  have g3:key out (nd l i) i=key out (nd l j) j:=by rw [←g1,←g2]; congr 1
  exact I.1 i j hi hj (by have:=(Yl g3).1; omega)
 ·obtain⟨hi,hj⟩:=B.nu i j hR
  rw [hg i hi,hg j hj]
  have hk:key out (nd l i) i=key out (nd l j) j:=by
   have hl:=(B.top i j hR).len
   unfold key
   rw [I.2 R B i j hR,hl]
   congr 2
   apply XE fun k=>?_
   simp only [Xo]
   by_cases h:k<(nd l i).args.length
   ·rw [bw h,bw (by omega)]
    simp only [WS,WO]
    rw [I.2 R B _ _ (B.arg i j hR k h)]
   ·rw [W6 (by omega),W6 (by omega)]
  rw [hk]
theorem KP {l:List ae}{r:List Int}{many:Nat}{ks:List (List Int)}(P:Part l.length r many)(K:qu l r l.length ks)(Ac:ks.length=many+1){i j:Nat}(hi:i<l.length)(hj:j<l.length)(e:gt r i=gt r j):key r (nd l i) i=key r (nd l j) j:=by
 by_cases hne:key r (nd l i) i=key r (nd l j) j
 ·exact hne
 ·exfalso
  have Va:=(K.mem _).2 ⟨i,hi,rfl⟩
  have Vb:=(K.mem _).2 ⟨j,hj,rfl⟩
  have hn:((List.range (many+1)).map fun v:Nat=>((v:Int)+1)).Nodup:=by
   unfold List.Nodup
   rw [List.pairwise_map]
   exact List.Pairwise.imp (fun h=>by omega) List.nodup_range
  have:=hn.length_le_of_subset (l₂:=(ks.erase (key r (nd l j) j)).map fun k=>k.headD 0) (fun x hx=>by
   obtain⟨v,hv,rfl⟩:=Xg.1 hx
   obtain⟨q,hq,h⟩:=P.SM v (by have:=List.mem_range.1 hv; omega)
   by_cases G9:key r (nd l q) q=key r (nd l j) j
   ·refine Xg.2 ⟨key r (nd l i) i,(List.mem_erase_of_ne hne).2 Va,?_⟩
    have h1:=(Yl G9).1
    simp [key,e]
    omega
   ·exact Xg.2 ⟨_,(List.mem_erase_of_ne G9).2 ((K.mem _).2 ⟨q,hq,rfl⟩),by simp [key,h]⟩)
  rw [Xu,Xu,List.length_range,List.length_erase_of_mem Vb] at this
  omega
theorem qA {l:List ae}(hT:∀n∈l,AY n){i j:Nat}(hi:i<l.length)(hj:j<l.length)(h:cT (nd l i) (nd l j)=0):Alike (nd l i) (nd l j):=by
 have Ti:=hT _ (fw (i:=(i:Int)) (by omega) (by omega))
 have Tj:=hT _ (fw (i:=(j:Int)) (by omega) (by omega))
 have a3:∀{n:ae},AY n→n.kind=3→n.int=0:=fun T h=>by rcases T.kind with z | z | z | z | z<;>(have:=z.1; first | omega | exact z.2)
 have a0:∀{n:ae},AY n→n.kind≠3→n.args=[]:=fun T h=>by
  rcases T.kind with z | z | z | z | z
  ·exact z.2.2.2
  ·exact z.2.2.2
  ·exact z.2.2
  ·exact absurd z.1 h
  ·exact z.2
 exact F7 h (a3 Ti) (a3 Tj) (a0 Ti) (a0 Tj)
theorem lu {m:Nat}(hm:2 ^ 41≤m){t:an}(h:dQ t=true) :
  ∃cls ns,cm.f m t=some ⟨ns,0⟩∧Min t.nodes cls∧Ps cls t.nodes [] (rp cls t.nodes m t.root []) [] ns∧ef cls t.root∈(rp cls t.nodes m t.root []).map (ef cls):=by
 obtain⟨ok,h1,r0,r1,hT⟩:=jb h
 obtain⟨cls,many,ks,ns,e,P,I,K,Ac,Q,hr⟩:=tT hm ok h1 r0 r1 (Ip t.nodes) (fun d out hp hs hg=>DI hp hs hg) (fun out many ks next P I K hn hg=>Gr ok out many ks next P I K hn hg)
 refine⟨cls,ns,e,⟨P.len,fun i j hi hj e=>qA hT hi hj (I.1 i j hi hj e),fun i j hi hj e k hk=>?_,I.2⟩,Q,hr⟩
 have hA:=qA hT hi hj (I.1 i j hi hj e)
 exact (Gq ok hA.len (KP P K Ac hi hj e)).2 k hk
end Go.Proofs.YtmekcfdllhphlaaDoor
namespace Go.Proofs.YtmekcfdllhphlaaDoor
open Go Go.R
open Go.IntKind (i64 u64 u8 u32)
def uc:cg:=gk [0,1,2,4,5,10,21] [2] [121,105,73,105,41,119,119] [] []
def b6.l0 (m:Nat)(n0:ae)(dE:List Bool):Nat→Int→Option (Sum Bool (Int))
 | 0,_=>none
 | k+1,i0=>if (decide (i0<(n0.args.length:Int)))=true then ((ix n0.args i0).bind fun v0=>(ix dE v0).bind fun v1=>if (!v1)=true then (some (.inl false)) else (b6.l0 m n0 dE k (i64.wrap (i0+(1:Int))))) else (some (.inr i0))
def b6.f (m:Nat)(n0:ae)(dE:List Bool):Option (Bool):=(b6.l0 m n0 dE m (0:Int)).bind fun bq=>match bq with | .inl r0=>some r0 | .inr i1=>some true
def b6.fin (L:Mem)(r:Bool)(s:St):Prop:=∃av,aI Tryd.prog (s.open uc) Tryd.f102.results.toList=some av∧fB s.h av (.bool r)
def Iq (cf:CallF)(m:Nat):Prop:=∀(n0:ae) (dE:List Bool) (r:Bool),b6.f m n0 dE=some r→∀h xs,ej eL h xs [.agg [.int .i64 n0.kind,.int .i64 n0.int,.str n0.label,aa.fz n0.args],cE.fz dE]→cf 102 xs h=some (.bool r,h)
section
variable {cf:CallF}{m:Nat}
theorem b6.bG (L:Mem)(n0:ae)(dE:List Bool)   : bI Tryd.prog cf uc m (sub [1,0,1,0,0] (codeOf Tryd.f102)) (fun k (σ:Int)=>b6.l0 m n0 dE k σ) (fun σ s=>match σ with | i0=>∃h0,s=⟨[.any,cE.fz dE,.lp 2 0,.any,.int .i64 i0,.any,.any],[some [.int .i64 n0.kind,.int .i64 n0.int,.str n0.label,aa.fz n0.args]],h0⟩∧Has h0 (L)) (fun out e s=>(e = .exit 0∧∃i0,.inr i0=out∧∃rF Ay xi tv NC h0,s=⟨[.any,rF,Ay,.any,xi,tv,.any],[NC],h0⟩∧Has h0 (L))∨(e = .ret∧∃r,.inl r=out∧b6.fin L r s)):=by
 refine gS (fun _=>rfl) ?_
 rintro k i0 s out ⟨h0,rfl,o0⟩ H
 have H:b6.l0 m n0 dE (k+1) i0=some out:=H
 refine qq <| qq <| q0 <| qc H (fun c0 H=>?_) (fun c0 H=>?_)
 ·refine qk <| qq <| qb 1 <| qq ?_
  obtain⟨v0,e0,H⟩:=aJ H
  obtain⟨v1,e1,H⟩:=aJ H
  refine qr [.v 4 (bo (k:=.i64) (E:=aa) (l:=n0.args) dC e0),.v 5 (cY  (E:=aa) (l:=n0.args) h0 A3 e0 rfl),.v 6 (bo (k:=.i64) (E:=cE) (l:=dE) Hb e1),.v 7 (cY  (E:=cE) (l:=dE) h0 A4 e1 rfl)] <| qc H (fun c1 H=>?_) (fun c1 H=>?_)
  ·exact q1 <| qt <| XH (⟨rfl,_,oi H,bZ (.bool false) h0 (bX (aj))⟩)
  ·exact qk <| q0 <| ⟨i64.wrap (i0+(1:Int)),⟨h0,by kernel_rfl,o0⟩,H⟩
 ·exact qx 0 <| X6 (⟨rfl,i0,oi H,cE.fz dE,.lp 2 0,.int .i64 i0,.bool (decide (i0<(n0.args.length:Int))),some [.int .i64 n0.kind,.int .i64 n0.int,.str n0.label,aa.fz n0.args],h0,by kernel_rfl,o0⟩)
theorem qB {aS:FuncId→cg}(ha:aS 102=uc)  (n0:ae)(dE:List Bool)(h:AHeap)(L:Mem)  (o:Has h (L)){out:Bool}(H:b6.f m n0 dE=some out) :
  ∃r h',a7 Tryd.prog aS cf m 102 [.agg [.int .i64 n0.kind,.int .i64 n0.int,.str n0.label,aa.fz n0.args],cE.fz dE] h=some (r,h')∧fB h' r (.bool out):=by
 refine ak (fn:=Tryd.f102) ha Tryd.func102 (by kernel_rfl) (by kernel_rfl) ?_
 refine aF (Q:=fun s=>b6.fin L out s) (fun _ _ h=>h) ?_
 have H:_=some out:=H
 unfold b6.f at H
 show de _ cf uc m _ ⟨.agg [.int .i64 n0.kind,.int .i64 n0.int,.str n0.label,aa.fz n0.args]::cE.fz dE::sf [],[none],h⟩ _
 refine q1 <| qq <| qq <| q0 <| qb 0 ?_
 obtain⟨bq,e2,H⟩:=aJ H
 refine ql (b6.bG L n0 dE   (0:Int) _ _ ⟨h,by kernel_rfl,o⟩ e2) ?_
 rintro e s (⟨rfl,i1,rfl,g0,g1,g2,g3,g4,h1,rfl,o1⟩| ⟨rfl,r0,rfl,lJ⟩)
 ·try dsimp only at H
  obtain rfl:=oi H
  exact q1 <| qt <| ⟨.inl rfl,bZ (.bool true) h1 (bX (aj))⟩
 ·try dsimp only at H
  obtain rfl:=oi H
  exact⟨.inl rfl,lJ⟩
end
end Go.Proofs.YtmekcfdllhphlaaDoor
namespace Go.Proofs.YtmekcfdllhphlaaDoor
open Go Go.R
open Go.IntKind (i64 u64 u8 u32)
def xC:cg:=gk [0,1,2,3,4] [2,3] [19,15] [] []
def eZ.f (m:Nat)(a0:ae)(b0:ae):Option (Bool):=if (a0.kind==b0.kind)=true then (if (a0.int==b0.int)=true then (if (a0.label.data.toList==b0.label.data.toList)=true then (some ((a0.args.length:Int)==(b0.args.length:Int))) else (some false)) else (some false)) else (some false)
def eZ.fin (L:Mem)(r:Bool)(s:St):Prop:=∃av,aI Tryd.prog (s.open xC) Tryd.f104.results.toList=some av∧fB s.h av (.bool r)
def DJ (cf:CallF)(m:Nat):Prop:=∀(a0:ae) (b0:ae) (r:Bool),eZ.f m a0 b0=some r→∀h xs,ej eL h xs [.agg [.int .i64 a0.kind,.int .i64 a0.int,.str a0.label,aa.fz a0.args],.agg [.int .i64 b0.kind,.int .i64 b0.int,.str b0.label,aa.fz b0.args]]→cf 104 xs h=some (.bool r,h)
section
variable {cf:CallF}{m:Nat}
theorem qC {aS:FuncId→cg}(ha:aS 104=xC)  (a0:ae)(b0:ae)(h:AHeap)(L:Mem)  (o:Has h (L)){out:Bool}(H:eZ.f m a0 b0=some out) :
  ∃r h',a7 Tryd.prog aS cf m 104 [.agg [.int .i64 a0.kind,.int .i64 a0.int,.str a0.label,aa.fz a0.args],.agg [.int .i64 b0.kind,.int .i64 b0.int,.str b0.label,aa.fz b0.args]] h=some (r,h')∧fB h' r (.bool out):=by
 refine ak (fn:=Tryd.f104) ha Tryd.func104 (by kernel_rfl) (by kernel_rfl) ?_
 refine aF (Q:=fun s=>eZ.fin L out s) (fun _ _ h=>h) ?_
 have H:_=some out:=H
 unfold eZ.f at H
 show de _ cf xC m _ ⟨.agg [.int .i64 a0.kind,.int .i64 a0.int,.str a0.label,aa.fz a0.args] :: .agg [.int .i64 b0.kind,.int .i64 b0.int,.str b0.label,aa.fz b0.args]::jW [],[none,none],h⟩ _
 refine q1 <| qq ?_
 rcases dw H with⟨c0,H⟩| ⟨c0,H⟩
 ·rcases dw H with⟨c1,H⟩| ⟨c1,H⟩
  ·rcases dw H with⟨c2,H⟩| ⟨c2,H⟩
   ·obtain rfl:=oi H
    exact qr [.b 5 c0,.b 12 c1,.b 19 c2] <| qt <| ⟨.inl rfl,bZ (.bool ((a0.args.length:Int)==(b0.args.length:Int))) h (bX (aj))⟩
   ·obtain rfl:=oi H
    exact qr [.b 5 c0,.b 12 c1,.b 19 c2] <| qt <| ⟨.inl rfl,bZ (.bool false) h (bX (aj))⟩
  ·obtain rfl:=oi H
   exact qr [.b 5 c0,.b 12 c1] <| qt <| ⟨.inl rfl,bZ (.bool false) h (bX (aj))⟩
 ·obtain rfl:=oi H
  exact qr [.b 5 c0] <| qt <| ⟨.inl rfl,bZ (.bool false) h (bX (aj))⟩
end
end Go.Proofs.YtmekcfdllhphlaaDoor
namespace Go.Proofs.YtmekcfdllhphlaaDoor
open Go Go.R
open Go.IntKind (i64 u64 u8 u32)
def ud:cg:=gk [0,1,2,3,4,6,7,12,31] [3,4] [483,419,291,419,163,479,479] [] []
def bh.l0 (m:Nat)(a0:ae)(b0:ae)(bn:List Int):Nat→Int→Option (Sum Bool (Int))
 | 0,_=>none
 | k+1,i0=>if (decide (i0<(a0.args.length:Int)))=true then ((ix a0.args i0).bind fun v0=>(ix bn v0).bind fun v1=>(ix b0.args i0).bind fun v2=>(ix bn v2).bind fun v3=>if (!(v1==v3))=true then (some (.inl false)) else (bh.l0 m a0 b0 bn k (i64.wrap (i0+(1:Int))))) else (some (.inr i0))
def bh.f (m:Nat)(a0:ae)(b0:ae)(bn:List Int):Option (Bool):=(bh.l0 m a0 b0 bn m (0:Int)).bind fun bq=>match bq with | .inl r0=>some r0 | .inr i1=>some true
def bh.fin (L:Mem)(r:Bool)(s:St):Prop:=∃av,aI Tryd.prog (s.open ud) Tryd.f105.results.toList=some av∧fB s.h av (.bool r)
def AZ (cf:CallF)(m:Nat):Prop:=∀(a0:ae) (b0:ae) (bn:List Int) (r:Bool),bh.f m a0 b0 bn=some r→∀h xs,ej eL h xs [.agg [.int .i64 a0.kind,.int .i64 a0.int,.str a0.label,aa.fz a0.args],.agg [.int .i64 b0.kind,.int .i64 b0.int,.str b0.label,aa.fz b0.args],aa.fz bn]→cf 105 xs h=some (.bool r,h)
section
variable {cf:CallF}{m:Nat}
theorem bh.bG (L:Mem)(a0:ae)(b0:ae)(bn:List Int)   : bI Tryd.prog cf ud m (sub [1,0,1,0,0] (codeOf Tryd.f105)) (fun k (σ:Int)=>bh.l0 m a0 b0 bn k σ) (fun σ s=>match σ with | i0=>∃h0,s=⟨[.any,.any,aa.fz bn,.lp 3 0,.lp 4 0,.any,.int .i64 i0,.any,.any],[some [.int .i64 a0.kind,.int .i64 a0.int,.str a0.label,aa.fz a0.args],some [.int .i64 b0.kind,.int .i64 b0.int,.str b0.label,aa.fz b0.args]],h0⟩∧Has h0 (L)) (fun out e s=>(e = .exit 0∧∃i0,.inr i0=out∧∃Ay tu Dz tF A0 QL QP h0,s=⟨[.any,.any,Ay,tu,Dz,.any,tF,A0,.any],[QL,QP],h0⟩∧Has h0 (L))∨(e = .ret∧∃r,.inl r=out∧bh.fin L r s)):=by
 refine gS (fun _=>rfl) ?_
 rintro k i0 s out ⟨h0,rfl,o0⟩ H
 have H:bh.l0 m a0 b0 bn (k+1) i0=some out:=H
 refine qq <| qq <| q0 <| qc H (fun c0 H=>?_) (fun c0 H=>?_)
 ·refine qk <| qq <| qb 1 <| qq ?_
  obtain⟨v0,e0,H⟩:=aJ H
  obtain⟨v1,e1,H⟩:=aJ H
  obtain⟨v2,e2,H⟩:=aJ H
  obtain⟨v3,e3,H⟩:=aJ H
  refine qr [.v 4 (bo (k:=.i64) (E:=aa) (l:=a0.args) dC e0),.v 5 (cY  (E:=aa) (l:=a0.args) h0 A3 e0 rfl),.v 6 (bo (k:=.i64) (E:=aa) (l:=bn) dC e1),.v 7 (cY  (E:=aa) (l:=bn) h0 A3 e1 rfl),.v 12 (bo (k:=.i64) (E:=aa) (l:=b0.args) dC e2),.v 13 (cY  (E:=aa) (l:=b0.args) h0 A3 e2 rfl),.v 14 (bo (k:=.i64) (E:=aa) (l:=bn) dC e3),.v 15 (cY  (E:=aa) (l:=bn) h0 A3 e3 rfl)] <| qc H (fun c1 H=>?_) (fun c1 H=>?_)
  ·exact q1 <| qt <| XH (⟨rfl,_,oi H,bZ (.bool false) h0 (bX (aj))⟩)
  ·exact qk <| q0 <| ⟨i64.wrap (i0+(1:Int)),⟨h0,by kernel_rfl,o0⟩,H⟩
 ·exact qx 0 <| X6 (⟨rfl,i0,oi H,aa.fz bn,.lp 3 0,.lp 4 0,.int .i64 i0,.bool (decide (i0<(a0.args.length:Int))),some [.int .i64 a0.kind,.int .i64 a0.int,.str a0.label,aa.fz a0.args],some [.int .i64 b0.kind,.int .i64 b0.int,.str b0.label,aa.fz b0.args],h0,by kernel_rfl,o0⟩)
theorem mY {aS:FuncId→cg}(ha:aS 105=ud)  (a0:ae)(b0:ae)(bn:List Int)(h:AHeap)(L:Mem)  (o:Has h (L)){out:Bool}(H:bh.f m a0 b0 bn=some out) :
  ∃r h',a7 Tryd.prog aS cf m 105 [.agg [.int .i64 a0.kind,.int .i64 a0.int,.str a0.label,aa.fz a0.args],.agg [.int .i64 b0.kind,.int .i64 b0.int,.str b0.label,aa.fz b0.args],aa.fz bn] h=some (r,h')∧fB h' r (.bool out):=by
 refine ak (fn:=Tryd.f105) ha Tryd.func105 (by kernel_rfl) (by kernel_rfl) ?_
 refine aF (Q:=fun s=>bh.fin L out s) (fun _ _ h=>h) ?_
 have H:_=some out:=H
 unfold bh.f at H
 show de _ cf ud m _ ⟨.agg [.int .i64 a0.kind,.int .i64 a0.int,.str a0.label,aa.fz a0.args] :: .agg [.int .i64 b0.kind,.int .i64 b0.int,.str b0.label,aa.fz b0.args]::aa.fz bn::Ha [],[none,none],h⟩ _
 refine q1 <| qq <| qq <| q0 <| qb 0 ?_
 obtain⟨bq,e4,H⟩:=aJ H
 refine ql (bh.bG L a0 b0 bn   (0:Int) _ _ ⟨h,by kernel_rfl,o⟩ e4) ?_
 rintro e s (⟨rfl,i1,rfl,g0,g1,g2,g3,g4,g5,g6,h1,rfl,o1⟩| ⟨rfl,r0,rfl,lJ⟩)
 ·try dsimp only at H
  obtain rfl:=oi H
  exact q1 <| qt <| ⟨.inl rfl,bZ (.bool true) h1 (bX (aj))⟩
 ·try dsimp only at H
  obtain rfl:=oi H
  exact⟨.inl rfl,lJ⟩
end
end Go.Proofs.YtmekcfdllhphlaaDoor
namespace Go.Proofs.YtmekcfdllhphlaaDoor
open Go Go.R
open Go.IntKind (i64 u64 u8 u32)
def uf:cg:=gk [0,1,2,3,8,9,13,42] [] [240,208,144,208,80,239,239] [] []
def cb.l0 (m:Nat)(l0:List ae)(eh:List Int)(n0:Int)(bn:List Int):Nat→Int→Option (Sum Int (Int))
 | 0,_=>none
 | k+1,k0=>if (decide (k0<(eh.length:Int)))=true then ((ix l0 n0).bind fun v0=>(ix eh k0).bind fun v1=>(ix l0 v1).bind fun v2=>(eZ.f m v0 v2).bind fun x0=>if x0=true then ((ix l0 n0).bind fun v3=>(ix eh k0).bind fun v4=>(ix l0 v4).bind fun v5=>(bh.f m v3 v5 bn).bind fun x1=>if x1=true then ((ix eh k0).bind fun v6=>some (.inl v6)) else (cb.l0 m l0 eh n0 bn k (i64.wrap (k0+(1:Int))))) else (cb.l0 m l0 eh n0 bn k (i64.wrap (k0+(1:Int))))) else (some (.inr k0))
def cb.f (m:Nat)(l0:List ae)(eh:List Int)(n0:Int)(bn:List Int):Option (Int):=(cb.l0 m l0 eh n0 bn m (0:Int)).bind fun bq=>match bq with | .inl r0=>some r0 | .inr k1=>some n0
def cb.fin (L:Mem)(r:Int)(s:St):Prop:=∃av,aI Tryd.prog (s.open uf) Tryd.f103.results.toList=some av∧fB s.h av (.int .i64 r)
def Ir (cf:CallF)(m:Nat):Prop:=∀(l0:List ae) (eh:List Int) (n0:Int) (bn:List Int) (r:Int),cb.f m l0 eh n0 bn=some r→∀h xs,ej eL h xs [af.fz l0,aa.fz eh,.int .i64 n0,aa.fz bn]→cf 103 xs h=some (.int .i64 r,h)
section
variable {cf:CallF}{m:Nat}
theorem cb.bG (L:Mem)(l0:List ae)(eh:List Int)(n0:Int)(bn:List Int)  (ny:DJ cf m)(mD:AZ cf m):bI Tryd.prog cf uf m (sub [1,0,1,0,0] (codeOf Tryd.f103)) (fun k (σ:Int)=>cb.l0 m l0 eh n0 bn k σ) (fun σ s=>match σ with | k0=>∃h0,s=⟨[af.fz l0,aa.fz eh,.int .i64 n0,aa.fz bn,.any,.int .i64 k0,.any,.any],[],h0⟩∧Has h0 (L)) (fun out e s=>(e = .exit 0∧∃k0,.inr k0=out∧∃kp rF tu tG nQ h0,s=⟨[kp,rF,.int .i64 n0,tu,.any,tG,nQ,.any],[],h0⟩∧Has h0 (L))∨(e = .ret∧∃r,.inl r=out∧cb.fin L r s)):=by
 refine gS (fun _=>rfl) ?_
 rintro k k0 s out ⟨h0,rfl,o0⟩ H
 have H:cb.l0 m l0 eh n0 bn (k+1) k0=some out:=H
 refine qq <| qq <| q0 <| qc H (fun c0 H=>?_) (fun c0 H=>?_)
 ·refine qk <| qq <| qb 1 <| qq ?_
  obtain⟨v0,e0,H⟩:=aJ H
  obtain⟨v1,e1,H⟩:=aJ H
  obtain⟨v2,e2,H⟩:=aJ H
  obtain⟨x0,e3,H⟩:=aJ H
  rcases dw H with⟨c1,H⟩| ⟨c1,H⟩
  ·obtain⟨v3,e4,H⟩:=aJ H
   obtain⟨v4,e5,H⟩:=aJ H
   obtain⟨v5,e6,H⟩:=aJ H
   obtain⟨x1,e7,H⟩:=aJ H
   refine qr [.v 2 (bo (k:=.i64) (E:=af) (l:=l0) kT e0),.v 3 (cO  (E:=af) (l:=l0) h0 ri rj e0),.v 7 (bo (k:=.i64) (E:=aa) (l:=eh) dC e1),.v 8 (cY  (E:=aa) (l:=eh) h0 A3 e1 rfl),.v 9 (bo (k:=.i64) (E:=af) (l:=l0) kT e2),.v 10 (cO  (E:=af) (l:=l0) h0 ri rj e2),.a 11 (ny _ _ _ e3 h0 _ (ga (ab (bQ (ab (aE) (ab (aE) (ab (bK) (ab (bS (E:=aa)) (ax)))))) (ab (bQ (ab (aE) (ab (aE) (ab (bK) (ab (bS (E:=aa)) (ax)))))) (ax))))),.b 12 c1,.v 15 (bo (k:=.i64) (E:=af) (l:=l0) kT e4),.v 16 (cO  (E:=af) (l:=l0) h0 ri rj e4),.v 20 (bo (k:=.i64) (E:=aa) (l:=eh) dC e5),.v 21 (cY  (E:=aa) (l:=eh) h0 A3 e5 rfl),.v 22 (bo (k:=.i64) (E:=af) (l:=l0) kT e6),.v 23 (cO  (E:=af) (l:=l0) h0 ri rj e6),.a 25 (mD _ _ _ _ e7 h0 _ (ga (ab (bQ (ab (aE) (ab (aE) (ab (bK) (ab (bS (E:=aa)) (ax)))))) (ab (bQ (ab (aE) (ab (aE) (ab (bK) (ab (bS (E:=aa)) (ax)))))) (ab (bS (E:=aa)) (ax))))))] ?_
   refine qc H (fun c2 H=>?_) (fun c2 H=>?_)
   ·refine qq ?_
    obtain⟨v6,e8,H⟩:=aJ H
    exact qr [.v 2 (bo (k:=.i64) (E:=aa) (l:=eh) dC e8),.v 3 (cY  (E:=aa) (l:=eh) h0 A3 e8 rfl)] <| qt <| XH (⟨rfl,_,oi H,bZ (.int .i64 v6) h0 (bX (eu))⟩)
   ·exact qk <| q0 <| ⟨i64.wrap (k0+(1:Int)),⟨h0,by kernel_rfl,o0⟩,H⟩
  ·exact qr [.v 2 (bo (k:=.i64) (E:=af) (l:=l0) kT e0),.v 3 (cO  (E:=af) (l:=l0) h0 ri rj e0),.v 7 (bo (k:=.i64) (E:=aa) (l:=eh) dC e1),.v 8 (cY  (E:=aa) (l:=eh) h0 A3 e1 rfl),.v 9 (bo (k:=.i64) (E:=af) (l:=l0) kT e2),.v 10 (cO  (E:=af) (l:=l0) h0 ri rj e2),.a 11 (ny _ _ _ e3 h0 _ (ga (ab (bQ (ab (aE) (ab (aE) (ab (bK) (ab (bS (E:=aa)) (ax)))))) (ab (bQ (ab (aE) (ab (aE) (ab (bK) (ab (bS (E:=aa)) (ax)))))) (ax))))),.b 12 c1] <| Dq <| qk <| q0 <| ⟨i64.wrap (k0+(1:Int)),⟨h0,by kernel_rfl,o0⟩,H⟩
 ·exact qx 0 <| X6 (⟨rfl,k0,oi H,af.fz l0,aa.fz eh,aa.fz bn,.int .i64 k0,.bool (decide (k0<(eh.length:Int))),h0,by kernel_rfl,o0⟩)
theorem rW {aS:FuncId→cg}(ha:aS 103=uf)(ny:DJ cf m)(mD:AZ cf m)(l0:List ae)(eh:List Int)(n0:Int)(bn:List Int)(h:AHeap)(L:Mem)  (o:Has h (L)){out:Int}(H:cb.f m l0 eh n0 bn=some out) :
  ∃r h',a7 Tryd.prog aS cf m 103 [af.fz l0,aa.fz eh,.int .i64 n0,aa.fz bn] h=some (r,h')∧fB h' r (.int .i64 out):=by
 refine ak (fn:=Tryd.f103) ha Tryd.func103 (by kernel_rfl) (by kernel_rfl) ?_
 refine aF (Q:=fun s=>cb.fin L out s) (fun _ _ h=>h) ?_
 have H:_=some out:=H
 unfold cb.f at H
 show de _ cf uf m _ ⟨af.fz l0::aa.fz eh :: .int .i64 n0::aa.fz bn::re [],[],h⟩ _
 refine q1 <| qq <| qq <| q0 <| qb 0 ?_
 obtain⟨bq,e9,H⟩:=aJ H
 refine ql (cb.bG L l0 eh n0 bn  ny mD (0:Int) _ _ ⟨h,by kernel_rfl,o⟩ e9) ?_
 rintro e s (⟨rfl,k1,rfl,g0,g1,g2,g3,g4,h1,rfl,o1⟩| ⟨rfl,r0,rfl,lJ⟩)
 ·try dsimp only at H
  obtain rfl:=oi H
  exact q1 <| qt <| ⟨.inl rfl,bZ (.int .i64 n0) h1 (bX (eu))⟩
 ·try dsimp only at H
  obtain rfl:=oi H
  exact⟨.inl rfl,lJ⟩
end
end Go.Proofs.YtmekcfdllhphlaaDoor
