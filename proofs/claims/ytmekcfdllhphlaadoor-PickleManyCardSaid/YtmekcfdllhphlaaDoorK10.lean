/- Part of the proof: Q19, PR6, PR7, PT1, PT2, PR8, PR9, PT3, PT4, PT5, PT11, Q16, Q18, Q4, PR10, PT12, PB2, Q102, Q104, Q105, Q103. -/
import Derived.Test.YtmekcfdllhphlaaDoorK9
set_option linter.unusedVariables false
set_option linter.unusedSimpArgs false
set_option maxRecDepth 100000
open Bool renaming and_eq_true → V8
open ByteArray renaming mk → Wu
open Int renaming toNat_natCast → V9
open List renaming length_append → We, append_assoc → Wg, getElem?_eq_getElem → Wh, getElem?_eq_none → Wl, map_cons → Wo, length_cons → Wp, all_eq_true → Ws, mem_map → Wv, nil_append → Wz, getElem?_map → WB, mem_cons → WG, length_map → WI, ext_getElem? → WV, length_nil → WY, idxOf_lt_length_of_mem → W7, mem_of_getElem? → W8, getElem_mem → Xa
open Nat renaming le_refl → V7
open Option renaming bind_some → V3, bind_eq_some_iff → V4, map_some → Wa
open Option.some renaming injEq → V6, inj → Wy
open Or renaming inr → WZ, inl → Xt
namespace Go.Proofs.YtmekcfdllhphlaaDoor
open Go Go.R
open Go.IntKind (i64 u64 u8 u32)
def vz:cb:=gJ [0,2,3,4,5,6,7,8,9,10,11,12,15,33,56,70,93,106] [8] [262142,258046,262137,253950,262137,262134,262118,262086,262022,245638,262022,261894,261638,261126,228358,261126,261126,262022,196590,262137,259054,131055,262137,262137] [(17,[(8,some 0,0)]),(20,[(5,none,0)])] [(6,[(5,none,2)]),(11,[(8,some 0,4)])]
def bb.l1 (m:Nat)(x3:Int × fl):Nat→Int→(List ab)→Int→fl→Option (Int × (List ab) × Int × fl)
 | 0,_,_,_,_=>none
 | k+1,k0,t0,t1,xg=>if (decide (k0<x3.1))=true then (if (!xg.br)=true then ((cV.f m xg).bind fun x4=>(app 56 t0 ([x4.1])).bind fun x5=>bb.l1 m x3 k (i64.wrap (k0+(1:Int))) x5 t1 x4.2) else (some ((k0,t0,t1,xg)))) else (some ((k0,t0,t1,xg)))
def bb.l0 (m:Nat)(x2:Int × fl):Nat→(List aj)→Int→fl→Option ((List aj) × Int × fl)
 | 0,_,_,_=>none
 | k+1,a7,i0,rG=>if (decide (i0<x2.1))=true then (if (!rG.br)=true then (if (decide (x2.1≤(8:Int)))=true then ((bJ.f m rG).bind fun x3=>(bb.l1 m x3 m (0:Int) ([]:List ab) (0:Int) x3.2).bind fun bq=>match bq with | (k1,t2,t3,ob2)=>(app 32 a7 ([(aj.mk t2 t3)])).bind fun x6=>bb.l0 m x2 k x6 (i64.wrap (i0+(1:Int))) ob2) else (some ((a7,i0,rG)))) else (some ((a7,i0,rG)))) else (some ((a7,i0,rG)))
def bb.f (m:Nat)(b0:List Int):Option ((List aj) × Int):=if (decide ((b0.length:Int) > (200000:Int)))=true then (some ([],(3:Int))) else (if (decide ((b0.length:Int)<(7:Int)))=true then (some ([],(2:Int))) else ((nA b0 (0:Int) (i64.wrap ((b0.length:Int) - (4:Int)))).bind fun v0=>(cw.f m v0).bind fun x0=>(nA b0 (i64.wrap ((b0.length:Int) - (4:Int))) (b0.length:Int)).bind fun v1=>(eT.f m x0 v1).bind fun x1=>if (!x1)=true then (some ([],(2:Int))) else ((nA b0 (2:Int) (i64.wrap ((b0.length:Int) - (4:Int)))).bind fun v2=>(bJ.f m (fl.mk v2 false)).bind fun x2=>(bb.l0 m x2 m ([]:List aj) (0:Int) x2.2).bind fun b9=>match b9 with | (nf,i1,IV)=>if IV.br=true then (some ([],(2:Int))) else (if (!((nf.length:Int)==x2.1))=true then (some ([],(2:Int))) else ((bS.f m nf).bind fun x7=>if (!(x7.2==(0:Int)))=true then (some ([],(2:Int))) else ((eT.f m x7.1 b0).bind fun x8=>if (!x8)=true then (some ([],(2:Int))) else (some (nf,(0:Int)))))))))
def bb.fin (L:Mem)(r:(List aj) × Int)(s:St):Prop:=∃av,aI Tryd.prog (s.open vz) Tryd.f19.results.toList=some av∧yi s.h av (.tup [aJ.fz r.1,.int .i64 r.2])
def Qj (cf:CallF)(m:Nat):Prop:=∀(b0:List Int) (r:(List aj) × Int),bb.f m b0=some r→∀h xs,lV xs [au.fz b0]→cf 19 xs h=some (.tup [aJ.fz r.1,.int .i64 r.2],h)
section
variable {cf:CallF}{m:Nat}
theorem bb.eQ (L:Mem)(b0:List Int)(aA:Nat)(x2:Int × fl)(fV:Nat)(a7:List aj)(i0:Int)(fV:Nat)(x3:Int × fl)  (FZ:N4 cf m):bE Tryd.prog cf vz m (sub [1,1,1,1,1,1,0,1,0,0,1,0,0,1,1,0,1,0,0] (codeOf Tryd.f19)) (fun k (σ:Int × (List ab) × Int × fl)=>bb.l1 m x3 k σ.1 σ.2.1 σ.2.2.1 σ.2.2.2) (fun σ s=>match σ with | (k0,t0,t1,xg)=>∃da h4,s=⟨au.fz b0 :: .any :: .any :: .ptr aA 0 :: .rs fV 0 a7.length 2 :: .int .i64 x2.1 :: .int .i64 i0 :: .lp 8 0 :: .int .i64 x3.1 :: .int .i64 k0::ri [],[some [.rs da 0 t0.length 4,.int .i64 t1]],h4⟩∧Has h4 ((aA,.ob [au.fz xg.eH,.bool xg.br])::(da,.sl t0.length 4 (af.l t0))::(fV,.sl a7.length 2 (aJ.l a7))::L)) (fun out e s=>(e = .exit 2∧∃k0 t0 t1 xg,(k0,t0,t1,xg)=out∧∃tm tc Qk da h4,s=⟨au.fz b0 :: .any :: .any :: .ptr aA 0 :: .rs fV 0 a7.length 2 :: .int .i64 x2.1 :: .int .i64 i0 :: .lp 8 0::tm::tc::sY [Qk,.any,.any],[some [.rs da 0 t0.length 4,.int .i64 t1]],h4⟩∧Has h4 ((aA,.ob [au.fz xg.eH,.bool xg.br])::(da,.sl t0.length 4 (af.l t0))::(fV,.sl a7.length 2 (aJ.l a7))::L))):=by
 refine gP (fun _=>rfl) ?_
 rintro k ⟨k0,t0,t1,xg⟩ s out ⟨da,h4,rfl,o6⟩ H
 have H:bb.l1 m x3 (k+1) k0 t0 t1 xg=some out:=H
 refine qq <| qq ?_
 rcases dt H with⟨c7,H⟩| ⟨c7,H⟩
 ·refine qr [.b 3 c7,.v 7 (show bj Tryd.prog h4 4 (.ptr aA 1)=some (.bool xg.br) from ca (q:=0) (cs:=[au.fz xg.eH,.bool xg.br]) o6 rfl (by kernel_rfl))] <| qc H (fun c8 H=>?_) (fun c8 H=>?_)
  ·refine qk <| qq <| qb 3 ?_
   obtain⟨x4,nH,H⟩:=aH H
   obtain⟨h5,qS,o7⟩:=FZ _ _ nH h4 _ _ (o6)  [.ptr aA 0] (an (rfl) (bm))
   obtain⟨x5,rX,H⟩:=aH H
   obtain⟨fk,h6,rY,o8⟩:=fD (P:=Tryd.prog) (E:=af) (l:=t0) (q:=1) (t2:=29) (x:=.fz [.int .i64 x4.1.kind,.int .i64 x4.1.int,.str x4.1.label,aa.fz x4.1.args] 1 true) (l2:=([x4.1])) lh o7 rfl (by kernel_rfl) rfl rX
   exact qr [.a 3 qS,.a 5 rY] <| q0 <| ⟨(i64.wrap (k0+(1:Int)),x5,t1,x4.2),⟨fk,h6,by kernel_rfl,o8⟩,H⟩
  ·exact qx 2 <| ⟨rfl,k0,t0,t1,xg,oi H,.int .i64 x3.1,.int .i64 k0,.bool (!xg.br),da,h4,by kernel_rfl,o6⟩
 ·exact qr [.b 3 c7] <| C7 <| qx 2 <| ⟨rfl,k0,t0,t1,xg,oi H,.int .i64 x3.1,.int .i64 k0,.bool false,da,h4,by kernel_rfl,o6⟩
theorem bb.bI (L:Mem)(b0:List Int)(aA:Nat)(x2:Int × fl)  (mK:Kp cf m)(FZ:N4 cf m):bE Tryd.prog cf vz m (sub [1,1,1,1,1,1,0,1,0,0] (codeOf Tryd.f19)) (fun k (σ:(List aj) × Int × fl)=>bb.l0 m x2 k σ.1 σ.2.1 σ.2.2) (fun σ s=>match σ with | (a7,i0,rG)=>∃fV h2,s=⟨au.fz b0 :: .any :: .any :: .ptr aA 0 :: .rs fV 0 a7.length 2 :: .int .i64 x2.1 :: .int .i64 i0::oI [],[none],h2⟩∧Has h2 ((aA,.ob [au.fz rG.eH,.bool rG.br])::(fV,.sl a7.length 2 (aJ.l a7))::L)) (fun out e s=>(e = .exit 0∧∃a7 i0 rG,(a7,i0,rG)=out∧∃uz Kl fV h2,s=⟨au.fz b0 :: .any :: .any :: .ptr aA 0 :: .rs fV 0 a7.length 2 :: .int .i64 x2.1::uz::C2 (Kl::ke []),[none],h2⟩∧Has h2 ((aA,.ob [au.fz rG.eH,.bool rG.br])::(fV,.sl a7.length 2 (aJ.l a7))::L))):=by
 refine gP (fun _=>rfl) ?_
 rintro k ⟨a7,i0,rG⟩ s out ⟨fV,h2,rfl,o3⟩ H
 have H:bb.l0 m x2 (k+1) a7 i0 rG=some out:=H
 refine qq <| qq ?_
 rcases dt H with⟨c4,H⟩| ⟨c4,H⟩
 ·rcases dt H with⟨c5,H⟩| ⟨c5,H⟩
  ·refine qr [.b 3 c4,.v 7 (show bj Tryd.prog h2 4 (.ptr aA 1)=some (.bool rG.br) from ca (q:=0) (cs:=[au.fz rG.eH,.bool rG.br]) o3 rfl (by kernel_rfl)),.b 10 c5] <| qc H (fun c6 H=>?_) (fun c6 H=>?_)
   ·refine qk <| qq <| qb 1 <| qq <| q0 ?_
    have o4:Has h2 ((((0)),.sl (([]:List ab).length) 4 (af.l ([]:List ab)))::(aA,.ob [au.fz rG.eH,.bool rG.br])::(fV,.sl a7.length 2 (aJ.l a7))::L):=Has.nil o3 4
    refine qq ?_
    obtain⟨x3,e8,H⟩:=aH H
    obtain⟨h3,e9,o5⟩:=mK _ _ e8 h2 _ _ ((Has.front (Has.front (Has.front o4 2 rfl) 1 rfl) 2 rfl))  [.ptr aA 0] (an (rfl) (bm))
    refine qr [.a 1 e9] <| qq <| qq <| q0 <| qb 2 ?_
    obtain⟨bq,qT,H⟩:=aH H
    refine ql (bb.eQ L b0 aA x2 fV a7 i0 fV x3  FZ ((0:Int),([]:List ab),(0:Int),x3.2) _ _ ⟨((0)),h3,by kernel_rfl,o5⟩ qT) ?_
    rintro e s ⟨rfl,k1,t2,t3,ob2,rfl,g0,g1,g2,gQ,h7,rfl,o9⟩
    try dsimp only at H
    obtain⟨h8,pX,uA⟩:=iz (E:=af) (l:=t2) (q:=1) o9 rfl
    obtain⟨x6,uC,H⟩:=aH H
    obtain⟨gL,h9,uf,vk⟩:=fD (P:=Tryd.prog) (E:=aJ) (l:=a7) (q:=1) (t2:=22) (x:=.fz [af.fz t2,.int .i64 t3] 1 true) (l2:=([(aj.mk t2 t3)])) vi uA rfl (by kernel_rfl) rfl uC
    exact yr [.a 0 pX] [.a 3 uf] <| q0 <| ⟨(x6,i64.wrap (i0+(1:Int)),ob2),⟨gL,h9,by kernel_rfl,vk⟩,H⟩
   ·exact qx 0 <| ⟨rfl,a7,i0,rG,oi H,.int .i64 i0,.bool (decide (x2.1≤(8:Int))),fV,h2,by kernel_rfl,o3⟩
  ·exact qr [.b 3 c4,.v 7 (show bj Tryd.prog h2 4 (.ptr aA 1)=some (.bool rG.br) from ca (q:=0) (cs:=[au.fz rG.eH,.bool rG.br]) o3 rfl (by kernel_rfl)),.b 10 c5] <| C7 <| qx 0 <| ⟨rfl,a7,i0,rG,oi H,.int .i64 i0,.bool false,fV,h2,by kernel_rfl,o3⟩
 ·exact qr [.b 3 c4] <| C7 <| qx 0 <| ⟨rfl,a7,i0,rG,oi H,.int .i64 i0,.bool false,fV,h2,by kernel_rfl,o3⟩
theorem rH {aV:FuncId→cb}(ha:aV 19=vz)(AF:N6 cf m)(M9:Sq cf m)(Ku:P7 cf m)(mK:Kp cf m)(FZ:N4 cf m)(b0:List Int)(h:AHeap)(L:Mem)  (o:Has h (L)){out:(List aj) × Int}(H:bb.f m b0=some out) :
  ∃r h',be Tryd.prog aV cf m 19 [au.fz b0] h=some (r,h')∧yi h' r (.tup [aJ.fz out.1,.int .i64 out.2]):=by
 refine aq (fn:=Tryd.f19) ha Tryd.func19 (by kernel_rfl) (by kernel_rfl) ?_
 refine aG (Q:=fun s=>bb.fin L out s) (fun _ _ h=>h) ?_
 have H:_=some out:=H
 unfold bb.f at H
 show de _ cf vz m _ ⟨au.fz b0::EP [],[none],h⟩ _
 refine q1 <| qq <| qq <| q0 <| qc H (fun c0 H=>?_) (fun c0 H=>?_)
 ·obtain rfl:=oi H
  exact q1 <| qt <| ⟨.inl rfl,wM (.tup [.nils,.int .i64 (3:Int)]) h (pF (gj (ae (gD) (ae (aM) (az)))))⟩
 ·refine qk <| qq <| qq ?_
  rcases dt H with⟨c1,H⟩| ⟨c1,H⟩
  ·obtain rfl:=oi H
   exact qr [.b 3 c1] <| mX <| qq <| q0 <| qt <| ⟨.inl rfl,wM (.tup [.nils,.int .i64 (2:Int)]) h (pF (gj (ae (gD) (ae (aM) (az)))))⟩
  ·obtain⟨v0,e0,H⟩:=aH H
   obtain⟨x0,e1,H⟩:=aH H
   obtain⟨v1,e2,H⟩:=aH H
   obtain⟨x1,e3,H⟩:=aH H
   refine qr [.b 3 c1,.v 8 (show eG Tryd.prog 25 (au.fz b0) none (some (.int .i64 (i64.wrap ((b0.length:Int) - (4:Int))))) none=some (au.fz v0) from Bl (E:=au) HJ e0),.a 9 (Ku _ _ e1 h _ (gO (ae (cK (E:=au)) (az)))),.v 14 (show eG Tryd.prog 25 (au.fz b0) (some (.int .i64 (i64.wrap ((b0.length:Int) - (4:Int))))) none none=some (au.fz v1) from wF (E:=au) HJ e2),.a 15 (M9 _ _ _ e3 h _ (gO (ae (cK (E:=au)) (ae (cK (E:=au)) (az)))))] <| qc H (fun c3 H=>?_) (fun c3 H=>?_)
   ·obtain rfl:=oi H
    exact q1 <| qt <| ⟨.inl rfl,wM (.tup [.nils,.int .i64 (2:Int)]) h (pF (gj (ae (gD) (ae (aM) (az)))))⟩
   ·refine qk <| qq ?_
    obtain⟨v2,e4,H⟩:=aH H
    obtain⟨aA,h0,e5,o0⟩:=kc (cs:=[au.fz v2,.bool false]) o (by kernel_rfl)
    refine qr [.v 4 (show eG Tryd.prog 25 (au.fz b0) (some (.int .i64 (2:Int))) (some (.int .i64 (i64.wrap ((b0.length:Int) - (4:Int))))) none=some (au.fz v2) from Bk (E:=au) HJ e4),.a 6 e5] <| qq <| q0 ?_
    have o1:Has h0 (((0),.sl (([]:List aj).length) 2 (aJ.l ([]:List aj)))::(aA,.ob [au.fz v2,.bool false])::L):=Has.nil o0 2
    refine qq ?_
    obtain⟨x2,e6,H⟩:=aH H
    obtain⟨h1,e7,o2⟩:=mK _ _ e6 h0 _ _ ((Has.front (Has.front o1 0 rfl) 1 rfl))  [.ptr aA 0] (an (rfl) (bm))
    refine qr [.a 1 e7] <| qq <| qq <| q0 <| qb 0 ?_
    obtain⟨b9,yD,H⟩:=aH H
    refine ql (bb.bI L b0 aA x2  mK FZ (([]:List aj),(0:Int),x2.2) _ _ ⟨(0),h1,by kernel_rfl,o2⟩ yD) ?_
    rintro e s ⟨rfl,nf,i1,IV,rfl,g3,g4,gM,h10,rfl,tq⟩
    try dsimp only at H
    refine qq <| qq ?_
    rcases dt H with⟨oQ,H⟩| ⟨oQ,H⟩
    ·refine qr [.v 3 (show bj Tryd.prog h10 4 (.ptr aA 1)=some (.bool IV.br) from ca (q:=0) (cs:=[au.fz IV.eH,.bool IV.br]) tq rfl (by kernel_rfl)),.b 4 oQ] ?_
     have ly:Has h10 ((gM,.sl nf.length 2 (aJ.l nf))::L):=Has.del tq 0
     refine mX <| qq <| q0 ?_
     have yv:Has h10 (L):=Has.del ly 0
     obtain rfl:=oi H
     exact qt <| ⟨.inl rfl,wM (.tup [.nils,.int .i64 (2:Int)]) h10 (pF (gj (ae (gD) (ae (aM) (az)))))⟩
    ·refine qr [.v 3 (show bj Tryd.prog h10 4 (.ptr aA 1)=some (.bool IV.br) from ca (q:=0) (cs:=[au.fz IV.eH,.bool IV.br]) tq rfl (by kernel_rfl)),.b 4 oQ] ?_
     have zu:Has h10 ((gM,.sl nf.length 2 (aJ.l nf))::L):=Has.del tq 0
     refine qc H (fun mY H=>?_) (fun mY H=>?_)
     ·refine q1 ?_
      have lC:Has h10 (L):=Has.del zu 0
      obtain rfl:=oi H
      exact qt <| ⟨.inl rfl,wM (.tup [.nils,.int .i64 (2:Int)]) h10 (pF (gj (ae (gD) (ae (aM) (az)))))⟩
     ·refine qk <| qq ?_
      obtain⟨h11,uD,Am⟩:=iz (E:=aJ) (l:=nf) (q:=0) zu rfl
      obtain⟨x7,zw,H⟩:=aH H
      refine yr [.a 0 uD] [.a 1 (AF _ _ zw h11 _ (cR (ib (E:=aJ)) (gH)))] <| qq <| qq ?_
      rcases dt H with⟨BC,H⟩| ⟨BC,H⟩
      ·obtain rfl:=oi H
       exact qr [.b 2 BC] <| mX <| qq <| q0 <| qt <| ⟨.inl rfl,wM (.tup [.nils,.int .i64 (2:Int)]) h11 (pF (gj (ae (gD) (ae (aM) (az)))))⟩
      ·obtain⟨x8,BG,H⟩:=aH H
       refine qr [.b 2 BC,.a 5 (M9 _ _ _ BG h11 _ (gO (ae (cK (E:=au)) (ae (cK (E:=au)) (az)))))] <| qc H (fun Da H=>?_) (fun Da H=>?_)
       ·obtain rfl:=oi H
        exact q1 <| qt <| ⟨.inl rfl,wM (.tup [.nils,.int .i64 (2:Int)]) h11 (pF (gj (ae (gD) (ae (aM) (az)))))⟩
       ·obtain rfl:=oi H
        exact qk <| qq <| q0 <| qt <| ⟨.inl rfl,wM (.tup [aJ.fz nf,.int .i64 (0:Int)]) h11 (pF (gj (ae (cK) (ae (aM) (az)))))⟩
end
end Go.Proofs.YtmekcfdllhphlaaDoor
namespace Go.Proofs.YtmekcfdllhphlaaDoor
open Go Go.R
open Go.IntKind (i64 u64 u8 u32)
def dP (l:List ab):List Int:=(l.map dq).flatten
def jx (t:aj):List Int:=dI t.nodes.length++dP t.nodes
def cy (l:List aj):List Int:=(l.map jx).flatten
def cz (l:List aj):List Int:=[76,1]++(dI l.length++cy l)
structure tL (t:aj):Prop where
 nodes:∀n∈t.nodes,tJ n
 qV:t.nodes.length<2 ^ 30
 root:t.root=0
theorem iV (n:ab)(l:List ab):dP (n::l)=dq n++dP l:=by simp [dP]
theorem iW (t:aj)(l:List aj):cy (t::l)=jx t++cy l:=by simp [cy]
theorem drop_cons {α:Type}{l:List α}{i:Nat}{a:α}{r:List α}(h:l.drop i=a::r):i<l.length∧ix l (i:Int)=some a∧l.drop (i+1)=r∧a∈l:=by
 have h1:i<l.length:=by
  have:=congrArg List.length h
  simp at this
  omega
 have h2:l[i]? = some a:=by
  have:=congrArg (·[0]?) h
  simpa using this
 refine⟨h1,?_,by rw [←List.tail_drop,h]; rfl,W8 h2⟩
 unfold ix
 rw [if_pos (by omega)]
 exact h2
theorem drop_nil {α:Type}{l:List α}{i:Nat}(h:l.drop i=[]):l.length≤i:=by
 have:=congrArg List.length h
 simp at this
 omega
theorem F0 {m:Nat}(hm:11≤m)(v:aj):∀(l:List ab) (f i:Nat) (w:List Int),l.length<f→v.nodes.drop i=l→(∀n∈l,tJ n)→w≠[]→w.length+(dP l).length+2 ^ 41≤140737488355328→i+l.length<2 ^ 40→
  ∃x,aS.l1 m v f (i:Int) w=some (x,w++dP l)
 | l,0,i,w,hf,_,_,_,_,_=>absurd hf (by omega)
 | [],f+1,i,w,hf,hd,hW,hw,hl,hi=>by
  refine⟨i,?_⟩
  have:=drop_nil hd
  unfold aS.l1
  rw [if_neg (by simp; omega)]
  simp [dP]
 | n::l,f+1,i,w,hf,hd,hW,hw,hl,hi=>by
  obtain⟨h1,h2,h3,h4⟩:=drop_cons hd
  have rl:(2:Nat) ^ 41=2199023255552:=by decide
  have nF:(2:Nat) ^ 40=1099511627776:=by decide
  have N7:=hW n (by simp)
  have Up:n.label.size<2 ^ 40:=by
   rcases N7.kind with⟨_,_,h,_⟩| ⟨_,_,h,_⟩| ⟨h,_⟩| ⟨h,_⟩
   ·rw [h]; decide
   ·rw [h]; decide
   ·exact (N7.label (by omega)).2
   ·exact (N7.label (by omega)).2
  rw [iV,We] at hl
  simp only [Wp] at hf hi
  obtain⟨x,ih⟩:=F0 hm v l f (i+1) (w++dq n) (by omega) h3 (fun k hk=>hW k (by simp [hk])) (by simp [hw]) (by simp; omega) (by omega)
  refine⟨x,?_⟩
  unfold aS.l1
  rw [if_pos (by simp; omega),h2,V3,M3 hm N7 (by omega) hw,V3,aC (by omega) (by omega),show ((i:Int)+1)=((i+1:Nat):Int) by omega,ih,iV,Wg]
theorem F3 {m:Nat}(hm:2 ^ 30≤m)(L:List aj):∀(l:List aj) (f i:Nat) (w:List Int),l.length<f→L.drop i=l→(∀t∈l,tL t)→w≠[]→w.length+(cy l).length+2 ^ 41≤140737488355328→i+l.length<2 ^ 40→
  ∃x,aS.l0 m L f (i:Int) w=some (x,w++cy l)
 | l,0,i,w,hf,_,_,_,_,_=>absurd hf (by omega)
 | [],f+1,i,w,hf,hd,hW,hw,hl,hi=>by
  refine⟨i,?_⟩
  have:=drop_nil hd
  unfold aS.l0
  rw [if_neg (by simp; omega)]
  simp [cy]
 | t::l,f+1,i,w,hf,hd,hW,hw,hl,hi=>by
  obtain⟨h1,h2,h3,h4⟩:=drop_cons hd
  have rl:(2:Nat) ^ 41=2199023255552:=by decide
  have nF:(2:Nat) ^ 40=1099511627776:=by decide
  have l8:(2:Nat) ^ 30=1073741824:=by decide
  have Lj:=hW t (by simp)
  have Ay:=Lj.qV
  rw [iW,We] at hl
  have he:(jx t).length=(dI t.nodes.length).length+(dP t.nodes).length:=by simp [jx]
  simp only [Wp] at hf hi
  obtain⟨x,ih⟩:=F3 hm L l f (i+1) (w++jx t) (by omega) h3 (fun k hk=>hW k (by simp [hk])) (by simp [hw]) (by simp; omega) (by omega)
  obtain⟨y,hy⟩:=F0 (m:=m) (by omega) t t.nodes m 0 (w++dI t.nodes.length) (by omega) rfl Lj.nodes (by simp [hw]) (by simp; omega) (by omega)
  have hy:aS.l1 m t m (0:Int) (w++dI t.nodes.length)=_:=hy
  refine⟨x,?_⟩
  unfold aS.l0
  rw [if_pos (by simp; omega),h2,V3,hU (by omega) (by omega),yQ (by omega) (by omega) hw (by omega),V3,hy,V3]
  dsimp only
  rw [aC (by omega) (by omega),show ((i:Int)+1)=((i+1:Nat):Int) by omega]
  rw [show w++dI t.nodes.length++dP t.nodes=w++jx t by simp [jx]]
  rw [ih,iW,Wg]
theorem Na {m:Nat}(hm:2 ^ 30≤m){L:List aj}(hW:∀t∈L,tL t)(hl:(cy L).length+2 ^ 42≤140737488355328)(hL:L.length<2 ^ 30):aS.f m L=(cw.f m (cz L)).bind fun c=>app 1 (cz L) c:=by
 have MD:(2:Nat) ^ 42=4398046511104:=by decide
 have rl:(2:Nat) ^ 41=2199023255552:=by decide
 have nF:(2:Nat) ^ 40=1099511627776:=by decide
 have l8:(2:Nat) ^ 30=1073741824:=by decide
 unfold aS.f
 have h1:wB ([]:List Int) [(76:Int)]=some [76]:=by unfold wB; rw [if_pos (by simp)]; rfl
 have e0:(dI L.length).length≤10:=dM (by omega)
 obtain⟨x,hx⟩:=F3 (m:=m) hm L L m 0 ([76]++[1]++dI L.length) (by omega) rfl hW (by simp) (by simp; omega) (by omega)
 have hx:aS.l0 m L m (0:Int) ([76]++[1]++dI L.length)=_:=hx
 rw [h1,V3,me (by simp) (by simp) (by simp),V3,hU (by omega) (by omega),yQ (by omega) (by omega) (by simp) (by simp),V3,hx,V3]
 dsimp only
 rw [show [(76:Int)]++[1]++dI L.length++cy L=cz L by simp [cz]]
 have h2:sX (cz L)=some ():=by
  unfold sX
  rw [if_pos ⟨by simp [cz],by simp [cz]; omega⟩]
 rw [h2,V3]
 congr 1
 funext c
 cases app 1 (cz L) c<;>rfl
end Go.Proofs.YtmekcfdllhphlaaDoor
namespace Go.Proofs.YtmekcfdllhphlaaDoor
open Go Go.R
open Go.IntKind (i64 u64 u8 u32)
theorem F4 {m:Nat}(hm:11≤m)(x3:Int × fl)(rest:List Int)(hx:x3.1<2 ^ 30):∀(l:List ab) (f k:Nat) (acc:List ab),l.length<f→(k:Int)+l.length=x3.1→acc.length=k→(∀n∈l,tJ n)→
  ∃x,bb.l1 m x3 f (k:Int) acc 0 ⟨dP l++rest,false⟩=some (x,acc++l,0,⟨rest,false⟩)
 | l,0,k,acc,hf,_,_,_=>absurd hf (by omega)
 | [],f+1,k,acc,hf,hk,ha,hW=>by
  refine⟨k,?_⟩
  simp only [WY] at hk
  unfold bb.l1
  rw [if_neg (by simp; omega)]
  simp [dP]
 | n::l,f+1,k,acc,hf,hk,ha,hW=>by
  simp only [Wp] at hf hk
  have l8:(2:Int) ^ 30=1073741824:=by decide
  obtain⟨x,ih⟩:=F4 hm x3 rest hx l f (k+1) (acc++[n]) (by omega) (by omega) (by simp; omega) (fun c hc=>hW c (by simp [hc]))
  refine⟨x,?_⟩
  unfold bb.l1
  have la:app 56 acc [n]=some (acc++[n]):=by unfold app; rw [if_pos (by simp; omega)]
  rw [if_pos (by simp; omega),if_pos (show (!false)=true from rfl),iV,Wg,M4 hm (hW n (by simp)),V3]
  dsimp only
  rw [la,V3,aC (by omega) (by omega),show ((k:Int)+1)=((k+1:Nat):Int) by omega,ih]
  simp
theorem F5 {m:Nat}(hm:2 ^ 30≤m)(x2:Int × fl)(rest:List Int)(hx:x2.1≤8):∀(l:List aj) (f k:Nat) (acc:List aj),l.length<f→(k:Int)+l.length=x2.1→acc.length=k→(∀t∈l,tL t)→
  ∃x,bb.l0 m x2 f acc (k:Int) ⟨cy l++rest,false⟩=some (acc++l,x,⟨rest,false⟩)
 | l,0,k,acc,hf,_,_,_=>absurd hf (by omega)
 | [],f+1,k,acc,hf,hk,ha,hW=>by
  refine⟨k,?_⟩
  simp only [WY] at hk
  unfold bb.l0
  rw [if_neg (by simp; omega)]
  simp [cy]
 | t::l,f+1,k,acc,hf,hk,ha,hW=>by
  simp only [Wp] at hf hk
  have l8:(2:Int) ^ 30=1073741824:=by decide
  have VU:(2:Nat) ^ 30=1073741824:=by decide
  have Lj:=hW t (by simp)
  have Ay:=Lj.qV
  obtain⟨x,ih⟩:=F5 hm x2 rest hx l f (k+1) (acc++[t]) (by omega) (by omega) (by simp; omega) (fun c hc=>hW c (by simp [hc]))
  obtain⟨y,hy⟩:=F4 (m:=m) (by omega) ((t.nodes.length:Int),(⟨dP t.nodes++(cy l++rest),false⟩:fl)) (cy l++rest) (by simp only; omega) t.nodes m 0 [] (by omega) (by simp) rfl Lj.nodes
  have hy:bb.l1 m ((t.nodes.length:Int),(⟨dP t.nodes++(cy l++rest),false⟩:fl)) m (0:Int) [] 0 ⟨dP t.nodes++(cy l++rest),false⟩=_:=hy
  refine⟨x,?_⟩
  unfold bb.l0
  have la:app 32 acc [t]=some (acc++[t]):=by unfold app; rw [if_pos (by simp; omega)]
  rw [if_pos (by simp; omega),if_pos (show (!false)=true from rfl),if_pos (by simp; omega),iW,jx,Wg,Wg,AA (by omega) (by omega),V3]
  dsimp only
  rw [hy,V3]
  dsimp only
  rw [show aj.mk ([]++t.nodes) 0=t by rw [Wz,←Lj.root],la,V3,aC (by omega) (by omega),show ((k:Int)+1)=((k+1:Nat):Int) by omega,ih]
  simp
end Go.Proofs.YtmekcfdllhphlaaDoor
namespace Go.Proofs.YtmekcfdllhphlaaDoor
open Go Go.R
open Go.IntKind (i64 u64 u8 u32)
end Go.Proofs.YtmekcfdllhphlaaDoor
namespace Go.Proofs.YtmekcfdllhphlaaDoor
open Go Go.R
open Go.IntKind (i64 u64 u8 u32)
end Go.Proofs.YtmekcfdllhphlaaDoor
namespace Go.Proofs.YtmekcfdllhphlaaDoor
open Go Go.R
open Go.IntKind (i64 u64 u8 u32)
end Go.Proofs.YtmekcfdllhphlaaDoor
namespace Go.Proofs.YtmekcfdllhphlaaDoor
open Go Go.R
open Go.IntKind (i64 u64 u8 u32)
def Bytes (l:List Int):Prop:=∀x∈l,0≤x∧x<256
theorem tM {m:Nat}{b c:List Int}(H:cw.f m b=some c):Bytes c∧c.length=4:=by
 unfold cw.f at H
 simp only [V4,V6] at H
 obtain⟨x,_,rfl⟩:=H
 refine⟨fun y hy=>?_,rfl⟩
 simp only [WG,List.not_mem_nil,or_false] at hy
 rcases hy with rfl | rfl | rfl | rfl<;>(rw [mz]; omega)
end Go.Proofs.YtmekcfdllhphlaaDoor
namespace Go.Proofs.YtmekcfdllhphlaaDoor
open Go Go.R
open Go.IntKind (i64 u64 u8 u32)
end Go.Proofs.YtmekcfdllhphlaaDoor
namespace Go.Proofs.YtmekcfdllhphlaaDoor
open Go Go.R
open Go.IntKind (i64 u64 u8 u32)
end Go.Proofs.YtmekcfdllhphlaaDoor
namespace Go.Proofs.YtmekcfdllhphlaaDoor
open Go Go.R
open Go.IntKind (i64 u64 u8 u32)
end Go.Proofs.YtmekcfdllhphlaaDoor
namespace Go.Proofs.YtmekcfdllhphlaaDoor
open Go Go.R
open Go.IntKind (i64 u64 u8 u32)
end Go.Proofs.YtmekcfdllhphlaaDoor
namespace Go.Proofs.YtmekcfdllhphlaaDoor
open Go Go.R
open Go.IntKind (i64 u64 u8 u32)
end Go.Proofs.YtmekcfdllhphlaaDoor
namespace Go.Proofs.YtmekcfdllhphlaaDoor
open Go Go.R
open Go.IntKind (i64 u64 u8 u32)
def vA:cb:=gJ [0,1,2,3,4,5,6,7,8,22,27,67,72,85] [2,3,6,7] [16371,15859,16367,16339,15315,16339,16147,14099,16367,15891,11795,15891,7699,16367,16367] [] []
def aU.l1 (m:Nat)(v0:ab)(v1:ab):Nat→Int→Option (Sum Bool (Int))
 | 0,_=>none
 | k+1,k0=>if (decide (k0<(v0.args.length:Int)))=true then ((ix v0.args k0).bind fun v2=>(ix v1.args k0).bind fun v3=>if (!(v2==v3))=true then (some (.inl false)) else (aU.l1 m v0 v1 k (i64.wrap (k0+(1:Int))))) else (some (.inr k0))
def aU.l0 (m:Nat)(a0:aj)(b0:aj):Nat→Int→Option (Sum Bool (Int))
 | 0,_=>none
 | k+1,i0=>if (decide (i0<(a0.nodes.length:Int)))=true then ((ix a0.nodes i0).bind fun v0=>(ix b0.nodes i0).bind fun v1=>if (!(v0.kind==v1.kind))=true then (some (.inl false)) else (if (!(v0.int==v1.int))=true then (some (.inl false)) else (if (!(v0.label.data.toList==v1.label.data.toList))=true then (some (.inl false)) else (if (!((v0.args.length:Int)==(v1.args.length:Int)))=true then (some (.inl false)) else ((aU.l1 m v0 v1 m (0:Int)).bind fun bq=>match bq with | .inl r0=>some (.inl r0) | .inr k1=>aU.l0 m a0 b0 k (i64.wrap (i0+(1:Int)))))))) else (some (.inr i0))
def aU.f (m:Nat)(a0:aj)(b0:aj):Option (Bool):=if (!((a0.nodes.length:Int)==(b0.nodes.length:Int)))=true then (some false) else (if (!(a0.root==b0.root))=true then (some false) else ((aU.l0 m a0 b0 m (0:Int)).bind fun b9=>match b9 with | .inl r1=>some r1 | .inr i1=>some true))
def aU.fin (L:Mem)(r:Bool)(s:St):Prop:=∃av,aI Tryd.prog (s.open vA) Tryd.f18.results.toList=some av∧fT s.h av (.bool r)
def Ql (cf:CallF)(m:Nat):Prop:=∀(a0:aj) (b0:aj) (r:Bool),aU.f m a0 b0=some r→∀h xs,eN fc h xs [.agg [af.fz a0.nodes,.int .i64 a0.root],.agg [af.fz b0.nodes,.int .i64 b0.root]]→cf 18 xs h=some (.bool r,h)
section
variable {cf:CallF}{m:Nat}
theorem aU.eQ (L:Mem)(a0:aj)(b0:aj)(i0:Int)(v0:ab)(v1:ab)   : bE Tryd.prog cf vA m (sub [1,1,0,1,0,0,1,0,0,1,1,1,0,0] (codeOf Tryd.f18)) (fun k (σ:Int)=>aU.l1 m v0 v1 k σ) (fun σ s=>match σ with | k0=>∃h1,s=⟨.any :: .any :: .lp 2 0 :: .lp 3 0 :: .any :: .int .i64 i0 :: .lp 6 0 :: .lp 7 0 :: .int .i64 k0::sY [],[some [af.fz a0.nodes,.int .i64 a0.root],some [af.fz b0.nodes,.int .i64 b0.root],some [.int .i64 v0.kind,.int .i64 v0.int,.str v0.label,aa.fz v0.args],some [.int .i64 v1.kind,.int .i64 v1.int,.str v1.label,aa.fz v1.args]],h1⟩∧Has h1 (L)) (fun out e s=>(e = .exit 2∧∃k0,.inr k0=out∧∃Ar uz oR Qm Uq Ur h1,s=⟨.any :: .any :: .lp 2 0 :: .lp 3 0 :: .any :: .int .i64 i0::Ar::uz::oR::ke [Qm,.any],[some [af.fz a0.nodes,.int .i64 a0.root],some [af.fz b0.nodes,.int .i64 b0.root],Uq,Ur],h1⟩∧Has h1 (L))∨(e = .ret∧∃r,.inl r=out∧aU.fin L r s)):=by
 refine gP (fun _=>rfl) ?_
 rintro k k0 s out ⟨h1,rfl,o1⟩ H
 have H:aU.l1 m v0 v1 (k+1) k0=some out:=H
 refine qq <| qq <| q0 <| qc H (fun nG H=>?_) (fun nG H=>?_)
 ·refine qk <| qq <| qb 3 <| qq ?_
  obtain⟨v2,e2,H⟩:=aH H
  obtain⟨v3,e3,H⟩:=aH H
  refine qr [.v 3 (bo (k:=.i64) (E:=aa) (l:=v0.args) dz e2),.v 4 (cZ  (E:=aa) (l:=v0.args) h1 A3 e2 rfl),.v 8 (bo (k:=.i64) (E:=aa) (l:=v1.args) dz e3),.v 9 (cZ  (E:=aa) (l:=v1.args) h1 A3 e3 rfl)] <| qc H (fun oQ H=>?_) (fun oQ H=>?_)
  ·exact q1 <| qt <| WZ (⟨rfl,_,oi H,bZ (.bool false) h1 (bX (ak))⟩)
  ·exact qk <| q0 <| ⟨i64.wrap (k0+(1:Int)),⟨h1,by kernel_rfl,o1⟩,H⟩
 ·exact qx 2 <| Xt (⟨rfl,k0,oi H,.lp 6 0,.lp 7 0,.int .i64 k0,.bool (decide (k0<(v0.args.length:Int))),some [.int .i64 v0.kind,.int .i64 v0.int,.str v0.label,aa.fz v0.args],some [.int .i64 v1.kind,.int .i64 v1.int,.str v1.label,aa.fz v1.args],h1,by kernel_rfl,o1⟩)
theorem aU.bI (L:Mem)(a0:aj)(b0:aj)   : bE Tryd.prog cf vA m (sub [1,1,0,1,0,0] (codeOf Tryd.f18)) (fun k (σ:Int)=>aU.l0 m a0 b0 k σ) (fun σ s=>match σ with | i0=>∃h0,s=⟨.any :: .any :: .lp 2 0 :: .lp 3 0 :: .any :: .int .i64 i0::ri [],[some [af.fz a0.nodes,.int .i64 a0.root],some [af.fz b0.nodes,.int .i64 b0.root],none,none],h0⟩∧Has h0 (L)) (fun out e s=>(e = .exit 0∧∃i0,.inr i0=out∧∃C8 ta uE AE Nb Qn h0,s=⟨.any :: .any::C8::ta :: .any::uE::qQ (AE::ke []),[Nb,Qn,none,none],h0⟩∧Has h0 (L))∨(e = .ret∧∃r,.inl r=out∧aU.fin L r s)):=by
 refine gP (fun _=>rfl) ?_
 rintro k i0 s out ⟨h0,rfl,o0⟩ H
 have H:aU.l0 m a0 b0 (k+1) i0=some out:=H
 refine qq <| qq <| q0 <| qc H (fun c3 H=>?_) (fun c3 H=>?_)
 ·refine qk <| qq <| qb 1 <| qq ?_
  obtain⟨v0,e0,H⟩:=aH H
  obtain⟨v1,e1,H⟩:=aH H
  refine qr [.v 3 (bo (k:=.i64) (E:=af) (l:=a0.nodes) lh e0),.v 4 (cL  (E:=af) (l:=a0.nodes) h0 rU rV e0),.v 8 (bo (k:=.i64) (E:=af) (l:=b0.nodes) lh e1),.v 9 (cL  (E:=af) (l:=b0.nodes) h0 rU rV e1)] <| qq <| qq ?_
  rcases dt H with⟨c4,H⟩| ⟨c4,H⟩
  ·exact qr [.b 5 c4] <| mX <| qq <| q0 <| qt <| WZ (⟨rfl,_,oi H,bZ (.bool false) h0 (bX (ak))⟩)
  ·rcases dt H with⟨c6,H⟩| ⟨c6,H⟩
   ·exact qr [.b 5 c4,.b 12 c6] <| mX <| qq <| q0 <| qt <| WZ (⟨rfl,_,oi H,bZ (.bool false) h0 (bX (ak))⟩)
   ·rcases dt H with⟨c8,H⟩| ⟨c8,H⟩
    ·exact qr [.b 5 c4,.b 12 c6,.b 19 c8] <| mX <| qq <| q0 <| qt <| WZ (⟨rfl,_,oi H,bZ (.bool false) h0 (bX (ak))⟩)
    ·refine qr [.b 5 c4,.b 12 c6,.b 19 c8] <| qc H (fun rm H=>?_) (fun rm H=>?_)
     ·exact q1 <| qt <| WZ (⟨rfl,_,oi H,bZ (.bool false) h0 (bX (ak))⟩)
     ·refine qk <| qq <| q0 <| qb 2 ?_
      obtain⟨bq,e4,H⟩:=aH H
      refine ql (aU.eQ L a0 b0 i0 v0 v1   (0:Int) _ _ ⟨h0,by kernel_rfl,o0⟩ e4) ?_
      rintro e s (⟨rfl,k1,rfl,g0,g1,g2,g3,g4,g5,h2,rfl,o2⟩| ⟨rfl,r0,rfl,mE⟩)
      ·try dsimp only at H
       exact q0 <| ⟨i64.wrap (i0+(1:Int)),⟨h2,by kernel_rfl,o2⟩,H⟩
      ·try dsimp only at H
       exact WZ (⟨rfl,_,oi H,mE⟩)
 ·exact qx 0 <| Xt (⟨rfl,i0,oi H,.lp 2 0,.lp 3 0,.int .i64 i0,.bool (decide (i0<(a0.nodes.length:Int))),some [af.fz a0.nodes,.int .i64 a0.root],some [af.fz b0.nodes,.int .i64 b0.root],h0,by kernel_rfl,o0⟩)
theorem qd {aV:FuncId→cb}(ha:aV 18=vA)  (a0:aj)(b0:aj)(h:AHeap)(L:Mem)  (o:Has h (L)){out:Bool}(H:aU.f m a0 b0=some out) :
  ∃r h',be Tryd.prog aV cf m 18 [.agg [af.fz a0.nodes,.int .i64 a0.root],.agg [af.fz b0.nodes,.int .i64 b0.root]] h=some (r,h')∧fT h' r (.bool out):=by
 refine aq (fn:=Tryd.f18) ha Tryd.func18 (by kernel_rfl) (by kernel_rfl) ?_
 refine aG (Q:=fun s=>aU.fin L out s) (fun _ _ h=>h) ?_
 have H:_=some out:=H
 unfold aU.f at H
 show de _ cf vA m _ ⟨.agg [af.fz a0.nodes,.int .i64 a0.root] :: .agg [af.fz b0.nodes,.int .i64 b0.root]::mD [],[none,none,none,none],h⟩ _
 refine q1 <| qq <| qq ?_
 rcases dt H with⟨c0,H⟩| ⟨c0,H⟩
 ·obtain rfl:=oi H
  exact qr [.b 7 c0] <| mX <| qq <| q0 <| qt <| ⟨.inl rfl,bZ (.bool false) h (bX (ak))⟩
 ·refine qr [.b 7 c0] <| qc H (fun c2 H=>?_) (fun c2 H=>?_)
  ·obtain rfl:=oi H
   exact q1 <| qt <| ⟨.inl rfl,bZ (.bool false) h (bX (ak))⟩
  ·refine qk <| qq <| qq <| q0 <| qb 0 ?_
   obtain⟨b9,e5,H⟩:=aH H
   refine ql (aU.bI L a0 b0   (0:Int) _ _ ⟨h,by kernel_rfl,o⟩ e5) ?_
   rintro e s (⟨rfl,i1,rfl,g6,g7,g8,g9,g10,g11,h3,rfl,o3⟩| ⟨rfl,r1,rfl,Nc⟩)
   ·try dsimp only at H
    obtain rfl:=oi H
    exact q1 <| qt <| ⟨.inl rfl,bZ (.bool true) h3 (bX (ak))⟩
   ·try dsimp only at H
    obtain rfl:=oi H
    exact⟨.inl rfl,Nc⟩
end
end Go.Proofs.YtmekcfdllhphlaaDoor
namespace Go.Proofs.YtmekcfdllhphlaaDoor
open Go Go.R
open Go.IntKind (i64 u64 u8 u32)
end Go.Proofs.YtmekcfdllhphlaaDoor
namespace Go.Proofs.YtmekcfdllhphlaaDoor
open Go Go.R
open Go.IntKind (i64 u64 u8 u32)
theorem yU {m:Nat}(v:ab)(hv:v.args.length<2 ^ 40):∀(f i:Nat),v.args.length - i<f→i≤v.args.length→∃x,aU.l1 m v v f (i:Int)=some (.inr x)
 | 0,i,hf,_=>absurd hf (by omega)
 | f+1,i,hf,hi=>by
  have nF:(2:Nat) ^ 40=1099511627776:=by decide
  unfold aU.l1
  by_cases h:i<v.args.length
  ·obtain⟨x,ih⟩:=yU (m:=m) v hv f (i+1) (by omega) (by omega)
   refine⟨x,?_⟩
   have hx:ix v.args (i:Int)=some v.args[i]:=by unfold ix; rw [if_pos (by omega)]; simp [h]
   rw [if_pos (by simp; omega),hx,V3,V3,if_neg (by simp),aC (by omega) (by omega),show ((i:Int)+1)=((i+1:Nat):Int) by omega,ih]
  ·exact⟨i,by rw [if_neg (by simp; omega)]⟩
theorem yV {m:Nat}(t:aj)(hm:2 ^ 30≤m)(ht:t.nodes.length<2 ^ 30)(ha:∀n∈t.nodes,n.args.length≤8):∀(f i:Nat),t.nodes.length - i<f→i≤t.nodes.length→∃x,aU.l0 m t t f (i:Int)=some (.inr x)
 | 0,i,hf,_=>absurd hf (by omega)
 | f+1,i,hf,hi=>by
  have l8:(2:Nat) ^ 30=1073741824:=by decide
  unfold aU.l0
  by_cases h:i<t.nodes.length
  ·obtain⟨x,ih⟩:=yV (m:=m) t hm ht ha f (i+1) (by omega) (by omega)
   refine⟨x,?_⟩
   have hx:ix t.nodes (i:Int)=some t.nodes[i]:=by unfold ix; rw [if_pos (by omega)]; simp [h]
   have h8:=ha t.nodes[i] (Xa h)
   obtain⟨y,hy⟩:=yU (m:=m) t.nodes[i] (by omega) m 0 (by omega) (by omega)
   have hy:aU.l1 m t.nodes[i] t.nodes[i] m (0:Int)=_:=hy
   rw [if_pos (by simp; omega),hx,V3,V3,if_neg (by simp),if_neg (by simp),if_neg (by simp),if_neg (by simp),hy,V3]
   dsimp only
   rw [aC (by omega) (by omega),show ((i:Int)+1)=((i+1:Nat):Int) by omega,ih]
  ·exact⟨i,by rw [if_neg (by simp; omega)]⟩
end Go.Proofs.YtmekcfdllhphlaaDoor
namespace Go.Proofs.YtmekcfdllhphlaaDoor
open Go Go.R
open Go.IntKind (i64 u64 u8 u32)
def HZ (t:aj):Prop:=∀n∈t.nodes,n.kind=0→n.int<2 ^ 63
theorem F6 {s:ByteArray}(h:(s.data.toList==[])=true):s=Wu #[]:=by
 have h:=beq_iff_eq.1 h
 cases s with
 | mk d=>
  cases d with
  | mk l=>simp only at h; subst h; rfl
theorem N8 {l:List Int}(h:l.isEmpty=true):l=[]:=by cases l with | nil=>rfl | cons=>cases h
structure F7 (n:ab):Prop where
 kind:n.kind=0∧0≤n.int∧n.label=Wu #[]∧n.args=[]∨n.kind=1∧(-1099511627776≤n.int∧n.int≤1099511627776)∧n.label=Wu #[]∧n.args=[]∨n.kind=2∧n.int=0∧n.args=[]∨n.kind=3∧n.int=0∨n.kind=4∧n.args=[]
 label:n.kind=2∨n.kind=3→1≤n.label.size∧n.label.size≤16
 args:n.args.length≤8
theorem qe {n:ab}{size:Int}(h:j4 n size=true):F7 n∧∀a∈n.args,0≤a∧a<size:=by
 unfold j4 at h
 split at h
 ·rename_i k
  simp only [V8,decide_eq_true_eq] at h
  have ha:=N8 h.2
  exact⟨⟨.inl ⟨k,h.1.1,F6 h.1.2,ha⟩,fun z=>by omega,by rw [ha]; decide⟩,fun a h=>by rw [ha] at h; cases h⟩
 split at h
 ·rename_i k
  simp only [V8,decide_eq_true_eq] at h
  have ha:=N8 h.2
  exact⟨⟨.inr (.inl ⟨k,h.1.1,F6 h.1.2,ha⟩),fun z=>by omega,by rw [ha]; decide⟩,fun a h=>by rw [ha] at h; cases h⟩
 split at h
 ·rename_i k
  simp only [V8,beq_iff_eq] at h
  have ha:=N8 h.2
  exact⟨⟨.inr (.inr (.inl ⟨k,h.1.1,ha⟩)),fun z=>vm h.1.2,by rw [ha]; decide⟩,fun a h=>by rw [ha] at h; cases h⟩
 split at h
 ·rename_i k
  simp only [V8,beq_iff_eq,decide_eq_true_eq,Ws] at h
  exact⟨⟨.inr (.inr (.inr (.inl ⟨k,h.1.1.1.1⟩))),fun z=>vm h.1.1.1.2,h.1.2⟩,h.2⟩
 split at h
 ·rename_i k
  simp only [V8,decide_eq_true_eq] at h
  have ha:=N8 h.2
  exact⟨⟨.inr (.inr (.inr (.inr ⟨k,ha⟩))),fun z=>by omega,by rw [ha]; decide⟩,fun a h=>by rw [ha] at h; cases h⟩
 ·cases h
theorem iT {t:aj}(h:eh t=true):kH t.nodes∧1≤t.nodes.length∧0≤t.root∧t.root<t.nodes.length∧∀n∈t.nodes,F7 n:=by
 unfold eh at h
 simp only [V8,decide_eq_true_eq,Ws] at h
 obtain⟨⟨⟨⟨h1,h2⟩,h3⟩,h4⟩,h5⟩:=h
 exact⟨⟨h2,fun n hn=>⟨(qe (h5 n hn)).1.args,(qe (h5 n hn)).2⟩⟩,h1,h3,h4,fun n hn=>(qe (h5 n hn)).1⟩
structure qW (s:aj):Prop where
 root:s.root=0
 qV:s.nodes.length≤8000
 nodes:∀x∈s.nodes,F7 x∧(x.kind=0→x.int<2 ^ 63)∧∀a∈x.args,0≤a∧a<8000
theorem F7.map {n:ab}(T:F7 n)(f:Int→Int):F7 ⟨n.kind,n.int,n.label,n.args.map f⟩:=by
 refine⟨?_,T.label,by simpa using T.args⟩
 rcases T.kind with⟨a,b,c,d⟩| ⟨a,b,c,d⟩| ⟨a,b,d⟩| ⟨a,b⟩| ⟨a,d⟩
 ·exact .inl ⟨a,b,c,by simp [d]⟩
 ·exact .inr (.inl ⟨a,b,c,by simp [d]⟩)
 ·exact .inr (.inr (.inl ⟨a,b,by simp [d]⟩))
 ·exact .inr (.inr (.inr (.inl ⟨a,b⟩)))
 ·exact .inr (.inr (.inr (.inr ⟨a,by simp [d]⟩)))
theorem vB {m:Nat}(hm:2 ^ 41≤m){t:aj}(h:eh t=true)(h0:HZ t):∃s,cq.f m t=some s∧qW s:=by
 obtain⟨ok,h1,r0,r1,hT⟩:=iT h
 obtain⟨cls,many,ks,ns,e,P,_,K,zN,Q,hr⟩:=tF hm ok h1 r0 r1 (fun _=>True) (fun _ _ _ _ _=>trivial) (fun _ _ _ _ _ _ _ _ _=>trivial)
 have Ay:=Q.vs.qV
 have h8000:=ok.1
 have hlen:=Q.len
 refine⟨_,e,rfl,by dsimp only; omega,fun x hx=>?_⟩
 obtain⟨k,hk,e2⟩:=List.getElem_of_mem hx
 dsimp only at hk e2
 have:=Q.new k (by simp) (by omega)
 rw [Wh hk,e2] at this
 have:=Wy this
 subst this
 have wu:=Q.vs.nc _ (aN (l:=qU cls t.nodes m t.root []) (k:=k) (by omega))
 have Av:=fi wu.1 wu.2
 have Us:=h0 _ Av
 refine⟨(hT _ Av).map _,fun hk=>Us hk,fun a ha=>?_⟩
 obtain⟨b,hb,rfl⟩:=Wv.1 ha
 have hin:=Q.arg k (by simp) (by omega) b hb
 have:=W7 hin
 rw [WI] at this
 unfold idx
 omega
theorem qW.w {s:aj}(L:qW s)(h:s.nodes.any (fun n=>n.kind==4)=false):tL s:=by
 refine⟨fun n hn=>?_,?_,L.root⟩
 ·obtain⟨T,i0,ha⟩:=L.nodes n hn
  have h4:n.kind≠4:=fun e=>by
   have:=List.any_eq_false.1 h n hn
   rw [e] at this; exact absurd this (by decide)
  have VV:(2:Int) ^ 62=4611686018427387904:=by decide
  have G1:(2:Int) ^ 63=9223372036854775808:=by decide
  have nF:(2:Nat) ^ 40=1099511627776:=by decide
  refine⟨?_,fun hk=>?_,T.args,fun a hx=>by have:=ha a hx; omega⟩
  ·rcases T.kind with⟨a,b,c,d⟩| ⟨a,b,c,d⟩| ⟨a,b,d⟩| ⟨a,b⟩| ⟨a,d⟩
   ·exact .inl ⟨a,⟨b,i0 a⟩,c,d⟩
   ·exact .inr (.inl ⟨a,by omega,c,d⟩)
   ·exact .inr (.inr (.inl ⟨a,b,d⟩))
   ·exact .inr (.inr (.inr ⟨a,b⟩))
   ·exact absurd a h4
  ·have:=T.label (by rcases T.kind with h | h | h | h | h<;>(have:=h.1; omega))
   omega
 ·have:=L.qV
  have l8:(2:Nat) ^ 30=1073741824:=by decide
  omega
theorem yW {n:ab}(W:tJ n)(T:F7 n):(dq n).length≤200:=by
 have i64:(2:Int) ^ 63=9223372036854775808:=by decide
 have i62:(2:Int) ^ 62=4611686018427387904:=by decide
 have P6:(2:Nat) ^ 64=18446744073709551616:=by decide
 have G1:(2:Nat) ^ 63=9223372036854775808:=by decide
 have hs:(n.kind=2∨n.kind=3)→(nM n.label).length≤30:=fun h=>by
  obtain⟨h1,h2⟩:=T.label h
  unfold nM
  have:=dM (n:=n.label.size) (by omega)
  rw [We,iD]; omega
 have hargs:∀l:List Int,(∀a∈l,0≤a∧a<2 ^ 63)→((l.map fun a=>dI a.toNat).flatten).length≤10*l.length:=by
  intro l
  induction l with
  | nil=>intro _; simp
  | cons a l ih=>
   intro h
   have h1:=h a (by simp)
   have:=ih fun b hb=>h b (by simp [hb])
   have h2:=dM (n:=a.toNat) (by omega)
   simp only [Wo,List.flatten_cons,We,Wp]
   omega
 unfold dq
 rw [Wp]
 rcases W.kind with⟨a,⟨b,b'⟩,_,_⟩| ⟨a,⟨b,b'⟩,_,_⟩| ⟨a,_⟩| ⟨a,_⟩
 ·rw [if_pos a]
  have:=dM (n:=n.int.toNat) (by omega)
  omega
 ·rw [if_neg (by omega),if_pos a]
  have h1:=AD b b'
  have:=dM (n:=xz n.int) (by omega)
  omega
 ·rw [if_neg (by omega),if_neg (by omega),if_pos a]
  have:=hs (.inl a); omega
 ·rw [if_neg (by omega),if_neg (by omega),if_neg (by omega),We,We]
  have h1:=hs (.inr a)
  have h2:=hargs n.args W.args.2
  have h3:=W.args.1
  have h4:=dM (n:=n.args.length) (by omega)
  omega
theorem Dn {m:Nat}{t:aj}(h:t.nodes.length<2 ^ 40)(h2:t.nodes.length<m):eS.f m t=some (t.nodes.any fun n=>n.kind==4):=by
 unfold eS.f
 rw [vn (f0:=fun y0=>fI.f m y0) (g:=fun n=>n.kind==4) h h2 (fun n _=>rfl)]; rfl
theorem F8 {m:Nat}:∀(f i:Nat) (H0:Int),8 - i<f→i≤8→∃c x,bw.l1 m f H0 (i:Int)=some (c,x)
 | 0,i,H0,hf,_=>absurd hf (by omega)
 | f+1,i,H0,hf,hi=>by
  unfold bw.l1
  by_cases h:i<8
  ·rw [if_pos (by simp only [decide_eq_true_eq]; omega),aC (by omega) (by omega),show (i:Int)+1=((i+1:Nat):Int) by omega]
   exact F8 f (i+1) _ (by omega) (by omega)
  ·exact⟨_,_,by rw [if_neg (by simp only [decide_eq_true_eq]; omega)]⟩
theorem F9 {m:Nat}(hm:10≤m){b:List Int}(hb:b.length<2 ^ 40):∀(f i:Nat) (H0:Int),b.length - i<f→i≤b.length→∃c x,bw.l0 m b f H0 (i:Int)=some (c,x)
 | 0,i,H0,hf,_=>absurd hf (by omega)
 | f+1,i,H0,hf,hi=>by
  have nF:(2:Nat) ^ 40=1099511627776:=by decide
  unfold bw.l0
  by_cases h:i<b.length
  ·obtain⟨c,x,k⟩:=F8 (m:=m) m 0 (kT .u32 H0 (u32.wrap (gt b i))) (by omega) (by omega)
   have k:bw.l1 m m (kT .u32 H0 (u32.wrap (gt b i))) 0=_:=k
   rw [if_pos (by simp only [decide_eq_true_eq]; omega),cn h,V3,k,V3]
   dsimp only
   rw [aC (by omega) (by omega),show (i:Int)+1=((i+1:Nat):Int) by omega]
   exact F9 hm hb f (i+1) _ (by omega) (by omega)
  ·exact⟨_,_,by rw [if_neg (by simp only [decide_eq_true_eq]; omega)]⟩
theorem Dp {m:Nat}(hm:10≤m){b:List Int}(hb:b.length<2 ^ 40)(h:b.length<m):∃c,cw.f m b=some c:=by
 obtain⟨c,x,k⟩:=F9 hm hb m 0 4294967295 (by omega) (by omega)
 have k:bw.l0 m b m 4294967295 0=_:=k
 unfold cw.f bw.f
 rw [k]
 exact⟨_,rfl⟩
end Go.Proofs.YtmekcfdllhphlaaDoor
namespace Go.Proofs.YtmekcfdllhphlaaDoor
open Go Go.R
open Go.IntKind (i64 u64 u8 u32)
structure Dq (l:List ab)(R:Nat→Nat→Prop):Prop where
 nc:∀i j,R i j→i<l.length∧j<l.length
 top:∀i j,R i j→Alike (nd l i) (nd l j)
 arg:∀i j,R i j→∀k,k<(nd l i).args.length→R (gt (nd l i).args k).toNat (gt (nd l j).args k).toNat
structure Min (l:List ab)(r:List Int):Prop where
 len:r.length=l.length
 top:∀i j,i<l.length→j<l.length→gt r i=gt r j→Alike (nd l i) (nd l j)
 arg:∀i j,i<l.length→j<l.length→gt r i=gt r j→∀k,k<(nd l i).args.length→gt r (gt (nd l i).args k).toNat=gt r (gt (nd l j).args k).toNat
 max:∀R,Dq l R→∀i j,R i j→gt r i=gt r j
theorem rZ (a:ab):cT a a=0:=(Alike.refl a).cT
theorem uG {a b c:ab}(h1:cT a b=0)(h2:cT b c=0):cT a c=0:=by
 have n1:=iS a b
 have n2:=iS b c
 have n3:=iS a c
 have t1:=yN a b c (by omega) (by omega)
 have t2:=yN c b a (by omega) (by omega)
 omega
theorem xh {l:List ab}{d:List Int}{k:Nat}:∀j,k≤j→rk l d k=rk l d j→cT (nd l (gt d k)) (nd l (gt d j))=0
 | 0,h,_=>by
   have:k=0:=by omega
   subst this; exact rZ _
 | j+1,h,e=>by
  by_cases hk:k=j+1
  ·subst hk; exact rZ _
  ·have m1:=wY l d k j (by omega)
   have e2:rk l d (j+1)=rk l d j+if cT (nd l (gt d j)) (nd l (gt d (j+1)))=0 then 0 else 1:=rfl
   by_cases hc:cT (nd l (gt d j)) (nd l (gt d (j+1)))=0
   ·rw [if_pos hc] at e2
    exact uG (xh j (by omega) (by omega)) hc
   ·rw [if_neg hc] at e2; omega
theorem xi {l:List ab}{d:List Int}{n:Nat}(S:Sg (fun x y=>cT (nd l x) (nd l y)) d 0 n){k q:Nat}(hq:q<n)(h0:cT (nd l (gt d k)) (nd l (gt d q))=0):∀j,k≤j→j≤q→rk l d j=rk l d k
 | 0,h,_=>by
   have:k=0:=by omega
   subst this; rfl
 | j+1,h,hj=>by
  by_cases hk:k=j+1
  ·subst hk; rfl
  ·have ih:=xi S hq h0 j (by omega) (by omega)
   have Ut:cT (nd l (gt d k)) (nd l (gt d j))≤0:=by
    by_cases e:k=j
    ·subst e; rw [rZ]; omega
    ·have:0≤cT (nd l (gt d j)) (nd l (gt d k)):=S k j (by omega) (by omega) (by omega)
     have n:=iS (nd l (gt d k)) (nd l (gt d j))
     omega
   have Uu:cT (nd l (gt d (j+1))) (nd l (gt d q))≤0:=by
    by_cases e:j+1=q
    ·subst e; rw [rZ]; omega
    ·have:0≤cT (nd l (gt d q)) (nd l (gt d (j+1))):=S (j+1) q (by omega) (by omega) hq
     have n:=iS (nd l (gt d (j+1))) (nd l (gt d q))
     omega
   have Uv:cT (nd l (gt d q)) (nd l (gt d k))≤0:=by have n:=iS (nd l (gt d k)) (nd l (gt d q)); omega
   have VW:=yN _ _ _ (yN _ _ _ Uu Uv) Ut
   have s1:=S j (j+1) (by omega) (by omega) (by omega)
   have n:=iS (nd l (gt d j)) (nd l (gt d (j+1)))
   have hz:cT (nd l (gt d j)) (nd l (gt d (j+1)))=0:=by
    have s1:0≤cT (nd l (gt d (j+1))) (nd l (gt d j)):=s1
    omega
   show rk l d j+(if cT (nd l (gt d j)) (nd l (gt d (j+1)))=0 then 0 else 1)=_
   rw [if_pos hz,ih]; rfl
def H2 (l:List ab)(out:List Int):Prop:=(∀i j,i<l.length→j<l.length→gt out i=gt out j→cT (nd l i) (nd l j)=0)∧∀R,Dq l R→∀i j,R i j→gt out i=gt out j
theorem Dr {l:List ab}{d out:List Int}(hp:d.Perm (ints l.length))(hs:Ord (fun x y=>cT (nd l x) (nd l y)) (ints l.length)→Sg (fun x y=>cT (nd l x) (nd l y)) d 0 l.length)(hg:∀k,k<l.length→gt out (gt d k).toNat=rk l d k):H2 l out:=by
 have S:=hs (Kn _ _)
 have Pl:d.length=l.length:=by rw [hp.length_eq,dG]
 have pos:∀i,i<l.length→∃k,k<l.length∧gt d k=i∧gt out i=rk l d k:=fun i hi=>by
  obtain⟨k,hk,e⟩:=eL (hp.mem_iff.2 (iC.2 (show 0≤(i:Int)∧(i:Int)<l.length by omega)))
  have:=hg k (by omega)
  rw [e,V9] at this
  exact⟨k,by omega,e,this⟩
 refine⟨fun i j hi hj e=>?_,fun R B i j hR=>?_⟩
 ·obtain⟨k,hk,ek,Qo⟩:=pos i hi
  obtain⟨q,hq,eq,Qp⟩:=pos j hj
  rw [Qo,Qp] at e
  rw [←ek,←eq]
  rcases Nat.le_total k q with h | h
  ·exact xh q h (by omega)
  ·have:=xh (l:=l) (d:=d) k h (by omega)
   have n:=iS (nd l (gt d k)) (nd l (gt d q))
   omega
 ·obtain⟨hi,hj⟩:=B.nc i j hR
  obtain⟨k,hk,ek,Qo⟩:=pos i hi
  obtain⟨q,hq,eq,Qp⟩:=pos j hj
  have h0:=(B.top i j hR).cT
  rw [←ek,←eq] at h0
  rw [Qo,Qp]
  rcases Nat.le_total k q with h | h
  ·rw [xi S hq h0 q h (V7 _)]
  ·have n:=iS (nd l (gt d k)) (nd l (gt d q))
   rw [xi S hk (by omega) k h (V7 _)]
theorem Ga {l:List ab}(ok:kH l){out:List Int}{i j:Nat}(h1:(nd l i).args.length=(nd l j).args.length)(e:key out (nd l i) i=key out (nd l j) j):gt out i=gt out j∧∀k,k<(nd l i).args.length→gt out (gt (nd l i).args k).toNat=gt out (gt (nd l j).args k).toNat:=by
 unfold key at e
 have e1:=List.cons.inj e
 refine⟨by omega,fun k hk=>?_⟩
 have e2:=e1.2
 rw [h1] at e2
 have e3:=List.append_cancel_right e2
 have e4:=congrArg (fun z=>z[k]?) e3
 simp only [WB] at e4
 rw [bp hk,bp (by omega)] at e4
 simp only [Wa,V6] at e4
 omega
theorem Gb {l:List ab}(ok:kH l)(out:List Int)(many:Nat)(ks:List (List Int))(next:List Int)(P:Part l.length out many)(I:H2 l out)(K:pY l out l.length ks)(hn:next.length=l.length)
  (hg:∀i,i<l.length→gt next i=(ks.idxOf (key out (nd l i) i):Int)):H2 l next:=by
 refine⟨fun i j hi hj e=>?_,fun R B i j hR=>?_⟩
 ·rw [hg i hi,hg j hj] at e
  have e:ks.idxOf (key out (nd l i) i)=ks.idxOf (key out (nd l j) j):=by omega
  have m1:=W7 ((K.mem _).2 ⟨i,hi,rfl⟩)
  have m2:=W7 ((K.mem _).2 ⟨j,hj,rfl⟩)
  have g1:=List.getElem_idxOf m1
  have g2:=List.getElem_idxOf m2
  have g3:key out (nd l i) i=key out (nd l j) j:=by rw [←g1,←g2]; congr 1
  exact I.1 i j hi hj (by have:=(List.cons.inj g3).1; omega)
 ·obtain⟨hi,hj⟩:=B.nc i j hR
  rw [hg i hi,hg j hj]
  have hk:key out (nd l i) i=key out (nd l j) j:=by
   have hl:=(B.top i j hR).len
   unfold key
   rw [I.2 R B i j hR,hl]
   congr 2
   apply WV fun k=>?_
   simp only [WB]
   by_cases h:k<(nd l i).args.length
   ·rw [bp h,bp (by omega)]
    simp only [Wa,V6]
    rw [I.2 R B _ _ (B.arg i j hR k h)]
   ·rw [Wl (by omega),Wl (by omega)]
  rw [hk]
theorem Kw {l:List ab}{r:List Int}{many:Nat}{ks:List (List Int)}(P:Part l.length r many)(K:pY l r l.length ks)(zN:ks.length=many+1){i j:Nat}(hi:i<l.length)(hj:j<l.length)(e:gt r i=gt r j):key r (nd l i) i=key r (nd l j) j:=by
 by_cases hne:key r (nd l i) i=key r (nd l j) j
 ·exact hne
 ·exfalso
  have Uw:=(K.mem _).2 ⟨i,hi,rfl⟩
  have Ux:=(K.mem _).2 ⟨j,hj,rfl⟩
  have hn:((List.range (many+1)).map fun v:Nat=>((v:Int)+1)).Nodup:=by
   unfold List.Nodup
   rw [List.pairwise_map]
   exact List.Pairwise.imp (fun h=>by omega) List.nodup_range
  have:=hn.length_le_of_subset (l₂:=(ks.erase (key r (nd l j) j)).map fun k=>k.headD 0) (fun x hx=>by
   obtain⟨v,hv,rfl⟩:=Wv.1 hx
   obtain⟨q,hq,h⟩:=P.R7 v (by have:=List.mem_range.1 hv; omega)
   by_cases GU:key r (nd l q) q=key r (nd l j) j
   ·refine Wv.2 ⟨key r (nd l i) i,(List.mem_erase_of_ne hne).2 Uw,?_⟩
    have h1:=(List.cons.inj GU).1
    simp [key,e]
    omega
   ·exact Wv.2 ⟨_,(List.mem_erase_of_ne GU).2 ((K.mem _).2 ⟨q,hq,rfl⟩),by simp [key,h]⟩)
  rw [WI,WI,List.length_range,List.length_erase_of_mem Ux] at this
  omega
theorem vC {l:List ab}(hT:∀n∈l,F7 n){i j:Nat}(hi:i<l.length)(hj:j<l.length)(h:cT (nd l i) (nd l j)=0):Alike (nd l i) (nd l j):=by
 have Ti:=hT _ (fi (i:=(i:Int)) (by omega) (by omega))
 have Tj:=hT _ (fi (i:=(j:Int)) (by omega) (by omega))
 have a3:∀{n:ab},F7 n→n.kind=3→n.int=0:=fun T h=>by rcases T.kind with z | z | z | z | z<;>(have:=z.1; first | omega | exact z.2)
 have a0:∀{n:ab},F7 n→n.kind≠3→n.args=[]:=fun T h=>by
  rcases T.kind with z | z | z | z | z
  ·exact z.2.2.2
  ·exact z.2.2.2
  ·exact z.2.2
  ·exact absurd z.1 h
  ·exact z.2
 exact FQ h (a3 Ti) (a3 Tj) (a0 Ti) (a0 Tj)
theorem kZ {m:Nat}(hm:2 ^ 41≤m){t:aj}(h:eh t=true) :
  ∃cls ns,cq.f m t=some ⟨ns,0⟩∧Min t.nodes cls∧Ps cls t.nodes [] (qU cls t.nodes m t.root []) [] ns∧dV cls t.root∈(qU cls t.nodes m t.root []).map (dV cls):=by
 obtain⟨ok,h1,r0,r1,hT⟩:=iT h
 obtain⟨cls,many,ks,ns,e,P,I,K,zN,Q,hr⟩:=tF hm ok h1 r0 r1 (H2 t.nodes) (fun d out hp hs hg=>Dr hp hs hg) (fun out many ks next P I K hn hg=>Gb ok out many ks next P I K hn hg)
 refine⟨cls,ns,e,⟨P.len,fun i j hi hj e=>vC hT hi hj (I.1 i j hi hj e),fun i j hi hj e k hk=>?_,I.2⟩,Q,hr⟩
 have hA:=vC hT hi hj (I.1 i j hi hj e)
 exact (Ga ok hA.len (Kw P K zN hi hj e)).2 k hk
end Go.Proofs.YtmekcfdllhphlaaDoor
namespace Go.Proofs.YtmekcfdllhphlaaDoor
open Go Go.R
open Go.IntKind (i64 u64 u8 u32)
def tN:cb:=gJ [0,1,2,4,5,10,21] [2] [121,105,73,105,41,119,119] [] []
def bU.l0 (m:Nat)(n0:ab)(dB:List Bool):Nat→Int→Option (Sum Bool (Int))
 | 0,_=>none
 | k+1,i0=>if (decide (i0<(n0.args.length:Int)))=true then ((ix n0.args i0).bind fun v0=>(ix dB v0).bind fun v1=>if (!v1)=true then (some (.inl false)) else (bU.l0 m n0 dB k (i64.wrap (i0+(1:Int))))) else (some (.inr i0))
def bU.f (m:Nat)(n0:ab)(dB:List Bool):Option (Bool):=(bU.l0 m n0 dB m (0:Int)).bind fun bq=>match bq with | .inl r0=>some r0 | .inr i1=>some true
def bU.fin (L:Mem)(r:Bool)(s:St):Prop:=∃av,aI Tryd.prog (s.open tN) Tryd.f102.results.toList=some av∧fT s.h av (.bool r)
def H3 (cf:CallF)(m:Nat):Prop:=∀(n0:ab) (dB:List Bool) (r:Bool),bU.f m n0 dB=some r→∀h xs,eN fc h xs [.agg [.int .i64 n0.kind,.int .i64 n0.int,.str n0.label,aa.fz n0.args],cu.fz dB]→cf 102 xs h=some (.bool r,h)
section
variable {cf:CallF}{m:Nat}
theorem bU.bI (L:Mem)(n0:ab)(dB:List Bool)   : bE Tryd.prog cf tN m (sub [1,0,1,0,0] (codeOf Tryd.f102)) (fun k (σ:Int)=>bU.l0 m n0 dB k σ) (fun σ s=>match σ with | i0=>∃h0,s=⟨[.any,cu.fz dB,.lp 2 0,.any,.int .i64 i0,.any,.any],[some [.int .i64 n0.kind,.int .i64 n0.int,.str n0.label,aa.fz n0.args]],h0⟩∧Has h0 (L)) (fun out e s=>(e = .exit 0∧∃i0,.inr i0=out∧∃uy C8 uE tc Nb h0,s=⟨[.any,uy,C8,.any,uE,tc,.any],[Nb],h0⟩∧Has h0 (L))∨(e = .ret∧∃r,.inl r=out∧bU.fin L r s)):=by
 refine gP (fun _=>rfl) ?_
 rintro k i0 s out ⟨h0,rfl,o0⟩ H
 have H:bU.l0 m n0 dB (k+1) i0=some out:=H
 refine qq <| qq <| q0 <| qc H (fun c0 H=>?_) (fun c0 H=>?_)
 ·refine qk <| qq <| qb 1 <| qq ?_
  obtain⟨v0,e0,H⟩:=aH H
  obtain⟨v1,e1,H⟩:=aH H
  refine qr [.v 4 (bo (k:=.i64) (E:=aa) (l:=n0.args) dz e0),.v 5 (cZ  (E:=aa) (l:=n0.args) h0 A3 e0 rfl),.v 6 (bo (k:=.i64) (E:=cu) (l:=dB) GW e1),.v 7 (cZ  (E:=cu) (l:=dB) h0 A4 e1 rfl)] <| qc H (fun c1 H=>?_) (fun c1 H=>?_)
  ·exact q1 <| qt <| WZ (⟨rfl,_,oi H,bZ (.bool false) h0 (bX (ak))⟩)
  ·exact qk <| q0 <| ⟨i64.wrap (i0+(1:Int)),⟨h0,by kernel_rfl,o0⟩,H⟩
 ·exact qx 0 <| Xt (⟨rfl,i0,oi H,cu.fz dB,.lp 2 0,.int .i64 i0,.bool (decide (i0<(n0.args.length:Int))),some [.int .i64 n0.kind,.int .i64 n0.int,.str n0.label,aa.fz n0.args],h0,by kernel_rfl,o0⟩)
theorem qf {aV:FuncId→cb}(ha:aV 102=tN)  (n0:ab)(dB:List Bool)(h:AHeap)(L:Mem)  (o:Has h (L)){out:Bool}(H:bU.f m n0 dB=some out) :
  ∃r h',be Tryd.prog aV cf m 102 [.agg [.int .i64 n0.kind,.int .i64 n0.int,.str n0.label,aa.fz n0.args],cu.fz dB] h=some (r,h')∧fT h' r (.bool out):=by
 refine aq (fn:=Tryd.f102) ha Tryd.func102 (by kernel_rfl) (by kernel_rfl) ?_
 refine aG (Q:=fun s=>bU.fin L out s) (fun _ _ h=>h) ?_
 have H:_=some out:=H
 unfold bU.f at H
 show de _ cf tN m _ ⟨.agg [.int .i64 n0.kind,.int .i64 n0.int,.str n0.label,aa.fz n0.args]::cu.fz dB::sY [],[none],h⟩ _
 refine q1 <| qq <| qq <| q0 <| qb 0 ?_
 obtain⟨bq,e2,H⟩:=aH H
 refine ql (bU.bI L n0 dB   (0:Int) _ _ ⟨h,by kernel_rfl,o⟩ e2) ?_
 rintro e s (⟨rfl,i1,rfl,g0,g1,g2,g3,g4,h1,rfl,o1⟩| ⟨rfl,r0,rfl,mE⟩)
 ·try dsimp only at H
  obtain rfl:=oi H
  exact q1 <| qt <| ⟨.inl rfl,bZ (.bool true) h1 (bX (ak))⟩
 ·try dsimp only at H
  obtain rfl:=oi H
  exact⟨.inl rfl,mE⟩
end
end Go.Proofs.YtmekcfdllhphlaaDoor
namespace Go.Proofs.YtmekcfdllhphlaaDoor
open Go Go.R
open Go.IntKind (i64 u64 u8 u32)
def xj:cb:=gJ [0,1,2,3,4] [2,3] [19,15] [] []
def eU.f (m:Nat)(a0:ab)(b0:ab):Option (Bool):=if (a0.kind==b0.kind)=true then (if (a0.int==b0.int)=true then (if (a0.label.data.toList==b0.label.data.toList)=true then (some ((a0.args.length:Int)==(b0.args.length:Int))) else (some false)) else (some false)) else (some false)
def eU.fin (L:Mem)(r:Bool)(s:St):Prop:=∃av,aI Tryd.prog (s.open xj) Tryd.f104.results.toList=some av∧fT s.h av (.bool r)
def Ds (cf:CallF)(m:Nat):Prop:=∀(a0:ab) (b0:ab) (r:Bool),eU.f m a0 b0=some r→∀h xs,eN fc h xs [.agg [.int .i64 a0.kind,.int .i64 a0.int,.str a0.label,aa.fz a0.args],.agg [.int .i64 b0.kind,.int .i64 b0.int,.str b0.label,aa.fz b0.args]]→cf 104 xs h=some (.bool r,h)
section
variable {cf:CallF}{m:Nat}
theorem qg {aV:FuncId→cb}(ha:aV 104=xj)  (a0:ab)(b0:ab)(h:AHeap)(L:Mem)  (o:Has h (L)){out:Bool}(H:eU.f m a0 b0=some out) :
  ∃r h',be Tryd.prog aV cf m 104 [.agg [.int .i64 a0.kind,.int .i64 a0.int,.str a0.label,aa.fz a0.args],.agg [.int .i64 b0.kind,.int .i64 b0.int,.str b0.label,aa.fz b0.args]] h=some (r,h')∧fT h' r (.bool out):=by
 refine aq (fn:=Tryd.f104) ha Tryd.func104 (by kernel_rfl) (by kernel_rfl) ?_
 refine aG (Q:=fun s=>eU.fin L out s) (fun _ _ h=>h) ?_
 have H:_=some out:=H
 unfold eU.f at H
 show de _ cf xj m _ ⟨.agg [.int .i64 a0.kind,.int .i64 a0.int,.str a0.label,aa.fz a0.args] :: .agg [.int .i64 b0.kind,.int .i64 b0.int,.str b0.label,aa.fz b0.args]::ke [],[none,none],h⟩ _
 refine q1 <| qq ?_
 rcases dt H with⟨c0,H⟩| ⟨c0,H⟩
 ·rcases dt H with⟨c1,H⟩| ⟨c1,H⟩
  ·rcases dt H with⟨c2,H⟩| ⟨c2,H⟩
   ·obtain rfl:=oi H
    exact qr [.b 5 c0,.b 12 c1,.b 19 c2] <| qt <| ⟨.inl rfl,bZ (.bool ((a0.args.length:Int)==(b0.args.length:Int))) h (bX (ak))⟩
   ·obtain rfl:=oi H
    exact qr [.b 5 c0,.b 12 c1,.b 19 c2] <| qt <| ⟨.inl rfl,bZ (.bool false) h (bX (ak))⟩
  ·obtain rfl:=oi H
   exact qr [.b 5 c0,.b 12 c1] <| qt <| ⟨.inl rfl,bZ (.bool false) h (bX (ak))⟩
 ·obtain rfl:=oi H
  exact qr [.b 5 c0] <| qt <| ⟨.inl rfl,bZ (.bool false) h (bX (ak))⟩
end
end Go.Proofs.YtmekcfdllhphlaaDoor
namespace Go.Proofs.YtmekcfdllhphlaaDoor
open Go Go.R
open Go.IntKind (i64 u64 u8 u32)
def tO:cb:=gJ [0,1,2,3,4,6,7,12,31] [3,4] [483,419,291,419,163,479,479] [] []
def bg.l0 (m:Nat)(a0:ab)(b0:ab)(bl:List Int):Nat→Int→Option (Sum Bool (Int))
 | 0,_=>none
 | k+1,i0=>if (decide (i0<(a0.args.length:Int)))=true then ((ix a0.args i0).bind fun v0=>(ix bl v0).bind fun v1=>(ix b0.args i0).bind fun v2=>(ix bl v2).bind fun v3=>if (!(v1==v3))=true then (some (.inl false)) else (bg.l0 m a0 b0 bl k (i64.wrap (i0+(1:Int))))) else (some (.inr i0))
def bg.f (m:Nat)(a0:ab)(b0:ab)(bl:List Int):Option (Bool):=(bg.l0 m a0 b0 bl m (0:Int)).bind fun bq=>match bq with | .inl r0=>some r0 | .inr i1=>some true
def bg.fin (L:Mem)(r:Bool)(s:St):Prop:=∃av,aI Tryd.prog (s.open tO) Tryd.f105.results.toList=some av∧fT s.h av (.bool r)
def AG (cf:CallF)(m:Nat):Prop:=∀(a0:ab) (b0:ab) (bl:List Int) (r:Bool),bg.f m a0 b0 bl=some r→∀h xs,eN fc h xs [.agg [.int .i64 a0.kind,.int .i64 a0.int,.str a0.label,aa.fz a0.args],.agg [.int .i64 b0.kind,.int .i64 b0.int,.str b0.label,aa.fz b0.args],aa.fz bl]→cf 105 xs h=some (.bool r,h)
section
variable {cf:CallF}{m:Nat}
theorem bg.bI (L:Mem)(a0:ab)(b0:ab)(bl:List Int)   : bE Tryd.prog cf tO m (sub [1,0,1,0,0] (codeOf Tryd.f105)) (fun k (σ:Int)=>bg.l0 m a0 b0 bl k σ) (fun σ s=>match σ with | i0=>∃h0,s=⟨[.any,.any,aa.fz bl,.lp 3 0,.lp 4 0,.any,.int .i64 i0,.any,.any],[some [.int .i64 a0.kind,.int .i64 a0.int,.str a0.label,aa.fz a0.args],some [.int .i64 b0.kind,.int .i64 b0.int,.str b0.label,aa.fz b0.args]],h0⟩∧Has h0 (L)) (fun out e s=>(e = .exit 0∧∃i0,.inr i0=out∧∃C8 ta Dh uz Gc Qn Qq h0,s=⟨[.any,.any,C8,ta,Dh,.any,uz,Gc,.any],[Qn,Qq],h0⟩∧Has h0 (L))∨(e = .ret∧∃r,.inl r=out∧bg.fin L r s)):=by
 refine gP (fun _=>rfl) ?_
 rintro k i0 s out ⟨h0,rfl,o0⟩ H
 have H:bg.l0 m a0 b0 bl (k+1) i0=some out:=H
 refine qq <| qq <| q0 <| qc H (fun c0 H=>?_) (fun c0 H=>?_)
 ·refine qk <| qq <| qb 1 <| qq ?_
  obtain⟨v0,e0,H⟩:=aH H
  obtain⟨v1,e1,H⟩:=aH H
  obtain⟨v2,e2,H⟩:=aH H
  obtain⟨v3,e3,H⟩:=aH H
  refine qr [.v 4 (bo (k:=.i64) (E:=aa) (l:=a0.args) dz e0),.v 5 (cZ  (E:=aa) (l:=a0.args) h0 A3 e0 rfl),.v 6 (bo (k:=.i64) (E:=aa) (l:=bl) dz e1),.v 7 (cZ  (E:=aa) (l:=bl) h0 A3 e1 rfl),.v 12 (bo (k:=.i64) (E:=aa) (l:=b0.args) dz e2),.v 13 (cZ  (E:=aa) (l:=b0.args) h0 A3 e2 rfl),.v 14 (bo (k:=.i64) (E:=aa) (l:=bl) dz e3),.v 15 (cZ  (E:=aa) (l:=bl) h0 A3 e3 rfl)] <| qc H (fun c1 H=>?_) (fun c1 H=>?_)
  ·exact q1 <| qt <| WZ (⟨rfl,_,oi H,bZ (.bool false) h0 (bX (ak))⟩)
  ·exact qk <| q0 <| ⟨i64.wrap (i0+(1:Int)),⟨h0,by kernel_rfl,o0⟩,H⟩
 ·exact qx 0 <| Xt (⟨rfl,i0,oi H,aa.fz bl,.lp 3 0,.lp 4 0,.int .i64 i0,.bool (decide (i0<(a0.args.length:Int))),some [.int .i64 a0.kind,.int .i64 a0.int,.str a0.label,aa.fz a0.args],some [.int .i64 b0.kind,.int .i64 b0.int,.str b0.label,aa.fz b0.args],h0,by kernel_rfl,o0⟩)
theorem mL {aV:FuncId→cb}(ha:aV 105=tO)  (a0:ab)(b0:ab)(bl:List Int)(h:AHeap)(L:Mem)  (o:Has h (L)){out:Bool}(H:bg.f m a0 b0 bl=some out) :
  ∃r h',be Tryd.prog aV cf m 105 [.agg [.int .i64 a0.kind,.int .i64 a0.int,.str a0.label,aa.fz a0.args],.agg [.int .i64 b0.kind,.int .i64 b0.int,.str b0.label,aa.fz b0.args],aa.fz bl] h=some (r,h')∧fT h' r (.bool out):=by
 refine aq (fn:=Tryd.f105) ha Tryd.func105 (by kernel_rfl) (by kernel_rfl) ?_
 refine aG (Q:=fun s=>bg.fin L out s) (fun _ _ h=>h) ?_
 have H:_=some out:=H
 unfold bg.f at H
 show de _ cf tO m _ ⟨.agg [.int .i64 a0.kind,.int .i64 a0.int,.str a0.label,aa.fz a0.args] :: .agg [.int .i64 b0.kind,.int .i64 b0.int,.str b0.label,aa.fz b0.args]::aa.fz bl::GV [],[none,none],h⟩ _
 refine q1 <| qq <| qq <| q0 <| qb 0 ?_
 obtain⟨bq,e4,H⟩:=aH H
 refine ql (bg.bI L a0 b0 bl   (0:Int) _ _ ⟨h,by kernel_rfl,o⟩ e4) ?_
 rintro e s (⟨rfl,i1,rfl,g0,g1,g2,g3,g4,g5,g6,h1,rfl,o1⟩| ⟨rfl,r0,rfl,mE⟩)
 ·try dsimp only at H
  obtain rfl:=oi H
  exact q1 <| qt <| ⟨.inl rfl,bZ (.bool true) h1 (bX (ak))⟩
 ·try dsimp only at H
  obtain rfl:=oi H
  exact⟨.inl rfl,mE⟩
end
end Go.Proofs.YtmekcfdllhphlaaDoor
namespace Go.Proofs.YtmekcfdllhphlaaDoor
open Go Go.R
open Go.IntKind (i64 u64 u8 u32)
def tP:cb:=gJ [0,1,2,3,8,9,13,42] [] [240,208,144,208,80,239,239] [] []
def b5.l0 (m:Nat)(l0:List ab)(dW:List Int)(n0:Int)(bl:List Int):Nat→Int→Option (Sum Int (Int))
 | 0,_=>none
 | k+1,k0=>if (decide (k0<(dW.length:Int)))=true then ((ix l0 n0).bind fun v0=>(ix dW k0).bind fun v1=>(ix l0 v1).bind fun v2=>(eU.f m v0 v2).bind fun x0=>if x0=true then ((ix l0 n0).bind fun v3=>(ix dW k0).bind fun v4=>(ix l0 v4).bind fun v5=>(bg.f m v3 v5 bl).bind fun x1=>if x1=true then ((ix dW k0).bind fun v6=>some (.inl v6)) else (b5.l0 m l0 dW n0 bl k (i64.wrap (k0+(1:Int))))) else (b5.l0 m l0 dW n0 bl k (i64.wrap (k0+(1:Int))))) else (some (.inr k0))
def b5.f (m:Nat)(l0:List ab)(dW:List Int)(n0:Int)(bl:List Int):Option (Int):=(b5.l0 m l0 dW n0 bl m (0:Int)).bind fun bq=>match bq with | .inl r0=>some r0 | .inr k1=>some n0
def b5.fin (L:Mem)(r:Int)(s:St):Prop:=∃av,aI Tryd.prog (s.open tP) Tryd.f103.results.toList=some av∧fT s.h av (.int .i64 r)
def H4 (cf:CallF)(m:Nat):Prop:=∀(l0:List ab) (dW:List Int) (n0:Int) (bl:List Int) (r:Int),b5.f m l0 dW n0 bl=some r→∀h xs,eN fc h xs [af.fz l0,aa.fz dW,.int .i64 n0,aa.fz bl]→cf 103 xs h=some (.int .i64 r,h)
section
variable {cf:CallF}{m:Nat}
theorem b5.bI (L:Mem)(l0:List ab)(dW:List Int)(n0:Int)(bl:List Int)  (ng:Ds cf m)(mf:AG cf m):bE Tryd.prog cf tP m (sub [1,0,1,0,0] (codeOf Tryd.f103)) (fun k (σ:Int)=>b5.l0 m l0 dW n0 bl k σ) (fun σ s=>match σ with | k0=>∃h0,s=⟨[af.fz l0,aa.fz dW,.int .i64 n0,aa.fz bl,.any,.int .i64 k0,.any,.any],[],h0⟩∧Has h0 (L)) (fun out e s=>(e = .exit 0∧∃k0,.inr k0=out∧∃kC uy ta tm nE h0,s=⟨[kC,uy,.int .i64 n0,ta,.any,tm,nE,.any],[],h0⟩∧Has h0 (L))∨(e = .ret∧∃r,.inl r=out∧b5.fin L r s)):=by
 refine gP (fun _=>rfl) ?_
 rintro k k0 s out ⟨h0,rfl,o0⟩ H
 have H:b5.l0 m l0 dW n0 bl (k+1) k0=some out:=H
 refine qq <| qq <| q0 <| qc H (fun c0 H=>?_) (fun c0 H=>?_)
 ·refine qk <| qq <| qb 1 <| qq ?_
  obtain⟨v0,e0,H⟩:=aH H
  obtain⟨v1,e1,H⟩:=aH H
  obtain⟨v2,e2,H⟩:=aH H
  obtain⟨x0,e3,H⟩:=aH H
  rcases dt H with⟨c1,H⟩| ⟨c1,H⟩
  ·obtain⟨v3,e4,H⟩:=aH H
   obtain⟨v4,e5,H⟩:=aH H
   obtain⟨v5,e6,H⟩:=aH H
   obtain⟨x1,e7,H⟩:=aH H
   refine qr [.v 2 (bo (k:=.i64) (E:=af) (l:=l0) lh e0),.v 3 (cL  (E:=af) (l:=l0) h0 rU rV e0),.v 7 (bo (k:=.i64) (E:=aa) (l:=dW) dz e1),.v 8 (cZ  (E:=aa) (l:=dW) h0 A3 e1 rfl),.v 9 (bo (k:=.i64) (E:=af) (l:=l0) lh e2),.v 10 (cL  (E:=af) (l:=l0) h0 rU rV e2),.a 11 (ng _ _ _ e3 h0 _ (gO (ae (cP (ae (aM) (ae (aM) (ae (bY) (ae (cK (E:=aa)) (az)))))) (ae (cP (ae (aM) (ae (aM) (ae (bY) (ae (cK (E:=aa)) (az)))))) (az))))),.b 12 c1,.v 15 (bo (k:=.i64) (E:=af) (l:=l0) lh e4),.v 16 (cL  (E:=af) (l:=l0) h0 rU rV e4),.v 20 (bo (k:=.i64) (E:=aa) (l:=dW) dz e5),.v 21 (cZ  (E:=aa) (l:=dW) h0 A3 e5 rfl),.v 22 (bo (k:=.i64) (E:=af) (l:=l0) lh e6),.v 23 (cL  (E:=af) (l:=l0) h0 rU rV e6),.a 25 (mf _ _ _ _ e7 h0 _ (gO (ae (cP (ae (aM) (ae (aM) (ae (bY) (ae (cK (E:=aa)) (az)))))) (ae (cP (ae (aM) (ae (aM) (ae (bY) (ae (cK (E:=aa)) (az)))))) (ae (cK (E:=aa)) (az))))))] ?_
   refine qc H (fun c2 H=>?_) (fun c2 H=>?_)
   ·refine qq ?_
    obtain⟨v6,e8,H⟩:=aH H
    exact qr [.v 2 (bo (k:=.i64) (E:=aa) (l:=dW) dz e8),.v 3 (cZ  (E:=aa) (l:=dW) h0 A3 e8 rfl)] <| qt <| WZ (⟨rfl,_,oi H,bZ (.int .i64 v6) h0 (bX (fh))⟩)
   ·exact qk <| q0 <| ⟨i64.wrap (k0+(1:Int)),⟨h0,by kernel_rfl,o0⟩,H⟩
  ·exact qr [.v 2 (bo (k:=.i64) (E:=af) (l:=l0) lh e0),.v 3 (cL  (E:=af) (l:=l0) h0 rU rV e0),.v 7 (bo (k:=.i64) (E:=aa) (l:=dW) dz e1),.v 8 (cZ  (E:=aa) (l:=dW) h0 A3 e1 rfl),.v 9 (bo (k:=.i64) (E:=af) (l:=l0) lh e2),.v 10 (cL  (E:=af) (l:=l0) h0 rU rV e2),.a 11 (ng _ _ _ e3 h0 _ (gO (ae (cP (ae (aM) (ae (aM) (ae (bY) (ae (cK (E:=aa)) (az)))))) (ae (cP (ae (aM) (ae (aM) (ae (bY) (ae (cK (E:=aa)) (az)))))) (az))))),.b 12 c1] <| C7 <| qk <| q0 <| ⟨i64.wrap (k0+(1:Int)),⟨h0,by kernel_rfl,o0⟩,H⟩
 ·exact qx 0 <| Xt (⟨rfl,k0,oi H,af.fz l0,aa.fz dW,aa.fz bl,.int .i64 k0,.bool (decide (k0<(dW.length:Int))),h0,by kernel_rfl,o0⟩)
theorem rI {aV:FuncId→cb}(ha:aV 103=tP)(ng:Ds cf m)(mf:AG cf m)(l0:List ab)(dW:List Int)(n0:Int)(bl:List Int)(h:AHeap)(L:Mem)  (o:Has h (L)){out:Int}(H:b5.f m l0 dW n0 bl=some out) :
  ∃r h',be Tryd.prog aV cf m 103 [af.fz l0,aa.fz dW,.int .i64 n0,aa.fz bl] h=some (r,h')∧fT h' r (.int .i64 out):=by
 refine aq (fn:=Tryd.f103) ha Tryd.func103 (by kernel_rfl) (by kernel_rfl) ?_
 refine aG (Q:=fun s=>b5.fin L out s) (fun _ _ h=>h) ?_
 have H:_=some out:=H
 unfold b5.f at H
 show de _ cf tP m _ ⟨af.fz l0::aa.fz dW :: .int .i64 n0::aa.fz bl::qQ [],[],h⟩ _
 refine q1 <| qq <| qq <| q0 <| qb 0 ?_
 obtain⟨bq,e9,H⟩:=aH H
 refine ql (b5.bI L l0 dW n0 bl  ng mf (0:Int) _ _ ⟨h,by kernel_rfl,o⟩ e9) ?_
 rintro e s (⟨rfl,k1,rfl,g0,g1,g2,g3,g4,h1,rfl,o1⟩| ⟨rfl,r0,rfl,mE⟩)
 ·try dsimp only at H
  obtain rfl:=oi H
  exact q1 <| qt <| ⟨.inl rfl,bZ (.int .i64 n0) h1 (bX (fh))⟩
 ·try dsimp only at H
  obtain rfl:=oi H
  exact⟨.inl rfl,mE⟩
end
end Go.Proofs.YtmekcfdllhphlaaDoor
