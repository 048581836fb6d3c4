/- Part of the proof: Q6, PR6, PR7, PT1, PT2, PR8, PR9, PT3, PT4, PT5, PT11, Q22, PR10, PT12, PB2, Q83, Q85, Q86, Q84. -/
import Derived.Test.YtmekcfdllhphlaaGreatDoorK10
set_option linter.unusedVariables false
set_option linter.unusedSimpArgs false
set_option maxRecDepth 100000
open Bool renaming and_eq_true → Yo
open ByteArray renaming mk → YM
open Int renaming toNat_natCast → Yq, le_refl → ZR
open List renaming length_append → Ys, getElem?_eq_some_iff → Yu, getElem?_eq_getElem → Yv, mem_singleton → Yw, append_assoc → Yx, mem_append → Yy, drop_eq_getElem_cons → Yz, getElem?_eq_none → YC, length_cons → YD, mem_map → YH, map_cons → YJ, all_eq_true → YK, nil_append → YO, getElem?_map → YQ, take_of_length_le → YR, mem_cons → YW, length_map → YY, length_nil → Y6, ext_getElem? → Zd, getElem_mem → Ze, append_nil → Zk, idxOf_lt_length_of_mem → Zl, mem_of_getElem? → Zm, length → ZS, getElem_of_mem → ZU
open Nat renaming le_refl → Yn, le_trans → Y0, mul_le_mul_right → Zb
open Option renaming bind_some → Yj, bind_eq_some_iff → Yk, map_some → Yp
open Option.some renaming injEq → Ym, inj → YI
open Or renaming inr → Zx
open Prod.mk renaming injEq → Yr
open UInt8 renaming ofNat → ZX
namespace Go.Proofs.YtmekcfdllhphlaaGreatDoor
open Go Go.R
open Go.IntKind (i64 u64 u8 u32)
def EB:cm:=gI [0,2,3,4,5,6,7,8,9,10,11,12,15,33,56,70,93,106] [8] [262142,258046,262137,253950,262137,262134,262118,262086,262022,245638,262022,261894,261638,261126,228358,261126,261126,262022,196590,262137,259054,131055,262137,262137] [(17,[(8,some 0,0)]),(20,[(5,none,0)])] [(6,[(5,none,2)]),(11,[(8,some 0,4)])]
def aD.l1 (m:Nat)(x3:Int × dG):Nat→Int→(List ab)→Int→dG→Option (Int × (List ab) × Int × dG)
 | 0,_,_,_,_=>none
 | k+1,k0,t0,t1,ym=>if (decide (k0<x3.1))=true then (if (!ym.br)=true then ((cb.f m ym).bind fun x4=>(app 56 t0 ([x4.1])).bind fun x5=>aD.l1 m x3 k (i64.wrap (k0+(1:Int))) x5 t1 x4.2) else (some ((k0,t0,t1,ym)))) else (some ((k0,t0,t1,ym)))
def aD.l0 (m:Nat)(x2:Int × dG):Nat→(List an)→Int→dG→Option ((List an) × Int × dG)
 | 0,_,_,_=>none
 | k+1,ba,i0,so=>if (decide (i0<x2.1))=true then (if (!so.br)=true then (if (decide (x2.1≤(8:Int)))=true then ((aQ.f m so).bind fun x3=>(aD.l1 m x3 m (0:Int) ([]:List ab) (0:Int) x3.2).bind fun bg=>match bg with | (k1,t2,t3,ob2)=>(app 32 ba ([(an.mk t2 t3)])).bind fun x6=>aD.l0 m x2 k x6 (i64.wrap (i0+(1:Int))) ob2) else (some ((ba,i0,so)))) else (some ((ba,i0,so)))) else (some ((ba,i0,so)))
def aD.f (m:Nat)(b0:List Int):Option ((List an) × Int):=if (decide ((b0.length:Int) > (200000:Int)))=true then (some ([],(3:Int))) else (if (decide ((b0.length:Int)<(7:Int)))=true then (some ([],(2:Int))) else ((lD b0 (0:Int) (i64.wrap ((b0.length:Int) - (4:Int)))).bind fun v0=>(bM.f m v0).bind fun x0=>(lD b0 (i64.wrap ((b0.length:Int) - (4:Int))) (b0.length:Int)).bind fun v1=>(cO.f m x0 v1).bind fun x1=>if (!x1)=true then (some ([],(2:Int))) else ((lD b0 (2:Int) (i64.wrap ((b0.length:Int) - (4:Int)))).bind fun v2=>(aQ.f m (dG.mk v2 false)).bind fun x2=>(aD.l0 m x2 m ([]:List an) (0:Int) x2.2).bind fun bR=>match bR with | (nQ,i1,Kw)=>if Kw.br=true then (some ([],(2:Int))) else (if (!((nQ.length:Int)==x2.1))=true then (some ([],(2:Int))) else ((bj.f m nQ).bind fun x7=>if (!(x7.2==(0:Int)))=true then (some ([],(2:Int))) else ((cO.f m x7.1 b0).bind fun x8=>if (!x8)=true then (some ([],(2:Int))) else (some (nQ,(0:Int)))))))))
def aD.fin (L:Mem)(r:(List an) × Int)(s:St):Prop:=∃av,aH Tryz.prog (s.open EB) Tryz.f6.results.toList=some av∧xz s.h av (.tup [aZ.fz r.1,.int .i64 r.2])
def S6 (cf:CallF)(m:Nat):Prop:=∀(b0:List Int) (r:(List an) × Int),aD.f m b0=some r→∀h xs,l9 xs [aj.fz b0]→cf 6 xs h=some (.tup [aZ.fz r.1,.int .i64 r.2],h)
section
variable {cf:CallF}{m:Nat}
theorem aD.fC (L:Mem)(b0:List Int)(az:Nat)(x2:Int × dG)(fK:Nat)(ba:List an)(i0:Int)(fK:Nat)(x3:Int × dG)  (Hn:P4 cf m):bL Tryz.prog cf EB m (sub [1,1,1,1,1,1,0,1,0,0,1,0,0,1,1,0,1,0,0] (codeOf Tryz.f6)) (fun k (σ:Int × (List ab) × Int × dG)=>aD.l1 m x3 k σ.1 σ.2.1 σ.2.2.1 σ.2.2.2) (fun σ s=>match σ with | (k0,t0,t1,ym)=>∃dh h4,s=⟨aj.fz b0 :: .any :: .any :: .ptr az 0 :: .rs fK 0 ba.length 2 :: .int .i64 x2.1 :: .int .i64 i0 :: .lp 8 0 :: .int .i64 x3.1 :: .int .i64 k0::sI [],[some [.rs dh 0 t0.length 4,.int .i64 t1]],h4⟩∧Has h4 ((az,.ob [aj.fz ym.cj,.bool ym.br])::(dh,.sl t0.length 4 (ah.l t0))::(fK,.sl ba.length 2 (aZ.l ba))::L)) (fun out e s=>(e = .exit 2∧∃k0 t0 t1 ym,(k0,t0,t1,ym)=out∧∃ud tT Sk dh h4,s=⟨aj.fz b0 :: .any :: .any :: .ptr az 0 :: .rs fK 0 ba.length 2 :: .int .i64 x2.1 :: .int .i64 i0 :: .lp 8 0::ud::tT::rV [Sk,.any,.any],[some [.rs dh 0 t0.length 4,.int .i64 t1]],h4⟩∧Has h4 ((az,.ob [aj.fz ym.cj,.bool ym.br])::(dh,.sl t0.length 4 (ah.l t0))::(fK,.sl ba.length 2 (aZ.l ba))::L))):=by
 refine ig (fun _=>rfl) ?_
 rintro k ⟨k0,t0,t1,ym⟩ s out ⟨dh,h4,rfl,o6⟩ H
 have H:aD.l1 m x3 (k+1) k0 t0 t1 ym=some out:=H
 refine qq <| qq ?_
 rcases dQ H with⟨c7,H⟩| ⟨c7,H⟩
 ·refine qr [.b 3 c7,.v 7 (show bo Tryz.prog h4 4 (.ptr az 1)=some (.bool ym.br) from cn (q:=0) (cs:=[aj.fz ym.cj,.bool ym.br]) o6 rfl (by kernel_rfl))] <| qc H (fun c8 H=>?_) (fun c8 H=>?_)
  ·refine qk <| qq <| qb 3 ?_
   obtain⟨x4,ow,H⟩:=aI H
   obtain⟨h5,rI,o7⟩:=Hn _ _ ow h4 _ _ (o6)  [.ptr az 0] (ak (rfl) (bn))
   obtain⟨x5,sK,H⟩:=aI H
   obtain⟨fu,h6,sL,o8⟩:=fP (P:=Tryz.prog) (E:=ah) (l:=t0) (q:=1) (t2:=42) (x:=.fz [.int .i64 x4.1.kind,.int .i64 x4.1.int,.str x4.1.label,aa.fz x4.1.args] 1 true) (l2:=([x4.1])) mf o7 rfl (by kernel_rfl) rfl sK
   exact qr [.a 3 rI,.a 5 sL] <| q0 <| ⟨(i64.wrap (k0+(1:Int)),x5,t1,x4.2),⟨fu,h6,by kernel_rfl,o8⟩,H⟩
  ·exact qx 2 <| ⟨rfl,k0,t0,t1,ym,oi H,.int .i64 x3.1,.int .i64 k0,.bool (!ym.br),dh,h4,by kernel_rfl,o6⟩
 ·exact qr [.b 3 c7] <| Ej <| qx 2 <| ⟨rfl,k0,t0,t1,ym,oi H,.int .i64 x3.1,.int .i64 k0,.bool false,dh,h4,by kernel_rfl,o6⟩
theorem aD.bP (L:Mem)(b0:List Int)(az:Nat)(x2:Int × dG)  (nw:Mk cf m)(Hn:P4 cf m):bL Tryz.prog cf EB m (sub [1,1,1,1,1,1,0,1,0,0] (codeOf Tryz.f6)) (fun k (σ:(List an) × Int × dG)=>aD.l0 m x2 k σ.1 σ.2.1 σ.2.2) (fun σ s=>match σ with | (ba,i0,so)=>∃fK h2,s=⟨aj.fz b0 :: .any :: .any :: .ptr az 0 :: .rs fK 0 ba.length 2 :: .int .i64 x2.1 :: .int .i64 i0::pq [],[none],h2⟩∧Has h2 ((az,.ob [aj.fz so.cj,.bool so.br])::(fK,.sl ba.length 2 (aZ.l ba))::L)) (fun out e s=>(e = .exit 0∧∃ba i0 so,(ba,i0,so)=out∧∃xL Mg fK h2,s=⟨aj.fz b0 :: .any :: .any :: .ptr az 0 :: .rs fK 0 ba.length 2 :: .int .i64 x2.1::xL::E1 (Mg::kK []),[none],h2⟩∧Has h2 ((az,.ob [aj.fz so.cj,.bool so.br])::(fK,.sl ba.length 2 (aZ.l ba))::L))):=by
 refine ig (fun _=>rfl) ?_
 rintro k ⟨ba,i0,so⟩ s out ⟨fK,h2,rfl,o3⟩ H
 have H:aD.l0 m x2 (k+1) ba i0 so=some out:=H
 refine qq <| qq ?_
 rcases dQ H with⟨c4,H⟩| ⟨c4,H⟩
 ·rcases dQ H with⟨c5,H⟩| ⟨c5,H⟩
  ·refine qr [.b 3 c4,.v 7 (show bo Tryz.prog h2 4 (.ptr az 1)=some (.bool so.br) from cn (q:=0) (cs:=[aj.fz so.cj,.bool so.br]) o3 rfl (by kernel_rfl)),.b 10 c5] <| qc H (fun c6 H=>?_) (fun c6 H=>?_)
   ·refine qk <| qq <| qb 1 <| qq <| q0 ?_
    have o4:Has h2 ((((0)),.sl (([]:List ab).length) 4 (ah.l ([]:List ab)))::(az,.ob [aj.fz so.cj,.bool so.br])::(fK,.sl ba.length 2 (aZ.l ba))::L):=Has.nil o3 4
    refine qq ?_
    obtain⟨x3,e8,H⟩:=aI H
    obtain⟨h3,e9,o5⟩:=nw _ _ e8 h2 _ _ ((Has.front (Has.front (Has.front o4 2 rfl) 1 rfl) 2 rfl))  [.ptr az 0] (ak (rfl) (bn))
    refine qr [.a 1 e9] <| qq <| qq <| q0 <| qb 2 ?_
    obtain⟨bg,uo,H⟩:=aI H
    refine ql (aD.fC L b0 az x2 fK ba i0 fK x3  Hn ((0:Int),([]:List ab),(0:Int),x3.2) _ _ ⟨((0)),h3,by kernel_rfl,o5⟩ uo) ?_
    rintro e s ⟨rfl,k1,t2,t3,ob2,rfl,g0,g1,g2,gY,h7,rfl,o9⟩
    try dsimp only at H
    obtain⟨h8,sM,vo⟩:=iS (E:=ah) (l:=t2) (q:=1) o9 rfl
    obtain⟨x6,wy,H⟩:=aI H
    obtain⟨hX,h9,xQ,wq⟩:=fP (P:=Tryz.prog) (E:=aZ) (l:=ba) (q:=1) (t2:=24) (x:=.fz [ah.fz t2,.int .i64 t3] 1 true) (l2:=([(an.mk t2 t3)])) E2 vo rfl (by kernel_rfl) rfl wy
    exact zt [.a 0 sM] [.a 3 xQ] <| q0 <| ⟨(x6,i64.wrap (i0+(1:Int)),ob2),⟨hX,h9,by kernel_rfl,wq⟩,H⟩
   ·exact qx 0 <| ⟨rfl,ba,i0,so,oi H,.int .i64 i0,.bool (decide (x2.1≤(8:Int))),fK,h2,by kernel_rfl,o3⟩
  ·exact qr [.b 3 c4,.v 7 (show bo Tryz.prog h2 4 (.ptr az 1)=some (.bool so.br) from cn (q:=0) (cs:=[aj.fz so.cj,.bool so.br]) o3 rfl (by kernel_rfl)),.b 10 c5] <| Ej <| qx 0 <| ⟨rfl,ba,i0,so,oi H,.int .i64 i0,.bool false,fK,h2,by kernel_rfl,o3⟩
 ·exact qr [.b 3 c4] <| Ej <| qx 0 <| ⟨rfl,ba,i0,so,oi H,.int .i64 i0,.bool false,fK,h2,by kernel_rfl,o3⟩
theorem sq {aU:FuncId→cm}(ha:aU 6=EB)(Mr:Se cf m)(Jx:Sj cf m)(Mp:R5 cf m)(nw:Mk cf m)(Hn:P4 cf m)(b0:List Int)(h:AHeap)(L:Mem)  (o:Has h (L)){out:(List an) × Int}(H:aD.f m b0=some out) :
  ∃r h',be Tryz.prog aU cf m 6 [aj.fz b0] h=some (r,h')∧xz h' r (.tup [aZ.fz out.1,.int .i64 out.2]):=by
 refine aq (fn:=Tryz.f6) ha Tryz.func6 (by kernel_rfl) (by kernel_rfl) ?_
 refine aG (Q:=fun s=>aD.fin L out s) (fun _ _ h=>h) ?_
 have H:_=some out:=H
 unfold aD.f at H
 show dt _ cf EB m _ ⟨aj.fz b0::Ef [],[none],h⟩ _
 refine q1 <| qq <| qq <| q0 <| qc H (fun c0 H=>?_) (fun c0 H=>?_)
 ·obtain rfl:=oi H
  exact q1 <| qt <| ⟨.inl rfl,vk (.tup [.nils,.int .i64 (3:Int)]) h (oK (fQ (ae (gr) (ae (aN) (aB)))))⟩
 ·refine qk <| qq <| qq ?_
  rcases dQ H with⟨c1,H⟩| ⟨c1,H⟩
  ·obtain rfl:=oi H
   exact qr [.b 3 c1] <| wk <| qq <| q0 <| qt <| ⟨.inl rfl,vk (.tup [.nils,.int .i64 (2:Int)]) h (oK (fQ (ae (gr) (ae (aN) (aB)))))⟩
  ·obtain⟨v0,e0,H⟩:=aI H
   obtain⟨x0,e1,H⟩:=aI H
   obtain⟨v1,e2,H⟩:=aI H
   obtain⟨x1,e3,H⟩:=aI H
   refine qr [.b 3 c1,.v 8 (show eR Tryz.prog 22 (aj.fz b0) none (some (.int .i64 (i64.wrap ((b0.length:Int) - (4:Int))))) none=some (aj.fz v0) from xA (E:=aj) Ek e0),.a 9 (Mp _ _ e1 h _ (ia (ae (cW (E:=aj)) (aB)))),.v 14 (show eR Tryz.prog 22 (aj.fz b0) (some (.int .i64 (i64.wrap ((b0.length:Int) - (4:Int))))) none none=some (aj.fz v1) from xB (E:=aj) Ek e2),.a 15 (Jx _ _ _ e3 h _ (ia (ae (cW (E:=aj)) (ae (cW (E:=aj)) (aB)))))] <| qc H (fun c3 H=>?_) (fun c3 H=>?_)
   ·obtain rfl:=oi H
    exact q1 <| qt <| ⟨.inl rfl,vk (.tup [.nils,.int .i64 (2:Int)]) h (oK (fQ (ae (gr) (ae (aN) (aB)))))⟩
   ·refine qk <| qq ?_
    obtain⟨v2,e4,H⟩:=aI H
    obtain⟨az,h0,e5,o0⟩:=kI (cs:=[aj.fz v2,.bool false]) o (by kernel_rfl)
    refine qr [.v 4 (show eR Tryz.prog 22 (aj.fz b0) (some (.int .i64 (2:Int))) (some (.int .i64 (i64.wrap ((b0.length:Int) - (4:Int))))) none=some (aj.fz v2) from I4 (E:=aj) Ek e4),.a 6 e5] <| qq <| q0 ?_
    have o1:Has h0 (((0),.sl (([]:List an).length) 2 (aZ.l ([]:List an)))::(az,.ob [aj.fz v2,.bool false])::L):=Has.nil o0 2
    refine qq ?_
    obtain⟨x2,e6,H⟩:=aI H
    obtain⟨h1,e7,o2⟩:=nw _ _ e6 h0 _ _ ((Has.front (Has.front o1 0 rfl) 1 rfl))  [.ptr az 0] (ak (rfl) (bn))
    refine qr [.a 1 e7] <| qq <| qq <| q0 <| qb 0 ?_
    obtain⟨bR,CN,H⟩:=aI H
    refine ql (aD.bP L b0 az x2  nw Hn (([]:List an),(0:Int),x2.2) _ _ ⟨(0),h1,by kernel_rfl,o2⟩ CN) ?_
    rintro e s ⟨rfl,nQ,i1,Kw,rfl,g3,g4,hY,h10,rfl,ug⟩
    try dsimp only at H
    refine qq <| qq ?_
    rcases dQ H with⟨rY,H⟩| ⟨rY,H⟩
    ·refine qr [.v 3 (show bo Tryz.prog h10 4 (.ptr az 1)=some (.bool Kw.br) from cn (q:=0) (cs:=[aj.fz Kw.cj,.bool Kw.br]) ug rfl (by kernel_rfl)),.b 4 rY] ?_
     have mg:Has h10 ((hY,.sl nQ.length 2 (aZ.l nQ))::L):=Has.del ug 0
     refine wk <| qq <| q0 ?_
     have zx:Has h10 (L):=Has.del mg 0
     obtain rfl:=oi H
     exact qt <| ⟨.inl rfl,vk (.tup [.nils,.int .i64 (2:Int)]) h10 (oK (fQ (ae (gr) (ae (aN) (aB)))))⟩
    ·refine qr [.v 3 (show bo Tryz.prog h10 4 (.ptr az 1)=some (.bool Kw.br) from cn (q:=0) (cs:=[aj.fz Kw.cj,.bool Kw.br]) ug rfl (by kernel_rfl)),.b 4 rY] ?_
     have AA:Has h10 ((hY,.sl nQ.length 2 (aZ.l nQ))::L):=Has.del ug 0
     refine qc H (fun rZ H=>?_) (fun rZ H=>?_)
     ·refine q1 ?_
      have ml:Has h10 (L):=Has.del AA 0
      obtain rfl:=oi H
      exact qt <| ⟨.inl rfl,vk (.tup [.nils,.int .i64 (2:Int)]) h10 (oK (fQ (ae (gr) (ae (aN) (aB)))))⟩
     ·refine qk <| qq ?_
      obtain⟨h11,xR,Br⟩:=iS (E:=aZ) (l:=nQ) (q:=0) AA rfl
      obtain⟨x7,CO,H⟩:=aI H
      refine zt [.a 0 xR] [.a 1 (Mr _ _ CO h11 _ (cY (iE (E:=aZ)) (gZ)))] <| qq <| qq ?_
      rcases dQ H with⟨CJ,H⟩| ⟨CJ,H⟩
      ·obtain rfl:=oi H
       exact qr [.b 2 CJ] <| wk <| qq <| q0 <| qt <| ⟨.inl rfl,vk (.tup [.nils,.int .i64 (2:Int)]) h11 (oK (fQ (ae (gr) (ae (aN) (aB)))))⟩
      ·obtain⟨x8,E6,H⟩:=aI H
       refine qr [.b 2 CJ,.a 5 (Jx _ _ _ E6 h11 _ (ia (ae (cW (E:=aj)) (ae (cW (E:=aj)) (aB)))))] <| qc H (fun Em H=>?_) (fun Em H=>?_)
       ·obtain rfl:=oi H
        exact q1 <| qt <| ⟨.inl rfl,vk (.tup [.nils,.int .i64 (2:Int)]) h11 (oK (fQ (ae (gr) (ae (aN) (aB)))))⟩
       ·obtain rfl:=oi H
        exact qk <| qq <| q0 <| qt <| ⟨.inl rfl,vk (.tup [aZ.fz nQ,.int .i64 (0:Int)]) h11 (oK (fQ (ae (cW) (ae (aN) (aB)))))⟩
end
end Go.Proofs.YtmekcfdllhphlaaGreatDoor
namespace Go.Proofs.YtmekcfdllhphlaaGreatDoor
open Go Go.R
open Go.IntKind (i64 u64 u8 u32)
def dA (l:List ab):List Int:=(l.map dd).flatten
def iX (t:an):List Int:=de t.nodes.length++dA t.nodes
def bk (l:List an):List Int:=(l.map iX).flatten
def bw (l:List an):List Int:=[76,1]++(de l.length++bk l)
structure jI (t:an):Prop where
 nodes:∀n∈t.nodes,pL n
 qd:t.nodes.length<2 ^ 30
 root:t.root=0
theorem iq (n:ab)(l:List ab):dA (n::l)=dd n++dA l:=by simp [dA]
theorem ir (t:an)(l:List an):bk (t::l)=iX t++bk l:=by simp [bk]
theorem drop_cons {α:Type}{l:List α}{i:Nat}{a:α}{r:List α}(h:l.drop i=a::r):i<l.length∧ix l (i:Int)=some a∧l.drop (i+1)=r∧a∈l:=by
 have h1:i<l.length:=by
  have:=congrArg ZS h
  simp at this
  omega
 have h2:l[i]? = some a:=by
  have:=congrArg (·[0]?) h
  simpa using this
 refine⟨h1,?_,by rw [←List.tail_drop,h]; rfl,Zm h2⟩
 unfold ix
 rw [if_pos (by omega)]
 exact h2
theorem drop_nil {α:Type}{l:List α}{i:Nat}(h:l.drop i=[]):l.length≤i:=by
 have:=congrArg ZS h
 simp at this
 omega
theorem Ho {m:Nat}(hm:11≤m)(v:an):∀(l:List ab) (f i:Nat) (w:List Int),l.length<f→v.nodes.drop i=l→(∀n∈l,pL n)→w≠[]→w.length+(dA l).length+2 ^ 41≤140737488355328→i+l.length<2 ^ 40→
  ∃x,aP.l1 m v f (i:Int) w=some (x,w++dA l)
 | l,0,i,w,hf,_,_,_,_,_=>absurd hf (by omega)
 | [],f+1,i,w,hf,hd,hW,hw,hl,hi=>by
  refine⟨i,?_⟩
  have:=drop_nil hd
  unfold aP.l1
  rw [if_neg (by simp; omega)]
  simp [dA]
 | n::l,f+1,i,w,hf,hd,hW,hw,hl,hi=>by
  obtain⟨h1,h2,h3,h4⟩:=drop_cons hd
  have pz:(2:Nat) ^ 41=2199023255552:=by decide
  have mj:(2:Nat) ^ 40=1099511627776:=by decide
  have P6:=hW n (by simp)
  have Ww:n.label.size<2 ^ 40:=by
   rcases P6.kind with⟨_,_,h,_⟩| ⟨_,_,h,_⟩| ⟨h,_⟩| ⟨h,_⟩
   ·rw [h]; decide
   ·rw [h]; decide
   ·exact (P6.label (by omega)).2
   ·exact (P6.label (by omega)).2
  rw [iq,Ys] at hl
  simp only [YD] at hf hi
  obtain⟨x,ih⟩:=Ho hm v l f (i+1) (w++dd n) (by omega) h3 (fun k hk=>hW k (by simp [hk])) (by simp [hw]) (by simp; omega) (by omega)
  refine⟨x,?_⟩
  unfold aP.l1
  rw [if_pos (by simp; omega),h2,Yj,O5 hm P6 (by omega) hw,Yj,aA (by omega) (by omega),show ((i:Int)+1)=((i+1:Nat):Int) by omega,ih,iq,Yx]
theorem Hp {m:Nat}(hm:2 ^ 30≤m)(L:List an):∀(l:List an) (f i:Nat) (w:List Int),l.length<f→L.drop i=l→(∀t∈l,jI t)→w≠[]→w.length+(bk l).length+2 ^ 41≤140737488355328→i+l.length<2 ^ 40→
  ∃x,aP.l0 m L f (i:Int) w=some (x,w++bk l)
 | l,0,i,w,hf,_,_,_,_,_=>absurd hf (by omega)
 | [],f+1,i,w,hf,hd,hW,hw,hl,hi=>by
  refine⟨i,?_⟩
  have:=drop_nil hd
  unfold aP.l0
  rw [if_neg (by simp; omega)]
  simp [bk]
 | t::l,f+1,i,w,hf,hd,hW,hw,hl,hi=>by
  obtain⟨h1,h2,h3,h4⟩:=drop_cons hd
  have pz:(2:Nat) ^ 41=2199023255552:=by decide
  have mj:(2:Nat) ^ 40=1099511627776:=by decide
  have lE:(2:Nat) ^ 30=1073741824:=by decide
  have Nj:=hW t (by simp)
  have BC:=Nj.qd
  rw [ir,Ys] at hl
  have he:(iX t).length=(de t.nodes.length).length+(dA t.nodes).length:=by simp [iX]
  simp only [YD] at hf hi
  obtain⟨x,ih⟩:=Hp hm L l f (i+1) (w++iX t) (by omega) h3 (fun k hk=>hW k (by simp [hk])) (by simp [hw]) (by simp; omega) (by omega)
  obtain⟨y,hy⟩:=Ho (m:=m) (by omega) t t.nodes m 0 (w++de t.nodes.length) (by omega) rfl Nj.nodes (by simp [hw]) (by simp; omega) (by omega)
  have hy:aP.l1 m t m (0:Int) (w++de t.nodes.length)=_:=hy
  refine⟨x,?_⟩
  unfold aP.l0
  rw [if_pos (by simp; omega),h2,Yj,gm (by omega) (by omega),zQ (by omega) (by omega) hw (by omega),Yj,hy,Yj]
  dsimp only
  rw [aA (by omega) (by omega),show ((i:Int)+1)=((i+1:Nat):Int) by omega]
  rw [show w++de t.nodes.length++dA t.nodes=w++iX t by simp [iX]]
  rw [ih,ir,Yx]
theorem Da {m:Nat}(hm:2 ^ 30≤m){L:List an}(hW:∀t∈L,jI t)(hl:(bk L).length+2 ^ 42≤140737488355328)(hL:L.length<2 ^ 30):aP.f m L=(bM.f m (bw L)).bind fun c=>app 1 (bw L) c:=by
 have L6:(2:Nat) ^ 42=4398046511104:=by decide
 have pz:(2:Nat) ^ 41=2199023255552:=by decide
 have mj:(2:Nat) ^ 40=1099511627776:=by decide
 have lE:(2:Nat) ^ 30=1073741824:=by decide
 unfold aP.f
 have h1:wB ([]:List Int) [(76:Int)]=some [76]:=by unfold wB; rw [if_pos (by simp)]; rfl
 have e0:(de L.length).length≤10:=di (by omega)
 obtain⟨x,hx⟩:=Hp (m:=m) hm L L m 0 ([76]++[1]++de L.length) (by omega) rfl hW (by simp) (by simp; omega) (by omega)
 have hx:aP.l0 m L m (0:Int) ([76]++[1]++de L.length)=_:=hx
 rw [h1,Yj,mV (by simp) (by simp) (by simp),Yj,gm (by omega) (by omega),zQ (by omega) (by omega) (by simp) (by simp),Yj,hx,Yj]
 dsimp only
 rw [show [(76:Int)]++[1]++de L.length++bk L=bw L by simp [bw]]
 have h2:tI (bw L)=some ():=by
  unfold tI
  rw [if_pos ⟨by simp [bw],by simp [bw]; omega⟩]
 rw [h2,Yj]
 congr 1
 funext c
 cases app 1 (bw L) c<;>rfl
end Go.Proofs.YtmekcfdllhphlaaGreatDoor
namespace Go.Proofs.YtmekcfdllhphlaaGreatDoor
open Go Go.R
open Go.IntKind (i64 u64 u8 u32)
theorem Hq {m:Nat}(hm:11≤m)(x3:Int × dG)(rest:List Int)(hx:x3.1<2 ^ 30):∀(l:List ab) (f k:Nat) (acc:List ab),l.length<f→(k:Int)+l.length=x3.1→acc.length=k→(∀n∈l,pL n)→
  ∃x,aD.l1 m x3 f (k:Int) acc 0 ⟨dA l++rest,false⟩=some (x,acc++l,0,⟨rest,false⟩)
 | l,0,k,acc,hf,_,_,_=>absurd hf (by omega)
 | [],f+1,k,acc,hf,hk,ha,hW=>by
  refine⟨k,?_⟩
  simp only [Y6] at hk
  unfold aD.l1
  rw [if_neg (by simp; omega)]
  simp [dA]
 | n::l,f+1,k,acc,hf,hk,ha,hW=>by
  simp only [YD] at hf hk
  have lE:(2:Int) ^ 30=1073741824:=by decide
  obtain⟨x,ih⟩:=Hq hm x3 rest hx l f (k+1) (acc++[n]) (by omega) (by omega) (by simp; omega) (fun c hc=>hW c (by simp [hc]))
  refine⟨x,?_⟩
  unfold aD.l1
  have jS:app 56 acc [n]=some (acc++[n]):=by unfold app; rw [if_pos (by simp; omega)]
  rw [if_pos (by simp; omega),if_pos (show (!false)=true from rfl),iq,Yx,O6 hm (hW n (by simp)),Yj]
  dsimp only
  rw [jS,Yj,aA (by omega) (by omega),show ((k:Int)+1)=((k+1:Nat):Int) by omega,ih]
  simp
theorem uF {m:Nat}(hm:2 ^ 30≤m)(x2:Int × dG)(rest:List Int)(hx:x2.1≤8):∀(l:List an) (f k:Nat) (acc:List an),l.length<f→(k:Int)+l.length=x2.1→acc.length=k→(∀t∈l,jI t)→
  ∃x,aD.l0 m x2 f acc (k:Int) ⟨bk l++rest,false⟩=some (acc++l,x,⟨rest,false⟩)
 | l,0,k,acc,hf,_,_,_=>absurd hf (by omega)
 | [],f+1,k,acc,hf,hk,ha,hW=>by
  refine⟨k,?_⟩
  simp only [Y6] at hk
  unfold aD.l0
  rw [if_neg (by simp; omega)]
  simp [bk]
 | t::l,f+1,k,acc,hf,hk,ha,hW=>by
  simp only [YD] at hf hk
  have lE:(2:Int) ^ 30=1073741824:=by decide
  have X9:(2:Nat) ^ 30=1073741824:=by decide
  have Nj:=hW t (by simp)
  have BC:=Nj.qd
  obtain⟨x,ih⟩:=uF hm x2 rest hx l f (k+1) (acc++[t]) (by omega) (by omega) (by simp; omega) (fun c hc=>hW c (by simp [hc]))
  obtain⟨y,hy⟩:=Hq (m:=m) (by omega) ((t.nodes.length:Int),(⟨dA t.nodes++(bk l++rest),false⟩:dG)) (bk l++rest) (by simp only; omega) t.nodes m 0 [] (by omega) (by simp) rfl Nj.nodes
  have hy:aD.l1 m ((t.nodes.length:Int),(⟨dA t.nodes++(bk l++rest),false⟩:dG)) m (0:Int) [] 0 ⟨dA t.nodes++(bk l++rest),false⟩=_:=hy
  refine⟨x,?_⟩
  unfold aD.l0
  have jS:app 32 acc [t]=some (acc++[t]):=by unfold app; rw [if_pos (by simp; omega)]
  rw [if_pos (by simp; omega),if_pos (show (!false)=true from rfl),if_pos (by simp; omega),ir,iX,Yx,Yx,vt (by omega) (by omega),Yj]
  dsimp only
  rw [hy,Yj]
  dsimp only
  rw [show an.mk ([]++t.nodes) 0=t by rw [YO,←Nj.root],jS,Yj,aA (by omega) (by omega),show ((k:Int)+1)=((k+1:Nat):Int) by omega,ih]
  simp
end Go.Proofs.YtmekcfdllhphlaaGreatDoor
namespace Go.Proofs.YtmekcfdllhphlaaGreatDoor
open Go Go.R
open Go.IntKind (i64 u64 u8 u32)
theorem Hr {m:Nat}(r:dG):∃c r',fy.f m r=some (c,r')∧r'.cj.length≤r.cj.length:=by
 obtain⟨l,bad⟩:=r
 cases l with
 | nil=>exact⟨0,⟨[],true⟩,by unfold fy.f; rw [if_pos (by simp)],Yn _⟩
 | cons c l=>exact⟨c,⟨l,bad⟩,pJ,by simp⟩
theorem Db {m:Nat}:∀(f j:Nat) (n:Int) (r:dG),j≤9→10 - j<f→∃n' s' r',aQ.l0 m f n ((7*j:Nat):Int) r=some (n',s',r')∧r'.cj.length≤r.cj.length
 | 0,j,n,r,_,hf=>absurd hf (by omega)
 | f+1,j,n,r,hj,hf=>by
  unfold aQ.l0
  split
  rotate_left
  ·exact⟨_,_,_,rfl,Yn _⟩
  obtain⟨c,r',h1,h2⟩:=Hr (m:=m) r
  rw [h1,Yj]
  dsimp only
  split
  ·exact⟨_,_,_,rfl,h2⟩
  rename_i g
  have Wx:j≤8:=by simp at g; omega
  have QF:∃v,zk .u64 (u64.wrap (fw .u8 c 127)) ((7*j:Nat):Int)=some v:=⟨_,by unfold zk; rw [if_neg (by omega)]⟩
  obtain⟨v,hv⟩:=QF
  have Hs:∃n' s' zU,aQ.l0 m f (iz .u64 n v) (i64.wrap (((7*j:Nat):Int)+7)) r'=some (n',s',zU)∧zU.cj.length≤r.cj.length:=by
   obtain⟨n',s',zU,k1,k2⟩:=Db f (j+1) (iz .u64 n v) r' (by omega) (by omega)
   refine⟨n',s',zU,?_,Y0 k2 h2⟩
   rw [aA (by omega) (by omega),show (((7*j:Nat):Int)+7)=((7*(j+1):Nat):Int) by omega,k1]
  split
  ·split
   ·exact⟨_,_,_,rfl,h2⟩
   ·rw [hv,Yj]
    split
    ·exact⟨_,_,_,rfl,h2⟩
    ·exact Hs
  ·rw [hv,Yj]
   split
   ·exact⟨_,_,_,rfl,h2⟩
   ·exact Hs
theorem uG {m:Nat}(hm:11≤m)(r:dG):∃n r',aQ.f m r=some (n,r')∧-9223372036854775808≤n∧n<9223372036854775808∧r'.cj.length≤r.cj.length:=by
 obtain⟨n',s',r',h1,h2⟩:=Db (m:=m) m 0 0 r (by omega) (by omega)
 have h1:aQ.l0 m m (0:Int) (0:Int) r=_:=h1
 refine⟨i64.wrap n',r',?_,?_,?_,h2⟩
 ·unfold aQ.f
  rw [h1,Yj]
 ·rw [tJ]; split<;>omega
 ·rw [tJ]; split<;>omega
end Go.Proofs.YtmekcfdllhphlaaGreatDoor
namespace Go.Proofs.YtmekcfdllhphlaaGreatDoor
open Go Go.R
open Go.IntKind (i64 u64 u8 u32)
theorem Ht {m:Nat}(hm:11≤m)(r:dG)(h0:r.cj.length≤200000):(∃n r',aQ.f m r=some (n,r')∧0≤n)→∃s r',gy.f m r=some (s,r')∧r'.cj.length≤r.cj.length:=by
 rintro⟨n,r',h1,hn⟩
 obtain⟨n2,r2,h2,_,_,h3⟩:=uG hm r
 rw [h1] at h2
 cases h2
 unfold gy.f
 rw [h1,Yj]
 dsimp only
 split
 ·exact⟨_,_,rfl,h3⟩
 split
 ·exact⟨_,_,rfl,h3⟩
 rename_i g1 g2
 simp at g2
 have a1:lD r'.cj 0 n=some (r'.cj.take n.toNat):=by unfold lD; rw [if_pos ⟨ZR _,hn,by omega⟩]; simp
 have a2:lD r'.cj n (r'.cj.length:Int)=some (r'.cj.drop n.toNat):=by
  unfold lD; rw [if_pos ⟨hn,by omega,ZR _⟩,YR (by simp)]
 rw [a1,Yj,a2,Yj]
 exact⟨_,_,rfl,by simp; omega⟩
end Go.Proofs.YtmekcfdllhphlaaGreatDoor
namespace Go.Proofs.YtmekcfdllhphlaaGreatDoor
open Go Go.R
open Go.IntKind (i64 u64 u8 u32)
theorem Hu {m:Nat}{b:List Int}{l:List an}(H:aD.f m b=some (l,0)) :
  ∃v2 x2 i1 ob p,lD b 2 (i64.wrap ((b.length:Int) - 4))=some v2∧aQ.f m ⟨v2,false⟩=some x2∧aD.l0 m x2 m [] 0 x2.2=some (l,i1,ob)∧ob.br=false∧
   (l.length:Int)=x2.1∧bj.f m l=some (p,0)∧cO.f m p b=some true:=by
 unfold aD.f at H
 split at H
 ·simp at H
 split at H
 ·simp at H
 simp only [Yk] at H
 obtain⟨v0,h0,x0,h1,v1,h2,x1,h3,H⟩:=H
 split at H
 ·simp at H
 simp only [Yk] at H
 obtain⟨v2,h4,x2,h5,⟨l',i1,ob⟩,h6,H⟩:=H
 dsimp only at H
 split at H
 ·simp at H
 split at H
 ·simp at H
 rename_i g1 g2
 simp only [Yk] at H
 obtain⟨⟨p,e⟩,h7,H⟩:=H
 split at H
 ·simp at H
 rename_i g3
 simp only [Yk] at H
 obtain⟨x8,h8,H⟩:=H
 split at H
 ·simp at H
 rename_i g4
 simp only [Ym,Yr] at H
 obtain⟨rfl,_⟩:=H
 have ge:e=0:=by simpa using g3
 subst ge
 have gx:x8=true:=by simpa using g4
 subst gx
 exact⟨v2,x2,i1,ob,p,h4,h5,h6,by simpa using g1,by simpa using g2,h7,h8⟩
theorem Hv {m:Nat}(L:List an):∀(f:Nat) (acc:List an) (i:Nat) (out),i≤L.length→i<2 ^ 40→L.length<2 ^ 40→bj.l0 m L f acc (i:Int)=some out→
  out = .inl ([],2)∨∃ls x,out = .inr (acc++ls,x)∧ls.length=(L.drop i).length∧∀(j:Nat) (t s:an),(L.drop i)[j]? = some t→ls[j]? = some s→dj.f m t=some (s,0)
 | 0,acc,i,out,_,_,_,H=>by simp [bj.l0] at H
 | f+1,acc,i,out,hi,Aw,hl,H=>by
  have mj:(2:Nat) ^ 40=1099511627776:=by decide
  unfold bj.l0 at H
  split at H
  ·rename_i g
   simp only [decide_eq_true_eq] at g
   simp only [Yk] at H
   obtain⟨v0,h0,⟨s0,e⟩,h1,H⟩:=H
   split at H
   ·left
    simpa using H.symm
   ·rename_i g2
    have ge:e=0:=by simpa using g2
    subst ge
    simp only [Yk] at H
    obtain⟨x2,h2,H⟩:=H
    obtain⟨_,_,rfl⟩:=k7 h2
    rw [aA (by omega) (by omega),show ((i:Int)+1)=((i+1:Nat):Int) by omega] at H
    obtain⟨_,_,h3⟩:=gq h0
    rw [Yq] at h3
    have hd:L.drop i=v0::L.drop (i+1):=by
     obtain⟨h4,h5⟩:=Yu.1 h3
     rw [←h5]; exact Yz h4
    rcases Hv L f _ (i+1) out (by omega) (by omega) hl H with h | ⟨ls,x,rfl,h6,h7⟩
    ·exact .inl h
    ·refine .inr ⟨s0::ls,x,by simp,by rw [hd]; simp [h6],fun j t s hj hs=>?_⟩
     rw [hd] at hj
     cases j with
     | zero=>simp at hj hs; subst hj hs; exact h1
     | succ j=>exact h7 j t s (by simpa using hj) (by simpa using hs)
  ·rename_i g
   simp only [decide_eq_true_eq] at g
   refine .inr ⟨[],i,by simpa using H.symm,?_,fun j t s hj hs=>by simp at hs⟩
   simp; omega
theorem Hw {m:Nat}{l:List an}{p:List Int}(H:bj.f m l=some (p,0)) :
  ∃ls,l.length≤8∧ls.length=l.length∧(∀(j:Nat) (t s:an),l[j]? = some t→ls[j]? = some s→dj.f m t=some (s,0))∧aP.f m ls=some p∧fT.f m ls (fun y0=>dP.f m y0)=some false:=by
 unfold bj.f at H
 split at H
 ·simp at H
 rename_i g0
 simp only [Yk] at H
 obtain⟨out,h1,H⟩:=H
 have Sm:l.length≤8:=by simp at g0; omega
 rcases Hv l m [] 0 out (by omega) (by omega) (by omega) h1 with rfl | ⟨ls,x,rfl,h5,h6⟩
 ·simp at H
 ·dsimp only at H
  rw [YO] at H
  simp only [Yk] at H
  obtain⟨x4,h2,H⟩:=H
  split at H
  ·simp at H
  rename_i g4
  have g4:x4=false:=by simpa using g4
  subst g4
  simp only [Yk] at H
  obtain⟨x5,h3,H⟩:=H
  split at H
  ·simp at H
  simp only [Ym,Yr] at H
  obtain⟨rfl,_⟩:=H
  exact⟨ls,Sm,h5,h6,h3,h2⟩
end Go.Proofs.YtmekcfdllhphlaaGreatDoor
namespace Go.Proofs.YtmekcfdllhphlaaGreatDoor
open Go Go.R
open Go.IntKind (i64 u64 u8 u32)
def Bytes (l:List Int):Prop:=∀x∈l,0≤x∧x<256
theorem Bytes.append {a b:List Int}(ha:Bytes a)(hb:Bytes b):Bytes (a++b):=fun x hx=>(Yy.1 hx).elim (ha x) (hb x)
theorem gP:∀(k n:Nat),n≤k→Bytes (de n)
 | k,n,h=>by
  by_cases h1:n<128
  ·rw [jm h1]; intro x hx; simp at hx; omega
  ·cases k with
   | zero=>omega
   | succ k=>
    rw [lh h1]
    intro x hx
    rcases YW.1 hx with rfl | hx
    ·omega
    ·exact gP k (n / 128) (by omega) x hx
theorem EC (s:ByteArray):Bytes (dY s):=by
 intro x hx
 simp only [dY,YH] at hx
 obtain⟨b,_,rfl⟩:=hx
 have:=b.toNat_lt
 omega
theorem BH {n:ab}(W:pL n):Bytes (dd n):=by
 have hk:0≤n.kind∧n.kind≤3:=by rcases W.kind with h | h | h | h<;>(have:=h.1; omega)
 have hs:Bytes (ny n.label):=(gP _ _ (Yn _)).append (EC _)
 unfold dd
 intro x hx
 rcases YW.1 hx with rfl | hx
 ·omega
 split at hx
 ·exact gP _ _ (Yn _) x hx
 split at hx
 ·exact gP _ _ (Yn _) x hx
 split at hx
 ·exact hs x hx
 ·refine ((hs.append (gP _ _ (Yn _))).append ?_) x hx
  intro y hy
  simp only [List.mem_flatten,YH] at hy
  obtain⟨l,⟨a,_,rfl⟩,hy⟩:=hy
  exact gP _ _ (Yn _) y hy
theorem kc {l:List an}(W:∀t∈l,jI t):Bytes (bw l):=by
 refine Bytes.append (fun x hx=>by simp at hx; omega) ((gP _ _ (Yn _)).append ?_)
 intro y hy
 simp only [bk,List.mem_flatten,YH] at hy
 obtain⟨k,⟨t,ht,rfl⟩,hy⟩:=hy
 refine ((gP _ _ (Yn _)).append ?_) y hy
 intro z hz
 simp only [dA,List.mem_flatten,YH] at hz
 obtain⟨k,⟨n,hn,rfl⟩,hz⟩:=hz
 exact BH ((W t ht).nodes n hn) z hz
theorem ke {m:Nat}{b c:List Int}(H:bM.f m b=some c):Bytes c∧c.length=4:=by
 unfold bM.f at H
 simp only [Yk,Ym] at H
 obtain⟨x,_,rfl⟩:=H
 refine⟨fun y hy=>?_,rfl⟩
 simp only [YW,List.not_mem_nil,or_false] at hy
 rcases hy with rfl | rfl | rfl | rfl<;>(rw [fR]; omega)
theorem bytes_inj {a b:List Int}(ha:Bytes a)(hb:Bytes b)(h:cM a=cM b):a=b:=by
 have h:(a.map fun n=>ZX n.toNat)=b.map fun n=>ZX n.toNat:=by
  have:=congrArg (fun s:ByteArray=>s.data.toList) h
  simpa [cM] using this
 have hl:a.length=b.length:=by simpa using congrArg ZS h
 apply List.ext_getElem hl
 intro i h1 h2
 have:=congrArg (·[i]?) h
 simp only [YQ,Yv h1,Yv h2,Yp,Ym] at this
 have g1:=ha _ (Ze h1)
 have g2:=hb _ (Ze h2)
 have:=congrArg UInt8.toNat this
 simp only [UInt8.toNat_ofNat'] at this
 omega
theorem BI {m:Nat}{a b:List Int}(ha:Bytes a)(hb:Bytes b)(H:cO.f m a b=some true):a=b:=by
 unfold cO.f at H
 simp only [Ym,beq_iff_eq] at H
 refine bytes_inj ha hb ?_
 have:(cM a).data=(cM b).data:=Array.toList_inj.1 H
 cases h1:cM a; cases h2:cM b
 rw [h1,h2] at this
 cases this
 rfl
theorem ED {m:Nat}(hm:2 ^ 30≤m){b:List Int}(hb:Bytes b)(P7:b.length≤200000){l ls:List an}{p v2:List Int}{x2:Int × dG}{i1:Int}{ob:dG}
  (h1:lD b 2 (i64.wrap ((b.length:Int) - 4))=some v2) (h2:aQ.f m ⟨v2,false⟩=some x2) (h3:aD.l0 m x2 m [] 0 x2.2=some (l,i1,ob))
  (h4:cO.f m p b=some true) (h5:aP.f m ls=some p) (h6:ls.length≤8) (W:∀t∈ls,jI t) (hlen:(bk ls).length+2 ^ 42≤140737488355328):l=ls∧p=b:=by
 have lE:(2:Nat) ^ 30=1073741824:=by decide
 rw [Da hm W hlen (by omega)] at h5
 simp only [Yk] at h5
 obtain⟨c,hc,h5⟩:=h5
 obtain⟨_,_,rfl⟩:=k7 h5
 obtain⟨c1,c2⟩:=ke hc
 have he:=BI ((kc W).append c1) hb h4
 refine⟨?_,he⟩
 have Uz:b=[76,1]++((de ls.length++bk ls)++c):=by rw [←he]; simp [bw]
 have PR:b.length=6+(de ls.length++bk ls).length:=by rw [Uz]; simp [c2]; omega
 have hv:v2=de ls.length++bk ls:=by
  rw [aA (by omega) (by omega)] at h1
  obtain⟨_,_,_,rfl⟩:=kZ h1
  rw [show ((b.length:Int) - 4).toNat - (2:Int).toNat=(de ls.length++bk ls).length by omega,Uz]
  have:([76,1]++((de ls.length++bk ls)++c)).drop (2:Int).toNat=(de ls.length++bk ls)++c:=rfl
  rw [this,List.take_left]
 subst hv
 rw [vt (by omega) (by omega)] at h2
 cases h2
 obtain⟨x,hx⟩:=uF hm ((ls.length:Int),(⟨bk ls,false⟩:dG)) [] (by simp; omega) ls m 0 [] (by omega) (by simp) rfl W
 rw [Zk] at hx
 have hx:aD.l0 m ((ls.length:Int),(⟨bk ls,false⟩:dG)) m [] 0 ⟨bk ls,false⟩=_:=hx
 dsimp only at h3
 rw [hx] at h3
 simp at h3
 exact h3.1.symm
end Go.Proofs.YtmekcfdllhphlaaGreatDoor
namespace Go.Proofs.YtmekcfdllhphlaaGreatDoor
open Go Go.R
open Go.IntKind (i64 u64 u8 u32)
theorem EE {m:Nat}(r:dG)(hb:Bytes r.cj):∃(c:Nat) (r':dG),fy.f m r=some ((c:Int),r')∧c<256∧Bytes r'.cj:=by
 obtain⟨l,bad⟩:=r
 cases l with
 | nil=>exact⟨0,⟨[],true⟩,by unfold fy.f; rw [if_pos (by simp)]; rfl,by omega,hb⟩
 | cons c l=>
  have:=hb c (by simp)
  refine⟨c.toNat,⟨l,bad⟩,?_,by omega,fun x hx=>hb x (by simp [hx])⟩
  rw [show ((c.toNat:Nat):Int)=c by omega]
  exact pJ
theorem zV {m:Nat}:∀(f j a:Nat) (r:dG),j≤9→10 - j<f→a<2 ^ (7*j)→Bytes r.cj→∃(a':Nat) (s':Int) (r':dG),aQ.l0 m f (a:Int) ((7*j:Nat):Int) r=some ((a':Int),s',r')∧a'<2 ^ 63∧Bytes r'.cj
 | 0,j,a,r,_,hf,_,_=>absurd hf (by omega)
 | f+1,j,a,r,hj,hf,ha,hb=>by
  have hp:2 ^ (7*(j+1))=128*2 ^ (7*j):=by rw [show 7*(j+1)=7+7*j by omega,Nat.pow_add]
  have Ya:2 ^ (7*j)≤2 ^ 63:=Nat.pow_le_pow_right (by omega) (by omega)
  unfold aQ.l0
  split
  rotate_left
  ·exact⟨_,_,_,rfl,by omega,hb⟩
  obtain⟨c,r',h1,h2,h3⟩:=EE (m:=m) r hb
  rw [h1,Yj]
  dsimp only
  split
  ·exact⟨_,_,_,rfl,by omega,h3⟩
  rename_i g
  have Wx:j≤8:=by simp at g; omega
  have Yb:2 ^ (7*(j+1))≤2 ^ 63:=Nat.pow_le_pow_right (by omega) (by omega)
  have hc:c % 128*2 ^ (7*j)≤127*2 ^ (7*j):=Zb _ (by omega)
  obtain⟨g1,g2⟩:=Bl a (c % 128) (7*j) ha (by omega) (by omega) (Nat.mod_lt _ (by omega))
  rw [Bk c h2]
  have Hs:∃(a':Nat) (s':Int) (zU:dG),aQ.l0 m f ((a+c % 128*2 ^ (7*j):Nat):Int) (i64.wrap (((7*j:Nat):Int)+7)) r'=some ((a':Int),s',zU)∧a'<2 ^ 63∧Bytes zU.cj:=by
   rw [aA (by omega) (by omega),show (((7*j:Nat):Int)+7)=((7*(j+1):Nat):Int) by omega]
   exact zV f (j+1) _ r' (by omega) (by omega) (by omega) h3
  split
  ·split
   ·exact⟨_,_,_,rfl,by omega,h3⟩
   ·rw [g1,Yj,g2]
    split
    ·exact⟨_,_,_,rfl,by omega,h3⟩
    ·exact Hs
  ·rw [g1,Yj,g2]
   split
   ·exact⟨_,_,_,rfl,by omega,h3⟩
   ·exact Hs
theorem mW {m:Nat}(hm:11≤m)(r:dG)(hb:Bytes r.cj):∃(n:Nat) (r':dG),aQ.f m r=some ((n:Int),r')∧n<2 ^ 63∧Bytes r'.cj:=by
 obtain⟨n',s',r',h1,h2,h3⟩:=zV (m:=m) m 0 0 r (by omega) (by omega) (by omega) hb
 have h1:aQ.l0 m m (0:Int) (0:Int) r=_:=h1
 refine⟨n',r',?_,h2,h3⟩
 unfold aQ.f
 rw [h1,Yj]
 dsimp only
 rw [aA (by omega) (by omega)]
end Go.Proofs.YtmekcfdllhphlaaGreatDoor
namespace Go.Proofs.YtmekcfdllhphlaaGreatDoor
open Go Go.R
open Go.IntKind (i64 u64 u8 u32)
theorem EF {m:Nat}(hm:11≤m)(r:dG)(hb:Bytes r.cj):∃s r',gy.f m r=some (s,r')∧Bytes r'.cj:=by
 obtain⟨n,r',h1,h2,h3⟩:=mW hm r hb
 unfold gy.f
 rw [h1,Yj]
 dsimp only
 split
 ·exact⟨_,_,rfl,h3⟩
 split
 ·exact⟨_,_,rfl,h3⟩
 rename_i g1 g2
 simp at g2
 have a1:lD r'.cj 0 (n:Int)=some (r'.cj.take n):=by unfold lD; rw [if_pos ⟨ZR _,by omega,by omega⟩]; simp
 have a2:lD r'.cj (n:Int) (r'.cj.length:Int)=some (r'.cj.drop n):=by
  unfold lD; rw [if_pos ⟨by omega,by omega,ZR _⟩,YR (by simp)]; simp
 rw [a1,Yj,a2,Yj]
 exact⟨_,_,rfl,fun x hx=>h3 x (List.mem_of_mem_drop hx)⟩
end Go.Proofs.YtmekcfdllhphlaaGreatDoor
namespace Go.Proofs.YtmekcfdllhphlaaGreatDoor
open Go Go.R
open Go.IntKind (i64 u64 u8 u32)
end Go.Proofs.YtmekcfdllhphlaaGreatDoor
namespace Go.Proofs.YtmekcfdllhphlaaGreatDoor
open Go Go.R
open Go.IntKind (i64 u64 u8 u32)
theorem iG {m:Nat}(hm:11≤m)(r:dG)(hb:Bytes r.cj):∃(n:Nat) (r':dG),aQ.f m r=some ((n:Int),r')∧n<2 ^ 63∧Bytes r'.cj∧r'.cj.length≤r.cj.length:=by
 obtain⟨n,r',h1,h2,h3⟩:=mW hm r hb
 obtain⟨n2,r2,k1,_,_,k2⟩:=uG hm r
 rw [h1] at k1
 cases k1
 exact⟨n,r',h1,h2,h3,k2⟩
theorem EG {m:Nat}(hm:11≤m)(r:dG)(hb:Bytes r.cj)(hl:r.cj.length≤200000):∃s r',gy.f m r=some (s,r')∧Bytes r'.cj∧r'.cj.length≤r.cj.length:=by
 obtain⟨s,r',h1,h2⟩:=EF hm r hb
 obtain⟨n,rn,g1,g2,_⟩:=mW hm r hb
 obtain⟨s2,r2,k1,k2⟩:=Ht hm r hl ⟨n,rn,g1,by omega⟩
 rw [h1] at k1
 cases k1
 exact⟨s,r',h1,h2,k2⟩
theorem wF {m:Nat}(hm:11≤m)(x5:Int × dG)(k0:Int)(lb:ByteArray):∀(f i:Nat) (acc:List Int) (r:dG),8 - i<f→i≤8→acc.length≤i→Bytes r.cj→
  ∃x BJ r',cb.l1 m x5 f (i:Int) k0 0 lb acc r=some (x,k0,0,lb,BJ,r')∧Bytes r'.cj∧r'.cj.length≤r.cj.length
 | 0,i,acc,r,hf,_,_,_=>absurd hf (by omega)
 | f+1,i,acc,r,hf,hi,ha,hb=>by
  unfold cb.l1
  split
  rotate_left
  ·exact⟨_,_,_,rfl,hb,Yn _⟩
  rename_i g
  have Wy:i<8:=by
   unfold mn at g
   simp only [decide_eq_true_eq] at g
   split at g<;>omega
  obtain⟨n,r',h1,h2,h3,h4⟩:=iG hm r hb
  have jS:app 8 acc [(n:Int)]=some (acc++[(n:Int)]):=by unfold app; rw [if_pos (by simp; omega)]
  rw [h1,Yj]
  dsimp only
  rw [jS,Yj,aA (by omega) (by omega),show ((i:Int)+1)=((i+1:Nat):Int) by omega]
  obtain⟨x,BJ,zU,k1,k2,k3⟩:=wF hm x5 k0 lb f (i+1) (acc++[(n:Int)]) r' (by omega) (by omega) (by simp; omega) h3
  exact⟨x,BJ,zU,k1,k2,Y0 k3 h4⟩
theorem uH {m:Nat}(hm:11≤m)(x5:Int × dG)(k0:Int)(lb:ByteArray):∀(f i:Nat) (acc:List Int) (r:dG),8 - i<f→i≤8→acc.length≤i→Bytes r.cj→
  ∃x BJ r',cb.l0 m x5 f (i:Int) k0 0 lb acc r=some (x,k0,0,lb,BJ,r')∧Bytes r'.cj∧r'.cj.length≤r.cj.length
 | 0,i,acc,r,hf,_,_,_=>absurd hf (by omega)
 | f+1,i,acc,r,hf,hi,ha,hb=>by
  unfold cb.l0
  split
  rotate_left
  ·exact⟨_,_,_,rfl,hb,Yn _⟩
  rename_i g
  have Wy:i<8:=by
   unfold mn at g
   simp only [decide_eq_true_eq] at g
   split at g<;>omega
  obtain⟨n,r',h1,h2,h3,h4⟩:=iG hm r hb
  have jS:app 8 acc [(n:Int)]=some (acc++[(n:Int)]):=by unfold app; rw [if_pos (by simp; omega)]
  rw [h1,Yj]
  dsimp only
  rw [jS,Yj,aA (by omega) (by omega),show ((i:Int)+1)=((i+1:Nat):Int) by omega]
  obtain⟨x,BJ,zU,k1,k2,k3⟩:=uH hm x5 k0 lb f (i+1) (acc++[(n:Int)]) r' (by omega) (by omega) (by simp; omega) h3
  exact⟨x,BJ,zU,k1,k2,Y0 k3 h4⟩
theorem EH {m:Nat}(hm:11≤m)(r:dG)(hb:Bytes r.cj)(hl:r.cj.length≤200000):∃n r',cb.f m r=some (n,r')∧Bytes r'.cj∧(r.cj=[]→r'.br=true∧r'.cj=[])∧(r.cj≠[]→r'.cj.length<r.cj.length)∧(n.kind=0→n.int<2 ^ 63):=by
 unfold cb.f
 obtain⟨bs,bad⟩:=r
 cases bs with
 | nil=>
  obtain⟨k,rfl⟩:∃k,m=k+1:=⟨m - 1,by omega⟩
  have h1:fy.f (k+1) ⟨[],bad⟩=some (0,⟨[],true⟩):=by unfold fy.f; rw [if_pos (by simp)]
  have h2:aQ.f (k+1) ⟨[],true⟩=some (0,⟨[],true⟩):=by
   unfold aQ.f aQ.l0
   rw [if_neg (by simp)]; rfl
  have e0:i64.wrap 0=0:=by decide
  rw [h1,Yj]
  dsimp only
  rw [e0,if_pos (by simp),h2]
  exact⟨_,_,rfl,hb,fun _=>⟨rfl,rfl⟩,fun h=>absurd rfl h,fun _=>by dsimp only; decide⟩
 | cons c l=>
  have hb1:Bytes l:=fun x hx=>hb x (by simp [hx])
  have h1:fy.f m ⟨c::l,bad⟩=some (c,⟨l,bad⟩):=pJ
  have hc:=hb c (by simp)
  have hll:l.length≤200000:=by simp at hl; omega
  obtain⟨n,r2,h2,hn,hb2,l2⟩:=iG hm ⟨l,bad⟩ hb1
  obtain⟨s,r3,h3,UA,l3⟩:=EG hm ⟨l,bad⟩ hb1 hll
  obtain⟨k,r4,h4,_,UB,l4⟩:=iG hm r3 UA
  dsimp only at l2 l3
  have fin:∀(n:ab) (r':dG),Bytes r'.cj→r'.cj.length≤l.length→(n.kind=0→n.int<2 ^ 63)→∃n' zU,(some (n,r'):Option (ab × dG))=some (n',zU)∧Bytes zU.cj∧(c::l=[]→zU.br=true∧zU.cj=[])∧(c::l≠[]→zU.cj.length<(c::l).length)∧(n'.kind=0→n'.int<2 ^ 63):=
   fun n r' a1 a2 a3=>⟨n,r',rfl,a1,fun h=>(List.cons_ne_nil _ _ h).elim,fun _=>by simp; omega,a3⟩
  rw [h1,Yj]
  dsimp only
  rw [h2,h3]
  simp only [Yj]
  rw [h4]
  simp only [Yj]
  rw [aA (by omega) (by omega)]
  split
  ·exact fin _ _ hb2 l2 fun _=>by dsimp only; omega
  rename_i g0
  have g0:c≠0:=by simpa using g0
  split
  ·split
   ·exact fin _ _ hb2 l2 fun h=>absurd h g0
   ·exact fin _ _ hb2 l2 fun h=>absurd h g0
  split
  ·exact fin _ _ UA l3 fun h=>absurd h g0
  split
  ·split
   ·obtain⟨x,acc,r5,h5,So,l5⟩:=uH hm ((k:Int),r4) c s m 0 [] ⟨r4.cj,true⟩ (by omega) (by omega) (by simp) UB
    have h5:cb.l0 m ((k:Int),r4) m (0:Int) c 0 s [] ⟨r4.cj,true⟩=_:=h5
    rw [h5,Yj]
    exact fin _ r5 So (by dsimp only at l5; omega) fun h=>absurd h g0
   ·obtain⟨x,acc,r5,h5,So,l5⟩:=wF hm ((k:Int),r4) c s m 0 [] r4 (by omega) (by omega) (by simp) UB
    have h5:cb.l1 m ((k:Int),r4) m (0:Int) c 0 s [] r4=_:=h5
    rw [h5,Yj]
    exact fin _ r5 So (by omega) fun h=>absurd h g0
  ·exact fin _ _ hb1 (Yn _) fun h=>absurd h g0
end Go.Proofs.YtmekcfdllhphlaaGreatDoor
namespace Go.Proofs.YtmekcfdllhphlaaGreatDoor
open Go Go.R
open Go.IntKind (i64 u64 u8 u32)
end Go.Proofs.YtmekcfdllhphlaaGreatDoor
namespace Go.Proofs.YtmekcfdllhphlaaGreatDoor
open Go Go.R
open Go.IntKind (i64 u64 u8 u32)
theorem Jy {m:Nat}{b:List Int}{l:List an}{e:Int}(hb:b.length≤200000)(H:aD.f m b=some (l,e))(he:e≠0):l=[]∧e=2:=by
 unfold aD.f at H
 rw [if_neg (by simp; omega)] at H
 split at H
 ·simp at H; exact⟨H.1,H.2.symm⟩
 simp only [Yk] at H
 obtain⟨v0,h0,x0,h1,v1,h2,x1,h3,H⟩:=H
 split at H
 ·simp at H; exact⟨H.1,H.2.symm⟩
 simp only [Yk] at H
 obtain⟨v2,h4,x2,h5,⟨l',i1,ob⟩,h6,H⟩:=H
 dsimp only at H
 split at H
 ·simp at H; exact⟨H.1,H.2.symm⟩
 split at H
 ·simp at H; exact⟨H.1,H.2.symm⟩
 simp only [Yk] at H
 obtain⟨⟨p,e'⟩,h7,H⟩:=H
 split at H
 ·simp at H; exact⟨H.1,H.2.symm⟩
 simp only [Yk] at H
 obtain⟨x8,h8,H⟩:=H
 split at H
 ·simp at H; exact⟨H.1,H.2.symm⟩
 simp at H
 exact absurd H.2.symm he
end Go.Proofs.YtmekcfdllhphlaaGreatDoor
namespace Go.Proofs.YtmekcfdllhphlaaGreatDoor
open Go Go.R
open Go.IntKind (i64 u64 u8 u32)
def AD (t:an):Prop:=∀n∈t.nodes,n.kind=0→n.int<2 ^ 63
theorem Hx {s:ByteArray}(h:(s.data.toList==[])=true):s=YM #[]:=by
 have h:=beq_iff_eq.1 h
 cases s with
 | mk d=>
  cases d with
  | mk l=>simp only at h; subst h; rfl
theorem P8 {l:List Int}(h:l.isEmpty=true):l=[]:=by cases l with | nil=>rfl | cons=>cases h
structure E8 (n:ab):Prop where
 kind:n.kind=0∧0≤n.int∧n.label=YM #[]∧n.args=[]∨n.kind=1∧(-1099511627776≤n.int∧n.int≤1099511627776)∧n.label=YM #[]∧n.args=[]∨n.kind=2∧n.int=0∧n.args=[]∨n.kind=3∧n.int=0∨n.kind=4∧n.args=[]
 label:n.kind=2∨n.kind=3→1≤n.label.size∧n.label.size≤16
 args:n.args.length≤8
theorem qN {n:ab}{size:Int}(h:kB n size=true):E8 n∧∀a∈n.args,0≤a∧a<size:=by
 unfold kB at h
 split at h
 ·rename_i k
  simp only [Yo,decide_eq_true_eq] at h
  have ha:=P8 h.2
  exact⟨⟨.inl ⟨k,h.1.1,Hx h.1.2,ha⟩,fun z=>by omega,by rw [ha]; decide⟩,fun a h=>by rw [ha] at h; cases h⟩
 split at h
 ·rename_i k
  simp only [Yo,decide_eq_true_eq] at h
  have ha:=P8 h.2
  exact⟨⟨.inr (.inl ⟨k,h.1.1,Hx h.1.2,ha⟩),fun z=>by omega,by rw [ha]; decide⟩,fun a h=>by rw [ha] at h; cases h⟩
 split at h
 ·rename_i k
  simp only [Yo,beq_iff_eq] at h
  have ha:=P8 h.2
  exact⟨⟨.inr (.inr (.inl ⟨k,h.1.1,ha⟩)),fun z=>wv h.1.2,by rw [ha]; decide⟩,fun a h=>by rw [ha] at h; cases h⟩
 split at h
 ·rename_i k
  simp only [Yo,beq_iff_eq,decide_eq_true_eq,YK] at h
  exact⟨⟨.inr (.inr (.inr (.inl ⟨k,h.1.1.1.1⟩))),fun z=>wv h.1.1.1.2,h.1.2⟩,h.2⟩
 split at h
 ·rename_i k
  simp only [Yo,decide_eq_true_eq] at h
  have ha:=P8 h.2
  exact⟨⟨.inr (.inr (.inr (.inr ⟨k,ha⟩))),fun z=>by omega,by rw [ha]; decide⟩,fun a h=>by rw [ha] at h; cases h⟩
 ·cases h
theorem jr {t:an}(h:ej t=true):lz t.nodes∧1≤t.nodes.length∧0≤t.root∧t.root<t.nodes.length∧∀n∈t.nodes,E8 n:=by
 unfold ej at h
 simp only [Yo,decide_eq_true_eq,YK] at h
 obtain⟨⟨⟨⟨h1,h2⟩,h3⟩,h4⟩,h5⟩:=h
 exact⟨⟨h2,fun n hn=>⟨(qN (h5 n hn)).1.args,(qN (h5 n hn)).2⟩⟩,h1,h3,h4,fun n hn=>(qN (h5 n hn)).1⟩
structure jA (s:an):Prop where
 root:s.root=0
 qd:s.nodes.length≤8000
 nodes:∀x∈s.nodes,E8 x∧(x.kind=0→x.int<2 ^ 63)∧∀a∈x.args,0≤a∧a<8000
theorem E8.map {n:ab}(T:E8 n)(f:Int→Int):E8 ⟨n.kind,n.int,n.label,n.args.map f⟩:=by
 refine⟨?_,T.label,by simpa using T.args⟩
 rcases T.kind with⟨a,b,c,d⟩| ⟨a,b,c,d⟩| ⟨a,b,d⟩| ⟨a,b⟩| ⟨a,d⟩
 ·exact .inl ⟨a,b,c,by simp [d]⟩
 ·exact .inr (.inl ⟨a,b,c,by simp [d]⟩)
 ·exact .inr (.inr (.inl ⟨a,b,by simp [d]⟩))
 ·exact .inr (.inr (.inr (.inl ⟨a,b⟩)))
 ·exact .inr (.inr (.inr (.inr ⟨a,by simp [d]⟩)))
theorem qO {m:Nat}(hm:2 ^ 41≤m){t:an}(h:ej t=true)(h0:AD t):∃s,cG.f m t=some s∧jA s:=by
 obtain⟨ok,h1,r0,r1,hT⟩:=jr h
 obtain⟨cls,many,ks,ns,e,P,_,K,AU,Q,hr⟩:=uA hm ok h1 r0 r1 (fun _=>True) (fun _ _ _ _ _=>trivial) (fun _ _ _ _ _ _ _ _ _=>trivial)
 have BC:=Q.vs.qd
 have h8000:=ok.1
 have hlen:=Q.len
 refine⟨_,e,rfl,by dsimp only; omega,fun x hx=>?_⟩
 obtain⟨k,hk,e2⟩:=ZU hx
 dsimp only at hk e2
 have:=Q.new k (by simp) (by omega)
 rw [Yv hk,e2] at this
 have:=YI this
 subst this
 have xm:=Q.vs.nP _ (aJ (l:=rJ cls t.nodes m t.root []) (k:=k) (by omega))
 have Bz:=fD xm.1 xm.2
 have Wz:=h0 _ Bz
 refine⟨(hT _ Bz).map _,fun hk=>Wz hk,fun a ha=>?_⟩
 obtain⟨b,hb,rfl⟩:=YH.1 ha
 have hin:=Q.arg k (by simp) (by omega) b hb
 have:=Zl hin
 rw [YY] at this
 unfold idx
 omega
theorem wG {m:Nat}(hm:2 ^ 41≤m){t:an}(h0:AD t):∃s e,dj.f m t=some (s,e)∧(e=0→jA s):=by
 have lE:(2:Nat) ^ 30=1073741824:=by decide
 have pz:(2:Nat) ^ 41=2199023255552:=by decide
 unfold dj.f
 rw [oz (by omega),Yj]
 cases h:ej t with
 | false=>exact⟨_,_,rfl,fun h=>absurd h (by decide)⟩
 | true=>
  obtain⟨s,e,L⟩:=qO hm h h0
  rw [if_neg (by simp),e]
  exact⟨_,_,rfl,fun _=>L⟩
theorem jA.w {s:an}(L:jA s)(h:s.nodes.any (fun n=>n.kind==4)=false):jI s:=by
 refine⟨fun n hn=>?_,?_,L.root⟩
 ·obtain⟨T,i0,ha⟩:=L.nodes n hn
  have h4:n.kind≠4:=fun e=>by
   have:=List.any_eq_false.1 h n hn
   rw [e] at this; exact absurd this (by decide)
  have Yc:(2:Int) ^ 62=4611686018427387904:=by decide
  have Hj:(2:Int) ^ 63=9223372036854775808:=by decide
  have mj:(2:Nat) ^ 40=1099511627776:=by decide
  refine⟨?_,fun hk=>?_,T.args,fun a hx=>by have:=ha a hx; omega⟩
  ·rcases T.kind with⟨a,b,c,d⟩| ⟨a,b,c,d⟩| ⟨a,b,d⟩| ⟨a,b⟩| ⟨a,d⟩
   ·exact .inl ⟨a,⟨b,i0 a⟩,c,d⟩
   ·exact .inr (.inl ⟨a,by omega,c,d⟩)
   ·exact .inr (.inr (.inl ⟨a,b,d⟩))
   ·exact .inr (.inr (.inr ⟨a,b⟩))
   ·exact absurd a h4
  ·have:=T.label (by rcases T.kind with h | h | h | h | h<;>(have:=h.1; omega))
   omega
 ·have:=L.qd
  have lE:(2:Nat) ^ 30=1073741824:=by decide
  omega
theorem rK {n:ab}(W:pL n)(T:E8 n):(dd n).length≤200:=by
 have WA:(2:Int) ^ 63=9223372036854775808:=by decide
 have i62:(2:Int) ^ 62=4611686018427387904:=by decide
 have Ni:(2:Nat) ^ 64=18446744073709551616:=by decide
 have Hj:(2:Nat) ^ 63=9223372036854775808:=by decide
 have hs:(n.kind=2∨n.kind=3)→(ny n.label).length≤30:=fun h=>by
  obtain⟨h1,h2⟩:=T.label h
  unfold ny
  have:=di (n:=n.label.size) (by omega)
  rw [Ys,iW]; omega
 have hargs:∀l:List Int,(∀a∈l,0≤a∧a<2 ^ 63)→((l.map fun a=>de a.toNat).flatten).length≤10*l.length:=by
  intro l
  induction l with
  | nil=>intro _; simp
  | cons a l ih=>
   intro h
   have h1:=h a (by simp)
   have:=ih fun b hb=>h b (by simp [hb])
   have h2:=di (n:=a.toNat) (by omega)
   simp only [YJ,List.flatten_cons,Ys,YD]
   omega
 unfold dd
 rw [YD]
 rcases W.kind with⟨a,⟨b,b'⟩,_,_⟩| ⟨a,⟨b,b'⟩,_,_⟩| ⟨a,_⟩| ⟨a,_⟩
 ·rw [if_pos a]
  have:=di (n:=n.int.toNat) (by omega)
  omega
 ·rw [if_neg (by omega),if_pos a]
  have h1:=BF b b'
  have:=di (n:=yB n.int) (by omega)
  omega
 ·rw [if_neg (by omega),if_neg (by omega),if_pos a]
  have:=hs (.inl a); omega
 ·rw [if_neg (by omega),if_neg (by omega),if_neg (by omega),Ys,Ys]
  have h1:=hs (.inr a)
  have h2:=hargs n.args W.args.2
  have h3:=W.args.1
  have h4:=di (n:=n.args.length) (by omega)
  omega
theorem zW {t:an}(L:jA t)(W:jI t):(iX t).length≤2000000:=by
 have hn:∀l:List ab,(∀n∈l,pL n∧E8 n)→(dA l).length≤200*l.length:=by
  intro l
  induction l with
  | nil=>intro _; simp [dA]
  | cons a l ih=>
   intro h
   have h1:=h a (by simp)
   have:=ih fun b hb=>h b (by simp [hb])
   have h2:=rK h1.1 h1.2
   rw [iq,Ys,YD]; omega
 have h1:=hn t.nodes fun n hn=>⟨W.nodes n hn,(L.nodes n hn).1⟩
 have h2:=L.qd
 have Ni:(2:Nat) ^ 64=18446744073709551616:=by decide
 have h3:=di (n:=t.nodes.length) (by omega)
 unfold iX
 rw [Ys]; omega
theorem lT:∀{l:List an},(∀t∈l,jA t∧jI t)→(bk l).length≤2000000*l.length
 | [],_=>by simp [bk]
 | a::l,h=>by
  have h1:=h a (by simp)
  have:=lT (l:=l) fun b hb=>h b (by simp [hb])
  have h2:=zW h1.1 h1.2
  rw [ir,Ys,YD]; omega
theorem qP {m:Nat}{t:an}(h:t.nodes.length<2 ^ 40)(h2:t.nodes.length<m):dP.f m t=some (t.nodes.any fun n=>n.kind==4):=by
 unfold dP.f
 rw [wx (f0:=fun y0=>fX.f m y0) (g:=fun n=>n.kind==4) h h2 (fun n _=>rfl)]; rfl
theorem Hy {m:Nat}:∀(f i:Nat) (Jz:Int),8 - i<f→i≤8→∃c x,aT.l1 m f Jz (i:Int)=some (c,x)
 | 0,i,Jz,hf,_=>absurd hf (by omega)
 | f+1,i,Jz,hf,hi=>by
  unfold aT.l1
  by_cases h:i<8
  ·rw [if_pos (by simp only [decide_eq_true_eq]; omega),aA (by omega) (by omega),show (i:Int)+1=((i+1:Nat):Int) by omega]
   exact Hy f (i+1) _ (by omega) (by omega)
  ·exact⟨_,_,by rw [if_neg (by simp only [decide_eq_true_eq]; omega)]⟩
theorem Hz {m:Nat}(hm:10≤m){b:List Int}(hb:b.length<2 ^ 40):∀(f i:Nat) (Jz:Int),b.length - i<f→i≤b.length→∃c x,aT.l0 m b f Jz (i:Int)=some (c,x)
 | 0,i,Jz,hf,_=>absurd hf (by omega)
 | f+1,i,Jz,hf,hi=>by
  have mj:(2:Nat) ^ 40=1099511627776:=by decide
  unfold aT.l0
  by_cases h:i<b.length
  ·obtain⟨c,x,k⟩:=Hy (m:=m) m 0 (jt .u32 Jz (u32.wrap (gt b i))) (by omega) (by omega)
   have k:aT.l1 m m (jt .u32 Jz (u32.wrap (gt b i))) 0=_:=k
   rw [if_pos (by simp only [decide_eq_true_eq]; omega),cy h,Yj,k,Yj]
   dsimp only
   rw [aA (by omega) (by omega),show (i:Int)+1=((i+1:Nat):Int) by omega]
   exact Hz hm hb f (i+1) _ (by omega) (by omega)
  ·exact⟨_,_,by rw [if_neg (by simp only [decide_eq_true_eq]; omega)]⟩
theorem qQ {m:Nat}(hm:10≤m){b:List Int}(hb:b.length<2 ^ 40)(h:b.length<m):∃c,bM.f m b=some c:=by
 obtain⟨c,x,k⟩:=Hz hm hb m 0 4294967295 (by omega) (by omega)
 have k:aT.l0 m b m 4294967295 0=_:=k
 unfold bM.f aT.f
 rw [k]
 exact⟨_,rfl⟩
theorem uI {m:Nat}(hm:2 ^ 41≤m){L:List an}(hL:L.length≤8)(h0:∀t∈L,AD t):∀(f i:Nat) (acc:List an),L.length - i<f→i≤L.length→acc.length≤i→(∀s∈acc,jA s)→
  ∃o,bj.l0 m L f acc (i:Int)=some o∧(o = .inl ([],2)∨∃ls x,o = .inr (ls,x)∧ls.length≤8∧∀s∈ls,jA s)
 | 0,i,acc,hf,_,_,_=>absurd hf (by omega)
 | f+1,i,acc,hf,hi,ha,O8=>by
  unfold bj.l0
  by_cases h:i<L.length
  ·have hx:ix L (i:Int)=some L[i]:=by unfold ix; rw [if_pos (by omega)]; simp [h]
   obtain⟨s,e,k1,k2⟩:=wG hm (h0 _ (Ze h))
   rw [if_pos (by simp only [decide_eq_true_eq]; omega),hx,Yj,k1,Yj]
   dsimp only
   by_cases he:e=0
   ·subst he
    have jS:app 32 acc [s]=some (acc++[s]):=by unfold app; rw [if_pos (by simp; omega)]
    rw [if_neg (by simp),jS,Yj,aA (by omega) (by omega),show (i:Int)+1=((i+1:Nat):Int) by omega]
    refine uI hm hL h0 f (i+1) _ (by omega) (by omega) (by simp; omega) fun x hx=>?_
    rcases Yy.1 hx with hx | hx
    ·exact O8 x hx
    ·simp only [Yw] at hx; subst hx; exact k2 rfl
   ·rw [if_pos (by simpa using he)]
    exact⟨_,rfl,.inl rfl⟩
  ·exact⟨_,by rw [if_neg (by simp only [decide_eq_true_eq]; omega)],.inr ⟨acc,_,rfl,by omega,O8⟩⟩
theorem JA {m:Nat}(hm:2 ^ 41≤m){L:List an}(h0:∀t∈L,AD t):∃r,bj.f m L=some r:=by
 have lE:(2:Nat) ^ 30=1073741824:=by decide
 have pz:(2:Nat) ^ 41=2199023255552:=by decide
 have mj:(2:Nat) ^ 40=1099511627776:=by decide
 have L6:(2:Nat) ^ 42=4398046511104:=by decide
 unfold bj.f
 by_cases h:L.length≤8
 ·rw [if_neg (by simp only [decide_eq_true_eq]; omega)]
  obtain⟨o,k1,k2⟩:=uI hm h h0 m 0 [] (by omega) (by omega) (by simp) (fun s hs=>by cases hs)
  have k1:bj.l0 m L m [] 0=_:=k1
  rw [k1,Yj]
  rcases k2 with rfl | ⟨ls,x,rfl,hl,P9⟩
  ·exact⟨_,rfl⟩
  ·dsimp only
   rw [qI (g:=fun t=>t.nodes.any fun n=>n.kind==4) (by omega) (by omega) (fun t ht=>qP (by have:=(P9 t ht).qd; omega) (by have:=(P9 t ht).qd; omega)),Yj]
   cases hc:ls.any fun t=>t.nodes.any fun n=>n.kind==4 with
   | true=>exact⟨_,rfl⟩
   | false=>
    have hW:∀t∈ls,jA t∧jI t:=fun t ht=>⟨P9 t ht,(P9 t ht).w (by simpa using List.any_eq_false.1 hc t ht)⟩
    have Lm:=lT hW
    have WB:=di (n:=ls.length) (by omega)
    have Kb:(bw ls).length≤100000000:=by
     unfold bw
     simp only [Ys,YD,Y6]; omega
    obtain⟨c,hc2⟩:=qQ (m:=m) (by omega) (b:=bw ls) (by omega) (by omega)
    have:=(ke hc2).2
    have jS:app 1 (bw ls) c=some (bw ls++c):=by unfold app; rw [if_pos (by omega)]
    rw [if_neg (by simp),Da (by omega) (fun t ht=>(hW t ht).2) (by omega) (by omega),hc2,Yj,jS,Yj]
    split
    ·exact⟨_,rfl⟩
    ·exact⟨_,rfl⟩
 ·rw [if_pos (by simp only [decide_eq_true_eq]; omega)]
  exact⟨_,rfl⟩
end Go.Proofs.YtmekcfdllhphlaaGreatDoor
namespace Go.Proofs.YtmekcfdllhphlaaGreatDoor
open Go Go.R
open Go.IntKind (i64 u64 u8 u32)
structure EI (l:List ab)(R:Nat→Nat→Prop):Prop where
 nP:∀i j,R i j→i<l.length∧j<l.length
 top:∀i j,R i j→Alike (nd l i) (nd l j)
 arg:∀i j,R i j→∀k,k<(nd l i).args.length→R (gt (nd l i).args k).toNat (gt (nd l j).args k).toNat
structure Min (l:List ab)(r:List Int):Prop where
 len:r.length=l.length
 top:∀i j,i<l.length→j<l.length→gt r i=gt r j→Alike (nd l i) (nd l j)
 arg:∀i j,i<l.length→j<l.length→gt r i=gt r j→∀k,k<(nd l i).args.length→gt r (gt (nd l i).args k).toNat=gt r (gt (nd l j).args k).toNat
 max:∀R,EI l R→∀i j,R i j→gt r i=gt r j
theorem sN (a:ab):cT a a=0:=(Alike.refl a).cT
theorem vu {a b c:ab}(h1:cT a b=0)(h2:cT b c=0):cT a c=0:=by
 have n1:=jq a b
 have n2:=jq b c
 have n3:=jq a c
 have t1:=zN a b c (by omega) (by omega)
 have t2:=zN c b a (by omega) (by omega)
 omega
theorem yn {l:List ab}{d:List Int}{k:Nat}:∀j,k≤j→rk l d k=rk l d j→cT (nd l (gt d k)) (nd l (gt d j))=0
 | 0,h,_=>by
   have:k=0:=by omega
   subst this; exact sN _
 | j+1,h,e=>by
  by_cases hk:k=j+1
  ·subst hk; exact sN _
  ·have m1:=xZ l d k j (by omega)
   have e2:rk l d (j+1)=rk l d j+if cT (nd l (gt d j)) (nd l (gt d (j+1)))=0 then 0 else 1:=rfl
   by_cases hc:cT (nd l (gt d j)) (nd l (gt d (j+1)))=0
   ·rw [if_pos hc] at e2
    exact vu (yn j (by omega) (by omega)) hc
   ·rw [if_neg hc] at e2; omega
theorem yo {l:List ab}{d:List Int}{n:Nat}(S:Sg (fun x y=>cT (nd l x) (nd l y)) d 0 n){k q:Nat}(hq:q<n)(h0:cT (nd l (gt d k)) (nd l (gt d q))=0):∀j,k≤j→j≤q→rk l d j=rk l d k
 | 0,h,_=>by
   have:k=0:=by omega
   subst this; rfl
 | j+1,h,hj=>by
  by_cases hk:k=j+1
  ·subst hk; rfl
  ·have ih:=yo S hq h0 j (by omega) (by omega)
   have WC:cT (nd l (gt d k)) (nd l (gt d j))≤0:=by
    by_cases e:k=j
    ·subst e; rw [sN]; omega
    ·have:0≤cT (nd l (gt d j)) (nd l (gt d k)):=S k j (by omega) (by omega) (by omega)
     have n:=jq (nd l (gt d k)) (nd l (gt d j))
     omega
   have WD:cT (nd l (gt d (j+1))) (nd l (gt d q))≤0:=by
    by_cases e:j+1=q
    ·subst e; rw [sN]; omega
    ·have:0≤cT (nd l (gt d q)) (nd l (gt d (j+1))):=S (j+1) q (by omega) (by omega) hq
     have n:=jq (nd l (gt d (j+1))) (nd l (gt d q))
     omega
   have WE:cT (nd l (gt d q)) (nd l (gt d k))≤0:=by have n:=jq (nd l (gt d k)) (nd l (gt d q)); omega
   have Yd:=zN _ _ _ (zN _ _ _ WD WE) WC
   have s1:=S j (j+1) (by omega) (by omega) (by omega)
   have n:=jq (nd l (gt d j)) (nd l (gt d (j+1)))
   have hz:cT (nd l (gt d j)) (nd l (gt d (j+1)))=0:=by
    have s1:0≤cT (nd l (gt d (j+1))) (nd l (gt d j)):=s1
    omega
   show rk l d j+(if cT (nd l (gt d j)) (nd l (gt d (j+1)))=0 then 0 else 1)=_
   rw [if_pos hz,ih]; rfl
def JB (l:List ab)(out:List Int):Prop:=(∀i j,i<l.length→j<l.length→gt out i=gt out j→cT (nd l i) (nd l j)=0)∧∀R,EI l R→∀i j,R i j→gt out i=gt out j
theorem EJ {l:List ab}{d out:List Int}(hp:d.Perm (ints l.length))(hs:Ord (fun x y=>cT (nd l x) (nd l y)) (ints l.length)→Sg (fun x y=>cT (nd l x) (nd l y)) d 0 l.length)(hg:∀k,k<l.length→gt out (gt d k).toNat=rk l d k):JB l out:=by
 have S:=hs (Mi _ _)
 have Rk:d.length=l.length:=by rw [hp.length_eq,dS]
 have pos:∀i,i<l.length→∃k,k<l.length∧gt d k=i∧gt out i=rk l d k:=fun i hi=>by
  obtain⟨k,hk,e⟩:=eW (hp.mem_iff.2 (iV.2 (show 0≤(i:Int)∧(i:Int)<l.length by omega)))
  have:=hg k (by omega)
  rw [e,Yq] at this
  exact⟨k,by omega,e,this⟩
 refine⟨fun i j hi hj e=>?_,fun R B i j hR=>?_⟩
 ·obtain⟨k,hk,ek,Sq⟩:=pos i hi
  obtain⟨q,hq,eq,Ss⟩:=pos j hj
  rw [Sq,Ss] at e
  rw [←ek,←eq]
  rcases Nat.le_total k q with h | h
  ·exact yn q h (by omega)
  ·have:=yn (l:=l) (d:=d) k h (by omega)
   have n:=jq (nd l (gt d k)) (nd l (gt d q))
   omega
 ·obtain⟨hi,hj⟩:=B.nP i j hR
  obtain⟨k,hk,ek,Sq⟩:=pos i hi
  obtain⟨q,hq,eq,Ss⟩:=pos j hj
  have h0:=(B.top i j hR).cT
  rw [←ek,←eq] at h0
  rw [Sq,Ss]
  rcases Nat.le_total k q with h | h
  ·rw [yo S hq h0 q h (Yn _)]
  ·have n:=jq (nd l (gt d k)) (nd l (gt d q))
   rw [yo S hk (by omega) k h (Yn _)]
theorem HA {l:List ab}(ok:lz l){out:List Int}{i j:Nat}(h1:(nd l i).args.length=(nd l j).args.length)(e:key out (nd l i) i=key out (nd l j) j):gt out i=gt out j∧∀k,k<(nd l i).args.length→gt out (gt (nd l i).args k).toNat=gt out (gt (nd l j).args k).toNat:=by
 unfold key at e
 have e1:=List.cons.inj e
 refine⟨by omega,fun k hk=>?_⟩
 have e2:=e1.2
 rw [h1] at e2
 have e3:=List.append_cancel_right e2
 have e4:=congrArg (fun z=>z[k]?) e3
 simp only [YQ] at e4
 rw [bu hk,bu (by omega)] at e4
 simp only [Yp,Ym] at e4
 omega
theorem HB {l:List ab}(ok:lz l)(out:List Int)(many:Nat)(ks:List (List Int))(next:List Int)(P:Part l.length out many)(I:JB l out)(K:qK l out l.length ks)(hn:next.length=l.length)
  (hg:∀i,i<l.length→gt next i=(ks.idxOf (key out (nd l i) i):Int)):JB l next:=by
 refine⟨fun i j hi hj e=>?_,fun R B i j hR=>?_⟩
 ·rw [hg i hi,hg j hj] at e
  have e:ks.idxOf (key out (nd l i) i)=ks.idxOf (key out (nd l j) j):=by omega
  have m1:=Zl ((K.mem _).2 ⟨i,hi,rfl⟩)
  have m2:=Zl ((K.mem _).2 ⟨j,hj,rfl⟩)
  have g1:=List.getElem_idxOf m1
  have g2:=List.getElem_idxOf m2
  have g3:key out (nd l i) i=key out (nd l j) j:=by rw [←g1,←g2]; congr 1
  exact I.1 i j hi hj (by have:=(List.cons.inj g3).1; omega)
 ·obtain⟨hi,hj⟩:=B.nP i j hR
  rw [hg i hi,hg j hj]
  have hk:key out (nd l i) i=key out (nd l j) j:=by
   have hl:=(B.top i j hR).len
   unfold key
   rw [I.2 R B i j hR,hl]
   congr 2
   apply Zd fun k=>?_
   simp only [YQ]
   by_cases h:k<(nd l i).args.length
   ·rw [bu h,bu (by omega)]
    simp only [Yp,Ym]
    rw [I.2 R B _ _ (B.arg i j hR k h)]
   ·rw [YC (by omega),YC (by omega)]
  rw [hk]
theorem Ms {l:List ab}{r:List Int}{many:Nat}{ks:List (List Int)}(P:Part l.length r many)(K:qK l r l.length ks)(AU:ks.length=many+1){i j:Nat}(hi:i<l.length)(hj:j<l.length)(e:gt r i=gt r j):key r (nd l i) i=key r (nd l j) j:=by
 by_cases hne:key r (nd l i) i=key r (nd l j) j
 ·exact hne
 ·exfalso
  have WG:=(K.mem _).2 ⟨i,hi,rfl⟩
  have WH:=(K.mem _).2 ⟨j,hj,rfl⟩
  have hn:((List.range (many+1)).map fun v:Nat=>((v:Int)+1)).Nodup:=by
   unfold List.Nodup
   rw [List.pairwise_map]
   exact List.Pairwise.imp (fun h=>by omega) List.nodup_range
  have:=hn.length_le_of_subset (l₂:=(ks.erase (key r (nd l j) j)).map fun k=>k.headD 0) (fun x hx=>by
   obtain⟨v,hv,rfl⟩:=YH.1 hx
   obtain⟨q,hq,h⟩:=P.Ul v (by have:=List.mem_range.1 hv; omega)
   by_cases Iq:key r (nd l q) q=key r (nd l j) j
   ·refine YH.2 ⟨key r (nd l i) i,(List.mem_erase_of_ne hne).2 WG,?_⟩
    have h1:=(List.cons.inj Iq).1
    simp [key,e]
    omega
   ·exact YH.2 ⟨_,(List.mem_erase_of_ne Iq).2 ((K.mem _).2 ⟨q,hq,rfl⟩),by simp [key,h]⟩)
  rw [YY,YY,List.length_range,List.length_erase_of_mem WH] at this
  omega
theorem wH {l:List ab}(hT:∀n∈l,E8 n){i j:Nat}(hi:i<l.length)(hj:j<l.length)(h:cT (nd l i) (nd l j)=0):Alike (nd l i) (nd l j):=by
 have Ti:=hT _ (fD (i:=(i:Int)) (by omega) (by omega))
 have Tj:=hT _ (fD (i:=(j:Int)) (by omega) (by omega))
 have a3:∀{n:ab},E8 n→n.kind=3→n.int=0:=fun T h=>by rcases T.kind with z | z | z | z | z<;>(have:=z.1; first | omega | exact z.2)
 have a0:∀{n:ab},E8 n→n.kind≠3→n.args=[]:=fun T h=>by
  rcases T.kind with z | z | z | z | z
  ·exact z.2.2.2
  ·exact z.2.2.2
  ·exact z.2.2
  ·exact absurd z.1 h
  ·exact z.2
 exact He h (a3 Ti) (a3 Tj) (a0 Ti) (a0 Tj)
theorem lU {m:Nat}(hm:2 ^ 41≤m){t:an}(h:ej t=true) :
  ∃cls ns,cG.f m t=some ⟨ns,0⟩∧Min t.nodes cls∧Ps cls t.nodes [] (rJ cls t.nodes m t.root []) [] ns∧eu cls t.root∈(rJ cls t.nodes m t.root []).map (eu cls):=by
 obtain⟨ok,h1,r0,r1,hT⟩:=jr h
 obtain⟨cls,many,ks,ns,e,P,I,K,AU,Q,hr⟩:=uA hm ok h1 r0 r1 (JB t.nodes) (fun d out hp hs hg=>EJ hp hs hg) (fun out many ks next P I K hn hg=>HB ok out many ks next P I K hn hg)
 refine⟨cls,ns,e,⟨P.len,fun i j hi hj e=>wH hT hi hj (I.1 i j hi hj e),fun i j hi hj e k hk=>?_,I.2⟩,Q,hr⟩
 have hA:=wH hT hi hj (I.1 i j hi hj e)
 exact (HA ok hA.len (Ms P K AU hi hj e)).2 k hk
end Go.Proofs.YtmekcfdllhphlaaGreatDoor
namespace Go.Proofs.YtmekcfdllhphlaaGreatDoor
open Go Go.R
open Go.IntKind (i64 u64 u8 u32)
def zX:cm:=gI [0,1,2,4,5,10,21] [2] [121,105,73,105,41,119,119] [] []
def b4.l0 (m:Nat)(n0:ab)(dI:List Bool):Nat→Int→Option (Sum Bool (Int))
 | 0,_=>none
 | k+1,i0=>if (decide (i0<(n0.args.length:Int)))=true then ((ix n0.args i0).bind fun v0=>(ix dI v0).bind fun v1=>if (!v1)=true then (some (.inl false)) else (b4.l0 m n0 dI k (i64.wrap (i0+(1:Int))))) else (some (.inr i0))
def b4.f (m:Nat)(n0:ab)(dI:List Bool):Option (Bool):=(b4.l0 m n0 dI m (0:Int)).bind fun bg=>match bg with | .inl r0=>some r0 | .inr i1=>some true
def b4.fin (L:Mem)(r:Bool)(s:St):Prop:=∃av,aH Tryz.prog (s.open zX) Tryz.f83.results.toList=some av∧gu s.h av (.bool r)
def Qa (cf:CallF)(m:Nat):Prop:=∀(n0:ab) (dI:List Bool) (r:Bool),b4.f m n0 dI=some r→∀h xs,eY fq h xs [.agg [.int .i64 n0.kind,.int .i64 n0.int,.str n0.label,aa.fz n0.args],cJ.fz dI]→cf 83 xs h=some (.bool r,h)
section
variable {cf:CallF}{m:Nat}
theorem b4.bP (L:Mem)(n0:ab)(dI:List Bool)   : bL Tryz.prog cf zX m (sub [1,0,1,0,0] (codeOf Tryz.f83)) (fun k (σ:Int)=>b4.l0 m n0 dI k σ) (fun σ s=>match σ with | i0=>∃h0,s=⟨[.any,cJ.fz dI,.lp 2 0,.any,.int .i64 i0,.any,.any],[some [.int .i64 n0.kind,.int .i64 n0.int,.str n0.label,aa.fz n0.args]],h0⟩∧Has h0 (L)) (fun out e s=>(e = .exit 0∧∃i0,.inr i0=out∧∃vm Gp zG tT Su h0,s=⟨[.any,vm,Gp,.any,zG,tT,.any],[Su],h0⟩∧Has h0 (L))∨(e = .ret∧∃r,.inl r=out∧b4.fin L r s)):=by
 refine ig (fun _=>rfl) ?_
 rintro k i0 s out ⟨h0,rfl,o0⟩ H
 have H:b4.l0 m n0 dI (k+1) i0=some out:=H
 refine qq <| qq <| q0 <| qc H (fun c0 H=>?_) (fun c0 H=>?_)
 ·refine qk <| qq <| qb 1 <| qq ?_
  obtain⟨v0,e0,H⟩:=aI H
  obtain⟨v1,e1,H⟩:=aI H
  refine qr [.v 4 (bI (k:=.i64) (E:=aa) (l:=n0.args) dJ e0),.v 5 (dv  (E:=aa) (l:=n0.args) h0 A3 e0 rfl),.v 6 (bI (k:=.i64) (E:=cJ) (l:=dI) vl e1),.v 7 (dv  (E:=cJ) (l:=dI) h0 A4 e1 rfl)] <| qc H (fun c1 H=>?_) (fun c1 H=>?_)
  ·exact q1 <| qt <| Zx (⟨rfl,_,oi H,cp (.bool false) h0 (ck (au))⟩)
  ·exact qk <| q0 <| ⟨i64.wrap (i0+(1:Int)),⟨h0,by kernel_rfl,o0⟩,H⟩
 ·exact qx 0 <| Or.inl (⟨rfl,i0,oi H,cJ.fz dI,.lp 2 0,.int .i64 i0,.bool (decide (i0<(n0.args.length:Int))),some [.int .i64 n0.kind,.int .i64 n0.int,.str n0.label,aa.fz n0.args],h0,by kernel_rfl,o0⟩)
theorem qR {aU:FuncId→cm}(ha:aU 83=zX)  (n0:ab)(dI:List Bool)(h:AHeap)(L:Mem)  (o:Has h (L)){out:Bool}(H:b4.f m n0 dI=some out) :
  ∃r h',be Tryz.prog aU cf m 83 [.agg [.int .i64 n0.kind,.int .i64 n0.int,.str n0.label,aa.fz n0.args],cJ.fz dI] h=some (r,h')∧gu h' r (.bool out):=by
 refine aq (fn:=Tryz.f83) ha Tryz.func83 (by kernel_rfl) (by kernel_rfl) ?_
 refine aG (Q:=fun s=>b4.fin L out s) (fun _ _ h=>h) ?_
 have H:_=some out:=H
 unfold b4.f at H
 show dt _ cf zX m _ ⟨.agg [.int .i64 n0.kind,.int .i64 n0.int,.str n0.label,aa.fz n0.args]::cJ.fz dI::rV [],[none],h⟩ _
 refine q1 <| qq <| qq <| q0 <| qb 0 ?_
 obtain⟨bg,e2,H⟩:=aI H
 refine ql (b4.bP L n0 dI   (0:Int) _ _ ⟨h,by kernel_rfl,o⟩ e2) ?_
 rintro e s (⟨rfl,i1,rfl,g0,g1,g2,g3,g4,h1,rfl,o1⟩| ⟨rfl,r0,rfl,ov⟩)
 ·try dsimp only at H
  obtain rfl:=oi H
  exact q1 <| qt <| ⟨.inl rfl,cp (.bool true) h1 (ck (au))⟩
 ·try dsimp only at H
  obtain rfl:=oi H
  exact⟨.inl rfl,ov⟩
end
end Go.Proofs.YtmekcfdllhphlaaGreatDoor
namespace Go.Proofs.YtmekcfdllhphlaaGreatDoor
open Go Go.R
open Go.IntKind (i64 u64 u8 u32)
def Dc:cm:=gI [0,1,2,3,4] [2,3] [19,15] [] []
def fe.f (m:Nat)(a0:ab)(b0:ab):Option (Bool):=if (a0.kind==b0.kind)=true then (if (a0.int==b0.int)=true then (if (a0.label.data.toList==b0.label.data.toList)=true then (some ((a0.args.length:Int)==(b0.args.length:Int))) else (some false)) else (some false)) else (some false)
def fe.fin (L:Mem)(r:Bool)(s:St):Prop:=∃av,aH Tryz.prog (s.open Dc) Tryz.f85.results.toList=some av∧gu s.h av (.bool r)
def Nk (cf:CallF)(m:Nat):Prop:=∀(a0:ab) (b0:ab) (r:Bool),fe.f m a0 b0=some r→∀h xs,eY fq h xs [.agg [.int .i64 a0.kind,.int .i64 a0.int,.str a0.label,aa.fz a0.args],.agg [.int .i64 b0.kind,.int .i64 b0.int,.str b0.label,aa.fz b0.args]]→cf 85 xs h=some (.bool r,h)
section
variable {cf:CallF}{m:Nat}
theorem qS {aU:FuncId→cm}(ha:aU 85=Dc)  (a0:ab)(b0:ab)(h:AHeap)(L:Mem)  (o:Has h (L)){out:Bool}(H:fe.f m a0 b0=some out) :
  ∃r h',be Tryz.prog aU cf m 85 [.agg [.int .i64 a0.kind,.int .i64 a0.int,.str a0.label,aa.fz a0.args],.agg [.int .i64 b0.kind,.int .i64 b0.int,.str b0.label,aa.fz b0.args]] h=some (r,h')∧gu h' r (.bool out):=by
 refine aq (fn:=Tryz.f85) ha Tryz.func85 (by kernel_rfl) (by kernel_rfl) ?_
 refine aG (Q:=fun s=>fe.fin L out s) (fun _ _ h=>h) ?_
 have H:_=some out:=H
 unfold fe.f at H
 show dt _ cf Dc m _ ⟨.agg [.int .i64 a0.kind,.int .i64 a0.int,.str a0.label,aa.fz a0.args] :: .agg [.int .i64 b0.kind,.int .i64 b0.int,.str b0.label,aa.fz b0.args]::kK [],[none,none],h⟩ _
 refine q1 <| qq ?_
 rcases dQ H with⟨c0,H⟩| ⟨c0,H⟩
 ·rcases dQ H with⟨c1,H⟩| ⟨c1,H⟩
  ·rcases dQ H with⟨c2,H⟩| ⟨c2,H⟩
   ·obtain rfl:=oi H
    exact qr [.b 5 c0,.b 12 c1,.b 19 c2] <| qt <| ⟨.inl rfl,cp (.bool ((a0.args.length:Int)==(b0.args.length:Int))) h (ck (au))⟩
   ·obtain rfl:=oi H
    exact qr [.b 5 c0,.b 12 c1,.b 19 c2] <| qt <| ⟨.inl rfl,cp (.bool false) h (ck (au))⟩
  ·obtain rfl:=oi H
   exact qr [.b 5 c0,.b 12 c1] <| qt <| ⟨.inl rfl,cp (.bool false) h (ck (au))⟩
 ·obtain rfl:=oi H
  exact qr [.b 5 c0] <| qt <| ⟨.inl rfl,cp (.bool false) h (ck (au))⟩
end
end Go.Proofs.YtmekcfdllhphlaaGreatDoor
namespace Go.Proofs.YtmekcfdllhphlaaGreatDoor
open Go Go.R
open Go.IntKind (i64 u64 u8 u32)
def zY:cm:=gI [0,1,2,3,4,6,7,12,31] [3,4] [483,419,291,419,163,479,479] [] []
def bm.l0 (m:Nat)(a0:ab)(b0:ab)(bq:List Int):Nat→Int→Option (Sum Bool (Int))
 | 0,_=>none
 | k+1,i0=>if (decide (i0<(a0.args.length:Int)))=true then ((ix a0.args i0).bind fun v0=>(ix bq v0).bind fun v1=>(ix b0.args i0).bind fun v2=>(ix bq v2).bind fun v3=>if (!(v1==v3))=true then (some (.inl false)) else (bm.l0 m a0 b0 bq k (i64.wrap (i0+(1:Int))))) else (some (.inr i0))
def bm.f (m:Nat)(a0:ab)(b0:ab)(bq:List Int):Option (Bool):=(bm.l0 m a0 b0 bq m (0:Int)).bind fun bg=>match bg with | .inl r0=>some r0 | .inr i1=>some true
def bm.fin (L:Mem)(r:Bool)(s:St):Prop:=∃av,aH Tryz.prog (s.open zY) Tryz.f86.results.toList=some av∧gu s.h av (.bool r)
def Mt (cf:CallF)(m:Nat):Prop:=∀(a0:ab) (b0:ab) (bq:List Int) (r:Bool),bm.f m a0 b0 bq=some r→∀h xs,eY fq h xs [.agg [.int .i64 a0.kind,.int .i64 a0.int,.str a0.label,aa.fz a0.args],.agg [.int .i64 b0.kind,.int .i64 b0.int,.str b0.label,aa.fz b0.args],aa.fz bq]→cf 86 xs h=some (.bool r,h)
section
variable {cf:CallF}{m:Nat}
theorem bm.bP (L:Mem)(a0:ab)(b0:ab)(bq:List Int)   : bL Tryz.prog cf zY m (sub [1,0,1,0,0] (codeOf Tryz.f86)) (fun k (σ:Int)=>bm.l0 m a0 b0 bq k σ) (fun σ s=>match σ with | i0=>∃h0,s=⟨[.any,.any,aa.fz bq,.lp 3 0,.lp 4 0,.any,.int .i64 i0,.any,.any],[some [.int .i64 a0.kind,.int .i64 a0.int,.str a0.label,aa.fz a0.args],some [.int .i64 b0.kind,.int .i64 b0.int,.str b0.label,aa.fz b0.args]],h0⟩∧Has h0 (L)) (fun out e s=>(e = .exit 0∧∃i0,.inr i0=out∧∃Gp vn Et xL BK WI Sv h0,s=⟨[.any,.any,Gp,vn,Et,.any,xL,BK,.any],[WI,Sv],h0⟩∧Has h0 (L))∨(e = .ret∧∃r,.inl r=out∧bm.fin L r s)):=by
 refine ig (fun _=>rfl) ?_
 rintro k i0 s out ⟨h0,rfl,o0⟩ H
 have H:bm.l0 m a0 b0 bq (k+1) i0=some out:=H
 refine qq <| qq <| q0 <| qc H (fun c0 H=>?_) (fun c0 H=>?_)
 ·refine qk <| qq <| qb 1 <| qq ?_
  obtain⟨v0,e0,H⟩:=aI H
  obtain⟨v1,e1,H⟩:=aI H
  obtain⟨v2,e2,H⟩:=aI H
  obtain⟨v3,e3,H⟩:=aI H
  refine qr [.v 4 (bI (k:=.i64) (E:=aa) (l:=a0.args) dJ e0),.v 5 (dv  (E:=aa) (l:=a0.args) h0 A3 e0 rfl),.v 6 (bI (k:=.i64) (E:=aa) (l:=bq) dJ e1),.v 7 (dv  (E:=aa) (l:=bq) h0 A3 e1 rfl),.v 12 (bI (k:=.i64) (E:=aa) (l:=b0.args) dJ e2),.v 13 (dv  (E:=aa) (l:=b0.args) h0 A3 e2 rfl),.v 14 (bI (k:=.i64) (E:=aa) (l:=bq) dJ e3),.v 15 (dv  (E:=aa) (l:=bq) h0 A3 e3 rfl)] <| qc H (fun c1 H=>?_) (fun c1 H=>?_)
  ·exact q1 <| qt <| Zx (⟨rfl,_,oi H,cp (.bool false) h0 (ck (au))⟩)
  ·exact qk <| q0 <| ⟨i64.wrap (i0+(1:Int)),⟨h0,by kernel_rfl,o0⟩,H⟩
 ·exact qx 0 <| Or.inl (⟨rfl,i0,oi H,aa.fz bq,.lp 3 0,.lp 4 0,.int .i64 i0,.bool (decide (i0<(a0.args.length:Int))),some [.int .i64 a0.kind,.int .i64 a0.int,.str a0.label,aa.fz a0.args],some [.int .i64 b0.kind,.int .i64 b0.int,.str b0.label,aa.fz b0.args],h0,by kernel_rfl,o0⟩)
theorem nz {aU:FuncId→cm}(ha:aU 86=zY)  (a0:ab)(b0:ab)(bq:List Int)(h:AHeap)(L:Mem)  (o:Has h (L)){out:Bool}(H:bm.f m a0 b0 bq=some out) :
  ∃r h',be Tryz.prog aU cf m 86 [.agg [.int .i64 a0.kind,.int .i64 a0.int,.str a0.label,aa.fz a0.args],.agg [.int .i64 b0.kind,.int .i64 b0.int,.str b0.label,aa.fz b0.args],aa.fz bq] h=some (r,h')∧gu h' r (.bool out):=by
 refine aq (fn:=Tryz.f86) ha Tryz.func86 (by kernel_rfl) (by kernel_rfl) ?_
 refine aG (Q:=fun s=>bm.fin L out s) (fun _ _ h=>h) ?_
 have H:_=some out:=H
 unfold bm.f at H
 show dt _ cf zY m _ ⟨.agg [.int .i64 a0.kind,.int .i64 a0.int,.str a0.label,aa.fz a0.args] :: .agg [.int .i64 b0.kind,.int .i64 b0.int,.str b0.label,aa.fz b0.args]::aa.fz bq::Gh [],[none,none],h⟩ _
 refine q1 <| qq <| qq <| q0 <| qb 0 ?_
 obtain⟨bg,e4,H⟩:=aI H
 refine ql (bm.bP L a0 b0 bq   (0:Int) _ _ ⟨h,by kernel_rfl,o⟩ e4) ?_
 rintro e s (⟨rfl,i1,rfl,g0,g1,g2,g3,g4,g5,g6,h1,rfl,o1⟩| ⟨rfl,r0,rfl,ov⟩)
 ·try dsimp only at H
  obtain rfl:=oi H
  exact q1 <| qt <| ⟨.inl rfl,cp (.bool true) h1 (ck (au))⟩
 ·try dsimp only at H
  obtain rfl:=oi H
  exact⟨.inl rfl,ov⟩
end
end Go.Proofs.YtmekcfdllhphlaaGreatDoor
namespace Go.Proofs.YtmekcfdllhphlaaGreatDoor
open Go Go.R
open Go.IntKind (i64 u64 u8 u32)
def zZ:cm:=gI [0,1,2,3,8,9,13,42] [] [240,208,144,208,80,239,239] [] []
def b9.l0 (m:Nat)(l0:List ab)(ev:List Int)(n0:Int)(bq:List Int):Nat→Int→Option (Sum Int (Int))
 | 0,_=>none
 | k+1,k0=>if (decide (k0<(ev.length:Int)))=true then ((ix l0 n0).bind fun v0=>(ix ev k0).bind fun v1=>(ix l0 v1).bind fun v2=>(fe.f m v0 v2).bind fun x0=>if x0=true then ((ix l0 n0).bind fun v3=>(ix ev k0).bind fun v4=>(ix l0 v4).bind fun v5=>(bm.f m v3 v5 bq).bind fun x1=>if x1=true then ((ix ev k0).bind fun v6=>some (.inl v6)) else (b9.l0 m l0 ev n0 bq k (i64.wrap (k0+(1:Int))))) else (b9.l0 m l0 ev n0 bq k (i64.wrap (k0+(1:Int))))) else (some (.inr k0))
def b9.f (m:Nat)(l0:List ab)(ev:List Int)(n0:Int)(bq:List Int):Option (Int):=(b9.l0 m l0 ev n0 bq m (0:Int)).bind fun bg=>match bg with | .inl r0=>some r0 | .inr k1=>some n0
def b9.fin (L:Mem)(r:Int)(s:St):Prop:=∃av,aH Tryz.prog (s.open zZ) Tryz.f84.results.toList=some av∧gu s.h av (.int .i64 r)
def Qb (cf:CallF)(m:Nat):Prop:=∀(l0:List ab) (ev:List Int) (n0:Int) (bq:List Int) (r:Int),b9.f m l0 ev n0 bq=some r→∀h xs,eY fq h xs [ah.fz l0,aa.fz ev,.int .i64 n0,aa.fz bq]→cf 84 xs h=some (.int .i64 r,h)
section
variable {cf:CallF}{m:Nat}
theorem b9.bP (L:Mem)(l0:List ab)(ev:List Int)(n0:Int)(bq:List Int)  (vw:Nk cf m)(uJ:Mt cf m):bL Tryz.prog cf zZ m (sub [1,0,1,0,0] (codeOf Tryz.f84)) (fun k (σ:Int)=>b9.l0 m l0 ev n0 bq k σ) (fun σ s=>match σ with | k0=>∃h0,s=⟨[ah.fz l0,aa.fz ev,.int .i64 n0,aa.fz bq,.any,.int .i64 k0,.any,.any],[],h0⟩∧Has h0 (L)) (fun out e s=>(e = .exit 0∧∃k0,.inr k0=out∧∃lP vm vn ud ou h0,s=⟨[lP,vm,.int .i64 n0,vn,.any,ud,ou,.any],[],h0⟩∧Has h0 (L))∨(e = .ret∧∃r,.inl r=out∧b9.fin L r s)):=by
 refine ig (fun _=>rfl) ?_
 rintro k k0 s out ⟨h0,rfl,o0⟩ H
 have H:b9.l0 m l0 ev n0 bq (k+1) k0=some out:=H
 refine qq <| qq <| q0 <| qc H (fun c0 H=>?_) (fun c0 H=>?_)
 ·refine qk <| qq <| qb 1 <| qq ?_
  obtain⟨v0,e0,H⟩:=aI H
  obtain⟨v1,e1,H⟩:=aI H
  obtain⟨v2,e2,H⟩:=aI H
  obtain⟨x0,e3,H⟩:=aI H
  rcases dQ H with⟨c1,H⟩| ⟨c1,H⟩
  ·obtain⟨v3,e4,H⟩:=aI H
   obtain⟨v4,e5,H⟩:=aI H
   obtain⟨v5,e6,H⟩:=aI H
   obtain⟨x1,e7,H⟩:=aI H
   refine qr [.v 2 (bI (k:=.i64) (E:=ah) (l:=l0) mf e0),.v 3 (dL  (E:=ah) (l:=l0) h0 tQ tR e0),.v 7 (bI (k:=.i64) (E:=aa) (l:=ev) dJ e1),.v 8 (dv  (E:=aa) (l:=ev) h0 A3 e1 rfl),.v 9 (bI (k:=.i64) (E:=ah) (l:=l0) mf e2),.v 10 (dL  (E:=ah) (l:=l0) h0 tQ tR e2),.a 11 (vw _ _ _ e3 h0 _ (ia (ae (dN (ae (aN) (ae (aN) (ae (b7) (ae (cW (E:=aa)) (aB)))))) (ae (dN (ae (aN) (ae (aN) (ae (b7) (ae (cW (E:=aa)) (aB)))))) (aB))))),.b 12 c1,.v 15 (bI (k:=.i64) (E:=ah) (l:=l0) mf e4),.v 16 (dL  (E:=ah) (l:=l0) h0 tQ tR e4),.v 20 (bI (k:=.i64) (E:=aa) (l:=ev) dJ e5),.v 21 (dv  (E:=aa) (l:=ev) h0 A3 e5 rfl),.v 22 (bI (k:=.i64) (E:=ah) (l:=l0) mf e6),.v 23 (dL  (E:=ah) (l:=l0) h0 tQ tR e6),.a 25 (uJ _ _ _ _ e7 h0 _ (ia (ae (dN (ae (aN) (ae (aN) (ae (b7) (ae (cW (E:=aa)) (aB)))))) (ae (dN (ae (aN) (ae (aN) (ae (b7) (ae (cW (E:=aa)) (aB)))))) (ae (cW (E:=aa)) (aB))))))] ?_
   refine qc H (fun c2 H=>?_) (fun c2 H=>?_)
   ·refine qq ?_
    obtain⟨v6,e8,H⟩:=aI H
    exact qr [.v 2 (bI (k:=.i64) (E:=aa) (l:=ev) dJ e8),.v 3 (dv  (E:=aa) (l:=ev) h0 A3 e8 rfl)] <| qt <| Zx (⟨rfl,_,oi H,cp (.int .i64 v6) h0 (ck (eS))⟩)
   ·exact qk <| q0 <| ⟨i64.wrap (k0+(1:Int)),⟨h0,by kernel_rfl,o0⟩,H⟩
  ·exact qr [.v 2 (bI (k:=.i64) (E:=ah) (l:=l0) mf e0),.v 3 (dL  (E:=ah) (l:=l0) h0 tQ tR e0),.v 7 (bI (k:=.i64) (E:=aa) (l:=ev) dJ e1),.v 8 (dv  (E:=aa) (l:=ev) h0 A3 e1 rfl),.v 9 (bI (k:=.i64) (E:=ah) (l:=l0) mf e2),.v 10 (dL  (E:=ah) (l:=l0) h0 tQ tR e2),.a 11 (vw _ _ _ e3 h0 _ (ia (ae (dN (ae (aN) (ae (aN) (ae (b7) (ae (cW (E:=aa)) (aB)))))) (ae (dN (ae (aN) (ae (aN) (ae (b7) (ae (cW (E:=aa)) (aB)))))) (aB))))),.b 12 c1] <| Ej <| qk <| q0 <| ⟨i64.wrap (k0+(1:Int)),⟨h0,by kernel_rfl,o0⟩,H⟩
 ·exact qx 0 <| Or.inl (⟨rfl,k0,oi H,ah.fz l0,aa.fz ev,aa.fz bq,.int .i64 k0,.bool (decide (k0<(ev.length:Int))),h0,by kernel_rfl,o0⟩)
theorem sr {aU:FuncId→cm}(ha:aU 84=zZ)(vw:Nk cf m)(uJ:Mt cf m)(l0:List ab)(ev:List Int)(n0:Int)(bq:List Int)(h:AHeap)(L:Mem)  (o:Has h (L)){out:Int}(H:b9.f m l0 ev n0 bq=some out) :
  ∃r h',be Tryz.prog aU cf m 84 [ah.fz l0,aa.fz ev,.int .i64 n0,aa.fz bq] h=some (r,h')∧gu h' r (.int .i64 out):=by
 refine aq (fn:=Tryz.f84) ha Tryz.func84 (by kernel_rfl) (by kernel_rfl) ?_
 refine aG (Q:=fun s=>b9.fin L out s) (fun _ _ h=>h) ?_
 have H:_=some out:=H
 unfold b9.f at H
 show dt _ cf zZ m _ ⟨ah.fz l0::aa.fz ev :: .int .i64 n0::aa.fz bq::oH [],[],h⟩ _
 refine q1 <| qq <| qq <| q0 <| qb 0 ?_
 obtain⟨bg,e9,H⟩:=aI H
 refine ql (b9.bP L l0 ev n0 bq  vw uJ (0:Int) _ _ ⟨h,by kernel_rfl,o⟩ e9) ?_
 rintro e s (⟨rfl,k1,rfl,g0,g1,g2,g3,g4,h1,rfl,o1⟩| ⟨rfl,r0,rfl,ov⟩)
 ·try dsimp only at H
  obtain rfl:=oi H
  exact q1 <| qt <| ⟨.inl rfl,cp (.int .i64 n0) h1 (ck (eS))⟩
 ·try dsimp only at H
  obtain rfl:=oi H
  exact⟨.inl rfl,ov⟩
end
end Go.Proofs.YtmekcfdllhphlaaGreatDoor
