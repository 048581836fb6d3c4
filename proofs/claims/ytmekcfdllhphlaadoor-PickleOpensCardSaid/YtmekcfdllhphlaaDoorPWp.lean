/- Proved: PickleOpens returns true for every input, over the card of its one listed variable; no condition. -/
import Derived.Test.YtmekcfdllhphlaaDoorK14
import Derived.Test.YtmekcfdllhphlaaDoorChecked
import Derived.Test.YtmekcfdllhphlaaDoorRows
import Derived.Test.YtmekcfdllhphlaaDoorCards
import Derived.Test.YtmekcfdllhphlaaDoorTie
import Derived.ChangeSame
import Derived.ChangeVars
import Derived.JoinedOf
import Derived.LaidLaws
import Derived.LaidHandle
import Derived.Lay
import Derived.Stop.Joined
import Derived.SevenTiedAt
set_option linter.unusedVariables false
set_option linter.unusedSimpArgs false
set_option maxRecDepth 100000
open Eq renaming trans → Yp
open Int renaming toNat_natCast → Xy
open List renaming length_append → XB, length_set → XC, getElem?_eq_getElem → XD, mem_singleton → XE, append_assoc → XF, drop_eq_getElem_cons → XG, mem_append → XH, length_map → XI, replicate → XK, getElem?_eq_none → XL, getD_eq_getElem?_getD → XM, map_cons → XN, mem_map → XQ, cons_append → XU, nil_append → X2, drop_eq_nil_of_le → X3, drop_zero → X6, mem_cons → X8, getElem_mem → Yo, append_nil → Yr, pairwise_iff_getElem → YO, mem_filter → YP, getElem_of_mem → Y1
open Nat renaming le_refl → Xv, zero_le → Y4
open Option renaming bind_some → Xr, map_eq_some_iff → Xt
open Option.some renaming inj → XP
open Or renaming inr → Yv, inl → YQ
namespace Go.Proofs.YtmekcfdllhphlaaDoor
open Go Go.R
open Go.IntKind (i64 u64 u8 u32)
def vY:cg:=gK [0,2,3,4,5,6,8,10,17,19,20,21,22,26,27,28,29,34] [8,10] [262142,262119,261863,262137,262103,258527,254431,258463,201183,135647,201055,69983,201183,201183,258527,262111,262137] [] [(4,[(6,none,1)])]
def ba.l1 (m:Nat)(v0:ak):Nat→(List Int)→Int→Option ((List Int) × Int)
 | 0,_,_=>none
 | k+1,bJ,x2=>if (decide (x2<(v0.nodes.length:Int)))=true then ((ix v0.nodes x2).bind fun v1=>if (v1.kind==(0:Int))=true then ((app 8 bJ ([v1.int])).bind fun x3=>ba.l1 m v0 k x3 (i64.wrap (x2+(1:Int)))) else (ba.l1 m v0 k bJ (i64.wrap (x2+(1:Int))))) else (some ((bJ,x2)))
def ba.l0 (m:Nat)(x0:(List ak) × Int):Nat→(List Int)→Int→Option ((List Int) × Int)
 | 0,_,_=>none
 | k+1,bj,x1=>if (decide (x1<(x0.1.length:Int)))=true then ((ix x0.1 x1).bind fun v0=>(ba.l1 m v0 m bj (0:Int)).bind fun kH=>match kH with | (gO,x4)=>ba.l0 m x0 k gO (i64.wrap (x1+(1:Int)))) else (some ((bj,x1)))
def ba.f (m:Nat)(b0:List Int):Option ((List Int) × Int):=(bg.f m b0).bind fun x0=>if (!(x0.2==(0:Int)))=true then (some ([],x0.2)) else ((ba.l0 m x0 m ([]:List Int) (0:Int)).bind fun tM=>match tM with | (cd,x5)=>some (Go.Lib.compact (fX cd),(0:Int)))
def ba.fin (L:Mem)(r:(List Int) × Int)(s:St):Prop:=∃av,aH Tryd.prog (s.open vY) Tryd.f27.results.toList=some av∧fW s.h av (.tup [aa.fz r.1,.int .i64 r.2])
def Uw (cf:CallF)(m:Nat):Prop:=∀(b0:List Int) (r:(List Int) × Int),ba.f m b0=some r→∀h xs,eN fi h xs [aw.fz b0]→cf 27 xs h=some (.tup [aa.fz r.1,.int .i64 r.2],h)
section
variable {cf:CallF}{m:Nat}
theorem ba.eQ (L:Mem)(x0:(List ak) × Int)(x1:Int)(v0:ak)   : bD Tryd.prog cf vY m (sub [1,1,1,1,0,1,0,0,1,1,0,0,1,1,0,0] (codeOf Tryd.f27)) (fun k (σ:(List Int) × Int)=>ba.l1 m v0 k σ.1 σ.2) (fun σ s=>match σ with | (bJ,x2)=>∃eS h1,s=⟨rB (.rs eS 0 bJ.length 1::jP [aR.fz x0.1,.int .i64 (x0.1.length:Int),.int .i64 x1,.any,af.fz v0.nodes,.int .i64 (v0.nodes.length:Int),.int .i64 x2,.any,.any]),[none,none],h1⟩∧Has h1 ((eS,.sl bJ.length 1 (aa.l bJ))::L)) (fun out e s=>(e = .exit 2∧∃bJ x2,(bJ,x2)=out∧∃Lu AY Sa KP eS h1,s=⟨rB (.rs eS 0 bJ.length 1::jP [aR.fz x0.1,.int .i64 (x0.1.length:Int),.int .i64 x1,.any,Lu,AY,Sa,KP,.any]),[none,none],h1⟩∧Has h1 ((eS,.sl bJ.length 1 (aa.l bJ))::L))):=by
 refine gG (fun _=>rfl) ?_
 rintro k ⟨bJ,x2⟩ s out ⟨eS,h1,rfl,o2⟩ H
 have H:ba.l1 m v0 (k+1) bJ x2=some out:=H
 refine q1 <| qq <| qc H (fun c2 H=>?_) (fun c2 H=>?_)
 ·refine qk <| qq <| qb 3 <| qq ?_
  obtain⟨v1,e2,H⟩:=aI H
  refine qr [.v 0 (bw (k:=.i64) (E:=af) (l:=v0.nodes) la e2),.v 1 (dw  (E:=af) (l:=v0.nodes) h1 tq tt e2)] <| qq <| q0 <| qc H (fun c3 H=>?_) (fun c3 H=>?_)
  ·obtain⟨x3,e3,H⟩:=aI H
   obtain⟨cF,h2,e4,o3⟩:=fF (P:=Tryd.prog) (E:=aa) (l:=bJ) (q:=0) (t2:=42) (x:=.fz [.int .i64 v1.int] 1 true) (l2:=([v1.int])) dz o2 rfl (by kernel_rfl) rfl e3
   exact qr [.a 4 e4] <| q0 <| ⟨(x3,i64.wrap (x2+(1:Int))),⟨cF,h2,by kernel_rfl,o3⟩,H⟩
  ·exact qk <| q0 <| ⟨(bJ,i64.wrap (x2+(1:Int))),⟨eS,h1,by kernel_rfl,o2⟩,H⟩
 ·exact qx 2 <| ⟨rfl,bJ,x2,oi H,af.fz v0.nodes,.int .i64 (v0.nodes.length:Int),.int .i64 x2,.bool (decide (x2<(v0.nodes.length:Int))),eS,h1,by kernel_rfl,o2⟩
theorem ba.bI (L:Mem)(x0:(List ak) × Int)   : bD Tryd.prog cf vY m (sub [1,1,1,1,0,1,0,0] (codeOf Tryd.f27)) (fun k (σ:(List Int) × Int)=>ba.l0 m x0 k σ.1 σ.2) (fun σ s=>match σ with | (bj,x1)=>∃aA h0,s=⟨rB (.rs aA 0 bj.length 1::jP (aR.fz x0.1 :: .int .i64 (x0.1.length:Int) :: .int .i64 x1::BQ [])),[none,none],h0⟩∧Has h0 ((aA,.sl bj.length 1 (aa.l bj))::L)) (fun out e s=>(e = .exit 0∧∃bj x1,(bj,x1)=out∧∃GV KN KU xj aA h0,s=⟨rB (.rs aA 0 bj.length 1::jP (GV::KN::KU::xj::rB [])),[none,none],h0⟩∧Has h0 ((aA,.sl bj.length 1 (aa.l bj))::L))):=by
 refine gG (fun _=>rfl) ?_
 rintro k ⟨bj,x1⟩ s out ⟨aA,h0,rfl,o1⟩ H
 have H:ba.l0 m x0 (k+1) bj x1=some out:=H
 refine q1 <| qq <| qc H (fun c1 H=>?_) (fun c1 H=>?_)
 ·refine qk <| qq <| qb 1 <| qq ?_
  obtain⟨v0,e1,H⟩:=aI H
  refine qr [.v 0 (bw (k:=.i64) (E:=aR) (l:=x0.1) DE e1),.v 1 (dw  (E:=aR) (l:=x0.1) h0 L9 Ma e1)] <| qq <| q0 <| qb 2 ?_
  obtain⟨kH,e5,H⟩:=aI H
  refine ql (ba.eQ L x0 x1 v0   (bj,(0:Int)) _ _ ⟨aA,h0,by kernel_rfl,o1⟩ e5) ?_
  rintro e s ⟨rfl,gO,x4,rfl,g0,g1,g2,g3,fb,h3,rfl,o4⟩
  try dsimp only at H
  exact q0 <| ⟨(gO,i64.wrap (x1+(1:Int))),⟨fb,h3,by kernel_rfl,o4⟩,H⟩
 ·exact qx 0 <| ⟨rfl,bj,x1,oi H,aR.fz x0.1,.int .i64 (x0.1.length:Int),.int .i64 x1,.bool (decide (x1<(x0.1.length:Int))),aA,h0,by kernel_rfl,o1⟩
theorem qK {aU:FuncId→cg}(ha:aU 27=vY)(Sb:TP cf m)(Sd:Ta cf m)(Se:Tb cf m)(b0:List Int)(h:AHeap)(L:Mem)  (o:Has h (L)){out:(List Int) × Int}(H:ba.f m b0=some out) :
  ∃r h',bc Tryd.prog aU cf m 27 [aw.fz b0] h=some (r,h')∧fW h' r (.tup [aa.fz out.1,.int .i64 out.2]):=by
 refine aq (fn:=Tryd.f27) ha Tryd.func27 (by kernel_rfl) (by kernel_rfl) ?_
 refine aG (Q:=fun s=>ba.fin L out s) (fun _ _ h=>h) ?_
 have H:_=some out:=H
 unfold ba.f at H
 show de _ cf vY m _ ⟨aw.fz b0::Dx [],[none,none],h⟩ _
 refine q1 <| qq ?_
 obtain⟨x0,e0,H⟩:=aI H
 refine qr [.a 1 (Sb _ _ e0 h _ (cG (iN (E:=aw)) (gL)))] <| qq <| qq <| q0 <| qc H (fun c0 H=>?_) (fun c0 H=>?_)
 ·obtain rfl:=oi H
  exact q1 <| qt <| ⟨.inl rfl,cb (.tup [.nils,.int .i64 x0.2]) h (b9 (Fe (sk (Ia) (sk (eG) (Fc)))))⟩
 ·refine qk <| qq <| q0 ?_
  have o0:Has h (((0),.sl (([]:List Int).length) 1 (aa.l ([]:List Int)))::L):=Has.nil o 1
  refine qq <| qq <| q0 <| qb 0 ?_
  obtain⟨tM,e6,H⟩:=aI H
  refine ql (ba.bI L x0   (([]:List Int),(0:Int)) _ _ ⟨(0),h,by kernel_rfl,o0⟩ e6) ?_
  rintro e s ⟨rfl,cd,x5,rfl,g4,g5,g6,g7,fS,h4,rfl,o5⟩
  try dsimp only at H
  refine qq ?_
  obtain⟨h5,e7,o6⟩:=KJ (l:=cd) Sd o5
  refine qr [.a 1 e7] <| qq ?_
  obtain⟨h6,e8,o7⟩:=KK (l:=(fX cd)) Se o6
  obtain rfl:=oi H
  exact qr [.a 1 e8] <| qt <| ⟨.inl rfl,cb (.tup [.rs fS 0 ((Go.Lib.compact (fX cd)).length) 1,.int .i64 (0:Int)]) h6 (b9 (Fe (sk (vu (E:=aa) (l:=(Go.Lib.compact (fX cd))) (q:=0) o7 rfl (fun _=>rfl)) (sk (eG) (Fc)))))⟩
end
end Go.Proofs.YtmekcfdllhphlaaDoor
namespace Go.Proofs.YtmekcfdllhphlaaDoor
open Go Go.R
open Go.IntKind (i64 u64 u8 u32)
theorem uq (S:List Int)(j:Nat):S.toArray[j]! = gt S j:=by
 unfold gt
 by_cases h:j<S.length
 ·simp [h,XM]
 ·rw [XM,XL (by omega)]
  simp [h]
theorem vZ {S:List Int}(hS:∀i j,i≤j→j<S.length→gt S i≤gt S j):∀m,m≤S.length→(Lib.compactUpTo S.toArray m).Pairwise (fun a b=>a<b)∧∀x,x∈Lib.compactUpTo S.toArray m↔∃j,j<m∧gt S j=x
 | 0,_=>⟨by simp [Lib.compactUpTo],by simp [Lib.compactUpTo]⟩
 | m+1,h=>by
  obtain⟨h1,h2⟩:=vZ hS m (by omega)
  rw [Lib.compactUpTo_succ,uq]
  have hk:Lib.keeps S.toArray m=decide (m=0∨gt S m≠gt S (m - 1)):=by unfold Lib.keeps; rw [uq,uq]
  rw [hk]
  by_cases hd:m=0∨gt S m≠gt S (m - 1)
  ·rw [decide_eq_true hd,if_pos rfl]
   refine⟨List.pairwise_append.2 ⟨h1,by simp,fun a ha b hb=>?_⟩,fun x=>?_⟩
   ·simp only [XE] at hb
    subst hb
    obtain⟨j,hj,rfl⟩:=(h2 a).1 ha
    have g1:=hS j (m - 1) (by omega) (by omega)
    have g2:=hS (m - 1) m (by omega) (by omega)
    rcases hd with hd | hd<;>omega
   ·rw [XH,h2 x,XE]
    constructor
    ·rintro (⟨j,hj,e⟩| e)
     ·exact⟨j,by omega,e⟩
     ·exact⟨m,by omega,e.symm⟩
    ·rintro⟨j,hj,e⟩
     by_cases Sf:j=m
     ·right; rw [←e,Sf]
     ·exact .inl ⟨j,by omega,e⟩
  ·rw [decide_eq_false hd,if_neg (by simp),Yr]
   refine⟨h1,fun x=>?_⟩
   rw [h2 x]
   have sa:m≠0:=fun e=>hd (.inl e)
   have he:gt S m=gt S (m - 1):=Decidable.byContradiction fun e=>hd (.inr e)
   constructor
   ·rintro⟨j,hj,e⟩; exact⟨j,by omega,e⟩
   ·rintro⟨j,hj,e⟩
    by_cases Sf:j=m
    ·exact⟨m - 1,by omega,by rw [←he,←Sf]; exact e⟩
    ·exact⟨j,by omega,e⟩
theorem Hg {S:List Int}{x:Int}:x∈S↔∃j,j<S.length∧gt S j=x:=by
 constructor
 ·intro h
  obtain⟨j,hj,e⟩:=Y1 h
  have:=bh hj
  rw [XD hj,e] at this
  exact⟨j,hj,(XP this).symm⟩
 ·rintro⟨j,hj,rfl⟩; exact aJ hj
def once (l:List Int):List Int:=Lib.compact (fX l)
theorem Bn (l:List Int):∀i j,i≤j→j<(fX l).length→gt (fX l) i≤gt (fX l) j:=by
 have hp:(fX l).Pairwise (fun a b=>decide (a≤b)=true):=List.pairwise_mergeSort (fun a b c h1 h2=>by simp only [decide_eq_true_eq] at h1 h2 ⊢; omega) (fun a b=>by simp; omega) l
 intro i j vl hj
 by_cases h:i=j
 ·subst h; exact Int.le_refl _
 ·have:=YO.1 hp i j (by omega) hj (by omega)
  simp only [decide_eq_true_eq] at this
  have e1:=bh (l:=fX l) (k:=i) (by omega)
  have e2:=bh (l:=fX l) (k:=j) hj
  rw [XD (by omega)] at e1 e2
  rw [←XP e1,←XP e2]; exact this
theorem D9 (l:List Int):(∀i j,i<j→j<(once l).length→gt (once l) i<gt (once l) j)∧∀x,x∈once l↔x∈l:=by
 obtain⟨h1,h2⟩:=vZ (Bn l) (fX l).length (Xv _)
 have h1:(once l).Pairwise (fun a b=>a<b):=h1
 refine⟨fun i j vl hj=>?_,fun x=>?_⟩
 ·have:=YO.1 h1 i j (by omega) hj vl
  have e1:=bh (l:=once l) (k:=i) (by omega)
  have e2:=bh (l:=once l) (k:=j) hj
  rw [XD (by omega)] at e1 e2
  rw [←XP e1,←XP e2]; exact this
 ·have h2:x∈once l↔_:=h2 x
  rw [h2,←Hg]
  exact (List.mergeSort_perm _ _).mem_iff
theorem Hh (l:List Int):(once l).length≤l.length:=by
 have h1:=yM (fX l)
 rw [qa] at h1
 exact h1
def zE (l:List ab):List Int:=(l.filter fun n=>n.kind==0).map fun n=>n.int
def pz (l:List ak):List Int:=(l.map fun t=>zE t.nodes).flatten
theorem zF (n:ab)(l:List ab):zE (n::l)=if n.kind=0 then n.int::zE l else zE l:=by
 unfold zE
 rw [List.filter_cons]
 by_cases h:n.kind=0
 ·rw [if_pos (by simp [h]),if_pos h]; rfl
 ·rw [if_neg (by simp [h]),if_neg h]
theorem qL (t:ak)(l:List ak):pz (t::l)=zE t.nodes++pz l:=rfl
theorem CQ (l:List ab):(zE l).length≤l.length:=by unfold zE; rw [XI]; exact List.length_filter_le _ _
theorem zG:∀l:List ak,(pz l).length≤(l.map fun t=>t.nodes.length).sum
 | []=>by simp [pz]
 | t::l=>by
  have h1:=CQ t.nodes
  have h2:=zG l
  rw [qL,XB,XN,List.sum_cons]; omega
theorem xQ {m:Nat}{v:ak}(hv:v.nodes.length≤10000):∀(f k:Nat) (out:List Int),v.nodes.length - k<f→k≤v.nodes.length→out.length+(v.nodes.length - k)≤100000000→
  ∃x,ba.l1 m v f out (k:Int)=some (out++zE (v.nodes.drop k),x)
 | 0,k,out,hf,_,_=>absurd hf (by omega)
 | f+1,k,out,hf,hk,hb=>by
  unfold ba.l1
  by_cases h:k<v.nodes.length
  ·have e1:i64.wrap ((k:Int)+1)=((k+1:Nat):Int):=by rw [aD (by omega) (by omega)]; omega
   rw [if_pos (by simp only [decide_eq_true_eq]; omega),ka h,Xr,XG h,zF,e1]
   by_cases Bx:v.nodes[k].kind=0
   ·have ly:app 8 out [v.nodes[k].int]=some (out++[v.nodes[k].int]):=by unfold app; rw [if_pos (by simp; omega)]
    obtain⟨x,ih⟩:=xQ (m:=m) hv f (k+1) (out++[v.nodes[k].int]) (by omega) (by omega) (by simp; omega)
    exact⟨x,by rw [if_pos (by simp [Bx]),ly,Xr,if_pos Bx,ih,XF]; rfl⟩
   ·obtain⟨x,ih⟩:=xQ (m:=m) hv f (k+1) out (by omega) (by omega) (by omega)
    exact⟨x,by rw [if_neg (by simp [Bx]),if_neg Bx,ih]⟩
  ·exact⟨(k:Int),by rw [if_neg (by simp only [decide_eq_true_eq]; omega),X3 (by omega)]; simp [zE]⟩
theorem CR {m:Nat}(hm:10001≤m){L:List ak}(h8:L.length≤100)(hL:∀t∈L,t.nodes.length≤10000):∀(f i:Nat) (out:List Int),L.length - i<f→i≤L.length→out.length+10000*(L.length - i)≤10000000→
  ∃x,ba.l0 m (L,0) f out (i:Int)=some (out++pz (L.drop i),x)
 | 0,i,out,hf,_,_=>absurd hf (by omega)
 | f+1,i,out,hf,hi,hb=>by
  unfold ba.l0
  dsimp only
  by_cases h:i<L.length
  ·have h1:=hL _ (Yo h)
   obtain⟨x,q1⟩:=xQ (m:=m) h1 m 0 out (by omega) (by omega) (by omega)
   have q1:ba.l1 m L[i] m out 0=_:=q1
   have h2:=CQ L[i].nodes
   obtain⟨y,ih⟩:=CR hm h8 hL f (i+1) (out++zE L[i].nodes) (by omega) (by omega) (by rw [XB]; omega)
   refine⟨y,?_⟩
   rw [if_pos (by simp only [decide_eq_true_eq]; omega),ka h,Xr,q1,Xr,X6]
   dsimp only
   rw [aD (by omega) (by omega),show (i:Int)+1=((i+1:Nat):Int) by omega,ih,XG h,qL,XF]
  ·exact⟨(i:Int),by rw [if_neg (by simp only [decide_eq_true_eq]; omega),X3 (by omega)]; simp [pz]⟩
theorem IX {m:Nat}(hm:10001≤m){b:List Int}{L:List ak}(H:bg.f m b=some (L,0))(h8:L.length≤100)(hL:∀t∈L,t.nodes.length≤10000):ba.f m b=some (once (pz L),0):=by
 obtain⟨x,q⟩:=CR hm h8 hL m 0 [] (by omega) (by omega) (by simp; omega)
 have q:ba.l0 m (L,0) m [] 0=_:=q
 unfold ba.f
 rw [H,Xr,if_neg (by simp),q,Xr]
 rfl
end Go.Proofs.YtmekcfdllhphlaaDoor
namespace Go.Proofs.YtmekcfdllhphlaaDoor
open Go Go.R
open Go.IntKind (i64 u64 u8 u32)
def pA:cg:=gK [0,2,3,4,5,6,7,8,9,10,11,12,13,14,15,18,33,45,52,64,69,78,82,95,98,105,112] [10] [134217726,134184958,134217725,134217714,134217670,134217606,134152070,134217606,134086534,134217725,134217542,134217286,133955142,134217286,134215750,133692486,134217725,134214726,133166150,134214726,132117574,134210630,134202438,130008134,134202438,125813830,134202438,117433414,134217725,134214726,134201175,100646743,134201175,67092311,134217725,134217725] [] []
def ai.l0 (m:Nat)(x3:(List Int) × Int):Nat→Int→Option (Sum Bool (Int))
 | 0,_=>none
 | k+1,i0=>if (decide (i0<(x3.1.length:Int)))=true then ((ix x3.1 (i64.wrap (i0 - (1:Int)))).bind fun v0=>(ix x3.1 i0).bind fun v1=>if (decide (v0≥v1))=true then (some (.inl false)) else (ai.l0 m x3 k (i64.wrap (i0+(1:Int))))) else (some (.inr i0))
def ai.l3 (m:Nat)(x3:(List Int) × Int)(x5:ak × Int)(k0:Int):Nat→Int→Int→Option (Int × Int)
 | 0,_,_=>none
 | k+1,Hi,j0=>if (decide (j0<(x3.1.length:Int)))=true then ((ix x3.1 j0).bind fun v4=>(ix x5.1.nodes k0).bind fun v5=>if (v4==v5.int)=true then (ai.l3 m x3 x5 k0 k j0 (i64.wrap (j0+(1:Int)))) else (ai.l3 m x3 x5 k0 k Hi (i64.wrap (j0+(1:Int))))) else (some ((Hi,j0)))
def ai.l2 (m:Nat)(x3:(List Int) × Int)(x5:ak × Int):Nat→(List Bool)→Int→Option (Sum Bool ((List Bool) × Int))
 | 0,_,_=>none
 | k+1,cU,k0=>if (decide (k0<(x5.1.nodes.length:Int)))=true then ((ix x5.1.nodes k0).bind fun v3=>if (!(v3.kind==(0:Int)))=true then (ai.l2 m x3 x5 k cU (i64.wrap (k0+(1:Int)))) else ((ai.l3 m x3 x5 k0 m (-1:Int) (0:Int)).bind fun bJ=>match bJ with | (Mo,j1)=>if (decide (Mo<(0:Int)))=true then (some (.inl false)) else ((ix cU Mo).bind fun v6=>ai.l2 m x3 x5 k (cU.set Mo.toNat true) (i64.wrap (k0+(1:Int)))))) else (some (.inr (cU,k0)))
def ai.l1 (m:Nat)(l0:List ak)(x3:(List Int) × Int):Nat→(List Bool)→Int→Option (Sum Bool ((List Bool) × Int))
 | 0,_,_=>none
 | k+1,cZ,i2=>if (decide (i2<(l0.length:Int)))=true then ((ix l0 i2).bind fun v2=>(eV.f m v2).bind fun x5=>if (!(x5.2==(0:Int)))=true then (some (.inl false)) else ((ai.l2 m x3 x5 m cZ (0:Int)).bind fun gO=>match gO with | .inl r0=>some (.inl r0) | .inr (zH,k1)=>ai.l1 m l0 x3 k zH (i64.wrap (i2+(1:Int))))) else (some (.inr (cZ,i2)))
def ai.l4 (m:Nat)(iK:List Bool):Nat→Int→Option (Sum Bool (Int))
 | 0,_=>none
 | k+1,i4=>if (decide (i4<(iK.length:Int)))=true then ((ix iK i4).bind fun v7=>if (!v7)=true then (some (.inl false)) else (ai.l4 m iK k (i64.wrap (i4+(1:Int))))) else (some (.inr i4))
def ai.f (m:Nat)(l0:List ak):Option (Bool):=(aY.f m l0).bind fun x0=>if (!x0)=true then ((j7.f m).bind fun x1=>some x1) else ((b8.f m l0).bind fun x2=>(ba.f m x2.1).bind fun x3=>(ai.l0 m x3 m (1:Int)).bind fun bj=>match bj with | .inl r3=>some r3 | .inr i1=>(sj 1 (x3.1.length:Int) false).bind fun x4=>(ai.l1 m l0 x3 m x4 (0:Int)).bind fun kH=>match kH with | .inl r2=>some r2 | .inr (iK,i3)=>(ai.l4 m iK m (0:Int)).bind fun cd=>match cd with | .inl r1=>some r1 | .inr i5=>if (x2.2==(0:Int))=true then (if (x3.2==(0:Int))=true then ((j7.f m).bind fun x6=>some x6) else (some false)) else (some false))
def ai.fin (L:Mem)(r:Bool)(s:St):Prop:=∃av,aH Tryd.prog (s.open pA) Tryd.f10.results.toList=some av∧fW s.h av (.bool r)
def Wh (cf:CallF)(m:Nat):Prop:=∀(l0:List ak) (r:Bool),ai.f m l0=some r→∀h xs,eN fi h xs [aR.fz l0]→cf 10 xs h=some (.bool r,h)
section
variable {cf:CallF}{m:Nat}
theorem ai.bI (L:Mem)(l0:List ak)(x2:(List Int) × Int)(x3:(List Int) × Int)   : bD Tryd.prog cf pA m (sub [1,1,1,1,0,1,0,0] (codeOf Tryd.f10)) (fun k (σ:Int)=>ai.l0 m x3 k σ) (fun σ s=>match σ with | i0=>∃h0,s=⟨aR.fz l0 :: .any :: .any :: .int .i64 x2.2::aa.fz x3.1 :: .int .i64 x3.2 :: .int .i64 i0::Qg [],[none],h0⟩∧Has h0 (L)) (fun out e s=>(e = .exit 0∧∃i0,.inr i0=out∧∃uP KT h0,s=⟨aR.fz l0 :: .any :: .any :: .int .i64 x2.2::aa.fz x3.1 :: .int .i64 x3.2::uP::BR (KT::uK []),[none],h0⟩∧Has h0 (L))∨(e = .ret∧∃r,.inl r=out∧ai.fin L r s)):=by
 refine gG (fun _=>rfl) ?_
 rintro k i0 s out ⟨h0,rfl,o0⟩ H
 have H:ai.l0 m x3 (k+1) i0=some out:=H
 refine qq <| qq <| q0 <| qc H (fun c1 H=>?_) (fun c1 H=>?_)
 ·refine qk <| qq <| qb 1 <| qq ?_
  obtain⟨v0,e4,H⟩:=aI H
  obtain⟨v1,e5,H⟩:=aI H
  refine qr [.v 3 (bw (k:=.i64) (E:=aa) (l:=x3.1) dz e4),.v 4 (cY  (E:=aa) (l:=x3.1) h0 A3 e4 rfl),.v 7 (bw (k:=.i64) (E:=aa) (l:=x3.1) dz e5),.v 8 (cY  (E:=aa) (l:=x3.1) h0 A3 e5 rfl)] <| qc H (fun c2 H=>?_) (fun c2 H=>?_)
  ·exact q1 <| qt <| Yv (⟨rfl,_,oi H,cb (.bool false) h0 (b9 (au))⟩)
  ·exact qk <| q0 <| ⟨i64.wrap (i0+(1:Int)),⟨h0,by kernel_rfl,o0⟩,H⟩
 ·exact qx 0 <| YQ (⟨rfl,i0,oi H,.int .i64 i0,.bool (decide (i0<(x3.1.length:Int))),h0,by kernel_rfl,o0⟩)
theorem ai.oV (L:Mem)(l0:List ak)(x2:(List Int) × Int)(x3:(List Int) × Int)(i2:Int)(x5:ak × Int)(cF:Nat)(cU:List Bool)(k0:Int)(cF:Nat)   : bD Tryd.prog cf pA m (sub [1,1,1,1,1,1,0,1,0,0,1,0,0,1,1,1,0,0,1,0,0,1,1,0,1,0,0] (codeOf Tryd.f10)) (fun k (σ:Int × Int)=>ai.l3 m x3 x5 k0 k σ.1 σ.2) (fun σ s=>match σ with | (Hi,j0)=>∃h5,s=⟨aR.fz l0 :: .any :: .any :: .int .i64 x2.2::aa.fz x3.1 :: .int .i64 x3.2 :: .any :: .rs cF 0 cU.length 1 :: .int .i64 i2 :: .lp 10 0 :: .any :: .int .i64 k0 :: .int .i64 Hi :: .int .i64 j0::mL [],[some [af.fz x5.1.nodes,.int .i64 x5.1.root]],h5⟩∧Has h5 ((cF,.sl cU.length 1 (bO.l cU))::L)) (fun out e s=>(e = .exit 6∧∃Hi j0,(Hi,j0)=out∧∃xi Sh h5,s=⟨aR.fz l0 :: .any :: .any :: .int .i64 x2.2::aa.fz x3.1 :: .int .i64 x3.2 :: .any :: .rs cF 0 cU.length 1 :: .int .i64 i2 :: .lp 10 0 :: .any :: .int .i64 k0 :: .int .i64 Hi::xi::pY (Sh::q9 []),[some [af.fz x5.1.nodes,.int .i64 x5.1.root]],h5⟩∧Has h5 ((cF,.sl cU.length 1 (bO.l cU))::L))):=by
 refine gG (fun _=>rfl) ?_
 rintro k ⟨Hi,j0⟩ s out ⟨h5,rfl,o6⟩ H
 have H:ai.l3 m x3 x5 k0 (k+1) Hi j0=some out:=H
 refine qq <| qq <| q0 <| qc H (fun c7 H=>?_) (fun c7 H=>?_)
 ·refine qk <| qq <| qb 7 <| qq ?_
  obtain⟨v4,rL,H⟩:=aI H
  obtain⟨v5,rM,H⟩:=aI H
  refine qr [.v 2 (bw (k:=.i64) (E:=aa) (l:=x3.1) dz rL),.v 3 (cY  (E:=aa) (l:=x3.1) h5 A3 rL rfl),.v 7 (bw (k:=.i64) (E:=af) (l:=x5.1.nodes) la rM),.v 9 (iA  (E:=af) (l:=x5.1.nodes) (off:=1) h5 A3 rM rfl)] <| qc H (fun c8 H=>?_) (fun c8 H=>?_)
  ·exact q0 <| q0 <| ⟨(j0,i64.wrap (j0+(1:Int))),⟨h5,by kernel_rfl,o6⟩,H⟩
  ·exact qk <| q0 <| ⟨(Hi,i64.wrap (j0+(1:Int))),⟨h5,by kernel_rfl,o6⟩,H⟩
 ·exact qx 6 <| ⟨rfl,Hi,j0,oi H,.int .i64 j0,.bool (decide (j0<(x3.1.length:Int))),h5,by kernel_rfl,o6⟩
theorem ai.mc (L:Mem)(l0:List ak)(x2:(List Int) × Int)(x3:(List Int) × Int)(i2:Int)(x5:ak × Int)   : bD Tryd.prog cf pA m (sub [1,1,1,1,1,1,0,1,0,0,1,0,0,1,1,1,0,0] (codeOf Tryd.f10)) (fun k (σ:(List Bool) × Int)=>ai.l2 m x3 x5 k σ.1 σ.2) (fun σ s=>match σ with | (cU,k0)=>∃cF h4,s=⟨aR.fz l0 :: .any :: .any :: .int .i64 x2.2::aa.fz x3.1 :: .int .i64 x3.2 :: .any :: .rs cF 0 cU.length 1 :: .int .i64 i2 :: .lp 10 0 :: .any :: .int .i64 k0::Dw [],[some [af.fz x5.1.nodes,.int .i64 x5.1.root]],h4⟩∧Has h4 ((cF,.sl cU.length 1 (bO.l cU))::L)) (fun out e s=>(e = .exit 4∧∃cU k0,.inr (cU,k0)=out∧∃qd A0 Si Sj cF h4,s=⟨aR.fz l0 :: .any :: .any :: .int .i64 x2.2::aa.fz x3.1 :: .int .i64 x3.2 :: .any :: .rs cF 0 cU.length 1 :: .int .i64 i2::qd :: .any::A0::pY (Si::BQ []),[Sj],h4⟩∧Has h4 ((cF,.sl cU.length 1 (bO.l cU))::L))∨(e = .ret∧∃r,.inl r=out∧ai.fin L r s)):=by
 refine gG (fun _=>rfl) ?_
 rintro k ⟨cU,k0⟩ s out ⟨cF,h4,rfl,o5⟩ H
 have H:ai.l2 m x3 x5 (k+1) cU k0=some out:=H
 refine qq <| qq <| q0 <| qc H (fun c5 H=>?_) (fun c5 H=>?_)
 ·refine qk <| qq <| qb 5 <| qq <| qq ?_
  obtain⟨v3,qn,H⟩:=aI H
  refine qr [.v 3 (bw (k:=.i64) (E:=af) (l:=x5.1.nodes) la qn),.v 5 (iA  (E:=af) (l:=x5.1.nodes) (off:=0) h4 A3 qn rfl)] <| qc H (fun c6 H=>?_) (fun c6 H=>?_)
  ·exact qx 5 <| q0 <| ⟨(cU,i64.wrap (k0+(1:Int))),⟨cF,h4,by kernel_rfl,o5⟩,H⟩
  ·refine qk <| qq <| q0 <| qq <| qq <| q0 <| qb 6 ?_
   obtain⟨bJ,tJ,H⟩:=aI H
   refine ql (ai.oV L l0 x2 x3 i2 x5 cF cU k0 cF   ((-1:Int),(0:Int)) _ _ ⟨h4,by kernel_rfl,o5⟩ tJ) ?_
   rintro e s ⟨rfl,Mo,j1,rfl,g2,g3,h6,rfl,o7⟩
   try dsimp only at H
   refine qq <| qq <| q0 <| qc H (fun c9 H=>?_) (fun c9 H=>?_)
   ·refine q1 ?_
    have o8:Has h6 (L):=Has.del o7 0
    exact qt <| Yv (⟨rfl,_,oi H,cb (.bool false) h6 (b9 (au))⟩)
   ·refine qk ?_
    obtain⟨v6,rN,H⟩:=aI H
    obtain⟨h7,vJ,o9⟩:=dD (P:=Tryd.prog) (tf:=4) (E:=bO) (l:=cU) (q:=0) (v:=true) (x:=.bool true) o7 rfl Z4 rN rfl rfl
    exact qr [.v 2 (aE (k:=.i64) (E:=bO) (l:=cU) (q:=0) DF o7 rfl rN),.w 3 vJ] <| q0 <| ⟨(cU.set Mo.toNat true,i64.wrap (k0+(1:Int))),⟨cF,h7,(Yp (b:=⟨aR.fz l0 :: .any :: .any :: .int .i64 x2.2::aa.fz x3.1 :: .int .i64 x3.2 :: .any :: .rs cF 0 cU.length 1 :: .int .i64 i2 :: .lp 10 0 :: .any :: .int .i64 (i64.wrap (k0+(1:Int)))::Dw [],[some [af.fz x5.1.nodes,.int .i64 x5.1.root]],h7⟩) (by kernel_rfl) (by simp only [XC])),(by have o:Has h7 ((cF,.sl cU.length 1 (bO.l (cU.set Mo.toNat true)))::L):=o9; simpa only [XC] using o)⟩,H⟩
 ·exact qx 4 <| YQ (⟨rfl,cU,k0,oi H,.lp 10 0,.int .i64 k0,.bool (decide (k0<(x5.1.nodes.length:Int))),some [af.fz x5.1.nodes,.int .i64 x5.1.root],cF,h4,by kernel_rfl,o5⟩)
theorem ai.eQ (L:Mem)(l0:List ak)(x2:(List Int) × Int)(x3:(List Int) × Int)  (LP:Rn cf m):bD Tryd.prog cf pA m (sub [1,1,1,1,1,1,0,1,0,0] (codeOf Tryd.f10)) (fun k (σ:(List Bool) × Int)=>ai.l1 m l0 x3 k σ.1 σ.2) (fun σ s=>match σ with | (cZ,i2)=>∃eS h3,s=⟨aR.fz l0 :: .any :: .any :: .int .i64 x2.2::aa.fz x3.1 :: .int .i64 x3.2 :: .any :: .rs eS 0 cZ.length 1 :: .int .i64 i2::KB [],[none],h3⟩∧Has h3 ((eS,.sl cZ.length 1 (bO.l cZ))::L)) (fun out e s=>(e = .exit 2∧∃cZ i2,.inr (cZ,i2)=out∧∃kG xp rG Sk eS h3,s=⟨kG :: .any :: .any :: .int .i64 x2.2::xp :: .int .i64 x3.2 :: .any :: .rs eS 0 cZ.length 1::rG::BR (Sk::pY []),[none],h3⟩∧Has h3 ((eS,.sl cZ.length 1 (bO.l cZ))::L))∨(e = .ret∧∃r,.inl r=out∧ai.fin L r s)):=by
 refine gG (fun _=>rfl) ?_
 rintro k ⟨cZ,i2⟩ s out ⟨eS,h3,rfl,o3⟩ H
 have H:ai.l1 m l0 x3 (k+1) cZ i2=some out:=H
 refine qq <| qq <| q0 <| qc H (fun c3 H=>?_) (fun c3 H=>?_)
 ·refine qk <| qq <| qb 3 <| qq ?_
  obtain⟨v2,e9,H⟩:=aI H
  obtain⟨x5,nJ,H⟩:=aI H
  refine qr [.v 2 (bw (k:=.i64) (E:=aR) (l:=l0) DE e9),.v 3 (dw  (E:=aR) (l:=l0) h3 L9 Ma e9),.a 4 (LP _ _ nJ h3 _ (cG (nE (cG (iN (E:=af)) (cG (bE) (gL)))) (gL)))] <| qq <| qq <| q0 <| qc H (fun c4 H=>?_) (fun c4 H=>?_)
  ·refine q1 ?_
   have o4:Has h3 (L):=Has.del o3 0
   exact qt <| Yv (⟨rfl,_,oi H,cb (.bool false) h3 (b9 (au))⟩)
  ·refine qk <| qq <| q0 <| qb 4 ?_
   obtain⟨gO,uS,H⟩:=aI H
   refine ql (ai.mc L l0 x2 x3 i2 x5   (cZ,(0:Int)) _ _ ⟨eS,h3,by kernel_rfl,o3⟩ uS) ?_
   rintro e s (⟨rfl,zH,k1,rfl,g4,g5,g6,g7,fb,h8,rfl,tF⟩| ⟨rfl,r0,rfl,nI⟩)
   ·try dsimp only at H
    exact q0 <| ⟨(zH,i64.wrap (i2+(1:Int))),⟨fb,h8,by kernel_rfl,tF⟩,H⟩
   ·try dsimp only at H
    exact Yv (⟨rfl,_,oi H,nI⟩)
 ·exact qx 2 <| YQ (⟨rfl,cZ,i2,oi H,aR.fz l0,aa.fz x3.1,.int .i64 i2,.bool (decide (i2<(l0.length:Int))),eS,h3,by kernel_rfl,o3⟩)
theorem ai.oW (L:Mem)(x2:(List Int) × Int)(x3:(List Int) × Int)(fS:Nat)(iK:List Bool)(fS:Nat)   : bD Tryd.prog cf pA m (sub [1,1,1,1,1,1,1,0,1,0,0] (codeOf Tryd.f10)) (fun k (σ:Int)=>ai.l4 m iK k σ) (fun σ s=>match σ with | i4=>∃h10,s=⟨jP (.int .i64 x2.2 :: .any :: .int .i64 x3.2 :: .any :: .rs fS 0 iK.length 1::BQ (.int .i64 i4::mK [])),[none],h10⟩∧Has h10 ((fS,.sl iK.length 1 (bO.l iK))::L)) (fun out e s=>(e = .exit 8∧∃i4,.inr i4=out∧∃qh tH OG h10,s=⟨jP (.int .i64 x2.2 :: .any :: .int .i64 x3.2 :: .any::qh::BQ (tH::uK [OG,.any])),[none],h10⟩∧Has h10 ((fS,.sl iK.length 1 (bO.l iK))::L))∨(e = .ret∧∃r,.inl r=out∧ai.fin L r s)):=by
 refine gG (fun _=>rfl) ?_
 rintro k i4 s out ⟨h10,rfl,oT⟩ H
 have H:ai.l4 m iK (k+1) i4=some out:=H
 refine qq <| qq <| q0 <| qc H (fun uO H=>?_) (fun uO H=>?_)
 ·refine qk <| qq <| qb 9 <| qq ?_
  obtain⟨v7,ux,H⟩:=aI H
  refine qr [.v 2 (aE (k:=.i64) (E:=bO) (l:=iK) (q:=0) DF oT rfl ux),.v 3 (be  (E:=bO) (l:=iK) (q:=0) oT rfl A4 ux rfl)] <| qc H (fun nH H=>?_) (fun nH H=>?_)
  ·refine q1 ?_
   have lB:Has h10 (L):=Has.del oT 0
   exact qt <| Yv (⟨rfl,_,oi H,cb (.bool false) h10 (b9 (au))⟩)
  ·exact qk <| q0 <| ⟨i64.wrap (i4+(1:Int)),⟨h10,by kernel_rfl,oT⟩,H⟩
 ·exact qx 8 <| YQ (⟨rfl,i4,oi H,.rs fS 0 iK.length 1,.int .i64 i4,.bool (decide (i4<(iK.length:Int))),h10,by kernel_rfl,oT⟩)
theorem ll {aU:FuncId→cg}(ha:aU 10=pA)(OH:S9 cf m)(Lw:Rh cf m)(LP:Rn cf m)(Sm:Uv cf m)(Sq:Uw cf m)(l0:List ak)(h:AHeap)(L:Mem)  (o:Has h (L)){out:Bool}(H:ai.f m l0=some out) :
  ∃r h',bc Tryd.prog aU cf m 10 [aR.fz l0] h=some (r,h')∧fW h' r (.bool out):=by
 refine aq (fn:=Tryd.f10) ha Tryd.func10 (by kernel_rfl) (by kernel_rfl) ?_
 refine aG (Q:=fun s=>ai.fin L out s) (fun _ _ h=>h) ?_
 have H:_=some out:=H
 unfold ai.f at H
 show de _ cf pA m _ ⟨aR.fz l0::Nj [],[none],h⟩ _
 refine q1 <| qq <| qq ?_
 obtain⟨x0,e0,H⟩:=aI H
 refine qr [.a 1 (Sm _ _ e0 h _ (hH (ae (db (E:=aR)) (aC))))] <| qc H (fun c0 H=>?_) (fun c0 H=>?_)
 ·refine qq ?_
  obtain⟨x1,e1,H⟩:=aI H
  obtain rfl:=oi H
  exact qr [.a 0 (OH _ e1 h _ (hH (aC)))] <| qt <| ⟨.inl rfl,cb (.bool x1) h (b9 (au))⟩
 ·refine qk <| qq ?_
  obtain⟨x2,e2,H⟩:=aI H
  refine qr [.a 1 (Lw _ _ e2 h _ (cG (iN (E:=aR)) (gL)))] <| qq ?_
  obtain⟨x3,e3,H⟩:=aI H
  refine qr [.a 1 (Sq _ _ e3 h _ (hH (ae (db (E:=aw)) (aC))))] <| qq <| qq <| q0 <| qb 0 ?_
  obtain⟨bj,e6,H⟩:=aI H
  refine ql (ai.bI L l0 x2 x3   (1:Int) _ _ ⟨h,by kernel_rfl,o⟩ e6) ?_
  rintro e s (⟨rfl,i1,rfl,g0,g1,h1,rfl,o1⟩| ⟨rfl,r3,rfl,Wi⟩)
  ·try dsimp only at H
   refine qq ?_
   obtain⟨x4,e7,H⟩:=aI H
   obtain⟨aA,h2,e8,o2⟩:=lZ (P:=Tryd.prog) (E:=bO) (z:=false) (zv:=.bool false) DF o1 4 rfl rfl rfl rfl e7
   refine qr [.a 2 e8] <| qq <| qq <| q0 <| qb 2 ?_
   obtain⟨kH,zR,H⟩:=aI H
   refine ql (ai.eQ L l0 x2 x3  LP (x4,(0:Int)) _ _ ⟨aA,h2,by kernel_rfl,o2⟩ zR) ?_
   rintro e s (⟨rfl,iK,i3,rfl,g8,g9,g10,g11,fS,h9,rfl,uw⟩| ⟨rfl,r2,rfl,Wj⟩)
   ·try dsimp only at H
    refine qq <| qq <| q0 <| qb 8 ?_
    obtain⟨cd,zS,H⟩:=aI H
    refine ql (ai.oW L x2 x3 fS iK fS   (0:Int) _ _ ⟨h9,by kernel_rfl,uw⟩ zS) ?_
    rintro e s (⟨rfl,i5,rfl,g12,g13,g14,h11,rfl,uQ⟩| ⟨rfl,r1,rfl,OE⟩)
    ·try dsimp only at H
     refine qq ?_
     rcases dJ H with⟨nU,H⟩| ⟨nU,H⟩
     ·rcases dJ H with⟨qg,H⟩| ⟨qg,H⟩
      ·obtain⟨x6,B8,H⟩:=aI H
       refine qr [.b 2 nU,.b 6 qg,.a 7 (OH _ B8 h11 _ (hH (aC)))] ?_
       have yP:Has h11 (L):=Has.del uQ 0
       obtain rfl:=oi H
       exact qt <| ⟨.inl rfl,cb (.bool x6) h11 (b9 (au))⟩
      ·refine qr [.b 2 nU,.b 6 qg] ?_
       have lG:Has h11 (L):=Has.del uQ 0
       obtain rfl:=oi H
       exact qt <| ⟨.inl rfl,cb (.bool false) h11 (b9 (au))⟩
     ·refine qr [.b 2 nU] ?_
      have zT:Has h11 (L):=Has.del uQ 0
      obtain rfl:=oi H
      exact qt <| ⟨.inl rfl,cb (.bool false) h11 (b9 (au))⟩
    ·try dsimp only at H
     obtain rfl:=oi H
     exact⟨.inl rfl,OE⟩
   ·try dsimp only at H
    obtain rfl:=oi H
    exact⟨.inl rfl,Wj⟩
  ·try dsimp only at H
   obtain rfl:=oi H
   exact⟨.inl rfl,Wi⟩
end
end Go.Proofs.YtmekcfdllhphlaaDoor
namespace Go.Proofs.YtmekcfdllhphlaaDoor
open Go Go.R
open Go.IntKind (i64 u64 u8 u32)
theorem Hj {m:Nat}{C:List Int}(hC:∀i j,i<j→j<C.length→gt C i<gt C j)(hl:C.length≤10000):∀(f i:Nat),C.length - i<f→1≤i→i≤C.length+1→∃x,ai.l0 m (C,0) f (i:Int)=some (.inr x)
 | 0,i,hf,_,_=>absurd hf (by omega)
 | f+1,i,hf,h1,hi=>by
  unfold ai.l0
  by_cases h:i<C.length
  ·have:=hC (i - 1) i (by omega) h
   obtain⟨x,ih⟩:=Hj (m:=m) hC hl f (i+1) (by omega) (by omega) (by omega)
   refine⟨x,?_⟩
   dsimp only
   rw [if_pos (by simp only [decide_eq_true_eq]; omega),aD (x:=(i:Int) - 1) (by omega) (by omega),show (i:Int) - 1=((i - 1:Nat):Int) by omega,cj (by omega),Xr,cj h,Xr,if_neg (by simp only [decide_eq_true_eq]; omega),aD (by omega) (by omega),show (i:Int)+1=((i+1:Nat):Int) by omega,ih]
  ·exact⟨i,by rw [if_neg (by simp only [decide_eq_true_eq]; omega)]⟩
section
variable {m:Nat}{C:List Int}
theorem Bo (hC:∀i j,i<j→j<C.length→gt C i<gt C j)(hl:C.length≤10000){s:ak}{k:Nat}(hk:k<s.nodes.length){p:Nat}(hp:p<C.length)(e:gt C p=s.nodes[k].int):∀(f j:Nat) (at_:Int),C.length - j<f→j≤C.length→
  ∃x,ai.l3 m (C,0) (s,0) (k:Int) f at_ (j:Int)=some (if j≤p then (p:Int) else at_,x)
 | 0,j,at_,hf,_=>absurd hf (by omega)
 | f+1,j,at_,hf,hj=>by
  unfold ai.l3
  dsimp only
  by_cases h:j<C.length
  ·have e1:i64.wrap ((j:Int)+1)=((j+1:Nat):Int):=by rw [aD (by omega) (by omega)]; omega
   rw [if_pos (by simp only [decide_eq_true_eq]; omega),cj h,Xr,ka hk,Xr,e1]
   by_cases Ux:j=p
   ·subst Ux
    obtain⟨x,ih⟩:=Bo hC hl hk hp e f (j+1) (j:Int) (by omega) (by omega)
    exact⟨x,by rw [if_pos (by simp [e]),ih,if_neg (by omega),if_pos (Xv _)]⟩
   ·have hne:gt C j≠s.nodes[k].int:=fun h2=>by
     rw [←e] at h2
     rcases Nat.lt_or_gt_of_ne Ux with h3 | h3
     ·have:=hC j p h3 hp; omega
     ·have:=hC p j h3 h; omega
    obtain⟨x,ih⟩:=Bo hC hl hk hp e f (j+1) at_ (by omega) (by omega)
    refine⟨x,?_⟩
    rw [if_neg (by simpa using hne),ih]
    by_cases h4:j≤p
    ·rw [if_pos h4,if_pos (by omega)]
    ·rw [if_neg h4,if_neg (by omega)]
  ·exact⟨(j:Int),by rw [if_neg (by simp only [decide_eq_true_eq]; omega),if_neg (by omega)]⟩
structure Sn (C P:List Int)(seen:List Bool):Prop where
 len:seen.length=C.length
 val:∀j,j<C.length→(gb seen j=true↔gt C j∈P)
theorem Sn.add (hC:∀i j,i<j→j<C.length→gt C i<gt C j){P:List Int}{seen:List Bool}(S:Sn C P seen){p:Nat}(hp:p<C.length):Sn C (P++[gt C p]) (seen.set p true):=by
 refine⟨by rw [XC]; exact S.len,fun j hj=>?_⟩
 rw [A8 (by rw [S.len]; exact hp),XH,XE]
 by_cases h:j=p
 ·subst h; simp
 ·rw [if_neg h,S.val j hj]
  constructor
  ·exact .inl
  ·rintro (h2 | h2)
   ·exact h2
   ·rcases Nat.lt_or_gt_of_ne h with h3 | h3
    ·have:=hC j p h3 hp; omega
    ·have:=hC p j h3 hj; omega
theorem Bp (hm:10002≤m)(hC:∀i j,i<j→j<C.length→gt C i<gt C j)(hl:C.length≤10000){s:ak}(hs:s.nodes.length≤10000)(hin:∀x∈zE s.nodes,x∈C):∀(f k:Nat) (seen:List Bool) (P:List Int),Sn C P seen→s.nodes.length - k<f→k≤s.nodes.length→
  ∃x pB,ai.l2 m (C,0) (s,0) f seen (k:Int)=some (.inr (pB,x))∧Sn C (P++zE (s.nodes.drop k)) pB
 | 0,k,seen,P,_,hf,_=>absurd hf (by omega)
 | f+1,k,seen,P,S,hf,hk=>by
  unfold ai.l2
  dsimp only
  by_cases h:k<s.nodes.length
  ·have e1:i64.wrap ((k:Int)+1)=((k+1:Nat):Int):=by rw [aD (by omega) (by omega)]; omega
   rw [if_pos (by simp only [decide_eq_true_eq]; omega),ka h,Xr,e1,XG h,zF]
   by_cases Bx:s.nodes[k].kind=0
   ·have hx:s.nodes[k].int∈C:=hin _ (by
     unfold zE
     exact XQ.2 ⟨s.nodes[k],YP.2 ⟨Yo h,by simp [Bx]⟩,rfl⟩)
    obtain⟨p,hp,e⟩:=Hg.1 hx
    obtain⟨x,q⟩:=Bo (m:=m) hC hl h hp e m 0 (-1) (by omega) (by omega)
    have q:ai.l3 m (C,0) (s,0) (k:Int) m (-1:Int) 0=_:=q
    rw [if_pos (Y4 _)] at q
    have S':=S.add hC hp
    obtain⟨y,pB,g1,g2⟩:=Bp hm hC hl hs hin f (k+1) _ _ S' (by omega) (by omega)
    refine⟨y,pB,?_,?_⟩
    ·rw [if_neg (by simp [Bx]),q,Xr]
     dsimp only
     have Wk:p<seen.length:=by rw [S.len]; exact hp
     rw [if_neg (by simp only [decide_eq_true_eq]; omega),ka Wk,Xr,Xy,g1]
    ·rw [if_pos Bx,←e]
     rw [XF] at g2
     exact g2
   ·obtain⟨y,pB,g1,g2⟩:=Bp hm hC hl hs hin f (k+1) seen P S (by omega) (by omega)
    exact⟨y,pB,by rw [if_pos (by simp [Bx]),g1],by rw [if_neg Bx]; exact g2⟩
  ·exact⟨(k:Int),seen,by rw [if_neg (by simp only [decide_eq_true_eq]; omega)],by rw [X3 (by omega)]; simpa [zE] using S⟩
theorem Hk (hm:2 ^ 41≤m)(hC:∀i j,i<j→j<C.length→gt C i<gt C j)(hl:C.length≤10000){L:List ak}(I:Ins m L)(hin:∀t∈L,∀x∈zE (lf m t).nodes,x∈C):∀(f i:Nat) (seen:List Bool) (P:List Int),Sn C P seen→L.length - i<f→i≤L.length→
  ∃x pB,ai.l1 m L (C,0) f seen (i:Int)=some (.inr (pB,x))∧Sn C (P++pz ((L.drop i).map (lf m))) pB
 | 0,i,seen,P,_,hf,_=>absurd hf (by omega)
 | f+1,i,seen,P,S,hf,hi=>by
  have rE:(2:Nat) ^ 41=2199023255552:=by decide
  have h8:=I.rj
  unfold ai.l1
  by_cases h:i<L.length
  ·have vg:=Yo h
   have F:=I.lf hm vg
   have Xq:=F.lt.rj
   obtain⟨x,cU,q1,q2⟩:=Bp (m:=m) (by omega) hC hl (s:=lf m L[i]) (by omega) (hin _ vg) m 0 seen P S (by omega) (by omega)
   have q1:ai.l2 m (C,0) (lf m L[i],0) m seen 0=_:=q1
   obtain⟨y,zH,g1,g2⟩:=Hk hm hC hl I hin f (i+1) cU _ q2 (by omega) (by omega)
   refine⟨y,zH,?_,?_⟩
   ·rw [if_pos (by simp only [decide_eq_true_eq]; omega),ka h,Xr,LO F,Xr,if_neg (by simp),q1,Xr]
    dsimp only
    rw [aD (by omega) (by omega),show (i:Int)+1=((i+1:Nat):Int) by omega,g1]
   ·rw [XG h,XN,qL,←XF]
    rw [X6] at g2
    exact g2
  ·exact⟨(i:Int),seen,by rw [if_neg (by simp only [decide_eq_true_eq]; omega)],by rw [X3 (by omega)]; simpa [pz] using S⟩
end
theorem Hl {m:Nat}{seen:List Bool}(hs:seen.length≤10000)(ha:∀j,j<seen.length→gb seen j=true):∀(f i:Nat),seen.length - i<f→i≤seen.length→∃x,ai.l4 m seen f (i:Int)=some (.inr x)
 | 0,i,hf,_=>absurd hf (by omega)
 | f+1,i,hf,hi=>by
  unfold ai.l4
  by_cases h:i<seen.length
  ·obtain⟨x,ih⟩:=Hl (m:=m) hs ha f (i+1) (by omega) (by omega)
   have e:seen[i]=true:=by
    have h1:=Cz h
    rw [XD h,ha i h] at h1
    exact XP h1
   refine⟨x,?_⟩
   rw [if_pos (by simp only [decide_eq_true_eq]; omega),ka h,Xr,if_neg (by simp [e]),aD (by omega) (by omega),show (i:Int)+1=((i+1:Nat):Int) by omega,ih]
  ·exact⟨i,by rw [if_neg (by simp only [decide_eq_true_eq]; omega)]⟩
theorem Bq {m:Nat}(hm:2 ^ 63≤m){L:List ak}(hl:∀t∈L,t.nodes.length<2 ^ 63)(h0:∀t∈L,IF t):ai.f m L=some true:=by
 have rE:(2:Nat) ^ 41=2199023255552:=by decide
 have HC:(2:Nat) ^ 63=9223372036854775808:=by decide
 obtain⟨v,k1,k2⟩:=D8 hm hl h0
 have ha:j7.f m=some true:=rfl
 unfold ai.f
 rw [k1,Xr]
 cases v with
 | false=>rw [if_pos (by simp),ha]; rfl
 | true=>
  have I:=k2 rfl
  have h8:=I.rj
  have hg:=IW (m:=m) (by omega) I
  have xu:∀t∈L.map (lf m),t.nodes.length≤10000:=fun t ht=>by
   obtain⟨u,hu,rfl⟩:=XQ.1 ht
   have:=(I.lf (by omega) hu).lt.rj; omega
  have ho:=IX (m:=m) (by omega) hg (by simp; omega) xu
  obtain⟨hC,rA⟩:=D9 (pz (L.map (lf m)))
  have hlen:(once (pz (L.map (lf m)))).length≤10000:=by
   have h1:=Hh (pz (L.map (lf m)))
   have h2:=zG (L.map (lf m))
   have h3:=(I.least (by omega)).sum
   omega
  generalize hE:once (pz (L.map (lf m)))=C at *
  obtain⟨x0,q0⟩:=Hj (m:=m) hC hlen m 1 (by omega) (Xv _) (by omega)
  have q0:ai.l0 m (C,0) m (1:Int)=_:=q0
  have hmk:sj 1 (C.length:Int) false=some (XK C.length false):=by
   unfold sj
   rw [if_pos ⟨by omega,by simp; omega⟩]; simp
  have S0:Sn C [] (XK C.length false):=⟨by simp,fun j hj=>by rw [G9]; simp⟩
  have hin:∀t∈L,∀x∈zE (lf m t).nodes,x∈C:=fun t ht x hx=>(rA x).2 (by
   unfold pz
   exact List.mem_flatten.2 ⟨_,XQ.2 ⟨lf m t,XQ.2 ⟨t,ht,rfl⟩,rfl⟩,hx⟩)
  obtain⟨x1,seen,q1,S1⟩:=Hk (m:=m) (by omega) hC hlen I hin m 0 _ _ S0 (by omega) (by omega)
  have q1:ai.l1 m L (C,0) m (XK C.length false) (0:Int)=_:=q1
  rw [X2,X6] at S1
  obtain⟨x2,q2⟩:=Hl (m:=m) (seen:=seen) (by rw [S1.len]; exact hlen) (fun j hj=>(S1.val j (by rw [←S1.len]; exact hj)).2 ((rA _).1 (aJ (by rw [←S1.len]; exact hj)))) m 0 (by rw [S1.len]; omega) (by omega)
  have q2:ai.l4 m seen m (0:Int)=_:=q2
  rw [if_neg (by simp),CP (by omega) I,Xr]
  dsimp only
  rw [ho,Xr,q0,Xr]
  dsimp only
  rw [hmk,Xr,q1,Xr]
  dsimp only
  rw [q2,Xr]
  dsimp only
  rw [if_pos (by simp),if_pos (by simp),ha]
  rfl
end Go.Proofs.YtmekcfdllhphlaaDoor
namespace Go.Proofs.YtmekcfdllhphlaaDoor
open Go Go.R
open Go.IntKind (i64 u64 u8 u32)
def Nf (xs ys:List AV):Prop:=cH xs=true∧dq xs=ys
theorem wa:∀a b:List AV,cH (a++b)=(cH a&&cH b)
 | [],b=>rfl
 | x::a,b=>by rw [XU,cH,cH,wa,Bool.and_assoc]
theorem wc:∀a b:List AV,dq (a++b)=dq a++dq b
 | [],b=>rfl
 | x::a,b=>by rw [XU,dq,dq,wc,XU]
theorem Nf.app {a b c d:List AV}(h:Nf a c)(k:Nf b d):Nf (a++b) (c++d):=⟨by rw [wa,h.1,k.1]; rfl,by rw [wc,h.2,k.2]⟩
theorem Nf.nil:Nf [] []:=⟨rfl,rfl⟩
theorem Nf.fz {α:Type}{E:cw α}{cs:List AV}{l:List α}{n:Nat}{b:Bool}(h:Nf cs (E.l l))(hn:n=l.length):Nf [.fz cs n b] [E.fz l]:=by
 subst hn
 exact⟨by show (AV.dN (.fz cs l.length b)&&cH [])=true; simp [AV.dN,h.1,cH],by show [AV.fz (dq cs) l.length false]=_; rw [h.2]; rfl⟩
theorem Nf.nils {α:Type}{E:cw α}:Nf [.nils] [E.fz []]:=⟨rfl,rfl⟩
theorem zI {α:Type}{E:cw α}{Pr:α→Prop}:∀{els:List (List AV)},(∀el∈els,∃a,Nf el (E.f a)∧Pr a)→∃l:List α,Nf els.flatten (E.l l)∧l.length=els.length∧∀a∈l,Pr a
 | [],_=>⟨[],Nf.nil,rfl,fun a ha=>by cases ha⟩
 | el::els,h=>by
  obtain⟨a,h1,h2⟩:=h el (by simp)
  obtain⟨l,h3,h4,h5⟩:=zI (E:=E) (Pr:=Pr) (els:=els) fun e he=>h e (by simp [he])
  refine⟨a::l,?_,by simp [h4],fun x hx=>?_⟩
  ·rw [List.flatten_cons,cw.dO]; exact h1.app h3
  ·rcases X8.1 hx with rfl | hx
   ·exact h2
   ·exact h5 x hx
theorem Br {α:Type}{E:cw α}{Pr:α→Prop}{n t e:Nat}{xs:List AV}(ht:Tryd.prog.underlying t=some (.slice e))(h:Fits Tryd.prog (n+1) t xs)
  (he:∀el,Fits Tryd.prog n e el→∃a,Nf el (E.f a)∧Pr a):∃l:List α,Nf xs [E.fz l]∧l.length≤maxLen∧∀a∈l,Pr a:=by
 unfold Fits at h
 rw [ht] at h
 rcases h with rfl | ⟨els,rfl,h1,h⟩
 ·exact⟨[],Nf.nils,by simp,fun a ha=>by cases ha⟩
 ·obtain⟨l,h2,h3,h4⟩:=zI (E:=E) (Pr:=Pr) fun el M9=>he el (h el M9).2
  exact⟨l,h2.fz h3.symm,by omega,h4⟩
theorem xR {n:Nat}{xs:List AV}(h:Fits Tryd.prog (n+1) 3 xs):∃z:Int,Nf xs (aa.f z)∧z<2 ^ 63:=by
 unfold Fits at h
 rw [Tryd.underlying3] at h
 obtain⟨z,rfl,_,hz⟩:=h
 have hz:z≤9223372036854775807:=hz
 exact⟨z,⟨rfl,rfl⟩,by omega⟩
theorem Hm {n:Nat}{xs:List AV}(h:Fits Tryd.prog (n+3) 48 xs):∃v:ab,Nf xs (af.f v)∧v.int<2 ^ 63:=by
 unfold Fits at h
 rw [Tryd.underlying48] at h
 obtain⟨a,b,rfl,_,h1,h⟩:=h
 obtain⟨c,d,rfl,_,h2,h⟩:=h
 obtain⟨e,f,rfl,_,h3,h⟩:=h
 obtain⟨g,k,rfl,_,h4,h⟩:=h
 have h:k=[]:=h
 subst h
 obtain⟨z1,i1,_⟩:=xR h1
 obtain⟨z2,i2,j2⟩:=xR h2
 obtain⟨l,i4,_,_⟩:=Br (E:=aa) (Pr:=fun z=>z<2 ^ 63) Tryd.underlying42 h4 fun el h=>xR h
 have h3:∃s:ByteArray,e=[.str s]:=by
  unfold Fits at h3
  rw [Tryd.underlying9] at h3
  obtain⟨s,hs,_⟩:=h3
  exact⟨s,hs⟩
 obtain⟨s,rfl⟩:=h3
 exact⟨⟨z1,z2,s,l⟩,i1.app (i2.app (Nf.app (a:=[.str s]) (c:=[.str s]) ⟨rfl,rfl⟩ (i4.app Nf.nil))),j2⟩
def Bs (t:ak):Prop:=t.nodes.length<2 ^ 63∧IF t
theorem Hn {n:Nat}{xs:List AV}(h:Fits Tryd.prog (n+5) 31 xs):∃t:ak,Nf xs (aR.f t)∧Bs t:=by
 unfold Fits at h
 rw [Tryd.underlying31] at h
 obtain⟨a,b,rfl,_,h1,h⟩:=h
 obtain⟨c,d,rfl,_,h2,h⟩:=h
 have h:d=[]:=h
 subst h
 obtain⟨l,i1,k1,k2⟩:=Br (E:=af) (Pr:=fun v=>v.int<2 ^ 63) Tryd.underlying29 h1 fun el h=>Hm h
 obtain⟨z,i2,_⟩:=xR h2
 refine⟨⟨l,z⟩,i1.app (i2.app Nf.nil),?_,fun v hv _=>k2 v hv⟩
 have:maxLen<2 ^ 63:=by decide
 show l.length<_
 omega
theorem IY {t e n:Nat}{xs:List AV}(ht:Tryd.prog.underlying t=some (.slice e))(h:Fits Tryd.prog (n+1) t xs):∃x,xs=[x]∧(x = .nils∨∃cs n b,x = .fz cs n b):=by
 unfold Fits at h
 rw [ht] at h
 rcases h with rfl | ⟨els,rfl,_⟩
 ·exact⟨_,rfl,.inl rfl⟩
 ·exact⟨_,rfl,.inr ⟨_,_,_,rfl⟩⟩
theorem Ea {n:Nat}{xs:List AV}(h:Fits Tryd.prog (n+6) 22 xs):∃x l,xs=[x]∧(∀h,eN fi h [x] [aR.fz l])∧∀t∈l,Bs t:=by
 obtain⟨l,h1,_,h2⟩:=Br (E:=aR) (Pr:=Bs) Tryd.underlying22 h fun el h=>Hn h
 obtain⟨x,rfl,hx⟩:=IY Tryd.underlying22 h
 have g1:x.dN=true:=by have:=h1.1; simpa [cH] using this
 have g2:x.jO=aR.fz l:=by have:=h1.2; simpa [dq] using this
 have hf:∀hp,lF 0 hp x (aR.fz l):=fun hp=>mE g1 (by rcases hx with rfl | ⟨cs,n,b,rfl⟩<;>exact fun _=>rfl) g2
 exact⟨x,l,rfl,fun hp=>hH (ae (hf hp) aC),h2⟩
end Go.Proofs.YtmekcfdllhphlaaDoor
namespace Go.Proofs.YtmekcfdllhphlaaDoor
open Go Go.R Go.Shelf
def Mp:Ren:={
 f:=(fun x=>match x with | 178=>101 | 179=>53 | 181=>98 | 184=>99 | 251=>72 | 252=>73 | 290=>100 | 324=>117 | n=>n),
 t:=(fun x=>match x with | 0=>0 | 3=>3 | 4=>4 | 5=>5 | 9=>9 | 20=>20 | 37=>25 | 75=>85 | 80=>93 | 91=>79 | 93=>81 | 130=>104 | 131=>100 | n=>n),
 g:=(fun x=>match x with | 14=>0 | n=>n)}
theorem IZ:LaysM.n179 Tryd.prog Mp:={
 mixed:=by kernel_rfl,
 f179:=Tryd.func53.trans (congrArg some (by kernel_rfl)),
 f181:=Tryd.func98.trans (congrArg some (by kernel_rfl)),
 f184:=Tryd.func99.trans (congrArg some (by kernel_rfl)),
 f251:=Tryd.func72.trans (congrArg some (by kernel_rfl)),
 f252:=Tryd.func73.trans (congrArg some (by kernel_rfl)),
 f290:=Tryd.func100.trans (congrArg some (by kernel_rfl)),
 f324:=Tryd.func117.trans (congrArg some (by kernel_rfl)),
 t0:=Tryd.underlying0,
 a0:=Tryd.isAgg0,
 z0:=Tryd.sizeOf0,
 v0:=Tryd.zeroValue0,
 t3:=Tryd.underlying3,
 a3:=Tryd.isAgg3,
 z3:=Tryd.sizeOf3,
 v3:=Tryd.zeroValue3,
 t4:=Tryd.underlying4,
 a4:=Tryd.isAgg4,
 z4:=Tryd.sizeOf4,
 v4:=Tryd.zeroValue4,
 t5:=Tryd.underlying5,
 a5:=Tryd.isAgg5,
 z5:=Tryd.sizeOf5,
 v5:=Tryd.zeroValue5,
 t20:=Tryd.underlying20,
 a20:=Tryd.isAgg20,
 z20:=Tryd.sizeOf20,
 v20:=Tryd.zeroValue20,
 t37:=Tryd.underlying25,
 a37:=Tryd.isAgg25,
 z37:=Tryd.sizeOf25,
 v37:=Tryd.zeroValue25,
 t75:=Tryd.underlying85,
 a75:=Tryd.isAgg85,
 z75:=Tryd.sizeOf85,
 v75:=Tryd.zeroValue85,
 t91:=Tryd.underlying79,
 a91:=Tryd.isAgg79,
 z91:=Tryd.sizeOf79,
 v91:=Tryd.zeroValue79,
 t93:=Tryd.underlying81,
 a93:=Tryd.isAgg81,
 z93:=Tryd.sizeOf81,
 v93:=Tryd.zeroValue81,
 t130:=Tryd.underlying104,
 a130:=Tryd.isAgg104,
 z130:=Tryd.sizeOf104,
 v130:=Tryd.zeroValue104,
 t131:=Tryd.underlying100,
 a131:=Tryd.isAgg100,
 z131:=Tryd.sizeOf100,
 v131:=Tryd.zeroValue100,
 g14:=by kernel_rfl,
 t9:=Tryd.underlying9,
 a9:=Tryd.isAgg9,
 z9:=Tryd.sizeOf9,
 v9:=Tryd.zeroValue9,
 t80:=Tryd.underlying93,
 a80:=Tryd.isAgg93,
 z80:=Tryd.sizeOf93,
 v80:=Tryd.zeroValue93,
 i0:=by kernel_rfl,
 i3:=by kernel_rfl,
 i4:=by kernel_rfl,
 i5:=by kernel_rfl,
 i9:=by kernel_rfl,
 i20:=by kernel_rfl,
 i37:=by kernel_rfl,
 i75:=by kernel_rfl,
 i80:=by kernel_rfl,
 i91:=by kernel_rfl,
 i93:=by kernel_rfl,
 i130:=by kernel_rfl,
 i131:=by kernel_rfl,
 m14:=by kernel_rfl}
theorem I0:LaysM.n178 Tryd.prog Mp:={
 mixed:=by kernel_rfl,
 f178:=Tryd.func101.trans (congrArg some (by kernel_rfl)),
 f181:=Tryd.func98.trans (congrArg some (by kernel_rfl)),
 f184:=Tryd.func99.trans (congrArg some (by kernel_rfl)),
 f251:=Tryd.func72.trans (congrArg some (by kernel_rfl)),
 f252:=Tryd.func73.trans (congrArg some (by kernel_rfl)),
 f290:=Tryd.func100.trans (congrArg some (by kernel_rfl)),
 f324:=Tryd.func117.trans (congrArg some (by kernel_rfl)),
 t0:=Tryd.underlying0,
 a0:=Tryd.isAgg0,
 z0:=Tryd.sizeOf0,
 v0:=Tryd.zeroValue0,
 t3:=Tryd.underlying3,
 a3:=Tryd.isAgg3,
 z3:=Tryd.sizeOf3,
 v3:=Tryd.zeroValue3,
 t4:=Tryd.underlying4,
 a4:=Tryd.isAgg4,
 z4:=Tryd.sizeOf4,
 v4:=Tryd.zeroValue4,
 t9:=Tryd.underlying9,
 a9:=Tryd.isAgg9,
 z9:=Tryd.sizeOf9,
 v9:=Tryd.zeroValue9,
 t20:=Tryd.underlying20,
 a20:=Tryd.isAgg20,
 z20:=Tryd.sizeOf20,
 v20:=Tryd.zeroValue20,
 t37:=Tryd.underlying25,
 a37:=Tryd.isAgg25,
 z37:=Tryd.sizeOf25,
 v37:=Tryd.zeroValue25,
 t75:=Tryd.underlying85,
 a75:=Tryd.isAgg85,
 z75:=Tryd.sizeOf85,
 v75:=Tryd.zeroValue85,
 t91:=Tryd.underlying79,
 a91:=Tryd.isAgg79,
 z91:=Tryd.sizeOf79,
 v91:=Tryd.zeroValue79,
 t93:=Tryd.underlying81,
 a93:=Tryd.isAgg81,
 z93:=Tryd.sizeOf81,
 v93:=Tryd.zeroValue81,
 t130:=Tryd.underlying104,
 a130:=Tryd.isAgg104,
 z130:=Tryd.sizeOf104,
 v130:=Tryd.zeroValue104,
 t131:=Tryd.underlying100,
 a131:=Tryd.isAgg100,
 z131:=Tryd.sizeOf100,
 v131:=Tryd.zeroValue100,
 g14:=by kernel_rfl,
 t5:=Tryd.underlying5,
 a5:=Tryd.isAgg5,
 z5:=Tryd.sizeOf5,
 v5:=Tryd.zeroValue5,
 t80:=Tryd.underlying93,
 a80:=Tryd.isAgg93,
 z80:=Tryd.sizeOf93,
 v80:=Tryd.zeroValue93,
 i0:=by kernel_rfl,
 i3:=by kernel_rfl,
 i4:=by kernel_rfl,
 i5:=by kernel_rfl,
 i9:=by kernel_rfl,
 i20:=by kernel_rfl,
 i37:=by kernel_rfl,
 i75:=by kernel_rfl,
 i80:=by kernel_rfl,
 i91:=by kernel_rfl,
 i93:=by kernel_rfl,
 i130:=by kernel_rfl,
 i131:=by kernel_rfl,
 m14:=by kernel_rfl}
theorem fits:Fit Tryd.prog:=Ke (by kernel_rfl) (by kernel_rfl)
theorem I1:∀(vs:Array Value) (w:World),(callFunc (Mp.f 179) vs).run Tryd.prog w = .ok (.enter (Mp.f 179) vs) w:=
 gk (c:=codeOf Tryd.f53) Tryd.func53 (by kernel_rfl) (by decide +kernel)
theorem Ho:∀(vs:Array Value) (w:World),(callFunc (Mp.f 178) vs).run Tryd.prog w = .ok (.enter (Mp.f 178) vs) w:=
 gk (c:=codeOf Tryd.f101) Tryd.func101 (by kernel_rfl) (by decide +kernel)
noncomputable def Hp:FuncId→Option (List AV→AHeap→Option (AV × AHeap)):=fun f=>if f=53 then some (wbA 5) else if f=101 then some (wsA 5) else none
theorem ur:IntrOK Tryd.prog Hp:=intr_cons (f0:=53) (wb_ok IZ I1) wb_steady (intr_cons (f0:=101) (ws_ok I0 Ho) ws_steady Df)
end Go.Proofs.YtmekcfdllhphlaaDoor
namespace Go.Proofs.YtmekcfdllhphlaaDoor
open Go Go.R Go.Shelf
def LQ:Ren:={f:=(fun x=>match x with | 189=>49 | 125=>71 | 257=>70 | 128=>96 | 129=>97 | 294=>87 | 295=>88 | 296=>89 | 297=>90 | 298=>91 | 299=>92 | 216=>93 | 300=>94 | 301=>95 | 328=>112 | 329=>113 | 330=>114 | 331=>115 | 332=>116 | 215=>108 | 343=>121 | n=>n),t:=(fun x=>match x with | 28=>42 | 3=>3 | 46=>39 | 0=>0 | 51=>69 | 53=>40 | 4=>4 | 183=>119 | 182=>118 | 131=>100 | 5=>5 | 9=>9 | 218=>137 | 222=>141 | 228=>145 | 229=>146 | n=>n),g:=(fun n=>n)}
theorem OI:Lays.n189 Tryd.prog LQ:={
 mixed:=by kernel_rfl,
 f125:=Tryd.func71.trans (congrArg some (by kernel_rfl)),
 f128:=Tryd.func96.trans (congrArg some (by kernel_rfl)),
 f129:=Tryd.func97.trans (congrArg some (by kernel_rfl)),
 f189:=Tryd.func49.trans (congrArg some (by kernel_rfl)),
 f215:=Tryd.func108.trans (congrArg some (by kernel_rfl)),
 f216:=Tryd.func93.trans (congrArg some (by kernel_rfl)),
 f257:=Tryd.func70.trans (congrArg some (by kernel_rfl)),
 f294:=Tryd.func87.trans (congrArg some (by kernel_rfl)),
 f295:=Tryd.func88.trans (congrArg some (by kernel_rfl)),
 f296:=Tryd.func89.trans (congrArg some (by kernel_rfl)),
 f297:=Tryd.func90.trans (congrArg some (by kernel_rfl)),
 f298:=Tryd.func91.trans (congrArg some (by kernel_rfl)),
 f299:=Tryd.func92.trans (congrArg some (by kernel_rfl)),
 f300:=Tryd.func94.trans (congrArg some (by kernel_rfl)),
 f301:=Tryd.func95.trans (congrArg some (by kernel_rfl)),
 f328:=Tryd.func112.trans (congrArg some (by kernel_rfl)),
 f329:=Tryd.func113.trans (congrArg some (by kernel_rfl)),
 f330:=Tryd.func114.trans (congrArg some (by kernel_rfl)),
 f331:=Tryd.func115.trans (congrArg some (by kernel_rfl)),
 f332:=Tryd.func116.trans (congrArg some (by kernel_rfl)),
 f343:=Tryd.func121.trans (congrArg some (by kernel_rfl)),
 t0:=Tryd.underlying0,
 a0:=Tryd.isAgg0,
 z0:=Tryd.sizeOf0,
 v0:=Tryd.zeroValue0,
 t3:=Tryd.underlying3,
 a3:=Tryd.isAgg3,
 z3:=Tryd.sizeOf3,
 v3:=Tryd.zeroValue3,
 t4:=Tryd.underlying4,
 a4:=Tryd.isAgg4,
 z4:=Tryd.sizeOf4,
 v4:=Tryd.zeroValue4,
 t5:=Tryd.underlying5,
 a5:=Tryd.isAgg5,
 z5:=Tryd.sizeOf5,
 v5:=Tryd.zeroValue5,
 t9:=Tryd.underlying9,
 a9:=Tryd.isAgg9,
 z9:=Tryd.sizeOf9,
 v9:=Tryd.zeroValue9,
 t28:=Tryd.underlying42,
 a28:=Tryd.isAgg42,
 z28:=Tryd.sizeOf42,
 v28:=Tryd.zeroValue42,
 t46:=Tryd.underlying39,
 a46:=Tryd.isAgg39,
 z46:=Tryd.sizeOf39,
 v46:=Tryd.zeroValue39,
 t51:=Tryd.underlying69,
 a51:=Tryd.isAgg69,
 z51:=Tryd.sizeOf69,
 v51:=Tryd.zeroValue69,
 t53:=Tryd.underlying40,
 a53:=Tryd.isAgg40,
 z53:=Tryd.sizeOf40,
 v53:=Tryd.zeroValue40,
 t131:=Tryd.underlying100,
 a131:=Tryd.isAgg100,
 z131:=Tryd.sizeOf100,
 v131:=Tryd.zeroValue100,
 t182:=Tryd.underlying118,
 a182:=Tryd.isAgg118,
 z182:=Tryd.sizeOf118,
 v182:=Tryd.zeroValue118,
 t183:=Tryd.underlying119,
 a183:=Tryd.isAgg119,
 z183:=Tryd.sizeOf119,
 v183:=Tryd.zeroValue119,
 t218:=Tryd.underlying137,
 a218:=Tryd.isAgg137,
 z218:=Tryd.sizeOf137,
 v218:=Tryd.zeroValue137,
 t222:=Tryd.underlying141,
 a222:=Tryd.isAgg141,
 z222:=Tryd.sizeOf141,
 v222:=Tryd.zeroValue141,
 t228:=Tryd.underlying145,
 a228:=Tryd.isAgg145,
 z228:=Tryd.sizeOf145,
 v228:=Tryd.zeroValue145,
 t229:=Tryd.underlying146,
 a229:=Tryd.isAgg146,
 z229:=Tryd.sizeOf146,
 v229:=Tryd.zeroValue146}
def LR:Ren:={f:=(fun x=>match x with | 20=>50 | n=>n),t:=(fun x=>match x with | 22=>42 | 3=>3 | 4=>4 | 0=>0 | n=>n),g:=(fun n=>n)}
theorem OJ:Lays2.n20 Tryd.prog LR:={
 mixed:=by kernel_rfl,
 f20:=Tryd.func50.trans (congrArg some (by kernel_rfl)),
 t0:=Tryd.underlying0,
 a0:=Tryd.isAgg0,
 z0:=Tryd.sizeOf0,
 v0:=Tryd.zeroValue0,
 t3:=Tryd.underlying3,
 a3:=Tryd.isAgg3,
 z3:=Tryd.sizeOf3,
 v3:=Tryd.zeroValue3,
 t4:=Tryd.underlying4,
 a4:=Tryd.isAgg4,
 z4:=Tryd.sizeOf4,
 v4:=Tryd.zeroValue4,
 t22:=Tryd.underlying42,
 a22:=Tryd.isAgg42,
 z22:=Tryd.sizeOf42,
 v22:=Tryd.zeroValue42,
 i3:=by kernel_rfl}
theorem LS:∀(vs:Array Value) (w:World),(callFunc (LQ.f 189) vs).run Tryd.prog w = .ok (.enter (LQ.f 189) vs) w:=
 gk (c:=codeOf Tryd.f49) Tryd.func49 (by kernel_rfl) (by decide +kernel)
theorem LU:∀(vs:Array Value) (w:World),(callFunc (LR.f 20) vs).run Tryd.prog w = .ok (.enter (LR.f 20) vs) w:=
 gk (c:=codeOf Tryd.f50) Tryd.func50 (by kernel_rfl) (by decide +kernel)
noncomputable def JK:FuncId→Option (List AV→AHeap→Option (AV × AHeap)):=fun f=>if f=49 then some KH else if f=50 then some KI else Hp f
theorem Hq:IntrOK Tryd.prog JK:=intr_cons (f0:=49) (Nr OI LS) DC (intr_cons (f0:=50) (Ns OJ LU) DD ur)
end Go.Proofs.YtmekcfdllhphlaaDoor
namespace Go.Proofs.YtmekcfdllhphlaaDoor
open Go Go.R
open Go.IntKind (i64 u64 u8 u32)
def cO:Nat→cg
 | 10=>pA
 | 12=>vV
 | 13=>{keep:=[0,1,2,3,4,5,6,7,8,9,10],aF:=[9]}
 | 14=>zf
 | 16=>Cy
 | 18=>gK [0,1,2,3,4,5,6,7,8,22,27,67,72,85] [2,3,6,7] [16371,15859,16367,16339,15315,16339,16147,14099,16367,15891,11795,15891,7699,16367,16367] [] []
 | 19=>vQ
 | 20=>vW
 | 21=>vO
 | 25=>zn
 | 27=>vY
 | 28=>gK [0,2] [2] [0,1] [] []
 | 29=>gK [0] [0] [] [] []
 | 30=>gK [0,1,4] [] [4,3] [] []
 | 31=>Cs
 | 32=>B6
 | 33=>Cv
 | 34=>B5
 | 35=>Cu
 | 36=>vP
 | 37=>CF
 | 41=>Cw
 | 42=>Cr
 | 43=>zb
 | 44=>vN
 | 45=>Cc
 | 47=>Ck
 | 48=>zm
 | 51=>yR
 | 52=>yQ
 | 53=>{keep:=[0,1,4,5,6,16],aF:=[]}
 | 54=>za
 | 55=>zd
 | 56=>{keep:=[0,2],aF:=[]}
 | 57=>lE
 | 59=>Co
 | 60=>Cq
 | 61=>Cb
 | 62=>B3
 | 65=>Cf
 | 67=>pa
 | 68=>y5
 | 69=>CE
 | 74=>Cp
 | 75=>vT
 | 76=>mu
 | 77=>BZ
 | 78=>B0
 | 79=>B1
 | 80=>B2
 | 81=>Cd
 | 82=>yX
 | 83=>Ce
 | 84=>Ca
 | 85=>Cg
 | 86=>zl
 | 101=>{keep:=[0,1,4,5,6,7,19],aF:=[]}
 | 102=>tZ
 | 103=>uc
 | 104=>xK
 | 105=>ub
 | 106=>tA
 | 107=>tD
 | 108=>xl
 | 109=>xm
 | 110=>nK
 | 111=>xM
 | 118=>xe
 | 119=>qm
 | 120=>lh
 | 122=>tv
 | 123=>tu
 | _=>{keep:=[],aF:=[]}
def bb:Nat:=18014398509481984
theorem bf:jm+fi≤bb:=by decide
def OL:Nat→Option Nat
 | 10=>some bb
 | 12=>some bb
 | 13=>some bb
 | 14=>some bb
 | 16=>some bb
 | 18=>some bb
 | 19=>some bb
 | 20=>some bb
 | 21=>some bb
 | 25=>some bb
 | 27=>some bb
 | 28=>some bb
 | 29=>some bb
 | 30=>some bb
 | 31=>some bb
 | 33=>some bb
 | 35=>some bb
 | 36=>some bb
 | 37=>some bb
 | 41=>some bb
 | 42=>some bb
 | 45=>some bb
 | 47=>some bb
 | 48=>some bb
 | 57=>some bb
 | 62=>some bb
 | 65=>some bb
 | 67=>some bb
 | 69=>some bb
 | 75=>some bb
 | 76=>some bb
 | 77=>some bb
 | 80=>some bb
 | 81=>some bb
 | 82=>some bb
 | 83=>some bb
 | 86=>some bb
 | 102=>some bb
 | 103=>some bb
 | 104=>some bb
 | 105=>some bb
 | 106=>some bb
 | 108=>some bb
 | 109=>some bb
 | 111=>some bb
 | 118=>some bb
 | _=>none
def M:Nat:=18446744073709551616
noncomputable def zJ:nX:={aU:=cO,intr:=Hp,pure:=fun _=>none}
theorem mI {h:AHeap}(hp:0<h.next):Has h []:=⟨fun j i c h=>by simp at h,fun j j' i c c' h=>by simp at h,hp⟩
theorem LV:codeOf Tryd.f56=(.seq (sub [0] (codeOf Tryd.f56)) (.seq (sub [1,0] (codeOf Tryd.f56)) .ret)):=by kernel_rfl
theorem Bt {cf:CallF}{id i n:Nat}{h:AHeap}{cs:List AV}(h1:h.get id=some (.cells [.rs i 0 n 1,.int .i64 0,.int .i8 0])) :
  ∃r h',bc Tryd.prog cO cf M 56 [.ptr id 0] h=some (r,h')∧r = .rs i 0 n 1∧h'=h:=by
 refine aq (fn:=Tryd.f56) (A:={keep:=[0,2],aF:=[]}) rfl Tryd.func56 (by kernel_rfl) (by kernel_rfl) ?_
 refine aG (Q:=fun s=>aH Tryd.prog (s.open {keep:=[0,2],aF:=[]}) Tryd.f56.results.toList=some (.rs i 0 n 1)∧s.h=h) (fun _ _ ⟨h1,h2,h3⟩=>⟨h1,_,h2,rfl,h3⟩) ?_
 refine Ay LV ?_
 show de _ cf _ M _ ⟨[.ptr id 0,.any],[],h⟩ _
 refine oD ?_
 refine s4 (fs:=[]) (zs:=[]) (jv:=⟨[.ptr id 0,.nils],[],h⟩) (p:=(True)∧True) (by kernel_rfl) ⟨trivial,trivial⟩ ?_
 refine oD ?_
 refine s4 (fs:=[]) (zs:=[(3,.rs i 0 n 1,none),(7,.int .i64 0,none),(8,.rs i 0 n 1,none)]) (jv:=⟨[.ptr id 0,.rs i 0 n 1],[],h⟩) (p:=(True)∧bl Tryd.prog h 25 (.ptr id 0)=some (.rs i 0 n 1)∧bl Tryd.prog h 3 (.ptr id 1)=some (.int .i64 0)∧eZ Tryd.prog 25 (.rs i 0 n 1) (some (.int .i64 0)) none none=some (.rs i 0 n 1)∧True) (by kernel_rfl) ⟨trivial,⟨?_,?_,?_,trivial⟩⟩ ?_
 ·simp only [bl,jd,h1,Xr]; kernel_rfl
 ·simp only [bl,jd,h1,Xr]; kernel_rfl
 ·have e1:Tryd.prog.underlying 25=some (.slice 5):=Tryd.underlying25
  have e2:dZ Tryd.prog 5=some 1:=by kernel_rfl
  simp [eZ,e1,e2,ir]
 refine yC ?_
 exact⟨.inl rfl,by kernel_rfl,rfl⟩
noncomputable def JL:FuncId→Option (List AV→AHeap→Option (AV × AHeap)):=fun f=>if f=56 then some (fun args h=>(eM Tryd.prog zJ M 1 56 args h).bind plainA) else JK f
theorem Hr:IntrOK Tryd.prog JL:=intr_cons (plain_ok (sW fits (T:=zJ) ur M 1) 56) (plain_steady (kX (T:=zJ) ur M 1) 56) Hq
noncomputable def bz:nX:={aU:=cO,intr:=JL,pure:=OL}
noncomputable def cP:CallF:=iO Tryd.prog bz M
theorem LW:CallOK Tryd.prog cP:=Fw fits (T:=bz) Hr
theorem Ss:Nv cP M:=fun args h=>k8 (T:=bz) rfl
theorem Su:Nw cP M:=fun args h=>k8 (T:=bz) rfl
theorem Wl:Td cP M:=by
 intro id i n cs h h1 h2 h3 h4 h5
 refine BU (T:=bz) rfl ?_
 obtain⟨r,h',hb,rfl,rfl⟩:=Bt (cf:=eM Tryd.prog zJ M 0) (cs:=cs) h1
 have:eM Tryd.prog zJ M 1 56 [.ptr id 0] h'=some (.rs i 0 n 1,h'):=hb
 simp only [this,Xr,plainA,h2]
theorem Wm:Ta cP M:=fun args h=>k8 (T:=bz) rfl
theorem Wn:Tb cP M:=fun args h=>k8 (T:=bz) rfl
end Go.Proofs.YtmekcfdllhphlaaDoor
namespace Go.Proofs.YtmekcfdllhphlaaDoor
open Go Go.R
open Go.IntKind (i64 u64 u8 u32)
theorem Eb:(bc Tryd.prog cO (eM Tryd.prog bz M 98) M 13 [] bL).map (fun x=>x.1)=some (.bool true):=by kernel_rfl
theorem Wo:S9 cP M:=by
 intro r H h xs hx
 have H:some true=some r:=H
 cases H
 obtain⟨⟨x,h'⟩,hb,e⟩:=Xt.1 Eb
 dsimp only at e
 subst e
 obtain⟨l,h1,h2⟩:=kE (P:=Tryd.prog) cO M 13 [] bL _ _ hb
 have hb:=h2 cP fun e he=>kF.2 ⟨_,h1 e he⟩
 exact bB (T:=bz) (deep:=bb) rfl rfl bf hx ⟨_,_,hb,b9 (au)⟩
end Go.Proofs.YtmekcfdllhphlaaDoor
namespace Go.Proofs.YtmekcfdllhphlaaDoor
open Go Go.R
open Go.IntKind (i64 u64 u8 u32)
theorem Wp:Uu cP M:=by
 intro l0 r H h xs hx
 exact bB (T:=bz) (deep:=bb) rfl rfl bf hx (qI (cf:=cP) (m:=M) (aU:=cO) rfl  l0 bL [] aV H)
theorem Wq:TK cP M:=by
 intro b0 r H h xs hx
 exact bB (T:=bz) (deep:=bb) rfl rfl bf hx (rS (cf:=cP) (m:=M) (aU:=cO) rfl  b0 bL [] aV H)
theorem Wr:TM cP M:=by
 intro n0 r H h xs hx
 exact bB (T:=bz) (deep:=bb) rfl rfl bf hx (pg (cf:=cP) (m:=M) (aU:=cO) rfl  n0 bL [] aV H)
theorem Ws:TO cP M:=by
 intro a0 b0 r H h xs hx
 exact bB (T:=bz) (deep:=bb) rfl rfl bf hx (qu (cf:=cP) (m:=M) (aU:=cO) rfl  a0 b0 bL [] aV H)
theorem Uy:Q9 cP M:=by
 intro b0 r H h xs hx
 exact bB (T:=bz) (deep:=bb) rfl rfl bf hx (pe (cf:=cP) (m:=M) (aU:=cO) rfl Wq b0 bL [] aV H)
theorem Wt:To cP M:=by
 intro s0 f0 r H h jg dr aL gI gN xs hx
 exact oQ (T:=bz) rfl rfl hx (xh (cf:=cP) (m:=M) (aU:=cO) rfl  s0 f0 h [] dr aL  gI gN (mI jg) H)
theorem Wu:Tm cP M:=by
 intro s0 f0 r H h jg dr aL gI gN xs hx
 exact oQ (T:=bz) rfl rfl hx (xg (cf:=cP) (m:=M) (aU:=cO) rfl  s0 f0 h [] dr aL  gI gN (mI jg) H)
theorem Sv:Mi cP M:=by
 intro w0 n0 r H h L  bR b5 o  xs hx
 obtain⟨r',h',hb,dt,rfl,ho⟩:=tT (cf:=cP) (m:=M) (aU:=cO) rfl Ss w0 n0 h L bR b5  o H
 exact⟨dt,h',jL (T:=bz) rfl rfl hx hb,ho⟩
theorem Uz:O8 cP M:=by
 intro r0 r H h L  aA o  xs hx
 obtain⟨r',h',hb,rfl,ho⟩:=xz (cf:=cP) (m:=M) (aU:=cO) rfl  r0 h L aA  o H
 exact⟨h',jL (T:=bz) rfl rfl hx hb,ho⟩
theorem UA:∀kk,O7 cP M kk
 | 0=>by
  intro i0 x0 x1 x2 x3 r H h L  bQ ep dL dA eC dR dH o  xs hx
  cases H
 | kk+1=>by
  intro i0 x0 x1 x2 x3 r H h L  bQ ep dL dA eC dR dH o  xs hx
  obtain⟨r',h',hb,lD,rfl,ho⟩:=pc (cf:=cP) (m:=M) (aU:=cO) rfl  i0 x0 x1 x2 x3 h L bQ ep dL dA eC dR dH  (UA kk) o H
  exact⟨lD,h',jL (T:=bz) rfl rfl hx hb,ho⟩
theorem Wv:TE cP M:=by
 intro w0 s0 r H h L  bR b5 o  xs hx
 obtain⟨r',h',hb,dt,rfl,ho⟩:=xA (cf:=cP) (m:=M) (aU:=cO) rfl Sv Su w0 s0 h L bR b5  o H
 exact⟨dt,h',jL (T:=bz) rfl rfl hx hb,ho⟩
theorem Ww:T4 cP M:=by
 intro l0 gz r H h xs hx
 exact bB (T:=bz) (deep:=bb) rfl rfl bf hx (nP (cf:=cP) (m:=M) (aU:=cO) rfl  l0 gz bL [] aV H)
theorem Wx:Tg cP M:=by
 intro a0 x0 r H h L ez bQ o fQ
 exact oQ (T:=bz) rfl rfl (an (aP (bE)) (an (rfl) (bo))) (qi (cf:=cP) (m:=M) (aU:=cO) rfl  a0 x0 h L  fQ o H)
theorem Wy:Th cP M:=by
 intro s0 r H h xs hx
 exact bB (T:=bz) (deep:=bb) rfl rfl bf hx (rI (cf:=cP) (m:=M) (aU:=cO) rfl  s0 bL [] aV H)
theorem Wz:Tw cP M:=by
 intro fR r H h xs hx
 exact bB (T:=bz) (deep:=bb) rfl rfl bf hx (rQ (cf:=cP) (m:=M) (aU:=cO) rfl  fR bL [] aV H)
theorem Sw:IJ cP M:=by
 intro n0 dB r H h xs hx
 exact bB (T:=bz) (deep:=bb) rfl rfl bf hx (qw (cf:=cP) (m:=M) (aU:=cO) rfl  n0 dB bL [] aV H)
theorem OM:DZ cP M:=by
 intro a0 b0 r H h xs hx
 exact bB (T:=bz) (deep:=bb) rfl rfl bf hx (qy (cf:=cP) (m:=M) (aU:=cO) rfl  a0 b0 bL [] aV H)
theorem ON:AZ cP M:=by
 intro a0 b0 bn r H h xs hx
 exact bB (T:=bz) (deep:=bb) rfl rfl bf hx (mR (cf:=cP) (m:=M) (aU:=cO) rfl  a0 b0 bn bL [] aV H)
theorem Sx:NA cP M:=by
 intro s0 f0 r H h jg dr aL gI gN xs hx
 exact oQ (T:=bz) rfl rfl hx (xf (cf:=cP) (m:=M) (aU:=cO) rfl  s0 f0 h [] dr aL  gI gN (mI jg) H)
theorem Sy:NO cP M:=by
 intro x0 r H h xs hx
 exact bB (T:=bz) (deep:=bb) rfl rfl bf hx (nL (cf:=cP) (m:=M) (aU:=cO) rfl  x0 bL [] aV H)
theorem Sz:NP cP M:=by
 intro x0 r H h xs hx
 exact bB (T:=bz) (deep:=bb) rfl rfl bf hx (lH (cf:=cP) (m:=M) (aU:=cO) rfl  x0 bL [] aV H)
theorem SB:LB cP M:=by
 intro c0 r H h xs hx
 exact bB (T:=bz) (deep:=bb) rfl rfl bf hx (pt (cf:=cP) (m:=M) (aU:=cO) rfl  c0 bL [] aV H)
theorem SC:KO cP M:=by
 intro c0 r H h xs hx
 exact bB (T:=bz) (deep:=bb) rfl rfl bf hx (qf (cf:=cP) (m:=M) (aU:=cO) rfl  c0 bL [] aV H)
theorem SD:KS cP M:=by
 intro ao a0 b0 aM r H h L cu aA o rf fA DN AG xs hx
 have hn0:cu=ao.length:=di (E:=aa) o (q:=0) rfl
 subst hn0
 obtain⟨r',h',hb,rfl,ho⟩:=mM (cf:=cP) (m:=M) (aU:=cO) rfl  ao a0 b0 aM h L aA rf fA  DN AG o H
 exact⟨h',jL (T:=bz) rfl rfl hx hb,ho⟩
theorem SE:KM cP M:=by
 intro ao a0 b0 n0 aM r H h L cu aA o dY aW gn gV xs hx
 have hn0:cu=ao.length:=di (E:=aa) o (q:=0) rfl
 subst hn0
 obtain⟨r',h',hb,rfl,ho⟩:=rD (cf:=cP) (m:=M) (aU:=cO) rfl  ao a0 b0 n0 aM h L aA dY aW  gn gV o H
 exact⟨h',jL (T:=bz) rfl rfl hx hb,ho⟩
theorem WA:Tp cP M:=by
 intro s0 f0 r H h jg dr aL gI gN xs hx
 exact oQ (T:=bz) rfl rfl hx (rK (cf:=cP) (m:=M) (aU:=cO) rfl Wt s0 f0 h [] dr aL  gI gN (mI jg) H)
theorem UB:Qu cP M:=by
 intro s0 f0 r H h jg dr aL gI gN xs hx
 exact oQ (T:=bz) rfl rfl hx (rJ (cf:=cP) (m:=M) (aU:=cO) rfl Wu s0 f0 h [] dr aL  gI gN (mI jg) H)
theorem SF:Lq cP M:=by
 intro r0 r H h L  aA o  xs hx
 obtain⟨r',h',hb,rfl,ho⟩:=tU (cf:=cP) (m:=M) (aU:=cO) rfl Uz r0 h L aA  o H
 exact⟨h',jL (T:=bz) rfl rfl hx hb,ho⟩
theorem WB:O9 cP M:=by
 intro w0 n0 r H h L  bR b5 o  xs hx
 obtain⟨r',h',hb,dt,rfl,ho⟩:=xB (cf:=cP) (m:=M) (aU:=cO) rfl Ss Sv Wv w0 n0 h L bR b5  o H
 exact⟨dt,h',jL (T:=bz) rfl rfl hx hb,ho⟩
theorem WC:TF cP M:=by
 intro r0 r H h L  aA o  xs hx
 obtain⟨r',h',hb,rfl,ho⟩:=xC (cf:=cP) (m:=M) (aU:=cO) rfl SF r0 h L aA  o H
 exact⟨h',jL (T:=bz) rfl rfl hx hb,ho⟩
theorem WD:Tf cP M:=by
 intro s0 f0 r H h jg dr aL gI gN xs hx
 exact oQ (T:=bz) rfl rfl hx (rH (cf:=cP) (m:=M) (aU:=cO) rfl Sx s0 f0 h [] dr aL  gI gN (mI jg) H)
theorem WE:Tv cP M:=by
 intro x0 y0 r H h xs hx
 exact bB (T:=bz) (deep:=bb) rfl rfl bf hx (me (cf:=cP) (m:=M) (aU:=cO) rfl Sy x0 y0 bL [] aV H)
theorem WG:Tx cP M:=by
 intro x0 y0 r H h xs hx
 exact bB (T:=bz) (deep:=bb) rfl rfl bf hx (kK (cf:=cP) (m:=M) (aU:=cO) rfl Sz x0 y0 bL [] aV H)
theorem WH:Ua cP M:=by
 intro s0 r H h xs hx
 exact bB (T:=bz) (deep:=bb) rfl rfl bf hx (r6 (cf:=cP) (m:=M) (aU:=cO) rfl SB s0 bL [] aV H)
theorem SG:IK cP M:=by
 intro l0 dX n0 bn r H h xs hx
 exact bB (T:=bz) (deep:=bb) rfl rfl bf hx (rZ (cf:=cP) (m:=M) (aU:=cO) rfl OM ON l0 dX n0 bn bL [] aV H)
theorem SH:Ny cP M:=by
 intro s0 kj nh r H h xs hx
 exact bB (T:=bz) (deep:=bb) rfl rfl bf hx (tB (cf:=cP) (m:=M) (aU:=cO) rfl SC s0 kj nh bL [] aV H)
theorem SI:Nx cP M:=by
 intro ao a0 m0 b0 aM r H h L cu aA o dY aW gn gV xs hx
 have hn0:cu=ao.length:=di (E:=aa) o (q:=0) rfl
 subst hn0
 obtain⟨r',h',hb,rfl,ho⟩:=xd (cf:=cP) (m:=M) (aU:=cO) rfl SE ao a0 m0 b0 aM h L aA dY aW  gn gV o H
 exact⟨h',jL (T:=bz) rfl rfl hx hb,ho⟩
theorem WI:TN cP M:=by
 intro t0 r H h xs hx
 exact bB (T:=bz) (deep:=bb) rfl rfl bf hx (ph (cf:=cP) (m:=M) (aU:=cO) rfl UB Wr t0 bL [] aV H)
theorem WJ:TL cP M:=by
 intro a6 r H h xs hx
 exact bB (T:=bz) (deep:=bb) rfl rfl bf hx (pf (cf:=cP) (m:=M) (aU:=cO) rfl Uy Ss Sv WB Wl a6 bL [] aV H)
theorem WK:Pa cP M:=by
 intro r0 r H h L  aA o  xs hx
 obtain⟨r',h',hb,rfl,ho⟩:=xD (cf:=cP) (m:=M) (aU:=cO) rfl SF Uz WC r0 h L aA  o H
 exact⟨h',jL (T:=bz) rfl rfl hx hb,ho⟩
theorem UC:O4 cP M:=by
 intro a0 b0 r H h xs hx
 exact bB (T:=bz) (deep:=bb) rfl rfl bf hx (mf (cf:=cP) (m:=M) (aU:=cO) rfl WE Wz WG a0 b0 bL [] aV H)
theorem WL:Ub cP M:=by
 intro s0 r H h xs hx
 exact bB (T:=bz) (deep:=bb) rfl rfl bf hx (pv (cf:=cP) (m:=M) (aU:=cO) rfl WH s0 bL [] aV H)
theorem WM:TU cP M:=by
 intro l0 r H h xs hx
 exact bB (T:=bz) (deep:=bb) rfl rfl bf hx (nO (cf:=cP) (m:=M) (aU:=cO) rfl Sw SG OM ON l0 bL [] aV H)
theorem WN:Te cP M:=by
 intro s0 r H h xs hx
 exact bB (T:=bz) (deep:=bb) rfl rfl bf hx (tC (cf:=cP) (m:=M) (aU:=cO) rfl SH s0 bL [] aV H)
theorem WO:Ty cP M:=by
 intro i0 j0 x0 r H h L ez bQ o fQ
 exact oQ (T:=bz) rfl rfl (an (aP (bE)) (an (aP (bE)) (an (rfl) (bo)))) (mO (cf:=cP) (m:=M) (aU:=cO) rfl UC i0 j0 x0 h L  fQ o H)
theorem OO:∀kk,uR cP M kk
 | 0=>by
  intro ao a0 m0 b0 aM r H h L cu aA o dY aW gn gV xs hx
  cases H
 | kk+1=>by
  intro ao a0 m0 b0 aM r H h L cu aA o dY aW gn gV xs hx
  have hn0:cu=ao.length:=di (E:=aa) o (q:=0) rfl
  subst hn0
  obtain⟨r',h',hb,rfl,ho⟩:=tI (cf:=cP) (m:=M) (aU:=cO) rfl SI ao a0 m0 b0 aM h L aA dY aW  (OO kk) gn gV o H
  exact⟨h',jL (T:=bz) rfl rfl hx hb,ho⟩
theorem WQ:RA cP M:=by
 intro n0 ay r H h xs hx
 exact bB (T:=bz) (deep:=bb) rfl rfl bf hx (qE (cf:=cP) (m:=M) (aU:=cO) rfl WL n0 ay bL [] aV H)
theorem WR:Ud cP M:=by
 intro l0 gz r H h xs hx
 exact j4 (T:=bz) (deep:=bb) rfl rfl bf hx (qG (cf:=cP) (m:=M) (aU:=cO) rfl Ww WM l0 gz bL [] aV H)
theorem WS:Tk cP M:=by
 intro n0 mb r H h xs hx
 exact bB (T:=bz) (deep:=bb) rfl rfl bf hx (tE (cf:=cP) (m:=M) (aU:=cO) rfl WN WD Wx Wy n0 mb bL [] aV H)
theorem SJ:NL cP M:=by
 intro ao n0 aM r H h L cu aA o kJ dc mN rO xs hx
 have hn0:cu=ao.length:=di (E:=aa) o (q:=0) rfl
 subst hn0
 obtain⟨r',h',hb,rfl,ho⟩:=xk (cf:=cP) (m:=M) (aU:=cO) rfl SD (OO _) ao n0 aM h L aA kJ dc  mN rO o H
 exact⟨h',jL (T:=bz) rfl rfl hx hb,ho⟩
theorem WT:Uc cP M:=by
 intro t0 r H h xs hx
 exact bB (T:=bz) (deep:=bb) rfl rfl bf hx (qF (cf:=cP) (m:=M) (aU:=cO) rfl WQ t0 bL [] aV H)
theorem WU:RK cP M:=by
 intro t0 r H h xs hx
 exact j4 (T:=bz) (deep:=bb) rfl rfl bf hx (qH (cf:=cP) (m:=M) (aU:=cO) rfl WT WR t0 bL [] aV H)
theorem WV:Tt cP M:=by
 intro n0 x0 r H h L ez bQ o fQ
 exact oQ (T:=bz) rfl rfl (an (aP (nE (cG (bE) (cG (bE) (cG (w7) (cG (iN (E:=aa)) (gL))))))) (an (rfl) (bo))) (oZ (cf:=cP) (m:=M) (aU:=cO) rfl WS n0 x0 h L  fQ o H)
theorem WW:Ts cP M:=by
 intro x0 aM r H h L FY aA o dr aL gI gN xs hx
 have hn0:FY=x0.length:=di (E:=aa) o (q:=0) rfl
 subst hn0
 obtain⟨r',h',hb,rfl,ho⟩:=oY (cf:=cP) (m:=M) (aU:=cO) rfl SJ x0 aM h L aA dr aL  gI gN o H
 exact⟨h',jL (T:=bz) rfl rfl hx hb,ho⟩
theorem WX:Uv cP M:=by
 intro l0 r H h xs hx
 exact bB (T:=bz) (deep:=bb) rfl rfl bf hx (qJ (cf:=cP) (m:=M) (aU:=cO) rfl Wp WU l0 bL [] aV H)
theorem WY:Tu cP M:=by
 intro t0 r H h xs hx
 exact bB (T:=bz) (deep:=bb) rfl rfl bf hx (rP (cf:=cP) (m:=M) (aU:=cO) rfl UB WV t0 bL [] aV H)
theorem WZ:Tz cP M:=by
 intro ay r H h xs hx
 exact bB (T:=bz) (deep:=bb) rfl rfl bf hx (pb (cf:=cP) (m:=M) (aU:=cO) rfl UC WW WO ay bL [] aV H)
theorem W2:TB cP M:=by
 intro t0 r H h xs hx
 exact j4 (T:=bz) (deep:=bb) rfl rfl bf hx (rR (cf:=cP) (m:=M) (aU:=cO) rfl WZ (UA _) t0 bL [] aV H)
theorem UD:Pb cP M:=by
 intro t0 r H h xs hx
 exact j4 (T:=bz) (deep:=bb) rfl rfl bf hx (rV (cf:=cP) (m:=M) (aU:=cO) rfl WY W2 t0 bL [] aV H)
theorem UE:Rh cP M:=by
 intro a6 r H h xs hx
 exact j4 (T:=bz) (deep:=bb) rfl rfl bf hx (rW (cf:=cP) (m:=M) (aU:=cO) rfl UD WA WI WJ a6 bL [] aV H)
theorem W3:Rn cP M:=by
 intro t0 r H h xs hx
 exact j4 (T:=bz) (deep:=bb) rfl rfl bf hx (pj (cf:=cP) (m:=M) (aU:=cO) rfl UD t0 bL [] aV H)
theorem W4:TP cP M:=by
 intro b0 r H h xs hx
 exact j4 (T:=bz) (deep:=bb) rfl rfl bf hx (rY (cf:=cP) (m:=M) (aU:=cO) rfl UE Ws Uy SF WK b0 bL [] aV H)
theorem W5:Uw cP M:=by
 intro b0 r H h xs hx
 exact bB (T:=bz) (deep:=bb) rfl rfl bf hx (qK (cf:=cP) (m:=M) (aU:=cO) rfl W4 Wm Wn b0 bL [] aV H)
theorem W6:Wh cP M:=by
 intro l0 r H h xs hx
 exact bB (T:=bz) (deep:=bb) rfl rfl bf hx (ll (cf:=cP) (m:=M) (aU:=cO) rfl Wo UE W3 WX W5 l0 bL [] aV H)
end Go.Proofs.YtmekcfdllhphlaaDoor
namespace Go.Proofs.YtmekcfdllhphlaaDoor
open Go Go.R Go.Proofs Go.RowKit Go.ChangeShapes Go.WideShapes
theorem zK {P:Program}{m:Nat}{t:TypeId}{uH:List AV}(h:oC P m [t] uH):∃xs,uH=[oB P t xs]∧Fits P m t xs:=by
 cases uH with
 | nil=>exact h.elim
 | cons x uH=>
  obtain⟨⟨xs,hx,hf⟩,h⟩:=h
  cases uH with
  | nil=>exact⟨xs,by rw [hx],hf⟩
  | cons _ _=>exact h.elim
theorem all_true (uH:List AV)(h:oC Tryd.prog 6 Tryd.f10.params.toList uH):∃cf h',CallOK Tryd.prog cf∧cf 10 uH bL=some (.bool true,h'):=by
 rw [show Tryd.f10.params.toList=[22] from by rw [Tryd.params10]] at h
 obtain⟨xs,rfl,hx⟩:=zK h
 obtain⟨x,l,rfl,hf,hl⟩:=Ea hx
 refine⟨cP,bL,LW,?_⟩
 have e1:oB Tryd.prog 22 [x]=x:=by unfold oB; rw [Tryd.underlying22]; rfl
 rw [e1]
 exact W6 l true (Bq (by decide) (fun t ht=>(hl t ht).1) fun t ht=>(hl t ht).2) bL [x] (hf bL)
noncomputable def uu : List (String × DataW Unit) := [("bytes.ErrTooLarge", Rows.laid_bytes_ErrTooLarge)]
theorem own:ownKnob Tryd.prog.godebug=none:=by kernel_rfl
noncomputable def we (os:Os):World:=World.laidAll Tryd.prog os uu
theorem uZ (os:Os)(args:Array Value):laidMetH Tryd.prog uu ((we os).forCall (fun _ _=>0) ⟨#[],args,[]⟩).memory:=by
 refine laidMetH_of_parts ?_ (by kernel_rfl)
 rw [show (uu.filter fun x=>x.2.handleName?.isNone)=uu from by kernel_rfl]
 exact laidMet_laidAll args (by kernel_rfl) (by kernel_rfl)
theorem nQ (os:Os)(started:os.Started)(H:Type)(enc:TypeId × Value→H) :
  ReturnsInHanded {} Tryd.checked os 10 .any (fun w args=>(Rows.pickleOpensSpec.pre enc Tryd.prog Tryd.f10 [] false w args∧laidMetH Tryd.prog uu w)∧sizedMet enc Tryd.prog Tryd.f10 (OpenSpec.ofChange Rows.pickleOpensSpec) false w args)
   (Rows.pickleOpensSpec.post enc Tryd.prog Tryd.f10 false true false false):=by
 refine returnsInHanded_of_change_and (C:=Tryd.checked) (X:=fun w _=>laidMetH Tryd.prog uu w) (fun _ _ _ hh h=>h.of_heap hh) own started (by kernel_rfl) Tryd.func10
  (ChangeSpec.witness_at (enc:=enc) (C:=Tryd.checked) (os:=os) (X:=fun w _=>laidMetH Tryd.prog uu w) false (we os) #[.slice none 0 0] 8 (World.laidAll_os _ _ _) (by kernel_rfl) (by kernel_rfl) (by kernel_rfl) (by kernel_rfl) (by kernel_rfl) (uZ os _)) ?_
 intro W base args ds gs before dv hW _ _ hL _
 exact uI (cf:=fun _ _ _=>none) (P:=Tryd.prog) (m:=6) (tb:=4) (by kernel_rfl)
  (by rw [show Tryd.f10.params.toList=[22] from by rw [Tryd.params10]]; intro t ht; simp at ht; rcases ht with rfl; exact⟨by kernel_rfl,of_decide_eq_true (by kernel_rfl)⟩)
  (by rw [show Tryd.f10.params.toList=[22] from by rw [Tryd.params10]]; intro t ht; simp at ht; rcases ht with rfl; kernel_rfl) rfl rfl Tryd.underlying4
  (fun ds J0=>by
   have:ds.length=1:=by rw [J0]; rfl
   match ds,this with
   | [d],_=>rfl) all_true dv hW
theorem r7:Rows.PickleOpensSaid:=
 OpenClaim.holds_of_wide 10 Tryd.f10 rfl rfl rfl rfl rfl rfl rfl ⟨rfl,rfl,rfl,rfl,rfl⟩ rfl rfl rfl rfl rfl (by kernel_rfl) Tryd.func10 (by kernel_rfl)
  (of_decide_eq_true (by kernel_rfl)) (by unfold Func.isWrapper; first | (rw [if_pos (by decide +kernel)]; kernel_rfl) | (rw [if_neg (by decide +kernel)]; exact⟨rfl,rfl⟩))
  (fun os started H enc _=>nQ os started H enc)
theorem pickleOpens_holds:Rows.PickleOpensCardSaid:=
 Claim7.holds_tied_plain_at .later [] [.sentinel] true (true, "5c7c24f3f163267658839de8cc9f4545a02ccfedb2900f3b8e61d73ca287aaae") false
  r7 (fun _ h=>by cases h) (by kernel_rfl) (fun _ h=>by cases h) pickleOpens_row_tie rfl ⟨rfl,rfl⟩ (by kernel_rfl) rfl
  (fun f fn hf Ki=>by
   obtain rfl : f = 10 := XP ((show Tryd.prog.funcNamed "leatwork/leatworklaw20.PickleOpens" = some 10 by kernel_rfl).symm.trans hf) |>.symm
   obtain rfl:fn=Tryd.f10:=(XP (Tryd.func10.symm.trans Ki)).symm
   exact⟨by kernel_rfl,fun j t ht=>by
    rw [Tryd.params10] at ht
    have h3:t=22:=by
     rcases j with _ | j
     ·simpa using ht.symm
     ·simp at ht
    rcases h3 with rfl
    exact (show Tryd.prog.wantsStandIn 22=false by kernel_rfl)⟩)
  (by kernel_rfl)
end Go.Proofs.YtmekcfdllhphlaaDoor
