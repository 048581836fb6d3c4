/- Proved: PickleBack returns true for every input, over the card of its one listed variable; no condition. -/
import Derived.Test.YtmekcfdllhphlaaDoorK13
import Derived.Test.YtmekcfdllhphlaaDoorChecked
import Derived.Test.YtmekcfdllhphlaaDoorRows
import Derived.Test.YtmekcfdllhphlaaDoorCards
import Derived.Test.YtmekcfdllhphlaaDoorTie
import Derived.ChangeSame
import Derived.ChangeVars
import Derived.JoinedOf
import Derived.LaidLaws
import Derived.LaidHandle
import Derived.Lay
import Derived.Stop.Joined
import Derived.SevenTiedAt
set_option linter.unusedVariables false
set_option linter.unusedSimpArgs false
set_option maxRecDepth 100000
open List renaming drop_eq_getElem_cons → WZ, map_cons → Xc, cons_append → Xe, drop_eq_nil_of_le → Xk, drop_zero → Xl, mem_cons → Xs, getElem_mem → XJ
open List.cons renaming inj → Yl
open Option renaming bind_some → WL, bind_eq_some_iff → WM, map_eq_some_iff → WN
open Option.some renaming injEq → WO, inj → Xj
open Or renaming inr → XH, inl → X6
namespace Go.Proofs.YtmekcfdllhphlaaDoor
open Go Go.R
open Go.IntKind (i64 u64 u8 u32)
def CD:cg:=gk [0,1,2,3,4] [2,3] [19,15] [] []
def dH.f (m:Nat)(m0:ae)(n0:ae):Option (Bool):=(cV.f m m0 n0).bind fun x0=>if (x0==(0:Int))=true then ((bE.f m m0.args n0.args).bind fun x1=>some x1) else (some false)
def dH.fin (L:Mem)(r:Bool)(s:St):Prop:=∃av,aI Tryd.prog (s.open CD) Tryd.f64.results.toList=some av∧fB s.h av (.bool r)
def S64 (cf:CallF)(m:Nat):Prop:=∀(m0:ae) (n0:ae) (r:Bool),dH.f m m0 n0=some r→∀h xs,ej eL h xs [.agg [.int .i64 m0.kind,.int .i64 m0.int,.str m0.label,aa.fz m0.args],.agg [.int .i64 n0.kind,.int .i64 n0.int,.str n0.label,aa.fz n0.args]]→cf 64 xs h=some (.bool r,h)
section
variable {cf:CallF}{m:Nat}
theorem pH {aS:FuncId→cg}(ha:aS 64=CD)(yU:Nb cf m)(Ry:TX cf m)(m0:ae)(n0:ae)(h:AHeap)(L:Mem)  (o:Has h (L)){out:Bool}(H:dH.f m m0 n0=some out) :
  ∃r h',a7 Tryd.prog aS cf m 64 [.agg [.int .i64 m0.kind,.int .i64 m0.int,.str m0.label,aa.fz m0.args],.agg [.int .i64 n0.kind,.int .i64 n0.int,.str n0.label,aa.fz n0.args]] h=some (r,h')∧fB h' r (.bool out):=by
 refine ak (fn:=Tryd.f64) ha Tryd.func64 (by kernel_rfl) (by kernel_rfl) ?_
 refine aF (Q:=fun s=>dH.fin L out s) (fun _ _ h=>h) ?_
 have H:_=some out:=H
 unfold dH.f at H
 show de _ cf CD m _ ⟨.agg [.int .i64 m0.kind,.int .i64 m0.int,.str m0.label,aa.fz m0.args] :: .agg [.int .i64 n0.kind,.int .i64 n0.int,.str n0.label,aa.fz n0.args]::jW [],[none,none],h⟩ _
 refine q1 <| qq ?_
 obtain⟨x0,e0,H⟩:=aJ H
 rcases dw H with⟨c0,H⟩| ⟨c0,H⟩
 ·obtain⟨x1,e1,H⟩:=aJ H
  obtain rfl:=oi H
  exact qr [.a 2 (yU _ _ _ e0 h _ (ga (ab (bQ (ab (aE) (ab (aE) (ab (bK) (ab (bS (E:=aa)) (ax)))))) (ab (bQ (ab (aE) (ab (aE) (ab (bK) (ab (bS (E:=aa)) (ax)))))) (ax))))),.b 4 c0,.a 9 (Ry _ _ _ e1 h _ (ga (ab (bS (E:=aa)) (ab (bS (E:=aa)) (ax)))))] <| qt <| ⟨.inl rfl,bZ (.bool x1) h (bX (aj))⟩
 ·obtain rfl:=oi H
  exact qr [.a 2 (yU _ _ _ e0 h _ (ga (ab (bQ (ab (aE) (ab (aE) (ab (bK) (ab (bS (E:=aa)) (ax)))))) (ab (bQ (ab (aE) (ab (aE) (ab (bK) (ab (bS (E:=aa)) (ax)))))) (ax))))),.b 4 c0] <| qt <| ⟨.inl rfl,bZ (.bool false) h (bX (aj))⟩
end
end Go.Proofs.YtmekcfdllhphlaaDoor
namespace Go.Proofs.YtmekcfdllhphlaaDoor
open Go Go.R
open Go.IntKind (i64 u64 u8 u32)
def CE:cg:=gk [0,1,2,3,4] [2,3] [19,15] [] []
def gH.f (m:Nat)(a0:an)(b0:an):Option (Bool):=(aC.f m a0.nodes b0.nodes (fun y0 y1=>dH.f m y0 y1)).bind fun x0=>some x0
def gH.fin (L:Mem)(r:Bool)(s:St):Prop:=∃av,aI Tryd.prog (s.open CE) Tryd.f46.results.toList=some av∧fB s.h av (.bool r)
def TY (cf:CallF)(m:Nat):Prop:=∀(a0:an) (b0:an) (r:Bool),gH.f m a0 b0=some r→∀h xs,ej eL h xs [.agg [af.fz a0.nodes,.int .i64 a0.root],.agg [af.fz b0.nodes,.int .i64 b0.root]]→cf 46 xs h=some (.bool r,h)
section
variable {cf:CallF}{m:Nat}
theorem rY {aS:FuncId→cg}(ha:aS 46=CE)(Rz:TW cf m)(RA:S64 cf m)(a0:an)(b0:an)(h:AHeap)(L:Mem)  (o:Has h (L)){out:Bool}(H:gH.f m a0 b0=some out) :
  ∃r h',a7 Tryd.prog aS cf m 46 [.agg [af.fz a0.nodes,.int .i64 a0.root],.agg [af.fz b0.nodes,.int .i64 b0.root]] h=some (r,h')∧fB h' r (.bool out):=by
 refine ak (fn:=Tryd.f46) ha Tryd.func46 (by kernel_rfl) (by kernel_rfl) ?_
 refine aF (Q:=fun s=>gH.fin L out s) (fun _ _ h=>h) ?_
 have H:_=some out:=H
 unfold gH.f at H
 show de _ cf CE m _ ⟨.agg [af.fz a0.nodes,.int .i64 a0.root] :: .agg [af.fz b0.nodes,.int .i64 b0.root]::jW [],[none,none],h⟩ _
 refine q1 <| qq ?_
 obtain⟨x0,e0,H⟩:=aJ H
 obtain rfl:=oi H
 exact qr [.a 4 (Rz _ _ _ _ e0 h (Has.pos o) 64 [] rfl (fun y0 y1 r hr=>RA y0 y1 r hr h _ (ga (ab (bQ (ab (aE) (ab (aE) (ab (bK) (ab (bS (E:=aa)) (ax)))))) (ab (bQ (ab (aE) (ab (aE) (ab (bK) (ab (bS (E:=aa)) (ax)))))) (ax))))) _ (ao (aO (gy (E:=af))) (ao (aO (gy (E:=af))) (ao ((rfl:ay (.fn 64 [])=_)) (bj)))))] <| qt <| ⟨.inl rfl,bZ (.bool x0) h (bX (aj))⟩
end
end Go.Proofs.YtmekcfdllhphlaaDoor
namespace Go.Proofs.YtmekcfdllhphlaaDoor
open Go Go.R
open Go.IntKind (i64 u64 u8 u32)
def CF:cg:=gk [0,1,2,3,4,5,13] [2,3] [115,51,79,79] [] []
def iu.f (m:Nat)(a0:an)(b0:an):Option (Bool × Int):=(ff.f m a0).bind fun x0=>if (!x0)=true then (some (false,(2:Int))) else ((ff.f m b0).bind fun x1=>if (!x1)=true then (some (false,(2:Int))) else ((cm.f m a0).bind fun x2=>(cm.f m b0).bind fun x3=>(gH.f m x2 x3).bind fun x4=>some (x4,(0:Int))))
def iu.fin (L:Mem)(r:Bool × Int)(s:St):Prop:=∃av,aI Tryd.prog (s.open CF) Tryd.f24.results.toList=some av∧fB s.h av (.tup [.bool r.1,.int .i64 r.2])
def RB (cf:CallF)(m:Nat):Prop:=∀(a0:an) (b0:an) (r:Bool × Int),iu.f m a0 b0=some r→∀h xs,ej eL h xs [.agg [af.fz a0.nodes,.int .i64 a0.root],.agg [af.fz b0.nodes,.int .i64 b0.root]]→cf 24 xs h=some (.tup [.bool r.1,.int .i64 r.2],h)
section
variable {cf:CallF}{m:Nat}
theorem uu {aS:FuncId→cg}(ha:aS 24=CF)(Ge:PZ cf m)(RC:TY cf m)(Il:Qk cf m)(a0:an)(b0:an)(h:AHeap)(L:Mem)  (o:Has h (L)){out:Bool × Int}(H:iu.f m a0 b0=some out) :
  ∃r h',a7 Tryd.prog aS cf m 24 [.agg [af.fz a0.nodes,.int .i64 a0.root],.agg [af.fz b0.nodes,.int .i64 b0.root]] h=some (r,h')∧fB h' r (.tup [.bool out.1,.int .i64 out.2]):=by
 refine ak (fn:=Tryd.f24) ha Tryd.func24 (by kernel_rfl) (by kernel_rfl) ?_
 refine aF (Q:=fun s=>iu.fin L out s) (fun _ _ h=>h) ?_
 have H:_=some out:=H
 unfold iu.f at H
 show de _ cf CF m _ ⟨.agg [af.fz a0.nodes,.int .i64 a0.root] :: .agg [af.fz b0.nodes,.int .i64 b0.root]::sf [],[none,none],h⟩ _
 refine q1 <| qq <| qq ?_
 obtain⟨x0,e0,H⟩:=aJ H
 rcases dw H with⟨c0,H⟩| ⟨c0,H⟩
 ·obtain rfl:=oi H
  exact qr [.a 1 (Ge _ _ e0 h _ (ga (ab (bQ (ab (bS (E:=af)) (ab (aE) (ax)))) (ax)))),.b 3 c0] <| pa <| qq <| q0 <| qt <| ⟨.inl rfl,bZ (.tup [.bool false,.int .i64 (2:Int)]) h (bX (Au (mO (aj) (mO (eu) (At)))))⟩
 ·obtain⟨x1,e1,H⟩:=aJ H
  refine qr [.a 1 (Ge _ _ e0 h _ (ga (ab (bQ (ab (bS (E:=af)) (ab (aE) (ax)))) (ax)))),.b 3 c0,.a 5 (Ge _ _ e1 h _ (ga (ab (bQ (ab (bS (E:=af)) (ab (aE) (ax)))) (ax))))] <| qc H (fun c2 H=>?_) (fun c2 H=>?_)
  ·obtain rfl:=oi H
   exact q1 <| qt <| ⟨.inl rfl,bZ (.tup [.bool false,.int .i64 (2:Int)]) h (bX (Au (mO (aj) (mO (eu) (At)))))⟩
  ·refine qk <| qq ?_
   obtain⟨x2,e2,H⟩:=aJ H
   obtain⟨x3,e3,H⟩:=aJ H
   obtain⟨x4,e4,H⟩:=aJ H
   obtain rfl:=oi H
   exact qr [.a 1 (Il _ _ e2 h _ (b5 (lh (b5 (gy (E:=af)) (b5 (bD) (fe)))) (fe))),.a 3 (Il _ _ e3 h _ (b5 (lh (b5 (gy (E:=af)) (b5 (bD) (fe)))) (fe))),.a 4 (RC _ _ _ e4 h _ (ga (ab (bQ (ab (bS (E:=af)) (ab (aE) (ax)))) (ab (bQ (ab (bS (E:=af)) (ab (aE) (ax)))) (ax)))))] <| qt <| ⟨.inl rfl,bZ (.tup [.bool x4,.int .i64 (0:Int)]) h (bX (Au (mO (aj) (mO (eu) (At)))))⟩
end
end Go.Proofs.YtmekcfdllhphlaaDoor
namespace Go.Proofs.YtmekcfdllhphlaaDoor
open Go Go.R
open Go.IntKind (i64 u64 u8 u32)
theorem vS {m:Nat}{L:List an}(h12:L.length≤12)(hl:∀t∈L,t.nodes.length≤8000):∀(f i n:Nat) (x),n≤300→i≤L.length→aQ.l0 m L f (n:Int) (i:Int)=some (.inr x)→n+((L.drop i).map fun t=>t.nodes.length).sum≤300
 | 0,i,n,x,_,_,H=>by simp [aQ.l0] at H
 | f+1,i,n,x,hn,hi,H=>by
  unfold aQ.l0 at H
  by_cases h:i<L.length
  ·have hb:=hl _ (XJ h)
   rw [if_pos (by simp only [decide_eq_true_eq]; omega),kS h,WL,aD (x:=(n:Int)+_) (by omega) (by omega)] at H
   split at H
   ·simp at H
   ·rename_i g
    simp only [decide_eq_true_eq] at g
    simp only [WM] at H
    obtain⟨o,_,H⟩:=H
    cases o with
    | inl r=>simp at H
    | inr k=>
     dsimp only at H
     rw [aD (x:=(i:Int)+1) (by omega) (by omega),show (i:Int)+1=((i+1:Nat):Int) by omega,show (n:Int)+(L[i].nodes.length:Int)=((n+L[i].nodes.length:Nat):Int) by omega] at H
     have:=vS h12 hl f (i+1) (n+L[i].nodes.length) x (by omega) (by omega) H
     rw [WZ h,Xc,List.sum_cons]; omega
  ·rw [Xk (by omega)]; simpa using hn
theorem zE {m:Nat}{x1:an × Int}(hl:x1.1.nodes.length≤8000):∀(f k:Nat),x1.1.nodes.length - k<f→k≤x1.1.nodes.length→
  ∃o,a8.l1 m x1 f (k:Int)=some o∧(o = .inl false∨(∃x,o = .inr x)∧(x1.1.nodes.drop k).any (fun n=>n.kind==4)=false)
 | 0,k,hf,_=>absurd hf (by omega)
 | f+1,k,hf,hk=>by
  unfold a8.l1
  by_cases h:k<x1.1.nodes.length
  ·rw [if_pos (by simp only [decide_eq_true_eq]; omega),kS h,WL,WZ h,List.any_cons]
   cases hb:x1.1.nodes[k].kind==(4:Int) with
   | true=>exact⟨_,rfl,.inl rfl⟩
   | false=>
    obtain⟨o,k1,k2⟩:=zE (m:=m) hl f (k+1) (by omega) (by omega)
    rw [if_neg (by simp),aD (by omega) (by omega),show (k:Int)+1=((k+1:Nat):Int) by omega,k1]
    exact⟨o,rfl,by simpa using k2⟩
  ·exact⟨.inr (k:Int),by rw [if_neg (by simp only [decide_eq_true_eq]; omega)],.inr ⟨⟨_,rfl⟩,by rw [Xk (by omega)]; rfl⟩⟩
theorem zF {m:Nat}(hm:2 ^ 41≤m){L:List an}(h8:L.length≤8)(h0:∀t∈L,Gl t):∀(f i:Nat),L.length - i<f→i≤L.length→
  ∃o,a8.l0 m L f (i:Int)=some o∧(o = .inl false∨(∃x,o = .inr x)∧∀t∈L.drop i,dQ t=true∧(lf m t).nodes.any (fun n=>n.kind==4)=false)
 | 0,i,hf,_=>absurd hf (by omega)
 | f+1,i,hf,hi=>by
  have rl:(2:Nat) ^ 41=2199023255552:=by decide
  unfold a8.l0
  by_cases h:i<L.length
  ·have uF:=XJ h
   obtain⟨s,e,k1,k2,k3,k4,k5⟩:=uo hm (h0 _ uF)
   rw [if_pos (by simp only [decide_eq_true_eq]; omega),kS h,WL,k2,WL]
   by_cases he:e=0
   ·subst he
    have hv:=k4.1 rfl
    have hs:=(sn hm hv (h0 _ uF)).ref
    rw [k2] at hs
    have hs:s=lf m L[i]:=by simpa using hs
    have AQ:=(k3 rfl).rq
    obtain⟨o,q1,q2⟩:=zE (m:=m) (x1:=(s,0)) AQ m 0 (by dsimp only; omega) (by omega)
    have q1:a8.l1 m (s,0) m 0=_:=q1
    rw [if_neg (by simp),q1,WL]
    rcases q2 with rfl | ⟨⟨x,rfl⟩,q3⟩
    ·exact⟨_,rfl,.inl rfl⟩
    ·dsimp only
     obtain⟨o,g1,g2⟩:=zF hm h8 h0 f (i+1) (by omega) (by omega)
     rw [aD (by omega) (by omega),show (i:Int)+1=((i+1:Nat):Int) by omega,g1]
     refine⟨o,rfl,g2.imp id fun g=>⟨g.1,fun t ht=>?_⟩⟩
     rw [WZ h] at ht
     rcases Xs.1 ht with rfl | ht
     ·rw [Xl,hs] at q3; exact⟨hv,q3⟩
     ·exact g.2 t ht
   ·rw [if_pos (by simpa using he)]
    exact⟨_,rfl,.inl rfl⟩
  ·exact⟨.inr (i:Int),by rw [if_neg (by simp only [decide_eq_true_eq]; omega)],.inr ⟨⟨_,rfl⟩,by rw [Xk (by omega)]; simp⟩⟩
theorem DS {m:Nat}(hm:2 ^ 63≤m){L:List an}(hl:∀t∈L,t.nodes.length<2 ^ 63)(h0:∀t∈L,Gl t):∃b,a8.f m L=some b∧(b=true→Bl m L):=by
 have rl:(2:Nat) ^ 41=2199023255552:=by decide
 have Hj:(2:Nat) ^ 63=9223372036854775808:=by decide
 obtain⟨b,k1,k2⟩:=Bm hm hl
 unfold a8.f
 rw [k1,WL]
 cases b with
 | true=>exact⟨false,rfl,fun h=>by cases h⟩
 | false=>
  rw [if_neg (by simp)]
  split
  ·exact⟨false,rfl,fun h=>by cases h⟩
  ·rename_i g
   simp only [decide_eq_true_eq] at g
   obtain⟨o,q1,q2⟩:=zF (m:=m) (by omega) (by omega) h0 m 0 (by omega) (by omega)
   have q1:a8.l0 m L m 0=_:=q1
   rw [q1,WL]
   rcases q2 with rfl | ⟨⟨x,rfl⟩,q3⟩
   ·exact⟨false,rfl,fun h=>by cases h⟩
   ·refine⟨true,rfl,fun _=>⟨by omega,fun t ht=>⟨(q3 t ht).1,h0 t ht⟩,fun t ht=>(q3 t ht).2,?_⟩⟩
    unfold aQ.f at k1
    split at k1
    ·simp at k1
    ·simp only [WM] at k1
     obtain⟨o,k1,k3⟩:=k1
     cases o with
     | inl r=>
      dsimp only at k3
      simp only [WO] at k3
      subst k3
      obtain⟨o,z1,z2⟩:=ur hm (k2 rfl) hl m 0 0 (by omega) (by omega)
      have z1:aQ.l0 m L m (0:Int) (0:Int)=_:=z1
      rw [k1] at z1
      cases z1
      simp at z2
     | inr x=>
      have:=vS (k2 rfl) (fun t ht=>(jb (q3 t ht).1).1.1) m 0 0 x (by omega) (by omega) k1
      simpa using this
theorem GW {m:Nat}{a b:List Int}(hl:a.length=b.length)(hs:a.length≤8000):∀(f i:Nat),a.length - i<f→i≤a.length→
  ∃o,bE.l0 m a b f (i:Int)=some o∧((∃x,o = .inr x)∧a.drop i=b.drop i∨o = .inl false∧a.drop i≠b.drop i)
 | 0,i,hf,_=>absurd hf (by omega)
 | f+1,i,hf,hi=>by
  unfold bE.l0
  by_cases h:i<a.length
  ·rw [if_pos (by simp only [decide_eq_true_eq]; omega),kS h,WL,kS (by omega),WL,WZ h,WZ (show i<b.length by omega)]
   by_cases e:a[i]=b[i]
   ·obtain⟨o,k1,k2⟩:=GW (m:=m) hl hs f (i+1) (by omega) (by omega)
    rw [if_neg (by simp [e]),aD (by omega) (by omega),show (i:Int)+1=((i+1:Nat):Int) by omega,k1,e]
    refine⟨o,rfl,?_⟩
    rcases k2 with⟨x,k⟩| ⟨x,k⟩
    ·exact .inl ⟨x,by rw [k]⟩
    ·exact .inr ⟨x,fun z=>k (Yl z).2⟩
   ·rw [if_pos (by simpa using e)]
    exact⟨_,rfl,.inr ⟨rfl,fun z=>e (Yl z).1⟩⟩
  ·refine⟨.inr (i:Int),by rw [if_neg (by simp only [decide_eq_true_eq]; omega)],.inl ⟨⟨_,rfl⟩,?_⟩⟩
   rw [Xk (by omega),Xk (by omega)]
theorem VF {m:Nat}{a b:List Int}(hs:a.length≤8000)(hm:8001≤m):∃x,bE.f m a b=some x∧(x=true↔a=b):=by
 unfold bE.f
 by_cases hl:a.length=b.length
 ·obtain⟨o,k1,k2⟩:=GW (m:=m) hl hs m 0 (by omega) (by omega)
  have k1:bE.l0 m a b m 0=_:=k1
  rw [if_neg (by rw [hl]; simp),k1,WL]
  rw [Xl,Xl] at k2
  rcases k2 with⟨⟨x,rfl⟩,k⟩| ⟨rfl,k⟩<;>exact⟨_,rfl,by simp [k]⟩
 ·have hi:¬(a.length:Int)=b.length:=by omega
  rw [if_pos (by simpa using hi)]
  exact⟨_,rfl,by simp; exact fun e=>hl (by rw [e])⟩
theorem VG {m:Nat}{a b:ae}(ha:AY a)(hb:AY b)(hm:8001≤m):∃x,dH.f m a b=some x∧(x=true↔a=b):=by
 have h8:=ha.args
 unfold dH.f
 rw [xg (by omega),WL]
 by_cases h:cT a b=0
 ·have A:=qA (l:=[a,b]) (i:=0) (j:=1) (fun n hn=>by
   rcases Xs.1 hn with rfl | hn
   ·exact ha
   ·simp at hn; subst hn; exact hb) (by simp) (by simp) h
  have A:Alike a b:=A
  obtain⟨x,k1,k2⟩:=VF (m:=m) (a:=a.args) (b:=b.args) (by omega) hm
  rw [if_pos (by simp [h]),k1]
  refine⟨x,rfl,k2.trans ⟨fun e=>?_,fun e=>by rw [e]⟩⟩
  obtain⟨k1,i1,l1,a1⟩:=a
  obtain⟨k2,i2,l2,a2⟩:=b
  obtain⟨e1,e2,e3,_⟩:=A
  dsimp only at e1 e2 e3 e
  subst e1 e2 e3 e
  rfl
 ·rw [if_neg (by simpa using h)]
  exact⟨_,rfl,by simp; exact fun e=>h (by rw [e]; exact (Alike.refl b).cT)⟩
theorem GX {m:Nat}{a b:List ae}(hl:a.length=b.length)(hs:a.length≤8000)(hm:8001≤m)(ha:∀n∈a,AY n)(hb:∀n∈b,AY n):∀(f i:Nat),a.length - i<f→i≤a.length→
  ∃o,aC.l0 m a b (fun y0 y1=>dH.f m y0 y1) f (i:Int)=some o∧((∃x,o = .inr x)∧a.drop i=b.drop i∨o = .inl false∧a.drop i≠b.drop i)
 | 0,i,hf,_=>absurd hf (by omega)
 | f+1,i,hf,hi=>by
  unfold aC.l0
  by_cases h:i<a.length
  ·obtain⟨x,e1,e⟩:=VG (ha _ (XJ h)) (hb _ (XJ (show i<b.length by omega))) hm
   rw [if_pos (by simp only [decide_eq_true_eq]; omega),kS h,WL,kS (by omega),WL,e1,WL,WZ h,WZ (show i<b.length by omega)]
   cases x with
   | true=>
    obtain⟨o,k1,k2⟩:=GX (m:=m) hl hs hm ha hb f (i+1) (by omega) (by omega)
    rw [if_neg (by simp),aD (by omega) (by omega),show (i:Int)+1=((i+1:Nat):Int) by omega,k1,e.1 rfl]
    refine⟨o,rfl,?_⟩
    rcases k2 with⟨x,k⟩| ⟨x,k⟩
    ·exact .inl ⟨x,by rw [k]⟩
    ·exact .inr ⟨x,fun z=>k (Yl z).2⟩
   | false=>exact⟨_,rfl,.inr ⟨rfl,fun z=>by simpa using e.2 (Yl z).1⟩⟩
  ·refine⟨.inr (i:Int),by rw [if_neg (by simp only [decide_eq_true_eq]; omega)],.inl ⟨⟨_,rfl⟩,?_⟩⟩
   rw [Xk (by omega),Xk (by omega)]
theorem VH {m:Nat}{a b:an}(ha:nw a)(hb:nw b)(hm:8001≤m):∃x,gH.f m a b=some x∧(x=true↔a=b):=by
 have hs:=ha.rq
 have this:a.nodes=b.nodes↔a=b:=⟨fun e=>by
   have r1:=ha.root
   have r2:=hb.root
   cases a; cases b; simp only at e r1 r2; subst e r1 r2; rfl,fun e=>by rw [e]⟩
 unfold gH.f aC.f
 by_cases hl:a.nodes.length=b.nodes.length
 ·obtain⟨o,k1,k2⟩:=GX (m:=m) hl hs hm (fun n hn=>(ha.nodes n hn).1) (fun n hn=>(hb.nodes n hn).1) m 0 (by omega) (by omega)
  have k1:aC.l0 m a.nodes b.nodes (fun y0 y1=>dH.f m y0 y1) m 0=_:=k1
  rw [if_neg (by rw [hl]; simp),k1,WL]
  rw [Xl,Xl] at k2
  rcases k2 with⟨⟨x,rfl⟩,k⟩| ⟨rfl,k⟩
  ·exact⟨_,rfl,by simp [this.1 k]⟩
  ·exact⟨_,rfl,by simp; exact fun e=>k (this.2 e)⟩
 ·have hi:¬(a.nodes.length:Int)=b.nodes.length:=by omega
  rw [if_pos (by simpa using hi)]
  exact⟨_,rfl,by simp; exact fun e=>hl (by rw [e])⟩
theorem DT {m:Nat}(hm:2 ^ 41≤m){a b:an}(ha:dQ a=true)(hb:dQ b=true)(a0:Gl a)(b0:Gl b):∃x,iu.f m a b=some (x,0)∧(x=true↔lf m a=lf m b):=by
 have rl:(2:Nat) ^ 41=2199023255552:=by decide
 have lR:(2:Nat) ^ 30=1073741824:=by decide
 have F:=sn hm ha a0
 have G:=sn hm hb b0
 obtain⟨x,k1,k2⟩:=VH (m:=m) F.lt G.lt (by omega)
 refine⟨x,?_,k2⟩
 unfold iu.f
 rw [lq (by omega),WL,ha,if_neg (by simp),lq (by omega),WL,hb,if_neg (by simp),F.eq,WL,G.eq,WL,k1,WL]
theorem Lj {m:Nat}{t:an}(F:Lf m t):eY.f m t=some (lf m t,0):=by unfold eY.f; rw [F.top]; rfl
theorem Lf.graph {m:Nat}(hm:2 ^ 41≤m){t:an}(F:Lf m t):aY.f m (lf m t) (lf m t)=some true:=by
 have rl:(2:Nat) ^ 41=2199023255552:=by decide
 have lR:(2:Nat) ^ 30=1073741824:=by decide
 exact Lh (by omega) F.lt.rq fun n hn=>(F.lt.nodes n hn).1.args
end Go.Proofs.YtmekcfdllhphlaaDoor
namespace Go.Proofs.YtmekcfdllhphlaaDoor
open Go Go.R
open Go.IntKind (i64 u64 u8 u32)
def GY:cg:=gk [0,2,3,4,5,6,7,8,9,10,11,12,13,16,40,44,85] [8] [131070,122878,131069,131058,131010,114666,131069,130986,98218,130986,130602,129066,65450,131069,124923,131069] [] []
def bf.l0 (m:Nat)(l0:List an)(x3:(List an) × Int):Nat→Int→Option (Sum Bool (Int))
 | 0,_=>none
 | k+1,i0=>if (decide (i0<(l0.length:Int)))=true then ((ix l0 i0).bind fun v0=>(eY.f m v0).bind fun x4=>(ix l0 i0).bind fun v1=>(ix x3.1 i0).bind fun v2=>(iu.f m v1 v2).bind fun x5=>if (!(x4.2==(0:Int)))=true then (some (.inl false)) else ((ix x3.1 i0).bind fun v3=>(aY.f m x4.1 v3).bind fun x6=>if (!x6)=true then (some (.inl false)) else (if (!x5.1)=true then (some (.inl false)) else (if (!(x5.2==(0:Int)))=true then (some (.inl false)) else (bf.l0 m l0 x3 k (i64.wrap (i0+(1:Int)))))))) else (some (.inr i0))
def bf.f (m:Nat)(l0:List an):Option (Bool):=(a8.f m l0).bind fun x0=>if (!x0)=true then ((mj.f m).bind fun x1=>some x1) else ((ca.f m l0).bind fun x2=>(bm.f m x2.1).bind fun x3=>if (!(x2.2==(0:Int)))=true then (some false) else (if (!(x3.2==(0:Int)))=true then (some false) else (if (!((x3.1.length:Int)==(l0.length:Int)))=true then (some false) else ((bf.l0 m l0 x3 m (0:Int)).bind fun bq=>match bq with | .inl r0=>some r0 | .inr i1=>(ca.f m x3.1).bind fun x7=>if (x7.2==(0:Int))=true then (if ((dh x7.1).data.toList==(dh x2.1).data.toList)=true then ((mj.f m).bind fun x8=>some x8) else (some false)) else (some false)))))
def bf.fin (L:Mem)(r:Bool)(s:St):Prop:=∃av,aI Tryd.prog (s.open GY) Tryd.f7.results.toList=some av∧fB s.h av (.bool r)
def S7 (cf:CallF)(m:Nat):Prop:=∀(l0:List an) (r:Bool),bf.f m l0=some r→∀h xs,ej eL h xs [aT.fz l0]→cf 7 xs h=some (.bool r,h)
section
variable {cf:CallF}{m:Nat}
theorem bf.bG (L:Mem)(l0:List an)(x2:(List Int) × Int)(x3:(List an) × Int)  (Lk:QI cf m)(GZ:QJ cf m)(Ll:RB cf m):bI Tryd.prog cf GY m (sub [1,1,1,1,1,0,1,0,0] (codeOf Tryd.f7)) (fun k (σ:Int)=>bf.l0 m l0 x3 k σ) (fun σ s=>match σ with | i0=>∃h0,s=⟨aT.fz l0 :: .any::au.fz x2.1 :: .any::aT.fz x3.1 :: .any :: .int .i64 i0::uN [],[none],h0⟩∧Has h0 (L)) (fun out e s=>(e = .exit 0∧∃i0,.inr i0=out∧∃kp tF RD h0,s=⟨kp :: .any::au.fz x2.1 :: .any::aT.fz x3.1 :: .any::tF::rf [RD,.any],[none],h0⟩∧Has h0 (L))∨(e = .ret∧∃r,.inl r=out∧bf.fin L r s)):=by
 refine gS (fun _=>rfl) ?_
 rintro k i0 s out ⟨h0,rfl,o0⟩ H
 have H:bf.l0 m l0 x3 (k+1) i0=some out:=H
 refine qq <| qq <| q0 <| qc H (fun c6 H=>?_) (fun c6 H=>?_)
 ·refine qk <| qq <| qb 1 <| qq ?_
  obtain⟨v0,e4,H⟩:=aJ H
  obtain⟨x4,e5,H⟩:=aJ H
  refine qr [.v 2 (bo (k:=.i64) (E:=aT) (l:=l0) yI e4),.v 3 (cO  (E:=aT) (l:=l0) h0 Hc Hd e4),.a 4 (Lk _ _ e5 h0 _ (b5 (lh (b5 (gy (E:=af)) (b5 (bD) (fe)))) (fe)))] <| qq ?_
  obtain⟨v1,e6,H⟩:=aJ H
  obtain⟨v2,e7,H⟩:=aJ H
  obtain⟨x5,e8,H⟩:=aJ H
  refine qr [.v 2 (bo (k:=.i64) (E:=aT) (l:=l0) yI e6),.v 3 (cO  (E:=aT) (l:=l0) h0 Hc Hd e6),.v 6 (bo (k:=.i64) (E:=aT) (l:=x3.1) yI e7),.v 7 (cO  (E:=aT) (l:=x3.1) h0 Hc Hd e7),.a 8 (Ll _ _ _ e8 h0 _ (ga (ab (bQ (ab (bS (E:=af)) (ab (aE) (ax)))) (ab (bQ (ab (bS (E:=af)) (ab (aE) (ax)))) (ax)))))] <| qq ?_
  rcases dw H with⟨c7,H⟩| ⟨c7,H⟩
  ·exact qr [.b 2 c7] <| pa <| qq <| q0 <| qt <| XH (⟨rfl,_,oi H,bZ (.bool false) h0 (bX (aj))⟩)
  ·obtain⟨v3,e9,H⟩:=aJ H
   obtain⟨x6,mU,H⟩:=aJ H
   rcases dw H with⟨c9,H⟩| ⟨c9,H⟩
   ·exact qr [.b 2 c7,.v 6 (bo (k:=.i64) (E:=aT) (l:=x3.1) yI e9),.v 7 (cO  (E:=aT) (l:=x3.1) h0 Hc Hd e9),.a 8 (GZ _ _ _ mU h0 _ (ga (ab (bQ (ab (bS (E:=af)) (ab (aE) (ax)))) (ab (bQ (ab (bS (E:=af)) (ab (aE) (ax)))) (ax))))),.b 11 c9] <| pa <| qq <| q0 <| qt <| XH (⟨rfl,_,oi H,bZ (.bool false) h0 (bX (aj))⟩)
   ·rcases dw H with⟨ml,H⟩| ⟨ml,H⟩
    ·exact qr [.b 2 c7,.v 6 (bo (k:=.i64) (E:=aT) (l:=x3.1) yI e9),.v 7 (cO  (E:=aT) (l:=x3.1) h0 Hc Hd e9),.a 8 (GZ _ _ _ mU h0 _ (ga (ab (bQ (ab (bS (E:=af)) (ab (aE) (ax)))) (ab (bQ (ab (bS (E:=af)) (ab (aE) (ax)))) (ax))))),.b 11 c9,.b 15 ml] <| pa <| qq <| q0 <| qt <| XH (⟨rfl,_,oi H,bZ (.bool false) h0 (bX (aj))⟩)
    ·refine qr [.b 2 c7,.v 6 (bo (k:=.i64) (E:=aT) (l:=x3.1) yI e9),.v 7 (cO  (E:=aT) (l:=x3.1) h0 Hc Hd e9),.a 8 (GZ _ _ _ mU h0 _ (ga (ab (bQ (ab (bS (E:=af)) (ab (aE) (ax)))) (ab (bQ (ab (bS (E:=af)) (ab (aE) (ax)))) (ax))))),.b 11 c9,.b 15 ml] <| qc H (fun rH H=>?_) (fun rH H=>?_)
     ·exact q1 <| qt <| XH (⟨rfl,_,oi H,bZ (.bool false) h0 (bX (aj))⟩)
     ·exact qk <| q0 <| ⟨i64.wrap (i0+(1:Int)),⟨h0,by kernel_rfl,o0⟩,H⟩
 ·exact qx 0 <| X6 (⟨rfl,i0,oi H,aT.fz l0,.int .i64 i0,.bool (decide (i0<(l0.length:Int))),h0,by kernel_rfl,o0⟩)
theorem lO {aS:FuncId→cg}(ha:aS 7=GY)(N2:Ss cf m)(Im:QD cf m)(Lk:QI cf m)(GZ:QJ cf m)(RE:S5 cf m)(RF:TV cf m)(Ll:RB cf m)(l0:List an)(h:AHeap)(L:Mem)  (o:Has h (L)){out:Bool}(H:bf.f m l0=some out) :
  ∃r h',a7 Tryd.prog aS cf m 7 [aT.fz l0] h=some (r,h')∧fB h' r (.bool out):=by
 refine ak (fn:=Tryd.f7) ha Tryd.func7 (by kernel_rfl) (by kernel_rfl) ?_
 refine aF (Q:=fun s=>bf.fin L out s) (fun _ _ h=>h) ?_
 have H:_=some out:=H
 unfold bf.f at H
 show de _ cf GY m _ ⟨aT.fz l0::Dl [],[none],h⟩ _
 refine q1 <| qq <| qq ?_
 obtain⟨x0,e0,H⟩:=aJ H
 refine qr [.a 1 (RF _ _ e0 h _ (ga (ab (bS (E:=aT)) (ax))))] <| qc H (fun c0 H=>?_) (fun c0 H=>?_)
 ·refine qq ?_
  obtain⟨x1,e1,H⟩:=aJ H
  obtain rfl:=oi H
  exact qr [.a 0 (N2 _ e1 h _ (ga (ax)))] <| qt <| ⟨.inl rfl,bZ (.bool x1) h (bX (aj))⟩
 ·refine qk <| qq ?_
  obtain⟨x2,e2,H⟩:=aJ H
  refine qr [.a 1 (Im _ _ e2 h _ (b5 (gy (E:=aT)) (fe)))] <| qq ?_
  obtain⟨x3,e3,H⟩:=aJ H
  refine qr [.a 1 (RE _ _ e3 h _ (b5 (gy (E:=au)) (fe)))] <| qq <| qq ?_
  rcases dw H with⟨c1,H⟩| ⟨c1,H⟩
  ·obtain rfl:=oi H
   exact qr [.b 2 c1] <| pa <| qq <| q0 <| qt <| ⟨.inl rfl,bZ (.bool false) h (bX (aj))⟩
  ·rcases dw H with⟨c3,H⟩| ⟨c3,H⟩
   ·obtain rfl:=oi H
    exact qr [.b 2 c1,.b 6 c3] <| pa <| qq <| q0 <| qt <| ⟨.inl rfl,bZ (.bool false) h (bX (aj))⟩
   ·refine qr [.b 2 c1,.b 6 c3] <| qc H (fun c5 H=>?_) (fun c5 H=>?_)
    ·obtain rfl:=oi H
     exact q1 <| qt <| ⟨.inl rfl,bZ (.bool false) h (bX (aj))⟩
    ·refine qk <| qq <| qq <| q0 <| qb 0 ?_
     obtain⟨bq,rn,H⟩:=aJ H
     refine ql (bf.bG L l0 x2 x3  Lk GZ Ll (0:Int) _ _ ⟨h,by kernel_rfl,o⟩ rn) ?_
     rintro e s (⟨rfl,i1,rfl,g0,g1,g2,h1,rfl,o1⟩| ⟨rfl,r0,rfl,lJ⟩)
     ·try dsimp only at H
      refine qq ?_
      obtain⟨x7,si,H⟩:=aJ H
      refine qr [.a 1 (Im _ _ si h1 _ (b5 (gy (E:=aT)) (fe)))] <| qq ?_
      rcases dw H with⟨og,H⟩| ⟨og,H⟩
      ·rcases dw H with⟨xL,H⟩| ⟨xL,H⟩
       ·obtain⟨x8,sj,H⟩:=aJ H
        obtain rfl:=oi H
        exact qr [.b 2 og,.v 4 (show eS Tryd.prog h1 25 9 (au.fz x7.1)=some (.str (dh x7.1)) from nN (e:=5) (l:=x7.1) rfl rfl rfl (s9 _)),.v 6 (show eS Tryd.prog h1 25 9 (au.fz x2.1)=some (.str (dh x2.1)) from nN (e:=5) (l:=x2.1) rfl rfl rfl (s9 _)),.b 9 xL,.a 10 (N2 _ sj h1 _ (ga (ax)))] <| qt <| ⟨.inl rfl,bZ (.bool x8) h1 (bX (aj))⟩
       ·obtain rfl:=oi H
        exact qr [.b 2 og,.v 4 (show eS Tryd.prog h1 25 9 (au.fz x7.1)=some (.str (dh x7.1)) from nN (e:=5) (l:=x7.1) rfl rfl rfl (s9 _)),.v 6 (show eS Tryd.prog h1 25 9 (au.fz x2.1)=some (.str (dh x2.1)) from nN (e:=5) (l:=x2.1) rfl rfl rfl (s9 _)),.b 9 xL] <| qt <| ⟨.inl rfl,bZ (.bool false) h1 (bX (aj))⟩
      ·obtain rfl:=oi H
       exact qr [.b 2 og] <| qt <| ⟨.inl rfl,bZ (.bool false) h1 (bX (aj))⟩
     ·try dsimp only at H
      obtain rfl:=oi H
      exact⟨.inl rfl,lJ⟩
end
end Go.Proofs.YtmekcfdllhphlaaDoor
namespace Go.Proofs.YtmekcfdllhphlaaDoor
open Go Go.R
open Go.IntKind (i64 u64 u8 u32)
theorem CG {m:Nat}(hm:2 ^ 41≤m){L:List an}(I:Bl m L):∀(f i:Nat),L.length - i<f→i≤L.length→∃x,bf.l0 m L (L.map (lf m),0) f (i:Int)=some (.inr x)
 | 0,i,hf,_=>absurd hf (by omega)
 | f+1,i,hf,hi=>by
  have h8:=I.rq
  unfold bf.l0
  by_cases h:i<L.length
  ·obtain⟨x,ih⟩:=CG hm I f (i+1) (by omega) (by omega)
   have uF:=XJ h
   have F:=I.lf hm uF
   have hx:ix (L.map (lf m)) (i:Int)=some (lf m L[i]):=by rw [kS (by simpa using h)]; simp
   obtain⟨y,k1,k2⟩:=DT hm (I.val _ uF).1 F.val (I.val _ uF).2 F.TS
   have:=k2.2 F.idem.symm
   subst this
   refine⟨x,?_⟩
   rw [if_pos (by simp only [decide_eq_true_eq]; omega),kS h,WL,Lj F,WL,WL]
   dsimp only
   rw [hx,WL,k1,WL,if_neg (by simp),WL,F.graph hm,WL,if_neg (by simp),if_neg (by simp),if_neg (by simp),aD (by omega) (by omega),show (i:Int)+1=((i+1:Nat):Int) by omega,ih]
  ·exact⟨i,by rw [if_neg (by simp only [decide_eq_true_eq]; omega)]⟩
theorem DU {m:Nat}(hm:2 ^ 63≤m){L:List an}(hl:∀t∈L,t.nodes.length<2 ^ 63)(h0:∀t∈L,Gl t):bf.f m L=some true:=by
 have rl:(2:Nat) ^ 41=2199023255552:=by decide
 have Hj:(2:Nat) ^ 63=9223372036854775808:=by decide
 obtain⟨b,k1,k2⟩:=DS hm hl h0
 unfold bf.f
 rw [k1,WL]
 cases b with
 | false=>rfl
 | true=>
  have I:=k2 rfl
  have hp:=xI (m:=m) (by omega) I
  have hg:=IC (m:=m) (by omega) I
  have hq:=xI (m:=m) (by omega) (I.least (by omega))
  rw [Pk.idem (by omega) I] at hq
  have h8:=I.rq
  obtain⟨x,k3⟩:=CG (m:=m) (by omega) I m 0 (by omega) (by omega)
  have k3:bf.l0 m L (L.map (lf m),0) m (0:Int)=_:=k3
  rw [if_neg (by simp),hp,WL]
  dsimp only
  rw [hg,WL,if_neg (by simp),if_neg (by simp),if_neg (by simp),k3,WL]
  dsimp only
  rw [hq,WL,if_pos (by simp),if_pos (by simp)]
  rfl
end Go.Proofs.YtmekcfdllhphlaaDoor
namespace Go.Proofs.YtmekcfdllhphlaaDoor
open Go Go.R
open Go.IntKind (i64 u64 u8 u32)
def Nf (xs ys:List AV):Prop:=cX xs=true∧dv xs=ys
theorem vT:∀a b:List AV,cX (a++b)=(cX a&&cX b)
 | [],b=>rfl
 | x::a,b=>by rw [Xe,cX,cX,vT,Bool.and_assoc]
theorem vU:∀a b:List AV,dv (a++b)=dv a++dv b
 | [],b=>rfl
 | x::a,b=>by rw [Xe,dv,dv,vU,Xe]
theorem Nf.app {a b c d:List AV}(h:Nf a c)(k:Nf b d):Nf (a++b) (c++d):=⟨by rw [vT,h.1,k.1]; rfl,by rw [vU,h.2,k.2]⟩
theorem Nf.nil:Nf [] []:=⟨rfl,rfl⟩
theorem Nf.fz {α:Type}{E:cD α}{cs:List AV}{l:List α}{n:Nat}{b:Bool}(h:Nf cs (E.l l))(hn:n=l.length):Nf [.fz cs n b] [E.fz l]:=by
 subst hn
 exact⟨by show (AV.dT (.fz cs l.length b)&&cX [])=true; simp [AV.dT,h.1,cX],by show [AV.fz (dv cs) l.length false]=_; rw [h.2]; rfl⟩
theorem Nf.nils {α:Type}{E:cD α}:Nf [.nils] [E.fz []]:=⟨rfl,rfl⟩
theorem zG {α:Type}{E:cD α}{Pr:α→Prop}:∀{els:List (List AV)},(∀el∈els,∃a,Nf el (E.f a)∧Pr a)→∃l:List α,Nf els.flatten (E.l l)∧l.length=els.length∧∀a∈l,Pr a
 | [],_=>⟨[],Nf.nil,rfl,fun a ha=>by cases ha⟩
 | el::els,h=>by
  obtain⟨a,h1,h2⟩:=h el (by simp)
  obtain⟨l,h3,h4,h5⟩:=zG (E:=E) (Pr:=Pr) (els:=els) fun e he=>h e (by simp [he])
  refine⟨a::l,?_,by simp [h4],fun x hx=>?_⟩
  ·rw [List.flatten_cons,cD.dX]; exact h1.app h3
  ·rcases Xs.1 hx with rfl | hx
   ·exact h2
   ·exact h5 x hx
theorem Bn {α:Type}{E:cD α}{Pr:α→Prop}{n t e:Nat}{xs:List AV}(ht:Tryd.prog.underlying t=some (.slice e))(h:Fits Tryd.prog (n+1) t xs)
  (he:∀el,Fits Tryd.prog n e el→∃a,Nf el (E.f a)∧Pr a):∃l:List α,Nf xs [E.fz l]∧l.length≤maxLen∧∀a∈l,Pr a:=by
 unfold Fits at h
 rw [ht] at h
 rcases h with rfl | ⟨els,rfl,h1,h⟩
 ·exact⟨[],Nf.nils,by simp,fun a ha=>by cases ha⟩
 ·obtain⟨l,h2,h3,h4⟩:=zG (E:=E) (Pr:=Pr) fun el Mw=>he el (h el Mw).2
  exact⟨l,h2.fz h3.symm,by omega,h4⟩
theorem xJ {n:Nat}{xs:List AV}(h:Fits Tryd.prog (n+1) 3 xs):∃z:Int,Nf xs (aa.f z)∧z<2 ^ 63:=by
 unfold Fits at h
 rw [Tryd.underlying3] at h
 obtain⟨z,rfl,_,hz⟩:=h
 have hz:z≤9223372036854775807:=hz
 exact⟨z,⟨rfl,rfl⟩,by omega⟩
theorem G0 {n:Nat}{xs:List AV}(h:Fits Tryd.prog (n+3) 48 xs):∃v:ae,Nf xs (af.f v)∧v.int<2 ^ 63:=by
 unfold Fits at h
 rw [Tryd.underlying48] at h
 obtain⟨a,b,rfl,_,h1,h⟩:=h
 obtain⟨c,d,rfl,_,h2,h⟩:=h
 obtain⟨e,f,rfl,_,h3,h⟩:=h
 obtain⟨g,k,rfl,_,h4,h⟩:=h
 have h:k=[]:=h
 subst h
 obtain⟨z1,i1,_⟩:=xJ h1
 obtain⟨z2,i2,j2⟩:=xJ h2
 obtain⟨l,i4,_,_⟩:=Bn (E:=aa) (Pr:=fun z=>z<2 ^ 63) Tryd.underlying42 h4 fun el h=>xJ h
 have h3:∃s:ByteArray,e=[.str s]:=by
  unfold Fits at h3
  rw [Tryd.underlying9] at h3
  obtain⟨s,hs,_⟩:=h3
  exact⟨s,hs⟩
 obtain⟨s,rfl⟩:=h3
 exact⟨⟨z1,z2,s,l⟩,i1.app (i2.app (Nf.app (a:=[.str s]) (c:=[.str s]) ⟨rfl,rfl⟩ (i4.app Nf.nil))),j2⟩
def Bo (t:an):Prop:=t.nodes.length<2 ^ 63∧Gl t
theorem G1 {n:Nat}{xs:List AV}(h:Fits Tryd.prog (n+5) 31 xs):∃t:an,Nf xs (aT.f t)∧Bo t:=by
 unfold Fits at h
 rw [Tryd.underlying31] at h
 obtain⟨a,b,rfl,_,h1,h⟩:=h
 obtain⟨c,d,rfl,_,h2,h⟩:=h
 have h:d=[]:=h
 subst h
 obtain⟨l,i1,k1,k2⟩:=Bn (E:=af) (Pr:=fun v=>v.int<2 ^ 63) Tryd.underlying29 h1 fun el h=>G0 h
 obtain⟨z,i2,_⟩:=xJ h2
 refine⟨⟨l,z⟩,i1.app (i2.app Nf.nil),?_,fun v hv _=>k2 v hv⟩
 have:maxLen<2 ^ 63:=by decide
 show l.length<_
 omega
theorem ID {t e n:Nat}{xs:List AV}(ht:Tryd.prog.underlying t=some (.slice e))(h:Fits Tryd.prog (n+1) t xs):∃x,xs=[x]∧(x = .nils∨∃cs n b,x = .fz cs n b):=by
 unfold Fits at h
 rw [ht] at h
 rcases h with rfl | ⟨els,rfl,_⟩
 ·exact⟨_,rfl,.inl rfl⟩
 ·exact⟨_,rfl,.inr ⟨_,_,_,rfl⟩⟩
theorem DV {n:Nat}{xs:List AV}(h:Fits Tryd.prog (n+6) 22 xs):∃x l,xs=[x]∧(∀h,ej eL h [x] [aT.fz l])∧∀t∈l,Bo t:=by
 obtain⟨l,h1,_,h2⟩:=Bn (E:=aT) (Pr:=Bo) Tryd.underlying22 h fun el h=>G1 h
 obtain⟨x,rfl,hx⟩:=ID Tryd.underlying22 h
 have g1:x.dT=true:=by have:=h1.1; simpa [cX] using this
 have g2:x.jV=aT.fz l:=by have:=h1.2; simpa [dv] using this
 have hf:∀hp,lI 0 hp x (aT.fz l):=fun hp=>mN g1 (by rcases hx with rfl | ⟨cs,n,b,rfl⟩<;>exact fun _=>rfl) g2
 exact⟨x,l,rfl,fun hp=>ga (ab (hf hp) ax),h2⟩
end Go.Proofs.YtmekcfdllhphlaaDoor
namespace Go.Proofs.YtmekcfdllhphlaaDoor
open Go Go.R Go.Shelf
def LM:Ren:={
 f:=(fun x=>match x with | 178=>101 | 179=>53 | 181=>98 | 184=>99 | 251=>72 | 252=>73 | 290=>100 | 324=>117 | n=>n),
 t:=(fun x=>match x with | 0=>0 | 3=>3 | 4=>4 | 5=>5 | 9=>9 | 20=>20 | 37=>25 | 75=>85 | 80=>93 | 91=>79 | 93=>81 | 130=>104 | 131=>100 | n=>n),
 g:=(fun x=>match x with | 14=>0 | n=>n)}
theorem IE:LaysM.n179 Tryd.prog LM:={
 mixed:=by kernel_rfl,
 f179:=Tryd.func53.trans (congrArg some (by kernel_rfl)),
 f181:=Tryd.func98.trans (congrArg some (by kernel_rfl)),
 f184:=Tryd.func99.trans (congrArg some (by kernel_rfl)),
 f251:=Tryd.func72.trans (congrArg some (by kernel_rfl)),
 f252:=Tryd.func73.trans (congrArg some (by kernel_rfl)),
 f290:=Tryd.func100.trans (congrArg some (by kernel_rfl)),
 f324:=Tryd.func117.trans (congrArg some (by kernel_rfl)),
 t0:=Tryd.underlying0,
 a0:=Tryd.isAgg0,
 z0:=Tryd.sizeOf0,
 v0:=Tryd.zeroValue0,
 t3:=Tryd.underlying3,
 a3:=Tryd.isAgg3,
 z3:=Tryd.sizeOf3,
 v3:=Tryd.zeroValue3,
 t4:=Tryd.underlying4,
 a4:=Tryd.isAgg4,
 z4:=Tryd.sizeOf4,
 v4:=Tryd.zeroValue4,
 t5:=Tryd.underlying5,
 a5:=Tryd.isAgg5,
 z5:=Tryd.sizeOf5,
 v5:=Tryd.zeroValue5,
 t20:=Tryd.underlying20,
 a20:=Tryd.isAgg20,
 z20:=Tryd.sizeOf20,
 v20:=Tryd.zeroValue20,
 t37:=Tryd.underlying25,
 a37:=Tryd.isAgg25,
 z37:=Tryd.sizeOf25,
 v37:=Tryd.zeroValue25,
 t75:=Tryd.underlying85,
 a75:=Tryd.isAgg85,
 z75:=Tryd.sizeOf85,
 v75:=Tryd.zeroValue85,
 t91:=Tryd.underlying79,
 a91:=Tryd.isAgg79,
 z91:=Tryd.sizeOf79,
 v91:=Tryd.zeroValue79,
 t93:=Tryd.underlying81,
 a93:=Tryd.isAgg81,
 z93:=Tryd.sizeOf81,
 v93:=Tryd.zeroValue81,
 t130:=Tryd.underlying104,
 a130:=Tryd.isAgg104,
 z130:=Tryd.sizeOf104,
 v130:=Tryd.zeroValue104,
 t131:=Tryd.underlying100,
 a131:=Tryd.isAgg100,
 z131:=Tryd.sizeOf100,
 v131:=Tryd.zeroValue100,
 g14:=by kernel_rfl,
 t9:=Tryd.underlying9,
 a9:=Tryd.isAgg9,
 z9:=Tryd.sizeOf9,
 v9:=Tryd.zeroValue9,
 t80:=Tryd.underlying93,
 a80:=Tryd.isAgg93,
 z80:=Tryd.sizeOf93,
 v80:=Tryd.zeroValue93,
 i0:=by kernel_rfl,
 i3:=by kernel_rfl,
 i4:=by kernel_rfl,
 i5:=by kernel_rfl,
 i9:=by kernel_rfl,
 i20:=by kernel_rfl,
 i37:=by kernel_rfl,
 i75:=by kernel_rfl,
 i80:=by kernel_rfl,
 i91:=by kernel_rfl,
 i93:=by kernel_rfl,
 i130:=by kernel_rfl,
 i131:=by kernel_rfl,
 m14:=by kernel_rfl}
theorem IF:LaysM.n178 Tryd.prog LM:={
 mixed:=by kernel_rfl,
 f178:=Tryd.func101.trans (congrArg some (by kernel_rfl)),
 f181:=Tryd.func98.trans (congrArg some (by kernel_rfl)),
 f184:=Tryd.func99.trans (congrArg some (by kernel_rfl)),
 f251:=Tryd.func72.trans (congrArg some (by kernel_rfl)),
 f252:=Tryd.func73.trans (congrArg some (by kernel_rfl)),
 f290:=Tryd.func100.trans (congrArg some (by kernel_rfl)),
 f324:=Tryd.func117.trans (congrArg some (by kernel_rfl)),
 t0:=Tryd.underlying0,
 a0:=Tryd.isAgg0,
 z0:=Tryd.sizeOf0,
 v0:=Tryd.zeroValue0,
 t3:=Tryd.underlying3,
 a3:=Tryd.isAgg3,
 z3:=Tryd.sizeOf3,
 v3:=Tryd.zeroValue3,
 t4:=Tryd.underlying4,
 a4:=Tryd.isAgg4,
 z4:=Tryd.sizeOf4,
 v4:=Tryd.zeroValue4,
 t9:=Tryd.underlying9,
 a9:=Tryd.isAgg9,
 z9:=Tryd.sizeOf9,
 v9:=Tryd.zeroValue9,
 t20:=Tryd.underlying20,
 a20:=Tryd.isAgg20,
 z20:=Tryd.sizeOf20,
 v20:=Tryd.zeroValue20,
 t37:=Tryd.underlying25,
 a37:=Tryd.isAgg25,
 z37:=Tryd.sizeOf25,
 v37:=Tryd.zeroValue25,
 t75:=Tryd.underlying85,
 a75:=Tryd.isAgg85,
 z75:=Tryd.sizeOf85,
 v75:=Tryd.zeroValue85,
 t91:=Tryd.underlying79,
 a91:=Tryd.isAgg79,
 z91:=Tryd.sizeOf79,
 v91:=Tryd.zeroValue79,
 t93:=Tryd.underlying81,
 a93:=Tryd.isAgg81,
 z93:=Tryd.sizeOf81,
 v93:=Tryd.zeroValue81,
 t130:=Tryd.underlying104,
 a130:=Tryd.isAgg104,
 z130:=Tryd.sizeOf104,
 v130:=Tryd.zeroValue104,
 t131:=Tryd.underlying100,
 a131:=Tryd.isAgg100,
 z131:=Tryd.sizeOf100,
 v131:=Tryd.zeroValue100,
 g14:=by kernel_rfl,
 t5:=Tryd.underlying5,
 a5:=Tryd.isAgg5,
 z5:=Tryd.sizeOf5,
 v5:=Tryd.zeroValue5,
 t80:=Tryd.underlying93,
 a80:=Tryd.isAgg93,
 z80:=Tryd.sizeOf93,
 v80:=Tryd.zeroValue93,
 i0:=by kernel_rfl,
 i3:=by kernel_rfl,
 i4:=by kernel_rfl,
 i5:=by kernel_rfl,
 i9:=by kernel_rfl,
 i20:=by kernel_rfl,
 i37:=by kernel_rfl,
 i75:=by kernel_rfl,
 i80:=by kernel_rfl,
 i91:=by kernel_rfl,
 i93:=by kernel_rfl,
 i130:=by kernel_rfl,
 i131:=by kernel_rfl,
 m14:=by kernel_rfl}
theorem fits:Fit Tryd.prog:=JT (by kernel_rfl) (by kernel_rfl)
theorem IG:∀(vs:Array Value) (w:World),(callFunc (LM.f 179) vs).run Tryd.prog w = .ok (.enter (LM.f 179) vs) w:=
 jQ (c:=codeOf Tryd.f53) Tryd.func53 (by kernel_rfl) (by decide +kernel)
theorem G2:∀(vs:Array Value) (w:World),(callFunc (LM.f 178) vs).run Tryd.prog w = .ok (.enter (LM.f 178) vs) w:=
 jQ (c:=codeOf Tryd.f101) Tryd.func101 (by kernel_rfl) (by decide +kernel)
noncomputable def G3:FuncId→Option (List AV→AHeap→Option (AV × AHeap)):=fun f=>if f=53 then some (wbA 5) else if f=101 then some (wsA 5) else none
theorem uv:IntrOK Tryd.prog G3:=intr_cons (f0:=53) (wb_ok IE IG) wb_steady (intr_cons (f0:=101) (ws_ok IF G2) ws_steady C4)
end Go.Proofs.YtmekcfdllhphlaaDoor
namespace Go.Proofs.YtmekcfdllhphlaaDoor
open Go Go.R
open Go.IntKind (i64 u64 u8 u32)
def cJ:Nat→cg
 | 7=>GY
 | 12=>vQ
 | 13=>{gg:=[0,1,2,3,4,5,6,7,8,9,10],aG:=[9]}
 | 14=>zd
 | 16=>Cl
 | 18=>vM
 | 19=>vL
 | 20=>vR
 | 21=>vJ
 | 24=>CF
 | 25=>zn
 | 28=>gk [0,2] [2] [0,1] [] []
 | 29=>gk [0] [0] [] [] []
 | 30=>gk [0,1,4] [] [4,3] [] []
 | 31=>Ch
 | 32=>BW
 | 33=>Cj
 | 34=>BV
 | 35=>Ci
 | 36=>vK
 | 37=>Cs
 | 41=>Ck
 | 42=>Cg
 | 43=>y9
 | 44=>vI
 | 45=>B3
 | 46=>CE
 | 47=>Ca
 | 48=>zm
 | 51=>yN
 | 52=>yM
 | 53=>{gg:=[0,1,4,5,6,16],aG:=[]}
 | 54=>y8
 | 55=>zb
 | 56=>{gg:=[0,2],aG:=[]}
 | 57=>lG
 | 59=>Cd
 | 60=>Cf
 | 61=>B2
 | 62=>BU
 | 63=>zC
 | 64=>CD
 | 65=>B6
 | 66=>zD
 | 67=>pj
 | 68=>yZ
 | 69=>Cr
 | 74=>Ce
 | 75=>vO
 | 76=>mE
 | 77=>BQ
 | 78=>BR
 | 79=>BS
 | 80=>BT
 | 81=>B4
 | 82=>yT
 | 83=>B5
 | 84=>B1
 | 85=>B7
 | 86=>zl
 | 101=>{gg:=[0,1,4,5,6,7,19],aG:=[]}
 | 102=>uc
 | 103=>uf
 | 104=>xC
 | 105=>ud
 | 106=>tB
 | 107=>tE
 | 108=>xd
 | 109=>xe
 | 110=>nS
 | 111=>xE
 | 118=>wY
 | 119=>qp
 | 120=>ll
 | 122=>tw
 | 123=>tt
 | _=>{gg:=[],aG:=[]}
def aX:Nat:=18014398509481984
theorem aZ:jt+eL≤aX:=by decide
def N3:Nat→Option Nat
 | 7=>some aX
 | 12=>some aX
 | 13=>some aX
 | 14=>some aX
 | 16=>some aX
 | 18=>some aX
 | 19=>some aX
 | 20=>some aX
 | 21=>some aX
 | 24=>some aX
 | 25=>some aX
 | 28=>some aX
 | 29=>some aX
 | 30=>some aX
 | 31=>some aX
 | 33=>some aX
 | 35=>some aX
 | 36=>some aX
 | 37=>some aX
 | 41=>some aX
 | 42=>some aX
 | 45=>some aX
 | 46=>some aX
 | 47=>some aX
 | 48=>some aX
 | 57=>some aX
 | 62=>some aX
 | 64=>some aX
 | 65=>some aX
 | 66=>some aX
 | 67=>some aX
 | 69=>some aX
 | 75=>some aX
 | 76=>some aX
 | 77=>some aX
 | 80=>some aX
 | 81=>some aX
 | 82=>some aX
 | 83=>some aX
 | 86=>some aX
 | 102=>some aX
 | 103=>some aX
 | 104=>some aX
 | 105=>some aX
 | 106=>some aX
 | 108=>some aX
 | 109=>some aX
 | 111=>some aX
 | 118=>some aX
 | _=>none
def M:Nat:=18446744073709551616
noncomputable def zH:oq:={aS:=cJ,intr:=G3,pure:=fun _=>none}
theorem ly {h:AHeap}(hp:0<h.next):Has h []:=⟨fun j i c h=>by simp at h,fun j j' i c c' h=>by simp at h,hp⟩
theorem Lm:codeOf Tryd.f56=(.seq (sub [0] (codeOf Tryd.f56)) (.seq (sub [1,0] (codeOf Tryd.f56)) .ret)):=by kernel_rfl
theorem Bp {cf:CallF}{id i n:Nat}{h:AHeap}{cs:List AV}(h1:h.get id=some (.cells [.rs i 0 n 1,.int .i64 0,.int .i8 0])) :
  ∃r h',a7 Tryd.prog cJ cf M 56 [.ptr id 0] h=some (r,h')∧r = .rs i 0 n 1∧h'=h:=by
 refine ak (fn:=Tryd.f56) (A:={gg:=[0,2],aG:=[]}) rfl Tryd.func56 (by kernel_rfl) (by kernel_rfl) ?_
 refine aF (Q:=fun s=>aI Tryd.prog (s.open {gg:=[0,2],aG:=[]}) Tryd.f56.results.toList=some (.rs i 0 n 1)∧s.h=h) (fun _ _ ⟨h1,h2,h3⟩=>⟨h1,_,h2,rfl,h3⟩) ?_
 refine Ar Lm ?_
 show de _ cf _ M _ ⟨[.ptr id 0,.any],[],h⟩ _
 refine oM ?_
 refine sZ (fs:=[]) (zs:=[]) (jA:=⟨[.ptr id 0,.nils],[],h⟩) (p:=(True)∧True) (by kernel_rfl) ⟨trivial,trivial⟩ ?_
 refine oM ?_
 refine sZ (fs:=[]) (zs:=[(3,.rs i 0 n 1,none),(7,.int .i64 0,none),(8,.rs i 0 n 1,none)]) (jA:=⟨[.ptr id 0,.rs i 0 n 1],[],h⟩) (p:=(True)∧bk Tryd.prog h 25 (.ptr id 0)=some (.rs i 0 n 1)∧bk Tryd.prog h 3 (.ptr id 1)=some (.int .i64 0)∧fc Tryd.prog 25 (.rs i 0 n 1) (some (.int .i64 0)) none none=some (.rs i 0 n 1)∧True) (by kernel_rfl) ⟨trivial,⟨?_,?_,?_,trivial⟩⟩ ?_
 ·simp only [bk,jg,h1,WL]; kernel_rfl
 ·simp only [bk,jg,h1,WL]; kernel_rfl
 ·have e1:Tryd.prog.underlying 25=some (.slice 5):=Tryd.underlying25
  have e2:ep Tryd.prog 5=some 1:=by kernel_rfl
  simp [fc,e1,e2,iA]
 refine yw ?_
 exact⟨.inl rfl,by kernel_rfl,rfl⟩
noncomputable def Jp:FuncId→Option (List AV→AHeap→Option (AV × AHeap)):=fun f=>if f=56 then some (fun args h=>(eT Tryd.prog zH M 1 56 args h).bind plainA) else G3 f
theorem G4:IntrOK Tryd.prog Jp:=intr_cons (plain_ok (sV fits (T:=zH) uv M 1) 56) (plain_steady (k9 (T:=zH) uv M 1) 56) uv
noncomputable def bu:oq:={aS:=cJ,intr:=Jp,pure:=N3}
noncomputable def cL:CallF:=iQ Tryd.prog bu M
theorem Ln:CallOK Tryd.prog cL:=Fc fits (T:=bu) G4
theorem RG:MM cL M:=fun args h=>tl (T:=bu) rfl
theorem RH:MN cL M:=fun args h=>tl (T:=bu) rfl
theorem VI:Su cL M:=by
 intro id i n cs h h1 h2 h3 h4 h5
 refine BN (T:=bu) rfl ?_
 obtain⟨r,h',hb,rfl,rfl⟩:=Bp (cf:=eT Tryd.prog zH M 0) (cs:=cs) h1
 have:eT Tryd.prog zH M 1 56 [.ptr id 0] h'=some (.rs i 0 n 1,h'):=hb
 simp only [this,WL,plainA,h2]
end Go.Proofs.YtmekcfdllhphlaaDoor
namespace Go.Proofs.YtmekcfdllhphlaaDoor
open Go Go.R
open Go.IntKind (i64 u64 u8 u32)
theorem DW:(a7 Tryd.prog cJ (eT Tryd.prog bu M 98) M 13 [] bH).map (fun x=>x.1)=some (.bool true):=by kernel_rfl
theorem VJ:Ss cL M:=by
 intro r H h xs hx
 have H:some true=some r:=H
 cases H
 obtain⟨⟨x,h'⟩,hb,e⟩:=WN.1 DW
 dsimp only at e
 subst e
 obtain⟨l,h1,h2⟩:=kK (P:=Tryd.prog) cJ M 13 [] bH _ _ hb
 have hb:=h2 cL fun e he=>kL.2 ⟨_,h1 e he⟩
 exact bp (T:=bu) (deep:=aX) rfl rfl aZ hx ⟨_,_,hb,bX (aj)⟩
end Go.Proofs.YtmekcfdllhphlaaDoor
namespace Go.Proofs.YtmekcfdllhphlaaDoor
open Go Go.R
open Go.IntKind (i64 u64 u8 u32)
theorem VK:TU cL M:=by
 intro l0 r H h xs hx
 exact bp (T:=bu) (deep:=aX) rfl rfl aZ hx (qM (cf:=cL) (m:=M) (aS:=cJ) rfl  l0 bH [] aR H)
theorem VL:QJ cL M:=by
 intro a0 b0 r H h xs hx
 exact bp (T:=bu) (deep:=aX) rfl rfl aZ hx (qy (cf:=cL) (m:=M) (aS:=cJ) rfl  a0 b0 bH [] aR H)
theorem VM:SX cL M:=by
 intro b0 r H h xs hx
 exact bp (T:=bu) (deep:=aX) rfl rfl aZ hx (rP (cf:=cL) (m:=M) (aS:=cJ) rfl  b0 bH [] aR H)
theorem VN:SZ cL M:=by
 intro n0 r H h xs hx
 exact bp (T:=bu) (deep:=aX) rfl rfl aZ hx (pw (cf:=cL) (m:=M) (aS:=cJ) rfl  n0 bH [] aR H)
theorem VO:S4 cL M:=by
 intro a0 b0 r H h xs hx
 exact bp (T:=bu) (deep:=aX) rfl rfl aZ hx (qw (cf:=cL) (m:=M) (aS:=cJ) rfl  a0 b0 bH [] aR H)
theorem TZ:Qx cL M:=by
 intro b0 r H h xs hx
 exact bp (T:=bu) (deep:=aX) rfl rfl aZ hx (pt (cf:=cL) (m:=M) (aS:=cJ) rfl VM b0 bH [] aR H)
theorem VP:SC cL M:=by
 intro s0 f0 r H h iO dy aL gP gT xs hx
 exact np (T:=bu) rfl rfl hx (w6 (cf:=cL) (m:=M) (aS:=cJ) rfl  s0 f0 h [] dy aL  gP gT (ly iO) H)
theorem VQ:SB cL M:=by
 intro s0 f0 r H h iO dy aL gP gT xs hx
 exact np (T:=bu) rfl rfl hx (w5 (cf:=cL) (m:=M) (aS:=cJ) rfl  s0 f0 h [] dy aL  gP gT (ly iO) H)
theorem RI:LG cL M:=by
 intro w0 n0 r H h L  bV cd o  xs hx
 obtain⟨r',h',hb,dz,rfl,ho⟩:=tV (cf:=cL) (m:=M) (aS:=cJ) rfl RG w0 n0 h L bV cd  o H
 exact⟨dz,h',jS (T:=bu) rfl rfl hx hb,ho⟩
theorem T0:Oo cL M:=by
 intro r0 r H h L  aB o  xs hx
 obtain⟨r',h',hb,rfl,ho⟩:=xn (cf:=cL) (m:=M) (aS:=cJ) rfl  r0 h L aB  o H
 exact⟨h',jS (T:=bu) rfl rfl hx hb,ho⟩
theorem VS:TW cL M:=by
 intro s0 s1 eq0 r H h iO iv bU kr lL xs hx
 exact np (T:=bu) rfl rfl hx (jc (cf:=cL) (m:=M) (aS:=cJ) rfl  s0 s1 eq0 h [] iv bU  kr lL (ly iO) H)
theorem VT:TX cL M:=by
 intro s0 s1 r H h xs hx
 exact bp (T:=bu) (deep:=aX) rfl rfl aZ hx (nZ (cf:=cL) (m:=M) (aS:=cJ) rfl  s0 s1 bH [] aR H)
theorem T1:∀kk,On cL M kk
 | 0=>by
  intro i0 x0 x1 x2 x3 r H h L  bT eB dO dD eK dU dL o  xs hx
  cases H
 | kk+1=>by
  intro i0 x0 x1 x2 x3 r H h L  bT eB dO dD eK dU dL o  xs hx
  obtain⟨r',h',hb,lF,rfl,ho⟩:=po (cf:=cL) (m:=M) (aS:=cJ) rfl  i0 x0 x1 x2 x3 h L bT eB dO dD eK dU dL  (T1 kk) o H
  exact⟨lF,h',jS (T:=bu) rfl rfl hx hb,ho⟩
theorem VU:SP cL M:=by
 intro w0 s0 r H h L  bV cd o  xs hx
 obtain⟨r',h',hb,dz,rfl,ho⟩:=xo (cf:=cL) (m:=M) (aS:=cJ) rfl RI RH w0 s0 h L bV cd  o H
 exact⟨dz,h',jS (T:=bu) rfl rfl hx hb,ho⟩
theorem VV:Tt cL M:=by
 intro l0 gG r H h xs hx
 exact bp (T:=bu) (deep:=aX) rfl rfl aZ hx (nY (cf:=cL) (m:=M) (aS:=cJ) rfl  l0 gG bH [] aR H)
theorem VW:Sx cL M:=by
 intro a0 x0 r H h L eG bT o fW
 exact np (T:=bu) rfl rfl (ao (aO (bD)) (ao (rfl) (bj))) (qo (cf:=cL) (m:=M) (aS:=cJ) rfl  a0 x0 h L  fW o H)
theorem VX:Sy cL M:=by
 intro s0 r H h xs hx
 exact bp (T:=bu) (deep:=aX) rfl rfl aZ hx (rJ (cf:=cL) (m:=M) (aS:=cJ) rfl  s0 bH [] aR H)
theorem VY:SI cL M:=by
 intro fX r H h xs hx
 exact bp (T:=bu) (deep:=aX) rfl rfl aZ hx (rN (cf:=cL) (m:=M) (aS:=cJ) rfl  fX bH [] aR H)
theorem RJ:Iq cL M:=by
 intro n0 dE r H h xs hx
 exact bp (T:=bu) (deep:=aX) rfl rfl aZ hx (qB (cf:=cL) (m:=M) (aS:=cJ) rfl  n0 dE bH [] aR H)
theorem N4:DJ cL M:=by
 intro a0 b0 r H h xs hx
 exact bp (T:=bu) (deep:=aX) rfl rfl aZ hx (qC (cf:=cL) (m:=M) (aS:=cJ) rfl  a0 b0 bH [] aR H)
theorem N6:AZ cL M:=by
 intro a0 b0 bn r H h xs hx
 exact bp (T:=bu) (deep:=aX) rfl rfl aZ hx (mY (cf:=cL) (m:=M) (aS:=cJ) rfl  a0 b0 bn bH [] aR H)
theorem RK:MR cL M:=by
 intro s0 f0 r H h iO dy aL gP gT xs hx
 exact np (T:=bu) rfl rfl hx (wZ (cf:=cL) (m:=M) (aS:=cJ) rfl  s0 f0 h [] dy aL  gP gT (ly iO) H)
theorem RL:M9 cL M:=by
 intro x0 r H h xs hx
 exact bp (T:=bu) (deep:=aX) rfl rfl aZ hx (nT (cf:=cL) (m:=M) (aS:=cJ) rfl  x0 bH [] aR H)
theorem RM:Na cL M:=by
 intro x0 r H h xs hx
 exact bp (T:=bu) (deep:=aX) rfl rfl aZ hx (lM (cf:=cL) (m:=M) (aS:=cJ) rfl  x0 bH [] aR H)
theorem RN:KU cL M:=by
 intro c0 r H h xs hx
 exact bp (T:=bu) (deep:=aX) rfl rfl aZ hx (pC (cf:=cL) (m:=M) (aS:=cJ) rfl  c0 bH [] aR H)
theorem RP:Kn cL M:=by
 intro c0 r H h xs hx
 exact bp (T:=bu) (deep:=aX) rfl rfl aZ hx (qi (cf:=cL) (m:=M) (aS:=cJ) rfl  c0 bH [] aR H)
theorem RQ:Kq cL M:=by
 intro aq a0 b0 aN r H h L cz aB o rm fG Dy AA xs hx
 have hn0:cz=aq.length:=dp (E:=aa) o (q:=0) rfl
 subst hn0
 obtain⟨r',h',hb,rfl,ho⟩:=mT (cf:=cL) (m:=M) (aS:=cJ) rfl  aq a0 b0 aN h L aB rm fG  Dy AA o H
 exact⟨h',jS (T:=bu) rfl rfl hx hb,ho⟩
theorem RR:Km cL M:=by
 intro aq a0 b0 n0 aN r H h L cz aB o en aW gz hH xs hx
 have hn0:cz=aq.length:=dp (E:=aa) o (q:=0) rfl
 subst hn0
 obtain⟨r',h',hb,rfl,ho⟩:=rG (cf:=cL) (m:=M) (aS:=cJ) rfl  aq a0 b0 n0 aN h L aB en aW  gz hH o H
 exact⟨h',jS (T:=bu) rfl rfl hx hb,ho⟩
theorem VZ:SD cL M:=by
 intro s0 f0 r H h iO dy aL gP gT xs hx
 exact np (T:=bu) rfl rfl hx (rL (cf:=cL) (m:=M) (aS:=cJ) rfl VP s0 f0 h [] dy aL  gP gT (ly iO) H)
theorem T2:PM cL M:=by
 intro s0 f0 r H h iO dy aL gP gT xs hx
 exact np (T:=bu) rfl rfl hx (rK (cf:=cL) (m:=M) (aS:=cJ) rfl VQ s0 f0 h [] dy aL  gP gT (ly iO) H)
theorem RU:KK cL M:=by
 intro r0 r H h L  aB o  xs hx
 obtain⟨r',h',hb,rfl,ho⟩:=tW (cf:=cL) (m:=M) (aS:=cJ) rfl T0 r0 h L aB  o H
 exact⟨h',jS (T:=bu) rfl rfl hx hb,ho⟩
theorem V0:Oq cL M:=by
 intro w0 n0 r H h L  bV cd o  xs hx
 obtain⟨r',h',hb,dz,rfl,ho⟩:=xp (cf:=cL) (m:=M) (aS:=cJ) rfl RG RI VU w0 n0 h L bV cd  o H
 exact⟨dz,h',jS (T:=bu) rfl rfl hx hb,ho⟩
theorem V1:SQ cL M:=by
 intro r0 r H h L  aB o  xs hx
 obtain⟨r',h',hb,rfl,ho⟩:=xq (cf:=cL) (m:=M) (aS:=cJ) rfl RU r0 h L aB  o H
 exact⟨h',jS (T:=bu) rfl rfl hx hb,ho⟩
theorem V2:Sw cL M:=by
 intro s0 f0 r H h iO dy aL gP gT xs hx
 exact np (T:=bu) rfl rfl hx (rI (cf:=cL) (m:=M) (aS:=cJ) rfl RK s0 f0 h [] dy aL  gP gT (ly iO) H)
theorem V3:SH cL M:=by
 intro x0 y0 r H h xs hx
 exact bp (T:=bu) (deep:=aX) rfl rfl aZ hx (mr (cf:=cL) (m:=M) (aS:=cJ) rfl RL x0 y0 bH [] aR H)
theorem V4:SJ cL M:=by
 intro x0 y0 r H h xs hx
 exact bp (T:=bu) (deep:=aX) rfl rfl aZ hx (kN (cf:=cL) (m:=M) (aS:=cJ) rfl RM x0 y0 bH [] aR H)
theorem V5:Tz cL M:=by
 intro s0 r H h xs hx
 exact bp (T:=bu) (deep:=aX) rfl rfl aZ hx (rX (cf:=cL) (m:=M) (aS:=cJ) rfl RN s0 bH [] aR H)
theorem RV:Ir cL M:=by
 intro l0 eh n0 bn r H h xs hx
 exact bp (T:=bu) (deep:=aX) rfl rfl aZ hx (rW (cf:=cL) (m:=M) (aS:=cJ) rfl N4 N6 l0 eh n0 bn bH [] aR H)
theorem RW:MP cL M:=by
 intro s0 kq nq r H h xs hx
 exact bp (T:=bu) (deep:=aX) rfl rfl aZ hx (tC (cf:=cL) (m:=M) (aS:=cJ) rfl RP s0 kq nq bH [] aR H)
theorem RX:MO cL M:=by
 intro aq a0 m0 b0 aN r H h L cz aB o en aW gz hH xs hx
 have hn0:cz=aq.length:=dp (E:=aa) o (q:=0) rfl
 subst hn0
 obtain⟨r',h',hb,rfl,ho⟩:=wX (cf:=cL) (m:=M) (aS:=cJ) rfl RR aq a0 m0 b0 aN h L aB en aW  gz hH o H
 exact⟨h',jS (T:=bu) rfl rfl hx hb,ho⟩
theorem V6:S3 cL M:=by
 intro t0 r H h xs hx
 exact bp (T:=bu) (deep:=aX) rfl rfl aZ hx (px (cf:=cL) (m:=M) (aS:=cJ) rfl T2 VN t0 bH [] aR H)
theorem V7:SY cL M:=by
 intro bb r H h xs hx
 exact bp (T:=bu) (deep:=aX) rfl rfl aZ hx (pv (cf:=cL) (m:=M) (aS:=cJ) rfl TZ RG RI V0 VI bb bH [] aR H)
theorem V8:Ot cL M:=by
 intro r0 r H h L  aB o  xs hx
 obtain⟨r',h',hb,rfl,ho⟩:=xt (cf:=cL) (m:=M) (aS:=cJ) rfl RU T0 V1 r0 h L aB  o H
 exact⟨h',jS (T:=bu) rfl rfl hx hb,ho⟩
theorem RY:Nb cL M:=by
 intro a0 b0 r H h xs hx
 exact bp (T:=bu) (deep:=aX) rfl rfl aZ hx (mu (cf:=cL) (m:=M) (aS:=cJ) rfl V3 VY V4 a0 b0 bH [] aR H)
theorem V9:TA cL M:=by
 intro s0 r H h xs hx
 exact bp (T:=bu) (deep:=aX) rfl rfl aZ hx (pD (cf:=cL) (m:=M) (aS:=cJ) rfl V5 s0 bH [] aR H)
theorem Wa:Te cL M:=by
 intro l0 r H h xs hx
 exact bp (T:=bu) (deep:=aX) rfl rfl aZ hx (nX (cf:=cL) (m:=M) (aS:=cJ) rfl RJ RV N4 N6 l0 bH [] aR H)
theorem Wb:Sv cL M:=by
 intro s0 r H h xs hx
 exact bp (T:=bu) (deep:=aX) rfl rfl aZ hx (tD (cf:=cL) (m:=M) (aS:=cJ) rfl RW s0 bH [] aR H)
theorem Wc:SK cL M:=by
 intro i0 j0 x0 r H h L eG bT o fW
 exact np (T:=bu) rfl rfl (ao (aO (bD)) (ao (aO (bD)) (ao (rfl) (bj)))) (mV (cf:=cL) (m:=M) (aS:=cJ) rfl RY i0 j0 x0 h L  fW o H)
theorem N7:∀kk,uR cL M kk
 | 0=>by
  intro aq a0 m0 b0 aN r H h L cz aB o en aW gz hH xs hx
  cases H
 | kk+1=>by
  intro aq a0 m0 b0 aN r H h L cz aB o en aW gz hH xs hx
  have hn0:cz=aq.length:=dp (E:=aa) o (q:=0) rfl
  subst hn0
  obtain⟨r',h',hb,rfl,ho⟩:=tN (cf:=cL) (m:=M) (aS:=cJ) rfl RX aq a0 m0 b0 aN h L aB en aW  (N7 kk) gz hH o H
  exact⟨h',jS (T:=bu) rfl rfl hx hb,ho⟩
theorem Wd:QZ cL M:=by
 intro n0 az r H h xs hx
 exact bp (T:=bu) (deep:=aX) rfl rfl aZ hx (qI (cf:=cL) (m:=M) (aS:=cJ) rfl V9 n0 az bH [] aR H)
theorem We:TC cL M:=by
 intro l0 gG r H h xs hx
 exact kc (T:=bu) (deep:=aX) rfl rfl aZ hx (qK (cf:=cL) (m:=M) (aS:=cJ) rfl VV Wa l0 gG bH [] aR H)
theorem Wf:Sz cL M:=by
 intro n0 mo r H h xs hx
 exact bp (T:=bu) (deep:=aX) rfl rfl aZ hx (tH (cf:=cL) (m:=M) (aS:=cJ) rfl Wb V2 VW VX n0 mo bH [] aR H)
theorem Wg:S64 cL M:=by
 intro m0 n0 r H h xs hx
 exact bp (T:=bu) (deep:=aX) rfl rfl aZ hx (pH (cf:=cL) (m:=M) (aS:=cJ) rfl RY VT m0 n0 bH [] aR H)
theorem RZ:M3 cL M:=by
 intro aq n0 aN r H h L cz aB o iv bU kr lL xs hx
 have hn0:cz=aq.length:=dp (E:=aa) o (q:=0) rfl
 subst hn0
 obtain⟨r',h',hb,rfl,ho⟩:=xc (cf:=cL) (m:=M) (aS:=cJ) rfl RQ (N7 _) aq n0 aN h L aB iv bU  kr lL o H
 exact⟨h',jS (T:=bu) rfl rfl hx hb,ho⟩
theorem Wh:TB cL M:=by
 intro t0 r H h xs hx
 exact bp (T:=bu) (deep:=aX) rfl rfl aZ hx (qJ (cf:=cL) (m:=M) (aS:=cJ) rfl Wd t0 bH [] aR H)
theorem Wi:Rd cL M:=by
 intro t0 r H h xs hx
 exact kc (T:=bu) (deep:=aX) rfl rfl aZ hx (qL (cf:=cL) (m:=M) (aS:=cJ) rfl Wh We t0 bH [] aR H)
theorem Wj:TY cL M:=by
 intro a0 b0 r H h xs hx
 exact bp (T:=bu) (deep:=aX) rfl rfl aZ hx (rY (cf:=cL) (m:=M) (aS:=cJ) rfl VS Wg a0 b0 bH [] aR H)
theorem Wk:SG cL M:=by
 intro n0 x0 r H h L eG bT o fW
 exact np (T:=bu) rfl rfl (ao (aO (lh (b5 (bD) (b5 (bD) (b5 (wT) (b5 (gy (E:=aa)) (fe))))))) (ao (rfl) (bj))) (ph (cf:=cL) (m:=M) (aS:=cJ) rfl Wf n0 x0 h L  fW o H)
theorem Wl:SF cL M:=by
 intro x0 aN r H h L FF aB o dy aL gP gT xs hx
 have hn0:FF=x0.length:=dp (E:=aa) o (q:=0) rfl
 subst hn0
 obtain⟨r',h',hb,rfl,ho⟩:=pg (cf:=cL) (m:=M) (aS:=cJ) rfl RZ x0 aN h L aB dy aL  gP gT o H
 exact⟨h',jS (T:=bu) rfl rfl hx hb,ho⟩
theorem Wm:TV cL M:=by
 intro l0 r H h xs hx
 exact bp (T:=bu) (deep:=aX) rfl rfl aZ hx (qN (cf:=cL) (m:=M) (aS:=cJ) rfl VK Wi l0 bH [] aR H)
theorem T3:PZ cL M:=by
 intro t0 r H h xs hx
 exact bp (T:=bu) (deep:=aX) rfl rfl aZ hx (rM (cf:=cL) (m:=M) (aS:=cJ) rfl T2 Wk t0 bH [] aR H)
theorem Wn:SL cL M:=by
 intro az r H h xs hx
 exact bp (T:=bu) (deep:=aX) rfl rfl aZ hx (pn (cf:=cL) (m:=M) (aS:=cJ) rfl RY Wl Wc az bH [] aR H)
theorem T4:Qk cL M:=by
 intro t0 r H h xs hx
 exact kc (T:=bu) (deep:=aX) rfl rfl aZ hx (rO (cf:=cL) (m:=M) (aS:=cJ) rfl Wn (T1 _) t0 bH [] aR H)
theorem Wo:RB cL M:=by
 intro a0 b0 r H h xs hx
 exact bp (T:=bu) (deep:=aX) rfl rfl aZ hx (uu (cf:=cL) (m:=M) (aS:=cJ) rfl T3 Wj T4 a0 b0 bH [] aR H)
theorem T5:Ou cL M:=by
 intro t0 r H h xs hx
 exact kc (T:=bu) (deep:=aX) rfl rfl aZ hx (rS (cf:=cL) (m:=M) (aS:=cJ) rfl T3 T4 t0 bH [] aR H)
theorem T6:QD cL M:=by
 intro bb r H h xs hx
 exact kc (T:=bu) (deep:=aX) rfl rfl aZ hx (rT (cf:=cL) (m:=M) (aS:=cJ) rfl T5 VZ V6 V7 bb bH [] aR H)
theorem Wp:QI cL M:=by
 intro t0 r H h xs hx
 exact kc (T:=bu) (deep:=aX) rfl rfl aZ hx (py (cf:=cL) (m:=M) (aS:=cJ) rfl T5 t0 bH [] aR H)
theorem Wq:S5 cL M:=by
 intro b0 r H h xs hx
 exact kc (T:=bu) (deep:=aX) rfl rfl aZ hx (rV (cf:=cL) (m:=M) (aS:=cJ) rfl T6 VO TZ RU V8 b0 bH [] aR H)
theorem j7:S7 cL M:=by
 intro l0 r H h xs hx
 exact bp (T:=bu) (deep:=aX) rfl rfl aZ hx (lO (cf:=cL) (m:=M) (aS:=cJ) rfl VJ T6 Wp VL Wq Wm Wo l0 bH [] aR H)
end Go.Proofs.YtmekcfdllhphlaaDoor
namespace Go.Proofs.YtmekcfdllhphlaaDoor
open Go Go.R Go.Proofs Go.RowKit Go.ChangeShapes Go.WideShapes
theorem zI {P:Program}{m:Nat}{t:TypeId}{uJ:List AV}(h:oL P m [t] uJ):∃xs,uJ=[oK P t xs]∧Fits P m t xs:=by
 cases uJ with
 | nil=>exact h.elim
 | cons x uJ=>
  obtain⟨⟨xs,hx,hf⟩,h⟩:=h
  cases uJ with
  | nil=>exact⟨xs,by rw [hx],hf⟩
  | cons _ _=>exact h.elim
theorem all_true (uJ:List AV)(h:oL Tryd.prog 6 Tryd.f7.params.toList uJ):∃cf h',CallOK Tryd.prog cf∧cf 7 uJ bH=some (.bool true,h'):=by
 rw [show Tryd.f7.params.toList=[22] from by rw [Tryd.params7]] at h
 obtain⟨xs,rfl,hx⟩:=zI h
 obtain⟨x,l,rfl,hf,hl⟩:=DV hx
 refine⟨cL,bH,Ln,?_⟩
 have e1:oK Tryd.prog 22 [x]=x:=by unfold oK; rw [Tryd.underlying22]; rfl
 rw [e1]
 exact j7 l true (DU (by decide) (fun t ht=>(hl t ht).1) fun t ht=>(hl t ht).2) bH [x] (hf bH)
noncomputable def uw : List (String × DataW Unit) := [("bytes.ErrTooLarge", Rows.laid_bytes_ErrTooLarge)]
theorem own:ownKnob Tryd.prog.godebug=none:=by kernel_rfl
noncomputable def vV (os:Os):World:=World.laidAll Tryd.prog os uw
theorem uZ (os:Os)(args:Array Value):laidMetH Tryd.prog uw ((vV os).forCall (fun _ _=>0) ⟨#[],args,[]⟩).memory:=by
 refine laidMetH_of_parts ?_ (by kernel_rfl)
 rw [show (uw.filter fun x=>x.2.handleName?.isNone)=uw from by kernel_rfl]
 exact laidMet_laidAll args (by kernel_rfl) (by kernel_rfl)
theorem pI (os:Os)(started:os.Started)(H:Type)(enc:TypeId × Value→H) :
  ReturnsInHanded {} Tryd.checked os 7 .any (fun w args=>(Rows.pickleBackSpec.pre enc Tryd.prog Tryd.f7 [] false w args∧laidMetH Tryd.prog uw w)∧sizedMet enc Tryd.prog Tryd.f7 (OpenSpec.ofChange Rows.pickleBackSpec) false w args)
   (Rows.pickleBackSpec.post enc Tryd.prog Tryd.f7 false true false false):=by
 refine returnsInHanded_of_change_and (C:=Tryd.checked) (X:=fun w _=>laidMetH Tryd.prog uw w) (fun _ _ _ hh h=>h.of_heap hh) own started (by kernel_rfl) Tryd.func7
  (ChangeSpec.witness_at (enc:=enc) (C:=Tryd.checked) (os:=os) (X:=fun w _=>laidMetH Tryd.prog uw w) false (vV os) #[.slice none 0 0] 8 (World.laidAll_os _ _ _) (by kernel_rfl) (by kernel_rfl) (by kernel_rfl) (by kernel_rfl) (by kernel_rfl) (uZ os _)) ?_
 intro W base args ds gs before dB hW _ _ hL _
 exact uK (cf:=fun _ _ _=>none) (P:=Tryd.prog) (m:=6) (tb:=4) (by kernel_rfl)
  (by rw [show Tryd.f7.params.toList=[22] from by rw [Tryd.params7]]; intro t ht; simp at ht; rcases ht with rfl; exact⟨by kernel_rfl,of_decide_eq_true (by kernel_rfl)⟩)
  (by rw [show Tryd.f7.params.toList=[22] from by rw [Tryd.params7]]; intro t ht; simp at ht; rcases ht with rfl; kernel_rfl) rfl rfl Tryd.underlying4
  (fun ds JF=>by
   have:ds.length=1:=by rw [JF]; rfl
   match ds,this with
   | [d],_=>rfl) all_true dB hW
theorem ux:Rows.PickleBackSaid:=
 OpenClaim.holds_of_wide 7 Tryd.f7 rfl rfl rfl rfl rfl rfl rfl ⟨rfl,rfl,rfl,rfl,rfl⟩ rfl rfl rfl rfl rfl (by kernel_rfl) Tryd.func7 (by kernel_rfl)
  (of_decide_eq_true (by kernel_rfl)) (by unfold Func.isWrapper; first | (rw [if_pos (by decide +kernel)]; kernel_rfl) | (rw [if_neg (by decide +kernel)]; exact⟨rfl,rfl⟩))
  (fun os started H enc _=>pI os started H enc)
theorem pickleBack_holds:Rows.PickleBackCardSaid:=
 Claim7.holds_tied_plain_at .later [] [.sentinel] true (true, "5c7c24f3f163267658839de8cc9f4545a02ccfedb2900f3b8e61d73ca287aaae") false
  ux (fun _ h=>by cases h) (by kernel_rfl) (fun _ h=>by cases h) pickleBack_row_tie rfl ⟨rfl,rfl⟩ (by kernel_rfl) rfl
  (fun f fn hf JX=>by
   obtain rfl : f = 7 := Xj ((show Tryd.prog.funcNamed "leatwork/leatworklaw20.PickleBack" = some 7 by kernel_rfl).symm.trans hf) |>.symm
   obtain rfl:fn=Tryd.f7:=(Xj (Tryd.func7.symm.trans JX)).symm
   exact⟨by kernel_rfl,fun j t ht=>by
    rw [Tryd.params7] at ht
    have h3:t=22:=by
     rcases j with _ | j
     ·simpa using ht.symm
     ·simp at ht
    rcases h3 with rfl
    exact (show Tryd.prog.wantsStandIn 22=false by kernel_rfl)⟩)
  (by kernel_rfl)
end Go.Proofs.YtmekcfdllhphlaaDoor
