/- Proved: PickleOne returns true for every input, over the card of its one listed variable; no condition. -/
import Derived.Test.YtmekcfdllhphlaaDoorK13
import Derived.Test.YtmekcfdllhphlaaDoorChecked
import Derived.Test.YtmekcfdllhphlaaDoorRows
import Derived.Test.YtmekcfdllhphlaaDoorCards
import Derived.Test.YtmekcfdllhphlaaDoorTie
import Derived.ChangeSame
import Derived.ChangeVars
import Derived.JoinedOf
import Derived.LaidLaws
import Derived.LaidHandle
import Derived.Lay
import Derived.Stop.Joined
import Derived.SevenTiedAt
set_option linter.unusedVariables false
set_option linter.unusedSimpArgs false
set_option maxRecDepth 100000
open Bool renaming and_eq_true → WV
open List renaming mem_singleton → W4, cons_append → Xj, mem_cons → Xo
open List.cons renaming inj → X7
open Option renaming bind_some → WQ, map_eq_some_iff → WS
open Option.some renaming inj → Xn
namespace Go.Proofs.YtmekcfdllhphlaaDoor
open Go Go.R
open Go.IntKind (i64 u64 u8 u32)
def IF:cd:=gh [0,1,2,3,4,5,6,7,8,9,10,11,12,17] [2,3] [16371,8179,16367,16275,15891,14367,8223,16367] [] []
def dV.f (m:Nat)(x0:au)(y0:au):Option (Bool):=(aY.f m ([x0,y0])).bind fun x1=>if (!x1)=true then ((mr.f m).bind fun x2=>some x2) else ((b6.f m ([x0])).bind fun x3=>(b6.f m ([y0])).bind fun x4=>(iy.f m x0 y0).bind fun x5=>(bK.f m x3.1 x4.1).bind fun x6=>if (x3.2==(0:Int))=true then (if (x4.2==(0:Int))=true then (if (x5.2==(0:Int))=true then (if (x6.2==(0:Int))=true then (if (x5.1==((bF x3.1).data.toList==(bF x4.1).data.toList))=true then (if (x6.1==x5.1)=true then ((mr.f m).bind fun x7=>some x7) else (some false)) else (some false)) else (some false)) else (some false)) else (some false)) else (some false))
def dV.fin (L:Mem)(r:Bool)(s:St):Prop:=∃av,aI Tryd.prog (s.open IF) Tryd.f9.results.toList=some av∧fA s.h av (.bool r)
def S9 (cf:CallF)(m:Nat):Prop:=∀(x0:au) (y0:au) (r:Bool),dV.f m x0 y0=some r→∀h xs,eA eQ h xs [.agg [af.fz x0.nodes,.int .i64 x0.root],.agg [af.fz y0.nodes,.int .i64 y0.root]]→cf 9 xs h=some (.bool r,h)
section
variable {cf:CallF}{m:Nat}
theorem mN {aS:FuncId→cd}(ha:aS 9=IF)(N4:Sw cf m)(Ip:QI cf m)(RG:TX cf m)(RH:T1 cf m)(RI:T2 cf m)(x0:au)(y0:au)(h:AHeap)(L:Mem)  (o:Has h (L)){out:Bool}(H:dV.f m x0 y0=some out) :
  ∃r h',aZ Tryd.prog aS cf m 9 [.agg [af.fz x0.nodes,.int .i64 x0.root],.agg [af.fz y0.nodes,.int .i64 y0.root]] h=some (r,h')∧fA h' r (.bool out):=by
 refine aj (fn:=Tryd.f9) ha Tryd.func9 (by kernel_rfl) (by kernel_rfl) ?_
 refine aD (Q:=fun s=>dV.fin L out s) (fun _ _ h=>h) ?_
 have H:_=some out:=H
 unfold dV.f at H
 show de _ cf IF m _ ⟨.agg [af.fz x0.nodes,.int .i64 x0.root] :: .agg [af.fz y0.nodes,.int .i64 y0.root]::mX [],[none,none],h⟩ _
 refine q1 <| qq <| qq ?_
 obtain⟨x1,e0,H⟩:=aJ H
 refine qr [.a 3 (RG _ _ e0 h _ (gf (ab (Az (E:=bl) (l:=[x0,y0]) (cs:=[af.fz x0.nodes,.int .i64 x0.root,af.fz y0.nodes,.int .i64 y0.root]) (b:=true) (pure_cons (cn.gd (E:=af) (l:=x0.nodes)) (pure_cons (gy) (pure_cons (cn.gd (E:=af) (l:=y0.nodes)) (pure_cons (gy) (pure_nil))))).1 (pure_cons (cn.gd (E:=af) (l:=x0.nodes)) (pure_cons (gy) (pure_cons (cn.gd (E:=af) (l:=y0.nodes)) (pure_cons (gy) (pure_nil))))).2 rfl) (ax))))] <| qc H (fun c0 H=>?_) (fun c0 H=>?_)
 ·refine qq ?_
  obtain⟨x2,e1,H⟩:=aJ H
  obtain rfl:=oi H
  exact qr [.a 0 (N4 _ e1 h _ (gf (ax)))] <| qt <| ⟨.inl rfl,ca (.bool x2) h (b8 (ak))⟩
 ·refine qk <| qq ?_
  obtain⟨x3,e2,H⟩:=aJ H
  refine qr [.a 2 (Ip _ _ e2 h _ (cG (EZ (E:=bl) (l:=[x0]) (cs:=[af.fz x0.nodes,.int .i64 x0.root]) (b:=true) (pure_cons (cn.gd (E:=af) (l:=x0.nodes)) (pure_cons (gy) (pure_nil))).1 (pure_cons (cn.gd (E:=af) (l:=x0.nodes)) (pure_cons (gy) (pure_nil))).2 rfl) (gA)))] <| qq ?_
  obtain⟨x4,e3,H⟩:=aJ H
  refine qr [.a 2 (Ip _ _ e3 h _ (cG (EZ (E:=bl) (l:=[y0]) (cs:=[af.fz y0.nodes,.int .i64 y0.root]) (b:=true) (pure_cons (cn.gd (E:=af) (l:=y0.nodes)) (pure_cons (gy) (pure_nil))).1 (pure_cons (cn.gd (E:=af) (l:=y0.nodes)) (pure_cons (gy) (pure_nil))).2 rfl) (gA)))] <| qq ?_
  obtain⟨x5,e4,H⟩:=aJ H
  refine qr [.a 2 (RH _ _ _ e4 h _ (gf (ab (cg (ab (b4 (E:=af)) (ab (aH) (ax)))) (ab (cg (ab (b4 (E:=af)) (ab (aH) (ax)))) (ax)))))] <| qq ?_
  obtain⟨x6,e5,H⟩:=aJ H
  refine qr [.a 2 (RI _ _ _ e5 h _ (gf (ab (b4 (E:=ao)) (ab (b4 (E:=ao)) (ax)))))] <| qq ?_
  rcases dF H with⟨c1,H⟩| ⟨c1,H⟩
  ·rcases dF H with⟨c2,H⟩| ⟨c2,H⟩
   ·rcases dF H with⟨c3,H⟩| ⟨c3,H⟩
    ·rcases dF H with⟨c4,H⟩| ⟨c4,H⟩
     ·rcases dF H with⟨c5,H⟩| ⟨c5,H⟩
      ·rcases dF H with⟨c6,H⟩| ⟨c6,H⟩
       ·obtain⟨x7,e6,H⟩:=aJ H
        obtain rfl:=oi H
        exact qr [.b 2 c1,.b 6 c2,.b 10 c3,.b 14 c4,.v 17 (show dW Tryd.prog h 25 9 (ao.fz x3.1)=some (.str (bF x3.1)) from ll (e:=5) (l:=x3.1) rfl rfl rfl (oV _)),.v 19 (show dW Tryd.prog h 25 9 (ao.fz x4.1)=some (.str (bF x4.1)) from ll (e:=5) (l:=x4.1) rfl rfl rfl (oV _)),.b 23 c5,.b 28 c6,.a 29 (N4 _ e6 h _ (gf (ax)))] <| qt <| ⟨.inl rfl,ca (.bool x7) h (b8 (ak))⟩
       ·obtain rfl:=oi H
        exact qr [.b 2 c1,.b 6 c2,.b 10 c3,.b 14 c4,.v 17 (show dW Tryd.prog h 25 9 (ao.fz x3.1)=some (.str (bF x3.1)) from ll (e:=5) (l:=x3.1) rfl rfl rfl (oV _)),.v 19 (show dW Tryd.prog h 25 9 (ao.fz x4.1)=some (.str (bF x4.1)) from ll (e:=5) (l:=x4.1) rfl rfl rfl (oV _)),.b 23 c5,.b 28 c6] <| qt <| ⟨.inl rfl,ca (.bool false) h (b8 (ak))⟩
      ·obtain rfl:=oi H
       exact qr [.b 2 c1,.b 6 c2,.b 10 c3,.b 14 c4,.v 17 (show dW Tryd.prog h 25 9 (ao.fz x3.1)=some (.str (bF x3.1)) from ll (e:=5) (l:=x3.1) rfl rfl rfl (oV _)),.v 19 (show dW Tryd.prog h 25 9 (ao.fz x4.1)=some (.str (bF x4.1)) from ll (e:=5) (l:=x4.1) rfl rfl rfl (oV _)),.b 23 c5] <| qt <| ⟨.inl rfl,ca (.bool false) h (b8 (ak))⟩
     ·obtain rfl:=oi H
      exact qr [.b 2 c1,.b 6 c2,.b 10 c3,.b 14 c4] <| qt <| ⟨.inl rfl,ca (.bool false) h (b8 (ak))⟩
    ·obtain rfl:=oi H
     exact qr [.b 2 c1,.b 6 c2,.b 10 c3] <| qt <| ⟨.inl rfl,ca (.bool false) h (b8 (ak))⟩
   ·obtain rfl:=oi H
    exact qr [.b 2 c1,.b 6 c2] <| qt <| ⟨.inl rfl,ca (.bool false) h (b8 (ak))⟩
  ·obtain rfl:=oi H
   exact qr [.b 2 c1] <| qt <| ⟨.inl rfl,ca (.bool false) h (b8 (ak))⟩
end
end Go.Proofs.YtmekcfdllhphlaaDoor
namespace Go.Proofs.YtmekcfdllhphlaaDoor
open Go Go.R
open Go.IntKind (i64 u64 u8 u32)
theorem G2 {m:Nat}(hm:5≤m){x y:List Int}{l k:List au}(hx:bc.f m x=some (l,0))(hy:bc.f m y=some (k,0)):bK.f m x y=(dj.f m x y).bind fun x4=>some (x4,(0:Int)):=by
 obtain⟨f,rfl⟩:∃f,m=f+1+1+1:=⟨m - 3,by omega⟩
 have e0:ix ([x,y]:List (List Int)) 0=some x:=rfl
 have e1:ix ([x,y]:List (List Int)) 1=some y:=rfl
 have w1:i64.wrap ((0:Int)+1)=1:=by decide
 have w2:i64.wrap ((1:Int)+1)=2:=by decide
 unfold bK.f
 conv=>lhs; arg 1; unfold bK.l0
 rw [if_pos (by simp),e0,WQ,hx,WQ,if_neg (by simp),w1]
 conv=>lhs; arg 1; unfold bK.l0
 rw [if_pos (by simp),e1,WQ,hy,WQ,if_neg (by simp),w2]
 conv=>lhs; arg 1; unfold bK.l0
 rw [if_neg (by simp)]
 rfl
theorem G3 {m:Nat}(hm:2 ^ 63≤m){a b:au}(hl:∀t∈[a,b],t.nodes.length<2 ^ 63)(h0:∀t∈[a,b],Gq t):dV.f m a b=some true:=by
 have rD:(2:Nat) ^ 41=2199023255552:=by decide
 have Hm:(2:Nat) ^ 63=9223372036854775808:=by decide
 obtain⟨v,k1,k2⟩:=DX hm hl h0
 unfold dV.f
 rw [k1,WQ]
 cases v with
 | false=>rfl
 | true=>
  have I:=k2 rfl
  have A:=I.one (t:=a) (by simp)
  have B:=I.one (t:=b) (by simp)
  have va:=I.val a (by simp)
  have vb:=I.val b (by simp)
  obtain⟨y,k3,k4⟩:=DY (m:=m) (by omega) va.1 vb.1 va.2 vb.2
  have OL:=CF (m:=m) (by omega) A
  have hgb:=CF (m:=m) (by omega) B
  have hE:=G2 (m:=m) (by omega) OL hgb
  rw [xM,WQ] at hE
  have hy:((bF (pk m [a])).data.toList==(bF (pk m [b])).data.toList)=y:=by
   by_cases e:lf m a=lf m b
   ·have:=k4.2 e
    subst this
    have:pk m [a]=pk m [b]:=by unfold pk; simp [e]
    rw [this]; simp
   ·have:y=false:=by cases y with | false=>rfl | true=>exact absurd (k4.1 rfl) e
    subst this
    cases hb:((bF (pk m [a])).data.toList==(bF (pk m [b])).data.toList) with
    | false=>rfl
    | true=>
     obtain⟨c,P⟩:=A.pk (m:=m) (by omega)
     obtain⟨d,Q⟩:=B.pk (m:=m) (by omega)
     have:=A6 (m:=m) (a:=pk m [a]) (b:=pk m [b]) (by rw [P.eq]; exact (uc fun t ht=>(P.w t ht).2).append P.TV) (by rw [Q.eq]; exact (uc fun t ht=>(Q.w t ht).2).append Q.TV) (by rw [xM,hb])
     rw [this,hgb] at OL
     simp at OL
     exact absurd OL.symm e
  rw [if_neg (by simp),xL (by omega) A,WQ,xL (by omega) B,WQ,k3,WQ]
  dsimp only
  rw [hE,WQ,hy]
  rw [if_pos (by simp),if_pos (by simp),if_pos (by simp),if_pos (by simp),if_pos (by simp),if_pos (by simp)]
  rfl
end Go.Proofs.YtmekcfdllhphlaaDoor
namespace Go.Proofs.YtmekcfdllhphlaaDoor
open Go Go.R
open Go.IntKind (i64 u64 u8 u32)
def Nf (xs ys:List AV):Prop:=cW xs=true∧dm xs=ys
theorem vV:∀a b:List AV,cW (a++b)=(cW a&&cW b)
 | [],b=>rfl
 | x::a,b=>by rw [Xj,cW,cW,vV,Bool.and_assoc]
theorem vW:∀a b:List AV,dm (a++b)=dm a++dm b
 | [],b=>rfl
 | x::a,b=>by rw [Xj,dm,dm,vW,Xj]
theorem Nf.app {a b c d:List AV}(h:Nf a c)(k:Nf b d):Nf (a++b) (c++d):=⟨by rw [vV,h.1,k.1]; rfl,by rw [vW,h.2,k.2]⟩
theorem Nf.nil:Nf [] []:=⟨rfl,rfl⟩
theorem Nf.fz {α:Type}{E:cn α}{cs:List AV}{l:List α}{n:Nat}{b:Bool}(h:Nf cs (E.l l))(hn:n=l.length):Nf [.fz cs n b] [E.fz l]:=by
 subst hn
 exact⟨by show (AV.dI (.fz cs l.length b)&&cW [])=true; simp [AV.dI,h.1,cW],by show [AV.fz (dm cs) l.length false]=_; rw [h.2]; rfl⟩
theorem Nf.nils {α:Type}{E:cn α}:Nf [.nils] [E.fz []]:=⟨rfl,rfl⟩
theorem zL {α:Type}{E:cn α}{Pr:α→Prop}:∀{els:List (List AV)},(∀el∈els,∃a,Nf el (E.f a)∧Pr a)→∃l:List α,Nf els.flatten (E.l l)∧l.length=els.length∧∀a∈l,Pr a
 | [],_=>⟨[],Nf.nil,rfl,fun a ha=>by cases ha⟩
 | el::els,h=>by
  obtain⟨a,h1,h2⟩:=h el (by simp)
  obtain⟨l,h3,h4,h5⟩:=zL (E:=E) (Pr:=Pr) (els:=els) fun e he=>h e (by simp [he])
  refine⟨a::l,?_,by simp [h4],fun x hx=>?_⟩
  ·rw [List.flatten_cons,cn.ec]; exact h1.app h3
  ·rcases Xo.1 hx with rfl | hx
   ·exact h2
   ·exact h5 x hx
theorem G4 {α:Type}{E:cn α}{Pr:α→Prop}{n t e:Nat}{xs:List AV}(ht:Tryd.prog.underlying t=some (.slice e))(h:Fits Tryd.prog (n+1) t xs)
  (he:∀el,Fits Tryd.prog n e el→∃a,Nf el (E.f a)∧Pr a):∃l:List α,Nf xs [E.fz l]∧l.length≤maxLen∧∀a∈l,Pr a:=by
 unfold Fits at h
 rw [ht] at h
 rcases h with rfl | ⟨els,rfl,h1,h⟩
 ·exact⟨[],Nf.nils,by simp,fun a ha=>by cases ha⟩
 ·obtain⟨l,h2,h3,h4⟩:=zL (E:=E) (Pr:=Pr) fun el Mz=>he el (h el Mz).2
  exact⟨l,h2.fz h3.symm,by omega,h4⟩
theorem xN {n:Nat}{xs:List AV}(h:Fits Tryd.prog (n+1) 3 xs):∃z:Int,Nf xs (aa.f z)∧z<2 ^ 63:=by
 unfold Fits at h
 rw [Tryd.underlying3] at h
 obtain⟨z,rfl,_,hz⟩:=h
 have hz:z≤9223372036854775807:=hz
 exact⟨z,⟨rfl,rfl⟩,by omega⟩
theorem G5 {n:Nat}{xs:List AV}(h:Fits Tryd.prog (n+3) 48 xs):∃v:ae,Nf xs (af.f v)∧v.int<2 ^ 63:=by
 unfold Fits at h
 rw [Tryd.underlying48] at h
 obtain⟨a,b,rfl,_,h1,h⟩:=h
 obtain⟨c,d,rfl,_,h2,h⟩:=h
 obtain⟨e,f,rfl,_,h3,h⟩:=h
 obtain⟨g,k,rfl,_,h4,h⟩:=h
 have h:k=[]:=h
 subst h
 obtain⟨z1,i1,_⟩:=xN h1
 obtain⟨z2,i2,j2⟩:=xN h2
 obtain⟨l,i4,_,_⟩:=G4 (E:=aa) (Pr:=fun z=>z<2 ^ 63) Tryd.underlying42 h4 fun el h=>xN h
 have h3:∃s:ByteArray,e=[.str s]:=by
  unfold Fits at h3
  rw [Tryd.underlying9] at h3
  obtain⟨s,hs,_⟩:=h3
  exact⟨s,hs⟩
 obtain⟨s,rfl⟩:=h3
 exact⟨⟨z1,z2,s,l⟩,i1.app (i2.app (Nf.app (a:=[.str s]) (c:=[.str s]) ⟨rfl,rfl⟩ (i4.app Nf.nil))),j2⟩
def Bp (t:au):Prop:=t.nodes.length<2 ^ 63∧Gq t
theorem G6 {n:Nat}{xs:List AV}(h:Fits Tryd.prog (n+5) 31 xs):∃t:au,Nf xs (bl.f t)∧Bp t:=by
 unfold Fits at h
 rw [Tryd.underlying31] at h
 obtain⟨a,b,rfl,_,h1,h⟩:=h
 obtain⟨c,d,rfl,_,h2,h⟩:=h
 have h:d=[]:=h
 subst h
 obtain⟨l,i1,k1,k2⟩:=G4 (E:=af) (Pr:=fun v=>v.int<2 ^ 63) Tryd.underlying29 h1 fun el h=>G5 h
 obtain⟨z,i2,_⟩:=xN h2
 refine⟨⟨l,z⟩,i1.app (i2.app Nf.nil),?_,fun v hv _=>k2 v hv⟩
 have:maxLen<2 ^ 63:=by decide
 show l.length<_
 omega
theorem IG {t e n:Nat}{xs:List AV}(ht:Tryd.prog.underlying t=some (.slice e))(h:Fits Tryd.prog (n+1) t xs):∃x,xs=[x]∧(x = .nils∨∃cs n b,x = .fz cs n b):=by
 unfold Fits at h
 rw [ht] at h
 rcases h with rfl | ⟨els,rfl,_⟩
 ·exact⟨_,rfl,.inl rfl⟩
 ·exact⟨_,rfl,.inr ⟨_,_,_,rfl⟩⟩
end Go.Proofs.YtmekcfdllhphlaaDoor
namespace Go.Proofs.YtmekcfdllhphlaaDoor
open Go Go.R
open Go.IntKind (i64 u64 u8 u32)
theorem zM {n:Nat}{xs:List AV}(h:Fits Tryd.prog (n+5) 31 xs):∃t:au,Bp t∧∀hp,lL 4 hp (mg Tryd.prog 31 xs) (.agg [af.fz t.nodes,.int .i64 t.root]):=by
 obtain⟨t,⟨N1,N2⟩,hT⟩:=G6 h
 refine⟨t,hT,fun hp=>?_⟩
 unfold Fits at h
 rw [Tryd.underlying31] at h
 obtain⟨a,b,rfl,_,h1,h⟩:=h
 obtain⟨c,d,rfl,_,h2,h⟩:=h
 have h:d=[]:=h
 subst h
 obtain⟨x,rfl,hx⟩:=IG Tryd.underlying29 h1
 have h2:∃z:Int,c=[.int .i64 z]:=by
  unfold Fits at h2
  rw [Tryd.underlying3] at h2
  obtain⟨z,hz,_⟩:=h2
  exact⟨z,hz⟩
 obtain⟨z,rfl⟩:=h2
 have e2:[x.j5,.int .i64 z]=[af.fz t.nodes,.int .i64 t.root]:=N2
 have e3:=(X7 e2).1
 have e4:=(X7 (X7 e2).2).1
 have g1:x.dI=true:=by
  have:(x.dI&&(AV.dI (.int .i64 z)&&true))=true:=N1
  simp only [WV] at this
  exact this.1
 have ea:mg Tryd.prog 31 ([x]++([.int .i64 z]++[])) = .agg [x,.int .i64 z]:=by unfold mg; rw [Tryd.underlying31]; rfl
 rw [ea,←e4]
 exact (cg (ab (mT g1 (by rcases hx with rfl | ⟨cs,n,b,rfl⟩<;>exact fun _=>rfl) e3) (ab aH ax))).mono (by decide)
theorem zN {P:Program}{m:Nat}{t u:TypeId}{sW:List AV}(h:oO P m [t,u] sW):∃xs ys,sW=[mg P t xs,mg P u ys]∧Fits P m t xs∧Fits P m u ys:=by
 cases sW with
 | nil=>exact h.elim
 | cons x sW=>
  obtain⟨⟨xs,hx,hf⟩,h⟩:=h
  cases sW with
  | nil=>exact h.elim
  | cons y sW=>
   obtain⟨⟨ys,hy,hg⟩,h⟩:=h
   cases sW with
   | nil=>exact⟨xs,ys,by rw [hx,hy],hf,hg⟩
   | cons _ _=>exact h.elim
end Go.Proofs.YtmekcfdllhphlaaDoor
namespace Go.Proofs.YtmekcfdllhphlaaDoor
open Go Go.R Go.Shelf
def LP:Ren:={
 f:=(fun x=>match x with | 178=>101 | 179=>53 | 181=>98 | 184=>99 | 251=>72 | 252=>73 | 290=>100 | 324=>117 | n=>n),
 t:=(fun x=>match x with | 0=>0 | 3=>3 | 4=>4 | 5=>5 | 9=>9 | 20=>20 | 37=>25 | 75=>85 | 80=>93 | 91=>79 | 93=>81 | 130=>104 | 131=>100 | n=>n),
 g:=(fun x=>match x with | 14=>0 | n=>n)}
theorem II:LaysM.n179 Tryd.prog LP:={
 mixed:=by kernel_rfl,
 f179:=Tryd.func53.trans (congrArg some (by kernel_rfl)),
 f181:=Tryd.func98.trans (congrArg some (by kernel_rfl)),
 f184:=Tryd.func99.trans (congrArg some (by kernel_rfl)),
 f251:=Tryd.func72.trans (congrArg some (by kernel_rfl)),
 f252:=Tryd.func73.trans (congrArg some (by kernel_rfl)),
 f290:=Tryd.func100.trans (congrArg some (by kernel_rfl)),
 f324:=Tryd.func117.trans (congrArg some (by kernel_rfl)),
 t0:=Tryd.underlying0,
 a0:=Tryd.isAgg0,
 z0:=Tryd.sizeOf0,
 v0:=Tryd.zeroValue0,
 t3:=Tryd.underlying3,
 a3:=Tryd.isAgg3,
 z3:=Tryd.sizeOf3,
 v3:=Tryd.zeroValue3,
 t4:=Tryd.underlying4,
 a4:=Tryd.isAgg4,
 z4:=Tryd.sizeOf4,
 v4:=Tryd.zeroValue4,
 t5:=Tryd.underlying5,
 a5:=Tryd.isAgg5,
 z5:=Tryd.sizeOf5,
 v5:=Tryd.zeroValue5,
 t20:=Tryd.underlying20,
 a20:=Tryd.isAgg20,
 z20:=Tryd.sizeOf20,
 v20:=Tryd.zeroValue20,
 t37:=Tryd.underlying25,
 a37:=Tryd.isAgg25,
 z37:=Tryd.sizeOf25,
 v37:=Tryd.zeroValue25,
 t75:=Tryd.underlying85,
 a75:=Tryd.isAgg85,
 z75:=Tryd.sizeOf85,
 v75:=Tryd.zeroValue85,
 t91:=Tryd.underlying79,
 a91:=Tryd.isAgg79,
 z91:=Tryd.sizeOf79,
 v91:=Tryd.zeroValue79,
 t93:=Tryd.underlying81,
 a93:=Tryd.isAgg81,
 z93:=Tryd.sizeOf81,
 v93:=Tryd.zeroValue81,
 t130:=Tryd.underlying104,
 a130:=Tryd.isAgg104,
 z130:=Tryd.sizeOf104,
 v130:=Tryd.zeroValue104,
 t131:=Tryd.underlying100,
 a131:=Tryd.isAgg100,
 z131:=Tryd.sizeOf100,
 v131:=Tryd.zeroValue100,
 g14:=by kernel_rfl,
 t9:=Tryd.underlying9,
 a9:=Tryd.isAgg9,
 z9:=Tryd.sizeOf9,
 v9:=Tryd.zeroValue9,
 t80:=Tryd.underlying93,
 a80:=Tryd.isAgg93,
 z80:=Tryd.sizeOf93,
 v80:=Tryd.zeroValue93,
 i0:=by kernel_rfl,
 i3:=by kernel_rfl,
 i4:=by kernel_rfl,
 i5:=by kernel_rfl,
 i9:=by kernel_rfl,
 i20:=by kernel_rfl,
 i37:=by kernel_rfl,
 i75:=by kernel_rfl,
 i80:=by kernel_rfl,
 i91:=by kernel_rfl,
 i93:=by kernel_rfl,
 i130:=by kernel_rfl,
 i131:=by kernel_rfl,
 m14:=by kernel_rfl}
theorem IJ:LaysM.n178 Tryd.prog LP:={
 mixed:=by kernel_rfl,
 f178:=Tryd.func101.trans (congrArg some (by kernel_rfl)),
 f181:=Tryd.func98.trans (congrArg some (by kernel_rfl)),
 f184:=Tryd.func99.trans (congrArg some (by kernel_rfl)),
 f251:=Tryd.func72.trans (congrArg some (by kernel_rfl)),
 f252:=Tryd.func73.trans (congrArg some (by kernel_rfl)),
 f290:=Tryd.func100.trans (congrArg some (by kernel_rfl)),
 f324:=Tryd.func117.trans (congrArg some (by kernel_rfl)),
 t0:=Tryd.underlying0,
 a0:=Tryd.isAgg0,
 z0:=Tryd.sizeOf0,
 v0:=Tryd.zeroValue0,
 t3:=Tryd.underlying3,
 a3:=Tryd.isAgg3,
 z3:=Tryd.sizeOf3,
 v3:=Tryd.zeroValue3,
 t4:=Tryd.underlying4,
 a4:=Tryd.isAgg4,
 z4:=Tryd.sizeOf4,
 v4:=Tryd.zeroValue4,
 t9:=Tryd.underlying9,
 a9:=Tryd.isAgg9,
 z9:=Tryd.sizeOf9,
 v9:=Tryd.zeroValue9,
 t20:=Tryd.underlying20,
 a20:=Tryd.isAgg20,
 z20:=Tryd.sizeOf20,
 v20:=Tryd.zeroValue20,
 t37:=Tryd.underlying25,
 a37:=Tryd.isAgg25,
 z37:=Tryd.sizeOf25,
 v37:=Tryd.zeroValue25,
 t75:=Tryd.underlying85,
 a75:=Tryd.isAgg85,
 z75:=Tryd.sizeOf85,
 v75:=Tryd.zeroValue85,
 t91:=Tryd.underlying79,
 a91:=Tryd.isAgg79,
 z91:=Tryd.sizeOf79,
 v91:=Tryd.zeroValue79,
 t93:=Tryd.underlying81,
 a93:=Tryd.isAgg81,
 z93:=Tryd.sizeOf81,
 v93:=Tryd.zeroValue81,
 t130:=Tryd.underlying104,
 a130:=Tryd.isAgg104,
 z130:=Tryd.sizeOf104,
 v130:=Tryd.zeroValue104,
 t131:=Tryd.underlying100,
 a131:=Tryd.isAgg100,
 z131:=Tryd.sizeOf100,
 v131:=Tryd.zeroValue100,
 g14:=by kernel_rfl,
 t5:=Tryd.underlying5,
 a5:=Tryd.isAgg5,
 z5:=Tryd.sizeOf5,
 v5:=Tryd.zeroValue5,
 t80:=Tryd.underlying93,
 a80:=Tryd.isAgg93,
 z80:=Tryd.sizeOf93,
 v80:=Tryd.zeroValue93,
 i0:=by kernel_rfl,
 i3:=by kernel_rfl,
 i4:=by kernel_rfl,
 i5:=by kernel_rfl,
 i9:=by kernel_rfl,
 i20:=by kernel_rfl,
 i37:=by kernel_rfl,
 i75:=by kernel_rfl,
 i80:=by kernel_rfl,
 i91:=by kernel_rfl,
 i93:=by kernel_rfl,
 i130:=by kernel_rfl,
 i131:=by kernel_rfl,
 m14:=by kernel_rfl}
theorem fits:Fit Tryd.prog:=JX (by kernel_rfl) (by kernel_rfl)
theorem IK:∀(vs:Array Value) (w:World),(callFunc (LP.f 179) vs).run Tryd.prog w = .ok (.enter (LP.f 179) vs) w:=
 jV (c:=codeOf Tryd.f53) Tryd.func53 (by kernel_rfl) (by decide +kernel)
theorem G7:∀(vs:Array Value) (w:World),(callFunc (LP.f 178) vs).run Tryd.prog w = .ok (.enter (LP.f 178) vs) w:=
 jV (c:=codeOf Tryd.f101) Tryd.func101 (by kernel_rfl) (by decide +kernel)
noncomputable def G8:FuncId→Option (List AV→AHeap→Option (AV × AHeap)):=fun f=>if f=53 then some (wbA 5) else if f=101 then some (wsA 5) else none
theorem ux:IntrOK Tryd.prog G8:=intr_cons (f0:=53) (wb_ok II IK) wb_steady (intr_cons (f0:=101) (ws_ok IJ G7) ws_steady C6)
end Go.Proofs.YtmekcfdllhphlaaDoor
namespace Go.Proofs.YtmekcfdllhphlaaDoor
open Go Go.R
open Go.IntKind (i64 u64 u8 u32)
def cK:Nat→cd
 | 9=>IF
 | 12=>vS
 | 13=>{gg:=[0,1,2,3,4,5,6,7,8,9,10],aF:=[9]}
 | 14=>zi
 | 16=>gh [0,1,2,3] [1,2] [9,3] [] []
 | 18=>gh [0,1,2,3,4,5,6,7,8,22,27,67,72,85] [2,3,6,7] [16371,15859,16367,16339,15315,16339,16147,14099,16367,15891,11795,15891,7699,16367,16367] [] []
 | 19=>vO
 | 20=>vT
 | 21=>vM
 | 24=>CI
 | 25=>zq
 | 26=>zK
 | 28=>gh [0,2] [2] [0,1] [] []
 | 29=>gh [0] [0] [] [] []
 | 30=>gh [0,1,4] [] [4,3] [] []
 | 31=>Ck
 | 32=>BZ
 | 33=>Cn
 | 34=>BY
 | 35=>Cl
 | 36=>vN
 | 37=>Cv
 | 41=>Co
 | 42=>Cj
 | 43=>ze
 | 44=>vL
 | 45=>B6
 | 46=>CH
 | 47=>Cd
 | 48=>zp
 | 51=>yR
 | 52=>yQ
 | 53=>{gg:=[0,1,4,5,6,16],aF:=[]}
 | 54=>zd
 | 55=>zg
 | 56=>{gg:=[0,2],aF:=[]}
 | 57=>lJ
 | 59=>Cg
 | 60=>Ci
 | 61=>B5
 | 62=>BW
 | 63=>zG
 | 64=>CG
 | 65=>B9
 | 66=>zH
 | 67=>pq
 | 68=>y8
 | 69=>Cu
 | 74=>Ch
 | 75=>vQ
 | 76=>mI
 | 77=>BS
 | 78=>BT
 | 79=>BU
 | 80=>BV
 | 81=>B7
 | 82=>yX
 | 83=>B8
 | 84=>B4
 | 85=>Ca
 | 86=>zo
 | 101=>{gg:=[0,1,4,5,6,7,19],aF:=[]}
 | 102=>uf
 | 103=>uh
 | 104=>xE
 | 105=>ug
 | 106=>tE
 | 107=>tH
 | 108=>xg
 | 109=>xh
 | 110=>nW
 | 111=>xH
 | 118=>w5
 | 119=>qp
 | 120=>lu
 | 122=>tA
 | 123=>tw
 | _=>{gg:=[],aF:=[]}
def aW:Nat:=18014398509481984
theorem a6:jy+eQ≤aW:=by decide
def N6:Nat→Option Nat
 | 9=>some aW
 | 12=>some aW
 | 13=>some aW
 | 14=>some aW
 | 16=>some aW
 | 18=>some aW
 | 19=>some aW
 | 20=>some aW
 | 21=>some aW
 | 24=>some aW
 | 25=>some aW
 | 26=>some aW
 | 28=>some aW
 | 29=>some aW
 | 30=>some aW
 | 31=>some aW
 | 33=>some aW
 | 35=>some aW
 | 36=>some aW
 | 37=>some aW
 | 41=>some aW
 | 42=>some aW
 | 45=>some aW
 | 46=>some aW
 | 47=>some aW
 | 48=>some aW
 | 57=>some aW
 | 62=>some aW
 | 64=>some aW
 | 65=>some aW
 | 66=>some aW
 | 67=>some aW
 | 69=>some aW
 | 75=>some aW
 | 76=>some aW
 | 77=>some aW
 | 80=>some aW
 | 81=>some aW
 | 82=>some aW
 | 83=>some aW
 | 86=>some aW
 | 102=>some aW
 | 103=>some aW
 | 104=>some aW
 | 105=>some aW
 | 106=>some aW
 | 108=>some aW
 | 109=>some aW
 | 111=>some aW
 | 118=>some aW
 | _=>none
def M:Nat:=18446744073709551616
noncomputable def zO:ow:={aS:=cK,intr:=G8,pure:=fun _=>none}
theorem lB {h:AHeap}(hp:0<h.next):Has h []:=⟨fun j i c h=>by simp at h,fun j j' i c c' h=>by simp at h,hp⟩
theorem Lp:codeOf Tryd.f56=(.seq (sub [0] (codeOf Tryd.f56)) (.seq (sub [1,0] (codeOf Tryd.f56)) .ret)):=by kernel_rfl
theorem Bq {cf:CallF}{id i n:Nat}{h:AHeap}{cs:List AV}(h1:h.get id=some (.cells [.rs i 0 n 1,.int .i64 0,.int .i8 0])) :
  ∃r h',aZ Tryd.prog cK cf M 56 [.ptr id 0] h=some (r,h')∧r = .rs i 0 n 1∧h'=h:=by
 refine aj (fn:=Tryd.f56) (A:={gg:=[0,2],aF:=[]}) rfl Tryd.func56 (by kernel_rfl) (by kernel_rfl) ?_
 refine aD (Q:=fun s=>aI Tryd.prog (s.open {gg:=[0,2],aF:=[]}) Tryd.f56.results.toList=some (.rs i 0 n 1)∧s.h=h) (fun _ _ ⟨h1,h2,h3⟩=>⟨h1,_,h2,rfl,h3⟩) ?_
 refine Ax Lp ?_
 show de _ cf _ M _ ⟨[.ptr id 0,.any],[],h⟩ _
 refine oQ ?_
 refine s4 (fs:=[]) (zs:=[]) (jF:=⟨[.ptr id 0,.nils],[],h⟩) (p:=(True)∧True) (by kernel_rfl) ⟨trivial,trivial⟩ ?_
 refine oQ ?_
 refine s4 (fs:=[]) (zs:=[(3,.rs i 0 n 1,none),(7,.int .i64 0,none),(8,.rs i 0 n 1,none)]) (jF:=⟨[.ptr id 0,.rs i 0 n 1],[],h⟩) (p:=(True)∧bh Tryd.prog h 25 (.ptr id 0)=some (.rs i 0 n 1)∧bh Tryd.prog h 3 (.ptr id 1)=some (.int .i64 0)∧fe Tryd.prog 25 (.rs i 0 n 1) (some (.int .i64 0)) none none=some (.rs i 0 n 1)∧True) (by kernel_rfl) ⟨trivial,⟨?_,?_,?_,trivial⟩⟩ ?_
 ·simp only [bh,jl,h1,WQ]; kernel_rfl
 ·simp only [bh,jl,h1,WQ]; kernel_rfl
 ·have e1:Tryd.prog.underlying 25=some (.slice 5):=Tryd.underlying25
  have e2:eu Tryd.prog 5=some 1:=by kernel_rfl
  simp [fe,e1,e2,iD]
 refine yA ?_
 exact⟨.inl rfl,by kernel_rfl,rfl⟩
noncomputable def Jt:FuncId→Option (List AV→AHeap→Option (AV × AHeap)):=fun f=>if f=56 then some (fun args h=>(eV Tryd.prog zO M 1 56 args h).bind plainA) else G8 f
theorem G9:IntrOK Tryd.prog Jt:=intr_cons (plain_ok (sV fits (T:=zO) ux M 1) 56) (plain_steady (lh (T:=zO) ux M 1) 56) ux
noncomputable def bq:ow:={aS:=cK,intr:=Jt,pure:=N6}
noncomputable def cQ:CallF:=iU Tryd.prog bq M
theorem Lq:CallOK Tryd.prog cQ:=Fg fits (T:=bq) G9
theorem RJ:MP cQ M:=fun args h=>tq (T:=bq) rfl
theorem RK:MQ cQ M:=fun args h=>tq (T:=bq) rfl
theorem VO:Sx cQ M:=by
 intro id i n cs h h1 h2 h3 h4 h5
 refine BP (T:=bq) rfl ?_
 obtain⟨r,h',hb,rfl,rfl⟩:=Bq (cf:=eV Tryd.prog zO M 0) (cs:=cs) h1
 have:eV Tryd.prog zO M 1 56 [.ptr id 0] h'=some (.rs i 0 n 1,h'):=hb
 simp only [this,WQ,plainA,h2]
end Go.Proofs.YtmekcfdllhphlaaDoor
namespace Go.Proofs.YtmekcfdllhphlaaDoor
open Go Go.R
open Go.IntKind (i64 u64 u8 u32)
theorem DZ:(aZ Tryd.prog cK (eV Tryd.prog bq M 98) M 13 [] bE).map (fun x=>x.1)=some (.bool true):=by kernel_rfl
theorem VP:Sw cQ M:=by
 intro r H h xs hx
 have H:some true=some r:=H
 cases H
 obtain⟨⟨x,h'⟩,hb,e⟩:=WS.1 DZ
 dsimp only at e
 subst e
 obtain⟨l,h1,h2⟩:=kO (P:=Tryd.prog) cK M 13 [] bE _ _ hb
 have hb:=h2 cQ fun e he=>kP.2 ⟨_,h1 e he⟩
 exact bm (T:=bq) (deep:=aW) rfl rfl a6 hx ⟨_,_,hb,b8 (ak)⟩
end Go.Proofs.YtmekcfdllhphlaaDoor
namespace Go.Proofs.YtmekcfdllhphlaaDoor
open Go Go.R
open Go.IntKind (i64 u64 u8 u32)
theorem VQ:TW cQ M:=by
 intro l0 r H h xs hx
 exact bm (T:=bq) (deep:=aW) rfl rfl a6 hx (qM (cf:=cQ) (m:=M) (aS:=cK) rfl  l0 bE [] aR H)
theorem VS:S3 cQ M:=by
 intro b0 r H h xs hx
 exact bm (T:=bq) (deep:=aW) rfl rfl a6 hx (rO (cf:=cQ) (m:=M) (aS:=cK) rfl  b0 bE [] aR H)
theorem VT:S5 cQ M:=by
 intro n0 r H h xs hx
 exact bm (T:=bq) (deep:=aW) rfl rfl a6 hx (pz (cf:=cQ) (m:=M) (aS:=cK) rfl  n0 bE [] aR H)
theorem T3:QM cQ M:=by
 intro a0 b0 r H h xs hx
 exact bm (T:=bq) (deep:=aW) rfl rfl a6 hx (qy (cf:=cQ) (m:=M) (aS:=cK) rfl  a0 b0 bE [] aR H)
theorem T4:QB cQ M:=by
 intro b0 r H h xs hx
 exact bm (T:=bq) (deep:=aW) rfl rfl a6 hx (px (cf:=cQ) (m:=M) (aS:=cK) rfl VS b0 bE [] aR H)
theorem VU:SF cQ M:=by
 intro s0 f0 r H h iS dv aL gS gV xs hx
 exact ny (T:=bq) rfl rfl hx (xb (cf:=cQ) (m:=M) (aS:=cK) rfl  s0 f0 h [] dv aL  gS gV (lB iS) H)
theorem VV:SE cQ M:=by
 intro s0 f0 r H h iS dv aL gS gV xs hx
 exact ny (T:=bq) rfl rfl hx (w9 (cf:=cQ) (m:=M) (aS:=cK) rfl  s0 f0 h [] dv aL  gS gV (lB iS) H)
theorem RL:LJ cQ M:=by
 intro w0 n0 r H h L  bT b9 o  xs hx
 obtain⟨r',h',hb,dw,rfl,ho⟩:=tY (cf:=cQ) (m:=M) (aS:=cK) rfl RJ w0 n0 h L bT b9  o H
 exact⟨dw,h',jY (T:=bq) rfl rfl hx hb,ho⟩
theorem T5:Ov cQ M:=by
 intro r0 r H h L  aA o  xs hx
 obtain⟨r',h',hb,rfl,ho⟩:=xp (cf:=cQ) (m:=M) (aS:=cK) rfl  r0 h L aA  o H
 exact⟨h',jY (T:=bq) rfl rfl hx hb,ho⟩
theorem VW:TY cQ M:=by
 intro s0 s1 eq0 r H h iS iz bS ky lN xs hx
 exact ny (T:=bq) rfl rfl hx (jg (cf:=cQ) (m:=M) (aS:=cK) rfl  s0 s1 eq0 h [] iz bS  ky lN (lB iS) H)
theorem VX:TZ cQ M:=by
 intro s0 s1 r H h xs hx
 exact bm (T:=bq) (deep:=aW) rfl rfl a6 hx (oe (cf:=cQ) (m:=M) (aS:=cK) rfl  s0 s1 bE [] aR H)
theorem T6:∀kk,Ou cQ M kk
 | 0=>by
  intro i0 x0 x1 x2 x3 r H h L  bR eF dQ dB eO dY dN o  xs hx
  cases H
 | kk+1=>by
  intro i0 x0 x1 x2 x3 r H h L  bR eF dQ dB eO dY dN o  xs hx
  obtain⟨r',h',hb,lI,rfl,ho⟩:=pv (cf:=cQ) (m:=M) (aS:=cK) rfl  i0 x0 x1 x2 x3 h L bR eF dQ dB eO dY dN  (T6 kk) o H
  exact⟨lI,h',jY (T:=bq) rfl rfl hx hb,ho⟩
theorem VY:SU cQ M:=by
 intro w0 s0 r H h L  bT b9 o  xs hx
 obtain⟨r',h',hb,dw,rfl,ho⟩:=xq (cf:=cQ) (m:=M) (aS:=cK) rfl RL RK w0 s0 h L bT b9  o H
 exact⟨dw,h',jY (T:=bq) rfl rfl hx hb,ho⟩
theorem VZ:Tv cQ M:=by
 intro l0 gJ r H h xs hx
 exact bm (T:=bq) (deep:=aW) rfl rfl a6 hx (oc (cf:=cQ) (m:=M) (aS:=cK) rfl  l0 gJ bE [] aR H)
theorem V0:SB cQ M:=by
 intro a0 x0 r H h L eL bR o fV
 exact ny (T:=bq) rfl rfl (an (aO (bC)) (an (rfl) (bg))) (qo (cf:=cQ) (m:=M) (aS:=cK) rfl  a0 x0 h L  fV o H)
theorem V1:SC cQ M:=by
 intro s0 r H h xs hx
 exact bm (T:=bq) (deep:=aW) rfl rfl a6 hx (rI (cf:=cQ) (m:=M) (aS:=cK) rfl  s0 bE [] aR H)
theorem V2:SL cQ M:=by
 intro fX r H h xs hx
 exact bm (T:=bq) (deep:=aW) rfl rfl a6 hx (rM (cf:=cQ) (m:=M) (aS:=cK) rfl  fX bE [] aR H)
theorem RM:It cQ M:=by
 intro n0 dC r H h xs hx
 exact bm (T:=bq) (deep:=aW) rfl rfl a6 hx (qB (cf:=cQ) (m:=M) (aS:=cK) rfl  n0 dC bE [] aR H)
theorem N7:DO cQ M:=by
 intro a0 b0 r H h xs hx
 exact bm (T:=bq) (deep:=aW) rfl rfl a6 hx (qC (cf:=cQ) (m:=M) (aS:=cK) rfl  a0 b0 bE [] aR H)
theorem N8:A8 cQ M:=by
 intro a0 b0 bk r H h xs hx
 exact bm (T:=bq) (deep:=aW) rfl rfl a6 hx (nh (cf:=cQ) (m:=M) (aS:=cK) rfl  a0 b0 bk bE [] aR H)
theorem RN:MU cQ M:=by
 intro s0 f0 r H h iS dv aL gS gV xs hx
 exact ny (T:=bq) rfl rfl hx (w8 (cf:=cQ) (m:=M) (aS:=cK) rfl  s0 f0 h [] dv aL  gS gV (lB iS) H)
theorem RP:Nc cQ M:=by
 intro x0 r H h xs hx
 exact bm (T:=bq) (deep:=aW) rfl rfl a6 hx (nX (cf:=cQ) (m:=M) (aS:=cK) rfl  x0 bE [] aR H)
theorem RQ:Nd cQ M:=by
 intro x0 r H h xs hx
 exact bm (T:=bq) (deep:=aW) rfl rfl a6 hx (lO (cf:=cQ) (m:=M) (aS:=cK) rfl  x0 bE [] aR H)
theorem RR:KZ cQ M:=by
 intro c0 r H h xs hx
 exact bm (T:=bq) (deep:=aW) rfl rfl a6 hx (pE (cf:=cQ) (m:=M) (aS:=cK) rfl  c0 bE [] aR H)
theorem RU:Kr cQ M:=by
 intro c0 r H h xs hx
 exact bm (T:=bq) (deep:=aW) rfl rfl a6 hx (qn (cf:=cQ) (m:=M) (aS:=cK) rfl  c0 bE [] aR H)
theorem RV:Ku cQ M:=by
 intro aq a0 b0 aN r H h L cz aA o rf fF DB AF xs hx
 have hn0:cz=aq.length:=dq (E:=aa) o (q:=0) rfl
 subst hn0
 obtain⟨r',h',hb,rfl,ho⟩:=mY (cf:=cQ) (m:=M) (aS:=cK) rfl  aq a0 b0 aN h L aA rf fF  DB AF o H
 exact⟨h',jY (T:=bq) rfl rfl hx hb,ho⟩
theorem RW:Kq cQ M:=by
 intro aq a0 b0 n0 aN r H h L cz aA o er aV gB hY xs hx
 have hn0:cz=aq.length:=dq (E:=aa) o (q:=0) rfl
 subst hn0
 obtain⟨r',h',hb,rfl,ho⟩:=rC (cf:=cQ) (m:=M) (aS:=cK) rfl  aq a0 b0 n0 aN h L aA er aV  gB hY o H
 exact⟨h',jY (T:=bq) rfl rfl hx hb,ho⟩
theorem V3:SG cQ M:=by
 intro s0 f0 r H h iS dv aL gS gV xs hx
 exact ny (T:=bq) rfl rfl hx (rK (cf:=cQ) (m:=M) (aS:=cK) rfl VU s0 f0 h [] dv aL  gS gV (lB iS) H)
theorem T7:PR cQ M:=by
 intro s0 f0 r H h iS dv aL gS gV xs hx
 exact ny (T:=bq) rfl rfl hx (rJ (cf:=cQ) (m:=M) (aS:=cK) rfl VV s0 f0 h [] dv aL  gS gV (lB iS) H)
theorem RX:KO cQ M:=by
 intro r0 r H h L  aA o  xs hx
 obtain⟨r',h',hb,rfl,ho⟩:=tZ (cf:=cQ) (m:=M) (aS:=cK) rfl T5 r0 h L aA  o H
 exact⟨h',jY (T:=bq) rfl rfl hx hb,ho⟩
theorem V4:Ow cQ M:=by
 intro w0 n0 r H h L  bT b9 o  xs hx
 obtain⟨r',h',hb,dw,rfl,ho⟩:=xt (cf:=cQ) (m:=M) (aS:=cK) rfl RJ RL VY w0 n0 h L bT b9  o H
 exact⟨dw,h',jY (T:=bq) rfl rfl hx hb,ho⟩
theorem V5:SV cQ M:=by
 intro r0 r H h L  aA o  xs hx
 obtain⟨r',h',hb,rfl,ho⟩:=xu (cf:=cQ) (m:=M) (aS:=cK) rfl RX r0 h L aA  o H
 exact⟨h',jY (T:=bq) rfl rfl hx hb,ho⟩
theorem V6:Sz cQ M:=by
 intro s0 f0 r H h iS dv aL gS gV xs hx
 exact ny (T:=bq) rfl rfl hx (rH (cf:=cQ) (m:=M) (aS:=cK) rfl RN s0 f0 h [] dv aL  gS gV (lB iS) H)
theorem V7:SK cQ M:=by
 intro x0 y0 r H h xs hx
 exact bm (T:=bq) (deep:=aW) rfl rfl a6 hx (mz (cf:=cQ) (m:=M) (aS:=cK) rfl RP x0 y0 bE [] aR H)
theorem V8:SM cQ M:=by
 intro x0 y0 r H h xs hx
 exact bm (T:=bq) (deep:=aW) rfl rfl a6 hx (kS (cf:=cQ) (m:=M) (aS:=cK) rfl RQ x0 y0 bE [] aR H)
theorem V9:TB cQ M:=by
 intro s0 r H h xs hx
 exact bm (T:=bq) (deep:=aW) rfl rfl a6 hx (rW (cf:=cQ) (m:=M) (aS:=cK) rfl RR s0 bE [] aR H)
theorem RY:Iu cQ M:=by
 intro l0 ep n0 bk r H h xs hx
 exact bm (T:=bq) (deep:=aW) rfl rfl a6 hx (rV (cf:=cQ) (m:=M) (aS:=cK) rfl N7 N8 l0 ep n0 bk bE [] aR H)
theorem RZ:MS cQ M:=by
 intro s0 kx nz r H h xs hx
 exact bm (T:=bq) (deep:=aW) rfl rfl a6 hx (tF (cf:=cQ) (m:=M) (aS:=cK) rfl RU s0 kx nz bE [] aR H)
theorem R0:MR cQ M:=by
 intro aq a0 m0 b0 aN r H h L cz aA o er aV gB hY xs hx
 have hn0:cz=aq.length:=dq (E:=aa) o (q:=0) rfl
 subst hn0
 obtain⟨r',h',hb,rfl,ho⟩:=wZ (cf:=cQ) (m:=M) (aS:=cK) rfl RW aq a0 m0 b0 aN h L aA er aV  gB hY o H
 exact⟨h',jY (T:=bq) rfl rfl hx hb,ho⟩
theorem Wa:S8 cQ M:=by
 intro t0 r H h xs hx
 exact bm (T:=bq) (deep:=aW) rfl rfl a6 hx (pA (cf:=cQ) (m:=M) (aS:=cK) rfl T7 VT t0 bE [] aR H)
theorem Wb:S4 cQ M:=by
 intro a8 r H h xs hx
 exact bm (T:=bq) (deep:=aW) rfl rfl a6 hx (py (cf:=cQ) (m:=M) (aS:=cK) rfl T4 RJ RL V4 VO a8 bE [] aR H)
theorem Wc:Ox cQ M:=by
 intro r0 r H h L  aA o  xs hx
 obtain⟨r',h',hb,rfl,ho⟩:=xw (cf:=cQ) (m:=M) (aS:=cK) rfl RX T5 V5 r0 h L aA  o H
 exact⟨h',jY (T:=bq) rfl rfl hx hb,ho⟩
theorem R5:Ng cQ M:=by
 intro a0 b0 r H h xs hx
 exact bm (T:=bq) (deep:=aW) rfl rfl a6 hx (mA (cf:=cQ) (m:=M) (aS:=cK) rfl V7 V2 V8 a0 b0 bE [] aR H)
theorem Wd:TC cQ M:=by
 intro s0 r H h xs hx
 exact bm (T:=bq) (deep:=aW) rfl rfl a6 hx (pF (cf:=cQ) (m:=M) (aS:=cK) rfl V9 s0 bE [] aR H)
theorem We:Tg cQ M:=by
 intro l0 r H h xs hx
 exact bm (T:=bq) (deep:=aW) rfl rfl a6 hx (oa (cf:=cQ) (m:=M) (aS:=cK) rfl RM RY N7 N8 l0 bE [] aR H)
theorem Wf:Sy cQ M:=by
 intro s0 r H h xs hx
 exact bm (T:=bq) (deep:=aW) rfl rfl a6 hx (tG (cf:=cQ) (m:=M) (aS:=cK) rfl RZ s0 bE [] aR H)
theorem Wg:SN cQ M:=by
 intro i0 j0 x0 r H h L eL bR o fV
 exact ny (T:=bq) rfl rfl (an (aO (bC)) (an (aO (bC)) (an (rfl) (bg)))) (mZ (cf:=cQ) (m:=M) (aS:=cK) rfl R5 i0 j0 x0 h L  fV o H)
theorem N9:∀kk,uR cQ M kk
 | 0=>by
  intro aq a0 m0 b0 aN r H h L cz aA o er aV gB hY xs hx
  cases H
 | kk+1=>by
  intro aq a0 m0 b0 aN r H h L cz aA o er aV gB hY xs hx
  have hn0:cz=aq.length:=dq (E:=aa) o (q:=0) rfl
  subst hn0
  obtain⟨r',h',hb,rfl,ho⟩:=tP (cf:=cQ) (m:=M) (aS:=cK) rfl R0 aq a0 m0 b0 aN h L aA er aV  (N9 kk) gB hY o H
  exact⟨h',jY (T:=bq) rfl rfl hx hb,ho⟩
theorem Wh:Q7 cQ M:=by
 intro n0 az r H h xs hx
 exact bm (T:=bq) (deep:=aW) rfl rfl a6 hx (qI (cf:=cQ) (m:=M) (aS:=cK) rfl Wd n0 az bE [] aR H)
theorem Wi:TE cQ M:=by
 intro l0 gJ r H h xs hx
 exact lq (T:=bq) (deep:=aW) rfl rfl a6 hx (qK (cf:=cQ) (m:=M) (aS:=cK) rfl VZ We l0 gJ bE [] aR H)
theorem Wj:SD cQ M:=by
 intro n0 my r H h xs hx
 exact bm (T:=bq) (deep:=aW) rfl rfl a6 hx (tJ (cf:=cQ) (m:=M) (aS:=cK) rfl Wf V6 V0 V1 n0 my bE [] aR H)
theorem Wk:S64 cQ M:=by
 intro m0 n0 r H h xs hx
 exact bm (T:=bq) (deep:=aW) rfl rfl a6 hx (pJ (cf:=cQ) (m:=M) (aS:=cK) rfl R5 VX m0 n0 bE [] aR H)
theorem R6:M9 cQ M:=by
 intro aq n0 aN r H h L cz aA o iz bS ky lN xs hx
 have hn0:cz=aq.length:=dq (E:=aa) o (q:=0) rfl
 subst hn0
 obtain⟨r',h',hb,rfl,ho⟩:=xf (cf:=cQ) (m:=M) (aS:=cK) rfl RV (N9 _) aq n0 aN h L aA iz bS  ky lN o H
 exact⟨h',jY (T:=bq) rfl rfl hx hb,ho⟩
theorem Wl:TD cQ M:=by
 intro t0 r H h xs hx
 exact bm (T:=bq) (deep:=aW) rfl rfl a6 hx (qJ (cf:=cQ) (m:=M) (aS:=cK) rfl Wh t0 bE [] aR H)
theorem Wm:Rh cQ M:=by
 intro t0 r H h xs hx
 exact lq (T:=bq) (deep:=aW) rfl rfl a6 hx (qL (cf:=cQ) (m:=M) (aS:=cK) rfl Wl Wi t0 bE [] aR H)
theorem Wn:T0 cQ M:=by
 intro a0 b0 r H h xs hx
 exact bm (T:=bq) (deep:=aW) rfl rfl a6 hx (rX (cf:=cQ) (m:=M) (aS:=cK) rfl VW Wk a0 b0 bE [] aR H)
theorem Wo:SJ cQ M:=by
 intro n0 x0 r H h L eL bR o fV
 exact ny (T:=bq) rfl rfl (an (aO (nT (cG (bC) (cG (bC) (cG (wT) (cG (iK (E:=aa)) (gA))))))) (an (rfl) (bg))) (po (cf:=cQ) (m:=M) (aS:=cK) rfl Wj n0 x0 h L  fV o H)
theorem Wp:SI cQ M:=by
 intro x0 aN r H h L FJ aA o dv aL gS gV xs hx
 have hn0:FJ=x0.length:=dq (E:=aa) o (q:=0) rfl
 subst hn0
 obtain⟨r',h',hb,rfl,ho⟩:=pn (cf:=cQ) (m:=M) (aS:=cK) rfl R6 x0 aN h L aA dv aL  gS gV o H
 exact⟨h',jY (T:=bq) rfl rfl hx hb,ho⟩
theorem Wq:TX cQ M:=by
 intro l0 r H h xs hx
 exact bm (T:=bq) (deep:=aW) rfl rfl a6 hx (qN (cf:=cQ) (m:=M) (aS:=cK) rfl VQ Wm l0 bE [] aR H)
theorem T8:P8 cQ M:=by
 intro t0 r H h xs hx
 exact bm (T:=bq) (deep:=aW) rfl rfl a6 hx (rL (cf:=cQ) (m:=M) (aS:=cK) rfl T7 Wo t0 bE [] aR H)
theorem Wr:SO cQ M:=by
 intro az r H h xs hx
 exact bm (T:=bq) (deep:=aW) rfl rfl a6 hx (pt (cf:=cQ) (m:=M) (aS:=cK) rfl R5 Wp Wg az bE [] aR H)
theorem T9:Qo cQ M:=by
 intro t0 r H h xs hx
 exact lq (T:=bq) (deep:=aW) rfl rfl a6 hx (rN (cf:=cQ) (m:=M) (aS:=cK) rfl Wr (T6 _) t0 bE [] aR H)
theorem Ws:T1 cQ M:=by
 intro a0 b0 r H h xs hx
 exact bm (T:=bq) (deep:=aW) rfl rfl a6 hx (uw (cf:=cQ) (m:=M) (aS:=cK) rfl T8 Wn T9 a0 b0 bE [] aR H)
theorem Wt:QG cQ M:=by
 intro t0 r H h xs hx
 exact lq (T:=bq) (deep:=aW) rfl rfl a6 hx (rR (cf:=cQ) (m:=M) (aS:=cK) rfl T8 T9 t0 bE [] aR H)
theorem Ua:QI cQ M:=by
 intro a8 r H h xs hx
 exact lq (T:=bq) (deep:=aW) rfl rfl a6 hx (rS (cf:=cQ) (m:=M) (aS:=cK) rfl Wt V3 Wa Wb a8 bE [] aR H)
theorem Wu:QN cQ M:=by
 intro b0 r H h xs hx
 exact lq (T:=bq) (deep:=aW) rfl rfl a6 hx (rU (cf:=cQ) (m:=M) (aS:=cK) rfl Ua T3 T4 RX Wc b0 bE [] aR H)
theorem Wv:T2 cQ M:=by
 intro x0 y0 r H h xs hx
 exact bm (T:=bq) (deep:=aW) rfl rfl a6 hx (pK (cf:=cQ) (m:=M) (aS:=cK) rfl Wu T3 x0 y0 bE [] aR H)
theorem j9:S9 cQ M:=by
 intro x0 y0 r H h xs hx
 exact bm (T:=bq) (deep:=aW) rfl rfl a6 hx (mN (cf:=cQ) (m:=M) (aS:=cK) rfl VP Ua Wq Ws Wv x0 y0 bE [] aR H)
end Go.Proofs.YtmekcfdllhphlaaDoor
namespace Go.Proofs.YtmekcfdllhphlaaDoor
open Go Go.R Go.Proofs Go.RowKit Go.ChangeShapes Go.WideShapes
theorem all_true (sW:List AV)(h:oO Tryd.prog 6 Tryd.f9.params.toList sW):∃cf h',CallOK Tryd.prog cf∧cf 9 sW bE=some (.bool true,h'):=by
 rw [show Tryd.f9.params.toList=[31,31] from by rw [Tryd.params9]] at h
 obtain⟨xs,ys,rfl,hx,hy⟩:=zN h
 obtain⟨a,ha,fa⟩:=zM hx
 obtain⟨b,hb,fb⟩:=zM hy
 have Lx:∀t∈[a,b],Bp t:=fun t ht=>by
  rcases Xo.1 ht with rfl | ht
  ·exact ha
  ·simp only [W4] at ht; subst ht; exact hb
 exact⟨cQ,bE,Lq,j9 a b true (G3 (by decide) (fun t ht=>(Lx t ht).1) fun t ht=>(Lx t ht).2) bE _ (gf (ab (fa bE) (ab (fb bE) ax)))⟩
noncomputable def uy : List (String × DataW Unit) := [("bytes.ErrTooLarge", Rows.laid_bytes_ErrTooLarge)]
theorem own:ownKnob Tryd.prog.godebug=none:=by kernel_rfl
noncomputable def vX (os:Os):World:=World.laidAll Tryd.prog os uy
theorem uZ (os:Os)(args:Array Value):laidMetH Tryd.prog uy ((vX os).forCall (fun _ _=>0) ⟨#[],args,[]⟩).memory:=by
 refine laidMetH_of_parts ?_ (by kernel_rfl)
 rw [show (uy.filter fun x=>x.2.handleName?.isNone)=uy from by kernel_rfl]
 exact laidMet_laidAll args (by kernel_rfl) (by kernel_rfl)
theorem qO (os:Os)(started:os.Started)(H:Type)(enc:TypeId × Value→H) :
  ReturnsInHanded {} Tryd.checked os 9 .any (fun w args=>(Rows.pickleOneSpec.pre enc Tryd.prog Tryd.f9 [] false w args∧laidMetH Tryd.prog uy w)∧sizedMet enc Tryd.prog Tryd.f9 (OpenSpec.ofChange Rows.pickleOneSpec) false w args)
   (Rows.pickleOneSpec.post enc Tryd.prog Tryd.f9 false true false false):=by
 refine returnsInHanded_of_change_and (C:=Tryd.checked) (X:=fun w _=>laidMetH Tryd.prog uy w) (fun _ _ _ hh h=>h.of_heap hh) own started (by kernel_rfl) Tryd.func9
  (ChangeSpec.witness_at (enc:=enc) (C:=Tryd.checked) (os:=os) (X:=fun w _=>laidMetH Tryd.prog uy w) false (vX os) #[.agg #[.slice none 0 0,.int .i64 0],.agg #[.slice none 0 0,.int .i64 0]] 8 (World.laidAll_os _ _ _) (by kernel_rfl) (by kernel_rfl) (by kernel_rfl) (by kernel_rfl) (by kernel_rfl) (uZ os _)) ?_
 intro W base args ds gs before dz hW _ _ hL _
 exact uL (cf:=fun _ _ _=>none) (P:=Tryd.prog) (m:=6) (tb:=4) (by kernel_rfl)
  (by rw [show Tryd.f9.params.toList=[31,31] from by rw [Tryd.params9]]; intro t ht; simp at ht; rcases ht with rfl; exact⟨by kernel_rfl,of_decide_eq_true (by kernel_rfl)⟩)
  (by rw [show Tryd.f9.params.toList=[31,31] from by rw [Tryd.params9]]; intro t ht; simp at ht; rcases ht with rfl; kernel_rfl) rfl rfl Tryd.underlying4
  (fun ds JJ=>by
   have:ds.length=2:=by rw [JJ]; rfl
   match ds,this with
   | [d,e],_=>rfl) all_true dz hW
theorem u3:Rows.PickleOneSaid:=
 OpenClaim.holds_of_wide 9 Tryd.f9 rfl rfl rfl rfl rfl rfl rfl ⟨rfl,rfl,rfl,rfl,rfl⟩ rfl rfl rfl rfl rfl (by kernel_rfl) Tryd.func9 (by kernel_rfl)
  (of_decide_eq_true (by kernel_rfl)) (by unfold Func.isWrapper; first | (rw [if_pos (by decide +kernel)]; kernel_rfl) | (rw [if_neg (by decide +kernel)]; exact⟨rfl,rfl⟩))
  (fun os started H enc _=>qO os started H enc)
theorem pickleOne_holds:Rows.PickleOneCardSaid:=
 Claim7.holds_tied_plain_at .later [] [.sentinel] true (true, "5c7c24f3f163267658839de8cc9f4545a02ccfedb2900f3b8e61d73ca287aaae") false
  u3 (fun _ h=>by cases h) (by kernel_rfl) (fun _ h=>by cases h) pickleOne_row_tie rfl ⟨rfl,rfl⟩ (by kernel_rfl) rfl
  (fun f fn hf J1=>by
   obtain rfl : f = 9 := Xn ((show Tryd.prog.funcNamed "leatwork/leatworklaw20.PickleOne" = some 9 by kernel_rfl).symm.trans hf) |>.symm
   obtain rfl:fn=Tryd.f9:=(Xn (Tryd.func9.symm.trans J1)).symm
   exact⟨by kernel_rfl,fun j t ht=>by
    rw [Tryd.params9] at ht
    have h3:t=31:=by
     rcases j with _ | _ | j
     ·simpa using ht.symm
     ·simpa using ht.symm
     ·simp at ht
    rcases h3 with rfl
    exact (show Tryd.prog.wantsStandIn 31=false by kernel_rfl)⟩)
  (by kernel_rfl)
end Go.Proofs.YtmekcfdllhphlaaDoor
