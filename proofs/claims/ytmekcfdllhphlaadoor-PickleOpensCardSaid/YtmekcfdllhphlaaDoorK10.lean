/- Part of the proof: PT10, PB1, Q54, Q59, Q43, PR2, Q74, Q55, Q60, Q44, PR3, PR4, PR5, Q21, Q42, Q36, Q31, Q35. -/
import Derived.Test.YtmekcfdllhphlaaDoorK9
set_option linter.unusedVariables false
set_option linter.unusedSimpArgs false
set_option maxRecDepth 100000
open Bool renaming and_eq_true → Xt, false_eq_true → XG, or_eq_true → Yc
open ByteArray renaming mk → XS
open Int renaming toNat_natCast → Xv
open List renaming getElem?_eq_some_iff → Xx, length_append → Xy, mem_singleton → XB, append_assoc → XC, drop_eq_getElem_cons → XD, mem_append → XE, length_map → XF, getD_eq_getElem?_getD → XJ, map_cons → XK, getElem?_append_right → XL, length_cons → XO, cons_append → XR, map_append → XT, take_of_length_le → XY, getElem?_append_left → X1, drop_zero → X3, mem_cons → X5, mem_append_left → X8, length_nil → Yh, append_nil → Yo, mem_of_getElem? → Yr, take_add_one → Yu, map_congr_left → Yv, take_length → Yx, idxOf_append → YB, nodup_append → YC, getElem?_set_self → YQ, getElem?_set_ne → YV
open Nat renaming le_refl → Xs, zero_add → XP, add_assoc → Yb, mul_le_mul_right → Yg, add_mul → Yz, sub_self → YX, zero_le → Y1
open Ne renaming symm → YH
open Option renaming bind_some → Xo
open Prod.mk renaming injEq → Xw
open UInt8 renaming lt_iff_toNat_lt → YJ
namespace Go.Proofs.YtmekcfdllhphlaaDoor
open Go Go.R
open Go.IntKind (i64 u64 u8 u32)
def kN:List Int→Nat→List (Int × Int)
 | [],_=>[]
 | k::ks,s=>(k,(s:Int))::kN ks (s+1)
theorem vJ:∀(ks:List Int) (s:Nat) (k:Int),yF (kN ks s) k=if k∈ks then (((s+ks.idxOf k:Nat):Int),true) else (0,false)
 | [],s,k=>rfl
 | a::ks,s,k=>by
  simp only [kN,yF,vJ ks (s+1) k,X5,List.idxOf_cons]
  by_cases h:k=a
  ·subst h; simp
  ·have h':(a==k)=false:=by simpa using fun z:a=k=>h z.symm
   rw [if_neg h,h']
   by_cases h2:k∈ks
   ·simp only [h2,if_true,or_true,cond_false]
    simp only [Xw,and_true]
    omega
   ·simp [h2,h]
theorem vK:∀(ks:List Int) (s:Nat) (k:Int),k∉ks→Fc (kN ks s) k ((s+ks.length:Nat):Int)=kN (ks++[k]) s
 | [],s,k,_=>rfl
 | a::ks,s,k,h=>by
  have h1:k≠a:=fun z=>h (by simp [z])
  have h2:k∉ks:=fun z=>h (by simp [z])
  simp only [kN,Fc,XR,if_neg h1,XO]
  rw [show s+(ks.length+1)=s+1+ks.length by omega,vK ks (s+1) k h2]
def dW (cls:List Int)(a:Int):Int:=gt cls a.toNat
def idx (cls o:List Int)(a:Int):Int:=((o.map (dW cls)).idxOf (dW cls a):Nat)
def uS (cls:List Int)(l:List ab)(o:List Int)(i:Int):ab:=⟨(nd l i).kind,(nd l i).int,(nd l i).label,(nd l i).args.map (idx cls o)⟩
def re (cls:List Int)(l:List ab):Nat→Int→List Int→List Int
 | 0,_,o=>o
 | k+1,i,o=>if dW cls i∈o.map (dW cls) then o else (nd l i).args.foldl (fun o a=>re cls l k a o) (o++[i])
structure Vs (cls:List Int)(n:Nat)(o:List Int):Prop where
 Hy:(o.map (dW cls)).Nodup
 nj:∀x∈o,0≤x∧x<n
structure Ps (cls:List Int)(l:List ab)(o o':List Int)(ns AO:List ab):Prop where
 vs:Vs cls l.length o'
 pre:∃t,o'=o++t
 len:AO.length=o'.length
 old:∀k,k<o.length→AO[k]? = ns[k]?
 new:∀k,o.length≤k→k<o'.length→AO[k]? = some (uS cls l o' (gt o' k))
 arg:∀k,o.length≤k→k<o'.length→∀a∈(nd l (gt o' k)).args,dW cls a∈o'.map (dW cls)
theorem Vs.rf {cls:List Int}{n:Nat}{o:List Int}(v:Vs cls n o):o.length≤n:=by
 have hn:o.Nodup:=by
  have:=v.Hy
  unfold List.Nodup at this ⊢
  rw [List.pairwise_map] at this
  exact List.Pairwise.imp (fun h e=>h (by rw [e])) this
 have:=hn.length_le_of_subset (l₂:=ints n) (fun x hx=>iE.2 (v.nj x hx))
 rwa [dG] at this
theorem Ps.refl {cls:List Int}{l:List ab}{o:List Int}{ns:List ab}(v:Vs cls l.length o)(h:ns.length=o.length):Ps cls l o o ns ns:=
 ⟨v,⟨[],by simp⟩,h,fun _ _=>rfl,fun k h1 h2=>by omega,fun k h1 h2=>by omega⟩
theorem ig {a b:List Int}{k:Nat}(h:k<a.length):gt (a++b) k=gt a k:=by
 unfold gt; rw [XJ,XJ,X1 h]
theorem nN {cls o t:List Int}{a:Int}(h:dW cls a∈o.map (dW cls)):idx cls (o++t) a=idx cls o a:=by
 unfold idx; rw [XT,YB,if_pos h]
theorem y5 {cls:List Int}{l:List ab}{o t:List Int}{i:Int}(h:∀a∈(nd l i).args,dW cls a∈o.map (dW cls)):uS cls l (o++t) i=uS cls l o i:=by
 unfold uS
 congr 1
 exact Yv fun a ha=>nN (h a ha)
theorem Ps.trans {cls:List Int}{l:List ab}{o o1 o2:List Int}{ns n1 n2:List ab}(a:Ps cls l o o1 ns n1)(b:Ps cls l o1 o2 n1 n2):Ps cls l o o2 ns n2:=by
 obtain⟨t1,rfl⟩:=a.pre
 obtain⟨t2,rfl⟩:=b.pre
 have hl:(o++t1).length=o.length+t1.length:=by simp
 refine⟨b.vs,⟨t1++t2,by simp⟩,b.len,fun k hk=>(b.old k (by omega)).trans (a.old k hk),fun k h1 h2=>?_,fun k h1 h2 x hx=>?_⟩
 ·by_cases h:k<(o++t1).length
  ·rw [b.old k h,a.new k h1 h,ig h,y5 (a.arg k h1 h)]
  ·exact b.new k (by omega) h2
 ·by_cases h:k<(o++t1).length
  ·rw [ig h] at hx
   rw [XT]
   exact X8 _ (a.arg k h1 h x hx)
  ·exact b.arg k (by omega) h2 x hx
section
variable {m:Nat}{cls:List Int}{l:List ab}{root:Int}
abbrev NY:=Int→(List (Int × Int))→(List Int)→ak→ak→Option (Int × (List (Int × Int)) × ak)
def Jt (cls:List Int)(l:List ab)(root:Int)(rec:NY)(df:Int→List Int→List Int)(need:Nat):Prop:=∀(i:Int) (o:List Int) (ns:List ab),0≤i→i<l.length→Vs cls l.length o→ns.length=o.length→l.length<need+o.length→
 ∃AO,rec i (kN (o.map (dW cls)) 0) cls ⟨ns,0⟩ ⟨l,root⟩=some (idx cls (df i o) i,kN ((df i o).map (dW cls)) 0,⟨AO,0⟩)∧Ps cls l o (df i o) ns AO∧dW cls i∈(df i o).map (dW cls)
theorem Gh {rec:NY}{df:Int→List Int→List Int}{need:Nat}(hm:2 ^ 30≤m)(ok:kM l)(V:Jt cls l root rec df need){v:ab}(h8:v.args.length≤8)(ha:∀a∈v.args,0≤a∧a<l.length){o0:List Int}{Tz:List ab}(NZ:l.length<need+o0.length):∀(f t:Nat) (o:List Int) (ns:List ab),v.args.length - t<f→t≤v.args.length→Ps cls l o0 o Tz ns→(∀a∈v.args.take t,dW cls a∈o.map (dW cls))→
  ∃o' AO x,o'=(v.args.drop t).foldl (fun o a=>df a o) o∧aT.l0 m cls ⟨l,root⟩ rec v f ((v.args.take t).map (idx cls o)) (t:Int) (kN (o.map (dW cls)) 0) ⟨ns,0⟩=some (v.args.map (idx cls o'),x,kN (o'.map (dW cls)) 0,⟨AO,0⟩)∧Ps cls l o0 o' Tz AO∧∀a∈v.args,dW cls a∈o'.map (dW cls)
 | 0,t,o,ns,hf,_,_,_=>absurd hf (by omega)
 | f+1,t,o,ns,hf,ht,P,hin=>by
  have ni:(2:Nat) ^ 30=1073741824:=by decide
  unfold aT.l0
  by_cases h:t<v.args.length
  ·obtain⟨b0,b1⟩:=ha _ (aJ h)
   have Xd:o0.length≤o.length:=by obtain⟨s,rfl⟩:=P.pre; simp
   obtain⟨Vy,k1,P1,ON⟩:=V (gt v.args t) o ns b0 b1 P.vs P.len (by omega)
   obtain⟨s,hs⟩:=P1.pre
   have hT1:v.args.take (t+1)=v.args.take t++[gt v.args t]:=by rw [Yu,bh h]; rfl
   have hD:v.args.drop t=gt v.args t::v.args.drop (t+1):=by
    obtain⟨h4,h5⟩:=Xx.1 (bh h)
    rw [←h5]; exact XD h4
   have QS:∀a∈v.args.take (t+1),dW cls a∈(df (gt v.args t) o).map (dW cls):=fun a ha=>by
    rw [hT1] at ha
    rcases XE.1 ha with ha | ha
    ·rw [hs,XT]; exact X8 _ (hin a ha)
    ·simp only [XB] at ha; subst ha; exact ON
   obtain⟨o',AO,x,e,k2,P2,h2⟩:=Gh hm ok V h8 ha NZ f (t+1) (df (gt v.args t) o) Vy (by omega) (by omega) (P.trans P1) QS
   refine⟨o',AO,x,by rw [hD]; exact e,?_,P2,h2⟩
   have e1:i64.wrap ((t:Int)+1)=((t+1:Nat):Int):=by rw [aD (by omega) (by omega)]; omega
   have ly:app 8 ((v.args.take t).map (idx cls o)) [idx cls (df (gt v.args t) o) (gt v.args t)]=some ((v.args.take (t+1)).map (idx cls (df (gt v.args t) o))):=by
    unfold app
    rw [if_pos (by simp; omega),hT1,XT]
    congr 2
    exact Yv fun a ha=>by rw [hs]; exact (nN (hin a ha)).symm
   rw [if_pos (by simp only [decide_eq_true_eq]; omega),cj h,Xo,k1,Xo,ly,Xo,e1]
   exact k2
  ·have:t=v.args.length:=by omega
   subst this
   rw [Yx] at hin ⊢
   exact⟨o,ns,_,by rw [List.drop_length]; rfl,by rw [if_neg (by simp)],P,hin⟩
theorem tO (hm:2 ^ 30≤m)(ok:kM l)(hc:cls.length=l.length):∀k,Jt cls l root (aT.f m k) (re cls l k) k
 | 0=>fun i o ns h0 h1 v hl hn=>absurd v.rf (by omega)
 | k+1=>fun i o ns h0 h1 v hl hn=>by
  have ni:(2:Nat) ^ 30=1073741824:=by decide
  have h8000:=ok.1
  have xt:=v.rf
  show ∃AO,aT.b m (aT.f m k) i (kN (o.map (dW cls)) 0) cls ⟨ns,0⟩ ⟨l,root⟩=_∧_
  unfold aT.b
  have hx:ix cls i=some (dW cls i):=fV (by omega) (by omega)
  rw [hx,Xo,vJ,XP]
  by_cases h:dW cls i∈o.map (dW cls)
  ·have hd:re cls l (k+1) i o=o:=by unfold re; rw [if_pos h]
   rw [hd,if_pos h]
   exact⟨ns,rfl,Ps.refl v hl,h⟩
  ·have hd:re cls l (k+1) i o=(nd l i).args.foldl (fun o a=>re cls l k a o) (o++[i]):=by
    show (if dW cls i∈o.map (dW cls) then o else (nd l i).args.foldl (fun o a=>re cls l k a o) (o++[i]))=_
    rw [if_neg h]
   have v1:Vs cls l.length (o++[i]):=by
    refine⟨?_,fun x hx=>?_⟩
    ·rw [XT,YC]
     refine⟨v.Hy,by simp,fun a ha b hb=>?_⟩
     simp only [XK,List.map_nil,XB] at hb
     subst hb; intro e; subst e; exact h ha
    ·rcases XE.1 hx with hx | hx
     ·exact v.nj x hx
     ·simp only [XB] at hx; subst hx; exact⟨h0,h1⟩
   have Gi:=v1.rf
   simp only [Xy,XO,Yh] at Gi
   have ly:app 56 ns [(⟨(nd l i).kind,(nd l i).int,(nd l i).label,[]⟩:ab)]=some (ns++[⟨(nd l i).kind,(nd l i).int,(nd l i).label,[]⟩]):=by
    unfold app; rw [if_pos (by simp; omega)]
   have MR:Fc (kN (o.map (dW cls)) 0) (dW cls i) ((ns.length:Nat):Int)=kN ((o++[i]).map (dW cls)) 0:=by
    have:=vK (o.map (dW cls)) 0 (dW cls i) h
    rw [XP,XF,←hl] at this
    rw [this,XT]; rfl
   obtain⟨n1,n2⟩:=ok.2 _ (fl h0 h1)
   have P0:Ps cls l (o++[i]) (o++[i]) (ns++[⟨(nd l i).kind,(nd l i).int,(nd l i).label,[]⟩]) (ns++[⟨(nd l i).kind,(nd l i).int,(nd l i).label,[]⟩]):=Ps.refl v1 (by simp [hl])
   obtain⟨o',AO,x,e,k2,P2,h2⟩:=Gh (m:=m) (v:=nd l i) (need:=k) hm ok (tO hm ok hc k) n1 n2 (o0:=o++[i]) (by simp; omega) m 0 (o++[i]) _ (by omega) (by omega) P0 (fun a ha=>by simp at ha)
   rw [X3] at e
   rw [List.take_zero,List.map_nil] at k2
   have k2:aT.l0 m cls ⟨l,root⟩ (aT.f m k) (nd l i) m [] 0 _ _=_:=k2
   obtain⟨s,hs⟩:=P2.pre
   have HM:o.length<o'.length:=by rw [hs]; simp
   have N0:AO[o.length]? = some ⟨(nd l i).kind,(nd l i).int,(nd l i).label,[]⟩:=by
    rw [P2.old _ (by simp),←hl,XL (Xs _),YX]; rfl
   have Lg:ix AO ((ns.length:Nat):Int)=some ⟨(nd l i).kind,(nd l i).int,(nd l i).label,[]⟩:=by
    unfold ix; rw [if_pos (by omega),Xv,hl,N0]
   have TA:gt o' o.length=i:=by
    rw [hs,ig (by simp)]
    unfold gt; rw [XJ,XL (Xs _),YX]; rfl
   have QT:idx cls o' i=(o.length:Nat):=by
    rw [hs,nN (by simp)]
    unfold idx
    rw [XT,YB,if_neg h]; simp
   rw [hd,←e,if_neg h,if_neg (by simp),Xo,gX h0 h1,Xo,ly,Xo,MR,k2,Xo]
   dsimp only
   rw [Lg,Xo,Xv,QT,hl]
   refine⟨_,rfl,⟨P2.vs,⟨[i]++s,by rw [hs]; simp⟩,by simpa using P2.len,fun q hq=>?_,fun q h3 h4=>?_,fun q h3 h4 a ha=>?_⟩,by rw [hs]; simp⟩
   ·rw [YV (by omega),P2.old q (by simp; omega),X1 (by omega)]
   ·by_cases hq:q=o.length
    ·subst hq
     rw [YQ (by rw [P2.len]; omega),TA]; rfl
    ·rw [YV (by omega)]
     exact P2.new q (by simp; omega) h4
   ·by_cases hq:q=o.length
    ·subst hq; rw [TA] at ha; exact h2 a ha
    ·exact P2.arg q (by simp; omega) h4 a ha
end
theorem tP {m:Nat}(hm:2 ^ 41≤m){t:ak}(ok:kM t.nodes)(h1:1≤t.nodes.length)(r0:0≤t.root)(r1:t.root<t.nodes.length)(Inv:List Int→Prop)
  (hI0:∀d out,d.Perm (ints t.nodes.length)→(Ord (fun x y=>cT (nd t.nodes x) (nd t.nodes y)) (ints t.nodes.length)→Sg (fun x y=>cT (nd t.nodes x) (nd t.nodes y)) d 0 t.nodes.length)→(∀k,k<t.nodes.length→gt out (gt d k).toNat=rk t.nodes d k)→Inv out)
  (hI:∀out many ks next,Part t.nodes.length out many→Inv out→qn t.nodes out t.nodes.length ks→next.length=t.nodes.length→(∀i,i<t.nodes.length→gt next i=(ks.idxOf (key out (nd t.nodes i) i):Int))→Inv next) :
  ∃cls many ks ns,cy.f m t=some ⟨ns,0⟩∧Part t.nodes.length cls many∧Inv cls∧qn t.nodes cls t.nodes.length ks∧ks.length=many+1∧Ps cls t.nodes [] (re cls t.nodes m t.root []) [] ns∧dW cls t.root∈(re cls t.nodes m t.root []).map (dW cls):=by
 have ni:(2:Nat) ^ 30=1073741824:=by decide
 have rC:(2:Nat) ^ 41=2199023255552:=by decide
 have h8000:=ok.1
 obtain⟨cls,many,ks,k1,P,I,K,Ae⟩:=xq hm ok h1 Inv hI0 hI
 obtain⟨ns,k2,P2,h2⟩:=tO (m:=m) (root:=t.root) (by omega) ok P.len m t.root [] [] r0 r1 ⟨by simp,fun x hx=>by simp at hx⟩ rfl (by simp; omega)
 refine⟨cls,many,ks,ns,?_,P,I,K,Ae,P2,h2⟩
 unfold cy.f
 have k2:aT.f m m t.root [] cls ⟨[],0⟩ t=_:=k2
 rw [k1,Xo,k2]; rfl
end Go.Proofs.YtmekcfdllhphlaaDoor
namespace Go.Proofs.YtmekcfdllhphlaaDoor
open Go Go.R
open Go.IntKind (i64 u64 u8 u32)
theorem tQ:∀(x:List UInt8),Op.bytesLess x x=false
 | []=>rfl
 | a::x=>by simp [Op.bytesLess,tQ x]
theorem xu:∀(x y:List UInt8),Op.bytesLess x y=true→Op.bytesLess y x=false
 | _,[],h=>by cases ‹List UInt8›<;>simp [Op.bytesLess] at h
 | [],b::y,_=>rfl
 | a::x,b::y,h=>by
  simp only [Op.bytesLess,Yc,Xt,decide_eq_true_eq,beq_iff_eq] at h
  simp only [Op.bytesLess,Bool.or_eq_false_iff,Bool.and_eq_false_iff,decide_eq_false_iff_not,beq_eq_false_iff_ne]
  rcases h with h | ⟨rfl,h⟩
  ·refine⟨fun h2=>?_,.inl fun e=>?_⟩
   ·rw [YJ] at h h2; omega
   ·subst e; rw [YJ] at h; omega
  ·exact⟨by rw [YJ]; omega,.inr (xu x y h)⟩
theorem Gj:∀(x y:List UInt8),Op.bytesLess x y=true∨x=y∨Op.bytesLess y x=true
 | [],[]=>.inr (.inl rfl)
 | [],b::y=>.inl rfl
 | a::x,[]=>.inr (.inr rfl)
 | a::x,b::y=>by
  simp only [Op.bytesLess,Yc,Xt,decide_eq_true_eq,beq_iff_eq,List.cons.injEq]
  rcases Nat.lt_trichotomy a.toNat b.toNat with h | h | h
  ·exact .inl (.inl (YJ.2 h))
  ·have:a=b:=UInt8.toNat_inj.1 h
   subst this
   rcases Gj x y with h1 | h1 | h1
   ·exact .inl (.inr ⟨rfl,h1⟩)
   ·exact .inr (.inl ⟨rfl,h1⟩)
   ·exact .inr (.inr (.inr ⟨rfl,h1⟩))
  ·exact .inr (.inr (.inl (YJ.2 h)))
theorem y6:∀(x y z:List UInt8),Op.bytesLess x y=true→Op.bytesLess y z=true→Op.bytesLess x z=true
 | _,_,[],_,h=>by cases ‹List UInt8›<;>simp [Op.bytesLess] at h
 | _,[],c::z,h,_=>by cases ‹List UInt8›<;>simp [Op.bytesLess] at h
 | [],b::y,c::z,_,_=>rfl
 | a::x,b::y,c::z,h1,h2=>by
  simp only [Op.bytesLess,Yc,Xt,decide_eq_true_eq,beq_iff_eq] at h1 h2 ⊢
  rcases h1 with h1 | ⟨rfl,h1⟩
  ·rcases h2 with h2 | ⟨rfl,h2⟩
   ·left; rw [YJ] at *; omega
   ·exact .inl h1
  ·rcases h2 with h2 | ⟨rfl,h2⟩
   ·exact .inl h2
   ·exact .inr ⟨rfl,y6 x y z h1 h2⟩
theorem AP {x y:ByteArray}(h:x.data.toList=y.data.toList):x=y:=by
 cases x with | mk a=>cases y with | mk b=>cases a; cases b; simp only at h; subst h; rfl
structure Lj {α:Type}(c:α→α→Int):Prop where
 zero:∀x y,c x y=0→x=y
 refl:∀x,c x x=0
 neg:∀x y,c y x = - c x y
 tr:∀x y z,c x y≤0→c y z≤0→c x z≤0
theorem ml:Lj cI:=by
 refine⟨fun x y h=>?_,fun x=>?_,fun x y=>?_,fun x y z h1 h2=>?_⟩
 ·unfold cI at h; split at h
  ·omega
  ·split at h<;>omega
 ·unfold cI; simp
 ·unfold cI; split<;>split<;>(try split)<;>omega
 ·unfold cI at *
  split at h1<;>split at h2<;>(try split at h1)<;>(try split at h2)<;>(try omega)<;>split<;>(try split)<;>omega
theorem y7 (x y:ByteArray):cS x y=if Op.bytesLess x.data.toList y.data.toList=true then -1 else if x=y then 0 else 1:=by
 unfold cS E6
 cases h:Op.bytesLess x.data.toList y.data.toList with
 | true=>rfl
 | false=>
  simp only [Bool.false_or,XG,if_false]
  by_cases e:x=y
  ·subst e; simp
  ·rw [if_neg e]
   have:(x.data.toList==y.data.toList)=false:=by
    rw [beq_eq_false_iff_ne]; exact fun h=>e (AP h)
   rw [this]; rfl
theorem Gk:Lj cS:=by
 refine⟨fun x y h=>?_,fun x=>?_,fun x y=>?_,fun x y z h1 h2=>?_⟩
 ·rw [y7] at h
  split at h
  ·omega
  ·split at h
   ·assumption
   ·omega
 ·rw [y7,tQ]; simp
 ·rw [y7,y7]
  rcases Gj x.data.toList y.data.toList with h | h | h
  ·have h2:=xu _ _ h
   have hne:¬y=x:=fun e=>by subst e; rw [tQ] at h; cases h
   rw [if_pos h,h2]; simp [hne]
  ·have:=AP h
   subst this
   rw [tQ]; simp
  ·have h2:=xu _ _ h
   have hne:¬x=y:=fun e=>by subst e; rw [tQ] at h; cases h
   rw [if_pos h,h2]; simp [hne]
 ·rw [y7] at h1 h2 ⊢
  split at h1
  ·rename_i g1
   split at h2
   ·rename_i g2
    rw [if_pos (y6 _ _ _ g1 g2)]; omega
   ·split at h2
    ·rename_i e; subst e; rw [if_pos g1]; omega
    ·omega
  ·split at h1
   ·rename_i e; subst e
    split at h2
    ·rename_i g2; rw [if_pos g2]; omega
    ·split at h2
     ·rename_i g e; rw [if_neg g,if_pos e]; omega
     ·omega
   ·omega
theorem Gl {α β:Type}{c:α→α→Int}{d:β→β→Int}(C:Lj c)(D:Lj d):Lj fun (p q:α × β)=>DP (c p.1 q.1) (d p.2 q.2):=by
 refine⟨fun x y h=>?_,fun x=>?_,fun x y=>?_,fun x y z h1 h2=>?_⟩
 ·unfold DP at h
  split at h
  ·rename_i h1; exact Prod.ext (C.zero _ _ h1) (D.zero _ _ h)
  ·exact absurd h ‹_›
 ·unfold DP; rw [C.refl,if_pos rfl,D.refl]
 ·skip
  unfold DP
  have:=C.neg x.1 y.1
  by_cases h:c x.1 y.1=0
  ·rw [if_pos h,if_pos (by omega),D.neg]
  ·rw [if_neg h,if_neg (by omega),C.neg]
 ·skip
  unfold DP at *
  by_cases a:c x.1 y.1=0
  ·rw [if_pos a] at h1
   have e:=C.zero _ _ a
   rw [←e] at h2
   by_cases b:c x.1 z.1=0
   ·rw [if_pos b] at h2 ⊢; exact D.tr _ _ _ h1 h2
   ·rw [if_neg b] at h2 ⊢; exact h2
  ·rw [if_neg a] at h1
   have hz:c x.1 z.1≤0:=by
    by_cases b:c y.1 z.1=0
    ·rw [←C.zero _ _ b]; exact h1
    ·rw [if_neg b] at h2; exact C.tr _ _ _ h1 h2
   have hne:c x.1 z.1≠0:=fun e=>by
    have e1:=C.zero _ _ e
    by_cases b:c y.1 z.1=0
    ·have e2:=C.zero _ _ b; rw [e1,←e2] at a; exact a (C.refl _)
    ·rw [if_neg b,←e1] at h2
     have:=C.neg x.1 y.1; omega
   rw [if_neg hne]; exact hz
theorem Ch:Lj fun (p q:Int × ByteArray)=>DP (cI p.1 q.1) (cS p.2 q.2):=Gl ml Gk
theorem Ci:Lj fun (p q:ByteArray × Int)=>DP (cS p.1 q.1) (cI p.2 q.2):=Gl Gk ml
theorem lj {a b:ab}(h:a.kind=b.kind):cT a b=if a.kind=3 then DP (cI a.args.length b.args.length) (cS a.label b.label) else DP (cS a.label b.label) (cI a.int b.int):=by unfold cT; rw [if_pos h]
theorem jw {a b:ab}(h:a.kind≠b.kind):cT a b=cI a.kind b.kind:=by unfold cT; rw [if_neg h]
theorem iY (a b:ab):cT b a = - cT a b:=by
 by_cases h:a.kind=b.kind
 ·rw [lj h,lj h.symm,←h]
  split
  ·exact Ch.neg ((a.args.length:Int),a.label) ((b.args.length:Int),b.label)
  ·exact Ci.neg (a.label,a.int) (b.label,b.int)
 ·rw [jw h,jw (YH h)]; exact ml.neg _ _
theorem y8 (a b c:ab)(h1:cT a b≤0)(h2:cT b c≤0):cT a c≤0:=by
 by_cases e1:a.kind=b.kind
 ·by_cases e2:b.kind=c.kind
  ·rw [lj e1] at h1
   rw [lj e2,←e1] at h2
   rw [lj (e1.trans e2)]
   split
   ·rename_i h3; rw [if_pos h3] at h1 h2
    exact Ch.tr ((a.args.length:Int),a.label) ((b.args.length:Int),b.label) ((c.args.length:Int),c.label) h1 h2
   ·rename_i h3; rw [if_neg h3] at h1 h2
    exact Ci.tr (a.label,a.int) (b.label,b.int) (c.label,c.int) h1 h2
  ·rw [jw e2] at h2
   rw [jw (by rw [e1]; exact e2),e1]; exact h2
 ·rw [jw e1] at h1
  by_cases e2:b.kind=c.kind
  ·rw [jw (by rw [←e2]; exact e1),←e2]; exact h1
  ·rw [jw e2] at h2
   have n1:cI a.kind b.kind≠0:=fun h=>e1 (ml.zero _ _ h)
   have n2:cI b.kind c.kind≠0:=fun h=>e2 (ml.zero _ _ h)
   by_cases e3:a.kind=c.kind
   ·rw [←e3] at h2
    have:=ml.neg a.kind b.kind
    omega
   ·rw [jw e3]; exact ml.tr _ _ _ h1 h2
structure Alike (a b:ab):Prop where
 kind:a.kind=b.kind
 int:a.int=b.int
 label:a.label=b.label
 len:a.args.length=b.args.length
theorem Alike.refl (a:ab):Alike a a:=⟨rfl,rfl,rfl,rfl⟩
theorem Alike.symm {a b:ab}(h:Alike a b):Alike b a:=⟨h.1.symm,h.2.symm,h.3.symm,h.4.symm⟩
theorem Alike.trans {a b c:ab}(h:Alike a b)(k:Alike b c):Alike a c:=⟨h.1.trans k.1,h.2.trans k.2,h.3.trans k.3,h.4.trans k.4⟩
theorem Alike.cT {a b:ab}(h:Alike a b):cT a b=0:=by
 rw [lj h.kind]
 split
 ·rw [h.len,h.label]; exact Ch.refl ((b.args.length:Int),b.label)
 ·rw [h.label,h.int]; exact Ci.refl (b.label,b.int)
theorem Gm {a b:ab}(h:cT a b=0)(ha:a.kind=3→a.int=0)(hb:b.kind=3→b.int=0)(QU:a.kind≠3→a.args=[])(hb2:b.kind≠3→b.args=[]):Alike a b:=by
 by_cases e:a.kind=b.kind
 ·rw [lj e] at h
  split at h
  ·rename_i h3
   have:=Ch.zero ((a.args.length:Int),a.label) ((b.args.length:Int),b.label) h
   simp only [Xw] at this
   exact⟨e,by rw [ha h3,hb (by rw [←e]; exact h3)],this.2,by omega⟩
  ·rename_i h3
   have:=Ci.zero (a.label,a.int) (b.label,b.int) h
   simp only [Xw] at this
   exact⟨e,this.2,this.1,by rw [QU h3,hb2 (by rw [←e]; exact h3)]⟩
 ·rw [jw e] at h
  exact absurd (ml.zero _ _ h) e
theorem Lk (l:List ab)(s:List Int):Ord (fun x y=>cT (nd l x) (nd l y)) s:=by
 refine⟨fun x _ y _ z _ h1 h2=>?_,fun x _ y _ h=>?_⟩
 ·skip
  have a1:=iY (nd l x) (nd l y)
  have a2:=iY (nd l y) (nd l z)
  have a3:=iY (nd l x) (nd l z)
  have:=y8 (nd l x) (nd l y) (nd l z) (by omega) (by omega)
  omega
 ·skip
  have a1:=iY (nd l x) (nd l y)
  omega
end Go.Proofs.YtmekcfdllhphlaaDoor
namespace Go.Proofs.YtmekcfdllhphlaaDoor
open Go Go.R
open Go.IntKind (i64 u64 u8 u32)
def y9:cg:=gL [0,1,5] [] [0,4,4,7] [] []
def bU.l0 (m:Nat)  : Nat→Int→(List Int)→Option (Int × (List Int))
 | 0,_,_=>none
 | k+1,n1,w1=>if (decide (n1≥(128:Int)))=true then ((Fj w1 ([iV .u8 (u8.wrap n1) (128:Int)])).bind fun xT=>bU.l0 m k (ga .u64 n1 7) xT) else (some ((n1,w1)))
def bU.f (m:Nat)(w0:List Int)(n0:Int):Option ((List Int)):=(bU.l0 m m n0 w0).bind fun bj=>match bj with | (n2,w2)=>(Fj w2 ([u8.wrap n2])).bind fun N1=>some N1
def bU.fin (L:Mem)(bR:Nat)(b5:Nat)(w0:List Int)(n0:Int)(r:(List Int))(s:St):Prop:=∃dt:Nat,aH Tryd.prog (s.open y9) Tryd.f54.results.toList=some (.tup [])∧Has s.h ((bR,.ob [.rs dt 0 r.length 1,.int .i64 (0:Int),.int .i8 (0:Int)])::(dt,.row 5 (aw.l r))::L)
def Mf (cf:CallF)(m:Nat):Prop:=∀(w0:List Int) (n0:Int) (r:(List Int)),bU.f m w0 n0=some r→∀h L (bR:Nat) (b5:Nat),Has h ((bR,.ob [.rs b5 0 w0.length 1,.int .i64 (0:Int),.int .i8 (0:Int)])::(b5,.row 5 (aw.l w0))::L)→∀xs,xs.map az=[.ptr bR 0,.int .u64 n0]→∃dt h',cf 54 xs h=some (.tup [],h')∧Has h' ((bR,.ob [.rs dt 0 r.length 1,.int .i64 (0:Int),.int .i8 (0:Int)])::(dt,.row 5 (aw.l r))::L)
section
variable {cf:CallF}{m:Nat}
theorem bU.bI (L:Mem)(bR:Nat)(b5:Nat)(w0:List Int)(n0:Int)  (xw:Ns cf m):bD Tryd.prog cf y9 m (sub [0,0,0] (codeOf Tryd.f54)) (fun k (σ:Int × (List Int))=>bU.l0 m k σ.1 σ.2) (fun σ s=>match σ with | (n1,w1)=>∃aA h0,s=⟨[.ptr bR 0,.int .u64 n1,.any],[],h0⟩∧Has h0 ((bR,.ob [.rs aA 0 w1.length 1,.int .i64 (0:Int),.int .i8 (0:Int)])::(aA,.row 5 (aw.l w1))::L)) (fun out e s=>(e = .exit 0∧∃n1 w1,(n1,w1)=out∧∃xo aA h0,s=⟨[.ptr bR 0,.int .u64 n1,xo],[],h0⟩∧Has h0 ((bR,.ob [.rs aA 0 w1.length 1,.int .i64 (0:Int),.int .i8 (0:Int)])::(aA,.row 5 (aw.l w1))::L))):=by
 refine gH (fun _=>rfl) ?_
 rintro k ⟨n1,w1⟩ s out ⟨aA,h0,rfl,o0⟩ H
 have H:bU.l0 m (k+1) n1 w1=some out:=H
 refine qq <| qq <| q0 <| qc H (fun c0 H=>?_) (fun c0 H=>?_)
 ·refine qk <| qq <| qb 1 ?_
  obtain⟨xT,e0,H⟩:=aI H
  obtain⟨eS,h1,e1,o1⟩:=sj (bs:=w1) xw o0 e0
  exact qr [.a 6 e1] <| q0 <| ⟨(ga .u64 n1 7,xT),⟨eS,h1,by kernel_rfl,o1⟩,H⟩
 ·exact qx 0 <| ⟨rfl,n1,w1,oi H,.bool (decide (n1≥(128:Int))),aA,h0,by kernel_rfl,o0⟩
theorem tR {aU:FuncId→cg}(ha:aU 54=y9)(xw:Ns cf m)(w0:List Int)(n0:Int)(h:AHeap)(L:Mem)(bR:Nat)(b5:Nat)  (o:Has h ((bR,.ob [.rs b5 0 w0.length 1,.int .i64 (0:Int),.int .i8 (0:Int)])::(b5,.row 5 (aw.l w0))::L)){out:(List Int)}(H:bU.f m w0 n0=some out) :
  ∃r h',bc Tryd.prog aU cf m 54 [.ptr bR 0,.int .u64 n0] h=some (r,h')∧∃dt:Nat,r = .tup []∧Has h' ((bR,.ob [.rs dt 0 out.length 1,.int .i64 (0:Int),.int .i8 (0:Int)])::(dt,.row 5 (aw.l out))::L):=by
 refine aq (fn:=Tryd.f54) ha Tryd.func54 (by kernel_rfl) (by kernel_rfl) ?_
 refine aG (Q:=fun s=>bU.fin L bR b5 w0 n0 out s) (fun _ _ ⟨h1,dt,h2,h3⟩=>⟨h1,_,h2,dt,rfl,h3⟩) ?_
 have H:_=some out:=H
 unfold bU.f at H
 show de _ cf y9 m _ ⟨[.ptr bR 0,.int .u64 n0,.any],[],h⟩ _
 refine qq <| qb 0 ?_
 obtain⟨bj,e2,H⟩:=aI H
 refine ql (bU.bI L bR b5 w0 n0  xw (n0,w0) _ _ ⟨b5,h,by kernel_rfl,o⟩ e2) ?_
 rintro e s ⟨rfl,n2,w2,rfl,g0,cF,h2,rfl,o2⟩
 try dsimp only at H
 obtain⟨N1,e3,H⟩:=aI H
 obtain⟨fb,h3,e4,o3⟩:=sj (bs:=w2) xw o2 e3
 obtain rfl:=oi H
 exact qr [.a 5 e4] <| ⟨.inr rfl,⟨fb,by kernel_rfl,he o3⟩⟩
end
end Go.Proofs.YtmekcfdllhphlaaDoor
namespace Go.Proofs.YtmekcfdllhphlaaDoor
open Go Go.R
open Go.IntKind (i64 u64 u8 u32)
def Cj:cg:=gL [0,2,3,9] [] [14,6,15,13,10,11,13] [] []
def jx.f (m:Nat)(r0:fq):Option (Int × fq):=if ((r0.eH.length:Int)==(0:Int))=true then (some ((0:Int),(fq.mk r0.eH true))) else ((ix r0.eH (0:Int)).bind fun v0=>(pD r0.eH (1:Int) (r0.eH.length:Int)).bind fun v1=>some (v0,(fq.mk v1 r0.bq)))
def jx.fin (L:Mem)(aA:Nat)(r0:fq)(r:Int × fq)(s:St):Prop:=aH Tryd.prog (s.open Cj) Tryd.f59.results.toList=some (.int .u8 r.1)∧Has s.h ((aA,.ob [aw.fz r.2.eH,.bool r.2.bq])::L)
def O5 (cf:CallF)(m:Nat):Prop:=∀(r0:fq) (r:Int × fq),jx.f m r0=some r→∀h L (aA:Nat),Has h ((aA,.ob [aw.fz r0.eH,.bool r0.bq])::L)→∀xs,xs.map az=[.ptr aA 0]→∃h',cf 59 xs h=some (.int .u8 r.1,h')∧Has h' ((aA,.ob [aw.fz r.2.eH,.bool r.2.bq])::L)
section
variable {cf:CallF}{m:Nat}
theorem xy {aU:FuncId→cg}(ha:aU 59=Cj)  (r0:fq)(h:AHeap)(L:Mem)(aA:Nat)  (o:Has h ((aA,.ob [aw.fz r0.eH,.bool r0.bq])::L)){out:Int × fq}(H:jx.f m r0=some out) :
  ∃r h',bc Tryd.prog aU cf m 59 [.ptr aA 0] h=some (r,h')∧r = .int .u8 out.1∧Has h' ((aA,.ob [aw.fz out.2.eH,.bool out.2.bq])::L):=by
 refine aq (fn:=Tryd.f59) ha Tryd.func59 (by kernel_rfl) (by kernel_rfl) ?_
 refine aG (Q:=fun s=>jx.fin L aA r0 out s) (fun _ _ ⟨h1,h2,h3⟩=>⟨h1,_,h2,rfl,h3⟩) ?_
 have H:_=some out:=H
 unfold jx.f at H
 show de _ cf Cj m _ ⟨.ptr aA 0::jP [],[],h⟩ _
 refine q1 <| qq <| qq <| qr [.v 3 (show bl Tryd.prog h 25 (.ptr aA 0)=some (aw.fz r0.eH) from ca (q:=0) (cs:=[aw.fz r0.eH,.bool r0.bq]) o rfl (by kernel_rfl))] <| qc H (fun c0 H=>?_) (fun c0 H=>?_)
 ·refine qq ?_
  obtain⟨h0,e0,o0⟩:=kD (P:=Tryd.prog) (t:=4) (off:=1) (q:=0) (cs:=[aw.fz r0.eH,.bool r0.bq]) (fm:=[aw.fz r0.eH,.bool true]) (x:=.bool true) o rfl (by kernel_rfl)
  obtain rfl:=oi H
  exact qr [.w 3 e0] <| qq <| q0 <| qt <| ⟨.inl rfl,⟨by kernel_rfl,he o0⟩⟩
 ·refine qk <| qq ?_
  obtain⟨v0,e1,H⟩:=aI H
  refine qr [.v 3 (show bl Tryd.prog h 25 (.ptr aA 0)=some (aw.fz r0.eH) from ca (q:=0) (cs:=[aw.fz r0.eH,.bool r0.bq]) o rfl (by kernel_rfl)),.v 4 (bw (k:=.i64) (E:=aw) (l:=r0.eH) Il e1),.v 5 (cY  (E:=aw) (l:=r0.eH) h A5 e1 rfl)] <| qq ?_
  obtain⟨v1,e2,H⟩:=aI H
  obtain⟨h1,e3,o1⟩:=kD (P:=Tryd.prog) (t:=25) (off:=0) (q:=0) (cs:=[aw.fz r0.eH,.bool r0.bq]) (fm:=[aw.fz v1,.bool r0.bq]) (x:=aw.fz v1) o rfl (by kernel_rfl)
  obtain rfl:=oi H
  exact qr [.v 4 (show bl Tryd.prog h 25 (.ptr aA 0)=some (aw.fz r0.eH) from ca (q:=0) (cs:=[aw.fz r0.eH,.bool r0.bq]) o rfl (by kernel_rfl)),.v 5 (show eZ Tryd.prog 25 (aw.fz r0.eH) (some (.int .i64 (1:Int))) none none=some (aw.fz v1) from wX (E:=aw) Il e2),.w 8 e3] <| qq <| q0 <| qt <| ⟨.inl rfl,⟨by kernel_rfl,he o1⟩⟩
end
end Go.Proofs.YtmekcfdllhphlaaDoor
namespace Go.Proofs.YtmekcfdllhphlaaDoor
open Go Go.R
open Go.IntKind (i64 u64 u8 u32)
def za:cg:=gL [0,2,3,4,5,10,24,36] [] [254,250,242,210,242,226,162,251,226,114,253] [] []
def bK.l0 (m:Nat)  : Nat→Int→Int→fq→Option (Int × Int × fq)
 | 0,_,_,_=>none
 | k+1,n0,dm,r1=>if (!r1.bq)=true then ((jx.f m r1).bind fun x0=>if (decide (dm > (56:Int)))=true then (some ((n0,dm,(fq.mk x0.2.eH true)))) else (if (decide (dm > (0:Int)))=true then (if (x0.1==(0:Int))=true then (some ((n0,dm,(fq.mk x0.2.eH true)))) else ((Dq .u64 (u64.wrap (hH .u8 x0.1 (127:Int))) dm).bind fun v0=>if (decide (x0.1<(128:Int)))=true then (some ((iV .u64 n0 v0,dm,x0.2))) else (bK.l0 m k (iV .u64 n0 v0) (i64.wrap (dm+(7:Int))) x0.2))) else ((Dq .u64 (u64.wrap (hH .u8 x0.1 (127:Int))) dm).bind fun v1=>if (decide (x0.1<(128:Int)))=true then (some ((iV .u64 n0 v1,dm,x0.2))) else (bK.l0 m k (iV .u64 n0 v1) (i64.wrap (dm+(7:Int))) x0.2)))) else (some ((n0,dm,r1)))
def bK.f (m:Nat)(r0:fq):Option (Int × fq):=(bK.l0 m m (0:Int) (0:Int) r0).bind fun bj=>match bj with | (n1,Ll,r2)=>some (i64.wrap n1,r2)
def bK.fin (L:Mem)(aA:Nat)(r0:fq)(r:Int × fq)(s:St):Prop:=aH Tryd.prog (s.open za) Tryd.f43.results.toList=some (.int .i64 r.1)∧Has s.h ((aA,.ob [aw.fz r.2.eH,.bool r.2.bq])::L)
def Lm (cf:CallF)(m:Nat):Prop:=∀(r0:fq) (r:Int × fq),bK.f m r0=some r→∀h L (aA:Nat),Has h ((aA,.ob [aw.fz r0.eH,.bool r0.bq])::L)→∀xs,xs.map az=[.ptr aA 0]→∃h',cf 43 xs h=some (.int .i64 r.1,h')∧Has h' ((aA,.ob [aw.fz r.2.eH,.bool r.2.bq])::L)
section
variable {cf:CallF}{m:Nat}
theorem bK.bI (L:Mem)(aA:Nat)(r0:fq)  (Gn:O5 cf m):bD Tryd.prog cf za m (sub [1,1,0,1,0,0] (codeOf Tryd.f43)) (fun k (σ:Int × Int × fq)=>bK.l0 m k σ.1 σ.2.1 σ.2.2) (fun σ s=>match σ with | (n0,dm,r1)=>∃h0,s=⟨.ptr aA 0 :: .any :: .int .u64 n0 :: .int .i64 dm::q7 [],[],h0⟩∧Has h0 ((aA,.ob [aw.fz r1.eH,.bool r1.bq])::L)) (fun out e s=>(e = .exit 0∧∃n0 dm r1,(n0,dm,r1)=out∧∃kG DK qa QV h0,s=⟨[kG,.any,.int .u64 n0,DK,.any,qa,.any,QV],[],h0⟩∧Has h0 ((aA,.ob [aw.fz r1.eH,.bool r1.bq])::L))):=by
 refine gH (fun _=>rfl) ?_
 rintro k ⟨n0,dm,r1⟩ s out ⟨h0,rfl,o0⟩ H
 have H:bK.l0 m (k+1) n0 dm r1=some out:=H
 refine qq <| qq <| qr [.v 3 (show bl Tryd.prog h0 4 (.ptr aA 1)=some (.bool r1.bq) from ca (q:=0) (cs:=[aw.fz r1.eH,.bool r1.bq]) o0 rfl (by kernel_rfl))] <| qc H (fun c0 H=>?_) (fun c0 H=>?_)
 ·refine qk <| qq <| qb 1 <| qq ?_
  obtain⟨x0,e0,H⟩:=aI H
  obtain⟨h1,e1,o1⟩:=Gn _ _ e0 h0 _ _ (o0)  [.ptr aA 0] (an (rfl) (bo))
  refine qr [.a 1 e1] <| qq <| qq ?_
  rcases dJ H with⟨c1,H⟩| ⟨c1,H⟩
  ·refine qr [.b 2 c1] <| xb <| qq ?_
   obtain⟨h2,e2,o2⟩:=kD (P:=Tryd.prog) (t:=4) (off:=1) (q:=0) (cs:=[aw.fz x0.2.eH,.bool x0.2.bq]) (fm:=[aw.fz x0.2.eH,.bool true]) (x:=.bool true) o1 rfl (by kernel_rfl)
   exact qr [.w 3 e2] <| qx 0 <| ⟨rfl,n0,dm,(fq.mk x0.2.eH true),oi H,.any,.any,.any,.any,h2,by kernel_rfl,o2⟩
  ·rcases dJ H with⟨c3,H⟩| ⟨c3,H⟩
   ·refine qr [.b 2 c1,.b 5 c3] <| qc H (fun c4 H=>?_) (fun c4 H=>?_)
    ·refine qq ?_
     obtain⟨h3,e3,o3⟩:=kD (P:=Tryd.prog) (t:=4) (off:=1) (q:=0) (cs:=[aw.fz x0.2.eH,.bool x0.2.bq]) (fm:=[aw.fz x0.2.eH,.bool true]) (x:=.bool true) o1 rfl (by kernel_rfl)
     exact qr [.w 3 e3] <| qx 0 <| ⟨rfl,n0,dm,(fq.mk x0.2.eH true),oi H,.any,.any,.any,.any,h3,by kernel_rfl,o3⟩
    ·refine qk <| qq ?_
     obtain⟨v0,e4,H⟩:=aI H
     refine qr [.v 5 (show lL Tryd.prog .shl 40 (.int .u64 (u64.wrap (hH .u8 x0.1 (127:Int)))) (.int .i64 dm)=some (.int .u64 v0) from Fb e4)] <| qq <| q0 <| qc H (fun c5 H=>?_) (fun c5 H=>?_)
     ·exact qx 0 <| ⟨rfl,iV .u64 n0 v0,dm,x0.2,oi H,.ptr aA 0,.int .i64 dm,.any,.bool (decide (x0.1<(128:Int))),h1,by kernel_rfl,o1⟩
     ·exact qk <| q0 <| ⟨(iV .u64 n0 v0,i64.wrap (dm+(7:Int)),x0.2),⟨h1,by kernel_rfl,o1⟩,H⟩
   ·refine qr [.b 2 c1,.b 5 c3] <| Dx <| qk <| qq ?_
    obtain⟨v1,e5,H⟩:=aI H
    refine qr [.v 5 (show lL Tryd.prog .shl 40 (.int .u64 (u64.wrap (hH .u8 x0.1 (127:Int)))) (.int .i64 dm)=some (.int .u64 v1) from Fb e5)] <| qq <| q0 <| qc H (fun c7 H=>?_) (fun c7 H=>?_)
    ·exact qx 0 <| ⟨rfl,iV .u64 n0 v1,dm,x0.2,oi H,.ptr aA 0,.int .i64 dm,.any,.bool (decide (x0.1<(128:Int))),h1,by kernel_rfl,o1⟩
    ·exact qk <| q0 <| ⟨(iV .u64 n0 v1,i64.wrap (dm+(7:Int)),x0.2),⟨h1,by kernel_rfl,o1⟩,H⟩
 ·exact qx 0 <| ⟨rfl,n0,dm,r1,oi H,.ptr aA 0,.int .i64 dm,.bool (!r1.bq),.any,h0,by kernel_rfl,o0⟩
theorem tS {aU:FuncId→cg}(ha:aU 43=za)(Gn:O5 cf m)(r0:fq)(h:AHeap)(L:Mem)(aA:Nat)  (o:Has h ((aA,.ob [aw.fz r0.eH,.bool r0.bq])::L)){out:Int × fq}(H:bK.f m r0=some out) :
  ∃r h',bc Tryd.prog aU cf m 43 [.ptr aA 0] h=some (r,h')∧r = .int .i64 out.1∧Has h' ((aA,.ob [aw.fz out.2.eH,.bool out.2.bq])::L):=by
 refine aq (fn:=Tryd.f43) ha Tryd.func43 (by kernel_rfl) (by kernel_rfl) ?_
 refine aG (Q:=fun s=>bK.fin L aA r0 out s) (fun _ _ ⟨h1,h2,h3⟩=>⟨h1,_,h2,rfl,h3⟩) ?_
 have H:_=some out:=H
 unfold bK.f at H
 show de _ cf za m _ ⟨.ptr aA 0::Ea [],[],h⟩ _
 refine q1 <| qq <| q0 <| qq <| qq <| q0 <| qb 0 ?_
 obtain⟨bj,e6,H⟩:=aI H
 refine ql (bK.bI L aA r0  Gn ((0:Int),(0:Int),r0) _ _ ⟨h,by kernel_rfl,o⟩ e6) ?_
 rintro e s ⟨rfl,n1,Ll,r2,rfl,g0,g1,g2,g3,h4,rfl,o4⟩
 try dsimp only at H
 obtain rfl:=oi H
 exact q1 <| qt <| ⟨.inl rfl,⟨by kernel_rfl,he o4⟩⟩
end
end Go.Proofs.YtmekcfdllhphlaaDoor
namespace Go.Proofs.YtmekcfdllhphlaaDoor
open Go Go.R
open Go.IntKind (i64 u64 u8 u32)
theorem mo {bs news:List Int}(h:bs≠[])(hn:news≠[])(hl:bs.length+news.length≤140737488355328):Fj bs news=some (bs++news):=by
 unfold Fj wB
 rw [if_neg h,if_pos ⟨hl,hn⟩]
theorem Ix (n:Nat):dI n≠[]:=by
 by_cases h:n<128
 ·rw [k7 h]; simp
 ·rw [oM h]; simp
theorem Gp (m:Nat):∀(k n:Nat) (w:List Int) (f:Nat),k<f→n<128 ^ (k+1)→n<2 ^ 64→w≠[]→w.length+k≤140737488355328→
  ∃(x:Nat) (pre:List Int),x<128∧bU.l0 m f (n:Int) w=some ((x:Int),w++pre)∧pre++[(x:Int)]=dI n∧pre.length≤k
 | _,_,_,0,hf,_,_,_,_=>absurd hf (by omega)
 | k,n,w,f+1,hf,hk,hn,hw,hl=>by
  by_cases h:n<128
  ·refine⟨n,[],h,?_,by rw [k7 h]; rfl,Y1 _⟩
   unfold bU.l0
   rw [if_neg (by simp; omega),Yo]
  ·cases k with
   | zero=>simp at hk; omega
   | succ k=>
    have hd:n / 128<128 ^ (k+1):=by
     rw [Nat.div_lt_iff_lt_mul (by omega)]
     calc n<128 ^ (k+1+1):=hk
      _=_:=by rw [Nat.pow_succ]
    obtain⟨x,pre,h1,h2,h3,h4⟩:=Gp m k (n / 128) (w++[((n % 128+128:Nat):Int)]) f (by omega) hd (by omega) (by simp) (by simp; omega)
    refine⟨x,((n % 128+128:Nat):Int)::pre,h1,?_,by rw [oM h,XR,h3],by simp; omega⟩
    unfold bU.l0
    rw [if_pos (by simp; omega),mF,Ni,mo hw (by simp) (by simp; omega),Xo,Qi,h2,XC]
    rfl
theorem zb {m n:Nat}{w:List Int}(hm:11≤m)(hn:n<2 ^ 64)(hw:w≠[])(hl:w.length+20≤140737488355328):bU.f m w (n:Int)=some (w++dI n):=by
 obtain⟨x,pre,h1,h2,h3,h4⟩:=Gp m 10 n w m (by omega) (by omega) hn hw (by omega)
 unfold bU.f
 rw [h2,Xo]
 simp only
 rw [mF,show ((x:Int) % 256)=(x:Int) by omega,mo (by simp [hw]) (by simp) (by simp; omega),Xo,XC,←h3]
theorem vL {m:Nat}{c:Int}{l:List Int}{bad:Bool}:jx.f m ⟨c::l,bad⟩=some (c,⟨l,bad⟩):=by
 unfold jx.f
 rw [if_neg (by simp; omega)]
 have h1:ix (c::l) 0=some c:=rfl
 have h2:pD (c::l) 1 ((c::l).length:Int)=some l:=by
  unfold pD
  rw [if_pos ⟨by omega,by simp; omega,Int.le_refl _⟩]
  simp
 simp only [h1,h2,Xo]
theorem Gq (m:Nat):∀(k f:Nat),k<f→∀(n a j:Nat) (rest:List Int),n<128 ^ (k+1)→a<2 ^ (7*j)→a+n*2 ^ (7*j)<2 ^ 63→(j=0∨1≤n)→
  ∃s':Int,bK.l0 m f (a:Int) ((7*j:Nat):Int) ⟨dI n++rest,false⟩=some (((a+n*2 ^ (7*j):Nat):Int),s',⟨rest,false⟩)
 | k,0,hf,_,_,_,_,_,_,_,_=>absurd hf (by omega)
 | k,f+1,hf,n,a,j,rest,hk,ha,hn,h0=>by
  have hs:7*j≤56:=by
   rcases h0 with h0 | h0
   ·omega
   ·have:7*j≤62:=by
     apply Nat.le_of_not_lt
     intro h
     have h1:2 ^ 63≤2 ^ (7*j):=Nat.pow_le_pow_right (by omega) (by omega)
     have h2:1*2 ^ (7*j)≤n*2 ^ (7*j):=Yg _ h0
     omega
    omega
  by_cases h:n<128
  ·rw [k7 h]
   obtain⟨g1,g2⟩:=Fp a n (7*j) ha hs (by omega) h
   have g3:hH .u8 (n:Int) 127=(n:Int):=by rw [Fo n (by omega)]; omega
   refine⟨((7*j:Nat):Int),?_⟩
   unfold bK.l0
   rw [if_pos (show (!false)=true from rfl),List.singleton_append,vL,Xo,if_neg (by simp; omega)]
   dsimp only
   rw [g3,g1,Xo]
   rw [if_pos (show decide ((n:Int)<128)=true by simp; omega),g2]
   by_cases hj:j=0
   ·rw [if_neg (by simp; omega)]
   ·rw [if_pos (by simp; omega),if_neg (by simp; omega)]
  ·rw [oM h]
   cases k with
   | zero=>simp at hk; omega
   | succ k=>
    have hd:n / 128<128 ^ (k+1):=by
     rw [Nat.div_lt_iff_lt_mul (by omega)]
     calc n<128 ^ (k+1+1):=hk
      _=_:=by rw [Nat.pow_succ]
    have hp:2 ^ (7*(j+1))=128*2 ^ (7*j):=by rw [show 7*(j+1)=7+7*j by omega,Nat.pow_add]
    have Ke:a+n % 128*2 ^ (7*j)+n / 128*2 ^ (7*(j+1))=a+n*2 ^ (7*j):=by
     rw [hp,←Nat.mul_assoc,Yb,←Yz]
     congr 2
     omega
    have QU:a+n % 128*2 ^ (7*j)<2 ^ (7*(j+1)):=by
     rw [hp]
     have:n % 128*2 ^ (7*j)≤127*2 ^ (7*j):=Yg _ (by omega)
     omega
    obtain⟨g1,g2⟩:=Fp a (n % 128) (7*j) ha hs (by have:=Y1 (n / 128*2 ^ (7*(j+1))); omega) (Nat.mod_lt _ (by omega))
    have g3:hH .u8 ((n % 128+128:Nat):Int) 127=((n % 128:Nat):Int):=by
     rw [Fo _ (by omega)]; omega
    obtain⟨s',ih⟩:=Gq m k f (by omega) (n / 128) (a+n % 128*2 ^ (7*j)) (j+1) rest hd QU (by omega) (.inr (by omega))
    rw [Ke] at ih
    refine⟨s',?_⟩
    unfold bK.l0
    rw [if_pos (show (!false)=true from rfl),XR,vL,Xo,if_neg (by simp; omega)]
    dsimp only
    rw [g3,g1,Xo,g2]
    have g4:i64.wrap (((7*j:Nat):Int)+7)=((7*(j+1):Nat):Int):=by rw [aD (by omega) (by omega)]; omega
    rw [if_neg (show ¬decide (((n % 128+128:Nat):Int)<128)=true by simp; omega),g4,ih]
    by_cases hj:j=0
    ·rw [if_neg (by simp; omega)]
    ·rw [if_pos (by simp; omega),if_neg (by simp; omega)]
theorem AQ {m n:Nat}{rest:List Int}(hm:11≤m)(hn:n<2 ^ 63):bK.f m ⟨dI n++rest,false⟩=some ((n:Int),⟨rest,false⟩):=by
 obtain⟨s',h⟩:=Gq m 10 m (by omega) n 0 0 rest (by omega) (by omega) (by omega) (.inl rfl)
 unfold bK.f
 have h:bK.l0 m m (0:Int) (0:Int) ⟨dI n++rest,false⟩=some (((0+n*2 ^ (7*0):Nat):Int),s',⟨rest,false⟩):=h
 rw [h,Xo]
 simp only
 rw [aD (by omega) (by omega)]
 simp
end Go.Proofs.YtmekcfdllhphlaaDoor
namespace Go.Proofs.YtmekcfdllhphlaaDoor
open Go Go.R
open Go.IntKind (i64 u64 u8 u32)
def Ck:cg:=gL [0,1] [] [0,3] [] []
def jy.f (m:Nat)(w0:List Int)(s0:ByteArray):Option ((List Int)):=(bU.f m w0 (u64.wrap (s0.size:Int))).bind fun x0=>(Fj x0 (eP s0)).bind fun xT=>some xT
def jy.fin (L:Mem)(bR:Nat)(b5:Nat)(w0:List Int)(s0:ByteArray)(r:(List Int))(s:St):Prop:=∃dt:Nat,aH Tryd.prog (s.open Ck) Tryd.f74.results.toList=some (.tup [])∧Has s.h ((bR,.ob [.rs dt 0 r.length 1,.int .i64 (0:Int),.int .i8 (0:Int)])::(dt,.row 5 (aw.l r))::L)
def TB (cf:CallF)(m:Nat):Prop:=∀(w0:List Int) (s0:ByteArray) (r:(List Int)),jy.f m w0 s0=some r→∀h L (bR:Nat) (b5:Nat),Has h ((bR,.ob [.rs b5 0 w0.length 1,.int .i64 (0:Int),.int .i8 (0:Int)])::(b5,.row 5 (aw.l w0))::L)→∀xs,xs.map az=[.ptr bR 0,.str s0]→∃dt h',cf 74 xs h=some (.tup [],h')∧Has h' ((bR,.ob [.rs dt 0 r.length 1,.int .i64 (0:Int),.int .i8 (0:Int)])::(dt,.row 5 (aw.l r))::L)
section
variable {cf:CallF}{m:Nat}
theorem xz {aU:FuncId→cg}(ha:aU 74=Ck)(pd:Mf cf m)(N2:Nt cf m)(w0:List Int)(s0:ByteArray)(h:AHeap)(L:Mem)(bR:Nat)(b5:Nat)  (o:Has h ((bR,.ob [.rs b5 0 w0.length 1,.int .i64 (0:Int),.int .i8 (0:Int)])::(b5,.row 5 (aw.l w0))::L)){out:(List Int)}(H:jy.f m w0 s0=some out) :
  ∃r h',bc Tryd.prog aU cf m 74 [.ptr bR 0,.str s0] h=some (r,h')∧∃dt:Nat,r = .tup []∧Has h' ((bR,.ob [.rs dt 0 out.length 1,.int .i64 (0:Int),.int .i8 (0:Int)])::(dt,.row 5 (aw.l out))::L):=by
 refine aq (fn:=Tryd.f74) ha Tryd.func74 (by kernel_rfl) (by kernel_rfl) ?_
 refine aG (Q:=fun s=>jy.fin L bR b5 w0 s0 out s) (fun _ _ ⟨h1,dt,h2,h3⟩=>⟨h1,_,h2,dt,rfl,h3⟩) ?_
 have H:_=some out:=H
 unfold jy.f at H
 show de _ cf Ck m _ ⟨[.ptr bR 0,.str s0],[],h⟩ _
 refine qq ?_
 obtain⟨x0,e0,H⟩:=aI H
 obtain⟨aA,h0,e1,o0⟩:=pd _ _ _ e0 h _ _ _ (o)  [.ptr bR 0,.int .u64 (u64.wrap (s0.size:Int))] (an (rfl) (an (aP (bE)) (bo)))
 refine qr [.a 4 e1] ?_
 obtain⟨xT,e2,H⟩:=aI H
 obtain⟨eS,h1,e3,o1⟩:=If (bs:=x0) N2 o0 e2
 obtain rfl:=oi H
 exact qr [.a 4 e3] <| ⟨.inr rfl,⟨eS,by kernel_rfl,he o1⟩⟩
end
end Go.Proofs.YtmekcfdllhphlaaDoor
namespace Go.Proofs.YtmekcfdllhphlaaDoor
open Go Go.R
open Go.IntKind (i64 u64 u8 u32)
def zc:cg:=gL [0,1,3,5,14,15,22,26,41,47,60,61,62,63] [3] [16378,16378,16362,16330,16383,16298,16250,16383,16383,16106,16383,15866,16378,16378,9214,1022,9206,9214,9214] [] []
def dU.l0 (m:Nat)(n0:ab):Nat→Int→(List Int)→Option (Int × (List Int))
 | 0,_,_=>none
 | k+1,x6,w1=>if (decide (x6<(n0.args.length:Int)))=true then ((ix n0.args x6).bind fun v0=>(bU.f m w1 (u64.wrap v0)).bind fun x7=>dU.l0 m n0 k (i64.wrap (x6+(1:Int))) x7) else (some ((x6,w1)))
def dU.f (m:Nat)(w0:List Int)(n0:ab):Option ((List Int)):=(Fj w0 ([u8.wrap n0.kind])).bind fun xT=>if (n0.kind==(0:Int))=true then ((bU.f m xT (u64.wrap n0.int)).bind fun x0=>some x0) else (if (n0.kind==(1:Int))=true then (if (decide (n0.int<(0:Int)))=true then ((bU.f m xT (u64.wrap (u64.wrap (u64.wrap (i64.wrap (0 - n0.int))*(2:Int)) - (1:Int)))).bind fun x1=>some x1) else ((bU.f m xT (u64.wrap (u64.wrap n0.int*(2:Int)))).bind fun x2=>some x2)) else (if (n0.kind==(2:Int))=true then ((jy.f m xT n0.label).bind fun x3=>some x3) else (if (n0.kind==(3:Int))=true then ((jy.f m xT n0.label).bind fun x4=>(bU.f m x4 (u64.wrap (n0.args.length:Int))).bind fun x5=>(dU.l0 m n0 m (0:Int) x5).bind fun bj=>match bj with | (x8,w2)=>some w2) else (some xT))))
def dU.fin (L:Mem)(bR:Nat)(b5:Nat)(w0:List Int)(n0:ab)(r:(List Int))(s:St):Prop:=∃dt:Nat,aH Tryd.prog (s.open zc) Tryd.f55.results.toList=some (.tup [])∧Has s.h ((bR,.ob [.rs dt 0 r.length 1,.int .i64 (0:Int),.int .i8 (0:Int)])::(dt,.row 5 (aw.l r))::L)
def O6 (cf:CallF)(m:Nat):Prop:=∀(w0:List Int) (n0:ab) (r:(List Int)),dU.f m w0 n0=some r→∀h L (bR:Nat) (b5:Nat),Has h ((bR,.ob [.rs b5 0 w0.length 1,.int .i64 (0:Int),.int .i8 (0:Int)])::(b5,.row 5 (aw.l w0))::L)→∀xs,xs.map az=[.ptr bR 0,.agg [.int .i64 n0.kind,.int .i64 n0.int,.str n0.label,aa.fz n0.args]]→∃dt h',cf 55 xs h=some (.tup [],h')∧Has h' ((bR,.ob [.rs dt 0 r.length 1,.int .i64 (0:Int),.int .i8 (0:Int)])::(dt,.row 5 (aw.l r))::L)
section
variable {cf:CallF}{m:Nat}
theorem dU.bI (L:Mem)(bR:Nat)(b5:Nat)(w0:List Int)(n0:ab)  (pd:Mf cf m):bD Tryd.prog cf zc m (sub [1,1,1,0,1,1,1,1,1,1,1,0,1,1,1,0,0] (codeOf Tryd.f55)) (fun k (σ:Int × (List Int))=>dU.l0 m n0 k σ.1 σ.2) (fun σ s=>match σ with | (x6,w1)=>∃il h7,s=⟨.ptr bR 0::BN [aa.fz n0.args,.int .i64 (n0.args.length:Int),.int .i64 x6,.any],[none],h7⟩∧Has h7 ((bR,.ob [.rs il 0 w1.length 1,.int .i64 (0:Int),.int .i8 (0:Int)])::(il,.row 5 (aw.l w1))::L)) (fun out e s=>(e = .exit 1∧∃x6 w1,(x6,w1)=out∧∃kG QX QY QZ Q0 il h7,s=⟨kG::BN [QX,QY,QZ,Q0],[none],h7⟩∧Has h7 ((bR,.ob [.rs il 0 w1.length 1,.int .i64 (0:Int),.int .i8 (0:Int)])::(il,.row 5 (aw.l w1))::L))):=by
 refine gH (fun _=>rfl) ?_
 rintro k ⟨x6,w1⟩ s out ⟨il,h7,rfl,o7⟩ H
 have H:dU.l0 m n0 (k+1) x6 w1=some out:=H
 refine q1 <| qq <| qc H (fun c5 H=>?_) (fun c5 H=>?_)
 ·refine qk <| qq <| qb 2 <| qq ?_
  obtain⟨v0,tH,H⟩:=aI H
  refine qr [.v 0 (bw (k:=.i64) (E:=aa) (l:=n0.args) dz tH),.v 1 (cY  (E:=aa) (l:=n0.args) h7 A3 tH rfl)] ?_
  obtain⟨x7,rL,H⟩:=aI H
  obtain⟨kL,h8,vI,o8⟩:=pd _ _ _ rL h7 _ _ _ (o7)  [.ptr bR 0,.int .u64 (u64.wrap v0)] (an (rfl) (an (aP (bE)) (bo)))
  exact qr [.a 3 vI] <| q0 <| ⟨(i64.wrap (x6+(1:Int)),x7),⟨kL,h8,by kernel_rfl,o8⟩,H⟩
 ·exact qx 1 <| ⟨rfl,x6,w1,oi H,.ptr bR 0,aa.fz n0.args,.int .i64 (n0.args.length:Int),.int .i64 x6,.bool (decide (x6<(n0.args.length:Int))),il,h7,by kernel_rfl,o7⟩
theorem xA {aU:FuncId→cg}(ha:aU 55=zc)(xw:Ns cf m)(pd:Mf cf m)(N3:TB cf m)(w0:List Int)(n0:ab)(h:AHeap)(L:Mem)(bR:Nat)(b5:Nat)  (o:Has h ((bR,.ob [.rs b5 0 w0.length 1,.int .i64 (0:Int),.int .i8 (0:Int)])::(b5,.row 5 (aw.l w0))::L)){out:(List Int)}(H:dU.f m w0 n0=some out) :
  ∃r h',bc Tryd.prog aU cf m 55 [.ptr bR 0,.agg [.int .i64 n0.kind,.int .i64 n0.int,.str n0.label,aa.fz n0.args]] h=some (r,h')∧∃dt:Nat,r = .tup []∧Has h' ((bR,.ob [.rs dt 0 out.length 1,.int .i64 (0:Int),.int .i8 (0:Int)])::(dt,.row 5 (aw.l out))::L):=by
 refine aq (fn:=Tryd.f55) ha Tryd.func55 (by kernel_rfl) (by kernel_rfl) ?_
 refine aG (Q:=fun s=>dU.fin L bR b5 w0 n0 out s) (fun _ _ ⟨h1,dt,h2,h3⟩=>⟨h1,_,h2,dt,rfl,h3⟩) ?_
 have H:_=some out:=H
 unfold dU.f at H
 show de _ cf zc m _ ⟨.ptr bR 0 :: .agg [.int .i64 n0.kind,.int .i64 n0.int,.str n0.label,aa.fz n0.args]::mK [],[none],h⟩ _
 refine q1 <| qq ?_
 obtain⟨xT,e0,H⟩:=aI H
 obtain⟨aA,h0,e1,o0⟩:=sj (bs:=w0) xw o e0
 refine qr [.a 6 e1] <| qq <| q0 <| qb 0 <| qq <| q0 <| qc H (fun c0 H=>?_) (fun c0 H=>?_)
 ·obtain⟨x0,e2,H⟩:=aI H
  obtain⟨eS,h1,e3,o1⟩:=pd _ _ _ e2 h0 _ _ _ (o0)  [.ptr bR 0,.int .u64 (u64.wrap n0.int)] (an (rfl) (an (aP (bE)) (bo)))
  obtain rfl:=oi H
  exact qr [.a 4 e3] <| ⟨.inr rfl,⟨eS,by kernel_rfl,he o1⟩⟩
 ·refine q1 <| qc H (fun c1 H=>?_) (fun c1 H=>?_)
  ·refine q1 <| qc H (fun c2 H=>?_) (fun c2 H=>?_)
   ·obtain⟨x1,e4,H⟩:=aI H
    obtain⟨cF,h2,e5,o2⟩:=pd _ _ _ e4 h0 _ _ _ (o0)  [.ptr bR 0,.int .u64 (u64.wrap (u64.wrap (u64.wrap (i64.wrap (0 - n0.int))*(2:Int)) - (1:Int)))] (an (rfl) (an (aP (bE)) (bo)))
    obtain rfl:=oi H
    exact qr [.a 7 e5] <| ⟨.inr rfl,⟨cF,by kernel_rfl,he o2⟩⟩
   ·obtain⟨x2,e6,H⟩:=aI H
    obtain⟨fb,h3,e7,o3⟩:=pd _ _ _ e6 h0 _ _ _ (o0)  [.ptr bR 0,.int .u64 (u64.wrap (u64.wrap n0.int*(2:Int)))] (an (rfl) (an (aP (bE)) (bo)))
    obtain rfl:=oi H
    exact qr [.a 5 e7] <| ⟨.inr rfl,⟨fb,by kernel_rfl,he o3⟩⟩
  ·refine q1 <| qc H (fun c3 H=>?_) (fun c3 H=>?_)
   ·obtain⟨x3,e8,H⟩:=aI H
    obtain⟨fT,h4,e9,o4⟩:=N3 _ _ _ e8 h0 _ _ _ (o0)  [.ptr bR 0,.str n0.label] (an (rfl) (an (aP (w6)) (bo)))
    obtain rfl:=oi H
    exact qr [.a 3 e9] <| ⟨.inr rfl,⟨fT,by kernel_rfl,he o4⟩⟩
   ·refine q1 <| qc H (fun c4 H=>?_) (fun c4 H=>?_)
    ·refine qq ?_
     obtain⟨x4,nJ,H⟩:=aI H
     obtain⟨gQ,h5,qm,o5⟩:=N3 _ _ _ nJ h0 _ _ _ (o0)  [.ptr bR 0,.str n0.label] (an (rfl) (an (aP (w6)) (bo)))
     refine qr [.a 3 qm] <| qq ?_
     obtain⟨x5,rJ,H⟩:=aI H
     obtain⟨gR,h6,rK,o6⟩:=pd _ _ _ rJ h5 _ _ _ (o5)  [.ptr bR 0,.int .u64 (u64.wrap (n0.args.length:Int))] (an (rfl) (an (aP (bE)) (bo)))
     refine qr [.a 5 rK] <| qq <| q0 <| qb 1 ?_
     obtain⟨bj,uR,H⟩:=aI H
     refine ql (dU.bI L bR b5 w0 n0  pd ((0:Int),x5) _ _ ⟨gR,h6,by kernel_rfl,o6⟩ uR) ?_
     rintro e s ⟨rfl,x8,w2,rfl,g0,g1,g2,g3,g4,xS,h9,rfl,o9⟩
     try dsimp only at H
     obtain rfl:=oi H
     exact⟨.inr rfl,⟨xS,by kernel_rfl,he o9⟩⟩
    ·obtain rfl:=oi H
     exact qk <| ⟨.inr rfl,⟨aA,by kernel_rfl,he o0⟩⟩
end
end Go.Proofs.YtmekcfdllhphlaaDoor
namespace Go.Proofs.YtmekcfdllhphlaaDoor
open Go Go.R
open Go.IntKind (i64 u64 u8 u32)
def Cl:cg:=gL [0,2,3,4,19] [] [30,26,10,31,29,18,23,29] [] []
def jz.f (m:Nat)(r0:fq):Option (ByteArray × fq):=(bK.f m r0).bind fun x0=>if x0.2.bq=true then (some ((XS #[]),(fq.mk x0.2.eH true))) else (if (decide (x0.1 > (x0.2.eH.length:Int)))=true then (some ((XS #[]),(fq.mk x0.2.eH true))) else ((pD x0.2.eH (0:Int) x0.1).bind fun v0=>(pD x0.2.eH x0.1 (x0.2.eH.length:Int)).bind fun v1=>some (eO v0,(fq.mk v1 x0.2.bq))))
def jz.fin (L:Mem)(aA:Nat)(r0:fq)(r:ByteArray × fq)(s:St):Prop:=aH Tryd.prog (s.open Cl) Tryd.f60.results.toList=some (.str r.1)∧Has s.h ((aA,.ob [aw.fz r.2.eH,.bool r.2.bq])::L)
def TC (cf:CallF)(m:Nat):Prop:=∀(r0:fq) (r:ByteArray × fq),jz.f m r0=some r→∀h L (aA:Nat),Has h ((aA,.ob [aw.fz r0.eH,.bool r0.bq])::L)→∀xs,xs.map az=[.ptr aA 0]→∃h',cf 60 xs h=some (.str r.1,h')∧Has h' ((aA,.ob [aw.fz r.2.eH,.bool r.2.bq])::L)
section
variable {cf:CallF}{m:Nat}
theorem xB {aU:FuncId→cg}(ha:aU 60=Cl)(mQ:Lm cf m)(r0:fq)(h:AHeap)(L:Mem)(aA:Nat)  (o:Has h ((aA,.ob [aw.fz r0.eH,.bool r0.bq])::L)){out:ByteArray × fq}(H:jz.f m r0=some out) :
  ∃r h',bc Tryd.prog aU cf m 60 [.ptr aA 0] h=some (r,h')∧r = .str out.1∧Has h' ((aA,.ob [aw.fz out.2.eH,.bool out.2.bq])::L):=by
 refine aq (fn:=Tryd.f60) ha Tryd.func60 (by kernel_rfl) (by kernel_rfl) ?_
 refine aG (Q:=fun s=>jz.fin L aA r0 out s) (fun _ _ ⟨h1,h2,h3⟩=>⟨h1,_,h2,rfl,h3⟩) ?_
 have H:_=some out:=H
 unfold jz.f at H
 show de _ cf Cl m _ ⟨.ptr aA 0::q7 [],[],h⟩ _
 refine q1 <| qq ?_
 obtain⟨x0,e0,H⟩:=aI H
 obtain⟨h0,e1,o0⟩:=mQ _ _ e0 h _ _ (o)  [.ptr aA 0] (an (rfl) (bo))
 refine qr [.a 1 e1] <| qq <| qq ?_
 rcases dJ H with⟨c0,H⟩| ⟨c0,H⟩
 ·refine qr [.v 3 (show bl Tryd.prog h0 4 (.ptr aA 1)=some (.bool x0.2.bq) from ca (q:=0) (cs:=[aw.fz x0.2.eH,.bool x0.2.bq]) o0 rfl (by kernel_rfl)),.b 4 c0] <| xb <| qq ?_
  obtain⟨h1,e2,o1⟩:=kD (P:=Tryd.prog) (t:=4) (off:=1) (q:=0) (cs:=[aw.fz x0.2.eH,.bool x0.2.bq]) (fm:=[aw.fz x0.2.eH,.bool true]) (x:=.bool true) o0 rfl (by kernel_rfl)
  obtain rfl:=oi H
  exact qr [.w 3 e2] <| qq <| q0 <| qt <| ⟨.inl rfl,⟨by kernel_rfl,he o1⟩⟩
 ·refine qr [.v 3 (show bl Tryd.prog h0 4 (.ptr aA 1)=some (.bool x0.2.bq) from ca (q:=0) (cs:=[aw.fz x0.2.eH,.bool x0.2.bq]) o0 rfl (by kernel_rfl)),.b 4 c0,.v 9 (show bl Tryd.prog h0 25 (.ptr aA 0)=some (aw.fz x0.2.eH) from ca (q:=0) (cs:=[aw.fz x0.2.eH,.bool x0.2.bq]) o0 rfl (by kernel_rfl))] <| qc H (fun c2 H=>?_) (fun c2 H=>?_)
  ·refine qq ?_
   obtain⟨h2,e3,o2⟩:=kD (P:=Tryd.prog) (t:=4) (off:=1) (q:=0) (cs:=[aw.fz x0.2.eH,.bool x0.2.bq]) (fm:=[aw.fz x0.2.eH,.bool true]) (x:=.bool true) o0 rfl (by kernel_rfl)
   obtain rfl:=oi H
   exact qr [.w 3 e3] <| qq <| q0 <| qt <| ⟨.inl rfl,⟨by kernel_rfl,he o2⟩⟩
  ·refine qk <| qq ?_
   obtain⟨v0,e4,H⟩:=aI H
   refine qr [.v 3 (show bl Tryd.prog h0 25 (.ptr aA 0)=some (aw.fz x0.2.eH) from ca (q:=0) (cs:=[aw.fz x0.2.eH,.bool x0.2.bq]) o0 rfl (by kernel_rfl)),.v 5 (show eZ Tryd.prog 25 (aw.fz x0.2.eH) none (some (.int .i64 x0.1)) none=some (aw.fz v0) from BG (E:=aw) Il e4),.v 6 (show gT Tryd.prog h0 25 9 (aw.fz v0)=some (.str (eO v0)) from Aw (e:=5) (l:=v0) rfl rfl rfl (Fa _))] <| qq ?_
   obtain⟨v1,e5,H⟩:=aI H
   obtain⟨h3,e6,o3⟩:=kD (P:=Tryd.prog) (t:=25) (off:=0) (q:=0) (cs:=[aw.fz x0.2.eH,.bool x0.2.bq]) (fm:=[aw.fz v1,.bool x0.2.bq]) (x:=aw.fz v1) o0 rfl (by kernel_rfl)
   obtain rfl:=oi H
   exact qr [.v 4 (show bl Tryd.prog h0 25 (.ptr aA 0)=some (aw.fz x0.2.eH) from ca (q:=0) (cs:=[aw.fz x0.2.eH,.bool x0.2.bq]) o0 rfl (by kernel_rfl)),.v 6 (show eZ Tryd.prog 25 (aw.fz x0.2.eH) (some (.int .i64 x0.1)) none none=some (aw.fz v1) from wX (E:=aw) Il e5),.w 9 e6] <| qq <| q0 <| qt <| ⟨.inl rfl,⟨by kernel_rfl,he o3⟩⟩
end
end Go.Proofs.YtmekcfdllhphlaaDoor
namespace Go.Proofs.YtmekcfdllhphlaaDoor
open Go Go.R
open Go.IntKind (i64 u64 u8 u32)
def vM:cg:=gL [0,2,3,4,5,11,15,20,29,35,40,48,53,54,55] [2,3] [32764,32760,32728,32761,32664,32761,32600,32753,32753,32497,32761,32216,32761,31736,32760,32744,30696,32744,20472,4088,20472,20472,32765] [(22,[(3,some 3,0)])] [(1,[(3,some 3,1)])]
def cV.l0 (m:Nat)(x5:Int × fq):Nat→Int→Int→Int→ByteArray→(List Int)→fq→Option (Int × Int × Int × ByteArray × (List Int) × fq)
 | 0,_,_,_,_,_,_=>none
 | k+1,x6,n0,n1,n2,n3,r1=>if (decide (x6<(mn x5.1 (8:Int))))=true then ((bK.f m r1).bind fun x7=>(app 8 n3 ([x7.1])).bind fun x8=>cV.l0 m x5 k (i64.wrap (x6+(1:Int))) n0 n1 n2 x8 x7.2) else (some ((x6,n0,n1,n2,n3,r1)))
def cV.l1 (m:Nat)(x5:Int × fq):Nat→Int→Int→Int→ByteArray→(List Int)→fq→Option (Int × Int × Int × ByteArray × (List Int) × fq)
 | 0,_,_,_,_,_,_=>none
 | k+1,mg,n8,n9,Gr,AR,r3=>if (decide (mg<(mn x5.1 (8:Int))))=true then ((bK.f m r3).bind fun Hv=>(app 8 AR ([Hv.1])).bind fun Ip=>cV.l1 m x5 k (i64.wrap (mg+(1:Int))) n8 n9 Gr Ip Hv.2) else (some ((mg,n8,n9,Gr,AR,r3)))
def cV.f (m:Nat)(r0:fq):Option (ab × fq):=(jx.f m r0).bind fun x0=>if ((i64.wrap x0.1)==(0:Int))=true then ((bK.f m x0.2).bind fun x1=>some ((ab.mk (i64.wrap x0.1) x1.1 (XS #[]) ([]:List Int)),x1.2)) else (if ((i64.wrap x0.1)==(1:Int))=true then ((bK.f m x0.2).bind fun x2=>if ((Int.tmod x2.1 (2:Int))==(1:Int))=true then (some ((ab.mk (i64.wrap x0.1) (i64.wrap (0 - (i64.wrap (i64.wrap (Int.tdiv x2.1 (2:Int))+(1:Int))))) (XS #[]) ([]:List Int)),x2.2)) else (some ((ab.mk (i64.wrap x0.1) (i64.wrap (Int.tdiv x2.1 (2:Int))) (XS #[]) ([]:List Int)),x2.2))) else (if ((i64.wrap x0.1)==(2:Int))=true then ((jz.f m x0.2).bind fun x3=>some ((ab.mk (i64.wrap x0.1) (0:Int) x3.1 ([]:List Int)),x3.2)) else (if ((i64.wrap x0.1)==(3:Int))=true then ((jz.f m x0.2).bind fun x4=>(bK.f m x4.2).bind fun x5=>if (decide (x5.1 > (8:Int)))=true then ((cV.l0 m x5 m (0:Int) (i64.wrap x0.1) (0:Int) x4.1 ([]:List Int) (fq.mk x5.2.eH true)).bind fun bj=>match bj with | (x9,n4,n5,n6,n7,r2)=>some ((ab.mk n4 n5 n6 n7),r2)) else ((cV.l1 m x5 m (0:Int) (i64.wrap x0.1) (0:Int) x4.1 ([]:List Int) x5.2).bind fun bJ=>match bJ with | (AN,TD,TE,TF,n15,r4)=>some ((ab.mk TD TE TF n15),r4))) else (some ((ab.mk (i64.wrap x0.1) (0:Int) (XS #[]) ([]:List Int)),(fq.mk x0.2.eH true))))))
def cV.fin (L:Mem)(aA:Nat)(r0:fq)(r:ab × fq)(s:St):Prop:=aH Tryd.prog (s.open vM) Tryd.f44.results.toList=some (.agg [.int .i64 r.1.kind,.int .i64 r.1.int,.str r.1.label,aa.fz r.1.args])∧Has s.h ((aA,.ob [aw.fz r.2.eH,.bool r.2.bq])::L)
def O7 (cf:CallF)(m:Nat):Prop:=∀(r0:fq) (r:ab × fq),cV.f m r0=some r→∀h L (aA:Nat),Has h ((aA,.ob [aw.fz r0.eH,.bool r0.bq])::L)→∀xs,xs.map az=[.ptr aA 0]→∃h',cf 44 xs h=some (.agg [.int .i64 r.1.kind,.int .i64 r.1.int,.str r.1.label,aa.fz r.1.args],h')∧Has h' ((aA,.ob [aw.fz r.2.eH,.bool r.2.bq])::L)
section
variable {cf:CallF}{m:Nat}
theorem cV.bI (L:Mem)(aA:Nat)(r0:fq)(x5:Int × fq)  (mQ:Lm cf m):bD Tryd.prog cf vM m (sub [1,1,0,1,0,1,1,1,1,1,1,1,0,1,1,1,1,0,0] (codeOf Tryd.f44)) (fun k (σ:Int × Int × Int × ByteArray × (List Int) × fq)=>cV.l0 m x5 k σ.1 σ.2.1 σ.2.2.1 σ.2.2.2.1 σ.2.2.2.2.1 σ.2.2.2.2.2) (fun σ s=>match σ with | (x6,n0,n1,n2,n3,r1)=>∃eS h11,s=⟨.ptr aA 0 :: .lp 2 0 :: .lp 3 0::BN [.int .i64 (mn x5.1 (8:Int)),.int .i64 x6,.any],[some [.int .i64 (0:Int),.int .i64 (0:Int),.str (XS #[]),.nils],some [.int .i64 n0,.int .i64 n1,.str n2,.rs eS 0 n3.length 1]],h11⟩∧Has h11 ((aA,.ob [aw.fz r1.eH,.bool r1.bq])::(eS,.sl n3.length 1 (aa.l n3))::L)) (fun out e s=>(e = .exit 1∧∃x6 n0 n1 n2 n3 r1,(x6,n0,n1,n2,n3,r1)=out∧∃kG Ge Gf Gg eS h11,s=⟨kG :: .lp 2 0 :: .lp 3 0::BN [Ge,Gf,Gg],[some [.int .i64 (0:Int),.int .i64 (0:Int),.str (XS #[]),.nils],some [.int .i64 n0,.int .i64 n1,.str n2,.rs eS 0 n3.length 1]],h11⟩∧Has h11 ((aA,.ob [aw.fz r1.eH,.bool r1.bq])::(eS,.sl n3.length 1 (aa.l n3))::L))):=by
 refine gH (fun _=>rfl) ?_
 rintro k ⟨x6,n0,n1,n2,n3,r1⟩ s out ⟨eS,h11,rfl,oT⟩ H
 have H:cV.l0 m x5 (k+1) x6 n0 n1 n2 n3 r1=some out:=H
 refine q1 <| qq <| qc H (fun c6 H=>?_) (fun c6 H=>?_)
 ·refine qk <| qq <| qb 2 ?_
  obtain⟨x7,uR,H⟩:=aI H
  obtain⟨h12,zN,lB⟩:=mQ _ _ uR h11 _ _ (oT)  [.ptr aA 0] (an (rfl) (bo))
  obtain⟨x8,uw,H⟩:=aI H
  obtain⟨cF,h13,zO,uP⟩:=fF (P:=Tryd.prog) (E:=aa) (l:=n3) (q:=1) (t2:=42) (x:=.fz [.int .i64 x7.1] 1 true) (l2:=([x7.1])) dz lB rfl (by kernel_rfl) rfl uw
  exact qr [.a 3 zN,.a 5 zO] <| q0 <| ⟨(i64.wrap (x6+(1:Int)),n0,n1,n2,x8,x7.2),⟨cF,h13,by kernel_rfl,uP⟩,H⟩
 ·exact qx 1 <| ⟨rfl,x6,n0,n1,n2,n3,r1,oi H,.ptr aA 0,.int .i64 (mn x5.1 (8:Int)),.int .i64 x6,.bool (decide (x6<(mn x5.1 (8:Int)))),eS,h11,by kernel_rfl,oT⟩
theorem cV.eQ (L:Mem)(aA:Nat)(r0:fq)(x5:Int × fq)  (mQ:Lm cf m):bD Tryd.prog cf vM m (sub [1,1,0,1,0,1,1,1,1,1,1,1,0,1,1,1,1,0,0] (codeOf Tryd.f44)) (fun k (σ:Int × Int × Int × ByteArray × (List Int) × fq)=>cV.l1 m x5 k σ.1 σ.2.1 σ.2.2.1 σ.2.2.2.1 σ.2.2.2.2.1 σ.2.2.2.2.2) (fun σ s=>match σ with | (mg,n8,n9,Gr,AR,r3)=>∃fT h16,s=⟨.ptr aA 0 :: .lp 2 0 :: .lp 3 0::BN [.int .i64 (mn x5.1 (8:Int)),.int .i64 mg,.any],[some [.int .i64 (0:Int),.int .i64 (0:Int),.str (XS #[]),.nils],some [.int .i64 n8,.int .i64 n9,.str Gr,.rs fT 0 AR.length 1]],h16⟩∧Has h16 ((aA,.ob [aw.fz r3.eH,.bool r3.bq])::(fT,.sl AR.length 1 (aa.l AR))::L)) (fun out e s=>(e = .exit 1∧∃mg n8 n9 Gr AR r3,(mg,n8,n9,Gr,AR,r3)=out∧∃kG Ge Gf Gg fT h16,s=⟨kG :: .lp 2 0 :: .lp 3 0::BN [Ge,Gf,Gg],[some [.int .i64 (0:Int),.int .i64 (0:Int),.str (XS #[]),.nils],some [.int .i64 n8,.int .i64 n9,.str Gr,.rs fT 0 AR.length 1]],h16⟩∧Has h16 ((aA,.ob [aw.fz r3.eH,.bool r3.bq])::(fT,.sl AR.length 1 (aa.l AR))::L))):=by
 refine gH (fun _=>rfl) ?_
 rintro k ⟨mg,n8,n9,Gr,AR,r3⟩ s out ⟨fT,h16,rfl,zP⟩ H
 have H:cV.l1 m x5 (k+1) mg n8 n9 Gr AR r3=some out:=H
 refine q1 <| qq <| qc H (fun c7 H=>?_) (fun c7 H=>?_)
 ·refine qk <| qq <| qb 2 ?_
  obtain⟨Hv,FJ,H⟩:=aI H
  obtain⟨h17,Ed,DL⟩:=mQ _ _ FJ h16 _ _ (zP)  [.ptr aA 0] (an (rfl) (bo))
  obtain⟨Ip,FK,H⟩:=aI H
  obtain⟨gQ,h18,FO,DM⟩:=fF (P:=Tryd.prog) (E:=aa) (l:=AR) (q:=1) (t2:=42) (x:=.fz [.int .i64 Hv.1] 1 true) (l2:=([Hv.1])) dz DL rfl (by kernel_rfl) rfl FK
  exact qr [.a 3 Ed,.a 5 FO] <| q0 <| ⟨(i64.wrap (mg+(1:Int)),n8,n9,Gr,Ip,Hv.2),⟨gQ,h18,by kernel_rfl,DM⟩,H⟩
 ·exact qx 1 <| ⟨rfl,mg,n8,n9,Gr,AR,r3,oi H,.ptr aA 0,.int .i64 (mn x5.1 (8:Int)),.int .i64 mg,.bool (decide (mg<(mn x5.1 (8:Int)))),fT,h16,by kernel_rfl,zP⟩
theorem xC {aU:FuncId→cg}(ha:aU 44=vM)(mQ:Lm cf m)(Gn:O5 cf m)(N4:TC cf m)(r0:fq)(h:AHeap)(L:Mem)(aA:Nat)  (o:Has h ((aA,.ob [aw.fz r0.eH,.bool r0.bq])::L)){out:ab × fq}(H:cV.f m r0=some out) :
  ∃r h',bc Tryd.prog aU cf m 44 [.ptr aA 0] h=some (r,h')∧r = .agg [.int .i64 out.1.kind,.int .i64 out.1.int,.str out.1.label,aa.fz out.1.args]∧Has h' ((aA,.ob [aw.fz out.2.eH,.bool out.2.bq])::L):=by
 refine aq (fn:=Tryd.f44) ha Tryd.func44 (by kernel_rfl) (by kernel_rfl) ?_
 refine aG (Q:=fun s=>cV.fin L aA r0 out s) (fun _ _ ⟨h1,h2,h3⟩=>⟨h1,_,h2,rfl,h3⟩) ?_
 have H:_=some out:=H
 unfold cV.f at H
 show de _ cf vM m _ ⟨.ptr aA 0::rA [],[none,none],h⟩ _
 refine q1 <| qq ?_
 obtain⟨x0,e0,H⟩:=aI H
 obtain⟨h0,e1,o0⟩:=Gn _ _ e0 h _ _ (o)  [.ptr aA 0] (an (rfl) (bo))
 refine qr [.a 1 e1] ?_
 have o1:Has h0 (((0),.sl (([]:List Int).length) 1 (aa.l ([]:List Int)))::(aA,.ob [aw.fz x0.2.eH,.bool x0.2.bq])::L):=Has.nil o0 1
 refine qq <| qq <| q0 <| qb 0 <| qq <| q0 <| qc H (fun c0 H=>?_) (fun c0 H=>?_)
 ·obtain⟨x1,e2,H⟩:=aI H
  obtain⟨h1,e3,o2⟩:=mQ _ _ e2 h0 _ _ ((Has.front (Has.front o1 0 rfl) 1 rfl))  [.ptr aA 0] (an (rfl) (bo))
  refine qr [.a 1 e3] <| qq ?_
  obtain⟨h2,e4,o3⟩:=iU (E:=aa) (l:=([]:List Int)) (q:=1) o2 rfl
  obtain rfl:=oi H
  exact zM [.a 0 e4] [] <| qt <| ⟨.inl rfl,⟨by kernel_rfl,he o3⟩⟩
 ·refine q1 <| qc H (fun c1 H=>?_) (fun c1 H=>?_)
  ·refine qq ?_
   obtain⟨x2,e5,H⟩:=aI H
   obtain⟨h3,e6,o4⟩:=mQ _ _ e5 h0 _ _ ((Has.front (Has.front o1 0 rfl) 1 rfl))  [.ptr aA 0] (an (rfl) (bo))
   refine qr [.a 1 e6] <| qq <| q0 <| qq <| q0 <| qc H (fun c2 H=>?_) (fun c2 H=>?_)
   ·refine q0 <| qq ?_
    obtain⟨h4,e7,o5⟩:=iU (E:=aa) (l:=([]:List Int)) (q:=1) o4 rfl
    obtain rfl:=oi H
    exact zM [.a 0 e7] [] <| qt <| ⟨.inl rfl,⟨by kernel_rfl,he o5⟩⟩
   ·refine qk <| qq ?_
    obtain⟨h5,e8,o6⟩:=iU (E:=aa) (l:=([]:List Int)) (q:=1) o4 rfl
    obtain rfl:=oi H
    exact zM [.a 0 e8] [] <| qt <| ⟨.inl rfl,⟨by kernel_rfl,he o6⟩⟩
  ·refine q1 <| qc H (fun c3 H=>?_) (fun c3 H=>?_)
   ·obtain⟨x3,e9,H⟩:=aI H
    obtain⟨h6,nJ,o7⟩:=N4 _ _ e9 h0 _ _ ((Has.front (Has.front o1 0 rfl) 1 rfl))  [.ptr aA 0] (an (rfl) (bo))
    refine qr [.a 1 nJ] <| qq ?_
    obtain⟨h7,qm,o8⟩:=iU (E:=aa) (l:=([]:List Int)) (q:=1) o7 rfl
    obtain rfl:=oi H
    exact zM [.a 0 qm] [] <| qt <| ⟨.inl rfl,⟨by kernel_rfl,he o8⟩⟩
   ·refine q1 <| qc H (fun c4 H=>?_) (fun c4 H=>?_)
    ·refine qq ?_
     obtain⟨x4,rJ,H⟩:=aI H
     obtain⟨h8,rK,o9⟩:=N4 _ _ rJ h0 _ _ ((Has.front (Has.front o1 0 rfl) 1 rfl))  [.ptr aA 0] (an (rfl) (bo))
     refine qr [.a 1 rK] <| qq ?_
     obtain⟨x5,tH,H⟩:=aI H
     obtain⟨h9,rL,tD⟩:=mQ _ _ tH h8 _ _ (o9)  [.ptr aA 0] (an (rfl) (bo))
     refine qr [.a 1 rL] <| qq <| qq <| q0 <| qc H (fun c5 H=>?_) (fun c5 H=>?_)
     ·obtain⟨h10,vI,uv⟩:=kD (P:=Tryd.prog) (t:=4) (off:=1) (q:=0) (cs:=[aw.fz x5.2.eH,.bool x5.2.bq]) (fm:=[aw.fz x5.2.eH,.bool true]) (x:=.bool true) tD rfl (by kernel_rfl)
      refine qr [.w 3 vI] <| qq <| q0 <| qb 1 ?_
      obtain⟨bj,B4,H⟩:=aI H
      refine ql (cV.bI L aA r0 x5  mQ ((0:Int),i64.wrap x0.1,(0:Int),x4.1,([]:List Int),(fq.mk x5.2.eH true)) _ _ ⟨(0),h10,by kernel_rfl,uv⟩ B4) ?_
      rintro e s ⟨rfl,x9,n4,n5,n6,n7,r2,rfl,g0,g1,g2,g3,fb,h14,rfl,yO⟩
      try dsimp only at H
      refine qq ?_
      obtain⟨h15,Ec,lG⟩:=iU (E:=aa) (l:=n7) (q:=1) yO rfl
      obtain rfl:=oi H
      exact zM [.a 0 Ec] [] <| qt <| ⟨.inl rfl,⟨by kernel_rfl,he lG⟩⟩
     ·refine qk <| qq <| q0 <| qb 1 ?_
      obtain⟨bJ,Hu,H⟩:=aI H
      refine ql (cV.eQ L aA r0 x5  mQ ((0:Int),i64.wrap x0.1,(0:Int),x4.1,([]:List Int),x5.2) _ _ ⟨(0),h9,by kernel_rfl,tD⟩ Hu) ?_
      rintro e s ⟨rfl,AN,TD,TE,TF,n15,r4,rfl,g4,g5,g6,g7,gR,h19,rfl,Ld⟩
      try dsimp only at H
      refine qq ?_
      obtain⟨h20,FM,xn⟩:=iU (E:=aa) (l:=n15) (q:=1) Ld rfl
      obtain rfl:=oi H
      exact zM [.a 0 FM] [] <| qt <| ⟨.inl rfl,⟨by kernel_rfl,he xn⟩⟩
    ·obtain⟨h21,FN,F6⟩:=kD (P:=Tryd.prog) (t:=4) (off:=1) (q:=1) (cs:=[aw.fz x0.2.eH,.bool x0.2.bq]) (fm:=[aw.fz x0.2.eH,.bool true]) (x:=.bool true) o1 rfl (by kernel_rfl)
     refine qr [.w 3 FN] <| qq ?_
     obtain⟨h22,FL,Ee⟩:=iU (E:=aa) (l:=([]:List Int)) (q:=0) F6 rfl
     obtain rfl:=oi H
     exact zM [.a 0 FL] [] <| qt <| ⟨.inl rfl,⟨by kernel_rfl,he Ee⟩⟩
end
end Go.Proofs.YtmekcfdllhphlaaDoor
namespace Go.Proofs.YtmekcfdllhphlaaDoor
open Go Go.R
open Go.IntKind (i64 u64 u8 u32)
theorem xD (s:ByteArray):eO (eP s)=s:=by
 unfold eO eP
 rw [List.map_map]
 have:(List.map ((fun n:Int=>UInt8.ofNat n.toNat)∘fun b:UInt8=>(b.toNat:Int)) s.data.toList)=s.data.toList:=by
  conv=>rhs; rw [←List.map_id s.data.toList]
  apply Yv
  intro b _
  simp
 rw [this]
theorem iF (s:ByteArray):(eP s).length=s.size:=by simp [eP]
theorem zd:∀(k n:Nat),n<128 ^ (k+1)→(dI n).length≤k+1
 | k,n,h=>by
  by_cases h1:n<128
  ·rw [k7 h1]; simp
  ·cases k with
   | zero=>simp at h; omega
   | succ k=>
    have hd:n / 128<128 ^ (k+1):=by
     rw [Nat.div_lt_iff_lt_mul (by omega)]
     calc n<128 ^ (k+1+1):=h
      _=_:=by rw [Nat.pow_succ]
    have:=zd k (n / 128) hd
    rw [oM h1]; simp; omega
theorem dP {n:Nat}(h:n<2 ^ 64):(dI n).length≤10:=zd 9 n (by omega)
def encS (s:ByteArray):List Int:=dI s.size++eP s
theorem Ju {m:Nat}{w:List Int}{s:ByteArray}(hm:11≤m)(hs:s.size≠0)(hw:w≠[])(hl:w.length+s.size+20≤140737488355328):jy.f m w s=some (w++encS s):=by
 unfold jy.f
 have h1:s.size<2 ^ 64:=by omega
 have h2:=dP h1
 rw [hY (by omega) (by omega),zb hm h1 hw (by omega),Xo,mo (by simp [hw]) (fun h=>hs (by rw [←iF,h]; rfl)) (by simp [iF]; omega),Xo,XC]
 rfl
theorem Jv {m:Nat}{s:ByteArray}{rest:List Int}(hm:11≤m)(hl:s.size<2 ^ 63):jz.f m ⟨encS s++rest,false⟩=some (s,⟨rest,false⟩):=by
 unfold jz.f encS
 rw [XC,AQ hm hl,Xo,if_neg (by simp)]
 dsimp only
 have hlen:=iF s
 rw [if_neg (by simp [hlen]; omega)]
 have h1:pD (eP s++rest) 0 (s.size:Int)=some (eP s):=by
  unfold pD
  rw [if_pos ⟨Int.le_refl _,by omega,by simp [hlen]; omega⟩]
  simp [←hlen]
 have h2:pD (eP s++rest) (s.size:Int) ((eP s++rest).length:Int)=some rest:=by
  unfold pD
  rw [if_pos ⟨by omega,by simp [hlen]; omega,Int.le_refl _⟩,←hlen]
  simp only [Xv,List.drop_left]
  rw [XY (by simp)]
 rw [h1,Xo,h2,Xo,xD]
structure tT (n:ab):Prop where
 kind:n.kind=0∧(0≤n.int∧n.int<2 ^ 63)∧n.label=XS #[]∧n.args=[]∨n.kind=1∧(-(2 ^ 62)≤n.int∧n.int<2 ^ 62)∧n.label=XS #[]∧n.args=[]∨n.kind=2∧n.int=0∧n.args=[]∨n.kind=3∧n.int=0
 label:2≤n.kind→n.label.size≠0∧n.label.size<2 ^ 40
 args:n.args.length≤8∧∀a∈n.args,0≤a∧a<2 ^ 63
def xU (x:Int):Nat:=if x<0 then ((-x)*2 - 1).toNat else (x*2).toNat
def dp (n:ab):List Int:=
 n.kind::(if n.kind=0 then dI n.int.toNat else if n.kind=1 then dI (xU n.int) else if n.kind=2 then encS n.label else encS n.label++dI n.args.length++(n.args.map fun a=>dI a.toNat).flatten)
theorem Jw {m:Nat}(hm:11≤m)(n0:ab)(ha:∀a∈n0.args,0≤a∧a<2 ^ 63)(hlen:n0.args.length≤8):∀(l:List Int) (f i:Nat) (w:List Int),l.length<f→n0.args.drop i=l→i≤8→w≠[]→w.length+20*l.length+20≤140737488355328→
  ∃x,dU.l0 m n0 f (i:Int) w=some (x,w++(l.map fun a=>dI a.toNat).flatten)
 | l,0,i,w,hf,_,_,_,_=>absurd hf (by omega)
 | [],f+1,i,w,hf,hd,hi,hw,hl=>by
  have:n0.args.length≤i:=by
   have:=congrArg List.length hd
   simp at this
   omega
  refine⟨i,?_⟩
  unfold dU.l0
  rw [if_neg (by simp; omega)]
  simp
 | a::l,f+1,i,w,hf,hd,hi,hw,hl=>by
  have z7:i<n0.args.length:=by
   have:=congrArg List.length hd
   simp at this
   omega
  have hg:n0.args[i]? = some a:=by
   have:=congrArg (·[0]?) hd
   simpa using this
  have Vz:a∈n0.args:=Yr hg
  obtain⟨h1,h2⟩:=ha a Vz
  obtain⟨b,rfl⟩:∃b:Nat,a=(b:Int):=⟨a.toNat,by omega⟩
  have VA:n0.args.drop (i+1)=l:=by
   rw [←List.tail_drop,hd]; rfl
  have e1:(dI b).length≤10:=dP (by omega)
  simp only [XO] at hf hl
  obtain⟨x,ih⟩:=Jw hm n0 ha hlen l f (i+1) (w++dI b) (by omega) VA (by omega) (by simp [hw]) (by simp; omega)
  refine⟨x,?_⟩
  unfold dU.l0
  have Lg:ix n0.args (i:Int)=some (b:Int):=by unfold ix; rw [if_pos (by omega)]; exact hg
  rw [if_pos (by simp; omega),Lg,Xo,hY h1 (by omega),zb hm (by omega) hw (by omega),Xo,aD (by omega) (by omega)]
  rw [show ((i:Int)+1)=((i+1:Nat):Int) by omega]
  rw [ih,XK,List.flatten_cons,XC,Xv]
end Go.Proofs.YtmekcfdllhphlaaDoor
namespace Go.Proofs.YtmekcfdllhphlaaDoor
open Go Go.R
open Go.IntKind (i64 u64 u8 u32)
theorem Iy {x:Int}(h:x<0)(h2 : -(2 ^ 62)≤x):u64.wrap (u64.wrap (u64.wrap (i64.wrap (0 - x))*2) - 1)=(xU x:Int):=by
 have:(2:Int) ^ 62=4611686018427387904:=by decide
 rw [aD (by omega) (by omega),hY (x:=0 - x) (by omega) (by omega),hY (x:=(0 - x)*2) (by omega) (by omega),hY (by omega) (by omega)]
 unfold xU
 rw [if_pos h]
 omega
theorem Iz {x:Int}(h:¬x<0)(h2:x<2 ^ 62):u64.wrap (u64.wrap x*2)=(xU x:Int):=by
 have:(2:Int) ^ 62=4611686018427387904:=by decide
 rw [hY (x:=x) (by omega) (by omega),hY (by omega) (by omega)]
 unfold xU
 rw [if_neg h]
 omega
theorem AS {x:Int}(h1 : -(2 ^ 62)≤x)(h2:x<2 ^ 62):xU x<2 ^ 63:=by
 have:(2:Int) ^ 62=4611686018427387904:=by decide
 have:(2:Nat) ^ 63=9223372036854775808:=by decide
 unfold xU
 split<;>omega
theorem N6 {m:Nat}{w:List Int}{n:ab}(hm:11≤m)(W:tT n)(hl:w.length+n.label.size+1000≤140737488355328)(hw:w≠[]):dU.f m w n=some (w++dp n):=by
 have Hz:(2:Nat) ^ 63=9223372036854775808:=by decide
 have TG:(2:Int) ^ 63=9223372036854775808:=by decide
 have Q5:(2:Nat) ^ 64=18446744073709551616:=by decide
 have hk:0≤n.kind∧n.kind≤3:=by rcases W.kind with h | h | h | h<;>(have:=h.1; omega)
 unfold dU.f
 rw [mF,show n.kind % 256=n.kind by omega,mo hw (by simp) (by simp; omega),Xo]
 rcases W.kind with⟨h,hi,_,_⟩| ⟨h,hi,_,_⟩| ⟨h,hi,_⟩| ⟨h,hi⟩
 ·obtain⟨b,hb⟩:∃b:Nat,n.int=(b:Int):=⟨n.int.toNat,by omega⟩
  rw [show dp n=0::dI b by simp [dp,h,hb],h,if_pos (by decide),hY (by omega) (by omega),hb,zb hm (by omega) (by simp) (by simp; omega),Xo]
  simp
 ·have hz:=AS hi.1 hi.2
  rw [show dp n=1::dI (xU n.int) by simp [dp,h],h,if_neg (by decide),if_pos (by decide)]
  by_cases hn:n.int<0
  ·rw [if_pos (by simpa using hn),Iy hn hi.1,zb hm (by omega) (by simp) (by simp; omega),Xo]
   simp
  ·rw [if_neg (by simpa using hn),Iz hn hi.2,zb hm (by omega) (by simp) (by simp; omega),Xo]
   simp
 ·obtain⟨g1,g2⟩:=W.label (by omega)
  rw [show dp n=2::encS n.label by simp [dp,h],h,if_neg (by decide),if_neg (by decide),if_pos (by decide),Ju hm g1 (by simp) (by simp; omega),Xo]
  simp
 ·obtain⟨g1,g2⟩:=W.label (by omega)
  obtain⟨g3,g4⟩:=W.args
  have e1:(encS n.label).length≤10+n.label.size:=by
   unfold encS
   have:=dP (n:=n.label.size) (by omega)
   simp [iF]; omega
  have e2:(dI n.args.length).length≤10:=dP (by omega)
  rw [show dp n=3::(encS n.label++dI n.args.length++(n.args.map fun a=>dI a.toNat).flatten) by simp [dp,h],h,if_neg (by decide),if_neg (by decide),if_neg (by decide),if_pos (by decide),Ju hm g1 (by simp) (by simp; omega),Xo,
   hY (by omega) (by omega),zb hm (by omega) (by simp) (by simp; omega),Xo]
  obtain⟨x,hx⟩:=Jw hm n g4 g3 n.args m 0 (w++[3]++encS n.label++dI n.args.length) (by omega) rfl (by omega) (by simp) (by simp; omega)
  have hx:dU.l0 m n m (0:Int) (w++[3]++encS n.label++dI n.args.length)=_:=hx
  rw [hx,Xo]
  simp
theorem Jx {m:Nat}(hm:11≤m)(x5:Int × fq)(k0:Int)(lb:ByteArray)(rest:List Int)(hx:0≤x5.1∧x5.1≤8):∀(l:List Int) (f i:Nat) (acc:List Int),l.length<f→(i:Int)+l.length=x5.1→acc.length+l.length≤8→(∀a∈l,0≤a∧a<2 ^ 63)→
  ∃x,cV.l1 m x5 f (i:Int) k0 0 lb acc ⟨(l.map fun a=>dI a.toNat).flatten++rest,false⟩=some (x,k0,0,lb,acc++l,⟨rest,false⟩)
 | l,0,i,acc,hf,_,_,_=>absurd hf (by omega)
 | [],f+1,i,acc,hf,hi,ha,hl=>by
  refine⟨i,?_⟩
  unfold cV.l1
  simp only [Yh] at hi
  rw [if_neg (by unfold mn; simp; split<;>omega)]
  simp
 | a::l,f+1,i,acc,hf,hi,ha,hl=>by
  simp only [XO] at hf hi ha
  have TG:(2:Int) ^ 63=9223372036854775808:=by decide
  have Hz:(2:Nat) ^ 63=9223372036854775808:=by decide
  obtain⟨h1,h2⟩:=hl a (by simp)
  obtain⟨b,rfl⟩:∃b:Nat,a=(b:Int):=⟨a.toNat,by omega⟩
  obtain⟨x,ih⟩:=Jx hm x5 k0 lb rest hx l f (i+1) (acc++[(b:Int)]) (by omega) (by omega) (by simp; omega) (fun c hc=>hl c (by simp [hc]))
  refine⟨x,?_⟩
  unfold cV.l1
  rw [if_pos (by unfold mn; simp; split<;>omega),XK,List.flatten_cons,XC,Xv,AQ hm (by omega),Xo]
  have ly:app 8 acc [(b:Int)]=some (acc++[(b:Int)]):=by unfold app; rw [if_pos (by simp; omega)]
  dsimp only
  rw [ly,Xo,aD (by omega) (by omega),show ((i:Int)+1)=((i+1:Nat):Int) by omega,ih]
  simp
end Go.Proofs.YtmekcfdllhphlaaDoor
namespace Go.Proofs.YtmekcfdllhphlaaDoor
open Go Go.R
open Go.IntKind (i64 u64 u8 u32)
theorem Gs {x:Int}(h:¬x<0)(h2:x<2 ^ 62):¬(Int.tmod (xU x:Int) 2==1)=true∧i64.wrap (Int.tdiv (xU x:Int) 2)=x:=by
 have hz:(xU x:Int)=x*2:=by unfold xU; rw [if_neg h]; omega
 rw [hz,Int.mul_tmod_left,Int.mul_tdiv_cancel _ (by decide),aD (by omega) (by omega)]
 exact⟨by decide,rfl⟩
theorem IA {x:Int}(h:x<0)(h2 : -(2 ^ 62)≤x):(Int.tmod (xU x:Int) 2==1)=true∧i64.wrap (0 - i64.wrap (i64.wrap (Int.tdiv (xU x:Int) 2)+1))=x:=by
 have hz:(xU x:Int)=((-x - 1).toNat*2+1:Nat):=by unfold xU; rw [if_pos h]; omega
 have h3:Int.tmod (((-x - 1).toNat*2+1:Nat):Int) 2=1:=by
  rw [Int.tmod_eq_emod_of_nonneg (by omega)]; omega
 have h4:Int.tdiv (((-x - 1).toNat*2+1:Nat):Int) 2 = -x - 1:=by
  rw [Int.tdiv_eq_ediv_of_nonneg (by omega)]; omega
 rw [hz,h3,h4,aD (x:=-x - 1) (by omega) (by omega),aD (x:=-x - 1+1) (by omega) (by omega),aD (by omega) (by omega)]
 exact⟨by decide,by omega⟩
theorem N7 {m:Nat}{n:ab}{rest:List Int}(hm:11≤m)(W:tT n):cV.f m ⟨dp n++rest,false⟩=some (n,⟨rest,false⟩):=by
 have Hz:(2:Nat) ^ 63=9223372036854775808:=by decide
 have TG:(2:Int) ^ 63=9223372036854775808:=by decide
 obtain⟨kd,nt,lb,IB⟩:=n
 unfold cV.f
 rcases W.kind with⟨h,hi,N8,ha⟩| ⟨h,hi,N8,ha⟩| ⟨h,hi,ha⟩| ⟨h,hi⟩
 ·simp only at h hi N8 ha
  subst h N8 ha
  obtain⟨b,rfl⟩:∃b:Nat,nt=(b:Int):=⟨nt.toNat,by omega⟩
  rw [show dp ⟨0,(b:Int),XS #[],[]⟩=0::dI b by simp [dp],XR,vL,Xo]
  dsimp only
  rw [aD (by omega) (by omega),if_pos (by decide),AQ hm (by omega),Xo]
 ·simp only at h hi N8 ha
  subst h N8 ha
  rw [show dp ⟨1,nt,XS #[],[]⟩=1::dI (xU nt) by simp [dp],XR,vL,Xo]
  dsimp only
  rw [aD (x:=1) (by omega) (by omega),if_neg (by decide),if_pos (by decide),AQ hm (AS hi.1 hi.2),Xo]
  by_cases hn:nt<0
  ·obtain⟨z1,z2⟩:=IA hn hi.1
   rw [if_pos z1,z2]
  ·obtain⟨z1,z2⟩:=Gs hn hi.2
   rw [if_neg z1,z2]
 ·simp only at h hi ha
  subst h hi ha
  obtain⟨g1,g2⟩:=W.label (by simp)
  simp only at g1 g2
  rw [show dp ⟨2,0,lb,[]⟩=2::encS lb by simp [dp],XR,vL,Xo]
  dsimp only
  rw [aD (x:=2) (by omega) (by omega),if_neg (by decide),if_neg (by decide),if_pos (by decide),Jv hm (by omega),Xo]
 ·simp only at h hi
  subst h hi
  obtain⟨g1,g2⟩:=W.label (by simp)
  obtain⟨g3,g4⟩:=W.args
  simp only at g1 g2 g3 g4
  rw [show dp ⟨3,0,lb,IB⟩=3::(encS lb++dI IB.length++(IB.map fun a=>dI a.toNat).flatten) by simp [dp],XR,vL,Xo]
  dsimp only
  rw [aD (x:=3) (by omega) (by omega),if_neg (by decide),if_neg (by decide),if_neg (by decide),if_pos (by decide)]
  rw [XC,XC,Jv hm (by omega),Xo]
  dsimp only
  rw [AQ hm (by omega),Xo,if_neg (by simp; omega)]
  obtain⟨x,hx⟩:=Jx hm ((IB.length:Int),(⟨(IB.map fun a=>dI a.toNat).flatten++rest,false⟩:fq)) 3 lb rest (by simp; omega) IB m 0 [] (by omega) (by simp) (by simp; omega) g4
  have hx:cV.l1 m ((IB.length:Int),(⟨(IB.map fun a=>dI a.toNat).flatten++rest,false⟩:fq)) m (0:Int) 3 0 lb [] ⟨(IB.map fun a=>dI a.toNat).flatten++rest,false⟩=_:=hx
  rw [hx,Xo]
  simp
end Go.Proofs.YtmekcfdllhphlaaDoor
namespace Go.Proofs.YtmekcfdllhphlaaDoor
open Go Go.R
open Go.IntKind (i64 u64 u8 u32)
def vN:cg:=gL [0,2,3,5,6,7,8,9,16,17] [] [1022,1018,907,779,899,907,651,139,651,651,907,1021] [] []
def bu.l1 (m:Nat)  : Nat→Int→Int→Option (Int × Int)
 | 0,_,_=>none
 | k+1,qo,x1=>if (decide (x1<(8:Int)))=true then (bu.l1 m k (kZ .u32 (ga .u32 qo 1) (hH .u32 (3988292384:Int) (u32.wrap (0 - (hH .u32 qo (1:Int)))))) (i64.wrap (x1+(1:Int)))) else (some ((qo,x1)))
def bu.l0 (m:Nat)(b0:List Int):Nat→Int→Int→Option (Int × Int)
 | 0,_,_=>none
 | k+1,tU,x0=>if (decide (x0<(b0.length:Int)))=true then ((ix b0 x0).bind fun v0=>(bu.l1 m m (kZ .u32 tU (u32.wrap v0)) (0:Int)).bind fun bj=>match bj with | (Ln,x2)=>bu.l0 m b0 k Ln (i64.wrap (x0+(1:Int)))) else (some ((tU,x0)))
def bu.f (m:Nat)(b0:List Int):Option (Int):=(bu.l0 m b0 m (4294967295:Int) (0:Int)).bind fun bJ=>match bJ with | (Lp,x3)=>some (i64.wrap (Ji .u32 Lp))
def bu.fin (L:Mem)(r:Int)(s:St):Prop:=∃av,aH Tryd.prog (s.open vN) Tryd.f21.results.toList=some av∧fX s.h av (.int .i64 r)
def TH (cf:CallF)(m:Nat):Prop:=∀(b0:List Int) (r:Int),bu.f m b0=some r→∀h xs,eN fi h xs [aw.fz b0]→cf 21 xs h=some (.int .i64 r,h)
section
variable {cf:CallF}{m:Nat}
theorem bu.eQ (L:Mem)(b0:List Int)(x0:Int)   : bD Tryd.prog cf vN m (sub [1,1,0,1,0,0,1,1,0,0,1,1,1,0,0] (codeOf Tryd.f21)) (fun k (σ:Int × Int)=>bu.l1 m k σ.1 σ.2) (fun σ s=>match σ with | (qo,x1)=>∃h1,s=⟨[.any,.any,.int .u32 qo,.any,aw.fz b0,.int .i64 (b0.length:Int),.int .i64 x0,.any,.int .i64 x1,.any],[],h1⟩∧Has h1 (L)) (fun out e s=>(e = .exit 2∧∃qo x1,(qo,x1)=out∧∃Gt AE h1,s=⟨[.any,.any,.int .u32 qo,.any,aw.fz b0,.int .i64 (b0.length:Int),.int .i64 x0,.any,Gt,AE],[],h1⟩∧Has h1 (L))):=by
 refine gH (fun _=>rfl) ?_
 rintro k ⟨qo,x1⟩ s out ⟨h1,rfl,o1⟩ H
 have H:bu.l1 m (k+1) qo x1=some out:=H
 refine q1 <| qq <| qc H (fun c1 H=>?_) (fun c1 H=>?_)
 ·exact qk <| qq <| qb 3 <| q0 <| q0 <| ⟨(kZ .u32 (ga .u32 qo 1) (hH .u32 (3988292384:Int) (u32.wrap (0 - (hH .u32 qo (1:Int))))),i64.wrap (x1+(1:Int))),⟨h1,by kernel_rfl,o1⟩,H⟩
 ·exact qx 2 <| ⟨rfl,qo,x1,oi H,.int .i64 x1,.bool (decide (x1<(8:Int))),h1,by kernel_rfl,o1⟩
theorem bu.bI (L:Mem)(b0:List Int)   : bD Tryd.prog cf vN m (sub [1,1,0,1,0,0] (codeOf Tryd.f21)) (fun k (σ:Int × Int)=>bu.l0 m b0 k σ.1 σ.2) (fun σ s=>match σ with | (tU,x0)=>∃h0,s=⟨.any :: .any :: .int .u32 tU :: .any::aw.fz b0 :: .int .i64 (b0.length:Int) :: .int .i64 x0::jP [],[],h0⟩∧Has h0 (L)) (fun out e s=>(e = .exit 0∧∃tU x0,(tU,x0)=out∧∃DN uO qg rE h0,s=⟨[.any,.any,.int .u32 tU,.any,DN,uO,qg,rE,.any,.any],[],h0⟩∧Has h0 (L))):=by
 refine gH (fun _=>rfl) ?_
 rintro k ⟨tU,x0⟩ s out ⟨h0,rfl,o0⟩ H
 have H:bu.l0 m b0 (k+1) tU x0=some out:=H
 refine q1 <| qq <| qc H (fun c0 H=>?_) (fun c0 H=>?_)
 ·refine qk <| qq <| qb 1 <| qq ?_
  obtain⟨v0,e0,H⟩:=aI H
  refine qr [.v 0 (bw (k:=.i64) (E:=aw) (l:=b0) Il e0),.v 1 (cY  (E:=aw) (l:=b0) h0 A5 e0 rfl)] <| qq <| q0 <| qq <| q0 <| qb 2 ?_
  obtain⟨bj,e1,H⟩:=aI H
  refine ql (bu.eQ L b0 x0   (kZ .u32 tU (u32.wrap v0),(0:Int)) _ _ ⟨h0,by kernel_rfl,o0⟩ e1) ?_
  rintro e s ⟨rfl,Ln,x2,rfl,g0,g1,h2,rfl,o2⟩
  try dsimp only at H
  exact q0 <| ⟨(Ln,i64.wrap (x0+(1:Int))),⟨h2,by kernel_rfl,o2⟩,H⟩
 ·exact qx 0 <| ⟨rfl,tU,x0,oi H,aw.fz b0,.int .i64 (b0.length:Int),.int .i64 x0,.bool (decide (x0<(b0.length:Int))),h0,by kernel_rfl,o0⟩
theorem rQ {aU:FuncId→cg}(ha:aU 21=vN)  (b0:List Int)(h:AHeap)(L:Mem)  (o:Has h (L)){out:Int}(H:bu.f m b0=some out) :
  ∃r h',bc Tryd.prog aU cf m 21 [aw.fz b0] h=some (r,h')∧fX h' r (.int .i64 out):=by
 refine aq (fn:=Tryd.f21) ha Tryd.func21 (by kernel_rfl) (by kernel_rfl) ?_
 refine aG (Q:=fun s=>bu.fin L out s) (fun _ _ h=>h) ?_
 have H:_=some out:=H
 unfold bu.f at H
 show de _ cf vN m _ ⟨aw.fz b0::BN [],[],h⟩ _
 refine q1 <| qq <| q0 <| qq <| qq <| q0 <| qb 0 ?_
 obtain⟨bJ,e2,H⟩:=aI H
 refine ql (bu.bI L b0   ((4294967295:Int),(0:Int)) _ _ ⟨h,by kernel_rfl,o⟩ e2) ?_
 rintro e s ⟨rfl,Lp,x3,rfl,g2,g3,g4,g5,h3,rfl,o3⟩
 try dsimp only at H
 obtain rfl:=oi H
 exact q1 <| qt <| ⟨.inl rfl,cb (.int .i64 (i64.wrap (Ji .u32 Lp))) h3 (b9 (eG))⟩
end
end Go.Proofs.YtmekcfdllhphlaaDoor
namespace Go.Proofs.YtmekcfdllhphlaaDoor
open Go Go.R
open Go.IntKind (i64 u64 u8 u32)
def Cn:cg:=gL [0,2,3] [17] [6,3,5] [] [(0,[(2,none,1)])]
def cz.f (m:Nat)(b0:List Int):Option ((List Int)):=(bu.f m b0).bind fun x0=>some ([u8.wrap x0,u8.wrap (ga .i64 x0 8),u8.wrap (ga .i64 x0 16),u8.wrap (ga .i64 x0 24)])
def cz.fin (L:Mem)(r:(List Int))(s:St):Prop:=∃av,aH Tryd.prog (s.open Cn) Tryd.f42.results.toList=some av∧fX s.h av (aw.fz r)
def Q6 (cf:CallF)(m:Nat):Prop:=∀(b0:List Int) (r:(List Int)),cz.f m b0=some r→∀h xs,eN fi h xs [aw.fz b0]→cf 42 xs h=some (aw.fz r,h)
section
variable {cf:CallF}{m:Nat}
theorem pe {aU:FuncId→cg}(ha:aU 42=Cn)(Q7:TH cf m)(b0:List Int)(h:AHeap)(L:Mem)  (o:Has h (L)){out:(List Int)}(H:cz.f m b0=some out) :
  ∃r h',bc Tryd.prog aU cf m 42 [aw.fz b0] h=some (r,h')∧fX h' r (aw.fz out):=by
 refine aq (fn:=Tryd.f42) ha Tryd.func42 (by kernel_rfl) (by kernel_rfl) ?_
 refine aG (Q:=fun s=>cz.fin L out s) (fun _ _ h=>h) ?_
 have H:_=some out:=H
 unfold cz.f at H
 show de _ cf Cn m _ ⟨[aw.fz b0,.any,.any],[none],h⟩ _
 refine q1 <| qq ?_
 obtain⟨x0,e0,H⟩:=aI H
 refine qr [.a 1 (Q7 _ _ e0 h _ (fG (ae (db (E:=aw)) (aC))))] <| qq ?_
 obtain⟨aA,h0,e1,o0⟩:=H8 (E:=aw) (l:=[u8.wrap x0,u8.wrap (ga .i64 x0 8),u8.wrap (ga .i64 x0 16),u8.wrap (ga .i64 x0 24)]) (cs:=[.int .u8 (u8.wrap x0),.int .u8 (u8.wrap (ga .i64 x0 8)),.int .u8 (u8.wrap (ga .i64 x0 16)),.int .u8 (u8.wrap (ga .i64 x0 24))]) o (by kernel_rfl)
 obtain rfl:=oi H
 exact qr [.a 11 e1] <| qt <| ⟨.inl rfl,cb (.rs aA 0 (([u8.wrap x0,u8.wrap (ga .i64 x0 8),u8.wrap (ga .i64 x0 16),u8.wrap (ga .i64 x0 24)]:List Int).length) 1) h0 (b9 (vt (E:=aw) (l:=([u8.wrap x0,u8.wrap (ga .i64 x0 8),u8.wrap (ga .i64 x0 16),u8.wrap (ga .i64 x0 24)])) (q:=0) o0 rfl (fun _=>rfl)))⟩
end
end Go.Proofs.YtmekcfdllhphlaaDoor
namespace Go.Proofs.YtmekcfdllhphlaaDoor
open Go Go.R
open Go.IntKind (i64 u64 u8 u32)
def vO:cg:=gL [0,2,3,5,7,8,24,25,26,27,37,38,39,40] [5,7] [16382,16378,16378,16378,16378,15931,15419,15923,15923,8763,571,8747,8763,8763,15931,16351,16381] [] []
def aS.l1 (m:Nat)(v0:ak):Nat→Int→(List Int)→Option (Int × (List Int))
 | 0,_,_=>none
 | k+1,x3,rR=>if (decide (x3<(v0.nodes.length:Int)))=true then ((ix v0.nodes x3).bind fun v1=>(dU.f m rR v1).bind fun x4=>aS.l1 m v0 k (i64.wrap (x3+(1:Int))) x4) else (some ((x3,rR)))
def aS.l0 (m:Nat)(a6:List ak):Nat→Int→(List Int)→Option (Int × (List Int))
 | 0,_,_=>none
 | k+1,x1,rS=>if (decide (x1<(a6.length:Int)))=true then ((ix a6 x1).bind fun v0=>(bU.f m rS (u64.wrap (v0.nodes.length:Int))).bind fun x2=>(aS.l1 m v0 m (0:Int) x2).bind fun bj=>match bj with | (x5,Lq)=>aS.l0 m a6 k (i64.wrap (x1+(1:Int))) Lq) else (some ((x1,rS)))
def aS.f (m:Nat)(a6:List ak):Option ((List Int)):=(wB ([]) ([(76:Int)])).bind fun xT=>(Fj xT ([(1:Int)])).bind fun N1=>(bU.f m N1 (u64.wrap (a6.length:Int))).bind fun x0=>(aS.l0 m a6 m (0:Int) x0).bind fun bJ=>match bJ with | (x6,xE)=>(tg xE).bind fun u0=>(cz.f m xE).bind fun x7=>(app 1 xE x7).bind fun x8=>some x8
def aS.fin (L:Mem)(r:(List Int))(s:St):Prop:=∃av,aH Tryd.prog (s.open vO) Tryd.f36.results.toList=some av∧fX s.h av (aw.fz r)
def TI (cf:CallF)(m:Nat):Prop:=∀(a6:List ak) (r:(List Int)),aS.f m a6=some r→∀h xs,eN fi h xs [aR.fz a6]→cf 36 xs h=some (aw.fz r,h)
section
variable {cf:CallF}{m:Nat}
theorem aS.eQ (L:Mem)(a6:List ak)(aA:Nat)(x1:Int)(v0:ak)  (Gu:O6 cf m):bD Tryd.prog cf vO m (sub [1,1,1,1,1,0,1,0,0,1,1,0,0,1,1,1,0,0] (codeOf Tryd.f36)) (fun k (σ:Int × (List Int))=>aS.l1 m v0 k σ.1 σ.2) (fun σ s=>match σ with | (x3,rR)=>∃gR h6,s=⟨.any :: .any :: .ptr aA 0::jP [aR.fz a6,.int .i64 (a6.length:Int),.int .i64 x1,.any,af.fz v0.nodes,.int .i64 (v0.nodes.length:Int),.int .i64 x3,.any],[none,none],h6⟩∧Has h6 ((aA,.ob [.rs gR 0 rR.length 1,.int .i64 (0:Int),.int .i8 (0:Int)])::(gR,.row 5 (aw.l rR))::L)) (fun out e s=>(e = .exit 2∧∃x3 rR,(x3,rR)=out∧∃F0 F3 F4 F5 gR h6,s=⟨.any :: .any :: .ptr aA 0::jP [aR.fz a6,.int .i64 (a6.length:Int),.int .i64 x1,.any,F0,F3,F4,F5],[none,none],h6⟩∧Has h6 ((aA,.ob [.rs gR 0 rR.length 1,.int .i64 (0:Int),.int .i8 (0:Int)])::(gR,.row 5 (aw.l rR))::L))):=by
 refine gH (fun _=>rfl) ?_
 rintro k ⟨x3,rR⟩ s out ⟨gR,h6,rfl,o6⟩ H
 have H:aS.l1 m v0 (k+1) x3 rR=some out:=H
 refine q1 <| qq <| qc H (fun c1 H=>?_) (fun c1 H=>?_)
 ·refine qk <| qq <| qb 3 <| qq ?_
  obtain⟨v1,nJ,H⟩:=aI H
  refine qr [.v 0 (bw (k:=.i64) (E:=af) (l:=v0.nodes) la nJ),.v 1 (dw  (E:=af) (l:=v0.nodes) h6 tm tp nJ)] ?_
  obtain⟨x4,qm,H⟩:=aI H
  obtain⟨il,h7,rJ,o7⟩:=Gu _ _ _ qm h6 _ _ _ (o6)  [.ptr aA 0,.agg [.int .i64 v1.kind,.int .i64 v1.int,.str v1.label,aa.fz v1.args]] (an (rfl) (an (aP (nE (cG (bE) (cG (bE) (cG (w6) (cG (iN (E:=aa)) (gM))))))) (bo)))
  exact qr [.a 2 rJ] <| q0 <| ⟨(i64.wrap (x3+(1:Int)),x4),⟨il,h7,by kernel_rfl,o7⟩,H⟩
 ·exact qx 2 <| ⟨rfl,x3,rR,oi H,af.fz v0.nodes,.int .i64 (v0.nodes.length:Int),.int .i64 x3,.bool (decide (x3<(v0.nodes.length:Int))),gR,h6,by kernel_rfl,o6⟩
theorem aS.bI (L:Mem)(a6:List ak)(aA:Nat)  (pd:Mf cf m)(Gu:O6 cf m):bD Tryd.prog cf vO m (sub [1,1,1,1,1,0,1,0,0] (codeOf Tryd.f36)) (fun k (σ:Int × (List Int))=>aS.l0 m a6 k σ.1 σ.2) (fun σ s=>match σ with | (x1,rS)=>∃fT h4,s=⟨.any :: .any :: .ptr aA 0::jP (aR.fz a6 :: .int .i64 (a6.length:Int) :: .int .i64 x1::rz []),[none,none],h4⟩∧Has h4 ((aA,.ob [.rs fT 0 rS.length 1,.int .i64 (0:Int),.int .i8 (0:Int)])::(fT,.row 5 (aw.l rS))::L)) (fun out e s=>(e = .exit 0∧∃x1 rS,(x1,rS)=out∧∃Lb Q8 Lr AT fT h4,s=⟨.any :: .any :: .ptr aA 0::jP (Lb::Q8::Lr::AT::q7 []),[none,none],h4⟩∧Has h4 ((aA,.ob [.rs fT 0 rS.length 1,.int .i64 (0:Int),.int .i8 (0:Int)])::(fT,.row 5 (aw.l rS))::L))):=by
 refine gH (fun _=>rfl) ?_
 rintro k ⟨x1,rS⟩ s out ⟨fT,h4,rfl,o4⟩ H
 have H:aS.l0 m a6 (k+1) x1 rS=some out:=H
 refine q1 <| qq <| qc H (fun c0 H=>?_) (fun c0 H=>?_)
 ·refine qk <| qq <| qb 1 <| qq ?_
  obtain⟨v0,e7,H⟩:=aI H
  refine qr [.v 0 (bw (k:=.i64) (E:=aR) (l:=a6) DA e7),.v 1 (dw  (E:=aR) (l:=a6) h4 L6 L7 e7)] <| qq ?_
  obtain⟨x2,e8,H⟩:=aI H
  obtain⟨gQ,h5,e9,o5⟩:=pd _ _ _ e8 h4 _ _ _ (o4)  [.ptr aA 0,.int .u64 (u64.wrap (v0.nodes.length:Int))] (an (rfl) (an (aP (bE)) (bo)))
  refine qr [.a 5 e9] <| qq <| q0 <| qb 2 ?_
  obtain⟨bj,rK,H⟩:=aI H
  refine ql (aS.eQ L a6 aA x1 v0  Gu ((0:Int),x2) _ _ ⟨gQ,h5,by kernel_rfl,o5⟩ rK) ?_
  rintro e s ⟨rfl,x5,Lq,rfl,g0,g1,g2,g3,kL,h8,rfl,o8⟩
  try dsimp only at H
  exact q0 <| ⟨(i64.wrap (x1+(1:Int)),Lq),⟨kL,h8,by kernel_rfl,o8⟩,H⟩
 ·exact qx 0 <| ⟨rfl,x1,rS,oi H,aR.fz a6,.int .i64 (a6.length:Int),.int .i64 x1,.bool (decide (x1<(a6.length:Int))),fT,h4,by kernel_rfl,o4⟩
theorem pf {aU:FuncId→cg}(ha:aU 36=vO)(Ls:Q6 cf m)(xw:Ns cf m)(pd:Mf cf m)(Gu:O6 cf m)(Q9:S9 cf m)(a6:List ak)(h:AHeap)(L:Mem)  (o:Has h (L)){out:(List Int)}(H:aS.f m a6=some out) :
  ∃r h',bc Tryd.prog aU cf m 36 [aR.fz a6] h=some (r,h')∧fX h' r (aw.fz out):=by
 refine aq (fn:=Tryd.f36) ha Tryd.func36 (by kernel_rfl) (by kernel_rfl) ?_
 refine aG (Q:=fun s=>aS.fin L out s) (fun _ _ h=>h) ?_
 have H:_=some out:=H
 unfold aS.f at H
 show de _ cf vO m _ ⟨aR.fz a6::mL [],[none,none],h⟩ _
 refine q1 <| qq ?_
 obtain⟨aA,h0,e0,o0⟩:=ki (cs:=[.nils,.int .i64 (0:Int),.int .i8 (0:Int)]) o (by kernel_rfl)
 refine qr [.a 1 e0] <| qq ?_
 obtain⟨xT,e1,H⟩:=aI H
 obtain⟨eS,h1,e2,o1⟩:=Kv xw o0 e1
 refine qr [.a 3 e2] <| qq ?_
 obtain⟨N1,e3,H⟩:=aI H
 obtain⟨cF,h2,e4,o2⟩:=sj (bs:=xT) xw o1 e3
 refine qr [.a 3 e4] <| qq ?_
 obtain⟨x0,e5,H⟩:=aI H
 obtain⟨fb,h3,e6,o3⟩:=pd _ _ _ e5 h2 _ _ _ (o2)  [.ptr aA 0,.int .u64 (u64.wrap (a6.length:Int))] (an (rfl) (an (aP (bE)) (bo)))
 refine qr [.a 4 e6] <| qq <| qq <| q0 <| qb 0 ?_
 obtain⟨bJ,tH,H⟩:=aI H
 refine ql (aS.bI L a6 aA  pd Gu ((0:Int),x0) _ _ ⟨fb,h3,by kernel_rfl,o3⟩ tH) ?_
 rintro e s ⟨rfl,x6,xE,rfl,g4,g5,g6,g7,xS,h9,rfl,o9⟩
 try dsimp only at H
 refine qq ?_
 obtain⟨u0,rL,H⟩:=aI H
 obtain⟨h10,vI,tD⟩:=Ig (bs:=xE) Q9 o9 rL
 refine qr [.a 3 vI] ?_
 have uv:Has h10 ((xS,.sl xE.length 1 (aw.l xE))::L):=Has.del tD 0
 refine qq ?_
 obtain⟨x7,uR,H⟩:=aI H
 obtain⟨x8,zN,H⟩:=aI H
 obtain⟨eK,h11,uw,oT⟩:=fF (P:=Tryd.prog) (E:=aw) (l:=xE) (q:=0) (t2:=25) (x:=aw.fz x7) (l2:=x7) Il uv rfl (E0 (E:=aw) (l2:=x7) _) rfl zN
 obtain rfl:=oi H
 exact qr [.a 2 (Ls _ _ uR h10 _ (fG (ae (s7 (E:=aw) (l:=xE) (q:=0) uv rfl (fun _=>rfl)) (aC)))),.a 3 uw] <| qt <| ⟨.inl rfl,cb (.rs eK 0 x8.length 1) h11 (b9 (vt (E:=aw) (l:=x8) (q:=0) oT rfl (fun _=>rfl)))⟩
end
end Go.Proofs.YtmekcfdllhphlaaDoor
namespace Go.Proofs.YtmekcfdllhphlaaDoor
open Go Go.R
open Go.IntKind (i64 u64 u8 u32)
def Co:cg:=gL [0,1,2,3,6] [1,2] [25,9,19,19] [] []
def dQ.f (m:Nat)(t0:ak):Option (ak × Int):=(gy.f m t0).bind fun x0=>if (!x0)=true then (some ((ak.mk ([]) (0:Int)),(2:Int))) else ((cy.f m t0).bind fun x1=>some (x1,(0:Int)))
def dQ.fin (L:Mem)(r:ak × Int)(s:St):Prop:=∃av,aH Tryd.prog (s.open Co) Tryd.f31.results.toList=some av∧wW s.h av (.tup [.agg [af.fz r.1.nodes,.int .i64 r.1.root],.int .i64 r.2])
def O8 (cf:CallF)(m:Nat):Prop:=∀(t0:ak) (r:ak × Int),dQ.f m t0=some r→∀h xs,lA xs [.agg [af.fz t0.nodes,.int .i64 t0.root]]→cf 31 xs h=some (.tup [.agg [af.fz r.1.nodes,.int .i64 r.1.root],.int .i64 r.2],h)
section
variable {cf:CallF}{m:Nat}
theorem rT {aU:FuncId→cg}(ha:aU 31=Co)(Ra:Tq cf m)(Rb:Ty cf m)(t0:ak)(h:AHeap)(L:Mem)  (o:Has h (L)){out:ak × Int}(H:dQ.f m t0=some out) :
  ∃r h',bc Tryd.prog aU cf m 31 [.agg [af.fz t0.nodes,.int .i64 t0.root]] h=some (r,h')∧wW h' r (.tup [.agg [af.fz out.1.nodes,.int .i64 out.1.root],.int .i64 out.2]):=by
 refine aq (fn:=Tryd.f31) ha Tryd.func31 (by kernel_rfl) (by kernel_rfl) ?_
 refine aG (Q:=fun s=>dQ.fin L out s) (fun _ _ h=>h) ?_
 have H:_=some out:=H
 unfold dQ.f at H
 show de _ cf Co m _ ⟨.agg [af.fz t0.nodes,.int .i64 t0.root]::q7 [],[none,none],h⟩ _
 refine q1 <| qq <| qq ?_
 obtain⟨x0,e0,H⟩:=aI H
 refine qr [.a 1 (Ra _ _ e0 h _ (fG (ae (dy (ae (db (E:=af)) (ae (aO) (aC)))) (aC))))] <| qc H (fun c0 H=>?_) (fun c0 H=>?_)
 ·obtain rfl:=oi H
  exact q1 <| qt <| ⟨.inl rfl,vC (.tup [.agg [.nils,.int .i64 (0:Int)],.int .i64 (2:Int)]) h (pC (fU (ae (dy (ae (gG) (ae (aO) (aC)))) (ae (aO) (aC)))))⟩
 ·refine qk <| qq ?_
  obtain⟨x1,e1,H⟩:=aI H
  obtain rfl:=oi H
  exact qr [.a 1 (Rb _ _ e1 h _ (cG (nE (cG (iN (E:=af)) (cG (bE) (gM)))) (gM)))] <| qt <| ⟨.inl rfl,vC (.tup [.agg [af.fz x1.nodes,.int .i64 x1.root],.int .i64 (0:Int)]) h (pC (fU (ae (dy (ae (db) (ae (aO) (aC)))) (ae (aO) (aC)))))⟩
end
end Go.Proofs.YtmekcfdllhphlaaDoor
namespace Go.Proofs.YtmekcfdllhphlaaDoor
open Go Go.R
open Go.IntKind (i64 u64 u8 u32)
def Cp:cg:=gL [0,1,2] [1] [5,3] [] []
def fL.f (m:Nat)(n0:ab):Option (Bool):=some (n0.kind==(4:Int))
def fL.fin (L:Mem)(r:Bool)(s:St):Prop:=∃av,aH Tryd.prog (s.open Cp) Tryd.f35.results.toList=some av∧fX s.h av (.bool r)
def TJ (cf:CallF)(m:Nat):Prop:=∀(n0:ab) (r:Bool),fL.f m n0=some r→∀h xs,eN fi h xs [.agg [.int .i64 n0.kind,.int .i64 n0.int,.str n0.label,aa.fz n0.args]]→cf 35 xs h=some (.bool r,h)
section
variable {cf:CallF}{m:Nat}
theorem pg {aU:FuncId→cg}(ha:aU 35=Cp)  (n0:ab)(h:AHeap)(L:Mem)  (o:Has h (L)){out:Bool}(H:fL.f m n0=some out) :
  ∃r h',bc Tryd.prog aU cf m 35 [.agg [.int .i64 n0.kind,.int .i64 n0.int,.str n0.label,aa.fz n0.args]] h=some (r,h')∧fX h' r (.bool out):=by
 refine aq (fn:=Tryd.f35) ha Tryd.func35 (by kernel_rfl) (by kernel_rfl) ?_
 refine aG (Q:=fun s=>fL.fin L out s) (fun _ _ h=>h) ?_
 have H:_=some out:=H
 unfold fL.f at H
 show de _ cf Cp m _ ⟨[.agg [.int .i64 n0.kind,.int .i64 n0.int,.str n0.label,aa.fz n0.args],.any,.any],[none],h⟩ _
 obtain rfl:=oi H
 exact q1 <| qq <| q0 <| qt <| ⟨.inl rfl,cb (.bool (n0.kind==(4:Int))) h (b9 (au))⟩
end
end Go.Proofs.YtmekcfdllhphlaaDoor
