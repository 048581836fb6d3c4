/- Part of the proof: PT10, PB1, Q54, Q59, Q43, PR2, Q74, Q55, Q60, Q44, PR3, PR4, PR5, Q21, Q42, Q36, Q31, Q35. -/
import Derived.Test.YtmekcfdllhphlaaDoorK9
set_option linter.unusedVariables false
set_option linter.unusedSimpArgs false
set_option maxRecDepth 100000
open Bool renaming and_eq_true → Xw, false_eq_true → XJ, or_eq_true → Yf
open ByteArray renaming mk → XV
open Int renaming toNat_natCast → Xy
open List renaming getElem?_eq_some_iff → XA, length_append → XB, mem_singleton → XE, append_assoc → XF, drop_eq_getElem_cons → XG, mem_append → XH, length_map → XI, getD_eq_getElem?_getD → XM, map_cons → XN, getElem?_append_right → XO, length_cons → XR, cons_append → XU, map_append → XW, take_of_length_le → X1, getElem?_append_left → X4, drop_zero → X6, mem_cons → X8, mem_append_left → Yb, length_nil → Yk, append_nil → Yr, mem_of_getElem? → Yu, take_add_one → Yx, map_congr_left → Yy, take_length → YA, idxOf_append → YE, nodup_append → YF, getElem?_set_self → YT, getElem?_set_ne → YY
open Nat renaming le_refl → Xv, zero_add → XS, add_assoc → Ye, mul_le_mul_right → Yj, add_mul → YC, sub_self → Y0, zero_le → Y4
open Ne renaming symm → YK
open Option renaming bind_some → Xr
open Prod.mk renaming injEq → Xz
open UInt8 renaming lt_iff_toNat_lt → YM
namespace Go.Proofs.YtmekcfdllhphlaaDoor
open Go Go.R
open Go.IntKind (i64 u64 u8 u32)
def kN:List Int→Nat→List (Int × Int)
 | [],_=>[]
 | k::ks,s=>(k,(s:Int))::kN ks (s+1)
theorem vK:∀(ks:List Int) (s:Nat) (k:Int),yG (kN ks s) k=if k∈ks then (((s+ks.idxOf k:Nat):Int),true) else (0,false)
 | [],s,k=>rfl
 | a::ks,s,k=>by
  simp only [kN,yG,vK ks (s+1) k,X8,List.idxOf_cons]
  by_cases h:k=a
  ·subst h; simp
  ·have h':(a==k)=false:=by simpa using fun z:a=k=>h z.symm
   rw [if_neg h,h']
   by_cases h2:k∈ks
   ·simp only [h2,if_true,or_true,cond_false]
    simp only [Xz,and_true]
    omega
   ·simp [h2,h]
theorem vL:∀(ks:List Int) (s:Nat) (k:Int),k∉ks→Fh (kN ks s) k ((s+ks.length:Nat):Int)=kN (ks++[k]) s
 | [],s,k,_=>rfl
 | a::ks,s,k,h=>by
  have h1:k≠a:=fun z=>h (by simp [z])
  have h2:k∉ks:=fun z=>h (by simp [z])
  simp only [kN,Fh,XU,if_neg h1,XR]
  rw [show s+(ks.length+1)=s+1+ks.length by omega,vL ks (s+1) k h2]
def dW (cls:List Int)(a:Int):Int:=gt cls a.toNat
def idx (cls o:List Int)(a:Int):Int:=((o.map (dW cls)).idxOf (dW cls a):Nat)
def uT (cls:List Int)(l:List ab)(o:List Int)(i:Int):ab:=⟨(nd l i).kind,(nd l i).int,(nd l i).label,(nd l i).args.map (idx cls o)⟩
def ri (cls:List Int)(l:List ab):Nat→Int→List Int→List Int
 | 0,_,o=>o
 | k+1,i,o=>if dW cls i∈o.map (dW cls) then o else (nd l i).args.foldl (fun o a=>ri cls l k a o) (o++[i])
structure Vs (cls:List Int)(n:Nat)(o:List Int):Prop where
 HB:(o.map (dW cls)).Nodup
 nj:∀x∈o,0≤x∧x<n
structure Ps (cls:List Int)(l:List ab)(o o':List Int)(ns AS:List ab):Prop where
 vs:Vs cls l.length o'
 pre:∃t,o'=o++t
 len:AS.length=o'.length
 old:∀k,k<o.length→AS[k]? = ns[k]?
 new:∀k,o.length≤k→k<o'.length→AS[k]? = some (uT cls l o' (gt o' k))
 arg:∀k,o.length≤k→k<o'.length→∀a∈(nd l (gt o' k)).args,dW cls a∈o'.map (dW cls)
theorem Vs.rj {cls:List Int}{n:Nat}{o:List Int}(v:Vs cls n o):o.length≤n:=by
 have hn:o.Nodup:=by
  have:=v.HB
  unfold List.Nodup at this ⊢
  rw [List.pairwise_map] at this
  exact List.Pairwise.imp (fun h e=>h (by rw [e])) this
 have:=hn.length_le_of_subset (l₂:=ints n) (fun x hx=>iE.2 (v.nj x hx))
 rwa [dG] at this
theorem Ps.refl {cls:List Int}{l:List ab}{o:List Int}{ns:List ab}(v:Vs cls l.length o)(h:ns.length=o.length):Ps cls l o o ns ns:=
 ⟨v,⟨[],by simp⟩,h,fun _ _=>rfl,fun k h1 h2=>by omega,fun k h1 h2=>by omega⟩
theorem ig {a b:List Int}{k:Nat}(h:k<a.length):gt (a++b) k=gt a k:=by
 unfold gt; rw [XM,XM,X4 h]
theorem nN {cls o t:List Int}{a:Int}(h:dW cls a∈o.map (dW cls)):idx cls (o++t) a=idx cls o a:=by
 unfold idx; rw [XW,YE,if_pos h]
theorem y6 {cls:List Int}{l:List ab}{o t:List Int}{i:Int}(h:∀a∈(nd l i).args,dW cls a∈o.map (dW cls)):uT cls l (o++t) i=uT cls l o i:=by
 unfold uT
 congr 1
 exact Yy fun a ha=>nN (h a ha)
theorem Ps.trans {cls:List Int}{l:List ab}{o o1 o2:List Int}{ns n1 n2:List ab}(a:Ps cls l o o1 ns n1)(b:Ps cls l o1 o2 n1 n2):Ps cls l o o2 ns n2:=by
 obtain⟨t1,rfl⟩:=a.pre
 obtain⟨t2,rfl⟩:=b.pre
 have hl:(o++t1).length=o.length+t1.length:=by simp
 refine⟨b.vs,⟨t1++t2,by simp⟩,b.len,fun k hk=>(b.old k (by omega)).trans (a.old k hk),fun k h1 h2=>?_,fun k h1 h2 x hx=>?_⟩
 ·by_cases h:k<(o++t1).length
  ·rw [b.old k h,a.new k h1 h,ig h,y6 (a.arg k h1 h)]
  ·exact b.new k (by omega) h2
 ·by_cases h:k<(o++t1).length
  ·rw [ig h] at hx
   rw [XW]
   exact Yb _ (a.arg k h1 h x hx)
  ·exact b.arg k (by omega) h2 x hx
section
variable {m:Nat}{cls:List Int}{l:List ab}{root:Int}
abbrev N1:=Int→(List (Int × Int))→(List Int)→ak→ak→Option (Int × (List (Int × Int)) × ak)
def Jw (cls:List Int)(l:List ab)(root:Int)(rec:N1)(df:Int→List Int→List Int)(need:Nat):Prop:=∀(i:Int) (o:List Int) (ns:List ab),0≤i→i<l.length→Vs cls l.length o→ns.length=o.length→l.length<need+o.length→
 ∃AS,rec i (kN (o.map (dW cls)) 0) cls ⟨ns,0⟩ ⟨l,root⟩=some (idx cls (df i o) i,kN ((df i o).map (dW cls)) 0,⟨AS,0⟩)∧Ps cls l o (df i o) ns AS∧dW cls i∈(df i o).map (dW cls)
theorem Gl {rec:N1}{df:Int→List Int→List Int}{need:Nat}(hm:2 ^ 30≤m)(ok:kM l)(V:Jw cls l root rec df need){v:ab}(h8:v.args.length≤8)(ha:∀a∈v.args,0≤a∧a<l.length){o0:List Int}{TC:List ab}(N2:l.length<need+o0.length):∀(f t:Nat) (o:List Int) (ns:List ab),v.args.length - t<f→t≤v.args.length→Ps cls l o0 o TC ns→(∀a∈v.args.take t,dW cls a∈o.map (dW cls))→
  ∃o' AS x,o'=(v.args.drop t).foldl (fun o a=>df a o) o∧aT.l0 m cls ⟨l,root⟩ rec v f ((v.args.take t).map (idx cls o)) (t:Int) (kN (o.map (dW cls)) 0) ⟨ns,0⟩=some (v.args.map (idx cls o'),x,kN (o'.map (dW cls)) 0,⟨AS,0⟩)∧Ps cls l o0 o' TC AS∧∀a∈v.args,dW cls a∈o'.map (dW cls)
 | 0,t,o,ns,hf,_,_,_=>absurd hf (by omega)
 | f+1,t,o,ns,hf,ht,P,hin=>by
  have ni:(2:Nat) ^ 30=1073741824:=by decide
  unfold aT.l0
  by_cases h:t<v.args.length
  ·obtain⟨b0,b1⟩:=ha _ (aJ h)
   have Xg:o0.length≤o.length:=by obtain⟨s,rfl⟩:=P.pre; simp
   obtain⟨VB,k1,P1,OQ⟩:=V (gt v.args t) o ns b0 b1 P.vs P.len (by omega)
   obtain⟨s,hs⟩:=P1.pre
   have hT1:v.args.take (t+1)=v.args.take t++[gt v.args t]:=by rw [Yx,bh h]; rfl
   have hD:v.args.drop t=gt v.args t::v.args.drop (t+1):=by
    obtain⟨h4,h5⟩:=XA.1 (bh h)
    rw [←h5]; exact XG h4
   have QV:∀a∈v.args.take (t+1),dW cls a∈(df (gt v.args t) o).map (dW cls):=fun a ha=>by
    rw [hT1] at ha
    rcases XH.1 ha with ha | ha
    ·rw [hs,XW]; exact Yb _ (hin a ha)
    ·simp only [XE] at ha; subst ha; exact OQ
   obtain⟨o',AS,x,e,k2,P2,h2⟩:=Gl hm ok V h8 ha N2 f (t+1) (df (gt v.args t) o) VB (by omega) (by omega) (P.trans P1) QV
   refine⟨o',AS,x,by rw [hD]; exact e,?_,P2,h2⟩
   have e1:i64.wrap ((t:Int)+1)=((t+1:Nat):Int):=by rw [aD (by omega) (by omega)]; omega
   have ly:app 8 ((v.args.take t).map (idx cls o)) [idx cls (df (gt v.args t) o) (gt v.args t)]=some ((v.args.take (t+1)).map (idx cls (df (gt v.args t) o))):=by
    unfold app
    rw [if_pos (by simp; omega),hT1,XW]
    congr 2
    exact Yy fun a ha=>by rw [hs]; exact (nN (hin a ha)).symm
   rw [if_pos (by simp only [decide_eq_true_eq]; omega),cj h,Xr,k1,Xr,ly,Xr,e1]
   exact k2
  ·have:t=v.args.length:=by omega
   subst this
   rw [YA] at hin ⊢
   exact⟨o,ns,_,by rw [List.drop_length]; rfl,by rw [if_neg (by simp)],P,hin⟩
theorem tQ (hm:2 ^ 30≤m)(ok:kM l)(hc:cls.length=l.length):∀k,Jw cls l root (aT.f m k) (ri cls l k) k
 | 0=>fun i o ns h0 h1 v hl hn=>absurd v.rj (by omega)
 | k+1=>fun i o ns h0 h1 v hl hn=>by
  have ni:(2:Nat) ^ 30=1073741824:=by decide
  have h8000:=ok.1
  have xu:=v.rj
  show ∃AS,aT.b m (aT.f m k) i (kN (o.map (dW cls)) 0) cls ⟨ns,0⟩ ⟨l,root⟩=_∧_
  unfold aT.b
  have hx:ix cls i=some (dW cls i):=fU (by omega) (by omega)
  rw [hx,Xr,vK,XS]
  by_cases h:dW cls i∈o.map (dW cls)
  ·have hd:ri cls l (k+1) i o=o:=by unfold ri; rw [if_pos h]
   rw [hd,if_pos h]
   exact⟨ns,rfl,Ps.refl v hl,h⟩
  ·have hd:ri cls l (k+1) i o=(nd l i).args.foldl (fun o a=>ri cls l k a o) (o++[i]):=by
    show (if dW cls i∈o.map (dW cls) then o else (nd l i).args.foldl (fun o a=>ri cls l k a o) (o++[i]))=_
    rw [if_neg h]
   have v1:Vs cls l.length (o++[i]):=by
    refine⟨?_,fun x hx=>?_⟩
    ·rw [XW,YF]
     refine⟨v.HB,by simp,fun a ha b hb=>?_⟩
     simp only [XN,List.map_nil,XE] at hb
     subst hb; intro e; subst e; exact h ha
    ·rcases XH.1 hx with hx | hx
     ·exact v.nj x hx
     ·simp only [XE] at hx; subst hx; exact⟨h0,h1⟩
   have Gm:=v1.rj
   simp only [XB,XR,Yk] at Gm
   have ly:app 56 ns [(⟨(nd l i).kind,(nd l i).int,(nd l i).label,[]⟩:ab)]=some (ns++[⟨(nd l i).kind,(nd l i).int,(nd l i).label,[]⟩]):=by
    unfold app; rw [if_pos (by simp; omega)]
   have MU:Fh (kN (o.map (dW cls)) 0) (dW cls i) ((ns.length:Nat):Int)=kN ((o++[i]).map (dW cls)) 0:=by
    have:=vL (o.map (dW cls)) 0 (dW cls i) h
    rw [XS,XI,←hl] at this
    rw [this,XW]; rfl
   obtain⟨n1,n2⟩:=ok.2 _ (fl h0 h1)
   have P0:Ps cls l (o++[i]) (o++[i]) (ns++[⟨(nd l i).kind,(nd l i).int,(nd l i).label,[]⟩]) (ns++[⟨(nd l i).kind,(nd l i).int,(nd l i).label,[]⟩]):=Ps.refl v1 (by simp [hl])
   obtain⟨o',AS,x,e,k2,P2,h2⟩:=Gl (m:=m) (v:=nd l i) (need:=k) hm ok (tQ hm ok hc k) n1 n2 (o0:=o++[i]) (by simp; omega) m 0 (o++[i]) _ (by omega) (by omega) P0 (fun a ha=>by simp at ha)
   rw [X6] at e
   rw [List.take_zero,List.map_nil] at k2
   have k2:aT.l0 m cls ⟨l,root⟩ (aT.f m k) (nd l i) m [] 0 _ _=_:=k2
   obtain⟨s,hs⟩:=P2.pre
   have HP:o.length<o'.length:=by rw [hs]; simp
   have N3:AS[o.length]? = some ⟨(nd l i).kind,(nd l i).int,(nd l i).label,[]⟩:=by
    rw [P2.old _ (by simp),←hl,XO (Xv _),Y0]; rfl
   have Lj:ix AS ((ns.length:Nat):Int)=some ⟨(nd l i).kind,(nd l i).int,(nd l i).label,[]⟩:=by
    unfold ix; rw [if_pos (by omega),Xy,hl,N3]
   have TD:gt o' o.length=i:=by
    rw [hs,ig (by simp)]
    unfold gt; rw [XM,XO (Xv _),Y0]; rfl
   have QX:idx cls o' i=(o.length:Nat):=by
    rw [hs,nN (by simp)]
    unfold idx
    rw [XW,YE,if_neg h]; simp
   rw [hd,←e,if_neg h,if_neg (by simp),Xr,gW h0 h1,Xr,ly,Xr,MU,k2,Xr]
   dsimp only
   rw [Lj,Xr,Xy,QX,hl]
   refine⟨_,rfl,⟨P2.vs,⟨[i]++s,by rw [hs]; simp⟩,by simpa using P2.len,fun q hq=>?_,fun q h3 h4=>?_,fun q h3 h4 a ha=>?_⟩,by rw [hs]; simp⟩
   ·rw [YY (by omega),P2.old q (by simp; omega),X4 (by omega)]
   ·by_cases hq:q=o.length
    ·subst hq
     rw [YT (by rw [P2.len]; omega),TD]; rfl
    ·rw [YY (by omega)]
     exact P2.new q (by simp; omega) h4
   ·by_cases hq:q=o.length
    ·subst hq; rw [TD] at ha; exact h2 a ha
    ·exact P2.arg q (by simp; omega) h4 a ha
end
theorem tR {m:Nat}(hm:2 ^ 41≤m){t:ak}(ok:kM t.nodes)(h1:1≤t.nodes.length)(r0:0≤t.root)(r1:t.root<t.nodes.length)(Inv:List Int→Prop)
  (hI0:∀d out,d.Perm (ints t.nodes.length)→(Ord (fun x y=>cT (nd t.nodes x) (nd t.nodes y)) (ints t.nodes.length)→Sg (fun x y=>cT (nd t.nodes x) (nd t.nodes y)) d 0 t.nodes.length)→(∀k,k<t.nodes.length→gt out (gt d k).toNat=rk t.nodes d k)→Inv out)
  (hI:∀out many ks next,Part t.nodes.length out many→Inv out→qo t.nodes out t.nodes.length ks→next.length=t.nodes.length→(∀i,i<t.nodes.length→gt next i=(ks.idxOf (key out (nd t.nodes i) i):Int))→Inv next) :
  ∃cls many ks ns,cy.f m t=some ⟨ns,0⟩∧Part t.nodes.length cls many∧Inv cls∧qo t.nodes cls t.nodes.length ks∧ks.length=many+1∧Ps cls t.nodes [] (ri cls t.nodes m t.root []) [] ns∧dW cls t.root∈(ri cls t.nodes m t.root []).map (dW cls):=by
 have ni:(2:Nat) ^ 30=1073741824:=by decide
 have rE:(2:Nat) ^ 41=2199023255552:=by decide
 have h8000:=ok.1
 obtain⟨cls,many,ks,k1,P,I,K,Ai⟩:=xt hm ok h1 Inv hI0 hI
 obtain⟨ns,k2,P2,h2⟩:=tQ (m:=m) (root:=t.root) (by omega) ok P.len m t.root [] [] r0 r1 ⟨by simp,fun x hx=>by simp at hx⟩ rfl (by simp; omega)
 refine⟨cls,many,ks,ns,?_,P,I,K,Ai,P2,h2⟩
 unfold cy.f
 have k2:aT.f m m t.root [] cls ⟨[],0⟩ t=_:=k2
 rw [k1,Xr,k2]; rfl
end Go.Proofs.YtmekcfdllhphlaaDoor
namespace Go.Proofs.YtmekcfdllhphlaaDoor
open Go Go.R
open Go.IntKind (i64 u64 u8 u32)
theorem tS:∀(x:List UInt8),Op.bytesLess x x=false
 | []=>rfl
 | a::x=>by simp [Op.bytesLess,tS x]
theorem xw:∀(x y:List UInt8),Op.bytesLess x y=true→Op.bytesLess y x=false
 | _,[],h=>by cases ‹List UInt8›<;>simp [Op.bytesLess] at h
 | [],b::y,_=>rfl
 | a::x,b::y,h=>by
  simp only [Op.bytesLess,Yf,Xw,decide_eq_true_eq,beq_iff_eq] at h
  simp only [Op.bytesLess,Bool.or_eq_false_iff,Bool.and_eq_false_iff,decide_eq_false_iff_not,beq_eq_false_iff_ne]
  rcases h with h | ⟨rfl,h⟩
  ·refine⟨fun h2=>?_,.inl fun e=>?_⟩
   ·rw [YM] at h h2; omega
   ·subst e; rw [YM] at h; omega
  ·exact⟨by rw [YM]; omega,.inr (xw x y h)⟩
theorem Gn:∀(x y:List UInt8),Op.bytesLess x y=true∨x=y∨Op.bytesLess y x=true
 | [],[]=>.inr (.inl rfl)
 | [],b::y=>.inl rfl
 | a::x,[]=>.inr (.inr rfl)
 | a::x,b::y=>by
  simp only [Op.bytesLess,Yf,Xw,decide_eq_true_eq,beq_iff_eq,List.cons.injEq]
  rcases Nat.lt_trichotomy a.toNat b.toNat with h | h | h
  ·exact .inl (.inl (YM.2 h))
  ·have:a=b:=UInt8.toNat_inj.1 h
   subst this
   rcases Gn x y with h1 | h1 | h1
   ·exact .inl (.inr ⟨rfl,h1⟩)
   ·exact .inr (.inl ⟨rfl,h1⟩)
   ·exact .inr (.inr (.inr ⟨rfl,h1⟩))
  ·exact .inr (.inr (.inl (YM.2 h)))
theorem y7:∀(x y z:List UInt8),Op.bytesLess x y=true→Op.bytesLess y z=true→Op.bytesLess x z=true
 | _,_,[],_,h=>by cases ‹List UInt8›<;>simp [Op.bytesLess] at h
 | _,[],c::z,h,_=>by cases ‹List UInt8›<;>simp [Op.bytesLess] at h
 | [],b::y,c::z,_,_=>rfl
 | a::x,b::y,c::z,h1,h2=>by
  simp only [Op.bytesLess,Yf,Xw,decide_eq_true_eq,beq_iff_eq] at h1 h2 ⊢
  rcases h1 with h1 | ⟨rfl,h1⟩
  ·rcases h2 with h2 | ⟨rfl,h2⟩
   ·left; rw [YM] at *; omega
   ·exact .inl h1
  ·rcases h2 with h2 | ⟨rfl,h2⟩
   ·exact .inl h2
   ·exact .inr ⟨rfl,y7 x y z h1 h2⟩
theorem AT {x y:ByteArray}(h:x.data.toList=y.data.toList):x=y:=by
 cases x with | mk a=>cases y with | mk b=>cases a; cases b; simp only at h; subst h; rfl
structure Lm {α:Type}(c:α→α→Int):Prop where
 zero:∀x y,c x y=0→x=y
 refl:∀x,c x x=0
 neg:∀x y,c y x = - c x y
 tr:∀x y z,c x y≤0→c y z≤0→c x z≤0
theorem ml:Lm cI:=by
 refine⟨fun x y h=>?_,fun x=>?_,fun x y=>?_,fun x y z h1 h2=>?_⟩
 ·unfold cI at h; split at h
  ·omega
  ·split at h<;>omega
 ·unfold cI; simp
 ·unfold cI; split<;>split<;>(try split)<;>omega
 ·unfold cI at *
  split at h1<;>split at h2<;>(try split at h1)<;>(try split at h2)<;>(try omega)<;>split<;>(try split)<;>omega
theorem y8 (x y:ByteArray):cS x y=if Op.bytesLess x.data.toList y.data.toList=true then -1 else if x=y then 0 else 1:=by
 unfold cS Fa
 cases h:Op.bytesLess x.data.toList y.data.toList with
 | true=>rfl
 | false=>
  simp only [Bool.false_or,XJ,if_false]
  by_cases e:x=y
  ·subst e; simp
  ·rw [if_neg e]
   have:(x.data.toList==y.data.toList)=false:=by
    rw [beq_eq_false_iff_ne]; exact fun h=>e (AT h)
   rw [this]; rfl
theorem Gp:Lm cS:=by
 refine⟨fun x y h=>?_,fun x=>?_,fun x y=>?_,fun x y z h1 h2=>?_⟩
 ·rw [y8] at h
  split at h
  ·omega
  ·split at h
   ·assumption
   ·omega
 ·rw [y8,tS]; simp
 ·rw [y8,y8]
  rcases Gn x.data.toList y.data.toList with h | h | h
  ·have h2:=xw _ _ h
   have hne:¬y=x:=fun e=>by subst e; rw [tS] at h; cases h
   rw [if_pos h,h2]; simp [hne]
  ·have:=AT h
   subst this
   rw [tS]; simp
  ·have h2:=xw _ _ h
   have hne:¬x=y:=fun e=>by subst e; rw [tS] at h; cases h
   rw [if_pos h,h2]; simp [hne]
 ·rw [y8] at h1 h2 ⊢
  split at h1
  ·rename_i g1
   split at h2
   ·rename_i g2
    rw [if_pos (y7 _ _ _ g1 g2)]; omega
   ·split at h2
    ·rename_i e; subst e; rw [if_pos g1]; omega
    ·omega
  ·split at h1
   ·rename_i e; subst e
    split at h2
    ·rename_i g2; rw [if_pos g2]; omega
    ·split at h2
     ·rename_i g e; rw [if_neg g,if_pos e]; omega
     ·omega
   ·omega
theorem Gq {α β:Type}{c:α→α→Int}{d:β→β→Int}(C:Lm c)(D:Lm d):Lm fun (p q:α × β)=>DT (c p.1 q.1) (d p.2 q.2):=by
 refine⟨fun x y h=>?_,fun x=>?_,fun x y=>?_,fun x y z h1 h2=>?_⟩
 ·unfold DT at h
  split at h
  ·rename_i h1; exact Prod.ext (C.zero _ _ h1) (D.zero _ _ h)
  ·exact absurd h ‹_›
 ·unfold DT; rw [C.refl,if_pos rfl,D.refl]
 ·skip
  unfold DT
  have:=C.neg x.1 y.1
  by_cases h:c x.1 y.1=0
  ·rw [if_pos h,if_pos (by omega),D.neg]
  ·rw [if_neg h,if_neg (by omega),C.neg]
 ·skip
  unfold DT at *
  by_cases a:c x.1 y.1=0
  ·rw [if_pos a] at h1
   have e:=C.zero _ _ a
   rw [←e] at h2
   by_cases b:c x.1 z.1=0
   ·rw [if_pos b] at h2 ⊢; exact D.tr _ _ _ h1 h2
   ·rw [if_neg b] at h2 ⊢; exact h2
  ·rw [if_neg a] at h1
   have hz:c x.1 z.1≤0:=by
    by_cases b:c y.1 z.1=0
    ·rw [←C.zero _ _ b]; exact h1
    ·rw [if_neg b] at h2; exact C.tr _ _ _ h1 h2
   have hne:c x.1 z.1≠0:=fun e=>by
    have e1:=C.zero _ _ e
    by_cases b:c y.1 z.1=0
    ·have e2:=C.zero _ _ b; rw [e1,←e2] at a; exact a (C.refl _)
    ·rw [if_neg b,←e1] at h2
     have:=C.neg x.1 y.1; omega
   rw [if_neg hne]; exact hz
theorem Cl:Lm fun (p q:Int × ByteArray)=>DT (cI p.1 q.1) (cS p.2 q.2):=Gq ml Gp
theorem Cn:Lm fun (p q:ByteArray × Int)=>DT (cS p.1 q.1) (cI p.2 q.2):=Gq Gp ml
theorem lj {a b:ab}(h:a.kind=b.kind):cT a b=if a.kind=3 then DT (cI a.args.length b.args.length) (cS a.label b.label) else DT (cS a.label b.label) (cI a.int b.int):=by unfold cT; rw [if_pos h]
theorem jw {a b:ab}(h:a.kind≠b.kind):cT a b=cI a.kind b.kind:=by unfold cT; rw [if_neg h]
theorem iY (a b:ab):cT b a = - cT a b:=by
 by_cases h:a.kind=b.kind
 ·rw [lj h,lj h.symm,←h]
  split
  ·exact Cl.neg ((a.args.length:Int),a.label) ((b.args.length:Int),b.label)
  ·exact Cn.neg (a.label,a.int) (b.label,b.int)
 ·rw [jw h,jw (YK h)]; exact ml.neg _ _
theorem y9 (a b c:ab)(h1:cT a b≤0)(h2:cT b c≤0):cT a c≤0:=by
 by_cases e1:a.kind=b.kind
 ·by_cases e2:b.kind=c.kind
  ·rw [lj e1] at h1
   rw [lj e2,←e1] at h2
   rw [lj (e1.trans e2)]
   split
   ·rename_i h3; rw [if_pos h3] at h1 h2
    exact Cl.tr ((a.args.length:Int),a.label) ((b.args.length:Int),b.label) ((c.args.length:Int),c.label) h1 h2
   ·rename_i h3; rw [if_neg h3] at h1 h2
    exact Cn.tr (a.label,a.int) (b.label,b.int) (c.label,c.int) h1 h2
  ·rw [jw e2] at h2
   rw [jw (by rw [e1]; exact e2),e1]; exact h2
 ·rw [jw e1] at h1
  by_cases e2:b.kind=c.kind
  ·rw [jw (by rw [←e2]; exact e1),←e2]; exact h1
  ·rw [jw e2] at h2
   have n1:cI a.kind b.kind≠0:=fun h=>e1 (ml.zero _ _ h)
   have n2:cI b.kind c.kind≠0:=fun h=>e2 (ml.zero _ _ h)
   by_cases e3:a.kind=c.kind
   ·rw [←e3] at h2
    have:=ml.neg a.kind b.kind
    omega
   ·rw [jw e3]; exact ml.tr _ _ _ h1 h2
structure Alike (a b:ab):Prop where
 kind:a.kind=b.kind
 int:a.int=b.int
 label:a.label=b.label
 len:a.args.length=b.args.length
theorem Alike.refl (a:ab):Alike a a:=⟨rfl,rfl,rfl,rfl⟩
theorem Alike.symm {a b:ab}(h:Alike a b):Alike b a:=⟨h.1.symm,h.2.symm,h.3.symm,h.4.symm⟩
theorem Alike.trans {a b c:ab}(h:Alike a b)(k:Alike b c):Alike a c:=⟨h.1.trans k.1,h.2.trans k.2,h.3.trans k.3,h.4.trans k.4⟩
theorem Alike.cT {a b:ab}(h:Alike a b):cT a b=0:=by
 rw [lj h.kind]
 split
 ·rw [h.len,h.label]; exact Cl.refl ((b.args.length:Int),b.label)
 ·rw [h.label,h.int]; exact Cn.refl (b.label,b.int)
theorem Gr {a b:ab}(h:cT a b=0)(ha:a.kind=3→a.int=0)(hb:b.kind=3→b.int=0)(QY:a.kind≠3→a.args=[])(hb2:b.kind≠3→b.args=[]):Alike a b:=by
 by_cases e:a.kind=b.kind
 ·rw [lj e] at h
  split at h
  ·rename_i h3
   have:=Cl.zero ((a.args.length:Int),a.label) ((b.args.length:Int),b.label) h
   simp only [Xz] at this
   exact⟨e,by rw [ha h3,hb (by rw [←e]; exact h3)],this.2,by omega⟩
  ·rename_i h3
   have:=Cn.zero (a.label,a.int) (b.label,b.int) h
   simp only [Xz] at this
   exact⟨e,this.2,this.1,by rw [QY h3,hb2 (by rw [←e]; exact h3)]⟩
 ·rw [jw e] at h
  exact absurd (ml.zero _ _ h) e
theorem Ln (l:List ab)(s:List Int):Ord (fun x y=>cT (nd l x) (nd l y)) s:=by
 refine⟨fun x _ y _ z _ h1 h2=>?_,fun x _ y _ h=>?_⟩
 ·skip
  have a1:=iY (nd l x) (nd l y)
  have a2:=iY (nd l y) (nd l z)
  have a3:=iY (nd l x) (nd l z)
  have:=y9 (nd l x) (nd l y) (nd l z) (by omega) (by omega)
  omega
 ·skip
  have a1:=iY (nd l x) (nd l y)
  omega
end Go.Proofs.YtmekcfdllhphlaaDoor
namespace Go.Proofs.YtmekcfdllhphlaaDoor
open Go Go.R
open Go.IntKind (i64 u64 u8 u32)
def za:cg:=gK [0,1,5] [] [0,4,4,7] [] []
def bU.l0 (m:Nat)  : Nat→Int→(List Int)→Option (Int × (List Int))
 | 0,_,_=>none
 | k+1,n1,w1=>if (decide (n1≥(128:Int)))=true then ((Fo w1 ([iV .u8 (u8.wrap n1) (128:Int)])).bind fun xU=>bU.l0 m k (fZ .u64 n1 7) xU) else (some ((n1,w1)))
def bU.f (m:Nat)(w0:List Int)(n0:Int):Option ((List Int)):=(bU.l0 m m n0 w0).bind fun bj=>match bj with | (n2,w2)=>(Fo w2 ([u8.wrap n2])).bind fun N4=>some N4
def bU.fin (L:Mem)(bR:Nat)(b5:Nat)(w0:List Int)(n0:Int)(r:(List Int))(s:St):Prop:=∃dt:Nat,aH Tryd.prog (s.open za) Tryd.f54.results.toList=some (.tup [])∧Has s.h ((bR,.ob [.rs dt 0 r.length 1,.int .i64 (0:Int),.int .i8 (0:Int)])::(dt,.row 5 (aw.l r))::L)
def Mi (cf:CallF)(m:Nat):Prop:=∀(w0:List Int) (n0:Int) (r:(List Int)),bU.f m w0 n0=some r→∀h L (bR:Nat) (b5:Nat),Has h ((bR,.ob [.rs b5 0 w0.length 1,.int .i64 (0:Int),.int .i8 (0:Int)])::(b5,.row 5 (aw.l w0))::L)→∀xs,xs.map az=[.ptr bR 0,.int .u64 n0]→∃dt h',cf 54 xs h=some (.tup [],h')∧Has h' ((bR,.ob [.rs dt 0 r.length 1,.int .i64 (0:Int),.int .i8 (0:Int)])::(dt,.row 5 (aw.l r))::L)
section
variable {cf:CallF}{m:Nat}
theorem bU.bI (L:Mem)(bR:Nat)(b5:Nat)(w0:List Int)(n0:Int)  (xy:Nv cf m):bD Tryd.prog cf za m (sub [0,0,0] (codeOf Tryd.f54)) (fun k (σ:Int × (List Int))=>bU.l0 m k σ.1 σ.2) (fun σ s=>match σ with | (n1,w1)=>∃aA h0,s=⟨[.ptr bR 0,.int .u64 n1,.any],[],h0⟩∧Has h0 ((bR,.ob [.rs aA 0 w1.length 1,.int .i64 (0:Int),.int .i8 (0:Int)])::(aA,.row 5 (aw.l w1))::L)) (fun out e s=>(e = .exit 0∧∃n1 w1,(n1,w1)=out∧∃xp aA h0,s=⟨[.ptr bR 0,.int .u64 n1,xp],[],h0⟩∧Has h0 ((bR,.ob [.rs aA 0 w1.length 1,.int .i64 (0:Int),.int .i8 (0:Int)])::(aA,.row 5 (aw.l w1))::L))):=by
 refine gG (fun _=>rfl) ?_
 rintro k ⟨n1,w1⟩ s out ⟨aA,h0,rfl,o0⟩ H
 have H:bU.l0 m (k+1) n1 w1=some out:=H
 refine qq <| qq <| q0 <| qc H (fun c0 H=>?_) (fun c0 H=>?_)
 ·refine qk <| qq <| qb 1 ?_
  obtain⟨xU,e0,H⟩:=aI H
  obtain⟨eS,h1,e1,o1⟩:=sn (bs:=w1) xy o0 e0
  exact qr [.a 6 e1] <| q0 <| ⟨(fZ .u64 n1 7,xU),⟨eS,h1,by kernel_rfl,o1⟩,H⟩
 ·exact qx 0 <| ⟨rfl,n1,w1,oi H,.bool (decide (n1≥(128:Int))),aA,h0,by kernel_rfl,o0⟩
theorem tT {aU:FuncId→cg}(ha:aU 54=za)(xy:Nv cf m)(w0:List Int)(n0:Int)(h:AHeap)(L:Mem)(bR:Nat)(b5:Nat)  (o:Has h ((bR,.ob [.rs b5 0 w0.length 1,.int .i64 (0:Int),.int .i8 (0:Int)])::(b5,.row 5 (aw.l w0))::L)){out:(List Int)}(H:bU.f m w0 n0=some out) :
  ∃r h',bc Tryd.prog aU cf m 54 [.ptr bR 0,.int .u64 n0] h=some (r,h')∧∃dt:Nat,r = .tup []∧Has h' ((bR,.ob [.rs dt 0 out.length 1,.int .i64 (0:Int),.int .i8 (0:Int)])::(dt,.row 5 (aw.l out))::L):=by
 refine aq (fn:=Tryd.f54) ha Tryd.func54 (by kernel_rfl) (by kernel_rfl) ?_
 refine aG (Q:=fun s=>bU.fin L bR b5 w0 n0 out s) (fun _ _ ⟨h1,dt,h2,h3⟩=>⟨h1,_,h2,dt,rfl,h3⟩) ?_
 have H:_=some out:=H
 unfold bU.f at H
 show de _ cf za m _ ⟨[.ptr bR 0,.int .u64 n0,.any],[],h⟩ _
 refine qq <| qb 0 ?_
 obtain⟨bj,e2,H⟩:=aI H
 refine ql (bU.bI L bR b5 w0 n0  xy (n0,w0) _ _ ⟨b5,h,by kernel_rfl,o⟩ e2) ?_
 rintro e s ⟨rfl,n2,w2,rfl,g0,cF,h2,rfl,o2⟩
 try dsimp only at H
 obtain⟨N4,e3,H⟩:=aI H
 obtain⟨fb,h3,e4,o3⟩:=sn (bs:=w2) xy o2 e3
 obtain rfl:=oi H
 exact qr [.a 5 e4] <| ⟨.inr rfl,⟨fb,by kernel_rfl,he o3⟩⟩
end
end Go.Proofs.YtmekcfdllhphlaaDoor
namespace Go.Proofs.YtmekcfdllhphlaaDoor
open Go Go.R
open Go.IntKind (i64 u64 u8 u32)
def Co:cg:=gK [0,2,3,9] [] [14,6,15,13,10,11,13] [] []
def jx.f (m:Nat)(r0:fq):Option (Int × fq):=if ((r0.eH.length:Int)==(0:Int))=true then (some ((0:Int),(fq.mk r0.eH true))) else ((ix r0.eH (0:Int)).bind fun v0=>(pE r0.eH (1:Int) (r0.eH.length:Int)).bind fun v1=>some (v0,(fq.mk v1 r0.bq)))
def jx.fin (L:Mem)(aA:Nat)(r0:fq)(r:Int × fq)(s:St):Prop:=aH Tryd.prog (s.open Co) Tryd.f59.results.toList=some (.int .u8 r.1)∧Has s.h ((aA,.ob [aw.fz r.2.eH,.bool r.2.bq])::L)
def O8 (cf:CallF)(m:Nat):Prop:=∀(r0:fq) (r:Int × fq),jx.f m r0=some r→∀h L (aA:Nat),Has h ((aA,.ob [aw.fz r0.eH,.bool r0.bq])::L)→∀xs,xs.map az=[.ptr aA 0]→∃h',cf 59 xs h=some (.int .u8 r.1,h')∧Has h' ((aA,.ob [aw.fz r.2.eH,.bool r.2.bq])::L)
section
variable {cf:CallF}{m:Nat}
theorem xz {aU:FuncId→cg}(ha:aU 59=Co)  (r0:fq)(h:AHeap)(L:Mem)(aA:Nat)  (o:Has h ((aA,.ob [aw.fz r0.eH,.bool r0.bq])::L)){out:Int × fq}(H:jx.f m r0=some out) :
  ∃r h',bc Tryd.prog aU cf m 59 [.ptr aA 0] h=some (r,h')∧r = .int .u8 out.1∧Has h' ((aA,.ob [aw.fz out.2.eH,.bool out.2.bq])::L):=by
 refine aq (fn:=Tryd.f59) ha Tryd.func59 (by kernel_rfl) (by kernel_rfl) ?_
 refine aG (Q:=fun s=>jx.fin L aA r0 out s) (fun _ _ ⟨h1,h2,h3⟩=>⟨h1,_,h2,rfl,h3⟩) ?_
 have H:_=some out:=H
 unfold jx.f at H
 show de _ cf Co m _ ⟨.ptr aA 0::jP [],[],h⟩ _
 refine q1 <| qq <| qq <| qr [.v 3 (show bl Tryd.prog h 25 (.ptr aA 0)=some (aw.fz r0.eH) from ca (q:=0) (cs:=[aw.fz r0.eH,.bool r0.bq]) o rfl (by kernel_rfl))] <| qc H (fun c0 H=>?_) (fun c0 H=>?_)
 ·refine qq ?_
  obtain⟨h0,e0,o0⟩:=kD (P:=Tryd.prog) (t:=4) (off:=1) (q:=0) (cs:=[aw.fz r0.eH,.bool r0.bq]) (fm:=[aw.fz r0.eH,.bool true]) (x:=.bool true) o rfl (by kernel_rfl)
  obtain rfl:=oi H
  exact qr [.w 3 e0] <| qq <| q0 <| qt <| ⟨.inl rfl,⟨by kernel_rfl,he o0⟩⟩
 ·refine qk <| qq ?_
  obtain⟨v0,e1,H⟩:=aI H
  refine qr [.v 3 (show bl Tryd.prog h 25 (.ptr aA 0)=some (aw.fz r0.eH) from ca (q:=0) (cs:=[aw.fz r0.eH,.bool r0.bq]) o rfl (by kernel_rfl)),.v 4 (bw (k:=.i64) (E:=aw) (l:=r0.eH) Ip e1),.v 5 (cY  (E:=aw) (l:=r0.eH) h A5 e1 rfl)] <| qq ?_
  obtain⟨v1,e2,H⟩:=aI H
  obtain⟨h1,e3,o1⟩:=kD (P:=Tryd.prog) (t:=25) (off:=0) (q:=0) (cs:=[aw.fz r0.eH,.bool r0.bq]) (fm:=[aw.fz v1,.bool r0.bq]) (x:=aw.fz v1) o rfl (by kernel_rfl)
  obtain rfl:=oi H
  exact qr [.v 4 (show bl Tryd.prog h 25 (.ptr aA 0)=some (aw.fz r0.eH) from ca (q:=0) (cs:=[aw.fz r0.eH,.bool r0.bq]) o rfl (by kernel_rfl)),.v 5 (show eZ Tryd.prog 25 (aw.fz r0.eH) (some (.int .i64 (1:Int))) none none=some (aw.fz v1) from wY (E:=aw) Ip e2),.w 8 e3] <| qq <| q0 <| qt <| ⟨.inl rfl,⟨by kernel_rfl,he o1⟩⟩
end
end Go.Proofs.YtmekcfdllhphlaaDoor
namespace Go.Proofs.YtmekcfdllhphlaaDoor
open Go Go.R
open Go.IntKind (i64 u64 u8 u32)
def zb:cg:=gK [0,2,3,4,5,10,24,36] [] [254,250,242,210,242,226,162,251,226,114,253] [] []
def bK.l0 (m:Nat)  : Nat→Int→Int→fq→Option (Int × Int × fq)
 | 0,_,_,_=>none
 | k+1,n0,dm,r1=>if (!r1.bq)=true then ((jx.f m r1).bind fun x0=>if (decide (dm > (56:Int)))=true then (some ((n0,dm,(fq.mk x0.2.eH true)))) else (if (decide (dm > (0:Int)))=true then (if (x0.1==(0:Int))=true then (some ((n0,dm,(fq.mk x0.2.eH true)))) else ((Du .u64 (u64.wrap (gZ .u8 x0.1 (127:Int))) dm).bind fun v0=>if (decide (x0.1<(128:Int)))=true then (some ((iV .u64 n0 v0,dm,x0.2))) else (bK.l0 m k (iV .u64 n0 v0) (i64.wrap (dm+(7:Int))) x0.2))) else ((Du .u64 (u64.wrap (gZ .u8 x0.1 (127:Int))) dm).bind fun v1=>if (decide (x0.1<(128:Int)))=true then (some ((iV .u64 n0 v1,dm,x0.2))) else (bK.l0 m k (iV .u64 n0 v1) (i64.wrap (dm+(7:Int))) x0.2)))) else (some ((n0,dm,r1)))
def bK.f (m:Nat)(r0:fq):Option (Int × fq):=(bK.l0 m m (0:Int) (0:Int) r0).bind fun bj=>match bj with | (n1,Lp,r2)=>some (i64.wrap n1,r2)
def bK.fin (L:Mem)(aA:Nat)(r0:fq)(r:Int × fq)(s:St):Prop:=aH Tryd.prog (s.open zb) Tryd.f43.results.toList=some (.int .i64 r.1)∧Has s.h ((aA,.ob [aw.fz r.2.eH,.bool r.2.bq])::L)
def Lq (cf:CallF)(m:Nat):Prop:=∀(r0:fq) (r:Int × fq),bK.f m r0=some r→∀h L (aA:Nat),Has h ((aA,.ob [aw.fz r0.eH,.bool r0.bq])::L)→∀xs,xs.map az=[.ptr aA 0]→∃h',cf 43 xs h=some (.int .i64 r.1,h')∧Has h' ((aA,.ob [aw.fz r.2.eH,.bool r.2.bq])::L)
section
variable {cf:CallF}{m:Nat}
theorem bK.bI (L:Mem)(aA:Nat)(r0:fq)  (Gs:O8 cf m):bD Tryd.prog cf zb m (sub [1,1,0,1,0,0] (codeOf Tryd.f43)) (fun k (σ:Int × Int × fq)=>bK.l0 m k σ.1 σ.2.1 σ.2.2) (fun σ s=>match σ with | (n0,dm,r1)=>∃h0,s=⟨.ptr aA 0 :: .any :: .int .u64 n0 :: .int .i64 dm::q9 [],[],h0⟩∧Has h0 ((aA,.ob [aw.fz r1.eH,.bool r1.bq])::L)) (fun out e s=>(e = .exit 0∧∃n0 dm r1,(n0,dm,r1)=out∧∃kG DO qd QZ h0,s=⟨[kG,.any,.int .u64 n0,DO,.any,qd,.any,QZ],[],h0⟩∧Has h0 ((aA,.ob [aw.fz r1.eH,.bool r1.bq])::L))):=by
 refine gG (fun _=>rfl) ?_
 rintro k ⟨n0,dm,r1⟩ s out ⟨h0,rfl,o0⟩ H
 have H:bK.l0 m (k+1) n0 dm r1=some out:=H
 refine qq <| qq <| qr [.v 3 (show bl Tryd.prog h0 4 (.ptr aA 1)=some (.bool r1.bq) from ca (q:=0) (cs:=[aw.fz r1.eH,.bool r1.bq]) o0 rfl (by kernel_rfl))] <| qc H (fun c0 H=>?_) (fun c0 H=>?_)
 ·refine qk <| qq <| qb 1 <| qq ?_
  obtain⟨x0,e0,H⟩:=aI H
  obtain⟨h1,e1,o1⟩:=Gs _ _ e0 h0 _ _ (o0)  [.ptr aA 0] (an (rfl) (bo))
  refine qr [.a 1 e1] <| qq <| qq ?_
  rcases dJ H with⟨c1,H⟩| ⟨c1,H⟩
  ·refine qr [.b 2 c1] <| xc <| qq ?_
   obtain⟨h2,e2,o2⟩:=kD (P:=Tryd.prog) (t:=4) (off:=1) (q:=0) (cs:=[aw.fz x0.2.eH,.bool x0.2.bq]) (fm:=[aw.fz x0.2.eH,.bool true]) (x:=.bool true) o1 rfl (by kernel_rfl)
   exact qr [.w 3 e2] <| qx 0 <| ⟨rfl,n0,dm,(fq.mk x0.2.eH true),oi H,.any,.any,.any,.any,h2,by kernel_rfl,o2⟩
  ·rcases dJ H with⟨c3,H⟩| ⟨c3,H⟩
   ·refine qr [.b 2 c1,.b 5 c3] <| qc H (fun c4 H=>?_) (fun c4 H=>?_)
    ·refine qq ?_
     obtain⟨h3,e3,o3⟩:=kD (P:=Tryd.prog) (t:=4) (off:=1) (q:=0) (cs:=[aw.fz x0.2.eH,.bool x0.2.bq]) (fm:=[aw.fz x0.2.eH,.bool true]) (x:=.bool true) o1 rfl (by kernel_rfl)
     exact qr [.w 3 e3] <| qx 0 <| ⟨rfl,n0,dm,(fq.mk x0.2.eH true),oi H,.any,.any,.any,.any,h3,by kernel_rfl,o3⟩
    ·refine qk <| qq ?_
     obtain⟨v0,e4,H⟩:=aI H
     refine qr [.v 5 (show lL Tryd.prog .shl 40 (.int .u64 (u64.wrap (gZ .u8 x0.1 (127:Int)))) (.int .i64 dm)=some (.int .u64 v0) from Fg e4)] <| qq <| q0 <| qc H (fun c5 H=>?_) (fun c5 H=>?_)
     ·exact qx 0 <| ⟨rfl,iV .u64 n0 v0,dm,x0.2,oi H,.ptr aA 0,.int .i64 dm,.any,.bool (decide (x0.1<(128:Int))),h1,by kernel_rfl,o1⟩
     ·exact qk <| q0 <| ⟨(iV .u64 n0 v0,i64.wrap (dm+(7:Int)),x0.2),⟨h1,by kernel_rfl,o1⟩,H⟩
   ·refine qr [.b 2 c1,.b 5 c3] <| DB <| qk <| qq ?_
    obtain⟨v1,e5,H⟩:=aI H
    refine qr [.v 5 (show lL Tryd.prog .shl 40 (.int .u64 (u64.wrap (gZ .u8 x0.1 (127:Int)))) (.int .i64 dm)=some (.int .u64 v1) from Fg e5)] <| qq <| q0 <| qc H (fun c7 H=>?_) (fun c7 H=>?_)
    ·exact qx 0 <| ⟨rfl,iV .u64 n0 v1,dm,x0.2,oi H,.ptr aA 0,.int .i64 dm,.any,.bool (decide (x0.1<(128:Int))),h1,by kernel_rfl,o1⟩
    ·exact qk <| q0 <| ⟨(iV .u64 n0 v1,i64.wrap (dm+(7:Int)),x0.2),⟨h1,by kernel_rfl,o1⟩,H⟩
 ·exact qx 0 <| ⟨rfl,n0,dm,r1,oi H,.ptr aA 0,.int .i64 dm,.bool (!r1.bq),.any,h0,by kernel_rfl,o0⟩
theorem tU {aU:FuncId→cg}(ha:aU 43=zb)(Gs:O8 cf m)(r0:fq)(h:AHeap)(L:Mem)(aA:Nat)  (o:Has h ((aA,.ob [aw.fz r0.eH,.bool r0.bq])::L)){out:Int × fq}(H:bK.f m r0=some out) :
  ∃r h',bc Tryd.prog aU cf m 43 [.ptr aA 0] h=some (r,h')∧r = .int .i64 out.1∧Has h' ((aA,.ob [aw.fz out.2.eH,.bool out.2.bq])::L):=by
 refine aq (fn:=Tryd.f43) ha Tryd.func43 (by kernel_rfl) (by kernel_rfl) ?_
 refine aG (Q:=fun s=>bK.fin L aA r0 out s) (fun _ _ ⟨h1,h2,h3⟩=>⟨h1,_,h2,rfl,h3⟩) ?_
 have H:_=some out:=H
 unfold bK.f at H
 show de _ cf zb m _ ⟨.ptr aA 0::Ee [],[],h⟩ _
 refine q1 <| qq <| q0 <| qq <| qq <| q0 <| qb 0 ?_
 obtain⟨bj,e6,H⟩:=aI H
 refine ql (bK.bI L aA r0  Gs ((0:Int),(0:Int),r0) _ _ ⟨h,by kernel_rfl,o⟩ e6) ?_
 rintro e s ⟨rfl,n1,Lp,r2,rfl,g0,g1,g2,g3,h4,rfl,o4⟩
 try dsimp only at H
 obtain rfl:=oi H
 exact q1 <| qt <| ⟨.inl rfl,⟨by kernel_rfl,he o4⟩⟩
end
end Go.Proofs.YtmekcfdllhphlaaDoor
namespace Go.Proofs.YtmekcfdllhphlaaDoor
open Go Go.R
open Go.IntKind (i64 u64 u8 u32)
theorem mo {bs news:List Int}(h:bs≠[])(hn:news≠[])(hl:bs.length+news.length≤140737488355328):Fo bs news=some (bs++news):=by
 unfold Fo wB
 rw [if_neg h,if_pos ⟨hl,hn⟩]
theorem IA (n:Nat):dI n≠[]:=by
 by_cases h:n<128
 ·rw [k7 h]; simp
 ·rw [oM h]; simp
theorem Gt (m:Nat):∀(k n:Nat) (w:List Int) (f:Nat),k<f→n<128 ^ (k+1)→n<2 ^ 64→w≠[]→w.length+k≤140737488355328→
  ∃(x:Nat) (pre:List Int),x<128∧bU.l0 m f (n:Int) w=some ((x:Int),w++pre)∧pre++[(x:Int)]=dI n∧pre.length≤k
 | _,_,_,0,hf,_,_,_,_=>absurd hf (by omega)
 | k,n,w,f+1,hf,hk,hn,hw,hl=>by
  by_cases h:n<128
  ·refine⟨n,[],h,?_,by rw [k7 h]; rfl,Y4 _⟩
   unfold bU.l0
   rw [if_neg (by simp; omega),Yr]
  ·cases k with
   | zero=>simp at hk; omega
   | succ k=>
    have hd:n / 128<128 ^ (k+1):=by
     rw [Nat.div_lt_iff_lt_mul (by omega)]
     calc n<128 ^ (k+1+1):=hk
      _=_:=by rw [Nat.pow_succ]
    obtain⟨x,pre,h1,h2,h3,h4⟩:=Gt m k (n / 128) (w++[((n % 128+128:Nat):Int)]) f (by omega) hd (by omega) (by simp) (by simp; omega)
    refine⟨x,((n % 128+128:Nat):Int)::pre,h1,?_,by rw [oM h,XU,h3],by simp; omega⟩
    unfold bU.l0
    rw [if_pos (by simp; omega),mF,Nl,mo hw (by simp) (by simp; omega),Xr,Ql,h2,XF]
    rfl
theorem zc {m n:Nat}{w:List Int}(hm:11≤m)(hn:n<2 ^ 64)(hw:w≠[])(hl:w.length+20≤140737488355328):bU.f m w (n:Int)=some (w++dI n):=by
 obtain⟨x,pre,h1,h2,h3,h4⟩:=Gt m 10 n w m (by omega) (by omega) hn hw (by omega)
 unfold bU.f
 rw [h2,Xr]
 simp only
 rw [mF,show ((x:Int) % 256)=(x:Int) by omega,mo (by simp [hw]) (by simp) (by simp; omega),Xr,XF,←h3]
theorem vM {m:Nat}{c:Int}{l:List Int}{bad:Bool}:jx.f m ⟨c::l,bad⟩=some (c,⟨l,bad⟩):=by
 unfold jx.f
 rw [if_neg (by simp; omega)]
 have h1:ix (c::l) 0=some c:=rfl
 have h2:pE (c::l) 1 ((c::l).length:Int)=some l:=by
  unfold pE
  rw [if_pos ⟨by omega,by simp; omega,Int.le_refl _⟩]
  simp
 simp only [h1,h2,Xr]
theorem Gu (m:Nat):∀(k f:Nat),k<f→∀(n a j:Nat) (rest:List Int),n<128 ^ (k+1)→a<2 ^ (7*j)→a+n*2 ^ (7*j)<2 ^ 63→(j=0∨1≤n)→
  ∃s':Int,bK.l0 m f (a:Int) ((7*j:Nat):Int) ⟨dI n++rest,false⟩=some (((a+n*2 ^ (7*j):Nat):Int),s',⟨rest,false⟩)
 | k,0,hf,_,_,_,_,_,_,_,_=>absurd hf (by omega)
 | k,f+1,hf,n,a,j,rest,hk,ha,hn,h0=>by
  have hs:7*j≤56:=by
   rcases h0 with h0 | h0
   ·omega
   ·have:7*j≤62:=by
     apply Nat.le_of_not_lt
     intro h
     have h1:2 ^ 63≤2 ^ (7*j):=Nat.pow_le_pow_right (by omega) (by omega)
     have h2:1*2 ^ (7*j)≤n*2 ^ (7*j):=Yj _ h0
     omega
    omega
  by_cases h:n<128
  ·rw [k7 h]
   obtain⟨g1,g2⟩:=Fu a n (7*j) ha hs (by omega) h
   have g3:gZ .u8 (n:Int) 127=(n:Int):=by rw [Ft n (by omega)]; omega
   refine⟨((7*j:Nat):Int),?_⟩
   unfold bK.l0
   rw [if_pos (show (!false)=true from rfl),List.singleton_append,vM,Xr,if_neg (by simp; omega)]
   dsimp only
   rw [g3,g1,Xr]
   rw [if_pos (show decide ((n:Int)<128)=true by simp; omega),g2]
   by_cases hj:j=0
   ·rw [if_neg (by simp; omega)]
   ·rw [if_pos (by simp; omega),if_neg (by simp; omega)]
  ·rw [oM h]
   cases k with
   | zero=>simp at hk; omega
   | succ k=>
    have hd:n / 128<128 ^ (k+1):=by
     rw [Nat.div_lt_iff_lt_mul (by omega)]
     calc n<128 ^ (k+1+1):=hk
      _=_:=by rw [Nat.pow_succ]
    have hp:2 ^ (7*(j+1))=128*2 ^ (7*j):=by rw [show 7*(j+1)=7+7*j by omega,Nat.pow_add]
    have Kh:a+n % 128*2 ^ (7*j)+n / 128*2 ^ (7*(j+1))=a+n*2 ^ (7*j):=by
     rw [hp,←Nat.mul_assoc,Ye,←YC]
     congr 2
     omega
    have QY:a+n % 128*2 ^ (7*j)<2 ^ (7*(j+1)):=by
     rw [hp]
     have:n % 128*2 ^ (7*j)≤127*2 ^ (7*j):=Yj _ (by omega)
     omega
    obtain⟨g1,g2⟩:=Fu a (n % 128) (7*j) ha hs (by have:=Y4 (n / 128*2 ^ (7*(j+1))); omega) (Nat.mod_lt _ (by omega))
    have g3:gZ .u8 ((n % 128+128:Nat):Int) 127=((n % 128:Nat):Int):=by
     rw [Ft _ (by omega)]; omega
    obtain⟨s',ih⟩:=Gu m k f (by omega) (n / 128) (a+n % 128*2 ^ (7*j)) (j+1) rest hd QY (by omega) (.inr (by omega))
    rw [Kh] at ih
    refine⟨s',?_⟩
    unfold bK.l0
    rw [if_pos (show (!false)=true from rfl),XU,vM,Xr,if_neg (by simp; omega)]
    dsimp only
    rw [g3,g1,Xr,g2]
    have g4:i64.wrap (((7*j:Nat):Int)+7)=((7*(j+1):Nat):Int):=by rw [aD (by omega) (by omega)]; omega
    rw [if_neg (show ¬decide (((n % 128+128:Nat):Int)<128)=true by simp; omega),g4,ih]
    by_cases hj:j=0
    ·rw [if_neg (by simp; omega)]
    ·rw [if_pos (by simp; omega),if_neg (by simp; omega)]
theorem AU {m n:Nat}{rest:List Int}(hm:11≤m)(hn:n<2 ^ 63):bK.f m ⟨dI n++rest,false⟩=some ((n:Int),⟨rest,false⟩):=by
 obtain⟨s',h⟩:=Gu m 10 m (by omega) n 0 0 rest (by omega) (by omega) (by omega) (.inl rfl)
 unfold bK.f
 have h:bK.l0 m m (0:Int) (0:Int) ⟨dI n++rest,false⟩=some (((0+n*2 ^ (7*0):Nat):Int),s',⟨rest,false⟩):=h
 rw [h,Xr]
 simp only
 rw [aD (by omega) (by omega)]
 simp
end Go.Proofs.YtmekcfdllhphlaaDoor
namespace Go.Proofs.YtmekcfdllhphlaaDoor
open Go Go.R
open Go.IntKind (i64 u64 u8 u32)
def Cp:cg:=gK [0,1] [] [0,3] [] []
def jy.f (m:Nat)(w0:List Int)(s0:ByteArray):Option ((List Int)):=(bU.f m w0 (u64.wrap (s0.size:Int))).bind fun x0=>(Fo x0 (eP s0)).bind fun xU=>some xU
def jy.fin (L:Mem)(bR:Nat)(b5:Nat)(w0:List Int)(s0:ByteArray)(r:(List Int))(s:St):Prop:=∃dt:Nat,aH Tryd.prog (s.open Cp) Tryd.f74.results.toList=some (.tup [])∧Has s.h ((bR,.ob [.rs dt 0 r.length 1,.int .i64 (0:Int),.int .i8 (0:Int)])::(dt,.row 5 (aw.l r))::L)
def TE (cf:CallF)(m:Nat):Prop:=∀(w0:List Int) (s0:ByteArray) (r:(List Int)),jy.f m w0 s0=some r→∀h L (bR:Nat) (b5:Nat),Has h ((bR,.ob [.rs b5 0 w0.length 1,.int .i64 (0:Int),.int .i8 (0:Int)])::(b5,.row 5 (aw.l w0))::L)→∀xs,xs.map az=[.ptr bR 0,.str s0]→∃dt h',cf 74 xs h=some (.tup [],h')∧Has h' ((bR,.ob [.rs dt 0 r.length 1,.int .i64 (0:Int),.int .i8 (0:Int)])::(dt,.row 5 (aw.l r))::L)
section
variable {cf:CallF}{m:Nat}
theorem xA {aU:FuncId→cg}(ha:aU 74=Cp)(pd:Mi cf m)(N6:Nw cf m)(w0:List Int)(s0:ByteArray)(h:AHeap)(L:Mem)(bR:Nat)(b5:Nat)  (o:Has h ((bR,.ob [.rs b5 0 w0.length 1,.int .i64 (0:Int),.int .i8 (0:Int)])::(b5,.row 5 (aw.l w0))::L)){out:(List Int)}(H:jy.f m w0 s0=some out) :
  ∃r h',bc Tryd.prog aU cf m 74 [.ptr bR 0,.str s0] h=some (r,h')∧∃dt:Nat,r = .tup []∧Has h' ((bR,.ob [.rs dt 0 out.length 1,.int .i64 (0:Int),.int .i8 (0:Int)])::(dt,.row 5 (aw.l out))::L):=by
 refine aq (fn:=Tryd.f74) ha Tryd.func74 (by kernel_rfl) (by kernel_rfl) ?_
 refine aG (Q:=fun s=>jy.fin L bR b5 w0 s0 out s) (fun _ _ ⟨h1,dt,h2,h3⟩=>⟨h1,_,h2,dt,rfl,h3⟩) ?_
 have H:_=some out:=H
 unfold jy.f at H
 show de _ cf Cp m _ ⟨[.ptr bR 0,.str s0],[],h⟩ _
 refine qq ?_
 obtain⟨x0,e0,H⟩:=aI H
 obtain⟨aA,h0,e1,o0⟩:=pd _ _ _ e0 h _ _ _ (o)  [.ptr bR 0,.int .u64 (u64.wrap (s0.size:Int))] (an (rfl) (an (aP (bE)) (bo)))
 refine qr [.a 4 e1] ?_
 obtain⟨xU,e2,H⟩:=aI H
 obtain⟨eS,h1,e3,o1⟩:=Ii (bs:=x0) N6 o0 e2
 obtain rfl:=oi H
 exact qr [.a 4 e3] <| ⟨.inr rfl,⟨eS,by kernel_rfl,he o1⟩⟩
end
end Go.Proofs.YtmekcfdllhphlaaDoor
namespace Go.Proofs.YtmekcfdllhphlaaDoor
open Go Go.R
open Go.IntKind (i64 u64 u8 u32)
def zd:cg:=gK [0,1,3,5,14,15,22,26,41,47,60,61,62,63] [3] [16378,16378,16362,16330,16383,16298,16250,16383,16383,16106,16383,15866,16378,16378,9214,1022,9206,9214,9214] [] []
def dU.l0 (m:Nat)(n0:ab):Nat→Int→(List Int)→Option (Int × (List Int))
 | 0,_,_=>none
 | k+1,x6,w1=>if (decide (x6<(n0.args.length:Int)))=true then ((ix n0.args x6).bind fun v0=>(bU.f m w1 (u64.wrap v0)).bind fun x7=>dU.l0 m n0 k (i64.wrap (x6+(1:Int))) x7) else (some ((x6,w1)))
def dU.f (m:Nat)(w0:List Int)(n0:ab):Option ((List Int)):=(Fo w0 ([u8.wrap n0.kind])).bind fun xU=>if (n0.kind==(0:Int))=true then ((bU.f m xU (u64.wrap n0.int)).bind fun x0=>some x0) else (if (n0.kind==(1:Int))=true then (if (decide (n0.int<(0:Int)))=true then ((bU.f m xU (u64.wrap (u64.wrap (u64.wrap (i64.wrap (0 - n0.int))*(2:Int)) - (1:Int)))).bind fun x1=>some x1) else ((bU.f m xU (u64.wrap (u64.wrap n0.int*(2:Int)))).bind fun x2=>some x2)) else (if (n0.kind==(2:Int))=true then ((jy.f m xU n0.label).bind fun x3=>some x3) else (if (n0.kind==(3:Int))=true then ((jy.f m xU n0.label).bind fun x4=>(bU.f m x4 (u64.wrap (n0.args.length:Int))).bind fun x5=>(dU.l0 m n0 m (0:Int) x5).bind fun bj=>match bj with | (x8,w2)=>some w2) else (some xU))))
def dU.fin (L:Mem)(bR:Nat)(b5:Nat)(w0:List Int)(n0:ab)(r:(List Int))(s:St):Prop:=∃dt:Nat,aH Tryd.prog (s.open zd) Tryd.f55.results.toList=some (.tup [])∧Has s.h ((bR,.ob [.rs dt 0 r.length 1,.int .i64 (0:Int),.int .i8 (0:Int)])::(dt,.row 5 (aw.l r))::L)
def O9 (cf:CallF)(m:Nat):Prop:=∀(w0:List Int) (n0:ab) (r:(List Int)),dU.f m w0 n0=some r→∀h L (bR:Nat) (b5:Nat),Has h ((bR,.ob [.rs b5 0 w0.length 1,.int .i64 (0:Int),.int .i8 (0:Int)])::(b5,.row 5 (aw.l w0))::L)→∀xs,xs.map az=[.ptr bR 0,.agg [.int .i64 n0.kind,.int .i64 n0.int,.str n0.label,aa.fz n0.args]]→∃dt h',cf 55 xs h=some (.tup [],h')∧Has h' ((bR,.ob [.rs dt 0 r.length 1,.int .i64 (0:Int),.int .i8 (0:Int)])::(dt,.row 5 (aw.l r))::L)
section
variable {cf:CallF}{m:Nat}
theorem dU.bI (L:Mem)(bR:Nat)(b5:Nat)(w0:List Int)(n0:ab)  (pd:Mi cf m):bD Tryd.prog cf zd m (sub [1,1,1,0,1,1,1,1,1,1,1,0,1,1,1,0,0] (codeOf Tryd.f55)) (fun k (σ:Int × (List Int))=>dU.l0 m n0 k σ.1 σ.2) (fun σ s=>match σ with | (x6,w1)=>∃il h7,s=⟨.ptr bR 0::BR [aa.fz n0.args,.int .i64 (n0.args.length:Int),.int .i64 x6,.any],[none],h7⟩∧Has h7 ((bR,.ob [.rs il 0 w1.length 1,.int .i64 (0:Int),.int .i8 (0:Int)])::(il,.row 5 (aw.l w1))::L)) (fun out e s=>(e = .exit 1∧∃x6 w1,(x6,w1)=out∧∃kG Q0 Q5 Q6 Q7 il h7,s=⟨kG::BR [Q0,Q5,Q6,Q7],[none],h7⟩∧Has h7 ((bR,.ob [.rs il 0 w1.length 1,.int .i64 (0:Int),.int .i8 (0:Int)])::(il,.row 5 (aw.l w1))::L))):=by
 refine gG (fun _=>rfl) ?_
 rintro k ⟨x6,w1⟩ s out ⟨il,h7,rfl,o7⟩ H
 have H:dU.l0 m n0 (k+1) x6 w1=some out:=H
 refine q1 <| qq <| qc H (fun c5 H=>?_) (fun c5 H=>?_)
 ·refine qk <| qq <| qb 2 <| qq ?_
  obtain⟨v0,tJ,H⟩:=aI H
  refine qr [.v 0 (bw (k:=.i64) (E:=aa) (l:=n0.args) dz tJ),.v 1 (cY  (E:=aa) (l:=n0.args) h7 A3 tJ rfl)] ?_
  obtain⟨x7,rN,H⟩:=aI H
  obtain⟨kL,h8,vJ,o8⟩:=pd _ _ _ rN h7 _ _ _ (o7)  [.ptr bR 0,.int .u64 (u64.wrap v0)] (an (rfl) (an (aP (bE)) (bo)))
  exact qr [.a 3 vJ] <| q0 <| ⟨(i64.wrap (x6+(1:Int)),x7),⟨kL,h8,by kernel_rfl,o8⟩,H⟩
 ·exact qx 1 <| ⟨rfl,x6,w1,oi H,.ptr bR 0,aa.fz n0.args,.int .i64 (n0.args.length:Int),.int .i64 x6,.bool (decide (x6<(n0.args.length:Int))),il,h7,by kernel_rfl,o7⟩
theorem xB {aU:FuncId→cg}(ha:aU 55=zd)(xy:Nv cf m)(pd:Mi cf m)(N7:TE cf m)(w0:List Int)(n0:ab)(h:AHeap)(L:Mem)(bR:Nat)(b5:Nat)  (o:Has h ((bR,.ob [.rs b5 0 w0.length 1,.int .i64 (0:Int),.int .i8 (0:Int)])::(b5,.row 5 (aw.l w0))::L)){out:(List Int)}(H:dU.f m w0 n0=some out) :
  ∃r h',bc Tryd.prog aU cf m 55 [.ptr bR 0,.agg [.int .i64 n0.kind,.int .i64 n0.int,.str n0.label,aa.fz n0.args]] h=some (r,h')∧∃dt:Nat,r = .tup []∧Has h' ((bR,.ob [.rs dt 0 out.length 1,.int .i64 (0:Int),.int .i8 (0:Int)])::(dt,.row 5 (aw.l out))::L):=by
 refine aq (fn:=Tryd.f55) ha Tryd.func55 (by kernel_rfl) (by kernel_rfl) ?_
 refine aG (Q:=fun s=>dU.fin L bR b5 w0 n0 out s) (fun _ _ ⟨h1,dt,h2,h3⟩=>⟨h1,_,h2,dt,rfl,h3⟩) ?_
 have H:_=some out:=H
 unfold dU.f at H
 show de _ cf zd m _ ⟨.ptr bR 0 :: .agg [.int .i64 n0.kind,.int .i64 n0.int,.str n0.label,aa.fz n0.args]::mK [],[none],h⟩ _
 refine q1 <| qq ?_
 obtain⟨xU,e0,H⟩:=aI H
 obtain⟨aA,h0,e1,o0⟩:=sn (bs:=w0) xy o e0
 refine qr [.a 6 e1] <| qq <| q0 <| qb 0 <| qq <| q0 <| qc H (fun c0 H=>?_) (fun c0 H=>?_)
 ·obtain⟨x0,e2,H⟩:=aI H
  obtain⟨eS,h1,e3,o1⟩:=pd _ _ _ e2 h0 _ _ _ (o0)  [.ptr bR 0,.int .u64 (u64.wrap n0.int)] (an (rfl) (an (aP (bE)) (bo)))
  obtain rfl:=oi H
  exact qr [.a 4 e3] <| ⟨.inr rfl,⟨eS,by kernel_rfl,he o1⟩⟩
 ·refine q1 <| qc H (fun c1 H=>?_) (fun c1 H=>?_)
  ·refine q1 <| qc H (fun c2 H=>?_) (fun c2 H=>?_)
   ·obtain⟨x1,e4,H⟩:=aI H
    obtain⟨cF,h2,e5,o2⟩:=pd _ _ _ e4 h0 _ _ _ (o0)  [.ptr bR 0,.int .u64 (u64.wrap (u64.wrap (u64.wrap (i64.wrap (0 - n0.int))*(2:Int)) - (1:Int)))] (an (rfl) (an (aP (bE)) (bo)))
    obtain rfl:=oi H
    exact qr [.a 7 e5] <| ⟨.inr rfl,⟨cF,by kernel_rfl,he o2⟩⟩
   ·obtain⟨x2,e6,H⟩:=aI H
    obtain⟨fb,h3,e7,o3⟩:=pd _ _ _ e6 h0 _ _ _ (o0)  [.ptr bR 0,.int .u64 (u64.wrap (u64.wrap n0.int*(2:Int)))] (an (rfl) (an (aP (bE)) (bo)))
    obtain rfl:=oi H
    exact qr [.a 5 e7] <| ⟨.inr rfl,⟨fb,by kernel_rfl,he o3⟩⟩
  ·refine q1 <| qc H (fun c3 H=>?_) (fun c3 H=>?_)
   ·obtain⟨x3,e8,H⟩:=aI H
    obtain⟨fS,h4,e9,o4⟩:=N7 _ _ _ e8 h0 _ _ _ (o0)  [.ptr bR 0,.str n0.label] (an (rfl) (an (aP (w7)) (bo)))
    obtain rfl:=oi H
    exact qr [.a 3 e9] <| ⟨.inr rfl,⟨fS,by kernel_rfl,he o4⟩⟩
   ·refine q1 <| qc H (fun c4 H=>?_) (fun c4 H=>?_)
    ·refine qq ?_
     obtain⟨x4,nJ,H⟩:=aI H
     obtain⟨gP,h5,qn,o5⟩:=N7 _ _ _ nJ h0 _ _ _ (o0)  [.ptr bR 0,.str n0.label] (an (rfl) (an (aP (w7)) (bo)))
     refine qr [.a 3 qn] <| qq ?_
     obtain⟨x5,rL,H⟩:=aI H
     obtain⟨gQ,h6,rM,o6⟩:=pd _ _ _ rL h5 _ _ _ (o5)  [.ptr bR 0,.int .u64 (u64.wrap (n0.args.length:Int))] (an (rfl) (an (aP (bE)) (bo)))
     refine qr [.a 5 rM] <| qq <| q0 <| qb 1 ?_
     obtain⟨bj,uS,H⟩:=aI H
     refine ql (dU.bI L bR b5 w0 n0  pd ((0:Int),x5) _ _ ⟨gQ,h6,by kernel_rfl,o6⟩ uS) ?_
     rintro e s ⟨rfl,x8,w2,rfl,g0,g1,g2,g3,g4,xT,h9,rfl,o9⟩
     try dsimp only at H
     obtain rfl:=oi H
     exact⟨.inr rfl,⟨xT,by kernel_rfl,he o9⟩⟩
    ·obtain rfl:=oi H
     exact qk <| ⟨.inr rfl,⟨aA,by kernel_rfl,he o0⟩⟩
end
end Go.Proofs.YtmekcfdllhphlaaDoor
namespace Go.Proofs.YtmekcfdllhphlaaDoor
open Go Go.R
open Go.IntKind (i64 u64 u8 u32)
def Cq:cg:=gK [0,2,3,4,19] [] [30,26,10,31,29,18,23,29] [] []
def jz.f (m:Nat)(r0:fq):Option (ByteArray × fq):=(bK.f m r0).bind fun x0=>if x0.2.bq=true then (some ((XV #[]),(fq.mk x0.2.eH true))) else (if (decide (x0.1 > (x0.2.eH.length:Int)))=true then (some ((XV #[]),(fq.mk x0.2.eH true))) else ((pE x0.2.eH (0:Int) x0.1).bind fun v0=>(pE x0.2.eH x0.1 (x0.2.eH.length:Int)).bind fun v1=>some (eO v0,(fq.mk v1 x0.2.bq))))
def jz.fin (L:Mem)(aA:Nat)(r0:fq)(r:ByteArray × fq)(s:St):Prop:=aH Tryd.prog (s.open Cq) Tryd.f60.results.toList=some (.str r.1)∧Has s.h ((aA,.ob [aw.fz r.2.eH,.bool r.2.bq])::L)
def TF (cf:CallF)(m:Nat):Prop:=∀(r0:fq) (r:ByteArray × fq),jz.f m r0=some r→∀h L (aA:Nat),Has h ((aA,.ob [aw.fz r0.eH,.bool r0.bq])::L)→∀xs,xs.map az=[.ptr aA 0]→∃h',cf 60 xs h=some (.str r.1,h')∧Has h' ((aA,.ob [aw.fz r.2.eH,.bool r.2.bq])::L)
section
variable {cf:CallF}{m:Nat}
theorem xC {aU:FuncId→cg}(ha:aU 60=Cq)(mQ:Lq cf m)(r0:fq)(h:AHeap)(L:Mem)(aA:Nat)  (o:Has h ((aA,.ob [aw.fz r0.eH,.bool r0.bq])::L)){out:ByteArray × fq}(H:jz.f m r0=some out) :
  ∃r h',bc Tryd.prog aU cf m 60 [.ptr aA 0] h=some (r,h')∧r = .str out.1∧Has h' ((aA,.ob [aw.fz out.2.eH,.bool out.2.bq])::L):=by
 refine aq (fn:=Tryd.f60) ha Tryd.func60 (by kernel_rfl) (by kernel_rfl) ?_
 refine aG (Q:=fun s=>jz.fin L aA r0 out s) (fun _ _ ⟨h1,h2,h3⟩=>⟨h1,_,h2,rfl,h3⟩) ?_
 have H:_=some out:=H
 unfold jz.f at H
 show de _ cf Cq m _ ⟨.ptr aA 0::q9 [],[],h⟩ _
 refine q1 <| qq ?_
 obtain⟨x0,e0,H⟩:=aI H
 obtain⟨h0,e1,o0⟩:=mQ _ _ e0 h _ _ (o)  [.ptr aA 0] (an (rfl) (bo))
 refine qr [.a 1 e1] <| qq <| qq ?_
 rcases dJ H with⟨c0,H⟩| ⟨c0,H⟩
 ·refine qr [.v 3 (show bl Tryd.prog h0 4 (.ptr aA 1)=some (.bool x0.2.bq) from ca (q:=0) (cs:=[aw.fz x0.2.eH,.bool x0.2.bq]) o0 rfl (by kernel_rfl)),.b 4 c0] <| xc <| qq ?_
  obtain⟨h1,e2,o1⟩:=kD (P:=Tryd.prog) (t:=4) (off:=1) (q:=0) (cs:=[aw.fz x0.2.eH,.bool x0.2.bq]) (fm:=[aw.fz x0.2.eH,.bool true]) (x:=.bool true) o0 rfl (by kernel_rfl)
  obtain rfl:=oi H
  exact qr [.w 3 e2] <| qq <| q0 <| qt <| ⟨.inl rfl,⟨by kernel_rfl,he o1⟩⟩
 ·refine qr [.v 3 (show bl Tryd.prog h0 4 (.ptr aA 1)=some (.bool x0.2.bq) from ca (q:=0) (cs:=[aw.fz x0.2.eH,.bool x0.2.bq]) o0 rfl (by kernel_rfl)),.b 4 c0,.v 9 (show bl Tryd.prog h0 25 (.ptr aA 0)=some (aw.fz x0.2.eH) from ca (q:=0) (cs:=[aw.fz x0.2.eH,.bool x0.2.bq]) o0 rfl (by kernel_rfl))] <| qc H (fun c2 H=>?_) (fun c2 H=>?_)
  ·refine qq ?_
   obtain⟨h2,e3,o2⟩:=kD (P:=Tryd.prog) (t:=4) (off:=1) (q:=0) (cs:=[aw.fz x0.2.eH,.bool x0.2.bq]) (fm:=[aw.fz x0.2.eH,.bool true]) (x:=.bool true) o0 rfl (by kernel_rfl)
   obtain rfl:=oi H
   exact qr [.w 3 e3] <| qq <| q0 <| qt <| ⟨.inl rfl,⟨by kernel_rfl,he o2⟩⟩
  ·refine qk <| qq ?_
   obtain⟨v0,e4,H⟩:=aI H
   refine qr [.v 3 (show bl Tryd.prog h0 25 (.ptr aA 0)=some (aw.fz x0.2.eH) from ca (q:=0) (cs:=[aw.fz x0.2.eH,.bool x0.2.bq]) o0 rfl (by kernel_rfl)),.v 5 (show eZ Tryd.prog 25 (aw.fz x0.2.eH) none (some (.int .i64 x0.1)) none=some (aw.fz v0) from BK (E:=aw) Ip e4),.v 6 (show gS Tryd.prog h0 25 9 (aw.fz v0)=some (.str (eO v0)) from AA (e:=5) (l:=v0) rfl rfl rfl (Ff _))] <| qq ?_
   obtain⟨v1,e5,H⟩:=aI H
   obtain⟨h3,e6,o3⟩:=kD (P:=Tryd.prog) (t:=25) (off:=0) (q:=0) (cs:=[aw.fz x0.2.eH,.bool x0.2.bq]) (fm:=[aw.fz v1,.bool x0.2.bq]) (x:=aw.fz v1) o0 rfl (by kernel_rfl)
   obtain rfl:=oi H
   exact qr [.v 4 (show bl Tryd.prog h0 25 (.ptr aA 0)=some (aw.fz x0.2.eH) from ca (q:=0) (cs:=[aw.fz x0.2.eH,.bool x0.2.bq]) o0 rfl (by kernel_rfl)),.v 6 (show eZ Tryd.prog 25 (aw.fz x0.2.eH) (some (.int .i64 x0.1)) none none=some (aw.fz v1) from wY (E:=aw) Ip e5),.w 9 e6] <| qq <| q0 <| qt <| ⟨.inl rfl,⟨by kernel_rfl,he o3⟩⟩
end
end Go.Proofs.YtmekcfdllhphlaaDoor
namespace Go.Proofs.YtmekcfdllhphlaaDoor
open Go Go.R
open Go.IntKind (i64 u64 u8 u32)
def vN:cg:=gK [0,2,3,4,5,11,15,20,29,35,40,48,53,54,55] [2,3] [32764,32760,32728,32761,32664,32761,32600,32753,32753,32497,32761,32216,32761,31736,32760,32744,30696,32744,20472,4088,20472,20472,32765] [(22,[(3,some 3,0)])] [(1,[(3,some 3,1)])]
def cV.l0 (m:Nat)(x5:Int × fq):Nat→Int→Int→Int→ByteArray→(List Int)→fq→Option (Int × Int × Int × ByteArray × (List Int) × fq)
 | 0,_,_,_,_,_,_=>none
 | k+1,x6,n0,n1,n2,n3,r1=>if (decide (x6<(mn x5.1 (8:Int))))=true then ((bK.f m r1).bind fun x7=>(app 8 n3 ([x7.1])).bind fun x8=>cV.l0 m x5 k (i64.wrap (x6+(1:Int))) n0 n1 n2 x8 x7.2) else (some ((x6,n0,n1,n2,n3,r1)))
def cV.l1 (m:Nat)(x5:Int × fq):Nat→Int→Int→Int→ByteArray→(List Int)→fq→Option (Int × Int × Int × ByteArray × (List Int) × fq)
 | 0,_,_,_,_,_,_=>none
 | k+1,mg,n8,n9,Gv,AW,r3=>if (decide (mg<(mn x5.1 (8:Int))))=true then ((bK.f m r3).bind fun Hy=>(app 8 AW ([Hy.1])).bind fun Is=>cV.l1 m x5 k (i64.wrap (mg+(1:Int))) n8 n9 Gv Is Hy.2) else (some ((mg,n8,n9,Gv,AW,r3)))
def cV.f (m:Nat)(r0:fq):Option (ab × fq):=(jx.f m r0).bind fun x0=>if ((i64.wrap x0.1)==(0:Int))=true then ((bK.f m x0.2).bind fun x1=>some ((ab.mk (i64.wrap x0.1) x1.1 (XV #[]) ([]:List Int)),x1.2)) else (if ((i64.wrap x0.1)==(1:Int))=true then ((bK.f m x0.2).bind fun x2=>if ((Int.tmod x2.1 (2:Int))==(1:Int))=true then (some ((ab.mk (i64.wrap x0.1) (i64.wrap (0 - (i64.wrap (i64.wrap (Int.tdiv x2.1 (2:Int))+(1:Int))))) (XV #[]) ([]:List Int)),x2.2)) else (some ((ab.mk (i64.wrap x0.1) (i64.wrap (Int.tdiv x2.1 (2:Int))) (XV #[]) ([]:List Int)),x2.2))) else (if ((i64.wrap x0.1)==(2:Int))=true then ((jz.f m x0.2).bind fun x3=>some ((ab.mk (i64.wrap x0.1) (0:Int) x3.1 ([]:List Int)),x3.2)) else (if ((i64.wrap x0.1)==(3:Int))=true then ((jz.f m x0.2).bind fun x4=>(bK.f m x4.2).bind fun x5=>if (decide (x5.1 > (8:Int)))=true then ((cV.l0 m x5 m (0:Int) (i64.wrap x0.1) (0:Int) x4.1 ([]:List Int) (fq.mk x5.2.eH true)).bind fun bj=>match bj with | (x9,n4,n5,n6,n7,r2)=>some ((ab.mk n4 n5 n6 n7),r2)) else ((cV.l1 m x5 m (0:Int) (i64.wrap x0.1) (0:Int) x4.1 ([]:List Int) x5.2).bind fun bJ=>match bJ with | (AR,TG,TH,TI,n15,r4)=>some ((ab.mk TG TH TI n15),r4))) else (some ((ab.mk (i64.wrap x0.1) (0:Int) (XV #[]) ([]:List Int)),(fq.mk x0.2.eH true))))))
def cV.fin (L:Mem)(aA:Nat)(r0:fq)(r:ab × fq)(s:St):Prop:=aH Tryd.prog (s.open vN) Tryd.f44.results.toList=some (.agg [.int .i64 r.1.kind,.int .i64 r.1.int,.str r.1.label,aa.fz r.1.args])∧Has s.h ((aA,.ob [aw.fz r.2.eH,.bool r.2.bq])::L)
def Pa (cf:CallF)(m:Nat):Prop:=∀(r0:fq) (r:ab × fq),cV.f m r0=some r→∀h L (aA:Nat),Has h ((aA,.ob [aw.fz r0.eH,.bool r0.bq])::L)→∀xs,xs.map az=[.ptr aA 0]→∃h',cf 44 xs h=some (.agg [.int .i64 r.1.kind,.int .i64 r.1.int,.str r.1.label,aa.fz r.1.args],h')∧Has h' ((aA,.ob [aw.fz r.2.eH,.bool r.2.bq])::L)
section
variable {cf:CallF}{m:Nat}
theorem cV.bI (L:Mem)(aA:Nat)(r0:fq)(x5:Int × fq)  (mQ:Lq cf m):bD Tryd.prog cf vN m (sub [1,1,0,1,0,1,1,1,1,1,1,1,0,1,1,1,1,0,0] (codeOf Tryd.f44)) (fun k (σ:Int × Int × Int × ByteArray × (List Int) × fq)=>cV.l0 m x5 k σ.1 σ.2.1 σ.2.2.1 σ.2.2.2.1 σ.2.2.2.2.1 σ.2.2.2.2.2) (fun σ s=>match σ with | (x6,n0,n1,n2,n3,r1)=>∃eS h11,s=⟨.ptr aA 0 :: .lp 2 0 :: .lp 3 0::BR [.int .i64 (mn x5.1 (8:Int)),.int .i64 x6,.any],[some [.int .i64 (0:Int),.int .i64 (0:Int),.str (XV #[]),.nils],some [.int .i64 n0,.int .i64 n1,.str n2,.rs eS 0 n3.length 1]],h11⟩∧Has h11 ((aA,.ob [aw.fz r1.eH,.bool r1.bq])::(eS,.sl n3.length 1 (aa.l n3))::L)) (fun out e s=>(e = .exit 1∧∃x6 n0 n1 n2 n3 r1,(x6,n0,n1,n2,n3,r1)=out∧∃kG Gi Gj Gk eS h11,s=⟨kG :: .lp 2 0 :: .lp 3 0::BR [Gi,Gj,Gk],[some [.int .i64 (0:Int),.int .i64 (0:Int),.str (XV #[]),.nils],some [.int .i64 n0,.int .i64 n1,.str n2,.rs eS 0 n3.length 1]],h11⟩∧Has h11 ((aA,.ob [aw.fz r1.eH,.bool r1.bq])::(eS,.sl n3.length 1 (aa.l n3))::L))):=by
 refine gG (fun _=>rfl) ?_
 rintro k ⟨x6,n0,n1,n2,n3,r1⟩ s out ⟨eS,h11,rfl,oT⟩ H
 have H:cV.l0 m x5 (k+1) x6 n0 n1 n2 n3 r1=some out:=H
 refine q1 <| qq <| qc H (fun c6 H=>?_) (fun c6 H=>?_)
 ·refine qk <| qq <| qb 2 ?_
  obtain⟨x7,uS,H⟩:=aI H
  obtain⟨h12,zR,lB⟩:=mQ _ _ uS h11 _ _ (oT)  [.ptr aA 0] (an (rfl) (bo))
  obtain⟨x8,ux,H⟩:=aI H
  obtain⟨cF,h13,zS,uQ⟩:=fF (P:=Tryd.prog) (E:=aa) (l:=n3) (q:=1) (t2:=42) (x:=.fz [.int .i64 x7.1] 1 true) (l2:=([x7.1])) dz lB rfl (by kernel_rfl) rfl ux
  exact qr [.a 3 zR,.a 5 zS] <| q0 <| ⟨(i64.wrap (x6+(1:Int)),n0,n1,n2,x8,x7.2),⟨cF,h13,by kernel_rfl,uQ⟩,H⟩
 ·exact qx 1 <| ⟨rfl,x6,n0,n1,n2,n3,r1,oi H,.ptr aA 0,.int .i64 (mn x5.1 (8:Int)),.int .i64 x6,.bool (decide (x6<(mn x5.1 (8:Int)))),eS,h11,by kernel_rfl,oT⟩
theorem cV.eQ (L:Mem)(aA:Nat)(r0:fq)(x5:Int × fq)  (mQ:Lq cf m):bD Tryd.prog cf vN m (sub [1,1,0,1,0,1,1,1,1,1,1,1,0,1,1,1,1,0,0] (codeOf Tryd.f44)) (fun k (σ:Int × Int × Int × ByteArray × (List Int) × fq)=>cV.l1 m x5 k σ.1 σ.2.1 σ.2.2.1 σ.2.2.2.1 σ.2.2.2.2.1 σ.2.2.2.2.2) (fun σ s=>match σ with | (mg,n8,n9,Gv,AW,r3)=>∃fS h16,s=⟨.ptr aA 0 :: .lp 2 0 :: .lp 3 0::BR [.int .i64 (mn x5.1 (8:Int)),.int .i64 mg,.any],[some [.int .i64 (0:Int),.int .i64 (0:Int),.str (XV #[]),.nils],some [.int .i64 n8,.int .i64 n9,.str Gv,.rs fS 0 AW.length 1]],h16⟩∧Has h16 ((aA,.ob [aw.fz r3.eH,.bool r3.bq])::(fS,.sl AW.length 1 (aa.l AW))::L)) (fun out e s=>(e = .exit 1∧∃mg n8 n9 Gv AW r3,(mg,n8,n9,Gv,AW,r3)=out∧∃kG Gi Gj Gk fS h16,s=⟨kG :: .lp 2 0 :: .lp 3 0::BR [Gi,Gj,Gk],[some [.int .i64 (0:Int),.int .i64 (0:Int),.str (XV #[]),.nils],some [.int .i64 n8,.int .i64 n9,.str Gv,.rs fS 0 AW.length 1]],h16⟩∧Has h16 ((aA,.ob [aw.fz r3.eH,.bool r3.bq])::(fS,.sl AW.length 1 (aa.l AW))::L))):=by
 refine gG (fun _=>rfl) ?_
 rintro k ⟨mg,n8,n9,Gv,AW,r3⟩ s out ⟨fS,h16,rfl,zT⟩ H
 have H:cV.l1 m x5 (k+1) mg n8 n9 Gv AW r3=some out:=H
 refine q1 <| qq <| qc H (fun c7 H=>?_) (fun c7 H=>?_)
 ·refine qk <| qq <| qb 2 ?_
  obtain⟨Hy,FN,H⟩:=aI H
  obtain⟨h17,Eh,DP⟩:=mQ _ _ FN h16 _ _ (zT)  [.ptr aA 0] (an (rfl) (bo))
  obtain⟨Is,FO,H⟩:=aI H
  obtain⟨gP,h18,FT,DQ⟩:=fF (P:=Tryd.prog) (E:=aa) (l:=AW) (q:=1) (t2:=42) (x:=.fz [.int .i64 Hy.1] 1 true) (l2:=([Hy.1])) dz DP rfl (by kernel_rfl) rfl FO
  exact qr [.a 3 Eh,.a 5 FT] <| q0 <| ⟨(i64.wrap (mg+(1:Int)),n8,n9,Gv,Is,Hy.2),⟨gP,h18,by kernel_rfl,DQ⟩,H⟩
 ·exact qx 1 <| ⟨rfl,mg,n8,n9,Gv,AW,r3,oi H,.ptr aA 0,.int .i64 (mn x5.1 (8:Int)),.int .i64 mg,.bool (decide (mg<(mn x5.1 (8:Int)))),fS,h16,by kernel_rfl,zT⟩
theorem xD {aU:FuncId→cg}(ha:aU 44=vN)(mQ:Lq cf m)(Gs:O8 cf m)(N8:TF cf m)(r0:fq)(h:AHeap)(L:Mem)(aA:Nat)  (o:Has h ((aA,.ob [aw.fz r0.eH,.bool r0.bq])::L)){out:ab × fq}(H:cV.f m r0=some out) :
  ∃r h',bc Tryd.prog aU cf m 44 [.ptr aA 0] h=some (r,h')∧r = .agg [.int .i64 out.1.kind,.int .i64 out.1.int,.str out.1.label,aa.fz out.1.args]∧Has h' ((aA,.ob [aw.fz out.2.eH,.bool out.2.bq])::L):=by
 refine aq (fn:=Tryd.f44) ha Tryd.func44 (by kernel_rfl) (by kernel_rfl) ?_
 refine aG (Q:=fun s=>cV.fin L aA r0 out s) (fun _ _ ⟨h1,h2,h3⟩=>⟨h1,_,h2,rfl,h3⟩) ?_
 have H:_=some out:=H
 unfold cV.f at H
 show de _ cf vN m _ ⟨.ptr aA 0::rC [],[none,none],h⟩ _
 refine q1 <| qq ?_
 obtain⟨x0,e0,H⟩:=aI H
 obtain⟨h0,e1,o0⟩:=Gs _ _ e0 h _ _ (o)  [.ptr aA 0] (an (rfl) (bo))
 refine qr [.a 1 e1] ?_
 have o1:Has h0 (((0),.sl (([]:List Int).length) 1 (aa.l ([]:List Int)))::(aA,.ob [aw.fz x0.2.eH,.bool x0.2.bq])::L):=Has.nil o0 1
 refine qq <| qq <| q0 <| qb 0 <| qq <| q0 <| qc H (fun c0 H=>?_) (fun c0 H=>?_)
 ·obtain⟨x1,e2,H⟩:=aI H
  obtain⟨h1,e3,o2⟩:=mQ _ _ e2 h0 _ _ ((Has.front (Has.front o1 0 rfl) 1 rfl))  [.ptr aA 0] (an (rfl) (bo))
  refine qr [.a 1 e3] <| qq ?_
  obtain⟨h2,e4,o3⟩:=iU (E:=aa) (l:=([]:List Int)) (q:=1) o2 rfl
  obtain rfl:=oi H
  exact zQ [.a 0 e4] [] <| qt <| ⟨.inl rfl,⟨by kernel_rfl,he o3⟩⟩
 ·refine q1 <| qc H (fun c1 H=>?_) (fun c1 H=>?_)
  ·refine qq ?_
   obtain⟨x2,e5,H⟩:=aI H
   obtain⟨h3,e6,o4⟩:=mQ _ _ e5 h0 _ _ ((Has.front (Has.front o1 0 rfl) 1 rfl))  [.ptr aA 0] (an (rfl) (bo))
   refine qr [.a 1 e6] <| qq <| q0 <| qq <| q0 <| qc H (fun c2 H=>?_) (fun c2 H=>?_)
   ·refine q0 <| qq ?_
    obtain⟨h4,e7,o5⟩:=iU (E:=aa) (l:=([]:List Int)) (q:=1) o4 rfl
    obtain rfl:=oi H
    exact zQ [.a 0 e7] [] <| qt <| ⟨.inl rfl,⟨by kernel_rfl,he o5⟩⟩
   ·refine qk <| qq ?_
    obtain⟨h5,e8,o6⟩:=iU (E:=aa) (l:=([]:List Int)) (q:=1) o4 rfl
    obtain rfl:=oi H
    exact zQ [.a 0 e8] [] <| qt <| ⟨.inl rfl,⟨by kernel_rfl,he o6⟩⟩
  ·refine q1 <| qc H (fun c3 H=>?_) (fun c3 H=>?_)
   ·obtain⟨x3,e9,H⟩:=aI H
    obtain⟨h6,nJ,o7⟩:=N8 _ _ e9 h0 _ _ ((Has.front (Has.front o1 0 rfl) 1 rfl))  [.ptr aA 0] (an (rfl) (bo))
    refine qr [.a 1 nJ] <| qq ?_
    obtain⟨h7,qn,o8⟩:=iU (E:=aa) (l:=([]:List Int)) (q:=1) o7 rfl
    obtain rfl:=oi H
    exact zQ [.a 0 qn] [] <| qt <| ⟨.inl rfl,⟨by kernel_rfl,he o8⟩⟩
   ·refine q1 <| qc H (fun c4 H=>?_) (fun c4 H=>?_)
    ·refine qq ?_
     obtain⟨x4,rL,H⟩:=aI H
     obtain⟨h8,rM,o9⟩:=N8 _ _ rL h0 _ _ ((Has.front (Has.front o1 0 rfl) 1 rfl))  [.ptr aA 0] (an (rfl) (bo))
     refine qr [.a 1 rM] <| qq ?_
     obtain⟨x5,tJ,H⟩:=aI H
     obtain⟨h9,rN,tF⟩:=mQ _ _ tJ h8 _ _ (o9)  [.ptr aA 0] (an (rfl) (bo))
     refine qr [.a 1 rN] <| qq <| qq <| q0 <| qc H (fun c5 H=>?_) (fun c5 H=>?_)
     ·obtain⟨h10,vJ,uw⟩:=kD (P:=Tryd.prog) (t:=4) (off:=1) (q:=0) (cs:=[aw.fz x5.2.eH,.bool x5.2.bq]) (fm:=[aw.fz x5.2.eH,.bool true]) (x:=.bool true) tF rfl (by kernel_rfl)
      refine qr [.w 3 vJ] <| qq <| q0 <| qb 1 ?_
      obtain⟨bj,B8,H⟩:=aI H
      refine ql (cV.bI L aA r0 x5  mQ ((0:Int),i64.wrap x0.1,(0:Int),x4.1,([]:List Int),(fq.mk x5.2.eH true)) _ _ ⟨(0),h10,by kernel_rfl,uw⟩ B8) ?_
      rintro e s ⟨rfl,x9,n4,n5,n6,n7,r2,rfl,g0,g1,g2,g3,fb,h14,rfl,yP⟩
      try dsimp only at H
      refine qq ?_
      obtain⟨h15,Eg,lG⟩:=iU (E:=aa) (l:=n7) (q:=1) yP rfl
      obtain rfl:=oi H
      exact zQ [.a 0 Eg] [] <| qt <| ⟨.inl rfl,⟨by kernel_rfl,he lG⟩⟩
     ·refine qk <| qq <| q0 <| qb 1 ?_
      obtain⟨bJ,Hx,H⟩:=aI H
      refine ql (cV.eQ L aA r0 x5  mQ ((0:Int),i64.wrap x0.1,(0:Int),x4.1,([]:List Int),x5.2) _ _ ⟨(0),h9,by kernel_rfl,tF⟩ Hx) ?_
      rintro e s ⟨rfl,AR,TG,TH,TI,n15,r4,rfl,g4,g5,g6,g7,gQ,h19,rfl,Lh⟩
      try dsimp only at H
      refine qq ?_
      obtain⟨h20,FQ,xo⟩:=iU (E:=aa) (l:=n15) (q:=1) Lh rfl
      obtain rfl:=oi H
      exact zQ [.a 0 FQ] [] <| qt <| ⟨.inl rfl,⟨by kernel_rfl,he xo⟩⟩
    ·obtain⟨h21,FR,Ga⟩:=kD (P:=Tryd.prog) (t:=4) (off:=1) (q:=1) (cs:=[aw.fz x0.2.eH,.bool x0.2.bq]) (fm:=[aw.fz x0.2.eH,.bool true]) (x:=.bool true) o1 rfl (by kernel_rfl)
     refine qr [.w 3 FR] <| qq ?_
     obtain⟨h22,FP,Ei⟩:=iU (E:=aa) (l:=([]:List Int)) (q:=0) Ga rfl
     obtain rfl:=oi H
     exact zQ [.a 0 FP] [] <| qt <| ⟨.inl rfl,⟨by kernel_rfl,he Ei⟩⟩
end
end Go.Proofs.YtmekcfdllhphlaaDoor
namespace Go.Proofs.YtmekcfdllhphlaaDoor
open Go Go.R
open Go.IntKind (i64 u64 u8 u32)
theorem xE (s:ByteArray):eO (eP s)=s:=by
 unfold eO eP
 rw [List.map_map]
 have:(List.map ((fun n:Int=>UInt8.ofNat n.toNat)∘fun b:UInt8=>(b.toNat:Int)) s.data.toList)=s.data.toList:=by
  conv=>rhs; rw [←List.map_id s.data.toList]
  apply Yy
  intro b _
  simp
 rw [this]
theorem iF (s:ByteArray):(eP s).length=s.size:=by simp [eP]
theorem ze:∀(k n:Nat),n<128 ^ (k+1)→(dI n).length≤k+1
 | k,n,h=>by
  by_cases h1:n<128
  ·rw [k7 h1]; simp
  ·cases k with
   | zero=>simp at h; omega
   | succ k=>
    have hd:n / 128<128 ^ (k+1):=by
     rw [Nat.div_lt_iff_lt_mul (by omega)]
     calc n<128 ^ (k+1+1):=h
      _=_:=by rw [Nat.pow_succ]
    have:=ze k (n / 128) hd
    rw [oM h1]; simp; omega
theorem dP {n:Nat}(h:n<2 ^ 64):(dI n).length≤10:=ze 9 n (by omega)
def encS (s:ByteArray):List Int:=dI s.size++eP s
theorem Jx {m:Nat}{w:List Int}{s:ByteArray}(hm:11≤m)(hs:s.size≠0)(hw:w≠[])(hl:w.length+s.size+20≤140737488355328):jy.f m w s=some (w++encS s):=by
 unfold jy.f
 have h1:s.size<2 ^ 64:=by omega
 have h2:=dP h1
 rw [hY (by omega) (by omega),zc hm h1 hw (by omega),Xr,mo (by simp [hw]) (fun h=>hs (by rw [←iF,h]; rfl)) (by simp [iF]; omega),Xr,XF]
 rfl
theorem Jy {m:Nat}{s:ByteArray}{rest:List Int}(hm:11≤m)(hl:s.size<2 ^ 63):jz.f m ⟨encS s++rest,false⟩=some (s,⟨rest,false⟩):=by
 unfold jz.f encS
 rw [XF,AU hm hl,Xr,if_neg (by simp)]
 dsimp only
 have hlen:=iF s
 rw [if_neg (by simp [hlen]; omega)]
 have h1:pE (eP s++rest) 0 (s.size:Int)=some (eP s):=by
  unfold pE
  rw [if_pos ⟨Int.le_refl _,by omega,by simp [hlen]; omega⟩]
  simp [←hlen]
 have h2:pE (eP s++rest) (s.size:Int) ((eP s++rest).length:Int)=some rest:=by
  unfold pE
  rw [if_pos ⟨by omega,by simp [hlen]; omega,Int.le_refl _⟩,←hlen]
  simp only [Xy,List.drop_left]
  rw [X1 (by simp)]
 rw [h1,Xr,h2,Xr,xE]
structure tV (n:ab):Prop where
 kind:n.kind=0∧(0≤n.int∧n.int<2 ^ 63)∧n.label=XV #[]∧n.args=[]∨n.kind=1∧(-(2 ^ 62)≤n.int∧n.int<2 ^ 62)∧n.label=XV #[]∧n.args=[]∨n.kind=2∧n.int=0∧n.args=[]∨n.kind=3∧n.int=0
 label:2≤n.kind→n.label.size≠0∧n.label.size<2 ^ 40
 args:n.args.length≤8∧∀a∈n.args,0≤a∧a<2 ^ 63
def xV (x:Int):Nat:=if x<0 then ((-x)*2 - 1).toNat else (x*2).toNat
def dp (n:ab):List Int:=
 n.kind::(if n.kind=0 then dI n.int.toNat else if n.kind=1 then dI (xV n.int) else if n.kind=2 then encS n.label else encS n.label++dI n.args.length++(n.args.map fun a=>dI a.toNat).flatten)
theorem Jz {m:Nat}(hm:11≤m)(n0:ab)(ha:∀a∈n0.args,0≤a∧a<2 ^ 63)(hlen:n0.args.length≤8):∀(l:List Int) (f i:Nat) (w:List Int),l.length<f→n0.args.drop i=l→i≤8→w≠[]→w.length+20*l.length+20≤140737488355328→
  ∃x,dU.l0 m n0 f (i:Int) w=some (x,w++(l.map fun a=>dI a.toNat).flatten)
 | l,0,i,w,hf,_,_,_,_=>absurd hf (by omega)
 | [],f+1,i,w,hf,hd,hi,hw,hl=>by
  have:n0.args.length≤i:=by
   have:=congrArg List.length hd
   simp at this
   omega
  refine⟨i,?_⟩
  unfold dU.l0
  rw [if_neg (by simp; omega)]
  simp
 | a::l,f+1,i,w,hf,hd,hi,hw,hl=>by
  have Ac:i<n0.args.length:=by
   have:=congrArg List.length hd
   simp at this
   omega
  have hg:n0.args[i]? = some a:=by
   have:=congrArg (·[0]?) hd
   simpa using this
  have VC:a∈n0.args:=Yu hg
  obtain⟨h1,h2⟩:=ha a VC
  obtain⟨b,rfl⟩:∃b:Nat,a=(b:Int):=⟨a.toNat,by omega⟩
  have VD:n0.args.drop (i+1)=l:=by
   rw [←List.tail_drop,hd]; rfl
  have e1:(dI b).length≤10:=dP (by omega)
  simp only [XR] at hf hl
  obtain⟨x,ih⟩:=Jz hm n0 ha hlen l f (i+1) (w++dI b) (by omega) VD (by omega) (by simp [hw]) (by simp; omega)
  refine⟨x,?_⟩
  unfold dU.l0
  have Lj:ix n0.args (i:Int)=some (b:Int):=by unfold ix; rw [if_pos (by omega)]; exact hg
  rw [if_pos (by simp; omega),Lj,Xr,hY h1 (by omega),zc hm (by omega) hw (by omega),Xr,aD (by omega) (by omega)]
  rw [show ((i:Int)+1)=((i+1:Nat):Int) by omega]
  rw [ih,XN,List.flatten_cons,XF,Xy]
end Go.Proofs.YtmekcfdllhphlaaDoor
namespace Go.Proofs.YtmekcfdllhphlaaDoor
open Go Go.R
open Go.IntKind (i64 u64 u8 u32)
theorem IB {x:Int}(h:x<0)(h2 : -(2 ^ 62)≤x):u64.wrap (u64.wrap (u64.wrap (i64.wrap (0 - x))*2) - 1)=(xV x:Int):=by
 have:(2:Int) ^ 62=4611686018427387904:=by decide
 rw [aD (by omega) (by omega),hY (x:=0 - x) (by omega) (by omega),hY (x:=(0 - x)*2) (by omega) (by omega),hY (by omega) (by omega)]
 unfold xV
 rw [if_pos h]
 omega
theorem IC {x:Int}(h:¬x<0)(h2:x<2 ^ 62):u64.wrap (u64.wrap x*2)=(xV x:Int):=by
 have:(2:Int) ^ 62=4611686018427387904:=by decide
 rw [hY (x:=x) (by omega) (by omega),hY (by omega) (by omega)]
 unfold xV
 rw [if_neg h]
 omega
theorem AX {x:Int}(h1 : -(2 ^ 62)≤x)(h2:x<2 ^ 62):xV x<2 ^ 63:=by
 have:(2:Int) ^ 62=4611686018427387904:=by decide
 have:(2:Nat) ^ 63=9223372036854775808:=by decide
 unfold xV
 split<;>omega
theorem N9 {m:Nat}{w:List Int}{n:ab}(hm:11≤m)(W:tV n)(hl:w.length+n.label.size+1000≤140737488355328)(hw:w≠[]):dU.f m w n=some (w++dp n):=by
 have HC:(2:Nat) ^ 63=9223372036854775808:=by decide
 have TJ:(2:Int) ^ 63=9223372036854775808:=by decide
 have Q8:(2:Nat) ^ 64=18446744073709551616:=by decide
 have hk:0≤n.kind∧n.kind≤3:=by rcases W.kind with h | h | h | h<;>(have:=h.1; omega)
 unfold dU.f
 rw [mF,show n.kind % 256=n.kind by omega,mo hw (by simp) (by simp; omega),Xr]
 rcases W.kind with⟨h,hi,_,_⟩| ⟨h,hi,_,_⟩| ⟨h,hi,_⟩| ⟨h,hi⟩
 ·obtain⟨b,hb⟩:∃b:Nat,n.int=(b:Int):=⟨n.int.toNat,by omega⟩
  rw [show dp n=0::dI b by simp [dp,h,hb],h,if_pos (by decide),hY (by omega) (by omega),hb,zc hm (by omega) (by simp) (by simp; omega),Xr]
  simp
 ·have hz:=AX hi.1 hi.2
  rw [show dp n=1::dI (xV n.int) by simp [dp,h],h,if_neg (by decide),if_pos (by decide)]
  by_cases hn:n.int<0
  ·rw [if_pos (by simpa using hn),IB hn hi.1,zc hm (by omega) (by simp) (by simp; omega),Xr]
   simp
  ·rw [if_neg (by simpa using hn),IC hn hi.2,zc hm (by omega) (by simp) (by simp; omega),Xr]
   simp
 ·obtain⟨g1,g2⟩:=W.label (by omega)
  rw [show dp n=2::encS n.label by simp [dp,h],h,if_neg (by decide),if_neg (by decide),if_pos (by decide),Jx hm g1 (by simp) (by simp; omega),Xr]
  simp
 ·obtain⟨g1,g2⟩:=W.label (by omega)
  obtain⟨g3,g4⟩:=W.args
  have e1:(encS n.label).length≤10+n.label.size:=by
   unfold encS
   have:=dP (n:=n.label.size) (by omega)
   simp [iF]; omega
  have e2:(dI n.args.length).length≤10:=dP (by omega)
  rw [show dp n=3::(encS n.label++dI n.args.length++(n.args.map fun a=>dI a.toNat).flatten) by simp [dp,h],h,if_neg (by decide),if_neg (by decide),if_neg (by decide),if_pos (by decide),Jx hm g1 (by simp) (by simp; omega),Xr,
   hY (by omega) (by omega),zc hm (by omega) (by simp) (by simp; omega),Xr]
  obtain⟨x,hx⟩:=Jz hm n g4 g3 n.args m 0 (w++[3]++encS n.label++dI n.args.length) (by omega) rfl (by omega) (by simp) (by simp; omega)
  have hx:dU.l0 m n m (0:Int) (w++[3]++encS n.label++dI n.args.length)=_:=hx
  rw [hx,Xr]
  simp
theorem JA {m:Nat}(hm:11≤m)(x5:Int × fq)(k0:Int)(lb:ByteArray)(rest:List Int)(hx:0≤x5.1∧x5.1≤8):∀(l:List Int) (f i:Nat) (acc:List Int),l.length<f→(i:Int)+l.length=x5.1→acc.length+l.length≤8→(∀a∈l,0≤a∧a<2 ^ 63)→
  ∃x,cV.l1 m x5 f (i:Int) k0 0 lb acc ⟨(l.map fun a=>dI a.toNat).flatten++rest,false⟩=some (x,k0,0,lb,acc++l,⟨rest,false⟩)
 | l,0,i,acc,hf,_,_,_=>absurd hf (by omega)
 | [],f+1,i,acc,hf,hi,ha,hl=>by
  refine⟨i,?_⟩
  unfold cV.l1
  simp only [Yk] at hi
  rw [if_neg (by unfold mn; simp; split<;>omega)]
  simp
 | a::l,f+1,i,acc,hf,hi,ha,hl=>by
  simp only [XR] at hf hi ha
  have TJ:(2:Int) ^ 63=9223372036854775808:=by decide
  have HC:(2:Nat) ^ 63=9223372036854775808:=by decide
  obtain⟨h1,h2⟩:=hl a (by simp)
  obtain⟨b,rfl⟩:∃b:Nat,a=(b:Int):=⟨a.toNat,by omega⟩
  obtain⟨x,ih⟩:=JA hm x5 k0 lb rest hx l f (i+1) (acc++[(b:Int)]) (by omega) (by omega) (by simp; omega) (fun c hc=>hl c (by simp [hc]))
  refine⟨x,?_⟩
  unfold cV.l1
  rw [if_pos (by unfold mn; simp; split<;>omega),XN,List.flatten_cons,XF,Xy,AU hm (by omega),Xr]
  have ly:app 8 acc [(b:Int)]=some (acc++[(b:Int)]):=by unfold app; rw [if_pos (by simp; omega)]
  dsimp only
  rw [ly,Xr,aD (by omega) (by omega),show ((i:Int)+1)=((i+1:Nat):Int) by omega,ih]
  simp
end Go.Proofs.YtmekcfdllhphlaaDoor
namespace Go.Proofs.YtmekcfdllhphlaaDoor
open Go Go.R
open Go.IntKind (i64 u64 u8 u32)
theorem Gw {x:Int}(h:¬x<0)(h2:x<2 ^ 62):¬(Int.tmod (xV x:Int) 2==1)=true∧i64.wrap (Int.tdiv (xV x:Int) 2)=x:=by
 have hz:(xV x:Int)=x*2:=by unfold xV; rw [if_neg h]; omega
 rw [hz,Int.mul_tmod_left,Int.mul_tdiv_cancel _ (by decide),aD (by omega) (by omega)]
 exact⟨by decide,rfl⟩
theorem ID {x:Int}(h:x<0)(h2 : -(2 ^ 62)≤x):(Int.tmod (xV x:Int) 2==1)=true∧i64.wrap (0 - i64.wrap (i64.wrap (Int.tdiv (xV x:Int) 2)+1))=x:=by
 have hz:(xV x:Int)=((-x - 1).toNat*2+1:Nat):=by unfold xV; rw [if_pos h]; omega
 have h3:Int.tmod (((-x - 1).toNat*2+1:Nat):Int) 2=1:=by
  rw [Int.tmod_eq_emod_of_nonneg (by omega)]; omega
 have h4:Int.tdiv (((-x - 1).toNat*2+1:Nat):Int) 2 = -x - 1:=by
  rw [Int.tdiv_eq_ediv_of_nonneg (by omega)]; omega
 rw [hz,h3,h4,aD (x:=-x - 1) (by omega) (by omega),aD (x:=-x - 1+1) (by omega) (by omega),aD (by omega) (by omega)]
 exact⟨by decide,by omega⟩
theorem Oa {m:Nat}{n:ab}{rest:List Int}(hm:11≤m)(W:tV n):cV.f m ⟨dp n++rest,false⟩=some (n,⟨rest,false⟩):=by
 have HC:(2:Nat) ^ 63=9223372036854775808:=by decide
 have TJ:(2:Int) ^ 63=9223372036854775808:=by decide
 obtain⟨kd,nt,lb,IE⟩:=n
 unfold cV.f
 rcases W.kind with⟨h,hi,Ob,ha⟩| ⟨h,hi,Ob,ha⟩| ⟨h,hi,ha⟩| ⟨h,hi⟩
 ·simp only at h hi Ob ha
  subst h Ob ha
  obtain⟨b,rfl⟩:∃b:Nat,nt=(b:Int):=⟨nt.toNat,by omega⟩
  rw [show dp ⟨0,(b:Int),XV #[],[]⟩=0::dI b by simp [dp],XU,vM,Xr]
  dsimp only
  rw [aD (by omega) (by omega),if_pos (by decide),AU hm (by omega),Xr]
 ·simp only at h hi Ob ha
  subst h Ob ha
  rw [show dp ⟨1,nt,XV #[],[]⟩=1::dI (xV nt) by simp [dp],XU,vM,Xr]
  dsimp only
  rw [aD (x:=1) (by omega) (by omega),if_neg (by decide),if_pos (by decide),AU hm (AX hi.1 hi.2),Xr]
  by_cases hn:nt<0
  ·obtain⟨z1,z2⟩:=ID hn hi.1
   rw [if_pos z1,z2]
  ·obtain⟨z1,z2⟩:=Gw hn hi.2
   rw [if_neg z1,z2]
 ·simp only at h hi ha
  subst h hi ha
  obtain⟨g1,g2⟩:=W.label (by simp)
  simp only at g1 g2
  rw [show dp ⟨2,0,lb,[]⟩=2::encS lb by simp [dp],XU,vM,Xr]
  dsimp only
  rw [aD (x:=2) (by omega) (by omega),if_neg (by decide),if_neg (by decide),if_pos (by decide),Jy hm (by omega),Xr]
 ·simp only at h hi
  subst h hi
  obtain⟨g1,g2⟩:=W.label (by simp)
  obtain⟨g3,g4⟩:=W.args
  simp only at g1 g2 g3 g4
  rw [show dp ⟨3,0,lb,IE⟩=3::(encS lb++dI IE.length++(IE.map fun a=>dI a.toNat).flatten) by simp [dp],XU,vM,Xr]
  dsimp only
  rw [aD (x:=3) (by omega) (by omega),if_neg (by decide),if_neg (by decide),if_neg (by decide),if_pos (by decide)]
  rw [XF,XF,Jy hm (by omega),Xr]
  dsimp only
  rw [AU hm (by omega),Xr,if_neg (by simp; omega)]
  obtain⟨x,hx⟩:=JA hm ((IE.length:Int),(⟨(IE.map fun a=>dI a.toNat).flatten++rest,false⟩:fq)) 3 lb rest (by simp; omega) IE m 0 [] (by omega) (by simp) (by simp; omega) g4
  have hx:cV.l1 m ((IE.length:Int),(⟨(IE.map fun a=>dI a.toNat).flatten++rest,false⟩:fq)) m (0:Int) 3 0 lb [] ⟨(IE.map fun a=>dI a.toNat).flatten++rest,false⟩=_:=hx
  rw [hx,Xr]
  simp
end Go.Proofs.YtmekcfdllhphlaaDoor
namespace Go.Proofs.YtmekcfdllhphlaaDoor
open Go Go.R
open Go.IntKind (i64 u64 u8 u32)
def vO:cg:=gK [0,2,3,5,6,7,8,9,16,17] [] [1022,1018,907,779,899,907,651,139,651,651,907,1021] [] []
def bu.l1 (m:Nat)  : Nat→Int→Int→Option (Int × Int)
 | 0,_,_=>none
 | k+1,qp,x1=>if (decide (x1<(8:Int)))=true then (bu.l1 m k (kZ .u32 (fZ .u32 qp 1) (gZ .u32 (3988292384:Int) (u32.wrap (0 - (gZ .u32 qp (1:Int)))))) (i64.wrap (x1+(1:Int)))) else (some ((qp,x1)))
def bu.l0 (m:Nat)(b0:List Int):Nat→Int→Int→Option (Int × Int)
 | 0,_,_=>none
 | k+1,tW,x0=>if (decide (x0<(b0.length:Int)))=true then ((ix b0 x0).bind fun v0=>(bu.l1 m m (kZ .u32 tW (u32.wrap v0)) (0:Int)).bind fun bj=>match bj with | (Lr,x2)=>bu.l0 m b0 k Lr (i64.wrap (x0+(1:Int)))) else (some ((tW,x0)))
def bu.f (m:Nat)(b0:List Int):Option (Int):=(bu.l0 m b0 m (4294967295:Int) (0:Int)).bind fun bJ=>match bJ with | (Ls,x3)=>some (i64.wrap (Jl .u32 Ls))
def bu.fin (L:Mem)(r:Int)(s:St):Prop:=∃av,aH Tryd.prog (s.open vO) Tryd.f21.results.toList=some av∧fW s.h av (.int .i64 r)
def TK (cf:CallF)(m:Nat):Prop:=∀(b0:List Int) (r:Int),bu.f m b0=some r→∀h xs,eN fi h xs [aw.fz b0]→cf 21 xs h=some (.int .i64 r,h)
section
variable {cf:CallF}{m:Nat}
theorem bu.eQ (L:Mem)(b0:List Int)(x0:Int)   : bD Tryd.prog cf vO m (sub [1,1,0,1,0,0,1,1,0,0,1,1,1,0,0] (codeOf Tryd.f21)) (fun k (σ:Int × Int)=>bu.l1 m k σ.1 σ.2) (fun σ s=>match σ with | (qp,x1)=>∃h1,s=⟨[.any,.any,.int .u32 qp,.any,aw.fz b0,.int .i64 (b0.length:Int),.int .i64 x0,.any,.int .i64 x1,.any],[],h1⟩∧Has h1 (L)) (fun out e s=>(e = .exit 2∧∃qp x1,(qp,x1)=out∧∃Gx AI h1,s=⟨[.any,.any,.int .u32 qp,.any,aw.fz b0,.int .i64 (b0.length:Int),.int .i64 x0,.any,Gx,AI],[],h1⟩∧Has h1 (L))):=by
 refine gG (fun _=>rfl) ?_
 rintro k ⟨qp,x1⟩ s out ⟨h1,rfl,o1⟩ H
 have H:bu.l1 m (k+1) qp x1=some out:=H
 refine q1 <| qq <| qc H (fun c1 H=>?_) (fun c1 H=>?_)
 ·exact qk <| qq <| qb 3 <| q0 <| q0 <| ⟨(kZ .u32 (fZ .u32 qp 1) (gZ .u32 (3988292384:Int) (u32.wrap (0 - (gZ .u32 qp (1:Int))))),i64.wrap (x1+(1:Int))),⟨h1,by kernel_rfl,o1⟩,H⟩
 ·exact qx 2 <| ⟨rfl,qp,x1,oi H,.int .i64 x1,.bool (decide (x1<(8:Int))),h1,by kernel_rfl,o1⟩
theorem bu.bI (L:Mem)(b0:List Int)   : bD Tryd.prog cf vO m (sub [1,1,0,1,0,0] (codeOf Tryd.f21)) (fun k (σ:Int × Int)=>bu.l0 m b0 k σ.1 σ.2) (fun σ s=>match σ with | (tW,x0)=>∃h0,s=⟨.any :: .any :: .int .u32 tW :: .any::aw.fz b0 :: .int .i64 (b0.length:Int) :: .int .i64 x0::jP [],[],h0⟩∧Has h0 (L)) (fun out e s=>(e = .exit 0∧∃tW x0,(tW,x0)=out∧∃DR uP qh rG h0,s=⟨[.any,.any,.int .u32 tW,.any,DR,uP,qh,rG,.any,.any],[],h0⟩∧Has h0 (L))):=by
 refine gG (fun _=>rfl) ?_
 rintro k ⟨tW,x0⟩ s out ⟨h0,rfl,o0⟩ H
 have H:bu.l0 m b0 (k+1) tW x0=some out:=H
 refine q1 <| qq <| qc H (fun c0 H=>?_) (fun c0 H=>?_)
 ·refine qk <| qq <| qb 1 <| qq ?_
  obtain⟨v0,e0,H⟩:=aI H
  refine qr [.v 0 (bw (k:=.i64) (E:=aw) (l:=b0) Ip e0),.v 1 (cY  (E:=aw) (l:=b0) h0 A5 e0 rfl)] <| qq <| q0 <| qq <| q0 <| qb 2 ?_
  obtain⟨bj,e1,H⟩:=aI H
  refine ql (bu.eQ L b0 x0   (kZ .u32 tW (u32.wrap v0),(0:Int)) _ _ ⟨h0,by kernel_rfl,o0⟩ e1) ?_
  rintro e s ⟨rfl,Lr,x2,rfl,g0,g1,h2,rfl,o2⟩
  try dsimp only at H
  exact q0 <| ⟨(Lr,i64.wrap (x0+(1:Int))),⟨h2,by kernel_rfl,o2⟩,H⟩
 ·exact qx 0 <| ⟨rfl,tW,x0,oi H,aw.fz b0,.int .i64 (b0.length:Int),.int .i64 x0,.bool (decide (x0<(b0.length:Int))),h0,by kernel_rfl,o0⟩
theorem rS {aU:FuncId→cg}(ha:aU 21=vO)  (b0:List Int)(h:AHeap)(L:Mem)  (o:Has h (L)){out:Int}(H:bu.f m b0=some out) :
  ∃r h',bc Tryd.prog aU cf m 21 [aw.fz b0] h=some (r,h')∧fW h' r (.int .i64 out):=by
 refine aq (fn:=Tryd.f21) ha Tryd.func21 (by kernel_rfl) (by kernel_rfl) ?_
 refine aG (Q:=fun s=>bu.fin L out s) (fun _ _ h=>h) ?_
 have H:_=some out:=H
 unfold bu.f at H
 show de _ cf vO m _ ⟨aw.fz b0::BR [],[],h⟩ _
 refine q1 <| qq <| q0 <| qq <| qq <| q0 <| qb 0 ?_
 obtain⟨bJ,e2,H⟩:=aI H
 refine ql (bu.bI L b0   ((4294967295:Int),(0:Int)) _ _ ⟨h,by kernel_rfl,o⟩ e2) ?_
 rintro e s ⟨rfl,Ls,x3,rfl,g2,g3,g4,g5,h3,rfl,o3⟩
 try dsimp only at H
 obtain rfl:=oi H
 exact q1 <| qt <| ⟨.inl rfl,cb (.int .i64 (i64.wrap (Jl .u32 Ls))) h3 (b9 (eG))⟩
end
end Go.Proofs.YtmekcfdllhphlaaDoor
namespace Go.Proofs.YtmekcfdllhphlaaDoor
open Go Go.R
open Go.IntKind (i64 u64 u8 u32)
def Cr:cg:=gK [0,2,3] [17] [6,3,5] [] [(0,[(2,none,1)])]
def cz.f (m:Nat)(b0:List Int):Option ((List Int)):=(bu.f m b0).bind fun x0=>some ([u8.wrap x0,u8.wrap (fZ .i64 x0 8),u8.wrap (fZ .i64 x0 16),u8.wrap (fZ .i64 x0 24)])
def cz.fin (L:Mem)(r:(List Int))(s:St):Prop:=∃av,aH Tryd.prog (s.open Cr) Tryd.f42.results.toList=some av∧fW s.h av (aw.fz r)
def Q9 (cf:CallF)(m:Nat):Prop:=∀(b0:List Int) (r:(List Int)),cz.f m b0=some r→∀h xs,eN fi h xs [aw.fz b0]→cf 42 xs h=some (aw.fz r,h)
section
variable {cf:CallF}{m:Nat}
theorem pe {aU:FuncId→cg}(ha:aU 42=Cr)(Ra:TK cf m)(b0:List Int)(h:AHeap)(L:Mem)  (o:Has h (L)){out:(List Int)}(H:cz.f m b0=some out) :
  ∃r h',bc Tryd.prog aU cf m 42 [aw.fz b0] h=some (r,h')∧fW h' r (aw.fz out):=by
 refine aq (fn:=Tryd.f42) ha Tryd.func42 (by kernel_rfl) (by kernel_rfl) ?_
 refine aG (Q:=fun s=>cz.fin L out s) (fun _ _ h=>h) ?_
 have H:_=some out:=H
 unfold cz.f at H
 show de _ cf Cr m _ ⟨[aw.fz b0,.any,.any],[none],h⟩ _
 refine q1 <| qq ?_
 obtain⟨x0,e0,H⟩:=aI H
 refine qr [.a 1 (Ra _ _ e0 h _ (hH (ae (db (E:=aw)) (aC))))] <| qq ?_
 obtain⟨aA,h0,e1,o0⟩:=Ib (E:=aw) (l:=[u8.wrap x0,u8.wrap (fZ .i64 x0 8),u8.wrap (fZ .i64 x0 16),u8.wrap (fZ .i64 x0 24)]) (cs:=[.int .u8 (u8.wrap x0),.int .u8 (u8.wrap (fZ .i64 x0 8)),.int .u8 (u8.wrap (fZ .i64 x0 16)),.int .u8 (u8.wrap (fZ .i64 x0 24))]) o (by kernel_rfl)
 obtain rfl:=oi H
 exact qr [.a 11 e1] <| qt <| ⟨.inl rfl,cb (.rs aA 0 (([u8.wrap x0,u8.wrap (fZ .i64 x0 8),u8.wrap (fZ .i64 x0 16),u8.wrap (fZ .i64 x0 24)]:List Int).length) 1) h0 (b9 (vu (E:=aw) (l:=([u8.wrap x0,u8.wrap (fZ .i64 x0 8),u8.wrap (fZ .i64 x0 16),u8.wrap (fZ .i64 x0 24)])) (q:=0) o0 rfl (fun _=>rfl)))⟩
end
end Go.Proofs.YtmekcfdllhphlaaDoor
namespace Go.Proofs.YtmekcfdllhphlaaDoor
open Go Go.R
open Go.IntKind (i64 u64 u8 u32)
def vP:cg:=gK [0,2,3,5,7,8,24,25,26,27,37,38,39,40] [5,7] [16382,16378,16378,16378,16378,15931,15419,15923,15923,8763,571,8747,8763,8763,15931,16351,16381] [] []
def aS.l1 (m:Nat)(v0:ak):Nat→Int→(List Int)→Option (Int × (List Int))
 | 0,_,_=>none
 | k+1,x3,rT=>if (decide (x3<(v0.nodes.length:Int)))=true then ((ix v0.nodes x3).bind fun v1=>(dU.f m rT v1).bind fun x4=>aS.l1 m v0 k (i64.wrap (x3+(1:Int))) x4) else (some ((x3,rT)))
def aS.l0 (m:Nat)(a6:List ak):Nat→Int→(List Int)→Option (Int × (List Int))
 | 0,_,_=>none
 | k+1,x1,rU=>if (decide (x1<(a6.length:Int)))=true then ((ix a6 x1).bind fun v0=>(bU.f m rU (u64.wrap (v0.nodes.length:Int))).bind fun x2=>(aS.l1 m v0 m (0:Int) x2).bind fun bj=>match bj with | (x5,Lt)=>aS.l0 m a6 k (i64.wrap (x1+(1:Int))) Lt) else (some ((x1,rU)))
def aS.f (m:Nat)(a6:List ak):Option ((List Int)):=(wB ([]) ([(76:Int)])).bind fun xU=>(Fo xU ([(1:Int)])).bind fun N4=>(bU.f m N4 (u64.wrap (a6.length:Int))).bind fun x0=>(aS.l0 m a6 m (0:Int) x0).bind fun bJ=>match bJ with | (x6,xF)=>(ti xF).bind fun u0=>(cz.f m xF).bind fun x7=>(app 1 xF x7).bind fun x8=>some x8
def aS.fin (L:Mem)(r:(List Int))(s:St):Prop:=∃av,aH Tryd.prog (s.open vP) Tryd.f36.results.toList=some av∧fW s.h av (aw.fz r)
def TL (cf:CallF)(m:Nat):Prop:=∀(a6:List ak) (r:(List Int)),aS.f m a6=some r→∀h xs,eN fi h xs [aR.fz a6]→cf 36 xs h=some (aw.fz r,h)
section
variable {cf:CallF}{m:Nat}
theorem aS.eQ (L:Mem)(a6:List ak)(aA:Nat)(x1:Int)(v0:ak)  (Gy:O9 cf m):bD Tryd.prog cf vP m (sub [1,1,1,1,1,0,1,0,0,1,1,0,0,1,1,1,0,0] (codeOf Tryd.f36)) (fun k (σ:Int × (List Int))=>aS.l1 m v0 k σ.1 σ.2) (fun σ s=>match σ with | (x3,rT)=>∃gQ h6,s=⟨.any :: .any :: .ptr aA 0::jP [aR.fz a6,.int .i64 (a6.length:Int),.int .i64 x1,.any,af.fz v0.nodes,.int .i64 (v0.nodes.length:Int),.int .i64 x3,.any],[none,none],h6⟩∧Has h6 ((aA,.ob [.rs gQ 0 rT.length 1,.int .i64 (0:Int),.int .i8 (0:Int)])::(gQ,.row 5 (aw.l rT))::L)) (fun out e s=>(e = .exit 2∧∃x3 rT,(x3,rT)=out∧∃F6 F7 F8 F9 gQ h6,s=⟨.any :: .any :: .ptr aA 0::jP [aR.fz a6,.int .i64 (a6.length:Int),.int .i64 x1,.any,F6,F7,F8,F9],[none,none],h6⟩∧Has h6 ((aA,.ob [.rs gQ 0 rT.length 1,.int .i64 (0:Int),.int .i8 (0:Int)])::(gQ,.row 5 (aw.l rT))::L))):=by
 refine gG (fun _=>rfl) ?_
 rintro k ⟨x3,rT⟩ s out ⟨gQ,h6,rfl,o6⟩ H
 have H:aS.l1 m v0 (k+1) x3 rT=some out:=H
 refine q1 <| qq <| qc H (fun c1 H=>?_) (fun c1 H=>?_)
 ·refine qk <| qq <| qb 3 <| qq ?_
  obtain⟨v1,nJ,H⟩:=aI H
  refine qr [.v 0 (bw (k:=.i64) (E:=af) (l:=v0.nodes) la nJ),.v 1 (dw  (E:=af) (l:=v0.nodes) h6 tq tt nJ)] ?_
  obtain⟨x4,qn,H⟩:=aI H
  obtain⟨il,h7,rL,o7⟩:=Gy _ _ _ qn h6 _ _ _ (o6)  [.ptr aA 0,.agg [.int .i64 v1.kind,.int .i64 v1.int,.str v1.label,aa.fz v1.args]] (an (rfl) (an (aP (nE (cG (bE) (cG (bE) (cG (w7) (cG (iN (E:=aa)) (gL))))))) (bo)))
  exact qr [.a 2 rL] <| q0 <| ⟨(i64.wrap (x3+(1:Int)),x4),⟨il,h7,by kernel_rfl,o7⟩,H⟩
 ·exact qx 2 <| ⟨rfl,x3,rT,oi H,af.fz v0.nodes,.int .i64 (v0.nodes.length:Int),.int .i64 x3,.bool (decide (x3<(v0.nodes.length:Int))),gQ,h6,by kernel_rfl,o6⟩
theorem aS.bI (L:Mem)(a6:List ak)(aA:Nat)  (pd:Mi cf m)(Gy:O9 cf m):bD Tryd.prog cf vP m (sub [1,1,1,1,1,0,1,0,0] (codeOf Tryd.f36)) (fun k (σ:Int × (List Int))=>aS.l0 m a6 k σ.1 σ.2) (fun σ s=>match σ with | (x1,rU)=>∃fS h4,s=⟨.any :: .any :: .ptr aA 0::jP (aR.fz a6 :: .int .i64 (a6.length:Int) :: .int .i64 x1::rB []),[none,none],h4⟩∧Has h4 ((aA,.ob [.rs fS 0 rU.length 1,.int .i64 (0:Int),.int .i8 (0:Int)])::(fS,.row 5 (aw.l rU))::L)) (fun out e s=>(e = .exit 0∧∃x1 rU,(x1,rU)=out∧∃Le Rb Lu AY fS h4,s=⟨.any :: .any :: .ptr aA 0::jP (Le::Rb::Lu::AY::q9 []),[none,none],h4⟩∧Has h4 ((aA,.ob [.rs fS 0 rU.length 1,.int .i64 (0:Int),.int .i8 (0:Int)])::(fS,.row 5 (aw.l rU))::L))):=by
 refine gG (fun _=>rfl) ?_
 rintro k ⟨x1,rU⟩ s out ⟨fS,h4,rfl,o4⟩ H
 have H:aS.l0 m a6 (k+1) x1 rU=some out:=H
 refine q1 <| qq <| qc H (fun c0 H=>?_) (fun c0 H=>?_)
 ·refine qk <| qq <| qb 1 <| qq ?_
  obtain⟨v0,e7,H⟩:=aI H
  refine qr [.v 0 (bw (k:=.i64) (E:=aR) (l:=a6) DE e7),.v 1 (dw  (E:=aR) (l:=a6) h4 L9 Ma e7)] <| qq ?_
  obtain⟨x2,e8,H⟩:=aI H
  obtain⟨gP,h5,e9,o5⟩:=pd _ _ _ e8 h4 _ _ _ (o4)  [.ptr aA 0,.int .u64 (u64.wrap (v0.nodes.length:Int))] (an (rfl) (an (aP (bE)) (bo)))
  refine qr [.a 5 e9] <| qq <| q0 <| qb 2 ?_
  obtain⟨bj,rM,H⟩:=aI H
  refine ql (aS.eQ L a6 aA x1 v0  Gy ((0:Int),x2) _ _ ⟨gP,h5,by kernel_rfl,o5⟩ rM) ?_
  rintro e s ⟨rfl,x5,Lt,rfl,g0,g1,g2,g3,kL,h8,rfl,o8⟩
  try dsimp only at H
  exact q0 <| ⟨(i64.wrap (x1+(1:Int)),Lt),⟨kL,h8,by kernel_rfl,o8⟩,H⟩
 ·exact qx 0 <| ⟨rfl,x1,rU,oi H,aR.fz a6,.int .i64 (a6.length:Int),.int .i64 x1,.bool (decide (x1<(a6.length:Int))),fS,h4,by kernel_rfl,o4⟩
theorem pf {aU:FuncId→cg}(ha:aU 36=vP)(Lv:Q9 cf m)(xy:Nv cf m)(pd:Mi cf m)(Gy:O9 cf m)(Rc:Td cf m)(a6:List ak)(h:AHeap)(L:Mem)  (o:Has h (L)){out:(List Int)}(H:aS.f m a6=some out) :
  ∃r h',bc Tryd.prog aU cf m 36 [aR.fz a6] h=some (r,h')∧fW h' r (aw.fz out):=by
 refine aq (fn:=Tryd.f36) ha Tryd.func36 (by kernel_rfl) (by kernel_rfl) ?_
 refine aG (Q:=fun s=>aS.fin L out s) (fun _ _ h=>h) ?_
 have H:_=some out:=H
 unfold aS.f at H
 show de _ cf vP m _ ⟨aR.fz a6::mL [],[none,none],h⟩ _
 refine q1 <| qq ?_
 obtain⟨aA,h0,e0,o0⟩:=ki (cs:=[.nils,.int .i64 (0:Int),.int .i8 (0:Int)]) o (by kernel_rfl)
 refine qr [.a 1 e0] <| qq ?_
 obtain⟨xU,e1,H⟩:=aI H
 obtain⟨eS,h1,e2,o1⟩:=Ky xy o0 e1
 refine qr [.a 3 e2] <| qq ?_
 obtain⟨N4,e3,H⟩:=aI H
 obtain⟨cF,h2,e4,o2⟩:=sn (bs:=xU) xy o1 e3
 refine qr [.a 3 e4] <| qq ?_
 obtain⟨x0,e5,H⟩:=aI H
 obtain⟨fb,h3,e6,o3⟩:=pd _ _ _ e5 h2 _ _ _ (o2)  [.ptr aA 0,.int .u64 (u64.wrap (a6.length:Int))] (an (rfl) (an (aP (bE)) (bo)))
 refine qr [.a 4 e6] <| qq <| qq <| q0 <| qb 0 ?_
 obtain⟨bJ,tJ,H⟩:=aI H
 refine ql (aS.bI L a6 aA  pd Gy ((0:Int),x0) _ _ ⟨fb,h3,by kernel_rfl,o3⟩ tJ) ?_
 rintro e s ⟨rfl,x6,xF,rfl,g4,g5,g6,g7,xT,h9,rfl,o9⟩
 try dsimp only at H
 refine qq ?_
 obtain⟨u0,rN,H⟩:=aI H
 obtain⟨h10,vJ,tF⟩:=Ij (bs:=xF) Rc o9 rN
 refine qr [.a 3 vJ] ?_
 have uw:Has h10 ((xT,.sl xF.length 1 (aw.l xF))::L):=Has.del tF 0
 refine qq ?_
 obtain⟨x7,uS,H⟩:=aI H
 obtain⟨x8,zR,H⟩:=aI H
 obtain⟨eK,h11,ux,oT⟩:=fF (P:=Tryd.prog) (E:=aw) (l:=xF) (q:=0) (t2:=25) (x:=aw.fz x7) (l2:=x7) Ip uw rfl (E4 (E:=aw) (l2:=x7) _) rfl zR
 obtain rfl:=oi H
 exact qr [.a 2 (Lv _ _ uS h10 _ (hH (ae (s9 (E:=aw) (l:=xF) (q:=0) uw rfl (fun _=>rfl)) (aC)))),.a 3 ux] <| qt <| ⟨.inl rfl,cb (.rs eK 0 x8.length 1) h11 (b9 (vu (E:=aw) (l:=x8) (q:=0) oT rfl (fun _=>rfl)))⟩
end
end Go.Proofs.YtmekcfdllhphlaaDoor
namespace Go.Proofs.YtmekcfdllhphlaaDoor
open Go Go.R
open Go.IntKind (i64 u64 u8 u32)
def Cs:cg:=gK [0,1,2,3,6] [1,2] [25,9,19,19] [] []
def dQ.f (m:Nat)(t0:ak):Option (ak × Int):=(gx.f m t0).bind fun x0=>if (!x0)=true then (some ((ak.mk ([]) (0:Int)),(2:Int))) else ((cy.f m t0).bind fun x1=>some (x1,(0:Int)))
def dQ.fin (L:Mem)(r:ak × Int)(s:St):Prop:=∃av,aH Tryd.prog (s.open Cs) Tryd.f31.results.toList=some av∧wX s.h av (.tup [.agg [af.fz r.1.nodes,.int .i64 r.1.root],.int .i64 r.2])
def Pb (cf:CallF)(m:Nat):Prop:=∀(t0:ak) (r:ak × Int),dQ.f m t0=some r→∀h xs,lA xs [.agg [af.fz t0.nodes,.int .i64 t0.root]]→cf 31 xs h=some (.tup [.agg [af.fz r.1.nodes,.int .i64 r.1.root],.int .i64 r.2],h)
section
variable {cf:CallF}{m:Nat}
theorem rV {aU:FuncId→cg}(ha:aU 31=Cs)(Re:Tu cf m)(Rf:TB cf m)(t0:ak)(h:AHeap)(L:Mem)  (o:Has h (L)){out:ak × Int}(H:dQ.f m t0=some out) :
  ∃r h',bc Tryd.prog aU cf m 31 [.agg [af.fz t0.nodes,.int .i64 t0.root]] h=some (r,h')∧wX h' r (.tup [.agg [af.fz out.1.nodes,.int .i64 out.1.root],.int .i64 out.2]):=by
 refine aq (fn:=Tryd.f31) ha Tryd.func31 (by kernel_rfl) (by kernel_rfl) ?_
 refine aG (Q:=fun s=>dQ.fin L out s) (fun _ _ h=>h) ?_
 have H:_=some out:=H
 unfold dQ.f at H
 show de _ cf Cs m _ ⟨.agg [af.fz t0.nodes,.int .i64 t0.root]::q9 [],[none,none],h⟩ _
 refine q1 <| qq <| qq ?_
 obtain⟨x0,e0,H⟩:=aI H
 refine qr [.a 1 (Re _ _ e0 h _ (hH (ae (dy (ae (db (E:=af)) (ae (aO) (aC)))) (aC))))] <| qc H (fun c0 H=>?_) (fun c0 H=>?_)
 ·obtain rfl:=oi H
  exact q1 <| qt <| ⟨.inl rfl,vD (.tup [.agg [.nils,.int .i64 (0:Int)],.int .i64 (2:Int)]) h (pD (fT (ae (dy (ae (gF) (ae (aO) (aC)))) (ae (aO) (aC)))))⟩
 ·refine qk <| qq ?_
  obtain⟨x1,e1,H⟩:=aI H
  obtain rfl:=oi H
  exact qr [.a 1 (Rf _ _ e1 h _ (cG (nE (cG (iN (E:=af)) (cG (bE) (gL)))) (gL)))] <| qt <| ⟨.inl rfl,vD (.tup [.agg [af.fz x1.nodes,.int .i64 x1.root],.int .i64 (0:Int)]) h (pD (fT (ae (dy (ae (db) (ae (aO) (aC)))) (ae (aO) (aC)))))⟩
end
end Go.Proofs.YtmekcfdllhphlaaDoor
namespace Go.Proofs.YtmekcfdllhphlaaDoor
open Go Go.R
open Go.IntKind (i64 u64 u8 u32)
def Cu:cg:=gK [0,1,2] [1] [5,3] [] []
def fK.f (m:Nat)(n0:ab):Option (Bool):=some (n0.kind==(4:Int))
def fK.fin (L:Mem)(r:Bool)(s:St):Prop:=∃av,aH Tryd.prog (s.open Cu) Tryd.f35.results.toList=some av∧fW s.h av (.bool r)
def TM (cf:CallF)(m:Nat):Prop:=∀(n0:ab) (r:Bool),fK.f m n0=some r→∀h xs,eN fi h xs [.agg [.int .i64 n0.kind,.int .i64 n0.int,.str n0.label,aa.fz n0.args]]→cf 35 xs h=some (.bool r,h)
section
variable {cf:CallF}{m:Nat}
theorem pg {aU:FuncId→cg}(ha:aU 35=Cu)  (n0:ab)(h:AHeap)(L:Mem)  (o:Has h (L)){out:Bool}(H:fK.f m n0=some out) :
  ∃r h',bc Tryd.prog aU cf m 35 [.agg [.int .i64 n0.kind,.int .i64 n0.int,.str n0.label,aa.fz n0.args]] h=some (r,h')∧fW h' r (.bool out):=by
 refine aq (fn:=Tryd.f35) ha Tryd.func35 (by kernel_rfl) (by kernel_rfl) ?_
 refine aG (Q:=fun s=>fK.fin L out s) (fun _ _ h=>h) ?_
 have H:_=some out:=H
 unfold fK.f at H
 show de _ cf Cu m _ ⟨[.agg [.int .i64 n0.kind,.int .i64 n0.int,.str n0.label,aa.fz n0.args],.any,.any],[none],h⟩ _
 obtain rfl:=oi H
 exact q1 <| qq <| q0 <| qt <| ⟨.inl rfl,cb (.bool (n0.kind==(4:Int))) h (b9 (au))⟩
end
end Go.Proofs.YtmekcfdllhphlaaDoor
