/- Proved: PickleGets returns true for every input, over the card of its one listed variable; no condition. -/
import Derived.Test.YtmekcfdllhphlaaGreatDoorK16
import Derived.Test.YtmekcfdllhphlaaGreatDoorChecked
import Derived.Test.YtmekcfdllhphlaaGreatDoorRows
import Derived.Test.YtmekcfdllhphlaaGreatDoorCards
import Derived.Test.YtmekcfdllhphlaaGreatDoorTie
import Derived.ChangeSame
import Derived.ChangeVars
import Derived.JoinedOf
import Derived.LaidLaws
import Derived.LaidHandle
import Derived.Lay
import Derived.Stop.Joined
import Derived.SevenTiedAt
set_option linter.unusedVariables false
set_option linter.unusedSimpArgs false
set_option maxRecDepth 100000
open Int renaming toNat_natCast → aaH
open List renaming length_append → aaI, getElem?_eq_getElem → aaL, append_assoc → aaM, mem_singleton → aaO, drop_eq_getElem_cons → aaP, mem_append → aaQ, length_cons → aaR, drop_eq_nil_of_le → aaU, drop_zero → aa3, take_of_length_le → aa4, nil_append → aa5, map_cons → aa6, mem_cons → abb, getElem_mem → abe, length_nil → abg, append_nil → abu, length_take → abP, flatten_cons → ab6, getElem_of_mem → ab7
open Nat renaming le_refl → aaE
open Option renaming bind_some → aaA, bind_eq_some_iff → aaB, map_eq_some_iff → aaC
open Option.some renaming injEq → aaD, inj → aa2
open Or renaming inl → abM
open Prod.mk renaming injEq → aaJ
namespace Go.Proofs.YtmekcfdllhphlaaGreatDoor
open Go Go.R
open Go.IntKind (i64 u64 u8 u32)
structure DG (m:Nat)(b:List Int)(l:List ak):Prop where
 ng:l.length≤8
 XB:∀t∈l,Ab t
 XC:∀t∈l,dr.f m t=some (t,0)
 lw:∀t∈l,gU t∧kQ t
 put:bz.f m l=some (b,0)
theorem LB {m:Nat}(hm:2 ^ 41≤m){b:List Int}(hb:b.length≤2000){l:List ak}(F:DG m b l):aO.f m b=some (l,0)∧∃c,b=cd l++c:=by
 have kV:(2:Nat) ^ 30=1073741824:=by decide
 have qO:(2:Nat) ^ 41=2199023255552:=by decide
 have KU:(2:Nat) ^ 42=4398046511104:=by decide
 have ED:(2:Nat) ^ 63=9223372036854775808:=by decide
 have hp:=F.put
 obtain⟨ls,k1,k2,k3,k4,k5⟩:=wq hp
 have Vy:ls=l:=by
  apply List.ext_getElem k2
  intro j h1 h2
  have:=k3 j l[j] ls[j] (aaL h2) (aaL h1)
  rw [F.XC _ (abe h2)] at this
  simp only [aaD,aaJ,and_true] at this
  exact this.symm
 subst Vy
 have LU:=iJ F.lw
 rw [yl (by omega) (fun t ht=>(F.lw t ht).2) (by omega) (by omega)] at k4
 simp only [aaB] at k4
 obtain⟨c,hc,k4⟩:=k4
 obtain⟨_,_,hB⟩:=j4 k4
 have s3:=(mL hc).2
 refine⟨?_,c,hB⟩
 have hne:0<(bX ls.length).length:=List.length_pos_iff.2 (Lb _)
 have hE3:3≤(cd ls).length:=by
  unfold cd
  simp only [aaI,aaR,abg]; omega
 obtain⟨x,hx⟩:=Df (m:=m) (by omega) ((ls.length:Int),(⟨bM ls,false⟩:eA)) [] (by simp; omega) ls m 0 [] (by omega) (by simp) rfl fun t ht=>(F.lw t ht).2
 rw [abu] at hx
 have hx:aO.l0 m ((ls.length:Int),(⟨bM ls,false⟩:eA)) m [] 0 ⟨bM ls,false⟩=_:=hx
 have Zu:b.length=(cd ls).length+4:=by rw [hB,aaI,s3]
 have e4:i64.wrap ((b.length:Int) - 4)=((cd ls).length:Int):=by rw [ay (by omega) (by omega)]; omega
 have c1:kU b 0 ((cd ls).length:Int)=some (cd ls):=by
  rw [mi ⟨by omega,by omega,by omega⟩,hB]
  simp
 have c2:kU b ((cd ls).length:Int) (b.length:Int)=some c:=by
  rw [mi ⟨by omega,by omega,by omega⟩,Zu,hB]
  simp
  exact aa4 (by omega)
 have c3:kU b 2 ((cd ls).length:Int)=some (bX ls.length++bM ls):=by
  rw [mi ⟨by omega,by omega,by omega⟩,hB]
  have e:(cd ls++c).drop (2:Int).toNat=(bX ls.length++bM ls)++c:=rfl
  rw [e,show ((cd ls).length:Int).toNat - (2:Int).toNat=(bX ls.length++bM ls).length by unfold cd; simp [aaI]; omega,List.take_left]
 unfold aO.f
 rw [if_neg (by simp only [decide_eq_true_eq]; omega),if_neg (by simp only [decide_eq_true_eq]; omega),e4,c1,aaA,hc,aaA,c2,aaA,rB,aaA,if_neg (by simp),c3,aaA,
  Bl (by omega) (by omega),aaA]
 dsimp only
 rw [hx,aaA]
 dsimp only
 rw [aa5,if_neg (by simp),if_neg (by simp),hp,aaA]
 dsimp only
 rw [if_neg (by simp),rB,aaA,if_neg (by simp)]
theorem JT {m:Nat}(hm:2 ^ 41≤m){b:List Int}(hb:Bytes b)(Ml:b.length≤200000){l:List ak}(H:aO.f m b=some (l,0)):DG m b l∧∃c,b=cd l++c:=by
 have kV:(2:Nat) ^ 30=1073741824:=by decide
 have mZ:(2:Nat) ^ 40=1099511627776:=by decide
 have qO:(2:Nat) ^ 41=2199023255552:=by decide
 have KU:(2:Nat) ^ 42=4398046511104:=by decide
 obtain⟨r,hr,ho⟩:=EP hm hb
 rw [H] at hr
 cases hr
 obtain⟨v2,x2,i1,ob,p,h1,h2,h3,h4,h5,h6,h7⟩:=IW H
 obtain⟨ls,k1,k2,k3,k4,k5⟩:=wq h6
 have hL:∀s∈ls,gU s:=fun s hs=>by
  obtain⟨j,hj,e⟩:=ab7 hs
  have Xq:j<l.length:=by omega
  obtain⟨s',e',q1,q2⟩:=yp hm (ho l[j] (abe Xq))
  have:=k3 j l[j] s (aaL (by omega)) (by rw [aaL hj,e])
  rw [this] at q1
  cases q1
  exact q2 rfl
 rw [oA (f0:=fun y0=>dM.f m y0) (g:=fun t=>t.nodes.any fun n=>n.kind==4) (by omega) (by omega) (fun t ht=>oC (by have:=(hL t ht).ng; omega) (by have:=(hL t ht).ng; omega))] at k5
 have tE:=aa2 k5
 have hW:∀t∈ls,gU t∧kQ t:=fun t ht=>⟨hL t ht,(hL t ht).w (by simpa using List.any_eq_false.1 tE t ht)⟩
 have LU:=iJ hW
 obtain⟨rfl,rfl⟩:=Gk (by omega) hb Ml h1 h2 h3 h7 k4 (by omega) (fun t ht=>(hW t ht).2) (by omega)
 refine⟨⟨k1,ho,fun t ht=>?_,hW,h6⟩,?_⟩
 ·obtain⟨j,hj,e⟩:=ab7 ht
  exact k3 j t t (by rw [aaL hj,e]) (by rw [aaL hj,e])
 ·rw [yl (by omega) (fun t ht=>(hW t ht).2) (by omega) (by omega)] at k4
  simp only [aaB] at k4
  obtain⟨c,hc,k4⟩:=k4
  obtain⟨_,_,e⟩:=j4 k4
  exact⟨c,e⟩
theorem DH {m:Nat}(hm:2 ^ 41≤m){t:ak}(h0:Ab t)(h:dr.f m t=some (t,0)):eW.f m t=some (t,0):=by
 obtain⟨s,e,k1,k2,_⟩:=pM hm h0
 rw [h] at k1
 cases k1
 exact k2
theorem Fc {m:Nat}(hm:2 ^ 41≤m){l:List ak}(h8:l.length≤100)(h0:∀t∈l,Ab t):∀(f i:Nat),l.length - i<f→i≤l.length→
  ∃o,aM.l2 m l f (i:Int)=some o∧(o = .inl ([],2)∨(∃x,o = .inr x)∧∀t∈l.drop i,dr.f m t=some (t,0)∧gU t)
 | 0,i,hf,_=>absurd hf (by omega)
 | f+1,i,hf,hi=>by
  have qO:(2:Nat) ^ 41=2199023255552:=by decide
  unfold aM.l2
  by_cases h:i<l.length
  ·obtain⟨s,e,k1,k2,k3,_,_⟩:=pM hm (h0 _ (abe h))
   rw [if_pos (by simp only [decide_eq_true_eq]; omega),kS h,aaA,k2,aaA]
   dsimp only
   by_cases he:e=0
   ·subst he
    obtain⟨v,g1,g2⟩:=Lz (m:=m) (by omega) (s:=l[i]) (k3 rfl)
    rw [if_neg (by simp),aaA,g1,aaA]
    cases v with
    | false=>exact⟨_,rfl,.inl rfl⟩
    | true=>
     have hs:=g2 rfl
     subst hs
     obtain⟨o,j1,j2⟩:=Fc hm h8 h0 f (i+1) (by omega) (by omega)
     rw [if_neg (by simp),ay (by omega) (by omega),show (i:Int)+1=((i+1:Nat):Int) by omega,j1]
     refine⟨o,rfl,j2.imp id fun ⟨x,q⟩=>⟨x,fun t ht=>?_⟩⟩
     rw [aaP h] at ht
     rcases abb.1 ht with rfl | ht
     ·exact⟨k1,k3 rfl⟩
     ·exact q t ht
   ·rw [if_pos (by simpa using he)]
    exact⟨_,rfl,.inl rfl⟩
  ·exact⟨.inr (i:Int),by rw [if_neg (by simp only [decide_eq_true_eq]; omega)],.inr ⟨⟨_,rfl⟩,by rw [aaU (by omega)]; simp⟩⟩
theorem wO {m:Nat}(hm:2 ^ 41≤m){l:List ak}(h8:l.length≤100)(h0:∀t∈l,Ab t∧dr.f m t=some (t,0)∧gU t):∀(f i:Nat),l.length - i<f→i≤l.length→∃x,aM.l2 m l f (i:Int)=some (.inr x)
 | 0,i,hf,_=>absurd hf (by omega)
 | f+1,i,hf,hi=>by
  have qO:(2:Nat) ^ 41=2199023255552:=by decide
  have kV:(2:Nat) ^ 30=1073741824:=by decide
  unfold aM.l2
  by_cases h:i<l.length
  ·obtain⟨a1,a2,a3⟩:=h0 _ (abe h)
   obtain⟨x,ih⟩:=wO hm h8 h0 f (i+1) (by omega) (by omega)
   refine⟨x,?_⟩
   rw [if_pos (by simp only [decide_eq_true_eq]; omega),kS h,aaA,DH hm a1 a2,aaA,if_neg (by simp),aaA,JK (by omega) a3.ng (fun n hn=>(a3.nodes n hn).1.args),aaA,if_neg (by simp),ay (by omega) (by omega),show (i:Int)+1=((i+1:Nat):Int) by omega,ih]
  ·exact⟨i,by rw [if_neg (by simp only [decide_eq_true_eq]; omega)]⟩
theorem LC {m:Nat}(hm:2 ^ 41≤m){l:List ak}(h0:∀t∈l,Ab t)(h1:∀t∈l,dr.f m t=some (t,0)∧gU t){p:List Int}(hp:bz.f m l=some (p,0)):DG m p l∧Bytes p:=by
 have kV:(2:Nat) ^ 30=1073741824:=by decide
 have mZ:(2:Nat) ^ 40=1099511627776:=by decide
 have qO:(2:Nat) ^ 41=2199023255552:=by decide
 have KU:(2:Nat) ^ 42=4398046511104:=by decide
 obtain⟨ls,k1,k2,k3,k4,k5⟩:=wq hp
 have Vy:ls=l:=by
  apply List.ext_getElem k2
  intro j h2 h3
  have:=k3 j l[j] ls[j] (aaL h3) (aaL h2)
  rw [(h1 _ (abe h3)).1] at this
  simp only [aaD,aaJ,and_true] at this
  exact this.symm
 subst Vy
 rw [oA (f0:=fun y0=>dM.f m y0) (g:=fun t=>t.nodes.any fun n=>n.kind==4) (by omega) (by omega) (fun t ht=>oC (by have:=(h1 t ht).2.ng; omega) (by have:=(h1 t ht).2.ng; omega))] at k5
 have tE:=aa2 k5
 have hW:∀t∈ls,gU t∧kQ t:=fun t ht=>⟨(h1 t ht).2,(h1 t ht).2.w (by simpa using List.any_eq_false.1 tE t ht)⟩
 have LU:=iJ hW
 refine⟨⟨k1,h0,fun t ht=>(h1 t ht).1,hW,hp⟩,?_⟩
 rw [yl (by omega) (fun t ht=>(hW t ht).2) (by omega) (by omega)] at k4
 simp only [aaB] at k4
 obtain⟨c,hc,k4⟩:=k4
 obtain⟨_,_,rfl⟩:=j4 k4
 exact (wu fun t ht=>(hW t ht).2).append (mL hc).1
theorem JU {m:Nat}(hm:1≤m){b:List Int}(h:b.length<2):aB.f m ⟨b,2,false⟩=some (0,⟨b,2,true⟩):=by
 obtain⟨k,rfl⟩:∃k,m=k+1:=⟨m - 1,by omega⟩
 have e:b7.f (k+1) ⟨b,2,false⟩=some (0,⟨b,2,true⟩):=by
  unfold b7.f
  dsimp only
  rw [if_pos (by simp only [decide_eq_true_eq]; omega)]
 unfold aB.f
 conv=>lhs; arg 1; unfold aB.l0
 rw [if_pos (by decide),e,aaA]
 rfl
theorem oe {m:Nat}(hm:2 ^ 41≤m){b:List Int}(hb:Bytes b)(Ml:b.length≤2000):∃r,aO.f m b=some r∧aM.f m b=some r∧(r=([],2)∨r.2=0∧DG m b r.1):=by
 have qO:(2:Nat) ^ 41=2199023255552:=by decide
 have O5:(2:Nat) ^ 63=9223372036854775808:=by decide
 obtain⟨⟨l,e⟩,hG,_⟩:=EP hm hb
 have Mz:∀r,aM.f m b=some r→(r=([],2)∨r.2=0∧∃l,r=(l,0)∧DG m b l)→∃r,aO.f m b=some r∧aM.f m b=some r∧(r=([],2)∨r.2=0∧DG m b r.1):=fun r hr h=>by
  by_cases he:e=0
  ·subst he
   obtain⟨F,c,hc⟩:=JT hm hb (by omega) hG
   refine⟨_,hG,?_,.inr ⟨rfl,F⟩⟩
   have hd:b.drop 2=bX l.length++(bM l++c):=by rw [hc]; simp [cd]
   have t1:=Ds (m:=m) (b:=b) (bad:=false) (by omega) (by omega) (n:=l.length) (by have:=F.ng; omega) hd
   have t1:aB.f m ⟨b,2,false⟩=_:=t1
   have h8:=F.ng
   obtain⟨q,a',t2⟩:=JO (m:=m) (b:=b) (by omega) (by omega) (x0:=((l.length:Int),⟨b,((2+(bX l.length).length:Nat):Int),false⟩)) (by dsimp only; omega) l m 0 [] (2+(bX l.length).length) (by omega) (by simp) rfl F.lw (kg hd)
   have t2:aM.l0 m ((l.length:Int),(⟨b,((2+(bX l.length).length:Nat):Int),false⟩:ao)) m [] 0 ⟨b,((2+(bX l.length).length:Nat):Int),false⟩=_:=t2
   obtain⟨x,t3⟩:=wO (m:=m) hm (l:=l) (by omega) (fun t ht=>⟨F.XB t ht,F.XC t ht,(F.lw t ht).1⟩) m 0 (by omega) (by omega)
   have t3:aM.l2 m l m 0=_:=t3
   obtain⟨p,r1,r2⟩:=BY hm F.XB
   rw [F.put] at r1
   cases r1
   unfold aM.f
   rw [if_neg (by simp only [decide_eq_true_eq]; omega),t1,aaA]
   dsimp only
   rw [if_neg (by simp only [decide_eq_true_eq]; omega),t2,aaA]
   dsimp only
   rw [aa5,if_neg (by simp),t3,aaA]
   dsimp only
   rw [r2,aaA,if_neg (by simp),if_neg (by simp)]
  ·obtain⟨rfl,rfl⟩:=Lk (by omega) hG he
   rcases h with rfl | ⟨_,l',rfl,F⟩
   ·exact⟨_,hG,hr,.inl rfl⟩
   ·have:=(LB hm Ml F).1
    rw [hG] at this
    simp at this
 by_cases h2:2≤b.length
 rotate_left
 ·refine Mz ([],2) ?_ (.inl rfl)
  obtain⟨k,rfl⟩:∃k,m=k+1:=⟨m - 1,by omega⟩
  unfold aM.f
  rw [if_neg (by simp only [decide_eq_true_eq]; omega),JU (by omega) (by omega),aaA]
  dsimp only
  rw [if_neg (by simp)]
  conv=>lhs; arg 1; unfold aM.l0
  rw [if_neg (by simp),aaA]
  rfl
 ·obtain⟨z,a1,iV,e1,t1,_,_⟩:=iC (m:=m) (bad:=false) (by omega) hb (by omega) h2
  have e1:aB.f m ⟨b,2,false⟩=_:=e1
  have key:∃r,aM.f m b=some r∧(r=([],2)∨r.2=0∧∃l,r=(l,0)∧DG m b l):=by
   unfold aM.f
   rw [if_neg (by simp only [decide_eq_true_eq]; omega),e1,aaA]
   dsimp only
   split
   ·exact⟨_,rfl,.inl rfl⟩
   rename_i g
   simp only [decide_eq_true_eq] at g
   obtain⟨o,e2,q2⟩:=tw (m:=m) (by omega) hb (by omega) (x0:=(z,⟨b,(a1:Int),iV⟩)) (by dsimp only; omega) m 0 [] a1 iV (by omega) (by omega) (by simp) t1.len (fun t ht=>by cases ht)
   have e2:aM.l0 m (z,(⟨b,(a1:Int),iV⟩:ao)) m [] 0 ⟨b,(a1:Int),iV⟩=_:=e2
   rw [e2,aaA]
   rcases q2 with rfl | ⟨out,q,t,rfl,h9,h0⟩
   ·exact⟨_,rfl,.inl rfl⟩
   dsimp only
   split
   ·exact⟨_,rfl,.inl rfl⟩
   obtain⟨o,e3,q3⟩:=Fc (m:=m) hm (l:=out) (by omega) h0 m 0 (by omega) (by omega)
   have e3:aM.l2 m out m 0=_:=e3
   rw [e3,aaA]
   rcases q3 with rfl | ⟨⟨x,rfl⟩,q3⟩
   ·exact⟨_,rfl,.inl rfl⟩
   dsimp only
   rw [aa3] at q3
   obtain⟨⟨p,e⟩,r1,r2⟩:=BY hm h0
   rw [r2,aaA]
   dsimp only
   split
   ·exact⟨_,rfl,.inl rfl⟩
   rename_i g1
   have he:e=0:=by simpa using g1
   subst he
   split
   ·exact⟨_,rfl,.inl rfl⟩
   rename_i g2
   obtain⟨F,Zv⟩:=LC hm h0 q3 r1
   have Zw:p=b:=wv (m:=m) Zv hb (by rw [E7]; congr 1; simpa using g2)
   subst Zw
   exact⟨_,rfl,.inr ⟨rfl,_,rfl,F⟩⟩
  obtain⟨r,k1,k2⟩:=key
  exact Mz r k1 k2
theorem B6:∀{a b:List Int},a.Pairwise (fun x y=>x<y)→b.Pairwise (fun x y=>x<y)→(∀x,x∈a↔x∈b)→a=b
 | [],[],_,_,_=>rfl
 | [],y::b,_,_,h=>by have:=(h y).2 (by simp); cases this
 | x::a,[],_,_,h=>by have:=(h x).1 (by simp); cases this
 | x::a,y::b,ha,hb,h=>by
  have Vz:=List.pairwise_cons.1 ha
  have xC:=List.pairwise_cons.1 hb
  have e:x=y:=by
   have h1:=(h x).1 (by simp)
   have h2:=(h y).2 (by simp)
   rcases abb.1 h1 with h1 | h1
   ·exact h1
   ·rcases abb.1 h2 with h2 | h2
    ·exact h2.symm
    ·have:=xC.1 x h1; have:=Vz.1 y h2; omega
  subst e
  congr 1
  refine B6 Vz.2 xC.2 fun z=>?_
  have hz:=h z
  rw [abb,abb] at hz
  constructor
  ·intro hz1
   have:=Vz.1 z hz1
   rcases hz.1 (.inr hz1) with h3 | h3
   ·omega
   ·exact h3
  ·intro hz1
   have:=xC.1 z hz1
   rcases hz.2 (.inr hz1) with h3 | h3
   ·omega
   ·exact h3
theorem Fe {m:Nat}{l:List Int}{n:Int}(hl:l.length≤1000000):∀(f k:Nat),l.length - k<f→k≤l.length→(∀x∈l.take k,x<n)→
  ∃j:Nat,dG.l0 m l n f (k:Int)=some (j:Int)∧j≤l.length∧(∀x∈l.take j,x<n)∧(∀h:j<l.length,n≤l[j])
 | 0,k,hf,_,_=>absurd hf (by omega)
 | f+1,k,hf,hk,hx=>by
  unfold dG.l0
  by_cases h:k<l.length
  ·rw [if_pos (by simp only [decide_eq_true_eq]; omega),kS h,aaA]
   by_cases hlt:l[k]<n
   ·rw [if_pos (by simpa using hlt),ay (by omega) (by omega),show (k:Int)+1=((k+1:Nat):Int) by omega]
    exact Fe hl f (k+1) (by omega) (by omega) fun x GN=>by
     rw [List.take_succ_eq_append_getElem h] at GN
     rcases aaQ.1 GN with h1 | h1
     ·exact hx x h1
     ·simp only [aaO] at h1; subst h1; exact hlt
   ·exact⟨k,by rw [if_neg (by simpa using hlt)],hk,hx,fun _=>by omega⟩
  ·exact⟨k,by rw [if_neg (by simp only [decide_eq_true_eq]; omega)],hk,hx,fun h'=>absurd h' h⟩
theorem VA {m:Nat}{l:List Int}{n:Int}(hm:1000001≤m)(hl:l.length≤1000000)(hp:l.Pairwise (fun x y=>x<y)):∃r,dG.f m l n=some r∧r.Pairwise (fun x y=>x<y)∧(∀x,x∈r↔x∈l∨x=n)∧r.length≤l.length+1:=by
 obtain⟨j,e,h1,h2,h3⟩:=Fe (m:=m) (n:=n) hl m 0 (by omega) (by omega) (by simp)
 have e:dG.l0 m l n m (0:Int)=_:=e
 have s1:kU l 0 (j:Int)=some (l.take j):=by unfold kU; rw [if_pos ⟨by omega,by omega,by omega⟩]; simp
 have s2:kU l (j:Int) (l.length:Int)=some (l.drop j):=by
  unfold kU; rw [if_pos ⟨by omega,by omega,by omega⟩]
  simp only [aaH]
  rw [aa4 (by simp)]
 have a1:∀x:List Int,x.length≤1000002→app 8 [] x=some x:=fun x hx=>by unfold app; rw [if_pos (by simp; omega)]; rfl
 have a2:∀x y:List Int,x.length+y.length≤2000002→app 8 x y=some (x++y):=fun x y hx=>by unfold app; rw [if_pos (by omega)]
 have ht:(l.take j).length=j:=by rw [abP]; omega
 have y7:l.take j++l.drop j=l:=List.take_append_drop j l
 have Pu:(l.take j++l.drop j).Pairwise (fun x y=>x<y):=by rw [y7]; exact hp
 obtain⟨g1,g2,g3⟩:=List.pairwise_append.1 Pu
 have ins:(∀y∈l.drop j,n<y)→(l.take j++[n]++l.drop j).Pairwise (fun x y=>x<y)∧(∀x,x∈l.take j++[n]++l.drop j↔x∈l∨x=n)∧(l.take j++[n]++l.drop j).length≤l.length+1:=fun R5=>by
  refine⟨?_,fun x=>?_,by simp; omega⟩
  ·rw [aaM]
   refine List.pairwise_append.2 ⟨g1,?_,fun a ha b hb=>?_⟩
   ·rw [List.singleton_append,List.pairwise_cons]; exact⟨R5,g2⟩
   ·rw [List.singleton_append] at hb
    rcases abb.1 hb with rfl | hb
    ·exact h2 a ha
    ·exact g3 a ha b hb
  ·rw [aaQ,aaQ,aaO]
   have:x∈l↔x∈l.take j∨x∈l.drop j:=by rw [←aaQ,y7]
   rw [this]
   constructor
   ·rintro ((h | h) | h)
    ·exact .inl (.inl h)
    ·exact .inr h
    ·exact .inl (.inr h)
   ·rintro ((h | h) | h)
    ·exact .inl (.inl h)
    ·exact .inr h
    ·exact .inl (.inr h)
 unfold dG.f
 rw [e,aaA]
 dsimp only
 by_cases hj:j<l.length
 ·have hge:=h3 hj
  rw [if_pos (by simp only [decide_eq_true_eq]; omega),kS hj,aaA]
  by_cases he:l[j]=n
  ·rw [if_pos (by simpa using he)]
   exact⟨l,rfl,hp,fun x=>⟨.inl,fun h=>by
    rcases h with h | rfl
    ·exact h
    ·rw [←he]; exact abe hj⟩,by omega⟩
  ·rw [if_neg (by simpa using he),s1,aaA,a1 _ (by omega),aaA,a2 _ _ (by simp; omega),aaA,s2,aaA,a2 _ _ (by simp; omega),aaA]
   obtain⟨i1,i2,i3⟩:=ins fun y hy=>by
    rw [aaP hj] at hy g2
    rcases abb.1 hy with rfl | hy
    ·omega
    ·have:=(List.pairwise_cons.1 g2).1 y hy; omega
   exact⟨_,rfl,i1,i2,i3⟩
 ·rw [if_neg (by simp only [decide_eq_true_eq]; omega),s1,aaA,a1 _ (by omega),aaA,a2 _ _ (by simp; omega),aaA,s2,aaA,a2 _ _ (by simp; omega),aaA]
  obtain⟨i1,i2,i3⟩:=ins fun y hy=>by
   rw [aaU (by omega)] at hy; cases hy
  exact⟨_,rfl,i1,i2,i3⟩
theorem wP {m:Nat}(hm:1000001≤m){l:List ak}{i:Nat}(hi:i<l.length)(Sy:l[i].nodes.length≤8000):∀(f k:Nat) (out P:List Int),l[i].nodes.length - k<f→k≤l[i].nodes.length→out.length+(l[i].nodes.length - k)≤900000→out.Pairwise (fun x y=>x<y)→(∀x,x∈out↔x∈P)→
  ∃jI q,bK.l1 m (l,0) (i:Int) f out (k:Int)=some (jI,q)∧jI.Pairwise (fun x y=>x<y)∧(∀x,x∈jI↔x∈P++GB (l[i].nodes.drop k))∧jI.length≤out.length+(l[i].nodes.length - k)
 | 0,k,out,P,hf,_,_,_,_=>absurd hf (by omega)
 | f+1,k,out,P,hf,hk,hb,hp,Av=>by
  unfold bK.l1
  dsimp only
  rw [kS hi,aaA]
  by_cases h:k<l[i].nodes.length
  ·have e1:i64.wrap ((k:Int)+1)=((k+1:Nat):Int):=by rw [ay (by omega) (by omega)]; omega
   rw [if_pos (by simp only [decide_eq_true_eq]; omega),aaA,kS h,aaA,aaP h,BZ,e1]
   by_cases Fp:l[i].nodes[k].kind=0
   ·obtain⟨r,r1,r2,r3,r4⟩:=VA (m:=m) (n:=l[i].nodes[k].int) hm (by omega) hp
    obtain⟨jI,q,g1,g2,g3,g4⟩:=wP hm hi Sy f (k+1) r (P++[l[i].nodes[k].int]) (by omega) (by omega) (by omega) r2 (fun x=>by rw [r3 x,Av x,aaQ,aaO])
    refine⟨jI,q,?_,g2,fun x=>?_,by omega⟩
    ·rw [if_pos (by simp [Fp]),aaA,kS h,aaA,r1,aaA,g1]
    ·rw [g3 x,if_pos Fp,aaM]; rfl
   ·obtain⟨jI,q,g1,g2,g3,g4⟩:=wP hm hi Sy f (k+1) out P (by omega) (by omega) (by omega) hp Av
    exact⟨jI,q,by rw [if_neg (by simp [Fp]),g1],g2,fun x=>by rw [g3 x,if_neg Fp],by omega⟩
  ·exact⟨out,_,by rw [if_neg (by simp only [decide_eq_true_eq]; omega)],hp,fun x=>by rw [aaU (by omega),Av x]; simp [GB],by omega⟩
theorem B7 {m:Nat}(hm:1000001≤m){l:List ak}(h8:l.length≤8)(hl:∀t∈l,t.nodes.length≤8000):∀(f i:Nat) (out P:List Int),l.length - i<f→i≤l.length→out.length≤8000*i→out.Pairwise (fun x y=>x<y)→(∀x,x∈out↔x∈P)→
  ∃jI q,bK.l0 m (l,0) f out (i:Int)=some (jI,q)∧jI.Pairwise (fun x y=>x<y)∧∀x,x∈jI↔x∈P++uf (l.drop i)
 | 0,i,out,P,hf,_,_,_,_=>absurd hf (by omega)
 | f+1,i,out,P,hf,hi,hb,hp,Av=>by
  unfold bK.l0
  dsimp only
  by_cases h:i<l.length
  ·have Sy:=hl _ (abe h)
   obtain⟨r,q,r1,r2,r3,r4⟩:=wP (m:=m) hm h Sy m 0 out P (by omega) (by omega) (by omega) hp Av
   have r1:bK.l1 m (l,0) (i:Int) m out 0=_:=r1
   obtain⟨jI,q',g1,g2,g3⟩:=B7 hm h8 hl f (i+1) r _ (by omega) (by omega) (by omega) r2 r3
   refine⟨jI,q',?_,g2,fun x=>?_⟩
   ·rw [if_pos (by simp only [decide_eq_true_eq]; omega),r1,aaA]
    dsimp only
    rw [ay (by omega) (by omega),show (i:Int)+1=((i+1:Nat):Int) by omega,g1]
   ·rw [g3 x,aaP h,sO,aaM,aa3]
  ·exact⟨out,_,by rw [if_neg (by simp only [decide_eq_true_eq]; omega)],hp,fun x=>by rw [aaU (by omega),Av x]; simp [uf]⟩
theorem GF (l:List Int):(once l).Pairwise (fun x y=>x<y):=(sN (wM l) (gQ l).length (aaE _)).1
theorem GG {m:Nat}(hm:2 ^ 41≤m){b:List Int}(hb:Bytes b)(Ml:b.length≤2000):∃r,bf.f m b=some r∧bK.f m b=some r:=by
 have qO:(2:Nat) ^ 41=2199023255552:=by decide
 obtain⟨⟨l,e⟩,k1,k2,k3⟩:=oe hm hb Ml
 rcases k3 with h | ⟨h,F⟩
 ·cases h
  exact⟨([],2),by unfold bf.f; rw [k1]; rfl,by unfold bK.f; rw [k2]; rfl⟩
 ·dsimp only at h F
  subst h
  have hl:∀t∈l,t.nodes.length≤8000:=fun t ht=>(F.lw t ht).1.ng
  have h8:=F.ng
  refine⟨_,Fa (m:=m) (by omega) k1 (by have:=F.ng; omega) (fun t ht=>by have:=hl t ht; omega),?_⟩
  obtain⟨r,q,r1,r2,r3⟩:=B7 (m:=m) (by omega) F.ng hl m 0 [] [] (by omega) (by omega) (by simp) .nil (fun x=>Iff.rfl)
  have r1:bK.l0 m (l,0) m [] 0=_:=r1
  have:r=once (uf l):=B6 r2 (GF _) fun x=>by
   rw [r3 x,aa5,aa3,(GA (uf l)).2 x]
  subst this
  unfold bK.f
  rw [k2,aaA,if_neg (by simp),r1]
  rfl
theorem DI {m:Nat}(hm:2 ^ 41≤m){x y:List Int}(hx:Bytes x)(hy:Bytes y)(lx:x.length≤2000)(ly:y.length≤2000):∃r,bH.f m x y=some r∧eX.f m x y=some r:=by
 obtain⟨⟨l,e⟩,k1,k2,_⟩:=oe hm hx lx
 obtain⟨⟨k,d⟩,j1,j2,_⟩:=oe hm hy ly
 have qO:(2:Nat) ^ 41=2199023255552:=by decide
 obtain⟨f,rfl⟩:∃f,m=f+1+1+1:=⟨m - 3,by omega⟩
 have e0:ix ([x,y]:List (List Int)) 0=some x:=rfl
 have e1:ix ([x,y]:List (List Int)) 1=some y:=rfl
 have w1:i64.wrap ((0:Int)+1)=1:=by decide
 have w2:i64.wrap ((1:Int)+1)=2:=by decide
 by_cases he:e=0
 ·subst he
  by_cases hd:d=0
  ·subst hd
   refine⟨((bQ x).data.toList==(bQ y).data.toList,0),?_,?_⟩
   ·unfold bH.f
    conv=>lhs; arg 1; unfold bH.l0
    rw [if_pos (by simp),e0,aaA,k1,aaA,if_neg (by simp),w1]
    conv=>lhs; arg 1; unfold bH.l0
    rw [if_pos (by simp),e1,aaA,j1,aaA,if_neg (by simp),w2]
    conv=>lhs; arg 1; unfold bH.l0
    rw [if_neg (by simp)]
    rfl
   ·unfold eX.f
    rw [k2,aaA,if_neg (by simp),j2,aaA,if_neg (by simp)]
  ·refine⟨(false,d),?_,?_⟩
   ·unfold bH.f
    conv=>lhs; arg 1; unfold bH.l0
    rw [if_pos (by simp),e0,aaA,k1,aaA,if_neg (by simp),w1]
    conv=>lhs; arg 1; unfold bH.l0
    rw [if_pos (by simp),e1,aaA,j1,aaA,if_pos (by simpa using hd)]
    rfl
   ·unfold eX.f
    rw [k2,aaA,if_neg (by simp),j2,aaA,if_pos (by simpa using hd)]
 ·refine⟨(false,e),?_,?_⟩
  ·unfold bH.f
   conv=>lhs; arg 1; unfold bH.l0
   rw [if_pos (by simp),e0,aaA,k1,aaA,if_pos (by simpa using he)]
   rfl
  ·unfold eX.f
   rw [k2,aaA,if_pos (by simpa using he)]
theorem Ff {m:Nat}{l:List ak}(h8:l.length≤8)(hg:∀t∈l,aR.f m t t=some true):∀(f i:Nat),l.length - i<f→i≤l.length→∃x,cP.l0 m l l f (i:Int)=some (.inr x)
 | 0,i,hf,_=>absurd hf (by omega)
 | f+1,i,hf,hi=>by
  unfold cP.l0
  by_cases h:i<l.length
  ·obtain⟨x,ih⟩:=Ff h8 hg f (i+1) (by omega) (by omega)
   exact⟨x,by rw [if_pos (by simp only [decide_eq_true_eq]; omega),kS h,aaA,aaA,hg _ (abe h),aaA,if_neg (by simp),ay (by omega) (by omega),show (i:Int)+1=((i+1:Nat):Int) by omega,ih]⟩
  ·exact⟨i,by rw [if_neg (by simp only [decide_eq_true_eq]; omega)]⟩
theorem yz {m:Nat}(hm:9≤m){l:List ak}(h8:l.length≤8)(hg:∀t∈l,aR.f m t t=some true):cP.f m l l=some true:=by
 obtain⟨x,e⟩:=Ff h8 hg m 0 (by omega) (by omega)
 have e:cP.l0 m l l m 0=_:=e
 unfold cP.f
 rw [if_neg (by simp),e,aaA]
theorem Fg {m:Nat}{l:List Int}(hl:l.length<9223372036854775807):∀(f i:Nat),l.length - i<f→i≤l.length→∃x,cZ.l0 m l l f (i:Int)=some (.inr x)
 | 0,i,hf,_=>absurd hf (by omega)
 | f+1,i,hf,hi=>by
  unfold cZ.l0
  by_cases h:i<l.length
  ·obtain⟨x,ih⟩:=Fg (m:=m) hl f (i+1) (by omega) (by omega)
   exact⟨x,by rw [if_pos (by simp only [decide_eq_true_eq]; omega),kS h,aaA,aaA,if_neg (by simp),ay (by omega) (by omega),show (i:Int)+1=((i+1:Nat):Int) by omega,ih]⟩
  ·exact⟨i,by rw [if_neg (by simp only [decide_eq_true_eq]; omega)]⟩
theorem GH {m:Nat}{l:List Int}(hl:l.length<m)(h2:l.length<9223372036854775807):cZ.f m l l=some true:=by
 obtain⟨x,e⟩:=Fg (m:=m) h2 m 0 (by omega) (by omega)
 have e:cZ.l0 m l l m 0=_:=e
 unfold cZ.f
 rw [if_neg (by simp),e,aaA]
theorem JV {m:Nat}(hm:2 ^ 41≤m){b:List Int}(hb:Bytes b)(Ml:b.length≤2000){r:List Int × Int}(h:bf.f m b=some r):r.1.length≤100000:=by
 have qO:(2:Nat) ^ 41=2199023255552:=by decide
 obtain⟨⟨l,e⟩,k1,_,k3⟩:=oe hm hb Ml
 rcases k3 with h' | ⟨h',F⟩
 ·cases h'
  have:bf.f m b=some ([],2):=by unfold bf.f; rw [k1]; rfl
  rw [this] at h
  cases h
  simp
 ·dsimp only at h' F
  subst h'
  have h8:=F.ng
  have hl:∀t∈l,t.nodes.length≤8000:=fun t ht=>(F.lw t ht).1.ng
  rw [Fa (m:=m) (by omega) k1 (by omega) (fun t ht=>by have:=hl t ht; omega)] at h
  cases h
  have h1:=JR (uf l)
  have h2:=B0 l
  have h3:∀k:List ak,(∀t∈k,t.nodes.length≤8000)→(k.map fun t=>t.nodes.length).sum≤8000*k.length:=by
   intro k
   induction k with
   | nil=>simp
   | cons t k ih=>
    intro hk
    have a1:=hk t (by simp)
    have a2:=ih fun u hu=>hk u (by simp [hu])
    rw [aa6,List.sum_cons,aaR]; omega
  have:=h3 l hl
  dsimp only
  omega
theorem GI {m:Nat}(hm:2 ^ 63≤m){x y:List Int}(hx:Bytes x)(hy:Bytes y):eC.f m x y=some true:=by
 have qO:(2:Nat) ^ 41=2199023255552:=by decide
 have mZ:(2:Nat) ^ 40=1099511627776:=by decide
 have kV:(2:Nat) ^ 30=1073741824:=by decide
 have ED:(2:Nat) ^ 63=9223372036854775808:=by decide
 have ha:kb.f m=some true:=rfl
 unfold eC.f
 by_cases h1:x.length≤2000
 rotate_left
 ·rw [if_pos (by simp only [decide_eq_true_eq]; omega),ha]; rfl
 rw [if_neg (by simp only [decide_eq_true_eq]; omega)]
 by_cases h2:y.length≤2000
 rotate_left
 ·rw [if_pos (by simp only [decide_eq_true_eq]; omega),ha]; rfl
 rw [if_neg (by simp only [decide_eq_true_eq]; omega)]
 obtain⟨r,k1,k2,k3⟩:=oe (m:=m) (by omega) hx h1
 obtain⟨o,o1,o2⟩:=GG (m:=m) (by omega) hx h1
 obtain⟨e,e1,e2⟩:=DI (m:=m) (by omega) hx hy h1 h2
 obtain⟨s,s1,s2,_⟩:=Jj (m:=m) (by omega) (b:=x) (by omega) (by omega)
 have hs:cP.f m r.1 r.1=some true:=by
  rcases k3 with rfl | ⟨_,F⟩
  ·exact yz (by omega) (by simp) (fun t ht=>by cases ht)
  ·exact yz (by omega) F.ng fun t ht=>JK (by omega) (F.lw t ht).1.ng fun n hn=>((F.lw t ht).1.nodes n hn).1.args
 have J4:=JV (m:=m) (by omega) hx h1 o1
 have hi:=GH (m:=m) (l:=o.1) (by omega) (by omega)
 rw [k1,aaA,k2,aaA,o1,aaA,o2,aaA,e1,aaA,e2,aaA,hs,aaA,if_pos rfl,if_pos (by simp),hi,aaA,if_pos rfl,if_pos (by simp),if_pos (by simp),if_pos (by simp),s1,aaA,s2,aaA,if_pos (by simp),ha]
 rfl
end Go.Proofs.YtmekcfdllhphlaaGreatDoor
namespace Go.Proofs.YtmekcfdllhphlaaGreatDoor
open Go Go.R
open Go.IntKind (i64 u64 u8 u32)
end Go.Proofs.YtmekcfdllhphlaaGreatDoor
namespace Go.Proofs.YtmekcfdllhphlaaGreatDoor
open Go Go.R
open Go.IntKind (i64 u64 u8 u32)
theorem B8 {P:Program}{m:Nat}{t u:TypeId}{vd:List AV}(h:qu P m [t,u] vd):∃xs ys,vd=[nA P t xs,nA P u ys]∧Fits P m t xs∧Fits P m u ys:=by
 cases vd with
 | nil=>exact h.elim
 | cons x vd=>
  obtain⟨⟨xs,hx,hf⟩,h⟩:=h
  cases vd with
  | nil=>exact h.elim
  | cons y vd=>
   obtain⟨⟨ys,hy,hg⟩,h⟩:=h
   cases vd with
   | nil=>exact⟨xs,ys,by rw [hx,hy],hf,hg⟩
   | cons _ _=>exact h.elim
end Go.Proofs.YtmekcfdllhphlaaGreatDoor
namespace Go.Proofs.YtmekcfdllhphlaaGreatDoor
open Go Go.R
open Go.IntKind (i64 u64 u8 u32)
theorem OB {n:Nat}{xs:List AV}(h:Fits Tryz.prog (n+1) 5 xs):∃z:Int,xs=[.int .u8 z]∧0≤z∧z<256:=by
 unfold Fits at h
 rw [Tryz.underlying5] at h
 obtain⟨z,rfl,h1,h2⟩:=h
 have g1:(0:Int)≤z:=h1
 have g2:z≤255:=h2
 exact⟨z,rfl,g1,by omega⟩
theorem Fh:∀rX:List (List AV),(∀el∈rX,∃z:Int,el=[.int .u8 z]∧0≤z∧z<256)→∃l:List Int,rX.flatten=af.l l∧l.length=rX.length∧Bytes l
 | [],_=>⟨[],rfl,rfl,fun x hx=>by cases hx⟩
 | el::rX,h=>by
  obtain⟨z,rfl,z0,z1⟩:=h el (by simp)
  obtain⟨l,h1,h2,h3⟩:=Fh rX fun e he=>h e (by simp [he])
  refine⟨z::l,?_,by simp [h2],fun x hx=>?_⟩
  ·rw [ab6,h1,da.eF]; rfl
  ·rcases abb.1 hx with rfl | hx
   ·exact⟨z0,z1⟩
   ·exact h3 x hx
theorem GJ {n:Nat}{xs:List AV}(h:Fits Tryz.prog (n+2) 22 xs):∃(x:AV) (l:List Int),xs=[x]∧Bytes l∧((x = .nils∧l=[])∨x=af.fz l):=by
 unfold Fits at h
 rw [Tryz.underlying22] at h
 rcases h with rfl | ⟨rX,rfl,_,h⟩
 ·exact⟨_,[],rfl,(fun x hx=>by cases hx),abM ⟨rfl,rfl⟩⟩
 ·obtain⟨l,h1,h2,h3⟩:=Fh rX fun el he=>OB (h el he).2
  exact⟨_,l,rfl,h3,.inr (by rw [h1,←h2]; rfl)⟩
theorem JW {n:Nat}{xs:List AV}(h:Fits Tryz.prog (n+2) 22 xs):∃l:List Int,Bytes l∧∀hp,mY 4 hp (nA Tryz.prog 22 xs) (af.fz l):=by
 obtain⟨x,l,rfl,hb,hx⟩:=GJ h
 have e1:nA Tryz.prog 22 [x]=x:=by unfold nA; rw [Tryz.underlying22]; rfl
 rw [e1]
 refine⟨l,hb,fun hp=>?_⟩
 rcases hx with⟨rfl,rfl⟩| rfl
 ·exact (dV (E:=af)).mono (by decide)
 ·exact (bB (E:=af)).mono (by decide)
end Go.Proofs.YtmekcfdllhphlaaGreatDoor
namespace Go.Proofs.YtmekcfdllhphlaaGreatDoor
open Go Go.R Go.Shelf
def Pg:Ren:={
 f:=(fun x=>match x with | 178=>103 | 179=>56 | 181=>100 | 184=>101 | 251=>79 | 252=>80 | 290=>102 | 324=>112 | n=>n),
 t:=(fun x=>match x with | 0=>0 | 3=>3 | 4=>4 | 5=>5 | 9=>9 | 20=>20 | 37=>22 | 75=>90 | 80=>73 | 91=>84 | 93=>86 | 130=>112 | 131=>106 | n=>n),
 g:=(fun x=>match x with | 14=>0 | n=>n)}
theorem LD:LaysM.n179 Tryz.prog Pg:={
 mixed:=by kernel_rfl,
 f179:=Tryz.func56.trans (congrArg some (by kernel_rfl)),
 f181:=Tryz.func100.trans (congrArg some (by kernel_rfl)),
 f184:=Tryz.func101.trans (congrArg some (by kernel_rfl)),
 f251:=Tryz.func79.trans (congrArg some (by kernel_rfl)),
 f252:=Tryz.func80.trans (congrArg some (by kernel_rfl)),
 f290:=Tryz.func102.trans (congrArg some (by kernel_rfl)),
 f324:=Tryz.func112.trans (congrArg some (by kernel_rfl)),
 t0:=Tryz.underlying0,
 a0:=Tryz.isAgg0,
 z0:=Tryz.sizeOf0,
 v0:=Tryz.zeroValue0,
 t3:=Tryz.underlying3,
 a3:=Tryz.isAgg3,
 z3:=Tryz.sizeOf3,
 v3:=Tryz.zeroValue3,
 t4:=Tryz.underlying4,
 a4:=Tryz.isAgg4,
 z4:=Tryz.sizeOf4,
 v4:=Tryz.zeroValue4,
 t5:=Tryz.underlying5,
 a5:=Tryz.isAgg5,
 z5:=Tryz.sizeOf5,
 v5:=Tryz.zeroValue5,
 t20:=Tryz.underlying20,
 a20:=Tryz.isAgg20,
 z20:=Tryz.sizeOf20,
 v20:=Tryz.zeroValue20,
 t37:=Tryz.underlying22,
 a37:=Tryz.isAgg22,
 z37:=Tryz.sizeOf22,
 v37:=Tryz.zeroValue22,
 t75:=Tryz.underlying90,
 a75:=Tryz.isAgg90,
 z75:=Tryz.sizeOf90,
 v75:=Tryz.zeroValue90,
 t91:=Tryz.underlying84,
 a91:=Tryz.isAgg84,
 z91:=Tryz.sizeOf84,
 v91:=Tryz.zeroValue84,
 t93:=Tryz.underlying86,
 a93:=Tryz.isAgg86,
 z93:=Tryz.sizeOf86,
 v93:=Tryz.zeroValue86,
 t130:=Tryz.underlying112,
 a130:=Tryz.isAgg112,
 z130:=Tryz.sizeOf112,
 v130:=Tryz.zeroValue112,
 t131:=Tryz.underlying106,
 a131:=Tryz.isAgg106,
 z131:=Tryz.sizeOf106,
 v131:=Tryz.zeroValue106,
 g14:=by kernel_rfl,
 t9:=Tryz.underlying9,
 a9:=Tryz.isAgg9,
 z9:=Tryz.sizeOf9,
 v9:=Tryz.zeroValue9,
 t80:=Tryz.underlying73,
 a80:=Tryz.isAgg73,
 z80:=Tryz.sizeOf73,
 v80:=Tryz.zeroValue73,
 i0:=by kernel_rfl,
 i3:=by kernel_rfl,
 i4:=by kernel_rfl,
 i5:=by kernel_rfl,
 i9:=by kernel_rfl,
 i20:=by kernel_rfl,
 i37:=by kernel_rfl,
 i75:=by kernel_rfl,
 i80:=by kernel_rfl,
 i91:=by kernel_rfl,
 i93:=by kernel_rfl,
 i130:=by kernel_rfl,
 i131:=by kernel_rfl,
 m14:=by kernel_rfl}
theorem LF:LaysM.n178 Tryz.prog Pg:={
 mixed:=by kernel_rfl,
 f178:=Tryz.func103.trans (congrArg some (by kernel_rfl)),
 f181:=Tryz.func100.trans (congrArg some (by kernel_rfl)),
 f184:=Tryz.func101.trans (congrArg some (by kernel_rfl)),
 f251:=Tryz.func79.trans (congrArg some (by kernel_rfl)),
 f252:=Tryz.func80.trans (congrArg some (by kernel_rfl)),
 f290:=Tryz.func102.trans (congrArg some (by kernel_rfl)),
 f324:=Tryz.func112.trans (congrArg some (by kernel_rfl)),
 t0:=Tryz.underlying0,
 a0:=Tryz.isAgg0,
 z0:=Tryz.sizeOf0,
 v0:=Tryz.zeroValue0,
 t3:=Tryz.underlying3,
 a3:=Tryz.isAgg3,
 z3:=Tryz.sizeOf3,
 v3:=Tryz.zeroValue3,
 t4:=Tryz.underlying4,
 a4:=Tryz.isAgg4,
 z4:=Tryz.sizeOf4,
 v4:=Tryz.zeroValue4,
 t9:=Tryz.underlying9,
 a9:=Tryz.isAgg9,
 z9:=Tryz.sizeOf9,
 v9:=Tryz.zeroValue9,
 t20:=Tryz.underlying20,
 a20:=Tryz.isAgg20,
 z20:=Tryz.sizeOf20,
 v20:=Tryz.zeroValue20,
 t37:=Tryz.underlying22,
 a37:=Tryz.isAgg22,
 z37:=Tryz.sizeOf22,
 v37:=Tryz.zeroValue22,
 t75:=Tryz.underlying90,
 a75:=Tryz.isAgg90,
 z75:=Tryz.sizeOf90,
 v75:=Tryz.zeroValue90,
 t91:=Tryz.underlying84,
 a91:=Tryz.isAgg84,
 z91:=Tryz.sizeOf84,
 v91:=Tryz.zeroValue84,
 t93:=Tryz.underlying86,
 a93:=Tryz.isAgg86,
 z93:=Tryz.sizeOf86,
 v93:=Tryz.zeroValue86,
 t130:=Tryz.underlying112,
 a130:=Tryz.isAgg112,
 z130:=Tryz.sizeOf112,
 v130:=Tryz.zeroValue112,
 t131:=Tryz.underlying106,
 a131:=Tryz.isAgg106,
 z131:=Tryz.sizeOf106,
 v131:=Tryz.zeroValue106,
 g14:=by kernel_rfl,
 t5:=Tryz.underlying5,
 a5:=Tryz.isAgg5,
 z5:=Tryz.sizeOf5,
 v5:=Tryz.zeroValue5,
 t80:=Tryz.underlying73,
 a80:=Tryz.isAgg73,
 z80:=Tryz.sizeOf73,
 v80:=Tryz.zeroValue73,
 i0:=by kernel_rfl,
 i3:=by kernel_rfl,
 i4:=by kernel_rfl,
 i5:=by kernel_rfl,
 i9:=by kernel_rfl,
 i20:=by kernel_rfl,
 i37:=by kernel_rfl,
 i75:=by kernel_rfl,
 i80:=by kernel_rfl,
 i91:=by kernel_rfl,
 i93:=by kernel_rfl,
 i130:=by kernel_rfl,
 i131:=by kernel_rfl,
 m14:=by kernel_rfl}
theorem fits:Fit Tryz.prog:=M4 (by kernel_rfl) (by kernel_rfl)
theorem LG:∀(vs:Array Value) (w:World),(callFunc (Pg.f 179) vs).run Tryz.prog w = .ok (.enter (Pg.f 179) vs) w:=
 ik (c:=codeOf Tryz.f56) Tryz.func56 (by kernel_rfl) (by decide +kernel)
theorem JX:∀(vs:Array Value) (w:World),(callFunc (Pg.f 178) vs).run Tryz.prog w = .ok (.enter (Pg.f 178) vs) w:=
 ik (c:=codeOf Tryz.f103) Tryz.func103 (by kernel_rfl) (by decide +kernel)
noncomputable def JY:FuncId→Option (List AV→AHeap→Option (AV × AHeap)):=fun f=>if f=56 then some (wbA 5) else if f=103 then some (wsA 5) else none
theorem wQ:IntrOK Tryz.prog JY:=intr_cons (f0:=56) (wb_ok LD LG) wb_steady (intr_cons (f0:=103) (ws_ok LF JX) ws_steady FI)
end Go.Proofs.YtmekcfdllhphlaaGreatDoor
namespace Go.Proofs.YtmekcfdllhphlaaGreatDoor
open Go Go.R Go.Shelf
def OC:Ren:={f:=(fun x=>match x with | 189=>31 | 125=>51 | 257=>50 | 128=>73 | 129=>74 | 294=>64 | 295=>65 | 296=>66 | 297=>67 | 298=>68 | 299=>69 | 216=>70 | 300=>71 | 301=>72 | 328=>87 | 329=>88 | 330=>89 | 331=>90 | 332=>91 | 215=>92 | 343=>105 | n=>n),t:=(fun x=>match x with | 28=>28 | 3=>3 | 46=>66 | 0=>0 | 51=>65 | 53=>40 | 4=>4 | 183=>101 | 182=>100 | 131=>106 | 5=>5 | 9=>9 | 218=>121 | 222=>125 | 228=>138 | 229=>139 | n=>n),g:=(fun n=>n)}
theorem RC:Lays.n189 Tryz.prog OC:={
 mixed:=by kernel_rfl,
 f125:=Tryz.func51.trans (congrArg some (by kernel_rfl)),
 f128:=Tryz.func73.trans (congrArg some (by kernel_rfl)),
 f129:=Tryz.func74.trans (congrArg some (by kernel_rfl)),
 f189:=Tryz.func31.trans (congrArg some (by kernel_rfl)),
 f215:=Tryz.func92.trans (congrArg some (by kernel_rfl)),
 f216:=Tryz.func70.trans (congrArg some (by kernel_rfl)),
 f257:=Tryz.func50.trans (congrArg some (by kernel_rfl)),
 f294:=Tryz.func64.trans (congrArg some (by kernel_rfl)),
 f295:=Tryz.func65.trans (congrArg some (by kernel_rfl)),
 f296:=Tryz.func66.trans (congrArg some (by kernel_rfl)),
 f297:=Tryz.func67.trans (congrArg some (by kernel_rfl)),
 f298:=Tryz.func68.trans (congrArg some (by kernel_rfl)),
 f299:=Tryz.func69.trans (congrArg some (by kernel_rfl)),
 f300:=Tryz.func71.trans (congrArg some (by kernel_rfl)),
 f301:=Tryz.func72.trans (congrArg some (by kernel_rfl)),
 f328:=Tryz.func87.trans (congrArg some (by kernel_rfl)),
 f329:=Tryz.func88.trans (congrArg some (by kernel_rfl)),
 f330:=Tryz.func89.trans (congrArg some (by kernel_rfl)),
 f331:=Tryz.func90.trans (congrArg some (by kernel_rfl)),
 f332:=Tryz.func91.trans (congrArg some (by kernel_rfl)),
 f343:=Tryz.func105.trans (congrArg some (by kernel_rfl)),
 t0:=Tryz.underlying0,
 a0:=Tryz.isAgg0,
 z0:=Tryz.sizeOf0,
 v0:=Tryz.zeroValue0,
 t3:=Tryz.underlying3,
 a3:=Tryz.isAgg3,
 z3:=Tryz.sizeOf3,
 v3:=Tryz.zeroValue3,
 t4:=Tryz.underlying4,
 a4:=Tryz.isAgg4,
 z4:=Tryz.sizeOf4,
 v4:=Tryz.zeroValue4,
 t5:=Tryz.underlying5,
 a5:=Tryz.isAgg5,
 z5:=Tryz.sizeOf5,
 v5:=Tryz.zeroValue5,
 t9:=Tryz.underlying9,
 a9:=Tryz.isAgg9,
 z9:=Tryz.sizeOf9,
 v9:=Tryz.zeroValue9,
 t28:=Tryz.underlying28,
 a28:=Tryz.isAgg28,
 z28:=Tryz.sizeOf28,
 v28:=Tryz.zeroValue28,
 t46:=Tryz.underlying66,
 a46:=Tryz.isAgg66,
 z46:=Tryz.sizeOf66,
 v46:=Tryz.zeroValue66,
 t51:=Tryz.underlying65,
 a51:=Tryz.isAgg65,
 z51:=Tryz.sizeOf65,
 v51:=Tryz.zeroValue65,
 t53:=Tryz.underlying40,
 a53:=Tryz.isAgg40,
 z53:=Tryz.sizeOf40,
 v53:=Tryz.zeroValue40,
 t131:=Tryz.underlying106,
 a131:=Tryz.isAgg106,
 z131:=Tryz.sizeOf106,
 v131:=Tryz.zeroValue106,
 t182:=Tryz.underlying100,
 a182:=Tryz.isAgg100,
 z182:=Tryz.sizeOf100,
 v182:=Tryz.zeroValue100,
 t183:=Tryz.underlying101,
 a183:=Tryz.isAgg101,
 z183:=Tryz.sizeOf101,
 v183:=Tryz.zeroValue101,
 t218:=Tryz.underlying121,
 a218:=Tryz.isAgg121,
 z218:=Tryz.sizeOf121,
 v218:=Tryz.zeroValue121,
 t222:=Tryz.underlying125,
 a222:=Tryz.isAgg125,
 z222:=Tryz.sizeOf125,
 v222:=Tryz.zeroValue125,
 t228:=Tryz.underlying138,
 a228:=Tryz.isAgg138,
 z228:=Tryz.sizeOf138,
 v228:=Tryz.zeroValue138,
 t229:=Tryz.underlying139,
 a229:=Tryz.isAgg139,
 z229:=Tryz.sizeOf139,
 v229:=Tryz.zeroValue139}
def OD:Ren:={f:=(fun x=>match x with | 20=>32 | n=>n),t:=(fun x=>match x with | 22=>28 | 3=>3 | 4=>4 | 0=>0 | n=>n),g:=(fun n=>n)}
theorem RD:Lays2.n20 Tryz.prog OD:={
 mixed:=by kernel_rfl,
 f20:=Tryz.func32.trans (congrArg some (by kernel_rfl)),
 t0:=Tryz.underlying0,
 a0:=Tryz.isAgg0,
 z0:=Tryz.sizeOf0,
 v0:=Tryz.zeroValue0,
 t3:=Tryz.underlying3,
 a3:=Tryz.isAgg3,
 z3:=Tryz.sizeOf3,
 v3:=Tryz.zeroValue3,
 t4:=Tryz.underlying4,
 a4:=Tryz.isAgg4,
 z4:=Tryz.sizeOf4,
 v4:=Tryz.zeroValue4,
 t22:=Tryz.underlying28,
 a22:=Tryz.isAgg28,
 z22:=Tryz.sizeOf28,
 v22:=Tryz.zeroValue28,
 i3:=by kernel_rfl}
theorem OE:∀(vs:Array Value) (w:World),(callFunc (OC.f 189) vs).run Tryz.prog w = .ok (.enter (OC.f 189) vs) w:=
 ik (c:=codeOf Tryz.f31) Tryz.func31 (by kernel_rfl) (by decide +kernel)
theorem OF:∀(vs:Array Value) (w:World),(callFunc (OD.f 20) vs).run Tryz.prog w = .ok (.enter (OD.f 20) vs) w:=
 ik (c:=codeOf Tryz.f32) Tryz.func32 (by kernel_rfl) (by decide +kernel)
noncomputable def MA:FuncId→Option (List AV→AHeap→Option (AV × AHeap)):=fun f=>if f=31 then some NB else if f=32 then some NC else JY f
theorem JZ:IntrOK Tryz.prog MA:=intr_cons (f0:=31) (Qi RC OE) F3 (intr_cons (f0:=32) (Qj RD OF) F4 wQ)
end Go.Proofs.YtmekcfdllhphlaaGreatDoor
namespace Go.Proofs.YtmekcfdllhphlaaGreatDoor
open Go Go.R
open Go.IntKind (i64 u64 u8 u32)
def cN:Nat→b9
 | 3=>LA
 | 5=>{keep:=[0,1,2,3,4,5,6,7,8,9,10],aN:=[9]}
 | 6=>Gi
 | 7=>DE
 | 8=>Gz
 | 9=>GC
 | 10=>B2
 | 11=>Fb
 | 12=>B3
 | 13=>B4
 | 14=>yj
 | 15=>yr
 | 17=>Bp
 | 18=>gm [0,2] [2] [0,1] [] []
 | 19=>gm [0] [0] [] [] []
 | 20=>gm [0,1,2,3] [1,2] [9,3] [] []
 | 21=>gm [0,1,4] [] [4,3] [] []
 | 22=>yn
 | 23=>EI
 | 24=>EE
 | 25=>Bj
 | 26=>yi
 | 27=>BF
 | 28=>BH
 | 29=>EN
 | 30=>tm
 | 33=>B1
 | 35=>EF
 | 36=>Ej
 | 37=>EH
 | 38=>Ei
 | 39=>EG
 | 40=>yk
 | 41=>EA
 | 42=>EC
 | 43=>ER
 | 44=>BG
 | 45=>Bv
 | 46=>mW
 | 47=>BC
 | 48=>BD
 | 49=>BE
 | 52=>Ep
 | 53=>Ez
 | 54=>A0
 | 55=>AZ
 | 56=>{keep:=[0,1,4,5,6,16],aN:=[]}
 | 57=>Bi
 | 58=>Bm
 | 59=>{keep:=[0,2],aN:=[]}
 | 60=>Bu
 | 61=>yt
 | 62=>nT
 | 63=>EO
 | 75=>Eo
 | 76=>Ef
 | 77=>qZ
 | 78=>Bg
 | 81=>EB
 | 82=>EL
 | 83=>Bw
 | 84=>By
 | 85=>EM
 | 86=>Bx
 | 92=>Er
 | 93=>Eb
 | 94=>Ec
 | 95=>Ed
 | 96=>Ee
 | 97=>En
 | 98=>Et
 | 99=>Es
 | 103=>{keep:=[0,1,4,5,6,7,19],aN:=[]}
 | 104=>wC
 | 106=>vK
 | 107=>vN
 | 108=>pH
 | 109=>zt
 | 110=>vT
 | 111=>zw
 | 113=>zK
 | 114=>zl
 | 115=>si
 | 116=>mK
 | 117=>zu
 | 118=>vG
 | 119=>vF
 | _=>{keep:=[],aN:=[]}
def be:Nat:=18014398509481984
theorem bh:kh+fh≤be:=by decide
def RE:Nat→Option Nat
 | 3=>some be
 | 5=>some be
 | 6=>some be
 | 7=>some be
 | 8=>some be
 | 9=>some be
 | 10=>some be
 | 11=>some be
 | 12=>some be
 | 13=>some be
 | 14=>some be
 | 15=>some be
 | 17=>some be
 | 18=>some be
 | 19=>some be
 | 20=>some be
 | 21=>some be
 | 22=>some be
 | 23=>some be
 | 24=>some be
 | 29=>some be
 | 30=>some be
 | 33=>some be
 | 35=>some be
 | 37=>some be
 | 39=>some be
 | 40=>some be
 | 45=>some be
 | 46=>some be
 | 48=>some be
 | 52=>some be
 | 53=>some be
 | 60=>some be
 | 61=>some be
 | 62=>some be
 | 76=>some be
 | 77=>some be
 | 82=>some be
 | 83=>some be
 | 84=>some be
 | 85=>some be
 | 86=>some be
 | 92=>some be
 | 93=>some be
 | 96=>some be
 | 99=>some be
 | 104=>some be
 | 106=>some be
 | 109=>some be
 | 110=>some be
 | 111=>some be
 | 113=>some be
 | 114=>some be
 | 117=>some be
 | _=>none
def M:Nat:=18446744073709551616
noncomputable def B9:pT:={aV:=cN,intr:=JY,pure:=fun _=>none}
theorem oD {h:AHeap}(hp:0<h.next):Has h []:=⟨fun j i c h=>by simp at h,fun j j' i c c' h=>by simp at h,hp⟩
theorem OG:codeOf Tryz.f59=(.seq (sub [0] (codeOf Tryz.f59)) (.seq (sub [1,0] (codeOf Tryz.f59)) .ret)):=by kernel_rfl
theorem DJ {cf:CallF}{id i n:Nat}{h:AHeap}{cs:List AV}(h1:h.get id=some (.cells [.rs i 0 n 1,.int .i64 0,.int .i8 0])) :
  ∃r h',bg Tryz.prog cN cf M 59 [.ptr id 0] h=some (r,h')∧r = .rs i 0 n 1∧h'=h:=by
 refine aj (fn:=Tryz.f59) (A:={keep:=[0,2],aN:=[]}) rfl Tryz.func59 (by kernel_rfl) (by kernel_rfl) ?_
 refine aD (Q:=fun s=>aH Tryz.prog (s.open {keep:=[0,2],aN:=[]}) Tryz.f59.results.toList=some (.rs i 0 n 1)∧s.h=h) (fun _ _ ⟨h1,h2,h3⟩=>⟨h1,_,h2,rfl,h3⟩) ?_
 refine CO OG ?_
 show dA _ cf _ M _ ⟨[.ptr id 0,.any],[],h⟩ _
 refine qv ?_
 refine vh (fs:=[]) (zs:=[]) (kx:=⟨[.ptr id 0,.nils],[],h⟩) (p:=(True)∧True) (by kernel_rfl) ⟨trivial,trivial⟩ ?_
 refine qv ?_
 refine vh (fs:=[]) (zs:=[(3,.rs i 0 n 1,none),(7,.int .i64 0,none),(8,.rs i 0 n 1,none)]) (kx:=⟨[.ptr id 0,.rs i 0 n 1],[],h⟩) (p:=(True)∧bp Tryz.prog h 22 (.ptr id 0)=some (.rs i 0 n 1)∧bp Tryz.prog h 3 (.ptr id 1)=some (.int .i64 0)∧eN Tryz.prog 22 (.rs i 0 n 1) (some (.int .i64 0)) none none=some (.rs i 0 n 1)∧True) (by kernel_rfl) ⟨trivial,⟨?_,?_,?_,trivial⟩⟩ ?_
 ·simp only [bp,jV,h1,aaA]; kernel_rfl
 ·simp only [bp,jV,h1,aaA]; kernel_rfl
 ·have e1:Tryz.prog.underlying 22=some (.slice 5):=Tryz.underlying22
  have e2:fe Tryz.prog 5=some 1:=by kernel_rfl
  simp [eN,e1,e2,jm]
 refine AL ?_
 exact⟨.inl rfl,by kernel_rfl,rfl⟩
noncomputable def MB:FuncId→Option (List AV→AHeap→Option (AV × AHeap)):=fun f=>if f=59 then some (fun args h=>(fM Tryz.prog B9 M 1 59 args h).bind plainA) else MA f
theorem J0:IntrOK Tryz.prog MB:=intr_cons (plain_ok (vc fits (T:=B9) wQ M 1) 59) (plain_steady (mD (T:=B9) wQ M 1) 59) JZ
noncomputable def bw:pT:={aV:=cN,intr:=MB,pure:=RE}
noncomputable def cQ:CallF:=jJ Tryz.prog bw M
theorem OH:CallOK Tryz.prog cQ:=HU fits (T:=bw) J0
theorem VB:Ql cQ M:=fun args h=>mG (T:=bw) rfl
theorem VC:Qm cQ M:=fun args h=>mG (T:=bw) rfl
theorem Zx:Wh cQ M:=by
 intro id i n cs h h1 h2 h3 h4 h5
 refine D6 (T:=bw) rfl ?_
 obtain⟨r,h',hb,rfl,rfl⟩:=DJ (cf:=fM Tryz.prog B9 M 0) (cs:=cs) h1
 have:fM Tryz.prog B9 M 1 59 [.ptr id 0] h'=some (.rs i 0 n 1,h'):=hb
 simp only [this,aaA,plainA,h2]
theorem Zy:Wf cQ M:=fun args h=>mG (T:=bw) rfl
theorem Zz:Wg cQ M:=fun args h=>mG (T:=bw) rfl
end Go.Proofs.YtmekcfdllhphlaaGreatDoor
namespace Go.Proofs.YtmekcfdllhphlaaGreatDoor
open Go Go.R
open Go.IntKind (i64 u64 u8 u32)
theorem GK:(bg Tryz.prog cN (fM Tryz.prog bw M 98) M 5 [] bS).map (fun x=>x.1)=some (.bool true):=by kernel_rfl
theorem j5:S5 cQ M:=by
 intro r H h xs hx
 have H:some true=some r:=H
 cases H
 obtain⟨⟨x,h'⟩,hb,e⟩:=aaC.1 GK
 dsimp only at e
 subst e
 obtain⟨l,h1,h2⟩:=lY (P:=Tryz.prog) cN M 5 [] bS _ _ hb
 have hb:=h2 cQ fun e he=>lZ.2 ⟨_,h1 e he⟩
 exact bE (T:=bw) (deep:=be) rfl rfl bh hx ⟨_,_,hb,cn (au)⟩
end Go.Proofs.YtmekcfdllhphlaaGreatDoor
namespace Go.Proofs.YtmekcfdllhphlaaGreatDoor
open Go Go.R
open Go.IntKind (i64 u64 u8 u32)
theorem ZA:XA cQ M:=by
 intro a0 b0 r H h xs hx
 exact bE (T:=bw) (deep:=be) rfl rfl bh hx (ui (cf:=cQ) (m:=M) (aV:=cN) rfl  a0 b0 bS [] aY H)
theorem XD:Uh cQ M:=by
 intro b0 r H h xs hx
 exact bE (T:=bw) (deep:=be) rfl rfl bh hx (tT (cf:=cQ) (m:=M) (aV:=cN) rfl  b0 bS [] aY H)
theorem XE:Uz cQ M:=by
 intro b0 r H h xs hx
 exact bE (T:=bw) (deep:=be) rfl rfl bh hx (wA (cf:=cQ) (m:=M) (aV:=cN) rfl  b0 bS [] aY H)
theorem XF:Q1 cQ M:=by
 intro a0 b0 r H h xs hx
 exact bE (T:=bw) (deep:=be) rfl rfl bh hx (sr (cf:=cQ) (m:=M) (aV:=cN) rfl  a0 b0 bS [] aY H)
theorem XG:Us cQ M:=by
 intro a0 b0 r H h xs hx
 exact bE (T:=bw) (deep:=be) rfl rfl bh hx (sq (cf:=cQ) (m:=M) (aV:=cN) rfl  a0 b0 bS [] aY H)
theorem XH:Ui cQ M:=by
 intro b0 r H h xs hx
 exact bE (T:=bw) (deep:=be) rfl rfl bh hx (ri (cf:=cQ) (m:=M) (aV:=cN) rfl XD b0 bS [] aY H)
theorem ZB:Sx cQ M:=by
 intro l0 n0 r H h xs hx
 exact jU (T:=bw) (deep:=be) rfl rfl bh hx (wN (cf:=cQ) (m:=M) (aV:=cN) rfl  l0 n0 bS [] aY H)
theorem ZC:WI cQ M:=by
 intro n0 r H h xs hx
 exact bE (T:=bw) (deep:=be) rfl rfl bh hx (rl (cf:=cQ) (m:=M) (aV:=cN) rfl  n0 bS [] aY H)
theorem XI:R6 cQ M:=by
 intro r0 r H h L  az o  xs hx
 obtain⟨r',h',hb,rfl,ho⟩:=zB (cf:=cQ) (m:=M) (aV:=cN) rfl  r0 h L az  o H
 exact⟨h',iK (T:=bw) rfl rfl hx hb,ho⟩
theorem VD:Pb cQ M:=by
 intro t0 r H h L  az o  xs hx
 obtain⟨r',h',hb,rfl,ho⟩:=nV (cf:=cQ) (m:=M) (aV:=cN) rfl  t0 h L az  o H
 exact⟨h',iK (T:=bw) rfl rfl hx hb,ho⟩
theorem VE:Pa cQ M:=by
 intro n0 r H h L   o  xs hx
 obtain⟨r',h',hb,mX,rfl,ho⟩:=rr (cf:=cQ) (m:=M) (aV:=cN) rfl  n0 h L  o H
 exact⟨mX,h',iK (T:=bw) rfl rfl hx hb,ho⟩
theorem ZD:UT cQ M:=by
 intro t0 r H h xs hx
 exact bE (T:=bw) (deep:=be) rfl rfl bh hx (sI (cf:=cQ) (m:=M) (aV:=cN) rfl  t0 bS [] aY H)
theorem ZE:Wp cQ M:=by
 intro s0 f0 r H h iZ eh aX iH iM xs hx
 exact qK (T:=bw) rfl rfl hx (zo (cf:=cQ) (m:=M) (aV:=cN) rfl  s0 f0 h [] eh aX  iH iM (oD iZ) H)
theorem ZF:Wo cQ M:=by
 intro s0 f0 r H h iZ eh aX iH iM xs hx
 exact qK (T:=bw) rfl rfl hx (zn (cf:=cQ) (m:=M) (aV:=cN) rfl  s0 f0 h [] eh aX  iH iM (oD iZ) H)
theorem VF:O4 cQ M:=by
 intro w0 n0 r H h L  ck cJ o  xs hx
 obtain⟨r',h',hb,ej,rfl,ho⟩:=wg (cf:=cQ) (m:=M) (aV:=cN) rfl VB w0 n0 h L ck cJ  o H
 exact⟨ej,h',iK (T:=bw) rfl rfl hx hb,ho⟩
theorem ZG:WR cQ M:=by
 intro l0 iA r H h xs hx
 exact bE (T:=bw) (deep:=be) rfl rfl bh hx (pK (cf:=cQ) (m:=M) (aV:=cN) rfl  l0 iA bS [] aY H)
theorem ZH:W8 cQ M:=by
 intro s0 r H h L   o  xs hx
 obtain⟨r',h',hb,mX,rfl,ho⟩:=uc (cf:=cQ) (m:=M) (aV:=cN) rfl VE s0 h L  o H
 exact⟨mX,h',iK (T:=bw) rfl rfl hx hb,ho⟩
theorem XJ:∀kk,R0 cQ M kk
 | 0=>by
  intro i0 x0 x1 x2 x3 r H h L  cj fl eL ev fD eP eJ o  xs hx
  cases H
 | kk+1=>by
  intro i0 x0 x1 x2 x3 r H h L  cj fl eL ev fD eP eJ o  xs hx
  obtain⟨r',h',hb,mV,rfl,ho⟩:=q7 (cf:=cQ) (m:=M) (aV:=cN) rfl  i0 x0 x1 x2 x3 h L cj fl eL ev fD eP eJ  (XJ kk) o H
  exact⟨mV,h',iK (T:=bw) rfl rfl hx hb,ho⟩
theorem ZI:WB cQ M:=by
 intro w0 s0 r H h L  ck cJ o  xs hx
 obtain⟨r',h',hb,ej,rfl,ho⟩:=zC (cf:=cQ) (m:=M) (aV:=cN) rfl VF VC w0 s0 h L ck cJ  o H
 exact⟨ej,h',iK (T:=bw) rfl rfl hx hb,ho⟩
theorem ZJ:Sb cQ M:=by
 intro n0 ez r H h xs hx
 exact bE (T:=bw) (deep:=be) rfl rfl bh hx (sA (cf:=cQ) (m:=M) (aV:=cN) rfl  n0 ez bS [] aY H)
theorem XK:O7 cQ M:=by
 intro a0 b0 r H h xs hx
 exact bE (T:=bw) (deep:=be) rfl rfl bh hx (sB (cf:=cQ) (m:=M) (aV:=cN) rfl  a0 b0 bS [] aY H)
theorem XL:Oe cQ M:=by
 intro a0 b0 bJ r H h xs hx
 exact bE (T:=bw) (deep:=be) rfl rfl bh hx (oM (cf:=cQ) (m:=M) (aV:=cN) rfl  a0 b0 bJ bS [] aY H)
theorem ZK:Wv cQ M:=by
 intro x0 r H h xs hx
 exact bE (T:=bw) (deep:=be) rfl rfl bh hx (pI (cf:=cQ) (m:=M) (aV:=cN) rfl  x0 bS [] aY H)
theorem ZL:Wl cQ M:=by
 intro a0 x0 r H h L fA cj o gR
 exact qK (T:=bw) rfl rfl (an (aP (bD)) (an (rfl) (aT))) (sf (cf:=cQ) (m:=M) (aV:=cN) rfl  a0 x0 h L  gR o H)
theorem ZM:Wm cQ M:=by
 intro s0 r H h xs hx
 exact bE (T:=bw) (deep:=be) rfl rfl bh hx (tK (cf:=cQ) (m:=M) (aV:=cN) rfl  s0 bS [] aY H)
theorem VG:Qq cQ M:=by
 intro s0 f0 r H h iZ eh aX iH iM xs hx
 exact qK (T:=bw) rfl rfl hx (zm (cf:=cQ) (m:=M) (aV:=cN) rfl  s0 f0 h [] eh aX  iH iM (oD iZ) H)
theorem VH:QD cQ M:=by
 intro x0 y0 r H h xs hx
 exact bE (T:=bw) (deep:=be) rfl rfl bh hx (nL (cf:=cQ) (m:=M) (aV:=cN) rfl ZK x0 y0 bS [] aY H)
theorem VI:QF cQ M:=by
 intro gS r H h xs hx
 exact bE (T:=bw) (deep:=be) rfl rfl bh hx (tR (cf:=cQ) (m:=M) (aV:=cN) rfl  gS bS [] aY H)
theorem VJ:Ob cQ M:=by
 intro c0 r H h xs hx
 exact bE (T:=bw) (deep:=be) rfl rfl bh hx (rp (cf:=cQ) (m:=M) (aV:=cN) rfl  c0 bS [] aY H)
theorem VK:NH cQ M:=by
 intro c0 r H h xs hx
 exact bE (T:=bw) (deep:=be) rfl rfl bh hx (sc (cf:=cQ) (m:=M) (aV:=cN) rfl  c0 bS [] aY H)
theorem VL:NK cQ M:=by
 intro aw a0 b0 a6 r H h L dh az o tj gy Gc CZ xs hx
 have hn0:dh=aw.length:=dP (E:=aa) o (q:=0) rfl
 subst hn0
 obtain⟨r',h',hb,rfl,ho⟩:=oG (cf:=cQ) (m:=M) (aV:=cN) rfl  aw a0 b0 a6 h L az tj gy  Gc CZ o H
 exact⟨h',iK (T:=bw) rfl rfl hx hb,ho⟩
theorem VM:QG cQ M:=by
 intro x0 r H h xs hx
 exact bE (T:=bw) (deep:=be) rfl rfl bh hx (nc (cf:=cQ) (m:=M) (aV:=cN) rfl  x0 bS [] aY H)
theorem VN:NG cQ M:=by
 intro aw a0 b0 n0 a6 r H h L dh az o eZ bl ir iS xs hx
 have hn0:dh=aw.length:=dP (E:=aa) o (q:=0) rfl
 subst hn0
 obtain⟨r',h',hb,rfl,ho⟩:=tH (cf:=cQ) (m:=M) (aV:=cN) rfl  aw a0 b0 n0 a6 h L az eZ bl  ir iS o H
 exact⟨h',iK (T:=bw) rfl rfl hx hb,ho⟩
theorem ZN:Xz cQ M:=by
 intro a0 b0 r H h xs hx
 exact bE (T:=bw) (deep:=be) rfl rfl bh hx (uh (cf:=cQ) (m:=M) (aV:=cN) rfl XF a0 b0 bS [] aY H)
theorem VO:N2 cQ M:=by
 intro r0 r H h L  az o  xs hx
 obtain⟨r',h',hb,rfl,ho⟩:=wi (cf:=cQ) (m:=M) (aV:=cN) rfl XI r0 h L az  o H
 exact⟨h',iK (T:=bw) rfl rfl hx hb,ho⟩
theorem VP:Pc cQ M:=by
 intro t0 r H h L  az o  xs hx
 obtain⟨r',h',hb,rfl,ho⟩:=mM (cf:=cQ) (m:=M) (aV:=cN) rfl VD t0 h L az  o H
 exact⟨h',iK (T:=bw) rfl rfl hx hb,ho⟩
theorem ZO:Wq cQ M:=by
 intro s0 f0 r H h iZ eh aX iH iM xs hx
 exact qK (T:=bw) rfl rfl hx (tN (cf:=cQ) (m:=M) (aV:=cN) rfl ZE s0 f0 h [] eh aX  iH iM (oD iZ) H)
theorem XM:TK cQ M:=by
 intro s0 f0 r H h iZ eh aX iH iM xs hx
 exact qK (T:=bw) rfl rfl hx (tM (cf:=cQ) (m:=M) (aV:=cN) rfl ZF s0 f0 h [] eh aX  iH iM (oD iZ) H)
theorem ZP:WC cQ M:=by
 intro r0 r H h L  az o  xs hx
 obtain⟨r',h',hb,rfl,ho⟩:=zE (cf:=cQ) (m:=M) (aV:=cN) rfl VO r0 h L az  o H
 exact⟨h',iK (T:=bw) rfl rfl hx hb,ho⟩
theorem ZQ:Xb cQ M:=by
 intro t0 r H h L  az o  xs hx
 obtain⟨r',h',hb,rfl,ho⟩:=nW (cf:=cQ) (m:=M) (aV:=cN) rfl VP VD t0 h L az  o H
 exact⟨h',iK (T:=bw) rfl rfl hx hb,ho⟩
theorem ZR:Se cQ M:=by
 intro x0 r H h L   o  xs hx
 obtain⟨r',h',hb,mX,rfl,ho⟩:=ud (cf:=cQ) (m:=M) (aV:=cN) rfl VE ZH x0 h L  o H
 exact⟨mX,h',iK (T:=bw) rfl rfl hx hb,ho⟩
theorem ZS:R7 cQ M:=by
 intro w0 n0 r H h L  ck cJ o  xs hx
 obtain⟨r',h',hb,ej,rfl,ho⟩:=zD (cf:=cQ) (m:=M) (aV:=cN) rfl VB VF ZI w0 n0 h L ck cJ  o H
 exact⟨ej,h',iK (T:=bw) rfl rfl hx hb,ho⟩
theorem ZT:Sd cQ M:=by
 intro l0 eV n0 bJ r H h xs hx
 exact bE (T:=bw) (deep:=be) rfl rfl bh hx (ub (cf:=cQ) (m:=M) (aV:=cN) rfl XK XL l0 eV n0 bJ bS [] aY H)
theorem ZU:Wk cQ M:=by
 intro s0 f0 r H h iZ eh aX iH iM xs hx
 exact qK (T:=bw) rfl rfl hx (tJ (cf:=cQ) (m:=M) (aV:=cN) rfl VG s0 f0 h [] eh aX  iH iM (oD iZ) H)
theorem VQ:Q5 cQ M:=by
 intro s0 r H h xs hx
 exact bE (T:=bw) (deep:=be) rfl rfl bh hx (tZ (cf:=cQ) (m:=M) (aV:=cN) rfl VJ s0 bS [] aY H)
theorem VS:Qo cQ M:=by
 intro s0 lE oY r H h xs hx
 exact bE (T:=bw) (deep:=be) rfl rfl bh hx (vL (cf:=cQ) (m:=M) (aV:=cN) rfl VK s0 lE oY bS [] aY H)
theorem VT:QH cQ M:=by
 intro x0 y0 r H h xs hx
 exact bE (T:=bw) (deep:=be) rfl rfl bh hx (mc (cf:=cQ) (m:=M) (aV:=cN) rfl VM x0 y0 bS [] aY H)
theorem VU:Qn cQ M:=by
 intro aw a0 m0 b0 a6 r H h L dh az o eZ bl ir iS xs hx
 have hn0:dh=aw.length:=dP (E:=aa) o (q:=0) rfl
 subst hn0
 obtain⟨r',h',hb,rfl,ho⟩:=zk (cf:=cQ) (m:=M) (aV:=cN) rfl VN aw a0 m0 b0 a6 h L az eZ bl  ir iS o H
 exact⟨h',iK (T:=bw) rfl rfl hx hb,ho⟩
theorem ZV:R8 cQ M:=by
 intro r0 r H h L  az o  xs hx
 obtain⟨r',h',hb,rfl,ho⟩:=zF (cf:=cQ) (m:=M) (aV:=cN) rfl VO XI ZP r0 h L az  o H
 exact⟨h',iK (T:=bw) rfl rfl hx hb,ho⟩
theorem ZW:Sf cQ M:=by
 intro t0 r H h L  az o  xs hx
 obtain⟨r',h',hb,rfl,ho⟩:=nX (cf:=cQ) (m:=M) (aV:=cN) rfl VP VD ZQ t0 h L az  o H
 exact⟨h',iK (T:=bw) rfl rfl hx hb,ho⟩
theorem ZX:WJ cQ M:=by
 intro t0 r H h xs hx
 exact bE (T:=bw) (deep:=be) rfl rfl bh hx (rm (cf:=cQ) (m:=M) (aV:=cN) rfl XM ZC t0 bS [] aY H)
theorem ZY:WH cQ M:=by
 intro aZ r H h xs hx
 exact bE (T:=bw) (deep:=be) rfl rfl bh hx (rj (cf:=cQ) (m:=M) (aV:=cN) rfl XH VB VF ZS Zx aZ bS [] aY H)
theorem ZZ:WW cQ M:=by
 intro l0 r H h xs hx
 exact bE (T:=bw) (deep:=be) rfl rfl bh hx (pL (cf:=cQ) (m:=M) (aV:=cN) rfl ZJ ZT XK XL l0 bS [] aY H)
theorem Z0:WO cQ M:=by
 intro s0 r H h xs hx
 exact bE (T:=bw) (deep:=be) rfl rfl bh hx (rq (cf:=cQ) (m:=M) (aV:=cN) rfl VQ s0 bS [] aY H)
theorem Z1:Wj cQ M:=by
 intro s0 r H h xs hx
 exact bE (T:=bw) (deep:=be) rfl rfl bh hx (vM (cf:=cQ) (m:=M) (aV:=cN) rfl VS s0 bS [] aY H)
theorem XN:RX cQ M:=by
 intro a0 b0 r H h xs hx
 exact bE (T:=bw) (deep:=be) rfl rfl bh hx (nM (cf:=cQ) (m:=M) (aV:=cN) rfl VH VI VT a0 b0 bS [] aY H)
theorem RF:∀kk,xg cQ M kk
 | 0=>by
  intro aw a0 m0 b0 a6 r H h L dh az o eZ bl ir iS xs hx
  cases H
 | kk+1=>by
  intro aw a0 m0 b0 a6 r H h L dh az o eZ bl ir iS xs hx
  have hn0:dh=aw.length:=dP (E:=aa) o (q:=0) rfl
  subst hn0
  obtain⟨r',h',hb,rfl,ho⟩:=vR (cf:=cQ) (m:=M) (aV:=cN) rfl VU aw a0 m0 b0 a6 h L az eZ bl  (RF kk) ir iS o H
  exact⟨h',iK (T:=bw) rfl rfl hx hb,ho⟩
theorem Z2:W7 cQ M:=by
 intro l0 iA r H h xs hx
 exact jU (T:=bw) (deep:=be) rfl rfl bh hx (sG (cf:=cQ) (m:=M) (aV:=cN) rfl ZG ZZ l0 iA bS [] aY H)
theorem Z5:UA cQ M:=by
 intro n0 aE r H h xs hx
 exact bE (T:=bw) (deep:=be) rfl rfl bh hx (sv (cf:=cQ) (m:=M) (aV:=cN) rfl Z0 n0 aE bS [] aY H)
theorem Z6:Wn cQ M:=by
 intro n0 nI r H h xs hx
 exact bE (T:=bw) (deep:=be) rfl rfl bh hx (vO (cf:=cQ) (m:=M) (aV:=cN) rfl Z1 ZU ZL ZM n0 nI bS [] aY H)
theorem Z7:Ww cQ M:=by
 intro i0 j0 x0 r H h L fA cj o gR
 exact qK (T:=bw) rfl rfl (an (aP (bD)) (an (aP (bD)) (an (rfl) (aT)))) (oI (cf:=cQ) (m:=M) (aV:=cN) rfl XN i0 j0 x0 h L  gR o H)
theorem VV:QA cQ M:=by
 intro aw n0 a6 r H h L dh az o mb dO oH tP xs hx
 have hn0:dh=aw.length:=dP (E:=aa) o (q:=0) rfl
 subst hn0
 obtain⟨r',h',hb,rfl,ho⟩:=zr (cf:=cQ) (m:=M) (aV:=cN) rfl VL (RF _) aw n0 a6 h L az mb dO  oH tP o H
 exact⟨h',iK (T:=bw) rfl rfl hx hb,ho⟩
theorem Z8:WQ cQ M:=by
 intro t0 r H h xs hx
 exact bE (T:=bw) (deep:=be) rfl rfl bh hx (sw (cf:=cQ) (m:=M) (aV:=cN) rfl Z5 t0 bS [] aY H)
theorem Z9:Wt cQ M:=by
 intro n0 x0 r H h L fA cj o gR
 exact qK (T:=bw) rfl rfl (an (aP (pB (cb (bD) (cb (bD) (cb (pA) (cb (gP (E:=aa)) (fH))))))) (an (rfl) (aT))) (qY (cf:=cQ) (m:=M) (aV:=cN) rfl Z6 n0 x0 h L  gR o H)
theorem j97:Ws cQ M:=by
 intro x0 a6 r H h L Ig az o eh aX iH iM xs hx
 have hn0:Ig=x0.length:=dP (E:=aa) o (q:=0) rfl
 subst hn0
 obtain⟨r',h',hb,rfl,ho⟩:=qX (cf:=cQ) (m:=M) (aV:=cN) rfl VV x0 a6 h L az eh aX  iH iM o H
 exact⟨h',iK (T:=bw) rfl rfl hx hb,ho⟩
theorem XO:Rp cQ M:=by
 intro t0 r H h xs hx
 exact jU (T:=bw) (deep:=be) rfl rfl bh hx (sH (cf:=cQ) (m:=M) (aV:=cN) rfl Z8 Z2 t0 bS [] aY H)
theorem j30:W9 cQ M:=by
 intro aZ r H h xs hx
 exact bE (T:=bw) (deep:=be) rfl rfl bh hx (wH (cf:=cQ) (m:=M) (aV:=cN) rfl XE XO VE ZD ZR aZ bS [] aY H)
theorem j52:Wu cQ M:=by
 intro t0 r H h xs hx
 exact bE (T:=bw) (deep:=be) rfl rfl bh hx (tQ (cf:=cQ) (m:=M) (aV:=cN) rfl XM Z9 t0 bS [] aY H)
theorem j77:Wx cQ M:=by
 intro aE r H h xs hx
 exact bE (T:=bw) (deep:=be) rfl rfl bh hx (q6 (cf:=cQ) (m:=M) (aV:=cN) rfl j97 Z7 XN aE bS [] aY H)
theorem j7:S7 cQ M:=by
 intro b0 r H h xs hx
 exact jU (T:=bw) (deep:=be) rfl rfl bh hx (wK (cf:=cQ) (m:=M) (aV:=cN) rfl XF VP ZW XO j30 b0 bS [] aY H)
theorem j9:S9 cQ M:=by
 intro b0 r H h xs hx
 exact jU (T:=bw) (deep:=be) rfl rfl bh hx (ug (cf:=cQ) (m:=M) (aV:=cN) rfl j7 ZB b0 bS [] aY H)
theorem j11:Xy cQ M:=by
 intro x0 y0 r H h xs hx
 exact bE (T:=bw) (deep:=be) rfl rfl bh hx (sP (cf:=cQ) (m:=M) (aV:=cN) rfl j7 x0 y0 bS [] aY H)
theorem j53:Wz cQ M:=by
 intro t0 r H h xs hx
 exact jU (T:=bw) (deep:=be) rfl rfl bh hx (tS (cf:=cQ) (m:=M) (aV:=cN) rfl j77 (XJ _) t0 bS [] aY H)
theorem j35:Ul cQ M:=by
 intro t0 r H h xs hx
 exact jU (T:=bw) (deep:=be) rfl rfl bh hx (tW (cf:=cQ) (m:=M) (aV:=cN) rfl j52 j53 t0 bS [] aY H)
theorem j17:WK cQ M:=by
 intro aZ r H h xs hx
 exact jU (T:=bw) (deep:=be) rfl rfl bh hx (tX (cf:=cQ) (m:=M) (aV:=cN) rfl j35 ZO ZX ZY aZ bS [] aY H)
theorem j6:S6 cQ M:=by
 intro b0 r H h xs hx
 exact jU (T:=bw) (deep:=be) rfl rfl bh hx (tY (cf:=cQ) (m:=M) (aV:=cN) rfl j17 XG XH VO ZV b0 bS [] aY H)
theorem j8:S8 cQ M:=by
 intro b0 r H h xs hx
 exact bE (T:=bw) (deep:=be) rfl rfl bh hx (sM (cf:=cQ) (m:=M) (aV:=cN) rfl j6 Zy Zz b0 bS [] aY H)
theorem j10:Xx cQ M:=by
 intro x0 y0 r H h xs hx
 exact bE (T:=bw) (deep:=be) rfl rfl bh hx (rC (cf:=cQ) (m:=M) (aV:=cN) rfl j6 XG x0 y0 bS [] aY H)
theorem j3:S3 cQ M:=by
 intro x0 y0 r H h xs hx
 exact bE (T:=bw) (deep:=be) rfl rfl bh hx (nf (cf:=cQ) (m:=M) (aV:=cN) rfl j5 j6 j7 j8 j9 j10 j11 ZN ZA XD XE x0 y0 bS [] aY H)
end Go.Proofs.YtmekcfdllhphlaaGreatDoor
namespace Go.Proofs.YtmekcfdllhphlaaGreatDoor
open Go Go.R Go.Proofs Go.RowKit Go.ChangeShapes Go.WideShapes
theorem all_true (vd:List AV)(h:qu Tryz.prog 6 Tryz.f3.params.toList vd):∃cf h',CallOK Tryz.prog cf∧cf 3 vd bS=some (.bool true,h'):=by
 rw [show Tryz.f3.params.toList=[22,22] from by rw [Tryz.params3]] at h
 obtain⟨xs,ys,rfl,h1,h2⟩:=B8 h
 obtain⟨a,ha,fa⟩:=JW h1
 obtain⟨b,hb,fb⟩:=JW h2
 exact⟨cQ,bS,OH,j3 a b true (GI (by decide) ha hb) bS _ (fT (ab (fa bS) (ab (fb bS) aA)))⟩
noncomputable def wR : List (String × DataW Unit) := [("bytes.ErrTooLarge", Rows.laid_bytes_ErrTooLarge)]
theorem own:ownKnob Tryz.prog.godebug=none:=by kernel_rfl
noncomputable def yA (os:Os):World:=World.laidAll Tryz.prog os wR
theorem xq (os:Os)(args:Array Value):laidMetH Tryz.prog wR ((yA os).forCall (fun _ _=>0) ⟨#[],args,[]⟩).memory:=by
 refine laidMetH_of_parts ?_ (by kernel_rfl)
 rw [show (wR.filter fun x=>x.2.handleName?.isNone)=wR from by kernel_rfl]
 exact laidMet_laidAll args (by kernel_rfl) (by kernel_rfl)
theorem rD (os:Os)(started:os.Started)(H:Type)(enc:TypeId × Value→H) :
  ReturnsInHanded {} Tryz.checked os 3 .any (fun w args=>(Rows.pickleGetsSpec.pre enc Tryz.prog Tryz.f3 [] false w args∧laidMetH Tryz.prog wR w)∧sizedMet enc Tryz.prog Tryz.f3 (OpenSpec.ofChange Rows.pickleGetsSpec) false w args)
   (Rows.pickleGetsSpec.post enc Tryz.prog Tryz.f3 false true false false):=by
 refine returnsInHanded_of_change_and (C:=Tryz.checked) (X:=fun w _=>laidMetH Tryz.prog wR w) (fun _ _ _ hh h=>h.of_heap hh) own started (by kernel_rfl) Tryz.func3
  (ChangeSpec.witness_at (enc:=enc) (C:=Tryz.checked) (os:=os) (X:=fun w _=>laidMetH Tryz.prog wR w) false (yA os) #[.slice none 0 0,.slice none 0 0] 8 (World.laidAll_os _ _ _) (by kernel_rfl) (by kernel_rfl) (by kernel_rfl) (by kernel_rfl) (by kernel_rfl) (xq os _)) ?_
 intro W base args ds gs before ep hW _ _ hL _
 exact w8 (cf:=fun _ _ _=>none) (P:=Tryz.prog) (m:=6) (tb:=4) (by kernel_rfl)
  (by rw [show Tryz.f3.params.toList=[22,22] from by rw [Tryz.params3]]; intro t ht; simp at ht; rcases ht with rfl<;>exact⟨by kernel_rfl,of_decide_eq_true (by kernel_rfl)⟩)
  (by rw [show Tryz.f3.params.toList=[22,22] from by rw [Tryz.params3]]; intro t ht; simp at ht; rcases ht with rfl<;>kernel_rfl) rfl rfl Tryz.underlying4
  (fun ds MQ=>by
   have:ds.length=2:=by rw [MQ]; rfl
   match ds,this with
   | [d,e],_=>rfl) all_true ep hW
theorem wS:Rows.PickleGetsSaid:=
 OpenClaim.holds_of_wide 3 Tryz.f3 rfl rfl rfl rfl rfl rfl rfl ⟨rfl,rfl,rfl,rfl,rfl⟩ rfl rfl rfl rfl rfl (by kernel_rfl) Tryz.func3 (by kernel_rfl)
  (of_decide_eq_true (by kernel_rfl)) (by unfold Func.isWrapper; first | (rw [if_pos (by decide +kernel)]; kernel_rfl) | (rw [if_neg (by decide +kernel)]; exact⟨rfl,rfl⟩))
  (fun os started H enc _=>rD os started H enc)
theorem pickleGets_holds:Rows.PickleGetsCardSaid:=
 Claim7.holds_tied_plain_at .later [] [.sentinel] true (true, "233d5cb09f35338beff55d9ba1d2540cb935c410677bbf5e41afbc10d9e64e62") false
  wS (fun _ h=>by cases h) (by kernel_rfl) (fun _ h=>by cases h) pickleGets_row_tie rfl ⟨rfl,rfl⟩ (by kernel_rfl) rfl
  (fun f fn hf Na=>by
   obtain rfl : f = 3 := aa2 ((show Tryz.prog.funcNamed "leatwork/leatworklaw20.PickleGets" = some 3 by kernel_rfl).symm.trans hf) |>.symm
   obtain rfl:fn=Tryz.f3:=(aa2 (Tryz.func3.symm.trans Na)).symm
   exact⟨by kernel_rfl,fun j t ht=>by
    rw [Tryz.params3] at ht
    have h3:t=22:=by
     rcases j with _ | _ | j
     ·simpa using ht.symm
     ·simpa using ht.symm
     ·simp at ht
    rcases h3 with rfl
    exact (show Tryz.prog.wantsStandIn 22=false by kernel_rfl)⟩)
  (by kernel_rfl)
end Go.Proofs.YtmekcfdllhphlaaGreatDoor
