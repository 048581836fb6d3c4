/- Part of the proof: PZ2, PV1, PV2, Q16, PV3, Q8, PY0, Q33, Q9, Q10, Q11, Q12, Q13, Q3. -/
import Derived.Test.YtmekcfdllhphlaaGreatDoorK15
set_option linter.unusedVariables false
set_option linter.unusedSimpArgs false
set_option maxRecDepth 100000
open ByteArray renaming mk → aaT
open Eq renaming trans → abz
open Int renaming tdiv → abr, tmod_eq_emod_of_nonneg → abB, tmod → abE, tdiv_eq_ediv_of_nonneg → abX, le_refl → ab9
open List renaming length_append → aaI, getElem?_eq_getElem → aaL, append_assoc → aaM, length_set → aaN, mem_singleton → aaO, drop_eq_getElem_cons → aaP, mem_append → aaQ, length_cons → aaR, drop_eq_nil_of_le → aaU, getD_eq_getElem?_getD → aaW, length_map → aaX, cons_append → aa0, getElem?_eq_none → aa1, drop_zero → aa3, nil_append → aa5, map_cons → aa6, getElem_mem → abe, length_nil → abg, append_nil → abu, pairwise_iff_getElem → ab3, flatten_cons → ab6, getElem_of_mem → ab7
open Nat renaming le_refl → aaE, add_assoc → abl
open Option renaming bind_some → aaA
open Option.some renaming inj → aa2
open Or renaming inr → abD, inl → abM
namespace Go.Proofs.YtmekcfdllhphlaaGreatDoor
open Go Go.R
open Go.IntKind (i64 u64 u8 u32)
section
variable {m:Nat}{b:List Int}
theorem yy (hm:20≤m)(hb:Bytes b)(hl:b.length≤300000){x5:Int × ao}(hx:x5.1≤8)(x6 x7:Int)(x8:ByteArray):∀(f i:Nat) (acc:List Int) (a:Nat) (bad:Bool),9 - i<f→i≤9→acc.length≤i→a≤b.length→
  ∃(q:Int) (wx:List Int) (a':Nat) (jk:Bool),aU.l0 m x5 f (i:Int) x6 x7 x8 acc ⟨b,(a:Int),bad⟩=some (q,x6,x7,x8,wx,⟨b,(a':Int),jk⟩)∧Ts b a bad a' jk
 | 0,i,acc,a,bad,hf,_,_,_=>absurd hf (by omega)
 | f+1,i,acc,a,bad,hf,hi,ho,ha=>by
  unfold aU.l0
  by_cases h:(i:Int)<x5.1
  ·obtain⟨z,a1,iV,e1,t1,_,_⟩:=iC (bad:=bad) hm hb hl ha
   have jf:app 8 acc [z]=some (acc++[z]):=by unfold app; rw [if_pos (by simp; omega)]
   obtain⟨q,wx,a2,kR,e2,t2⟩:=yy hm hb hl hx x6 x7 x8 f (i+1) (acc++[z]) a1 iV (by omega) (by omega) (by simp; omega) t1.len
   refine⟨q,wx,a2,kR,?_,t1.trans t2⟩
   rw [if_pos (by simp only [decide_eq_true_eq]; omega),e1,aaA]
   dsimp only
   rw [jf,aaA,ay (by omega) (by omega),show (i:Int)+1=((i+1:Nat):Int) by omega,e2]
  ·exact⟨_,_,a,bad,by rw [if_neg (by simp only [decide_eq_true_eq]; omega)],Ts.refl ha⟩
theorem Gy (hm:20≤m)(hb:Bytes b)(hl:b.length≤300000){a:Nat}{bad:Bool}(ha:a≤b.length):∃(n:ae) (a':Nat) (jk:Bool),aU.f m ⟨b,(a:Int),bad⟩=some (n,⟨b,(a':Int),jk⟩)∧Ts b a bad a' jk∧(a<a'∨jk=true)∧n.int<9223372036854775808:=by
 obtain⟨c,a1,iV,e1,t1,q1,_,_⟩:=sK (m:=m) (bad:=bad) hb hl ha
 have st:∀{a2:Nat} {kR:Bool},Ts b a1 iV a2 kR→(a<a2∨kR=true):=fun t2=>by
  rcases q1 with q | q
  ·left; have:=t2.le; omega
  ·right; exact t2.bad q
 unfold aU.f
 rw [e1,aaA]
 dsimp only
 split
 ·obtain⟨z,a2,kR,e2,t2,_,hz⟩:=iC (bad:=iV) hm hb hl t1.len
  rw [e2]
  exact⟨_,a2,kR,rfl,t1.trans t2,st t2,hz⟩
 split
 ·obtain⟨z,a2,kR,e2,t2,_,hz⟩:=iC (bad:=iV) hm hb hl t1.len
  rw [e2,aaA]
  dsimp only
  split
  ·exact⟨_,a2,kR,rfl,t1.trans t2,st t2,Dr _⟩
  ·exact⟨_,a2,kR,rfl,t1.trans t2,st t2,Dr _⟩
 split
 ·obtain⟨s,a2,kR,e2,t2⟩:=yu (bad:=iV) hm hb hl t1.len
  rw [e2]
  exact⟨_,a2,kR,rfl,t1.trans t2,st t2,by show (0:Int)<_; omega⟩
 split
 ·obtain⟨s,a2,kR,e2,t2⟩:=yu (bad:=iV) hm hb hl t1.len
  obtain⟨z,a3,Lx,e3,t3,_,hz⟩:=iC (bad:=kR) hm hb hl t2.len
  rw [e2,aaA]
  dsimp only
  rw [e3,aaA]
  dsimp only
  split
  ·exact⟨_,a3,true,rfl,⟨by have:=t1.le; have:=t2.le; have:=t3.le; omega,t3.len,fun _=>rfl⟩,.inr rfl,by show (0:Int)<_; omega⟩
  ·rename_i g
   simp only [decide_eq_true_eq] at g
   obtain⟨q,acc,a4,Vo,e4,t4⟩:=yy (m:=m) hm hb hl (x5:=(z,⟨b,(a3:Int),Lx⟩)) (by dsimp only; omega) (i64.wrap c) 0 s m 0 [] a3 Lx (by omega) (by omega) (by simp) t3.len
   have e4:aU.l0 m (z,(⟨b,(a3:Int),Lx⟩:ao)) m 0 (i64.wrap c) 0 s [] ⟨b,(a3:Int),Lx⟩=_:=e4
   rw [e4]
   exact⟨_,a4,Vo,rfl,t1.trans (t2.trans (t3.trans t4)),st (t2.trans (t3.trans t4)),by show (0:Int)<_; omega⟩
 ·exact⟨_,a1,true,rfl,⟨t1.le,t1.len,fun _=>rfl⟩,.inr rfl,by show (0:Int)<_; omega⟩
theorem targs (hm:20≤m)(hl:b.length≤300000){x5:Int × ao}(hx:x5.1≤8)(x6 x7:Int)(x8:ByteArray){bad:Bool}{rest:List Int}:∀(l:List Int) (f i:Nat) (acc:List Int) (a:Nat),l.length<f→(i:Int)+l.length=x5.1→acc.length≤i→(∀y∈l,0≤y∧y<2 ^ 63)→b.drop a=(l.map fun y=>bX y.toNat).flatten++rest→
  ∃q,aU.l0 m x5 f (i:Int) x6 x7 x8 acc ⟨b,(a:Int),bad⟩=some (q,x6,x7,x8,acc++l,⟨b,((a+(l.map fun y=>bX y.toNat).flatten.length:Nat):Int),bad⟩)
 | l,0,i,acc,a,hf,_,_,_,_=>absurd hf (by omega)
 | [],f+1,i,acc,a,hf,hi,ho,hr,hd=>by
  simp only [abg] at hi
  unfold aU.l0
  exact⟨_,by rw [if_neg (by simp only [decide_eq_true_eq]; omega),abu]; rfl⟩
 | y::l,f+1,i,acc,a,hf,hi,ho,hr,hd=>by
  have ED:(2:Int) ^ 63=9223372036854775808:=by decide
  have O5:(2:Nat) ^ 63=9223372036854775808:=by decide
  simp only [aaR] at hf hi
  have hy:=hr y (by simp)
  rw [aa6,ab6,aaM] at hd
  have jf:app 8 acc [y]=some (acc++[y]):=by unfold app; rw [if_pos (by simp; omega)]
  obtain⟨q,ih⟩:=targs hm hl hx x6 x7 x8 (bad:=bad) l f (i+1) (acc++[y]) (a+(bX y.toNat).length) (by omega) (by omega) (by simp; omega) (fun z hz=>hr z (by simp [hz])) (kg hd)
  refine⟨q,?_⟩
  unfold aU.l0
  rw [if_pos (by simp only [decide_eq_true_eq]; omega),Ds hm hl (by omega) hd,aaA]
  dsimp only
  rw [show ((y.toNat:Nat):Int)=y by omega,jf,aaA,ay (by omega) (by omega),show (i:Int)+1=((i+1:Nat):Int) by omega,ih,aaM,aa6,ab6,aaI,abl]
  rfl
theorem JM {x:Int}(h:x<0)(h2 : -(2 ^ 62)≤x):(abE (rf x:Int) 2==1)=true∧i64.wrap (i64.wrap (0 - i64.wrap (abr (rf x:Int) 2)) - 1)=x:=by
 have hz:(rf x:Int)=((-x - 1).toNat*2+1:Nat):=by unfold rf; rw [if_pos h]; omega
 have h3:abE (((-x - 1).toNat*2+1:Nat):Int) 2=1:=by
  rw [abB (by omega)]; omega
 have h4:abr (((-x - 1).toNat*2+1:Nat):Int) 2 = -x - 1:=by
  rw [abX (by omega)]; omega
 rw [hz,h3,h4,ay (x:=-x - 1) (by omega) (by omega),ay (x:=0 - (-x - 1)) (by omega) (by omega),ay (by omega) (by omega)]
 exact⟨by decide,by omega⟩
theorem RB (hm:20≤m)(hl:b.length≤300000){n:ae}(W:nQ n)(T:EK n){a:Nat}{bad:Bool}{rest:List Int}(hd:b.drop a=bY n++rest):aU.f m ⟨b,(a:Int),bad⟩=some (n,⟨b,((a+(bY n).length:Nat):Int),bad⟩):=by
 have YQ:(2:Int) ^ 62=4611686018427387904:=by decide
 have ED:(2:Int) ^ 63=9223372036854775808:=by decide
 have O5:(2:Nat) ^ 63=9223372036854775808:=by decide
 have Lj:=T.label
 have h8:=T.args
 have hargs:=W.args.2
 obtain⟨kd,nt,lb,zH⟩:=n
 dsimp only at Lj h8 hargs
 rcases W.kind with⟨h,hi,IK,GL⟩| ⟨h,hi,IK,GL⟩| ⟨h,hi,GL⟩| ⟨h,hi⟩
 ·simp only at h hi IK GL
  subst h IK GL
  have he:bY ⟨0,nt,aaT #[],[]⟩=0::bX nt.toNat:=by simp [bY]
  rw [he,aa0] at hd
  obtain⟨_,_,zG,_⟩:=drop_cons hd
  unfold aU.f
  rw [tp hl hd,aaA]
  dsimp only
  rw [if_pos (by decide),Ds hm hl (by omega) zG,aaA,he,aaR,show a+1+(bX nt.toNat).length=a+((bX nt.toNat).length+1) by omega,show ((nt.toNat:Nat):Int)=nt by omega]
  rfl
 ·simp only at h hi IK GL
  subst h IK GL
  have he:bY ⟨1,nt,aaT #[],[]⟩=1::bX (rf nt):=by simp [bY]
  rw [he,aa0] at hd
  obtain⟨_,_,zG,_⟩:=drop_cons hd
  have hz:=wj (x:=nt) (by omega) (by omega)
  unfold aU.f
  rw [tp hl hd,aaA]
  dsimp only
  rw [if_neg (by decide),if_pos (by decide),Ds hm hl hz zG,aaA]
  dsimp only
  rw [he,aaR,show a+1+(bX (rf nt)).length=a+((bX (rf nt)).length+1) by omega]
  by_cases Dq:nt<0
  ·obtain⟨z1,z2⟩:=JM Dq (by omega)
   rw [if_pos z1,z2]; rfl
  ·obtain⟨z1,z2⟩:=Bo Dq (by omega)
   rw [if_neg z1,z2]; rfl
 ·simp only at h hi GL
  subst h hi GL
  have he:bY ⟨2,0,lb,[]⟩=2::encS lb:=by simp [bY]
  rw [he,aa0] at hd
  obtain⟨_,_,zG,_⟩:=drop_cons hd
  unfold aU.f
  rw [tp hl hd,aaA]
  dsimp only
  rw [if_neg (by decide),if_neg (by decide),if_pos (by decide),Mq hm hl (Lj (.inl rfl)).2 zG,aaA,he,aaR,show a+1+(encS lb).length=a+((encS lb).length+1) by omega]
  rfl
 ·simp only at h hi
  subst h hi
  have he:bY ⟨3,0,lb,zH⟩=3::(encS lb++(bX zH.length++(zH.map fun a=>bX a.toNat).flatten)):=by simp [bY]
  rw [he,aa0,aaM,aaM] at hd
  obtain⟨_,_,zG,_⟩:=drop_cons hd
  have Sv:=kg zG
  have Zr:=kg Sv
  obtain⟨q,e⟩:=targs (m:=m) (b:=b) hm hl (x5:=((zH.length:Int),⟨b,((a+1+(encS lb).length+(bX zH.length).length:Nat):Int),bad⟩)) (by dsimp only; omega) 3 0 lb (bad:=bad) (rest:=rest) zH m 0 [] _ (by omega) (by simp) (by simp) hargs Zr
  have e:aU.l0 m ((zH.length:Int),(⟨b,((a+1+(encS lb).length+(bX zH.length).length:Nat):Int),bad⟩:ao)) m 0 3 0 lb [] ⟨b,((a+1+(encS lb).length+(bX zH.length).length:Nat):Int),bad⟩=_:=e
  have w3:i64.wrap (3:Int)=3:=by decide
  unfold aU.f
  rw [tp hl hd,aaA]
  dsimp only
  rw [w3,if_neg (by decide),if_neg (by decide),if_neg (by decide),if_pos (by decide),Mq hm hl (Lj (.inr rfl)).2 zG,aaA]
  dsimp only
  rw [Ds hm hl (by omega) Sv,aaA]
  dsimp only
  rw [if_neg (by simp only [decide_eq_true_eq]; omega),e,aaA]
  dsimp only
  rw [aa5,he]
  simp only [aaR,aaI]
  congr 4
  omega
def Kf (b:List Int)(a:Nat)(bad:Bool):Nat:=(b.length - a)+if bad=true then 0 else 1
theorem tv (hm:20≤m)(hb:Bytes b)(hl:b.length≤300000)(x1:Int × ao)(x3:Int):∀(f:Nat) (k:Int) (x2:List ae) (a:Nat) (bad:Bool),a≤b.length→Kf b a bad<f→x2.length+Kf b a bad≤400000→(∀n∈x2,n.int<9223372036854775808)→
  ∃(k':Int) (Sw:List ae) (a':Nat) (jk:Bool),aM.l1 m x1 f k x2 x3 ⟨b,(a:Int),bad⟩=some (k',Sw,x3,⟨b,(a':Int),jk⟩)∧Ts b a bad a' jk∧∀n∈Sw,n.int<9223372036854775808
 | 0,k,x2,a,bad,_,hf,_,_=>absurd hf (by omega)
 | f+1,k,x2,a,bad,ha,hf,hs,hn=>by
  unfold aM.l1
  split
  ·split
   ·rename_i g
    have Oj:bad=false:=by simpa using g
    subst Oj
    obtain⟨n,a1,iV,e1,t1,q1,hi⟩:=Gy (bad:=false) hm hb hl ha
    have UY:Kf b a1 iV<Kf b a false:=by
     have:=t1.le
     have:=t1.len
     have e0:Kf b a false=(b.length - a)+1:=rfl
     rcases q1 with q | q
     ·have:Kf b a1 iV≤(b.length - a1)+1:=by unfold Kf; split<;>omega
      omega
     ·subst q
      have:Kf b a1 true=b.length - a1:=rfl
      omega
    have jf:app 56 x2 [n]=some (x2++[n]):=by unfold app; rw [if_pos (by simp; omega)]
    rw [e1,aaA]
    dsimp only
    rw [jf,aaA]
    obtain⟨k',Sw,a2,kR,e2,t2,h2⟩:=tv hm hb hl x1 x3 f (i64.wrap (k+1)) (x2++[n]) a1 iV t1.len (by omega) (by simp; omega) (fun y hy=>by
     rcases aaQ.1 hy with hy | hy
     ·exact hn y hy
     ·simp only [aaO] at hy; subst hy; exact hi)
    exact⟨k',Sw,a2,kR,e2,t1.trans t2,h2⟩
   ·exact⟨_,_,a,bad,rfl,Ts.refl ha,hn⟩
  ·exact⟨_,_,a,bad,rfl,Ts.refl ha,hn⟩
theorem tw (hm:400000≤m)(hb:Bytes b)(hl:b.length≤300000){x0:Int × ao}(hx:x0.1≤8):∀(f i:Nat) (out:List ak) (a:Nat) (bad:Bool),9 - i<f→i≤9→out.length≤i→a≤b.length→(∀t∈out,Ab t)→
  ∃o,aM.l0 m x0 f out (i:Int) ⟨b,(a:Int),bad⟩=some o∧(o = .inl ([],2)∨∃(jI:List ak) (q:Int) (t:ao),o = .inr (jI,q,t)∧jI.length≤9∧∀t∈jI,Ab t)
 | 0,i,out,a,bad,hf,_,_,_,_=>absurd hf (by omega)
 | f+1,i,out,a,bad,hf,hi,ho,ha,h0=>by
  unfold aM.l0
  split
  ·rename_i g
   simp only [decide_eq_true_eq] at g
   split
   ·obtain⟨z,a1,iV,e1,t1,_,_⟩:=iC (m:=m) (bad:=bad) (by omega) hb hl ha
    rw [e1,aaA]
    dsimp only
    split
    ·exact⟨_,rfl,.inl rfl⟩
    ·have UY:Kf b a1 iV≤300001:=by unfold Kf; split<;>omega
     obtain⟨k',x2,a2,kR,e2,t2,hn⟩:=tv (m:=m) (by omega) hb hl (z,⟨b,(a1:Int),iV⟩) 0 m 0 [] a1 iV t1.len (by omega) (by simp; omega) (fun n hn=>by cases hn)
     have jf:app 32 out [ak.mk x2 0]=some (out++[ak.mk x2 0]):=by unfold app; rw [if_pos (by simp; omega)]
     rw [e2,aaA]
     dsimp only
     rw [jf,aaA,ay (by omega) (by omega),show (i:Int)+1=((i+1:Nat):Int) by omega]
     have ED:(2:Int) ^ 63=9223372036854775808:=by decide
     exact tw hm hb hl hx f (i+1) _ a2 kR (by omega) (by omega) (by simp; omega) t2.len fun t ht=>by
      rcases aaQ.1 ht with ht | ht
      ·exact h0 t ht
      ·simp only [aaO] at ht; subst ht
       exact fun n V8 _=>by rw [ED]; exact hn n V8
   ·exact⟨_,rfl,.inr ⟨_,_,_,rfl,by omega,h0⟩⟩
  ·exact⟨_,rfl,.inr ⟨_,_,_,rfl,by omega,h0⟩⟩
theorem JN (hm:20≤m)(hl:b.length≤300000){x1:Int × ao}(hx:x1.1≤8000){rest:List Int}:∀(l:List ae) (f k:Nat) (acc:List ae) (a:Nat),l.length<f→(k:Int)+l.length=x1.1→acc.length=k→(∀n∈l,nQ n∧EK n)→b.drop a=dz l++rest→
  ∃q,aM.l1 m x1 f (k:Int) acc 0 ⟨b,(a:Int),false⟩=some (q,acc++l,0,⟨b,((a+(dz l).length:Nat):Int),false⟩)
 | l,0,k,acc,a,hf,_,_,_,_=>absurd hf (by omega)
 | [],f+1,k,acc,a,hf,hk,ho,hW,hd=>by
  simp only [abg] at hk
  unfold aM.l1
  exact⟨_,by rw [if_neg (by simp only [decide_eq_true_eq]; omega),abu]; rfl⟩
 | n::l,f+1,k,acc,a,hf,hk,ho,hW,hd=>by
  simp only [aaR] at hf hk
  have hn:=hW n (by simp)
  rw [fX,aaM] at hd
  have jf:app 56 acc [n]=some (acc++[n]):=by unfold app; rw [if_pos (by simp; omega)]
  obtain⟨q,ih⟩:=JN hm hl hx l f (k+1) (acc++[n]) (a+(bY n).length) (by omega) (by omega) (by simp; omega) (fun z hz=>hW z (by simp [hz])) (kg hd)
  refine⟨q,?_⟩
  unfold aM.l1
  rw [if_pos (by simp only [decide_eq_true_eq]; omega),if_pos (by rfl),RB hm hl hn.1 hn.2 hd,aaA]
  dsimp only
  rw [jf,aaA,ay (by omega) (by omega),show (k:Int)+1=((k+1:Nat):Int) by omega,ih,aaM,fX,aaI,abl]
  rfl
theorem JO (hm:10000≤m)(hl:b.length≤300000){x0:Int × ao}(hx:x0.1≤8){rest:List Int}:∀(l:List ak) (f k:Nat) (acc:List ak) (a:Nat),l.length<f→(k:Int)+l.length=x0.1→acc.length=k→(∀t∈l,gU t∧kQ t)→b.drop a=bM l++rest→
  ∃(q:Int) (a':Nat),aM.l0 m x0 f acc (k:Int) ⟨b,(a:Int),false⟩=some (.inr (acc++l,q,⟨b,(a':Int),false⟩))
 | l,0,k,acc,a,hf,_,_,_,_=>absurd hf (by omega)
 | [],f+1,k,acc,a,hf,hk,ho,hW,hd=>by
  simp only [abg] at hk
  unfold aM.l0
  exact⟨_,a,by rw [if_neg (by simp only [decide_eq_true_eq]; omega),abu]⟩
 | t::l,f+1,k,acc,a,hf,hk,ho,hW,hd=>by
  have O5:(2:Nat) ^ 63=9223372036854775808:=by decide
  simp only [aaR] at hf hk
  obtain⟨L,W⟩:=hW t (by simp)
  have wc:=L.ng
  rw [gW,hY,aaM,aaM] at hd
  have zG:=kg hd
  have Sv:=kg zG
  obtain⟨y,e⟩:=JN (m:=m) (b:=b) (by omega) hl (x1:=((t.nodes.length:Int),⟨b,((a+(bX t.nodes.length).length:Nat):Int),false⟩)) (by dsimp only; omega) t.nodes m 0 [] _ (by omega) (by simp) rfl (fun n hn=>⟨W.nodes n hn,(L.nodes n hn).1⟩) zG
  have e:aM.l1 m ((t.nodes.length:Int),(⟨b,((a+(bX t.nodes.length).length:Nat):Int),false⟩:ao)) m 0 [] 0 ⟨b,((a+(bX t.nodes.length).length:Nat):Int),false⟩=_:=e
  have jf:app 32 acc [t]=some (acc++[t]):=by unfold app; rw [if_pos (by simp; omega)]
  obtain⟨q,a',ih⟩:=JO hm hl hx l f (k+1) (acc++[t]) _ (by omega) (by omega) (by simp; omega) (fun z hz=>hW z (by simp [hz])) Sv
  refine⟨q,a',?_⟩
  unfold aM.l0
  rw [if_pos (by simp only [decide_eq_true_eq]; omega),if_pos (by rfl),Ds (m:=m) (by omega) hl (by omega) hd,aaA]
  dsimp only
  rw [if_neg (by simp only [decide_eq_true_eq]; omega),e,aaA]
  dsimp only
  rw [aa5,show ak.mk t.nodes 0=t by rw [←W.root],jf,aaA,ay (by omega) (by omega),show (k:Int)+1=((k+1:Nat):Int) by omega,ih,aaM]
  rfl
end
theorem Mx {m:Nat}{x y:ae}(hl:x.args.length=y.args.length)(h8:y.args.length≤8):∀(f i:Nat),x.args.length - i<f→i≤x.args.length→∃o,aR.l1 m x y f (i:Int)=some o∧(o = .inl false∨(∃z,o = .inr z)∧x.args.drop i=y.args.drop i)
 | 0,i,hf,_=>absurd hf (by omega)
 | f+1,i,hf,hi=>by
  unfold aR.l1
  by_cases h:i<x.args.length
  ·rw [if_pos (by simp only [decide_eq_true_eq]; omega),kS h,aaA,kS (by omega),aaA]
   by_cases e:x.args[i]=y.args[i]
   ·obtain⟨o,k1,k2⟩:=Mx (m:=m) hl h8 f (i+1) (by omega) (by omega)
    rw [if_neg (by simp [e]),ay (by omega) (by omega),show (i:Int)+1=((i+1:Nat):Int) by omega,k1]
    exact⟨o,rfl,k2.imp id fun ⟨z,k⟩=>⟨z,by rw [aaP h,aaP (show i<y.args.length by omega),k,e]⟩⟩
   ·rw [if_pos (by simpa using e)]
    exact⟨_,rfl,.inl rfl⟩
  ·exact⟨.inr (i:Int),by rw [if_neg (by simp only [decide_eq_true_eq]; omega)],.inr ⟨⟨_,rfl⟩,by rw [aaU (by omega),aaU (by omega)]⟩⟩
theorem Ly {s u:ByteArray}(h:s.data.toList=u.data.toList):s=u:=by
 cases s with
 | mk d=>cases u with
  | mk e=>cases d with
   | mk l=>cases e with
    | mk k=>simp only at h; subst h; rfl
theorem JP {p r:ae}(h1:p.kind=r.kind)(h2:p.int=r.int)(h3:p.label=r.label)(h4:p.args=r.args):p=r:=by
 cases p; cases r; simp only at h1 h2 h3 h4; subst h1 h2 h3 h4; rfl
theorem JQ {p r:ak}(h1:p.nodes=r.nodes)(h2:p.root=r.root):p=r:=by
 cases p; cases r; simp only at h1 h2; subst h1 h2; rfl
theorem My {m:Nat}(hm:10≤m){s t:ak}(hl:s.nodes.length=t.nodes.length)(L:gU t):∀(f i:Nat),s.nodes.length - i<f→i≤s.nodes.length→∃o,aR.l0 m s t f (i:Int)=some o∧(o = .inl false∨(∃z,o = .inr z)∧s.nodes.drop i=t.nodes.drop i)
 | 0,i,hf,_=>absurd hf (by omega)
 | f+1,i,hf,hi=>by
  have wc:=L.ng
  unfold aR.l0
  by_cases h:i<s.nodes.length
  ·have h':i<t.nodes.length:=by omega
   have h8:=(L.nodes _ (abe h')).1.args
   rw [if_pos (by simp only [decide_eq_true_eq]; omega),kS h,aaA,kS h',aaA]
   split
   ·exact⟨_,rfl,.inl rfl⟩
   split
   ·exact⟨_,rfl,.inl rfl⟩
   split
   ·exact⟨_,rfl,.inl rfl⟩
   split
   ·exact⟨_,rfl,.inl rfl⟩
   rename_i g1 g2 g3 g4
   have g1:s.nodes[i].kind=t.nodes[i].kind:=by simpa using g1
   have g2:s.nodes[i].int=t.nodes[i].int:=by simpa using g2
   have g3:s.nodes[i].label=t.nodes[i].label:=Ly (by simpa using g3)
   have g4:s.nodes[i].args.length=t.nodes[i].args.length:=by
    have:(s.nodes[i].args.length:Int)=t.nodes[i].args.length:=by simpa using g4
    omega
   obtain⟨o,k1,k2⟩:=Mx (m:=m) g4 h8 m 0 (by omega) (by omega)
   have k1:aR.l1 m s.nodes[i] t.nodes[i] m 0=_:=k1
   rw [k1,aaA]
   rcases k2 with rfl | ⟨⟨z,rfl⟩,k2⟩
   ·exact⟨_,rfl,.inl rfl⟩
   ·dsimp only
    rw [aa3,aa3] at k2
    obtain⟨o,j1,j2⟩:=My hm hl L f (i+1) (by omega) (by omega)
    rw [ay (by omega) (by omega),show (i:Int)+1=((i+1:Nat):Int) by omega,j1]
    refine⟨o,rfl,j2.imp id fun ⟨z,k⟩=>⟨z,?_⟩⟩
    rw [aaP h,aaP h',k]
    rw [JP g1 g2 g3 k2]
  ·exact⟨.inr (i:Int),by rw [if_neg (by simp only [decide_eq_true_eq]; omega)],.inr ⟨⟨_,rfl⟩,by rw [aaU (by omega),aaU (by omega)]⟩⟩
theorem Lz {m:Nat}(hm:10000≤m){s t:ak}(L:gU t):∃v,aR.f m s t=some v∧(v=true→s=t):=by
 have wc:=L.ng
 unfold aR.f
 split
 ·exact⟨_,rfl,fun h=>by cases h⟩
 split
 ·exact⟨_,rfl,fun h=>by cases h⟩
 rename_i g1 g2
 have g1:s.nodes.length=t.nodes.length:=by
  have:(s.nodes.length:Int)=t.nodes.length:=by simpa using g1
  omega
 have g2:s.root=t.root:=by simpa using g2
 obtain⟨o,k1,k2⟩:=My (m:=m) (by omega) g1 L m 0 (by omega) (by omega)
 have k1:aR.l0 m s t m 0=_:=k1
 rw [k1,aaA]
 rcases k2 with rfl | ⟨⟨z,rfl⟩,k2⟩
 ·exact⟨_,rfl,fun h=>by cases h⟩
 ·refine⟨_,rfl,fun _=>?_⟩
  rw [aa3,aa3] at k2
  exact JQ k2 g2
end Go.Proofs.YtmekcfdllhphlaaGreatDoor
namespace Go.Proofs.YtmekcfdllhphlaaGreatDoor
open Go Go.R
open Go.IntKind (i64 u64 u8 u32)
end Go.Proofs.YtmekcfdllhphlaaGreatDoor
namespace Go.Proofs.YtmekcfdllhphlaaGreatDoor
open Go Go.R
open Go.IntKind (i64 u64 u8 u32)
theorem E7 {m:Nat}(x y:List Int):dt.f m x y=some ((bQ x).data.toList==(bQ y).data.toList):=rfl
theorem rB {m:Nat}(x:List Int):dt.f m x x=some true:=by rw [E7]; simp
end Go.Proofs.YtmekcfdllhphlaaGreatDoor
namespace Go.Proofs.YtmekcfdllhphlaaGreatDoor
open Go Go.R
open Go.IntKind (i64 u64 u8 u32)
end Go.Proofs.YtmekcfdllhphlaaGreatDoor
namespace Go.Proofs.YtmekcfdllhphlaaGreatDoor
open Go Go.R
open Go.IntKind (i64 u64 u8 u32)
end Go.Proofs.YtmekcfdllhphlaaGreatDoor
namespace Go.Proofs.YtmekcfdllhphlaaGreatDoor
open Go Go.R
open Go.IntKind (i64 u64 u8 u32)
def Gz:b9:=gm [0,2,3,4,5,6,8,10,17,19,20,21,22,26,27,28,29,34] [8,10] [262142,262119,261863,262137,262103,258527,254431,258463,201183,135647,201055,69983,201183,201183,258527,262111,262137] [] [(4,[(6,none,1)])]
def bf.l1 (m:Nat)(v0:ak):Nat→(List Int)→Int→Option ((List Int) × Int)
 | 0,_,_=>none
 | k+1,bm,x2=>if (decide (x2<(v0.nodes.length:Int)))=true then ((ix v0.nodes x2).bind fun v1=>if (v1.kind==(0:Int))=true then ((app 8 bm ([v1.int])).bind fun x3=>bf.l1 m v0 k x3 (i64.wrap (x2+(1:Int)))) else (bf.l1 m v0 k bm (i64.wrap (x2+(1:Int))))) else (some ((bm,x2)))
def bf.l0 (m:Nat)(x0:(List ak) × Int):Nat→(List Int)→Int→Option ((List Int) × Int)
 | 0,_,_=>none
 | k+1,aF,x1=>if (decide (x1<(x0.1.length:Int)))=true then ((ix x0.1 x1).bind fun v0=>(bf.l1 m v0 m aF (0:Int)).bind fun jR=>match jR with | (cw,x4)=>bf.l0 m x0 k cw (i64.wrap (x1+(1:Int)))) else (some ((aF,x1)))
def bf.f (m:Nat)(b0:List Int):Option ((List Int) × Int):=(aO.f m b0).bind fun x0=>if (!(x0.2==(0:Int)))=true then (some ([],x0.2)) else ((bf.l0 m x0 m ([]:List Int) (0:Int)).bind fun kW=>match kW with | (cE,x5)=>some (Go.Lib.compact (gQ cE),(0:Int)))
def bf.fin (L:Mem)(r:(List Int) × Int)(s:St):Prop:=∃av,aH Tryz.prog (s.open Gz) Tryz.f8.results.toList=some av∧gf s.h av (.tup [aa.fz r.1,.int .i64 r.2])
def S8 (cf:CallF)(m:Nat):Prop:=∀(b0:List Int) (r:(List Int) × Int),bf.f m b0=some r→∀h xs,eR fh h xs [af.fz b0]→cf 8 xs h=some (.tup [aa.fz r.1,.int .i64 r.2],h)
section
variable {cf:CallF}{m:Nat}
theorem bf.eO (L:Mem)(x0:(List ak) × Int)(x1:Int)(v0:ak)   : bC Tryz.prog cf Gz m (sub [1,1,1,1,0,1,0,0,1,1,0,0,1,1,0,0] (codeOf Tryz.f8)) (fun k (σ:(List Int) × Int)=>bf.l1 m v0 k σ.1 σ.2) (fun σ s=>match σ with | (bm,x2)=>∃dR h1,s=⟨qF (.rs dR 0 bm.length 1::jE [aL.fz x0.1,.int .i64 (x0.1.length:Int),.int .i64 x1,.any,ah.fz v0.nodes,.int .i64 (v0.nodes.length:Int),.int .i64 x2,.any,.any]),[none,none],h1⟩∧Has h1 ((dR,.sl bm.length 1 (aa.l bm))::L)) (fun out e s=>(e = .exit 2∧∃bm x2,(bm,x2)=out∧∃N7 zJ Vp NI dR h1,s=⟨qF (.rs dR 0 bm.length 1::jE [aL.fz x0.1,.int .i64 (x0.1.length:Int),.int .i64 x1,.any,N7,zJ,Vp,NI,.any]),[none,none],h1⟩∧Has h1 ((dR,.sl bm.length 1 (aa.l bm))::L))):=by
 refine gk (fun _=>rfl) ?_
 rintro k ⟨bm,x2⟩ s out ⟨dR,h1,rfl,o2⟩ H
 have H:bf.l1 m v0 (k+1) bm x2=some out:=H
 refine q1 <| qq <| qc H (fun c2 H=>?_) (fun c2 H=>?_)
 ·refine qk <| qq <| qb 3 <| qq ?_
  obtain⟨v1,e2,H⟩:=aG H
  refine qr [.v 0 (bN (k:=.i64) (E:=ah) (l:=v0.nodes) mj e2),.v 1 (dI  (E:=ah) (l:=v0.nodes) h1 th ti e2)] <| qq <| q0 <| qc H (fun c3 H=>?_) (fun c3 H=>?_)
  ·obtain⟨x3,e3,H⟩:=aG H
   obtain⟨cR,h2,e4,o3⟩:=cL (P:=Tryz.prog) (E:=aa) (l:=bm) (q:=0) (t2:=28) (x:=.fz [.int .i64 v1.int] 1 true) (l2:=([v1.int])) dK o2 rfl (by kernel_rfl) rfl e3
   exact qr [.a 4 e4] <| q0 <| ⟨(x3,i64.wrap (x2+(1:Int))),⟨cR,h2,by kernel_rfl,o3⟩,H⟩
  ·exact qk <| q0 <| ⟨(bm,i64.wrap (x2+(1:Int))),⟨dR,h1,by kernel_rfl,o2⟩,H⟩
 ·exact qx 2 <| ⟨rfl,bm,x2,oi H,ah.fz v0.nodes,.int .i64 (v0.nodes.length:Int),.int .i64 x2,.bool (decide (x2<(v0.nodes.length:Int))),dR,h1,by kernel_rfl,o2⟩
theorem bf.bu (L:Mem)(x0:(List ak) × Int)   : bC Tryz.prog cf Gz m (sub [1,1,1,1,0,1,0,0] (codeOf Tryz.f8)) (fun k (σ:(List Int) × Int)=>bf.l0 m x0 k σ.1 σ.2) (fun σ s=>match σ with | (aF,x1)=>∃az h0,s=⟨qF (.rs az 0 aF.length 1::jE (aL.fz x0.1 :: .int .i64 (x0.1.length:Int) :: .int .i64 x1::zX [])),[none,none],h0⟩∧Has h0 ((az,.sl aF.length 1 (aa.l aF))::L)) (fun out e s=>(e = .exit 0∧∃aF x1,(aF,x1)=out∧∃Dj CX NM zq az h0,s=⟨qF (.rs az 0 aF.length 1::jE (Dj::CX::NM::zq::qF [])),[none,none],h0⟩∧Has h0 ((az,.sl aF.length 1 (aa.l aF))::L))):=by
 refine gk (fun _=>rfl) ?_
 rintro k ⟨aF,x1⟩ s out ⟨az,h0,rfl,o1⟩ H
 have H:bf.l0 m x0 (k+1) aF x1=some out:=H
 refine q1 <| qq <| qc H (fun c1 H=>?_) (fun c1 H=>?_)
 ·refine qk <| qq <| qb 1 <| qq ?_
  obtain⟨v0,e1,H⟩:=aG H
  refine qr [.v 0 (bN (k:=.i64) (E:=aL) (l:=x0.1) xZ e1),.v 1 (dI  (E:=aL) (l:=x0.1) h0 J7 J8 e1)] <| qq <| q0 <| qb 2 ?_
  obtain⟨jR,e5,H⟩:=aG H
  refine ql (bf.eO L x0 x1 v0   (aF,(0:Int)) _ _ ⟨az,h0,by kernel_rfl,o1⟩ e5) ?_
  rintro e s ⟨rfl,cw,x4,rfl,g0,g1,g2,g3,fc,h3,rfl,o4⟩
  try dsimp only at H
  exact q0 <| ⟨(cw,i64.wrap (x1+(1:Int))),⟨fc,h3,by kernel_rfl,o4⟩,H⟩
 ·exact qx 0 <| ⟨rfl,aF,x1,oi H,aL.fz x0.1,.int .i64 (x0.1.length:Int),.int .i64 x1,.bool (decide (x1<(x0.1.length:Int))),az,h0,by kernel_rfl,o1⟩
theorem sM {aV:FuncId→b9}(ha:aV 8=Gz)(Oz:S6 cf m)(Vq:Wf cf m)(Vr:Wg cf m)(b0:List Int)(h:AHeap)(L:Mem)  (o:Has h (L)){out:(List Int) × Int}(H:bf.f m b0=some out) :
  ∃r h',bg Tryz.prog aV cf m 8 [af.fz b0] h=some (r,h')∧gf h' r (.tup [aa.fz out.1,.int .i64 out.2]):=by
 refine aj (fn:=Tryz.f8) ha Tryz.func8 (by kernel_rfl) (by kernel_rfl) ?_
 refine aD (Q:=fun s=>bf.fin L out s) (fun _ _ h=>h) ?_
 have H:_=some out:=H
 unfold bf.f at H
 show dA _ cf Gz m _ ⟨af.fz b0::CT [],[none,none],h⟩ _
 refine q1 <| qq ?_
 obtain⟨x0,e0,H⟩:=aG H
 refine qr [.a 1 (Oz _ _ e0 h _ (cb (gP (E:=af)) (fH)))] <| qq <| qq <| q0 <| qc H (fun c0 H=>?_) (fun c0 H=>?_)
 ·obtain rfl:=oi H
  exact q1 <| qt <| ⟨.inl rfl,cp (.tup [.nils,.int .i64 x0.2]) h (cn (kj (dQ (qC) (dQ (dB) (ki)))))⟩
 ·refine qk <| qq <| q0 ?_
  have o0:Has h (((0),.sl (([]:List Int).length) 1 (aa.l ([]:List Int)))::L):=Has.nil o 1
  refine qq <| qq <| q0 <| qb 0 ?_
  obtain⟨kW,e6,H⟩:=aG H
  refine ql (bf.bu L x0   (([]:List Int),(0:Int)) _ _ ⟨(0),h,by kernel_rfl,o0⟩ e6) ?_
  rintro e s ⟨rfl,cE,x5,rfl,g4,g5,g6,g7,gY,h4,rfl,o5⟩
  try dsimp only at H
  refine qq ?_
  obtain⟨h5,e7,o6⟩:=ND (l:=cE) Vq o5
  refine qr [.a 1 e7] <| qq ?_
  obtain⟨h6,e8,o7⟩:=NF (l:=(gQ cE)) Vr o6
  obtain rfl:=oi H
  exact qr [.a 1 e8] <| qt <| ⟨.inl rfl,cp (.tup [.rs gY 0 ((Go.Lib.compact (gQ cE)).length) 1,.int .i64 (0:Int)]) h6 (cn (kj (dQ (vn (E:=aa) (l:=(Go.Lib.compact (gQ cE))) (q:=0) o7 rfl (fun _=>rfl)) (dQ (dB) (ki)))))⟩
end
end Go.Proofs.YtmekcfdllhphlaaGreatDoor
namespace Go.Proofs.YtmekcfdllhphlaaGreatDoor
open Go Go.R
open Go.IntKind (i64 u64 u8 u32)
theorem wL (S:List Int)(j:Nat):S.toArray[j]! = gt S j:=by
 unfold gt
 by_cases h:j<S.length
 ·simp [h,aaW]
 ·rw [aaW,aa1 (by omega)]
  simp [h]
theorem sN {S:List Int}(hS:∀i j,i≤j→j<S.length→gt S i≤gt S j):∀m,m≤S.length→(Lib.compactUpTo S.toArray m).Pairwise (fun a b=>a<b)∧∀x,x∈Lib.compactUpTo S.toArray m↔∃j,j<m∧gt S j=x
 | 0,_=>⟨by simp [Lib.compactUpTo],by simp [Lib.compactUpTo]⟩
 | m+1,h=>by
  obtain⟨h1,h2⟩:=sN hS m (by omega)
  rw [Lib.compactUpTo_succ,wL]
  have hk:Lib.keeps S.toArray m=decide (m=0∨gt S m≠gt S (m - 1)):=by unfold Lib.keeps; rw [wL,wL]
  rw [hk]
  by_cases hd:m=0∨gt S m≠gt S (m - 1)
  ·rw [decide_eq_true hd,if_pos rfl]
   refine⟨List.pairwise_append.2 ⟨h1,by simp,fun a ha b hb=>?_⟩,fun x=>?_⟩
   ·simp only [aaO] at hb
    subst hb
    obtain⟨j,hj,rfl⟩:=(h2 a).1 ha
    have g1:=hS j (m - 1) (by omega) (by omega)
    have g2:=hS (m - 1) m (by omega) (by omega)
    rcases hd with hd | hd<;>omega
   ·rw [aaQ,h2 x,aaO]
    constructor
    ·rintro (⟨j,hj,e⟩| e)
     ·exact⟨j,by omega,e⟩
     ·exact⟨m,by omega,e.symm⟩
    ·rintro⟨j,hj,e⟩
     by_cases Vt:j=m
     ·right; rw [←e,Vt]
     ·exact .inl ⟨j,by omega,e⟩
  ·rw [decide_eq_false hd,if_neg (by simp),abu]
   refine⟨h1,fun x=>?_⟩
   rw [h2 x]
   have um:m≠0:=fun e=>hd (.inl e)
   have he:gt S m=gt S (m - 1):=Decidable.byContradiction fun e=>hd (.inr e)
   constructor
   ·rintro⟨j,hj,e⟩; exact⟨j,by omega,e⟩
   ·rintro⟨j,hj,e⟩
    by_cases Vt:j=m
    ·exact⟨m - 1,by omega,by rw [←he,←Vt]; exact e⟩
    ·exact⟨j,by omega,e⟩
theorem OA {S:List Int}{x:Int}:x∈S↔∃j,j<S.length∧gt S j=x:=by
 constructor
 ·intro h
  obtain⟨j,hj,e⟩:=ab7 h
  have:=bL hj
  rw [aaL hj,e] at this
  exact⟨j,hj,(aa2 this).symm⟩
 ·rintro⟨j,hj,rfl⟩; exact a8 hj
def once (l:List Int):List Int:=Lib.compact (gQ l)
theorem wM (l:List Int):∀i j,i≤j→j<(gQ l).length→gt (gQ l) i≤gt (gQ l) j:=by
 have hp:(gQ l).Pairwise (fun a b=>decide (a≤b)=true):=List.pairwise_mergeSort (fun a b c h1 h2=>by simp only [decide_eq_true_eq] at h1 h2 ⊢; omega) (fun a b=>by simp; omega) l
 intro i j xM hj
 by_cases h:i=j
 ·subst h; exact ab9 _
 ·have:=ab3.1 hp i j (by omega) hj (by omega)
  simp only [decide_eq_true_eq] at this
  have e1:=bL (l:=gQ l) (k:=i) (by omega)
  have e2:=bL (l:=gQ l) (k:=j) hj
  rw [aaL (by omega)] at e1 e2
  rw [←aa2 e1,←aa2 e2]; exact this
theorem GA (l:List Int):(∀i j,i<j→j<(once l).length→gt (once l) i<gt (once l) j)∧∀x,x∈once l↔x∈l:=by
 obtain⟨h1,h2⟩:=sN (wM l) (gQ l).length (aaE _)
 have h1:(once l).Pairwise (fun a b=>a<b):=h1
 refine⟨fun i j xM hj=>?_,fun x=>?_⟩
 ·have:=ab3.1 h1 i j (by omega) hj xM
  have e1:=bL (l:=once l) (k:=i) (by omega)
  have e2:=bL (l:=once l) (k:=j) hj
  rw [aaL (by omega)] at e1 e2
  rw [←aa2 e1,←aa2 e2]; exact this
 ·have h2:x∈once l↔_:=h2 x
  rw [h2,←OA]
  exact (List.mergeSort_perm _ _).mem_iff
theorem JR (l:List Int):(once l).length≤l.length:=by
 have h1:=AW (gQ l)
 rw [sb] at h1
 exact h1
def GB (l:List ae):List Int:=(l.filter fun n=>n.kind==0).map fun n=>n.int
def uf (l:List ak):List Int:=(l.map fun t=>GB t.nodes).flatten
theorem BZ (n:ae)(l:List ae):GB (n::l)=if n.kind=0 then n.int::GB l else GB l:=by
 unfold GB
 rw [List.filter_cons]
 by_cases h:n.kind=0
 ·rw [if_pos (by simp [h]),if_pos h]; rfl
 ·rw [if_neg (by simp [h]),if_neg h]
theorem sO (t:ak)(l:List ak):uf (t::l)=GB t.nodes++uf l:=rfl
theorem E8 (l:List ae):(GB l).length≤l.length:=by unfold GB; rw [aaX]; exact List.length_filter_le _ _
theorem B0:∀l:List ak,(uf l).length≤(l.map fun t=>t.nodes.length).sum
 | []=>by simp [uf]
 | t::l=>by
  have h1:=E8 t.nodes
  have h2:=B0 l
  rw [sO,aaI,aa6,List.sum_cons]; omega
theorem zV {m:Nat}{v:ak}(hv:v.nodes.length≤10000):∀(f k:Nat) (out:List Int),v.nodes.length - k<f→k≤v.nodes.length→out.length+(v.nodes.length - k)≤100000000→
  ∃x,bf.l1 m v f out (k:Int)=some (out++GB (v.nodes.drop k),x)
 | 0,k,out,hf,_,_=>absurd hf (by omega)
 | f+1,k,out,hf,hk,hb=>by
  unfold bf.l1
  by_cases h:k<v.nodes.length
  ·have e1:i64.wrap ((k:Int)+1)=((k+1:Nat):Int):=by rw [ay (by omega) (by omega)]; omega
   rw [if_pos (by simp only [decide_eq_true_eq]; omega),kS h,aaA,aaP h,BZ,e1]
   by_cases Fp:v.nodes[k].kind=0
   ·have jf:app 8 out [v.nodes[k].int]=some (out++[v.nodes[k].int]):=by unfold app; rw [if_pos (by simp; omega)]
    obtain⟨x,ih⟩:=zV (m:=m) hv f (k+1) (out++[v.nodes[k].int]) (by omega) (by omega) (by simp; omega)
    exact⟨x,by rw [if_pos (by simp [Fp]),jf,aaA,if_pos Fp,ih,aaM]; rfl⟩
   ·obtain⟨x,ih⟩:=zV (m:=m) hv f (k+1) out (by omega) (by omega) (by omega)
    exact⟨x,by rw [if_neg (by simp [Fp]),if_neg Fp,ih]⟩
  ·exact⟨(k:Int),by rw [if_neg (by simp only [decide_eq_true_eq]; omega),aaU (by omega)]; simp [GB]⟩
theorem E9 {m:Nat}(hm:10001≤m){L:List ak}(h8:L.length≤100)(hL:∀t∈L,t.nodes.length≤10000):∀(f i:Nat) (out:List Int),L.length - i<f→i≤L.length→out.length+10000*(L.length - i)≤10000000→
  ∃x,bf.l0 m (L,0) f out (i:Int)=some (out++uf (L.drop i),x)
 | 0,i,out,hf,_,_=>absurd hf (by omega)
 | f+1,i,out,hf,hi,hb=>by
  unfold bf.l0
  dsimp only
  by_cases h:i<L.length
  ·have h1:=hL _ (abe h)
   obtain⟨x,q1⟩:=zV (m:=m) h1 m 0 out (by omega) (by omega) (by omega)
   have q1:bf.l1 m L[i] m out 0=_:=q1
   have h2:=E8 L[i].nodes
   obtain⟨y,ih⟩:=E9 hm h8 hL f (i+1) (out++GB L[i].nodes) (by omega) (by omega) (by rw [aaI]; omega)
   refine⟨y,?_⟩
   rw [if_pos (by simp only [decide_eq_true_eq]; omega),kS h,aaA,q1,aaA,aa3]
   dsimp only
   rw [ay (by omega) (by omega),show (i:Int)+1=((i+1:Nat):Int) by omega,ih,aaP h,sO,aaM]
  ·exact⟨(i:Int),by rw [if_neg (by simp only [decide_eq_true_eq]; omega),aaU (by omega)]; simp [uf]⟩
theorem Fa {m:Nat}(hm:10001≤m){b:List Int}{L:List ak}(H:aO.f m b=some (L,0))(h8:L.length≤100)(hL:∀t∈L,t.nodes.length≤10000):bf.f m b=some (once (uf L),0):=by
 obtain⟨x,q⟩:=E9 hm h8 hL m 0 [] (by omega) (by omega) (by simp; omega)
 have q:bf.l0 m (L,0) m [] 0=_:=q
 unfold bf.f
 rw [H,aaA,if_neg (by simp),q,aaA]
 rfl
end Go.Proofs.YtmekcfdllhphlaaGreatDoor
namespace Go.Proofs.YtmekcfdllhphlaaGreatDoor
open Go Go.R
open Go.IntKind (i64 u64 u8 u32)
def B1:b9:=gm [0,1,4,5,6,18,32] [] [124,116,84,116,52,123,100,102,123] [] []
def dG.l0 (m:Nat)(l0:List Int)(n0:Int):Nat→Int→Option (Int)
 | 0,_=>none
 | k+1,k0=>if (decide (k0<(l0.length:Int)))=true then ((ix l0 k0).bind fun v0=>if (decide (v0<n0))=true then (dG.l0 m l0 n0 k (i64.wrap (k0+(1:Int)))) else (some (k0))) else (some (k0))
def dG.f (m:Nat)(l0:List Int)(n0:Int):Option ((List Int)):=(dG.l0 m l0 n0 m (0:Int)).bind fun aF=>match aF with | k1=>if (decide (k1<(l0.length:Int)))=true then ((ix l0 k1).bind fun v1=>if (v1==n0)=true then (some l0) else ((kU l0 (0:Int) k1).bind fun v2=>(app 8 ([]) v2).bind fun x0=>(app 8 x0 ([n0])).bind fun x1=>(kU l0 k1 (l0.length:Int)).bind fun v3=>(app 8 x1 v3).bind fun x2=>some x2)) else ((kU l0 (0:Int) k1).bind fun v4=>(app 8 ([]) v4).bind fun x3=>(app 8 x3 ([n0])).bind fun x4=>(kU l0 k1 (l0.length:Int)).bind fun v5=>(app 8 x4 v5).bind fun x5=>some x5)
def dG.fin (L:Mem)(r:(List Int))(s:St):Prop:=∃av,aH Tryz.prog (s.open B1) Tryz.f33.results.toList=some av∧vm s.h av (aa.fz r)
def Sx (cf:CallF)(m:Nat):Prop:=∀(l0:List Int) (n0:Int) (r:(List Int)),dG.f m l0 n0=some r→∀h xs,lh xs [aa.fz l0,.int .i64 n0]→cf 33 xs h=some (aa.fz r,h)
section
variable {cf:CallF}{m:Nat}
theorem dG.bu (L:Mem)(l0:List Int)(n0:Int)   : bC Tryz.prog cf B1 m (sub [1,1,0,0,0] (codeOf Tryz.f33)) (fun k (σ:Int)=>dG.l0 m l0 n0 k σ) (fun σ s=>match σ with | k0=>∃h0,s=⟨aa.fz l0 :: .int .i64 n0 :: .any :: .int .i64 k0::jE [],[],h0⟩∧Has h0 (L)) (fun out e s=>(e = .exit 0∧∃k0,k0=out∧∃Vu h0,s=⟨[aa.fz l0,.int .i64 n0,.any,.int .i64 k0,.any,Vu,.any],[],h0⟩∧Has h0 (L))):=by
 refine gk (fun _=>rfl) ?_
 rintro k k0 s out ⟨h0,rfl,o0⟩ H
 have H:dG.l0 m l0 n0 (k+1) k0=some out:=H
 refine qq <| qq ?_
 rcases dX H with⟨c0,H⟩| ⟨c0,H⟩
 ·obtain⟨v0,e0,H⟩:=aG H
  refine qr [.b 4 c0,.v 7 (bN (k:=.i64) (E:=aa) (l:=l0) dK e0),.v 8 (dd  (E:=aa) (l:=l0) h0 A3 e0 rfl)] <| qc H (fun c1 H=>?_) (fun c1 H=>?_)
  ·exact qk <| qb 1 <| q0 <| ⟨i64.wrap (k0+(1:Int)),⟨h0,by kernel_rfl,o0⟩,H⟩
  ·exact qx 0 <| ⟨rfl,k0,oi H,.bool (decide (v0<n0)),h0,by kernel_rfl,o0⟩
 ·exact qr [.b 4 c0] <| AU <| qx 0 <| ⟨rfl,k0,oi H,.bool false,h0,by kernel_rfl,o0⟩
theorem wN {aV:FuncId→b9}(ha:aV 33=B1)  (l0:List Int)(n0:Int)(h:AHeap)(L:Mem)  (o:Has h (L)){out:(List Int)}(H:dG.f m l0 n0=some out) :
  ∃r h',bg Tryz.prog aV cf m 33 [aa.fz l0,.int .i64 n0] h=some (r,h')∧vm h' r (aa.fz out):=by
 refine aj (fn:=Tryz.f33) ha Tryz.func33 (by kernel_rfl) (by kernel_rfl) ?_
 refine aD (Q:=fun s=>dG.fin L out s) (fun _ _ h=>h) ?_
 have H:_=some out:=H
 unfold dG.f at H
 show dA _ cf B1 m _ ⟨aa.fz l0 :: .int .i64 n0::qF [],[],h⟩ _
 refine q1 <| qq <| q0 <| qq <| qb 0 ?_
 obtain⟨aF,e1,H⟩:=aG H
 refine ql (dG.bu L l0 n0   (0:Int) _ _ ⟨h,by kernel_rfl,o⟩ e1) ?_
 rintro e s ⟨rfl,k1,rfl,g0,h1,rfl,o1⟩
 try dsimp only at H
 refine qq <| qq ?_
 rcases dX H with⟨c3,H⟩| ⟨c3,H⟩
 ·obtain⟨v1,e2,H⟩:=aG H
  refine qr [.b 4 c3,.v 7 (bN (k:=.i64) (E:=aa) (l:=l0) dK e2),.v 8 (dd  (E:=aa) (l:=l0) h1 A3 e2 rfl)] <| qc H (fun c4 H=>?_) (fun c4 H=>?_)
  ·obtain rfl:=oi H
   exact q1 <| qt <| ⟨.inl rfl,oF (aa.fz l0) h1 (lI (bB))⟩
  ·refine qk <| qq ?_
   obtain⟨v2,e3,H⟩:=aG H
   obtain⟨x0,e4,H⟩:=aG H
   obtain⟨az,h2,e5,o2⟩:=Hz (P:=Tryz.prog) (E:=aa) (s:=.fz [] 0 true) (t2:=28) (x:=aa.fz v2) (l2:=v2) (.inr rfl) dK o1 (lX (E:=aa) (l2:=v2) _) rfl e4
   refine qr [.v 3 (show eN Tryz.prog 28 (aa.fz l0) none (some (.int .i64 k1)) none=some (aa.fz v2) from uz (E:=aa) dK e3),.a 4 e5] <| qq ?_
   obtain⟨x1,e6,H⟩:=aG H
   obtain⟨dR,h3,e7,o3⟩:=cL (P:=Tryz.prog) (E:=aa) (l:=x0) (q:=0) (t2:=28) (x:=.fz [.int .i64 n0] 1 true) (l2:=([n0])) dK o2 rfl (by kernel_rfl) rfl e6
   refine qr [.a 3 e7] <| qq ?_
   obtain⟨v3,e8,H⟩:=aG H
   obtain⟨x2,e9,H⟩:=aG H
   obtain⟨cR,h4,lF,o4⟩:=cL (P:=Tryz.prog) (E:=aa) (l:=x1) (q:=0) (t2:=28) (x:=aa.fz v3) (l2:=v3) dK o3 rfl (lX (E:=aa) (l2:=v3) _) rfl e9
   obtain rfl:=oi H
   exact qr [.v 3 (show eN Tryz.prog 28 (aa.fz l0) (some (.int .i64 k1)) none none=some (aa.fz v3) from qB (E:=aa) dK e8),.a 4 lF] <| qt <| ⟨.inl rfl,oF (.rs cR 0 x2.length 1) h4 (lI (mS (E:=aa) (l:=x2) (q:=0) o4 rfl (fun _=>rfl)))⟩
 ·refine qr [.b 4 c3] <| AU <| qk <| qq ?_
  obtain⟨v4,nb,H⟩:=aG H
  obtain⟨x3,nK,H⟩:=aG H
  obtain⟨fc,h5,pa,o5⟩:=Hz (P:=Tryz.prog) (E:=aa) (s:=.fz [] 0 true) (t2:=28) (x:=aa.fz v4) (l2:=v4) (.inr rfl) dK o1 (lX (E:=aa) (l2:=v4) _) rfl nK
  refine qr [.v 3 (show eN Tryz.prog 28 (aa.fz l0) none (some (.int .i64 k1)) none=some (aa.fz v4) from uz (E:=aa) dK nb),.a 4 pa] <| qq ?_
  obtain⟨x4,pc,H⟩:=aG H
  obtain⟨gY,h6,pb,o6⟩:=cL (P:=Tryz.prog) (E:=aa) (l:=x3) (q:=0) (t2:=28) (x:=.fz [.int .i64 n0] 1 true) (l2:=([n0])) dK o5 rfl (by kernel_rfl) rfl pc
  refine qr [.a 3 pb] <| qq ?_
  obtain⟨v5,qU,H⟩:=aG H
  obtain⟨x5,pP,H⟩:=aG H
  obtain⟨gV,h7,tO,o7⟩:=cL (P:=Tryz.prog) (E:=aa) (l:=x4) (q:=0) (t2:=28) (x:=aa.fz v5) (l2:=v5) dK o6 rfl (lX (E:=aa) (l2:=v5) _) rfl pP
  obtain rfl:=oi H
  exact qr [.v 3 (show eN Tryz.prog 28 (aa.fz l0) (some (.int .i64 k1)) none none=some (aa.fz v5) from qB (E:=aa) dK qU),.a 4 tO] <| qt <| ⟨.inl rfl,oF (.rs gV 0 x5.length 1) h7 (lI (mS (E:=aa) (l:=x5) (q:=0) o7 rfl (fun _=>rfl)))⟩
end
end Go.Proofs.YtmekcfdllhphlaaGreatDoor
namespace Go.Proofs.YtmekcfdllhphlaaGreatDoor
open Go Go.R
open Go.IntKind (i64 u64 u8 u32)
def GC:b9:=gm [0,2,3,4,5,6,7,8,15,20,30,42] [] [4094,4071,3815,4089,4055,3991,3479,3991,3863,2839,3863,1815,3863,4089] [(5,[(6,none,0)])] []
def bK.l1 (m:Nat)(x0:(List ak) × Int)(i0:Int):Nat→(List Int)→Int→Option ((List Int) × Int)
 | 0,_,_=>none
 | k+1,bm,k0=>(ix x0.1 i0).bind fun v0=>if (decide (k0<(v0.nodes.length:Int)))=true then ((ix x0.1 i0).bind fun v1=>(ix v1.nodes k0).bind fun v2=>if (v2.kind==(0:Int))=true then ((ix x0.1 i0).bind fun v3=>(ix v3.nodes k0).bind fun v4=>(dG.f m bm v4.int).bind fun x1=>bK.l1 m x0 i0 k x1 (i64.wrap (k0+(1:Int)))) else (bK.l1 m x0 i0 k bm (i64.wrap (k0+(1:Int))))) else (some ((bm,k0)))
def bK.l0 (m:Nat)(x0:(List ak) × Int):Nat→(List Int)→Int→Option ((List Int) × Int)
 | 0,_,_=>none
 | k+1,aF,i0=>if (decide (i0<(x0.1.length:Int)))=true then ((bK.l1 m x0 i0 m aF (0:Int)).bind fun jR=>match jR with | (cw,k1)=>bK.l0 m x0 k cw (i64.wrap (i0+(1:Int)))) else (some ((aF,i0)))
def bK.f (m:Nat)(b0:List Int):Option ((List Int) × Int):=(aM.f m b0).bind fun x0=>if (!(x0.2==(0:Int)))=true then (some ([],x0.2)) else ((bK.l0 m x0 m ([]:List Int) (0:Int)).bind fun kW=>match kW with | (cE,i1)=>some (cE,(0:Int)))
def bK.fin (L:Mem)(r:(List Int) × Int)(s:St):Prop:=∃av,aH Tryz.prog (s.open GC) Tryz.f9.results.toList=some av∧vm s.h av (.tup [aa.fz r.1,.int .i64 r.2])
def S9 (cf:CallF)(m:Nat):Prop:=∀(b0:List Int) (r:(List Int) × Int),bK.f m b0=some r→∀h xs,lh xs [af.fz b0]→cf 9 xs h=some (.tup [aa.fz r.1,.int .i64 r.2],h)
section
variable {cf:CallF}{m:Nat}
theorem bK.eO (L:Mem)(x0:(List ak) × Int)(i0:Int)  (JS:Sx cf m):bC Tryz.prog cf GC m (sub [1,1,1,1,0,1,0,0,1,0,0,1,0,0] (codeOf Tryz.f9)) (fun k (σ:(List Int) × Int)=>bK.l1 m x0 i0 k σ.1 σ.2) (fun σ s=>match σ with | (bm,k0)=>∃h1,s=⟨jE (aL.fz x0.1 :: .any::aa.fz bm :: .int .i64 i0 :: .int .i64 k0::mT []),[],h1⟩∧Has h1 (L)) (fun out e s=>(e = .exit 2∧∃bm k0,(bm,k0)=out∧∃pG H4 h1,s=⟨jE [aL.fz x0.1,.any,aa.fz bm,.int .i64 i0,pG,.any,.any,H4,.any],[],h1⟩∧Has h1 (L))):=by
 refine gk (fun _=>rfl) ?_
 rintro k ⟨bm,k0⟩ s out ⟨h1,rfl,o1⟩ H
 have H:bK.l1 m x0 i0 (k+1) bm k0=some out:=H
 refine qq <| qq ?_
 obtain⟨v0,e1,H⟩:=aG H
 refine qr [.v 3 (bN (k:=.i64) (E:=aL) (l:=x0.1) xZ e1),.v 5 (mE  (E:=aL) (l:=x0.1) (off:=0) h1 OV e1 rfl)] <| qc H (fun c2 H=>?_) (fun c2 H=>?_)
 ·refine qk <| qq <| qb 3 <| qq ?_
  obtain⟨v1,e2,H⟩:=aG H
  obtain⟨v2,e3,H⟩:=aG H
  refine qr [.v 2 (bN (k:=.i64) (E:=aL) (l:=x0.1) xZ e2),.v 4 (mE  (E:=aL) (l:=x0.1) (off:=0) h1 OV e2 rfl),.v 6 (bN (k:=.i64) (E:=ah) (l:=v1.nodes) mj e3),.v 8 (mE  (E:=ah) (l:=v1.nodes) (off:=0) h1 A3 e3 rfl)] <| qc H (fun c3 H=>?_) (fun c3 H=>?_)
  ·obtain⟨v3,e4,H⟩:=aG H
   obtain⟨v4,e5,H⟩:=aG H
   obtain⟨x1,e6,H⟩:=aG H
   exact qr [.v 3 (bN (k:=.i64) (E:=aL) (l:=x0.1) xZ e4),.v 5 (mE  (E:=aL) (l:=x0.1) (off:=0) h1 OV e4 rfl),.v 7 (bN (k:=.i64) (E:=ah) (l:=v3.nodes) mj e5),.v 9 (mE  (E:=ah) (l:=v3.nodes) (off:=1) h1 A3 e5 rfl),.a 10 (JS _ _ _ e6 h1 _ (cb (gP (E:=aa)) (cb (bD) (fH))))] <| q0 <| ⟨(x1,i64.wrap (k0+(1:Int))),⟨h1,by kernel_rfl,o1⟩,H⟩
  ·exact qk <| q0 <| ⟨(bm,i64.wrap (k0+(1:Int))),⟨h1,by kernel_rfl,o1⟩,H⟩
 ·exact qx 2 <| ⟨rfl,bm,k0,oi H,.int .i64 k0,.bool (decide (k0<(v0.nodes.length:Int))),h1,by kernel_rfl,o1⟩
theorem bK.bu (L:Mem)(x0:(List ak) × Int)  (JS:Sx cf m):bC Tryz.prog cf GC m (sub [1,1,1,1,0,1,0,0] (codeOf Tryz.f9)) (fun k (σ:(List Int) × Int)=>bK.l0 m x0 k σ.1 σ.2) (fun σ s=>match σ with | (aF,i0)=>∃h0,s=⟨jE (aL.fz x0.1 :: .any::aa.fz aF :: .int .i64 i0::qF []),[],h0⟩∧Has h0 (L)) (fun out e s=>(e = .exit 0∧∃aF i0,(aF,i0)=out∧∃zp se CX h0,s=⟨jE [zp,.any,aa.fz aF,se,.any,.any,CX,.any,.any],[],h0⟩∧Has h0 (L))):=by
 refine gk (fun _=>rfl) ?_
 rintro k ⟨aF,i0⟩ s out ⟨h0,rfl,o0⟩ H
 have H:bK.l0 m x0 (k+1) aF i0=some out:=H
 refine qq <| qq <| q0 <| qc H (fun c1 H=>?_) (fun c1 H=>?_)
 ·refine qk <| qq <| qb 1 <| qq <| q0 <| qb 2 ?_
  obtain⟨jR,e7,H⟩:=aG H
  refine ql (bK.eO L x0 i0  JS (aF,(0:Int)) _ _ ⟨h0,by kernel_rfl,o0⟩ e7) ?_
  rintro e s ⟨rfl,cw,k1,rfl,g0,g1,h2,rfl,o2⟩
  try dsimp only at H
  exact q0 <| ⟨(cw,i64.wrap (i0+(1:Int))),⟨h2,by kernel_rfl,o2⟩,H⟩
 ·exact qx 0 <| ⟨rfl,aF,i0,oi H,aL.fz x0.1,.int .i64 i0,.bool (decide (i0<(x0.1.length:Int))),h0,by kernel_rfl,o0⟩
theorem ug {aV:FuncId→b9}(ha:aV 9=GC)(Pf:S7 cf m)(JS:Sx cf m)(b0:List Int)(h:AHeap)(L:Mem)  (o:Has h (L)){out:(List Int) × Int}(H:bK.f m b0=some out) :
  ∃r h',bg Tryz.prog aV cf m 9 [af.fz b0] h=some (r,h')∧vm h' r (.tup [aa.fz out.1,.int .i64 out.2]):=by
 refine aj (fn:=Tryz.f9) ha Tryz.func9 (by kernel_rfl) (by kernel_rfl) ?_
 refine aD (Q:=fun s=>bK.fin L out s) (fun _ _ h=>h) ?_
 have H:_=some out:=H
 unfold bK.f at H
 show dA _ cf GC m _ ⟨af.fz b0::nE [],[],h⟩ _
 refine q1 <| qq ?_
 obtain⟨x0,e0,H⟩:=aG H
 refine qr [.a 1 (Pf _ _ e0 h _ (cb (gP (E:=af)) (fH)))] <| qq <| qq <| q0 <| qc H (fun c0 H=>?_) (fun c0 H=>?_)
 ·obtain rfl:=oi H
  exact q1 <| qt <| ⟨.inl rfl,oF (.tup [.nils,.int .i64 x0.2]) h (lI (er (ab (dV) (ab (aQ) (aA)))))⟩
 ·refine qk <| qq <| q0 <| qq <| qq <| q0 <| qb 0 ?_
  obtain⟨kW,e8,H⟩:=aG H
  refine ql (bK.bu L x0  JS (([]:List Int),(0:Int)) _ _ ⟨h,by kernel_rfl,o⟩ e8) ?_
  rintro e s ⟨rfl,cE,i1,rfl,g2,g3,g4,h3,rfl,o3⟩
  try dsimp only at H
  obtain rfl:=oi H
  exact q1 <| qt <| ⟨.inl rfl,oF (.tup [aa.fz cE,.int .i64 (0:Int)]) h3 (lI (er (ab (bB) (ab (aQ) (aA)))))⟩
end
end Go.Proofs.YtmekcfdllhphlaaGreatDoor
namespace Go.Proofs.YtmekcfdllhphlaaGreatDoor
open Go Go.R
open Go.IntKind (i64 u64 u8 u32)
def B2:b9:=gm [0,1,4,5,7,9,12,13,14,15,24] [12] [2044,1596,1084,1580,1564,540,2035,1596,2035] [] []
def bH.l0 (m:Nat)(x0:List Int)(y0:List Int):Nat→Int→Option (Sum (Bool × Int) (Int))
 | 0,_=>none
 | k+1,x1=>if (decide (x1<(([x0,y0]:List (List Int)).length:Int)))=true then ((ix ([x0,y0]) x1).bind fun v0=>(aO.f m v0).bind fun x2=>if (!(x2.2==(0:Int)))=true then (some (.inl (false,x2.2))) else (bH.l0 m x0 y0 k (i64.wrap (x1+(1:Int))))) else (some (.inr x1))
def bH.f (m:Nat)(x0:List Int)(y0:List Int):Option (Bool × Int):=(bH.l0 m x0 y0 m (0:Int)).bind fun aF=>match aF with | .inl r0=>some r0 | .inr x3=>(dt.f m x0 y0).bind fun x4=>some (x4,(0:Int))
def bH.fin (L:Mem)(r:Bool × Int)(s:St):Prop:=∃av,aH Tryz.prog (s.open B2) Tryz.f10.results.toList=some av∧gf s.h av (.tup [.bool r.1,.int .i64 r.2])
def Xx (cf:CallF)(m:Nat):Prop:=∀(x0:List Int) (y0:List Int) (r:Bool × Int),bH.f m x0 y0=some r→∀h xs,eR fh h xs [af.fz x0,af.fz y0]→cf 10 xs h=some (.tup [.bool r.1,.int .i64 r.2],h)
section
variable {cf:CallF}{m:Nat}
theorem bH.bu (L:Mem)(x0:List Int)(y0:List Int)(az:Nat)  (Oz:S6 cf m):bC Tryz.prog cf B2 m (sub [1,0,1,0,0] (codeOf Tryz.f10)) (fun k (σ:Int)=>bH.l0 m x0 y0 k σ) (fun σ s=>match σ with | x1=>∃h1,s=⟨af.fz x0::af.fz y0::mT ([.rs az 0 (([x0,y0]:List (List Int)).length) 1,.int .i64 (([x0,y0]:List (List Int)).length:Int),.int .i64 x1,.any,.any]),[none],h1⟩∧Has h1 ((az,.sl (([x0,y0]:List (List Int)).length) 1 ((L3 af).l ([x0,y0])))::L)) (fun out e s=>(e = .exit 0∧∃x1,.inr x1=out∧∃Dk pF sj sk h1,s=⟨af.fz x0::af.fz y0::mT [Dk,pF,sj,sk,.any],[none],h1⟩∧Has h1 ((az,.sl (([x0,y0]:List (List Int)).length) 1 ((L3 af).l ([x0,y0])))::L))∨(e = .ret∧∃r,.inl r=out∧bH.fin L r s)):=by
 refine gk (fun _=>rfl) ?_
 rintro k x1 s out ⟨h1,rfl,o1⟩ H
 have H:bH.l0 m x0 y0 (k+1) x1=some out:=H
 refine q1 <| qq <| qc H (fun c0 H=>?_) (fun c0 H=>?_)
 ·refine qk <| qq <| qb 1 <| qq ?_
  obtain⟨v0,e1,H⟩:=aG H
  refine qr [.v 0 (aJ (k:=.i64) (E:=(L3 af)) (l:=([x0,y0])) (q:=0) YD o1 rfl e1),.v 1 (bA  (E:=(L3 af)) (l:=([x0,y0])) (q:=0) o1 rfl YE e1 rfl)] <| qq ?_
  obtain⟨x2,e2,H⟩:=aG H
  refine qr [.a 1 (Oz _ _ e2 h1 _ (cb (gP (E:=af)) (fH)))] <| qq <| q0 <| qc H (fun c1 H=>?_) (fun c1 H=>?_)
  ·refine q1 ?_
   have o2:Has h1 (L):=Has.del o1 0
   exact qt <| abD (⟨rfl,_,oi H,cp (.tup [.bool false,.int .i64 x2.2]) h1 (cn (kj (dQ (au) (dQ (dB) (ki)))))⟩)
  ·exact qk <| q0 <| ⟨i64.wrap (x1+(1:Int)),⟨h1,(abz (b:=⟨af.fz x0::af.fz y0::mT ([.rs az 0 (([x0,y0]:List (List Int)).length) 1,.int .i64 (([x0,y0]:List (List Int)).length:Int),.int .i64 (i64.wrap (x1+(1:Int))),.any,.any]),[none],h1⟩) (by kernel_rfl) (by simp only [aaN])),(by have o:Has h1 ((az,.sl (([x0,y0]:List (List Int)).length) 1 ((L3 af).l ([x0,y0])))::L):=o1; simpa only [aaN] using o)⟩,H⟩
 ·exact qx 0 <| abM (⟨rfl,x1,oi H,.rs az 0 (([x0,y0]:List (List Int)).length) 1,.int .i64 (([x0,y0]:List (List Int)).length:Int),.int .i64 x1,.bool (decide (x1<(([x0,y0]:List (List Int)).length:Int))),h1,(abz (b:=⟨af.fz x0::af.fz y0::mT ([.rs az 0 (([x0,y0]:List (List Int)).length) 1,.int .i64 (([x0,y0]:List (List Int)).length:Int),.int .i64 x1,.bool (decide (x1<(([x0,y0]:List (List Int)).length:Int))),.any]),[none],h1⟩) (by kernel_rfl) (by simp only [aaN])),(by have o:Has h1 ((az,.sl (([x0,y0]:List (List Int)).length) 1 ((L3 af).l ([x0,y0])))::L):=o1; simpa only [aaN] using o)⟩)
theorem rC {aV:FuncId→b9}(ha:aV 10=B2)(Oz:S6 cf m)(Lh:Us cf m)(x0:List Int)(y0:List Int)(h:AHeap)(L:Mem)  (o:Has h (L)){out:Bool × Int}(H:bH.f m x0 y0=some out) :
  ∃r h',bg Tryz.prog aV cf m 10 [af.fz x0,af.fz y0] h=some (r,h')∧gf h' r (.tup [.bool out.1,.int .i64 out.2]):=by
 refine aj (fn:=Tryz.f10) ha Tryz.func10 (by kernel_rfl) (by kernel_rfl) ?_
 refine aD (Q:=fun s=>bH.fin L out s) (fun _ _ h=>h) ?_
 have H:_=some out:=H
 unfold bH.f at H
 show dA _ cf B2 m _ ⟨af.fz x0::af.fz y0::FX [],[none],h⟩ _
 refine q1 <| qq <| qq ?_
 obtain⟨az,h0,e0,o0⟩:=uA (E:=(L3 af)) (l:=[x0,y0]) (cs:=[af.fz x0,af.fz y0]) o (by kernel_rfl)
 refine qr [.a 2 e0] <| qb 0 ?_
 obtain⟨aF,e3,H⟩:=aG H
 refine ql (bH.bu L x0 y0 az  Oz (0:Int) _ _ ⟨h0,(abz (b:=⟨af.fz x0::af.fz y0::mT ([.rs az 0 (([x0,y0]:List (List Int)).length) 1,.int .i64 (([x0,y0]:List (List Int)).length:Int),.int .i64 (0:Int),.any,.any]),[none],h0⟩) (by kernel_rfl) (by simp only [aaN])),(by have o:Has h0 ((az,.sl (([x0,y0]:List (List Int)).length) 1 ((L3 af).l ([x0,y0])))::L):=o0; simpa only [aaN] using o)⟩ e3) ?_
 rintro e s (⟨rfl,x3,rfl,g0,g1,g2,g3,h2,rfl,o3⟩| ⟨rfl,r0,rfl,l8⟩)
 ·try dsimp only at H
  refine qq ?_
  obtain⟨x4,e4,H⟩:=aG H
  refine qr [.a 2 (Lh _ _ _ e4 h2 _ (fT (ab (bB (E:=af)) (ab (bB (E:=af)) (aA)))))] ?_
  have o4:Has h2 (L):=Has.del o3 0
  obtain rfl:=oi H
  exact qt <| ⟨.inl rfl,cp (.tup [.bool x4,.int .i64 (0:Int)]) h2 (cn (kj (dQ (au) (dQ (dB) (ki)))))⟩
 ·try dsimp only at H
  obtain rfl:=oi H
  exact⟨.inl rfl,l8⟩
end
end Go.Proofs.YtmekcfdllhphlaaGreatDoor
namespace Go.Proofs.YtmekcfdllhphlaaGreatDoor
open Go Go.R
open Go.IntKind (i64 u64 u8 u32)
def Fb:b9:=gm [0,1,4,5,7,9,16,24] [] [252,236,172,243,220,92,243,243] [] []
def eX.f (m:Nat)(x0:List Int)(y0:List Int):Option (Bool × Int):=(aM.f m x0).bind fun x1=>if (!(x1.2==(0:Int)))=true then (some (false,x1.2)) else ((aM.f m y0).bind fun x2=>if (!(x2.2==(0:Int)))=true then (some (false,x2.2)) else (some ((bQ x0).data.toList==(bQ y0).data.toList,(0:Int))))
def eX.fin (L:Mem)(r:Bool × Int)(s:St):Prop:=∃av,aH Tryz.prog (s.open Fb) Tryz.f11.results.toList=some av∧gf s.h av (.tup [.bool r.1,.int .i64 r.2])
def Xy (cf:CallF)(m:Nat):Prop:=∀(x0:List Int) (y0:List Int) (r:Bool × Int),eX.f m x0 y0=some r→∀h xs,eR fh h xs [af.fz x0,af.fz y0]→cf 11 xs h=some (.tup [.bool r.1,.int .i64 r.2],h)
section
variable {cf:CallF}{m:Nat}
theorem sP {aV:FuncId→b9}(ha:aV 11=Fb)(Pf:S7 cf m)(x0:List Int)(y0:List Int)(h:AHeap)(L:Mem)  (o:Has h (L)){out:Bool × Int}(H:eX.f m x0 y0=some out) :
  ∃r h',bg Tryz.prog aV cf m 11 [af.fz x0,af.fz y0] h=some (r,h')∧gf h' r (.tup [.bool out.1,.int .i64 out.2]):=by
 refine aj (fn:=Tryz.f11) ha Tryz.func11 (by kernel_rfl) (by kernel_rfl) ?_
 refine aD (Q:=fun s=>eX.fin L out s) (fun _ _ h=>h) ?_
 have H:_=some out:=H
 unfold eX.f at H
 show dA _ cf Fb m _ ⟨af.fz x0::af.fz y0::zX [],[],h⟩ _
 refine q1 <| qq ?_
 obtain⟨x1,e0,H⟩:=aG H
 refine qr [.a 1 (Pf _ _ e0 h _ (cb (gP (E:=af)) (fH)))] <| qq <| qq <| q0 <| qc H (fun c0 H=>?_) (fun c0 H=>?_)
 ·obtain rfl:=oi H
  exact q1 <| qt <| ⟨.inl rfl,cp (.tup [.bool false,.int .i64 x1.2]) h (cn (kj (dQ (au) (dQ (dB) (ki)))))⟩
 ·refine qk <| qq ?_
  obtain⟨x2,e1,H⟩:=aG H
  refine qr [.a 1 (Pf _ _ e1 h _ (cb (gP (E:=af)) (fH)))] <| qq <| qq <| q0 <| qc H (fun c1 H=>?_) (fun c1 H=>?_)
  ·obtain rfl:=oi H
   exact q1 <| qt <| ⟨.inl rfl,cp (.tup [.bool false,.int .i64 x2.2]) h (cn (kj (dQ (au) (dQ (dB) (ki)))))⟩
  ·obtain rfl:=oi H
   exact qk <| qq <| qr [.v 1 (show eu Tryz.prog h 22 9 (af.fz x0)=some (.str (bQ x0)) from nD (e:=5) (l:=x0) rfl rfl rfl (vo _)),.v 3 (show eu Tryz.prog h 22 9 (af.fz y0)=some (.str (bQ y0)) from nD (e:=5) (l:=y0) rfl rfl rfl (vo _))] <| qt <| ⟨.inl rfl,cp (.tup [.bool ((bQ x0).data.toList==(bQ y0).data.toList),.int .i64 (0:Int)]) h (cn (kj (dQ (au) (dQ (dB) (ki)))))⟩
end
end Go.Proofs.YtmekcfdllhphlaaGreatDoor
namespace Go.Proofs.YtmekcfdllhphlaaGreatDoor
open Go Go.R
open Go.IntKind (i64 u64 u8 u32)
def B3:b9:=gm [0,1,4,5,10,14,26] [] [124,108,123,116,84,116,52,123,123] [] []
def cP.l0 (m:Nat)(a0:List ak)(b0:List ak):Nat→Int→Option (Sum Bool (Int))
 | 0,_=>none
 | k+1,i0=>if (decide (i0<(a0.length:Int)))=true then ((ix a0 i0).bind fun v0=>(ix b0 i0).bind fun v1=>(aR.f m v0 v1).bind fun x0=>if (!x0)=true then (some (.inl false)) else (cP.l0 m a0 b0 k (i64.wrap (i0+(1:Int))))) else (some (.inr i0))
def cP.f (m:Nat)(a0:List ak)(b0:List ak):Option (Bool):=if (!((a0.length:Int)==(b0.length:Int)))=true then (some false) else ((cP.l0 m a0 b0 m (0:Int)).bind fun aF=>match aF with | .inl r0=>some r0 | .inr i1=>some true)
def cP.fin (L:Mem)(r:Bool)(s:St):Prop:=∃av,aH Tryz.prog (s.open B3) Tryz.f12.results.toList=some av∧gf s.h av (.bool r)
def Xz (cf:CallF)(m:Nat):Prop:=∀(a0:List ak) (b0:List ak) (r:Bool),cP.f m a0 b0=some r→∀h xs,eR fh h xs [aL.fz a0,aL.fz b0]→cf 12 xs h=some (.bool r,h)
section
variable {cf:CallF}{m:Nat}
theorem cP.bu (L:Mem)(a0:List ak)(b0:List ak)  (DF:Q1 cf m):bC Tryz.prog cf B3 m (sub [1,1,0,1,0,0] (codeOf Tryz.f12)) (fun k (σ:Int)=>cP.l0 m a0 b0 k σ) (fun σ s=>match σ with | i0=>∃h0,s=⟨aL.fz a0::aL.fz b0 :: .any :: .int .i64 i0::jE [],[],h0⟩∧Has h0 (L)) (fun out e s=>(e = .exit 0∧∃i0,.inr i0=out∧∃kM qM oK sj h0,s=⟨[kM,qM,.any,oK,.any,sj,.any],[],h0⟩∧Has h0 (L))∨(e = .ret∧∃r,.inl r=out∧cP.fin L r s)):=by
 refine gk (fun _=>rfl) ?_
 rintro k i0 s out ⟨h0,rfl,o0⟩ H
 have H:cP.l0 m a0 b0 (k+1) i0=some out:=H
 refine qq <| qq <| q0 <| qc H (fun c1 H=>?_) (fun c1 H=>?_)
 ·refine qk <| qq <| qb 1 <| qq ?_
  obtain⟨v0,e0,H⟩:=aG H
  obtain⟨v1,e1,H⟩:=aG H
  obtain⟨x0,e2,H⟩:=aG H
  refine qr [.v 2 (bN (k:=.i64) (E:=aL) (l:=a0) xZ e0),.v 3 (dI  (E:=aL) (l:=a0) h0 J7 J8 e0),.v 6 (bN (k:=.i64) (E:=aL) (l:=b0) xZ e1),.v 7 (dI  (E:=aL) (l:=b0) h0 J7 J8 e1),.a 8 (DF _ _ _ e2 h0 _ (fT (ab (dJ (ab (bB (E:=ah)) (ab (aQ) (aA)))) (ab (dJ (ab (bB (E:=ah)) (ab (aQ) (aA)))) (aA)))))] <| qc H (fun c2 H=>?_) (fun c2 H=>?_)
  ·exact q1 <| qt <| abD (⟨rfl,_,oi H,cp (.bool false) h0 (cn (au))⟩)
  ·exact qk <| q0 <| ⟨i64.wrap (i0+(1:Int)),⟨h0,by kernel_rfl,o0⟩,H⟩
 ·exact qx 0 <| abM (⟨rfl,i0,oi H,aL.fz a0,aL.fz b0,.int .i64 i0,.bool (decide (i0<(a0.length:Int))),h0,by kernel_rfl,o0⟩)
theorem uh {aV:FuncId→b9}(ha:aV 12=B3)(DF:Q1 cf m)(a0:List ak)(b0:List ak)(h:AHeap)(L:Mem)  (o:Has h (L)){out:Bool}(H:cP.f m a0 b0=some out) :
  ∃r h',bg Tryz.prog aV cf m 12 [aL.fz a0,aL.fz b0] h=some (r,h')∧gf h' r (.bool out):=by
 refine aj (fn:=Tryz.f12) ha Tryz.func12 (by kernel_rfl) (by kernel_rfl) ?_
 refine aD (Q:=fun s=>cP.fin L out s) (fun _ _ h=>h) ?_
 have H:_=some out:=H
 unfold cP.f at H
 show dA _ cf B3 m _ ⟨aL.fz a0::aL.fz b0::qF [],[],h⟩ _
 refine q1 <| qq <| qq <| q0 <| qc H (fun c0 H=>?_) (fun c0 H=>?_)
 ·obtain rfl:=oi H
  exact q1 <| qt <| ⟨.inl rfl,cp (.bool false) h (cn (au))⟩
 ·refine qk <| qq <| qq <| q0 <| qb 0 ?_
  obtain⟨aF,e3,H⟩:=aG H
  refine ql (cP.bu L a0 b0  DF (0:Int) _ _ ⟨h,by kernel_rfl,o⟩ e3) ?_
  rintro e s (⟨rfl,i1,rfl,g0,g1,g2,g3,h1,rfl,o1⟩| ⟨rfl,r0,rfl,l8⟩)
  ·try dsimp only at H
   obtain rfl:=oi H
   exact q1 <| qt <| ⟨.inl rfl,cp (.bool true) h1 (cn (au))⟩
  ·try dsimp only at H
   obtain rfl:=oi H
   exact⟨.inl rfl,l8⟩
end
end Go.Proofs.YtmekcfdllhphlaaGreatDoor
namespace Go.Proofs.YtmekcfdllhphlaaGreatDoor
open Go Go.R
open Go.IntKind (i64 u64 u8 u32)
def B4:b9:=gm [0,1,4,5,10,14,25] [] [124,108,123,116,84,116,52,123,123] [] []
def cZ.l0 (m:Nat)(a0:List Int)(b0:List Int):Nat→Int→Option (Sum Bool (Int))
 | 0,_=>none
 | k+1,i0=>if (decide (i0<(a0.length:Int)))=true then ((ix a0 i0).bind fun v0=>(ix b0 i0).bind fun v1=>if (!(v0==v1))=true then (some (.inl false)) else (cZ.l0 m a0 b0 k (i64.wrap (i0+(1:Int))))) else (some (.inr i0))
def cZ.f (m:Nat)(a0:List Int)(b0:List Int):Option (Bool):=if (!((a0.length:Int)==(b0.length:Int)))=true then (some false) else ((cZ.l0 m a0 b0 m (0:Int)).bind fun aF=>match aF with | .inl r0=>some r0 | .inr i1=>some true)
def cZ.fin (L:Mem)(r:Bool)(s:St):Prop:=∃av,aH Tryz.prog (s.open B4) Tryz.f13.results.toList=some av∧gf s.h av (.bool r)
def XA (cf:CallF)(m:Nat):Prop:=∀(a0:List Int) (b0:List Int) (r:Bool),cZ.f m a0 b0=some r→∀h xs,eR fh h xs [aa.fz a0,aa.fz b0]→cf 13 xs h=some (.bool r,h)
section
variable {cf:CallF}{m:Nat}
theorem cZ.bu (L:Mem)(a0:List Int)(b0:List Int)   : bC Tryz.prog cf B4 m (sub [1,1,0,1,0,0] (codeOf Tryz.f13)) (fun k (σ:Int)=>cZ.l0 m a0 b0 k σ) (fun σ s=>match σ with | i0=>∃h0,s=⟨aa.fz a0::aa.fz b0 :: .any :: .int .i64 i0::jE [],[],h0⟩∧Has h0 (L)) (fun out e s=>(e = .exit 0∧∃i0,.inr i0=out∧∃kM qM oK sj h0,s=⟨[kM,qM,.any,oK,.any,sj,.any],[],h0⟩∧Has h0 (L))∨(e = .ret∧∃r,.inl r=out∧cZ.fin L r s)):=by
 refine gk (fun _=>rfl) ?_
 rintro k i0 s out ⟨h0,rfl,o0⟩ H
 have H:cZ.l0 m a0 b0 (k+1) i0=some out:=H
 refine qq <| qq <| q0 <| qc H (fun c1 H=>?_) (fun c1 H=>?_)
 ·refine qk <| qq <| qb 1 <| qq ?_
  obtain⟨v0,e0,H⟩:=aG H
  obtain⟨v1,e1,H⟩:=aG H
  refine qr [.v 2 (bN (k:=.i64) (E:=aa) (l:=a0) dK e0),.v 3 (dd  (E:=aa) (l:=a0) h0 A3 e0 rfl),.v 6 (bN (k:=.i64) (E:=aa) (l:=b0) dK e1),.v 7 (dd  (E:=aa) (l:=b0) h0 A3 e1 rfl)] <| qc H (fun c2 H=>?_) (fun c2 H=>?_)
  ·exact q1 <| qt <| abD (⟨rfl,_,oi H,cp (.bool false) h0 (cn (au))⟩)
  ·exact qk <| q0 <| ⟨i64.wrap (i0+(1:Int)),⟨h0,by kernel_rfl,o0⟩,H⟩
 ·exact qx 0 <| abM (⟨rfl,i0,oi H,aa.fz a0,aa.fz b0,.int .i64 i0,.bool (decide (i0<(a0.length:Int))),h0,by kernel_rfl,o0⟩)
theorem ui {aV:FuncId→b9}(ha:aV 13=B4)  (a0:List Int)(b0:List Int)(h:AHeap)(L:Mem)  (o:Has h (L)){out:Bool}(H:cZ.f m a0 b0=some out) :
  ∃r h',bg Tryz.prog aV cf m 13 [aa.fz a0,aa.fz b0] h=some (r,h')∧gf h' r (.bool out):=by
 refine aj (fn:=Tryz.f13) ha Tryz.func13 (by kernel_rfl) (by kernel_rfl) ?_
 refine aD (Q:=fun s=>cZ.fin L out s) (fun _ _ h=>h) ?_
 have H:_=some out:=H
 unfold cZ.f at H
 show dA _ cf B4 m _ ⟨aa.fz a0::aa.fz b0::qF [],[],h⟩ _
 refine q1 <| qq <| qq <| q0 <| qc H (fun c0 H=>?_) (fun c0 H=>?_)
 ·obtain rfl:=oi H
  exact q1 <| qt <| ⟨.inl rfl,cp (.bool false) h (cn (au))⟩
 ·refine qk <| qq <| qq <| q0 <| qb 0 ?_
  obtain⟨aF,e2,H⟩:=aG H
  refine ql (cZ.bu L a0 b0   (0:Int) _ _ ⟨h,by kernel_rfl,o⟩ e2) ?_
  rintro e s (⟨rfl,i1,rfl,g0,g1,g2,g3,h1,rfl,o1⟩| ⟨rfl,r0,rfl,l8⟩)
  ·try dsimp only at H
   obtain rfl:=oi H
   exact q1 <| qt <| ⟨.inl rfl,cp (.bool true) h1 (cn (au))⟩
  ·try dsimp only at H
   obtain rfl:=oi H
   exact⟨.inl rfl,l8⟩
end
end Go.Proofs.YtmekcfdllhphlaaGreatDoor
namespace Go.Proofs.YtmekcfdllhphlaaGreatDoor
open Go Go.R
open Go.IntKind (i64 u64 u8 u32)
def LA:b9:=gm [0,1,4,5,6,7,8,9,10,11,12,13,14,15,16,24] [] [65532,32764,65531,65508,65412,65028,63492,57348,32774,65531] [] []
def eC.f (m:Nat)(x0:List Int)(y0:List Int):Option (Bool):=if (decide ((x0.length:Int) > (2000:Int)))=true then ((kb.f m).bind fun x1=>some x1) else (if (decide ((y0.length:Int) > (2000:Int)))=true then ((kb.f m).bind fun x2=>some x2) else ((aO.f m x0).bind fun x3=>(aM.f m x0).bind fun x4=>(bf.f m x0).bind fun x5=>(bK.f m x0).bind fun x6=>(bH.f m x0 y0).bind fun x7=>(eX.f m x0 y0).bind fun x8=>(cP.f m x3.1 x4.1).bind fun x9=>if x9=true then (if (x3.2==x4.2)=true then ((cZ.f m x5.1 x6.1).bind fun jF=>if jF=true then (if (x5.2==x6.2)=true then (if (x7.1==x8.1)=true then (if (x7.2==x8.2)=true then ((bj.f m x0).bind fun pQ=>(bV.f m x0).bind fun xh=>if (pQ==xh)=true then ((kb.f m).bind fun rH=>some rH) else (some false)) else (some false)) else (some false)) else (some false)) else (some false)) else (some false)) else (some false)))
def eC.fin (L:Mem)(r:Bool)(s:St):Prop:=∃av,aH Tryz.prog (s.open LA) Tryz.f3.results.toList=some av∧gf s.h av (.bool r)
def S3 (cf:CallF)(m:Nat):Prop:=∀(x0:List Int) (y0:List Int) (r:Bool),eC.f m x0 y0=some r→∀h xs,eR fh h xs [af.fz x0,af.fz y0]→cf 3 xs h=some (.bool r,h)
section
variable {cf:CallF}{m:Nat}
theorem nf {aV:FuncId→b9}(ha:aV 3=LA)(Vv:S5 cf m)(Oz:S6 cf m)(Pf:S7 cf m)(Zs:S8 cf m)(Zt:S9 cf m)(Vw:Xx cf m)(Vx:Xy cf m)(B5:Xz cf m)(GD:XA cf m)(Lg:Uh cf m)(Lp:Uz cf m)(x0:List Int)(y0:List Int)(h:AHeap)(L:Mem)  (o:Has h (L)){out:Bool}(H:eC.f m x0 y0=some out) :
  ∃r h',bg Tryz.prog aV cf m 3 [af.fz x0,af.fz y0] h=some (r,h')∧gf h' r (.bool out):=by
 refine aj (fn:=Tryz.f3) ha Tryz.func3 (by kernel_rfl) (by kernel_rfl) ?_
 refine aD (Q:=fun s=>eC.fin L out s) (fun _ _ h=>h) ?_
 have H:_=some out:=H
 unfold eC.f at H
 show dA _ cf LA m _ ⟨af.fz x0::af.fz y0::qG [],[],h⟩ _
 refine q1 <| qq <| qq ?_
 rcases dX H with⟨c0,H⟩| ⟨c0,H⟩
 ·refine qr [.b 3 c0] <| uD <| qq ?_
  obtain⟨x1,e0,H⟩:=aG H
  obtain rfl:=oi H
  exact qr [.a 0 (Vv _ e0 h _ (fT (aA)))] <| qt <| ⟨.inl rfl,cp (.bool x1) h (cn (au))⟩
 ·refine qr [.b 3 c0] <| qc H (fun c2 H=>?_) (fun c2 H=>?_)
  ·refine qq ?_
   obtain⟨x2,e1,H⟩:=aG H
   obtain rfl:=oi H
   exact qr [.a 0 (Vv _ e1 h _ (fT (aA)))] <| qt <| ⟨.inl rfl,cp (.bool x2) h (cn (au))⟩
  ·refine qk <| qq ?_
   obtain⟨x3,e2,H⟩:=aG H
   refine qr [.a 1 (Oz _ _ e2 h _ (cb (gP (E:=af)) (fH)))] <| qq ?_
   obtain⟨x4,e3,H⟩:=aG H
   refine qr [.a 1 (Pf _ _ e3 h _ (cb (gP (E:=af)) (fH)))] <| qq ?_
   obtain⟨x5,e4,H⟩:=aG H
   refine qr [.a 1 (Zs _ _ e4 h _ (fT (ab (bB (E:=af)) (aA))))] <| qq ?_
   obtain⟨x6,e5,H⟩:=aG H
   refine qr [.a 1 (Zt _ _ e5 h _ (cb (gP (E:=af)) (fH)))] <| qq ?_
   obtain⟨x7,e6,H⟩:=aG H
   refine qr [.a 2 (Vw _ _ _ e6 h _ (fT (ab (bB (E:=af)) (ab (bB (E:=af)) (aA)))))] <| qq ?_
   obtain⟨x8,e7,H⟩:=aG H
   refine qr [.a 2 (Vx _ _ _ e7 h _ (fT (ab (bB (E:=af)) (ab (bB (E:=af)) (aA)))))] <| qq ?_
   obtain⟨x9,e8,H⟩:=aG H
   rcases dX H with⟨c3,H⟩| ⟨c3,H⟩
   ·rcases dX H with⟨c4,H⟩| ⟨c4,H⟩
    ·obtain⟨jF,e9,H⟩:=aG H
     rcases dX H with⟨c5,H⟩| ⟨c5,H⟩
     ·rcases dX H with⟨c6,H⟩| ⟨c6,H⟩
      ·rcases dX H with⟨c7,H⟩| ⟨c7,H⟩
       ·rcases dX H with⟨c8,H⟩| ⟨c8,H⟩
        ·obtain⟨pQ,lF,H⟩:=aG H
         obtain⟨xh,nb,H⟩:=aG H
         rcases dX H with⟨c9,H⟩| ⟨c9,H⟩
         ·obtain⟨rH,nK,H⟩:=aG H
          obtain rfl:=oi H
          exact qr [.a 2 (B5 _ _ _ e8 h _ (fT (ab (bB (E:=aL)) (ab (bB (E:=aL)) (aA))))),.b 3 c3,.b 8 c4,.a 11 (GD _ _ _ e9 h _ (fT (ab (bB (E:=aa)) (ab (bB (E:=aa)) (aA))))),.b 13 c5,.b 18 c6,.b 23 c7,.b 28 c8,.a 30 (Lg _ _ lF h _ (fT (ab (bB (E:=af)) (aA)))),.a 32 (Lp _ _ nb h _ (fT (ab (bB (E:=af)) (aA)))),.b 35 c9,.a 36 (Vv _ nK h _ (fT (aA)))] <| qt <| ⟨.inl rfl,cp (.bool rH) h (cn (au))⟩
         ·obtain rfl:=oi H
          exact qr [.a 2 (B5 _ _ _ e8 h _ (fT (ab (bB (E:=aL)) (ab (bB (E:=aL)) (aA))))),.b 3 c3,.b 8 c4,.a 11 (GD _ _ _ e9 h _ (fT (ab (bB (E:=aa)) (ab (bB (E:=aa)) (aA))))),.b 13 c5,.b 18 c6,.b 23 c7,.b 28 c8,.a 30 (Lg _ _ lF h _ (fT (ab (bB (E:=af)) (aA)))),.a 32 (Lp _ _ nb h _ (fT (ab (bB (E:=af)) (aA)))),.b 35 c9] <| qt <| ⟨.inl rfl,cp (.bool false) h (cn (au))⟩
        ·obtain rfl:=oi H
         exact qr [.a 2 (B5 _ _ _ e8 h _ (fT (ab (bB (E:=aL)) (ab (bB (E:=aL)) (aA))))),.b 3 c3,.b 8 c4,.a 11 (GD _ _ _ e9 h _ (fT (ab (bB (E:=aa)) (ab (bB (E:=aa)) (aA))))),.b 13 c5,.b 18 c6,.b 23 c7,.b 28 c8] <| qt <| ⟨.inl rfl,cp (.bool false) h (cn (au))⟩
       ·obtain rfl:=oi H
        exact qr [.a 2 (B5 _ _ _ e8 h _ (fT (ab (bB (E:=aL)) (ab (bB (E:=aL)) (aA))))),.b 3 c3,.b 8 c4,.a 11 (GD _ _ _ e9 h _ (fT (ab (bB (E:=aa)) (ab (bB (E:=aa)) (aA))))),.b 13 c5,.b 18 c6,.b 23 c7] <| qt <| ⟨.inl rfl,cp (.bool false) h (cn (au))⟩
      ·obtain rfl:=oi H
       exact qr [.a 2 (B5 _ _ _ e8 h _ (fT (ab (bB (E:=aL)) (ab (bB (E:=aL)) (aA))))),.b 3 c3,.b 8 c4,.a 11 (GD _ _ _ e9 h _ (fT (ab (bB (E:=aa)) (ab (bB (E:=aa)) (aA))))),.b 13 c5,.b 18 c6] <| qt <| ⟨.inl rfl,cp (.bool false) h (cn (au))⟩
     ·obtain rfl:=oi H
      exact qr [.a 2 (B5 _ _ _ e8 h _ (fT (ab (bB (E:=aL)) (ab (bB (E:=aL)) (aA))))),.b 3 c3,.b 8 c4,.a 11 (GD _ _ _ e9 h _ (fT (ab (bB (E:=aa)) (ab (bB (E:=aa)) (aA))))),.b 13 c5] <| qt <| ⟨.inl rfl,cp (.bool false) h (cn (au))⟩
    ·obtain rfl:=oi H
     exact qr [.a 2 (B5 _ _ _ e8 h _ (fT (ab (bB (E:=aL)) (ab (bB (E:=aL)) (aA))))),.b 3 c3,.b 8 c4] <| qt <| ⟨.inl rfl,cp (.bool false) h (cn (au))⟩
   ·obtain rfl:=oi H
    exact qr [.a 2 (B5 _ _ _ e8 h _ (fT (ab (bB (E:=aL)) (ab (bB (E:=aL)) (aA))))),.b 3 c3] <| qt <| ⟨.inl rfl,cp (.bool false) h (cn (au))⟩
end
end Go.Proofs.YtmekcfdllhphlaaGreatDoor
