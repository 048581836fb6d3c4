/- Part of the proof: PB7, PB8, PB10, PB11, PU3, PV2, Q12, Q17, Q3, PU4, Q20, Q63, Q66, Q64, Q46, Q24, PV3. -/
import Derived.Test.YtmekcfdllhphlaaDoorK13
set_option linter.unusedVariables false
set_option linter.unusedSimpArgs false
set_option maxRecDepth 100000
open Int renaming toNat_natCast → Xy
open List renaming getElem?_eq_some_iff → XA, length_append → XB, length_set → XC, getElem?_eq_getElem → XD, mem_singleton → XE, append_assoc → XF, drop_eq_getElem_cons → XG, mem_append → XH, length_map → XI, replicate → XK, getElem?_eq_none → XL, getD_eq_getElem?_getD → XM, map_cons → XN, getElem?_append_right → XO, mem_map → XQ, length_cons → XR, map_append → XW, getElem?_map → XZ, take_of_length_le → X1, nil_append → X2, drop_eq_nil_of_le → X3, drop_zero → X6, mem_cons → X8, ext_getElem? → Yh, length_nil → Yk, getElem_mem → Yo, append_nil → Yr, take_add_one → Yx, map_congr_left → Yy, take_length → YA, length_take → YI, pairwise_iff_getElem → YO, mem_filter → YP, getElem?_set → YS, set_append_right → YW, length_replicate → YX
open Nat renaming le_trans → X9, lt_succ_self → Yd, sub_self → Y0
open Option renaming bind_some → Xr, bind_eq_some_iff → Xs, map_some → Xx
open Option.some renaming injEq → Xu, inj → XP
open Or renaming inr → Yv, inl → YQ
namespace Go.Proofs.YtmekcfdllhphlaaDoor
open Go Go.R
open Go.IntKind (i64 u64 u8 u32)
structure CH (l:List ab)(dn:List Bool)(c0 cls:List Int):Prop where
 lc:cls.length=l.length
 old:∀j,j<l.length→gb dn j=true→gt cls j=gt c0 j
 pF:∀j:Nat,(j:Int)∈bF dn l.length→gt cls j∈bF dn l.length∧gt cls j≤j∧gt cls (gt cls j).toNat=gt cls j∧Alike (nd l j) (nd l (gt cls j))
 coarse:∀R,DX l R→∀i j:Nat,R i j→(i:Int)∈bF dn l.length→(j:Int)∈bF dn l.length→gt cls i=gt cls j
theorem fM {dn:List Bool}{p:Nat}{x:Int}(h:x∈bF dn p):0≤x∧x<p∧((x.toNat:Nat):Int)=x:=by
 obtain⟨j,a,b,c⟩:=iJ.1 h; omega
theorem D4 {l:List ab}{dn:List Bool}{c0 cls:List Int}(P:Ox l dn c0 l.length cls):CH l dn c0 cls:=by
 have mn:∀i j:Nat,(i:Int)∈bF dn l.length→(j:Int)∈bF dn l.length→Alike (nd l i) (nd l j)→gt cls i≤gt cls j:=fun i j hi hj hA=>by
  obtain⟨r1,r2,r3⟩:=P.pF j hj
  exact (P.pF i hi).2.2 _ r1 (hA.trans r2)
 refine⟨P.lc,fun j _ h=>P.old j h,fun j hj=>?_,fun R B i j hR hi hj=>?_⟩
 ·obtain⟨r1,r2,r3⟩:=P.pF j hj
  have e:=(fM r1).2.2
  refine⟨r1,r3 j hj (Alike.refl _),?_,r2⟩
  have h1:=mn j (gt cls j).toNat hj (by rw [e]; exact r1) (by rw [e]; exact r2)
  have h2:=mn (gt cls j).toNat j (by rw [e]; exact r1) hj (by rw [e]; exact r2.symm)
  omega
 ·have h1:=mn i j hi hj (B.top i j hR)
  have h2:=mn j i hj hi (B.top i j hR).symm
  omega
def Qr (l:List ab)(cls:List Int)(j g:Nat):Prop:=gt cls j=gt cls g∧SA l cls j g
theorem CH.al {l dn c0 cls}(P:CH l dn c0 cls){i j:Nat}(hi:(i:Int)∈bF dn l.length)(hj:(j:Int)∈bF dn l.length)(h:gt cls i=gt cls j):Alike (nd l i) (nd l j):=by
 have a:=(P.pF i hi).2.2.2
 have b:=(P.pF j hj).2.2.2
 rw [h] at a
 exact a.trans b.symm
theorem CH.JF {l dn c0 cls}(P:CH l dn c0 cls){i j:Nat}(hi:(i:Int)∈bF dn l.length)(hj:(j:Int)∈bF dn l.length)(h:Qr l cls i j):Qr l cls j i:=
 ⟨h.1.symm,fun k hk=>(h.2 k (by have:=(P.al hi hj h.1).len; unfold na at *; omega)).symm⟩
theorem CH.Bi {l dn c0 cls}(P:CH l dn c0 cls){i j q:Nat}(hi:(i:Int)∈bF dn l.length)(hj:(j:Int)∈bF dn l.length)(h:Qr l cls i j)(g:Qr l cls j q):Qr l cls i q:=
 ⟨h.1.trans g.1,fun k hk=>(h.2 k hk).trans (g.2 k (by have:=(P.al hi hj h.1).len; unfold na at *; omega))⟩
theorem G6 {m:Nat}(hm:2 ^ 30≤m){l:List ab}{dn:List Bool}{c0 cls nx:List Int}(ok:kM l)(P:CH l dn c0 cls)(hnx:nx.length=l.length){J:Nat}(hJ:J<(bF dn l.length).length)
  (hlt:∀q,q<J→gt nx (gt (bF dn l.length) q).toNat≠gt (bF dn l.length) J):∀(f k:Nat),J - k+2≤f→k≤J→(∀q,q<k→¬Qr l cls (gt (bF dn l.length) J).toNat (gt (bF dn l.length) q).toNat)→
  ∃w x,ah.l6 m l (bF dn l.length) cls (J:Int) (gt (bF dn l.length) J) f (nx.set (gt (bF dn l.length) J).toNat (gt (bF dn l.length) J)) (k:Int)=some (nx.set (gt (bF dn l.length) J).toNat w,x)∧
   (w=gt (bF dn l.length) J∧(∀q,q<J→¬Qr l cls (gt (bF dn l.length) J).toNat (gt (bF dn l.length) q).toNat)∨∃q,q<J∧Qr l cls (gt (bF dn l.length) J).toNat (gt (bF dn l.length) q).toNat∧w=gt nx (gt (bF dn l.length) q).toNat)
 | 0,k,hf,_,_=>absurd hf (by omega)
 | f+1,k,hf,hk,sJ=>by
  have ni:(2:Nat) ^ 30=1073741824:=by decide
  have h8:=ok.1
  have N0:=ia (dn:=dn) l.length
  have mJ:=aJ hJ
  obtain⟨v0,v1,v2⟩:=fM mJ
  unfold ah.l6
  have nc:∀w,ix (nx.set (gt (bF dn l.length) J).toNat w) (gt (bF dn l.length) J)=some w:=fun w=>by
   rw [fU (k:=(gt (bF dn l.length) J).toNat) (by omega) (by rw [XC]; omega),eh (by omega),if_pos rfl]
  rw [nc,Xr,if_pos (by simp)]
  by_cases h:k<J
  ·have mk:=aJ (l:=bF dn l.length) (k:=k) (by omega)
   obtain⟨w0,w1,w2⟩:=fM mk
   have next:¬Qr l cls (gt (bF dn l.length) J).toNat (gt (bF dn l.length) k).toNat→∃w x,ah.l6 m l (bF dn l.length) cls (J:Int) (gt (bF dn l.length) J) f (nx.set (gt (bF dn l.length) J).toNat (gt (bF dn l.length) J)) (i64.wrap ((k:Int)+1))=some (nx.set (gt (bF dn l.length) J).toNat w,x)∧
     (w=gt (bF dn l.length) J∧(∀q,q<J→¬Qr l cls (gt (bF dn l.length) J).toNat (gt (bF dn l.length) q).toNat)∨∃q,q<J∧Qr l cls (gt (bF dn l.length) J).toNat (gt (bF dn l.length) q).toNat∧w=gt nx (gt (bF dn l.length) q).toNat):=fun hn=>by
    rw [aD (by omega) (by omega),show (k:Int)+1=((k+1:Nat):Int) by omega]
    refine G6 hm ok P hnx hJ hlt f (k+1) (by omega) (by omega) fun q hq=>?_
    by_cases e:q=k
    ·subst e; exact hn
    ·exact sJ q (by omega)
   have c1:ix cls (gt (bF dn l.length) J)=some (gt cls (gt (bF dn l.length) J).toNat):=fU v2.symm (by rw [P.lc]; omega)
   have c2:ix cls (gt (bF dn l.length) k)=some (gt cls (gt (bF dn l.length) k).toNat):=fU w2.symm (by rw [P.lc]; omega)
   rw [if_pos (by simp only [decide_eq_true_eq]; omega),c1,Xr,cj (by omega),Xr,c2,Xr]
   by_cases e:gt cls (gt (bF dn l.length) J).toNat=gt cls (gt (bF dn l.length) k).toNat
   ·have hA:=P.al (i:=(gt (bF dn l.length) J).toNat) (j:=(gt (bF dn l.length) k).toNat) (by rw [v2]; exact mJ) (by rw [w2]; exact mk) e
    obtain⟨xs,s1,s2⟩:=CC hm ok P.lc (i:=(gt (bF dn l.length) J).toNat) (j:=(gt (bF dn l.length) k).toNat) (by omega) (by omega) hA.len
    rw [v2,w2] at s1
    rw [if_pos (by simpa using e),gW (by omega) (by omega),Xr,Xr,gW (by omega) (by omega),Xr,s1,Xr]
    cases xs with
    | false=>
     rw [if_neg (by simp)]
     exact next fun h=>by have:=s2.2 h.2; cases this
    | true=>
     have hQ:Qr l cls (gt (bF dn l.length) J).toNat (gt (bF dn l.length) k).toNat:=⟨e,s2.1 rfl⟩
     have hne:(gt (bF dn l.length) k).toNat≠(gt (bF dn l.length) J).toNat:=by have:=mw (dn:=dn) (p:=l.length) h hJ; omega
     have n1:ix (nx.set (gt (bF dn l.length) J).toNat (gt (bF dn l.length) J)) (gt (bF dn l.length) k)=some (gt nx (gt (bF dn l.length) k).toNat):=by
      rw [fU w2.symm (by rw [XC]; omega),eh (by omega),if_neg hne]
     obtain⟨g,rfl⟩:∃g,f=g+1:=⟨f - 1,by omega⟩
     rw [if_pos rfl,Xr,n1,Xr,Xr,List.set_set]
     refine⟨gt nx (gt (bF dn l.length) k).toNat,i64.wrap ((k:Int)+1),?_,.inr ⟨k,h,hQ,rfl⟩⟩
     unfold ah.l6
     rw [nc,Xr,if_neg (by simpa using hlt k h)]
   ·rw [if_neg (by simpa using e)]
    exact next fun h=>e h.1
  ·have e:k=J:=by omega
   rw [if_neg (by simp only [decide_eq_true_eq]; omega)]
   exact⟨gt (bF dn l.length) J,_,rfl,.inl ⟨rfl,fun q hq=>sJ q (by omega)⟩⟩
structure N5 (l:List ab)(dn:List Bool)(cls:List Int)(p:Nat)(nx:List Int):Prop where
 ln:nx.length=l.length
 LI:∀x:Nat,(x:Int)∉bF dn l.length→gt nx x=gt cls x
 later:∀q,p≤q→q<(bF dn l.length).length→gt nx (gt (bF dn l.length) q).toNat=gt cls (gt (bF dn l.length) q).toNat
 new:∀q,q<p→gt nx (gt (bF dn l.length) q).toNat∈bF dn l.length∧Qr l cls (gt (bF dn l.length) q).toNat (gt nx (gt (bF dn l.length) q).toNat).toNat∧∀g∈bF dn l.length,Qr l cls (gt (bF dn l.length) q).toNat g.toNat→gt nx (gt (bF dn l.length) q).toNat≤g
theorem xP {dn:List Bool}{n p q:Nat}(hp:p<(bF dn n).length)(hq:q<(bF dn n).length)(e:(gt (bF dn n) p).toNat=(gt (bF dn n) q).toNat):p=q:=by
 have a:=(fM (aJ hp)).2.2
 have b:=(fM (aJ hq)).2.2
 rcases Nat.lt_trichotomy p q with h | h | h
 ·have:=mw (dn:=dn) (p:=n) h hq; omega
 ·exact h
 ·have:=mw (dn:=dn) (p:=n) h hp; omega
theorem IS {l:List ab}{dn:List Bool}{c0 cls nx:List Int}(P:CH l dn c0 cls){p:Nat}(hp:p<(bF dn l.length).length)(N:N5 l dn cls p nx){w:Int}
  (hw:w=gt (bF dn l.length) p∧(∀q,q<p→¬Qr l cls (gt (bF dn l.length) p).toNat (gt (bF dn l.length) q).toNat)∨∃q,q<p∧Qr l cls (gt (bF dn l.length) p).toNat (gt (bF dn l.length) q).toNat∧w=gt nx (gt (bF dn l.length) q).toNat) :
  N5 l dn cls (p+1) (nx.set (gt (bF dn l.length) p).toNat w):=by
 have mp:=aJ hp
 obtain⟨v0,v1,v2⟩:=fM mp
 have gc:∀x,x≠(gt (bF dn l.length) p).toNat→gt (nx.set (gt (bF dn l.length) p).toNat w) x=gt nx x:=fun x hx=>by rw [eh (by rw [N.ln]; omega),if_neg hx]
 have gi:gt (nx.set (gt (bF dn l.length) p).toNat w) (gt (bF dn l.length) p).toNat=w:=by rw [eh (by rw [N.ln]; omega),if_pos rfl]
 refine⟨by simpa using N.ln,fun x hx=>?_,fun q h1 h2=>?_,fun q hq=>?_⟩
 ·rw [gc x (fun e=>hx (by rw [e,v2]; exact mp))]; exact N.LI x hx
 ·rw [gc _ (fun e=>by have:=xP h2 hp e; omega)]; exact N.later q (by omega) h2
 ·by_cases e:q=p
  ·subst e
   rw [gi]
   rcases hw with⟨rfl,h⟩| ⟨q',h1,h2,rfl⟩
   ·refine⟨mp,⟨rfl,fun _ _=>rfl⟩,fun g hg hQ=>?_⟩
    obtain⟨k,hk,rfl⟩:=eL hg
    by_cases V1:k<q
    ·exact absurd hQ (h k V1)
    ·by_cases RR:k=q
     ·subst RR; exact Int.le_refl _
     ·have:=mw (dn:=dn) (p:=l.length) (k:=q) (q:=k) (by omega) hk; omega
   ·have mq:=aJ (l:=bF dn l.length) (k:=q') (by omega)
    have eq2:=(fM mq).2.2
    obtain⟨n1,n2,n3⟩:=N.new q' h1
    have e3:=(fM n1).2.2
    have s1:((gt (bF dn l.length) q).toNat:Int)∈bF dn l.length:=by rw [v2]; exact mp
    have s2:((gt (bF dn l.length) q').toNat:Int)∈bF dn l.length:=by rw [eq2]; exact mq
    exact⟨n1,P.Bi s1 s2 h2 n2,fun g hg hQ=>n3 g hg (P.Bi s2 s1 (P.JF s1 s2 h2) hQ)⟩
  ·rw [gc _ (fun e2=>by have:=xP (dn:=dn) (n:=l.length) (by omega) hp e2; omega)]
   exact N.new q (by omega)
theorem Bj {m:Nat}(hm:2 ^ 30≤m){l:List ab}{dn:List Bool}{c0 cls:List Int}(ok:kM l)(P:CH l dn c0 cls):∀(f p:Nat) (more:Bool) (nx:List Int),(bF dn l.length).length - p<f→p≤(bF dn l.length).length→N5 l dn cls p nx→
  (more=true↔∃q,q<p∧gt nx (gt (bF dn l.length) q).toNat≠gt cls (gt (bF dn l.length) q).toNat)→
  ∃ij RU x,ah.l5 m l (bF dn l.length) cls f more nx (p:Int)=some (ij,RU,x)∧N5 l dn cls (bF dn l.length).length RU∧(ij=true↔∃q,q<(bF dn l.length).length∧gt RU (gt (bF dn l.length) q).toNat≠gt cls (gt (bF dn l.length) q).toNat)
 | 0,p,_,_,hf,_,_,_=>absurd hf (by omega)
 | f+1,p,more,nx,hf,hp,N,my=>by
  have ni:(2:Nat) ^ 30=1073741824:=by decide
  have h8:=ok.1
  have N0:=ia (dn:=dn) l.length
  unfold ah.l5
  by_cases h:p<(bF dn l.length).length
  ·have mp:=aJ h
   obtain⟨v0,v1,v2⟩:=fM mp
   obtain⟨w,x,k1,k2⟩:=G6 hm ok P N.ln h (fun q hq=>by
    obtain⟨n1,n2,n3⟩:=N.new q hq
    have mq:=aJ (l:=bF dn l.length) (k:=q) (by omega)
    have:=n3 _ mq ⟨rfl,fun _ _=>rfl⟩
    have:=mw (dn:=dn) (p:=l.length) hq h
    omega) m 0 (by omega) (by omega) (fun q hq=>absurd hq (by omega))
   have k1:ah.l6 m l (bF dn l.length) cls (p:Int) (gt (bF dn l.length) p) m (nx.set (gt (bF dn l.length) p).toNat (gt (bF dn l.length) p)) 0=_:=k1
   have N':=IS P h N k2
   have ew:i64.wrap ((p:Int)+1)=((p+1:Nat):Int):=by rw [aD (by omega) (by omega)]; omega
   have V2:ix nx (gt (bF dn l.length) p)=some (gt nx (gt (bF dn l.length) p).toNat):=fU v2.symm (by rw [N.ln]; omega)
   have c1:ix cls (gt (bF dn l.length) p)=some (gt cls (gt (bF dn l.length) p).toNat):=fU v2.symm (by rw [P.lc]; omega)
   have c2:ix (nx.set (gt (bF dn l.length) p).toNat w) (gt (bF dn l.length) p)=some w:=by
    rw [fU v2.symm (by rw [XC,N.ln]; omega),eh (by rw [N.ln]; omega),if_pos rfl]
   have gw:gt (nx.set (gt (bF dn l.length) p).toNat w) (gt (bF dn l.length) p).toNat=w:=by rw [eh (by rw [N.ln]; omega),if_pos rfl]
   have old:∀q,q<p→gt (nx.set (gt (bF dn l.length) p).toNat w) (gt (bF dn l.length) q).toNat=gt nx (gt (bF dn l.length) q).toNat:=fun q hq=>by
    rw [eh (by rw [N.ln]; omega),if_neg (fun e=>by have:=xP (dn:=dn) (n:=l.length) (by omega) h e; omega)]
   rw [if_pos (by simp only [decide_eq_true_eq]; omega),cj h,Xr,V2,Xr,k1,Xr]
   dsimp only
   rw [ew]
   cases more with
   | true=>
    rw [if_pos rfl]
    refine Bj hm ok P f (p+1) true _ (by clear my k2; omega) (by clear my k2; omega) N' ⟨fun _=>?_,fun _=>rfl⟩
    obtain⟨q,q1,q2⟩:=my.1 rfl
    exact⟨q,by omega,by rw [old q q1]; exact q2⟩
   | false=>
    rw [if_neg (by simp),c2,Xr,c1,Xr]
    refine Bj hm ok P f (p+1) _ _ (by clear my k2; omega) (by clear my k2; omega) N' ?_
    constructor
    ·intro hb
     refine⟨p,by omega,?_⟩
     rw [gw]; simpa using hb
    ·rintro⟨q,q1,q2⟩
     by_cases e:q=p
     ·subst e; rw [gw] at q2; simpa using q2
     ·rw [old q (by omega)] at q2
      have:=my.2 ⟨q,by omega,q2⟩
      cases this
  ·have e:p=(bF dn l.length).length:=by omega
   subst e
   exact⟨more,nx,_,by rw [if_neg (by simp)],N,my⟩
theorem G7 {l:List ab}{dn:List Bool}{c0 cls nx:List Int}{od:List Int}(ok:kM l)(P:CH l dn c0 cls)(N:N5 l dn cls (bF dn l.length).length nx)
  (yh:∀j,j<l.length→(gb dn j=true↔(j:Int)∈od)) (L2:∀R,DX l R→∀i j:Nat,R i j→(i:Int)∈od→(j:Int)∈od→gt c0 i=gt c0 j)
  (hfin:∀R,DX l R→∀i j:Nat,R i j→(i:Int)∈od→(j:Int)∈od):CH l dn c0 nx:=by
 have Oy:∀j,j<l.length→gb dn j=true→(j:Int)∉bF dn l.length:=fun j _ h hm=>by
  obtain⟨j',a,b,c⟩:=iJ.1 hm
  have:j=j':=by omega
  subst this; rw [h] at b; cases b
 have uX:∀j,j<l.length→(j:Int)∉od→(j:Int)∈bF dn l.length:=fun j hj h=>iJ.2 ⟨j,hj,by
  cases hb:gb dn j with
  | true=>exact absurd ((yh j hj).1 hb) h
  | false=>rfl,rfl⟩
 have atR:∀j:Nat,(j:Int)∈bF dn l.length→gt nx j∈bF dn l.length∧Qr l cls j (gt nx j).toNat∧∀g∈bF dn l.length,Qr l cls j g.toNat→gt nx j≤g:=fun j hj=>by
  obtain⟨q,hq,e⟩:=eL hj
  have:=N.new q hq
  rw [e,Xy] at this
  exact this
 have mn:∀i j:Nat,(i:Int)∈bF dn l.length→(j:Int)∈bF dn l.length→Qr l cls i j→gt nx i≤gt nx j:=fun i j hi hj hQ=>by
  obtain⟨r1,r2,r3⟩:=atR j hj
  exact (atR i hi).2.2 _ r1 (P.Bi hi hj hQ r2)
 have Uh:∀i j:Nat,(i:Int)∈bF dn l.length→(j:Int)∈bF dn l.length→Qr l cls i j→gt nx i=gt nx j:=fun i j hi hj hQ=>by
  have h1:=mn i j hi hj hQ
  have h2:=mn j i hj hi (P.JF hi hj hQ)
  omega
 refine⟨N.ln,fun j hj h=>by rw [N.LI j (Oy j hj h)]; exact P.old j hj h,fun j hj=>?_,fun R B i j hR hi hj=>?_⟩
 ·obtain⟨r1,r2,r3⟩:=atR j hj
  have e:=(fM r1).2.2
  have Af:(((gt nx j).toNat:Nat):Int)∈bF dn l.length:=by rw [e]; exact r1
  refine⟨r1,r3 j hj ⟨rfl,fun _ _=>rfl⟩,(Uh j _ hj Af r2).symm,?_⟩
  have:=P.al hj Af r2.1
  rw [e] at this; exact this
 ·refine Uh i j hi hj ⟨P.coarse R B i j hR hi hj,fun k hk=>?_⟩
  have Oz:R (ar l i k) (ar l j k):=B.arg i j hR k hk
  obtain⟨ra,rb⟩:=B.nj _ _ Oz
  by_cases ha:((ar l i k:Nat):Int)∈od
  ·have hb:=hfin R B _ _ Oz ha
   rw [P.old _ ra ((yh _ ra).2 ha),P.old _ rb ((yh _ rb).2 hb)]
   exact L2 R B _ _ Oz ha hb
  ·have hb:((ar l j k:Nat):Int)∉od:=fun h=>ha (hfin _ B.symm _ _ Oz h)
   exact P.coarse R B _ _ Oz (uX _ ra ha) (uX _ rb hb)
def D5 (dn:List Bool)(n:Nat)(cls:List Int):List Int:=(bF dn n).filter fun j=>gt cls j.toNat==j
theorem D6 {dn:List Bool}{n:Nat}:(bF dn n).Nodup:=by
 unfold List.Nodup
 rw [YO]
 intro i j hi hj vl e
 have:=mw (dn:=dn) (p:=n) vl hj
 have a:=bh hi
 have b:=bh hj
 rw [XD hi] at a
 rw [XD hj] at b
 have a:=XP a
 have b:=XP b
 omega
theorem G8 {m:Nat}(hm:2 ^ 30≤m){l:List ab}{dn:List Bool}{c0 od:List Int}(ok:kM l)
  (yh:∀j,j<l.length→(gb dn j=true↔(j:Int)∈od)) (L2:∀R,DX l R→∀i j:Nat,R i j→(i:Int)∈od→(j:Int)∈od→gt c0 i=gt c0 j)
  (hfin:∀R,DX l R→∀i j:Nat,R i j→(i:Int)∈od→(j:Int)∈od):∀(f:Nat) (cls:List Int),(bF dn l.length).length - (D5 dn l.length cls).length+1<f→CH l dn c0 cls→
  ∃jo,ah.l4 m l (bF dn l.length) f cls true=some (jo,false)∧CH l dn c0 jo∧∀j:Nat,(j:Int)∈bF dn l.length→SA l jo j (gt jo j).toNat
 | 0,cls,hf,_=>absurd hf (by omega)
 | f+1,cls,hf,P=>by
  have ni:(2:Nat) ^ 30=1073741824:=by decide
  have h8:=ok.1
  have N0:=ia (dn:=dn) l.length
  unfold ah.l4
  have ly:app 8 ([]:List Int) cls=some cls:=by unfold app; rw [if_pos (by simp; rw [P.lc]; omega),X2]
  obtain⟨ij,nx,x,k1,N,my⟩:=Bj hm ok P m 0 false cls (by omega) (by omega) ⟨P.lc,fun _ _=>rfl,fun _ _ _=>rfl,fun q hq=>absurd hq (by omega)⟩ ⟨fun h=>(by cases h),fun ⟨q,hq,_⟩=>absurd hq (by omega)⟩
  have k1:ah.l5 m l (bF dn l.length) cls m false cls 0=_:=k1
  have P':=G7 ok P N yh L2 hfin
  rw [if_pos rfl,ly,Xr,k1,Xr]
  dsimp only
  cases Ui:ij with
  | true=>
   obtain⟨q,hq,hne⟩:=my.1 Ui
   have mq:=aJ hq
   have eq2:=(fM mq).2.2
   obtain⟨n1,n2,n3⟩:=N.new q hq
   have e3:=(fM n1).2.2
   have Uj:(D5 dn l.length cls).length+1≤(D5 dn l.length nx).length:=by
    have V3:(gt nx (gt (bF dn l.length) q).toNat::D5 dn l.length cls).Nodup:=by
     rw [List.nodup_cons]
     refine⟨fun h=>?_,List.Pairwise.filter _ D6⟩
     have:=(YP.1 h).2
     have:=beq_iff_eq.1 this
     exact hne (by rw [n2.1,this])
    have:=V3.length_le_of_subset (l₂:=D5 dn l.length nx) (fun y hy=>by
     rcases X8.1 hy with rfl | hy
     ·refine YP.2 ⟨n1,?_⟩
      have:=(P'.pF (gt (bF dn l.length) q).toNat (by rw [eq2]; exact mq)).2.2.1
      rw [beq_iff_eq]; exact this
     ·obtain⟨y1,y2⟩:=YP.1 hy
      have y2:=beq_iff_eq.1 y2
      refine YP.2 ⟨y1,?_⟩
      have ey:=(fM y1).2.2
      rw [beq_iff_eq]
      obtain⟨k,hk,e⟩:=eL y1
      obtain⟨m1,m2,m3⟩:=N.new k hk
      rw [e] at m1 m2 m3
      have a1:=m3 y y1 ⟨rfl,fun _ _=>rfl⟩
      have em:=(fM m1).2.2
      have a2:=(P.pF (gt nx y.toNat).toNat (by rw [em]; exact m1)).2.1
      rw [←m2.1,y2] at a2
      omega)
    simpa using this
   have hle:(D5 dn l.length nx).length≤(bF dn l.length).length:=List.length_filter_le _ _
   exact G8 hm ok yh L2 hfin f nx (by clear my; omega) P'
  | false=>
   obtain⟨g,rfl⟩:∃g,f=g+1:=⟨f - 1,by omega⟩
   have same:∀j:Nat,(j:Int)∈bF dn l.length→gt nx j=gt cls j:=fun j hj=>by
    obtain⟨k,hk,e⟩:=eL hj
    by_cases hne:gt nx j=gt cls j
    ·exact hne
    ·have:=my.2 ⟨k,hk,by rw [e,Xy]; exact hne⟩
     rw [Ui] at this; cases this
   have V4:nx=cls:=FD (by rw [N.ln,P.lc]) fun k hk=>by
    by_cases h:(k:Int)∈bF dn l.length
    ·exact same k h
    ·exact N.LI k h
   refine⟨nx,?_,P',fun j hj=>?_⟩
   ·unfold ah.l4
    rw [if_neg (by simp)]
   ·obtain⟨k,hk,e⟩:=eL hj
    obtain⟨m1,m2,m3⟩:=N.new k hk
    rw [e,Xy] at m2
    rw [V4] at m2 ⊢
    exact m2.2
end Go.Proofs.YtmekcfdllhphlaaDoor
namespace Go.Proofs.YtmekcfdllhphlaaDoor
open Go Go.R
open Go.IntKind (i64 u64 u8 u32)
structure LJ (l:List ab)(c od:List Int):Prop where
 min:Min l c
 pF:∀i,i<l.length→0≤gt c i∧gt c i<l.length∧gt c (gt c i).toNat=gt c i
 uW:∀i:Nat,(i:Int)∈od→∀k,k<na l i→((ar l i k:Nat):Int)∈od∧od.idxOf ((ar l i k:Nat):Int)<od.idxOf (i:Int)
 V5:∀i,i<l.length→(i:Int)∉od→gt c i≤i
theorem G9 {n k:Nat}:gb (XK n false) k=false:=by
 unfold gb; rw [XM,List.getElem?_replicate]; split<;>rfl
theorem zx {m:Nat}(hm:2 ^ 30≤m){l:List ab}(ok:kM l):∃c od,ah.f m l=some c∧LJ l c od:=by
 have ni:(2:Nat) ^ 30=1073741824:=by decide
 have h8:=ok.1
 unfold ah.f
 have e0:sj 8 (l.length:Int) (0:Int)=some (XK l.length 0):=by unfold sj; rw [if_pos ⟨by omega,by rw [Xy]; omega⟩,Xy]
 have e1:sj 1 (l.length:Int) false=some (XK l.length false):=by unfold sj; rw [if_pos ⟨by omega,by rw [Xy]; omega⟩,Xy]
 obtain⟨c0,dn,fs,od,k1,P1,hq⟩:=G3 hm ok m (XK l.length 0) (XK l.length false) [] [] (by simp; omega)
  {lc:=by simp,ld:=by simp,RN:=by simp,LH:=(by intro x hx; cases hx),HF:=(by intro i hi; rw [G9]; simp),uW:=(by intro i hi; cases hi),Ph:=by simp,fst:=(by intro f hf; cases hf),pF:=(by intro i hi; cases hi),apart:=(by intro f hf; cases hf),coarse:=(by intro R B i j hR hi; cases hi)}
 obtain⟨c1,x,k2,P2⟩:=Bh hm ok P1.ld (c0:=c0) m 0 c0 (by omega) (by omega) {lc:=P1.lc,old:=fun _ _=>rfl,pF:=(by intro j hj; cases hj)}
 have k2:ah.l2 m l dn m c0 [] 0=_:=k2
 have hfin:∀R,DX l R→∀i j:Nat,R i j→(i:Int)∈od→(j:Int)∈od:=by
  intro R B
  have:∀N i j:Nat,od.idxOf (i:Int)<N→R i j→(i:Int)∈od→(j:Int)∈od:=by
   intro N
   induction N with
   | zero=>intro i j h; omega
   | succ N ih=>
    intro i j hN hR hi
    by_cases hj:(j:Int)∈od
    ·exact hj
    ·obtain⟨k,g1,g2⟩:=hq j (B.nj i j hR).2 hj
     have sd:k<na l i:=by have:=(B.top i j hR).len; unfold na at *; omega
     obtain⟨r1,r2⟩:=P1.uW i hi k sd
     exact absurd (ih (ar l i k) (ar l j k) (by omega) (B.arg i j hR k sd) r1) g2
  exact fun i j=>this (od.idxOf (i:Int)+1) i j (by omega)
 obtain⟨c,k3,P3,hS⟩:=G8 hm ok P1.HF P1.coarse hfin m c1 (by have:=ia (dn:=dn) l.length; omega) (D4 P2)
 have uX:∀j,j<l.length→(j:Int)∉od→(j:Int)∈bF dn l.length:=fun j hj h=>iJ.2 ⟨j,hj,by
  cases hb:gb dn j with
  | true=>exact absurd ((P1.HF j hj).1 hb) h
  | false=>rfl,rfl⟩
 have JG:∀{x:Int},x∈bF dn l.length→x∉od:=fun hx h=>by
  obtain⟨j,a,b,e⟩:=iJ.1 hx
  subst e
  rw [(P1.HF j a).2 h] at b; cases b
 have uY:∀j:Nat,j<l.length→(j:Int)∈od→gt c j=gt c0 j:=fun j hj h=>P3.old j hj ((P1.HF j hj).2 h)
 have LK:∀f∈fs,0≤f∧f<l.length∧f∈od∧((f.toNat:Nat):Int)=f:=fun f hf=>by
  have a:=P1.RP f hf; have b:=(P1.fst f hf).1; exact⟨a.1,a.2,b,by omega⟩
 have RV:∀i j:Nat,(i:Int)∈od→(j:Int)∈od→rn l c0 i j→SA l c i j:=fun i j hi hj h k hk=>by
  have a:=(P1.uW i hi k hk).1
  have b:=(P1.uW j hj k (by have:=h.1.len; unfold na at *; omega)).1
  have ra:=P1.LH _ a
  have rb:=P1.LH _ b
  rw [uY _ (by omega) a,uY _ (by omega) b]
  exact h.2 k hk
 have both:∀i j:Nat,i<l.length→j<l.length→gt c i=gt c j→Alike (nd l i) (nd l j)∧SA l c i j:=fun i j hi hj e=>by
  by_cases h1:(i:Int)∈od
  ·obtain⟨f1,s1⟩:=P1.pF i h1
   by_cases h2:(j:Int)∈od
   ·obtain⟨f2,s2⟩:=P1.pF j h2
    rw [uY i hi h1,uY j hj h2] at e
    rw [e] at s1
    have s:=s1.trans s2.symm
    exact⟨s.1,RV i j h1 h2 s⟩
   ·have:=(P3.pF j (uX j hj h2)).1
    rw [←e,uY i hi h1] at this
    exact absurd (LK _ f1).2.2.1 (JG this)
  ·have r1:=uX i hi h1
   by_cases h2:(j:Int)∈od
   ·obtain⟨f2,s2⟩:=P1.pF j h2
    have:=(P3.pF i r1).1
    rw [e,uY j hj h2] at this
    exact absurd (LK _ f2).2.2.1 (JG this)
   ·have r2:=uX j hj h2
    have hA:=P3.al r1 r2 e
    refine⟨hA,fun k hk=>?_⟩
    have a:=hS i r1 k hk
    have b:=hS j r2 k (by have:=hA.len; unfold na at *; omega)
    rw [e] at a
    exact a.trans b.symm
 refine⟨c,od,?_,⟨P3.lc,fun i j hi hj e=>(both i j hi hj e).1,fun i j hi hj e k hk=>(both i j hi hj e).2 k hk,fun R B i j hR=>?_⟩,fun i hi=>?_,P1.uW,fun i hi h=>(P3.pF i (uX i hi h)).2.1⟩
 ·rw [e0,Xr,e1,Xr,k1,Xr]
  dsimp only
  rw [k2,Xr]
  dsimp only
  rw [k3]; rfl
 ·obtain⟨hi,hj⟩:=B.nj i j hR
  by_cases h1:(i:Int)∈od
  ·have h2:=hfin R B i j hR h1
   rw [uY i hi h1,uY j hj h2]; exact P1.coarse R B i j hR h1 h2
  ·have h2:(j:Int)∉od:=fun h=>h1 (hfin _ B.symm j i hR h)
   exact P3.coarse R B i j hR (uX i hi h1) (uX j hj h2)
 ·by_cases h1:(i:Int)∈od
  ·obtain⟨f1,s1⟩:=P1.pF i h1
   obtain⟨a,b,d,e⟩:=LK _ f1
   rw [uY i hi h1]
   refine⟨a,b,?_⟩
   rw [uY _ (by omega) (by rw [e]; exact d)]
   exact (P1.fst _ f1).2
  ·obtain⟨r1,r2,r3,r4⟩:=P3.pF i (uX i hi h1)
   have:=fM r1
   exact⟨this.1,this.2.1,r3⟩
end Go.Proofs.YtmekcfdllhphlaaDoor
namespace Go.Proofs.YtmekcfdllhphlaaDoor
open Go Go.R
open Go.IntKind (i64 u64 u8 u32)
def pm (pl:List Int)(n:ab):ab:=⟨n.kind,n.int,n.label,n.args.map fun a=>gt pl a.toNat⟩
theorem pw {l:List ab}{i:Nat}(h:i<l.length):l[i]? = some (nd l i):=by
 have:=gW (l:=l) (i:=(i:Int)) (by omega) (by omega)
 unfold ix at this
 rwa [if_pos (by omega),Xy] at this
theorem Bk {l:List ab}{i q:Nat}{x:ab}(hi:i<l.length):nd (l.set i x) q=if q=i then x else nd l q:=by
 unfold nd
 simp only [Xy,XM,YS]
 by_cases h:i=q
 ·subst h; simp [hi]
 ·rw [if_neg h,if_neg (by omega)]
theorem Ha {f:ab→ab}{l:List ab}{i:Nat}(h:i<l.length):nd (l.map f) i=f (nd l i):=by
 have h1:=pw (l:=l.map f) (i:=i) (by simpa using h)
 rw [XZ,pw h] at h1
 exact (XP h1).symm
theorem IT {f:Int→ab}{l:List Int}{i:Nat}(h:i<l.length):nd (l.map f) i=f (gt l i):=by
 have h1:=pw (l:=l.map f) (i:=i) (by simpa using h)
 rw [XZ,bh h] at h1
 exact (XP h1).symm
theorem Hb {l r:List ab}(hl:l.length=r.length)(h:∀k,k<l.length→nd l k=nd r k):l=r:=by
 apply Yh fun k=>?_
 by_cases hk:k<l.length
 ·rw [pw hk,pw (hl ▸ hk),h k hk]
 ·rw [XL (by omega),XL (by omega)]
theorem zy {m:Nat}{S:List Int}(hn:S.Nodup)(OA:S.length≤8000):∀(f i:Nat) (pl:List Int),S.length - i<f→i≤S.length→(∀s∈S,0≤s∧s<pl.length)→(∀q,q<i→gt pl (gt S q).toNat=q)→
  ∃Hc x,aj.l0 m S f pl (i:Int)=some (Hc,x)∧Hc.length=pl.length∧∀q,q<S.length→gt Hc (gt S q).toNat=q
 | 0,i,pl,hf,_,_,_=>absurd hf (by omega)
 | f+1,i,pl,hf,hi,hS,hq=>by
  unfold aj.l0
  by_cases h:i<S.length
  ·obtain⟨s0,s1⟩:=hS _ (aJ h)
   have hx:∃z,ix pl (gt S i)=some z:=⟨_,fU (k:=(gt S i).toNat) (by omega) (by omega)⟩
   obtain⟨z,hx⟩:=hx
   obtain⟨Hc,x,k1,k2,k3⟩:=zy (m:=m) hn OA f (i+1) (pl.set (gt S i).toNat (i:Int)) (by omega) (by omega) (by simpa using hS) (fun q Hv=>by
    rw [eh (by omega)]
    by_cases e:q=i
    ·subst e; rw [if_pos rfl]
    ·have hne:gt S q≠gt S i:=fun e2=>e (tP hn (by omega) h e2)
     have:=hS _ (aJ (l:=S) (k:=q) (by omega))
     rw [if_neg (by omega)]; exact hq q (by omega))
   refine⟨Hc,x,?_,by simpa using k2,k3⟩
   rw [if_pos (by simp only [decide_eq_true_eq]; omega),cj h,Xr,hx,Xr,aD (by omega) (by omega),show (i:Int)+1=((i+1:Nat):Int) by omega]
   exact k1
  ·exact⟨pl,_,by rw [if_neg (by simp only [decide_eq_true_eq]; omega)],rfl,fun q h=>hq q (by omega)⟩
theorem zz {m:Nat}{S:List Int}(hn:S.Nodup)(OA:S.length≤8000):∀(f i:Nat) (pl:List Int),S.length - i<f→i≤S.length→(∀s∈S,0≤s∧s<pl.length)→(∀q,q<i→gt pl (gt S q).toNat=q)→
  ∃Hc x,aj.l5 m S f pl (i:Int)=some (Hc,x)∧Hc.length=pl.length∧∀q,q<S.length→gt Hc (gt S q).toNat=q
 | 0,i,pl,hf,_,_,_=>absurd hf (by omega)
 | f+1,i,pl,hf,hi,hS,hq=>by
  unfold aj.l5
  by_cases h:i<S.length
  ·obtain⟨s0,s1⟩:=hS _ (aJ h)
   have hx:∃z,ix pl (gt S i)=some z:=⟨_,fU (k:=(gt S i).toNat) (by omega) (by omega)⟩
   obtain⟨z,hx⟩:=hx
   obtain⟨Hc,x,k1,k2,k3⟩:=zz (m:=m) hn OA f (i+1) (pl.set (gt S i).toNat (i:Int)) (by omega) (by omega) (by simpa using hS) (fun q Hv=>by
    rw [eh (by omega)]
    by_cases e:q=i
    ·subst e; rw [if_pos rfl]
    ·have hne:gt S q≠gt S i:=fun e2=>e (tP hn (by omega) h e2)
     have:=hS _ (aJ (l:=S) (k:=q) (by omega))
     rw [if_neg (by omega)]; exact hq q (by omega))
   refine⟨Hc,x,?_,by simpa using k2,k3⟩
   rw [if_pos (by simp only [decide_eq_true_eq]; omega),cj h,Xr,hx,Xr,aD (by omega) (by omega),show (i:Int)+1=((i+1:Nat):Int) by omega]
   exact k1
  ·exact⟨pl,_,by rw [if_neg (by simp only [decide_eq_true_eq]; omega)],rfl,fun q h=>hq q (by omega)⟩
theorem CI {m:Nat}{pl:List Int}{n:ab}(h8:n.args.length≤8)(ha:∀a∈n.args,0≤a∧a<pl.length):∀(f k:Nat),n.args.length - k<f→k≤n.args.length→
  ∃x,aj.l2 m pl n f ((n.args.take k).map fun a=>gt pl a.toNat) (k:Int)=some (n.args.map fun a=>gt pl a.toNat,x)
 | 0,k,hf,_=>absurd hf (by omega)
 | f+1,k,hf,hk=>by
  unfold aj.l2
  by_cases h:k<n.args.length
  ·obtain⟨a0,a1⟩:=ha _ (aJ h)
   have hy:ix pl (gt n.args k)=some (gt pl (gt n.args k).toNat):=fU (by omega) (by omega)
   have hT:n.args.take (k+1)=n.args.take k++[gt n.args k]:=by rw [Yx,bh h]; rfl
   have ly:app 8 ((n.args.take k).map fun a=>gt pl a.toNat) [gt pl (gt n.args k).toNat]=some ((n.args.take (k+1)).map fun a=>gt pl a.toNat):=by
    unfold app; rw [if_pos (by simp; omega),hT,XW]; rfl
   obtain⟨x,ih⟩:=CI (m:=m) h8 ha f (k+1) (by omega) (by omega)
   rw [if_pos (by simp only [decide_eq_true_eq]; omega),cj h,Xr,hy,Xr,ly,Xr,aD (by omega) (by omega),show (k:Int)+1=((k+1:Nat):Int) by omega]
   exact⟨x,ih⟩
  ·have e:k=n.args.length:=by omega
   subst e
   exact⟨_,by rw [if_neg (by simp),YA]⟩
theorem CJ {m:Nat}{pl:List Int}{n:ab}(h8:n.args.length≤8)(ha:∀a∈n.args,0≤a∧a<pl.length):∀(f k:Nat),n.args.length - k<f→k≤n.args.length→
  ∃x,aj.l7 m pl n f ((n.args.take k).map fun a=>gt pl a.toNat) (k:Int)=some (n.args.map fun a=>gt pl a.toNat,x)
 | 0,k,hf,_=>absurd hf (by omega)
 | f+1,k,hf,hk=>by
  unfold aj.l7
  by_cases h:k<n.args.length
  ·obtain⟨a0,a1⟩:=ha _ (aJ h)
   have hy:ix pl (gt n.args k)=some (gt pl (gt n.args k).toNat):=fU (by omega) (by omega)
   have hT:n.args.take (k+1)=n.args.take k++[gt n.args k]:=by rw [Yx,bh h]; rfl
   have ly:app 8 ((n.args.take k).map fun a=>gt pl a.toNat) [gt pl (gt n.args k).toNat]=some ((n.args.take (k+1)).map fun a=>gt pl a.toNat):=by
    unfold app; rw [if_pos (by simp; omega),hT,XW]; rfl
   obtain⟨x,ih⟩:=CJ (m:=m) h8 ha f (k+1) (by omega) (by omega)
   rw [if_pos (by simp only [decide_eq_true_eq]; omega),cj h,Xr,hy,Xr,ly,Xr,aD (by omega) (by omega),show (k:Int)+1=((k+1:Nat):Int) by omega]
   exact⟨x,ih⟩
  ·have e:k=n.args.length:=by omega
   subst e
   exact⟨_,by rw [if_neg (by simp),YA]⟩
theorem CK {m:Nat}(hm:2 ^ 30≤m){l:List ab}{S pl:List Int}(ok:kM l)(hS:∀s∈S,0≤s∧s<l.length)(OA:S.length≤8000)(Ae:pl.length=l.length):∀(f i:Nat),S.length - i<f→i≤S.length→
  ∃x,aj.l1 m l S pl f ((S.take i).map fun s=>pm pl (nd l s)) (i:Int)=some (S.map fun s=>pm pl (nd l s),x)
 | 0,i,hf,_=>absurd hf (by omega)
 | f+1,i,hf,hi=>by
  have ni:(2:Nat) ^ 30=1073741824:=by decide
  unfold aj.l1
  by_cases h:i<S.length
  ·obtain⟨s0,s1⟩:=hS _ (aJ h)
   obtain⟨n1,n2⟩:=ok.2 _ (fl s0 s1)
   obtain⟨x,q1⟩:=CI (m:=m) (pl:=pl) (n:=nd l (gt S i)) n1 (fun a ha=>by have:=n2 a ha; omega) m 0 (by omega) (by omega)
   have q1:aj.l2 m pl (nd l (gt S i)) m [] 0=_:=q1
   have hT:S.take (i+1)=S.take i++[gt S i]:=by rw [Yx,bh h]; rfl
   have ly:app 56 ((S.take i).map fun s=>pm pl (nd l s)) [ab.mk (nd l (gt S i)).kind (nd l (gt S i)).int (nd l (gt S i)).label ((nd l (gt S i)).args.map fun a=>gt pl a.toNat)]=some ((S.take (i+1)).map fun s=>pm pl (nd l s)):=by
    unfold app; rw [if_pos (by simp; omega),hT,XW]; rfl
   obtain⟨x,ih⟩:=CK hm ok hS OA Ae f (i+1) (by omega) (by omega)
   rw [if_pos (by simp only [decide_eq_true_eq]; omega),cj h,Xr,gW s0 s1,Xr,q1,Xr]
   dsimp only
   rw [ly,Xr,aD (by omega) (by omega),show (i:Int)+1=((i+1:Nat):Int) by omega]
   exact⟨x,ih⟩
  ·have e:i=S.length:=by omega
   subst e
   exact⟨_,by rw [if_neg (by simp),YA]⟩
theorem CL {m:Nat}{P:List ab}{c:List Int}(hc:c.length=P.length){i:Nat}(hi:i<P.length)(h8:(nd P i).args.length≤8)(ha:∀a∈(nd P i).args,0≤a∧a<P.length):∀(f k:Nat),(nd P i).args.length - k<f→k≤(nd P i).args.length→
  ∃x,aj.l4 m c (i:Int) f (P.set i ⟨(nd P i).kind,(nd P i).int,(nd P i).label,(((nd P i).args.take k).map fun a=>gt c a.toNat)++(nd P i).args.drop k⟩) (k:Int)=some (P.set i (pm c (nd P i)),x)
 | 0,k,hf,_=>absurd hf (by omega)
 | f+1,k,hf,hk=>by
  unfold aj.l4
  have nc:∀w,ix (P.set i w) (i:Int)=some w:=fun w=>by
   rw [gW (by omega) (by simpa using hi),Bk hi,if_pos rfl]
  have hlen:((((nd P i).args.take k).map fun a=>gt c a.toNat)++(nd P i).args.drop k).length=(nd P i).args.length:=by simp; omega
  rw [nc,Xr]
  by_cases h:k<(nd P i).args.length
  ·have hg:gt ((((nd P i).args.take k).map fun a=>gt c a.toNat)++(nd P i).args.drop k) k=gt (nd P i).args k:=by
    unfold gt
    rw [XM,XM,XO (by simp; omega)]
    simp only [XI,YI,List.getElem?_drop]
    congr 2; omega
   obtain⟨a0,a1⟩:=ha _ (aJ h)
   have hx:ix ((((nd P i).args.take k).map fun a=>gt c a.toNat)++(nd P i).args.drop k) (k:Int)=some (gt (nd P i).args k):=by rw [cj (by omega),hg]
   have hy:ix c (gt (nd P i).args k)=some (gt c (gt (nd P i).args k).toNat):=fU (by omega) (by omega)
   have Al:((((nd P i).args.take k).map fun a=>gt c a.toNat)++(nd P i).args.drop k).set k (gt c (gt (nd P i).args k).toNat)=(((nd P i).args.take (k+1)).map fun a=>gt c a.toNat)++(nd P i).args.drop (k+1):=by
    have hT:(nd P i).args.take (k+1)=(nd P i).args.take k++[gt (nd P i).args k]:=by rw [Yx,bh h]; rfl
    have hD:(nd P i).args.drop k=gt (nd P i).args k::(nd P i).args.drop (k+1):=by
     obtain⟨h4,h5⟩:=XA.1 (bh h)
     rw [←h5]; exact XG h4
    have LY:(((nd P i).args.take k).map fun a=>gt c a.toNat).length=k:=by simp; omega
    rw [YW _ _ (by omega),LY,Y0,hD,List.set_cons_zero,hT,XW,XF]
    rfl
   rw [if_pos (by simp only [decide_eq_true_eq]; omega),Xr,Xr]
   dsimp only
   rw [hx,Xr,hy,Xr,Xr,Xy,Xy,List.set_set,Al,aD (by omega) (by omega),show (k:Int)+1=((k+1:Nat):Int) by omega]
   exact CL hc hi h8 ha f (k+1) (by omega) (by omega)
  ·have e:k=(nd P i).args.length:=by omega
   subst e
   refine⟨((nd P i).args.length:Int),?_⟩
   rw [if_neg (by simp only [decide_eq_true_eq]; omega),YA,List.drop_length,Yr]
   rfl
theorem CM {m:Nat}(hm:2 ^ 30≤m){P:List ab}{c:List Int}(ok:kM P)(hc:c.length=P.length):∀(f i:Nat) (Q:List ab),P.length - i<f→i≤P.length→Q.length=P.length→(∀q,q<P.length→nd Q q=if q<i then pm c (nd P q) else nd P q)→
  ∃x,aj.l3 m c f Q (i:Int)=some (P.map (pm c),x)
 | 0,i,Q,hf,_,_,_=>absurd hf (by omega)
 | f+1,i,Q,hf,hi,hl,hq=>by
  have ni:(2:Nat) ^ 30=1073741824:=by decide
  have h8:=ok.1
  unfold aj.l3
  by_cases h:i<P.length
  ·obtain⟨n1,n2⟩:=y4 ok h
   have Pm:nd Q i=nd P i:=by rw [hq i h,if_neg (by omega)]
   obtain⟨x,q1⟩:=CL (m:=m) (P:=Q) (c:=c) (by omega) (i:=i) (by omega) (by rw [Pm]; exact n1) (by rw [Pm,hl]; exact n2) m 0 (by rw [Pm]; omega) (by omega)
   have nc:Q.set i ⟨(nd Q i).kind,(nd Q i).int,(nd Q i).label,(((nd Q i).args.take 0).map fun a=>gt c a.toNat)++(nd Q i).args.drop 0⟩=Q:=by
    refine Hb (by simp) fun k hk=>?_
    rw [Bk (by omega)]
    by_cases e:k=i
    ·subst e; rw [if_pos rfl]; simp
    ·rw [if_neg e]
   rw [nc] at q1
   have q1:aj.l4 m c (i:Int) m Q 0=_:=q1
   rw [if_pos (by simp only [decide_eq_true_eq]; omega),q1,Xr]
   dsimp only
   rw [aD (by omega) (by omega),show (i:Int)+1=((i+1:Nat):Int) by omega]
   refine CM hm ok hc f (i+1) _ (by omega) (by omega) (by simpa using hl) fun q V6=>?_
   rw [Bk (by omega)]
   by_cases e:q=i
   ·subst e; rw [if_pos rfl,if_pos (by omega),Pm]
   ·rw [if_neg e,hq q V6]
    by_cases hlt:q<i
    ·rw [if_pos hlt,if_pos (by omega)]
    ·rw [if_neg hlt,if_neg (by omega)]
  ·have e:i=P.length:=by omega
   subst e
   refine⟨(P.length:Int),?_⟩
   rw [if_neg (by simp only [decide_eq_true_eq]; omega)]
   have:Q=P.map (pm c):=Hb (by simpa using hl) fun k hk=>by rw [hq k (by omega),if_pos (by omega),Ha (by omega)]
   rw [this]
theorem Hd {m:Nat}(hm:2 ^ 30≤m){P:List ab}{T pl:List Int}(ok:kM P)(hT:∀t∈T,0≤t∧t<P.length)(V7:T.length≤8000)(Ae:P.length≤pl.length):∀(f i:Nat),T.length - i<f→i≤T.length→
  ∃x,aj.l6 m P T pl f (i:Int) ((T.take i).map fun t=>pm pl (nd P t)) 0=some (x,T.map fun t=>pm pl (nd P t),0)
 | 0,i,hf,_=>absurd hf (by omega)
 | f+1,i,hf,hi=>by
  have ni:(2:Nat) ^ 30=1073741824:=by decide
  unfold aj.l6
  by_cases h:i<T.length
  ·obtain⟨s0,s1⟩:=hT _ (aJ h)
   obtain⟨n1,n2⟩:=ok.2 _ (fl s0 s1)
   obtain⟨x,q1⟩:=CJ (m:=m) (pl:=pl) (n:=nd P (gt T i)) n1 (fun a ha=>by have:=n2 a ha; omega) m 0 (by omega) (by omega)
   have q1:aj.l7 m pl (nd P (gt T i)) m [] 0=_:=q1
   have V8:T.take (i+1)=T.take i++[gt T i]:=by rw [Yx,bh h]; rfl
   have ly:app 56 ((T.take i).map fun t=>pm pl (nd P t)) [ab.mk (nd P (gt T i)).kind (nd P (gt T i)).int (nd P (gt T i)).label ((nd P (gt T i)).args.map fun a=>gt pl a.toNat)]=some ((T.take (i+1)).map fun t=>pm pl (nd P t)):=by
    unfold app; rw [if_pos (by simp; omega),V8,XW]; rfl
   obtain⟨x,ih⟩:=Hd hm ok hT V7 Ae f (i+1) (by omega) (by omega)
   rw [if_pos (by simp only [decide_eq_true_eq]; omega),cj h,Xr,gW s0 s1,Xr,q1,Xr]
   dsimp only
   rw [ly,Xr,aD (by omega) (by omega),show (i:Int)+1=((i+1:Nat):Int) by omega]
   exact⟨x,ih⟩
  ·have e:i=T.length:=by omega
   subst e
   exact⟨_,by rw [if_neg (by simp),YA]⟩
end Go.Proofs.YtmekcfdllhphlaaDoor
namespace Go.Proofs.YtmekcfdllhphlaaDoor
open Go Go.R
open Go.IntKind (i64 u64 u8 u32)
inductive Way (l:List ab):Nat→Nat→Prop
 | one {i k:Nat}:k<na l i→Way l i (ar l i k)
 | more {i j k:Nat}:Way l i j→k<na l j→Way l i (ar l j k)
theorem IU {l:List ab}{c od:List Int}(ok:kM l)(M:LJ l c od){i j:Nat}(w:Way l i j)(hi:i<l.length):j<l.length∧∀x:Nat,x<l.length→(x:Int)∈od→gt c x=gt c i→∃y:Nat,y<l.length∧gt c y=gt c j∧(y:Int)∈od∧od.idxOf (y:Int)<od.idxOf (x:Int):=by
 induction w with
 | @one k hk=>
  refine⟨(j9 ok hi hk).1,fun x hx OB e=>?_⟩
  have hA:=M.min.top i x hi hx e.symm
  have Uk:k<na l x:=by have:=hA.len; unfold na at *; omega
  obtain⟨r1,r2⟩:=M.uW x OB k Uk
  exact⟨ar l x k,(j9 ok hx Uk).1,(M.min.arg i x hi hx e.symm k hk).symm,r1,r2⟩
 | @more j k w hk ih=>
  obtain⟨hj,ih⟩:=ih
  refine⟨(j9 ok hj hk).1,fun x hx OB e=>?_⟩
  obtain⟨y,hy,ey,RW,hlt⟩:=ih x hx OB e
  have hA:=M.min.top j y hj hy ey.symm
  have Ul:k<na l y:=by have:=hA.len; unfold na at *; omega
  obtain⟨r1,r2⟩:=M.uW y RW k Ul
  exact⟨ar l y k,(j9 ok hy Ul).1,(M.min.arg j y hj hy ey.symm k hk).symm,r1,by omega⟩
theorem Bl {l:List ab}{c od:List Int}(ok:kM l)(M:LJ l c od)(h0:0<l.length)(hw:∀j,0<j→j<l.length→Way l 0 j):gt c 0=0:=by
 obtain⟨r1,r2,r3⟩:=M.pF 0 h0
 by_cases Um:((0:Nat):Int)∈od
 ·by_cases hz:gt c 0=0
  ·exact hz
  ·exfalso
   have w:=hw (gt c 0).toNat (by omega) (by omega)
   have key:∀N x:Nat,od.idxOf (x:Int)<N→x<l.length→(x:Int)∈od→gt c x=gt c 0→False:=by
    intro N
    induction N with
    | zero=>intro x h; omega
    | succ N ih=>
     intro x hN hx OB e
     obtain⟨y,hy,ey,RW,hlt⟩:=(IU ok M w h0).2 x hx OB e
     exact ih y (by omega) hy RW (by rw [ey,r3])
   exact key _ 0 (Yd _) h0 Um rfl
 ·have:=M.V5 0 h0 Um
  omega
theorem lock {l P5:List ab}{κ1:Int→Int}{K2:Int→Int}{Can:Int→Prop}(RX:∀v w,Can v→Can w→K2 v=K2 w→v=w)
  (hargs:∀a v:Int,0≤a→a<l.length→Can v→κ1 a=K2 v→(nd l a).args.map κ1=(nd P5 v).args.map K2) (RY:∀v,Can v→∀a∈(nd P5 v).args,Can a) (ok:kM l) {IN o2 HD:List Int}
  (h:uh id (fun v=>(nd P5 v).args) IN o2 HD):∀uE o1:List Int,uE.map κ1=IN.map K2→o1.map κ1=o2.map K2→(∀b∈IN,Can b)→(∀b∈o2,Can b)→(∀a∈uE,0≤a∧a<l.length)→
  ∃Mn,uh κ1 (fun v=>(nd l v).args) uE o1 Mn∧Mn.map κ1=HD.map K2:=by
 induction h with
 | nil o=>
  intro uE o1 hs ho _ _ _
  have:uE=[]:=by simpa using hs
  subst this
  exact⟨o1,.nil o1,ho⟩
 | @skip v st o o' hm _ ih=>
  intro uE o1 hs ho c1 c2 hr
  cases uE with
  | nil=>simp at hs
  | cons a uE=>
   simp only [XN,List.cons.injEq] at hs
   obtain⟨Mn,k1,k2⟩:=ih uE o1 hs.2 ho (fun b hb=>c1 b (by simp [hb])) c2 (fun x hx=>hr x (by simp [hx]))
   refine⟨Mn,.skip ?_ k1,k2⟩
   rw [hs.1,ho]
   exact XQ.2 ⟨v,by simpa using hm,rfl⟩
 | @push v st o o' hn _ ih=>
  intro uE o1 hs ho c1 c2 hr
  cases uE with
  | nil=>simp at hs
  | cons a uE=>
   simp only [XN,List.cons.injEq] at hs
   have hv:=c1 v (by simp)
   have ha:=hr a (by simp)
   have e:=hargs a v ha.1 ha.2 hv hs.1
   obtain⟨Mn,k1,k2⟩:=ih ((nd l a).args++uE) (o1++[a]) (by rw [XW,XW,e,hs.2]) (by rw [XW,XW,ho]; simp [hs.1]) (fun b hb=>by
    rcases XH.1 hb with hb | hb
    ·exact RY v hv b hb
    ·exact c1 b (by simp [hb])) (fun b hb=>by
    rcases XH.1 hb with hb | hb
    ·exact c2 b hb
    ·rw [XE] at hb; subst hb; exact hv) (fun x hx=>by
    rcases XH.1 hx with hx | hx
    ·exact (ok.2 _ (fl ha.1 ha.2)).2 x hx
    ·exact hr x (by simp [hx]))
   refine⟨Mn,.push ?_ k1,k2⟩
   rw [hs.1,ho]
   intro hm
   obtain⟨w,w1,w2⟩:=XQ.1 hm
   have:=RX v w hv (c2 w w1) w2.symm
   subst this
   exact hn (by simpa using w1)
theorem He {m:Nat}(hm:2 ^ 41≤m){t:ak}(h:ej t=true):∃s,cy.f m t=some s∧aj.f m t.nodes t.root=some s:=by
 have ni:(2:Nat) ^ 30=1073741824:=by decide
 have rE:(2:Nat) ^ 41=2199023255552:=by decide
 have D7:2 ^ 30≤m:=by omega
 obtain⟨ok,h1,r0,r1,hT⟩:=iZ h
 obtain⟨r,ns,e1,M,Q,_⟩:=lk hm h
 have h8:=ok.1
 generalize hl:t.nodes=l at *
 have RZ:uh (dW r) (fun v=>(nd l v).args) [t.root] [] (ri r l m t.root []):=pn ok m t.root [] [] _ r0 r1 ⟨by simp,fun x hx=>by cases hx⟩ (by simp; omega) (.nil _)
 obtain⟨S,s1,s2⟩:=pq D7 ok r0 r1
 have hA:∀v:Int,0≤v→v<l.length→∀a∈(nd l v).args,0≤a∧a<l.length:=fun v a b=>(ok.2 _ (fl a b)).2
 obtain⟨_,Sr,Sn,_,Sc⟩:=s2.facts hA (fun v hv=>by rw [XE] at hv; subst hv; exact⟨r0,r1⟩) (fun v hv=>by cases hv) (by simp)
 rw [List.map_id] at Sn
 have Sc:∀v∈S,∀a∈(nd l v).args,a∈S:=fun v hv a ha=>by have:=Sc (fun v hv=>by cases hv) v hv a ha; simpa using this
 have S0:∃T,S=t.root::T:=by
  cases s2 with
  | skip vg _=>simp at vg
  | push _ k=>
   obtain⟨⟨T,e⟩,_⟩:=k.facts hA (fun v hv=>by
    rcases XH.1 hv with hv | hv
    ·exact hA _ r0 r1 v hv
    ·cases hv) (fun v hv=>by simp at hv; subst hv; exact⟨r0,r1⟩) (by simp)
   exact⟨T,by simpa using e⟩
 have Sl:S.length≤l.length:=po Sn Sr
 have Sp:0<S.length:=by obtain⟨T,rfl⟩:=S0; simp
 have JH:gt S 0=t.root:=by obtain⟨T,rfl⟩:=S0; rfl
 have OC:=s2.from (root:=t.root) (fun v hv=>by rw [XE] at hv; exact .inl hv) (fun i hi=>absurd hi (by simp))
 have e0:sj 8 (l.length:Int) (0:Int)=some (XK l.length 0):=by unfold sj; rw [if_pos ⟨by omega,by rw [Xy]; omega⟩,Xy]
 obtain⟨pl,x1,p1,p2,p3⟩:=zy (m:=m) Sn (by omega) m 0 (XK l.length 0) (by omega) (by omega) (by simpa using Sr) (fun q hq=>absurd hq (by omega))
 rw [YX] at p2
 have p1:aj.l0 m S m (XK l.length 0) 0=_:=p1
 obtain⟨x2,p4⟩:=CK D7 ok Sr (by omega) p2 m 0 (by omega) (by omega)
 have p4:aj.l1 m l S pl m [] 0=_:=p4
 generalize R0:(S.map fun s=>pm pl (nd l s))=P1 at p4
 have Pn:P1.length=S.length:=by rw [←R0]; simp
 have JI:∀i:Nat,i<S.length→nd P1 i=pm pl (nd l (gt S i)):=fun i hi=>by rw [←R0,IT hi]
 have Po:∀{x:Int},x∈S→gt S (gt pl x.toNat).toNat=x∧0≤gt pl x.toNat∧gt pl x.toNat<S.length:=fun hx=>by
  obtain⟨q,hq,e⟩:=eL hx
  have:=p3 q hq
  rw [e] at this
  rw [this,Xy]; exact⟨e,by omega,by omega⟩
 have R5:∀i:Nat,i<S.length→∀a∈(nd l (gt S i)).args,a∈S:=fun i hi=>Sc _ (aJ hi)
 have Ej:kM P1:=by
  refine⟨by omega,fun n hn=>?_⟩
  rw [←R0] at hn
  obtain⟨s,hs,rfl⟩:=XQ.1 hn
  have hr:=Sr s hs
  refine⟨by simpa [pm] using (ok.2 _ (fl hr.1 hr.2)).1,fun a ha=>?_⟩
  obtain⟨x,hx,rfl⟩:=XQ.1 ha
  have:=Po (Sc s hs x hx)
  rw [Pn]; exact this.2
 obtain⟨c,od,c1,C⟩:=zx D7 Ej
 have cl:c.length=P1.length:=C.min.len
 have R6:∀i:Nat,i<S.length→na P1 i=na l (gt S i).toNat:=fun i hi=>by
  have:=Sr _ (aJ hi)
  unfold na
  rw [JI i hi]
  show ((nd l (gt S i)).args.map _).length=_
  rw [XI,show (((gt S i).toNat:Nat):Int)=gt S i by omega]
 have OD:∀i:Nat,i<S.length→∀k,k<na P1 i→gt S (ar P1 i k)=gt (nd l (gt S i)).args k:=fun i hi k hk=>by
  have pP:k<(nd l (gt S i)).args.length:=by
   have:=hk; unfold na at this; rw [JI i hi] at this; simpa [pm] using this
  have hx:=R5 i hi _ (aJ pP)
  have:gt (nd P1 i).args k=gt pl (gt (nd l (gt S i)).args k).toNat:=by
   rw [JI i hi]
   have h1:=bh (l:=(pm pl (nd l (gt S i))).args) (k:=k) (by simpa [pm] using pP)
   have h2:(pm pl (nd l (gt S i))).args[k]? = some (gt pl (gt (nd l (gt S i)).args k).toNat):=by
    show ((nd l (gt S i)).args.map _)[k]? = _
    rw [XZ,bh pP]; rfl
   rw [h2] at h1; exact (XP h1).symm
  unfold ar
  rw [this]
  exact (Po hx).1
 have V9:∀j,0<j→j<P1.length→Way P1 0 j:=by
  have:∀N j,j<N→0<j→j<P1.length→Way P1 0 j:=by
   intro N
   induction N with
   | zero=>intro j h; omega
   | succ N ih=>
    intro j hN hj Xm
    rcases OC j (by omega) with e | ⟨q,hq,vg⟩
    ·have:=tP Sn (by omega) Sp (e.trans JH.symm)
     omega
    ·obtain⟨k,hk,e⟩:=eL vg
     have EC:k<na P1 q:=by unfold na; rw [JI q (by omega)]; simpa [pm] using hk
     have h2:=OD q (by omega) k EC
     rw [e] at h2
     have h3:=(j9 Ej (i:=q) (by omega) EC).1
     have e4:ar P1 q k=j:=tP Sn (by omega) (by omega) h2
     rw [←e4]
     by_cases Wa:q=0
     ·subst Wa; exact .one EC
     ·exact .more (ih q (by omega) (by omega) (by omega)) EC
  exact fun j=>this (j+1) j (Yd _)
 have Wb:gt c 0=0:=Bl Ej C (by omega) V9
 have zA:∀i:Nat,i<S.length→(((gt S i).toNat:Nat):Int)=gt S i∧(gt S i).toNat<l.length:=fun i hi=>by have:=Sr _ (aJ hi); omega
 have Un:∀i j:Nat,i<S.length→j<S.length→(Alike (nd P1 i) (nd P1 j)↔Alike (nd l (gt S i)) (nd l (gt S j))):=fun i j hi hj=>by
  rw [JI i hi,JI j hj]
  constructor
  ·intro z; exact⟨z.kind,z.int,z.label,by have:=z.len; simpa [pm] using this⟩
  ·intro z; exact⟨z.kind,z.int,z.label,by have:=z.len; simpa [pm] using this⟩
 have cr:∀i j:Nat,i<S.length→j<S.length→(gt c i=gt c j↔gt r (gt S i).toNat=gt r (gt S j).toNat):=fun i j hi hj=>by
  constructor
  ·intro e
   refine M.max (fun a b=>∃i j:Nat,i<S.length∧j<S.length∧a=(gt S i).toNat∧b=(gt S j).toNat∧gt c i=gt c j) ⟨?_,?_,?_⟩ _ _ ⟨i,j,hi,hj,rfl,rfl,e⟩
   ·rintro a b ⟨i,j,hi,hj,rfl,rfl,_⟩
    exact⟨(zA i hi).2,(zA j hj).2⟩
   ·rintro a b ⟨i,j,hi,hj,rfl,rfl,e⟩
    rw [(zA i hi).1,(zA j hj).1]
    exact (Un i j hi hj).1 (C.min.top i j (by omega) (by omega) e)
   ·rintro a b ⟨i,j,hi,hj,rfl,rfl,e⟩ k hk
    rw [(zA i hi).1] at hk ⊢
    rw [(zA j hj).1]
    have sd:k<na P1 i:=by rw [R6 i hi]; unfold na; rw [(zA i hi).1]; exact hk
    have Mc:k<na P1 j:=by have:=(C.min.top i j (by omega) (by omega) e).len; unfold na at *; omega
    have a1:=(j9 Ej (i:=i) (by omega) sd).1
    have a2:=(j9 Ej (i:=j) (by omega) Mc).1
    refine⟨ar P1 i k,ar P1 j k,by omega,by omega,?_,?_,C.min.arg i j (by omega) (by omega) e k sd⟩
    ·rw [OD i hi k sd]
    ·rw [OD j hj k Mc]
  ·intro e
   refine C.min.max (fun a b=>a<S.length∧b<S.length∧gt r (gt S a).toNat=gt r (gt S b).toNat) ⟨?_,?_,?_⟩ i j ⟨hi,hj,e⟩
   ·rintro a b ⟨h1,h2,_⟩; omega
   ·rintro a b ⟨h1,h2,e⟩
    refine (Un a b h1 h2).2 ?_
    have:=M.top _ _ (zA a h1).2 (zA b h2).2 e
    rwa [(zA a h1).1,(zA b h2).1] at this
   ·rintro a b ⟨h1,h2,e⟩ k hk
    have hA:=M.top _ _ (zA a h1).2 (zA b h2).2 e
    have Ie:k<na P1 a:=hk
    have HJ:k<(nd l (((gt S a).toNat:Nat):Int)).args.length:=by have:=R6 a h1; unfold na at this Ie; omega
    have hkb:k<na P1 b:=by rw [R6 b h2]; have:=hA.len; unfold na; omega
    have g:=M.arg _ _ (zA a h1).2 (zA b h2).2 e k HJ
    rw [(zA a h1).1,(zA b h2).1] at g
    have a1:=(j9 Ej (i:=a) (by omega) Ie).1
    have a2:=(j9 Ej (i:=b) (by omega) hkb).1
    refine⟨by show ar P1 a k<_; omega,by show ar P1 b k<_; omega,?_⟩
    show gt r (gt S (ar P1 a k)).toNat=gt r (gt S (ar P1 b k)).toNat
    rw [OD a h1 k Ie,OD b h2 k hkb]; exact g
 obtain⟨x3,p5⟩:=CM D7 Ej cl m 0 P1 (by omega) (by omega) rfl (fun q hq=>by rw [if_neg (by omega)])
 have p5:aj.l3 m c m P1 0=_:=p5
 have Uo:∀i:Nat,i<S.length→nd (P1.map (pm c)) i=pm c (nd P1 i):=fun i hi=>Ha (by omega)
 have LL:∀i:Nat,i<S.length→0≤gt c i∧gt c i<S.length∧gt c (gt c i).toNat=gt c i:=fun i hi=>by have:=C.pF i (by omega); rw [Pn] at this; exact this
 have R7:kM (P1.map (pm c)):=by
  refine⟨by simp; omega,fun n hn=>?_⟩
  obtain⟨n1,J3,rfl⟩:=XQ.1 hn
  obtain⟨q1,q2⟩:=Ej.2 n1 J3
  refine⟨by simpa [pm] using q1,fun a ha=>?_⟩
  obtain⟨x,hx,rfl⟩:=XQ.1 ha
  have:=q2 x hx
  have:=LL x.toNat (by omega)
  rw [XI,Pn]; omega
 obtain⟨T,t1,t2⟩:=pq D7 R7 (root:=0) (by omega) (by simp; omega)
 generalize Wc:P1.map (pm c)=P5 at *
 have Xn:P5.length=S.length:=by rw [←Wc]; simp [Pn]
 have Wd:∀v:Int,0≤v→v<P5.length→∀a∈(nd P5 v).args,0≤a∧a<P5.length:=fun v a b=>(R7.2 _ (fl a b)).2
 obtain⟨_,Tr,Tn,_,Tc⟩:=t2.facts Wd (fun v hv=>by rw [XE] at hv; subst hv; omega) (fun v hv=>by cases hv) (by simp)
 rw [List.map_id] at Tn
 have Tc:∀v∈T,∀a∈(nd P5 v).args,a∈T:=fun v hv a ha=>by have:=Tc (fun v hv=>by cases hv) v hv a ha; simpa using this
 have Tl:T.length≤P5.length:=po Tn Tr
 obtain⟨R8,x4,p6,p7,p8⟩:=zz (m:=m) Tn (by omega) m 0 pl (by omega) (by omega) (fun s hs=>by have:=Tr s hs; omega) (fun q hq=>absurd hq (by omega))
 have p6:aj.l5 m T m pl 0=_:=p6
 obtain⟨x5,p9⟩:=Hd (m:=m) D7 R7 Tr (by omega) (pl:=R8) (by omega) m 0 (by omega) (by omega)
 have p9:aj.l6 m P5 T R8 m 0 [] 0=_:=p9
 let K2:Int→Int:=fun b=>dW r (gt S b.toNat)
 let Can:Int→Prop:=fun b=>0≤b∧b<S.length∧gt c b.toNat=b
 have Up:∀x:Int,x∈S→K2 (gt c (gt pl x.toNat).toNat)=dW r x:=fun x hx=>by
  obtain⟨i1,i2,i3⟩:=Po hx
  obtain⟨g1,g2,g3⟩:=LL (gt pl x.toNat).toNat (by omega)
  show dW r (gt S (gt c (gt pl x.toNat).toNat).toNat)=_
  have:=(cr (gt c (gt pl x.toNat).toNat).toNat (gt pl x.toNat).toNat (by omega) (by omega)).1 g3
  unfold dW
  rw [this,i1]
 have CN:∀v:Int,0≤v→v<S.length→(nd P5 v).args=(nd l (gt S v.toNat)).args.map fun x=>gt c (gt pl x.toNat).toNat:=fun v v0 v1=>by
  have:=Uo v.toNat (by omega)
  rw [show ((v.toNat:Nat):Int)=v by omega] at this
  rw [this]
  have h2:=JI v.toNat (by omega)
  rw [show ((v.toNat:Nat):Int)=v by omega] at h2
  rw [h2]
  show ((nd l (gt S v.toNat)).args.map _).map _=_
  rw [List.map_map]; rfl
 have same:∀a b:Int,0≤a→a<l.length→0≤b→b<l.length→dW r a=dW r b→Alike (nd l a) (nd l b)∧(nd l a).args.map (dW r)=(nd l b).args.map (dW r):=fun a b a0 a1 b0 b1 e=>by
  have ea:((a.toNat:Nat):Int)=a:=by omega
  have eb:((b.toNat:Nat):Int)=b:=by omega
  have e:gt r a.toNat=gt r b.toNat:=e
  have hA:=M.top a.toNat b.toNat (by omega) (by omega) e
  have hg:=M.arg a.toNat b.toNat (by omega) (by omega) e
  rw [ea,eb] at hA hg
  refine⟨hA,Yh fun k=>?_⟩
  simp only [XZ]
  by_cases hk:k<(nd l a).args.length
  ·rw [bh hk,bh (by have:=hA.len; omega)]
   simp only [Xx,Xu]
   exact hg k hk
  ·rw [XL (by omega),XL (by have:=hA.len; omega)]
 obtain⟨o1,q1,q2⟩:=lock (l:=l) (P5:=P5) (κ1:=dW r) (K2:=K2) (Can:=Can) (fun v w hv hw e=>by
   have:=(cr v.toNat w.toNat (by have:=hv.1; have:=hv.2.1; omega) (by have:=hw.1; have:=hw.2.1; omega)).2 e
   rw [hv.2.2,hw.2.2] at this; exact this) (fun a v a0 a1 hv e=>by
   have hS:=aJ (l:=S) (k:=v.toNat) (by have:=hv.1; have:=hv.2.1; omega)
   have hr:=Sr _ hS
   rw [(same a _ a0 a1 hr.1 hr.2 e).2,CN v hv.1 hv.2.1,List.map_map]
   refine Yy fun x hx=>?_
   exact (Up x (Sc _ hS x hx)).symm) (fun v hv a ha=>by
   rw [CN v hv.1 hv.2.1] at ha
   obtain⟨x,hx,rfl⟩:=XQ.1 ha
   have hS:=aJ (l:=S) (k:=v.toNat) (by have:=hv.1; have:=hv.2.1; omega)
   have:=Po (Sc _ hS x hx)
   exact LL (gt pl x.toNat).toNat (by omega)) ok t2 [t.root] [] (by
   show [dW r t.root]=[dW r (gt S 0)]; rw [JH]) rfl (fun b hb=>by
   rw [XE] at hb; subst hb
   exact⟨by omega,by omega,Wb⟩) (fun b hb=>by cases hb) (fun a ha=>by rw [XE] at ha; subst ha; exact⟨r0,r1⟩)
 have eo:=q1.T5 RZ
 rw [eo] at q2
 generalize hO:ri r l m t.root []=O at *
 have OT:O.length=T.length:=by have:=congrArg List.length q2; simpa using this
 have OK:∀k,k<T.length→dW r (gt O k)=K2 (gt T k):=fun k hk=>by
  have:=congrArg (fun z=>z[k]?) q2
  simp only [XZ] at this
  rw [bh (by omega),bh hk] at this
  simpa using this
 have We:ns=T.map fun v=>pm R8 (nd P5 v):=by
  have hlen:=Q.len
  apply Yh fun k=>?_
  by_cases hk:k<T.length
  ·rw [Q.new k (by simp) (by omega),XZ,bh hk]
   simp only [Xx,Xu]
   have hOr:=Q.vs.nj _ (aJ (l:=O) (k:=k) (by omega))
   have Uq:=Tr _ (aJ hk)
   have hS:=aJ (l:=S) (k:=(gt T k).toNat) (by omega)
   have Ur:=Sr _ hS
   obtain⟨hA,hM⟩:=same _ _ hOr.1 hOr.2 Ur.1 Ur.2 (OK k hk)
   have LM:(nd P5 (gt T k)).kind=(nd l (gt S (gt T k).toNat)).kind∧(nd P5 (gt T k)).int=(nd l (gt S (gt T k).toNat)).int∧(nd P5 (gt T k)).label=(nd l (gt S (gt T k).toNat)).label:=by
    have:=Uo (gt T k).toNat (by omega)
    rw [show (((gt T k).toNat:Nat):Int)=gt T k by omega] at this
    rw [this]
    have h2:=JI (gt T k).toNat (by omega)
    rw [show (((gt T k).toNat:Nat):Int)=gt T k by omega] at h2
    rw [h2]
    exact⟨rfl,rfl,rfl⟩
   unfold uT pm
   rw [hA.kind,hA.int,hA.label,LM.1,LM.2.1,LM.2.2]
   congr 1
   rw [CN _ Uq.1 (by omega),List.map_map]
   apply Yh fun j=>?_
   simp only [XZ]
   by_cases hj:j<(nd l (gt O k)).args.length
   ·have EM:j<(nd l (gt S (gt T k).toNat)).args.length:=by have:=hA.len; omega
    rw [bh hj,bh EM]
    simp only [Xx,Xu,Function.comp]
    have ex:dW r (gt (nd l (gt O k)).args j)=dW r (gt (nd l (gt S (gt T k).toNat)).args j):=by
     have:=congrArg (fun z=>z[j]?) hM
     simp only [XZ] at this
     rw [bh hj,bh EM] at this
     simpa using this
    have hin:gt c (gt pl (gt (nd l (gt S (gt T k).toNat)).args j).toNat).toNat∈T:=by
     refine Tc _ (aJ hk) _ ?_
     rw [CN _ Uq.1 (by omega)]
     exact XQ.2 ⟨_,aJ EM,rfl⟩
    obtain⟨q,hq,eq⟩:=eL hin
    have Us:=p8 q hq
    rw [eq] at Us
    rw [Us]
    unfold idx
    have AQ:=Q.vs.HB
    have hget:(O.map (dW r))[q]? = some (dW r (gt (nd l (gt O k)).args j)):=by
     rw [XZ,bh (by omega)]
     simp only [Xx,Xu]
     rw [OK q hq,eq,Up _ (Sc _ hS _ (aJ EM)),ex]
    obtain⟨g1,g2⟩:=XA.1 hget
    rw [←g2,AQ.idxOf_getElem]
   ·rw [XL (by omega),XL (by have:=hA.len; omega)]
    rfl
  ·rw [XL (by omega),XL (by simp; omega)]
 refine⟨⟨ns,0⟩,e1,?_⟩
 unfold aj.f
 rw [s1,Xr,e0,Xr,p1,Xr]
 dsimp only
 rw [p4,Xr]
 dsimp only
 rw [c1,Xr,p5,Xr]
 dsimp only
 rw [t1,Xr,p6,Xr]
 dsimp only
 rw [p9,Xr,We]
end Go.Proofs.YtmekcfdllhphlaaDoor
namespace Go.Proofs.YtmekcfdllhphlaaDoor
open Go Go.R
open Go.IntKind (i64 u64 u8 u32)
theorem uk {m:Nat}(hm:2 ^ 41≤m){t:ak}(h0:IF t):∃s e,dQ.f m t=some (s,e)∧eY.f m t=some (s,e)∧(e=0→rl s)∧(e=0↔ej t=true)∧(e≠0→e=2∧s=⟨[],0⟩):=by
 have ni:(2:Nat) ^ 30=1073741824:=by decide
 have rE:(2:Nat) ^ 41=2199023255552:=by decide
 unfold dQ.f eY.f
 rw [tL (by omega),zt (by omega),Xr,Xr]
 cases h:ej t with
 | false=>exact⟨_,_,rfl,rfl,fun h=>absurd h (by decide),by simp,fun _=>⟨rfl,rfl⟩⟩
 | true=>
  obtain⟨s,k1,k2⟩:=He hm h
  obtain⟨s',k3,L⟩:=vR hm h h0
  rw [k1] at k3
  cases k3
  rw [if_neg (by simp),if_neg (by simp),k1,k2]
  exact⟨_,_,rfl,rfl,fun _=>L,by simp,fun h=>absurd rfl h⟩
end Go.Proofs.YtmekcfdllhphlaaDoor
namespace Go.Proofs.YtmekcfdllhphlaaDoor
open Go Go.R
open Go.IntKind (i64 u64 u8 u32)
def lf (m:Nat)(t:ak):ak:=(cy.f m t).getD ⟨[],0⟩
structure Lf (m:Nat)(t:ak):Prop where
 eq:cy.f m t=some (lf m t)
 top:dQ.f m t=some (lf m t,0)
 ref:eY.f m t=some (lf m t,0)
 lt:rl (lf m t)
 val:ej (lf m t)=true
 len:(lf m t).nodes.length≤t.nodes.length
 Wf:IF (lf m t)
 idem:lf m (lf m t)=lf m t
theorem CO {m:Nat}(hm:2 ^ 41≤m){t:ak}(h:ej t=true)(h0:IF t):Lf m t:=by
 obtain⟨s,e1,v,l,e2⟩:=Bd hm h
 obtain⟨s',e',k1,k2,k3,k4,_⟩:=uk hm h0
 have hs:lf m t=s:=by unfold lf; rw [e1]; rfl
 have:=k4.2 h
 subst this
 obtain⟨s2,k5,L⟩:=vR hm h h0
 rw [e1] at k5
 cases k5
 have hv:dQ.f m t=some (s,0):=by
  have rE:(2:Nat) ^ 41=2199023255552:=by decide
  have ni:(2:Nat) ^ 30=1073741824:=by decide
  unfold dQ.f
  rw [tL (by omega),Xr,h,if_neg (by simp),e1]; rfl
 rw [hv] at k1
 cases k1
 have hi:lf m s=s:=by unfold lf; rw [e2]; rfl
 exact⟨by rw [hs]; exact e1,by rw [hs]; exact hv,by rw [hs]; exact k2,by rw [hs]; exact L,by rw [hs]; exact v,by rw [hs]; exact l,by rw [hs]; exact fun n hn=>(L.nodes n hn).2.1,by rw [hs]; exact hi⟩
structure Ins (m:Nat)(l:List ak):Prop where
 rj:l.length≤8
 val:∀t∈l,ej t=true∧IF t
 R9:∀t∈l,(lf m t).nodes.any (fun n=>n.kind==4)=false
 sum:(l.map fun t=>t.nodes.length).sum≤300
theorem Ins.lf {m:Nat}(hm:2 ^ 41≤m){l:List ak}(I:Ins m l){t:ak}(ht:t∈l):Lf m t:=CO hm (I.val t ht).1 (I.val t ht).2
theorem Hf {m:Nat}:∀{l:List ak},(∀t∈l,Lf m t)→((l.map (lf m)).map fun t=>t.nodes.length).sum≤(l.map fun t=>t.nodes.length).sum
 | [],_=>by simp
 | a::l,h=>by
  have h1:=(h a (by simp)).len
  have:=Hf (l:=l) fun t ht=>h t (by simp [ht])
  simp only [XN,List.sum_cons]
  omega
theorem Ins.least {m:Nat}(hm:2 ^ 41≤m){l:List ak}(I:Ins m l):Ins m (l.map (Go.Proofs.YtmekcfdllhphlaaDoor.lf m)):=by
 refine⟨by simpa using I.rj,fun t ht=>?_,fun t ht=>?_,X9 (Hf fun t ht=>I.lf hm ht) I.sum⟩
 ·obtain⟨u,hu,rfl⟩:=XQ.1 ht
  exact⟨(I.lf hm hu).val,(I.lf hm hu).Wf⟩
 ·obtain⟨u,hu,rfl⟩:=XQ.1 ht
  rw [(I.lf hm hu).idem]
  exact I.R9 u hu
theorem Ins.idem {m:Nat}(hm:2 ^ 41≤m){l:List ak}(I:Ins m l):(l.map (Go.Proofs.YtmekcfdllhphlaaDoor.lf m)).map (Go.Proofs.YtmekcfdllhphlaaDoor.lf m)=l.map (Go.Proofs.YtmekcfdllhphlaaDoor.lf m):=by
 rw [List.map_map]
 exact Yy fun t ht=>(I.lf hm ht).idem
def pk (m:Nat)(l:List ak):List Int:=cD (l.map (lf m))++(cz.f m (cD (l.map (lf m)))).getD []
theorem px:∀{l:List ak},(∀t∈l,rl t∧tX t)→(cC l).length≤10*l.length+200*(l.map fun t=>t.nodes.length).sum
 | [],_=>by simp [cC]
 | a::l,h=>by
  have h1:=h a (by simp)
  have:=px (l:=l) fun b hb=>h b (by simp [hb])
  have Q8:(2:Nat) ^ 64=18446744073709551616:=by decide
  have hf:=h1.1.rj
  have h3:=dP (n:=a.nodes.length) (by omega)
  have hn:∀l:List ab,(∀n∈l,tV n∧GH n)→(dS l).length≤200*l.length:=by
   intro l
   induction l with
   | nil=>intro _; simp [dS]
   | cons a l ih=>
    intro h
    have h1:=h a (by simp)
    have:=ih fun b hb=>h b (by simp [hb])
    have h2:=zg h1.1 h1.2
    rw [jb,XB,XR]; omega
  have h2:=hn a.nodes fun n hn=>⟨h1.2.nodes n hn,(h1.1.nodes n hn).1⟩
  rw [jc,XB,jA,XB,XR,XN,List.sum_cons]; omega
structure Pk (m:Nat)(l:List ak)(c:List Int):Prop where
 Ut:cz.f m (cD (l.map (lf m)))=some c
 eq:pk m l=cD (l.map (lf m))++c
 Xo:Bytes c
 len:c.length=4
 w:∀t∈l.map (lf m),rl t∧tX t
 size:(cC (l.map (lf m))).length≤60080
 JJ:(cD (l.map (lf m))).length≤60100∧3≤(cD (l.map (lf m))).length
theorem Ins.pk {m:Nat}(hm:2 ^ 41≤m){l:List ak}(I:Ins m l):∃c,Pk m l c:=by
 have rE:(2:Nat) ^ 41=2199023255552:=by decide
 have nT:(2:Nat) ^ 40=1099511627776:=by decide
 have Q8:(2:Nat) ^ 64=18446744073709551616:=by decide
 have hW:∀t∈l.map (Go.Proofs.YtmekcfdllhphlaaDoor.lf m),rl t∧tX t:=fun t ht=>by
  obtain⟨u,hu,rfl⟩:=XQ.1 ht
  have L:=(I.lf hm hu).lt
  exact⟨L,L.w (I.R9 u hu)⟩
 have h1:=px hW
 have h2:=(I.least hm).sum
 have h3:=I.rj
 have h4:(l.map (Go.Proofs.YtmekcfdllhphlaaDoor.lf m)).length=l.length:=XI _
 have Xp:=dP (n:=(l.map (Go.Proofs.YtmekcfdllhphlaaDoor.lf m)).length) (by omega)
 have hne:0<(dI (l.map (Go.Proofs.YtmekcfdllhphlaaDoor.lf m)).length).length:=List.length_pos_iff.2 (IA _)
 have I4:(cD (l.map (Go.Proofs.YtmekcfdllhphlaaDoor.lf m))).length≤60100∧3≤(cD (l.map (Go.Proofs.YtmekcfdllhphlaaDoor.lf m))).length:=by
  unfold cD
  simp only [XB,XR,Yk]; omega
 obtain⟨c,hc⟩:=DW (m:=m) (by omega) (b:=cD (l.map (Go.Proofs.YtmekcfdllhphlaaDoor.lf m))) (by omega) (by omega)
 exact⟨c,hc,by unfold Go.Proofs.YtmekcfdllhphlaaDoor.pk; rw [hc]; rfl,(tY hc).1,(tY hc).2,hW,by omega,I4⟩
theorem um {m:Nat}(hm:2 ^ 41≤m){L:List ak}(I:Ins m L):∀(f i:Nat) (acc:List ak),L.length - i<f→i≤L.length→acc.length≤i→
  ∃x,b8.l0 m L f acc (i:Int)=some (.inr (acc++(L.drop i).map (lf m),x))
 | 0,i,acc,hf,_,_=>absurd hf (by omega)
 | f+1,i,acc,hf,hi,ha=>by
  have h8:=I.rj
  unfold b8.l0
  by_cases h:i<L.length
  ·have hx:ix L (i:Int)=some L[i]:=by unfold ix; rw [if_pos (by omega)]; simp [h]
   have F:=I.lf hm (Yo h)
   have ly:app 32 acc [lf m L[i]]=some (acc++[lf m L[i]]):=by unfold app; rw [if_pos (by simp; omega)]
   obtain⟨x,ih⟩:=um hm I f (i+1) (acc++[lf m L[i]]) (by omega) (by omega) (by simp; omega)
   refine⟨x,?_⟩
   rw [if_pos (by simp only [decide_eq_true_eq]; omega),hx,Xr,F.top,Xr]
   dsimp only
   rw [if_neg (by simp),ly,Xr,aD (by omega) (by omega),show (i:Int)+1=((i+1:Nat):Int) by omega,ih,XG h,XN,XF]; rfl
  ·refine⟨(i:Int),?_⟩
   rw [if_neg (by simp only [decide_eq_true_eq]; omega),X3 (by omega),List.map_nil,Yr]
theorem CP {m:Nat}(hm:2 ^ 41≤m){L:List ak}(I:Ins m L):b8.f m L=some (pk m L,0):=by
 have ni:(2:Nat) ^ 30=1073741824:=by decide
 have rE:(2:Nat) ^ 41=2199023255552:=by decide
 have nT:(2:Nat) ^ 40=1099511627776:=by decide
 have NK:(2:Nat) ^ 42=4398046511104:=by decide
 have h8:=I.rj
 obtain⟨c,P⟩:=I.pk hm
 obtain⟨x,k1⟩:=um hm I m 0 [] (by omega) (by omega) (by simp)
 have k1:b8.l0 m L m [] 0=_:=k1
 rw [X2,X6] at k1
 have h4:(L.map (lf m)).length=L.length:=XI _
 have s1:=P.size
 have s2:=P.JJ
 have s3:=P.len
 have ly:app 1 (cD (L.map (lf m))) c=some (cD (L.map (lf m))++c):=by unfold app; rw [if_pos (by omega)]
 have sJ:((L.map (lf m)).any fun t=>t.nodes.any fun n=>n.kind==4)=false:=by
  rw [List.any_eq_false]
  intro t ht
  obtain⟨u,hu,rfl⟩:=XQ.1 ht
  rw [I.R9 u hu]; simp
 unfold b8.f
 rw [if_neg (by simp only [decide_eq_true_eq]; omega),k1,Xr]
 dsimp only
 rw [DL (g:=fun t=>t.nodes.any fun n=>n.kind==4) (by omega) (by omega) (fun t ht=>DV (by have:=(P.w t ht).1.rj; omega) (by have:=(P.w t ht).1.rj; omega)),Xr,sJ,if_neg (by simp),
  Od (by omega) (fun t ht=>(P.w t ht).2) (by omega) (by omega),P.Ut,Xr,ly,Xr,if_neg (by simp only [decide_eq_true_eq,XB]; omega),P.eq]
theorem IV {m:Nat}(x y:List Int):eU.f m x y=some ((eO x).data.toList==(eO y).data.toList):=rfl
theorem py {m:Nat}(x:List Int):eU.f m x x=some true:=by rw [IV]; simp
theorem Pk.idem {m:Nat}(hm:2 ^ 41≤m){l:List ak}(I:Ins m l):Go.Proofs.YtmekcfdllhphlaaDoor.pk m (l.map (lf m))=Go.Proofs.YtmekcfdllhphlaaDoor.pk m l:=by
 unfold Go.Proofs.YtmekcfdllhphlaaDoor.pk
 rw [I.idem hm]
theorem IW {m:Nat}(hm:2 ^ 41≤m){L:List ak}(I:Ins m L):bg.f m (pk m L)=some (L.map (lf m),0):=by
 have ni:(2:Nat) ^ 30=1073741824:=by decide
 have rE:(2:Nat) ^ 41=2199023255552:=by decide
 have HC:(2:Nat) ^ 63=9223372036854775808:=by decide
 obtain⟨c,P⟩:=I.pk hm
 have s1:=P.size
 have s2:=P.JJ
 have s3:=P.len
 have h8:=I.rj
 have h4:(L.map (lf m)).length=L.length:=XI _
 have hp:=CP hm (I.least hm)
 rw [Pk.idem hm I] at hp
 obtain⟨x,hx⟩:=GF (m:=m) (by omega) (((L.map (lf m)).length:Int),(⟨cC (L.map (lf m)),false⟩:fq)) [] (by simp; omega) (L.map (lf m)) m 0 [] (by omega) (by simp) rfl fun t ht=>(P.w t ht).2
 rw [Yr] at hx
 have hx:bg.l0 m (((L.map (lf m)).length:Int),(⟨cC (L.map (lf m)),false⟩:fq)) m [] 0 ⟨cC (L.map (lf m)),false⟩=_:=hx
 have hB:=P.eq
 generalize pk m L=B at *
 have Wg:B.length=(cD (L.map (lf m))).length+4:=by rw [hB,XB,s3]
 have e4:i64.wrap ((B.length:Int) - 4)=((cD (L.map (lf m))).length:Int):=by rw [aD (by omega) (by omega)]; omega
 have c1:pE B 0 ((cD (L.map (lf m))).length:Int)=some (cD (L.map (lf m))):=by
  rw [ui ⟨by omega,by omega,by omega⟩,hB]
  simp
 have c2:pE B ((cD (L.map (lf m))).length:Int) (B.length:Int)=some c:=by
  rw [ui ⟨by omega,by omega,by omega⟩,Wg,hB]
  simp
  exact X1 (by omega)
 have c3:pE B 2 ((cD (L.map (lf m))).length:Int)=some (dI (L.map (lf m)).length++cC (L.map (lf m))):=by
  rw [ui ⟨by omega,by omega,by omega⟩,hB]
  have e:(cD (L.map (lf m))++c).drop (2:Int).toNat=(dI (L.map (lf m)).length++cC (L.map (lf m)))++c:=rfl
  rw [e,show ((cD (L.map (lf m))).length:Int).toNat - (2:Int).toNat=(dI (L.map (lf m)).length++cC (L.map (lf m))).length by unfold cD; simp [XB]; omega,List.take_left]
 unfold bg.f
 rw [if_neg (by simp only [decide_eq_true_eq]; omega),if_neg (by simp only [decide_eq_true_eq]; omega),e4,c1,Xr,P.Ut,Xr,c2,Xr,py,Xr,if_neg (by simp),c3,Xr,
  AU (by omega) (by omega),Xr]
 dsimp only
 rw [hx,Xr]
 dsimp only
 rw [X2,if_neg (by simp),if_neg (by simp),hp,Xr]
 dsimp only
 rw [if_neg (by simp),py,Xr,if_neg (by simp)]
end Go.Proofs.YtmekcfdllhphlaaDoor
namespace Go.Proofs.YtmekcfdllhphlaaDoor
open Go Go.R
open Go.IntKind (i64 u64 u8 u32)
def vV:cg:=gK [0,2,3,4,5,8,12,24,32,58] [] [1022,990,1021,1018,1010,946,1010,1010,882,1021,994,738,994,482,1021,1021] [] []
def aQ.l1 (m:Nat)(l0:List ak)(i0:Int):Nat→Int→Option (Sum Bool (Int))
 | 0,_=>none
 | k+1,k0=>(ix l0 i0).bind fun v1=>if (decide (k0<(v1.nodes.length:Int)))=true then ((ix l0 i0).bind fun v2=>(ix v2.nodes k0).bind fun v3=>if (decide ((v3.args.length:Int) > (20:Int)))=true then (some (.inl true)) else ((ix l0 i0).bind fun v4=>(ix v4.nodes k0).bind fun v5=>if (decide ((v5.label.size:Int) > (40:Int)))=true then (some (.inl true)) else (aQ.l1 m l0 i0 k (i64.wrap (k0+(1:Int)))))) else (some (.inr k0))
def aQ.l0 (m:Nat)(l0:List ak):Nat→Int→Int→Option (Sum Bool (Int × Int))
 | 0,_,_=>none
 | k+1,n0,i0=>if (decide (i0<(l0.length:Int)))=true then ((ix l0 i0).bind fun v0=>if (decide ((i64.wrap (n0+(v0.nodes.length:Int))) > (300:Int)))=true then (some (.inl true)) else ((aQ.l1 m l0 i0 m (0:Int)).bind fun bj=>match bj with | .inl r0=>some (.inl r0) | .inr k1=>aQ.l0 m l0 k (i64.wrap (n0+(v0.nodes.length:Int))) (i64.wrap (i0+(1:Int))))) else (some (.inr (n0,i0)))
def aQ.f (m:Nat)(l0:List ak):Option (Bool):=if (decide ((l0.length:Int) > (12:Int)))=true then (some true) else ((aQ.l0 m l0 m (0:Int) (0:Int)).bind fun bJ=>match bJ with | .inl r1=>some r1 | .inr (n1,i1)=>some false)
def aQ.fin (L:Mem)(r:Bool)(s:St):Prop:=∃av,aH Tryd.prog (s.open vV) Tryd.f12.results.toList=some av∧fW s.h av (.bool r)
def Uu (cf:CallF)(m:Nat):Prop:=∀(l0:List ak) (r:Bool),aQ.f m l0=some r→∀h xs,eN fi h xs [aR.fz l0]→cf 12 xs h=some (.bool r,h)
section
variable {cf:CallF}{m:Nat}
theorem aQ.eQ (L:Mem)(l0:List ak)(n0:Int)(i0:Int)(v0:ak)   : bD Tryd.prog cf vV m (sub [1,1,1,0,1,0,0,1,0,0,1,1,1,0,0] (codeOf Tryd.f12)) (fun k (σ:Int)=>aQ.l1 m l0 i0 k σ) (fun σ s=>match σ with | k0=>∃h1,s=⟨aR.fz l0 :: .any :: .int .i64 (i64.wrap (n0+(v0.nodes.length:Int))) :: .int .i64 i0 :: .int .i64 k0::rB [],[],h1⟩∧Has h1 (L)) (fun out e s=>(e = .exit 2∧∃k0,.inr k0=out∧∃xp LF h1,s=⟨aR.fz l0 :: .any :: .int .i64 (i64.wrap (n0+(v0.nodes.length:Int))) :: .int .i64 i0::xp::jP [LF,.any],[],h1⟩∧Has h1 (L))∨(e = .ret∧∃r,.inl r=out∧aQ.fin L r s)):=by
 refine gG (fun _=>rfl) ?_
 rintro k k0 s out ⟨h1,rfl,o1⟩ H
 have H:aQ.l1 m l0 i0 (k+1) k0=some out:=H
 refine qq <| qq ?_
 obtain⟨v1,e1,H⟩:=aI H
 refine qr [.v 3 (bw (k:=.i64) (E:=aR) (l:=l0) DE e1),.v 5 (iA  (E:=aR) (l:=l0) (off:=0) h1 Nt e1 rfl)] <| qc H (fun c3 H=>?_) (fun c3 H=>?_)
 ·refine qk <| qq <| qb 3 <| qq ?_
  obtain⟨v2,e2,H⟩:=aI H
  obtain⟨v3,e3,H⟩:=aI H
  rcases dJ H with⟨c4,H⟩| ⟨c4,H⟩
  ·exact qr [.v 2 (bw (k:=.i64) (E:=aR) (l:=l0) DE e2),.v 4 (iA  (E:=aR) (l:=l0) (off:=0) h1 Nt e2 rfl),.v 6 (bw (k:=.i64) (E:=af) (l:=v2.nodes) la e3),.v 8 (iA  (E:=af) (l:=v2.nodes) (off:=3) h1 KL e3 rfl),.b 11 c4] <| xc <| qq <| q0 <| qt <| Yv (⟨rfl,_,oi H,cb (.bool true) h1 (b9 (au))⟩)
  ·obtain⟨v4,e4,H⟩:=aI H
   obtain⟨v5,e5,H⟩:=aI H
   refine qr [.v 2 (bw (k:=.i64) (E:=aR) (l:=l0) DE e2),.v 4 (iA  (E:=aR) (l:=l0) (off:=0) h1 Nt e2 rfl),.v 6 (bw (k:=.i64) (E:=af) (l:=v2.nodes) la e3),.v 8 (iA  (E:=af) (l:=v2.nodes) (off:=3) h1 KL e3 rfl),.b 11 c4,.v 14 (bw (k:=.i64) (E:=aR) (l:=l0) DE e4),.v 16 (iA  (E:=aR) (l:=l0) (off:=0) h1 Nt e4 rfl),.v 18 (bw (k:=.i64) (E:=af) (l:=v4.nodes) la e5),.v 20 (iA  (E:=af) (l:=v4.nodes) (off:=2) h1 A9 e5 rfl)] <| qc H (fun c6 H=>?_) (fun c6 H=>?_)
   ·exact q1 <| qt <| Yv (⟨rfl,_,oi H,cb (.bool true) h1 (b9 (au))⟩)
   ·exact qk <| q0 <| ⟨i64.wrap (k0+(1:Int)),⟨h1,by kernel_rfl,o1⟩,H⟩
 ·exact qx 2 <| YQ (⟨rfl,k0,oi H,.int .i64 k0,.bool (decide (k0<(v1.nodes.length:Int))),h1,by kernel_rfl,o1⟩)
theorem aQ.bI (L:Mem)(l0:List ak)   : bD Tryd.prog cf vV m (sub [1,1,1,0,1,0,0] (codeOf Tryd.f12)) (fun k (σ:Int × Int)=>aQ.l0 m l0 k σ.1 σ.2) (fun σ s=>match σ with | (n0,i0)=>∃h0,s=⟨aR.fz l0 :: .any :: .int .i64 n0 :: .int .i64 i0::BQ [],[],h0⟩∧Has h0 (L)) (fun out e s=>(e = .exit 0∧∃n0 i0,.inr (n0,i0)=out∧∃kG uN DO A0 h0,s=⟨kG :: .any::uN::DO :: .any :: .any::A0::jP [],[],h0⟩∧Has h0 (L))∨(e = .ret∧∃r,.inl r=out∧aQ.fin L r s)):=by
 refine gG (fun _=>rfl) ?_
 rintro k ⟨n0,i0⟩ s out ⟨h0,rfl,o0⟩ H
 have H:aQ.l0 m l0 (k+1) n0 i0=some out:=H
 refine qq <| qq <| q0 <| qc H (fun c1 H=>?_) (fun c1 H=>?_)
 ·refine qk <| qq <| qb 1 <| qq ?_
  obtain⟨v0,e0,H⟩:=aI H
  refine qr [.v 3 (bw (k:=.i64) (E:=aR) (l:=l0) DE e0),.v 5 (iA  (E:=aR) (l:=l0) (off:=0) h0 Nt e0 rfl)] <| qq <| qq <| q0 <| qc H (fun c2 H=>?_) (fun c2 H=>?_)
  ·exact q1 <| qt <| Yv (⟨rfl,_,oi H,cb (.bool true) h0 (b9 (au))⟩)
  ·refine qk <| qq <| q0 <| qb 2 ?_
   obtain⟨bj,e6,H⟩:=aI H
   refine ql (aQ.eQ L l0 n0 i0 v0   (0:Int) _ _ ⟨h0,by kernel_rfl,o0⟩ e6) ?_
   rintro e s (⟨rfl,k1,rfl,g0,g1,h2,rfl,o2⟩| ⟨rfl,r0,rfl,nI⟩)
   ·try dsimp only at H
    exact q0 <| ⟨(i64.wrap (n0+(v0.nodes.length:Int)),i64.wrap (i0+(1:Int))),⟨h2,by kernel_rfl,o2⟩,H⟩
   ·try dsimp only at H
    exact Yv (⟨rfl,_,oi H,nI⟩)
 ·exact qx 0 <| YQ (⟨rfl,n0,i0,oi H,aR.fz l0,.int .i64 n0,.int .i64 i0,.bool (decide (i0<(l0.length:Int))),h0,by kernel_rfl,o0⟩)
theorem qI {aU:FuncId→cg}(ha:aU 12=vV)  (l0:List ak)(h:AHeap)(L:Mem)  (o:Has h (L)){out:Bool}(H:aQ.f m l0=some out) :
  ∃r h',bc Tryd.prog aU cf m 12 [aR.fz l0] h=some (r,h')∧fW h' r (.bool out):=by
 refine aq (fn:=Tryd.f12) ha Tryd.func12 (by kernel_rfl) (by kernel_rfl) ?_
 refine aG (Q:=fun s=>aQ.fin L out s) (fun _ _ h=>h) ?_
 have H:_=some out:=H
 unfold aQ.f at H
 show de _ cf vV m _ ⟨aR.fz l0::BR [],[],h⟩ _
 refine q1 <| qq <| qq <| q0 <| qc H (fun c0 H=>?_) (fun c0 H=>?_)
 ·obtain rfl:=oi H
  exact q1 <| qt <| ⟨.inl rfl,cb (.bool true) h (b9 (au))⟩
 ·refine qk <| qq <| q0 <| qq <| qq <| q0 <| qb 0 ?_
  obtain⟨bJ,e7,H⟩:=aI H
  refine ql (aQ.bI L l0   ((0:Int),(0:Int)) _ _ ⟨h,by kernel_rfl,o⟩ e7) ?_
  rintro e s (⟨rfl,n1,i1,rfl,g2,g3,g4,g5,h3,rfl,o3⟩| ⟨rfl,r1,rfl,OE⟩)
  ·try dsimp only at H
   obtain rfl:=oi H
   exact q1 <| qt <| ⟨.inl rfl,cb (.bool false) h3 (b9 (au))⟩
  ·try dsimp only at H
   obtain rfl:=oi H
   exact⟨.inl rfl,OE⟩
end
end Go.Proofs.YtmekcfdllhphlaaDoor
namespace Go.Proofs.YtmekcfdllhphlaaDoor
open Go Go.R
open Go.IntKind (i64 u64 u8 u32)
end Go.Proofs.YtmekcfdllhphlaaDoor
namespace Go.Proofs.YtmekcfdllhphlaaDoor
open Go Go.R
open Go.IntKind (i64 u64 u8 u32)
end Go.Proofs.YtmekcfdllhphlaaDoor
namespace Go.Proofs.YtmekcfdllhphlaaDoor
open Go Go.R
open Go.IntKind (i64 u64 u8 u32)
theorem ka {α:Type}{l:List α}{i:Nat}(h:i<l.length):ix l (i:Int)=some l[i]:=by unfold ix; rw [if_pos (by omega)]; simp [h]
theorem zB {m:Nat}{L:List ak}{i:Nat}(hi:i<L.length)(hn:L[i].nodes.length<2 ^ 63):∀(f k:Nat),L[i].nodes.length - k<f→k≤L[i].nodes.length→
  ∃o,aQ.l1 m L (i:Int) f (k:Int)=some o∧((∃x,o = .inr x)∨o = .inl true)
 | 0,k,hf,_=>absurd hf (by omega)
 | f+1,k,hf,hk=>by
  have HC:(2:Nat) ^ 63=9223372036854775808:=by decide
  unfold aQ.l1
  rw [ka hi,Xr]
  by_cases h:k<L[i].nodes.length
  ·obtain⟨o,ih,ho⟩:=zB (m:=m) hi hn f (k+1) (by omega) (by omega)
   rw [if_pos (by simp only [decide_eq_true_eq]; omega),Xr,ka h,Xr]
   split
   ·exact⟨_,rfl,.inr rfl⟩
   ·rw [Xr,ka h,Xr]
    split
    ·exact⟨_,rfl,.inr rfl⟩
    ·rw [aD (by omega) (by omega),show (k:Int)+1=((k+1:Nat):Int) by omega,ih]
     exact⟨o,rfl,ho⟩
  ·rw [if_neg (by simp only [decide_eq_true_eq]; omega)]
   exact⟨_,rfl,.inl ⟨_,rfl⟩⟩
theorem uo {m:Nat}(hm:2 ^ 63≤m){L:List ak}(h12:L.length≤12)(hl:∀t∈L,t.nodes.length<2 ^ 63):∀(f i:Nat) (n:Int),L.length - i<f→i≤L.length→
  ∃o,aQ.l0 m L f n (i:Int)=some o∧((∃x,o = .inr x)∨o = .inl true)
 | 0,i,n,hf,_=>absurd hf (by omega)
 | f+1,i,n,hf,hi=>by
  have HC:(2:Nat) ^ 63=9223372036854775808:=by decide
  unfold aQ.l0
  by_cases h:i<L.length
  ·have hb:=hl _ (Yo h)
   rw [if_pos (by simp only [decide_eq_true_eq]; omega),ka h,Xr]
   split
   ·exact⟨_,rfl,.inr rfl⟩
   ·obtain⟨o,k1,k2⟩:=zB (m:=m) h hb m 0 (by omega) (by omega)
    have k1:aQ.l1 m L (i:Int) m (0:Int)=_:=k1
    rw [k1,Xr]
    rcases k2 with⟨x,rfl⟩| rfl
    ·dsimp only
     rw [aD (x:=(i:Int)+1) (by omega) (by omega),show (i:Int)+1=((i+1:Nat):Int) by omega]
     exact uo hm h12 hl f (i+1) _ (by omega) (by omega)
    ·exact⟨_,rfl,.inr rfl⟩
  ·rw [if_neg (by simp only [decide_eq_true_eq]; omega)]
   exact⟨_,rfl,.inl ⟨_,rfl⟩⟩
theorem Bm {m:Nat}(hm:2 ^ 63≤m){L:List ak}(hl:∀t∈L,t.nodes.length<2 ^ 63):∃b,aQ.f m L=some b∧(b=false→L.length≤12):=by
 have HC:(2:Nat) ^ 63=9223372036854775808:=by decide
 unfold aQ.f
 split
 ·exact⟨true,rfl,fun h=>by cases h⟩
 ·rename_i h
  simp only [decide_eq_true_eq] at h
  obtain⟨o,k1,k2⟩:=uo hm (by omega) hl m 0 0 (by omega) (by omega)
  have k1:aQ.l0 m L m (0:Int) (0:Int)=_:=k1
  rw [k1,Xr]
  rcases k2 with⟨⟨n,x⟩,rfl⟩| rfl
  ·exact⟨false,rfl,fun _=>by omega⟩
  ·exact⟨true,rfl,fun h=>by cases h⟩
end Go.Proofs.YtmekcfdllhphlaaDoor
namespace Go.Proofs.YtmekcfdllhphlaaDoor
open Go Go.R
open Go.IntKind (i64 u64 u8 u32)
def vW:cg:=gK [0,2,3,4,5,6,13,17,29,34,43] [4] [2046,1982,2045,2042,1914,2042,2018,1778,2045,2002,1490,2002,978,2045,2045] [] []
def aY.l1 (m:Nat)(x1:ak × Int):Nat→Int→Option (Sum Bool (Int))
 | 0,_=>none
 | k+1,k0=>if (decide (k0<(x1.1.nodes.length:Int)))=true then ((ix x1.1.nodes k0).bind fun v1=>if (v1.kind==(4:Int))=true then (some (.inl false)) else (aY.l1 m x1 k (i64.wrap (k0+(1:Int))))) else (some (.inr k0))
def aY.l0 (m:Nat)(l0:List ak):Nat→Int→Option (Sum Bool (Int))
 | 0,_=>none
 | k+1,i0=>if (decide (i0<(l0.length:Int)))=true then ((ix l0 i0).bind fun v0=>(eY.f m v0).bind fun x1=>if (!(x1.2==(0:Int)))=true then (some (.inl false)) else ((aY.l1 m x1 m (0:Int)).bind fun bj=>match bj with | .inl r0=>some (.inl r0) | .inr k1=>aY.l0 m l0 k (i64.wrap (i0+(1:Int))))) else (some (.inr i0))
def aY.f (m:Nat)(l0:List ak):Option (Bool):=(aQ.f m l0).bind fun x0=>if x0=true then (some false) else (if (decide ((l0.length:Int) > (8:Int)))=true then (some false) else ((aY.l0 m l0 m (0:Int)).bind fun bJ=>match bJ with | .inl r1=>some r1 | .inr i1=>some true))
def aY.fin (L:Mem)(r:Bool)(s:St):Prop:=∃av,aH Tryd.prog (s.open vW) Tryd.f20.results.toList=some av∧fW s.h av (.bool r)
def Uv (cf:CallF)(m:Nat):Prop:=∀(l0:List ak) (r:Bool),aY.f m l0=some r→∀h xs,eN fi h xs [aR.fz l0]→cf 20 xs h=some (.bool r,h)
section
variable {cf:CallF}{m:Nat}
theorem aY.eQ (L:Mem)(l0:List ak)(i0:Int)(x1:ak × Int)   : bD Tryd.prog cf vW m (sub [1,1,0,1,0,0,1,0,0,1,1,1,0,0] (codeOf Tryd.f20)) (fun k (σ:Int)=>aY.l1 m x1 k σ) (fun σ s=>match σ with | k0=>∃h1,s=⟨aR.fz l0 :: .any :: .int .i64 i0 :: .lp 4 0 :: .any :: .int .i64 k0::rB [],[some [af.fz x1.1.nodes,.int .i64 x1.1.root]],h1⟩∧Has h1 (L)) (fun out e s=>(e = .exit 2∧∃k0,.inr k0=out∧∃DO DR FK Rr h1,s=⟨aR.fz l0 :: .any :: .int .i64 i0::DO :: .any::DR::jP [FK,.any],[Rr],h1⟩∧Has h1 (L))∨(e = .ret∧∃r,.inl r=out∧aY.fin L r s)):=by
 refine gG (fun _=>rfl) ?_
 rintro k k0 s out ⟨h1,rfl,o1⟩ H
 have H:aY.l1 m x1 (k+1) k0=some out:=H
 refine qq <| qq <| q0 <| qc H (fun c5 H=>?_) (fun c5 H=>?_)
 ·refine qk <| qq <| qb 3 <| qq ?_
  obtain⟨v1,e3,H⟩:=aI H
  refine qr [.v 3 (bw (k:=.i64) (E:=af) (l:=x1.1.nodes) la e3),.v 5 (iA  (E:=af) (l:=x1.1.nodes) (off:=0) h1 A3 e3 rfl)] <| qc H (fun c6 H=>?_) (fun c6 H=>?_)
  ·exact q1 <| qt <| Yv (⟨rfl,_,oi H,cb (.bool false) h1 (b9 (au))⟩)
  ·exact qk <| q0 <| ⟨i64.wrap (k0+(1:Int)),⟨h1,by kernel_rfl,o1⟩,H⟩
 ·exact qx 2 <| YQ (⟨rfl,k0,oi H,.lp 4 0,.int .i64 k0,.bool (decide (k0<(x1.1.nodes.length:Int))),some [af.fz x1.1.nodes,.int .i64 x1.1.root],h1,by kernel_rfl,o1⟩)
theorem aY.bI (L:Mem)(l0:List ak)  (LN:RK cf m):bD Tryd.prog cf vW m (sub [1,1,0,1,0,0] (codeOf Tryd.f20)) (fun k (σ:Int)=>aY.l0 m l0 k σ) (fun σ s=>match σ with | i0=>∃h0,s=⟨aR.fz l0 :: .any :: .int .i64 i0::pY [],[none],h0⟩∧Has h0 (L)) (fun out e s=>(e = .exit 0∧∃i0,.inr i0=out∧∃kG uN AI h0,s=⟨kG :: .any::uN::q9 (AI::jP []),[none],h0⟩∧Has h0 (L))∨(e = .ret∧∃r,.inl r=out∧aY.fin L r s)):=by
 refine gG (fun _=>rfl) ?_
 rintro k i0 s out ⟨h0,rfl,o0⟩ H
 have H:aY.l0 m l0 (k+1) i0=some out:=H
 refine qq <| qq <| q0 <| qc H (fun c3 H=>?_) (fun c3 H=>?_)
 ·refine qk <| qq <| qb 1 <| qq ?_
  obtain⟨v0,e1,H⟩:=aI H
  obtain⟨x1,e2,H⟩:=aI H
  refine qr [.v 2 (bw (k:=.i64) (E:=aR) (l:=l0) DE e1),.v 3 (dw  (E:=aR) (l:=l0) h0 L9 Ma e1),.a 4 (LN _ _ e2 h0 _ (cG (nE (cG (iN (E:=af)) (cG (bE) (gL)))) (gL)))] <| qq <| qq <| q0 <| qc H (fun c4 H=>?_) (fun c4 H=>?_)
  ·exact q1 <| qt <| Yv (⟨rfl,_,oi H,cb (.bool false) h0 (b9 (au))⟩)
  ·refine qk <| qq <| q0 <| qb 2 ?_
   obtain⟨bj,e4,H⟩:=aI H
   refine ql (aY.eQ L l0 i0 x1   (0:Int) _ _ ⟨h0,by kernel_rfl,o0⟩ e4) ?_
   rintro e s (⟨rfl,k1,rfl,g0,g1,g2,g3,h2,rfl,o2⟩| ⟨rfl,r0,rfl,nI⟩)
   ·try dsimp only at H
    exact q0 <| ⟨i64.wrap (i0+(1:Int)),⟨h2,by kernel_rfl,o2⟩,H⟩
   ·try dsimp only at H
    exact Yv (⟨rfl,_,oi H,nI⟩)
 ·exact qx 0 <| YQ (⟨rfl,i0,oi H,aR.fz l0,.int .i64 i0,.bool (decide (i0<(l0.length:Int))),h0,by kernel_rfl,o0⟩)
theorem qJ {aU:FuncId→cg}(ha:aU 20=vW)(OF:Uu cf m)(LN:RK cf m)(l0:List ak)(h:AHeap)(L:Mem)  (o:Has h (L)){out:Bool}(H:aY.f m l0=some out) :
  ∃r h',bc Tryd.prog aU cf m 20 [aR.fz l0] h=some (r,h')∧fW h' r (.bool out):=by
 refine aq (fn:=Tryd.f20) ha Tryd.func20 (by kernel_rfl) (by kernel_rfl) ?_
 refine aG (Q:=fun s=>aY.fin L out s) (fun _ _ h=>h) ?_
 have H:_=some out:=H
 unfold aY.f at H
 show de _ cf vW m _ ⟨aR.fz l0::uK [],[none],h⟩ _
 refine q1 <| qq <| qq ?_
 obtain⟨x0,e0,H⟩:=aI H
 rcases dJ H with⟨c0,H⟩| ⟨c0,H⟩
 ·obtain rfl:=oi H
  exact qr [.a 1 (OF _ _ e0 h _ (hH (ae (db (E:=aR)) (aC)))),.b 2 c0] <| xc <| qq <| q0 <| qt <| ⟨.inl rfl,cb (.bool false) h (b9 (au))⟩
 ·refine qr [.a 1 (OF _ _ e0 h _ (hH (ae (db (E:=aR)) (aC)))),.b 2 c0] <| qc H (fun c2 H=>?_) (fun c2 H=>?_)
  ·obtain rfl:=oi H
   exact q1 <| qt <| ⟨.inl rfl,cb (.bool false) h (b9 (au))⟩
  ·refine qk <| qq <| qq <| q0 <| qb 0 ?_
   obtain⟨bJ,e5,H⟩:=aI H
   refine ql (aY.bI L l0  LN (0:Int) _ _ ⟨h,by kernel_rfl,o⟩ e5) ?_
   rintro e s (⟨rfl,i1,rfl,g4,g5,g6,h3,rfl,o3⟩| ⟨rfl,r1,rfl,OE⟩)
   ·try dsimp only at H
    obtain rfl:=oi H
    exact q1 <| qt <| ⟨.inl rfl,cb (.bool true) h3 (b9 (au))⟩
   ·try dsimp only at H
    obtain rfl:=oi H
    exact⟨.inl rfl,OE⟩
end
end Go.Proofs.YtmekcfdllhphlaaDoor
namespace Go.Proofs.YtmekcfdllhphlaaDoor
open Go Go.R
open Go.IntKind (i64 u64 u8 u32)
end Go.Proofs.YtmekcfdllhphlaaDoor
namespace Go.Proofs.YtmekcfdllhphlaaDoor
open Go Go.R
open Go.IntKind (i64 u64 u8 u32)
end Go.Proofs.YtmekcfdllhphlaaDoor
namespace Go.Proofs.YtmekcfdllhphlaaDoor
open Go Go.R
open Go.IntKind (i64 u64 u8 u32)
end Go.Proofs.YtmekcfdllhphlaaDoor
namespace Go.Proofs.YtmekcfdllhphlaaDoor
open Go Go.R
open Go.IntKind (i64 u64 u8 u32)
end Go.Proofs.YtmekcfdllhphlaaDoor
namespace Go.Proofs.YtmekcfdllhphlaaDoor
open Go Go.R
open Go.IntKind (i64 u64 u8 u32)
end Go.Proofs.YtmekcfdllhphlaaDoor
namespace Go.Proofs.YtmekcfdllhphlaaDoor
open Go Go.R
open Go.IntKind (i64 u64 u8 u32)
theorem vX {m:Nat}{L:List ak}(h12:L.length≤12)(hl:∀t∈L,t.nodes.length≤8000):∀(f i n:Nat) (x),n≤300→i≤L.length→aQ.l0 m L f (n:Int) (i:Int)=some (.inr x)→n+((L.drop i).map fun t=>t.nodes.length).sum≤300
 | 0,i,n,x,_,_,H=>by simp [aQ.l0] at H
 | f+1,i,n,x,hn,hi,H=>by
  unfold aQ.l0 at H
  by_cases h:i<L.length
  ·have hb:=hl _ (Yo h)
   rw [if_pos (by simp only [decide_eq_true_eq]; omega),ka h,Xr,aD (x:=(n:Int)+_) (by omega) (by omega)] at H
   split at H
   ·simp at H
   ·rename_i g
    simp only [decide_eq_true_eq] at g
    simp only [Xs] at H
    obtain⟨o,_,H⟩:=H
    cases o with
    | inl r=>simp at H
    | inr k=>
     dsimp only at H
     rw [aD (x:=(i:Int)+1) (by omega) (by omega),show (i:Int)+1=((i+1:Nat):Int) by omega,show (n:Int)+(L[i].nodes.length:Int)=((n+L[i].nodes.length:Nat):Int) by omega] at H
     have:=vX h12 hl f (i+1) (n+L[i].nodes.length) x (by omega) (by omega) H
     rw [XG h,XN,List.sum_cons]; omega
  ·rw [X3 (by omega)]; simpa using hn
theorem zC {m:Nat}{x1:ak × Int}(hl:x1.1.nodes.length≤8000):∀(f k:Nat),x1.1.nodes.length - k<f→k≤x1.1.nodes.length→
  ∃o,aY.l1 m x1 f (k:Int)=some o∧(o = .inl false∨(∃x,o = .inr x)∧(x1.1.nodes.drop k).any (fun n=>n.kind==4)=false)
 | 0,k,hf,_=>absurd hf (by omega)
 | f+1,k,hf,hk=>by
  unfold aY.l1
  by_cases h:k<x1.1.nodes.length
  ·rw [if_pos (by simp only [decide_eq_true_eq]; omega),ka h,Xr,XG h,List.any_cons]
   cases hb:x1.1.nodes[k].kind==(4:Int) with
   | true=>exact⟨_,rfl,.inl rfl⟩
   | false=>
    obtain⟨o,k1,k2⟩:=zC (m:=m) hl f (k+1) (by omega) (by omega)
    rw [if_neg (by simp),aD (by omega) (by omega),show (k:Int)+1=((k+1:Nat):Int) by omega,k1]
    exact⟨o,rfl,by simpa using k2⟩
  ·exact⟨.inr (k:Int),by rw [if_neg (by simp only [decide_eq_true_eq]; omega)],.inr ⟨⟨_,rfl⟩,by rw [X3 (by omega)]; rfl⟩⟩
theorem zD {m:Nat}(hm:2 ^ 41≤m){L:List ak}(h8:L.length≤8)(h0:∀t∈L,IF t):∀(f i:Nat),L.length - i<f→i≤L.length→
  ∃o,aY.l0 m L f (i:Int)=some o∧(o = .inl false∨(∃x,o = .inr x)∧∀t∈L.drop i,ej t=true∧(lf m t).nodes.any (fun n=>n.kind==4)=false)
 | 0,i,hf,_=>absurd hf (by omega)
 | f+1,i,hf,hi=>by
  have rE:(2:Nat) ^ 41=2199023255552:=by decide
  unfold aY.l0
  by_cases h:i<L.length
  ·have vg:=Yo h
   obtain⟨s,e,k1,k2,k3,k4,k5⟩:=uk hm (h0 _ vg)
   rw [if_pos (by simp only [decide_eq_true_eq]; omega),ka h,Xr,k2,Xr]
   by_cases he:e=0
   ·subst he
    have hv:=k4.1 rfl
    have hs:=(CO hm hv (h0 _ vg)).ref
    rw [k2] at hs
    have hs:s=lf m L[i]:=by simpa using hs
    have xu:=(k3 rfl).rj
    obtain⟨o,q1,q2⟩:=zC (m:=m) (x1:=(s,0)) xu m 0 (by dsimp only; omega) (by omega)
    have q1:aY.l1 m (s,0) m 0=_:=q1
    rw [if_neg (by simp),q1,Xr]
    rcases q2 with rfl | ⟨⟨x,rfl⟩,q3⟩
    ·exact⟨_,rfl,.inl rfl⟩
    ·dsimp only
     obtain⟨o,g1,g2⟩:=zD hm h8 h0 f (i+1) (by omega) (by omega)
     rw [aD (by omega) (by omega),show (i:Int)+1=((i+1:Nat):Int) by omega,g1]
     refine⟨o,rfl,g2.imp id fun g=>⟨g.1,fun t ht=>?_⟩⟩
     rw [XG h] at ht
     rcases X8.1 ht with rfl | ht
     ·rw [X6,hs] at q3; exact⟨hv,q3⟩
     ·exact g.2 t ht
   ·rw [if_pos (by simpa using he)]
    exact⟨_,rfl,.inl rfl⟩
  ·exact⟨.inr (i:Int),by rw [if_neg (by simp only [decide_eq_true_eq]; omega)],.inr ⟨⟨_,rfl⟩,by rw [X3 (by omega)]; simp⟩⟩
theorem D8 {m:Nat}(hm:2 ^ 63≤m){L:List ak}(hl:∀t∈L,t.nodes.length<2 ^ 63)(h0:∀t∈L,IF t):∃b,aY.f m L=some b∧(b=true→Ins m L):=by
 have rE:(2:Nat) ^ 41=2199023255552:=by decide
 have HC:(2:Nat) ^ 63=9223372036854775808:=by decide
 obtain⟨b,k1,k2⟩:=Bm hm hl
 unfold aY.f
 rw [k1,Xr]
 cases b with
 | true=>exact⟨false,rfl,fun h=>by cases h⟩
 | false=>
  rw [if_neg (by simp)]
  split
  ·exact⟨false,rfl,fun h=>by cases h⟩
  ·rename_i g
   simp only [decide_eq_true_eq] at g
   obtain⟨o,q1,q2⟩:=zD (m:=m) (by omega) (by omega) h0 m 0 (by omega) (by omega)
   have q1:aY.l0 m L m 0=_:=q1
   rw [q1,Xr]
   rcases q2 with rfl | ⟨⟨x,rfl⟩,q3⟩
   ·exact⟨false,rfl,fun h=>by cases h⟩
   ·refine⟨true,rfl,fun _=>⟨by omega,fun t ht=>⟨(q3 t ht).1,h0 t ht⟩,fun t ht=>(q3 t ht).2,?_⟩⟩
    unfold aQ.f at k1
    split at k1
    ·simp at k1
    ·simp only [Xs] at k1
     obtain⟨o,k1,k3⟩:=k1
     cases o with
     | inl r=>
      dsimp only at k3
      simp only [Xu] at k3
      subst k3
      obtain⟨o,z1,z2⟩:=uo hm (k2 rfl) hl m 0 0 (by omega) (by omega)
      have z1:aQ.l0 m L m (0:Int) (0:Int)=_:=z1
      rw [k1] at z1
      cases z1
      simp at z2
     | inr x=>
      have:=vX (k2 rfl) (fun t ht=>(iZ (q3 t ht).1).1.1) m 0 0 x (by omega) (by omega) k1
      simpa using this
theorem LO {m:Nat}{t:ak}(F:Lf m t):eV.f m t=some (lf m t,0):=by unfold eV.f; rw [F.top]; rfl
end Go.Proofs.YtmekcfdllhphlaaDoor
