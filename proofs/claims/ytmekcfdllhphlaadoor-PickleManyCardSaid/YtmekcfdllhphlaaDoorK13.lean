/- Part of the proof: PB7, PB8, PB10, PB11, PU3, PV2, Q12, Q17, Q3, PU4, Q20, Q63, Q66, Q64, Q46, Q24, PV3. -/
import Derived.Test.YtmekcfdllhphlaaDoorK12
set_option linter.unusedVariables false
set_option linter.unusedSimpArgs false
set_option maxRecDepth 100000
open Int renaming toNat_natCast → V9
open List renaming getElem?_eq_some_iff → Wb, length_set → Wd, length_append → We, mem_singleton → Wf, append_assoc → Wg, getElem?_eq_getElem → Wh, drop_eq_getElem_cons → Wi, mem_append → Wk, getElem?_eq_none → Wl, getD_eq_getElem?_getD → Wm, replicate → Wn, map_cons → Wo, length_cons → Wp, getElem?_append_right → Wq, mem_map → Wv, map_append → Wx, nil_append → Wz, getElem?_map → WB, mem_cons → WG, take_of_length_le → WH, length_map → WI, drop_zero → WK, drop_eq_nil_of_le → WO, ext_getElem? → WV, length_nil → WY, take_length → W9, getElem_mem → Xa, take_add_one → Xb, map_congr_left → Xc, append_nil → Xd, getElem?_set → Xs, mem_filter → Xy, set_append_right → Xz, length_take → XD
open Nat renaming lt_succ_self → WN, le_trans → WQ, sub_self → XC
open Option renaming bind_some → V3, bind_eq_some_iff → V4, map_some → Wa
open Option.some renaming injEq → V6, inj → Wy
open Or renaming inr → WZ, inl → Xt
namespace Go.Proofs.YtmekcfdllhphlaaDoor
open Go Go.R
open Go.IntKind (i64 u64 u8 u32)
structure Cb (l:List ab)(dn:List Bool)(c0 cls:List Int):Prop where
 lc:cls.length=l.length
 old:∀j,j<l.length→gb dn j=true→gt cls j=gt c0 j
 py:∀j:Nat,(j:Int)∈bF dn l.length→gt cls j∈bF dn l.length∧gt cls j≤j∧gt cls (gt cls j).toNat=gt cls j∧Alike (nd l j) (nd l (gt cls j))
 coarse:∀R,Dq l R→∀i j:Nat,R i j→(i:Int)∈bF dn l.length→(j:Int)∈bF dn l.length→gt cls i=gt cls j
theorem fK {dn:List Bool}{p:Nat}{x:Int}(h:x∈bF dn p):0≤x∧x<p∧((x.toNat:Nat):Int)=x:=by
 obtain⟨j,a,b,c⟩:=iH.1 h; omega
theorem Dx {l:List ab}{dn:List Bool}{c0 cls:List Int}(P:Nw l dn c0 l.length cls):Cb l dn c0 cls:=by
 have mn:∀i j:Nat,(i:Int)∈bF dn l.length→(j:Int)∈bF dn l.length→Alike (nd l i) (nd l j)→gt cls i≤gt cls j:=fun i j hi hj hA=>by
  obtain⟨r1,r2,r3⟩:=P.py j hj
  exact (P.py i hi).2.2 _ r1 (hA.trans r2)
 refine⟨P.lc,fun j _ h=>P.old j h,fun j hj=>?_,fun R B i j hR hi hj=>?_⟩
 ·obtain⟨r1,r2,r3⟩:=P.py j hj
  have e:=(fK r1).2.2
  refine⟨r1,r3 j hj (Alike.refl _),?_,r2⟩
  have h1:=mn j (gt cls j).toNat hj (by rw [e]; exact r1) (by rw [e]; exact r2)
  have h2:=mn (gt cls j).toNat j (by rw [e]; exact r1) hj (by rw [e]; exact r2.symm)
  omega
 ·have h1:=mn i j hi hj (B.top i j hR)
  have h2:=mn j i hj hi (B.top i j hR).symm
  omega
def Qr (l:List ab)(cls:List Int)(j g:Nat):Prop:=gt cls j=gt cls g∧SA l cls j g
theorem Cb.al {l dn c0 cls}(P:Cb l dn c0 cls){i j:Nat}(hi:(i:Int)∈bF dn l.length)(hj:(j:Int)∈bF dn l.length)(h:gt cls i=gt cls j):Alike (nd l i) (nd l j):=by
 have a:=(P.py i hi).2.2.2
 have b:=(P.py j hj).2.2.2
 rw [h] at a
 exact a.trans b.symm
theorem Cb.IY {l dn c0 cls}(P:Cb l dn c0 cls){i j:Nat}(hi:(i:Int)∈bF dn l.length)(hj:(j:Int)∈bF dn l.length)(h:Qr l cls i j):Qr l cls j i:=
 ⟨h.1.symm,fun k hk=>(h.2 k (by have:=(P.al hi hj h.1).len; unfold na at *; omega)).symm⟩
theorem Cb.AR {l dn c0 cls}(P:Cb l dn c0 cls){i j q:Nat}(hi:(i:Int)∈bF dn l.length)(hj:(j:Int)∈bF dn l.length)(h:Qr l cls i j)(g:Qr l cls j q):Qr l cls i q:=
 ⟨h.1.trans g.1,fun k hk=>(h.2 k hk).trans (g.2 k (by have:=(P.al hi hj h.1).len; unfold na at *; omega))⟩
theorem Gx {m:Nat}(hm:2 ^ 30≤m){l:List ab}{dn:List Bool}{c0 cls nx:List Int}(ok:kH l)(P:Cb l dn c0 cls)(hnx:nx.length=l.length){J:Nat}(hJ:J<(bF dn l.length).length)
  (hlt:∀q,q<J→gt nx (gt (bF dn l.length) q).toNat≠gt (bF dn l.length) J):∀(f k:Nat),J - k+2≤f→k≤J→(∀q,q<k→¬Qr l cls (gt (bF dn l.length) J).toNat (gt (bF dn l.length) q).toNat)→
  ∃w x,ah.l6 m l (bF dn l.length) cls (J:Int) (gt (bF dn l.length) J) f (nx.set (gt (bF dn l.length) J).toNat (gt (bF dn l.length) J)) (k:Int)=some (nx.set (gt (bF dn l.length) J).toNat w,x)∧
   (w=gt (bF dn l.length) J∧(∀q,q<J→¬Qr l cls (gt (bF dn l.length) J).toNat (gt (bF dn l.length) q).toNat)∨∃q,q<J∧Qr l cls (gt (bF dn l.length) J).toNat (gt (bF dn l.length) q).toNat∧w=gt nx (gt (bF dn l.length) q).toNat)
 | 0,k,hf,_,_=>absurd hf (by omega)
 | f+1,k,hf,hk,sq=>by
  have l8:(2:Nat) ^ 30=1073741824:=by decide
  have h8:=ok.1
  have MT:=hY (dn:=dn) l.length
  have mJ:=aN hJ
  obtain⟨v0,v1,v2⟩:=fK mJ
  unfold ah.l6
  have mU:∀w,ix (nx.set (gt (bF dn l.length) J).toNat w) (gt (bF dn l.length) J)=some w:=fun w=>by
   rw [fQ (k:=(gt (bF dn l.length) J).toNat) (by omega) (by rw [Wd]; omega),ef (by omega),if_pos rfl]
  rw [mU,V3,if_pos (by simp)]
  by_cases h:k<J
  ·have mk:=aN (l:=bF dn l.length) (k:=k) (by omega)
   obtain⟨w0,w1,w2⟩:=fK mk
   have next:¬Qr l cls (gt (bF dn l.length) J).toNat (gt (bF dn l.length) k).toNat→∃w x,ah.l6 m l (bF dn l.length) cls (J:Int) (gt (bF dn l.length) J) f (nx.set (gt (bF dn l.length) J).toNat (gt (bF dn l.length) J)) (i64.wrap ((k:Int)+1))=some (nx.set (gt (bF dn l.length) J).toNat w,x)∧
     (w=gt (bF dn l.length) J∧(∀q,q<J→¬Qr l cls (gt (bF dn l.length) J).toNat (gt (bF dn l.length) q).toNat)∨∃q,q<J∧Qr l cls (gt (bF dn l.length) J).toNat (gt (bF dn l.length) q).toNat∧w=gt nx (gt (bF dn l.length) q).toNat):=fun hn=>by
    rw [aC (by omega) (by omega),show (k:Int)+1=((k+1:Nat):Int) by omega]
    refine Gx hm ok P hnx hJ hlt f (k+1) (by omega) (by omega) fun q hq=>?_
    by_cases e:q=k
    ·subst e; exact hn
    ·exact sq q (by omega)
   have c1:ix cls (gt (bF dn l.length) J)=some (gt cls (gt (bF dn l.length) J).toNat):=fQ v2.symm (by rw [P.lc]; omega)
   have c2:ix cls (gt (bF dn l.length) k)=some (gt cls (gt (bF dn l.length) k).toNat):=fQ w2.symm (by rw [P.lc]; omega)
   rw [if_pos (by simp only [decide_eq_true_eq]; omega),c1,V3,cn (by omega),V3,c2,V3]
   by_cases e:gt cls (gt (bF dn l.length) J).toNat=gt cls (gt (bF dn l.length) k).toNat
   ·have hA:=P.al (i:=(gt (bF dn l.length) J).toNat) (j:=(gt (bF dn l.length) k).toNat) (by rw [v2]; exact mJ) (by rw [w2]; exact mk) e
    obtain⟨xs,s1,s2⟩:=B6 hm ok P.lc (i:=(gt (bF dn l.length) J).toNat) (j:=(gt (bF dn l.length) k).toNat) (by omega) (by omega) hA.len
    rw [v2,w2] at s1
    rw [if_pos (by simpa using e),gV (by omega) (by omega),V3,V3,gV (by omega) (by omega),V3,s1,V3]
    cases xs with
    | false=>
     rw [if_neg (by simp)]
     exact next fun h=>by have:=s2.2 h.2; cases this
    | true=>
     have hQ:Qr l cls (gt (bF dn l.length) J).toNat (gt (bF dn l.length) k).toNat:=⟨e,s2.1 rfl⟩
     have hne:(gt (bF dn l.length) k).toNat≠(gt (bF dn l.length) J).toNat:=by have:=mh (dn:=dn) (p:=l.length) h hJ; omega
     have n1:ix (nx.set (gt (bF dn l.length) J).toNat (gt (bF dn l.length) J)) (gt (bF dn l.length) k)=some (gt nx (gt (bF dn l.length) k).toNat):=by
      rw [fQ w2.symm (by rw [Wd]; omega),ef (by omega),if_neg hne]
     obtain⟨g,rfl⟩:∃g,f=g+1:=⟨f - 1,by omega⟩
     rw [if_pos rfl,V3,n1,V3,V3,List.set_set]
     refine⟨gt nx (gt (bF dn l.length) k).toNat,i64.wrap ((k:Int)+1),?_,.inr ⟨k,h,hQ,rfl⟩⟩
     unfold ah.l6
     rw [mU,V3,if_neg (by simpa using hlt k h)]
   ·rw [if_neg (by simpa using e)]
    exact next fun h=>e h.1
  ·have e:k=J:=by omega
   rw [if_neg (by simp only [decide_eq_true_eq]; omega)]
   exact⟨gt (bF dn l.length) J,_,rfl,.inl ⟨rfl,fun q hq=>sq q (by omega)⟩⟩
structure N5 (l:List ab)(dn:List Bool)(cls:List Int)(p:Nat)(nx:List Int):Prop where
 ln:nx.length=l.length
 KH:∀x:Nat,(x:Int)∉bF dn l.length→gt nx x=gt cls x
 later:∀q,p≤q→q<(bF dn l.length).length→gt nx (gt (bF dn l.length) q).toNat=gt cls (gt (bF dn l.length) q).toNat
 new:∀q,q<p→gt nx (gt (bF dn l.length) q).toNat∈bF dn l.length∧Qr l cls (gt (bF dn l.length) q).toNat (gt nx (gt (bF dn l.length) q).toNat).toNat∧∀g∈bF dn l.length,Qr l cls (gt (bF dn l.length) q).toNat g.toNat→gt nx (gt (bF dn l.length) q).toNat≤g
theorem xo {dn:List Bool}{n p q:Nat}(hp:p<(bF dn n).length)(hq:q<(bF dn n).length)(e:(gt (bF dn n) p).toNat=(gt (bF dn n) q).toNat):p=q:=by
 have a:=(fK (aN hp)).2.2
 have b:=(fK (aN hq)).2.2
 rcases Nat.lt_trichotomy p q with h | h | h
 ·have:=mh (dn:=dn) (p:=n) h hq; omega
 ·exact h
 ·have:=mh (dn:=dn) (p:=n) h hp; omega
theorem Ib {l:List ab}{dn:List Bool}{c0 cls nx:List Int}(P:Cb l dn c0 cls){p:Nat}(hp:p<(bF dn l.length).length)(N:N5 l dn cls p nx){w:Int}
  (hw:w=gt (bF dn l.length) p∧(∀q,q<p→¬Qr l cls (gt (bF dn l.length) p).toNat (gt (bF dn l.length) q).toNat)∨∃q,q<p∧Qr l cls (gt (bF dn l.length) p).toNat (gt (bF dn l.length) q).toNat∧w=gt nx (gt (bF dn l.length) q).toNat) :
  N5 l dn cls (p+1) (nx.set (gt (bF dn l.length) p).toNat w):=by
 have mp:=aN hp
 obtain⟨v0,v1,v2⟩:=fK mp
 have gc:∀x,x≠(gt (bF dn l.length) p).toNat→gt (nx.set (gt (bF dn l.length) p).toNat w) x=gt nx x:=fun x hx=>by rw [ef (by rw [N.ln]; omega),if_neg hx]
 have gi:gt (nx.set (gt (bF dn l.length) p).toNat w) (gt (bF dn l.length) p).toNat=w:=by rw [ef (by rw [N.ln]; omega),if_pos rfl]
 refine⟨by simpa using N.ln,fun x hx=>?_,fun q h1 h2=>?_,fun q hq=>?_⟩
 ·rw [gc x (fun e=>hx (by rw [e,v2]; exact mp))]; exact N.KH x hx
 ·rw [gc _ (fun e=>by have:=xo h2 hp e; omega)]; exact N.later q (by omega) h2
 ·by_cases e:q=p
  ·subst e
   rw [gi]
   rcases hw with⟨rfl,h⟩| ⟨q',h1,h2,rfl⟩
   ·refine⟨mp,⟨rfl,fun _ _=>rfl⟩,fun g hg hQ=>?_⟩
    obtain⟨k,hk,rfl⟩:=eL hg
    by_cases UL:k<q
    ·exact absurd hQ (h k UL)
    ·by_cases QQ:k=q
     ·subst QQ; exact Int.le_refl _
     ·have:=mh (dn:=dn) (p:=l.length) (k:=q) (q:=k) (by omega) hk; omega
   ·have mq:=aN (l:=bF dn l.length) (k:=q') (by omega)
    have eq2:=(fK mq).2.2
    obtain⟨n1,n2,n3⟩:=N.new q' h1
    have e3:=(fK n1).2.2
    have s1:((gt (bF dn l.length) q).toNat:Int)∈bF dn l.length:=by rw [v2]; exact mp
    have s2:((gt (bF dn l.length) q').toNat:Int)∈bF dn l.length:=by rw [eq2]; exact mq
    exact⟨n1,P.AR s1 s2 h2 n2,fun g hg hQ=>n3 g hg (P.AR s2 s1 (P.IY s1 s2 h2) hQ)⟩
  ·rw [gc _ (fun e2=>by have:=xo (dn:=dn) (n:=l.length) (by omega) hp e2; omega)]
   exact N.new q (by omega)
theorem AS {m:Nat}(hm:2 ^ 30≤m){l:List ab}{dn:List Bool}{c0 cls:List Int}(ok:kH l)(P:Cb l dn c0 cls):∀(f p:Nat) (more:Bool) (nx:List Int),(bF dn l.length).length - p<f→p≤(bF dn l.length).length→N5 l dn cls p nx→
  (more=true↔∃q,q<p∧gt nx (gt (bF dn l.length) q).toNat≠gt cls (gt (bF dn l.length) q).toNat)→
  ∃ig QR x,ah.l5 m l (bF dn l.length) cls f more nx (p:Int)=some (ig,QR,x)∧N5 l dn cls (bF dn l.length).length QR∧(ig=true↔∃q,q<(bF dn l.length).length∧gt QR (gt (bF dn l.length) q).toNat≠gt cls (gt (bF dn l.length) q).toNat)
 | 0,p,_,_,hf,_,_,_=>absurd hf (by omega)
 | f+1,p,more,nx,hf,hp,N,mi=>by
  have l8:(2:Nat) ^ 30=1073741824:=by decide
  have h8:=ok.1
  have MT:=hY (dn:=dn) l.length
  unfold ah.l5
  by_cases h:p<(bF dn l.length).length
  ·have mp:=aN h
   obtain⟨v0,v1,v2⟩:=fK mp
   obtain⟨w,x,k1,k2⟩:=Gx hm ok P N.ln h (fun q hq=>by
    obtain⟨n1,n2,n3⟩:=N.new q hq
    have mq:=aN (l:=bF dn l.length) (k:=q) (by omega)
    have:=n3 _ mq ⟨rfl,fun _ _=>rfl⟩
    have:=mh (dn:=dn) (p:=l.length) hq h
    omega) m 0 (by omega) (by omega) (fun q hq=>absurd hq (by omega))
   have k1:ah.l6 m l (bF dn l.length) cls (p:Int) (gt (bF dn l.length) p) m (nx.set (gt (bF dn l.length) p).toNat (gt (bF dn l.length) p)) 0=_:=k1
   have N':=Ib P h N k2
   have ew:i64.wrap ((p:Int)+1)=((p+1:Nat):Int):=by rw [aC (by omega) (by omega)]; omega
   have UM:ix nx (gt (bF dn l.length) p)=some (gt nx (gt (bF dn l.length) p).toNat):=fQ v2.symm (by rw [N.ln]; omega)
   have c1:ix cls (gt (bF dn l.length) p)=some (gt cls (gt (bF dn l.length) p).toNat):=fQ v2.symm (by rw [P.lc]; omega)
   have c2:ix (nx.set (gt (bF dn l.length) p).toNat w) (gt (bF dn l.length) p)=some w:=by
    rw [fQ v2.symm (by rw [Wd,N.ln]; omega),ef (by rw [N.ln]; omega),if_pos rfl]
   have gw:gt (nx.set (gt (bF dn l.length) p).toNat w) (gt (bF dn l.length) p).toNat=w:=by rw [ef (by rw [N.ln]; omega),if_pos rfl]
   have old:∀q,q<p→gt (nx.set (gt (bF dn l.length) p).toNat w) (gt (bF dn l.length) q).toNat=gt nx (gt (bF dn l.length) q).toNat:=fun q hq=>by
    rw [ef (by rw [N.ln]; omega),if_neg (fun e=>by have:=xo (dn:=dn) (n:=l.length) (by omega) h e; omega)]
   rw [if_pos (by simp only [decide_eq_true_eq]; omega),cn h,V3,UM,V3,k1,V3]
   dsimp only
   rw [ew]
   cases more with
   | true=>
    rw [if_pos rfl]
    refine AS hm ok P f (p+1) true _ (by clear mi k2; omega) (by clear mi k2; omega) N' ⟨fun _=>?_,fun _=>rfl⟩
    obtain⟨q,q1,q2⟩:=mi.1 rfl
    exact⟨q,by omega,by rw [old q q1]; exact q2⟩
   | false=>
    rw [if_neg (by simp),c2,V3,c1,V3]
    refine AS hm ok P f (p+1) _ _ (by clear mi k2; omega) (by clear mi k2; omega) N' ?_
    constructor
    ·intro hb
     refine⟨p,by omega,?_⟩
     rw [gw]; simpa using hb
    ·rintro⟨q,q1,q2⟩
     by_cases e:q=p
     ·subst e; rw [gw] at q2; simpa using q2
     ·rw [old q (by omega)] at q2
      have:=mi.2 ⟨q,by omega,q2⟩
      cases this
  ·have e:p=(bF dn l.length).length:=by omega
   subst e
   exact⟨more,nx,_,by rw [if_neg (by simp)],N,mi⟩
theorem Gy {l:List ab}{dn:List Bool}{c0 cls nx:List Int}{od:List Int}(ok:kH l)(P:Cb l dn c0 cls)(N:N5 l dn cls (bF dn l.length).length nx)
  (xL:∀j,j<l.length→(gb dn j=true↔(j:Int)∈od)) (KU:∀R,Dq l R→∀i j:Nat,R i j→(i:Int)∈od→(j:Int)∈od→gt c0 i=gt c0 j)
  (hfin:∀R,Dq l R→∀i j:Nat,R i j→(i:Int)∈od→(j:Int)∈od):Cb l dn c0 nx:=by
 have Nx:∀j,j<l.length→gb dn j=true→(j:Int)∉bF dn l.length:=fun j _ h hm=>by
  obtain⟨j',a,b,c⟩:=iH.1 hm
  have:j=j':=by omega
  subst this; rw [h] at b; cases b
 have uJ:∀j,j<l.length→(j:Int)∉od→(j:Int)∈bF dn l.length:=fun j hj h=>iH.2 ⟨j,hj,by
  cases hb:gb dn j with
  | true=>exact absurd ((xL j hj).1 hb) h
  | false=>rfl,rfl⟩
 have atR:∀j:Nat,(j:Int)∈bF dn l.length→gt nx j∈bF dn l.length∧Qr l cls j (gt nx j).toNat∧∀g∈bF dn l.length,Qr l cls j g.toNat→gt nx j≤g:=fun j hj=>by
  obtain⟨q,hq,e⟩:=eL hj
  have:=N.new q hq
  rw [e,V9] at this
  exact this
 have mn:∀i j:Nat,(i:Int)∈bF dn l.length→(j:Int)∈bF dn l.length→Qr l cls i j→gt nx i≤gt nx j:=fun i j hi hj hQ=>by
  obtain⟨r1,r2,r3⟩:=atR j hj
  exact (atR i hi).2.2 _ r1 (P.AR hi hj hQ r2)
 have SY:∀i j:Nat,(i:Int)∈bF dn l.length→(j:Int)∈bF dn l.length→Qr l cls i j→gt nx i=gt nx j:=fun i j hi hj hQ=>by
  have h1:=mn i j hi hj hQ
  have h2:=mn j i hj hi (P.IY hi hj hQ)
  omega
 refine⟨N.ln,fun j hj h=>by rw [N.KH j (Nx j hj h)]; exact P.old j hj h,fun j hj=>?_,fun R B i j hR hi hj=>?_⟩
 ·obtain⟨r1,r2,r3⟩:=atR j hj
  have e:=(fK r1).2.2
  have zK:(((gt nx j).toNat:Nat):Int)∈bF dn l.length:=by rw [e]; exact r1
  refine⟨r1,r3 j hj ⟨rfl,fun _ _=>rfl⟩,(SY j _ hj zK r2).symm,?_⟩
  have:=P.al hj zK r2.1
  rw [e] at this; exact this
 ·refine SY i j hi hj ⟨P.coarse R B i j hR hi hj,fun k hk=>?_⟩
  have Ny:R (ar l i k) (ar l j k):=B.arg i j hR k hk
  obtain⟨ra,rb⟩:=B.nc _ _ Ny
  by_cases ha:((ar l i k:Nat):Int)∈od
  ·have hb:=hfin R B _ _ Ny ha
   rw [P.old _ ra ((xL _ ra).2 ha),P.old _ rb ((xL _ rb).2 hb)]
   exact KU R B _ _ Ny ha hb
  ·have hb:((ar l j k:Nat):Int)∉od:=fun h=>ha (hfin _ B.symm _ _ Ny h)
   exact P.coarse R B _ _ Ny (uJ _ ra ha) (uJ _ rb hb)
def Dy (dn:List Bool)(n:Nat)(cls:List Int):List Int:=(bF dn n).filter fun j=>gt cls j.toNat==j
theorem Dz {dn:List Bool}{n:Nat}:(bF dn n).Nodup:=by
 unfold List.Nodup
 rw [List.pairwise_iff_getElem]
 intro i j hi hj xX e
 have:=mh (dn:=dn) (p:=n) xX hj
 have a:=bp hi
 have b:=bp hj
 rw [Wh hi] at a
 rw [Wh hj] at b
 have a:=Wy a
 have b:=Wy b
 omega
theorem Gz {m:Nat}(hm:2 ^ 30≤m){l:List ab}{dn:List Bool}{c0 od:List Int}(ok:kH l)
  (xL:∀j,j<l.length→(gb dn j=true↔(j:Int)∈od)) (KU:∀R,Dq l R→∀i j:Nat,R i j→(i:Int)∈od→(j:Int)∈od→gt c0 i=gt c0 j)
  (hfin:∀R,Dq l R→∀i j:Nat,R i j→(i:Int)∈od→(j:Int)∈od):∀(f:Nat) (cls:List Int),(bF dn l.length).length - (Dy dn l.length cls).length+1<f→Cb l dn c0 cls→
  ∃jj,ah.l4 m l (bF dn l.length) f cls true=some (jj,false)∧Cb l dn c0 jj∧∀j:Nat,(j:Int)∈bF dn l.length→SA l jj j (gt jj j).toNat
 | 0,cls,hf,_=>absurd hf (by omega)
 | f+1,cls,hf,P=>by
  have l8:(2:Nat) ^ 30=1073741824:=by decide
  have h8:=ok.1
  have MT:=hY (dn:=dn) l.length
  unfold ah.l4
  have la:app 8 ([]:List Int) cls=some cls:=by unfold app; rw [if_pos (by simp; rw [P.lc]; omega),Wz]
  obtain⟨ig,nx,x,k1,N,mi⟩:=AS hm ok P m 0 false cls (by omega) (by omega) ⟨P.lc,fun _ _=>rfl,fun _ _ _=>rfl,fun q hq=>absurd hq (by omega)⟩ ⟨fun h=>(by cases h),fun ⟨q,hq,_⟩=>absurd hq (by omega)⟩
  have k1:ah.l5 m l (bF dn l.length) cls m false cls 0=_:=k1
  have P':=Gy ok P N xL KU hfin
  rw [if_pos rfl,la,V3,k1,V3]
  dsimp only
  cases SZ:ig with
  | true=>
   obtain⟨q,hq,hne⟩:=mi.1 SZ
   have mq:=aN hq
   have eq2:=(fK mq).2.2
   obtain⟨n1,n2,n3⟩:=N.new q hq
   have e3:=(fK n1).2.2
   have S3:(Dy dn l.length cls).length+1≤(Dy dn l.length nx).length:=by
    have UN:(gt nx (gt (bF dn l.length) q).toNat::Dy dn l.length cls).Nodup:=by
     rw [List.nodup_cons]
     refine⟨fun h=>?_,List.Pairwise.filter _ Dz⟩
     have:=(Xy.1 h).2
     have:=beq_iff_eq.1 this
     exact hne (by rw [n2.1,this])
    have:=UN.length_le_of_subset (l₂:=Dy dn l.length nx) (fun y hy=>by
     rcases WG.1 hy with rfl | hy
     ·refine Xy.2 ⟨n1,?_⟩
      have:=(P'.py (gt (bF dn l.length) q).toNat (by rw [eq2]; exact mq)).2.2.1
      rw [beq_iff_eq]; exact this
     ·obtain⟨y1,y2⟩:=Xy.1 hy
      have y2:=beq_iff_eq.1 y2
      refine Xy.2 ⟨y1,?_⟩
      have ey:=(fK y1).2.2
      rw [beq_iff_eq]
      obtain⟨k,hk,e⟩:=eL y1
      obtain⟨m1,m2,m3⟩:=N.new k hk
      rw [e] at m1 m2 m3
      have a1:=m3 y y1 ⟨rfl,fun _ _=>rfl⟩
      have em:=(fK m1).2.2
      have a2:=(P.py (gt nx y.toNat).toNat (by rw [em]; exact m1)).2.1
      rw [←m2.1,y2] at a2
      omega)
    simpa using this
   have hle:(Dy dn l.length nx).length≤(bF dn l.length).length:=List.length_filter_le _ _
   exact Gz hm ok xL KU hfin f nx (by clear mi; omega) P'
  | false=>
   obtain⟨g,rfl⟩:∃g,f=g+1:=⟨f - 1,by omega⟩
   have same:∀j:Nat,(j:Int)∈bF dn l.length→gt nx j=gt cls j:=fun j hj=>by
    obtain⟨k,hk,e⟩:=eL hj
    by_cases hne:gt nx j=gt cls j
    ·exact hne
    ·have:=mi.2 ⟨k,hk,by rw [e,V9]; exact hne⟩
     rw [SZ] at this; cases this
   have UO:nx=cls:=E2 (by rw [N.ln,P.lc]) fun k hk=>by
    by_cases h:(k:Int)∈bF dn l.length
    ·exact same k h
    ·exact N.KH k h
   refine⟨nx,?_,P',fun j hj=>?_⟩
   ·unfold ah.l4
    rw [if_neg (by simp)]
   ·obtain⟨k,hk,e⟩:=eL hj
    obtain⟨m1,m2,m3⟩:=N.new k hk
    rw [e,V9] at m2
    rw [UO] at m2 ⊢
    exact m2.2
end Go.Proofs.YtmekcfdllhphlaaDoor
namespace Go.Proofs.YtmekcfdllhphlaaDoor
open Go Go.R
open Go.IntKind (i64 u64 u8 u32)
structure KI (l:List ab)(c od:List Int):Prop where
 min:Min l c
 py:∀i,i<l.length→0≤gt c i∧gt c i<l.length∧gt c (gt c i).toNat=gt c i
 uI:∀i:Nat,(i:Int)∈od→∀k,k<na l i→((ar l i k:Nat):Int)∈od∧od.idxOf ((ar l i k:Nat):Int)<od.idxOf (i:Int)
 UP:∀i,i<l.length→(i:Int)∉od→gt c i≤i
theorem KJ {n k:Nat}:gb (Wn n false) k=false:=by
 unfold gb; rw [Wm,List.getElem?_replicate]; split<;>rfl
theorem zf {m:Nat}(hm:2 ^ 30≤m){l:List ab}(ok:kH l):∃c od,ah.f m l=some c∧KI l c od:=by
 have l8:(2:Nat) ^ 30=1073741824:=by decide
 have h8:=ok.1
 unfold ah.f
 have e0:uv 8 (l.length:Int) (0:Int)=some (Wn l.length 0):=by unfold uv; rw [if_pos ⟨by omega,by rw [V9]; omega⟩,V9]
 have e1:uv 1 (l.length:Int) false=some (Wn l.length false):=by unfold uv; rw [if_pos ⟨by omega,by rw [V9]; omega⟩,V9]
 obtain⟨c0,dn,fs,od,k1,P1,hq⟩:=Gu hm ok m (Wn l.length 0) (Wn l.length false) [] [] (by simp; omega)
  {lc:=by simp,ld:=by simp,QM:=by simp,KG:=(by intro x hx; cases hx),G4:=(by intro i hi; rw [KJ]; simp),uI:=(by intro i hi; cases hi),Oc:=by simp,fst:=(by intro f hf; cases hf),py:=(by intro i hi; cases hi),apart:=(by intro f hf; cases hf),coarse:=(by intro R B i j hR hi; cases hi)}
 obtain⟨c1,x,k2,P2⟩:=AQ hm ok P1.ld (c0:=c0) m 0 c0 (by omega) (by omega) {lc:=P1.lc,old:=fun _ _=>rfl,py:=(by intro j hj; cases hj)}
 have k2:ah.l2 m l dn m c0 [] 0=_:=k2
 have hfin:∀R,Dq l R→∀i j:Nat,R i j→(i:Int)∈od→(j:Int)∈od:=by
  intro R B
  have:∀N i j:Nat,od.idxOf (i:Int)<N→R i j→(i:Int)∈od→(j:Int)∈od:=by
   intro N
   induction N with
   | zero=>intro i j h; omega
   | succ N ih=>
    intro i j hN hR hi
    by_cases hj:(j:Int)∈od
    ·exact hj
    ·obtain⟨k,g1,g2⟩:=hq j (B.nc i j hR).2 hj
     have rO:k<na l i:=by have:=(B.top i j hR).len; unfold na at *; omega
     obtain⟨r1,r2⟩:=P1.uI i hi k rO
     exact absurd (ih (ar l i k) (ar l j k) (by omega) (B.arg i j hR k rO) r1) g2
  exact fun i j=>this (od.idxOf (i:Int)+1) i j (by omega)
 obtain⟨c,k3,P3,hS⟩:=Gz hm ok P1.G4 P1.coarse hfin m c1 (by have:=hY (dn:=dn) l.length; omega) (Dx P2)
 have uJ:∀j,j<l.length→(j:Int)∉od→(j:Int)∈bF dn l.length:=fun j hj h=>iH.2 ⟨j,hj,by
  cases hb:gb dn j with
  | true=>exact absurd ((P1.G4 j hj).1 hb) h
  | false=>rfl,rfl⟩
 have IZ:∀{x:Int},x∈bF dn l.length→x∉od:=fun hx h=>by
  obtain⟨j,a,b,e⟩:=iH.1 hx
  subst e
  rw [(P1.G4 j a).2 h] at b; cases b
 have uK:∀j:Nat,j<l.length→(j:Int)∈od→gt c j=gt c0 j:=fun j hj h=>P3.old j hj ((P1.G4 j hj).2 h)
 have KK:∀f∈fs,0≤f∧f<l.length∧f∈od∧((f.toNat:Nat):Int)=f:=fun f hf=>by
  have a:=P1.QN f hf; have b:=(P1.fst f hf).1; exact⟨a.1,a.2,b,by omega⟩
 have QS:∀i j:Nat,(i:Int)∈od→(j:Int)∈od→qY l c0 i j→SA l c i j:=fun i j hi hj h k hk=>by
  have a:=(P1.uI i hi k hk).1
  have b:=(P1.uI j hj k (by have:=h.1.len; unfold na at *; omega)).1
  have ra:=P1.KG _ a
  have rb:=P1.KG _ b
  rw [uK _ (by omega) a,uK _ (by omega) b]
  exact h.2 k hk
 have both:∀i j:Nat,i<l.length→j<l.length→gt c i=gt c j→Alike (nd l i) (nd l j)∧SA l c i j:=fun i j hi hj e=>by
  by_cases h1:(i:Int)∈od
  ·obtain⟨f1,s1⟩:=P1.py i h1
   by_cases h2:(j:Int)∈od
   ·obtain⟨f2,s2⟩:=P1.py j h2
    rw [uK i hi h1,uK j hj h2] at e
    rw [e] at s1
    have s:=s1.trans s2.symm
    exact⟨s.1,QS i j h1 h2 s⟩
   ·have:=(P3.py j (uJ j hj h2)).1
    rw [←e,uK i hi h1] at this
    exact absurd (KK _ f1).2.2.1 (IZ this)
  ·have r1:=uJ i hi h1
   by_cases h2:(j:Int)∈od
   ·obtain⟨f2,s2⟩:=P1.py j h2
    have:=(P3.py i r1).1
    rw [e,uK j hj h2] at this
    exact absurd (KK _ f2).2.2.1 (IZ this)
   ·have r2:=uJ j hj h2
    have hA:=P3.al r1 r2 e
    refine⟨hA,fun k hk=>?_⟩
    have a:=hS i r1 k hk
    have b:=hS j r2 k (by have:=hA.len; unfold na at *; omega)
    rw [e] at a
    exact a.trans b.symm
 refine⟨c,od,?_,⟨P3.lc,fun i j hi hj e=>(both i j hi hj e).1,fun i j hi hj e k hk=>(both i j hi hj e).2 k hk,fun R B i j hR=>?_⟩,fun i hi=>?_,P1.uI,fun i hi h=>(P3.py i (uJ i hi h)).2.1⟩
 ·rw [e0,V3,e1,V3,k1,V3]
  dsimp only
  rw [k2,V3]
  dsimp only
  rw [k3]; rfl
 ·obtain⟨hi,hj⟩:=B.nc i j hR
  by_cases h1:(i:Int)∈od
  ·have h2:=hfin R B i j hR h1
   rw [uK i hi h1,uK j hj h2]; exact P1.coarse R B i j hR h1 h2
  ·have h2:(j:Int)∉od:=fun h=>h1 (hfin _ B.symm j i hR h)
   exact P3.coarse R B i j hR (uJ i hi h1) (uJ j hj h2)
 ·by_cases h1:(i:Int)∈od
  ·obtain⟨f1,s1⟩:=P1.py i h1
   obtain⟨a,b,d,e⟩:=KK _ f1
   rw [uK i hi h1]
   refine⟨a,b,?_⟩
   rw [uK _ (by omega) (by rw [e]; exact d)]
   exact (P1.fst _ f1).2
  ·obtain⟨r1,r2,r3,r4⟩:=P3.py i (uJ i hi h1)
   have:=fK r1
   exact⟨this.1,this.2.1,r3⟩
end Go.Proofs.YtmekcfdllhphlaaDoor
namespace Go.Proofs.YtmekcfdllhphlaaDoor
open Go Go.R
open Go.IntKind (i64 u64 u8 u32)
def pm (pl:List Int)(n:ab):ab:=⟨n.kind,n.int,n.label,n.args.map fun a=>gt pl a.toNat⟩
theorem pq {l:List ab}{i:Nat}(h:i<l.length):l[i]? = some (nd l i):=by
 have:=gV (l:=l) (i:=(i:Int)) (by omega) (by omega)
 unfold ix at this
 rwa [if_pos (by omega),V9] at this
theorem AT {l:List ab}{i q:Nat}{x:ab}(hi:i<l.length):nd (l.set i x) q=if q=i then x else nd l q:=by
 unfold nd
 simp only [V9,Wm,Xs]
 by_cases h:i=q
 ·subst h; simp [hi]
 ·rw [if_neg h,if_neg (by omega)]
theorem GA {f:ab→ab}{l:List ab}{i:Nat}(h:i<l.length):nd (l.map f) i=f (nd l i):=by
 have h1:=pq (l:=l.map f) (i:=i) (by simpa using h)
 rw [WB,pq h] at h1
 exact (Wy h1).symm
theorem Ic {f:Int→ab}{l:List Int}{i:Nat}(h:i<l.length):nd (l.map f) i=f (gt l i):=by
 have h1:=pq (l:=l.map f) (i:=i) (by simpa using h)
 rw [WB,bp h] at h1
 exact (Wy h1).symm
theorem GB {l r:List ab}(hl:l.length=r.length)(h:∀k,k<l.length→nd l k=nd r k):l=r:=by
 apply WV fun k=>?_
 by_cases hk:k<l.length
 ·rw [pq hk,pq (hl ▸ hk),h k hk]
 ·rw [Wl (by omega),Wl (by omega)]
theorem zg {m:Nat}{S:List Int}(hn:S.Nodup)(Nz:S.length≤8000):∀(f i:Nat) (pl:List Int),S.length - i<f→i≤S.length→(∀s∈S,0≤s∧s<pl.length)→(∀q,q<i→gt pl (gt S q).toNat=q)→
  ∃GC x,ai.l0 m S f pl (i:Int)=some (GC,x)∧GC.length=pl.length∧∀q,q<S.length→gt GC (gt S q).toNat=q
 | 0,i,pl,hf,_,_,_=>absurd hf (by omega)
 | f+1,i,pl,hf,hi,hS,hq=>by
  unfold ai.l0
  by_cases h:i<S.length
  ·obtain⟨s0,s1⟩:=hS _ (aN h)
   have hx:∃z,ix pl (gt S i)=some z:=⟨_,fQ (k:=(gt S i).toNat) (by omega) (by omega)⟩
   obtain⟨z,hx⟩:=hx
   obtain⟨GC,x,k1,k2,k3⟩:=zg (m:=m) hn Nz f (i+1) (pl.set (gt S i).toNat (i:Int)) (by omega) (by omega) (by simpa using hS) (fun q GS=>by
    rw [ef (by omega)]
    by_cases e:q=i
    ·subst e; rw [if_pos rfl]
    ·have hne:gt S q≠gt S i:=fun e2=>e (tD hn (by omega) h e2)
     have:=hS _ (aN (l:=S) (k:=q) (by omega))
     rw [if_neg (by omega)]; exact hq q (by omega))
   refine⟨GC,x,?_,by simpa using k2,k3⟩
   rw [if_pos (by simp only [decide_eq_true_eq]; omega),cn h,V3,hx,V3,aC (by omega) (by omega),show (i:Int)+1=((i+1:Nat):Int) by omega]
   exact k1
  ·exact⟨pl,_,by rw [if_neg (by simp only [decide_eq_true_eq]; omega)],rfl,fun q h=>hq q (by omega)⟩
theorem zh {m:Nat}{S:List Int}(hn:S.Nodup)(Nz:S.length≤8000):∀(f i:Nat) (pl:List Int),S.length - i<f→i≤S.length→(∀s∈S,0≤s∧s<pl.length)→(∀q,q<i→gt pl (gt S q).toNat=q)→
  ∃GC x,ai.l5 m S f pl (i:Int)=some (GC,x)∧GC.length=pl.length∧∀q,q<S.length→gt GC (gt S q).toNat=q
 | 0,i,pl,hf,_,_,_=>absurd hf (by omega)
 | f+1,i,pl,hf,hi,hS,hq=>by
  unfold ai.l5
  by_cases h:i<S.length
  ·obtain⟨s0,s1⟩:=hS _ (aN h)
   have hx:∃z,ix pl (gt S i)=some z:=⟨_,fQ (k:=(gt S i).toNat) (by omega) (by omega)⟩
   obtain⟨z,hx⟩:=hx
   obtain⟨GC,x,k1,k2,k3⟩:=zh (m:=m) hn Nz f (i+1) (pl.set (gt S i).toNat (i:Int)) (by omega) (by omega) (by simpa using hS) (fun q GS=>by
    rw [ef (by omega)]
    by_cases e:q=i
    ·subst e; rw [if_pos rfl]
    ·have hne:gt S q≠gt S i:=fun e2=>e (tD hn (by omega) h e2)
     have:=hS _ (aN (l:=S) (k:=q) (by omega))
     rw [if_neg (by omega)]; exact hq q (by omega))
   refine⟨GC,x,?_,by simpa using k2,k3⟩
   rw [if_pos (by simp only [decide_eq_true_eq]; omega),cn h,V3,hx,V3,aC (by omega) (by omega),show (i:Int)+1=((i+1:Nat):Int) by omega]
   exact k1
  ·exact⟨pl,_,by rw [if_neg (by simp only [decide_eq_true_eq]; omega)],rfl,fun q h=>hq q (by omega)⟩
theorem Cc {m:Nat}{pl:List Int}{n:ab}(h8:n.args.length≤8)(ha:∀a∈n.args,0≤a∧a<pl.length):∀(f k:Nat),n.args.length - k<f→k≤n.args.length→
  ∃x,ai.l2 m pl n f ((n.args.take k).map fun a=>gt pl a.toNat) (k:Int)=some (n.args.map fun a=>gt pl a.toNat,x)
 | 0,k,hf,_=>absurd hf (by omega)
 | f+1,k,hf,hk=>by
  unfold ai.l2
  by_cases h:k<n.args.length
  ·obtain⟨a0,a1⟩:=ha _ (aN h)
   have hy:ix pl (gt n.args k)=some (gt pl (gt n.args k).toNat):=fQ (by omega) (by omega)
   have hT:n.args.take (k+1)=n.args.take k++[gt n.args k]:=by rw [Xb,bp h]; rfl
   have la:app 8 ((n.args.take k).map fun a=>gt pl a.toNat) [gt pl (gt n.args k).toNat]=some ((n.args.take (k+1)).map fun a=>gt pl a.toNat):=by
    unfold app; rw [if_pos (by simp; omega),hT,Wx]; rfl
   obtain⟨x,ih⟩:=Cc (m:=m) h8 ha f (k+1) (by omega) (by omega)
   rw [if_pos (by simp only [decide_eq_true_eq]; omega),cn h,V3,hy,V3,la,V3,aC (by omega) (by omega),show (k:Int)+1=((k+1:Nat):Int) by omega]
   exact⟨x,ih⟩
  ·have e:k=n.args.length:=by omega
   subst e
   exact⟨_,by rw [if_neg (by simp),W9]⟩
theorem Cd {m:Nat}{pl:List Int}{n:ab}(h8:n.args.length≤8)(ha:∀a∈n.args,0≤a∧a<pl.length):∀(f k:Nat),n.args.length - k<f→k≤n.args.length→
  ∃x,ai.l7 m pl n f ((n.args.take k).map fun a=>gt pl a.toNat) (k:Int)=some (n.args.map fun a=>gt pl a.toNat,x)
 | 0,k,hf,_=>absurd hf (by omega)
 | f+1,k,hf,hk=>by
  unfold ai.l7
  by_cases h:k<n.args.length
  ·obtain⟨a0,a1⟩:=ha _ (aN h)
   have hy:ix pl (gt n.args k)=some (gt pl (gt n.args k).toNat):=fQ (by omega) (by omega)
   have hT:n.args.take (k+1)=n.args.take k++[gt n.args k]:=by rw [Xb,bp h]; rfl
   have la:app 8 ((n.args.take k).map fun a=>gt pl a.toNat) [gt pl (gt n.args k).toNat]=some ((n.args.take (k+1)).map fun a=>gt pl a.toNat):=by
    unfold app; rw [if_pos (by simp; omega),hT,Wx]; rfl
   obtain⟨x,ih⟩:=Cd (m:=m) h8 ha f (k+1) (by omega) (by omega)
   rw [if_pos (by simp only [decide_eq_true_eq]; omega),cn h,V3,hy,V3,la,V3,aC (by omega) (by omega),show (k:Int)+1=((k+1:Nat):Int) by omega]
   exact⟨x,ih⟩
  ·have e:k=n.args.length:=by omega
   subst e
   exact⟨_,by rw [if_neg (by simp),W9]⟩
theorem Ce {m:Nat}(hm:2 ^ 30≤m){l:List ab}{S pl:List Int}(ok:kH l)(hS:∀s∈S,0≤s∧s<l.length)(Nz:S.length≤8000)(zJ:pl.length=l.length):∀(f i:Nat),S.length - i<f→i≤S.length→
  ∃x,ai.l1 m l S pl f ((S.take i).map fun s=>pm pl (nd l s)) (i:Int)=some (S.map fun s=>pm pl (nd l s),x)
 | 0,i,hf,_=>absurd hf (by omega)
 | f+1,i,hf,hi=>by
  have l8:(2:Nat) ^ 30=1073741824:=by decide
  unfold ai.l1
  by_cases h:i<S.length
  ·obtain⟨s0,s1⟩:=hS _ (aN h)
   obtain⟨n1,n2⟩:=ok.2 _ (fi s0 s1)
   obtain⟨x,q1⟩:=Cc (m:=m) (pl:=pl) (n:=nd l (gt S i)) n1 (fun a ha=>by have:=n2 a ha; omega) m 0 (by omega) (by omega)
   have q1:ai.l2 m pl (nd l (gt S i)) m [] 0=_:=q1
   have hT:S.take (i+1)=S.take i++[gt S i]:=by rw [Xb,bp h]; rfl
   have la:app 56 ((S.take i).map fun s=>pm pl (nd l s)) [ab.mk (nd l (gt S i)).kind (nd l (gt S i)).int (nd l (gt S i)).label ((nd l (gt S i)).args.map fun a=>gt pl a.toNat)]=some ((S.take (i+1)).map fun s=>pm pl (nd l s)):=by
    unfold app; rw [if_pos (by simp; omega),hT,Wx]; rfl
   obtain⟨x,ih⟩:=Ce hm ok hS Nz zJ f (i+1) (by omega) (by omega)
   rw [if_pos (by simp only [decide_eq_true_eq]; omega),cn h,V3,gV s0 s1,V3,q1,V3]
   dsimp only
   rw [la,V3,aC (by omega) (by omega),show (i:Int)+1=((i+1:Nat):Int) by omega]
   exact⟨x,ih⟩
  ·have e:i=S.length:=by omega
   subst e
   exact⟨_,by rw [if_neg (by simp),W9]⟩
theorem Cf {m:Nat}{P:List ab}{c:List Int}(hc:c.length=P.length){i:Nat}(hi:i<P.length)(h8:(nd P i).args.length≤8)(ha:∀a∈(nd P i).args,0≤a∧a<P.length):∀(f k:Nat),(nd P i).args.length - k<f→k≤(nd P i).args.length→
  ∃x,ai.l4 m c (i:Int) f (P.set i ⟨(nd P i).kind,(nd P i).int,(nd P i).label,(((nd P i).args.take k).map fun a=>gt c a.toNat)++(nd P i).args.drop k⟩) (k:Int)=some (P.set i (pm c (nd P i)),x)
 | 0,k,hf,_=>absurd hf (by omega)
 | f+1,k,hf,hk=>by
  unfold ai.l4
  have mU:∀w,ix (P.set i w) (i:Int)=some w:=fun w=>by
   rw [gV (by omega) (by simpa using hi),AT hi,if_pos rfl]
  have hlen:((((nd P i).args.take k).map fun a=>gt c a.toNat)++(nd P i).args.drop k).length=(nd P i).args.length:=by simp; omega
  rw [mU,V3]
  by_cases h:k<(nd P i).args.length
  ·have hg:gt ((((nd P i).args.take k).map fun a=>gt c a.toNat)++(nd P i).args.drop k) k=gt (nd P i).args k:=by
    unfold gt
    rw [Wm,Wm,Wq (by simp; omega)]
    simp only [WI,XD,List.getElem?_drop]
    congr 2; omega
   obtain⟨a0,a1⟩:=ha _ (aN h)
   have hx:ix ((((nd P i).args.take k).map fun a=>gt c a.toNat)++(nd P i).args.drop k) (k:Int)=some (gt (nd P i).args k):=by rw [cn (by omega),hg]
   have hy:ix c (gt (nd P i).args k)=some (gt c (gt (nd P i).args k).toNat):=fQ (by omega) (by omega)
   have zQ:((((nd P i).args.take k).map fun a=>gt c a.toNat)++(nd P i).args.drop k).set k (gt c (gt (nd P i).args k).toNat)=(((nd P i).args.take (k+1)).map fun a=>gt c a.toNat)++(nd P i).args.drop (k+1):=by
    have hT:(nd P i).args.take (k+1)=(nd P i).args.take k++[gt (nd P i).args k]:=by rw [Xb,bp h]; rfl
    have hD:(nd P i).args.drop k=gt (nd P i).args k::(nd P i).args.drop (k+1):=by
     obtain⟨h4,h5⟩:=Wb.1 (bp h)
     rw [←h5]; exact Wi h4
    have KS:(((nd P i).args.take k).map fun a=>gt c a.toNat).length=k:=by simp; omega
    rw [Xz _ _ (by omega),KS,XC,hD,List.set_cons_zero,hT,Wx,Wg]
    rfl
   rw [if_pos (by simp only [decide_eq_true_eq]; omega),V3,V3]
   dsimp only
   rw [hx,V3,hy,V3,V3,V9,V9,List.set_set,zQ,aC (by omega) (by omega),show (k:Int)+1=((k+1:Nat):Int) by omega]
   exact Cf hc hi h8 ha f (k+1) (by omega) (by omega)
  ·have e:k=(nd P i).args.length:=by omega
   subst e
   refine⟨((nd P i).args.length:Int),?_⟩
   rw [if_neg (by simp only [decide_eq_true_eq]; omega),W9,List.drop_length,Xd]
   rfl
theorem Cg {m:Nat}(hm:2 ^ 30≤m){P:List ab}{c:List Int}(ok:kH P)(hc:c.length=P.length):∀(f i:Nat) (Q:List ab),P.length - i<f→i≤P.length→Q.length=P.length→(∀q,q<P.length→nd Q q=if q<i then pm c (nd P q) else nd P q)→
  ∃x,ai.l3 m c f Q (i:Int)=some (P.map (pm c),x)
 | 0,i,Q,hf,_,_,_=>absurd hf (by omega)
 | f+1,i,Q,hf,hi,hl,hq=>by
  have l8:(2:Nat) ^ 30=1073741824:=by decide
  have h8:=ok.1
  unfold ai.l3
  by_cases h:i<P.length
  ·obtain⟨n1,n2⟩:=yI ok h
   have Of:nd Q i=nd P i:=by rw [hq i h,if_neg (by omega)]
   obtain⟨x,q1⟩:=Cf (m:=m) (P:=Q) (c:=c) (by omega) (i:=i) (by omega) (by rw [Of]; exact n1) (by rw [Of,hl]; exact n2) m 0 (by rw [Of]; omega) (by omega)
   have mU:Q.set i ⟨(nd Q i).kind,(nd Q i).int,(nd Q i).label,(((nd Q i).args.take 0).map fun a=>gt c a.toNat)++(nd Q i).args.drop 0⟩=Q:=by
    refine GB (by simp) fun k hk=>?_
    rw [AT (by omega)]
    by_cases e:k=i
    ·subst e; rw [if_pos rfl]; simp
    ·rw [if_neg e]
   rw [mU] at q1
   have q1:ai.l4 m c (i:Int) m Q 0=_:=q1
   rw [if_pos (by simp only [decide_eq_true_eq]; omega),q1,V3]
   dsimp only
   rw [aC (by omega) (by omega),show (i:Int)+1=((i+1:Nat):Int) by omega]
   refine Cg hm ok hc f (i+1) _ (by omega) (by omega) (by simpa using hl) fun q UQ=>?_
   rw [AT (by omega)]
   by_cases e:q=i
   ·subst e; rw [if_pos rfl,if_pos (by omega),Of]
   ·rw [if_neg e,hq q UQ]
    by_cases hlt:q<i
    ·rw [if_pos hlt,if_pos (by omega)]
    ·rw [if_neg hlt,if_neg (by omega)]
  ·have e:i=P.length:=by omega
   subst e
   refine⟨(P.length:Int),?_⟩
   rw [if_neg (by simp only [decide_eq_true_eq]; omega)]
   have:Q=P.map (pm c):=GB (by simpa using hl) fun k hk=>by rw [hq k (by omega),if_pos (by omega),GA (by omega)]
   rw [this]
theorem GD {m:Nat}(hm:2 ^ 30≤m){P:List ab}{T pl:List Int}(ok:kH P)(hT:∀t∈T,0≤t∧t<P.length)(UR:T.length≤8000)(zJ:P.length≤pl.length):∀(f i:Nat),T.length - i<f→i≤T.length→
  ∃x,ai.l6 m P T pl f (i:Int) ((T.take i).map fun t=>pm pl (nd P t)) 0=some (x,T.map fun t=>pm pl (nd P t),0)
 | 0,i,hf,_=>absurd hf (by omega)
 | f+1,i,hf,hi=>by
  have l8:(2:Nat) ^ 30=1073741824:=by decide
  unfold ai.l6
  by_cases h:i<T.length
  ·obtain⟨s0,s1⟩:=hT _ (aN h)
   obtain⟨n1,n2⟩:=ok.2 _ (fi s0 s1)
   obtain⟨x,q1⟩:=Cd (m:=m) (pl:=pl) (n:=nd P (gt T i)) n1 (fun a ha=>by have:=n2 a ha; omega) m 0 (by omega) (by omega)
   have q1:ai.l7 m pl (nd P (gt T i)) m [] 0=_:=q1
   have US:T.take (i+1)=T.take i++[gt T i]:=by rw [Xb,bp h]; rfl
   have la:app 56 ((T.take i).map fun t=>pm pl (nd P t)) [ab.mk (nd P (gt T i)).kind (nd P (gt T i)).int (nd P (gt T i)).label ((nd P (gt T i)).args.map fun a=>gt pl a.toNat)]=some ((T.take (i+1)).map fun t=>pm pl (nd P t)):=by
    unfold app; rw [if_pos (by simp; omega),US,Wx]; rfl
   obtain⟨x,ih⟩:=GD hm ok hT UR zJ f (i+1) (by omega) (by omega)
   rw [if_pos (by simp only [decide_eq_true_eq]; omega),cn h,V3,gV s0 s1,V3,q1,V3]
   dsimp only
   rw [la,V3,aC (by omega) (by omega),show (i:Int)+1=((i+1:Nat):Int) by omega]
   exact⟨x,ih⟩
  ·have e:i=T.length:=by omega
   subst e
   exact⟨_,by rw [if_neg (by simp),W9]⟩
end Go.Proofs.YtmekcfdllhphlaaDoor
namespace Go.Proofs.YtmekcfdllhphlaaDoor
open Go Go.R
open Go.IntKind (i64 u64 u8 u32)
inductive Way (l:List ab):Nat→Nat→Prop
 | one {i k:Nat}:k<na l i→Way l i (ar l i k)
 | more {i j k:Nat}:Way l i j→k<na l j→Way l i (ar l j k)
theorem Ie {l:List ab}{c od:List Int}(ok:kH l)(M:KI l c od){i j:Nat}(w:Way l i j)(hi:i<l.length):j<l.length∧∀x:Nat,x<l.length→(x:Int)∈od→gt c x=gt c i→∃y:Nat,y<l.length∧gt c y=gt c j∧(y:Int)∈od∧od.idxOf (y:Int)<od.idxOf (x:Int):=by
 induction w with
 | @one k hk=>
  refine⟨(j6 ok hi hk).1,fun x hx NA e=>?_⟩
  have hA:=M.min.top i x hi hx e.symm
  have S4:k<na l x:=by have:=hA.len; unfold na at *; omega
  obtain⟨r1,r2⟩:=M.uI x NA k S4
  exact⟨ar l x k,(j6 ok hx S4).1,(M.min.arg i x hi hx e.symm k hk).symm,r1,r2⟩
 | @more j k w hk ih=>
  obtain⟨hj,ih⟩:=ih
  refine⟨(j6 ok hj hk).1,fun x hx NA e=>?_⟩
  obtain⟨y,hy,ey,QT,hlt⟩:=ih x hx NA e
  have hA:=M.min.top j y hj hy ey.symm
  have S8:k<na l y:=by have:=hA.len; unfold na at *; omega
  obtain⟨r1,r2⟩:=M.uI y QT k S8
  exact⟨ar l y k,(j6 ok hy S8).1,(M.min.arg j y hj hy ey.symm k hk).symm,r1,by omega⟩
theorem AU {l:List ab}{c od:List Int}(ok:kH l)(M:KI l c od)(h0:0<l.length)(hw:∀j,0<j→j<l.length→Way l 0 j):gt c 0=0:=by
 obtain⟨r1,r2,r3⟩:=M.py 0 h0
 by_cases S9:((0:Nat):Int)∈od
 ·by_cases hz:gt c 0=0
  ·exact hz
  ·exfalso
   have w:=hw (gt c 0).toNat (by omega) (by omega)
   have key:∀N x:Nat,od.idxOf (x:Int)<N→x<l.length→(x:Int)∈od→gt c x=gt c 0→False:=by
    intro N
    induction N with
    | zero=>intro x h; omega
    | succ N ih=>
     intro x hN hx NA e
     obtain⟨y,hy,ey,QT,hlt⟩:=(Ie ok M w h0).2 x hx NA e
     exact ih y (by omega) hy QT (by rw [ey,r3])
   exact key _ 0 (WN _) h0 S9 rfl
 ·have:=M.UP 0 h0 S9
  omega
theorem lock {l P5:List ab}{κ1:Int→Int}{K2:Int→Int}{Can:Int→Prop}(QU:∀v w,Can v→Can w→K2 v=K2 w→v=w)
  (hargs:∀a v:Int,0≤a→a<l.length→Can v→κ1 a=K2 v→(nd l a).args.map κ1=(nd P5 v).args.map K2) (QV:∀v,Can v→∀a∈(nd P5 v).args,Can a) (ok:kH l) {H8 o2 G2:List Int}
  (h:tT id (fun v=>(nd P5 v).args) H8 o2 G2):∀um o1:List Int,um.map κ1=H8.map K2→o1.map κ1=o2.map K2→(∀b∈H8,Can b)→(∀b∈o2,Can b)→(∀a∈um,0≤a∧a<l.length)→
  ∃Ln,tT κ1 (fun v=>(nd l v).args) um o1 Ln∧Ln.map κ1=G2.map K2:=by
 induction h with
 | nil o=>
  intro um o1 hs ho _ _ _
  have:um=[]:=by simpa using hs
  subst this
  exact⟨o1,.nil o1,ho⟩
 | @skip v st o o' hm _ ih=>
  intro um o1 hs ho c1 c2 hr
  cases um with
  | nil=>simp at hs
  | cons a um=>
   simp only [Wo,List.cons.injEq] at hs
   obtain⟨Ln,k1,k2⟩:=ih um o1 hs.2 ho (fun b hb=>c1 b (by simp [hb])) c2 (fun x hx=>hr x (by simp [hx]))
   refine⟨Ln,.skip ?_ k1,k2⟩
   rw [hs.1,ho]
   exact Wv.2 ⟨v,by simpa using hm,rfl⟩
 | @push v st o o' hn _ ih=>
  intro um o1 hs ho c1 c2 hr
  cases um with
  | nil=>simp at hs
  | cons a um=>
   simp only [Wo,List.cons.injEq] at hs
   have hv:=c1 v (by simp)
   have ha:=hr a (by simp)
   have e:=hargs a v ha.1 ha.2 hv hs.1
   obtain⟨Ln,k1,k2⟩:=ih ((nd l a).args++um) (o1++[a]) (by rw [Wx,Wx,e,hs.2]) (by rw [Wx,Wx,ho]; simp [hs.1]) (fun b hb=>by
    rcases Wk.1 hb with hb | hb
    ·exact QV v hv b hb
    ·exact c1 b (by simp [hb])) (fun b hb=>by
    rcases Wk.1 hb with hb | hb
    ·exact c2 b hb
    ·rw [Wf] at hb; subst hb; exact hv) (fun x hx=>by
    rcases Wk.1 hx with hx | hx
    ·exact (ok.2 _ (fi ha.1 ha.2)).2 x hx
    ·exact hr x (by simp [hx]))
   refine⟨Ln,.push ?_ k1,k2⟩
   rw [hs.1,ho]
   intro hm
   obtain⟨w,w1,w2⟩:=Wv.1 hm
   have:=QU v w hv (c2 w w1) w2.symm
   subst this
   exact hn (by simpa using w1)
theorem GF {m:Nat}(hm:2 ^ 41≤m){t:aj}(h:eh t=true):∃s,cq.f m t=some s∧ai.f m t.nodes t.root=some s:=by
 have l8:(2:Nat) ^ 30=1073741824:=by decide
 have rl:(2:Nat) ^ 41=2199023255552:=by decide
 have DA:2 ^ 30≤m:=by omega
 obtain⟨ok,h1,r0,r1,hT⟩:=iT h
 obtain⟨r,ns,e1,M,Q,_⟩:=kZ hm h
 have h8:=ok.1
 generalize hl:t.nodes=l at *
 have QX:tT (dV r) (fun v=>(nd l v).args) [t.root] [] (qU r l m t.root []):=pg ok m t.root [] [] _ r0 r1 ⟨by simp,fun x hx=>by cases hx⟩ (by simp; omega) (.nil _)
 obtain⟨S,s1,s2⟩:=pj DA ok r0 r1
 have hA:∀v:Int,0≤v→v<l.length→∀a∈(nd l v).args,0≤a∧a<l.length:=fun v a b=>(ok.2 _ (fi a b)).2
 obtain⟨_,Sr,Sn,_,Sc⟩:=s2.facts hA (fun v hv=>by rw [Wf] at hv; subst hv; exact⟨r0,r1⟩) (fun v hv=>by cases hv) (by simp)
 rw [List.map_id] at Sn
 have Sc:∀v∈S,∀a∈(nd l v).args,a∈S:=fun v hv a ha=>by have:=Sc (fun v hv=>by cases hv) v hv a ha; simpa using this
 have S0:∃T,S=t.root::T:=by
  cases s2 with
  | skip uZ _=>simp at uZ
  | push _ k=>
   obtain⟨⟨T,e⟩,_⟩:=k.facts hA (fun v hv=>by
    rcases Wk.1 hv with hv | hv
    ·exact hA _ r0 r1 v hv
    ·cases hv) (fun v hv=>by simp at hv; subst hv; exact⟨r0,r1⟩) (by simp)
   exact⟨T,by simpa using e⟩
 have Sl:S.length≤l.length:=ph Sn Sr
 have Sp:0<S.length:=by obtain⟨T,rfl⟩:=S0; simp
 have I0:gt S 0=t.root:=by obtain⟨T,rfl⟩:=S0; rfl
 have NB:=s2.from (root:=t.root) (fun v hv=>by rw [Wf] at hv; exact .inl hv) (fun i hi=>absurd hi (by simp))
 have e0:uv 8 (l.length:Int) (0:Int)=some (Wn l.length 0):=by unfold uv; rw [if_pos ⟨by omega,by rw [V9]; omega⟩,V9]
 obtain⟨pl,x1,p1,p2,p3⟩:=zg (m:=m) Sn (by omega) m 0 (Wn l.length 0) (by omega) (by omega) (by simpa using Sr) (fun q hq=>absurd hq (by omega))
 rw [List.length_replicate] at p2
 have p1:ai.l0 m S m (Wn l.length 0) 0=_:=p1
 obtain⟨x2,p4⟩:=Ce DA ok Sr (by omega) p2 m 0 (by omega) (by omega)
 have p4:ai.l1 m l S pl m [] 0=_:=p4
 generalize QY:(S.map fun s=>pm pl (nd l s))=P1 at p4
 have Og:P1.length=S.length:=by rw [←QY]; simp
 have I1:∀i:Nat,i<S.length→nd P1 i=pm pl (nd l (gt S i)):=fun i hi=>by rw [←QY,Ic hi]
 have Oh:∀{x:Int},x∈S→gt S (gt pl x.toNat).toNat=x∧0≤gt pl x.toNat∧gt pl x.toNat<S.length:=fun hx=>by
  obtain⟨q,hq,e⟩:=eL hx
  have:=p3 q hq
  rw [e] at this
  rw [this,V9]; exact⟨e,by omega,by omega⟩
 have QZ:∀i:Nat,i<S.length→∀a∈(nd l (gt S i)).args,a∈S:=fun i hi=>Sc _ (aN hi)
 have DO:kH P1:=by
  refine⟨by omega,fun n hn=>?_⟩
  rw [←QY] at hn
  obtain⟨s,hs,rfl⟩:=Wv.1 hn
  have hr:=Sr s hs
  refine⟨by simpa [pm] using (ok.2 _ (fi hr.1 hr.2)).1,fun a ha=>?_⟩
  obtain⟨x,hx,rfl⟩:=Wv.1 ha
  have:=Oh (Sc s hs x hx)
  rw [Og]; exact this.2
 obtain⟨c,od,c1,C⟩:=zf DA DO
 have cl:c.length=P1.length:=C.min.len
 have Q0:∀i:Nat,i<S.length→na P1 i=na l (gt S i).toNat:=fun i hi=>by
  have:=Sr _ (aN hi)
  unfold na
  rw [I1 i hi]
  show ((nd l (gt S i)).args.map _).length=_
  rw [WI,show (((gt S i).toNat:Nat):Int)=gt S i by omega]
 have NC:∀i:Nat,i<S.length→∀k,k<na P1 i→gt S (ar P1 i k)=gt (nd l (gt S i)).args k:=fun i hi k hk=>by
  have pJ:k<(nd l (gt S i)).args.length:=by
   have:=hk; unfold na at this; rw [I1 i hi] at this; simpa [pm] using this
  have hx:=QZ i hi _ (aN pJ)
  have:gt (nd P1 i).args k=gt pl (gt (nd l (gt S i)).args k).toNat:=by
   rw [I1 i hi]
   have h1:=bp (l:=(pm pl (nd l (gt S i))).args) (k:=k) (by simpa [pm] using pJ)
   have h2:(pm pl (nd l (gt S i))).args[k]? = some (gt pl (gt (nd l (gt S i)).args k).toNat):=by
    show ((nd l (gt S i)).args.map _)[k]? = _
    rw [WB,bp pJ]; rfl
   rw [h2] at h1; exact (Wy h1).symm
  unfold ar
  rw [this]
  exact (Oh hx).1
 have UT:∀j,0<j→j<P1.length→Way P1 0 j:=by
  have:∀N j,j<N→0<j→j<P1.length→Way P1 0 j:=by
   intro N
   induction N with
   | zero=>intro j h; omega
   | succ N ih=>
    intro j hN hj VZ
    rcases NB j (by omega) with e | ⟨q,hq,uZ⟩
    ·have:=tD Sn (by omega) Sp (e.trans I0.symm)
     omega
    ·obtain⟨k,hk,e⟩:=eL uZ
     have D5:k<na P1 q:=by unfold na; rw [I1 q (by omega)]; simpa [pm] using hk
     have h2:=NC q (by omega) k D5
     rw [e] at h2
     have h3:=(j6 DO (i:=q) (by omega) D5).1
     have e4:ar P1 q k=j:=tD Sn (by omega) (by omega) h2
     rw [←e4]
     by_cases UU:q=0
     ·subst UU; exact .one D5
     ·exact .more (ih q (by omega) (by omega) (by omega)) D5
  exact fun j=>this (j+1) j (WN _)
 have UW:gt c 0=0:=AU DO C (by omega) UT
 have zi:∀i:Nat,i<S.length→(((gt S i).toNat:Nat):Int)=gt S i∧(gt S i).toNat<l.length:=fun i hi=>by have:=Sr _ (aN hi); omega
 have Ta:∀i j:Nat,i<S.length→j<S.length→(Alike (nd P1 i) (nd P1 j)↔Alike (nd l (gt S i)) (nd l (gt S j))):=fun i j hi hj=>by
  rw [I1 i hi,I1 j hj]
  constructor
  ·intro z; exact⟨z.kind,z.int,z.label,by have:=z.len; simpa [pm] using this⟩
  ·intro z; exact⟨z.kind,z.int,z.label,by have:=z.len; simpa [pm] using this⟩
 have cr:∀i j:Nat,i<S.length→j<S.length→(gt c i=gt c j↔gt r (gt S i).toNat=gt r (gt S j).toNat):=fun i j hi hj=>by
  constructor
  ·intro e
   refine M.max (fun a b=>∃i j:Nat,i<S.length∧j<S.length∧a=(gt S i).toNat∧b=(gt S j).toNat∧gt c i=gt c j) ⟨?_,?_,?_⟩ _ _ ⟨i,j,hi,hj,rfl,rfl,e⟩
   ·rintro a b ⟨i,j,hi,hj,rfl,rfl,_⟩
    exact⟨(zi i hi).2,(zi j hj).2⟩
   ·rintro a b ⟨i,j,hi,hj,rfl,rfl,e⟩
    rw [(zi i hi).1,(zi j hj).1]
    exact (Ta i j hi hj).1 (C.min.top i j (by omega) (by omega) e)
   ·rintro a b ⟨i,j,hi,hj,rfl,rfl,e⟩ k hk
    rw [(zi i hi).1] at hk ⊢
    rw [(zi j hj).1]
    have rO:k<na P1 i:=by rw [Q0 i hi]; unfold na; rw [(zi i hi).1]; exact hk
    have Lb:k<na P1 j:=by have:=(C.min.top i j (by omega) (by omega) e).len; unfold na at *; omega
    have a1:=(j6 DO (i:=i) (by omega) rO).1
    have a2:=(j6 DO (i:=j) (by omega) Lb).1
    refine⟨ar P1 i k,ar P1 j k,by omega,by omega,?_,?_,C.min.arg i j (by omega) (by omega) e k rO⟩
    ·rw [NC i hi k rO]
    ·rw [NC j hj k Lb]
  ·intro e
   refine C.min.max (fun a b=>a<S.length∧b<S.length∧gt r (gt S a).toNat=gt r (gt S b).toNat) ⟨?_,?_,?_⟩ i j ⟨hi,hj,e⟩
   ·rintro a b ⟨h1,h2,_⟩; omega
   ·rintro a b ⟨h1,h2,e⟩
    refine (Ta a b h1 h2).2 ?_
    have:=M.top _ _ (zi a h1).2 (zi b h2).2 e
    rwa [(zi a h1).1,(zi b h2).1] at this
   ·rintro a b ⟨h1,h2,e⟩ k hk
    have hA:=M.top _ _ (zi a h1).2 (zi b h2).2 e
    have Hy:k<na P1 a:=hk
    have G9:k<(nd l (((gt S a).toNat:Nat):Int)).args.length:=by have:=Q0 a h1; unfold na at this Hy; omega
    have hkb:k<na P1 b:=by rw [Q0 b h2]; have:=hA.len; unfold na; omega
    have g:=M.arg _ _ (zi a h1).2 (zi b h2).2 e k G9
    rw [(zi a h1).1,(zi b h2).1] at g
    have a1:=(j6 DO (i:=a) (by omega) Hy).1
    have a2:=(j6 DO (i:=b) (by omega) hkb).1
    refine⟨by show ar P1 a k<_; omega,by show ar P1 b k<_; omega,?_⟩
    show gt r (gt S (ar P1 a k)).toNat=gt r (gt S (ar P1 b k)).toNat
    rw [NC a h1 k Hy,NC b h2 k hkb]; exact g
 obtain⟨x3,p5⟩:=Cg DA DO cl m 0 P1 (by omega) (by omega) rfl (fun q hq=>by rw [if_neg (by omega)])
 have p5:ai.l3 m c m P1 0=_:=p5
 have Tb:∀i:Nat,i<S.length→nd (P1.map (pm c)) i=pm c (nd P1 i):=fun i hi=>GA (by omega)
 have KL:∀i:Nat,i<S.length→0≤gt c i∧gt c i<S.length∧gt c (gt c i).toNat=gt c i:=fun i hi=>by have:=C.py i (by omega); rw [Og] at this; exact this
 have Q5:kH (P1.map (pm c)):=by
  refine⟨by simp; omega,fun n hn=>?_⟩
  obtain⟨n1,Jm,rfl⟩:=Wv.1 hn
  obtain⟨q1,q2⟩:=DO.2 n1 Jm
  refine⟨by simpa [pm] using q1,fun a ha=>?_⟩
  obtain⟨x,hx,rfl⟩:=Wv.1 ha
  have:=q2 x hx
  have:=KL x.toNat (by omega)
  rw [WI,Og]; omega
 obtain⟨T,t1,t2⟩:=pj DA Q5 (root:=0) (by omega) (by simp; omega)
 generalize UX:P1.map (pm c)=P5 at *
 have V0:P5.length=S.length:=by rw [←UX]; simp [Og]
 have UY:∀v:Int,0≤v→v<P5.length→∀a∈(nd P5 v).args,0≤a∧a<P5.length:=fun v a b=>(Q5.2 _ (fi a b)).2
 obtain⟨_,Tr,Tn,_,Tc⟩:=t2.facts UY (fun v hv=>by rw [Wf] at hv; subst hv; omega) (fun v hv=>by cases hv) (by simp)
 rw [List.map_id] at Tn
 have Tc:∀v∈T,∀a∈(nd P5 v).args,a∈T:=fun v hv a ha=>by have:=Tc (fun v hv=>by cases hv) v hv a ha; simpa using this
 have Tl:T.length≤P5.length:=ph Tn Tr
 obtain⟨Q6,x4,p6,p7,p8⟩:=zh (m:=m) Tn (by omega) m 0 pl (by omega) (by omega) (fun s hs=>by have:=Tr s hs; omega) (fun q hq=>absurd hq (by omega))
 have p6:ai.l5 m T m pl 0=_:=p6
 obtain⟨x5,p9⟩:=GD (m:=m) DA Q5 Tr (by omega) (pl:=Q6) (by omega) m 0 (by omega) (by omega)
 have p9:ai.l6 m P5 T Q6 m 0 [] 0=_:=p9
 let K2:Int→Int:=fun b=>dV r (gt S b.toNat)
 let Can:Int→Prop:=fun b=>0≤b∧b<S.length∧gt c b.toNat=b
 have Td:∀x:Int,x∈S→K2 (gt c (gt pl x.toNat).toNat)=dV r x:=fun x hx=>by
  obtain⟨i1,i2,i3⟩:=Oh hx
  obtain⟨g1,g2,g3⟩:=KL (gt pl x.toNat).toNat (by omega)
  show dV r (gt S (gt c (gt pl x.toNat).toNat).toNat)=_
  have:=(cr (gt c (gt pl x.toNat).toNat).toNat (gt pl x.toNat).toNat (by omega) (by omega)).1 g3
  unfold dV
  rw [this,i1]
 have Ch:∀v:Int,0≤v→v<S.length→(nd P5 v).args=(nd l (gt S v.toNat)).args.map fun x=>gt c (gt pl x.toNat).toNat:=fun v v0 v1=>by
  have:=Tb v.toNat (by omega)
  rw [show ((v.toNat:Nat):Int)=v by omega] at this
  rw [this]
  have h2:=I1 v.toNat (by omega)
  rw [show ((v.toNat:Nat):Int)=v by omega] at h2
  rw [h2]
  show ((nd l (gt S v.toNat)).args.map _).map _=_
  rw [List.map_map]; rfl
 have same:∀a b:Int,0≤a→a<l.length→0≤b→b<l.length→dV r a=dV r b→Alike (nd l a) (nd l b)∧(nd l a).args.map (dV r)=(nd l b).args.map (dV r):=fun a b a0 a1 b0 b1 e=>by
  have ea:((a.toNat:Nat):Int)=a:=by omega
  have eb:((b.toNat:Nat):Int)=b:=by omega
  have e:gt r a.toNat=gt r b.toNat:=e
  have hA:=M.top a.toNat b.toNat (by omega) (by omega) e
  have hg:=M.arg a.toNat b.toNat (by omega) (by omega) e
  rw [ea,eb] at hA hg
  refine⟨hA,WV fun k=>?_⟩
  simp only [WB]
  by_cases hk:k<(nd l a).args.length
  ·rw [bp hk,bp (by have:=hA.len; omega)]
   simp only [Wa,V6]
   exact hg k hk
  ·rw [Wl (by omega),Wl (by have:=hA.len; omega)]
 obtain⟨o1,q1,q2⟩:=lock (l:=l) (P5:=P5) (κ1:=dV r) (K2:=K2) (Can:=Can) (fun v w hv hw e=>by
   have:=(cr v.toNat w.toNat (by have:=hv.1; have:=hv.2.1; omega) (by have:=hw.1; have:=hw.2.1; omega)).2 e
   rw [hv.2.2,hw.2.2] at this; exact this) (fun a v a0 a1 hv e=>by
   have hS:=aN (l:=S) (k:=v.toNat) (by have:=hv.1; have:=hv.2.1; omega)
   have hr:=Sr _ hS
   rw [(same a _ a0 a1 hr.1 hr.2 e).2,Ch v hv.1 hv.2.1,List.map_map]
   refine Xc fun x hx=>?_
   exact (Td x (Sc _ hS x hx)).symm) (fun v hv a ha=>by
   rw [Ch v hv.1 hv.2.1] at ha
   obtain⟨x,hx,rfl⟩:=Wv.1 ha
   have hS:=aN (l:=S) (k:=v.toNat) (by have:=hv.1; have:=hv.2.1; omega)
   have:=Oh (Sc _ hS x hx)
   exact KL (gt pl x.toNat).toNat (by omega)) ok t2 [t.root] [] (by
   show [dV r t.root]=[dV r (gt S 0)]; rw [I0]) rfl (fun b hb=>by
   rw [Wf] at hb; subst hb
   exact⟨by omega,by omega,UW⟩) (fun b hb=>by cases hb) (fun a ha=>by rw [Wf] at ha; subst ha; exact⟨r0,r1⟩)
 have eo:=q1.SK QX
 rw [eo] at q2
 generalize hO:qU r l m t.root []=O at *
 have OT:O.length=T.length:=by have:=congrArg List.length q2; simpa using this
 have OK:∀k,k<T.length→dV r (gt O k)=K2 (gt T k):=fun k hk=>by
  have:=congrArg (fun z=>z[k]?) q2
  simp only [WB] at this
  rw [bp (by omega),bp hk] at this
  simpa using this
 have UZ:ns=T.map fun v=>pm Q6 (nd P5 v):=by
  have hlen:=Q.len
  apply WV fun k=>?_
  by_cases hk:k<T.length
  ·rw [Q.new k (by simp) (by omega),WB,bp hk]
   simp only [Wa,V6]
   have hOr:=Q.vs.nc _ (aN (l:=O) (k:=k) (by omega))
   have Te:=Tr _ (aN hk)
   have hS:=aN (l:=S) (k:=(gt T k).toNat) (by omega)
   have Tf:=Sr _ hS
   obtain⟨hA,hM⟩:=same _ _ hOr.1 hOr.2 Tf.1 Tf.2 (OK k hk)
   have KM:(nd P5 (gt T k)).kind=(nd l (gt S (gt T k).toNat)).kind∧(nd P5 (gt T k)).int=(nd l (gt S (gt T k).toNat)).int∧(nd P5 (gt T k)).label=(nd l (gt S (gt T k).toNat)).label:=by
    have:=Tb (gt T k).toNat (by omega)
    rw [show (((gt T k).toNat:Nat):Int)=gt T k by omega] at this
    rw [this]
    have h2:=I1 (gt T k).toNat (by omega)
    rw [show (((gt T k).toNat:Nat):Int)=gt T k by omega] at h2
    rw [h2]
    exact⟨rfl,rfl,rfl⟩
   unfold uF pm
   rw [hA.kind,hA.int,hA.label,KM.1,KM.2.1,KM.2.2]
   congr 1
   rw [Ch _ Te.1 (by omega),List.map_map]
   apply WV fun j=>?_
   simp only [WB]
   by_cases hj:j<(nd l (gt O k)).args.length
   ·have Ee:j<(nd l (gt S (gt T k).toNat)).args.length:=by have:=hA.len; omega
    rw [bp hj,bp Ee]
    simp only [Wa,V6,Function.comp]
    have ex:dV r (gt (nd l (gt O k)).args j)=dV r (gt (nd l (gt S (gt T k).toNat)).args j):=by
     have:=congrArg (fun z=>z[j]?) hM
     simp only [WB] at this
     rw [bp hj,bp Ee] at this
     simpa using this
    have hin:gt c (gt pl (gt (nd l (gt S (gt T k).toNat)).args j).toNat).toNat∈T:=by
     refine Tc _ (aN hk) _ ?_
     rw [Ch _ Te.1 (by omega)]
     exact Wv.2 ⟨_,aN Ee,rfl⟩
    obtain⟨q,hq,eq⟩:=eL hin
    have Tg:=p8 q hq
    rw [eq] at Tg
    rw [Tg]
    unfold idx
    have Av:=Q.vs.G0
    have hget:(O.map (dV r))[q]? = some (dV r (gt (nd l (gt O k)).args j)):=by
     rw [WB,bp (by omega)]
     simp only [Wa,V6]
     rw [OK q hq,eq,Td _ (Sc _ hS _ (aN Ee)),ex]
    obtain⟨g1,g2⟩:=Wb.1 hget
    rw [←g2,Av.idxOf_getElem]
   ·rw [Wl (by omega),Wl (by have:=hA.len; omega)]
    rfl
  ·rw [Wl (by omega),Wl (by simp; omega)]
 refine⟨⟨ns,0⟩,e1,?_⟩
 unfold ai.f
 rw [s1,V3,e0,V3,p1,V3]
 dsimp only
 rw [p4,V3]
 dsimp only
 rw [c1,V3,p5,V3]
 dsimp only
 rw [t1,V3,p6,V3]
 dsimp only
 rw [p9,V3,UZ]
end Go.Proofs.YtmekcfdllhphlaaDoor
namespace Go.Proofs.YtmekcfdllhphlaaDoor
open Go Go.R
open Go.IntKind (i64 u64 u8 u32)
theorem tW {m:Nat}(hm:2 ^ 41≤m){t:aj}(h0:HZ t):∃s e,ep.f m t=some (s,e)∧eW.f m t=some (s,e)∧(e=0→qW s)∧(e=0↔eh t=true)∧(e≠0→e=2∧s=⟨[],0⟩):=by
 have l8:(2:Nat) ^ 30=1073741824:=by decide
 have rl:(2:Nat) ^ 41=2199023255552:=by decide
 unfold ep.f eW.f
 rw [tA (by omega),zc (by omega),V3,V3]
 cases h:eh t with
 | false=>exact⟨_,_,rfl,rfl,fun h=>absurd h (by decide),by simp,fun _=>⟨rfl,rfl⟩⟩
 | true=>
  obtain⟨s,k1,k2⟩:=GF hm h
  obtain⟨s',k3,L⟩:=vB hm h h0
  rw [k1] at k3
  cases k3
  rw [if_neg (by simp),if_neg (by simp),k1,k2]
  exact⟨_,_,rfl,rfl,fun _=>L,by simp,fun h=>absurd rfl h⟩
end Go.Proofs.YtmekcfdllhphlaaDoor
namespace Go.Proofs.YtmekcfdllhphlaaDoor
open Go Go.R
open Go.IntKind (i64 u64 u8 u32)
def lf (m:Nat)(t:aj):aj:=(cq.f m t).getD ⟨[],0⟩
structure Lf (m:Nat)(t:aj):Prop where
 eq:cq.f m t=some (lf m t)
 top:ep.f m t=some (lf m t,0)
 ref:eW.f m t=some (lf m t,0)
 lt:qW (lf m t)
 val:eh (lf m t)=true
 len:(lf m t).nodes.length≤t.nodes.length
 U0:HZ (lf m t)
 idem:lf m (lf m t)=lf m t
theorem Ci {m:Nat}(hm:2 ^ 41≤m){t:aj}(h:eh t=true)(h0:HZ t):Lf m t:=by
 obtain⟨s,e1,v,l,e2⟩:=AM hm h
 obtain⟨s',e',k1,k2,k3,k4,_⟩:=tW hm h0
 have hs:lf m t=s:=by unfold lf; rw [e1]; rfl
 have:=k4.2 h
 subst this
 obtain⟨s2,k5,L⟩:=vB hm h h0
 rw [e1] at k5
 cases k5
 have hv:ep.f m t=some (s,0):=by
  have rl:(2:Nat) ^ 41=2199023255552:=by decide
  have l8:(2:Nat) ^ 30=1073741824:=by decide
  unfold ep.f
  rw [tA (by omega),V3,h,if_neg (by simp),e1]; rfl
 rw [hv] at k1
 cases k1
 have hi:lf m s=s:=by unfold lf; rw [e2]; rfl
 exact⟨by rw [hs]; exact e1,by rw [hs]; exact hv,by rw [hs]; exact k2,by rw [hs]; exact L,by rw [hs]; exact v,by rw [hs]; exact l,by rw [hs]; exact fun n hn=>(L.nodes n hn).2.1,by rw [hs]; exact hi⟩
structure uL (m:Nat)(l:List aj):Prop where
 qV:l.length≤8
 val:∀t∈l,eh t=true∧HZ t
 ND:∀t∈l,(lf m t).nodes.any (fun n=>n.kind==4)=false
 sum:(l.map fun t=>t.nodes.length).sum≤300
theorem uL.lf {m:Nat}(hm:2 ^ 41≤m){l:List aj}(I:uL m l){t:aj}(ht:t∈l):Lf m t:=Ci hm (I.val t ht).1 (I.val t ht).2
theorem GG {m:Nat}:∀{l:List aj},(∀t∈l,Lf m t)→((l.map (lf m)).map fun t=>t.nodes.length).sum≤(l.map fun t=>t.nodes.length).sum
 | [],_=>by simp
 | a::l,h=>by
  have h1:=(h a (by simp)).len
  have:=GG (l:=l) fun t ht=>h t (by simp [ht])
  simp only [Wo,List.sum_cons]
  omega
theorem If {l:List aj}{t:aj}(h:t∈l):t.nodes.length≤(l.map fun t=>t.nodes.length).sum:=by
 induction l with
 | nil=>cases h
 | cons a l ih=>
  simp only [Wo,List.sum_cons]
  rcases WG.1 h with rfl | h
  ·omega
  ·have:=ih h; omega
theorem uL.least {m:Nat}(hm:2 ^ 41≤m){l:List aj}(I:uL m l):uL m (l.map (Go.Proofs.YtmekcfdllhphlaaDoor.lf m)):=by
 refine⟨by simpa using I.qV,fun t ht=>?_,fun t ht=>?_,WQ (GG fun t ht=>I.lf hm ht) I.sum⟩
 ·obtain⟨u,hu,rfl⟩:=Wv.1 ht
  exact⟨(I.lf hm hu).val,(I.lf hm hu).U0⟩
 ·obtain⟨u,hu,rfl⟩:=Wv.1 ht
  rw [(I.lf hm hu).idem]
  exact I.ND u hu
theorem uL.idem {m:Nat}(hm:2 ^ 41≤m){l:List aj}(I:uL m l):(l.map (Go.Proofs.YtmekcfdllhphlaaDoor.lf m)).map (Go.Proofs.YtmekcfdllhphlaaDoor.lf m)=l.map (Go.Proofs.YtmekcfdllhphlaaDoor.lf m):=by
 rw [List.map_map]
 exact Xc fun t ht=>(I.lf hm ht).idem
theorem uL.rev {m:Nat}{l:List aj}(I:uL m l):uL m l.reverse:=
 ⟨by simpa using I.qV,fun t ht=>I.val t (by simpa using ht),fun t ht=>I.ND t (by simpa using ht),by rw [List.map_reverse,List.sum_reverse]; exact I.sum⟩
theorem uL.one {m:Nat}{l:List aj}(I:uL m l){t:aj}(ht:t∈l):uL m [t]:=
 ⟨by simp,fun u hu=>by simp at hu; subst hu; exact I.val u ht,fun u hu=>by simp at hu; subst hu; exact I.ND u ht,by have:=If ht; have:=I.sum; simp; omega⟩
def pk (m:Nat)(l:List aj):List Int:=cz (l.map (lf m))++(cw.f m (cz (l.map (lf m)))).getD []
theorem pt:∀{l:List aj},(∀t∈l,qW t∧tL t)→(cy l).length≤10*l.length+200*(l.map fun t=>t.nodes.length).sum
 | [],_=>by simp [cy]
 | a::l,h=>by
  have h1:=h a (by simp)
  have:=pt (l:=l) fun b hb=>h b (by simp [hb])
  have P6:(2:Nat) ^ 64=18446744073709551616:=by decide
  have hf:=h1.1.qV
  have h3:=dM (n:=a.nodes.length) (by omega)
  have hn:∀l:List ab,(∀n∈l,tJ n∧F7 n)→(dP l).length≤200*l.length:=by
   intro l
   induction l with
   | nil=>intro _; simp [dP]
   | cons a l ih=>
    intro h
    have h1:=h a (by simp)
    have:=ih fun b hb=>h b (by simp [hb])
    have h2:=yW h1.1 h1.2
    rw [iV,We,Wp]; omega
  have h2:=hn a.nodes fun n hn=>⟨h1.2.nodes n hn,(h1.1.nodes n hn).1⟩
  rw [iW,We,jx,We,Wp,Wo,List.sum_cons]; omega
structure Pk (m:Nat)(l:List aj)(c:List Int):Prop where
 Th:cw.f m (cz (l.map (lf m)))=some c
 eq:pk m l=cz (l.map (lf m))++c
 V1:Bytes c
 len:c.length=4
 w:∀t∈l.map (lf m),qW t∧tL t
 size:(cy (l.map (lf m))).length≤60080
 I2:(cz (l.map (lf m))).length≤60100∧3≤(cz (l.map (lf m))).length
theorem uL.pk {m:Nat}(hm:2 ^ 41≤m){l:List aj}(I:uL m l):∃c,Pk m l c:=by
 have rl:(2:Nat) ^ 41=2199023255552:=by decide
 have nF:(2:Nat) ^ 40=1099511627776:=by decide
 have P6:(2:Nat) ^ 64=18446744073709551616:=by decide
 have hW:∀t∈l.map (Go.Proofs.YtmekcfdllhphlaaDoor.lf m),qW t∧tL t:=fun t ht=>by
  obtain⟨u,hu,rfl⟩:=Wv.1 ht
  have L:=(I.lf hm hu).lt
  exact⟨L,L.w (I.ND u hu)⟩
 have h1:=pt hW
 have h2:=(I.least hm).sum
 have h3:=I.qV
 have h4:(l.map (Go.Proofs.YtmekcfdllhphlaaDoor.lf m)).length=l.length:=WI _
 have V2:=dM (n:=(l.map (Go.Proofs.YtmekcfdllhphlaaDoor.lf m)).length) (by omega)
 have hne:0<(dI (l.map (Go.Proofs.YtmekcfdllhphlaaDoor.lf m)).length).length:=List.length_pos_iff.2 (HU _)
 have Io:(cz (l.map (Go.Proofs.YtmekcfdllhphlaaDoor.lf m))).length≤60100∧3≤(cz (l.map (Go.Proofs.YtmekcfdllhphlaaDoor.lf m))).length:=by
  unfold cz
  simp only [We,Wp,WY]; omega
 obtain⟨c,hc⟩:=Dp (m:=m) (by omega) (b:=cz (l.map (Go.Proofs.YtmekcfdllhphlaaDoor.lf m))) (by omega) (by omega)
 exact⟨c,hc,by unfold Go.Proofs.YtmekcfdllhphlaaDoor.pk; rw [hc]; rfl,(tM hc).1,(tM hc).2,hW,by omega,Io⟩
theorem tX {m:Nat}(hm:2 ^ 41≤m){L:List aj}(I:uL m L):∀(f i:Nat) (acc:List aj),L.length - i<f→i≤L.length→acc.length≤i→
  ∃x,bS.l0 m L f acc (i:Int)=some (.inr (acc++(L.drop i).map (lf m),x))
 | 0,i,acc,hf,_,_=>absurd hf (by omega)
 | f+1,i,acc,hf,hi,ha=>by
  have h8:=I.qV
  unfold bS.l0
  by_cases h:i<L.length
  ·have hx:ix L (i:Int)=some L[i]:=by unfold ix; rw [if_pos (by omega)]; simp [h]
   have F:=I.lf hm (Xa h)
   have la:app 32 acc [lf m L[i]]=some (acc++[lf m L[i]]):=by unfold app; rw [if_pos (by simp; omega)]
   obtain⟨x,ih⟩:=tX hm I f (i+1) (acc++[lf m L[i]]) (by omega) (by omega) (by simp; omega)
   refine⟨x,?_⟩
   rw [if_pos (by simp only [decide_eq_true_eq]; omega),hx,V3,F.top,V3]
   dsimp only
   rw [if_neg (by simp),la,V3,aC (by omega) (by omega),show (i:Int)+1=((i+1:Nat):Int) by omega,ih,Wi h,Wo,Wg]; rfl
  ·refine⟨(i:Int),?_⟩
   rw [if_neg (by simp only [decide_eq_true_eq]; omega),WO (by omega),List.map_nil,Xd]
theorem r6 {m:Nat}(hm:2 ^ 41≤m){L:List aj}(I:uL m L):bS.f m L=some (pk m L,0):=by
 have l8:(2:Nat) ^ 30=1073741824:=by decide
 have rl:(2:Nat) ^ 41=2199023255552:=by decide
 have nF:(2:Nat) ^ 40=1099511627776:=by decide
 have MD:(2:Nat) ^ 42=4398046511104:=by decide
 have h8:=I.qV
 obtain⟨c,P⟩:=I.pk hm
 obtain⟨x,k1⟩:=tX hm I m 0 [] (by omega) (by omega) (by simp)
 have k1:bS.l0 m L m [] 0=_:=k1
 rw [Wz,WK] at k1
 have h4:(L.map (lf m)).length=L.length:=WI _
 have s1:=P.size
 have s2:=P.I2
 have s3:=P.len
 have la:app 1 (cz (L.map (lf m))) c=some (cz (L.map (lf m))++c):=by unfold app; rw [if_pos (by omega)]
 have sq:((L.map (lf m)).any fun t=>t.nodes.any fun n=>n.kind==4)=false:=by
  rw [List.any_eq_false]
  intro t ht
  obtain⟨u,hu,rfl⟩:=Wv.1 ht
  rw [I.ND u hu]; simp
 unfold bS.f
 rw [if_neg (by simp only [decide_eq_true_eq]; omega),k1,V3]
 dsimp only
 rw [De (g:=fun t=>t.nodes.any fun n=>n.kind==4) (by omega) (by omega) (fun t ht=>Dn (by have:=(P.w t ht).1.qV; omega) (by have:=(P.w t ht).1.qV; omega)),V3,sq,if_neg (by simp),
  Na (by omega) (fun t ht=>(P.w t ht).2) (by omega) (by omega),P.Th,V3,la,V3,if_neg (by simp only [decide_eq_true_eq,We]; omega),P.eq]
theorem Ig {m:Nat}(x y:List Int):eT.f m x y=some ((eO x).data.toList==(eO y).data.toList):=rfl
theorem pv {m:Nat}(x:List Int):eT.f m x x=some true:=by rw [Ig]; simp
theorem Pk.idem {m:Nat}(hm:2 ^ 41≤m){l:List aj}(I:uL m l):Go.Proofs.YtmekcfdllhphlaaDoor.pk m (l.map (lf m))=Go.Proofs.YtmekcfdllhphlaaDoor.pk m l:=by
 unfold Go.Proofs.YtmekcfdllhphlaaDoor.pk
 rw [I.idem hm]
theorem xp {m:Nat}(hm:2 ^ 41≤m){L:List aj}(I:uL m L):bb.f m (pk m L)=some (L.map (lf m),0):=by
 have l8:(2:Nat) ^ 30=1073741824:=by decide
 have rl:(2:Nat) ^ 41=2199023255552:=by decide
 have G1:(2:Nat) ^ 63=9223372036854775808:=by decide
 obtain⟨c,P⟩:=I.pk hm
 have s1:=P.size
 have s2:=P.I2
 have s3:=P.len
 have h8:=I.qV
 have h4:(L.map (lf m)).length=L.length:=WI _
 have hp:=r6 hm (I.least hm)
 rw [Pk.idem hm I] at hp
 obtain⟨x,hx⟩:=F5 (m:=m) (by omega) (((L.map (lf m)).length:Int),(⟨cy (L.map (lf m)),false⟩:fl)) [] (by simp; omega) (L.map (lf m)) m 0 [] (by omega) (by simp) rfl fun t ht=>(P.w t ht).2
 rw [Xd] at hx
 have hx:bb.l0 m (((L.map (lf m)).length:Int),(⟨cy (L.map (lf m)),false⟩:fl)) m [] 0 ⟨cy (L.map (lf m)),false⟩=_:=hx
 have hB:=P.eq
 generalize pk m L=B at *
 have U1:B.length=(cz (L.map (lf m))).length+4:=by rw [hB,We,s3]
 have e4:i64.wrap ((B.length:Int) - 4)=((cz (L.map (lf m))).length:Int):=by rw [aC (by omega) (by omega)]; omega
 have c1:nA B 0 ((cz (L.map (lf m))).length:Int)=some (cz (L.map (lf m))):=by
  rw [tU ⟨by omega,by omega,by omega⟩,hB]
  simp
 have c2:nA B ((cz (L.map (lf m))).length:Int) (B.length:Int)=some c:=by
  rw [tU ⟨by omega,by omega,by omega⟩,U1,hB]
  simp
  exact WH (by omega)
 have c3:nA B 2 ((cz (L.map (lf m))).length:Int)=some (dI (L.map (lf m)).length++cy (L.map (lf m))):=by
  rw [tU ⟨by omega,by omega,by omega⟩,hB]
  have e:(cz (L.map (lf m))++c).drop (2:Int).toNat=(dI (L.map (lf m)).length++cy (L.map (lf m)))++c:=rfl
  rw [e,show ((cz (L.map (lf m))).length:Int).toNat - (2:Int).toNat=(dI (L.map (lf m)).length++cy (L.map (lf m))).length by unfold cz; simp [We]; omega,List.take_left]
 unfold bb.f
 rw [if_neg (by simp only [decide_eq_true_eq]; omega),if_neg (by simp only [decide_eq_true_eq]; omega),e4,c1,V3,P.Th,V3,c2,V3,pv,V3,if_neg (by simp),c3,V3,
  AA (by omega) (by omega),V3]
 dsimp only
 rw [hx,V3]
 dsimp only
 rw [Wz,if_neg (by simp),if_neg (by simp),hp,V3]
 dsimp only
 rw [if_neg (by simp),pv,V3,if_neg (by simp)]
end Go.Proofs.YtmekcfdllhphlaaDoor
namespace Go.Proofs.YtmekcfdllhphlaaDoor
open Go Go.R
open Go.IntKind (i64 u64 u8 u32)
def vF:cb:=gJ [0,2,3,4,5,8,12,24,32,58] [] [1022,990,1021,1018,1010,946,1010,1010,882,1021,994,738,994,482,1021,1021] [] []
def aR.l1 (m:Nat)(l0:List aj)(i0:Int):Nat→Int→Option (Sum Bool (Int))
 | 0,_=>none
 | k+1,k0=>(ix l0 i0).bind fun v1=>if (decide (k0<(v1.nodes.length:Int)))=true then ((ix l0 i0).bind fun v2=>(ix v2.nodes k0).bind fun v3=>if (decide ((v3.args.length:Int) > (20:Int)))=true then (some (.inl true)) else ((ix l0 i0).bind fun v4=>(ix v4.nodes k0).bind fun v5=>if (decide ((v5.label.size:Int) > (40:Int)))=true then (some (.inl true)) else (aR.l1 m l0 i0 k (i64.wrap (k0+(1:Int)))))) else (some (.inr k0))
def aR.l0 (m:Nat)(l0:List aj):Nat→Int→Int→Option (Sum Bool (Int × Int))
 | 0,_,_=>none
 | k+1,n0,i0=>if (decide (i0<(l0.length:Int)))=true then ((ix l0 i0).bind fun v0=>if (decide ((i64.wrap (n0+(v0.nodes.length:Int))) > (300:Int)))=true then (some (.inl true)) else ((aR.l1 m l0 i0 m (0:Int)).bind fun bq=>match bq with | .inl r0=>some (.inl r0) | .inr k1=>aR.l0 m l0 k (i64.wrap (n0+(v0.nodes.length:Int))) (i64.wrap (i0+(1:Int))))) else (some (.inr (n0,i0)))
def aR.f (m:Nat)(l0:List aj):Option (Bool):=if (decide ((l0.length:Int) > (12:Int)))=true then (some true) else ((aR.l0 m l0 m (0:Int) (0:Int)).bind fun b9=>match b9 with | .inl r1=>some r1 | .inr (n1,i1)=>some false)
def aR.fin (L:Mem)(r:Bool)(s:St):Prop:=∃av,aI Tryd.prog (s.open vF) Tryd.f12.results.toList=some av∧fT s.h av (.bool r)
def Tk (cf:CallF)(m:Nat):Prop:=∀(l0:List aj) (r:Bool),aR.f m l0=some r→∀h xs,eN fc h xs [aJ.fz l0]→cf 12 xs h=some (.bool r,h)
section
variable {cf:CallF}{m:Nat}
theorem aR.eQ (L:Mem)(l0:List aj)(n0:Int)(i0:Int)(v0:aj)   : bE Tryd.prog cf vF m (sub [1,1,1,0,1,0,0,1,0,0,1,1,1,0,0] (codeOf Tryd.f12)) (fun k (σ:Int)=>aR.l1 m l0 i0 k σ) (fun σ s=>match σ with | k0=>∃h1,s=⟨aJ.fz l0 :: .any :: .int .i64 (i64.wrap (n0+(v0.nodes.length:Int))) :: .int .i64 i0 :: .int .i64 k0::sY [],[],h1⟩∧Has h1 (L)) (fun out e s=>(e = .exit 2∧∃k0,.inr k0=out∧∃uE KE h1,s=⟨aJ.fz l0 :: .any :: .int .i64 (i64.wrap (n0+(v0.nodes.length:Int))) :: .int .i64 i0::uE::ke [KE,.any],[],h1⟩∧Has h1 (L))∨(e = .ret∧∃r,.inl r=out∧aR.fin L r s)):=by
 refine gP (fun _=>rfl) ?_
 rintro k k0 s out ⟨h1,rfl,o1⟩ H
 have H:aR.l1 m l0 i0 (k+1) k0=some out:=H
 refine qq <| qq ?_
 obtain⟨v1,e1,H⟩:=aH H
 refine qr [.v 3 (bo (k:=.i64) (E:=aJ) (l:=l0) vi e1),.v 5 (ji  (E:=aJ) (l:=l0) (off:=0) h1 Mm e1 rfl)] <| qc H (fun c3 H=>?_) (fun c3 H=>?_)
 ·refine qk <| qq <| qb 3 <| qq ?_
  obtain⟨v2,e2,H⟩:=aH H
  obtain⟨v3,e3,H⟩:=aH H
  rcases dt H with⟨c4,H⟩| ⟨c4,H⟩
  ·exact qr [.v 2 (bo (k:=.i64) (E:=aJ) (l:=l0) vi e2),.v 4 (ji  (E:=aJ) (l:=l0) (off:=0) h1 Mm e2 rfl),.v 6 (bo (k:=.i64) (E:=af) (l:=v2.nodes) lh e3),.v 8 (ji  (E:=af) (l:=v2.nodes) (off:=3) h1 J0 e3 rfl),.b 11 c4] <| mX <| qq <| q0 <| qt <| WZ (⟨rfl,_,oi H,bZ (.bool true) h1 (bX (ak))⟩)
  ·obtain⟨v4,e4,H⟩:=aH H
   obtain⟨v5,e5,H⟩:=aH H
   refine qr [.v 2 (bo (k:=.i64) (E:=aJ) (l:=l0) vi e2),.v 4 (ji  (E:=aJ) (l:=l0) (off:=0) h1 Mm e2 rfl),.v 6 (bo (k:=.i64) (E:=af) (l:=v2.nodes) lh e3),.v 8 (ji  (E:=af) (l:=v2.nodes) (off:=3) h1 J0 e3 rfl),.b 11 c4,.v 14 (bo (k:=.i64) (E:=aJ) (l:=l0) vi e4),.v 16 (ji  (E:=aJ) (l:=l0) (off:=0) h1 Mm e4 rfl),.v 18 (bo (k:=.i64) (E:=af) (l:=v4.nodes) lh e5),.v 20 (ji  (E:=af) (l:=v4.nodes) (off:=2) h1 A9 e5 rfl)] <| qc H (fun c6 H=>?_) (fun c6 H=>?_)
   ·exact q1 <| qt <| WZ (⟨rfl,_,oi H,bZ (.bool true) h1 (bX (ak))⟩)
   ·exact qk <| q0 <| ⟨i64.wrap (k0+(1:Int)),⟨h1,by kernel_rfl,o1⟩,H⟩
 ·exact qx 2 <| Xt (⟨rfl,k0,oi H,.int .i64 k0,.bool (decide (k0<(v1.nodes.length:Int))),h1,by kernel_rfl,o1⟩)
theorem aR.bI (L:Mem)(l0:List aj)   : bE Tryd.prog cf vF m (sub [1,1,1,0,1,0,0] (codeOf Tryd.f12)) (fun k (σ:Int × Int)=>aR.l0 m l0 k σ.1 σ.2) (fun σ s=>match σ with | (n0,i0)=>∃h0,s=⟨aJ.fz l0 :: .any :: .int .i64 n0 :: .int .i64 i0::GV [],[],h0⟩∧Has h0 (L)) (fun out e s=>(e = .exit 0∧∃n0 i0,.inr (n0,i0)=out∧∃kC ta Dh Gc h0,s=⟨kC :: .any::ta::Dh :: .any :: .any::Gc::ke [],[],h0⟩∧Has h0 (L))∨(e = .ret∧∃r,.inl r=out∧aR.fin L r s)):=by
 refine gP (fun _=>rfl) ?_
 rintro k ⟨n0,i0⟩ s out ⟨h0,rfl,o0⟩ H
 have H:aR.l0 m l0 (k+1) n0 i0=some out:=H
 refine qq <| qq <| q0 <| qc H (fun c1 H=>?_) (fun c1 H=>?_)
 ·refine qk <| qq <| qb 1 <| qq ?_
  obtain⟨v0,e0,H⟩:=aH H
  refine qr [.v 3 (bo (k:=.i64) (E:=aJ) (l:=l0) vi e0),.v 5 (ji  (E:=aJ) (l:=l0) (off:=0) h0 Mm e0 rfl)] <| qq <| qq <| q0 <| qc H (fun c2 H=>?_) (fun c2 H=>?_)
  ·exact q1 <| qt <| WZ (⟨rfl,_,oi H,bZ (.bool true) h0 (bX (ak))⟩)
  ·refine qk <| qq <| q0 <| qb 2 ?_
   obtain⟨bq,e6,H⟩:=aH H
   refine ql (aR.eQ L l0 n0 i0 v0   (0:Int) _ _ ⟨h0,by kernel_rfl,o0⟩ e6) ?_
   rintro e s (⟨rfl,k1,rfl,g0,g1,h2,rfl,o2⟩| ⟨rfl,r0,rfl,mE⟩)
   ·try dsimp only at H
    exact q0 <| ⟨(i64.wrap (n0+(v0.nodes.length:Int)),i64.wrap (i0+(1:Int))),⟨h2,by kernel_rfl,o2⟩,H⟩
   ·try dsimp only at H
    exact WZ (⟨rfl,_,oi H,mE⟩)
 ·exact qx 0 <| Xt (⟨rfl,n0,i0,oi H,aJ.fz l0,.int .i64 n0,.int .i64 i0,.bool (decide (i0<(l0.length:Int))),h0,by kernel_rfl,o0⟩)
theorem qy {aV:FuncId→cb}(ha:aV 12=vF)  (l0:List aj)(h:AHeap)(L:Mem)  (o:Has h (L)){out:Bool}(H:aR.f m l0=some out) :
  ∃r h',be Tryd.prog aV cf m 12 [aJ.fz l0] h=some (r,h')∧fT h' r (.bool out):=by
 refine aq (fn:=Tryd.f12) ha Tryd.func12 (by kernel_rfl) (by kernel_rfl) ?_
 refine aG (Q:=fun s=>aR.fin L out s) (fun _ _ h=>h) ?_
 have H:_=some out:=H
 unfold aR.f at H
 show de _ cf vF m _ ⟨aJ.fz l0::C3 [],[],h⟩ _
 refine q1 <| qq <| qq <| q0 <| qc H (fun c0 H=>?_) (fun c0 H=>?_)
 ·obtain rfl:=oi H
  exact q1 <| qt <| ⟨.inl rfl,bZ (.bool true) h (bX (ak))⟩
 ·refine qk <| qq <| q0 <| qq <| qq <| q0 <| qb 0 ?_
  obtain⟨b9,e7,H⟩:=aH H
  refine ql (aR.bI L l0   ((0:Int),(0:Int)) _ _ ⟨h,by kernel_rfl,o⟩ e7) ?_
  rintro e s (⟨rfl,n1,i1,rfl,g2,g3,g4,g5,h3,rfl,o3⟩| ⟨rfl,r1,rfl,Nc⟩)
  ·try dsimp only at H
   obtain rfl:=oi H
   exact q1 <| qt <| ⟨.inl rfl,bZ (.bool false) h3 (bX (ak))⟩
  ·try dsimp only at H
   obtain rfl:=oi H
   exact⟨.inl rfl,Nc⟩
end
end Go.Proofs.YtmekcfdllhphlaaDoor
namespace Go.Proofs.YtmekcfdllhphlaaDoor
open Go Go.R
open Go.IntKind (i64 u64 u8 u32)
end Go.Proofs.YtmekcfdllhphlaaDoor
namespace Go.Proofs.YtmekcfdllhphlaaDoor
open Go Go.R
open Go.IntKind (i64 u64 u8 u32)
end Go.Proofs.YtmekcfdllhphlaaDoor
namespace Go.Proofs.YtmekcfdllhphlaaDoor
open Go Go.R
open Go.IntKind (i64 u64 u8 u32)
theorem nj {α:Type}{l:List α}{i:Nat}(h:i<l.length):ix l (i:Int)=some l[i]:=by unfold ix; rw [if_pos (by omega)]; simp [h]
theorem zj {m:Nat}{L:List aj}{i:Nat}(hi:i<L.length)(hn:L[i].nodes.length<2 ^ 63):∀(f k:Nat),L[i].nodes.length - k<f→k≤L[i].nodes.length→
  ∃o,aR.l1 m L (i:Int) f (k:Int)=some o∧((∃x,o = .inr x)∨o = .inl true)
 | 0,k,hf,_=>absurd hf (by omega)
 | f+1,k,hf,hk=>by
  have G1:(2:Nat) ^ 63=9223372036854775808:=by decide
  unfold aR.l1
  rw [nj hi,V3]
  by_cases h:k<L[i].nodes.length
  ·obtain⟨o,ih,ho⟩:=zj (m:=m) hi hn f (k+1) (by omega) (by omega)
   rw [if_pos (by simp only [decide_eq_true_eq]; omega),V3,nj h,V3]
   split
   ·exact⟨_,rfl,.inr rfl⟩
   ·rw [V3,nj h,V3]
    split
    ·exact⟨_,rfl,.inr rfl⟩
    ·rw [aC (by omega) (by omega),show (k:Int)+1=((k+1:Nat):Int) by omega,ih]
     exact⟨o,rfl,ho⟩
  ·rw [if_neg (by simp only [decide_eq_true_eq]; omega)]
   exact⟨_,rfl,.inl ⟨_,rfl⟩⟩
theorem tY {m:Nat}(hm:2 ^ 63≤m){L:List aj}(h12:L.length≤12)(hl:∀t∈L,t.nodes.length<2 ^ 63):∀(f i:Nat) (n:Int),L.length - i<f→i≤L.length→
  ∃o,aR.l0 m L f n (i:Int)=some o∧((∃x,o = .inr x)∨o = .inl true)
 | 0,i,n,hf,_=>absurd hf (by omega)
 | f+1,i,n,hf,hi=>by
  have G1:(2:Nat) ^ 63=9223372036854775808:=by decide
  unfold aR.l0
  by_cases h:i<L.length
  ·have hb:=hl _ (Xa h)
   rw [if_pos (by simp only [decide_eq_true_eq]; omega),nj h,V3]
   split
   ·exact⟨_,rfl,.inr rfl⟩
   ·obtain⟨o,k1,k2⟩:=zj (m:=m) h hb m 0 (by omega) (by omega)
    have k1:aR.l1 m L (i:Int) m (0:Int)=_:=k1
    rw [k1,V3]
    rcases k2 with⟨x,rfl⟩| rfl
    ·dsimp only
     rw [aC (x:=(i:Int)+1) (by omega) (by omega),show (i:Int)+1=((i+1:Nat):Int) by omega]
     exact tY hm h12 hl f (i+1) _ (by omega) (by omega)
    ·exact⟨_,rfl,.inr rfl⟩
  ·rw [if_neg (by simp only [decide_eq_true_eq]; omega)]
   exact⟨_,rfl,.inl ⟨_,rfl⟩⟩
theorem AW {m:Nat}(hm:2 ^ 63≤m){L:List aj}(hl:∀t∈L,t.nodes.length<2 ^ 63):∃b,aR.f m L=some b∧(b=false→L.length≤12):=by
 have G1:(2:Nat) ^ 63=9223372036854775808:=by decide
 unfold aR.f
 split
 ·exact⟨true,rfl,fun h=>by cases h⟩
 ·rename_i h
  simp only [decide_eq_true_eq] at h
  obtain⟨o,k1,k2⟩:=tY hm (by omega) hl m 0 0 (by omega) (by omega)
  have k1:aR.l0 m L m (0:Int) (0:Int)=_:=k1
  rw [k1,V3]
  rcases k2 with⟨⟨n,x⟩,rfl⟩| rfl
  ·exact⟨false,rfl,fun _=>by omega⟩
  ·exact⟨true,rfl,fun h=>by cases h⟩
theorem KN {m:Nat}(hm:2 ^ 30≤m){t:aj}(h1:t.nodes.length≤8000)(h2:∀n∈t.nodes,n.args.length≤8):aU.f m t t=some true:=by
 have l8:(2:Nat) ^ 30=1073741824:=by decide
 obtain⟨x,hx⟩:=yV (m:=m) t hm (by omega) h2 m 0 (by omega) (by omega)
 have hx:aU.l0 m t t m (0:Int)=_:=hx
 unfold aU.f
 rw [if_neg (by simp),if_neg (by simp),hx,V3]
end Go.Proofs.YtmekcfdllhphlaaDoor
namespace Go.Proofs.YtmekcfdllhphlaaDoor
open Go Go.R
open Go.IntKind (i64 u64 u8 u32)
def vG:cb:=gJ [0,2,3,4,5,6,13,17,29,34,43] [4] [2046,1982,2045,2042,1914,2042,2018,1778,2045,2002,1490,2002,978,2045,2045] [] []
def aZ.l1 (m:Nat)(x1:aj × Int):Nat→Int→Option (Sum Bool (Int))
 | 0,_=>none
 | k+1,k0=>if (decide (k0<(x1.1.nodes.length:Int)))=true then ((ix x1.1.nodes k0).bind fun v1=>if (v1.kind==(4:Int))=true then (some (.inl false)) else (aZ.l1 m x1 k (i64.wrap (k0+(1:Int))))) else (some (.inr k0))
def aZ.l0 (m:Nat)(l0:List aj):Nat→Int→Option (Sum Bool (Int))
 | 0,_=>none
 | k+1,i0=>if (decide (i0<(l0.length:Int)))=true then ((ix l0 i0).bind fun v0=>(eW.f m v0).bind fun x1=>if (!(x1.2==(0:Int)))=true then (some (.inl false)) else ((aZ.l1 m x1 m (0:Int)).bind fun bq=>match bq with | .inl r0=>some (.inl r0) | .inr k1=>aZ.l0 m l0 k (i64.wrap (i0+(1:Int))))) else (some (.inr i0))
def aZ.f (m:Nat)(l0:List aj):Option (Bool):=(aR.f m l0).bind fun x0=>if x0=true then (some false) else (if (decide ((l0.length:Int) > (8:Int)))=true then (some false) else ((aZ.l0 m l0 m (0:Int)).bind fun b9=>match b9 with | .inl r1=>some r1 | .inr i1=>some true))
def aZ.fin (L:Mem)(r:Bool)(s:St):Prop:=∃av,aI Tryd.prog (s.open vG) Tryd.f20.results.toList=some av∧fT s.h av (.bool r)
def Tm (cf:CallF)(m:Nat):Prop:=∀(l0:List aj) (r:Bool),aZ.f m l0=some r→∀h xs,eN fc h xs [aJ.fz l0]→cf 20 xs h=some (.bool r,h)
section
variable {cf:CallF}{m:Nat}
theorem aZ.eQ (L:Mem)(l0:List aj)(i0:Int)(x1:aj × Int)   : bE Tryd.prog cf vG m (sub [1,1,0,1,0,0,1,0,0,1,1,1,0,0] (codeOf Tryd.f20)) (fun k (σ:Int)=>aZ.l1 m x1 k σ) (fun σ s=>match σ with | k0=>∃h1,s=⟨aJ.fz l0 :: .any :: .int .i64 i0 :: .lp 4 0 :: .any :: .int .i64 k0::sY [],[some [af.fz x1.1.nodes,.int .i64 x1.1.root]],h1⟩∧Has h1 (L)) (fun out e s=>(e = .exit 2∧∃k0,.inr k0=out∧∃Dh Ar Fa Qq h1,s=⟨aJ.fz l0 :: .any :: .int .i64 i0::Dh :: .any::Ar::ke [Fa,.any],[Qq],h1⟩∧Has h1 (L))∨(e = .ret∧∃r,.inl r=out∧aZ.fin L r s)):=by
 refine gP (fun _=>rfl) ?_
 rintro k k0 s out ⟨h1,rfl,o1⟩ H
 have H:aZ.l1 m x1 (k+1) k0=some out:=H
 refine qq <| qq <| q0 <| qc H (fun c5 H=>?_) (fun c5 H=>?_)
 ·refine qk <| qq <| qb 3 <| qq ?_
  obtain⟨v1,e3,H⟩:=aH H
  refine qr [.v 3 (bo (k:=.i64) (E:=af) (l:=x1.1.nodes) lh e3),.v 5 (ji  (E:=af) (l:=x1.1.nodes) (off:=0) h1 A3 e3 rfl)] <| qc H (fun c6 H=>?_) (fun c6 H=>?_)
  ·exact q1 <| qt <| WZ (⟨rfl,_,oi H,bZ (.bool false) h1 (bX (ak))⟩)
  ·exact qk <| q0 <| ⟨i64.wrap (k0+(1:Int)),⟨h1,by kernel_rfl,o1⟩,H⟩
 ·exact qx 2 <| Xt (⟨rfl,k0,oi H,.lp 4 0,.int .i64 k0,.bool (decide (k0<(x1.1.nodes.length:Int))),some [af.fz x1.1.nodes,.int .i64 x1.1.root],h1,by kernel_rfl,o1⟩)
theorem aZ.bI (L:Mem)(l0:List aj)  (KO:QJ cf m):bE Tryd.prog cf vG m (sub [1,1,0,1,0,0] (codeOf Tryd.f20)) (fun k (σ:Int)=>aZ.l0 m l0 k σ) (fun σ s=>match σ with | i0=>∃h0,s=⟨aJ.fz l0 :: .any :: .int .i64 i0::ri [],[none],h0⟩∧Has h0 (L)) (fun out e s=>(e = .exit 0∧∃i0,.inr i0=out∧∃kC ta Ak h0,s=⟨kC :: .any::ta::qQ (Ak::ke []),[none],h0⟩∧Has h0 (L))∨(e = .ret∧∃r,.inl r=out∧aZ.fin L r s)):=by
 refine gP (fun _=>rfl) ?_
 rintro k i0 s out ⟨h0,rfl,o0⟩ H
 have H:aZ.l0 m l0 (k+1) i0=some out:=H
 refine qq <| qq <| q0 <| qc H (fun c3 H=>?_) (fun c3 H=>?_)
 ·refine qk <| qq <| qb 1 <| qq ?_
  obtain⟨v0,e1,H⟩:=aH H
  obtain⟨x1,e2,H⟩:=aH H
  refine qr [.v 2 (bo (k:=.i64) (E:=aJ) (l:=l0) vi e1),.v 3 (cL  (E:=aJ) (l:=l0) h0 EZ E0 e1),.a 4 (KO _ _ e2 h0 _ (cR (sR (cR (ib (E:=af)) (cR (bD) (gH)))) (gH)))] <| qq <| qq <| q0 <| qc H (fun c4 H=>?_) (fun c4 H=>?_)
  ·exact q1 <| qt <| WZ (⟨rfl,_,oi H,bZ (.bool false) h0 (bX (ak))⟩)
  ·refine qk <| qq <| q0 <| qb 2 ?_
   obtain⟨bq,e4,H⟩:=aH H
   refine ql (aZ.eQ L l0 i0 x1   (0:Int) _ _ ⟨h0,by kernel_rfl,o0⟩ e4) ?_
   rintro e s (⟨rfl,k1,rfl,g0,g1,g2,g3,h2,rfl,o2⟩| ⟨rfl,r0,rfl,mE⟩)
   ·try dsimp only at H
    exact q0 <| ⟨i64.wrap (i0+(1:Int)),⟨h2,by kernel_rfl,o2⟩,H⟩
   ·try dsimp only at H
    exact WZ (⟨rfl,_,oi H,mE⟩)
 ·exact qx 0 <| Xt (⟨rfl,i0,oi H,aJ.fz l0,.int .i64 i0,.bool (decide (i0<(l0.length:Int))),h0,by kernel_rfl,o0⟩)
theorem qz {aV:FuncId→cb}(ha:aV 20=vG)(NF:Tk cf m)(KO:QJ cf m)(l0:List aj)(h:AHeap)(L:Mem)  (o:Has h (L)){out:Bool}(H:aZ.f m l0=some out) :
  ∃r h',be Tryd.prog aV cf m 20 [aJ.fz l0] h=some (r,h')∧fT h' r (.bool out):=by
 refine aq (fn:=Tryd.f20) ha Tryd.func20 (by kernel_rfl) (by kernel_rfl) ?_
 refine aG (Q:=fun s=>aZ.fin L out s) (fun _ _ h=>h) ?_
 have H:_=some out:=H
 unfold aZ.f at H
 show de _ cf vG m _ ⟨aJ.fz l0::wK [],[none],h⟩ _
 refine q1 <| qq <| qq ?_
 obtain⟨x0,e0,H⟩:=aH H
 rcases dt H with⟨c0,H⟩| ⟨c0,H⟩
 ·obtain rfl:=oi H
  exact qr [.a 1 (NF _ _ e0 h _ (gO (ae (cK (E:=aJ)) (az)))),.b 2 c0] <| mX <| qq <| q0 <| qt <| ⟨.inl rfl,bZ (.bool false) h (bX (ak))⟩
 ·refine qr [.a 1 (NF _ _ e0 h _ (gO (ae (cK (E:=aJ)) (az)))),.b 2 c0] <| qc H (fun c2 H=>?_) (fun c2 H=>?_)
  ·obtain rfl:=oi H
   exact q1 <| qt <| ⟨.inl rfl,bZ (.bool false) h (bX (ak))⟩
  ·refine qk <| qq <| qq <| q0 <| qb 0 ?_
   obtain⟨b9,e5,H⟩:=aH H
   refine ql (aZ.bI L l0  KO (0:Int) _ _ ⟨h,by kernel_rfl,o⟩ e5) ?_
   rintro e s (⟨rfl,i1,rfl,g4,g5,g6,h3,rfl,o3⟩| ⟨rfl,r1,rfl,Nc⟩)
   ·try dsimp only at H
    obtain rfl:=oi H
    exact q1 <| qt <| ⟨.inl rfl,bZ (.bool true) h3 (bX (ak))⟩
   ·try dsimp only at H
    obtain rfl:=oi H
    exact⟨.inl rfl,Nc⟩
end
end Go.Proofs.YtmekcfdllhphlaaDoor
namespace Go.Proofs.YtmekcfdllhphlaaDoor
open Go Go.R
open Go.IntKind (i64 u64 u8 u32)
end Go.Proofs.YtmekcfdllhphlaaDoor
namespace Go.Proofs.YtmekcfdllhphlaaDoor
open Go Go.R
open Go.IntKind (i64 u64 u8 u32)
end Go.Proofs.YtmekcfdllhphlaaDoor
namespace Go.Proofs.YtmekcfdllhphlaaDoor
open Go Go.R
open Go.IntKind (i64 u64 u8 u32)
end Go.Proofs.YtmekcfdllhphlaaDoor
namespace Go.Proofs.YtmekcfdllhphlaaDoor
open Go Go.R
open Go.IntKind (i64 u64 u8 u32)
end Go.Proofs.YtmekcfdllhphlaaDoor
namespace Go.Proofs.YtmekcfdllhphlaaDoor
open Go Go.R
open Go.IntKind (i64 u64 u8 u32)
end Go.Proofs.YtmekcfdllhphlaaDoor
namespace Go.Proofs.YtmekcfdllhphlaaDoor
open Go Go.R
open Go.IntKind (i64 u64 u8 u32)
theorem vH {m:Nat}{L:List aj}(h12:L.length≤12)(hl:∀t∈L,t.nodes.length≤8000):∀(f i n:Nat) (x),n≤300→i≤L.length→aR.l0 m L f (n:Int) (i:Int)=some (.inr x)→n+((L.drop i).map fun t=>t.nodes.length).sum≤300
 | 0,i,n,x,_,_,H=>by simp [aR.l0] at H
 | f+1,i,n,x,hn,hi,H=>by
  unfold aR.l0 at H
  by_cases h:i<L.length
  ·have hb:=hl _ (Xa h)
   rw [if_pos (by simp only [decide_eq_true_eq]; omega),nj h,V3,aC (x:=(n:Int)+_) (by omega) (by omega)] at H
   split at H
   ·simp at H
   ·rename_i g
    simp only [decide_eq_true_eq] at g
    simp only [V4] at H
    obtain⟨o,_,H⟩:=H
    cases o with
    | inl r=>simp at H
    | inr k=>
     dsimp only at H
     rw [aC (x:=(i:Int)+1) (by omega) (by omega),show (i:Int)+1=((i+1:Nat):Int) by omega,show (n:Int)+(L[i].nodes.length:Int)=((n+L[i].nodes.length:Nat):Int) by omega] at H
     have:=vH h12 hl f (i+1) (n+L[i].nodes.length) x (by omega) (by omega) H
     rw [Wi h,Wo,List.sum_cons]; omega
  ·rw [WO (by omega)]; simpa using hn
theorem zk {m:Nat}{x1:aj × Int}(hl:x1.1.nodes.length≤8000):∀(f k:Nat),x1.1.nodes.length - k<f→k≤x1.1.nodes.length→
  ∃o,aZ.l1 m x1 f (k:Int)=some o∧(o = .inl false∨(∃x,o = .inr x)∧(x1.1.nodes.drop k).any (fun n=>n.kind==4)=false)
 | 0,k,hf,_=>absurd hf (by omega)
 | f+1,k,hf,hk=>by
  unfold aZ.l1
  by_cases h:k<x1.1.nodes.length
  ·rw [if_pos (by simp only [decide_eq_true_eq]; omega),nj h,V3,Wi h,List.any_cons]
   cases hb:x1.1.nodes[k].kind==(4:Int) with
   | true=>exact⟨_,rfl,.inl rfl⟩
   | false=>
    obtain⟨o,k1,k2⟩:=zk (m:=m) hl f (k+1) (by omega) (by omega)
    rw [if_neg (by simp),aC (by omega) (by omega),show (k:Int)+1=((k+1:Nat):Int) by omega,k1]
    exact⟨o,rfl,by simpa using k2⟩
  ·exact⟨.inr (k:Int),by rw [if_neg (by simp only [decide_eq_true_eq]; omega)],.inr ⟨⟨_,rfl⟩,by rw [WO (by omega)]; rfl⟩⟩
theorem zl {m:Nat}(hm:2 ^ 41≤m){L:List aj}(h8:L.length≤8)(h0:∀t∈L,HZ t):∀(f i:Nat),L.length - i<f→i≤L.length→
  ∃o,aZ.l0 m L f (i:Int)=some o∧(o = .inl false∨(∃x,o = .inr x)∧∀t∈L.drop i,eh t=true∧(lf m t).nodes.any (fun n=>n.kind==4)=false)
 | 0,i,hf,_=>absurd hf (by omega)
 | f+1,i,hf,hi=>by
  have rl:(2:Nat) ^ 41=2199023255552:=by decide
  unfold aZ.l0
  by_cases h:i<L.length
  ·have uZ:=Xa h
   obtain⟨s,e,k1,k2,k3,k4,k5⟩:=tW hm (h0 _ uZ)
   rw [if_pos (by simp only [decide_eq_true_eq]; omega),nj h,V3,k2,V3]
   by_cases he:e=0
   ·subst he
    have hv:=k4.1 rfl
    have hs:=(Ci hm hv (h0 _ uZ)).ref
    rw [k2] at hs
    have hs:s=lf m L[i]:=by simpa using hs
    have Ay:=(k3 rfl).qV
    obtain⟨o,q1,q2⟩:=zk (m:=m) (x1:=(s,0)) Ay m 0 (by dsimp only; omega) (by omega)
    have q1:aZ.l1 m (s,0) m 0=_:=q1
    rw [if_neg (by simp),q1,V3]
    rcases q2 with rfl | ⟨⟨x,rfl⟩,q3⟩
    ·exact⟨_,rfl,.inl rfl⟩
    ·dsimp only
     obtain⟨o,g1,g2⟩:=zl hm h8 h0 f (i+1) (by omega) (by omega)
     rw [aC (by omega) (by omega),show (i:Int)+1=((i+1:Nat):Int) by omega,g1]
     refine⟨o,rfl,g2.imp id fun g=>⟨g.1,fun t ht=>?_⟩⟩
     rw [Wi h] at ht
     rcases WG.1 ht with rfl | ht
     ·rw [WK,hs] at q3; exact⟨hv,q3⟩
     ·exact g.2 t ht
   ·rw [if_pos (by simpa using he)]
    exact⟨_,rfl,.inl rfl⟩
  ·exact⟨.inr (i:Int),by rw [if_neg (by simp only [decide_eq_true_eq]; omega)],.inr ⟨⟨_,rfl⟩,by rw [WO (by omega)]; simp⟩⟩
theorem DB {m:Nat}(hm:2 ^ 63≤m){L:List aj}(hl:∀t∈L,t.nodes.length<2 ^ 63)(h0:∀t∈L,HZ t):∃b,aZ.f m L=some b∧(b=true→uL m L):=by
 have rl:(2:Nat) ^ 41=2199023255552:=by decide
 have G1:(2:Nat) ^ 63=9223372036854775808:=by decide
 obtain⟨b,k1,k2⟩:=AW hm hl
 unfold aZ.f
 rw [k1,V3]
 cases b with
 | true=>exact⟨false,rfl,fun h=>by cases h⟩
 | false=>
  rw [if_neg (by simp)]
  split
  ·exact⟨false,rfl,fun h=>by cases h⟩
  ·rename_i g
   simp only [decide_eq_true_eq] at g
   obtain⟨o,q1,q2⟩:=zl (m:=m) (by omega) (by omega) h0 m 0 (by omega) (by omega)
   have q1:aZ.l0 m L m 0=_:=q1
   rw [q1,V3]
   rcases q2 with rfl | ⟨⟨x,rfl⟩,q3⟩
   ·exact⟨false,rfl,fun h=>by cases h⟩
   ·refine⟨true,rfl,fun _=>⟨by omega,fun t ht=>⟨(q3 t ht).1,h0 t ht⟩,fun t ht=>(q3 t ht).2,?_⟩⟩
    unfold aR.f at k1
    split at k1
    ·simp at k1
    ·simp only [V4] at k1
     obtain⟨o,k1,k3⟩:=k1
     cases o with
     | inl r=>
      dsimp only at k3
      simp only [V6] at k3
      subst k3
      obtain⟨o,z1,z2⟩:=tY hm (k2 rfl) hl m 0 0 (by omega) (by omega)
      have z1:aR.l0 m L m (0:Int) (0:Int)=_:=z1
      rw [k1] at z1
      cases z1
      simp at z2
     | inr x=>
      have:=vH (k2 rfl) (fun t ht=>(iT (q3 t ht).1).1.1) m 0 0 x (by omega) (by omega) k1
      simpa using this
theorem Lf.graph {m:Nat}(hm:2 ^ 41≤m){t:aj}(F:Lf m t):aU.f m (lf m t) (lf m t)=some true:=by
 have rl:(2:Nat) ^ 41=2199023255552:=by decide
 have l8:(2:Nat) ^ 30=1073741824:=by decide
 exact KN (by omega) F.lt.qV fun n hn=>(F.lt.nodes n hn).1.args
end Go.Proofs.YtmekcfdllhphlaaDoor
