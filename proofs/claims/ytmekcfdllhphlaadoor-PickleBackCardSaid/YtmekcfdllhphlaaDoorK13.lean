/- Part of the proof: PB7, PB8, PB10, PB11, PU3, PV2, Q12, Q17, Q3, PU4, Q20, Q63, Q66. -/
import Derived.Test.YtmekcfdllhphlaaDoorK12
set_option linter.unusedVariables false
set_option linter.unusedSimpArgs false
set_option maxRecDepth 100000
open Int renaming toNat_natCast → WT
open List renaming getElem?_eq_some_iff → WU, length_set → WW, length_append → WX, mem_singleton → WY, drop_eq_getElem_cons → WZ, getElem?_eq_getElem → W2, append_assoc → W3, mem_append → W5, getElem?_eq_none → W6, getD_eq_getElem?_getD → W7, replicate → W8, length_cons → W9, getElem?_append_right → Xa, map_cons → Xc, mem_map → Xg, map_append → Xi, drop_eq_nil_of_le → Xk, drop_zero → Xl, nil_append → Xm, getElem?_map → Xo, mem_cons → Xs, take_of_length_le → Xt, length_map → Xu, ext_getElem? → XE, length_nil → XI, getElem_mem → XJ, take_add_one → XR, map_congr_left → XS, append_nil → XT, take_length → XU, getElem?_set → Ya, mem_filter → Yf, set_append_right → Yg, length_take → Yk
open Nat renaming lt_succ_self → Xy, le_trans → Xz, sub_self → Yj
open Option renaming bind_some → WL, map_some → WS
open Option.some renaming injEq → WO, inj → Xj
open Or renaming inr → XH, inl → X6
namespace Go.Proofs.YtmekcfdllhphlaaDoor
open Go Go.R
open Go.IntKind (i64 u64 u8 u32)
structure Cv (l:List ae)(dn:List Bool)(c0 cls:List Int):Prop where
 lc:cls.length=l.length
 old:∀j,j<l.length→gb dn j=true→gt cls j=gt c0 j
 pM:∀j:Nat,(j:Int)∈bJ dn l.length→gt cls j∈bJ dn l.length∧gt cls j≤j∧gt cls (gt cls j).toNat=gt cls j∧Alike (nd l j) (nd l (gt cls j))
 coarse:∀R,DH l R→∀i j:Nat,R i j→(i:Int)∈bJ dn l.length→(j:Int)∈bJ dn l.length→gt cls i=gt cls j
theorem fS {dn:List Bool}{p:Nat}{x:Int}(h:x∈bJ dn p):0≤x∧x<p∧((x.toNat:Nat):Int)=x:=by
 obtain⟨j,a,b,c⟩:=iN.1 h; omega
theorem DO {l:List ae}{dn:List Bool}{c0 cls:List Int}(P:NU l dn c0 l.length cls):Cv l dn c0 cls:=by
 have mn:∀i j:Nat,(i:Int)∈bJ dn l.length→(j:Int)∈bJ dn l.length→Alike (nd l i) (nd l j)→gt cls i≤gt cls j:=fun i j hi hj hA=>by
  obtain⟨r1,r2,r3⟩:=P.pM j hj
  exact (P.pM i hi).2.2 _ r1 (hA.trans r2)
 refine⟨P.lc,fun j _ h=>P.old j h,fun j hj=>?_,fun R B i j hR hi hj=>?_⟩
 ·obtain⟨r1,r2,r3⟩:=P.pM j hj
  have e:=(fS r1).2.2
  refine⟨r1,r3 j hj (Alike.refl _),?_,r2⟩
  have h1:=mn j (gt cls j).toNat hj (by rw [e]; exact r1) (by rw [e]; exact r2)
  have h2:=mn (gt cls j).toNat j (by rw [e]; exact r1) hj (by rw [e]; exact r2.symm)
  omega
 ·have h1:=mn i j hi hj (B.top i j hR)
  have h2:=mn j i hj hi (B.top i j hR).symm
  omega
def Qr (l:List ae)(cls:List Int)(j g:Nat):Prop:=gt cls j=gt cls g∧SA l cls j g
theorem Cv.al {l dn c0 cls}(P:Cv l dn c0 cls){i j:Nat}(hi:(i:Int)∈bJ dn l.length)(hj:(j:Int)∈bJ dn l.length)(h:gt cls i=gt cls j):Alike (nd l i) (nd l j):=by
 have a:=(P.pM i hi).2.2.2
 have b:=(P.pM j hj).2.2.2
 rw [h] at a
 exact a.trans b.symm
theorem Cv.Jk {l dn c0 cls}(P:Cv l dn c0 cls){i j:Nat}(hi:(i:Int)∈bJ dn l.length)(hj:(j:Int)∈bJ dn l.length)(h:Qr l cls i j):Qr l cls j i:=
 ⟨h.1.symm,fun k hk=>(h.2 k (by have:=(P.al hi hj h.1).len; unfold na at *; omega)).symm⟩
theorem Cv.Bh {l dn c0 cls}(P:Cv l dn c0 cls){i j q:Nat}(hi:(i:Int)∈bJ dn l.length)(hj:(j:Int)∈bJ dn l.length)(h:Qr l cls i j)(g:Qr l cls j q):Qr l cls i q:=
 ⟨h.1.trans g.1,fun k hk=>(h.2 k hk).trans (g.2 k (by have:=(P.al hi hj h.1).len; unfold na at *; omega))⟩
theorem GM {m:Nat}(hm:2 ^ 30≤m){l:List ae}{dn:List Bool}{c0 cls nx:List Int}(ok:kP l)(P:Cv l dn c0 cls)(hnx:nx.length=l.length){J:Nat}(hJ:J<(bJ dn l.length).length)
  (hlt:∀q,q<J→gt nx (gt (bJ dn l.length) q).toNat≠gt (bJ dn l.length) J):∀(f k:Nat),J - k+2≤f→k≤J→(∀q,q<k→¬Qr l cls (gt (bJ dn l.length) J).toNat (gt (bJ dn l.length) q).toNat)→
  ∃w x,ah.l6 m l (bJ dn l.length) cls (J:Int) (gt (bJ dn l.length) J) f (nx.set (gt (bJ dn l.length) J).toNat (gt (bJ dn l.length) J)) (k:Int)=some (nx.set (gt (bJ dn l.length) J).toNat w,x)∧
   (w=gt (bJ dn l.length) J∧(∀q,q<J→¬Qr l cls (gt (bJ dn l.length) J).toNat (gt (bJ dn l.length) q).toNat)∨∃q,q<J∧Qr l cls (gt (bJ dn l.length) J).toNat (gt (bJ dn l.length) q).toNat∧w=gt nx (gt (bJ dn l.length) q).toNat)
 | 0,k,hf,_,_=>absurd hf (by omega)
 | f+1,k,hf,hk,sI=>by
  have lR:(2:Nat) ^ 30=1073741824:=by decide
  have h8:=ok.1
  have Np:=ig (dn:=dn) l.length
  have mJ:=aM hJ
  obtain⟨v0,v1,v2⟩:=fS mJ
  unfold ah.l6
  have nk:∀w,ix (nx.set (gt (bJ dn l.length) J).toNat w) (gt (bJ dn l.length) J)=some w:=fun w=>by
   rw [gd (k:=(gt (bJ dn l.length) J).toNat) (by omega) (by rw [WW]; omega),ez (by omega),if_pos rfl]
  rw [nk,WL,if_pos (by simp)]
  by_cases h:k<J
  ·have mk:=aM (l:=bJ dn l.length) (k:=k) (by omega)
   obtain⟨w0,w1,w2⟩:=fS mk
   have next:¬Qr l cls (gt (bJ dn l.length) J).toNat (gt (bJ dn l.length) k).toNat→∃w x,ah.l6 m l (bJ dn l.length) cls (J:Int) (gt (bJ dn l.length) J) f (nx.set (gt (bJ dn l.length) J).toNat (gt (bJ dn l.length) J)) (i64.wrap ((k:Int)+1))=some (nx.set (gt (bJ dn l.length) J).toNat w,x)∧
     (w=gt (bJ dn l.length) J∧(∀q,q<J→¬Qr l cls (gt (bJ dn l.length) J).toNat (gt (bJ dn l.length) q).toNat)∨∃q,q<J∧Qr l cls (gt (bJ dn l.length) J).toNat (gt (bJ dn l.length) q).toNat∧w=gt nx (gt (bJ dn l.length) q).toNat):=fun hn=>by
    rw [aD (by omega) (by omega),show (k:Int)+1=((k+1:Nat):Int) by omega]
    refine GM hm ok P hnx hJ hlt f (k+1) (by omega) (by omega) fun q hq=>?_
    by_cases e:q=k
    ·subst e; exact hn
    ·exact sI q (by omega)
   have c1:ix cls (gt (bJ dn l.length) J)=some (gt cls (gt (bJ dn l.length) J).toNat):=gd v2.symm (by rw [P.lc]; omega)
   have c2:ix cls (gt (bJ dn l.length) k)=some (gt cls (gt (bJ dn l.length) k).toNat):=gd w2.symm (by rw [P.lc]; omega)
   rw [if_pos (by simp only [decide_eq_true_eq]; omega),c1,WL,cC (by omega),WL,c2,WL]
   by_cases e:gt cls (gt (bJ dn l.length) J).toNat=gt cls (gt (bJ dn l.length) k).toNat
   ·have hA:=P.al (i:=(gt (bJ dn l.length) J).toNat) (j:=(gt (bJ dn l.length) k).toNat) (by rw [v2]; exact mJ) (by rw [w2]; exact mk) e
    obtain⟨xs,s1,s2⟩:=Cp hm ok P.lc (i:=(gt (bJ dn l.length) J).toNat) (j:=(gt (bJ dn l.length) k).toNat) (by omega) (by omega) hA.len
    rw [v2,w2] at s1
    rw [if_pos (by simpa using e),hU (by omega) (by omega),WL,WL,hU (by omega) (by omega),WL,s1,WL]
    cases xs with
    | false=>
     rw [if_neg (by simp)]
     exact next fun h=>by have:=s2.2 h.2; cases this
    | true=>
     have hQ:Qr l cls (gt (bJ dn l.length) J).toNat (gt (bJ dn l.length) k).toNat:=⟨e,s2.1 rfl⟩
     have hne:(gt (bJ dn l.length) k).toNat≠(gt (bJ dn l.length) J).toNat:=by have:=mF (dn:=dn) (p:=l.length) h hJ; omega
     have n1:ix (nx.set (gt (bJ dn l.length) J).toNat (gt (bJ dn l.length) J)) (gt (bJ dn l.length) k)=some (gt nx (gt (bJ dn l.length) k).toNat):=by
      rw [gd w2.symm (by rw [WW]; omega),ez (by omega),if_neg hne]
     obtain⟨g,rfl⟩:∃g,f=g+1:=⟨f - 1,by omega⟩
     rw [if_pos rfl,WL,n1,WL,WL,List.set_set]
     refine⟨gt nx (gt (bJ dn l.length) k).toNat,i64.wrap ((k:Int)+1),?_,.inr ⟨k,h,hQ,rfl⟩⟩
     unfold ah.l6
     rw [nk,WL,if_neg (by simpa using hlt k h)]
   ·rw [if_neg (by simpa using e)]
    exact next fun h=>e h.1
  ·have e:k=J:=by omega
   rw [if_neg (by simp only [decide_eq_true_eq]; omega)]
   exact⟨gt (bJ dn l.length) J,_,rfl,.inl ⟨rfl,fun q hq=>sI q (by omega)⟩⟩
structure N5 (l:List ae)(dn:List Bool)(cls:List Int)(p:Nat)(nx:List Int):Prop where
 ln:nx.length=l.length
 La:∀x:Nat,(x:Int)∉bJ dn l.length→gt nx x=gt cls x
 later:∀q,p≤q→q<(bJ dn l.length).length→gt nx (gt (bJ dn l.length) q).toNat=gt cls (gt (bJ dn l.length) q).toNat
 new:∀q,q<p→gt nx (gt (bJ dn l.length) q).toNat∈bJ dn l.length∧Qr l cls (gt (bJ dn l.length) q).toNat (gt nx (gt (bJ dn l.length) q).toNat).toNat∧∀g∈bJ dn l.length,Qr l cls (gt (bJ dn l.length) q).toNat g.toNat→gt nx (gt (bJ dn l.length) q).toNat≤g
theorem xH {dn:List Bool}{n p q:Nat}(hp:p<(bJ dn n).length)(hq:q<(bJ dn n).length)(e:(gt (bJ dn n) p).toNat=(gt (bJ dn n) q).toNat):p=q:=by
 have a:=(fS (aM hp)).2.2
 have b:=(fS (aM hq)).2.2
 rcases Nat.lt_trichotomy p q with h | h | h
 ·have:=mF (dn:=dn) (p:=n) h hq; omega
 ·exact h
 ·have:=mF (dn:=dn) (p:=n) h hp; omega
theorem Iy {l:List ae}{dn:List Bool}{c0 cls nx:List Int}(P:Cv l dn c0 cls){p:Nat}(hp:p<(bJ dn l.length).length)(N:N5 l dn cls p nx){w:Int}
  (hw:w=gt (bJ dn l.length) p∧(∀q,q<p→¬Qr l cls (gt (bJ dn l.length) p).toNat (gt (bJ dn l.length) q).toNat)∨∃q,q<p∧Qr l cls (gt (bJ dn l.length) p).toNat (gt (bJ dn l.length) q).toNat∧w=gt nx (gt (bJ dn l.length) q).toNat) :
  N5 l dn cls (p+1) (nx.set (gt (bJ dn l.length) p).toNat w):=by
 have mp:=aM hp
 obtain⟨v0,v1,v2⟩:=fS mp
 have gc:∀x,x≠(gt (bJ dn l.length) p).toNat→gt (nx.set (gt (bJ dn l.length) p).toNat w) x=gt nx x:=fun x hx=>by rw [ez (by rw [N.ln]; omega),if_neg hx]
 have gi:gt (nx.set (gt (bJ dn l.length) p).toNat w) (gt (bJ dn l.length) p).toNat=w:=by rw [ez (by rw [N.ln]; omega),if_pos rfl]
 refine⟨by simpa using N.ln,fun x hx=>?_,fun q h1 h2=>?_,fun q hq=>?_⟩
 ·rw [gc x (fun e=>hx (by rw [e,v2]; exact mp))]; exact N.La x hx
 ·rw [gc _ (fun e=>by have:=xH h2 hp e; omega)]; exact N.later q (by omega) h2
 ·by_cases e:q=p
  ·subst e
   rw [gi]
   rcases hw with⟨rfl,h⟩| ⟨q',h1,h2,rfl⟩
   ·refine⟨mp,⟨rfl,fun _ _=>rfl⟩,fun g hg hQ=>?_⟩
    obtain⟨k,hk,rfl⟩:=eR hg
    by_cases Vp:k<q
    ·exact absurd hQ (h k Vp)
    ·by_cases Rj:k=q
     ·subst Rj; exact Int.le_refl _
     ·have:=mF (dn:=dn) (p:=l.length) (k:=q) (q:=k) (by omega) hk; omega
   ·have mq:=aM (l:=bJ dn l.length) (k:=q') (by omega)
    have eq2:=(fS mq).2.2
    obtain⟨n1,n2,n3⟩:=N.new q' h1
    have e3:=(fS n1).2.2
    have s1:((gt (bJ dn l.length) q).toNat:Int)∈bJ dn l.length:=by rw [v2]; exact mp
    have s2:((gt (bJ dn l.length) q').toNat:Int)∈bJ dn l.length:=by rw [eq2]; exact mq
    exact⟨n1,P.Bh s1 s2 h2 n2,fun g hg hQ=>n3 g hg (P.Bh s2 s1 (P.Jk s1 s2 h2) hQ)⟩
  ·rw [gc _ (fun e2=>by have:=xH (dn:=dn) (n:=l.length) (by omega) hp e2; omega)]
   exact N.new q (by omega)
theorem Bi {m:Nat}(hm:2 ^ 30≤m){l:List ae}{dn:List Bool}{c0 cls:List Int}(ok:kP l)(P:Cv l dn c0 cls):∀(f p:Nat) (more:Bool) (nx:List Int),(bJ dn l.length).length - p<f→p≤(bJ dn l.length).length→N5 l dn cls p nx→
  (more=true↔∃q,q<p∧gt nx (gt (bJ dn l.length) q).toNat≠gt cls (gt (bJ dn l.length) q).toNat)→
  ∃ir Rk x,ah.l5 m l (bJ dn l.length) cls f more nx (p:Int)=some (ir,Rk,x)∧N5 l dn cls (bJ dn l.length).length Rk∧(ir=true↔∃q,q<(bJ dn l.length).length∧gt Rk (gt (bJ dn l.length) q).toNat≠gt cls (gt (bJ dn l.length) q).toNat)
 | 0,p,_,_,hf,_,_,_=>absurd hf (by omega)
 | f+1,p,more,nx,hf,hp,N,mG=>by
  have lR:(2:Nat) ^ 30=1073741824:=by decide
  have h8:=ok.1
  have Np:=ig (dn:=dn) l.length
  unfold ah.l5
  by_cases h:p<(bJ dn l.length).length
  ·have mp:=aM h
   obtain⟨v0,v1,v2⟩:=fS mp
   obtain⟨w,x,k1,k2⟩:=GM hm ok P N.ln h (fun q hq=>by
    obtain⟨n1,n2,n3⟩:=N.new q hq
    have mq:=aM (l:=bJ dn l.length) (k:=q) (by omega)
    have:=n3 _ mq ⟨rfl,fun _ _=>rfl⟩
    have:=mF (dn:=dn) (p:=l.length) hq h
    omega) m 0 (by omega) (by omega) (fun q hq=>absurd hq (by omega))
   have k1:ah.l6 m l (bJ dn l.length) cls (p:Int) (gt (bJ dn l.length) p) m (nx.set (gt (bJ dn l.length) p).toNat (gt (bJ dn l.length) p)) 0=_:=k1
   have N':=Iy P h N k2
   have ew:i64.wrap ((p:Int)+1)=((p+1:Nat):Int):=by rw [aD (by omega) (by omega)]; omega
   have Vq:ix nx (gt (bJ dn l.length) p)=some (gt nx (gt (bJ dn l.length) p).toNat):=gd v2.symm (by rw [N.ln]; omega)
   have c1:ix cls (gt (bJ dn l.length) p)=some (gt cls (gt (bJ dn l.length) p).toNat):=gd v2.symm (by rw [P.lc]; omega)
   have c2:ix (nx.set (gt (bJ dn l.length) p).toNat w) (gt (bJ dn l.length) p)=some w:=by
    rw [gd v2.symm (by rw [WW,N.ln]; omega),ez (by rw [N.ln]; omega),if_pos rfl]
   have gw:gt (nx.set (gt (bJ dn l.length) p).toNat w) (gt (bJ dn l.length) p).toNat=w:=by rw [ez (by rw [N.ln]; omega),if_pos rfl]
   have old:∀q,q<p→gt (nx.set (gt (bJ dn l.length) p).toNat w) (gt (bJ dn l.length) q).toNat=gt nx (gt (bJ dn l.length) q).toNat:=fun q hq=>by
    rw [ez (by rw [N.ln]; omega),if_neg (fun e=>by have:=xH (dn:=dn) (n:=l.length) (by omega) h e; omega)]
   rw [if_pos (by simp only [decide_eq_true_eq]; omega),cC h,WL,Vq,WL,k1,WL]
   dsimp only
   rw [ew]
   cases more with
   | true=>
    rw [if_pos rfl]
    refine Bi hm ok P f (p+1) true _ (by clear mG k2; omega) (by clear mG k2; omega) N' ⟨fun _=>?_,fun _=>rfl⟩
    obtain⟨q,q1,q2⟩:=mG.1 rfl
    exact⟨q,by omega,by rw [old q q1]; exact q2⟩
   | false=>
    rw [if_neg (by simp),c2,WL,c1,WL]
    refine Bi hm ok P f (p+1) _ _ (by clear mG k2; omega) (by clear mG k2; omega) N' ?_
    constructor
    ·intro hb
     refine⟨p,by omega,?_⟩
     rw [gw]; simpa using hb
    ·rintro⟨q,q1,q2⟩
     by_cases e:q=p
     ·subst e; rw [gw] at q2; simpa using q2
     ·rw [old q (by omega)] at q2
      have:=mG.2 ⟨q,by omega,q2⟩
      cases this
  ·have e:p=(bJ dn l.length).length:=by omega
   subst e
   exact⟨more,nx,_,by rw [if_neg (by simp)],N,mG⟩
theorem GN {l:List ae}{dn:List Bool}{c0 cls nx:List Int}{od:List Int}(ok:kP l)(P:Cv l dn c0 cls)(N:N5 l dn cls (bJ dn l.length).length nx)
  (yb:∀j,j<l.length→(gb dn j=true↔(j:Int)∈od)) (Ls:∀R,DH l R→∀i j:Nat,R i j→(i:Int)∈od→(j:Int)∈od→gt c0 i=gt c0 j)
  (hfin:∀R,DH l R→∀i j:Nat,R i j→(i:Int)∈od→(j:Int)∈od):Cv l dn c0 nx:=by
 have NV:∀j,j<l.length→gb dn j=true→(j:Int)∉bJ dn l.length:=fun j _ h hm=>by
  obtain⟨j',a,b,c⟩:=iN.1 hm
  have:j=j':=by omega
  subst this; rw [h] at b; cases b
 have uX:∀j,j<l.length→(j:Int)∉od→(j:Int)∈bJ dn l.length:=fun j hj h=>iN.2 ⟨j,hj,by
  cases hb:gb dn j with
  | true=>exact absurd ((yb j hj).1 hb) h
  | false=>rfl,rfl⟩
 have atR:∀j:Nat,(j:Int)∈bJ dn l.length→gt nx j∈bJ dn l.length∧Qr l cls j (gt nx j).toNat∧∀g∈bJ dn l.length,Qr l cls j g.toNat→gt nx j≤g:=fun j hj=>by
  obtain⟨q,hq,e⟩:=eR hj
  have:=N.new q hq
  rw [e,WT] at this
  exact this
 have mn:∀i j:Nat,(i:Int)∈bJ dn l.length→(j:Int)∈bJ dn l.length→Qr l cls i j→gt nx i≤gt nx j:=fun i j hi hj hQ=>by
  obtain⟨r1,r2,r3⟩:=atR j hj
  exact (atR i hi).2.2 _ r1 (P.Bh hi hj hQ r2)
 have TG:∀i j:Nat,(i:Int)∈bJ dn l.length→(j:Int)∈bJ dn l.length→Qr l cls i j→gt nx i=gt nx j:=fun i j hi hj hQ=>by
  have h1:=mn i j hi hj hQ
  have h2:=mn j i hj hi (P.Jk hi hj hQ)
  omega
 refine⟨N.ln,fun j hj h=>by rw [N.La j (NV j hj h)]; exact P.old j hj h,fun j hj=>?_,fun R B i j hR hi hj=>?_⟩
 ·obtain⟨r1,r2,r3⟩:=atR j hj
  have e:=(fS r1).2.2
  have z8:(((gt nx j).toNat:Nat):Int)∈bJ dn l.length:=by rw [e]; exact r1
  refine⟨r1,r3 j hj ⟨rfl,fun _ _=>rfl⟩,(TG j _ hj z8 r2).symm,?_⟩
  have:=P.al hj z8 r2.1
  rw [e] at this; exact this
 ·refine TG i j hi hj ⟨P.coarse R B i j hR hi hj,fun k hk=>?_⟩
  have NW:R (ar l i k) (ar l j k):=B.arg i j hR k hk
  obtain⟨ra,rb⟩:=B.nu _ _ NW
  by_cases ha:((ar l i k:Nat):Int)∈od
  ·have hb:=hfin R B _ _ NW ha
   rw [P.old _ ra ((yb _ ra).2 ha),P.old _ rb ((yb _ rb).2 hb)]
   exact Ls R B _ _ NW ha hb
  ·have hb:((ar l j k:Nat):Int)∉od:=fun h=>ha (hfin _ B.symm _ _ NW h)
   exact P.coarse R B _ _ NW (uX _ ra ha) (uX _ rb hb)
def DP (dn:List Bool)(n:Nat)(cls:List Int):List Int:=(bJ dn n).filter fun j=>gt cls j.toNat==j
theorem DQ {dn:List Bool}{n:Nat}:(bJ dn n).Nodup:=by
 unfold List.Nodup
 rw [List.pairwise_iff_getElem]
 intro i j hi hj yn e
 have:=mF (dn:=dn) (p:=n) yn hj
 have a:=bw hi
 have b:=bw hj
 rw [W2 hi] at a
 rw [W2 hj] at b
 have a:=Xj a
 have b:=Xj b
 omega
theorem GO {m:Nat}(hm:2 ^ 30≤m){l:List ae}{dn:List Bool}{c0 od:List Int}(ok:kP l)
  (yb:∀j,j<l.length→(gb dn j=true↔(j:Int)∈od)) (Ls:∀R,DH l R→∀i j:Nat,R i j→(i:Int)∈od→(j:Int)∈od→gt c0 i=gt c0 j)
  (hfin:∀R,DH l R→∀i j:Nat,R i j→(i:Int)∈od→(j:Int)∈od):∀(f:Nat) (cls:List Int),(bJ dn l.length).length - (DP dn l.length cls).length+1<f→Cv l dn c0 cls→
  ∃ju,ah.l4 m l (bJ dn l.length) f cls true=some (ju,false)∧Cv l dn c0 ju∧∀j:Nat,(j:Int)∈bJ dn l.length→SA l ju j (gt ju j).toNat
 | 0,cls,hf,_=>absurd hf (by omega)
 | f+1,cls,hf,P=>by
  have lR:(2:Nat) ^ 30=1073741824:=by decide
  have h8:=ok.1
  have Np:=ig (dn:=dn) l.length
  unfold ah.l4
  have lP:app 8 ([]:List Int) cls=some cls:=by unfold app; rw [if_pos (by simp; rw [P.lc]; omega),Xm]
  obtain⟨ir,nx,x,k1,N,mG⟩:=Bi hm ok P m 0 false cls (by omega) (by omega) ⟨P.lc,fun _ _=>rfl,fun _ _ _=>rfl,fun q hq=>absurd hq (by omega)⟩ ⟨fun h=>(by cases h),fun ⟨q,hq,_⟩=>absurd hq (by omega)⟩
  have k1:ah.l5 m l (bJ dn l.length) cls m false cls 0=_:=k1
  have P':=GN ok P N yb Ls hfin
  rw [if_pos rfl,lP,WL,k1,WL]
  dsimp only
  cases TH:ir with
  | true=>
   obtain⟨q,hq,hne⟩:=mG.1 TH
   have mq:=aM hq
   have eq2:=(fS mq).2.2
   obtain⟨n1,n2,n3⟩:=N.new q hq
   have e3:=(fS n1).2.2
   have TI:(DP dn l.length cls).length+1≤(DP dn l.length nx).length:=by
    have Vr:(gt nx (gt (bJ dn l.length) q).toNat::DP dn l.length cls).Nodup:=by
     rw [List.nodup_cons]
     refine⟨fun h=>?_,List.Pairwise.filter _ DQ⟩
     have:=(Yf.1 h).2
     have:=beq_iff_eq.1 this
     exact hne (by rw [n2.1,this])
    have:=Vr.length_le_of_subset (l₂:=DP dn l.length nx) (fun y hy=>by
     rcases Xs.1 hy with rfl | hy
     ·refine Yf.2 ⟨n1,?_⟩
      have:=(P'.pM (gt (bJ dn l.length) q).toNat (by rw [eq2]; exact mq)).2.2.1
      rw [beq_iff_eq]; exact this
     ·obtain⟨y1,y2⟩:=Yf.1 hy
      have y2:=beq_iff_eq.1 y2
      refine Yf.2 ⟨y1,?_⟩
      have ey:=(fS y1).2.2
      rw [beq_iff_eq]
      obtain⟨k,hk,e⟩:=eR y1
      obtain⟨m1,m2,m3⟩:=N.new k hk
      rw [e] at m1 m2 m3
      have a1:=m3 y y1 ⟨rfl,fun _ _=>rfl⟩
      have em:=(fS m1).2.2
      have a2:=(P.pM (gt nx y.toNat).toNat (by rw [em]; exact m1)).2.1
      rw [←m2.1,y2] at a2
      omega)
    simpa using this
   have hle:(DP dn l.length nx).length≤(bJ dn l.length).length:=List.length_filter_le _ _
   exact GO hm ok yb Ls hfin f nx (by clear mG; omega) P'
  | false=>
   obtain⟨g,rfl⟩:∃g,f=g+1:=⟨f - 1,by omega⟩
   have same:∀j:Nat,(j:Int)∈bJ dn l.length→gt nx j=gt cls j:=fun j hj=>by
    obtain⟨k,hk,e⟩:=eR hj
    by_cases hne:gt nx j=gt cls j
    ·exact hne
    ·have:=mG.2 ⟨k,hk,by rw [e,WT]; exact hne⟩
     rw [TH] at this; cases this
   have Vt:nx=cls:=Fi (by rw [N.ln,P.lc]) fun k hk=>by
    by_cases h:(k:Int)∈bJ dn l.length
    ·exact same k h
    ·exact N.La k h
   refine⟨nx,?_,P',fun j hj=>?_⟩
   ·unfold ah.l4
    rw [if_neg (by simp)]
   ·obtain⟨k,hk,e⟩:=eR hj
    obtain⟨m1,m2,m3⟩:=N.new k hk
    rw [e,WT] at m2
    rw [Vt] at m2 ⊢
    exact m2.2
end Go.Proofs.YtmekcfdllhphlaaDoor
namespace Go.Proofs.YtmekcfdllhphlaaDoor
open Go Go.R
open Go.IntKind (i64 u64 u8 u32)
structure Lb (l:List ae)(c od:List Int):Prop where
 min:Min l c
 pM:∀i,i<l.length→0≤gt c i∧gt c i<l.length∧gt c (gt c i).toNat=gt c i
 uW:∀i:Nat,(i:Int)∈od→∀k,k<na l i→((ar l i k:Nat):Int)∈od∧od.idxOf ((ar l i k:Nat):Int)<od.idxOf (i:Int)
 Vu:∀i,i<l.length→(i:Int)∉od→gt c i≤i
theorem Lc {n k:Nat}:gb (W8 n false) k=false:=by
 unfold gb; rw [W7,List.getElem?_replicate]; split<;>rfl
theorem zx {m:Nat}(hm:2 ^ 30≤m){l:List ae}(ok:kP l):∃c od,ah.f m l=some c∧Lb l c od:=by
 have lR:(2:Nat) ^ 30=1073741824:=by decide
 have h8:=ok.1
 unfold ah.f
 have e0:uL 8 (l.length:Int) (0:Int)=some (W8 l.length 0):=by unfold uL; rw [if_pos ⟨by omega,by rw [WT]; omega⟩,WT]
 have e1:uL 1 (l.length:Int) false=some (W8 l.length false):=by unfold uL; rw [if_pos ⟨by omega,by rw [WT]; omega⟩,WT]
 obtain⟨c0,dn,fs,od,k1,P1,hq⟩:=GJ hm ok m (W8 l.length 0) (W8 l.length false) [] [] (by simp; omega)
  {lc:=by simp,ld:=by simp,Rg:=by simp,KZ:=(by intro x hx; cases hx),Hm:=(by intro i hi; rw [Lc]; simp),uW:=(by intro i hi; cases hi),OA:=by simp,fst:=(by intro f hf; cases hf),pM:=(by intro i hi; cases hi),apart:=(by intro f hf; cases hf),coarse:=(by intro R B i j hR hi; cases hi)}
 obtain⟨c1,x,k2,P2⟩:=Bg hm ok P1.ld (c0:=c0) m 0 c0 (by omega) (by omega) {lc:=P1.lc,old:=fun _ _=>rfl,pM:=(by intro j hj; cases hj)}
 have k2:ah.l2 m l dn m c0 [] 0=_:=k2
 have hfin:∀R,DH l R→∀i j:Nat,R i j→(i:Int)∈od→(j:Int)∈od:=by
  intro R B
  have:∀N i j:Nat,od.idxOf (i:Int)<N→R i j→(i:Int)∈od→(j:Int)∈od:=by
   intro N
   induction N with
   | zero=>intro i j h; omega
   | succ N ih=>
    intro i j hN hR hi
    by_cases hj:(j:Int)∈od
    ·exact hj
    ·obtain⟨k,g1,g2⟩:=hq j (B.nu i j hR).2 hj
     have r9:k<na l i:=by have:=(B.top i j hR).len; unfold na at *; omega
     obtain⟨r1,r2⟩:=P1.uW i hi k r9
     exact absurd (ih (ar l i k) (ar l j k) (by omega) (B.arg i j hR k r9) r1) g2
  exact fun i j=>this (od.idxOf (i:Int)+1) i j (by omega)
 obtain⟨c,k3,P3,hS⟩:=GO hm ok P1.Hm P1.coarse hfin m c1 (by have:=ig (dn:=dn) l.length; omega) (DO P2)
 have uX:∀j,j<l.length→(j:Int)∉od→(j:Int)∈bJ dn l.length:=fun j hj h=>iN.2 ⟨j,hj,by
  cases hb:gb dn j with
  | true=>exact absurd ((P1.Hm j hj).1 hb) h
  | false=>rfl,rfl⟩
 have Jl:∀{x:Int},x∈bJ dn l.length→x∉od:=fun hx h=>by
  obtain⟨j,a,b,e⟩:=iN.1 hx
  subst e
  rw [(P1.Hm j a).2 h] at b; cases b
 have uY:∀j:Nat,j<l.length→(j:Int)∈od→gt c j=gt c0 j:=fun j hj h=>P3.old j hj ((P1.Hm j hj).2 h)
 have Ld:∀f∈fs,0≤f∧f<l.length∧f∈od∧((f.toNat:Nat):Int)=f:=fun f hf=>by
  have a:=P1.Rh f hf; have b:=(P1.fst f hf).1; exact⟨a.1,a.2,b,by omega⟩
 have Rm:∀i j:Nat,(i:Int)∈od→(j:Int)∈od→ru l c0 i j→SA l c i j:=fun i j hi hj h k hk=>by
  have a:=(P1.uW i hi k hk).1
  have b:=(P1.uW j hj k (by have:=h.1.len; unfold na at *; omega)).1
  have ra:=P1.KZ _ a
  have rb:=P1.KZ _ b
  rw [uY _ (by omega) a,uY _ (by omega) b]
  exact h.2 k hk
 have both:∀i j:Nat,i<l.length→j<l.length→gt c i=gt c j→Alike (nd l i) (nd l j)∧SA l c i j:=fun i j hi hj e=>by
  by_cases h1:(i:Int)∈od
  ·obtain⟨f1,s1⟩:=P1.pM i h1
   by_cases h2:(j:Int)∈od
   ·obtain⟨f2,s2⟩:=P1.pM j h2
    rw [uY i hi h1,uY j hj h2] at e
    rw [e] at s1
    have s:=s1.trans s2.symm
    exact⟨s.1,Rm i j h1 h2 s⟩
   ·have:=(P3.pM j (uX j hj h2)).1
    rw [←e,uY i hi h1] at this
    exact absurd (Ld _ f1).2.2.1 (Jl this)
  ·have r1:=uX i hi h1
   by_cases h2:(j:Int)∈od
   ·obtain⟨f2,s2⟩:=P1.pM j h2
    have:=(P3.pM i r1).1
    rw [e,uY j hj h2] at this
    exact absurd (Ld _ f2).2.2.1 (Jl this)
   ·have r2:=uX j hj h2
    have hA:=P3.al r1 r2 e
    refine⟨hA,fun k hk=>?_⟩
    have a:=hS i r1 k hk
    have b:=hS j r2 k (by have:=hA.len; unfold na at *; omega)
    rw [e] at a
    exact a.trans b.symm
 refine⟨c,od,?_,⟨P3.lc,fun i j hi hj e=>(both i j hi hj e).1,fun i j hi hj e k hk=>(both i j hi hj e).2 k hk,fun R B i j hR=>?_⟩,fun i hi=>?_,P1.uW,fun i hi h=>(P3.pM i (uX i hi h)).2.1⟩
 ·rw [e0,WL,e1,WL,k1,WL]
  dsimp only
  rw [k2,WL]
  dsimp only
  rw [k3]; rfl
 ·obtain⟨hi,hj⟩:=B.nu i j hR
  by_cases h1:(i:Int)∈od
  ·have h2:=hfin R B i j hR h1
   rw [uY i hi h1,uY j hj h2]; exact P1.coarse R B i j hR h1 h2
  ·have h2:(j:Int)∉od:=fun h=>h1 (hfin _ B.symm j i hR h)
   exact P3.coarse R B i j hR (uX i hi h1) (uX j hj h2)
 ·by_cases h1:(i:Int)∈od
  ·obtain⟨f1,s1⟩:=P1.pM i h1
   obtain⟨a,b,d,e⟩:=Ld _ f1
   rw [uY i hi h1]
   refine⟨a,b,?_⟩
   rw [uY _ (by omega) (by rw [e]; exact d)]
   exact (P1.fst _ f1).2
  ·obtain⟨r1,r2,r3,r4⟩:=P3.pM i (uX i hi h1)
   have:=fS r1
   exact⟨this.1,this.2.1,r3⟩
end Go.Proofs.YtmekcfdllhphlaaDoor
namespace Go.Proofs.YtmekcfdllhphlaaDoor
open Go Go.R
open Go.IntKind (i64 u64 u8 u32)
def pm (pl:List Int)(n:ae):ae:=⟨n.kind,n.int,n.label,n.args.map fun a=>gt pl a.toNat⟩
theorem pE {l:List ae}{i:Nat}(h:i<l.length):l[i]? = some (nd l i):=by
 have:=hU (l:=l) (i:=(i:Int)) (by omega) (by omega)
 unfold ix at this
 rwa [if_pos (by omega),WT] at this
theorem Bj {l:List ae}{i q:Nat}{x:ae}(hi:i<l.length):nd (l.set i x) q=if q=i then x else nd l q:=by
 unfold nd
 simp only [WT,W7,Ya]
 by_cases h:i=q
 ·subst h; simp [hi]
 ·rw [if_neg h,if_neg (by omega)]
theorem GP {f:ae→ae}{l:List ae}{i:Nat}(h:i<l.length):nd (l.map f) i=f (nd l i):=by
 have h1:=pE (l:=l.map f) (i:=i) (by simpa using h)
 rw [Xo,pE h] at h1
 exact (Xj h1).symm
theorem Iz {f:Int→ae}{l:List Int}{i:Nat}(h:i<l.length):nd (l.map f) i=f (gt l i):=by
 have h1:=pE (l:=l.map f) (i:=i) (by simpa using h)
 rw [Xo,bw h] at h1
 exact (Xj h1).symm
theorem GQ {l r:List ae}(hl:l.length=r.length)(h:∀k,k<l.length→nd l k=nd r k):l=r:=by
 apply XE fun k=>?_
 by_cases hk:k<l.length
 ·rw [pE hk,pE (hl ▸ hk),h k hk]
 ·rw [W6 (by omega),W6 (by omega)]
theorem zy {m:Nat}{S:List Int}(hn:S.Nodup)(NX:S.length≤8000):∀(f i:Nat) (pl:List Int),S.length - i<f→i≤S.length→(∀s∈S,0≤s∧s<pl.length)→(∀q,q<i→gt pl (gt S q).toNat=q)→
  ∃GR x,ai.l0 m S f pl (i:Int)=some (GR,x)∧GR.length=pl.length∧∀q,q<S.length→gt GR (gt S q).toNat=q
 | 0,i,pl,hf,_,_,_=>absurd hf (by omega)
 | f+1,i,pl,hf,hi,hS,hq=>by
  unfold ai.l0
  by_cases h:i<S.length
  ·obtain⟨s0,s1⟩:=hS _ (aM h)
   have hx:∃z,ix pl (gt S i)=some z:=⟨_,gd (k:=(gt S i).toNat) (by omega) (by omega)⟩
   obtain⟨z,hx⟩:=hx
   obtain⟨GR,x,k1,k2,k3⟩:=zy (m:=m) hn NX f (i+1) (pl.set (gt S i).toNat (i:Int)) (by omega) (by omega) (by simpa using hS) (fun q G8=>by
    rw [ez (by omega)]
    by_cases e:q=i
    ·subst e; rw [if_pos rfl]
    ·have hne:gt S q≠gt S i:=fun e2=>e (tR hn (by omega) h e2)
     have:=hS _ (aM (l:=S) (k:=q) (by omega))
     rw [if_neg (by omega)]; exact hq q (by omega))
   refine⟨GR,x,?_,by simpa using k2,k3⟩
   rw [if_pos (by simp only [decide_eq_true_eq]; omega),cC h,WL,hx,WL,aD (by omega) (by omega),show (i:Int)+1=((i+1:Nat):Int) by omega]
   exact k1
  ·exact⟨pl,_,by rw [if_neg (by simp only [decide_eq_true_eq]; omega)],rfl,fun q h=>hq q (by omega)⟩
theorem zz {m:Nat}{S:List Int}(hn:S.Nodup)(NX:S.length≤8000):∀(f i:Nat) (pl:List Int),S.length - i<f→i≤S.length→(∀s∈S,0≤s∧s<pl.length)→(∀q,q<i→gt pl (gt S q).toNat=q)→
  ∃GR x,ai.l5 m S f pl (i:Int)=some (GR,x)∧GR.length=pl.length∧∀q,q<S.length→gt GR (gt S q).toNat=q
 | 0,i,pl,hf,_,_,_=>absurd hf (by omega)
 | f+1,i,pl,hf,hi,hS,hq=>by
  unfold ai.l5
  by_cases h:i<S.length
  ·obtain⟨s0,s1⟩:=hS _ (aM h)
   have hx:∃z,ix pl (gt S i)=some z:=⟨_,gd (k:=(gt S i).toNat) (by omega) (by omega)⟩
   obtain⟨z,hx⟩:=hx
   obtain⟨GR,x,k1,k2,k3⟩:=zz (m:=m) hn NX f (i+1) (pl.set (gt S i).toNat (i:Int)) (by omega) (by omega) (by simpa using hS) (fun q G8=>by
    rw [ez (by omega)]
    by_cases e:q=i
    ·subst e; rw [if_pos rfl]
    ·have hne:gt S q≠gt S i:=fun e2=>e (tR hn (by omega) h e2)
     have:=hS _ (aM (l:=S) (k:=q) (by omega))
     rw [if_neg (by omega)]; exact hq q (by omega))
   refine⟨GR,x,?_,by simpa using k2,k3⟩
   rw [if_pos (by simp only [decide_eq_true_eq]; omega),cC h,WL,hx,WL,aD (by omega) (by omega),show (i:Int)+1=((i+1:Nat):Int) by omega]
   exact k1
  ·exact⟨pl,_,by rw [if_neg (by simp only [decide_eq_true_eq]; omega)],rfl,fun q h=>hq q (by omega)⟩
theorem Cw {m:Nat}{pl:List Int}{n:ae}(h8:n.args.length≤8)(ha:∀a∈n.args,0≤a∧a<pl.length):∀(f k:Nat),n.args.length - k<f→k≤n.args.length→
  ∃x,ai.l2 m pl n f ((n.args.take k).map fun a=>gt pl a.toNat) (k:Int)=some (n.args.map fun a=>gt pl a.toNat,x)
 | 0,k,hf,_=>absurd hf (by omega)
 | f+1,k,hf,hk=>by
  unfold ai.l2
  by_cases h:k<n.args.length
  ·obtain⟨a0,a1⟩:=ha _ (aM h)
   have hy:ix pl (gt n.args k)=some (gt pl (gt n.args k).toNat):=gd (by omega) (by omega)
   have hT:n.args.take (k+1)=n.args.take k++[gt n.args k]:=by rw [XR,bw h]; rfl
   have lP:app 8 ((n.args.take k).map fun a=>gt pl a.toNat) [gt pl (gt n.args k).toNat]=some ((n.args.take (k+1)).map fun a=>gt pl a.toNat):=by
    unfold app; rw [if_pos (by simp; omega),hT,Xi]; rfl
   obtain⟨x,ih⟩:=Cw (m:=m) h8 ha f (k+1) (by omega) (by omega)
   rw [if_pos (by simp only [decide_eq_true_eq]; omega),cC h,WL,hy,WL,lP,WL,aD (by omega) (by omega),show (k:Int)+1=((k+1:Nat):Int) by omega]
   exact⟨x,ih⟩
  ·have e:k=n.args.length:=by omega
   subst e
   exact⟨_,by rw [if_neg (by simp),XU]⟩
theorem Cy {m:Nat}{pl:List Int}{n:ae}(h8:n.args.length≤8)(ha:∀a∈n.args,0≤a∧a<pl.length):∀(f k:Nat),n.args.length - k<f→k≤n.args.length→
  ∃x,ai.l7 m pl n f ((n.args.take k).map fun a=>gt pl a.toNat) (k:Int)=some (n.args.map fun a=>gt pl a.toNat,x)
 | 0,k,hf,_=>absurd hf (by omega)
 | f+1,k,hf,hk=>by
  unfold ai.l7
  by_cases h:k<n.args.length
  ·obtain⟨a0,a1⟩:=ha _ (aM h)
   have hy:ix pl (gt n.args k)=some (gt pl (gt n.args k).toNat):=gd (by omega) (by omega)
   have hT:n.args.take (k+1)=n.args.take k++[gt n.args k]:=by rw [XR,bw h]; rfl
   have lP:app 8 ((n.args.take k).map fun a=>gt pl a.toNat) [gt pl (gt n.args k).toNat]=some ((n.args.take (k+1)).map fun a=>gt pl a.toNat):=by
    unfold app; rw [if_pos (by simp; omega),hT,Xi]; rfl
   obtain⟨x,ih⟩:=Cy (m:=m) h8 ha f (k+1) (by omega) (by omega)
   rw [if_pos (by simp only [decide_eq_true_eq]; omega),cC h,WL,hy,WL,lP,WL,aD (by omega) (by omega),show (k:Int)+1=((k+1:Nat):Int) by omega]
   exact⟨x,ih⟩
  ·have e:k=n.args.length:=by omega
   subst e
   exact⟨_,by rw [if_neg (by simp),XU]⟩
theorem Cz {m:Nat}(hm:2 ^ 30≤m){l:List ae}{S pl:List Int}(ok:kP l)(hS:∀s∈S,0≤s∧s<l.length)(NX:S.length≤8000)(z7:pl.length=l.length):∀(f i:Nat),S.length - i<f→i≤S.length→
  ∃x,ai.l1 m l S pl f ((S.take i).map fun s=>pm pl (nd l s)) (i:Int)=some (S.map fun s=>pm pl (nd l s),x)
 | 0,i,hf,_=>absurd hf (by omega)
 | f+1,i,hf,hi=>by
  have lR:(2:Nat) ^ 30=1073741824:=by decide
  unfold ai.l1
  by_cases h:i<S.length
  ·obtain⟨s0,s1⟩:=hS _ (aM h)
   obtain⟨n1,n2⟩:=ok.2 _ (fw s0 s1)
   obtain⟨x,q1⟩:=Cw (m:=m) (pl:=pl) (n:=nd l (gt S i)) n1 (fun a ha=>by have:=n2 a ha; omega) m 0 (by omega) (by omega)
   have q1:ai.l2 m pl (nd l (gt S i)) m [] 0=_:=q1
   have hT:S.take (i+1)=S.take i++[gt S i]:=by rw [XR,bw h]; rfl
   have lP:app 56 ((S.take i).map fun s=>pm pl (nd l s)) [ae.mk (nd l (gt S i)).kind (nd l (gt S i)).int (nd l (gt S i)).label ((nd l (gt S i)).args.map fun a=>gt pl a.toNat)]=some ((S.take (i+1)).map fun s=>pm pl (nd l s)):=by
    unfold app; rw [if_pos (by simp; omega),hT,Xi]; rfl
   obtain⟨x,ih⟩:=Cz hm ok hS NX z7 f (i+1) (by omega) (by omega)
   rw [if_pos (by simp only [decide_eq_true_eq]; omega),cC h,WL,hU s0 s1,WL,q1,WL]
   dsimp only
   rw [lP,WL,aD (by omega) (by omega),show (i:Int)+1=((i+1:Nat):Int) by omega]
   exact⟨x,ih⟩
  ·have e:i=S.length:=by omega
   subst e
   exact⟨_,by rw [if_neg (by simp),XU]⟩
theorem CA {m:Nat}{P:List ae}{c:List Int}(hc:c.length=P.length){i:Nat}(hi:i<P.length)(h8:(nd P i).args.length≤8)(ha:∀a∈(nd P i).args,0≤a∧a<P.length):∀(f k:Nat),(nd P i).args.length - k<f→k≤(nd P i).args.length→
  ∃x,ai.l4 m c (i:Int) f (P.set i ⟨(nd P i).kind,(nd P i).int,(nd P i).label,(((nd P i).args.take k).map fun a=>gt c a.toNat)++(nd P i).args.drop k⟩) (k:Int)=some (P.set i (pm c (nd P i)),x)
 | 0,k,hf,_=>absurd hf (by omega)
 | f+1,k,hf,hk=>by
  unfold ai.l4
  have nk:∀w,ix (P.set i w) (i:Int)=some w:=fun w=>by
   rw [hU (by omega) (by simpa using hi),Bj hi,if_pos rfl]
  have hlen:((((nd P i).args.take k).map fun a=>gt c a.toNat)++(nd P i).args.drop k).length=(nd P i).args.length:=by simp; omega
  rw [nk,WL]
  by_cases h:k<(nd P i).args.length
  ·have hg:gt ((((nd P i).args.take k).map fun a=>gt c a.toNat)++(nd P i).args.drop k) k=gt (nd P i).args k:=by
    unfold gt
    rw [W7,W7,Xa (by simp; omega)]
    simp only [Xu,Yk,List.getElem?_drop]
    congr 2; omega
   obtain⟨a0,a1⟩:=ha _ (aM h)
   have hx:ix ((((nd P i).args.take k).map fun a=>gt c a.toNat)++(nd P i).args.drop k) (k:Int)=some (gt (nd P i).args k):=by rw [cC (by omega),hg]
   have hy:ix c (gt (nd P i).args k)=some (gt c (gt (nd P i).args k).toNat):=gd (by omega) (by omega)
   have Af:((((nd P i).args.take k).map fun a=>gt c a.toNat)++(nd P i).args.drop k).set k (gt c (gt (nd P i).args k).toNat)=(((nd P i).args.take (k+1)).map fun a=>gt c a.toNat)++(nd P i).args.drop (k+1):=by
    have hT:(nd P i).args.take (k+1)=(nd P i).args.take k++[gt (nd P i).args k]:=by rw [XR,bw h]; rfl
    have hD:(nd P i).args.drop k=gt (nd P i).args k::(nd P i).args.drop (k+1):=by
     obtain⟨h4,h5⟩:=WU.1 (bw h)
     rw [←h5]; exact WZ h4
    have Lq:(((nd P i).args.take k).map fun a=>gt c a.toNat).length=k:=by simp; omega
    rw [Yg _ _ (by omega),Lq,Yj,hD,List.set_cons_zero,hT,Xi,W3]
    rfl
   rw [if_pos (by simp only [decide_eq_true_eq]; omega),WL,WL]
   dsimp only
   rw [hx,WL,hy,WL,WL,WT,WT,List.set_set,Af,aD (by omega) (by omega),show (k:Int)+1=((k+1:Nat):Int) by omega]
   exact CA hc hi h8 ha f (k+1) (by omega) (by omega)
  ·have e:k=(nd P i).args.length:=by omega
   subst e
   refine⟨((nd P i).args.length:Int),?_⟩
   rw [if_neg (by simp only [decide_eq_true_eq]; omega),XU,List.drop_length,XT]
   rfl
theorem CB {m:Nat}(hm:2 ^ 30≤m){P:List ae}{c:List Int}(ok:kP P)(hc:c.length=P.length):∀(f i:Nat) (Q:List ae),P.length - i<f→i≤P.length→Q.length=P.length→(∀q,q<P.length→nd Q q=if q<i then pm c (nd P q) else nd P q)→
  ∃x,ai.l3 m c f Q (i:Int)=some (P.map (pm c),x)
 | 0,i,Q,hf,_,_,_=>absurd hf (by omega)
 | f+1,i,Q,hf,hi,hl,hq=>by
  have lR:(2:Nat) ^ 30=1073741824:=by decide
  have h8:=ok.1
  unfold ai.l3
  by_cases h:i<P.length
  ·obtain⟨n1,n2⟩:=yY ok h
   have OD:nd Q i=nd P i:=by rw [hq i h,if_neg (by omega)]
   obtain⟨x,q1⟩:=CA (m:=m) (P:=Q) (c:=c) (by omega) (i:=i) (by omega) (by rw [OD]; exact n1) (by rw [OD,hl]; exact n2) m 0 (by rw [OD]; omega) (by omega)
   have nk:Q.set i ⟨(nd Q i).kind,(nd Q i).int,(nd Q i).label,(((nd Q i).args.take 0).map fun a=>gt c a.toNat)++(nd Q i).args.drop 0⟩=Q:=by
    refine GQ (by simp) fun k hk=>?_
    rw [Bj (by omega)]
    by_cases e:k=i
    ·subst e; rw [if_pos rfl]; simp
    ·rw [if_neg e]
   rw [nk] at q1
   have q1:ai.l4 m c (i:Int) m Q 0=_:=q1
   rw [if_pos (by simp only [decide_eq_true_eq]; omega),q1,WL]
   dsimp only
   rw [aD (by omega) (by omega),show (i:Int)+1=((i+1:Nat):Int) by omega]
   refine CB hm ok hc f (i+1) _ (by omega) (by omega) (by simpa using hl) fun q Vv=>?_
   rw [Bj (by omega)]
   by_cases e:q=i
   ·subst e; rw [if_pos rfl,if_pos (by omega),OD]
   ·rw [if_neg e,hq q Vv]
    by_cases hlt:q<i
    ·rw [if_pos hlt,if_pos (by omega)]
    ·rw [if_neg hlt,if_neg (by omega)]
  ·have e:i=P.length:=by omega
   subst e
   refine⟨(P.length:Int),?_⟩
   rw [if_neg (by simp only [decide_eq_true_eq]; omega)]
   have:Q=P.map (pm c):=GQ (by simpa using hl) fun k hk=>by rw [hq k (by omega),if_pos (by omega),GP (by omega)]
   rw [this]
theorem GS {m:Nat}(hm:2 ^ 30≤m){P:List ae}{T pl:List Int}(ok:kP P)(hT:∀t∈T,0≤t∧t<P.length)(Vw:T.length≤8000)(z7:P.length≤pl.length):∀(f i:Nat),T.length - i<f→i≤T.length→
  ∃x,ai.l6 m P T pl f (i:Int) ((T.take i).map fun t=>pm pl (nd P t)) 0=some (x,T.map fun t=>pm pl (nd P t),0)
 | 0,i,hf,_=>absurd hf (by omega)
 | f+1,i,hf,hi=>by
  have lR:(2:Nat) ^ 30=1073741824:=by decide
  unfold ai.l6
  by_cases h:i<T.length
  ·obtain⟨s0,s1⟩:=hT _ (aM h)
   obtain⟨n1,n2⟩:=ok.2 _ (fw s0 s1)
   obtain⟨x,q1⟩:=Cy (m:=m) (pl:=pl) (n:=nd P (gt T i)) n1 (fun a ha=>by have:=n2 a ha; omega) m 0 (by omega) (by omega)
   have q1:ai.l7 m pl (nd P (gt T i)) m [] 0=_:=q1
   have Vx:T.take (i+1)=T.take i++[gt T i]:=by rw [XR,bw h]; rfl
   have lP:app 56 ((T.take i).map fun t=>pm pl (nd P t)) [ae.mk (nd P (gt T i)).kind (nd P (gt T i)).int (nd P (gt T i)).label ((nd P (gt T i)).args.map fun a=>gt pl a.toNat)]=some ((T.take (i+1)).map fun t=>pm pl (nd P t)):=by
    unfold app; rw [if_pos (by simp; omega),Vx,Xi]; rfl
   obtain⟨x,ih⟩:=GS hm ok hT Vw z7 f (i+1) (by omega) (by omega)
   rw [if_pos (by simp only [decide_eq_true_eq]; omega),cC h,WL,hU s0 s1,WL,q1,WL]
   dsimp only
   rw [lP,WL,aD (by omega) (by omega),show (i:Int)+1=((i+1:Nat):Int) by omega]
   exact⟨x,ih⟩
  ·have e:i=T.length:=by omega
   subst e
   exact⟨_,by rw [if_neg (by simp),XU]⟩
end Go.Proofs.YtmekcfdllhphlaaDoor
namespace Go.Proofs.YtmekcfdllhphlaaDoor
open Go Go.R
open Go.IntKind (i64 u64 u8 u32)
inductive Way (l:List ae):Nat→Nat→Prop
 | one {i k:Nat}:k<na l i→Way l i (ar l i k)
 | more {i j k:Nat}:Way l i j→k<na l j→Way l i (ar l j k)
theorem IA {l:List ae}{c od:List Int}(ok:kP l)(M:Lb l c od){i j:Nat}(w:Way l i j)(hi:i<l.length):j<l.length∧∀x:Nat,x<l.length→(x:Int)∈od→gt c x=gt c i→∃y:Nat,y<l.length∧gt c y=gt c j∧(y:Int)∈od∧od.idxOf (y:Int)<od.idxOf (x:Int):=by
 induction w with
 | @one k hk=>
  refine⟨(kh ok hi hk).1,fun x hx NY e=>?_⟩
  have hA:=M.min.top i x hi hx e.symm
  have TJ:k<na l x:=by have:=hA.len; unfold na at *; omega
  obtain⟨r1,r2⟩:=M.uW x NY k TJ
  exact⟨ar l x k,(kh ok hx TJ).1,(M.min.arg i x hi hx e.symm k hk).symm,r1,r2⟩
 | @more j k w hk ih=>
  obtain⟨hj,ih⟩:=ih
  refine⟨(kh ok hj hk).1,fun x hx NY e=>?_⟩
  obtain⟨y,hy,ey,Rn,hlt⟩:=ih x hx NY e
  have hA:=M.min.top j y hj hy ey.symm
  have TK:k<na l y:=by have:=hA.len; unfold na at *; omega
  obtain⟨r1,r2⟩:=M.uW y Rn k TK
  exact⟨ar l y k,(kh ok hy TK).1,(M.min.arg j y hj hy ey.symm k hk).symm,r1,by omega⟩
theorem Bk {l:List ae}{c od:List Int}(ok:kP l)(M:Lb l c od)(h0:0<l.length)(hw:∀j,0<j→j<l.length→Way l 0 j):gt c 0=0:=by
 obtain⟨r1,r2,r3⟩:=M.pM 0 h0
 by_cases TL:((0:Nat):Int)∈od
 ·by_cases hz:gt c 0=0
  ·exact hz
  ·exfalso
   have w:=hw (gt c 0).toNat (by omega) (by omega)
   have key:∀N x:Nat,od.idxOf (x:Int)<N→x<l.length→(x:Int)∈od→gt c x=gt c 0→False:=by
    intro N
    induction N with
    | zero=>intro x h; omega
    | succ N ih=>
     intro x hN hx NY e
     obtain⟨y,hy,ey,Rn,hlt⟩:=(IA ok M w h0).2 x hx NY e
     exact ih y (by omega) hy Rn (by rw [ey,r3])
   exact key _ 0 (Xy _) h0 TL rfl
 ·have:=M.Vu 0 h0 TL
  omega
theorem lock {l P5:List ae}{κ1:Int→Int}{K2:Int→Int}{Can:Int→Prop}(Ro:∀v w,Can v→Can w→K2 v=K2 w→v=w)
  (hargs:∀a v:Int,0≤a→a<l.length→Can v→κ1 a=K2 v→(nd l a).args.map κ1=(nd P5 v).args.map K2) (Rp:∀v,Can v→∀a∈(nd P5 v).args,Can a) (ok:kP l) {Iv o2 Hk:List Int}
  (h:uj id (fun v=>(nd P5 v).args) Iv o2 Hk):∀uG o1:List Int,uG.map κ1=Iv.map K2→o1.map κ1=o2.map K2→(∀b∈Iv,Can b)→(∀b∈o2,Can b)→(∀a∈uG,0≤a∧a<l.length)→
  ∃LL,uj κ1 (fun v=>(nd l v).args) uG o1 LL∧LL.map κ1=Hk.map K2:=by
 induction h with
 | nil o=>
  intro uG o1 hs ho _ _ _
  have:uG=[]:=by simpa using hs
  subst this
  exact⟨o1,.nil o1,ho⟩
 | @skip v st o o' hm _ ih=>
  intro uG o1 hs ho c1 c2 hr
  cases uG with
  | nil=>simp at hs
  | cons a uG=>
   simp only [Xc,List.cons.injEq] at hs
   obtain⟨LL,k1,k2⟩:=ih uG o1 hs.2 ho (fun b hb=>c1 b (by simp [hb])) c2 (fun x hx=>hr x (by simp [hx]))
   refine⟨LL,.skip ?_ k1,k2⟩
   rw [hs.1,ho]
   exact Xg.2 ⟨v,by simpa using hm,rfl⟩
 | @push v st o o' hn _ ih=>
  intro uG o1 hs ho c1 c2 hr
  cases uG with
  | nil=>simp at hs
  | cons a uG=>
   simp only [Xc,List.cons.injEq] at hs
   have hv:=c1 v (by simp)
   have ha:=hr a (by simp)
   have e:=hargs a v ha.1 ha.2 hv hs.1
   obtain⟨LL,k1,k2⟩:=ih ((nd l a).args++uG) (o1++[a]) (by rw [Xi,Xi,e,hs.2]) (by rw [Xi,Xi,ho]; simp [hs.1]) (fun b hb=>by
    rcases W5.1 hb with hb | hb
    ·exact Rp v hv b hb
    ·exact c1 b (by simp [hb])) (fun b hb=>by
    rcases W5.1 hb with hb | hb
    ·exact c2 b hb
    ·rw [WY] at hb; subst hb; exact hv) (fun x hx=>by
    rcases W5.1 hx with hx | hx
    ·exact (ok.2 _ (fw ha.1 ha.2)).2 x hx
    ·exact hr x (by simp [hx]))
   refine⟨LL,.push ?_ k1,k2⟩
   rw [hs.1,ho]
   intro hm
   obtain⟨w,w1,w2⟩:=Xg.1 hm
   have:=Ro v w hv (c2 w w1) w2.symm
   subst this
   exact hn (by simpa using w1)
theorem GU {m:Nat}(hm:2 ^ 41≤m){t:an}(h:dQ t=true):∃s,cm.f m t=some s∧ai.f m t.nodes t.root=some s:=by
 have lR:(2:Nat) ^ 30=1073741824:=by decide
 have rl:(2:Nat) ^ 41=2199023255552:=by decide
 have DR:2 ^ 30≤m:=by omega
 obtain⟨ok,h1,r0,r1,hT⟩:=jb h
 obtain⟨r,ns,e1,M,Q,_⟩:=lu hm h
 have h8:=ok.1
 generalize hl:t.nodes=l at *
 have Rq:uj (ef r) (fun v=>(nd l v).args) [t.root] [] (rp r l m t.root []):=pz ok m t.root [] [] _ r0 r1 ⟨by simp,fun x hx=>by cases hx⟩ (by simp; omega) (.nil _)
 obtain⟨S,s1,s2⟩:=pB DR ok r0 r1
 have hA:∀v:Int,0≤v→v<l.length→∀a∈(nd l v).args,0≤a∧a<l.length:=fun v a b=>(ok.2 _ (fw a b)).2
 obtain⟨_,Sr,Sn,_,Sc⟩:=s2.facts hA (fun v hv=>by rw [WY] at hv; subst hv; exact⟨r0,r1⟩) (fun v hv=>by cases hv) (by simp)
 rw [List.map_id] at Sn
 have Sc:∀v∈S,∀a∈(nd l v).args,a∈S:=fun v hv a ha=>by have:=Sc (fun v hv=>by cases hv) v hv a ha; simpa using this
 have S0:∃T,S=t.root::T:=by
  cases s2 with
  | skip uF _=>simp at uF
  | push _ k=>
   obtain⟨⟨T,e⟩,_⟩:=k.facts hA (fun v hv=>by
    rcases W5.1 hv with hv | hv
    ·exact hA _ r0 r1 v hv
    ·cases hv) (fun v hv=>by simp at hv; subst hv; exact⟨r0,r1⟩) (by simp)
   exact⟨T,by simpa using e⟩
 have Sl:S.length≤l.length:=pA Sn Sr
 have Sp:0<S.length:=by obtain⟨T,rfl⟩:=S0; simp
 have Jm:gt S 0=t.root:=by obtain⟨T,rfl⟩:=S0; rfl
 have NZ:=s2.from (root:=t.root) (fun v hv=>by rw [WY] at hv; exact .inl hv) (fun i hi=>absurd hi (by simp))
 have e0:uL 8 (l.length:Int) (0:Int)=some (W8 l.length 0):=by unfold uL; rw [if_pos ⟨by omega,by rw [WT]; omega⟩,WT]
 obtain⟨pl,x1,p1,p2,p3⟩:=zy (m:=m) Sn (by omega) m 0 (W8 l.length 0) (by omega) (by omega) (by simpa using Sr) (fun q hq=>absurd hq (by omega))
 rw [List.length_replicate] at p2
 have p1:ai.l0 m S m (W8 l.length 0) 0=_:=p1
 obtain⟨x2,p4⟩:=Cz DR ok Sr (by omega) p2 m 0 (by omega) (by omega)
 have p4:ai.l1 m l S pl m [] 0=_:=p4
 generalize Rr:(S.map fun s=>pm pl (nd l s))=P1 at p4
 have OE:P1.length=S.length:=by rw [←Rr]; simp
 have Jn:∀i:Nat,i<S.length→nd P1 i=pm pl (nd l (gt S i)):=fun i hi=>by rw [←Rr,Iz hi]
 have OF:∀{x:Int},x∈S→gt S (gt pl x.toNat).toNat=x∧0≤gt pl x.toNat∧gt pl x.toNat<S.length:=fun hx=>by
  obtain⟨q,hq,e⟩:=eR hx
  have:=p3 q hq
  rw [e] at this
  rw [this,WT]; exact⟨e,by omega,by omega⟩
 have Rs:∀i:Nat,i<S.length→∀a∈(nd l (gt S i)).args,a∈S:=fun i hi=>Sc _ (aM hi)
 have D6:kP P1:=by
  refine⟨by omega,fun n hn=>?_⟩
  rw [←Rr] at hn
  obtain⟨s,hs,rfl⟩:=Xg.1 hn
  have hr:=Sr s hs
  refine⟨by simpa [pm] using (ok.2 _ (fw hr.1 hr.2)).1,fun a ha=>?_⟩
  obtain⟨x,hx,rfl⟩:=Xg.1 ha
  have:=OF (Sc s hs x hx)
  rw [OE]; exact this.2
 obtain⟨c,od,c1,C⟩:=zx DR D6
 have cl:c.length=P1.length:=C.min.len
 have Rt:∀i:Nat,i<S.length→na P1 i=na l (gt S i).toNat:=fun i hi=>by
  have:=Sr _ (aM hi)
  unfold na
  rw [Jn i hi]
  show ((nd l (gt S i)).args.map _).length=_
  rw [Xu,show (((gt S i).toNat:Nat):Int)=gt S i by omega]
 have N0:∀i:Nat,i<S.length→∀k,k<na P1 i→gt S (ar P1 i k)=gt (nd l (gt S i)).args k:=fun i hi k hk=>by
  have pW:k<(nd l (gt S i)).args.length:=by
   have:=hk; unfold na at this; rw [Jn i hi] at this; simpa [pm] using this
  have hx:=Rs i hi _ (aM pW)
  have:gt (nd P1 i).args k=gt pl (gt (nd l (gt S i)).args k).toNat:=by
   rw [Jn i hi]
   have h1:=bw (l:=(pm pl (nd l (gt S i))).args) (k:=k) (by simpa [pm] using pW)
   have h2:(pm pl (nd l (gt S i))).args[k]? = some (gt pl (gt (nd l (gt S i)).args k).toNat):=by
    show ((nd l (gt S i)).args.map _)[k]? = _
    rw [Xo,bw pW]; rfl
   rw [h2] at h1; exact (Xj h1).symm
  unfold ar
  rw [this]
  exact (OF hx).1
 have Vy:∀j,0<j→j<P1.length→Way P1 0 j:=by
  have:∀N j,j<N→0<j→j<P1.length→Way P1 0 j:=by
   intro N
   induction N with
   | zero=>intro j h; omega
   | succ N ih=>
    intro j hN hj WH
    rcases NZ j (by omega) with e | ⟨q,hq,uF⟩
    ·have:=tR Sn (by omega) Sp (e.trans Jm.symm)
     omega
    ·obtain⟨k,hk,e⟩:=eR uF
     have En:k<na P1 q:=by unfold na; rw [Jn q (by omega)]; simpa [pm] using hk
     have h2:=N0 q (by omega) k En
     rw [e] at h2
     have h3:=(kh D6 (i:=q) (by omega) En).1
     have e4:ar P1 q k=j:=tR Sn (by omega) (by omega) h2
     rw [←e4]
     by_cases Vz:q=0
     ·subst Vz; exact .one En
     ·exact .more (ih q (by omega) (by omega) (by omega)) En
  exact fun j=>this (j+1) j (Xy _)
 have VA:gt c 0=0:=Bk D6 C (by omega) Vy
 have zA:∀i:Nat,i<S.length→(((gt S i).toNat:Nat):Int)=gt S i∧(gt S i).toNat<l.length:=fun i hi=>by have:=Sr _ (aM hi); omega
 have TM:∀i j:Nat,i<S.length→j<S.length→(Alike (nd P1 i) (nd P1 j)↔Alike (nd l (gt S i)) (nd l (gt S j))):=fun i j hi hj=>by
  rw [Jn i hi,Jn j hj]
  constructor
  ·intro z; exact⟨z.kind,z.int,z.label,by have:=z.len; simpa [pm] using this⟩
  ·intro z; exact⟨z.kind,z.int,z.label,by have:=z.len; simpa [pm] using this⟩
 have cr:∀i j:Nat,i<S.length→j<S.length→(gt c i=gt c j↔gt r (gt S i).toNat=gt r (gt S j).toNat):=fun i j hi hj=>by
  constructor
  ·intro e
   refine M.max (fun a b=>∃i j:Nat,i<S.length∧j<S.length∧a=(gt S i).toNat∧b=(gt S j).toNat∧gt c i=gt c j) ⟨?_,?_,?_⟩ _ _ ⟨i,j,hi,hj,rfl,rfl,e⟩
   ·rintro a b ⟨i,j,hi,hj,rfl,rfl,_⟩
    exact⟨(zA i hi).2,(zA j hj).2⟩
   ·rintro a b ⟨i,j,hi,hj,rfl,rfl,e⟩
    rw [(zA i hi).1,(zA j hj).1]
    exact (TM i j hi hj).1 (C.min.top i j (by omega) (by omega) e)
   ·rintro a b ⟨i,j,hi,hj,rfl,rfl,e⟩ k hk
    rw [(zA i hi).1] at hk ⊢
    rw [(zA j hj).1]
    have r9:k<na P1 i:=by rw [Rt i hi]; unfold na; rw [(zA i hi).1]; exact hk
    have Lz:k<na P1 j:=by have:=(C.min.top i j (by omega) (by omega) e).len; unfold na at *; omega
    have a1:=(kh D6 (i:=i) (by omega) r9).1
    have a2:=(kh D6 (i:=j) (by omega) Lz).1
    refine⟨ar P1 i k,ar P1 j k,by omega,by omega,?_,?_,C.min.arg i j (by omega) (by omega) e k r9⟩
    ·rw [N0 i hi k r9]
    ·rw [N0 j hj k Lz]
  ·intro e
   refine C.min.max (fun a b=>a<S.length∧b<S.length∧gt r (gt S a).toNat=gt r (gt S b).toNat) ⟨?_,?_,?_⟩ i j ⟨hi,hj,e⟩
   ·rintro a b ⟨h1,h2,_⟩; omega
   ·rintro a b ⟨h1,h2,e⟩
    refine (TM a b h1 h2).2 ?_
    have:=M.top _ _ (zA a h1).2 (zA b h2).2 e
    rwa [(zA a h1).1,(zA b h2).1] at this
   ·rintro a b ⟨h1,h2,e⟩ k hk
    have hA:=M.top _ _ (zA a h1).2 (zA b h2).2 e
    have HS:k<na P1 a:=hk
    have Hr:k<(nd l (((gt S a).toNat:Nat):Int)).args.length:=by have:=Rt a h1; unfold na at this HS; omega
    have hkb:k<na P1 b:=by rw [Rt b h2]; have:=hA.len; unfold na; omega
    have g:=M.arg _ _ (zA a h1).2 (zA b h2).2 e k Hr
    rw [(zA a h1).1,(zA b h2).1] at g
    have a1:=(kh D6 (i:=a) (by omega) HS).1
    have a2:=(kh D6 (i:=b) (by omega) hkb).1
    refine⟨by show ar P1 a k<_; omega,by show ar P1 b k<_; omega,?_⟩
    show gt r (gt S (ar P1 a k)).toNat=gt r (gt S (ar P1 b k)).toNat
    rw [N0 a h1 k HS,N0 b h2 k hkb]; exact g
 obtain⟨x3,p5⟩:=CB DR D6 cl m 0 P1 (by omega) (by omega) rfl (fun q hq=>by rw [if_neg (by omega)])
 have p5:ai.l3 m c m P1 0=_:=p5
 have TN:∀i:Nat,i<S.length→nd (P1.map (pm c)) i=pm c (nd P1 i):=fun i hi=>GP (by omega)
 have Le:∀i:Nat,i<S.length→0≤gt c i∧gt c i<S.length∧gt c (gt c i).toNat=gt c i:=fun i hi=>by have:=C.pM i (by omega); rw [OE] at this; exact this
 have Ru:kP (P1.map (pm c)):=by
  refine⟨by simp; omega,fun n hn=>?_⟩
  obtain⟨n1,JI,rfl⟩:=Xg.1 hn
  obtain⟨q1,q2⟩:=D6.2 n1 JI
  refine⟨by simpa [pm] using q1,fun a ha=>?_⟩
  obtain⟨x,hx,rfl⟩:=Xg.1 ha
  have:=q2 x hx
  have:=Le x.toNat (by omega)
  rw [Xu,OE]; omega
 obtain⟨T,t1,t2⟩:=pB DR Ru (root:=0) (by omega) (by simp; omega)
 generalize VB:P1.map (pm c)=P5 at *
 have WI:P5.length=S.length:=by rw [←VB]; simp [OE]
 have VC:∀v:Int,0≤v→v<P5.length→∀a∈(nd P5 v).args,0≤a∧a<P5.length:=fun v a b=>(Ru.2 _ (fw a b)).2
 obtain⟨_,Tr,Tn,_,Tc⟩:=t2.facts VC (fun v hv=>by rw [WY] at hv; subst hv; omega) (fun v hv=>by cases hv) (by simp)
 rw [List.map_id] at Tn
 have Tc:∀v∈T,∀a∈(nd P5 v).args,a∈T:=fun v hv a ha=>by have:=Tc (fun v hv=>by cases hv) v hv a ha; simpa using this
 have Tl:T.length≤P5.length:=pA Tn Tr
 obtain⟨Rv,x4,p6,p7,p8⟩:=zz (m:=m) Tn (by omega) m 0 pl (by omega) (by omega) (fun s hs=>by have:=Tr s hs; omega) (fun q hq=>absurd hq (by omega))
 have p6:ai.l5 m T m pl 0=_:=p6
 obtain⟨x5,p9⟩:=GS (m:=m) DR Ru Tr (by omega) (pl:=Rv) (by omega) m 0 (by omega) (by omega)
 have p9:ai.l6 m P5 T Rv m 0 [] 0=_:=p9
 let K2:Int→Int:=fun b=>ef r (gt S b.toNat)
 let Can:Int→Prop:=fun b=>0≤b∧b<S.length∧gt c b.toNat=b
 have TO:∀x:Int,x∈S→K2 (gt c (gt pl x.toNat).toNat)=ef r x:=fun x hx=>by
  obtain⟨i1,i2,i3⟩:=OF hx
  obtain⟨g1,g2,g3⟩:=Le (gt pl x.toNat).toNat (by omega)
  show ef r (gt S (gt c (gt pl x.toNat).toNat).toNat)=_
  have:=(cr (gt c (gt pl x.toNat).toNat).toNat (gt pl x.toNat).toNat (by omega) (by omega)).1 g3
  unfold ef
  rw [this,i1]
 have CC:∀v:Int,0≤v→v<S.length→(nd P5 v).args=(nd l (gt S v.toNat)).args.map fun x=>gt c (gt pl x.toNat).toNat:=fun v v0 v1=>by
  have:=TN v.toNat (by omega)
  rw [show ((v.toNat:Nat):Int)=v by omega] at this
  rw [this]
  have h2:=Jn v.toNat (by omega)
  rw [show ((v.toNat:Nat):Int)=v by omega] at h2
  rw [h2]
  show ((nd l (gt S v.toNat)).args.map _).map _=_
  rw [List.map_map]; rfl
 have same:∀a b:Int,0≤a→a<l.length→0≤b→b<l.length→ef r a=ef r b→Alike (nd l a) (nd l b)∧(nd l a).args.map (ef r)=(nd l b).args.map (ef r):=fun a b a0 a1 b0 b1 e=>by
  have ea:((a.toNat:Nat):Int)=a:=by omega
  have eb:((b.toNat:Nat):Int)=b:=by omega
  have e:gt r a.toNat=gt r b.toNat:=e
  have hA:=M.top a.toNat b.toNat (by omega) (by omega) e
  have hg:=M.arg a.toNat b.toNat (by omega) (by omega) e
  rw [ea,eb] at hA hg
  refine⟨hA,XE fun k=>?_⟩
  simp only [Xo]
  by_cases hk:k<(nd l a).args.length
  ·rw [bw hk,bw (by have:=hA.len; omega)]
   simp only [WS,WO]
   exact hg k hk
  ·rw [W6 (by omega),W6 (by have:=hA.len; omega)]
 obtain⟨o1,q1,q2⟩:=lock (l:=l) (P5:=P5) (κ1:=ef r) (K2:=K2) (Can:=Can) (fun v w hv hw e=>by
   have:=(cr v.toNat w.toNat (by have:=hv.1; have:=hv.2.1; omega) (by have:=hw.1; have:=hw.2.1; omega)).2 e
   rw [hv.2.2,hw.2.2] at this; exact this) (fun a v a0 a1 hv e=>by
   have hS:=aM (l:=S) (k:=v.toNat) (by have:=hv.1; have:=hv.2.1; omega)
   have hr:=Sr _ hS
   rw [(same a _ a0 a1 hr.1 hr.2 e).2,CC v hv.1 hv.2.1,List.map_map]
   refine XS fun x hx=>?_
   exact (TO x (Sc _ hS x hx)).symm) (fun v hv a ha=>by
   rw [CC v hv.1 hv.2.1] at ha
   obtain⟨x,hx,rfl⟩:=Xg.1 ha
   have hS:=aM (l:=S) (k:=v.toNat) (by have:=hv.1; have:=hv.2.1; omega)
   have:=OF (Sc _ hS x hx)
   exact Le (gt pl x.toNat).toNat (by omega)) ok t2 [t.root] [] (by
   show [ef r t.root]=[ef r (gt S 0)]; rw [Jm]) rfl (fun b hb=>by
   rw [WY] at hb; subst hb
   exact⟨by omega,by omega,VA⟩) (fun b hb=>by cases hb) (fun a ha=>by rw [WY] at ha; subst ha; exact⟨r0,r1⟩)
 have eo:=q1.Tu Rq
 rw [eo] at q2
 generalize hO:rp r l m t.root []=O at *
 have OT:O.length=T.length:=by have:=congrArg List.length q2; simpa using this
 have OK:∀k,k<T.length→ef r (gt O k)=K2 (gt T k):=fun k hk=>by
  have:=congrArg (fun z=>z[k]?) q2
  simp only [Xo] at this
  rw [bw (by omega),bw hk] at this
  simpa using this
 have VD:ns=T.map fun v=>pm Rv (nd P5 v):=by
  have hlen:=Q.len
  apply XE fun k=>?_
  by_cases hk:k<T.length
  ·rw [Q.new k (by simp) (by omega),Xo,bw hk]
   simp only [WS,WO]
   have hOr:=Q.vs.nu _ (aM (l:=O) (k:=k) (by omega))
   have TP:=Tr _ (aM hk)
   have hS:=aM (l:=S) (k:=(gt T k).toNat) (by omega)
   have TQ:=Sr _ hS
   obtain⟨hA,hM⟩:=same _ _ hOr.1 hOr.2 TQ.1 TQ.2 (OK k hk)
   have Lg:(nd P5 (gt T k)).kind=(nd l (gt S (gt T k).toNat)).kind∧(nd P5 (gt T k)).int=(nd l (gt S (gt T k).toNat)).int∧(nd P5 (gt T k)).label=(nd l (gt S (gt T k).toNat)).label:=by
    have:=TN (gt T k).toNat (by omega)
    rw [show (((gt T k).toNat:Nat):Int)=gt T k by omega] at this
    rw [this]
    have h2:=Jn (gt T k).toNat (by omega)
    rw [show (((gt T k).toNat:Nat):Int)=gt T k by omega] at h2
    rw [h2]
    exact⟨rfl,rfl,rfl⟩
   unfold uT pm
   rw [hA.kind,hA.int,hA.label,Lg.1,Lg.2.1,Lg.2.2]
   congr 1
   rw [CC _ TP.1 (by omega),List.map_map]
   apply XE fun j=>?_
   simp only [Xo]
   by_cases hj:j<(nd l (gt O k)).args.length
   ·have Ey:j<(nd l (gt S (gt T k).toNat)).args.length:=by have:=hA.len; omega
    rw [bw hj,bw Ey]
    simp only [WS,WO,Function.comp]
    have ex:ef r (gt (nd l (gt O k)).args j)=ef r (gt (nd l (gt S (gt T k).toNat)).args j):=by
     have:=congrArg (fun z=>z[j]?) hM
     simp only [Xo] at this
     rw [bw hj,bw Ey] at this
     simpa using this
    have hin:gt c (gt pl (gt (nd l (gt S (gt T k).toNat)).args j).toNat).toNat∈T:=by
     refine Tc _ (aM hk) _ ?_
     rw [CC _ TP.1 (by omega)]
     exact Xg.2 ⟨_,aM Ey,rfl⟩
    obtain⟨q,hq,eq⟩:=eR hin
    have TR:=p8 q hq
    rw [eq] at TR
    rw [TR]
    unfold idx
    have AN:=Q.vs.Hi
    have hget:(O.map (ef r))[q]? = some (ef r (gt (nd l (gt O k)).args j)):=by
     rw [Xo,bw (by omega)]
     simp only [WS,WO]
     rw [OK q hq,eq,TO _ (Sc _ hS _ (aM Ey)),ex]
    obtain⟨g1,g2⟩:=WU.1 hget
    rw [←g2,AN.idxOf_getElem]
   ·rw [W6 (by omega),W6 (by have:=hA.len; omega)]
    rfl
  ·rw [W6 (by omega),W6 (by simp; omega)]
 refine⟨⟨ns,0⟩,e1,?_⟩
 unfold ai.f
 rw [s1,WL,e0,WL,p1,WL]
 dsimp only
 rw [p4,WL]
 dsimp only
 rw [c1,WL,p5,WL]
 dsimp only
 rw [t1,WL,p6,WL]
 dsimp only
 rw [p9,WL,VD]
end Go.Proofs.YtmekcfdllhphlaaDoor
namespace Go.Proofs.YtmekcfdllhphlaaDoor
open Go Go.R
open Go.IntKind (i64 u64 u8 u32)
theorem uo {m:Nat}(hm:2 ^ 41≤m){t:an}(h0:Gl t):∃s e,dS.f m t=some (s,e)∧fb.f m t=some (s,e)∧(e=0→nw s)∧(e=0↔dQ t=true)∧(e≠0→e=2∧s=⟨[],0⟩):=by
 have lR:(2:Nat) ^ 30=1073741824:=by decide
 have rl:(2:Nat) ^ 41=2199023255552:=by decide
 unfold dS.f fb.f
 rw [lq (by omega),zt (by omega),WL,WL]
 cases h:dQ t with
 | false=>exact⟨_,_,rfl,rfl,fun h=>absurd h (by decide),by simp,fun _=>⟨rfl,rfl⟩⟩
 | true=>
  obtain⟨s,k1,k2⟩:=GU hm h
  obtain⟨s',k3,L⟩:=vN hm h h0
  rw [k1] at k3
  cases k3
  rw [if_neg (by simp),if_neg (by simp),k1,k2]
  exact⟨_,_,rfl,rfl,fun _=>L,by simp,fun h=>absurd rfl h⟩
end Go.Proofs.YtmekcfdllhphlaaDoor
namespace Go.Proofs.YtmekcfdllhphlaaDoor
open Go Go.R
open Go.IntKind (i64 u64 u8 u32)
def lf (m:Nat)(t:an):an:=(cm.f m t).getD ⟨[],0⟩
structure Lf (m:Nat)(t:an):Prop where
 eq:cm.f m t=some (lf m t)
 top:dS.f m t=some (lf m t,0)
 ref:fb.f m t=some (lf m t,0)
 lt:nw (lf m t)
 val:dQ (lf m t)=true
 len:(lf m t).nodes.length≤t.nodes.length
 TS:Gl (lf m t)
 idem:lf m (lf m t)=lf m t
theorem sn {m:Nat}(hm:2 ^ 41≤m){t:an}(h:dQ t=true)(h0:Gl t):Lf m t:=by
 obtain⟨s,e1,v,l,e2⟩:=Bc hm h
 obtain⟨s',e',k1,k2,k3,k4,_⟩:=uo hm h0
 have hs:lf m t=s:=by unfold lf; rw [e1]; rfl
 have:=k4.2 h
 subst this
 obtain⟨s2,k5,L⟩:=vN hm h h0
 rw [e1] at k5
 cases k5
 have hv:dS.f m t=some (s,0):=by
  have rl:(2:Nat) ^ 41=2199023255552:=by decide
  have lR:(2:Nat) ^ 30=1073741824:=by decide
  unfold dS.f
  rw [lq (by omega),WL,h,if_neg (by simp),e1]; rfl
 rw [hv] at k1
 cases k1
 have hi:lf m s=s:=by unfold lf; rw [e2]; rfl
 exact⟨by rw [hs]; exact e1,by rw [hs]; exact hv,by rw [hs]; exact k2,by rw [hs]; exact L,by rw [hs]; exact v,by rw [hs]; exact l,by rw [hs]; exact fun n hn=>(L.nodes n hn).2.1,by rw [hs]; exact hi⟩
structure Bl (m:Nat)(l:List an):Prop where
 rq:l.length≤8
 val:∀t∈l,dQ t=true∧Gl t
 Rw:∀t∈l,(lf m t).nodes.any (fun n=>n.kind==4)=false
 sum:(l.map fun t=>t.nodes.length).sum≤300
theorem Bl.lf {m:Nat}(hm:2 ^ 41≤m){l:List an}(I:Bl m l){t:an}(ht:t∈l):Lf m t:=sn hm (I.val t ht).1 (I.val t ht).2
theorem GV {m:Nat}:∀{l:List an},(∀t∈l,Lf m t)→((l.map (lf m)).map fun t=>t.nodes.length).sum≤(l.map fun t=>t.nodes.length).sum
 | [],_=>by simp
 | a::l,h=>by
  have h1:=(h a (by simp)).len
  have:=GV (l:=l) fun t ht=>h t (by simp [ht])
  simp only [Xc,List.sum_cons]
  omega
theorem Bl.least {m:Nat}(hm:2 ^ 41≤m){l:List an}(I:Bl m l):Bl m (l.map (Go.Proofs.YtmekcfdllhphlaaDoor.lf m)):=by
 refine⟨by simpa using I.rq,fun t ht=>?_,fun t ht=>?_,Xz (GV fun t ht=>I.lf hm ht) I.sum⟩
 ·obtain⟨u,hu,rfl⟩:=Xg.1 ht
  exact⟨(I.lf hm hu).val,(I.lf hm hu).TS⟩
 ·obtain⟨u,hu,rfl⟩:=Xg.1 ht
  rw [(I.lf hm hu).idem]
  exact I.Rw u hu
theorem Bl.idem {m:Nat}(hm:2 ^ 41≤m){l:List an}(I:Bl m l):(l.map (Go.Proofs.YtmekcfdllhphlaaDoor.lf m)).map (Go.Proofs.YtmekcfdllhphlaaDoor.lf m)=l.map (Go.Proofs.YtmekcfdllhphlaaDoor.lf m):=by
 rw [List.map_map]
 exact XS fun t ht=>(I.lf hm ht).idem
def pk (m:Nat)(l:List an):List Int:=cH (l.map (lf m))++(cF.f m (cH (l.map (lf m)))).getD []
theorem pF:∀{l:List an},(∀t∈l,nw t∧tZ t)→(cG l).length≤10*l.length+200*(l.map fun t=>t.nodes.length).sum
 | [],_=>by simp [cG]
 | a::l,h=>by
  have h1:=h a (by simp)
  have:=pF (l:=l) fun b hb=>h b (by simp [hb])
  have Qw:(2:Nat) ^ 64=18446744073709551616:=by decide
  have hf:=h1.1.rq
  have h3:=dR (n:=a.nodes.length) (by omega)
  have hn:∀l:List ae,(∀n∈l,tX n∧AY n)→(dV l).length≤200*l.length:=by
   intro l
   induction l with
   | nil=>intro _; simp [dV]
   | cons a l ih=>
    intro h
    have h1:=h a (by simp)
    have:=ih fun b hb=>h b (by simp [hb])
    have h2:=zg h1.1 h1.2
    rw [je,WX,W9]; omega
  have h2:=hn a.nodes fun n hn=>⟨h1.2.nodes n hn,(h1.1.nodes n hn).1⟩
  rw [jf,WX,jG,WX,W9,Xc,List.sum_cons]; omega
structure Pk (m:Nat)(l:List an)(c:List Int):Prop where
 TT:cF.f m (cH (l.map (lf m)))=some c
 eq:pk m l=cH (l.map (lf m))++c
 WJ:Bytes c
 len:c.length=4
 w:∀t∈l.map (lf m),nw t∧tZ t
 size:(cG (l.map (lf m))).length≤60080
 Jo:(cH (l.map (lf m))).length≤60100∧3≤(cH (l.map (lf m))).length
theorem Bl.pk {m:Nat}(hm:2 ^ 41≤m){l:List an}(I:Bl m l):∃c,Pk m l c:=by
 have rl:(2:Nat) ^ 41=2199023255552:=by decide
 have nR:(2:Nat) ^ 40=1099511627776:=by decide
 have Qw:(2:Nat) ^ 64=18446744073709551616:=by decide
 have hW:∀t∈l.map (Go.Proofs.YtmekcfdllhphlaaDoor.lf m),nw t∧tZ t:=fun t ht=>by
  obtain⟨u,hu,rfl⟩:=Xg.1 ht
  have L:=(I.lf hm hu).lt
  exact⟨L,L.w (I.Rw u hu)⟩
 have h1:=pF hW
 have h2:=(I.least hm).sum
 have h3:=I.rq
 have h4:(l.map (Go.Proofs.YtmekcfdllhphlaaDoor.lf m)).length=l.length:=Xu _
 have WK:=dR (n:=(l.map (Go.Proofs.YtmekcfdllhphlaaDoor.lf m)).length) (by omega)
 have hne:0<(dM (l.map (Go.Proofs.YtmekcfdllhphlaaDoor.lf m)).length).length:=List.length_pos_iff.2 (Ig _)
 have IK:(cH (l.map (Go.Proofs.YtmekcfdllhphlaaDoor.lf m))).length≤60100∧3≤(cH (l.map (Go.Proofs.YtmekcfdllhphlaaDoor.lf m))).length:=by
  unfold cH
  simp only [WX,W9,XI]; omega
 obtain⟨c,hc⟩:=DG (m:=m) (by omega) (b:=cH (l.map (Go.Proofs.YtmekcfdllhphlaaDoor.lf m))) (by omega) (by omega)
 exact⟨c,hc,by unfold Go.Proofs.YtmekcfdllhphlaaDoor.pk; rw [hc]; rfl,(ub hc).1,(ub hc).2,hW,by omega,IK⟩
theorem uq {m:Nat}(hm:2 ^ 41≤m){L:List an}(I:Bl m L):∀(f i:Nat) (acc:List an),L.length - i<f→i≤L.length→acc.length≤i→
  ∃x,ca.l0 m L f acc (i:Int)=some (.inr (acc++(L.drop i).map (lf m),x))
 | 0,i,acc,hf,_,_=>absurd hf (by omega)
 | f+1,i,acc,hf,hi,ha=>by
  have h8:=I.rq
  unfold ca.l0
  by_cases h:i<L.length
  ·have hx:ix L (i:Int)=some L[i]:=by unfold ix; rw [if_pos (by omega)]; simp [h]
   have F:=I.lf hm (XJ h)
   have lP:app 32 acc [lf m L[i]]=some (acc++[lf m L[i]]):=by unfold app; rw [if_pos (by simp; omega)]
   obtain⟨x,ih⟩:=uq hm I f (i+1) (acc++[lf m L[i]]) (by omega) (by omega) (by simp; omega)
   refine⟨x,?_⟩
   rw [if_pos (by simp only [decide_eq_true_eq]; omega),hx,WL,F.top,WL]
   dsimp only
   rw [if_neg (by simp),lP,WL,aD (by omega) (by omega),show (i:Int)+1=((i+1:Nat):Int) by omega,ih,WZ h,Xc,W3]; rfl
  ·refine⟨(i:Int),?_⟩
   rw [if_neg (by simp only [decide_eq_true_eq]; omega),Xk (by omega),List.map_nil,XT]
theorem xI {m:Nat}(hm:2 ^ 41≤m){L:List an}(I:Bl m L):ca.f m L=some (pk m L,0):=by
 have lR:(2:Nat) ^ 30=1073741824:=by decide
 have rl:(2:Nat) ^ 41=2199023255552:=by decide
 have nR:(2:Nat) ^ 40=1099511627776:=by decide
 have M0:(2:Nat) ^ 42=4398046511104:=by decide
 have h8:=I.rq
 obtain⟨c,P⟩:=I.pk hm
 obtain⟨x,k1⟩:=uq hm I m 0 [] (by omega) (by omega) (by simp)
 have k1:ca.l0 m L m [] 0=_:=k1
 rw [Xm,Xl] at k1
 have h4:(L.map (lf m)).length=L.length:=Xu _
 have s1:=P.size
 have s2:=P.Jo
 have s3:=P.len
 have lP:app 1 (cH (L.map (lf m))) c=some (cH (L.map (lf m))++c):=by unfold app; rw [if_pos (by omega)]
 have sI:((L.map (lf m)).any fun t=>t.nodes.any fun n=>n.kind==4)=false:=by
  rw [List.any_eq_false]
  intro t ht
  obtain⟨u,hu,rfl⟩:=Xg.1 ht
  rw [I.Rw u hu]; simp
 unfold ca.f
 rw [if_neg (by simp only [decide_eq_true_eq]; omega),k1,WL]
 dsimp only
 rw [Dw (g:=fun t=>t.nodes.any fun n=>n.kind==4) (by omega) (by omega) (fun t ht=>DF (by have:=(P.w t ht).1.rq; omega) (by have:=(P.w t ht).1.rq; omega)),WL,sI,if_neg (by simp),
  NB (by omega) (fun t ht=>(P.w t ht).2) (by omega) (by omega),P.TT,WL,lP,WL,if_neg (by simp only [decide_eq_true_eq,WX]; omega),P.eq]
theorem IB {m:Nat}(x y:List Int):eX.f m x y=some ((dh x).data.toList==(dh y).data.toList):=rfl
theorem pG {m:Nat}(x:List Int):eX.f m x x=some true:=by rw [IB]; simp
theorem Pk.idem {m:Nat}(hm:2 ^ 41≤m){l:List an}(I:Bl m l):Go.Proofs.YtmekcfdllhphlaaDoor.pk m (l.map (lf m))=Go.Proofs.YtmekcfdllhphlaaDoor.pk m l:=by
 unfold Go.Proofs.YtmekcfdllhphlaaDoor.pk
 rw [I.idem hm]
theorem IC {m:Nat}(hm:2 ^ 41≤m){L:List an}(I:Bl m L):bm.f m (pk m L)=some (L.map (lf m),0):=by
 have lR:(2:Nat) ^ 30=1073741824:=by decide
 have rl:(2:Nat) ^ 41=2199023255552:=by decide
 have Hj:(2:Nat) ^ 63=9223372036854775808:=by decide
 obtain⟨c,P⟩:=I.pk hm
 have s1:=P.size
 have s2:=P.Jo
 have s3:=P.len
 have h8:=I.rq
 have h4:(L.map (lf m)).length=L.length:=Xu _
 have hp:=xI hm (I.least hm)
 rw [Pk.idem hm I] at hp
 obtain⟨x,hx⟩:=Gk (m:=m) (by omega) (((L.map (lf m)).length:Int),(⟨cG (L.map (lf m)),false⟩:fC)) [] (by simp; omega) (L.map (lf m)) m 0 [] (by omega) (by simp) rfl fun t ht=>(P.w t ht).2
 rw [XT] at hx
 have hx:bm.l0 m (((L.map (lf m)).length:Int),(⟨cG (L.map (lf m)),false⟩:fC)) m [] 0 ⟨cG (L.map (lf m)),false⟩=_:=hx
 have hB:=P.eq
 generalize pk m L=B at *
 have VE:B.length=(cH (L.map (lf m))).length+4:=by rw [hB,WX,s3]
 have e4:i64.wrap ((B.length:Int) - 4)=((cH (L.map (lf m))).length:Int):=by rw [aD (by omega) (by omega)]; omega
 have c1:pL B 0 ((cH (L.map (lf m))).length:Int)=some (cH (L.map (lf m))):=by
  rw [uk ⟨by omega,by omega,by omega⟩,hB]
  simp
 have c2:pL B ((cH (L.map (lf m))).length:Int) (B.length:Int)=some c:=by
  rw [uk ⟨by omega,by omega,by omega⟩,VE,hB]
  simp
  exact Xt (by omega)
 have c3:pL B 2 ((cH (L.map (lf m))).length:Int)=some (dM (L.map (lf m)).length++cG (L.map (lf m))):=by
  rw [uk ⟨by omega,by omega,by omega⟩,hB]
  have e:(cH (L.map (lf m))++c).drop (2:Int).toNat=(dM (L.map (lf m)).length++cG (L.map (lf m)))++c:=rfl
  rw [e,show ((cH (L.map (lf m))).length:Int).toNat - (2:Int).toNat=(dM (L.map (lf m)).length++cG (L.map (lf m))).length by unfold cH; simp [WX]; omega,List.take_left]
 unfold bm.f
 rw [if_neg (by simp only [decide_eq_true_eq]; omega),if_neg (by simp only [decide_eq_true_eq]; omega),e4,c1,WL,P.TT,WL,c2,WL,pG,WL,if_neg (by simp),c3,WL,
  AS (by omega) (by omega),WL]
 dsimp only
 rw [hx,WL]
 dsimp only
 rw [Xm,if_neg (by simp),if_neg (by simp),hp,WL]
 dsimp only
 rw [if_neg (by simp),pG,WL,if_neg (by simp)]
end Go.Proofs.YtmekcfdllhphlaaDoor
namespace Go.Proofs.YtmekcfdllhphlaaDoor
open Go Go.R
open Go.IntKind (i64 u64 u8 u32)
def vQ:cg:=gk [0,2,3,4,5,8,12,24,32,58] [] [1022,990,1021,1018,1010,946,1010,1010,882,1021,994,738,994,482,1021,1021] [] []
def aQ.l1 (m:Nat)(l0:List an)(i0:Int):Nat→Int→Option (Sum Bool (Int))
 | 0,_=>none
 | k+1,k0=>(ix l0 i0).bind fun v1=>if (decide (k0<(v1.nodes.length:Int)))=true then ((ix l0 i0).bind fun v2=>(ix v2.nodes k0).bind fun v3=>if (decide ((v3.args.length:Int) > (20:Int)))=true then (some (.inl true)) else ((ix l0 i0).bind fun v4=>(ix v4.nodes k0).bind fun v5=>if (decide ((v5.label.size:Int) > (40:Int)))=true then (some (.inl true)) else (aQ.l1 m l0 i0 k (i64.wrap (k0+(1:Int)))))) else (some (.inr k0))
def aQ.l0 (m:Nat)(l0:List an):Nat→Int→Int→Option (Sum Bool (Int × Int))
 | 0,_,_=>none
 | k+1,n0,i0=>if (decide (i0<(l0.length:Int)))=true then ((ix l0 i0).bind fun v0=>if (decide ((i64.wrap (n0+(v0.nodes.length:Int))) > (300:Int)))=true then (some (.inl true)) else ((aQ.l1 m l0 i0 m (0:Int)).bind fun bq=>match bq with | .inl r0=>some (.inl r0) | .inr k1=>aQ.l0 m l0 k (i64.wrap (n0+(v0.nodes.length:Int))) (i64.wrap (i0+(1:Int))))) else (some (.inr (n0,i0)))
def aQ.f (m:Nat)(l0:List an):Option (Bool):=if (decide ((l0.length:Int) > (12:Int)))=true then (some true) else ((aQ.l0 m l0 m (0:Int) (0:Int)).bind fun cq=>match cq with | .inl r1=>some r1 | .inr (n1,i1)=>some false)
def aQ.fin (L:Mem)(r:Bool)(s:St):Prop:=∃av,aI Tryd.prog (s.open vQ) Tryd.f12.results.toList=some av∧fB s.h av (.bool r)
def TU (cf:CallF)(m:Nat):Prop:=∀(l0:List an) (r:Bool),aQ.f m l0=some r→∀h xs,ej eL h xs [aT.fz l0]→cf 12 xs h=some (.bool r,h)
section
variable {cf:CallF}{m:Nat}
theorem aQ.fu (L:Mem)(l0:List an)(n0:Int)(i0:Int)(v0:an)   : bI Tryd.prog cf vQ m (sub [1,1,1,0,1,0,0,1,0,0,1,1,1,0,0] (codeOf Tryd.f12)) (fun k (σ:Int)=>aQ.l1 m l0 i0 k σ) (fun σ s=>match σ with | k0=>∃h1,s=⟨aT.fz l0 :: .any :: .int .i64 (i64.wrap (n0+(v0.nodes.length:Int))) :: .int .i64 i0 :: .int .i64 k0::sf [],[],h1⟩∧Has h1 (L)) (fun out e s=>(e = .exit 2∧∃k0,.inr k0=out∧∃xi KX h1,s=⟨aT.fz l0 :: .any :: .int .i64 (i64.wrap (n0+(v0.nodes.length:Int))) :: .int .i64 i0::xi::jW [KX,.any],[],h1⟩∧Has h1 (L))∨(e = .ret∧∃r,.inl r=out∧aQ.fin L r s)):=by
 refine gS (fun _=>rfl) ?_
 rintro k k0 s out ⟨h1,rfl,o1⟩ H
 have H:aQ.l1 m l0 i0 (k+1) k0=some out:=H
 refine qq <| qq ?_
 obtain⟨v1,e1,H⟩:=aJ H
 refine qr [.v 3 (bo (k:=.i64) (E:=aT) (l:=l0) yI e1),.v 5 (js  (E:=aT) (l:=l0) (off:=0) h1 MK e1 rfl)] <| qc H (fun c3 H=>?_) (fun c3 H=>?_)
 ·refine qk <| qq <| qb 3 <| qq ?_
  obtain⟨v2,e2,H⟩:=aJ H
  obtain⟨v3,e3,H⟩:=aJ H
  rcases dw H with⟨c4,H⟩| ⟨c4,H⟩
  ·exact qr [.v 2 (bo (k:=.i64) (E:=aT) (l:=l0) yI e2),.v 4 (js  (E:=aT) (l:=l0) (off:=0) h1 MK e2 rfl),.v 6 (bo (k:=.i64) (E:=af) (l:=v2.nodes) kT e3),.v 8 (js  (E:=af) (l:=v2.nodes) (off:=3) h1 Kl e3 rfl),.b 11 c4] <| pa <| qq <| q0 <| qt <| XH (⟨rfl,_,oi H,bZ (.bool true) h1 (bX (aj))⟩)
  ·obtain⟨v4,e4,H⟩:=aJ H
   obtain⟨v5,e5,H⟩:=aJ H
   refine qr [.v 2 (bo (k:=.i64) (E:=aT) (l:=l0) yI e2),.v 4 (js  (E:=aT) (l:=l0) (off:=0) h1 MK e2 rfl),.v 6 (bo (k:=.i64) (E:=af) (l:=v2.nodes) kT e3),.v 8 (js  (E:=af) (l:=v2.nodes) (off:=3) h1 Kl e3 rfl),.b 11 c4,.v 14 (bo (k:=.i64) (E:=aT) (l:=l0) yI e4),.v 16 (js  (E:=aT) (l:=l0) (off:=0) h1 MK e4 rfl),.v 18 (bo (k:=.i64) (E:=af) (l:=v4.nodes) kT e5),.v 20 (js  (E:=af) (l:=v4.nodes) (off:=2) h1 A9 e5 rfl)] <| qc H (fun c6 H=>?_) (fun c6 H=>?_)
   ·exact q1 <| qt <| XH (⟨rfl,_,oi H,bZ (.bool true) h1 (bX (aj))⟩)
   ·exact qk <| q0 <| ⟨i64.wrap (k0+(1:Int)),⟨h1,by kernel_rfl,o1⟩,H⟩
 ·exact qx 2 <| X6 (⟨rfl,k0,oi H,.int .i64 k0,.bool (decide (k0<(v1.nodes.length:Int))),h1,by kernel_rfl,o1⟩)
theorem aQ.bG (L:Mem)(l0:List an)   : bI Tryd.prog cf vQ m (sub [1,1,1,0,1,0,0] (codeOf Tryd.f12)) (fun k (σ:Int × Int)=>aQ.l0 m l0 k σ.1 σ.2) (fun σ s=>match σ with | (n0,i0)=>∃h0,s=⟨aT.fz l0 :: .any :: .int .i64 n0 :: .int .i64 i0::Ha [],[],h0⟩∧Has h0 (L)) (fun out e s=>(e = .exit 0∧∃n0 i0,.inr (n0,i0)=out∧∃kp tu Dz A0 h0,s=⟨kp :: .any::tu::Dz :: .any :: .any::A0::jW [],[],h0⟩∧Has h0 (L))∨(e = .ret∧∃r,.inl r=out∧aQ.fin L r s)):=by
 refine gS (fun _=>rfl) ?_
 rintro k ⟨n0,i0⟩ s out ⟨h0,rfl,o0⟩ H
 have H:aQ.l0 m l0 (k+1) n0 i0=some out:=H
 refine qq <| qq <| q0 <| qc H (fun c1 H=>?_) (fun c1 H=>?_)
 ·refine qk <| qq <| qb 1 <| qq ?_
  obtain⟨v0,e0,H⟩:=aJ H
  refine qr [.v 3 (bo (k:=.i64) (E:=aT) (l:=l0) yI e0),.v 5 (js  (E:=aT) (l:=l0) (off:=0) h0 MK e0 rfl)] <| qq <| qq <| q0 <| qc H (fun c2 H=>?_) (fun c2 H=>?_)
  ·exact q1 <| qt <| XH (⟨rfl,_,oi H,bZ (.bool true) h0 (bX (aj))⟩)
  ·refine qk <| qq <| q0 <| qb 2 ?_
   obtain⟨bq,e6,H⟩:=aJ H
   refine ql (aQ.fu L l0 n0 i0 v0   (0:Int) _ _ ⟨h0,by kernel_rfl,o0⟩ e6) ?_
   rintro e s (⟨rfl,k1,rfl,g0,g1,h2,rfl,o2⟩| ⟨rfl,r0,rfl,lJ⟩)
   ·try dsimp only at H
    exact q0 <| ⟨(i64.wrap (n0+(v0.nodes.length:Int)),i64.wrap (i0+(1:Int))),⟨h2,by kernel_rfl,o2⟩,H⟩
   ·try dsimp only at H
    exact XH (⟨rfl,_,oi H,lJ⟩)
 ·exact qx 0 <| X6 (⟨rfl,n0,i0,oi H,aT.fz l0,.int .i64 n0,.int .i64 i0,.bool (decide (i0<(l0.length:Int))),h0,by kernel_rfl,o0⟩)
theorem qM {aS:FuncId→cg}(ha:aS 12=vQ)  (l0:List an)(h:AHeap)(L:Mem)  (o:Has h (L)){out:Bool}(H:aQ.f m l0=some out) :
  ∃r h',a7 Tryd.prog aS cf m 12 [aT.fz l0] h=some (r,h')∧fB h' r (.bool out):=by
 refine ak (fn:=Tryd.f12) ha Tryd.func12 (by kernel_rfl) (by kernel_rfl) ?_
 refine aF (Q:=fun s=>aQ.fin L out s) (fun _ _ h=>h) ?_
 have H:_=some out:=H
 unfold aQ.f at H
 show de _ cf vQ m _ ⟨aT.fz l0::D0 [],[],h⟩ _
 refine q1 <| qq <| qq <| q0 <| qc H (fun c0 H=>?_) (fun c0 H=>?_)
 ·obtain rfl:=oi H
  exact q1 <| qt <| ⟨.inl rfl,bZ (.bool true) h (bX (aj))⟩
 ·refine qk <| qq <| q0 <| qq <| qq <| q0 <| qb 0 ?_
  obtain⟨cq,e7,H⟩:=aJ H
  refine ql (aQ.bG L l0   ((0:Int),(0:Int)) _ _ ⟨h,by kernel_rfl,o⟩ e7) ?_
  rintro e s (⟨rfl,n1,i1,rfl,g2,g3,g4,g5,h3,rfl,o3⟩| ⟨rfl,r1,rfl,ND⟩)
  ·try dsimp only at H
   obtain rfl:=oi H
   exact q1 <| qt <| ⟨.inl rfl,bZ (.bool false) h3 (bX (aj))⟩
  ·try dsimp only at H
   obtain rfl:=oi H
   exact⟨.inl rfl,ND⟩
end
end Go.Proofs.YtmekcfdllhphlaaDoor
namespace Go.Proofs.YtmekcfdllhphlaaDoor
open Go Go.R
open Go.IntKind (i64 u64 u8 u32)
end Go.Proofs.YtmekcfdllhphlaaDoor
namespace Go.Proofs.YtmekcfdllhphlaaDoor
open Go Go.R
open Go.IntKind (i64 u64 u8 u32)
end Go.Proofs.YtmekcfdllhphlaaDoor
namespace Go.Proofs.YtmekcfdllhphlaaDoor
open Go Go.R
open Go.IntKind (i64 u64 u8 u32)
theorem kS {α:Type}{l:List α}{i:Nat}(h:i<l.length):ix l (i:Int)=some l[i]:=by unfold ix; rw [if_pos (by omega)]; simp [h]
theorem zB {m:Nat}{L:List an}{i:Nat}(hi:i<L.length)(hn:L[i].nodes.length<2 ^ 63):∀(f k:Nat),L[i].nodes.length - k<f→k≤L[i].nodes.length→
  ∃o,aQ.l1 m L (i:Int) f (k:Int)=some o∧((∃x,o = .inr x)∨o = .inl true)
 | 0,k,hf,_=>absurd hf (by omega)
 | f+1,k,hf,hk=>by
  have Hj:(2:Nat) ^ 63=9223372036854775808:=by decide
  unfold aQ.l1
  rw [kS hi,WL]
  by_cases h:k<L[i].nodes.length
  ·obtain⟨o,ih,ho⟩:=zB (m:=m) hi hn f (k+1) (by omega) (by omega)
   rw [if_pos (by simp only [decide_eq_true_eq]; omega),WL,kS h,WL]
   split
   ·exact⟨_,rfl,.inr rfl⟩
   ·rw [WL,kS h,WL]
    split
    ·exact⟨_,rfl,.inr rfl⟩
    ·rw [aD (by omega) (by omega),show (k:Int)+1=((k+1:Nat):Int) by omega,ih]
     exact⟨o,rfl,ho⟩
  ·rw [if_neg (by simp only [decide_eq_true_eq]; omega)]
   exact⟨_,rfl,.inl ⟨_,rfl⟩⟩
theorem ur {m:Nat}(hm:2 ^ 63≤m){L:List an}(h12:L.length≤12)(hl:∀t∈L,t.nodes.length<2 ^ 63):∀(f i:Nat) (n:Int),L.length - i<f→i≤L.length→
  ∃o,aQ.l0 m L f n (i:Int)=some o∧((∃x,o = .inr x)∨o = .inl true)
 | 0,i,n,hf,_=>absurd hf (by omega)
 | f+1,i,n,hf,hi=>by
  have Hj:(2:Nat) ^ 63=9223372036854775808:=by decide
  unfold aQ.l0
  by_cases h:i<L.length
  ·have hb:=hl _ (XJ h)
   rw [if_pos (by simp only [decide_eq_true_eq]; omega),kS h,WL]
   split
   ·exact⟨_,rfl,.inr rfl⟩
   ·obtain⟨o,k1,k2⟩:=zB (m:=m) h hb m 0 (by omega) (by omega)
    have k1:aQ.l1 m L (i:Int) m (0:Int)=_:=k1
    rw [k1,WL]
    rcases k2 with⟨x,rfl⟩| rfl
    ·dsimp only
     rw [aD (x:=(i:Int)+1) (by omega) (by omega),show (i:Int)+1=((i+1:Nat):Int) by omega]
     exact ur hm h12 hl f (i+1) _ (by omega) (by omega)
    ·exact⟨_,rfl,.inr rfl⟩
  ·rw [if_neg (by simp only [decide_eq_true_eq]; omega)]
   exact⟨_,rfl,.inl ⟨_,rfl⟩⟩
theorem Bm {m:Nat}(hm:2 ^ 63≤m){L:List an}(hl:∀t∈L,t.nodes.length<2 ^ 63):∃b,aQ.f m L=some b∧(b=false→L.length≤12):=by
 have Hj:(2:Nat) ^ 63=9223372036854775808:=by decide
 unfold aQ.f
 split
 ·exact⟨true,rfl,fun h=>by cases h⟩
 ·rename_i h
  simp only [decide_eq_true_eq] at h
  obtain⟨o,k1,k2⟩:=ur hm (by omega) hl m 0 0 (by omega) (by omega)
  have k1:aQ.l0 m L m (0:Int) (0:Int)=_:=k1
  rw [k1,WL]
  rcases k2 with⟨⟨n,x⟩,rfl⟩| rfl
  ·exact⟨false,rfl,fun _=>by omega⟩
  ·exact⟨true,rfl,fun h=>by cases h⟩
theorem Lh {m:Nat}(hm:2 ^ 30≤m){t:an}(h1:t.nodes.length≤8000)(h2:∀n∈t.nodes,n.args.length≤8):aY.f m t t=some true:=by
 have lR:(2:Nat) ^ 30=1073741824:=by decide
 obtain⟨x,hx⟩:=zf (m:=m) t hm (by omega) h2 m 0 (by omega) (by omega)
 have hx:aY.l0 m t t m (0:Int)=_:=hx
 unfold aY.f
 rw [if_neg (by simp),if_neg (by simp),hx,WL]
end Go.Proofs.YtmekcfdllhphlaaDoor
namespace Go.Proofs.YtmekcfdllhphlaaDoor
open Go Go.R
open Go.IntKind (i64 u64 u8 u32)
def vR:cg:=gk [0,2,3,4,5,6,13,17,29,34,43] [4] [2046,1982,2045,2042,1914,2042,2018,1778,2045,2002,1490,2002,978,2045,2045] [] []
def a8.l1 (m:Nat)(x1:an × Int):Nat→Int→Option (Sum Bool (Int))
 | 0,_=>none
 | k+1,k0=>if (decide (k0<(x1.1.nodes.length:Int)))=true then ((ix x1.1.nodes k0).bind fun v1=>if (v1.kind==(4:Int))=true then (some (.inl false)) else (a8.l1 m x1 k (i64.wrap (k0+(1:Int))))) else (some (.inr k0))
def a8.l0 (m:Nat)(l0:List an):Nat→Int→Option (Sum Bool (Int))
 | 0,_=>none
 | k+1,i0=>if (decide (i0<(l0.length:Int)))=true then ((ix l0 i0).bind fun v0=>(fb.f m v0).bind fun x1=>if (!(x1.2==(0:Int)))=true then (some (.inl false)) else ((a8.l1 m x1 m (0:Int)).bind fun bq=>match bq with | .inl r0=>some (.inl r0) | .inr k1=>a8.l0 m l0 k (i64.wrap (i0+(1:Int))))) else (some (.inr i0))
def a8.f (m:Nat)(l0:List an):Option (Bool):=(aQ.f m l0).bind fun x0=>if x0=true then (some false) else (if (decide ((l0.length:Int) > (8:Int)))=true then (some false) else ((a8.l0 m l0 m (0:Int)).bind fun cq=>match cq with | .inl r1=>some r1 | .inr i1=>some true))
def a8.fin (L:Mem)(r:Bool)(s:St):Prop:=∃av,aI Tryd.prog (s.open vR) Tryd.f20.results.toList=some av∧fB s.h av (.bool r)
def TV (cf:CallF)(m:Nat):Prop:=∀(l0:List an) (r:Bool),a8.f m l0=some r→∀h xs,ej eL h xs [aT.fz l0]→cf 20 xs h=some (.bool r,h)
section
variable {cf:CallF}{m:Nat}
theorem a8.fu (L:Mem)(l0:List an)(i0:Int)(x1:an × Int)   : bI Tryd.prog cf vR m (sub [1,1,0,1,0,0,1,0,0,1,1,1,0,0] (codeOf Tryd.f20)) (fun k (σ:Int)=>a8.l1 m x1 k σ) (fun σ s=>match σ with | k0=>∃h1,s=⟨aT.fz l0 :: .any :: .int .i64 i0 :: .lp 4 0 :: .any :: .int .i64 k0::sf [],[some [af.fz x1.1.nodes,.int .i64 x1.1.root]],h1⟩∧Has h1 (L)) (fun out e s=>(e = .exit 2∧∃k0,.inr k0=out∧∃Dz AJ Fs QP h1,s=⟨aT.fz l0 :: .any :: .int .i64 i0::Dz :: .any::AJ::jW [Fs,.any],[QP],h1⟩∧Has h1 (L))∨(e = .ret∧∃r,.inl r=out∧a8.fin L r s)):=by
 refine gS (fun _=>rfl) ?_
 rintro k k0 s out ⟨h1,rfl,o1⟩ H
 have H:a8.l1 m x1 (k+1) k0=some out:=H
 refine qq <| qq <| q0 <| qc H (fun c5 H=>?_) (fun c5 H=>?_)
 ·refine qk <| qq <| qb 3 <| qq ?_
  obtain⟨v1,e3,H⟩:=aJ H
  refine qr [.v 3 (bo (k:=.i64) (E:=af) (l:=x1.1.nodes) kT e3),.v 5 (js  (E:=af) (l:=x1.1.nodes) (off:=0) h1 A3 e3 rfl)] <| qc H (fun c6 H=>?_) (fun c6 H=>?_)
  ·exact q1 <| qt <| XH (⟨rfl,_,oi H,bZ (.bool false) h1 (bX (aj))⟩)
  ·exact qk <| q0 <| ⟨i64.wrap (k0+(1:Int)),⟨h1,by kernel_rfl,o1⟩,H⟩
 ·exact qx 2 <| X6 (⟨rfl,k0,oi H,.lp 4 0,.int .i64 k0,.bool (decide (k0<(x1.1.nodes.length:Int))),some [af.fz x1.1.nodes,.int .i64 x1.1.root],h1,by kernel_rfl,o1⟩)
theorem a8.bG (L:Mem)(l0:List an)  (Li:Rd cf m):bI Tryd.prog cf vR m (sub [1,1,0,1,0,0] (codeOf Tryd.f20)) (fun k (σ:Int)=>a8.l0 m l0 k σ) (fun σ s=>match σ with | i0=>∃h0,s=⟨aT.fz l0 :: .any :: .int .i64 i0::rf [],[none],h0⟩∧Has h0 (L)) (fun out e s=>(e = .exit 0∧∃i0,.inr i0=out∧∃kp tu w8 h0,s=⟨kp :: .any::tu::re (w8::jW []),[none],h0⟩∧Has h0 (L))∨(e = .ret∧∃r,.inl r=out∧a8.fin L r s)):=by
 refine gS (fun _=>rfl) ?_
 rintro k i0 s out ⟨h0,rfl,o0⟩ H
 have H:a8.l0 m l0 (k+1) i0=some out:=H
 refine qq <| qq <| q0 <| qc H (fun c3 H=>?_) (fun c3 H=>?_)
 ·refine qk <| qq <| qb 1 <| qq ?_
  obtain⟨v0,e1,H⟩:=aJ H
  obtain⟨x1,e2,H⟩:=aJ H
  refine qr [.v 2 (bo (k:=.i64) (E:=aT) (l:=l0) yI e1),.v 3 (cO  (E:=aT) (l:=l0) h0 Hc Hd e1),.a 4 (Li _ _ e2 h0 _ (b5 (lh (b5 (gy (E:=af)) (b5 (bD) (fe)))) (fe)))] <| qq <| qq <| q0 <| qc H (fun c4 H=>?_) (fun c4 H=>?_)
  ·exact q1 <| qt <| XH (⟨rfl,_,oi H,bZ (.bool false) h0 (bX (aj))⟩)
  ·refine qk <| qq <| q0 <| qb 2 ?_
   obtain⟨bq,e4,H⟩:=aJ H
   refine ql (a8.fu L l0 i0 x1   (0:Int) _ _ ⟨h0,by kernel_rfl,o0⟩ e4) ?_
   rintro e s (⟨rfl,k1,rfl,g0,g1,g2,g3,h2,rfl,o2⟩| ⟨rfl,r0,rfl,lJ⟩)
   ·try dsimp only at H
    exact q0 <| ⟨i64.wrap (i0+(1:Int)),⟨h2,by kernel_rfl,o2⟩,H⟩
   ·try dsimp only at H
    exact XH (⟨rfl,_,oi H,lJ⟩)
 ·exact qx 0 <| X6 (⟨rfl,i0,oi H,aT.fz l0,.int .i64 i0,.bool (decide (i0<(l0.length:Int))),h0,by kernel_rfl,o0⟩)
theorem qN {aS:FuncId→cg}(ha:aS 20=vR)(N1:TU cf m)(Li:Rd cf m)(l0:List an)(h:AHeap)(L:Mem)  (o:Has h (L)){out:Bool}(H:a8.f m l0=some out) :
  ∃r h',a7 Tryd.prog aS cf m 20 [aT.fz l0] h=some (r,h')∧fB h' r (.bool out):=by
 refine ak (fn:=Tryd.f20) ha Tryd.func20 (by kernel_rfl) (by kernel_rfl) ?_
 refine aF (Q:=fun s=>a8.fin L out s) (fun _ _ h=>h) ?_
 have H:_=some out:=H
 unfold a8.f at H
 show de _ cf vR m _ ⟨aT.fz l0::uN [],[none],h⟩ _
 refine q1 <| qq <| qq ?_
 obtain⟨x0,e0,H⟩:=aJ H
 rcases dw H with⟨c0,H⟩| ⟨c0,H⟩
 ·obtain rfl:=oi H
  exact qr [.a 1 (N1 _ _ e0 h _ (ga (ab (bS (E:=aT)) (ax)))),.b 2 c0] <| pa <| qq <| q0 <| qt <| ⟨.inl rfl,bZ (.bool false) h (bX (aj))⟩
 ·refine qr [.a 1 (N1 _ _ e0 h _ (ga (ab (bS (E:=aT)) (ax)))),.b 2 c0] <| qc H (fun c2 H=>?_) (fun c2 H=>?_)
  ·obtain rfl:=oi H
   exact q1 <| qt <| ⟨.inl rfl,bZ (.bool false) h (bX (aj))⟩
  ·refine qk <| qq <| qq <| q0 <| qb 0 ?_
   obtain⟨cq,e5,H⟩:=aJ H
   refine ql (a8.bG L l0  Li (0:Int) _ _ ⟨h,by kernel_rfl,o⟩ e5) ?_
   rintro e s (⟨rfl,i1,rfl,g4,g5,g6,h3,rfl,o3⟩| ⟨rfl,r1,rfl,ND⟩)
   ·try dsimp only at H
    obtain rfl:=oi H
    exact q1 <| qt <| ⟨.inl rfl,bZ (.bool true) h3 (bX (aj))⟩
   ·try dsimp only at H
    obtain rfl:=oi H
    exact⟨.inl rfl,ND⟩
end
end Go.Proofs.YtmekcfdllhphlaaDoor
namespace Go.Proofs.YtmekcfdllhphlaaDoor
open Go Go.R
open Go.IntKind (i64 u64 u8 u32)
def zC:cg:=gk [0,1,2,6,7,8,9,14,15,16,17,18,30] [8,9] [8184,8056,8183,6393,4345,6345,6297,2297,8183,6393,8183] [] []
def aC.l0 (m:Nat)(s0:List ae)(s1:List ae)(eq0:ae→ae→Option (Bool)):Nat→Int→Option (Sum Bool (Int))
 | 0,_=>none
 | k+1,x0=>if (decide (x0<(s0.length:Int)))=true then ((ix s0 x0).bind fun v0=>(ix s1 x0).bind fun v1=>(eq0 v0 v1).bind fun r0=>if (!r0)=true then (some (.inl false)) else (aC.l0 m s0 s1 eq0 k (i64.wrap (x0+(1:Int))))) else (some (.inr x0))
def aC.f (m:Nat)(s0:List ae)(s1:List ae)(eq0:ae→ae→Option (Bool)):Option (Bool):=if (!((s0.length:Int)==(s1.length:Int)))=true then (some false) else ((aC.l0 m s0 s1 eq0 m (0:Int)).bind fun bq=>match bq with | .inl r1=>some r1 | .inr x1=>some true)
def aC.fin (h:AHeap)(r:Bool)(s:St):Prop:=aI Tryd.prog (s.open zC) Tryd.f63.results.toList=some (.bool r)∧s.h=h
def TW (cf:CallF)(m:Nat):Prop:=∀(s0:List ae) (s1:List ae) (eq0:ae→ae→Option (Bool)) (r:Bool),aC.f m s0 s1 eq0=some r→∀h,0<h.next→∀(iv:FuncId) (bU:List AV),ay (.fn iv bU) = .fn iv bU→(∀(a0:ae) (a1:ae) r,eq0 a0 a1=some r→cf iv ([.agg [.int .i64 a0.kind,.int .i64 a0.int,.str a0.label,aa.fz a0.args],.agg [.int .i64 a1.kind,.int .i64 a1.int,.str a1.label,aa.fz a1.args]]++bU) h=some (.bool r,h))→∀xs,xs.map ay=[af.fz s0,af.fz s1,.fn iv bU]→cf 63 xs h=some (.bool r,h)
section
variable {cf:CallF}{m:Nat}
theorem aC.bG (h:AHeap)(L:Mem)(iv:FuncId)(bU:List AV)(s0:List ae)(s1:List ae)(eq0:ae→ae→Option (Bool))  (kr:ay (.fn iv bU) = .fn iv bU)(lL:∀(a0:ae) (a1:ae) r,eq0 a0 a1=some r→cf iv ([.agg [.int .i64 a0.kind,.int .i64 a0.int,.str a0.label,aa.fz a0.args],.agg [.int .i64 a1.kind,.int .i64 a1.int,.str a1.label,aa.fz a1.args]]++bU) h=some (.bool r,h))  : bI Tryd.prog cf zC m (sub [1,1,0,1,0,0] (codeOf Tryd.f63)) (fun k (σ:Int)=>aC.l0 m s0 s1 eq0 k σ) (fun σ s=>match σ with | x0=>s=⟨.any::af.fz s1 :: .fn iv bU::sf [af.fz s0,.int .i64 (s0.length:Int),.int .i64 x0,.any,.any],[none,none],h⟩∧Has h (L)) (fun out e s=>(e = .exit 0∧∃x0,.inr x0=out∧∃rF Ay tK AW w8 Rx,s=⟨.any::rF::Ay::sf [tK,AW,w8,Rx,.any],[none,none],h⟩∧Has h (L))∨(e = .ret∧∃r,.inl r=out∧aC.fin h r s)):=by
 refine gS (fun _=>rfl) ?_
 rintro k x0 s out ⟨rfl,o0⟩ H
 have H:aC.l0 m s0 s1 eq0 (k+1) x0=some out:=H
 refine q1 <| qq <| qc H (fun c1 H=>?_) (fun c1 H=>?_)
 ·refine qk <| qq <| qb 1 <| qq ?_
  obtain⟨v0,e0,H⟩:=aJ H
  refine qr [.v 1 (bo (k:=.i64) (E:=af) (l:=s0) kT e0),.v 2 (cO  (E:=af) (l:=s0) h ri rj e0)] <| qq ?_
  obtain⟨v1,e1,H⟩:=aJ H
  refine qr [.v 2 (bo (k:=.i64) (E:=af) (l:=s1) kT e1),.v 3 (cO  (E:=af) (l:=s1) h ri rj e1)] <| qq ?_
  obtain⟨r0,e2,H⟩:=aJ H
  refine qr [.a 3 (lL _ _ _ e2)] <| qc H (fun c2 H=>?_) (fun c2 H=>?_)
  ·exact q1 <| qt <| XH (⟨rfl,_,oi H,⟨by kernel_rfl,by kernel_rfl⟩⟩)
  ·exact qk <| q0 <| ⟨i64.wrap (x0+(1:Int)),⟨by kernel_rfl,o0⟩,H⟩
 ·exact qx 0 <| X6 (⟨rfl,x0,oi H,af.fz s1,.fn iv bU,af.fz s0,.int .i64 (s0.length:Int),.int .i64 x0,.bool (decide (x0<(s0.length:Int))),by kernel_rfl,o0⟩)
theorem jc {aS:FuncId→cg}(ha:aS 63=zC)  (s0:List ae)(s1:List ae)(eq0:ae→ae→Option (Bool))(h:AHeap)(L:Mem)(iv:FuncId)(bU:List AV)  (kr:ay (.fn iv bU) = .fn iv bU)(lL:∀(a0:ae) (a1:ae) r,eq0 a0 a1=some r→cf iv ([.agg [.int .i64 a0.kind,.int .i64 a0.int,.str a0.label,aa.fz a0.args],.agg [.int .i64 a1.kind,.int .i64 a1.int,.str a1.label,aa.fz a1.args]]++bU) h=some (.bool r,h))(o:Has h (L)){out:Bool}(H:aC.f m s0 s1 eq0=some out) :
  ∃r h',a7 Tryd.prog aS cf m 63 [af.fz s0,af.fz s1,.fn iv bU] h=some (r,h')∧r=(.bool out)∧h'=h:=by
 refine ak (fn:=Tryd.f63) ha Tryd.func63 (by kernel_rfl) (by kernel_rfl) ?_
 refine aF (Q:=fun s=>aC.fin h out s) (fun _ _ ⟨h1,h2,h3⟩=>⟨h1,_,h2,rfl,h3⟩) ?_
 have H:_=some out:=H
 unfold aC.f at H
 show de _ cf zC m _ ⟨af.fz s0::af.fz s1 :: .fn iv bU::uN [],[none,none],h⟩ _
 refine q1 <| qq <| qq <| q0 <| qc H (fun c0 H=>?_) (fun c0 H=>?_)
 ·obtain rfl:=oi H
  exact q1 <| qt <| ⟨.inl rfl,⟨by kernel_rfl,by kernel_rfl⟩⟩
 ·refine qk <| qq <| qq <| q0 <| qb 0 ?_
  obtain⟨bq,e3,H⟩:=aJ H
  refine ql (aC.bG h L iv bU s0 s1 eq0  kr lL  (0:Int) _ _ ⟨by kernel_rfl,o⟩ e3) ?_
  rintro e s (⟨rfl,x1,rfl,g0,g1,g2,g3,g4,g5,rfl,o1⟩| ⟨rfl,r1,rfl,lJ⟩)
  ·try dsimp only at H
   obtain rfl:=oi H
   exact q1 <| qt <| ⟨.inl rfl,⟨by kernel_rfl,by kernel_rfl⟩⟩
  ·try dsimp only at H
   obtain rfl:=oi H
   exact⟨.inl rfl,lJ⟩
end
end Go.Proofs.YtmekcfdllhphlaaDoor
namespace Go.Proofs.YtmekcfdllhphlaaDoor
open Go Go.R
open Go.IntKind (i64 u64 u8 u32)
def zD:cg:=gk [0,1,4,5,10,12,13,14,24] [] [508,492,507,412,284,404,156,507,412,507] [] []
def bE.l0 (m:Nat)(s0:List Int)(s1:List Int):Nat→Int→Option (Sum Bool (Int))
 | 0,_=>none
 | k+1,x0=>if (decide (x0<(s0.length:Int)))=true then ((ix s0 x0).bind fun v0=>(ix s1 x0).bind fun v1=>if (!(v0==v1))=true then (some (.inl false)) else (bE.l0 m s0 s1 k (i64.wrap (x0+(1:Int))))) else (some (.inr x0))
def bE.f (m:Nat)(s0:List Int)(s1:List Int):Option (Bool):=if (!((s0.length:Int)==(s1.length:Int)))=true then (some false) else ((bE.l0 m s0 s1 m (0:Int)).bind fun bq=>match bq with | .inl r0=>some r0 | .inr x1=>some true)
def bE.fin (L:Mem)(r:Bool)(s:St):Prop:=∃av,aI Tryd.prog (s.open zD) Tryd.f66.results.toList=some av∧fB s.h av (.bool r)
def TX (cf:CallF)(m:Nat):Prop:=∀(s0:List Int) (s1:List Int) (r:Bool),bE.f m s0 s1=some r→∀h xs,ej eL h xs [aa.fz s0,aa.fz s1]→cf 66 xs h=some (.bool r,h)
section
variable {cf:CallF}{m:Nat}
theorem bE.bG (L:Mem)(s0:List Int)(s1:List Int)   : bI Tryd.prog cf zD m (sub [1,1,0,1,0,0] (codeOf Tryd.f66)) (fun k (σ:Int)=>bE.l0 m s0 s1 k σ) (fun σ s=>match σ with | x0=>∃h0,s=⟨aa.fz s0::aa.fz s1::jW [.int .i64 (s0.length:Int),.int .i64 x0,.any,.any],[],h0⟩∧Has h0 (L)) (fun out e s=>(e = .exit 0∧∃x0,.inr x0=out∧∃kp rF A0 nQ w7 h0,s=⟨kp::rF::jW [A0,nQ,w7,.any],[],h0⟩∧Has h0 (L))∨(e = .ret∧∃r,.inl r=out∧bE.fin L r s)):=by
 refine gS (fun _=>rfl) ?_
 rintro k x0 s out ⟨h0,rfl,o0⟩ H
 have H:bE.l0 m s0 s1 (k+1) x0=some out:=H
 refine q1 <| qq <| qc H (fun c1 H=>?_) (fun c1 H=>?_)
 ·refine qk <| qq <| qb 1 <| qq <| q0 <| qq ?_
  obtain⟨v0,e0,H⟩:=aJ H
  obtain⟨v1,e1,H⟩:=aJ H
  refine qr [.v 2 (bo (k:=.i64) (E:=aa) (l:=s0) dC e0),.v 3 (cY  (E:=aa) (l:=s0) h0 A3 e0 rfl),.v 6 (bo (k:=.i64) (E:=aa) (l:=s1) dC e1),.v 7 (cY  (E:=aa) (l:=s1) h0 A3 e1 rfl)] <| qc H (fun c2 H=>?_) (fun c2 H=>?_)
  ·exact q1 <| qt <| XH (⟨rfl,_,oi H,bZ (.bool false) h0 (bX (aj))⟩)
  ·exact qk <| q0 <| ⟨i64.wrap (x0+(1:Int)),⟨h0,by kernel_rfl,o0⟩,H⟩
 ·exact qx 0 <| X6 (⟨rfl,x0,oi H,aa.fz s0,aa.fz s1,.int .i64 (s0.length:Int),.int .i64 x0,.bool (decide (x0<(s0.length:Int))),h0,by kernel_rfl,o0⟩)
theorem nZ {aS:FuncId→cg}(ha:aS 66=zD)  (s0:List Int)(s1:List Int)(h:AHeap)(L:Mem)  (o:Has h (L)){out:Bool}(H:bE.f m s0 s1=some out) :
  ∃r h',a7 Tryd.prog aS cf m 66 [aa.fz s0,aa.fz s1] h=some (r,h')∧fB h' r (.bool out):=by
 refine ak (fn:=Tryd.f66) ha Tryd.func66 (by kernel_rfl) (by kernel_rfl) ?_
 refine aF (Q:=fun s=>bE.fin L out s) (fun _ _ h=>h) ?_
 have H:_=some out:=H
 unfold bE.f at H
 show de _ cf zD m _ ⟨aa.fz s0::aa.fz s1::Dk [],[],h⟩ _
 refine q1 <| qq <| qq <| q0 <| qc H (fun c0 H=>?_) (fun c0 H=>?_)
 ·obtain rfl:=oi H
  exact q1 <| qt <| ⟨.inl rfl,bZ (.bool false) h (bX (aj))⟩
 ·refine qk <| qq <| qq <| q0 <| qb 0 ?_
  obtain⟨bq,e2,H⟩:=aJ H
  refine ql (bE.bG L s0 s1   (0:Int) _ _ ⟨h,by kernel_rfl,o⟩ e2) ?_
  rintro e s (⟨rfl,x1,rfl,g0,g1,g2,g3,g4,h1,rfl,o1⟩| ⟨rfl,r0,rfl,lJ⟩)
  ·try dsimp only at H
   obtain rfl:=oi H
   exact q1 <| qt <| ⟨.inl rfl,bZ (.bool true) h1 (bX (aj))⟩
  ·try dsimp only at H
   obtain rfl:=oi H
   exact⟨.inl rfl,lJ⟩
end
end Go.Proofs.YtmekcfdllhphlaaDoor
