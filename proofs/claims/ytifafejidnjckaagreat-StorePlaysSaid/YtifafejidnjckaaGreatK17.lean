/- Part of the proof: PB7, PB8, PB10, PB11, PU3, PD1, PD2, PD3. -/
import Derived.Test.YtifafejidnjckaaGreatK16
set_option linter.unusedVariables false
set_option linter.unusedSimpArgs false
set_option maxRecDepth 100000
open BEq renaming rfl → aj8
open Bool renaming false_eq_true → aiW, not_true → ajA, or_eq_true → ajE
open Int renaming toNat_natCast → aiP
open List renaming getElem?_eq_getElem → aiN, getElem?_eq_some_iff → aiO, mem_of_getElem? → aiS, length_append → aiT, mem_singleton → aiU, length_cons → aiX, length_map → aiY, drop_eq_getElem_cons → aiZ, getElem?_append_right → ai0, replicate → ai1, getD_eq_getElem?_getD → ai2, mem_append → ai3, length_nil → ai4, map_append → ai5, getElem?_append_left → ai6, append_assoc → ai7, getElem?_eq_none → ai8, map_cons → ai9, mem_cons → aja, take_succ_eq_append_getElem → ajb, mem_map → ajc, getElem?_map → aje, mem_append_left → ajh, drop_zero → aji, nil_append → ajj, length_take → ajo, take_length → ajr, length_set → ajw, ext_getElem? → ajG, append_nil → ajJ, set_append_right → ajM, range → ajP, nodup_append → ajS, take_add_one → ajY, map_congr_left → aj0, mem_filter → aj1, mem_range → aj6, getElem?_set → aj9, length_replicate → ake, length_range → akh, filter_append → akm, mem_append_right → akq, length_filter_le → akr, pairwise_map → aks
open Nat renaming le_refl → aiQ, zero_le → ajm, lt_succ_self → ajz, sub_self → ajI
open Option renaming bind_some → aiI, map_some → aiR
open Option.some renaming injEq → aiL, inj → ajn
namespace Go.Proofs.YtifafejidnjckaaGreat
open Go Go.R
open Go.IntKind (i64 u64 u8 u32)
structure KL (l:List ak)(dn:List Bool)(c0 cls:List Int):Prop where
 lc:cls.length=l.length
 old:∀j,j<l.length→gb dn j=true→gt cls j=gt c0 j
 vX:∀j:Nat,(j:Int)∈cY dn l.length→gt cls j∈cY dn l.length∧gt cls j≤j∧gt cls (gt cls j).toNat=gt cls j∧Alike (nd l j) (nd l (gt cls j))
 coarse:∀R,L9 l R→∀i j:Nat,R i j→(i:Int)∈cY dn l.length→(j:Int)∈cY dn l.length→gt cls i=gt cls j
theorem jY {dn:List Bool}{p:Nat}{x:Int}(h:x∈cY dn p):0≤x∧x<p∧((x.toNat:Nat):Int)=x:=by
 obtain⟨j,a,b,c⟩:=lZ.1 h; omega
theorem Mc {l:List ak}{dn:List Bool}{c0 cls:List Int}(P:YG l dn c0 l.length cls):KL l dn c0 cls:=by
 have mn:∀i j:Nat,(i:Int)∈cY dn l.length→(j:Int)∈cY dn l.length→Alike (nd l i) (nd l j)→gt cls i≤gt cls j:=fun i j hi hj hA=>by
  obtain⟨r1,r2,r3⟩:=P.vX j hj
  exact (P.vX i hi).2.2 _ r1 (hA.trans r2)
 refine⟨P.lc,fun j _ h=>P.old j h,fun j hj=>?_,fun R B i j hR hi hj=>?_⟩
 ·obtain⟨r1,r2,r3⟩:=P.vX j hj
  have e:=(jY r1).2.2
  refine⟨r1,r3 j hj (Alike.refl _),?_,r2⟩
  have h1:=mn j (gt cls j).toNat hj (by rw [e]; exact r1) (by rw [e]; exact r2)
  have h2:=mn (gt cls j).toNat j (by rw [e]; exact r1) hj (by rw [e]; exact r2.symm)
  omega
 ·have h1:=mn i j hi hj (B.top i j hR)
  have h2:=mn j i hj hi (B.top i j hR).symm
  omega
def Qr (l:List ak)(cls:List Int)(j g:Nat):Prop:=gt cls j=gt cls g∧SA l cls j g
theorem KL.al {l dn c0 cls}(P:KL l dn c0 cls){i j:Nat}(hi:(i:Int)∈cY dn l.length)(hj:(j:Int)∈cY dn l.length)(h:gt cls i=gt cls j):Alike (nd l i) (nd l j):=by
 have a:=(P.vX i hi).2.2.2
 have b:=(P.vX j hj).2.2.2
 rw [h] at a
 exact a.trans b.symm
theorem KL.Tx {l dn c0 cls}(P:KL l dn c0 cls){i j:Nat}(hi:(i:Int)∈cY dn l.length)(hj:(j:Int)∈cY dn l.length)(h:Qr l cls i j):Qr l cls j i:=
 ⟨h.1.symm,fun k hk=>(h.2 k (by have:=(P.al hi hj h.1).len; unfold na at *; omega)).symm⟩
theorem KL.Ip {l dn c0 cls}(P:KL l dn c0 cls){i j q:Nat}(hi:(i:Int)∈cY dn l.length)(hj:(j:Int)∈cY dn l.length)(h:Qr l cls i j)(g:Qr l cls j q):Qr l cls i q:=
 ⟨h.1.trans g.1,fun k hk=>(h.2 k hk).trans (g.2 k (by have:=(P.al hi hj h.1).len; unfold na at *; omega))⟩
theorem PH {m:Nat}(hm:2 ^ 30≤m){l:List ak}{dn:List Bool}{c0 cls nx:List Int}(ok:nY l)(P:KL l dn c0 cls)(hnx:nx.length=l.length){J:Nat}(hJ:J<(cY dn l.length).length)
  (hlt:∀q,q<J→gt nx (gt (cY dn l.length) q).toNat≠gt (cY dn l.length) J):∀(f k:Nat),J - k+2≤f→k≤J→(∀q,q<k→¬Qr l cls (gt (cY dn l.length) J).toNat (gt (cY dn l.length) q).toNat)→
  ∃w x,aA.l6 m l (cY dn l.length) cls (J:Int) (gt (cY dn l.length) J) f (nx.set (gt (cY dn l.length) J).toNat (gt (cY dn l.length) J)) (k:Int)=some (nx.set (gt (cY dn l.length) J).toNat w,x)∧
   (w=gt (cY dn l.length) J∧(∀q,q<J→¬Qr l cls (gt (cY dn l.length) J).toNat (gt (cY dn l.length) q).toNat)∨∃q,q<J∧Qr l cls (gt (cY dn l.length) J).toNat (gt (cY dn l.length) q).toNat∧w=gt nx (gt (cY dn l.length) q).toNat)
 | 0,k,hf,_,_=>absurd hf om
 | f+1,k,hf,hk,yM=>by
  have vM:(2:Nat) ^ 30=1073741824:=by decide
  have h8:=ok.1
  have TQ:=ll (dn:=dn) l.length
  have mJ:=bC hJ
  obtain⟨v0,v1,v2⟩:=jY mJ
  unfold aA.l6
  have tw:∀w,ix (nx.set (gt (cY dn l.length) J).toNat w) (gt (cY dn l.length) J)=some w:=fun w=>by
   rw [iV (k:=(gt (cY dn l.length) J).toNat) om (by rw [ajw]; omega),iG om,if_pos rfl]
  rw [tw,aiI,if_pos (by simp)]
  by_cases h:k<J
  ·have mk:=bC (l:=cY dn l.length) (k:=k) om
   obtain⟨w0,w1,w2⟩:=jY mk
   have next:¬Qr l cls (gt (cY dn l.length) J).toNat (gt (cY dn l.length) k).toNat→∃w x,aA.l6 m l (cY dn l.length) cls (J:Int) (gt (cY dn l.length) J) f (nx.set (gt (cY dn l.length) J).toNat (gt (cY dn l.length) J)) (i64.wrap ((k:Int)+1))=some (nx.set (gt (cY dn l.length) J).toNat w,x)∧
     (w=gt (cY dn l.length) J∧(∀q,q<J→¬Qr l cls (gt (cY dn l.length) J).toNat (gt (cY dn l.length) q).toNat)∨∃q,q<J∧Qr l cls (gt (cY dn l.length) J).toNat (gt (cY dn l.length) q).toNat∧w=gt nx (gt (cY dn l.length) q).toNat):=fun hn=>by
    rw [bL om om,show (k:Int)+1=((k+1:Nat):Int) by omega]
    refine PH hm ok P hnx hJ hlt f (k+1) om om fun q hq=>?_
    by_cases e:q=k
    ·subst e; exact hn
    ·exact yM q om
   have c1:ix cls (gt (cY dn l.length) J)=some (gt cls (gt (cY dn l.length) J).toNat):=iV v2.symm (by rw [P.lc]; omega)
   have c2:ix cls (gt (cY dn l.length) k)=some (gt cls (gt (cY dn l.length) k).toNat):=iV w2.symm (by rw [P.lc]; omega)
   rw [if_pos dm,c1,aiI,er om,aiI,c2,aiI]
   by_cases e:gt cls (gt (cY dn l.length) J).toNat=gt cls (gt (cY dn l.length) k).toNat
   ·have hA:=P.al (i:=(gt (cY dn l.length) J).toNat) (j:=(gt (cY dn l.length) k).toNat) (by rw [v2]; exact mJ) (by rw [w2]; exact mk) e
    obtain⟨xs,s1,s2⟩:=KA hm ok P.lc (i:=(gt (cY dn l.length) J).toNat) (j:=(gt (cY dn l.length) k).toNat) om om hA.len
    rw [v2,w2] at s1
    rw [if_pos (by simpa using e),k8 om om,aiI,aiI,k8 om om,aiI,s1,aiI]
    cases xs with
    | false=>
     rw [if_neg (by simp)]
     exact next fun h=>by have:=s2.2 h.2; cases this
    | true=>
     have hQ:Qr l cls (gt (cY dn l.length) J).toNat (gt (cY dn l.length) k).toNat:=⟨e,s2.1 rfl⟩
     have hne:(gt (cY dn l.length) k).toNat≠(gt (cY dn l.length) J).toNat:=by have:=sF (dn:=dn) (p:=l.length) h hJ; omega
     have n1:ix (nx.set (gt (cY dn l.length) J).toNat (gt (cY dn l.length) J)) (gt (cY dn l.length) k)=some (gt nx (gt (cY dn l.length) k).toNat):=by
      rw [iV w2.symm (by rw [ajw]; omega),iG om,if_neg hne]
     obtain⟨g,rfl⟩:∃g,f=g+1:=⟨f - 1,om⟩
     rw [if_pos rfl,aiI,n1,aiI,aiI,List.set_set]
     refine⟨gt nx (gt (cY dn l.length) k).toNat,i64.wrap ((k:Int)+1),?_,.inr ⟨k,h,hQ,rfl⟩⟩
     unfold aA.l6
     rw [tw,aiI,if_neg (by simpa using hlt k h)]
   ·rw [if_neg (by simpa using e)]
    exact next fun h=>e h.1
  ·have e:k=J:=by omega
   rw [if_neg dm]
   exact⟨gt (cY dn l.length) J,_,rfl,.inl ⟨rfl,fun q hq=>yM q om⟩⟩
structure N5 (l:List ak)(dn:List Bool)(cls:List Int)(p:Nat)(nx:List Int):Prop where
 ln:nx.length=l.length
 VE:∀x:Nat,(x:Int)∉cY dn l.length→gt nx x=gt cls x
 YH:∀q,p≤q→q<(cY dn l.length).length→gt nx (gt (cY dn l.length) q).toNat=gt cls (gt (cY dn l.length) q).toNat
 new:∀q,q<p→gt nx (gt (cY dn l.length) q).toNat∈cY dn l.length∧Qr l cls (gt (cY dn l.length) q).toNat (gt nx (gt (cY dn l.length) q).toNat).toNat∧∀g∈cY dn l.length,Qr l cls (gt (cY dn l.length) q).toNat g.toNat→gt nx (gt (cY dn l.length) q).toNat≤g
theorem El {dn:List Bool}{n p q:Nat}(hp:p<(cY dn n).length)(hq:q<(cY dn n).length)(e:(gt (cY dn n) p).toNat=(gt (cY dn n) q).toNat):p=q:=by
 have a:=(jY (bC hp)).2.2
 have b:=(jY (bC hq)).2.2
 rcases Nat.lt_trichotomy p q with h | h | h
 ·have:=sF (dn:=dn) (p:=n) h hq; omega
 ·exact h
 ·have:=sF (dn:=dn) (p:=n) h hp; omega
theorem Sf {l:List ak}{dn:List Bool}{c0 cls nx:List Int}(P:KL l dn c0 cls){p:Nat}(hp:p<(cY dn l.length).length)(N:N5 l dn cls p nx){w:Int}
  (hw:w=gt (cY dn l.length) p∧(∀q,q<p→¬Qr l cls (gt (cY dn l.length) p).toNat (gt (cY dn l.length) q).toNat)∨∃q,q<p∧Qr l cls (gt (cY dn l.length) p).toNat (gt (cY dn l.length) q).toNat∧w=gt nx (gt (cY dn l.length) q).toNat) :
  N5 l dn cls (p+1) (nx.set (gt (cY dn l.length) p).toNat w):=by
 have mp:=bC hp
 obtain⟨v0,v1,v2⟩:=jY mp
 have gc:∀x,x≠(gt (cY dn l.length) p).toNat→gt (nx.set (gt (cY dn l.length) p).toNat w) x=gt nx x:=fun x hx=>by rw [iG (by rw [N.ln]; omega),if_neg hx]
 have gi:gt (nx.set (gt (cY dn l.length) p).toNat w) (gt (cY dn l.length) p).toNat=w:=by rw [iG (by rw [N.ln]; omega),if_pos rfl]
 refine⟨by simpa using N.ln,fun x hx=>?_,fun q h1 h2=>?_,fun q hq=>?_⟩
 ·rw [gc x (fun e=>hx (by rw [e,v2]; exact mp))]; exact N.VE x hx
 ·rw [gc _ (fun e=>by have:=El h2 hp e; omega)]; exact N.YH q om h2
 ·by_cases e:q=p
  ·subst e
   rw [gi]
   rcases hw with⟨rfl,h⟩| ⟨q',h1,h2,rfl⟩
   ·refine⟨mp,⟨rfl,fun _ _=>rfl⟩,fun g hg hQ=>?_⟩
    obtain⟨k,hk,rfl⟩:=jd hg
    by_cases hkq:k<q
    ·exact absurd hQ (h k hkq)
    ·by_cases acH:k=q
     ·subst acH; exact Int.le_refl _
     ·have:=sF (dn:=dn) (p:=l.length) (k:=q) (q:=k) om hk; omega
   ·have mq:=bC (l:=cY dn l.length) (k:=q') om
    have eq2:=(jY mq).2.2
    obtain⟨n1,n2,n3⟩:=N.new q' h1
    have e3:=(jY n1).2.2
    have s1:((gt (cY dn l.length) q).toNat:Int)∈cY dn l.length:=by rw [v2]; exact mp
    have s2:((gt (cY dn l.length) q').toNat:Int)∈cY dn l.length:=by rw [eq2]; exact mq
    exact⟨n1,P.Ip s1 s2 h2 n2,fun g hg hQ=>n3 g hg (P.Ip s2 s1 (P.Tx s1 s2 h2) hQ)⟩
  ·rw [gc _ (fun e2=>by have:=El (dn:=dn) (n:=l.length) om hp e2; omega)]
   exact N.new q om
theorem Iq {m:Nat}(hm:2 ^ 30≤m){l:List ak}{dn:List Bool}{c0 cls:List Int}(ok:nY l)(P:KL l dn c0 cls):∀(f p:Nat) (more:Bool) (nx:List Int),(cY dn l.length).length - p<f→p≤(cY dn l.length).length→N5 l dn cls p nx→
  (more=true↔∃q,q<p∧gt nx (gt (cY dn l.length) q).toNat≠gt cls (gt (cY dn l.length) q).toNat)→
  ∃lG nx' x,aA.l5 m l (cY dn l.length) cls f more nx (p:Int)=some (lG,nx',x)∧N5 l dn cls (cY dn l.length).length nx'∧(lG=true↔∃q,q<(cY dn l.length).length∧gt nx' (gt (cY dn l.length) q).toNat≠gt cls (gt (cY dn l.length) q).toNat)
 | 0,p,_,_,hf,_,_,_=>absurd hf om
 | f+1,p,more,nx,hf,hp,N,sG=>by
  have vM:(2:Nat) ^ 30=1073741824:=by decide
  have h8:=ok.1
  have TQ:=ll (dn:=dn) l.length
  unfold aA.l5
  by_cases h:p<(cY dn l.length).length
  ·have mp:=bC h
   obtain⟨v0,v1,v2⟩:=jY mp
   obtain⟨w,x,k1,k2⟩:=PH hm ok P N.ln h (fun q hq=>by
    obtain⟨n1,n2,n3⟩:=N.new q hq
    have mq:=bC (l:=cY dn l.length) (k:=q) om
    have:=n3 _ mq ⟨rfl,fun _ _=>rfl⟩
    have:=sF (dn:=dn) (p:=l.length) hq h
    omega) m 0 om om (fun q hq=>absurd hq om)
   have k1:aA.l6 m l (cY dn l.length) cls (p:Int) (gt (cY dn l.length) p) m (nx.set (gt (cY dn l.length) p).toNat (gt (cY dn l.length) p)) 0=_:=k1
   have N':=Sf P h N k2
   have ew:i64.wrap ((p:Int)+1)=((p+1:Nat):Int):=by rw [bL om om]; omega
   have c0':ix nx (gt (cY dn l.length) p)=some (gt nx (gt (cY dn l.length) p).toNat):=iV v2.symm (by rw [N.ln]; omega)
   have c1:ix cls (gt (cY dn l.length) p)=some (gt cls (gt (cY dn l.length) p).toNat):=iV v2.symm (by rw [P.lc]; omega)
   have c2:ix (nx.set (gt (cY dn l.length) p).toNat w) (gt (cY dn l.length) p)=some w:=by
    rw [iV v2.symm (by rw [ajw,N.ln]; omega),iG (by rw [N.ln]; omega),if_pos rfl]
   have gw:gt (nx.set (gt (cY dn l.length) p).toNat w) (gt (cY dn l.length) p).toNat=w:=by rw [iG (by rw [N.ln]; omega),if_pos rfl]
   have old:∀q,q<p→gt (nx.set (gt (cY dn l.length) p).toNat w) (gt (cY dn l.length) q).toNat=gt nx (gt (cY dn l.length) q).toNat:=fun q hq=>by
    rw [iG (by rw [N.ln]; omega),if_neg (fun e=>by have:=El (dn:=dn) (n:=l.length) om h e; omega)]
   rw [if_pos dm,er h,aiI,c0',aiI,k1,aiI]
   dsimp only
   rw [ew]
   cases more with
   | true=>
    rw [if_pos rfl]
    refine Iq hm ok P f (p+1) true _ (by clear sG k2; omega) (by clear sG k2; omega) N' ⟨fun _=>?_,fun _=>rfl⟩
    obtain⟨q,q1,q2⟩:=sG.1 rfl
    exact⟨q,om,by rw [old q q1]; exact q2⟩
   | false=>
    rw [if_neg (by simp),c2,aiI,c1,aiI]
    refine Iq hm ok P f (p+1) _ _ (by clear sG k2; omega) (by clear sG k2; omega) N' ?_
    constructor
    ·intro hb
     refine⟨p,om,?_⟩
     rw [gw]; simpa using hb
    ·rintro⟨q,q1,q2⟩
     by_cases e:q=p
     ·subst e; rw [gw] at q2; simpa using q2
     ·rw [old q om] at q2
      have:=sG.2 ⟨q,om,q2⟩
      cases this
  ·have e:p=(cY dn l.length).length:=by omega
   subst e
   exact⟨more,nx,_,by rw [if_neg (by simp)],N,sG⟩
theorem PK {l:List ak}{dn:List Bool}{c0 cls nx:List Int}{od:List Int}(ok:nY l)(P:KL l dn c0 cls)(N:N5 l dn cls (cY dn l.length).length nx)
  (EJ:∀j,j<l.length→(gb dn j=true↔(j:Int)∈od)) (VW:∀R,L9 l R→∀i j:Nat,R i j→(i:Int)∈od→(j:Int)∈od→gt c0 i=gt c0 j)
  (hfin:∀R,L9 l R→∀i j:Nat,R i j→(i:Int)∈od→(j:Int)∈od):KL l dn c0 nx:=by
 have YI:∀j,j<l.length→gb dn j=true→(j:Int)∉cY dn l.length:=fun j _ h hm=>by
  obtain⟨j',a,b,c⟩:=lZ.1 hm
  have:j=j':=by omega
  subst this; rw [h] at b; cases b
 have BD:∀j,j<l.length→(j:Int)∉od→(j:Int)∈cY dn l.length:=fun j hj h=>lZ.2 ⟨j,hj,by
  cases hb:gb dn j with
  | true=>exact absurd ((EJ j hj).1 hb) h
  | false=>rfl,rfl⟩
 have atR:∀j:Nat,(j:Int)∈cY dn l.length→gt nx j∈cY dn l.length∧Qr l cls j (gt nx j).toNat∧∀g∈cY dn l.length,Qr l cls j g.toNat→gt nx j≤g:=fun j hj=>by
  obtain⟨q,hq,e⟩:=jd hj
  have:=N.new q hq
  rw [e,aiP] at this
  exact this
 have mn:∀i j:Nat,(i:Int)∈cY dn l.length→(j:Int)∈cY dn l.length→Qr l cls i j→gt nx i≤gt nx j:=fun i j hi hj hQ=>by
  obtain⟨r1,r2,r3⟩:=atR j hj
  exact (atR i hi).2.2 _ r1 (P.Ip hi hj hQ r2)
 have eqq:∀i j:Nat,(i:Int)∈cY dn l.length→(j:Int)∈cY dn l.length→Qr l cls i j→gt nx i=gt nx j:=fun i j hi hj hQ=>by
  have h1:=mn i j hi hj hQ
  have h2:=mn j i hj hi (P.Tx hi hj hQ)
  omega
 refine⟨N.ln,fun j hj h=>by rw [N.VE j (YI j hj h)]; exact P.old j hj h,fun j hj=>?_,fun R B i j hR hi hj=>?_⟩
 ·obtain⟨r1,r2,r3⟩:=atR j hj
  have e:=(jY r1).2.2
  have yL:(((gt nx j).toNat:Nat):Int)∈cY dn l.length:=by rw [e]; exact r1
  refine⟨r1,r3 j hj ⟨rfl,fun _ _=>rfl⟩,(eqq j _ hj yL r2).symm,?_⟩
  have:=P.al hj yL r2.1
  rw [e] at this; exact this
 ·refine eqq i j hi hj ⟨P.coarse R B i j hR hi hj,fun k hk=>?_⟩
  have YJ:R (ar l i k) (ar l j k):=B.arg i j hR k hk
  obtain⟨ra,rb⟩:=B.ti _ _ YJ
  by_cases ha:((ar l i k:Nat):Int)∈od
  ·have hb:=hfin R B _ _ YJ ha
   rw [P.old _ ra ((EJ _ ra).2 ha),P.old _ rb ((EJ _ rb).2 hb)]
   exact VW R B _ _ YJ ha hb
  ·have hb:((ar l j k:Nat):Int)∉od:=fun h=>ha (hfin _ B.symm _ _ YJ h)
   exact P.coarse R B _ _ YJ (BD _ ra ha) (BD _ rb hb)
def bG (dn:List Bool)(n:Nat)(cls:List Int):List Int:=(cY dn n).filter fun j=>gt cls j.toNat==j
theorem Md {dn:List Bool}{n:Nat}:(cY dn n).Nodup:=by
 unfold List.Nodup
 rw [List.pairwise_iff_getElem]
 intro i j hi hj Er e
 have:=sF (dn:=dn) (p:=n) Er hj
 have a:=cz hi
 have b:=cz hj
 rw [aiN hi] at a
 rw [aiN hj] at b
 have a:=ajn a
 have b:=ajn b
 omega
theorem PL {m:Nat}(hm:2 ^ 30≤m){l:List ak}{dn:List Bool}{c0 od:List Int}(ok:nY l)
  (EJ:∀j,j<l.length→(gb dn j=true↔(j:Int)∈od)) (VW:∀R,L9 l R→∀i j:Nat,R i j→(i:Int)∈od→(j:Int)∈od→gt c0 i=gt c0 j)
  (hfin:∀R,L9 l R→∀i j:Nat,R i j→(i:Int)∈od→(j:Int)∈od):∀(f:Nat) (cls:List Int),(cY dn l.length).length - (bG dn l.length cls).length+1<f→KL l dn c0 cls→
  ∃mT,aA.l4 m l (cY dn l.length) f cls true=some (mT,false)∧KL l dn c0 mT∧∀j:Nat,(j:Int)∈cY dn l.length→SA l mT j (gt mT j).toNat
 | 0,cls,hf,_=>absurd hf om
 | f+1,cls,hf,P=>by
  have vM:(2:Nat) ^ 30=1073741824:=by decide
  have h8:=ok.1
  have TQ:=ll (dn:=dn) l.length
  unfold aA.l4
  have ux:app 8 ([]:List Int) cls=some cls:=by unfold app; rw [if_pos (by simp; rw [P.lc]; omega),ajj]
  obtain⟨lG,nx,x,k1,N,sG⟩:=Iq hm ok P m 0 false cls om om ⟨P.lc,fun _ _=>rfl,fun _ _ _=>rfl,fun q hq=>absurd hq om⟩ ⟨fun h=>(by cases h),fun ⟨q,hq,_⟩=>absurd hq om⟩
  have k1:aA.l5 m l (cY dn l.length) cls m false cls 0=_:=k1
  have P':=PK ok P N EJ VW hfin
  rw [if_pos rfl,ux,aiI,k1,aiI]
  dsimp only
  cases hmo:lG with
  | true=>
   obtain⟨q,hq,hne⟩:=sG.1 hmo
   have mq:=bC hq
   have eq2:=(jY mq).2.2
   obtain⟨n1,n2,n3⟩:=N.new q hq
   have e3:=(jY n1).2.2
   have afh:(bG dn l.length cls).length+1≤(bG dn l.length nx).length:=by
    have nd1:(gt nx (gt (cY dn l.length) q).toNat::bG dn l.length cls).Nodup:=by
     rw [List.nodup_cons]
     refine⟨fun h=>?_,List.Pairwise.filter _ Md⟩
     have:=(aj1.1 h).2
     have:=beq_iff_eq.1 this
     exact hne (by rw [n2.1,this])
    have:=nd1.length_le_of_subset (l₂:=bG dn l.length nx) (fun y hy=>by
     rcases aja.1 hy with rfl | hy
     ·refine aj1.2 ⟨n1,?_⟩
      have:=(P'.vX (gt (cY dn l.length) q).toNat (by rw [eq2]; exact mq)).2.2.1
      rw [beq_iff_eq]; exact this
     ·obtain⟨y1,y2⟩:=aj1.1 hy
      have y2:=beq_iff_eq.1 y2
      refine aj1.2 ⟨y1,?_⟩
      have ey:=(jY y1).2.2
      rw [beq_iff_eq]
      obtain⟨k,hk,e⟩:=jd y1
      obtain⟨m1,m2,m3⟩:=N.new k hk
      rw [e] at m1 m2 m3
      have a1:=m3 y y1 ⟨rfl,fun _ _=>rfl⟩
      have em:=(jY m1).2.2
      have a2:=(P.vX (gt nx y.toNat).toNat (by rw [em]; exact m1)).2.1
      rw [←m2.1,y2] at a2
      omega)
    simpa using this
   have hle:(bG dn l.length nx).length≤(cY dn l.length).length:=akr _ _
   exact PL hm ok EJ VW hfin f nx (by clear sG; omega) P'
  | false=>
   obtain⟨g,rfl⟩:∃g,f=g+1:=⟨f - 1,om⟩
   have same:∀j:Nat,(j:Int)∈cY dn l.length→gt nx j=gt cls j:=fun j hj=>by
    obtain⟨k,hk,e⟩:=jd hj
    by_cases hne:gt nx j=gt cls j
    ·exact hne
    ·have:=sG.2 ⟨k,hk,by rw [e,aiP]; exact hne⟩
     rw [hmo] at this; cases this
   have enx:nx=cls:=H4 (by rw [N.ln,P.lc]) fun k hk=>by
    by_cases h:(k:Int)∈cY dn l.length
    ·exact same k h
    ·exact N.VE k h
   refine⟨nx,?_,P',fun j hj=>?_⟩
   ·unfold aA.l4
    rw [if_neg (by simp)]
   ·obtain⟨k,hk,e⟩:=jd hj
    obtain⟨m1,m2,m3⟩:=N.new k hk
    rw [e,aiP] at m2
    rw [enx] at m2 ⊢
    exact m2.2
structure VF (l:List ak)(c od:List Int):Prop where
 min:Min l c
 vX:∀i,i<l.length→0≤gt c i∧gt c i<l.length∧gt c (gt c i).toNat=gt c i
 BC:∀i:Nat,(i:Int)∈od→∀k,k<na l i→((ar l i k:Nat):Int)∈od∧od.idxOf ((ar l i k:Nat):Int)<od.idxOf (i:Int)
 big:∀i,i<l.length→(i:Int)∉od→gt c i≤i
theorem VG {n k:Nat}:gb (ai1 n false) k=false:=by
 unfold gb; rw [ai2,List.getElem?_replicate]; split<;>rfl
theorem Gv {m:Nat}(hm:2 ^ 30≤m){l:List ak}(ok:nY l):∃c od,aA.f m l=some c∧VF l c od:=by
 have vM:(2:Nat) ^ 30=1073741824:=by decide
 have h8:=ok.1
 unfold aA.f
 have e0:sY 8 (l.length:Int) (0:Int)=some (ai1 l.length 0):=by unfold sY; rw [if_pos ⟨om,by rw [aiP]; omega⟩,aiP]
 have e1:sY 1 (l.length:Int) false=some (ai1 l.length false):=by unfold sY; rw [if_pos ⟨om,by rw [aiP]; omega⟩,aiP]
 obtain⟨c0,dn,fs,od,k1,P1,hq⟩:=PE hm ok m (ai1 l.length 0) (ai1 l.length false) [] [] (by simp; omega)
  {lc:=by simp,ld:=by simp,odn:=by simp,VD:=(by intro x hx; cases hx),Qp:=(by intro i hi; rw [VG]; simp),BC:=(by intro i hi; cases hi),Zr:=by simp,fst:=(by intro f hf; cases hf),vX:=(by intro i hi; cases hi),apart:=(by intro f hf; cases hf),coarse:=(by intro R B i j hR hi; cases hi)}
 obtain⟨c1,x,k2,P2⟩:=Io hm ok P1.ld (c0:=c0) m 0 c0 om om {lc:=P1.lc,old:=fun _ _=>rfl,vX:=(by intro j hj; cases hj)}
 have k2:aA.l2 m l dn m c0 [] 0=_:=k2
 have hfin:∀R,L9 l R→∀i j:Nat,R i j→(i:Int)∈od→(j:Int)∈od:=by
  intro R B
  have:∀N i j:Nat,od.idxOf (i:Int)<N→R i j→(i:Int)∈od→(j:Int)∈od:=by
   intro N
   induction N with
   | zero=>intro i j h; omega
   | succ N ih=>
    intro i j hN hR hi
    by_cases hj:(j:Int)∈od
    ·exact hj
    ·obtain⟨k,g1,g2⟩:=hq j (B.ti i j hR).2 hj
     have yN:k<na l i:=by have:=(B.top i j hR).len; unfold na at *; omega
     obtain⟨r1,r2⟩:=P1.BC i hi k yN
     exact absurd (ih (ar l i k) (ar l j k) om (B.arg i j hR k yN) r1) g2
  exact fun i j=>this (od.idxOf (i:Int)+1) i j om
 obtain⟨c,k3,P3,hS⟩:=PL hm ok P1.Qp P1.coarse hfin m c1 (by have:=ll (dn:=dn) l.length; omega) (Mc P2)
 have BD:∀j,j<l.length→(j:Int)∉od→(j:Int)∈cY dn l.length:=fun j hj h=>lZ.2 ⟨j,hj,by
  cases hb:gb dn j with
  | true=>exact absurd ((P1.Qp j hj).1 hb) h
  | false=>rfl,rfl⟩
 have Ty:∀{x:Int},x∈cY dn l.length→x∉od:=fun hx h=>by
  obtain⟨j,a,b,e⟩:=lZ.1 hx
  subst e
  rw [(P1.Qp j a).2 h] at b; cases b
 have BE:∀j:Nat,j<l.length→(j:Int)∈od→gt c j=gt c0 j:=fun j hj h=>P3.old j hj ((P1.Qp j hj).2 h)
 have VH:∀f∈fs,0≤f∧f<l.length∧f∈od∧((f.toNat:Nat):Int)=f:=fun f hf=>by
  have a:=P1.fsr f hf; have b:=(P1.fst f hf).1; exact⟨a.1,a.2,b,om⟩
 have acJ:∀i j:Nat,(i:Int)∈od→(j:Int)∈od→xR l c0 i j→SA l c i j:=fun i j hi hj h k hk=>by
  have a:=(P1.BC i hi k hk).1
  have b:=(P1.BC j hj k (by have:=h.1.len; unfold na at *; omega)).1
  have ra:=P1.VD _ a
  have rb:=P1.VD _ b
  rw [BE _ om a,BE _ om b]
  exact h.2 k hk
 have both:∀i j:Nat,i<l.length→j<l.length→gt c i=gt c j→Alike (nd l i) (nd l j)∧SA l c i j:=fun i j hi hj e=>by
  by_cases h1:(i:Int)∈od
  ·obtain⟨f1,s1⟩:=P1.vX i h1
   by_cases h2:(j:Int)∈od
   ·obtain⟨f2,s2⟩:=P1.vX j h2
    rw [BE i hi h1,BE j hj h2] at e
    rw [e] at s1
    have s:=s1.trans s2.symm
    exact⟨s.1,acJ i j h1 h2 s⟩
   ·have:=(P3.vX j (BD j hj h2)).1
    rw [←e,BE i hi h1] at this
    exact absurd (VH _ f1).2.2.1 (Ty this)
  ·have r1:=BD i hi h1
   by_cases h2:(j:Int)∈od
   ·obtain⟨f2,s2⟩:=P1.vX j h2
    have:=(P3.vX i r1).1
    rw [e,BE j hj h2] at this
    exact absurd (VH _ f2).2.2.1 (Ty this)
   ·have r2:=BD j hj h2
    have hA:=P3.al r1 r2 e
    refine⟨hA,fun k hk=>?_⟩
    have a:=hS i r1 k hk
    have b:=hS j r2 k (by have:=hA.len; unfold na at *; omega)
    rw [e] at a
    exact a.trans b.symm
 refine⟨c,od,?_,⟨P3.lc,fun i j hi hj e=>(both i j hi hj e).1,fun i j hi hj e k hk=>(both i j hi hj e).2 k hk,fun R B i j hR=>?_⟩,fun i hi=>?_,P1.BC,fun i hi h=>(P3.vX i (BD i hi h)).2.1⟩
 ·rw [e0,aiI,e1,aiI,k1,aiI]
  dsimp only
  rw [k2,aiI]
  dsimp only
  rw [k3]; rfl
 ·obtain⟨hi,hj⟩:=B.ti i j hR
  by_cases h1:(i:Int)∈od
  ·have h2:=hfin R B i j hR h1
   rw [BE i hi h1,BE j hj h2]; exact P1.coarse R B i j hR h1 h2
  ·have h2:(j:Int)∉od:=fun h=>h1 (hfin _ B.symm j i hR h)
   exact P3.coarse R B i j hR (BD i hi h1) (BD j hj h2)
 ·by_cases h1:(i:Int)∈od
  ·obtain⟨f1,s1⟩:=P1.vX i h1
   obtain⟨a,b,d,e⟩:=VH _ f1
   rw [BE i hi h1]
   refine⟨a,b,?_⟩
   rw [BE _ om (by rw [e]; exact d)]
   exact (P1.fst _ f1).2
  ·obtain⟨r1,r2,r3,r4⟩:=P3.vX i (BD i hi h1)
   have:=jY r1
   exact⟨this.1,this.2.1,r3⟩
def pm (pl:List Int)(n:ak):ak:=⟨n.kind,n.int,n.label,n.args.map fun a=>gt pl a.toNat⟩
theorem vR {l:List ak}{i:Nat}(h:i<l.length):l[i]? = some (nd l i):=by
 have:=k8 (l:=l) (i:=(i:Int)) om om
 unfold ix at this
 rwa [if_pos om,aiP] at this
theorem Ir {l:List ak}{i q:Nat}{x:ak}(hi:i<l.length):nd (l.set i x) q=if q=i then x else nd l q:=by
 unfold nd
 simp only [aiP,ai2,aj9]
 by_cases h:i=q
 ·subst h; simp [hi]
 ·rw [if_neg h,if_neg om]
theorem PM {f:ak→ak}{l:List ak}{i:Nat}(h:i<l.length):nd (l.map f) i=f (nd l i):=by
 have h1:=vR (l:=l.map f) (i:=i) (by simpa using h)
 rw [aje,vR h] at h1
 exact (ajn h1).symm
theorem Sh {f:Int→ak}{l:List Int}{i:Nat}(h:i<l.length):nd (l.map f) i=f (gt l i):=by
 have h1:=vR (l:=l.map f) (i:=i) (by simpa using h)
 rw [aje,cz h] at h1
 exact (ajn h1).symm
theorem PN {l r:List ak}(hl:l.length=r.length)(h:∀k,k<l.length→nd l k=nd r k):l=r:=by
 apply ajG fun k=>?_
 by_cases hk:k<l.length
 ·rw [vR hk,vR (hl ▸ hk),h k hk]
 ·rw [ai8 om,ai8 om]
theorem Gw {m:Nat}{S:List Int}(hn:S.Nodup)(YK:S.length≤8000):∀(f i:Nat) (pl:List Int),S.length - i<f→i≤S.length→(∀s∈S,0≤s∧s<pl.length)→(∀q,q<i→gt pl (gt S q).toNat=q)→
  ∃PO x,aF.l0 m S f pl (i:Int)=some (PO,x)∧PO.length=pl.length∧∀q,q<S.length→gt PO (gt S q).toNat=q
 | 0,i,pl,hf,_,_,_=>absurd hf om
 | f+1,i,pl,hf,hi,hS,hq=>by
  unfold aF.l0
  by_cases h:i<S.length
  ·obtain⟨s0,s1⟩:=hS _ (bC h)
   have hx:∃z,ix pl (gt S i)=some z:=⟨_,iV (k:=(gt S i).toNat) om om⟩
   obtain⟨z,hx⟩:=hx
   obtain⟨PO,x,k1,k2,k3⟩:=Gw (m:=m) hn YK f (i+1) (pl.set (gt S i).toNat (i:Int)) om om (by simpa using hS) (fun q Qg=>by
    rw [iG om]
    by_cases e:q=i
    ·subst e; rw [if_pos rfl]
    ·have hne:gt S q≠gt S i:=fun e2=>e (AP hn om h e2)
     have:=hS _ (bC (l:=S) (k:=q) om)
     rw [if_neg om]; exact hq q om)
   refine⟨PO,x,?_,by simpa using k2,k3⟩
   rw [if_pos dm,er h,aiI,hx,aiI,bL om om,show (i:Int)+1=((i+1:Nat):Int) by omega]
   exact k1
  ·exact⟨pl,_,by rw [if_neg dm],rfl,fun q h=>hq q om⟩
theorem Gx {m:Nat}{S:List Int}(hn:S.Nodup)(YK:S.length≤8000):∀(f i:Nat) (pl:List Int),S.length - i<f→i≤S.length→(∀s∈S,0≤s∧s<pl.length)→(∀q,q<i→gt pl (gt S q).toNat=q)→
  ∃PO x,aF.l5 m S f pl (i:Int)=some (PO,x)∧PO.length=pl.length∧∀q,q<S.length→gt PO (gt S q).toNat=q
 | 0,i,pl,hf,_,_,_=>absurd hf om
 | f+1,i,pl,hf,hi,hS,hq=>by
  unfold aF.l5
  by_cases h:i<S.length
  ·obtain⟨s0,s1⟩:=hS _ (bC h)
   have hx:∃z,ix pl (gt S i)=some z:=⟨_,iV (k:=(gt S i).toNat) om om⟩
   obtain⟨z,hx⟩:=hx
   obtain⟨PO,x,k1,k2,k3⟩:=Gx (m:=m) hn YK f (i+1) (pl.set (gt S i).toNat (i:Int)) om om (by simpa using hS) (fun q Qg=>by
    rw [iG om]
    by_cases e:q=i
    ·subst e; rw [if_pos rfl]
    ·have hne:gt S q≠gt S i:=fun e2=>e (AP hn om h e2)
     have:=hS _ (bC (l:=S) (k:=q) om)
     rw [if_neg om]; exact hq q om)
   refine⟨PO,x,?_,by simpa using k2,k3⟩
   rw [if_pos dm,er h,aiI,hx,aiI,bL om om,show (i:Int)+1=((i+1:Nat):Int) by omega]
   exact k1
  ·exact⟨pl,_,by rw [if_neg dm],rfl,fun q h=>hq q om⟩
theorem KM {m:Nat}{pl:List Int}{n:ak}(h8:n.args.length≤8)(ha:∀a∈n.args,0≤a∧a<pl.length):∀(f k:Nat),n.args.length - k<f→k≤n.args.length→
  ∃x,aF.l2 m pl n f ((n.args.take k).map fun a=>gt pl a.toNat) (k:Int)=some (n.args.map fun a=>gt pl a.toNat,x)
 | 0,k,hf,_=>absurd hf om
 | f+1,k,hf,hk=>by
  unfold aF.l2
  by_cases h:k<n.args.length
  ·obtain⟨a0,a1⟩:=ha _ (bC h)
   have hy:ix pl (gt n.args k)=some (gt pl (gt n.args k).toNat):=iV om om
   have hT:n.args.take (k+1)=n.args.take k++[gt n.args k]:=by rw [ajY,cz h]; rfl
   have ux:app 8 ((n.args.take k).map fun a=>gt pl a.toNat) [gt pl (gt n.args k).toNat]=some ((n.args.take (k+1)).map fun a=>gt pl a.toNat):=by
    unfold app; rw [if_pos (by simp; omega),hT,ai5]; rfl
   obtain⟨x,ih⟩:=KM (m:=m) h8 ha f (k+1) om om
   rw [if_pos dm,er h,aiI,hy,aiI,ux,aiI,bL om om,show (k:Int)+1=((k+1:Nat):Int) by omega]
   exact⟨x,ih⟩
  ·have e:k=n.args.length:=by omega
   subst e
   exact⟨_,by rw [if_neg (by simp),ajr]⟩
theorem KN {m:Nat}{pl:List Int}{n:ak}(h8:n.args.length≤8)(ha:∀a∈n.args,0≤a∧a<pl.length):∀(f k:Nat),n.args.length - k<f→k≤n.args.length→
  ∃x,aF.l7 m pl n f ((n.args.take k).map fun a=>gt pl a.toNat) (k:Int)=some (n.args.map fun a=>gt pl a.toNat,x)
 | 0,k,hf,_=>absurd hf om
 | f+1,k,hf,hk=>by
  unfold aF.l7
  by_cases h:k<n.args.length
  ·obtain⟨a0,a1⟩:=ha _ (bC h)
   have hy:ix pl (gt n.args k)=some (gt pl (gt n.args k).toNat):=iV om om
   have hT:n.args.take (k+1)=n.args.take k++[gt n.args k]:=by rw [ajY,cz h]; rfl
   have ux:app 8 ((n.args.take k).map fun a=>gt pl a.toNat) [gt pl (gt n.args k).toNat]=some ((n.args.take (k+1)).map fun a=>gt pl a.toNat):=by
    unfold app; rw [if_pos (by simp; omega),hT,ai5]; rfl
   obtain⟨x,ih⟩:=KN (m:=m) h8 ha f (k+1) om om
   rw [if_pos dm,er h,aiI,hy,aiI,ux,aiI,bL om om,show (k:Int)+1=((k+1:Nat):Int) by omega]
   exact⟨x,ih⟩
  ·have e:k=n.args.length:=by omega
   subst e
   exact⟨_,by rw [if_neg (by simp),ajr]⟩
theorem KO {m:Nat}(hm:2 ^ 30≤m){l:List ak}{S pl:List Int}(ok:nY l)(hS:∀s∈S,0≤s∧s<l.length)(YK:S.length≤8000)(Eo:pl.length=l.length):∀(f i:Nat),S.length - i<f→i≤S.length→
  ∃x,aF.l1 m l S pl f ((S.take i).map fun s=>pm pl (nd l s)) (i:Int)=some (S.map fun s=>pm pl (nd l s),x)
 | 0,i,hf,_=>absurd hf om
 | f+1,i,hf,hi=>by
  have vM:(2:Nat) ^ 30=1073741824:=by decide
  unfold aF.l1
  by_cases h:i<S.length
  ·obtain⟨s0,s1⟩:=hS _ (bC h)
   obtain⟨n1,n2⟩:=ok.2 _ (jE s0 s1)
   obtain⟨x,q1⟩:=KM (m:=m) (pl:=pl) (n:=nd l (gt S i)) n1 (fun a ha=>by have:=n2 a ha; omega) m 0 om om
   have q1:aF.l2 m pl (nd l (gt S i)) m [] 0=_:=q1
   have hT:S.take (i+1)=S.take i++[gt S i]:=by rw [ajY,cz h]; rfl
   have ux:app 56 ((S.take i).map fun s=>pm pl (nd l s)) [ak.mk (nd l (gt S i)).kind (nd l (gt S i)).int (nd l (gt S i)).label ((nd l (gt S i)).args.map fun a=>gt pl a.toNat)]=some ((S.take (i+1)).map fun s=>pm pl (nd l s)):=by
    unfold app; rw [if_pos (by simp; omega),hT,ai5]; rfl
   obtain⟨x,ih⟩:=KO hm ok hS YK Eo f (i+1) om om
   rw [if_pos dm,er h,aiI,k8 s0 s1,aiI,q1,aiI]
   dsimp only
   rw [ux,aiI,bL om om,show (i:Int)+1=((i+1:Nat):Int) by omega]
   exact⟨x,ih⟩
  ·have e:i=S.length:=by omega
   subst e
   exact⟨_,by rw [if_neg (by simp),ajr]⟩
theorem KP {m:Nat}{P:List ak}{c:List Int}(hc:c.length=P.length){i:Nat}(hi:i<P.length)(h8:(nd P i).args.length≤8)(ha:∀a∈(nd P i).args,0≤a∧a<P.length):∀(f k:Nat),(nd P i).args.length - k<f→k≤(nd P i).args.length→
  ∃x,aF.l4 m c (i:Int) f (P.set i ⟨(nd P i).kind,(nd P i).int,(nd P i).label,(((nd P i).args.take k).map fun a=>gt c a.toNat)++(nd P i).args.drop k⟩) (k:Int)=some (P.set i (pm c (nd P i)),x)
 | 0,k,hf,_=>absurd hf om
 | f+1,k,hf,hk=>by
  unfold aF.l4
  have tw:∀w,ix (P.set i w) (i:Int)=some w:=fun w=>by
   rw [k8 om (by simpa using hi),Ir hi,if_pos rfl]
  have hlen:((((nd P i).args.take k).map fun a=>gt c a.toNat)++(nd P i).args.drop k).length=(nd P i).args.length:=by simp; omega
  rw [tw,aiI]
  by_cases h:k<(nd P i).args.length
  ·have hg:gt ((((nd P i).args.take k).map fun a=>gt c a.toNat)++(nd P i).args.drop k) k=gt (nd P i).args k:=by
    unfold gt
    rw [ai2,ai2,ai0 (by simp; omega)]
    simp only [aiY,ajo,List.getElem?_drop]
    congr 2; omega
   obtain⟨a0,a1⟩:=ha _ (bC h)
   have hx:ix ((((nd P i).args.take k).map fun a=>gt c a.toNat)++(nd P i).args.drop k) (k:Int)=some (gt (nd P i).args k):=by rw [er om,hg]
   have hy:ix c (gt (nd P i).args k)=some (gt c (gt (nd P i).args k).toNat):=iV om om
   have Hl:((((nd P i).args.take k).map fun a=>gt c a.toNat)++(nd P i).args.drop k).set k (gt c (gt (nd P i).args k).toNat)=(((nd P i).args.take (k+1)).map fun a=>gt c a.toNat)++(nd P i).args.drop (k+1):=by
    have hT:(nd P i).args.take (k+1)=(nd P i).args.take k++[gt (nd P i).args k]:=by rw [ajY,cz h]; rfl
    have hD:(nd P i).args.drop k=gt (nd P i).args k::(nd P i).args.drop (k+1):=by
     obtain⟨h4,h5⟩:=aiO.1 (cz h)
     rw [←h5]; exact aiZ h4
    have ID:(((nd P i).args.take k).map fun a=>gt c a.toNat).length=k:=by simp; omega
    rw [ajM _ _ om,ID,ajI,hD,List.set_cons_zero,hT,ai5,ai7]
    rfl
   rw [if_pos dm,aiI,aiI]
   dsimp only
   rw [hx,aiI,hy,aiI,aiI,aiP,aiP,List.set_set,Hl,bL om om,show (k:Int)+1=((k+1:Nat):Int) by omega]
   exact KP hc hi h8 ha f (k+1) om om
  ·have e:k=(nd P i).args.length:=by omega
   subst e
   refine⟨((nd P i).args.length:Int),?_⟩
   rw [if_neg dm,ajr,List.drop_length,ajJ]
   rfl
theorem KQ {m:Nat}(hm:2 ^ 30≤m){P:List ak}{c:List Int}(ok:nY P)(hc:c.length=P.length):∀(f i:Nat) (Q:List ak),P.length - i<f→i≤P.length→Q.length=P.length→(∀q,q<P.length→nd Q q=if q<i then pm c (nd P q) else nd P q)→
  ∃x,aF.l3 m c f Q (i:Int)=some (P.map (pm c),x)
 | 0,i,Q,hf,_,_,_=>absurd hf om
 | f+1,i,Q,hf,hi,hl,hq=>by
  have vM:(2:Nat) ^ 30=1073741824:=by decide
  have h8:=ok.1
  unfold aF.l3
  by_cases h:i<P.length
  ·obtain⟨n1,n2⟩:=Gc ok h
   have Zu:nd Q i=nd P i:=by rw [hq i h,if_neg om]
   obtain⟨x,q1⟩:=KP (m:=m) (P:=Q) (c:=c) om (i:=i) om (by rw [Zu]; exact n1) (by rw [Zu,hl]; exact n2) m 0 (by rw [Zu]; omega) om
   have tw:Q.set i ⟨(nd Q i).kind,(nd Q i).int,(nd Q i).label,(((nd Q i).args.take 0).map fun a=>gt c a.toNat)++(nd Q i).args.drop 0⟩=Q:=by
    refine PN (by simp) fun k hk=>?_
    rw [Ir om]
    by_cases e:k=i
    ·subst e; rw [if_pos rfl]; simp
    ·rw [if_neg e]
   rw [tw] at q1
   have q1:aF.l4 m c (i:Int) m Q 0=_:=q1
   rw [if_pos dm,q1,aiI]
   dsimp only
   rw [bL om om,show (i:Int)+1=((i+1:Nat):Int) by omega]
   refine KQ hm ok hc f (i+1) _ om om (by simpa using hl) fun q NU=>?_
   rw [Ir om]
   by_cases e:q=i
   ·subst e; rw [if_pos rfl,if_pos om,Zu]
   ·rw [if_neg e,hq q NU]
    by_cases hlt:q<i
    ·rw [if_pos hlt,if_pos om]
    ·rw [if_neg hlt,if_neg om]
  ·have e:i=P.length:=by omega
   subst e
   refine⟨(P.length:Int),?_⟩
   rw [if_neg dm]
   have:Q=P.map (pm c):=PN (by simpa using hl) fun k hk=>by rw [hq k om,if_pos om,PM om]
   rw [this]
theorem PQ {m:Nat}(hm:2 ^ 30≤m){P:List ak}{T pl:List Int}(ok:nY P)(hT:∀t∈T,0≤t∧t<P.length)(hTl:T.length≤8000)(Eo:P.length≤pl.length):∀(f i:Nat),T.length - i<f→i≤T.length→
  ∃x,aF.l6 m P T pl f (i:Int) ((T.take i).map fun t=>pm pl (nd P t)) 0=some (x,T.map fun t=>pm pl (nd P t),0)
 | 0,i,hf,_=>absurd hf om
 | f+1,i,hf,hi=>by
  have vM:(2:Nat) ^ 30=1073741824:=by decide
  unfold aF.l6
  by_cases h:i<T.length
  ·obtain⟨s0,s1⟩:=hT _ (bC h)
   obtain⟨n1,n2⟩:=ok.2 _ (jE s0 s1)
   obtain⟨x,q1⟩:=KN (m:=m) (pl:=pl) (n:=nd P (gt T i)) n1 (fun a ha=>by have:=n2 a ha; omega) m 0 om om
   have q1:aF.l7 m pl (nd P (gt T i)) m [] 0=_:=q1
   have hTk:T.take (i+1)=T.take i++[gt T i]:=by rw [ajY,cz h]; rfl
   have ux:app 56 ((T.take i).map fun t=>pm pl (nd P t)) [ak.mk (nd P (gt T i)).kind (nd P (gt T i)).int (nd P (gt T i)).label ((nd P (gt T i)).args.map fun a=>gt pl a.toNat)]=some ((T.take (i+1)).map fun t=>pm pl (nd P t)):=by
    unfold app; rw [if_pos (by simp; omega),hTk,ai5]; rfl
   obtain⟨x,ih⟩:=PQ hm ok hT hTl Eo f (i+1) om om
   rw [if_pos dm,er h,aiI,k8 s0 s1,aiI,q1,aiI]
   dsimp only
   rw [ux,aiI,bL om om,show (i:Int)+1=((i+1:Nat):Int) by omega]
   exact⟨x,ih⟩
  ·have e:i=T.length:=by omega
   subst e
   exact⟨_,by rw [if_neg (by simp),ajr]⟩
inductive Way (l:List ak):Nat→Nat→Prop
 | one {i k:Nat}:k<na l i→Way l i (ar l i k)
 | more {i j k:Nat}:Way l i j→k<na l j→Way l i (ar l j k)
theorem Si {l:List ak}{c od:List Int}(ok:nY l)(M:VF l c od){i j:Nat}(w:Way l i j)(hi:i<l.length):j<l.length∧∀x:Nat,x<l.length→(x:Int)∈od→gt c x=gt c i→∃y:Nat,y<l.length∧gt c y=gt c j∧(y:Int)∈od∧od.idxOf (y:Int)<od.idxOf (x:Int):=by
 induction w with
 | @one k hk=>
  refine⟨(oy ok hi hk).1,fun x hx YL e=>?_⟩
  have hA:=M.min.top i x hi hx e.symm
  have hkx:k<na l x:=by have:=hA.len; unfold na at *; omega
  obtain⟨r1,r2⟩:=M.BC x YL k hkx
  exact⟨ar l x k,(oy ok hx hkx).1,(M.min.arg i x hi hx e.symm k hk).symm,r1,r2⟩
 | @more j k w hk ih=>
  obtain⟨hj,ih⟩:=ih
  refine⟨(oy ok hj hk).1,fun x hx YL e=>?_⟩
  obtain⟨y,hy,ey,hyo,hlt⟩:=ih x hx YL e
  have hA:=M.min.top j y hj hy ey.symm
  have hky:k<na l y:=by have:=hA.len; unfold na at *; omega
  obtain⟨r1,r2⟩:=M.BC y hyo k hky
  exact⟨ar l y k,(oy ok hy hky).1,(M.min.arg j y hj hy ey.symm k hk).symm,r1,om⟩
theorem Is {l:List ak}{c od:List Int}(ok:nY l)(M:VF l c od)(h0:0<l.length)(hw:∀j,0<j→j<l.length→Way l 0 j):gt c 0=0:=by
 obtain⟨r1,r2,r3⟩:=M.vX 0 h0
 by_cases hod:((0:Nat):Int)∈od
 ·by_cases hz:gt c 0=0
  ·exact hz
  ·exfalso
   have w:=hw (gt c 0).toNat om om
   have key:∀N x:Nat,od.idxOf (x:Int)<N→x<l.length→(x:Int)∈od→gt c x=gt c 0→False:=by
    intro N
    induction N with
    | zero=>intro x h; omega
    | succ N ih=>
     intro x hN hx YL e
     obtain⟨y,hy,ey,hyo,hlt⟩:=(Si ok M w h0).2 x hx YL e
     exact ih y om hy hyo (by rw [ey,r3])
   exact key _ 0 (ajz _) h0 hod rfl
 ·have:=M.big 0 h0 hod
  omega
theorem lock {l P5:List ak}{κ1:Int→Int}{K2:Int→Int}{Can:Int→Prop}(acL:∀v w,Can v→Can w→K2 v=K2 w→v=w)
  (hargs:∀a v:Int,0≤a→a<l.length→Can v→κ1 a=K2 v→(nd l a).args.map κ1=(nd P5 v).args.map K2) (acM:∀v,Can v→∀a∈(nd P5 v).args,Can a) (ok:nY l) {mB o2 Qn:List Int}
  (h:AW id (fun v=>(nd P5 v).args) mB o2 Qn):∀uK o1:List Int,uK.map κ1=mB.map K2→o1.map κ1=o2.map K2→(∀b∈mB,Can b)→(∀b∈o2,Can b)→(∀a∈uK,0≤a∧a<l.length)→
  ∃Wl,AW κ1 (fun v=>(nd l v).args) uK o1 Wl∧Wl.map κ1=Qn.map K2:=by
 induction h with
 | nil o=>
  intro uK o1 hs ho _ _ _
  have:uK=[]:=by simpa using hs
  subst this
  exact⟨o1,.nil o1,ho⟩
 | @skip v st o o' hm _ ih=>
  intro uK o1 hs ho c1 c2 hr
  cases uK with
  | nil=>simp at hs
  | cons a uK=>
   simp only [ai9,List.cons.injEq] at hs
   obtain⟨Wl,k1,k2⟩:=ih uK o1 hs.2 ho (fun b hb=>c1 b (by simp [hb])) c2 (fun x hx=>hr x (by simp [hx]))
   refine⟨Wl,.skip ?_ k1,k2⟩
   rw [hs.1,ho]
   exact ajc.2 ⟨v,by simpa using hm,rfl⟩
 | @push v st o o' hn _ ih=>
  intro uK o1 hs ho c1 c2 hr
  cases uK with
  | nil=>simp at hs
  | cons a uK=>
   simp only [ai9,List.cons.injEq] at hs
   have hv:=c1 v (by simp)
   have ha:=hr a (by simp)
   have e:=hargs a v ha.1 ha.2 hv hs.1
   obtain⟨Wl,k1,k2⟩:=ih ((nd l a).args++uK) (o1++[a]) (by rw [ai5,ai5,e,hs.2]) (by rw [ai5,ai5,ho]; simp [hs.1]) (fun b hb=>by
    rcases ai3.1 hb with hb | hb
    ·exact acM v hv b hb
    ·exact c1 b (by simp [hb])) (fun b hb=>by
    rcases ai3.1 hb with hb | hb
    ·exact c2 b hb
    ·rw [aiU] at hb; subst hb; exact hv) (fun x hx=>by
    rcases ai3.1 hx with hx | hx
    ·exact (ok.2 _ (jE ha.1 ha.2)).2 x hx
    ·exact hr x (by simp [hx]))
   refine⟨Wl,.push ?_ k1,k2⟩
   rw [hs.1,ho]
   intro hm
   obtain⟨w,w1,w2⟩:=ajc.1 hm
   have:=acL v w hv (c2 w w1) w2.symm
   subst this
   exact hn (by simpa using w1)
theorem Gy {m:Nat}(hm:2 ^ 41≤m){t:bh}(h:iH t=true):∃s,fM.f m t=some s∧aF.f m t.nodes t.root=some s:=by
 have vM:(2:Nat) ^ 30=1073741824:=by decide
 have yG:(2:Nat) ^ 41=2199023255552:=by decide
 have Me:2 ^ 30≤m:=by omega
 obtain⟨ok,h1,r0,r1,hT⟩:=lF h
 obtain⟨r,ns,e1,M,Q,_⟩:=qJ hm h
 have h8:=ok.1
 generalize hl:t.nodes=l at *
 have acN:AW (iL r) (fun v=>(nd l v).args) [t.root] [] (xQ r l m t.root []):=vN ok m t.root [] [] _ r0 r1 ⟨by simp,fun x hx=>by cases hx⟩ (by simp; omega) (.nil _)
 obtain⟨S,s1,s2⟩:=vO Me ok r0 r1
 have hA:∀v:Int,0≤v→v<l.length→∀a∈(nd l v).args,0≤a∧a<l.length:=fun v a b=>(ok.2 _ (jE a b)).2
 obtain⟨_,Sr,Sn,_,Sc⟩:=s2.facts hA (fun v hv=>by rw [aiU] at hv; subst hv; exact⟨r0,r1⟩) (fun v hv=>by cases hv) (by simp)
 rw [List.map_id] at Sn
 have Sc:∀v∈S,∀a∈(nd l v).args,a∈S:=fun v hv a ha=>by have:=Sc (fun v hv=>by cases hv) v hv a ha; simpa using this
 have S0:∃T,S=t.root::T:=by
  cases s2 with
  | skip IX _=>simp at IX
  | push _ k=>
   obtain⟨⟨T,e⟩,_⟩:=k.facts hA (fun v hv=>by
    rcases ai3.1 hv with hv | hv
    ·exact hA _ r0 r1 v hv
    ·cases hv) (fun v hv=>by simp at hv; subst hv; exact⟨r0,r1⟩) (by simp)
   exact⟨T,by simpa using e⟩
 have Sl:S.length≤l.length:=nS Sn Sr
 have Sp:0<S.length:=by obtain⟨T,rfl⟩:=S0; simp
 have Tz:gt S 0=t.root:=by obtain⟨T,rfl⟩:=S0; rfl
 have YM:=s2.from (root:=t.root) (fun v hv=>by rw [aiU] at hv; exact .inl hv) (fun i hi=>absurd hi (by simp))
 have e0:sY 8 (l.length:Int) (0:Int)=some (ai1 l.length 0):=by unfold sY; rw [if_pos ⟨om,by rw [aiP]; omega⟩,aiP]
 obtain⟨pl,x1,p1,p2,p3⟩:=Gw (m:=m) Sn om m 0 (ai1 l.length 0) om om (by simpa using Sr) (fun q hq=>absurd hq om)
 rw [ake] at p2
 have p1:aF.l0 m S m (ai1 l.length 0) 0=_:=p1
 obtain⟨x2,p4⟩:=KO Me ok Sr om p2 m 0 om om
 have p4:aF.l1 m l S pl m [] 0=_:=p4
 generalize hP1:(S.map fun s=>pm pl (nd l s))=P1 at p4
 have Zv:P1.length=S.length:=by rw [←hP1]; simp
 have TA:∀i:Nat,i<S.length→nd P1 i=pm pl (nd l (gt S i)):=fun i hi=>by rw [←hP1,Sh hi]
 have Zw:∀{x:Int},x∈S→gt S (gt pl x.toNat).toNat=x∧0≤gt pl x.toNat∧gt pl x.toNat<S.length:=fun hx=>by
  obtain⟨q,hq,e⟩:=jd hx
  have:=p3 q hq
  rw [e] at this
  rw [this,aiP]; exact⟨e,om,om⟩
 have acP:∀i:Nat,i<S.length→∀a∈(nd l (gt S i)).args,a∈S:=fun i hi=>Sc _ (bC hi)
 have MD:nY P1:=by
  refine⟨om,fun n hn=>?_⟩
  rw [←hP1] at hn
  obtain⟨s,hs,rfl⟩:=ajc.1 hn
  have hr:=Sr s hs
  refine⟨by simpa [pm] using (ok.2 _ (jE hr.1 hr.2)).1,fun a ha=>?_⟩
  obtain⟨x,hx,rfl⟩:=ajc.1 ha
  have:=Zw (Sc s hs x hx)
  rw [Zv]; exact this.2
 obtain⟨c,od,c1,C⟩:=Gv Me MD
 have cl:c.length=P1.length:=C.min.len
 have na1:∀i:Nat,i<S.length→na P1 i=na l (gt S i).toNat:=fun i hi=>by
  have:=Sr _ (bC hi)
  unfold na
  rw [TA i hi]
  show ((nd l (gt S i)).args.map _).length=_
  rw [aiY,show (((gt S i).toNat:Nat):Int)=gt S i by omega]
 have YN:∀i:Nat,i<S.length→∀k,k<na P1 i→gt S (ar P1 i k)=gt (nd l (gt S i)).args k:=fun i hi k hk=>by
  have wk:k<(nd l (gt S i)).args.length:=by
   have:=hk; unfold na at this; rw [TA i hi] at this; simpa [pm] using this
  have hx:=acP i hi _ (bC wk)
  have:gt (nd P1 i).args k=gt pl (gt (nd l (gt S i)).args k).toNat:=by
   rw [TA i hi]
   have h1:=cz (l:=(pm pl (nd l (gt S i))).args) (k:=k) (by simpa [pm] using wk)
   have h2:(pm pl (nd l (gt S i))).args[k]? = some (gt pl (gt (nd l (gt S i)).args k).toNat):=by
    show ((nd l (gt S i)).args.map _)[k]? = _
    rw [aje,cz wk]; rfl
   rw [h2] at h1; exact (ajn h1).symm
  unfold ar
  rw [this]
  exact (Zw hx).1
 have way:∀j,0<j→j<P1.length→Way P1 0 j:=by
  have:∀N j,j<N→0<j→j<P1.length→Way P1 0 j:=by
   intro N
   induction N with
   | zero=>intro j h; omega
   | succ N ih=>
    intro j hN hj hjl
    rcases YM j om with e | ⟨q,hq,IX⟩
    ·have:=AP Sn om Sp (e.trans Tz.symm)
     omega
    ·obtain⟨k,hk,e⟩:=jd IX
     have MV:k<na P1 q:=by unfold na; rw [TA q om]; simpa [pm] using hk
     have h2:=YN q om k MV
     rw [e] at h2
     have h3:=(oy MD (i:=q) om MV).1
     have e4:ar P1 q k=j:=AP Sn om om h2
     rw [←e4]
     by_cases hq0:q=0
     ·subst hq0; exact .one MV
     ·exact .more (ih q om om om) MV
  exact fun j=>this (j+1) j (ajz _)
 have c00:gt c 0=0:=Is MD C om way
 have Gz:∀i:Nat,i<S.length→(((gt S i).toNat:Nat):Int)=gt S i∧(gt S i).toNat<l.length:=fun i hi=>by have:=Sr _ (bC hi); omega
 have al1:∀i j:Nat,i<S.length→j<S.length→(Alike (nd P1 i) (nd P1 j)↔Alike (nd l (gt S i)) (nd l (gt S j))):=fun i j hi hj=>by
  rw [TA i hi,TA j hj]
  constructor
  ·intro z; exact⟨z.kind,z.int,z.label,by have:=z.len; simpa [pm] using this⟩
  ·intro z; exact⟨z.kind,z.int,z.label,by have:=z.len; simpa [pm] using this⟩
 have cr:∀i j:Nat,i<S.length→j<S.length→(gt c i=gt c j↔gt r (gt S i).toNat=gt r (gt S j).toNat):=fun i j hi hj=>by
  constructor
  ·intro e
   refine M.max (fun a b=>∃i j:Nat,i<S.length∧j<S.length∧a=(gt S i).toNat∧b=(gt S j).toNat∧gt c i=gt c j) ⟨?_,?_,?_⟩ _ _ ⟨i,j,hi,hj,rfl,rfl,e⟩
   ·rintro a b ⟨i,j,hi,hj,rfl,rfl,_⟩
    exact⟨(Gz i hi).2,(Gz j hj).2⟩
   ·rintro a b ⟨i,j,hi,hj,rfl,rfl,e⟩
    rw [(Gz i hi).1,(Gz j hj).1]
    exact (al1 i j hi hj).1 (C.min.top i j om om e)
   ·rintro a b ⟨i,j,hi,hj,rfl,rfl,e⟩ k hk
    rw [(Gz i hi).1] at hk ⊢
    rw [(Gz j hj).1]
    have yN:k<na P1 i:=by rw [na1 i hi]; unfold na; rw [(Gz i hi).1]; exact hk
    have Wh:k<na P1 j:=by have:=(C.min.top i j om om e).len; unfold na at *; omega
    have a1:=(oy MD (i:=i) om yN).1
    have a2:=(oy MD (i:=j) om Wh).1
    refine⟨ar P1 i k,ar P1 j k,om,om,?_,?_,C.min.arg i j om om e k yN⟩
    ·rw [YN i hi k yN]
    ·rw [YN j hj k Wh]
  ·intro e
   refine C.min.max (fun a b=>a<S.length∧b<S.length∧gt r (gt S a).toNat=gt r (gt S b).toNat) ⟨?_,?_,?_⟩ i j ⟨hi,hj,e⟩
   ·rintro a b ⟨h1,h2,_⟩; omega
   ·rintro a b ⟨h1,h2,e⟩
    refine (al1 a b h1 h2).2 ?_
    have:=M.top _ _ (Gz a h1).2 (Gz b h2).2 e
    rwa [(Gz a h1).1,(Gz b h2).1] at this
   ·rintro a b ⟨h1,h2,e⟩ k hk
    have hA:=M.top _ _ (Gz a h1).2 (Gz b h2).2 e
    have Q9:k<na P1 a:=hk
    have Qv:k<(nd l (((gt S a).toNat:Nat):Int)).args.length:=by have:=na1 a h1; unfold na at this Q9; omega
    have hkb:k<na P1 b:=by rw [na1 b h2]; have:=hA.len; unfold na; omega
    have g:=M.arg _ _ (Gz a h1).2 (Gz b h2).2 e k Qv
    rw [(Gz a h1).1,(Gz b h2).1] at g
    have a1:=(oy MD (i:=a) om Q9).1
    have a2:=(oy MD (i:=b) om hkb).1
    refine⟨by show ar P1 a k<_; omega,by show ar P1 b k<_; omega,?_⟩
    show gt r (gt S (ar P1 a k)).toNat=gt r (gt S (ar P1 b k)).toNat
    rw [YN a h1 k Q9,YN b h2 k hkb]; exact g
 obtain⟨x3,p5⟩:=KQ Me MD cl m 0 P1 om om rfl (fun q hq=>by rw [if_neg om])
 have p5:aF.l3 m c m P1 0=_:=p5
 have P5n:∀i:Nat,i<S.length→nd (P1.map (pm c)) i=pm c (nd P1 i):=fun i hi=>PM om
 have VI:∀i:Nat,i<S.length→0≤gt c i∧gt c i<S.length∧gt c (gt c i).toNat=gt c i:=fun i hi=>by have:=C.vX i om; rw [Zv] at this; exact this
 have ok5:nY (P1.map (pm c)):=by
  refine⟨by simp; omega,fun n hn=>?_⟩
  obtain⟨n1,M9,rfl⟩:=ajc.1 hn
  obtain⟨q1,q2⟩:=MD.2 n1 M9
  refine⟨by simpa [pm] using q1,fun a ha=>?_⟩
  obtain⟨x,hx,rfl⟩:=ajc.1 ha
  have:=q2 x hx
  have:=VI x.toNat om
  rw [aiY,Zv]; omega
 obtain⟨T,t1,t2⟩:=vO Me ok5 (root:=0) om (by simp; omega)
 generalize hP5:P1.map (pm c)=P5 at *
 have P5l:P5.length=S.length:=by rw [←hP5]; simp [Zv]
 have hA5:∀v:Int,0≤v→v<P5.length→∀a∈(nd P5 v).args,0≤a∧a<P5.length:=fun v a b=>(ok5.2 _ (jE a b)).2
 obtain⟨_,Tr,Tn,_,Tc⟩:=t2.facts hA5 (fun v hv=>by rw [aiU] at hv; subst hv; omega) (fun v hv=>by cases hv) (by simp)
 rw [List.map_id] at Tn
 have Tc:∀v∈T,∀a∈(nd P5 v).args,a∈T:=fun v hv a ha=>by have:=Tc (fun v hv=>by cases hv) v hv a ha; simpa using this
 have Tl:T.length≤P5.length:=nS Tn Tr
 obtain⟨pl3,x4,p6,p7,p8⟩:=Gx (m:=m) Tn om m 0 pl om om (fun s hs=>by have:=Tr s hs; omega) (fun q hq=>absurd hq om)
 have p6:aF.l5 m T m pl 0=_:=p6
 obtain⟨x5,p9⟩:=PQ (m:=m) Me ok5 Tr om (pl:=pl3) om m 0 om om
 have p9:aF.l6 m P5 T pl3 m 0 [] 0=_:=p9
 let K2:Int→Int:=fun b=>iL r (gt S b.toNat)
 let Can:Int→Prop:=fun b=>0≤b∧b<S.length∧gt c b.toNat=b
 have K2c:∀x:Int,x∈S→K2 (gt c (gt pl x.toNat).toNat)=iL r x:=fun x hx=>by
  obtain⟨i1,i2,i3⟩:=Zw hx
  obtain⟨g1,g2,g3⟩:=VI (gt pl x.toNat).toNat om
  show iL r (gt S (gt c (gt pl x.toNat).toNat).toNat)=_
  have:=(cr (gt c (gt pl x.toNat).toNat).toNat (gt pl x.toNat).toNat om om).1 g3
  unfold iL
  rw [this,i1]
 have KR:∀v:Int,0≤v→v<S.length→(nd P5 v).args=(nd l (gt S v.toNat)).args.map fun x=>gt c (gt pl x.toNat).toNat:=fun v v0 v1=>by
  have:=P5n v.toNat om
  rw [show ((v.toNat:Nat):Int)=v by omega] at this
  rw [this]
  have h2:=TA v.toNat om
  rw [show ((v.toNat:Nat):Int)=v by omega] at h2
  rw [h2]
  show ((nd l (gt S v.toNat)).args.map _).map _=_
  rw [List.map_map]; rfl
 have same:∀a b:Int,0≤a→a<l.length→0≤b→b<l.length→iL r a=iL r b→Alike (nd l a) (nd l b)∧(nd l a).args.map (iL r)=(nd l b).args.map (iL r):=fun a b a0 a1 b0 b1 e=>by
  have ea:((a.toNat:Nat):Int)=a:=by omega
  have eb:((b.toNat:Nat):Int)=b:=by omega
  have e:gt r a.toNat=gt r b.toNat:=e
  have hA:=M.top a.toNat b.toNat om om e
  have hg:=M.arg a.toNat b.toNat om om e
  rw [ea,eb] at hA hg
  refine⟨hA,ajG fun k=>?_⟩
  simp only [aje]
  by_cases hk:k<(nd l a).args.length
  ·rw [cz hk,cz (by have:=hA.len; omega)]
   simp only [aiR,aiL]
   exact hg k hk
  ·rw [ai8 om,ai8 (by have:=hA.len; omega)]
 obtain⟨o1,q1,q2⟩:=lock (l:=l) (P5:=P5) (κ1:=iL r) (K2:=K2) (Can:=Can) (fun v w hv hw e=>by
   have:=(cr v.toNat w.toNat (by have:=hv.1; have:=hv.2.1; omega) (by have:=hw.1; have:=hw.2.1; omega)).2 e
   rw [hv.2.2,hw.2.2] at this; exact this) (fun a v a0 a1 hv e=>by
   have hS:=bC (l:=S) (k:=v.toNat) (by have:=hv.1; have:=hv.2.1; omega)
   have hr:=Sr _ hS
   rw [(same a _ a0 a1 hr.1 hr.2 e).2,KR v hv.1 hv.2.1,List.map_map]
   refine aj0 fun x hx=>?_
   exact (K2c x (Sc _ hS x hx)).symm) (fun v hv a ha=>by
   rw [KR v hv.1 hv.2.1] at ha
   obtain⟨x,hx,rfl⟩:=ajc.1 ha
   have hS:=bC (l:=S) (k:=v.toNat) (by have:=hv.1; have:=hv.2.1; omega)
   have:=Zw (Sc _ hS x hx)
   exact VI (gt pl x.toNat).toNat om) ok t2 [t.root] [] (by
   show [iL r t.root]=[iL r (gt S 0)]; rw [Tz]) rfl (fun b hb=>by
   rw [aiU] at hb; subst hb
   exact⟨om,om,c00⟩) (fun b hb=>by cases hb) (fun a ha=>by rw [aiU] at ha; subst ha; exact⟨r0,r1⟩)
 have eo:=q1.det acN
 rw [eo] at q2
 generalize hO:xQ r l m t.root []=O at *
 have OT:O.length=T.length:=by have:=congrArg List.length q2; simpa using this
 have OK:∀k,k<T.length→iL r (gt O k)=K2 (gt T k):=fun k hk=>by
  have:=congrArg (fun z=>z[k]?) q2
  simp only [aje] at this
  rw [cz om,cz hk] at this
  simpa using this
 have hns:ns=T.map fun v=>pm pl3 (nd P5 v):=by
  have hlen:=Q.len
  apply ajG fun k=>?_
  by_cases hk:k<T.length
  ·rw [Q.new k (by simp) om,aje,cz hk]
   simp only [aiR,aiL]
   have hOr:=Q.vs.ti _ (bC (l:=O) (k:=k) om)
   have hTr:=Tr _ (bC hk)
   have hS:=bC (l:=S) (k:=(gt T k).toNat) om
   have hSr:=Sr _ hS
   obtain⟨hA,hM⟩:=same _ _ hOr.1 hOr.2 hSr.1 hSr.2 (OK k hk)
   have VJ:(nd P5 (gt T k)).kind=(nd l (gt S (gt T k).toNat)).kind∧(nd P5 (gt T k)).int=(nd l (gt S (gt T k).toNat)).int∧(nd P5 (gt T k)).label=(nd l (gt S (gt T k).toNat)).label:=by
    have:=P5n (gt T k).toNat om
    rw [show (((gt T k).toNat:Nat):Int)=gt T k by omega] at this
    rw [this]
    have h2:=TA (gt T k).toNat om
    rw [show (((gt T k).toNat:Nat):Int)=gt T k by omega] at h2
    rw [h2]
    exact⟨rfl,rfl,rfl⟩
   unfold BA pm
   rw [hA.kind,hA.int,hA.label,VJ.1,VJ.2.1,VJ.2.2]
   congr 1
   rw [KR _ hTr.1 om,List.map_map]
   apply ajG fun j=>?_
   simp only [aje]
   by_cases hj:j<(nd l (gt O k)).args.length
   ·have Hs:j<(nd l (gt S (gt T k).toNat)).args.length:=by have:=hA.len; omega
    rw [cz hj,cz Hs]
    simp only [aiR,aiL,Function.comp]
    have ex:iL r (gt (nd l (gt O k)).args j)=iL r (gt (nd l (gt S (gt T k).toNat)).args j):=by
     have:=congrArg (fun z=>z[j]?) hM
     simp only [aje] at this
     rw [cz hj,cz Hs] at this
     simpa using this
    have hin:gt c (gt pl (gt (nd l (gt S (gt T k).toNat)).args j).toNat).toNat∈T:=by
     refine Tc _ (bC hk) _ ?_
     rw [KR _ hTr.1 om]
     exact ajc.2 ⟨_,bC Hs,rfl⟩
    obtain⟨q,hq,eq⟩:=jd hin
    have hp8:=p8 q hq
    rw [eq] at hp8
    rw [hp8]
    unfold idx
    have Ie:=Q.vs.Qm
    have hget:(O.map (iL r))[q]? = some (iL r (gt (nd l (gt O k)).args j)):=by
     rw [aje,cz om]
     simp only [aiR,aiL]
     rw [OK q hq,eq,K2c _ (Sc _ hS _ (bC Hs)),ex]
    obtain⟨g1,g2⟩:=aiO.1 hget
    rw [←g2,Ie.idxOf_getElem]
   ·rw [ai8 om,ai8 (by have:=hA.len; omega)]
    rfl
  ·rw [ai8 om,ai8 (by simp; omega)]
 refine⟨⟨ns,0⟩,e1,?_⟩
 unfold aF.f
 rw [s1,aiI,e0,aiI,p1,aiI]
 dsimp only
 rw [p4,aiI]
 dsimp only
 rw [c1,aiI,p5,aiI]
 dsimp only
 rw [t1,aiI,p6,aiI]
 dsimp only
 rw [p9,aiI,hns]
theorem It {m:Nat}(hm:2 ^ 41≤m){t:bh}(h0:Ok0 t):∃s e,gT.f m t=some (s,e)∧gZ.f m t=some (s,e)∧(e=0→Tu s)∧(e=0↔iH t=true)∧(e≠0→e=2∧s=⟨[],0⟩):=by
 have vM:(2:Nat) ^ 30=1073741824:=by decide
 have yG:(2:Nat) ^ 41=2199023255552:=by decide
 unfold gT.f gZ.f
 rw [qH om,xU om,aiI,aiI]
 cases h:iH t with
 | false=>exact⟨_,_,rfl,rfl,fun h=>absurd h (by decide),by simp,fun _=>⟨rfl,rfl⟩⟩
 | true=>
  obtain⟨s,k1,k2⟩:=Gy hm h
  obtain⟨s',k3,L⟩:=L8 hm h h0
  rw [k1] at k3
  cases k3
  rw [if_neg (by simp),if_neg (by simp),k1,k2]
  exact⟨_,_,rfl,rfl,fun _=>L,by simp,fun h=>absurd rfl h⟩
end Go.Proofs.YtifafejidnjckaaGreat
namespace Go.Proofs.YtifafejidnjckaaGreat
open Go Go.R Go.Uf
open Go.IntKind (i64 u64 u8 u32)
structure jm (s:ae)(t:aj):Prop where
 made:t.aE=true
 nodes:t.ah=s.aa
 bG:t.ao=gE s
section
variable {m:Nat}{s:ae}{t:aj}
theorem jm.has (M:jm s t)(n:Int):cU.f m t n=some (decide (Rg s.aa.length n)):=by
 unfold cU.f
 rw [M.nodes]
 by_cases h:0≤n
 ·rw [if_pos (by simpa using h)]
  congr 1
  unfold Rg
  by_cases h2:n<s.aa.length<;>simp [h,h2]
 ·rw [if_neg (by simpa using h)]
  congr 1
  unfold Rg
  simp [h]
theorem jm.l8 (M:jm s t):ca.f m t=some true:=by
 unfold ca.f; rw [M.made]
theorem VK (M:jm s t)(n:Int):gA.f m t n=some (if Rg s.aa.length n then (rp s.an n,0) else (0,1)):=by
 unfold gA.f
 rw [M.l8,aiI,if_neg (by decide),M.has,aiI,M.bG]
 by_cases h:Rg s.aa.length n
 ·rw [if_neg (by simp [h]),qL h,if_pos h]; rfl
 ·rw [if_pos (by simp [h]),if_neg h]
theorem Cz (v:Inv s)(M:jm s t){x:ak}(h8:x.args.length≤8)(hr:∀a∈x.args,Rg s.aa.length a):∀(k i:Nat),i≤x.args.length→x.args.length - i<k→
  bJ.l0 m t x k ((x.args.take i).map (rp s.an)) (i:Int)=some (x.args.map (rp s.an),(x.args.length:Int))
 | 0,i,h1,h2=>by omega
 | k+1,i,h1,h2=>by
  simp only [bJ.l0]
  by_cases hi:i<x.args.length
  ·have d:decide ((i:Int)<(x.args.length:Int))=true:=by rw [decide_eq_true_eq]; omega
   have eg:=aiN hi
   have et:x.args.take (i+1)=x.args.take i++[x.args[i]]:=ajb hi
   generalize x.args[i]=a at eg et
   have ew:i64.wrap ((i:Int)+1)=((i+1:Nat):Int):=by rw [kh om om]; omega
   rw [if_pos d,tJ eg,aiI,M.bG,qL (hr a (aiS eg)),aiI,nX (by simp only [aiY,ajo,aiX,ai4]; omega),aiI,ew]
   have:=Cz v M h8 hr k (i+1) om om
   rw [et,ai5] at this
   exact this
  ·have d:decide ((i:Int)<(x.args.length:Int))=false:=by rw [decide_eq_false_iff_not]; omega
   have e:i=x.args.length:=by omega
   rw [if_neg (by rw [d]; decide),e,ajr]
theorem A5 (hm:16000≤m)(v:Inv s)(M:jm s t){n:Int}(h:Rg s.aa.length n):bJ.f m t n=some (nT s (rp s.an n)):=by
 have h2:=v.cn.rg n h
 obtain⟨n8,nR⟩:=v.args _ (iF h2)
 have:=Cz (m:=m) v M n8 nR m 0 (ajm _) om
 have this:bJ.l0 m t (dI s.aa (rp s.an n)) m [] 0=_:=this
 unfold bJ.f
 rw [M.bG,qL h,aiI,M.nodes,mS h2,aiI,this]
 rfl
theorem PR (hm:16000≤m)(v:Inv s)(M:jm s t)(n:Int):fh.f m t n=some (if Rg s.aa.length n then (nT s (rp s.an n),0) else (⟨0,0,⟨#[]⟩,[]⟩,1)):=by
 unfold fh.f
 rw [M.l8,aiI,if_neg (by decide),M.has,aiI]
 by_cases h:Rg s.aa.length n
 ·rw [if_neg (by simp [h]),A5 hm v M h,if_pos h]; rfl
 ·rw [if_pos (by simp [h]),if_neg h]
theorem KS (M:jm s t):eT.f m t=some (s.aa.length:Int):=by
 unfold eT.f
 rw [M.l8,aiI,if_neg (by decide),M.nodes]
theorem GA {x:ak}(h8:x.args.length≤8):∀(f i:Nat) (st:List Int),i<f→i≤x.args.length→st.length+i≤1000000→
  ∃z,aY.l1 m x f st ((i:Int) - 1)=some (st++(x.args.take i).reverse,z)
 | 0,i,st,hf,_,_=>absurd hf om
 | f+1,0,st,hf,hi,hs=>by
  unfold aY.l1
  rw [if_neg (by simp)]
  exact⟨_,by simp; rfl⟩
 | f+1,i+1,st,hf,hi,hs=>by
  have ei:((i+1:Nat):Int) - 1=(i:Int):=by omega
  have ew:i64.wrap ((i:Int) - 1)=(i:Int) - 1:=bL om om
  have ux:app 8 st [gt x.args i]=some (st++[gt x.args i]):=by unfold app; rw [if_pos (by simp; omega)]
  obtain⟨z,ih⟩:=GA h8 f i (st++[gt x.args i]) om om (by simp; omega)
  refine⟨z,?_⟩
  unfold aY.l1
  rw [ei,if_pos (by simp),er om,aiI,ux,aiI,ew,ih]
  rw [ajY,cz om]
  simp
structure Ld (s:ae)(r:Int)(met:List Bool)(o st:List Int):Prop where
 ml:met.length=s.aa.length
 mt:∀i,i<s.aa.length→(gb met i=true↔(i:Int)∈o)
 nd:o.Nodup
 rt:∀x∈o,Rg s.aa.length x∧rp s.an x=x∧Se s.aa (rp s.an) r x
 sk:∀x∈st,Rg s.aa.length x∧rp s.an x=x∧Se s.aa (rp s.an) r x
 cl:∀x∈o,∀a∈(dI s.aa x).args,rp s.an a∈o∨rp s.an a∈st
 hd:o=[]∧st=[r]∨o[0]? = some r
theorem A6 (hm:2 ^ 30≤m)(v:Inv s)(M:jm s t){r:Int}:∀(f:Nat) (met:List Bool) (o st:List Int),st.length+9*(s.aa.length - o.length)<f→st.length+9*(s.aa.length - o.length)≤100000→Ld s r met o st→
  ∃Eh o',aY.l0 m t f met o st.reverse=some (Eh,o',[])∧Reach s r o'
 | 0,met,o,st,hf,_,_=>absurd hf om
 | f+1,met,o,[],hf,hb,L=>by
  unfold aY.l0
  rw [if_neg (by simp)]
  refine⟨met,o,rfl,⟨L.nd,L.rt,?_⟩,fun x hx a ha=>(L.cl x hx a ha).resolve_right (by simp)⟩
  rcases L.hd with⟨_,h⟩| h
  ·cases h
  ·exact h
 | f+1,met,o,x::st,hf,hb,L=>by
  have vM:(2:Nat) ^ 30=1073741824:=by decide
  obtain⟨x1,x2,x3⟩:=L.sk x (by simp)
  have RY:=nS L.nd fun y hy=>(L.rt y hy).1
  have hx0:=x1.1
  have hx9:=x1.2
  have Vx:((x.toNat:Nat):Int)=x:=by omega
  obtain⟨n8,nR⟩:=v.args _ (iF x1)
  simp only [aiX] at hf hb
  have YB:=v.max
  have VY:=L.ml
  unfold aY.l0
  have hlen:((x::st).reverse.length:Int)=(st.length:Int)+1:=by simp
  have ew:i64.wrap ((st.length:Int)+1 - 1)=(st.length:Int):=by rw [bL om om]; omega
  have e1:ix (x::st).reverse (st.length:Int)=some x:=by
   unfold ix
   rw [if_pos om,aiP,List.reverse_cons,ai0 (by simp)]
   simp
  have e2:I4 (x::st).reverse 0 (st.length:Int)=some st.reverse:=by
   unfold I4
   rw [if_pos ⟨om,om,by simp; omega⟩,List.reverse_cons]
   simp only [aiP,aji,Int.toNat_zero,Nat.sub_zero]
   rw [List.take_left' (by simp)]
  have e3:ix met x=some (gb met x.toNat):=AT hx0 om
  rw [if_pos (by rw [hlen]; simp only [gt_iff_lt,decide_eq_true_eq]; omega),hlen,ew,e1,aiI,e2,aiI,e3,aiI]
  cases hg:gb met x.toNat with
  | true=>
   have wv:x∈o:=by have:=(L.mt x.toNat om).1 hg; rwa [Vx] at this
   rw [if_pos rfl]
   refine A6 hm v M f met o st om om ⟨L.ml,L.mt,L.nd,L.rt,fun y hy=>L.sk y (by simp [hy]),fun y hy a ha=>?_,?_⟩
   ·rcases L.cl y hy a ha with h | h
    ·exact .inl h
    ·rcases aja.1 h with h | h
     ·rw [h]; exact .inl wv
     ·exact .inr h
   ·rcases L.hd with⟨h,_⟩| h
    ·rw [h] at wv; cases wv
    ·exact .inr h
  | false=>
   have Zp:x∉o:=fun h=>by
    have:=(L.mt x.toNat om).2 (by rw [Vx]; exact h)
    rw [hg] at this; cases this
   have YC:(o++[x]).Nodup:=by
    rw [ajS]
    refine⟨L.nd,by simp,fun a ha b hb=>?_⟩
    rw [aiU] at hb
    subst hb; intro e; subst e; exact Zp ha
   have YD:∀y∈o++[x],Rg s.aa.length y∧rp s.an y=y∧Se s.aa (rp s.an) r y:=fun y hy=>by
    rcases ai3.1 hy with hy | hy
    ·exact L.rt y hy
    ·rw [aiU] at hy; subst hy; exact⟨x1,x2,x3⟩
   have Ge:=nS YC fun y hy=>(YD y hy).1
   simp only [aiT,aiX,ai4] at Ge
   have ux:app 8 o [x]=some (o++[x]):=by unfold app; rw [if_pos (by simp; omega)]
   have tS:(nT s x).args.length=(dI s.aa x).args.length:=by show (List.map _ _).length=_; rw [aiY]
   have ewn:i64.wrap (((nT s x).args.length:Int) - 1)=((nT s x).args.length:Int) - 1:=bL om om
   obtain⟨z,q1⟩:=GA (m:=m) (x:=nT s x) om m (nT s x).args.length st.reverse om (aiQ _) (by simp; omega)
   rw [ajr] at q1
   have Vy:st.reverse++(nT s x).args.reverse=((nT s x).args++st).reverse:=by simp
   rw [Vy] at q1
   have ev:=A5 (m:=m) om v M x1
   rw [x2] at ev
   rw [if_neg (by simp),aiI,ux,aiI,ev,aiI,ewn,q1,aiI]
   dsimp only
   refine A6 hm v M f (met.set x.toNat true) (o++[x]) ((nT s x).args++st) (by simp; omega) (by simp; omega) ⟨by simpa using L.ml,fun i hi=>?_,YC,YD,fun y hy=>?_,fun y hy a ha=>?_,.inr ?_⟩
   ·rw [Eg om,ai3,aiU]
    by_cases e:i=x.toNat
    ·subst e; simp [Vx]
    ·rw [if_neg e,L.mt i hi]
     constructor
     ·exact fun h=>.inl h
     ·rintro (h | h)
      ·exact h
      ·omega
   ·rcases ai3.1 hy with hy | hy
    ·obtain⟨a,ha,rfl⟩:=ajc.1 hy
     have:=nR a ha
     exact⟨v.cn.rg a this,v.cn.id a this,.step x3 ha⟩
    ·exact L.sk y (by simp [hy])
   ·rcases ai3.1 hy with hy | hy
    ·rcases L.cl y hy a ha with h | h
     ·exact .inl (ajh _ h)
     ·rcases aja.1 h with h | h
      ·exact .inl (akq _ (by simp [h]))
      ·exact .inr (akq _ h)
    ·rw [aiU] at hy
     subst hy
     exact .inr (ajh _ (ajc.2 ⟨a,ha,rfl⟩))
   ·rcases L.hd with⟨h,h'⟩| h
    ·subst h
     cases h'
     rfl
    ·have:=(aiO.1 h).1
     rw [ai6 om]; exact h
theorem KT (hm:2 ^ 30≤m)(v:Inv s)(M:jm s t){n:Int}(h:Rg s.aa.length n):∃l,aY.f m t n=some l∧Reach s (rp s.an n) l:=by
 have vM:(2:Nat) ^ 30=1073741824:=by decide
 have YB:=v.max
 unfold aY.f
 have e1:sY 1 (s.aa.length:Int) false=some (ai1 s.aa.length false):=by unfold sY; rw [if_pos ⟨om,by rw [aiP]; omega⟩,aiP]
 obtain⟨Eh,o',k1,k2⟩:=A6 (m:=m) (r:=rp s.an n) hm v M m (ai1 s.aa.length false) [] [rp s.an n] (by simp; omega) (by simp; omega)
  ⟨by simp,fun i hi=>by rw [Ei]; simp,by simp,fun x hx=>(by cases hx),fun x hx=>by
   rw [aiU] at hx; subst hx; exact⟨v.cn.rg n h,v.cn.id n h,.refl⟩,fun x hx=>(by cases hx),.inl ⟨rfl,rfl⟩⟩
 have k1:aY.l0 m t m (ai1 s.aa.length false) [] [rp s.an n]=_:=k1
 rw [M.nodes,e1,aiI,M.bG,qL h,aiI,k1]
 exact⟨o',rfl,k2⟩
end
end Go.Proofs.YtifafejidnjckaaGreat
namespace Go.Uf
open Go Go.R
open Go.IntKind (i64 u64 u8 u32)
theorem xk:∀{a b:List Int},a.Pairwise (· < ·)→b.Pairwise (· < ·)→(∀x,x∈a↔x∈b)→a=b
 | [],[],_,_,_=>rfl
 | [],y::b,_,_,h=>by have:=(h y).2 (by simp); cases this
 | x::a,[],_,_,h=>by have:=(h x).1 (by simp); cases this
 | x::a,y::b,ha,hb,h=>by
  rw [List.pairwise_cons] at ha hb
  have e:x=y:=by
   rcases aja.1 ((h x).1 (by simp)) with e | h1
   ·exact e
   ·rcases aja.1 ((h y).2 (by simp)) with e | h2
    ·exact e.symm
    ·have:=hb.1 x h1; have:=ha.1 y h2; omega
  subst e
  rw [xk ha.2 hb.2 fun z=>?_]
  have:=h z
  simp only [aja] at this
  constructor
  ·intro hz
   rcases this.1 (.inr hz) with e | h'
   ·have:=ha.1 z hz; omega
   ·exact h'
  ·intro hz
   rcases this.2 (.inr hz) with e | h'
   ·have:=hb.1 z hz; omega
   ·exact h'
theorem CA {l:List Int}{x:Int}:x∈kK l↔x∈l:=by unfold kK; exact List.mem_mergeSort
theorem vS {l:List Int}(h:l.Nodup):(kK l).Pairwise (· < ·):=by
 have h1:(kK l).Pairwise (fun x y=>(decide (x≤y))=true):=by
  unfold kK
  exact List.pairwise_mergeSort (fun a b c h1 h2=>by simp only [decide_eq_true_eq] at *; omega) (fun a b=>by simp only [ajE,decide_eq_true_eq]; omega) l
 have h2:(kK l).Nodup:=by
  unfold kK
  exact (List.mergeSort_perm l _).nodup_iff.2 h
 unfold List.Nodup at h2
 exact (h1.and h2).imp fun ⟨a,b⟩=>by simp only [decide_eq_true_eq] at a; omega
end Go.Uf
namespace Go.Proofs.YtifafejidnjckaaGreat
open Go Go.R Go.Uf
open Go.IntKind (i64 u64 u8 u32)
section
variable {m:Nat}{s:ae}{t:aj}{r:Int}
theorem Reach.all {l:List Int}(B:Reach s r l){x:Int}(h:Se s.aa (rp s.an) r x):x∈l:=by
 induction h with
 | refl=>exact aiS B.hd
 | step hy ha ih=>exact B.cl _ ih _ ha
def PJ (place l:List Int)(i:Nat):Prop:=∀(j:Nat) x,j<i→l[j]? = some x→gt place x.toNat=j
theorem GB {l:List Int}(h:Reach s r l)(hN:s.aa.length≤8000):∀(k i:Nat) (place:List Int),i≤l.length→l.length - i<k→place.length=s.aa.length→PJ place l i→∃xj,aO.l0 m l k place (i:Int)=some (xj,(l.length:Int))∧xj.length=s.aa.length∧PJ xj l l.length
 | 0,i,place,h1,h2,_,_=>by omega
 | k+1,i,place,h1,h2,hl,hp=>by
  simp only [aO.l0]
  have hf:=h.Cr
  by_cases hlt:i<l.length
  ·have d:decide ((i:Int)<(l.length:Int))=true:=by rw [decide_eq_true_eq]; omega
   have eg:=aiN hlt
   generalize l[i]=y at eg
   have ey:=(h.rt y (aiS eg)).1
   have y0:=ey.1
   have y1:=ey.2
   have ew:i64.wrap ((i:Int)+1)=((i+1:Nat):Int):=by rw [kh om om]; omega
   rw [if_pos d,tJ eg,aiI,iV (l:=place) (i:=y) (k:=y.toNat) om om,aiI,ew]
   refine GB h hN k (i+1) _ om om (by simpa using hl) fun j x hj hx=>?_
   rw [iG om]
   have hxr:=(h.rt x (aiS hx)).1
   by_cases e:j<i
   ·have:¬x.toNat=y.toNat:=fun e2=>by
     have e3:x=y:=by have:=hxr.1; omega
     subst e3
     have a1:=y5 h.nd hx
     have a2:=y5 h.nd eg
     omega
    rw [if_neg this]
    exact hp j x e hx
   ·have:j=i:=by omega
    subst this
    rw [eg] at hx; cases hx
    rw [if_pos rfl]
  ·have d:decide ((i:Int)<(l.length:Int))=false:=by rw [decide_eq_false_iff_not]; omega
   have e:i=l.length:=by omega
   rw [if_neg (by rw [d]; decide),e]
   exact⟨place,rfl,hl,by rw [←e]; exact hp⟩
theorem GC (place:List Int)(x:ak)(h8:x.args.length≤8)(hr:∀a∈x.args,0≤a∧a<place.length):∀(k i:Nat),i≤x.args.length→x.args.length - i<k→
  aO.l2 m place x k ((x.args.take i).map (fun a=>gt place a.toNat)) (i:Int)=some (x.args.map (fun a=>gt place a.toNat),(x.args.length:Int))
 | 0,i,h1,h2=>by omega
 | k+1,i,h1,h2=>by
  simp only [aO.l2]
  by_cases hi:i<x.args.length
  ·have d:decide ((i:Int)<(x.args.length:Int))=true:=by rw [decide_eq_true_eq]; omega
   have eg:=aiN hi
   have et:x.args.take (i+1)=x.args.take i++[x.args[i]]:=ajb hi
   generalize x.args[i]=a at eg et
   obtain⟨a0,a1⟩:=hr a (aiS eg)
   have ew:i64.wrap ((i:Int)+1)=((i+1:Nat):Int):=by rw [kh om om]; omega
   rw [if_pos d,tJ eg,aiI,iV (l:=place) (i:=a) (k:=a.toNat) om om,aiI,nX (by simp only [aiY,ajo,aiX,ai4]; omega),aiI,ew]
   have:=GC place x h8 hr k (i+1) om om
   rw [et,ai5] at this
   exact this
  ·have d:decide ((i:Int)<(x.args.length:Int))=false:=by rw [decide_eq_false_iff_not]; omega
   have e:i=x.args.length:=by omega
   rw [if_neg (by rw [d]; decide),e,ajr]
theorem GD (hm:16000≤m)(v:Inv s)(M:jm s t){l:List Int}(h:Reach s r l){place:List Int}(hl:place.length=s.aa.length)(hp:PJ place l l.length):∀(k i:Nat),i≤l.length→l.length - i<k→
  aO.l1 m t l place k (i:Int) ((l.take i).map (xS s l)) 0=some ((l.length:Int),TN s l,0)
 | 0,i,h1,h2=>by omega
 | k+1,i,h1,h2=>by
  simp only [aO.l1]
  have hf:=h.Cr
  have h8:=v.max
  by_cases hi:i<l.length
  ·have d:decide ((i:Int)<(l.length:Int))=true:=by rw [decide_eq_true_eq]; omega
   have eg:=aiN hi
   have et:l.take (i+1)=l.take i++[l[i]]:=ajb hi
   generalize l[i]=y at eg et
   have hy:=aiS eg
   obtain⟨y1,y2,_⟩:=h.rt y hy
   have ew:i64.wrap ((i:Int)+1)=((i+1:Nat):Int):=by rw [kh om om]; omega
   obtain⟨n8,nR⟩:=v.args _ (iF y1)
   have ea:(nT s y).args.map (fun a=>gt place a.toNat)=(dI s.aa y).args.map fun a=>yH l (rp s.an a):=by
    show ((dI s.aa y).args.map _).map _=_
    rw [List.map_map]
    apply aj0
    intro a ha
    have hin:=h.cl y hy a ha
    have h0:=pB hin
    have h1:=vP hin
    show gt place (rp s.an a).toNat=_
    rw [hp _ _ om h0]
    omega
   have YB:(nT s y).args.length≤8:=by show (List.map _ _).length≤8; rw [aiY]; exact n8
   have e2:=GC (m:=m) place (nT s y) YB (fun a ha=>by
    obtain⟨b,hb,rfl⟩:=ajc.1 ha
    have:=v.cn.rg b (nR b hb)
    rw [hl]; exact this) m 0 (ajm _) om
   have e2:aO.l2 m place (nT s y) m [] 0=_:=e2
   have ev:=A5 (m:=m) hm v M y1
   rw [y2] at ev
   rw [if_pos d,tJ eg,aiI,ev,aiI,e2,aiI]
   simp only [ew]
   rw [nX (by simp only [aiY,ajo,aiX,ai4]; omega),aiI]
   have:=GD hm v M h hl hp k (i+1) om om
   rw [et,ai5] at this
   rw [ea]
   exact this
  ·have d:decide ((i:Int)<(l.length:Int))=false:=by rw [decide_eq_false_iff_not]; omega
   have e:i=l.length:=by omega
   rw [if_neg (by rw [d]; decide),e,ajr]
   rfl
theorem VL (v:Inv2 s){l:List Int}(h:Reach s r l):Ok0 ⟨TN s l,0⟩:=by
 intro n hn hk
 obtain⟨y,hy,rfl⟩:=ajc.1 hn
 obtain⟨y1,_,_⟩:=h.rt y hy
 have h1:(xS s l y).int=y:=(v.vn y y1).2 hk
 have:=v.inv.max
 have:=y1.2
 have Wm:(2:Int) ^ 63=9223372036854775808:=by decide
 rw [h1,Wm]; omega
theorem Mf (hm:2 ^ 41≤m)(v:Inv2 s)(M:jm s t){n:Int}(h:Rg s.aa.length n):∃z,aN.f m s n=some (z,0)∧aO.f m t n=some (z,0)∧iH z=true:=by
 have vM:(2:Nat) ^ 30=1073741824:=by decide
 have yG:(2:Nat) ^ 41=2199023255552:=by decide
 have h8:=v.inv.max
 obtain⟨l1,z,R1,V1,e1,f1,hz⟩:=VB hm v h
 obtain⟨l2,e2,R2⟩:=KT (m:=m) om v.inv M h
 have V2:=Gq v R2
 have hS:Sb s (rp s.an n) (rp s.an n):=Sb.refl v.inv (v.inv.cn.rg n h) (v.inv.cn.id n h)
 obtain⟨R,B,hr⟩:=(VC R1 R2).2 hS
 obtain⟨w,w1,w2⟩:=Mb hm V1 V2 B hr
 rw [e1] at w1
 cases ajn w1
 obtain⟨z2,e,k1,k2,_,k4,_⟩:=It hm (VL v R2)
 have he:e=0:=k4.2 V2
 subst he
 have:z2=z:=by
  unfold gT.f at k1
  rw [qH om,V2,aiI,if_neg (by decide),w2,aiI] at k1
  simpa using k1.symm
 subst this
 refine⟨z2,f1,?_,hz⟩
 have em:sY 8 (s.aa.length:Int) (0:Int)=some (ai1 s.aa.length 0):=by unfold sY; rw [if_pos ⟨om,by rw [aiP]; omega⟩,aiP]
 have hf:=R2.Cr
 obtain⟨place,q1,q2,q3⟩:=GB (m:=m) R2 h8 m 0 (ai1 s.aa.length 0) (ajm _) om (by simp) (fun j x hj=>by omega)
 have q1:aO.l0 m l2 m (ai1 s.aa.length 0) 0=_:=q1
 have q4:=GD (m:=m) om v.inv M R2 q2 q3 m 0 (ajm _) om
 have q4:aO.l1 m t l2 place m 0 [] 0=_:=q4
 unfold aO.f
 rw [M.l8,aiI,if_neg (by decide),M.has,decide_eq_true h,aiI,if_neg (by decide),e2,aiI,M.nodes,em,aiI,q1,aiI]
 simp only []
 rw [q4,aiI]
 simp only []
 rw [k2]; rfl
theorem Mg (M:jm s t){n:Int}(h:¬Rg s.aa.length n):aO.f m t n=some (⟨[],0⟩,1):=by
 unfold aO.f
 rw [M.l8,aiI,if_neg (by decide),M.has,decide_eq_false h]
 rfl
theorem GF (M:jm s t){l:List Int}(h:Reach s r l)(hN:s.aa.length≤8000):∀(k i:Nat) (fl:List Bool),i≤l.length→l.length - i<k→fl.length=s.aa.length→(∀q,q<s.aa.length→(gb fl q=true↔(q:Int)∈l.take i∧(dI s.aa (q:Int)).kind=0))→
  ∃fl',bk.l0 m t l k fl (i:Int)=some (fl',(l.length:Int))∧fl'.length=s.aa.length∧∀q,q<s.aa.length→(gb fl' q=true↔(q:Int)∈l∧(dI s.aa (q:Int)).kind=0)
 | 0,i,fl,h1,h2,_,_=>by omega
 | k+1,i,fl,h1,h2,hl,hq=>by
  simp only [bk.l0]
  have hf:=h.Cr
  by_cases hlt:i<l.length
  ·have d:decide ((i:Int)<(l.length:Int))=true:=by rw [decide_eq_true_eq]; omega
   have eg:=aiN hlt
   have et:l.take (i+1)=l.take i++[l[i]]:=ajb hlt
   generalize l[i]=y at eg et
   have ey:=(h.rt y (aiS eg)).1
   have y0:=ey.1
   have y1:=ey.2
   have ew:i64.wrap ((i:Int)+1)=((i+1:Nat):Int):=by rw [kh om om]; omega
   rw [if_pos d,tJ eg,aiI,aiI,M.nodes,mS ey,aiI,AT y0 om,aiI,ew]
   refine GF M h hN k (i+1) _ om om (by simpa using hl) fun q hqn=>?_
   rw [Eg om,et,ai3,aiU]
   by_cases e:q=y.toNat
   ·subst e
    rw [if_pos rfl]
    have:((y.toNat:Nat):Int)=y:=by omega
    rw [this]
    simp
   ·rw [if_neg e,hq q hqn]
    have:¬(q:Int)=y:=by omega
    simp [this]
  ·have d:decide ((i:Int)<(l.length:Int))=false:=by rw [decide_eq_false_iff_not]; omega
   have e:i=l.length:=by omega
   rw [if_neg (by rw [d]; decide),e]
   refine⟨fl,rfl,hl,fun q hqn=>?_⟩
   have:=hq q hqn
   rwa [e,ajr] at this
def qM (fl:List Bool)(i:Nat):List Int:=((ajP i).filter fun q=>gb fl q).map fun (q:Nat)=>(q:Int)
theorem Mh (fl:List Bool)(i:Nat):(qM fl i).length≤i:=by
 unfold qM
 rw [aiY]
 have:=akr (fun q=>gb fl q) (ajP i)
 rwa [akh] at this
theorem GG (fl:List Bool)(hN:fl.length≤8000):∀(k i:Nat),i≤fl.length→fl.length - i<k→bk.l1 m fl k (qM fl i) (i:Int)=some (qM fl fl.length,(fl.length:Int))
 | 0,i,h1,h2=>by omega
 | k+1,i,h1,h2=>by
  simp only [bk.l1]
  by_cases hlt:i<fl.length
  ·have d:decide ((i:Int)<(fl.length:Int))=true:=by rw [decide_eq_true_eq]; omega
   have ew:i64.wrap ((i:Int)+1)=((i+1:Nat):Int):=by rw [kh om om]; omega
   have ex:ix fl (i:Int)=some (gb fl i):=by have:=AT (l:=fl) (i:=(i:Int)) om om; rwa [aiP] at this
   have hs:qM fl (i+1)=qM fl i++(if gb fl i=true then [(i:Int)] else []):=by
    unfold qM
    rw [List.range_succ,akm,ai5]
    congr 1
    cases hb:gb fl i<;>simp [hb]
   have hlen:=Mh fl i
   have:=GG fl hN k (i+1) om om
   rw [hs] at this
   rw [if_pos d,ex,aiI,ew]
   cases hb:gb fl i with
   | true=>
    rw [hb] at this
    rw [if_pos rfl] at this ⊢
    rw [nX (by simp only [aiX,ai4]; omega),aiI]
    exact this
   | false=>
    rw [hb,if_neg (by decide),ajJ] at this
    rw [if_neg (by decide)]
    exact this
  ·have d:decide ((i:Int)<(fl.length:Int))=false:=by rw [decide_eq_false_iff_not]; omega
   have e:i=fl.length:=by omega
   rw [if_neg (by rw [d]; decide),e]
theorem Mi (hm:2 ^ 41≤m)(v:Inv2 s)(M:jm s t)(n:Int):∃l e,fS.f m s n=some (l,e)∧bk.f m t n=some (l,e)∧l.length≤8000:=by
 have vM:(2:Nat) ^ 30=1073741824:=by decide
 have yG:(2:Nat) ^ 41=2199023255552:=by decide
 have h8:=v.inv.max
 unfold fS.f bk.f
 rw [sS om v.inv.made [n] (by simp),M.l8,aiI,aiI,if_neg (show ¬(!true)=true by decide),M.has,aiI]
 by_cases h:Rg s.aa.length n
 ·rw [show ([n].all fun n=>decide (Rg s.aa.length n))=true by simp [h],if_pos rfl,if_neg (by decide),decide_eq_true h,if_neg (by decide)]
  obtain⟨l1,e1,R1⟩:=KF (m:=m) om v.inv h
  obtain⟨l2,e2,R2⟩:=KT (m:=m) om v.inv M h
  have f1:=R1.Cr
  have f2:=R2.Cr
  have eD:=Gg (m:=m) (f:=fun y0=>eP.f m y0 s) (g:=fun x=>!((dI s.aa x).kind==0)) om l1 om (fun x hx=>by
   simp only [eP.f]
   rw [D8 (R1.rt x hx).1,aiI])
  have em:sY 1 (s.aa.length:Int) false=some (ai1 s.aa.length false):=by unfold sY; rw [if_pos ⟨om,by rw [aiP]; omega⟩,aiP]
  obtain⟨fl,q1,q2,q3⟩:=GF (m:=m) M R2 h8 m 0 (ai1 s.aa.length false) (ajm _) om (by simp) (fun q hq=>by rw [Ei]; simp)
  have q1:bk.l0 m t l2 m (ai1 s.aa.length false) 0=_:=q1
  have q4:=GG (m:=m) fl om m 0 (ajm _) om
  have q4:bk.l1 m fl m [] 0=_:=q4
  rw [e1,aiI,eD,aiI,e2,aiI,M.nodes,em,aiI,q1,aiI]
  simp only []
  rw [q4,aiI]
  refine⟨_,_,rfl,?_,?_⟩
  ·congr 2
   apply xk
   ·unfold qM
    rw [aks]
    exact (List.pairwise_lt_range.filter _).imp fun h=>by omega
   ·exact vS (R1.nd.filter _)
   ·intro x
    rw [CA]
    unfold qM
    simp only [ajc,aj1,aj6,Bool.not_not,beq_iff_eq]
    have same:∀x,x∈l1↔x∈l2:=by
     exact fun x=>⟨fun h=>R2.all (R1.rt x h).2.2,fun h=>R1.all (R2.rt x h).2.2⟩
    constructor
    ·rintro⟨q,⟨hq,hb⟩,rfl⟩
     obtain⟨a1,a2⟩:=(q3 q om).1 hb
     exact⟨(same _).2 a1,a2⟩
    ·rintro⟨a1,a2⟩
     have hx:=(R1.rt x a1).1
     have h0:=hx.1
     have h1:=hx.2
     have e:((x.toNat:Nat):Int)=x:=by omega
     exact⟨x.toNat,⟨om,(q3 _ om).2 ⟨by rw [e]; exact (same x).1 a1,by rw [e]; exact a2⟩⟩,e⟩
  ·rw [pf]
   have:=akr (fun x=>!(!((dI s.aa x).kind==0))) l1
   omega
 ·rw [show ([n].all fun n=>decide (Rg s.aa.length n))=false by simp [h],decide_eq_false h]
  exact⟨[],1,rfl,rfl,by simp⟩
end
section
variable {m:Nat}{s:ae}{t:aj}{r:Int}
theorem Iu (x:ak):gz.f m x x=some true:=by
 unfold gz.f
 simp only [aj8,if_true]
theorem PS (z:bh){i:Nat}{x:ak}(hx:z.nodes[i]? = some x)(h8:x.args.length≤8):∀(k j:Nat),j≤x.args.length→x.args.length - j<k→bW.l1 m z z (i:Int) k (j:Int)=some (.inr (x.args.length:Int))
 | 0,j,h1,h2=>by omega
 | k+1,j,h1,h2=>by
  simp only [bW.l1]
  rw [tJ hx,aiI]
  by_cases hj:j<x.args.length
  ·have d:decide ((j:Int)<(x.args.length:Int))=true:=by rw [decide_eq_true_eq]; omega
   have eg:=aiN hj
   have ew:i64.wrap ((j:Int)+1)=((j+1:Nat):Int):=by rw [kh om om]; omega
   rw [if_pos d]
   simp only [aiI,tJ eg,aj8,ajA,aiW,if_false,ew]
   exact PS z hx h8 k (j+1) om om
  ·have d:decide ((j:Int)<(x.args.length:Int))=false:=by rw [decide_eq_false_iff_not]; omega
   have e:j=x.args.length:=by omega
   rw [if_neg (by rw [d]; decide),e]
theorem PT (hm:16000≤m)(z:bh)(ok:nY z.nodes):∀(k i:Nat),i≤z.nodes.length→z.nodes.length - i<k→bW.l0 m z z k (i:Int)=some (.inr (z.nodes.length:Int))
 | 0,i,h1,h2=>by omega
 | k+1,i,h1,h2=>by
  simp only [bW.l0]
  have hl:=ok.1
  by_cases hi:i<z.nodes.length
  ·have d:decide ((i:Int)<(z.nodes.length:Int))=true:=by rw [decide_eq_true_eq]; omega
   have eg:=aiN hi
   generalize z.nodes[i]=x at eg
   have ew:i64.wrap ((i:Int)+1)=((i+1:Nat):Int):=by rw [kh om om]; omega
   have h8:=(ok.2 x (aiS eg)).1
   have e1:=PS (m:=m) z eg h8 m 0 (ajm _) om
   have e1:bW.l1 m z z (i:Int) m 0=_:=e1
   rw [if_pos d,tJ eg,aiI,aiI,Iu,aiI,if_neg (by decide),e1,aiI]
   simp only [ew]
   exact PT hm z ok k (i+1) om om
  ·have d:decide ((i:Int)<(z.nodes.length:Int))=false:=by rw [decide_eq_false_iff_not]; omega
   have e:i=z.nodes.length:=by omega
   rw [if_neg (by rw [d]; decide),e]
theorem A7 (hm:16000≤m)(z:bh)(ok:nY z.nodes):bW.f m z z=some true:=by
 have hl:=ok.1
 have e:=PT (m:=m) hm z ok m 0 (ajm _) om
 have e:bW.l0 m z z m 0=_:=e
 unfold bW.f
 rw [aj8,aj8,if_neg (by decide),if_neg (by decide),e]
 rfl
theorem Iv (hm:2 ^ 63≤m)(v:Inv2 s)(M:jm s t)(n:Int):jM.f m s t n=some true:=by
 have yG:(2:Nat) ^ 41=2199023255552:=by decide
 have Wm:(2:Nat) ^ 63=9223372036854775808:=by decide
 have yL:2 ^ 41≤m:=by omega
 unfold jM.f
 obtain⟨l,e,f1,f2,hl⟩:=Mi yL v M n
 have eI:=sW (m:=m) l om hm
 rw [Yy om v.inv,aiI,VK M,aiI,Sa om v.inv,aiI,PR om v.inv M,aiI]
 by_cases h:Rg s.aa.length n
 ·obtain⟨z,t1,t2,hz⟩:=Mf yL v M h
  have eE:=A7 (m:=m) om z (lF hz).1
  have eN:iJ.f m (nT s (rp s.an n)) (nT s (rp s.an n))=some true:=AZ hm _ (by
   have:=(v.inv.args _ (iF (v.inv.cn.rg n h))).1
   show (List.map _ _).length<_
   rw [aiY]; omega)
  simp only [if_pos h,t1,t2,f1,f2,aiI,aj8,if_true,eN,eE,eI]
 ·have eN:iJ.f m (⟨0,0,⟨#[]⟩,[]⟩:ak) ⟨0,0,⟨#[]⟩,[]⟩=some true:=AZ hm _ (by simp)
  have eE:=A7 (m:=m) om (⟨[],0⟩:bh) ⟨by simp,fun n hn=>by simp at hn⟩
  simp only [if_neg h,PA yL v h,Mg M h,f1,f2,aiI,aj8,if_true,eN,eE,eI]
theorem KU (hm:2 ^ 63≤m)(v:Inv2 s)(M:jm s t):∀(k i:Nat),i≤s.aa.length+2→s.aa.length+2 - i<k→∃z,dQ.l0 m s t k ((i:Int) - 1)=some (.inr z)
 | 0,i,h1,h2=>by omega
 | k+1,i,h1,h2=>by
  have h8:=v.inv.max
  simp only [dQ.l0]
  rw [KS M,aiI]
  by_cases hi:i<s.aa.length+2
  ·have d:decide ((i:Int) - 1≤(s.aa.length:Int))=true:=by rw [decide_eq_true_eq]; omega
   have ew:i64.wrap ((i:Int) - 1+1)=((i+1:Nat):Int) - 1:=by rw [kh om om]; omega
   rw [if_pos d,Iv hm v M,aiI,if_neg (by decide),ew]
   exact KU hm v M k (i+1) om om
  ·have d:decide ((i:Int) - 1≤(s.aa.length:Int))=false:=by rw [decide_eq_false_iff_not]; omega
   rw [if_neg (by rw [d]; decide)]
   exact⟨_,rfl⟩
theorem Mj (hm:2 ^ 63≤m)(v:Inv2 s)(M:jm s t):dQ.f m s t=some true:=by
 have Wm:(2:Nat) ^ 63=9223372036854775808:=by decide
 have h8:=v.inv.max
 unfold dQ.f
 obtain⟨z,e⟩:=KU (m:=m) hm v M m 0 om om
 have e:dQ.l0 m s t m (-1)=_:=e
 rw [VA v.inv,aiI,KS M,aiI,aj8,if_neg (by decide),e]
 rfl
end
end Go.Proofs.YtifafejidnjckaaGreat
