/- Part of the proof: PB6, PB7, PB8, PB10, PB11, PU3, PD1, PD2. -/
import Derived.Test.YtifafejidnjckaaGreatK14
set_option linter.unusedVariables false
set_option linter.unusedSimpArgs false
set_option maxRecDepth 100000
open Bool renaming or_eq_true → acu
open Int renaming toNat_natCast → abC
open List renaming getElem?_eq_getElem → abD, length_set → abF, getElem?_eq_some_iff → abG, mem_singleton → abI, mem_of_getElem? → abJ, length_map → abL, replicate → abM, getElem?_append_right → abN, getD_eq_getElem?_getD → abO, mem_append → abP, length_append → abQ, length_cons → abR, getElem?_append_left → abS, drop_eq_getElem_cons → abT, getElem?_eq_none → abU, map_append → abV, append_assoc → abX, mem_map → abZ, mem_cons → ab0, getElem?_map → ab1, take_succ_eq_append_getElem → ab2, length_nil → ab4, map_cons → ab5, mem_append_left → ab6, take_length → ace, nil_append → aci, length_take → acm, drop_zero → acn, ext_getElem? → acx, map_congr_left → acA, nodup_append → acB, take_add_one → acI, set_append_right → acM, append_nil → acS, mem_filter → acW, range → acX, getElem?_set → acZ, mem_range → ac0, length_replicate → ac7
open Nat renaming le_refl → abB, lt_succ_self → ack, zero_le → aco, sub_self → acE
open Option renaming bind_some → abw, map_some → abE
open Option.some renaming injEq → abz, inj → ab8
namespace Go.Proofs.YtifafejidnjckaaGreat
open Go Go.R
open Go.IntKind (i64 u64 u8 u32)
def cj (dn:List Bool):Nat→List Int
 | 0=>[]
 | p+1=>if gb dn p=true then cj dn p else cj dn p++[(p:Int)]
theorem jM {dn:List Bool}:∀{p:Nat} {x:Int},x∈cj dn p↔∃j:Nat,j<p∧gb dn j=false∧x=j
 | 0,x=>⟨fun h=>by simp [cj] at h,fun ⟨j,h,_⟩=>absurd h (by omega)⟩
 | p+1,x=>by
  unfold cj
  have ih:=jM (dn:=dn) (p:=p) (x:=x)
  split
  ·rename_i h
   rw [ih]
   constructor
   ·rintro⟨j,a,b,c⟩; exact⟨j,by omega,b,c⟩
   ·rintro⟨j,a,b,c⟩
    refine⟨j,?_,b,c⟩
    by_cases e:j=p
    ·subst e; rw [b] at h; cases h
    ·omega
  ·rename_i h
   rw [abP,ih,abI]
   constructor
   ·rintro (⟨j,a,b,c⟩| c)
    ·exact⟨j,by omega,b,c⟩
    ·exact⟨p,by omega,by simpa using h,c⟩
   ·rintro⟨j,a,b,c⟩
    by_cases e:j=p
    ·subst e; exact .inr c
    ·exact .inl ⟨j,by omega,b,c⟩
theorem jh {dn:List Bool}:∀p,(cj dn p).length≤p
 | 0=>abB _
 | p+1=>by
  have:=jh (dn:=dn) p
  unfold cj
  split
  ·omega
  ·simp; omega
theorem oy {dn:List Bool}:∀{p k q:Nat},k<q→q<(cj dn p).length→gt (cj dn p) k<gt (cj dn p) q
 | 0,k,q,_,h=>by simp [cj] at h
 | p+1,k,q,hk,h=>by
  unfold cj at h ⊢
  split at h
  ·rename_i g; rw [if_pos g]; exact oy hk h
  ·rename_i g
   rw [if_neg g]
   by_cases hq:q<(cj dn p).length
   ·rw [ju hq,ju (by omega)]; exact oy hk hq
   ·have e:q=(cj dn p).length:=by simp at h; omega
    have:gt (cj dn p++[(p:Int)]) q=p:=by
     subst e; unfold gt; rw [abO,abN (abB _),acE]; rfl
    rw [this,ju (by omega)]
    obtain⟨j,a,b,c⟩:=jM.1 (a8 (l:=cj dn p) (k:=k) (by omega))
    omega
structure Sh (l:List ah)(dn:List Bool)(c0:List Int)(p:Nat)(cls:List Int):Prop where
 lc:cls.length=l.length
 old:∀j,gb dn j=true→gt cls j=gt c0 j
 rC:∀j:Nat,(j:Int)∈cj dn p→gt cls j∈cj dn p∧Alike (nd l j) (nd l (gt cls j))∧∀g∈cj dn p,Alike (nd l j) (nd l g)→gt cls j≤g
theorem JH {m:Nat}{l:List ah}{dn:List Bool}(ok:lS l){cls:List Int}{i:Nat}(hi:i<l.length)(hc:cls.length=l.length)(hlt:∀g∈cj dn i,gt cls g.toNat≠i):∀(f k:Nat),(cj dn i).length - k+2≤f→k≤(cj dn i).length→(∀q,q<k→¬Alike (nd l i) (nd l (gt (cj dn i) q)))→
  ∃v x,ak.l3 m l (i:Int) (cj dn i++[(i:Int)]) f (cls.set i (i:Int)) (k:Int)=some (cls.set i v,x)∧(v=i∧(∀g∈cj dn i,¬Alike (nd l i) (nd l g))∨∃g∈cj dn i,Alike (nd l i) (nd l g)∧v=gt cls g.toNat)
 | 0,k,hf,_,_=>absurd hf (by omega)
 | f+1,k,hf,hk,tT=>by
  have h8:=ok.1
  have Na:=jh (dn:=dn) i
  unfold ak.l3
  have CM:i<(cls.set i (i:Int)).length:=by simp [hc,hi]
  rw [dv CM,fL (by omega),if_pos rfl,abw,if_pos (by simp)]
  have WJ:(cj dn i++[(i:Int)]).length=(cj dn i).length+1:=by simp
  by_cases h:k<(cj dn i).length
  ·obtain⟨j,j1,j2,j3⟩:=jM.1 (a8 (l:=cj dn i) (k:=k) h)
   have hx:ix (cj dn i++[(i:Int)]) (k:Int)=some (gt (cj dn i) k):=by rw [dv (by omega),ju h]
   obtain⟨xa,a1,a2⟩:=wj (m:=m) (nd l (i:Int)) (nd l (gt (cj dn i) k))
   rw [hx,abw,if_pos (by simp only [decide_eq_true_eq]; omega),iZ (by omega) (by omega),abw,abw,iZ (by omega) (by omega),abw,a1,abw]
   cases xa with
   | false=>
    rw [if_neg (by simp),bl (by omega) (by omega),show (k:Int)+1=((k+1:Nat):Int) by omega]
    refine JH ok hi hc hlt f (k+1) (by omega) (by omega) fun q hq=>?_
    by_cases e:q=k
    ·subst e; intro hA; have:=a2.2 hA; cases this
    ·exact tT q (by omega)
   | true=>
    have hA:=a2.1 rfl
    have hgl:(gt (cj dn i) k).toNat<cls.length:=by omega
    have RW:ix (cls.set i (i:Int)) (gt (cj dn i) k)=some (gt cls (gt (cj dn i) k).toNat):=by
     rw [gP (k:=(gt (cj dn i) k).toNat) (by omega) (by simpa using hgl),fL (by omega),if_neg (by omega)]
    rw [if_pos rfl,abw,RW,abw,abw,abC,List.set_set]
    have e:=hlt _ (a8 h)
    obtain⟨g,rfl⟩:∃g,f=g+1:=⟨f - 1,by omega⟩
    refine⟨gt cls (gt (cj dn i) k).toNat,i64.wrap ((k:Int)+1),?_,.inr ⟨_,a8 h,hA,rfl⟩⟩
    unfold ak.l3
    rw [dv (by simpa [hc] using hi),fL (by omega),if_pos rfl,abw,if_neg (by simpa using e)]
  ·have e:k=(cj dn i).length:=by omega
   have hx:ix (cj dn i++[(i:Int)]) (k:Int)=some (i:Int):=by
    rw [dv (by omega)]
    subst e; unfold gt; rw [abO,abN (abB _),acE]; rfl
   rw [hx,abw,if_neg (by simp)]
   refine⟨(i:Int),_,rfl,.inl ⟨rfl,fun g hg=>?_⟩⟩
   obtain⟨q,hq,e2⟩:=gq hg
   rw [←e2]; exact tT q (by omega)
theorem JI {l:List ah}{dn:List Bool}{c0 cls:List Int}{i:Nat}(hi:i<l.length)(hd:gb dn i=false)(P:Sh l dn c0 i cls){v:Int}
  (hv:v=i∧(∀g∈cj dn i,¬Alike (nd l i) (nd l g))∨∃g∈cj dn i,Alike (nd l i) (nd l g)∧v=gt cls g.toNat):Sh l dn c0 (i+1) (cls.set i v):=by
 have hr:cj dn (i+1)=cj dn i++[(i:Int)]:=by show (if gb dn i=true then _ else _)=_; rw [if_neg (by rw [hd]; simp)]
 have gc:∀x,x≠i→gt (cls.set i v) x=gt cls x:=fun x hx=>by rw [fL (by rw [P.lc]; exact hi),if_neg hx]
 have gi:gt (cls.set i v) i=v:=by rw [fL (by rw [P.lc]; exact hi),if_pos rfl]
 have Tb:∀{x:Int},x∈cj dn i→0≤x∧x<i:=fun h=>by obtain⟨j,a,b,c⟩:=jM.1 h; omega
 refine⟨by simpa using P.lc,fun j hj=>?_,fun j hj=>?_⟩
 ·rw [gc j (fun e=>by subst e; rw [hd] at hj; cases hj)]; exact P.old j hj
 ·rw [hr] at hj ⊢
  rcases abP.1 hj with hj | hj
  ·obtain⟨r1,r2,r3⟩:=P.rC j hj
   have hji:=Tb hj
   rw [gc j (by omega)]
   refine⟨ab6 _ r1,r2,fun g hg hA=>?_⟩
   rcases abP.1 hg with hg | hg
   ·exact r3 g hg hA
   ·have:=Tb r1
    rw [abI] at hg; omega
  ·rw [abI] at hj
   have e:j=i:=by omega
   subst e
   rw [gi]
   rcases hv with⟨rfl,h⟩| ⟨g,g1,g2,rfl⟩
   ·refine⟨by simp,Alike.refl _,fun g hg hA=>?_⟩
    rcases abP.1 hg with hg | hg
    ·exact absurd hA (h g hg)
    ·rw [abI] at hg; omega
   ·have R7:=Tb g1
    have eg:((g.toNat:Nat):Int)=g:=by omega
    obtain⟨r1,r2,r3⟩:=P.rC g.toNat (by rw [eg]; exact g1)
    rw [eg] at r2 r3
    refine⟨ab6 _ r1,g2.trans r2,fun x hx hA=>?_⟩
    rcases abP.1 hx with hx | hx
    ·exact r3 x hx (g2.symm.trans hA)
    ·have:=Tb r1
     rw [abI] at hx; omega
theorem Dw {m:Nat}(hm:2 ^ 30≤m){l:List ah}(ok:lS l){dn:List Bool}(hd:dn.length=l.length){c0:List Int}:∀(f i:Nat) (cls:List Int),l.length - i<f→i≤l.length→Sh l dn c0 i cls→
  ∃ko x,ak.l2 m l dn f cls (cj dn i) (i:Int)=some (ko,cj dn l.length,x)∧Sh l dn c0 l.length ko
 | 0,i,cls,hf,_,_=>absurd hf (by omega)
 | f+1,i,cls,hf,hi,P=>by
  have rl:(2:Nat) ^ 30=1073741824:=by decide
  have h8:=ok.1
  unfold ak.l2
  by_cases h:i<l.length
  ·have hgb:ix dn (i:Int)=some (gb dn i):=by
    have:=wi (l:=dn) (i:=(i:Int)) (by omega) (by rw [abC]; omega)
    rwa [abC] at this
   have ew:i64.wrap ((i:Int)+1)=((i+1:Nat):Int):=by rw [bl (by omega) (by omega)]; omega
   rw [if_pos (by simp only [decide_eq_true_eq]; omega),hgb,abw,ew]
   cases VW:gb dn i with
   | true=>
    have hr:cj dn (i+1)=cj dn i:=by show (if gb dn i=true then _ else _)=_; rw [if_pos VW]
    rw [if_pos rfl,←hr]
    exact Dw hm ok hd f (i+1) cls (by omega) (by omega) ⟨P.lc,P.old,fun j hj=>by rw [hr] at hj ⊢; exact P.rC j hj⟩
   | false=>
    have hr:cj dn (i+1)=cj dn i++[(i:Int)]:=by show (if gb dn i=true then _ else _)=_; rw [if_neg (by rw [VW]; simp)]
    have Na:=jh (dn:=dn) i
    have pW:app 8 (cj dn i) [(i:Int)]=some (cj dn i++[(i:Int)]):=by unfold app; rw [if_pos (by simp; omega)]
    obtain⟨v,x,k1,k2⟩:=JH (m:=m) ok h P.lc (fun g hg e=>by
     obtain⟨j,a,b,c⟩:=jM.1 hg
     have:=(P.rC j (by rw [←c]; exact hg)).1
     obtain⟨j',a',b',c'⟩:=jM.1 this
     rw [c,abC] at e; omega) m 0 (by omega) (by omega) (fun q hq=>absurd hq (by omega))
    have k1:ak.l3 m l (i:Int) (cj dn i++[(i:Int)]) m (cls.set i (i:Int)) 0=_:=k1
    rw [if_neg (by simp),pW,abw,dv (by rw [P.lc]; exact h),abw,abC,k1,abw]
    dsimp only
    rw [←hr]
    exact Dw hm ok hd f (i+1) _ (by omega) (by omega) (JI h VW P k2)
  ·have e:i=l.length:=by omega
   subst e
   exact⟨cls,_,by rw [if_neg (by simp)],P⟩
end Go.Proofs.YtifafejidnjckaaGreat
namespace Go.Proofs.YtifafejidnjckaaGreat
open Go Go.R
open Go.IntKind (i64 u64 u8 u32)
structure Fg (l:List ah)(dn:List Bool)(c0 cls:List Int):Prop where
 lc:cls.length=l.length
 old:∀j,j<l.length→gb dn j=true→gt cls j=gt c0 j
 rC:∀j:Nat,(j:Int)∈cj dn l.length→gt cls j∈cj dn l.length∧gt cls j≤j∧gt cls (gt cls j).toNat=gt cls j∧Alike (nd l j) (nd l (gt cls j))
 coarse:∀R,Gr l R→∀i j:Nat,R i j→(i:Int)∈cj dn l.length→(j:Int)∈cj dn l.length→gt cls i=gt cls j
theorem ic {dn:List Bool}{p:Nat}{x:Int}(h:x∈cj dn p):0≤x∧x<p∧((x.toNat:Nat):Int)=x:=by
 obtain⟨j,a,b,c⟩:=jM.1 h; omega
theorem Gv {l:List ah}{dn:List Bool}{c0 cls:List Int}(P:Sh l dn c0 l.length cls):Fg l dn c0 cls:=by
 have mn:∀i j:Nat,(i:Int)∈cj dn l.length→(j:Int)∈cj dn l.length→Alike (nd l i) (nd l j)→gt cls i≤gt cls j:=fun i j hi hj hA=>by
  obtain⟨r1,r2,r3⟩:=P.rC j hj
  exact (P.rC i hi).2.2 _ r1 (hA.trans r2)
 refine⟨P.lc,fun j _ h=>P.old j h,fun j hj=>?_,fun R B i j hR hi hj=>?_⟩
 ·obtain⟨r1,r2,r3⟩:=P.rC j hj
  have e:=(ic r1).2.2
  refine⟨r1,r3 j hj (Alike.refl _),?_,r2⟩
  have h1:=mn j (gt cls j).toNat hj (by rw [e]; exact r1) (by rw [e]; exact r2)
  have h2:=mn (gt cls j).toNat j (by rw [e]; exact r1) hj (by rw [e]; exact r2.symm)
  omega
 ·have h1:=mn i j hi hj (B.top i j hR)
  have h2:=mn j i hj hi (B.top i j hR).symm
  omega
def Qr (l:List ah)(cls:List Int)(j g:Nat):Prop:=gt cls j=gt cls g∧SA l cls j g
theorem Fg.al {l dn c0 cls}(P:Fg l dn c0 cls){i j:Nat}(hi:(i:Int)∈cj dn l.length)(hj:(j:Int)∈cj dn l.length)(h:gt cls i=gt cls j):Alike (nd l i) (nd l j):=by
 have a:=(P.rC i hi).2.2.2
 have b:=(P.rC j hj).2.2.2
 rw [h] at a
 exact a.trans b.symm
theorem Fg.MM {l dn c0 cls}(P:Fg l dn c0 cls){i j:Nat}(hi:(i:Int)∈cj dn l.length)(hj:(j:Int)∈cj dn l.length)(h:Qr l cls i j):Qr l cls j i:=
 ⟨h.1.symm,fun k hk=>(h.2 k (by have:=(P.al hi hj h.1).len; unfold na at *; omega)).symm⟩
theorem Fg.Dx {l dn c0 cls}(P:Fg l dn c0 cls){i j q:Nat}(hi:(i:Int)∈cj dn l.length)(hj:(j:Int)∈cj dn l.length)(h:Qr l cls i j)(g:Qr l cls j q):Qr l cls i q:=
 ⟨h.1.trans g.1,fun k hk=>(h.2 k hk).trans (g.2 k (by have:=(P.al hi hj h.1).len; unfold na at *; omega))⟩
theorem JJ {m:Nat}(hm:2 ^ 30≤m){l:List ah}{dn:List Bool}{c0 cls nx:List Int}(ok:lS l)(P:Fg l dn c0 cls)(hnx:nx.length=l.length){J:Nat}(hJ:J<(cj dn l.length).length)
  (hlt:∀q,q<J→gt nx (gt (cj dn l.length) q).toNat≠gt (cj dn l.length) J):∀(f k:Nat),J - k+2≤f→k≤J→(∀q,q<k→¬Qr l cls (gt (cj dn l.length) J).toNat (gt (cj dn l.length) q).toNat)→
  ∃w x,ak.l6 m l (cj dn l.length) cls (J:Int) (gt (cj dn l.length) J) f (nx.set (gt (cj dn l.length) J).toNat (gt (cj dn l.length) J)) (k:Int)=some (nx.set (gt (cj dn l.length) J).toNat w,x)∧
   (w=gt (cj dn l.length) J∧(∀q,q<J→¬Qr l cls (gt (cj dn l.length) J).toNat (gt (cj dn l.length) q).toNat)∨∃q,q<J∧Qr l cls (gt (cj dn l.length) J).toNat (gt (cj dn l.length) q).toNat∧w=gt nx (gt (cj dn l.length) q).toNat)
 | 0,k,hf,_,_=>absurd hf (by omega)
 | f+1,k,hf,hk,tT=>by
  have rl:(2:Nat) ^ 30=1073741824:=by decide
  have h8:=ok.1
  have Na:=jh (dn:=dn) l.length
  have mJ:=a8 hJ
  obtain⟨v0,v1,v2⟩:=ic mJ
  unfold ak.l6
  have pf:∀w,ix (nx.set (gt (cj dn l.length) J).toNat w) (gt (cj dn l.length) J)=some w:=fun w=>by
   rw [gP (k:=(gt (cj dn l.length) J).toNat) (by omega) (by rw [abF]; omega),fL (by omega),if_pos rfl]
  rw [pf,abw,if_pos (by simp)]
  by_cases h:k<J
  ·have mk:=a8 (l:=cj dn l.length) (k:=k) (by omega)
   obtain⟨w0,w1,w2⟩:=ic mk
   have next:¬Qr l cls (gt (cj dn l.length) J).toNat (gt (cj dn l.length) k).toNat→∃w x,ak.l6 m l (cj dn l.length) cls (J:Int) (gt (cj dn l.length) J) f (nx.set (gt (cj dn l.length) J).toNat (gt (cj dn l.length) J)) (i64.wrap ((k:Int)+1))=some (nx.set (gt (cj dn l.length) J).toNat w,x)∧
     (w=gt (cj dn l.length) J∧(∀q,q<J→¬Qr l cls (gt (cj dn l.length) J).toNat (gt (cj dn l.length) q).toNat)∨∃q,q<J∧Qr l cls (gt (cj dn l.length) J).toNat (gt (cj dn l.length) q).toNat∧w=gt nx (gt (cj dn l.length) q).toNat):=fun hn=>by
    rw [bl (by omega) (by omega),show (k:Int)+1=((k+1:Nat):Int) by omega]
    refine JJ hm ok P hnx hJ hlt f (k+1) (by omega) (by omega) fun q hq=>?_
    by_cases e:q=k
    ·subst e; exact hn
    ·exact tT q (by omega)
   have c1:ix cls (gt (cj dn l.length) J)=some (gt cls (gt (cj dn l.length) J).toNat):=gP v2.symm (by rw [P.lc]; omega)
   have c2:ix cls (gt (cj dn l.length) k)=some (gt cls (gt (cj dn l.length) k).toNat):=gP w2.symm (by rw [P.lc]; omega)
   rw [if_pos (by simp only [decide_eq_true_eq]; omega),c1,abw,dv (by omega),abw,c2,abw]
   by_cases e:gt cls (gt (cj dn l.length) J).toNat=gt cls (gt (cj dn l.length) k).toNat
   ·have hA:=P.al (i:=(gt (cj dn l.length) J).toNat) (j:=(gt (cj dn l.length) k).toNat) (by rw [v2]; exact mJ) (by rw [w2]; exact mk) e
    obtain⟨xs,s1,s2⟩:=E5 hm ok P.lc (i:=(gt (cj dn l.length) J).toNat) (j:=(gt (cj dn l.length) k).toNat) (by omega) (by omega) hA.len
    rw [v2,w2] at s1
    rw [if_pos (by simpa using e),iZ (by omega) (by omega),abw,abw,iZ (by omega) (by omega),abw,s1,abw]
    cases xs with
    | false=>
     rw [if_neg (by simp)]
     exact next fun h=>by have:=s2.2 h.2; cases this
    | true=>
     have hQ:Qr l cls (gt (cj dn l.length) J).toNat (gt (cj dn l.length) k).toNat:=⟨e,s2.1 rfl⟩
     have hne:(gt (cj dn l.length) k).toNat≠(gt (cj dn l.length) J).toNat:=by have:=oy (dn:=dn) (p:=l.length) h hJ; omega
     have n1:ix (nx.set (gt (cj dn l.length) J).toNat (gt (cj dn l.length) J)) (gt (cj dn l.length) k)=some (gt nx (gt (cj dn l.length) k).toNat):=by
      rw [gP w2.symm (by rw [abF]; omega),fL (by omega),if_neg hne]
     obtain⟨g,rfl⟩:∃g,f=g+1:=⟨f - 1,by omega⟩
     rw [if_pos rfl,abw,n1,abw,abw,List.set_set]
     refine⟨gt nx (gt (cj dn l.length) k).toNat,i64.wrap ((k:Int)+1),?_,.inr ⟨k,h,hQ,rfl⟩⟩
     unfold ak.l6
     rw [pf,abw,if_neg (by simpa using hlt k h)]
   ·rw [if_neg (by simpa using e)]
    exact next fun h=>e h.1
  ·have e:k=J:=by omega
   rw [if_neg (by simp only [decide_eq_true_eq]; omega)]
   exact⟨gt (cj dn l.length) J,_,rfl,.inl ⟨rfl,fun q hq=>tT q (by omega)⟩⟩
structure N5 (l:List ah)(dn:List Bool)(cls:List Int)(p:Nat)(nx:List Int):Prop where
 ln:nx.length=l.length
 OR:∀x:Nat,(x:Int)∉cj dn l.length→gt nx x=gt cls x
 Si:∀q,p≤q→q<(cj dn l.length).length→gt nx (gt (cj dn l.length) q).toNat=gt cls (gt (cj dn l.length) q).toNat
 new:∀q,q<p→gt nx (gt (cj dn l.length) q).toNat∈cj dn l.length∧Qr l cls (gt (cj dn l.length) q).toNat (gt nx (gt (cj dn l.length) q).toNat).toNat∧∀g∈cj dn l.length,Qr l cls (gt (cj dn l.length) q).toNat g.toNat→gt nx (gt (cj dn l.length) q).toNat≤g
theorem zO {dn:List Bool}{n p q:Nat}(hp:p<(cj dn n).length)(hq:q<(cj dn n).length)(e:(gt (cj dn n) p).toNat=(gt (cj dn n) q).toNat):p=q:=by
 have a:=(ic (a8 hp)).2.2
 have b:=(ic (a8 hq)).2.2
 rcases Nat.lt_trichotomy p q with h | h | h
 ·have:=oy (dn:=dn) (p:=n) h hq; omega
 ·exact h
 ·have:=oy (dn:=dn) (p:=n) h hp; omega
theorem LQ {l:List ah}{dn:List Bool}{c0 cls nx:List Int}(P:Fg l dn c0 cls){p:Nat}(hp:p<(cj dn l.length).length)(N:N5 l dn cls p nx){w:Int}
  (hw:w=gt (cj dn l.length) p∧(∀q,q<p→¬Qr l cls (gt (cj dn l.length) p).toNat (gt (cj dn l.length) q).toNat)∨∃q,q<p∧Qr l cls (gt (cj dn l.length) p).toNat (gt (cj dn l.length) q).toNat∧w=gt nx (gt (cj dn l.length) q).toNat) :
  N5 l dn cls (p+1) (nx.set (gt (cj dn l.length) p).toNat w):=by
 have mp:=a8 hp
 obtain⟨v0,v1,v2⟩:=ic mp
 have gc:∀x,x≠(gt (cj dn l.length) p).toNat→gt (nx.set (gt (cj dn l.length) p).toNat w) x=gt nx x:=fun x hx=>by rw [fL (by rw [N.ln]; omega),if_neg hx]
 have gi:gt (nx.set (gt (cj dn l.length) p).toNat w) (gt (cj dn l.length) p).toNat=w:=by rw [fL (by rw [N.ln]; omega),if_pos rfl]
 refine⟨by simpa using N.ln,fun x hx=>?_,fun q h1 h2=>?_,fun q hq=>?_⟩
 ·rw [gc x (fun e=>hx (by rw [e,v2]; exact mp))]; exact N.OR x hx
 ·rw [gc _ (fun e=>by have:=zO h2 hp e; omega)]; exact N.Si q (by omega) h2
 ·by_cases e:q=p
  ·subst e
   rw [gi]
   rcases hw with⟨rfl,h⟩| ⟨q',h1,h2,rfl⟩
   ·refine⟨mp,⟨rfl,fun _ _=>rfl⟩,fun g hg hQ=>?_⟩
    obtain⟨k,hk,rfl⟩:=gq hg
    by_cases hkq:k<q
    ·exact absurd hQ (h k hkq)
    ·by_cases VX:k=q
     ·subst VX; exact Int.le_refl _
     ·have:=oy (dn:=dn) (p:=l.length) (k:=q) (q:=k) (by omega) hk; omega
   ·have mq:=a8 (l:=cj dn l.length) (k:=q') (by omega)
    have eq2:=(ic mq).2.2
    obtain⟨n1,n2,n3⟩:=N.new q' h1
    have e3:=(ic n1).2.2
    have s1:((gt (cj dn l.length) q).toNat:Int)∈cj dn l.length:=by rw [v2]; exact mp
    have s2:((gt (cj dn l.length) q').toNat:Int)∈cj dn l.length:=by rw [eq2]; exact mq
    exact⟨n1,P.Dx s1 s2 h2 n2,fun g hg hQ=>n3 g hg (P.Dx s2 s1 (P.MM s1 s2 h2) hQ)⟩
  ·rw [gc _ (fun e2=>by have:=zO (dn:=dn) (n:=l.length) (by omega) hp e2; omega)]
   exact N.new q (by omega)
theorem Dy {m:Nat}(hm:2 ^ 30≤m){l:List ah}{dn:List Bool}{c0 cls:List Int}(ok:lS l)(P:Fg l dn c0 cls):∀(f p:Nat) (more:Bool) (nx:List Int),(cj dn l.length).length - p<f→p≤(cj dn l.length).length→N5 l dn cls p nx→
  (more=true↔∃q,q<p∧gt nx (gt (cj dn l.length) q).toNat≠gt cls (gt (cj dn l.length) q).toNat)→
  ∃jw VY x,ak.l5 m l (cj dn l.length) cls f more nx (p:Int)=some (jw,VY,x)∧N5 l dn cls (cj dn l.length).length VY∧(jw=true↔∃q,q<(cj dn l.length).length∧gt VY (gt (cj dn l.length) q).toNat≠gt cls (gt (cj dn l.length) q).toNat)
 | 0,p,_,_,hf,_,_,_=>absurd hf (by omega)
 | f+1,p,more,nx,hf,hp,N,oz=>by
  have rl:(2:Nat) ^ 30=1073741824:=by decide
  have h8:=ok.1
  have Na:=jh (dn:=dn) l.length
  unfold ak.l5
  by_cases h:p<(cj dn l.length).length
  ·have mp:=a8 h
   obtain⟨v0,v1,v2⟩:=ic mp
   obtain⟨w,x,k1,k2⟩:=JJ hm ok P N.ln h (fun q hq=>by
    obtain⟨n1,n2,n3⟩:=N.new q hq
    have mq:=a8 (l:=cj dn l.length) (k:=q) (by omega)
    have:=n3 _ mq ⟨rfl,fun _ _=>rfl⟩
    have:=oy (dn:=dn) (p:=l.length) hq h
    omega) m 0 (by omega) (by omega) (fun q hq=>absurd hq (by omega))
   have k1:ak.l6 m l (cj dn l.length) cls (p:Int) (gt (cj dn l.length) p) m (nx.set (gt (cj dn l.length) p).toNat (gt (cj dn l.length) p)) 0=_:=k1
   have N':=LQ P h N k2
   have ew:i64.wrap ((p:Int)+1)=((p+1:Nat):Int):=by rw [bl (by omega) (by omega)]; omega
   have c0':ix nx (gt (cj dn l.length) p)=some (gt nx (gt (cj dn l.length) p).toNat):=gP v2.symm (by rw [N.ln]; omega)
   have c1:ix cls (gt (cj dn l.length) p)=some (gt cls (gt (cj dn l.length) p).toNat):=gP v2.symm (by rw [P.lc]; omega)
   have c2:ix (nx.set (gt (cj dn l.length) p).toNat w) (gt (cj dn l.length) p)=some w:=by
    rw [gP v2.symm (by rw [abF,N.ln]; omega),fL (by rw [N.ln]; omega),if_pos rfl]
   have gw:gt (nx.set (gt (cj dn l.length) p).toNat w) (gt (cj dn l.length) p).toNat=w:=by rw [fL (by rw [N.ln]; omega),if_pos rfl]
   have old:∀q,q<p→gt (nx.set (gt (cj dn l.length) p).toNat w) (gt (cj dn l.length) q).toNat=gt nx (gt (cj dn l.length) q).toNat:=fun q hq=>by
    rw [fL (by rw [N.ln]; omega),if_neg (fun e=>by have:=zO (dn:=dn) (n:=l.length) (by omega) h e; omega)]
   rw [if_pos (by simp only [decide_eq_true_eq]; omega),dv h,abw,c0',abw,k1,abw]
   dsimp only
   rw [ew]
   cases more with
   | true=>
    rw [if_pos rfl]
    refine Dy hm ok P f (p+1) true _ (by clear oz k2; omega) (by clear oz k2; omega) N' ⟨fun _=>?_,fun _=>rfl⟩
    obtain⟨q,q1,q2⟩:=oz.1 rfl
    exact⟨q,by omega,by rw [old q q1]; exact q2⟩
   | false=>
    rw [if_neg (by simp),c2,abw,c1,abw]
    refine Dy hm ok P f (p+1) _ _ (by clear oz k2; omega) (by clear oz k2; omega) N' ?_
    constructor
    ·intro hb
     refine⟨p,by omega,?_⟩
     rw [gw]; simpa using hb
    ·rintro⟨q,q1,q2⟩
     by_cases e:q=p
     ·subst e; rw [gw] at q2; simpa using q2
     ·rw [old q (by omega)] at q2
      have:=oz.2 ⟨q,by omega,q2⟩
      cases this
  ·have e:p=(cj dn l.length).length:=by omega
   subst e
   exact⟨more,nx,_,by rw [if_neg (by simp)],N,oz⟩
theorem JK {l:List ah}{dn:List Bool}{c0 cls nx:List Int}{od:List Int}(ok:lS l)(P:Fg l dn c0 cls)(N:N5 l dn cls (cj dn l.length).length nx)
  (Ah:∀j,j<l.length→(gb dn j=true↔(j:Int)∈od)) (Pb:∀R,Gr l R→∀i j:Nat,R i j→(i:Int)∈od→(j:Int)∈od→gt c0 i=gt c0 j)
  (hfin:∀R,Gr l R→∀i j:Nat,R i j→(i:Int)∈od→(j:Int)∈od):Fg l dn c0 nx:=by
 have Sj:∀j,j<l.length→gb dn j=true→(j:Int)∉cj dn l.length:=fun j _ h hm=>by
  obtain⟨j',a,b,c⟩:=jM.1 hm
  have:j=j':=by omega
  subst this; rw [h] at b; cases b
 have w8:∀j,j<l.length→(j:Int)∉od→(j:Int)∈cj dn l.length:=fun j hj h=>jM.2 ⟨j,hj,by
  cases hb:gb dn j with
  | true=>exact absurd ((Ah j hj).1 hb) h
  | false=>rfl,rfl⟩
 have atR:∀j:Nat,(j:Int)∈cj dn l.length→gt nx j∈cj dn l.length∧Qr l cls j (gt nx j).toNat∧∀g∈cj dn l.length,Qr l cls j g.toNat→gt nx j≤g:=fun j hj=>by
  obtain⟨q,hq,e⟩:=gq hj
  have:=N.new q hq
  rw [e,abC] at this
  exact this
 have mn:∀i j:Nat,(i:Int)∈cj dn l.length→(j:Int)∈cj dn l.length→Qr l cls i j→gt nx i≤gt nx j:=fun i j hi hj hQ=>by
  obtain⟨r1,r2,r3⟩:=atR j hj
  exact (atR i hi).2.2 _ r1 (P.Dx hi hj hQ r2)
 have XV:∀i j:Nat,(i:Int)∈cj dn l.length→(j:Int)∈cj dn l.length→Qr l cls i j→gt nx i=gt nx j:=fun i j hi hj hQ=>by
  have h1:=mn i j hi hj hQ
  have h2:=mn j i hj hi (P.MM hi hj hQ)
  omega
 refine⟨N.ln,fun j hj h=>by rw [N.OR j (Sj j hj h)]; exact P.old j hj h,fun j hj=>?_,fun R B i j hR hi hj=>?_⟩
 ·obtain⟨r1,r2,r3⟩:=atR j hj
  have e:=(ic r1).2.2
  have xh:(((gt nx j).toNat:Nat):Int)∈cj dn l.length:=by rw [e]; exact r1
  refine⟨r1,r3 j hj ⟨rfl,fun _ _=>rfl⟩,(XV j _ hj xh r2).symm,?_⟩
  have:=P.al hj xh r2.1
  rw [e] at this; exact this
 ·refine XV i j hi hj ⟨P.coarse R B i j hR hi hj,fun k hk=>?_⟩
  have Sk:R (ar l i k) (ar l j k):=B.arg i j hR k hk
  obtain⟨ra,rb⟩:=B.oY _ _ Sk
  by_cases ha:((ar l i k:Nat):Int)∈od
  ·have hb:=hfin R B _ _ Sk ha
   rw [P.old _ ra ((Ah _ ra).2 ha),P.old _ rb ((Ah _ rb).2 hb)]
   exact Pb R B _ _ Sk ha hb
  ·have hb:((ar l j k:Nat):Int)∉od:=fun h=>ha (hfin _ B.symm _ _ Sk h)
   exact P.coarse R B _ _ Sk (w8 _ ra ha) (w8 _ rb hb)
def wv (dn:List Bool)(n:Nat)(cls:List Int):List Int:=(cj dn n).filter fun j=>gt cls j.toNat==j
theorem Gw {dn:List Bool}{n:Nat}:(cj dn n).Nodup:=by
 unfold List.Nodup
 rw [List.pairwise_iff_getElem]
 intro i j hi hj zT e
 have:=oy (dn:=dn) (p:=n) zT hj
 have a:=bP hi
 have b:=bP hj
 rw [abD hi] at a
 rw [abD hj] at b
 have a:=ab8 a
 have b:=ab8 b
 omega
theorem JL {m:Nat}(hm:2 ^ 30≤m){l:List ah}{dn:List Bool}{c0 od:List Int}(ok:lS l)
  (Ah:∀j,j<l.length→(gb dn j=true↔(j:Int)∈od)) (Pb:∀R,Gr l R→∀i j:Nat,R i j→(i:Int)∈od→(j:Int)∈od→gt c0 i=gt c0 j)
  (hfin:∀R,Gr l R→∀i j:Nat,R i j→(i:Int)∈od→(j:Int)∈od):∀(f:Nat) (cls:List Int),(cj dn l.length).length - (wv dn l.length cls).length+1<f→Fg l dn c0 cls→
  ∃ko,ak.l4 m l (cj dn l.length) f cls true=some (ko,false)∧Fg l dn c0 ko∧∀j:Nat,(j:Int)∈cj dn l.length→SA l ko j (gt ko j).toNat
 | 0,cls,hf,_=>absurd hf (by omega)
 | f+1,cls,hf,P=>by
  have rl:(2:Nat) ^ 30=1073741824:=by decide
  have h8:=ok.1
  have Na:=jh (dn:=dn) l.length
  unfold ak.l4
  have pW:app 8 ([]:List Int) cls=some cls:=by unfold app; rw [if_pos (by simp; rw [P.lc]; omega),aci]
  obtain⟨jw,nx,x,k1,N,oz⟩:=Dy hm ok P m 0 false cls (by omega) (by omega) ⟨P.lc,fun _ _=>rfl,fun _ _ _=>rfl,fun q hq=>absurd hq (by omega)⟩ ⟨fun h=>(by cases h),fun ⟨q,hq,_⟩=>absurd hq (by omega)⟩
  have k1:ak.l5 m l (cj dn l.length) cls m false cls 0=_:=k1
  have P':=JK ok P N Ah Pb hfin
  rw [if_pos rfl,pW,abw,k1,abw]
  dsimp only
  cases XW:jw with
  | true=>
   obtain⟨q,hq,hne⟩:=oz.1 XW
   have mq:=a8 hq
   have eq2:=(ic mq).2.2
   obtain⟨n1,n2,n3⟩:=N.new q hq
   have e3:=(ic n1).2.2
   have XX:(wv dn l.length cls).length+1≤(wv dn l.length nx).length:=by
    have nd1:(gt nx (gt (cj dn l.length) q).toNat::wv dn l.length cls).Nodup:=by
     rw [List.nodup_cons]
     refine⟨fun h=>?_,List.Pairwise.filter _ Gw⟩
     have:=(acW.1 h).2
     have:=beq_iff_eq.1 this
     exact hne (by rw [n2.1,this])
    have:=nd1.length_le_of_subset (l₂:=wv dn l.length nx) (fun y hy=>by
     rcases ab0.1 hy with rfl | hy
     ·refine acW.2 ⟨n1,?_⟩
      have:=(P'.rC (gt (cj dn l.length) q).toNat (by rw [eq2]; exact mq)).2.2.1
      rw [beq_iff_eq]; exact this
     ·obtain⟨y1,y2⟩:=acW.1 hy
      have y2:=beq_iff_eq.1 y2
      refine acW.2 ⟨y1,?_⟩
      have ey:=(ic y1).2.2
      rw [beq_iff_eq]
      obtain⟨k,hk,e⟩:=gq y1
      obtain⟨m1,m2,m3⟩:=N.new k hk
      rw [e] at m1 m2 m3
      have a1:=m3 y y1 ⟨rfl,fun _ _=>rfl⟩
      have em:=(ic m1).2.2
      have a2:=(P.rC (gt nx y.toNat).toNat (by rw [em]; exact m1)).2.1
      rw [←m2.1,y2] at a2
      omega)
    simpa using this
   have hle:(wv dn l.length nx).length≤(cj dn l.length).length:=List.length_filter_le _ _
   exact JL hm ok Ah Pb hfin f nx (by clear oz; omega) P'
  | false=>
   obtain⟨g,rfl⟩:∃g,f=g+1:=⟨f - 1,by omega⟩
   have same:∀j:Nat,(j:Int)∈cj dn l.length→gt nx j=gt cls j:=fun j hj=>by
    obtain⟨k,hk,e⟩:=gq hj
    by_cases hne:gt nx j=gt cls j
    ·exact hne
    ·have:=oz.2 ⟨k,hk,by rw [e,abC]; exact hne⟩
     rw [XW] at this; cases this
   have enx:nx=cls:=I3 (by rw [N.ln,P.lc]) fun k hk=>by
    by_cases h:(k:Int)∈cj dn l.length
    ·exact same k h
    ·exact N.OR k h
   refine⟨nx,?_,P',fun j hj=>?_⟩
   ·unfold ak.l4
    rw [if_neg (by simp)]
   ·obtain⟨k,hk,e⟩:=gq hj
    obtain⟨m1,m2,m3⟩:=N.new k hk
    rw [e,abC] at m2
    rw [enx] at m2 ⊢
    exact m2.2
end Go.Proofs.YtifafejidnjckaaGreat
namespace Go.Proofs.YtifafejidnjckaaGreat
open Go Go.R
open Go.IntKind (i64 u64 u8 u32)
structure OS (l:List ah)(c od:List Int):Prop where
 min:Min l c
 rC:∀i,i<l.length→0≤gt c i∧gt c i<l.length∧gt c (gt c i).toNat=gt c i
 w7:∀i:Nat,(i:Int)∈od→∀k,k<na l i→((ar l i k:Nat):Int)∈od∧od.idxOf ((ar l i k:Nat):Int)<od.idxOf (i:Int)
 big:∀i,i<l.length→(i:Int)∉od→gt c i≤i
theorem OU {n k:Nat}:gb (abM n false) k=false:=by
 unfold gb; rw [abO,List.getElem?_replicate]; split<;>rfl
theorem BP {m:Nat}(hm:2 ^ 30≤m){l:List ah}(ok:lS l):∃c od,ak.f m l=some c∧OS l c od:=by
 have rl:(2:Nat) ^ 30=1073741824:=by decide
 have h8:=ok.1
 unfold ak.f
 have e0:pX 8 (l.length:Int) (0:Int)=some (abM l.length 0):=by unfold pX; rw [if_pos ⟨by omega,by rw [abC]; omega⟩,abC]
 have e1:pX 1 (l.length:Int) false=some (abM l.length false):=by unfold pX; rw [if_pos ⟨by omega,by rw [abC]; omega⟩,abC]
 obtain⟨c0,dn,fs,od,k1,P1,hq⟩:=JG hm ok m (abM l.length 0) (abM l.length false) [] [] (by simp; omega)
  {lc:=by simp,ld:=by simp,VU:=by simp,OQ:=(by intro x hx; cases hx),Kf:=(by intro i hi; rw [OU]; simp),w7:=(by intro i hi; cases hi),S8:=by simp,fst:=(by intro f hf; cases hf),rC:=(by intro i hi; cases hi),apart:=(by intro f hf; cases hf),coarse:=(by intro R B i j hR hi; cases hi)}
 obtain⟨c1,x,k2,P2⟩:=Dw hm ok P1.ld (c0:=c0) m 0 c0 (by omega) (by omega) {lc:=P1.lc,old:=fun _ _=>rfl,rC:=(by intro j hj; cases hj)}
 have k2:ak.l2 m l dn m c0 [] 0=_:=k2
 have hfin:∀R,Gr l R→∀i j:Nat,R i j→(i:Int)∈od→(j:Int)∈od:=by
  intro R B
  have:∀N i j:Nat,od.idxOf (i:Int)<N→R i j→(i:Int)∈od→(j:Int)∈od:=by
   intro N
   induction N with
   | zero=>intro i j h; omega
   | succ N ih=>
    intro i j hN hR hi
    by_cases hj:(j:Int)∈od
    ·exact hj
    ·obtain⟨k,g1,g2⟩:=hq j (B.oY i j hR).2 hj
     have tU:k<na l i:=by have:=(B.top i j hR).len; unfold na at *; omega
     obtain⟨r1,r2⟩:=P1.w7 i hi k tU
     exact absurd (ih (ar l i k) (ar l j k) (by omega) (B.arg i j hR k tU) r1) g2
  exact fun i j=>this (od.idxOf (i:Int)+1) i j (by omega)
 obtain⟨c,k3,P3,hS⟩:=JL hm ok P1.Kf P1.coarse hfin m c1 (by have:=jh (dn:=dn) l.length; omega) (Gv P2)
 have w8:∀j,j<l.length→(j:Int)∉od→(j:Int)∈cj dn l.length:=fun j hj h=>jM.2 ⟨j,hj,by
  cases hb:gb dn j with
  | true=>exact absurd ((P1.Kf j hj).1 hb) h
  | false=>rfl,rfl⟩
 have MN:∀{x:Int},x∈cj dn l.length→x∉od:=fun hx h=>by
  obtain⟨j,a,b,e⟩:=jM.1 hx
  subst e
  rw [(P1.Kf j a).2 h] at b; cases b
 have w9:∀j:Nat,j<l.length→(j:Int)∈od→gt c j=gt c0 j:=fun j hj h=>P3.old j hj ((P1.Kf j hj).2 h)
 have OV:∀f∈fs,0≤f∧f<l.length∧f∈od∧((f.toNat:Nat):Int)=f:=fun f hf=>by
  have a:=P1.VV f hf; have b:=(P1.fst f hf).1; exact⟨a.1,a.2,b,by omega⟩
 have VZ:∀i j:Nat,(i:Int)∈od→(j:Int)∈od→te l c0 i j→SA l c i j:=fun i j hi hj h k hk=>by
  have a:=(P1.w7 i hi k hk).1
  have b:=(P1.w7 j hj k (by have:=h.1.len; unfold na at *; omega)).1
  have ra:=P1.OQ _ a
  have rb:=P1.OQ _ b
  rw [w9 _ (by omega) a,w9 _ (by omega) b]
  exact h.2 k hk
 have both:∀i j:Nat,i<l.length→j<l.length→gt c i=gt c j→Alike (nd l i) (nd l j)∧SA l c i j:=fun i j hi hj e=>by
  by_cases h1:(i:Int)∈od
  ·obtain⟨f1,s1⟩:=P1.rC i h1
   by_cases h2:(j:Int)∈od
   ·obtain⟨f2,s2⟩:=P1.rC j h2
    rw [w9 i hi h1,w9 j hj h2] at e
    rw [e] at s1
    have s:=s1.trans s2.symm
    exact⟨s.1,VZ i j h1 h2 s⟩
   ·have:=(P3.rC j (w8 j hj h2)).1
    rw [←e,w9 i hi h1] at this
    exact absurd (OV _ f1).2.2.1 (MN this)
  ·have r1:=w8 i hi h1
   by_cases h2:(j:Int)∈od
   ·obtain⟨f2,s2⟩:=P1.rC j h2
    have:=(P3.rC i r1).1
    rw [e,w9 j hj h2] at this
    exact absurd (OV _ f2).2.2.1 (MN this)
   ·have r2:=w8 j hj h2
    have hA:=P3.al r1 r2 e
    refine⟨hA,fun k hk=>?_⟩
    have a:=hS i r1 k hk
    have b:=hS j r2 k (by have:=hA.len; unfold na at *; omega)
    rw [e] at a
    exact a.trans b.symm
 refine⟨c,od,?_,⟨P3.lc,fun i j hi hj e=>(both i j hi hj e).1,fun i j hi hj e k hk=>(both i j hi hj e).2 k hk,fun R B i j hR=>?_⟩,fun i hi=>?_,P1.w7,fun i hi h=>(P3.rC i (w8 i hi h)).2.1⟩
 ·rw [e0,abw,e1,abw,k1,abw]
  dsimp only
  rw [k2,abw]
  dsimp only
  rw [k3]; rfl
 ·obtain⟨hi,hj⟩:=B.oY i j hR
  by_cases h1:(i:Int)∈od
  ·have h2:=hfin R B i j hR h1
   rw [w9 i hi h1,w9 j hj h2]; exact P1.coarse R B i j hR h1 h2
  ·have h2:(j:Int)∉od:=fun h=>h1 (hfin _ B.symm j i hR h)
   exact P3.coarse R B i j hR (w8 i hi h1) (w8 j hj h2)
 ·by_cases h1:(i:Int)∈od
  ·obtain⟨f1,s1⟩:=P1.rC i h1
   obtain⟨a,b,d,e⟩:=OV _ f1
   rw [w9 i hi h1]
   refine⟨a,b,?_⟩
   rw [w9 _ (by omega) (by rw [e]; exact d)]
   exact (P1.fst _ f1).2
  ·obtain⟨r1,r2,r3,r4⟩:=P3.rC i (w8 i hi h1)
   have:=ic r1
   exact⟨this.1,this.2.1,r3⟩
end Go.Proofs.YtifafejidnjckaaGreat
namespace Go.Proofs.YtifafejidnjckaaGreat
open Go Go.R
open Go.IntKind (i64 u64 u8 u32)
def pm (pl:List Int)(n:ah):ah:=⟨n.kind,n.int,n.label,n.args.map fun a=>gt pl a.toNat⟩
theorem ru {l:List ah}{i:Nat}(h:i<l.length):l[i]? = some (nd l i):=by
 have:=iZ (l:=l) (i:=(i:Int)) (by omega) (by omega)
 unfold ix at this
 rwa [if_pos (by omega),abC] at this
theorem Dz {l:List ah}{i q:Nat}{x:ah}(hi:i<l.length):nd (l.set i x) q=if q=i then x else nd l q:=by
 unfold nd
 simp only [abC,abO,acZ]
 by_cases h:i=q
 ·subst h; simp [hi]
 ·rw [if_neg h,if_neg (by omega)]
theorem JM {f:ah→ah}{l:List ah}{i:Nat}(h:i<l.length):nd (l.map f) i=f (nd l i):=by
 have h1:=ru (l:=l.map f) (i:=i) (by simpa using h)
 rw [ab1,ru h] at h1
 exact (ab8 h1).symm
theorem LR {f:Int→ah}{l:List Int}{i:Nat}(h:i<l.length):nd (l.map f) i=f (gt l i):=by
 have h1:=ru (l:=l.map f) (i:=i) (by simpa using h)
 rw [ab1,bP h] at h1
 exact (ab8 h1).symm
theorem JN {l r:List ah}(hl:l.length=r.length)(h:∀k,k<l.length→nd l k=nd r k):l=r:=by
 apply acx fun k=>?_
 by_cases hk:k<l.length
 ·rw [ru hk,ru (hl ▸ hk),h k hk]
 ·rw [abU (by omega),abU (by omega)]
theorem BQ {m:Nat}{S:List Int}(hn:S.Nodup)(Sm:S.length≤8000):∀(f i:Nat) (pl:List Int),S.length - i<f→i≤S.length→(∀s∈S,0≤s∧s<pl.length)→(∀q,q<i→gt pl (gt S q).toNat=q)→
  ∃JO x,ax.l0 m S f pl (i:Int)=some (JO,x)∧JO.length=pl.length∧∀q,q<S.length→gt JO (gt S q).toNat=q
 | 0,i,pl,hf,_,_,_=>absurd hf (by omega)
 | f+1,i,pl,hf,hi,hS,hq=>by
  unfold ax.l0
  by_cases h:i<S.length
  ·obtain⟨s0,s1⟩:=hS _ (a8 h)
   have hx:∃z,ix pl (gt S i)=some z:=⟨_,gP (k:=(gt S i).toNat) (by omega) (by omega)⟩
   obtain⟨z,hx⟩:=hx
   obtain⟨JO,x,k1,k2,k3⟩:=BQ (m:=m) hn Sm f (i+1) (pl.set (gt S i).toNat (i:Int)) (by omega) (by omega) (by simpa using hS) (fun q J3=>by
    rw [fL (by omega)]
    by_cases e:q=i
    ·subst e; rw [if_pos rfl]
    ·have hne:gt S q≠gt S i:=fun e2=>e (wa hn (by omega) h e2)
     have:=hS _ (a8 (l:=S) (k:=q) (by omega))
     rw [if_neg (by omega)]; exact hq q (by omega))
   refine⟨JO,x,?_,by simpa using k2,k3⟩
   rw [if_pos (by simp only [decide_eq_true_eq]; omega),dv h,abw,hx,abw,bl (by omega) (by omega),show (i:Int)+1=((i+1:Nat):Int) by omega]
   exact k1
  ·exact⟨pl,_,by rw [if_neg (by simp only [decide_eq_true_eq]; omega)],rfl,fun q h=>hq q (by omega)⟩
theorem BR {m:Nat}{S:List Int}(hn:S.Nodup)(Sm:S.length≤8000):∀(f i:Nat) (pl:List Int),S.length - i<f→i≤S.length→(∀s∈S,0≤s∧s<pl.length)→(∀q,q<i→gt pl (gt S q).toNat=q)→
  ∃JO x,ax.l5 m S f pl (i:Int)=some (JO,x)∧JO.length=pl.length∧∀q,q<S.length→gt JO (gt S q).toNat=q
 | 0,i,pl,hf,_,_,_=>absurd hf (by omega)
 | f+1,i,pl,hf,hi,hS,hq=>by
  unfold ax.l5
  by_cases h:i<S.length
  ·obtain⟨s0,s1⟩:=hS _ (a8 h)
   have hx:∃z,ix pl (gt S i)=some z:=⟨_,gP (k:=(gt S i).toNat) (by omega) (by omega)⟩
   obtain⟨z,hx⟩:=hx
   obtain⟨JO,x,k1,k2,k3⟩:=BR (m:=m) hn Sm f (i+1) (pl.set (gt S i).toNat (i:Int)) (by omega) (by omega) (by simpa using hS) (fun q J3=>by
    rw [fL (by omega)]
    by_cases e:q=i
    ·subst e; rw [if_pos rfl]
    ·have hne:gt S q≠gt S i:=fun e2=>e (wa hn (by omega) h e2)
     have:=hS _ (a8 (l:=S) (k:=q) (by omega))
     rw [if_neg (by omega)]; exact hq q (by omega))
   refine⟨JO,x,?_,by simpa using k2,k3⟩
   rw [if_pos (by simp only [decide_eq_true_eq]; omega),dv h,abw,hx,abw,bl (by omega) (by omega),show (i:Int)+1=((i+1:Nat):Int) by omega]
   exact k1
  ·exact⟨pl,_,by rw [if_neg (by simp only [decide_eq_true_eq]; omega)],rfl,fun q h=>hq q (by omega)⟩
theorem Fh {m:Nat}{pl:List Int}{n:ah}(h8:n.args.length≤8)(ha:∀a∈n.args,0≤a∧a<pl.length):∀(f k:Nat),n.args.length - k<f→k≤n.args.length→
  ∃x,ax.l2 m pl n f ((n.args.take k).map fun a=>gt pl a.toNat) (k:Int)=some (n.args.map fun a=>gt pl a.toNat,x)
 | 0,k,hf,_=>absurd hf (by omega)
 | f+1,k,hf,hk=>by
  unfold ax.l2
  by_cases h:k<n.args.length
  ·obtain⟨a0,a1⟩:=ha _ (a8 h)
   have hy:ix pl (gt n.args k)=some (gt pl (gt n.args k).toNat):=gP (by omega) (by omega)
   have hT:n.args.take (k+1)=n.args.take k++[gt n.args k]:=by rw [acI,bP h]; rfl
   have pW:app 8 ((n.args.take k).map fun a=>gt pl a.toNat) [gt pl (gt n.args k).toNat]=some ((n.args.take (k+1)).map fun a=>gt pl a.toNat):=by
    unfold app; rw [if_pos (by simp; omega),hT,abV]; rfl
   obtain⟨x,ih⟩:=Fh (m:=m) h8 ha f (k+1) (by omega) (by omega)
   rw [if_pos (by simp only [decide_eq_true_eq]; omega),dv h,abw,hy,abw,pW,abw,bl (by omega) (by omega),show (k:Int)+1=((k+1:Nat):Int) by omega]
   exact⟨x,ih⟩
  ·have e:k=n.args.length:=by omega
   subst e
   exact⟨_,by rw [if_neg (by simp),ace]⟩
theorem Fi {m:Nat}{pl:List Int}{n:ah}(h8:n.args.length≤8)(ha:∀a∈n.args,0≤a∧a<pl.length):∀(f k:Nat),n.args.length - k<f→k≤n.args.length→
  ∃x,ax.l7 m pl n f ((n.args.take k).map fun a=>gt pl a.toNat) (k:Int)=some (n.args.map fun a=>gt pl a.toNat,x)
 | 0,k,hf,_=>absurd hf (by omega)
 | f+1,k,hf,hk=>by
  unfold ax.l7
  by_cases h:k<n.args.length
  ·obtain⟨a0,a1⟩:=ha _ (a8 h)
   have hy:ix pl (gt n.args k)=some (gt pl (gt n.args k).toNat):=gP (by omega) (by omega)
   have hT:n.args.take (k+1)=n.args.take k++[gt n.args k]:=by rw [acI,bP h]; rfl
   have pW:app 8 ((n.args.take k).map fun a=>gt pl a.toNat) [gt pl (gt n.args k).toNat]=some ((n.args.take (k+1)).map fun a=>gt pl a.toNat):=by
    unfold app; rw [if_pos (by simp; omega),hT,abV]; rfl
   obtain⟨x,ih⟩:=Fi (m:=m) h8 ha f (k+1) (by omega) (by omega)
   rw [if_pos (by simp only [decide_eq_true_eq]; omega),dv h,abw,hy,abw,pW,abw,bl (by omega) (by omega),show (k:Int)+1=((k+1:Nat):Int) by omega]
   exact⟨x,ih⟩
  ·have e:k=n.args.length:=by omega
   subst e
   exact⟨_,by rw [if_neg (by simp),ace]⟩
theorem Fj {m:Nat}(hm:2 ^ 30≤m){l:List ah}{S pl:List Int}(ok:lS l)(hS:∀s∈S,0≤s∧s<l.length)(Sm:S.length≤8000)(zQ:pl.length=l.length):∀(f i:Nat),S.length - i<f→i≤S.length→
  ∃x,ax.l1 m l S pl f ((S.take i).map fun s=>pm pl (nd l s)) (i:Int)=some (S.map fun s=>pm pl (nd l s),x)
 | 0,i,hf,_=>absurd hf (by omega)
 | f+1,i,hf,hi=>by
  have rl:(2:Nat) ^ 30=1073741824:=by decide
  unfold ax.l1
  by_cases h:i<S.length
  ·obtain⟨s0,s1⟩:=hS _ (a8 h)
   obtain⟨n1,n2⟩:=ok.2 _ (gQ s0 s1)
   obtain⟨x,q1⟩:=Fh (m:=m) (pl:=pl) (n:=nd l (gt S i)) n1 (fun a ha=>by have:=n2 a ha; omega) m 0 (by omega) (by omega)
   have q1:ax.l2 m pl (nd l (gt S i)) m [] 0=_:=q1
   have hT:S.take (i+1)=S.take i++[gt S i]:=by rw [acI,bP h]; rfl
   have pW:app 56 ((S.take i).map fun s=>pm pl (nd l s)) [ah.mk (nd l (gt S i)).kind (nd l (gt S i)).int (nd l (gt S i)).label ((nd l (gt S i)).args.map fun a=>gt pl a.toNat)]=some ((S.take (i+1)).map fun s=>pm pl (nd l s)):=by
    unfold app; rw [if_pos (by simp; omega),hT,abV]; rfl
   obtain⟨x,ih⟩:=Fj hm ok hS Sm zQ f (i+1) (by omega) (by omega)
   rw [if_pos (by simp only [decide_eq_true_eq]; omega),dv h,abw,iZ s0 s1,abw,q1,abw]
   dsimp only
   rw [pW,abw,bl (by omega) (by omega),show (i:Int)+1=((i+1:Nat):Int) by omega]
   exact⟨x,ih⟩
  ·have e:i=S.length:=by omega
   subst e
   exact⟨_,by rw [if_neg (by simp),ace]⟩
theorem Fk {m:Nat}{P:List ah}{c:List Int}(hc:c.length=P.length){i:Nat}(hi:i<P.length)(h8:(nd P i).args.length≤8)(ha:∀a∈(nd P i).args,0≤a∧a<P.length):∀(f k:Nat),(nd P i).args.length - k<f→k≤(nd P i).args.length→
  ∃x,ax.l4 m c (i:Int) f (P.set i ⟨(nd P i).kind,(nd P i).int,(nd P i).label,(((nd P i).args.take k).map fun a=>gt c a.toNat)++(nd P i).args.drop k⟩) (k:Int)=some (P.set i (pm c (nd P i)),x)
 | 0,k,hf,_=>absurd hf (by omega)
 | f+1,k,hf,hk=>by
  unfold ax.l4
  have pf:∀w,ix (P.set i w) (i:Int)=some w:=fun w=>by
   rw [iZ (by omega) (by simpa using hi),Dz hi,if_pos rfl]
  have hlen:((((nd P i).args.take k).map fun a=>gt c a.toNat)++(nd P i).args.drop k).length=(nd P i).args.length:=by simp; omega
  rw [pf,abw]
  by_cases h:k<(nd P i).args.length
  ·have hg:gt ((((nd P i).args.take k).map fun a=>gt c a.toNat)++(nd P i).args.drop k) k=gt (nd P i).args k:=by
    unfold gt
    rw [abO,abO,abN (by simp; omega)]
    simp only [abL,acm,List.getElem?_drop]
    congr 2; omega
   obtain⟨a0,a1⟩:=ha _ (a8 h)
   have hx:ix ((((nd P i).args.take k).map fun a=>gt c a.toNat)++(nd P i).args.drop k) (k:Int)=some (gt (nd P i).args k):=by rw [dv (by omega),hg]
   have hy:ix c (gt (nd P i).args k)=some (gt c (gt (nd P i).args k).toNat):=gP (by omega) (by omega)
   have CE:((((nd P i).args.take k).map fun a=>gt c a.toNat)++(nd P i).args.drop k).set k (gt c (gt (nd P i).args k).toNat)=(((nd P i).args.take (k+1)).map fun a=>gt c a.toNat)++(nd P i).args.drop (k+1):=by
    have hT:(nd P i).args.take (k+1)=(nd P i).args.take k++[gt (nd P i).args k]:=by rw [acI,bP h]; rfl
    have hD:(nd P i).args.drop k=gt (nd P i).args k::(nd P i).args.drop (k+1):=by
     obtain⟨h4,h5⟩:=abG.1 (bP h)
     rw [←h5]; exact abT h4
    have GM:(((nd P i).args.take k).map fun a=>gt c a.toNat).length=k:=by simp; omega
    rw [acM _ _ (by omega),GM,acE,hD,List.set_cons_zero,hT,abV,abX]
    rfl
   rw [if_pos (by simp only [decide_eq_true_eq]; omega),abw,abw]
   dsimp only
   rw [hx,abw,hy,abw,abw,abC,abC,List.set_set,CE,bl (by omega) (by omega),show (k:Int)+1=((k+1:Nat):Int) by omega]
   exact Fk hc hi h8 ha f (k+1) (by omega) (by omega)
  ·have e:k=(nd P i).args.length:=by omega
   subst e
   refine⟨((nd P i).args.length:Int),?_⟩
   rw [if_neg (by simp only [decide_eq_true_eq]; omega),ace,List.drop_length,acS]
   rfl
theorem Fl {m:Nat}(hm:2 ^ 30≤m){P:List ah}{c:List Int}(ok:lS P)(hc:c.length=P.length):∀(f i:Nat) (Q:List ah),P.length - i<f→i≤P.length→Q.length=P.length→(∀q,q<P.length→nd Q q=if q<i then pm c (nd P q) else nd P q)→
  ∃x,ax.l3 m c f Q (i:Int)=some (P.map (pm c),x)
 | 0,i,Q,hf,_,_,_=>absurd hf (by omega)
 | f+1,i,Q,hf,hi,hl,hq=>by
  have rl:(2:Nat) ^ 30=1073741824:=by decide
  have h8:=ok.1
  unfold ax.l3
  by_cases h:i<P.length
  ·obtain⟨n1,n2⟩:=BA ok h
   have Td:nd Q i=nd P i:=by rw [hq i h,if_neg (by omega)]
   obtain⟨x,q1⟩:=Fk (m:=m) (P:=Q) (c:=c) (by omega) (i:=i) (by omega) (by rw [Td]; exact n1) (by rw [Td,hl]; exact n2) m 0 (by rw [Td]; omega) (by omega)
   have pf:Q.set i ⟨(nd Q i).kind,(nd Q i).int,(nd Q i).label,(((nd Q i).args.take 0).map fun a=>gt c a.toNat)++(nd Q i).args.drop 0⟩=Q:=by
    refine JN (by simp) fun k hk=>?_
    rw [Dz (by omega)]
    by_cases e:k=i
    ·subst e; rw [if_pos rfl]; simp
    ·rw [if_neg e]
   rw [pf] at q1
   have q1:ax.l4 m c (i:Int) m Q 0=_:=q1
   rw [if_pos (by simp only [decide_eq_true_eq]; omega),q1,abw]
   dsimp only
   rw [bl (by omega) (by omega),show (i:Int)+1=((i+1:Nat):Int) by omega]
   refine Fl hm ok hc f (i+1) _ (by omega) (by omega) (by simpa using hl) fun q SP=>?_
   rw [Dz (by omega)]
   by_cases e:q=i
   ·subst e; rw [if_pos rfl,if_pos (by omega),Td]
   ·rw [if_neg e,hq q SP]
    by_cases hlt:q<i
    ·rw [if_pos hlt,if_pos (by omega)]
    ·rw [if_neg hlt,if_neg (by omega)]
  ·have e:i=P.length:=by omega
   subst e
   refine⟨(P.length:Int),?_⟩
   rw [if_neg (by simp only [decide_eq_true_eq]; omega)]
   have:Q=P.map (pm c):=JN (by simpa using hl) fun k hk=>by rw [hq k (by omega),if_pos (by omega),JM (by omega)]
   rw [this]
theorem JP {m:Nat}(hm:2 ^ 30≤m){P:List ah}{T pl:List Int}(ok:lS P)(hT:∀t∈T,0≤t∧t<P.length)(hTl:T.length≤8000)(zQ:P.length≤pl.length):∀(f i:Nat),T.length - i<f→i≤T.length→
  ∃x,ax.l6 m P T pl f (i:Int) ((T.take i).map fun t=>pm pl (nd P t)) 0=some (x,T.map fun t=>pm pl (nd P t),0)
 | 0,i,hf,_=>absurd hf (by omega)
 | f+1,i,hf,hi=>by
  have rl:(2:Nat) ^ 30=1073741824:=by decide
  unfold ax.l6
  by_cases h:i<T.length
  ·obtain⟨s0,s1⟩:=hT _ (a8 h)
   obtain⟨n1,n2⟩:=ok.2 _ (gQ s0 s1)
   obtain⟨x,q1⟩:=Fi (m:=m) (pl:=pl) (n:=nd P (gt T i)) n1 (fun a ha=>by have:=n2 a ha; omega) m 0 (by omega) (by omega)
   have q1:ax.l7 m pl (nd P (gt T i)) m [] 0=_:=q1
   have hTk:T.take (i+1)=T.take i++[gt T i]:=by rw [acI,bP h]; rfl
   have pW:app 56 ((T.take i).map fun t=>pm pl (nd P t)) [ah.mk (nd P (gt T i)).kind (nd P (gt T i)).int (nd P (gt T i)).label ((nd P (gt T i)).args.map fun a=>gt pl a.toNat)]=some ((T.take (i+1)).map fun t=>pm pl (nd P t)):=by
    unfold app; rw [if_pos (by simp; omega),hTk,abV]; rfl
   obtain⟨x,ih⟩:=JP hm ok hT hTl zQ f (i+1) (by omega) (by omega)
   rw [if_pos (by simp only [decide_eq_true_eq]; omega),dv h,abw,iZ s0 s1,abw,q1,abw]
   dsimp only
   rw [pW,abw,bl (by omega) (by omega),show (i:Int)+1=((i+1:Nat):Int) by omega]
   exact⟨x,ih⟩
  ·have e:i=T.length:=by omega
   subst e
   exact⟨_,by rw [if_neg (by simp),ace]⟩
end Go.Proofs.YtifafejidnjckaaGreat
namespace Go.Proofs.YtifafejidnjckaaGreat
open Go Go.R
open Go.IntKind (i64 u64 u8 u32)
inductive Way (l:List ah):Nat→Nat→Prop
 | one {i k:Nat}:k<na l i→Way l i (ar l i k)
 | more {i j k:Nat}:Way l i j→k<na l j→Way l i (ar l j k)
theorem LS {l:List ah}{c od:List Int}(ok:lS l)(M:OS l c od){i j:Nat}(w:Way l i j)(hi:i<l.length):j<l.length∧∀x:Nat,x<l.length→(x:Int)∈od→gt c x=gt c i→∃y:Nat,y<l.length∧gt c y=gt c j∧(y:Int)∈od∧od.idxOf (y:Int)<od.idxOf (x:Int):=by
 induction w with
 | @one k hk=>
  refine⟨(lE ok hi hk).1,fun x hx Sq e=>?_⟩
  have hA:=M.min.top i x hi hx e.symm
  have XY:k<na l x:=by have:=hA.len; unfold na at *; omega
  obtain⟨r1,r2⟩:=M.w7 x Sq k XY
  exact⟨ar l x k,(lE ok hx XY).1,(M.min.arg i x hi hx e.symm k hk).symm,r1,r2⟩
 | @more j k w hk ih=>
  obtain⟨hj,ih⟩:=ih
  refine⟨(lE ok hj hk).1,fun x hx Sq e=>?_⟩
  obtain⟨y,hy,ey,V0,hlt⟩:=ih x hx Sq e
  have hA:=M.min.top j y hj hy ey.symm
  have XZ:k<na l y:=by have:=hA.len; unfold na at *; omega
  obtain⟨r1,r2⟩:=M.w7 y V0 k XZ
  exact⟨ar l y k,(lE ok hy XZ).1,(M.min.arg j y hj hy ey.symm k hk).symm,r1,by omega⟩
theorem DA {l:List ah}{c od:List Int}(ok:lS l)(M:OS l c od)(h0:0<l.length)(hw:∀j,0<j→j<l.length→Way l 0 j):gt c 0=0:=by
 obtain⟨r1,r2,r3⟩:=M.rC 0 h0
 by_cases X0:((0:Nat):Int)∈od
 ·by_cases hz:gt c 0=0
  ·exact hz
  ·exfalso
   have w:=hw (gt c 0).toNat (by omega) (by omega)
   have key:∀N x:Nat,od.idxOf (x:Int)<N→x<l.length→(x:Int)∈od→gt c x=gt c 0→False:=by
    intro N
    induction N with
    | zero=>intro x h; omega
    | succ N ih=>
     intro x hN hx Sq e
     obtain⟨y,hy,ey,V0,hlt⟩:=(LS ok M w h0).2 x hx Sq e
     exact ih y (by omega) hy V0 (by rw [ey,r3])
   exact key _ 0 (ack _) h0 X0 rfl
 ·have:=M.big 0 h0 X0
  omega
theorem lock {l P5:List ah}{κ1:Int→Int}{K2:Int→Int}{Can:Int→Prop}(V3:∀v w,Can v→Can w→K2 v=K2 w→v=w)
  (hargs:∀a v:Int,0≤a→a<l.length→Can v→κ1 a=K2 v→(nd l a).args.map κ1=(nd P5 v).args.map K2) (V4:∀v,Can v→∀a∈(nd P5 v).args,Can a) (ok:lS l) {bf o2 Kd:List Int}
  (h:wk id (fun v=>(nd P5 v).args) bf o2 Kd):∀iL o1:List Int,iL.map κ1=bf.map K2→o1.map κ1=o2.map K2→(∀b∈bf,Can b)→(∀b∈o2,Can b)→(∀a∈iL,0≤a∧a<l.length)→
  ∃PB,wk κ1 (fun v=>(nd l v).args) iL o1 PB∧PB.map κ1=Kd.map K2:=by
 induction h with
 | nil o=>
  intro iL o1 hs ho _ _ _
  have:iL=[]:=by simpa using hs
  subst this
  exact⟨o1,.nil o1,ho⟩
 | @skip v st o o' hm _ ih=>
  intro iL o1 hs ho c1 c2 hr
  cases iL with
  | nil=>simp at hs
  | cons a iL=>
   simp only [ab5,List.cons.injEq] at hs
   obtain⟨PB,k1,k2⟩:=ih iL o1 hs.2 ho (fun b hb=>c1 b (by simp [hb])) c2 (fun x hx=>hr x (by simp [hx]))
   refine⟨PB,.skip ?_ k1,k2⟩
   rw [hs.1,ho]
   exact abZ.2 ⟨v,by simpa using hm,rfl⟩
 | @push v st o o' hn _ ih=>
  intro iL o1 hs ho c1 c2 hr
  cases iL with
  | nil=>simp at hs
  | cons a iL=>
   simp only [ab5,List.cons.injEq] at hs
   have hv:=c1 v (by simp)
   have ha:=hr a (by simp)
   have e:=hargs a v ha.1 ha.2 hv hs.1
   obtain⟨PB,k1,k2⟩:=ih ((nd l a).args++iL) (o1++[a]) (by rw [abV,abV,e,hs.2]) (by rw [abV,abV,ho]; simp [hs.1]) (fun b hb=>by
    rcases abP.1 hb with hb | hb
    ·exact V4 v hv b hb
    ·exact c1 b (by simp [hb])) (fun b hb=>by
    rcases abP.1 hb with hb | hb
    ·exact c2 b hb
    ·rw [abI] at hb; subst hb; exact hv) (fun x hx=>by
    rcases abP.1 hx with hx | hx
    ·exact (ok.2 _ (gQ ha.1 ha.2)).2 x hx
    ·exact hr x (by simp [hx]))
   refine⟨PB,.push ?_ k1,k2⟩
   rw [hs.1,ho]
   intro hm
   obtain⟨w,w1,w2⟩:=abZ.1 hm
   have:=V3 v w hv (c2 w w1) w2.symm
   subst this
   exact hn (by simpa using w1)
theorem JQ {m:Nat}(hm:2 ^ 41≤m){t:aZ}(h:fM t=true):∃s,eF.f m t=some s∧ax.f m t.nodes t.root=some s:=by
 have rl:(2:Nat) ^ 30=1073741824:=by decide
 have wZ:(2:Nat) ^ 41=2199023255552:=by decide
 have Gx:2 ^ 30≤m:=by omega
 obtain⟨ok,h1,r0,r1,hT⟩:=jW h
 obtain⟨r,ns,e1,M,Q,_⟩:=nh hm h
 have h8:=ok.1
 generalize hl:t.nodes=l at *
 have V5:wk (fQ r) (fun v=>(nd l v).args) [t.root] [] (tc r l m t.root []):=rm ok m t.root [] [] _ r0 r1 ⟨by simp,fun x hx=>by cases hx⟩ (by simp; omega) (.nil _)
 obtain⟨S,s1,s2⟩:=rn Gx ok r0 r1
 have hA:∀v:Int,0≤v→v<l.length→∀a∈(nd l v).args,0≤a∧a<l.length:=fun v a b=>(ok.2 _ (gQ a b)).2
 obtain⟨_,Sr,Sn,_,Sc⟩:=s2.facts hA (fun v hv=>by rw [abI] at hv; subst hv; exact⟨r0,r1⟩) (fun v hv=>by cases hv) (by simp)
 rw [List.map_id] at Sn
 have Sc:∀v∈S,∀a∈(nd l v).args,a∈S:=fun v hv a ha=>by have:=Sc (fun v hv=>by cases hv) v hv a ha; simpa using this
 have S0:∃T,S=t.root::T:=by
  cases s2 with
  | skip DX _=>simp at DX
  | push _ k=>
   obtain⟨⟨T,e⟩,_⟩:=k.facts hA (fun v hv=>by
    rcases abP.1 hv with hv | hv
    ·exact hA _ r0 r1 v hv
    ·cases hv) (fun v hv=>by simp at hv; subst hv; exact⟨r0,r1⟩) (by simp)
   exact⟨T,by simpa using e⟩
 have Sl:S.length≤l.length:=k8 Sn Sr
 have Sp:0<S.length:=by obtain⟨T,rfl⟩:=S0; simp
 have MO:gt S 0=t.root:=by obtain⟨T,rfl⟩:=S0; rfl
 have Ss:=s2.from (root:=t.root) (fun v hv=>by rw [abI] at hv; exact .inl hv) (fun i hi=>absurd hi (by simp))
 have e0:pX 8 (l.length:Int) (0:Int)=some (abM l.length 0):=by unfold pX; rw [if_pos ⟨by omega,by rw [abC]; omega⟩,abC]
 obtain⟨pl,x1,p1,p2,p3⟩:=BQ (m:=m) Sn (by omega) m 0 (abM l.length 0) (by omega) (by omega) (by simpa using Sr) (fun q hq=>absurd hq (by omega))
 rw [ac7] at p2
 have p1:ax.l0 m S m (abM l.length 0) 0=_:=p1
 obtain⟨x2,p4⟩:=Fj Gx ok Sr (by omega) p2 m 0 (by omega) (by omega)
 have p4:ax.l1 m l S pl m [] 0=_:=p4
 generalize V6:(S.map fun s=>pm pl (nd l s))=P1 at p4
 have Te:P1.length=S.length:=by rw [←V6]; simp
 have MP:∀i:Nat,i<S.length→nd P1 i=pm pl (nd l (gt S i)):=fun i hi=>by rw [←V6,LR hi]
 have Tf:∀{x:Int},x∈S→gt S (gt pl x.toNat).toNat=x∧0≤gt pl x.toNat∧gt pl x.toNat<S.length:=fun hx=>by
  obtain⟨q,hq,e⟩:=gq hx
  have:=p3 q hq
  rw [e] at this
  rw [this,abC]; exact⟨e,by omega,by omega⟩
 have V7:∀i:Nat,i<S.length→∀a∈(nd l (gt S i)).args,a∈S:=fun i hi=>Sc _ (a8 hi)
 have G0:lS P1:=by
  refine⟨by omega,fun n hn=>?_⟩
  rw [←V6] at hn
  obtain⟨s,hs,rfl⟩:=abZ.1 hn
  have hr:=Sr s hs
  refine⟨by simpa [pm] using (ok.2 _ (gQ hr.1 hr.2)).1,fun a ha=>?_⟩
  obtain⟨x,hx,rfl⟩:=abZ.1 ha
  have:=Tf (Sc s hs x hx)
  rw [Te]; exact this.2
 obtain⟨c,od,c1,C⟩:=BP Gx G0
 have cl:c.length=P1.length:=C.min.len
 have V8:∀i:Nat,i<S.length→na P1 i=na l (gt S i).toNat:=fun i hi=>by
  have:=Sr _ (a8 hi)
  unfold na
  rw [MP i hi]
  show ((nd l (gt S i)).args.map _).length=_
  rw [abL,show (((gt S i).toNat:Nat):Int)=gt S i by omega]
 have Su:∀i:Nat,i<S.length→∀k,k<na P1 i→gt S (ar P1 i k)=gt (nd l (gt S i)).args k:=fun i hi k hk=>by
  have rK:k<(nd l (gt S i)).args.length:=by
   have:=hk; unfold na at this; rw [MP i hi] at this; simpa [pm] using this
  have hx:=V7 i hi _ (a8 rK)
  have:gt (nd P1 i).args k=gt pl (gt (nd l (gt S i)).args k).toNat:=by
   rw [MP i hi]
   have h1:=bP (l:=(pm pl (nd l (gt S i))).args) (k:=k) (by simpa [pm] using rK)
   have h2:(pm pl (nd l (gt S i))).args[k]? = some (gt pl (gt (nd l (gt S i)).args k).toNat):=by
    show ((nd l (gt S i)).args.map _)[k]? = _
    rw [ab1,bP rK]; rfl
   rw [h2] at h1; exact (ab8 h1).symm
  unfold ar
  rw [this]
  exact (Tf hx).1
 have way:∀j,0<j→j<P1.length→Way P1 0 j:=by
  have:∀N j,j<N→0<j→j<P1.length→Way P1 0 j:=by
   intro N
   induction N with
   | zero=>intro j h; omega
   | succ N ih=>
    intro j hN hj VN
    rcases Ss j (by omega) with e | ⟨q,hq,DX⟩
    ·have:=wa Sn (by omega) Sp (e.trans MO.symm)
     omega
    ·obtain⟨k,hk,e⟩:=gq DX
     have Hi:k<na P1 q:=by unfold na; rw [MP q (by omega)]; simpa [pm] using hk
     have h2:=Su q (by omega) k Hi
     rw [e] at h2
     have h3:=(lE G0 (i:=q) (by omega) Hi).1
     have e4:ar P1 q k=j:=wa Sn (by omega) (by omega) h2
     rw [←e4]
     by_cases hq0:q=0
     ·subst hq0; exact .one Hi
     ·exact .more (ih q (by omega) (by omega) (by omega)) Hi
  exact fun j=>this (j+1) j (ack _)
 have c00:gt c 0=0:=DA G0 C (by omega) way
 have BS:∀i:Nat,i<S.length→(((gt S i).toNat:Nat):Int)=gt S i∧(gt S i).toNat<l.length:=fun i hi=>by have:=Sr _ (a8 hi); omega
 have X1:∀i j:Nat,i<S.length→j<S.length→(Alike (nd P1 i) (nd P1 j)↔Alike (nd l (gt S i)) (nd l (gt S j))):=fun i j hi hj=>by
  rw [MP i hi,MP j hj]
  constructor
  ·intro z; exact⟨z.kind,z.int,z.label,by have:=z.len; simpa [pm] using this⟩
  ·intro z; exact⟨z.kind,z.int,z.label,by have:=z.len; simpa [pm] using this⟩
 have cr:∀i j:Nat,i<S.length→j<S.length→(gt c i=gt c j↔gt r (gt S i).toNat=gt r (gt S j).toNat):=fun i j hi hj=>by
  constructor
  ·intro e
   refine M.max (fun a b=>∃i j:Nat,i<S.length∧j<S.length∧a=(gt S i).toNat∧b=(gt S j).toNat∧gt c i=gt c j) ⟨?_,?_,?_⟩ _ _ ⟨i,j,hi,hj,rfl,rfl,e⟩
   ·rintro a b ⟨i,j,hi,hj,rfl,rfl,_⟩
    exact⟨(BS i hi).2,(BS j hj).2⟩
   ·rintro a b ⟨i,j,hi,hj,rfl,rfl,e⟩
    rw [(BS i hi).1,(BS j hj).1]
    exact (X1 i j hi hj).1 (C.min.top i j (by omega) (by omega) e)
   ·rintro a b ⟨i,j,hi,hj,rfl,rfl,e⟩ k hk
    rw [(BS i hi).1] at hk ⊢
    rw [(BS j hj).1]
    have tU:k<na P1 i:=by rw [V8 i hi]; unfold na; rw [(BS i hi).1]; exact hk
    have Px:k<na P1 j:=by have:=(C.min.top i j (by omega) (by omega) e).len; unfold na at *; omega
    have a1:=(lE G0 (i:=i) (by omega) tU).1
    have a2:=(lE G0 (i:=j) (by omega) Px).1
    refine⟨ar P1 i k,ar P1 j k,by omega,by omega,?_,?_,C.min.arg i j (by omega) (by omega) e k tU⟩
    ·rw [Su i hi k tU]
    ·rw [Su j hj k Px]
  ·intro e
   refine C.min.max (fun a b=>a<S.length∧b<S.length∧gt r (gt S a).toNat=gt r (gt S b).toNat) ⟨?_,?_,?_⟩ i j ⟨hi,hj,e⟩
   ·rintro a b ⟨h1,h2,_⟩; omega
   ·rintro a b ⟨h1,h2,e⟩
    refine (X1 a b h1 h2).2 ?_
    have:=M.top _ _ (BS a h1).2 (BS b h2).2 e
    rwa [(BS a h1).1,(BS b h2).1] at this
   ·rintro a b ⟨h1,h2,e⟩ k hk
    have hA:=M.top _ _ (BS a h1).2 (BS b h2).2 e
    have KM:k<na P1 a:=hk
    have Kj:k<(nd l (((gt S a).toNat:Nat):Int)).args.length:=by have:=V8 a h1; unfold na at this KM; omega
    have hkb:k<na P1 b:=by rw [V8 b h2]; have:=hA.len; unfold na; omega
    have g:=M.arg _ _ (BS a h1).2 (BS b h2).2 e k Kj
    rw [(BS a h1).1,(BS b h2).1] at g
    have a1:=(lE G0 (i:=a) (by omega) KM).1
    have a2:=(lE G0 (i:=b) (by omega) hkb).1
    refine⟨by show ar P1 a k<_; omega,by show ar P1 b k<_; omega,?_⟩
    show gt r (gt S (ar P1 a k)).toNat=gt r (gt S (ar P1 b k)).toNat
    rw [Su a h1 k KM,Su b h2 k hkb]; exact g
 obtain⟨x3,p5⟩:=Fl Gx G0 cl m 0 P1 (by omega) (by omega) rfl (fun q hq=>by rw [if_neg (by omega)])
 have p5:ax.l3 m c m P1 0=_:=p5
 have X2:∀i:Nat,i<S.length→nd (P1.map (pm c)) i=pm c (nd P1 i):=fun i hi=>JM (by omega)
 have OW:∀i:Nat,i<S.length→0≤gt c i∧gt c i<S.length∧gt c (gt c i).toNat=gt c i:=fun i hi=>by have:=C.rC i (by omega); rw [Te] at this; exact this
 have V9:lS (P1.map (pm c)):=by
  refine⟨by simp; omega,fun n hn=>?_⟩
  obtain⟨n1,Hq,rfl⟩:=abZ.1 hn
  obtain⟨q1,q2⟩:=G0.2 n1 Hq
  refine⟨by simpa [pm] using q1,fun a ha=>?_⟩
  obtain⟨x,hx,rfl⟩:=abZ.1 ha
  have:=q2 x hx
  have:=OW x.toNat (by omega)
  rw [abL,Te]; omega
 obtain⟨T,t1,t2⟩:=rn Gx V9 (root:=0) (by omega) (by simp; omega)
 generalize hP5:P1.map (pm c)=P5 at *
 have P5l:P5.length=S.length:=by rw [←hP5]; simp [Te]
 have hA5:∀v:Int,0≤v→v<P5.length→∀a∈(nd P5 v).args,0≤a∧a<P5.length:=fun v a b=>(V9.2 _ (gQ a b)).2
 obtain⟨_,Tr,Tn,_,Tc⟩:=t2.facts hA5 (fun v hv=>by rw [abI] at hv; subst hv; omega) (fun v hv=>by cases hv) (by simp)
 rw [List.map_id] at Tn
 have Tc:∀v∈T,∀a∈(nd P5 v).args,a∈T:=fun v hv a ha=>by have:=Tc (fun v hv=>by cases hv) v hv a ha; simpa using this
 have Tl:T.length≤P5.length:=k8 Tn Tr
 obtain⟨Wa,x4,p6,p7,p8⟩:=BR (m:=m) Tn (by omega) m 0 pl (by omega) (by omega) (fun s hs=>by have:=Tr s hs; omega) (fun q hq=>absurd hq (by omega))
 have p6:ax.l5 m T m pl 0=_:=p6
 obtain⟨x5,p9⟩:=JP (m:=m) Gx V9 Tr (by omega) (pl:=Wa) (by omega) m 0 (by omega) (by omega)
 have p9:ax.l6 m P5 T Wa m 0 [] 0=_:=p9
 let K2:Int→Int:=fun b=>fQ r (gt S b.toNat)
 let Can:Int→Prop:=fun b=>0≤b∧b<S.length∧gt c b.toNat=b
 have X3:∀x:Int,x∈S→K2 (gt c (gt pl x.toNat).toNat)=fQ r x:=fun x hx=>by
  obtain⟨i1,i2,i3⟩:=Tf hx
  obtain⟨g1,g2,g3⟩:=OW (gt pl x.toNat).toNat (by omega)
  show fQ r (gt S (gt c (gt pl x.toNat).toNat).toNat)=_
  have:=(cr (gt c (gt pl x.toNat).toNat).toNat (gt pl x.toNat).toNat (by omega) (by omega)).1 g3
  unfold fQ
  rw [this,i1]
 have Fm:∀v:Int,0≤v→v<S.length→(nd P5 v).args=(nd l (gt S v.toNat)).args.map fun x=>gt c (gt pl x.toNat).toNat:=fun v v0 v1=>by
  have:=X2 v.toNat (by omega)
  rw [show ((v.toNat:Nat):Int)=v by omega] at this
  rw [this]
  have h2:=MP v.toNat (by omega)
  rw [show ((v.toNat:Nat):Int)=v by omega] at h2
  rw [h2]
  show ((nd l (gt S v.toNat)).args.map _).map _=_
  rw [List.map_map]; rfl
 have same:∀a b:Int,0≤a→a<l.length→0≤b→b<l.length→fQ r a=fQ r b→Alike (nd l a) (nd l b)∧(nd l a).args.map (fQ r)=(nd l b).args.map (fQ r):=fun a b a0 a1 b0 b1 e=>by
  have ea:((a.toNat:Nat):Int)=a:=by omega
  have eb:((b.toNat:Nat):Int)=b:=by omega
  have e:gt r a.toNat=gt r b.toNat:=e
  have hA:=M.top a.toNat b.toNat (by omega) (by omega) e
  have hg:=M.arg a.toNat b.toNat (by omega) (by omega) e
  rw [ea,eb] at hA hg
  refine⟨hA,acx fun k=>?_⟩
  simp only [ab1]
  by_cases hk:k<(nd l a).args.length
  ·rw [bP hk,bP (by have:=hA.len; omega)]
   simp only [abE,abz]
   exact hg k hk
  ·rw [abU (by omega),abU (by have:=hA.len; omega)]
 obtain⟨o1,q1,q2⟩:=lock (l:=l) (P5:=P5) (κ1:=fQ r) (K2:=K2) (Can:=Can) (fun v w hv hw e=>by
   have:=(cr v.toNat w.toNat (by have:=hv.1; have:=hv.2.1; omega) (by have:=hw.1; have:=hw.2.1; omega)).2 e
   rw [hv.2.2,hw.2.2] at this; exact this) (fun a v a0 a1 hv e=>by
   have hS:=a8 (l:=S) (k:=v.toNat) (by have:=hv.1; have:=hv.2.1; omega)
   have hr:=Sr _ hS
   rw [(same a _ a0 a1 hr.1 hr.2 e).2,Fm v hv.1 hv.2.1,List.map_map]
   refine acA fun x hx=>?_
   exact (X3 x (Sc _ hS x hx)).symm) (fun v hv a ha=>by
   rw [Fm v hv.1 hv.2.1] at ha
   obtain⟨x,hx,rfl⟩:=abZ.1 ha
   have hS:=a8 (l:=S) (k:=v.toNat) (by have:=hv.1; have:=hv.2.1; omega)
   have:=Tf (Sc _ hS x hx)
   exact OW (gt pl x.toNat).toNat (by omega)) ok t2 [t.root] [] (by
   show [fQ r t.root]=[fQ r (gt S 0)]; rw [MO]) rfl (fun b hb=>by
   rw [abI] at hb; subst hb
   exact⟨by omega,by omega,c00⟩) (fun b hb=>by cases hb) (fun a ha=>by rw [abI] at ha; subst ha; exact⟨r0,r1⟩)
 have eo:=q1.XP V5
 rw [eo] at q2
 generalize hO:tc r l m t.root []=O at *
 have OT:O.length=T.length:=by have:=congrArg List.length q2; simpa using this
 have OK:∀k,k<T.length→fQ r (gt O k)=K2 (gt T k):=fun k hk=>by
  have:=congrArg (fun z=>z[k]?) q2
  simp only [ab1] at this
  rw [bP (by omega),bP hk] at this
  simpa using this
 have hns:ns=T.map fun v=>pm Wa (nd P5 v):=by
  have hlen:=Q.len
  apply acx fun k=>?_
  by_cases hk:k<T.length
  ·rw [Q.new k (by simp) (by omega),ab1,bP hk]
   simp only [abE,abz]
   have hOr:=Q.vs.oY _ (a8 (l:=O) (k:=k) (by omega))
   have X4:=Tr _ (a8 hk)
   have hS:=a8 (l:=S) (k:=(gt T k).toNat) (by omega)
   have X5:=Sr _ hS
   obtain⟨hA,hM⟩:=same _ _ hOr.1 hOr.2 X5.1 X5.2 (OK k hk)
   have OX:(nd P5 (gt T k)).kind=(nd l (gt S (gt T k).toNat)).kind∧(nd P5 (gt T k)).int=(nd l (gt S (gt T k).toNat)).int∧(nd P5 (gt T k)).label=(nd l (gt S (gt T k).toNat)).label:=by
    have:=X2 (gt T k).toNat (by omega)
    rw [show (((gt T k).toNat:Nat):Int)=gt T k by omega] at this
    rw [this]
    have h2:=MP (gt T k).toNat (by omega)
    rw [show (((gt T k).toNat:Nat):Int)=gt T k by omega] at h2
    rw [h2]
    exact⟨rfl,rfl,rfl⟩
   unfold w5 pm
   rw [hA.kind,hA.int,hA.label,OX.1,OX.2.1,OX.2.2]
   congr 1
   rw [Fm _ X4.1 (by omega),List.map_map]
   apply acx fun j=>?_
   simp only [ab1]
   by_cases hj:j<(nd l (gt O k)).args.length
   ·have CL:j<(nd l (gt S (gt T k).toNat)).args.length:=by have:=hA.len; omega
    rw [bP hj,bP CL]
    simp only [abE,abz,Function.comp]
    have ex:fQ r (gt (nd l (gt O k)).args j)=fQ r (gt (nd l (gt S (gt T k).toNat)).args j):=by
     have:=congrArg (fun z=>z[j]?) hM
     simp only [ab1] at this
     rw [bP hj,bP CL] at this
     simpa using this
    have hin:gt c (gt pl (gt (nd l (gt S (gt T k).toNat)).args j).toNat).toNat∈T:=by
     refine Tc _ (a8 hk) _ ?_
     rw [Fm _ X4.1 (by omega)]
     exact abZ.2 ⟨_,a8 CL,rfl⟩
    obtain⟨q,hq,eq⟩:=gq hin
    have X6:=p8 q hq
    rw [eq] at X6
    rw [X6]
    unfold idx
    have Dn:=Q.vs.Kc
    have hget:(O.map (fQ r))[q]? = some (fQ r (gt (nd l (gt O k)).args j)):=by
     rw [ab1,bP (by omega)]
     simp only [abE,abz]
     rw [OK q hq,eq,X3 _ (Sc _ hS _ (a8 CL)),ex]
    obtain⟨g1,g2⟩:=abG.1 hget
    rw [←g2,Dn.idxOf_getElem]
   ·rw [abU (by omega),abU (by have:=hA.len; omega)]
    rfl
  ·rw [abU (by omega),abU (by simp; omega)]
 refine⟨⟨ns,0⟩,e1,?_⟩
 unfold ax.f
 rw [s1,abw,e0,abw,p1,abw]
 dsimp only
 rw [p4,abw]
 dsimp only
 rw [c1,abw,p5,abw]
 dsimp only
 rw [t1,abw,p6,abw]
 dsimp only
 rw [p9,abw,hns]
end Go.Proofs.YtifafejidnjckaaGreat
namespace Go.Proofs.YtifafejidnjckaaGreat
open Go Go.R
open Go.IntKind (i64 u64 u8 u32)
theorem DB {m:Nat}(hm:2 ^ 41≤m){t:aZ}(h0:VH t):∃s e,gD.f m t=some (s,e)∧gW.f m t=some (s,e)∧(e=0→MK s)∧(e=0↔fM t=true)∧(e≠0→e=2∧s=⟨[],0⟩):=by
 have rl:(2:Nat) ^ 30=1073741824:=by decide
 have wZ:(2:Nat) ^ 41=2199023255552:=by decide
 unfold gD.f gW.f
 rw [nf (by omega),BM (by omega),abw,abw]
 cases h:fM t with
 | false=>exact⟨_,_,rfl,rfl,fun h=>absurd h (by decide),by simp,fun _=>⟨rfl,rfl⟩⟩
 | true=>
  obtain⟨s,k1,k2⟩:=JQ hm h
  obtain⟨s',k3,L⟩:=Gq hm h h0
  rw [k1] at k3
  cases k3
  rw [if_neg (by simp),if_neg (by simp),k1,k2]
  exact⟨_,_,rfl,rfl,fun _=>L,by simp,fun h=>absurd rfl h⟩
end Go.Proofs.YtifafejidnjckaaGreat
namespace Go.Proofs.YtifafejidnjckaaGreat
open Go Go.R Go.Uf
open Go.IntKind (i64 u64 u8 u32)
structure lT (s:aj)(t:ay):Prop where
 made:t.aH=true
 nodes:t.ai=s.ae
 wv:t.an=JB s
section
variable {m:Nat}{s:aj}{t:ay}
theorem lT.has (M:lT s t)(n:Int):di.f m t n=some (decide (Rg s.ae.length n)):=by
 unfold di.f
 rw [M.nodes]
 by_cases h:0≤n
 ·rw [if_pos (by simpa using h)]
  congr 1
  unfold Rg
  by_cases h2:n<s.ae.length<;>simp [h,h2]
 ·rw [if_neg (by simpa using h)]
  congr 1
  unfold Rg
  simp [h]
theorem lT.oN (M:lT s t):cD.f m t=some true:=by
 unfold cD.f; rw [M.made]
theorem OY (M:lT s t)(n:Int):fa.f m t n=some (if Rg s.ae.length n then (rp s.aB n,0) else (0,1)):=by
 unfold fa.f
 rw [M.oN,abw,if_neg (by decide),M.has,abw,M.wv]
 by_cases h:Rg s.ae.length n
 ·rw [if_neg (by simp [h]),ui h,if_pos h]; rfl
 ·rw [if_pos (by simp [h]),if_neg h]
theorem ye (v:Inv s)(M:lT s t){x:ah}(h8:x.args.length≤8)(hr:∀a∈x.args,Rg s.ae.length a):∀(k i:Nat),i≤x.args.length→x.args.length - i<k→
  bk.l0 m t x k ((x.args.take i).map (rp s.aB)) (i:Int)=some (x.args.map (rp s.aB),(x.args.length:Int))
 | 0,i,h1,h2=>by omega
 | k+1,i,h1,h2=>by
  simp only [bk.l0]
  by_cases hi:i<x.args.length
  ·have d:decide ((i:Int)<(x.args.length:Int))=true:=by rw [decide_eq_true_eq]; omega
   have eg:=abD hi
   have et:x.args.take (i+1)=x.args.take i++[x.args[i]]:=ab2 hi
   generalize x.args[i]=a at eg et
   have ew:i64.wrap ((i:Int)+1)=((i+1:Nat):Int):=by rw [lj (by omega) (by omega)]; omega
   rw [if_pos d,xU eg,abw,M.wv,ui (hr a (abJ eg)),abw,vU (by simp only [abL,acm,abR,ab4]; omega),abw,ew]
   have:=ye v M h8 hr k (i+1) (by omega) (by omega)
   rw [et,abV] at this
   exact this
  ·have d:decide ((i:Int)<(x.args.length:Int))=false:=by rw [decide_eq_false_iff_not]; omega
   have e:i=x.args.length:=by omega
   rw [if_neg (by rw [d]; decide),e,ace]
theorem wz (hm:16000≤m)(v:Inv s)(M:lT s t){n:Int}(h:Rg s.ae.length n):bk.f m t n=some (k9 s (rp s.aB n)):=by
 have h2:=v.cn.rg n h
 obtain⟨n8,nR⟩:=v.args _ (jK h2)
 have:=ye (m:=m) v M n8 nR m 0 (aco _) (by omega)
 have this:bk.l0 m t (gI s.ae (rp s.aB n)) m [] 0=_:=this
 unfold bk.f
 rw [M.wv,ui h,abw,M.nodes,vT h2,abw,this]
 rfl
theorem JR (hm:16000≤m)(v:Inv s)(M:lT s t)(n:Int):dZ.f m t n=some (if Rg s.ae.length n then (k9 s (rp s.aB n),0) else (⟨0,0,⟨#[]⟩,[]⟩,1)):=by
 unfold dZ.f
 rw [M.oN,abw,if_neg (by decide),M.has,abw]
 by_cases h:Rg s.ae.length n
 ·rw [if_neg (by simp [h]),wz hm v M h,if_pos h]; rfl
 ·rw [if_pos (by simp [h]),if_neg h]
theorem Fo (M:lT s t):dM.f m t=some (s.ae.length:Int):=by
 unfold dM.f
 rw [M.oN,abw,if_neg (by decide),M.nodes]
theorem BT {x:ah}(h8:x.args.length≤8):∀(f i:Nat) (st:List Int),i<f→i≤x.args.length→st.length+i≤1000000→
  ∃z,aL.l1 m x f st ((i:Int) - 1)=some (st++(x.args.take i).reverse,z)
 | 0,i,st,hf,_,_=>absurd hf (by omega)
 | f+1,0,st,hf,hi,hs=>by
  unfold aL.l1
  rw [if_neg (by simp)]
  exact⟨_,by simp; rfl⟩
 | f+1,i+1,st,hf,hi,hs=>by
  have ei:((i+1:Nat):Int) - 1=(i:Int):=by omega
  have ew:i64.wrap ((i:Int) - 1)=(i:Int) - 1:=bl (by omega) (by omega)
  have pW:app 8 st [gt x.args i]=some (st++[gt x.args i]):=by unfold app; rw [if_pos (by simp; omega)]
  obtain⟨z,ih⟩:=BT h8 f i (st++[gt x.args i]) (by omega) (by omega) (by simp; omega)
  refine⟨z,?_⟩
  unfold aL.l1
  rw [ei,if_pos (by simp),dv (by omega),abw,pW,abw,ew,ih]
  rw [acI,bP (by omega)]
  simp
structure Ld (s:aj)(r:Int)(met:List Bool)(o st:List Int):Prop where
 ml:met.length=s.ae.length
 mt:∀i,i<s.ae.length→(gb met i=true↔(i:Int)∈o)
 nd:o.Nodup
 rt:∀x∈o,Rg s.ae.length x∧rp s.aB x=x∧LP s.ae (rp s.aB) r x
 sk:∀x∈st,Rg s.ae.length x∧rp s.aB x=x∧LP s.ae (rp s.aB) r x
 cl:∀x∈o,∀a∈(gI s.ae x).args,rp s.aB a∈o∨rp s.aB a∈st
 hd:o=[]∧st=[r]∨o[0]? = some r
theorem wA (hm:2 ^ 30≤m)(v:Inv s)(M:lT s t){r:Int}:∀(f:Nat) (met:List Bool) (o st:List Int),st.length+9*(s.ae.length - o.length)<f→st.length+9*(s.ae.length - o.length)≤100000→Ld s r met o st→
  ∃zK o',aL.l0 m t f met o st.reverse=some (zK,o',[])∧Reach s r o'
 | 0,met,o,st,hf,_,_=>absurd hf (by omega)
 | f+1,met,o,[],hf,hb,L=>by
  unfold aL.l0
  rw [if_neg (by simp)]
  refine⟨met,o,rfl,⟨L.nd,L.rt,?_⟩,fun x hx a ha=>(L.cl x hx a ha).resolve_right (by simp)⟩
  rcases L.hd with⟨_,h⟩| h
  ·cases h
  ·exact h
 | f+1,met,o,x::st,hf,hb,L=>by
  have rl:(2:Nat) ^ 30=1073741824:=by decide
  obtain⟨x1,x2,x3⟩:=L.sk x (by simp)
  have LH:=k8 L.nd fun y hy=>(L.rt y hy).1
  have hx0:=x1.1
  have hx9:=x1.2
  have OJ:((x.toNat:Nat):Int)=x:=by omega
  obtain⟨n8,nR⟩:=v.args _ (jK x1)
  simp only [abR] at hf hb
  have R9:=v.max
  have Pd:=L.ml
  unfold aL.l0
  have hlen:((x::st).reverse.length:Int)=(st.length:Int)+1:=by simp
  have ew:i64.wrap ((st.length:Int)+1 - 1)=(st.length:Int):=by rw [bl (by omega) (by omega)]; omega
  have e1:ix (x::st).reverse (st.length:Int)=some x:=by
   unfold ix
   rw [if_pos (by omega),abC,List.reverse_cons,abN (by simp)]
   simp
  have e2:D4 (x::st).reverse 0 (st.length:Int)=some st.reverse:=by
   unfold D4
   rw [if_pos ⟨by omega,by omega,by simp; omega⟩,List.reverse_cons]
   simp only [abC,acn,Int.toNat_zero,Nat.sub_zero]
   rw [List.take_left' (by simp)]
  have e3:ix met x=some (gb met x.toNat):=wi hx0 (by omega)
  rw [if_pos (by rw [hlen]; simp only [gt_iff_lt,decide_eq_true_eq]; omega),hlen,ew,e1,abw,e2,abw,e3,abw]
  cases hg:gb met x.toNat with
  | true=>
   have rN:x∈o:=by have:=(L.mt x.toNat (by omega)).1 hg; rwa [OJ] at this
   rw [if_pos rfl]
   refine wA hm v M f met o st (by omega) (by omega) ⟨L.ml,L.mt,L.nd,L.rt,fun y hy=>L.sk y (by simp [hy]),fun y hy a ha=>?_,?_⟩
   ·rcases L.cl y hy a ha with h | h
    ·exact .inl h
    ·rcases ab0.1 h with h | h
     ·rw [h]; exact .inl rN
     ·exact .inr h
   ·rcases L.hd with⟨h,_⟩| h
    ·rw [h] at rN; cases rN
    ·exact .inr h
  | false=>
   have S3:x∉o:=fun h=>by
    have:=(L.mt x.toNat (by omega)).2 (by rw [OJ]; exact h)
    rw [hg] at this; cases this
   have Sa:(o++[x]).Nodup:=by
    rw [acB]
    refine⟨L.nd,by simp,fun a ha b hb=>?_⟩
    rw [abI] at hb
    subst hb; intro e; subst e; exact S3 ha
   have Sd:∀y∈o++[x],Rg s.ae.length y∧rp s.aB y=y∧LP s.ae (rp s.aB) r y:=fun y hy=>by
    rcases abP.1 hy with hy | hy
    ·exact L.rt y hy
    ·rw [abI] at hy; subst hy; exact⟨x1,x2,x3⟩
   have BC:=k8 Sa fun y hy=>(Sd y hy).1
   simp only [abQ,abR,ab4] at BC
   have pW:app 8 o [x]=some (o++[x]):=by unfold app; rw [if_pos (by simp; omega)]
   have pD:(k9 s x).args.length=(gI s.ae x).args.length:=by show (List.map _ _).length=_; rw [abL]
   have VL:i64.wrap (((k9 s x).args.length:Int) - 1)=((k9 s x).args.length:Int) - 1:=bl (by omega) (by omega)
   obtain⟨z,q1⟩:=BT (m:=m) (x:=k9 s x) (by omega) m (k9 s x).args.length st.reverse (by omega) (abB _) (by simp; omega)
   rw [ace] at q1
   have OL:st.reverse++(k9 s x).args.reverse=((k9 s x).args++st).reverse:=by simp
   rw [OL] at q1
   have ev:=wz (m:=m) (by omega) v M x1
   rw [x2] at ev
   rw [if_neg (by simp),abw,pW,abw,ev,abw,VL,q1,abw]
   dsimp only
   refine wA hm v M f (met.set x.toNat true) (o++[x]) ((k9 s x).args++st) (by simp; omega) (by simp; omega) ⟨by simpa using L.ml,fun i hi=>?_,Sa,Sd,fun y hy=>?_,fun y hy a ha=>?_,.inr ?_⟩
   ·rw [zJ (by omega),abP,abI]
    by_cases e:i=x.toNat
    ·subst e; simp [OJ]
    ·rw [if_neg e,L.mt i hi]
     constructor
     ·exact fun h=>.inl h
     ·rintro (h | h)
      ·exact h
      ·omega
   ·rcases abP.1 hy with hy | hy
    ·obtain⟨a,ha,rfl⟩:=abZ.1 hy
     have:=nR a ha
     exact⟨v.cn.rg a this,v.cn.id a this,.step x3 ha⟩
    ·exact L.sk y (by simp [hy])
   ·rcases abP.1 hy with hy | hy
    ·rcases L.cl y hy a ha with h | h
     ·exact .inl (ab6 _ h)
     ·rcases ab0.1 h with h | h
      ·exact .inl (List.mem_append_right _ (by simp [h]))
      ·exact .inr (List.mem_append_right _ h)
    ·rw [abI] at hy
     subst hy
     exact .inr (ab6 _ (abZ.2 ⟨a,ha,rfl⟩))
   ·rcases L.hd with⟨h,h'⟩| h
    ·subst h
     cases h'
     rfl
    ·have:=(abG.1 h).1
     rw [abS (by omega)]; exact h
theorem Fp (hm:2 ^ 30≤m)(v:Inv s)(M:lT s t){n:Int}(h:Rg s.ae.length n):∃l,aL.f m t n=some l∧Reach s (rp s.aB n) l:=by
 have rl:(2:Nat) ^ 30=1073741824:=by decide
 have R9:=v.max
 unfold aL.f
 have e1:pX 1 (s.ae.length:Int) false=some (abM s.ae.length false):=by unfold pX; rw [if_pos ⟨by omega,by rw [abC]; omega⟩,abC]
 obtain⟨zK,o',k1,k2⟩:=wA (m:=m) (r:=rp s.aB n) hm v M m (abM s.ae.length false) [] [rp s.aB n] (by simp; omega) (by simp; omega)
  ⟨by simp,fun i hi=>by rw [zL]; simp,by simp,fun x hx=>(by cases hx),fun x hx=>by
   rw [abI] at hx; subst hx; exact⟨v.cn.rg n h,v.cn.id n h,.refl⟩,fun x hx=>(by cases hx),.inl ⟨rfl,rfl⟩⟩
 have k1:aL.l0 m t m (abM s.ae.length false) [] [rp s.aB n]=_:=k1
 rw [M.nodes,e1,abw,M.wv,ui h,abw,k1]
 exact⟨o',rfl,k2⟩
end
end Go.Proofs.YtifafejidnjckaaGreat
namespace Go.Uf
open Go Go.R
open Go.IntKind (i64 u64 u8 u32)
theorem yf:∀{a b:List Int},a.Pairwise (· < ·)→b.Pairwise (· < ·)→(∀x,x∈a↔x∈b)→a=b
 | [],[],_,_,_=>rfl
 | [],y::b,_,_,h=>by have:=(h y).2 (by simp); cases this
 | x::a,[],_,_,h=>by have:=(h x).1 (by simp); cases this
 | x::a,y::b,ha,hb,h=>by
  rw [List.pairwise_cons] at ha hb
  have e:x=y:=by
   rcases ab0.1 ((h x).1 (by simp)) with e | h1
   ·exact e
   ·rcases ab0.1 ((h y).2 (by simp)) with e | h2
    ·exact e.symm
    ·have:=hb.1 x h1; have:=ha.1 y h2; omega
  subst e
  rw [yf ha.2 hb.2 fun z=>?_]
  have:=h z
  simp only [ab0] at this
  constructor
  ·intro hz
   rcases this.1 (.inr hz) with e | h'
   ·have:=ha.1 z hz; omega
   ·exact h'
  ·intro hz
   rcases this.2 (.inr hz) with e | h'
   ·have:=hb.1 z hz; omega
   ·exact h'
theorem Gy {l:List Int}{x:Int}:x∈jr l↔x∈l:=by unfold jr; exact List.mem_mergeSort
theorem zP {l:List Int}(h:l.Nodup):(jr l).Pairwise (· < ·):=by
 have h1:(jr l).Pairwise (fun x y=>(decide (x≤y))=true):=by
  unfold jr
  exact List.pairwise_mergeSort (fun a b c h1 h2=>by simp only [decide_eq_true_eq] at *; omega) (fun a b=>by simp only [acu,decide_eq_true_eq]; omega) l
 have h2:(jr l).Nodup:=by
  unfold jr
  exact (List.mergeSort_perm l _).nodup_iff.2 h
 unfold List.Nodup at h2
 exact (h1.and h2).imp fun ⟨a,b⟩=>by simp only [decide_eq_true_eq] at a; omega
end Go.Uf
namespace Go.Proofs.YtifafejidnjckaaGreat
open Go Go.R Go.Uf
open Go.IntKind (i64 u64 u8 u32)
section
variable {m:Nat}{s:aj}{t:ay}{r:Int}
theorem Reach.all {l:List Int}(B:Reach s r l){x:Int}(h:LP s.ae (rp s.aB) r x):x∈l:=by
 induction h with
 | refl=>exact abJ B.hd
 | step hy ha ih=>exact B.cl _ ih _ ha
def PJ (place l:List Int)(i:Nat):Prop:=∀(j:Nat) x,j<i→l[j]? = some x→gt place x.toNat=j
theorem BU {l:List Int}(h:Reach s r l)(hN:s.ae.length≤8000):∀(k i:Nat) (place:List Int),i≤l.length→l.length - i<k→place.length=s.ae.length→PJ place l i→∃sF,aE.l0 m l k place (i:Int)=some (sF,(l.length:Int))∧sF.length=s.ae.length∧PJ sF l l.length
 | 0,i,place,h1,h2,_,_=>by omega
 | k+1,i,place,h1,h2,hl,hp=>by
  simp only [aE.l0]
  have hf:=h.xZ
  by_cases hlt:i<l.length
  ·have d:decide ((i:Int)<(l.length:Int))=true:=by rw [decide_eq_true_eq]; omega
   have eg:=abD hlt
   generalize l[i]=y at eg
   have ey:=(h.rt y (abJ eg)).1
   have y0:=ey.1
   have y1:=ey.2
   have ew:i64.wrap ((i:Int)+1)=((i+1:Nat):Int):=by rw [lj (by omega) (by omega)]; omega
   rw [if_pos d,xU eg,abw,gP (l:=place) (i:=y) (k:=y.toNat) (by omega) (by omega),abw,ew]
   refine BU h hN k (i+1) _ (by omega) (by omega) (by simpa using hl) fun j x hj hx=>?_
   rw [fL (by omega)]
   have hxr:=(h.rt x (abJ hx)).1
   by_cases e:j<i
   ·have:¬x.toNat=y.toNat:=fun e2=>by
     have e3:x=y:=by have:=hxr.1; omega
     subst e3
     have a1:=uj h.nd hx
     have a2:=uj h.nd eg
     omega
    rw [if_neg this]
    exact hp j x e hx
   ·have:j=i:=by omega
    subst this
    rw [eg] at hx; cases hx
    rw [if_pos rfl]
  ·have d:decide ((i:Int)<(l.length:Int))=false:=by rw [decide_eq_false_iff_not]; omega
   have e:i=l.length:=by omega
   rw [if_neg (by rw [d]; decide),e]
   exact⟨place,rfl,hl,by rw [←e]; exact hp⟩
theorem BV (place:List Int)(x:ah)(h8:x.args.length≤8)(hr:∀a∈x.args,0≤a∧a<place.length):∀(k i:Nat),i≤x.args.length→x.args.length - i<k→
  aE.l2 m place x k ((x.args.take i).map (fun a=>gt place a.toNat)) (i:Int)=some (x.args.map (fun a=>gt place a.toNat),(x.args.length:Int))
 | 0,i,h1,h2=>by omega
 | k+1,i,h1,h2=>by
  simp only [aE.l2]
  by_cases hi:i<x.args.length
  ·have d:decide ((i:Int)<(x.args.length:Int))=true:=by rw [decide_eq_true_eq]; omega
   have eg:=abD hi
   have et:x.args.take (i+1)=x.args.take i++[x.args[i]]:=ab2 hi
   generalize x.args[i]=a at eg et
   obtain⟨a0,a1⟩:=hr a (abJ eg)
   have ew:i64.wrap ((i:Int)+1)=((i+1:Nat):Int):=by rw [lj (by omega) (by omega)]; omega
   rw [if_pos d,xU eg,abw,gP (l:=place) (i:=a) (k:=a.toNat) (by omega) (by omega),abw,vU (by simp only [abL,acm,abR,ab4]; omega),abw,ew]
   have:=BV place x h8 hr k (i+1) (by omega) (by omega)
   rw [et,abV] at this
   exact this
  ·have d:decide ((i:Int)<(x.args.length:Int))=false:=by rw [decide_eq_false_iff_not]; omega
   have e:i=x.args.length:=by omega
   rw [if_neg (by rw [d]; decide),e,ace]
theorem BW (hm:16000≤m)(v:Inv s)(M:lT s t){l:List Int}(h:Reach s r l){place:List Int}(hl:place.length=s.ae.length)(hp:PJ place l l.length):∀(k i:Nat),i≤l.length→l.length - i<k→
  aE.l1 m t l place k (i:Int) ((l.take i).map (th s l)) 0=some ((l.length:Int),TN s l,0)
 | 0,i,h1,h2=>by omega
 | k+1,i,h1,h2=>by
  simp only [aE.l1]
  have hf:=h.xZ
  have h8:=v.max
  by_cases hi:i<l.length
  ·have d:decide ((i:Int)<(l.length:Int))=true:=by rw [decide_eq_true_eq]; omega
   have eg:=abD hi
   have et:l.take (i+1)=l.take i++[l[i]]:=ab2 hi
   generalize l[i]=y at eg et
   have hy:=abJ eg
   obtain⟨y1,y2,_⟩:=h.rt y hy
   have ew:i64.wrap ((i:Int)+1)=((i+1:Nat):Int):=by rw [lj (by omega) (by omega)]; omega
   obtain⟨n8,nR⟩:=v.args _ (jK y1)
   have ea:(k9 s y).args.map (fun a=>gt place a.toNat)=(gI s.ae y).args.map fun a=>tP l (rp s.aB a):=by
    show ((gI s.ae y).args.map _).map _=_
    rw [List.map_map]
    apply acA
    intro a ha
    have hin:=h.cl y hy a ha
    have h0:=mw hin
    have h1:=rq hin
    show gt place (rp s.aB a).toNat=_
    rw [hp _ _ (by omega) h0]
    omega
   have R9:(k9 s y).args.length≤8:=by show (List.map _ _).length≤8; rw [abL]; exact n8
   have e2:=BV (m:=m) place (k9 s y) R9 (fun a ha=>by
    obtain⟨b,hb,rfl⟩:=abZ.1 ha
    have:=v.cn.rg b (nR b hb)
    rw [hl]; exact this) m 0 (aco _) (by omega)
   have e2:aE.l2 m place (k9 s y) m [] 0=_:=e2
   have ev:=wz (m:=m) hm v M y1
   rw [y2] at ev
   rw [if_pos d,xU eg,abw,ev,abw,e2,abw]
   simp only [ew]
   rw [vU (by simp only [abL,acm,abR,ab4]; omega),abw]
   have:=BW hm v M h hl hp k (i+1) (by omega) (by omega)
   rw [et,abV] at this
   rw [ea]
   exact this
  ·have d:decide ((i:Int)<(l.length:Int))=false:=by rw [decide_eq_false_iff_not]; omega
   have e:i=l.length:=by omega
   rw [if_neg (by rw [d]; decide),e,ace]
   rfl
theorem OZ (v:Inv2 s){l:List Int}(h:Reach s r l):VH ⟨TN s l,0⟩:=by
 intro n hn hk
 obtain⟨y,hy,rfl⟩:=abZ.1 hn
 obtain⟨y1,_,_⟩:=h.rt y hy
 have h1:(th s l y).int=y:=(v.vn y y1).2 hk
 have:=v.inv.max
 have:=y1.2
 have Tg:(2:Int) ^ 63=9223372036854775808:=by decide
 rw [h1,Tg]; omega
theorem Gz (hm:2 ^ 41≤m)(v:Inv2 s)(M:lT s t){n:Int}(h:Rg s.ae.length n):∃z,aD.f m s n=some (z,0)∧aE.f m t n=some (z,0)∧fM z=true:=by
 have rl:(2:Nat) ^ 30=1073741824:=by decide
 have wZ:(2:Nat) ^ 41=2199023255552:=by decide
 have h8:=v.inv.max
 obtain⟨l1,z,R1,V1,e1,f1,hz⟩:=OO hm v h
 obtain⟨l2,e2,R2⟩:=Fp (m:=m) (by omega) v.inv M h
 have V2:=BJ v R2
 have hS:Sb s (rp s.aB n) (rp s.aB n):=Sb.refl v.inv (v.inv.cn.rg n h) (v.inv.cn.id n h)
 obtain⟨R,B,hr⟩:=(OP R1 R2).2 hS
 obtain⟨w,w1,w2⟩:=Gt hm V1 V2 B hr
 rw [e1] at w1
 cases ab8 w1
 obtain⟨z2,e,k1,k2,_,k4,_⟩:=DB hm (OZ v R2)
 have he:e=0:=k4.2 V2
 subst he
 have:z2=z:=by
  unfold gD.f at k1
  rw [nf (by omega),V2,abw,if_neg (by decide),w2,abw] at k1
  simpa using k1.symm
 subst this
 refine⟨z2,f1,?_,hz⟩
 have em:pX 8 (s.ae.length:Int) (0:Int)=some (abM s.ae.length 0):=by unfold pX; rw [if_pos ⟨by omega,by rw [abC]; omega⟩,abC]
 have hf:=R2.xZ
 obtain⟨place,q1,q2,q3⟩:=BU (m:=m) R2 h8 m 0 (abM s.ae.length 0) (aco _) (by omega) (by simp) (fun j x hj=>by omega)
 have q1:aE.l0 m l2 m (abM s.ae.length 0) 0=_:=q1
 have q4:=BW (m:=m) (by omega) v.inv M R2 q2 q3 m 0 (aco _) (by omega)
 have q4:aE.l1 m t l2 place m 0 [] 0=_:=q4
 unfold aE.f
 rw [M.oN,abw,if_neg (by decide),M.has,decide_eq_true h,abw,if_neg (by decide),e2,abw,M.nodes,em,abw,q1,abw]
 simp only []
 rw [q4,abw]
 simp only []
 rw [k2]; rfl
theorem GA (M:lT s t){n:Int}(h:¬Rg s.ae.length n):aE.f m t n=some (⟨[],0⟩,1):=by
 unfold aE.f
 rw [M.oN,abw,if_neg (by decide),M.has,decide_eq_false h]
 rfl
theorem BX (M:lT s t){l:List Int}(h:Reach s r l)(hN:s.ae.length≤8000):∀(k i:Nat) (fl:List Bool),i≤l.length→l.length - i<k→fl.length=s.ae.length→(∀q,q<s.ae.length→(gb fl q=true↔(q:Int)∈l.take i∧(gI s.ae (q:Int)).kind=0))→
  ∃Wb,aT.l0 m t l k fl (i:Int)=some (Wb,(l.length:Int))∧Wb.length=s.ae.length∧∀q,q<s.ae.length→(gb Wb q=true↔(q:Int)∈l∧(gI s.ae (q:Int)).kind=0)
 | 0,i,fl,h1,h2,_,_=>by omega
 | k+1,i,fl,h1,h2,hl,hq=>by
  simp only [aT.l0]
  have hf:=h.xZ
  by_cases hlt:i<l.length
  ·have d:decide ((i:Int)<(l.length:Int))=true:=by rw [decide_eq_true_eq]; omega
   have eg:=abD hlt
   have et:l.take (i+1)=l.take i++[l[i]]:=ab2 hlt
   generalize l[i]=y at eg et
   have ey:=(h.rt y (abJ eg)).1
   have y0:=ey.1
   have y1:=ey.2
   have ew:i64.wrap ((i:Int)+1)=((i+1:Nat):Int):=by rw [lj (by omega) (by omega)]; omega
   rw [if_pos d,xU eg,abw,abw,M.nodes,vT ey,abw,wi y0 (by omega),abw,ew]
   refine BX M h hN k (i+1) _ (by omega) (by omega) (by simpa using hl) fun q Wc=>?_
   rw [zJ (by omega),et,abP,abI]
   by_cases e:q=y.toNat
   ·subst e
    rw [if_pos rfl]
    have:((y.toNat:Nat):Int)=y:=by omega
    rw [this]
    simp
   ·rw [if_neg e,hq q Wc]
    have:¬(q:Int)=y:=by omega
    simp [this]
  ·have d:decide ((i:Int)<(l.length:Int))=false:=by rw [decide_eq_false_iff_not]; omega
   have e:i=l.length:=by omega
   rw [if_neg (by rw [d]; decide),e]
   refine⟨fl,rfl,hl,fun q Wc=>?_⟩
   have:=hq q Wc
   rwa [e,ace] at this
def nj (fl:List Bool)(i:Nat):List Int:=((acX i).filter fun q=>gb fl q).map fun (q:Nat)=>(q:Int)
theorem GB (fl:List Bool)(i:Nat):(nj fl i).length≤i:=by
 unfold nj
 rw [abL]
 have:=List.length_filter_le (fun q=>gb fl q) (acX i)
 rwa [List.length_range] at this
theorem BY (fl:List Bool)(hN:fl.length≤8000):∀(k i:Nat),i≤fl.length→fl.length - i<k→aT.l1 m fl k (nj fl i) (i:Int)=some (nj fl fl.length,(fl.length:Int))
 | 0,i,h1,h2=>by omega
 | k+1,i,h1,h2=>by
  simp only [aT.l1]
  by_cases hlt:i<fl.length
  ·have d:decide ((i:Int)<(fl.length:Int))=true:=by rw [decide_eq_true_eq]; omega
   have ew:i64.wrap ((i:Int)+1)=((i+1:Nat):Int):=by rw [lj (by omega) (by omega)]; omega
   have ex:ix fl (i:Int)=some (gb fl i):=by have:=wi (l:=fl) (i:=(i:Int)) (by omega) (by omega); rwa [abC] at this
   have hs:nj fl (i+1)=nj fl i++(if gb fl i=true then [(i:Int)] else []):=by
    unfold nj
    rw [List.range_succ,List.filter_append,abV]
    congr 1
    cases hb:gb fl i<;>simp [hb]
   have hlen:=GB fl i
   have:=BY fl hN k (i+1) (by omega) (by omega)
   rw [hs] at this
   rw [if_pos d,ex,abw,ew]
   cases hb:gb fl i with
   | true=>
    rw [hb] at this
    rw [if_pos rfl] at this ⊢
    rw [vU (by simp only [abR,ab4]; omega),abw]
    exact this
   | false=>
    rw [hb,if_neg (by decide),acS] at this
    rw [if_neg (by decide)]
    exact this
  ·have d:decide ((i:Int)<(fl.length:Int))=false:=by rw [decide_eq_false_iff_not]; omega
   have e:i=fl.length:=by omega
   rw [if_neg (by rw [d]; decide),e]
theorem GC (hm:2 ^ 41≤m)(v:Inv2 s)(M:lT s t)(n:Int):∃l e,eL.f m s n=some (l,e)∧aT.f m t n=some (l,e)∧l.length≤8000:=by
 have rl:(2:Nat) ^ 30=1073741824:=by decide
 have wZ:(2:Nat) ^ 41=2199023255552:=by decide
 have h8:=v.inv.max
 unfold eL.f aT.f
 rw [rf (by omega) v.inv.made [n] (by simp),M.oN,abw,abw,if_neg (show ¬(!true)=true by decide),M.has,abw]
 by_cases h:Rg s.ae.length n
 ·rw [show ([n].all fun n=>decide (Rg s.ae.length n))=true by simp [h],if_pos rfl,if_neg (by decide),decide_eq_true h,if_neg (by decide)]
  obtain⟨l1,e1,R1⟩:=Fa (m:=m) (by omega) v.inv h
  obtain⟨l2,e2,R2⟩:=Fp (m:=m) (by omega) v.inv M h
  have f1:=R1.xZ
  have f2:=R2.xZ
  have eD:=Jp (m:=m) (f:=fun y0=>dF.f m y0 s) (g:=fun x=>!((gI s.ae x).kind==0)) (by omega) l1 (by omega) (fun x hx=>by
   simp only [dF.f]
   rw [OB (R1.rt x hx).1,abw])
  have em:pX 1 (s.ae.length:Int) false=some (abM s.ae.length false):=by unfold pX; rw [if_pos ⟨by omega,by rw [abC]; omega⟩,abC]
  obtain⟨fl,q1,q2,q3⟩:=BX (m:=m) M R2 h8 m 0 (abM s.ae.length false) (aco _) (by omega) (by simp) (fun q hq=>by rw [zL]; simp)
  have q1:aT.l0 m t l2 m (abM s.ae.length false) 0=_:=q1
  have q4:=BY (m:=m) fl (by omega) m 0 (aco _) (by omega)
  have q4:aT.l1 m fl m [] 0=_:=q4
  rw [e1,abw,eD,abw,e2,abw,M.nodes,em,abw,q1,abw]
  simp only []
  rw [q4,abw]
  refine⟨_,_,rfl,?_,?_⟩
  ·congr 2
   apply yf
   ·unfold nj
    rw [List.pairwise_map]
    exact (List.pairwise_lt_range.filter _).imp fun h=>by omega
   ·exact zP (R1.nd.filter _)
   ·intro x
    rw [Gy]
    unfold nj
    simp only [abZ,acW,ac0,Bool.not_not,beq_iff_eq]
    have same:∀x,x∈l1↔x∈l2:=by
     exact fun x=>⟨fun h=>R2.all (R1.rt x h).2.2,fun h=>R1.all (R2.rt x h).2.2⟩
    constructor
    ·rintro⟨q,⟨hq,hb⟩,rfl⟩
     obtain⟨a1,a2⟩:=(q3 q (by omega)).1 hb
     exact⟨(same _).2 a1,a2⟩
    ·rintro⟨a1,a2⟩
     have hx:=(R1.rt x a1).1
     have h0:=hx.1
     have h1:=hx.2
     have e:((x.toNat:Nat):Int)=x:=by omega
     exact⟨x.toNat,⟨by omega,(q3 _ (by omega)).2 ⟨by rw [e]; exact (same x).1 a1,by rw [e]; exact a2⟩⟩,e⟩
  ·rw [rZ]
   have:=List.length_filter_le (fun x=>!(!((gI s.ae x).kind==0))) l1
   omega
 ·rw [show ([n].all fun n=>decide (Rg s.ae.length n))=false by simp [h],decide_eq_false h]
  exact⟨[],1,rfl,rfl,by simp⟩
end
end Go.Proofs.YtifafejidnjckaaGreat
