/- Part of the proof: PB7, PB8, PB10, PB11, PU3, PV2, Q34, PU4, Q16, PV3, Crc. -/
import Derived.Test.YtmekcfdllhphlaaGreatDoorK13
set_option linter.unusedVariables false
set_option linter.unusedSimpArgs false
set_option maxRecDepth 100000
open Int renaming toNat_natCast → Yq, fdiv_eq_ediv_of_nonneg → ZN, le_refl → ZR
open List renaming length_append → Ys, length_set → Yt, getElem?_eq_some_iff → Yu, getElem?_eq_getElem → Yv, mem_singleton → Yw, append_assoc → Yx, mem_append → Yy, drop_eq_getElem_cons → Yz, getD_eq_getElem?_getD → YB, getElem?_eq_none → YC, length_cons → YD, getElem?_append_right → YE, replicate → YF, mem_map → YH, map_cons → YJ, nil_append → YO, map_append → YP, getElem?_map → YQ, take_of_length_le → YR, mem_cons → YW, length_map → YY, drop_zero → YZ, drop_eq_nil_of_le → Y3, length_nil → Y6, ext_getElem? → Zd, getElem_mem → Ze, append_nil → Zk, take_add_one → Zn, map_congr_left → Zo, take_length → Zq, length_take → Zz, set_append_right → ZD, getElem?_set → ZH, mem_filter → ZM, length → ZS
open Nat renaming le_trans → Y0, lt_succ_self → Y2, sub_self → ZT, zero_le → ZY
open Option renaming bind_some → Yj, bind_eq_some_iff → Yk, map_some → Yp
open Option.some renaming injEq → Ym, inj → YI
open Or renaming inr → Zx
namespace Go.Proofs.YtmekcfdllhphlaaGreatDoor
open Go Go.R
open Go.IntKind (i64 u64 u8 u32)
structure Dl (l:List ab)(dn:List Bool)(c0 cls:List Int):Prop where
 lc:cls.length=l.length
 old:∀j,j<l.length→gb dn j=true→gt cls j=gt c0 j
 qe:∀j:Nat,(j:Int)∈bK dn l.length→gt cls j∈bK dn l.length∧gt cls j≤j∧gt cls (gt cls j).toNat=gt cls j∧Alike (nd l j) (nd l (gt cls j))
 coarse:∀R,EI l R→∀i j:Nat,R i j→(i:Int)∈bK dn l.length→(j:Int)∈bK dn l.length→gt cls i=gt cls j
theorem ga {dn:List Bool}{p:Nat}{x:Int}(h:x∈bK dn p):0≤x∧x<p∧((x.toNat:Nat):Int)=x:=by
 obtain⟨j,a,b,c⟩:=jb.1 h; omega
theorem EO {l:List ab}{dn:List Bool}{c0 cls:List Int}(P:Pu l dn c0 l.length cls):Dl l dn c0 cls:=by
 have mn:∀i j:Nat,(i:Int)∈bK dn l.length→(j:Int)∈bK dn l.length→Alike (nd l i) (nd l j)→gt cls i≤gt cls j:=fun i j hi hj hA=>by
  obtain⟨r1,r2,r3⟩:=P.qe j hj
  exact (P.qe i hi).2.2 _ r1 (hA.trans r2)
 refine⟨P.lc,fun j _ h=>P.old j h,fun j hj=>?_,fun R B i j hR hi hj=>?_⟩
 ·obtain⟨r1,r2,r3⟩:=P.qe j hj
  have e:=(ga r1).2.2
  refine⟨r1,r3 j hj (Alike.refl _),?_,r2⟩
  have h1:=mn j (gt cls j).toNat hj (by rw [e]; exact r1) (by rw [e]; exact r2)
  have h2:=mn (gt cls j).toNat j (by rw [e]; exact r1) hj (by rw [e]; exact r2.symm)
  omega
 ·have h1:=mn i j hi hj (B.top i j hR)
  have h2:=mn j i hj hi (B.top i j hR).symm
  omega
def Qr (l:List ab)(cls:List Int)(j g:Nat):Prop:=gt cls j=gt cls g∧SA l cls j g
theorem Dl.al {l dn c0 cls}(P:Dl l dn c0 cls){i j:Nat}(hi:(i:Int)∈bK dn l.length)(hj:(j:Int)∈bK dn l.length)(h:gt cls i=gt cls j):Alike (nd l i) (nd l j):=by
 have a:=(P.qe i hi).2.2.2
 have b:=(P.qe j hj).2.2.2
 rw [h] at a
 exact a.trans b.symm
theorem Dl.KB {l dn c0 cls}(P:Dl l dn c0 cls){i j:Nat}(hi:(i:Int)∈bK dn l.length)(hj:(j:Int)∈bK dn l.length)(h:Qr l cls i j):Qr l cls j i:=
 ⟨h.1.symm,fun k hk=>(h.2 k (by have:=(P.al hi hj h.1).len; unfold na at *; omega)).symm⟩
theorem Dl.BV {l dn c0 cls}(P:Dl l dn c0 cls){i j q:Nat}(hi:(i:Int)∈bK dn l.length)(hj:(j:Int)∈bK dn l.length)(h:Qr l cls i j)(g:Qr l cls j q):Qr l cls i q:=
 ⟨h.1.trans g.1,fun k hk=>(h.2 k hk).trans (g.2 k (by have:=(P.al hi hj h.1).len; unfold na at *; omega))⟩
theorem H2 {m:Nat}(hm:2 ^ 30≤m){l:List ab}{dn:List Bool}{c0 cls nx:List Int}(ok:lz l)(P:Dl l dn c0 cls)(hnx:nx.length=l.length){J:Nat}(hJ:J<(bK dn l.length).length)
  (hlt:∀q,q<J→gt nx (gt (bK dn l.length) q).toNat≠gt (bK dn l.length) J):∀(f k:Nat),J - k+2≤f→k≤J→(∀q,q<k→¬Qr l cls (gt (bK dn l.length) J).toNat (gt (bK dn l.length) q).toNat)→
  ∃w x,af.l6 m l (bK dn l.length) cls (J:Int) (gt (bK dn l.length) J) f (nx.set (gt (bK dn l.length) J).toNat (gt (bK dn l.length) J)) (k:Int)=some (nx.set (gt (bK dn l.length) J).toNat w,x)∧
   (w=gt (bK dn l.length) J∧(∀q,q<J→¬Qr l cls (gt (bK dn l.length) J).toNat (gt (bK dn l.length) q).toNat)∨∃q,q<J∧Qr l cls (gt (bK dn l.length) J).toNat (gt (bK dn l.length) q).toNat∧w=gt nx (gt (bK dn l.length) q).toNat)
 | 0,k,hf,_,_=>absurd hf (by omega)
 | f+1,k,hf,hk,rT=>by
  have lE:(2:Nat) ^ 30=1073741824:=by decide
  have h8:=ok.1
  have OV:=iB (dn:=dn) l.length
  have mJ:=aJ hJ
  obtain⟨v0,v1,v2⟩:=ga mJ
  unfold af.l6
  have nK:∀w,ix (nx.set (gt (bK dn l.length) J).toNat w) (gt (bK dn l.length) J)=some w:=fun w=>by
   rw [gn (k:=(gt (bK dn l.length) J).toNat) (by omega) (by rw [Yt]; omega),eh (by omega),if_pos rfl]
  rw [nK,Yj,if_pos (by simp)]
  by_cases h:k<J
  ·have mk:=aJ (l:=bK dn l.length) (k:=k) (by omega)
   obtain⟨w0,w1,w2⟩:=ga mk
   have next:¬Qr l cls (gt (bK dn l.length) J).toNat (gt (bK dn l.length) k).toNat→∃w x,af.l6 m l (bK dn l.length) cls (J:Int) (gt (bK dn l.length) J) f (nx.set (gt (bK dn l.length) J).toNat (gt (bK dn l.length) J)) (i64.wrap ((k:Int)+1))=some (nx.set (gt (bK dn l.length) J).toNat w,x)∧
     (w=gt (bK dn l.length) J∧(∀q,q<J→¬Qr l cls (gt (bK dn l.length) J).toNat (gt (bK dn l.length) q).toNat)∨∃q,q<J∧Qr l cls (gt (bK dn l.length) J).toNat (gt (bK dn l.length) q).toNat∧w=gt nx (gt (bK dn l.length) q).toNat):=fun hn=>by
    rw [aA (by omega) (by omega),show (k:Int)+1=((k+1:Nat):Int) by omega]
    refine H2 hm ok P hnx hJ hlt f (k+1) (by omega) (by omega) fun q hq=>?_
    by_cases e:q=k
    ·subst e; exact hn
    ·exact rT q (by omega)
   have c1:ix cls (gt (bK dn l.length) J)=some (gt cls (gt (bK dn l.length) J).toNat):=gn v2.symm (by rw [P.lc]; omega)
   have c2:ix cls (gt (bK dn l.length) k)=some (gt cls (gt (bK dn l.length) k).toNat):=gn w2.symm (by rw [P.lc]; omega)
   rw [if_pos (by simp only [decide_eq_true_eq]; omega),c1,Yj,cy (by omega),Yj,c2,Yj]
   by_cases e:gt cls (gt (bK dn l.length) J).toNat=gt cls (gt (bK dn l.length) k).toNat
   ·have hA:=P.al (i:=(gt (bK dn l.length) J).toNat) (j:=(gt (bK dn l.length) k).toNat) (by rw [v2]; exact mJ) (by rw [w2]; exact mk) e
    obtain⟨xs,s1,s2⟩:=Df hm ok P.lc (i:=(gt (bK dn l.length) J).toNat) (j:=(gt (bK dn l.length) k).toNat) (by omega) (by omega) hA.len
    rw [v2,w2] at s1
    rw [if_pos (by simpa using e),il (by omega) (by omega),Yj,Yj,il (by omega) (by omega),Yj,s1,Yj]
    cases xs with
    | false=>
     rw [if_neg (by simp)]
     exact next fun h=>by have:=s2.2 h.2; cases this
    | true=>
     have hQ:Qr l cls (gt (bK dn l.length) J).toNat (gt (bK dn l.length) k).toNat:=⟨e,s2.1 rfl⟩
     have hne:(gt (bK dn l.length) k).toNat≠(gt (bK dn l.length) J).toNat:=by have:=mY (dn:=dn) (p:=l.length) h hJ; omega
     have n1:ix (nx.set (gt (bK dn l.length) J).toNat (gt (bK dn l.length) J)) (gt (bK dn l.length) k)=some (gt nx (gt (bK dn l.length) k).toNat):=by
      rw [gn w2.symm (by rw [Yt]; omega),eh (by omega),if_neg hne]
     obtain⟨g,rfl⟩:∃g,f=g+1:=⟨f - 1,by omega⟩
     rw [if_pos rfl,Yj,n1,Yj,Yj,List.set_set]
     refine⟨gt nx (gt (bK dn l.length) k).toNat,i64.wrap ((k:Int)+1),?_,.inr ⟨k,h,hQ,rfl⟩⟩
     unfold af.l6
     rw [nK,Yj,if_neg (by simpa using hlt k h)]
   ·rw [if_neg (by simpa using e)]
    exact next fun h=>e h.1
  ·have e:k=J:=by omega
   rw [if_neg (by simp only [decide_eq_true_eq]; omega)]
   exact⟨gt (bK dn l.length) J,_,rfl,.inl ⟨rfl,fun q hq=>rT q (by omega)⟩⟩
structure N5 (l:List ab)(dn:List Bool)(cls:List Int)(p:Nat)(nx:List Int):Prop where
 ln:nx.length=l.length
 ME:∀x:Nat,(x:Int)∉bK dn l.length→gt nx x=gt cls x
 later:∀q,p≤q→q<(bK dn l.length).length→gt nx (gt (bK dn l.length) q).toNat=gt cls (gt (bK dn l.length) q).toNat
 new:∀q,q<p→gt nx (gt (bK dn l.length) q).toNat∈bK dn l.length∧Qr l cls (gt (bK dn l.length) q).toNat (gt nx (gt (bK dn l.length) q).toNat).toNat∧∀g∈bK dn l.length,Qr l cls (gt (bK dn l.length) q).toNat g.toNat→gt nx (gt (bK dn l.length) q).toNat≤g
theorem yu {dn:List Bool}{n p q:Nat}(hp:p<(bK dn n).length)(hq:q<(bK dn n).length)(e:(gt (bK dn n) p).toNat=(gt (bK dn n) q).toNat):p=q:=by
 have a:=(ga (aJ hp)).2.2
 have b:=(ga (aJ hq)).2.2
 rcases Nat.lt_trichotomy p q with h | h | h
 ·have:=mY (dn:=dn) (p:=n) h hq; omega
 ·exact h
 ·have:=mY (dn:=dn) (p:=n) h hp; omega
theorem JI {l:List ab}{dn:List Bool}{c0 cls nx:List Int}(P:Dl l dn c0 cls){p:Nat}(hp:p<(bK dn l.length).length)(N:N5 l dn cls p nx){w:Int}
  (hw:w=gt (bK dn l.length) p∧(∀q,q<p→¬Qr l cls (gt (bK dn l.length) p).toNat (gt (bK dn l.length) q).toNat)∨∃q,q<p∧Qr l cls (gt (bK dn l.length) p).toNat (gt (bK dn l.length) q).toNat∧w=gt nx (gt (bK dn l.length) q).toNat) :
  N5 l dn cls (p+1) (nx.set (gt (bK dn l.length) p).toNat w):=by
 have mp:=aJ hp
 obtain⟨v0,v1,v2⟩:=ga mp
 have gc:∀x,x≠(gt (bK dn l.length) p).toNat→gt (nx.set (gt (bK dn l.length) p).toNat w) x=gt nx x:=fun x hx=>by rw [eh (by rw [N.ln]; omega),if_neg hx]
 have gi:gt (nx.set (gt (bK dn l.length) p).toNat w) (gt (bK dn l.length) p).toNat=w:=by rw [eh (by rw [N.ln]; omega),if_pos rfl]
 refine⟨by simpa using N.ln,fun x hx=>?_,fun q h1 h2=>?_,fun q hq=>?_⟩
 ·rw [gc x (fun e=>hx (by rw [e,v2]; exact mp))]; exact N.ME x hx
 ·rw [gc _ (fun e=>by have:=yu h2 hp e; omega)]; exact N.later q (by omega) h2
 ·by_cases e:q=p
  ·subst e
   rw [gi]
   rcases hw with⟨rfl,h⟩| ⟨q',h1,h2,rfl⟩
   ·refine⟨mp,⟨rfl,fun _ _=>rfl⟩,fun g hg hQ=>?_⟩
    obtain⟨k,hk,rfl⟩:=eW hg
    by_cases WY:k<q
    ·exact absurd hQ (h k WY)
    ·by_cases SY:k=q
     ·subst SY; exact ZR _
     ·have:=mY (dn:=dn) (p:=l.length) (k:=q) (q:=k) (by omega) hk; omega
   ·have mq:=aJ (l:=bK dn l.length) (k:=q') (by omega)
    have eq2:=(ga mq).2.2
    obtain⟨n1,n2,n3⟩:=N.new q' h1
    have e3:=(ga n1).2.2
    have s1:((gt (bK dn l.length) q).toNat:Int)∈bK dn l.length:=by rw [v2]; exact mp
    have s2:((gt (bK dn l.length) q').toNat:Int)∈bK dn l.length:=by rw [eq2]; exact mq
    exact⟨n1,P.BV s1 s2 h2 n2,fun g hg hQ=>n3 g hg (P.BV s2 s1 (P.KB s1 s2 h2) hQ)⟩
  ·rw [gc _ (fun e2=>by have:=yu (dn:=dn) (n:=l.length) (by omega) hp e2; omega)]
   exact N.new q (by omega)
theorem BW {m:Nat}(hm:2 ^ 30≤m){l:List ab}{dn:List Bool}{c0 cls:List Int}(ok:lz l)(P:Dl l dn c0 cls):∀(f p:Nat) (more:Bool) (nx:List Int),(bK dn l.length).length - p<f→p≤(bK dn l.length).length→N5 l dn cls p nx→
  (more=true↔∃q,q<p∧gt nx (gt (bK dn l.length) q).toNat≠gt cls (gt (bK dn l.length) q).toNat)→
  ∃iH SZ x,af.l5 m l (bK dn l.length) cls f more nx (p:Int)=some (iH,SZ,x)∧N5 l dn cls (bK dn l.length).length SZ∧(iH=true↔∃q,q<(bK dn l.length).length∧gt SZ (gt (bK dn l.length) q).toNat≠gt cls (gt (bK dn l.length) q).toNat)
 | 0,p,_,_,hf,_,_,_=>absurd hf (by omega)
 | f+1,p,more,nx,hf,hp,N,mZ=>by
  have lE:(2:Nat) ^ 30=1073741824:=by decide
  have h8:=ok.1
  have OV:=iB (dn:=dn) l.length
  unfold af.l5
  by_cases h:p<(bK dn l.length).length
  ·have mp:=aJ h
   obtain⟨v0,v1,v2⟩:=ga mp
   obtain⟨w,x,k1,k2⟩:=H2 hm ok P N.ln h (fun q hq=>by
    obtain⟨n1,n2,n3⟩:=N.new q hq
    have mq:=aJ (l:=bK dn l.length) (k:=q) (by omega)
    have:=n3 _ mq ⟨rfl,fun _ _=>rfl⟩
    have:=mY (dn:=dn) (p:=l.length) hq h
    omega) m 0 (by omega) (by omega) (fun q hq=>absurd hq (by omega))
   have k1:af.l6 m l (bK dn l.length) cls (p:Int) (gt (bK dn l.length) p) m (nx.set (gt (bK dn l.length) p).toNat (gt (bK dn l.length) p)) 0=_:=k1
   have N':=JI P h N k2
   have ew:i64.wrap ((p:Int)+1)=((p+1:Nat):Int):=by rw [aA (by omega) (by omega)]; omega
   have WZ:ix nx (gt (bK dn l.length) p)=some (gt nx (gt (bK dn l.length) p).toNat):=gn v2.symm (by rw [N.ln]; omega)
   have c1:ix cls (gt (bK dn l.length) p)=some (gt cls (gt (bK dn l.length) p).toNat):=gn v2.symm (by rw [P.lc]; omega)
   have c2:ix (nx.set (gt (bK dn l.length) p).toNat w) (gt (bK dn l.length) p)=some w:=by
    rw [gn v2.symm (by rw [Yt,N.ln]; omega),eh (by rw [N.ln]; omega),if_pos rfl]
   have gw:gt (nx.set (gt (bK dn l.length) p).toNat w) (gt (bK dn l.length) p).toNat=w:=by rw [eh (by rw [N.ln]; omega),if_pos rfl]
   have old:∀q,q<p→gt (nx.set (gt (bK dn l.length) p).toNat w) (gt (bK dn l.length) q).toNat=gt nx (gt (bK dn l.length) q).toNat:=fun q hq=>by
    rw [eh (by rw [N.ln]; omega),if_neg (fun e=>by have:=yu (dn:=dn) (n:=l.length) (by omega) h e; omega)]
   rw [if_pos (by simp only [decide_eq_true_eq]; omega),cy h,Yj,WZ,Yj,k1,Yj]
   dsimp only
   rw [ew]
   cases more with
   | true=>
    rw [if_pos rfl]
    refine BW hm ok P f (p+1) true _ (by clear mZ k2; omega) (by clear mZ k2; omega) N' ⟨fun _=>?_,fun _=>rfl⟩
    obtain⟨q,q1,q2⟩:=mZ.1 rfl
    exact⟨q,by omega,by rw [old q q1]; exact q2⟩
   | false=>
    rw [if_neg (by simp),c2,Yj,c1,Yj]
    refine BW hm ok P f (p+1) _ _ (by clear mZ k2; omega) (by clear mZ k2; omega) N' ?_
    constructor
    ·intro hb
     refine⟨p,by omega,?_⟩
     rw [gw]; simpa using hb
    ·rintro⟨q,q1,q2⟩
     by_cases e:q=p
     ·subst e; rw [gw] at q2; simpa using q2
     ·rw [old q (by omega)] at q2
      have:=mZ.2 ⟨q,by omega,q2⟩
      cases this
  ·have e:p=(bK dn l.length).length:=by omega
   subst e
   exact⟨more,nx,_,by rw [if_neg (by simp)],N,mZ⟩
theorem H3 {l:List ab}{dn:List Bool}{c0 cls nx:List Int}{od:List Int}(ok:lz l)(P:Dl l dn c0 cls)(N:N5 l dn cls (bK dn l.length).length nx)
  (yN:∀j,j<l.length→(gb dn j=true↔(j:Int)∈od)) (MW:∀R,EI l R→∀i j:Nat,R i j→(i:Int)∈od→(j:Int)∈od→gt c0 i=gt c0 j)
  (hfin:∀R,EI l R→∀i j:Nat,R i j→(i:Int)∈od→(j:Int)∈od):Dl l dn c0 nx:=by
 have Pv:∀j,j<l.length→gb dn j=true→(j:Int)∉bK dn l.length:=fun j _ h hm=>by
  obtain⟨j',a,b,c⟩:=jb.1 hm
  have:j=j':=by omega
  subst this; rw [h] at b; cases b
 have vB:∀j,j<l.length→(j:Int)∉od→(j:Int)∈bK dn l.length:=fun j hj h=>jb.2 ⟨j,hj,by
  cases hb:gb dn j with
  | true=>exact absurd ((yN j hj).1 hb) h
  | false=>rfl,rfl⟩
 have atR:∀j:Nat,(j:Int)∈bK dn l.length→gt nx j∈bK dn l.length∧Qr l cls j (gt nx j).toNat∧∀g∈bK dn l.length,Qr l cls j g.toNat→gt nx j≤g:=fun j hj=>by
  obtain⟨q,hq,e⟩:=eW hj
  have:=N.new q hq
  rw [e,Yq] at this
  exact this
 have mn:∀i j:Nat,(i:Int)∈bK dn l.length→(j:Int)∈bK dn l.length→Qr l cls i j→gt nx i≤gt nx j:=fun i j hi hj hQ=>by
  obtain⟨r1,r2,r3⟩:=atR j hj
  exact (atR i hi).2.2 _ r1 (P.BV hi hj hQ r2)
 have U5:∀i j:Nat,(i:Int)∈bK dn l.length→(j:Int)∈bK dn l.length→Qr l cls i j→gt nx i=gt nx j:=fun i j hi hj hQ=>by
  have h1:=mn i j hi hj hQ
  have h2:=mn j i hj hi (P.KB hi hj hQ)
  omega
 refine⟨N.ln,fun j hj h=>by rw [N.ME j (Pv j hj h)]; exact P.old j hj h,fun j hj=>?_,fun R B i j hR hi hj=>?_⟩
 ·obtain⟨r1,r2,r3⟩:=atR j hj
  have e:=(ga r1).2.2
  have AR:(((gt nx j).toNat:Nat):Int)∈bK dn l.length:=by rw [e]; exact r1
  refine⟨r1,r3 j hj ⟨rfl,fun _ _=>rfl⟩,(U5 j _ hj AR r2).symm,?_⟩
  have:=P.al hj AR r2.1
  rw [e] at this; exact this
 ·refine U5 i j hi hj ⟨P.coarse R B i j hR hi hj,fun k hk=>?_⟩
  have Pw:R (ar l i k) (ar l j k):=B.arg i j hR k hk
  obtain⟨ra,rb⟩:=B.nP _ _ Pw
  by_cases ha:((ar l i k:Nat):Int)∈od
  ·have hb:=hfin R B _ _ Pw ha
   rw [P.old _ ra ((yN _ ra).2 ha),P.old _ rb ((yN _ rb).2 hb)]
   exact MW R B _ _ Pw ha hb
  ·have hb:((ar l j k:Nat):Int)∉od:=fun h=>ha (hfin _ B.symm _ _ Pw h)
   exact P.coarse R B _ _ Pw (vB _ ra ha) (vB _ rb hb)
def EP (dn:List Bool)(n:Nat)(cls:List Int):List Int:=(bK dn n).filter fun j=>gt cls j.toNat==j
theorem ER {dn:List Bool}{n:Nat}:(bK dn n).Nodup:=by
 unfold List.Nodup
 rw [List.pairwise_iff_getElem]
 intro i j hi hj y6 e
 have:=mY (dn:=dn) (p:=n) y6 hj
 have a:=bu hi
 have b:=bu hj
 rw [Yv hi] at a
 rw [Yv hj] at b
 have a:=YI a
 have b:=YI b
 omega
theorem H4 {m:Nat}(hm:2 ^ 30≤m){l:List ab}{dn:List Bool}{c0 od:List Int}(ok:lz l)
  (yN:∀j,j<l.length→(gb dn j=true↔(j:Int)∈od)) (MW:∀R,EI l R→∀i j:Nat,R i j→(i:Int)∈od→(j:Int)∈od→gt c0 i=gt c0 j)
  (hfin:∀R,EI l R→∀i j:Nat,R i j→(i:Int)∈od→(j:Int)∈od):∀(f:Nat) (cls:List Int),(bK dn l.length).length - (EP dn l.length cls).length+1<f→Dl l dn c0 cls→
  ∃jF,af.l4 m l (bK dn l.length) f cls true=some (jF,false)∧Dl l dn c0 jF∧∀j:Nat,(j:Int)∈bK dn l.length→SA l jF j (gt jF j).toNat
 | 0,cls,hf,_=>absurd hf (by omega)
 | f+1,cls,hf,P=>by
  have lE:(2:Nat) ^ 30=1073741824:=by decide
  have h8:=ok.1
  have OV:=iB (dn:=dn) l.length
  unfold af.l4
  have jS:app 8 ([]:List Int) cls=some cls:=by unfold app; rw [if_pos (by simp; rw [P.lc]; omega),YO]
  obtain⟨iH,nx,x,k1,N,mZ⟩:=BW hm ok P m 0 false cls (by omega) (by omega) ⟨P.lc,fun _ _=>rfl,fun _ _ _=>rfl,fun q hq=>absurd hq (by omega)⟩ ⟨fun h=>(by cases h),fun ⟨q,hq,_⟩=>absurd hq (by omega)⟩
  have k1:af.l5 m l (bK dn l.length) cls m false cls 0=_:=k1
  have P':=H3 ok P N yN MW hfin
  rw [if_pos rfl,jS,Yj,k1,Yj]
  dsimp only
  cases U6:iH with
  | true=>
   obtain⟨q,hq,hne⟩:=mZ.1 U6
   have mq:=aJ hq
   have eq2:=(ga mq).2.2
   obtain⟨n1,n2,n3⟩:=N.new q hq
   have e3:=(ga n1).2.2
   have U7:(EP dn l.length cls).length+1≤(EP dn l.length nx).length:=by
    have W2:(gt nx (gt (bK dn l.length) q).toNat::EP dn l.length cls).Nodup:=by
     rw [List.nodup_cons]
     refine⟨fun h=>?_,List.Pairwise.filter _ ER⟩
     have:=(ZM.1 h).2
     have:=beq_iff_eq.1 this
     exact hne (by rw [n2.1,this])
    have:=W2.length_le_of_subset (l₂:=EP dn l.length nx) (fun y hy=>by
     rcases YW.1 hy with rfl | hy
     ·refine ZM.2 ⟨n1,?_⟩
      have:=(P'.qe (gt (bK dn l.length) q).toNat (by rw [eq2]; exact mq)).2.2.1
      rw [beq_iff_eq]; exact this
     ·obtain⟨y1,y2⟩:=ZM.1 hy
      have y2:=beq_iff_eq.1 y2
      refine ZM.2 ⟨y1,?_⟩
      have ey:=(ga y1).2.2
      rw [beq_iff_eq]
      obtain⟨k,hk,e⟩:=eW y1
      obtain⟨m1,m2,m3⟩:=N.new k hk
      rw [e] at m1 m2 m3
      have a1:=m3 y y1 ⟨rfl,fun _ _=>rfl⟩
      have em:=(ga m1).2.2
      have a2:=(P.qe (gt nx y.toNat).toNat (by rw [em]; exact m1)).2.1
      rw [←m2.1,y2] at a2
      omega)
    simpa using this
   have hle:(EP dn l.length nx).length≤(bK dn l.length).length:=List.length_filter_le _ _
   exact H4 hm ok yN MW hfin f nx (by clear mZ; omega) P'
  | false=>
   obtain⟨g,rfl⟩:∃g,f=g+1:=⟨f - 1,by omega⟩
   have same:∀j:Nat,(j:Int)∈bK dn l.length→gt nx j=gt cls j:=fun j hj=>by
    obtain⟨k,hk,e⟩:=eW hj
    by_cases hne:gt nx j=gt cls j
    ·exact hne
    ·have:=mZ.2 ⟨k,hk,by rw [e,Yq]; exact hne⟩
     rw [U6] at this; cases this
   have W3:nx=cls:=Gr (by rw [N.ln,P.lc]) fun k hk=>by
    by_cases h:(k:Int)∈bK dn l.length
    ·exact same k h
    ·exact N.ME k h
   refine⟨nx,?_,P',fun j hj=>?_⟩
   ·unfold af.l4
    rw [if_neg (by simp)]
   ·obtain⟨k,hk,e⟩:=eW hj
    obtain⟨m1,m2,m3⟩:=N.new k hk
    rw [e,Yq] at m2
    rw [W3] at m2 ⊢
    exact m2.2
end Go.Proofs.YtmekcfdllhphlaaGreatDoor
namespace Go.Proofs.YtmekcfdllhphlaaGreatDoor
open Go Go.R
open Go.IntKind (i64 u64 u8 u32)
structure MF (l:List ab)(c od:List Int):Prop where
 min:Min l c
 qe:∀i,i<l.length→0≤gt c i∧gt c i<l.length∧gt c (gt c i).toNat=gt c i
 vA:∀i:Nat,(i:Int)∈od→∀k,k<na l i→((ar l i k:Nat):Int)∈od∧od.idxOf ((ar l i k:Nat):Int)<od.idxOf (i:Int)
 W4:∀i,i<l.length→(i:Int)∉od→gt c i≤i
theorem MG {n k:Nat}:gb (YF n false) k=false:=by
 unfold gb; rw [YB,List.getElem?_replicate]; split<;>rfl
theorem Ai {m:Nat}(hm:2 ^ 30≤m){l:List ab}(ok:lz l):∃c od,af.f m l=some c∧MF l c od:=by
 have lE:(2:Nat) ^ 30=1073741824:=by decide
 have h8:=ok.1
 unfold af.f
 have e0:vh 8 (l.length:Int) (0:Int)=some (YF l.length 0):=by unfold vh; rw [if_pos ⟨by omega,by rw [Yq]; omega⟩,Yq]
 have e1:vh 1 (l.length:Int) false=some (YF l.length false):=by unfold vh; rw [if_pos ⟨by omega,by rw [Yq]; omega⟩,Yq]
 obtain⟨c0,dn,fs,od,k1,P1,hq⟩:=HY hm ok m (YF l.length 0) (YF l.length false) [] [] (by simp; omega)
  {lc:=by simp,ld:=by simp,SV:=by simp,MD:=(by intro x hx; cases hx),Iy:=(by intro i hi; rw [MG]; simp),vA:=(by intro i hi; cases hi),Qf:=by simp,fst:=(by intro f hf; cases hf),qe:=(by intro i hi; cases hi),apart:=(by intro f hf; cases hf),coarse:=(by intro R B i j hR hi; cases hi)}
 obtain⟨c1,x,k2,P2⟩:=BU hm ok P1.ld (c0:=c0) m 0 c0 (by omega) (by omega) {lc:=P1.lc,old:=fun _ _=>rfl,qe:=(by intro j hj; cases hj)}
 have k2:af.l2 m l dn m c0 [] 0=_:=k2
 have hfin:∀R,EI l R→∀i j:Nat,R i j→(i:Int)∈od→(j:Int)∈od:=by
  intro R B
  have:∀N i j:Nat,od.idxOf (i:Int)<N→R i j→(i:Int)∈od→(j:Int)∈od:=by
   intro N
   induction N with
   | zero=>intro i j h; omega
   | succ N ih=>
    intro i j hN hR hi
    by_cases hj:(j:Int)∈od
    ·exact hj
    ·obtain⟨k,g1,g2⟩:=hq j (B.nP i j hR).2 hj
     have sB:k<na l i:=by have:=(B.top i j hR).len; unfold na at *; omega
     obtain⟨r1,r2⟩:=P1.vA i hi k sB
     exact absurd (ih (ar l i k) (ar l j k) (by omega) (B.arg i j hR k sB) r1) g2
  exact fun i j=>this (od.idxOf (i:Int)+1) i j (by omega)
 obtain⟨c,k3,P3,hS⟩:=H4 hm ok P1.Iy P1.coarse hfin m c1 (by have:=iB (dn:=dn) l.length; omega) (EO P2)
 have vB:∀j,j<l.length→(j:Int)∉od→(j:Int)∈bK dn l.length:=fun j hj h=>jb.2 ⟨j,hj,by
  cases hb:gb dn j with
  | true=>exact absurd ((P1.Iy j hj).1 hb) h
  | false=>rfl,rfl⟩
 have KC:∀{x:Int},x∈bK dn l.length→x∉od:=fun hx h=>by
  obtain⟨j,a,b,e⟩:=jb.1 hx
  subst e
  rw [(P1.Iy j a).2 h] at b; cases b
 have vC:∀j:Nat,j<l.length→(j:Int)∈od→gt c j=gt c0 j:=fun j hj h=>P3.old j hj ((P1.Iy j hj).2 h)
 have MH:∀f∈fs,0≤f∧f<l.length∧f∈od∧((f.toNat:Nat):Int)=f:=fun f hf=>by
  have a:=P1.SW f hf; have b:=(P1.fst f hf).1; exact⟨a.1,a.2,b,by omega⟩
 have S3:∀i j:Nat,(i:Int)∈od→(j:Int)∈od→rM l c0 i j→SA l c i j:=fun i j hi hj h k hk=>by
  have a:=(P1.vA i hi k hk).1
  have b:=(P1.vA j hj k (by have:=h.1.len; unfold na at *; omega)).1
  have ra:=P1.MD _ a
  have rb:=P1.MD _ b
  rw [vC _ (by omega) a,vC _ (by omega) b]
  exact h.2 k hk
 have both:∀i j:Nat,i<l.length→j<l.length→gt c i=gt c j→Alike (nd l i) (nd l j)∧SA l c i j:=fun i j hi hj e=>by
  by_cases h1:(i:Int)∈od
  ·obtain⟨f1,s1⟩:=P1.qe i h1
   by_cases h2:(j:Int)∈od
   ·obtain⟨f2,s2⟩:=P1.qe j h2
    rw [vC i hi h1,vC j hj h2] at e
    rw [e] at s1
    have s:=s1.trans s2.symm
    exact⟨s.1,S3 i j h1 h2 s⟩
   ·have:=(P3.qe j (vB j hj h2)).1
    rw [←e,vC i hi h1] at this
    exact absurd (MH _ f1).2.2.1 (KC this)
  ·have r1:=vB i hi h1
   by_cases h2:(j:Int)∈od
   ·obtain⟨f2,s2⟩:=P1.qe j h2
    have:=(P3.qe i r1).1
    rw [e,vC j hj h2] at this
    exact absurd (MH _ f2).2.2.1 (KC this)
   ·have r2:=vB j hj h2
    have hA:=P3.al r1 r2 e
    refine⟨hA,fun k hk=>?_⟩
    have a:=hS i r1 k hk
    have b:=hS j r2 k (by have:=hA.len; unfold na at *; omega)
    rw [e] at a
    exact a.trans b.symm
 refine⟨c,od,?_,⟨P3.lc,fun i j hi hj e=>(both i j hi hj e).1,fun i j hi hj e k hk=>(both i j hi hj e).2 k hk,fun R B i j hR=>?_⟩,fun i hi=>?_,P1.vA,fun i hi h=>(P3.qe i (vB i hi h)).2.1⟩
 ·rw [e0,Yj,e1,Yj,k1,Yj]
  dsimp only
  rw [k2,Yj]
  dsimp only
  rw [k3]; rfl
 ·obtain⟨hi,hj⟩:=B.nP i j hR
  by_cases h1:(i:Int)∈od
  ·have h2:=hfin R B i j hR h1
   rw [vC i hi h1,vC j hj h2]; exact P1.coarse R B i j hR h1 h2
  ·have h2:(j:Int)∉od:=fun h=>h1 (hfin _ B.symm j i hR h)
   exact P3.coarse R B i j hR (vB i hi h1) (vB j hj h2)
 ·by_cases h1:(i:Int)∈od
  ·obtain⟨f1,s1⟩:=P1.qe i h1
   obtain⟨a,b,d,e⟩:=MH _ f1
   rw [vC i hi h1]
   refine⟨a,b,?_⟩
   rw [vC _ (by omega) (by rw [e]; exact d)]
   exact (P1.fst _ f1).2
  ·obtain⟨r1,r2,r3,r4⟩:=P3.qe i (vB i hi h1)
   have:=ga r1
   exact⟨this.1,this.2.1,r3⟩
end Go.Proofs.YtmekcfdllhphlaaGreatDoor
namespace Go.Proofs.YtmekcfdllhphlaaGreatDoor
open Go Go.R
open Go.IntKind (i64 u64 u8 u32)
def pm (pl:List Int)(n:ab):ab:=⟨n.kind,n.int,n.label,n.args.map fun a=>gt pl a.toNat⟩
theorem pV {l:List ab}{i:Nat}(h:i<l.length):l[i]? = some (nd l i):=by
 have:=il (l:=l) (i:=(i:Int)) (by omega) (by omega)
 unfold ix at this
 rwa [if_pos (by omega),Yq] at this
theorem BX {l:List ab}{i q:Nat}{x:ab}(hi:i<l.length):nd (l.set i x) q=if q=i then x else nd l q:=by
 unfold nd
 simp only [Yq,YB,ZH]
 by_cases h:i=q
 ·subst h; simp [hi]
 ·rw [if_neg h,if_neg (by omega)]
theorem H5 {f:ab→ab}{l:List ab}{i:Nat}(h:i<l.length):nd (l.map f) i=f (nd l i):=by
 have h1:=pV (l:=l.map f) (i:=i) (by simpa using h)
 rw [YQ,pV h] at h1
 exact (YI h1).symm
theorem JJ {f:Int→ab}{l:List Int}{i:Nat}(h:i<l.length):nd (l.map f) i=f (gt l i):=by
 have h1:=pV (l:=l.map f) (i:=i) (by simpa using h)
 rw [YQ,bu h] at h1
 exact (YI h1).symm
theorem H6 {l r:List ab}(hl:l.length=r.length)(h:∀k,k<l.length→nd l k=nd r k):l=r:=by
 apply Zd fun k=>?_
 by_cases hk:k<l.length
 ·rw [pV hk,pV (hl ▸ hk),h k hk]
 ·rw [YC (by omega),YC (by omega)]
theorem Aj {m:Nat}{S:List Int}(hn:S.Nodup)(Px:S.length≤8000):∀(f i:Nat) (pl:List Int),S.length - i<f→i≤S.length→(∀s∈S,0≤s∧s<pl.length)→(∀q,q<i→gt pl (gt S q).toNat=q)→
  ∃H7 x,ai.l0 m S f pl (i:Int)=some (H7,x)∧H7.length=pl.length∧∀q,q<S.length→gt H7 (gt S q).toNat=q
 | 0,i,pl,hf,_,_,_=>absurd hf (by omega)
 | f+1,i,pl,hf,hi,hS,hq=>by
  unfold ai.l0
  by_cases h:i<S.length
  ·obtain⟨s0,s1⟩:=hS _ (aJ h)
   have hx:∃z,ix pl (gt S i)=some z:=⟨_,gn (k:=(gt S i).toNat) (by omega) (by omega)⟩
   obtain⟨z,hx⟩:=hx
   obtain⟨H7,x,k1,k2,k3⟩:=Aj (m:=m) hn Px f (i+1) (pl.set (gt S i).toNat (i:Int)) (by omega) (by omega) (by simpa using hS) (fun q Ip=>by
    rw [eh (by omega)]
    by_cases e:q=i
    ·subst e; rw [if_pos rfl]
    ·have hne:gt S q≠gt S i:=fun e2=>e (uy hn (by omega) h e2)
     have:=hS _ (aJ (l:=S) (k:=q) (by omega))
     rw [if_neg (by omega)]; exact hq q (by omega))
   refine⟨H7,x,?_,by simpa using k2,k3⟩
   rw [if_pos (by simp only [decide_eq_true_eq]; omega),cy h,Yj,hx,Yj,aA (by omega) (by omega),show (i:Int)+1=((i+1:Nat):Int) by omega]
   exact k1
  ·exact⟨pl,_,by rw [if_neg (by simp only [decide_eq_true_eq]; omega)],rfl,fun q h=>hq q (by omega)⟩
theorem Ak {m:Nat}{S:List Int}(hn:S.Nodup)(Px:S.length≤8000):∀(f i:Nat) (pl:List Int),S.length - i<f→i≤S.length→(∀s∈S,0≤s∧s<pl.length)→(∀q,q<i→gt pl (gt S q).toNat=q)→
  ∃H7 x,ai.l5 m S f pl (i:Int)=some (H7,x)∧H7.length=pl.length∧∀q,q<S.length→gt H7 (gt S q).toNat=q
 | 0,i,pl,hf,_,_,_=>absurd hf (by omega)
 | f+1,i,pl,hf,hi,hS,hq=>by
  unfold ai.l5
  by_cases h:i<S.length
  ·obtain⟨s0,s1⟩:=hS _ (aJ h)
   have hx:∃z,ix pl (gt S i)=some z:=⟨_,gn (k:=(gt S i).toNat) (by omega) (by omega)⟩
   obtain⟨z,hx⟩:=hx
   obtain⟨H7,x,k1,k2,k3⟩:=Ak (m:=m) hn Px f (i+1) (pl.set (gt S i).toNat (i:Int)) (by omega) (by omega) (by simpa using hS) (fun q Ip=>by
    rw [eh (by omega)]
    by_cases e:q=i
    ·subst e; rw [if_pos rfl]
    ·have hne:gt S q≠gt S i:=fun e2=>e (uy hn (by omega) h e2)
     have:=hS _ (aJ (l:=S) (k:=q) (by omega))
     rw [if_neg (by omega)]; exact hq q (by omega))
   refine⟨H7,x,?_,by simpa using k2,k3⟩
   rw [if_pos (by simp only [decide_eq_true_eq]; omega),cy h,Yj,hx,Yj,aA (by omega) (by omega),show (i:Int)+1=((i+1:Nat):Int) by omega]
   exact k1
  ·exact⟨pl,_,by rw [if_neg (by simp only [decide_eq_true_eq]; omega)],rfl,fun q h=>hq q (by omega)⟩
theorem Dm {m:Nat}{pl:List Int}{n:ab}(h8:n.args.length≤8)(ha:∀a∈n.args,0≤a∧a<pl.length):∀(f k:Nat),n.args.length - k<f→k≤n.args.length→
  ∃x,ai.l2 m pl n f ((n.args.take k).map fun a=>gt pl a.toNat) (k:Int)=some (n.args.map fun a=>gt pl a.toNat,x)
 | 0,k,hf,_=>absurd hf (by omega)
 | f+1,k,hf,hk=>by
  unfold ai.l2
  by_cases h:k<n.args.length
  ·obtain⟨a0,a1⟩:=ha _ (aJ h)
   have hy:ix pl (gt n.args k)=some (gt pl (gt n.args k).toNat):=gn (by omega) (by omega)
   have hT:n.args.take (k+1)=n.args.take k++[gt n.args k]:=by rw [Zn,bu h]; rfl
   have jS:app 8 ((n.args.take k).map fun a=>gt pl a.toNat) [gt pl (gt n.args k).toNat]=some ((n.args.take (k+1)).map fun a=>gt pl a.toNat):=by
    unfold app; rw [if_pos (by simp; omega),hT,YP]; rfl
   obtain⟨x,ih⟩:=Dm (m:=m) h8 ha f (k+1) (by omega) (by omega)
   rw [if_pos (by simp only [decide_eq_true_eq]; omega),cy h,Yj,hy,Yj,jS,Yj,aA (by omega) (by omega),show (k:Int)+1=((k+1:Nat):Int) by omega]
   exact⟨x,ih⟩
  ·have e:k=n.args.length:=by omega
   subst e
   exact⟨_,by rw [if_neg (by simp),Zq]⟩
theorem Dn {m:Nat}{pl:List Int}{n:ab}(h8:n.args.length≤8)(ha:∀a∈n.args,0≤a∧a<pl.length):∀(f k:Nat),n.args.length - k<f→k≤n.args.length→
  ∃x,ai.l7 m pl n f ((n.args.take k).map fun a=>gt pl a.toNat) (k:Int)=some (n.args.map fun a=>gt pl a.toNat,x)
 | 0,k,hf,_=>absurd hf (by omega)
 | f+1,k,hf,hk=>by
  unfold ai.l7
  by_cases h:k<n.args.length
  ·obtain⟨a0,a1⟩:=ha _ (aJ h)
   have hy:ix pl (gt n.args k)=some (gt pl (gt n.args k).toNat):=gn (by omega) (by omega)
   have hT:n.args.take (k+1)=n.args.take k++[gt n.args k]:=by rw [Zn,bu h]; rfl
   have jS:app 8 ((n.args.take k).map fun a=>gt pl a.toNat) [gt pl (gt n.args k).toNat]=some ((n.args.take (k+1)).map fun a=>gt pl a.toNat):=by
    unfold app; rw [if_pos (by simp; omega),hT,YP]; rfl
   obtain⟨x,ih⟩:=Dn (m:=m) h8 ha f (k+1) (by omega) (by omega)
   rw [if_pos (by simp only [decide_eq_true_eq]; omega),cy h,Yj,hy,Yj,jS,Yj,aA (by omega) (by omega),show (k:Int)+1=((k+1:Nat):Int) by omega]
   exact⟨x,ih⟩
  ·have e:k=n.args.length:=by omega
   subst e
   exact⟨_,by rw [if_neg (by simp),Zq]⟩
theorem Dp {m:Nat}(hm:2 ^ 30≤m){l:List ab}{S pl:List Int}(ok:lz l)(hS:∀s∈S,0≤s∧s<l.length)(Px:S.length≤8000)(AQ:pl.length=l.length):∀(f i:Nat),S.length - i<f→i≤S.length→
  ∃x,ai.l1 m l S pl f ((S.take i).map fun s=>pm pl (nd l s)) (i:Int)=some (S.map fun s=>pm pl (nd l s),x)
 | 0,i,hf,_=>absurd hf (by omega)
 | f+1,i,hf,hi=>by
  have lE:(2:Nat) ^ 30=1073741824:=by decide
  unfold ai.l1
  by_cases h:i<S.length
  ·obtain⟨s0,s1⟩:=hS _ (aJ h)
   obtain⟨n1,n2⟩:=ok.2 _ (fD s0 s1)
   obtain⟨x,q1⟩:=Dm (m:=m) (pl:=pl) (n:=nd l (gt S i)) n1 (fun a ha=>by have:=n2 a ha; omega) m 0 (by omega) (by omega)
   have q1:ai.l2 m pl (nd l (gt S i)) m [] 0=_:=q1
   have hT:S.take (i+1)=S.take i++[gt S i]:=by rw [Zn,bu h]; rfl
   have jS:app 56 ((S.take i).map fun s=>pm pl (nd l s)) [ab.mk (nd l (gt S i)).kind (nd l (gt S i)).int (nd l (gt S i)).label ((nd l (gt S i)).args.map fun a=>gt pl a.toNat)]=some ((S.take (i+1)).map fun s=>pm pl (nd l s)):=by
    unfold app; rw [if_pos (by simp; omega),hT,YP]; rfl
   obtain⟨x,ih⟩:=Dp hm ok hS Px AQ f (i+1) (by omega) (by omega)
   rw [if_pos (by simp only [decide_eq_true_eq]; omega),cy h,Yj,il s0 s1,Yj,q1,Yj]
   dsimp only
   rw [jS,Yj,aA (by omega) (by omega),show (i:Int)+1=((i+1:Nat):Int) by omega]
   exact⟨x,ih⟩
  ·have e:i=S.length:=by omega
   subst e
   exact⟨_,by rw [if_neg (by simp),Zq]⟩
theorem Dq {m:Nat}{P:List ab}{c:List Int}(hc:c.length=P.length){i:Nat}(hi:i<P.length)(h8:(nd P i).args.length≤8)(ha:∀a∈(nd P i).args,0≤a∧a<P.length):∀(f k:Nat),(nd P i).args.length - k<f→k≤(nd P i).args.length→
  ∃x,ai.l4 m c (i:Int) f (P.set i ⟨(nd P i).kind,(nd P i).int,(nd P i).label,(((nd P i).args.take k).map fun a=>gt c a.toNat)++(nd P i).args.drop k⟩) (k:Int)=some (P.set i (pm c (nd P i)),x)
 | 0,k,hf,_=>absurd hf (by omega)
 | f+1,k,hf,hk=>by
  unfold ai.l4
  have nK:∀w,ix (P.set i w) (i:Int)=some w:=fun w=>by
   rw [il (by omega) (by simpa using hi),BX hi,if_pos rfl]
  have hlen:((((nd P i).args.take k).map fun a=>gt c a.toNat)++(nd P i).args.drop k).length=(nd P i).args.length:=by simp; omega
  rw [nK,Yj]
  by_cases h:k<(nd P i).args.length
  ·have hg:gt ((((nd P i).args.take k).map fun a=>gt c a.toNat)++(nd P i).args.drop k) k=gt (nd P i).args k:=by
    unfold gt
    rw [YB,YB,YE (by simp; omega)]
    simp only [YY,Zz,List.getElem?_drop]
    congr 2; omega
   obtain⟨a0,a1⟩:=ha _ (aJ h)
   have hx:ix ((((nd P i).args.take k).map fun a=>gt c a.toNat)++(nd P i).args.drop k) (k:Int)=some (gt (nd P i).args k):=by rw [cy (by omega),hg]
   have hy:ix c (gt (nd P i).args k)=some (gt c (gt (nd P i).args k).toNat):=gn (by omega) (by omega)
   have AY:((((nd P i).args.take k).map fun a=>gt c a.toNat)++(nd P i).args.drop k).set k (gt c (gt (nd P i).args k).toNat)=(((nd P i).args.take (k+1)).map fun a=>gt c a.toNat)++(nd P i).args.drop (k+1):=by
    have hT:(nd P i).args.take (k+1)=(nd P i).args.take k++[gt (nd P i).args k]:=by rw [Zn,bu h]; rfl
    have hD:(nd P i).args.drop k=gt (nd P i).args k::(nd P i).args.drop (k+1):=by
     obtain⟨h4,h5⟩:=Yu.1 (bu h)
     rw [←h5]; exact Yz h4
    have Ff:(((nd P i).args.take k).map fun a=>gt c a.toNat).length=k:=by simp; omega
    rw [ZD _ _ (by omega),Ff,ZT,hD,List.set_cons_zero,hT,YP,Yx]
    rfl
   rw [if_pos (by simp only [decide_eq_true_eq]; omega),Yj,Yj]
   dsimp only
   rw [hx,Yj,hy,Yj,Yj,Yq,Yq,List.set_set,AY,aA (by omega) (by omega),show (k:Int)+1=((k+1:Nat):Int) by omega]
   exact Dq hc hi h8 ha f (k+1) (by omega) (by omega)
  ·have e:k=(nd P i).args.length:=by omega
   subst e
   refine⟨((nd P i).args.length:Int),?_⟩
   rw [if_neg (by simp only [decide_eq_true_eq]; omega),Zq,List.drop_length,Zk]
   rfl
theorem Dr {m:Nat}(hm:2 ^ 30≤m){P:List ab}{c:List Int}(ok:lz P)(hc:c.length=P.length):∀(f i:Nat) (Q:List ab),P.length - i<f→i≤P.length→Q.length=P.length→(∀q,q<P.length→nd Q q=if q<i then pm c (nd P q) else nd P q)→
  ∃x,ai.l3 m c f Q (i:Int)=some (P.map (pm c),x)
 | 0,i,Q,hf,_,_,_=>absurd hf (by omega)
 | f+1,i,Q,hf,hi,hl,hq=>by
  have lE:(2:Nat) ^ 30=1073741824:=by decide
  have h8:=ok.1
  unfold ai.l3
  by_cases h:i<P.length
  ·obtain⟨n1,n2⟩:=zI ok h
   have Qi:nd Q i=nd P i:=by rw [hq i h,if_neg (by omega)]
   obtain⟨x,q1⟩:=Dq (m:=m) (P:=Q) (c:=c) (by omega) (i:=i) (by omega) (by rw [Qi]; exact n1) (by rw [Qi,hl]; exact n2) m 0 (by rw [Qi]; omega) (by omega)
   have nK:Q.set i ⟨(nd Q i).kind,(nd Q i).int,(nd Q i).label,(((nd Q i).args.take 0).map fun a=>gt c a.toNat)++(nd Q i).args.drop 0⟩=Q:=by
    refine H6 (by simp) fun k hk=>?_
    rw [BX (by omega)]
    by_cases e:k=i
    ·subst e; rw [if_pos rfl]; simp
    ·rw [if_neg e]
   rw [nK] at q1
   have q1:ai.l4 m c (i:Int) m Q 0=_:=q1
   rw [if_pos (by simp only [decide_eq_true_eq]; omega),q1,Yj]
   dsimp only
   rw [aA (by omega) (by omega),show (i:Int)+1=((i+1:Nat):Int) by omega]
   refine Dr hm ok hc f (i+1) _ (by omega) (by omega) (by simpa using hl) fun q W5=>?_
   rw [BX (by omega)]
   by_cases e:q=i
   ·subst e; rw [if_pos rfl,if_pos (by omega),Qi]
   ·rw [if_neg e,hq q W5]
    by_cases hlt:q<i
    ·rw [if_pos hlt,if_pos (by omega)]
    ·rw [if_neg hlt,if_neg (by omega)]
  ·have e:i=P.length:=by omega
   subst e
   refine⟨(P.length:Int),?_⟩
   rw [if_neg (by simp only [decide_eq_true_eq]; omega)]
   have:Q=P.map (pm c):=H6 (by simpa using hl) fun k hk=>by rw [hq k (by omega),if_pos (by omega),H5 (by omega)]
   rw [this]
theorem H8 {m:Nat}(hm:2 ^ 30≤m){P:List ab}{T pl:List Int}(ok:lz P)(hT:∀t∈T,0≤t∧t<P.length)(W6:T.length≤8000)(AQ:P.length≤pl.length):∀(f i:Nat),T.length - i<f→i≤T.length→
  ∃x,ai.l6 m P T pl f (i:Int) ((T.take i).map fun t=>pm pl (nd P t)) 0=some (x,T.map fun t=>pm pl (nd P t),0)
 | 0,i,hf,_=>absurd hf (by omega)
 | f+1,i,hf,hi=>by
  have lE:(2:Nat) ^ 30=1073741824:=by decide
  unfold ai.l6
  by_cases h:i<T.length
  ·obtain⟨s0,s1⟩:=hT _ (aJ h)
   obtain⟨n1,n2⟩:=ok.2 _ (fD s0 s1)
   obtain⟨x,q1⟩:=Dn (m:=m) (pl:=pl) (n:=nd P (gt T i)) n1 (fun a ha=>by have:=n2 a ha; omega) m 0 (by omega) (by omega)
   have q1:ai.l7 m pl (nd P (gt T i)) m [] 0=_:=q1
   have W7:T.take (i+1)=T.take i++[gt T i]:=by rw [Zn,bu h]; rfl
   have jS:app 56 ((T.take i).map fun t=>pm pl (nd P t)) [ab.mk (nd P (gt T i)).kind (nd P (gt T i)).int (nd P (gt T i)).label ((nd P (gt T i)).args.map fun a=>gt pl a.toNat)]=some ((T.take (i+1)).map fun t=>pm pl (nd P t)):=by
    unfold app; rw [if_pos (by simp; omega),W7,YP]; rfl
   obtain⟨x,ih⟩:=H8 hm ok hT W6 AQ f (i+1) (by omega) (by omega)
   rw [if_pos (by simp only [decide_eq_true_eq]; omega),cy h,Yj,il s0 s1,Yj,q1,Yj]
   dsimp only
   rw [jS,Yj,aA (by omega) (by omega),show (i:Int)+1=((i+1:Nat):Int) by omega]
   exact⟨x,ih⟩
  ·have e:i=T.length:=by omega
   subst e
   exact⟨_,by rw [if_neg (by simp),Zq]⟩
end Go.Proofs.YtmekcfdllhphlaaGreatDoor
namespace Go.Proofs.YtmekcfdllhphlaaGreatDoor
open Go Go.R
open Go.IntKind (i64 u64 u8 u32)
inductive Way (l:List ab):Nat→Nat→Prop
 | one {i k:Nat}:k<na l i→Way l i (ar l i k)
 | more {i j k:Nat}:Way l i j→k<na l j→Way l i (ar l j k)
theorem JK {l:List ab}{c od:List Int}(ok:lz l)(M:MF l c od){i j:Nat}(w:Way l i j)(hi:i<l.length):j<l.length∧∀x:Nat,x<l.length→(x:Int)∈od→gt c x=gt c i→∃y:Nat,y<l.length∧gt c y=gt c j∧(y:Int)∈od∧od.idxOf (y:Int)<od.idxOf (x:Int):=by
 induction w with
 | @one k hk=>
  refine⟨(kC ok hi hk).1,fun x hx Py e=>?_⟩
  have hA:=M.min.top i x hi hx e.symm
  have U8:k<na l x:=by have:=hA.len; unfold na at *; omega
  obtain⟨r1,r2⟩:=M.vA x Py k U8
  exact⟨ar l x k,(kC ok hx U8).1,(M.min.arg i x hi hx e.symm k hk).symm,r1,r2⟩
 | @more j k w hk ih=>
  obtain⟨hj,ih⟩:=ih
  refine⟨(kC ok hj hk).1,fun x hx Py e=>?_⟩
  obtain⟨y,hy,ey,S9,hlt⟩:=ih x hx Py e
  have hA:=M.min.top j y hj hy ey.symm
  have Va:k<na l y:=by have:=hA.len; unfold na at *; omega
  obtain⟨r1,r2⟩:=M.vA y S9 k Va
  exact⟨ar l y k,(kC ok hy Va).1,(M.min.arg j y hj hy ey.symm k hk).symm,r1,by omega⟩
theorem BY {l:List ab}{c od:List Int}(ok:lz l)(M:MF l c od)(h0:0<l.length)(hw:∀j,0<j→j<l.length→Way l 0 j):gt c 0=0:=by
 obtain⟨r1,r2,r3⟩:=M.qe 0 h0
 by_cases Vb:((0:Nat):Int)∈od
 ·by_cases hz:gt c 0=0
  ·exact hz
  ·exfalso
   have w:=hw (gt c 0).toNat (by omega) (by omega)
   have key:∀N x:Nat,od.idxOf (x:Int)<N→x<l.length→(x:Int)∈od→gt c x=gt c 0→False:=by
    intro N
    induction N with
    | zero=>intro x h; omega
    | succ N ih=>
     intro x hN hx Py e
     obtain⟨y,hy,ey,S9,hlt⟩:=(JK ok M w h0).2 x hx Py e
     exact ih y (by omega) hy S9 (by rw [ey,r3])
   exact key _ 0 (Y2 _) h0 Vb rfl
 ·have:=M.W4 0 h0 Vb
  omega
theorem lock {l P5:List ab}{κ1:Int→Int}{K2:Int→Int}{Can:Int→Prop}(Ta:∀v w,Can v→Can w→K2 v=K2 w→v=w)
  (hargs:∀a v:Int,0≤a→a<l.length→Can v→κ1 a=K2 v→(nd l a).args.map κ1=(nd P5 v).args.map K2) (Tb:∀v,Can v→∀a∈(nd P5 v).args,Can a) (ok:lz l) {JF o2 Iw:List Int}
  (h:uN id (fun v=>(nd P5 v).args) JF o2 Iw):∀vc o1:List Int,vc.map κ1=JF.map K2→o1.map κ1=o2.map K2→(∀b∈JF,Can b)→(∀b∈o2,Can b)→(∀a∈vc,0≤a∧a<l.length)→
  ∃Np,uN κ1 (fun v=>(nd l v).args) vc o1 Np∧Np.map κ1=Iw.map K2:=by
 induction h with
 | nil o=>
  intro vc o1 hs ho _ _ _
  have:vc=[]:=by simpa using hs
  subst this
  exact⟨o1,.nil o1,ho⟩
 | @skip v st o o' hm _ ih=>
  intro vc o1 hs ho c1 c2 hr
  cases vc with
  | nil=>simp at hs
  | cons a vc=>
   simp only [YJ,List.cons.injEq] at hs
   obtain⟨Np,k1,k2⟩:=ih vc o1 hs.2 ho (fun b hb=>c1 b (by simp [hb])) c2 (fun x hx=>hr x (by simp [hx]))
   refine⟨Np,.skip ?_ k1,k2⟩
   rw [hs.1,ho]
   exact YH.2 ⟨v,by simpa using hm,rfl⟩
 | @push v st o o' hn _ ih=>
  intro vc o1 hs ho c1 c2 hr
  cases vc with
  | nil=>simp at hs
  | cons a vc=>
   simp only [YJ,List.cons.injEq] at hs
   have hv:=c1 v (by simp)
   have ha:=hr a (by simp)
   have e:=hargs a v ha.1 ha.2 hv hs.1
   obtain⟨Np,k1,k2⟩:=ih ((nd l a).args++vc) (o1++[a]) (by rw [YP,YP,e,hs.2]) (by rw [YP,YP,ho]; simp [hs.1]) (fun b hb=>by
    rcases Yy.1 hb with hb | hb
    ·exact Tb v hv b hb
    ·exact c1 b (by simp [hb])) (fun b hb=>by
    rcases Yy.1 hb with hb | hb
    ·exact c2 b hb
    ·rw [Yw] at hb; subst hb; exact hv) (fun x hx=>by
    rcases Yy.1 hx with hx | hx
    ·exact (ok.2 _ (fD ha.1 ha.2)).2 x hx
    ·exact hr x (by simp [hx]))
   refine⟨Np,.push ?_ k1,k2⟩
   rw [hs.1,ho]
   intro hm
   obtain⟨w,w1,w2⟩:=YH.1 hm
   have:=Ta v w hv (c2 w w1) w2.symm
   subst this
   exact hn (by simpa using w1)
theorem H9 {m:Nat}(hm:2 ^ 41≤m){t:an}(h:ej t=true):∃s,cG.f m t=some s∧ai.f m t.nodes t.root=some s:=by
 have lE:(2:Nat) ^ 30=1073741824:=by decide
 have pz:(2:Nat) ^ 41=2199023255552:=by decide
 have ES:2 ^ 30≤m:=by omega
 obtain⟨ok,h1,r0,r1,hT⟩:=jr h
 obtain⟨r,ns,e1,M,Q,_⟩:=lU hm h
 have h8:=ok.1
 generalize hl:t.nodes=l at *
 have Td:uN (eu r) (fun v=>(nd l v).args) [t.root] [] (rJ r l m t.root []):=pQ ok m t.root [] [] _ r0 r1 ⟨by simp,fun x hx=>by cases hx⟩ (by simp; omega) (.nil _)
 obtain⟨S,s1,s2⟩:=pS ES ok r0 r1
 have hA:∀v:Int,0≤v→v<l.length→∀a∈(nd l v).args,0≤a∧a<l.length:=fun v a b=>(ok.2 _ (fD a b)).2
 obtain⟨_,Sr,Sn,_,Sc⟩:=s2.facts hA (fun v hv=>by rw [Yw] at hv; subst hv; exact⟨r0,r1⟩) (fun v hv=>by cases hv) (by simp)
 rw [List.map_id] at Sn
 have Sc:∀v∈S,∀a∈(nd l v).args,a∈S:=fun v hv a ha=>by have:=Sc (fun v hv=>by cases hv) v hv a ha; simpa using this
 have S0:∃T,S=t.root::T:=by
  cases s2 with
  | skip yU _=>simp at yU
  | push _ k=>
   obtain⟨⟨T,e⟩,_⟩:=k.facts hA (fun v hv=>by
    rcases Yy.1 hv with hv | hv
    ·exact hA _ r0 r1 v hv
    ·cases hv) (fun v hv=>by simp at hv; subst hv; exact⟨r0,r1⟩) (by simp)
   exact⟨T,by simpa using e⟩
 have Sl:S.length≤l.length:=pR Sn Sr
 have Sp:0<S.length:=by obtain⟨T,rfl⟩:=S0; simp
 have KD:gt S 0=t.root:=by obtain⟨T,rfl⟩:=S0; rfl
 have Pz:=s2.from (root:=t.root) (fun v hv=>by rw [Yw] at hv; exact .inl hv) (fun i hi=>absurd hi (by simp))
 have e0:vh 8 (l.length:Int) (0:Int)=some (YF l.length 0):=by unfold vh; rw [if_pos ⟨by omega,by rw [Yq]; omega⟩,Yq]
 obtain⟨pl,x1,p1,p2,p3⟩:=Aj (m:=m) Sn (by omega) m 0 (YF l.length 0) (by omega) (by omega) (by simpa using Sr) (fun q hq=>absurd hq (by omega))
 rw [List.length_replicate] at p2
 have p1:ai.l0 m S m (YF l.length 0) 0=_:=p1
 obtain⟨x2,p4⟩:=Dp ES ok Sr (by omega) p2 m 0 (by omega) (by omega)
 have p4:ai.l1 m l S pl m [] 0=_:=p4
 generalize Te:(S.map fun s=>pm pl (nd l s))=P1 at p4
 have Qj:P1.length=S.length:=by rw [←Te]; simp
 have KE:∀i:Nat,i<S.length→nd P1 i=pm pl (nd l (gt S i)):=fun i hi=>by rw [←Te,JJ hi]
 have Qk:∀{x:Int},x∈S→gt S (gt pl x.toNat).toNat=x∧0≤gt pl x.toNat∧gt pl x.toNat<S.length:=fun hx=>by
  obtain⟨q,hq,e⟩:=eW hx
  have:=p3 q hq
  rw [e] at this
  rw [this,Yq]; exact⟨e,by omega,by omega⟩
 have Tf:∀i:Nat,i<S.length→∀a∈(nd l (gt S i)).args,a∈S:=fun i hi=>Sc _ (aJ hi)
 have E9:lz P1:=by
  refine⟨by omega,fun n hn=>?_⟩
  rw [←Te] at hn
  obtain⟨s,hs,rfl⟩:=YH.1 hn
  have hr:=Sr s hs
  refine⟨by simpa [pm] using (ok.2 _ (fD hr.1 hr.2)).1,fun a ha=>?_⟩
  obtain⟨x,hx,rfl⟩:=YH.1 ha
  have:=Qk (Sc s hs x hx)
  rw [Qj]; exact this.2
 obtain⟨c,od,c1,C⟩:=Ai ES E9
 have cl:c.length=P1.length:=C.min.len
 have Tg:∀i:Nat,i<S.length→na P1 i=na l (gt S i).toNat:=fun i hi=>by
  have:=Sr _ (aJ hi)
  unfold na
  rw [KE i hi]
  show ((nd l (gt S i)).args.map _).length=_
  rw [YY,show (((gt S i).toNat:Nat):Int)=gt S i by omega]
 have PA:∀i:Nat,i<S.length→∀k,k<na P1 i→gt S (ar P1 i k)=gt (nd l (gt S i)).args k:=fun i hi k hk=>by
  have qv:k<(nd l (gt S i)).args.length:=by
   have:=hk; unfold na at this; rw [KE i hi] at this; simpa [pm] using this
  have hx:=Tf i hi _ (aJ qv)
  have:gt (nd P1 i).args k=gt pl (gt (nd l (gt S i)).args k).toNat:=by
   rw [KE i hi]
   have h1:=bu (l:=(pm pl (nd l (gt S i))).args) (k:=k) (by simpa [pm] using qv)
   have h2:(pm pl (nd l (gt S i))).args[k]? = some (gt pl (gt (nd l (gt S i)).args k).toNat):=by
    show ((nd l (gt S i)).args.map _)[k]? = _
    rw [YQ,bu qv]; rfl
   rw [h2] at h1; exact (YI h1).symm
  unfold ar
  rw [this]
  exact (Qk hx).1
 have W8:∀j,0<j→j<P1.length→Way P1 0 j:=by
  have:∀N j,j<N→0<j→j<P1.length→Way P1 0 j:=by
   intro N
   induction N with
   | zero=>intro j h; omega
   | succ N ih=>
    intro j hN hj Vc
    rcases Pz j (by omega) with e | ⟨q,hq,yU⟩
    ·have:=uy Sn (by omega) Sp (e.trans KD.symm)
     omega
    ·obtain⟨k,hk,e⟩:=eW yU
     have Fu:k<na P1 q:=by unfold na; rw [KE q (by omega)]; simpa [pm] using hk
     have h2:=PA q (by omega) k Fu
     rw [e] at h2
     have h3:=(kC E9 (i:=q) (by omega) Fu).1
     have e4:ar P1 q k=j:=uy Sn (by omega) (by omega) h2
     rw [←e4]
     by_cases W9:q=0
     ·subst W9; exact .one Fu
     ·exact .more (ih q (by omega) (by omega) (by omega)) Fu
  exact fun j=>this (j+1) j (Y2 _)
 have Xa:gt c 0=0:=BY E9 C (by omega) W8
 have Al:∀i:Nat,i<S.length→(((gt S i).toNat:Nat):Int)=gt S i∧(gt S i).toNat<l.length:=fun i hi=>by have:=Sr _ (aJ hi); omega
 have Vd:∀i j:Nat,i<S.length→j<S.length→(Alike (nd P1 i) (nd P1 j)↔Alike (nd l (gt S i)) (nd l (gt S j))):=fun i j hi hj=>by
  rw [KE i hi,KE j hj]
  constructor
  ·intro z; exact⟨z.kind,z.int,z.label,by have:=z.len; simpa [pm] using this⟩
  ·intro z; exact⟨z.kind,z.int,z.label,by have:=z.len; simpa [pm] using this⟩
 have cr:∀i j:Nat,i<S.length→j<S.length→(gt c i=gt c j↔gt r (gt S i).toNat=gt r (gt S j).toNat):=fun i j hi hj=>by
  constructor
  ·intro e
   refine M.max (fun a b=>∃i j:Nat,i<S.length∧j<S.length∧a=(gt S i).toNat∧b=(gt S j).toNat∧gt c i=gt c j) ⟨?_,?_,?_⟩ _ _ ⟨i,j,hi,hj,rfl,rfl,e⟩
   ·rintro a b ⟨i,j,hi,hj,rfl,rfl,_⟩
    exact⟨(Al i hi).2,(Al j hj).2⟩
   ·rintro a b ⟨i,j,hi,hj,rfl,rfl,e⟩
    rw [(Al i hi).1,(Al j hj).1]
    exact (Vd i j hi hj).1 (C.min.top i j (by omega) (by omega) e)
   ·rintro a b ⟨i,j,hi,hj,rfl,rfl,e⟩ k hk
    rw [(Al i hi).1] at hk ⊢
    rw [(Al j hj).1]
    have sB:k<na P1 i:=by rw [Tg i hi]; unfold na; rw [(Al i hi).1]; exact hk
    have M9:k<na P1 j:=by have:=(C.min.top i j (by omega) (by omega) e).len; unfold na at *; omega
    have a1:=(kC E9 (i:=i) (by omega) sB).1
    have a2:=(kC E9 (i:=j) (by omega) M9).1
    refine⟨ar P1 i k,ar P1 j k,by omega,by omega,?_,?_,C.min.arg i j (by omega) (by omega) e k sB⟩
    ·rw [PA i hi k sB]
    ·rw [PA j hj k M9]
  ·intro e
   refine C.min.max (fun a b=>a<S.length∧b<S.length∧gt r (gt S a).toNat=gt r (gt S b).toNat) ⟨?_,?_,?_⟩ i j ⟨hi,hj,e⟩
   ·rintro a b ⟨h1,h2,_⟩; omega
   ·rintro a b ⟨h1,h2,e⟩
    refine (Vd a b h1 h2).2 ?_
    have:=M.top _ _ (Al a h1).2 (Al b h2).2 e
    rwa [(Al a h1).1,(Al b h2).1] at this
   ·rintro a b ⟨h1,h2,e⟩ k hk
    have hA:=M.top _ _ (Al a h1).2 (Al b h2).2 e
    have I7:k<na P1 a:=hk
    have IC:k<(nd l (((gt S a).toNat:Nat):Int)).args.length:=by have:=Tg a h1; unfold na at this I7; omega
    have hkb:k<na P1 b:=by rw [Tg b h2]; have:=hA.len; unfold na; omega
    have g:=M.arg _ _ (Al a h1).2 (Al b h2).2 e k IC
    rw [(Al a h1).1,(Al b h2).1] at g
    have a1:=(kC E9 (i:=a) (by omega) I7).1
    have a2:=(kC E9 (i:=b) (by omega) hkb).1
    refine⟨by show ar P1 a k<_; omega,by show ar P1 b k<_; omega,?_⟩
    show gt r (gt S (ar P1 a k)).toNat=gt r (gt S (ar P1 b k)).toNat
    rw [PA a h1 k I7,PA b h2 k hkb]; exact g
 obtain⟨x3,p5⟩:=Dr ES E9 cl m 0 P1 (by omega) (by omega) rfl (fun q hq=>by rw [if_neg (by omega)])
 have p5:ai.l3 m c m P1 0=_:=p5
 have Ve:∀i:Nat,i<S.length→nd (P1.map (pm c)) i=pm c (nd P1 i):=fun i hi=>H5 (by omega)
 have MI:∀i:Nat,i<S.length→0≤gt c i∧gt c i<S.length∧gt c (gt c i).toNat=gt c i:=fun i hi=>by have:=C.qe i (by omega); rw [Qj] at this; exact this
 have Th:lz (P1.map (pm c)):=by
  refine⟨by simp; omega,fun n hn=>?_⟩
  obtain⟨n1,KZ,rfl⟩:=YH.1 hn
  obtain⟨q1,q2⟩:=E9.2 n1 KZ
  refine⟨by simpa [pm] using q1,fun a ha=>?_⟩
  obtain⟨x,hx,rfl⟩:=YH.1 ha
  have:=q2 x hx
  have:=MI x.toNat (by omega)
  rw [YY,Qj]; omega
 obtain⟨T,t1,t2⟩:=pS ES Th (root:=0) (by omega) (by simp; omega)
 generalize Xb:P1.map (pm c)=P5 at *
 have Yg:P5.length=S.length:=by rw [←Xb]; simp [Qj]
 have Xc:∀v:Int,0≤v→v<P5.length→∀a∈(nd P5 v).args,0≤a∧a<P5.length:=fun v a b=>(Th.2 _ (fD a b)).2
 obtain⟨_,Tr,Tn,_,Tc⟩:=t2.facts Xc (fun v hv=>by rw [Yw] at hv; subst hv; omega) (fun v hv=>by cases hv) (by simp)
 rw [List.map_id] at Tn
 have Tc:∀v∈T,∀a∈(nd P5 v).args,a∈T:=fun v hv a ha=>by have:=Tc (fun v hv=>by cases hv) v hv a ha; simpa using this
 have Tl:T.length≤P5.length:=pR Tn Tr
 obtain⟨Tk,x4,p6,p7,p8⟩:=Ak (m:=m) Tn (by omega) m 0 pl (by omega) (by omega) (fun s hs=>by have:=Tr s hs; omega) (fun q hq=>absurd hq (by omega))
 have p6:ai.l5 m T m pl 0=_:=p6
 obtain⟨x5,p9⟩:=H8 (m:=m) ES Th Tr (by omega) (pl:=Tk) (by omega) m 0 (by omega) (by omega)
 have p9:ai.l6 m P5 T Tk m 0 [] 0=_:=p9
 let K2:Int→Int:=fun b=>eu r (gt S b.toNat)
 let Can:Int→Prop:=fun b=>0≤b∧b<S.length∧gt c b.toNat=b
 have Vf:∀x:Int,x∈S→K2 (gt c (gt pl x.toNat).toNat)=eu r x:=fun x hx=>by
  obtain⟨i1,i2,i3⟩:=Qk hx
  obtain⟨g1,g2,g3⟩:=MI (gt pl x.toNat).toNat (by omega)
  show eu r (gt S (gt c (gt pl x.toNat).toNat).toNat)=_
  have:=(cr (gt c (gt pl x.toNat).toNat).toNat (gt pl x.toNat).toNat (by omega) (by omega)).1 g3
  unfold eu
  rw [this,i1]
 have Ds:∀v:Int,0≤v→v<S.length→(nd P5 v).args=(nd l (gt S v.toNat)).args.map fun x=>gt c (gt pl x.toNat).toNat:=fun v v0 v1=>by
  have:=Ve v.toNat (by omega)
  rw [show ((v.toNat:Nat):Int)=v by omega] at this
  rw [this]
  have h2:=KE v.toNat (by omega)
  rw [show ((v.toNat:Nat):Int)=v by omega] at h2
  rw [h2]
  show ((nd l (gt S v.toNat)).args.map _).map _=_
  rw [List.map_map]; rfl
 have same:∀a b:Int,0≤a→a<l.length→0≤b→b<l.length→eu r a=eu r b→Alike (nd l a) (nd l b)∧(nd l a).args.map (eu r)=(nd l b).args.map (eu r):=fun a b a0 a1 b0 b1 e=>by
  have ea:((a.toNat:Nat):Int)=a:=by omega
  have eb:((b.toNat:Nat):Int)=b:=by omega
  have e:gt r a.toNat=gt r b.toNat:=e
  have hA:=M.top a.toNat b.toNat (by omega) (by omega) e
  have hg:=M.arg a.toNat b.toNat (by omega) (by omega) e
  rw [ea,eb] at hA hg
  refine⟨hA,Zd fun k=>?_⟩
  simp only [YQ]
  by_cases hk:k<(nd l a).args.length
  ·rw [bu hk,bu (by have:=hA.len; omega)]
   simp only [Yp,Ym]
   exact hg k hk
  ·rw [YC (by omega),YC (by have:=hA.len; omega)]
 obtain⟨o1,q1,q2⟩:=lock (l:=l) (P5:=P5) (κ1:=eu r) (K2:=K2) (Can:=Can) (fun v w hv hw e=>by
   have:=(cr v.toNat w.toNat (by have:=hv.1; have:=hv.2.1; omega) (by have:=hw.1; have:=hw.2.1; omega)).2 e
   rw [hv.2.2,hw.2.2] at this; exact this) (fun a v a0 a1 hv e=>by
   have hS:=aJ (l:=S) (k:=v.toNat) (by have:=hv.1; have:=hv.2.1; omega)
   have hr:=Sr _ hS
   rw [(same a _ a0 a1 hr.1 hr.2 e).2,Ds v hv.1 hv.2.1,List.map_map]
   refine Zo fun x hx=>?_
   exact (Vf x (Sc _ hS x hx)).symm) (fun v hv a ha=>by
   rw [Ds v hv.1 hv.2.1] at ha
   obtain⟨x,hx,rfl⟩:=YH.1 ha
   have hS:=aJ (l:=S) (k:=v.toNat) (by have:=hv.1; have:=hv.2.1; omega)
   have:=Qk (Sc _ hS x hx)
   exact MI (gt pl x.toNat).toNat (by omega)) ok t2 [t.root] [] (by
   show [eu r t.root]=[eu r (gt S 0)]; rw [KD]) rfl (fun b hb=>by
   rw [Yw] at hb; subst hb
   exact⟨by omega,by omega,Xa⟩) (fun b hb=>by cases hb) (fun a ha=>by rw [Yw] at ha; subst ha; exact⟨r0,r1⟩)
 have eo:=q1.US Td
 rw [eo] at q2
 generalize hO:rJ r l m t.root []=O at *
 have OT:O.length=T.length:=by have:=congrArg ZS q2; simpa using this
 have OK:∀k,k<T.length→eu r (gt O k)=K2 (gt T k):=fun k hk=>by
  have:=congrArg (fun z=>z[k]?) q2
  simp only [YQ] at this
  rw [bu (by omega),bu hk] at this
  simpa using this
 have Xd:ns=T.map fun v=>pm Tk (nd P5 v):=by
  have hlen:=Q.len
  apply Zd fun k=>?_
  by_cases hk:k<T.length
  ·rw [Q.new k (by simp) (by omega),YQ,bu hk]
   simp only [Yp,Ym]
   have hOr:=Q.vs.nP _ (aJ (l:=O) (k:=k) (by omega))
   have Vg:=Tr _ (aJ hk)
   have hS:=aJ (l:=S) (k:=(gt T k).toNat) (by omega)
   have Vh:=Sr _ hS
   obtain⟨hA,hM⟩:=same _ _ hOr.1 hOr.2 Vh.1 Vh.2 (OK k hk)
   have MJ:(nd P5 (gt T k)).kind=(nd l (gt S (gt T k).toNat)).kind∧(nd P5 (gt T k)).int=(nd l (gt S (gt T k).toNat)).int∧(nd P5 (gt T k)).label=(nd l (gt S (gt T k).toNat)).label:=by
    have:=Ve (gt T k).toNat (by omega)
    rw [show (((gt T k).toNat:Nat):Int)=gt T k by omega] at this
    rw [this]
    have h2:=KE (gt T k).toNat (by omega)
    rw [show (((gt T k).toNat:Nat):Int)=gt T k by omega] at h2
    rw [h2]
    exact⟨rfl,rfl,rfl⟩
   unfold vq pm
   rw [hA.kind,hA.int,hA.label,MJ.1,MJ.2.1,MJ.2.2]
   congr 1
   rw [Ds _ Vg.1 (by omega),List.map_map]
   apply Zd fun j=>?_
   simp only [YQ]
   by_cases hj:j<(nd l (gt O k)).args.length
   ·have FE:j<(nd l (gt S (gt T k).toNat)).args.length:=by have:=hA.len; omega
    rw [bu hj,bu FE]
    simp only [Yp,Ym,Function.comp]
    have ex:eu r (gt (nd l (gt O k)).args j)=eu r (gt (nd l (gt S (gt T k).toNat)).args j):=by
     have:=congrArg (fun z=>z[j]?) hM
     simp only [YQ] at this
     rw [bu hj,bu FE] at this
     simpa using this
    have hin:gt c (gt pl (gt (nd l (gt S (gt T k).toNat)).args j).toNat).toNat∈T:=by
     refine Tc _ (aJ hk) _ ?_
     rw [Ds _ Vg.1 (by omega)]
     exact YH.2 ⟨_,aJ FE,rfl⟩
    obtain⟨q,hq,eq⟩:=eW hin
    have Vi:=p8 q hq
    rw [eq] at Vi
    rw [Vi]
    unfold idx
    have Bz:=Q.vs.Iv
    have hget:(O.map (eu r))[q]? = some (eu r (gt (nd l (gt O k)).args j)):=by
     rw [YQ,bu (by omega)]
     simp only [Yp,Ym]
     rw [OK q hq,eq,Vf _ (Sc _ hS _ (aJ FE)),ex]
    obtain⟨g1,g2⟩:=Yu.1 hget
    rw [←g2,Bz.idxOf_getElem]
   ·rw [YC (by omega),YC (by have:=hA.len; omega)]
    rfl
  ·rw [YC (by omega),YC (by simp; omega)]
 refine⟨⟨ns,0⟩,e1,?_⟩
 unfold ai.f
 rw [s1,Yj,e0,Yj,p1,Yj]
 dsimp only
 rw [p4,Yj]
 dsimp only
 rw [c1,Yj,p5,Yj]
 dsimp only
 rw [t1,Yj,p6,Yj]
 dsimp only
 rw [p9,Yj,Xd]
end Go.Proofs.YtmekcfdllhphlaaGreatDoor
namespace Go.Proofs.YtmekcfdllhphlaaGreatDoor
open Go Go.R
open Go.IntKind (i64 u64 u8 u32)
theorem uR {m:Nat}(hm:2 ^ 41≤m){t:an}(h0:AD t):∃s e,dj.f m t=some (s,e)∧fh.f m t=some (s,e)∧(e=0→jA s)∧(e=0↔ej t=true)∧(e≠0→e=2∧s=⟨[],0⟩):=by
 have lE:(2:Nat) ^ 30=1073741824:=by decide
 have pz:(2:Nat) ^ 41=2199023255552:=by decide
 unfold dj.f fh.f
 rw [oz (by omega),Af (by omega),Yj,Yj]
 cases h:ej t with
 | false=>exact⟨_,_,rfl,rfl,fun h=>absurd h (by decide),by simp,fun _=>⟨rfl,rfl⟩⟩
 | true=>
  obtain⟨s,k1,k2⟩:=H9 hm h
  obtain⟨s',k3,L⟩:=qO hm h h0
  rw [k1] at k3
  cases k3
  rw [if_neg (by simp),if_neg (by simp),k1,k2]
  exact⟨_,_,rfl,rfl,fun _=>L,by simp,fun h=>absurd rfl h⟩
theorem wK {m:Nat}{b:List Int}{s:Nat}(h:aT.f m b=some (s:Int))(hs:s<4294967296):bM.f m b=some [((s % 256:Nat):Int),((s / 256 % 256:Nat):Int),((s / 65536 % 256:Nat):Int),((s / 16777216 % 256:Nat):Int)]:=by
 have sh:∀k,k≤24→gh .i64 (s:Int) k=((s / 2 ^ k:Nat):Int):=fun k hk=>by
  unfold gh
  have:min k IntKind.i64.bits=k:=by show min k 64=k; omega
  rw [this,ZN _ (by exact_mod_cast ZY (2 ^ k))]
  norm_cast
 unfold bM.f
 rw [h,Yj,sh 8 (by omega),sh 16 (by omega),sh 24 (by omega),fR,fR,fR,fR]
 have p8:(2:Nat) ^ 8=256:=by decide
 have Xe:(2:Nat) ^ 16=65536:=by decide
 have Xf:(2:Nat) ^ 24=16777216:=by decide
 rw [p8,Xe,Xf]
 congr 1
end Go.Proofs.YtmekcfdllhphlaaGreatDoor
namespace Go.Proofs.YtmekcfdllhphlaaGreatDoor
open Go Go.R
open Go.IntKind (i64 u64 u8 u32)
def lf (m:Nat)(t:an):an:=(cG.f m t).getD ⟨[],0⟩
structure Lf (m:Nat)(t:an):Prop where
 eq:cG.f m t=some (lf m t)
 top:dj.f m t=some (lf m t,0)
 ref:fh.f m t=some (lf m t,0)
 lt:jA (lf m t)
 val:ej (lf m t)=true
 len:(lf m t).nodes.length≤t.nodes.length
 Xg:AD (lf m t)
 idem:lf m (lf m t)=lf m t
theorem Dt {m:Nat}(hm:2 ^ 41≤m){t:an}(h:ej t=true)(h0:AD t):Lf m t:=by
 obtain⟨s,e1,v,l,e2⟩:=BQ hm h
 obtain⟨s',e',k1,k2,k3,k4,_⟩:=uR hm h0
 have hs:lf m t=s:=by unfold lf; rw [e1]; rfl
 have:=k4.2 h
 subst this
 obtain⟨s2,k5,L⟩:=qO hm h h0
 rw [e1] at k5
 cases k5
 have hv:dj.f m t=some (s,0):=by
  have pz:(2:Nat) ^ 41=2199023255552:=by decide
  have lE:(2:Nat) ^ 30=1073741824:=by decide
  unfold dj.f
  rw [oz (by omega),Yj,h,if_neg (by simp),e1]; rfl
 rw [hv] at k1
 cases k1
 have hi:lf m s=s:=by unfold lf; rw [e2]; rfl
 exact⟨by rw [hs]; exact e1,by rw [hs]; exact hv,by rw [hs]; exact k2,by rw [hs]; exact L,by rw [hs]; exact v,by rw [hs]; exact l,by rw [hs]; exact fun n hn=>(L.nodes n hn).2.1,by rw [hs]; exact hi⟩
structure AE (m:Nat)(l:List an):Prop where
 qd:l.length≤8
 val:∀t∈l,ej t=true∧AD t
 Tm:∀t∈l,(lf m t).nodes.any (fun n=>n.kind==4)=false
 sum:(l.map fun t=>t.nodes.length).sum≤300
theorem AE.lf {m:Nat}(hm:2 ^ 41≤m){l:List an}(I:AE m l){t:an}(ht:t∈l):Lf m t:=Dt hm (I.val t ht).1 (I.val t ht).2
theorem Ia {m:Nat}:∀{l:List an},(∀t∈l,Lf m t)→((l.map (lf m)).map fun t=>t.nodes.length).sum≤(l.map fun t=>t.nodes.length).sum
 | [],_=>by simp
 | a::l,h=>by
  have h1:=(h a (by simp)).len
  have:=Ia (l:=l) fun t ht=>h t (by simp [ht])
  simp only [YJ,List.sum_cons]
  omega
theorem AE.least {m:Nat}(hm:2 ^ 41≤m){l:List an}(I:AE m l):AE m (l.map (Go.Proofs.YtmekcfdllhphlaaGreatDoor.lf m)):=by
 refine⟨by simpa using I.qd,fun t ht=>?_,fun t ht=>?_,Y0 (Ia fun t ht=>I.lf hm ht) I.sum⟩
 ·obtain⟨u,hu,rfl⟩:=YH.1 ht
  exact⟨(I.lf hm hu).val,(I.lf hm hu).Xg⟩
 ·obtain⟨u,hu,rfl⟩:=YH.1 ht
  rw [(I.lf hm hu).idem]
  exact I.Tm u hu
theorem AE.idem {m:Nat}(hm:2 ^ 41≤m){l:List an}(I:AE m l):(l.map (Go.Proofs.YtmekcfdllhphlaaGreatDoor.lf m)).map (Go.Proofs.YtmekcfdllhphlaaGreatDoor.lf m)=l.map (Go.Proofs.YtmekcfdllhphlaaGreatDoor.lf m):=by
 rw [List.map_map]
 exact Zo fun t ht=>(I.lf hm ht).idem
def pk (m:Nat)(l:List an):List Int:=bw (l.map (lf m))++(bM.f m (bw (l.map (lf m)))).getD []
theorem pW:∀{l:List an},(∀t∈l,jA t∧jI t)→(bk l).length≤10*l.length+200*(l.map fun t=>t.nodes.length).sum
 | [],_=>by simp [bk]
 | a::l,h=>by
  have h1:=h a (by simp)
  have:=pW (l:=l) fun b hb=>h b (by simp [hb])
  have Ni:(2:Nat) ^ 64=18446744073709551616:=by decide
  have hf:=h1.1.qd
  have h3:=di (n:=a.nodes.length) (by omega)
  have hn:∀l:List ab,(∀n∈l,pL n∧E8 n)→(dA l).length≤200*l.length:=by
   intro l
   induction l with
   | nil=>intro _; simp [dA]
   | cons a l ih=>
    intro h
    have h1:=h a (by simp)
    have:=ih fun b hb=>h b (by simp [hb])
    have h2:=rK h1.1 h1.2
    rw [iq,Ys,YD]; omega
  have h2:=hn a.nodes fun n hn=>⟨h1.2.nodes n hn,(h1.1.nodes n hn).1⟩
  rw [ir,Ys,iX,Ys,YD,YJ,List.sum_cons]; omega
structure Pk (m:Nat)(l:List an)(c:List Int):Prop where
 To:bM.f m (bw (l.map (lf m)))=some c
 eq:pk m l=bw (l.map (lf m))++c
 ET:Bytes c
 len:c.length=4
 w:∀t∈l.map (lf m),jA t∧jI t
 size:(bk (l.map (lf m))).length≤60080
 Am:(bw (l.map (lf m))).length≤60100∧3≤(bw (l.map (lf m))).length
theorem AE.pk {m:Nat}(hm:2 ^ 41≤m){l:List an}(I:AE m l):∃c,Pk m l c:=by
 have pz:(2:Nat) ^ 41=2199023255552:=by decide
 have mj:(2:Nat) ^ 40=1099511627776:=by decide
 have Ni:(2:Nat) ^ 64=18446744073709551616:=by decide
 have hW:∀t∈l.map (Go.Proofs.YtmekcfdllhphlaaGreatDoor.lf m),jA t∧jI t:=fun t ht=>by
  obtain⟨u,hu,rfl⟩:=YH.1 ht
  have L:=(I.lf hm hu).lt
  exact⟨L,L.w (I.Tm u hu)⟩
 have h1:=pW hW
 have h2:=(I.least hm).sum
 have h3:=I.qd
 have h4:(l.map (Go.Proofs.YtmekcfdllhphlaaGreatDoor.lf m)).length=l.length:=YY _
 have WB:=di (n:=(l.map (Go.Proofs.YtmekcfdllhphlaaGreatDoor.lf m)).length) (by omega)
 have hne:0<(de (l.map (Go.Proofs.YtmekcfdllhphlaaGreatDoor.lf m)).length).length:=List.length_pos_iff.2 (Js _)
 have JY:(bw (l.map (Go.Proofs.YtmekcfdllhphlaaGreatDoor.lf m))).length≤60100∧3≤(bw (l.map (Go.Proofs.YtmekcfdllhphlaaGreatDoor.lf m))).length:=by
  unfold bw
  simp only [Ys,YD,Y6]; omega
 obtain⟨c,hc⟩:=qQ (m:=m) (by omega) (b:=bw (l.map (Go.Proofs.YtmekcfdllhphlaaGreatDoor.lf m))) (by omega) (by omega)
 exact⟨c,hc,by unfold Go.Proofs.YtmekcfdllhphlaaGreatDoor.pk; rw [hc]; rfl,(ke hc).1,(ke hc).2,hW,by omega,JY⟩
theorem uS {m:Nat}(hm:2 ^ 41≤m){L:List an}(I:AE m L):∀(f i:Nat) (acc:List an),L.length - i<f→i≤L.length→acc.length≤i→
  ∃x,bj.l0 m L f acc (i:Int)=some (.inr (acc++(L.drop i).map (lf m),x))
 | 0,i,acc,hf,_,_=>absurd hf (by omega)
 | f+1,i,acc,hf,hi,ha=>by
  have h8:=I.qd
  unfold bj.l0
  by_cases h:i<L.length
  ·have hx:ix L (i:Int)=some L[i]:=by unfold ix; rw [if_pos (by omega)]; simp [h]
   have F:=I.lf hm (Ze h)
   have jS:app 32 acc [lf m L[i]]=some (acc++[lf m L[i]]):=by unfold app; rw [if_pos (by simp; omega)]
   obtain⟨x,ih⟩:=uS hm I f (i+1) (acc++[lf m L[i]]) (by omega) (by omega) (by simp; omega)
   refine⟨x,?_⟩
   rw [if_pos (by simp only [decide_eq_true_eq]; omega),hx,Yj,F.top,Yj]
   dsimp only
   rw [if_neg (by simp),jS,Yj,aA (by omega) (by omega),show (i:Int)+1=((i+1:Nat):Int) by omega,ih,Yz h,YJ,Yx]; rfl
  ·refine⟨(i:Int),?_⟩
   rw [if_neg (by simp only [decide_eq_true_eq]; omega),Y3 (by omega),List.map_nil,Zk]
theorem Du {m:Nat}(hm:2 ^ 41≤m){L:List an}(I:AE m L):bj.f m L=some (pk m L,0):=by
 have lE:(2:Nat) ^ 30=1073741824:=by decide
 have pz:(2:Nat) ^ 41=2199023255552:=by decide
 have mj:(2:Nat) ^ 40=1099511627776:=by decide
 have L6:(2:Nat) ^ 42=4398046511104:=by decide
 have h8:=I.qd
 obtain⟨c,P⟩:=I.pk hm
 obtain⟨x,k1⟩:=uS hm I m 0 [] (by omega) (by omega) (by simp)
 have k1:bj.l0 m L m [] 0=_:=k1
 rw [YO,YZ] at k1
 have h4:(L.map (lf m)).length=L.length:=YY _
 have s1:=P.size
 have s2:=P.Am
 have s3:=P.len
 have jS:app 1 (bw (L.map (lf m))) c=some (bw (L.map (lf m))++c):=by unfold app; rw [if_pos (by omega)]
 have rT:((L.map (lf m)).any fun t=>t.nodes.any fun n=>n.kind==4)=false:=by
  rw [List.any_eq_false]
  intro t ht
  obtain⟨u,hu,rfl⟩:=YH.1 ht
  rw [I.Tm u hu]; simp
 unfold bj.f
 rw [if_neg (by simp only [decide_eq_true_eq]; omega),k1,Yj]
 dsimp only
 rw [qI (g:=fun t=>t.nodes.any fun n=>n.kind==4) (by omega) (by omega) (fun t ht=>qP (by have:=(P.w t ht).1.qd; omega) (by have:=(P.w t ht).1.qd; omega)),Yj,rT,if_neg (by simp),
  Da (by omega) (fun t ht=>(P.w t ht).2) (by omega) (by omega),P.To,Yj,jS,Yj,if_neg (by simp only [decide_eq_true_eq,Ys]; omega),P.eq]
theorem JL {m:Nat}(x y:List Int):cO.f m x y=some ((cM x).data.toList==(cM y).data.toList):=rfl
theorem pX {m:Nat}(x:List Int):cO.f m x x=some true:=by rw [JL]; simp
theorem Pk.idem {m:Nat}(hm:2 ^ 41≤m){l:List an}(I:AE m l):Go.Proofs.YtmekcfdllhphlaaGreatDoor.pk m (l.map (lf m))=Go.Proofs.YtmekcfdllhphlaaGreatDoor.pk m l:=by
 unfold Go.Proofs.YtmekcfdllhphlaaGreatDoor.pk
 rw [I.idem hm]
theorem JM {m:Nat}(hm:2 ^ 41≤m){L:List an}(I:AE m L):aD.f m (pk m L)=some (L.map (lf m),0):=by
 have lE:(2:Nat) ^ 30=1073741824:=by decide
 have pz:(2:Nat) ^ 41=2199023255552:=by decide
 have Hj:(2:Nat) ^ 63=9223372036854775808:=by decide
 obtain⟨c,P⟩:=I.pk hm
 have s1:=P.size
 have s2:=P.Am
 have s3:=P.len
 have h8:=I.qd
 have h4:(L.map (lf m)).length=L.length:=YY _
 have hp:=Du hm (I.least hm)
 rw [Pk.idem hm I] at hp
 obtain⟨x,hx⟩:=uF (m:=m) (by omega) (((L.map (lf m)).length:Int),(⟨bk (L.map (lf m)),false⟩:dG)) [] (by simp; omega) (L.map (lf m)) m 0 [] (by omega) (by simp) rfl fun t ht=>(P.w t ht).2
 rw [Zk] at hx
 have hx:aD.l0 m (((L.map (lf m)).length:Int),(⟨bk (L.map (lf m)),false⟩:dG)) m [] 0 ⟨bk (L.map (lf m)),false⟩=_:=hx
 have hB:=P.eq
 generalize pk m L=B at *
 have Xh:B.length=(bw (L.map (lf m))).length+4:=by rw [hB,Ys,s3]
 have e4:i64.wrap ((B.length:Int) - 4)=((bw (L.map (lf m))).length:Int):=by rw [aA (by omega) (by omega)]; omega
 have c1:lD B 0 ((bw (L.map (lf m))).length:Int)=some (bw (L.map (lf m))):=by
  rw [kh ⟨by omega,by omega,by omega⟩,hB]
  simp
 have c2:lD B ((bw (L.map (lf m))).length:Int) (B.length:Int)=some c:=by
  rw [kh ⟨by omega,by omega,by omega⟩,Xh,hB]
  simp
  exact YR (by omega)
 have c3:lD B 2 ((bw (L.map (lf m))).length:Int)=some (de (L.map (lf m)).length++bk (L.map (lf m))):=by
  rw [kh ⟨by omega,by omega,by omega⟩,hB]
  have e:(bw (L.map (lf m))++c).drop (2:Int).toNat=(de (L.map (lf m)).length++bk (L.map (lf m)))++c:=rfl
  rw [e,show ((bw (L.map (lf m))).length:Int).toNat - (2:Int).toNat=(de (L.map (lf m)).length++bk (L.map (lf m))).length by unfold bw; simp [Ys]; omega,List.take_left]
 unfold aD.f
 rw [if_neg (by simp only [decide_eq_true_eq]; omega),if_neg (by simp only [decide_eq_true_eq]; omega),e4,c1,Yj,P.To,Yj,c2,Yj,pX,Yj,if_neg (by simp),c3,Yj,
  vt (by omega) (by omega),Yj]
 dsimp only
 rw [hx,Yj]
 dsimp only
 rw [YO,if_neg (by simp),if_neg (by simp),hp,Yj]
 dsimp only
 rw [if_neg (by simp),pX,Yj,if_neg (by simp)]
end Go.Proofs.YtmekcfdllhphlaaGreatDoor
namespace Go.Proofs.YtmekcfdllhphlaaGreatDoor
open Go Go.R
open Go.IntKind (i64 u64 u8 u32)
def wL:cm:=gI [0,2,3,4,5,8,12,24,32,58] [] [1022,990,1021,1018,1010,946,1010,1010,882,1021,994,738,994,482,1021,1021] [] []
def aS.l1 (m:Nat)(l0:List an)(i0:Int):Nat→Int→Option (Sum Bool (Int))
 | 0,_=>none
 | k+1,k0=>(ix l0 i0).bind fun v1=>if (decide (k0<(v1.nodes.length:Int)))=true then ((ix l0 i0).bind fun v2=>(ix v2.nodes k0).bind fun v3=>if (decide ((v3.args.length:Int) > (20:Int)))=true then (some (.inl true)) else ((ix l0 i0).bind fun v4=>(ix v4.nodes k0).bind fun v5=>if (decide ((v5.label.size:Int) > (40:Int)))=true then (some (.inl true)) else (aS.l1 m l0 i0 k (i64.wrap (k0+(1:Int)))))) else (some (.inr k0))
def aS.l0 (m:Nat)(l0:List an):Nat→Int→Int→Option (Sum Bool (Int × Int))
 | 0,_,_=>none
 | k+1,n0,i0=>if (decide (i0<(l0.length:Int)))=true then ((ix l0 i0).bind fun v0=>if (decide ((i64.wrap (n0+(v0.nodes.length:Int))) > (300:Int)))=true then (some (.inl true)) else ((aS.l1 m l0 i0 m (0:Int)).bind fun bg=>match bg with | .inl r0=>some (.inl r0) | .inr k1=>aS.l0 m l0 k (i64.wrap (n0+(v0.nodes.length:Int))) (i64.wrap (i0+(1:Int))))) else (some (.inr (n0,i0)))
def aS.f (m:Nat)(l0:List an):Option (Bool):=if (decide ((l0.length:Int) > (12:Int)))=true then (some true) else ((aS.l0 m l0 m (0:Int) (0:Int)).bind fun bR=>match bR with | .inl r1=>some r1 | .inr (n1,i1)=>some false)
def aS.fin (L:Mem)(r:Bool)(s:St):Prop:=∃av,aH Tryz.prog (s.open wL) Tryz.f34.results.toList=some av∧gu s.h av (.bool r)
def Vj (cf:CallF)(m:Nat):Prop:=∀(l0:List an) (r:Bool),aS.f m l0=some r→∀h xs,eY fq h xs [aZ.fz l0]→cf 34 xs h=some (.bool r,h)
section
variable {cf:CallF}{m:Nat}
theorem aS.fC (L:Mem)(l0:List an)(n0:Int)(i0:Int)(v0:an)   : bL Tryz.prog cf wL m (sub [1,1,1,0,1,0,0,1,0,0,1,1,1,0,0] (codeOf Tryz.f34)) (fun k (σ:Int)=>aS.l1 m l0 i0 k σ) (fun σ s=>match σ with | k0=>∃h1,s=⟨aZ.fz l0 :: .any :: .int .i64 (i64.wrap (n0+(v0.nodes.length:Int))) :: .int .i64 i0 :: .int .i64 k0::rV [],[],h1⟩∧Has h1 (L)) (fun out e s=>(e = .exit 2∧∃k0,.inr k0=out∧∃zG MA h1,s=⟨aZ.fz l0 :: .any :: .int .i64 (i64.wrap (n0+(v0.nodes.length:Int))) :: .int .i64 i0::zG::kK [MA,.any],[],h1⟩∧Has h1 (L))∨(e = .ret∧∃r,.inl r=out∧aS.fin L r s)):=by
 refine ig (fun _=>rfl) ?_
 rintro k k0 s out ⟨h1,rfl,o1⟩ H
 have H:aS.l1 m l0 i0 (k+1) k0=some out:=H
 refine qq <| qq ?_
 obtain⟨v1,e1,H⟩:=aI H
 refine qr [.v 3 (bI (k:=.i64) (E:=aZ) (l:=l0) E2 e1),.v 5 (jD  (E:=aZ) (l:=l0) (off:=0) h1 Oj e1 rfl)] <| qc H (fun c3 H=>?_) (fun c3 H=>?_)
 ·refine qk <| qq <| qb 3 <| qq ?_
  obtain⟨v2,e2,H⟩:=aI H
  obtain⟨v3,e3,H⟩:=aI H
  rcases dQ H with⟨c4,H⟩| ⟨c4,H⟩
  ·exact qr [.v 2 (bI (k:=.i64) (E:=aZ) (l:=l0) E2 e2),.v 4 (jD  (E:=aZ) (l:=l0) (off:=0) h1 Oj e2 rfl),.v 6 (bI (k:=.i64) (E:=ah) (l:=v2.nodes) mf e3),.v 8 (jD  (E:=ah) (l:=v2.nodes) (off:=3) h1 LQ e3 rfl),.b 11 c4] <| wk <| qq <| q0 <| qt <| Zx (⟨rfl,_,oi H,cp (.bool true) h1 (ck (au))⟩)
  ·obtain⟨v4,e4,H⟩:=aI H
   obtain⟨v5,e5,H⟩:=aI H
   refine qr [.v 2 (bI (k:=.i64) (E:=aZ) (l:=l0) E2 e2),.v 4 (jD  (E:=aZ) (l:=l0) (off:=0) h1 Oj e2 rfl),.v 6 (bI (k:=.i64) (E:=ah) (l:=v2.nodes) mf e3),.v 8 (jD  (E:=ah) (l:=v2.nodes) (off:=3) h1 LQ e3 rfl),.b 11 c4,.v 14 (bI (k:=.i64) (E:=aZ) (l:=l0) E2 e4),.v 16 (jD  (E:=aZ) (l:=l0) (off:=0) h1 Oj e4 rfl),.v 18 (bI (k:=.i64) (E:=ah) (l:=v4.nodes) mf e5),.v 20 (jD  (E:=ah) (l:=v4.nodes) (off:=2) h1 A9 e5 rfl)] <| qc H (fun c6 H=>?_) (fun c6 H=>?_)
   ·exact q1 <| qt <| Zx (⟨rfl,_,oi H,cp (.bool true) h1 (ck (au))⟩)
   ·exact qk <| q0 <| ⟨i64.wrap (k0+(1:Int)),⟨h1,by kernel_rfl,o1⟩,H⟩
 ·exact qx 2 <| Or.inl (⟨rfl,k0,oi H,.int .i64 k0,.bool (decide (k0<(v1.nodes.length:Int))),h1,by kernel_rfl,o1⟩)
theorem aS.bP (L:Mem)(l0:List an)   : bL Tryz.prog cf wL m (sub [1,1,1,0,1,0,0] (codeOf Tryz.f34)) (fun k (σ:Int × Int)=>aS.l0 m l0 k σ.1 σ.2) (fun σ s=>match σ with | (n0,i0)=>∃h0,s=⟨aZ.fz l0 :: .any :: .int .i64 n0 :: .int .i64 i0::Gh [],[],h0⟩∧Has h0 (L)) (fun out e s=>(e = .exit 0∧∃n0 i0,.inr (n0,i0)=out∧∃lP vn Et BK h0,s=⟨lP :: .any::vn::Et :: .any :: .any::BK::kK [],[],h0⟩∧Has h0 (L))∨(e = .ret∧∃r,.inl r=out∧aS.fin L r s)):=by
 refine ig (fun _=>rfl) ?_
 rintro k ⟨n0,i0⟩ s out ⟨h0,rfl,o0⟩ H
 have H:aS.l0 m l0 (k+1) n0 i0=some out:=H
 refine qq <| qq <| q0 <| qc H (fun c1 H=>?_) (fun c1 H=>?_)
 ·refine qk <| qq <| qb 1 <| qq ?_
  obtain⟨v0,e0,H⟩:=aI H
  refine qr [.v 3 (bI (k:=.i64) (E:=aZ) (l:=l0) E2 e0),.v 5 (jD  (E:=aZ) (l:=l0) (off:=0) h0 Oj e0 rfl)] <| qq <| qq <| q0 <| qc H (fun c2 H=>?_) (fun c2 H=>?_)
  ·exact q1 <| qt <| Zx (⟨rfl,_,oi H,cp (.bool true) h0 (ck (au))⟩)
  ·refine qk <| qq <| q0 <| qb 2 ?_
   obtain⟨bg,e6,H⟩:=aI H
   refine ql (aS.fC L l0 n0 i0 v0   (0:Int) _ _ ⟨h0,by kernel_rfl,o0⟩ e6) ?_
   rintro e s (⟨rfl,k1,rfl,g0,g1,h2,rfl,o2⟩| ⟨rfl,r0,rfl,ov⟩)
   ·try dsimp only at H
    exact q0 <| ⟨(i64.wrap (n0+(v0.nodes.length:Int)),i64.wrap (i0+(1:Int))),⟨h2,by kernel_rfl,o2⟩,H⟩
   ·try dsimp only at H
    exact Zx (⟨rfl,_,oi H,ov⟩)
 ·exact qx 0 <| Or.inl (⟨rfl,n0,i0,oi H,aZ.fz l0,.int .i64 n0,.int .i64 i0,.bool (decide (i0<(l0.length:Int))),h0,by kernel_rfl,o0⟩)
theorem q8 {aU:FuncId→cm}(ha:aU 34=wL)  (l0:List an)(h:AHeap)(L:Mem)  (o:Has h (L)){out:Bool}(H:aS.f m l0=some out) :
  ∃r h',be Tryz.prog aU cf m 34 [aZ.fz l0] h=some (r,h')∧gu h' r (.bool out):=by
 refine aq (fn:=Tryz.f34) ha Tryz.func34 (by kernel_rfl) (by kernel_rfl) ?_
 refine aG (Q:=fun s=>aS.fin L out s) (fun _ _ h=>h) ?_
 have H:_=some out:=H
 unfold aS.f at H
 show dt _ cf wL m _ ⟨aZ.fz l0::Ee [],[],h⟩ _
 refine q1 <| qq <| qq <| q0 <| qc H (fun c0 H=>?_) (fun c0 H=>?_)
 ·obtain rfl:=oi H
  exact q1 <| qt <| ⟨.inl rfl,cp (.bool true) h (ck (au))⟩
 ·refine qk <| qq <| q0 <| qq <| qq <| q0 <| qb 0 ?_
  obtain⟨bR,e7,H⟩:=aI H
  refine ql (aS.bP L l0   ((0:Int),(0:Int)) _ _ ⟨h,by kernel_rfl,o⟩ e7) ?_
  rintro e s (⟨rfl,n1,i1,rfl,g2,g3,g4,g5,h3,rfl,o3⟩| ⟨rfl,r1,rfl,Tp⟩)
  ·try dsimp only at H
   obtain rfl:=oi H
   exact q1 <| qt <| ⟨.inl rfl,cp (.bool false) h3 (ck (au))⟩
  ·try dsimp only at H
   obtain rfl:=oi H
   exact⟨.inl rfl,Tp⟩
end
end Go.Proofs.YtmekcfdllhphlaaGreatDoor
namespace Go.Proofs.YtmekcfdllhphlaaGreatDoor
open Go Go.R
open Go.IntKind (i64 u64 u8 u32)
theorem uT {α:Type}{l:List α}{i:Nat}(h:i<l.length):ix l (i:Int)=some l[i]:=by unfold ix; rw [if_pos (by omega)]; simp [h]
theorem An {m:Nat}{L:List an}{i:Nat}(hi:i<L.length)(hn:L[i].nodes.length<2 ^ 63):∀(f k:Nat),L[i].nodes.length - k<f→k≤L[i].nodes.length→
  ∃o,aS.l1 m L (i:Int) f (k:Int)=some o∧((∃x,o = .inr x)∨o = .inl true)
 | 0,k,hf,_=>absurd hf (by omega)
 | f+1,k,hf,hk=>by
  have Hj:(2:Nat) ^ 63=9223372036854775808:=by decide
  unfold aS.l1
  rw [uT hi,Yj]
  by_cases h:k<L[i].nodes.length
  ·obtain⟨o,ih,ho⟩:=An (m:=m) hi hn f (k+1) (by omega) (by omega)
   rw [if_pos (by simp only [decide_eq_true_eq]; omega),Yj,uT h,Yj]
   split
   ·exact⟨_,rfl,.inr rfl⟩
   ·rw [Yj,uT h,Yj]
    split
    ·exact⟨_,rfl,.inr rfl⟩
    ·rw [aA (by omega) (by omega),show (k:Int)+1=((k+1:Nat):Int) by omega,ih]
     exact⟨o,rfl,ho⟩
  ·rw [if_neg (by simp only [decide_eq_true_eq]; omega)]
   exact⟨_,rfl,.inl ⟨_,rfl⟩⟩
theorem uU {m:Nat}(hm:2 ^ 63≤m){L:List an}(h12:L.length≤12)(hl:∀t∈L,t.nodes.length<2 ^ 63):∀(f i:Nat) (n:Int),L.length - i<f→i≤L.length→
  ∃o,aS.l0 m L f n (i:Int)=some o∧((∃x,o = .inr x)∨o = .inl true)
 | 0,i,n,hf,_=>absurd hf (by omega)
 | f+1,i,n,hf,hi=>by
  have Hj:(2:Nat) ^ 63=9223372036854775808:=by decide
  unfold aS.l0
  by_cases h:i<L.length
  ·have hb:=hl _ (Ze h)
   rw [if_pos (by simp only [decide_eq_true_eq]; omega),uT h,Yj]
   split
   ·exact⟨_,rfl,.inr rfl⟩
   ·obtain⟨o,k1,k2⟩:=An (m:=m) h hb m 0 (by omega) (by omega)
    have k1:aS.l1 m L (i:Int) m (0:Int)=_:=k1
    rw [k1,Yj]
    rcases k2 with⟨x,rfl⟩| rfl
    ·dsimp only
     rw [aA (x:=(i:Int)+1) (by omega) (by omega),show (i:Int)+1=((i+1:Nat):Int) by omega]
     exact uU hm h12 hl f (i+1) _ (by omega) (by omega)
    ·exact⟨_,rfl,.inr rfl⟩
  ·rw [if_neg (by simp only [decide_eq_true_eq]; omega)]
   exact⟨_,rfl,.inl ⟨_,rfl⟩⟩
theorem BZ {m:Nat}(hm:2 ^ 63≤m){L:List an}(hl:∀t∈L,t.nodes.length<2 ^ 63):∃b,aS.f m L=some b∧(b=false→L.length≤12):=by
 have Hj:(2:Nat) ^ 63=9223372036854775808:=by decide
 unfold aS.f
 split
 ·exact⟨true,rfl,fun h=>by cases h⟩
 ·rename_i h
  simp only [decide_eq_true_eq] at h
  obtain⟨o,k1,k2⟩:=uU hm (by omega) hl m 0 0 (by omega) (by omega)
  have k1:aS.l0 m L m (0:Int) (0:Int)=_:=k1
  rw [k1,Yj]
  rcases k2 with⟨⟨n,x⟩,rfl⟩| rfl
  ·exact⟨false,rfl,fun _=>by omega⟩
  ·exact⟨true,rfl,fun h=>by cases h⟩
end Go.Proofs.YtmekcfdllhphlaaGreatDoor
namespace Go.Proofs.YtmekcfdllhphlaaGreatDoor
open Go Go.R
open Go.IntKind (i64 u64 u8 u32)
def wM:cm:=gI [0,2,3,4,5,6,13,17,29,34,43] [4] [2046,1982,2045,2042,1914,2042,2018,1778,2045,2002,1490,2002,978,2045,2045] [] []
def a6.l1 (m:Nat)(x1:an × Int):Nat→Int→Option (Sum Bool (Int))
 | 0,_=>none
 | k+1,k0=>if (decide (k0<(x1.1.nodes.length:Int)))=true then ((ix x1.1.nodes k0).bind fun v1=>if (v1.kind==(4:Int))=true then (some (.inl false)) else (a6.l1 m x1 k (i64.wrap (k0+(1:Int))))) else (some (.inr k0))
def a6.l0 (m:Nat)(l0:List an):Nat→Int→Option (Sum Bool (Int))
 | 0,_=>none
 | k+1,i0=>if (decide (i0<(l0.length:Int)))=true then ((ix l0 i0).bind fun v0=>(fh.f m v0).bind fun x1=>if (!(x1.2==(0:Int)))=true then (some (.inl false)) else ((a6.l1 m x1 m (0:Int)).bind fun bg=>match bg with | .inl r0=>some (.inl r0) | .inr k1=>a6.l0 m l0 k (i64.wrap (i0+(1:Int))))) else (some (.inr i0))
def a6.f (m:Nat)(l0:List an):Option (Bool):=(aS.f m l0).bind fun x0=>if x0=true then (some false) else (if (decide ((l0.length:Int) > (8:Int)))=true then (some false) else ((a6.l0 m l0 m (0:Int)).bind fun bR=>match bR with | .inl r1=>some r1 | .inr i1=>some true))
def a6.fin (L:Mem)(r:Bool)(s:St):Prop:=∃av,aH Tryz.prog (s.open wM) Tryz.f16.results.toList=some av∧gu s.h av (.bool r)
def Vk (cf:CallF)(m:Nat):Prop:=∀(l0:List an) (r:Bool),a6.f m l0=some r→∀h xs,eY fq h xs [aZ.fz l0]→cf 16 xs h=some (.bool r,h)
section
variable {cf:CallF}{m:Nat}
theorem a6.fC (L:Mem)(l0:List an)(i0:Int)(x1:an × Int)   : bL Tryz.prog cf wM m (sub [1,1,0,1,0,0,1,0,0,1,1,1,0,0] (codeOf Tryz.f16)) (fun k (σ:Int)=>a6.l1 m x1 k σ) (fun σ s=>match σ with | k0=>∃h1,s=⟨aZ.fz l0 :: .any :: .int .i64 i0 :: .lp 4 0 :: .any :: .int .i64 k0::rV [],[some [ah.fz x1.1.nodes,.int .i64 x1.1.root]],h1⟩∧Has h1 (L)) (fun out e s=>(e = .exit 2∧∃k0,.inr k0=out∧∃Et Ew Gz Sv h1,s=⟨aZ.fz l0 :: .any :: .int .i64 i0::Et :: .any::Ew::kK [Gz,.any],[Sv],h1⟩∧Has h1 (L))∨(e = .ret∧∃r,.inl r=out∧a6.fin L r s)):=by
 refine ig (fun _=>rfl) ?_
 rintro k k0 s out ⟨h1,rfl,o1⟩ H
 have H:a6.l1 m x1 (k+1) k0=some out:=H
 refine qq <| qq <| q0 <| qc H (fun c5 H=>?_) (fun c5 H=>?_)
 ·refine qk <| qq <| qb 3 <| qq ?_
  obtain⟨v1,e3,H⟩:=aI H
  refine qr [.v 3 (bI (k:=.i64) (E:=ah) (l:=x1.1.nodes) mf e3),.v 5 (jD  (E:=ah) (l:=x1.1.nodes) (off:=0) h1 A3 e3 rfl)] <| qc H (fun c6 H=>?_) (fun c6 H=>?_)
  ·exact q1 <| qt <| Zx (⟨rfl,_,oi H,cp (.bool false) h1 (ck (au))⟩)
  ·exact qk <| q0 <| ⟨i64.wrap (k0+(1:Int)),⟨h1,by kernel_rfl,o1⟩,H⟩
 ·exact qx 2 <| Or.inl (⟨rfl,k0,oi H,.lp 4 0,.int .i64 k0,.bool (decide (k0<(x1.1.nodes.length:Int))),some [ah.fz x1.1.nodes,.int .i64 x1.1.root],h1,by kernel_rfl,o1⟩)
theorem a6.bP (L:Mem)(l0:List an)  (MK:SQ cf m):bL Tryz.prog cf wM m (sub [1,1,0,1,0,0] (codeOf Tryz.f16)) (fun k (σ:Int)=>a6.l0 m l0 k σ) (fun σ s=>match σ with | i0=>∃h0,s=⟨aZ.fz l0 :: .any :: .int .i64 i0::sI [],[none],h0⟩∧Has h0 (L)) (fun out e s=>(e = .exit 0∧∃i0,.inr i0=out∧∃lP vn Bq h0,s=⟨lP :: .any::vn::oH (Bq::kK []),[none],h0⟩∧Has h0 (L))∨(e = .ret∧∃r,.inl r=out∧a6.fin L r s)):=by
 refine ig (fun _=>rfl) ?_
 rintro k i0 s out ⟨h0,rfl,o0⟩ H
 have H:a6.l0 m l0 (k+1) i0=some out:=H
 refine qq <| qq <| q0 <| qc H (fun c3 H=>?_) (fun c3 H=>?_)
 ·refine qk <| qq <| qb 1 <| qq ?_
  obtain⟨v0,e1,H⟩:=aI H
  obtain⟨x1,e2,H⟩:=aI H
  refine qr [.v 2 (bI (k:=.i64) (E:=aZ) (l:=l0) E2 e1),.v 3 (dL  (E:=aZ) (l:=l0) h0 Ok Ol e1),.a 4 (MK _ _ e2 h0 _ (cY (tC (cY (iE (E:=ah)) (cY (bJ) (gZ)))) (gZ)))] <| qq <| qq <| q0 <| qc H (fun c4 H=>?_) (fun c4 H=>?_)
  ·exact q1 <| qt <| Zx (⟨rfl,_,oi H,cp (.bool false) h0 (ck (au))⟩)
  ·refine qk <| qq <| q0 <| qb 2 ?_
   obtain⟨bg,e4,H⟩:=aI H
   refine ql (a6.fC L l0 i0 x1   (0:Int) _ _ ⟨h0,by kernel_rfl,o0⟩ e4) ?_
   rintro e s (⟨rfl,k1,rfl,g0,g1,g2,g3,h2,rfl,o2⟩| ⟨rfl,r0,rfl,ov⟩)
   ·try dsimp only at H
    exact q0 <| ⟨i64.wrap (i0+(1:Int)),⟨h2,by kernel_rfl,o2⟩,H⟩
   ·try dsimp only at H
    exact Zx (⟨rfl,_,oi H,ov⟩)
 ·exact qx 0 <| Or.inl (⟨rfl,i0,oi H,aZ.fz l0,.int .i64 i0,.bool (decide (i0<(l0.length:Int))),h0,by kernel_rfl,o0⟩)
theorem q9 {aU:FuncId→cm}(ha:aU 16=wM)(MK:SQ cf m)(PB:Vj cf m)(l0:List an)(h:AHeap)(L:Mem)  (o:Has h (L)){out:Bool}(H:a6.f m l0=some out) :
  ∃r h',be Tryz.prog aU cf m 16 [aZ.fz l0] h=some (r,h')∧gu h' r (.bool out):=by
 refine aq (fn:=Tryz.f16) ha Tryz.func16 (by kernel_rfl) (by kernel_rfl) ?_
 refine aG (Q:=fun s=>a6.fin L out s) (fun _ _ h=>h) ?_
 have H:_=some out:=H
 unfold a6.f at H
 show dt _ cf wM m _ ⟨aZ.fz l0::xG [],[none],h⟩ _
 refine q1 <| qq <| qq ?_
 obtain⟨x0,e0,H⟩:=aI H
 rcases dQ H with⟨c0,H⟩| ⟨c0,H⟩
 ·obtain rfl:=oi H
  exact qr [.a 1 (PB _ _ e0 h _ (ia (ae (cW (E:=aZ)) (aB)))),.b 2 c0] <| wk <| qq <| q0 <| qt <| ⟨.inl rfl,cp (.bool false) h (ck (au))⟩
 ·refine qr [.a 1 (PB _ _ e0 h _ (ia (ae (cW (E:=aZ)) (aB)))),.b 2 c0] <| qc H (fun c2 H=>?_) (fun c2 H=>?_)
  ·obtain rfl:=oi H
   exact q1 <| qt <| ⟨.inl rfl,cp (.bool false) h (ck (au))⟩
  ·refine qk <| qq <| qq <| q0 <| qb 0 ?_
   obtain⟨bR,e5,H⟩:=aI H
   refine ql (a6.bP L l0  MK (0:Int) _ _ ⟨h,by kernel_rfl,o⟩ e5) ?_
   rintro e s (⟨rfl,i1,rfl,g4,g5,g6,h3,rfl,o3⟩| ⟨rfl,r1,rfl,Tp⟩)
   ·try dsimp only at H
    obtain rfl:=oi H
    exact q1 <| qt <| ⟨.inl rfl,cp (.bool true) h3 (ck (au))⟩
   ·try dsimp only at H
    obtain rfl:=oi H
    exact⟨.inl rfl,Tp⟩
end
end Go.Proofs.YtmekcfdllhphlaaGreatDoor
namespace Go.Proofs.YtmekcfdllhphlaaGreatDoor
open Go Go.R
open Go.IntKind (i64 u64 u8 u32)
theorem wN {m:Nat}{L:List an}(h12:L.length≤12)(hl:∀t∈L,t.nodes.length≤8000):∀(f i n:Nat) (x),n≤300→i≤L.length→aS.l0 m L f (n:Int) (i:Int)=some (.inr x)→n+((L.drop i).map fun t=>t.nodes.length).sum≤300
 | 0,i,n,x,_,_,H=>by simp [aS.l0] at H
 | f+1,i,n,x,hn,hi,H=>by
  unfold aS.l0 at H
  by_cases h:i<L.length
  ·have hb:=hl _ (Ze h)
   rw [if_pos (by simp only [decide_eq_true_eq]; omega),uT h,Yj,aA (x:=(n:Int)+_) (by omega) (by omega)] at H
   split at H
   ·simp at H
   ·rename_i g
    simp only [decide_eq_true_eq] at g
    simp only [Yk] at H
    obtain⟨o,_,H⟩:=H
    cases o with
    | inl r=>simp at H
    | inr k=>
     dsimp only at H
     rw [aA (x:=(i:Int)+1) (by omega) (by omega),show (i:Int)+1=((i+1:Nat):Int) by omega,show (n:Int)+(L[i].nodes.length:Int)=((n+L[i].nodes.length:Nat):Int) by omega] at H
     have:=wN h12 hl f (i+1) (n+L[i].nodes.length) x (by omega) (by omega) H
     rw [Yz h,YJ,List.sum_cons]; omega
  ·rw [Y3 (by omega)]; simpa using hn
theorem Ao {m:Nat}{x1:an × Int}(hl:x1.1.nodes.length≤8000):∀(f k:Nat),x1.1.nodes.length - k<f→k≤x1.1.nodes.length→
  ∃o,a6.l1 m x1 f (k:Int)=some o∧(o = .inl false∨(∃x,o = .inr x)∧(x1.1.nodes.drop k).any (fun n=>n.kind==4)=false)
 | 0,k,hf,_=>absurd hf (by omega)
 | f+1,k,hf,hk=>by
  unfold a6.l1
  by_cases h:k<x1.1.nodes.length
  ·rw [if_pos (by simp only [decide_eq_true_eq]; omega),uT h,Yj,Yz h,List.any_cons]
   cases hb:x1.1.nodes[k].kind==(4:Int) with
   | true=>exact⟨_,rfl,.inl rfl⟩
   | false=>
    obtain⟨o,k1,k2⟩:=Ao (m:=m) hl f (k+1) (by omega) (by omega)
    rw [if_neg (by simp),aA (by omega) (by omega),show (k:Int)+1=((k+1:Nat):Int) by omega,k1]
    exact⟨o,rfl,by simpa using k2⟩
  ·exact⟨.inr (k:Int),by rw [if_neg (by simp only [decide_eq_true_eq]; omega)],.inr ⟨⟨_,rfl⟩,by rw [Y3 (by omega)]; rfl⟩⟩
theorem Ap {m:Nat}(hm:2 ^ 41≤m){L:List an}(h8:L.length≤8)(h0:∀t∈L,AD t):∀(f i:Nat),L.length - i<f→i≤L.length→
  ∃o,a6.l0 m L f (i:Int)=some o∧(o = .inl false∨(∃x,o = .inr x)∧∀t∈L.drop i,ej t=true∧(lf m t).nodes.any (fun n=>n.kind==4)=false)
 | 0,i,hf,_=>absurd hf (by omega)
 | f+1,i,hf,hi=>by
  have pz:(2:Nat) ^ 41=2199023255552:=by decide
  unfold a6.l0
  by_cases h:i<L.length
  ·have yU:=Ze h
   obtain⟨s,e,k1,k2,k3,k4,k5⟩:=uR hm (h0 _ yU)
   rw [if_pos (by simp only [decide_eq_true_eq]; omega),uT h,Yj,k2,Yj]
   by_cases he:e=0
   ·subst he
    have hv:=k4.1 rfl
    have hs:=(Dt hm hv (h0 _ yU)).ref
    rw [k2] at hs
    have hs:s=lf m L[i]:=by simpa using hs
    have BC:=(k3 rfl).qd
    obtain⟨o,q1,q2⟩:=Ao (m:=m) (x1:=(s,0)) BC m 0 (by dsimp only; omega) (by omega)
    have q1:a6.l1 m (s,0) m 0=_:=q1
    rw [if_neg (by simp),q1,Yj]
    rcases q2 with rfl | ⟨⟨x,rfl⟩,q3⟩
    ·exact⟨_,rfl,.inl rfl⟩
    ·dsimp only
     obtain⟨o,g1,g2⟩:=Ap hm h8 h0 f (i+1) (by omega) (by omega)
     rw [aA (by omega) (by omega),show (i:Int)+1=((i+1:Nat):Int) by omega,g1]
     refine⟨o,rfl,g2.imp id fun g=>⟨g.1,fun t ht=>?_⟩⟩
     rw [Yz h] at ht
     rcases YW.1 ht with rfl | ht
     ·rw [YZ,hs] at q3; exact⟨hv,q3⟩
     ·exact g.2 t ht
   ·rw [if_pos (by simpa using he)]
    exact⟨_,rfl,.inl rfl⟩
  ·exact⟨.inr (i:Int),by rw [if_neg (by simp only [decide_eq_true_eq]; omega)],.inr ⟨⟨_,rfl⟩,by rw [Y3 (by omega)]; simp⟩⟩
theorem EU {m:Nat}(hm:2 ^ 63≤m){L:List an}(hl:∀t∈L,t.nodes.length<2 ^ 63)(h0:∀t∈L,AD t):∃b,a6.f m L=some b∧(b=true→AE m L):=by
 have pz:(2:Nat) ^ 41=2199023255552:=by decide
 have Hj:(2:Nat) ^ 63=9223372036854775808:=by decide
 obtain⟨b,k1,k2⟩:=BZ hm hl
 unfold a6.f
 rw [k1,Yj]
 cases b with
 | true=>exact⟨false,rfl,fun h=>by cases h⟩
 | false=>
  rw [if_neg (by simp)]
  split
  ·exact⟨false,rfl,fun h=>by cases h⟩
  ·rename_i g
   simp only [decide_eq_true_eq] at g
   obtain⟨o,q1,q2⟩:=Ap (m:=m) (by omega) (by omega) h0 m 0 (by omega) (by omega)
   have q1:a6.l0 m L m 0=_:=q1
   rw [q1,Yj]
   rcases q2 with rfl | ⟨⟨x,rfl⟩,q3⟩
   ·exact⟨false,rfl,fun h=>by cases h⟩
   ·refine⟨true,rfl,fun _=>⟨by omega,fun t ht=>⟨(q3 t ht).1,h0 t ht⟩,fun t ht=>(q3 t ht).2,?_⟩⟩
    unfold aS.f at k1
    split at k1
    ·simp at k1
    ·simp only [Yk] at k1
     obtain⟨o,k1,k3⟩:=k1
     cases o with
     | inl r=>
      dsimp only at k3
      simp only [Ym] at k3
      subst k3
      obtain⟨o,z1,z2⟩:=uU hm (k2 rfl) hl m 0 0 (by omega) (by omega)
      have z1:aS.l0 m L m (0:Int) (0:Int)=_:=z1
      rw [k1] at z1
      cases z1
      simp at z2
     | inr x=>
      have:=wN (k2 rfl) (fun t ht=>(jr (q3 t ht).1).1.1) m 0 0 x (by omega) (by omega) k1
      simpa using this
end Go.Proofs.YtmekcfdllhphlaaGreatDoor
namespace Go.R.Crc
def yv:BitVec 32:=0xEDB88320#32
def bit (c:BitVec 32):BitVec 32:=(c >>> 1) ^^^ (yv &&& -(c &&& 1#32))
def bits:Nat→BitVec 32→BitVec 32
 | 0,c=>c
 | n+1,c=>bits n (bit c)
def byte (c:BitVec 32)(x:BitVec 8):BitVec 32:=bits 8 (c ^^^ x.setWidth 32)
def run (c:BitVec 32):List (BitVec 8)→BitVec 32
 | []=>c
 | x::xs=>run (byte c x) xs
def sum (l:List (BitVec 8)):BitVec 32:= ~~~ run (BitVec.allOnes 32) l
theorem ML (c:BitVec 32):bit c=if c.getLsbD 0 then (c >>> 1) ^^^ yv else c >>> 1:=by
 unfold bit
 rw [BitVec.and_one_eq_setWidth_ofBool_getLsbD]
 cases c.getLsbD 0
 ·have:yv &&& -(BitVec.setWidth 32 (BitVec.ofBool false))=0#32:=by decide
  rw [this]; simp
 ·have:yv &&& -(BitVec.setWidth 32 (BitVec.ofBool true))=yv:=by decide
  rw [this]; simp
theorem sO (c:BitVec 32)(i:Nat):(bit c).getLsbD i=(c.getLsbD (i+1) ^^ (c.getLsbD 0&&yv.getLsbD i)):=by
 rw [ML]
 cases h:c.getLsbD 0<;>simp [BitVec.getLsbD_ushiftRight,Nat.add_comm 1 i]
theorem JN {c d:BitVec 32}(h:bit c=bit d):c=d:=by
 have hg:∀i,(bit c).getLsbD i=(bit d).getLsbD i:=fun i=>by rw [h]
 have h0:c.getLsbD 0=d.getLsbD 0:=by
  have:=hg 31
  rw [sO,sO] at this
  have hp:yv.getLsbD 31=true:=by decide
  rw [hp] at this
  have h1:c.getLsbD (31+1)=false:=BitVec.getLsbD_of_ge c 32 (by omega)
  have h2:d.getLsbD (31+1)=false:=BitVec.getLsbD_of_ge d 32 (by omega)
  rw [h1,h2] at this
  simpa using this
 apply BitVec.eq_of_getLsbD_eq
 intro i hi
 cases i with
 | zero=>exact h0
 | succ i=>
  have:=hg i
  rw [sO,sO,h0] at this
  revert this
  cases c.getLsbD (i+1)<;>cases d.getLsbD (i+1)<;>cases (d.getLsbD 0&&yv.getLsbD i)<;>simp
theorem uV:∀(n:Nat) {c d:BitVec 32},bits n c=bits n d→c=d
 | 0,_,_,h=>h
 | n+1,_,_,h=>JN (uV n h)
theorem xor_right_inj {a b c:BitVec 32}(h:a ^^^ c=b ^^^ c):a=b:=by
 have:(a ^^^ c) ^^^ c=(b ^^^ c) ^^^ c:=by rw [h]
 simpa [BitVec.xor_assoc] using this
theorem xor_left_inj {a b c:BitVec 32}(h:c ^^^ a=c ^^^ b):a=b:=by
 rw [BitVec.xor_comm c a,BitVec.xor_comm c b] at h; exact xor_right_inj h
theorem Ib {c d:BitVec 32}{x:BitVec 8}(h:byte c x=byte d x):c=d:=xor_right_inj (uV 8 h)
theorem uW {c:BitVec 32}{x y:BitVec 8}(h:byte c x=byte c y):x=y:=by
 have:=xor_left_inj (uV 8 h)
 have h2:=congrArg (BitVec.setWidth 8) this
 simpa using h2
theorem Dv:∀(l:List (BitVec 8)) {c d:BitVec 32},run c l=run d l→c=d
 | [],_,_,h=>h
 | _::xs,_,_,h=>Ib (Dv xs h)
theorem oE:∀(l m:List (BitVec 8)) (c:BitVec 32),run c (l++m)=run (run c l) m
 | [],_,_=>rfl
 | _::xs,m,c=>oE xs m _
theorem B0 {l:List (BitVec 8)}{i:Nat}(hi:i<l.length){y:BitVec 8}(hy:l[i]≠y):sum (l.set i y)≠sum l:=by
 intro h
 have h1:run (BitVec.allOnes 32) (l.set i y)=run (BitVec.allOnes 32) l:=by
  have:=congrArg (~~~ ·) h
  simpa [sum] using this
 have h2:l=l.take i++l[i]::l.drop (i+1):=by
  rw [List.getElem_cons_drop]; simp
 have h3:l.set i y=l.take i++y::l.drop (i+1):=by
  rw [List.set_eq_take_append_cons_drop,if_pos hi]
 rw [h3,oE,run] at h1
 rw [h2] at h1
 simp only [oE,run] at h1
 have h4:(l.take i++l[i]::l.drop (i+1)).take i=l.take i:=by rw [←h2]
 have h5:(l.take i++l[i]::l.drop (i+1)).drop (i+1)=l.drop (i+1):=by rw [←h2]
 try rw [h4,h5] at h1
 exact hy (uW (Dv _ h1)).symm
end Go.R.Crc
