/- Part of the proof: PB11, PU3, PD1, PD2, PD3, PD4, PD5, PD6, QN. -/
import Derived.Test.YtifafejidnjckaaGreatK15
set_option linter.unusedVariables false
set_option linter.unusedSimpArgs false
set_option maxRecDepth 100000
open Bool renaming and_eq_true → ae3, false_eq_true → afa, true_and → afP, or_eq_true → afR, not_true → afT, not_eq_true' → agk
open ByteArray renaming mk → afC
open Int renaming toNat_natCast → ae7, natCast_nonneg → af5
open List renaming getElem?_eq_some_iff → ae5, getElem?_eq_getElem → ae8, length_append → afb, length_cons → afc, mem_singleton → afd, drop_eq_getElem_cons → afe, getElem?_append_right → afg, replicate → afh, length_nil → afi, mem_of_getElem? → afj, mem_append → afk, length_map → afl, getElem?_append_left → afm, append_assoc → afn, map_append → afo, getElem?_eq_none → afp, mem_cons → afq, all_eq_true → afr, map_cons → afs, mem_map → afu, getElem?_map → afv, drop_zero → afw, take_append_of_le_length → afy, nil_append → afz, take_of_length_le → afA, mem_append_left → afE, cons_append → afF, eq_nil_of_length_eq_zero → afG, getElem?_cons_zero → afK, take_succ_eq_append_getElem → afM, length_take → afO, take_length → afS, length_replicate → afW, drop_eq_nil_of_le → afY, append_nil → afZ, ext_getElem? → af0, getElem?_cons_succ → af1, getElem?_of_mem → af4, range → af7, set_append_right → agf, drop_append_of_le_length → agh, mem_range → agi, mem_cons_of_mem → agj, mem_filter → agp, map_congr_left → agr, map_nil → agt, length_range → agE, getElem?_range → agG
open Nat renaming le_refl → ae4, zero_add → aft, lt_succ_self → afL, zero_le → afU, sub_self → aga, le_succ → agb, add_zero → agz, mul_one → agI
open Option renaming bind_some → aeZ, map_eq_some_iff → ae1, map_some → ae6
open Option.some renaming injEq → ae2, inj → afB
namespace Go.Proofs.YtifafejidnjckaaGreat
open Go Go.R
open Go.IntKind (i64 u64 u8 u32)
inductive Way (l:List ai):Nat→Nat→Prop
 | one {i k:Nat}:k<na l i→Way l i (ar l i k)
 | more {i j k:Nat}:Way l i j→k<na l j→Way l i (ar l j k)
theorem Pb {l:List ai}{c od:List Int}(ok:nH l)(M:Sx l c od){i j:Nat}(w:Way l i j)(hi:i<l.length):j<l.length∧∀x:Nat,x<l.length→(x:Int)∈od→gt c x=gt c i→∃y:Nat,y<l.length∧gt c y=gt c j∧(y:Int)∈od∧od.idxOf (y:Int)<od.idxOf (x:Int):=by
 induction w with
 | @one k hk=>
  refine⟨(nq ok hi hk).1,fun x hx VO e=>?_⟩
  have hA:=M.min.top i x hi hx e.symm
  have hkx:k<na l x:=by have:=hA.len; unfold na at *; omega
  obtain⟨r1,r2⟩:=M.zQ x VO k hkx
  exact⟨ar l x k,(nq ok hx hkx).1,(M.min.arg i x hi hx e.symm k hk).symm,r1,r2⟩
 | @more j k w hk ih=>
  obtain⟨hj,ih⟩:=ih
  refine⟨(nq ok hj hk).1,fun x hx VO e=>?_⟩
  obtain⟨y,hy,ey,Zq,hlt⟩:=ih x hx VO e
  have hA:=M.min.top j y hj hy ey.symm
  have hky:k<na l y:=by have:=hA.len; unfold na at *; omega
  obtain⟨r1,r2⟩:=M.zQ y Zq k hky
  exact⟨ar l y k,(nq ok hy hky).1,(M.min.arg j y hj hy ey.symm k hk).symm,r1,om⟩
theorem Gn {l:List ai}{c od:List Int}(ok:nH l)(M:Sx l c od)(h0:0<l.length)(hw:∀j,0<j→j<l.length→Way l 0 j):gt c 0=0:=by
 obtain⟨r1,r2,r3⟩:=M.uh 0 h0
 by_cases hod:((0:Nat):Int)∈od
 ·by_cases hz:gt c 0=0
  ·exact hz
  ·exfalso
   have w:=hw (gt c 0).toNat om om
   have key:∀N x:Nat,od.idxOf (x:Int)<N→x<l.length→(x:Int)∈od→gt c x=gt c 0→False:=by
    intro N
    induction N with
    | zero=>intro x h; omega
    | succ N ih=>
     intro x hN hx VO e
     obtain⟨y,hy,ey,Zq,hlt⟩:=(Pb ok M w h0).2 x hx VO e
     exact ih y om hy Zq (by rw [ey,r3])
   exact key _ 0 (afL _) h0 hod rfl
 ·have:=M.big 0 h0 hod
  omega
theorem lock {l P5:List ai}{κ1:Int→Int}{K2:Int→Int}{Can:Int→Prop}(Zr:∀v w,Can v→Can w→K2 v=K2 w→v=w)
  (hargs:∀a v:Int,0≤a→a<l.length→Can v→κ1 a=K2 v→(nd l a).args.map κ1=(nd P5 v).args.map K2) (Zs:∀v,Can v→∀a∈(nd P5 v).args,Can a) (ok:nH l) {lj o2 o2':List Int}
  (h:zP id (fun v=>(nd P5 v).args) lj o2 o2'):∀rS o1:List Int,rS.map κ1=lj.map K2→o1.map κ1=o2.map K2→(∀b∈lj,Can b)→(∀b∈o2,Can b)→(∀a∈rS,0≤a∧a<l.length)→
  ∃Tt,zP κ1 (fun v=>(nd l v).args) rS o1 Tt∧Tt.map κ1=o2'.map K2:=by
 induction h with
 | nil o=>
  intro rS o1 hs ho _ _ _
  have:rS=[]:=by simpa using hs
  subst this
  exact⟨o1,.nil o1,ho⟩
 | @skip v st o o' hm _ ih=>
  intro rS o1 hs ho c1 c2 hr
  cases rS with
  | nil=>simp at hs
  | cons a rS=>
   simp only [afs,List.cons.injEq] at hs
   obtain⟨Tt,k1,k2⟩:=ih rS o1 hs.2 ho (fun b hb=>c1 b (by simp [hb])) c2 (fun x hx=>hr x (by simp [hx]))
   refine⟨Tt,.skip ?_ k1,k2⟩
   rw [hs.1,ho]
   exact afu.2 ⟨v,by simpa using hm,rfl⟩
 | @push v st o o' hn _ ih=>
  intro rS o1 hs ho c1 c2 hr
  cases rS with
  | nil=>simp at hs
  | cons a rS=>
   simp only [afs,List.cons.injEq] at hs
   have hv:=c1 v (by simp)
   have ha:=hr a (by simp)
   have e:=hargs a v ha.1 ha.2 hv hs.1
   obtain⟨Tt,k1,k2⟩:=ih ((nd l a).args++rS) (o1++[a]) (by rw [afo,afo,e,hs.2]) (by rw [afo,afo,ho]; simp [hs.1]) (fun b hb=>by
    rcases afk.1 hb with hb | hb
    ·exact Zs v hv b hb
    ·exact c1 b (by simp [hb])) (fun b hb=>by
    rcases afk.1 hb with hb | hb
    ·exact c2 b hb
    ·rw [afd] at hb; subst hb; exact hv) (fun x hx=>by
    rcases afk.1 hx with hx | hx
    ·exact (ok.2 _ (jd ha.1 ha.2)).2 x hx
    ·exact hr x (by simp [hx]))
   refine⟨Tt,.push ?_ k1,k2⟩
   rw [hs.1,ho]
   intro hm
   obtain⟨w,w1,w2⟩:=afu.1 hm
   have:=Zr v w hv (c2 w w1) w2.symm
   subst this
   exact hn (by simpa using w1)
theorem Nk {m:Nat}(hm:2 ^ 41≤m){t:bm}(h:jw t=true):∃s,gV.f m t=some s∧aD.f m t.nodes t.root=some s:=by
 have vX:(2:Nat) ^ 30=1073741824:=by decide
 have zN:(2:Nat) ^ 41=2199023255552:=by decide
 have JE:2 ^ 30≤m:=by omega
 obtain⟨ok,h1,r0,r1,hT⟩:=rD h
 obtain⟨r,ns,e1,M,Q,_⟩:=zc hm h
 have h8:=ok.1
 generalize hl:t.nodes=l at *
 have Zt:zP (jg r) (fun v=>(nd l v).args) [t.root] [] (y9 r l m t.root []):=CC ok m t.root [] [] _ r0 r1 ⟨by simp,fun x hx=>by cases hx⟩ (by simp; omega) (.nil _)
 obtain⟨S,s1,s2⟩:=tX JE ok r0 r1
 have hA:∀v:Int,0≤v→v<l.length→∀a∈(nd l v).args,0≤a∧a<l.length:=fun v a b=>(ok.2 _ (jd a b)).2
 obtain⟨_,Sr,Sn,_,Sc⟩:=s2.facts hA (fun v hv=>by rw [afd] at hv; subst hv; exact⟨r0,r1⟩) (fun v hv=>by cases hv) (by simp)
 rw [List.map_id] at Sn
 have Sc:∀v∈S,∀a∈(nd l v).args,a∈S:=fun v hv a ha=>by have:=Sc (fun v hv=>by cases hv) v hv a ha; simpa using this
 have S0:∃T,S=t.root::T:=by
  cases s2 with
  | skip GR _=>simp at GR
  | push _ k=>
   obtain⟨⟨T,e⟩,_⟩:=k.facts hA (fun v hv=>by
    rcases afk.1 hv with hv | hv
    ·exact hA _ r0 r1 v hv
    ·cases hv) (fun v hv=>by simp at hv; subst hv; exact⟨r0,r1⟩) (by simp)
   exact⟨T,by simpa using e⟩
 have Sl:S.length≤l.length:=tW Sn Sr
 have Sp:0<S.length:=by obtain⟨T,rfl⟩:=S0; simp
 have Qe:gt S 0=t.root:=by obtain⟨T,rfl⟩:=S0; rfl
 have VP:=s2.from (root:=t.root) (fun v hv=>by rw [afd] at hv; exact .inl hv) (fun i hi=>absurd hi (by simp))
 have e0:sr 8 (l.length:Int) (0:Int)=some (afh l.length 0):=by unfold sr; rw [if_pos ⟨om,by rw [ae7]; omega⟩,ae7]
 obtain⟨pl,x1,p1,p2,p3⟩:=EE (m:=m) Sn om m 0 (afh l.length 0) om om (by simpa using Sr) (fun q hq=>absurd hq om)
 rw [afW] at p2
 have p1:aD.l0 m S m (afh l.length 0) 0=_:=p1
 obtain⟨x2,p4⟩:=Iu JE ok Sr om p2 m 0 om om
 have p4:aD.l1 m l S pl m [] 0=_:=p4
 generalize Zu:(S.map fun s=>pm pl (nd l s))=P1 at p4
 have Wu:P1.length=S.length:=by rw [←Zu]; simp
 have Qf:∀i:Nat,i<S.length→nd P1 i=pm pl (nd l (gt S i)):=fun i hi=>by rw [←Zu,Pa hi]
 have Wv:∀{x:Int},x∈S→gt S (gt pl x.toNat).toNat=x∧0≤gt pl x.toNat∧gt pl x.toNat<S.length:=fun hx=>by
  obtain⟨q,hq,e⟩:=hZ hx
  have:=p3 q hq
  rw [e] at this
  rw [this,ae7]; exact⟨e,om,om⟩
 have Zv:∀i:Nat,i<S.length→∀a∈(nd l (gt S i)).args,a∈S:=fun i hi=>Sc _ (bh hi)
 have Pc:nH P1:=by
  refine⟨om,fun n hn=>?_⟩
  rw [←Zu] at hn
  obtain⟨s,hs,rfl⟩:=afu.1 hn
  have hr:=Sr s hs
  refine⟨by simpa [pm] using (ok.2 _ (jd hr.1 hr.2)).1,fun a ha=>?_⟩
  obtain⟨x,hx,rfl⟩:=afu.1 ha
  have:=Wv (Sc s hs x hx)
  rw [Wu]; exact this.2
 obtain⟨c,od,c1,C⟩:=ED JE Pc
 have cl:c.length=P1.length:=C.min.len
 have Zw:∀i:Nat,i<S.length→na P1 i=na l (gt S i).toNat:=fun i hi=>by
  have:=Sr _ (bh hi)
  unfold na
  rw [Qf i hi]
  show ((nd l (gt S i)).args.map _).length=_
  rw [afl,show (((gt S i).toNat:Nat):Int)=gt S i by omega]
 have VQ:∀i:Nat,i<S.length→∀k,k<na P1 i→gt S (ar P1 i k)=gt (nd l (gt S i)).args k:=fun i hi k hk=>by
  have uu:k<(nd l (gt S i)).args.length:=by
   have:=hk; unfold na at this; rw [Qf i hi] at this; simpa [pm] using this
  have hx:=Zv i hi _ (bh uu)
  have:gt (nd P1 i).args k=gt pl (gt (nd l (gt S i)).args k).toNat:=by
   rw [Qf i hi]
   have h1:=bZ (l:=(pm pl (nd l (gt S i))).args) (k:=k) (by simpa [pm] using uu)
   have h2:(pm pl (nd l (gt S i))).args[k]? = some (gt pl (gt (nd l (gt S i)).args k).toNat):=by
    show ((nd l (gt S i)).args.map _)[k]? = _
    rw [afv,bZ uu]; rfl
   rw [h2] at h1; exact (afB h1).symm
  unfold ar
  rw [this]
  exact (Wv hx).1
 have way:∀j,0<j→j<P1.length→Way P1 0 j:=by
  have:∀N j,j<N→0<j→j<P1.length→Way P1 0 j:=by
   intro N
   induction N with
   | zero=>intro j h; omega
   | succ N ih=>
    intro j hN hj hjl
    rcases VP j om with e | ⟨q,hq,GR⟩
    ·have:=y8 Sn om Sp (e.trans Qe.symm)
     omega
    ·obtain⟨k,hk,e⟩:=hZ GR
     have Kk:k<na P1 q:=by unfold na; rw [Qf q om]; simpa [pm] using hk
     have h2:=VQ q om k Kk
     rw [e] at h2
     have h3:=(nq Pc (i:=q) om Kk).1
     have e4:ar P1 q k=j:=y8 Sn om om h2
     rw [←e4]
     by_cases hq0:q=0
     ·subst hq0; exact .one Kk
     ·exact .more (ih q om om om) Kk
  exact fun j=>this (j+1) j (afL _)
 have c00:gt c 0=0:=Gn Pc C om way
 have EG:∀i:Nat,i<S.length→(((gt S i).toNat:Nat):Int)=gt S i∧(gt S i).toNat<l.length:=fun i hi=>by have:=Sr _ (bh hi); omega
 have al1:∀i j:Nat,i<S.length→j<S.length→(Alike (nd P1 i) (nd P1 j)↔Alike (nd l (gt S i)) (nd l (gt S j))):=fun i j hi hj=>by
  rw [Qf i hi,Qf j hj]
  constructor
  ·intro z; exact⟨z.kind,z.int,z.label,by have:=z.len; simpa [pm] using this⟩
  ·intro z; exact⟨z.kind,z.int,z.label,by have:=z.len; simpa [pm] using this⟩
 have cr:∀i j:Nat,i<S.length→j<S.length→(gt c i=gt c j↔gt r (gt S i).toNat=gt r (gt S j).toNat):=fun i j hi hj=>by
  constructor
  ·intro e
   refine M.max (fun a b=>∃i j:Nat,i<S.length∧j<S.length∧a=(gt S i).toNat∧b=(gt S j).toNat∧gt c i=gt c j) ⟨?_,?_,?_⟩ _ _ ⟨i,j,hi,hj,rfl,rfl,e⟩
   ·rintro a b ⟨i,j,hi,hj,rfl,rfl,_⟩
    exact⟨(EG i hi).2,(EG j hj).2⟩
   ·rintro a b ⟨i,j,hi,hj,rfl,rfl,e⟩
    rw [(EG i hi).1,(EG j hj).1]
    exact (al1 i j hi hj).1 (C.min.top i j om om e)
   ·rintro a b ⟨i,j,hi,hj,rfl,rfl,e⟩ k hk
    rw [(EG i hi).1] at hk ⊢
    rw [(EG j hj).1]
    have w8:k<na P1 i:=by rw [Zw i hi]; unfold na; rw [(EG i hi).1]; exact hk
    have Tm:k<na P1 j:=by have:=(C.min.top i j om om e).len; unfold na at *; omega
    have a1:=(nq Pc (i:=i) om w8).1
    have a2:=(nq Pc (i:=j) om Tm).1
    refine⟨ar P1 i k,ar P1 j k,om,om,?_,?_,C.min.arg i j om om e k w8⟩
    ·rw [VQ i hi k w8]
    ·rw [VQ j hj k Tm]
  ·intro e
   refine C.min.max (fun a b=>a<S.length∧b<S.length∧gt r (gt S a).toNat=gt r (gt S b).toNat) ⟨?_,?_,?_⟩ i j ⟨hi,hj,e⟩
   ·rintro a b ⟨h1,h2,_⟩; omega
   ·rintro a b ⟨h1,h2,e⟩
    refine (al1 a b h1 h2).2 ?_
    have:=M.top _ _ (EG a h1).2 (EG b h2).2 e
    rwa [(EG a h1).1,(EG b h2).1] at this
   ·rintro a b ⟨h1,h2,e⟩ k hk
    have hA:=M.top _ _ (EG a h1).2 (EG b h2).2 e
    have Oo:k<na P1 a:=hk
    have NR:k<(nd l (((gt S a).toNat:Nat):Int)).args.length:=by have:=Zw a h1; unfold na at this Oo; omega
    have hkb:k<na P1 b:=by rw [Zw b h2]; have:=hA.len; unfold na; omega
    have g:=M.arg _ _ (EG a h1).2 (EG b h2).2 e k NR
    rw [(EG a h1).1,(EG b h2).1] at g
    have a1:=(nq Pc (i:=a) om Oo).1
    have a2:=(nq Pc (i:=b) om hkb).1
    refine⟨by show ar P1 a k<_; omega,by show ar P1 b k<_; omega,?_⟩
    show gt r (gt S (ar P1 a k)).toNat=gt r (gt S (ar P1 b k)).toNat
    rw [VQ a h1 k Oo,VQ b h2 k hkb]; exact g
 obtain⟨x3,p5⟩:=Iw JE Pc cl m 0 P1 om om rfl (fun q hq=>by rw [if_neg om])
 have p5:aD.l3 m c m P1 0=_:=p5
 have P5n:∀i:Nat,i<S.length→nd (P1.map (pm c)) i=pm c (nd P1 i):=fun i hi=>Ng om
 have SB:∀i:Nat,i<S.length→0≤gt c i∧gt c i<S.length∧gt c (gt c i).toNat=gt c i:=fun i hi=>by have:=C.uh i om; rw [Wu] at this; exact this
 have Zx:nH (P1.map (pm c)):=by
  refine⟨by simp; omega,fun n hn=>?_⟩
  obtain⟨n1,PE,rfl⟩:=afu.1 hn
  obtain⟨q1,q2⟩:=Pc.2 n1 PE
  refine⟨by simpa [pm] using q1,fun a ha=>?_⟩
  obtain⟨x,hx,rfl⟩:=afu.1 ha
  have:=q2 x hx
  have:=SB x.toNat om
  rw [afl,Wu]; omega
 obtain⟨T,t1,t2⟩:=tX JE Zx (root:=0) om (by simp; omega)
 generalize hP5:P1.map (pm c)=P5 at *
 have P5l:P5.length=S.length:=by rw [←hP5]; simp [Wu]
 have hA5:∀v:Int,0≤v→v<P5.length→∀a∈(nd P5 v).args,0≤a∧a<P5.length:=fun v a b=>(Zx.2 _ (jd a b)).2
 obtain⟨_,Tr,Tn,_,Tc⟩:=t2.facts hA5 (fun v hv=>by rw [afd] at hv; subst hv; omega) (fun v hv=>by cases hv) (by simp)
 rw [List.map_id] at Tn
 have Tc:∀v∈T,∀a∈(nd P5 v).args,a∈T:=fun v hv a ha=>by have:=Tc (fun v hv=>by cases hv) v hv a ha; simpa using this
 have Tl:T.length≤P5.length:=tW Tn Tr
 obtain⟨Zy,x4,p6,p7,p8⟩:=EF (m:=m) Tn om m 0 pl om om (fun s hs=>by have:=Tr s hs; omega) (fun q hq=>absurd hq om)
 have p6:aD.l5 m T m pl 0=_:=p6
 obtain⟨x5,p9⟩:=Nj (m:=m) JE Zx Tr om (pl:=Zy) om m 0 om om
 have p9:aD.l6 m P5 T Zy m 0 [] 0=_:=p9
 let K2:Int→Int:=fun b=>jg r (gt S b.toNat)
 let Can:Int→Prop:=fun b=>0≤b∧b<S.length∧gt c b.toNat=b
 have K2c:∀x:Int,x∈S→K2 (gt c (gt pl x.toNat).toNat)=jg r x:=fun x hx=>by
  obtain⟨i1,i2,i3⟩:=Wv hx
  obtain⟨g1,g2,g3⟩:=SB (gt pl x.toNat).toNat om
  show jg r (gt S (gt c (gt pl x.toNat).toNat).toNat)=_
  have:=(cr (gt c (gt pl x.toNat).toNat).toNat (gt pl x.toNat).toNat om om).1 g3
  unfold jg
  rw [this,i1]
 have Ix:∀v:Int,0≤v→v<S.length→(nd P5 v).args=(nd l (gt S v.toNat)).args.map fun x=>gt c (gt pl x.toNat).toNat:=fun v v0 v1=>by
  have:=P5n v.toNat om
  rw [show ((v.toNat:Nat):Int)=v by omega] at this
  rw [this]
  have h2:=Qf v.toNat om
  rw [show ((v.toNat:Nat):Int)=v by omega] at h2
  rw [h2]
  show ((nd l (gt S v.toNat)).args.map _).map _=_
  rw [List.map_map]; rfl
 have same:∀a b:Int,0≤a→a<l.length→0≤b→b<l.length→jg r a=jg r b→Alike (nd l a) (nd l b)∧(nd l a).args.map (jg r)=(nd l b).args.map (jg r):=fun a b a0 a1 b0 b1 e=>by
  have ea:((a.toNat:Nat):Int)=a:=by omega
  have eb:((b.toNat:Nat):Int)=b:=by omega
  have e:gt r a.toNat=gt r b.toNat:=e
  have hA:=M.top a.toNat b.toNat om om e
  have hg:=M.arg a.toNat b.toNat om om e
  rw [ea,eb] at hA hg
  refine⟨hA,af0 fun k=>?_⟩
  simp only [afv]
  by_cases hk:k<(nd l a).args.length
  ·rw [bZ hk,bZ (by have:=hA.len; omega)]
   simp only [ae6,ae2]
   exact hg k hk
  ·rw [afp om,afp (by have:=hA.len; omega)]
 obtain⟨o1,q1,q2⟩:=lock (l:=l) (P5:=P5) (κ1:=jg r) (K2:=K2) (Can:=Can) (fun v w hv hw e=>by
   have:=(cr v.toNat w.toNat (by have:=hv.1; have:=hv.2.1; omega) (by have:=hw.1; have:=hw.2.1; omega)).2 e
   rw [hv.2.2,hw.2.2] at this; exact this) (fun a v a0 a1 hv e=>by
   have hS:=bh (l:=S) (k:=v.toNat) (by have:=hv.1; have:=hv.2.1; omega)
   have hr:=Sr _ hS
   rw [(same a _ a0 a1 hr.1 hr.2 e).2,Ix v hv.1 hv.2.1,List.map_map]
   refine agr fun x hx=>?_
   exact (K2c x (Sc _ hS x hx)).symm) (fun v hv a ha=>by
   rw [Ix v hv.1 hv.2.1] at ha
   obtain⟨x,hx,rfl⟩:=afu.1 ha
   have hS:=bh (l:=S) (k:=v.toNat) (by have:=hv.1; have:=hv.2.1; omega)
   have:=Wv (Sc _ hS x hx)
   exact SB (gt pl x.toNat).toNat om) ok t2 [t.root] [] (by
   show [jg r t.root]=[jg r (gt S 0)]; rw [Qe]) rfl (fun b hb=>by
   rw [afd] at hb; subst hb
   exact⟨om,om,c00⟩) (fun b hb=>by cases hb) (fun a ha=>by rw [afd] at ha; subst ha; exact⟨r0,r1⟩)
 have eo:=q1.det Zt
 rw [eo] at q2
 generalize hO:y9 r l m t.root []=O at *
 have OT:O.length=T.length:=by have:=congrArg List.length q2; simpa using this
 have OK:∀k,k<T.length→jg r (gt O k)=K2 (gt T k):=fun k hk=>by
  have:=congrArg (fun z=>z[k]?) q2
  simp only [afv] at this
  rw [bZ om,bZ hk] at this
  simpa using this
 have hns:ns=T.map fun v=>pm Zy (nd P5 v):=by
  have hlen:=Q.len
  apply af0 fun k=>?_
  by_cases hk:k<T.length
  ·rw [Q.new k (by simp) om,afv,bZ hk]
   simp only [ae6,ae2]
   have hOr:=Q.vs.Cu _ (bh (l:=O) (k:=k) om)
   have hTr:=Tr _ (bh hk)
   have hS:=bh (l:=S) (k:=(gt T k).toNat) om
   have hSr:=Sr _ hS
   obtain⟨hA,hM⟩:=same _ _ hOr.1 hOr.2 hSr.1 hSr.2 (OK k hk)
   have SC:(nd P5 (gt T k)).kind=(nd l (gt S (gt T k).toNat)).kind∧(nd P5 (gt T k)).int=(nd l (gt S (gt T k).toNat)).int∧(nd P5 (gt T k)).label=(nd l (gt S (gt T k).toNat)).label:=by
    have:=P5n (gt T k).toNat om
    rw [show (((gt T k).toNat:Nat):Int)=gt T k by omega] at this
    rw [this]
    have h2:=Qf (gt T k).toNat om
    rw [show (((gt T k).toNat:Nat):Int)=gt T k by omega] at h2
    rw [h2]
    exact⟨rfl,rfl,rfl⟩
   unfold Cy pm
   rw [hA.kind,hA.int,hA.label,SC.1,SC.2.1,SC.2.2]
   congr 1
   rw [Ix _ hTr.1 om,List.map_map]
   apply af0 fun j=>?_
   simp only [afv]
   by_cases hj:j<(nd l (gt O k)).args.length
   ·have Fv:j<(nd l (gt S (gt T k).toNat)).args.length:=by have:=hA.len; omega
    rw [bZ hj,bZ Fv]
    simp only [ae6,ae2,Function.comp]
    have ex:jg r (gt (nd l (gt O k)).args j)=jg r (gt (nd l (gt S (gt T k).toNat)).args j):=by
     have:=congrArg (fun z=>z[j]?) hM
     simp only [afv] at this
     rw [bZ hj,bZ Fv] at this
     simpa using this
    have hin:gt c (gt pl (gt (nd l (gt S (gt T k).toNat)).args j).toNat).toNat∈T:=by
     refine Tc _ (bh hk) _ ?_
     rw [Ix _ hTr.1 om]
     exact afu.2 ⟨_,bh Fv,rfl⟩
    obtain⟨q,hq,eq⟩:=hZ hin
    have hp8:=p8 q hq
    rw [eq] at hp8
    rw [hp8]
    unfold idx
    have J2:=Q.vs.NL
    have hget:(O.map (jg r))[q]? = some (jg r (gt (nd l (gt O k)).args j)):=by
     rw [afv,bZ om]
     simp only [ae6,ae2]
     rw [OK q hq,eq,K2c _ (Sc _ hS _ (bh Fv)),ex]
    obtain⟨g1,g2⟩:=ae5.1 hget
    rw [←g2,J2.idxOf_getElem]
   ·rw [afp om,afp (by have:=hA.len; omega)]
    rfl
  ·rw [afp om,afp (by simp; omega)]
 refine⟨⟨ns,0⟩,e1,?_⟩
 unfold aD.f
 rw [s1,aeZ,e0,aeZ,p1,aeZ]
 dsimp only
 rw [p4,aeZ]
 dsimp only
 rw [c1,aeZ,p5,aeZ]
 dsimp only
 rw [t1,aeZ,p6,aeZ]
 dsimp only
 rw [p9,aeZ,hns]
end Go.Proofs.YtifafejidnjckaaGreat
namespace Go.Proofs.YtifafejidnjckaaGreat
open Go Go.R Go.Uf
open Go.IntKind (i64 u64 u8 u32)
structure lg (s:ab)(t:aj):Prop where
 made:t.aK=true
 nodes:t.ah=s.aa
 bo:t.au=gx s
section
variable {m:Nat}{s:ab}{t:aj}
theorem lg.has (M:lg s t)(n:Int):dy.f m t n=some (decide (Rg s.aa.length n)):=by
 unfold dy.f
 rw [M.nodes]
 by_cases h:0≤n
 ·rw [if_pos (by simpa using h)]
  congr 1
  unfold Rg
  by_cases h2:n<s.aa.length<;>simp [h,h2]
 ·rw [if_neg (by simpa using h)]
  congr 1
  unfold Rg
  simp [h]
theorem lg.tZ (M:lg s t):cN.f m t=some true:=by
 unfold cN.f; rw [M.made]
theorem Pd (M:lg s t):fc.f m t=some (s.aa.length:Int):=by
 unfold fc.f
 rw [M.tZ,aeZ,if_neg (by decide),M.nodes]
end
end Go.Proofs.YtifafejidnjckaaGreat
namespace Go.Uf
open Go Go.R
open Go.IntKind (i64 u64 u8 u32)
theorem AO:∀{a b:List Int},a.Pairwise (· < ·)→b.Pairwise (· < ·)→(∀x,x∈a↔x∈b)→a=b
 | [],[],_,_,_=>rfl
 | [],y::b,_,_,h=>by have:=(h y).2 (by simp); cases this
 | x::a,[],_,_,h=>by have:=(h x).1 (by simp); cases this
 | x::a,y::b,ha,hb,h=>by
  rw [List.pairwise_cons] at ha hb
  have e:x=y:=by
   rcases afq.1 ((h x).1 (by simp)) with e | h1
   ·exact e
   ·rcases afq.1 ((h y).2 (by simp)) with e | h2
    ·exact e.symm
    ·have:=hb.1 x h1; have:=ha.1 y h2; omega
  subst e
  rw [AO ha.2 hb.2 fun z=>?_]
  have:=h z
  simp only [afq] at this
  constructor
  ·intro hz
   rcases this.1 (.inr hz) with e | h'
   ·have:=ha.1 z hz; omega
   ·exact h'
  ·intro hz
   rcases this.2 (.inr hz) with e | h'
   ·have:=hb.1 z hz; omega
   ·exact h'
theorem JF {l:List Int}{x:Int}:x∈kG l↔x∈l:=by unfold kG; exact List.mem_mergeSort
theorem CI {l:List Int}(h:l.Nodup):(kG l).Pairwise (· < ·):=by
 have h1:(kG l).Pairwise (fun x y=>(decide (x≤y))=true):=by
  unfold kG
  exact List.pairwise_mergeSort (fun a b c h1 h2=>by simp only [decide_eq_true_eq] at *; omega) (fun a b=>by simp only [afR,decide_eq_true_eq]; omega) l
 have h2:(kG l).Nodup:=by
  unfold kG
  exact (List.mergeSort_perm l _).nodup_iff.2 h
 unfold List.Nodup at h2
 exact (h1.and h2).imp fun ⟨a,b⟩=>by simp only [decide_eq_true_eq] at a; omega
end Go.Uf
namespace Go.Proofs.YtifafejidnjckaaGreat
open Go Go.R Go.Uf
open Go.IntKind (i64 u64 u8 u32)
section
variable {m:Nat}{s:ab}{t:aj}{r:Int}
def JG (i:Nat)(n:ai):ai:=⟨n.kind,if n.kind=0 then (i:Int) else n.int,n.label,n.args⟩
def kz:Nat→List ai→List ai
 | _,[]=>[]
 | i,n::l=>JG i n::kz (i+1) l
theorem EH:∀(l k:List ai) (i:Nat),kz i (l++k)=kz i l++kz (i+l.length) k
 | [],k,i=>by simp [kz]
 | n::l,k,i=>by
  simp only [afF,kz,EH l k (i+1),afc]
  rw [show i+1+l.length=i+(l.length+1) by omega]
theorem ub:∀(l:List ai) (i:Nat),(kz i l).length=l.length
 | [],i=>rfl
 | n::l,i=>by simp only [kz,afc,ub l (i+1)]
theorem EI:∀(l:List ai) (i j:Nat),(kz i l)[j]? = l[j]?.map (JG (i+j))
 | [],i,j=>by simp [kz]
 | n::l,i,0=>by simp [kz]
 | n::l,i,j+1=>by
  simp only [kz,af1,EI l (i+1) j]
  rw [show i+1+j=i+(j+1) by omega]
def JH (l:List ai):ab:=⟨true,kz 0 l,dS 0 l.length⟩
def EJ (l:List ai):aj:=⟨kz 0 l,dS 0 l.length,true⟩
theorem Qg {l:List ai}{i:Nat}{x:ai}(h:l[i]? = some x):kz 0 (l.take (i+1))=kz 0 (l.take i)++[JG i x]:=by
 obtain⟨hi,he⟩:=ae5.1 h
 have et:l.take (i+1)=l.take i++[l[i]]:=afM hi
 rw [et,EH,he]
 simp only [kz,afO]
 rw [show 0+min i l.length=i by omega]
theorem ze (hm:16000≤m){l:List ai}(hl:l.length≤8000)(ha:∀n∈l,n.args.length≤8):∀(k i:Nat),i≤l.length→l.length - i<k→bu.l0 m l k (i:Int) ⟨true,kz 0 (l.take i),dS 0 i⟩=some ((l.length:Int),JH l)∧bu.l1 m l k (i:Int) ⟨true,kz 0 (l.take i),dS 0 i⟩=some ((l.length:Int),JH l)
 | 0,i,h1,h2=>by omega
 | k+1,i,h1,h2=>by
  simp only [bu.l0,bu.l1]
  by_cases hi:i<l.length
  ·have d:decide ((i:Int)<(l.length:Int))=true:=by rw [decide_eq_true_eq]; omega
   have eg:=ae8 hi
   generalize l[i]=x at eg
   have h8:=ha x (afj eg)
   have ew:i64.wrap ((i:Int)+1)=((i+1:Nat):Int):=by rw [mf om om]; omega
   have hc:NG 1 x.args=some x.args:=by unfold NG; rw [if_pos om]
   obtain⟨q1,q2⟩:=ze hm hl ha k (i+1) om om
   rw [Qg eg,rE,aft] at q1 q2
   rw [if_pos d,if_pos d,CS eg,aeZ,aeZ]
   simp only [jn,hc,aeZ,ew]
   have hA:∀y,app 56 (kz 0 (l.take i)) [y]=some (kz 0 (l.take i)++[y]):=fun y=>pU (by rw [ub,afO]; simp only [afc,afi]; omega)
   have hB:app 8 (dS 0 i) [(i:Int)]=some (dS 0 i++[(i:Int)]):=pU (by rw [kJ]; simp only [afc,afi]; omega)
   unfold JG at q1 q2
   by_cases h0:x.kind=0
   ·have:(x.kind==0)=true:=by rw [h0]; rfl
    simp only [this,if_true,hA,hB,aeZ]
    rw [if_pos h0] at q1 q2
    exact⟨q1,q2⟩
   ·have:(x.kind==0)=false:=by simpa using h0
    simp only [this,afa,if_false,hA,hB,aeZ]
    rw [if_neg h0] at q1 q2
    exact⟨q1,q2⟩
  ·have d:decide ((i:Int)<(l.length:Int))=false:=by rw [decide_eq_false_iff_not]; omega
   have e:i=l.length:=by omega
   rw [if_neg (by rw [d]; decide),if_neg (by rw [d]; decide),e,afS]
   exact⟨rfl,rfl⟩
theorem AP (hm:16000≤m){l:List ai}(hl:l.length≤8000):∀(k i:Nat),i≤l.length→l.length - i<k→
  (bU.l0 m l k (i:Int) ⟨kz 0 (l.take i),dS 0 i,true⟩=some (.inr ((l.length:Int),EJ l))∧∀n∈l.drop i,dt n l.length=true)∨(bU.l0 m l k (i:Int) ⟨kz 0 (l.take i),dS 0 i,true⟩=some (.inl (none,2))∧∃n∈l,dt n l.length=false)
 | 0,i,h1,h2=>by omega
 | k+1,i,h1,h2=>by
  simp only [bU.l0]
  by_cases hi:i<l.length
  ·have d:decide ((i:Int)<(l.length:Int))=true:=by rw [decide_eq_true_eq]; omega
   have eg:=ae8 hi
   have ed:l.drop i=l[i]::l.drop (i+1):=afe hi
   generalize l[i]=x at eg ed
   have ew:i64.wrap ((i:Int)+1)=((i+1:Nat):Int):=by rw [mf om om]; omega
   rw [if_pos d,CS eg,aeZ,sH om,aeZ]
   cases hB:dt x l.length with
   | false=>
    rw [if_pos (by decide)]
    exact .inr ⟨rfl,x,afj eg,hB⟩
   | true=>
    have h8:=(jq hB).1.args
    rw [if_neg (by decide),pU (by simp only [afi]; omega),aeZ,afz]
    have hA:∀y,app 56 (kz 0 (l.take i)) [y]=some (kz 0 (l.take i)++[y]):=fun y=>pU (by rw [ub,afO]; simp only [afc,afi]; omega)
    have hC:app 8 (dS 0 i) [(i:Int)]=some (dS 0 i++[(i:Int)]):=pU (by rw [kJ]; simp only [afc,afi]; omega)
    have q:=AP hm hl k (i+1) om om
    rw [Qg eg,rE,aft] at q
    unfold JG at q
    have q2:(bU.l0 m l k ((i+1:Nat):Int) ⟨kz 0 (l.take i)++[⟨x.kind,if x.kind=0 then (i:Int) else x.int,x.label,x.args⟩],dS 0 i++[(i:Int)],true⟩=some (.inr ((l.length:Int),EJ l))∧∀n∈l.drop i,dt n l.length=true)∨(bU.l0 m l k ((i+1:Nat):Int) ⟨kz 0 (l.take i)++[⟨x.kind,if x.kind=0 then (i:Int) else x.int,x.label,x.args⟩],dS 0 i++[(i:Int)],true⟩=some (.inl (none,2))∧∃n∈l,dt n l.length=false):=by
     rcases q with⟨a,b⟩| q
     ·refine .inl ⟨a,fun n hn=>?_⟩
      rw [ed] at hn
      rcases afq.1 hn with rfl | hn
      ·exact hB
      ·exact b n hn
     ·exact .inr q
    simp only [jn,ew]
    by_cases h0:x.kind=0
    ·have:(x.kind==0)=true:=by rw [h0]; rfl
     simp only [this,if_true,hA,hC,aeZ]
     rw [if_pos h0] at q2
     exact q2
    ·have:(x.kind==0)=false:=by simpa using h0
     simp only [this,afa,if_false,hA,hC,aeZ]
     rw [if_neg h0] at q2
     exact q2
  ·have d:decide ((i:Int)<(l.length:Int))=false:=by rw [decide_eq_false_iff_not]; omega
   have e:i=l.length:=by omega
   rw [if_neg (by rw [d]; decide),e,afS,List.drop_length]
   exact .inl ⟨rfl,fun n hn=>by cases hn⟩
theorem Iy {l:List ai}(hl:l.length≤8000)(h:∀n∈l,dt n l.length=true):Inv2 (JH l)∧lg (JH l) (EJ l):=by
 have hf:=ub l 0
 have w:=(O8.more (kz 0 l) (fun i x hx=>by
  rw [EI] at hx
  rw [ae1] at hx
  obtain⟨y,hy,rfl⟩:=hx
  have hB:=h y (afj hy)
  rw [hf]
  simp only [afi,aft]
  refine⟨?_,fun hk=>?_⟩
  ·have:=vk (vZ:=(l.length:Int)) (z:=(JG i y).int) hB id (fun a ha=>(jq hB).2 a ha) (fun hk=>by show 0≤(if y.kind=0 then (i:Int) else y.int); rw [if_pos hk]; omega) (fun hk=>by show (if y.kind=0 then (i:Int) else y.int)=_; rw [if_neg hk])
   rwa [List.map_id] at this
  ·have hk:y.kind=0:=hk
   show (if y.kind=0 then (i:Int) else y.int)=_
   rw [if_pos hk]) (by rw [hf]; simp only [afi]; omega)).1
 have w:Inv2 ⟨true,kz 0 l,dS 0 (kz 0 l).length⟩:=w
 rw [hf] at w
 refine⟨w,rfl,rfl,?_⟩
 show dS 0 l.length=(af7 (kz 0 l).length).map fun (i:Nat)=>rp (dS 0 l.length) (i:Int)
 rw [hf]
 unfold dS
 apply agr
 intro i hi
 have hi:=agi.1 hi
 have:=(CD H3 l.length).2.2 (i:Int) (by simp) (by simp; omega)
 have this:rp (dS 0 l.length) (i:Int)=(i:Int):=this
 unfold dS at this
 rw [this]; simp
theorem Gp (hm:2 ^ 41≤m)(l:List ai)(hl:l.length≤8000):(bu.f m l=some (none,2)∧bU.f m l=some (none,2))∨(bu.f m l=some (some (JH l),0)∧bU.f m l=some (some (EJ l),0)∧Inv2 (JH l)∧lg (JH l) (EJ l)):=by
 have vX:(2:Nat) ^ 30=1073741824:=by decide
 have zN:(2:Nat) ^ 41=2199023255552:=by decide
 have hb:∀h:(∀n∈l,dt n l.length=true),bu.l0 m l m 0 ⟨true,[],[]⟩=some ((l.length:Int),JH l)∧bu.l1 m l m 0 ⟨true,[],[]⟩=some ((l.length:Int),JH l):=fun h=>
  ze (m:=m) om hl (fun n hn=>(jq (h n hn)).1.args) m 0 (afU _) om
 unfold bu.f bU.f
 have d1:decide ((l.length:Int) > 8000)=false:=by rw [decide_eq_false_iff_not]; omega
 simp only [d1,afa,if_false]
 have hr:=AP (m:=m) om hl m 0 (afU _) om
 have hr:(bU.l0 m l m 0 ⟨[],[],true⟩=some (.inr ((l.length:Int),EJ l))∧∀n∈l,dt n l.length=true)∨(bU.l0 m l m 0 ⟨[],[],true⟩=some (.inl (none,2))∧∃n∈l,dt n l.length=false):=hr
 simp only [jP.f,lB.f,aeZ]
 by_cases h0:0<l.length
 ·have hV:jw ⟨l,0⟩=(l.all fun n=>dt n l.length):=by
   unfold jw
   simp only [decide_eq_true (show 1≤l.length from h0),decide_eq_true hl,afP,decide_eq_true (show (0:Int)≤0 by decide),decide_eq_true (show (0:Int)<l.length by omega)]
  have d2:decide ((l.length:Int) > 0)=true:=by rw [decide_eq_true_eq]; omega
  simp only [d2,if_true]
  rw [sF om,aeZ,hV]
  rcases hr with⟨r1,r2⟩| ⟨r1,n,r2,r3⟩
  ·rw [show (l.all fun n=>dt n l.length)=true from afr.2 r2,if_neg (by decide),(hb r2).1,r1]
   obtain⟨w1,w2⟩:=Iy hl r2
   exact .inr ⟨rfl,rfl,w1,w2⟩
  ·rw [show (l.all fun n=>dt n l.length)=false from by
    rw [List.all_eq_false]; exact⟨n,r2,by simp [r3]⟩,if_pos (by decide),r1]
   exact .inl ⟨rfl,rfl⟩
 ·have:l=[]:=afG om
  subst this
  have mC:∀n∈([]:List ai),dt n ([]:List ai).length=true:=fun n hn=>by cases hn
  rcases hr with⟨r1,r2⟩| ⟨r1,n,r2,r3⟩
  ·rw [if_neg (by decide),(hb mC).2,r1]
   obtain⟨w1,w2⟩:=Iy hl mC
   exact .inr ⟨rfl,rfl,w1,w2⟩
  ·cases r2
end
section
variable {m:Nat}{s:ab}{t:aj}
def EK (s:ab)(V:List ai):ab:=⟨true,s.aa++V,s.an++dS s.aa.length V.length⟩
def Nl (t:aj)(s:ab)(V:List ai):aj:=⟨s.aa++V,gx s++dS s.aa.length V.length,true⟩
theorem AQ (v:Inv2 s)(V:List ai)(hW:∀(i:Nat) x,V[i]? = some x→dt x ((s.aa.length+V.length:Nat):Int)=true∧(x.kind=0→x.int=((s.aa.length+i:Nat):Int)))(hl:s.aa.length+V.length≤8000):Inv2 (EK s V)∧lg (EK s V) (Nl t s V):=by
 have w:=(v.more V hW hl).1
 rw [v.inv.made] at w
 have w:Inv2 (EK s V):=w
 have hlen:=v.inv.len
 obtain⟨g1,g2,g3⟩:=CD v.inv.ok V.length
 rw [hlen] at g1 g2 g3
 refine⟨w,rfl,rfl,?_⟩
 show gx s++dS s.aa.length V.length=(af7 (s.aa++V).length).map fun (i:Nat)=>rp (s.an++dS s.aa.length V.length) (i:Int)
 apply af0 fun j=>?_
 rw [afv]
 by_cases h1:j<s.aa.length
 ·rw [afm (by rw [gN]; exact h1),agG (by rw [afb]; omega)]
  unfold gx
  rw [afv,agG h1]
  simp only [ae6]
  rw [g2 _ ⟨af5 _,om⟩]
 ·rw [afg (by rw [gN]; omega),gN]
  unfold dS
  rw [afv]
  by_cases h2:j<s.aa.length+V.length
  ·rw [agG om,agG (by rw [afb]; omega)]
   simp only [ae6]
   have:=g3 (j:Int) om om
   unfold dS at this
   rw [this]
   congr 2; omega
  ·rw [afp (by rw [agE]; omega),afp (by rw [agE,afb]; omega)]
   rfl
theorem ou (v:Inv2 s)(M:lg s t)(r:Bool)(n:ai)(h0:n.kind=0→r=true∧n.label=⟨#[]⟩∧n.args=[])(h1:n.kind≠0→r=dt n s.aa.length)(hm:2000000≤m) :
  ∃k e s' t',cY.f m s (some r) n=some (k,e,s')∧cO.f m t n=some (k,e,t')∧Inv2 s'∧lg s' t':=by
 have n3:=v.inv.max
 have hlen:=v.inv.len
 unfold cY.f cw.f cO.f
 rw [v.inv.made,M.tZ]
 simp only [aeZ,afT,afa,if_false]
 have key:(n.args.length≤8)→(∀z:Int,z=(if n.kind=0 then (s.aa.length:Int) else n.int)→dt ⟨n.kind,z,n.label,n.args⟩ ((s.aa.length+1:Nat):Int)=true)→r=true→
   ∃k e s' t',(if (!r)=true then some ((0:Int),(1:Int),s) else if decide ((s.aa.length:Int)≥8000)=true then some ((0:Int),(7:Int),s) else jn (fun (σ:Int)=>match σ with | n1=>(app 56 s.aa ([(ai.mk n.kind n1 n.label n.args)])).bind fun x1=>(app 8 s.an ([(s.aa.length:Int)])).bind fun x2=>some ((s.aa.length:Int),(0:Int),(ab.mk true x1 x2))) fun oU=>(if (n.kind==(0:Int))=true then (oU (s.aa.length:Int)) else (oU n.int)))=some (k,e,s')∧
    (if decide ((t.ah.length:Int)≥8000)=true then some ((0:Int),(7:Int),t) else (app 8 ([]) n.args).bind fun x3=>jn (fun (σ:Int)=>match σ with | n1=>(app 56 t.ah ([(ai.mk n.kind n1 n.label x3)])).bind fun x4=>(app 8 t.au ([(t.ah.length:Int)])).bind fun x5=>some ((t.ah.length:Int),(0:Int),(aj.mk x4 x5 t.aK))) fun CR=>(if (n.kind==(0:Int))=true then (CR (t.ah.length:Int)) else (CR n.int)))=some (k,e,t')∧Inv2 s'∧lg s' t':=by
  intro a8 hz hr
  subst hr
  rw [M.nodes,M.bo,M.made,if_neg (by decide)]
  by_cases hl:s.aa.length≥8000
  ·have d:decide ((s.aa.length:Int)≥8000)=true:=by rw [decide_eq_true_eq]; omega
   rw [d,if_pos rfl,if_pos rfl]
   exact⟨_,_,_,_,rfl,rfl,v,M⟩
  ·have d:decide ((s.aa.length:Int)≥8000)=false:=by rw [decide_eq_false_iff_not]; omega
   have hA:∀y,app 56 s.aa [y]=some (s.aa++[y]):=fun y=>pU (by simp only [afc,afi]; omega)
   have hB:app 8 s.an [(s.aa.length:Int)]=some (s.an++[(s.aa.length:Int)]):=pU (by simp only [afc,afi]; omega)
   have hC:app 8 (gx s) [(s.aa.length:Int)]=some (gx s++[(s.aa.length:Int)]):=pU (by rw [gN]; simp only [afc,afi]; omega)
   have hD:app 8 ([]:List Int) n.args=some n.args:=by rw [pU (by simp only [afi]; omega),afz]
   have es:dS s.aa.length 1=[(s.aa.length:Int)]:=by simp [dS]
   rw [d,if_neg (by decide),if_neg (by decide),hD,aeZ]
   have go:∀z:Int,z=(if n.kind=0 then (s.aa.length:Int) else n.int)→Inv2 ⟨true,s.aa++[⟨n.kind,z,n.label,n.args⟩],s.an++[(s.aa.length:Int)]⟩∧lg ⟨true,s.aa++[⟨n.kind,z,n.label,n.args⟩],s.an++[(s.aa.length:Int)]⟩ ⟨s.aa++[⟨n.kind,z,n.label,n.args⟩],gx s++[(s.aa.length:Int)],true⟩:=fun z he=>by
    have:=AQ (t:=t) v [⟨n.kind,z,n.label,n.args⟩] (fun i x hx=>by
     cases i with
     | succ i=>simp at hx
     | zero=>
      simp only [afK,ae2] at hx
      subst hx
      refine⟨hz z he,fun hk=>?_⟩
      have hk:n.kind=0:=hk
      show z=_
      rw [he,if_pos hk,agz]) (by simp only [afc,afi]; omega)
    unfold EK Nl at this
    simp only [afc,afi,aft,es] at this
    exact this
   simp only [jn]
   by_cases hk:n.kind=0
   ·have:(n.kind==0)=true:=by rw [hk]; rfl
    simp only [this,if_true,hA,hB,hC,aeZ]
    exact⟨_,_,_,_,rfl,rfl,go _ (by rw [if_pos hk])⟩
   ·have:(n.kind==0)=false:=by simpa using hk
    simp only [this,afa,if_false,hA,hB,hC,aeZ]
    exact⟨_,_,_,_,rfl,rfl,go _ (by rw [if_neg hk])⟩
 by_cases hk:n.kind=0
 ·obtain⟨hr,Zz,hargs⟩:=h0 hk
  obtain⟨k,e,s',t',e1,e2,e3⟩:=key (by rw [hargs]; simp) (fun z hz=>by
   unfold dt
   simp only [hk,if_true]
   rw [Zz,hargs]
   rw [hz,if_pos hk]
   simp) hr
  refine⟨k,e,s',t',e1,?_,e3⟩
  have:(n.kind==0)=true:=by rw [hk]; rfl
  rw [this] at e2 ⊢
  simp only [afT,afa,if_false,jn] at e2 ⊢
  exact e2
 ·have hr:=h1 hk
  have hb:(n.kind==0)=false:=by simpa using hk
  have hR:ca.f m n (t.ah.length:Int)=some (dt n s.aa.length):=by rw [M.nodes]; exact sH om n _
  cases hB:dt n s.aa.length with
  | false=>
   rw [hB] at hr hR
   subst hr
   refine⟨0,1,s,t,rfl,?_,v,M⟩
   simp only [jn,hb,Bool.not_false,if_true,hR,aeZ]
  | true=>
   rw [hB] at hr hR
   obtain⟨k,e,s',t',e1,e2,e3⟩:=key (jq hB).1.args (fun z hz=>by
    rw [if_neg hk] at hz
    subst hz
    exact Ev hB om) hr
   refine⟨k,e,s',t',e1,?_,e3⟩
   simp only [jn,hb,Bool.not_false,afT,if_true,afa,if_false,hR,aeZ] at e2 ⊢
   exact e2
def Pe (len i:Nat)(n:ai):ai:=⟨n.kind,if n.kind=0 then ((len+i:Nat):Int) else n.int,n.label,n.args.map (· + (len:Int))⟩
def ki (len:Nat):Nat→List ai→List ai
 | _,[]=>[]
 | i,n::l=>Pe len i n::ki len (i+1) l
theorem q9 (len:Nat):∀(l:List ai) (i:Nat),(ki len i l).length=l.length
 | [],i=>rfl
 | n::l,i=>by simp only [ki,afc,q9 len l (i+1)]
theorem EL (len:Nat):∀(l k:List ai) (i:Nat),ki len i (l++k)=ki len i l++ki len (i+l.length) k
 | [],k,i=>by simp [ki]
 | n::l,k,i=>by
  simp only [afF,ki,EL len l k (i+1),afc]
  rw [show i+1+l.length=i+(l.length+1) by omega]
theorem EM (len:Nat):∀(l:List ai) (i j:Nat),(ki len i l)[j]? = l[j]?.map (Pe len (i+j))
 | [],i,j=>by simp [ki]
 | n::l,i,0=>by simp [ki]
 | n::l,i,j+1=>by
  simp only [ki,af1,EM len l (i+1) j]
  rw [show i+1+j=i+(j+1) by omega]
theorem VS {len:Nat}{l:List ai}{i:Nat}{x:ai}(h:l[i]? = some x):ki len 0 (l.take (i+1))=ki len 0 (l.take i)++[Pe len i x]:=by
 obtain⟨hi,he⟩:=ae5.1 h
 have et:l.take (i+1)=l.take i++[l[i]]:=afM hi
 rw [et,EL,he]
 simp only [ki,afO]
 rw [show 0+min i l.length=i by omega]
theorem Iz {v:ai}(a8:v.args.length≤8)(aR:∀a∈v.args,0≤a∧a<8000)(M:lg s t)(hN:s.aa.length≤8000)(t2:aj):∀(k i:Nat),i≤v.args.length→v.args.length - i<k→
  aY.l1 m t v k ((v.args.take i).map (· + (s.aa.length:Int))) (i:Int) t2=some (v.args.map (· + (s.aa.length:Int)),(v.args.length:Int),t2)
 | 0,i,h1,h2=>by omega
 | k+1,i,h1,h2=>by
  simp only [aY.l1,M.nodes]
  by_cases hi:i<v.args.length
  ·have d:decide ((i:Int)<(v.args.length:Int))=true:=by rw [decide_eq_true_eq]; omega
   have eg:=ae8 hi
   have et:v.args.take (i+1)=v.args.take i++[v.args[i]]:=afM hi
   generalize v.args[i]=a at eg et
   obtain⟨b1,b2⟩:=aR a (afj eg)
   have ew:i64.wrap ((i:Int)+1)=((i+1:Nat):Int):=by rw [mf om om]; omega
   have ev:i64.wrap ((s.aa.length:Int)+a)=a+(s.aa.length:Int):=by rw [mf om om]; omega
   rw [if_pos d,CS eg,aeZ,ev,pU (by simp only [afl,afO,afc,afi]; omega),aeZ,ew]
   have:=Iz a8 aR M hN t2 k (i+1) om om
   rw [et,afo] at this
   exact this
  ·have d:decide ((i:Int)<(v.args.length:Int))=false:=by rw [decide_eq_false_iff_not]; omega
   have e:i=v.args.length:=by omega
   rw [if_neg (by rw [d]; decide),e,afS]
theorem wc (hm:2000000≤m)(v:Inv2 s)(M:lg s t){x:bm × Int}(ok:nH x.1.nodes)(hl:s.aa.length+x.1.nodes.length≤8000):∀(k i:Nat),i≤x.1.nodes.length→x.1.nodes.length - i<k→
  (∃z,aO.l0 m s x k (i:Int) ⟨true,s.aa++ki s.aa.length 0 (x.1.nodes.take i),s.an++dS s.aa.length i⟩=some (z,⟨true,s.aa++ki s.aa.length 0 x.1.nodes,s.an++dS s.aa.length x.1.nodes.length⟩))∧
  ∃z,aY.l0 m t x k (i:Int) ⟨s.aa++ki s.aa.length 0 (x.1.nodes.take i),gx s++dS s.aa.length i,true⟩=some (z,⟨s.aa++ki s.aa.length 0 x.1.nodes,gx s++dS s.aa.length x.1.nodes.length,true⟩)
 | 0,i,h1,h2=>by omega
 | k+1,i,h1,h2=>by
  have hlen:=v.inv.len
  simp only [aO.l0,aY.l0]
  by_cases hi:i<x.1.nodes.length
  ·have d:decide ((i:Int)<(x.1.nodes.length:Int))=true:=by rw [decide_eq_true_eq]; omega
   have eg:=ae8 hi
   generalize x.1.nodes[i]=n at eg
   obtain⟨n8,nR⟩:=ok.2 n (afj eg)
   have n80:∀a∈n.args,0≤a∧a<8000:=fun a ha=>by have:=nR a ha; have:=ok.1; omega
   obtain⟨q1,q2⟩:=MZ (m:=m) (s:=s) n8 n80 om ⟨true,s.aa++ki s.aa.length 0 (x.1.nodes.take i),s.an++dS s.aa.length i⟩ m 0 (afU _) om
   have q1:aO.l1 m s n m 0 n.args ⟨true,s.aa++ki s.aa.length 0 (x.1.nodes.take i),s.an++dS s.aa.length i⟩=_:=q1
   have q2:aO.l2 m s n m 0 n.args ⟨true,s.aa++ki s.aa.length 0 (x.1.nodes.take i),s.an++dS s.aa.length i⟩=_:=q2
   have q3:=Iz (m:=m) n8 n80 M om ⟨s.aa++ki s.aa.length 0 (x.1.nodes.take i),gx s++dS s.aa.length i,true⟩ m 0 (afU _) om
   have q3:aY.l1 m t n m [] 0 ⟨s.aa++ki s.aa.length 0 (x.1.nodes.take i),gx s++dS s.aa.length i,true⟩=_:=q3
   have ew:i64.wrap ((i:Int)+1)=((i+1:Nat):Int):=by rw [mf om om]; omega
   have ef:i64.wrap ((s.aa.length:Int)+(i:Int))=((s.aa.length+i:Nat):Int):=by rw [mf om om]; omega
   rw [if_pos d,if_pos d,CS eg]
   have et:=VS (len:=s.aa.length) eg
   have hL:(ki s.aa.length 0 (x.1.nodes.take i)).length=i:=by rw [q9,afO]; omega
   have hA:∀y,app 56 (s.aa++ki s.aa.length 0 (x.1.nodes.take i)) [y]=some (s.aa++ki s.aa.length 0 (x.1.nodes.take i)++[y]):=fun y=>pU (by rw [afb,hL]; simp only [afc,afi]; omega)
   have hB:∀y,app 8 (s.an++dS s.aa.length i) [y]=some (s.an++dS s.aa.length i++[y]):=fun y=>pU (by rw [afb,kJ]; simp only [afc,afi]; omega)
   have hC:∀y,app 8 (gx s++dS s.aa.length i) [y]=some (gx s++dS s.aa.length i++[y]):=fun y=>pU (by rw [afb,kJ,gN]; simp only [afc,afi]; omega)
   have ih:=wc hm v M ok hl k (i+1) om om
   rw [et,rE,←afn,←afn,←afn] at ih
   unfold Pe at ih
   simp only [jn,aeZ,q1,q2,q3,ew,ef,M.nodes]
   by_cases hk:n.kind=0
   ·have:(n.kind==0)=true:=by rw [hk]; rfl
    simp only [this,if_true,hA,hB,hC,aeZ]
    rw [if_pos hk] at ih
    exact ih
   ·have:(n.kind==0)=false:=by simpa using hk
    simp only [this,afa,if_false,hA,hB,hC,aeZ]
    rw [if_neg hk] at ih
    exact ih
  ·have d:decide ((i:Int)<(x.1.nodes.length:Int))=false:=by rw [decide_eq_false_iff_not]; omega
   have e:i=x.1.nodes.length:=by omega
   rw [if_neg (by rw [d]; decide),if_neg (by rw [d]; decide),e,afS]
   exact⟨⟨_,rfl⟩,_,rfl⟩
theorem Gq (hm:2 ^ 41≤m)(x:bm):∃r e,jJ.f m x=some (r,e)∧iO.f m x=some (r,e)∧(e=0∧nH r.nodes∧(∀n∈r.nodes,dt n r.nodes.length=true)∨e=2):=by
 have vX:(2:Nat) ^ 30=1073741824:=by decide
 have zN:(2:Nat) ^ 41=2199023255552:=by decide
 unfold jJ.f iO.f
 rw [sF om,EA om,aeZ,aeZ]
 cases h:jw x with
 | false=>exact⟨_,_,rfl,rfl,.inr rfl⟩
 | true=>
  obtain⟨w,e1,e2⟩:=Nk hm h
  obtain⟨w',R,e3,hv,_⟩:=JB hm h
  rw [e1] at e3
  cases afB e3
  rw [if_neg (by decide),if_neg (by decide),e1,e2]
  refine⟨_,_,rfl,rfl,.inl ⟨rfl,(rD hv).1,fun n hn=>?_⟩⟩
  unfold jw at hv
  simp only [ae3,afr] at hv
  exact hv.2 n hn
theorem Nn (hm:2 ^ 41≤m)(v:Inv2 s)(M:lg s t)(x:bm):∃k e s' t',aO.f m s x=some (k,e,s')∧aY.f m t x=some (k,e,t')∧Inv2 s'∧lg s' t':=by
 have zN:(2:Nat) ^ 41=2199023255552:=by decide
 have n3:=v.inv.max
 unfold aO.f cw.f aY.f
 rw [v.inv.made,M.tZ]
 simp only [aeZ,afT,afa,if_false]
 obtain⟨r,e,e1,e2,h⟩:=Gq hm x
 rw [e1,e2,aeZ,aeZ]
 rcases h with⟨rfl,ok,okB⟩| rfl
 ·rw [if_neg (show ¬(!(((r,0):bm × Int).2==(0:Int)))=true by simp),if_neg (show ¬(!(((r,0):bm × Int).2==(0:Int)))=true by simp),M.nodes]
  have hr:=ok.1
  have ew:i64.wrap ((s.aa.length:Int)+(r.nodes.length:Int))=((s.aa.length+r.nodes.length:Nat):Int):=by rw [mf om om]; omega
  rw [ew]
  by_cases hl:s.aa.length+r.nodes.length > 8000
  ·rw [if_pos (by rw [decide_eq_true_eq]; omega),if_pos (by rw [decide_eq_true_eq]; omega)]
   exact⟨_,_,_,_,rfl,rfl,v,M⟩
  ·rw [if_neg (by rw [decide_eq_true_eq]; omega),if_neg (by rw [decide_eq_true_eq]; omega)]
   obtain⟨⟨z1,a1⟩,z2,a2⟩:=wc (m:=m) om v M (x:=(r,0)) ok (by show _+r.nodes.length≤8000; omega) m 0 (afU _) (by show r.nodes.length - 0<m; omega)
   have es:dS s.aa.length 0=[]:=by simp [dS]
   rw [es] at a1 a2
   have a1:aO.l0 m s (r,0) m 0 ⟨true,s.aa++[],s.an++[]⟩=some (z1,⟨true,s.aa++ki s.aa.length 0 r.nodes,s.an++dS s.aa.length r.nodes.length⟩):=a1
   have a2:aY.l0 m t (r,0) m 0 ⟨s.aa++[],gx s++[],true⟩=some (z2,⟨s.aa++ki s.aa.length 0 r.nodes,gx s++dS s.aa.length r.nodes.length,true⟩):=a2
   rw [afZ,afZ] at a1 a2
   have b1:aO.l0 m s (r,0) m 0 s=some (z1,⟨true,s.aa++ki s.aa.length 0 r.nodes,s.an++dS s.aa.length r.nodes.length⟩):=by
    have:s=⟨true,s.aa,s.an⟩:=AF v.inv.made rfl rfl
    rw [←this] at a1
    exact a1
   have b2:aY.l0 m t (r,0) m 0 t=some (z2,⟨s.aa++ki s.aa.length 0 r.nodes,gx s++dS s.aa.length r.nodes.length,true⟩):=by
    have:t=⟨s.aa,gx s,true⟩:=by
     obtain⟨a,b,c⟩:=M
     cases t
     simp only at a b c
     rw [a,b,c]
    rw [←this] at a2
    exact a2
   rw [b1,b2]
   have w:=AQ (t:=t) v (ki s.aa.length 0 r.nodes) (fun i y hy=>by
    rw [EM,ae1] at hy
    obtain⟨n,hn,rfl⟩:=hy
    rw [q9]
    have nB:=okB n (afj hn)
    refine⟨vk nB _ (fun a ha=>?_) (fun hk=>by rw [if_pos hk]; omega) (fun hk=>by rw [if_neg hk]),fun hk=>?_⟩
    ·have:=(ok.2 n (afj hn)).2 a ha
     omega
    ·have hk:n.kind=0:=hk
     show (if n.kind=0 then _ else _)=_
     rw [if_pos hk,aft]) (by rw [q9]; omega)
   unfold EK Nl at w
   rw [q9] at w
   exact⟨_,_,_,_,rfl,rfl,w⟩
 ·exact⟨_,_,_,_,rfl,rfl,v,M⟩
end
section
variable {m:Nat}{s:ab}{t:aj}
def Gf (bo:List Int)(n:Int):Int:=gt bo n.toNat
def CJ (p:uI):Int × Int:=(p.a0,p.a1)
def zf (a b:List Int):List uI:=(a.zip b).map fun p=>⟨p.1,p.2⟩
theorem AR {v2 v3:ai}(hl:v2.args.length=v3.args.length)(h8:v2.args.length≤8):∀(k:Nat) (left:List uI) (i:Nat),i≤v2.args.length→v2.args.length - i<k→left.length+8≤1000000+i→
  aw.l1 m v2 v3 k left (i:Int)=some (left++zf (v2.args.drop i) (v3.args.drop i),(v2.args.length:Int))
 | 0,left,i,h1,h2,_=>by omega
 | k+1,left,i,h1,h2,h3=>by
  simp only [aw.l1]
  by_cases hi:i<v2.args.length
  ·have Vu:i<v3.args.length:=by omega
   have e2:=ae8 hi
   have e3:=ae8 Vu
   have d:decide ((i:Int)<(v2.args.length:Int))=true:=by rw [decide_eq_true_eq]; omega
   have ea:app 16 left [(⟨v2.args[i],v3.args[i]⟩:uI)]=some (left++[⟨v2.args[i],v3.args[i]⟩]):=pU (by
    simp only [afc,afi]; omega)
   have ew:i64.wrap ((i:Int)+1)=((i+1:Nat):Int):=by rw [mf om om]; omega
   rw [if_pos d,CS e2,CS e3]
   simp only [aeZ,ea,ew]
   rw [AR hl h8 k _ (i+1) om om (by simp only [afb,afc,afi]; omega)]
   have e4:zf (v2.args.drop i) (v3.args.drop i)=⟨v2.args[i],v3.args[i]⟩::zf (v2.args.drop (i+1)) (v3.args.drop (i+1)):=by
    unfold zf
    rw [afe hi,afe Vu]; rfl
   rw [e4,afn]; rfl
  ·have d:decide ((i:Int)<(v2.args.length:Int))=false:=by rw [decide_eq_false_iff_not]; omega
   have e:i=v2.args.length:=by omega
   rw [if_neg (by rw [d]; decide),e]
   simp [zf]
theorem EN {a b:List Int}{x:uI}(h:x∈zf a b):∃i:Nat,a[i]? = some x.a0∧b[i]? = some x.a1:=by
 unfold zf at h
 obtain⟨p,hp,rfl⟩:=afu.1 h
 obtain⟨i,hi⟩:=af4 hp
 rw [List.getElem?_zip_eq_some] at hi
 exact⟨i,hi⟩
theorem No {a b:List Int}{i:Nat}{x y:Int}(h1:a[i]? = some x)(h2:b[i]? = some y):(x,y)∈(zf a b).map CJ:=by
 unfold zf
 rw [List.map_map]
 refine afu.2 ⟨(x,y),?_,rfl⟩
 exact afj (i:=i) (List.getElem?_zip_eq_some.2 ⟨h1,h2⟩)
def jf (x y best r:Int):Int:=if r=x∨r=y then best else r
theorem we (bo:List Int)(h8:bo.length≤8000)(x y best:Int):∀(k i:Nat),i≤bo.length→bo.length - i<k→
  aw.l2 m x y best k ((bo.take i).map (jf x y best)++bo.drop i) (i:Int)=some (bo.map (jf x y best),(bo.length:Int))∧
  aw.l3 m x y best k ((bo.take i).map (jf x y best)++bo.drop i) (i:Int)=some (bo.map (jf x y best),(bo.length:Int))∧
  aw.l4 m x y best k ((bo.take i).map (jf x y best)++bo.drop i) (i:Int)=some (bo.map (jf x y best),(bo.length:Int))
 | 0,i,h1,h2=>by omega
 | k+1,i,h1,h2=>by
  simp only [aw.l2,aw.l3,aw.l4]
  have hl:((bo.take i).map (jf x y best)).length=min i bo.length:=by rw [afl,afO]
  have hlen:(((bo.take i).map (jf x y best)++bo.drop i).length:Int)=(bo.length:Int):=by rw [afb,hl,List.length_drop]; omega
  rw [hlen]
  by_cases hi:i<bo.length
  ·have d:decide ((i:Int)<(bo.length:Int))=true:=by rw [decide_eq_true_eq]; omega
   have ed:bo.drop i=bo[i]::bo.drop (i+1):=afe hi
   have et:bo.take (i+1)=bo.take i++[bo[i]]:=afM hi
   have hl:((bo.take i).map (jf x y best)).length=i:=by rw [hl]; omega
   have eg:((bo.take i).map (jf x y best)++bo.drop i)[i]? = some bo[i]:=by
    rw [afg om,hl,aga,ed]; rfl
   have es:∀z,jf x y best bo[i]=z→((bo.take i).map (jf x y best)++bo.drop i).set i z=(bo.take (i+1)).map (jf x y best)++bo.drop (i+1):=fun z hz=>by
    rw [agf _ _ om,hl,aga,ed,et,afo,afn,←hz]; rfl
   have e0:jf x y best bo[i]=bo[i]→(bo.take i).map (jf x y best)++bo.drop i=(bo.take (i+1)).map (jf x y best)++bo.drop (i+1):=fun hz=>by
    rw [ed,et,afo,afn]
    simp only [afs,agt,afF,afz]
    rw [hz]
   have ew:i64.wrap ((i:Int)+1)=((i+1:Nat):Int):=by rw [mf om om]; omega
   have ih:=we bo h8 x y best k (i+1) om om
   rw [if_pos d,if_pos d,if_pos d,CS eg]
   simp only [aeZ,ew,ae7]
   by_cases hx:bo[i]=x
   ·have Ww:(bo[i]==x)=true:=by simpa using hx
    simp only [Ww,if_true]
    rw [es best (by unfold jf; rw [if_pos (.inl hx)])]
    exact ih
   ·have Ww:(bo[i]==x)=false:=by simpa using hx
    by_cases hy:bo[i]=y
    ·have ZA:(bo[i]==y)=true:=by simpa using hy
     simp only [Ww,ZA,if_true,afa,if_false]
     rw [es best (by unfold jf; rw [if_pos (.inr hy)])]
     exact ih
    ·have ZA:(bo[i]==y)=false:=by simpa using hy
     simp only [Ww,ZA,afa,if_false]
     rw [e0 (by unfold jf; rw [if_neg (by simp [hx,hy])])]
     exact ih
  ·have d:decide ((i:Int)<(bo.length:Int))=false:=by rw [decide_eq_false_iff_not]; omega
   have e:i=bo.length:=by omega
   rw [if_neg (by rw [d]; decide),if_neg (by rw [d]; decide),if_neg (by rw [d]; decide),e]
   simp
theorem Np (M:lg s t){x y:Int}(hx:Rg s.aa.length x)(hy:Rg s.aa.length y):cV.f m t x y=some (lC s.aa x y).2:=by
 unfold cV.f
 rw [M.nodes,qX hx,aeZ,qX hy,aeZ]
 unfold lC jy mn
 by_cases ha:(fJ s.aa x).kind=0<;>by_cases hb:(fJ s.aa y).kind=0<;>by_cases NB:x<y
 all_goals
  first
  | have ea:((fJ s.aa x).kind==0)=true:=by simpa using ha
  | have ea:((fJ s.aa x).kind==0)=false:=by simpa using ha
 all_goals
  first
  | have eb:((fJ s.aa y).kind==0)=true:=by simpa using hb
  | have eb:((fJ s.aa y).kind==0)=false:=by simpa using hb
 all_goals simp [ha,hb,NB,ea,eb]
 all_goals (try omega)
 all_goals (split<;>omega)
def AS (N:List ai)(R:Int→Int):Nat:=((af7 N.length).filter fun (i:Nat)=>R (i:Int)==(i:Int)).length
theorem Nq (N:List ai)(R:Int→Int):AS N R≤N.length:=by
 have:=List.length_filter_le (fun i:Nat=>R (i:Int)==(i:Int)) (af7 N.length)
 rwa [agE] at this
theorem Gr {N:List ai}{R R':Int→Int}{q:Int × Int}(h1:Rg N.length q.1)(r1:R q.1=q.1)(r2:R q.2=q.2)(hne:q.2≠q.1)(hr:∀n,Rg N.length n→R' n=tP R q n):AS N R'<AS N R:=by
 have e:(af7 N.length).filter (fun i:Nat=>R' (i:Int)==(i:Int))=((af7 N.length).filter (fun i:Nat=>R (i:Int)==(i:Int))).filter (fun i:Nat=>R' (i:Int)==(i:Int)):=by
  rw [List.filter_filter]
  apply List.filter_congr
  intro i hi
  have hi:=agi.1 hi
  have rg:Rg N.length (i:Int):=⟨af5 _,om⟩
  rw [hr _ rg]
  unfold tP
  by_cases h:R (i:Int)=q.1
  ·rw [if_pos h]
   by_cases h3:q.2=(i:Int)
   ·exfalso
    rw [h3] at r2 hne
    omega
   ·simp [h3]
  ·rw [if_neg h]
   by_cases h4:R (i:Int)=(i:Int)<;>simp [h4]
 unfold AS
 rw [e]
 rw [List.length_filter_lt_length_iff_exists]
 have hq:((q.1.toNat:Nat):Int)=q.1:=by have:=h1.1; omega
 refine⟨q.1.toNat,agp.2 ⟨agi.2 (by have:=h1.1; have:=h1.2; omega),by rw [hq,r1]; simp⟩,?_⟩
 rw [hq,hr _ h1]
 unfold tP
 rw [if_pos r1]
 simpa using hne
theorem SD {bo:List Int}{x y best:Int}{N:List ai}(hl:bo.length=N.length){q:Int × Int}(hq:(q.1=x∧q.2=y∨q.1=y∧q.2=x)∧q.2=best):∀n,Rg N.length n→Gf (bo.map (jf x y best)) n=tP (Gf bo) q n:=by
 intro n hn
 have h0:=hn.1
 have h1:=hn.2
 unfold Gf tP
 have:gt (bo.map (jf x y best)) n.toNat=jf x y best (gt bo n.toNat):=by
  apply VI
  rw [afv,bZ (l:=bo) om]; rfl
 rw [this]
 unfold jf
 obtain⟨hq,hb⟩:=hq
 by_cases e:gt bo n.toNat=q.1
 ·rw [if_pos e,if_pos (by rcases hq with⟨a,_⟩| ⟨a,_⟩<;>rw [e,a]<;>simp),hb]
 ·rw [if_neg e]
  by_cases e2:gt bo n.toNat=q.2
  ·rw [if_pos (by rcases hq with⟨_,a⟩| ⟨_,a⟩<;>rw [e2,a]<;>simp)]
   show best=gt bo n.toNat
   rw [e2,hb]
  ·rw [if_neg]
   rintro (h | h)
   ·rcases hq with⟨a,b⟩| ⟨a,b⟩
    ·exact e (h.trans a.symm)
    ·exact e2 (h.trans b.symm)
   ·rcases hq with⟨a,b⟩| ⟨a,b⟩
    ·exact e2 (h.trans b.symm)
    ·exact e (h.trans a.symm)
def Nr (N:List ai)(R:Int→Int)(L:List (Int × Int)):Sum ((List Int) × Bool) ((List Int) × (List uI) × Int)→Prop
 | .inl (_,b)=>b=false∧∀T,Cl N T→gO N R T→(∀p∈L,T p.1=T p.2)→False
 | .inr (pB,_,_)=>pB.length=N.length∧Cn N (Gf pB)∧Cl N (Gf pB)∧gO N R (Gf pB)∧(∀p∈L,Gf pB p.1=Gf pB p.2)∧∀T,Cl N T→gO N R T→(∀p∈L,T p.1=T p.2)→gO N (Gf pB) T
theorem Pf {N:List ai}{R R2:Int→Int}{left M:List uI}{i:Nat}{p:uI}{q:Int × Int}{out:Sum ((List Int) × Bool) ((List Int) × (List uI) × Int)}
  (c:Cn N R) (hp:left[i]? = some p) (h1:Rg N.length p.a0) (h2:Rg N.length p.a1)
  (hq:(q.1=R p.a0∧q.2=R p.a1)∨(q.1=R p.a1∧q.2=R p.a0)) (hne:q.2≠q.1)
  (hr:∀n,Rg N.length n→R2 n=tP R q n)
  (hM:∀T,Cl N T→T (R p.a0)=T (R p.a1)→∀x∈M,T x.a0=T x.a1)
  (h:Nr N R2 (((left++M).drop (i+1)).map CJ) out):Nr N R ((left.drop i).map CJ) out:=by
 have hi:i<left.length:=(ae5.1 hp).1
 have TK:left[i]=p:=(ae5.1 hp).2
 have ed:left.drop i=p::left.drop (i+1):=by rw [afe hi,TK]
 have J1:(left++M).drop (i+1)=left.drop (i+1)++M:=agh om
 have g1:=c.rg _ h1
 have g2:=c.rg _ h2
 have gq:Rg N.length q.1∧Rg N.length q.2∧R q.1=q.1∧R q.2=q.2:=by
  rcases hq with⟨e1,e2⟩| ⟨e1,e2⟩
  ·rw [e1,e2]; exact⟨g1,g2,c.id _ h1,c.id _ h2⟩
  ·rw [e1,e2]; exact⟨g2,g1,c.id _ h2,c.id _ h1⟩
 obtain⟨q1,q2,q3,q4⟩:=gq
 have YZ:gO N R R2:=gO.Mj (fun n hn=>(hr n hn).symm) Cr
 have Y0:R2 p.a0=R2 p.a1:=by
  rw [hr _ h1,hr _ h2]
  rcases hq with⟨e1,e2⟩| ⟨e1,e2⟩
  ·exact vg e1.symm e2.symm hne
  ·exact (vg e1.symm e2.symm hne).symm
 have Mk:∀T,Cl N T→gO N R T→(∀x∈(left.drop i).map CJ,T x.1=T x.2)→gO N R2 T∧∀x∈((left++M).drop (i+1)).map CJ,T x.1=T x.2:=by
  intro T cT sT hT
  have tp:T p.a0=T p.a1:=hT (CJ p) (by rw [ed]; simp)
  have ta:T (R p.a0)=T p.a0:=sT _ _ g1 h1 (c.id _ h1)
  have tb:T (R p.a1)=T p.a1:=sT _ _ g2 h2 (c.id _ h2)
  have tt:T (R p.a0)=T (R p.a1):=by rw [ta,tb,tp]
  refine⟨gO.congr hr (AA c q1 q2 sT ?_),fun x hx=>?_⟩
  ·rcases hq with⟨e1,e2⟩| ⟨e1,e2⟩
   ·rw [e1,e2]; exact tt
   ·rw [e1,e2]; exact tt.symm
  ·rw [J1,afo] at hx
   rcases afk.1 hx with hx | hx
   ·exact hT x (by rw [ed]; simp only [afs]; exact agj _ hx)
   ·obtain⟨y,hy,rfl⟩:=afu.1 hx
    exact hM T cT tt y hy
 match out,h with
 | .inl (l,b),⟨hb,hT⟩=>
  exact⟨hb,fun T cT sT pT=>by
   obtain⟨k1,k2⟩:=Mk T cT sT pT
   exact hT T cT k1 k2⟩
 | .inr (pB,Ef,i'),⟨hl,VT,hc,hs,OV,hT⟩=>
  refine⟨hl,VT,hc,YZ.trans hs,fun x hx=>?_,fun T cT sT pT=>?_⟩
  ·rw [ed] at hx
   simp only [afs] at hx
   rcases afq.1 hx with rfl | hx
   ·exact hs _ _ h1 h2 Y0
   ·exact OV x (by rw [J1,afo]; exact afE _ hx)
  ·obtain⟨k1,k2⟩:=Mk T cT sT pT
   exact hT T cT k1 k2
theorem vl (hm:16000≤m)(v:Inv2 s)(M0:lg s t)(a0:Int):∀(k:Nat) (bo:List Int) (left:List uI) (i:Nat),i≤left.length→9*AS s.aa (Gf bo)+(left.length - i)<k→left.length+8*AS s.aa (Gf bo)≤1+8*s.aa.length→
  bo.length=s.aa.length→Cn s.aa (Gf bo)→(∀p∈left,Rg s.aa.length p.a0∧Rg s.aa.length p.a1)→rL s.aa (Gf bo) ((left.drop i).map CJ)→
  ∃out,aw.l0 m t a0 k bo left (i:Int)=some out∧Nr s.aa (Gf bo) ((left.drop i).map CJ) out
 | 0,bo,left,i,h1,h2,h3,hl,c,hin,hp=>by omega
 | k+1,bo,left,i,h1,h2,h3,hl,c,hin,hp=>by
  have n3:=v.inv.max
  simp only [aw.l0]
  by_cases hi:i<left.length
  rotate_left
  ·have d:decide ((i:Int)<(left.length:Int))=false:=by rw [decide_eq_false_iff_not]; omega
   rw [if_neg (by rw [d]; decide)]
   have hd:left.drop i=[]:=afY om
   rw [hd] at hp ⊢
   exact⟨_,rfl,hl,c,Ee hp,fun _ _ _ _ h=>h,fun x hx=>by simp at hx,fun T _ s _=>s⟩
  have d:decide ((i:Int)<(left.length:Int))=true:=by rw [decide_eq_true_eq]; omega
  have ep:=ae8 hi
  generalize left[i]=p at ep
  obtain⟨ra,rb⟩:=hin p (afj ep)
  have ed:left.drop i=p::left.drop (i+1):=by
   rw [afe hi]; congr 1
   exact (ae5.1 ep).2
  have ew:i64.wrap ((i:Int)+1)=((i+1:Nat):Int):=by rw [mf om om]; omega
  have ix1:ix bo p.a0=some (Gf bo p.a0):=iv (k:=p.a0.toNat) (by have:=ra.1; omega) (by have:=ra.1; have:=ra.2; omega)
  have ix2:ix bo p.a1=some (Gf bo p.a1):=iv (k:=p.a1.toNat) (by have:=rb.1; omega) (by have:=rb.1; have:=rb.2; omega)
  rw [if_pos d,CS ep]
  simp only [aeZ,ix1,ix2,ew]
  have ga:=c.rg _ ra
  have gb:=c.rg _ rb
  have OV:rL s.aa (Gf bo) (CJ p::(left.drop (i+1)).map CJ):=by rw [ed] at hp; exact hp
  by_cases he:Gf bo p.a0=Gf bo p.a1
  ·rw [if_pos (by simpa using he)]
   obtain⟨out,e1,e2⟩:=vl hm v M0 a0 k bo left (i+1) om om h3 hl c hin (AB OV ra rb he)
   refine⟨out,e1,?_⟩
   match out,e2 with
   | .inl (l,b),⟨hb,hT⟩=>
    exact⟨hb,fun T cT sT pT=>hT T cT sT fun x hx=>pT x (by rw [ed]; simp only [afs]; exact agj _ hx)⟩
   | .inr (pB,Ef,i'),⟨rN,VT,hc,hs,hq,hT⟩=>
    refine⟨rN,VT,hc,hs,fun x hx=>?_,fun T cT sT pT=>hT T cT sT fun x hx=>pT x (by rw [ed]; simp only [afs]; exact agj _ hx)⟩
    rw [ed] at hx
    simp only [afs] at hx
    rcases afq.1 hx with rfl | hx
    ·exact hs _ _ ra rb he
    ·exact hq x hx
  ·rw [if_neg (by simpa using he),M0.nodes,qX ga,aeZ,qX gb,aeZ]
   have eB:=Np (m:=m) M0 ga gb
   obtain⟨ob,oq⟩:=vf (N:=s.aa) (Gf bo p.a0) (Gf bo p.a1)
   have hne:(lC s.aa (Gf bo p.a0) (Gf bo p.a1)).2≠(lC s.aa (Gf bo p.a0) (Gf bo p.a1)).1:=by
    rcases oq with⟨e1,e2⟩| ⟨e1,e2⟩
    ·rw [e1,e2]; exact fun h=>he h.symm
    ·rw [e1,e2]; exact he
   generalize lC s.aa (Gf bo p.a0) (Gf bo p.a1)=q at *
   have Sd:(q.1=Gf bo p.a0∧q.2=Gf bo p.a1)∨(q.1=Gf bo p.a1∧q.2=Gf bo p.a0):=oq
   have jr:=SD (bo:=bo) (x:=Gf bo p.a0) (y:=Gf bo p.a1) (best:=q.2) hl (q:=q) ⟨Sd,rfl⟩
   obtain⟨x1,x2,x3⟩:=we (m:=m) bo om (Gf bo p.a0) (Gf bo p.a1) q.2 m 0 (afU _) om
   have x1:aw.l2 m (Gf bo p.a0) (Gf bo p.a1) q.2 m bo 0=_:=x1
   have x2:aw.l3 m (Gf bo p.a0) (Gf bo p.a1) q.2 m bo 0=_:=x2
   have x3:aw.l4 m (Gf bo p.a0) (Gf bo p.a1) q.2 m bo 0=_:=x3
   generalize hR2:bo.map (jf (Gf bo p.a0) (Gf bo p.a1) q.2)=tK at *
   have Gy:tK.length=s.aa.length:=by rw [←hR2,afl]; exact hl
   have gq:Rg s.aa.length q.1∧Rg s.aa.length q.2∧Gf bo q.1=q.1∧Gf bo q.2=q.2:=by
    rcases Sd with⟨e1,e2⟩| ⟨e1,e2⟩
    ·rw [e1,e2]; exact⟨ga,gb,c.id _ ra,c.id _ rb⟩
    ·rw [e1,e2]; exact⟨gb,ga,c.id _ rb,c.id _ ra⟩
   obtain⟨q1,q2,q3,q4⟩:=gq
   have hn:=Gr (N:=s.aa) (R:=Gf bo) (R':=Gf tK) q1 q3 q4 hne jr
   have c2:Cn s.aa (Gf tK):=by
    have cj:=Mf c q1 q2 q3 q4 hne ob
    exact⟨fun n hn=>by rw [jr n hn]; exact cj.rg n hn,fun n hn=>by rw [jr n hn,jr _ (cj.rg n hn)]; exact cj.id n hn,fun n hn=>by rw [jr n hn]; exact cj.bt n hn⟩
   have Vv:∀M:List uI,M.length≤8→(∀x∈M,Rg s.aa.length x.a0∧Rg s.aa.length x.a1)→
     (∀T,Cl s.aa T→T (Gf bo p.a0)=T (Gf bo p.a1)→∀x∈M,T x.a0=T x.a1)→
     (jy s.aa (Gf bo p.a0)→jy s.aa (Gf bo p.a1)→pk (fJ s.aa (Gf bo p.a0)) (fJ s.aa (Gf bo p.a1))∧∀(i:Nat) (a b:Int),(fJ s.aa (Gf bo p.a0)).args[i]? = some a→(fJ s.aa (Gf bo p.a1)).args[i]? = some b→(a,b)∈M.map CJ)→
     ∃out,aw.l0 m t a0 k tK (left++M) ((i+1:Nat):Int)=some out∧Nr s.aa (Gf bo) ((left.drop i).map CJ) out:=by
    intro M hM8 Y1 Y2 Y3
    have J1:((left++M).drop (i+1)).map CJ=(left.drop (i+1)).map CJ++M.map CJ:=by
     rw [agh om,afo]
    obtain⟨out,e1,e2⟩:=vl hm v M0 a0 k tK (left++M) (i+1) (by rw [afb]; omega)
     (by rw [afb]; omega) (by rw [afb]; omega) Gy c2
     (fun x hx=>(afk.1 hx).elim (hin x) (Y1 x)) (by
      rw [J1]
      exact rL.congr jr (AD c (p:=CJ p) OV ra rb Sd hne Y3))
    exact⟨out,e1,Pf c ep ra rb Sd hne jr Y2 e2⟩
   have FZ:=Vv [] (by simp) (fun x hx=>by simp at hx) (fun T _ _ x hx=>by simp at hx)
   rw [afZ] at FZ
   by_cases k1:(fJ s.aa (Gf bo p.a0)).kind=0
   ·have b1:(!((fJ s.aa (Gf bo p.a0)).kind==(0:Int)))=false:=by rw [k1]; rfl
    rw [b1,if_neg (by decide),eB]
    simp only [aeZ,x3]
    exact FZ fun h=>absurd k1 h
   have b1:(!((fJ s.aa (Gf bo p.a0)).kind==(0:Int)))=true:=by simpa using k1
   rw [b1,if_pos rfl]
   by_cases k2:(fJ s.aa (Gf bo p.a1)).kind=0
   ·have b2:(!((fJ s.aa (Gf bo p.a1)).kind==(0:Int)))=false:=by rw [k2]; rfl
    rw [b2,if_neg (by decide),eB]
    simp only [aeZ,x2]
    exact FZ fun _ h=>absurd k2 h
   have b2:(!((fJ s.aa (Gf bo p.a1)).kind==(0:Int)))=true:=by simpa using k2
   rw [b2,if_pos rfl]
   have bad:¬pk (fJ s.aa (Gf bo p.a0)) (fJ s.aa (Gf bo p.a1))→∃out,some (Sum.inl (([]:List Int),false):Sum ((List Int) × Bool) ((List Int) × (List uI) × Int))=some out∧Nr s.aa (Gf bo) ((left.drop i).map CJ) out:=fun hu=>by
    refine⟨_,rfl,rfl,fun T cT sT pT=>hu ?_⟩
    have tp:T p.a0=T p.a1:=pT (CJ p) (by rw [ed]; simp)
    have ta:T (Gf bo p.a0)=T p.a0:=sT _ _ ga ra (c.id _ ra)
    have tb:T (Gf bo p.a1)=T p.a1:=sT _ _ gb rb (c.id _ rb)
    exact (cT _ _ ga gb (by rw [ta,tb,tp]) k1 k2).1
   by_cases u1:(fJ s.aa (Gf bo p.a0)).kind=(fJ s.aa (Gf bo p.a1)).kind
   rotate_left
   ·rw [if_pos (by simpa using u1)]
    exact bad fun h=>u1 h.1
   rw [if_neg (by simpa using u1)]
   by_cases u2:(fJ s.aa (Gf bo p.a0)).int=(fJ s.aa (Gf bo p.a1)).int
   rotate_left
   ·rw [if_pos (by simpa using u2)]
    exact bad fun h=>u2 h.2.1
   rw [if_neg (by simpa using u2)]
   by_cases u3:(fJ s.aa (Gf bo p.a0)).label.data.toList=(fJ s.aa (Gf bo p.a1)).label.data.toList
   rotate_left
   ·rw [if_pos (by simpa using u3)]
    exact bad fun h=>u3 h.2.2.1
   rw [if_neg (by rw [u3]; simp)]
   by_cases u4:(fJ s.aa (Gf bo p.a0)).args.length=(fJ s.aa (Gf bo p.a1)).args.length
   rotate_left
   ·rw [if_pos (by simp; omega)]
    exact bad fun h=>u4 h.2.2.2
   rw [if_neg (by simp [u4])]
   have tp:pk (fJ s.aa (Gf bo p.a0)) (fJ s.aa (Gf bo p.a1)):=⟨u1,u2,u3,u4⟩
   have a8:=(v.inv.args _ (lG ga)).1
   have el:=AR (m:=m) tp.2.2.2 a8 m left 0 (afU _) om om
   have el:aw.l1 m (fJ s.aa (Gf bo p.a0)) (fJ s.aa (Gf bo p.a1)) m left 0=_:=el
   rw [el]
   simp only [aeZ,afw,eB,x1]
   refine Vv (zf (fJ s.aa (Gf bo p.a0)).args (fJ s.aa (Gf bo p.a1)).args) ?_ (fun x hx=>?_) (fun T cT hT x hx=>?_) (fun _ _=>⟨tp,fun i a b ha hb=>No ha hb⟩)
   ·unfold zf; rw [afl,List.length_zip]; omega
   ·obtain⟨j,j1,j2⟩:=EN hx
    exact⟨(v.inv.args _ (lG ga)).2 _ (afj j1),(v.inv.args _ (lG gb)).2 _ (afj j2)⟩
   ·obtain⟨j,j1,j2⟩:=EN hx
    exact (cT _ _ ga gb hT k1 k2).2 j _ _ j1 j2
end
section
variable {m:Nat}{s s':ab}{t:aj}{a b:Int}
theorem nr {n:Int}(h:Rg s.aa.length n):Gf (gx s) n=rp s.an n:=by
 have e:=CE h
 have h0:=h.1
 have:=iv (l:=gx s) (i:=n) (k:=n.toNat) om (by rw [gN]; have:=h.2; omega)
 rw [e] at this
 exact (afB this).symm
theorem wg (hm:2 ^ 41≤m)(v:Inv2 s)(M:lg s t)(ra:Rg s.aa.length a)(rb:Rg s.aa.length b){l:List Int}{ok:Bool}(E:VH s a b l ok s'):∃r,aw.f m t a b=some (r,ok)∧(ok=true→r=gx s'):=by
 have zN:(2:Nat) ^ 41=2199023255552:=by decide
 have h8:=v.inv.max
 have eN:s'.aa=s.aa:=E.un.2.1
 have c:=v.inv.cn
 have cG:Cn s.aa (Gf (gx s)):=⟨fun n hn=>by rw [nr hn]; exact c.rg n hn,fun n hn=>by rw [nr hn,nr (c.rg n hn)]; exact c.id n hn,fun n hn=>by rw [nr hn]; exact c.bt n hn⟩
 have hn:=Nq s.aa (Gf (gx s))
 obtain⟨out,e1,e2⟩:=vl (m:=m) om v M a m (gx s) [⟨a,b⟩] 0 (by simp) (by simp only [afc,afi]; omega) (by simp only [afc,afi]; omega) gN cG
  (fun p hp=>by simp only [afd] at hp; subst hp; exact⟨ra,rb⟩) (rL.congr (fun n hn=>nr hn) (H4 v.cl v.inv.args))
 have e1:aw.l0 m t a m (gx s) [⟨a,b⟩] 0=some out:=e1
 have sub:∀{T:Int→Int},gO s.aa (rp s.an) T↔gO s.aa (Gf (gx s)) T:=fun {T}=>⟨gO.congr fun n hn=>nr hn,gO.congr fun n hn=>(nr hn).symm⟩
 unfold aw.f
 rw [M.bo,pU (by rw [gN]; simp only [afi]; omega),aeZ,afz,e1,aeZ]
 match out,e2 with
 | .inl (l',b'),⟨hb,hT⟩=>
  have:ok=false:=by
   cases ok with
   | false=>rfl
   | true=>
    obtain⟨k1,k2,k3,_⟩:=E.yes rfl
    exact (hT _ k1 (sub.1 k2) fun p hp=>by simp only [afw,afs,agt,afd] at hp; subst hp; exact k3).elim
  subst this
  subst hb
  exact⟨_,rfl,fun h=>by cases h⟩
 | .inr (pB,Ef,i'),⟨hl,VT,hc,hs,hp,hT⟩=>
  have NB:Gf pB a=Gf pB b:=hp (a,b) (by simp [CJ])
  have:ok=true:=by
   cases ok with
   | true=>rfl
   | false=>exact (E.no rfl _ hc (sub.2 hs) NB).elim
  subst this
  obtain⟨k1,k2,k3,k4⟩:=E.yes rfl
  refine⟨_,rfl,fun _=>?_⟩
  have c':Cn s.aa (rp s'.an):=by rw [←eN]; exact E.inv.cn
  have s1:=hT _ k1 (sub.1 k2) fun p hp=>by simp only [afw,afs,agt,afd] at hp; subst hp; exact k3
  have s2:=k4 _ hc (sub.2 hs) NB
  apply F0
  ·rw [gN,eN,hl]
  ·intro k hk
   have rk:Rg s.aa.length (k:Int):=⟨af5 _,om⟩
   have:=Cn.unique VT c' s1 s2 rk
   have h2:=nr (s:=s') (n:=(k:Int)) (by rw [eN]; exact rk)
   unfold Gf at this h2
   rw [ae7] at this h2
   rw [this,h2]
def Tu (s s':ab)(i:Nat):Bool:=((fJ s.aa (i:Int)).kind==0)&&(rp s.an (i:Int)==(i:Int)) && !(rp s'.an (i:Int)==(i:Int))
def JI (s s':ab)(i:Nat):List Int:=((af7 i).filter (Tu s s')).map fun (q:Nat)=>(q:Int)
theorem CK (i:Nat):(JI s s' i).length≤i:=by
 unfold JI
 rw [afl]
 have:=List.length_filter_le (Tu s s') (af7 i)
 rwa [agE] at this
theorem EO (v:Inv2 s)(M:lg s t)(eN:s'.aa=s.aa):∀(k i:Nat),i≤s.aa.length→s.aa.length - i<k→be.l0 m t (gx s') k (JI s s' i) (i:Int)=some (JI s s' s.aa.length,(s.aa.length:Int))
 | 0,i,h1,h2=>by omega
 | k+1,i,h1,h2=>by
  have h8:=v.inv.max
  simp only [be.l0]
  rw [gN,eN]
  by_cases hlt:i<s.aa.length
  ·have d:decide ((i:Int)<(s.aa.length:Int))=true:=by rw [decide_eq_true_eq]; omega
   have r:Rg s.aa.length (i:Int):=⟨af5 _,om⟩
   have ew:i64.wrap ((i:Int)+1)=((i+1:Nat):Int):=by rw [mf om om]; omega
   have hs:JI s s' (i+1)=JI s s' i++(if Tu s s' i=true then [(i:Int)] else []):=by
    unfold JI
    rw [List.range_succ,List.filter_append,afo]
    congr 1
    cases hb:Tu s s' i<;>simp [hb]
   have hlen:=CK (s:=s) (s':=s') i
   have ih:=EO v M eN k (i+1) om om
   rw [hs] at ih
   have ha:app 8 (JI s s' i) [(i:Int)]=some (JI s s' i++[(i:Int)]):=pU (by simp only [afc,afi]; omega)
   have r2:ix (gx s') (i:Int)=some (rp s'.an (i:Int)):=CE (by rw [eN]; exact r)
   rw [if_pos d,M.nodes,qX r,aeZ,M.bo,CE r,aeZ,r2,aeZ,ha,aeZ,ew]
   unfold Tu at ih
   cases b1:((fJ s.aa (i:Int)).kind==0)<;>cases b2:(rp s.an (i:Int)==(i:Int))<;>cases b3:(rp s'.an (i:Int)==(i:Int))<;>simp only [b1,b2,b3,Bool.and_true,Bool.and_false,afP,Bool.false_and,afT,Bool.not_false,afa,if_false,if_true,afZ] at ih ⊢<;>exact ih
  ·have d:decide ((i:Int)<(s.aa.length:Int))=false:=by rw [decide_eq_false_iff_not]; omega
   have e:i=s.aa.length:=by omega
   rw [if_neg (by rw [d]; decide),e]
theorem IA (hm:16000≤m)(v:Inv2 s)(M:lg s t)(eN:s'.aa=s.aa):be.f m t (gx s')=some (JI s s' s.aa.length):=by
 have h8:=v.inv.max
 have e:=EO (m:=m) v M eN m 0 (afU _) om
 have e:be.l0 m t (gx s') m [] 0=_:=e
 unfold be.f
 rw [e]; rfl
theorem xn (v:Inv2 s){l:List Int}(E:VH s a b l true s'):MM s.aa l=JI s s' s.aa.length:=by
 have eN:s'.aa=s.aa:=E.un.2.1
 apply AO
 ·exact CI (E.un.2.2.2.2.2.2.filter _)
 ·unfold JI
  rw [List.pairwise_map]
  exact (List.pairwise_lt_range.filter _).imp fun h=>by omega
 ·intro x
  unfold MM JI Tu
  rw [JF]
  simp only [afu,agp,agi,ae3,beq_iff_eq,agk,beq_eq_false_iff_ne]
  constructor
  ·rintro⟨hx,hk⟩
   obtain⟨x1,x2⟩:=E.un.2.2.2.1 x hx
   have x3:=E.un.2.2.2.2.2.1 x hx
   have ZB:Rg s.aa.length x:=by rw [←v.inv.len]; exact x1
   have h0:=ZB.1
   have h1:=ZB.2
   have e:((x.toNat:Nat):Int)=x:=by omega
   refine⟨x.toNat,⟨om,⟨by rw [e]; exact hk,by rw [e]; exact pj x2⟩,?_⟩,e⟩
   rw [e]
   intro h
   apply x3
   have:=E.inv.ok.rt x (by rw [E.inv.len,eN]; exact ZB)
   rwa [h] at this
  ·rintro⟨q,⟨hq,⟨hk,hr⟩,hn⟩,rfl⟩
   refine⟨?_,hk⟩
   by_cases hin:(q:Int)∈l
   ·exact hin
   ·exfalso
    have rq:Rg s.aa.length (q:Int):=⟨af5 _,om⟩
    have h1:kL s.an (q:Int)=(q:Int):=by
     have:=v.inv.ok.rt (q:Int) (v.inv.rg rq)
     rwa [hr] at this
    have:=E.un.2.2.2.2.1 (q:Int) (v.inv.rg rq) hin
    exact hn (pj (this.trans h1))
theorem VH.inv2 (v:Inv2 s){l:List Int}(E:VH s a b l true s')(M:lg s t):Inv2 s'∧lg s' ⟨t.ah,gx s',t.aK⟩:=by
 have eN:s'.aa=s.aa:=E.un.2.1
 refine⟨⟨E.inv,by rw [eN]; exact (E.yes rfl).1,by rw [eN]; exact v.vn⟩,M.made,?_,rfl⟩
 show t.ah=s'.aa
 rw [M.nodes,eN]
theorem AT {a b:Int}:qZ s [a,b]=(decide (Rg s.aa.length a)&&decide (Rg s.aa.length b)):=by
 simp [qZ]
theorem Gs (hm:2 ^ 41≤m)(v:Inv2 s)(M:lg s t)(a b:Int):∃l e s' t',di.f m s a b=some (l,e,s')∧eK.f m t a b=some (l,e,t')∧Inv2 s'∧lg s' t'∧l.length≤8000:=by
 have zN:(2:Nat) ^ 41=2199023255552:=by decide
 unfold eK.f
 rw [M.tZ,aeZ,if_neg (by decide),M.has,aeZ,M.has,aeZ]
 rcases Ip (show 2000000≤m by omega) v a b with⟨hn,_,f⟩| ⟨hn,l,ok,s1,E,_,f⟩
 ·rw [AT] at hn
  refine⟨_,_,s,t,f,?_,v,M,by simp⟩
  cases h1:decide (Rg s.aa.length a) with
  | false=>rfl
  | true=>
   rw [h1,afP] at hn
   rw [hn]; rfl
 ·obtain⟨ra,rb⟩:=Gd hn
  have eN:s1.aa=s.aa:=E.un.2.1
  obtain⟨r,e1,e2⟩:=wg hm v M ra rb E
  rw [decide_eq_true ra,decide_eq_true rb,if_neg (by decide),if_neg (by decide),e1,aeZ]
  cases ok with
  | false=>exact⟨_,_,s,t,f,rfl,v,M,by simp⟩
  | true=>
   have:=e2 rfl
   subst this
   obtain⟨v',M'⟩:=E.inv2 v M
   rw [if_pos rfl] at f
   refine⟨_,_,s1,_,f,?_,v',M',?_⟩
   ·simp only [afT,afa,if_false]
    rw [IA om v M eN,xn v E]; rfl
   ·rw [xn v E]
    have:=CK (s:=s) (s':=s1) s.aa.length
    have:=v.inv.max
    omega
theorem JJ (hm:2 ^ 41≤m)(v:Inv2 s)(M:lg s t)(a b:Int):∃n l e,dG.f m s a b=some (n,l,e,s)∧fe.f m t a b=some (n,l,e)∧l.length≤8000:=by
 have zN:(2:Nat) ^ 41=2199023255552:=by decide
 unfold fe.f
 rw [M.tZ,aeZ,if_neg (by decide),M.has,aeZ,M.has,aeZ]
 rcases Ip (show 2000000≤m by omega) v a b with⟨hn,f,_⟩| ⟨hn,l,ok,s1,E,f,_⟩
 ·rw [AT] at hn
  refine⟨_,_,_,f,?_,by simp⟩
  cases h1:decide (Rg s.aa.length a) with
  | false=>rfl
  | true=>
   rw [h1,afP] at hn
   rw [hn]; rfl
 ·obtain⟨ra,rb⟩:=Gd hn
  have eN:s1.aa=s.aa:=E.un.2.1
  obtain⟨r,e1,e2⟩:=wg hm v M ra rb E
  rw [decide_eq_true ra,decide_eq_true rb,if_neg (by decide),if_neg (by decide),e1,aeZ]
  cases ok with
  | false=>exact⟨_,_,_,f,rfl,by simp⟩
  | true=>
   have:=e2 rfl
   subst this
   rw [if_pos rfl] at f
   simp only [afT,afa,if_false]
   rw [IA om v M eN,←xn v E,aeZ]
   by_cases hb:MM s.aa l=[]
   ·rw [if_pos hb] at f
    rw [hb]
    exact⟨_,_,_,f,rfl,by simp⟩
   ·rw [if_neg hb] at f
    refine⟨_,_,_,f,?_,?_⟩
    ·have:0<(MM s.aa l).length:=List.length_pos_iff.2 hb
     have d:decide (((MM s.aa l).length:Int) > 0)=true:=by rw [decide_eq_true_eq]; omega
     rw [d,if_pos rfl]
    ·rw [xn v E]
     have:=CK (s:=s) (s':=s1) s.aa.length
     have:=v.inv.max
     omega
theorem JK (hm:2 ^ 63≤m)(v:Inv2 s)(M:lg s t)(x:cH)(hx:x.fO.length≤40):∃s' t',jK.f m s t x=some (true,s',t')∧Inv2 s'∧lg s' t':=by
 have zN:(2:Nat) ^ 41=2199023255552:=by decide
 have p63:(2:Nat) ^ 63=9223372036854775808:=by decide
 have zj:2 ^ 41≤m:=by omega
 have Tv:2000000≤m:=by omega
 unfold jK.f
 by_cases k0:x.fN=0
 ·rw [if_pos (by rw [k0]; rfl)]
  obtain⟨k,e,s',t',e1,e2,v',M'⟩:=ou (m:=m) v M true ⟨0,0,⟨#[]⟩,[]⟩ (fun _=>⟨rfl,rfl,rfl⟩) (fun h=>absurd rfl h) Tv
  refine⟨s',t',?_,v',M'⟩
  simp only [gz.f,fl.f,gC.f,e1,e2,aeZ,BEq.rfl,if_true]
 rw [if_neg (by simpa using k0)]
 by_cases k1:x.fN=1
 ·rw [if_pos (by rw [k1]; rfl)]
  have h1:eH.f m x.pV=some (dt ⟨1,x.pV,⟨#[]⟩,[]⟩ s.aa.length):=by
   unfold eH.f dt
   by_cases c1 : -1099511627776≤x.pV
   ·rw [if_pos (by simpa using c1)]
    simp [c1]
   ·rw [if_neg (by simpa using c1)]
    simp [c1]
  obtain⟨k,e,s',t',e1,e2,v',M'⟩:=ou (m:=m) v M _ ⟨1,x.pV,⟨#[]⟩,[]⟩ (fun h=>by cases h) (fun _=>rfl) Tv
  refine⟨s',t',?_,v',M'⟩
  simp only [gA.f,h1,gD.f,e1,e2,aeZ,BEq.rfl,if_true]
 rw [if_neg (by simpa using k1)]
 by_cases k2:x.fN=2
 ·rw [if_pos (by rw [k2]; rfl)]
  have h1:dW.f m x.cP=some (dt ⟨2,0,x.cP,[]⟩ s.aa.length):=by
   unfold dW.f dt
   rw [rB om]
   simp
  obtain⟨k,e,s',t',e1,e2,v',M'⟩:=ou (m:=m) v M _ ⟨2,0,x.cP,[]⟩ (fun h=>by cases h) (fun _=>rfl) Tv
  refine⟨s',t',?_,v',M'⟩
  simp only [fW.f,h1,fX.f,e1,e2,aeZ,BEq.rfl,if_true]
 rw [if_neg (by simpa using k2)]
 by_cases k3:x.fN=3
 ·rw [if_pos (by rw [k3]; rfl)]
  have h1:dI.f m x.cP x.fO s=some (dt ⟨3,0,x.cP,x.fO⟩ s.aa.length):=by
   unfold dI.f dt
   rw [rB om,aeZ]
   simp only [show ¬((3:Int)=0) by decide,show ¬((3:Int)=1) by decide,show ¬((3:Int)=2) by decide,if_false,if_true,BEq.rfl,afP]
   cases GA:oo x.cP with
   | false=>simp
   | true=>
    rw [if_pos rfl,afP]
    by_cases c1:1≤x.fO.length
    ·rw [if_pos (by rw [decide_eq_true_eq]; omega),decide_eq_true c1,afP]
     by_cases c2:x.fO.length≤8
     ·rw [if_pos (by rw [decide_eq_true_eq]; omega),decide_eq_true c2,afP]
      rw [yY Tv x.fO om (g:=fun n=>!decide (Rg s.aa.length n)) (fun a _=>by simp only [dL.f,H5,aeZ]),aeZ]
      congr 1
      rw [List.not_any_eq_all_not]
      congr 1
      funext n
      unfold Rg
      by_cases h1:0≤n<;>by_cases h2:n<s.aa.length<;>simp [h1,h2]
     ·rw [if_neg (by rw [decide_eq_true_eq]; omega),decide_eq_false c2]; rfl
    ·rw [if_neg (by rw [decide_eq_true_eq]; omega),decide_eq_false c1]; rfl
  have hc:NG 1 x.fO=some x.fO:=by unfold NG; rw [if_pos om]
  obtain⟨k,e,s',t',e1,e2,v',M'⟩:=ou (m:=m) v M _ ⟨3,0,x.cP,x.fO⟩ (fun h=>by cases h) (fun _=>rfl) Tv
  refine⟨s',t',?_,v',M'⟩
  simp only [fD.f,hc,h1,fE.f,e1,e2,aeZ,BEq.rfl,if_true]
 rw [if_neg (by simpa using k3)]
 by_cases k4:x.fN=4
 ·rw [if_pos (by rw [k4]; rfl)]
  have h1:dV.f m x.cP x.pV=some (dt ⟨4,x.pV,x.cP,[]⟩ s.aa.length):=by
   unfold dV.f dt
   rw [AI,aeZ]
   cases hn:AH x.cP<;>simp
  obtain⟨k,e,s',t',e1,e2,v',M'⟩:=ou (m:=m) v M _ ⟨4,x.pV,x.cP,[]⟩ (fun h=>by cases h) (fun _=>rfl) Tv
  refine⟨s',t',?_,v',M'⟩
  simp only [fU.f,h1,fY.f,e1,e2,aeZ,BEq.rfl,if_true]
 rw [if_neg (by simpa using k4)]
 by_cases k5:x.fN=5
 ·rw [if_pos (by rw [k5]; rfl)]
  obtain⟨k,e,s',t',e1,e2,v',M'⟩:=Nn zj v M x.rY
  refine⟨s',t',?_,v',M'⟩
  simp only [e1,e2,aeZ,BEq.rfl,if_true]
 rw [if_neg (by simpa using k5)]
 by_cases k6:x.fN=6
 ·rw [if_pos (by rw [k6]; rfl)]
  obtain⟨l,e,s',t',e1,e2,v',M',hl⟩:=Gs zj v M x.pV x.zE
  refine⟨s',t',?_,v',M'⟩
  simp only [e1,e2,aeZ,AM l om hm,BEq.rfl,if_true]
 rw [if_neg (by simpa using k6)]
 by_cases k7:x.fN=7
 ·rw [if_pos (by rw [k7]; rfl)]
  obtain⟨n,l,e,e1,e2,hl⟩:=JJ zj v M x.pV x.zE
  refine⟨s,t,?_,v,M⟩
  simp only [e1,e2,aeZ,AM l om hm,BEq.rfl,if_true]
 rw [if_neg (by simpa using k7)]
 exact⟨s,t,rfl,v,M⟩
end
end Go.Proofs.YtifafejidnjckaaGreat
namespace Go.Proofs.YtifafejidnjckaaGreat
open Go Go.R
open Go.IntKind (i64 u64 u8 u32)
def Gt:List AV:=[.int .i64 0,.int .i64 0,.str (afC #[]),.nils]
def pt:Nat→List AV
 | 0=>[]
 | k+1=>Gt++pt k
theorem zg:∀k,(pt k).length=k*4
 | 0=>rfl
 | k+1=>by rw [pt,afb,zg k]; simp [Gt]; omega
theorem AU:∀k,jU Gt k=pt k
 | 0=>rfl
 | k+1=>by rw [jU,pt,AU k]
theorem vm:∀k,dH (pt k)=true
 | 0=>rfl
 | k+1=>by
  show dH (_::_::_::_::pt k)=true
  simp only [dH,AV.fK,vm k,Bool.and_self]
theorem AW:∀k,en (pt k)=af.l (afh k ⟨0,0,⟨#[]⟩,[]⟩)
 | 0=>rfl
 | k+1=>by
  show en (_::_::_::_::pt k)=_
  rw [List.replicate_succ,bY.gy]
  simp only [en,AV.lH,AW k]
  rfl
def EP (l:List ai):AV:=.fz (pt l.length) l.length false
section
variable {P:Program}{t b:Nat}{h:AHeap}{K:Mem}
theorem Pg {n:Int}{r:List ai}(T:zA P t 4 b=true)(o:Has h K)(e0:TypeId)(Xg:P.underlying t=some (.slice e0))(hz0:jX P e0=some (.agg Gt))(hr:sr b n (⟨0,0,⟨#[]⟩,[]⟩:ai)=some r) :
  ∃i h',iq P h t (.int .i64 n) (.int .i64 n)=some (.rs i 0 r.length 4,h')∧Has h' ((i,.sl r.length 4 (pt r.length))::K):=by
 have hz:∀e,P.underlying t=some (.slice e)→jX P e=some (.agg Gt):=fun e he=>by
  rw [Xg] at he; cases he; exact hz0
 unfold sr at hr
 split at hr
 rotate_left
 ·cases hr
 rename_i lJ
 obtain⟨h0,h1⟩:=lJ
 cases hr
 obtain⟨e,inf,g1,g2,g3,g4,g5,g6⟩:=kV T
 rw [Nat.mul_add,agI] at h1
 refine⟨h.next,h.alloc (.cells (pt n.toNat)),?_,?_⟩
 ·simp only [iq,g1,aeZ,g2,hz e g1,show (AV.agg Gt).cells=Gt from rfl,AU,afW,g3,g4]
  have hb:n*(b:Int)≤ia:=by
   have:n*(b:Int)=((n.toNat*b:Nat):Int):=by
    rw [Int.natCast_mul,Int.toNat_of_nonneg h0]
   simp only [ia]
   rw [this]
   omega
  rw [if_pos ⟨h0,Int.le_refl _,hb,rfl,by decide,om,rfl⟩]
 ·rw [afW]
  refine o.new (fun k hk=>by rw [AHeap.alloc,dC,if_neg om]) (agb _) (.inr (ae4 _)) (afL _) ⟨⟨zg _,by rw [zg]; omega⟩,.inr ⟨by have:=o.pos; omega,[],by rw [AHeap.alloc,dC,if_pos rfl]; simp⟩⟩
theorem Ph {i:Nat}{k q:Nat}(o:Has h K)(hq:K[q]? = some (i,.sl k 4 (pt k))):∃h',kP 0 h (.rs i 0 k 4)=some (.fz (pt k) k false,h')∧Has h' (K.eraseIdx q):=by
 obtain⟨⟨⟨hlen,uf⟩,nf⟩,hlt⟩:=o.at_ _ _ _ hq
 rcases nf with⟨h0,h1⟩| ⟨h0,rest,h1⟩
 ·subst h1
  exact⟨h,by simp [kP,h0,pt],o.del q⟩
 ·refine⟨h.kill i,?_,?_⟩
  ·simp only [kP]
   rw [if_neg h0,h1]
   simp only [aeZ]
   have e1:((pt k++rest).drop 0).take (k*4)=pt k:=by
    rw [afw,afy (by rw [hlen]; exact ae4 _),afA (by rw [hlen]; exact ae4 _)]
   rw [e1,if_pos (by rw [afb,hlen]; omega),rm (vm k)]
   rfl
  ·have o2:=o.I5 (i':=0) (c':=.sl 0 1 []) (h':=h.kill i) hq (fun k hk _=>by rw [xY,if_neg hk]) (agb _) (.inr (.inl rfl)) (Nat.succ_pos _) ⟨⟨by simp,by simp⟩,.inl ⟨rfl,rfl⟩⟩
   have:=o2.del q
   rwa [List.eraseIdx_set_eq] at this
end
theorem ov {b:Nat}{n:Int}{r:List ai}(hr:sr b n (⟨0,0,⟨#[]⟩,[]⟩:ai)=some r):aP (EP r)=af.fz r:=by
 have:r=afh r.length ⟨0,0,⟨#[]⟩,[]⟩:=by
  unfold sr at hr
  split at hr
  ·cases hr; rw [afW]
  ·cases hr
 unfold aP EP
 rw [show (AV.fz (pt r.length) r.length false).fK=true from vm _]
 show AV.fz (en (pt r.length)) r.length false=_
 rw [AW]
 unfold bY.fz
 rw [←this]
end Go.Proofs.YtifafejidnjckaaGreat
