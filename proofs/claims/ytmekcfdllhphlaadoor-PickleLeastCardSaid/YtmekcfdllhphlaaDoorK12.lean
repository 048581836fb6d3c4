/- Part of the proof: PB11, PU3, PV2, Q12, Q17, Q3, PU4, Q20, Q63, Q66, Q64, Q46, Q24, PV3, Q8, PV7. -/
import Derived.Test.YtmekcfdllhphlaaDoorK11
set_option linter.unusedVariables false
set_option linter.unusedSimpArgs false
set_option maxRecDepth 100000
open Bool renaming and_eq_true → QR
open Int renaming toNat_natCast → QT
open List renaming getElem?_eq_some_iff → QX, mem_singleton → QY, getElem?_eq_getElem → QZ, length_append → Q0, getD_eq_getElem?_getD → Q5, mem_append → Q7, drop_eq_getElem_cons → Q9, getElem?_eq_none → Ra, length_set → Rb, replicate → Rc, all_eq_true → Rd, getElem?_append_right → Rg, map_append → Ri, mem_map → Rj, getElem?_map → Rk, map_cons → Rq, drop_zero → Rr, getElem?_append_left → Rs, mem_cons → Rt, take_of_length_le → Rw, drop_eq_nil_of_le → Rz, length_cons → RA, length_map → RE, ext_getElem? → RJ, length_nil → RN, getElem_mem → RW, map_congr_left → Sk, length_take → Sx, getElem_of_mem → Sy, range → SC
open List.cons renaming inj → R6
open Nat renaming le_refl → QS, lt_succ_self → RB
open Option renaming bind_some → QM, bind_eq_some_iff → QN, map_some → QU
open Option.some renaming injEq → QQ, inj → Rf
open Or renaming inr → Sa
namespace Go.Proofs.YtmekcfdllhphlaaDoor
open Go Go.R
open Go.IntKind (i64 u64 u8 u32)
inductive Way (l:List aa):Nat→Nat→Prop
 | one {i k:Nat}:k<na l i→Way l i (ar l i k)
 | more {i j k:Nat}:Way l i j→k<na l j→Way l i (ar l j k)
theorem DM {l:List aa}{c od:List Int}(ok:iD l)(M:Gl l c od){i j:Nat}(w:Way l i j)(hi:i<l.length):j<l.length∧∀x:Nat,x<l.length→(x:Int)∈od→gt c x=gt c i→∃y:Nat,y<l.length∧gt c y=gt c j∧(y:Int)∈od∧od.idxOf (y:Int)<od.idxOf (x:Int):=by
 induction w with
 | @one k hk=>
  refine⟨(iu ok hi hk).1,fun x hx IJ e=>?_⟩
  have hA:=M.min.top i x hi hx e.symm
  have No:k<na l x:=by have:=hA.len; unfold na at *; omega
  obtain⟨r1,r2⟩:=M.qX x IJ k No
  exact⟨ar l x k,(iu ok hx No).1,(M.min.arg i x hi hx e.symm k hk).symm,r1,r2⟩
 | @more j k w hk ih=>
  obtain⟨hj,ih⟩:=ih
  refine⟨(iu ok hj hk).1,fun x hx IJ e=>?_⟩
  obtain⟨y,hy,ey,LA,hlt⟩:=ih x hx IJ e
  have hA:=M.min.top j y hj hy ey.symm
  have Np:k<na l y:=by have:=hA.len; unfold na at *; omega
  obtain⟨r1,r2⟩:=M.qX y LA k Np
  exact⟨ar l y k,(iu ok hy Np).1,(M.min.arg j y hj hy ey.symm k hk).symm,r1,by omega⟩
theorem wZ {l:List aa}{c od:List Int}(ok:iD l)(M:Gl l c od)(h0:0<l.length)(hw:∀j,0<j→j<l.length→Way l 0 j):gt c 0=0:=by
 obtain⟨r1,r2,r3⟩:=M.mG 0 h0
 by_cases Nq:((0:Nat):Int)∈od
 ·by_cases hz:gt c 0=0
  ·exact hz
  ·exfalso
   have w:=hw (gt c 0).toNat (by omega) (by omega)
   have key:∀N x:Nat,od.idxOf (x:Int)<N→x<l.length→(x:Int)∈od→gt c x=gt c 0→False:=by
    intro N
    induction N with
    | zero=>intro x h; omega
    | succ N ih=>
     intro x hN hx IJ e
     obtain⟨y,hy,ey,LA,hlt⟩:=(DM ok M w h0).2 x hx IJ e
     exact ih y (by omega) hy LA (by rw [ey,r3])
   exact key _ 0 (RB _) h0 Nq rfl
 ·have:=M.PG 0 h0 Nq
  omega
theorem lock {l P5:List aa}{κ1:Int→Int}{K2:Int→Int}{Can:Int→Prop}(LB:∀v w,Can v→Can w→K2 v=K2 w→v=w)
  (hargs:∀a v:Int,0≤a→a<l.length→Can v→κ1 a=K2 v→(nd l a).args.map κ1=(nd P5 v).args.map K2) (LC:∀v,Can v→∀a∈(nd P5 v).args,Can a) (ok:iD l) {DI o2 CG:List Int}
  (h:qv id (fun v=>(nd P5 v).args) DI o2 CG):∀qK o1:List Int,qK.map κ1=DI.map K2→o1.map κ1=o2.map K2→(∀b∈DI,Can b)→(∀b∈o2,Can b)→(∀a∈qK,0≤a∧a<l.length)→
  ∃GX,qv κ1 (fun v=>(nd l v).args) qK o1 GX∧GX.map κ1=CG.map K2:=by
 induction h with
 | nil o=>
  intro qK o1 hs ho _ _ _
  have:qK=[]:=by simpa using hs
  subst this
  exact⟨o1,.nil o1,ho⟩
 | @skip v st o o' hm _ ih=>
  intro qK o1 hs ho c1 c2 hr
  cases qK with
  | nil=>simp at hs
  | cons a qK=>
   simp only [Rq,List.cons.injEq] at hs
   obtain⟨GX,k1,k2⟩:=ih qK o1 hs.2 ho (fun b hb=>c1 b (by simp [hb])) c2 (fun x hx=>hr x (by simp [hx]))
   refine⟨GX,.skip ?_ k1,k2⟩
   rw [hs.1,ho]
   exact Rj.2 ⟨v,by simpa using hm,rfl⟩
 | @push v st o o' hn _ ih=>
  intro qK o1 hs ho c1 c2 hr
  cases qK with
  | nil=>simp at hs
  | cons a qK=>
   simp only [Rq,List.cons.injEq] at hs
   have hv:=c1 v (by simp)
   have ha:=hr a (by simp)
   have e:=hargs a v ha.1 ha.2 hv hs.1
   obtain⟨GX,k1,k2⟩:=ih ((nd l a).args++qK) (o1++[a]) (by rw [Ri,Ri,e,hs.2]) (by rw [Ri,Ri,ho]; simp [hs.1]) (fun b hb=>by
    rcases Q7.1 hb with hb | hb
    ·exact LC v hv b hb
    ·exact c1 b (by simp [hb])) (fun b hb=>by
    rcases Q7.1 hb with hb | hb
    ·exact c2 b hb
    ·rw [QY] at hb; subst hb; exact hv) (fun x hx=>by
    rcases Q7.1 hx with hx | hx
    ·exact (ok.2 _ (dq ha.1 ha.2)).2 x hx
    ·exact hr x (by simp [hx]))
   refine⟨GX,.push ?_ k1,k2⟩
   rw [hs.1,ho]
   intro hm
   obtain⟨w,w1,w2⟩:=Rj.1 hm
   have:=LB v w hv (c2 w w1) w2.symm
   subst this
   exact hn (by simpa using w1)
theorem Cd {m:Nat}(hm:2 ^ 41≤m){t:aw}(h:cC t=true):∃s,bA.f m t=some s∧ax.f m t.nodes t.root=some s:=by
 have lz:(2:Nat) ^ 30=1073741824:=by decide
 have tj:(2:Nat) ^ 41=2199023255552:=by decide
 have zG:2 ^ 30≤m:=by omega
 obtain⟨ok,h1,r0,r1,hT⟩:=fu h
 obtain⟨r,ns,e1,M,Q,_⟩:=jo hm h
 have h8:=ok.1
 generalize hl:t.nodes=l at *
 have LD:qv (cW r) (fun v=>(nd l v).args) [t.root] [] (nT r l m t.root []):=mr ok m t.root [] [] _ r0 r1 ⟨by simp,fun x hx=>by cases hx⟩ (by simp; omega) (.nil _)
 obtain⟨S,s1,s2⟩:=mw zG ok r0 r1
 have hA:∀v:Int,0≤v→v<l.length→∀a∈(nd l v).args,0≤a∧a<l.length:=fun v a b=>(ok.2 _ (dq a b)).2
 obtain⟨_,Sr,Sn,_,Sc⟩:=s2.facts hA (fun v hv=>by rw [QY] at hv; subst hv; exact⟨r0,r1⟩) (fun v hv=>by cases hv) (by simp)
 rw [List.map_id] at Sn
 have Sc:∀v∈S,∀a∈(nd l v).args,a∈S:=fun v hv a ha=>by have:=Sc (fun v hv=>by cases hv) v hv a ha; simpa using this
 have S0:∃T,S=t.root::T:=by
  cases s2 with
  | skip xl _=>simp at xl
  | push _ k=>
   obtain⟨⟨T,e⟩,_⟩:=k.facts hA (fun v hv=>by
    rcases Q7.1 hv with hv | hv
    ·exact hA _ r0 r1 v hv
    ·cases hv) (fun v hv=>by simp at hv; subst hv; exact⟨r0,r1⟩) (by simp)
   exact⟨T,by simpa using e⟩
 have Sl:S.length≤l.length:=mu Sn Sr
 have Sp:0<S.length:=by obtain⟨T,rfl⟩:=S0; simp
 have Ew:gt S 0=t.root:=by obtain⟨T,rfl⟩:=S0; rfl
 have IK:=s2.from (root:=t.root) (fun v hv=>by rw [QY] at hv; exact .inl hv) (fun i hi=>absurd hi (by simp))
 have e0:qO 8 (l.length:Int) (0:Int)=some (Rc l.length 0):=by unfold qO; rw [if_pos ⟨by omega,by rw [QT]; omega⟩,QT]
 obtain⟨pl,x1,p1,p2,p3⟩:=uW (m:=m) Sn (by omega) m 0 (Rc l.length 0) (by omega) (by omega) (by simpa using Sr) (fun q hq=>absurd hq (by omega))
 rw [List.length_replicate] at p2
 have p1:ax.l0 m S m (Rc l.length 0) 0=_:=p1
 obtain⟨x2,p4⟩:=yq zG ok Sr (by omega) p2 m 0 (by omega) (by omega)
 have p4:ax.l1 m l S pl m [] 0=_:=p4
 generalize LF:(S.map fun s=>pm pl (nd l s))=P1 at p4
 have Jn:P1.length=S.length:=by rw [←LF]; simp
 have Ey:∀i:Nat,i<S.length→nd P1 i=pm pl (nd l (gt S i)):=fun i hi=>by rw [←LF,DL hi]
 have Jo:∀{x:Int},x∈S→gt S (gt pl x.toNat).toNat=x∧0≤gt pl x.toNat∧gt pl x.toNat<S.length:=fun hx=>by
  obtain⟨q,hq,e⟩:=dt hx
  have:=p3 q hq
  rw [e] at this
  rw [this,QT]; exact⟨e,by omega,by omega⟩
 have LG:∀i:Nat,i<S.length→∀a∈(nd l (gt S i)).args,a∈S:=fun i hi=>Sc _ (aE hi)
 have zQ:iD P1:=by
  refine⟨by omega,fun n hn=>?_⟩
  rw [←LF] at hn
  obtain⟨s,hs,rfl⟩:=Rj.1 hn
  have hr:=Sr s hs
  refine⟨by simpa [pm] using (ok.2 _ (dq hr.1 hr.2)).1,fun a ha=>?_⟩
  obtain⟨x,hx,rfl⟩:=Rj.1 ha
  have:=Jo (Sc s hs x hx)
  rw [Jn]; exact this.2
 obtain⟨c,od,c1,C⟩:=uV zG zQ
 have cl:c.length=P1.length:=C.min.len
 have LH:∀i:Nat,i<S.length→na P1 i=na l (gt S i).toNat:=fun i hi=>by
  have:=Sr _ (aE hi)
  unfold na
  rw [Ey i hi]
  show ((nd l (gt S i)).args.map _).length=_
  rw [RE,show (((gt S i).toNat:Nat):Int)=gt S i by omega]
 have IL:∀i:Nat,i<S.length→∀k,k<na P1 i→gt S (ar P1 i k)=gt (nd l (gt S i)).args k:=fun i hi k hk=>by
  have mR:k<(nd l (gt S i)).args.length:=by
   have:=hk; unfold na at this; rw [Ey i hi] at this; simpa [pm] using this
  have hx:=LG i hi _ (aE mR)
  have:gt (nd P1 i).args k=gt pl (gt (nd l (gt S i)).args k).toNat:=by
   rw [Ey i hi]
   have h1:=aV (l:=(pm pl (nd l (gt S i))).args) (k:=k) (by simpa [pm] using mR)
   have h2:(pm pl (nd l (gt S i))).args[k]? = some (gt pl (gt (nd l (gt S i)).args k).toNat):=by
    show ((nd l (gt S i)).args.map _)[k]? = _
    rw [Rk,aV mR]; rfl
   rw [h2] at h1; exact (Rf h1).symm
  unfold ar
  rw [this]
  exact (Jo hx).1
 have PK:∀j,0<j→j<P1.length→Way P1 0 j:=by
  have:∀N j,j<N→0<j→j<P1.length→Way P1 0 j:=by
   intro N
   induction N with
   | zero=>intro j h; omega
   | succ N ih=>
    intro j hN hj QK
    rcases IK j (by omega) with e | ⟨q,hq,xl⟩
    ·have:=qi Sn (by omega) Sp (e.trans Ew.symm)
     omega
    ·obtain⟨k,hk,e⟩:=dt xl
     have Af:k<na P1 q:=by unfold na; rw [Ey q (by omega)]; simpa [pm] using hk
     have h2:=IL q (by omega) k Af
     rw [e] at h2
     have h3:=(iu zQ (i:=q) (by omega) Af).1
     have e4:ar P1 q k=j:=qi Sn (by omega) (by omega) h2
     rw [←e4]
     by_cases PL:q=0
     ·subst PL; exact .one Af
     ·exact .more (ih q (by omega) (by omega) (by omega)) Af
  exact fun j=>this (j+1) j (RB _)
 have PM:gt c 0=0:=wZ zQ C (by omega) PK
 have uY:∀i:Nat,i<S.length→(((gt S i).toNat:Nat):Int)=gt S i∧(gt S i).toNat<l.length:=fun i hi=>by have:=Sr _ (aE hi); omega
 have Nr:∀i j:Nat,i<S.length→j<S.length→(Alike (nd P1 i) (nd P1 j)↔Alike (nd l (gt S i)) (nd l (gt S j))):=fun i j hi hj=>by
  rw [Ey i hi,Ey j hj]
  constructor
  ·intro z; exact⟨z.kind,z.int,z.label,by have:=z.len; simpa [pm] using this⟩
  ·intro z; exact⟨z.kind,z.int,z.label,by have:=z.len; simpa [pm] using this⟩
 have cr:∀i j:Nat,i<S.length→j<S.length→(gt c i=gt c j↔gt r (gt S i).toNat=gt r (gt S j).toNat):=fun i j hi hj=>by
  constructor
  ·intro e
   refine M.max (fun a b=>∃i j:Nat,i<S.length∧j<S.length∧a=(gt S i).toNat∧b=(gt S j).toNat∧gt c i=gt c j) ⟨?_,?_,?_⟩ _ _ ⟨i,j,hi,hj,rfl,rfl,e⟩
   ·rintro a b ⟨i,j,hi,hj,rfl,rfl,_⟩
    exact⟨(uY i hi).2,(uY j hj).2⟩
   ·rintro a b ⟨i,j,hi,hj,rfl,rfl,e⟩
    rw [(uY i hi).1,(uY j hj).1]
    exact (Nr i j hi hj).1 (C.min.top i j (by omega) (by omega) e)
   ·rintro a b ⟨i,j,hi,hj,rfl,rfl,e⟩ k hk
    rw [(uY i hi).1] at hk ⊢
    rw [(uY j hj).1]
    have oD:k<na P1 i:=by rw [LH i hi]; unfold na; rw [(uY i hi).1]; exact hk
    have GN:k<na P1 j:=by have:=(C.min.top i j (by omega) (by omega) e).len; unfold na at *; omega
    have a1:=(iu zQ (i:=i) (by omega) oD).1
    have a2:=(iu zQ (i:=j) (by omega) GN).1
    refine⟨ar P1 i k,ar P1 j k,by omega,by omega,?_,?_,C.min.arg i j (by omega) (by omega) e k oD⟩
    ·rw [IL i hi k oD]
    ·rw [IL j hj k GN]
  ·intro e
   refine C.min.max (fun a b=>a<S.length∧b<S.length∧gt r (gt S a).toNat=gt r (gt S b).toNat) ⟨?_,?_,?_⟩ i j ⟨hi,hj,e⟩
   ·rintro a b ⟨h1,h2,_⟩; omega
   ·rintro a b ⟨h1,h2,e⟩
    refine (Nr a b h1 h2).2 ?_
    have:=M.top _ _ (uY a h1).2 (uY b h2).2 e
    rwa [(uY a h1).1,(uY b h2).1] at this
   ·rintro a b ⟨h1,h2,e⟩ k hk
    have hA:=M.top _ _ (uY a h1).2 (uY b h2).2 e
    have De:k<na P1 a:=hk
    have CN:k<(nd l (((gt S a).toNat:Nat):Int)).args.length:=by have:=LH a h1; unfold na at this De; omega
    have hkb:k<na P1 b:=by rw [LH b h2]; have:=hA.len; unfold na; omega
    have g:=M.arg _ _ (uY a h1).2 (uY b h2).2 e k CN
    rw [(uY a h1).1,(uY b h2).1] at g
    have a1:=(iu zQ (i:=a) (by omega) De).1
    have a2:=(iu zQ (i:=b) (by omega) hkb).1
    refine⟨by show ar P1 a k<_; omega,by show ar P1 b k<_; omega,?_⟩
    show gt r (gt S (ar P1 a k)).toNat=gt r (gt S (ar P1 b k)).toNat
    rw [IL a h1 k De,IL b h2 k hkb]; exact g
 obtain⟨x3,p5⟩:=yt zG zQ cl m 0 P1 (by omega) (by omega) rfl (fun q hq=>by rw [if_neg (by omega)])
 have p5:ax.l3 m c m P1 0=_:=p5
 have Ns:∀i:Nat,i<S.length→nd (P1.map (pm c)) i=pm c (nd P1 i):=fun i hi=>B9 (by omega)
 have Gp:∀i:Nat,i<S.length→0≤gt c i∧gt c i<S.length∧gt c (gt c i).toNat=gt c i:=fun i hi=>by have:=C.mG i (by omega); rw [Jn] at this; exact this
 have LI:iD (P1.map (pm c)):=by
  refine⟨by simp; omega,fun n hn=>?_⟩
  obtain⟨n1,ET,rfl⟩:=Rj.1 hn
  obtain⟨q1,q2⟩:=zQ.2 n1 ET
  refine⟨by simpa [pm] using q1,fun a ha=>?_⟩
  obtain⟨x,hx,rfl⟩:=Rj.1 ha
  have:=q2 x hx
  have:=Gp x.toNat (by omega)
  rw [RE,Jn]; omega
 obtain⟨T,t1,t2⟩:=mw zG LI (root:=0) (by omega) (by simp; omega)
 generalize PN:P1.map (pm c)=P5 at *
 have QL:P5.length=S.length:=by rw [←PN]; simp [Jn]
 have PO:∀v:Int,0≤v→v<P5.length→∀a∈(nd P5 v).args,0≤a∧a<P5.length:=fun v a b=>(LI.2 _ (dq a b)).2
 obtain⟨_,Tr,Tn,_,Tc⟩:=t2.facts PO (fun v hv=>by rw [QY] at hv; subst hv; omega) (fun v hv=>by cases hv) (by simp)
 rw [List.map_id] at Tn
 have Tc:∀v∈T,∀a∈(nd P5 v).args,a∈T:=fun v hv a ha=>by have:=Tc (fun v hv=>by cases hv) v hv a ha; simpa using this
 have Tl:T.length≤P5.length:=mu Tn Tr
 obtain⟨LJ,x4,p6,p7,p8⟩:=uX (m:=m) Tn (by omega) m 0 pl (by omega) (by omega) (fun s hs=>by have:=Tr s hs; omega) (fun q hq=>absurd hq (by omega))
 have p6:ax.l5 m T m pl 0=_:=p6
 obtain⟨x5,p9⟩:=Cc (m:=m) zG LI Tr (by omega) (pl:=LJ) (by omega) m 0 (by omega) (by omega)
 have p9:ax.l6 m P5 T LJ m 0 [] 0=_:=p9
 let K2:Int→Int:=fun b=>cW r (gt S b.toNat)
 let Can:Int→Prop:=fun b=>0≤b∧b<S.length∧gt c b.toNat=b
 have Nt:∀x:Int,x∈S→K2 (gt c (gt pl x.toNat).toNat)=cW r x:=fun x hx=>by
  obtain⟨i1,i2,i3⟩:=Jo hx
  obtain⟨g1,g2,g3⟩:=Gp (gt pl x.toNat).toNat (by omega)
  show cW r (gt S (gt c (gt pl x.toNat).toNat).toNat)=_
  have:=(cr (gt c (gt pl x.toNat).toNat).toNat (gt pl x.toNat).toNat (by omega) (by omega)).1 g3
  unfold cW
  rw [this,i1]
 have yu:∀v:Int,0≤v→v<S.length→(nd P5 v).args=(nd l (gt S v.toNat)).args.map fun x=>gt c (gt pl x.toNat).toNat:=fun v v0 v1=>by
  have:=Ns v.toNat (by omega)
  rw [show ((v.toNat:Nat):Int)=v by omega] at this
  rw [this]
  have h2:=Ey v.toNat (by omega)
  rw [show ((v.toNat:Nat):Int)=v by omega] at h2
  rw [h2]
  show ((nd l (gt S v.toNat)).args.map _).map _=_
  rw [List.map_map]; rfl
 have same:∀a b:Int,0≤a→a<l.length→0≤b→b<l.length→cW r a=cW r b→Alike (nd l a) (nd l b)∧(nd l a).args.map (cW r)=(nd l b).args.map (cW r):=fun a b a0 a1 b0 b1 e=>by
  have ea:((a.toNat:Nat):Int)=a:=by omega
  have eb:((b.toNat:Nat):Int)=b:=by omega
  have e:gt r a.toNat=gt r b.toNat:=e
  have hA:=M.top a.toNat b.toNat (by omega) (by omega) e
  have hg:=M.arg a.toNat b.toNat (by omega) (by omega) e
  rw [ea,eb] at hA hg
  refine⟨hA,RJ fun k=>?_⟩
  simp only [Rk]
  by_cases hk:k<(nd l a).args.length
  ·rw [aV hk,aV (by have:=hA.len; omega)]
   simp only [QU,QQ]
   exact hg k hk
  ·rw [Ra (by omega),Ra (by have:=hA.len; omega)]
 obtain⟨o1,q1,q2⟩:=lock (l:=l) (P5:=P5) (κ1:=cW r) (K2:=K2) (Can:=Can) (fun v w hv hw e=>by
   have:=(cr v.toNat w.toNat (by have:=hv.1; have:=hv.2.1; omega) (by have:=hw.1; have:=hw.2.1; omega)).2 e
   rw [hv.2.2,hw.2.2] at this; exact this) (fun a v a0 a1 hv e=>by
   have hS:=aE (l:=S) (k:=v.toNat) (by have:=hv.1; have:=hv.2.1; omega)
   have hr:=Sr _ hS
   rw [(same a _ a0 a1 hr.1 hr.2 e).2,yu v hv.1 hv.2.1,List.map_map]
   refine Sk fun x hx=>?_
   exact (Nt x (Sc _ hS x hx)).symm) (fun v hv a ha=>by
   rw [yu v hv.1 hv.2.1] at ha
   obtain⟨x,hx,rfl⟩:=Rj.1 ha
   have hS:=aE (l:=S) (k:=v.toNat) (by have:=hv.1; have:=hv.2.1; omega)
   have:=Jo (Sc _ hS x hx)
   exact Gp (gt pl x.toNat).toNat (by omega)) ok t2 [t.root] [] (by
   show [cW r t.root]=[cW r (gt S 0)]; rw [Ew]) rfl (fun b hb=>by
   rw [QY] at hb; subst hb
   exact⟨by omega,by omega,PM⟩) (fun b hb=>by cases hb) (fun a ha=>by rw [QY] at ha; subst ha; exact⟨r0,r1⟩)
 have eo:=q1.M4 LD
 rw [eo] at q2
 generalize hO:nT r l m t.root []=O at *
 have OT:O.length=T.length:=by have:=congrArg List.length q2; simpa using this
 have OK:∀k,k<T.length→cW r (gt O k)=K2 (gt T k):=fun k hk=>by
  have:=congrArg (fun z=>z[k]?) q2
  simp only [Rk] at this
  rw [aV (by omega),aV hk] at this
  simpa using this
 have PQ:ns=T.map fun v=>pm LJ (nd P5 v):=by
  have hlen:=Q.len
  apply RJ fun k=>?_
  by_cases hk:k<T.length
  ·rw [Q.new k (by simp) (by omega),Rk,aV hk]
   simp only [QU,QQ]
   have hOr:=Q.vs.jx _ (aE (l:=O) (k:=k) (by omega))
   have Nu:=Tr _ (aE hk)
   have hS:=aE (l:=S) (k:=(gt T k).toNat) (by omega)
   have Nv:=Sr _ hS
   obtain⟨hA,hM⟩:=same _ _ hOr.1 hOr.2 Nv.1 Nv.2 (OK k hk)
   have Gq:(nd P5 (gt T k)).kind=(nd l (gt S (gt T k).toNat)).kind∧(nd P5 (gt T k)).int=(nd l (gt S (gt T k).toNat)).int∧(nd P5 (gt T k)).label=(nd l (gt S (gt T k).toNat)).label:=by
    have:=Ns (gt T k).toNat (by omega)
    rw [show (((gt T k).toNat:Nat):Int)=gt T k by omega] at this
    rw [this]
    have h2:=Ey (gt T k).toNat (by omega)
    rw [show (((gt T k).toNat:Nat):Int)=gt T k by omega] at h2
    rw [h2]
    exact⟨rfl,rfl,rfl⟩
   unfold qV pm
   rw [hA.kind,hA.int,hA.label,Gq.1,Gq.2.1,Gq.2.2]
   congr 1
   rw [yu _ Nu.1 (by omega),List.map_map]
   apply RJ fun j=>?_
   simp only [Rk]
   by_cases hj:j<(nd l (gt O k)).args.length
   ·have Ap:j<(nd l (gt S (gt T k).toNat)).args.length:=by have:=hA.len; omega
    rw [aV hj,aV Ap]
    simp only [QU,QQ,Function.comp]
    have ex:cW r (gt (nd l (gt O k)).args j)=cW r (gt (nd l (gt S (gt T k).toNat)).args j):=by
     have:=congrArg (fun z=>z[j]?) hM
     simp only [Rk] at this
     rw [aV hj,aV Ap] at this
     simpa using this
    have hin:gt c (gt pl (gt (nd l (gt S (gt T k).toNat)).args j).toNat).toNat∈T:=by
     refine Tc _ (aE hk) _ ?_
     rw [yu _ Nu.1 (by omega)]
     exact Rj.2 ⟨_,aE Ap,rfl⟩
    obtain⟨q,hq,eq⟩:=dt hin
    have Nw:=p8 q hq
    rw [eq] at Nw
    rw [Nw]
    unfold idx
    have wL:=Q.vs.CF
    have hget:(O.map (cW r))[q]? = some (cW r (gt (nd l (gt O k)).args j)):=by
     rw [Rk,aV (by omega)]
     simp only [QU,QQ]
     rw [OK q hq,eq,Nt _ (Sc _ hS _ (aE Ap)),ex]
    obtain⟨g1,g2⟩:=QX.1 hget
    rw [←g2,wL.idxOf_getElem]
   ·rw [Ra (by omega),Ra (by have:=hA.len; omega)]
    rfl
  ·rw [Ra (by omega),Ra (by simp; omega)]
 refine⟨⟨ns,0⟩,e1,?_⟩
 unfold ax.f
 rw [s1,QM,e0,QM,p1,QM]
 dsimp only
 rw [p4,QM]
 dsimp only
 rw [c1,QM,p5,QM]
 dsimp only
 rw [t1,QM,p6,QM]
 dsimp only
 rw [p9,QM,PQ]
end Go.Proofs.YtmekcfdllhphlaaDoor
namespace Go.Proofs.YtmekcfdllhphlaaDoor
open Go Go.R
open Go.IntKind (i64 u64 u8 u32)
theorem w5 {m:Nat}(hm:2 ^ 41≤m){t:aw}(h0:El t):∃s e,cN.f m t=some (s,e)∧j9.f m t=some (s,e)∧(e=0→uJ s)∧(e=0↔cC t=true)∧(e≠0→e=2∧s=⟨[],0⟩):=by
 have lz:(2:Nat) ^ 30=1073741824:=by decide
 have tj:(2:Nat) ^ 41=2199023255552:=by decide
 unfold cN.f j9.f
 rw [hH (by omega),nX (by omega),QM,QM]
 cases h:cC t with
 | false=>exact⟨_,_,rfl,rfl,fun h=>absurd h (by decide),by simp,fun _=>⟨rfl,rfl⟩⟩
 | true=>
  obtain⟨s,k1,k2⟩:=Cd hm h
  obtain⟨s',k3,L⟩:=rU hm h h0
  rw [k1] at k3
  cases k3
  rw [if_neg (by simp),if_neg (by simp),k1,k2]
  exact⟨_,_,rfl,rfl,fun _=>L,by simp,fun h=>absurd rfl h⟩
end Go.Proofs.YtmekcfdllhphlaaDoor
namespace Go.Proofs.YtmekcfdllhphlaaDoor
open Go Go.R
open Go.IntKind (i64 u64 u8 u32)
def lf (m:Nat)(t:aw):aw:=(bA.f m t).getD ⟨[],0⟩
structure Lf (m:Nat)(t:aw):Prop where
 eq:bA.f m t=some (lf m t)
 top:cN.f m t=some (lf m t,0)
 ref:j9.f m t=some (lf m t,0)
 lt:uJ (lf m t)
 val:cC (lf m t)=true
 len:(lf m t).nodes.length≤t.nodes.length
 Nx:El (lf m t)
 idem:lf m (lf m t)=lf m t
theorem oM {m:Nat}(hm:2 ^ 41≤m){t:aw}(h:cC t=true)(h0:El t):Lf m t:=by
 obtain⟨s,e1,v,l,e2⟩:=wQ hm h
 obtain⟨s',e',k1,k2,k3,k4,_⟩:=w5 hm h0
 have hs:lf m t=s:=by unfold lf; rw [e1]; rfl
 have:=k4.2 h
 subst this
 obtain⟨s2,k5,L⟩:=rU hm h h0
 rw [e1] at k5
 cases k5
 have hv:cN.f m t=some (s,0):=by
  have tj:(2:Nat) ^ 41=2199023255552:=by decide
  have lz:(2:Nat) ^ 30=1073741824:=by decide
  unfold cN.f
  rw [hH (by omega),QM,h,if_neg (by simp),e1]; rfl
 rw [hv] at k1
 cases k1
 have hi:lf m s=s:=by unfold lf; rw [e2]; rfl
 exact⟨by rw [hs]; exact e1,by rw [hs]; exact hv,by rw [hs]; exact k2,by rw [hs]; exact L,by rw [hs]; exact v,by rw [hs]; exact l,by rw [hs]; exact fun n hn=>(L.nodes n hn).2.1,by rw [hs]; exact hi⟩
end Go.Proofs.YtmekcfdllhphlaaDoor
namespace Go.Proofs.YtmekcfdllhphlaaDoor
open Go Go.R
open Go.IntKind (i64 u64 u8 u32)
def rX:ca:=ff [0,2,3,4,5,8,12,24,32,58] [] [1022,990,1021,1018,1010,946,1010,1010,882,1021,994,738,994,482,1021,1021] [] []
def aH.l1 (m:Nat)(l0:List aw)(i0:Int):Nat→Int→Option (Sum Bool (Int))
 | 0,_=>none
 | k+1,k0=>(ix l0 i0).bind fun v1=>if (decide (k0<(v1.nodes.length:Int)))=true then ((ix l0 i0).bind fun v2=>(ix v2.nodes k0).bind fun v3=>if (decide ((v3.args.length:Int) > (20:Int)))=true then (some (.inl true)) else ((ix l0 i0).bind fun v4=>(ix v4.nodes k0).bind fun v5=>if (decide ((v5.label.size:Int) > (40:Int)))=true then (some (.inl true)) else (aH.l1 m l0 i0 k (i64.wrap (k0+(1:Int)))))) else (some (.inr k0))
def aH.l0 (m:Nat)(l0:List aw):Nat→Int→Int→Option (Sum Bool (Int × Int))
 | 0,_,_=>none
 | k+1,n0,i0=>if (decide (i0<(l0.length:Int)))=true then ((ix l0 i0).bind fun v0=>if (decide ((i64.wrap (n0+(v0.nodes.length:Int))) > (300:Int)))=true then (some (.inl true)) else ((aH.l1 m l0 i0 m (0:Int)).bind fun bR=>match bR with | .inl r0=>some (.inl r0) | .inr k1=>aH.l0 m l0 k (i64.wrap (n0+(v0.nodes.length:Int))) (i64.wrap (i0+(1:Int))))) else (some (.inr (n0,i0)))
def aH.f (m:Nat)(l0:List aw):Option (Bool):=if (decide ((l0.length:Int) > (12:Int)))=true then (some true) else ((aH.l0 m l0 m (0:Int) (0:Int)).bind fun b5=>match b5 with | .inl r1=>some r1 | .inr (n1,i1)=>some false)
def aH.fin (L:Mem)(r:Bool)(s:St):Prop:=∃av,aP Tryd.prog (s.open rX) Tryd.f12.results.toList=some av∧fT s.h av (.bool r)
def Ny (cf:CallF)(m:Nat):Prop:=∀(l0:List aw) (r:Bool),aH.f m l0=some r→∀h xs,eO eV h xs [eU.fz l0]→cf 12 xs h=some (.bool r,h)
section
variable {cf:CallF}{m:Nat}
theorem aH.iS (L:Mem)(l0:List aw)(n0:Int)(i0:Int)(v0:aw)   : cD Tryd.prog cf rX m (sub [1,1,1,0,1,0,0,1,0,0,1,1,1,0,0] (codeOf Tryd.f12)) (fun k (σ:Int)=>aH.l1 m l0 i0 k σ) (fun σ s=>match σ with | k0=>∃h1,s=⟨eU.fz l0 :: .any :: .int .i64 (i64.wrap (n0+(v0.nodes.length:Int))) :: .int .i64 i0 :: .int .i64 k0::AX [],[],h1⟩∧Has h1 (L)) (fun out e s=>(e = .exit 2∧∃k0,.inr k0=out∧∃Dw LK h1,s=⟨eU.fz l0 :: .any :: .int .i64 (i64.wrap (n0+(v0.nodes.length:Int))) :: .int .i64 i0::Dw::mD [LK,.any],[],h1⟩∧Has h1 (L))∨(e = .ret∧∃r,.inl r=out∧aH.fin L r s)):=by
 refine jW (fun _=>rfl) ?_
 rintro k k0 s out ⟨h1,rfl,o1⟩ H
 have H:aH.l1 m l0 i0 (k+1) k0=some out:=H
 refine qq <| qq ?_
 obtain⟨v1,e1,H⟩:=bb H
 refine qr [.v 3 (cH (k:=.i64) (E:=eU) (l:=l0) HO e1),.v 5 (ji  (E:=eU) (l:=l0) (off:=0) h1 HP e1 rfl)] <| qc H (fun c3 H=>?_) (fun c3 H=>?_)
 ·refine qk <| qq <| qb 3 <| qq ?_
  obtain⟨v2,e2,H⟩:=bb H
  obtain⟨v3,e3,H⟩:=bb H
  rcases cO H with⟨c4,H⟩| ⟨c4,H⟩
  ·exact qr [.v 2 (cH (k:=.i64) (E:=eU) (l:=l0) HO e2),.v 4 (ji  (E:=eU) (l:=l0) (off:=0) h1 HP e2 rfl),.v 6 (cH (k:=.i64) (E:=ae) (l:=v2.nodes) oa e3),.v 8 (ji  (E:=ae) (l:=v2.nodes) (off:=3) h1 GL e3 rfl),.b 11 c4] <| sQ <| qq <| q0 <| qt <| Sa (⟨rfl,_,oi H,bD (.bool true) h1 (bB (aj))⟩)
  ·obtain⟨v4,e4,H⟩:=bb H
   obtain⟨v5,e5,H⟩:=bb H
   refine qr [.v 2 (cH (k:=.i64) (E:=eU) (l:=l0) HO e2),.v 4 (ji  (E:=eU) (l:=l0) (off:=0) h1 HP e2 rfl),.v 6 (cH (k:=.i64) (E:=ae) (l:=v2.nodes) oa e3),.v 8 (ji  (E:=ae) (l:=v2.nodes) (off:=3) h1 GL e3 rfl),.b 11 c4,.v 14 (cH (k:=.i64) (E:=eU) (l:=l0) HO e4),.v 16 (ji  (E:=eU) (l:=l0) (off:=0) h1 HP e4 rfl),.v 18 (cH (k:=.i64) (E:=ae) (l:=v4.nodes) oa e5),.v 20 (ji  (E:=ae) (l:=v4.nodes) (off:=2) h1 A9 e5 rfl)] <| qc H (fun c6 H=>?_) (fun c6 H=>?_)
   ·exact q1 <| qt <| Sa (⟨rfl,_,oi H,bD (.bool true) h1 (bB (aj))⟩)
   ·exact qk <| q0 <| ⟨i64.wrap (k0+(1:Int)),⟨h1,by kernel_rfl,o1⟩,H⟩
 ·exact qx 2 <| Or.inl (⟨rfl,k0,oi H,.int .i64 k0,.bool (decide (k0<(v1.nodes.length:Int))),h1,by kernel_rfl,o1⟩)
theorem aH.cw (L:Mem)(l0:List aw)   : cD Tryd.prog cf rX m (sub [1,1,1,0,1,0,0] (codeOf Tryd.f12)) (fun k (σ:Int × Int)=>aH.l0 m l0 k σ.1 σ.2) (fun σ s=>match σ with | (n0,i0)=>∃h0,s=⟨eU.fz l0 :: .any :: .int .i64 n0 :: .int .i64 i0::Dg [],[],h0⟩∧Has h0 (L)) (fun out e s=>(e = .exit 0∧∃n0 i0,.inr (n0,i0)=out∧∃qR wo HZ Ce h0,s=⟨qR :: .any::wo::HZ :: .any :: .any::Ce::mD [],[],h0⟩∧Has h0 (L))∨(e = .ret∧∃r,.inl r=out∧aH.fin L r s)):=by
 refine jW (fun _=>rfl) ?_
 rintro k ⟨n0,i0⟩ s out ⟨h0,rfl,o0⟩ H
 have H:aH.l0 m l0 (k+1) n0 i0=some out:=H
 refine qq <| qq <| q0 <| qc H (fun c1 H=>?_) (fun c1 H=>?_)
 ·refine qk <| qq <| qb 1 <| qq ?_
  obtain⟨v0,e0,H⟩:=bb H
  refine qr [.v 3 (cH (k:=.i64) (E:=eU) (l:=l0) HO e0),.v 5 (ji  (E:=eU) (l:=l0) (off:=0) h0 HP e0 rfl)] <| qq <| qq <| q0 <| qc H (fun c2 H=>?_) (fun c2 H=>?_)
  ·exact q1 <| qt <| Sa (⟨rfl,_,oi H,bD (.bool true) h0 (bB (aj))⟩)
  ·refine qk <| qq <| q0 <| qb 2 ?_
   obtain⟨bR,e6,H⟩:=bb H
   refine ql (aH.iS L l0 n0 i0 v0   (0:Int) _ _ ⟨h0,by kernel_rfl,o0⟩ e6) ?_
   rintro e s (⟨rfl,k1,rfl,g0,g1,h2,rfl,o2⟩| ⟨rfl,r0,rfl,pW⟩)
   ·try dsimp only at H
    exact q0 <| ⟨(i64.wrap (n0+(v0.nodes.length:Int)),i64.wrap (i0+(1:Int))),⟨h2,by kernel_rfl,o2⟩,H⟩
   ·try dsimp only at H
    exact Sa (⟨rfl,_,oi H,pW⟩)
 ·exact qx 0 <| Or.inl (⟨rfl,n0,i0,oi H,eU.fz l0,.int .i64 n0,.int .i64 i0,.bool (decide (i0<(l0.length:Int))),h0,by kernel_rfl,o0⟩)
theorem nr {a7:FuncId→ca}(ha:a7 12=rX)  (l0:List aw)(h:AHeap)(L:Mem)  (o:Has h (L)){out:Bool}(H:aH.f m l0=some out) :
  ∃r h',bf Tryd.prog a7 cf m 12 [eU.fz l0] h=some (r,h')∧fT h' r (.bool out):=by
 refine aq (fn:=Tryd.f12) ha Tryd.func12 (by kernel_rfl) (by kernel_rfl) ?_
 refine aQ (Q:=fun s=>aH.fin L out s) (fun _ _ h=>h) ?_
 have H:_=some out:=H
 unfold aH.f at H
 show cX _ cf rX m _ ⟨eU.fz l0::HJ [],[],h⟩ _
 refine q1 <| qq <| qq <| q0 <| qc H (fun c0 H=>?_) (fun c0 H=>?_)
 ·obtain rfl:=oi H
  exact q1 <| qt <| ⟨.inl rfl,bD (.bool true) h (bB (aj))⟩
 ·refine qk <| qq <| q0 <| qq <| qq <| q0 <| qb 0 ?_
  obtain⟨b5,e7,H⟩:=bb H
  refine ql (aH.cw L l0   ((0:Int),(0:Int)) _ _ ⟨h,by kernel_rfl,o⟩ e7) ?_
  rintro e s (⟨rfl,n1,i1,rfl,g2,g3,g4,g5,h3,rfl,o3⟩| ⟨rfl,r1,rfl,Lj⟩)
  ·try dsimp only at H
   obtain rfl:=oi H
   exact q1 <| qt <| ⟨.inl rfl,bD (.bool false) h3 (bB (aj))⟩
  ·try dsimp only at H
   obtain rfl:=oi H
   exact⟨.inl rfl,Lj⟩
end
end Go.Proofs.YtmekcfdllhphlaaDoor
namespace Go.Proofs.YtmekcfdllhphlaaDoor
open Go Go.R
open Go.IntKind (i64 u64 u8 u32)
end Go.Proofs.YtmekcfdllhphlaaDoor
namespace Go.Proofs.YtmekcfdllhphlaaDoor
open Go Go.R
open Go.IntKind (i64 u64 u8 u32)
end Go.Proofs.YtmekcfdllhphlaaDoor
namespace Go.Proofs.YtmekcfdllhphlaaDoor
open Go Go.R
open Go.IntKind (i64 u64 u8 u32)
theorem ke {α:Type}{l:List α}{i:Nat}(h:i<l.length):ix l (i:Int)=some l[i]:=by unfold ix; rw [if_pos (by omega)]; simp [h]
theorem uZ {m:Nat}{L:List aw}{i:Nat}(hi:i<L.length)(hn:L[i].nodes.length<2 ^ 63):∀(f k:Nat),L[i].nodes.length - k<f→k≤L[i].nodes.length→
  ∃o,aH.l1 m L (i:Int) f (k:Int)=some o∧((∃x,o = .inr x)∨o = .inl true)
 | 0,k,hf,_=>absurd hf (by omega)
 | f+1,k,hf,hk=>by
  have LL:(2:Nat) ^ 63=9223372036854775808:=by decide
  unfold aH.l1
  rw [ke hi,QM]
  by_cases h:k<L[i].nodes.length
  ·obtain⟨o,ih,ho⟩:=uZ (m:=m) hi hn f (k+1) (by omega) (by omega)
   rw [if_pos (by simp only [decide_eq_true_eq]; omega),QM,ke h,QM]
   split
   ·exact⟨_,rfl,.inr rfl⟩
   ·rw [QM,ke h,QM]
    split
    ·exact⟨_,rfl,.inr rfl⟩
    ·rw [aD (by omega) (by omega),show (k:Int)+1=((k+1:Nat):Int) by omega,ih]
     exact⟨o,rfl,ho⟩
  ·rw [if_neg (by simp only [decide_eq_true_eq]; omega)]
   exact⟨_,rfl,.inl ⟨_,rfl⟩⟩
theorem qw {m:Nat}(hm:2 ^ 63≤m){L:List aw}(h12:L.length≤12)(hl:∀t∈L,t.nodes.length<2 ^ 63):∀(f i:Nat) (n:Int),L.length - i<f→i≤L.length→
  ∃o,aH.l0 m L f n (i:Int)=some o∧((∃x,o = .inr x)∨o = .inl true)
 | 0,i,n,hf,_=>absurd hf (by omega)
 | f+1,i,n,hf,hi=>by
  have LL:(2:Nat) ^ 63=9223372036854775808:=by decide
  unfold aH.l0
  by_cases h:i<L.length
  ·have hb:=hl _ (RW h)
   rw [if_pos (by simp only [decide_eq_true_eq]; omega),ke h,QM]
   split
   ·exact⟨_,rfl,.inr rfl⟩
   ·obtain⟨o,k1,k2⟩:=uZ (m:=m) h hb m 0 (by omega) (by omega)
    have k1:aH.l1 m L (i:Int) m (0:Int)=_:=k1
    rw [k1,QM]
    rcases k2 with⟨x,rfl⟩| rfl
    ·dsimp only
     rw [aD (x:=(i:Int)+1) (by omega) (by omega),show (i:Int)+1=((i+1:Nat):Int) by omega]
     exact qw hm h12 hl f (i+1) _ (by omega) (by omega)
    ·exact⟨_,rfl,.inr rfl⟩
  ·rw [if_neg (by simp only [decide_eq_true_eq]; omega)]
   exact⟨_,rfl,.inl ⟨_,rfl⟩⟩
theorem w6 {m:Nat}(hm:2 ^ 63≤m){L:List aw}(hl:∀t∈L,t.nodes.length<2 ^ 63):∃b,aH.f m L=some b∧(b=false→L.length≤12):=by
 have LL:(2:Nat) ^ 63=9223372036854775808:=by decide
 unfold aH.f
 split
 ·exact⟨true,rfl,fun h=>by cases h⟩
 ·rename_i h
  simp only [decide_eq_true_eq] at h
  obtain⟨o,k1,k2⟩:=qw hm (by omega) hl m 0 0 (by omega) (by omega)
  have k1:aH.l0 m L m (0:Int) (0:Int)=_:=k1
  rw [k1,QM]
  rcases k2 with⟨⟨n,x⟩,rfl⟩| rfl
  ·exact⟨false,rfl,fun _=>by omega⟩
  ·exact⟨true,rfl,fun h=>by cases h⟩
theorem Gr {m:Nat}(hm:2 ^ 30≤m){t:aw}(h1:t.nodes.length≤8000)(h2:∀n∈t.nodes,n.args.length≤8):aJ.f m t t=some true:=by
 have lz:(2:Nat) ^ 30=1073741824:=by decide
 obtain⟨x,hx⟩:=uI (m:=m) t hm (by omega) h2 m 0 (by omega) (by omega)
 have hx:aJ.l0 m t t m (0:Int)=_:=hx
 unfold aJ.f
 rw [if_neg (by simp),if_neg (by simp),hx,QM]
end Go.Proofs.YtmekcfdllhphlaaDoor
namespace Go.Proofs.YtmekcfdllhphlaaDoor
open Go Go.R
open Go.IntKind (i64 u64 u8 u32)
end Go.Proofs.YtmekcfdllhphlaaDoor
namespace Go.Proofs.YtmekcfdllhphlaaDoor
open Go Go.R
open Go.IntKind (i64 u64 u8 u32)
def va:ca:=ff [0,1,2,6,7,8,9,14,15,16,17,18,30] [8,9] [8184,8056,8183,6393,4345,6345,6297,2297,8183,6393,8183] [] []
def az.l0 (m:Nat)(s0:List aa)(s1:List aa)(eq0:aa→aa→Option (Bool)):Nat→Int→Option (Sum Bool (Int))
 | 0,_=>none
 | k+1,x0=>if (decide (x0<(s0.length:Int)))=true then ((ix s0 x0).bind fun v0=>(ix s1 x0).bind fun v1=>(eq0 v0 v1).bind fun r0=>if (!r0)=true then (some (.inl false)) else (az.l0 m s0 s1 eq0 k (i64.wrap (x0+(1:Int))))) else (some (.inr x0))
def az.f (m:Nat)(s0:List aa)(s1:List aa)(eq0:aa→aa→Option (Bool)):Option (Bool):=if (!((s0.length:Int)==(s1.length:Int)))=true then (some false) else ((az.l0 m s0 s1 eq0 m (0:Int)).bind fun bR=>match bR with | .inl r1=>some r1 | .inr x1=>some true)
def az.fin (h:AHeap)(r:Bool)(s:St):Prop:=aP Tryd.prog (s.open va) Tryd.f63.results.toList=some (.bool r)∧s.h=h
def Nz (cf:CallF)(m:Nat):Prop:=∀(s0:List aa) (s1:List aa) (eq0:aa→aa→Option (Bool)) (r:Bool),az.f m s0 s1 eq0=some r→∀h,0<h.next→∀(fA:FuncId) (bm:List AV),aC (.fn fA bm) = .fn fA bm→(∀(a0:aa) (a1:aa) r,eq0 a0 a1=some r→cf fA ([.agg [.int .i64 a0.kind,.int .i64 a0.int,.str a0.label,af.fz a0.args],.agg [.int .i64 a1.kind,.int .i64 a1.int,.str a1.label,af.fz a1.args]]++bm) h=some (.bool r,h))→∀xs,xs.map aC=[ae.fz s0,ae.fz s1,.fn fA bm]→cf 63 xs h=some (.bool r,h)
section
variable {cf:CallF}{m:Nat}
theorem az.cw (h:AHeap)(L:Mem)(fA:FuncId)(bm:List AV)(s0:List aa)(s1:List aa)(eq0:aa→aa→Option (Bool))  (iC:aC (.fn fA bm) = .fn fA bm)(jA:∀(a0:aa) (a1:aa) r,eq0 a0 a1=some r→cf fA ([.agg [.int .i64 a0.kind,.int .i64 a0.int,.str a0.label,af.fz a0.args],.agg [.int .i64 a1.kind,.int .i64 a1.int,.str a1.label,af.fz a1.args]]++bm) h=some (.bool r,h))  : cD Tryd.prog cf va m (sub [1,1,0,1,0,0] (codeOf Tryd.f63)) (fun k (σ:Int)=>az.l0 m s0 s1 eq0 k σ) (fun σ s=>match σ with | x0=>s=⟨.any::ae.fz s1 :: .fn fA bm::AX [ae.fz s0,.int .i64 (s0.length:Int),.int .i64 x0,.any,.any],[none,none],h⟩∧Has h (L)) (fun out e s=>(e = .exit 0∧∃x0,.inr x0=out∧∃qS Bb wC LM Bm Gs,s=⟨.any::qS::Bb::AX [wC,LM,Bm,Gs,.any],[none,none],h⟩∧Has h (L))∨(e = .ret∧∃r,.inl r=out∧az.fin h r s)):=by
 refine jW (fun _=>rfl) ?_
 rintro k x0 s out ⟨rfl,o0⟩ H
 have H:az.l0 m s0 s1 eq0 (k+1) x0=some out:=H
 refine q1 <| qq <| qc H (fun c1 H=>?_) (fun c1 H=>?_)
 ·refine qk <| qq <| qb 1 <| qq ?_
  obtain⟨v0,e0,H⟩:=bb H
  refine qr [.v 1 (cH (k:=.i64) (E:=ae) (l:=s0) oa e0),.v 2 (gf  (E:=ae) (l:=s0) h xF xG e0)] <| qq ?_
  obtain⟨v1,e1,H⟩:=bb H
  refine qr [.v 2 (cH (k:=.i64) (E:=ae) (l:=s1) oa e1),.v 3 (gf  (E:=ae) (l:=s1) h xF xG e1)] <| qq ?_
  obtain⟨r0,e2,H⟩:=bb H
  refine qr [.a 3 (jA _ _ _ e2)] <| qc H (fun c2 H=>?_) (fun c2 H=>?_)
  ·exact q1 <| qt <| Sa (⟨rfl,_,oi H,⟨by kernel_rfl,by kernel_rfl⟩⟩)
  ·exact qk <| q0 <| ⟨i64.wrap (x0+(1:Int)),⟨by kernel_rfl,o0⟩,H⟩
 ·exact qx 0 <| Or.inl (⟨rfl,x0,oi H,ae.fz s1,.fn fA bm,ae.fz s0,.int .i64 (s0.length:Int),.int .i64 x0,.bool (decide (x0<(s0.length:Int))),by kernel_rfl,o0⟩)
theorem gk {a7:FuncId→ca}(ha:a7 63=va)  (s0:List aa)(s1:List aa)(eq0:aa→aa→Option (Bool))(h:AHeap)(L:Mem)(fA:FuncId)(bm:List AV)  (iC:aC (.fn fA bm) = .fn fA bm)(jA:∀(a0:aa) (a1:aa) r,eq0 a0 a1=some r→cf fA ([.agg [.int .i64 a0.kind,.int .i64 a0.int,.str a0.label,af.fz a0.args],.agg [.int .i64 a1.kind,.int .i64 a1.int,.str a1.label,af.fz a1.args]]++bm) h=some (.bool r,h))(o:Has h (L)){out:Bool}(H:az.f m s0 s1 eq0=some out) :
  ∃r h',bf Tryd.prog a7 cf m 63 [ae.fz s0,ae.fz s1,.fn fA bm] h=some (r,h')∧r=(.bool out)∧h'=h:=by
 refine aq (fn:=Tryd.f63) ha Tryd.func63 (by kernel_rfl) (by kernel_rfl) ?_
 refine aQ (Q:=fun s=>az.fin h out s) (fun _ _ ⟨h1,h2,h3⟩=>⟨h1,_,h2,rfl,h3⟩) ?_
 have H:_=some out:=H
 unfold az.f at H
 show cX _ cf va m _ ⟨ae.fz s0::ae.fz s1 :: .fn fA bm::HK [],[none,none],h⟩ _
 refine q1 <| qq <| qq <| q0 <| qc H (fun c0 H=>?_) (fun c0 H=>?_)
 ·obtain rfl:=oi H
  exact q1 <| qt <| ⟨.inl rfl,⟨by kernel_rfl,by kernel_rfl⟩⟩
 ·refine qk <| qq <| qq <| q0 <| qb 0 ?_
  obtain⟨bR,e3,H⟩:=bb H
  refine ql (az.cw h L fA bm s0 s1 eq0  iC jA  (0:Int) _ _ ⟨by kernel_rfl,o⟩ e3) ?_
  rintro e s (⟨rfl,x1,rfl,g0,g1,g2,g3,g4,g5,rfl,o1⟩| ⟨rfl,r1,rfl,pW⟩)
  ·try dsimp only at H
   obtain rfl:=oi H
   exact q1 <| qt <| ⟨.inl rfl,⟨by kernel_rfl,by kernel_rfl⟩⟩
  ·try dsimp only at H
   obtain rfl:=oi H
   exact⟨.inl rfl,pW⟩
end
end Go.Proofs.YtmekcfdllhphlaaDoor
namespace Go.Proofs.YtmekcfdllhphlaaDoor
open Go Go.R
open Go.IntKind (i64 u64 u8 u32)
def vb:ca:=ff [0,1,4,5,10,12,13,14,24] [] [508,492,507,412,284,404,156,507,412,507] [] []
def aZ.l0 (m:Nat)(s0:List Int)(s1:List Int):Nat→Int→Option (Sum Bool (Int))
 | 0,_=>none
 | k+1,x0=>if (decide (x0<(s0.length:Int)))=true then ((ix s0 x0).bind fun v0=>(ix s1 x0).bind fun v1=>if (!(v0==v1))=true then (some (.inl false)) else (aZ.l0 m s0 s1 k (i64.wrap (x0+(1:Int))))) else (some (.inr x0))
def aZ.f (m:Nat)(s0:List Int)(s1:List Int):Option (Bool):=if (!((s0.length:Int)==(s1.length:Int)))=true then (some false) else ((aZ.l0 m s0 s1 m (0:Int)).bind fun bR=>match bR with | .inl r0=>some r0 | .inr x1=>some true)
def aZ.fin (L:Mem)(r:Bool)(s:St):Prop:=∃av,aP Tryd.prog (s.open vb) Tryd.f66.results.toList=some av∧fT s.h av (.bool r)
def NA (cf:CallF)(m:Nat):Prop:=∀(s0:List Int) (s1:List Int) (r:Bool),aZ.f m s0 s1=some r→∀h xs,eO eV h xs [af.fz s0,af.fz s1]→cf 66 xs h=some (.bool r,h)
section
variable {cf:CallF}{m:Nat}
theorem aZ.cw (L:Mem)(s0:List Int)(s1:List Int)   : cD Tryd.prog cf vb m (sub [1,1,0,1,0,0] (codeOf Tryd.f66)) (fun k (σ:Int)=>aZ.l0 m s0 s1 k σ) (fun σ s=>match σ with | x0=>∃h0,s=⟨af.fz s0::af.fz s1::mD [.int .i64 (s0.length:Int),.int .i64 x0,.any,.any],[],h0⟩∧Has h0 (L)) (fun out e s=>(e = .exit 0∧∃x0,.inr x0=out∧∃qR qS Ce wq wA h0,s=⟨qR::qS::mD [Ce,wq,wA,.any],[],h0⟩∧Has h0 (L))∨(e = .ret∧∃r,.inl r=out∧aZ.fin L r s)):=by
 refine jW (fun _=>rfl) ?_
 rintro k x0 s out ⟨h0,rfl,o0⟩ H
 have H:aZ.l0 m s0 s1 (k+1) x0=some out:=H
 refine q1 <| qq <| qc H (fun c1 H=>?_) (fun c1 H=>?_)
 ·refine qk <| qq <| qb 1 <| qq <| q0 <| qq ?_
  obtain⟨v0,e0,H⟩:=bb H
  obtain⟨v1,e1,H⟩:=bb H
  refine qr [.v 2 (cH (k:=.i64) (E:=af) (l:=s0) fV e0),.v 3 (fK  (E:=af) (l:=s0) h0 A3 e0 rfl),.v 6 (cH (k:=.i64) (E:=af) (l:=s1) fV e1),.v 7 (fK  (E:=af) (l:=s1) h0 A3 e1 rfl)] <| qc H (fun c2 H=>?_) (fun c2 H=>?_)
  ·exact q1 <| qt <| Sa (⟨rfl,_,oi H,bD (.bool false) h0 (bB (aj))⟩)
  ·exact qk <| q0 <| ⟨i64.wrap (x0+(1:Int)),⟨h0,by kernel_rfl,o0⟩,H⟩
 ·exact qx 0 <| Or.inl (⟨rfl,x0,oi H,af.fz s0,af.fz s1,.int .i64 (s0.length:Int),.int .i64 x0,.bool (decide (x0<(s0.length:Int))),h0,by kernel_rfl,o0⟩)
theorem lq {a7:FuncId→ca}(ha:a7 66=vb)  (s0:List Int)(s1:List Int)(h:AHeap)(L:Mem)  (o:Has h (L)){out:Bool}(H:aZ.f m s0 s1=some out) :
  ∃r h',bf Tryd.prog a7 cf m 66 [af.fz s0,af.fz s1] h=some (r,h')∧fT h' r (.bool out):=by
 refine aq (fn:=Tryd.f66) ha Tryd.func66 (by kernel_rfl) (by kernel_rfl) ?_
 refine aQ (Q:=fun s=>aZ.fin L out s) (fun _ _ h=>h) ?_
 have H:_=some out:=H
 unfold aZ.f at H
 show cX _ cf vb m _ ⟨af.fz s0::af.fz s1::Fp [],[],h⟩ _
 refine q1 <| qq <| qq <| q0 <| qc H (fun c0 H=>?_) (fun c0 H=>?_)
 ·obtain rfl:=oi H
  exact q1 <| qt <| ⟨.inl rfl,bD (.bool false) h (bB (aj))⟩
 ·refine qk <| qq <| qq <| q0 <| qb 0 ?_
  obtain⟨bR,e2,H⟩:=bb H
  refine ql (aZ.cw L s0 s1   (0:Int) _ _ ⟨h,by kernel_rfl,o⟩ e2) ?_
  rintro e s (⟨rfl,x1,rfl,g0,g1,g2,g3,g4,h1,rfl,o1⟩| ⟨rfl,r0,rfl,pW⟩)
  ·try dsimp only at H
   obtain rfl:=oi H
   exact q1 <| qt <| ⟨.inl rfl,bD (.bool true) h1 (bB (aj))⟩
  ·try dsimp only at H
   obtain rfl:=oi H
   exact⟨.inl rfl,pW⟩
end
end Go.Proofs.YtmekcfdllhphlaaDoor
namespace Go.Proofs.YtmekcfdllhphlaaDoor
open Go Go.R
open Go.IntKind (i64 u64 u8 u32)
def yv:ca:=ff [0,1,2,3,4] [2,3] [19,15] [] []
def cG.f (m:Nat)(m0:aa)(n0:aa):Option (Bool):=(bP.f m m0 n0).bind fun x0=>if (x0==(0:Int))=true then ((aZ.f m m0.args n0.args).bind fun x1=>some x1) else (some false)
def cG.fin (L:Mem)(r:Bool)(s:St):Prop:=∃av,aP Tryd.prog (s.open yv) Tryd.f64.results.toList=some av∧fT s.h av (.bool r)
def S64 (cf:CallF)(m:Nat):Prop:=∀(m0:aa) (n0:aa) (r:Bool),cG.f m m0 n0=some r→∀h xs,eO eV h xs [.agg [.int .i64 m0.kind,.int .i64 m0.int,.str m0.label,af.fz m0.args],.agg [.int .i64 n0.kind,.int .i64 n0.int,.str n0.label,af.fz n0.args]]→cf 64 xs h=some (.bool r,h)
section
variable {cf:CallF}{m:Nat}
theorem mA {a7:FuncId→ca}(ha:a7 64=yv)(uz:Ig cf m)(LN:NA cf m)(m0:aa)(n0:aa)(h:AHeap)(L:Mem)  (o:Has h (L)){out:Bool}(H:cG.f m m0 n0=some out) :
  ∃r h',bf Tryd.prog a7 cf m 64 [.agg [.int .i64 m0.kind,.int .i64 m0.int,.str m0.label,af.fz m0.args],.agg [.int .i64 n0.kind,.int .i64 n0.int,.str n0.label,af.fz n0.args]] h=some (r,h')∧fT h' r (.bool out):=by
 refine aq (fn:=Tryd.f64) ha Tryd.func64 (by kernel_rfl) (by kernel_rfl) ?_
 refine aQ (Q:=fun s=>cG.fin L out s) (fun _ _ h=>h) ?_
 have H:_=some out:=H
 unfold cG.f at H
 show cX _ cf yv m _ ⟨.agg [.int .i64 m0.kind,.int .i64 m0.int,.str m0.label,af.fz m0.args] :: .agg [.int .i64 n0.kind,.int .i64 n0.int,.str n0.label,af.fz n0.args]::mD [],[none,none],h⟩ _
 refine q1 <| qq ?_
 obtain⟨x0,e0,H⟩:=bb H
 rcases cO H with⟨c0,H⟩| ⟨c0,H⟩
 ·obtain⟨x1,e1,H⟩:=bb H
  obtain rfl:=oi H
  exact qr [.a 2 (uz _ _ _ e0 h _ (eZ (ab (bw (ab (aM) (ab (aM) (ab (bJ) (ab (b7 (E:=af)) (aA)))))) (ab (bw (ab (aM) (ab (aM) (ab (bJ) (ab (b7 (E:=af)) (aA)))))) (aA))))),.b 4 c0,.a 9 (LN _ _ _ e1 h _ (eZ (ab (b7 (E:=af)) (ab (b7 (E:=af)) (aA)))))] <| qt <| ⟨.inl rfl,bD (.bool x1) h (bB (aj))⟩
 ·obtain rfl:=oi H
  exact qr [.a 2 (uz _ _ _ e0 h _ (eZ (ab (bw (ab (aM) (ab (aM) (ab (bJ) (ab (b7 (E:=af)) (aA)))))) (ab (bw (ab (aM) (ab (aM) (ab (bJ) (ab (b7 (E:=af)) (aA)))))) (aA))))),.b 4 c0] <| qt <| ⟨.inl rfl,bD (.bool false) h (bB (aj))⟩
end
end Go.Proofs.YtmekcfdllhphlaaDoor
namespace Go.Proofs.YtmekcfdllhphlaaDoor
open Go Go.R
open Go.IntKind (i64 u64 u8 u32)
def yw:ca:=ff [0,1,2,3,4] [2,3] [19,15] [] []
def eH.f (m:Nat)(a0:aw)(b0:aw):Option (Bool):=(az.f m a0.nodes b0.nodes (fun y0 y1=>cG.f m y0 y1)).bind fun x0=>some x0
def eH.fin (L:Mem)(r:Bool)(s:St):Prop:=∃av,aP Tryd.prog (s.open yw) Tryd.f46.results.toList=some av∧fT s.h av (.bool r)
def NB (cf:CallF)(m:Nat):Prop:=∀(a0:aw) (b0:aw) (r:Bool),eH.f m a0 b0=some r→∀h xs,eO eV h xs [.agg [ae.fz a0.nodes,.int .i64 a0.root],.agg [ae.fz b0.nodes,.int .i64 b0.root]]→cf 46 xs h=some (.bool r,h)
section
variable {cf:CallF}{m:Nat}
theorem ox {a7:FuncId→ca}(ha:a7 46=yw)(LO:Nz cf m)(LP:S64 cf m)(a0:aw)(b0:aw)(h:AHeap)(L:Mem)  (o:Has h (L)){out:Bool}(H:eH.f m a0 b0=some out) :
  ∃r h',bf Tryd.prog a7 cf m 46 [.agg [ae.fz a0.nodes,.int .i64 a0.root],.agg [ae.fz b0.nodes,.int .i64 b0.root]] h=some (r,h')∧fT h' r (.bool out):=by
 refine aq (fn:=Tryd.f46) ha Tryd.func46 (by kernel_rfl) (by kernel_rfl) ?_
 refine aQ (Q:=fun s=>eH.fin L out s) (fun _ _ h=>h) ?_
 have H:_=some out:=H
 unfold eH.f at H
 show cX _ cf yw m _ ⟨.agg [ae.fz a0.nodes,.int .i64 a0.root] :: .agg [ae.fz b0.nodes,.int .i64 b0.root]::mD [],[none,none],h⟩ _
 refine q1 <| qq ?_
 obtain⟨x0,e0,H⟩:=bb H
 obtain rfl:=oi H
 exact qr [.a 4 (LO _ _ _ _ e0 h (Has.pos o) 64 [] rfl (fun y0 y1 r hr=>LP y0 y1 r hr h _ (eZ (ab (bw (ab (aM) (ab (aM) (ab (bJ) (ab (b7 (E:=af)) (aA)))))) (ab (bw (ab (aM) (ab (aM) (ab (bJ) (ab (b7 (E:=af)) (aA)))))) (aA))))) _ (ao (aR (ik (E:=ae))) (ao (aR (ik (E:=ae))) (ao ((rfl:aC (.fn 64 [])=_)) (cq)))))] <| qt <| ⟨.inl rfl,bD (.bool x0) h (bB (aj))⟩
end
end Go.Proofs.YtmekcfdllhphlaaDoor
namespace Go.Proofs.YtmekcfdllhphlaaDoor
open Go Go.R
open Go.IntKind (i64 u64 u8 u32)
def yx:ca:=ff [0,1,2,3,4,5,13] [2,3] [115,51,79,79] [] []
def fy.f (m:Nat)(a0:aw)(b0:aw):Option (Bool × Int):=(dB.f m a0).bind fun x0=>if (!x0)=true then (some (false,(2:Int))) else ((dB.f m b0).bind fun x1=>if (!x1)=true then (some (false,(2:Int))) else ((bA.f m a0).bind fun x2=>(bA.f m b0).bind fun x3=>(eH.f m x2 x3).bind fun x4=>some (x4,(0:Int))))
def fy.fin (L:Mem)(r:Bool × Int)(s:St):Prop:=∃av,aP Tryd.prog (s.open yx) Tryd.f24.results.toList=some av∧fT s.h av (.tup [.bool r.1,.int .i64 r.2])
def NC (cf:CallF)(m:Nat):Prop:=∀(a0:aw) (b0:aw) (r:Bool × Int),fy.f m a0 b0=some r→∀h xs,eO eV h xs [.agg [ae.fz a0.nodes,.int .i64 a0.root],.agg [ae.fz b0.nodes,.int .i64 b0.root]]→cf 24 xs h=some (.tup [.bool r.1,.int .i64 r.2],h)
section
variable {cf:CallF}{m:Nat}
theorem qy {a7:FuncId→ca}(ha:a7 24=yx)(BK:KD cf m)(LQ:NB cf m)(DC:La cf m)(a0:aw)(b0:aw)(h:AHeap)(L:Mem)  (o:Has h (L)){out:Bool × Int}(H:fy.f m a0 b0=some out) :
  ∃r h',bf Tryd.prog a7 cf m 24 [.agg [ae.fz a0.nodes,.int .i64 a0.root],.agg [ae.fz b0.nodes,.int .i64 b0.root]] h=some (r,h')∧fT h' r (.tup [.bool out.1,.int .i64 out.2]):=by
 refine aq (fn:=Tryd.f24) ha Tryd.func24 (by kernel_rfl) (by kernel_rfl) ?_
 refine aQ (Q:=fun s=>fy.fin L out s) (fun _ _ h=>h) ?_
 have H:_=some out:=H
 unfold fy.f at H
 show cX _ cf yx m _ ⟨.agg [ae.fz a0.nodes,.int .i64 a0.root] :: .agg [ae.fz b0.nodes,.int .i64 b0.root]::AX [],[none,none],h⟩ _
 refine q1 <| qq <| qq ?_
 obtain⟨x0,e0,H⟩:=bb H
 rcases cO H with⟨c0,H⟩| ⟨c0,H⟩
 ·obtain rfl:=oi H
  exact qr [.a 1 (BK _ _ e0 h _ (eZ (ab (bw (ab (b7 (E:=ae)) (ab (aM) (aA)))) (aA)))),.b 3 c0] <| sQ <| qq <| q0 <| qt <| ⟨.inl rfl,bD (.tup [.bool false,.int .i64 (2:Int)]) h (bB (wg (kq (aj) (kq (dG) (we)))))⟩
 ·obtain⟨x1,e1,H⟩:=bb H
  refine qr [.a 1 (BK _ _ e0 h _ (eZ (ab (bw (ab (b7 (E:=ae)) (ab (aM) (aA)))) (aA)))),.b 3 c0,.a 5 (BK _ _ e1 h _ (eZ (ab (bw (ab (b7 (E:=ae)) (ab (aM) (aA)))) (aA))))] <| qc H (fun c2 H=>?_) (fun c2 H=>?_)
  ·obtain rfl:=oi H
   exact q1 <| qt <| ⟨.inl rfl,bD (.tup [.bool false,.int .i64 (2:Int)]) h (bB (wg (kq (aj) (kq (dG) (we)))))⟩
  ·refine qk <| qq ?_
   obtain⟨x2,e2,H⟩:=bb H
   obtain⟨x3,e3,H⟩:=bb H
   obtain⟨x4,e4,H⟩:=bb H
   obtain rfl:=oi H
   exact qr [.a 1 (DC _ _ e2 h _ (b4 (jU (b4 (ik (E:=ae)) (b4 (br) (fe)))) (fe))),.a 3 (DC _ _ e3 h _ (b4 (jU (b4 (ik (E:=ae)) (b4 (br) (fe)))) (fe))),.a 4 (LQ _ _ _ e4 h _ (eZ (ab (bw (ab (b7 (E:=ae)) (ab (aM) (aA)))) (ab (bw (ab (b7 (E:=ae)) (ab (aM) (aA)))) (aA)))))] <| qt <| ⟨.inl rfl,bD (.tup [.bool x4,.int .i64 (0:Int)]) h (bB (wg (kq (aj) (kq (dG) (we)))))⟩
end
end Go.Proofs.YtmekcfdllhphlaaDoor
namespace Go.Proofs.YtmekcfdllhphlaaDoor
open Go Go.R
open Go.IntKind (i64 u64 u8 u32)
theorem rY {m:Nat}{L:List aw}(h12:L.length≤12)(hl:∀t∈L,t.nodes.length≤8000):∀(f i n:Nat) (x),n≤300→i≤L.length→aH.l0 m L f (n:Int) (i:Int)=some (.inr x)→n+((L.drop i).map fun t=>t.nodes.length).sum≤300
 | 0,i,n,x,_,_,H=>by simp [aH.l0] at H
 | f+1,i,n,x,hn,hi,H=>by
  unfold aH.l0 at H
  by_cases h:i<L.length
  ·have hb:=hl _ (RW h)
   rw [if_pos (by simp only [decide_eq_true_eq]; omega),ke h,QM,aD (x:=(n:Int)+_) (by omega) (by omega)] at H
   split at H
   ·simp at H
   ·rename_i g
    simp only [decide_eq_true_eq] at g
    simp only [QN] at H
    obtain⟨o,_,H⟩:=H
    cases o with
    | inl r=>simp at H
    | inr k=>
     dsimp only at H
     rw [aD (x:=(i:Int)+1) (by omega) (by omega),show (i:Int)+1=((i+1:Nat):Int) by omega,show (n:Int)+(L[i].nodes.length:Int)=((n+L[i].nodes.length:Nat):Int) by omega] at H
     have:=rY h12 hl f (i+1) (n+L[i].nodes.length) x (by omega) (by omega) H
     rw [Q9 h,Rq,List.sum_cons]; omega
  ·rw [Rz (by omega)]; simpa using hn
theorem Cf {m:Nat}{a b:List Int}(hl:a.length=b.length)(hs:a.length≤8000):∀(f i:Nat),a.length - i<f→i≤a.length→
  ∃o,aZ.l0 m a b f (i:Int)=some o∧((∃x,o = .inr x)∧a.drop i=b.drop i∨o = .inl false∧a.drop i≠b.drop i)
 | 0,i,hf,_=>absurd hf (by omega)
 | f+1,i,hf,hi=>by
  unfold aZ.l0
  by_cases h:i<a.length
  ·rw [if_pos (by simp only [decide_eq_true_eq]; omega),ke h,QM,ke (by omega),QM,Q9 h,Q9 (show i<b.length by omega)]
   by_cases e:a[i]=b[i]
   ·obtain⟨o,k1,k2⟩:=Cf (m:=m) hl hs f (i+1) (by omega) (by omega)
    rw [if_neg (by simp [e]),aD (by omega) (by omega),show (i:Int)+1=((i+1:Nat):Int) by omega,k1,e]
    refine⟨o,rfl,?_⟩
    rcases k2 with⟨x,k⟩| ⟨x,k⟩
    ·exact .inl ⟨x,by rw [k]⟩
    ·exact .inr ⟨x,fun z=>k (R6 z).2⟩
   ·rw [if_pos (by simpa using e)]
    exact⟨_,rfl,.inr ⟨rfl,fun z=>e (R6 z).1⟩⟩
  ·refine⟨.inr (i:Int),by rw [if_neg (by simp only [decide_eq_true_eq]; omega)],.inl ⟨⟨_,rfl⟩,?_⟩⟩
   rw [Rz (by omega),Rz (by omega)]
theorem PR {m:Nat}{a b:List Int}(hs:a.length≤8000)(hm:8001≤m):∃x,aZ.f m a b=some x∧(x=true↔a=b):=by
 unfold aZ.f
 by_cases hl:a.length=b.length
 ·obtain⟨o,k1,k2⟩:=Cf (m:=m) hl hs m 0 (by omega) (by omega)
  have k1:aZ.l0 m a b m 0=_:=k1
  rw [if_neg (by rw [hl]; simp),k1,QM]
  rw [Rr,Rr] at k2
  rcases k2 with⟨⟨x,rfl⟩,k⟩| ⟨rfl,k⟩<;>exact⟨_,rfl,by simp [k]⟩
 ·have hi:¬(a.length:Int)=b.length:=by omega
  rw [if_pos (by simpa using hi)]
  exact⟨_,rfl,by simp; exact fun e=>hl (by rw [e])⟩
theorem PS {m:Nat}{a b:aa}(ha:zy a)(hb:zy b)(hm:8001≤m):∃x,cG.f m a b=some x∧(x=true↔a=b):=by
 have h8:=ha.args
 unfold cG.f
 rw [sZ (by omega),QM]
 by_cases h:cT a b=0
 ·have A:=nl (l:=[a,b]) (i:=0) (j:=1) (fun n hn=>by
   rcases Rt.1 hn with rfl | hn
   ·exact ha
   ·simp at hn; subst hn; exact hb) (by simp) (by simp) h
  have A:Alike a b:=A
  obtain⟨x,k1,k2⟩:=PR (m:=m) (a:=a.args) (b:=b.args) (by omega) hm
  rw [if_pos (by simp [h]),k1]
  refine⟨x,rfl,k2.trans ⟨fun e=>?_,fun e=>by rw [e]⟩⟩
  obtain⟨k1,i1,l1,a1⟩:=a
  obtain⟨k2,i2,l2,a2⟩:=b
  obtain⟨e1,e2,e3,_⟩:=A
  dsimp only at e1 e2 e3 e
  subst e1 e2 e3 e
  rfl
 ·rw [if_neg (by simpa using h)]
  exact⟨_,rfl,by simp; exact fun e=>h (by rw [e]; exact (Alike.refl b).cT)⟩
theorem Cg {m:Nat}{a b:List aa}(hl:a.length=b.length)(hs:a.length≤8000)(hm:8001≤m)(ha:∀n∈a,zy n)(hb:∀n∈b,zy n):∀(f i:Nat),a.length - i<f→i≤a.length→
  ∃o,az.l0 m a b (fun y0 y1=>cG.f m y0 y1) f (i:Int)=some o∧((∃x,o = .inr x)∧a.drop i=b.drop i∨o = .inl false∧a.drop i≠b.drop i)
 | 0,i,hf,_=>absurd hf (by omega)
 | f+1,i,hf,hi=>by
  unfold az.l0
  by_cases h:i<a.length
  ·obtain⟨x,e1,e⟩:=PS (ha _ (RW h)) (hb _ (RW (show i<b.length by omega))) hm
   rw [if_pos (by simp only [decide_eq_true_eq]; omega),ke h,QM,ke (by omega),QM,e1,QM,Q9 h,Q9 (show i<b.length by omega)]
   cases x with
   | true=>
    obtain⟨o,k1,k2⟩:=Cg (m:=m) hl hs hm ha hb f (i+1) (by omega) (by omega)
    rw [if_neg (by simp),aD (by omega) (by omega),show (i:Int)+1=((i+1:Nat):Int) by omega,k1,e.1 rfl]
    refine⟨o,rfl,?_⟩
    rcases k2 with⟨x,k⟩| ⟨x,k⟩
    ·exact .inl ⟨x,by rw [k]⟩
    ·exact .inr ⟨x,fun z=>k (R6 z).2⟩
   | false=>exact⟨_,rfl,.inr ⟨rfl,fun z=>by simpa using e.2 (R6 z).1⟩⟩
  ·refine⟨.inr (i:Int),by rw [if_neg (by simp only [decide_eq_true_eq]; omega)],.inl ⟨⟨_,rfl⟩,?_⟩⟩
   rw [Rz (by omega),Rz (by omega)]
theorem PT {m:Nat}{a b:aw}(ha:uJ a)(hb:uJ b)(hm:8001≤m):∃x,eH.f m a b=some x∧(x=true↔a=b):=by
 have hs:=ha.zx
 have this:a.nodes=b.nodes↔a=b:=⟨fun e=>by
   have r1:=ha.root
   have r2:=hb.root
   cases a; cases b; simp only at e r1 r2; subst e r1 r2; rfl,fun e=>by rw [e]⟩
 unfold eH.f az.f
 by_cases hl:a.nodes.length=b.nodes.length
 ·obtain⟨o,k1,k2⟩:=Cg (m:=m) hl hs hm (fun n hn=>(ha.nodes n hn).1) (fun n hn=>(hb.nodes n hn).1) m 0 (by omega) (by omega)
  have k1:az.l0 m a.nodes b.nodes (fun y0 y1=>cG.f m y0 y1) m 0=_:=k1
  rw [if_neg (by rw [hl]; simp),k1,QM]
  rw [Rr,Rr] at k2
  rcases k2 with⟨⟨x,rfl⟩,k⟩| ⟨rfl,k⟩
  ·exact⟨_,rfl,by simp [this.1 k]⟩
  ·exact⟨_,rfl,by simp; exact fun e=>k (this.2 e)⟩
 ·have hi:¬(a.nodes.length:Int)=b.nodes.length:=by omega
  rw [if_pos (by simpa using hi)]
  exact⟨_,rfl,by simp; exact fun e=>hl (by rw [e])⟩
theorem zH {m:Nat}(hm:2 ^ 41≤m){a b:aw}(ha:cC a=true)(hb:cC b=true)(a0:El a)(b0:El b):∃x,fy.f m a b=some (x,0)∧(x=true↔lf m a=lf m b):=by
 have tj:(2:Nat) ^ 41=2199023255552:=by decide
 have lz:(2:Nat) ^ 30=1073741824:=by decide
 have F:=oM hm ha a0
 have G:=oM hm hb b0
 obtain⟨x,k1,k2⟩:=PT (m:=m) F.lt G.lt (by omega)
 refine⟨x,?_,k2⟩
 unfold fy.f
 rw [hH (by omega),QM,ha,if_neg (by simp),hH (by omega),QM,hb,if_neg (by simp),F.eq,QM,G.eq,QM,k1,QM]
theorem Ch {m:Nat}{t:aw}(F:Lf m t):b6.f m t=some (lf m t,0):=by unfold b6.f; rw [F.top]; rfl
theorem Lf.graph {m:Nat}(hm:2 ^ 41≤m){t:aw}(F:Lf m t):aJ.f m (lf m t) (lf m t)=some true:=by
 have tj:(2:Nat) ^ 41=2199023255552:=by decide
 have lz:(2:Nat) ^ 30=1073741824:=by decide
 exact Gr (by omega) F.lt.zx fun n hn=>(F.lt.nodes n hn).1.args
end Go.Proofs.YtmekcfdllhphlaaDoor
namespace Go.Proofs.YtmekcfdllhphlaaDoor
open Go Go.R
open Go.IntKind (i64 u64 u8 u32)
def vc:ca:=ff [0,1,2,4,5,6,7,8,9,10,11,12,13,14,15,16,17,18,19,20,33,58,80,112,123,145] [2,5,7,11,13,16,19] [67108857,66060281,67108855,67108809,67108617,67107849,67106825,67104777,65007625,67104777,67100681,67100681,67104777,67098633,62904329,67098633,67082249,67049481,67049481,67082249,67016713,58628105,67016713,66885641,50108425,66885641,33331209,66885641,66321419,67108855] [(28,[(11,some 0,0)])] [(6,[(11,some 0,4)]),(17,[(16,some 3,1)])]
def ah.l0 (m:Nat)(t0:aw):Nat→Int→(List aa)→Int→Option (Int × (List aa) × Int)
 | 0,_,_,_=>none
 | k+1,i0,u0,u1=>if (decide (i0<(t0.nodes.length:Int)))=true then ((ix t0.nodes i0).bind fun v0=>(app 8 ([]) v0.args).bind fun x8=>(app 56 u0 [aa.mk v0.kind v0.int v0.label x8]).bind fun x9=>ah.l0 m t0 k (i64.wrap (i0+(1:Int))) x9 u1) else (some ((i0,u0,u1)))
def ah.l3 (m:Nat)(i2:Int)(v2:Int)(j0:Int):Nat→Int→(List aa)→Option (Int × (List aa))
 | 0,_,_=>none
 | k+1,a0,u7=>(ix u7 j0).bind fun v4=>if (decide (a0<(v4.args.length:Int)))=true then ((ix u7 j0).bind fun v5=>(ix v5.args a0).bind fun v6=>if (v6==v2)=true then (if ((Int.tmod (i64.wrap (i64.wrap (i2+j0)+a0)) (2:Int))==(0:Int))=true then ((ix u7 j0).bind fun v7=>(ix v7.args a0).bind fun v8=>ah.l3 m i2 v2 j0 k (i64.wrap (a0+(1:Int))) (u7.set j0.toNat (aa.mk v7.kind v7.int v7.label (v7.args.set a0.toNat (i64.wrap ((u7.length:Int) - (1:Int))))))) else (ah.l3 m i2 v2 j0 k (i64.wrap (a0+(1:Int))) u7)) else (ah.l3 m i2 v2 j0 k (i64.wrap (a0+(1:Int))) u7)) else (some ((a0,u7)))
def ah.l2 (m:Nat)(i2:Int)(v2:Int):Nat→Int→(List aa)→Option (Int × (List aa))
 | 0,_,_=>none
 | k+1,j0,u6=>if (decide (j0<(u6.length:Int)))=true then ((ah.l3 m i2 v2 j0 m (0:Int) u6).bind fun b5=>match b5 with | (a1,LR)=>ah.l2 m i2 v2 k (i64.wrap (j0+(1:Int))) LR) else (some ((j0,u6)))
def ah.l1 (m:Nat)(bK:List Int):Nat→Int→(List aa)→Int→Option (Int × (List aa) × Int)
 | 0,_,_,_=>none
 | k+1,i2,u4,u5=>if (decide (i2<(bK.length:Int)))=true then ((ix bK i2).bind fun v1=>(AQ .i64 (i64.wrap v1) (u4.length:Int)).bind fun v2=>(ix u4 v2).bind fun v3=>(app 8 ([]) v3.args).bind fun nR=>(app 56 u4 [aa.mk v3.kind v3.int v3.label nR]).bind fun FW=>(ah.l2 m i2 v2 m (0:Int) FW).bind fun iT=>match iT with | (j1,u9)=>ah.l1 m bK k (i64.wrap (i2+(1:Int))) u9 u5) else (some ((i2,u4,u5)))
def ah.f (m:Nat)(t0:aw)(bK:List Int):Option (Bool):=(aH.f m ([t0])).bind fun x0=>if x0=true then ((fl.f m).bind fun x1=>some x1) else ((bl.f m t0).bind fun x2=>if (!x2)=true then ((fl.f m).bind fun x3=>some x3) else (if (decide ((bK.length:Int) > (40:Int)))=true then ((fl.f m).bind fun x4=>some x4) else ((b6.f m t0).bind fun x5=>(b6.f m x5.1).bind fun x6=>(fy.f m x5.1 t0).bind fun x7=>(ah.l0 m t0 m (0:Int) ([]:List aa) t0.root).bind fun bR=>match bR with | (i1,u2,u3)=>(ah.l1 m bK m (0:Int) u2 u3).bind fun mb=>match mb with | (i3,IM,ND)=>(b6.f m (aw.mk IM ND)).bind fun Ds=>if (x5.2==(0:Int))=true then (if (x6.2==(0:Int))=true then (if (x7.2==(0:Int))=true then (if (Ds.2==(0:Int))=true then (if x7.1=true then ((aJ.f m x5.1 x6.1).bind fun vo=>if vo=true then ((aJ.f m x5.1 Ds.1).bind fun NF=>if NF=true then (if (decide ((x5.1.nodes.length:Int)≤(t0.nodes.length:Int)))=true then ((fl.f m).bind fun LS=>some LS) else (some false)) else (some false)) else (some false)) else (some false)) else (some false)) else (some false)) else (some false)) else (some false))))
def ah.fin (L:Mem)(r:Bool)(s:St):Prop:=∃av,aP Tryd.prog (s.open vc) Tryd.f8.results.toList=some av∧fT s.h av (.bool r)
def S8 (cf:CallF)(m:Nat):Prop:=∀(t0:aw) (bK:List Int) (r:Bool),ah.f m t0 bK=some r→∀h xs,eO eV h xs [.agg [ae.fz t0.nodes,.int .i64 t0.root],fL.fz bK]→cf 8 xs h=some (.bool r,h)
section
variable {cf:CallF}{m:Nat}
theorem ah.cw (L:Mem)(t0:aw)(bK:List Int)(x5:aw × Int)(x6:aw × Int)(x7:Bool × Int)   : cD Tryd.prog cf vc m (sub [1,1,1,1,1,1,0,1,0,0] (codeOf Tryd.f8)) (fun k (σ:Int × (List aa) × Int)=>ah.l0 m t0 k σ.1 σ.2.1 σ.2.2) (fun σ s=>match σ with | (i0,u0,u1)=>∃aL vd h0,s=⟨.any::fL.fz bK :: .lp 2 0 :: .any :: .lp 5 0 :: .int .i64 x5.2 :: .lp 7 0 :: .int .i64 x6.2 :: .bool x7.1 :: .int .i64 x7.2 :: .lp 11 0 :: .int .i64 i0::sO [],[some [ae.fz t0.nodes,.int .i64 t0.root],some [ae.fz x5.1.nodes,.int .i64 x5.1.root],some [ae.fz x6.1.nodes,.int .i64 x6.1.root],some [.rs aL 0 u0.length 4,.int .i64 u1],none,none,none],h0⟩∧Has h0 ((aL,.sl u0.length 4 (fU.l (bL u0 vd)))::(jj u0 vd++L))) (fun out e s=>(e = .exit 0∧∃i0 u0 u1,(i0,u0,u1)=out∧∃Ce FH aL vd h0,s=⟨.any::fL.fz bK :: .lp 2 0 :: .any :: .lp 5 0 :: .int .i64 x5.2 :: .lp 7 0 :: .int .i64 x6.2 :: .bool x7.1 :: .int .i64 x7.2 :: .lp 11 0::Ce::HJ (FH::AW []),[some [ae.fz t0.nodes,.int .i64 t0.root],some [ae.fz x5.1.nodes,.int .i64 x5.1.root],some [ae.fz x6.1.nodes,.int .i64 x6.1.root],some [.rs aL 0 u0.length 4,.int .i64 u1],none,none,none],h0⟩∧Has h0 ((aL,.sl u0.length 4 (fU.l (bL u0 vd)))::(jj u0 vd++L)))):=by
 refine jW (fun _=>rfl) ?_
 rintro k ⟨i0,u0,u1⟩ s out ⟨aL,vd,h0,rfl,o1⟩ H
 have H:ah.l0 m t0 (k+1) i0 u0 u1=some out:=H
 refine qq <| qq <| q0 <| qc H (fun c5 H=>?_) (fun c5 H=>?_)
 ·refine qk <| qq <| qb 1 <| qq ?_
  obtain⟨v0,e8,H⟩:=bb H
  refine qr [.v 3 (cH (k:=.i64) (E:=ae) (l:=t0.nodes) oa e8),.v 4 (gf  (E:=ae) (l:=t0.nodes) h0 xF xG e8)] <| qq ?_
  obtain⟨x8,e9,H⟩:=bb H
  obtain⟨rP,h1,xP,o2⟩:=AI (P:=Tryd.prog) (E:=af) (s:=.fz [] 0 true) (t2:=42) (x:=af.fz v0.args) (l2:=v0.args) (.inr rfl) fV o1 (AJ (E:=af) (l2:=v0.args) _) rfl e9
  refine qr [.a 3 xP] ?_
  obtain⟨x9,Bl,H⟩:=bb H
  obtain⟨kN,LU,h2,Dn,o3⟩:=A7 (P:=Tryd.prog) (t2:=29) (pre:=[]) (ns:=u0) (ids:=vd) (kind:=v0.kind) (int:=v0.int) (label:=v0.label) (args:=x8) (x:=.fz [.int .i64 v0.kind,.int .i64 v0.int,.str v0.label,.rs rP 0 x8.length 1] 1 true) oa (Has.front (Has.front o2 0 rfl) 1 rfl) (by kernel_rfl) rfl Bl
  exact qr [.a 4 Dn] <| q0 <| ⟨(i64.wrap (i0+(1:Int)),x9,u1),⟨kN,LU,h2,by kernel_rfl,o3⟩,H⟩
 ·exact qx 0 <| ⟨rfl,i0,u0,u1,oi H,.int .i64 i0,.bool (decide (i0<(t0.nodes.length:Int))),aL,vd,h0,by kernel_rfl,o1⟩
theorem ah.ux (L:Mem)(t0:aw)(bK:List Int)(x5:aw × Int)(x6:aw × Int)(x7:Bool × Int)(i2:Int)(u5:Int)(v2:Int)(j0:Int)   : cD Tryd.prog cf vc m (sub [1,1,1,1,1,1,1,0,1,0,0,1,0,0,1,1,1,1,1,0,0,1,0,0,1,0,0] (codeOf Tryd.f8)) (fun k (σ:Int × (List aa))=>ah.l3 m i2 v2 j0 k σ.1 σ.2) (fun σ s=>match σ with | (a0,u7)=>∃iq fB h8,s=⟨.any::fL.fz bK :: .lp 2 0 :: .any :: .lp 5 0 :: .int .i64 x5.2 :: .lp 7 0 :: .int .i64 x6.2 :: .bool x7.1 :: .int .i64 x7.2 :: .lp 11 0 :: .any :: .any :: .int .i64 i2 :: .int .i64 v2 :: .any :: .int .i64 j0 :: .int .i64 a0::vl [],[some [ae.fz t0.nodes,.int .i64 t0.root],some [ae.fz x5.1.nodes,.int .i64 x5.1.root],some [ae.fz x6.1.nodes,.int .i64 x6.1.root],some [.rs iq 0 u7.length 4,.int .i64 u5],none,none,none],h8⟩∧Has h8 ((iq,.sl u7.length 4 (fU.l (bL u7 fB)))::(jj u7 fB++L))) (fun out e s=>(e = .exit 6∧∃a0 u7,(a0,u7)=out∧∃Gs IN iq fB h8,s=⟨.any::fL.fz bK :: .lp 2 0 :: .any :: .lp 5 0 :: .int .i64 x5.2 :: .lp 7 0 :: .int .i64 x6.2 :: .bool x7.1 :: .int .i64 x7.2 :: .lp 11 0 :: .any :: .any :: .int .i64 i2 :: .int .i64 v2 :: .any :: .int .i64 j0::Gs::Dg [IN,.any],[some [ae.fz t0.nodes,.int .i64 t0.root],some [ae.fz x5.1.nodes,.int .i64 x5.1.root],some [ae.fz x6.1.nodes,.int .i64 x6.1.root],some [.rs iq 0 u7.length 4,.int .i64 u5],none,none,none],h8⟩∧Has h8 ((iq,.sl u7.length 4 (fU.l (bL u7 fB)))::(jj u7 fB++L)))):=by
 refine jW (fun _=>rfl) ?_
 rintro k ⟨a0,u7⟩ s out ⟨iq,fB,h8,rfl,o9⟩ H
 have H:ah.l3 m i2 v2 j0 (k+1) a0 u7=some out:=H
 refine qq <| qq ?_
 obtain⟨v4,GP,H⟩:=bb H
 refine qr [.v 4 (aY (k:=.i64) (E:=fU) (l:=(bL u7 fB)) (q:=0) oa o9 rfl (gn GP)),.v 6 (oI  (E:=fU) (l:=(bL u7 fB)) (q:=0) (off:=3) o9 rfl GL (gn GP) rfl)] <| qc H (fun c8 H=>?_) (fun c8 H=>?_)
 ·refine qk <| qq <| qb 7 <| qq ?_
  obtain⟨v5,zq,H⟩:=bb H
  obtain⟨v6,Dq,H⟩:=bb H
  rcases cO H with⟨c9,H⟩| ⟨c9,H⟩
  ·refine qr [.v 3 (aY (k:=.i64) (E:=fU) (l:=(bL u7 fB)) (q:=0) oa o9 rfl (gn zq)),.v 5 (oI  (E:=fU) (l:=(bL u7 fB)) (q:=0) (off:=3) o9 rfl GL (gn zq) rfl),.v 7 (aY (k:=.i64) (E:=af) (l:=v5.args) fV o9 (k9 (pre:=[(iq,.sl u7.length 4 (fU.l (bL u7 fB)))]) (ids:=fB) zq) Dq),.v 8 (cp  (E:=af) (l:=v5.args) o9 (k9 (pre:=[(iq,.sl u7.length 4 (fU.l (bL u7 fB)))]) (ids:=fB) zq) A3 Dq rfl),.b 11 c9] <| qc H (fun qT H=>?_) (fun qT H=>?_)
   ·obtain⟨v7,Ef,H⟩:=bb H
    obtain⟨v8,FL,H⟩:=bb H
    obtain⟨h9,GU,CD⟩:=Fu (P:=Tryd.prog) (tf:=3) (pre:=[]) (v:=(i64.wrap ((u7.length:Int) - (1:Int)))) o9 Z3 Ef FL
    exact qr [.v 3 (aY (k:=.i64) (E:=fU) (l:=(bL u7 fB)) (q:=0) oa o9 rfl (gn Ef)),.v 5 (oI  (E:=fU) (l:=(bL u7 fB)) (q:=0) (off:=3) o9 rfl GL (gn Ef) rfl),.v 11 (aY (k:=.i64) (E:=af) (l:=v7.args) fV o9 (k9 (pre:=[(iq,.sl u7.length 4 (fU.l (bL u7 fB)))]) (ids:=fB) Ef) FL),.w 12 GU] <| q0 <| ⟨(i64.wrap (a0+(1:Int)),u7.set j0.toNat (aa.mk v7.kind v7.int v7.label (v7.args.set a0.toNat (i64.wrap ((u7.length:Int) - (1:Int)))))),⟨iq,fB,h9,(Eq.trans (b:=⟨.any::fL.fz bK :: .lp 2 0 :: .any :: .lp 5 0 :: .int .i64 x5.2 :: .lp 7 0 :: .int .i64 x6.2 :: .bool x7.1 :: .int .i64 x7.2 :: .lp 11 0 :: .any :: .any :: .int .i64 i2 :: .int .i64 v2 :: .any :: .int .i64 j0 :: .int .i64 (i64.wrap (a0+(1:Int)))::vl [],[some [ae.fz t0.nodes,.int .i64 t0.root],some [ae.fz x5.1.nodes,.int .i64 x5.1.root],some [ae.fz x6.1.nodes,.int .i64 x6.1.root],some [.rs iq 0 u7.length 4,.int .i64 u5],none,none,none],h9⟩) (by kernel_rfl) (by simp only [Rb])),(by have o:Has h9 ((iq,.sl u7.length 4 (fU.l (bL (u7.set j0.toNat (aa.mk v7.kind v7.int v7.label (v7.args.set a0.toNat (i64.wrap ((u7.length:Int) - (1:Int)))))) fB)))::(jj (u7.set j0.toNat (aa.mk v7.kind v7.int v7.label (v7.args.set a0.toNat (i64.wrap ((u7.length:Int) - (1:Int)))))) fB++L)):=CD; simpa only [Rb] using o)⟩,H⟩
   ·exact qk <| q0 <| ⟨(i64.wrap (a0+(1:Int)),u7),⟨iq,fB,h8,by kernel_rfl,o9⟩,H⟩
  ·exact qr [.v 3 (aY (k:=.i64) (E:=fU) (l:=(bL u7 fB)) (q:=0) oa o9 rfl (gn zq)),.v 5 (oI  (E:=fU) (l:=(bL u7 fB)) (q:=0) (off:=3) o9 rfl GL (gn zq) rfl),.v 7 (aY (k:=.i64) (E:=af) (l:=v5.args) fV o9 (k9 (pre:=[(iq,.sl u7.length 4 (fU.l (bL u7 fB)))]) (ids:=fB) zq) Dq),.v 8 (cp  (E:=af) (l:=v5.args) o9 (k9 (pre:=[(iq,.sl u7.length 4 (fU.l (bL u7 fB)))]) (ids:=fB) zq) A3 Dq rfl),.b 11 c9] <| GK <| qk <| q0 <| ⟨(i64.wrap (a0+(1:Int)),u7),⟨iq,fB,h8,by kernel_rfl,o9⟩,H⟩
 ·exact qx 6 <| ⟨rfl,a0,u7,oi H,.int .i64 a0,.bool (decide (a0<(v4.args.length:Int))),iq,fB,h8,by kernel_rfl,o9⟩
theorem ah.qd (L:Mem)(t0:aw)(bK:List Int)(x5:aw × Int)(x6:aw × Int)(x7:Bool × Int)(i2:Int)(u5:Int)(v2:Int)   : cD Tryd.prog cf vc m (sub [1,1,1,1,1,1,1,0,1,0,0,1,0,0,1,1,1,1,1,0,0] (codeOf Tryd.f8)) (fun k (σ:Int × (List aa))=>ah.l2 m i2 v2 k σ.1 σ.2) (fun σ s=>match σ with | (j0,u6)=>∃iY ve h7,s=⟨.any::fL.fz bK :: .lp 2 0 :: .any :: .lp 5 0 :: .int .i64 x5.2 :: .lp 7 0 :: .int .i64 x6.2 :: .bool x7.1 :: .int .i64 x7.2 :: .lp 11 0 :: .any :: .any :: .int .i64 i2 :: .int .i64 v2 :: .any :: .int .i64 j0::HJ [],[some [ae.fz t0.nodes,.int .i64 t0.root],some [ae.fz x5.1.nodes,.int .i64 x5.1.root],some [ae.fz x6.1.nodes,.int .i64 x6.1.root],some [.rs iY 0 u6.length 4,.int .i64 u5],none,none,none],h7⟩∧Has h7 ((iY,.sl u6.length 4 (fU.l (bL u6 ve)))::(jj u6 ve++L))) (fun out e s=>(e = .exit 4∧∃j0 u6,(j0,u6)=out∧∃wC Bm IP iY ve h7,s=⟨.any::fL.fz bK :: .lp 2 0 :: .any :: .lp 5 0 :: .int .i64 x5.2 :: .lp 7 0 :: .int .i64 x6.2 :: .bool x7.1 :: .int .i64 x7.2 :: .lp 11 0 :: .any :: .any :: .int .i64 i2::wC :: .any::Bm::Dg [IP,.any,.any],[some [ae.fz t0.nodes,.int .i64 t0.root],some [ae.fz x5.1.nodes,.int .i64 x5.1.root],some [ae.fz x6.1.nodes,.int .i64 x6.1.root],some [.rs iY 0 u6.length 4,.int .i64 u5],none,none,none],h7⟩∧Has h7 ((iY,.sl u6.length 4 (fU.l (bL u6 ve)))::(jj u6 ve++L)))):=by
 refine jW (fun _=>rfl) ?_
 rintro k ⟨j0,u6⟩ s out ⟨iY,ve,h7,rfl,o8⟩ H
 have H:ah.l2 m i2 v2 (k+1) j0 u6=some out:=H
 refine qq <| qq <| q0 <| qc H (fun c7 H=>?_) (fun c7 H=>?_)
 ·refine qk <| qq <| qb 5 <| qq <| q0 <| qb 6 ?_
  obtain⟨b5,H8,H⟩:=bb H
  refine ql (ah.ux L t0 bK x5 x6 x7 i2 u5 v2 j0   ((0:Int),u6) _ _ ⟨iY,ve,h7,by kernel_rfl,o8⟩ H8) ?_
  rintro e s ⟨rfl,a1,LR,rfl,g2,g3,KR,LV,h10,rfl,Eb⟩
  try dsimp only at H
  exact q0 <| ⟨(i64.wrap (j0+(1:Int)),LR),⟨KR,LV,h10,by kernel_rfl,Eb⟩,H⟩
 ·exact qx 4 <| ⟨rfl,j0,u6,oi H,.int .i64 v2,.int .i64 j0,.bool (decide (j0<(u6.length:Int))),iY,ve,h7,by kernel_rfl,o8⟩
theorem ah.iS (L:Mem)(t0:aw)(bK:List Int)(x5:aw × Int)(x6:aw × Int)(x7:Bool × Int)   : cD Tryd.prog cf vc m (sub [1,1,1,1,1,1,1,0,1,0,0] (codeOf Tryd.f8)) (fun k (σ:Int × (List aa) × Int)=>ah.l1 m bK k σ.1 σ.2.1 σ.2.2) (fun σ s=>match σ with | (i2,u4,u5)=>∃ng nt h4,s=⟨.any::fL.fz bK :: .lp 2 0 :: .any :: .lp 5 0 :: .int .i64 x5.2 :: .lp 7 0 :: .int .i64 x6.2 :: .bool x7.1 :: .int .i64 x7.2 :: .lp 11 0 :: .any :: .any :: .int .i64 i2::pK [],[some [ae.fz t0.nodes,.int .i64 t0.root],some [ae.fz x5.1.nodes,.int .i64 x5.1.root],some [ae.fz x6.1.nodes,.int .i64 x6.1.root],some [.rs ng 0 u4.length 4,.int .i64 u5],none,none,none],h4⟩∧Has h4 ((ng,.sl u4.length 4 (fU.l (bL u4 nt)))::(jj u4 nt++L))) (fun out e s=>(e = .exit 2∧∃i2 u4 u5,(i2,u4,u5)=out∧∃qS wA LW ng nt h4,s=⟨.any::qS :: .lp 2 0 :: .any :: .lp 5 0 :: .int .i64 x5.2 :: .lp 7 0 :: .int .i64 x6.2 :: .bool x7.1 :: .int .i64 x7.2 :: .lp 11 0 :: .any :: .any::wA::vl (LW::mD []),[some [ae.fz t0.nodes,.int .i64 t0.root],some [ae.fz x5.1.nodes,.int .i64 x5.1.root],some [ae.fz x6.1.nodes,.int .i64 x6.1.root],some [.rs ng 0 u4.length 4,.int .i64 u5],none,none,none],h4⟩∧Has h4 ((ng,.sl u4.length 4 (fU.l (bL u4 nt)))::(jj u4 nt++L)))):=by
 refine jW (fun _=>rfl) ?_
 rintro k ⟨i2,u4,u5⟩ s out ⟨ng,nt,h4,rfl,o5⟩ H
 have H:ah.l1 m bK (k+1) i2 u4 u5=some out:=H
 refine qq <| qq <| q0 <| qc H (fun c6 H=>?_) (fun c6 H=>?_)
 ·refine qk <| qq <| qb 3 <| qq ?_
  obtain⟨v1,Dr,H⟩:=bb H
  obtain⟨v2,Dp,H⟩:=bb H
  refine qr [.v 2 (cH (k:=.i64) (E:=fL) (l:=bK) OG Dr),.v 3 (fK  (E:=fL) (l:=bK) h4 A5 Dr rfl),.v 8 (show kR Tryd.prog .rem 3 (.int .i64 (i64.wrap v1)) (.int .i64 (u4.length:Int))=some (.int .i64 v2) from Dc Dp)] <| qq ?_
  obtain⟨v3,Ee,H⟩:=bb H
  refine qr [.v 3 (aY (k:=.i64) (E:=fU) (l:=(bL u4 nt)) (q:=0) oa o5 rfl (gn Ee)),.v 4 (C7  (E:=fU) (l:=(bL u4 nt)) (q:=0) o5 rfl xF xG (gn Ee))] <| qq ?_
  obtain⟨nR,FI,H⟩:=bb H
  obtain⟨mF,h5,H2,o6⟩:=AI (P:=Tryd.prog) (E:=af) (s:=.fz [] 0 true) (t2:=42) (x:=.rs (Ft nt v2) 0 v3.args.length 1) (l2:=v3.args) (.inr rfl) fV o5 (zd (E:=af) (l:=v3.args) o5 (k9 (pre:=[(ng,.sl u4.length 4 (fU.l (bL u4 nt)))]) (ids:=nt) Ee)) rfl FI
  refine qr [.a 3 H2] <| qq ?_
  obtain⟨FW,FJ,H⟩:=bb H
  obtain⟨nh,LX,h6,H3,o7⟩:=A7 (P:=Tryd.prog) (t2:=29) (pre:=[]) (ns:=u4) (ids:=nt) (kind:=v3.kind) (int:=v3.int) (label:=v3.label) (args:=nR) (x:=.fz [.int .i64 v3.kind,.int .i64 v3.int,.str v3.label,.rs mF 0 nR.length 1] 1 true) oa (Has.front (Has.front o6 0 rfl) 1 rfl) (by kernel_rfl) rfl FJ
  refine qr [.a 4 H3] <| qq <| q0 <| qb 4 ?_
  obtain⟨iT,H6,H⟩:=bb H
  refine ql (ah.qd L t0 bK x5 x6 x7 i2 u5 v2   ((0:Int),FW) _ _ ⟨nh,LX,h6,by kernel_rfl,o7⟩ H6) ?_
  rintro e s ⟨rfl,j1,u9,rfl,g4,g5,g6,gB,LY,h11,rfl,Ec⟩
  try dsimp only at H
  exact q0 <| ⟨(i64.wrap (i2+(1:Int)),u9,u5),⟨gB,LY,h11,by kernel_rfl,Ec⟩,H⟩
 ·exact qx 2 <| ⟨rfl,i2,u4,u5,oi H,fL.fz bK,.int .i64 i2,.bool (decide (i2<(bK.length:Int))),ng,nt,h4,by kernel_rfl,o5⟩
theorem jr {a7:FuncId→ca}(ha:a7 8=vc)(Gt:Ny cf m)(DN:MA cf m)(Gu:MW cf m)(w7:MX cf m)(LZ:NC cf m)(IQ:Ng cf m)(t0:aw)(bK:List Int)(h:AHeap)(L:Mem)  (o:Has h (L)){out:Bool}(H:ah.f m t0 bK=some out) :
  ∃r h',bf Tryd.prog a7 cf m 8 [.agg [ae.fz t0.nodes,.int .i64 t0.root],fL.fz bK] h=some (r,h')∧fT h' r (.bool out):=by
 refine aq (fn:=Tryd.f8) ha Tryd.func8 (by kernel_rfl) (by kernel_rfl) ?_
 refine aQ (Q:=fun s=>ah.fin L out s) (fun _ _ h=>h) ?_
 have H:_=some out:=H
 unfold ah.f at H
 show cX _ cf vc m _ ⟨.agg [ae.fz t0.nodes,.int .i64 t0.root]::fL.fz bK::Ke [],[none,none,none,none,none,none,none],h⟩ _
 refine q1 <| qq <| qq ?_
 obtain⟨x0,e0,H⟩:=bb H
 rcases cO H with⟨c0,H⟩| ⟨c0,H⟩
 ·refine qr [.a 2 (Gt _ _ e0 h _ (eZ (ab (pE (E:=eU) (l:=[t0]) (cs:=[ae.fz t0.nodes,.int .i64 t0.root]) (b:=true) (pure_cons (bQ.fJ (E:=ae) (l:=t0.nodes)) (pure_cons (fM) (pure_nil))).1 (pure_cons (bQ.fJ (E:=ae) (l:=t0.nodes)) (pure_cons (fM) (pure_nil))).2 rfl) (aA)))),.b 3 c0] <| sQ <| qq ?_
  obtain⟨x1,e1,H⟩:=bb H
  obtain rfl:=oi H
  exact qr [.a 0 (DN _ e1 h _ (eZ (aA)))] <| qt <| ⟨.inl rfl,bD (.bool x1) h (bB (aj))⟩
 ·obtain⟨x2,e2,H⟩:=bb H
  rcases cO H with⟨c2,H⟩| ⟨c2,H⟩
  ·refine qr [.a 2 (Gt _ _ e0 h _ (eZ (ab (pE (E:=eU) (l:=[t0]) (cs:=[ae.fz t0.nodes,.int .i64 t0.root]) (b:=true) (pure_cons (bQ.fJ (E:=ae) (l:=t0.nodes)) (pure_cons (fM) (pure_nil))).1 (pure_cons (bQ.fJ (E:=ae) (l:=t0.nodes)) (pure_cons (fM) (pure_nil))).2 rfl) (aA)))),.b 3 c0,.a 5 (IQ _ _ e2 h _ (eZ (ab (bw (ab (b7 (E:=ae)) (ab (aM) (aA)))) (aA)))),.b 8 c2] <| sQ <| qq ?_
   obtain⟨x3,e3,H⟩:=bb H
   obtain rfl:=oi H
   exact qr [.a 0 (DN _ e3 h _ (eZ (aA)))] <| qt <| ⟨.inl rfl,bD (.bool x3) h (bB (aj))⟩
  ·refine qr [.a 2 (Gt _ _ e0 h _ (eZ (ab (pE (E:=eU) (l:=[t0]) (cs:=[ae.fz t0.nodes,.int .i64 t0.root]) (b:=true) (pure_cons (bQ.fJ (E:=ae) (l:=t0.nodes)) (pure_cons (fM) (pure_nil))).1 (pure_cons (bQ.fJ (E:=ae) (l:=t0.nodes)) (pure_cons (fM) (pure_nil))).2 rfl) (aA)))),.b 3 c0,.a 5 (IQ _ _ e2 h _ (eZ (ab (bw (ab (b7 (E:=ae)) (ab (aM) (aA)))) (aA)))),.b 8 c2] <| qc H (fun c4 H=>?_) (fun c4 H=>?_)
   ·refine qq ?_
    obtain⟨x4,e4,H⟩:=bb H
    obtain rfl:=oi H
    exact qr [.a 0 (DN _ e4 h _ (eZ (aA)))] <| qt <| ⟨.inl rfl,bD (.bool x4) h (bB (aj))⟩
   ·refine qk <| qq ?_
    obtain⟨x5,e5,H⟩:=bb H
    refine qr [.a 1 (Gu _ _ e5 h _ (b4 (jU (b4 (ik (E:=ae)) (b4 (br) (fe)))) (fe)))] <| qq ?_
    obtain⟨x6,e6,H⟩:=bb H
    refine qr [.a 1 (Gu _ _ e6 h _ (b4 (jU (b4 (ik (E:=ae)) (b4 (br) (fe)))) (fe)))] <| qq ?_
    obtain⟨x7,e7,H⟩:=bb H
    refine qr [.a 2 (LZ _ _ _ e7 h _ (eZ (ab (bw (ab (b7 (E:=ae)) (ab (aM) (aA)))) (ab (bw (ab (b7 (E:=ae)) (ab (aM) (aA)))) (aA)))))] <| qq <| q0 ?_
    have o0:Has h (((0),.sl (([]:List aa).length) 4 (fU.l (bL ([]:List aa) ([]:List Nat))))::(jj ([]:List aa) ([]:List Nat)++L)):=Has.nil o 4
    refine qq <| qq <| q0 <| qb 0 ?_
    obtain⟨bR,Ed,H⟩:=bb H
    refine ql (ah.cw L t0 bK x5 x6 x7   ((0:Int),([]:List aa),t0.root) _ _ ⟨(0),([]:List Nat),h,by kernel_rfl,o0⟩ Ed) ?_
    rintro e s ⟨rfl,i1,u2,u3,rfl,g0,g1,iW,L2,h3,rfl,o4⟩
    try dsimp only at H
    refine qq <| qq <| q0 <| qb 2 ?_
    obtain⟨mb,GS,H⟩:=bb H
    refine ql (ah.iS L t0 bK x5 x6 x7   ((0:Int),u2,u3) _ _ ⟨iW,L2,h3,by kernel_rfl,o4⟩ GS) ?_
    rintro e s ⟨rfl,i3,IM,ND,rfl,g7,g8,g9,ot,IS,h12,rfl,wv⟩
    try dsimp only at H
    refine qq ?_
    obtain⟨h13,GQ,CE⟩:=Dl (pre:=[(ot,.sl IM.length 4 (fU.l (bL IM IS)))]) (ns:=IM) (ids:=IS) (q:=0) wv rfl
    obtain⟨Ds,GR,H⟩:=bb H
    refine HM [.a 0 GQ] [.a 1 (Gu _ _ GR h13 _ (b4 (jU (b4 (ik (E:=ae)) (b4 (br) (fe)))) (fe)))] <| qq ?_
    rcases cO H with⟨kK,H⟩| ⟨kK,H⟩
    ·rcases cO H with⟨lb,H⟩| ⟨lb,H⟩
     ·rcases cO H with⟨mE,H⟩| ⟨mE,H⟩
      ·rcases cO H with⟨vn,H⟩| ⟨vn,H⟩
       ·rcases cO H with⟨wx,H⟩| ⟨wx,H⟩
        ·obtain⟨vo,GV,H⟩:=bb H
         rcases cO H with⟨wy,H⟩| ⟨wy,H⟩
         ·obtain⟨NF,Il,H⟩:=bb H
          rcases cO H with⟨zP,H⟩| ⟨zP,H⟩
          ·rcases cO H with⟨L3,H⟩| ⟨L3,H⟩
           ·obtain⟨LS,KQ,H⟩:=bb H
            obtain rfl:=oi H
            exact qr [.b 2 kK,.b 6 lb,.b 10 mE,.b 14 vn,.b 17 wx,.a 20 (w7 _ _ _ GV h13 _ (eZ (ab (bw (ab (b7 (E:=ae)) (ab (aM) (aA)))) (ab (bw (ab (b7 (E:=ae)) (ab (aM) (aA)))) (aA))))),.b 22 wy,.a 25 (w7 _ _ _ Il h13 _ (eZ (ab (bw (ab (b7 (E:=ae)) (ab (aM) (aA)))) (ab (bw (ab (b7 (E:=ae)) (ab (aM) (aA)))) (aA))))),.b 27 zP,.b 36 L3,.a 37 (DN _ KQ h13 _ (eZ (aA)))] <| qt <| ⟨.inl rfl,bD (.bool LS) h13 (bB (aj))⟩
           ·obtain rfl:=oi H
            exact qr [.b 2 kK,.b 6 lb,.b 10 mE,.b 14 vn,.b 17 wx,.a 20 (w7 _ _ _ GV h13 _ (eZ (ab (bw (ab (b7 (E:=ae)) (ab (aM) (aA)))) (ab (bw (ab (b7 (E:=ae)) (ab (aM) (aA)))) (aA))))),.b 22 wy,.a 25 (w7 _ _ _ Il h13 _ (eZ (ab (bw (ab (b7 (E:=ae)) (ab (aM) (aA)))) (ab (bw (ab (b7 (E:=ae)) (ab (aM) (aA)))) (aA))))),.b 27 zP,.b 36 L3] <| qt <| ⟨.inl rfl,bD (.bool false) h13 (bB (aj))⟩
          ·obtain rfl:=oi H
           exact qr [.b 2 kK,.b 6 lb,.b 10 mE,.b 14 vn,.b 17 wx,.a 20 (w7 _ _ _ GV h13 _ (eZ (ab (bw (ab (b7 (E:=ae)) (ab (aM) (aA)))) (ab (bw (ab (b7 (E:=ae)) (ab (aM) (aA)))) (aA))))),.b 22 wy,.a 25 (w7 _ _ _ Il h13 _ (eZ (ab (bw (ab (b7 (E:=ae)) (ab (aM) (aA)))) (ab (bw (ab (b7 (E:=ae)) (ab (aM) (aA)))) (aA))))),.b 27 zP] <| qt <| ⟨.inl rfl,bD (.bool false) h13 (bB (aj))⟩
         ·obtain rfl:=oi H
          exact qr [.b 2 kK,.b 6 lb,.b 10 mE,.b 14 vn,.b 17 wx,.a 20 (w7 _ _ _ GV h13 _ (eZ (ab (bw (ab (b7 (E:=ae)) (ab (aM) (aA)))) (ab (bw (ab (b7 (E:=ae)) (ab (aM) (aA)))) (aA))))),.b 22 wy] <| qt <| ⟨.inl rfl,bD (.bool false) h13 (bB (aj))⟩
        ·obtain rfl:=oi H
         exact qr [.b 2 kK,.b 6 lb,.b 10 mE,.b 14 vn,.b 17 wx] <| qt <| ⟨.inl rfl,bD (.bool false) h13 (bB (aj))⟩
       ·obtain rfl:=oi H
        exact qr [.b 2 kK,.b 6 lb,.b 10 mE,.b 14 vn] <| qt <| ⟨.inl rfl,bD (.bool false) h13 (bB (aj))⟩
      ·obtain rfl:=oi H
       exact qr [.b 2 kK,.b 6 lb,.b 10 mE] <| qt <| ⟨.inl rfl,bD (.bool false) h13 (bB (aj))⟩
     ·obtain rfl:=oi H
      exact qr [.b 2 kK,.b 6 lb] <| qt <| ⟨.inl rfl,bD (.bool false) h13 (bB (aj))⟩
    ·obtain rfl:=oi H
     exact qr [.b 2 kK] <| qt <| ⟨.inl rfl,bD (.bool false) h13 (bB (aj))⟩
end
end Go.Proofs.YtmekcfdllhphlaaDoor
namespace Go.Proofs.YtmekcfdllhphlaaDoor
open Go Go.R
open Go.IntKind (i64 u64 u8 u32)
structure tg (l u:List aa)(rp:List Int):Prop where
 len:rp.length=u.length
 jx:∀j:Nat,j<u.length→0≤gt rp j∧gt rp j<l.length
 top:∀j:Nat,j<u.length→Alike (nd l (gt rp j)) (nd u j)
 arg:∀j:Nat,j<u.length→∀n,n<(nd u j).args.length→(0≤gt (nd u j).args n∧gt (nd u j).args n<u.length)∧gt rp (gt (nd u j).args n).toNat=gt (nd l (gt rp j)).args n
theorem Ci {u:List aa}{x:aa}{j:Nat}:nd (u++[x]) j=if j<u.length then nd u j else if j=u.length then x else ⟨0,0,⟨#[]⟩,[]⟩:=by
 unfold nd
 rw [QT,Q5]
 split
 ·rename_i h; rw [Rs h,←Q5]
 ·rename_i h
  rw [Rg (by omega)]
  split
  ·rename_i h2; subst h2; simp
  ·rename_i h2; rw [Ra (by simp; omega)]; rfl
theorem yy {l:List Int}{x:Int}:gt (l++[x]) l.length=x:=by unfold gt; simp
theorem tg.app {l u:List aa}{rp:List Int}(R:tg l u rp){k:Nat}(hk:k<u.length):tg l (u++[nd u k]) (rp++[gt rp k]):=by
 have hl:=R.len
 have g:∀j,j<u.length→gt (rp++[gt rp k]) j=gt rp j:=fun j h=>dI (by omega)
 have g2:gt (rp++[gt rp k]) u.length=gt rp k:=by rw [←hl]; exact yy
 have key:∀j,j<u.length+1→∃i,i<u.length∧nd (u++[nd u k]) j=nd u i∧gt (rp++[gt rp k]) j=gt rp i:=fun j hj=>by
  by_cases h:j<u.length
  ·exact⟨j,h,by rw [Ci,if_pos h],g j h⟩
  ·have:j=u.length:=by omega
   subst this
   exact⟨k,hk,by rw [Ci,if_neg (by omega),if_pos rfl],g2⟩
 refine⟨by simp [hl],fun j hj=>?_,fun j hj=>?_,fun j hj n hn=>?_⟩
 ·obtain⟨i,hi,_,e⟩:=key j (by simpa using hj)
  rw [e]; exact R.jx i hi
 ·obtain⟨i,hi,e1,e2⟩:=key j (by simpa using hj)
  rw [e1,e2]; exact R.top i hi
 ·obtain⟨i,hi,e1,e2⟩:=key j (by simpa using hj)
  rw [e1] at hn ⊢
  rw [e2]
  have:=R.arg i hi n hn
  rw [g _ (by omega)]
  simp only [Q0,RA,RN]
  exact⟨by omega,this.2⟩
theorem tg.set {l u:List aa}{rp:List Int}(R:tg l u rp){j a z:Nat}(hj:j<u.length)(ha:a<(nd u j).args.length)(hz:z<u.length)(he:gt rp z=gt rp (gt (nd u j).args a).toNat) :
  tg l (u.set j ⟨(nd u j).kind,(nd u j).int,(nd u j).label,(nd u j).args.set a (z:Int)⟩) rp:=by
 have A:=R.top j hj
 refine⟨by simpa using R.len,fun i hi=>R.jx i (by simpa using hi),fun i hi=>?_,fun i hi n hn=>?_⟩
 ·rw [kc hj]
  split
  ·rename_i e; subst e; exact⟨A.kind,A.int,A.label,by simpa using A.len⟩
  ·exact R.top i (by simpa using hi)
 ·rw [kc hj] at hn ⊢
  rw [Rb]
  split
  ·rename_i e
   subst e
   rw [if_pos rfl] at hn
   have hn:n<(nd u i).args.length:=by simpa using hn
   dsimp only
   rw [cR ha]
   split
   ·rename_i e; subst e
    have:=R.arg i hj n ha
    exact⟨by omega,by rw [QT,he]; exact this.2⟩
   ·exact R.arg i hj n hn
  ·rename_i e
   rw [if_neg e] at hn
   exact R.arg i (by simpa using hi) n hn
theorem NG {u:List aa}{j:Nat}(h:j<u.length):ix u (j:Int)=some (nd u j):=by
 rw [ke h]
 have:=jq h
 rw [QZ h] at this
 exact this
section
variable {m:Nat}{l:List aa}
theorem w8 {rp:List Int}{i:Int}{k j:Nat}:∀(f a:Nat) (u:List aa),tg l u rp→u.length≤1000→k+1<u.length→gt rp (u.length - 1)=gt rp k→j<u.length→(nd u j).args.length≤8→(nd u j).args.length - a<f→a≤(nd u j).args.length→
  ∃x u',ah.l3 m i (k:Int) (j:Int) f (a:Int) u=some (x,u')∧tg l u' rp∧u'.length=u.length
 | 0,a,u,_,_,_,_,_,_,hf,_=>absurd hf (by omega)
 | f+1,a,u,R,hu,hk,hr,hj,h8,hf,ha=>by
  unfold ah.l3
  rw [NG hj,QM]
  by_cases h:a<(nd u j).args.length
  ·have e1:i64.wrap ((a:Int)+1)=((a+1:Nat):Int):=by rw [aD (by omega) (by omega)]; omega
   have next:=w8 (i:=i) (k:=k) f (a+1) u R hu hk hr hj h8 (by omega) (by omega)
   rw [if_pos (by simp only [decide_eq_true_eq]; omega),QM,bH h,QM,e1]
   by_cases e:gt (nd u j).args a=(k:Int)
   ·rw [if_pos (by simp [e])]
    split
    ·have e2:i64.wrap ((u.length:Int) - 1)=((u.length - 1:Nat):Int):=by rw [aD (by omega) (by omega)]; omega
     rw [QM,bH h,QM,e2,QT,QT]
     have R':=R.set hj h (z:=u.length - 1) (by omega) (by rw [hr,e,QT])
     obtain⟨x,u',q1,q2,q3⟩:=w8 (i:=i) (k:=k) f (a+1) _ R' (by simpa using hu) (by simpa using hk) (by simpa using hr) (by simpa using hj) (by rw [kc hj,if_pos rfl]; simpa using h8) (by rw [kc hj,if_pos rfl]; simp; omega) (by rw [kc hj,if_pos rfl]; simp; omega)
     exact⟨x,u',q1,q2,by simpa using q3⟩
    ·exact next
   ·rw [if_neg (by simpa using e)]; exact next
  ·exact⟨(a:Int),u,by rw [if_neg (by simp only [decide_eq_true_eq]; omega)],R,rfl⟩
theorem tg.zx {u:List aa}{rp:List Int}(R:tg l u rp)(hl:∀n∈l,n.args.length≤8){j:Nat}(hj:j<u.length):(nd u j).args.length≤8:=by
 rw [←(R.top j hj).len]
 have:=R.jx j hj
 exact hl _ (dq this.1 this.2)
theorem Cj (hm:1000≤m)(hl:∀n∈l,n.args.length≤8){rp:List Int}{i:Int}{k:Nat}:∀(f j:Nat) (u:List aa),tg l u rp→u.length≤1000→k+1<u.length→gt rp (u.length - 1)=gt rp k→u.length - j<f→j≤u.length→
  ∃x u',ah.l2 m i (k:Int) f (j:Int) u=some (x,u')∧tg l u' rp∧u'.length=u.length
 | 0,j,u,_,_,_,_,hf,_=>absurd hf (by omega)
 | f+1,j,u,R,hu,hk,hr,hf,hj=>by
  unfold ah.l2
  by_cases h:j<u.length
  ·have h8:=R.zx hl h
   obtain⟨x,u',q1,q2,q3⟩:=w8 (m:=m) (i:=i) (k:=k) m 0 u R hu hk hr h h8 (by omega) (by omega)
   have q1:ah.l3 m i (k:Int) (j:Int) m 0 u=_:=q1
   rw [if_pos (by simp only [decide_eq_true_eq]; omega),q1,QM]
   dsimp only
   rw [aD (by omega) (by omega),show (j:Int)+1=((j+1:Nat):Int) by omega]
   obtain⟨y,u2,p1,p2,p3⟩:=Cj hm hl (i:=i) (k:=k) f (j+1) u' q2 (by omega) (by omega) (by rw [q3]; exact hr) (by omega) (by omega)
   exact⟨y,u2,p1,p2,by omega⟩
  ·exact⟨(j:Int),u,by rw [if_neg (by simp only [decide_eq_true_eq]; omega)],R,rfl⟩
theorem IT {a:List Int}(h:a.length≤100):app 8 [] a=some a:=by unfold app; rw [if_pos (by simp; omega)]; rfl
theorem Ez {a:List aa}{x:aa}(h:a.length≤1000):app 56 a [x]=some (a++[x]):=by unfold app; rw [if_pos (by simp; omega)]
theorem Ck (hm:1000≤m)(hl:∀n∈l,n.args.length≤8){ex:List Int}(hb:Bytes ex)(he:ex.length≤40){z:Int}:∀(f i:Nat) (u:List aa) (rp:List Int),tg l u rp→0<u.length→u.length≤300+i→ex.length - i<f→i≤ex.length→
  ∃x u' NH,ah.l1 m ex f (i:Int) u z=some (x,u',z)∧tg l u' NH∧u.length≤u'.length∧u'.length≤340∧∀j,j<u.length→gt NH j=gt rp j
 | 0,i,u,rp,_,_,_,hf,_=>absurd hf (by omega)
 | f+1,i,u,rp,R,h0,hu,hf,hi=>by
  unfold ah.l1
  by_cases h:i<ex.length
  ·have GB:=hb _ (aE h)
   obtain⟨v,hv⟩:∃v:Nat,gt ex i=(v:Int):=⟨(gt ex i).toNat,by omega⟩
   have L4:AQ .i64 (i64.wrap (gt ex i)) (u.length:Int)=some ((v % u.length:Nat):Int):=by
    unfold AQ
    rw [if_neg (by omega),aD (by omega) (by omega),hv,Int.tmod_eq_emod_of_nonneg (by omega)]
    rfl
   have hk:v % u.length<u.length:=Nat.mod_lt _ h0
   have h8:=R.zx hl hk
   rw [if_pos (by simp only [decide_eq_true_eq]; omega),bH h,QM,L4,QM,NG hk,QM,IT (by omega),QM,Ez (by omega),QM]
   have R':=R.app hk
   have hr:gt (rp++[gt rp (v % u.length)]) ((u++[nd u ((v % u.length:Nat):Int)]).length - 1)=gt (rp++[gt rp (v % u.length)]) (v % u.length):=by
    have e:(u++[nd u ((v % u.length:Nat):Int)]).length - 1=rp.length:=by rw [R.len]; simp
    rw [e,yy]
    exact (dI (by rw [R.len]; exact hk)).symm
   obtain⟨x,u',q1,q2,q3⟩:=Cj (m:=m) (i:=(i:Int)) hm hl m 0 _ R' (by simp; omega) (by simp; omega) hr (by simp; omega) (by omega)
   have q1:ah.l2 m (i:Int) ((v % u.length:Nat):Int) m 0 (u++[nd u ((v % u.length:Nat):Int)])=_:=q1
   have eta:aa.mk (nd u ((v % u.length:Nat):Int)).kind (nd u ((v % u.length:Nat):Int)).int (nd u ((v % u.length:Nat):Int)).label (nd u ((v % u.length:Nat):Int)).args=nd u ((v % u.length:Nat):Int):=rfl
   rw [eta,q1,QM]
   dsimp only
   rw [aD (by omega) (by omega),show (i:Int)+1=((i+1:Nat):Int) by omega]
   simp only [Q0,RA,RN] at q3
   obtain⟨y,u2,PU,p1,p2,p3,p4,p5⟩:=Ck hm hl hb he f (i+1) u' _ q2 (by omega) (by omega) (by omega) (by omega)
   refine⟨y,u2,PU,p1,p2,by omega,p4,fun j hj=>?_⟩
   rw [p5 j (by omega),dI (by rw [R.len]; exact hj)]
  ·exact⟨(i:Int),u,rp,by rw [if_neg (by simp only [decide_eq_true_eq]; omega)],R,QS _,by omega,fun j _=>rfl⟩
end
theorem Cl {m:Nat}{t:aw}(h3:t.nodes.length≤300)(hl:∀n∈t.nodes,n.args.length≤8){z:Int}:∀(f i:Nat),t.nodes.length - i<f→i≤t.nodes.length→
  ∃x,ah.l0 m t f (i:Int) (t.nodes.take i) z=some (x,t.nodes,z)
 | 0,i,hf,_=>absurd hf (by omega)
 | f+1,i,hf,hi=>by
  unfold ah.l0
  by_cases h:i<t.nodes.length
  ·have h8:=hl _ (RW h)
   obtain⟨x,ih⟩:=Cl (m:=m) h3 hl (z:=z) f (i+1) (by omega) (by omega)
   refine⟨x,?_⟩
   rw [if_pos (by simp only [decide_eq_true_eq]; omega),ke h,QM,IT (by omega),QM,Ez (by rw [Sx]; omega),QM,aD (by omega) (by omega),show (i:Int)+1=((i+1:Nat):Int) by omega,←ih,List.take_succ_eq_append_getElem h]
  ·exact⟨(i:Int),by rw [if_neg (by simp only [decide_eq_true_eq]; omega),Rw (by omega)]⟩
theorem Cn {l:List aa}(ok:iD l):tg l l ((SC l.length).map fun (k:Nat)=>(k:Int)):=by
 have g:∀j,j<l.length→gt ((SC l.length).map fun (k:Nat)=>(k:Int)) j=(j:Int):=fun j h=>by
  unfold gt; rw [Q5,Rk,List.getElem?_range h]; rfl
 refine⟨by simp,fun j hj=>by rw [g j hj]; omega,fun j hj=>by rw [g j hj]; exact Alike.refl _,fun j hj n hn=>?_⟩
 have:=(rQ ok hj).2 _ (aE hn)
 rw [g j hj,g _ (by omega)]
 exact⟨this,by omega⟩
theorem vf {n x:aa}{a b:Int}(h:gx n a=true)(A:Alike n x)(hx:∀y∈x.args,0≤y∧y<b):gx x b=true:=by
 have he:x.args.isEmpty=n.args.isEmpty:=by
  have:=A.len
  cases h1:n.args<;>cases h2:x.args<;>simp [h1,h2] at this ⊢
 unfold gx at h ⊢
 have ha:(x.args.all fun a=>decide (0≤a)&&decide (a<b))=true:=by
  rw [Rd]
  intro y hy
  have:=hx y hy
  simp only [QR,decide_eq_true_eq]; exact this
 rw [←A.kind,←A.int,←A.label,he,←A.len,ha]
 split<;>rename_i h0
 ·rw [if_pos h0] at h; exact h
 ·rw [if_neg h0] at h
  split<;>rename_i h1
  ·rw [if_pos h1] at h; exact h
  ·rw [if_neg h1] at h
   split<;>rename_i h2
   ·rw [if_pos h2] at h; exact h
   ·rw [if_neg h2] at h
    split<;>rename_i h3
    ·rw [if_pos h3] at h
     simp only [QR] at h ⊢
     exact⟨h.1,trivial⟩
    ·rw [if_neg h3] at h
     exact h
theorem tg.valid {t:aw}{u:List aa}{rp:List Int}(R:tg t.nodes u rp)(ht:cC t=true)(hu:t.nodes.length≤u.length)(h8:u.length≤8000):cC ⟨u,t.root⟩=true:=by
 obtain⟨ok,h1,r0,r1,_⟩:=fu ht
 have fv:=ht
 unfold cC at fv ⊢
 simp only [QR,decide_eq_true_eq] at fv ⊢
 refine⟨⟨⟨⟨by omega,h8⟩,r0⟩,by omega⟩,?_⟩
 rw [Rd]
 intro x hx
 obtain⟨j,hj,e⟩:=Sy hx
 have e:nd u j=x:=by
  have:=jq hj
  rw [QZ hj,e] at this
  exact (Rf this).symm
 subst e
 have hr:=R.jx j hj
 refine vf (Rd.1 fv.2 _ (dq hr.1 hr.2)) (R.top j hj) fun y hy=>?_
 obtain⟨n,hn,e2⟩:=Sy hy
 have e2:gt (nd u j).args n=y:=by
  have:=aV hn
  rw [QZ hn,e2] at this
  exact (Rf this).symm
 rw [←e2]
 exact (R.arg j hj n hn).1
theorem tg.PV {l u:List aa}{rp:List Int}(R:tg l u rp):yk l u fun i j=>(0≤j∧j<u.length)∧gt rp j.toNat=i:=by
 refine⟨?_,?_,?_⟩
 ·rintro i j ⟨h,rfl⟩
  exact⟨R.jx _ (by omega),h⟩
 ·rintro i j ⟨h,rfl⟩
  have:=R.top j.toNat (by omega)
  rwa [show ((j.toNat:Nat):Int)=j by omega] at this
 ·rintro i j ⟨h,rfl⟩ n hn
  have A:=R.top j.toNat (by omega)
  have:=R.arg j.toNat (by omega) n (by have:=A.len; omega)
  rwa [show ((j.toNat:Nat):Int)=j by omega] at this
theorem w9 {m:Nat}(hm:2 ^ 63≤m){t:aw}(ht:t.nodes.length<2 ^ 63∧El t){ex:List Int}(hb:Bytes ex):ah.f m t ex=some true:=by
 have tj:(2:Nat) ^ 41=2199023255552:=by decide
 have lz:(2:Nat) ^ 30=1073741824:=by decide
 have LL:(2:Nat) ^ 63=9223372036854775808:=by decide
 have NI:∀u∈[t],u.nodes.length<2 ^ 63:=fun u hu=>by simp only [QY] at hu; subst hu; exact ht.1
 obtain⟨b,k1,k2⟩:=w6 (m:=m) hm NI
 have ha:fl.f m=some true:=rfl
 unfold ah.f
 rw [k1,QM]
 cases b with
 | true=>rw [if_pos rfl,ha]; rfl
 | false=>
  rw [if_neg (by simp),nX (by omega),QM]
  cases hv:cC t with
  | false=>rw [if_pos (by simp),ha]; rfl
  | true=>
   rw [if_neg (by simp)]
   by_cases hx:ex.length≤40
   ·rw [if_neg (by simp only [decide_eq_true_eq]; omega)]
    obtain⟨ok,h1,r0,r1,_⟩:=fu hv
    have h300:t.nodes.length≤300:=by
     unfold aH.f at k1
     rw [if_neg (by simp)] at k1
     simp only [QN] at k1
     obtain⟨o,k1,k3⟩:=k1
     cases o with
     | inl r=>
      dsimp only at k3
      simp only [QQ] at k3
      subst k3
      obtain⟨o,z1,z2⟩:=qw hm (by simp) NI m 0 0 (by simp; omega) (by omega)
      have z1:aH.l0 m [t] m (0:Int) (0:Int)=_:=z1
      rw [k1] at z1
      cases z1
      simp at z2
     | inr x=>
      have:=rY (L:=[t]) (by simp) (fun u hu=>by simp only [QY] at hu; subst hu; exact ok.1) m 0 0 x (by omega) (by omega) k1
      simpa using this
    have h8:∀n∈t.nodes,n.args.length≤8:=fun n hn=>(ok.2 n hn).1
    have F:=oM (m:=m) (by omega) hv ht.2
    have G:=oM (m:=m) (by omega) F.val F.Nx
    obtain⟨y,s1,s2⟩:=zH (m:=m) (by omega) F.val hv F.Nx ht.2
    have:=s2.2 F.idem
    subst this
    obtain⟨x0,l0⟩:=Cl (m:=m) h300 h8 (z:=t.root) m 0 (by omega) (by omega)
    have l0:ah.l0 m t m (0:Int) [] t.root=_:=l0
    obtain⟨x1,u,rp,l1,R,g1,g2,g3⟩:=Ck (m:=m) (l:=t.nodes) (by omega) h8 hb hx (z:=t.root) m 0 t.nodes _ (Cn ok) (by omega) (by omega) (by omega) (by omega)
    have l1:ah.l1 m ex m (0:Int) t.nodes t.root=_:=l1
    have NJ:=R.valid hv g1 (by omega)
    have hr:gt rp t.root.toNat=t.root:=by
     rw [g3 _ (by omega)]
     unfold gt
     rw [Q5,Rk,List.getElem?_range (by omega)]
     show ((t.root.toNat:Nat):Int)=t.root
     omega
    obtain⟨s,b1,b2⟩:=rV (m:=m) (by omega) hv NJ R.PV ⟨⟨r0,by show t.root<(u.length:Int); omega⟩,hr⟩
    have hs:s=lf m t:=by have:=F.eq; rw [b1] at this; exact Rf this
    subst hs
    have PW:b6.f m ⟨u,t.root⟩=some (lf m t,0):=by
     unfold b6.f cN.f
     rw [hH (by omega),QM,NJ,if_neg (by simp),b2]; rfl
    have PX:=F.graph (by omega)
    rw [Ch F,QM]
    dsimp only
    rw [Ch G,F.idem,QM,s1,QM,l0,QM]
    dsimp only
    rw [l1,QM]
    dsimp only
    rw [PW,QM,if_pos (by simp),if_pos (by simp),if_pos (by simp),if_pos (by simp),if_pos (by simp),PX,QM,if_pos rfl,QM,if_pos rfl,if_pos (by have:=F.len; simp only [decide_eq_true_eq]; omega),ha]
    rfl
   ·rw [if_pos (by simp only [decide_eq_true_eq]; omega),ha]; rfl
end Go.Proofs.YtmekcfdllhphlaaDoor
