/- Part of the proof: PB9, PV1, PA8, PA9, PA10, PA11, PA12, PFA, RRA, PFO, RCL, PdS, QJ0, QJ13. -/
import Derived.Test.YtifafejidnjckaaK12
import Derived.Test.YtifafejidnjckaaChecked
set_option linter.unusedVariables false
set_option linter.unusedSimpArgs false
set_option maxRecDepth 100000
open Bool renaming and_eq_true → Vx, false_eq_true → VE, not_true → Wy, not_eq_true' → WG
open Int renaming toNat_natCast → VF, natCast_nonneg → WK
open List renaming getElem?_eq_getElem → Vz, getElem?_eq_some_iff → VB, length_append → VD, length_cons → VH, drop_eq_getElem_cons → VI, getElem?_append_left → VJ, append_assoc → VK, length_map → VL, mem_of_getElem? → VN, all_eq_true → VO, getElem?_append_right → VP, getD_eq_getElem?_getD → VQ, length_nil → VS, mem_cons → VT, mem_singleton → VV, map_cons → VX, mem_append → VY, eq_nil_of_length_eq_zero → VZ, map_append → V0, take_of_length_le → V6, getElem?_eq_none → V7, mem_map → V8, nil_append → V9, cons_append → Wb, drop_zero → Wd, all_cons → Wi, length_take → Wl, getElem?_of_mem → Wm, mem_append_left → Wn, take_succ_eq_append_getElem → Wp, take_append_drop → Wu, length_drop → Ww, mem_cons_of_mem → Wx, getElem?_map → Wz, range → WD, map_congr_left → WH, mem_range → WJ, append_nil → WN, map_nil → WU, idxOf_lt_length_of_mem → WW, take_length → W6
open Nat renaming le_refl → Vy, zero_add → VU, lt_of_lt_of_le → VW, beq → Wa, mul_le_mul_right → We, le_trans → Wj, zero_le → Wk, add_mul → Wv, eq_of_beq_eq_true → WB, min_eq_left → WM, ble → WX, zero_lt_one → WY, sub_self → W7, succ_mul → W9
open Option renaming bind_eq_some_iff → Vt, bind_some → Vu, map_eq_some_iff → Vv
open Option.some renaming inj → Wg
namespace Go.Proofs.Ytifafejidnjckaa
open Go Go.R
open Go.IntKind (i64 u64 u8 u32)
inductive FN (κ:Int→Int)(A:Int→List Int):List Int→List Int→List Int→Prop
 | nil (o:List Int):FN κ A [] o o
 | skip {v:Int} {st o o':List Int}:κ v∈o.map κ→FN κ A st o o'→FN κ A (v::st) o o'
 | push {v:Int} {st o o':List Int}:κ v∉o.map κ→FN κ A (A v++st) (o++[v]) o'→FN κ A (v::st) o o'
theorem FN.facts {κ:Int→Int}{A:Int→List Int}{n:Nat}{st o o':List Int}(h:FN κ A st o o')(hA:∀v:Int,0≤v→v<n→∀a∈A v,0≤a∧a<n)(hst:∀v∈st,0≤v∧v<n)(ho:∀v∈o,0≤v∧v<n)(Io:(o.map κ).Nodup) :
  (∃t,o'=o++t)∧(∀v∈o',0≤v∧v<n)∧(o'.map κ).Nodup∧(∀v∈st,κ v∈o'.map κ)∧((∀v∈o,∀a∈A v,κ a∈o.map κ∨a∈st)→∀v∈o',∀a∈A v,κ a∈o'.map κ):=by
 induction h with
 | nil o=>
  refine⟨⟨[],by simp⟩,ho,Io,?_,?_⟩
  ·intro v hv; cases hv
  ·intro h v hv a ha; exact (h v hv a ha).resolve_right (by simp)
 | @skip v st o o' hm _ ih=>
  obtain⟨⟨t,rfl⟩,a,b,c,d⟩:=ih (fun x hx=>hst x (by simp [hx])) ho Io
  refine⟨⟨t,rfl⟩,a,b,fun x hx=>?_,fun h=>d fun x hx y hy=>?_⟩
  ·rcases VT.1 hx with rfl | hx
   ·rw [V0]; exact Wn _ hm
   ·exact c x hx
  ·rcases h x hx y hy with h | h
   ·exact .inl h
   ·rcases VT.1 h with rfl | h
    ·exact .inl hm
    ·exact .inr h
 | @push v st o o' hn _ ih=>
  have hv:=hst v (by simp)
  have h1:∀x∈A v++st,0≤x∧x<n:=fun x hx=>by
   rcases VY.1 hx with hx | hx
   ·exact hA v hv.1 hv.2 x hx
   ·exact hst x (by simp [hx])
  have h2:∀x∈o++[v],0≤x∧x<n:=fun x hx=>by
   rcases VY.1 hx with hx | hx
   ·exact ho x hx
   ·rw [VV] at hx; subst hx; exact hv
  have h3:((o++[v]).map κ).Nodup:=by
   rw [V0,List.nodup_append]
   refine⟨Io,by simp,fun a ha b hb=>?_⟩
   simp only [VX,WU,VV] at hb
   subst hb; intro e; subst e; exact hn ha
  obtain⟨⟨t,rfl⟩,a,b,c,d⟩:=ih h1 h2 h3
  refine⟨⟨[v]++t,by simp⟩,a,b,fun x hx=>?_,fun h=>d fun x hx y hy=>?_⟩
  ·rcases VT.1 hx with rfl | hx
   ·simp
   ·exact c x (by simp [hx])
  ·rcases VY.1 hx with hx | hx
   ·rcases h x hx y hy with h | h
    ·exact .inl (by rw [V0]; exact Wn _ h)
    ·rcases VT.1 h with rfl | h
     ·exact .inl (by simp)
     ·exact .inr (by simp [h])
   ·rw [VV] at hx; subst hx
    exact .inr (Wn _ hy)
theorem yg (cls:List Int)(l:List aq)(k:Nat)(i:Int)(o:List Int):tP cls l (k+1) i o=if iz cls i∈o.map (iz cls) then o else (nd l i).args.foldl (fun o a=>tP cls l k a o) (o++[i]):=rfl
theorem FO {cls:List Int}{l:List aq}(ok:BL l):∀(k:Nat) (i:Int) (o:List Int),0≤i→i<l.length→Vs cls l.length o→Vs cls l.length (tP cls l k i o)∧o.length≤(tP cls l k i o).length
 | 0,i,o,_,_,v=>⟨v,Vy _⟩
 | k+1,i,o,h0,h1,v=>by
  rw [yg]
  split
  ·exact⟨v,Vy _⟩
  ·rename_i h
   have v1:Vs cls l.length (o++[i]):=by
    refine⟨?_,fun x hx=>?_⟩
    ·rw [V0,List.nodup_append]
     refine⟨v.Hr,by simp,fun a ha b hb=>?_⟩
     simp only [VX,WU,VV] at hb
     subst hb; intro e; subst e; exact h ha
    ·rcases VY.1 hx with hx | hx
     ·exact v.BK x hx
     ·simp only [VV] at hx; subst hx; exact⟨h0,h1⟩
   have fold:∀(zs:List Int) (o:List Int),(∀a∈zs,0≤a∧a<l.length)→Vs cls l.length o→Vs cls l.length (zs.foldl (fun o a=>tP cls l k a o) o)∧o.length≤(zs.foldl (fun o a=>tP cls l k a o) o).length:=by
    intro zs
    induction zs with
    | nil=>intro o _ v; exact⟨v,Vy _⟩
    | cons a zs ih=>
     intro o ha v
     have hr:=ha a (by simp)
     obtain⟨v2,l2⟩:=FO ok k a o hr.1 hr.2 v
     obtain⟨v3,l3⟩:=ih (tP cls l k a o) (fun x hx=>ha x (by simp [hx])) v2
     exact⟨v3,Wj l2 l3⟩
   obtain⟨v2,l2⟩:=fold (nd l i).args (o++[i]) (ok.2 _ (kz h0 h1)).2 v1
   exact⟨v2,by simp at l2; omega⟩
theorem BP {cls:List Int}{l:List aq}(ok:BL l):∀(k:Nat) (i:Int) (o st o':List Int),0≤i→i<l.length→Vs cls l.length o→l.length<k+o.length→
  FN (iz cls) (fun v=>(nd l v).args) st (tP cls l k i o) o'→FN (iz cls) (fun v=>(nd l v).args) (i::st) o o'
 | 0,i,o,st,o',_,_,v,hk,_=>absurd v.KC (by omega)
 | k+1,i,o,st,o',h0,h1,v,hk,h=>by
  rw [yg] at h
  by_cases hm:iz cls i∈o.map (iz cls)
  ·rw [if_pos hm] at h
   exact .skip hm h
  ·rw [if_neg hm] at h
   refine .push hm ?_
   have v1:Vs cls l.length (o++[i]):=by
    refine⟨?_,fun x hx=>?_⟩
    ·rw [V0,List.nodup_append]
     refine⟨v.Hr,by simp,fun a ha b hb=>?_⟩
     simp only [VX,WU,VV] at hb
     subst hb; intro e; subst e; exact hm ha
    ·rcases VY.1 hx with hx | hx
     ·exact v.BK x hx
     ·simp only [VV] at hx; subst hx; exact⟨h0,h1⟩
   have fold:∀(zs:List Int) (o:List Int),(∀a∈zs,0≤a∧a<l.length)→Vs cls l.length o→l.length<k+o.length→FN (iz cls) (fun v=>(nd l v).args) st (zs.foldl (fun o a=>tP cls l k a o) o) o'→FN (iz cls) (fun v=>(nd l v).args) (zs++st) o o':=by
    intro zs
    induction zs with
    | nil=>intro o _ _ _ h; exact h
    | cons a zs ih=>
     intro o ha v hk h
     have hr:=ha a (by simp)
     obtain⟨v2,l2⟩:=FO ok k a o hr.1 hr.2 v
     exact BP ok k a o (zs++st) o' hr.1 hr.2 v hk (ih _ (fun x hx=>ha x (by simp [hx])) v2 (by omega) h)
   exact fold (nd l i).args (o++[i]) (ok.2 _ (kz h0 h1)).2 v1 (by simp; omega) h
end Go.Proofs.Ytifafejidnjckaa
namespace Go.Proofs.Ytifafejidnjckaa
open Go Go.R
open Go.IntKind (i64 u64 u8 u32)
structure Uk (l k:List aq)(R:Int→Int→Prop):Prop where
 BK:∀i j,R i j→(0≤i∧i<l.length)∧0≤j∧j<k.length
 top:∀i j,R i j→Alike (nd l i) (nd k j)
 arg:∀i j,R i j→∀n,n<(nd l i).args.length→R (gt (nd l i).args n) (gt (nd k j).args n)
theorem Min.same {l:List aq}{c:List Int}(M:Min l c){a b:Int}(a0:0≤a)(a1:a<l.length)(b0:0≤b)(b1:b<l.length)(e:iz c a=iz c b) :
  Alike (nd l a) (nd l b)∧∀n,n<(nd l a).args.length→iz c (gt (nd l a).args n)=iz c (gt (nd l b).args n):=by
 have ea:((a.toNat:Nat):Int)=a:=by omega
 have eb:((b.toNat:Nat):Int)=b:=by omega
 have hA:=M.top a.toNat b.toNat (by omega) (by omega) e
 have hg:=M.arg a.toNat b.toNat (by omega) (by omega) e
 rw [ea,eb] at hA hg
 exact⟨hA,hg⟩
theorem Hy {c O:List Int}{a b:Int}(h:iz c a=iz c b):idx c O a=idx c O b:=by unfold idx; rw [h]
theorem zL {n:aq}{a b:Int}{f:Int→Int}(h:ph n a=true)(hf:∀x∈n.args,0≤f x∧f x<b):ph ⟨n.kind,n.int,n.label,n.args.map f⟩ b=true:=by
 unfold ph at h ⊢
 have he:(n.args.map f).isEmpty=n.args.isEmpty:=by cases n.args<;>rfl
 dsimp only
 rw [he,VL]
 have ha:((n.args.map f).all fun a=>decide (0≤a)&&decide (a<b))=true:=by
  rw [VO]
  intro x hx
  obtain⟨y,hy,rfl⟩:=V8.1 hx
  have:=hf y hy
  simp only [Vx,decide_eq_true_eq]; exact this
 rw [ha]
 split<;>rename_i h0
 ·rw [if_pos h0] at h; exact h
 ·rw [if_neg h0] at h
  split<;>rename_i h1
  ·rw [if_pos h1] at h; exact h
  ·rw [if_neg h1] at h
   split<;>rename_i h2
   ·rw [if_pos h2] at h; exact h
   ·rw [if_neg h2] at h
    split<;>rename_i h3
    ·rw [if_pos h3] at h
     simp only [Vx] at h ⊢
     exact⟨h.1,trivial⟩
    ·rw [if_neg h3] at h
     exact h
theorem C2 {m:Nat}(hm:2 ^ 41≤m){t:br}(ht:ky t=true):∃s R,fq.f m t=some s∧ky s=true∧s.nodes.length≤t.nodes.length∧Uk t.nodes s.nodes R∧R t.root s.root:=by
 have yA:(2:Nat) ^ 41=2199023255552:=by decide
 obtain⟨ok,_,r0,r1,_⟩:=p5 ht
 obtain⟨c,ns,e,M,Q,hr⟩:=zK hm ht
 have l1:=ok.1
 have fv:=ht
 unfold ky at fv
 simp only [Vx,decide_eq_true_eq] at fv
 generalize hO:tP c t.nodes m t.root []=O at *
 have KC:=Q.vs.KC
 have hlen:=Q.len
 have oP:0<O.length:=by cases O with | nil=>simp at hr | cons _ _=>simp
 have Io:∀q:Nat,q<O.length→nd ns (q:Int)=yb c t.nodes O (gt O q):=fun q hq=>by
  have:=Q.new q (by simp) hq
  unfold nd
  rw [VF,VQ,this]; rfl
 have Nd:∀{v:Int},iz c v∈O.map (iz c)→0≤idx c O v∧idx c O v<O.length∧iz c (gt O (idx c O v).toNat)=iz c v:=fun {v} hv=>by
  have h1:=WW hv
  have h2:=List.getElem_idxOf h1
  rw [VL] at h1
  unfold idx
  refine⟨by omega,by omega,?_⟩
  rw [VF]
  have h3:=Vz (l:=O.map (iz c)) (i:=(O.map (iz c)).idxOf (iz c v)) (by rw [VL]; exact h1)
  rw [h2,Wz,en h1] at h3
  exact Wg h3
 refine⟨⟨ns,0⟩,fun i j=>(0≤i∧i<t.nodes.length)∧iz c i∈O.map (iz c)∧j=idx c O i,e,?_,by show ns.length≤_; omega,⟨?_,?_,?_⟩,⟨r0,r1⟩,hr,?_⟩
 ·unfold ky
  simp only [Vx,decide_eq_true_eq]
  refine⟨⟨⟨⟨by omega,by omega⟩,by omega⟩,by omega⟩,?_⟩
  rw [VO]
  intro x hx
  obtain⟨q,hq,e2⟩:=List.getElem_of_mem hx
  have h1:=Q.new q (by simp) (by omega)
  rw [Vz hq,e2] at h1
  have h1:=Wg h1
  subst h1
  have Ga:=Q.vs.BK _ (bQ (l:=O) (k:=q) (by omega))
  refine zL (VO.1 fv.2 _ (kz Ga.1 Ga.2)) fun a ha=>?_
  have:=Nd (Q.arg q (by simp) (by omega) a ha)
  omega
 ·rintro i j ⟨h1,h2,rfl⟩
  have:=Nd h2
  exact⟨h1,by show 0≤_∧_<(ns.length:Int); omega⟩
 ·rintro i j ⟨h1,h2,rfl⟩
  obtain⟨a,b,d⟩:=Nd h2
  have Ga:=Q.vs.BK _ (bQ (l:=O) (k:=(idx c O i).toNat) (by omega))
  have hx:=Io (idx c O i).toNat (by omega)
  rw [show (((idx c O i).toNat:Nat):Int)=idx c O i by omega] at hx
  rw [hx]
  have A:=(M.same h1.1 h1.2 Ga.1 Ga.2 d.symm).1
  exact⟨A.kind,A.int,A.label,by show _=(List.map _ _).length; rw [VL]; exact A.len⟩
 ·rintro i j ⟨h1,h2,rfl⟩ n hn
  obtain⟨a,b,d⟩:=Nd h2
  have Ga:=Q.vs.BK _ (bQ (l:=O) (k:=(idx c O i).toNat) (by omega))
  have hx:=Io (idx c O i).toNat (by omega)
  rw [show (((idx c O i).toNat:Nat):Int)=idx c O i by omega] at hx
  rw [hx]
  obtain⟨A,hg⟩:=M.same h1.1 h1.2 Ga.1 Ga.2 d.symm
  have IM:n<(nd t.nodes (gt O (idx c O i).toNat)).args.length:=by have:=A.len; omega
  have hg:=hg n hn
  have hin:=Q.arg (idx c O i).toNat (by simp) (by omega) _ (bQ IM)
  refine⟨(ok.2 _ (kz h1.1 h1.2)).2 _ (bQ hn),by rw [hg]; exact hin,?_⟩
  have e1:gt (yb c t.nodes O (gt O (idx c O i).toNat)).args n=idx c O (gt (nd t.nodes (gt O (idx c O i).toNat)).args n):=by
   have h3:=en (l:=(yb c t.nodes O (gt O (idx c O i).toNat)).args) (k:=n) (by show n<(List.map _ _).length; rw [VL]; exact IM)
   have h4:(yb c t.nodes O (gt O (idx c O i).toNat)).args[n]? = some (idx c O (gt (nd t.nodes (gt O (idx c O i).toNat)).args n)):=by
    show (List.map _ _)[n]? = _
    rw [Wz,en IM]; rfl
   rw [h4] at h3; exact (Wg h3).symm
  rw [e1]
  exact Hy hg.symm
 ·show (0:Int)=idx c O t.root
  have P1:=BP (cls:=c) ok m t.root [] [] _ r0 r1 ⟨by simp,fun x hx=>by cases hx⟩ (by simp; omega) (.nil _)
  rw [hO] at P1
  cases P1 with
  | skip h _=>simp at h
  | push _ k=>
   obtain⟨⟨T,e⟩,_⟩:=k.facts (n:=t.nodes.length) (fun v a b=>(ok.2 _ (kz a b)).2) (fun v hv=>by
    rcases VY.1 hv with hv | hv
    ·exact (ok.2 _ (kz r0 r1)).2 v hv
    ·cases hv) (fun v hv=>by simp at hv; subst hv; exact⟨r0,r1⟩) (by simp)
   rw [e]
   unfold idx
   simp
end Go.Proofs.Ytifafejidnjckaa
namespace Go.Uf
open Go Go.R
open Go.IntKind (i64 u64 u8 u32)
def fK (a L:Nat):List Int:=(WD L).map fun i=>((a+i:Nat):Int)
theorem mW (a L:Nat):(fK a L).length=L:=by simp [fK]
theorem uI (a L:Nat):fK a (L+1)=fK a L++[((a+L:Nat):Int)]:=by
 unfold fK; rw [List.range_succ,V0]; rfl
theorem FP {to:List Int}(o:Gm to):∀L,Gm (to++fK to.length L)∧(∀n,Rg to.length n→rp (to++fK to.length L) n=rp to n)∧∀n:Int,(to.length:Int)≤n→n<to.length+L→rp (to++fK to.length L) n=n
 | 0=>⟨by simpa [fK] using o,fun n _=>by simp [fK],fun n h1 h2=>by omega⟩
 | L+1=>by
  obtain⟨a,b,c⟩:=FP o L
  have hl:(to++fK to.length L).length=to.length+L:=by rw [VD,mW]
  have e:to++fK to.length (L+1)=(to++fK to.length L)++[(((to++fK to.length L).length:Nat):Int)]:=by
   rw [uI,←VK,hl]
  obtain⟨g1,g2,g3⟩:=Me a
  rw [←e] at g1 g2 g3
  refine⟨g1,fun n h=>?_,fun n h1 h2=>?_⟩
  ·rw [g2 n (by unfold Rg at h ⊢; rw [hl]; omega),b n h]
  ·by_cases h:n=to.length+L
   ·have:n=(((to++fK to.length L).length:Nat):Int):=by rw [hl]; omega
    rw [this]; exact g3
   ·rw [g2 n (by unfold Rg; rw [hl]; omega)]
    exact c n h1 (by omega)
theorem pk {N V:List aq}{n:Int}(h:Rg N.length n):gD (N++V) n=gD N n:=by
 have hl:n.toNat<N.length:=by have:=h.1; have:=h.2; omega
 unfold gD
 rw [VQ,VQ,VJ hl]
end Go.Uf
namespace Go.Proofs.Ytifafejidnjckaa
open Go Go.R Go.Uf
open Go.IntKind (i64 u64 u8 u32)
def pn (s s':ab):Prop:=s.aa.length≤s'.aa.length∧∀n,Rg s.aa.length n→gW s.aa (rp s.ae n)→mT (gD s.aa (rp s.ae n)) (gD s'.aa (rp s'.ae n))
theorem mT.refl (a:aq):mT a a:=⟨rfl,rfl,rfl,rfl⟩
theorem pn.refl (s:ab):pn s s:=⟨Vy _,fun _ _ _=>mT.refl _⟩
section
variable {m:Nat}{s:ab}
theorem Inv2.more (v:Inv2 s)(V:List aq)(hV:∀x∈V,x.args.length≤8∧∀a∈x.args,Rg (s.aa.length+V.length) a)(hl:s.aa.length+V.length≤8000) :
  Inv2 ⟨s.aj,s.aa++V,s.ae++fK s.aa.length V.length⟩∧pn s ⟨s.aj,s.aa++V,s.ae++fK s.aa.length V.length⟩:=by
 have hlen:=v.inv.len
 obtain⟨g1,g2,g3⟩:=FP v.inv.ok V.length
 rw [hlen] at g1 g2 g3
 have hN:(s.aa++V).length=s.aa.length+V.length:=VD
 have hc:∀n,Rg (s.aa++V).length n→Rg s.aa.length n∨((s.aa.length:Int)≤n∧n<s.aa.length+V.length):=fun n h=>by
  rw [hN] at h; unfold Rg at h ⊢; omega
 have up:∀n,Rg s.aa.length n→Rg (s.aa++V).length n:=fun n h=>by rw [hN]; unfold Rg at h ⊢; omega
 have old:∀n,Rg s.aa.length n→rp (s.ae++fK s.aa.length V.length) n=rp s.ae n:=g2
 have new:∀n:Int,(s.aa.length:Int)≤n→n<s.aa.length+V.length→rp (s.ae++fK s.aa.length V.length) n=n:=g3
 refine⟨⟨⟨v.inv.made,?_,by show (s.aa++V).length≤8000; omega,g1,⟨fun n h=>?_,fun n h=>?_,fun n h=>?_⟩,?_⟩,?_⟩,?_,fun n h hv=>?_⟩
 ·show (_++_:List Int).length=_
  rw [VD,mW,hN,hlen]
 ·show Rg _ (rp (s.ae++fK s.aa.length V.length) n)
  rcases hc n h with h | ⟨h1,h2⟩
  ·rw [old n h]; exact up _ (v.inv.cn.rg n h)
  ·rw [new n h1 h2]; exact h
 ·show rp (s.ae++_) (rp (s.ae++fK s.aa.length V.length) n)=rp (s.ae++_) n
  rcases hc n h with h | ⟨h1,h2⟩
  ·rw [old n h,old _ (v.inv.cn.rg n h),v.inv.cn.id n h]
  ·rw [new n h1 h2,new n h1 h2]
 ·show Bt (s.aa++V) (rp (s.ae++fK s.aa.length V.length) n) n
  rcases hc n h with h | ⟨h1,h2⟩
  ·rw [old n h]
   have:=v.inv.cn.bt n h
   unfold Bt gW at this ⊢
   rw [pk h,pk (v.inv.cn.rg n h)]; exact this
  ·rw [new n h1 h2]; exact Bt.refl
 ·intro x hx
  rcases VY.1 hx with hx | hx
  ·obtain⟨a1,a2⟩:=v.inv.args x hx
   exact⟨a1,fun a ha=>up a (a2 a ha)⟩
  ·obtain⟨a1,a2⟩:=hV x hx
   exact⟨a1,fun a ha=>by show Rg (s.aa++V).length a; rw [hN]; exact a2 a ha⟩
 ·intro x y hx hy he vx vy
  have he:rp (s.ae++fK s.aa.length V.length) x=rp (s.ae++fK s.aa.length V.length) y:=he
  rcases hc x hx with hx1 | ⟨x1,x2⟩<;>rcases hc y hy with KD | ⟨y1,y2⟩
  ·rw [old x hx1,old y KD] at he
   have wx:gD (s.aa++V) x=gD s.aa x:=pk hx1
   have wy:gD (s.aa++V) y=gD s.aa y:=pk KD
   have Ul:gW s.aa x:=by unfold gW at vx ⊢; rw [←wx]; exact vx
   have Um:gW s.aa y:=by unfold gW at vy ⊢; rw [←wy]; exact vy
   obtain⟨t,q⟩:=v.cl x y hx1 KD he Ul Um
   show mT (gD (s.aa++V) x) (gD (s.aa++V) y)∧∀(i:Nat) (a b:Int),(gD (s.aa++V) x).args[i]? = some a→(gD (s.aa++V) y).args[i]? = some b→rp (s.ae++fK s.aa.length V.length) a=rp (s.ae++fK s.aa.length V.length) b
   rw [wx,wy]
   refine⟨t,fun i a b ha hb=>?_⟩
   rw [old a ((v.inv.args _ (lK hx1)).2 a (VN ha)),old b ((v.inv.args _ (lK KD)).2 b (VN hb))]
   exact q i a b ha hb
  ·rw [old x hx1,new y y1 y2] at he
   have:=(v.inv.cn.rg x hx1).2
   omega
  ·rw [old y KD,new x x1 x2] at he
   have:=(v.inv.cn.rg y KD).2
   omega
  ·rw [new x x1 x2,new y y1 y2] at he
   subst he
   refine⟨mT.refl _,fun i a b ha hb=>?_⟩
   rw [ha] at hb; cases hb; rfl
 ·show s.aa.length≤(s.aa++V).length
  omega
 ·show mT _ (gD (s.aa++V) (rp (s.ae++fK s.aa.length V.length) n))
  rw [old n h,pk (v.inv.cn.rg n h)]
  exact mT.refl _
def FQ (s s':ab)(e:Int):Prop:=Inv2 s'∧pn s s'∧(e≠0→s'=s)
theorem FQ.none (v:Inv2 s)(e:Int):FQ s s e:=⟨v,pn.refl s,fun _=>rfl⟩
theorem yh (hm:2000000≤m)(v:Inv2 s)(r:Bool)(n:aq)(h:r=true→n.args.length≤8∧∀a∈n.args,Rg s.aa.length a):∃k e s',b6.f m s (some r) n=some (k,e,s')∧FQ s s' e:=by
 have n3:=v.inv.max
 unfold b6.f bH.f
 rw [v.inv.made]
 simp only [Vu,Wy,VE,if_false]
 cases r with
 | false=>exact⟨_,_,_,rfl,FQ.none v _⟩
 | true=>
  obtain⟨h1,h2⟩:=h rfl
  rw [if_neg (by decide)]
  by_cases hl:s.aa.length≥8000
  ·rw [if_pos (by rw [decide_eq_true_eq]; omega)]
   exact⟨_,_,_,rfl,FQ.none v _⟩
  rw [if_neg (by rw [decide_eq_true_eq]; omega)]
  have key:∀i:Int,∃k e s',(((app 56 s.aa [(⟨n.kind,i,n.label,n.args⟩:aq)]).bind fun x1=>(app 8 s.ae [(s.aa.length:Int)]).bind fun x2=>some ((s.aa.length:Int),(0:Int),(ab.mk true x1 x2)))=some (k,e,s'))∧FQ s s' e:=by
   intro i
   rw [tO (by simp only [VH,VS]; omega),Vu,tO (by have:=v.inv.len; simp only [VH,VS]; omega),Vu]
   obtain⟨w1,w2⟩:=v.more [⟨n.kind,i,n.label,n.args⟩] (fun x hx=>by
    simp only [VV] at hx
    subst hx
    exact⟨h1,fun a ha=>by have:=h2 a ha; unfold Rg at this ⊢; simp only [VH,VS]; omega⟩) (by simp only [VH,VS]; omega)
   have es:fK s.aa.length 1=[(s.aa.length:Int)]:=by simp [fK]
   have w1:Inv2 ⟨s.aj,s.aa++[⟨n.kind,i,n.label,n.args⟩],s.ae++fK s.aa.length 1⟩:=w1
   have w2:pn s ⟨s.aj,s.aa++[⟨n.kind,i,n.label,n.args⟩],s.ae++fK s.aa.length 1⟩:=w2
   rw [es,v.inv.made] at w1 w2
   exact⟨_,_,_,rfl,w1,w2,fun h=>absurd rfl h⟩
  simp only [jn]
  by_cases hk:n.kind=0
  ·rw [if_pos (by rw [hk]; rfl)]; exact key _
  ·rw [if_neg (by simpa using hk)]; exact key _
end
end Go.Proofs.Ytifafejidnjckaa
namespace Go.Proofs.Ytifafejidnjckaa
open Go Go.R Go.Uf
open Go.IntKind (i64 u64 u8 u32)
section
variable {m:Nat}{s:ab}
theorem Hz (hm:2 ^ 41≤m)(t:br):(∃r,fZ.f m t=some (r,0)∧BL r.nodes)∨∃r,fZ.f m t=some (r,2):=by
 have J5:(2:Nat) ^ 30=1073741824:=by decide
 have yA:(2:Nat) ^ 41=2199023255552:=by decide
 unfold fZ.f
 rw [zF (by omega),Vu]
 cases h:ky t with
 | false=>exact .inr ⟨_,rfl⟩
 | true=>
  obtain⟨r,R,e,hv,_⟩:=C2 hm h
  rw [if_neg (by simp),e]
  exact .inl ⟨_,rfl,(p5 hv).1⟩
theorem FR {v:aq}(a8:v.args.length≤8)(aR:∀a∈v.args,0≤a∧a<8000)(hN:s.aa.length≤8000)(s2:ab):∀(k i:Nat),i≤v.args.length→v.args.length - i<k→
  aC.l1 m s v k (i:Int) ((v.args.take i).map (· + (s.aa.length:Int))++v.args.drop i) s2=some ((v.args.length:Int),v.args.map (· + (s.aa.length:Int)),s2)∧
  aC.l2 m s v k (i:Int) ((v.args.take i).map (· + (s.aa.length:Int))++v.args.drop i) s2=some ((v.args.length:Int),v.args.map (· + (s.aa.length:Int)),s2)
 | 0,i,h1,h2=>by omega
 | k+1,i,h1,h2=>by
  simp only [aC.l1,aC.l2]
  by_cases hi:i<v.args.length
  ·have d:decide ((i:Int)<(v.args.length:Int))=true:=by rw [decide_eq_true_eq]; omega
   have hl:((v.args.take i).map (· + (s.aa.length:Int))).length=i:=by rw [VL,Wl]; omega
   have ed:v.args.drop i=v.args[i]::v.args.drop (i+1):=VI hi
   have et:v.args.take (i+1)=v.args.take i++[v.args[i]]:=Wp hi
   have eg:((v.args.take i).map (· + (s.aa.length:Int))++v.args.drop i)[i]? = some v.args[i]:=by
    rw [VP (by omega),hl,W7,ed]; rfl
   have es:((v.args.take i).map (· + (s.aa.length:Int))++v.args.drop i).set i (v.args[i]+(s.aa.length:Int))=(v.args.take (i+1)).map (· + (s.aa.length:Int))++v.args.drop (i+1):=by
    rw [List.set_append_right _ _ (by omega),hl,W7,ed,et,V0,VK]; rfl
   obtain⟨b1,b2⟩:=aR v.args[i] (List.getElem_mem hi)
   have ew:i64.wrap ((i:Int)+1)=((i+1:Nat):Int):=by rw [kY (by omega) (by omega)]; omega
   have ev:i64.wrap (v.args[i]+(s.aa.length:Int))=v.args[i]+(s.aa.length:Int):=kY (by omega) (by omega)
   rw [if_pos d,if_pos d,yz eg]
   simp only [Vu,ew,ev,VF,es]
   exact FR a8 aR hN s2 k (i+1) (by omega) (by omega)
  ·have d:decide ((i:Int)<(v.args.length:Int))=false:=by rw [decide_eq_false_iff_not]; omega
   have e:i=v.args.length:=by omega
   rw [if_neg (by rw [d]; decide),if_neg (by rw [d]; decide),e]
   simp
theorem FT (hm:2000000≤m)(v:Inv2 s){x:br × Int}(ok:BL x.1.nodes)(hl:s.aa.length+x.1.nodes.length≤8000):∀(k i:Nat) (V:List aq),i≤x.1.nodes.length→x.1.nodes.length - i<k→V.length=i→(∀y∈V,y.args.length≤8∧∀a∈y.args,Rg (s.aa.length+x.1.nodes.length) a)→
  ∃V2:List aq,aC.l0 m s x k (i:Int) ⟨s.aj,s.aa++V,s.ae++fK s.aa.length i⟩=some ((x.1.nodes.length:Int),⟨s.aj,s.aa++V2,s.ae++fK s.aa.length x.1.nodes.length⟩)∧V2.length=x.1.nodes.length∧∀y∈V2,y.args.length≤8∧∀a∈y.args,Rg (s.aa.length+x.1.nodes.length) a
 | 0,i,V,h1,h2,_,_=>by omega
 | k+1,i,V,h1,h2,hV,hP=>by
  have hlen:=v.inv.len
  simp only [aC.l0]
  by_cases hi:i<x.1.nodes.length
  ·have d:decide ((i:Int)<(x.1.nodes.length:Int))=true:=by rw [decide_eq_true_eq]; omega
   have eg:=Vz hi
   generalize x.1.nodes[i]=n at eg
   obtain⟨n8,nR⟩:=ok.2 n (VN eg)
   have Un:∀a∈n.args,0≤a∧a<8000:=fun a ha=>by have:=nR a ha; have:=ok.1; omega
   obtain⟨q1,q2⟩:=FR (m:=m) (s:=s) n8 Un (by omega) ⟨s.aj,s.aa++V,s.ae++fK s.aa.length i⟩ m 0 (Wk _) (by omega)
   have q1:aC.l1 m s n m 0 n.args ⟨s.aj,s.aa++V,s.ae++fK s.aa.length i⟩=_:=q1
   have q2:aC.l2 m s n m 0 n.args ⟨s.aj,s.aa++V,s.ae++fK s.aa.length i⟩=_:=q2
   have ew:i64.wrap ((i:Int)+1)=((i+1:Nat):Int):=by rw [kY (by omega) (by omega)]; omega
   have ef:i64.wrap ((s.aa.length:Int)+(i:Int))=((s.aa.length+i:Nat):Int):=by rw [kY (by omega) (by omega)]; omega
   rw [if_pos d,yz eg]
   simp only [Vu,q1,q2,ew,ef]
   have go:∀z:Int,∃V2:List aq,((app 56 (s.aa++V) [(⟨n.kind,z,n.label,n.args.map (· + (s.aa.length:Int))⟩:aq)]).bind fun x5=>(app 8 (s.ae++fK s.aa.length i) [((s.aa.length+i:Nat):Int)]).bind fun x6=>aC.l0 m s x k ((i+1:Nat):Int) (ab.mk s.aj x5 x6))=some ((x.1.nodes.length:Int),⟨s.aj,s.aa++V2,s.ae++fK s.aa.length x.1.nodes.length⟩)∧V2.length=x.1.nodes.length∧∀y∈V2,y.args.length≤8∧∀a∈y.args,Rg (s.aa.length+x.1.nodes.length) a:=by
    intro z
    rw [tO (by simp only [VD,VH,VS]; omega),Vu,tO (by simp only [VD,mW,VH,VS]; omega),Vu]
    have:=FT hm v ok hl k (i+1) (V++[⟨n.kind,z,n.label,n.args.map (· + (s.aa.length:Int))⟩]) (by omega) (by omega) (by simp [hV]) (fun y hy=>by
     rcases VY.1 hy with hy | hy
     ·exact hP y hy
     ·simp only [VV] at hy
      subst hy
      refine⟨by simpa using n8,fun a ha=>?_⟩
      obtain⟨b,hb,rfl⟩:=V8.1 ha
      have:=nR b hb
      unfold Rg; omega)
    rw [uI,←VK,←VK] at this
    exact this
   by_cases hk:n.kind=0
   ·rw [if_pos (by rw [hk]; rfl)]; exact go _
   ·rw [if_neg (by simpa using hk)]; exact go _
  ·have d:decide ((i:Int)<(x.1.nodes.length:Int))=false:=by rw [decide_eq_false_iff_not]; omega
   have e:i=x.1.nodes.length:=by omega
   rw [if_neg (by rw [d]; decide),e]
   exact⟨V,rfl,by omega,hP⟩
theorem Ms (hm:2 ^ 41≤m)(v:Inv2 s)(t:br):∃k e s',aC.f m s t=some (k,e,s')∧FQ s s' e:=by
 have yA:(2:Nat) ^ 41=2199023255552:=by decide
 have n3:=v.inv.max
 unfold aC.f bH.f
 rw [v.inv.made]
 simp only [Vu,Wy,VE,if_false]
 rcases Hz hm t with⟨r,e,ok⟩| ⟨r,e⟩
 ·rw [e,Vu,if_neg (show ¬(!(((r,0):br × Int).2==(0:Int)))=true by simp)]
  have hr:=ok.1
  have ew:i64.wrap ((s.aa.length:Int)+(r.nodes.length:Int))=((s.aa.length+r.nodes.length:Nat):Int):=by rw [kY (by omega) (by omega)]; omega
  rw [ew]
  by_cases hl:s.aa.length+r.nodes.length > 8000
  ·rw [if_pos (by rw [decide_eq_true_eq]; omega)]
   exact⟨_,_,_,rfl,FQ.none v _⟩
  ·rw [if_neg (by rw [decide_eq_true_eq]; omega)]
   obtain⟨V,e1,e2,e3⟩:=FT (m:=m) (by omega) v (x:=(r,0)) ok (by show _+r.nodes.length≤8000; omega) m 0 [] (Wk _) (by show r.nodes.length - 0<m; omega) rfl (fun y hy=>by simp at hy)
   have es:s.ae++fK s.aa.length 0=s.ae:=by simp [fK]
   rw [WN,es] at e1
   have e1:aC.l0 m s (r,0) m 0 s=some ((r.nodes.length:Int),⟨s.aj,s.aa++V,s.ae++fK s.aa.length r.nodes.length⟩):=e1
   have e2:V.length=r.nodes.length:=e2
   have e3:∀y∈V,y.args.length≤8∧∀a∈y.args,Rg (s.aa.length+r.nodes.length) a:=e3
   rw [e1,Vu]
   obtain⟨w1,w2⟩:=v.more V (by rw [e2]; exact e3) (by omega)
   rw [e2] at w1 w2
   exact⟨_,_,_,rfl,w1,w2,fun h=>absurd rfl h⟩
 ·rw [e,Vu,if_pos (show (!(((r,2):br × Int).2==(0:Int)))=true from rfl)]
  exact⟨_,_,_,rfl,FQ.none v _⟩
end
end Go.Proofs.Ytifafejidnjckaa
namespace Go.Proofs.Ytifafejidnjckaa
open Go Go.R Go.Uf
open Go.IntKind (i64 u64 u8 u32)
section
variable {m:Nat}{s:ab}
theorem pn.Mt (v:Inv2 s){s':ab}(v':Inv2 s')(eN:s'.aa=s.aa)(h:fu s.aa (rp s.ae) (rp s'.ae)):pn s s':=by
 refine⟨by rw [eN]; exact Vy _,fun n hn hv=>?_⟩
 have g1:=v.inv.cn.rg n hn
 have Ng:=v'.inv.cn
 have RY:=v'.cl
 rw [eN] at Ng RY ⊢
 have e1:rp s'.ae (rp s.ae n)=rp s'.ae n:=h _ _ g1 hn (v.inv.cn.id n hn)
 have e2:rp s'.ae (rp s'.ae n)=rp s'.ae n:=Ng.id n hn
 have v2:gW s.aa (rp s'.ae n):=e1 ▸ Ng.val g1 hv
 exact (RY _ _ g1 (Ng.rg n hn) (e1.trans e2.symm) hv v2).1
def Mu (s s':ab)(e k:Int):Prop:=Inv2 s'∧pn s s'∧(e≠0∨k=7→s'=s)
theorem FQ.a {s':ab}{e k:Int}(d:FQ s s' e)(hk:k≠7):Mu s s' e k:=⟨d.1,d.2.1,fun h=>h.elim d.2.2 fun h=>absurd h hk⟩
theorem Qf (hm:2 ^ 41≤m)(v:Inv2 s)(x:aN)(hx:x.fU.length≤40):∃e s',fI.f m s x=some (e,s')∧Mu s s' e x.eO:=by
 have yA:(2:Nat) ^ 41=2199023255552:=by decide
 have ru:2000000≤m:=by omega
 have z0:∀a∈([]:List Int),Rg s.aa.length a:=fun a h=>by simp at h
 unfold fI.f
 by_cases k0:x.eO=0
 ·rw [if_pos (by rw [k0]; rfl)]
  obtain⟨k,e,s',e1,d⟩:=yh ru v true ⟨0,0,⟨#[]⟩,[]⟩ (fun _=>⟨by simp,z0⟩)
  refine⟨e,s',?_,d.a (by omega)⟩
  simp only [eu.f,dH.f,e1,Vu]
 rw [if_neg (by simpa using k0)]
 by_cases k1:x.eO=1
 ·rw [if_pos (by rw [k1]; rfl)]
  have h1:∃r,cZ.f m x.ux=some r:=by unfold cZ.f; split<;>exact⟨_,rfl⟩
  obtain⟨r,h1⟩:=h1
  obtain⟨k,e,s',e1,d⟩:=yh ru v r ⟨1,x.ux,⟨#[]⟩,[]⟩ (fun _=>⟨by simp,z0⟩)
  refine⟨e,s',?_,d.a (by omega)⟩
  simp only [ez.f,h1,e1,Vu]
 rw [if_neg (by simpa using k1)]
 by_cases k2:x.eO=2
 ·rw [if_pos (by rw [k2]; rfl)]
  obtain⟨k,e,s',e1,d⟩:=yh ru v (pg x.eR) ⟨2,0,x.eR,[]⟩ (fun _=>⟨by simp,z0⟩)
  refine⟨e,s',?_,d.a (by omega)⟩
  simp only [dY.f,dq.f,np (show 20≤m by omega),Vu,e1]
 rw [if_neg (by simpa using k2)]
 by_cases k3:x.eO=3
 ·rw [if_pos (by rw [k3]; rfl)]
  have h1:∃r,cq.f m x.eR x.fU s=some r∧(r=true→x.fU.length≤8∧∀a∈x.fU,Rg s.aa.length a):=by
   unfold cq.f
   rw [np (show 20≤m by omega),Vu]
   split
   ·split
    ·split
     ·rename_i h8
      rw [sZ ru x.fU (by omega) (g:=fun n=>!decide (Rg s.aa.length n)) (fun a _=>by simp only [cr.f,Bx,Vu])]
      refine⟨_,rfl,fun h=>⟨by simp only [decide_eq_true_eq] at h8; omega,fun a ha=>?_⟩⟩
      simp only [WG,List.any_eq_false] at h
      have:=h a ha
      simpa using this
     ·exact⟨_,rfl,fun h=>by cases h⟩
    ·exact⟨_,rfl,fun h=>by cases h⟩
   ·exact⟨_,rfl,fun h=>by cases h⟩
  obtain⟨r,h1,h2⟩:=h1
  obtain⟨k,e,s',e1,d⟩:=yh ru v r ⟨3,0,x.eR,x.fU⟩ h2
  have hc:G3 1 x.fU=some x.fU:=by unfold G3; rw [if_pos (by omega)]
  refine⟨e,s',?_,d.a (by omega)⟩
  simp only [dL.f,hc,h1,e1,Vu]
 rw [if_neg (by simpa using k3)]
 by_cases k4:x.eO=4
 ·rw [if_pos (by rw [k4]; rfl)]
  have h1:∃r,cL.f m x.eR x.ux=some r:=by
   unfold cL.f
   rw [uD,Vu]
   split<;>exact⟨_,rfl⟩
  obtain⟨r,h1⟩:=h1
  obtain⟨k,e,s',e1,d⟩:=yh ru v r ⟨4,x.ux,x.eR,[]⟩ (fun _=>⟨by simp,z0⟩)
  refine⟨e,s',?_,d.a (by omega)⟩
  simp only [dX.f,h1,e1,Vu]
 rw [if_neg (by simpa using k4)]
 by_cases k5:x.eO=5
 ·rw [if_pos (by rw [k5]; rfl)]
  obtain⟨k,e,s',e1,d⟩:=Ms hm v x.xA
  refine⟨e,s',?_,d.a (by omega)⟩
  simp only [e1,Vu]
 rw [if_neg (by simpa using k5)]
 by_cases k6:x.eO=6
 ·rw [if_pos (by rw [k6]; rfl)]
  obtain⟨l,e,s',e1,v',em,eN,h⟩:=BD ru v x.ux x.Dg
  refine⟨e,s',by simp only [e1,Vu],v',?_,fun h'=>?_⟩
  ·rcases h with⟨_,_,rfl⟩| ⟨_,_,rfl,_⟩| ⟨_,_,h,_⟩
   ·exact pn.refl _
   ·exact pn.refl _
   ·exact pn.Mt v v' eN h
  ·rcases h with⟨_,_,rfl⟩| ⟨_,_,rfl,_⟩| ⟨_,h0,h,_⟩
   ·rfl
   ·rfl
   ·rcases h' with h' | h'
    ·exact absurd h0 h'
    ·omega
 rw [if_neg (by simpa using k6)]
 by_cases k7:x.eO=7
 ·rw [if_pos (by rw [k7]; rfl)]
  obtain⟨t,l,e,e1⟩:=J0 ru v x.ux x.Dg
  exact⟨e,s,by simp only [e1,Vu],v,pn.refl s,fun _=>rfl⟩
 rw [if_neg (by simpa using k7)]
 exact⟨0,s,rfl,v,pn.refl s,fun _=>rfl⟩
def Small (l:List aN):Prop:=l.length≤60∧∀x∈l,x.fU.length≤40
theorem yi (l:List aN)(hl:l.length<2 ^ 63):∀(k i:Nat),i≤l.length→l.length - i<k→(∃b,bw.l0 m l k (i:Int)=some (.inl b)∧b=true)∨(∃z,bw.l0 m l k (i:Int)=some (.inr z)∧∀j,i≤j→∀x,l[j]? = some x→x.fU.length≤40)
 | 0,i,h1,h2=>by omega
 | k+1,i,h1,h2=>by
  have Nh:(2:Nat) ^ 63=9223372036854775808:=by decide
  simp only [bw.l0]
  by_cases hi:i<l.length
  ·have d:decide ((i:Int)<(l.length:Int))=true:=by rw [decide_eq_true_eq]; omega
   have eg:=Vz hi
   generalize l[i]=n at eg
   have ew:i64.wrap ((i:Int)+1)=((i+1:Nat):Int):=by rw [kY (by omega) (by omega)]; omega
   rw [if_pos d,yz eg]
   simp only [Vu,ew]
   split
   ·exact .inl ⟨_,rfl,rfl⟩
   split
   ·exact .inl ⟨_,rfl,rfl⟩
   rename_i h40
   rcases yi l hl k (i+1) (by omega) (by omega) with h | ⟨z,e,h⟩
   ·exact .inl h
   ·refine .inr ⟨z,e,fun j hj x hx=>?_⟩
    by_cases hji:j=i
    ·subst hji
     rw [eg] at hx; cases hx
     simp only [decide_eq_true_eq] at h40; omega
    ·exact h j (by omega) x hx
  ·have d:decide ((i:Int)<(l.length:Int))=false:=by rw [decide_eq_false_iff_not]; omega
   rw [if_neg (by rw [d]; decide)]
   refine .inr ⟨_,rfl,fun j hj x hx=>?_⟩
   rw [V7 (by omega)] at hx; cases hx
theorem HA (hm:2 ^ 63≤m)(l:List aN)(hl:l.length<2 ^ 63):∃b,bw.f m l=some b∧(b=false→Small l):=by
 have Nh:(2:Nat) ^ 63=9223372036854775808:=by decide
 have RZ:(2:Nat) ^ 63=9223372036854775808:=by decide
 unfold bw.f
 rcases yi (m:=m) l hl m 0 (Wk _) (by omega) with⟨b,e,rfl⟩| ⟨z,e,h⟩
 ·have e:bw.l0 m l m 0=_:=e
  rw [e]
  exact⟨true,rfl,fun h=>by cases h⟩
 ·have e:bw.l0 m l m 0=_:=e
  rw [e]
  refine⟨_,rfl,fun hb=>⟨?_,fun x hx=>?_⟩⟩
  ·simp only [decide_eq_false_iff_not] at hb; omega
  ·obtain⟨j,hj⟩:=Wm hx
   exact h j (Wk _) x hj
theorem BQ (hm:2 ^ 41≤m)(l:List aN)(hl:Small l):∀(k i:Nat) (s:ab),i≤l.length→l.length - i<k→Inv2 s→∃s',bU.l0 m l k (i:Int) s=some ((l.length:Int),s')∧Inv2 s'
 | 0,i,s,h1,h2,_=>by omega
 | k+1,i,s,h1,h2,v=>by
  simp only [bU.l0]
  have h60:=hl.1
  by_cases hi:i<l.length
  ·have d:decide ((i:Int)<(l.length:Int))=true:=by rw [decide_eq_true_eq]; omega
   have eg:=Vz hi
   generalize l[i]=n at eg
   have ew:i64.wrap ((i:Int)+1)=((i+1:Nat):Int):=by rw [kY (by omega) (by omega)]; omega
   obtain⟨e,s',e1,d1⟩:=Qf hm v n (hl.2 n (VN eg))
   rw [if_pos d,yz eg]
   simp only [Vu,ew,e1]
   exact BQ hm l hl k (i+1) s' (by omega) (by omega) d1.1
  ·have d:decide ((i:Int)<(l.length:Int))=false:=by rw [decide_eq_false_iff_not]; omega
   have e:i=l.length:=by omega
   rw [if_neg (by rw [d]; decide),e]
   exact⟨s,rfl,v⟩
theorem HB:Inv2 ⟨true,[],[]⟩:=by
 have no:∀(P:Int→Prop) (n:Int),Rg ([]:List aq).length n→P n:=fun P n h=>by have:=h.1; have:=h.2; simp at this; omega
 exact⟨⟨rfl,rfl,by simp,Hm,⟨fun n h=>no _ n h,fun n h=>no _ n h,fun n h=>no _ n h⟩,fun v h=>by simp at h⟩,fun x y hx=>(no (fun _=>False) x hx).elim⟩
theorem Kb (hm:2 ^ 41≤m)(l:List aN)(hl:Small l):∃s,bU.f m l=some s∧Inv2 s:=by
 have yA:(2:Nat) ^ 41=2199023255552:=by decide
 have h60:=hl.1
 obtain⟨s,e,v⟩:=BQ hm l hl m 0 ⟨true,[],[]⟩ (Wk _) (by omega) HB
 have e:bU.l0 m l m 0 ⟨true,[],[]⟩=_:=e
 refine⟨s,?_,v⟩
 simp only [bU.f,iY.f,Vu,e]
def nI (s:ab):List Int:=(WD s.aa.length).map fun (i:Nat)=>rp s.ae (i:Int)
theorem BR (hm:2000000≤m)(v:Inv s):∀(k i:Nat),i≤s.aa.length→s.aa.length - i<k→bM.l0 m s k ((WD i).map fun (i:Nat)=>rp s.ae (i:Int)) (i:Int)=some (nI s,(s.aa.length:Int))
 | 0,i,h1,h2=>by omega
 | k+1,i,h1,h2=>by
  have n3:=v.max
  simp only [bM.l0,ca.f,bH.f,v.made,Vu,Wy,VE,if_false]
  by_cases hi:i<s.aa.length
  ·have d:decide ((i:Int)<(s.aa.length:Int))=true:=by rw [decide_eq_true_eq]; omega
   have r:Rg s.aa.length (i:Int):=⟨WK _,by omega⟩
   have ew:i64.wrap ((i:Int)+1)=((i+1:Nat):Int):=by rw [kY (by omega) (by omega)]; omega
   rw [if_pos d,Mk hm v,if_pos r]
   simp only [Vu,ew]
   rw [if_neg (by decide),tO (by simp only [VL,List.length_range,VH,VS]; omega),Vu]
   have:=BR hm v k (i+1) (by omega) (by omega)
   rw [List.range_succ,V0] at this
   exact this
  ·have d:decide ((i:Int)<(s.aa.length:Int))=false:=by rw [decide_eq_false_iff_not]; omega
   have e:i=s.aa.length:=by omega
   rw [if_neg (by rw [d]; decide),e]; rfl
theorem FU (hm:2000000≤m)(v:Inv s):bM.f m s=some (nI s):=by
 have n3:=v.max
 have:=BR hm v m 0 (Wk _) (by omega)
 have this:bM.l0 m s m [] 0=_:=this
 simp only [bM.f,this,Vu]
theorem BS (a:List Int)(hl:a.length<2 ^ 63):∀(k i:Nat),i≤a.length→a.length - i<k→bW.l0 m a a k (i:Int)=some (.inr (a.length:Int))
 | 0,i,h1,h2=>by omega
 | k+1,i,h1,h2=>by
  have Nh:(2:Nat) ^ 63=9223372036854775808:=by decide
  simp only [bW.l0]
  by_cases hi:i<a.length
  ·have d:decide ((i:Int)<(a.length:Int))=true:=by rw [decide_eq_true_eq]; omega
   have ew:i64.wrap ((i:Int)+1)=((i+1:Nat):Int):=by rw [kY (by omega) (by omega)]; omega
   rw [if_pos d,yz (Vz hi)]
   simp only [Vu,ew,BEq.rfl,Wy,VE,if_false]
   exact BS a hl k (i+1) (by omega) (by omega)
  ·have d:decide ((i:Int)<(a.length:Int))=false:=by rw [decide_eq_false_iff_not]; omega
   have e:i=a.length:=by omega
   rw [if_neg (by rw [d]; decide),e]
theorem C3 (a:List Int)(hl:a.length<2 ^ 63)(hm:2 ^ 63≤m):bW.f m a a=some true:=by
 have Nh:(2:Nat) ^ 63=9223372036854775808:=by decide
 have RZ:(2:Nat) ^ 63=9223372036854775808:=by decide
 have:=BS (m:=m) a hl m 0 (Wk _) (by omega)
 have this:bW.l0 m a a m 0=_:=this
 simp only [bW.f,BEq.rfl,Wy,VE,if_false,this,Vu]
theorem FV (v:Inv s):(nI s).length<2 ^ 63:=by
 have n3:=v.max
 have Nh:(2:Nat) ^ 63=9223372036854775808:=by decide
 unfold nI; rw [VL,List.length_range]; omega
end
end Go.Proofs.Ytifafejidnjckaa
namespace Go.Proofs.Ytifafejidnjckaa
open Go Go.R Go.Uf
open Go.IntKind (i64 u64 u8 u32)
section
variable {m:Nat}{s:ab}
theorem HC {a b:ab}(hN:a.aa.length=b.aa.length)(h:∀n,Rg a.aa.length n→rp a.ae n=rp b.ae n):nI a=nI b:=by
 unfold nI
 rw [←hN]
 refine WH fun i hi=>?_
 rw [WJ] at hi
 exact h _ ⟨WK _,by omega⟩
theorem zM {a b:Int}(h:jw s [a,b]=true):jw s [b,a]=true:=by
 simp only [jw,Wi,List.all_nil,Bool.and_true,Vx] at h ⊢
 exact⟨h.2,h.1⟩
end
end Go.Proofs.Ytifafejidnjckaa
namespace Go.Proofs.Ytifafejidnjckaa
open Go Go.R Go.Uf
open Go.IntKind (i64 u64 u8 u32)
section
variable {m:Nat}{s:ab}
def yj (s:ab)(l:List ko)(T:Int→Int):Prop:=∀p∈l,jw s [p.a0,p.a1]=true→T p.a0=T p.a1
theorem tj (hm:2000000≤m)(l:List ko)(hl:l.length≤1000):∀(k i:Nat) (s:ab),i≤l.length→l.length - i<k→Inv2 s→
  (∃s',bA.l0 m l k (i:Int) s=some (.inl (false,s'))∧∀T,Cl s.aa T→fu s.aa (rp s.ae) T→yj s (l.drop i) T→False)∨
  (∃s',bA.l0 m l k (i:Int) s=some (.inr ((l.length:Int),s'))∧Inv2 s'∧s'.aa=s.aa∧fu s.aa (rp s.ae) (rp s'.ae)∧yj s (l.drop i) (rp s'.ae)∧∀T,Cl s.aa T→fu s.aa (rp s.ae) T→yj s (l.drop i) T→fu s.aa (rp s'.ae) T)
 | 0,i,s,h1,h2,_=>by omega
 | k+1,i,s,h1,h2,v=>by
  simp only [bA.l0]
  by_cases hi:i<l.length
  ·have d:decide ((i:Int)<(l.length:Int))=true:=by rw [decide_eq_true_eq]; omega
   have eg:=Vz hi
   have ed:l.drop i=l[i]::l.drop (i+1):=VI hi
   generalize l[i]=p at eg ed
   have ew:i64.wrap ((i:Int)+1)=((i+1:Nat):Int):=by rw [kY (by omega) (by omega)]; omega
   rw [if_pos d,yz eg]
   simp only [Vu,ew]
   obtain⟨u,e,s1,e1,v1,em,eN,h⟩:=BD hm v p.a0 p.a1
   rw [e1,ed]
   simp only [Vu]
   have Qg:∀q:ko,jw s1 [q.a0,q.a1]=jw s [q.a0,q.a1]:=fun q=>by unfold jw; rw [eN]
   rcases h with⟨hn,rfl,rfl⟩| ⟨hn,rfl,rfl,h⟩| ⟨hn,rfl,k1,k2,k3⟩
   ·rw [if_neg (by decide)]
    rcases tj hm l hl k (i+1) s1 (by omega) (by omega) v1 with⟨s',e2,h⟩| ⟨s',e2,w1,w2,w3,w4,w5⟩
    ·exact .inl ⟨s',e2,fun T a b c=>h T a b fun q hq=>c q (Wx _ hq)⟩
    ·refine .inr ⟨s',e2,w1,w2,w3,fun q hq HD=>?_,fun T a b c=>w5 T a b fun q hq=>c q (Wx _ hq)⟩
     rcases VT.1 hq with rfl | hq
     ·rw [hn] at HD; cases HD
     ·exact w4 q hq HD
   ·rw [if_pos (by decide)]
    exact .inl ⟨_,rfl,fun T a b c=>h T a b (c p List.mem_cons_self hn)⟩
   ·rw [if_neg (by decide)]
    rcases tj hm l hl k (i+1) s1 (by omega) (by omega) v1 with⟨s',e2,h⟩| ⟨s',e2,w1,w2,w3,w4,w5⟩
    ·rw [eN] at h
     exact .inl ⟨s',e2,fun T a b c=>h T a (k3 T a b (c p List.mem_cons_self hn)) fun q hq HD=>c q (Wx _ hq) (by rw [←Qg]; exact HD)⟩
    ·rw [eN] at w3 w5
     obtain⟨r1,r2⟩:=zx hn
     refine .inr ⟨s',e2,w1,w2.trans eN,k1.trans w3,fun q hq HD=>?_,fun T a b c=>w5 T a (k3 T a b (c p List.mem_cons_self hn)) fun q hq HD=>c q (Wx _ hq) (by rw [←Qg]; exact HD)⟩
     rcases VT.1 hq with rfl | hq
     ·exact w3 _ _ r1 r2 k2
     ·exact w4 q hq (by rw [Qg]; exact HD)
  ·have d:decide ((i:Int)<(l.length:Int))=false:=by rw [decide_eq_false_iff_not]; omega
   have e:i=l.length:=by omega
   rw [if_neg (by rw [d]; decide),e,List.drop_length]
   exact .inr ⟨s,rfl,v,rfl,fun _ _ _ _ h=>h,fun q hq=>by simp at hq,fun T _ b _=>b⟩
theorem BT (hm:2000000≤m)(v:Inv2 s)(l:List ko)(hl:l.length≤1000) :
  (∃s',bA.f m s l=some (false,s')∧∀T,Cl s.aa T→fu s.aa (rp s.ae) T→yj s l T→False)∨
  (∃s',bA.f m s l=some (true,s')∧Inv2 s'∧s'.aa=s.aa∧fu s.aa (rp s.ae) (rp s'.ae)∧yj s l (rp s'.ae)∧∀T,Cl s.aa T→fu s.aa (rp s.ae) T→yj s l T→fu s.aa (rp s'.ae) T):=by
 rcases tj hm l hl m 0 s (Wk _) (by omega) v with⟨s',e,h⟩| ⟨s',e,h⟩
 ·have e:bA.l0 m l m 0 s=_:=e
  exact .inl ⟨s',by simp only [bA.f,e,Vu],h⟩
 ·have e:bA.l0 m l m 0 s=_:=e
  exact .inr ⟨s',by simp only [bA.f,e,Vu],h⟩
def Alt (a b:List ko):Prop:=(∀p∈a,∃q∈b,q=p∨q=⟨p.a1,p.a0⟩)∧∀p∈b,∃q∈a,q=p∨q=⟨p.a1,p.a0⟩
theorem Alt.hold {a b:List ko}(h:Alt a b){T:Int→Int}(k:yj s a T):yj s b T:=fun p hp hn=>by
 obtain⟨q,hq,e | e⟩:=h.2 p hp
 ·subst e; exact k q hq hn
 ·subst e; exact (k _ hq (zM hn)).symm
theorem yk (nw:List ko)(order:List Int)(jW:List Bool)(hl:nw.length≤30)(ho:∀x∈order,0≤x∧x≤255)(B4:order.length<2 ^ 63)(hsl:jW.length<2 ^ 63):∀(k i:Nat) (other:List ko),i≤nw.length→nw.length - i<k→other.length=i→Alt (nw.take i) other→
  ∃r,aY.l0 m nw order jW k other (i:Int)=some (r,(nw.length:Int))∧r.length=nw.length∧Alt nw r
 | 0,i,other,h1,h2,_,_=>by omega
 | k+1,i,other,h1,h2,h3,h4=>by
  simp only [aY.l0]
  by_cases hi:i<nw.length
  ·have d:decide ((i:Int)<(nw.length:Int))=true:=by rw [decide_eq_true_eq]; omega
   have eg:=Vz hi
   have et:nw.take (i+1)=nw.take i++[nw[i]]:=Wp hi
   generalize nw[i]=p at eg et
   have ew:i64.wrap ((i:Int)+1)=((i+1:Nat):Int):=by rw [kY (by omega) (by omega)]; omega
   rw [if_pos d,yz eg]
   simp only [Vu,jn,ew]
   have go:∀(q:ko) (at_:Int),(q=p∨q=⟨p.a1,p.a0⟩)→0≤at_→at_≤(other.length:Int)→∃r,((sk other (0:Int) at_).bind fun v4=>(app 16 ([]:List ko) v4).bind fun x6=>(app 16 x6 ([(ko.mk q.a0 q.a1)])).bind fun x7=>(sk other at_ (other.length:Int)).bind fun v5=>(app 16 x7 v5).bind fun x8=>aY.l0 m nw order jW k x8 ((i+1:Nat):Int))=some (r,(nw.length:Int))∧r.length=nw.length∧Alt nw r:=by
    intro q at_ hq a0 a1
    have s1:sk other 0 at_=some (other.take at_.toNat):=by
     unfold sk; rw [if_pos ⟨Int.le_refl _,a0,a1⟩]; simp
    have s2:sk other at_ (other.length:Int)=some (other.drop at_.toNat):=by
     unfold sk; rw [if_pos ⟨a0,a1,Int.le_refl _⟩,VF]
     congr 1
     exact V6 (by rw [Ww]; exact Vy _)
    have lt:(other.take at_.toNat).length≤30:=by rw [Wl]; omega
    have ld:(other.drop at_.toNat).length≤30:=by rw [Ww]; omega
    rw [s1,Vu,tO (by simp only [VS]; omega),Vu,V9,tO (by simp only [VH,VS]; omega),Vu,s2,Vu,tO (by simp only [VD,VH,VS]; omega),Vu]
    have w6:∀x,x∈other.take at_.toNat++[q]++other.drop at_.toNat↔x=q∨x∈other:=fun x=>by
     have:x∈other↔x∈other.take at_.toNat∨x∈other.drop at_.toNat:=by
      conv=>lhs; rw [←Wu at_.toNat other]
      rw [VY]
     rw [this]
     simp only [VY,VV]
     constructor
     ·rintro ((h | h) | h)
      ·exact .inr (.inl h)
      ·exact .inl h
      ·exact .inr (.inr h)
     ·rintro (h | h | h)
      ·exact .inl (.inr h)
      ·exact .inl (.inl h)
      ·exact .inr h
    refine yk nw order jW hl ho B4 hsl k (i+1) _ (by omega) (by omega) ?_ ?_
    ·simp only [VD,Wl,Ww,VH,VS]; omega
    ·rw [et]
     refine⟨fun x hx=>?_,fun x hx=>?_⟩
     ·rcases VY.1 hx with hx | hx
      ·obtain⟨y,hy,e⟩:=h4.1 x hx
       exact⟨y,(w6 y).2 (.inr hy),e⟩
      ·simp only [VV] at hx
       subst hx
       exact⟨q,(w6 q).2 (.inl rfl),hq⟩
     ·rcases (w6 x).1 hx with rfl | hx
      ·refine⟨p,List.mem_append_right _ (by simp),?_⟩
       rcases hq with e | e
       ·exact .inl e.symm
       ·subst e; exact .inr rfl
      ·obtain⟨y,hy,e⟩:=h4.2 x hx
       exact⟨y,Wn _ hy,e⟩
   have Qh:∀q:ko,(q=p∨q=⟨p.a1,p.a0⟩)→∃r,(if decide ((i:Int)<(order.length:Int))=true then ((ix order (i:Int)).bind fun v2=>(Cu .i64 (i64.wrap v2) (i64.wrap ((other.length:Int)+(1:Int)))).bind fun v3=>(sk other (0:Int) v3).bind fun v4=>(app 16 ([]:List ko) v4).bind fun x6=>(app 16 x6 ([(ko.mk q.a0 q.a1)])).bind fun x7=>(sk other v3 (other.length:Int)).bind fun v5=>(app 16 x7 v5).bind fun x8=>aY.l0 m nw order jW k x8 ((i+1:Nat):Int)) else ((sk other (0:Int) (0:Int)).bind fun v4=>(app 16 ([]:List ko) v4).bind fun x6=>(app 16 x6 ([(ko.mk q.a0 q.a1)])).bind fun x7=>(sk other (0:Int) (other.length:Int)).bind fun v5=>(app 16 x7 v5).bind fun x8=>aY.l0 m nw order jW k x8 ((i+1:Nat):Int)))=some (r,(nw.length:Int))∧r.length=nw.length∧Alt nw r:=by
    intro q hq
    by_cases R0:i<order.length
    ·have d2:decide ((i:Int)<(order.length:Int))=true:=by rw [decide_eq_true_eq]; omega
     have eo:=Vz R0
     obtain⟨b0,b1⟩:=ho _ (List.getElem_mem R0)
     generalize order[i]=z at eo b0 b1
     have e1:i64.wrap z=z:=kY (by omega) (by omega)
     have e2:i64.wrap ((other.length:Int)+1)=(other.length:Int)+1:=kY (by omega) (by omega)
     have e3:Cu .i64 z ((other.length:Int)+1)=some (Int.tmod z ((other.length:Int)+1)):=by unfold Cu; rw [if_neg (by omega)]
     rw [if_pos d2,yz eo,Vu,e1,e2,e3,Vu]
     have t1:0≤Int.tmod z ((other.length:Int)+1):=Int.tmod_nonneg _ b0
     have t2:Int.tmod z ((other.length:Int)+1)<(other.length:Int)+1:=Int.tmod_lt_of_pos _ (by omega)
     exact go q _ hq t1 (by omega)
    ·have d2:decide ((i:Int)<(order.length:Int))=false:=by rw [decide_eq_false_iff_not]; omega
     rw [if_neg (by rw [d2]; decide)]
     exact go q 0 hq (Int.le_refl _) (by omega)
   by_cases HQ:i<jW.length
   ·have d2:decide ((i:Int)<(jW.length:Int))=true:=by rw [decide_eq_true_eq]; omega
    have eo:=Vz HQ
    generalize jW[i]=z at eo
    rw [if_pos d2,yz eo,Vu]
    cases z with
    | true=>rw [if_pos rfl]; exact Qh ⟨p.a1,p.a0⟩ (.inr rfl)
    | false=>rw [if_neg (by decide)]; exact Qh p (.inl rfl)
   ·have d2:decide ((i:Int)<(jW.length:Int))=false:=by rw [decide_eq_false_iff_not]; omega
    rw [if_neg (by rw [d2]; decide)]
    exact Qh p (.inl rfl)
  ·have d:decide ((i:Int)<(nw.length:Int))=false:=by rw [decide_eq_false_iff_not]; omega
   have e:i=nw.length:=by omega
   rw [if_neg (by rw [d]; decide)]
   rw [e,W6] at h4
   exact⟨other,by rw [e],by omega,h4⟩
theorem zN (hm:2 ^ 63≤m)(l:List aN)(nw:List ko)(order:List Int)(jW:List Bool)(h1:l.length<2 ^ 63)(ho:∀x∈order,0≤x∧x≤255)(B4:order.length<2 ^ 63)(hsl:jW.length<2 ^ 63):aY.f m l nw order jW=some true:=by
 have yA:(2:Nat) ^ 41=2199023255552:=by decide
 have RZ:(2:Nat) ^ 63=9223372036854775808:=by decide
 have ru:2 ^ 41≤m:=by omega
 have Ni:2000000≤m:=by omega
 unfold aY.f
 obtain⟨q,e1,g1⟩:=HA hm l h1
 rw [e1,Vu]
 cases q with
 | true=>rfl
 | false=>
  rw [if_neg (by decide)]
  by_cases h30:nw.length≤30
  ·obtain⟨s,e3,v⟩:=Kb ru l (g1 rfl)
   obtain⟨r,e5,r1,r2⟩:=yk (m:=m) nw order jW h30 ho B4 hsl m 0 [] (Wk _) (by omega) rfl ⟨fun p hp=>by simp at hp,fun p hp=>by simp at hp⟩
   have e5:aY.l0 m nw order jW m [] 0=_:=e5
   have R5:Alt r nw:=⟨r2.2,r2.1⟩
   rw [if_neg (by rw [decide_eq_true_eq]; omega),e3]
   simp only [Vu,e5,cJ.f]
   rcases BT Ni v nw (by omega) with⟨s1,f1,f2⟩| ⟨s1,f1,f2,f3,f4,f5,f6⟩<;>rcases BT Ni v r (by omega) with⟨s2,k1,k2⟩| ⟨s2,k1,k2,k3,k4,k5,k6⟩
   ·rw [f1]; simp only [Vu,k1,BEq.rfl,if_true,Bool.not_false]
   ·have Mw:=k2.cl
    rw [k3] at Mw
    exact (f2 _ Mw k4 (R5.hold k5)).elim
   ·have Mx:=f2.cl
    rw [f3] at Mx
    exact (k2 _ Mx f4 (r2.hold f5)).elim
   ·have Mx:=f2.cl
    have Mw:=k2.cl
    have R6:=f2.inv.cn
    have R7:=k2.inv.cn
    rw [f3] at Mx R6
    rw [k3] at Mw R7
    have er:nI s1=nI s2:=HC (by rw [f3,k3]) (fun n hn=>by
     rw [f3] at hn
     exact R6.unique R7 (f6 _ Mw k4 (R5.hold k5)) (k6 _ Mx f4 (r2.hold f5)) hn)
    rw [f1]
    simp only [Vu,k1,BEq.rfl,if_true,Wy,VE,if_false,FU Ni f2.inv,FU Ni k2.inv,er,C3 (nI s2) (FV k2.inv) hm]
  ·rw [if_pos (by rw [decide_eq_true_eq]; omega)]; rfl
end
end Go.Proofs.Ytifafejidnjckaa
namespace Go.Proofs.Ytifafejidnjckaa
open Go Go.R
open Go.IntKind (i64 u64 u8 u32)
def Nf (xs ys:List AV):Prop:=cH xs=true∧dn xs=ys
theorem uJ:∀a b:List AV,cH (a++b)=(cH a&&cH b)
 | [],b=>rfl
 | x::a,b=>by rw [Wb,cH,cH,uJ,Bool.and_assoc]
theorem uK:∀a b:List AV,dn (a++b)=dn a++dn b
 | [],b=>rfl
 | x::a,b=>by rw [Wb,dn,dn,uK,Wb]
theorem Nf.app {a b c d:List AV}(h:Nf a c)(k:Nf b d):Nf (a++b) (c++d):=⟨by rw [uJ,h.1,k.1]; rfl,by rw [uK,h.2,k.2]⟩
theorem Nf.nil:Nf [] []:=⟨rfl,rfl⟩
theorem Nf.cons {x y:AV}{b d:List AV}(h:x.dS=true)(h2:x.jm=y)(k:Nf b d):Nf (x::b) (y::d):=⟨by simp [cH,h,k.1],by simp [dn,h2,k.2]⟩
theorem tk {α:Type}{E:bL α}{Pr:α→Prop}:∀{els:List (List AV)},(∀el∈els,∃a,Nf el (E.f a)∧Pr a)→∃l:List α,Nf els.flatten (E.l l)∧l.length=els.length∧∀a∈l,Pr a
 | [],_=>⟨[],Nf.nil,rfl,fun a ha=>by cases ha⟩
 | el::els,h=>by
  obtain⟨a,h1,h2⟩:=h el (by simp)
  obtain⟨l,h3,h4,h5⟩:=tk (E:=E) (Pr:=Pr) (els:=els) fun e he=>h e (by simp [he])
  refine⟨a::l,?_,by simp [h4],fun x hx=>?_⟩
  ·rw [List.flatten_cons,bL.eD]; exact h1.app h3
  ·rcases VT.1 hx with rfl | hx
   ·exact h2
   ·exact h5 x hx
def wi {α:Type}(E:bL α)(x:AV)(l:List α):Prop:=x.dS=true∧x.jm=E.fz l∧(x = .nils∨∃cs n b,x = .fz cs n b)∧l.length≤maxLen
theorem wi.fr {α:Type}{E:bL α}{x:AV}{l:List α}(h:wi E x l)(hp:AHeap):jR 0 hp x (E.fz l):=lu h.1 (by rcases h.2.2.1 with rfl | ⟨cs,n,b,rfl⟩<;>exact fun _=>rfl) h.2.1
theorem p6 {α:Type}{E:bL α}{Pr:α→Prop}{n t e:Nat}{xs:List AV}(ht:Try.prog.underlying t=some (.slice e))(h:Fits Try.prog (n+1) t xs)
  (he:∀el,Fits Try.prog n e el→∃a,Nf el (E.f a)∧Pr a):∃x l,xs=[x]∧wi E x l∧∀a∈l,Pr a:=by
 unfold Fits at h
 rw [ht] at h
 rcases h with rfl | ⟨els,rfl,h1,h⟩
 ·exact⟨_,[],rfl,⟨rfl,rfl,.inl rfl,Wk _⟩,fun a ha=>by cases ha⟩
 ·obtain⟨l,⟨h2,h3⟩,h4,h5⟩:=tk (E:=E) (Pr:=Pr) fun el Cf=>he el (h el Cf).2
  refine⟨_,l,rfl,⟨by simpa [AV.dS] using h2,?_,.inr ⟨_,_,_,rfl⟩,by omega⟩,h5⟩
  show AV.fz (dn els.flatten) els.length false=_
  rw [h3,←h4]; rfl
theorem lN {n:Nat}{xs:List AV}(h:Fits Try.prog (n+1) 3 xs):∃z:Int,xs=[.int .i64 z]:=by
 unfold Fits at h
 rw [Try.underlying3] at h
 obtain⟨z,rfl,_⟩:=h
 exact⟨z,rfl⟩
theorem BU {n:Nat}{xs:List AV}(h:Fits Try.prog (n+1) 9 xs):∃s:ByteArray,xs=[.str s]:=by
 unfold Fits at h
 rw [Try.underlying9] at h
 obtain⟨s,hs,_⟩:=h
 exact⟨s,hs⟩
theorem FW {n:Nat}{xs:List AV}(h:Fits Try.prog (n+1) 4 xs):∃b:Bool,xs=[.bool b]:=by
 unfold Fits at h
 rw [Try.underlying4] at h
 exact h
theorem yl {n:Nat}{xs:List AV}(h:Fits Try.prog (n+2) 33 xs):∃x l,xs=[x]∧wi af x l:=by
 obtain⟨x,l,e,h,_⟩:=p6 (E:=af) (Pr:=fun _=>True) Try.underlying33 h fun el h=>by
  obtain⟨z,rfl⟩:=lN h
  exact⟨z,⟨rfl,rfl⟩,trivial⟩
 exact⟨x,l,e,h⟩
theorem FX {n:Nat}{xs:List AV}(h:Fits Try.prog (n+3) 51 xs):∃v:aq,Nf xs (ah.f v):=by
 unfold Fits at h
 rw [Try.underlying51] at h
 obtain⟨a,b,rfl,_,h1,h⟩:=h
 obtain⟨c,d,rfl,_,h2,h⟩:=h
 obtain⟨e,f,rfl,_,h3,h⟩:=h
 obtain⟨g,k,rfl,_,h4,h⟩:=h
 have h:k=[]:=h
 subst h
 obtain⟨z1,rfl⟩:=lN h1
 obtain⟨z2,rfl⟩:=lN h2
 obtain⟨s,rfl⟩:=BU h3
 obtain⟨x,l,rfl,hx⟩:=yl h4
 exact⟨⟨z1,z2,s,l⟩,Nf.cons rfl rfl (Nf.cons rfl rfl (Nf.cons rfl rfl (Nf.cons hx.1 hx.2.1 Nf.nil)))⟩
theorem C4 {n:Nat}{xs:List AV}(h:Fits Try.prog (n+4) 40 xs):∃x l,xs=[x]∧wi ah x l:=by
 obtain⟨x,l,e,h,_⟩:=p6 (E:=ah) (Pr:=fun _=>True) Try.underlying40 h fun el h=>by
  obtain⟨v,hv⟩:=FX h
  exact⟨v,hv,trivial⟩
 exact⟨x,l,e,h⟩
def FY (xs:List AV)(x:aN):Prop:=∃A T,xs=[.int .i64 x.eO,.int .i64 x.ux,.int .i64 x.Dg,.str x.eR,A,T,.int .i64 x.xA.root]∧wi af A x.fU∧wi ah T x.xA.nodes
theorem HE {n:Nat}{xs:List AV}(h:Fits Try.prog (n+6) 44 xs):∃x,FY xs x:=by
 unfold Fits at h
 rw [Try.underlying44] at h
 obtain⟨a,b,rfl,_,h1,h⟩:=h
 obtain⟨c,d,rfl,_,h2,h⟩:=h
 obtain⟨e,f,rfl,_,h3,h⟩:=h
 obtain⟨g,k,rfl,_,h4,h⟩:=h
 obtain⟨i,j,rfl,_,h5,h⟩:=h
 obtain⟨o,p,rfl,_,h6,h⟩:=h
 have h:p=[]:=h
 subst h
 obtain⟨z1,rfl⟩:=lN h1
 obtain⟨z2,rfl⟩:=lN h2
 obtain⟨z3,rfl⟩:=lN h3
 obtain⟨s,rfl⟩:=BU h4
 obtain⟨x,l,rfl,hx⟩:=yl h5
 have h6:Fits Try.prog (n+5) 42 o:=h6
 unfold Fits at h6
 rw [Try.underlying42] at h6
 obtain⟨q,r,rfl,_,h7,h6⟩:=h6
 obtain⟨t,u,rfl,_,h8,h6⟩:=h6
 have h6:u=[]:=h6
 subst h6
 obtain⟨y,ns,rfl,hy⟩:=C4 h7
 obtain⟨z4,rfl⟩:=lN h8
 exact⟨⟨z1,z2,z3,s,l,⟨ns,z4⟩⟩,x,y,rfl,hx,hy⟩
theorem FY.nf {xs:List AV}{x:aN}(h:FY xs x):Nf xs (aU.f x):=by
 obtain⟨A,T,rfl,hA,hT⟩:=h
 exact Nf.cons rfl rfl (Nf.cons rfl rfl (Nf.cons rfl rfl (Nf.cons rfl rfl (Nf.cons hA.1 hA.2.1 (Nf.cons hT.1 hT.2.1 (Nf.cons rfl rfl Nf.nil))))))
theorem FZ {n:Nat}{xs:List AV}(h:Fits Try.prog (n+7) 22 xs):∃x l,xs=[x]∧wi aU x l:=by
 obtain⟨x,l,e,h,_⟩:=p6 (E:=aU) (Pr:=fun _=>True) Try.underlying22 h fun el h=>by
  obtain⟨v,hv⟩:=HE h
  exact⟨v,hv.nf,trivial⟩
 exact⟨x,l,e,h⟩
theorem p7:maxLen<2 ^ 63:=by decide
theorem F0 {n:Nat}{xs:List AV}(h:Fits Try.prog (n+7) 22 xs):∃l:List aN,l.length<2 ^ 63∧∀hp,jR 10 hp (gi Try.prog 22 xs) (aU.fz l):=by
 obtain⟨x,l,rfl,hx⟩:=FZ h
 have e1:gi Try.prog 22 [x]=x:=by unfold gi; rw [Try.underlying22]; rfl
 rw [e1]
 exact⟨l,Nat.lt_of_le_of_lt hx.2.2.2 p7,fun hp=>(hx.fr hp).mono (by decide)⟩
end Go.Proofs.Ytifafejidnjckaa
namespace Go.R
open Go
def My (P:Program)(m:Nat)(t e:TypeId)(n:Nat)(u:TypeId):Prop:=P.underlying t=some (.slice e)∧P.underlying e=some (.array n u)∧lP P m u=true∧P.cellsOf e=n*P.cellsOf u
def wj (P:Program)(m:Nat)(t:TypeId):Prop:=lP P m t=true∨∃e n u,My P m t e n u
def lS (P:Program)(m:Nat)(t:TypeId)(xs:List AV):Prop:=
 Fits P m t xs∨∃e n u,My P m t e n u∧(xs=[.nils]∨∃els:List (List (List AV)),xs=[.fz (els.map List.flatten).flatten els.length false]∧els.length≤maxLen∧∀el∈els,el.length=n∧∀y∈el,y.length=P.cellsOf u∧Fits P m u y)
def mX (P:Program)(m:Nat):List TypeId→List AV→Prop
 | [],[]=>True
 | t::ts,x::wk=>(∃xs,x=gi P t xs∧lS P m t xs)∧mX P m ts wk
 | _,_=>False
section
variable {H:Type}{enc:TypeId × Value→H}{P:Program}{c:Cx}{sp:Nat→Bool}{held:Bool}
theorem VRs.flatten:∀(els:List (List AV)) (Mz:List (List Value)),els.length=Mz.length→(∀(i:Nat) el cs,els[i]? = some el→Mz[i]? = some cs→VRs c none0 el cs)→VRs c none0 els.flatten Mz.flatten
 | [],[],_,_=>trivial
 | el::els,cs::Mz,hl,h=>by
  rw [List.flatten_cons,List.flatten_cons]
  exact VRs.append (h 0 el cs rfl rfl) (VRs.flatten els Mz (by simpa using hl) fun i e c h1 h2=>h (i+1) e c (by simpa using h1) (by simpa using h2))
theorem ym {α:Type}(k:Nat):∀(n:Nat) (cs:List α),cs.length=n*k→((WD n).map fun i=>(cs.drop (i*k)).take k).flatten=cs
 | 0,cs,h=>by
  have:cs=[]:=VZ (by simpa using h)
  subst this; rfl
 | n+1,cs,h=>by
  rw [List.range_succ,V0,List.flatten_append]
  have h0:(cs.take (n*k)).length=n*k:=by rw [Wl,h,Wv]; omega
  have h1:=ym k n (cs.take (n*k)) h0
  have h2:((WD n).map fun i=>(cs.drop (i*k)).take k)=((WD n).map fun i=>((cs.take (n*k)).drop (i*k)).take k):=by
   apply WH
   intro i hi
   have hi:i<n:=WJ.1 hi
   have:i*k+k≤n*k:=by rw [←W9]; exact We k hi
   rw [List.drop_take,List.take_take,WM (by omega)]
  rw [h2,h1]
  simp only [VX,WU,List.flatten_cons,List.flatten_nil,WN]
  rw [V6 (l:=cs.drop (n*k)) (by rw [Ww,h,Wv]; omega),Wu]
theorem zO (qh:∀id,c.h.get id=none){m:Nat}{e u:TypeId}{n fuel:Nat}{cs:List Value}{d:DataW H}{ps:List MemPlace}(he:P.underlying e=some (.array n u))(hB:lP P m u=true)(hc:P.cellsOf e=n*P.cellsOf u)
  (h:DataW.trod enc P c.w 0 sp held fuel e cs=some (d,ps)):∃els:List (List AV),VRs c none0 els.flatten cs∧(els.length=n∧∀y∈els,y.length=P.cellsOf u∧Fits P m u y)∧∀v∈cs,v.oneCell'=true:=by
 cases fuel with
 | zero=>simp [DataW.trod] at h
 | succ fuel=>
 unfold DataW.trod at h
 simp only [he] at h
 split at h
 rotate_left
 ·cases h
 rename_i hlen
 rw [Vv] at h
 obtain⟨xs,hx,_⟩:=h
 obtain⟨hn,hget⟩:=mapM_some hx
 have yp:∀i,i<n→((cs.drop (i*P.cellsOf u)).take (P.cellsOf u)).length=P.cellsOf u:=by
  intro i hi
  have:i*P.cellsOf u+P.cellsOf u≤n*P.cellsOf u:=by rw [←W9]; exact We _ hi
  rw [Wl,Ww,hlen,hc]; omega
 have key:∀i,i<n→∃el:List AV,VRs c none0 el ((cs.drop (i*P.cellsOf u)).take (P.cellsOf u))∧(el.length=P.cellsOf u∧Fits P m u el)∧∀v∈(cs.drop (i*P.cellsOf u)).take (P.cellsOf u),v.oneCell'=true:=by
  intro i hi
  obtain⟨y,_,hy⟩:=hget i i (by simp [hi])
  obtain⟨el,hv,hf,h1⟩:=ng qh m u fuel _ y.1 y.2 hB hy
  exact⟨el,hv,⟨by rw [hv.length,yp i hi],hf⟩,h1⟩
 obtain⟨els,hl,nr⟩:=kc n key
 have MA:=ym (P.cellsOf u) n cs (by rw [hlen,hc])
 refine⟨els,?_,⟨hl,fun y hy=>?_⟩,fun v hv=>?_⟩
 ·have:=VRs.flatten (c:=c) els ((WD n).map fun i=>(cs.drop (i*P.cellsOf u)).take (P.cellsOf u)) (by simp [hl]) (fun i el eY h1 h2=>by
   rw [Wz,Vv] at h2
   obtain⟨j,hj,rfl⟩:=h2
   obtain⟨Ig,Cd⟩:=VB.1 hj
   rw [List.getElem_range] at Cd
   subst Cd
   exact (nr i el h1).1)
  rwa [MA] at this
 ·obtain⟨i,hi⟩:=Wm hy
  exact (nr i y hi).2.1
 ·rw [←MA] at hv
  obtain⟨l,Uo,Gr⟩:=List.mem_flatten.1 hv
  obtain⟨i,hi,rfl⟩:=V8.1 Uo
  have hi:i<n:=WJ.1 hi
  obtain⟨el,Cf⟩:∃el,els[i]? = some el:=⟨_,Vz (by omega)⟩
  exact (nr i el Cf).2.2 v Gr
theorem trod_slice (qh:∀id,c.h.get id=none){G:List AV→Prop}{t e:TypeId}{fuel:Nat}{cs:List Value}{d:DataW H}{ps:List MemPlace}(hu:P.underlying t=some (.slice e))
  (hE:∀fuel cs d ps,DataW.trod enc P c.w 0 sp held fuel e cs=some (d,ps)→∃xs,VRs c none0 xs cs∧G xs∧∀v∈cs,v.oneCell'=true)
  (h:DataW.trod enc P c.w 0 sp held fuel t cs=some (d,ps)):∃xs,VRs c none0 xs cs∧(xs=[.nils]∨∃els:List (List AV),xs=[.fz els.flatten els.length false]∧els.length≤maxLen∧∀el∈els,G el):=by
 have hnl:∀id,¬Live c.h id:=fun id hl=>by have:=hl.2; rw [qh id] at this; cases this
 cases fuel with
 | zero=>simp [DataW.trod] at h
 | succ fuel=>
 unfold DataW.trod at h
 rw [hu] at h
 split at h<;>first | (rename_i heq; cases heq; done) | skip
 all_goals try (rename_i heq _; cases heq; done)
 ·exact⟨[.nils],⟨by simp [VR],trivial⟩,.inl rfl⟩
 ·rename_i e' a len cap heq
  cases heq
  simp only at h
  split at h
  rotate_left
  ·cases h
  rename_i hbound
  obtain⟨_,hlc,hcap⟩:=hbound
  rw [Vt] at h
  obtain⟨elems,Cf,_⟩:=h
  obtain⟨hn,hget⟩:=mapM_some Cf
  have key:∀i,i<len→∃el:List AV,el.length=P.cellsOf e∧G el∧Cells c none0 el a.block (a.off+i*P.cellsOf e)∧(i=0→0<P.cellsOf e→a.spot=none):=by
   intro i hi
   obtain⟨y,_,hy⟩:=hget i i (by simp [hi])
   rw [Vt] at hy
   obtain⟨NX,hcs,hy⟩:=hy
   obtain⟨hl,kM⟩:=qC hcs
   obtain⟨el,hv,hf,h1⟩:=hE fuel NX y.1 y.2 hy
   refine⟨el,by rw [hv.length,hl],hf,Cells.of_vals hv (fun j hj=>?_) h1,fun h0 lV=>?_⟩
   ·have:=(kM j (by omega)).1
    rwa [(jD a _).1,(jD a _).2] at this
   ·subst h0
    have:=(kM 0 lV).2 rfl
    simpa [Addr.add] using this
  obtain⟨els,hl,nr⟩:=kc len key
  refine⟨[.fz els.flatten els.length false],⟨?_,trivial⟩,.inr ⟨els,rfl,by omega,fun el Cf=>?_⟩⟩
  ·simp only [VR]
   refine⟨some a,cap,by rw [hl],by omega,by simp,.inl rfl,?_⟩
   by_cases y8:els.flatten=[]
   ·exact .inl y8
   ·have lV:0<len∧0<P.cellsOf e:=by
     cases els with
     | nil=>simp at y8
     | cons el els=>
      refine⟨by simp at hl; omega,?_⟩
      rcases Nat.eq_zero_or_pos (P.cellsOf e) with h0 | h0
      ·exfalso
       apply y8
       rw [List.flatten_eq_nil_iff]
       intro l nz
       obtain⟨i,hi⟩:=Wm nz
       have:=(nr i l hi).1
       exact VZ (by omega)
      ·exact h0
    have xa:a.spot=none:=by
     cases els with
     | nil=>simp at hl; omega
     | cons el els=>exact (nr 0 el rfl).2.2.2 rfl lV.2
    refine .inr ⟨a.block,a.off,?_,⟨fun id hl=>absurd hl (hnl id),fun h=>h.elim⟩,by simp,Cells.flatten els a.off fun i el hi=>⟨(nr i el hi).1,(nr i el hi).2.2.1⟩⟩
    cases a; simp at xa; subst xa; rfl
  ·obtain⟨i,hi⟩:=Wm Cf
   exact (nr i el hi).2.1
 ·cases h
theorem yn {G:List (List AV)→Prop}:∀(els:List (List AV)),(∀el∈els,∃ys:List (List AV),el=ys.flatten∧G ys)→∃KE:List (List (List AV)),els=KE.map List.flatten∧∀ys∈KE,G ys
 | [],_=>⟨[],rfl,fun _ h=>by cases h⟩
 | el::els,h=>by
  obtain⟨ys,h1,h2⟩:=h el (by simp)
  obtain⟨KE,h3,h4⟩:=yn els fun e he=>h e (by simp [he])
  exact⟨ys::KE,by rw [VX,←h1,←h3],fun z hz=>(VT.1 hz).elim (fun e=>e ▸ h2) (fun e=>h4 z e)⟩
theorem C5 (qh:∀id,c.h.get id=none){m:Nat}{t:TypeId}{v:Value}{d:DataW H}{ps:List MemPlace}{base:Nat}(hB:wj P m t)(ho:Value.okWide P c.w .any base t v)(h:DataW.Trod enc P c.w 0 sp held t v d ps) :
  ∃xs,lS P m t xs∧VR c none0 (gi P t xs) v:=by
 rcases hB with hB | ⟨e,n,u,hA⟩
 ·obtain⟨xs,h1,h2⟩:=DV qh hB ho h
  exact⟨xs,.inl h1,h2⟩
 ·obtain⟨hu,he,hf,hcl⟩:=hA
  obtain⟨fuel,h⟩:=h
  obtain⟨xs,h1,h2⟩:=trod_slice (c:=c) (G:=fun xs=>∃ys:List (List AV),xs=ys.flatten∧ys.length=n∧∀y∈ys,y.length=P.cellsOf u∧Fits P m u y) qh hu (fun fuel cs d ps h=>by
   obtain⟨els,h1,h2,h3⟩:=zO qh he hf hcl h
   exact⟨_,h1,⟨els,rfl,h2⟩,h3⟩) h
  have hx:gi P t xs=xs.headD .any:=by
   unfold gi
   rw [hu]
  have hc:v.cells.toList=[v]:=by
   unfold Value.okWide at ho
   rw [hu] at ho
   simp only at ho
   cases v<;>simp only [Cell.okWide,Cell.ok,hu] at ho<;>first | (exact ho.elim) | rfl | (simp [Value.cells])
  rw [hc] at h1
  refine⟨xs,.inr ⟨e,n,u,⟨hu,he,hf,hcl⟩,?_⟩,?_⟩
  ·rcases h2 with rfl | ⟨els,rfl,h3,h4⟩
   ·exact .inl rfl
   ·obtain⟨KE,rfl,h6⟩:=yn els h4
    exact .inr ⟨KE,by rw [VL],by rwa [VL] at h3,h6⟩
  ·rw [hx]
   cases xs with
   | nil=>exact h1.elim
   | cons x xs=>exact h1.1
theorem uL (qh:∀id,c.h.get id=none){m base:Nat}:∀(ts:List TypeId) (vs:List Value) (ds:List (DataW H)) (ps:List MemPlace),(∀t∈ts,wj P m t)→(∀(j:Nat) t v,ts[j]? = some t→vs[j]? = some v→Value.okWide P c.w .any base t v)→
  DataW.TrodAll enc P c.w 0 sp held ts vs ds ps→∃wk,mX P m ts wk∧VRs c none0 wk vs
 | [],[],[],_,_,_,_=>⟨[],trivial,trivial⟩
 | t::ts,v::vs,d::ds,ps,hB,ho,h=>by
  obtain⟨p,q,h1,h2,_⟩:=h
  obtain⟨xs,h3,h4⟩:=C5 qh (hB t (by simp)) (ho 0 t v rfl rfl) h1
  obtain⟨wk,h5,h6⟩:=uL qh ts vs ds q (fun t ht=>hB t (by simp [ht])) (fun j t v hj hv=>ho (j+1) t v (by simpa using hj) (by simpa using hv)) h2
  exact⟨gi P t xs::wk,⟨⟨xs,rfl,h3⟩,h5⟩,h4,h6⟩
 | [],[],_::_,_,_,_,h=>h.elim
 | [],_::_,_,_,_,_,h=>by cases h
 | _::_,[],_,_,_,_,h=>by cases h
 | _::_,_::_,[],_,_,_,h=>by cases h
theorem tl {cf:CallF}{yX:FuncId}{f:Func}{s:ChangeSpec}{apart fresh handsOn again:Bool}{m:Nat}{tb:TypeId}
  (hl:laidOutB P=true) (hr:∀t∈f.params.toList,P.readableRec t=true∧t<P.types.size) (hB:∀t∈f.params.toList,wj P m t) (hv:s.vars=[]) (DW:f.resultTypes = #[tb]) (MR:P.underlying tb=some .bool)
  (Lt:∀ds:List (DataW H),ds.length=f.params.size→(s.fn H ds)={results:=[.lit (.bool true)],args:=ds})
  (hcf:∀wk,mX P m f.params.toList wk→∃cf h',CallOK P cf∧cf yX wk bu=some (.bool true,h'))
  {W:World} {base:Nat} {args:Array Value} {ds gs:List (DataW H)} {before:List MemPlace} (dO:∀(j:Nat) t v,f.params[j]? = some t→args[j]? = some v→Value.okWide P W .any base t v)
  (hW:DataW.Whole enc P f.params.toList s.vars apart W args.toList ds gs before) :
  Calls P yX args W fun e W'=>∃v,e = .returned v∧s.post enc P f apart fresh handsOn again W args v W':=by
 have hW0:=hW
 obtain⟨p,q,hA,hV,QH,_,_⟩:=hW
 let c:Cx:=⟨fun _=>(0,0),bu,W,W.heap.size⟩
 obtain⟨wk,h1,h2⟩:=uL (c:=c) (P:=P) (m:=m) (base:=base) (fun _=>rfl) f.params.toList args.toList ds p hB (fun j t v hj hv=>dO j t v (by simpa using hj) (by simpa using hv)) hA
 obtain⟨cf,h',od,Qi⟩:=hcf wk h1
 have hnl:∀id,¬Live c.h id:=fun id hl=>by have:=hl.2; cases this
 have hcall:=(od yX wk bu _ _ Qi).2 none0 c args.toList rfl (Vy _) ⟨fun id o ho=>(by cases ho),fun id o ho=>(by cases ho),fun id _ hl _ _=>absurd hl (hnl id),fun id hl=>absurd hl (hnl id),fun b hb=>hb.elim,fun id hl=>absurd hl (hnl id),fun _=>WY⟩ h2
 rw [Array.toArray_toList] at hcall
 have hlen:∀(ts:List TypeId) (vs:List Value) (ds:List (DataW H)) (p:List MemPlace),DataW.TrodAll enc P W 0 (fun _=>true) true ts vs ds p→ds.length=ts.length:=by
  intro ts
  induction ts with
  | nil=>intro vs ds p h; cases vs<;>cases ds<;>first | rfl | (cases h; done) | exact h.elim
  | cons t ts ih=>intro vs ds p h; cases vs<;>cases ds<;>first | (cases h; done) | (obtain⟨_,_,_,h2,_⟩:=h; simp [ih _ _ _ h2])
 have N0:gs=[]:=by
  rw [hv] at hV
  cases gs with
  | nil=>rfl
  | cons g gs=>exact hV.elim
 refine hcall.mono ?_
 rintro e w' ⟨c',v,rfl,rfl,hh,zT,hrel,IG⟩
 simp only [VR] at zT
 subst zT
 refine⟨_,rfl,Ch hl hr hW0 hv DW MR ?_ IG.below⟩
 rw [N0,WN]
 exact Lt ds (by rw [hlen _ _ _ _ hA]; simp)
end
end Go.R
namespace Go.Proofs.Ytifafejidnjckaa
open Go Go.R
open Go.IntKind (i64 u64 u8 u32)
theorem HF {m:Nat}{xs:List AV}(h:lS Try.prog m 22 xs):Fits Try.prog m 22 xs:=by
 rcases h with h | ⟨e,n,u,⟨h1,h2,_⟩,_⟩
 ·exact h
 ·rw [Try.underlying22] at h1
  cases h1
  rw [Try.underlying44] at h2
  cases h2
theorem HG {m:Nat}{xs:List AV}(h:lS Try.prog m 24 xs):Fits Try.prog m 24 xs:=by
 rcases h with h | ⟨e,n,u,⟨h1,h2,_⟩,_⟩
 ·exact h
 ·rw [Try.underlying24] at h1
  cases h1
  rw [Try.underlying5] at h2
  cases h2
theorem HH {m:Nat}{xs:List AV}(h:lS Try.prog m 25 xs):Fits Try.prog m 25 xs:=by
 rcases h with h | ⟨e,n,u,⟨h1,h2,_⟩,_⟩
 ·exact h
 ·rw [Try.underlying25] at h1
  cases h1
  rw [Try.underlying4] at h2
  cases h2
theorem F3 {n:Nat}{xs:List AV}(h:Fits Try.prog (n+1) 5 xs):∃z:Int,xs=[.int .u8 z]∧0≤z∧z≤255:=by
 unfold Fits at h
 rw [Try.underlying5] at h
 obtain⟨z,rfl,h1,h2⟩:=h
 exact⟨z,rfl,h1,h2⟩
theorem C6 {n:Nat}{xs:List AV}(h:lS Try.prog (n+2) 24 xs):∃l:List Int,l.length<2 ^ 63∧(∀x∈l,0≤x∧x≤255)∧∀hp,jR 10 hp (gi Try.prog 24 xs) (mB.fz l):=by
 obtain⟨x,l,rfl,hx,hb⟩:=p6 (E:=mB) (Pr:=fun z=>0≤z∧z≤255) Try.underlying24 (HG h) fun el h=>by
  obtain⟨z,rfl,hz⟩:=F3 h
  exact⟨z,⟨rfl,rfl⟩,hz⟩
 have e1:gi Try.prog 24 [x]=x:=by unfold gi; rw [Try.underlying24]; rfl
 rw [e1]
 exact⟨l,Nat.lt_of_le_of_lt hx.2.2.2 p7,hb,fun hp=>(hx.fr hp).mono (by decide)⟩
theorem C7 {n:Nat}{xs:List AV}(h:lS Try.prog (n+2) 25 xs):∃l:List Bool,l.length<2 ^ 63∧∀hp,jR 10 hp (gi Try.prog 25 xs) (mC.fz l):=by
 obtain⟨x,l,rfl,hx,hb⟩:=p6 (E:=mC) (Pr:=fun _=>True) Try.underlying25 (HH h) fun el h=>by
  obtain⟨z,rfl⟩:=FW h
  exact⟨z,⟨rfl,rfl⟩,trivial⟩
 have e1:gi Try.prog 25 [x]=x:=by unfold gi; rw [Try.underlying25]; rfl
 rw [e1]
 exact⟨l,Nat.lt_of_le_of_lt hx.2.2.2 p7,fun hp=>(hx.fr hp).mono (by decide)⟩
theorem C8 {n:Nat}{xs:List AV}(h:lS Try.prog (n+2) 23 xs):∃l:List ko,∀hp,jR 10 hp (gi Try.prog 23 xs) (kA.fz l):=by
 have key:∃x l,xs=[x]∧wi kA x l:=by
  rcases h with h | ⟨e,n',u,⟨h1,h2,_,_⟩,h⟩
  ·obtain⟨x,l,e,h,_⟩:=p6 (E:=kA) (Pr:=fun _=>True) Try.underlying23 h fun el h=>by
    unfold Fits at h
    rw [Try.underlying31] at h
    exact h.elim
   exact⟨x,l,e,h⟩
  ·rw [Try.underlying23] at h1
   cases h1
   rw [Try.underlying31] at h2
   cases h2
   rcases h with rfl | ⟨els,rfl,hl,h⟩
   ·exact⟨_,[],rfl,rfl,rfl,.inl rfl,Wk _⟩
   ·obtain⟨l,⟨h2,h3⟩,h4,_⟩:=tk (E:=kA) (Pr:=fun _=>True) (els:=els.map List.flatten) fun el Cf=>by
     obtain⟨ys,KI,rfl⟩:=V8.1 Cf
     obtain⟨hn,hf⟩:=h ys KI
     match ys,hn with
     | [a,b],_=>
      obtain⟨z1,rfl⟩:=lN (hf a (by simp)).2
      obtain⟨z2,rfl⟩:=lN (hf b (by simp)).2
      exact⟨⟨z1,z2⟩,⟨rfl,rfl⟩,trivial⟩
    rw [VL] at h4
    refine⟨_,l,rfl,by simpa [AV.dS] using h2,?_,.inr ⟨_,_,_,rfl⟩,by omega⟩
    show AV.fz (dn (els.map List.flatten).flatten) els.length false=_
    rw [h3,←h4]; rfl
 obtain⟨x,l,rfl,hx⟩:=key
 have e1:gi Try.prog 23 [x]=x:=by unfold gi; rw [Try.underlying23]; rfl
 rw [e1]
 exact⟨l,fun hp=>(hx.fr hp).mono (by decide)⟩
theorem zP {P:Program}{m:Nat}{t u v w:TypeId}{wk:List AV}(h:mX P m [t,u,v,w] wk):∃xs ys zs ws,wk=[gi P t xs,gi P u ys,gi P v zs,gi P w ws]∧lS P m t xs∧lS P m u ys∧lS P m v zs∧lS P m w ws:=by
 match wk,h with
 | [_,_,_,_],⟨⟨xs,h1,f1⟩,⟨ys,h2,f2⟩,⟨zs,h3,f3⟩,⟨ws,h4,f4⟩,_⟩=>exact⟨xs,ys,zs,ws,by rw [h1,h2,h3,h4],f1,f2,f3,f4⟩
end Go.Proofs.Ytifafejidnjckaa
namespace Go.R
open Go
def Iq:AHeap:={get:=fun _=>none,ver:=fun _=>0,next:=2}
section
variable {P:Program}
theorem alone {cf:CallF}(hcf:CallOK P cf){f:FuncId}{us:List AV}{h0:AHeap}{r1:AV}{h1:AHeap}(hx:cf f us h0=some (r1,h1))(hg:∀id,h0.get id=none)(IA:∀id,h0.ver id<h0.next)
  {L0:Nat→Prop} {c:Cx} {vs:List Value} (hb0:c.base≤c.w.heap.size) (hrel:HRel c L0) (sf:VRs ⟨fun _=>(0,0),h0,c.w,c.w.heap.size⟩ L0 us vs) {r:AV} (hr:∀(c1 d:Cx) (v:Value),VR c1 L0 r1 v→VR d L0 r v) :
  Calls P f vs.toArray c.w fun e w'=>∃c' v,e = .returned v∧c'.w=w'∧c'.h=c.h∧VR c' L0 r v∧HRel c' L0∧Ext c none0 c' none0:=by
 obtain⟨hin,hcall⟩:=hcf f us h0 r1 h1 hx
 let c0:Cx:=⟨fun _=>(0,0),h0,c.w,c.w.heap.size⟩
 have hnl:∀id,¬Live c0.h id:=fun id hl=>by have:=hl.2; rw [show c0.h.get id=none from hg id] at this; cases this
 have qh:∀id o,¬c0.h.get id=some o:=fun id o ho=>by rw [show c0.h.get id=none from hg id] at ho; cases ho
 have se:HRel c0 L0:=⟨fun id o ho=>absurd ho (qh id o),fun id o ho=>absurd ho (qh id o),fun id _ hl _ _=>absurd hl (hnl id),fun id hl=>absurd hl (hnl id),hrel.bd,fun id hl=>absurd hl (hnl id),IA⟩
 refine (hcall L0 c0 vs rfl (Vy _) se sf).mono ?_
 rintro e w' ⟨c1,v,rfl,rfl,Kr,hv,hrel1,e1⟩
 let d:Cx:=⟨c.β,c.h,c1.w,c.base⟩
 have hk:∀b,b<c.w.heap.size→c1.w.heap[b]? = c.w.heap[b]?:=fun b hb=>e1.exact b hb
 have ed:Ext c none0 d none0:=⟨Vy _,fun id _ hl=>⟨hl,rfl,gY.len (c:=c) (c':=d) (.inl (hk _ (hrel.block hl)))⟩,e1.size,fun b hb _ _=>.inl (hk b hb),fun b hb=>hk b (VW hb hb0),rfl,fun id hl=>.inr ⟨id,hl,rfl⟩,fun _ h=>h,fun _ h=>.inl h,e1.os,e1.tape,e1.output⟩
 refine⟨d,v,rfl,rfl,rfl,hr c1 d v hv,⟨hrel.lt,fun id o ho=>?_,hrel.inj,hrel.out,fun b hb=>VW (hrel.bd b hb) e1.size,hrel.low,hrel.ver⟩,ed⟩
 have hl:Live c.h id:=⟨hrel.lt _ _ ho,by rw [ho]; rfl⟩
 have:=(hrel.obj id o ho)
 have h2:=ow.ext (L0:=L0) ed (b:=(c.β id).1) (base:=(c.β id).2) (o:=o) (by rw [hJ]; exact this) (hk _ (hrel.block hl))
 rw [hJ] at h2
 exact h2
def Kc (P:Program)(t:TypeId)(z:Nat):Bool:=
 match P.underlying t with
 | some (.slice e)=>match P.info? e with
  | some i=>Wa i.size z&&WX i.bytes 1000&&HO i
  | none=>false
 | _=>false
theorem yo {t:TypeId}{z:Nat}(T:Kc P t z=true)(hz:z≠0){h:AHeap}{x:AV}{n:Nat}{cs:List AV}(hn:n≠0)(hb:n*1024≤1099511627776)(hx:eJ h z x=some (cs,n))(hs:iD P t x=true):dA P h t t (.fz [] 0 true) x=some (.rs h.next 0 n z,h.alloc (.cells cs)):=by
 unfold Kc at T
 split at T
 rotate_left
 ·cases T
 rename_i e he
 split at T
 rotate_left
 ·cases T
 rename_i i hi
 simp only [Vx] at T
 obtain⟨⟨h1,h2⟩,h3⟩:=T
 have h1:=WB h1
 have h2:=Nat.le_of_ble_eq_true h2
 subst h1
 have hq:n*i.bytes≤n*1000:=Nat.mul_le_mul_left n h2
 simp only [dA,he,Vu,hi,hx]
 rw [if_neg (by simp [hz,hs,h3]),if_neg (by simp only [gx,VU,VS]; omega),if_neg hn]
 simp
theorem uM {z:Nat}:∀args h r h',yw z args h=some (r,h')→Steady h h':=by
 intro args h r h' hs
 unfold yw at hs
 split at hs
 ·cases hs; exact Steady.refl _
 ·split at hs
  ·cases hs; exact Steady.refl _
  ·split at hs
   ·cases hs; exact Steady.put _ _ _
   ·cases hs
 ·split at hs
  ·cases hs; exact Steady.refl _
  ·rw [Vt] at hs
   obtain⟨ob,_,hs⟩:=hs
   split at hs
   ·split at hs
    ·cases hs; exact Steady.put _ _ _
    ·cases hs
   ·cases hs
 ·cases hs
theorem Ir {cf:CallF}(hcf:CallOK P cf){F:FuncId}{t:TypeId}{z:Nat}(T:Kc P t z=true)(hz:z≠0)
  (h0:cf F [.nils] bu=some (.nils,bu)) (h1:cf F [.rs 1 0 0 z] Iq=some (.rs 0 0 0 z,Iq))
  (h2:∀(c:AV) (cs:List AV) (n:Nat) (ex:Bool) (h:AHeap) (i k w:Nat) (h':AHeap),dA P h t t (.fz [] 0 true) (.fz (c::cs) n ex)=some (.rs i 0 k w,h')→cf F [.fz (c::cs) n ex] h=some (.rs i 0 k w,h'))
  (h3:∀(j n q:Nat) (h:AHeap) (i k w:Nat) (h':AHeap),dA P h t t (.fz [] 0 true) (.rs (j+1) 0 n q)=some (.rs i 0 k w,h')→cf F [.rs (j+1) 0 n q] h=some (.rs i 0 k w,h'))
  (gB:∀x,(∀st,x≠.str st)→iD P t x=true) :
  CallOK P fun f' args h=>if f'=F then yw z args h else none:=by
 intro f args h r h' hc
 dsimp only at hc
 split at hc
 rotate_left
 ·cases hc
 rename_i hf
 subst hf
 refine⟨(hcf f _ _ _ _ h0).1,fun L0 c vs hh hb0 hrel hargs=>?_⟩
 have empty:∀(v:Value),(∃a cap,v = .slice a 0 cap∧(a=none→cap=0))→Calls P f #[v] c.w fun e w'=>∃c' v,e = .returned v∧c'.w=w'∧c'.h=c.h∧VR c' L0 (.rs 0 0 0 z) v∧HRel c' L0∧Ext c none0 c' none0:=by
  rintro v ⟨a,cap,rfl,ha⟩
  cases a with
  | none=>
   have:=ha rfl
   subst this
   refine alone (vs:=[.slice none 0 0]) hcf h0 (fun _=>rfl) (fun _=>WY) hb0 hrel ⟨rfl,trivial⟩ (fun c1 d v hv=>?_)
   simp only [VR] at hv ⊢
   exact .inl ⟨trivial,trivial,trivial,none,hv⟩
  | some ad=>
   refine alone (vs:=[.slice (some ad) 0 cap]) hcf h1 (fun _=>rfl) (fun _=>Nat.zero_lt_succ 1) hb0 hrel ⟨?_,trivial⟩ (fun c1 d v hv=>?_)
   ·simp only [VR]
    exact .inr ⟨by decide,by decide,some ad,cap,rfl,Wk _,rfl,fun hl=>by have:=hl.2; cases this⟩
   ·simp only [VR] at hv ⊢
    rcases hv with hv | hv
    ·exact .inl hv
    ·exact absurd rfl hv.1
 match args,vs,hargs with
 | [],_,_=>simp [yw] at hc
 | x::y::l,_,_=>cases x<;>simp [yw] at hc
 | [x],[v],hargs=>
  have hx:VR c L0 x v:=hargs.1
  cases x<;>simp only [yw] at hc<;>try (cases hc; done)
  ·cases hc
   simp only [VR] at hx
   rw [←hh]
   exact empty v ⟨none,0,hx,fun _=>rfl⟩
  ·rename_i cs n ex
   split at hc
   ·rename_i hn
    cases hc
    subst hn
    simp only [VR] at hx
    obtain⟨a,cap,e,_,_,hs,_⟩:=hx
    rw [←hh]
    refine empty v ⟨a,cap,e,fun ha=>?_⟩
    rcases hs with hs | hs
    ·rw [ha] at hs; cases hs
    ·exact hs.2
   ·rename_i hn
    split at hc
    rotate_left
    ·cases hc
    rename_i hq
    cases hc
    cases cs with
    | nil=>
     have h4:0=n*z:=hq.1
     rcases Nat.mul_eq_zero.1 h4.symm with h5 | h5
     ·exact absurd h5 hn
     ·exact absurd h5 hz
    | cons c1 cs=>
     have Iz:eJ h z (.fz (c1::cs) n ex)=some ((c1::cs).map jo,n):=by
      simp only [eJ,dT]; rw [if_pos hq.1]; rfl
     have:=h2 c1 cs n ex h _ _ _ _ (yo T hz hn hq.2 Iz (gB _ (by rintro st h; cases h)))
     exact (hcf _ _ _ _ _ this).2 L0 c [v] hh hb0 hrel ⟨hx,trivial⟩
  ·rename_i id off n q
   cases off with
   | succ off=>simp [yw] at hc
   | zero=>
   simp only [yw] at hc
   split at hc
   ·rename_i hn
    cases hc
    subst hn
    simp only [VR] at hx
    rw [←hh]
    rcases hx with⟨_,_,_,a,e⟩| ⟨_,_,a,cap,e,_,hs,_⟩
    ·exact empty v ⟨a,0,e,fun _=>rfl⟩
    ·refine empty v ⟨a,cap,e,fun ha=>?_⟩
     rw [ha] at hs; cases hs
   ·rename_i hn
    rw [Vt] at hc
    obtain⟨ob,ho,hc⟩:=hc
    split at hc
    rotate_left
    ·cases hc
    rename_i cs
    split at hc
    rotate_left
    ·cases hc
    rename_i hq
    cases hc
    have hid:id≠0:=by
     simp only [VR] at hx
     rcases hx with hx | hx
     ·exact absurd hx.2.2.1 hn
     ·exact hx.1
    obtain⟨j,rfl⟩:∃j,id=j+1:=⟨id - 1,by omega⟩
    have Iz:eJ h z (.rs (j+1) 0 n q)=some ((cs.take (n*z)).map jo,n):=by
     simp only [eJ,dT]
     rw [if_neg (fun hz=>hz.elim hid fun hz=>hn hz.1),ho]
     simp only [Vu]
     rw [if_pos ⟨hq.1,by omega⟩,Wd]; rfl
    have:=h3 j n q h _ _ _ _ (yo T hz hn hq.2.2 Iz (gB _ (by rintro st h; cases h)))
    exact (hcf _ _ _ _ _ this).2 L0 c [v] hh hb0 hrel ⟨hx,trivial⟩
 | [x],[],hargs=>exact hargs.elim
 | [x],_::_::_,hargs=>exact hargs.2.elim
end
end Go.R
namespace Go.Proofs.Ytifafejidnjckaa
open Go Go.R Go.Shelf
open Go.IntKind (i64 u64 u8 u32)
theorem fits:Fit Try.prog:=IW (by kernel_rfl) (by kernel_rfl)
def Kd:Ren:={f:=(fun x=>match x with | 189=>60 | 125=>77 | 257=>76 | 128=>95 | 129=>96 | 294=>86 | 295=>87 | 296=>88 | 297=>89 | 298=>90 | 299=>91 | 216=>92 | 300=>93 | 301=>94 | 328=>100 | 329=>101 | 330=>102 | 331=>103 | 332=>104 | 215=>97 | 343=>107 | n=>n),t:=(fun x=>match x with | 28=>33 | 3=>3 | 46=>108 | 0=>0 | 51=>126 | 53=>128 | 4=>4 | 183=>119 | 182=>118 | 131=>103 | 5=>5 | 9=>9 | 218=>130 | 222=>134 | 228=>138 | 229=>139 | n=>n),g:=(fun n=>n)}
theorem MB:Lays.n189 Try.prog Kd:={
 mixed:=by kernel_rfl,
 f125:=Try.func77.trans (congrArg some (by kernel_rfl)),
 f128:=Try.func95.trans (congrArg some (by kernel_rfl)),
 f129:=Try.func96.trans (congrArg some (by kernel_rfl)),
 f189:=Try.func60.trans (congrArg some (by kernel_rfl)),
 f215:=Try.func97.trans (congrArg some (by kernel_rfl)),
 f216:=Try.func92.trans (congrArg some (by kernel_rfl)),
 f257:=Try.func76.trans (congrArg some (by kernel_rfl)),
 f294:=Try.func86.trans (congrArg some (by kernel_rfl)),
 f295:=Try.func87.trans (congrArg some (by kernel_rfl)),
 f296:=Try.func88.trans (congrArg some (by kernel_rfl)),
 f297:=Try.func89.trans (congrArg some (by kernel_rfl)),
 f298:=Try.func90.trans (congrArg some (by kernel_rfl)),
 f299:=Try.func91.trans (congrArg some (by kernel_rfl)),
 f300:=Try.func93.trans (congrArg some (by kernel_rfl)),
 f301:=Try.func94.trans (congrArg some (by kernel_rfl)),
 f328:=Try.func100.trans (congrArg some (by kernel_rfl)),
 f329:=Try.func101.trans (congrArg some (by kernel_rfl)),
 f330:=Try.func102.trans (congrArg some (by kernel_rfl)),
 f331:=Try.func103.trans (congrArg some (by kernel_rfl)),
 f332:=Try.func104.trans (congrArg some (by kernel_rfl)),
 f343:=Try.func107.trans (congrArg some (by kernel_rfl)),
 t0:=Try.underlying0,
 a0:=Try.isAgg0,
 z0:=Try.sizeOf0,
 v0:=Try.zeroValue0,
 t3:=Try.underlying3,
 a3:=Try.isAgg3,
 z3:=Try.sizeOf3,
 v3:=Try.zeroValue3,
 t4:=Try.underlying4,
 a4:=Try.isAgg4,
 z4:=Try.sizeOf4,
 v4:=Try.zeroValue4,
 t5:=Try.underlying5,
 a5:=Try.isAgg5,
 z5:=Try.sizeOf5,
 v5:=Try.zeroValue5,
 t9:=Try.underlying9,
 a9:=Try.isAgg9,
 z9:=Try.sizeOf9,
 v9:=Try.zeroValue9,
 t28:=Try.underlying33,
 a28:=Try.isAgg33,
 z28:=Try.sizeOf33,
 v28:=Try.zeroValue33,
 t46:=Try.underlying108,
 a46:=Try.isAgg108,
 z46:=Try.sizeOf108,
 v46:=Try.zeroValue108,
 t51:=Try.underlying126,
 a51:=Try.isAgg126,
 z51:=Try.sizeOf126,
 v51:=Try.zeroValue126,
 t53:=Try.underlying128,
 a53:=Try.isAgg128,
 z53:=Try.sizeOf128,
 v53:=Try.zeroValue128,
 t131:=Try.underlying103,
 a131:=Try.isAgg103,
 z131:=Try.sizeOf103,
 v131:=Try.zeroValue103,
 t182:=Try.underlying118,
 a182:=Try.isAgg118,
 z182:=Try.sizeOf118,
 v182:=Try.zeroValue118,
 t183:=Try.underlying119,
 a183:=Try.isAgg119,
 z183:=Try.sizeOf119,
 v183:=Try.zeroValue119,
 t218:=Try.underlying130,
 a218:=Try.isAgg130,
 z218:=Try.sizeOf130,
 v218:=Try.zeroValue130,
 t222:=Try.underlying134,
 a222:=Try.isAgg134,
 z222:=Try.sizeOf134,
 v222:=Try.zeroValue134,
 t228:=Try.underlying138,
 a228:=Try.isAgg138,
 z228:=Try.sizeOf138,
 v228:=Try.zeroValue138,
 t229:=Try.underlying139,
 a229:=Try.isAgg139,
 z229:=Try.sizeOf139,
 v229:=Try.zeroValue139}
theorem Ke:∀(vs:Array Value) (w:World),(callFunc (Kd.f 189) vs).run Try.prog w = .ok (.enter (Kd.f 189) vs) w:=
 mu (c:=b7 Try.f60) Try.func60 (by kernel_rfl) (by decide +kernel)
def p8:b5:=gX [0,2,4] [] [] [] []
def nJ:ny:={aV:=fun _=>p8,intr:=fun _=>none,pure:=fun _=>none}
noncomputable def MC:CallF:=aZ Try.prog nJ.aV (eH Try.prog nJ 10 0) 10
theorem F4:CallOK Try.prog MC:=wW fits (oM fits nc 10 0) (w7 fits.mixed (oM fits nc 10 0) (lq nc 10 0)) 10
theorem HI (c:AV)(cs:List AV)(n:Nat)(ex:Bool)(h:AHeap)(i k w:Nat)(h':AHeap)(e:dA Try.prog h 40 40 (.fz [] 0 true) (.fz (c::cs) n ex)=some (.rs i 0 k w,h')):MC 38 [.fz (c::cs) n ex] h=some (.rs i 0 k w,h'):=by
 have key:∃r h2,aZ Try.prog nJ.aV (eH Try.prog nJ 10 0) 10 38 [.fz (c::cs) n ex] h=some (r,h2)∧r = .rs i 0 k w∧h2=h':=by
  refine ar (fn:=Try.f38) (A:=p8) rfl Try.func38 (by kernel_rfl) (by kernel_rfl) ?_
  refine aH (Q:=fun s=>aM Try.prog (s.open p8) Try.f38.results.toList=some (.rs i 0 k w)∧s.h=h') (fun _ _ ⟨h1,h2,h3⟩=>⟨h1,_,h2,rfl,h3⟩) ?_
  show dp _ _ p8 _ _ ⟨[.fz (c::cs) n ex,.any,.any],[],h⟩ _
  refine q1 <| qq <| q1 <| Ek <| qk <| qs [.a 2 e] <| qt <| ⟨.inl rfl,by kernel_rfl,by kernel_rfl⟩
 obtain⟨r,h2,hb,rfl,rfl⟩:=key
 exact hb
theorem HJ (j n q:Nat)(h:AHeap)(i k w:Nat)(h':AHeap)(e:dA Try.prog h 40 40 (.fz [] 0 true) (.rs (j+1) 0 n q)=some (.rs i 0 k w,h')):MC 38 [.rs (j+1) 0 n q] h=some (.rs i 0 k w,h'):=by
 have key:∃r h2,aZ Try.prog nJ.aV (eH Try.prog nJ 10 0) 10 38 [.rs (j+1) 0 n q] h=some (r,h2)∧r = .rs i 0 k w∧h2=h':=by
  refine ar (fn:=Try.f38) (A:=p8) rfl Try.func38 (by kernel_rfl) (by kernel_rfl) ?_
  refine aH (Q:=fun s=>aM Try.prog (s.open p8) Try.f38.results.toList=some (.rs i 0 k w)∧s.h=h') (fun _ _ ⟨h1,h2,h3⟩=>⟨h1,_,h2,rfl,h3⟩) ?_
  show dp _ _ p8 _ _ ⟨[.rs (j+1) 0 n q,.any,.any],[],h⟩ _
  refine q1 <| qq <| q1 <| Ek <| qk <| qs [.a 2 e] <| qt <| ⟨.inl rfl,by kernel_rfl,by kernel_rfl⟩
 obtain⟨r,h2,hb,rfl,rfl⟩:=key
 exact hb
theorem MD:∀x,(∀st,x≠.str st)→iD Try.prog 40 x=true:=by
 intro x hx
 cases x<;>first | exact absurd rfl (hx _) | kernel_rfl
theorem HK:CallOK Try.prog fun f args h=>if f=38 then yw 4 args h else none:=
 Ir F4 (F:=38) (t:=40) (z:=4) (by kernel_rfl) (by decide) (by kernel_rfl) (by kernel_rfl) HI HJ MD
theorem HL (c:AV)(cs:List AV)(n:Nat)(ex:Bool)(h:AHeap)(i k w:Nat)(h':AHeap)(e:dA Try.prog h 33 33 (.fz [] 0 true) (.fz (c::cs) n ex)=some (.rs i 0 k w,h')):MC 39 [.fz (c::cs) n ex] h=some (.rs i 0 k w,h'):=by
 have key:∃r h2,aZ Try.prog nJ.aV (eH Try.prog nJ 10 0) 10 39 [.fz (c::cs) n ex] h=some (r,h2)∧r = .rs i 0 k w∧h2=h':=by
  refine ar (fn:=Try.f39) (A:=p8) rfl Try.func39 (by kernel_rfl) (by kernel_rfl) ?_
  refine aH (Q:=fun s=>aM Try.prog (s.open p8) Try.f39.results.toList=some (.rs i 0 k w)∧s.h=h') (fun _ _ ⟨h1,h2,h3⟩=>⟨h1,_,h2,rfl,h3⟩) ?_
  show dp _ _ p8 _ _ ⟨[.fz (c::cs) n ex,.any,.any],[],h⟩ _
  refine q1 <| qq <| q1 <| Ek <| qk <| qs [.a 2 e] <| qt <| ⟨.inl rfl,by kernel_rfl,by kernel_rfl⟩
 obtain⟨r,h2,hb,rfl,rfl⟩:=key
 exact hb
theorem HM (j n q:Nat)(h:AHeap)(i k w:Nat)(h':AHeap)(e:dA Try.prog h 33 33 (.fz [] 0 true) (.rs (j+1) 0 n q)=some (.rs i 0 k w,h')):MC 39 [.rs (j+1) 0 n q] h=some (.rs i 0 k w,h'):=by
 have key:∃r h2,aZ Try.prog nJ.aV (eH Try.prog nJ 10 0) 10 39 [.rs (j+1) 0 n q] h=some (r,h2)∧r = .rs i 0 k w∧h2=h':=by
  refine ar (fn:=Try.f39) (A:=p8) rfl Try.func39 (by kernel_rfl) (by kernel_rfl) ?_
  refine aH (Q:=fun s=>aM Try.prog (s.open p8) Try.f39.results.toList=some (.rs i 0 k w)∧s.h=h') (fun _ _ ⟨h1,h2,h3⟩=>⟨h1,_,h2,rfl,h3⟩) ?_
  show dp _ _ p8 _ _ ⟨[.rs (j+1) 0 n q,.any,.any],[],h⟩ _
  refine q1 <| qq <| q1 <| Ek <| qk <| qs [.a 2 e] <| qt <| ⟨.inl rfl,by kernel_rfl,by kernel_rfl⟩
 obtain⟨r,h2,hb,rfl,rfl⟩:=key
 exact hb
theorem ME:∀x,(∀st,x≠.str st)→iD Try.prog 33 x=true:=by
 intro x hx
 cases x<;>first | exact absurd rfl (hx _) | kernel_rfl
theorem HN:CallOK Try.prog fun f args h=>if f=39 then yw 1 args h else none:=
 Ir F4 (F:=39) (t:=33) (z:=1) (by kernel_rfl) (by decide) (by kernel_rfl) (by kernel_rfl) HL HM ME
noncomputable def Is:FuncId→Option (List AV→AHeap→Option (AV × AHeap)):=fun f=>if f=60 then some Jb else if f=38 then some (yw 4) else if f=39 then some (yw 1) else none
theorem F5:IntrOK Try.prog Is:=intr_cons (f0:=60) (LG MB Ke) CC (intr_cons (f0:=38) HK uM (intr_cons (f0:=39) HN uM nc))
end Go.Proofs.Ytifafejidnjckaa
namespace Go.Proofs.Ytifafejidnjckaa
open Go Go.R
open Go.IntKind (i64 u64 u8 u32)
def cN:Nat→b5
 | 3=>E5
 | 10=>xB
 | 11=>{keep:=[0,1,2,3,4,5,6,7,8,9,10,11,12,13,14,16,17,19,22,25],aE:=[]}
 | 12=>xR
 | 13=>xP
 | 14=>xD
 | 15=>xQ
 | 16=>Be
 | 17=>Bq
 | 18=>AO
 | 23=>Bf
 | 24=>Bg
 | 26=>Ay
 | 27=>AP
 | 28=>Bl
 | 29=>AQ
 | 30=>A0
 | 31=>uz
 | 32=>xE
 | 33=>A7
 | 34=>Bh
 | 35=>A8
 | 36=>sW
 | 37=>Az
 | 41=>xF
 | 43=>Bp
 | 44=>Bm
 | 46=>Bo
 | 47=>AA
 | 48=>AB
 | 49=>Bi
 | 50=>A9
 | 51=>AD
 | 52=>AR
 | 53=>AS
 | 54=>AE
 | 55=>AF
 | 56=>AT
 | 57=>xM
 | 58=>AU
 | 59=>AG
 | 60=>{keep:=[0,2],aE:=[]}
 | 61=>Ba
 | 62=>AH
 | 63=>AW
 | 64=>AI
 | 65=>AX
 | 66=>Bj
 | 67=>Bb
 | 70=>Bc
 | 72=>pd
 | 73=>xG
 | 74=>xN
 | 75=>xJ
 | 78=>xK
 | 79=>AK
 | 80=>AY
 | 81=>xL
 | 82=>AZ
 | 83=>Bn
 | 84=>Bd
 | 85=>AL
 | 97=>AM
 | 98=>AN
 | 99=>sV
 | 105=>pR
 | 106=>lH
 | 108=>sM
 | 109=>sK
 | _=>{keep:=[],aE:=[]}
def bf:Nat:=18014398509481984
theorem bg:ik+bR≤bf:=by decide
def MF:Nat→Option Nat
 | 3=>some bf
 | 10=>some bf
 | 11=>some bf
 | 14=>some bf
 | 15=>some bf
 | 18=>some bf
 | 24=>some bf
 | 30=>some bf
 | 33=>some bf
 | 37=>some bf
 | 41=>some bf
 | 43=>some bf
 | 44=>some bf
 | 46=>some bf
 | 48=>some bf
 | 49=>some bf
 | 50=>some bf
 | 51=>some bf
 | 52=>some bf
 | 53=>some bf
 | 54=>some bf
 | 55=>some bf
 | 58=>some bf
 | 59=>some bf
 | 61=>some bf
 | 62=>some bf
 | 63=>some bf
 | 64=>some bf
 | 65=>some bf
 | 66=>some bf
 | 67=>some bf
 | 70=>some bf
 | 72=>some bf
 | 74=>some bf
 | 75=>some bf
 | 78=>some bf
 | 79=>some bf
 | 80=>some bf
 | 81=>some bf
 | 82=>some bf
 | 84=>some bf
 | 85=>some bf
 | 97=>some bf
 | 98=>some bf
 | _=>none
def Kf:Nat→Bool
 | 33=>true
 | 43=>true
 | 46=>true
 | _=>false
def M:Nat:=18446744073709551616
noncomputable def bC:ny:={aV:=cN,intr:=Is,pure:=MF,eG:=Kf}
noncomputable def cO:CallF:=iO Try.prog bC M
theorem Kg:CallOK Try.prog cO:=Ej fits (T:=bC) F5
theorem Up:QQ cO M:=fun args h=>sy (T:=bC) rfl
theorem Uq:QP cO M:=fun args h=>sy (T:=bC) rfl
end Go.Proofs.Ytifafejidnjckaa
namespace Go.Proofs.Ytifafejidnjckaa
open Go Go.R
open Go.IntKind (i64 u64 u8 u32)
theorem C9:(aZ Try.prog cN (eH Try.prog bC M 98) M 11 [] bu).map (fun x=>x.1)=some (.bool true):=by kernel_rfl
theorem Ur:QN cO M:=by
 intro r H h xs hx
 have H:some true=some r:=H
 cases H
 obtain⟨⟨x,h'⟩,hb,e⟩:=Vv.1 C9
 dsimp only at e
 subst e
 obtain⟨l,h1,h2⟩:=jE (P:=Try.prog) cN M 11 [] bu _ _ hb
 have hb:=h2 cO fun e he=>kO.2 ⟨_,h1 e he⟩
 exact bk (T:=bC) (deep:=bf) rfl rfl rfl bg hx ⟨_,_,hb,dB (aD)⟩
end Go.Proofs.Ytifafejidnjckaa
