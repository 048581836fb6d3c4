/- Proved: StoreLeast returns true for every input; no condition. -/
import Derived.Test.YtifafejidnjckaaK12
import Derived.Test.YtifafejidnjckaaChecked
import Derived.Test.YtifafejidnjckaaRows
set_option linter.unusedVariables false
set_option linter.unusedSimpArgs false
set_option maxRecDepth 100000
open Bool renaming and_eq_true → Ux, false_eq_true → UE, not_true → Vu, not_eq_true' → VC
open Int renaming toNat_natCast → UG, natCast_nonneg → VG
open List renaming getElem?_eq_getElem → UC, length_append → UD, drop_eq_getElem_cons → UH, length_cons → UI, getElem?_append_left → UJ, append_assoc → UK, mem_of_getElem? → UM, all_eq_true → UN, getElem?_append_right → UO, getD_eq_getElem?_getD → UP, length_map → UQ, mem_cons → UT, mem_singleton → UU, length_nil → UW, map_cons → UX, mem_append → UZ, map_append → U0, getElem?_eq_none → U3, cons_append → U6, mem_map → U8, drop_zero → Vd, all_cons → Vi, mem_append_left → Vo, take_succ_eq_append_getElem → Vt, getElem?_map → Vv, length_take → Vz, getElem?_of_mem → VA, map_congr_left → VK, idxOf_lt_length_of_mem → VO, append_nil → VT, range → VX, mem_range → VY, map_nil → V0
open Nat renaming le_refl → Uy, zero_add → UR, lt_of_lt_of_le → US, beq → U5, le_trans → Vj, zero_le → Vl, eq_of_beq_eq_true → Vx, ble → VP, zero_lt_one → VS, sub_self → V3
open Option renaming bind_eq_some_iff → Ut, bind_some → Uu, map_eq_some_iff → Uv, map_some → Uz
open Option.some renaming inj → Vf
namespace Go.Proofs.Ytifafejidnjckaa
open Go Go.R
open Go.IntKind (i64 u64 u8 u32)
inductive E8 (κ:Int→Int)(A:Int→List Int):List Int→List Int→List Int→Prop
 | nil (o:List Int):E8 κ A [] o o
 | skip {v:Int} {st o o':List Int}:κ v∈o.map κ→E8 κ A st o o'→E8 κ A (v::st) o o'
 | push {v:Int} {st o o':List Int}:κ v∉o.map κ→E8 κ A (A v++st) (o++[v]) o'→E8 κ A (v::st) o o'
theorem E8.facts {κ:Int→Int}{A:Int→List Int}{n:Nat}{st o o':List Int}(h:E8 κ A st o o')(hA:∀v:Int,0≤v→v<n→∀a∈A v,0≤a∧a<n)(hst:∀v∈st,0≤v∧v<n)(ho:∀v∈o,0≤v∧v<n)(HC:(o.map κ).Nodup) :
  (∃t,o'=o++t)∧(∀v∈o',0≤v∧v<n)∧(o'.map κ).Nodup∧(∀v∈st,κ v∈o'.map κ)∧((∀v∈o,∀a∈A v,κ a∈o.map κ∨a∈st)→∀v∈o',∀a∈A v,κ a∈o'.map κ):=by
 induction h with
 | nil o=>
  refine⟨⟨[],by simp⟩,ho,HC,?_,?_⟩
  ·intro v hv; cases hv
  ·intro h v hv a ha; exact (h v hv a ha).resolve_right (by simp)
 | @skip v st o o' hm _ ih=>
  obtain⟨⟨t,rfl⟩,a,b,c,d⟩:=ih (fun x hx=>hst x (by simp [hx])) ho HC
  refine⟨⟨t,rfl⟩,a,b,fun x hx=>?_,fun h=>d fun x hx y hy=>?_⟩
  ·rcases UT.1 hx with rfl | hx
   ·rw [U0]; exact Vo _ hm
   ·exact c x hx
  ·rcases h x hx y hy with h | h
   ·exact .inl h
   ·rcases UT.1 h with rfl | h
    ·exact .inl hm
    ·exact .inr h
 | @push v st o o' hn _ ih=>
  have hv:=hst v (by simp)
  have h1:∀x∈A v++st,0≤x∧x<n:=fun x hx=>by
   rcases UZ.1 hx with hx | hx
   ·exact hA v hv.1 hv.2 x hx
   ·exact hst x (by simp [hx])
  have h2:∀x∈o++[v],0≤x∧x<n:=fun x hx=>by
   rcases UZ.1 hx with hx | hx
   ·exact ho x hx
   ·rw [UU] at hx; subst hx; exact hv
  have h3:((o++[v]).map κ).Nodup:=by
   rw [U0,List.nodup_append]
   refine⟨HC,by simp,fun a ha b hb=>?_⟩
   simp only [UX,V0,UU] at hb
   subst hb; intro e; subst e; exact hn ha
  obtain⟨⟨t,rfl⟩,a,b,c,d⟩:=ih h1 h2 h3
  refine⟨⟨[v]++t,by simp⟩,a,b,fun x hx=>?_,fun h=>d fun x hx y hy=>?_⟩
  ·rcases UT.1 hx with rfl | hx
   ·simp
   ·exact c x (by simp [hx])
  ·rcases UZ.1 hx with hx | hx
   ·rcases h x hx y hy with h | h
    ·exact .inl (by rw [U0]; exact Vo _ h)
    ·rcases UT.1 h with rfl | h
     ·exact .inl (by simp)
     ·exact .inr (by simp [h])
   ·rw [UU] at hx; subst hx
    exact .inr (Vo _ hy)
theorem xD (cls:List Int)(l:List aq)(k:Nat)(i:Int)(o:List Int):tg cls l (k+1) i o=if il cls i∈o.map (il cls) then o else (nd l i).args.foldl (fun o a=>tg cls l k a o) (o++[i]):=rfl
theorem E9 {cls:List Int}{l:List aq}(ok:Bc l):∀(k:Nat) (i:Int) (o:List Int),0≤i→i<l.length→Vs cls l.length o→Vs cls l.length (tg cls l k i o)∧o.length≤(tg cls l k i o).length
 | 0,i,o,_,_,v=>⟨v,Uy _⟩
 | k+1,i,o,h0,h1,v=>by
  rw [xD]
  split
  ·exact⟨v,Uy _⟩
  ·rename_i h
   have v1:Vs cls l.length (o++[i]):=by
    refine⟨?_,fun x hx=>?_⟩
    ·rw [U0,List.nodup_append]
     refine⟨v.GK,by simp,fun a ha b hb=>?_⟩
     simp only [UX,V0,UU] at hb
     subst hb; intro e; subst e; exact h ha
    ·rcases UZ.1 hx with hx | hx
     ·exact v.Bb x hx
     ·simp only [UU] at hx; subst hx; exact⟨h0,h1⟩
   have fold:∀(zs:List Int) (o:List Int),(∀a∈zs,0≤a∧a<l.length)→Vs cls l.length o→Vs cls l.length (zs.foldl (fun o a=>tg cls l k a o) o)∧o.length≤(zs.foldl (fun o a=>tg cls l k a o) o).length:=by
    intro zs
    induction zs with
    | nil=>intro o _ v; exact⟨v,Uy _⟩
    | cons a zs ih=>
     intro o ha v
     have hr:=ha a (by simp)
     obtain⟨v2,l2⟩:=E9 ok k a o hr.1 hr.2 v
     obtain⟨v3,l3⟩:=ih (tg cls l k a o) (fun x hx=>ha x (by simp [hx])) v2
     exact⟨v3,Vj l2 l3⟩
   obtain⟨v2,l2⟩:=fold (nd l i).args (o++[i]) (ok.2 _ (ki h0 h1)).2 v1
   exact⟨v2,by simp at l2; omega⟩
theorem Bg {cls:List Int}{l:List aq}(ok:Bc l):∀(k:Nat) (i:Int) (o st o':List Int),0≤i→i<l.length→Vs cls l.length o→l.length<k+o.length→
  E8 (il cls) (fun v=>(nd l v).args) st (tg cls l k i o) o'→E8 (il cls) (fun v=>(nd l v).args) (i::st) o o'
 | 0,i,o,st,o',_,_,v,hk,_=>absurd v.JT (by omega)
 | k+1,i,o,st,o',h0,h1,v,hk,h=>by
  rw [xD] at h
  by_cases hm:il cls i∈o.map (il cls)
  ·rw [if_pos hm] at h
   exact .skip hm h
  ·rw [if_neg hm] at h
   refine .push hm ?_
   have v1:Vs cls l.length (o++[i]):=by
    refine⟨?_,fun x hx=>?_⟩
    ·rw [U0,List.nodup_append]
     refine⟨v.GK,by simp,fun a ha b hb=>?_⟩
     simp only [UX,V0,UU] at hb
     subst hb; intro e; subst e; exact hm ha
    ·rcases UZ.1 hx with hx | hx
     ·exact v.Bb x hx
     ·simp only [UU] at hx; subst hx; exact⟨h0,h1⟩
   have fold:∀(zs:List Int) (o:List Int),(∀a∈zs,0≤a∧a<l.length)→Vs cls l.length o→l.length<k+o.length→E8 (il cls) (fun v=>(nd l v).args) st (zs.foldl (fun o a=>tg cls l k a o) o) o'→E8 (il cls) (fun v=>(nd l v).args) (zs++st) o o':=by
    intro zs
    induction zs with
    | nil=>intro o _ _ _ h; exact h
    | cons a zs ih=>
     intro o ha v hk h
     have hr:=ha a (by simp)
     obtain⟨v2,l2⟩:=E9 ok k a o hr.1 hr.2 v
     exact Bg ok k a o (zs++st) o' hr.1 hr.2 v hk (ih _ (fun x hx=>ha x (by simp [hx])) v2 (by omega) h)
   exact fold (nd l i).args (o++[i]) (ok.2 _ (ki h0 h1)).2 v1 (by simp; omega) h
end Go.Proofs.Ytifafejidnjckaa
namespace Go.Proofs.Ytifafejidnjckaa
open Go Go.R
open Go.IntKind (i64 u64 u8 u32)
structure Tm (l k:List aq)(R:Int→Int→Prop):Prop where
 Bb:∀i j,R i j→(0≤i∧i<l.length)∧0≤j∧j<k.length
 top:∀i j,R i j→Alike (nd l i) (nd k j)
 arg:∀i j,R i j→∀n,n<(nd l i).args.length→R (gt (nd l i).args n) (gt (nd k j).args n)
theorem Min.same {l:List aq}{c:List Int}(M:Min l c){a b:Int}(a0:0≤a)(a1:a<l.length)(b0:0≤b)(b1:b<l.length)(e:il c a=il c b) :
  Alike (nd l a) (nd l b)∧∀n,n<(nd l a).args.length→il c (gt (nd l a).args n)=il c (gt (nd l b).args n):=by
 have ea:((a.toNat:Nat):Int)=a:=by omega
 have eb:((b.toNat:Nat):Int)=b:=by omega
 have hA:=M.top a.toNat b.toNat (by omega) (by omega) e
 have hg:=M.arg a.toNat b.toNat (by omega) (by omega) e
 rw [ea,eb] at hA hg
 exact⟨hA,hg⟩
theorem GR {c O:List Int}{a b:Int}(h:il c a=il c b):idx c O a=idx c O b:=by unfold idx; rw [h]
theorem zf {n:aq}{a b:Int}{f:Int→Int}(h:oM n a=true)(hf:∀x∈n.args,0≤f x∧f x<b):oM ⟨n.kind,n.int,n.label,n.args.map f⟩ b=true:=by
 unfold oM at h ⊢
 have he:(n.args.map f).isEmpty=n.args.isEmpty:=by cases n.args<;>rfl
 dsimp only
 rw [he,UQ]
 have ha:((n.args.map f).all fun a=>decide (0≤a)&&decide (a<b))=true:=by
  rw [UN]
  intro x hx
  obtain⟨y,hy,rfl⟩:=U8.1 hx
  have:=hf y hy
  simp only [Ux,decide_eq_true_eq]; exact this
 rw [ha]
 split<;>rename_i h0
 ·rw [if_pos h0] at h; exact h
 ·rw [if_neg h0] at h
  split<;>rename_i h1
  ·rw [if_pos h1] at h; exact h
  ·rw [if_neg h1] at h
   split<;>rename_i h2
   ·rw [if_pos h2] at h; exact h
   ·rw [if_neg h2] at h
    split<;>rename_i h3
    ·rw [if_pos h3] at h
     simp only [Ux] at h ⊢
     exact⟨h.1,trivial⟩
    ·rw [if_neg h3] at h
     exact h
theorem Cp {m:Nat}(hm:2 ^ 41≤m){t:br}(ht:kh t=true):∃s R,fc.f m t=some s∧kh s=true∧s.nodes.length≤t.nodes.length∧Tm t.nodes s.nodes R∧R t.root s.root:=by
 have xU:(2:Nat) ^ 41=2199023255552:=by decide
 obtain⟨ok,_,r0,r1,_⟩:=pG ht
 obtain⟨c,ns,e,M,Q,hr⟩:=ze hm ht
 have l1:=ok.1
 have fv:=ht
 unfold kh at fv
 simp only [Ux,decide_eq_true_eq] at fv
 generalize hO:tg c t.nodes m t.root []=O at *
 have JT:=Q.vs.JT
 have hlen:=Q.len
 have oP:0<O.length:=by cases O with | nil=>simp at hr | cons _ _=>simp
 have HC:∀q:Nat,q<O.length→nd ns (q:Int)=xy c t.nodes O (gt O q):=fun q hq=>by
  have:=Q.new q (by simp) hq
  unfold nd
  rw [UG,UP,this]; rfl
 have Ml:∀{v:Int},il c v∈O.map (il c)→0≤idx c O v∧idx c O v<O.length∧il c (gt O (idx c O v).toNat)=il c v:=fun {v} hv=>by
  have h1:=VO hv
  have h2:=List.getElem_idxOf h1
  rw [UQ] at h1
  unfold idx
  refine⟨by omega,by omega,?_⟩
  rw [UG]
  have h3:=UC (l:=O.map (il c)) (i:=(O.map (il c)).idxOf (il c v)) (by rw [UQ]; exact h1)
  rw [h2,Vv,dY h1] at h3
  exact Vf h3
 refine⟨⟨ns,0⟩,fun i j=>(0≤i∧i<t.nodes.length)∧il c i∈O.map (il c)∧j=idx c O i,e,?_,by show ns.length≤_; omega,⟨?_,?_,?_⟩,⟨r0,r1⟩,hr,?_⟩
 ·unfold kh
  simp only [Ux,decide_eq_true_eq]
  refine⟨⟨⟨⟨by omega,by omega⟩,by omega⟩,by omega⟩,?_⟩
  rw [UN]
  intro x hx
  obtain⟨q,hq,e2⟩:=List.getElem_of_mem hx
  have h1:=Q.new q (by simp) (by omega)
  rw [UC hq,e2] at h1
  have h1:=Vf h1
  subst h1
  have Ft:=Q.vs.Bb _ (bN (l:=O) (k:=q) (by omega))
  refine zf (UN.1 fv.2 _ (ki Ft.1 Ft.2)) fun a ha=>?_
  have:=Ml (Q.arg q (by simp) (by omega) a ha)
  omega
 ·rintro i j ⟨h1,h2,rfl⟩
  have:=Ml h2
  exact⟨h1,by show 0≤_∧_<(ns.length:Int); omega⟩
 ·rintro i j ⟨h1,h2,rfl⟩
  obtain⟨a,b,d⟩:=Ml h2
  have Ft:=Q.vs.Bb _ (bN (l:=O) (k:=(idx c O i).toNat) (by omega))
  have hx:=HC (idx c O i).toNat (by omega)
  rw [show (((idx c O i).toNat:Nat):Int)=idx c O i by omega] at hx
  rw [hx]
  have A:=(M.same h1.1 h1.2 Ft.1 Ft.2 d.symm).1
  exact⟨A.kind,A.int,A.label,by show _=(List.map _ _).length; rw [UQ]; exact A.len⟩
 ·rintro i j ⟨h1,h2,rfl⟩ n hn
  obtain⟨a,b,d⟩:=Ml h2
  have Ft:=Q.vs.Bb _ (bN (l:=O) (k:=(idx c O i).toNat) (by omega))
  have hx:=HC (idx c O i).toNat (by omega)
  rw [show (((idx c O i).toNat:Nat):Int)=idx c O i by omega] at hx
  rw [hx]
  obtain⟨A,hg⟩:=M.same h1.1 h1.2 Ft.1 Ft.2 d.symm
  have H0:n<(nd t.nodes (gt O (idx c O i).toNat)).args.length:=by have:=A.len; omega
  have hg:=hg n hn
  have hin:=Q.arg (idx c O i).toNat (by simp) (by omega) _ (bN H0)
  refine⟨(ok.2 _ (ki h1.1 h1.2)).2 _ (bN hn),by rw [hg]; exact hin,?_⟩
  have e1:gt (xy c t.nodes O (gt O (idx c O i).toNat)).args n=idx c O (gt (nd t.nodes (gt O (idx c O i).toNat)).args n):=by
   have h3:=dY (l:=(xy c t.nodes O (gt O (idx c O i).toNat)).args) (k:=n) (by show n<(List.map _ _).length; rw [UQ]; exact H0)
   have h4:(xy c t.nodes O (gt O (idx c O i).toNat)).args[n]? = some (idx c O (gt (nd t.nodes (gt O (idx c O i).toNat)).args n)):=by
    show (List.map _ _)[n]? = _
    rw [Vv,dY H0]; rfl
   rw [h4] at h3; exact (Vf h3).symm
  rw [e1]
  exact GR hg.symm
 ·show (0:Int)=idx c O t.root
  have P1:=Bg (cls:=c) ok m t.root [] [] _ r0 r1 ⟨by simp,fun x hx=>by cases hx⟩ (by simp; omega) (.nil _)
  rw [hO] at P1
  cases P1 with
  | skip h _=>simp at h
  | push _ k=>
   obtain⟨⟨T,e⟩,_⟩:=k.facts (n:=t.nodes.length) (fun v a b=>(ok.2 _ (ki a b)).2) (fun v hv=>by
    rcases UZ.1 hv with hv | hv
    ·exact (ok.2 _ (ki r0 r1)).2 v hv
    ·cases hv) (fun v hv=>by simp at hv; subst hv; exact⟨r0,r1⟩) (by simp)
   rw [e]
   unfold idx
   simp
end Go.Proofs.Ytifafejidnjckaa
namespace Go.Uf
open Go Go.R
open Go.IntKind (i64 u64 u8 u32)
def fE (a L:Nat):List Int:=(VX L).map fun i=>((a+i:Nat):Int)
theorem mD (a L:Nat):(fE a L).length=L:=by simp [fE]
theorem ud (a L:Nat):fE a (L+1)=fE a L++[((a+L:Nat):Int)]:=by
 unfold fE; rw [List.range_succ,U0]; rfl
theorem Fa {to:List Int}(o:FD to):∀L,FD (to++fE to.length L)∧(∀n,Rg to.length n→rp (to++fE to.length L) n=rp to n)∧∀n:Int,(to.length:Int)≤n→n<to.length+L→rp (to++fE to.length L) n=n
 | 0=>⟨by simpa [fE] using o,fun n _=>by simp [fE],fun n h1 h2=>by omega⟩
 | L+1=>by
  obtain⟨a,b,c⟩:=Fa o L
  have hl:(to++fE to.length L).length=to.length+L:=by rw [UD,mD]
  have e:to++fE to.length (L+1)=(to++fE to.length L)++[(((to++fE to.length L).length:Nat):Int)]:=by
   rw [ud,←UK,hl]
  obtain⟨g1,g2,g3⟩:=Lq a
  rw [←e] at g1 g2 g3
  refine⟨g1,fun n h=>?_,fun n h1 h2=>?_⟩
  ·rw [g2 n (by unfold Rg at h ⊢; rw [hl]; omega),b n h]
  ·by_cases h:n=to.length+L
   ·have:n=(((to++fE to.length L).length:Nat):Int):=by rw [hl]; omega
    rw [this]; exact g3
   ·rw [g2 n (by unfold Rg; rw [hl]; omega)]
    exact c n h1 (by omega)
theorem oO {N V:List aq}{n:Int}(h:Rg N.length n):gv (N++V) n=gv N n:=by
 have hl:n.toNat<N.length:=by have:=h.1; have:=h.2; omega
 unfold gv
 rw [UP,UP,UJ hl]
end Go.Uf
namespace Go.Proofs.Ytifafejidnjckaa
open Go Go.R Go.Uf
open Go.IntKind (i64 u64 u8 u32)
def oQ (s s':ab):Prop:=s.aa.length≤s'.aa.length∧∀n,Rg s.aa.length n→gO s.aa (rp s.ae n)→mA (gv s.aa (rp s.ae n)) (gv s'.aa (rp s'.ae n))
theorem mA.refl (a:aq):mA a a:=⟨rfl,rfl,rfl,rfl⟩
theorem oQ.refl (s:ab):oQ s s:=⟨Uy _,fun _ _ _=>mA.refl _⟩
section
variable {m:Nat}{s:ab}
theorem Inv2.more (v:Inv2 s)(V:List aq)(hV:∀x∈V,x.args.length≤8∧∀a∈x.args,Rg (s.aa.length+V.length) a)(hl:s.aa.length+V.length≤8000) :
  Inv2 ⟨s.aj,s.aa++V,s.ae++fE s.aa.length V.length⟩∧oQ s ⟨s.aj,s.aa++V,s.ae++fE s.aa.length V.length⟩:=by
 have hlen:=v.inv.len
 obtain⟨g1,g2,g3⟩:=Fa v.inv.ok V.length
 rw [hlen] at g1 g2 g3
 have hN:(s.aa++V).length=s.aa.length+V.length:=UD
 have hc:∀n,Rg (s.aa++V).length n→Rg s.aa.length n∨((s.aa.length:Int)≤n∧n<s.aa.length+V.length):=fun n h=>by
  rw [hN] at h; unfold Rg at h ⊢; omega
 have up:∀n,Rg s.aa.length n→Rg (s.aa++V).length n:=fun n h=>by rw [hN]; unfold Rg at h ⊢; omega
 have old:∀n,Rg s.aa.length n→rp (s.ae++fE s.aa.length V.length) n=rp s.ae n:=g2
 have new:∀n:Int,(s.aa.length:Int)≤n→n<s.aa.length+V.length→rp (s.ae++fE s.aa.length V.length) n=n:=g3
 refine⟨⟨⟨v.inv.made,?_,by show (s.aa++V).length≤8000; omega,g1,⟨fun n h=>?_,fun n h=>?_,fun n h=>?_⟩,?_⟩,?_⟩,?_,fun n h hv=>?_⟩
 ·show (_++_:List Int).length=_
  rw [UD,mD,hN,hlen]
 ·show Rg _ (rp (s.ae++fE s.aa.length V.length) n)
  rcases hc n h with h | ⟨h1,h2⟩
  ·rw [old n h]; exact up _ (v.inv.cn.rg n h)
  ·rw [new n h1 h2]; exact h
 ·show rp (s.ae++_) (rp (s.ae++fE s.aa.length V.length) n)=rp (s.ae++_) n
  rcases hc n h with h | ⟨h1,h2⟩
  ·rw [old n h,old _ (v.inv.cn.rg n h),v.inv.cn.id n h]
  ·rw [new n h1 h2,new n h1 h2]
 ·show Bt (s.aa++V) (rp (s.ae++fE s.aa.length V.length) n) n
  rcases hc n h with h | ⟨h1,h2⟩
  ·rw [old n h]
   have:=v.inv.cn.bt n h
   unfold Bt gO at this ⊢
   rw [oO h,oO (v.inv.cn.rg n h)]; exact this
  ·rw [new n h1 h2]; exact Bt.refl
 ·intro x hx
  rcases UZ.1 hx with hx | hx
  ·obtain⟨a1,a2⟩:=v.inv.args x hx
   exact⟨a1,fun a ha=>up a (a2 a ha)⟩
  ·obtain⟨a1,a2⟩:=hV x hx
   exact⟨a1,fun a ha=>by show Rg (s.aa++V).length a; rw [hN]; exact a2 a ha⟩
 ·intro x y hx hy he vx vy
  have he:rp (s.ae++fE s.aa.length V.length) x=rp (s.ae++fE s.aa.length V.length) y:=he
  rcases hc x hx with hx1 | ⟨x1,x2⟩<;>rcases hc y hy with JU | ⟨y1,y2⟩
  ·rw [old x hx1,old y JU] at he
   have wx:gv (s.aa++V) x=gv s.aa x:=oO hx1
   have wy:gv (s.aa++V) y=gv s.aa y:=oO JU
   have Tn:gO s.aa x:=by unfold gO at vx ⊢; rw [←wx]; exact vx
   have To:gO s.aa y:=by unfold gO at vy ⊢; rw [←wy]; exact vy
   obtain⟨t,q⟩:=v.cl x y hx1 JU he Tn To
   show mA (gv (s.aa++V) x) (gv (s.aa++V) y)∧∀(i:Nat) (a b:Int),(gv (s.aa++V) x).args[i]? = some a→(gv (s.aa++V) y).args[i]? = some b→rp (s.ae++fE s.aa.length V.length) a=rp (s.ae++fE s.aa.length V.length) b
   rw [wx,wy]
   refine⟨t,fun i a b ha hb=>?_⟩
   rw [old a ((v.inv.args _ (lk hx1)).2 a (UM ha)),old b ((v.inv.args _ (lk JU)).2 b (UM hb))]
   exact q i a b ha hb
  ·rw [old x hx1,new y y1 y2] at he
   have:=(v.inv.cn.rg x hx1).2
   omega
  ·rw [old y JU,new x x1 x2] at he
   have:=(v.inv.cn.rg y JU).2
   omega
  ·rw [new x x1 x2,new y y1 y2] at he
   subst he
   refine⟨mA.refl _,fun i a b ha hb=>?_⟩
   rw [ha] at hb; cases hb; rfl
 ·show s.aa.length≤(s.aa++V).length
  omega
 ·show mA _ (gv (s.aa++V) (rp (s.ae++fE s.aa.length V.length) n))
  rw [old n h,oO (v.inv.cn.rg n h)]
  exact mA.refl _
def Fb (s s':ab)(e:Int):Prop:=Inv2 s'∧oQ s s'∧(e≠0→s'=s)
theorem Fb.none (v:Inv2 s)(e:Int):Fb s s e:=⟨v,oQ.refl s,fun _=>rfl⟩
theorem xE (hm:2000000≤m)(v:Inv2 s)(r:Bool)(n:aq)(h:r=true→n.args.length≤8∧∀a∈n.args,Rg s.aa.length a):∃k e s',bY.f m s (some r) n=some (k,e,s')∧Fb s s' e:=by
 have n3:=v.inv.max
 unfold bY.f bF.f
 rw [v.inv.made]
 simp only [Uu,Vu,UE,if_false]
 cases r with
 | false=>exact⟨_,_,_,rfl,Fb.none v _⟩
 | true=>
  obtain⟨h1,h2⟩:=h rfl
  rw [if_neg (by decide)]
  by_cases hl:s.aa.length≥8000
  ·rw [if_pos (by rw [decide_eq_true_eq]; omega)]
   exact⟨_,_,_,rfl,Fb.none v _⟩
  rw [if_neg (by rw [decide_eq_true_eq]; omega)]
  have key:∀i:Int,∃k e s',(((app 56 s.aa [(⟨n.kind,i,n.label,n.args⟩:aq)]).bind fun x1=>(app 8 s.ae [(s.aa.length:Int)]).bind fun x2=>some ((s.aa.length:Int),(0:Int),(ab.mk true x1 x2)))=some (k,e,s'))∧Fb s s' e:=by
   intro i
   rw [yW (by simp only [UI,UW]; omega),Uu,yW (by have:=v.inv.len; simp only [UI,UW]; omega),Uu]
   obtain⟨w1,w2⟩:=v.more [⟨n.kind,i,n.label,n.args⟩] (fun x hx=>by
    simp only [UU] at hx
    subst hx
    exact⟨h1,fun a ha=>by have:=h2 a ha; unfold Rg at this ⊢; simp only [UI,UW]; omega⟩) (by simp only [UI,UW]; omega)
   have es:fE s.aa.length 1=[(s.aa.length:Int)]:=by simp [fE]
   have w1:Inv2 ⟨s.aj,s.aa++[⟨n.kind,i,n.label,n.args⟩],s.ae++fE s.aa.length 1⟩:=w1
   have w2:oQ s ⟨s.aj,s.aa++[⟨n.kind,i,n.label,n.args⟩],s.ae++fE s.aa.length 1⟩:=w2
   rw [es,v.inv.made] at w1 w2
   exact⟨_,_,_,rfl,w1,w2,fun h=>absurd rfl h⟩
  simp only [jn]
  by_cases hk:n.kind=0
  ·rw [if_pos (by rw [hk]; rfl)]; exact key _
  ·rw [if_neg (by simpa using hk)]; exact key _
end
end Go.Proofs.Ytifafejidnjckaa
namespace Go.Proofs.Ytifafejidnjckaa
open Go Go.R Go.Uf
open Go.IntKind (i64 u64 u8 u32)
section
variable {m:Nat}{s:ab}
theorem GS (hm:2 ^ 41≤m)(t:br):(∃r,fS.f m t=some (r,0)∧Bc r.nodes)∨∃r,fS.f m t=some (r,2):=by
 have Jn:(2:Nat) ^ 30=1073741824:=by decide
 have xU:(2:Nat) ^ 41=2199023255552:=by decide
 unfold fS.f
 rw [y9 (by omega),Uu]
 cases h:kh t with
 | false=>exact .inr ⟨_,rfl⟩
 | true=>
  obtain⟨r,R,e,hv,_⟩:=Cp hm h
  rw [if_neg (by simp),e]
  exact .inl ⟨_,rfl,(pG hv).1⟩
theorem Fc {v:aq}(a8:v.args.length≤8)(aR:∀a∈v.args,0≤a∧a<8000)(hN:s.aa.length≤8000)(s2:ab):∀(k i:Nat),i≤v.args.length→v.args.length - i<k→
  aA.l1 m s v k (i:Int) ((v.args.take i).map (· + (s.aa.length:Int))++v.args.drop i) s2=some ((v.args.length:Int),v.args.map (· + (s.aa.length:Int)),s2)∧
  aA.l2 m s v k (i:Int) ((v.args.take i).map (· + (s.aa.length:Int))++v.args.drop i) s2=some ((v.args.length:Int),v.args.map (· + (s.aa.length:Int)),s2)
 | 0,i,h1,h2=>by omega
 | k+1,i,h1,h2=>by
  simp only [aA.l1,aA.l2]
  by_cases hi:i<v.args.length
  ·have d:decide ((i:Int)<(v.args.length:Int))=true:=by rw [decide_eq_true_eq]; omega
   have hl:((v.args.take i).map (· + (s.aa.length:Int))).length=i:=by rw [UQ,Vz]; omega
   have ed:v.args.drop i=v.args[i]::v.args.drop (i+1):=UH hi
   have et:v.args.take (i+1)=v.args.take i++[v.args[i]]:=Vt hi
   have eg:((v.args.take i).map (· + (s.aa.length:Int))++v.args.drop i)[i]? = some v.args[i]:=by
    rw [UO (by omega),hl,V3,ed]; rfl
   have es:((v.args.take i).map (· + (s.aa.length:Int))++v.args.drop i).set i (v.args[i]+(s.aa.length:Int))=(v.args.take (i+1)).map (· + (s.aa.length:Int))++v.args.drop (i+1):=by
    rw [List.set_append_right _ _ (by omega),hl,V3,ed,et,U0,UK]; rfl
   obtain⟨b1,b2⟩:=aR v.args[i] (List.getElem_mem hi)
   have ew:i64.wrap ((i:Int)+1)=((i+1:Nat):Int):=by rw [ll (by omega) (by omega)]; omega
   have ev:i64.wrap (v.args[i]+(s.aa.length:Int))=v.args[i]+(s.aa.length:Int):=ll (by omega) (by omega)
   rw [if_pos d,if_pos d,CK eg]
   simp only [Uu,ew,ev,UG,es]
   exact Fc a8 aR hN s2 k (i+1) (by omega) (by omega)
  ·have d:decide ((i:Int)<(v.args.length:Int))=false:=by rw [decide_eq_false_iff_not]; omega
   have e:i=v.args.length:=by omega
   rw [if_neg (by rw [d]; decide),if_neg (by rw [d]; decide),e]
   simp
theorem Fe (hm:2000000≤m)(v:Inv2 s){x:br × Int}(ok:Bc x.1.nodes)(hl:s.aa.length+x.1.nodes.length≤8000):∀(k i:Nat) (V:List aq),i≤x.1.nodes.length→x.1.nodes.length - i<k→V.length=i→(∀y∈V,y.args.length≤8∧∀a∈y.args,Rg (s.aa.length+x.1.nodes.length) a)→
  ∃V2:List aq,aA.l0 m s x k (i:Int) ⟨s.aj,s.aa++V,s.ae++fE s.aa.length i⟩=some ((x.1.nodes.length:Int),⟨s.aj,s.aa++V2,s.ae++fE s.aa.length x.1.nodes.length⟩)∧V2.length=x.1.nodes.length∧∀y∈V2,y.args.length≤8∧∀a∈y.args,Rg (s.aa.length+x.1.nodes.length) a
 | 0,i,V,h1,h2,_,_=>by omega
 | k+1,i,V,h1,h2,hV,hP=>by
  have hlen:=v.inv.len
  simp only [aA.l0]
  by_cases hi:i<x.1.nodes.length
  ·have d:decide ((i:Int)<(x.1.nodes.length:Int))=true:=by rw [decide_eq_true_eq]; omega
   have eg:=UC hi
   generalize x.1.nodes[i]=n at eg
   obtain⟨n8,nR⟩:=ok.2 n (UM eg)
   have Tp:∀a∈n.args,0≤a∧a<8000:=fun a ha=>by have:=nR a ha; have:=ok.1; omega
   obtain⟨q1,q2⟩:=Fc (m:=m) (s:=s) n8 Tp (by omega) ⟨s.aj,s.aa++V,s.ae++fE s.aa.length i⟩ m 0 (Vl _) (by omega)
   have q1:aA.l1 m s n m 0 n.args ⟨s.aj,s.aa++V,s.ae++fE s.aa.length i⟩=_:=q1
   have q2:aA.l2 m s n m 0 n.args ⟨s.aj,s.aa++V,s.ae++fE s.aa.length i⟩=_:=q2
   have ew:i64.wrap ((i:Int)+1)=((i+1:Nat):Int):=by rw [ll (by omega) (by omega)]; omega
   have ef:i64.wrap ((s.aa.length:Int)+(i:Int))=((s.aa.length+i:Nat):Int):=by rw [ll (by omega) (by omega)]; omega
   rw [if_pos d,CK eg]
   simp only [Uu,q1,q2,ew,ef]
   have go:∀z:Int,∃V2:List aq,((app 56 (s.aa++V) [(⟨n.kind,z,n.label,n.args.map (· + (s.aa.length:Int))⟩:aq)]).bind fun x5=>(app 8 (s.ae++fE s.aa.length i) [((s.aa.length+i:Nat):Int)]).bind fun x6=>aA.l0 m s x k ((i+1:Nat):Int) (ab.mk s.aj x5 x6))=some ((x.1.nodes.length:Int),⟨s.aj,s.aa++V2,s.ae++fE s.aa.length x.1.nodes.length⟩)∧V2.length=x.1.nodes.length∧∀y∈V2,y.args.length≤8∧∀a∈y.args,Rg (s.aa.length+x.1.nodes.length) a:=by
    intro z
    rw [yW (by simp only [UD,UI,UW]; omega),Uu,yW (by simp only [UD,mD,UI,UW]; omega),Uu]
    have:=Fe hm v ok hl k (i+1) (V++[⟨n.kind,z,n.label,n.args.map (· + (s.aa.length:Int))⟩]) (by omega) (by omega) (by simp [hV]) (fun y hy=>by
     rcases UZ.1 hy with hy | hy
     ·exact hP y hy
     ·simp only [UU] at hy
      subst hy
      refine⟨by simpa using n8,fun a ha=>?_⟩
      obtain⟨b,hb,rfl⟩:=U8.1 ha
      have:=nR b hb
      unfold Rg; omega)
    rw [ud,←UK,←UK] at this
    exact this
   by_cases hk:n.kind=0
   ·rw [if_pos (by rw [hk]; rfl)]; exact go _
   ·rw [if_neg (by simpa using hk)]; exact go _
  ·have d:decide ((i:Int)<(x.1.nodes.length:Int))=false:=by rw [decide_eq_false_iff_not]; omega
   have e:i=x.1.nodes.length:=by omega
   rw [if_neg (by rw [d]; decide),e]
   exact⟨V,rfl,by omega,hP⟩
theorem LF (hm:2 ^ 41≤m)(v:Inv2 s)(t:br):∃k e s',aA.f m s t=some (k,e,s')∧Fb s s' e:=by
 have xU:(2:Nat) ^ 41=2199023255552:=by decide
 have n3:=v.inv.max
 unfold aA.f bF.f
 rw [v.inv.made]
 simp only [Uu,Vu,UE,if_false]
 rcases GS hm t with⟨r,e,ok⟩| ⟨r,e⟩
 ·rw [e,Uu,if_neg (show ¬(!(((r,0):br × Int).2==(0:Int)))=true by simp)]
  have hr:=ok.1
  have ew:i64.wrap ((s.aa.length:Int)+(r.nodes.length:Int))=((s.aa.length+r.nodes.length:Nat):Int):=by rw [ll (by omega) (by omega)]; omega
  rw [ew]
  by_cases hl:s.aa.length+r.nodes.length > 8000
  ·rw [if_pos (by rw [decide_eq_true_eq]; omega)]
   exact⟨_,_,_,rfl,Fb.none v _⟩
  ·rw [if_neg (by rw [decide_eq_true_eq]; omega)]
   obtain⟨V,e1,e2,e3⟩:=Fe (m:=m) (by omega) v (x:=(r,0)) ok (by show _+r.nodes.length≤8000; omega) m 0 [] (Vl _) (by show r.nodes.length - 0<m; omega) rfl (fun y hy=>by simp at hy)
   have es:s.ae++fE s.aa.length 0=s.ae:=by simp [fE]
   rw [VT,es] at e1
   have e1:aA.l0 m s (r,0) m 0 s=some ((r.nodes.length:Int),⟨s.aj,s.aa++V,s.ae++fE s.aa.length r.nodes.length⟩):=e1
   have e2:V.length=r.nodes.length:=e2
   have e3:∀y∈V,y.args.length≤8∧∀a∈y.args,Rg (s.aa.length+r.nodes.length) a:=e3
   rw [e1,Uu]
   obtain⟨w1,w2⟩:=v.more V (by rw [e2]; exact e3) (by omega)
   rw [e2] at w1 w2
   exact⟨_,_,_,rfl,w1,w2,fun h=>absurd rfl h⟩
 ·rw [e,Uu,if_pos (show (!(((r,2):br × Int).2==(0:Int)))=true from rfl)]
  exact⟨_,_,_,rfl,Fb.none v _⟩
end
end Go.Proofs.Ytifafejidnjckaa
namespace Go.Proofs.Ytifafejidnjckaa
open Go Go.R Go.Uf
open Go.IntKind (i64 u64 u8 u32)
section
variable {m:Nat}{s:ab}
theorem oQ.LG (v:Inv2 s){s':ab}(v':Inv2 s')(eN:s'.aa=s.aa)(h:gw s.aa (rp s.ae) (rp s'.ae)):oQ s s':=by
 refine⟨by rw [eN]; exact Uy _,fun n hn hv=>?_⟩
 have g1:=v.inv.cn.rg n hn
 have Jt:=v'.inv.cn
 have JV:=v'.cl
 rw [eN] at Jt JV ⊢
 have e1:rp s'.ae (rp s.ae n)=rp s'.ae n:=h _ _ g1 hn (v.inv.cn.id n hn)
 have e2:rp s'.ae (rp s'.ae n)=rp s'.ae n:=Jt.id n hn
 have v2:gO s.aa (rp s'.ae n):=e1 ▸ Jt.val g1 hv
 exact (JV _ _ g1 (Jt.rg n hn) (e1.trans e2.symm) hv v2).1
def LH (s s':ab)(e k:Int):Prop:=Inv2 s'∧oQ s s'∧(e≠0∨k=7→s'=s)
theorem Fb.a {s':ab}{e k:Int}(d:Fb s s' e)(hk:k≠7):LH s s' e k:=⟨d.1,d.2.1,fun h=>h.elim d.2.2 fun h=>absurd h hk⟩
theorem Pp (hm:2 ^ 41≤m)(v:Inv2 s)(x:aN)(hx:x.fO.length≤40):∃e s',fC.f m s x=some (e,s')∧LH s s' e x.eF:=by
 have xU:(2:Nat) ^ 41=2199023255552:=by decide
 have qP:2000000≤m:=by omega
 have z0:∀a∈([]:List Int),Rg s.aa.length a:=fun a h=>by simp at h
 unfold fC.f
 by_cases k0:x.eF=0
 ·rw [if_pos (by rw [k0]; rfl)]
  obtain⟨k,e,s',e1,d⟩:=xE qP v true ⟨0,0,⟨#[]⟩,[]⟩ (fun _=>⟨by simp,z0⟩)
  refine⟨e,s',?_,d.a (by omega)⟩
  simp only [ec.f,dD.f,e1,Uu]
 rw [if_neg (by simpa using k0)]
 by_cases k1:x.eF=1
 ·rw [if_pos (by rw [k1]; rfl)]
  have h1:∃r,cV.f m x.tP=some r:=by unfold cV.f; split<;>exact⟨_,rfl⟩
  obtain⟨r,h1⟩:=h1
  obtain⟨k,e,s',e1,d⟩:=xE qP v r ⟨1,x.tP,⟨#[]⟩,[]⟩ (fun _=>⟨by simp,z0⟩)
  refine⟨e,s',?_,d.a (by omega)⟩
  simp only [eh.f,h1,e1,Uu]
 rw [if_neg (by simpa using k1)]
 by_cases k2:x.eF=2
 ·rw [if_pos (by rw [k2]; rfl)]
  obtain⟨k,e,s',e1,d⟩:=xE qP v (oL x.eJ) ⟨2,0,x.eJ,[]⟩ (fun _=>⟨by simp,z0⟩)
  refine⟨e,s',?_,d.a (by omega)⟩
  simp only [dR.f,di.f,mR (show 20≤m by omega),Uu,e1]
 rw [if_neg (by simpa using k2)]
 by_cases k3:x.eF=3
 ·rw [if_pos (by rw [k3]; rfl)]
  have h1:∃r,ck.f m x.eJ x.fO s=some r∧(r=true→x.fO.length≤8∧∀a∈x.fO,Rg s.aa.length a):=by
   unfold ck.f
   rw [mR (show 20≤m by omega),Uu]
   split
   ·split
    ·split
     ·rename_i h8
      rw [sw qP x.fO (by omega) (g:=fun n=>!decide (Rg s.aa.length n)) (fun a _=>by simp only [cm.f,AW,Uu])]
      refine⟨_,rfl,fun h=>⟨by simp only [decide_eq_true_eq] at h8; omega,fun a ha=>?_⟩⟩
      simp only [VC,List.any_eq_false] at h
      have:=h a ha
      simpa using this
     ·exact⟨_,rfl,fun h=>by cases h⟩
    ·exact⟨_,rfl,fun h=>by cases h⟩
   ·exact⟨_,rfl,fun h=>by cases h⟩
  obtain⟨r,h1,h2⟩:=h1
  obtain⟨k,e,s',e1,d⟩:=xE qP v r ⟨3,0,x.eJ,x.fO⟩ h2
  have hc:Gl 1 x.fO=some x.fO:=by unfold Gl; rw [if_pos (by omega)]
  refine⟨e,s',?_,d.a (by omega)⟩
  simp only [dH.f,hc,h1,e1,Uu]
 rw [if_neg (by simpa using k3)]
 by_cases k4:x.eF=4
 ·rw [if_pos (by rw [k4]; rfl)]
  have h1:∃r,cE.f m x.eJ x.tP=some r:=by
   unfold cE.f
   rw [tX,Uu]
   split<;>exact⟨_,rfl⟩
  obtain⟨r,h1⟩:=h1
  obtain⟨k,e,s',e1,d⟩:=xE qP v r ⟨4,x.tP,x.eJ,[]⟩ (fun _=>⟨by simp,z0⟩)
  refine⟨e,s',?_,d.a (by omega)⟩
  simp only [dQ.f,h1,e1,Uu]
 rw [if_neg (by simpa using k4)]
 by_cases k5:x.eF=5
 ·rw [if_pos (by rw [k5]; rfl)]
  obtain⟨k,e,s',e1,d⟩:=LF hm v x.w5
  refine⟨e,s',?_,d.a (by omega)⟩
  simp only [e1,Uu]
 rw [if_neg (by simpa using k5)]
 by_cases k6:x.eF=6
 ·rw [if_pos (by rw [k6]; rfl)]
  obtain⟨l,e,s',e1,v',em,eN,h⟩:=vt qP v x.tP x.CD
  refine⟨e,s',by simp only [e1,Uu],v',?_,fun h'=>?_⟩
  ·rcases h with⟨_,_,rfl⟩| ⟨_,_,rfl,_⟩| ⟨_,_,h,_⟩
   ·exact oQ.refl _
   ·exact oQ.refl _
   ·exact oQ.LG v v' eN h
  ·rcases h with⟨_,_,rfl⟩| ⟨_,_,rfl,_⟩| ⟨_,h0,h,_⟩
   ·rfl
   ·rfl
   ·rcases h' with h' | h'
    ·exact absurd h0 h'
    ·omega
 rw [if_neg (by simpa using k6)]
 by_cases k7:x.eF=7
 ·rw [if_pos (by rw [k7]; rfl)]
  obtain⟨t,l,e,e1⟩:=Ji qP v x.tP x.CD
  exact⟨e,s,by simp only [e1,Uu],v,oQ.refl s,fun _=>rfl⟩
 rw [if_neg (by simpa using k7)]
 exact⟨0,s,rfl,v,oQ.refl s,fun _=>rfl⟩
def Small (l:List aN):Prop:=l.length≤60∧∀x∈l,x.fO.length≤40
theorem xF (l:List aN)(hl:l.length<2 ^ 63):∀(k i:Nat),i≤l.length→l.length - i<k→(∃b,bw.l0 m l k (i:Int)=some (.inl b)∧b=true)∨(∃z,bw.l0 m l k (i:Int)=some (.inr z)∧∀j,i≤j→∀x,l[j]? = some x→x.fO.length≤40)
 | 0,i,h1,h2=>by omega
 | k+1,i,h1,h2=>by
  have Mm:(2:Nat) ^ 63=9223372036854775808:=by decide
  simp only [bw.l0]
  by_cases hi:i<l.length
  ·have d:decide ((i:Int)<(l.length:Int))=true:=by rw [decide_eq_true_eq]; omega
   have eg:=UC hi
   generalize l[i]=n at eg
   have ew:i64.wrap ((i:Int)+1)=((i+1:Nat):Int):=by rw [ll (by omega) (by omega)]; omega
   rw [if_pos d,CK eg]
   simp only [Uu,ew]
   split
   ·exact .inl ⟨_,rfl,rfl⟩
   split
   ·exact .inl ⟨_,rfl,rfl⟩
   rename_i h40
   rcases xF l hl k (i+1) (by omega) (by omega) with h | ⟨z,e,h⟩
   ·exact .inl h
   ·refine .inr ⟨z,e,fun j hj x hx=>?_⟩
    by_cases hji:j=i
    ·subst hji
     rw [eg] at hx; cases hx
     simp only [decide_eq_true_eq] at h40; omega
    ·exact h j (by omega) x hx
  ·have d:decide ((i:Int)<(l.length:Int))=false:=by rw [decide_eq_false_iff_not]; omega
   rw [if_neg (by rw [d]; decide)]
   refine .inr ⟨_,rfl,fun j hj x hx=>?_⟩
   rw [U3 (by omega)] at hx; cases hx
theorem GU (hm:2 ^ 63≤m)(l:List aN)(hl:l.length<2 ^ 63):∃b,bw.f m l=some b∧(b=false→Small l):=by
 have Mm:(2:Nat) ^ 63=9223372036854775808:=by decide
 have QZ:(2:Nat) ^ 63=9223372036854775808:=by decide
 unfold bw.f
 rcases xF (m:=m) l hl m 0 (Vl _) (by omega) with⟨b,e,rfl⟩| ⟨z,e,h⟩
 ·have e:bw.l0 m l m 0=_:=e
  rw [e]
  exact⟨true,rfl,fun h=>by cases h⟩
 ·have e:bw.l0 m l m 0=_:=e
  rw [e]
  refine⟨_,rfl,fun hb=>⟨?_,fun x hx=>?_⟩⟩
  ·simp only [decide_eq_false_iff_not] at hb; omega
  ·obtain⟨j,hj⟩:=VA hx
   exact h j (Vl _) x hj
theorem Bh (hm:2 ^ 41≤m)(l:List aN)(hl:Small l):∀(k i:Nat) (s:ab),i≤l.length→l.length - i<k→Inv2 s→∃s',bR.l0 m l k (i:Int) s=some ((l.length:Int),s')∧Inv2 s'
 | 0,i,s,h1,h2,_=>by omega
 | k+1,i,s,h1,h2,v=>by
  simp only [bR.l0]
  have h60:=hl.1
  by_cases hi:i<l.length
  ·have d:decide ((i:Int)<(l.length:Int))=true:=by rw [decide_eq_true_eq]; omega
   have eg:=UC hi
   generalize l[i]=n at eg
   have ew:i64.wrap ((i:Int)+1)=((i+1:Nat):Int):=by rw [ll (by omega) (by omega)]; omega
   obtain⟨e,s',e1,d1⟩:=Pp hm v n (hl.2 n (UM eg))
   rw [if_pos d,CK eg]
   simp only [Uu,ew,e1]
   exact Bh hm l hl k (i+1) s' (by omega) (by omega) d1.1
  ·have d:decide ((i:Int)<(l.length:Int))=false:=by rw [decide_eq_false_iff_not]; omega
   have e:i=l.length:=by omega
   rw [if_neg (by rw [d]; decide),e]
   exact⟨s,rfl,v⟩
theorem GV:Inv2 ⟨true,[],[]⟩:=by
 have no:∀(P:Int→Prop) (n:Int),Rg ([]:List aq).length n→P n:=fun P n h=>by have:=h.1; have:=h.2; simp at this; omega
 exact⟨⟨rfl,rfl,by simp,GF,⟨fun n h=>no _ n h,fun n h=>no _ n h,fun n h=>no _ n h⟩,fun v h=>by simp at h⟩,fun x y hx=>(no (fun _=>False) x hx).elim⟩
theorem Ju (hm:2 ^ 41≤m)(l:List aN)(hl:Small l):∃s,bR.f m l=some s∧Inv2 s:=by
 have xU:(2:Nat) ^ 41=2199023255552:=by decide
 have h60:=hl.1
 obtain⟨s,e,v⟩:=Bh hm l hl m 0 ⟨true,[],[]⟩ (Vl _) (by omega) GV
 have e:bR.l0 m l m 0 ⟨true,[],[]⟩=_:=e
 refine⟨s,?_,v⟩
 simp only [bR.f,iR.f,Uu,e]
def fi (s:ab):List Int:=(VX s.aa.length).map fun (i:Nat)=>rp s.ae (i:Int)
theorem Bi (hm:2000000≤m)(v:Inv s):∀(k i:Nat),i≤s.aa.length→s.aa.length - i<k→bG.l0 m s k ((VX i).map fun (i:Nat)=>rp s.ae (i:Int)) (i:Int)=some (fi s,(s.aa.length:Int))
 | 0,i,h1,h2=>by omega
 | k+1,i,h1,h2=>by
  have n3:=v.max
  simp only [bG.l0,b6.f,bF.f,v.made,Uu,Vu,UE,if_false]
  by_cases hi:i<s.aa.length
  ·have d:decide ((i:Int)<(s.aa.length:Int))=true:=by rw [decide_eq_true_eq]; omega
   have r:Rg s.aa.length (i:Int):=⟨VG _,by omega⟩
   have ew:i64.wrap ((i:Int)+1)=((i+1:Nat):Int):=by rw [ll (by omega) (by omega)]; omega
   rw [if_pos d,Lw hm v,if_pos r]
   simp only [Uu,ew]
   rw [if_neg (by decide),yW (by simp only [UQ,List.length_range,UI,UW]; omega),Uu]
   have:=Bi hm v k (i+1) (by omega) (by omega)
   rw [List.range_succ,U0] at this
   exact this
  ·have d:decide ((i:Int)<(s.aa.length:Int))=false:=by rw [decide_eq_false_iff_not]; omega
   have e:i=s.aa.length:=by omega
   rw [if_neg (by rw [d]; decide),e]; rfl
theorem zg (hm:2000000≤m)(v:Inv s):bG.f m s=some (fi s):=by
 have n3:=v.max
 have:=Bi hm v m 0 (Vl _) (by omega)
 have this:bG.l0 m s m [] 0=_:=this
 simp only [bG.f,this,Uu]
theorem Bj (a:List Int)(hl:a.length<2 ^ 63):∀(k i:Nat),i≤a.length→a.length - i<k→bT.l0 m a a k (i:Int)=some (.inr (a.length:Int))
 | 0,i,h1,h2=>by omega
 | k+1,i,h1,h2=>by
  have Mm:(2:Nat) ^ 63=9223372036854775808:=by decide
  simp only [bT.l0]
  by_cases hi:i<a.length
  ·have d:decide ((i:Int)<(a.length:Int))=true:=by rw [decide_eq_true_eq]; omega
   have ew:i64.wrap ((i:Int)+1)=((i+1:Nat):Int):=by rw [ll (by omega) (by omega)]; omega
   rw [if_pos d,CK (UC hi)]
   simp only [Uu,ew,BEq.rfl,Vu,UE,if_false]
   exact Bj a hl k (i+1) (by omega) (by omega)
  ·have d:decide ((i:Int)<(a.length:Int))=false:=by rw [decide_eq_false_iff_not]; omega
   have e:i=a.length:=by omega
   rw [if_neg (by rw [d]; decide),e]
theorem Cq (a:List Int)(hl:a.length<2 ^ 63)(hm:2 ^ 63≤m):bT.f m a a=some true:=by
 have Mm:(2:Nat) ^ 63=9223372036854775808:=by decide
 have QZ:(2:Nat) ^ 63=9223372036854775808:=by decide
 have:=Bj (m:=m) a hl m 0 (Vl _) (by omega)
 have this:bT.l0 m a a m 0=_:=this
 simp only [bT.f,BEq.rfl,Vu,UE,if_false,this,Uu]
theorem Ff (v:Inv s):(fi s).length<2 ^ 63:=by
 have n3:=v.max
 have Mm:(2:Nat) ^ 63=9223372036854775808:=by decide
 unfold fi; rw [UQ,List.length_range]; omega
end
end Go.Proofs.Ytifafejidnjckaa
namespace Go.Proofs.Ytifafejidnjckaa
open Go Go.R Go.Uf
open Go.IntKind (i64 u64 u8 u32)
section
variable {m:Nat}{s:ab}
theorem vD {n:Int}(h:Rg s.aa.length n):ix (fi s) n=some (rp s.ae n):=by
 have hl:n.toNat<s.aa.length:=by have:=h.1; have:=h.2; omega
 have hn:((n.toNat:Nat):Int)=n:=by have:=h.1; omega
 unfold ix fi
 rw [if_pos h.1,Vv,List.getElem?_range hl,Uz,hn]
theorem xG:(fi s).length=s.aa.length:=by unfold fi; rw [UQ,List.length_range]
theorem xH {s':ab}(v:Inv2 s)(hN:s'.aa=s.aa)(h:gw s.aa (rp s.ae) (rp s'.ae))(back:Bool):∀(k i:Nat),i≤s.aa.length→s.aa.length - i<k→∃z,aX.l0 m back (fi s) (fi s') k (i:Int)=some (.inr z)
 | 0,i,h1,h2=>by omega
 | k+1,i,h1,h2=>by
  have n3:=v.inv.max
  have hl:(fi s').length=s.aa.length:=by rw [xG,hN]
  simp only [aX.l0,hl]
  by_cases hi:i<s.aa.length
  ·have d:decide ((i:Int)<(s.aa.length:Int))=true:=by rw [decide_eq_true_eq]; omega
   have ew:i64.wrap ((i:Int)+1)=((i+1:Nat):Int):=by rw [ll (by omega) (by omega)]; omega
   rw [if_pos d]
   have key:∀n,Rg s.aa.length n→∃z,((ix (fi s') n).bind fun v0=>(ix (fi s) n).bind fun v1=>if (!(v0==v1))=true then ((ix (fi s) n).bind fun v2=>(ix (fi s') v2).bind fun v3=>(ix (fi s') n).bind fun v4=>if (!(v3==v4))=true then (some (.inl false)) else (aX.l0 m back (fi s) (fi s') k (i64.wrap ((i:Int)+(1:Int))))) else (aX.l0 m back (fi s) (fi s') k (i64.wrap ((i:Int)+(1:Int)))))=some (.inr z):=by
    intro n hn
    have Kk:Rg s'.aa.length n:=by rw [hN]; exact hn
    have g:=v.inv.cn.rg n hn
    have g':Rg s'.aa.length (rp s.ae n):=by rw [hN]; exact g
    have e:rp s'.ae (rp s.ae n)=rp s'.ae n:=h _ _ g hn (v.inv.cn.id n hn)
    rw [vD Kk,vD hn,ew]
    simp only [Uu,vD g',e,BEq.rfl,Vu,UE,if_false,ite_self]
    exact xH v hN h back k (i+1) (by omega) (by omega)
   simp only [jn]
   cases back with
   | true=>
    rw [if_pos rfl]
    have e1:i64.wrap ((s.aa.length:Int) - 1)=(s.aa.length:Int) - 1:=ll (by omega) (by omega)
    have e2:i64.wrap ((s.aa.length:Int) - 1 - (i:Int))=(s.aa.length:Int) - 1 - (i:Int):=ll (by omega) (by omega)
    rw [e1,e2]
    exact key _ ⟨by omega,by omega⟩
   | false=>
    rw [if_neg (by decide)]
    exact key _ ⟨by omega,by omega⟩
  ·have d:decide ((i:Int)<(s.aa.length:Int))=false:=by rw [decide_eq_false_iff_not]; omega
   rw [if_neg (by rw [d]; decide)]
   exact⟨_,rfl⟩
theorem GW {a b:ab}(hN:a.aa.length=b.aa.length)(h:∀n,Rg a.aa.length n→rp a.ae n=rp b.ae n):fi a=fi b:=by
 unfold fi
 rw [←hN]
 refine VK fun i hi=>?_
 rw [VY] at hi
 exact h _ ⟨VG _,by omega⟩
theorem zh {a b:Int}(h:lA s [a,b]=true):lA s [b,a]=true:=by
 simp only [lA,Vi,List.all_nil,Bool.and_true,Ux] at h ⊢
 exact⟨h.2,h.1⟩
theorem zi (hm:2 ^ 63≤m)(l:List aN)(a b:Int)(back:Bool)(h1:l.length<2 ^ 63):aX.f m l a b back=some true:=by
 have xU:(2:Nat) ^ 41=2199023255552:=by decide
 have QZ:(2:Nat) ^ 63=9223372036854775808:=by decide
 have qP:2 ^ 41≤m:=by omega
 have LI:2000000≤m:=by omega
 unfold aX.f
 obtain⟨q,e1,g1⟩:=GU hm l h1
 rw [e1,Uu]
 cases q with
 | true=>rfl
 | false=>
  obtain⟨s,e3,v⟩:=Ju qP l (g1 rfl)
  have n3:=v.inv.max
  rw [if_neg (by decide),e3]
  simp only [Uu,zg LI v.inv]
  obtain⟨l1,e,s',e4,v',em,eN,h⟩:=vt LI v a b
  rw [e4]
  simp only [Uu,cU.f]
  rcases h with⟨_,rfl,_⟩| ⟨_,rfl,_⟩| ⟨hn,rfl,k1,k2,k3⟩
  ·rfl
  ·rfl
  rw [if_neg (by decide),zg LI v'.inv]
  simp only [Uu]
  obtain⟨z,e5⟩:=xH (m:=m) v eN k1 back m 0 (Vl _) (by omega)
  have e5:aX.l0 m back (fi s) (fi s') m 0=some (.inr z):=e5
  rw [e5]
  simp only [Uu]
  obtain⟨l2,e2,s2,e6,v2,Us,Mn,h⟩:=vt LI v b a
  have JV:=v'.cl
  rw [eN] at JV
  rw [e6]
  simp only [Uu]
  rcases h with⟨h,_⟩| ⟨_,_,_,h⟩| ⟨_,rfl,k4,k5,k6⟩
  ·rw [zh hn] at h; cases h
  ·exact (h _ JV k1 k2.symm).elim
  have Q0:=v2.cl
  rw [Mn] at Q0
  have Jt:=v'.inv.cn
  have Q1:=v2.inv.cn
  rw [eN] at Jt
  rw [Mn] at Q1
  have er:fi s2=fi s':=GW (by rw [Mn,eN]) (fun n hn=>by
   rw [Mn] at hn
   exact Q1.unique Jt (k6 _ JV k1 k2.symm) (k3 _ Q0 k4 k5.symm) hn)
  rw [if_pos (by decide),zg LI v2.inv,er]
  simp only [Uu,Cq (fi s') (Ff v'.inv) hm,if_true]
end
end Go.Proofs.Ytifafejidnjckaa
namespace Go.Proofs.Ytifafejidnjckaa
open Go Go.R Go.Uf
open Go.IntKind (i64 u64 u8 u32)
end Go.Proofs.Ytifafejidnjckaa
namespace Go.Proofs.Ytifafejidnjckaa
open Go Go.R
open Go.IntKind (i64 u64 u8 u32)
def Nf (xs ys:List AV):Prop:=cC xs=true∧dk xs=ys
theorem uf:∀a b:List AV,cC (a++b)=(cC a&&cC b)
 | [],b=>rfl
 | x::a,b=>by rw [U6,cC,cC,uf,Bool.and_assoc]
theorem ug:∀a b:List AV,dk (a++b)=dk a++dk b
 | [],b=>rfl
 | x::a,b=>by rw [U6,dk,dk,ug,U6]
theorem Nf.app {a b c d:List AV}(h:Nf a c)(k:Nf b d):Nf (a++b) (c++d):=⟨by rw [uf,h.1,k.1]; rfl,by rw [ug,h.2,k.2]⟩
theorem Nf.nil:Nf [] []:=⟨rfl,rfl⟩
theorem Nf.cons {x y:AV}{b d:List AV}(h:x.dO=true)(h2:x.jd=y)(k:Nf b d):Nf (x::b) (y::d):=⟨by simp [cC,h,k.1],by simp [dk,h2,k.2]⟩
theorem xI {α:Type}{E:bL α}{Pr:α→Prop}:∀{els:List (List AV)},(∀el∈els,∃a,Nf el (E.f a)∧Pr a)→∃l:List α,Nf els.flatten (E.l l)∧l.length=els.length∧∀a∈l,Pr a
 | [],_=>⟨[],Nf.nil,rfl,fun a ha=>by cases ha⟩
 | el::els,h=>by
  obtain⟨a,h1,h2⟩:=h el (by simp)
  obtain⟨l,h3,h4,h5⟩:=xI (E:=E) (Pr:=Pr) (els:=els) fun e he=>h e (by simp [he])
  refine⟨a::l,?_,by simp [h4],fun x hx=>?_⟩
  ·rw [List.flatten_cons,bL.eo]; exact h1.app h3
  ·rcases UT.1 hx with rfl | hx
   ·exact h2
   ·exact h5 x hx
def xJ {α:Type}(E:bL α)(x:AV)(l:List α):Prop:=x.dO=true∧x.jd=E.fz l∧(x = .nils∨∃cs n b,x = .fz cs n b)∧l.length≤maxLen
theorem xJ.fr {α:Type}{E:bL α}{x:AV}{l:List α}(h:xJ E x l)(hp:AHeap):jM 0 hp x (E.fz l):=kW h.1 (by rcases h.2.2.1 with rfl | ⟨cs,n,b,rfl⟩<;>exact fun _=>rfl) h.2.1
theorem zj {α:Type}{E:bL α}{Pr:α→Prop}{n t e:Nat}{xs:List AV}(ht:Try.prog.underlying t=some (.slice e))(h:Fits Try.prog (n+1) t xs)
  (he:∀el,Fits Try.prog n e el→∃a,Nf el (E.f a)∧Pr a):∃x l,xs=[x]∧xJ E x l∧∀a∈l,Pr a:=by
 unfold Fits at h
 rw [ht] at h
 rcases h with rfl | ⟨els,rfl,h1,h⟩
 ·exact⟨_,[],rfl,⟨rfl,rfl,.inl rfl,Vl _⟩,fun a ha=>by cases ha⟩
 ·obtain⟨l,⟨h2,h3⟩,h4,h5⟩:=xI (E:=E) (Pr:=Pr) fun el Kx=>he el (h el Kx).2
  refine⟨_,l,rfl,⟨by simpa [AV.dO] using h2,?_,.inr ⟨_,_,_,rfl⟩,by omega⟩,h5⟩
  show AV.fz (dk els.flatten) els.length false=_
  rw [h3,←h4]; rfl
theorem mE {n:Nat}{xs:List AV}(h:Fits Try.prog (n+1) 3 xs):∃z:Int,xs=[.int .i64 z]:=by
 unfold Fits at h
 rw [Try.underlying3] at h
 obtain⟨z,rfl,_⟩:=h
 exact⟨z,rfl⟩
theorem Bk {n:Nat}{xs:List AV}(h:Fits Try.prog (n+1) 9 xs):∃s:ByteArray,xs=[.str s]:=by
 unfold Fits at h
 rw [Try.underlying9] at h
 obtain⟨s,hs,_⟩:=h
 exact⟨s,hs⟩
theorem Fg {n:Nat}{xs:List AV}(h:Fits Try.prog (n+1) 4 xs):∃b:Bool,xs=[.bool b]:=by
 unfold Fits at h
 rw [Try.underlying4] at h
 exact h
theorem xK {n:Nat}{xs:List AV}(h:Fits Try.prog (n+2) 33 xs):∃x l,xs=[x]∧xJ af x l:=by
 obtain⟨x,l,e,h,_⟩:=zj (E:=af) (Pr:=fun _=>True) Try.underlying33 h fun el h=>by
  obtain⟨z,rfl⟩:=mE h
  exact⟨z,⟨rfl,rfl⟩,trivial⟩
 exact⟨x,l,e,h⟩
theorem Fh {n:Nat}{xs:List AV}(h:Fits Try.prog (n+3) 51 xs):∃v:aq,Nf xs (ai.f v):=by
 unfold Fits at h
 rw [Try.underlying51] at h
 obtain⟨a,b,rfl,_,h1,h⟩:=h
 obtain⟨c,d,rfl,_,h2,h⟩:=h
 obtain⟨e,f,rfl,_,h3,h⟩:=h
 obtain⟨g,k,rfl,_,h4,h⟩:=h
 have h:k=[]:=h
 subst h
 obtain⟨z1,rfl⟩:=mE h1
 obtain⟨z2,rfl⟩:=mE h2
 obtain⟨s,rfl⟩:=Bk h3
 obtain⟨x,l,rfl,hx⟩:=xK h4
 exact⟨⟨z1,z2,s,l⟩,Nf.cons rfl rfl (Nf.cons rfl rfl (Nf.cons rfl rfl (Nf.cons hx.1 hx.2.1 Nf.nil)))⟩
theorem Cr {n:Nat}{xs:List AV}(h:Fits Try.prog (n+4) 40 xs):∃x l,xs=[x]∧xJ ai x l:=by
 obtain⟨x,l,e,h,_⟩:=zj (E:=ai) (Pr:=fun _=>True) Try.underlying40 h fun el h=>by
  obtain⟨v,hv⟩:=Fh h
  exact⟨v,hv,trivial⟩
 exact⟨x,l,e,h⟩
def Fi (xs:List AV)(x:aN):Prop:=∃A T,xs=[.int .i64 x.eF,.int .i64 x.tP,.int .i64 x.CD,.str x.eJ,A,T,.int .i64 x.w5.root]∧xJ af A x.fO∧xJ ai T x.w5.nodes
theorem GX {n:Nat}{xs:List AV}(h:Fits Try.prog (n+6) 44 xs):∃x,Fi xs x:=by
 unfold Fits at h
 rw [Try.underlying44] at h
 obtain⟨a,b,rfl,_,h1,h⟩:=h
 obtain⟨c,d,rfl,_,h2,h⟩:=h
 obtain⟨e,f,rfl,_,h3,h⟩:=h
 obtain⟨g,k,rfl,_,h4,h⟩:=h
 obtain⟨i,j,rfl,_,h5,h⟩:=h
 obtain⟨o,p,rfl,_,h6,h⟩:=h
 have h:p=[]:=h
 subst h
 obtain⟨z1,rfl⟩:=mE h1
 obtain⟨z2,rfl⟩:=mE h2
 obtain⟨z3,rfl⟩:=mE h3
 obtain⟨s,rfl⟩:=Bk h4
 obtain⟨x,l,rfl,hx⟩:=xK h5
 have h6:Fits Try.prog (n+5) 42 o:=h6
 unfold Fits at h6
 rw [Try.underlying42] at h6
 obtain⟨q,r,rfl,_,h7,h6⟩:=h6
 obtain⟨t,u,rfl,_,h8,h6⟩:=h6
 have h6:u=[]:=h6
 subst h6
 obtain⟨y,ns,rfl,hy⟩:=Cr h7
 obtain⟨z4,rfl⟩:=mE h8
 exact⟨⟨z1,z2,z3,s,l,⟨ns,z4⟩⟩,x,y,rfl,hx,hy⟩
theorem Fi.nf {xs:List AV}{x:aN}(h:Fi xs x):Nf xs (aU.f x):=by
 obtain⟨A,T,rfl,hA,hT⟩:=h
 exact Nf.cons rfl rfl (Nf.cons rfl rfl (Nf.cons rfl rfl (Nf.cons rfl rfl (Nf.cons hA.1 hA.2.1 (Nf.cons hT.1 hT.2.1 (Nf.cons rfl rfl Nf.nil))))))
theorem Fj {n:Nat}{xs:List AV}(h:Fits Try.prog (n+7) 22 xs):∃x l,xs=[x]∧xJ aU x l:=by
 obtain⟨x,l,e,h,_⟩:=zj (E:=aU) (Pr:=fun _=>True) Try.underlying22 h fun el h=>by
  obtain⟨v,hv⟩:=GX h
  exact⟨v,hv.nf,trivial⟩
 exact⟨x,l,e,h⟩
theorem Cs:maxLen<2 ^ 63:=by decide
theorem Fk {n:Nat}{xs:List AV}(h:Fits Try.prog (n+7) 22 xs):∃l:List aN,l.length<2 ^ 63∧∀hp,jM 10 hp (iC Try.prog 22 xs) (aU.fz l):=by
 obtain⟨x,l,rfl,hx⟩:=Fj h
 have e1:iC Try.prog 22 [x]=x:=by unfold iC; rw [Try.underlying22]; rfl
 rw [e1]
 exact⟨l,Nat.lt_of_le_of_lt hx.2.2.2 Cs,fun hp=>(hx.fr hp).mono (by decide)⟩
theorem Bl {n:Nat}{xs:List AV}(h:Fits Try.prog (n+1) 3 xs):∃z:Int,∀hp,jM 10 hp (iC Try.prog 3 xs) (.int .i64 z):=by
 obtain⟨z,rfl⟩:=mE h
 have e1:iC Try.prog 3 [.int .i64 z] = .int .i64 z:=by unfold iC; rw [Try.underlying3]; rfl
 rw [e1]
 exact⟨z,fun hp=>bz.mono (by decide)⟩
theorem Fl {n:Nat}{xs:List AV}(h:Fits Try.prog (n+1) 4 xs):∃z:Bool,∀hp,jM 10 hp (iC Try.prog 4 xs) (.bool z):=by
 obtain⟨z,rfl⟩:=Fg h
 have e1:iC Try.prog 4 [.bool z] = .bool z:=by unfold iC; rw [Try.underlying4]; rfl
 rw [e1]
 exact⟨z,fun hp=>eU.mono (by decide)⟩
theorem Cu {P:Program}{m:Nat}{t u v w:TypeId}{uR:List AV}(h:om P m [t,u,v,w] uR):∃xs ys zs ws,uR=[iC P t xs,iC P u ys,iC P v zs,iC P w ws]∧Fits P m t xs∧Fits P m u ys∧Fits P m v zs∧Fits P m w ws:=by
 match uR,h with
 | [_,_,_,_],⟨⟨xs,h1,f1⟩,⟨ys,h2,f2⟩,⟨zs,h3,f3⟩,⟨ws,h4,f4⟩,_⟩=>exact⟨xs,ys,zs,ws,by rw [h1,h2,h3,h4],f1,f2,f3,f4⟩
end Go.Proofs.Ytifafejidnjckaa
namespace Go.R
open Go
def HE:AHeap:={get:=fun _=>none,ver:=fun _=>0,next:=2}
section
variable {P:Program}
theorem alone {cf:CallF}(hcf:CallOK P cf){f:FuncId}{us:List AV}{h0:AHeap}{r1:AV}{h1:AHeap}(hx:cf f us h0=some (r1,h1))(hg:∀id,h0.get id=none)(HP:∀id,h0.ver id<h0.next)
  {L0:Nat→Prop} {c:Cx} {vs:List Value} (hb0:c.base≤c.w.heap.size) (hrel:HRel c L0) (rM:VRs ⟨fun _=>(0,0),h0,c.w,c.w.heap.size⟩ L0 us vs) {r:AV} (hr:∀(c1 d:Cx) (v:Value),VR c1 L0 r1 v→VR d L0 r v) :
  Calls P f vs.toArray c.w fun e w'=>∃c' v,e = .returned v∧c'.w=w'∧c'.h=c.h∧VR c' L0 r v∧HRel c' L0∧Ext c none0 c' none0:=by
 obtain⟨hin,hcall⟩:=hcf f us h0 r1 h1 hx
 let c0:Cx:=⟨fun _=>(0,0),h0,c.w,c.w.heap.size⟩
 have hnl:∀id,¬Live c0.h id:=fun id hl=>by have:=hl.2; rw [show c0.h.get id=none from hg id] at this; cases this
 have vE:∀id o,¬c0.h.get id=some o:=fun id o ho=>by rw [show c0.h.get id=none from hg id] at ho; cases ho
 have rL:HRel c0 L0:=⟨fun id o ho=>absurd ho (vE id o),fun id o ho=>absurd ho (vE id o),fun id _ hl _ _=>absurd hl (hnl id),fun id hl=>absurd hl (hnl id),hrel.bd,fun id hl=>absurd hl (hnl id),HP⟩
 refine (hcall L0 c0 vs rfl (Uy _) rL rM).mono ?_
 rintro e w' ⟨c1,v,rfl,rfl,JL,hv,hrel1,e1⟩
 let d:Cx:=⟨c.β,c.h,c1.w,c.base⟩
 have hk:∀b,b<c.w.heap.size→c1.w.heap[b]? = c.w.heap[b]?:=fun b hb=>e1.exact b hb
 have ed:Ext c none0 d none0:=⟨Uy _,fun id _ hl=>⟨hl,rfl,gS.len (c:=c) (c':=d) (.inl (hk _ (hrel.block hl)))⟩,e1.size,fun b hb _ _=>.inl (hk b hb),fun b hb=>hk b (US hb hb0),rfl,fun id hl=>.inr ⟨id,hl,rfl⟩,fun _ h=>h,fun _ h=>.inl h,e1.os,e1.tape,e1.output⟩
 refine⟨d,v,rfl,rfl,rfl,hr c1 d v hv,⟨hrel.lt,fun id o ho=>?_,hrel.inj,hrel.out,fun b hb=>US (hrel.bd b hb) e1.size,hrel.low,hrel.ver⟩,ed⟩
 have hl:Live c.h id:=⟨hrel.lt _ _ ho,by rw [ho]; rfl⟩
 have:=(hrel.obj id o ho)
 have h2:=nQ.ext (L0:=L0) ed (b:=(c.β id).1) (base:=(c.β id).2) (o:=o) (by rw [gV]; exact this) (hk _ (hrel.block hl))
 rw [gV] at h2
 exact h2
def Jv (P:Program)(t:TypeId)(z:Nat):Bool:=
 match P.underlying t with
 | some (.slice e)=>match P.info? e with
  | some i=>U5 i.size z&&VP i.bytes 1000&&G4 i
  | none=>false
 | _=>false
theorem xL {t:TypeId}{z:Nat}(T:Jv P t z=true)(hz:z≠0){h:AHeap}{x:AV}{n:Nat}{cs:List AV}(hn:n≠0)(hb:n*1024≤1099511627776)(hx:fo h z x=some (cs,n))(hs:iu P t x=true):dv P h t t (.fz [] 0 true) x=some (.rs h.next 0 n z,h.alloc (.cells cs)):=by
 unfold Jv at T
 split at T
 rotate_left
 ·cases T
 rename_i e he
 split at T
 rotate_left
 ·cases T
 rename_i i hi
 simp only [Ux] at T
 obtain⟨⟨h1,h2⟩,h3⟩:=T
 have h1:=Vx h1
 have h2:=Nat.le_of_ble_eq_true h2
 subst h1
 have hq:n*i.bytes≤n*1000:=Nat.mul_le_mul_left n h2
 simp only [dv,he,Uu,hi,hx]
 rw [if_neg (by simp [hz,hs,h3]),if_neg (by simp only [gm,UR,UW]; omega),if_neg hn]
 simp
theorem uh {z:Nat}:∀args h r h',xR z args h=some (r,h')→Steady h h':=by
 intro args h r h' hs
 unfold xR at hs
 split at hs
 ·cases hs; exact Steady.refl _
 ·split at hs
  ·cases hs; exact Steady.refl _
  ·split at hs
   ·cases hs; exact Steady.put _ _ _
   ·cases hs
 ·split at hs
  ·cases hs; exact Steady.refl _
  ·rw [Ut] at hs
   obtain⟨ob,_,hs⟩:=hs
   split at hs
   ·split at hs
    ·cases hs; exact Steady.put _ _ _
    ·cases hs
   ·cases hs
 ·cases hs
theorem HF {cf:CallF}(hcf:CallOK P cf){F:FuncId}{t:TypeId}{z:Nat}(T:Jv P t z=true)(hz:z≠0)
  (h0:cf F [.nils] bu=some (.nils,bu)) (h1:cf F [.rs 1 0 0 z] HE=some (.rs 0 0 0 z,HE))
  (h2:∀(c:AV) (cs:List AV) (n:Nat) (ex:Bool) (h:AHeap) (i k w:Nat) (h':AHeap),dv P h t t (.fz [] 0 true) (.fz (c::cs) n ex)=some (.rs i 0 k w,h')→cf F [.fz (c::cs) n ex] h=some (.rs i 0 k w,h'))
  (h3:∀(j n q:Nat) (h:AHeap) (i k w:Nat) (h':AHeap),dv P h t t (.fz [] 0 true) (.rs (j+1) 0 n q)=some (.rs i 0 k w,h')→cf F [.rs (j+1) 0 n q] h=some (.rs i 0 k w,h'))
  (gu:∀x,(∀st,x≠.str st)→iu P t x=true) :
  CallOK P fun f' args h=>if f'=F then xR z args h else none:=by
 intro f args h r h' hc
 dsimp only at hc
 split at hc
 rotate_left
 ·cases hc
 rename_i hf
 subst hf
 refine⟨(hcf f _ _ _ _ h0).1,fun L0 c vs hh hb0 hrel hargs=>?_⟩
 have empty:∀(v:Value),(∃a cap,v = .slice a 0 cap∧(a=none→cap=0))→Calls P f #[v] c.w fun e w'=>∃c' v,e = .returned v∧c'.w=w'∧c'.h=c.h∧VR c' L0 (.rs 0 0 0 z) v∧HRel c' L0∧Ext c none0 c' none0:=by
  rintro v ⟨a,cap,rfl,ha⟩
  cases a with
  | none=>
   have:=ha rfl
   subst this
   refine alone (vs:=[.slice none 0 0]) hcf h0 (fun _=>rfl) (fun _=>VS) hb0 hrel ⟨rfl,trivial⟩ (fun c1 d v hv=>?_)
   simp only [VR] at hv ⊢
   exact .inl ⟨trivial,trivial,trivial,none,hv⟩
  | some ad=>
   refine alone (vs:=[.slice (some ad) 0 cap]) hcf h1 (fun _=>rfl) (fun _=>Nat.zero_lt_succ 1) hb0 hrel ⟨?_,trivial⟩ (fun c1 d v hv=>?_)
   ·simp only [VR]
    exact .inr ⟨by decide,by decide,some ad,cap,rfl,Vl _,rfl,fun hl=>by have:=hl.2; cases this⟩
   ·simp only [VR] at hv ⊢
    rcases hv with hv | hv
    ·exact .inl hv
    ·exact absurd rfl hv.1
 match args,vs,hargs with
 | [],_,_=>simp [xR] at hc
 | x::y::l,_,_=>cases x<;>simp [xR] at hc
 | [x],[v],hargs=>
  have hx:VR c L0 x v:=hargs.1
  cases x<;>simp only [xR] at hc<;>try (cases hc; done)
  ·cases hc
   simp only [VR] at hx
   rw [←hh]
   exact empty v ⟨none,0,hx,fun _=>rfl⟩
  ·rename_i cs n ex
   split at hc
   ·rename_i hn
    cases hc
    subst hn
    simp only [VR] at hx
    obtain⟨a,cap,e,_,_,hs,_⟩:=hx
    rw [←hh]
    refine empty v ⟨a,cap,e,fun ha=>?_⟩
    rcases hs with hs | hs
    ·rw [ha] at hs; cases hs
    ·exact hs.2
   ·rename_i hn
    split at hc
    rotate_left
    ·cases hc
    rename_i hq
    cases hc
    cases cs with
    | nil=>
     have h4:0=n*z:=hq.1
     rcases Nat.mul_eq_zero.1 h4.symm with h5 | h5
     ·exact absurd h5 hn
     ·exact absurd h5 hz
    | cons c1 cs=>
     have HO:fo h z (.fz (c1::cs) n ex)=some ((c1::cs).map js,n):=by
      simp only [fo,dU]; rw [if_pos hq.1]; rfl
     have:=h2 c1 cs n ex h _ _ _ _ (xL T hz hn hq.2 HO (gu _ (by rintro st h; cases h)))
     exact (hcf _ _ _ _ _ this).2 L0 c [v] hh hb0 hrel ⟨hx,trivial⟩
  ·rename_i id off n q
   cases off with
   | succ off=>simp [xR] at hc
   | zero=>
   simp only [xR] at hc
   split at hc
   ·rename_i hn
    cases hc
    subst hn
    simp only [VR] at hx
    rw [←hh]
    rcases hx with⟨_,_,_,a,e⟩| ⟨_,_,a,cap,e,_,hs,_⟩
    ·exact empty v ⟨a,0,e,fun _=>rfl⟩
    ·refine empty v ⟨a,cap,e,fun ha=>?_⟩
     rw [ha] at hs; cases hs
   ·rename_i hn
    rw [Ut] at hc
    obtain⟨ob,ho,hc⟩:=hc
    split at hc
    rotate_left
    ·cases hc
    rename_i cs
    split at hc
    rotate_left
    ·cases hc
    rename_i hq
    cases hc
    have hid:id≠0:=by
     simp only [VR] at hx
     rcases hx with hx | hx
     ·exact absurd hx.2.2.1 hn
     ·exact hx.1
    obtain⟨j,rfl⟩:∃j,id=j+1:=⟨id - 1,by omega⟩
    have HO:fo h z (.rs (j+1) 0 n q)=some ((cs.take (n*z)).map js,n):=by
     simp only [fo,dU]
     rw [if_neg (fun hz=>hz.elim hid fun hz=>hn hz.1),ho]
     simp only [Uu]
     rw [if_pos ⟨hq.1,by omega⟩,Vd]; rfl
    have:=h3 j n q h _ _ _ _ (xL T hz hn hq.2.2 HO (gu _ (by rintro st h; cases h)))
    exact (hcf _ _ _ _ _ this).2 L0 c [v] hh hb0 hrel ⟨hx,trivial⟩
 | [x],[],hargs=>exact hargs.elim
 | [x],_::_::_,hargs=>exact hargs.2.elim
end
end Go.R
namespace Go.Proofs.Ytifafejidnjckaa
open Go Go.R Go.Shelf
open Go.IntKind (i64 u64 u8 u32)
theorem fits:Fit Try.prog:=H9 (by kernel_rfl) (by kernel_rfl)
def Jw:Ren:={f:=(fun x=>match x with | 189=>60 | 125=>77 | 257=>76 | 128=>95 | 129=>96 | 294=>86 | 295=>87 | 296=>88 | 297=>89 | 298=>90 | 299=>91 | 216=>92 | 300=>93 | 301=>94 | 328=>100 | 329=>101 | 330=>102 | 331=>103 | 332=>104 | 215=>97 | 343=>107 | n=>n),t:=(fun x=>match x with | 28=>33 | 3=>3 | 46=>108 | 0=>0 | 51=>126 | 53=>128 | 4=>4 | 183=>119 | 182=>118 | 131=>103 | 5=>5 | 9=>9 | 218=>130 | 222=>134 | 228=>138 | 229=>139 | n=>n),g:=(fun n=>n)}
theorem LJ:Lays.n189 Try.prog Jw:={
 mixed:=by kernel_rfl,
 f125:=Try.func77.trans (congrArg some (by kernel_rfl)),
 f128:=Try.func95.trans (congrArg some (by kernel_rfl)),
 f129:=Try.func96.trans (congrArg some (by kernel_rfl)),
 f189:=Try.func60.trans (congrArg some (by kernel_rfl)),
 f215:=Try.func97.trans (congrArg some (by kernel_rfl)),
 f216:=Try.func92.trans (congrArg some (by kernel_rfl)),
 f257:=Try.func76.trans (congrArg some (by kernel_rfl)),
 f294:=Try.func86.trans (congrArg some (by kernel_rfl)),
 f295:=Try.func87.trans (congrArg some (by kernel_rfl)),
 f296:=Try.func88.trans (congrArg some (by kernel_rfl)),
 f297:=Try.func89.trans (congrArg some (by kernel_rfl)),
 f298:=Try.func90.trans (congrArg some (by kernel_rfl)),
 f299:=Try.func91.trans (congrArg some (by kernel_rfl)),
 f300:=Try.func93.trans (congrArg some (by kernel_rfl)),
 f301:=Try.func94.trans (congrArg some (by kernel_rfl)),
 f328:=Try.func100.trans (congrArg some (by kernel_rfl)),
 f329:=Try.func101.trans (congrArg some (by kernel_rfl)),
 f330:=Try.func102.trans (congrArg some (by kernel_rfl)),
 f331:=Try.func103.trans (congrArg some (by kernel_rfl)),
 f332:=Try.func104.trans (congrArg some (by kernel_rfl)),
 f343:=Try.func107.trans (congrArg some (by kernel_rfl)),
 t0:=Try.underlying0,
 a0:=Try.isAgg0,
 z0:=Try.sizeOf0,
 v0:=Try.zeroValue0,
 t3:=Try.underlying3,
 a3:=Try.isAgg3,
 z3:=Try.sizeOf3,
 v3:=Try.zeroValue3,
 t4:=Try.underlying4,
 a4:=Try.isAgg4,
 z4:=Try.sizeOf4,
 v4:=Try.zeroValue4,
 t5:=Try.underlying5,
 a5:=Try.isAgg5,
 z5:=Try.sizeOf5,
 v5:=Try.zeroValue5,
 t9:=Try.underlying9,
 a9:=Try.isAgg9,
 z9:=Try.sizeOf9,
 v9:=Try.zeroValue9,
 t28:=Try.underlying33,
 a28:=Try.isAgg33,
 z28:=Try.sizeOf33,
 v28:=Try.zeroValue33,
 t46:=Try.underlying108,
 a46:=Try.isAgg108,
 z46:=Try.sizeOf108,
 v46:=Try.zeroValue108,
 t51:=Try.underlying126,
 a51:=Try.isAgg126,
 z51:=Try.sizeOf126,
 v51:=Try.zeroValue126,
 t53:=Try.underlying128,
 a53:=Try.isAgg128,
 z53:=Try.sizeOf128,
 v53:=Try.zeroValue128,
 t131:=Try.underlying103,
 a131:=Try.isAgg103,
 z131:=Try.sizeOf103,
 v131:=Try.zeroValue103,
 t182:=Try.underlying118,
 a182:=Try.isAgg118,
 z182:=Try.sizeOf118,
 v182:=Try.zeroValue118,
 t183:=Try.underlying119,
 a183:=Try.isAgg119,
 z183:=Try.sizeOf119,
 v183:=Try.zeroValue119,
 t218:=Try.underlying130,
 a218:=Try.isAgg130,
 z218:=Try.sizeOf130,
 v218:=Try.zeroValue130,
 t222:=Try.underlying134,
 a222:=Try.isAgg134,
 z222:=Try.sizeOf134,
 v222:=Try.zeroValue134,
 t228:=Try.underlying138,
 a228:=Try.isAgg138,
 z228:=Try.sizeOf138,
 v228:=Try.zeroValue138,
 t229:=Try.underlying139,
 a229:=Try.isAgg139,
 z229:=Try.sizeOf139,
 v229:=Try.zeroValue139}
theorem Jx:∀(vs:Array Value) (w:World),(callFunc (Jw.f 189) vs).run Try.prog w = .ok (.enter (Jw.f 189) vs) w:=
 lY (c:=b8 Try.f60) Try.func60 (by kernel_rfl) (by decide +kernel)
def pH:bX:=gQ [0,2,4] [] [] [] []
def nk:mW:={aV:=fun _=>pH,intr:=fun _=>none,pure:=fun _=>none}
noncomputable def LK:CallF:=a7 Try.prog nk.aV (ez Try.prog nk 10 0) 10
theorem Fm:CallOK Try.prog LK:=wk fits (og fits mJ 10 0) (wz fits.mixed (og fits mJ 10 0) (kV mJ 10 0)) 10
theorem GY (c:AV)(cs:List AV)(n:Nat)(ex:Bool)(h:AHeap)(i k w:Nat)(h':AHeap)(e:dv Try.prog h 40 40 (.fz [] 0 true) (.fz (c::cs) n ex)=some (.rs i 0 k w,h')):LK 38 [.fz (c::cs) n ex] h=some (.rs i 0 k w,h'):=by
 have key:∃r h2,a7 Try.prog nk.aV (ez Try.prog nk 10 0) 10 38 [.fz (c::cs) n ex] h=some (r,h2)∧r = .rs i 0 k w∧h2=h':=by
  refine au (fn:=Try.f38) (A:=pH) rfl Try.func38 (by kernel_rfl) (by kernel_rfl) ?_
  refine aH (Q:=fun s=>aM Try.prog (s.open pH) Try.f38.results.toList=some (.rs i 0 k w)∧s.h=h') (fun _ _ ⟨h1,h2,h3⟩=>⟨h1,_,h2,rfl,h3⟩) ?_
  show dj _ _ pH _ _ ⟨[.fz (c::cs) n ex,.any,.any],[],h⟩ _
  refine q1 <| qq <| q1 <| DJ <| qk <| qs [.a 2 e] <| qt <| ⟨.inl rfl,by kernel_rfl,by kernel_rfl⟩
 obtain⟨r,h2,hb,rfl,rfl⟩:=key
 exact hb
theorem GZ (j n q:Nat)(h:AHeap)(i k w:Nat)(h':AHeap)(e:dv Try.prog h 40 40 (.fz [] 0 true) (.rs (j+1) 0 n q)=some (.rs i 0 k w,h')):LK 38 [.rs (j+1) 0 n q] h=some (.rs i 0 k w,h'):=by
 have key:∃r h2,a7 Try.prog nk.aV (ez Try.prog nk 10 0) 10 38 [.rs (j+1) 0 n q] h=some (r,h2)∧r = .rs i 0 k w∧h2=h':=by
  refine au (fn:=Try.f38) (A:=pH) rfl Try.func38 (by kernel_rfl) (by kernel_rfl) ?_
  refine aH (Q:=fun s=>aM Try.prog (s.open pH) Try.f38.results.toList=some (.rs i 0 k w)∧s.h=h') (fun _ _ ⟨h1,h2,h3⟩=>⟨h1,_,h2,rfl,h3⟩) ?_
  show dj _ _ pH _ _ ⟨[.rs (j+1) 0 n q,.any,.any],[],h⟩ _
  refine q1 <| qq <| q1 <| DJ <| qk <| qs [.a 2 e] <| qt <| ⟨.inl rfl,by kernel_rfl,by kernel_rfl⟩
 obtain⟨r,h2,hb,rfl,rfl⟩:=key
 exact hb
theorem LL:∀x,(∀st,x≠.str st)→iu Try.prog 40 x=true:=by
 intro x hx
 cases x<;>first | exact absurd rfl (hx _) | kernel_rfl
theorem G0:CallOK Try.prog fun f args h=>if f=38 then xR 4 args h else none:=
 HF Fm (F:=38) (t:=40) (z:=4) (by kernel_rfl) (by decide) (by kernel_rfl) (by kernel_rfl) GY GZ LL
theorem G1 (c:AV)(cs:List AV)(n:Nat)(ex:Bool)(h:AHeap)(i k w:Nat)(h':AHeap)(e:dv Try.prog h 33 33 (.fz [] 0 true) (.fz (c::cs) n ex)=some (.rs i 0 k w,h')):LK 39 [.fz (c::cs) n ex] h=some (.rs i 0 k w,h'):=by
 have key:∃r h2,a7 Try.prog nk.aV (ez Try.prog nk 10 0) 10 39 [.fz (c::cs) n ex] h=some (r,h2)∧r = .rs i 0 k w∧h2=h':=by
  refine au (fn:=Try.f39) (A:=pH) rfl Try.func39 (by kernel_rfl) (by kernel_rfl) ?_
  refine aH (Q:=fun s=>aM Try.prog (s.open pH) Try.f39.results.toList=some (.rs i 0 k w)∧s.h=h') (fun _ _ ⟨h1,h2,h3⟩=>⟨h1,_,h2,rfl,h3⟩) ?_
  show dj _ _ pH _ _ ⟨[.fz (c::cs) n ex,.any,.any],[],h⟩ _
  refine q1 <| qq <| q1 <| DJ <| qk <| qs [.a 2 e] <| qt <| ⟨.inl rfl,by kernel_rfl,by kernel_rfl⟩
 obtain⟨r,h2,hb,rfl,rfl⟩:=key
 exact hb
theorem G2 (j n q:Nat)(h:AHeap)(i k w:Nat)(h':AHeap)(e:dv Try.prog h 33 33 (.fz [] 0 true) (.rs (j+1) 0 n q)=some (.rs i 0 k w,h')):LK 39 [.rs (j+1) 0 n q] h=some (.rs i 0 k w,h'):=by
 have key:∃r h2,a7 Try.prog nk.aV (ez Try.prog nk 10 0) 10 39 [.rs (j+1) 0 n q] h=some (r,h2)∧r = .rs i 0 k w∧h2=h':=by
  refine au (fn:=Try.f39) (A:=pH) rfl Try.func39 (by kernel_rfl) (by kernel_rfl) ?_
  refine aH (Q:=fun s=>aM Try.prog (s.open pH) Try.f39.results.toList=some (.rs i 0 k w)∧s.h=h') (fun _ _ ⟨h1,h2,h3⟩=>⟨h1,_,h2,rfl,h3⟩) ?_
  show dj _ _ pH _ _ ⟨[.rs (j+1) 0 n q,.any,.any],[],h⟩ _
  refine q1 <| qq <| q1 <| DJ <| qk <| qs [.a 2 e] <| qt <| ⟨.inl rfl,by kernel_rfl,by kernel_rfl⟩
 obtain⟨r,h2,hb,rfl,rfl⟩:=key
 exact hb
theorem LM:∀x,(∀st,x≠.str st)→iu Try.prog 33 x=true:=by
 intro x hx
 cases x<;>first | exact absurd rfl (hx _) | kernel_rfl
theorem G3:CallOK Try.prog fun f args h=>if f=39 then xR 1 args h else none:=
 HF Fm (F:=39) (t:=33) (z:=1) (by kernel_rfl) (by decide) (by kernel_rfl) (by kernel_rfl) G1 G2 LM
noncomputable def HG:FuncId→Option (List AV→AHeap→Option (AV × AHeap)):=fun f=>if f=60 then some Ir else if f=38 then some (xR 4) else if f=39 then some (xR 1) else none
theorem Fo:IntrOK Try.prog HG:=intr_cons (f0:=60) (KL LJ Jx) BX (intr_cons (f0:=38) G0 uh (intr_cons (f0:=39) G3 uh mJ))
end Go.Proofs.Ytifafejidnjckaa
namespace Go.Proofs.Ytifafejidnjckaa
open Go Go.R
open Go.IntKind (i64 u64 u8 u32)
def cJ:Nat→bX
 | 4=>Ep
 | 10=>w6
 | 11=>{keep:=[0,1,2,3,4,5,6,7,8,9,10,11,12,13,14,16,17,19,22,25],aE:=[]}
 | 12=>xl
 | 14=>w8
 | 15=>xk
 | 16=>AD
 | 17=>AP
 | 18=>Ai
 | 23=>AE
 | 24=>AF
 | 26=>zW
 | 27=>Aj
 | 28=>AK
 | 29=>Ak
 | 30=>Au
 | 31=>tT
 | 32=>w9
 | 33=>Av
 | 34=>AG
 | 35=>Aw
 | 36=>ss
 | 37=>zX
 | 41=>xa
 | 43=>AO
 | 44=>AL
 | 46=>AN
 | 47=>zY
 | 48=>zZ
 | 49=>AH
 | 50=>Ax
 | 51=>z6
 | 52=>Al
 | 53=>Am
 | 54=>z7
 | 55=>z8
 | 56=>An
 | 57=>xh
 | 58=>Ao
 | 59=>Aa
 | 60=>{keep:=[0,2],aE:=[]}
 | 61=>Ay
 | 62=>Ab
 | 63=>Ap
 | 64=>Ac
 | 65=>Aq
 | 66=>AI
 | 67=>Az
 | 70=>AA
 | 72=>oI
 | 73=>xb
 | 74=>xi
 | 75=>xe
 | 78=>xf
 | 79=>Ae
 | 80=>Ar
 | 81=>xg
 | 82=>As
 | 83=>AM
 | 84=>AB
 | 85=>Af
 | 97=>Ag
 | 98=>Ah
 | 99=>sr
 | 105=>py
 | 106=>lg
 | 108=>sg
 | 109=>se
 | _=>{keep:=[],aE:=[]}
def bf:Nat:=18014398509481984
theorem bg:ia+bO≤bf:=by decide
def LN:Nat→Option Nat
 | 4=>some bf
 | 10=>some bf
 | 11=>some bf
 | 14=>some bf
 | 15=>some bf
 | 18=>some bf
 | 24=>some bf
 | 30=>some bf
 | 33=>some bf
 | 37=>some bf
 | 41=>some bf
 | 43=>some bf
 | 44=>some bf
 | 46=>some bf
 | 48=>some bf
 | 49=>some bf
 | 50=>some bf
 | 51=>some bf
 | 52=>some bf
 | 53=>some bf
 | 54=>some bf
 | 55=>some bf
 | 58=>some bf
 | 59=>some bf
 | 61=>some bf
 | 62=>some bf
 | 63=>some bf
 | 64=>some bf
 | 65=>some bf
 | 66=>some bf
 | 67=>some bf
 | 70=>some bf
 | 72=>some bf
 | 74=>some bf
 | 75=>some bf
 | 78=>some bf
 | 79=>some bf
 | 80=>some bf
 | 81=>some bf
 | 82=>some bf
 | 84=>some bf
 | 85=>some bf
 | 97=>some bf
 | 98=>some bf
 | _=>none
def Jy:Nat→Bool
 | 33=>true
 | 43=>true
 | 46=>true
 | _=>false
def M:Nat:=18446744073709551616
noncomputable def bB:mW:={aV:=cJ,intr:=HG,pure:=LN,eu:=Jy}
noncomputable def cK:CallF:=iI Try.prog bB M
theorem Jz:CallOK Try.prog cK:=DI fits (T:=bB) Fo
theorem Tq:PY cK M:=fun args h=>r6 (T:=bB) rfl
theorem Tr:PX cK M:=fun args h=>r6 (T:=bB) rfl
end Go.Proofs.Ytifafejidnjckaa
namespace Go.Proofs.Ytifafejidnjckaa
open Go Go.R
open Go.IntKind (i64 u64 u8 u32)
theorem Cv:(a7 Try.prog cJ (ez Try.prog bB M 98) M 11 [] bu).map (fun x=>x.1)=some (.bool true):=by kernel_rfl
theorem Ts:PW cK M:=by
 intro r H h xs hx
 have H:some true=some r:=H
 cases H
 obtain⟨⟨x,h'⟩,hb,e⟩:=Uv.1 Cv
 dsimp only at e
 subst e
 obtain⟨l,h1,h2⟩:=jq (P:=Try.prog) cJ M 11 [] bu _ _ hb
 have hb:=h2 cK fun e he=>kz.2 ⟨_,h1 e he⟩
 exact bk (T:=bB) (deep:=bf) rfl rfl rfl bg hx ⟨_,_,hb,dw (aD)⟩
end Go.Proofs.Ytifafejidnjckaa
namespace Go.Proofs.Ytifafejidnjckaa
open Go Go.R
open Go.IntKind (i64 u64 u8 u32)
theorem Tt:PZ cK M:=by
 intro l0 r H  h xs hx
 exact bk (T:=bB) (deep:=bf) rfl rfl rfl bg hx (pt (cf:=cK) (m:=M) (aV:=cJ) rfl  l0 bu []   aW H)
theorem Tu:P3 cK M:=by
 intro a0 b0 r H  h xs hx
 exact bk (T:=bB) (deep:=bf) rfl rfl rfl bg hx (qp (cf:=cK) (m:=M) (aV:=cJ) rfl  a0 b0 bu []   aW H)
theorem Tv:P4 cK M:=by
 intro  r H h L   o  xs hx
 obtain⟨r',h',hb,eR,gg,gh,rfl,ho⟩:=sd (cf:=cK) (m:=M) (aV:=cJ) rfl   h L  o H
 exact⟨eR,gg,gh,h',gB (T:=bB) rfl rfl hx hb,ho⟩
theorem Q2:NF cK M:=by
 intro s0 aF r H h L  ao ak an o  xs hx
 obtain⟨r',h',hb,aB,aC,rfl,ho⟩:=lD (cf:=cK) (m:=M) (aV:=cJ) rfl  s0 aF h L ao ak an  o H
 exact⟨aB,aC,h',gB (T:=bB) rfl rfl hx hb,ho⟩
theorem Mo:KV cK M:=by
 intro s0 r H  h xs hx
 exact bk (T:=bB) (deep:=bf) rfl rfl rfl bg hx (lE (cf:=cK) (m:=M) (aV:=cJ) rfl  s0 bu []   aW H)
theorem Q8:L5 cK M:=by
 intro s0 n0 r H  h xs hx
 exact bk (T:=bB) (deep:=bf) rfl rfl rfl bg hx (mh (cf:=cK) (m:=M) (aV:=cJ) rfl  s0 n0 bu []   aW H)
theorem LO:JO cK M:=by
 intro s0 DZ n0 r H h L  ao ak an o eB aP bU qu gM oA gN xs hx
 obtain⟨r',h',hb,aB,aC,rfl,ho⟩:=mi (cf:=cK) (m:=M) (aV:=cJ) rfl Mo s0 DZ n0 h L ao ak an eB aP bU  qu gM oA gN o H
 exact⟨aB,aC,h',gB (T:=bB) rfl rfl hx hb,ho⟩
theorem Tw:P5 cK M:=by
 intro  r H  h xs hx
 exact bk (T:=bB) (deep:=bf) rfl rfl rfl bg hx (k8 (cf:=cK) (m:=M) (aV:=cJ) rfl   bu []   aW H)
theorem Tx:P6 cK M:=by
 intro x0 r H  h xs hx
 exact bk (T:=bB) (deep:=bf) rfl rfl rfl bg hx (k9 (cf:=cK) (m:=M) (aV:=cJ) rfl  x0 bu []   aW H)
theorem Q9:NG cK M:=by
 intro s0 n0 r H  h xs hx
 exact bk (T:=bB) (deep:=bf) rfl rfl rfl bg hx (la (cf:=cK) (m:=M) (aV:=cJ) rfl  s0 n0 bu []   aW H)
theorem Ty:NH cK M:=by
 intro a0 b0 r H  h xs hx
 exact bk (T:=bB) (deep:=bf) rfl rfl rfl bg hx (oB (cf:=cK) (m:=M) (aV:=cJ) rfl  a0 b0 bu []   aW H)
theorem Ra:NI cK M:=by
 intro s0 n0 r H  h xs hx
 exact bk (T:=bB) (deep:=bf) rfl rfl rfl bg hx (lF (cf:=cK) (m:=M) (aV:=cJ) rfl  s0 n0 bu []   aW H)
theorem Tz:P7 cK M:=by
 intro a0 x0 r H  h xs hx
 exact bk (T:=bB) (deep:=bf) rfl rfl rfl bg hx (jH (cf:=cK) (m:=M) (aV:=cJ) rfl Q9 a0 x0 bu []   aW H)
theorem Rb:NJ cK M:=by
 intro s0 r H  h xs hx
 exact bk (T:=bB) (deep:=bf) rfl rfl rfl bg hx (qv (cf:=cK) (m:=M) (aV:=cJ) rfl  s0 bu []   aW H)
theorem Rc:∀kk,L6 cK M kk
 | 0=>by
  intro i0 x0 x1 x2 x3 r H h L  cW dp cX cD dT en dd cL o  xs hx
  cases H
 | kk+1=>by
  intro i0 x0 x1 x2 x3 r H h L  cW dp cX cD dT en dd cL o  xs hx
  obtain⟨r',h',hb,ly,hJ,rfl,ho⟩:=oC (cf:=cK) (m:=M) (aV:=cJ) rfl  i0 x0 x1 x2 x3 h L cW dp cX cD dT en dd cL  (Rc kk) o H
  exact⟨ly,hJ,h',gB (T:=bB) rfl rfl hx hb,ho⟩
theorem Re:NN cK M:=by
 intro s0 f0 r H eB aP gM gN h xs hx
 exact bk (T:=bB) (deep:=bf) rfl rfl rfl bg hx (vh (cf:=cK) (m:=M) (aV:=cJ) rfl  s0 f0 bu [] eB aP  gM gN aW H)
theorem TA:P8 cK M:=by
 intro s0 f0 r H eB aP gM gN h xs hx
 exact bk (T:=bB) (deep:=bf) rfl rfl rfl bg hx (vi (cf:=cK) (m:=M) (aV:=cJ) rfl  s0 f0 bu [] eB aP  gM gN aW H)
theorem TB:P9 cK M:=by
 intro a0 x0 r H  h xs hx
 exact bk (T:=bB) (deep:=bf) rfl rfl rfl bg hx (pw (cf:=cK) (m:=M) (aV:=cJ) rfl  a0 x0 bu []   aW H)
theorem TC:Qa cK M:=by
 intro gi r H  h xs hx
 exact bk (T:=bB) (deep:=bf) rfl rfl rfl bg hx (qw (cf:=cK) (m:=M) (aV:=cJ) rfl  gi bu []   aW H)
theorem TD:NO cK M:=by
 intro c0 r H  h xs hx
 exact bk (T:=bB) (deep:=bf) rfl rfl rfl bg hx (px (cf:=cK) (m:=M) (aV:=cJ) rfl  c0 bu []   aW H)
theorem TE:Qb cK M:=by
 intro x0 r H  h xs hx
 exact bk (T:=bB) (deep:=bf) rfl rfl rfl bg hx (nF (cf:=cK) (m:=M) (aV:=cJ) rfl  x0 bu []   aW H)
theorem TF:Qc cK M:=by
 intro x0 r H  h xs hx
 exact bk (T:=bB) (deep:=bf) rfl rfl rfl bg hx (lG (cf:=cK) (m:=M) (aV:=cJ) rfl  x0 bu []   aW H)
theorem Pq:IG cK M:=by
 intro aw a0 b0 aQ r H h L cg aJ o p8 fI eH B1 yM yN B2 xs hx
 have hn0:cg=aw.length:=cG (E:=af) o (q:=0) rfl
 subst hn0
 obtain⟨r',h',hb,rfl,ho⟩:=mT (cf:=cK) (m:=M) (aV:=cJ) rfl  aw a0 b0 aQ h L aJ p8 fI eH  B1 yM yN B2 o H
 exact⟨h',gB (T:=bB) rfl rfl hx hb,ho⟩
theorem Pt:II cK M:=by
 intro aw a0 b0 n0 aQ r H h L cg aJ o eC aZ aS gE gY gZ iE xs hx
 have hn0:cg=aw.length:=cG (E:=af) o (q:=0) rfl
 subst hn0
 obtain⟨r',h',hb,rfl,ho⟩:=qy (cf:=cK) (m:=M) (aV:=cJ) rfl  aw a0 b0 n0 aQ h L aJ eC aZ aS  gE gY gZ iE o H
 exact⟨h',gB (T:=bB) rfl rfl hx hb,ho⟩
theorem TG:NQ cK M:=by
 intro s0 r H  h xs hx
 exact bk (T:=bB) (deep:=bf) rfl rfl rfl bg hx (lH (cf:=cK) (m:=M) (aV:=cJ) rfl Mo s0 bu []   aW H)
theorem TH:Qd cK M:=by
 intro s0 r H h L  ao ak an o  xs hx
 obtain⟨r',h',hb,aB,aC,rfl,ho⟩:=ml (cf:=cK) (m:=M) (aV:=cJ) rfl LO Tw s0 h L ao ak an  o H
 exact⟨aB,aC,h',gB (T:=bB) rfl rfl hx hb,ho⟩
theorem TI:Qe cK M:=by
 intro s0 n0 r H h L  ao ak an o  xs hx
 obtain⟨r',h',hb,aB,aC,rfl,ho⟩:=mn (cf:=cK) (m:=M) (aV:=cJ) rfl LO Tx s0 n0 h L ao ak an  o H
 exact⟨aB,aC,h',gB (T:=bB) rfl rfl hx hb,ho⟩
theorem Pu:L7 cK M:=by
 intro s0 f0 r H eB aP gM gN h xs hx
 exact bk (T:=bB) (deep:=bf) rfl rfl rfl bg hx (qz (cf:=cK) (m:=M) (aV:=cJ) rfl Re s0 f0 bu [] eB aP  gM gN aW H)
theorem TJ:Qf cK M:=by
 intro n0 x0 r H  h xs hx
 exact bk (T:=bB) (deep:=bf) rfl rfl rfl bg hx (ka (cf:=cK) (m:=M) (aV:=cJ) rfl Q9 n0 x0 bu []   aW H)
theorem TK:NT cK M:=by
 intro s0 a0 b0 r H h L  ao ak an o  xs hx
 obtain⟨r',h',hb,aB,aC,rfl,ho⟩:=lI (cf:=cK) (m:=M) (aV:=cJ) rfl Ra s0 a0 b0 h L ao ak an  o H
 exact⟨aB,aC,h',gB (T:=bB) rfl rfl hx hb,ho⟩
theorem TL:Qg cK M:=by
 intro s0 kb r H h L Gz aJ o eB aP bU qu gM oA gN xs hx
 have hn0:Gz=s0.length:=cG (E:=af) o (q:=0) rfl
 subst hn0
 obtain⟨r',h',hb,rfl,ho⟩:=s7 (cf:=cK) (m:=M) (aV:=cJ) rfl Re s0 kb h L aJ eB aP bU  qu gM oA gN o H
 exact⟨h',gB (T:=bB) rfl rfl hx hb,ho⟩
theorem TM:Qh cK M:=by
 intro n0 x0 r H  h xs hx
 exact bk (T:=bB) (deep:=bf) rfl rfl rfl bg hx (kc (cf:=cK) (m:=M) (aV:=cJ) rfl Ra n0 x0 bu []   aW H)
theorem TN:Qi cK M:=by
 intro x0 x1 r H  h xs hx
 exact bk (T:=bB) (deep:=bf) rfl rfl rfl bg hx (kD (cf:=cK) (m:=M) (aV:=cJ) rfl Rb x0 x1 bu []   aW H)
theorem TO:Qj cK M:=by
 intro s0 f0 r H eB aP gM gN h xs hx
 exact bk (T:=bB) (deep:=bf) rfl rfl rfl bg hx (qA (cf:=cK) (m:=M) (aV:=cJ) rfl TA s0 f0 bu [] eB aP  gM gN aW H)
theorem TP:Qk cK M:=by
 intro s0 ke ni r H  h xs hx
 exact bk (T:=bB) (deep:=bf) rfl rfl rfl bg hx (sf (cf:=cK) (m:=M) (aV:=cJ) rfl TD s0 ke ni bu []   aW H)
theorem TQ:Ql cK M:=by
 intro x0 y0 r H  h xs hx
 exact bk (T:=bB) (deep:=bf) rfl rfl rfl bg hx (mo (cf:=cK) (m:=M) (aV:=cJ) rfl TE x0 y0 bu []   aW H)
theorem TR:Qm cK M:=by
 intro x0 y0 r H  h xs hx
 exact bk (T:=bB) (deep:=bf) rfl rfl rfl bg hx (kE (cf:=cK) (m:=M) (aV:=cJ) rfl TF x0 y0 bu []   aW H)
theorem Pv:KZ cK M:=by
 intro aw a0 m0 b0 aQ r H h L cg aJ o eC aZ aS gE gY gZ iE xs hx
 have hn0:cg=aw.length:=cG (E:=af) o (q:=0) rfl
 subst hn0
 obtain⟨r',h',hb,rfl,ho⟩:=vk (cf:=cK) (m:=M) (aV:=cJ) rfl Pt aw a0 m0 b0 aQ h L aJ eC aZ aS  gE gY gZ iE o H
 exact⟨h',gB (T:=bB) rfl rfl hx hb,ho⟩
theorem Pw:L8 cK M:=by
 intro s0 l0 r H  h xs hx
 exact bk (T:=bB) (deep:=bf) rfl rfl rfl bg hx (lb (cf:=cK) (m:=M) (aV:=cJ) rfl Mo Pu TJ s0 l0 bu []   aW H)
theorem Rf:N1 cK M:=by
 intro s0 a0 b0 r H h L  ao ak an o  xs hx
 obtain⟨r',h',hb,eR,aB,aC,rfl,ho⟩:=kF (cf:=cK) (m:=M) (aV:=cJ) rfl Q8 Ty TK s0 a0 b0 h L ao ak an  o H
 exact⟨eR,aB,aC,h',gB (T:=bB) rfl rfl hx hb,ho⟩
theorem Rh:N8 cK M:=by
 intro s0 aF r H  h L xs o hx
 obtain⟨r',h',hb,eR,rfl,ho⟩:=lf (cf:=cK) (m:=M) (aV:=cJ) rfl TL TM Tq s0 aF bu []   aW H
 exact⟨nL h.next eR,_,sc (T:=bB) (deep:=bf) rfl rfl rfl bg hx hb (zU),Has.eu o ho (Hr (fun _=>rfl) (.nil)),pq _ _⟩
theorem TS:Qo cK M:=by
 intro s0 cb n0 r H h L  ao ak an o  xs hx
 obtain⟨r',h',hb,aB,aC,rfl,ho⟩:=lJ (cf:=cK) (m:=M) (aV:=cJ) rfl LO TN s0 cb n0 h L ao ak an  o H
 exact⟨aB,aC,h',gB (T:=bB) rfl rfl hx hb,ho⟩
theorem Px:L9 cK M:=by
 intro s0 r H  h xs hx
 exact bk (T:=bB) (deep:=bf) rfl rfl rfl bg hx (si (cf:=cK) (m:=M) (aV:=cJ) rfl TP s0 bu []   aW H)
theorem TT:Qp cK M:=by
 intro x0 x1 x2 r H  h xs hx
 exact bk (T:=bB) (deep:=bf) rfl rfl rfl bg hx (kg (cf:=cK) (m:=M) (aV:=cJ) rfl Px Pu Tz x0 x1 x2 bu []   aW H)
theorem TU:Qq cK M:=by
 intro n0 lz r H  h xs hx
 exact bk (T:=bB) (deep:=bf) rfl rfl rfl bg hx (sj (cf:=cK) (m:=M) (aV:=cJ) rfl Px Pu Rb TB n0 lz bu []   aW H)
theorem Ri:Mb cK M:=by
 intro a0 b0 r H  h xs hx
 exact bk (T:=bB) (deep:=bf) rfl rfl rfl bg hx (mr (cf:=cK) (m:=M) (aV:=cJ) rfl TQ TC TR a0 b0 bu []   aW H)
theorem TV:Qr cK M:=by
 intro i0 j0 x0 r H  h xs hx
 exact bk (T:=bB) (deep:=bf) rfl rfl rfl bg hx (mU (cf:=cK) (m:=M) (aV:=cJ) rfl Ri i0 j0 x0 bu []   aW H)
theorem LP:∀kk,tc cK M kk
 | 0=>by
  intro aw a0 m0 b0 aQ r H h L cg aJ o eC aZ aS gE gY gZ iE xs hx
  cases H
 | kk+1=>by
  intro aw a0 m0 b0 aQ r H h L cg aJ o eC aZ aS gE gY gZ iE xs hx
  have hn0:cg=aw.length:=cG (E:=af) o (q:=0) rfl
  subst hn0
  obtain⟨r',h',hb,rfl,ho⟩:=sq (cf:=cK) (m:=M) (aV:=cJ) rfl Pv aw a0 m0 b0 aQ h L aJ eC aZ aS  (LP kk) gE gY gZ iE o H
  exact⟨h',gB (T:=bB) rfl rfl hx hb,ho⟩
theorem Rj:Oq cK M:=by
 intro s0 a0 b0 r H h L  ao ak an o  xs hx
 obtain⟨r',h',hb,eR,aB,aC,rfl,ho⟩:=lh (cf:=cK) (m:=M) (aV:=cJ) rfl Pw Rf Q2 Rh s0 a0 b0 h L ao ak an  o H
 exact⟨eR,aB,aC,h',gB (T:=bB) rfl rfl hx hb,ho⟩
theorem TW:Qs cK M:=by
 intro s0 a0 b0 r H h L  ao ak an o  xs hx
 obtain⟨r',h',hb,CJ,aB,aC,rfl,ho⟩:=lK (cf:=cK) (m:=M) (aV:=cJ) rfl Pw Rf Q2 Rh s0 a0 b0 h L ao ak an  o H
 exact⟨CJ,aB,aC,h',gB (T:=bB) rfl rfl hx hb,ho⟩
theorem TX:Ot cK M:=by
 intro s0 n0 r H  h xs hx
 exact bk (T:=bB) (deep:=bf) rfl rfl rfl bg hx (mw (cf:=cK) (m:=M) (aV:=cJ) rfl Pw Q8 s0 n0 bu []   aW H)
theorem TY:Qt cK M:=by
 intro s0 cb dn r H h L  ao ak an o  xs hx
 obtain⟨r',h',hb,aB,aC,rfl,ho⟩:=lj (cf:=cK) (m:=M) (aV:=cJ) rfl Tr LO TT s0 cb dn h L ao ak an  o H
 exact⟨aB,aC,h',gB (T:=bB) rfl rfl hx hb,ho⟩
theorem TZ:Qu cK M:=by
 intro x0 r H  h xs hx
 exact bk (T:=bB) (deep:=bf) rfl rfl rfl bg hx (kH (cf:=cK) (m:=M) (aV:=cJ) rfl Px x0 bu []   aW H)
theorem T0:Qv cK M:=by
 intro n0 x0 r H  h xs hx
 exact bk (T:=bB) (deep:=bf) rfl rfl rfl bg hx (oG (cf:=cK) (m:=M) (aV:=cJ) rfl TU n0 x0 bu []   aW H)
theorem T3:Qw cK M:=by
 intro aw n0 aQ r H h L cg aJ o kI dt cQ mV qC qD qE xs hx
 have hn0:cg=aw.length:=cG (E:=af) o (q:=0) rfl
 subst hn0
 obtain⟨r',h',hb,rfl,ho⟩:=vl (cf:=cK) (m:=M) (aV:=cJ) rfl Pq (LP _) aw n0 aQ h L aJ kI dt cQ  mV qC qD qE o H
 exact⟨h',gB (T:=bB) rfl rfl hx hb,ho⟩
theorem T4:Qx cK M:=by
 intro s0 r H  h xs hx
 exact bk (T:=bB) (deep:=bf) rfl rfl rfl bg hx (qF (cf:=cK) (m:=M) (aV:=cJ) rfl TG TX s0 bu []   aW H)
theorem T5:Qy cK M:=by
 intro s0 a0 r H h L  ao ak an o  xs hx
 obtain⟨r',h',hb,aB,aC,rfl,ho⟩:=lL (cf:=cK) (m:=M) (aV:=cJ) rfl LO TZ s0 a0 h L ao ak an  o H
 exact⟨aB,aC,h',gB (T:=bB) rfl rfl hx hb,ho⟩
theorem T6:Qz cK M:=by
 intro t0 r H  h xs hx
 exact bk (T:=bB) (deep:=bf) rfl rfl rfl bg hx (qG (cf:=cK) (m:=M) (aV:=cJ) rfl TO T0 t0 bu []   aW H)
theorem T7:QB cK M:=by
 intro x0 aQ r H h L Em aJ o eB aP bU qu gM oA gN xs hx
 have hn0:Em=x0.length:=cG (E:=af) o (q:=0) rfl
 subst hn0
 obtain⟨r',h',hb,rfl,ho⟩:=oH (cf:=cK) (m:=M) (aV:=cJ) rfl T3 x0 aQ h L aJ eB aP bU  qu gM oA gN o H
 exact⟨h',gB (T:=bB) rfl rfl hx hb,ho⟩
theorem T8:QC cK M:=by
 intro aI r H  h xs hx
 exact bk (T:=bB) (deep:=bf) rfl rfl rfl bg hx (oJ (cf:=cK) (m:=M) (aV:=cJ) rfl Ri T7 TV aI bu []   aW H)
theorem T9:QH cK M:=by
 intro t0 r H  h L xs o hx
 obtain⟨r',h',hb,eR,eG,rfl,ho⟩:=qH (cf:=cK) (m:=M) (aV:=cJ) rfl T8 (Rc _) t0 bu []   aW H
 exact⟨nL h.next eR,eG.map (nL h.next),_,sc (T:=bB) (deep:=bf) rfl rfl rfl bg hx hb (DT (gC (zU) (gC (rfl) (qY)))),Has.eu o ho (Hs (yH .nil)),pq _ _⟩
theorem Ua:QI cK M:=by
 intro t0 r H  h L xs o hx
 obtain⟨r',h',hb,eR,eG,rfl,ho⟩:=qI (cf:=cK) (m:=M) (aV:=cJ) rfl T6 T9 t0 bu []   aW H
 exact⟨nL h.next eR,eG.map (nL h.next),_,sc (T:=bB) (deep:=bf) rfl rfl rfl bg hx hb (IC (gC (DT (gC (zU) (gC (rfl) (qY)))) (gC (rfl) (qY)))),Has.eu o ho (Hs (yH .nil)),pq _ _⟩
theorem Ub:QJ cK M:=by
 intro s0 t0 r H h L  ao ak an o  xs hx
 obtain⟨r',h',hb,aB,aC,rfl,ho⟩:=mz (cf:=cK) (m:=M) (aV:=cJ) rfl Mo Ua s0 t0 h L ao ak an  o H
 exact⟨aB,aC,h',gB (T:=bB) rfl rfl hx hb,ho⟩
theorem Uc:OV cK M:=by
 intro s0 x0 r H h L  ao ak an o  xs hx
 obtain⟨r',h',hb,aB,aC,rfl,ho⟩:=te (cf:=cK) (m:=M) (aV:=cJ) rfl Rj TW TH T5 TI TY TS Ub s0 x0 h L ao ak an  o H
 exact⟨aB,aC,h',gB (T:=bB) rfl rfl hx hb,ho⟩
theorem Ud:QK cK M:=by
 intro l0 r H h L   o  xs hx
 obtain⟨r',h',hb,eR,gg,gh,rfl,ho⟩:=qJ (cf:=cK) (m:=M) (aV:=cJ) rfl Uc Tv l0 h L  o H
 exact⟨eR,gg,gh,h',gB (T:=bB) rfl rfl hx hb,ho⟩
theorem j4:S4 cK M:=by
 intro l0 a0 b0 gP r H  h xs hx
 exact bk (T:=bB) (deep:=bf) rfl rfl rfl bg hx (lM (cf:=cK) (m:=M) (aV:=cJ) rfl Tt Ts Ud Tu T4 Rj l0 a0 b0 gP bu []   aW H)
end Go.Proofs.Ytifafejidnjckaa
namespace Go.Proofs.Ytifafejidnjckaa
open Go Go.R Go.Proofs Go.RowKit Go.ChangeShapes Go.WideShapes
open Go.IntKind (i64 u64 u8 u32)
theorem all_true (uR:List AV)(h:om Try.prog 7 Try.f4.params.toList uR):∃cf h',CallOK Try.prog cf∧cf 4 uR bu=some (.bool true,h'):=by
 rw [show Try.f4.params.toList=[22,3,3,4] from by rw [Try.params4]] at h
 obtain⟨xs,ys,zs,ws,rfl,h1,h2,h3,h4⟩:=Cu h
 obtain⟨l,hl,fl⟩:=Fk (n:=0) h1
 obtain⟨a,fa⟩:=Bl (n:=6) h2
 obtain⟨b,fb⟩:=Bl (n:=6) h3
 obtain⟨k,fk⟩:=Fl (n:=6) h4
 exact⟨cK,bu,Jz,j4 l a b k true (zi (by decide) l a b k hl) bu _ (gp (ah (fl bu) (ah (fa bu) (ah (fb bu) (ah (fk bu) (ay))))))⟩
theorem oR (os:Os)(started:os.Started)(H:Type)(enc:TypeId × Value→H) :
  ReturnsInHanded {} Try.checked os 4 .any (Rows.storeLeastSpec.pre6 enc Try.prog Try.f4 Rows.storeLeastRow.domain false) (Rows.storeLeastSpec.post enc Try.prog Try.f4 false true false false):=by
 refine returnsInHanded_of_change (C:=Try.checked) (by kernel_rfl) started (by kernel_rfl) Try.func4
  (ChangeSpec.witness6 (enc:=enc) (C:=Try.checked) false ⟨#[],#[.slice none 0 0,.int .i64 0,.int .i64 0,.bool false],[]⟩ 8 (by kernel_rfl) (by kernel_rfl) (by kernel_rfl) (by kernel_rfl)) ?_
 intro W base args ds gs before dK hW Ue _
 exact sS (cf:=fun _ _ _=>none) (P:=Try.prog) (m:=7) (tb:=4) (by kernel_rfl)
  (by rw [show Try.f4.params.toList=[22,3,3,4] from by rw [Try.params4]]; intro t ht; simp only [UT,List.not_mem_nil,or_false] at ht; rcases ht with rfl | rfl | rfl | rfl<;>exact⟨by kernel_rfl,of_decide_eq_true (by kernel_rfl)⟩)
  (by rw [show Try.f4.params.toList=[22,3,3,4] from by rw [Try.params4]]; intro t ht; simp only [UT,List.not_mem_nil,or_false] at ht; rcases ht with rfl | rfl | rfl | rfl<;>kernel_rfl) rfl rfl Try.underlying4
  (fun ds HX=>by
   have:ds.length=4:=by rw [HX]; rfl
   match ds,this with
   | [d0,d1,d2,d3],_=>rfl) all_true dK hW
theorem storeLeast_holds:Rows.StoreLeastSaid:=
 OpenClaim.holds_of_wide 4 Try.f4 rfl rfl rfl rfl rfl rfl rfl ⟨rfl,rfl,rfl,rfl,rfl⟩ rfl rfl rfl rfl rfl (by kernel_rfl) Try.func4 (by kernel_rfl)
  (of_decide_eq_true (by kernel_rfl)) (by unfold Func.isWrapper; first | (rw [if_pos (by decide +kernel)]; kernel_rfl) | (rw [if_neg (by decide +kernel)]; exact⟨rfl,rfl⟩))
  (fun os started H enc _=>oR os started H enc)
end Go.Proofs.Ytifafejidnjckaa
