/- Part of the proof: PB9, PV1, PA8, PA9, PA10, PA11, PA12, PC1, PC2, Q22, PC3, PC4, PC5. -/
import Derived.Test.YtifafejidnjckaaK12
set_option linter.unusedVariables false
set_option linter.unusedSimpArgs false
set_option maxRecDepth 100000
open Bool renaming and_eq_true → XN, false_eq_true → XX, not_eq_true' → YL, not_true → YQ
open Int renaming toNat_natCast → XY
open List renaming getElem?_eq_getElem → XO, getElem?_eq_some_iff → XQ, mem_of_getElem? → XT, length_append → XU, drop_eq_getElem_cons → XW, getElem?_append_left → XZ, length_map → X0, getElem?_append_right → X1, length_cons → X2, append_assoc → X3, getD_eq_getElem?_getD → X4, all_eq_true → X5, mem_cons → X7, map_cons → X8, mem_singleton → X9, getElem?_eq_none → Yc, eq_nil_of_length_eq_zero → Yd, map_append → Ye, length_nil → Yf, mem_append → Yg, getElem?_cons_zero → Ym, mem_map → Yo, take_succ_eq_append_getElem → Yu, mem_append_left → Yy, getElem?_map → YB, getElem?_of_mem → YC, length_take → YD, idxOf_lt_length_of_mem → YE, ext_getElem? → YS, set_append_right → YV, map_congr_left → Y0, append_nil → Y9, nodup_append → Zc, map_nil → Ze, take_length → Zf
open Nat renaming le_refl → XP, zero_le → Yt, le_trans → Yz, add_sub_cancel_left → YK, sub_self → YP, add_zero → Y3
open Option renaming bind_some → XJ, map_some → XR
open Option.some renaming injEq → XM, inj → Yj
namespace Go.Proofs.Ytifafejidnjckaa
open Go Go.R
open Go.IntKind (i64 u64 u8 u32)
inductive zP (κ:Int→Int)(A:Int→List Int):List Int→List Int→List Int→Prop
 | nil (o:List Int):zP κ A [] o o
 | skip {v:Int} {st o o':List Int}:κ v∈o.map κ→zP κ A st o o'→zP κ A (v::st) o o'
 | push {v:Int} {st o o':List Int}:κ v∉o.map κ→zP κ A (A v++st) (o++[v]) o'→zP κ A (v::st) o o'
theorem zP.Wb {κ:Int→Int}{A:Int→List Int}{st o o1 o2:List Int}(h:zP κ A st o o1)(k:zP κ A st o o2):o1=o2:=by
 induction h with
 | nil o=>cases k; rfl
 | skip hm _ ih=>
  cases k with
  | skip _ k=>exact ih k
  | push hn _=>exact absurd hm hn
 | push hn _ ih=>
  cases k with
  | skip hm _=>exact absurd hm hn
  | push _ k=>exact ih k
theorem zP.facts {κ:Int→Int}{A:Int→List Int}{n:Nat}{st o o':List Int}(h:zP κ A st o o')(hA:∀v:Int,0≤v→v<n→∀a∈A v,0≤a∧a<n)(hst:∀v∈st,0≤v∧v<n)(ho:∀v∈o,0≤v∧v<n)(JF:(o.map κ).Nodup) :
  (∃t,o'=o++t)∧(∀v∈o',0≤v∧v<n)∧(o'.map κ).Nodup∧(∀v∈st,κ v∈o'.map κ)∧((∀v∈o,∀a∈A v,κ a∈o.map κ∨a∈st)→∀v∈o',∀a∈A v,κ a∈o'.map κ):=by
 induction h with
 | nil o=>
  refine⟨⟨[],by simp⟩,ho,JF,?_,?_⟩
  ·intro v hv; cases hv
  ·intro h v hv a ha; exact (h v hv a ha).resolve_right (by simp)
 | @skip v st o o' hm _ ih=>
  obtain⟨⟨t,rfl⟩,a,b,c,d⟩:=ih (fun x hx=>hst x (by simp [hx])) ho JF
  refine⟨⟨t,rfl⟩,a,b,fun x hx=>?_,fun h=>d fun x hx y hy=>?_⟩
  ·rcases X7.1 hx with rfl | hx
   ·rw [Ye]; exact Yy _ hm
   ·exact c x hx
  ·rcases h x hx y hy with h | h
   ·exact .inl h
   ·rcases X7.1 h with rfl | h
    ·exact .inl hm
    ·exact .inr h
 | @push v st o o' hn _ ih=>
  have hv:=hst v (by simp)
  have h1:∀x∈A v++st,0≤x∧x<n:=fun x hx=>by
   rcases Yg.1 hx with hx | hx
   ·exact hA v hv.1 hv.2 x hx
   ·exact hst x (by simp [hx])
  have h2:∀x∈o++[v],0≤x∧x<n:=fun x hx=>by
   rcases Yg.1 hx with hx | hx
   ·exact ho x hx
   ·rw [X9] at hx; subst hx; exact hv
  have h3:((o++[v]).map κ).Nodup:=by
   rw [Ye,Zc]
   refine⟨JF,by simp,fun a ha b hb=>?_⟩
   simp only [X8,Ze,X9] at hb
   subst hb; intro e; subst e; exact hn ha
  obtain⟨⟨t,rfl⟩,a,b,c,d⟩:=ih h1 h2 h3
  refine⟨⟨[v]++t,by simp⟩,a,b,fun x hx=>?_,fun h=>d fun x hx y hy=>?_⟩
  ·rcases X7.1 hx with rfl | hx
   ·simp
   ·exact c x (by simp [hx])
  ·rcases Yg.1 hx with hx | hx
   ·rcases h x hx y hy with h | h
    ·exact .inl (by rw [Ye]; exact Yy _ h)
    ·rcases X7.1 h with rfl | h
     ·exact .inl (by simp)
     ·exact .inr (by simp [h])
   ·rw [X9] at hx; subst hx
    exact .inr (Yy _ hy)
theorem zt (cls:List Int)(l:List aj)(k:Nat)(i:Int)(o:List Int):ug cls l (k+1) i o=if gh cls i∈o.map (gh cls) then o else (nd l i).args.foldl (fun o a=>ug cls l k a o) (o++[i]):=rfl
theorem G4 {cls:List Int}{l:List aj}(ok:C3 l):∀(k:Nat) (i:Int) (o:List Int),0≤i→i<l.length→Vs cls l.length o→Vs cls l.length (ug cls l k i o)∧o.length≤(ug cls l k i o).length
 | 0,i,o,_,_,v=>⟨v,XP _⟩
 | k+1,i,o,h0,h1,v=>by
  rw [zt]
  split
  ·exact⟨v,XP _⟩
  ·rename_i h
   have v1:Vs cls l.length (o++[i]):=by
    refine⟨?_,fun x hx=>?_⟩
    ·rw [Ye,Zc]
     refine⟨v.IK,by simp,fun a ha b hb=>?_⟩
     simp only [X8,Ze,X9] at hb
     subst hb; intro e; subst e; exact h ha
    ·rcases Yg.1 hx with hx | hx
     ·exact v.nY x hx
     ·simp only [X9] at hx; subst hx; exact⟨h0,h1⟩
   have fold:∀(zs:List Int) (o:List Int),(∀a∈zs,0≤a∧a<l.length)→Vs cls l.length o→Vs cls l.length (zs.foldl (fun o a=>ug cls l k a o) o)∧o.length≤(zs.foldl (fun o a=>ug cls l k a o) o).length:=by
    intro zs
    induction zs with
    | nil=>intro o _ v; exact⟨v,XP _⟩
    | cons a zs ih=>
     intro o ha v
     have hr:=ha a (by simp)
     obtain⟨v2,l2⟩:=G4 ok k a o hr.1 hr.2 v
     obtain⟨v3,l3⟩:=ih (ug cls l k a o) (fun x hx=>ha x (by simp [hx])) v2
     exact⟨v3,Yz l2 l3⟩
   obtain⟨v2,l2⟩:=fold (nd l i).args (o++[i]) (ok.2 _ (kZ h0 h1)).2 v1
   exact⟨v2,by simp at l2; omega⟩
theorem so {cls:List Int}{l:List aj}(ok:C3 l):∀(k:Nat) (i:Int) (o st o':List Int),0≤i→i<l.length→Vs cls l.length o→l.length<k+o.length→
  zP (gh cls) (fun v=>(nd l v).args) st (ug cls l k i o) o'→zP (gh cls) (fun v=>(nd l v).args) (i::st) o o'
 | 0,i,o,st,o',_,_,v,hk,_=>absurd v.ED (by omega)
 | k+1,i,o,st,o',h0,h1,v,hk,h=>by
  rw [zt] at h
  by_cases hm:gh cls i∈o.map (gh cls)
  ·rw [if_pos hm] at h
   exact .skip hm h
  ·rw [if_neg hm] at h
   refine .push hm ?_
   have v1:Vs cls l.length (o++[i]):=by
    refine⟨?_,fun x hx=>?_⟩
    ·rw [Ye,Zc]
     refine⟨v.IK,by simp,fun a ha b hb=>?_⟩
     simp only [X8,Ze,X9] at hb
     subst hb; intro e; subst e; exact hm ha
    ·rcases Yg.1 hx with hx | hx
     ·exact v.nY x hx
     ·simp only [X9] at hx; subst hx; exact⟨h0,h1⟩
   have fold:∀(zs:List Int) (o:List Int),(∀a∈zs,0≤a∧a<l.length)→Vs cls l.length o→l.length<k+o.length→zP (gh cls) (fun v=>(nd l v).args) st (zs.foldl (fun o a=>ug cls l k a o) o) o'→zP (gh cls) (fun v=>(nd l v).args) (zs++st) o o':=by
    intro zs
    induction zs with
    | nil=>intro o _ _ _ h; exact h
    | cons a zs ih=>
     intro o ha v hk h
     have hr:=ha a (by simp)
     obtain⟨v2,l2⟩:=G4 ok k a o hr.1 hr.2 v
     exact so ok k a o (zs++st) o' hr.1 hr.2 v hk (ih _ (fun x hx=>ha x (by simp [hx])) v2 (by omega) h)
   exact fold (nd l i).args (o++[i]) (ok.2 _ (kZ h0 h1)).2 v1 (by simp; omega) h
theorem G5 {od:List Int}{n:Nat}(h:od.Nodup)(hr:∀x∈od,0≤x∧x<n):od.length≤n:=by
 have:=h.length_le_of_subset (l₂:=ints n) (fun x hx=>jC.2 (hr x hx))
 rwa [fi] at this
end Go.Proofs.Ytifafejidnjckaa
namespace Go.Proofs.Ytifafejidnjckaa
open Go Go.R
open Go.IntKind (i64 u64 u8 u32)
structure xB (l k:List aj)(R:Int→Int→Prop):Prop where
 nY:∀i j,R i j→(0≤i∧i<l.length)∧0≤j∧j<k.length
 top:∀i j,R i j→Alike (nd l i) (nd k j)
 arg:∀i j,R i j→∀n,n<(nd l i).args.length→R (gt (nd l i).args n) (gt (nd k j).args n)
theorem Min.same {l:List aj}{c:List Int}(M:Min l c){a b:Int}(a0:0≤a)(a1:a<l.length)(b0:0≤b)(b1:b<l.length)(e:gh c a=gh c b) :
  Alike (nd l a) (nd l b)∧∀n,n<(nd l a).args.length→gh c (gt (nd l a).args n)=gh c (gt (nd l b).args n):=by
 have ea:((a.toNat:Nat):Int)=a:=by omega
 have eb:((b.toNat:Nat):Int)=b:=by omega
 have hA:=M.top a.toNat b.toNat (by omega) (by omega) e
 have hg:=M.arg a.toNat b.toNat (by omega) (by omega) e
 rw [ea,eb] at hA hg
 exact⟨hA,hg⟩
theorem xB.swap {l k:List aj}{R:Int→Int→Prop}(S:xB l k R):xB k l fun j i=>R i j:=
 ⟨fun i j h=>⟨(S.nY j i h).2,(S.nY j i h).1⟩,fun i j h=>(S.top j i h).symm,fun i j h n hn=>S.arg j i h n (by have:=(S.top j i h).len; omega)⟩
theorem xB.cls {l k:List aj}{R:Int→Int→Prop}(S:xB l k R){c1 c2:List Int}(M1:Min l c1)(M2:Min k c2){i j i' j':Int}(h:R i j)(h':R i' j')(e:gh c1 i=gh c1 i'):gh c2 j=gh c2 j':=by
 have g:=S.nY _ _ h
 have g':=S.nY _ _ h'
 refine M2.max (fun a b=>∃i i':Int,R i a∧R i' b∧gh c1 i=gh c1 i') ⟨?_,?_,?_⟩ j.toNat j'.toNat ⟨i,i',by rwa [show ((j.toNat:Nat):Int)=j by omega],by rwa [show ((j'.toNat:Nat):Int)=j' by omega],e⟩
 ·rintro a b ⟨i,i',h,h',_⟩
  have:=S.nY _ _ h
  have:=S.nY _ _ h'
  omega
 ·rintro a b ⟨i,i',h,h',e⟩
  have g:=S.nY _ _ h
  have g':=S.nY _ _ h'
  exact ((S.top _ _ h).symm.trans (M1.same g.1.1 g.1.2 g'.1.1 g'.1.2 e).1).trans (S.top _ _ h')
 ·rintro a b ⟨i,i',h,h',e⟩ n hn
  have g:=S.nY _ _ h
  have g':=S.nY _ _ h'
  obtain⟨sA,sg⟩:=M1.same g.1.1 g.1.2 g'.1.1 g'.1.2 e
  have MK:n<(nd l i).args.length:=by have:=(S.top _ _ h).len; omega
  have k1:=S.arg _ _ h n MK
  have k2:=S.arg _ _ h' n (by have:=sA.len; omega)
  have r1:=(S.nY _ _ k1).2
  have r2:=(S.nY _ _ k2).2
  exact⟨_,_,by rwa [show (((gt (nd k a).args n).toNat:Nat):Int)=gt (nd k a).args n by omega],by rwa [show (((gt (nd k b).args n).toNat:Nat):Int)=gt (nd k b).args n by omega],sg n MK⟩
inductive Rl (R:Int→Int→Prop):List Int→List Int→Prop
 | nil:Rl R [] []
 | cons {a b:Int} {xs ys:List Int}:R a b→Rl R xs ys→Rl R (a::xs) (b::ys)
theorem Rl.app {R:Int→Int→Prop}{a b c d:List Int}(h:Rl R a b)(k:Rl R c d):Rl R (a++c) (b++d):=by
 induction h with
 | nil=>exact k
 | cons h _ ih=>exact .cons h ih
theorem Rl.len {R:Int→Int→Prop}{a b:List Int}(h:Rl R a b):a.length=b.length:=by
 induction h with
 | nil=>rfl
 | cons _ _ ih=>simp [ih]
theorem Rl.at {R:Int→Int→Prop}{a b:List Int}(h:Rl R a b):∀n,n<a.length→R (gt a n) (gt b n):=by
 induction h with
 | nil=>intro n hn; exact absurd hn (by simp)
 | cons h _ ih=>
  intro n hn
  cases n with
  | zero=>exact h
  | succ n=>exact ih n (by simpa using hn)
theorem Rl.of {R:Int→Int→Prop}:∀{a b:List Int},a.length=b.length→(∀n,n<a.length→R (gt a n) (gt b n))→Rl R a b
 | [],[],_,_=>.nil
 | [],_::_,h,_=>by simp at h
 | _::_,[],h,_=>by simp at h
 | x::a,y::b,h,k=>.cons (k 0 (by simp)) (Rl.of (by simpa using h) fun n hn=>k (n+1) (by simpa using hn))
section
variable {l k:List aj}{R:Int→Int→Prop}{c1 c2:List Int}
theorem xB.mem (S:xB l k R)(M1:Min l c1)(M2:Min k c2){v w:Int}(h:R v w){o o2:List Int}(ho:Rl R o o2):gh c1 v∈o.map (gh c1)↔gh c2 w∈o2.map (gh c2):=by
 induction ho with
 | nil=>simp
 | cons h' _ ih=>
  rw [X8,X8,X7,X7,ih]
  have z1:=S.cls M1 M2 h h'
  have z2:=S.swap.cls M2 M1 h h'
  constructor
  ·rintro (e | e)
   ·exact .inl (z1 e)
   ·exact .inr e
  ·rintro (e | e)
   ·exact .inl (z2 e)
   ·exact .inr e
theorem xB.idx (S:xB l k R)(M1:Min l c1)(M2:Min k c2){v w:Int}(h:R v w){o o2:List Int}(ho:Rl R o o2):idx c1 o v=idx c2 o2 w:=by
 unfold Go.Proofs.Ytifafejidnjckaa.idx
 congr 1
 induction ho with
 | nil=>rfl
 | @cons a b xs ys h' _ ih=>
  rw [X8,X8,List.idxOf_cons,List.idxOf_cons,ih]
  have h1:=S.cls M1 M2 h' h
  have h2:=S.swap.cls M2 M1 h' h
  by_cases e:gh c1 a=gh c1 v
  ·rw [e,h1 e]; simp
  ·have e2:¬gh c2 b=gh c2 w:=fun z=>e (h2 z)
   rw [show (gh c1 a==gh c1 v)=false from by simpa using e,show (gh c2 b==gh c2 w)=false from by simpa using e2]
theorem xB.pre (S:xB l k R)(M1:Min l c1)(M2:Min k c2){st o o':List Int}(h:zP (gh c1) (fun v=>(nd l v).args) st o o'):∀{IC o2:List Int},Rl R st IC→Rl R o o2→∃LD,zP (gh c2) (fun v=>(nd k v).args) IC o2 LD∧Rl R o' LD:=by
 induction h with
 | nil o=>intro IC o2 hs ho; cases hs; exact⟨o2,.nil _,ho⟩
 | skip hm _ ih=>
  intro IC o2 hs ho
  cases hs with
  | cons h hs=>
   obtain⟨LD,k1,k2⟩:=ih hs ho
   exact⟨LD,.skip ((S.mem M1 M2 h ho).1 hm) k1,k2⟩
 | push hn _ ih=>
  intro IC o2 hs ho
  cases hs with
  | cons h hs=>
   obtain⟨LD,k1,k2⟩:=ih ((Rl.of (S.top _ _ h).len (S.arg _ _ h)).app hs) (ho.app (.cons h .nil))
   exact⟨LD,.push (fun z=>hn ((S.mem M1 M2 h ho).2 z)) k1,k2⟩
end
theorem IU {c O:List Int}{a b:Int}(h:gh c a=gh c b):idx c O a=idx c O b:=by unfold idx; rw [h]
theorem LF {f:Int→Int}{a b:List Int}{g:Int→Int}(hl:a.length=b.length)(h:∀n,n<a.length→f (gt a n)=g (gt b n)):a.map f=b.map g:=by
 apply YS fun n=>?_
 simp only [YB]
 by_cases hn:n<a.length
 ·rw [eF hn,eF (by omega)]; simp only [XR,h n hn]
 ·rw [Yc (by omega),Yc (by omega)]; rfl
theorem En {m:Nat}(hm:2 ^ 41≤m){t u:bc}(ht:gf t=true)(hu:gf u=true){R:Int→Int→Prop}(S:xB t.nodes u.nodes R)(hr:R t.root u.root):∃s,dw.f m t=some s∧dw.f m u=some s:=by
 have xo:(2:Nat) ^ 41=2199023255552:=by decide
 obtain⟨N3,_,r0,r1,_⟩:=jm ht
 obtain⟨R7,_,q0,q1,_⟩:=jm hu
 obtain⟨c1,n1,e1,M1,Q1,_⟩:=kx hm ht
 obtain⟨c2,n2,e2,M2,Q2,_⟩:=kx hm hu
 have l1:=N3.1
 have l2:=R7.1
 have P1:=so (cls:=c1) N3 m t.root [] [] _ r0 r1 ⟨by simp,fun x hx=>by cases hx⟩ (by simp; omega) (.nil _)
 have P2:=so (cls:=c2) R7 m u.root [] [] _ q0 q1 ⟨by simp,fun x hx=>by cases hx⟩ (by simp; omega) (.nil _)
 obtain⟨LD,k1,k2⟩:=S.pre M1 M2 P1 (.cons hr .nil) .nil
 have:=k1.Wb P2
 subst this
 generalize XB:ug c1 t.nodes m t.root []=O1 at *
 generalize XC:ug c2 u.nodes m u.root []=O2 at *
 have hl:=k2.len
 have w1:=Q1.len
 have w2:=Q2.len
 have hn:n1=n2:=by
  apply YS fun q=>?_
  by_cases hq:q<O1.length
  ·rw [Q1.new q (by simp) hq,Q2.new q (by simp) (by omega)]
   have h:=k2.at q hq
   have A:=S.top _ _ h
   unfold xu
   rw [A.kind,A.int,A.label,LF A.len fun n hn=>S.idx M1 M2 (S.arg _ _ h n hn) k2]
  ·rw [Yc (by omega),Yc (by omega)]
 subst hn
 exact⟨_,e1,e2⟩
theorem Ba {n:aj}{a b:Int}{f:Int→Int}(h:fA n a=true)(hf:∀x∈n.args,0≤f x∧f x<b):fA ⟨n.kind,n.int,n.label,n.args.map f⟩ b=true:=by
 unfold fA at h ⊢
 have he:(n.args.map f).isEmpty=n.args.isEmpty:=by cases n.args<;>rfl
 dsimp only
 rw [he,X0]
 have ha:((n.args.map f).all fun a=>decide (0≤a)&&decide (a<b))=true:=by
  rw [X5]
  intro x hx
  obtain⟨y,hy,rfl⟩:=Yo.1 hx
  have:=hf y hy
  simp only [XN,decide_eq_true_eq]; exact this
 rw [ha]
 split<;>rename_i h0
 ·rw [if_pos h0] at h; exact h
 ·rw [if_neg h0] at h
  split<;>rename_i h1
  ·rw [if_pos h1] at h; exact h
  ·rw [if_neg h1] at h
   split<;>rename_i h2
   ·rw [if_pos h2] at h; exact h
   ·rw [if_neg h2] at h
    split<;>rename_i h3
    ·rw [if_pos h3] at h
     simp only [XN] at h ⊢
     exact⟨h.1,trivial⟩
    ·rw [if_neg h3] at h
     exact h
theorem lI {m:Nat}(hm:2 ^ 41≤m){t:bc}(ht:gf t=true):∃s R,dw.f m t=some s∧gf s=true∧s.nodes.length≤t.nodes.length∧xB t.nodes s.nodes R∧R t.root s.root:=by
 have xo:(2:Nat) ^ 41=2199023255552:=by decide
 obtain⟨ok,_,r0,r1,_⟩:=jm ht
 obtain⟨c,ns,e,M,Q,hr⟩:=kx hm ht
 have l1:=ok.1
 have fv:=ht
 unfold gf at fv
 simp only [XN,decide_eq_true_eq] at fv
 generalize hO:ug c t.nodes m t.root []=O at *
 have ED:=Q.vs.ED
 have hlen:=Q.len
 have oP:0<O.length:=by cases O with | nil=>simp at hr | cons _ _=>simp
 have JF:∀q:Nat,q<O.length→nd ns (q:Int)=xu c t.nodes O (gt O q):=fun q hq=>by
  have:=Q.new q (by simp) hq
  unfold nd
  rw [XY,X4,this]; rfl
 have OM:∀{v:Int},gh c v∈O.map (gh c)→0≤idx c O v∧idx c O v<O.length∧gh c (gt O (idx c O v).toNat)=gh c v:=fun {v} hv=>by
  have h1:=YE hv
  have h2:=List.getElem_idxOf h1
  rw [X0] at h1
  unfold idx
  refine⟨by omega,by omega,?_⟩
  rw [XY]
  have h3:=XO (l:=O.map (gh c)) (i:=(O.map (gh c)).idxOf (gh c v)) (by rw [X0]; exact h1)
  rw [h2,YB,eF h1] at h3
  exact Yj h3
 refine⟨⟨ns,0⟩,fun i j=>(0≤i∧i<t.nodes.length)∧gh c i∈O.map (gh c)∧j=idx c O i,e,?_,by show ns.length≤_; omega,⟨?_,?_,?_⟩,⟨r0,r1⟩,hr,?_⟩
 ·unfold gf
  simp only [XN,decide_eq_true_eq]
  refine⟨⟨⟨⟨by omega,by omega⟩,by omega⟩,by omega⟩,?_⟩
  rw [X5]
  intro x hx
  obtain⟨q,hq,e2⟩:=List.getElem_of_mem hx
  have h1:=Q.new q (by simp) (by omega)
  rw [XO hq,e2] at h1
  have h1:=Yj h1
  subst h1
  have Hu:=Q.vs.nY _ (bX (l:=O) (k:=q) (by omega))
  refine Ba (X5.1 fv.2 _ (kZ Hu.1 Hu.2)) fun a ha=>?_
  have:=OM (Q.arg q (by simp) (by omega) a ha)
  omega
 ·rintro i j ⟨h1,h2,rfl⟩
  have:=OM h2
  exact⟨h1,by show 0≤_∧_<(ns.length:Int); omega⟩
 ·rintro i j ⟨h1,h2,rfl⟩
  obtain⟨a,b,d⟩:=OM h2
  have Hu:=Q.vs.nY _ (bX (l:=O) (k:=(idx c O i).toNat) (by omega))
  have hx:=JF (idx c O i).toNat (by omega)
  rw [show (((idx c O i).toNat:Nat):Int)=idx c O i by omega] at hx
  rw [hx]
  have A:=(M.same h1.1 h1.2 Hu.1 Hu.2 d.symm).1
  exact⟨A.kind,A.int,A.label,by show _=(List.map _ _).length; rw [X0]; exact A.len⟩
 ·rintro i j ⟨h1,h2,rfl⟩ n hn
  obtain⟨a,b,d⟩:=OM h2
  have Hu:=Q.vs.nY _ (bX (l:=O) (k:=(idx c O i).toNat) (by omega))
  have hx:=JF (idx c O i).toNat (by omega)
  rw [show (((idx c O i).toNat:Nat):Int)=idx c O i by omega] at hx
  rw [hx]
  obtain⟨A,hg⟩:=M.same h1.1 h1.2 Hu.1 Hu.2 d.symm
  have J3:n<(nd t.nodes (gt O (idx c O i).toNat)).args.length:=by have:=A.len; omega
  have hg:=hg n hn
  have hin:=Q.arg (idx c O i).toNat (by simp) (by omega) _ (bX J3)
  refine⟨(ok.2 _ (kZ h1.1 h1.2)).2 _ (bX hn),by rw [hg]; exact hin,?_⟩
  have e1:gt (xu c t.nodes O (gt O (idx c O i).toNat)).args n=idx c O (gt (nd t.nodes (gt O (idx c O i).toNat)).args n):=by
   have h3:=eF (l:=(xu c t.nodes O (gt O (idx c O i).toNat)).args) (k:=n) (by show n<(List.map _ _).length; rw [X0]; exact J3)
   have h4:(xu c t.nodes O (gt O (idx c O i).toNat)).args[n]? = some (idx c O (gt (nd t.nodes (gt O (idx c O i).toNat)).args n)):=by
    show (List.map _ _)[n]? = _
    rw [YB,eF J3]; rfl
   rw [h4] at h3; exact (Yj h3).symm
  rw [e1]
  exact IU hg.symm
 ·show (0:Int)=idx c O t.root
  have P1:=so (cls:=c) ok m t.root [] [] _ r0 r1 ⟨by simp,fun x hx=>by cases hx⟩ (by simp; omega) (.nil _)
  rw [hO] at P1
  cases P1 with
  | skip h _=>simp at h
  | push _ k=>
   obtain⟨⟨T,e⟩,_⟩:=k.facts (n:=t.nodes.length) (fun v a b=>(ok.2 _ (kZ a b)).2) (fun v hv=>by
    rcases Yg.1 hv with hv | hv
    ·exact (ok.2 _ (kZ r0 r1)).2 v hv
    ·cases hv) (fun v hv=>by simp at hv; subst hv; exact⟨r0,r1⟩) (by simp)
   rw [e]
   unfold idx
   simp
end Go.Proofs.Ytifafejidnjckaa
namespace Go.Uf
open Go Go.R
open Go.IntKind (i64 u64 u8 u32)
def fQ (a L:Nat):List Int:=(List.range L).map fun i=>((a+i:Nat):Int)
theorem nH (a L:Nat):(fQ a L).length=L:=by simp [fQ]
theorem vJ (a L:Nat):fQ a (L+1)=fQ a L++[((a+L:Nat):Int)]:=by
 unfold fQ; rw [List.range_succ,Ye]; rfl
theorem G6 {to:List Int}(o:HD to):∀L,HD (to++fQ to.length L)∧(∀n,Rg to.length n→rp (to++fQ to.length L) n=rp to n)∧∀n:Int,(to.length:Int)≤n→n<to.length+L→rp (to++fQ to.length L) n=n
 | 0=>⟨by simpa [fQ] using o,fun n _=>by simp [fQ],fun n h1 h2=>by omega⟩
 | L+1=>by
  obtain⟨a,b,c⟩:=G6 o L
  have hl:(to++fQ to.length L).length=to.length+L:=by rw [XU,nH]
  have e:to++fQ to.length (L+1)=(to++fQ to.length L)++[(((to++fQ to.length L).length:Nat):Int)]:=by
   rw [vJ,←X3,hl]
  obtain⟨g1,g2,g3⟩:=NP a
  rw [←e] at g1 g2 g3
  refine⟨g1,fun n h=>?_,fun n h1 h2=>?_⟩
  ·rw [g2 n (by unfold Rg at h ⊢; rw [hl]; omega),b n h]
  ·by_cases h:n=to.length+L
   ·have:n=(((to++fQ to.length L).length:Nat):Int):=by rw [hl]; omega
    rw [this]; exact g3
   ·rw [g2 n (by unfold Rg; rw [hl]; omega)]
    exact c n h1 (by omega)
theorem mw {N V:List aj}{n:Int}(h:Rg N.length n):dq (N++V) n=dq N n:=by
 have hl:n.toNat<N.length:=by have:=h.1; have:=h.2; omega
 unfold dq
 rw [X4,X4,XZ hl]
end Go.Uf
namespace Go.Proofs.Ytifafejidnjckaa
open Go Go.R Go.Uf
open Go.IntKind (i64 u64 u8 u32)
def pY (s s':ab):Prop:=s.aa.length≤s'.aa.length∧(∀n,Rg s.aa.length n→ib s.aa (rp s.ae n)→iG (dq s.aa (rp s.ae n)) (dq s'.aa (rp s'.ae n)))∧(∀n,Rg s.aa.length n→dq s'.aa n=dq s.aa n)∧gB s.aa (rp s.ae) (rp s'.ae)
theorem iG.refl (a:aj):iG a a:=⟨rfl,rfl,rfl,rfl⟩
theorem pY.refl (s:ab):pY s s:=⟨XP _,fun _ _ _=>iG.refl _,fun _ _=>rfl,fun _ _ _ _ h=>h⟩
theorem qM {n:aj}{size uk z:Int}(h:fA n size=true)(f:Int→Int)(hf:∀a∈n.args,0≤f a∧f a<uk)(h0:n.kind=0→0≤z)(h1:n.kind≠0→z=n.int):fA ⟨n.kind,z,n.label,n.args.map f⟩ uk=true:=by
 unfold fA at h ⊢
 simp only at h ⊢
 by_cases k0:n.kind=0
 ·rw [if_pos k0] at h ⊢
  simp only [XN,decide_eq_true_eq,List.isEmpty_map] at h ⊢
  exact⟨⟨h0 k0,h.1.2⟩,h.2⟩
 ·have hz:=h1 k0
  subst hz
  rw [if_neg k0] at h ⊢
  split at h
  ·rename_i k1; rw [if_pos k1]; simpa using h
  ·rename_i k1; rw [if_neg k1]
   split at h
   ·rename_i k2; rw [if_pos k2]; simpa using h
   ·rename_i k2; rw [if_neg k2]
    split at h
    ·rename_i k3; rw [if_pos k3]
     simp only [XN,decide_eq_true_eq,X5,X0,Yo] at h ⊢
     refine⟨h.1,?_⟩
     rintro x ⟨a,ha,rfl⟩
     exact hf a ha
    ·rename_i k3; rw [if_neg k3]
     split at h
     ·rename_i k4; rw [if_pos k4]; simpa using h
     ·cases h
theorem G7 {n:aj}{size uk:Int}(h:fA n size=true)(hs:size≤uk):fA n uk=true:=by
 have:=qM (uk:=uk) (z:=n.int) h id (fun a ha=>by have:=(lH h).2 a ha; simp only [id]; omega) (fun k=>by
  unfold fA at h; rw [if_pos k] at h; simp only [XN,decide_eq_true_eq] at h; exact h.1.1) (fun _=>rfl)
 rwa [List.map_id] at this
section
variable {m:Nat}{s:ab}
theorem Inv2.more (v:Inv2 s)(V:List aj)(hW:∀(i:Nat) x,V[i]? = some x→fA x ((s.aa.length+V.length:Nat):Int)=true∧(x.kind=0→x.int=((s.aa.length+i:Nat):Int)))(hl:s.aa.length+V.length≤8000) :
  Inv2 ⟨s.ak,s.aa++V,s.ae++fQ s.aa.length V.length⟩∧pY s ⟨s.ak,s.aa++V,s.ae++fQ s.aa.length V.length⟩:=by
 have hlen:=v.inv.len
 have hV:∀x∈V,x.args.length≤8∧∀a∈x.args,Rg (s.aa.length+V.length) a:=fun x hx=>by
  obtain⟨i,hi⟩:=YC hx
  obtain⟨T,ha⟩:=lH (hW i x hi).1
  exact⟨T.args,fun a h=>by have:=ha a h; unfold Rg; omega⟩
 obtain⟨g1,g2,g3⟩:=G6 v.inv.ok V.length
 rw [hlen] at g1 g2 g3
 have hN:(s.aa++V).length=s.aa.length+V.length:=XU
 have hc:∀n,Rg (s.aa++V).length n→Rg s.aa.length n∨((s.aa.length:Int)≤n∧n<s.aa.length+V.length):=fun n h=>by
  rw [hN] at h; unfold Rg at h ⊢; omega
 have up:∀n,Rg s.aa.length n→Rg (s.aa++V).length n:=fun n h=>by rw [hN]; unfold Rg at h ⊢; omega
 have old:∀n,Rg s.aa.length n→rp (s.ae++fQ s.aa.length V.length) n=rp s.ae n:=g2
 have new:∀n:Int,(s.aa.length:Int)≤n→n<s.aa.length+V.length→rp (s.ae++fQ s.aa.length V.length) n=n:=g3
 refine⟨⟨⟨v.inv.made,?_,by show (s.aa++V).length≤8000; omega,g1,⟨fun n h=>?_,fun n h=>?_,fun n h=>?_⟩,?_⟩,?_,?_⟩,?_,fun n h hv=>?_,fun n h=>mw h,fun x y hx hy h=>?_⟩
 ·show (_++_:List Int).length=_
  rw [XU,nH,hN,hlen]
 ·show Rg _ (rp (s.ae++fQ s.aa.length V.length) n)
  rcases hc n h with h | ⟨h1,h2⟩
  ·rw [old n h]; exact up _ (v.inv.cn.rg n h)
  ·rw [new n h1 h2]; exact h
 ·show rp (s.ae++_) (rp (s.ae++fQ s.aa.length V.length) n)=rp (s.ae++_) n
  rcases hc n h with h | ⟨h1,h2⟩
  ·rw [old n h,old _ (v.inv.cn.rg n h),v.inv.cn.id n h]
  ·rw [new n h1 h2,new n h1 h2]
 ·show Bt (s.aa++V) (rp (s.ae++fQ s.aa.length V.length) n) n
  rcases hc n h with h | ⟨h1,h2⟩
  ·rw [old n h]
   have:=v.inv.cn.bt n h
   unfold Bt ib at this ⊢
   rw [mw h,mw (v.inv.cn.rg n h)]; exact this
  ·rw [new n h1 h2]; exact Bt.refl
 ·intro x hx
  rcases Yg.1 hx with hx | hx
  ·obtain⟨a1,a2⟩:=v.inv.args x hx
   exact⟨a1,fun a ha=>up a (a2 a ha)⟩
  ·obtain⟨a1,a2⟩:=hV x hx
   exact⟨a1,fun a ha=>by show Rg (s.aa++V).length a; rw [hN]; exact a2 a ha⟩
 ·intro x y hx hy he vx vy
  have he:rp (s.ae++fQ s.aa.length V.length) x=rp (s.ae++fQ s.aa.length V.length) y:=he
  rcases hc x hx with hx1 | ⟨x1,x2⟩<;>rcases hc y hy with Mh | ⟨y1,y2⟩
  ·rw [old x hx1,old y Mh] at he
   have wx:dq (s.aa++V) x=dq s.aa x:=mw hx1
   have wy:dq (s.aa++V) y=dq s.aa y:=mw Mh
   have Wc:ib s.aa x:=by unfold ib at vx ⊢; rw [←wx]; exact vx
   have Wd:ib s.aa y:=by unfold ib at vy ⊢; rw [←wy]; exact vy
   obtain⟨t,q⟩:=v.cl x y hx1 Mh he Wc Wd
   show iG (dq (s.aa++V) x) (dq (s.aa++V) y)∧∀(i:Nat) (a b:Int),(dq (s.aa++V) x).args[i]? = some a→(dq (s.aa++V) y).args[i]? = some b→rp (s.ae++fQ s.aa.length V.length) a=rp (s.ae++fQ s.aa.length V.length) b
   rw [wx,wy]
   refine⟨t,fun i a b ha hb=>?_⟩
   rw [old a ((v.inv.args _ (fN hx1)).2 a (XT ha)),old b ((v.inv.args _ (fN Mh)).2 b (XT hb))]
   exact q i a b ha hb
  ·rw [old x hx1,new y y1 y2] at he
   have:=(v.inv.cn.rg x hx1).2
   omega
  ·rw [old y Mh,new x x1 x2] at he
   have:=(v.inv.cn.rg y Mh).2
   omega
  ·rw [new x x1 x2,new y y1 y2] at he
   subst he
   refine⟨iG.refl _,fun i a b ha hb=>?_⟩
   rw [ha] at hb; cases hb; rfl
 ·intro n h
  show fA (dq (s.aa++V) n) ((s.aa++V).length:Int)=true∧((dq (s.aa++V) n).kind=0→(dq (s.aa++V) n).int=n)
  rcases hc n h with h3 | ⟨h1,h2⟩
  ·rw [mw h3,hN]
   exact⟨G7 (v.vn n h3).1 (by omega),(v.vn n h3).2⟩
  ·have hg:=xl h
   obtain⟨i,rfl⟩:∃i:Nat,n=((s.aa.length+i:Nat):Int):=⟨(n - s.aa.length).toNat,by omega⟩
   have hg:(s.aa++V)[s.aa.length+i]? = some (dq (s.aa++V) ((s.aa.length+i:Nat):Int)):=hg
   rw [X1 (by omega),YK] at hg
   rw [hN]
   exact hW i _ hg
 ·show s.aa.length≤(s.aa++V).length
  omega
 ·show iG _ (dq (s.aa++V) (rp (s.ae++fQ s.aa.length V.length) n))
  rw [old n h,mw (v.inv.cn.rg n h)]
  exact iG.refl _
 ·show rp (s.ae++fQ s.aa.length V.length) x=rp (s.ae++fQ s.aa.length V.length) y
  rw [old x hx,old y hy]; exact h
def G8 (s s':ab)(e:Int):Prop:=Inv2 s'∧pY s s'∧(e≠0→s'=s)
theorem G8.none (v:Inv2 s)(e:Int):G8 s s e:=⟨v,pY.refl s,fun _=>rfl⟩
theorem zu (hm:2000000≤m)(v:Inv2 s)(r:Bool)(n:aj)(h:r=true→fA ⟨n.kind,if n.kind=0 then (s.aa.length:Int) else n.int,n.label,n.args⟩ ((s.aa.length+1:Nat):Int)=true):∃k e s',cm.f m s (some r) n=some (k,e,s')∧G8 s s' e:=by
 have n3:=v.inv.max
 unfold cm.f bL.f
 rw [v.inv.made]
 simp only [XJ,YQ,XX,if_false]
 cases r with
 | false=>exact⟨_,_,_,rfl,G8.none v _⟩
 | true=>
  have h1:=h rfl
  rw [if_neg (by decide)]
  by_cases hl:s.aa.length≥8000
  ·rw [if_pos (by rw [decide_eq_true_eq]; omega)]
   exact⟨_,_,_,rfl,G8.none v _⟩
  rw [if_neg (by rw [decide_eq_true_eq]; omega)]
  have key:∀i:Int,i=(if n.kind=0 then (s.aa.length:Int) else n.int)→∃k e s',(((app 56 s.aa [(⟨n.kind,i,n.label,n.args⟩:aj)]).bind fun x1=>(app 8 s.ae [(s.aa.length:Int)]).bind fun x2=>some ((s.aa.length:Int),(0:Int),(ab.mk true x1 x2)))=some (k,e,s'))∧G8 s s' e:=by
   intro i hi
   rw [zf (by simp only [X2,Yf]; omega),XJ,zf (by have:=v.inv.len; simp only [X2,Yf]; omega),XJ]
   obtain⟨w1,w2⟩:=v.more [⟨n.kind,i,n.label,n.args⟩] (fun j x hx=>by
    cases j with
    | succ j=>simp at hx
    | zero=>
     simp only [Ym,XM] at hx
     subst hx
     refine⟨by rw [hi]; exact h1,fun hk=>?_⟩
     have hk:n.kind=0:=hk
     show i=_
     rw [hi,if_pos hk,Y3]) (by simp only [X2,Yf]; omega)
   have es:fQ s.aa.length 1=[(s.aa.length:Int)]:=by simp [fQ]
   have w1:Inv2 ⟨s.ak,s.aa++[⟨n.kind,i,n.label,n.args⟩],s.ae++fQ s.aa.length 1⟩:=w1
   have w2:pY s ⟨s.ak,s.aa++[⟨n.kind,i,n.label,n.args⟩],s.ae++fQ s.aa.length 1⟩:=w2
   rw [es,v.inv.made] at w1 w2
   exact⟨_,_,_,rfl,w1,w2,fun h=>absurd rfl h⟩
  simp only [jn]
  by_cases hk:n.kind=0
  ·rw [if_pos (by rw [hk]; rfl)]; exact key _ (by rw [if_pos hk])
  ·rw [if_neg (by simpa using hk)]; exact key _ (by rw [if_neg hk])
end
end Go.Proofs.Ytifafejidnjckaa
namespace Go.Proofs.Ytifafejidnjckaa
open Go Go.R Go.Uf
open Go.IntKind (i64 u64 u8 u32)
section
variable {m:Nat}{s:ab}
theorem IV (hm:2 ^ 41≤m)(t:bc):(∃r,fy.f m t=some (r,0)∧C3 r.nodes∧∀n∈r.nodes,fA n r.nodes.length=true)∨∃r,fy.f m t=some (r,2):=by
 have JB:(2:Nat) ^ 30=1073741824:=by decide
 have xo:(2:Nat) ^ 41=2199023255552:=by decide
 unfold fy.f
 rw [mr (by omega),XJ]
 cases h:gf t with
 | false=>exact .inr ⟨_,rfl⟩
 | true=>
  obtain⟨r,R,e,hv,_⟩:=lI hm h
  rw [if_neg (by simp),e]
  exact .inl ⟨_,rfl,(jm hv).1,fun n hn=>by
   unfold gf at hv
   simp only [XN,X5] at hv
   exact hv.2 n hn⟩
theorem G9 {v:aj}(a8:v.args.length≤8)(aR:∀a∈v.args,0≤a∧a<8000)(hN:s.aa.length≤8000)(s2:ab):∀(k i:Nat),i≤v.args.length→v.args.length - i<k→
  aC.l1 m s v k (i:Int) ((v.args.take i).map (· + (s.aa.length:Int))++v.args.drop i) s2=some ((v.args.length:Int),v.args.map (· + (s.aa.length:Int)),s2)∧
  aC.l2 m s v k (i:Int) ((v.args.take i).map (· + (s.aa.length:Int))++v.args.drop i) s2=some ((v.args.length:Int),v.args.map (· + (s.aa.length:Int)),s2)
 | 0,i,h1,h2=>by omega
 | k+1,i,h1,h2=>by
  simp only [aC.l1,aC.l2]
  by_cases hi:i<v.args.length
  ·have d:decide ((i:Int)<(v.args.length:Int))=true:=by rw [decide_eq_true_eq]; omega
   have hl:((v.args.take i).map (· + (s.aa.length:Int))).length=i:=by rw [X0,YD]; omega
   have ed:v.args.drop i=v.args[i]::v.args.drop (i+1):=XW hi
   have et:v.args.take (i+1)=v.args.take i++[v.args[i]]:=Yu hi
   have eg:((v.args.take i).map (· + (s.aa.length:Int))++v.args.drop i)[i]? = some v.args[i]:=by
    rw [X1 (by omega),hl,YP,ed]; rfl
   have es:((v.args.take i).map (· + (s.aa.length:Int))++v.args.drop i).set i (v.args[i]+(s.aa.length:Int))=(v.args.take (i+1)).map (· + (s.aa.length:Int))++v.args.drop (i+1):=by
    rw [YV _ _ (by omega),hl,YP,ed,et,Ye,X3]; rfl
   obtain⟨b1,b2⟩:=aR v.args[i] (List.getElem_mem hi)
   have ew:i64.wrap ((i:Int)+1)=((i+1:Nat):Int):=by rw [jT (by omega) (by omega)]; omega
   have ev:i64.wrap (v.args[i]+(s.aa.length:Int))=v.args[i]+(s.aa.length:Int):=jT (by omega) (by omega)
   rw [if_pos d,if_pos d,uw eg]
   simp only [XJ,ew,ev,XY,es]
   exact G9 a8 aR hN s2 k (i+1) (by omega) (by omega)
  ·have d:decide ((i:Int)<(v.args.length:Int))=false:=by rw [decide_eq_false_iff_not]; omega
   have e:i=v.args.length:=by omega
   rw [if_neg (by rw [d]; decide),if_neg (by rw [d]; decide),e]
   simp
theorem Ha (hm:2000000≤m)(v:Inv2 s){x:bc × Int}(ok:C3 x.1.nodes)(okB:∀n∈x.1.nodes,fA n x.1.nodes.length=true)(hl:s.aa.length+x.1.nodes.length≤8000):∀(k i:Nat) (V:List aj),i≤x.1.nodes.length→x.1.nodes.length - i<k→V.length=i→(∀(j:Nat) y,V[j]? = some y→fA y ((s.aa.length+x.1.nodes.length:Nat):Int)=true∧(y.kind=0→y.int=((s.aa.length+j:Nat):Int)))→
  ∃V2:List aj,aC.l0 m s x k (i:Int) ⟨s.ak,s.aa++V,s.ae++fQ s.aa.length i⟩=some ((x.1.nodes.length:Int),⟨s.ak,s.aa++V2,s.ae++fQ s.aa.length x.1.nodes.length⟩)∧V2.length=x.1.nodes.length∧∀(j:Nat) y,V2[j]? = some y→fA y ((s.aa.length+x.1.nodes.length:Nat):Int)=true∧(y.kind=0→y.int=((s.aa.length+j:Nat):Int))
 | 0,i,V,h1,h2,_,_=>by omega
 | k+1,i,V,h1,h2,hV,hP=>by
  have hlen:=v.inv.len
  simp only [aC.l0]
  by_cases hi:i<x.1.nodes.length
  ·have d:decide ((i:Int)<(x.1.nodes.length:Int))=true:=by rw [decide_eq_true_eq]; omega
   have eg:=XO hi
   generalize x.1.nodes[i]=n at eg
   obtain⟨n8,nR⟩:=ok.2 n (XT eg)
   have nB:=okB n (XT eg)
   have We:∀a∈n.args,0≤a∧a<8000:=fun a ha=>by have:=nR a ha; have:=ok.1; omega
   obtain⟨q1,q2⟩:=G9 (m:=m) (s:=s) n8 We (by omega) ⟨s.ak,s.aa++V,s.ae++fQ s.aa.length i⟩ m 0 (Yt _) (by omega)
   have q1:aC.l1 m s n m 0 n.args ⟨s.ak,s.aa++V,s.ae++fQ s.aa.length i⟩=_:=q1
   have q2:aC.l2 m s n m 0 n.args ⟨s.ak,s.aa++V,s.ae++fQ s.aa.length i⟩=_:=q2
   have ew:i64.wrap ((i:Int)+1)=((i+1:Nat):Int):=by rw [jT (by omega) (by omega)]; omega
   have ef:i64.wrap ((s.aa.length:Int)+(i:Int))=((s.aa.length+i:Nat):Int):=by rw [jT (by omega) (by omega)]; omega
   rw [if_pos d,uw eg]
   simp only [XJ,q1,q2,ew,ef]
   have go:∀z:Int,(n.kind=0→z=((s.aa.length+i:Nat):Int))→(n.kind≠0→z=n.int)→∃V2:List aj,((app 56 (s.aa++V) [(⟨n.kind,z,n.label,n.args.map (· + (s.aa.length:Int))⟩:aj)]).bind fun x5=>(app 8 (s.ae++fQ s.aa.length i) [((s.aa.length+i:Nat):Int)]).bind fun x6=>aC.l0 m s x k ((i+1:Nat):Int) (ab.mk s.ak x5 x6))=some ((x.1.nodes.length:Int),⟨s.ak,s.aa++V2,s.ae++fQ s.aa.length x.1.nodes.length⟩)∧V2.length=x.1.nodes.length∧∀(j:Nat) y,V2[j]? = some y→fA y ((s.aa.length+x.1.nodes.length:Nat):Int)=true∧(y.kind=0→y.int=((s.aa.length+j:Nat):Int)):=by
    intro z z0 z1
    rw [zf (by simp only [XU,X2,Yf]; omega),XJ,zf (by simp only [XU,nH,X2,Yf]; omega),XJ]
    have:=Ha hm v ok okB hl k (i+1) (V++[⟨n.kind,z,n.label,n.args.map (· + (s.aa.length:Int))⟩]) (by omega) (by omega) (by simp [hV]) (fun j y hy=>by
     by_cases hj:j<V.length
     ·rw [XZ hj] at hy
      exact hP j y hy
     ·rw [X1 (by omega)] at hy
      obtain⟨q,hq⟩:∃q,j - V.length=q:=⟨_,rfl⟩
      rw [hq] at hy
      cases q with
      | succ q=>simp at hy
      | zero=>
       simp only [Ym,XM] at hy
       subst hy
       have ej:j=i:=by omega
       subst ej
       refine⟨qM nB _ (fun a ha=>?_) (fun h=>by have:=z0 h; omega) z1,fun h=>z0 h⟩
       have:=nR a ha
       omega)
    rw [vJ,←X3,←X3] at this
    exact this
   by_cases hk:n.kind=0
   ·rw [if_pos (by rw [hk]; rfl)]; exact go _ (fun _=>rfl) (fun h=>absurd hk h)
   ·rw [if_neg (by simpa using hk)]; exact go _ (fun h=>absurd h hk) (fun _=>rfl)
  ·have d:decide ((i:Int)<(x.1.nodes.length:Int))=false:=by rw [decide_eq_false_iff_not]; omega
   have e:i=x.1.nodes.length:=by omega
   rw [if_neg (by rw [d]; decide),e]
   exact⟨V,rfl,by omega,hP⟩
theorem N4 (hm:2 ^ 41≤m)(v:Inv2 s)(t:bc):∃k e s',aC.f m s t=some (k,e,s')∧G8 s s' e:=by
 have xo:(2:Nat) ^ 41=2199023255552:=by decide
 have n3:=v.inv.max
 unfold aC.f bL.f
 rw [v.inv.made]
 simp only [XJ,YQ,XX,if_false]
 rcases IV hm t with⟨r,e,ok,okB⟩| ⟨r,e⟩
 ·rw [e,XJ,if_neg (show ¬(!(((r,0):bc × Int).2==(0:Int)))=true by simp)]
  have hr:=ok.1
  have ew:i64.wrap ((s.aa.length:Int)+(r.nodes.length:Int))=((s.aa.length+r.nodes.length:Nat):Int):=by rw [jT (by omega) (by omega)]; omega
  rw [ew]
  by_cases hl:s.aa.length+r.nodes.length > 8000
  ·rw [if_pos (by rw [decide_eq_true_eq]; omega)]
   exact⟨_,_,_,rfl,G8.none v _⟩
  ·rw [if_neg (by rw [decide_eq_true_eq]; omega)]
   obtain⟨V,e1,e2,e3⟩:=Ha (m:=m) (by omega) v (x:=(r,0)) ok okB (by show _+r.nodes.length≤8000; omega) m 0 [] (Yt _) (by show r.nodes.length - 0<m; omega) rfl (fun j y hy=>by simp at hy)
   have es:s.ae++fQ s.aa.length 0=s.ae:=by simp [fQ]
   rw [Y9,es] at e1
   have e1:aC.l0 m s (r,0) m 0 s=some ((r.nodes.length:Int),⟨s.ak,s.aa++V,s.ae++fQ s.aa.length r.nodes.length⟩):=e1
   have e2:V.length=r.nodes.length:=e2
   have e3:∀(j:Nat) y,V[j]? = some y→fA y ((s.aa.length+r.nodes.length:Nat):Int)=true∧(y.kind=0→y.int=((s.aa.length+j:Nat):Int)):=e3
   rw [e1,XJ]
   obtain⟨w1,w2⟩:=v.more V (by rw [e2]; exact e3) (by omega)
   rw [e2] at w1 w2
   exact⟨_,_,_,rfl,w1,w2,fun h=>absurd rfl h⟩
 ·rw [e,XJ,if_pos (show (!(((r,2):bc × Int).2==(0:Int)))=true from rfl)]
  exact⟨_,_,_,rfl,G8.none v _⟩
end
end Go.Proofs.Ytifafejidnjckaa
namespace Go.Proofs.Ytifafejidnjckaa
open Go Go.R Go.Uf
open Go.IntKind (i64 u64 u8 u32)
section
variable {m:Nat}{s:ab}
theorem pY.N5 (v:Inv2 s){s':ab}(v':Inv2 s')(eN:s'.aa=s.aa)(h:gB s.aa (rp s.ae) (rp s'.ae)):pY s s':=by
 refine⟨by rw [eN]; exact XP _,fun n hn hv=>?_,fun n hn=>by rw [eN],h⟩
 have g1:=v.inv.cn.rg n hn
 have ON:=v'.inv.cn
 have T4:=v'.cl
 rw [eN] at ON T4 ⊢
 have e1:rp s'.ae (rp s.ae n)=rp s'.ae n:=h _ _ g1 hn (v.inv.cn.id n hn)
 have e2:rp s'.ae (rp s'.ae n)=rp s'.ae n:=ON.id n hn
 have v2:ib s.aa (rp s'.ae n):=e1 ▸ ON.val g1 hv
 exact (T4 _ _ g1 (ON.rg n hn) (e1.trans e2.symm) hv v2).1
def N6 (s s':ab)(e k:Int):Prop:=Inv2 s'∧pY s s'∧(e≠0∨k=7→s'=s)
theorem G8.a {s':ab}{e k:Int}(d:G8 s s' e)(hk:k≠7):N6 s s' e k:=⟨d.1,d.2.1,fun h=>h.elim d.2.2 fun h=>absurd h hk⟩
theorem R8 (hm:2 ^ 41≤m)(v:Inv2 s)(x:aS)(hx:x.fX.length≤40):∃e s',fZ.f m s x=some (e,s')∧N6 s s' e x.fu:=by
 have xo:(2:Nat) ^ 41=2199023255552:=by decide
 have rD:2000000≤m:=by omega
 have z0:∀a∈([]:List Int),Rg s.aa.length a:=fun a h=>by simp at h
 unfold fZ.f
 by_cases k0:x.fu=0
 ·rw [if_pos (by rw [k0]; rfl)]
  obtain⟨k,e,s',e1,d⟩:=zu rD v true ⟨0,0,⟨#[]⟩,[]⟩ (fun _=>by simp [fA]; try omega)
  refine⟨e,s',?_,d.a (by omega)⟩
  simp only [eU.f,eo.f,e1,XJ]
 rw [if_neg (by simpa using k0)]
 by_cases k1:x.fu=1
 ·rw [if_pos (by rw [k1]; rfl)]
  have h1:∃r,dz.f m x.tC=some r∧(r=true→-1099511627776≤x.tC∧x.tC≤1099511627776):=by
   unfold dz.f
   split
   ·rename_i h
    exact⟨_,rfl,fun k=>by simp only [decide_eq_true_eq] at h k; omega⟩
   ·exact⟨_,rfl,fun k=>by cases k⟩
  obtain⟨r,h1,hr⟩:=h1
  obtain⟨k,e,s',e1,d⟩:=zu rD v r ⟨1,x.tC,⟨#[]⟩,[]⟩ (fun h=>by have:=hr h; simp [fA]; omega)
  refine⟨e,s',?_,d.a (by omega)⟩
  simp only [eV.f,h1,e1,XJ]
 rw [if_neg (by simpa using k1)]
 by_cases k2:x.fu=2
 ·rw [if_pos (by rw [k2]; rfl)]
  obtain⟨k,e,s',e1,d⟩:=zu rD v (ox x.eS) ⟨2,0,x.eS,[]⟩ (fun h=>by simp [fA,h])
  refine⟨e,s',?_,d.a (by omega)⟩
  simp only [eL.f,dL.f,nW (show 20≤m by omega),XJ,e1]
 rw [if_neg (by simpa using k2)]
 by_cases k3:x.fu=3
 ·rw [if_pos (by rw [k3]; rfl)]
  have h1:∃r,cK.f m x.eS x.fX s=some r∧(r=true→ox x.eS=true∧1≤x.fX.length∧x.fX.length≤8∧∀a∈x.fX,Rg s.aa.length a):=by
   unfold cK.f
   rw [nW (show 20≤m by omega),XJ]
   split
   ·rename_i Ad
    split
    ·rename_i h81
     split
     ·rename_i h8
      rw [tX rD x.fX (by omega) (g:=fun n=>!decide (Rg s.aa.length n)) (fun a _=>by simp only [cL.f,CT,XJ])]
      refine⟨_,rfl,fun h=>⟨Ad,by simp only [decide_eq_true_eq] at h81; omega,by simp only [decide_eq_true_eq] at h8; omega,fun a ha=>?_⟩⟩
      simp only [YL,List.any_eq_false] at h
      have:=h a ha
      simpa using this
     ·exact⟨_,rfl,fun h=>by cases h⟩
    ·exact⟨_,rfl,fun h=>by cases h⟩
   ·exact⟨_,rfl,fun h=>by cases h⟩
  obtain⟨r,h1,h2⟩:=h1
  obtain⟨k,e,s',e1,d⟩:=zu rD v r ⟨3,0,x.eS,x.fX⟩ (fun h=>by
   obtain⟨q1,q2,q3,q4⟩:=h2 h
   simp only [fA]
   simp [q1,q2,q3]
   intro a ha
   have:=q4 a ha
   unfold Rg at this
   omega)
  have hc:FJ 1 x.fX=some x.fX:=by unfold FJ; rw [if_pos (by omega)]
  refine⟨e,s',?_,d.a (by omega)⟩
  simp only [eB.f,hc,h1,e1,XJ]
 rw [if_neg (by simpa using k3)]
 by_cases k4:x.fu=4
 ·rw [if_pos (by rw [k4]; rfl)]
  have h1:∃r,de.f m x.eS x.tC=some r∧(r=true→zj x.eS=true∧0≤x.tC):=by
   unfold de.f
   rw [vE,XJ]
   split
   ·rename_i h
    exact⟨_,rfl,fun k=>⟨h,by simp only [decide_eq_true_eq] at k; omega⟩⟩
   ·exact⟨_,rfl,fun k=>by cases k⟩
  obtain⟨r,h1,hr⟩:=h1
  obtain⟨k,e,s',e1,d⟩:=zu rD v r ⟨4,x.tC,x.eS,[]⟩ (fun h=>by obtain⟨q1,q2⟩:=hr h; simp [fA,q1,q2])
  refine⟨e,s',?_,d.a (by omega)⟩
  simp only [eK.f,h1,e1,XJ]
 rw [if_neg (by simpa using k4)]
 by_cases k5:x.fu=5
 ·rw [if_pos (by rw [k5]; rfl)]
  obtain⟨k,e,s',e1,d⟩:=N4 hm v x.yP
  refine⟨e,s',?_,d.a (by omega)⟩
  simp only [e1,XJ]
 rw [if_neg (by simpa using k5)]
 by_cases k6:x.fu=6
 ·rw [if_pos (by rw [k6]; rfl)]
  obtain⟨l,e,s',e1,v',em,eN,h⟩:=C5 rD v x.tC x.EB
  refine⟨e,s',by simp only [e1,XJ],v',?_,fun h'=>?_⟩
  ·rcases h with⟨_,_,rfl⟩| ⟨_,_,rfl,_⟩| ⟨_,_,h,_⟩
   ·exact pY.refl _
   ·exact pY.refl _
   ·exact pY.N5 v v' eN h
  ·rcases h with⟨_,_,rfl⟩| ⟨_,_,rfl,_⟩| ⟨_,h0,h,_⟩
   ·rfl
   ·rfl
   ·rcases h' with h' | h'
    ·exact absurd h0 h'
    ·omega
 rw [if_neg (by simpa using k6)]
 by_cases k7:x.fu=7
 ·rw [if_pos (by rw [k7]; rfl)]
  obtain⟨t,l,e,e1⟩:=Lz rD v x.tC x.EB
  exact⟨e,s,by simp only [e1,XJ],v,pY.refl s,fun _=>rfl⟩
 rw [if_neg (by simpa using k7)]
 exact⟨0,s,rfl,v,pY.refl s,fun _=>rfl⟩
def Small (l:List aS):Prop:=l.length≤60∧∀x∈l,x.fX.length≤40
theorem zw (l:List aS)(hl:l.length<2 ^ 63):∀(k i:Nat),i≤l.length→l.length - i<k→(∃b,bH.l0 m l k (i:Int)=some (.inl b)∧b=true)∨(∃z,bH.l0 m l k (i:Int)=some (.inr z)∧∀j,i≤j→∀x,l[j]? = some x→x.fX.length≤40)
 | 0,i,h1,h2=>by omega
 | k+1,i,h1,h2=>by
  have R9:(2:Nat) ^ 63=9223372036854775808:=by decide
  simp only [bH.l0]
  by_cases hi:i<l.length
  ·have d:decide ((i:Int)<(l.length:Int))=true:=by rw [decide_eq_true_eq]; omega
   have eg:=XO hi
   generalize l[i]=n at eg
   have ew:i64.wrap ((i:Int)+1)=((i+1:Nat):Int):=by rw [jT (by omega) (by omega)]; omega
   rw [if_pos d,uw eg]
   simp only [XJ,ew]
   split
   ·exact .inl ⟨_,rfl,rfl⟩
   split
   ·exact .inl ⟨_,rfl,rfl⟩
   rename_i h40
   rcases zw l hl k (i+1) (by omega) (by omega) with h | ⟨z,e,h⟩
   ·exact .inl h
   ·refine .inr ⟨z,e,fun j hj x hx=>?_⟩
    by_cases hji:j=i
    ·subst hji
     rw [eg] at hx; cases hx
     simp only [decide_eq_true_eq] at h40; omega
    ·exact h j (by omega) x hx
  ·have d:decide ((i:Int)<(l.length:Int))=false:=by rw [decide_eq_false_iff_not]; omega
   rw [if_neg (by rw [d]; decide)]
   refine .inr ⟨_,rfl,fun j hj x hx=>?_⟩
   rw [Yc (by omega)] at hx; cases hx
theorem IW (hm:2 ^ 63≤m)(l:List aS)(hl:l.length<2 ^ 63):∃b,bH.f m l=some b∧(b=false→Small l):=by
 have R9:(2:Nat) ^ 63=9223372036854775808:=by decide
 have Wf:(2:Nat) ^ 63=9223372036854775808:=by decide
 unfold bH.f
 rcases zw (m:=m) l hl m 0 (Yt _) (by omega) with⟨b,e,rfl⟩| ⟨z,e,h⟩
 ·have e:bH.l0 m l m 0=_:=e
  rw [e]
  exact⟨true,rfl,fun h=>by cases h⟩
 ·have e:bH.l0 m l m 0=_:=e
  rw [e]
  refine⟨_,rfl,fun hb=>⟨?_,fun x hx=>?_⟩⟩
  ·simp only [decide_eq_false_iff_not] at hb; omega
  ·obtain⟨j,hj⟩:=YC hx
   exact h j (Yt _) x hj
theorem C8 (hm:2 ^ 41≤m)(l:List aS)(hl:Small l):∀(k i:Nat) (s:ab),i≤l.length→l.length - i<k→Inv2 s→∃s',cg.l0 m l k (i:Int) s=some ((l.length:Int),s')∧Inv2 s'
 | 0,i,s,h1,h2,_=>by omega
 | k+1,i,s,h1,h2,v=>by
  simp only [cg.l0]
  have h60:=hl.1
  by_cases hi:i<l.length
  ·have d:decide ((i:Int)<(l.length:Int))=true:=by rw [decide_eq_true_eq]; omega
   have eg:=XO hi
   generalize l[i]=n at eg
   have ew:i64.wrap ((i:Int)+1)=((i+1:Nat):Int):=by rw [jT (by omega) (by omega)]; omega
   obtain⟨e,s',e1,d1⟩:=R8 hm v n (hl.2 n (XT eg))
   rw [if_pos d,uw eg]
   simp only [XJ,ew,e1]
   exact C8 hm l hl k (i+1) s' (by omega) (by omega) d1.1
  ·have d:decide ((i:Int)<(l.length:Int))=false:=by rw [decide_eq_false_iff_not]; omega
   have e:i=l.length:=by omega
   rw [if_neg (by rw [d]; decide),e]
   exact⟨s,rfl,v⟩
theorem IX:Inv2 ⟨true,[],[]⟩:=by
 have no:∀(P:Int→Prop) (n:Int),Rg ([]:List aj).length n→P n:=fun P n h=>by have:=h.1; have:=h.2; simp at this; omega
 exact⟨⟨rfl,rfl,by simp,IE,⟨fun n h=>no _ n h,fun n h=>no _ n h,fun n h=>no _ n h⟩,fun v h=>by simp at h⟩,fun x y hx=>(no (fun _=>False) x hx).elim,fun n h=>(no (fun _=>False) n h).elim⟩
theorem LG (hm:2 ^ 41≤m)(l:List aS)(hl:Small l):∃s,cg.f m l=some s∧Inv2 s:=by
 have xo:(2:Nat) ^ 41=2199023255552:=by decide
 have h60:=hl.1
 obtain⟨s,e,v⟩:=C8 hm l hl m 0 ⟨true,[],[]⟩ (Yt _) (by omega) IX
 have e:cg.l0 m l m 0 ⟨true,[],[]⟩=_:=e
 refine⟨s,?_,v⟩
 simp only [cg.f,jj.f,XJ,e]
theorem C9 (a:List Int)(hl:a.length<2 ^ 63):∀(k i:Nat),i≤a.length→a.length - i<k→ca.l0 m a a k (i:Int)=some (.inr (a.length:Int))
 | 0,i,h1,h2=>by omega
 | k+1,i,h1,h2=>by
  have R9:(2:Nat) ^ 63=9223372036854775808:=by decide
  simp only [ca.l0]
  by_cases hi:i<a.length
  ·have d:decide ((i:Int)<(a.length:Int))=true:=by rw [decide_eq_true_eq]; omega
   have ew:i64.wrap ((i:Int)+1)=((i+1:Nat):Int):=by rw [jT (by omega) (by omega)]; omega
   rw [if_pos d,uw (XO hi)]
   simp only [XJ,ew,BEq.rfl,YQ,XX,if_false]
   exact C9 a hl k (i+1) (by omega) (by omega)
  ·have d:decide ((i:Int)<(a.length:Int))=false:=by rw [decide_eq_false_iff_not]; omega
   have e:i=a.length:=by omega
   rw [if_neg (by rw [d]; decide),e]
theorem Eo (a:List Int)(hl:a.length<2 ^ 63)(hm:2 ^ 63≤m):ca.f m a a=some true:=by
 have R9:(2:Nat) ^ 63=9223372036854775808:=by decide
 have Wf:(2:Nat) ^ 63=9223372036854775808:=by decide
 have:=C9 (m:=m) a hl m 0 (Yt _) (by omega)
 have this:ca.l0 m a a m 0=_:=this
 simp only [ca.f,BEq.rfl,YQ,XX,if_false,this,XJ]
theorem LH (v:Inv s):bS.f m s=some (s.aa.length:Int):=by
 simp only [bS.f,bL.f,v.made,XJ,YQ,XX,if_false]
end
end Go.Proofs.Ytifafejidnjckaa
namespace Go.Proofs.Ytifafejidnjckaa
open Go Go.R Go.Uf
open Go.IntKind (i64 u64 u8 u32)
end Go.Proofs.Ytifafejidnjckaa
namespace Go.Proofs.Ytifafejidnjckaa
open Go Go.R Go.Uf
open Go.IntKind (i64 u64 u8 u32)
section
variable {m:Nat}{s:ab}
theorem zx (hm:16000≤m)(v:Inv s){l:List Int}(h8:l.length≤8)(hr:∀a∈l,Rg s.aa.length a):∀(k i:Nat),i≤l.length→l.length - i<k→bg.l0 m s l k ((l.take i).map (rp s.ae)++l.drop i) (i:Int)=some (l.map (rp s.ae),(l.length:Int))
 | 0,i,h1,h2=>by omega
 | k+1,i,h1,h2=>by
  simp only [bg.l0]
  by_cases hi:i<l.length
  ·have d:decide ((i:Int)<(l.length:Int))=true:=by rw [decide_eq_true_eq]; omega
   have hl:((l.take i).map (rp s.ae)).length=i:=by rw [X0,YD]; omega
   have ed:l.drop i=l[i]::l.drop (i+1):=XW hi
   have et:l.take (i+1)=l.take i++[l[i]]:=Yu hi
   have eg:((l.take i).map (rp s.ae)++l.drop i)[i]? = some l[i]:=by
    rw [X1 (by omega),hl,YP,ed]; rfl
   have es:((l.take i).map (rp s.ae)++l.drop i).set i (rp s.ae l[i])=(l.take (i+1)).map (rp s.ae)++l.drop (i+1):=by
    rw [YV _ _ (by omega),hl,YP,ed,et,Ye,X3]; rfl
   have ew:i64.wrap ((i:Int)+1)=((i+1:Nat):Int):=by rw [jT (by omega) (by omega)]; omega
   rw [if_pos d,uw eg]
   simp only [XJ,tW hm v (hr _ (List.getElem_mem hi)),ew,XY,es]
   exact zx hm v h8 hr k (i+1) (by omega) (by omega)
  ·have d:decide ((i:Int)<(l.length:Int))=false:=by rw [decide_eq_false_iff_not]; omega
   have e:i=l.length:=by omega
   rw [if_neg (by rw [d]; decide),e]
   simp
def zy (s:ab)(r:Int):aj:=⟨(dq s.aa r).kind,(dq s.aa r).int,(dq s.aa r).label,(dq s.aa r).args.map (rp s.ae)⟩
theorem Da (hm:16000≤m)(v:Inv s){n:Int}(h:Rg s.aa.length n):bg.f m s n=some (zy s n):=by
 obtain⟨a1,a2⟩:=v.args _ (fN h)
 have hc:FJ 1 (dq s.aa n).args=some (dq s.aa n).args:=by unfold FJ; rw [if_pos (by omega)]
 have:=zx (m:=m) hm v a1 a2 m 0 (Yt _) (by omega)
 have this:bg.l0 m s (dq s.aa n).args m (dq s.aa n).args 0=_:=this
 simp only [bg.f,tV h,XJ,hc,this]
 rfl
theorem Db (hm:2000000≤m)(v:Inv s)(n:Int):b9.f m s n=some (if Rg s.aa.length n then (zy s (rp s.ae n),0) else (⟨0,0,⟨#[]⟩,[]⟩,1)):=by
 unfold b9.f
 rw [nU hm v.made [n] (by simp)]
 by_cases h:Rg s.aa.length n
 ·simp [h,tW (m:=m) (by omega) v h,Da (m:=m) (by omega) v (v.cn.rg n h)]
 ·simp [h]
end
end Go.Proofs.Ytifafejidnjckaa
namespace Go.Uf
open Go Go.R
open Go.IntKind (i64 u64 u8 u32)
theorem Dc (l:List (Int × Bool))(k x:Int)(v:Bool):(uJ (zL l k v) x).1=if x=k then v else (uJ l x).1:=by
 induction l with
 | nil=>
  simp only [zL,uJ]
  split<;>rfl
 | cons p l ih=>
  obtain⟨a,b⟩:=p
  simp only [zL]
  by_cases h:k=a
  ·subst h
   rw [if_pos rfl]
   simp only [uJ]
   by_cases hx:x=k
   ·rw [if_pos hx,if_pos hx]
   ·rw [if_neg hx,if_neg hx,if_neg hx]
  ·rw [if_neg h]
   simp only [uJ]
   by_cases hx:x=a
   ·rw [if_pos hx,if_pos hx]
    have:¬x=k:=by omega
    rw [if_neg this]
   ·rw [if_neg hx,if_neg hx,ih]
theorem IY (l:List (Int × Int))(k x:Int)(v:Int):(mz (xG l k v) x).1=if x=k then v else (mz l x).1:=by
 induction l with
 | nil=>
  simp only [xG,mz]
  split<;>rfl
 | cons p l ih=>
  obtain⟨a,b⟩:=p
  simp only [xG]
  by_cases h:k=a
  ·subst h
   rw [if_pos rfl]
   simp only [mz]
   by_cases hx:x=k
   ·rw [if_pos hx,if_pos hx]
   ·rw [if_neg hx,if_neg hx,if_neg hx]
  ·rw [if_neg h]
   simp only [mz]
   by_cases hx:x=a
   ·rw [if_pos hx,if_pos hx]
    have:¬x=k:=by omega
    rw [if_neg this]
   ·rw [if_neg hx,if_neg hx,ih]
end Go.Uf
namespace Go.Proofs.Ytifafejidnjckaa
open Go Go.R Go.Uf
open Go.IntKind (i64 u64 u8 u32)
inductive N7 (N:List aj)(R:Int→Int)(r:Int):Int→Prop
 | refl:N7 N R r r
 | step {x a:Int}:N7 N R r x→a∈(dq N x).args→N7 N R r (R a)
def SI (out:List Int)(seen:List (Int × Bool)):Prop:=∀x,(uJ seen x).1=true↔x∈out
structure RI (s:ab)(r:Int)(out:List Int):Prop where
 nd:out.Nodup
 rt:∀x∈out,Rg s.aa.length x∧rp s.ae x=x∧N7 s.aa (rp s.ae) r x
 hd:out[0]? = some r
section
variable {m:Nat}{s:ab}{r:Int}
theorem RI.ED {out:List Int}(h:RI s r out):out.length≤s.aa.length:=G5 h.nd fun x hx=>(h.rt x hx).1
theorem um (hm:16000≤m)(v:Inv s){y:Int}(hy:Rg s.aa.length y)(hr:N7 s.aa (rp s.ae) r y):∀(k i:Nat) (out:List Int) (seen:List (Int × Bool)),i≤(dq s.aa y).args.length→(dq s.aa y).args.length - i<k→SI out seen→RI s r out→(∀j a,j<i→(dq s.aa y).args[j]? = some a→rp s.ae a∈out)→
  ∃mQ vK,aK.l1 m s (dq s.aa y) k out seen (i:Int)=some (mQ,vK,((dq s.aa y).args.length:Int))∧SI mQ vK∧RI s r mQ∧(∃t,mQ=out++t)∧∀a∈(dq s.aa y).args,rp s.ae a∈mQ
 | 0,i,out,seen,h1,h2,_,_,_=>by omega
 | k+1,i,out,seen,h1,h2,hs,hi,hj=>by
  simp only [aK.l1]
  obtain⟨n8,nR⟩:=v.args _ (fN hy)
  by_cases hlt:i<(dq s.aa y).args.length
  ·have d:decide ((i:Int)<((dq s.aa y).args.length:Int))=true:=by rw [decide_eq_true_eq]; omega
   have eg:=XO hlt
   generalize (dq s.aa y).args[i]=a at eg
   have T5:=XT eg
   have ha:=nR a T5
   have ew:i64.wrap ((i:Int)+1)=((i+1:Nat):Int):=by rw [jT (by omega) (by omega)]; omega
   rw [if_pos d,uw eg]
   simp only [XJ,ew,tW (m:=m) (by omega) v ha]
   cases hq:(uJ seen (rp s.ae a)).1 with
   | true=>
    rw [if_neg (by simp)]
    have hin:=(hs _).1 hq
    exact um hm v hy hr k (i+1) out seen (by omega) (by omega) hs hi (fun j b T6 hb=>by
     by_cases e:j<i
     ·exact hj j b e hb
     ·have:j=i:=by omega
      subst this
      rw [eg] at hb; cases hb; exact hin)
   | false=>
    have Sa:rp s.ae a∉out:=fun h=>by rw [(hs _).2 h] at hq; cases hq
    have hf:=hi.ED
    have h8:=v.max
    rw [if_pos (by simp),zf (by simp only [X2,Yf]; omega),XJ]
    have jP:RI s r (out++[rp s.ae a]):=by
     refine⟨?_,fun x hx=>?_,?_⟩
     ·rw [Zc]
      refine⟨hi.nd,by simp,fun x hx z hz=>?_⟩
      simp only [X9] at hz
      subst hz
      intro e
      subst e
      exact Sa hx
     ·rcases Yg.1 hx with hx | hx
      ·exact hi.rt x hx
      ·simp only [X9] at hx
       subst hx
       exact⟨v.cn.rg a ha,v.cn.id a ha,.step hr T5⟩
     ·have h0:=hi.hd
      have:=(XQ.1 h0).1
      rw [XZ (by omega)]; exact h0
    have Jg:SI (out++[rp s.ae a]) (zL seen (rp s.ae a) true):=by
     intro x
     rw [Dc,Yg,X9]
     by_cases e:x=rp s.ae a
     ·simp [e]
     ·rw [if_neg e,hs x]; simp [e]
    obtain⟨mQ,vK,e1,e2,e3,⟨t,e4⟩,e5⟩:=um hm v hy hr k (i+1) _ _ (by omega) (by omega) Jg jP (fun j b T6 hb=>by
     by_cases e:j<i
     ·exact Yy _ (hj j b e hb)
     ·have:j=i:=by omega
      subst this
      rw [eg] at hb; cases hb; exact List.mem_append_right _ (by simp))
    exact⟨mQ,vK,e1,e2,e3,⟨_,by rw [e4,X3]⟩,e5⟩
  ·have d:decide ((i:Int)<((dq s.aa y).args.length:Int))=false:=by rw [decide_eq_false_iff_not]; omega
   have e:i=(dq s.aa y).args.length:=by omega
   subst e
   rw [if_neg (by rw [d]; decide)]
   refine⟨out,seen,rfl,hs,hi,⟨[],by simp⟩,fun a ha=>?_⟩
   obtain⟨j,N8⟩:=YC ha
   exact hj j a (XQ.1 N8).1 N8
theorem zz (hm:16000≤m)(v:Inv s):∀(k i:Nat) (out:List Int) (seen:List (Int × Bool)),i≤out.length→s.aa.length - i<k→SI out seen→RI s r out→(∀j x,j<i→out[j]? = some x→∀a∈(dq s.aa x).args,rp s.ae a∈out)→
  ∃mQ z w,aK.l0 m s k out seen (i:Int)=some (mQ,z,w)∧RI s r mQ∧∀x∈mQ,∀a∈(dq s.aa x).args,rp s.ae a∈mQ
 | 0,i,out,seen,h1,h2,_,_,_=>by omega
 | k+1,i,out,seen,h1,h2,hs,hi,hj=>by
  simp only [aK.l0]
  have hf:=hi.ED
  have h8:=v.max
  by_cases hlt:i<out.length
  ·have d:decide ((i:Int)<(out.length:Int))=true:=by rw [decide_eq_true_eq]; omega
   have eg:=XO hlt
   generalize out[i]=y at eg
   obtain⟨y1,y2,y3⟩:=hi.rt y (XT eg)
   have ew:i64.wrap ((i:Int)+1)=((i+1:Nat):Int):=by rw [jT (by omega) (by omega)]; omega
   have n8:=(v.args _ (fN y1)).1
   obtain⟨mQ,vK,e1,e2,e3,⟨t,e4⟩,e5⟩:=um (m:=m) hm v y1 y3 m 0 out seen (Yt _) (by omega) hs hi (fun j a h=>by omega)
   have e1:aK.l1 m s (dq s.aa y) m out seen 0=_:=e1
   rw [if_pos d,uw eg,XJ,tV y1,XJ,e1,XJ]
   simp only [ew]
   refine zz hm v k (i+1) mQ vK ?_ (by omega) e2 e3 (fun j x T6 hx a ha=>?_)
   ·rw [e4,XU]; omega
   ·rw [e4,XZ (by omega)] at hx
    by_cases e:j<i
    ·rw [e4]; exact Yy _ (hj j x e hx a ha)
    ·have:j=i:=by omega
     subst this
     rw [eg] at hx; cases hx
     exact e5 a ha
  ·have d:decide ((i:Int)<(out.length:Int))=false:=by rw [decide_eq_false_iff_not]; omega
   rw [if_neg (by rw [d]; decide)]
   refine⟨out,_,_,rfl,hi,fun x hx a ha=>?_⟩
   obtain⟨j,N8⟩:=YC hx
   exact hj j x (by have:=(XQ.1 N8).1; omega) N8 a ha
structure Reach (s:ab)(r:Int)(l:List Int):Prop extends RI s r l where
 cl:∀x∈l,∀a∈(dq s.aa x).args,rp s.ae a∈l
theorem IZ (hm:16000≤m)(v:Inv s){n:Int}(h:Rg s.aa.length n):∃l,aK.f m s n=some l∧Reach s (rp s.ae n) l:=by
 have h8:=v.max
 unfold aK.f
 rw [tW hm v h,XJ]
 have e0:ix [rp s.ae n] (0:Int)=some (rp s.ae n):=rfl
 rw [e0,XJ]
 obtain⟨l,z,w,e1,e2,e3⟩:=zz (m:=m) (r:=rp s.ae n) hm v m 0 [rp s.ae n] (zL [] (rp s.ae n) true) (Yt _) (by omega)
  (fun x=>by rw [Dc,X9]; by_cases e:x=rp s.ae n<;>simp [e,uJ])
  ⟨by simp,fun x hx=>by simp only [X9] at hx; subst hx; exact⟨v.cn.rg n h,v.cn.id n h,.refl⟩,rfl⟩ (fun j x h=>by omega)
 have e1:aK.l0 m s m [rp s.ae n] (zL [] (rp s.ae n) true) 0=_:=e1
 rw [e1,XJ]
 exact⟨l,rfl,e2,e3⟩
end
end Go.Proofs.Ytifafejidnjckaa
namespace Go.Proofs.Ytifafejidnjckaa
open Go Go.R Go.Uf
open Go.IntKind (i64 u64 u8 u32)
def uo (l:List Int)(x:Int):Int:=((l.idxOf x:Nat):Int)
theorem nI {l:List Int}{x:Int}(h:x∈l):l[(uo l x).toNat]? = some x:=by
 have:=YE h
 unfold uo
 rw [XY,XO this,List.getElem_idxOf]
theorem sq {l:List Int}{x:Int}(h:x∈l):0≤uo l x∧uo l x<l.length:=by
 have:=YE h
 unfold uo; omega
theorem Dd {l:List Int}(hn:l.Nodup){x:Int}{j:Nat}(h:l[j]? = some x):uo l x=j:=by
 have hm:=XT h
 have h1:=YE hm
 obtain⟨h2,h3⟩:=XQ.1 h
 unfold uo
 congr 1
 exact (List.getElem_inj hn (h₀:=h1) (h₁:=h2)).1 (by rw [List.getElem_idxOf,h3])
def PI (place:List (Int × Int))(l:List Int)(i:Nat):Prop:=∀(j:Nat) x,j<i→l[j]? = some x→(mz place x).1=j
def vL (s:ab)(l:List Int)(r:Int):aj:=⟨(dq s.aa r).kind,(dq s.aa r).int,(dq s.aa r).label,(dq s.aa r).args.map fun a=>uo l (rp s.ae a)⟩
def TN (s:ab)(l:List Int):List aj:=l.map (vL s l)
section
variable {m:Nat}{s:ab}{r:Int}
theorem De {l:List Int}(hn:l.Nodup)(h8:l.length≤8000):∀(k i:Nat) (place:List (Int × Int)),i≤l.length→l.length - i<k→PI place l i→∃Hb,az.l0 m l k place (i:Int)=some (Hb,(l.length:Int))∧PI Hb l l.length
 | 0,i,place,h1,h2,_=>by omega
 | k+1,i,place,h1,h2,hp=>by
  simp only [az.l0]
  by_cases hlt:i<l.length
  ·have d:decide ((i:Int)<(l.length:Int))=true:=by rw [decide_eq_true_eq]; omega
   have eg:=XO hlt
   generalize l[i]=y at eg
   have ew:i64.wrap ((i:Int)+1)=((i+1:Nat):Int):=by rw [jT (by omega) (by omega)]; omega
   rw [if_pos d,uw eg,XJ,ew]
   refine De hn h8 k (i+1) _ (by omega) (by omega) fun j x hj hx=>?_
   rw [IY]
   by_cases e:j<i
   ·have:¬x=y:=fun e2=>by
     subst e2
     have a1:=Dd hn hx
     have a2:=Dd hn eg
     omega
    rw [if_neg this]
    exact hp j x e hx
   ·have:j=i:=by omega
    subst this
    rw [eg] at hx; cases hx
    rw [if_pos rfl]
  ·have d:decide ((i:Int)<(l.length:Int))=false:=by rw [decide_eq_false_iff_not]; omega
   have e:i=l.length:=by omega
   rw [if_neg (by rw [d]; decide),e]
   exact⟨place,rfl,by rw [←e]; exact hp⟩
theorem Df (place:List (Int × Int))(v:aj)(h8:v.args.length≤8):∀(k i:Nat),i≤v.args.length→v.args.length - i<k→
  az.l2 m place v k ((v.args.take i).map (fun a=>(mz place a).1)++v.args.drop i) (i:Int)=some (v.args.map (fun a=>(mz place a).1),(v.args.length:Int))
 | 0,i,h1,h2=>by omega
 | k+1,i,h1,h2=>by
  simp only [az.l2]
  by_cases hi:i<v.args.length
  ·have d:decide ((i:Int)<(v.args.length:Int))=true:=by rw [decide_eq_true_eq]; omega
   have hl:((v.args.take i).map (fun a=>(mz place a).1)).length=i:=by rw [X0,YD]; omega
   have ed:v.args.drop i=v.args[i]::v.args.drop (i+1):=XW hi
   have et:v.args.take (i+1)=v.args.take i++[v.args[i]]:=Yu hi
   have eg:((v.args.take i).map (fun a=>(mz place a).1)++v.args.drop i)[i]? = some v.args[i]:=by
    rw [X1 (by omega),hl,YP,ed]; rfl
   have es:((v.args.take i).map (fun a=>(mz place a).1)++v.args.drop i).set i ((mz place v.args[i]).1)=(v.args.take (i+1)).map (fun a=>(mz place a).1)++v.args.drop (i+1):=by
    rw [YV _ _ (by omega),hl,YP,ed,et,Ye,X3]; rfl
   have ew:i64.wrap ((i:Int)+1)=((i+1:Nat):Int):=by rw [jT (by omega) (by omega)]; omega
   rw [if_pos d,uw eg]
   simp only [XJ,ew,XY,es]
   exact Df place v h8 k (i+1) (by omega) (by omega)
  ·have d:decide ((i:Int)<(v.args.length:Int))=false:=by rw [decide_eq_false_iff_not]; omega
   have e:i=v.args.length:=by omega
   rw [if_neg (by rw [d]; decide),e]
   simp
theorem Dg (hm:16000≤m)(v:Inv s){l:List Int}(h:Reach s r l){place:List (Int × Int)}(hp:PI place l l.length):∀(k i:Nat),i≤l.length→l.length - i<k→
  az.l1 m s l place k (i:Int) ((l.take i).map (vL s l)) 0=some ((l.length:Int),TN s l,0)
 | 0,i,h1,h2=>by omega
 | k+1,i,h1,h2=>by
  simp only [az.l1]
  have hf:=h.ED
  have h8:=v.max
  by_cases hi:i<l.length
  ·have d:decide ((i:Int)<(l.length:Int))=true:=by rw [decide_eq_true_eq]; omega
   have eg:=XO hi
   have et:l.take (i+1)=l.take i++[l[i]]:=Yu hi
   generalize l[i]=y at eg et
   have hy:=XT eg
   obtain⟨y1,y2,_⟩:=h.rt y hy
   have ew:i64.wrap ((i:Int)+1)=((i+1:Nat):Int):=by rw [jT (by omega) (by omega)]; omega
   have n8:=(v.args _ (fN y1)).1
   have ea:(zy s y).args.map (fun a=>(mz place a).1)=(dq s.aa y).args.map fun a=>uo l (rp s.ae a):=by
    show ((dq s.aa y).args.map _).map _=_
    rw [List.map_map]
    apply Y0
    intro a ha
    have hin:=h.cl y hy a ha
    have h0:=nI hin
    have h1:=sq hin
    show (mz place (rp s.ae a)).1=_
    rw [hp _ _ (by omega) h0]
    omega
   have hl:(zy s y).args.length≤8:=by show (List.map _ _).length≤8; rw [X0]; exact n8
   have e2:=Df (m:=m) place (zy s y) hl m 0 (Yt _) (by omega)
   have e2:az.l2 m place (zy s y) m (zy s y).args 0=_:=e2
   rw [if_pos d,uw eg,XJ,Da hm v y1,XJ,e2,XJ]
   simp only [ew]
   rw [zf (by simp only [X0,YD,X2,Yf]; omega),XJ]
   have:=Dg hm v h hp k (i+1) (by omega) (by omega)
   rw [et,Ye] at this
   rw [ea]
   exact this
  ·have d:decide ((i:Int)<(l.length:Int))=false:=by rw [decide_eq_false_iff_not]; omega
   have e:i=l.length:=by omega
   rw [if_neg (by rw [d]; decide),e,Zf]
   rfl
theorem Hc (v:Inv2 s){l:List Int}(h:Reach s r l):gf ⟨TN s l,0⟩=true:=by
 have hf:=h.ED
 have h8:=v.inv.max
 have h0:=(XQ.1 h.hd).1
 have hl:(TN s l).length=l.length:=X0 ..
 unfold gf
 simp only [XN,decide_eq_true_eq,X5]
 refine⟨⟨⟨⟨by omega,by omega⟩,by omega⟩,by omega⟩,fun n hn=>?_⟩
 obtain⟨y,hy,rfl⟩:=Yo.1 hn
 obtain⟨y1,y2,_⟩:=h.rt y hy
 obtain⟨k1,k2⟩:=v.vn y y1
 exact qM k1 _ (fun a ha=>by rw [hl]; exact sq (h.cl y hy a ha)) (fun hk=>by rw [k2 hk]; exact y1.1) (fun _=>rfl)
theorem Hd (hm:2 ^ 41≤m)(v:Inv2 s){n:Int}(h:Rg s.aa.length n):∃l z,Reach s (rp s.ae n) l∧gf ⟨TN s l,0⟩=true∧dw.f m ⟨TN s l,0⟩=some z∧az.f m s n=some (z,0)∧gf z=true:=by
 have xo:(2:Nat) ^ 41=2199023255552:=by decide
 obtain⟨l,e1,R⟩:=IZ (m:=m) (by omega) v.inv h
 have hf:=R.ED
 have h8:=v.inv.max
 have hV:=Hc v R
 obtain⟨z,_,e4,hz,_⟩:=lI hm hV
 obtain⟨place,e2,hp⟩:=De (m:=m) R.nd (by omega) m 0 [] (Yt _) (by omega) (fun j x hj=>by omega)
 have e2:az.l0 m l m [] 0=_:=e2
 have e3:=Dg (m:=m) (by omega) v.inv R hp m 0 (Yt _) (by omega)
 have e3:az.l1 m s l place m 0 [] 0=_:=e3
 refine⟨l,z,R,hV,e4,?_,hz⟩
 unfold az.f
 rw [nU (by omega) v.inv.made [n] (by simp),show ([n].all fun n=>decide (Rg s.aa.length n))=true by simp [h],if_pos rfl,XJ,if_neg (by decide),e1,XJ,e2,XJ]
 simp only []
 rw [e3,XJ]
 simp only []
 unfold fy.f
 rw [mr (by omega),hV,XJ,if_neg (by decide),e4]
 rfl
end
end Go.Proofs.Ytifafejidnjckaa
namespace Go.Proofs.Ytifafejidnjckaa
open Go Go.R
open Go.IntKind (i64 u64 u8 u32)
def Dh:bY:=gK [0,1,2,3,4,5,13] [2,3] [115,51,79,79] [] []
def ic.f (m:Nat)(a0:bc)(b0:bc):Option (Bool × Int):=(fO.f m a0).bind fun x0=>if (!x0)=true then (some (false,(2:Int))) else ((fO.f m b0).bind fun x1=>if (!x1)=true then (some (false,(2:Int))) else ((dw.f m a0).bind fun x2=>(dw.f m b0).bind fun x3=>(gY.f m x2 x3).bind fun x4=>some (x4,(0:Int))))
def ic.fin (L:Mem)(r:Bool × Int)(s:St):Prop:=∃av,aM Try.prog (s.open Dh) Try.f22.results.toList=some av∧fj s.h av (.tup [.bool r.1,.int .i64 r.2])
def T7 (cf:CallF)(m:Nat):Prop:=∀(a0:bc) (b0:bc) (r:Bool × Int),ic.f m a0 b0=some r→∀h xs,aQ bJ h xs [.agg [ai.fz a0.nodes,.int .i64 a0.root],.agg [ai.fz b0.nodes,.int .i64 b0.root]]→cf 22 xs h=some (.tup [.bool r.1,.int .i64 r.2],h)
section
variable {cf:CallF}{m:Nat}
theorem uq {aW:FuncId→bY}(ha:aW 22=Dh)(Gp:QS cf m)(Sc:TF cf m)(IB:Rr cf m)(a0:bc)(b0:bc)(h:AHeap)(L:Mem)  (o:Has h (L)){out:Bool × Int}(H:ic.f m a0 b0=some out) :
  ∃r h',bb Try.prog aW cf m 22 [.agg [ai.fz a0.nodes,.int .i64 a0.root],.agg [ai.fz b0.nodes,.int .i64 b0.root]] h=some (r,h')∧fj h' r (.tup [.bool out.1,.int .i64 out.2]):=by
 refine ar (fn:=Try.f22) ha Try.func22 (by kernel_rfl) (by kernel_rfl) ?_
 refine aG (Q:=fun s=>ic.fin L out s) (fun _ _ h=>h) ?_
 have H:_=some out:=H
 unfold ic.f at H
 show dy _ cf Dh m _ ⟨.agg [ai.fz a0.nodes,.int .i64 a0.root] :: .agg [ai.fz b0.nodes,.int .i64 b0.root]::Aw [],[none,none],h⟩ _
 refine q1 <| qq <| qq ?_
 obtain⟨x0,e0,H⟩:=bj H
 rcases ig H with⟨c0,H⟩| ⟨c0,H⟩
 ·obtain rfl:=oi H
  exact qr [.a 1 (Gp _ _ e0 h _ (fq (ah (eh (ah (dW (E:=ai)) (ah (aT) (aw)))) (aw)))),.b 3 c0] <| FH <| qq <| q0 <| qt <| ⟨.inl rfl,cX (.tup [.bool false,.int .i64 (2:Int)]) h (cV (tg (jt (aA) (jt (dc) (te)))))⟩
 ·obtain⟨x1,e1,H⟩:=bj H
  refine qr [.a 1 (Gp _ _ e0 h _ (fq (ah (eh (ah (dW (E:=ai)) (ah (aT) (aw)))) (aw)))),.b 3 c0,.a 5 (Gp _ _ e1 h _ (fq (ah (eh (ah (dW (E:=ai)) (ah (aT) (aw)))) (aw))))] <| qc H (fun c2 H=>?_) (fun c2 H=>?_)
  ·obtain rfl:=oi H
   exact q1 <| qt <| ⟨.inl rfl,cX (.tup [.bool false,.int .i64 (2:Int)]) h (cV (tg (jt (aA) (jt (dc) (te)))))⟩
  ·refine qk <| qq ?_
   obtain⟨x2,e2,H⟩:=bj H
   obtain⟨aH,b6,h0,e3,o0,ES⟩:=IB _ _ e2 h _ _ o (fq (ah (eh (ah (dW (E:=ai)) (ah (aT) (aw)))) (aw)))
   obtain⟨x3,e4,H⟩:=bj H
   obtain⟨ck,jK,h1,e5,o1,JS⟩:=IB _ _ e4 h0 _ _ o0 (fq (ah (eh (ah (dW (E:=ai)) (ah (aT) (aw)))) (aw)))
   have o2:=Has.lA (pre:=[(ck,.sl x3.nodes.length 4 (dH.l (ba x3.nodes jK)))]) (N:=[(aH,.sl x2.nodes.length 4 (dH.l (ba x2.nodes b6)))]) (mid:=eQ x3.nodes jK) o1
   obtain⟨x4,e6,H⟩:=bj H
   refine qr [.a 1 e3,.a 3 e5,.a 4 (Sc _ _ _ e6 h1 _ (fq (ah (eh (ah (wW (pre:=[(ck,.sl x3.nodes.length 4 (dH.l (ba x3.nodes jK))),(aH,.sl x2.nodes.length 4 (dH.l (ba x2.nodes b6)))]) (ns:=x2.nodes) (ids:=b6) (q:=1) (Has.lA (pre:=[(ck,.sl x3.nodes.length 4 (dH.l (ba x3.nodes jK))),(aH,.sl x2.nodes.length 4 (dH.l (ba x2.nodes b6)))]) (mid:=eQ x3.nodes jK) (N:=eQ x2.nodes b6) o2) rfl) (ah (aT) (aw)))) (ah (eh (ah (wW (pre:=[(ck,.sl x3.nodes.length 4 (dH.l (ba x3.nodes jK))),(aH,.sl x2.nodes.length 4 (dH.l (ba x2.nodes b6)))]) (ns:=x3.nodes) (ids:=jK) (q:=0) o2 rfl) (ah (aT) (aw)))) (aw)))))] ?_
   have o3:Has h1 ((ck,.sl x3.nodes.length 4 (dH.l (ba x3.nodes jK)))::(eQ x3.nodes jK++L)):=Has.gone (pre:=[(ck,.sl x3.nodes.length 4 (dH.l (ba x3.nodes jK)))]) (ns:=x2.nodes) (ids:=b6) (Has.lA (pre:=[(ck,.sl x3.nodes.length 4 (dH.l (ba x3.nodes jK)))]) (mid:=eQ x3.nodes jK) (N:=eQ x2.nodes b6) (Has.del o2 1))
   have o4:Has h1 (L):=Has.gone (pre:=[]) (Has.del o3 0)
   obtain rfl:=oi H
   exact qt <| ⟨.inl rfl,cX (.tup [.bool x4,.int .i64 (0:Int)]) h1 (cV (tg (jt (aA) (jt (dc) (te)))))⟩
end
end Go.Proofs.Ytifafejidnjckaa
namespace Go.Proofs.Ytifafejidnjckaa
open Go Go.R Go.Uf
open Go.IntKind (i64 u64 u8 u32)
section
variable {m:Nat}
theorem vM {a b:List Int}(hl:a.length=b.length)(h8:a.length≤8000):∀(k i:Nat),i≤a.length→a.length - i<k→
  (bG.l0 m a b k (i:Int)=some (.inr (a.length:Int))∧a.drop i=b.drop i)∨(bG.l0 m a b k (i:Int)=some (.inl false)∧a≠b)
 | 0,i,h1,h2=>by omega
 | k+1,i,h1,h2=>by
  simp only [bG.l0]
  by_cases hi:i<a.length
  ·have d:decide ((i:Int)<(a.length:Int))=true:=by rw [decide_eq_true_eq]; omega
   have ea:=XO hi
   have eb:=XO (l:=b) (i:=i) (by omega)
   have da:a.drop i=a[i]::a.drop (i+1):=XW hi
   have db:b.drop i=b[i]::b.drop (i+1):=XW (by omega)
   have ew:i64.wrap ((i:Int)+1)=((i+1:Nat):Int):=by rw [jT (by omega) (by omega)]; omega
   rw [if_pos d,uw ea,XJ,uw eb,XJ,ew,da,db]
   by_cases he:a[i]=b[i]
   ·rw [if_neg (by simp [he])]
    rcases vM hl h8 k (i+1) (by omega) (by omega) with⟨h,g⟩| h
    ·exact .inl ⟨h,by rw [he,g]⟩
    ·exact .inr h
   ·rw [if_pos (by simpa using he)]
    exact .inr ⟨rfl,fun e=>he (by subst e; rfl)⟩
  ·have d:decide ((i:Int)<(a.length:Int))=false:=by rw [decide_eq_false_iff_not]; omega
   have e:i=a.length:=by omega
   rw [if_neg (by rw [d]; decide),e]
   exact .inl ⟨rfl,by rw [List.drop_length,hl,List.drop_length]⟩
theorem He (hm:16000≤m){a b:List Int}(h8:a.length≤8000):∃r,bG.f m a b=some r∧(r=true↔a=b):=by
 unfold bG.f
 by_cases hl:a.length=b.length
 ·rw [if_neg (by simp [hl])]
  rcases vM (m:=m) hl h8 m 0 (Yt _) (by omega) with⟨h,g⟩| ⟨h,g⟩
  ·have h:bG.l0 m a b m 0=_:=h
   rw [h]
   exact⟨true,rfl,fun _=>by simpa using g,fun _=>rfl⟩
  ·have h:bG.l0 m a b m 0=_:=h
   rw [h]
   exact⟨false,rfl,fun h=>(by cases h),fun h=>absurd h g⟩
 ·rw [if_pos (by simp; omega)]
  exact⟨false,rfl,fun h=>(by cases h),fun h=>by subst h; exact absurd rfl hl⟩
theorem Hf (hm:16000≤m){a b:aj}(ha:El a)(hb:El b):∃r,dJ.f m a b=some r∧(r=true↔a=b):=by
 unfold dJ.f
 rw [xq (by omega),XJ]
 have hA:=ha.args
 by_cases h0:cT a b=0
 ·rw [if_pos (by rw [h0]; rfl)]
  obtain⟨r,e,h⟩:=He (m:=m) hm (a:=a.args) (b:=b.args) (by omega)
  rw [e,XJ]
  refine⟨r,rfl,fun hr=>?_,fun he=>h.2 (by rw [he])⟩
  have k3:∀{n:aj},El n→n.kind=3→n.int=0:=fun T h=>by rcases T.kind with⟨k,_⟩| ⟨k,_⟩| ⟨k,_⟩| ⟨k,z⟩| ⟨k,_⟩<;>first | exact z | omega
  have kn:∀{n:aj},El n→n.kind≠3→n.args=[]:=fun T h=>by rcases T.kind with⟨k,_,_,z⟩| ⟨k,_,_,z⟩| ⟨k,_,z⟩| ⟨k,_⟩| ⟨k,z⟩<;>first | exact z | exact absurd k h
  have A:=zr h0 (k3 ha) (k3 hb) (kn ha) (kn hb)
  have hargs:=h.1 hr
  cases a; cases b
  obtain⟨a1,a2,a3,_⟩:=A
  simp only at a1 a2 a3 hargs
  subst a1; subst a2; subst a3; subst hargs
  rfl
 ·rw [if_neg (by simpa using h0)]
  exact⟨false,rfl,fun h=>(by cases h),fun he=>absurd (by rw [he]; exact (Alike.refl b).cT) h0⟩
theorem vN (hm:16000≤m){a b:List aj}(hl:a.length=b.length)(h8:a.length≤8000)(ha:∀n∈a,El n)(hb:∀n∈b,El n):∀(k i:Nat),i≤a.length→a.length - i<k→
  (aF.l0 m a b (fun y0 y1=>dJ.f m y0 y1) k (i:Int)=some (.inr (a.length:Int))∧a.drop i=b.drop i)∨(aF.l0 m a b (fun y0 y1=>dJ.f m y0 y1) k (i:Int)=some (.inl false)∧a≠b)
 | 0,i,h1,h2=>by omega
 | k+1,i,h1,h2=>by
  simp only [aF.l0]
  by_cases hi:i<a.length
  ·have d:decide ((i:Int)<(a.length:Int))=true:=by rw [decide_eq_true_eq]; omega
   have ea:=XO hi
   have eb:=XO (l:=b) (i:=i) (by omega)
   have da:a.drop i=a[i]::a.drop (i+1):=XW hi
   have db:b.drop i=b[i]::b.drop (i+1):=XW (by omega)
   have ew:i64.wrap ((i:Int)+1)=((i+1:Nat):Int):=by rw [jT (by omega) (by omega)]; omega
   obtain⟨r,e,h⟩:=Hf (m:=m) hm (ha _ (XT ea)) (hb _ (XT eb))
   rw [if_pos d,uw ea,XJ,uw eb,XJ,e,XJ,ew,da,db]
   cases r with
   | true=>
    rw [if_neg (by simp)]
    rcases vN hm hl h8 ha hb k (i+1) (by omega) (by omega) with⟨h',g⟩| h'
    ·exact .inl ⟨h',by rw [h.1 rfl,g]⟩
    ·exact .inr h'
   | false=>
    rw [if_pos (by simp)]
    exact .inr ⟨rfl,fun e=>by subst e; have:=h.2 rfl; cases this⟩
  ·have d:decide ((i:Int)<(a.length:Int))=false:=by rw [decide_eq_false_iff_not]; omega
   have e:i=a.length:=by omega
   rw [if_neg (by rw [d]; decide),e]
   exact .inl ⟨rfl,by rw [List.drop_length,hl,List.drop_length]⟩
theorem Hg (hm:16000≤m){a b:bc}(h8:a.nodes.length≤8000)(ha:∀n∈a.nodes,El n)(hb:∀n∈b.nodes,El n):∃r,gY.f m a b=some r∧(r=true↔a.nodes=b.nodes):=by
 unfold gY.f aF.f
 by_cases hl:a.nodes.length=b.nodes.length
 ·rw [if_neg (by simp [hl])]
  rcases vN (m:=m) hm hl h8 ha hb m 0 (Yt _) (by omega) with⟨h,g⟩| ⟨h,g⟩
  ·have h:aF.l0 m a.nodes b.nodes (fun y0 y1=>dJ.f m y0 y1) m 0=_:=h
   rw [h]
   exact⟨true,rfl,fun _=>by simpa using g,fun _=>rfl⟩
  ·have h:aF.l0 m a.nodes b.nodes (fun y0 y1=>dJ.f m y0 y1) m 0=_:=h
   rw [h]
   exact⟨false,rfl,fun h=>(by cases h),fun h=>absurd h g⟩
 ·rw [if_pos (by simp; omega)]
  exact⟨false,rfl,fun h=>(by cases h),fun h=>by rw [h] at hl; exact absurd rfl hl⟩
theorem xB.trans {l k u:List aj}{R S:Int→Int→Prop}(A:xB l k R)(B:xB k u S):xB l u fun i j=>∃q,R i q∧S q j:=
 ⟨fun i j ⟨q,h,g⟩=>⟨(A.nY _ _ h).1,(B.nY _ _ g).2⟩,fun i j ⟨q,h,g⟩=>(A.top _ _ h).trans (B.top _ _ g),fun i j ⟨q,h,g⟩ n hn=>⟨_,A.arg _ _ h n hn,B.arg _ _ g n (by have:=(A.top _ _ h).len; omega)⟩⟩
def EE (t u:bc):Prop:=∃R,xB t.nodes u.nodes R∧R t.root u.root
theorem EE.trans {t u w:bc}(a:EE t u)(b:EE u w):EE t w:=by
 obtain⟨R,h1,h2⟩:=a
 obtain⟨S,g1,g2⟩:=b
 exact⟨_,h1.trans g1,_,h2,g2⟩
theorem EE.symm {t u:bc}(a:EE t u):EE u t:=by
 obtain⟨R,h1,h2⟩:=a
 exact⟨_,h1.swap,h2⟩
theorem LI (hm:2 ^ 41≤m){t u:bc}(ht:gf t=true)(hu:gf u=true):∃b,ic.f m t u=some (b,0)∧(b=true↔EE t u):=by
 have JB:(2:Nat) ^ 30=1073741824:=by decide
 have xo:(2:Nat) ^ 41=2199023255552:=by decide
 obtain⟨x,R,e1,vx,_,B1,r1⟩:=lI hm ht
 obtain⟨y,S,e2,vy,_,B2,r2⟩:=lI hm hu
 obtain⟨c1,n1,T8,_⟩:=kx hm ht
 obtain⟨c2,n2,T9,_⟩:=kx hm hu
 rw [e1] at T8
 rw [e2] at T9
 have x0:x.root=0:=by cases Yj T8; rfl
 have y0:y.root=0:=by cases Yj T9; rfl
 obtain⟨Wg,_,_,_,Tx⟩:=jm vx
 obtain⟨XD,_,_,_,Ty⟩:=jm vy
 obtain⟨b,e3,hb⟩:=Hg (m:=m) (by omega) Wg.1 Tx Ty
 refine⟨b,?_,hb.trans ⟨fun h=>?_,fun ⟨Q,hQ,hq⟩=>?_⟩⟩
 ·unfold ic.f
  rw [mr (by omega),ht,XJ,if_neg (by decide),mr (by omega),hu,XJ,if_neg (by decide),e1,XJ,e2,XJ,e3,XJ]
 ·refine EE.trans (u:=x) ⟨R,B1,r1⟩ (EE.symm ⟨S,?_,?_⟩)
  ·rw [h]; exact B2
  ·rw [x0,←y0]; exact r2
 ·obtain⟨z,k1,k2⟩:=En hm ht hu hQ hq
  rw [e1] at k1
  rw [e2] at k2
  cases Yj k1
  cases Yj k2
  rfl
end
end Go.Proofs.Ytifafejidnjckaa
namespace Go.Proofs.Ytifafejidnjckaa
open Go Go.R Go.Uf
open Go.IntKind (i64 u64 u8 u32)
structure Sd (s:ab)(Q:Int→Int→Prop):Prop where
 nY:∀u v,Q u v→(Rg s.aa.length u∧rp s.ae u=u)∧Rg s.aa.length v∧rp s.ae v=v
 top:∀u v,Q u v→iG (dq s.aa u) (dq s.aa v)
 arg:∀u v,Q u v→∀(i:Nat) a b,(dq s.aa u).args[i]? = some a→(dq s.aa v).args[i]? = some b→Q (rp s.ae a) (rp s.ae b)
def Sb (s:ab)(u v:Int):Prop:=∃Q,Sd s Q∧Q u v
theorem vO {a b:aj}(h:iG a b):iG b a:=⟨h.1.symm,h.2.1.symm,h.2.2.1.symm,h.2.2.2.symm⟩
theorem oU {a b c:aj}(h:iG a b)(k:iG b c):iG a c:=⟨h.1.trans k.1,h.2.1.trans k.2.1,h.2.2.1.trans k.2.2.1,h.2.2.2.trans k.2.2.2⟩
theorem Bb {a b:aj}(h:iG a b):Alike a b:=⟨h.1,h.2.1,A9 h.2.2.1,h.2.2.2⟩
theorem Alike.Se {a b:aj}(h:Alike a b):iG a b:=⟨h.1,h.2,by rw [h.3],h.4⟩
section
variable {s:ab}{u v w:Int}
theorem Sb.symm (h:Sb s u v):Sb s v u:=by
 obtain⟨Q,B,q⟩:=h
 exact⟨fun x y=>Q y x,⟨fun x y h=>⟨(B.nY _ _ h).2,(B.nY _ _ h).1⟩,fun x y h=>vO (B.top _ _ h),fun x y h i a b ha hb=>B.arg _ _ h i b a hb ha⟩,q⟩
theorem Sb.trans (h:Sb s u v)(k:Sb s v w):Sb s u w:=by
 obtain⟨Q,B,q⟩:=h
 obtain⟨P,C,p⟩:=k
 refine⟨fun x z=>∃y,Q x y∧P y z,⟨fun x z ⟨y,h1,h2⟩=>⟨(B.nY _ _ h1).1,(C.nY _ _ h2).2⟩,fun x z ⟨y,h1,h2⟩=>oU (B.top _ _ h1) (C.top _ _ h2),?_⟩,_,q,p⟩
 rintro x z ⟨y,h1,h2⟩ i a b ha hb
 have l1:=(B.top _ _ h1).2.2.2
 have hi:=(XQ.1 ha).1
 have hy:=XO (l:=(dq s.aa y).args) (i:=i) (by omega)
 exact⟨_,B.arg _ _ h1 i a _ ha hy,C.arg _ _ h2 i _ b hy hb⟩
theorem Sb.refl (v:Inv s){u:Int}(hu:Rg s.aa.length u)(hr:rp s.ae u=u):Sb s u u:=
 ⟨fun x y=>x=y∧Rg s.aa.length x∧rp s.ae x=x,⟨fun x y ⟨e,h⟩=>by subst e; exact⟨h,h⟩,fun x y ⟨e,h⟩=>by subst e; exact iG.refl _,fun x y ⟨e,h⟩ i a b ha hb=>by
  subst e
  rw [ha] at hb; cases hb
  have:=(v.args _ (fN h.1)).2 a (XT ha)
  exact⟨rfl,v.cn.rg a this,v.cn.id a this⟩⟩,rfl,hu,hr⟩
theorem Sb.var (v:Inv2 s)(h:Sb s u w)(hk:(dq s.aa u).kind=0):u=w:=by
 obtain⟨Q,B,q⟩:=h
 obtain⟨⟨h1,_⟩,h2,_⟩:=B.nY _ _ q
 obtain⟨t1,t2,_⟩:=B.top _ _ q
 have:=(v.vn u h1).2 hk
 have:=(v.vn w h2).2 (by rw [←t1]; exact hk)
 omega
theorem Sb.top (h:Sb s u w):iG (dq s.aa u) (dq s.aa w):=by
 obtain⟨Q,B,q⟩:=h
 exact B.top _ _ q
theorem Sb.arg (h:Sb s u w){i:Nat}{a b:Int}(ha:(dq s.aa u).args[i]? = some a)(hb:(dq s.aa w).args[i]? = some b):Sb s (rp s.ae a) (rp s.ae b):=by
 obtain⟨Q,B,q⟩:=h
 exact⟨Q,B,B.arg _ _ q i a b ha hb⟩
noncomputable def HE (s:ab)(x:Int):Int:=Classical.epsilon fun y=>Sb s (rp s.ae x) y
theorem xC (v:Inv s){x y:Int}(hx:Rg s.aa.length x)(hy:Rg s.aa.length y):HE s x=HE s y↔Sb s (rp s.ae x) (rp s.ae y):=by
 have ex:=Classical.epsilon_spec (p:=fun z=>Sb s (rp s.ae x) z) ⟨_,Sb.refl v (v.cn.rg x hx) (v.cn.id x hx)⟩
 have ey:=Classical.epsilon_spec (p:=fun z=>Sb s (rp s.ae y) z) ⟨_,Sb.refl v (v.cn.rg y hy) (v.cn.id y hy)⟩
 constructor
 ·intro h
  have ex:Sb s (rp s.ae x) (HE s x):=ex
  have ey:Sb s (rp s.ae y) (HE s y):=ey
  rw [h] at ex
  exact ex.trans ey.symm
 ·intro h
  unfold HE
  congr 1
  funext z
  exact propext ⟨fun k=>h.symm.trans k,fun k=>h.trans k⟩
theorem Di (v:Inv s):gB s.aa (rp s.ae) (HE s):=fun x y hx hy h=>by
 unfold HE; rw [h]
theorem Hh (v:Inv2 s):Cl s.aa (HE s):=by
 intro x y hx hy h vx vy
 have h:=(xC v.inv hx hy).1 h
 have c:=v.inv.cn
 have x1:=c.rg x hx
 have y1:=c.rg y hy
 obtain⟨a1,a2⟩:=v.cl x (rp s.ae x) hx x1 (c.id x hx).symm vx (c.val hx vx)
 obtain⟨b1,b2⟩:=v.cl y (rp s.ae y) hy y1 (c.id y hy).symm vy (c.val hy vy)
 refine⟨oU a1 (oU h.top (vO b1)),fun i a b ha hb=>?_⟩
 have hi:=(XQ.1 ha).1
 have hj:=(XQ.1 hb).1
 have la:=a1.2.2.2
 have lb:=b1.2.2.2
 have ga:=XO (l:=(dq s.aa (rp s.ae x)).args) (i:=i) (by omega)
 have gb:=XO (l:=(dq s.aa (rp s.ae y)).args) (i:=i) (by omega)
 have e1:=a2 i a _ ha ga
 have e2:=b2 i b _ hb gb
 have e3:=h.arg ga gb
 rw [←e1,←e2] at e3
 exact (xC v.inv ((v.inv.args _ (fN hx)).2 a (XT ha)) ((v.inv.args _ (fN hy)).2 b (XT hb))).2 e3
end
structure Sf (s:ab)(a b:Int)(l:List Int)(ok:Bool)(s':ab):Prop where
 un:CU s s' l
 inv:Inv s'
 len:l.length≤8000
 no:ok=false→∀T,Cl s.aa T→gB s.aa (rp s.ae) T→T a=T b→False
 yes:ok=true→Cl s.aa (rp s'.ae)∧gB s.aa (rp s.ae) (rp s'.ae)∧rp s'.ae a=rp s'.ae b∧∀T,Cl s.aa T→gB s.aa (rp s.ae) T→T a=T b→gB s.aa (rp s'.ae) T
section
variable {m:Nat}{s:ab}{a b:Int}
theorem Dj {N:List aj}{l:List Int}:IS N l=[]↔∀n∈l,(dq N n).kind≠0:=by
 have hl:(IS N l).length=(l.filter fun n=>(dq N n).kind==0).length:=lz _
 constructor
 ·intro h n hn hk
  rw [h] at hl
  have:n∈l.filter fun n=>(dq N n).kind==0:=List.mem_filter.2 ⟨hn,by simpa using hk⟩
  rw [Yd hl.symm] at this
  cases this
 ·intro h
  have:l.filter (fun n=>(dq N n).kind==0)=[]:=List.filter_eq_nil_iff.2 fun n hn=>by simpa using h n hn
  rw [this] at hl
  exact Yd hl
theorem Dk (hm:2000000≤m)(v:Inv2 s)(a b:Int) :
  (jb s [a,b]=false∧b7.f m s a b=some (0,[],1,s)∧bU.f m s a b=some ([],1,s))∨
  (jb s [a,b]=true∧∃l ok s',Sf s a b l ok s'∧b7.f m s a b=some (if ok=true then (if IS s.aa l=[] then (1,[],0,s) else (-1,IS s.aa l,0,s)) else (0,[],0,s))∧
   bU.f m s a b=some (if ok=true then (IS s.aa l,0,s') else ([],8,s))):=by
 unfold b7.f bU.f
 rw [nU hm v.inv.made [a,b] (by simp)]
 show _∨(_∧∃l ok s',_∧((some (if jb s [a,b]=true then (0:Int) else 1)).bind _)=_∧((some (if jb s [a,b]=true then (0:Int) else 1)).bind _)=_)
 cases hn:jb s [a,b] with
 | false=>
  refine .inl ⟨rfl,?_,?_⟩
  ·show ((some (if jb s [a,b]=true then (0:Int) else 1)).bind _)=_
   rw [hn,XJ]; rfl
  ·show ((some (if jb s [a,b]=true then (0:Int) else 1)).bind _)=_
   rw [hn,XJ]; rfl
 | true=>
  obtain⟨ra,rb⟩:=xw hn
  obtain⟨l,ok,s',e,u,v',hl,h1,h2⟩:=ui hm v.inv v.cl ra rb
  have eN:s'.aa=s.aa:=u.2.1
  refine .inr ⟨rfl,l,ok,s',⟨u,v',hl,h1,h2⟩,?_,?_⟩
  ·rw [if_pos rfl,XJ,if_neg (by decide),e,XJ]
   simp only [xn (m:=m) (by omega) hl u,XJ]
   rw [sk hm hl (fun n hn=>by rw [←v.inv.len]; exact (u.2.2.2.1 n hn).1)]
   simp only [XJ]
   cases ok with
   | false=>rfl
   | true=>
    rw [if_neg (by simp),if_pos rfl]
    by_cases hb:IS s.aa l=[]
    ·rw [if_pos hb,hb]; rfl
    ·rw [if_neg hb,if_neg]
     intro h
     apply hb
     have:((IS s.aa l).length:Int)=0:=by simpa using h
     exact Yd (by omega)
  ·rw [if_pos rfl,XJ,if_neg (by decide),e,XJ]
   cases ok with
   | false=>
    simp only [xn (m:=m) (by omega) hl u,XJ]
    rfl
   | true=>
    rw [if_neg (show ¬(!(l,true,s').2.1)=true by simp)]
    simp only []
    rw [sk hm hl (fun n hn=>by rw [eN,←v.inv.len]; exact (u.2.2.2.1 n hn).1),eN]
    rfl
theorem Sf.same (v:Inv2 s)(ra:Rg s.aa.length a)(rb:Rg s.aa.length b){l:List Int}{ok:Bool}{s':ab}(E:Sf s a b l ok s'):(ok=true∧IS s.aa l=[])↔Sb s (rp s.ae a) (rp s.ae b):=by
 have c:=v.inv.cn
 have eN:s'.aa=s.aa:=E.un.2.1
 have c':Cn s.aa (rp s'.ae):=by rw [←eN]; exact E.inv.cn
 have root:∀n,Rg s.aa.length n→rp s.ae n=n→n∉l→rp s'.ae n=n:=fun n hn hr hm=>by
  have Jj:=v.inv.rg hn
  have h1:iP s.ae n=n:=by
   have:=v.inv.ok.rt n Jj
   unfold rp at hr
   have hr:rp s.ae n=n:=hr
   rw [hr] at this; exact this
  have:=E.un.2.2.2.2.1 n Jj hm
  exact mo (this.trans h1)
 constructor
 ·rintro⟨h1,h2⟩
  obtain⟨k1,k2,k3,_⟩:=E.yes h1
  have free:=Dj.1 h2
  refine⟨fun u w=>((Rg s.aa.length u∧rp s.ae u=u)∧Rg s.aa.length w∧rp s.ae w=w)∧rp s'.ae u=rp s'.ae w,⟨fun u w h=>h.1,?_,?_⟩,⟨⟨c.rg a ra,c.id a ra⟩,c.rg b rb,c.id b rb⟩,?_⟩
  ·rintro u w ⟨⟨⟨u1,u2⟩,w1,w2⟩,e⟩
   by_cases hu:(dq s.aa u).kind=0
   ·have eu:=root u u1 u2 fun h=>free u h hu
    by_cases hw:(dq s.aa w).kind=0
    ·have ew:=root w w1 w2 fun h=>free w h hw
     rw [eu,ew] at e; subst e; exact iG.refl _
    ·have:=c'.val w1 hw
     rw [←e,eu] at this
     exact absurd hu this
   ·by_cases hw:(dq s.aa w).kind=0
    ·have ew:=root w w1 w2 fun h=>free w h hw
     have:=c'.val u1 hu
     rw [e,ew] at this
     exact absurd hw this
    ·exact (k1 u w u1 w1 e hu hw).1
  ·rintro u w ⟨⟨⟨u1,u2⟩,w1,w2⟩,e⟩ i x y hx hy
   have rx:=(v.inv.args _ (fN u1)).2 x (XT hx)
   have ry:=(v.inv.args _ (fN w1)).2 y (XT hy)
   refine⟨⟨⟨c.rg x rx,c.id x rx⟩,c.rg y ry,c.id y ry⟩,?_⟩
   rw [k2 _ _ (c.rg x rx) rx (c.id x rx),k2 _ _ (c.rg y ry) ry (c.id y ry)]
   have no:∀n (i:Nat) (x:Int),Rg s.aa.length n→(dq s.aa n).kind=0→(dq s.aa n).args[i]? = some x→False:=fun n i x hn hk hx=>by
    have:=(v.vn n hn).1
    unfold fA at this
    rw [if_pos hk] at this
    simp only [XN] at this
    rw [N0 this.2] at hx
    simp at hx
   exact (k1 u w u1 w1 e (fun h=>no u i x u1 h hx) (fun h=>no w i y w1 h hy)).2 i x y hx hy
  ·rw [k2 _ _ (c.rg a ra) ra (c.id a ra),k2 _ _ (c.rg b rb) rb (c.id b rb)]
   exact k3
 ·intro h
  have hT:HE s a=HE s b:=(xC v.inv ra rb).2 h
  have N3:ok=true:=by
   cases ok with
   | true=>rfl
   | false=>exact (E.no rfl _ (Hh v) (Di v.inv) hT).elim
  obtain⟨k1,k2,k3,k4⟩:=E.yes N3
  have hs:=k4 _ (Hh v) (Di v.inv) hT
  refine⟨N3,Dj.2 fun n hn hk=>?_⟩
  obtain⟨n1,n2⟩:=E.un.2.2.2.1 n hn
  have n1:Rg s.aa.length n:=by rw [←v.inv.len]; exact n1
  have n3:=E.un.2.2.2.2.2 n hn
  have hr:rp s.ae n=n:=mo n2
  have r1:=c'.rg n n1
  have r2:=c'.id n n1
  have hb:=hs _ _ r1 n1 r2
  have hb:=(xC v.inv r1 n1).1 hb
  rw [hr] at hb
  have e:=hb.symm.var v hk
  have q1:=c'.bt n n1
  have q2:=c.bt (rp s'.ae n) r1
  rw [←e] at q2
  have e2:rp s'.ae n=n:=Bt.antisymm q1 q2
  apply n3
  have:=E.inv.ok.rt n (by rw [E.inv.len,eN]; exact n1)
  rwa [e2] at this
end
end Go.Proofs.Ytifafejidnjckaa
namespace Go.Proofs.Ytifafejidnjckaa
open Go Go.R Go.Uf
open Go.IntKind (i64 u64 u8 u32)
section
variable {m:Nat}{s:ab}{a b:Int}
theorem pZ {l:List Int}{i u:Int}(h:l[i.toNat]? = some u):nd (TN s l) i=vL s l u:=by
 unfold nd TN
 rw [X4,YB,h]
 rfl
theorem N9 {l:List Int}{k:Nat}{x:Int}(h:l[k]? = some x):gt l k=x:=by
 unfold gt
 rw [X4,h]; rfl
theorem Hi {l:List Int}{i u:Int}(h0:0≤i)(h:l[i.toNat]? = some u):i<l.length:=by
 have:=(XQ.1 h).1
 omega
theorem sr {l:List Int}{u x:Int}{k:Nat}(h:(dq s.aa u).args[k]? = some x):gt (vL s l u).args k=uo l (rp s.ae x):=by
 apply N9
 show ((dq s.aa u).args.map fun a=>uo l (rp s.ae a))[k]? = _
 rw [YB,h]; rfl
theorem Hj {p q:Int}{l1 l2:List Int}(h1:Reach s p l1)(h2:Reach s q l2):EE ⟨TN s l1,0⟩ ⟨TN s l2,0⟩↔Sb s p q:=by
 have Sh:(TN s l1).length=l1.length:=X0 ..
 have Si:(TN s l2).length=l2.length:=X0 ..
 constructor
 ·rintro⟨R,B,r⟩
  have B:xB (TN s l1) (TN s l2) R:=B
  refine⟨fun u w=>∃i j,R i j∧l1[i.toNat]? = some u∧l2[j.toNat]? = some w,⟨?_,?_,?_⟩,0,0,r,h1.hd,h2.hd⟩
  ·rintro u w ⟨i,j,h,g1,g2⟩
   obtain⟨u1,u2,_⟩:=h1.rt u (XT g1)
   obtain⟨w1,w2,_⟩:=h2.rt w (XT g2)
   exact⟨⟨u1,u2⟩,w1,w2⟩
  ·rintro u w ⟨i,j,h,g1,g2⟩
   have:=B.top _ _ h
   rw [pZ g1,pZ g2] at this
   have:=this.Se
   unfold vL iG at this
   simp only [X0] at this
   exact this
  ·rintro u w ⟨i,j,h,g1,g2⟩ k x y hx hy
   have hk:=(XQ.1 hx).1
   have:=B.arg _ _ h k (by rw [pZ g1]; show k<(List.map _ _).length; rw [X0]; exact hk)
   rw [pZ g1,pZ g2,sr hx,sr hy] at this
   exact⟨_,_,this,nI (h1.cl u (XT g1) x (XT hx)),nI (h2.cl w (XT g2) y (XT hy))⟩
 ·intro h
  refine⟨fun i j=>(0≤i∧0≤j)∧∃u w,l1[i.toNat]? = some u∧l2[j.toNat]? = some w∧Sb s u w,⟨?_,?_,?_⟩,⟨Int.le_refl 0,Int.le_refl 0⟩,p,q,h1.hd,h2.hd,h⟩
  ·rintro i j ⟨⟨i0,j0⟩,u,w,g1,g2,_⟩
   show (0≤i∧i<(TN s l1).length)∧0≤j∧j<(TN s l2).length
   rw [Sh,Si]
   exact⟨⟨i0,Hi i0 g1⟩,j0,Hi j0 g2⟩
  ·rintro i j ⟨_,u,w,g1,g2,hb⟩
   show Alike (nd (TN s l1) i) (nd (TN s l2) j)
   rw [pZ g1,pZ g2]
   apply Bb
   have:=hb.top
   unfold vL iG
   unfold iG at this
   simp only [X0]
   exact this
  ·rintro i j ⟨_,u,w,g1,g2,hb⟩ k hk
   show (0≤gt (nd (TN s l1) i).args k∧0≤gt (nd (TN s l2) j).args k)∧_
   have hk:k<(nd (TN s l1) i).args.length:=hk
   show _∧∃x y,l1[(gt (nd (TN s l1) i).args k).toNat]? = some x∧l2[(gt (nd (TN s l2) j).args k).toNat]? = some y∧Sb s x y
   rw [pZ g1] at hk ⊢
   rw [pZ g2]
   have hk:k<(List.map _ (dq s.aa u).args).length:=hk
   rw [X0] at hk
   have hl:=hb.top.2.2.2
   have gx:=XO hk
   have gy:=XO (l:=(dq s.aa w).args) (i:=k) (by omega)
   rw [sr gx,sr gy]
   have m1:=h1.cl u (XT g1) _ (XT gx)
   have m2:=h2.cl w (XT g2) _ (XT gy)
   exact⟨⟨(sq m1).1,(sq m2).1⟩,_,_,nI m1,nI m2,hb.arg gx gy⟩
theorem vP (hm:2 ^ 41≤m){t z:bc}(ht:gf t=true)(h:dw.f m t=some z):EE t z:=by
 obtain⟨z',R,e,_,_,B,r⟩:=lI hm ht
 rw [h] at e
 cases Yj e
 exact⟨R,B,r⟩
theorem I0 (hm:2 ^ 41≤m)(v:Inv2 s)(ra:Rg s.aa.length a)(rb:Rg s.aa.length b):∃x y c,az.f m s a=some (x,0)∧az.f m s b=some (y,0)∧ic.f m x y=some (c,0)∧(c=true↔Sb s (rp s.ae a) (rp s.ae b)):=by
 obtain⟨l1,x,h1,v1,e1,f1,w1⟩:=Hd hm v ra
 obtain⟨l2,y,h2,v2,e2,f2,w2⟩:=Hd hm v rb
 obtain⟨c,e3,hc⟩:=LI hm w1 w2
 have q1:=vP hm v1 e1
 have q2:=vP hm v2 e2
 refine⟨x,y,c,f1,f2,e3,hc.trans ⟨fun h=>?_,fun h=>?_⟩⟩
 ·exact (Hj h1 h2).1 ((q1.trans h).trans q2.symm)
 ·exact (q1.symm.trans ((Hj h1 h2).2 h)).trans q2
theorem Bc (hm:2 ^ 63≤m)(x:aj)(h:x.args.length<2 ^ 63):gj.f m x x=some true:=by
 unfold gj.f
 simp only [BEq.rfl,if_true,Eo x.args h hm,XJ]
end
end Go.Proofs.Ytifafejidnjckaa
