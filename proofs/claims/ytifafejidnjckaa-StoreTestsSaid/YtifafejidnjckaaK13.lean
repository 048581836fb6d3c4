/- Part of the proof: PB9, PV1, PA8, PA9, PA10, PA11, PA12, PC1, PC2, Q22, PC3, PC4. -/
import Derived.Test.YtifafejidnjckaaK12
set_option linter.unusedVariables false
set_option linter.unusedSimpArgs false
set_option maxRecDepth 100000
open Bool renaming and_eq_true → ZF, false_eq_true → ZN, not_true → aaC, not_eq_true' → aaF
open Int renaming toNat_natCast → ZQ, natCast_nonneg → aaY
open List renaming getElem?_eq_getElem → ZG, getElem?_eq_some_iff → ZH, mem_of_getElem? → ZK, length_append → ZM, drop_eq_getElem_cons → ZP, length_map → ZR, getElem?_append_left → ZS, getElem?_append_right → ZT, length_cons → ZU, append_assoc → ZV, getD_eq_getElem?_getD → ZW, all_eq_true → ZX, mem_cons → ZZ, map_cons → Z0, mem_singleton → Z1, getElem?_eq_none → Z5, eq_nil_of_length_eq_zero → Z6, map_append → Z7, length_nil → Z8, mem_append → aaa, getElem?_cons_zero → aag, mem_map → aah, take_succ_eq_append_getElem → aan, mem_append_left → aat, getElem?_map → aau, getElem?_of_mem → aav, length_take → aaw, idxOf_lt_length_of_mem → aax, ext_getElem? → aaL, set_append_right → aaO, map_congr_left → aaT, append_nil → aa2, nodup_append → aa5, range → aa6, map_nil → aa8, take_length → aa9
open Nat renaming le_refl → ZI, zero_le → aai, le_trans → aap, add_sub_cancel_left → aaE, sub_self → aaJ, add_zero → aaW
open Option renaming bind_some → ZB, map_some → ZJ
open Option.some renaming injEq → ZE, inj → aaf
namespace Go.Proofs.Ytifafejidnjckaa
open Go Go.R
open Go.IntKind (i64 u64 u8 u32)
inductive Am (κ:Int→Int)(A:Int→List Int):List Int→List Int→List Int→Prop
 | nil (o:List Int):Am κ A [] o o
 | skip {v:Int} {st o o':List Int}:κ v∈o.map κ→Am κ A st o o'→Am κ A (v::st) o o'
 | push {v:Int} {st o o':List Int}:κ v∉o.map κ→Am κ A (A v++st) (o++[v]) o'→Am κ A (v::st) o o'
theorem Am.W9 {κ:Int→Int}{A:Int→List Int}{st o o1 o2:List Int}(h:Am κ A st o o1)(k:Am κ A st o o2):o1=o2:=by
 induction h with
 | nil o=>cases k; rfl
 | skip hm _ ih=>
  cases k with
  | skip _ k=>exact ih k
  | push hn _=>exact absurd hm hn
 | push hn _ ih=>
  cases k with
  | skip hm _=>exact absurd hm hn
  | push _ k=>exact ih k
theorem Am.facts {κ:Int→Int}{A:Int→List Int}{n:Nat}{st o o':List Int}(h:Am κ A st o o')(hA:∀v:Int,0≤v→v<n→∀a∈A v,0≤a∧a<n)(hst:∀v∈st,0≤v∧v<n)(ho:∀v∈o,0≤v∧v<n)(Kb:(o.map κ).Nodup) :
  (∃t,o'=o++t)∧(∀v∈o',0≤v∧v<n)∧(o'.map κ).Nodup∧(∀v∈st,κ v∈o'.map κ)∧((∀v∈o,∀a∈A v,κ a∈o.map κ∨a∈st)→∀v∈o',∀a∈A v,κ a∈o'.map κ):=by
 induction h with
 | nil o=>
  refine⟨⟨[],by simp⟩,ho,Kb,?_,?_⟩
  ·intro v hv; cases hv
  ·intro h v hv a ha; exact (h v hv a ha).resolve_right (by simp)
 | @skip v st o o' hm _ ih=>
  obtain⟨⟨t,rfl⟩,a,b,c,d⟩:=ih (fun x hx=>hst x (by simp [hx])) ho Kb
  refine⟨⟨t,rfl⟩,a,b,fun x hx=>?_,fun h=>d fun x hx y hy=>?_⟩
  ·rcases ZZ.1 hx with rfl | hx
   ·rw [Z7]; exact aat _ hm
   ·exact c x hx
  ·rcases h x hx y hy with h | h
   ·exact .inl h
   ·rcases ZZ.1 h with rfl | h
    ·exact .inl hm
    ·exact .inr h
 | @push v st o o' hn _ ih=>
  have hv:=hst v (by simp)
  have h1:∀x∈A v++st,0≤x∧x<n:=fun x hx=>by
   rcases aaa.1 hx with hx | hx
   ·exact hA v hv.1 hv.2 x hx
   ·exact hst x (by simp [hx])
  have h2:∀x∈o++[v],0≤x∧x<n:=fun x hx=>by
   rcases aaa.1 hx with hx | hx
   ·exact ho x hx
   ·rw [Z1] at hx; subst hx; exact hv
  have h3:((o++[v]).map κ).Nodup:=by
   rw [Z7,aa5]
   refine⟨Kb,by simp,fun a ha b hb=>?_⟩
   simp only [Z0,aa8,Z1] at hb
   subst hb; intro e; subst e; exact hn ha
  obtain⟨⟨t,rfl⟩,a,b,c,d⟩:=ih h1 h2 h3
  refine⟨⟨[v]++t,by simp⟩,a,b,fun x hx=>?_,fun h=>d fun x hx y hy=>?_⟩
  ·rcases ZZ.1 hx with rfl | hx
   ·simp
   ·exact c x (by simp [hx])
  ·rcases aaa.1 hx with hx | hx
   ·rcases h x hx y hy with h | h
    ·exact .inl (by rw [Z7]; exact aat _ h)
    ·rcases ZZ.1 h with rfl | h
     ·exact .inl (by simp)
     ·exact .inr (by simp [h])
   ·rw [Z1] at hx; subst hx
    exact .inr (aat _ hy)
theorem zU (cls:List Int)(l:List ak)(k:Nat)(i:Int)(o:List Int):uw cls l (k+1) i o=if gB cls i∈o.map (gB cls) then o else (nd l i).args.foldl (fun o a=>uw cls l k a o) (o++[i]):=rfl
theorem Hx {cls:List Int}{l:List ak}(ok:DB l):∀(k:Nat) (i:Int) (o:List Int),0≤i→i<l.length→Vs cls l.length o→Vs cls l.length (uw cls l k i o)∧o.length≤(uw cls l k i o).length
 | 0,i,o,_,_,v=>⟨v,ZI _⟩
 | k+1,i,o,h0,h1,v=>by
  rw [zU]
  split
  ·exact⟨v,ZI _⟩
  ·rename_i h
   have v1:Vs cls l.length (o++[i]):=by
    refine⟨?_,fun x hx=>?_⟩
    ·rw [Z7,aa5]
     refine⟨v.Jh,by simp,fun a ha b hb=>?_⟩
     simp only [Z0,aa8,Z1] at hb
     subst hb; intro e; subst e; exact h ha
    ·rcases aaa.1 hx with hx | hx
     ·exact v.lY x hx
     ·simp only [Z1] at hx; subst hx; exact⟨h0,h1⟩
   have fold:∀(zs:List Int) (o:List Int),(∀a∈zs,0≤a∧a<l.length)→Vs cls l.length o→Vs cls l.length (zs.foldl (fun o a=>uw cls l k a o) o)∧o.length≤(zs.foldl (fun o a=>uw cls l k a o) o).length:=by
    intro zs
    induction zs with
    | nil=>intro o _ v; exact⟨v,ZI _⟩
    | cons a zs ih=>
     intro o ha v
     have hr:=ha a (by simp)
     obtain⟨v2,l2⟩:=Hx ok k a o hr.1 hr.2 v
     obtain⟨v3,l3⟩:=ih (uw cls l k a o) (fun x hx=>ha x (by simp [hx])) v2
     exact⟨v3,aap l2 l3⟩
   obtain⟨v2,l2⟩:=fold (nd l i).args (o++[i]) (ok.2 _ (ls h0 h1)).2 v1
   exact⟨v2,by simp at l2; omega⟩
theorem sG {cls:List Int}{l:List ak}(ok:DB l):∀(k:Nat) (i:Int) (o st o':List Int),0≤i→i<l.length→Vs cls l.length o→l.length<k+o.length→
  Am (gB cls) (fun v=>(nd l v).args) st (uw cls l k i o) o'→Am (gB cls) (fun v=>(nd l v).args) (i::st) o o'
 | 0,i,o,st,o',_,_,v,hk,_=>absurd v.Fe (by omega)
 | k+1,i,o,st,o',h0,h1,v,hk,h=>by
  rw [zU] at h
  by_cases hm:gB cls i∈o.map (gB cls)
  ·rw [if_pos hm] at h
   exact .skip hm h
  ·rw [if_neg hm] at h
   refine .push hm ?_
   have v1:Vs cls l.length (o++[i]):=by
    refine⟨?_,fun x hx=>?_⟩
    ·rw [Z7,aa5]
     refine⟨v.Jh,by simp,fun a ha b hb=>?_⟩
     simp only [Z0,aa8,Z1] at hb
     subst hb; intro e; subst e; exact hm ha
    ·rcases aaa.1 hx with hx | hx
     ·exact v.lY x hx
     ·simp only [Z1] at hx; subst hx; exact⟨h0,h1⟩
   have fold:∀(zs:List Int) (o:List Int),(∀a∈zs,0≤a∧a<l.length)→Vs cls l.length o→l.length<k+o.length→Am (gB cls) (fun v=>(nd l v).args) st (zs.foldl (fun o a=>uw cls l k a o) o) o'→Am (gB cls) (fun v=>(nd l v).args) (zs++st) o o':=by
    intro zs
    induction zs with
    | nil=>intro o _ _ _ h; exact h
    | cons a zs ih=>
     intro o ha v hk h
     have hr:=ha a (by simp)
     obtain⟨v2,l2⟩:=Hx ok k a o hr.1 hr.2 v
     exact sG ok k a o (zs++st) o' hr.1 hr.2 v hk (ih _ (fun x hx=>ha x (by simp [hx])) v2 (by omega) h)
   exact fold (nd l i).args (o++[i]) (ok.2 _ (ls h0 h1)).2 v1 (by simp; omega) h
theorem Hy {od:List Int}{n:Nat}(h:od.Nodup)(hr:∀x∈od,0≤x∧x<n):od.length≤n:=by
 have:=h.length_le_of_subset (l₂:=ints n) (fun x hx=>jJ.2 (hr x hx))
 rwa [fF] at this
end Go.Proofs.Ytifafejidnjckaa
namespace Go.Proofs.Ytifafejidnjckaa
open Go Go.R
open Go.IntKind (i64 u64 u8 u32)
structure xW (l k:List ak)(R:Int→Int→Prop):Prop where
 lY:∀i j,R i j→(0≤i∧i<l.length)∧0≤j∧j<k.length
 top:∀i j,R i j→Alike (nd l i) (nd k j)
 arg:∀i j,R i j→∀n,n<(nd l i).args.length→R (gt (nd l i).args n) (gt (nd k j).args n)
theorem Min.same {l:List ak}{c:List Int}(M:Min l c){a b:Int}(a0:0≤a)(a1:a<l.length)(b0:0≤b)(b1:b<l.length)(e:gB c a=gB c b) :
  Alike (nd l a) (nd l b)∧∀n,n<(nd l a).args.length→gB c (gt (nd l a).args n)=gB c (gt (nd l b).args n):=by
 have ea:((a.toNat:Nat):Int)=a:=by omega
 have eb:((b.toNat:Nat):Int)=b:=by omega
 have hA:=M.top a.toNat b.toNat (by omega) (by omega) e
 have hg:=M.arg a.toNat b.toNat (by omega) (by omega) e
 rw [ea,eb] at hA hg
 exact⟨hA,hg⟩
theorem xW.swap {l k:List ak}{R:Int→Int→Prop}(S:xW l k R):xW k l fun j i=>R i j:=
 ⟨fun i j h=>⟨(S.lY j i h).2,(S.lY j i h).1⟩,fun i j h=>(S.top j i h).symm,fun i j h n hn=>S.arg j i h n (by have:=(S.top j i h).len; omega)⟩
theorem xW.cls {l k:List ak}{R:Int→Int→Prop}(S:xW l k R){c1 c2:List Int}(M1:Min l c1)(M2:Min k c2){i j i' j':Int}(h:R i j)(h':R i' j')(e:gB c1 i=gB c1 i'):gB c2 j=gB c2 j':=by
 have g:=S.lY _ _ h
 have g':=S.lY _ _ h'
 refine M2.max (fun a b=>∃i i':Int,R i a∧R i' b∧gB c1 i=gB c1 i') ⟨?_,?_,?_⟩ j.toNat j'.toNat ⟨i,i',by rwa [show ((j.toNat:Nat):Int)=j by omega],by rwa [show ((j'.toNat:Nat):Int)=j' by omega],e⟩
 ·rintro a b ⟨i,i',h,h',_⟩
  have:=S.lY _ _ h
  have:=S.lY _ _ h'
  omega
 ·rintro a b ⟨i,i',h,h',e⟩
  have g:=S.lY _ _ h
  have g':=S.lY _ _ h'
  exact ((S.top _ _ h).symm.trans (M1.same g.1.1 g.1.2 g'.1.1 g'.1.2 e).1).trans (S.top _ _ h')
 ·rintro a b ⟨i,i',h,h',e⟩ n hn
  have g:=S.lY _ _ h
  have g':=S.lY _ _ h'
  obtain⟨sA,sg⟩:=M1.same g.1.1 g.1.2 g'.1.1 g'.1.2 e
  have Nh:n<(nd l i).args.length:=by have:=(S.top _ _ h).len; omega
  have k1:=S.arg _ _ h n Nh
  have k2:=S.arg _ _ h' n (by have:=sA.len; omega)
  have r1:=(S.lY _ _ k1).2
  have r2:=(S.lY _ _ k2).2
  exact⟨_,_,by rwa [show (((gt (nd k a).args n).toNat:Nat):Int)=gt (nd k a).args n by omega],by rwa [show (((gt (nd k b).args n).toNat:Nat):Int)=gt (nd k b).args n by omega],sg n Nh⟩
inductive Rl (R:Int→Int→Prop):List Int→List Int→Prop
 | nil:Rl R [] []
 | cons {a b:Int} {xs ys:List Int}:R a b→Rl R xs ys→Rl R (a::xs) (b::ys)
theorem Rl.app {R:Int→Int→Prop}{a b c d:List Int}(h:Rl R a b)(k:Rl R c d):Rl R (a++c) (b++d):=by
 induction h with
 | nil=>exact k
 | cons h _ ih=>exact .cons h ih
theorem Rl.len {R:Int→Int→Prop}{a b:List Int}(h:Rl R a b):a.length=b.length:=by
 induction h with
 | nil=>rfl
 | cons _ _ ih=>simp [ih]
theorem Rl.at {R:Int→Int→Prop}{a b:List Int}(h:Rl R a b):∀n,n<a.length→R (gt a n) (gt b n):=by
 induction h with
 | nil=>intro n hn; exact absurd hn (by simp)
 | cons h _ ih=>
  intro n hn
  cases n with
  | zero=>exact h
  | succ n=>exact ih n (by simpa using hn)
theorem Rl.of {R:Int→Int→Prop}:∀{a b:List Int},a.length=b.length→(∀n,n<a.length→R (gt a n) (gt b n))→Rl R a b
 | [],[],_,_=>.nil
 | [],_::_,h,_=>by simp at h
 | _::_,[],h,_=>by simp at h
 | x::a,y::b,h,k=>.cons (k 0 (by simp)) (Rl.of (by simpa using h) fun n hn=>k (n+1) (by simpa using hn))
section
variable {l k:List ak}{R:Int→Int→Prop}{c1 c2:List Int}
theorem xW.mem (S:xW l k R)(M1:Min l c1)(M2:Min k c2){v w:Int}(h:R v w){o o2:List Int}(ho:Rl R o o2):gB c1 v∈o.map (gB c1)↔gB c2 w∈o2.map (gB c2):=by
 induction ho with
 | nil=>simp
 | cons h' _ ih=>
  rw [Z0,Z0,ZZ,ZZ,ih]
  have z1:=S.cls M1 M2 h h'
  have z2:=S.swap.cls M2 M1 h h'
  constructor
  ·rintro (e | e)
   ·exact .inl (z1 e)
   ·exact .inr e
  ·rintro (e | e)
   ·exact .inl (z2 e)
   ·exact .inr e
theorem xW.idx (S:xW l k R)(M1:Min l c1)(M2:Min k c2){v w:Int}(h:R v w){o o2:List Int}(ho:Rl R o o2):idx c1 o v=idx c2 o2 w:=by
 unfold Go.Proofs.Ytifafejidnjckaa.idx
 congr 1
 induction ho with
 | nil=>rfl
 | @cons a b xs ys h' _ ih=>
  rw [Z0,Z0,List.idxOf_cons,List.idxOf_cons,ih]
  have h1:=S.cls M1 M2 h' h
  have h2:=S.swap.cls M2 M1 h' h
  by_cases e:gB c1 a=gB c1 v
  ·rw [e,h1 e]; simp
  ·have e2:¬gB c2 b=gB c2 w:=fun z=>e (h2 z)
   rw [show (gB c1 a==gB c1 v)=false from by simpa using e,show (gB c2 b==gB c2 w)=false from by simpa using e2]
theorem xW.pre (S:xW l k R)(M1:Min l c1)(M2:Min k c2){st o o':List Int}(h:Am (gB c1) (fun v=>(nd l v).args) st o o'):∀{xF o2:List Int},Rl R st xF→Rl R o o2→∃L7,Am (gB c2) (fun v=>(nd k v).args) xF o2 L7∧Rl R o' L7:=by
 induction h with
 | nil o=>intro xF o2 hs ho; cases hs; exact⟨o2,.nil _,ho⟩
 | skip hm _ ih=>
  intro xF o2 hs ho
  cases hs with
  | cons h hs=>
   obtain⟨L7,k1,k2⟩:=ih hs ho
   exact⟨L7,.skip ((S.mem M1 M2 h ho).1 hm) k1,k2⟩
 | push hn _ ih=>
  intro xF o2 hs ho
  cases hs with
  | cons h hs=>
   obtain⟨L7,k1,k2⟩:=ih ((Rl.of (S.top _ _ h).len (S.arg _ _ h)).app hs) (ho.app (.cons h .nil))
   exact⟨L7,.push (fun z=>hn ((S.mem M1 M2 h ho).2 z)) k1,k2⟩
end
theorem Jp {c O:List Int}{a b:Int}(h:gB c a=gB c b):idx c O a=idx c O b:=by unfold idx; rw [h]
theorem L8 {f:Int→Int}{a b:List Int}{g:Int→Int}(hl:a.length=b.length)(h:∀n,n<a.length→f (gt a n)=g (gt b n)):a.map f=b.map g:=by
 apply aaL fun n=>?_
 simp only [aau]
 by_cases hn:n<a.length
 ·rw [eQ hn,eQ (by omega)]; simp only [ZJ,h n hn]
 ·rw [Z5 (by omega),Z5 (by omega)]; rfl
theorem EV {m:Nat}(hm:2 ^ 41≤m){t u:bg}(ht:gz t=true)(hu:gz u=true){R:Int→Int→Prop}(S:xW t.nodes u.nodes R)(hr:R t.root u.root):∃s,dJ.f m t=some s∧dJ.f m u=some s:=by
 have ve:(2:Nat) ^ 41=2199023255552:=by decide
 obtain⟨Oz,_,r0,r1,_⟩:=jx ht
 obtain⟨SK,_,q0,q1,_⟩:=jx hu
 obtain⟨c1,n1,e1,M1,Q1,_⟩:=kF hm ht
 obtain⟨c2,n2,e2,M2,Q2,_⟩:=kF hm hu
 have l1:=Oz.1
 have l2:=SK.1
 have P1:=sG (cls:=c1) Oz m t.root [] [] _ r0 r1 ⟨by simp,fun x hx=>by cases hx⟩ (by simp; omega) (.nil _)
 have P2:=sG (cls:=c2) SK m u.root [] [] _ q0 q1 ⟨by simp,fun x hx=>by cases hx⟩ (by simp; omega) (.nil _)
 obtain⟨L7,k1,k2⟩:=S.pre M1 M2 P1 (.cons hr .nil) .nil
 have:=k1.W9 P2
 subst this
 generalize Zm:uw c1 t.nodes m t.root []=O1 at *
 generalize Zn:uw c2 u.nodes m u.root []=O2 at *
 have hl:=k2.len
 have w1:=Q1.len
 have w2:=Q2.len
 have hn:n1=n2:=by
  apply aaL fun q=>?_
  by_cases hq:q<O1.length
  ·rw [Q1.new q (by simp) hq,Q2.new q (by simp) (by omega)]
   have h:=k2.at q hq
   have A:=S.top _ _ h
   unfold xR
   rw [A.kind,A.int,A.label,L8 A.len fun n hn=>S.idx M1 M2 (S.arg _ _ h n hn) k2]
  ·rw [Z5 (by omega),Z5 (by omega)]
 subst hn
 exact⟨_,e1,e2⟩
theorem BE {n:ak}{a b:Int}{f:Int→Int}(h:fN n a=true)(hf:∀x∈n.args,0≤f x∧f x<b):fN ⟨n.kind,n.int,n.label,n.args.map f⟩ b=true:=by
 unfold fN at h ⊢
 have he:(n.args.map f).isEmpty=n.args.isEmpty:=by cases n.args<;>rfl
 dsimp only
 rw [he,ZR]
 have ha:((n.args.map f).all fun a=>decide (0≤a)&&decide (a<b))=true:=by
  rw [ZX]
  intro x hx
  obtain⟨y,hy,rfl⟩:=aah.1 hx
  have:=hf y hy
  simp only [ZF,decide_eq_true_eq]; exact this
 rw [ha]
 split<;>rename_i h0
 ·rw [if_pos h0] at h; exact h
 ·rw [if_neg h0] at h
  split<;>rename_i h1
  ·rw [if_pos h1] at h; exact h
  ·rw [if_neg h1] at h
   split<;>rename_i h2
   ·rw [if_pos h2] at h; exact h
   ·rw [if_neg h2] at h
    split<;>rename_i h3
    ·rw [if_pos h3] at h
     simp only [ZF] at h ⊢
     exact⟨h.1,trivial⟩
    ·rw [if_neg h3] at h
     exact h
theorem lT {m:Nat}(hm:2 ^ 41≤m){t:bg}(ht:gz t=true):∃s R,dJ.f m t=some s∧gz s=true∧s.nodes.length≤t.nodes.length∧xW t.nodes s.nodes R∧R t.root s.root:=by
 have ve:(2:Nat) ^ 41=2199023255552:=by decide
 obtain⟨ok,_,r0,r1,_⟩:=jx ht
 obtain⟨c,ns,e,M,Q,hr⟩:=kF hm ht
 have l1:=ok.1
 have fv:=ht
 unfold gz at fv
 simp only [ZF,decide_eq_true_eq] at fv
 generalize hO:uw c t.nodes m t.root []=O at *
 have Fe:=Q.vs.Fe
 have hlen:=Q.len
 have oP:0<O.length:=by cases O with | nil=>simp at hr | cons _ _=>simp
 have Kb:∀q:Nat,q<O.length→nd ns (q:Int)=xR c t.nodes O (gt O q):=fun q hq=>by
  have:=Q.new q (by simp) hq
  unfold nd
  rw [ZQ,ZW,this]; rfl
 have Pn:∀{v:Int},gB c v∈O.map (gB c)→0≤idx c O v∧idx c O v<O.length∧gB c (gt O (idx c O v).toNat)=gB c v:=fun {v} hv=>by
  have h1:=aax hv
  have h2:=List.getElem_idxOf h1
  rw [ZR] at h1
  unfold idx
  refine⟨by omega,by omega,?_⟩
  rw [ZQ]
  have h3:=ZG (l:=O.map (gB c)) (i:=(O.map (gB c)).idxOf (gB c v)) (by rw [ZR]; exact h1)
  rw [h2,aau,eQ h1] at h3
  exact aaf h3
 refine⟨⟨ns,0⟩,fun i j=>(0≤i∧i<t.nodes.length)∧gB c i∈O.map (gB c)∧j=idx c O i,e,?_,by show ns.length≤_; omega,⟨?_,?_,?_⟩,⟨r0,r1⟩,hr,?_⟩
 ·unfold gz
  simp only [ZF,decide_eq_true_eq]
  refine⟨⟨⟨⟨by omega,by omega⟩,by omega⟩,by omega⟩,?_⟩
  rw [ZX]
  intro x hx
  obtain⟨q,hq,e2⟩:=List.getElem_of_mem hx
  have h1:=Q.new q (by simp) (by omega)
  rw [ZG hq,e2] at h1
  have h1:=aaf h1
  subst h1
  have H0:=Q.vs.lY _ (b8 (l:=O) (k:=q) (by omega))
  refine BE (ZX.1 fv.2 _ (ls H0.1 H0.2)) fun a ha=>?_
  have:=Pn (Q.arg q (by simp) (by omega) a ha)
  omega
 ·rintro i j ⟨h1,h2,rfl⟩
  have:=Pn h2
  exact⟨h1,by show 0≤_∧_<(ns.length:Int); omega⟩
 ·rintro i j ⟨h1,h2,rfl⟩
  obtain⟨a,b,d⟩:=Pn h2
  have H0:=Q.vs.lY _ (b8 (l:=O) (k:=(idx c O i).toNat) (by omega))
  have hx:=Kb (idx c O i).toNat (by omega)
  rw [show (((idx c O i).toNat:Nat):Int)=idx c O i by omega] at hx
  rw [hx]
  have A:=(M.same h1.1 h1.2 H0.1 H0.2 d.symm).1
  exact⟨A.kind,A.int,A.label,by show _=(List.map _ _).length; rw [ZR]; exact A.len⟩
 ·rintro i j ⟨h1,h2,rfl⟩ n hn
  obtain⟨a,b,d⟩:=Pn h2
  have H0:=Q.vs.lY _ (b8 (l:=O) (k:=(idx c O i).toNat) (by omega))
  have hx:=Kb (idx c O i).toNat (by omega)
  rw [show (((idx c O i).toNat:Nat):Int)=idx c O i by omega] at hx
  rw [hx]
  obtain⟨A,hg⟩:=M.same h1.1 h1.2 H0.1 H0.2 d.symm
  have Kx:n<(nd t.nodes (gt O (idx c O i).toNat)).args.length:=by have:=A.len; omega
  have hg:=hg n hn
  have hin:=Q.arg (idx c O i).toNat (by simp) (by omega) _ (b8 Kx)
  refine⟨(ok.2 _ (ls h1.1 h1.2)).2 _ (b8 hn),by rw [hg]; exact hin,?_⟩
  have e1:gt (xR c t.nodes O (gt O (idx c O i).toNat)).args n=idx c O (gt (nd t.nodes (gt O (idx c O i).toNat)).args n):=by
   have h3:=eQ (l:=(xR c t.nodes O (gt O (idx c O i).toNat)).args) (k:=n) (by show n<(List.map _ _).length; rw [ZR]; exact Kx)
   have h4:(xR c t.nodes O (gt O (idx c O i).toNat)).args[n]? = some (idx c O (gt (nd t.nodes (gt O (idx c O i).toNat)).args n)):=by
    show (List.map _ _)[n]? = _
    rw [aau,eQ Kx]; rfl
   rw [h4] at h3; exact (aaf h3).symm
  rw [e1]
  exact Jp hg.symm
 ·show (0:Int)=idx c O t.root
  have P1:=sG (cls:=c) ok m t.root [] [] _ r0 r1 ⟨by simp,fun x hx=>by cases hx⟩ (by simp; omega) (.nil _)
  rw [hO] at P1
  cases P1 with
  | skip h _=>simp at h
  | push _ k=>
   obtain⟨⟨T,e⟩,_⟩:=k.facts (n:=t.nodes.length) (fun v a b=>(ok.2 _ (ls a b)).2) (fun v hv=>by
    rcases aaa.1 hv with hv | hv
    ·exact (ok.2 _ (ls r0 r1)).2 v hv
    ·cases hv) (fun v hv=>by simp at hv; subst hv; exact⟨r0,r1⟩) (by simp)
   rw [e]
   unfold idx
   simp
end Go.Proofs.Ytifafejidnjckaa
namespace Go.Uf
open Go Go.R
open Go.IntKind (i64 u64 u8 u32)
def gi (a L:Nat):List Int:=(aa6 L).map fun i=>((a+i:Nat):Int)
theorem nU (a L:Nat):(gi a L).length=L:=by simp [gi]
theorem vZ (a L:Nat):gi a (L+1)=gi a L++[((a+L:Nat):Int)]:=by
 unfold gi; rw [List.range_succ,Z7]; rfl
theorem Hz {to:List Int}(o:Ib to):∀L,Ib (to++gi to.length L)∧(∀n,Rg to.length n→rp (to++gi to.length L) n=rp to n)∧∀n:Int,(to.length:Int)≤n→n<to.length+L→rp (to++gi to.length L) n=n
 | 0=>⟨by simpa [gi] using o,fun n _=>by simp [gi],fun n h1 h2=>by omega⟩
 | L+1=>by
  obtain⟨a,b,c⟩:=Hz o L
  have hl:(to++gi to.length L).length=to.length+L:=by rw [ZM,nU]
  have e:to++gi to.length (L+1)=(to++gi to.length L)++[(((to++gi to.length L).length:Nat):Int)]:=by
   rw [vZ,←ZV,hl]
  obtain⟨g1,g2,g3⟩:=Oh a
  rw [←e] at g1 g2 g3
  refine⟨g1,fun n h=>?_,fun n h1 h2=>?_⟩
  ·rw [g2 n (by unfold Rg at h ⊢; rw [hl]; omega),b n h]
  ·by_cases h:n=to.length+L
   ·have:n=(((to++gi to.length L).length:Nat):Int):=by rw [hl]; omega
    rw [this]; exact g3
   ·rw [g2 n (by unfold Rg; rw [hl]; omega)]
    exact c n h1 (by omega)
theorem mI {N V:List ak}{n:Int}(h:Rg N.length n):de (N++V) n=de N n:=by
 have hl:n.toNat<N.length:=by have:=h.1; have:=h.2; omega
 unfold de
 rw [ZW,ZW,ZS hl]
end Go.Uf
namespace Go.Proofs.Ytifafejidnjckaa
open Go Go.R Go.Uf
open Go.IntKind (i64 u64 u8 u32)
def jK (s s':ab):Prop:=s.aa.length≤s'.aa.length∧(∀n,Rg s.aa.length n→gA s.aa (rp s.ae n)→iv (de s.aa (rp s.ae n)) (de s'.aa (rp s'.ae n)))∧(∀n,Rg s.aa.length n→de s'.aa n=de s.aa n)∧gN s.aa (rp s.ae) (rp s'.ae)
theorem iv.refl (a:ak):iv a a:=⟨rfl,rfl,rfl,rfl⟩
theorem jK.refl (s:ab):jK s s:=⟨ZI _,fun _ _ _=>iv.refl _,fun _ _=>rfl,fun _ _ _ _ h=>h⟩
theorem jK.up {s s':ab}(h:jK s s'){n:Int}(hn:Rg s.aa.length n):Rg s'.aa.length n:=⟨hn.1,by have:=hn.2; have:=h.1; omega⟩
theorem jK.trans {a b c:ab}(h:jK a b)(k:jK b c):jK a c:=by
 refine⟨aap h.1 k.1,fun n hn hv=>?_,fun n hn=>(k.2.2.1 n (h.up hn)).trans (h.2.2.1 n hn),fun x y hx hy e=>k.2.2.2 x y (h.up hx) (h.up hy) (h.2.2.2 x y hx hy e)⟩
 obtain⟨h1,h2,h3,h4⟩:=h.2.1 n hn hv
 have v2:gA b.aa (rp b.ae n):=by unfold gA at hv ⊢; rw [←h1]; exact hv
 obtain⟨k1,k2,k3,k4⟩:=k.2.1 n (h.up hn) v2
 exact⟨h1.trans k1,h2.trans k2,h3.trans k3,h4.trans k4⟩
theorem qZ {n:ak}{size uA z:Int}(h:fN n size=true)(f:Int→Int)(hf:∀a∈n.args,0≤f a∧f a<uA)(h0:n.kind=0→0≤z)(h1:n.kind≠0→z=n.int):fN ⟨n.kind,z,n.label,n.args.map f⟩ uA=true:=by
 unfold fN at h ⊢
 simp only at h ⊢
 by_cases k0:n.kind=0
 ·rw [if_pos k0] at h ⊢
  simp only [ZF,decide_eq_true_eq,List.isEmpty_map] at h ⊢
  exact⟨⟨h0 k0,h.1.2⟩,h.2⟩
 ·have hz:=h1 k0
  subst hz
  rw [if_neg k0] at h ⊢
  split at h
  ·rename_i k1; rw [if_pos k1]; simpa using h
  ·rename_i k1; rw [if_neg k1]
   split at h
   ·rename_i k2; rw [if_pos k2]; simpa using h
   ·rename_i k2; rw [if_neg k2]
    split at h
    ·rename_i k3; rw [if_pos k3]
     simp only [ZF,decide_eq_true_eq,ZX,ZR,aah] at h ⊢
     refine⟨h.1,?_⟩
     rintro x ⟨a,ha,rfl⟩
     exact hf a ha
    ·rename_i k3; rw [if_neg k3]
     split at h
     ·rename_i k4; rw [if_pos k4]; simpa using h
     ·cases h
theorem HA {n:ak}{size uA:Int}(h:fN n size=true)(hs:size≤uA):fN n uA=true:=by
 have:=qZ (uA:=uA) (z:=n.int) h id (fun a ha=>by have:=(lS h).2 a ha; simp only [id]; omega) (fun k=>by
  unfold fN at h; rw [if_pos k] at h; simp only [ZF,decide_eq_true_eq] at h; exact h.1.1) (fun _=>rfl)
 rwa [List.map_id] at this
section
variable {m:Nat}{s:ab}
theorem Inv2.more (v:Inv2 s)(V:List ak)(hW:∀(i:Nat) x,V[i]? = some x→fN x ((s.aa.length+V.length:Nat):Int)=true∧(x.kind=0→x.int=((s.aa.length+i:Nat):Int)))(hl:s.aa.length+V.length≤8000) :
  Inv2 ⟨s.aj,s.aa++V,s.ae++gi s.aa.length V.length⟩∧jK s ⟨s.aj,s.aa++V,s.ae++gi s.aa.length V.length⟩:=by
 have hlen:=v.inv.len
 have hV:∀x∈V,x.args.length≤8∧∀a∈x.args,Rg (s.aa.length+V.length) a:=fun x hx=>by
  obtain⟨i,hi⟩:=aav hx
  obtain⟨T,ha⟩:=lS (hW i x hi).1
  exact⟨T.args,fun a h=>by have:=ha a h; unfold Rg; omega⟩
 obtain⟨g1,g2,g3⟩:=Hz v.inv.ok V.length
 rw [hlen] at g1 g2 g3
 have hN:(s.aa++V).length=s.aa.length+V.length:=ZM
 have hc:∀n,Rg (s.aa++V).length n→Rg s.aa.length n∨((s.aa.length:Int)≤n∧n<s.aa.length+V.length):=fun n h=>by
  rw [hN] at h; unfold Rg at h ⊢; omega
 have up:∀n,Rg s.aa.length n→Rg (s.aa++V).length n:=fun n h=>by rw [hN]; unfold Rg at h ⊢; omega
 have old:∀n,Rg s.aa.length n→rp (s.ae++gi s.aa.length V.length) n=rp s.ae n:=g2
 have new:∀n:Int,(s.aa.length:Int)≤n→n<s.aa.length+V.length→rp (s.ae++gi s.aa.length V.length) n=n:=g3
 refine⟨⟨⟨v.inv.made,?_,by show (s.aa++V).length≤8000; omega,g1,⟨fun n h=>?_,fun n h=>?_,fun n h=>?_⟩,?_⟩,?_,?_⟩,?_,fun n h hv=>?_,fun n h=>mI h,fun x y hx hy h=>?_⟩
 ·show (_++_:List Int).length=_
  rw [ZM,nU,hN,hlen]
 ·show Rg _ (rp (s.ae++gi s.aa.length V.length) n)
  rcases hc n h with h | ⟨h1,h2⟩
  ·rw [old n h]; exact up _ (v.inv.cn.rg n h)
  ·rw [new n h1 h2]; exact h
 ·show rp (s.ae++_) (rp (s.ae++gi s.aa.length V.length) n)=rp (s.ae++_) n
  rcases hc n h with h | ⟨h1,h2⟩
  ·rw [old n h,old _ (v.inv.cn.rg n h),v.inv.cn.id n h]
  ·rw [new n h1 h2,new n h1 h2]
 ·show Bt (s.aa++V) (rp (s.ae++gi s.aa.length V.length) n) n
  rcases hc n h with h | ⟨h1,h2⟩
  ·rw [old n h]
   have:=v.inv.cn.bt n h
   unfold Bt gA at this ⊢
   rw [mI h,mI (v.inv.cn.rg n h)]; exact this
  ·rw [new n h1 h2]; exact Bt.refl
 ·intro x hx
  rcases aaa.1 hx with hx | hx
  ·obtain⟨a1,a2⟩:=v.inv.args x hx
   exact⟨a1,fun a ha=>up a (a2 a ha)⟩
  ·obtain⟨a1,a2⟩:=hV x hx
   exact⟨a1,fun a ha=>by show Rg (s.aa++V).length a; rw [hN]; exact a2 a ha⟩
 ·intro x y hx hy he vx vy
  have he:rp (s.ae++gi s.aa.length V.length) x=rp (s.ae++gi s.aa.length V.length) y:=he
  rcases hc x hx with hx1 | ⟨x1,x2⟩<;>rcases hc y hy with MH | ⟨y1,y2⟩
  ·rw [old x hx1,old y MH] at he
   have wx:de (s.aa++V) x=de s.aa x:=mI hx1
   have wy:de (s.aa++V) y=de s.aa y:=mI MH
   have Xa:gA s.aa x:=by unfold gA at vx ⊢; rw [←wx]; exact vx
   have Xb:gA s.aa y:=by unfold gA at vy ⊢; rw [←wy]; exact vy
   obtain⟨t,q⟩:=v.cl x y hx1 MH he Xa Xb
   show iv (de (s.aa++V) x) (de (s.aa++V) y)∧∀(i:Nat) (a b:Int),(de (s.aa++V) x).args[i]? = some a→(de (s.aa++V) y).args[i]? = some b→rp (s.ae++gi s.aa.length V.length) a=rp (s.ae++gi s.aa.length V.length) b
   rw [wx,wy]
   refine⟨t,fun i a b ha hb=>?_⟩
   rw [old a ((v.inv.args _ (fm hx1)).2 a (ZK ha)),old b ((v.inv.args _ (fm MH)).2 b (ZK hb))]
   exact q i a b ha hb
  ·rw [old x hx1,new y y1 y2] at he
   have:=(v.inv.cn.rg x hx1).2
   omega
  ·rw [old y MH,new x x1 x2] at he
   have:=(v.inv.cn.rg y MH).2
   omega
  ·rw [new x x1 x2,new y y1 y2] at he
   subst he
   refine⟨iv.refl _,fun i a b ha hb=>?_⟩
   rw [ha] at hb; cases hb; rfl
 ·intro n h
  show fN (de (s.aa++V) n) ((s.aa++V).length:Int)=true∧((de (s.aa++V) n).kind=0→(de (s.aa++V) n).int=n)
  rcases hc n h with h3 | ⟨h1,h2⟩
  ·rw [mI h3,hN]
   exact⟨HA (v.vn n h3).1 (by omega),(v.vn n h3).2⟩
  ·have hg:=xJ h
   obtain⟨i,rfl⟩:∃i:Nat,n=((s.aa.length+i:Nat):Int):=⟨(n - s.aa.length).toNat,by omega⟩
   have hg:(s.aa++V)[s.aa.length+i]? = some (de (s.aa++V) ((s.aa.length+i:Nat):Int)):=hg
   rw [ZT (by omega),aaE] at hg
   rw [hN]
   exact hW i _ hg
 ·show s.aa.length≤(s.aa++V).length
  omega
 ·show iv _ (de (s.aa++V) (rp (s.ae++gi s.aa.length V.length) n))
  rw [old n h,mI (v.inv.cn.rg n h)]
  exact iv.refl _
 ·show rp (s.ae++gi s.aa.length V.length) x=rp (s.ae++gi s.aa.length V.length) y
  rw [old x hx,old y hy]; exact h
def HB (s s':ab)(e:Int):Prop:=Inv2 s'∧jK s s'∧(e≠0→s'=s)
theorem HB.none (v:Inv2 s)(e:Int):HB s s e:=⟨v,jK.refl s,fun _=>rfl⟩
theorem zV (hm:2000000≤m)(v:Inv2 s)(r:Bool)(n:ak)(h:r=true→fN ⟨n.kind,if n.kind=0 then (s.aa.length:Int) else n.int,n.label,n.args⟩ ((s.aa.length+1:Nat):Int)=true):∃k e s',cC.f m s (some r) n=some (k,e,s')∧HB s s' e:=by
 have n3:=v.inv.max
 unfold cC.f bO.f
 rw [v.inv.made]
 simp only [ZB,aaC,ZN,if_false]
 cases r with
 | false=>exact⟨_,_,_,rfl,HB.none v _⟩
 | true=>
  have h1:=h rfl
  rw [if_neg (by decide)]
  by_cases hl:s.aa.length≥8000
  ·rw [if_pos (by rw [decide_eq_true_eq]; omega)]
   exact⟨_,_,_,rfl,HB.none v _⟩
  rw [if_neg (by rw [decide_eq_true_eq]; omega)]
  have key:∀i:Int,i=(if n.kind=0 then (s.aa.length:Int) else n.int)→∃k e s',(((app 56 s.aa [(⟨n.kind,i,n.label,n.args⟩:ak)]).bind fun x1=>(app 8 s.ae [(s.aa.length:Int)]).bind fun x2=>some ((s.aa.length:Int),(0:Int),(ab.mk true x1 x2)))=some (k,e,s'))∧HB s s' e:=by
   intro i hi
   rw [xL (by simp only [ZU,Z8]; omega),ZB,xL (by have:=v.inv.len; simp only [ZU,Z8]; omega),ZB]
   obtain⟨w1,w2⟩:=v.more [⟨n.kind,i,n.label,n.args⟩] (fun j x hx=>by
    cases j with
    | succ j=>simp at hx
    | zero=>
     simp only [aag,ZE] at hx
     subst hx
     refine⟨by rw [hi]; exact h1,fun hk=>?_⟩
     have hk:n.kind=0:=hk
     show i=_
     rw [hi,if_pos hk,aaW]) (by simp only [ZU,Z8]; omega)
   have es:gi s.aa.length 1=[(s.aa.length:Int)]:=by simp [gi]
   have w1:Inv2 ⟨s.aj,s.aa++[⟨n.kind,i,n.label,n.args⟩],s.ae++gi s.aa.length 1⟩:=w1
   have w2:jK s ⟨s.aj,s.aa++[⟨n.kind,i,n.label,n.args⟩],s.ae++gi s.aa.length 1⟩:=w2
   rw [es,v.inv.made] at w1 w2
   exact⟨_,_,_,rfl,w1,w2,fun h=>absurd rfl h⟩
  simp only [jn]
  by_cases hk:n.kind=0
  ·rw [if_pos (by rw [hk]; rfl)]; exact key _ (by rw [if_pos hk])
  ·rw [if_neg (by simpa using hk)]; exact key _ (by rw [if_neg hk])
end
end Go.Proofs.Ytifafejidnjckaa
namespace Go.Proofs.Ytifafejidnjckaa
open Go Go.R Go.Uf
open Go.IntKind (i64 u64 u8 u32)
section
variable {m:Nat}{s:ab}
theorem Jq (hm:2 ^ 41≤m)(t:bg):(∃r,fM.f m t=some (r,0)∧DB r.nodes∧∀n∈r.nodes,fN n r.nodes.length=true)∨∃r,fM.f m t=some (r,2):=by
 have J7:(2:Nat) ^ 30=1073741824:=by decide
 have ve:(2:Nat) ^ 41=2199023255552:=by decide
 unfold fM.f
 rw [mG (by omega),ZB]
 cases h:gz t with
 | false=>exact .inr ⟨_,rfl⟩
 | true=>
  obtain⟨r,R,e,hv,_⟩:=lT hm h
  rw [if_neg (by simp),e]
  exact .inl ⟨_,rfl,(jx hv).1,fun n hn=>by
   unfold gz at hv
   simp only [ZF,ZX] at hv
   exact hv.2 n hn⟩
theorem HC {v:ak}(a8:v.args.length≤8)(aR:∀a∈v.args,0≤a∧a<8000)(hN:s.aa.length≤8000)(s2:ab):∀(k i:Nat),i≤v.args.length→v.args.length - i<k→
  aF.l1 m s v k (i:Int) ((v.args.take i).map (· + (s.aa.length:Int))++v.args.drop i) s2=some ((v.args.length:Int),v.args.map (· + (s.aa.length:Int)),s2)∧
  aF.l2 m s v k (i:Int) ((v.args.take i).map (· + (s.aa.length:Int))++v.args.drop i) s2=some ((v.args.length:Int),v.args.map (· + (s.aa.length:Int)),s2)
 | 0,i,h1,h2=>by omega
 | k+1,i,h1,h2=>by
  simp only [aF.l1,aF.l2]
  by_cases hi:i<v.args.length
  ·have d:decide ((i:Int)<(v.args.length:Int))=true:=by rw [decide_eq_true_eq]; omega
   have hl:((v.args.take i).map (· + (s.aa.length:Int))).length=i:=by rw [ZR,aaw]; omega
   have ed:v.args.drop i=v.args[i]::v.args.drop (i+1):=ZP hi
   have et:v.args.take (i+1)=v.args.take i++[v.args[i]]:=aan hi
   have eg:((v.args.take i).map (· + (s.aa.length:Int))++v.args.drop i)[i]? = some v.args[i]:=by
    rw [ZT (by omega),hl,aaJ,ed]; rfl
   have es:((v.args.take i).map (· + (s.aa.length:Int))++v.args.drop i).set i (v.args[i]+(s.aa.length:Int))=(v.args.take (i+1)).map (· + (s.aa.length:Int))++v.args.drop (i+1):=by
    rw [aaO _ _ (by omega),hl,aaJ,ed,et,Z7,ZV]; rfl
   obtain⟨b1,b2⟩:=aR v.args[i] (List.getElem_mem hi)
   have ew:i64.wrap ((i:Int)+1)=((i+1:Nat):Int):=by rw [jT (by omega) (by omega)]; omega
   have ev:i64.wrap (v.args[i]+(s.aa.length:Int))=v.args[i]+(s.aa.length:Int):=jT (by omega) (by omega)
   rw [if_pos d,if_pos d,uj eg]
   simp only [ZB,ew,ev,ZQ,es]
   exact HC a8 aR hN s2 k (i+1) (by omega) (by omega)
  ·have d:decide ((i:Int)<(v.args.length:Int))=false:=by rw [decide_eq_false_iff_not]; omega
   have e:i=v.args.length:=by omega
   rw [if_neg (by rw [d]; decide),if_neg (by rw [d]; decide),e]
   simp
theorem HD (hm:2000000≤m)(v:Inv2 s){x:bg × Int}(ok:DB x.1.nodes)(okB:∀n∈x.1.nodes,fN n x.1.nodes.length=true)(hl:s.aa.length+x.1.nodes.length≤8000):∀(k i:Nat) (V:List ak),i≤x.1.nodes.length→x.1.nodes.length - i<k→V.length=i→(∀(j:Nat) y,V[j]? = some y→fN y ((s.aa.length+x.1.nodes.length:Nat):Int)=true∧(y.kind=0→y.int=((s.aa.length+j:Nat):Int)))→
  ∃V2:List ak,aF.l0 m s x k (i:Int) ⟨s.aj,s.aa++V,s.ae++gi s.aa.length i⟩=some ((x.1.nodes.length:Int),⟨s.aj,s.aa++V2,s.ae++gi s.aa.length x.1.nodes.length⟩)∧V2.length=x.1.nodes.length∧∀(j:Nat) y,V2[j]? = some y→fN y ((s.aa.length+x.1.nodes.length:Nat):Int)=true∧(y.kind=0→y.int=((s.aa.length+j:Nat):Int))
 | 0,i,V,h1,h2,_,_=>by omega
 | k+1,i,V,h1,h2,hV,hP=>by
  have hlen:=v.inv.len
  simp only [aF.l0]
  by_cases hi:i<x.1.nodes.length
  ·have d:decide ((i:Int)<(x.1.nodes.length:Int))=true:=by rw [decide_eq_true_eq]; omega
   have eg:=ZG hi
   generalize x.1.nodes[i]=n at eg
   obtain⟨n8,nR⟩:=ok.2 n (ZK eg)
   have nB:=okB n (ZK eg)
   have Xc:∀a∈n.args,0≤a∧a<8000:=fun a ha=>by have:=nR a ha; have:=ok.1; omega
   obtain⟨q1,q2⟩:=HC (m:=m) (s:=s) n8 Xc (by omega) ⟨s.aj,s.aa++V,s.ae++gi s.aa.length i⟩ m 0 (aai _) (by omega)
   have q1:aF.l1 m s n m 0 n.args ⟨s.aj,s.aa++V,s.ae++gi s.aa.length i⟩=_:=q1
   have q2:aF.l2 m s n m 0 n.args ⟨s.aj,s.aa++V,s.ae++gi s.aa.length i⟩=_:=q2
   have ew:i64.wrap ((i:Int)+1)=((i+1:Nat):Int):=by rw [jT (by omega) (by omega)]; omega
   have ef:i64.wrap ((s.aa.length:Int)+(i:Int))=((s.aa.length+i:Nat):Int):=by rw [jT (by omega) (by omega)]; omega
   rw [if_pos d,uj eg]
   simp only [ZB,q1,q2,ew,ef]
   have go:∀z:Int,(n.kind=0→z=((s.aa.length+i:Nat):Int))→(n.kind≠0→z=n.int)→∃V2:List ak,((app 56 (s.aa++V) [(⟨n.kind,z,n.label,n.args.map (· + (s.aa.length:Int))⟩:ak)]).bind fun x5=>(app 8 (s.ae++gi s.aa.length i) [((s.aa.length+i:Nat):Int)]).bind fun x6=>aF.l0 m s x k ((i+1:Nat):Int) (ab.mk s.aj x5 x6))=some ((x.1.nodes.length:Int),⟨s.aj,s.aa++V2,s.ae++gi s.aa.length x.1.nodes.length⟩)∧V2.length=x.1.nodes.length∧∀(j:Nat) y,V2[j]? = some y→fN y ((s.aa.length+x.1.nodes.length:Nat):Int)=true∧(y.kind=0→y.int=((s.aa.length+j:Nat):Int)):=by
    intro z z0 z1
    rw [xL (by simp only [ZM,ZU,Z8]; omega),ZB,xL (by simp only [ZM,nU,ZU,Z8]; omega),ZB]
    have:=HD hm v ok okB hl k (i+1) (V++[⟨n.kind,z,n.label,n.args.map (· + (s.aa.length:Int))⟩]) (by omega) (by omega) (by simp [hV]) (fun j y hy=>by
     by_cases hj:j<V.length
     ·rw [ZS hj] at hy
      exact hP j y hy
     ·rw [ZT (by omega)] at hy
      obtain⟨q,hq⟩:∃q,j - V.length=q:=⟨_,rfl⟩
      rw [hq] at hy
      cases q with
      | succ q=>simp at hy
      | zero=>
       simp only [aag,ZE] at hy
       subst hy
       have ej:j=i:=by omega
       subst ej
       refine⟨qZ nB _ (fun a ha=>?_) (fun h=>by have:=z0 h; omega) z1,fun h=>z0 h⟩
       have:=nR a ha
       omega)
    rw [vZ,←ZV,←ZV] at this
    exact this
   by_cases hk:n.kind=0
   ·rw [if_pos (by rw [hk]; rfl)]; exact go _ (fun _=>rfl) (fun h=>absurd hk h)
   ·rw [if_neg (by simpa using hk)]; exact go _ (fun h=>absurd h hk) (fun _=>rfl)
  ·have d:decide ((i:Int)<(x.1.nodes.length:Int))=false:=by rw [decide_eq_false_iff_not]; omega
   have e:i=x.1.nodes.length:=by omega
   rw [if_neg (by rw [d]; decide),e]
   exact⟨V,rfl,by omega,hP⟩
theorem OA (hm:2 ^ 41≤m)(v:Inv2 s)(t:bg):∃k e s',aF.f m s t=some (k,e,s')∧HB s s' e:=by
 have ve:(2:Nat) ^ 41=2199023255552:=by decide
 have n3:=v.inv.max
 unfold aF.f bO.f
 rw [v.inv.made]
 simp only [ZB,aaC,ZN,if_false]
 rcases Jq hm t with⟨r,e,ok,okB⟩| ⟨r,e⟩
 ·rw [e,ZB,if_neg (show ¬(!(((r,0):bg × Int).2==(0:Int)))=true by simp)]
  have hr:=ok.1
  have ew:i64.wrap ((s.aa.length:Int)+(r.nodes.length:Int))=((s.aa.length+r.nodes.length:Nat):Int):=by rw [jT (by omega) (by omega)]; omega
  rw [ew]
  by_cases hl:s.aa.length+r.nodes.length > 8000
  ·rw [if_pos (by rw [decide_eq_true_eq]; omega)]
   exact⟨_,_,_,rfl,HB.none v _⟩
  ·rw [if_neg (by rw [decide_eq_true_eq]; omega)]
   obtain⟨V,e1,e2,e3⟩:=HD (m:=m) (by omega) v (x:=(r,0)) ok okB (by show _+r.nodes.length≤8000; omega) m 0 [] (aai _) (by show r.nodes.length - 0<m; omega) rfl (fun j y hy=>by simp at hy)
   have es:s.ae++gi s.aa.length 0=s.ae:=by simp [gi]
   rw [aa2,es] at e1
   have e1:aF.l0 m s (r,0) m 0 s=some ((r.nodes.length:Int),⟨s.aj,s.aa++V,s.ae++gi s.aa.length r.nodes.length⟩):=e1
   have e2:V.length=r.nodes.length:=e2
   have e3:∀(j:Nat) y,V[j]? = some y→fN y ((s.aa.length+r.nodes.length:Nat):Int)=true∧(y.kind=0→y.int=((s.aa.length+j:Nat):Int)):=e3
   rw [e1,ZB]
   obtain⟨w1,w2⟩:=v.more V (by rw [e2]; exact e3) (by omega)
   rw [e2] at w1 w2
   exact⟨_,_,_,rfl,w1,w2,fun h=>absurd rfl h⟩
 ·rw [e,ZB,if_pos (show (!(((r,2):bg × Int).2==(0:Int)))=true from rfl)]
  exact⟨_,_,_,rfl,HB.none v _⟩
end
end Go.Proofs.Ytifafejidnjckaa
namespace Go.Proofs.Ytifafejidnjckaa
open Go Go.R Go.Uf
open Go.IntKind (i64 u64 u8 u32)
section
variable {m:Nat}{s:ab}
theorem jK.OB (v:Inv2 s){s':ab}(v':Inv2 s')(eN:s'.aa=s.aa)(h:gN s.aa (rp s.ae) (rp s'.ae)):jK s s':=by
 refine⟨by rw [eN]; exact ZI _,fun n hn hv=>?_,fun n hn=>by rw [eN],h⟩
 have g1:=v.inv.cn.rg n hn
 have Po:=v'.inv.cn
 have U7:=v'.cl
 rw [eN] at Po U7 ⊢
 have e1:rp s'.ae (rp s.ae n)=rp s'.ae n:=h _ _ g1 hn (v.inv.cn.id n hn)
 have e2:rp s'.ae (rp s'.ae n)=rp s'.ae n:=Po.id n hn
 have v2:gA s.aa (rp s'.ae n):=e1 ▸ Po.val g1 hv
 exact (U7 _ _ g1 (Po.rg n hn) (e1.trans e2.symm) hv v2).1
def OC (s s':ab)(e k:Int):Prop:=Inv2 s'∧jK s s'∧(e≠0∨k=7→s'=s)
theorem HB.a {s':ab}{e k:Int}(d:HB s s' e)(hk:k≠7):OC s s' e k:=⟨d.1,d.2.1,fun h=>h.elim d.2.2 fun h=>absurd h hk⟩
theorem OD (hm:2 ^ 41≤m)(v:Inv2 s)(x:aN)(hx:x.gf.length≤40):∃e s',gd.f m s x=some (e,s')∧OC s s' e x.fC:=by
 have ve:(2:Nat) ^ 41=2199023255552:=by decide
 have oR:2000000≤m:=by omega
 have z0:∀a∈([]:List Int),Rg s.aa.length a:=fun a h=>by simp at h
 unfold gd.f
 by_cases k0:x.fC=0
 ·rw [if_pos (by rw [k0]; rfl)]
  obtain⟨k,e,s',e1,d⟩:=zV oR v true ⟨0,0,⟨#[]⟩,[]⟩ (fun _=>by simp [fN]; try omega)
  refine⟨e,s',?_,d.a (by omega)⟩
  simp only [fo.f,eD.f,e1,ZB]
 rw [if_neg (by simpa using k0)]
 by_cases k1:x.fC=1
 ·rw [if_pos (by rw [k1]; rfl)]
  have h1:∃r,dM.f m x.sB=some r∧(r=true→-1099511627776≤x.sB∧x.sB≤1099511627776):=by
   unfold dM.f
   split
   ·rename_i h
    exact⟨_,rfl,fun k=>by simp only [decide_eq_true_eq] at h k; omega⟩
   ·exact⟨_,rfl,fun k=>by cases k⟩
  obtain⟨r,h1,hr⟩:=h1
  obtain⟨k,e,s',e1,d⟩:=zV oR v r ⟨1,x.sB,⟨#[]⟩,[]⟩ (fun h=>by have:=hr h; simp [fN]; omega)
  refine⟨e,s',?_,d.a (by omega)⟩
  simp only [fq.f,h1,e1,ZB]
 rw [if_neg (by simpa using k1)]
 by_cases k2:x.fC=2
 ·rw [if_pos (by rw [k2]; rfl)]
  obtain⟨k,e,s',e1,d⟩:=zV oR v (oK x.eY) ⟨2,0,x.eY,[]⟩ (fun h=>by simp [fN,h])
  refine⟨e,s',?_,d.a (by omega)⟩
  simp only [eX.f,dV.f,oo (show 20≤m by omega),ZB,e1]
 rw [if_neg (by simpa using k2)]
 by_cases k3:x.fC=3
 ·rw [if_pos (by rw [k3]; rfl)]
  have h1:∃r,dc.f m x.eY x.gf s=some r∧(r=true→oK x.eY=true∧1≤x.gf.length∧x.gf.length≤8∧∀a∈x.gf,Rg s.aa.length a):=by
   unfold dc.f
   rw [oo (show 20≤m by omega),ZB]
   split
   ·rename_i AF
    split
    ·rename_i h81
     split
     ·rename_i h8
      rw [uk oR x.gf (by omega) (g:=fun n=>!decide (Rg s.aa.length n)) (fun a _=>by simp only [dd.f,Dr,ZB])]
      refine⟨_,rfl,fun h=>⟨AF,by simp only [decide_eq_true_eq] at h81; omega,by simp only [decide_eq_true_eq] at h8; omega,fun a ha=>?_⟩⟩
      simp only [aaF,List.any_eq_false] at h
      have:=h a ha
      simpa using this
     ·exact⟨_,rfl,fun h=>by cases h⟩
    ·exact⟨_,rfl,fun h=>by cases h⟩
   ·exact⟨_,rfl,fun h=>by cases h⟩
  obtain⟨r,h1,h2⟩:=h1
  obtain⟨k,e,s',e1,d⟩:=zV oR v r ⟨3,0,x.eY,x.gf⟩ (fun h=>by
   obtain⟨q1,q2,q3,q4⟩:=h2 h
   simp only [fN]
   simp [q1,q2,q3]
   intro a ha
   have:=q4 a ha
   unfold Rg at this
   omega)
  have hc:Aj 1 x.gf=some x.gf:=by unfold Aj; rw [if_pos (by omega)]
  refine⟨e,s',?_,d.a (by omega)⟩
  simp only [eJ.f,hc,h1,e1,ZB]
 rw [if_neg (by simpa using k3)]
 by_cases k4:x.fC=4
 ·rw [if_pos (by rw [k4]; rfl)]
  have h1:∃r,dv.f m x.eY x.sB=some r∧(r=true→zL x.eY=true∧0≤x.sB):=by
   unfold dv.f
   rw [vU,ZB]
   split
   ·rename_i h
    exact⟨_,rfl,fun k=>⟨h,by simp only [decide_eq_true_eq] at k; omega⟩⟩
   ·exact⟨_,rfl,fun k=>by cases k⟩
  obtain⟨r,h1,hr⟩:=h1
  obtain⟨k,e,s',e1,d⟩:=zV oR v r ⟨4,x.sB,x.eY,[]⟩ (fun h=>by obtain⟨q1,q2⟩:=hr h; simp [fN,q1,q2])
  refine⟨e,s',?_,d.a (by omega)⟩
  simp only [eW.f,h1,e1,ZB]
 rw [if_neg (by simpa using k4)]
 by_cases k5:x.fC=5
 ·rw [if_pos (by rw [k5]; rfl)]
  obtain⟨k,e,s',e1,d⟩:=OA hm v x.xp
  refine⟨e,s',?_,d.a (by omega)⟩
  simp only [e1,ZB]
 rw [if_neg (by simpa using k5)]
 by_cases k6:x.fC=6
 ·rw [if_pos (by rw [k6]; rfl)]
  obtain⟨l,e,s',e1,v',em,eN,h⟩:=Jn oR v x.sB x.Ey
  refine⟨e,s',by simp only [e1,ZB],v',?_,fun h'=>?_⟩
  ·rcases h with⟨_,_,rfl⟩| ⟨_,_,rfl,_⟩| ⟨_,_,h,_⟩
   ·exact jK.refl _
   ·exact jK.refl _
   ·exact jK.OB v v' eN h
  ·rcases h with⟨_,_,rfl⟩| ⟨_,_,rfl,_⟩| ⟨_,h0,h,_⟩
   ·rfl
   ·rfl
   ·rcases h' with h' | h'
    ·exact absurd h0 h'
    ·omega
 rw [if_neg (by simpa using k6)]
 by_cases k7:x.fC=7
 ·rw [if_pos (by rw [k7]; rfl)]
  obtain⟨t,l,e,e1⟩:=L3 oR v x.sB x.Ey
  exact⟨e,s,by simp only [e1,ZB],v,jK.refl s,fun _=>rfl⟩
 rw [if_neg (by simpa using k7)]
 exact⟨0,s,rfl,v,jK.refl s,fun _=>rfl⟩
def Small (l:List aN):Prop:=l.length≤60∧∀x∈l,x.gf.length≤40
theorem zW (l:List aN)(hl:l.length<2 ^ 63):∀(k i:Nat),i≤l.length→l.length - i<k→(∃b,bJ.l0 m l k (i:Int)=some (.inl b)∧b=true)∨(∃z,bJ.l0 m l k (i:Int)=some (.inr z)∧∀j,i≤j→∀x,l[j]? = some x→x.gf.length≤40)
 | 0,i,h1,h2=>by omega
 | k+1,i,h1,h2=>by
  have Pp:(2:Nat) ^ 63=9223372036854775808:=by decide
  simp only [bJ.l0]
  by_cases hi:i<l.length
  ·have d:decide ((i:Int)<(l.length:Int))=true:=by rw [decide_eq_true_eq]; omega
   have eg:=ZG hi
   generalize l[i]=n at eg
   have ew:i64.wrap ((i:Int)+1)=((i+1:Nat):Int):=by rw [jT (by omega) (by omega)]; omega
   rw [if_pos d,uj eg]
   simp only [ZB,ew]
   split
   ·exact .inl ⟨_,rfl,rfl⟩
   split
   ·exact .inl ⟨_,rfl,rfl⟩
   rename_i h40
   rcases zW l hl k (i+1) (by omega) (by omega) with h | ⟨z,e,h⟩
   ·exact .inl h
   ·refine .inr ⟨z,e,fun j hj x hx=>?_⟩
    by_cases hji:j=i
    ·subst hji
     rw [eg] at hx; cases hx
     simp only [decide_eq_true_eq] at h40; omega
    ·exact h j (by omega) x hx
  ·have d:decide ((i:Int)<(l.length:Int))=false:=by rw [decide_eq_false_iff_not]; omega
   rw [if_neg (by rw [d]; decide)]
   refine .inr ⟨_,rfl,fun j hj x hx=>?_⟩
   rw [Z5 (by omega)] at hx; cases hx
theorem DF (hm:2 ^ 63≤m)(l:List aN)(hl:l.length<2 ^ 63):∃b,bJ.f m l=some b∧(b=false→Small l):=by
 have Pp:(2:Nat) ^ 63=9223372036854775808:=by decide
 have Xd:(2:Nat) ^ 63=9223372036854775808:=by decide
 unfold bJ.f
 rcases zW (m:=m) l hl m 0 (aai _) (by omega) with⟨b,e,rfl⟩| ⟨z,e,h⟩
 ·have e:bJ.l0 m l m 0=_:=e
  rw [e]
  exact⟨true,rfl,fun h=>by cases h⟩
 ·have e:bJ.l0 m l m 0=_:=e
  rw [e]
  refine⟨_,rfl,fun hb=>⟨?_,fun x hx=>?_⟩⟩
  ·simp only [decide_eq_false_iff_not] at hb; omega
  ·obtain⟨j,hj⟩:=aav hx
   exact h j (aai _) x hj
theorem DG (hm:2 ^ 41≤m)(l:List aN)(hl:Small l):∀(k i:Nat) (s:ab),i≤l.length→l.length - i<k→Inv2 s→∃s',cw.l0 m l k (i:Int) s=some ((l.length:Int),s')∧Inv2 s'
 | 0,i,s,h1,h2,_=>by omega
 | k+1,i,s,h1,h2,v=>by
  simp only [cw.l0]
  have h60:=hl.1
  by_cases hi:i<l.length
  ·have d:decide ((i:Int)<(l.length:Int))=true:=by rw [decide_eq_true_eq]; omega
   have eg:=ZG hi
   generalize l[i]=n at eg
   have ew:i64.wrap ((i:Int)+1)=((i+1:Nat):Int):=by rw [jT (by omega) (by omega)]; omega
   obtain⟨e,s',e1,d1⟩:=OD hm v n (hl.2 n (ZK eg))
   rw [if_pos d,uj eg]
   simp only [ZB,ew,e1]
   exact DG hm l hl k (i+1) s' (by omega) (by omega) d1.1
  ·have d:decide ((i:Int)<(l.length:Int))=false:=by rw [decide_eq_false_iff_not]; omega
   have e:i=l.length:=by omega
   rw [if_neg (by rw [d]; decide),e]
   exact⟨s,rfl,v⟩
theorem Jr:Inv2 ⟨true,[],[]⟩:=by
 have no:∀(P:Int→Prop) (n:Int),Rg ([]:List ak).length n→P n:=fun P n h=>by have:=h.1; have:=h.2; simp at this; omega
 exact⟨⟨rfl,rfl,by simp,Jc,⟨fun n h=>no _ n h,fun n h=>no _ n h,fun n h=>no _ n h⟩,fun v h=>by simp at h⟩,fun x y hx=>(no (fun _=>False) x hx).elim,fun n h=>(no (fun _=>False) n h).elim⟩
theorem L9 (hm:2 ^ 41≤m)(l:List aN)(hl:Small l):∃s,cw.f m l=some s∧Inv2 s:=by
 have ve:(2:Nat) ^ 41=2199023255552:=by decide
 have h60:=hl.1
 obtain⟨s,e,v⟩:=DG hm l hl m 0 ⟨true,[],[]⟩ (aai _) (by omega) Jr
 have e:cw.l0 m l m 0 ⟨true,[],[]⟩=_:=e
 refine⟨s,?_,v⟩
 simp only [cw.f,jt.f,ZB,e]
def zX (s:ab):List Int:=(aa6 s.aa.length).map fun (i:Nat)=>rp s.ae (i:Int)
theorem DH (hm:2000000≤m)(v:Inv s):∀(k i:Nat),i≤s.aa.length→s.aa.length - i<k→bY.l0 m s k ((aa6 i).map fun (i:Nat)=>rp s.ae (i:Int)) (i:Int)=some (zX s,(s.aa.length:Int))
 | 0,i,h1,h2=>by omega
 | k+1,i,h1,h2=>by
  have n3:=v.max
  simp only [bY.l0,cG.f,bO.f,v.made,ZB,aaC,ZN,if_false]
  by_cases hi:i<s.aa.length
  ·have d:decide ((i:Int)<(s.aa.length:Int))=true:=by rw [decide_eq_true_eq]; omega
   have r:Rg s.aa.length (i:Int):=⟨aaY _,by omega⟩
   have ew:i64.wrap ((i:Int)+1)=((i+1:Nat):Int):=by rw [jT (by omega) (by omega)]; omega
   rw [if_pos d,Oy hm v,if_pos r]
   simp only [ZB,ew]
   rw [if_neg (by decide),xL (by simp only [ZR,List.length_range,ZU,Z8]; omega),ZB]
   have:=DH hm v k (i+1) (by omega) (by omega)
   rw [List.range_succ,Z7] at this
   exact this
  ·have d:decide ((i:Int)<(s.aa.length:Int))=false:=by rw [decide_eq_false_iff_not]; omega
   have e:i=s.aa.length:=by omega
   rw [if_neg (by rw [d]; decide),e]; rfl
theorem Ma (hm:2000000≤m)(v:Inv s):bY.f m s=some (zX s):=by
 have n3:=v.max
 have:=DH hm v m 0 (aai _) (by omega)
 have this:bY.l0 m s m [] 0=_:=this
 simp only [bY.f,this,ZB]
theorem DI (a:List Int)(hl:a.length<2 ^ 63):∀(k i:Nat),i≤a.length→a.length - i<k→cj.l0 m a a k (i:Int)=some (.inr (a.length:Int))
 | 0,i,h1,h2=>by omega
 | k+1,i,h1,h2=>by
  have Pp:(2:Nat) ^ 63=9223372036854775808:=by decide
  simp only [cj.l0]
  by_cases hi:i<a.length
  ·have d:decide ((i:Int)<(a.length:Int))=true:=by rw [decide_eq_true_eq]; omega
   have ew:i64.wrap ((i:Int)+1)=((i+1:Nat):Int):=by rw [jT (by omega) (by omega)]; omega
   rw [if_pos d,uj (ZG hi)]
   simp only [ZB,ew,BEq.rfl,aaC,ZN,if_false]
   exact DI a hl k (i+1) (by omega) (by omega)
  ·have d:decide ((i:Int)<(a.length:Int))=false:=by rw [decide_eq_false_iff_not]; omega
   have e:i=a.length:=by omega
   rw [if_neg (by rw [d]; decide),e]
theorem wa (a:List Int)(hl:a.length<2 ^ 63)(hm:2 ^ 63≤m):cj.f m a a=some true:=by
 have Pp:(2:Nat) ^ 63=9223372036854775808:=by decide
 have Xd:(2:Nat) ^ 63=9223372036854775808:=by decide
 have:=DI (m:=m) a hl m 0 (aai _) (by omega)
 have this:cj.l0 m a a m 0=_:=this
 simp only [cj.f,BEq.rfl,aaC,ZN,if_false,this,ZB]
theorem HE (v:Inv s):(zX s).length<2 ^ 63:=by
 have n3:=v.max
 have Pp:(2:Nat) ^ 63=9223372036854775808:=by decide
 unfold zX; rw [ZR,List.length_range]; omega
theorem xX (v:Inv s):dk.f m s=some (some s,s):=by
 have n3:=v.max
 have n2:=v.len
 have h1:Aj 4 s.aa=some s.aa:=by unfold Aj; rw [if_pos (by omega)]
 have h2:Aj 1 s.ae=some s.ae:=by unfold Aj; rw [if_pos (by omega)]
 have h3:(⟨true,s.aa,s.ae⟩:ab)=s:=vS v.made.symm rfl rfl
 simp only [dk.f,bO.f,v.made,ZB,aaC,ZN,if_false,h1,h2,h3]
end
end Go.Proofs.Ytifafejidnjckaa
namespace Go.Proofs.Ytifafejidnjckaa
open Go Go.R Go.Uf
open Go.IntKind (i64 u64 u8 u32)
end Go.Proofs.Ytifafejidnjckaa
namespace Go.Proofs.Ytifafejidnjckaa
open Go Go.R Go.Uf
open Go.IntKind (i64 u64 u8 u32)
section
variable {m:Nat}{s:ab}
theorem zY (hm:16000≤m)(v:Inv s){l:List Int}(h8:l.length≤8)(hr:∀a∈l,Rg s.aa.length a):∀(k i:Nat),i≤l.length→l.length - i<k→bl.l0 m s l k ((l.take i).map (rp s.ae)++l.drop i) (i:Int)=some (l.map (rp s.ae),(l.length:Int))
 | 0,i,h1,h2=>by omega
 | k+1,i,h1,h2=>by
  simp only [bl.l0]
  by_cases hi:i<l.length
  ·have d:decide ((i:Int)<(l.length:Int))=true:=by rw [decide_eq_true_eq]; omega
   have hl:((l.take i).map (rp s.ae)).length=i:=by rw [ZR,aaw]; omega
   have ed:l.drop i=l[i]::l.drop (i+1):=ZP hi
   have et:l.take (i+1)=l.take i++[l[i]]:=aan hi
   have eg:((l.take i).map (rp s.ae)++l.drop i)[i]? = some l[i]:=by
    rw [ZT (by omega),hl,aaJ,ed]; rfl
   have es:((l.take i).map (rp s.ae)++l.drop i).set i (rp s.ae l[i])=(l.take (i+1)).map (rp s.ae)++l.drop (i+1):=by
    rw [aaO _ _ (by omega),hl,aaJ,ed,et,Z7,ZV]; rfl
   have ew:i64.wrap ((i:Int)+1)=((i+1:Nat):Int):=by rw [jT (by omega) (by omega)]; omega
   rw [if_pos d,uj eg]
   simp only [ZB,vQ hm v (hr _ (List.getElem_mem hi)),ew,ZQ,es]
   exact zY hm v h8 hr k (i+1) (by omega) (by omega)
  ·have d:decide ((i:Int)<(l.length:Int))=false:=by rw [decide_eq_false_iff_not]; omega
   have e:i=l.length:=by omega
   rw [if_neg (by rw [d]; decide),e]
   simp
def EW (s:ab)(r:Int):ak:=⟨(de s.aa r).kind,(de s.aa r).int,(de s.aa r).label,(de s.aa r).args.map (rp s.ae)⟩
theorem Js (hm:16000≤m)(v:Inv s){n:Int}(h:Rg s.aa.length n):bl.f m s n=some (EW s n):=by
 obtain⟨a1,a2⟩:=v.args _ (fm h)
 have hc:Aj 1 (de s.aa n).args=some (de s.aa n).args:=by unfold Aj; rw [if_pos (by omega)]
 have:=zY (m:=m) hm v a1 a2 m 0 (aai _) (by omega)
 have this:bl.l0 m s (de s.aa n).args m (de s.aa n).args 0=_:=this
 simp only [bl.f,ui h,ZB,hc,this]
 rfl
end
end Go.Proofs.Ytifafejidnjckaa
namespace Go.Uf
open Go Go.R
open Go.IntKind (i64 u64 u8 u32)
theorem DJ (l:List (Int × Bool))(k x:Int)(v:Bool):(uV (Ak l k v) x).1=if x=k then v else (uV l x).1:=by
 induction l with
 | nil=>
  simp only [Ak,uV]
  split<;>rfl
 | cons p l ih=>
  obtain⟨a,b⟩:=p
  simp only [Ak]
  by_cases h:k=a
  ·subst h
   rw [if_pos rfl]
   simp only [uV]
   by_cases hx:x=k
   ·rw [if_pos hx,if_pos hx]
   ·rw [if_neg hx,if_neg hx,if_neg hx]
  ·rw [if_neg h]
   simp only [uV]
   by_cases hx:x=a
   ·rw [if_pos hx,if_pos hx]
    have:¬x=k:=by omega
    rw [if_neg this]
   ·rw [if_neg hx,if_neg hx,ih]
theorem Jt (l:List (Int × Int))(k x:Int)(v:Int):(mK (yc l k v) x).1=if x=k then v else (mK l x).1:=by
 induction l with
 | nil=>
  simp only [yc,mK]
  split<;>rfl
 | cons p l ih=>
  obtain⟨a,b⟩:=p
  simp only [yc]
  by_cases h:k=a
  ·subst h
   rw [if_pos rfl]
   simp only [mK]
   by_cases hx:x=k
   ·rw [if_pos hx,if_pos hx]
   ·rw [if_neg hx,if_neg hx,if_neg hx]
  ·rw [if_neg h]
   simp only [mK]
   by_cases hx:x=a
   ·rw [if_pos hx,if_pos hx]
    have:¬x=k:=by omega
    rw [if_neg this]
   ·rw [if_neg hx,if_neg hx,ih]
end Go.Uf
namespace Go.Proofs.Ytifafejidnjckaa
open Go Go.R Go.Uf
open Go.IntKind (i64 u64 u8 u32)
inductive OE (N:List ak)(R:Int→Int)(r:Int):Int→Prop
 | refl:OE N R r r
 | step {x a:Int}:OE N R r x→a∈(de N x).args→OE N R r (R a)
def SI (out:List Int)(seen:List (Int × Bool)):Prop:=∀x,(uV seen x).1=true↔x∈out
structure RI (s:ab)(r:Int)(out:List Int):Prop where
 nd:out.Nodup
 rt:∀x∈out,Rg s.aa.length x∧rp s.ae x=x∧OE s.aa (rp s.ae) r x
 hd:out[0]? = some r
section
variable {m:Nat}{s:ab}{r:Int}
theorem RI.Fe {out:List Int}(h:RI s r out):out.length≤s.aa.length:=Hy h.nd fun x hx=>(h.rt x hx).1
theorem uB (hm:16000≤m)(v:Inv s){y:Int}(hy:Rg s.aa.length y)(hr:OE s.aa (rp s.ae) r y):∀(k i:Nat) (out:List Int) (seen:List (Int × Bool)),i≤(de s.aa y).args.length→(de s.aa y).args.length - i<k→SI out seen→RI s r out→(∀j a,j<i→(de s.aa y).args[j]? = some a→rp s.ae a∈out)→
  ∃nc wc,aL.l1 m s (de s.aa y) k out seen (i:Int)=some (nc,wc,((de s.aa y).args.length:Int))∧SI nc wc∧RI s r nc∧(∃t,nc=out++t)∧∀a∈(de s.aa y).args,rp s.ae a∈nc
 | 0,i,out,seen,h1,h2,_,_,_=>by omega
 | k+1,i,out,seen,h1,h2,hs,hi,hj=>by
  simp only [aL.l1]
  obtain⟨n8,nR⟩:=v.args _ (fm hy)
  by_cases hlt:i<(de s.aa y).args.length
  ·have d:decide ((i:Int)<((de s.aa y).args.length:Int))=true:=by rw [decide_eq_true_eq]; omega
   have eg:=ZG hlt
   generalize (de s.aa y).args[i]=a at eg
   have U8:=ZK eg
   have ha:=nR a U8
   have ew:i64.wrap ((i:Int)+1)=((i+1:Nat):Int):=by rw [jT (by omega) (by omega)]; omega
   rw [if_pos d,uj eg]
   simp only [ZB,ew,vQ (m:=m) (by omega) v ha]
   cases hq:(uV seen (rp s.ae a)).1 with
   | true=>
    rw [if_neg (by simp)]
    have hin:=(hs _).1 hq
    exact uB hm v hy hr k (i+1) out seen (by omega) (by omega) hs hi (fun j b Va hb=>by
     by_cases e:j<i
     ·exact hj j b e hb
     ·have:j=i:=by omega
      subst this
      rw [eg] at hb; cases hb; exact hin)
   | false=>
    have SL:rp s.ae a∉out:=fun h=>by rw [(hs _).2 h] at hq; cases hq
    have hf:=hi.Fe
    have h8:=v.max
    rw [if_pos (by simp),xL (by simp only [ZU,Z8]; omega),ZB]
    have jY:RI s r (out++[rp s.ae a]):=by
     refine⟨?_,fun x hx=>?_,?_⟩
     ·rw [aa5]
      refine⟨hi.nd,by simp,fun x hx z hz=>?_⟩
      simp only [Z1] at hz
      subst hz
      intro e
      subst e
      exact SL hx
     ·rcases aaa.1 hx with hx | hx
      ·exact hi.rt x hx
      ·simp only [Z1] at hx
       subst hx
       exact⟨v.cn.rg a ha,v.cn.id a ha,.step hr U8⟩
     ·have h0:=hi.hd
      have:=(ZH.1 h0).1
      rw [ZS (by omega)]; exact h0
    have JN:SI (out++[rp s.ae a]) (Ak seen (rp s.ae a) true):=by
     intro x
     rw [DJ,aaa,Z1]
     by_cases e:x=rp s.ae a
     ·simp [e]
     ·rw [if_neg e,hs x]; simp [e]
    obtain⟨nc,wc,e1,e2,e3,⟨t,e4⟩,e5⟩:=uB hm v hy hr k (i+1) _ _ (by omega) (by omega) JN jY (fun j b Va hb=>by
     by_cases e:j<i
     ·exact aat _ (hj j b e hb)
     ·have:j=i:=by omega
      subst this
      rw [eg] at hb; cases hb; exact List.mem_append_right _ (by simp))
    exact⟨nc,wc,e1,e2,e3,⟨_,by rw [e4,ZV]⟩,e5⟩
  ·have d:decide ((i:Int)<((de s.aa y).args.length:Int))=false:=by rw [decide_eq_false_iff_not]; omega
   have e:i=(de s.aa y).args.length:=by omega
   subst e
   rw [if_neg (by rw [d]; decide)]
   refine⟨out,seen,rfl,hs,hi,⟨[],by simp⟩,fun a ha=>?_⟩
   obtain⟨j,OF⟩:=aav ha
   exact hj j a (ZH.1 OF).1 OF
theorem zZ (hm:16000≤m)(v:Inv s):∀(k i:Nat) (out:List Int) (seen:List (Int × Bool)),i≤out.length→s.aa.length - i<k→SI out seen→RI s r out→(∀j x,j<i→out[j]? = some x→∀a∈(de s.aa x).args,rp s.ae a∈out)→
  ∃nc z w,aL.l0 m s k out seen (i:Int)=some (nc,z,w)∧RI s r nc∧∀x∈nc,∀a∈(de s.aa x).args,rp s.ae a∈nc
 | 0,i,out,seen,h1,h2,_,_,_=>by omega
 | k+1,i,out,seen,h1,h2,hs,hi,hj=>by
  simp only [aL.l0]
  have hf:=hi.Fe
  have h8:=v.max
  by_cases hlt:i<out.length
  ·have d:decide ((i:Int)<(out.length:Int))=true:=by rw [decide_eq_true_eq]; omega
   have eg:=ZG hlt
   generalize out[i]=y at eg
   obtain⟨y1,y2,y3⟩:=hi.rt y (ZK eg)
   have ew:i64.wrap ((i:Int)+1)=((i+1:Nat):Int):=by rw [jT (by omega) (by omega)]; omega
   have n8:=(v.args _ (fm y1)).1
   obtain⟨nc,wc,e1,e2,e3,⟨t,e4⟩,e5⟩:=uB (m:=m) hm v y1 y3 m 0 out seen (aai _) (by omega) hs hi (fun j a h=>by omega)
   have e1:aL.l1 m s (de s.aa y) m out seen 0=_:=e1
   rw [if_pos d,uj eg,ZB,ui y1,ZB,e1,ZB]
   simp only [ew]
   refine zZ hm v k (i+1) nc wc ?_ (by omega) e2 e3 (fun j x Va hx a ha=>?_)
   ·rw [e4,ZM]; omega
   ·rw [e4,ZS (by omega)] at hx
    by_cases e:j<i
    ·rw [e4]; exact aat _ (hj j x e hx a ha)
    ·have:j=i:=by omega
     subst this
     rw [eg] at hx; cases hx
     exact e5 a ha
  ·have d:decide ((i:Int)<(out.length:Int))=false:=by rw [decide_eq_false_iff_not]; omega
   rw [if_neg (by rw [d]; decide)]
   refine⟨out,_,_,rfl,hi,fun x hx a ha=>?_⟩
   obtain⟨j,OF⟩:=aav hx
   exact hj j x (by have:=(ZH.1 OF).1; omega) OF a ha
structure Reach (s:ab)(r:Int)(l:List Int):Prop extends RI s r l where
 cl:∀x∈l,∀a∈(de s.aa x).args,rp s.ae a∈l
theorem Ju (hm:16000≤m)(v:Inv s){n:Int}(h:Rg s.aa.length n):∃l,aL.f m s n=some l∧Reach s (rp s.ae n) l:=by
 have h8:=v.max
 unfold aL.f
 rw [vQ hm v h,ZB]
 have e0:ix [rp s.ae n] (0:Int)=some (rp s.ae n):=rfl
 rw [e0,ZB]
 obtain⟨l,z,w,e1,e2,e3⟩:=zZ (m:=m) (r:=rp s.ae n) hm v m 0 [rp s.ae n] (Ak [] (rp s.ae n) true) (aai _) (by omega)
  (fun x=>by rw [DJ,Z1]; by_cases e:x=rp s.ae n<;>simp [e,uV])
  ⟨by simp,fun x hx=>by simp only [Z1] at hx; subst hx; exact⟨v.cn.rg n h,v.cn.id n h,.refl⟩,rfl⟩ (fun j x h=>by omega)
 have e1:aL.l0 m s m [rp s.ae n] (Ak [] (rp s.ae n) true) 0=_:=e1
 rw [e1,ZB]
 exact⟨l,rfl,e2,e3⟩
end
end Go.Proofs.Ytifafejidnjckaa
namespace Go.Proofs.Ytifafejidnjckaa
open Go Go.R Go.Uf
open Go.IntKind (i64 u64 u8 u32)
def uC (l:List Int)(x:Int):Int:=((l.idxOf x:Nat):Int)
theorem nV {l:List Int}{x:Int}(h:x∈l):l[(uC l x).toNat]? = some x:=by
 have:=aax h
 unfold uC
 rw [ZQ,ZG this,List.getElem_idxOf]
theorem sH {l:List Int}{x:Int}(h:x∈l):0≤uC l x∧uC l x<l.length:=by
 have:=aax h
 unfold uC; omega
theorem DK {l:List Int}(hn:l.Nodup){x:Int}{j:Nat}(h:l[j]? = some x):uC l x=j:=by
 have hm:=ZK h
 have h1:=aax hm
 obtain⟨h2,h3⟩:=ZH.1 h
 unfold uC
 congr 1
 exact (List.getElem_inj hn (h₀:=h1) (h₁:=h2)).1 (by rw [List.getElem_idxOf,h3])
def PI (place:List (Int × Int))(l:List Int)(i:Nat):Prop:=∀(j:Nat) x,j<i→l[j]? = some x→(mK place x).1=j
def we (s:ab)(l:List Int)(r:Int):ak:=⟨(de s.aa r).kind,(de s.aa r).int,(de s.aa r).label,(de s.aa r).args.map fun a=>uC l (rp s.ae a)⟩
def TN (s:ab)(l:List Int):List ak:=l.map (we s l)
section
variable {m:Nat}{s:ab}{r:Int}
theorem DL {l:List Int}(hn:l.Nodup)(h8:l.length≤8000):∀(k i:Nat) (place:List (Int × Int)),i≤l.length→l.length - i<k→PI place l i→∃HF,ay.l0 m l k place (i:Int)=some (HF,(l.length:Int))∧PI HF l l.length
 | 0,i,place,h1,h2,_=>by omega
 | k+1,i,place,h1,h2,hp=>by
  simp only [ay.l0]
  by_cases hlt:i<l.length
  ·have d:decide ((i:Int)<(l.length:Int))=true:=by rw [decide_eq_true_eq]; omega
   have eg:=ZG hlt
   generalize l[i]=y at eg
   have ew:i64.wrap ((i:Int)+1)=((i+1:Nat):Int):=by rw [jT (by omega) (by omega)]; omega
   rw [if_pos d,uj eg,ZB,ew]
   refine DL hn h8 k (i+1) _ (by omega) (by omega) fun j x hj hx=>?_
   rw [Jt]
   by_cases e:j<i
   ·have:¬x=y:=fun e2=>by
     subst e2
     have a1:=DK hn hx
     have a2:=DK hn eg
     omega
    rw [if_neg this]
    exact hp j x e hx
   ·have:j=i:=by omega
    subst this
    rw [eg] at hx; cases hx
    rw [if_pos rfl]
  ·have d:decide ((i:Int)<(l.length:Int))=false:=by rw [decide_eq_false_iff_not]; omega
   have e:i=l.length:=by omega
   rw [if_neg (by rw [d]; decide),e]
   exact⟨place,rfl,by rw [←e]; exact hp⟩
theorem DM (place:List (Int × Int))(v:ak)(h8:v.args.length≤8):∀(k i:Nat),i≤v.args.length→v.args.length - i<k→
  ay.l2 m place v k ((v.args.take i).map (fun a=>(mK place a).1)++v.args.drop i) (i:Int)=some (v.args.map (fun a=>(mK place a).1),(v.args.length:Int))
 | 0,i,h1,h2=>by omega
 | k+1,i,h1,h2=>by
  simp only [ay.l2]
  by_cases hi:i<v.args.length
  ·have d:decide ((i:Int)<(v.args.length:Int))=true:=by rw [decide_eq_true_eq]; omega
   have hl:((v.args.take i).map (fun a=>(mK place a).1)).length=i:=by rw [ZR,aaw]; omega
   have ed:v.args.drop i=v.args[i]::v.args.drop (i+1):=ZP hi
   have et:v.args.take (i+1)=v.args.take i++[v.args[i]]:=aan hi
   have eg:((v.args.take i).map (fun a=>(mK place a).1)++v.args.drop i)[i]? = some v.args[i]:=by
    rw [ZT (by omega),hl,aaJ,ed]; rfl
   have es:((v.args.take i).map (fun a=>(mK place a).1)++v.args.drop i).set i ((mK place v.args[i]).1)=(v.args.take (i+1)).map (fun a=>(mK place a).1)++v.args.drop (i+1):=by
    rw [aaO _ _ (by omega),hl,aaJ,ed,et,Z7,ZV]; rfl
   have ew:i64.wrap ((i:Int)+1)=((i+1:Nat):Int):=by rw [jT (by omega) (by omega)]; omega
   rw [if_pos d,uj eg]
   simp only [ZB,ew,ZQ,es]
   exact DM place v h8 k (i+1) (by omega) (by omega)
  ·have d:decide ((i:Int)<(v.args.length:Int))=false:=by rw [decide_eq_false_iff_not]; omega
   have e:i=v.args.length:=by omega
   rw [if_neg (by rw [d]; decide),e]
   simp
theorem DN (hm:16000≤m)(v:Inv s){l:List Int}(h:Reach s r l){place:List (Int × Int)}(hp:PI place l l.length):∀(k i:Nat),i≤l.length→l.length - i<k→
  ay.l1 m s l place k (i:Int) ((l.take i).map (we s l)) 0=some ((l.length:Int),TN s l,0)
 | 0,i,h1,h2=>by omega
 | k+1,i,h1,h2=>by
  simp only [ay.l1]
  have hf:=h.Fe
  have h8:=v.max
  by_cases hi:i<l.length
  ·have d:decide ((i:Int)<(l.length:Int))=true:=by rw [decide_eq_true_eq]; omega
   have eg:=ZG hi
   have et:l.take (i+1)=l.take i++[l[i]]:=aan hi
   generalize l[i]=y at eg et
   have hy:=ZK eg
   obtain⟨y1,y2,_⟩:=h.rt y hy
   have ew:i64.wrap ((i:Int)+1)=((i+1:Nat):Int):=by rw [jT (by omega) (by omega)]; omega
   have n8:=(v.args _ (fm y1)).1
   have ea:(EW s y).args.map (fun a=>(mK place a).1)=(de s.aa y).args.map fun a=>uC l (rp s.ae a):=by
    show ((de s.aa y).args.map _).map _=_
    rw [List.map_map]
    apply aaT
    intro a ha
    have hin:=h.cl y hy a ha
    have h0:=nV hin
    have h1:=sH hin
    show (mK place (rp s.ae a)).1=_
    rw [hp _ _ (by omega) h0]
    omega
   have hl:(EW s y).args.length≤8:=by show (List.map _ _).length≤8; rw [ZR]; exact n8
   have e2:=DM (m:=m) place (EW s y) hl m 0 (aai _) (by omega)
   have e2:ay.l2 m place (EW s y) m (EW s y).args 0=_:=e2
   rw [if_pos d,uj eg,ZB,Js hm v y1,ZB,e2,ZB]
   simp only [ew]
   rw [xL (by simp only [ZR,aaw,ZU,Z8]; omega),ZB]
   have:=DN hm v h hp k (i+1) (by omega) (by omega)
   rw [et,Z7] at this
   rw [ea]
   exact this
  ·have d:decide ((i:Int)<(l.length:Int))=false:=by rw [decide_eq_false_iff_not]; omega
   have e:i=l.length:=by omega
   rw [if_neg (by rw [d]; decide),e,aa9]
   rfl
theorem HG (v:Inv2 s){l:List Int}(h:Reach s r l):gz ⟨TN s l,0⟩=true:=by
 have hf:=h.Fe
 have h8:=v.inv.max
 have h0:=(ZH.1 h.hd).1
 have hl:(TN s l).length=l.length:=ZR ..
 unfold gz
 simp only [ZF,decide_eq_true_eq,ZX]
 refine⟨⟨⟨⟨by omega,by omega⟩,by omega⟩,by omega⟩,fun n hn=>?_⟩
 obtain⟨y,hy,rfl⟩:=aah.1 hn
 obtain⟨y1,y2,_⟩:=h.rt y hy
 obtain⟨k1,k2⟩:=v.vn y y1
 exact qZ k1 _ (fun a ha=>by rw [hl]; exact sH (h.cl y hy a ha)) (fun hk=>by rw [k2 hk]; exact y1.1) (fun _=>rfl)
theorem xY (hm:2 ^ 41≤m)(v:Inv2 s){n:Int}(h:Rg s.aa.length n):∃l z,Reach s (rp s.ae n) l∧gz ⟨TN s l,0⟩=true∧dJ.f m ⟨TN s l,0⟩=some z∧ay.f m s n=some (z,0)∧gz z=true:=by
 have ve:(2:Nat) ^ 41=2199023255552:=by decide
 obtain⟨l,e1,R⟩:=Ju (m:=m) (by omega) v.inv h
 have hf:=R.Fe
 have h8:=v.inv.max
 have hV:=HG v R
 obtain⟨z,_,e4,hz,_⟩:=lT hm hV
 obtain⟨place,e2,hp⟩:=DL (m:=m) R.nd (by omega) m 0 [] (aai _) (by omega) (fun j x hj=>by omega)
 have e2:ay.l0 m l m [] 0=_:=e2
 have e3:=DN (m:=m) (by omega) v.inv R hp m 0 (aai _) (by omega)
 have e3:ay.l1 m s l place m 0 [] 0=_:=e3
 refine⟨l,z,R,hV,e4,?_,hz⟩
 unfold ay.f
 rw [og (by omega) v.inv.made [n] (by simp),show ([n].all fun n=>decide (Rg s.aa.length n))=true by simp [h],if_pos rfl,ZB,if_neg (by decide),e1,ZB,e2,ZB]
 simp only []
 rw [e3,ZB]
 simp only []
 unfold fM.f
 rw [mG (by omega),hV,ZB,if_neg (by decide),e4]
 rfl
theorem uD (hm:2 ^ 41≤m)(v:Inv2 s){n:Int}(h:¬Rg s.aa.length n):ay.f m s n=some (⟨[],0⟩,1):=by
 have ve:(2:Nat) ^ 41=2199023255552:=by decide
 unfold ay.f
 rw [og (by omega) v.inv.made [n] (by simp),show ([n].all fun n=>decide (Rg s.aa.length n))=false by simp [h]]
 rfl
end
end Go.Proofs.Ytifafejidnjckaa
namespace Go.Proofs.Ytifafejidnjckaa
open Go Go.R
open Go.IntKind (i64 u64 u8 u32)
def DO:b9:=gW [0,1,2,3,4,5,13] [2,3] [115,51,79,79] [] []
def iw.f (m:Nat)(a0:bg)(b0:bg):Option (Bool × Int):=(gg.f m a0).bind fun x0=>if (!x0)=true then (some (false,(2:Int))) else ((gg.f m b0).bind fun x1=>if (!x1)=true then (some (false,(2:Int))) else ((dJ.f m a0).bind fun x2=>(dJ.f m b0).bind fun x3=>(ic.f m x2 x3).bind fun x4=>some (x4,(0:Int))))
def iw.fin (L:Mem)(r:Bool × Int)(s:St):Prop:=∃av,aO Try.prog (s.open DO) Try.f22.results.toList=some av∧fG s.h av (.tup [.bool r.1,.int .i64 r.2])
def Vb (cf:CallF)(m:Nat):Prop:=∀(a0:bg) (b0:bg) (r:Bool × Int),iw.f m a0 b0=some r→∀h xs,aU bR h xs [.agg [ai.fz a0.nodes,.int .i64 a0.root],.agg [ai.fz b0.nodes,.int .i64 b0.root]]→cf 22 xs h=some (.tup [.bool r.1,.int .i64 r.2],h)
section
variable {cf:CallF}{m:Nat}
theorem uE {aY:FuncId→b9}(ha:aY 22=DO)(GU:RA cf m)(SM:UM cf m)(Ja:R8 cf m)(a0:bg)(b0:bg)(h:AHeap)(L:Mem)  (o:Has h (L)){out:Bool × Int}(H:iw.f m a0 b0=some out) :
  ∃r h',bf Try.prog aY cf m 22 [.agg [ai.fz a0.nodes,.int .i64 a0.root],.agg [ai.fz b0.nodes,.int .i64 b0.root]] h=some (r,h')∧fG h' r (.tup [.bool out.1,.int .i64 out.2]):=by
 refine ar (fn:=Try.f22) ha Try.func22 (by kernel_rfl) (by kernel_rfl) ?_
 refine aH (Q:=fun s=>iw.fin L out s) (fun _ _ h=>h) ?_
 have H:_=some out:=H
 unfold iw.f at H
 show dK _ cf DO m _ ⟨.agg [ai.fz a0.nodes,.int .i64 a0.root] :: .agg [ai.fz b0.nodes,.int .i64 b0.root]::Ai [],[none,none],h⟩ _
 refine q1 <| qq <| qq ?_
 obtain⟨x0,e0,H⟩:=bj H
 rcases gS H with⟨c0,H⟩| ⟨c0,H⟩
 ·obtain rfl:=oi H
  exact qr [.a 1 (GU _ _ e0 h _ (fw (ah (eV (ah (dU (E:=ai)) (ah (aZ) (aw)))) (aw)))),.b 3 c0] <| za <| qq <| q0 <| qt <| ⟨.inl rfl,cV (.tup [.bool false,.int .i64 (2:Int)]) h (cP (tA (jB (az) (jB (dr) (tz)))))⟩
 ·obtain⟨x1,e1,H⟩:=bj H
  refine qr [.a 1 (GU _ _ e0 h _ (fw (ah (eV (ah (dU (E:=ai)) (ah (aZ) (aw)))) (aw)))),.b 3 c0,.a 5 (GU _ _ e1 h _ (fw (ah (eV (ah (dU (E:=ai)) (ah (aZ) (aw)))) (aw))))] <| qc H (fun c2 H=>?_) (fun c2 H=>?_)
  ·obtain rfl:=oi H
   exact q1 <| qt <| ⟨.inl rfl,cV (.tup [.bool false,.int .i64 (2:Int)]) h (cP (tA (jB (az) (jB (dr) (tz)))))⟩
  ·refine qk <| qq ?_
   obtain⟨x2,e2,H⟩:=bj H
   obtain⟨aE,cm,h0,e3,o0,HX⟩:=Ja _ _ e2 h _ _ o (fw (ah (eV (ah (dU (E:=ai)) (ah (aZ) (aw)))) (aw)))
   obtain⟨x3,e4,H⟩:=bj H
   obtain⟨cy,jU,h1,e5,o1,Km⟩:=Ja _ _ e4 h0 _ _ o0 (fw (ah (eV (ah (dU (E:=ai)) (ah (aZ) (aw)))) (aw)))
   have o2:=Has.jg (pre:=[(cy,.sl x3.nodes.length 4 (b4.l (aK x3.nodes jU)))]) (N:=[(aE,.sl x2.nodes.length 4 (b4.l (aK x2.nodes cm)))]) (mid:=cz x3.nodes jU) o1
   obtain⟨x4,e6,H⟩:=bj H
   refine qr [.a 1 e3,.a 3 e5,.a 4 (SM _ _ _ e6 h1 _ (fw (ah (eV (ah (xi (pre:=[(cy,.sl x3.nodes.length 4 (b4.l (aK x3.nodes jU))),(aE,.sl x2.nodes.length 4 (b4.l (aK x2.nodes cm)))]) (ns:=x2.nodes) (ids:=cm) (q:=1) (Has.jg (pre:=[(cy,.sl x3.nodes.length 4 (b4.l (aK x3.nodes jU))),(aE,.sl x2.nodes.length 4 (b4.l (aK x2.nodes cm)))]) (mid:=cz x3.nodes jU) (N:=cz x2.nodes cm) o2) rfl) (ah (aZ) (aw)))) (ah (eV (ah (xi (pre:=[(cy,.sl x3.nodes.length 4 (b4.l (aK x3.nodes jU))),(aE,.sl x2.nodes.length 4 (b4.l (aK x2.nodes cm)))]) (ns:=x3.nodes) (ids:=jU) (q:=0) o2 rfl) (ah (aZ) (aw)))) (aw)))))] ?_
   have o3:Has h1 ((cy,.sl x3.nodes.length 4 (b4.l (aK x3.nodes jU)))::(cz x3.nodes jU++L)):=Has.gone (pre:=[(cy,.sl x3.nodes.length 4 (b4.l (aK x3.nodes jU)))]) (ns:=x2.nodes) (ids:=cm) (Has.jg (pre:=[(cy,.sl x3.nodes.length 4 (b4.l (aK x3.nodes jU)))]) (mid:=cz x3.nodes jU) (N:=cz x2.nodes cm) (Has.del o2 1))
   have o4:Has h1 (L):=Has.gone (pre:=[]) (Has.del o3 0)
   obtain rfl:=oi H
   exact qt <| ⟨.inl rfl,cV (.tup [.bool x4,.int .i64 (0:Int)]) h1 (cP (tA (jB (az) (jB (dr) (tz)))))⟩
end
end Go.Proofs.Ytifafejidnjckaa
namespace Go.Proofs.Ytifafejidnjckaa
open Go Go.R Go.Uf
open Go.IntKind (i64 u64 u8 u32)
section
variable {m:Nat}
theorem wg {a b:List Int}(hl:a.length=b.length)(h8:a.length≤8000):∀(k i:Nat),i≤a.length→a.length - i<k→
  (bK.l0 m a b k (i:Int)=some (.inr (a.length:Int))∧a.drop i=b.drop i)∨(bK.l0 m a b k (i:Int)=some (.inl false)∧a≠b)
 | 0,i,h1,h2=>by omega
 | k+1,i,h1,h2=>by
  simp only [bK.l0]
  by_cases hi:i<a.length
  ·have d:decide ((i:Int)<(a.length:Int))=true:=by rw [decide_eq_true_eq]; omega
   have ea:=ZG hi
   have eb:=ZG (l:=b) (i:=i) (by omega)
   have da:a.drop i=a[i]::a.drop (i+1):=ZP hi
   have db:b.drop i=b[i]::b.drop (i+1):=ZP (by omega)
   have ew:i64.wrap ((i:Int)+1)=((i+1:Nat):Int):=by rw [jT (by omega) (by omega)]; omega
   rw [if_pos d,uj ea,ZB,uj eb,ZB,ew,da,db]
   by_cases he:a[i]=b[i]
   ·rw [if_neg (by simp [he])]
    rcases wg hl h8 k (i+1) (by omega) (by omega) with⟨h,g⟩| h
    ·exact .inl ⟨h,by rw [he,g]⟩
    ·exact .inr h
   ·rw [if_pos (by simpa using he)]
    exact .inr ⟨rfl,fun e=>he (by subst e; rfl)⟩
  ·have d:decide ((i:Int)<(a.length:Int))=false:=by rw [decide_eq_false_iff_not]; omega
   have e:i=a.length:=by omega
   rw [if_neg (by rw [d]; decide),e]
   exact .inl ⟨rfl,by rw [List.drop_length,hl,List.drop_length]⟩
theorem HH (hm:16000≤m){a b:List Int}(h8:a.length≤8000):∃r,bK.f m a b=some r∧(r=true↔a=b):=by
 unfold bK.f
 by_cases hl:a.length=b.length
 ·rw [if_neg (by simp [hl])]
  rcases wg (m:=m) hl h8 m 0 (aai _) (by omega) with⟨h,g⟩| ⟨h,g⟩
  ·have h:bK.l0 m a b m 0=_:=h
   rw [h]
   exact⟨true,rfl,fun _=>by simpa using g,fun _=>rfl⟩
  ·have h:bK.l0 m a b m 0=_:=h
   rw [h]
   exact⟨false,rfl,fun h=>(by cases h),fun h=>absurd h g⟩
 ·rw [if_pos (by simp; omega)]
  exact⟨false,rfl,fun h=>(by cases h),fun h=>by subst h; exact absurd rfl hl⟩
theorem HI (hm:16000≤m){a b:ak}(ha:ET a)(hb:ET b):∃r,dT.f m a b=some r∧(r=true↔a=b):=by
 unfold dT.f
 rw [xO (by omega),ZB]
 have hA:=ha.args
 by_cases h0:cT a b=0
 ·rw [if_pos (by rw [h0]; rfl)]
  obtain⟨r,e,h⟩:=HH (m:=m) hm (a:=a.args) (b:=b.args) (by omega)
  rw [e,ZB]
  refine⟨r,rfl,fun hr=>?_,fun he=>h.2 (by rw [he])⟩
  have k3:∀{n:ak},ET n→n.kind=3→n.int=0:=fun T h=>by rcases T.kind with⟨k,_⟩| ⟨k,_⟩| ⟨k,_⟩| ⟨k,z⟩| ⟨k,_⟩<;>first | exact z | omega
  have kn:∀{n:ak},ET n→n.kind≠3→n.args=[]:=fun T h=>by rcases T.kind with⟨k,_,_,z⟩| ⟨k,_,_,z⟩| ⟨k,_,z⟩| ⟨k,_⟩| ⟨k,z⟩<;>first | exact z | exact absurd k h
  have A:=zT h0 (k3 ha) (k3 hb) (kn ha) (kn hb)
  have hargs:=h.1 hr
  cases a; cases b
  obtain⟨a1,a2,a3,_⟩:=A
  simp only at a1 a2 a3 hargs
  subst a1; subst a2; subst a3; subst hargs
  rfl
 ·rw [if_neg (by simpa using h0)]
  exact⟨false,rfl,fun h=>(by cases h),fun he=>absurd (by rw [he]; exact (Alike.refl b).cT) h0⟩
theorem wi (hm:16000≤m){a b:List ak}(hl:a.length=b.length)(h8:a.length≤8000)(ha:∀n∈a,ET n)(hb:∀n∈b,ET n):∀(k i:Nat),i≤a.length→a.length - i<k→
  (aG.l0 m a b (fun y0 y1=>dT.f m y0 y1) k (i:Int)=some (.inr (a.length:Int))∧a.drop i=b.drop i)∨(aG.l0 m a b (fun y0 y1=>dT.f m y0 y1) k (i:Int)=some (.inl false)∧a≠b)
 | 0,i,h1,h2=>by omega
 | k+1,i,h1,h2=>by
  simp only [aG.l0]
  by_cases hi:i<a.length
  ·have d:decide ((i:Int)<(a.length:Int))=true:=by rw [decide_eq_true_eq]; omega
   have ea:=ZG hi
   have eb:=ZG (l:=b) (i:=i) (by omega)
   have da:a.drop i=a[i]::a.drop (i+1):=ZP hi
   have db:b.drop i=b[i]::b.drop (i+1):=ZP (by omega)
   have ew:i64.wrap ((i:Int)+1)=((i+1:Nat):Int):=by rw [jT (by omega) (by omega)]; omega
   obtain⟨r,e,h⟩:=HI (m:=m) hm (ha _ (ZK ea)) (hb _ (ZK eb))
   rw [if_pos d,uj ea,ZB,uj eb,ZB,e,ZB,ew,da,db]
   cases r with
   | true=>
    rw [if_neg (by simp)]
    rcases wi hm hl h8 ha hb k (i+1) (by omega) (by omega) with⟨h',g⟩| h'
    ·exact .inl ⟨h',by rw [h.1 rfl,g]⟩
    ·exact .inr h'
   | false=>
    rw [if_pos (by simp)]
    exact .inr ⟨rfl,fun e=>by subst e; have:=h.2 rfl; cases this⟩
  ·have d:decide ((i:Int)<(a.length:Int))=false:=by rw [decide_eq_false_iff_not]; omega
   have e:i=a.length:=by omega
   rw [if_neg (by rw [d]; decide),e]
   exact .inl ⟨rfl,by rw [List.drop_length,hl,List.drop_length]⟩
theorem HJ (hm:16000≤m){a b:bg}(h8:a.nodes.length≤8000)(ha:∀n∈a.nodes,ET n)(hb:∀n∈b.nodes,ET n):∃r,ic.f m a b=some r∧(r=true↔a.nodes=b.nodes):=by
 unfold ic.f aG.f
 by_cases hl:a.nodes.length=b.nodes.length
 ·rw [if_neg (by simp [hl])]
  rcases wi (m:=m) hm hl h8 ha hb m 0 (aai _) (by omega) with⟨h,g⟩| ⟨h,g⟩
  ·have h:aG.l0 m a.nodes b.nodes (fun y0 y1=>dT.f m y0 y1) m 0=_:=h
   rw [h]
   exact⟨true,rfl,fun _=>by simpa using g,fun _=>rfl⟩
  ·have h:aG.l0 m a.nodes b.nodes (fun y0 y1=>dT.f m y0 y1) m 0=_:=h
   rw [h]
   exact⟨false,rfl,fun h=>(by cases h),fun h=>absurd h g⟩
 ·rw [if_pos (by simp; omega)]
  exact⟨false,rfl,fun h=>(by cases h),fun h=>by rw [h] at hl; exact absurd rfl hl⟩
theorem xW.trans {l k u:List ak}{R S:Int→Int→Prop}(A:xW l k R)(B:xW k u S):xW l u fun i j=>∃q,R i q∧S q j:=
 ⟨fun i j ⟨q,h,g⟩=>⟨(A.lY _ _ h).1,(B.lY _ _ g).2⟩,fun i j ⟨q,h,g⟩=>(A.top _ _ h).trans (B.top _ _ g),fun i j ⟨q,h,g⟩ n hn=>⟨_,A.arg _ _ h n hn,B.arg _ _ g n (by have:=(A.top _ _ h).len; omega)⟩⟩
def Ff (t u:bg):Prop:=∃R,xW t.nodes u.nodes R∧R t.root u.root
theorem Ff.trans {t u w:bg}(a:Ff t u)(b:Ff u w):Ff t w:=by
 obtain⟨R,h1,h2⟩:=a
 obtain⟨S,g1,g2⟩:=b
 exact⟨_,h1.trans g1,_,h2,g2⟩
theorem Ff.symm {t u:bg}(a:Ff t u):Ff u t:=by
 obtain⟨R,h1,h2⟩:=a
 exact⟨_,h1.swap,h2⟩
theorem Mb (hm:2 ^ 41≤m){t u:bg}(ht:gz t=true)(hu:gz u=true):∃b,iw.f m t u=some (b,0)∧(b=true↔Ff t u):=by
 have J7:(2:Nat) ^ 30=1073741824:=by decide
 have ve:(2:Nat) ^ 41=2199023255552:=by decide
 obtain⟨x,R,e1,vx,_,B1,r1⟩:=lT hm ht
 obtain⟨y,S,e2,vy,_,B2,r2⟩:=lT hm hu
 obtain⟨c1,n1,Vc,_⟩:=kF hm ht
 obtain⟨c2,n2,Vd,_⟩:=kF hm hu
 rw [e1] at Vc
 rw [e2] at Vd
 have x0:x.root=0:=by cases aaf Vc; rfl
 have y0:y.root=0:=by cases aaf Vd; rfl
 obtain⟨Xe,_,_,_,Tx⟩:=jx vx
 obtain⟨Zo,_,_,_,Ty⟩:=jx vy
 obtain⟨b,e3,hb⟩:=HJ (m:=m) (by omega) Xe.1 Tx Ty
 refine⟨b,?_,hb.trans ⟨fun h=>?_,fun ⟨Q,hQ,hq⟩=>?_⟩⟩
 ·unfold iw.f
  rw [mG (by omega),ht,ZB,if_neg (by decide),mG (by omega),hu,ZB,if_neg (by decide),e1,ZB,e2,ZB,e3,ZB]
 ·refine Ff.trans (u:=x) ⟨R,B1,r1⟩ (Ff.symm ⟨S,?_,?_⟩)
  ·rw [h]; exact B2
  ·rw [x0,←y0]; exact r2
 ·obtain⟨z,k1,k2⟩:=EV hm ht hu hQ hq
  rw [e1] at k1
  rw [e2] at k2
  cases aaf k1
  cases aaf k2
  rfl
end
end Go.Proofs.Ytifafejidnjckaa
namespace Go.Proofs.Ytifafejidnjckaa
open Go Go.R Go.Uf
open Go.IntKind (i64 u64 u8 u32)
structure SN (s:ab)(Q:Int→Int→Prop):Prop where
 lY:∀u v,Q u v→(Rg s.aa.length u∧rp s.ae u=u)∧Rg s.aa.length v∧rp s.ae v=v
 top:∀u v,Q u v→iv (de s.aa u) (de s.aa v)
 arg:∀u v,Q u v→∀(i:Nat) a b,(de s.aa u).args[i]? = some a→(de s.aa v).args[i]? = some b→Q (rp s.ae a) (rp s.ae b)
def Sb (s:ab)(u v:Int):Prop:=∃Q,SN s Q∧Q u v
theorem q6 {a b:ak}(h:iv a b):iv b a:=⟨h.1.symm,h.2.1.symm,h.2.2.1.symm,h.2.2.2.symm⟩
theorem kG {a b c:ak}(h:iv a b)(k:iv b c):iv a c:=⟨h.1.trans k.1,h.2.1.trans k.2.1,h.2.2.1.trans k.2.2.1,h.2.2.2.trans k.2.2.2⟩
theorem BF {a b:ak}(h:iv a b):Alike a b:=⟨h.1,h.2.1,BD h.2.2.1,h.2.2.2⟩
theorem Alike.SO {a b:ak}(h:Alike a b):iv a b:=⟨h.1,h.2,by rw [h.3],h.4⟩
section
variable {s:ab}{u v w:Int}
theorem Sb.symm (h:Sb s u v):Sb s v u:=by
 obtain⟨Q,B,q⟩:=h
 exact⟨fun x y=>Q y x,⟨fun x y h=>⟨(B.lY _ _ h).2,(B.lY _ _ h).1⟩,fun x y h=>q6 (B.top _ _ h),fun x y h i a b ha hb=>B.arg _ _ h i b a hb ha⟩,q⟩
theorem Sb.trans (h:Sb s u v)(k:Sb s v w):Sb s u w:=by
 obtain⟨Q,B,q⟩:=h
 obtain⟨P,C,p⟩:=k
 refine⟨fun x z=>∃y,Q x y∧P y z,⟨fun x z ⟨y,h1,h2⟩=>⟨(B.lY _ _ h1).1,(C.lY _ _ h2).2⟩,fun x z ⟨y,h1,h2⟩=>kG (B.top _ _ h1) (C.top _ _ h2),?_⟩,_,q,p⟩
 rintro x z ⟨y,h1,h2⟩ i a b ha hb
 have l1:=(B.top _ _ h1).2.2.2
 have hi:=(ZH.1 ha).1
 have hy:=ZG (l:=(de s.aa y).args) (i:=i) (by omega)
 exact⟨_,B.arg _ _ h1 i a _ ha hy,C.arg _ _ h2 i _ b hy hb⟩
theorem Sb.refl (v:Inv s){u:Int}(hu:Rg s.aa.length u)(hr:rp s.ae u=u):Sb s u u:=
 ⟨fun x y=>x=y∧Rg s.aa.length x∧rp s.ae x=x,⟨fun x y ⟨e,h⟩=>by subst e; exact⟨h,h⟩,fun x y ⟨e,h⟩=>by subst e; exact iv.refl _,fun x y ⟨e,h⟩ i a b ha hb=>by
  subst e
  rw [ha] at hb; cases hb
  have:=(v.args _ (fm h.1)).2 a (ZK ha)
  exact⟨rfl,v.cn.rg a this,v.cn.id a this⟩⟩,rfl,hu,hr⟩
theorem Sb.var (v:Inv2 s)(h:Sb s u w)(hk:(de s.aa u).kind=0):u=w:=by
 obtain⟨Q,B,q⟩:=h
 obtain⟨⟨h1,_⟩,h2,_⟩:=B.lY _ _ q
 obtain⟨t1,t2,_⟩:=B.top _ _ q
 have:=(v.vn u h1).2 hk
 have:=(v.vn w h2).2 (by rw [←t1]; exact hk)
 omega
theorem Sb.top (h:Sb s u w):iv (de s.aa u) (de s.aa w):=by
 obtain⟨Q,B,q⟩:=h
 exact B.top _ _ q
theorem Sb.arg (h:Sb s u w){i:Nat}{a b:Int}(ha:(de s.aa u).args[i]? = some a)(hb:(de s.aa w).args[i]? = some b):Sb s (rp s.ae a) (rp s.ae b):=by
 obtain⟨Q,B,q⟩:=h
 exact⟨Q,B,B.arg _ _ q i a b ha hb⟩
noncomputable def Ic (s:ab)(x:Int):Int:=Classical.epsilon fun y=>Sb s (rp s.ae x) y
theorem xZ (v:Inv s){x y:Int}(hx:Rg s.aa.length x)(hy:Rg s.aa.length y):Ic s x=Ic s y↔Sb s (rp s.ae x) (rp s.ae y):=by
 have ex:=Classical.epsilon_spec (p:=fun z=>Sb s (rp s.ae x) z) ⟨_,Sb.refl v (v.cn.rg x hx) (v.cn.id x hx)⟩
 have ey:=Classical.epsilon_spec (p:=fun z=>Sb s (rp s.ae y) z) ⟨_,Sb.refl v (v.cn.rg y hy) (v.cn.id y hy)⟩
 constructor
 ·intro h
  have ex:Sb s (rp s.ae x) (Ic s x):=ex
  have ey:Sb s (rp s.ae y) (Ic s y):=ey
  rw [h] at ex
  exact ex.trans ey.symm
 ·intro h
  unfold Ic
  congr 1
  funext z
  exact propext ⟨fun k=>h.symm.trans k,fun k=>h.trans k⟩
theorem DP (v:Inv s):gN s.aa (rp s.ae) (Ic s):=fun x y hx hy h=>by
 unfold Ic; rw [h]
theorem HK (v:Inv2 s):Cl s.aa (Ic s):=by
 intro x y hx hy h vx vy
 have h:=(xZ v.inv hx hy).1 h
 have c:=v.inv.cn
 have x1:=c.rg x hx
 have y1:=c.rg y hy
 obtain⟨a1,a2⟩:=v.cl x (rp s.ae x) hx x1 (c.id x hx).symm vx (c.val hx vx)
 obtain⟨b1,b2⟩:=v.cl y (rp s.ae y) hy y1 (c.id y hy).symm vy (c.val hy vy)
 refine⟨kG a1 (kG h.top (q6 b1)),fun i a b ha hb=>?_⟩
 have hi:=(ZH.1 ha).1
 have hj:=(ZH.1 hb).1
 have la:=a1.2.2.2
 have lb:=b1.2.2.2
 have ga:=ZG (l:=(de s.aa (rp s.ae x)).args) (i:=i) (by omega)
 have gb:=ZG (l:=(de s.aa (rp s.ae y)).args) (i:=i) (by omega)
 have e1:=a2 i a _ ha ga
 have e2:=b2 i b _ hb gb
 have e3:=h.arg ga gb
 rw [←e1,←e2] at e3
 exact (xZ v.inv ((v.inv.args _ (fm hx)).2 a (ZK ha)) ((v.inv.args _ (fm hy)).2 b (ZK hb))).2 e3
end
structure Jv (s:ab)(a b:Int)(l:List Int)(ok:Bool)(s':ab):Prop where
 un:Ds s s' l
 inv:Inv s'
 len:l.length≤8000
 no:ok=false→∀T,Cl s.aa T→gN s.aa (rp s.ae) T→T a=T b→False
 yes:ok=true→Cl s.aa (rp s'.ae)∧gN s.aa (rp s.ae) (rp s'.ae)∧rp s'.ae a=rp s'.ae b∧∀T,Cl s.aa T→gN s.aa (rp s.ae) T→T a=T b→gN s.aa (rp s'.ae) T
section
variable {m:Nat}{s:ab}{a b:Int}
theorem DQ {N:List ak}{l:List Int}:xS N l=[]↔∀n∈l,(de N n).kind≠0:=by
 have hl:(xS N l).length=(l.filter fun n=>(de N n).kind==0).length:=kc _
 constructor
 ·intro h n hn hk
  rw [h] at hl
  have:n∈l.filter fun n=>(de N n).kind==0:=List.mem_filter.2 ⟨hn,by simpa using hk⟩
  rw [Z6 hl.symm] at this
  cases this
 ·intro h
  have:l.filter (fun n=>(de N n).kind==0)=[]:=List.filter_eq_nil_iff.2 fun n hn=>by simpa using h n hn
  rw [this] at hl
  exact Z6 hl
theorem DR (hm:2000000≤m)(v:Inv2 s)(a b:Int) :
  (iy s [a,b]=false∧bT.f m s a b=some (0,[],1,s)∧b6.f m s a b=some ([],1,s))∨
  (iy s [a,b]=true∧∃l ok s',Jv s a b l ok s'∧bT.f m s a b=some (if ok=true then (if xS s.aa l=[] then (1,[],0,s) else (-1,xS s.aa l,0,s)) else (0,[],0,s))∧
   b6.f m s a b=some (if ok=true then (xS s.aa l,0,s') else ([],8,s))):=by
 unfold bT.f b6.f
 rw [og hm v.inv.made [a,b] (by simp)]
 show _∨(_∧∃l ok s',_∧((some (if iy s [a,b]=true then (0:Int) else 1)).bind _)=_∧((some (if iy s [a,b]=true then (0:Int) else 1)).bind _)=_)
 cases hn:iy s [a,b] with
 | false=>
  refine .inl ⟨rfl,?_,?_⟩
  ·show ((some (if iy s [a,b]=true then (0:Int) else 1)).bind _)=_
   rw [hn,ZB]; rfl
  ·show ((some (if iy s [a,b]=true then (0:Int) else 1)).bind _)=_
   rw [hn,ZB]; rfl
 | true=>
  obtain⟨ra,rb⟩:=qY hn
  obtain⟨l,ok,s',e,u,v',hl,h1,h2⟩:=uy hm v.inv v.cl ra rb
  have eN:s'.aa=s.aa:=u.2.1
  refine .inr ⟨rfl,l,ok,s',⟨u,v',hl,h1,h2⟩,?_,?_⟩
  ·rw [if_pos rfl,ZB,if_neg (by decide),e,ZB]
   simp only [xM (m:=m) (by omega) hl u,ZB]
   rw [sE hm hl (fun n hn=>by rw [←v.inv.len]; exact (u.2.2.2.1 n hn).1)]
   simp only [ZB]
   cases ok with
   | false=>rfl
   | true=>
    rw [if_neg (by simp),if_pos rfl]
    by_cases hb:xS s.aa l=[]
    ·rw [if_pos hb,hb]; rfl
    ·rw [if_neg hb,if_neg]
     intro h
     apply hb
     have:((xS s.aa l).length:Int)=0:=by simpa using h
     exact Z6 (by omega)
  ·rw [if_pos rfl,ZB,if_neg (by decide),e,ZB]
   cases ok with
   | false=>
    simp only [xM (m:=m) (by omega) hl u,ZB]
    rfl
   | true=>
    rw [if_neg (show ¬(!(l,true,s').2.1)=true by simp)]
    simp only []
    rw [sE hm hl (fun n hn=>by rw [eN,←v.inv.len]; exact (u.2.2.2.1 n hn).1),eN]
    rfl
theorem Jv.same (v:Inv2 s)(ra:Rg s.aa.length a)(rb:Rg s.aa.length b){l:List Int}{ok:Bool}{s':ab}(E:Jv s a b l ok s'):(ok=true∧xS s.aa l=[])↔Sb s (rp s.ae a) (rp s.ae b):=by
 have c:=v.inv.cn
 have eN:s'.aa=s.aa:=E.un.2.1
 have c':Cn s.aa (rp s'.ae):=by rw [←eN]; exact E.inv.cn
 have root:∀n,Rg s.aa.length n→rp s.ae n=n→n∉l→rp s'.ae n=n:=fun n hn hr hm=>by
  have Mq:=v.inv.rg hn
  have h1:iY s.ae n=n:=by
   have:=v.inv.ok.rt n Mq
   unfold rp at hr
   have hr:rp s.ae n=n:=hr
   rw [hr] at this; exact this
  have:=E.un.2.2.2.2.1 n Mq hm
  exact mE (this.trans h1)
 constructor
 ·rintro⟨h1,h2⟩
  obtain⟨k1,k2,k3,_⟩:=E.yes h1
  have free:=DQ.1 h2
  refine⟨fun u w=>((Rg s.aa.length u∧rp s.ae u=u)∧Rg s.aa.length w∧rp s.ae w=w)∧rp s'.ae u=rp s'.ae w,⟨fun u w h=>h.1,?_,?_⟩,⟨⟨c.rg a ra,c.id a ra⟩,c.rg b rb,c.id b rb⟩,?_⟩
  ·rintro u w ⟨⟨⟨u1,u2⟩,w1,w2⟩,e⟩
   by_cases hu:(de s.aa u).kind=0
   ·have eu:=root u u1 u2 fun h=>free u h hu
    by_cases hw:(de s.aa w).kind=0
    ·have ew:=root w w1 w2 fun h=>free w h hw
     rw [eu,ew] at e; subst e; exact iv.refl _
    ·have:=c'.val w1 hw
     rw [←e,eu] at this
     exact absurd hu this
   ·by_cases hw:(de s.aa w).kind=0
    ·have ew:=root w w1 w2 fun h=>free w h hw
     have:=c'.val u1 hu
     rw [e,ew] at this
     exact absurd hw this
    ·exact (k1 u w u1 w1 e hu hw).1
  ·rintro u w ⟨⟨⟨u1,u2⟩,w1,w2⟩,e⟩ i x y hx hy
   have rx:=(v.inv.args _ (fm u1)).2 x (ZK hx)
   have ry:=(v.inv.args _ (fm w1)).2 y (ZK hy)
   refine⟨⟨⟨c.rg x rx,c.id x rx⟩,c.rg y ry,c.id y ry⟩,?_⟩
   rw [k2 _ _ (c.rg x rx) rx (c.id x rx),k2 _ _ (c.rg y ry) ry (c.id y ry)]
   have no:∀n (i:Nat) (x:Int),Rg s.aa.length n→(de s.aa n).kind=0→(de s.aa n).args[i]? = some x→False:=fun n i x hn hk hx=>by
    have:=(v.vn n hn).1
    unfold fN at this
    rw [if_pos hk] at this
    simp only [ZF] at this
    rw [Ow this.2] at hx
    simp at hx
   exact (k1 u w u1 w1 e (fun h=>no u i x u1 h hx) (fun h=>no w i y w1 h hy)).2 i x y hx hy
  ·rw [k2 _ _ (c.rg a ra) ra (c.id a ra),k2 _ _ (c.rg b rb) rb (c.id b rb)]
   exact k3
 ·intro h
  have hT:Ic s a=Ic s b:=(xZ v.inv ra rb).2 h
  have Oz:ok=true:=by
   cases ok with
   | true=>rfl
   | false=>exact (E.no rfl _ (HK v) (DP v.inv) hT).elim
  obtain⟨k1,k2,k3,k4⟩:=E.yes Oz
  have hs:=k4 _ (HK v) (DP v.inv) hT
  refine⟨Oz,DQ.2 fun n hn hk=>?_⟩
  obtain⟨n1,n2⟩:=E.un.2.2.2.1 n hn
  have n1:Rg s.aa.length n:=by rw [←v.inv.len]; exact n1
  have n3:=E.un.2.2.2.2.2 n hn
  have hr:rp s.ae n=n:=mE n2
  have r1:=c'.rg n n1
  have r2:=c'.id n n1
  have hb:=hs _ _ r1 n1 r2
  have hb:=(xZ v.inv r1 n1).1 hb
  rw [hr] at hb
  have e:=hb.symm.var v hk
  have q1:=c'.bt n n1
  have q2:=c.bt (rp s'.ae n) r1
  rw [←e] at q2
  have e2:rp s'.ae n=n:=Bt.antisymm q1 q2
  apply n3
  have:=E.inv.ok.rt n (by rw [E.inv.len,eN]; exact n1)
  rwa [e2] at this
end
end Go.Proofs.Ytifafejidnjckaa
