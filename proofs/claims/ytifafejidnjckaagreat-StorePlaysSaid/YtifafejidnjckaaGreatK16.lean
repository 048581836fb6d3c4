/- Part of the proof: PV1, PA8, PA9, PA10, PA11, PA12, PC1, PC2, PC3, PC4, PC5, PU1, PU2, PB3, PB5, PB6. -/
import Derived.Test.YtifafejidnjckaaGreatK15
set_option linter.unusedVariables false
set_option linter.unusedSimpArgs false
set_option maxRecDepth 100000
open BEq renaming rfl → aj8
open Bool renaming and_eq_true → aiM, false_eq_true → aiW, not_true → ajA, true_and → ajC
open Int renaming toNat_natCast → aiP
open List renaming getElem?_eq_getElem → aiN, getElem?_eq_some_iff → aiO, mem_of_getElem? → aiS, length_append → aiT, mem_singleton → aiU, length_cons → aiX, length_map → aiY, drop_eq_getElem_cons → aiZ, getElem?_append_right → ai0, getD_eq_getElem?_getD → ai2, mem_append → ai3, length_nil → ai4, map_append → ai5, getElem?_append_left → ai6, append_assoc → ai7, getElem?_eq_none → ai8, map_cons → ai9, mem_cons → aja, take_succ_eq_append_getElem → ajb, mem_map → ajc, all_eq_true → ajd, getElem?_map → aje, mem_append_left → ajh, drop_zero → aji, length_take → ajo, take_length → ajr, eq_nil_of_length_eq_zero → ajs, getElem?_cons_zero → ajx, all_cons → ajB, idxOf_lt_length_of_mem → ajD, ext_getElem? → ajG, getElem?_of_mem → ajH, drop_eq_nil_of_le → ajL, set_append_right → ajM, range → ajP, nodup_append → ajS, map_congr_left → aj0, idxOf_append → aka, length_range → akh, mem_append_right → akq, getElem?_range → aku
open Nat renaming le_refl → aiQ, zero_le → ajm, le_trans → ajF, sub_self → ajI, add_sub_cancel_left → ajK
open Option renaming bind_some → aiI, map_some → aiR
open Option.some renaming injEq → aiL, inj → ajn
namespace Go.Proofs.YtifafejidnjckaaGreat
open Go Go.R
open Go.IntKind (i64 u64 u8 u32)
structure Ii (l k:List ak)(R:Int→Int→Prop):Prop where
 ti:∀i j,R i j→(0≤i∧i<l.length)∧0≤j∧j<k.length
 top:∀i j,R i j→Alike (nd l i) (nd k j)
 arg:∀i j,R i j→∀n,n<(nd l i).args.length→R (gt (nd l i).args n) (gt (nd k j).args n)
theorem Min.same {l:List ak}{c:List Int}(M:Min l c){a b:Int}(a0:0≤a)(a1:a<l.length)(b0:0≤b)(b1:b<l.length)(e:iL c a=iL c b) :
  Alike (nd l a) (nd l b)∧∀n,n<(nd l a).args.length→iL c (gt (nd l a).args n)=iL c (gt (nd l b).args n):=by
 have ea:((a.toNat:Nat):Int)=a:=by omega
 have eb:((b.toNat:Nat):Int)=b:=by omega
 have hA:=M.top a.toNat b.toNat om om e
 have hg:=M.arg a.toNat b.toNat om om e
 rw [ea,eb] at hA hg
 exact⟨hA,hg⟩
theorem Ii.swap {l k:List ak}{R:Int→Int→Prop}(S:Ii l k R):Ii k l fun j i=>R i j:=
 ⟨fun i j h=>⟨(S.ti j i h).2,(S.ti j i h).1⟩,fun i j h=>(S.top j i h).symm,fun i j h n hn=>S.arg j i h n (by have:=(S.top j i h).len; omega)⟩
theorem Ii.cls {l k:List ak}{R:Int→Int→Prop}(S:Ii l k R){c1 c2:List Int}(M1:Min l c1)(M2:Min k c2){i j i' j':Int}(h:R i j)(h':R i' j')(e:iL c1 i=iL c1 i'):iL c2 j=iL c2 j':=by
 have g:=S.ti _ _ h
 have g':=S.ti _ _ h'
 refine M2.max (fun a b=>∃i i':Int,R i a∧R i' b∧iL c1 i=iL c1 i') ⟨?_,?_,?_⟩ j.toNat j'.toNat ⟨i,i',by rwa [show ((j.toNat:Nat):Int)=j by omega],by rwa [show ((j'.toNat:Nat):Int)=j' by omega],e⟩
 ·rintro a b ⟨i,i',h,h',_⟩
  have:=S.ti _ _ h
  have:=S.ti _ _ h'
  omega
 ·rintro a b ⟨i,i',h,h',e⟩
  have g:=S.ti _ _ h
  have g':=S.ti _ _ h'
  exact ((S.top _ _ h).symm.trans (M1.same g.1.1 g.1.2 g'.1.1 g'.1.2 e).1).trans (S.top _ _ h')
 ·rintro a b ⟨i,i',h,h',e⟩ n hn
  have g:=S.ti _ _ h
  have g':=S.ti _ _ h'
  obtain⟨sA,sg⟩:=M1.same g.1.1 g.1.2 g'.1.1 g'.1.2 e
  have M9:n<(nd l i).args.length:=by have:=(S.top _ _ h).len; omega
  have k1:=S.arg _ _ h n M9
  have k2:=S.arg _ _ h' n (by have:=sA.len; omega)
  have r1:=(S.ti _ _ k1).2
  have r2:=(S.ti _ _ k2).2
  exact⟨_,_,by rwa [show (((gt (nd k a).args n).toNat:Nat):Int)=gt (nd k a).args n by omega],by rwa [show (((gt (nd k b).args n).toNat:Nat):Int)=gt (nd k b).args n by omega],sg n M9⟩
inductive Rl (R:Int→Int→Prop):List Int→List Int→Prop
 | nil:Rl R [] []
 | cons {a b:Int} {xs ys:List Int}:R a b→Rl R xs ys→Rl R (a::xs) (b::ys)
theorem Rl.app {R:Int→Int→Prop}{a b c d:List Int}(h:Rl R a b)(k:Rl R c d):Rl R (a++c) (b++d):=by
 induction h with
 | nil=>exact k
 | cons h _ ih=>exact .cons h ih
theorem Rl.len {R:Int→Int→Prop}{a b:List Int}(h:Rl R a b):a.length=b.length:=by
 induction h with
 | nil=>rfl
 | cons _ _ ih=>simp [ih]
theorem Rl.at {R:Int→Int→Prop}{a b:List Int}(h:Rl R a b):∀n,n<a.length→R (gt a n) (gt b n):=by
 induction h with
 | nil=>intro n hn; exact absurd hn (by simp)
 | cons h _ ih=>
  intro n hn
  cases n with
  | zero=>exact h
  | succ n=>exact ih n (by simpa using hn)
theorem Rl.of {R:Int→Int→Prop}:∀{a b:List Int},a.length=b.length→(∀n,n<a.length→R (gt a n) (gt b n))→Rl R a b
 | [],[],_,_=>.nil
 | [],_::_,h,_=>by simp at h
 | _::_,[],h,_=>by simp at h
 | x::a,y::b,h,k=>.cons (k 0 (by simp)) (Rl.of (by simpa using h) fun n hn=>k (n+1) (by simpa using hn))
section
variable {l k:List ak}{R:Int→Int→Prop}{c1 c2:List Int}
theorem Ii.mem (S:Ii l k R)(M1:Min l c1)(M2:Min k c2){v w:Int}(h:R v w){o o2:List Int}(ho:Rl R o o2):iL c1 v∈o.map (iL c1)↔iL c2 w∈o2.map (iL c2):=by
 induction ho with
 | nil=>simp
 | cons h' _ ih=>
  rw [ai9,ai9,aja,aja,ih]
  have z1:=S.cls M1 M2 h h'
  have z2:=S.swap.cls M2 M1 h h'
  constructor
  ·rintro (e | e)
   ·exact .inl (z1 e)
   ·exact .inr e
  ·rintro (e | e)
   ·exact .inl (z2 e)
   ·exact .inr e
theorem Ii.idx (S:Ii l k R)(M1:Min l c1)(M2:Min k c2){v w:Int}(h:R v w){o o2:List Int}(ho:Rl R o o2):idx c1 o v=idx c2 o2 w:=by
 unfold Go.Proofs.YtifafejidnjckaaGreat.idx
 congr 1
 induction ho with
 | nil=>rfl
 | @cons a b xs ys h' _ ih=>
  rw [ai9,ai9,List.idxOf_cons,List.idxOf_cons,ih]
  have h1:=S.cls M1 M2 h' h
  have h2:=S.swap.cls M2 M1 h' h
  by_cases e:iL c1 a=iL c1 v
  ·rw [e,h1 e]; simp
  ·have e2:¬iL c2 b=iL c2 w:=fun z=>e (h2 z)
   rw [show (iL c1 a==iL c1 v)=false from by simpa using e,show (iL c2 b==iL c2 w)=false from by simpa using e2]
theorem Ii.pre (S:Ii l k R)(M1:Min l c1)(M2:Min k c2){st o o':List Int}(h:AW (iL c1) (fun v=>(nd l v).args) st o o'):∀{mB o2:List Int},Rl R st mB→Rl R o o2→∃Qn,AW (iL c2) (fun v=>(nd k v).args) mB o2 Qn∧Rl R o' Qn:=by
 induction h with
 | nil o=>intro mB o2 hs ho; cases hs; exact⟨o2,.nil _,ho⟩
 | skip hm _ ih=>
  intro mB o2 hs ho
  cases hs with
  | cons h hs=>
   obtain⟨Qn,k1,k2⟩:=ih hs ho
   exact⟨Qn,.skip ((S.mem M1 M2 h ho).1 hm) k1,k2⟩
 | push hn _ ih=>
  intro mB o2 hs ho
  cases hs with
  | cons h hs=>
   obtain⟨Qn,k1,k2⟩:=ih ((Rl.of (S.top _ _ h).len (S.arg _ _ h)).app hs) (ho.app (.cons h .nil))
   exact⟨Qn,.push (fun z=>hn ((S.mem M1 M2 h ho).2 z)) k1,k2⟩
end
theorem R6 {c O:List Int}{a b:Int}(h:iL c a=iL c b):idx c O a=idx c O b:=by unfold idx; rw [h]
theorem Vz {f:Int→Int}{a b:List Int}{g:Int→Int}(hl:a.length=b.length)(h:∀n,n<a.length→f (gt a n)=g (gt b n)):a.map f=b.map g:=by
 apply ajG fun n=>?_
 simp only [aje]
 by_cases hn:n<a.length
 ·rw [cz hn,cz om]; simp only [aiR,h n hn]
 ·rw [ai8 om,ai8 om]; rfl
theorem Mb {m:Nat}(hm:2 ^ 41≤m){t u:bh}(ht:iH t=true)(hu:iH u=true){R:Int→Int→Prop}(S:Ii t.nodes u.nodes R)(hr:R t.root u.root):∃s,fM.f m t=some s∧fM.f m u=some s:=by
 have yG:(2:Nat) ^ 41=2199023255552:=by decide
 obtain⟨MD,_,r0,r1,_⟩:=lF ht
 obtain⟨ok2,_,q0,q1,_⟩:=lF hu
 obtain⟨c1,n1,e1,M1,Q1,_⟩:=qJ hm ht
 obtain⟨c2,n2,e2,M2,Q2,_⟩:=qJ hm hu
 have l1:=MD.1
 have l2:=ok2.1
 have P1:=vN (cls:=c1) MD m t.root [] [] _ r0 r1 ⟨by simp,fun x hx=>by cases hx⟩ (by simp; omega) (.nil _)
 have P2:=vN (cls:=c2) ok2 m u.root [] [] _ q0 q1 ⟨by simp,fun x hx=>by cases hx⟩ (by simp; omega) (.nil _)
 obtain⟨Qn,k1,k2⟩:=S.pre M1 M2 P1 (.cons hr .nil) .nil
 have:=k1.det P2
 subst this
 generalize hO1:xQ c1 t.nodes m t.root []=O1 at *
 generalize hO2:xQ c2 u.nodes m u.root []=O2 at *
 have hl:=k2.len
 have w1:=Q1.len
 have w2:=Q2.len
 have hn:n1=n2:=by
  apply ajG fun q=>?_
  by_cases hq:q<O1.length
  ·rw [Q1.new q (by simp) hq,Q2.new q (by simp) om]
   have h:=k2.at q hq
   have A:=S.top _ _ h
   unfold BA
   rw [A.kind,A.int,A.label,Vz A.len fun n hn=>S.idx M1 M2 (S.arg _ _ h n hn) k2]
  ·rw [ai8 om,ai8 om]
 subst hn
 exact⟨_,e1,e2⟩
theorem Ij {n:ak}{a b:Int}{f:Int→Int}(h:gD n a=true)(hf:∀x∈n.args,0≤f x∧f x<b):gD ⟨n.kind,n.int,n.label,n.args.map f⟩ b=true:=by
 unfold gD at h ⊢
 have he:(n.args.map f).isEmpty=n.args.isEmpty:=by cases n.args<;>rfl
 dsimp only
 rw [he,aiY]
 have ha:((n.args.map f).all fun a=>decide (0≤a)&&decide (a<b))=true:=by
  rw [ajd]
  intro x hx
  obtain⟨y,hy,rfl⟩:=ajc.1 hx
  have:=hf y hy
  simp only [aiM,decide_eq_true_eq]; exact this
 rw [ha]
 split<;>rename_i h0
 ·rw [if_pos h0] at h; exact h
 ·rw [if_neg h0] at h
  split<;>rename_i h1
  ·rw [if_pos h1] at h; exact h
  ·rw [if_neg h1] at h
   split<;>rename_i h2
   ·rw [if_pos h2] at h; exact h
   ·rw [if_neg h2] at h
    split<;>rename_i h3
    ·rw [if_pos h3] at h
     simp only [aiM] at h ⊢
     exact⟨h.1,trivial⟩
    ·rw [if_neg h3] at h
     exact h
theorem Cu {m:Nat}(hm:2 ^ 41≤m){t:bh}(ht:iH t=true):∃s R,fM.f m t=some s∧iH s=true∧s.nodes.length≤t.nodes.length∧Ii t.nodes s.nodes R∧R t.root s.root:=by
 have yG:(2:Nat) ^ 41=2199023255552:=by decide
 obtain⟨ok,_,r0,r1,_⟩:=lF ht
 obtain⟨c,ns,e,M,Q,hr⟩:=qJ hm ht
 have l1:=ok.1
 have fv:=ht
 unfold iH at fv
 simp only [aiM,decide_eq_true_eq] at fv
 generalize hO:xQ c t.nodes m t.root []=O at *
 have Cr:=Q.vs.Cr
 have hlen:=Q.len
 have oP:0<O.length:=by cases O with | nil=>simp at hr | cons _ _=>simp
 have Ie:∀q:Nat,q<O.length→nd ns (q:Int)=BA c t.nodes O (gt O q):=fun q hq=>by
  have:=Q.new q (by simp) hq
  unfold nd
  rw [aiP,ai2,this]; rfl
 have Zq:∀{v:Int},iL c v∈O.map (iL c)→0≤idx c O v∧idx c O v<O.length∧iL c (gt O (idx c O v).toNat)=iL c v:=fun {v} hv=>by
  have h1:=ajD hv
  have h2:=List.getElem_idxOf h1
  rw [aiY] at h1
  unfold idx
  refine⟨om,om,?_⟩
  rw [aiP]
  have h3:=aiN (l:=O.map (iL c)) (i:=(O.map (iL c)).idxOf (iL c v)) (by rw [aiY]; exact h1)
  rw [h2,aje,cz h1] at h3
  exact ajn h3
 refine⟨⟨ns,0⟩,fun i j=>(0≤i∧i<t.nodes.length)∧iL c i∈O.map (iL c)∧j=idx c O i,e,?_,by show ns.length≤_; omega,⟨?_,?_,?_⟩,⟨r0,r1⟩,hr,?_⟩
 ·unfold iH
  simp only [aiM,decide_eq_true_eq]
  refine⟨⟨⟨⟨om,om⟩,om⟩,om⟩,?_⟩
  rw [ajd]
  intro x hx
  obtain⟨q,hq,e2⟩:=List.getElem_of_mem hx
  have h1:=Q.new q (by simp) om
  rw [aiN hq,e2] at h1
  have h1:=ajn h1
  subst h1
  have IX:=Q.vs.ti _ (bC (l:=O) (k:=q) om)
  refine Ij (ajd.1 fv.2 _ (jE IX.1 IX.2)) fun a ha=>?_
  have:=Zq (Q.arg q (by simp) om a ha)
  omega
 ·rintro i j ⟨h1,h2,rfl⟩
  have:=Zq h2
  exact⟨h1,by show 0≤_∧_<(ns.length:Int); omega⟩
 ·rintro i j ⟨h1,h2,rfl⟩
  obtain⟨a,b,d⟩:=Zq h2
  have IX:=Q.vs.ti _ (bC (l:=O) (k:=(idx c O i).toNat) om)
  have hx:=Ie (idx c O i).toNat om
  rw [show (((idx c O i).toNat:Nat):Int)=idx c O i by omega] at hx
  rw [hx]
  have A:=(M.same h1.1 h1.2 IX.1 IX.2 d.symm).1
  exact⟨A.kind,A.int,A.label,by show _=(List.map _ _).length; rw [aiY]; exact A.len⟩
 ·rintro i j ⟨h1,h2,rfl⟩ n hn
  obtain⟨a,b,d⟩:=Zq h2
  have IX:=Q.vs.ti _ (bC (l:=O) (k:=(idx c O i).toNat) om)
  have hx:=Ie (idx c O i).toNat om
  rw [show (((idx c O i).toNat:Nat):Int)=idx c O i by omega] at hx
  rw [hx]
  obtain⟨A,hg⟩:=M.same h1.1 h1.2 IX.1 IX.2 d.symm
  have Na:n<(nd t.nodes (gt O (idx c O i).toNat)).args.length:=by have:=A.len; omega
  have hg:=hg n hn
  have hin:=Q.arg (idx c O i).toNat (by simp) om _ (bC Na)
  refine⟨(ok.2 _ (jE h1.1 h1.2)).2 _ (bC hn),by rw [hg]; exact hin,?_⟩
  have e1:gt (BA c t.nodes O (gt O (idx c O i).toNat)).args n=idx c O (gt (nd t.nodes (gt O (idx c O i).toNat)).args n):=by
   have h3:=cz (l:=(BA c t.nodes O (gt O (idx c O i).toNat)).args) (k:=n) (by show n<(List.map _ _).length; rw [aiY]; exact Na)
   have h4:(BA c t.nodes O (gt O (idx c O i).toNat)).args[n]? = some (idx c O (gt (nd t.nodes (gt O (idx c O i).toNat)).args n)):=by
    show (List.map _ _)[n]? = _
    rw [aje,cz Na]; rfl
   rw [h4] at h3; exact (ajn h3).symm
  rw [e1]
  exact R6 hg.symm
 ·show (0:Int)=idx c O t.root
  have P1:=vN (cls:=c) ok m t.root [] [] _ r0 r1 ⟨by simp,fun x hx=>by cases hx⟩ (by simp; omega) (.nil _)
  rw [hO] at P1
  cases P1 with
  | skip h _=>simp at h
  | push _ k=>
   obtain⟨⟨T,e⟩,_⟩:=k.facts (n:=t.nodes.length) (fun v a b=>(ok.2 _ (jE a b)).2) (fun v hv=>by
    rcases ai3.1 hv with hv | hv
    ·exact (ok.2 _ (jE r0 r1)).2 v hv
    ·cases hv) (fun v hv=>by simp at hv; subst hv; exact⟨r0,r1⟩) (by simp)
   rw [e]
   unfold idx
   simp
end Go.Proofs.YtifafejidnjckaaGreat
namespace Go.Uf
open Go Go.R
open Go.IntKind (i64 u64 u8 u32)
def gK (a L:Nat):List Int:=(ajP L).map fun i=>((a+i:Nat):Int)
theorem oz (a L:Nat):(gK a L).length=L:=by simp [gK]
theorem Cv (a L:Nat):gK a (L+1)=gK a L++[((a+L:Nat):Int)]:=by
 unfold gK; rw [List.range_succ,ai5]; rfl
theorem Ik {to:List Int}(o:Ql to):∀L,Ql (to++gK to.length L)∧(∀n,Rg to.length n→rp (to++gK to.length L) n=rp to n)∧∀n:Int,(to.length:Int)≤n→n<to.length+L→rp (to++gK to.length L) n=n
 | 0=>⟨by simpa [gK] using o,fun n _=>by simp [gK],fun n h1 h2=>by omega⟩
 | L+1=>by
  obtain⟨a,b,c⟩:=Ik o L
  have hl:(to++gK to.length L).length=to.length+L:=by rw [aiT,oz]
  have e:to++gK to.length (L+1)=(to++gK to.length L)++[(((to++gK to.length L).length:Nat):Int)]:=by
   rw [Cv,←ai7,hl]
  obtain⟨g1,g2,g3⟩:=Yl a
  rw [←e] at g1 g2 g3
  refine⟨g1,fun n h=>?_,fun n h1 h2=>?_⟩
  ·rw [g2 n (by unfold Rg at h ⊢; rw [hl]; omega),b n h]
  ·by_cases h:n=to.length+L
   ·have:n=(((to++gK to.length L).length:Nat):Int):=by rw [hl]; omega
    rw [this]; exact g3
   ·rw [g2 n (by unfold Rg; rw [hl]; omega)]
    exact c n h1 om
theorem qK {N V:List ak}{n:Int}(h:Rg N.length n):dI (N++V) n=dI N n:=by
 have hl:n.toNat<N.length:=by have:=h.1; have:=h.2; omega
 unfold dI
 rw [ai2,ai2,ai6 hl]
end Go.Uf
namespace Go.Proofs.YtifafejidnjckaaGreat
open Go Go.R Go.Uf
open Go.IntKind (i64 u64 u8 u32)
def acw (s s':ae):Prop:=s.aa.length≤s'.aa.length∧(∀n,Rg s.aa.length n→kj s.aa (rp s.an n)→mr (dI s.aa (rp s.an n)) (dI s'.aa (rp s'.an n)))∧(∀n,Rg s.aa.length n→dI s'.aa n=dI s.aa n)∧iN s.aa (rp s.an) (rp s'.an)
theorem mr.refl (a:ak):mr a a:=⟨rfl,rfl,rfl,rfl⟩
theorem xi {n:ak}{size AX z:Int}(h:gD n size=true)(f:Int→Int)(hf:∀a∈n.args,0≤f a∧f a<AX)(h0:n.kind=0→0≤z)(h1:n.kind≠0→z=n.int):gD ⟨n.kind,z,n.label,n.args.map f⟩ AX=true:=by
 unfold gD at h ⊢
 simp only at h ⊢
 by_cases k0:n.kind=0
 ·rw [if_pos k0] at h ⊢
  simp only [aiM,decide_eq_true_eq,List.isEmpty_map] at h ⊢
  exact⟨⟨h0 k0,h.1.2⟩,h.2⟩
 ·have hz:=h1 k0
  subst hz
  rw [if_neg k0] at h ⊢
  split at h
  ·rename_i k1; rw [if_pos k1]; simpa using h
  ·rename_i k1; rw [if_neg k1]
   split at h
   ·rename_i k2; rw [if_pos k2]; simpa using h
   ·rename_i k2; rw [if_neg k2]
    split at h
    ·rename_i k3; rw [if_pos k3]
     simp only [aiM,decide_eq_true_eq,ajd,aiY,ajc] at h ⊢
     refine⟨h.1,?_⟩
     rintro x ⟨a,ha,rfl⟩
     exact hf a ha
    ·rename_i k3; rw [if_neg k3]
     split at h
     ·rename_i k4; rw [if_pos k4]; simpa using h
     ·cases h
theorem Gl {n:ak}{size AX:Int}(h:gD n size=true)(hs:size≤AX):gD n AX=true:=by
 have:=xi (AX:=AX) (z:=n.int) h id (fun a ha=>by have:=(np h).2 a ha; simp only [id]; omega) (fun k=>by
  unfold gD at h; rw [if_pos k] at h; simp only [aiM,decide_eq_true_eq] at h; exact h.1.1) (fun _=>rfl)
 rwa [List.map_id] at this
section
variable {m:Nat}{s:ae}
theorem Inv2.more (v:Inv2 s)(V:List ak)(hW:∀(i:Nat) x,V[i]? = some x→gD x ((s.aa.length+V.length:Nat):Int)=true∧(x.kind=0→x.int=((s.aa.length+i:Nat):Int)))(hl:s.aa.length+V.length≤8000) :
  Inv2 ⟨s.ay,s.aa++V,s.an++gK s.aa.length V.length⟩∧acw s ⟨s.ay,s.aa++V,s.an++gK s.aa.length V.length⟩:=by
 have hlen:=v.inv.len
 have hV:∀x∈V,x.args.length≤8∧∀a∈x.args,Rg (s.aa.length+V.length) a:=fun x hx=>by
  obtain⟨i,hi⟩:=ajH hx
  obtain⟨T,ha⟩:=np (hW i x hi).1
  exact⟨T.args,fun a h=>by have:=ha a h; unfold Rg; omega⟩
 obtain⟨g1,g2,g3⟩:=Ik v.inv.ok V.length
 rw [hlen] at g1 g2 g3
 have hN:(s.aa++V).length=s.aa.length+V.length:=aiT
 have hc:∀n,Rg (s.aa++V).length n→Rg s.aa.length n∨((s.aa.length:Int)≤n∧n<s.aa.length+V.length):=fun n h=>by
  rw [hN] at h; unfold Rg at h ⊢; omega
 have up:∀n,Rg s.aa.length n→Rg (s.aa++V).length n:=fun n h=>by rw [hN]; unfold Rg at h ⊢; omega
 have old:∀n,Rg s.aa.length n→rp (s.an++gK s.aa.length V.length) n=rp s.an n:=g2
 have new:∀n:Int,(s.aa.length:Int)≤n→n<s.aa.length+V.length→rp (s.an++gK s.aa.length V.length) n=n:=g3
 refine⟨⟨⟨v.inv.made,?_,by show (s.aa++V).length≤8000; omega,g1,⟨fun n h=>?_,fun n h=>?_,fun n h=>?_⟩,?_⟩,?_,?_⟩,?_,fun n h hv=>?_,fun n h=>qK h,fun x y hx hy h=>?_⟩
 ·show (_++_:List Int).length=_
  rw [aiT,oz,hN,hlen]
 ·show Rg _ (rp (s.an++gK s.aa.length V.length) n)
  rcases hc n h with h | ⟨h1,h2⟩
  ·rw [old n h]; exact up _ (v.inv.cn.rg n h)
  ·rw [new n h1 h2]; exact h
 ·show rp (s.an++_) (rp (s.an++gK s.aa.length V.length) n)=rp (s.an++_) n
  rcases hc n h with h | ⟨h1,h2⟩
  ·rw [old n h,old _ (v.inv.cn.rg n h),v.inv.cn.id n h]
  ·rw [new n h1 h2,new n h1 h2]
 ·show Bt (s.aa++V) (rp (s.an++gK s.aa.length V.length) n) n
  rcases hc n h with h | ⟨h1,h2⟩
  ·rw [old n h]
   have:=v.inv.cn.bt n h
   unfold Bt kj at this ⊢
   rw [qK h,qK (v.inv.cn.rg n h)]; exact this
  ·rw [new n h1 h2]; exact Bt.refl
 ·intro x hx
  rcases ai3.1 hx with hx | hx
  ·obtain⟨a1,a2⟩:=v.inv.args x hx
   exact⟨a1,fun a ha=>up a (a2 a ha)⟩
  ·obtain⟨a1,a2⟩:=hV x hx
   exact⟨a1,fun a ha=>by show Rg (s.aa++V).length a; rw [hN]; exact a2 a ha⟩
 ·intro x y hx hy he vx vy
  have he:rp (s.an++gK s.aa.length V.length) x=rp (s.an++gK s.aa.length V.length) y:=he
  rcases hc x hx with hx1 | ⟨x1,x2⟩<;>rcases hc y hy with Wj | ⟨y1,y2⟩
  ·rw [old x hx1,old y Wj] at he
   have wx:dI (s.aa++V) x=dI s.aa x:=qK hx1
   have wy:dI (s.aa++V) y=dI s.aa y:=qK Wj
   have vx':kj s.aa x:=by unfold kj at vx ⊢; rw [←wx]; exact vx
   have vy':kj s.aa y:=by unfold kj at vy ⊢; rw [←wy]; exact vy
   obtain⟨t,q⟩:=v.cl x y hx1 Wj he vx' vy'
   show mr (dI (s.aa++V) x) (dI (s.aa++V) y)∧∀(i:Nat) (a b:Int),(dI (s.aa++V) x).args[i]? = some a→(dI (s.aa++V) y).args[i]? = some b→rp (s.an++gK s.aa.length V.length) a=rp (s.an++gK s.aa.length V.length) b
   rw [wx,wy]
   refine⟨t,fun i a b ha hb=>?_⟩
   rw [old a ((v.inv.args _ (iF hx1)).2 a (aiS ha)),old b ((v.inv.args _ (iF Wj)).2 b (aiS hb))]
   exact q i a b ha hb
  ·rw [old x hx1,new y y1 y2] at he
   have:=(v.inv.cn.rg x hx1).2
   omega
  ·rw [old y Wj,new x x1 x2] at he
   have:=(v.inv.cn.rg y Wj).2
   omega
  ·rw [new x x1 x2,new y y1 y2] at he
   subst he
   refine⟨mr.refl _,fun i a b ha hb=>?_⟩
   rw [ha] at hb; cases hb; rfl
 ·intro n h
  show gD (dI (s.aa++V) n) ((s.aa++V).length:Int)=true∧((dI (s.aa++V) n).kind=0→(dI (s.aa++V) n).int=n)
  rcases hc n h with h3 | ⟨h1,h2⟩
  ·rw [qK h3,hN]
   exact⟨Gl (v.vn n h3).1 om,(v.vn n h3).2⟩
  ·have hg:=D6 h
   obtain⟨i,rfl⟩:∃i:Nat,n=((s.aa.length+i:Nat):Int):=⟨(n - s.aa.length).toNat,om⟩
   have hg:(s.aa++V)[s.aa.length+i]? = some (dI (s.aa++V) ((s.aa.length+i:Nat):Int)):=hg
   rw [ai0 om,ajK] at hg
   rw [hN]
   exact hW i _ hg
 ·show s.aa.length≤(s.aa++V).length
  omega
 ·show mr _ (dI (s.aa++V) (rp (s.an++gK s.aa.length V.length) n))
  rw [old n h,qK (v.inv.cn.rg n h)]
  exact mr.refl _
 ·show rp (s.an++gK s.aa.length V.length) x=rp (s.an++gK s.aa.length V.length) y
  rw [old x hx,old y hy]; exact h
end
section
variable {m:Nat}{s:ae}
theorem Pz {v:ak}(a8:v.args.length≤8)(aR:∀a∈v.args,0≤a∧a<8000)(hN:s.aa.length≤8000)(s2:ae):∀(k i:Nat),i≤v.args.length→v.args.length - i<k→
  aT.l1 m s v k (i:Int) ((v.args.take i).map (· + (s.aa.length:Int))++v.args.drop i) s2=some ((v.args.length:Int),v.args.map (· + (s.aa.length:Int)),s2)∧
  aT.l2 m s v k (i:Int) ((v.args.take i).map (· + (s.aa.length:Int))++v.args.drop i) s2=some ((v.args.length:Int),v.args.map (· + (s.aa.length:Int)),s2)
 | 0,i,h1,h2=>by omega
 | k+1,i,h1,h2=>by
  simp only [aT.l1,aT.l2]
  by_cases hi:i<v.args.length
  ·have d:decide ((i:Int)<(v.args.length:Int))=true:=by rw [decide_eq_true_eq]; omega
   have hl:((v.args.take i).map (· + (s.aa.length:Int))).length=i:=by rw [aiY,ajo]; omega
   have ed:v.args.drop i=v.args[i]::v.args.drop (i+1):=aiZ hi
   have et:v.args.take (i+1)=v.args.take i++[v.args[i]]:=ajb hi
   have eg:((v.args.take i).map (· + (s.aa.length:Int))++v.args.drop i)[i]? = some v.args[i]:=by
    rw [ai0 om,hl,ajI,ed]; rfl
   have es:((v.args.take i).map (· + (s.aa.length:Int))++v.args.drop i).set i (v.args[i]+(s.aa.length:Int))=(v.args.take (i+1)).map (· + (s.aa.length:Int))++v.args.drop (i+1):=by
    rw [ajM _ _ om,hl,ajI,ed,et,ai5,ai7]; rfl
   obtain⟨b1,b2⟩:=aR v.args[i] (List.getElem_mem hi)
   have ew:i64.wrap ((i:Int)+1)=((i+1:Nat):Int):=by rw [kh om om]; omega
   have ev:i64.wrap (v.args[i]+(s.aa.length:Int))=v.args[i]+(s.aa.length:Int):=kh om om
   rw [if_pos d,if_pos d,tJ eg]
   simp only [aiI,ew,ev,aiP,es]
   exact Pz a8 aR hN s2 k (i+1) om om
  ·have d:decide ((i:Int)<(v.args.length:Int))=false:=by rw [decide_eq_false_iff_not]; omega
   have e:i=v.args.length:=by omega
   rw [if_neg (by rw [d]; decide),if_neg (by rw [d]; decide),e]
   simp
end
section
variable {m:Nat}{s:ae}
def Small (l:List cF):Prop:=l.length≤60∧∀x∈l,x.iT.length≤40
theorem Gm (l:List cF)(hl:l.length<2 ^ 63):∀(k i:Nat),i≤l.length→l.length - i<k→(∃b,db.l0 m l k (i:Int)=some (.inl b)∧b=true)∨(∃z,db.l0 m l k (i:Int)=some (.inr z)∧∀j,i≤j→∀x,l[j]? = some x→x.iT.length≤40)
 | 0,i,h1,h2=>by omega
 | k+1,i,h1,h2=>by
  have p50:(2:Nat) ^ 63=9223372036854775808:=by decide
  simp only [db.l0]
  by_cases hi:i<l.length
  ·have d:decide ((i:Int)<(l.length:Int))=true:=by rw [decide_eq_true_eq]; omega
   have eg:=aiN hi
   generalize l[i]=n at eg
   have ew:i64.wrap ((i:Int)+1)=((i+1:Nat):Int):=by rw [kh om om]; omega
   rw [if_pos d,tJ eg]
   simp only [aiI,ew]
   split
   ·exact .inl ⟨_,rfl,rfl⟩
   split
   ·exact .inl ⟨_,rfl,rfl⟩
   rename_i h40
   rcases Gm l hl k (i+1) om om with h | ⟨z,e,h⟩
   ·exact .inl h
   ·refine .inr ⟨z,e,fun j hj x hx=>?_⟩
    by_cases hji:j=i
    ·subst hji
     rw [eg] at hx; cases hx
     simp only [decide_eq_true_eq] at h40; omega
    ·exact h j om x hx
  ·have d:decide ((i:Int)<(l.length:Int))=false:=by rw [decide_eq_false_iff_not]; omega
   rw [if_neg (by rw [d]; decide)]
   refine .inr ⟨_,rfl,fun j hj x hx=>?_⟩
   rw [ai8 om] at hx; cases hx
theorem R7 (hm:2 ^ 63≤m)(l:List cF)(hl:l.length<2 ^ 63):∃b,db.f m l=some b∧(b=false→Small l):=by
 have p50:(2:Nat) ^ 63=9223372036854775808:=by decide
 have p51:(2:Nat) ^ 63=9223372036854775808:=by decide
 unfold db.f
 rcases Gm (m:=m) l hl m 0 (ajm _) om with⟨b,e,rfl⟩| ⟨z,e,h⟩
 ·have e:db.l0 m l m 0=_:=e
  rw [e]
  exact⟨true,rfl,fun h=>by cases h⟩
 ·have e:db.l0 m l m 0=_:=e
  rw [e]
  refine⟨_,rfl,fun hb=>⟨?_,fun x hx=>?_⟩⟩
  ·simp only [decide_eq_false_iff_not] at hb; omega
  ·obtain⟨j,hj⟩:=ajH hx
   exact h j (ajm _) x hj
theorem R8:Inv2 ⟨true,[],[]⟩:=by
 have no:∀(P:Int→Prop) (n:Int),Rg ([]:List ak).length n→P n:=fun P n h=>by have:=h.1; have:=h.2; simp at this; omega
 exact⟨⟨rfl,rfl,by simp,RM,⟨fun n h=>no _ n h,fun n h=>no _ n h,fun n h=>no _ n h⟩,fun v h=>by simp at h⟩,fun x y hx=>(no (fun _=>False) x hx).elim,fun n h=>(no (fun _=>False) n h).elim⟩
def gE (s:ae):List Int:=(ajP s.aa.length).map fun (i:Nat)=>rp s.an (i:Int)
theorem KC (a:List Int)(hl:a.length<2 ^ 63):∀(k i:Nat),i≤a.length→a.length - i<k→dq.l0 m a a k (i:Int)=some (.inr (a.length:Int))
 | 0,i,h1,h2=>by omega
 | k+1,i,h1,h2=>by
  have p50:(2:Nat) ^ 63=9223372036854775808:=by decide
  simp only [dq.l0]
  by_cases hi:i<a.length
  ·have d:decide ((i:Int)<(a.length:Int))=true:=by rw [decide_eq_true_eq]; omega
   have ew:i64.wrap ((i:Int)+1)=((i+1:Nat):Int):=by rw [kh om om]; omega
   rw [if_pos d,tJ (aiN hi)]
   simp only [aiI,ew,aj8,ajA,aiW,if_false]
   exact KC a hl k (i+1) om om
  ·have d:decide ((i:Int)<(a.length:Int))=false:=by rw [decide_eq_false_iff_not]; omega
   have e:i=a.length:=by omega
   rw [if_neg (by rw [d]; decide),e]
theorem sW (a:List Int)(hl:a.length<2 ^ 63)(hm:2 ^ 63≤m):dq.f m a a=some true:=by
 have p50:(2:Nat) ^ 63=9223372036854775808:=by decide
 have p51:(2:Nat) ^ 63=9223372036854775808:=by decide
 have:=KC (m:=m) a hl m 0 (ajm _) om
 have this:dq.l0 m a a m 0=_:=this
 simp only [dq.f,aj8,ajA,aiW,if_false,this,aiI]
theorem VA (v:Inv s):fP.f m s=some (s.aa.length:Int):=by
 simp only [fP.f,cH.f,v.made,aiI,ajA,aiW,if_false]
theorem R9 (v:Inv s):ff.f m s=some (some s,s):=by
 have n3:=v.max
 have n2:=v.len
 have h1:GW 4 s.aa=some s.aa:=by unfold GW; rw [if_pos om]
 have h2:GW 1 s.an=some s.an:=by unfold GW; rw [if_pos om]
 have h3:(⟨true,s.aa,s.an⟩:ae)=s:=xf v.made.symm rfl rfl
 simp only [ff.f,cH.f,v.made,aiI,ajA,aiW,if_false,h1,h2,h3]
end
section
variable {m:Nat}{s:ae}
theorem qL {n:Int}(h:Rg s.aa.length n):ix (gE s) n=some (rp s.an n):=by
 have hl:n.toNat<s.aa.length:=by have:=h.1; have:=h.2; omega
 have hn:((n.toNat:Nat):Int)=n:=by have:=h.1; omega
 unfold ix gE
 rw [if_pos h.1,aje,aku hl,aiR,hn]
theorem hX:(gE s).length=s.aa.length:=by unfold gE; rw [aiY,akh]
end
section
variable {m:Nat}{s:ae}
theorem Gn (hm:16000≤m)(v:Inv s){l:List Int}(h8:l.length≤8)(hr:∀a∈l,Rg s.aa.length a):∀(k i:Nat),i≤l.length→l.length - i<k→bQ.l0 m s l k ((l.take i).map (rp s.an)++l.drop i) (i:Int)=some (l.map (rp s.an),(l.length:Int))
 | 0,i,h1,h2=>by omega
 | k+1,i,h1,h2=>by
  simp only [bQ.l0]
  by_cases hi:i<l.length
  ·have d:decide ((i:Int)<(l.length:Int))=true:=by rw [decide_eq_true_eq]; omega
   have hl:((l.take i).map (rp s.an)).length=i:=by rw [aiY,ajo]; omega
   have ed:l.drop i=l[i]::l.drop (i+1):=aiZ hi
   have et:l.take (i+1)=l.take i++[l[i]]:=ajb hi
   have eg:((l.take i).map (rp s.an)++l.drop i)[i]? = some l[i]:=by
    rw [ai0 om,hl,ajI,ed]; rfl
   have es:((l.take i).map (rp s.an)++l.drop i).set i (rp s.an l[i])=(l.take (i+1)).map (rp s.an)++l.drop (i+1):=by
    rw [ajM _ _ om,hl,ajI,ed,et,ai5,ai7]; rfl
   have ew:i64.wrap ((i:Int)+1)=((i+1:Nat):Int):=by rw [kh om om]; omega
   rw [if_pos d,tJ eg]
   simp only [aiI,AI hm v (hr _ (List.getElem_mem hi)),ew,aiP,es]
   exact Gn hm v h8 hr k (i+1) om om
  ·have d:decide ((i:Int)<(l.length:Int))=false:=by rw [decide_eq_false_iff_not]; omega
   have e:i=l.length:=by omega
   rw [if_neg (by rw [d]; decide),e]
   simp
def nT (s:ae)(r:Int):ak:=⟨(dI s.aa r).kind,(dI s.aa r).int,(dI s.aa r).label,(dI s.aa r).args.map (rp s.an)⟩
theorem KD (hm:16000≤m)(v:Inv s){n:Int}(h:Rg s.aa.length n):bQ.f m s n=some (nT s n):=by
 obtain⟨a1,a2⟩:=v.args _ (iF h)
 have hc:GW 1 (dI s.aa n).args=some (dI s.aa n).args:=by unfold GW; rw [if_pos om]
 have:=Gn (m:=m) hm v a1 a2 m 0 (ajm _) om
 have this:bQ.l0 m s (dI s.aa n).args m (dI s.aa n).args 0=_:=this
 simp only [bQ.f,mS h,aiI,hc,this]
 rfl
theorem Sa (hm:2000000≤m)(v:Inv s)(n:Int):fk.f m s n=some (if Rg s.aa.length n then (nT s (rp s.an n),0) else (⟨0,0,⟨#[]⟩,[]⟩,1)):=by
 unfold fk.f
 rw [sS hm v.made [n] (by simp)]
 by_cases h:Rg s.aa.length n
 ·simp [h,AI (m:=m) om v h,KD (m:=m) om v (v.cn.rg n h)]
 ·simp [h]
end
end Go.Proofs.YtifafejidnjckaaGreat
namespace Go.Uf
open Go Go.R
open Go.IntKind (i64 u64 u8 u32)
theorem KE (l:List (Int × Bool))(k x:Int)(v:Bool):(Bq (HG l k v) x).1=if x=k then v else (Bq l x).1:=by
 induction l with
 | nil=>
  simp only [HG,Bq]
  split<;>rfl
 | cons p l ih=>
  obtain⟨a,b⟩:=p
  simp only [HG]
  by_cases h:k=a
  ·subst h
   rw [if_pos rfl]
   simp only [Bq]
   by_cases hx:x=k
   ·rw [if_pos hx,if_pos hx]
   ·rw [if_neg hx,if_neg hx,if_neg hx]
  ·rw [if_neg h]
   simp only [Bq]
   by_cases hx:x=a
   ·rw [if_pos hx,if_pos hx]
    have:¬x=k:=by omega
    rw [if_neg this]
   ·rw [if_neg hx,if_neg hx,ih]
theorem Sd (l:List (Int × Int))(k x:Int)(v:Int):(qX (Es l k v) x).1=if x=k then v else (qX l x).1:=by
 induction l with
 | nil=>
  simp only [Es,qX]
  split<;>rfl
 | cons p l ih=>
  obtain⟨a,b⟩:=p
  simp only [Es]
  by_cases h:k=a
  ·subst h
   rw [if_pos rfl]
   simp only [qX]
   by_cases hx:x=k
   ·rw [if_pos hx,if_pos hx]
   ·rw [if_neg hx,if_neg hx,if_neg hx]
  ·rw [if_neg h]
   simp only [qX]
   by_cases hx:x=a
   ·rw [if_pos hx,if_pos hx]
    have:¬x=k:=by omega
    rw [if_neg this]
   ·rw [if_neg hx,if_neg hx,ih]
end Go.Uf
namespace Go.Proofs.YtifafejidnjckaaGreat
open Go Go.R Go.Uf
open Go.IntKind (i64 u64 u8 u32)
inductive Se (N:List ak)(R:Int→Int)(r:Int):Int→Prop
 | refl:Se N R r r
 | step {x a:Int}:Se N R r x→a∈(dI N x).args→Se N R r (R a)
def SI (out:List Int)(seen:List (Int × Bool)):Prop:=∀x,(Bq seen x).1=true↔x∈out
structure RI (s:ae)(r:Int)(out:List Int):Prop where
 nd:out.Nodup
 rt:∀x∈out,Rg s.aa.length x∧rp s.an x=x∧Se s.aa (rp s.an) r x
 hd:out[0]? = some r
section
variable {m:Nat}{s:ae}{r:Int}
theorem RI.Cr {out:List Int}(h:RI s r out):out.length≤s.aa.length:=nS h.nd fun x hx=>(h.rt x hx).1
theorem AY (hm:16000≤m)(v:Inv s){y:Int}(hy:Rg s.aa.length y)(hr:Se s.aa (rp s.an) r y):∀(k i:Nat) (out:List Int) (seen:List (Int × Bool)),i≤(dI s.aa y).args.length→(dI s.aa y).args.length - i<k→SI out seen→RI s r out→(∀j a,j<i→(dI s.aa y).args[j]? = some a→rp s.an a∈out)→
  ∃rE Cw,a7.l1 m s (dI s.aa y) k out seen (i:Int)=some (rE,Cw,((dI s.aa y).args.length:Int))∧SI rE Cw∧RI s r rE∧(∃t,rE=out++t)∧∀a∈(dI s.aa y).args,rp s.an a∈rE
 | 0,i,out,seen,h1,h2,_,_,_=>by omega
 | k+1,i,out,seen,h1,h2,hs,hi,hj=>by
  simp only [a7.l1]
  obtain⟨n8,nR⟩:=v.args _ (iF hy)
  by_cases hlt:i<(dI s.aa y).args.length
  ·have d:decide ((i:Int)<((dI s.aa y).args.length:Int))=true:=by rw [decide_eq_true_eq]; omega
   have eg:=aiN hlt
   generalize (dI s.aa y).args[i]=a at eg
   have hma:=aiS eg
   have ha:=nR a hma
   have ew:i64.wrap ((i:Int)+1)=((i+1:Nat):Int):=by rw [kh om om]; omega
   rw [if_pos d,tJ eg]
   simp only [aiI,ew,AI (m:=m) om v ha]
   cases hq:(Bq seen (rp s.an a)).1 with
   | true=>
    rw [if_neg (by simp)]
    have hin:=(hs _).1 hq
    exact AY hm v hy hr k (i+1) out seen om om hs hi (fun j b hjl hb=>by
     by_cases e:j<i
     ·exact hj j b e hb
     ·have:j=i:=by omega
      subst this
      rw [eg] at hb; cases hb; exact hin)
   | false=>
    have acz:rp s.an a∉out:=fun h=>by rw [(hs _).2 h] at hq; cases hq
    have hf:=hi.Cr
    have h8:=v.max
    rw [if_pos (by simp),nX (by simp only [aiX,ai4]; omega),aiI]
    have mZ:RI s r (out++[rp s.an a]):=by
     refine⟨?_,fun x hx=>?_,?_⟩
     ·rw [ajS]
      refine⟨hi.nd,by simp,fun x hx z hz=>?_⟩
      simp only [aiU] at hz
      subst hz
      intro e
      subst e
      exact acz hx
     ·rcases ai3.1 hx with hx | hx
      ·exact hi.rt x hx
      ·simp only [aiU] at hx
       subst hx
       exact⟨v.cn.rg a ha,v.cn.id a ha,.step hr hma⟩
     ·have h0:=hi.hd
      have:=(aiO.1 h0).1
      rw [ai6 om]; exact h0
    have SJ:SI (out++[rp s.an a]) (HG seen (rp s.an a) true):=by
     intro x
     rw [KE,ai3,aiU]
     by_cases e:x=rp s.an a
     ·simp [e]
     ·rw [if_neg e,hs x]; simp [e]
    obtain⟨rE,Cw,e1,e2,e3,⟨t,e4⟩,e5⟩:=AY hm v hy hr k (i+1) _ _ om om SJ mZ (fun j b hjl hb=>by
     by_cases e:j<i
     ·exact ajh _ (hj j b e hb)
     ·have:j=i:=by omega
      subst this
      rw [eg] at hb; cases hb; exact akq _ (by simp))
    exact⟨rE,Cw,e1,e2,e3,⟨_,by rw [e4,ai7]⟩,e5⟩
  ·have d:decide ((i:Int)<((dI s.aa y).args.length:Int))=false:=by rw [decide_eq_false_iff_not]; omega
   have e:i=(dI s.aa y).args.length:=by omega
   subst e
   rw [if_neg (by rw [d]; decide)]
   refine⟨out,seen,rfl,hs,hi,⟨[],by simp⟩,fun a ha=>?_⟩
   obtain⟨j,YE⟩:=ajH ha
   exact hj j a (aiO.1 YE).1 YE
theorem Gp (hm:16000≤m)(v:Inv s):∀(k i:Nat) (out:List Int) (seen:List (Int × Bool)),i≤out.length→s.aa.length - i<k→SI out seen→RI s r out→(∀j x,j<i→out[j]? = some x→∀a∈(dI s.aa x).args,rp s.an a∈out)→
  ∃rE z w,a7.l0 m s k out seen (i:Int)=some (rE,z,w)∧RI s r rE∧∀x∈rE,∀a∈(dI s.aa x).args,rp s.an a∈rE
 | 0,i,out,seen,h1,h2,_,_,_=>by omega
 | k+1,i,out,seen,h1,h2,hs,hi,hj=>by
  simp only [a7.l0]
  have hf:=hi.Cr
  have h8:=v.max
  by_cases hlt:i<out.length
  ·have d:decide ((i:Int)<(out.length:Int))=true:=by rw [decide_eq_true_eq]; omega
   have eg:=aiN hlt
   generalize out[i]=y at eg
   obtain⟨y1,y2,y3⟩:=hi.rt y (aiS eg)
   have ew:i64.wrap ((i:Int)+1)=((i+1:Nat):Int):=by rw [kh om om]; omega
   have n8:=(v.args _ (iF y1)).1
   obtain⟨rE,Cw,e1,e2,e3,⟨t,e4⟩,e5⟩:=AY (m:=m) hm v y1 y3 m 0 out seen (ajm _) om hs hi (fun j a h=>by omega)
   have e1:a7.l1 m s (dI s.aa y) m out seen 0=_:=e1
   rw [if_pos d,tJ eg,aiI,mS y1,aiI,e1,aiI]
   simp only [ew]
   refine Gp hm v k (i+1) rE Cw ?_ om e2 e3 (fun j x hjl hx a ha=>?_)
   ·rw [e4,aiT]; omega
   ·rw [e4,ai6 om] at hx
    by_cases e:j<i
    ·rw [e4]; exact ajh _ (hj j x e hx a ha)
    ·have:j=i:=by omega
     subst this
     rw [eg] at hx; cases hx
     exact e5 a ha
  ·have d:decide ((i:Int)<(out.length:Int))=false:=by rw [decide_eq_false_iff_not]; omega
   rw [if_neg (by rw [d]; decide)]
   refine⟨out,_,_,rfl,hi,fun x hx a ha=>?_⟩
   obtain⟨j,YE⟩:=ajH hx
   exact hj j x (by have:=(aiO.1 YE).1; omega) YE a ha
structure Reach (s:ae)(r:Int)(l:List Int):Prop extends RI s r l where
 cl:∀x∈l,∀a∈(dI s.aa x).args,rp s.an a∈l
theorem KF (hm:16000≤m)(v:Inv s){n:Int}(h:Rg s.aa.length n):∃l,a7.f m s n=some l∧Reach s (rp s.an n) l:=by
 have h8:=v.max
 unfold a7.f
 rw [AI hm v h,aiI]
 have e0:ix [rp s.an n] (0:Int)=some (rp s.an n):=rfl
 rw [e0,aiI]
 obtain⟨l,z,w,e1,e2,e3⟩:=Gp (m:=m) (r:=rp s.an n) hm v m 0 [rp s.an n] (HG [] (rp s.an n) true) (ajm _) om
  (fun x=>by rw [KE,aiU]; by_cases e:x=rp s.an n<;>simp [e,Bq])
  ⟨by simp,fun x hx=>by simp only [aiU] at hx; subst hx; exact⟨v.cn.rg n h,v.cn.id n h,.refl⟩,rfl⟩ (fun j x h=>by omega)
 have e1:a7.l0 m s m [rp s.an n] (HG [] (rp s.an n) true) 0=_:=e1
 rw [e1,aiI]
 exact⟨l,rfl,e2,e3⟩
end
def yH (l:List Int)(x:Int):Int:=((l.idxOf x:Nat):Int)
theorem pB {l:List Int}{x:Int}(h:x∈l):l[(yH l x).toNat]? = some x:=by
 have:=ajD h
 unfold yH
 rw [aiP,aiN this,List.getElem_idxOf]
theorem vP {l:List Int}{x:Int}(h:x∈l):0≤yH l x∧yH l x<l.length:=by
 have:=ajD h
 unfold yH; omega
theorem y5 {l:List Int}(hn:l.Nodup){x:Int}{j:Nat}(h:l[j]? = some x):yH l x=j:=by
 have hm:=aiS h
 have h1:=ajD hm
 obtain⟨h2,h3⟩:=aiO.1 h
 unfold yH
 congr 1
 exact (List.getElem_inj hn (h₀:=h1) (h₁:=h2)).1 (by rw [List.getElem_idxOf,h3])
def PI (place:List (Int × Int))(l:List Int)(i:Nat):Prop:=∀(j:Nat) x,j<i→l[j]? = some x→(qX place x).1=j
def xS (s:ae)(l:List Int)(r:Int):ak:=⟨(dI s.aa r).kind,(dI s.aa r).int,(dI s.aa r).label,(dI s.aa r).args.map fun a=>yH l (rp s.an a)⟩
def TN (s:ae)(l:List Int):List ak:=l.map (xS s l)
section
variable {m:Nat}{s:ae}{r:Int}
theorem KG {l:List Int}(hn:l.Nodup)(h8:l.length≤8000):∀(k i:Nat) (place:List (Int × Int)),i≤l.length→l.length - i<k→PI place l i→∃xj,aN.l0 m l k place (i:Int)=some (xj,(l.length:Int))∧PI xj l l.length
 | 0,i,place,h1,h2,_=>by omega
 | k+1,i,place,h1,h2,hp=>by
  simp only [aN.l0]
  by_cases hlt:i<l.length
  ·have d:decide ((i:Int)<(l.length:Int))=true:=by rw [decide_eq_true_eq]; omega
   have eg:=aiN hlt
   generalize l[i]=y at eg
   have ew:i64.wrap ((i:Int)+1)=((i+1:Nat):Int):=by rw [kh om om]; omega
   rw [if_pos d,tJ eg,aiI,ew]
   refine KG hn h8 k (i+1) _ om om fun j x hj hx=>?_
   rw [Sd]
   by_cases e:j<i
   ·have:¬x=y:=fun e2=>by
     subst e2
     have a1:=y5 hn hx
     have a2:=y5 hn eg
     omega
    rw [if_neg this]
    exact hp j x e hx
   ·have:j=i:=by omega
    subst this
    rw [eg] at hx; cases hx
    rw [if_pos rfl]
  ·have d:decide ((i:Int)<(l.length:Int))=false:=by rw [decide_eq_false_iff_not]; omega
   have e:i=l.length:=by omega
   rw [if_neg (by rw [d]; decide),e]
   exact⟨place,rfl,by rw [←e]; exact hp⟩
theorem KH (place:List (Int × Int))(v:ak)(h8:v.args.length≤8):∀(k i:Nat),i≤v.args.length→v.args.length - i<k→
  aN.l2 m place v k ((v.args.take i).map (fun a=>(qX place a).1)++v.args.drop i) (i:Int)=some (v.args.map (fun a=>(qX place a).1),(v.args.length:Int))
 | 0,i,h1,h2=>by omega
 | k+1,i,h1,h2=>by
  simp only [aN.l2]
  by_cases hi:i<v.args.length
  ·have d:decide ((i:Int)<(v.args.length:Int))=true:=by rw [decide_eq_true_eq]; omega
   have hl:((v.args.take i).map (fun a=>(qX place a).1)).length=i:=by rw [aiY,ajo]; omega
   have ed:v.args.drop i=v.args[i]::v.args.drop (i+1):=aiZ hi
   have et:v.args.take (i+1)=v.args.take i++[v.args[i]]:=ajb hi
   have eg:((v.args.take i).map (fun a=>(qX place a).1)++v.args.drop i)[i]? = some v.args[i]:=by
    rw [ai0 om,hl,ajI,ed]; rfl
   have es:((v.args.take i).map (fun a=>(qX place a).1)++v.args.drop i).set i ((qX place v.args[i]).1)=(v.args.take (i+1)).map (fun a=>(qX place a).1)++v.args.drop (i+1):=by
    rw [ajM _ _ om,hl,ajI,ed,et,ai5,ai7]; rfl
   have ew:i64.wrap ((i:Int)+1)=((i+1:Nat):Int):=by rw [kh om om]; omega
   rw [if_pos d,tJ eg]
   simp only [aiI,ew,aiP,es]
   exact KH place v h8 k (i+1) om om
  ·have d:decide ((i:Int)<(v.args.length:Int))=false:=by rw [decide_eq_false_iff_not]; omega
   have e:i=v.args.length:=by omega
   rw [if_neg (by rw [d]; decide),e]
   simp
theorem KI (hm:16000≤m)(v:Inv s){l:List Int}(h:Reach s r l){place:List (Int × Int)}(hp:PI place l l.length):∀(k i:Nat),i≤l.length→l.length - i<k→
  aN.l1 m s l place k (i:Int) ((l.take i).map (xS s l)) 0=some ((l.length:Int),TN s l,0)
 | 0,i,h1,h2=>by omega
 | k+1,i,h1,h2=>by
  simp only [aN.l1]
  have hf:=h.Cr
  have h8:=v.max
  by_cases hi:i<l.length
  ·have d:decide ((i:Int)<(l.length:Int))=true:=by rw [decide_eq_true_eq]; omega
   have eg:=aiN hi
   have et:l.take (i+1)=l.take i++[l[i]]:=ajb hi
   generalize l[i]=y at eg et
   have hy:=aiS eg
   obtain⟨y1,y2,_⟩:=h.rt y hy
   have ew:i64.wrap ((i:Int)+1)=((i+1:Nat):Int):=by rw [kh om om]; omega
   have n8:=(v.args _ (iF y1)).1
   have ea:(nT s y).args.map (fun a=>(qX place a).1)=(dI s.aa y).args.map fun a=>yH l (rp s.an a):=by
    show ((dI s.aa y).args.map _).map _=_
    rw [List.map_map]
    apply aj0
    intro a ha
    have hin:=h.cl y hy a ha
    have h0:=pB hin
    have h1:=vP hin
    show (qX place (rp s.an a)).1=_
    rw [hp _ _ om h0]
    omega
   have hl:(nT s y).args.length≤8:=by show (List.map _ _).length≤8; rw [aiY]; exact n8
   have e2:=KH (m:=m) place (nT s y) hl m 0 (ajm _) om
   have e2:aN.l2 m place (nT s y) m (nT s y).args 0=_:=e2
   rw [if_pos d,tJ eg,aiI,KD hm v y1,aiI,e2,aiI]
   simp only [ew]
   rw [nX (by simp only [aiY,ajo,aiX,ai4]; omega),aiI]
   have:=KI hm v h hp k (i+1) om om
   rw [et,ai5] at this
   rw [ea]
   exact this
  ·have d:decide ((i:Int)<(l.length:Int))=false:=by rw [decide_eq_false_iff_not]; omega
   have e:i=l.length:=by omega
   rw [if_neg (by rw [d]; decide),e,ajr]
   rfl
theorem Gq (v:Inv2 s){l:List Int}(h:Reach s r l):iH ⟨TN s l,0⟩=true:=by
 have hf:=h.Cr
 have h8:=v.inv.max
 have h0:=(aiO.1 h.hd).1
 have hl:(TN s l).length=l.length:=aiY ..
 unfold iH
 simp only [aiM,decide_eq_true_eq,ajd]
 refine⟨⟨⟨⟨om,om⟩,om⟩,om⟩,fun n hn=>?_⟩
 obtain⟨y,hy,rfl⟩:=ajc.1 hn
 obtain⟨y1,y2,_⟩:=h.rt y hy
 obtain⟨k1,k2⟩:=v.vn y y1
 exact xi k1 _ (fun a ha=>by rw [hl]; exact vP (h.cl y hy a ha)) (fun hk=>by rw [k2 hk]; exact y1.1) (fun _=>rfl)
theorem VB (hm:2 ^ 41≤m)(v:Inv2 s){n:Int}(h:Rg s.aa.length n):∃l z,Reach s (rp s.an n) l∧iH ⟨TN s l,0⟩=true∧fM.f m ⟨TN s l,0⟩=some z∧aN.f m s n=some (z,0)∧iH z=true:=by
 have yG:(2:Nat) ^ 41=2199023255552:=by decide
 obtain⟨l,e1,R⟩:=KF (m:=m) om v.inv h
 have hf:=R.Cr
 have h8:=v.inv.max
 have hV:=Gq v R
 obtain⟨z,_,e4,hz,_⟩:=Cu hm hV
 obtain⟨place,e2,hp⟩:=KG (m:=m) R.nd om m 0 [] (ajm _) om (fun j x hj=>by omega)
 have e2:aN.l0 m l m [] 0=_:=e2
 have e3:=KI (m:=m) om v.inv R hp m 0 (ajm _) om
 have e3:aN.l1 m s l place m 0 [] 0=_:=e3
 refine⟨l,z,R,hV,e4,?_,hz⟩
 unfold aN.f
 rw [sS om v.inv.made [n] (by simp),show ([n].all fun n=>decide (Rg s.aa.length n))=true by simp [h],if_pos rfl,aiI,if_neg (by decide),e1,aiI,e2,aiI]
 simp only []
 rw [e3,aiI]
 simp only []
 unfold gT.f
 rw [qH om,hV,aiI,if_neg (by decide),e4]
 rfl
theorem PA (hm:2 ^ 41≤m)(v:Inv2 s){n:Int}(h:¬Rg s.aa.length n):aN.f m s n=some (⟨[],0⟩,1):=by
 have yG:(2:Nat) ^ 41=2199023255552:=by decide
 unfold aN.f
 rw [sS om v.inv.made [n] (by simp),show ([n].all fun n=>decide (Rg s.aa.length n))=false by simp [h]]
 rfl
end
section
variable {m:Nat}
def Eqv (t u:bh):Prop:=∃R,Ii t.nodes u.nodes R∧R t.root u.root
end
structure acA (s:ae)(Q:Int→Int→Prop):Prop where
 ti:∀u v,Q u v→(Rg s.aa.length u∧rp s.an u=u)∧Rg s.aa.length v∧rp s.an v=v
 top:∀u v,Q u v→mr (dI s.aa u) (dI s.aa v)
 arg:∀u v,Q u v→∀(i:Nat) a b,(dI s.aa u).args[i]? = some a→(dI s.aa v).args[i]? = some b→Q (rp s.an a) (rp s.an b)
def Sb (s:ae)(u v:Int):Prop:=∃Q,acA s Q∧Q u v
theorem Il {a b:ak}(h:mr a b):Alike a b:=⟨h.1,h.2.1,Ed h.2.2.1,h.2.2.2⟩
theorem Alike.acB {a b:ak}(h:Alike a b):mr a b:=⟨h.1,h.2,by rw [h.3],h.4⟩
section
variable {s:ae}{u v w:Int}
theorem Sb.refl (v:Inv s){u:Int}(hu:Rg s.aa.length u)(hr:rp s.an u=u):Sb s u u:=
 ⟨fun x y=>x=y∧Rg s.aa.length x∧rp s.an x=x,⟨fun x y ⟨e,h⟩=>by subst e; exact⟨h,h⟩,fun x y ⟨e,h⟩=>by subst e; exact mr.refl _,fun x y ⟨e,h⟩ i a b ha hb=>by
  subst e
  rw [ha] at hb; cases hb
  have:=(v.args _ (iF h.1)).2 a (aiS ha)
  exact⟨rfl,v.cn.rg a this,v.cn.id a this⟩⟩,rfl,hu,hr⟩
theorem Sb.top (h:Sb s u w):mr (dI s.aa u) (dI s.aa w):=by
 obtain⟨Q,B,q⟩:=h
 exact B.top _ _ q
theorem Sb.arg (h:Sb s u w){i:Nat}{a b:Int}(ha:(dI s.aa u).args[i]? = some a)(hb:(dI s.aa w).args[i]? = some b):Sb s (rp s.an a) (rp s.an b):=by
 obtain⟨Q,B,q⟩:=h
 exact⟨Q,B,B.arg _ _ q i a b ha hb⟩
end
structure YF (s:ae)(a b:Int)(l:List Int)(ok:Bool)(s':ae):Prop where
 un:Kn s s' l
 inv:Inv s'
 len:l.length≤8000
 no:ok=false→∀T,Cl s.aa T→iN s.aa (rp s.an) T→T a=T b→False
 yes:ok=true→Cl s.aa (rp s'.an)∧iN s.aa (rp s.an) (rp s'.an)∧rp s'.an a=rp s'.an b∧∀T,Cl s.aa T→iN s.aa (rp s.an) T→T a=T b→iN s.aa (rp s'.an) T
section
variable {m:Nat}{s:ae}{a b:Int}
theorem KJ (hm:2000000≤m)(v:Inv2 s)(a b:Int) :
  (sD s [a,b]=false∧eh.f m s a b=some (0,[],1,s)∧dL.f m s a b=some ([],1,s))∨
  (sD s [a,b]=true∧∃l ok s',YF s a b l ok s'∧eh.f m s a b=some (if ok=true then (if Pl s.aa l=[] then (1,[],0,s) else (-1,Pl s.aa l,0,s)) else (0,[],0,s))∧
   dL.f m s a b=some (if ok=true then (Pl s.aa l,0,s') else ([],8,s))):=by
 unfold eh.f dL.f
 rw [sS hm v.inv.made [a,b] (by simp)]
 show _∨(_∧∃l ok s',_∧((some (if sD s [a,b]=true then (0:Int) else 1)).bind _)=_∧((some (if sD s [a,b]=true then (0:Int) else 1)).bind _)=_)
 cases hn:sD s [a,b] with
 | false=>
  refine .inl ⟨rfl,?_,?_⟩
  ·show ((some (if sD s [a,b]=true then (0:Int) else 1)).bind _)=_
   rw [hn,aiI]; rfl
  ·show ((some (if sD s [a,b]=true then (0:Int) else 1)).bind _)=_
   rw [hn,aiI]; rfl
 | true=>
  obtain⟨ra,rb⟩:=Ig hn
  obtain⟨l,ok,s',e,u,v',hl,h1,h2⟩:=Pm hm v.inv v.cl ra rb
  have eN:s'.aa=s.aa:=u.2.1
  refine .inr ⟨rfl,l,ok,s',⟨u,v',hl,h1,h2⟩,?_,?_⟩
  ·rw [if_pos rfl,aiI,if_neg (by decide),e,aiI]
   simp only [OU (m:=m) om hl u,aiI]
   rw [Kw hm hl (fun n hn=>by rw [←v.inv.len]; exact (u.2.2.2.1 n hn).1)]
   simp only [aiI]
   cases ok with
   | false=>rfl
   | true=>
    rw [if_neg (by simp),if_pos rfl]
    by_cases hb:Pl s.aa l=[]
    ·rw [if_pos hb,hb]; rfl
    ·rw [if_neg hb,if_neg]
     intro h
     apply hb
     have:((Pl s.aa l).length:Int)=0:=by simpa using h
     exact ajs om
  ·rw [if_pos rfl,aiI,if_neg (by decide),e,aiI]
   cases ok with
   | false=>
    simp only [OU (m:=m) om hl u,aiI]
    rfl
   | true=>
    rw [if_neg (show ¬(!(l,true,s').2.1)=true by simp)]
    simp only []
    rw [Kw hm hl (fun n hn=>by rw [eN,←v.inv.len]; exact (u.2.2.2.1 n hn).1),eN]
    rfl
end
section
variable {m:Nat}{s:ae}{a b:Int}
theorem vQ {l:List Int}{i u:Int}(h:l[i.toNat]? = some u):nd (TN s l) i=xS s l u:=by
 unfold nd TN
 rw [ai2,aje,h]
 rfl
theorem Tw {l:List Int}{k:Nat}{x:Int}(h:l[k]? = some x):gt l k=x:=by
 unfold gt
 rw [ai2,h]; rfl
theorem PB {l:List Int}{i u:Int}(h0:0≤i)(h:l[i.toNat]? = some u):i<l.length:=by
 have:=(aiO.1 h).1
 omega
theorem y6 {l:List Int}{u x:Int}{k:Nat}(h:(dI s.aa u).args[k]? = some x):gt (xS s l u).args k=yH l (rp s.an x):=by
 apply Tw
 show ((dI s.aa u).args.map fun a=>yH l (rp s.an a))[k]? = _
 rw [aje,h]; rfl
theorem VC {p q:Int}{l1 l2:List Int}(h1:Reach s p l1)(h2:Reach s q l2):Eqv ⟨TN s l1,0⟩ ⟨TN s l2,0⟩↔Sb s p q:=by
 have acC:(TN s l1).length=l1.length:=aiY ..
 have acD:(TN s l2).length=l2.length:=aiY ..
 constructor
 ·rintro⟨R,B,r⟩
  have B:Ii (TN s l1) (TN s l2) R:=B
  refine⟨fun u w=>∃i j,R i j∧l1[i.toNat]? = some u∧l2[j.toNat]? = some w,⟨?_,?_,?_⟩,0,0,r,h1.hd,h2.hd⟩
  ·rintro u w ⟨i,j,h,g1,g2⟩
   obtain⟨u1,u2,_⟩:=h1.rt u (aiS g1)
   obtain⟨w1,w2,_⟩:=h2.rt w (aiS g2)
   exact⟨⟨u1,u2⟩,w1,w2⟩
  ·rintro u w ⟨i,j,h,g1,g2⟩
   have:=B.top _ _ h
   rw [vQ g1,vQ g2] at this
   have:=this.acB
   unfold xS mr at this
   simp only [aiY] at this
   exact this
  ·rintro u w ⟨i,j,h,g1,g2⟩ k x y hx hy
   have hk:=(aiO.1 hx).1
   have:=B.arg _ _ h k (by rw [vQ g1]; show k<(List.map _ _).length; rw [aiY]; exact hk)
   rw [vQ g1,vQ g2,y6 hx,y6 hy] at this
   exact⟨_,_,this,pB (h1.cl u (aiS g1) x (aiS hx)),pB (h2.cl w (aiS g2) y (aiS hy))⟩
 ·intro h
  refine⟨fun i j=>(0≤i∧0≤j)∧∃u w,l1[i.toNat]? = some u∧l2[j.toNat]? = some w∧Sb s u w,⟨?_,?_,?_⟩,⟨Int.le_refl 0,Int.le_refl 0⟩,p,q,h1.hd,h2.hd,h⟩
  ·rintro i j ⟨⟨i0,j0⟩,u,w,g1,g2,_⟩
   show (0≤i∧i<(TN s l1).length)∧0≤j∧j<(TN s l2).length
   rw [acC,acD]
   exact⟨⟨i0,PB i0 g1⟩,j0,PB j0 g2⟩
  ·rintro i j ⟨_,u,w,g1,g2,hb⟩
   show Alike (nd (TN s l1) i) (nd (TN s l2) j)
   rw [vQ g1,vQ g2]
   apply Il
   have:=hb.top
   unfold xS mr
   unfold mr at this
   simp only [aiY]
   exact this
  ·rintro i j ⟨_,u,w,g1,g2,hb⟩ k hk
   show (0≤gt (nd (TN s l1) i).args k∧0≤gt (nd (TN s l2) j).args k)∧_
   have hk:k<(nd (TN s l1) i).args.length:=hk
   show _∧∃x y,l1[(gt (nd (TN s l1) i).args k).toNat]? = some x∧l2[(gt (nd (TN s l2) j).args k).toNat]? = some y∧Sb s x y
   rw [vQ g1] at hk ⊢
   rw [vQ g2]
   have hk:k<(List.map _ (dI s.aa u).args).length:=hk
   rw [aiY] at hk
   have hl:=hb.top.2.2.2
   have gx:=aiN hk
   have gy:=aiN (l:=(dI s.aa w).args) (i:=k) om
   rw [y6 gx,y6 gy]
   have m1:=h1.cl u (aiS g1) _ (aiS gx)
   have m2:=h2.cl w (aiS g2) _ (aiS gy)
   exact⟨⟨(vP m1).1,(vP m2).1⟩,_,_,pB m1,pB m2,hb.arg gx gy⟩
theorem AZ (hm:2 ^ 63≤m)(x:ak)(h:x.args.length<2 ^ 63):iJ.f m x x=some true:=by
 unfold iJ.f
 simp only [aj8,if_true,sW x.args h hm,aiI]
end
end Go.Proofs.YtifafejidnjckaaGreat
namespace Go.Proofs.YtifafejidnjckaaGreat
open Go Go.R
open Go.IntKind (i64 u64 u8 u32)
theorem Ej {m:Nat}(c:Int):jj.f m c=some (kJ c):=by
 unfold jj.f
 by_cases h1:97≤c<;>by_cases h2:c≤122<;>by_cases h3:65≤c<;>by_cases h4:c≤90<;>by_cases h5:48≤c<;>by_cases h6:c≤57<;>simp [kJ,h1,h2,h3,h4,h5,h6]<;>omega
theorem Gr {m:Nat}{s:ByteArray}(hs:s.size≤16):∀(f i:Nat),s.size - i<f→i≤s.size→
  ∃o,dO.l0 m s f (i:Int)=some o∧((∃x,o = .inr x)∧((s.data.toList.drop i).all fun c=>kJ (c.toNat:Int))=true∨o = .inl false∧((s.data.toList.drop i).all fun c=>kJ (c.toNat:Int))=false)
 | 0,i,hf,_=>absurd hf om
 | f+1,i,hf,hi=>by
  unfold dO.l0
  by_cases h:i<s.size
  ·obtain⟨c,hc,hb⟩:=yZ h
   obtain⟨h4,h5⟩:=aiO.1 hc
   have hd:s.data.toList.drop i=c::s.data.toList.drop (i+1):=by rw [←h5]; exact aiZ h4
   rw [if_pos dm,hb,aiI,Ej,aiI,hd,ajB]
   cases hl:kJ (c.toNat:Int) with
   | false=>exact⟨_,rfl,.inr ⟨rfl,rfl⟩⟩
   | true=>
    obtain⟨o,h1,h2⟩:=Gr (m:=m) hs f (i+1) om om
    rw [if_neg (by simp),bL om om,show (i:Int)+1=((i+1:Nat):Int) by omega,h1]
    exact⟨o,rfl,by simpa using h2⟩
  ·refine⟨_,by rw [if_neg dm],.inl ⟨⟨_,rfl⟩,?_⟩⟩
   rw [ajL (by simp; omega)]; rfl
def PC (s:ByteArray):Bool:=decide (1≤s.data.toList.length)&&decide (s.data.toList.length≤16)&&s.data.toList.all fun c=>kJ (c.toNat:Int)
theorem Im {m:Nat}(hm:20≤m)(s:ByteArray):dO.f m s=some (PC s):=by
 have hsz:s.size=s.data.toList.length:=by simp
 unfold dO.f PC
 by_cases h1:1≤s.data.toList.length
 ·by_cases h2:s.data.toList.length≤16
  ·obtain⟨o,k1,k2⟩:=Gr (m:=m) (s:=s) om m 0 om om
   have k1:dO.l0 m s m 0=_:=k1
   rw [aji] at k2
   rw [if_neg dm,if_neg dm,k1,aiI,decide_eq_true h1,decide_eq_true h2]
   simp only [ajC]
   rcases k2 with⟨⟨x,rfl⟩,k⟩| ⟨rfl,k⟩
   ·rw [k]
   ·rw [k]
  ·rw [if_neg dm,if_pos dm,decide_eq_false h2,Bool.and_false]; rfl
 ·rw [if_pos dm,decide_eq_false h1]; rfl
theorem xT {m:Nat}(hm:20≤m)(s:ByteArray):iE.f m s=some (pz s):=by
 have hsz:s.size=s.data.toList.length:=by simp
 unfold iE.f pz
 show (if (s.data.toList==[124])=true then _ else if (s.data.toList==[35])=true then _ else _)=_
 cases h1:s.data.toList==[124] with
 | true=>rfl
 | false=>
  cases h2:s.data.toList==[35] with
  | true=>rfl
  | false=>
   simp only [aiW,if_false,Bool.false_or]
   rw [Im hm,aiI]
   unfold PC F7
   cases hl:s.data.toList with
   | nil=>rfl
   | cons c cs=>
    obtain⟨c',g1,g2⟩:=yZ (s:=s) (i:=0) (by rw [hsz,hl]; simp)
    rw [hl] at g1
    simp only [ajx,aiL] at g1
    subst g1
    have g2:bt s 0=_:=g2
    rw [g2]
    simp only [aiI,aiX]
    cases ha:(c::cs).all fun c=>kJ (c.toNat:Int) with
    | false=>simp
    | true=>
     by_cases h3:cs.length≤15
     ·rw [decide_eq_true (show 1≤cs.length+1 by omega),decide_eq_true (show cs.length+1≤16 by omega),decide_eq_true h3]
      simp only [Bool.and_self,if_true,Bool.and_true,ajC]
      by_cases h4:(97:Int)≤(c.toNat:Int)
      ·rw [if_pos (by simpa using h4),decide_eq_true h4]; rfl
      ·rw [if_neg (by simpa using h4),decide_eq_false h4]; rfl
     ·rw [decide_eq_false (show ¬cs.length+1≤16 by omega),decide_eq_false h3]; simp
theorem Gs {m:Nat}{n:ak}{size:Int}(h8:n.args.length≤8):∀(f i:Nat),n.args.length - i<f→i≤n.args.length→
  ∃o,dd.l0 m n size f (i:Int)=some o∧((∃x,o = .inr x)∧((n.args.drop i).all fun a=>decide (0≤a)&&decide (a<size))=true∨o = .inl false∧((n.args.drop i).all fun a=>decide (0≤a)&&decide (a<size))=false)
 | 0,i,hf,_=>absurd hf om
 | f+1,i,hf,hi=>by
  unfold dd.l0
  by_cases h:i<n.args.length
  ·have hd:n.args.drop i=gt n.args i::n.args.drop (i+1):=by
    obtain⟨h4,h5⟩:=aiO.1 (cz h)
    rw [←h5]; exact aiZ h4
   rw [if_pos dm,er h,aiI,hd,ajB,aiI]
   by_cases h1:gt n.args i<0
   ·rw [if_pos (by simpa using h1),decide_eq_false (show ¬0≤gt n.args i by omega)]
    exact⟨_,rfl,.inr ⟨rfl,rfl⟩⟩
   ·rw [if_neg (by simpa using h1),decide_eq_true (show 0≤gt n.args i by omega)]
    by_cases h2:gt n.args i<size
    ·obtain⟨o,k1,k2⟩:=Gs (m:=m) (size:=size) h8 f (i+1) om om
     rw [if_neg dm,decide_eq_true h2,bL om om,show (i:Int)+1=((i+1:Nat):Int) by omega,k1]
     exact⟨o,rfl,by simpa using k2⟩
    ·rw [if_pos dm,decide_eq_false h2]
     exact⟨_,rfl,.inr ⟨rfl,rfl⟩⟩
  ·refine⟨_,by rw [if_neg dm],.inl ⟨⟨_,rfl⟩,?_⟩⟩
   rw [ajL om]; rfl
theorem A0 {m:Nat}(hm:20≤m)(n:ak)(size:Int):dd.f m n size=some (gD n size):=by
 unfold dd.f gD
 by_cases k0:n.kind=0
 ·rw [if_pos (by simpa using k0),if_pos k0]
  by_cases h1:0≤n.int
  ·rw [if_pos (by simpa using h1),show decide (0≤n.int)=true by simpa using h1]
   show (if (n.label.data.toList==[])=true then _ else _)=_
   cases n.label.data.toList==[] with
   | true=>rw [if_pos rfl,F8]; rfl
   | false=>rfl
  ·rw [if_neg (by simpa using h1),show decide (0≤n.int)=false by simp; omega]; rfl
 rw [if_neg (by simpa using k0),if_neg k0]
 by_cases k1:n.kind=1
 ·rw [if_pos (by simpa using k1),if_pos k1]
  by_cases h1 : -1099511627776≤n.int
  ·rw [if_pos (by simpa using h1),show decide (-1099511627776≤n.int)=true by simpa using h1]
   by_cases h3:n.int≤1099511627776
   ·rw [if_pos (by simpa using h3),show decide (n.int≤1099511627776)=true by simpa using h3]
    show (if (n.label.data.toList==[])=true then _ else _)=_
    cases n.label.data.toList==[] with
    | true=>rw [if_pos rfl,F8]; rfl
    | false=>rfl
   ·rw [if_neg (by simpa using h3),show decide (n.int≤1099511627776)=false by simp; omega]; rfl
  ·rw [if_neg (by simpa using h1),show decide (-1099511627776≤n.int)=false by simp; omega]; rfl
 rw [if_neg (by simpa using k1),if_neg k1]
 by_cases k2:n.kind=2
 ·rw [if_pos (by simpa using k2),if_pos k2,xT hm,aiI]
  cases pz n.label with
  | false=>simp
  | true=>
   rw [if_pos rfl]
   cases h1:n.int==0 with
   | false=>rfl
   | true=>rw [if_pos rfl,F8]; rfl
 rw [if_neg (by simpa using k2),if_neg k2]
 by_cases k4:n.kind=4
 ·rw [if_pos (by simpa using k4),if_neg (show ¬n.kind=3 by omega),if_pos k4]
  unfold Ck
  show (if (n.label.data.toList==[112,114,111,99])=true then _ else if (n.label.data.toList==[99,101,108,108])=true then _ else if (n.label.data.toList==[112,111,114,116])=true then _ else _)=_
  by_cases h1:0≤n.int
  ·have d1:decide (n.int≥0)=true:=decide_eq_true h1
   rw [d1]
   cases n.label.data.toList==[112,114,111,99]<;>cases n.label.data.toList==[99,101,108,108]<;>cases n.label.data.toList==[112,111,114,116]<;>first | rfl | (show some ((n.args.length:Int)==(0:Int))=_; rw [F8]; rfl)
  ·have d1:decide (n.int≥0)=false:=decide_eq_false h1
   rw [d1]
   cases n.label.data.toList==[112,114,111,99]<;>cases n.label.data.toList==[99,101,108,108]<;>cases n.label.data.toList==[112,111,114,116]<;>rfl
 rw [if_neg (by simpa using k4)]
 by_cases k3:n.kind=3
 ·rw [if_pos (by simpa using k3),if_pos k3,xT hm,aiI]
  cases pz n.label with
  | false=>simp
  | true=>
   cases h1:n.int==0 with
   | false=>rfl
   | true=>
    simp only [ajA,aiW,if_false,Bool.and_self,ajC]
    by_cases g1:1≤n.args.length
    ·rw [if_neg dm,decide_eq_true g1]
     by_cases g2:n.args.length≤8
     ·obtain⟨o,k1,k2⟩:=Gs (m:=m) (size:=size) g2 m 0 om om
      have k1:dd.l0 m n size m 0=_:=k1
      rw [aji] at k2
      rw [if_neg dm,decide_eq_true g2,k1,aiI]
      simp only [ajC]
      rcases k2 with⟨⟨x,rfl⟩,k⟩| ⟨rfl,k⟩
      ·rw [k]
      ·rw [k]
     ·rw [if_pos dm,decide_eq_false g2]; simp
    ·rw [if_pos dm,decide_eq_false g1]; simp
 rw [if_neg (by simpa using k3),if_neg k3,if_neg k4]
theorem Cy {m:Nat}(hm:20≤m){t:bh}(hl:t.nodes.length≤8000):∀(f i:Nat),t.nodes.length - i<f→i≤t.nodes.length→
  ∃o,dw.l0 m t f (i:Int)=some o∧((∃x,o = .inr x)∧((t.nodes.drop i).all fun n=>gD n t.nodes.length)=true∨o = .inl false∧((t.nodes.drop i).all fun n=>gD n t.nodes.length)=false)
 | 0,i,hf,_=>absurd hf om
 | f+1,i,hf,hi=>by
  unfold dw.l0
  by_cases h:i<t.nodes.length
  ·have hx:ix t.nodes (i:Int)=some t.nodes[i]:=by unfold ix; rw [if_pos om]; simp [h]
   rw [if_pos dm,hx,aiI,A0 hm,aiI,aiZ h,ajB]
   cases hb:gD t.nodes[i] t.nodes.length with
   | false=>exact⟨_,rfl,.inr ⟨rfl,rfl⟩⟩
   | true=>
    obtain⟨o,k1,k2⟩:=Cy (m:=m) hm hl f (i+1) om om
    rw [if_neg (by simp),bL om om,show (i:Int)+1=((i+1:Nat):Int) by omega,k1]
    exact⟨o,rfl,by simpa using k2⟩
  ·refine⟨_,by rw [if_neg dm],.inl ⟨⟨_,rfl⟩,?_⟩⟩
   rw [ajL om]; rfl
theorem xU {m:Nat}(hm:2 ^ 30≤m)(t:bh):dw.f m t=some (iH t):=by
 have vM:(2:Nat) ^ 30=1073741824:=by decide
 unfold dw.f iH
 by_cases h1:1≤t.nodes.length
 ·rw [if_neg dm,decide_eq_true h1]
  by_cases h2:t.nodes.length≤8000
  ·rw [if_neg dm,decide_eq_true h2]
   by_cases h3:0≤t.root
   ·rw [if_neg dm,decide_eq_true h3]
    by_cases h4:t.root<t.nodes.length
    ·rw [if_neg dm,decide_eq_true h4]
     obtain⟨o,k1,k2⟩:=Cy (m:=m) (t:=t) om h2 m 0 om om
     have k1:dw.l0 m t m 0=_:=k1
     rw [aji] at k2
     rw [k1,aiI]
     simp only [ajC]
     rcases k2 with⟨⟨x,rfl⟩,k⟩| ⟨rfl,k⟩
     ·rw [k]
     ·rw [k]
    ·rw [if_pos dm,decide_eq_false h4]; rfl
   ·rw [if_pos dm,decide_eq_false h3]; rfl
  ·rw [if_pos dm,decide_eq_false h2]; rfl
 ·rw [if_pos dm,decide_eq_false h1]; rfl
theorem xR.refl {l:List ak}{c:List Int}(i:Nat):xR l c i i:=⟨Alike.refl _,fun _ _=>rfl⟩
theorem xR.symm {l:List ak}{c:List Int}{i j:Nat}(h:xR l c i j):xR l c j i:=⟨h.1.symm,fun k hk=>(h.2 k (by have:=h.1.len; unfold na at *; omega)).symm⟩
theorem xR.trans {l:List ak}{c:List Int}{i j q:Nat}(h:xR l c i j)(g:xR l c j q):xR l c i q:=
 ⟨h.1.trans g.1,fun k hk=>(h.2 k hk).trans (g.2 k (by have:=h.1.len; unfold na at *; omega))⟩
theorem L9.symm {l:List ak}{R:Nat→Nat→Prop}(B:L9 l R):L9 l fun i j=>R j i:=
 ⟨fun i j h=>(B.ti j i h).symm,fun i j h=>(B.top j i h).symm,fun i j h k hk=>B.arg j i h k (by have:=(B.top j i h).len; omega)⟩
structure Qo (l:List ak)(cls:List Int)(dn:List Bool)(fs od:List Int):Prop where
 lc:cls.length=l.length
 ld:dn.length=l.length
 odn:od.Nodup
 VD:∀x∈od,0≤x∧x<l.length
 Qp:∀i,i<l.length→(gb dn i=true↔(i:Int)∈od)
 BC:∀i:Nat,(i:Int)∈od→∀k,k<na l i→((ar l i k:Nat):Int)∈od∧od.idxOf ((ar l i k:Nat):Int)<od.idxOf (i:Int)
 Zr:fs.Nodup
 fst:∀f∈fs,f∈od∧gt cls f.toNat=f
 vX:∀i:Nat,(i:Int)∈od→gt cls i∈fs∧xR l cls i (gt cls i).toNat
 apart:∀f∈fs,∀g∈fs,xR l cls f.toNat g.toNat→f=g
 coarse:∀R,L9 l R→∀i j:Nat,R i j→(i:Int)∈od→(j:Int)∈od→gt cls i=gt cls j
theorem KK {od:List Int}{n:Nat}(h:od.Nodup)(hr:∀x∈od,0≤x∧x<n):od.length≤n:=by
 have:=h.length_le_of_subset (l₂:=ints n) (fun x hx=>lY.2 (hr x hx))
 rwa [hU] at this
theorem Qo.fsr {l cls dn fs od}(P:Qo l cls dn fs od):∀f∈fs,0≤f∧f<l.length:=fun f hf=>P.VD f (P.fst f hf).1
theorem PD {l:List ak}{cls:List Int}{dn:List Bool}{fs od:List Int}(ok:nY l)(P:Qo l cls dn fs od){i:Nat}(hi:i<l.length)(hn:(i:Int)∉od)(hr:Rdy l dn i){v:Int}
  (hv:v=i∧(∀f∈fs,¬xR l cls i f.toNat)∨v∈fs∧xR l cls i v.toNat) :
  Qo l (cls.set i v) (dn.set i true) (if v=i then fs++[(i:Int)] else fs) (od++[(i:Int)]):=by
 have hfi:(i:Int)∉fs:=fun h=>hn (P.fst _ h).1
 have Wk:v∈fs→v≠i:=fun h e=>hfi (e ▸ h)
 have gc:∀x,x≠i→gt (cls.set i v) x=gt cls x:=fun x hx=>by rw [iG (by rw [P.lc]; exact hi),if_neg hx]
 have gi:gt (cls.set i v) i=v:=by rw [iG (by rw [P.lc]; exact hi),if_pos rfl]
 have ne:∀{x:Nat},(x:Int)∈od→x≠i:=fun h e=>hn (by rw [←e]; exact h)
 have ad:∀x:Nat,((x:Int)∈od∨x=i)→∀k,k<na l x→((ar l x k:Nat):Int)∈od:=fun x hx k hk=>by
  rcases hx with hx | rfl
  ·exact (P.BC x hx k hk).1
  ·exact (P.Qp _ (oy ok hi hk).1).1 (hr k hk)
 have sm:∀x y:Nat,((x:Int)∈od∨x=i)→((y:Int)∈od∨y=i)→(xR l (cls.set i v) x y↔xR l cls x y):=fun x y hx hy=>by
  constructor
  ·rintro⟨a,b⟩
   refine⟨a,fun k hk=>?_⟩
   have:=b k hk
   rwa [gc _ (ne (ad x hx k hk)),gc _ (ne (ad y hy k (by have:=a.len; unfold na at *; omega)))] at this
  ·rintro⟨a,b⟩
   refine⟨a,fun k hk=>?_⟩
   rw [gc _ (ne (ad x hx k hk)),gc _ (ne (ad y hy k (by have:=a.len; unfold na at *; omega)))]
   exact b k hk
 have fo:∀f∈fs,((f.toNat:Nat):Int)∈od∧((f.toNat:Nat):Int)=f:=fun f hf=>by
  have h:=P.fst f hf
  have r:=P.VD f h.1
  have e:((f.toNat:Nat):Int)=f:=by omega
  exact⟨by rw [e]; exact h.1,e⟩
 have split:∀{x:Int},x∈od++[(i:Int)]→x∈od∨x=i:=fun h=>by
  rcases ai3.1 h with h | h
  ·exact .inl h
  ·exact .inr (aiU.1 h)
 have one:∀R,L9 l R→∀j:Nat,R i j→(j:Int)∈od→v=gt cls j:=fun R B j hR hj=>by
  obtain⟨g1,g2⟩:=P.vX j hj
  have s1:xR l cls i j:=⟨B.top i j hR,fun k hk=>P.coarse R B _ _ (B.arg i j hR k hk) (ad i (.inr rfl) k hk) (ad j (.inl hj) k (by have:=(B.top i j hR).len; unfold na at *; omega))⟩
  rcases hv with⟨rfl,h⟩| ⟨h1,h2⟩
  ·exact absurd (s1.trans g2) (h _ g1)
  ·exact P.apart v h1 _ g1 (h2.symm.trans (s1.trans g2))
 refine⟨by simpa using P.lc,by simpa using P.ld,?_,?_,fun x hx=>?_,fun x hx k hk=>?_,?_,fun f hf=>?_,fun x hx=>?_,fun f hf g hg hs=>?_,fun R B x y hR hx hy=>?_⟩
 ·rw [ajS]
  refine⟨P.odn,by simp,fun a ha b hb=>?_⟩
  rw [aiU] at hb
  subst hb; intro e; subst e; exact hn ha
 ·intro x hx
  rcases split hx with h | h
  ·exact P.VD x h
  ·omega
 ·rw [Eg (by rw [P.ld]; exact hi),ai3,aiU]
  by_cases e:x=i
  ·subst e; simp
  ·rw [if_neg e,P.Qp x hx]
   constructor
   ·exact fun h=>.inl h
   ·rintro (h | h)
    ·exact h
    ·omega
 ·rcases split hx with h | h
  ·obtain⟨r1,r2⟩:=P.BC x h k hk
   refine⟨ajh _ r1,?_⟩
   rw [aka,if_pos r1,aka,if_pos h]; exact r2
  ·have e:x=i:=by omega
   subst e
   have r1:=ad x (.inr rfl) k hk
   refine⟨ajh _ r1,?_⟩
   rw [aka,if_pos r1,aka,if_neg hn]
   have:=ajD r1
   omega
 ·split
  ·rw [ajS]
   refine⟨P.Zr,by simp,fun a ha b hb=>?_⟩
   rw [aiU] at hb
   subst hb; intro e; subst e; exact hfi ha
  ·exact P.Zr
 ·have WQ:f∈fs∨(f=i∧v=i):=by
   split at hf
   ·rcases ai3.1 hf with h | h
    ·exact .inl h
    ·exact .inr ⟨aiU.1 h,by assumption⟩
   ·exact .inl hf
  rcases WQ with h | ⟨rfl,h2⟩
  ·obtain⟨a,b⟩:=P.fst f h
   refine⟨ajh _ a,?_⟩
   rw [gc _ (by have:=(fo f h).1; exact ne this)]; exact b
  ·refine⟨by simp,?_⟩
   rw [aiP,gi]; exact h2
 ·have inF:∀z∈fs,z∈(if v=(i:Int) then fs++[(i:Int)] else fs):=fun z hz=>by
   split
   ·exact ajh _ hz
   ·exact hz
  rcases split hx with h | h
  ·obtain⟨a,b⟩:=P.vX x h
   rw [gc x (ne h)]
   exact⟨inF _ a,(sm x _ (.inl h) (.inl (fo _ a).1)).2 b⟩
  ·have e:x=i:=by omega
   subst e
   rw [gi]
   rcases hv with⟨rfl,_⟩| ⟨h1,h2⟩
   ·rw [if_pos rfl,aiP]
    exact⟨by simp,xR.refl _⟩
   ·exact⟨inF _ h1,(sm x _ (.inr rfl) (.inl (fo _ h1).1)).2 h2⟩
 ·have cs:∀z,z∈(if v=(i:Int) then fs++[(i:Int)] else fs)→z∈fs∨(z=i∧v=i):=fun z hz=>by
   split at hz
   ·rcases ai3.1 hz with h | h
    ·exact .inl h
    ·exact .inr ⟨aiU.1 h,by assumption⟩
   ·exact .inl hz
  have nov:v=i→∀f∈fs,¬xR l cls i f.toNat:=fun e f hf=>by
   rcases hv with⟨_,h⟩| ⟨h,_⟩
   ·exact h f hf
   ·exact absurd e (Wk h)
  rcases cs f hf with h1 | ⟨rfl,e1⟩
  ·rcases cs g hg with h2 | ⟨rfl,e2⟩
   ·exact P.apart f h1 g h2 ((sm _ _ (.inl (fo f h1).1) (.inl (fo g h2).1)).1 hs)
   ·rw [aiP] at hs
    have:=(sm _ _ (.inl (fo f h1).1) (.inr rfl)).1 hs
    exact absurd this.symm (nov e2 f h1)
  ·rcases cs g hg with h2 | ⟨rfl,e2⟩
   ·rw [aiP] at hs
    have:=(sm _ _ (.inr rfl) (.inl (fo g h2).1)).1 hs
    exact absurd this (nov e1 g h2)
   ·rfl
 ·rcases split hx with h1 | h1
  ·rcases split hy with h2 | h2
   ·rw [gc x (ne h1),gc y (ne h2)]; exact P.coarse R B x y hR h1 h2
   ·have e:y=i:=by omega
    subst e
    rw [gc x (ne h1),gi]
    exact (one _ B.symm x hR h1).symm
  ·have e:x=i:=by omega
   subst e
   rcases split hy with h2 | h2
   ·rw [gc y (ne h2),gi]; exact one R B y hR h2
   ·have e:y=x:=by omega
    subst e; rfl
theorem Ek {m:Nat}(hm:2 ^ 30≤m){l:List ak}(ok:nY l):∀(f i:Nat) (cls:List Int) (dn:List Bool) (fs od:List Int) (more:Bool),i<f→i≤l.length→Qo l cls dn fs od→
  ∃mT Gt Gu lG x Bg,aA.l1 m l f cls dn fs more ((i:Int) - 1)=some (mT,Gt,Gu,lG,x)∧Qo l mT Gt Gu Bg∧od.length≤Bg.length∧
   (lG=true→more=true∨od.length<Bg.length)∧(lG=false→more=false∧Bg=od∧∀j,j<i→(j:Int)∉od→∃k,k<na l j∧((ar l j k:Nat):Int)∉od)
 | 0,i,_,_,_,_,_,hf,_,_=>absurd hf om
 | f+1,0,cls,dn,fs,od,more,hf,hi,P=>by
  unfold aA.l1
  rw [if_neg (by simp)]
  exact⟨cls,dn,fs,more,_,od,rfl,P,aiQ _,fun h=>.inl h,fun h=>⟨h,rfl,fun j hj=>absurd hj om⟩⟩
 | f+1,i+1,cls,dn,fs,od,more,hf,hi,P=>by
  have vM:(2:Nat) ^ 30=1073741824:=by decide
  have h8:=ok.1
  have Ht:i<l.length:=by omega
  unfold aA.l1
  have ei:((i+1:Nat):Int) - 1=(i:Int):=by omega
  have ew:i64.wrap ((i:Int) - 1)=(i:Int) - 1:=bL om om
  have hgb:ix dn (i:Int)=some (gb dn i):=by
   have:=AT (l:=dn) (i:=(i:Int)) om (by rw [aiP,P.ld]; exact Ht)
   rwa [aiP] at this
  rw [ei,ew,if_pos (by simp),hgb,aiI]
  cases hd:gb dn i with
  | true=>
   rw [if_pos rfl]
   obtain⟨mT,Gt,Gu,lG,x,Bg,k1,k2,k3,k4,k5⟩:=Ek hm ok f i cls dn fs od more om om P
   refine⟨mT,Gt,Gu,lG,x,Bg,k1,k2,k3,k4,fun h=>?_⟩
   obtain⟨q1,q2,q3⟩:=k5 h
   refine⟨q1,q2,fun j hj hn=>?_⟩
   by_cases e:j=i
   ·subst e; exact absurd ((P.Qp j Ht).1 hd) hn
   ·exact q3 j om hn
  | false=>
   have Ie:(i:Int)∉od:=fun h=>by rw [(P.Qp i Ht).2 h] at hd; cases hd
   obtain⟨xr,r1,r2,r3⟩:=Pw hm ok P.ld Ht
   rw [if_neg (by simp),k8 om om,aiI,r1,aiI]
   cases xr with
   | false=>
    rw [if_pos (by simp)]
    obtain⟨mT,Gt,Gu,lG,x,Bg,k1,k2,k3,k4,k5⟩:=Ek hm ok f i cls dn fs od more om om P
    refine⟨mT,Gt,Gu,lG,x,Bg,k1,k2,k3,k4,fun h=>?_⟩
    obtain⟨q1,q2,q3⟩:=k5 h
    refine⟨q1,q2,fun j hj hn=>?_⟩
    by_cases e:j=i
    ·subst e
     obtain⟨k,g1,g2⟩:=r3 rfl
     exact⟨k,g1,fun h=>by rw [(P.Qp _ (oy ok Ht g1).1).2 h] at g2; cases g2⟩
    ·exact q3 j om hn
   | true=>
    have Ue:fs.length≤8000:=ajF (KK P.Zr P.fsr) h8
    obtain⟨v,f1,f2⟩:=find_spec hm ok P.lc Ht P.fsr Ue
    have P':=PD ok P Ht Ie (r2 rfl) f2
    have hlen:(od++[(i:Int)]).length=od.length+1:=by simp
    have e2:ix cls (i:Int)=some (gt cls i):=er (by rw [P.lc]; exact Ht)
    have e3:ix (cls.set i v) (i:Int)=some v:=by
     rw [er (by simpa using (by rw [P.lc]; exact Ht)),iG (by rw [P.lc]; exact Ht),if_pos rfl]
    have rest:∀Zs,Qo l (cls.set i v) (dn.set i true) Zs (od++[(i:Int)])→∃mT Gt Gu lG x Bg,aA.l1 m l f (cls.set i v) (dn.set i true) Zs true ((i:Int) - 1)=some (mT,Gt,Gu,lG,x)∧Qo l mT Gt Gu Bg∧od.length≤Bg.length∧
      (lG=true→more=true∨od.length<Bg.length)∧(lG=false→more=false∧Bg=od∧∀j,j<i+1→(j:Int)∉od→∃k,k<na l j∧((ar l j k:Nat):Int)∉od):=fun Zs P2=>by
     obtain⟨mT,Gt,Gu,lG,x,Bg,k1,k2,k3,k4,k5⟩:=Ek hm ok f i _ _ Zs _ true om om P2
     exact⟨mT,Gt,Gu,lG,x,Bg,k1,k2,om,fun _=>.inr om,fun h=>absurd (k5 h).1 (by simp)⟩
    rw [if_neg (by simp),f1,aiI,e2,aiI,aiP,e3,aiI]
    by_cases Wk:v=i
    ·have ux:app 8 fs [(i:Int)]=some (fs++[(i:Int)]):=by unfold app; rw [if_pos (by simp; omega)]
     rw [if_pos (by simpa using Wk),ux,aiI,aiI]
     rw [if_pos Wk] at P'
     exact rest _ P'
    ·rw [if_neg (by simpa using Wk),aiI]
     rw [if_neg Wk] at P'
     exact rest _ P'
theorem PE {m:Nat}(hm:2 ^ 30≤m){l:List ak}(ok:nY l):∀(f:Nat) (cls:List Int) (dn:List Bool) (fs od:List Int),l.length - od.length+1<f→Qo l cls dn fs od→
  ∃mT Gt Gu Bg,aA.l0 m l f cls dn fs true=some (mT,Gt,Gu,false)∧Qo l mT Gt Gu Bg∧∀j,j<l.length→(j:Int)∉Bg→∃k,k<na l j∧((ar l j k:Nat):Int)∉Bg
 | 0,_,_,_,_,hf,_=>absurd hf om
 | f+1,cls,dn,fs,od,hf,P=>by
  have vM:(2:Nat) ^ 30=1073741824:=by decide
  have h8:=ok.1
  unfold aA.l0
  obtain⟨mT,Gt,Gu,lG,x,Bg,k1,k2,k3,k4,k5⟩:=Ek hm ok m l.length cls dn fs od false om (aiQ _) P
  have ew:i64.wrap ((l.length:Int) - 1)=(l.length:Int) - 1:=bL om om
  rw [if_pos rfl,ew,k1,aiI]
  dsimp only
  have RY:=KK k2.odn k2.VD
  cases lG with
  | true=>
   rcases k4 rfl with h | h
   ·cases h
   ·exact PE hm ok f mT Gt Gu Bg om k2
  | false=>
   obtain⟨_,rfl,q⟩:=k5 rfl
   obtain⟨g,rfl⟩:∃g,f=g+1:=⟨f - 1,om⟩
   refine⟨mT,Gt,Gu,Bg,?_,k2,q⟩
   unfold aA.l0
   rw [if_neg (by simp)]
def cY (dn:List Bool):Nat→List Int
 | 0=>[]
 | p+1=>if gb dn p=true then cY dn p else cY dn p++[(p:Int)]
theorem lZ {dn:List Bool}:∀{p:Nat} {x:Int},x∈cY dn p↔∃j:Nat,j<p∧gb dn j=false∧x=j
 | 0,x=>⟨fun h=>by simp [cY] at h,fun ⟨j,h,_⟩=>absurd h om⟩
 | p+1,x=>by
  unfold cY
  have ih:=lZ (dn:=dn) (p:=p) (x:=x)
  split
  ·rename_i h
   rw [ih]
   constructor
   ·rintro⟨j,a,b,c⟩; exact⟨j,om,b,c⟩
   ·rintro⟨j,a,b,c⟩
    refine⟨j,?_,b,c⟩
    by_cases e:j=p
    ·subst e; rw [b] at h; cases h
    ·omega
  ·rename_i h
   rw [ai3,ih,aiU]
   constructor
   ·rintro (⟨j,a,b,c⟩| c)
    ·exact⟨j,om,b,c⟩
    ·exact⟨p,om,by simpa using h,c⟩
   ·rintro⟨j,a,b,c⟩
    by_cases e:j=p
    ·subst e; exact .inr c
    ·exact .inl ⟨j,om,b,c⟩
theorem ll {dn:List Bool}:∀p,(cY dn p).length≤p
 | 0=>aiQ _
 | p+1=>by
  have:=ll (dn:=dn) p
  unfold cY
  split
  ·omega
  ·simp; omega
theorem sF {dn:List Bool}:∀{p k q:Nat},k<q→q<(cY dn p).length→gt (cY dn p) k<gt (cY dn p) q
 | 0,k,q,_,h=>by simp [cY] at h
 | p+1,k,q,hk,h=>by
  unfold cY at h ⊢
  split at h
  ·rename_i g; rw [if_pos g]; exact sF hk h
  ·rename_i g
   rw [if_neg g]
   by_cases hq:q<(cY dn p).length
   ·rw [lE hq,lE om]; exact sF hk hq
   ·have e:q=(cY dn p).length:=by simp at h; omega
    have:gt (cY dn p++[(p:Int)]) q=p:=by
     subst e; unfold gt; rw [ai2,ai0 (aiQ _),ajI]; rfl
    rw [this,lE om]
    obtain⟨j,a,b,c⟩:=lZ.1 (bC (l:=cY dn p) (k:=k) om)
    omega
structure YG (l:List ak)(dn:List Bool)(c0:List Int)(p:Nat)(cls:List Int):Prop where
 lc:cls.length=l.length
 old:∀j,gb dn j=true→gt cls j=gt c0 j
 vX:∀j:Nat,(j:Int)∈cY dn p→gt cls j∈cY dn p∧Alike (nd l j) (nd l (gt cls j))∧∀g∈cY dn p,Alike (nd l j) (nd l g)→gt cls j≤g
theorem PF {m:Nat}{l:List ak}{dn:List Bool}(ok:nY l){cls:List Int}{i:Nat}(hi:i<l.length)(hc:cls.length=l.length)(hlt:∀g∈cY dn i,gt cls g.toNat≠i):∀(f k:Nat),(cY dn i).length - k+2≤f→k≤(cY dn i).length→(∀q,q<k→¬Alike (nd l i) (nd l (gt (cY dn i) q)))→
  ∃v x,aA.l3 m l (i:Int) (cY dn i++[(i:Int)]) f (cls.set i (i:Int)) (k:Int)=some (cls.set i v,x)∧(v=i∧(∀g∈cY dn i,¬Alike (nd l i) (nd l g))∨∃g∈cY dn i,Alike (nd l i) (nd l g)∧v=gt cls g.toNat)
 | 0,k,hf,_,_=>absurd hf om
 | f+1,k,hf,hk,yM=>by
  have h8:=ok.1
  have TQ:=ll (dn:=dn) i
  unfold aA.l3
  have Ht:i<(cls.set i (i:Int)).length:=by simp [hc,hi]
  rw [er Ht,iG om,if_pos rfl,aiI,if_pos (by simp)]
  have hxl:(cY dn i++[(i:Int)]).length=(cY dn i).length+1:=by simp
  by_cases h:k<(cY dn i).length
  ·obtain⟨j,j1,j2,j3⟩:=lZ.1 (bC (l:=cY dn i) (k:=k) h)
   have hx:ix (cY dn i++[(i:Int)]) (k:Int)=some (gt (cY dn i) k):=by rw [er om,lE h]
   obtain⟨xa,a1,a2⟩:=AU (m:=m) (nd l (i:Int)) (nd l (gt (cY dn i) k))
   rw [hx,aiI,if_pos dm,k8 om om,aiI,aiI,k8 om om,aiI,a1,aiI]
   cases xa with
   | false=>
    rw [if_neg (by simp),bL om om,show (k:Int)+1=((k+1:Nat):Int) by omega]
    refine PF ok hi hc hlt f (k+1) om om fun q hq=>?_
    by_cases e:q=k
    ·subst e; intro hA; have:=a2.2 hA; cases this
    ·exact yM q om
   | true=>
    have hA:=a2.1 rfl
    have hgl:(gt (cY dn i) k).toNat<cls.length:=by omega
    have Ys:ix (cls.set i (i:Int)) (gt (cY dn i) k)=some (gt cls (gt (cY dn i) k).toNat):=by
     rw [iV (k:=(gt (cY dn i) k).toNat) om (by simpa using hgl),iG om,if_neg om]
    rw [if_pos rfl,aiI,Ys,aiI,aiI,aiP,List.set_set]
    have e:=hlt _ (bC h)
    obtain⟨g,rfl⟩:∃g,f=g+1:=⟨f - 1,om⟩
    refine⟨gt cls (gt (cY dn i) k).toNat,i64.wrap ((k:Int)+1),?_,.inr ⟨_,bC h,hA,rfl⟩⟩
    unfold aA.l3
    rw [er (by simpa [hc] using hi),iG om,if_pos rfl,aiI,if_neg (by simpa using e)]
  ·have e:k=(cY dn i).length:=by omega
   have hx:ix (cY dn i++[(i:Int)]) (k:Int)=some (i:Int):=by
    rw [er om]
    subst e; unfold gt; rw [ai2,ai0 (aiQ _),ajI]; rfl
   rw [hx,aiI,if_neg (by simp)]
   refine⟨(i:Int),_,rfl,.inl ⟨rfl,fun g hg=>?_⟩⟩
   obtain⟨q,hq,e2⟩:=jd hg
   rw [←e2]; exact yM q om
theorem PG {l:List ak}{dn:List Bool}{c0 cls:List Int}{i:Nat}(hi:i<l.length)(hd:gb dn i=false)(P:YG l dn c0 i cls){v:Int}
  (hv:v=i∧(∀g∈cY dn i,¬Alike (nd l i) (nd l g))∨∃g∈cY dn i,Alike (nd l i) (nd l g)∧v=gt cls g.toNat):YG l dn c0 (i+1) (cls.set i v):=by
 have hr:cY dn (i+1)=cY dn i++[(i:Int)]:=by show (if gb dn i=true then _ else _)=_; rw [if_neg (by rw [hd]; simp)]
 have gc:∀x,x≠i→gt (cls.set i v) x=gt cls x:=fun x hx=>by rw [iG (by rw [P.lc]; exact hi),if_neg hx]
 have gi:gt (cls.set i v) i=v:=by rw [iG (by rw [P.lc]; exact hi),if_pos rfl]
 have Zt:∀{x:Int},x∈cY dn i→0≤x∧x<i:=fun h=>by obtain⟨j,a,b,c⟩:=lZ.1 h; omega
 refine⟨by simpa using P.lc,fun j hj=>?_,fun j hj=>?_⟩
 ·rw [gc j (fun e=>by subst e; rw [hd] at hj; cases hj)]; exact P.old j hj
 ·rw [hr] at hj ⊢
  rcases ai3.1 hj with hj | hj
  ·obtain⟨r1,r2,r3⟩:=P.vX j hj
   have hji:=Zt hj
   rw [gc j om]
   refine⟨ajh _ r1,r2,fun g hg hA=>?_⟩
   rcases ai3.1 hg with hg | hg
   ·exact r3 g hg hA
   ·have:=Zt r1
    rw [aiU] at hg; omega
  ·rw [aiU] at hj
   have e:j=i:=by omega
   subst e
   rw [gi]
   rcases hv with⟨rfl,h⟩| ⟨g,g1,g2,rfl⟩
   ·refine⟨by simp,Alike.refl _,fun g hg hA=>?_⟩
    rcases ai3.1 hg with hg | hg
    ·exact absurd hA (h g hg)
    ·rw [aiU] at hg; omega
   ·have Yz:=Zt g1
    have eg:((g.toNat:Nat):Int)=g:=by omega
    obtain⟨r1,r2,r3⟩:=P.vX g.toNat (by rw [eg]; exact g1)
    rw [eg] at r2 r3
    refine⟨ajh _ r1,g2.trans r2,fun x hx hA=>?_⟩
    rcases ai3.1 hx with hx | hx
    ·exact r3 x hx (g2.symm.trans hA)
    ·have:=Zt r1
     rw [aiU] at hx; omega
theorem Io {m:Nat}(hm:2 ^ 30≤m){l:List ak}(ok:nY l){dn:List Bool}(hd:dn.length=l.length){c0:List Int}:∀(f i:Nat) (cls:List Int),l.length - i<f→i≤l.length→YG l dn c0 i cls→
  ∃mT x,aA.l2 m l dn f cls (cY dn i) (i:Int)=some (mT,cY dn l.length,x)∧YG l dn c0 l.length mT
 | 0,i,cls,hf,_,_=>absurd hf om
 | f+1,i,cls,hf,hi,P=>by
  have vM:(2:Nat) ^ 30=1073741824:=by decide
  have h8:=ok.1
  unfold aA.l2
  by_cases h:i<l.length
  ·have hgb:ix dn (i:Int)=some (gb dn i):=by
    have:=AT (l:=dn) (i:=(i:Int)) om (by rw [aiP]; omega)
    rwa [aiP] at this
   have ew:i64.wrap ((i:Int)+1)=((i+1:Nat):Int):=by rw [bL om om]; omega
   rw [if_pos dm,hgb,aiI,ew]
   cases hdi:gb dn i with
   | true=>
    have hr:cY dn (i+1)=cY dn i:=by show (if gb dn i=true then _ else _)=_; rw [if_pos hdi]
    rw [if_pos rfl,←hr]
    exact Io hm ok hd f (i+1) cls om om ⟨P.lc,P.old,fun j hj=>by rw [hr] at hj ⊢; exact P.vX j hj⟩
   | false=>
    have hr:cY dn (i+1)=cY dn i++[(i:Int)]:=by show (if gb dn i=true then _ else _)=_; rw [if_neg (by rw [hdi]; simp)]
    have TQ:=ll (dn:=dn) i
    have ux:app 8 (cY dn i) [(i:Int)]=some (cY dn i++[(i:Int)]):=by unfold app; rw [if_pos (by simp; omega)]
    obtain⟨v,x,k1,k2⟩:=PF (m:=m) ok h P.lc (fun g hg e=>by
     obtain⟨j,a,b,c⟩:=lZ.1 hg
     have:=(P.vX j (by rw [←c]; exact hg)).1
     obtain⟨j',a',b',c'⟩:=lZ.1 this
     rw [c,aiP] at e; omega) m 0 om om (fun q hq=>absurd hq om)
    have k1:aA.l3 m l (i:Int) (cY dn i++[(i:Int)]) m (cls.set i (i:Int)) 0=_:=k1
    rw [if_neg (by simp),ux,aiI,er (by rw [P.lc]; exact h),aiI,aiP,k1,aiI]
    dsimp only
    rw [←hr]
    exact Io hm ok hd f (i+1) _ om om (PG h hdi P k2)
  ·have e:i=l.length:=by omega
   subst e
   exact⟨cls,_,by rw [if_neg (by simp)],P⟩
end Go.Proofs.YtifafejidnjckaaGreat
