/- Part of the proof: PA1, PA2, PA3, PA4, PA5, PA6, PA7, PR1, PS1, PT6, PS2. -/
import Derived.Test.YtifafejidnjckaaK10
set_option linter.unusedVariables false
set_option linter.unusedSimpArgs false
set_option maxRecDepth 100000
open Bool renaming and_eq_true → Ux, false_eq_true → UE, or_eq_true → Ve, not_true → Vu, true_and → V5
open Int renaming toNat_natCast → UG, natCast_nonneg → VG
open List renaming getElem?_eq_some_iff → UA, getElem?_eq_getElem → UC, length_append → UD, length_set → UF, drop_eq_getElem_cons → UH, length_cons → UI, getElem?_append_left → UJ, append_assoc → UK, replicate → UL, mem_of_getElem? → UM, getElem?_append_right → UO, getD_eq_getElem?_getD → UP, length_map → UQ, mem_cons → UT, mem_singleton → UU, length_nil → UW, map_cons → UX, mem_append → UZ, map_append → U0, getElem?_eq_none → U3, take_append_of_le_length → U4, nil_append → U7, mem_map → U8, getElem?_cons_zero → Vc, drop_zero → Vd, all_cons → Vi, mem_append_left → Vo, take_succ_eq_append_getElem → Vt, length_take → Vz, getElem?_of_mem → VA, getElem?_cons_succ → VB, drop_eq_nil_of_le → VL, append_nil → VT, length_replicate → VU, ext_getElem? → VV, getElem?_set → VW, map_nil → V0
open Nat renaming le_refl → Uy, zero_add → UR, zero_le → Vl, add_comm → VZ, add_zero → V1, sub_self → V3
open Option renaming bind_some → Uu
open Option.some renaming injEq → Uw, inj → Vf
namespace Go.Uf
open Go Go.R
open Go.IntKind (i64 u64 u8 u32)
def iH (to:List Int)(n:Int):Int:=to.getD n.toNat n
def gH (to:List Int):Nat→Int→Int
 | 0,n=>n
 | k+1,n=>iH to (gH to k n)
def B8:List Int→Nat→Nat
 | [],_=>0
 | x::l,i=>(if x=(i:Int) then 0 else 1)+B8 l (i+1)
def p9 (to:List Int):Nat:=B8 to 0
def rp (to:List Int)(n:Int):Int:=gH to (p9 to) n
def Rg (len:Nat)(n:Int):Prop:=0≤n∧n<len
instance (len:Nat) (n:Int):Decidable (Rg len n):=inferInstanceAs (Decidable (_∧_))
structure FD (to:List Int):Prop where
 rg:∀n,Rg to.length n→Rg to.length (iH to n)
 rt:∀n,Rg to.length n→iH to (rp to n)=rp to n
theorem Er:∀(l:List Int) (i:Nat),B8 l i≤l.length
 | [],_=>Uy _
 | x::l,i=>by
  have:=Er l (i+1)
  simp only [B8,UI]
  split<;>omega
theorem vm (to:List Int):p9 to≤to.length:=Er to 0
theorem AQ:∀(l:List Int) (i j:Nat) (b:Int),l[j]? = some ((i+j:Nat):Int)→b≠((i+j:Nat):Int)→B8 (l.set j b) i=B8 l i+1
 | [],_,_,_,h,_=>by simp at h
 | x::l,i,0,b,h,hb=>by
  simp only [Vc,Uw,V1] at h hb
  simp only [List.set_cons_zero,B8,h,if_true]
  rw [if_neg hb]; omega
 | x::l,i,j+1,b,h,hb=>by
  simp only [VB] at h
  have e:i+(j+1)=i+1+j:=by omega
  rw [e] at h hb
  have:=AQ l (i+1) j b h hb
  simp only [List.set_cons_succ,B8,this]; omega
theorem AR:∀(l:List Int) (i:Nat),B8 (l++[((i+l.length:Nat):Int)]) i=B8 l i
 | [],i=>by simp [B8]
 | x::l,i=>by
  have:=AR l (i+1)
  have e:i+(x::l).length=i+1+l.length:=by simp only [UI]; omega
  rw [e]
  show _+B8 (l++_) (i+1)=_+B8 l (i+1)
  rw [this]
section
variable {to:List Int}{a b n:Int}
theorem qZ (h:Rg to.length n):to[n.toNat]? = some (iH to n):=by
 have hl:n.toNat<to.length:=by have:=h.1; have:=h.2; omega
 unfold iH
 rw [UP,UC hl]; rfl
theorem vn (h:Rg to.length n):ix to n=some (iH to n):=by
 unfold ix; rw [if_pos h.1,qZ h]
theorem su (o:FD to)(h:Rg to.length n):∀k,Rg to.length (gH to k n)
 | 0=>h
 | k+1=>o.rg _ (su o h k)
theorem Es (o:FD to)(h:Rg to.length n):Rg to.length (rp to n):=su o h _
theorem xm (h:iH to n=n):∀k,gH to k n=n
 | 0=>rfl
 | k+1=>by show iH to (gH to k n)=n; rw [xm h k,h]
theorem sv (h:iH to n=n):rp to n=n:=xm h _
theorem xn {d:Nat}(h:iH to (gH to d n)=gH to d n):∀e,gH to (d+e) n=gH to d n
 | 0=>rfl
 | e+1=>by show iH to (gH to (d+e) n)=_; rw [xn h e,h]
theorem GD {d:Nat}(hd:d≤p9 to)(h:iH to (gH to d n)=gH to d n):rp to n=gH to d n:=by
 have:=xn h (p9 to - d)
 rw [Nat.add_sub_cancel' hd] at this
 exact this
theorem vo (ha:Rg to.length a):∀n,iH (to.set a.toNat b) n=if n.toNat=a.toNat then b else iH to n:=by
 intro n
 have hl:a.toNat<to.length:=by have:=ha.1; have:=ha.2; omega
 unfold iH
 rw [UP,UP,VW]
 by_cases h:n.toNat=a.toNat
 ·rw [if_pos h.symm,if_pos hl,if_pos h]; rfl
 ·rw [if_neg (fun e=>h e.symm),if_neg h]
theorem AS (ha:Rg to.length a)(h1:iH to a=a)(hne:b≠a):p9 (to.set a.toNat b)=p9 to+1:=by
 have h0:=ha.1
 refine AQ to 0 a.toNat b ?_ ?_
 ·rw [qZ ha,h1]; congr 1; omega
 ·intro e; apply hne; rw [e]; omega
theorem Lp (o:FD to)(ha:Rg to.length a)(hb:Rg to.length b)(h1:iH to a=a)(h2:iH to b=b)(hne:b≠a) :
  FD (to.set a.toNat b)∧∀n,Rg to.length n→rp (to.set a.toNat b) n=if rp to n=a then b else rp to n:=by
 have hl:(to.set a.toNat b).length=to.length:=UF
 have hs:∀n,Rg to.length n→iH (to.set a.toNat b) n=if n=a then b else iH to n:=fun n hn=>by
  rw [vo ha]
  by_cases h:n=a
  ·subst h; simp
  ·rw [if_neg h,if_neg (fun e=>h (by have:=hn.1; have:=ha.1; omega))]
 have sI:iH (to.set a.toNat b) b=b:=by rw [hs b hb,if_neg hne,h2]
 have key:∀n,Rg to.length n→∀d,gH (to.set a.toNat b) d n=gH to d n∨(gH (to.set a.toNat b) d n=b∧gH to d n=a):=fun n hn d=>by
  induction d with
  | zero=>exact .inl rfl
  | succ d ih=>
   show iH _ (gH _ d n)=iH to (gH to d n)∨(iH _ (gH _ d n)=b∧iH to (gH to d n)=a)
   rcases ih with ih | ⟨ih,SS⟩
   ·rw [ih,hs _ (su o hn d)]
    by_cases h:gH to d n=a
    ·rw [if_pos h,h,h1]; exact .inr ⟨rfl,rfl⟩
    ·rw [if_neg h]; exact .inl rfl
   ·rw [ih,SS,h1,sI]; exact .inr ⟨rfl,rfl⟩
 have QN:∀n,Rg to.length n→rp (to.set a.toNat b) n=if rp to n=a then b else rp to n:=fun n hn=>by
  show gH _ (p9 (to.set a.toNat b)) n=_
  rw [AS ha h1 hne]
  have hr:=o.rt n hn
  have SU:=Es o hn
  show iH _ (gH _ (p9 to) n)=_
  rcases key n hn (p9 to) with h | ⟨h,h3⟩
  ·rw [h]
   show iH _ (rp to n)=_
   rw [hs _ SU,hr]
  ·have h3:rp to n=a:=h3
   rw [h,sI,if_pos h3]
 refine⟨⟨fun n hn=>?_,fun n hn=>?_⟩,QN⟩
 ·rw [hl] at hn ⊢
  rw [hs n hn]
  split
  ·exact hb
  ·exact o.rg n hn
 ·rw [hl] at hn
  rw [QN n hn]
  by_cases h:rp to n=a
  ·rw [if_pos h,sI]
  ·rw [if_neg h,hs _ (Es o hn),if_neg h,o.rt n hn]
theorem Lq (o:FD to):FD (to++[(to.length:Int)])∧(∀n,Rg to.length n→rp (to++[(to.length:Int)]) n=rp to n)∧rp (to++[(to.length:Int)]) (to.length:Int)=(to.length:Int):=by
 have hl:(to++[(to.length:Int)]).length=to.length+1:=by simp
 have hn:p9 (to++[(to.length:Int)])=p9 to:=by
  have:=AR to 0
  rw [UR] at this
  exact this
 have hs:∀n,Rg to.length n→iH (to++[(to.length:Int)]) n=iH to n:=fun n h=>by
  have:n.toNat<to.length:=by have:=h.1; have:=h.2; omega
  unfold iH
  rw [UP,UP,UJ this]
 have hz:iH (to++[(to.length:Int)]) (to.length:Int)=(to.length:Int):=by
  unfold iH
  rw [UP,UG,UO (Uy _),V3]; rfl
 have hi:∀n,Rg to.length n→∀k,gH (to++[(to.length:Int)]) k n=gH to k n:=fun n h k=>by
  induction k with
  | zero=>rfl
  | succ k ih=>show iH _ (gH _ k n)=iH to (gH to k n); rw [ih,hs _ (su o h k)]
 have hr:∀n,Rg to.length n→rp (to++[(to.length:Int)]) n=rp to n:=fun n h=>by
  unfold rp; rw [hn]; exact hi n h _
 have hc:∀n,Rg (to.length+1) n→Rg to.length n∨n=to.length:=fun n h=>by
  unfold Rg at h ⊢; omega
 refine⟨⟨fun n h=>?_,fun n h=>?_⟩,hr,sv hz⟩
 ·rw [hl] at h ⊢
  rcases hc n h with h | rfl
  ·rw [hs n h]; have:=o.rg n h; unfold Rg at this ⊢; omega
  ·rw [hz]; exact h
 ·rw [hl] at h
  rcases hc n h with h | rfl
  ·rw [hr n h,hs _ (Es o h),o.rt n h]
  ·rw [sv hz,hz]
end
theorem GF:FD []:=⟨fun n h=>by have:=h.1; have:=h.2; simp at this; omega,fun n h=>by have:=h.1; have:=h.2; simp at this; omega⟩
end Go.Uf
namespace Go.Uf
open Go Go.R
open Go.IntKind (i64 u64 u8 u32)
def gv (N:List aq)(n:Int):aq:=N.getD n.toNat ⟨0,0,⟨#[]⟩,[]⟩
def gO (N:List aq)(n:Int):Prop:=(gv N n).kind≠0
instance (N:List aq) (n:Int):Decidable (gO N n):=inferInstanceAs (Decidable (_≠_))
def Bt (N:List aq)(a b:Int):Prop:=(gO N a∧¬gO N b)∨((gO N a↔gO N b)∧a≤b)
def mA (a b:aq):Prop:=a.kind=b.kind∧a.int=b.int∧a.label.data.toList=b.label.data.toList∧a.args.length=b.args.length
structure Cn (N:List aq)(R:Int→Int):Prop where
 rg:∀n,Rg N.length n→Rg N.length (R n)
 id:∀n,Rg N.length n→R (R n)=R n
 bt:∀n,Rg N.length n→Bt N (R n) n
def Cl (N:List aq)(T:Int→Int):Prop:=∀x y,Rg N.length x→Rg N.length y→T x=T y→gO N x→gO N y→mA (gv N x) (gv N y)∧∀(i:Nat) (a b:Int),(gv N x).args[i]? = some a→(gv N y).args[i]? = some b→T a=T b
def gw (N:List aq)(R T:Int→Int):Prop:=∀x y,Rg N.length x→Rg N.length y→R x=R y→T x=T y
def qK (N:List aq)(R:Int→Int)(L:List (Int × Int)):Prop:=∀T,gw N R T→(∀p∈L,T p.1=T p.2)→∀x y,Rg N.length x→Rg N.length y→R x=R y→gO N x→gO N y→mA (gv N x) (gv N y)∧∀(i:Nat) (a b:Int),(gv N x).args[i]? = some a→(gv N y).args[i]? = some b→T a=T b
def Et (N:List aq):Prop:=∀v∈N,v.args.length≤8∧∀a∈v.args,Rg N.length a
section
variable {N:List aq}{R T:Int→Int}{a b x y n:Int}
theorem AT (h:Rg N.length n):N[n.toNat]? = some (gv N n):=by
 have hl:n.toNat<N.length:=by have:=h.1; have:=h.2; omega
 unfold gv
 rw [UP,UC hl]; rfl
theorem yV (h:Rg N.length n):ix N n=some (gv N n):=by
 unfold ix; rw [if_pos h.1,AT h]
theorem lk (h:Rg N.length n):gv N n∈N:=UM (AT h)
theorem Bt.antisymm (h1:Bt N a b)(h2:Bt N b a):a=b:=by
 unfold Bt at h1 h2
 rcases h1 with h1 | h1<;>rcases h2 with h2 | h2
 ·exact absurd h1.1 h2.2
 ·exact absurd (h2.1.2 h1.1) h1.2
 ·exact absurd (h1.1.2 h2.1) h2.2
 ·omega
theorem Bt.trans {c:Int}(h1:Bt N a b)(h2:Bt N b c):Bt N a c:=by
 unfold Bt at h1 h2 ⊢
 rcases h1 with h1 | h1<;>rcases h2 with h2 | h2
 ·exact absurd h2.1 h1.2
 ·exact .inl ⟨h1.1,fun h=>h1.2 (h2.1.2 h)⟩
 ·exact .inl ⟨h1.1.2 h2.1,h2.2⟩
 ·exact .inr ⟨h1.1.trans h2.1,by omega⟩
theorem Bt.refl:Bt N a a:=.inr ⟨Iff.rfl,Int.le_refl _⟩
theorem Cn.val (c:Cn N R)(h:Rg N.length n)(v:gO N n):gO N (R n):=by
 rcases c.bt n h with h1 | h1
 ·exact h1.1
 ·exact h1.1.2 v
theorem Cn.unique {R2:Int→Int}(c:Cn N R)(c2:Cn N R2)(h1:gw N R R2)(h2:gw N R2 R)(hn:Rg N.length n):R n=R2 n:=by
 have e1:R (R2 n)=R n:=h2 _ _ (c2.rg n hn) hn (c2.id n hn)
 have e2:R2 (R n)=R2 n:=h1 _ _ (c.rg n hn) hn (c.id n hn)
 have b1:=c.bt _ (c2.rg n hn)
 have b2:=c2.bt _ (c.rg n hn)
 rw [e1] at b1
 rw [e2] at b2
 exact b1.antisymm b2
def jO (N:List aq)(a b:Int):Int × Int:=if gO N a↔gO N b then (if a<b then (b,a) else (a,b)) else (if gO N b then (a,b) else (b,a))
theorem tU (a b:Int):Bt N (jO N a b).2 (jO N a b).1∧((jO N a b).1=a∧(jO N a b).2=b∨(jO N a b).1=b∧(jO N a b).2=a):=by
 unfold jO
 by_cases h:gO N a↔gO N b
 ·rw [if_pos h]
  by_cases h2:a<b
  ·rw [if_pos h2]; exact⟨.inr ⟨h,by dsimp only; omega⟩,.inr ⟨rfl,rfl⟩⟩
  ·rw [if_neg h2]; exact⟨.inr ⟨h.symm,by dsimp only; omega⟩,.inl ⟨rfl,rfl⟩⟩
 ·rw [if_neg h]
  by_cases h2:gO N b
  ·rw [if_pos h2]; exact⟨.inl ⟨h2,fun h3=>h ⟨fun _=>h2,fun _=>h3⟩⟩,.inl ⟨rfl,rfl⟩⟩
  ·rw [if_neg h2]
   refine⟨.inl ⟨?_,h2⟩,.inr ⟨rfl,rfl⟩⟩
   by_cases h3:gO N a
   ·exact h3
   ·exact absurd ⟨fun h4=>absurd h4 h3,fun h4=>absurd h4 h2⟩ h
def sm (R:Int→Int)(q:Int × Int)(n:Int):Int:=if R n=q.1 then q.2 else R n
theorem Jc (c:Cn N R){q:Int × Int}(h1:Rg N.length q.1)(h2:Rg N.length q.2)(r1:R q.1=q.1)(r2:R q.2=q.2)(hne:q.2≠q.1)(hb:Bt N q.2 q.1):Cn N (sm R q):=by
 refine⟨fun n hn=>?_,fun n hn=>?_,fun n hn=>?_⟩
 ·unfold sm; split
  ·exact h2
  ·exact c.rg n hn
 ·unfold sm
  by_cases h:R n=q.1
  ·rw [if_pos h,r2,if_neg hne]
  ·rw [if_neg h,c.id n hn,if_neg h]
 ·unfold sm
  split
  ·rename_i h
   have:=c.bt n hn
   rw [h] at this
   exact hb.trans this
  ·exact c.bt n hn
theorem AU {q:Int × Int}:gw N R (sm R q):=fun x y _ _ h=>by unfold sm; rw [h]
theorem vp {q:Int × Int}(ha:R a=q.1)(hb:R b=q.2)(hne:q.2≠q.1):sm R q a=sm R q b:=by
 unfold sm; rw [if_pos ha,hb,if_neg hne]
theorem B9 (c:Cn N R){q:Int × Int}(h1:Rg N.length q.1)(h2:Rg N.length q.2)(s:gw N R T)(h:T q.1=T q.2):gw N (sm R q) T:=by
 have key:∀x,Rg N.length x→T (sm R q x)=T x:=fun x hx=>by
  have e:T (R x)=T x:=s _ _ (c.rg x hx) hx (c.id x hx)
  unfold sm
  split
  ·rename_i h3; rw [←h,←h3,e]
  ·exact e
 intro x y hx hy he
 rw [←key x hx,←key y hy,he]
theorem Ca {p:Int × Int}{L:List (Int × Int)}(h:qK N R (p::L))(Lr:Rg N.length p.1)(Ls:Rg N.length p.2)(he:R p.1=R p.2):qK N R L:=fun T s hL=>h T s fun q hq=>by
 rcases UT.1 hq with rfl | hq
 ·exact s _ _ Lr Ls he
 ·exact hL q hq
theorem Cb (c:Cn N R){p q:Int × Int}{L M:List (Int × Int)}(h:qK N R (p::L))(Lr:Rg N.length p.1)(Ls:Rg N.length p.2)
  (hq:(q.1=R p.1∧q.2=R p.2)∨(q.1=R p.2∧q.2=R p.1)) (hne:q.2≠q.1)
  (hM:gO N (R p.1)→gO N (R p.2)→mA (gv N (R p.1)) (gv N (R p.2))∧∀(i:Nat) (a b:Int),(gv N (R p.1)).args[i]? = some a→(gv N (R p.2)).args[i]? = some b→(a,b)∈M):qK N (sm R q) (L++M):=by
 intro T s hL x y hx hy he vx vy
 have s0:gw N R T:=fun x y hx hy h=>s x y hx hy (AU x y hx hy h)
 have g1:=c.rg _ Lr
 have g2:=c.rg _ Ls
 have tp:T p.1=T p.2:=s _ _ Lr Ls (by
  rcases hq with⟨h1,h2⟩| ⟨h1,h2⟩
  ·exact vp h1.symm h2.symm hne
  ·exact (vp h1.symm h2.symm hne).symm)
 have old:=h T s0 (fun q hq=>by
  rcases UT.1 hq with rfl | hq
  ·exact tp
  ·exact hL q (Vo _ hq))
 have mid:∀x y,Rg N.length x→Rg N.length y→R x=R p.1→R y=R p.2→gO N x→gO N y→mA (gv N x) (gv N y)∧∀(i:Nat) (a b:Int),(gv N x).args[i]? = some a→(gv N y).args[i]? = some b→T a=T b:=by
  intro x y hx hy e1 e2 vx vy
  have v1:gO N (R p.1):=e1 ▸ c.val hx vx
  have v2:gO N (R p.2):=e2 ▸ c.val hy vy
  obtain⟨t0,m0⟩:=hM v1 v2
  obtain⟨t1,m1⟩:=old x (R p.1) hx g1 (by rw [c.id _ Lr,e1]) vx v1
  obtain⟨t2,m2⟩:=old (R p.2) y g2 hy (by rw [c.id _ Ls,e2]) v2 vy
  refine⟨⟨t1.1.trans (t0.1.trans t2.1),t1.2.1.trans (t0.2.1.trans t2.2.1),t1.2.2.1.trans (t0.2.2.1.trans t2.2.2.1),t1.2.2.2.trans (t0.2.2.2.trans t2.2.2.2)⟩,fun i a b ha hb=>?_⟩
  have l1:i<(gv N (R p.1)).args.length:=by rw [←t1.2.2.2]; exact (UA.1 ha).1
  have l2:i<(gv N (R p.2)).args.length:=by rw [←t0.2.2.2]; exact l1
  have k1:=UC l1
  have k2:=UC l2
  rw [m1 i _ _ ha k1,←m2 i _ _ k2 hb]
  exact hL _ (List.mem_append_right _ (m0 i _ _ k1 k2))
 have sym:∀x y,mA (gv N x) (gv N y)∧(∀(i:Nat) (a b:Int),(gv N x).args[i]? = some a→(gv N y).args[i]? = some b→T a=T b)→mA (gv N y) (gv N x)∧∀(i:Nat) (a b:Int),(gv N y).args[i]? = some a→(gv N x).args[i]? = some b→T a=T b:=by
  rintro x y ⟨t,m⟩
  exact⟨⟨t.1.symm,t.2.1.symm,t.2.2.1.symm,t.2.2.2.symm⟩,fun i a b ha hb=>(m i b a hb ha).symm⟩
 by_cases e:R x=R y
 ·exact old x y hx hy e vx vy
 unfold sm at he
 by_cases ex:R x=q.1<;>by_cases ey:R y=q.1
 ·exact absurd (ex.trans ey.symm) e
 ·rw [if_pos ex,if_neg ey] at he
  rcases hq with⟨h1,h2⟩| ⟨h1,h2⟩
  ·exact mid x y hx hy (ex.trans h1) (he.symm.trans h2) vx vy
  ·exact sym _ _ (mid y x hy hx (he.symm.trans h2) (ex.trans h1) vy vx)
 ·rw [if_neg ex,if_pos ey] at he
  rcases hq with⟨h1,h2⟩| ⟨h1,h2⟩
  ·exact sym _ _ (mid y x hy hx (ey.trans h1) (he.trans h2) vy vx)
  ·exact mid x y hx hy (he.trans h2) (ey.trans h1) vx vy
 ·rw [if_neg ex,if_neg ey] at he
  exact absurd he e
theorem Eu (h:qK N R []):Cl N R:=fun x y hx hy e vx vy=>h R (fun _ _ _ _ h=>h) (fun _ h=>by cases h) x y hx hy e vx vy
theorem GG {L:List (Int × Int)}(h:Cl N R)(ha:Et N):qK N R L:=fun T s _ x y hx hy e vx vy=>by
 obtain⟨t,m⟩:=h x y hx hy e vx vy
 exact⟨t,fun i a b h1 h2=>s _ _ ((ha _ (lk hx)).2 a (UM h1)) ((ha _ (lk hy)).2 b (UM h2)) (m i a b h1 h2)⟩
end
end Go.Uf
namespace Go.Uf
open Go Go.R
open Go.IntKind (i64 u64 u8 u32)
theorem Lt (x:Int):i64.wrap x=if x % 18446744073709551616≥9223372036854775808 then x % 18446744073709551616 - 18446744073709551616 else x % 18446744073709551616:=by
 unfold IntKind.wrap; simp [IntKind.signed,IntKind.bits]
theorem ll {x:Int}(h0 : -9223372036854775808≤x)(h1:x<9223372036854775808):i64.wrap x=x:=by
 rw [Lt]; split<;>omega
theorem CK {α:Type}{l:List α}{i:Nat}{a:α}(h:l[i]? = some a):ix l (i:Int)=some a:=by
 unfold ix; rw [if_pos (VG _),UG,h]
theorem yW {α:Type}{b:Nat}{l l2:List α}(h:(l.length+l2.length)*(b+1)≤1099511627776):app b l l2=some (l++l2):=by
 unfold app; rw [if_pos h]
end Go.Uf
namespace Go.Proofs.Ytifafejidnjckaa
open Go Go.R Go.Uf
open Go.IntKind (i64 u64 u8 u32)
structure Inv (s:ab):Prop where
 made:s.aj=true
 len:s.ae.length=s.aa.length
 max:s.aa.length≤8000
 ok:FD s.ae
 cn:Cn s.aa (rp s.ae)
 args:Et s.aa
section
variable {m:Nat}{s:ab}{a b n:Int}
theorem Inv.rg (v:Inv s)(h:Rg s.aa.length n):Rg s.ae.length n:=by rw [v.len]; exact h
theorem Ev (v:Inv s)(h:Rg s.aa.length n):∀(k d:Nat),d≤p9 s.ae→p9 s.ae<k+d→ba.l0 m s k (gH s.ae d n)=some (rp s.ae n)
 | 0,d,h1,h2=>by omega
 | k+1,d,h1,h2=>by
  have hr:=su v.ok (v.rg h) d
  simp only [ba.l0,vn hr,Uu]
  by_cases he:iH s.ae (gH s.ae d n)=gH s.ae d n
  ·rw [GD h1 he]
   simp [he]
  ·have hd:d<p9 s.ae:=by
    rcases Nat.lt_or_ge d (p9 s.ae) with h3 | h3
    ·exact h3
    ·have h4:d=p9 s.ae:=by omega
     exact absurd (h4 ▸ v.ok.rt n (v.rg h)) he
   have:=Ev v h k (d+1) hd (by omega)
   simp only [gH] at this
   rw [this]
   have hb:(iH s.ae (gH s.ae d n)==gH s.ae d n)=false:=by simpa using he
   simp [hb]
theorem Ew (hm:16000≤m)(v:Inv s)(h:Rg s.aa.length n):ba.f m s n=some (rp s.ae n):=by
 have h1:=vm s.ae
 have h2:=v.len
 have h3:=v.max
 have:=Ev (m:=m) v h m 0 (Vl _) (by omega)
 simp only [gH] at this
 simp only [ba.f,this,Uu]
theorem yX (h:Rg s.aa.length n):b4.f m s n=some ((gv s.aa n).kind==0):=by
 simp only [b4.f,yV h,Uu]
theorem Jd (h1:Rg s.aa.length a)(h2:Rg s.aa.length b)(hl:s.ae.length=s.aa.length):cj.f m s a b=some ((jO s.aa a b).1,⟨s.aj,s.aa,s.ae.set (jO s.aa a b).1.toNat (jO s.aa a b).2⟩):=by
 have i1:ix s.ae a=some (iH s.ae a):=vn (by rw [hl]; exact h1)
 have i2:ix s.ae b=some (iH s.ae b):=vn (by rw [hl]; exact h2)
 simp only [cj.f,jn,yX h1,yX h2,Uu,i1,i2]
 unfold jO gO
 by_cases ha:(gv s.aa a).kind=0<;>by_cases hb:(gv s.aa b).kind=0<;>by_cases Kq:a<b
 all_goals
  first
  | have ea:((gv s.aa a).kind==0)=true:=by simpa using ha
  | have ea:((gv s.aa a).kind==0)=false:=by simpa using ha
 all_goals
  first
  | have eb:((gv s.aa b).kind==0)=true:=by simpa using hb
  | have eb:((gv s.aa b).kind==0)=false:=by simpa using hb
 all_goals simp [ha,hb,Kq,i1,i2,ea,eb]
theorem AW:cq.f m s n=some (decide (Rg s.aa.length n)):=by
 unfold cq.f Rg
 by_cases h1:n≥0<;>by_cases h2:n<(s.aa.length:Int)<;>simp [h1,h2]
theorem Inv.join (v:Inv s)(h1:Rg s.aa.length a)(h2:Rg s.aa.length b)(r1:rp s.ae a=a)(r2:rp s.ae b=b)(hne:a≠b) :
  Inv ⟨s.aj,s.aa,s.ae.set (jO s.aa a b).1.toNat (jO s.aa a b).2⟩∧(∀n,Rg s.aa.length n→rp (s.ae.set (jO s.aa a b).1.toNat (jO s.aa a b).2) n=sm (rp s.ae) (jO s.aa a b) n)∧p9 (s.ae.set (jO s.aa a b).1.toNat (jO s.aa a b).2)=p9 s.ae+1:=by
 obtain⟨hb,hq⟩:=tU (N:=s.aa) a b
 generalize jO s.aa a b=q at *
 have g:Rg s.aa.length q.1∧Rg s.aa.length q.2∧rp s.ae q.1=q.1∧rp s.ae q.2=q.2∧q.2≠q.1:=by
  rcases hq with⟨e1,e2⟩| ⟨e1,e2⟩
  ·rw [e1,e2]; exact⟨h1,h2,r1,r2,fun h=>hne h.symm⟩
  ·rw [e1,e2]; exact⟨h2,h1,r2,r1,hne⟩
 obtain⟨g1,g2,g3,g4,g5⟩:=g
 have s1:iH s.ae q.1=q.1:=by have:=v.ok.rt _ (v.rg g1); rwa [g3] at this
 have s2:iH s.ae q.2=q.2:=by have:=v.ok.rt _ (v.rg g2); rwa [g4] at this
 obtain⟨j1,j2⟩:=Uf.Lp v.ok (v.rg g1) (v.rg g2) s1 s2 g5
 have j3:∀n,Rg s.aa.length n→rp (s.ae.set q.1.toNat q.2) n=sm (rp s.ae) q n:=fun n hn=>j2 n (v.rg hn)
 have c:=Jc v.cn g1 g2 g3 g4 g5 hb
 refine⟨⟨v.made,by show (List.set _ _ _).length=_; rw [UF]; exact v.len,v.max,j1,⟨fun n hn=>?_,fun n hn=>?_,fun n hn=>?_⟩,v.args⟩,j3,AS (v.rg g1) s1 g5⟩
 ·show Rg _ (rp (s.ae.set q.1.toNat q.2) n)
  rw [j3 n hn]; exact c.rg n hn
 ·show rp (s.ae.set q.1.toNat q.2) (rp (s.ae.set q.1.toNat q.2) n)=_
  rw [j3 n hn,j3 _ (c.rg n hn),c.id n hn]
 ·show Bt _ (rp (s.ae.set q.1.toNat q.2) n) n
  rw [j3 n hn]; exact c.bt n hn
theorem Ey (x y:aq):∃d,eV.f m x y=some d∧(d=false↔mA x y):=by
 unfold eV.f mA
 have h5:(((x.args.length:Int)==(y.args.length:Int))=true)↔x.args.length=y.args.length:=by rw [beq_iff_eq]; omega
 by_cases h1:x.kind=y.kind
 ·by_cases h2:x.int=y.int
  ·by_cases h3:x.label.data.toList=y.label.data.toList
   ·refine⟨!((x.args.length:Int)==(y.args.length:Int)),by simp [h1,h2,h3],?_⟩
    rw [Bool.not_eq_false',h5]
    exact⟨fun h=>⟨h1,h2,h3,h⟩,fun h=>h.2.2.2⟩
   ·have h6:¬x.label.data=y.label.data:=fun h=>h3 (by rw [h])
    exact⟨true,by simp [h1,h2,h6],by simp [h6]⟩
  ·exact⟨true,by simp [h1,h2],by simp [h2]⟩
 ·exact⟨true,by simp [h1],by simp [h1]⟩
end
end Go.Proofs.Ytifafejidnjckaa
namespace Go.Proofs.Ytifafejidnjckaa
open Go Go.R Go.Uf
open Go.IntKind (i64 u64 u8 u32)
def vJ (p:a6):Int × Int:=(p.jN,p.kL)
def qL (a b:List Int):List a6:=(a.zip b).map fun p=>⟨p.1,p.2⟩
theorem tV {m:Nat}{v2 v3:aq}{s:ab}(hl:v2.args.length=v3.args.length)(h8:v2.args.length≤8):∀(k:Nat) (left:List a6) (i:Nat),i≤v2.args.length→v2.args.length - i<k→left.length+8≤1000000+i→
  az.l1 m v2 v3 k left (i:Int) s=some (left++qL (v2.args.drop i) (v3.args.drop i),(v2.args.length:Int),s)
 | 0,left,i,h1,h2,_=>by omega
 | k+1,left,i,h1,h2,h3=>by
  simp only [az.l1]
  by_cases hi:i<v2.args.length
  ·have QP:i<v3.args.length:=by omega
   have e2:=UC hi
   have e3:=UC QP
   have d:decide ((i:Int)<(v2.args.length:Int))=true:=by rw [decide_eq_true_eq]; omega
   have ea:app 16 left [(⟨v2.args[i],v3.args[i]⟩:a6)]=some (left++[⟨v2.args[i],v3.args[i]⟩]):=yW (by
    simp only [UI,UW]; omega)
   have ew:i64.wrap ((i:Int)+1)=((i+1:Nat):Int):=by rw [ll (by omega) (by omega)]; omega
   rw [if_pos d,CK e2,CK e3]
   simp only [Uu,ea,ew]
   rw [tV hl h8 k _ (i+1) (by omega) (by omega) (by simp only [UD,UI,UW]; omega)]
   have e4:qL (v2.args.drop i) (v3.args.drop i)=⟨v2.args[i],v3.args[i]⟩::qL (v2.args.drop (i+1)) (v3.args.drop (i+1)):=by
    unfold qL
    rw [UH hi,UH QP]; rfl
   rw [e4,UK]; rfl
  ·have d:decide ((i:Int)<(v2.args.length:Int))=false:=by rw [decide_eq_false_iff_not]; omega
   have e:i=v2.args.length:=by omega
   rw [if_neg (by rw [d]; decide),e]
   simp [qL]
def Cc (s s':ab)(l:List Int):Prop:=s'.aj=s.aj∧s'.aa=s.aa∧s'.ae.length=s.ae.length∧(∀n∈l,Rg s.ae.length n∧iH s.ae n=n)∧∀n,Rg s.ae.length n→n∉l→iH s'.ae n=iH s.ae n
theorem Cc.refl (s:ab):Cc s s []:=⟨rfl,rfl,rfl,fun n h=>absurd h (by simp),fun _ _ _=>rfl⟩
theorem Cc.step {s s':ab}{l:List Int}{a b:Int}(ha:Rg s.ae.length a)(hr:iH s.ae a=a)(hne:b≠a)(u:Cc ⟨s.aj,s.aa,s.ae.set a.toNat b⟩ s' l):Cc s s' (a::l):=by
 obtain⟨u1,u2,u3,u4,u5⟩:=u
 have hl:(s.ae.set a.toNat b).length=s.ae.length:=UF
 have hs:=vo (b:=b) ha
 have e:∀n,Rg s.ae.length n→n≠a→iH (s.ae.set a.toNat b) n=iH s.ae n:=fun n hn h=>by
  rw [hs,if_neg (fun e=>h (by have:=hn.1; have:=ha.1; omega))]
 refine⟨u1,u2,u3.trans hl,fun n hn=>?_,fun n hn hm=>?_⟩
 ·rcases UT.1 hn with rfl | hn
  ·exact⟨ha,hr⟩
  ·obtain⟨g1,g2⟩:=u4 n hn
   have g1:Rg (s.ae.set a.toNat b).length n:=g1
   have g2:iH (s.ae.set a.toNat b) n=n:=g2
   rw [hl] at g1
   refine⟨g1,?_⟩
   by_cases h:n=a
   ·subst h; exact hr
   ·rw [e n g1 h] at g2; exact g2
 ·simp only [UT,not_or] at hm
  have:=u5 n (by show Rg (s.ae.set a.toNat b).length n; rw [hl]; exact hn) hm.2
  rw [this]
  exact e n hn hm.1
def AX (s:ab)(L:List (Int × Int))(ch:List Int):Sum ((List Int) × Bool × ab) ((List Int) × (List a6) × Int × ab)→Prop
 | .inl (Ez,b,s')=>b=false∧∃l,Ez=ch++l∧Cc s s' l∧Inv s'∧(ch++l).length≤8000∧∀T,Cl s.aa T→gw s.aa (rp s.ae) T→(∀p∈L,T p.1=T p.2)→False
 | .inr (Ez,_,_,s')=>∃l,Ez=ch++l∧Cc s s' l∧Inv s'∧(ch++l).length≤8000∧Cl s.aa (rp s'.ae)∧gw s.aa (rp s.ae) (rp s'.ae)∧(∀p∈L,rp s'.ae p.1=rp s'.ae p.2)∧∀T,Cl s.aa T→gw s.aa (rp s.ae) T→(∀p∈L,T p.1=T p.2)→gw s.aa (rp s'.ae) T
end Go.Proofs.Ytifafejidnjckaa
namespace Go.Uf
open Go Go.R
open Go.IntKind (i64 u64 u8 u32)
theorem gw.trans {N:List aq}{R S T:Int→Int}(a:gw N R S)(b:gw N S T):gw N R T:=fun x y hx hy h=>b x y hx hy (a x y hx hy h)
theorem gw.congr {N:List aq}{R S T:Int→Int}(e:∀n,Rg N.length n→R n=S n)(b:gw N S T):gw N R T:=fun x y hx hy h=>b x y hx hy (by rw [←e x hx,←e y hy,h])
theorem gw.Je {N:List aq}{R S T:Int→Int}(e:∀n,Rg N.length n→S n=T n)(b:gw N R S):gw N R T:=fun x y hx hy h=>by rw [←e x hx,←e y hy]; exact b x y hx hy h
theorem qK.congr {N:List aq}{R S:Int→Int}{L:List (Int × Int)}(e:∀n,Rg N.length n→R n=S n)(p:qK N S L):qK N R L:=fun T s hL x y hx hy h=>p T (s.congr fun n hn=>(e n hn).symm) hL x y hx hy (by rw [←e x hx,←e y hy,h])
end Go.Uf
namespace Go.Proofs.Ytifafejidnjckaa
open Go Go.R Go.Uf
open Go.IntKind (i64 u64 u8 u32)
section
variable {s:ab}
theorem GH {ch:List Int}{left M:List a6}{i:Nat}{p:a6}{q:Int × Int}{out:Sum ((List Int) × Bool × ab) ((List Int) × (List a6) × Int × ab)}
  (v:Inv s) (hp:left[i]? = some p) (h1:Rg s.aa.length p.jN) (h2:Rg s.aa.length p.kL)
  (hq:(q.1=rp s.ae p.jN∧q.2=rp s.ae p.kL)∨(q.1=rp s.ae p.kL∧q.2=rp s.ae p.jN)) (hne:q.2≠q.1)
  (hr:∀n,Rg s.aa.length n→rp (s.ae.set q.1.toNat q.2) n=sm (rp s.ae) q n)
  (hM:∀T,Cl s.aa T→T (rp s.ae p.jN)=T (rp s.ae p.kL)→∀x∈M,T x.jN=T x.kL)
  (h:AX ⟨s.aj,s.aa,s.ae.set q.1.toNat q.2⟩ (((left++M).drop (i+1)).map vJ) (ch++[q.1]) out):AX s ((left.drop i).map vJ) ch out:=by
 have hi:i<left.length:=(UA.1 hp).1
 have MF:left[i]=p:=(UA.1 hp).2
 have ed:left.drop i=p::left.drop (i+1):=by rw [UH hi,MF]
 have Jf:(left++M).drop (i+1)=left.drop (i+1)++M:=List.drop_append_of_le_length (by omega)
 have g1:=v.cn.rg _ h1
 have g2:=v.cn.rg _ h2
 have gq:Rg s.aa.length q.1∧Rg s.aa.length q.2∧rp s.ae q.1=q.1∧rp s.ae q.2=q.2:=by
  rcases hq with⟨e1,e2⟩| ⟨e1,e2⟩
  ·rw [e1,e2]; exact⟨g1,g2,v.cn.id _ h1,v.cn.id _ h2⟩
  ·rw [e1,e2]; exact⟨g2,g1,v.cn.id _ h2,v.cn.id _ h1⟩
 obtain⟨q1,q2,q3,q4⟩:=gq
 have vG:iH s.ae q.1=q.1:=by have:=v.ok.rt _ (v.rg q1); rwa [q3] at this
 have SV:gw s.aa (rp s.ae) (rp (s.ae.set q.1.toNat q.2)):=gw.Je (fun n hn=>(hr n hn).symm) AU
 have SW:rp (s.ae.set q.1.toNat q.2) p.jN=rp (s.ae.set q.1.toNat q.2) p.kL:=by
  rw [hr _ h1,hr _ h2]
  rcases hq with⟨e1,e2⟩| ⟨e1,e2⟩
  ·exact vp e1.symm e2.symm hne
  ·exact (vp e1.symm e2.symm hne).symm
 have Lu:∀T,Cl s.aa T→gw s.aa (rp s.ae) T→(∀x∈(left.drop i).map vJ,T x.1=T x.2)→gw s.aa (rp (s.ae.set q.1.toNat q.2)) T∧∀x∈((left++M).drop (i+1)).map vJ,T x.1=T x.2:=by
  intro T cT sT hT
  have tp:T p.jN=T p.kL:=hT (vJ p) (by rw [ed]; simp)
  have ta:T (rp s.ae p.jN)=T p.jN:=sT _ _ g1 h1 (v.cn.id _ h1)
  have tb:T (rp s.ae p.kL)=T p.kL:=sT _ _ g2 h2 (v.cn.id _ h2)
  have tt:T (rp s.ae p.jN)=T (rp s.ae p.kL):=by rw [ta,tb,tp]
  refine⟨gw.congr hr (B9 v.cn q1 q2 sT ?_),fun x hx=>?_⟩
  ·rcases hq with⟨e1,e2⟩| ⟨e1,e2⟩
   ·rw [e1,e2]; exact tt
   ·rw [e1,e2]; exact tt.symm
  ·rw [Jf,U0] at hx
   rcases UZ.1 hx with hx | hx
   ·exact hT x (by rw [ed]; simp only [UX]; exact List.mem_cons_of_mem _ hx)
   ·obtain⟨y,hy,rfl⟩:=U8.1 hx
    exact hM T cT tt y hy
 match out,h with
 | .inl (Ez,b,s'),⟨hb,l,e,u,v',hl,hT⟩=>
  exact⟨hb,q.1::l,by rw [e]; simp,Cc.step (v.rg q1) vG hne u,v',by simpa using hl,fun T cT sT pT=>by
   obtain⟨k1,k2⟩:=Lu T cT sT pT
   exact hT T cT k1 k2⟩
 | .inr (Ez,Hy,i',s'),⟨l,e,u,v',hl,hc,hs,Mi,hT⟩=>
  refine⟨q.1::l,by rw [e]; simp,Cc.step (v.rg q1) vG hne u,v',by simpa using hl,hc,SV.trans hs,fun x hx=>?_,fun T cT sT pT=>?_⟩
  ·rw [ed] at hx
   simp only [UX] at hx
   rcases UT.1 hx with rfl | hx
   ·exact hs _ _ h1 h2 SW
   ·exact Mi x (by rw [Jf,U0]; exact Vo _ hx)
  ·obtain⟨k1,k2⟩:=Lu T cT sT pT
   exact hT T cT k1 k2
theorem AY {a b:List Int}{x:a6}(h:x∈qL a b):∃i:Nat,a[i]? = some x.jN∧b[i]? = some x.kL:=by
 unfold qL at h
 obtain⟨p,hp,rfl⟩:=U8.1 h
 obtain⟨i,hi⟩:=VA hp
 rw [List.getElem?_zip_eq_some] at hi
 exact⟨i,hi⟩
theorem GI {a b:List Int}{i:Nat}{x y:Int}(h1:a[i]? = some x)(h2:b[i]? = some y):(x,y)∈(qL a b).map vJ:=by
 unfold qL
 rw [List.map_map]
 refine U8.2 ⟨(x,y),?_,rfl⟩
 exact UM (i:=i) (List.getElem?_zip_eq_some.2 ⟨h1,h2⟩)
theorem pA {m:Nat}(hm:16000≤m):∀(k:Nat) (s:ab) (ch:List Int) (left:List a6) (i:Nat),i≤left.length→9*(s.aa.length - p9 s.ae)+(left.length - i)<k→left.length≤1+8*p9 s.ae→ch.length≤p9 s.ae→Inv s→
  (∀p∈left,Rg s.aa.length p.jN∧Rg s.aa.length p.kL)→qK s.aa (rp s.ae) ((left.drop i).map vJ)→∃out,az.l0 m k ch left (i:Int) s=some out∧AX s ((left.drop i).map vJ) ch out
 | 0,s,ch,left,i,h1,h2,h3,h4,v,hin,hp=>by omega
 | k+1,s,ch,left,i,h1,h2,h3,h4,v,hin,hp=>by
  have n1:=vm s.ae
  have n2:=v.len
  have n3:=v.max
  simp only [az.l0]
  by_cases hi:i<left.length
  rotate_left
  ·have d:decide ((i:Int)<(left.length:Int))=false:=by rw [decide_eq_false_iff_not]; omega
   rw [if_neg (by rw [d]; decide)]
   have hd:left.drop i=[]:=VL (by omega)
   rw [hd] at hp ⊢
   exact⟨_,rfl,[],by simp,Cc.refl s,v,by simp; omega,Eu hp,fun _ _ _ _ h=>h,fun x hx=>by simp at hx,fun T _ s _=>s⟩
  have d:decide ((i:Int)<(left.length:Int))=true:=by rw [decide_eq_true_eq]; omega
  have ep:=UC hi
  generalize left[i]=p at ep
  obtain⟨ra,rb⟩:=hin p (UM ep)
  have ed:left.drop i=p::left.drop (i+1):=by
   rw [UH hi]; congr 1
   exact (UA.1 ep).2
  have ew:i64.wrap ((i:Int)+1)=((i+1:Nat):Int):=by rw [ll (by omega) (by omega)]; omega
  rw [if_pos d,CK ep]
  simp only [Uu,Ew hm v ra,Ew hm v rb,ew]
  have ga:=v.cn.rg _ ra
  have gb:=v.cn.rg _ rb
  have Mi:qK s.aa (rp s.ae) (vJ p::(left.drop (i+1)).map vJ):=by rw [ed] at hp; exact hp
  by_cases he:rp s.ae p.jN=rp s.ae p.kL
  ·have c1:(rp s.ae p.jN==rp s.ae p.jN&&rp s.ae p.kL==rp s.ae p.jN)=true:=by simp [he]
   rw [if_pos c1]
   obtain⟨out,e1,e2⟩:=pA hm k s ch left (i+1) (by omega) (by omega) h3 h4 v hin (Ca Mi ra rb he)
   refine⟨out,e1,?_⟩
   match out,e2 with
   | .inl (Ez,b,s'),⟨hb,l,e,u,v',hl,hT⟩=>
    exact⟨hb,l,e,u,v',hl,fun T cT sT pT=>hT T cT sT fun x hx=>pT x (by rw [ed]; simp only [UX]; exact List.mem_cons_of_mem _ hx)⟩
   | .inr (Ez,Hy,i',s'),⟨l,e,u,v',hl,hc,hs,hq,hT⟩=>
    refine⟨l,e,u,v',hl,hc,hs,fun x hx=>?_,fun T cT sT pT=>hT T cT sT fun x hx=>pT x (by rw [ed]; simp only [UX]; exact List.mem_cons_of_mem _ hx)⟩
    rw [ed] at hx
    simp only [UX] at hx
    rcases UT.1 hx with rfl | hx
    ·exact hs _ _ ra rb he
    ·exact hq x hx
  ·have c1:¬(rp s.ae p.jN==rp s.ae p.jN&&rp s.ae p.kL==rp s.ae p.jN)=true:=by
    simp only [BEq.rfl,V5,beq_iff_eq]; exact fun h=>he h.symm
   rw [if_neg c1]
   simp only [yV ga,yV gb,Uu]
   obtain⟨jv,jr,jn⟩:=v.join ga gb (v.cn.id _ ra) (v.cn.id _ rb) he
   have ej:=Jd (m:=m) ga gb v.len
   obtain⟨ob,oq⟩:=tU (N:=s.aa) (rp s.ae p.jN) (rp s.ae p.kL)
   have hne:(jO s.aa (rp s.ae p.jN) (rp s.ae p.kL)).2≠(jO s.aa (rp s.ae p.jN) (rp s.ae p.kL)).1:=by
    rcases oq with⟨e1,e2⟩| ⟨e1,e2⟩
    ·rw [e1,e2]; exact fun h=>he h.symm
    ·rw [e1,e2]; exact he
   generalize jO s.aa (rp s.ae p.jN) (rp s.ae p.kL)=q at *
   have QQ:(q.1=rp s.ae p.jN∧q.2=rp s.ae p.kL)∨(q.1=rp s.ae p.kL∧q.2=rp s.ae p.jN):=oq
   have n4:=vm (s.ae.set q.1.toNat q.2)
   rw [UF,jn] at n4
   have QR:∀M:List a6,M.length≤8→(∀x∈M,Rg s.aa.length x.jN∧Rg s.aa.length x.kL)→
     (∀T,Cl s.aa T→T (rp s.ae p.jN)=T (rp s.ae p.kL)→∀x∈M,T x.jN=T x.kL)→
     (gO s.aa (rp s.ae p.jN)→gO s.aa (rp s.ae p.kL)→mA (gv s.aa (rp s.ae p.jN)) (gv s.aa (rp s.ae p.kL))∧∀(i:Nat) (a b:Int),(gv s.aa (rp s.ae p.jN)).args[i]? = some a→(gv s.aa (rp s.ae p.kL)).args[i]? = some b→(a,b)∈M.map vJ)→
     ∃out,((app 8 ch [q.1]).bind fun x=>az.l0 m k x (left++M) ((i+1:Nat):Int) ⟨s.aj,s.aa,s.ae.set q.1.toNat q.2⟩)=some out∧AX s ((left.drop i).map vJ) ch out:=by
    intro M Uo SX SY SZ
    rw [yW (by simp only [UI,UW]; omega),Uu]
    have Jf:((left++M).drop (i+1)).map vJ=(left.drop (i+1)).map vJ++M.map vJ:=by
     rw [List.drop_append_of_le_length (by omega),U0]
    have jn:p9 (s.ae.set q.1.toNat q.2)=p9 s.ae+1:=jn
    obtain⟨out,e1,e2⟩:=pA hm k ⟨s.aj,s.aa,s.ae.set q.1.toNat q.2⟩ (ch++[q.1]) (left++M) (i+1) (by rw [UD]; omega)
     (by show 9*(s.aa.length - p9 (s.ae.set q.1.toNat q.2))+_<k; rw [jn,UD]; omega) (by show _≤1+8*p9 (s.ae.set q.1.toNat q.2); rw [jn,UD]; omega)
     (by show _≤p9 (s.ae.set q.1.toNat q.2); rw [jn,UD]; simp only [UI,UW]; omega) jv
     (fun x hx=>(UZ.1 hx).elim (hin x) (SX x)) (by
      rw [Jf]
      exact qK.congr jr (Cb v.cn (p:=vJ p) Mi ra rb QQ hne SZ))
    exact⟨out,e1,GH v ep ra rb QQ hne jr SY e2⟩
   have Jg:=QR [] (by simp) (fun x hx=>by simp at hx) (fun T _ _ x hx=>by simp at hx)
   rw [VT] at Jg
   by_cases k1:(gv s.aa (rp s.ae p.jN)).kind=0
   ·have b1:(!((gv s.aa (rp s.ae p.jN)).kind==(0:Int)))=false:=by rw [k1]; rfl
    rw [b1,if_neg (by decide),ej]
    exact Jg fun h=>absurd k1 h
   have b1:(!((gv s.aa (rp s.ae p.jN)).kind==(0:Int)))=true:=by simpa using k1
   rw [b1,if_pos rfl]
   by_cases k2:(gv s.aa (rp s.ae p.kL)).kind=0
   ·have b2:(!((gv s.aa (rp s.ae p.kL)).kind==(0:Int)))=false:=by rw [k2]; rfl
    rw [b2,if_neg (by decide),ej]
    exact Jg fun _ h=>absurd k2 h
   have b2:(!((gv s.aa (rp s.ae p.kL)).kind==(0:Int)))=true:=by simpa using k2
   rw [b2,if_pos rfl]
   obtain⟨df,S3,Jf⟩:=Ey (m:=m) (gv s.aa (rp s.ae p.jN)) (gv s.aa (rp s.ae p.kL))
   rw [S3,Uu]
   cases df with
   | true=>
    refine⟨_,rfl,rfl,[],by simp,Cc.refl s,v,by simp; omega,fun T cT sT pT=>?_⟩
    have tp:T p.jN=T p.kL:=pT (vJ p) (by rw [ed]; simp)
    have ta:T (rp s.ae p.jN)=T p.jN:=sT _ _ ga ra (v.cn.id _ ra)
    have tb:T (rp s.ae p.kL)=T p.kL:=sT _ _ gb rb (v.cn.id _ rb)
    have:=(cT _ _ ga gb (by rw [ta,tb,tp]) k1 k2).1
    have:=Jf.2 this
    cases this
   | false=>
    have tp:=Jf.1 rfl
    have a8:=(v.args _ (lk ga)).1
    have el:az.l1 m (gv s.aa (rp s.ae p.jN)) (gv s.aa (rp s.ae p.kL)) m left 0 s=some (left++qL ((gv s.aa (rp s.ae p.jN)).args.drop 0) ((gv s.aa (rp s.ae p.kL)).args.drop 0),((gv s.aa (rp s.ae p.jN)).args.length:Int),s):=tV tp.2.2.2 a8 m left 0 (Vl _) (by omega) (by omega)
    rw [if_neg (by decide),el]
    simp only [Uu,Vd,ej]
    refine QR (qL (gv s.aa (rp s.ae p.jN)).args (gv s.aa (rp s.ae p.kL)).args) ?_ (fun x hx=>?_) (fun T cT hT x hx=>?_) (fun _ _=>⟨tp,fun i a b ha hb=>GI ha hb⟩)
    ·unfold qL; rw [UQ,List.length_zip]; omega
    ·obtain⟨j,j1,j2⟩:=AY hx
     exact⟨(v.args _ (lk ga)).2 _ (UM j1),(v.args _ (lk gb)).2 _ (UM j2)⟩
    ·obtain⟨j,j1,j2⟩:=AY hx
     exact (cT _ _ ga gb hT k1 k2).2 j _ _ j1 j2
end
end Go.Proofs.Ytifafejidnjckaa
namespace Go.Proofs.Ytifafejidnjckaa
open Go Go.R Go.Uf
open Go.IntKind (i64 u64 u8 u32)
section
variable {m:Nat}{s s':ab}
theorem Cd {a b:ab}(h1:a.aj=b.aj)(h2:a.aa=b.aa)(h3:a.ae=b.ae):a=b:=by
 cases a; cases b; cases h1; cases h2; cases h3; rfl
theorem Jh {a b:List Int}(hl:a.length=b.length)(h:∀n,Rg b.length n→iH a n=iH b n):a=b:=by
 refine VV fun i=>?_
 by_cases hi:i<b.length
 ·have r:Rg b.length (i:Int):=⟨VG _,by omega⟩
  have e1:=qZ (to:=b) r
  have e2:=qZ (to:=a) (n:=(i:Int)) (by rw [hl]; exact r)
  rw [UG] at e1 e2
  rw [e1,e2,h _ r]
 ·rw [U3 (by omega),U3 (by omega)]
theorem AZ (l:List Int)(hl:l.length≤8000)(s:ab)(hs:∀n∈l,Rg s.ae.length n∧iH s.ae n=n):∀(k:Nat) (i:Nat) (s':ab),i≤l.length→l.length - i<k→s'.aj=s.aj→s'.aa=s.aa→s'.ae.length=s.ae.length→(∀n,Rg s.ae.length n→n∉l.drop i→iH s'.ae n=iH s.ae n)→
  bb.l0 m l k (i:Int) s'=some ((l.length:Int),s)
 | 0,i,s',h1,h2,_,_,_,_=>by omega
 | k+1,i,s',h1,h2,e1,e2,e3,h=>by
  simp only [bb.l0]
  by_cases hi:i<l.length
  ·have d:decide ((i:Int)<(l.length:Int))=true:=by rw [decide_eq_true_eq]; omega
   have el:=UC hi
   have ed:l.drop i=l[i]::l.drop (i+1):=UH hi
   generalize l[i]=n at el ed
   obtain⟨rn,sn⟩:=hs n (UM el)
   have QS:Rg s'.ae.length n:=by rw [e3]; exact rn
   have ew:i64.wrap ((i:Int)+1)=((i+1:Nat):Int):=by rw [ll (by omega) (by omega)]; omega
   rw [if_pos d,CK el]
   simp only [Uu,vn QS,ew]
   refine AZ l hl s hs k (i+1) _ (by omega) (by omega) e1 e2 (by show (List.set _ _ _).length=_; rw [UF,e3]) (fun x hx hm=>?_)
   show iH (s'.ae.set n.toNat n) x=_
   rw [vo QS]
   by_cases he:x.toNat=n.toNat
   ·have:x=n:=by have:=hx.1; have:=rn.1; omega
    rw [if_pos he,this,sn]
   ·rw [if_neg he]
    refine h x hx ?_
    rw [ed]
    simp only [UT,not_or]
    exact⟨fun e=>he (by rw [e]),hm⟩
  ·have d:decide ((i:Int)<(l.length:Int))=false:=by rw [decide_eq_false_iff_not]; omega
   rw [if_neg (by rw [d]; decide)]
   have hd:l.drop i=[]:=VL (by omega)
   have:s'=s:=Cd e1 e2 (Jh e3 fun n hn=>h n hn (by rw [hd]; simp))
   rw [this]
   congr 2; omega
theorem EA (hm:16000≤m){l:List Int}(hl:l.length≤8000)(u:Cc s s' l):bb.f m s' l=some s:=by
 obtain⟨u1,u2,u3,u4,u5⟩:=u
 have:=AZ (m:=m) l hl s u4 m 0 s' (Vl _) (by omega) u1 u2 u3 (by rw [Vd]; exact u5)
 have this:bb.l0 m l m 0 s'=some ((l.length:Int),s):=this
 simp only [bb.f,this,Uu]
theorem xo {f:Int→Option Bool}{g:Int→Bool}(l:List Int)(hl:l.length≤1000000)(hf:∀x∈l,f x=some (g x)):∀(k i:Nat),i≤l.length→l.length - i<k→
  (∃j:Nat,cz.l0 m l f k (i:Int)=some (.inl (j:Int))∧i≤j∧j<l.length∧(∀x,l[j]? = some x→g x=true)∧∀q,i≤q→q<j→∀x,l[q]? = some x→g x=false)∨
  (∃z,cz.l0 m l f k (i:Int)=some (.inr z)∧∀q,i≤q→∀x,l[q]? = some x→g x=false)
 | 0,i,h1,h2=>by omega
 | k+1,i,h1,h2=>by
  simp only [cz.l0]
  by_cases hi:i<l.length
  ·have d:decide ((i:Int)<(l.length:Int))=true:=by rw [decide_eq_true_eq]; omega
   have el:=UC hi
   generalize l[i]=n at el
   have ew:i64.wrap ((i:Int)+1)=((i+1:Nat):Int):=by rw [ll (by omega) (by omega)]; omega
   rw [if_pos d,CK el]
   simp only [Uu,hf n (UM el),ew]
   cases hg:g n with
   | true=>
    left
    refine⟨i,by simp,Uy _,hi,fun x hx=>?_,fun q h3 h4=>by omega⟩
    rw [el] at hx; cases hx; exact hg
   | false=>
    rw [if_neg (by decide)]
    have iH:∀q,i≤q→q≠i→i+1≤q:=fun q h3 h4=>by omega
    rcases xo l hl hf k (i+1) (by omega) (by omega) with⟨j,e,j1,j2,j3,j4⟩| ⟨z,e,j4⟩
    ·left
     refine⟨j,e,by omega,j2,j3,fun q h3 h4 x hx=>?_⟩
     by_cases hq:q=i
     ·subst hq; rw [el] at hx; cases hx; exact hg
     ·exact j4 q (iH q h3 hq) h4 x hx
    ·right
     refine⟨z,e,fun q h3 x hx=>?_⟩
     by_cases hq:q=i
     ·subst hq; rw [el] at hx; cases hx; exact hg
     ·exact j4 q (iH q h3 hq) x hx
  ·have d:decide ((i:Int)<(l.length:Int))=false:=by rw [decide_eq_false_iff_not]; omega
   rw [if_neg (by rw [d]; decide)]
   right
   refine⟨_,rfl,fun q h3 x hx=>?_⟩
   rw [U3 (by omega)] at hx; cases hx
theorem A0 {f:Int→Option Bool}{g:Int→Bool}(hm:2000000≤m)(l:List Int)(hl:l.length≤1000000)(hf:∀x∈l,f x=some (g x)) :
  (∃j:Nat,cz.f m l f=some (j:Int)∧j<l.length∧(∀x,l[j]? = some x→g x=true)∧∀q,q<j→∀x,l[q]? = some x→g x=false)∨
  (cz.f m l f=some (-1)∧∀x∈l,g x=false):=by
 rcases xo (m:=m) l hl hf m 0 (Vl _) (by omega) with⟨j,e,j1,j2,j3,j4⟩| ⟨z,e,j4⟩
 ·left
  have e:cz.l0 m l f m 0=_:=e
  refine⟨j,by simp only [cz.f,e,Uu],j2,j3,fun q=>j4 q (Vl _)⟩
 ·right
  have e:cz.l0 m l f m 0=_:=e
  refine⟨by simp only [cz.f,e,Uu],fun x hx=>?_⟩
  obtain⟨q,hq⟩:=VA hx
  exact j4 q (Vl _) x hq
theorem sw {f:Int→Option Bool}{g:Int→Bool}(hm:2000000≤m)(l:List Int)(hl:l.length≤1000000)(hf:∀x∈l,f x=some (g x)):ei.f m l f=some (l.any g):=by
 unfold ei.f
 rcases A0 hm l hl hf with⟨j,e,j1,j2,_⟩| ⟨e,h⟩
 ·rw [e,Uu]
  have h1:=UC j1
  have:l.any g=true:=List.any_eq_true.2 ⟨_,UM h1,j2 _ h1⟩
  rw [this]
  rw [show decide ((j:Int)≥0)=true by rw [decide_eq_true_eq]; omega]
 ·rw [e,Uu]
  have:l.any g=false:=by
   rw [List.any_eq_false]
   intro x hx; simp [h x hx]
  rw [this]; rfl
theorem vq (hm:2000000≤m)(hs:s.aj=true)(l:List Int)(hl:l.length≤1000000):bS.f m s l=some (if l.all (fun n=>decide (Rg s.aa.length n)) then 0 else 1):=by
 unfold bS.f bF.f
 rw [hs]
 simp only [Uu,Vu,UE,if_false]
 rw [sw hm l hl (g:=fun n=>!decide (Rg s.aa.length n)) (fun x _=>by simp only [cO.f,AW,Uu])]
 rw [Uu]
 have:(l.any fun n=>!decide (Rg s.aa.length n)) = !(l.all fun n=>decide (Rg s.aa.length n)):=by
  induction l with
  | nil=>rfl
  | cons a l ih=>simp only [List.any_cons,Vi,Bool.not_and,ih (by simp only [UI] at hl; omega)]
 rw [this]
 cases (l.all fun n=>decide (Rg s.aa.length n))<;>rfl
end
end Go.Proofs.Ytifafejidnjckaa
namespace Go.Proofs.Ytifafejidnjckaa
open Go Go.R Go.Uf
open Go.IntKind (i64 u64 u8 u32)
section
variable {m:Nat}{s s':ab}
theorem pB {f:Int→Option Bool}{g:Int→Bool}(l:List Int)(hl:l.length≤1000000)(hf:∀x∈l,f x=some (g x)):∀(k:Nat) (s1:List Int) (i j:Nat),i≤j→i<l.length→j≤l.length→l.length - j<k→s1.length=l.length→s1.take i=(l.take j).filter (fun x=>!g x)→s1.drop j=l.drop j→
  ∃(s2:List Int) (i2:Nat) (z:Int),dF.l0 m l f k s1 (i:Int) (j:Int)=some (s2,(i2:Int),z)∧i2≤l.length∧s2.length=l.length∧s2.take i2=l.filter (fun x=>!g x)
 | 0,s1,i,j,h1,_,h2,h3,_,_,_=>by omega
 | k+1,s1,i,j,h1,h0,h2,h3,h4,h5,h6=>by
  simp only [dF.l0]
  by_cases hj:j<l.length
  ·have d:decide ((j:Int)<(l.length:Int))=true:=by rw [decide_eq_true_eq]; omega
   have el:=UC hj
   have e1:s1[j]? = some l[j]:=by
    have:=congrArg (fun z=>z[0]?) h6
    simp only [List.getElem?_drop,V1] at this
    rw [this,el]
   have et:l.take (j+1)=l.take j++[l[j]]:=(Vt hj)
   have O9:i64.wrap ((j:Int)+1)=((j+1:Nat):Int):=by rw [ll (by omega) (by omega)]; omega
   have S5:i64.wrap ((i:Int)+1)=((i+1:Nat):Int):=by rw [ll (by omega) (by omega)]; omega
   have hd:∀s3:List Int,s3.drop j=l.drop j→s3.drop (j+1)=l.drop (j+1):=fun s3 h=>by
    rw [VZ,←List.drop_drop,←List.drop_drop] at *
    rw [VZ] at *
    have a1:(s3.drop j).drop 1=(l.drop j).drop 1:=by rw [h]
    simpa [List.drop_drop,VZ] using a1
   rw [if_pos d,CK e1]
   simp only [Uu,hf _ (UM el),O9,S5]
   cases hg:g l[j] with
   | true=>
    rw [if_neg (by decide)]
    exact pB l hl hf k s1 i (j+1) (by omega) h0 (by omega) (by omega) h4 (by rw [et,List.filter_append,h5]; simp [hg]) (hd s1 h6)
   | false=>
    rw [if_pos (by decide)]
    have i1:i<s1.length:=by omega
    have e2:=UC i1
    rw [CK e2,Uu,UG]
    by_cases hi:i+1<l.length
    ·refine pB l hl hf k (s1.set i l[j]) (i+1) (j+1) (by omega) hi (by omega) (by omega) (by rw [UF,h4]) ?_ ?_
     ·rw [et,List.filter_append,←h5]
      have:(s1.set i l[j]).take (i+1)=s1.take i++[l[j]]:=by
       rw [Vt (by rw [UF]; exact i1)]
       rw [List.take_set_of_le (Uy _),List.getElem_set_self]
      rw [this]; simp [hg]
     ·rw [List.drop_set_of_lt (by omega)]
      exact hd s1 h6
    ·
     have Fv:j+1=l.length:=by omega
     have xQ:i=j:=by omega
     cases k with
     | zero=>omega
     | succ k=>
      simp only [dF.l0]
      have d2:decide (((j+1:Nat):Int)<(l.length:Int))=false:=by rw [decide_eq_false_iff_not]; omega
      rw [if_neg (by rw [d2]; decide)]
      refine⟨_,i+1,_,rfl,by omega,by rw [UF,h4],?_⟩
      have:(s1.set i l[j]).take (i+1)=s1.take i++[l[j]]:=by
       rw [Vt (by rw [UF]; exact i1)]
       rw [List.take_set_of_le (Uy _),List.getElem_set_self]
      have Lv:l=l.take j++[l[j]]:=by rw [←et,Fv,List.take_length]
      rw [this,h5]
      conv=>rhs; rw [Lv]
      rw [List.filter_append]; simp [hg]
  ·have d:decide ((j:Int)<(l.length:Int))=false:=by rw [decide_eq_false_iff_not]; omega
   rw [if_neg (by rw [d]; decide)]
   have Fv:j=l.length:=by omega
   refine⟨_,i,_,rfl,by omega,h4,?_⟩
   rw [h5,Fv,List.take_length]
theorem EB {f:Int→Option Bool}{g:Int→Bool}(hm:2000000≤m)(l:List Int)(hl:l.length≤1000000)(hf:∀x∈l,f x=some (g x)):dF.f m l f=some (l.filter fun x=>!g x):=by
 unfold dF.f
 rcases A0 hm l hl hf with⟨j,e,j1,j2,j3⟩| ⟨e,h⟩
 ·rw [e,Uu]
  have hne:((j:Int) == -1)=false:=by rw [beq_eq_false_iff_ne]; omega
  have O9:i64.wrap ((j:Int)+1)=((j+1:Nat):Int):=by rw [ll (by omega) (by omega)]; omega
  have el:=UC j1
  obtain⟨s2,i2,z,e2,g1,g2,g3⟩:=pB (m:=m) l hl hf m l j (j+1) (by omega) j1 (by omega) (by omega) rfl (by
   rw [Vt j1,List.filter_append]
   have:(l.take j).filter (fun x=>!g x)=l.take j:=by
    rw [List.filter_eq_self]
    intro x hx
    obtain⟨q,hq⟩:=VA hx
    have Pa:q<j:=by
     have:=(UA.1 hq).1
     rw [Vz] at this; omega
    rw [List.getElem?_take_of_lt Pa] at hq
    rw [j3 q Pa x hq]; rfl
   rw [this]; simp [j2 _ el]) rfl
  rw [hne,if_neg (by decide),O9,e2]
  simp only [Uu]
  have hc:JN s2 (i2:Int)=some (s2.take i2++UL (s2.length - i2) 0):=by
   unfold JN; rw [if_pos ⟨VG _,by omega⟩,UG]
  rw [hc,Uu]
  have hs:Hn (s2.take i2++UL (s2.length - i2) 0) 0 (i2:Int)=some (s2.take i2):=by
   unfold Hn
   rw [if_pos ⟨Int.le_refl _,VG _,by rw [UD,Vz,VU]; omega⟩]
   congr 1
   simp only [UG,Int.toNat_zero,Vd,Nat.sub_zero]
   rw [U4 (by rw [Vz]; omega),List.take_take,Nat.min_self]
  rw [hs,g3]; rfl
 ·rw [e,Uu]
  have hb:((-1:Int) == -1)=true:=rfl
  rw [hb,if_pos rfl]
  congr 1
  rw [eq_comm,List.filter_eq_self]
  intro x hx; rw [h x hx]; rfl
def S8 (N:List aq)(l:List Int):List Int:=kB (l.filter fun n=>(gv N n).kind==0)
theorem A4 (hm:2000000≤m){l:List Int}(hl:l.length≤8000)(hr:∀n∈l,Rg s.aa.length n):cr.f m s l=some (S8 s.aa l):=by
 unfold cr.f
 have h1:CB 8 (l.length:Int) (0:Int)=some (UL l.length 0):=by
  unfold CB; rw [if_pos ⟨VG _,by rw [UG]; omega⟩,UG]
 have h2:KP (UL l.length (0:Int)) l=some l:=by
  unfold KP; rw [if_pos (by rw [VU]; exact Uy _)]; simp
 rw [h1,Uu,h2,Uu]
 rw [EB hm l (by omega) (g:=fun n=>!((gv s.aa n).kind==0)) (fun x hx=>by simp only [cP.f,yX (hr x hx),Uu])]
 simp only [Uu,Bool.not_not]
 rfl
theorem xp (hm:2000000≤m)(v:Inv s)(c:Cl s.aa (rp s.ae)){a b:Int}(ha:Rg s.aa.length a)(hb:Rg s.aa.length b) :
  ∃l ok s',az.f m s a b=some (l,ok,s')∧Cc s s' l∧Inv s'∧l.length≤8000∧
   (ok=false→∀T,Cl s.aa T→gw s.aa (rp s.ae) T→T a=T b→False)∧
   (ok=true→Cl s.aa (rp s'.ae)∧gw s.aa (rp s.ae) (rp s'.ae)∧rp s'.ae a=rp s'.ae b∧∀T,Cl s.aa T→gw s.aa (rp s.ae) T→T a=T b→gw s.aa (rp s'.ae) T):=by
 have n1:=vm s.ae
 have n2:=v.len
 have n3:=v.max
 obtain⟨out,e1,e2⟩:=pA (m:=m) (by omega) m s [] [⟨a,b⟩] 0 (by simp) (by simp only [UI,UW]; omega) (by simp only [UI,UW]; omega) (by simp) v
  (fun p hp=>by simp only [UU] at hp; subst hp; exact⟨ha,hb⟩) (by
   rw [Vd]; exact GG c v.args)
 have e1:az.l0 m m [] [⟨a,b⟩] 0 s=some out:=e1
 unfold az.f
 rw [e1,Uu]
 match out,e2 with
 | .inl (Ez,b',s'),⟨sI,l,e,u,v',hl,hT⟩=>
  subst sI
  rw [U7] at e hl
  subst e
  exact⟨Ez,false,s',rfl,u,v',hl,fun _ T cT sT pT=>hT T cT sT fun p hp=>by
   simp only [Vd,UX,V0,UU] at hp; subst hp; exact pT,fun h=>by cases h⟩
 | .inr (Ez,Hy,i',s'),⟨l,e,u,v',hl,hc,hs,hq,hT⟩=>
  rw [U7] at e hl
  subst e
  exact⟨Ez,true,s',rfl,u,v',hl,(fun h=>by cases h),fun _=>⟨hc,hs,hq (a,b) (by simp [vJ]),fun T cT sT pT=>hT T cT sT fun p hp=>by
   simp only [Vd,UX,V0,UU] at hp; subst hp; exact pT⟩⟩
structure Inv2 (s:ab):Prop where
 inv:Inv s
 cl:Cl s.aa (rp s.ae)
def lA (s:ab)(l:List Int):Bool:=l.all fun n=>decide (Rg s.aa.length n)
theorem EC {a b:Int}(h:lA s [a,b]=true):Rg s.aa.length a∧Rg s.aa.length b:=by
 simpa [lA] using h
theorem vt (hm:2000000≤m)(v:Inv2 s)(a b:Int):∃l e s',b7.f m s a b=some (l,e,s')∧Inv2 s'∧s'.aj=s.aj∧s'.aa=s.aa∧
  ((lA s [a,b]=false∧e=1∧s'=s)∨
   (lA s [a,b]=true∧e=8∧s'=s∧∀T,Cl s.aa T→gw s.aa (rp s.ae) T→T a=T b→False)∨
   (lA s [a,b]=true∧e=0∧gw s.aa (rp s.ae) (rp s'.ae)∧rp s'.ae a=rp s'.ae b∧∀T,Cl s.aa T→gw s.aa (rp s.ae) T→T a=T b→gw s.aa (rp s'.ae) T)):=by
 unfold b7.f
 rw [vq hm v.inv.made [a,b] (by simp)]
 show ∃l e s',((some (if lA s [a,b]=true then (0:Int) else 1)).bind _)=_∧_
 rw [Uu]
 cases hn:lA s [a,b] with
 | false=>
  refine⟨[],1,s,by simp,v,rfl,rfl,.inl ⟨rfl,rfl,rfl⟩⟩
 | true=>
  obtain⟨ra,rb⟩:=EC hn
  obtain⟨l,ok,s',e,u,v',hl,h1,h2⟩:=xp hm v.inv v.cl ra rb
  have e0:(!((if true=true then (0:Int) else 1)==0))=false:=rfl
  rw [e0,if_neg (by decide),e,Uu]
  cases ok with
  | false=>
   rw [if_pos (show (!(l,false,s').2.1)=true from rfl)]
   simp only [EA (m:=m) (by omega) hl u,Uu]
   exact⟨_,_,s,rfl,v,rfl,rfl,.inr (.inl ⟨by simp,rfl,rfl,h1 rfl⟩)⟩
  | true=>
   rw [if_neg (show ¬(!(l,true,s').2.1)=true by simp)]
   have eN:s'.aa=s.aa:=u.2.1
   simp only []
   rw [A4 hm hl (fun n hn=>by rw [eN,←v.inv.len]; exact (u.2.2.2.1 n hn).1)]
   obtain⟨k1,k2,k3,k4⟩:=h2 rfl
   exact⟨_,_,s',rfl,⟨v',by rw [eN]; exact k1⟩,u.1,eN,.inr (.inr ⟨by simp,rfl,k2,k3,k4⟩)⟩
theorem Ji (hm:2000000≤m)(v:Inv2 s)(a b:Int):∃t l e,dr.f m s a b=some (t,l,e,s):=by
 unfold dr.f
 rw [vq hm v.inv.made [a,b] (by simp)]
 show ∃t l e,((some (if lA s [a,b]=true then (0:Int) else 1)).bind _)=_
 rw [Uu]
 cases hn:lA s [a,b] with
 | false=>exact⟨0,[],1,by simp⟩
 | true=>
  obtain⟨ra,rb⟩:=EC hn
  obtain⟨l,ok,s',e,u,v',hl,h1,h2⟩:=xp hm v.inv v.cl ra rb
  have e0:(!((if true=true then (0:Int) else 1)==0))=false:=rfl
  rw [e0,if_neg (by decide),e,Uu]
  simp only [EA (m:=m) (by omega) hl u,Uu]
  rw [A4 hm hl (fun n hn=>by rw [←v.inv.len]; exact (u.2.2.2.1 n hn).1)]
  simp only [Uu]
  cases ok with
  | false=>exact⟨0,[],0,by simp⟩
  | true=>
   rw [if_neg (by simp)]
   split
   ·exact⟨_,_,_,rfl⟩
   ·exact⟨_,_,_,rfl⟩
theorem Lw (hm:2000000≤m)(v:Inv s)(n:Int):dJ.f m s n=some (if Rg s.aa.length n then (rp s.ae n,0) else (0,1)):=by
 unfold dJ.f
 rw [vq hm v.made [n] (by simp)]
 by_cases h:Rg s.aa.length n
 ·simp [h,Ew (m:=m) (by omega) v h]
 ·simp [h]
end
end Go.Proofs.Ytifafejidnjckaa
namespace Go.R
open Go
open Go.IntKind (i64 u64 u8 u32)
theorem ED (x:Int):u64.wrap x=x % 18446744073709551616:=by
 unfold IntKind.wrap; simp [IntKind.signed,IntKind.bits]
theorem Jj {x:Int}(h0:0≤x)(h1:x<18446744073709551616):u64.wrap x=x:=by
 rw [ED,Int.emod_eq_of_lt h0 h1]
theorem EE (x:Int):i64.wrap x=if x % 18446744073709551616≥9223372036854775808 then x % 18446744073709551616 - 18446744073709551616 else x % 18446744073709551616:=by
 unfold IntKind.wrap; simp [IntKind.signed,IntKind.bits]
theorem bH {x:Int}(h0 : -9223372036854775808≤x)(h1:x<9223372036854775808):i64.wrap x=x:=by
 rw [EE]; split<;>omega
end Go.R
namespace Go.Proofs.Ytifafejidnjckaa
open Go Go.R
open Go.IntKind (i64 u64 u8 u32)
def gt (l:List Int)(k:Nat):Int:=l.getD k 0
theorem dY {l:List Int}{k:Nat}(h:k<l.length):l[k]? = some (gt l k):=by
 unfold gt; rw [UP,UC h]; rfl
theorem bN {l:List Int}{k:Nat}(h:k<l.length):gt l k∈l:=UM (dY h)
theorem fD {l:List Int}{k:Nat}(h:k<l.length):ix l (k:Int)=some (gt l k):=by
 unfold ix; rw [if_pos (by omega),UG,dY h]
theorem yY {l:List Int}{i:Int}{k:Nat}(hi:i=(k:Int))(h:k<l.length):ix l i=some (gt l k):=by rw [hi,fD h]
theorem pC {l:List Int}{i k:Nat}{x:Int}(hi:i<l.length):gt (l.set i x) k=if k=i then x else gt l k:=by
 unfold gt
 simp only [UP,VW]
 by_cases h:i=k
 ·subst h; simp [hi]
 ·rw [if_neg h,if_neg (by omega)]
theorem Jk {l r:List Int}(hl:l.length=r.length)(h:∀k,k<l.length→gt l k=gt r k):l=r:=by
 apply VV fun k=>?_
 by_cases hk:k<l.length
 ·rw [dY hk,dY (hl ▸ hk),h k hk]
 ·rw [U3 (by omega),U3 (by omega)]
def swp (l:List Int)(i j:Nat):List Int:=(l.set i (gt l j)).set j (gt l i)
theorem oK {l:List Int}{i j:Nat}(hi:i<l.length)(hj:j<l.length):(swp l i j).Perm l:=by
 have h1:gt l j=l[j]:=by have:=dY hj; rw [UC hj] at this; exact (Vf this).symm
 have h2:gt l i=l[i]:=by have:=dY hi; rw [UC hi] at this; exact (Vf this).symm
 unfold swp; rw [h1,h2]; exact List.set_set_perm hi hj
theorem ln {l:List Int}{i j k:Nat}(hi:i<l.length)(hj:j<l.length):gt (swp l i j) k=if k=j then gt l i else if k=i then gt l j else gt l k:=by
 unfold swp
 rw [pC (by simpa using hj),pC hi]
theorem sy {l:List Int}{i j:Nat}:(swp l i j).length=l.length:=by simp [swp]
theorem xq {a b:Nat}(h:a+b<9223372036854775808):i64.wrap (jb .u64 (u64.wrap (i64.wrap ((a:Int)+(b:Int)))) 1)=(((a+b) / 2:Nat):Int):=by
 rw [bH (x:=(a:Int)+b) (by omega) (by omega),Jj (by omega) (by omega)]
 have:jb .u64 ((a:Int)+(b:Int)) 1=(((a+b) / 2:Nat):Int):=by
  unfold jb
  rw [Int.fdiv_eq_ediv_of_nonneg _ (by decide)]
  show ((a:Int)+(b:Int)) / 2=_
  omega
 rw [this,bH (by omega) (by omega)]
theorem EF {m:Nat}{l:List Int}{a b n:Nat}(h1:a+n≤b)(h2:b+n≤l.length)(hl:l.length<2 ^ 40):∀(f i:Nat) (d:List Int),n - i<f→i≤n→d.Perm l→
  (∀k,gt d k=if a≤k∧k<a+i then gt l (k - a+b) else if b≤k∧k<b+i then gt l (k - b+a) else gt l k)→
  ∃d' x,bQ.l0 m (a:Int) (b:Int) (n:Int) f d (i:Int)=some (d',x)∧d'.Perm l∧(∀k,gt d' k=if a≤k∧k<a+n then gt l (k - a+b) else if b≤k∧k<b+n then gt l (k - b+a) else gt l k)
 | 0,i,d,hf,_,_,_=>absurd hf (by omega)
 | f+1,i,d,hf,hi,hp,hg=>by
  have sK:(2:Nat) ^ 40=1099511627776:=by decide
  have Pb:=hp.length_eq
  unfold bQ.l0
  by_cases h:i<n
  ·have e1:i64.wrap ((b:Int)+(i:Int))=((b+i:Nat):Int):=by rw [bH (by omega) (by omega)]; omega
   have e2:i64.wrap ((a:Int)+(i:Int))=((a+i:Nat):Int):=by rw [bH (by omega) (by omega)]; omega
   have e3:i64.wrap ((i:Int)+1)=((i+1:Nat):Int):=by rw [bH (by omega) (by omega)]; omega
   rw [if_pos (by simp; omega),e1,e2,e3,fD (by omega),fD (by omega),UG,UG,Uu,Uu,Uu,fD (by simp; omega),Uu]
   show ∃d' x,bQ.l0 m (a:Int) (b:Int) (n:Int) f (swp d (a+i) (b+i)) ((i+1:Nat):Int)=some (d',x)∧_
   refine EF h1 h2 hl f (i+1) _ (by omega) (by omega) ((oK (by omega) (by omega)).trans hp) fun k=>?_
   rw [ln (by omega) (by omega),hg,hg,hg]
   by_cases k1:k=b+i
   ·subst k1
    rw [if_pos rfl,if_neg (by omega),if_neg (by omega),if_neg (by omega),if_pos (by omega)]
    congr 1; omega
   ·rw [if_neg k1]
    by_cases k2:k=a+i
    ·subst k2
     rw [if_pos rfl,if_neg (by omega),if_neg (by omega),if_pos (by omega)]
     congr 1; omega
    ·rw [if_neg k2]
     by_cases k3:a≤k∧k<a+i
     ·rw [if_pos k3,if_pos (by omega)]
     ·rw [if_neg k3,if_neg (show ¬(a≤k∧k<a+(i+1)) by omega)]
      by_cases k4:b≤k∧k<b+i
      ·rw [if_pos k4,if_pos (by omega)]
      ·rw [if_neg k4,if_neg (by omega)]
  ·have:i=n:=by omega
   subst this
   exact⟨d,i,by rw [if_neg (by simp)],hp,hg⟩
theorem sA {m:Nat}{l:List Int}{a b n:Nat}{cmp:Int→Int→Option Int}(h1:a+n≤b)(h2:b+n≤l.length)(hl:l.length<2 ^ 40)(hm:n<m) :
  ∃d',bQ.f m l (a:Int) (b:Int) (n:Int) cmp=some d'∧d'.Perm l∧(∀k,gt d' k=if a≤k∧k<a+n then gt l (k - a+b) else if b≤k∧k<b+n then gt l (k - b+a) else gt l k):=by
 obtain⟨d',x,e,hp,hg⟩:=EF (m:=m) h1 h2 hl m 0 l (by omega) (by omega) (List.Perm.refl _) (fun k=>by rw [if_neg (by omega),if_neg (by omega)])
 have e:bQ.l0 m (a:Int) (b:Int) (n:Int) m l 0=_:=e
 exact⟨d',by unfold bQ.f; rw [e]; rfl,hp,hg⟩
def JR (l d:List Int)(p i j:Nat):Prop:=d.Perm l∧(∀k,k<j→gt d (p+k)=gt l (p+i+k))∧(∀k,k<i→gt d (p+j+k)=gt l (p+k))∧∀k,k<p∨p+i+j≤k→gt d k=gt l k
theorem yZ {m:Nat}{q:Nat}{cmp:Int→Int→Option Int}(hm:2 ^ 41≤m):∀(f i j:Nat) (l:List Int),i+j<f→0<i→0<j→i≤q→q+j≤l.length→l.length<2 ^ 40→
  ∃(d':List Int) (x:Nat) (d:List Int),eL.l0 m (q:Int) cmp f l (i:Int) (j:Int)=some (d',(x:Int),(x:Int))∧bQ.f m d' (i64.wrap ((q:Int) - (x:Int))) (q:Int) (x:Int) cmp=some d∧JR l d (q - i) i j
 | 0,i,j,l,hf,_,_,_,_,_=>absurd hf (by omega)
 | f+1,i,j,l,hf,hi,hj,hq,hl,hs=>by
  have sK:(2:Nat) ^ 40=1099511627776:=by decide
  have xU:(2:Nat) ^ 41=2199023255552:=by decide
  unfold eL.l0
  have e1:i64.wrap ((q:Int) - (i:Int))=((q - i:Nat):Int):=by rw [bH (by omega) (by omega)]; omega
  by_cases h:i=j
  ·subst h
   rw [if_neg (by simp)]
   obtain⟨d,e,hp,hg⟩:=sA (m:=m) (l:=l) (a:=q - i) (b:=q) (n:=i) (cmp:=cmp) (by omega) (by omega) hs (by omega)
   refine⟨l,i,d,rfl,by rw [e1,e],hp,fun k hk=>?_,fun k hk=>?_,fun k hk=>?_⟩
   ·rw [hg,if_pos (by omega)]; congr 1; omega
   ·rw [hg,if_neg (by omega),if_pos (by omega)]; congr 1; omega
   ·rw [hg,if_neg (by omega),if_neg (by omega)]
  ·rw [if_pos (by simp; omega)]
   by_cases h2:j<i
   ·obtain⟨d1,e,hp,hg⟩:=sA (m:=m) (l:=l) (a:=q - i) (b:=q) (n:=j) (cmp:=cmp) (by omega) (by omega) hs (by omega)
    have hd:=hp.length_eq
    have e2:i64.wrap ((i:Int) - (j:Int))=((i - j:Nat):Int):=by rw [bH (by omega) (by omega)]; omega
    rw [if_pos (by simp; omega),e1,e,Uu,e2]
    obtain⟨d',x,d,k1,k2,k3,k4,k5,k6⟩:=yZ (q:=q) (cmp:=cmp) hm f (i - j) j d1 (by omega) (by omega) hj (by omega) (by omega) (by omega)
    refine⟨d',x,d,k1,k2,k3.trans hp,fun k hk=>?_,fun k hk=>?_,fun k hk=>?_⟩
    ·rw [k6 _ (by omega),hg,if_pos (by omega)]; congr 1; omega
    ·by_cases Pc:k<j
     ·have:=k4 k Pc
      rw [show q - (i - j)+k=q - i+j+k by omega,hg,if_neg (by omega),if_pos (by omega)] at this
      rw [this]; congr 1; omega
     ·have:=k5 (k - j) (by omega)
      rw [show q - (i - j)+j+(k - j)=q - i+j+k by omega,hg,if_neg (by omega),if_neg (by omega)] at this
      rw [this]; congr 1; omega
    ·rw [k6 _ (by omega),hg,if_neg (by omega),if_neg (by omega)]
   ·have e2:i64.wrap (i64.wrap ((q:Int)+(j:Int)) - (i:Int))=((q+j - i:Nat):Int):=by rw [bH (x:=(q:Int)+j) (by omega) (by omega),bH (by omega) (by omega)]; omega
    have e3:i64.wrap ((j:Int) - (i:Int))=((j - i:Nat):Int):=by rw [bH (by omega) (by omega)]; omega
    obtain⟨d1,e,hp,hg⟩:=sA (m:=m) (l:=l) (a:=q - i) (b:=q+j - i) (n:=i) (cmp:=cmp) (by omega) (by omega) hs (by omega)
    have hd:=hp.length_eq
    rw [if_neg (by simp; omega),e1,e2,e,Uu,e3]
    obtain⟨d',x,d,k1,k2,k3,k4,k5,k6⟩:=yZ (q:=q) (cmp:=cmp) hm f i (j - i) d1 (by omega) hi (by omega) hq (by omega) (by omega)
    refine⟨d',x,d,k1,k2,k3.trans hp,fun k hk=>?_,fun k hk=>?_,fun k hk=>?_⟩
    ·by_cases Pc:k<j - i
     ·rw [k4 k Pc,hg,if_neg (by omega),if_neg (by omega)]
     ·have:=k5 (k - (j - i)) (by omega)
      rw [show q - i+(j - i)+(k - (j - i))=q - i+k by omega,hg,if_pos (by omega)] at this
      rw [this]; congr 1; omega
    ·rw [k6 _ (by omega),hg,if_neg (by omega),if_pos (by omega)]; congr 1; omega
    ·rw [k6 _ (by omega),hg,if_neg (by omega),if_neg (by omega)]
theorem EG {m:Nat}{a q b:Nat}{cmp:Int→Int→Option Int}{l:List Int}(hm:2 ^ 41≤m)(h1:a<q)(h2:q<b)(h3:b≤l.length)(hs:l.length<2 ^ 40) :
  ∃d,eL.f m l (a:Int) (q:Int) (b:Int) cmp=some d∧JR l d a (q - a) (b - q):=by
 have sK:(2:Nat) ^ 40=1099511627776:=by decide
 have xU:(2:Nat) ^ 41=2199023255552:=by decide
 obtain⟨d',x,d,k1,k2,k3⟩:=yZ (q:=q) (cmp:=cmp) hm m (q - a) (b - q) l (by omega) (by omega) (by omega) (by omega) (by omega) hs
 rw [show q - (q - a)=a by omega] at k3
 refine⟨d,?_,k3⟩
 unfold eL.f
 rw [show i64.wrap ((q:Int) - (a:Int))=((q - a:Nat):Int) by rw [bH (by omega) (by omega)]; omega,show i64.wrap ((b:Int) - (q:Int))=((b - q:Nat):Int) by rw [bH (by omega) (by omega)]; omega,k1,Uu]
 dsimp only
 rw [k2]; rfl
end Go.Proofs.Ytifafejidnjckaa
namespace Go.Proofs.Ytifafejidnjckaa
open Go Go.R
open Go.IntKind (i64 u64 u8 u32)
def mQ (c:Int):Bool:=decide (97≤c∧c≤122)||decide (65≤c∧c≤90)||decide (48≤c∧c≤57)||c==95
theorem xr {m:Nat}(c:Int):fH.f m c=some (mQ c):=by
 unfold fH.f
 by_cases h1:97≤c<;>by_cases h2:c≤122<;>by_cases h3:65≤c<;>by_cases h4:c≤90<;>by_cases h5:48≤c<;>by_cases h6:c≤57<;>simp [mQ,h1,h2,h3,h4,h5,h6]<;>omega
theorem A5 {s:ByteArray}{i:Nat}(h:i<s.size):∃c:UInt8,s.data.toList[i]? = some c∧bt s (i:Int)=some (c.toNat:Int):=by
 have h':i<s.data.toList.length:=by simpa using h
 refine⟨s.data.toList[i],UC h',?_⟩
 unfold bt; rw [if_pos (by omega),UG,UC h']; rfl
theorem A6 {m:Nat}{s:ByteArray}(hs:s.size≤16):∀(f i:Nat),s.size - i<f→i≤s.size→
  ∃o,cH.l0 m s f (i:Int)=some o∧((∃x,o = .inr x)∧((s.data.toList.drop i).all fun c=>mQ (c.toNat:Int))=true∨o = .inl false∧((s.data.toList.drop i).all fun c=>mQ (c.toNat:Int))=false)
 | 0,i,hf,_=>absurd hf (by omega)
 | f+1,i,hf,hi=>by
  unfold cH.l0
  by_cases h:i<s.size
  ·obtain⟨c,hc,hb⟩:=A5 h
   obtain⟨h4,h5⟩:=UA.1 hc
   have hd:s.data.toList.drop i=c::s.data.toList.drop (i+1):=by rw [←h5]; exact UH h4
   rw [if_pos (by simp only [decide_eq_true_eq]; omega),hb,Uu,xr,Uu,hd,Vi]
   cases hl:mQ (c.toNat:Int) with
   | false=>exact⟨_,rfl,.inr ⟨rfl,rfl⟩⟩
   | true=>
    obtain⟨o,h1,h2⟩:=A6 (m:=m) hs f (i+1) (by omega) (by omega)
    rw [if_neg (by simp),bH (by omega) (by omega),show (i:Int)+1=((i+1:Nat):Int) by omega,h1]
    exact⟨o,rfl,by simpa using h2⟩
  ·refine⟨_,by rw [if_neg (by simp only [decide_eq_true_eq]; omega)],.inl ⟨⟨_,rfl⟩,?_⟩⟩
   rw [VL (by simp; omega)]; rfl
def A7 (s:ByteArray)(lo hi:Int):Bool:=match s.data.toList with
 | []=>false
 | c::cs=>decide (cs.length≤15)&&decide (lo≤(c.toNat:Int))&&decide ((c.toNat:Int)≤hi)&&((c::cs).all fun c=>mQ (c.toNat:Int))
theorem Ce {m:Nat}(hm:20≤m)(s:ByteArray)(lo hi:Int):cH.f m s lo hi=some (A7 s lo hi):=by
 have hsz:s.size=s.data.toList.length:=by simp
 unfold cH.f A7
 cases hl:s.data.toList with
 | nil=>rw [if_pos (by rw [hl,UW] at hsz; simp only [decide_eq_true_eq]; omega)]
 | cons c cs=>
  rw [hl,UI] at hsz
  rw [if_neg (by simp only [decide_eq_true_eq]; omega)]
  dsimp only
  by_cases h16:cs.length≤15
  ·obtain⟨c',h1,h2⟩:=A5 (s:=s) (i:=0) (by omega)
   rw [hl] at h1
   simp only [Vc,Uw] at h1
   subst h1
   have h2:bt s 0=_:=h2
   rw [if_neg (by simp only [decide_eq_true_eq]; omega),h2,Uu]
   by_cases h3:(c.toNat:Int)<lo
   ·rw [if_pos (by simpa using h3)]
    simp only [Uw]
    rw [show decide (lo≤(c.toNat:Int))=false by simp; omega]; simp
   rw [if_neg (by simpa using h3),Uu]
   by_cases h4:(c.toNat:Int) > hi
   ·rw [if_pos (by simpa using h4)]
    simp only [Uw]
    rw [show decide ((c.toNat:Int)≤hi)=false by simp; omega]; simp
   rw [if_neg (by simpa using h4)]
   obtain⟨o,k1,k2⟩:=A6 (m:=m) (s:=s) (by omega) m 0 (by omega) (by omega)
   have k1:cH.l0 m s m 0=_:=k1
   rw [k1,Uu]
   rw [Vd,hl] at k2
   rw [show decide (lo≤(c.toNat:Int))=true by simp; omega,show decide ((c.toNat:Int)≤hi)=true by simp; omega,show decide (cs.length≤15)=true by simpa using h16]
   simp only [V5]
   rcases k2 with⟨⟨x,rfl⟩,k⟩| ⟨rfl,k⟩
   ·rw [k]
   ·rw [k]
  ·rw [if_pos (by simp only [decide_eq_true_eq]; omega),show decide (cs.length≤15)=false by simp; omega]; rfl
def oL (s:ByteArray):Bool:=s.data.toList==[124]||s.data.toList==[35]||A7 s 97 122
theorem mR {m:Nat}(hm:20≤m)(s:ByteArray):fA.f m s=some (oL s):=by
 unfold fA.f oL
 show (if (s.data.toList==[124])=true then _ else if (s.data.toList==[35])=true then _ else _)=_
 cases h1:s.data.toList==[124] with
 | true=>rfl
 | false=>
  cases h2:s.data.toList==[35] with
  | true=>rfl
  | false=>rw [Ce hm]; rfl
theorem tW {s:ByteArray}(h:oL s=true):1≤s.size∧s.size≤16:=by
 have hsz:s.size=s.data.toList.length:=by simp
 unfold oL at h
 simp only [Ve,beq_iff_eq] at h
 rcases h with (h | h) | h
 ·rw [h] at hsz; simp at hsz; omega
 ·rw [h] at hsz; simp at hsz; omega
 ·unfold A7 at h
  split at h
  ·cases h
  ·rename_i c cs hl
   rw [hl] at hsz
   simp only [Ux,decide_eq_true_eq] at h
   simp at hsz; omega
def A8 (s:ByteArray):Bool:=s.data.toList==[112,114,111,99]||s.data.toList==[99,101,108,108]||s.data.toList==[112,111,114,116]
theorem tX {m:Nat}(s:ByteArray):fP.f m s=some (A8 s):=by
 unfold fP.f A8
 show (if (s.data.toList==[112,114,111,99])=true then _ else if (s.data.toList==[99,101,108,108])=true then _ else some (s.data.toList==[112,111,114,116]))=_
 cases h1:s.data.toList==[112,114,111,99] with
 | true=>rfl
 | false=>
  cases h2:s.data.toList==[99,101,108,108] with
  | true=>rfl
  | false=>rfl
theorem EH {m:Nat}{s:List Int}{f0:Int→Option Bool}{g:Int→Bool}(hs:s.length<2 ^ 40)(C:∀x∈s,f0 x=some (g x)):∀(f i:Nat),s.length - i<f→i≤s.length→
  ∃o,cz.l0 m s f0 f (i:Int)=some o∧((∃x,o = .inr x)∧(s.drop i).any g=false∨(∃x:Nat,o = .inl (x:Int))∧(s.drop i).any g=true)
 | 0,i,hf,_=>absurd hf (by omega)
 | f+1,i,hf,hi=>by
  have sK:(2:Nat) ^ 40=1099511627776:=by decide
  unfold cz.l0
  by_cases h:i<s.length
  ·have hx:ix s (i:Int)=some s[i]:=by unfold ix; rw [if_pos (by omega)]; simp [h]
   rw [if_pos (by simp only [decide_eq_true_eq]; omega),hx,Uu,C _ (List.getElem_mem h),Uu,UH h,List.any_cons]
   cases g s[i] with
   | true=>exact⟨_,rfl,.inr ⟨⟨i,rfl⟩,rfl⟩⟩
   | false=>
    obtain⟨o,h1,h2⟩:=EH (m:=m) hs C f (i+1) (by omega) (by omega)
    rw [if_neg (by simp),bH (by omega) (by omega),show (i:Int)+1=((i+1:Nat):Int) by omega,h1]
    exact⟨o,rfl,by simpa using h2⟩
  ·refine⟨_,by rw [if_neg (by simp only [decide_eq_true_eq]; omega)],.inl ⟨⟨_,rfl⟩,?_⟩⟩
   rw [VL (by omega)]; rfl
theorem Cf {m:Nat}{s:List Int}{f0:Int→Option Bool}{g:Int→Bool}(hs:s.length<2 ^ 40)(hm:s.length<m)(C:∀x∈s,f0 x=some (g x)):ei.f m s f0=some (s.any g):=by
 obtain⟨o,h1,h2⟩:=EH (m:=m) hs C m 0 (by omega) (by omega)
 have h1:cz.l0 m s f0 m 0=_:=h1
 unfold ei.f cz.f
 rw [h1,Uu]
 rw [Vd] at h2
 rcases h2 with⟨⟨x,rfl⟩,k⟩| ⟨⟨x,rfl⟩,k⟩
 ·rw [k]; rfl
 ·rw [k]
  simp only [Uu,Uw]
  simp
theorem EI {m:Nat}{s:List aq}{f0:aq→Option Bool}{g:aq→Bool}(hs:s.length<2 ^ 40)(C:∀x∈s,f0 x=some (g x)):∀(f i:Nat),s.length - i<f→i≤s.length→
  ∃o,eK.l0 m s f0 f (i:Int)=some o∧((∃x,o = .inr x)∧(s.drop i).any g=false∨(∃x:Nat,o = .inl (x:Int))∧(s.drop i).any g=true)
 | 0,i,hf,_=>absurd hf (by omega)
 | f+1,i,hf,hi=>by
  have sK:(2:Nat) ^ 40=1099511627776:=by decide
  unfold eK.l0
  by_cases h:i<s.length
  ·have hx:ix s (i:Int)=some s[i]:=by unfold ix; rw [if_pos (by omega)]; simp [h]
   rw [if_pos (by simp only [decide_eq_true_eq]; omega),hx,Uu,C _ (List.getElem_mem h),Uu,UH h,List.any_cons]
   cases g s[i] with
   | true=>exact⟨_,rfl,.inr ⟨⟨i,rfl⟩,rfl⟩⟩
   | false=>
    obtain⟨o,h1,h2⟩:=EI (m:=m) hs C f (i+1) (by omega) (by omega)
    rw [if_neg (by simp),bH (by omega) (by omega),show (i:Int)+1=((i+1:Nat):Int) by omega,h1]
    exact⟨o,rfl,by simpa using h2⟩
  ·refine⟨_,by rw [if_neg (by simp only [decide_eq_true_eq]; omega)],.inl ⟨⟨_,rfl⟩,?_⟩⟩
   rw [VL (by omega)]; rfl
theorem Cg {m:Nat}{s:List aq}{f0:aq→Option Bool}{g:aq→Bool}(hs:s.length<2 ^ 40)(hm:s.length<m)(C:∀x∈s,f0 x=some (g x)):gF.f m s f0=some (s.any g):=by
 obtain⟨o,h1,h2⟩:=EI (m:=m) hs C m 0 (by omega) (by omega)
 have h1:eK.l0 m s f0 m 0=_:=h1
 unfold gF.f eK.f
 rw [h1,Uu]
 rw [Vd] at h2
 rcases h2 with⟨⟨x,rfl⟩,k⟩| ⟨⟨x,rfl⟩,k⟩
 ·rw [k]; rfl
 ·rw [k]
  simp only [Uu,Uw]
  simp
def oM (n:aq)(size:Int):Bool:=
 if n.kind=0 then decide (0≤n.int)&&n.label.data.toList==[]&&n.args.isEmpty
 else if n.kind=1 then decide (-1099511627776≤n.int)&&decide (n.int≤1099511627776)&&n.label.data.toList==[]&&n.args.isEmpty
 else if n.kind=2 then n.int==0&&oL n.label&&n.args.isEmpty
 else if n.kind=3 then n.int==0&&oL n.label&&decide (1≤n.args.length)&&decide (n.args.length≤8)&&n.args.all fun a=>decide (0≤a)&&decide (a<size)
 else if n.kind=4 then decide (0≤n.int)&&A8 n.label&&n.args.isEmpty
 else false
theorem GJ (l:List Int):((l.length:Int)==(0:Int))=l.isEmpty:=by cases l<;>simp; omega
theorem Ch {m:Nat}(hm:20≤m)(n:aq)(size:Int):ik.f m n size=some (oM n size):=by
 unfold ik.f oM
 by_cases k0:n.kind=0
 ·rw [if_pos (by simpa using k0),if_pos k0]
  by_cases h1:0≤n.int
  ·rw [if_pos (by simpa using h1),show decide (0≤n.int)=true by simpa using h1]
   show (if (n.label.data.toList==[])=true then _ else _)=_
   cases n.label.data.toList==[] with
   | true=>rw [if_pos rfl,GJ]; rfl
   | false=>rfl
  ·rw [if_neg (by simpa using h1),show decide (0≤n.int)=false by simp; omega]; rfl
 rw [if_neg (by simpa using k0),if_neg k0]
 by_cases k1:n.kind=1
 ·rw [if_pos (by simpa using k1),if_pos k1]
  by_cases h1 : -1099511627776≤n.int
  ·rw [if_pos (by simpa using h1),show decide (-1099511627776≤n.int)=true by simpa using h1]
   by_cases h3:n.int≤1099511627776
   ·rw [if_pos (by simpa using h3),show decide (n.int≤1099511627776)=true by simpa using h3]
    show (if (n.label.data.toList==[])=true then _ else _)=_
    cases n.label.data.toList==[] with
    | true=>rw [if_pos rfl,GJ]; rfl
    | false=>rfl
   ·rw [if_neg (by simpa using h3),show decide (n.int≤1099511627776)=false by simp; omega]; rfl
  ·rw [if_neg (by simpa using h1),show decide (-1099511627776≤n.int)=false by simp; omega]; rfl
 rw [if_neg (by simpa using k1),if_neg k1]
 by_cases k2:n.kind=2
 ·rw [if_pos (by simpa using k2),if_pos k2]
  cases h1:n.int==0 with
  | false=>rfl
  | true=>
   rw [if_pos rfl,mR hm,Uu]
   cases oL n.label with
   | false=>rfl
   | true=>rw [if_pos rfl,GJ]; rfl
 rw [if_neg (by simpa using k2),if_neg k2]
 by_cases k3:n.kind=3
 ·rw [if_pos (by simpa using k3),if_pos k3]
  cases h1:n.int==0 with
  | false=>rfl
  | true=>
   rw [if_pos rfl,mR hm,Uu]
   cases oL n.label with
   | false=>rfl
   | true=>
    rw [if_pos rfl]
    by_cases g1:1≤n.args.length
    ·rw [if_pos (by simp only [decide_eq_true_eq]; omega),show decide (1≤n.args.length)=true by simpa using g1]
     by_cases g2:n.args.length≤8
     ·rw [if_pos (by simp only [decide_eq_true_eq]; omega),show decide (n.args.length≤8)=true by simpa using g2]
      rw [Cf (g:=fun a=>!(decide (0≤a)&&decide (a<size))) (by omega) (by omega) (fun a _=>by
       unfold gD.f
       by_cases w:a<0
       ·rw [if_pos (by simpa using w),show decide (0≤a)=false by simp; omega]; rfl
       ·rw [if_neg (by simpa using w),show decide (0≤a)=true by simp; omega]
        by_cases w2:a<size
        ·rw [show decide (a≥size)=false from decide_eq_false (by omega),show decide (a<size)=true from decide_eq_true w2]; rfl
        ·rw [show decide (a≥size)=true from decide_eq_true (by omega),show decide (a<size)=false from decide_eq_false w2]; rfl),Uu]
      simp [List.not_any_eq_all_not]
     ·rw [if_neg (by simp only [decide_eq_true_eq]; omega),show decide (n.args.length≤8)=false from decide_eq_false g2]; rfl
    ·rw [if_neg (by simp only [decide_eq_true_eq]; omega),show decide (1≤n.args.length)=false from decide_eq_false g1]; rfl
 rw [if_neg (by simpa using k3),if_neg k3]
 by_cases k4:n.kind=4
 ·rw [if_pos (by simpa using k4),if_pos k4]
  by_cases h1:0≤n.int
  ·rw [if_pos (by simpa using h1),show decide (0≤n.int)=true by simpa using h1,tX,Uu]
   cases A8 n.label with
   | false=>rfl
   | true=>rw [if_pos rfl,GJ]; rfl
  ·rw [if_neg (by simpa using h1),show decide (0≤n.int)=false by simp; omega]; rfl
 rw [if_neg (by simpa using k4),if_neg k4]
end Go.Proofs.Ytifafejidnjckaa
namespace Go.Proofs.Ytifafejidnjckaa
open Go Go.R
open Go.IntKind (i64 u64 u8 u32)
structure Mv (lo hi:Nat)(l d:List Int):Prop where
 perm:d.Perm l
 out:∀k,k<lo∨hi≤k→gt d k=gt l k
 im:∀k,lo≤k→k<hi→∃k',lo≤k'∧k'<hi∧gt d k=gt l k'
theorem Mv.refl {lo hi:Nat}{l:List Int}:Mv lo hi l l:=⟨List.Perm.refl _,fun _ _=>rfl,fun k h1 h2=>⟨k,h1,h2,rfl⟩⟩
theorem Mv.trans {lo hi:Nat}{l d e:List Int}(a:Mv lo hi l d)(b:Mv lo hi d e):Mv lo hi l e:=
 ⟨b.perm.trans a.perm,fun k hk=>(b.out k hk).trans (a.out k hk),fun k h1 h2=>by
  obtain⟨k',g1,g2,g3⟩:=b.im k h1 h2
  obtain⟨S9,g4,g5,g6⟩:=a.im k' g1 g2
  exact⟨S9,g4,g5,g3.trans g6⟩⟩
theorem Mv.length {lo hi:Nat}{l d:List Int}(a:Mv lo hi l d):d.length=l.length:=a.perm.length_eq
theorem Mv.wide {lo hi Fp jw:Nat}{l d:List Int}(a:Mv lo hi l d)(h1:Fp≤lo)(h2:hi≤jw):Mv Fp jw l d:=
 ⟨a.perm,fun k hk=>a.out k (by omega),fun k h3 h4=>by
  by_cases h:lo≤k∧k<hi
  ·obtain⟨k',g1,g2,g3⟩:=a.im k h.1 h.2
   exact⟨k',by omega,by omega,g3⟩
  ·exact⟨k,h3,h4,a.out k (by omega)⟩⟩
theorem y4 {lo hi i j:Nat}{l:List Int}(LR:lo≤i)(zm:i<hi)(Md:lo≤j)(Fv:j<hi)(h:hi≤l.length):Mv lo hi l (swp l i j):=
 ⟨oK (by omega) (by omega),fun k hk=>by rw [ln (by omega) (by omega),if_neg (by omega),if_neg (by omega)],fun k h1 h2=>by
  rw [ln (by omega) (by omega)]
  split
  ·exact⟨i,LR,zm,rfl⟩
  split
  ·exact⟨j,Md,Fv,rfl⟩
  ·exact⟨k,h1,h2,rfl⟩⟩
def Cm (cmp:Int→Int→Option Int)(c:Int→Int→Int)(l:List Int):Prop:=∀x∈l,∀y∈l,cmp x y=some (c x y)
theorem Cm.perm {cmp c l d}(h:Cm cmp c l)(p:List.Perm d l):Cm cmp c d:=fun x hx y hy=>h x (p.mem_iff.1 hx) y (p.mem_iff.1 hy)
theorem Cm.at {cmp c}{l:List Int}(h:Cm cmp c l){i j:Nat}(hi:i<l.length)(hj:j<l.length):cmp (gt l i) (gt l j)=some (c (gt l i) (gt l j)):=h _ (bN hi) _ (bN hj)
structure Ord (c:Int→Int→Int)(l:List Int):Prop where
 tr:∀x∈l,∀y∈l,∀z∈l,0≤c y x→0≤c z y→0≤c z x
 JS:∀x∈l,∀y∈l,c x y<0→0≤c y x
theorem Ord.perm {c l d}(h:Ord c l)(p:List.Perm d l):Ord c d:=⟨fun x hx y hy z hz=>h.tr x (p.mem_iff.1 hx) y (p.mem_iff.1 hy) z (p.mem_iff.1 hz),fun x hx y hy=>h.JS x (p.mem_iff.1 hx) y (p.mem_iff.1 hy)⟩
def Sg (c:Int→Int→Int)(l:List Int)(a b:Nat):Prop:=∀i j,a≤i→i<j→j<b→0≤c (gt l j) (gt l i)
theorem EJ {m:Nat}{a i:Nat}{cmp:Int→Int→Option Int}{c:Int→Int→Int}:∀(f j:Nat) (d:List Int),j - a<f→a≤j→j≤i→i<d.length→d.length<2 ^ 40→Cm cmp c d→
  ∃d' x,aT.l1 m (a:Int) cmp f d (j:Int)=some (d',x)∧Mv a (i+1) d d'∧
   (Ord c d→(∀x y,a≤x→x<y→y≤i→x≠j→y≠j→0≤c (gt d y) (gt d x))→(∀y,j<y→y≤i→0≤c (gt d y) (gt d j))→Sg c d' a (i+1))
 | 0,j,d,hf,_,_,_,_,_=>absurd hf (by omega)
 | f+1,j,d,hf,h1,h2,h3,hs,C=>by
  have sK:(2:Nat) ^ 40=1099511627776:=by decide
  unfold aT.l1
  by_cases h:a<j
  ·have e1:i64.wrap ((j:Int) - 1)=((j - 1:Nat):Int):=by rw [bH (by omega) (by omega)]; omega
   rw [if_pos (by simp; omega),e1,fD (by omega),fD (by omega),Uu,Uu,C.at (by omega) (by omega),Uu]
   by_cases hc:c (gt d j) (gt d (j - 1))<0
   ·rw [if_pos (by simpa using hc),Uu,Uu,Uu,UG,UG,fD (by simp; omega),Uu]
    obtain⟨d',x,k1,k2,k3⟩:=EJ (m:=m) (a:=a) (i:=i) (cmp:=cmp) (c:=c) f (j - 1) (swp d j (j - 1)) (by omega) (by omega) (by omega) (by rw [sy]; omega) (by rw [sy]; omega) (C.perm (oK (by omega) (by omega)))
    refine⟨d',x,k1,(y4 (by omega) (by omega) (by omega) (by omega) (by omega)).trans k2,fun O g1 g2=>k3 (O.perm (oK (by omega) (by omega))) (fun x y x1 x2 x3 x4 x5=>?_) (fun y y1 y2=>?_)⟩
    ·rw [ln (by omega) (by omega),ln (by omega) (by omega),if_neg x5,if_neg x4]
     by_cases hy:y=j
     ·subst hy
      rw [if_pos rfl,if_neg (by omega)]
      exact g1 _ _ (by omega) (by omega) (by omega) (by omega) (by omega)
     ·rw [if_neg hy]
      by_cases hx:x=j
      ·subst hx
       rw [if_pos rfl]
       exact g1 _ _ (by omega) (by omega) (by omega) (by omega) (by omega)
      ·rw [if_neg hx]
       exact g1 _ _ (by omega) (by omega) (by omega) (by omega) (by omega)
    ·rw [ln (by omega) (by omega),ln (by omega) (by omega),if_neg (by omega),if_pos rfl]
     by_cases hy:y=j
     ·subst hy
      rw [if_pos rfl]
      exact O.JS _ (bN (by omega)) _ (bN (by omega)) hc
     ·rw [if_neg hy]
      exact g2 _ (by omega) (by omega)
   ·rw [if_neg (by simpa using hc)]
    refine⟨d,j,rfl,Mv.refl,fun O g1 g2 x y x1 x2 x3=>?_⟩
    have hc:0≤c (gt d j) (gt d (j - 1)):=by omega
    by_cases hx:x=j
    ·subst hx; exact g2 _ x2 (by omega)
    ·by_cases hy:y=j
     ·subst hy
      by_cases hx1:x=y - 1
      ·subst hx1; exact hc
      ·exact O.tr _ (bN (by omega)) (gt d (y - 1)) (bN (by omega)) _ (bN (by omega)) (g1 _ _ x1 (by omega) (by omega) hx (by omega)) hc
     ·exact g1 _ _ x1 x2 (by omega) hx hy
  ·have:j=a:=by omega
   subst this
   rw [if_neg (by simp)]
   refine⟨d,j,rfl,Mv.refl,fun O g1 g2 x y x1 x2 x3=>?_⟩
   by_cases hx:x=j
   ·subst hx; exact g2 _ x2 (by omega)
   ·exact g1 _ _ x1 x2 (by omega) hx (by omega)
theorem EK {m:Nat}{a b:Nat}{cmp:Int→Int→Option Int}{c:Int→Int→Int}(hm:2 ^ 41≤m):∀(f i:Nat) (d:List Int),b - i<f→a<i→b≤d.length→d.length<2 ^ 40→Cm cmp c d→
  ∃d' x,aT.l0 m (a:Int) (b:Int) cmp f d (i:Int)=some (d',x)∧Mv a b d d'∧(Ord c d→Sg c d a i→Sg c d' a b)
 | 0,i,d,hf,_,_,_,_=>absurd hf (by omega)
 | f+1,i,d,hf,h1,h2,hs,C=>by
  have sK:(2:Nat) ^ 40=1099511627776:=by decide
  have xU:(2:Nat) ^ 41=2199023255552:=by decide
  unfold aT.l0
  by_cases h:i<b
  ·obtain⟨d1,x1,k1,k2,k3⟩:=EJ (m:=m) (a:=a) (i:=i) (cmp:=cmp) (c:=c) m i d (by omega) (by omega) (by omega) (by omega) hs C
   have e3:i64.wrap ((i:Int)+1)=((i+1:Nat):Int):=by rw [bH (by omega) (by omega)]; omega
   rw [if_pos (by simp; omega),k1,Uu]
   dsimp only
   rw [e3]
   have hl:=k2.length
   obtain⟨d',x,g1,g2,g3⟩:=EK (a:=a) (b:=b) (cmp:=cmp) (c:=c) hm f (i+1) d1 (by omega) (by omega) (by omega) (by omega) (C.perm k2.perm)
   exact⟨d',x,g1,(k2.wide (Uy _) (by omega)).trans g2,fun O S=>g3 (O.perm k2.perm) (k3 O (fun x y q1 q2 q3 q4 q5=>S x y q1 q2 (by omega)) (fun y q1 q2=>absurd q1 (by omega)))⟩
  ·exact⟨d,i,by rw [if_neg (by simp; omega)],Mv.refl,fun O S x y q1 q2 q3=>S x y q1 q2 (by omega)⟩
theorem xt {m:Nat}{a b:Nat}{cmp:Int→Int→Option Int}{c:Int→Int→Int}(hm:2 ^ 41≤m){l:List Int}(ha:a≤l.length)(hb:b≤l.length)(hs:l.length<2 ^ 40)(C:Cm cmp c l) :
  ∃d,aT.f m l (a:Int) (b:Int) cmp=some d∧Mv a b l d∧(Ord c l→Sg c d a b):=by
 have sK:(2:Nat) ^ 40=1099511627776:=by decide
 have xU:(2:Nat) ^ 41=2199023255552:=by decide
 have e3:i64.wrap ((a:Int)+1)=((a+1:Nat):Int):=by rw [bH (by omega) (by omega)]; omega
 obtain⟨d',x,g1,g2,g3⟩:=EK (a:=a) (b:=b) (cmp:=cmp) (c:=c) hm m (a+1) l (by omega) (by omega) hb hs C
 exact⟨d',by unfold aT.f; rw [e3,g1]; rfl,g2,fun O=>g3 O fun x y q1 q2 q3=>absurd q3 (by omega)⟩
end Go.Proofs.Ytifafejidnjckaa
