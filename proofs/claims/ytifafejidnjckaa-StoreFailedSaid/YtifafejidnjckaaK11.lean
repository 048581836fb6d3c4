/- Part of the proof: PA1, PA2, PA3, PA4, PA5, PA6, PA7, PR1, PS1, PT6, PS2, PS3. -/
import Derived.Test.YtifafejidnjckaaK10
set_option linter.unusedVariables false
set_option linter.unusedSimpArgs false
set_option maxRecDepth 100000
open Bool renaming and_eq_true → Ui, false_eq_true → Up, or_eq_true → UY, not_true → Vd, true_and → VN
open Int renaming toNat_natCast → Ur, natCast_nonneg → Vx
open List renaming getElem?_eq_some_iff → Ul, getElem?_eq_getElem → Un, length_append → Uo, length_set → Uq, drop_eq_getElem_cons → Us, length_cons → Ut, getElem?_append_left → Uu, append_assoc → Uv, replicate → Uw, mem_of_getElem? → Ux, getElem?_append_right → Uz, getD_eq_getElem?_getD → UA, length_map → UB, mem_singleton → UE, mem_cons → UF, length_nil → UG, map_cons → UH, mem_append → UJ, map_append → UK, getElem?_eq_none → UN, take_append_of_le_length → UO, nil_append → UR, mem_map → US, getElem?_cons_zero → UW, drop_zero → UX, all_cons → U2, mem_append_left → U6, take_succ_eq_append_getElem → Vc, length_take → Vi, getElem?_of_mem → Vj, getElem?_cons_succ → Vk, drop_eq_nil_of_le → Vu, append_nil → VC, length_replicate → VD, ext_getElem? → VE, getElem?_set → VF, map_nil → VI
open Nat renaming le_refl → Uj, zero_add → UC, zero_le → U8, add_comm → VH, add_zero → VJ, sub_self → VK
open Option renaming bind_some → Ue
open Option.some renaming injEq → Uh, inj → UZ
namespace Go.Uf
open Go Go.R
open Go.IntKind (i64 u64 u8 u32)
def iA (to:List Int)(n:Int):Int:=to.getD n.toNat n
def gC (to:List Int):Nat→Int→Int
 | 0,n=>n
 | k+1,n=>iA to (gC to k n)
def BZ:List Int→Nat→Nat
 | [],_=>0
 | x::l,i=>(if x=(i:Int) then 0 else 1)+BZ l (i+1)
def p8 (to:List Int):Nat:=BZ to 0
def rp (to:List Int)(n:Int):Int:=gC to (p8 to) n
def Rg (len:Nat)(n:Int):Prop:=0≤n∧n<len
instance (len:Nat) (n:Int):Decidable (Rg len n):=inferInstanceAs (Decidable (_∧_))
structure Fm (to:List Int):Prop where
 rg:∀n,Rg to.length n→Rg to.length (iA to n)
 rt:∀n,Rg to.length n→iA to (rp to n)=rp to n
theorem Ee:∀(l:List Int) (i:Nat),BZ l i≤l.length
 | [],_=>Uj _
 | x::l,i=>by
  have:=Ee l (i+1)
  simp only [BZ,Ut]
  split<;>omega
theorem vk (to:List Int):p8 to≤to.length:=Ee to 0
theorem AI:∀(l:List Int) (i j:Nat) (b:Int),l[j]? = some ((i+j:Nat):Int)→b≠((i+j:Nat):Int)→BZ (l.set j b) i=BZ l i+1
 | [],_,_,_,h,_=>by simp at h
 | x::l,i,0,b,h,hb=>by
  simp only [UW,Uh,VJ] at h hb
  simp only [List.set_cons_zero,BZ,h,if_true]
  rw [if_neg hb]; omega
 | x::l,i,j+1,b,h,hb=>by
  simp only [Vk] at h
  have e:i+(j+1)=i+1+j:=by omega
  rw [e] at h hb
  have:=AI l (i+1) j b h hb
  simp only [List.set_cons_succ,BZ,this]; omega
theorem AJ:∀(l:List Int) (i:Nat),BZ (l++[((i+l.length:Nat):Int)]) i=BZ l i
 | [],i=>by simp [BZ]
 | x::l,i=>by
  have:=AJ l (i+1)
  have e:i+(x::l).length=i+1+l.length:=by simp only [Ut]; omega
  rw [e]
  show _+BZ (l++_) (i+1)=_+BZ l (i+1)
  rw [this]
section
variable {to:List Int}{a b n:Int}
theorem qY (h:Rg to.length n):to[n.toNat]? = some (iA to n):=by
 have hl:n.toNat<to.length:=by have:=h.1; have:=h.2; omega
 unfold iA
 rw [UA,Un hl]; rfl
theorem vl (h:Rg to.length n):ix to n=some (iA to n):=by
 unfold ix; rw [if_pos h.1,qY h]
theorem ss (o:Fm to)(h:Rg to.length n):∀k,Rg to.length (gC to k n)
 | 0=>h
 | k+1=>o.rg _ (ss o h k)
theorem Ef (o:Fm to)(h:Rg to.length n):Rg to.length (rp to n):=ss o h _
theorem xg (h:iA to n=n):∀k,gC to k n=n
 | 0=>rfl
 | k+1=>by show iA to (gC to k n)=n; rw [xg h k,h]
theorem su (h:iA to n=n):rp to n=n:=xg h _
theorem xh {d:Nat}(h:iA to (gC to d n)=gC to d n):∀e,gC to (d+e) n=gC to d n
 | 0=>rfl
 | e+1=>by show iA to (gC to (d+e) n)=_; rw [xh h e,h]
theorem Gs {d:Nat}(hd:d≤p8 to)(h:iA to (gC to d n)=gC to d n):rp to n=gC to d n:=by
 have:=xh h (p8 to - d)
 rw [Nat.add_sub_cancel' hd] at this
 exact this
theorem vm (ha:Rg to.length a):∀n,iA (to.set a.toNat b) n=if n.toNat=a.toNat then b else iA to n:=by
 intro n
 have hl:a.toNat<to.length:=by have:=ha.1; have:=ha.2; omega
 unfold iA
 rw [UA,UA,VF]
 by_cases h:n.toNat=a.toNat
 ·rw [if_pos h.symm,if_pos hl,if_pos h]; rfl
 ·rw [if_neg (fun e=>h e.symm),if_neg h]
theorem AK (ha:Rg to.length a)(h1:iA to a=a)(hne:b≠a):p8 (to.set a.toNat b)=p8 to+1:=by
 have h0:=ha.1
 refine AI to 0 a.toNat b ?_ ?_
 ·rw [qY ha,h1]; congr 1; omega
 ·intro e; apply hne; rw [e]; omega
theorem Le (o:Fm to)(ha:Rg to.length a)(hb:Rg to.length b)(h1:iA to a=a)(h2:iA to b=b)(hne:b≠a) :
  Fm (to.set a.toNat b)∧∀n,Rg to.length n→rp (to.set a.toNat b) n=if rp to n=a then b else rp to n:=by
 have hl:(to.set a.toNat b).length=to.length:=Uq
 have hs:∀n,Rg to.length n→iA (to.set a.toNat b) n=if n=a then b else iA to n:=fun n hn=>by
  rw [vm ha]
  by_cases h:n=a
  ·subst h; simp
  ·rw [if_neg h,if_neg (fun e=>h (by have:=hn.1; have:=ha.1; omega))]
 have sH:iA (to.set a.toNat b) b=b:=by rw [hs b hb,if_neg hne,h2]
 have key:∀n,Rg to.length n→∀d,gC (to.set a.toNat b) d n=gC to d n∨(gC (to.set a.toNat b) d n=b∧gC to d n=a):=fun n hn d=>by
  induction d with
  | zero=>exact .inl rfl
  | succ d ih=>
   show iA _ (gC _ d n)=iA to (gC to d n)∨(iA _ (gC _ d n)=b∧iA to (gC to d n)=a)
   rcases ih with ih | ⟨ih,SE⟩
   ·rw [ih,hs _ (ss o hn d)]
    by_cases h:gC to d n=a
    ·rw [if_pos h,h,h1]; exact .inr ⟨rfl,rfl⟩
    ·rw [if_neg h]; exact .inl rfl
   ·rw [ih,SE,h1,sH]; exact .inr ⟨rfl,rfl⟩
 have Qz:∀n,Rg to.length n→rp (to.set a.toNat b) n=if rp to n=a then b else rp to n:=fun n hn=>by
  show gC _ (p8 (to.set a.toNat b)) n=_
  rw [AK ha h1 hne]
  have hr:=o.rt n hn
  have SF:=Ef o hn
  show iA _ (gC _ (p8 to) n)=_
  rcases key n hn (p8 to) with h | ⟨h,h3⟩
  ·rw [h]
   show iA _ (rp to n)=_
   rw [hs _ SF,hr]
  ·have h3:rp to n=a:=h3
   rw [h,sH,if_pos h3]
 refine⟨⟨fun n hn=>?_,fun n hn=>?_⟩,Qz⟩
 ·rw [hl] at hn ⊢
  rw [hs n hn]
  split
  ·exact hb
  ·exact o.rg n hn
 ·rw [hl] at hn
  rw [Qz n hn]
  by_cases h:rp to n=a
  ·rw [if_pos h,sH]
  ·rw [if_neg h,hs _ (Ef o hn),if_neg h,o.rt n hn]
theorem Lf (o:Fm to):Fm (to++[(to.length:Int)])∧(∀n,Rg to.length n→rp (to++[(to.length:Int)]) n=rp to n)∧rp (to++[(to.length:Int)]) (to.length:Int)=(to.length:Int):=by
 have hl:(to++[(to.length:Int)]).length=to.length+1:=by simp
 have hn:p8 (to++[(to.length:Int)])=p8 to:=by
  have:=AJ to 0
  rw [UC] at this
  exact this
 have hs:∀n,Rg to.length n→iA (to++[(to.length:Int)]) n=iA to n:=fun n h=>by
  have:n.toNat<to.length:=by have:=h.1; have:=h.2; omega
  unfold iA
  rw [UA,UA,Uu this]
 have hz:iA (to++[(to.length:Int)]) (to.length:Int)=(to.length:Int):=by
  unfold iA
  rw [UA,Ur,Uz (Uj _),VK]; rfl
 have hi:∀n,Rg to.length n→∀k,gC (to++[(to.length:Int)]) k n=gC to k n:=fun n h k=>by
  induction k with
  | zero=>rfl
  | succ k ih=>show iA _ (gC _ k n)=iA to (gC to k n); rw [ih,hs _ (ss o h k)]
 have hr:∀n,Rg to.length n→rp (to++[(to.length:Int)]) n=rp to n:=fun n h=>by
  unfold rp; rw [hn]; exact hi n h _
 have hc:∀n,Rg (to.length+1) n→Rg to.length n∨n=to.length:=fun n h=>by
  unfold Rg at h ⊢; omega
 refine⟨⟨fun n h=>?_,fun n h=>?_⟩,hr,su hz⟩
 ·rw [hl] at h ⊢
  rcases hc n h with h | rfl
  ·rw [hs n h]; have:=o.rg n h; unfold Rg at this ⊢; omega
  ·rw [hz]; exact h
 ·rw [hl] at h
  rcases hc n h with h | rfl
  ·rw [hr n h,hs _ (Ef o h),o.rt n h]
  ·rw [su hz,hz]
end
theorem Gt:Fm []:=⟨fun n h=>by have:=h.1; have:=h.2; simp at this; omega,fun n h=>by have:=h.1; have:=h.2; simp at this; omega⟩
end Go.Uf
namespace Go.Uf
open Go Go.R
open Go.IntKind (i64 u64 u8 u32)
def gk (N:List aq)(n:Int):aq:=N.getD n.toNat ⟨0,0,⟨#[]⟩,[]⟩
def gJ (N:List aq)(n:Int):Prop:=(gk N n).kind≠0
instance (N:List aq) (n:Int):Decidable (gJ N n):=inferInstanceAs (Decidable (_≠_))
def Bt (N:List aq)(a b:Int):Prop:=(gJ N a∧¬gJ N b)∨((gJ N a↔gJ N b)∧a≤b)
def mr (a b:aq):Prop:=a.kind=b.kind∧a.int=b.int∧a.label.data.toList=b.label.data.toList∧a.args.length=b.args.length
structure Cn (N:List aq)(R:Int→Int):Prop where
 rg:∀n,Rg N.length n→Rg N.length (R n)
 id:∀n,Rg N.length n→R (R n)=R n
 bt:∀n,Rg N.length n→Bt N (R n) n
def Cl (N:List aq)(T:Int→Int):Prop:=∀x y,Rg N.length x→Rg N.length y→T x=T y→gJ N x→gJ N y→mr (gk N x) (gk N y)∧∀(i:Nat) (a b:Int),(gk N x).args[i]? = some a→(gk N y).args[i]? = some b→T a=T b
def gL (N:List aq)(R T:Int→Int):Prop:=∀x y,Rg N.length x→Rg N.length y→R x=R y→T x=T y
def qK (N:List aq)(R:Int→Int)(L:List (Int × Int)):Prop:=∀T,gL N R T→(∀p∈L,T p.1=T p.2)→∀x y,Rg N.length x→Rg N.length y→R x=R y→gJ N x→gJ N y→mr (gk N x) (gk N y)∧∀(i:Nat) (a b:Int),(gk N x).args[i]? = some a→(gk N y).args[i]? = some b→T a=T b
def Eg (N:List aq):Prop:=∀v∈N,v.args.length≤8∧∀a∈v.args,Rg N.length a
section
variable {N:List aq}{R T:Int→Int}{a b x y n:Int}
theorem AL (h:Rg N.length n):N[n.toNat]? = some (gk N n):=by
 have hl:n.toNat<N.length:=by have:=h.1; have:=h.2; omega
 unfold gk
 rw [UA,Un hl]; rfl
theorem yP (h:Rg N.length n):ix N n=some (gk N n):=by
 unfold ix; rw [if_pos h.1,AL h]
theorem lh (h:Rg N.length n):gk N n∈N:=Ux (AL h)
theorem Bt.trans {c:Int}(h1:Bt N a b)(h2:Bt N b c):Bt N a c:=by
 unfold Bt at h1 h2 ⊢
 rcases h1 with h1 | h1<;>rcases h2 with h2 | h2
 ·exact absurd h2.1 h1.2
 ·exact .inl ⟨h1.1,fun h=>h1.2 (h2.1.2 h)⟩
 ·exact .inl ⟨h1.1.2 h2.1,h2.2⟩
 ·exact .inr ⟨h1.1.trans h2.1,by omega⟩
theorem Bt.refl:Bt N a a:=.inr ⟨Iff.rfl,Int.le_refl _⟩
theorem Cn.val (c:Cn N R)(h:Rg N.length n)(v:gJ N n):gJ N (R n):=by
 rcases c.bt n h with h1 | h1
 ·exact h1.1
 ·exact h1.1.2 v
def jI (N:List aq)(a b:Int):Int × Int:=if gJ N a↔gJ N b then (if a<b then (b,a) else (a,b)) else (if gJ N b then (a,b) else (b,a))
theorem tP (a b:Int):Bt N (jI N a b).2 (jI N a b).1∧((jI N a b).1=a∧(jI N a b).2=b∨(jI N a b).1=b∧(jI N a b).2=a):=by
 unfold jI
 by_cases h:gJ N a↔gJ N b
 ·rw [if_pos h]
  by_cases h2:a<b
  ·rw [if_pos h2]; exact⟨.inr ⟨h,by dsimp only; omega⟩,.inr ⟨rfl,rfl⟩⟩
  ·rw [if_neg h2]; exact⟨.inr ⟨h.symm,by dsimp only; omega⟩,.inl ⟨rfl,rfl⟩⟩
 ·rw [if_neg h]
  by_cases h2:gJ N b
  ·rw [if_pos h2]; exact⟨.inl ⟨h2,fun h3=>h ⟨fun _=>h2,fun _=>h3⟩⟩,.inl ⟨rfl,rfl⟩⟩
  ·rw [if_neg h2]
   refine⟨.inl ⟨?_,h2⟩,.inr ⟨rfl,rfl⟩⟩
   by_cases h3:gJ N a
   ·exact h3
   ·exact absurd ⟨fun h4=>absurd h4 h3,fun h4=>absurd h4 h2⟩ h
def sk (R:Int→Int)(q:Int × Int)(n:Int):Int:=if R n=q.1 then q.2 else R n
theorem I0 (c:Cn N R){q:Int × Int}(h1:Rg N.length q.1)(h2:Rg N.length q.2)(r1:R q.1=q.1)(r2:R q.2=q.2)(hne:q.2≠q.1)(hb:Bt N q.2 q.1):Cn N (sk R q):=by
 refine⟨fun n hn=>?_,fun n hn=>?_,fun n hn=>?_⟩
 ·unfold sk; split
  ·exact h2
  ·exact c.rg n hn
 ·unfold sk
  by_cases h:R n=q.1
  ·rw [if_pos h,r2,if_neg hne]
  ·rw [if_neg h,c.id n hn,if_neg h]
 ·unfold sk
  split
  ·rename_i h
   have:=c.bt n hn
   rw [h] at this
   exact hb.trans this
  ·exact c.bt n hn
theorem AM {q:Int × Int}:gL N R (sk R q):=fun x y _ _ h=>by unfold sk; rw [h]
theorem vn {q:Int × Int}(ha:R a=q.1)(hb:R b=q.2)(hne:q.2≠q.1):sk R q a=sk R q b:=by
 unfold sk; rw [if_pos ha,hb,if_neg hne]
theorem B0 (c:Cn N R){q:Int × Int}(h1:Rg N.length q.1)(h2:Rg N.length q.2)(s:gL N R T)(h:T q.1=T q.2):gL N (sk R q) T:=by
 have key:∀x,Rg N.length x→T (sk R q x)=T x:=fun x hx=>by
  have e:T (R x)=T x:=s _ _ (c.rg x hx) hx (c.id x hx)
  unfold sk
  split
  ·rename_i h3; rw [←h,←h3,e]
  ·exact e
 intro x y hx hy he
 rw [←key x hx,←key y hy,he]
theorem B1 {p:Int × Int}{L:List (Int × Int)}(h:qK N R (p::L))(Lg:Rg N.length p.1)(Lh:Rg N.length p.2)(he:R p.1=R p.2):qK N R L:=fun T s hL=>h T s fun q hq=>by
 rcases UF.1 hq with rfl | hq
 ·exact s _ _ Lg Lh he
 ·exact hL q hq
theorem B2 (c:Cn N R){p q:Int × Int}{L M:List (Int × Int)}(h:qK N R (p::L))(Lg:Rg N.length p.1)(Lh:Rg N.length p.2)
  (hq:(q.1=R p.1∧q.2=R p.2)∨(q.1=R p.2∧q.2=R p.1)) (hne:q.2≠q.1)
  (hM:gJ N (R p.1)→gJ N (R p.2)→mr (gk N (R p.1)) (gk N (R p.2))∧∀(i:Nat) (a b:Int),(gk N (R p.1)).args[i]? = some a→(gk N (R p.2)).args[i]? = some b→(a,b)∈M):qK N (sk R q) (L++M):=by
 intro T s hL x y hx hy he vx vy
 have s0:gL N R T:=fun x y hx hy h=>s x y hx hy (AM x y hx hy h)
 have g1:=c.rg _ Lg
 have g2:=c.rg _ Lh
 have tp:T p.1=T p.2:=s _ _ Lg Lh (by
  rcases hq with⟨h1,h2⟩| ⟨h1,h2⟩
  ·exact vn h1.symm h2.symm hne
  ·exact (vn h1.symm h2.symm hne).symm)
 have old:=h T s0 (fun q hq=>by
  rcases UF.1 hq with rfl | hq
  ·exact tp
  ·exact hL q (U6 _ hq))
 have mid:∀x y,Rg N.length x→Rg N.length y→R x=R p.1→R y=R p.2→gJ N x→gJ N y→mr (gk N x) (gk N y)∧∀(i:Nat) (a b:Int),(gk N x).args[i]? = some a→(gk N y).args[i]? = some b→T a=T b:=by
  intro x y hx hy e1 e2 vx vy
  have v1:gJ N (R p.1):=e1 ▸ c.val hx vx
  have v2:gJ N (R p.2):=e2 ▸ c.val hy vy
  obtain⟨t0,m0⟩:=hM v1 v2
  obtain⟨t1,m1⟩:=old x (R p.1) hx g1 (by rw [c.id _ Lg,e1]) vx v1
  obtain⟨t2,m2⟩:=old (R p.2) y g2 hy (by rw [c.id _ Lh,e2]) v2 vy
  refine⟨⟨t1.1.trans (t0.1.trans t2.1),t1.2.1.trans (t0.2.1.trans t2.2.1),t1.2.2.1.trans (t0.2.2.1.trans t2.2.2.1),t1.2.2.2.trans (t0.2.2.2.trans t2.2.2.2)⟩,fun i a b ha hb=>?_⟩
  have l1:i<(gk N (R p.1)).args.length:=by rw [←t1.2.2.2]; exact (Ul.1 ha).1
  have l2:i<(gk N (R p.2)).args.length:=by rw [←t0.2.2.2]; exact l1
  have k1:=Un l1
  have k2:=Un l2
  rw [m1 i _ _ ha k1,←m2 i _ _ k2 hb]
  exact hL _ (List.mem_append_right _ (m0 i _ _ k1 k2))
 have sym:∀x y,mr (gk N x) (gk N y)∧(∀(i:Nat) (a b:Int),(gk N x).args[i]? = some a→(gk N y).args[i]? = some b→T a=T b)→mr (gk N y) (gk N x)∧∀(i:Nat) (a b:Int),(gk N y).args[i]? = some a→(gk N x).args[i]? = some b→T a=T b:=by
  rintro x y ⟨t,m⟩
  exact⟨⟨t.1.symm,t.2.1.symm,t.2.2.1.symm,t.2.2.2.symm⟩,fun i a b ha hb=>(m i b a hb ha).symm⟩
 by_cases e:R x=R y
 ·exact old x y hx hy e vx vy
 unfold sk at he
 by_cases ex:R x=q.1<;>by_cases ey:R y=q.1
 ·exact absurd (ex.trans ey.symm) e
 ·rw [if_pos ex,if_neg ey] at he
  rcases hq with⟨h1,h2⟩| ⟨h1,h2⟩
  ·exact mid x y hx hy (ex.trans h1) (he.symm.trans h2) vx vy
  ·exact sym _ _ (mid y x hy hx (he.symm.trans h2) (ex.trans h1) vy vx)
 ·rw [if_neg ex,if_pos ey] at he
  rcases hq with⟨h1,h2⟩| ⟨h1,h2⟩
  ·exact sym _ _ (mid y x hy hx (ey.trans h1) (he.trans h2) vy vx)
  ·exact mid x y hx hy (he.trans h2) (ey.trans h1) vx vy
 ·rw [if_neg ex,if_neg ey] at he
  exact absurd he e
theorem Eh (h:qK N R []):Cl N R:=fun x y hx hy e vx vy=>h R (fun _ _ _ _ h=>h) (fun _ h=>by cases h) x y hx hy e vx vy
theorem Gu {L:List (Int × Int)}(h:Cl N R)(ha:Eg N):qK N R L:=fun T s _ x y hx hy e vx vy=>by
 obtain⟨t,m⟩:=h x y hx hy e vx vy
 exact⟨t,fun i a b h1 h2=>s _ _ ((ha _ (lh hx)).2 a (Ux h1)) ((ha _ (lh hy)).2 b (Ux h2)) (m i a b h1 h2)⟩
end
end Go.Uf
namespace Go.Uf
open Go Go.R
open Go.IntKind (i64 u64 u8 u32)
theorem Li (x:Int):i64.wrap x=if x % 18446744073709551616≥9223372036854775808 then x % 18446744073709551616 - 18446744073709551616 else x % 18446744073709551616:=by
 unfold IntKind.wrap; simp [IntKind.signed,IntKind.bits]
theorem mR {x:Int}(h0 : -9223372036854775808≤x)(h1:x<9223372036854775808):i64.wrap x=x:=by
 rw [Li]; split<;>omega
theorem CA {α:Type}{l:List α}{i:Nat}{a:α}(h:l[i]? = some a):ix l (i:Int)=some a:=by
 unfold ix; rw [if_pos (Vx _),Ur,h]
theorem yQ {α:Type}{b:Nat}{l l2:List α}(h:(l.length+l2.length)*(b+1)≤1099511627776):app b l l2=some (l++l2):=by
 unfold app; rw [if_pos h]
end Go.Uf
namespace Go.Proofs.Ytifafejidnjckaa
open Go Go.R Go.Uf
open Go.IntKind (i64 u64 u8 u32)
structure Inv (s:ab):Prop where
 made:s.aj=true
 len:s.ae.length=s.aa.length
 max:s.aa.length≤8000
 ok:Fm s.ae
 cn:Cn s.aa (rp s.ae)
 args:Eg s.aa
section
variable {m:Nat}{s:ab}{a b n:Int}
theorem Inv.rg (v:Inv s)(h:Rg s.aa.length n):Rg s.ae.length n:=by rw [v.len]; exact h
theorem Ei (v:Inv s)(h:Rg s.aa.length n):∀(k d:Nat),d≤p8 s.ae→p8 s.ae<k+d→a7.l0 m s k (gC s.ae d n)=some (rp s.ae n)
 | 0,d,h1,h2=>by omega
 | k+1,d,h1,h2=>by
  have hr:=ss v.ok (v.rg h) d
  simp only [a7.l0,vl hr,Ue]
  by_cases he:iA s.ae (gC s.ae d n)=gC s.ae d n
  ·rw [Gs h1 he]
   simp [he]
  ·have hd:d<p8 s.ae:=by
    rcases Nat.lt_or_ge d (p8 s.ae) with h3 | h3
    ·exact h3
    ·have h4:d=p8 s.ae:=by omega
     exact absurd (h4 ▸ v.ok.rt n (v.rg h)) he
   have:=Ei v h k (d+1) hd (by omega)
   simp only [gC] at this
   rw [this]
   have hb:(iA s.ae (gC s.ae d n)==gC s.ae d n)=false:=by simpa using he
   simp [hb]
theorem Ej (hm:16000≤m)(v:Inv s)(h:Rg s.aa.length n):a7.f m s n=some (rp s.ae n):=by
 have h1:=vk s.ae
 have h2:=v.len
 have h3:=v.max
 have:=Ei (m:=m) v h m 0 (U8 _) (by omega)
 simp only [gC] at this
 simp only [a7.f,this,Ue]
theorem yR (h:Rg s.aa.length n):b4.f m s n=some ((gk s.aa n).kind==0):=by
 simp only [b4.f,yP h,Ue]
theorem I1 (h1:Rg s.aa.length a)(h2:Rg s.aa.length b)(hl:s.ae.length=s.aa.length):cg.f m s a b=some ((jI s.aa a b).1,⟨s.aj,s.aa,s.ae.set (jI s.aa a b).1.toNat (jI s.aa a b).2⟩):=by
 have i1:ix s.ae a=some (iA s.ae a):=vl (by rw [hl]; exact h1)
 have i2:ix s.ae b=some (iA s.ae b):=vl (by rw [hl]; exact h2)
 simp only [cg.f,jn,yR h1,yR h2,Ue,i1,i2]
 unfold jI gJ
 by_cases ha:(gk s.aa a).kind=0<;>by_cases hb:(gk s.aa b).kind=0<;>by_cases Kb:a<b
 all_goals
  first
  | have ea:((gk s.aa a).kind==0)=true:=by simpa using ha
  | have ea:((gk s.aa a).kind==0)=false:=by simpa using ha
 all_goals
  first
  | have eb:((gk s.aa b).kind==0)=true:=by simpa using hb
  | have eb:((gk s.aa b).kind==0)=false:=by simpa using hb
 all_goals simp [ha,hb,Kb,i1,i2,ea,eb]
theorem AN:cm.f m s n=some (decide (Rg s.aa.length n)):=by
 unfold cm.f Rg
 by_cases h1:n≥0<;>by_cases h2:n<(s.aa.length:Int)<;>simp [h1,h2]
theorem Inv.join (v:Inv s)(h1:Rg s.aa.length a)(h2:Rg s.aa.length b)(r1:rp s.ae a=a)(r2:rp s.ae b=b)(hne:a≠b) :
  Inv ⟨s.aj,s.aa,s.ae.set (jI s.aa a b).1.toNat (jI s.aa a b).2⟩∧(∀n,Rg s.aa.length n→rp (s.ae.set (jI s.aa a b).1.toNat (jI s.aa a b).2) n=sk (rp s.ae) (jI s.aa a b) n)∧p8 (s.ae.set (jI s.aa a b).1.toNat (jI s.aa a b).2)=p8 s.ae+1:=by
 obtain⟨hb,hq⟩:=tP (N:=s.aa) a b
 generalize jI s.aa a b=q at *
 have g:Rg s.aa.length q.1∧Rg s.aa.length q.2∧rp s.ae q.1=q.1∧rp s.ae q.2=q.2∧q.2≠q.1:=by
  rcases hq with⟨e1,e2⟩| ⟨e1,e2⟩
  ·rw [e1,e2]; exact⟨h1,h2,r1,r2,fun h=>hne h.symm⟩
  ·rw [e1,e2]; exact⟨h2,h1,r2,r1,hne⟩
 obtain⟨g1,g2,g3,g4,g5⟩:=g
 have s1:iA s.ae q.1=q.1:=by have:=v.ok.rt _ (v.rg g1); rwa [g3] at this
 have s2:iA s.ae q.2=q.2:=by have:=v.ok.rt _ (v.rg g2); rwa [g4] at this
 obtain⟨j1,j2⟩:=Uf.Le v.ok (v.rg g1) (v.rg g2) s1 s2 g5
 have j3:∀n,Rg s.aa.length n→rp (s.ae.set q.1.toNat q.2) n=sk (rp s.ae) q n:=fun n hn=>j2 n (v.rg hn)
 have c:=I0 v.cn g1 g2 g3 g4 g5 hb
 refine⟨⟨v.made,by show (List.set _ _ _).length=_; rw [Uq]; exact v.len,v.max,j1,⟨fun n hn=>?_,fun n hn=>?_,fun n hn=>?_⟩,v.args⟩,j3,AK (v.rg g1) s1 g5⟩
 ·show Rg _ (rp (s.ae.set q.1.toNat q.2) n)
  rw [j3 n hn]; exact c.rg n hn
 ·show rp (s.ae.set q.1.toNat q.2) (rp (s.ae.set q.1.toNat q.2) n)=_
  rw [j3 n hn,j3 _ (c.rg n hn),c.id n hn]
 ·show Bt _ (rp (s.ae.set q.1.toNat q.2) n) n
  rw [j3 n hn]; exact c.bt n hn
theorem Ek (x y:aq):∃d,eV.f m x y=some d∧(d=false↔mr x y):=by
 unfold eV.f mr
 have h5:(((x.args.length:Int)==(y.args.length:Int))=true)↔x.args.length=y.args.length:=by rw [beq_iff_eq]; omega
 by_cases h1:x.kind=y.kind
 ·by_cases h2:x.int=y.int
  ·by_cases h3:x.label.data.toList=y.label.data.toList
   ·refine⟨!((x.args.length:Int)==(y.args.length:Int)),by simp [h1,h2,h3],?_⟩
    rw [Bool.not_eq_false',h5]
    exact⟨fun h=>⟨h1,h2,h3,h⟩,fun h=>h.2.2.2⟩
   ·have h6:¬x.label.data=y.label.data:=fun h=>h3 (by rw [h])
    exact⟨true,by simp [h1,h2,h6],by simp [h6]⟩
  ·exact⟨true,by simp [h1,h2],by simp [h2]⟩
 ·exact⟨true,by simp [h1],by simp [h1]⟩
end
end Go.Proofs.Ytifafejidnjckaa
namespace Go.Proofs.Ytifafejidnjckaa
open Go Go.R Go.Uf
open Go.IntKind (i64 u64 u8 u32)
def vE (p:aZ):Int × Int:=(p.jH,p.kI)
def qL (a b:List Int):List aZ:=(a.zip b).map fun p=>⟨p.1,p.2⟩
theorem tQ {m:Nat}{v2 v3:aq}{s:ab}(hl:v2.args.length=v3.args.length)(h8:v2.args.length≤8):∀(k:Nat) (left:List aZ) (i:Nat),i≤v2.args.length→v2.args.length - i<k→left.length+8≤1000000+i→
  az.l1 m v2 v3 k left (i:Int) s=some (left++qL (v2.args.drop i) (v3.args.drop i),(v2.args.length:Int),s)
 | 0,left,i,h1,h2,_=>by omega
 | k+1,left,i,h1,h2,h3=>by
  simp only [az.l1]
  by_cases hi:i<v2.args.length
  ·have QB:i<v3.args.length:=by omega
   have e2:=Un hi
   have e3:=Un QB
   have d:decide ((i:Int)<(v2.args.length:Int))=true:=by rw [decide_eq_true_eq]; omega
   have ea:app 16 left [(⟨v2.args[i],v3.args[i]⟩:aZ)]=some (left++[⟨v2.args[i],v3.args[i]⟩]):=yQ (by
    simp only [Ut,UG]; omega)
   have ew:i64.wrap ((i:Int)+1)=((i+1:Nat):Int):=by rw [mR (by omega) (by omega)]; omega
   rw [if_pos d,CA e2,CA e3]
   simp only [Ue,ea,ew]
   rw [tQ hl h8 k _ (i+1) (by omega) (by omega) (by simp only [Uo,Ut,UG]; omega)]
   have e4:qL (v2.args.drop i) (v3.args.drop i)=⟨v2.args[i],v3.args[i]⟩::qL (v2.args.drop (i+1)) (v3.args.drop (i+1)):=by
    unfold qL
    rw [Us hi,Us QB]; rfl
   rw [e4,Uv]; rfl
  ·have d:decide ((i:Int)<(v2.args.length:Int))=false:=by rw [decide_eq_false_iff_not]; omega
   have e:i=v2.args.length:=by omega
   rw [if_neg (by rw [d]; decide),e]
   simp [qL]
def B3 (s s':ab)(l:List Int):Prop:=s'.aj=s.aj∧s'.aa=s.aa∧s'.ae.length=s.ae.length∧(∀n∈l,Rg s.ae.length n∧iA s.ae n=n)∧∀n,Rg s.ae.length n→n∉l→iA s'.ae n=iA s.ae n
theorem B3.refl (s:ab):B3 s s []:=⟨rfl,rfl,rfl,fun n h=>absurd h (by simp),fun _ _ _=>rfl⟩
theorem B3.step {s s':ab}{l:List Int}{a b:Int}(ha:Rg s.ae.length a)(hr:iA s.ae a=a)(hne:b≠a)(u:B3 ⟨s.aj,s.aa,s.ae.set a.toNat b⟩ s' l):B3 s s' (a::l):=by
 obtain⟨u1,u2,u3,u4,u5⟩:=u
 have hl:(s.ae.set a.toNat b).length=s.ae.length:=Uq
 have hs:=vm (b:=b) ha
 have e:∀n,Rg s.ae.length n→n≠a→iA (s.ae.set a.toNat b) n=iA s.ae n:=fun n hn h=>by
  rw [hs,if_neg (fun e=>h (by have:=hn.1; have:=ha.1; omega))]
 refine⟨u1,u2,u3.trans hl,fun n hn=>?_,fun n hn hm=>?_⟩
 ·rcases UF.1 hn with rfl | hn
  ·exact⟨ha,hr⟩
  ·obtain⟨g1,g2⟩:=u4 n hn
   have g1:Rg (s.ae.set a.toNat b).length n:=g1
   have g2:iA (s.ae.set a.toNat b) n=n:=g2
   rw [hl] at g1
   refine⟨g1,?_⟩
   by_cases h:n=a
   ·subst h; exact hr
   ·rw [e n g1 h] at g2; exact g2
 ·simp only [UF,not_or] at hm
  have:=u5 n (by show Rg (s.ae.set a.toNat b).length n; rw [hl]; exact hn) hm.2
  rw [this]
  exact e n hn hm.1
def AO (s:ab)(L:List (Int × Int))(ch:List Int):Sum ((List Int) × Bool × ab) ((List Int) × (List aZ) × Int × ab)→Prop
 | .inl (El,b,s')=>b=false∧∃l,El=ch++l∧B3 s s' l∧Inv s'∧(ch++l).length≤8000∧∀T,Cl s.aa T→gL s.aa (rp s.ae) T→(∀p∈L,T p.1=T p.2)→False
 | .inr (El,_,_,s')=>∃l,El=ch++l∧B3 s s' l∧Inv s'∧(ch++l).length≤8000∧Cl s.aa (rp s'.ae)∧gL s.aa (rp s.ae) (rp s'.ae)∧(∀p∈L,rp s'.ae p.1=rp s'.ae p.2)∧∀T,Cl s.aa T→gL s.aa (rp s.ae) T→(∀p∈L,T p.1=T p.2)→gL s.aa (rp s'.ae) T
end Go.Proofs.Ytifafejidnjckaa
namespace Go.Uf
open Go Go.R
open Go.IntKind (i64 u64 u8 u32)
theorem gL.trans {N:List aq}{R S T:Int→Int}(a:gL N R S)(b:gL N S T):gL N R T:=fun x y hx hy h=>b x y hx hy (a x y hx hy h)
theorem gL.congr {N:List aq}{R S T:Int→Int}(e:∀n,Rg N.length n→R n=S n)(b:gL N S T):gL N R T:=fun x y hx hy h=>b x y hx hy (by rw [←e x hx,←e y hy,h])
theorem gL.I2 {N:List aq}{R S T:Int→Int}(e:∀n,Rg N.length n→S n=T n)(b:gL N R S):gL N R T:=fun x y hx hy h=>by rw [←e x hx,←e y hy]; exact b x y hx hy h
theorem qK.congr {N:List aq}{R S:Int→Int}{L:List (Int × Int)}(e:∀n,Rg N.length n→R n=S n)(p:qK N S L):qK N R L:=fun T s hL x y hx hy h=>p T (s.congr fun n hn=>(e n hn).symm) hL x y hx hy (by rw [←e x hx,←e y hy,h])
end Go.Uf
namespace Go.Proofs.Ytifafejidnjckaa
open Go Go.R Go.Uf
open Go.IntKind (i64 u64 u8 u32)
section
variable {s:ab}
theorem Gv {ch:List Int}{left M:List aZ}{i:Nat}{p:aZ}{q:Int × Int}{out:Sum ((List Int) × Bool × ab) ((List Int) × (List aZ) × Int × ab)}
  (v:Inv s) (hp:left[i]? = some p) (h1:Rg s.aa.length p.jH) (h2:Rg s.aa.length p.kI)
  (hq:(q.1=rp s.ae p.jH∧q.2=rp s.ae p.kI)∨(q.1=rp s.ae p.kI∧q.2=rp s.ae p.jH)) (hne:q.2≠q.1)
  (hr:∀n,Rg s.aa.length n→rp (s.ae.set q.1.toNat q.2) n=sk (rp s.ae) q n)
  (hM:∀T,Cl s.aa T→T (rp s.ae p.jH)=T (rp s.ae p.kI)→∀x∈M,T x.jH=T x.kI)
  (h:AO ⟨s.aj,s.aa,s.ae.set q.1.toNat q.2⟩ (((left++M).drop (i+1)).map vE) (ch++[q.1]) out):AO s ((left.drop i).map vE) ch out:=by
 have hi:i<left.length:=(Ul.1 hp).1
 have Mw:left[i]=p:=(Ul.1 hp).2
 have ed:left.drop i=p::left.drop (i+1):=by rw [Us hi,Mw]
 have I3:(left++M).drop (i+1)=left.drop (i+1)++M:=List.drop_append_of_le_length (by omega)
 have g1:=v.cn.rg _ h1
 have g2:=v.cn.rg _ h2
 have gq:Rg s.aa.length q.1∧Rg s.aa.length q.2∧rp s.ae q.1=q.1∧rp s.ae q.2=q.2:=by
  rcases hq with⟨e1,e2⟩| ⟨e1,e2⟩
  ·rw [e1,e2]; exact⟨g1,g2,v.cn.id _ h1,v.cn.id _ h2⟩
  ·rw [e1,e2]; exact⟨g2,g1,v.cn.id _ h2,v.cn.id _ h1⟩
 obtain⟨q1,q2,q3,q4⟩:=gq
 have vC:iA s.ae q.1=q.1:=by have:=v.ok.rt _ (v.rg q1); rwa [q3] at this
 have SG:gL s.aa (rp s.ae) (rp (s.ae.set q.1.toNat q.2)):=gL.I2 (fun n hn=>(hr n hn).symm) AM
 have SH:rp (s.ae.set q.1.toNat q.2) p.jH=rp (s.ae.set q.1.toNat q.2) p.kI:=by
  rw [hr _ h1,hr _ h2]
  rcases hq with⟨e1,e2⟩| ⟨e1,e2⟩
  ·exact vn e1.symm e2.symm hne
  ·exact (vn e1.symm e2.symm hne).symm
 have Lj:∀T,Cl s.aa T→gL s.aa (rp s.ae) T→(∀x∈(left.drop i).map vE,T x.1=T x.2)→gL s.aa (rp (s.ae.set q.1.toNat q.2)) T∧∀x∈((left++M).drop (i+1)).map vE,T x.1=T x.2:=by
  intro T cT sT hT
  have tp:T p.jH=T p.kI:=hT (vE p) (by rw [ed]; simp)
  have ta:T (rp s.ae p.jH)=T p.jH:=sT _ _ g1 h1 (v.cn.id _ h1)
  have tb:T (rp s.ae p.kI)=T p.kI:=sT _ _ g2 h2 (v.cn.id _ h2)
  have tt:T (rp s.ae p.jH)=T (rp s.ae p.kI):=by rw [ta,tb,tp]
  refine⟨gL.congr hr (B0 v.cn q1 q2 sT ?_),fun x hx=>?_⟩
  ·rcases hq with⟨e1,e2⟩| ⟨e1,e2⟩
   ·rw [e1,e2]; exact tt
   ·rw [e1,e2]; exact tt.symm
  ·rw [I3,UK] at hx
   rcases UJ.1 hx with hx | hx
   ·exact hT x (by rw [ed]; simp only [UH]; exact List.mem_cons_of_mem _ hx)
   ·obtain⟨y,hy,rfl⟩:=US.1 hx
    exact hM T cT tt y hy
 match out,h with
 | .inl (El,b,s'),⟨hb,l,e,u,v',hl,hT⟩=>
  exact⟨hb,q.1::l,by rw [e]; simp,B3.step (v.rg q1) vC hne u,v',by simpa using hl,fun T cT sT pT=>by
   obtain⟨k1,k2⟩:=Lj T cT sT pT
   exact hT T cT k1 k2⟩
 | .inr (El,Hm,i',s'),⟨l,e,u,v',hl,hc,hs,L9,hT⟩=>
  refine⟨q.1::l,by rw [e]; simp,B3.step (v.rg q1) vC hne u,v',by simpa using hl,hc,SG.trans hs,fun x hx=>?_,fun T cT sT pT=>?_⟩
  ·rw [ed] at hx
   simp only [UH] at hx
   rcases UF.1 hx with rfl | hx
   ·exact hs _ _ h1 h2 SH
   ·exact L9 x (by rw [I3,UK]; exact U6 _ hx)
  ·obtain⟨k1,k2⟩:=Lj T cT sT pT
   exact hT T cT k1 k2
theorem AP {a b:List Int}{x:aZ}(h:x∈qL a b):∃i:Nat,a[i]? = some x.jH∧b[i]? = some x.kI:=by
 unfold qL at h
 obtain⟨p,hp,rfl⟩:=US.1 h
 obtain⟨i,hi⟩:=Vj hp
 rw [List.getElem?_zip_eq_some] at hi
 exact⟨i,hi⟩
theorem Gw {a b:List Int}{i:Nat}{x y:Int}(h1:a[i]? = some x)(h2:b[i]? = some y):(x,y)∈(qL a b).map vE:=by
 unfold qL
 rw [List.map_map]
 refine US.2 ⟨(x,y),?_,rfl⟩
 exact Ux (i:=i) (List.getElem?_zip_eq_some.2 ⟨h1,h2⟩)
theorem pz {m:Nat}(hm:16000≤m):∀(k:Nat) (s:ab) (ch:List Int) (left:List aZ) (i:Nat),i≤left.length→9*(s.aa.length - p8 s.ae)+(left.length - i)<k→left.length≤1+8*p8 s.ae→ch.length≤p8 s.ae→Inv s→
  (∀p∈left,Rg s.aa.length p.jH∧Rg s.aa.length p.kI)→qK s.aa (rp s.ae) ((left.drop i).map vE)→∃out,az.l0 m k ch left (i:Int) s=some out∧AO s ((left.drop i).map vE) ch out
 | 0,s,ch,left,i,h1,h2,h3,h4,v,hin,hp=>by omega
 | k+1,s,ch,left,i,h1,h2,h3,h4,v,hin,hp=>by
  have n1:=vk s.ae
  have n2:=v.len
  have n3:=v.max
  simp only [az.l0]
  by_cases hi:i<left.length
  rotate_left
  ·have d:decide ((i:Int)<(left.length:Int))=false:=by rw [decide_eq_false_iff_not]; omega
   rw [if_neg (by rw [d]; decide)]
   have hd:left.drop i=[]:=Vu (by omega)
   rw [hd] at hp ⊢
   exact⟨_,rfl,[],by simp,B3.refl s,v,by simp; omega,Eh hp,fun _ _ _ _ h=>h,fun x hx=>by simp at hx,fun T _ s _=>s⟩
  have d:decide ((i:Int)<(left.length:Int))=true:=by rw [decide_eq_true_eq]; omega
  have ep:=Un hi
  generalize left[i]=p at ep
  obtain⟨ra,rb⟩:=hin p (Ux ep)
  have ed:left.drop i=p::left.drop (i+1):=by
   rw [Us hi]; congr 1
   exact (Ul.1 ep).2
  have ew:i64.wrap ((i:Int)+1)=((i+1:Nat):Int):=by rw [mR (by omega) (by omega)]; omega
  rw [if_pos d,CA ep]
  simp only [Ue,Ej hm v ra,Ej hm v rb,ew]
  have ga:=v.cn.rg _ ra
  have gb:=v.cn.rg _ rb
  have L9:qK s.aa (rp s.ae) (vE p::(left.drop (i+1)).map vE):=by rw [ed] at hp; exact hp
  by_cases he:rp s.ae p.jH=rp s.ae p.kI
  ·have c1:(rp s.ae p.jH==rp s.ae p.jH&&rp s.ae p.kI==rp s.ae p.jH)=true:=by simp [he]
   rw [if_pos c1]
   obtain⟨out,e1,e2⟩:=pz hm k s ch left (i+1) (by omega) (by omega) h3 h4 v hin (B1 L9 ra rb he)
   refine⟨out,e1,?_⟩
   match out,e2 with
   | .inl (El,b,s'),⟨hb,l,e,u,v',hl,hT⟩=>
    exact⟨hb,l,e,u,v',hl,fun T cT sT pT=>hT T cT sT fun x hx=>pT x (by rw [ed]; simp only [UH]; exact List.mem_cons_of_mem _ hx)⟩
   | .inr (El,Hm,i',s'),⟨l,e,u,v',hl,hc,hs,hq,hT⟩=>
    refine⟨l,e,u,v',hl,hc,hs,fun x hx=>?_,fun T cT sT pT=>hT T cT sT fun x hx=>pT x (by rw [ed]; simp only [UH]; exact List.mem_cons_of_mem _ hx)⟩
    rw [ed] at hx
    simp only [UH] at hx
    rcases UF.1 hx with rfl | hx
    ·exact hs _ _ ra rb he
    ·exact hq x hx
  ·have c1:¬(rp s.ae p.jH==rp s.ae p.jH&&rp s.ae p.kI==rp s.ae p.jH)=true:=by
    simp only [BEq.rfl,VN,beq_iff_eq]; exact fun h=>he h.symm
   rw [if_neg c1]
   simp only [yP ga,yP gb,Ue]
   obtain⟨jv,jr,jn⟩:=v.join ga gb (v.cn.id _ ra) (v.cn.id _ rb) he
   have ej:=I1 (m:=m) ga gb v.len
   obtain⟨ob,oq⟩:=tP (N:=s.aa) (rp s.ae p.jH) (rp s.ae p.kI)
   have hne:(jI s.aa (rp s.ae p.jH) (rp s.ae p.kI)).2≠(jI s.aa (rp s.ae p.jH) (rp s.ae p.kI)).1:=by
    rcases oq with⟨e1,e2⟩| ⟨e1,e2⟩
    ·rw [e1,e2]; exact fun h=>he h.symm
    ·rw [e1,e2]; exact he
   generalize jI s.aa (rp s.ae p.jH) (rp s.ae p.kI)=q at *
   have QC:(q.1=rp s.ae p.jH∧q.2=rp s.ae p.kI)∨(q.1=rp s.ae p.kI∧q.2=rp s.ae p.jH):=oq
   have n4:=vk (s.ae.set q.1.toNat q.2)
   rw [Uq,jn] at n4
   have QD:∀M:List aZ,M.length≤8→(∀x∈M,Rg s.aa.length x.jH∧Rg s.aa.length x.kI)→
     (∀T,Cl s.aa T→T (rp s.ae p.jH)=T (rp s.ae p.kI)→∀x∈M,T x.jH=T x.kI)→
     (gJ s.aa (rp s.ae p.jH)→gJ s.aa (rp s.ae p.kI)→mr (gk s.aa (rp s.ae p.jH)) (gk s.aa (rp s.ae p.kI))∧∀(i:Nat) (a b:Int),(gk s.aa (rp s.ae p.jH)).args[i]? = some a→(gk s.aa (rp s.ae p.kI)).args[i]? = some b→(a,b)∈M.map vE)→
     ∃out,((app 8 ch [q.1]).bind fun x=>az.l0 m k x (left++M) ((i+1:Nat):Int) ⟨s.aj,s.aa,s.ae.set q.1.toNat q.2⟩)=some out∧AO s ((left.drop i).map vE) ch out:=by
    intro M T9 SI SJ SK
    rw [yQ (by simp only [Ut,UG]; omega),Ue]
    have I3:((left++M).drop (i+1)).map vE=(left.drop (i+1)).map vE++M.map vE:=by
     rw [List.drop_append_of_le_length (by omega),UK]
    have jn:p8 (s.ae.set q.1.toNat q.2)=p8 s.ae+1:=jn
    obtain⟨out,e1,e2⟩:=pz hm k ⟨s.aj,s.aa,s.ae.set q.1.toNat q.2⟩ (ch++[q.1]) (left++M) (i+1) (by rw [Uo]; omega)
     (by show 9*(s.aa.length - p8 (s.ae.set q.1.toNat q.2))+_<k; rw [jn,Uo]; omega) (by show _≤1+8*p8 (s.ae.set q.1.toNat q.2); rw [jn,Uo]; omega)
     (by show _≤p8 (s.ae.set q.1.toNat q.2); rw [jn,Uo]; simp only [Ut,UG]; omega) jv
     (fun x hx=>(UJ.1 hx).elim (hin x) (SI x)) (by
      rw [I3]
      exact qK.congr jr (B2 v.cn (p:=vE p) L9 ra rb QC hne SK))
    exact⟨out,e1,Gv v ep ra rb QC hne jr SJ e2⟩
   have I4:=QD [] (by simp) (fun x hx=>by simp at hx) (fun T _ _ x hx=>by simp at hx)
   rw [VC] at I4
   by_cases k1:(gk s.aa (rp s.ae p.jH)).kind=0
   ·have b1:(!((gk s.aa (rp s.ae p.jH)).kind==(0:Int)))=false:=by rw [k1]; rfl
    rw [b1,if_neg (by decide),ej]
    exact I4 fun h=>absurd k1 h
   have b1:(!((gk s.aa (rp s.ae p.jH)).kind==(0:Int)))=true:=by simpa using k1
   rw [b1,if_pos rfl]
   by_cases k2:(gk s.aa (rp s.ae p.kI)).kind=0
   ·have b2:(!((gk s.aa (rp s.ae p.kI)).kind==(0:Int)))=false:=by rw [k2]; rfl
    rw [b2,if_neg (by decide),ej]
    exact I4 fun _ h=>absurd k2 h
   have b2:(!((gk s.aa (rp s.ae p.kI)).kind==(0:Int)))=true:=by simpa using k2
   rw [b2,if_pos rfl]
   obtain⟨df,SL,I3⟩:=Ek (m:=m) (gk s.aa (rp s.ae p.jH)) (gk s.aa (rp s.ae p.kI))
   rw [SL,Ue]
   cases df with
   | true=>
    refine⟨_,rfl,rfl,[],by simp,B3.refl s,v,by simp; omega,fun T cT sT pT=>?_⟩
    have tp:T p.jH=T p.kI:=pT (vE p) (by rw [ed]; simp)
    have ta:T (rp s.ae p.jH)=T p.jH:=sT _ _ ga ra (v.cn.id _ ra)
    have tb:T (rp s.ae p.kI)=T p.kI:=sT _ _ gb rb (v.cn.id _ rb)
    have:=(cT _ _ ga gb (by rw [ta,tb,tp]) k1 k2).1
    have:=I3.2 this
    cases this
   | false=>
    have tp:=I3.1 rfl
    have a8:=(v.args _ (lh ga)).1
    have el:az.l1 m (gk s.aa (rp s.ae p.jH)) (gk s.aa (rp s.ae p.kI)) m left 0 s=some (left++qL ((gk s.aa (rp s.ae p.jH)).args.drop 0) ((gk s.aa (rp s.ae p.kI)).args.drop 0),((gk s.aa (rp s.ae p.jH)).args.length:Int),s):=tQ tp.2.2.2 a8 m left 0 (U8 _) (by omega) (by omega)
    rw [if_neg (by decide),el]
    simp only [Ue,UX,ej]
    refine QD (qL (gk s.aa (rp s.ae p.jH)).args (gk s.aa (rp s.ae p.kI)).args) ?_ (fun x hx=>?_) (fun T cT hT x hx=>?_) (fun _ _=>⟨tp,fun i a b ha hb=>Gw ha hb⟩)
    ·unfold qL; rw [UB,List.length_zip]; omega
    ·obtain⟨j,j1,j2⟩:=AP hx
     exact⟨(v.args _ (lh ga)).2 _ (Ux j1),(v.args _ (lh gb)).2 _ (Ux j2)⟩
    ·obtain⟨j,j1,j2⟩:=AP hx
     exact (cT _ _ ga gb hT k1 k2).2 j _ _ j1 j2
end
end Go.Proofs.Ytifafejidnjckaa
namespace Go.Proofs.Ytifafejidnjckaa
open Go Go.R Go.Uf
open Go.IntKind (i64 u64 u8 u32)
section
variable {m:Nat}{s s':ab}
theorem B4 {a b:ab}(h1:a.aj=b.aj)(h2:a.aa=b.aa)(h3:a.ae=b.ae):a=b:=by
 cases a; cases b; cases h1; cases h2; cases h3; rfl
theorem I5 {a b:List Int}(hl:a.length=b.length)(h:∀n,Rg b.length n→iA a n=iA b n):a=b:=by
 refine VE fun i=>?_
 by_cases hi:i<b.length
 ·have r:Rg b.length (i:Int):=⟨Vx _,by omega⟩
  have e1:=qY (to:=b) r
  have e2:=qY (to:=a) (n:=(i:Int)) (by rw [hl]; exact r)
  rw [Ur] at e1 e2
  rw [e1,e2,h _ r]
 ·rw [UN (by omega),UN (by omega)]
theorem AQ (l:List Int)(hl:l.length≤8000)(s:ab)(hs:∀n∈l,Rg s.ae.length n∧iA s.ae n=n):∀(k:Nat) (i:Nat) (s':ab),i≤l.length→l.length - i<k→s'.aj=s.aj→s'.aa=s.aa→s'.ae.length=s.ae.length→(∀n,Rg s.ae.length n→n∉l.drop i→iA s'.ae n=iA s.ae n)→
  ba.l0 m l k (i:Int) s'=some ((l.length:Int),s)
 | 0,i,s',h1,h2,_,_,_,_=>by omega
 | k+1,i,s',h1,h2,e1,e2,e3,h=>by
  simp only [ba.l0]
  by_cases hi:i<l.length
  ·have d:decide ((i:Int)<(l.length:Int))=true:=by rw [decide_eq_true_eq]; omega
   have el:=Un hi
   have ed:l.drop i=l[i]::l.drop (i+1):=Us hi
   generalize l[i]=n at el ed
   obtain⟨rn,sn⟩:=hs n (Ux el)
   have QE:Rg s'.ae.length n:=by rw [e3]; exact rn
   have ew:i64.wrap ((i:Int)+1)=((i+1:Nat):Int):=by rw [mR (by omega) (by omega)]; omega
   rw [if_pos d,CA el]
   simp only [Ue,vl QE,ew]
   refine AQ l hl s hs k (i+1) _ (by omega) (by omega) e1 e2 (by show (List.set _ _ _).length=_; rw [Uq,e3]) (fun x hx hm=>?_)
   show iA (s'.ae.set n.toNat n) x=_
   rw [vm QE]
   by_cases he:x.toNat=n.toNat
   ·have:x=n:=by have:=hx.1; have:=rn.1; omega
    rw [if_pos he,this,sn]
   ·rw [if_neg he]
    refine h x hx ?_
    rw [ed]
    simp only [UF,not_or]
    exact⟨fun e=>he (by rw [e]),hm⟩
  ·have d:decide ((i:Int)<(l.length:Int))=false:=by rw [decide_eq_false_iff_not]; omega
   rw [if_neg (by rw [d]; decide)]
   have hd:l.drop i=[]:=Vu (by omega)
   have:s'=s:=B4 e1 e2 (I5 e3 fun n hn=>h n hn (by rw [hd]; simp))
   rw [this]
   congr 2; omega
theorem Em (hm:16000≤m){l:List Int}(hl:l.length≤8000)(u:B3 s s' l):ba.f m s' l=some s:=by
 obtain⟨u1,u2,u3,u4,u5⟩:=u
 have:=AQ (m:=m) l hl s u4 m 0 s' (U8 _) (by omega) u1 u2 u3 (by rw [UX]; exact u5)
 have this:ba.l0 m l m 0 s'=some ((l.length:Int),s):=this
 simp only [ba.f,this,Ue]
theorem xi {f:Int→Option Bool}{g:Int→Bool}(l:List Int)(hl:l.length≤1000000)(hf:∀x∈l,f x=some (g x)):∀(k i:Nat),i≤l.length→l.length - i<k→
  (∃j:Nat,cw.l0 m l f k (i:Int)=some (.inl (j:Int))∧i≤j∧j<l.length∧(∀x,l[j]? = some x→g x=true)∧∀q,i≤q→q<j→∀x,l[q]? = some x→g x=false)∨
  (∃z,cw.l0 m l f k (i:Int)=some (.inr z)∧∀q,i≤q→∀x,l[q]? = some x→g x=false)
 | 0,i,h1,h2=>by omega
 | k+1,i,h1,h2=>by
  simp only [cw.l0]
  by_cases hi:i<l.length
  ·have d:decide ((i:Int)<(l.length:Int))=true:=by rw [decide_eq_true_eq]; omega
   have el:=Un hi
   generalize l[i]=n at el
   have ew:i64.wrap ((i:Int)+1)=((i+1:Nat):Int):=by rw [mR (by omega) (by omega)]; omega
   rw [if_pos d,CA el]
   simp only [Ue,hf n (Ux el),ew]
   cases hg:g n with
   | true=>
    left
    refine⟨i,by simp,Uj _,hi,fun x hx=>?_,fun q h3 h4=>by omega⟩
    rw [el] at hx; cases hx; exact hg
   | false=>
    rw [if_neg (by decide)]
    have iA:∀q,i≤q→q≠i→i+1≤q:=fun q h3 h4=>by omega
    rcases xi l hl hf k (i+1) (by omega) (by omega) with⟨j,e,j1,j2,j3,j4⟩| ⟨z,e,j4⟩
    ·left
     refine⟨j,e,by omega,j2,j3,fun q h3 h4 x hx=>?_⟩
     by_cases hq:q=i
     ·subst hq; rw [el] at hx; cases hx; exact hg
     ·exact j4 q (iA q h3 hq) h4 x hx
    ·right
     refine⟨z,e,fun q h3 x hx=>?_⟩
     by_cases hq:q=i
     ·subst hq; rw [el] at hx; cases hx; exact hg
     ·exact j4 q (iA q h3 hq) x hx
  ·have d:decide ((i:Int)<(l.length:Int))=false:=by rw [decide_eq_false_iff_not]; omega
   rw [if_neg (by rw [d]; decide)]
   right
   refine⟨_,rfl,fun q h3 x hx=>?_⟩
   rw [UN (by omega)] at hx; cases hx
theorem AR {f:Int→Option Bool}{g:Int→Bool}(hm:2000000≤m)(l:List Int)(hl:l.length≤1000000)(hf:∀x∈l,f x=some (g x)) :
  (∃j:Nat,cw.f m l f=some (j:Int)∧j<l.length∧(∀x,l[j]? = some x→g x=true)∧∀q,q<j→∀x,l[q]? = some x→g x=false)∨
  (cw.f m l f=some (-1)∧∀x∈l,g x=false):=by
 rcases xi (m:=m) l hl hf m 0 (U8 _) (by omega) with⟨j,e,j1,j2,j3,j4⟩| ⟨z,e,j4⟩
 ·left
  have e:cw.l0 m l f m 0=_:=e
  refine⟨j,by simp only [cw.f,e,Ue],j2,j3,fun q=>j4 q (U8 _)⟩
 ·right
  have e:cw.l0 m l f m 0=_:=e
  refine⟨by simp only [cw.f,e,Ue],fun x hx=>?_⟩
  obtain⟨q,hq⟩:=Vj hx
  exact j4 q (U8 _) x hq
theorem sv {f:Int→Option Bool}{g:Int→Bool}(hm:2000000≤m)(l:List Int)(hl:l.length≤1000000)(hf:∀x∈l,f x=some (g x)):eu.f m l f=some (l.any g):=by
 unfold eu.f
 rcases AR hm l hl hf with⟨j,e,j1,j2,_⟩| ⟨e,h⟩
 ·rw [e,Ue]
  have h1:=Un j1
  have:l.any g=true:=List.any_eq_true.2 ⟨_,Ux h1,j2 _ h1⟩
  rw [this]
  rw [show decide ((j:Int)≥0)=true by rw [decide_eq_true_eq]; omega]
 ·rw [e,Ue]
  have:l.any g=false:=by
   rw [List.any_eq_false]
   intro x hx; simp [h x hx]
  rw [this]; rfl
theorem vo (hm:2000000≤m)(hs:s.aj=true)(l:List Int)(hl:l.length≤1000000):bT.f m s l=some (if l.all (fun n=>decide (Rg s.aa.length n)) then 0 else 1):=by
 unfold bT.f bA.f
 rw [hs]
 simp only [Ue,Vd,Up,if_false]
 rw [sv hm l hl (g:=fun n=>!decide (Rg s.aa.length n)) (fun x _=>by simp only [cQ.f,AN,Ue])]
 rw [Ue]
 have:(l.any fun n=>!decide (Rg s.aa.length n)) = !(l.all fun n=>decide (Rg s.aa.length n)):=by
  induction l with
  | nil=>rfl
  | cons a l ih=>simp only [List.any_cons,U2,Bool.not_and,ih (by simp only [Ut] at hl; omega)]
 rw [this]
 cases (l.all fun n=>decide (Rg s.aa.length n))<;>rfl
end
end Go.Proofs.Ytifafejidnjckaa
namespace Go.Proofs.Ytifafejidnjckaa
open Go Go.R Go.Uf
open Go.IntKind (i64 u64 u8 u32)
section
variable {m:Nat}{s s':ab}
theorem pA {f:Int→Option Bool}{g:Int→Bool}(l:List Int)(hl:l.length≤1000000)(hf:∀x∈l,f x=some (g x)):∀(k:Nat) (s1:List Int) (i j:Nat),i≤j→i<l.length→j≤l.length→l.length - j<k→s1.length=l.length→s1.take i=(l.take j).filter (fun x=>!g x)→s1.drop j=l.drop j→
  ∃(s2:List Int) (i2:Nat) (z:Int),dJ.l0 m l f k s1 (i:Int) (j:Int)=some (s2,(i2:Int),z)∧i2≤l.length∧s2.length=l.length∧s2.take i2=l.filter (fun x=>!g x)
 | 0,s1,i,j,h1,_,h2,h3,_,_,_=>by omega
 | k+1,s1,i,j,h1,h0,h2,h3,h4,h5,h6=>by
  simp only [dJ.l0]
  by_cases hj:j<l.length
  ·have d:decide ((j:Int)<(l.length:Int))=true:=by rw [decide_eq_true_eq]; omega
   have el:=Un hj
   have e1:s1[j]? = some l[j]:=by
    have:=congrArg (fun z=>z[0]?) h6
    simp only [List.getElem?_drop,VJ] at this
    rw [this,el]
   have et:l.take (j+1)=l.take j++[l[j]]:=(Vc hj)
   have OY:i64.wrap ((j:Int)+1)=((j+1:Nat):Int):=by rw [mR (by omega) (by omega)]; omega
   have SM:i64.wrap ((i:Int)+1)=((i+1:Nat):Int):=by rw [mR (by omega) (by omega)]; omega
   have hd:∀s3:List Int,s3.drop j=l.drop j→s3.drop (j+1)=l.drop (j+1):=fun s3 h=>by
    rw [VH,←List.drop_drop,←List.drop_drop] at *
    rw [VH] at *
    have a1:(s3.drop j).drop 1=(l.drop j).drop 1:=by rw [h]
    simpa [List.drop_drop,VH] using a1
   rw [if_pos d,CA e1]
   simp only [Ue,hf _ (Ux el),OY,SM]
   cases hg:g l[j] with
   | true=>
    rw [if_neg (by decide)]
    exact pA l hl hf k s1 i (j+1) (by omega) h0 (by omega) (by omega) h4 (by rw [et,List.filter_append,h5]; simp [hg]) (hd s1 h6)
   | false=>
    rw [if_pos (by decide)]
    have i1:i<s1.length:=by omega
    have e2:=Un i1
    rw [CA e2,Ue,Ur]
    by_cases hi:i+1<l.length
    ·refine pA l hl hf k (s1.set i l[j]) (i+1) (j+1) (by omega) hi (by omega) (by omega) (by rw [Uq,h4]) ?_ ?_
     ·rw [et,List.filter_append,←h5]
      have:(s1.set i l[j]).take (i+1)=s1.take i++[l[j]]:=by
       rw [Vc (by rw [Uq]; exact i1)]
       rw [List.take_set_of_le (Uj _),List.getElem_set_self]
      rw [this]; simp [hg]
     ·rw [List.drop_set_of_lt (by omega)]
      exact hd s1 h6
    ·
     have Fg:j+1=l.length:=by omega
     have xK:i=j:=by omega
     cases k with
     | zero=>omega
     | succ k=>
      simp only [dJ.l0]
      have d2:decide (((j+1:Nat):Int)<(l.length:Int))=false:=by rw [decide_eq_false_iff_not]; omega
      rw [if_neg (by rw [d2]; decide)]
      refine⟨_,i+1,_,rfl,by omega,by rw [Uq,h4],?_⟩
      have:(s1.set i l[j]).take (i+1)=s1.take i++[l[j]]:=by
       rw [Vc (by rw [Uq]; exact i1)]
       rw [List.take_set_of_le (Uj _),List.getElem_set_self]
      have Lk:l=l.take j++[l[j]]:=by rw [←et,Fg,List.take_length]
      rw [this,h5]
      conv=>rhs; rw [Lk]
      rw [List.filter_append]; simp [hg]
  ·have d:decide ((j:Int)<(l.length:Int))=false:=by rw [decide_eq_false_iff_not]; omega
   rw [if_neg (by rw [d]; decide)]
   have Fg:j=l.length:=by omega
   refine⟨_,i,_,rfl,by omega,h4,?_⟩
   rw [h5,Fg,List.take_length]
theorem En {f:Int→Option Bool}{g:Int→Bool}(hm:2000000≤m)(l:List Int)(hl:l.length≤1000000)(hf:∀x∈l,f x=some (g x)):dJ.f m l f=some (l.filter fun x=>!g x):=by
 unfold dJ.f
 rcases AR hm l hl hf with⟨j,e,j1,j2,j3⟩| ⟨e,h⟩
 ·rw [e,Ue]
  have hne:((j:Int) == -1)=false:=by rw [beq_eq_false_iff_ne]; omega
  have OY:i64.wrap ((j:Int)+1)=((j+1:Nat):Int):=by rw [mR (by omega) (by omega)]; omega
  have el:=Un j1
  obtain⟨s2,i2,z,e2,g1,g2,g3⟩:=pA (m:=m) l hl hf m l j (j+1) (by omega) j1 (by omega) (by omega) rfl (by
   rw [Vc j1,List.filter_append]
   have:(l.take j).filter (fun x=>!g x)=l.take j:=by
    rw [List.filter_eq_self]
    intro x hx
    obtain⟨q,hq⟩:=Vj hx
    have OZ:q<j:=by
     have:=(Ul.1 hq).1
     rw [Vi] at this; omega
    rw [List.getElem?_take_of_lt OZ] at hq
    rw [j3 q OZ x hq]; rfl
   rw [this]; simp [j2 _ el]) rfl
  rw [hne,if_neg (by decide),OY,e2]
  simp only [Ue]
  have hc:JB s2 (i2:Int)=some (s2.take i2++Uw (s2.length - i2) 0):=by
   unfold JB; rw [if_pos ⟨Vx _,by omega⟩,Ur]
  rw [hc,Ue]
  have hs:Hb (s2.take i2++Uw (s2.length - i2) 0) 0 (i2:Int)=some (s2.take i2):=by
   unfold Hb
   rw [if_pos ⟨Int.le_refl _,Vx _,by rw [Uo,Vi,VD]; omega⟩]
   congr 1
   simp only [Ur,Int.toNat_zero,UX,Nat.sub_zero]
   rw [UO (by rw [Vi]; omega),List.take_take,Nat.min_self]
  rw [hs,g3]; rfl
 ·rw [e,Ue]
  have hb:((-1:Int) == -1)=true:=rfl
  rw [hb,if_pos rfl]
  congr 1
  rw [eq_comm,List.filter_eq_self]
  intro x hx; rw [h x hx]; rfl
def SN (N:List aq)(l:List Int):List Int:=ky (l.filter fun n=>(gk N n).kind==0)
theorem AS (hm:2000000≤m){l:List Int}(hl:l.length≤8000)(hr:∀n∈l,Rg s.aa.length n):cp.f m s l=some (SN s.aa l):=by
 unfold cp.f
 have h1:Cq 8 (l.length:Int) (0:Int)=some (Uw l.length 0):=by
  unfold Cq; rw [if_pos ⟨Vx _,by rw [Ur]; omega⟩,Ur]
 have h2:KB (Uw l.length (0:Int)) l=some l:=by
  unfold KB; rw [if_pos (by rw [VD]; exact Uj _)]; simp
 rw [h1,Ue,h2,Ue]
 rw [En hm l (by omega) (g:=fun n=>!((gk s.aa n).kind==0)) (fun x hx=>by simp only [cR.f,yR (hr x hx),Ue])]
 simp only [Ue,Bool.not_not]
 rfl
theorem xj (hm:2000000≤m)(v:Inv s)(c:Cl s.aa (rp s.ae)){a b:Int}(ha:Rg s.aa.length a)(hb:Rg s.aa.length b) :
  ∃l ok s',az.f m s a b=some (l,ok,s')∧B3 s s' l∧Inv s'∧l.length≤8000∧
   (ok=false→∀T,Cl s.aa T→gL s.aa (rp s.ae) T→T a=T b→False)∧
   (ok=true→Cl s.aa (rp s'.ae)∧gL s.aa (rp s.ae) (rp s'.ae)∧rp s'.ae a=rp s'.ae b∧∀T,Cl s.aa T→gL s.aa (rp s.ae) T→T a=T b→gL s.aa (rp s'.ae) T):=by
 have n1:=vk s.ae
 have n2:=v.len
 have n3:=v.max
 obtain⟨out,e1,e2⟩:=pz (m:=m) (by omega) m s [] [⟨a,b⟩] 0 (by simp) (by simp only [Ut,UG]; omega) (by simp only [Ut,UG]; omega) (by simp) v
  (fun p hp=>by simp only [UE] at hp; subst hp; exact⟨ha,hb⟩) (by
   rw [UX]; exact Gu c v.args)
 have e1:az.l0 m m [] [⟨a,b⟩] 0 s=some out:=e1
 unfold az.f
 rw [e1,Ue]
 match out,e2 with
 | .inl (El,b',s'),⟨sH,l,e,u,v',hl,hT⟩=>
  subst sH
  rw [UR] at e hl
  subst e
  exact⟨El,false,s',rfl,u,v',hl,fun _ T cT sT pT=>hT T cT sT fun p hp=>by
   simp only [UX,UH,VI,UE] at hp; subst hp; exact pT,fun h=>by cases h⟩
 | .inr (El,Hm,i',s'),⟨l,e,u,v',hl,hc,hs,hq,hT⟩=>
  rw [UR] at e hl
  subst e
  exact⟨El,true,s',rfl,u,v',hl,(fun h=>by cases h),fun _=>⟨hc,hs,hq (a,b) (by simp [vE]),fun T cT sT pT=>hT T cT sT fun p hp=>by
   simp only [UX,UH,VI,UE] at hp; subst hp; exact pT⟩⟩
structure Inv2 (s:ab):Prop where
 inv:Inv s
 cl:Cl s.aa (rp s.ae)
def oH (s:ab)(l:List Int):Bool:=l.all fun n=>decide (Rg s.aa.length n)
theorem Eo {a b:Int}(h:oH s [a,b]=true):Rg s.aa.length a∧Rg s.aa.length b:=by
 simpa [oH] using h
theorem Gx (hm:2000000≤m)(v:Inv2 s)(a b:Int):∃l e s',da.f m s a b=some (l,e,s')∧Inv2 s'∧s'.aj=s.aj∧s'.aa=s.aa∧
  ((oH s [a,b]=false∧e=1∧s'=s)∨
   (oH s [a,b]=true∧e=8∧s'=s∧∀T,Cl s.aa T→gL s.aa (rp s.ae) T→T a=T b→False)∨
   (oH s [a,b]=true∧e=0∧gL s.aa (rp s.ae) (rp s'.ae)∧rp s'.ae a=rp s'.ae b∧∀T,Cl s.aa T→gL s.aa (rp s.ae) T→T a=T b→gL s.aa (rp s'.ae) T)):=by
 unfold da.f
 rw [vo hm v.inv.made [a,b] (by simp)]
 show ∃l e s',((some (if oH s [a,b]=true then (0:Int) else 1)).bind _)=_∧_
 rw [Ue]
 cases hn:oH s [a,b] with
 | false=>
  refine⟨[],1,s,by simp,v,rfl,rfl,.inl ⟨rfl,rfl,rfl⟩⟩
 | true=>
  obtain⟨ra,rb⟩:=Eo hn
  obtain⟨l,ok,s',e,u,v',hl,h1,h2⟩:=xj hm v.inv v.cl ra rb
  have e0:(!((if true=true then (0:Int) else 1)==0))=false:=rfl
  rw [e0,if_neg (by decide),e,Ue]
  cases ok with
  | false=>
   rw [if_pos (show (!(l,false,s').2.1)=true from rfl)]
   simp only [Em (m:=m) (by omega) hl u,Ue]
   exact⟨_,_,s,rfl,v,rfl,rfl,.inr (.inl ⟨by simp,rfl,rfl,h1 rfl⟩)⟩
  | true=>
   rw [if_neg (show ¬(!(l,true,s').2.1)=true by simp)]
   have eN:s'.aa=s.aa:=u.2.1
   simp only []
   rw [AS hm hl (fun n hn=>by rw [eN,←v.inv.len]; exact (u.2.2.2.1 n hn).1)]
   obtain⟨k1,k2,k3,k4⟩:=h2 rfl
   exact⟨_,_,s',rfl,⟨v',by rw [eN]; exact k1⟩,u.1,eN,.inr (.inr ⟨by simp,rfl,k2,k3,k4⟩)⟩
theorem I6 (hm:2000000≤m)(v:Inv2 s)(a b:Int):∃t l e,du.f m s a b=some (t,l,e,s):=by
 unfold du.f
 rw [vo hm v.inv.made [a,b] (by simp)]
 show ∃t l e,((some (if oH s [a,b]=true then (0:Int) else 1)).bind _)=_
 rw [Ue]
 cases hn:oH s [a,b] with
 | false=>exact⟨0,[],1,by simp⟩
 | true=>
  obtain⟨ra,rb⟩:=Eo hn
  obtain⟨l,ok,s',e,u,v',hl,h1,h2⟩:=xj hm v.inv v.cl ra rb
  have e0:(!((if true=true then (0:Int) else 1)==0))=false:=rfl
  rw [e0,if_neg (by decide),e,Ue]
  simp only [Em (m:=m) (by omega) hl u,Ue]
  rw [AS hm hl (fun n hn=>by rw [←v.inv.len]; exact (u.2.2.2.1 n hn).1)]
  simp only [Ue]
  cases ok with
  | false=>exact⟨0,[],0,by simp⟩
  | true=>
   rw [if_neg (by simp)]
   split
   ·exact⟨_,_,_,rfl⟩
   ·exact⟨_,_,_,rfl⟩
theorem Ll (hm:2000000≤m)(v:Inv s)(n:Int):dO.f m s n=some (if Rg s.aa.length n then (rp s.ae n,0) else (0,1)):=by
 unfold dO.f
 rw [vo hm v.made [n] (by simp)]
 by_cases h:Rg s.aa.length n
 ·simp [h,Ej (m:=m) (by omega) v h]
 ·simp [h]
end
end Go.Proofs.Ytifafejidnjckaa
namespace Go.R
open Go
open Go.IntKind (i64 u64 u8 u32)
theorem Ep (x:Int):u64.wrap x=x % 18446744073709551616:=by
 unfold IntKind.wrap; simp [IntKind.signed,IntKind.bits]
theorem I7 {x:Int}(h0:0≤x)(h1:x<18446744073709551616):u64.wrap x=x:=by
 rw [Ep,Int.emod_eq_of_lt h0 h1]
theorem Er (x:Int):i64.wrap x=if x % 18446744073709551616≥9223372036854775808 then x % 18446744073709551616 - 18446744073709551616 else x % 18446744073709551616:=by
 unfold IntKind.wrap; simp [IntKind.signed,IntKind.bits]
theorem bF {x:Int}(h0 : -9223372036854775808≤x)(h1:x<9223372036854775808):i64.wrap x=x:=by
 rw [Er]; split<;>omega
end Go.R
namespace Go.Proofs.Ytifafejidnjckaa
open Go Go.R
open Go.IntKind (i64 u64 u8 u32)
def gt (l:List Int)(k:Nat):Int:=l.getD k 0
theorem en {l:List Int}{k:Nat}(h:k<l.length):l[k]? = some (gt l k):=by
 unfold gt; rw [UA,Un h]; rfl
theorem bN {l:List Int}{k:Nat}(h:k<l.length):gt l k∈l:=Ux (en h)
theorem fy {l:List Int}{k:Nat}(h:k<l.length):ix l (k:Int)=some (gt l k):=by
 unfold ix; rw [if_pos (by omega),Ur,en h]
theorem yS {l:List Int}{i:Int}{k:Nat}(hi:i=(k:Int))(h:k<l.length):ix l i=some (gt l k):=by rw [hi,fy h]
theorem pB {l:List Int}{i k:Nat}{x:Int}(hi:i<l.length):gt (l.set i x) k=if k=i then x else gt l k:=by
 unfold gt
 simp only [UA,VF]
 by_cases h:i=k
 ·subst h; simp [hi]
 ·rw [if_neg h,if_neg (by omega)]
theorem I8 {l r:List Int}(hl:l.length=r.length)(h:∀k,k<l.length→gt l k=gt r k):l=r:=by
 apply VE fun k=>?_
 by_cases hk:k<l.length
 ·rw [en hk,en (hl ▸ hk),h k hk]
 ·rw [UN (by omega),UN (by omega)]
def swp (l:List Int)(i j:Nat):List Int:=(l.set i (gt l j)).set j (gt l i)
theorem oI {l:List Int}{i j:Nat}(hi:i<l.length)(hj:j<l.length):(swp l i j).Perm l:=by
 have h1:gt l j=l[j]:=by have:=en hj; rw [Un hj] at this; exact (UZ this).symm
 have h2:gt l i=l[i]:=by have:=en hi; rw [Un hi] at this; exact (UZ this).symm
 unfold swp; rw [h1,h2]; exact List.set_set_perm hi hj
theorem lj {l:List Int}{i j k:Nat}(hi:i<l.length)(hj:j<l.length):gt (swp l i j) k=if k=j then gt l i else if k=i then gt l j else gt l k:=by
 unfold swp
 rw [pB (by simpa using hj),pB hi]
theorem sw {l:List Int}{i j:Nat}:(swp l i j).length=l.length:=by simp [swp]
theorem xk {a b:Nat}(h:a+b<9223372036854775808):i64.wrap (iU .u64 (u64.wrap (i64.wrap ((a:Int)+(b:Int)))) 1)=(((a+b) / 2:Nat):Int):=by
 rw [bF (x:=(a:Int)+b) (by omega) (by omega),I7 (by omega) (by omega)]
 have:iU .u64 ((a:Int)+(b:Int)) 1=(((a+b) / 2:Nat):Int):=by
  unfold iU
  rw [Int.fdiv_eq_ediv_of_nonneg _ (by decide)]
  show ((a:Int)+(b:Int)) / 2=_
  omega
 rw [this,bF (by omega) (by omega)]
theorem Es {m:Nat}{l:List Int}{a b n:Nat}(h1:a+n≤b)(h2:b+n≤l.length)(hl:l.length<2 ^ 40):∀(f i:Nat) (d:List Int),n - i<f→i≤n→d.Perm l→
  (∀k,gt d k=if a≤k∧k<a+i then gt l (k - a+b) else if b≤k∧k<b+i then gt l (k - b+a) else gt l k)→
  ∃d' x,bR.l0 m (a:Int) (b:Int) (n:Int) f d (i:Int)=some (d',x)∧d'.Perm l∧(∀k,gt d' k=if a≤k∧k<a+n then gt l (k - a+b) else if b≤k∧k<b+n then gt l (k - b+a) else gt l k)
 | 0,i,d,hf,_,_,_=>absurd hf (by omega)
 | f+1,i,d,hf,hi,hp,hg=>by
  have sJ:(2:Nat) ^ 40=1099511627776:=by decide
  have O0:=hp.length_eq
  unfold bR.l0
  by_cases h:i<n
  ·have e1:i64.wrap ((b:Int)+(i:Int))=((b+i:Nat):Int):=by rw [bF (by omega) (by omega)]; omega
   have e2:i64.wrap ((a:Int)+(i:Int))=((a+i:Nat):Int):=by rw [bF (by omega) (by omega)]; omega
   have e3:i64.wrap ((i:Int)+1)=((i+1:Nat):Int):=by rw [bF (by omega) (by omega)]; omega
   rw [if_pos (by simp; omega),e1,e2,e3,fy (by omega),fy (by omega),Ur,Ur,Ue,Ue,Ue,fy (by simp; omega),Ue]
   show ∃d' x,bR.l0 m (a:Int) (b:Int) (n:Int) f (swp d (a+i) (b+i)) ((i+1:Nat):Int)=some (d',x)∧_
   refine Es h1 h2 hl f (i+1) _ (by omega) (by omega) ((oI (by omega) (by omega)).trans hp) fun k=>?_
   rw [lj (by omega) (by omega),hg,hg,hg]
   by_cases k1:k=b+i
   ·subst k1
    rw [if_pos rfl,if_neg (by omega),if_neg (by omega),if_neg (by omega),if_pos (by omega)]
    congr 1; omega
   ·rw [if_neg k1]
    by_cases k2:k=a+i
    ·subst k2
     rw [if_pos rfl,if_neg (by omega),if_neg (by omega),if_pos (by omega)]
     congr 1; omega
    ·rw [if_neg k2]
     by_cases k3:a≤k∧k<a+i
     ·rw [if_pos k3,if_pos (by omega)]
     ·rw [if_neg k3,if_neg (show ¬(a≤k∧k<a+(i+1)) by omega)]
      by_cases k4:b≤k∧k<b+i
      ·rw [if_pos k4,if_pos (by omega)]
      ·rw [if_neg k4,if_neg (by omega)]
  ·have:i=n:=by omega
   subst this
   exact⟨d,i,by rw [if_neg (by simp)],hp,hg⟩
theorem sy {m:Nat}{l:List Int}{a b n:Nat}{cmp:Int→Int→Option Int}(h1:a+n≤b)(h2:b+n≤l.length)(hl:l.length<2 ^ 40)(hm:n<m) :
  ∃d',bR.f m l (a:Int) (b:Int) (n:Int) cmp=some d'∧d'.Perm l∧(∀k,gt d' k=if a≤k∧k<a+n then gt l (k - a+b) else if b≤k∧k<b+n then gt l (k - b+a) else gt l k):=by
 obtain⟨d',x,e,hp,hg⟩:=Es (m:=m) h1 h2 hl m 0 l (by omega) (by omega) (List.Perm.refl _) (fun k=>by rw [if_neg (by omega),if_neg (by omega)])
 have e:bR.l0 m (a:Int) (b:Int) (n:Int) m l 0=_:=e
 exact⟨d',by unfold bR.f; rw [e]; rfl,hp,hg⟩
def JE (l d:List Int)(p i j:Nat):Prop:=d.Perm l∧(∀k,k<j→gt d (p+k)=gt l (p+i+k))∧(∀k,k<i→gt d (p+j+k)=gt l (p+k))∧∀k,k<p∨p+i+j≤k→gt d k=gt l k
theorem yT {m:Nat}{q:Nat}{cmp:Int→Int→Option Int}(hm:2 ^ 41≤m):∀(f i j:Nat) (l:List Int),i+j<f→0<i→0<j→i≤q→q+j≤l.length→l.length<2 ^ 40→
  ∃(d':List Int) (x:Nat) (d:List Int),eM.l0 m (q:Int) cmp f l (i:Int) (j:Int)=some (d',(x:Int),(x:Int))∧bR.f m d' (i64.wrap ((q:Int) - (x:Int))) (q:Int) (x:Int) cmp=some d∧JE l d (q - i) i j
 | 0,i,j,l,hf,_,_,_,_,_=>absurd hf (by omega)
 | f+1,i,j,l,hf,hi,hj,hq,hl,hs=>by
  have sJ:(2:Nat) ^ 40=1099511627776:=by decide
  have xO:(2:Nat) ^ 41=2199023255552:=by decide
  unfold eM.l0
  have e1:i64.wrap ((q:Int) - (i:Int))=((q - i:Nat):Int):=by rw [bF (by omega) (by omega)]; omega
  by_cases h:i=j
  ·subst h
   rw [if_neg (by simp)]
   obtain⟨d,e,hp,hg⟩:=sy (m:=m) (l:=l) (a:=q - i) (b:=q) (n:=i) (cmp:=cmp) (by omega) (by omega) hs (by omega)
   refine⟨l,i,d,rfl,by rw [e1,e],hp,fun k hk=>?_,fun k hk=>?_,fun k hk=>?_⟩
   ·rw [hg,if_pos (by omega)]; congr 1; omega
   ·rw [hg,if_neg (by omega),if_pos (by omega)]; congr 1; omega
   ·rw [hg,if_neg (by omega),if_neg (by omega)]
  ·rw [if_pos (by simp; omega)]
   by_cases h2:j<i
   ·obtain⟨d1,e,hp,hg⟩:=sy (m:=m) (l:=l) (a:=q - i) (b:=q) (n:=j) (cmp:=cmp) (by omega) (by omega) hs (by omega)
    have hd:=hp.length_eq
    have e2:i64.wrap ((i:Int) - (j:Int))=((i - j:Nat):Int):=by rw [bF (by omega) (by omega)]; omega
    rw [if_pos (by simp; omega),e1,e,Ue,e2]
    obtain⟨d',x,d,k1,k2,k3,k4,k5,k6⟩:=yT (q:=q) (cmp:=cmp) hm f (i - j) j d1 (by omega) (by omega) hj (by omega) (by omega) (by omega)
    refine⟨d',x,d,k1,k2,k3.trans hp,fun k hk=>?_,fun k hk=>?_,fun k hk=>?_⟩
    ·rw [k6 _ (by omega),hg,if_pos (by omega)]; congr 1; omega
    ·by_cases O1:k<j
     ·have:=k4 k O1
      rw [show q - (i - j)+k=q - i+j+k by omega,hg,if_neg (by omega),if_pos (by omega)] at this
      rw [this]; congr 1; omega
     ·have:=k5 (k - j) (by omega)
      rw [show q - (i - j)+j+(k - j)=q - i+j+k by omega,hg,if_neg (by omega),if_neg (by omega)] at this
      rw [this]; congr 1; omega
    ·rw [k6 _ (by omega),hg,if_neg (by omega),if_neg (by omega)]
   ·have e2:i64.wrap (i64.wrap ((q:Int)+(j:Int)) - (i:Int))=((q+j - i:Nat):Int):=by rw [bF (x:=(q:Int)+j) (by omega) (by omega),bF (by omega) (by omega)]; omega
    have e3:i64.wrap ((j:Int) - (i:Int))=((j - i:Nat):Int):=by rw [bF (by omega) (by omega)]; omega
    obtain⟨d1,e,hp,hg⟩:=sy (m:=m) (l:=l) (a:=q - i) (b:=q+j - i) (n:=i) (cmp:=cmp) (by omega) (by omega) hs (by omega)
    have hd:=hp.length_eq
    rw [if_neg (by simp; omega),e1,e2,e,Ue,e3]
    obtain⟨d',x,d,k1,k2,k3,k4,k5,k6⟩:=yT (q:=q) (cmp:=cmp) hm f i (j - i) d1 (by omega) hi (by omega) hq (by omega) (by omega)
    refine⟨d',x,d,k1,k2,k3.trans hp,fun k hk=>?_,fun k hk=>?_,fun k hk=>?_⟩
    ·by_cases O1:k<j - i
     ·rw [k4 k O1,hg,if_neg (by omega),if_neg (by omega)]
     ·have:=k5 (k - (j - i)) (by omega)
      rw [show q - i+(j - i)+(k - (j - i))=q - i+k by omega,hg,if_pos (by omega)] at this
      rw [this]; congr 1; omega
    ·rw [k6 _ (by omega),hg,if_neg (by omega),if_pos (by omega)]; congr 1; omega
    ·rw [k6 _ (by omega),hg,if_neg (by omega),if_neg (by omega)]
theorem Et {m:Nat}{a q b:Nat}{cmp:Int→Int→Option Int}{l:List Int}(hm:2 ^ 41≤m)(h1:a<q)(h2:q<b)(h3:b≤l.length)(hs:l.length<2 ^ 40) :
  ∃d,eM.f m l (a:Int) (q:Int) (b:Int) cmp=some d∧JE l d a (q - a) (b - q):=by
 have sJ:(2:Nat) ^ 40=1099511627776:=by decide
 have xO:(2:Nat) ^ 41=2199023255552:=by decide
 obtain⟨d',x,d,k1,k2,k3⟩:=yT (q:=q) (cmp:=cmp) hm m (q - a) (b - q) l (by omega) (by omega) (by omega) (by omega) (by omega) hs
 rw [show q - (q - a)=a by omega] at k3
 refine⟨d,?_,k3⟩
 unfold eM.f
 rw [show i64.wrap ((q:Int) - (a:Int))=((q - a:Nat):Int) by rw [bF (by omega) (by omega)]; omega,show i64.wrap ((b:Int) - (q:Int))=((b - q:Nat):Int) by rw [bF (by omega) (by omega)]; omega,k1,Ue]
 dsimp only
 rw [k2]; rfl
end Go.Proofs.Ytifafejidnjckaa
namespace Go.Proofs.Ytifafejidnjckaa
open Go Go.R
open Go.IntKind (i64 u64 u8 u32)
def mL (c:Int):Bool:=decide (97≤c∧c≤122)||decide (65≤c∧c≤90)||decide (48≤c∧c≤57)||c==95
theorem xl {m:Nat}(c:Int):fF.f m c=some (mL c):=by
 unfold fF.f
 by_cases h1:97≤c<;>by_cases h2:c≤122<;>by_cases h3:65≤c<;>by_cases h4:c≤90<;>by_cases h5:48≤c<;>by_cases h6:c≤57<;>simp [mL,h1,h2,h3,h4,h5,h6]<;>omega
theorem AT {s:ByteArray}{i:Nat}(h:i<s.size):∃c:UInt8,s.data.toList[i]? = some c∧bt s (i:Int)=some (c.toNat:Int):=by
 have h':i<s.data.toList.length:=by simpa using h
 refine⟨s.data.toList[i],Un h',?_⟩
 unfold bt; rw [if_pos (by omega),Ur,Un h']; rfl
theorem AU {m:Nat}{s:ByteArray}(hs:s.size≤16):∀(f i:Nat),s.size - i<f→i≤s.size→
  ∃o,cL.l0 m s f (i:Int)=some o∧((∃x,o = .inr x)∧((s.data.toList.drop i).all fun c=>mL (c.toNat:Int))=true∨o = .inl false∧((s.data.toList.drop i).all fun c=>mL (c.toNat:Int))=false)
 | 0,i,hf,_=>absurd hf (by omega)
 | f+1,i,hf,hi=>by
  unfold cL.l0
  by_cases h:i<s.size
  ·obtain⟨c,hc,hb⟩:=AT h
   obtain⟨h4,h5⟩:=Ul.1 hc
   have hd:s.data.toList.drop i=c::s.data.toList.drop (i+1):=by rw [←h5]; exact Us h4
   rw [if_pos (by simp only [decide_eq_true_eq]; omega),hb,Ue,xl,Ue,hd,U2]
   cases hl:mL (c.toNat:Int) with
   | false=>exact⟨_,rfl,.inr ⟨rfl,rfl⟩⟩
   | true=>
    obtain⟨o,h1,h2⟩:=AU (m:=m) hs f (i+1) (by omega) (by omega)
    rw [if_neg (by simp),bF (by omega) (by omega),show (i:Int)+1=((i+1:Nat):Int) by omega,h1]
    exact⟨o,rfl,by simpa using h2⟩
  ·refine⟨_,by rw [if_neg (by simp only [decide_eq_true_eq]; omega)],.inl ⟨⟨_,rfl⟩,?_⟩⟩
   rw [Vu (by simp; omega)]; rfl
def AW (s:ByteArray)(lo hi:Int):Bool:=match s.data.toList with
 | []=>false
 | c::cs=>decide (cs.length≤15)&&decide (lo≤(c.toNat:Int))&&decide ((c.toNat:Int)≤hi)&&((c::cs).all fun c=>mL (c.toNat:Int))
theorem B5 {m:Nat}(hm:20≤m)(s:ByteArray)(lo hi:Int):cL.f m s lo hi=some (AW s lo hi):=by
 have hsz:s.size=s.data.toList.length:=by simp
 unfold cL.f AW
 cases hl:s.data.toList with
 | nil=>rw [if_pos (by rw [hl,UG] at hsz; simp only [decide_eq_true_eq]; omega)]
 | cons c cs=>
  rw [hl,Ut] at hsz
  rw [if_neg (by simp only [decide_eq_true_eq]; omega)]
  dsimp only
  by_cases h16:cs.length≤15
  ·obtain⟨c',h1,h2⟩:=AT (s:=s) (i:=0) (by omega)
   rw [hl] at h1
   simp only [UW,Uh] at h1
   subst h1
   have h2:bt s 0=_:=h2
   rw [if_neg (by simp only [decide_eq_true_eq]; omega),h2,Ue]
   by_cases h3:(c.toNat:Int)<lo
   ·rw [if_pos (by simpa using h3)]
    simp only [Uh]
    rw [show decide (lo≤(c.toNat:Int))=false by simp; omega]; simp
   rw [if_neg (by simpa using h3),Ue]
   by_cases h4:(c.toNat:Int) > hi
   ·rw [if_pos (by simpa using h4)]
    simp only [Uh]
    rw [show decide ((c.toNat:Int)≤hi)=false by simp; omega]; simp
   rw [if_neg (by simpa using h4)]
   obtain⟨o,k1,k2⟩:=AU (m:=m) (s:=s) (by omega) m 0 (by omega) (by omega)
   have k1:cL.l0 m s m 0=_:=k1
   rw [k1,Ue]
   rw [UX,hl] at k2
   rw [show decide (lo≤(c.toNat:Int))=true by simp; omega,show decide ((c.toNat:Int)≤hi)=true by simp; omega,show decide (cs.length≤15)=true by simpa using h16]
   simp only [VN]
   rcases k2 with⟨⟨x,rfl⟩,k⟩| ⟨rfl,k⟩
   ·rw [k]
   ·rw [k]
  ·rw [if_pos (by simp only [decide_eq_true_eq]; omega),show decide (cs.length≤15)=false by simp; omega]; rfl
def oJ (s:ByteArray):Bool:=s.data.toList==[124]||s.data.toList==[35]||AW s 97 122
theorem mM {m:Nat}(hm:20≤m)(s:ByteArray):fu.f m s=some (oJ s):=by
 unfold fu.f oJ
 show (if (s.data.toList==[124])=true then _ else if (s.data.toList==[35])=true then _ else _)=_
 cases h1:s.data.toList==[124] with
 | true=>rfl
 | false=>
  cases h2:s.data.toList==[35] with
  | true=>rfl
  | false=>rw [B5 hm]; rfl
theorem tR {s:ByteArray}(h:oJ s=true):1≤s.size∧s.size≤16:=by
 have hsz:s.size=s.data.toList.length:=by simp
 unfold oJ at h
 simp only [UY,beq_iff_eq] at h
 rcases h with (h | h) | h
 ·rw [h] at hsz; simp at hsz; omega
 ·rw [h] at hsz; simp at hsz; omega
 ·unfold AW at h
  split at h
  ·cases h
  ·rename_i c cs hl
   rw [hl] at hsz
   simp only [Ui,decide_eq_true_eq] at h
   simp at hsz; omega
def AX (s:ByteArray):Bool:=s.data.toList==[112,114,111,99]||s.data.toList==[99,101,108,108]||s.data.toList==[112,111,114,116]
theorem tS {m:Nat}(s:ByteArray):fM.f m s=some (AX s):=by
 unfold fM.f AX
 show (if (s.data.toList==[112,114,111,99])=true then _ else if (s.data.toList==[99,101,108,108])=true then _ else some (s.data.toList==[112,111,114,116]))=_
 cases h1:s.data.toList==[112,114,111,99] with
 | true=>rfl
 | false=>
  cases h2:s.data.toList==[99,101,108,108] with
  | true=>rfl
  | false=>rfl
theorem Eu {m:Nat}{s:List Int}{f0:Int→Option Bool}{g:Int→Bool}(hs:s.length<2 ^ 40)(C:∀x∈s,f0 x=some (g x)):∀(f i:Nat),s.length - i<f→i≤s.length→
  ∃o,cw.l0 m s f0 f (i:Int)=some o∧((∃x,o = .inr x)∧(s.drop i).any g=false∨(∃x:Nat,o = .inl (x:Int))∧(s.drop i).any g=true)
 | 0,i,hf,_=>absurd hf (by omega)
 | f+1,i,hf,hi=>by
  have sJ:(2:Nat) ^ 40=1099511627776:=by decide
  unfold cw.l0
  by_cases h:i<s.length
  ·have hx:ix s (i:Int)=some s[i]:=by unfold ix; rw [if_pos (by omega)]; simp [h]
   rw [if_pos (by simp only [decide_eq_true_eq]; omega),hx,Ue,C _ (List.getElem_mem h),Ue,Us h,List.any_cons]
   cases g s[i] with
   | true=>exact⟨_,rfl,.inr ⟨⟨i,rfl⟩,rfl⟩⟩
   | false=>
    obtain⟨o,h1,h2⟩:=Eu (m:=m) hs C f (i+1) (by omega) (by omega)
    rw [if_neg (by simp),bF (by omega) (by omega),show (i:Int)+1=((i+1:Nat):Int) by omega,h1]
    exact⟨o,rfl,by simpa using h2⟩
  ·refine⟨_,by rw [if_neg (by simp only [decide_eq_true_eq]; omega)],.inl ⟨⟨_,rfl⟩,?_⟩⟩
   rw [Vu (by omega)]; rfl
theorem B6 {m:Nat}{s:List Int}{f0:Int→Option Bool}{g:Int→Bool}(hs:s.length<2 ^ 40)(hm:s.length<m)(C:∀x∈s,f0 x=some (g x)):eu.f m s f0=some (s.any g):=by
 obtain⟨o,h1,h2⟩:=Eu (m:=m) hs C m 0 (by omega) (by omega)
 have h1:cw.l0 m s f0 m 0=_:=h1
 unfold eu.f cw.f
 rw [h1,Ue]
 rw [UX] at h2
 rcases h2 with⟨⟨x,rfl⟩,k⟩| ⟨⟨x,rfl⟩,k⟩
 ·rw [k]; rfl
 ·rw [k]
  simp only [Ue,Uh]
  simp
theorem Ev {m:Nat}{s:List aq}{f0:aq→Option Bool}{g:aq→Bool}(hs:s.length<2 ^ 40)(C:∀x∈s,f0 x=some (g x)):∀(f i:Nat),s.length - i<f→i≤s.length→
  ∃o,eL.l0 m s f0 f (i:Int)=some o∧((∃x,o = .inr x)∧(s.drop i).any g=false∨(∃x:Nat,o = .inl (x:Int))∧(s.drop i).any g=true)
 | 0,i,hf,_=>absurd hf (by omega)
 | f+1,i,hf,hi=>by
  have sJ:(2:Nat) ^ 40=1099511627776:=by decide
  unfold eL.l0
  by_cases h:i<s.length
  ·have hx:ix s (i:Int)=some s[i]:=by unfold ix; rw [if_pos (by omega)]; simp [h]
   rw [if_pos (by simp only [decide_eq_true_eq]; omega),hx,Ue,C _ (List.getElem_mem h),Ue,Us h,List.any_cons]
   cases g s[i] with
   | true=>exact⟨_,rfl,.inr ⟨⟨i,rfl⟩,rfl⟩⟩
   | false=>
    obtain⟨o,h1,h2⟩:=Ev (m:=m) hs C f (i+1) (by omega) (by omega)
    rw [if_neg (by simp),bF (by omega) (by omega),show (i:Int)+1=((i+1:Nat):Int) by omega,h1]
    exact⟨o,rfl,by simpa using h2⟩
  ·refine⟨_,by rw [if_neg (by simp only [decide_eq_true_eq]; omega)],.inl ⟨⟨_,rfl⟩,?_⟩⟩
   rw [Vu (by omega)]; rfl
theorem B7 {m:Nat}{s:List aq}{f0:aq→Option Bool}{g:aq→Bool}(hs:s.length<2 ^ 40)(hm:s.length<m)(C:∀x∈s,f0 x=some (g x)):gA.f m s f0=some (s.any g):=by
 obtain⟨o,h1,h2⟩:=Ev (m:=m) hs C m 0 (by omega) (by omega)
 have h1:eL.l0 m s f0 m 0=_:=h1
 unfold gA.f eL.f
 rw [h1,Ue]
 rw [UX] at h2
 rcases h2 with⟨⟨x,rfl⟩,k⟩| ⟨⟨x,rfl⟩,k⟩
 ·rw [k]; rfl
 ·rw [k]
  simp only [Ue,Uh]
  simp
def oK (n:aq)(size:Int):Bool:=
 if n.kind=0 then decide (0≤n.int)&&n.label.data.toList==[]&&n.args.isEmpty
 else if n.kind=1 then decide (-1099511627776≤n.int)&&decide (n.int≤1099511627776)&&n.label.data.toList==[]&&n.args.isEmpty
 else if n.kind=2 then n.int==0&&oJ n.label&&n.args.isEmpty
 else if n.kind=3 then n.int==0&&oJ n.label&&decide (1≤n.args.length)&&decide (n.args.length≤8)&&n.args.all fun a=>decide (0≤a)&&decide (a<size)
 else if n.kind=4 then decide (0≤n.int)&&AX n.label&&n.args.isEmpty
 else false
theorem Gy (l:List Int):((l.length:Int)==(0:Int))=l.isEmpty:=by cases l<;>simp; omega
theorem B8 {m:Nat}(hm:20≤m)(n:aq)(size:Int):hZ.f m n size=some (oK n size):=by
 unfold hZ.f oK
 by_cases k0:n.kind=0
 ·rw [if_pos (by simpa using k0),if_pos k0]
  by_cases h1:0≤n.int
  ·rw [if_pos (by simpa using h1),show decide (0≤n.int)=true by simpa using h1]
   show (if (n.label.data.toList==[])=true then _ else _)=_
   cases n.label.data.toList==[] with
   | true=>rw [if_pos rfl,Gy]; rfl
   | false=>rfl
  ·rw [if_neg (by simpa using h1),show decide (0≤n.int)=false by simp; omega]; rfl
 rw [if_neg (by simpa using k0),if_neg k0]
 by_cases k1:n.kind=1
 ·rw [if_pos (by simpa using k1),if_pos k1]
  by_cases h1 : -1099511627776≤n.int
  ·rw [if_pos (by simpa using h1),show decide (-1099511627776≤n.int)=true by simpa using h1]
   by_cases h3:n.int≤1099511627776
   ·rw [if_pos (by simpa using h3),show decide (n.int≤1099511627776)=true by simpa using h3]
    show (if (n.label.data.toList==[])=true then _ else _)=_
    cases n.label.data.toList==[] with
    | true=>rw [if_pos rfl,Gy]; rfl
    | false=>rfl
   ·rw [if_neg (by simpa using h3),show decide (n.int≤1099511627776)=false by simp; omega]; rfl
  ·rw [if_neg (by simpa using h1),show decide (-1099511627776≤n.int)=false by simp; omega]; rfl
 rw [if_neg (by simpa using k1),if_neg k1]
 by_cases k2:n.kind=2
 ·rw [if_pos (by simpa using k2),if_pos k2]
  cases h1:n.int==0 with
  | false=>rfl
  | true=>
   rw [if_pos rfl,mM hm,Ue]
   cases oJ n.label with
   | false=>rfl
   | true=>rw [if_pos rfl,Gy]; rfl
 rw [if_neg (by simpa using k2),if_neg k2]
 by_cases k3:n.kind=3
 ·rw [if_pos (by simpa using k3),if_pos k3]
  cases h1:n.int==0 with
  | false=>rfl
  | true=>
   rw [if_pos rfl,mM hm,Ue]
   cases oJ n.label with
   | false=>rfl
   | true=>
    rw [if_pos rfl]
    by_cases g1:1≤n.args.length
    ·rw [if_pos (by simp only [decide_eq_true_eq]; omega),show decide (1≤n.args.length)=true by simpa using g1]
     by_cases g2:n.args.length≤8
     ·rw [if_pos (by simp only [decide_eq_true_eq]; omega),show decide (n.args.length≤8)=true by simpa using g2]
      rw [B6 (g:=fun a=>!(decide (0≤a)&&decide (a<size))) (by omega) (by omega) (fun a _=>by
       unfold gy.f
       by_cases w:a<0
       ·rw [if_pos (by simpa using w),show decide (0≤a)=false by simp; omega]; rfl
       ·rw [if_neg (by simpa using w),show decide (0≤a)=true by simp; omega]
        by_cases w2:a<size
        ·rw [show decide (a≥size)=false from decide_eq_false (by omega),show decide (a<size)=true from decide_eq_true w2]; rfl
        ·rw [show decide (a≥size)=true from decide_eq_true (by omega),show decide (a<size)=false from decide_eq_false w2]; rfl),Ue]
      simp [List.not_any_eq_all_not]
     ·rw [if_neg (by simp only [decide_eq_true_eq]; omega),show decide (n.args.length≤8)=false from decide_eq_false g2]; rfl
    ·rw [if_neg (by simp only [decide_eq_true_eq]; omega),show decide (1≤n.args.length)=false from decide_eq_false g1]; rfl
 rw [if_neg (by simpa using k3),if_neg k3]
 by_cases k4:n.kind=4
 ·rw [if_pos (by simpa using k4),if_pos k4]
  by_cases h1:0≤n.int
  ·rw [if_pos (by simpa using h1),show decide (0≤n.int)=true by simpa using h1,tS,Ue]
   cases AX n.label with
   | false=>rfl
   | true=>rw [if_pos rfl,Gy]; rfl
  ·rw [if_neg (by simpa using h1),show decide (0≤n.int)=false by simp; omega]; rfl
 rw [if_neg (by simpa using k4),if_neg k4]
end Go.Proofs.Ytifafejidnjckaa
namespace Go.Proofs.Ytifafejidnjckaa
open Go Go.R
open Go.IntKind (i64 u64 u8 u32)
structure Mv (lo hi:Nat)(l d:List Int):Prop where
 perm:d.Perm l
 out:∀k,k<lo∨hi≤k→gt d k=gt l k
 im:∀k,lo≤k→k<hi→∃k',lo≤k'∧k'<hi∧gt d k=gt l k'
theorem Mv.refl {lo hi:Nat}{l:List Int}:Mv lo hi l l:=⟨List.Perm.refl _,fun _ _=>rfl,fun k h1 h2=>⟨k,h1,h2,rfl⟩⟩
theorem Mv.trans {lo hi:Nat}{l d e:List Int}(a:Mv lo hi l d)(b:Mv lo hi d e):Mv lo hi l e:=
 ⟨b.perm.trans a.perm,fun k hk=>(b.out k hk).trans (a.out k hk),fun k h1 h2=>by
  obtain⟨k',g1,g2,g3⟩:=b.im k h1 h2
  obtain⟨SO,g4,g5,g6⟩:=a.im k' g1 g2
  exact⟨SO,g4,g5,g3.trans g6⟩⟩
theorem Mv.length {lo hi:Nat}{l d:List Int}(a:Mv lo hi l d):d.length=l.length:=a.perm.length_eq
theorem Mv.wide {lo hi Fa jo:Nat}{l d:List Int}(a:Mv lo hi l d)(h1:Fa≤lo)(h2:hi≤jo):Mv Fa jo l d:=
 ⟨a.perm,fun k hk=>a.out k (by omega),fun k h3 h4=>by
  by_cases h:lo≤k∧k<hi
  ·obtain⟨k',g1,g2,g3⟩:=a.im k h.1 h.2
   exact⟨k',by omega,by omega,g3⟩
  ·exact⟨k,h3,h4,a.out k (by omega)⟩⟩
theorem yU {lo hi i j:Nat}{l:List Int}(LH:lo≤i)(zd:i<hi)(L3:lo≤j)(Fg:j<hi)(h:hi≤l.length):Mv lo hi l (swp l i j):=
 ⟨oI (by omega) (by omega),fun k hk=>by rw [lj (by omega) (by omega),if_neg (by omega),if_neg (by omega)],fun k h1 h2=>by
  rw [lj (by omega) (by omega)]
  split
  ·exact⟨i,LH,zd,rfl⟩
  split
  ·exact⟨j,L3,Fg,rfl⟩
  ·exact⟨k,h1,h2,rfl⟩⟩
def Cm (cmp:Int→Int→Option Int)(c:Int→Int→Int)(l:List Int):Prop:=∀x∈l,∀y∈l,cmp x y=some (c x y)
theorem Cm.perm {cmp c l d}(h:Cm cmp c l)(p:List.Perm d l):Cm cmp c d:=fun x hx y hy=>h x (p.mem_iff.1 hx) y (p.mem_iff.1 hy)
theorem Cm.at {cmp c}{l:List Int}(h:Cm cmp c l){i j:Nat}(hi:i<l.length)(hj:j<l.length):cmp (gt l i) (gt l j)=some (c (gt l i) (gt l j)):=h _ (bN hi) _ (bN hj)
structure Ord (c:Int→Int→Int)(l:List Int):Prop where
 tr:∀x∈l,∀y∈l,∀z∈l,0≤c y x→0≤c z y→0≤c z x
 JF:∀x∈l,∀y∈l,c x y<0→0≤c y x
theorem Ord.perm {c l d}(h:Ord c l)(p:List.Perm d l):Ord c d:=⟨fun x hx y hy z hz=>h.tr x (p.mem_iff.1 hx) y (p.mem_iff.1 hy) z (p.mem_iff.1 hz),fun x hx y hy=>h.JF x (p.mem_iff.1 hx) y (p.mem_iff.1 hy)⟩
def Sg (c:Int→Int→Int)(l:List Int)(a b:Nat):Prop:=∀i j,a≤i→i<j→j<b→0≤c (gt l j) (gt l i)
theorem Ew {m:Nat}{a i:Nat}{cmp:Int→Int→Option Int}{c:Int→Int→Int}:∀(f j:Nat) (d:List Int),j - a<f→a≤j→j≤i→i<d.length→d.length<2 ^ 40→Cm cmp c d→
  ∃d' x,aU.l1 m (a:Int) cmp f d (j:Int)=some (d',x)∧Mv a (i+1) d d'∧
   (Ord c d→(∀x y,a≤x→x<y→y≤i→x≠j→y≠j→0≤c (gt d y) (gt d x))→(∀y,j<y→y≤i→0≤c (gt d y) (gt d j))→Sg c d' a (i+1))
 | 0,j,d,hf,_,_,_,_,_=>absurd hf (by omega)
 | f+1,j,d,hf,h1,h2,h3,hs,C=>by
  have sJ:(2:Nat) ^ 40=1099511627776:=by decide
  unfold aU.l1
  by_cases h:a<j
  ·have e1:i64.wrap ((j:Int) - 1)=((j - 1:Nat):Int):=by rw [bF (by omega) (by omega)]; omega
   rw [if_pos (by simp; omega),e1,fy (by omega),fy (by omega),Ue,Ue,C.at (by omega) (by omega),Ue]
   by_cases hc:c (gt d j) (gt d (j - 1))<0
   ·rw [if_pos (by simpa using hc),Ue,Ue,Ue,Ur,Ur,fy (by simp; omega),Ue]
    obtain⟨d',x,k1,k2,k3⟩:=Ew (m:=m) (a:=a) (i:=i) (cmp:=cmp) (c:=c) f (j - 1) (swp d j (j - 1)) (by omega) (by omega) (by omega) (by rw [sw]; omega) (by rw [sw]; omega) (C.perm (oI (by omega) (by omega)))
    refine⟨d',x,k1,(yU (by omega) (by omega) (by omega) (by omega) (by omega)).trans k2,fun O g1 g2=>k3 (O.perm (oI (by omega) (by omega))) (fun x y x1 x2 x3 x4 x5=>?_) (fun y y1 y2=>?_)⟩
    ·rw [lj (by omega) (by omega),lj (by omega) (by omega),if_neg x5,if_neg x4]
     by_cases hy:y=j
     ·subst hy
      rw [if_pos rfl,if_neg (by omega)]
      exact g1 _ _ (by omega) (by omega) (by omega) (by omega) (by omega)
     ·rw [if_neg hy]
      by_cases hx:x=j
      ·subst hx
       rw [if_pos rfl]
       exact g1 _ _ (by omega) (by omega) (by omega) (by omega) (by omega)
      ·rw [if_neg hx]
       exact g1 _ _ (by omega) (by omega) (by omega) (by omega) (by omega)
    ·rw [lj (by omega) (by omega),lj (by omega) (by omega),if_neg (by omega),if_pos rfl]
     by_cases hy:y=j
     ·subst hy
      rw [if_pos rfl]
      exact O.JF _ (bN (by omega)) _ (bN (by omega)) hc
     ·rw [if_neg hy]
      exact g2 _ (by omega) (by omega)
   ·rw [if_neg (by simpa using hc)]
    refine⟨d,j,rfl,Mv.refl,fun O g1 g2 x y x1 x2 x3=>?_⟩
    have hc:0≤c (gt d j) (gt d (j - 1)):=by omega
    by_cases hx:x=j
    ·subst hx; exact g2 _ x2 (by omega)
    ·by_cases hy:y=j
     ·subst hy
      by_cases hx1:x=y - 1
      ·subst hx1; exact hc
      ·exact O.tr _ (bN (by omega)) (gt d (y - 1)) (bN (by omega)) _ (bN (by omega)) (g1 _ _ x1 (by omega) (by omega) hx (by omega)) hc
     ·exact g1 _ _ x1 x2 (by omega) hx hy
  ·have:j=a:=by omega
   subst this
   rw [if_neg (by simp)]
   refine⟨d,j,rfl,Mv.refl,fun O g1 g2 x y x1 x2 x3=>?_⟩
   by_cases hx:x=j
   ·subst hx; exact g2 _ x2 (by omega)
   ·exact g1 _ _ x1 x2 (by omega) hx (by omega)
theorem Ey {m:Nat}{a b:Nat}{cmp:Int→Int→Option Int}{c:Int→Int→Int}(hm:2 ^ 41≤m):∀(f i:Nat) (d:List Int),b - i<f→a<i→b≤d.length→d.length<2 ^ 40→Cm cmp c d→
  ∃d' x,aU.l0 m (a:Int) (b:Int) cmp f d (i:Int)=some (d',x)∧Mv a b d d'∧(Ord c d→Sg c d a i→Sg c d' a b)
 | 0,i,d,hf,_,_,_,_=>absurd hf (by omega)
 | f+1,i,d,hf,h1,h2,hs,C=>by
  have sJ:(2:Nat) ^ 40=1099511627776:=by decide
  have xO:(2:Nat) ^ 41=2199023255552:=by decide
  unfold aU.l0
  by_cases h:i<b
  ·obtain⟨d1,x1,k1,k2,k3⟩:=Ew (m:=m) (a:=a) (i:=i) (cmp:=cmp) (c:=c) m i d (by omega) (by omega) (by omega) (by omega) hs C
   have e3:i64.wrap ((i:Int)+1)=((i+1:Nat):Int):=by rw [bF (by omega) (by omega)]; omega
   rw [if_pos (by simp; omega),k1,Ue]
   dsimp only
   rw [e3]
   have hl:=k2.length
   obtain⟨d',x,g1,g2,g3⟩:=Ey (a:=a) (b:=b) (cmp:=cmp) (c:=c) hm f (i+1) d1 (by omega) (by omega) (by omega) (by omega) (C.perm k2.perm)
   exact⟨d',x,g1,(k2.wide (Uj _) (by omega)).trans g2,fun O S=>g3 (O.perm k2.perm) (k3 O (fun x y q1 q2 q3 q4 q5=>S x y q1 q2 (by omega)) (fun y q1 q2=>absurd q1 (by omega)))⟩
  ·exact⟨d,i,by rw [if_neg (by simp; omega)],Mv.refl,fun O S x y q1 q2 q3=>S x y q1 q2 (by omega)⟩
theorem xm {m:Nat}{a b:Nat}{cmp:Int→Int→Option Int}{c:Int→Int→Int}(hm:2 ^ 41≤m){l:List Int}(ha:a≤l.length)(hb:b≤l.length)(hs:l.length<2 ^ 40)(C:Cm cmp c l) :
  ∃d,aU.f m l (a:Int) (b:Int) cmp=some d∧Mv a b l d∧(Ord c l→Sg c d a b):=by
 have sJ:(2:Nat) ^ 40=1099511627776:=by decide
 have xO:(2:Nat) ^ 41=2199023255552:=by decide
 have e3:i64.wrap ((a:Int)+1)=((a+1:Nat):Int):=by rw [bF (by omega) (by omega)]; omega
 obtain⟨d',x,g1,g2,g3⟩:=Ey (a:=a) (b:=b) (cmp:=cmp) (c:=c) hm m (a+1) l (by omega) (by omega) hb hs C
 exact⟨d',by unfold aU.f; rw [e3,g1]; rfl,g2,fun O=>g3 O fun x y q1 q2 q3=>absurd q3 (by omega)⟩
end Go.Proofs.Ytifafejidnjckaa
namespace Go.Proofs.Ytifafejidnjckaa
open Go Go.R
open Go.IntKind (i64 u64 u8 u32)
theorem Ez {α β:Type}{B:α→Option β}{c1 c2:Bool}{X:Option α}{d0:α}{G:β→Prop}(D:α→Prop)(h1:c1=true→c2=true→∃x,X=some x∧D x)(h0:¬(c1=true∧c2=true)→D d0)
  (h:∀x,D x→∃d,B x=some d∧G d):∃d,jn B (fun j=>if c1=true then (if c2=true then (X.bind fun x0=>j x0) else j d0) else j d0)=some d∧G d:=by
 unfold jn
 dsimp only
 by_cases a1:c1=true
 ·by_cases a2:c2=true
  ·obtain⟨x,e,hx⟩:=h1 a1 a2
   rw [if_pos a1,if_pos a2,e]; exact h x hx
  ·rw [if_pos a1,if_neg a2]; exact h _ (h0 fun z=>a2 z.2)
 ·rw [if_neg a1]; exact h _ (h0 fun z=>a1 z.1)
theorem O2 {α:Type}{c1 c2:Bool}{X:Option α}{d0:α}{G:α→Prop}(h1:c1=true→c2=true→∃x,X=some x∧G x)(h0:¬(c1=true∧c2=true)→G d0) :
  ∃d,(if c1=true then (if c2=true then (X.bind fun x0=>some x0) else some d0) else some d0)=some d∧G d:=by
 by_cases a1:c1=true
 ·by_cases a2:c2=true
  ·obtain⟨x,e,hx⟩:=h1 a1 a2
   rw [if_pos a1,if_pos a2,e]; exact⟨x,rfl,hx⟩
  ·rw [if_pos a1,if_neg a2]; exact⟨_,rfl,h0 fun z=>a2 z.2⟩
 ·rw [if_neg a1]; exact⟨_,rfl,h0 fun z=>a1 z.1⟩
theorem I9 {α β:Type}{B:α→Option β}{c:Bool}{x y:α}{G:β→Prop}(h:∀z,(c=true∧z=x)∨(c=false∧z=y)→∃d,B z=some d∧G d):∃d,jn B (fun j=>if c=true then j x else j y)=some d∧G d:=by
 unfold jn
 dsimp only
 cases c with
 | true=>exact h _ (.inl ⟨rfl,rfl⟩)
 | false=>exact h _ (.inr ⟨rfl,rfl⟩)
theorem Ord.refl {c:Int→Int→Int}{l:List Int}(O:Ord c l){x:Int}(hx:x∈l):0≤c x x:=by
 by_cases h:c x x<0
 ·exact O.JF x hx x hx h
 ·omega
theorem Sg.le {c:Int→Int→Int}{l:List Int}{a b:Nat}(S:Sg c l a b)(O:Ord c l){i j:Nat}(h1:a≤i)(h2:i≤j)(h3:j<b)(h4:b≤l.length):0≤c (gt l j) (gt l i):=by
 by_cases h:i=j
 ·subst h; exact O.refl (bN (by omega))
 ·exact S i j h1 (by omega) h3
section
variable {m:Nat}{cmp:Int→Int→Option Int}{c:Int→Int→Int}
theorem yV {l:List Int}{a:Nat}(ha:a<l.length)(hs:l.length<2 ^ 40)(C:Cm cmp c l):∀(f i j:Nat),j - i<f→i≤j→j≤l.length→
  ∃x:Nat,aG.l0 m l (a:Int) cmp f (i:Int) (j:Int)=some ((x:Int),(x:Int))∧i≤x∧x≤j∧(i<x→c (gt l (x - 1)) (gt l a)<0)∧(x<j→0≤c (gt l x) (gt l a))
 | 0,i,j,hf,_,_=>absurd hf (by omega)
 | f+1,i,j,hf,h1,h2=>by
  have sJ:(2:Nat) ^ 40=1099511627776:=by decide
  unfold aG.l0
  by_cases h:i<j
  ·have hh:=xk (a:=i) (b:=j) (by omega)
   rw [if_pos (by simp; omega),hh,fy (by omega),fy ha,Ue,Ue,C.at (by omega) ha,Ue]
   by_cases g:c (gt l ((i+j) / 2)) (gt l a)<0
   ·obtain⟨x,e,x1,x2,x3,x4⟩:=yV ha hs C f ((i+j) / 2+1) j (by omega) (by omega) h2
    rw [if_pos (by simpa using g),bF (by omega) (by omega),show (((i+j) / 2:Nat):Int)+1=(((i+j) / 2+1:Nat):Int) by omega,e]
    refine⟨x,rfl,by omega,x2,fun _=>?_,x4⟩
    by_cases hx:x=(i+j) / 2+1
    ·rw [hx]; simpa using g
    ·exact x3 (by omega)
   ·obtain⟨x,e,x1,x2,x3,x4⟩:=yV ha hs C f i ((i+j) / 2) (by omega) (by omega) (by omega)
    rw [if_neg (by simpa using g),e]
    refine⟨x,rfl,x1,by omega,x3,fun _=>?_⟩
    by_cases hx:x=(i+j) / 2
    ·rw [hx]; omega
    ·exact x4 (by omega)
  ·have:i=j:=by omega
   subst this
   exact⟨i,by rw [if_neg (by simp)],Uj _,Uj _,fun h=>absurd h (by omega),fun h=>absurd h (by omega)⟩
theorem yW {l:List Int}{q:Nat}(hq:q<l.length)(hs:l.length<2 ^ 40)(C:Cm cmp c l):∀(f i j:Nat),j - i<f→i≤j→j≤l.length→
  ∃x:Nat,aG.l2 m l (q:Int) cmp f (i:Int) (j:Int)=some ((x:Int),(x:Int))∧i≤x∧x≤j∧(i<x→0≤c (gt l q) (gt l (x - 1)))∧(x<j→c (gt l q) (gt l x)<0)
 | 0,i,j,hf,_,_=>absurd hf (by omega)
 | f+1,i,j,hf,h1,h2=>by
  have sJ:(2:Nat) ^ 40=1099511627776:=by decide
  unfold aG.l2
  by_cases h:i<j
  ·have hh:=xk (a:=i) (b:=j) (by omega)
   rw [if_pos (by simp; omega),hh,fy hq,fy (by omega),Ue,Ue,C.at hq (by omega),Ue]
   by_cases g:c (gt l q) (gt l ((i+j) / 2))<0
   ·obtain⟨x,e,x1,x2,x3,x4⟩:=yW hq hs C f i ((i+j) / 2) (by omega) (by omega) (by omega)
    rw [if_neg (by simpa using g),e]
    refine⟨x,rfl,x1,by omega,x3,fun _=>?_⟩
    by_cases hx:x=(i+j) / 2
    ·rw [hx]; omega
    ·exact x4 (by omega)
   ·obtain⟨x,e,x1,x2,x3,x4⟩:=yW hq hs C f ((i+j) / 2+1) j (by omega) (by omega) h2
    rw [if_pos (by simpa using g),bF (by omega) (by omega),show (((i+j) / 2:Nat):Int)+1=(((i+j) / 2+1:Nat):Int) by omega,e]
    refine⟨x,rfl,by omega,x2,fun _=>?_,x4⟩
    by_cases hx:x=(i+j) / 2+1
    ·rw [hx]; simp; omega
    ·exact x3 (by omega)
  ·have:i=j:=by omega
   subst this
   exact⟨i,by rw [if_neg (by simp)],Uj _,Uj _,fun h=>absurd h (by omega),fun h=>absurd h (by omega)⟩
theorem EA {l:List Int}{a x:Nat}(hx:x≤l.length)(O3:a<x)(hs:l.length<2 ^ 40):∀(f k:Nat) (d:List Int),x - k<f→a≤k→k<x→Mv a x l d→
  (∀t,gt d t=if a≤t∧t<k then gt l (t+1) else if t=k then gt l a else gt l t)→
  ∃d' y,aG.l1 m (x:Int) f d (k:Int)=some (d',y)∧Mv a x l d'∧∀t,gt d' t=if a≤t∧t+1<x then gt l (t+1) else if t+1=x then gt l a else gt l t
 | 0,k,d,hf,_,_,_,_=>absurd hf (by omega)
 | f+1,k,d,hf,h1,h2,M,hg=>by
  have sJ:(2:Nat) ^ 40=1099511627776:=by decide
  have hl:=M.length
  unfold aG.l1
  have e0:i64.wrap ((x:Int) - 1)=((x - 1:Nat):Int):=by rw [bF (by omega) (by omega)]; omega
  rw [e0]
  by_cases h:k<x - 1
  ·have e1:i64.wrap ((k:Int)+1)=((k+1:Nat):Int):=by rw [bF (by omega) (by omega)]; omega
   rw [if_pos (by simp; omega),e1,fy (by omega),fy (by omega),Ue,Ue,Ue,Ur,Ur,fy (by simp; omega),Ue]
   refine EA hx O3 hs f (k+1) (swp d k (k+1)) (by omega) (by omega) (by omega) (M.trans (yU (by omega) (by omega) (by omega) (by omega) (by omega))) fun t=>?_
   rw [lj (by omega) (by omega),hg k,hg (k+1),hg t]
   by_cases t1:t=k+1
   ·subst t1; rw [if_pos rfl,if_neg (by omega),if_pos rfl,if_neg (by omega),if_pos rfl]
   ·rw [if_neg t1]
    by_cases t2:t=k
    ·subst t2; rw [if_pos rfl,if_neg (by omega),if_neg (by omega),if_pos (by omega)]
    ·rw [if_neg t2,if_neg t2,if_neg t1]
     by_cases t3:a≤t∧t<k
     ·rw [if_pos t3,if_pos (by omega)]
     ·rw [if_neg t3,if_neg (by omega)]
  ·refine⟨d,k,by rw [if_neg (by simp; omega)],M,fun t=>?_⟩
   rw [hg]
   by_cases t3:a≤t∧t<k
   ·rw [if_pos t3,if_pos (by omega)]
   ·rw [if_neg t3,if_neg (show ¬(a≤t∧t+1<x) by omega)]
    by_cases t4:t=k
    ·rw [if_pos t4,if_pos (by omega)]
    ·rw [if_neg t4,if_neg (by omega)]
theorem EB {l:List Int}{q x:Nat}(hx:q<l.length)(O3:x≤q)(hs:l.length<2 ^ 40):∀(f k:Nat) (d:List Int),k - x<f→x≤k→k≤q→Mv x (q+1) l d→
  (∀t,gt d t=if k<t∧t≤q then gt l (t - 1) else if t=k then gt l q else gt l t)→
  ∃d' y,aG.l3 m (x:Int) f d (k:Int)=some (d',y)∧Mv x (q+1) l d'∧∀t,gt d' t=if x<t∧t≤q then gt l (t - 1) else if t=x then gt l q else gt l t
 | 0,k,d,hf,_,_,_,_=>absurd hf (by omega)
 | f+1,k,d,hf,h1,h2,M,hg=>by
  have sJ:(2:Nat) ^ 40=1099511627776:=by decide
  have hl:=M.length
  unfold aG.l3
  by_cases h:x<k
  ·have e1:i64.wrap ((k:Int) - 1)=((k - 1:Nat):Int):=by rw [bF (by omega) (by omega)]; omega
   rw [if_pos (by simp; omega),e1,fy (by omega),fy (by omega),Ue,Ue,Ue,Ur,Ur,fy (by simp; omega),Ue]
   refine EB hx O3 hs f (k - 1) (swp d k (k - 1)) (by omega) (by omega) (by omega) (M.trans (yU (by omega) (by omega) (by omega) (by omega) (by omega))) fun t=>?_
   rw [lj (by omega) (by omega),hg k,hg (k - 1),hg t]
   by_cases t1:t=k - 1
   ·subst t1; rw [if_pos rfl,if_neg (by omega),if_pos rfl,if_neg (by omega),if_pos rfl]
   ·rw [if_neg t1]
    by_cases t2:t=k
    ·subst t2; rw [if_pos rfl,if_neg (by omega),if_neg (by omega),if_pos (by omega)]
    ·rw [if_neg t2,if_neg t2,if_neg t1]
     by_cases t3:k<t∧t≤q
     ·rw [if_pos t3,if_pos (by omega)]
     ·rw [if_neg t3,if_neg (by omega)]
  ·have:k=x:=by omega
   subst this
   exact⟨d,k,by rw [if_neg (by simp)],M,hg⟩
theorem yX {l:List Int}{a b q:Nat}(Kb:a+b<2 ^ 42)(hs:l.length<2 ^ 40)(C:Cm cmp c l):∀(f s r:Nat),r - s<f→s≤r→r≤l.length→r≤(a+b) / 2+q→(a+b) / 2+q≤l.length+s→
  ∃x:Nat,aG.l4 m l (a:Int) (q:Int) (b:Int) cmp f (s:Int) (r:Int)=some ((x:Int),(x:Int))∧s≤x∧x≤r∧(s<x→0≤c (gt l ((a+b) / 2+q - x)) (gt l (x - 1)))∧(x<r→c (gt l ((a+b) / 2+q - x - 1)) (gt l x)<0)
 | 0,i,j,hf,_,_,_,_=>absurd hf (by omega)
 | f+1,s,r,hf,h1,h2,h3,h4=>by
  have sJ:(2:Nat) ^ 40=1099511627776:=by decide
  have O4:(2:Nat) ^ 42=4398046511104:=by decide
  unfold aG.l4
  by_cases h:s<r
  ·have hh:=xk (a:=s) (b:=r) (by omega)
   have Kb:=xk (a:=a) (b:=b) (by omega)
   have e1:i64.wrap (i64.wrap (i64.wrap ((((a+b) / 2:Nat):Int)+(q:Int)) - 1) - (((s+r) / 2:Nat):Int))=(((a+b) / 2+q - (s+r) / 2 - 1:Nat):Int):=by
    rw [bF (x:=(((a+b) / 2:Nat):Int)+(q:Int)) (by omega) (by omega),bF (x:=(((a+b) / 2:Nat):Int)+(q:Int) - 1) (by omega) (by omega),bF (by omega) (by omega)]
    omega
   rw [if_pos (by simp; omega),hh,Kb,e1,fy (by omega),fy (by omega),Ue,Ue,C.at (by omega) (by omega),Ue]
   by_cases g:c (gt l ((a+b) / 2+q - (s+r) / 2 - 1)) (gt l ((s+r) / 2))<0
   ·obtain⟨x,e,x1,x2,x3,x4⟩:=yX (a:=a) (b:=b) (q:=q) (by omega) hs C f s ((s+r) / 2) (by omega) (by omega) (by omega) (by omega) (by omega)
    rw [if_neg (by simpa using g),e]
    refine⟨x,rfl,x1,by omega,x3,fun _=>?_⟩
    by_cases hx:x=(s+r) / 2
    ·rw [hx]; exact g
    ·exact x4 (by omega)
   ·obtain⟨x,e,x1,x2,x3,x4⟩:=yX (a:=a) (b:=b) (q:=q) (by omega) hs C f ((s+r) / 2+1) r (by omega) (by omega) h2 h3 (by omega)
    rw [if_pos (by simpa using g),bF (by omega) (by omega),show (((s+r) / 2:Nat):Int)+1=(((s+r) / 2+1:Nat):Int) by omega,e]
    refine⟨x,rfl,by omega,x2,fun _=>?_,x4⟩
    by_cases hx:x=(s+r) / 2+1
    ·rw [hx,show (a+b) / 2+q - ((s+r) / 2+1)=(a+b) / 2+q - (s+r) / 2 - 1 by omega,Nat.add_sub_cancel]; omega
    ·exact x3 (by omega)
  ·have:s=r:=by omega
   subst this
   exact⟨s,by rw [if_neg (by simp)],Uj _,Uj _,fun h=>absurd h (by omega),fun h=>absurd h (by omega)⟩
end
end Go.Proofs.Ytifafejidnjckaa
