/- Part of the proof: PA1, PA2, PA3, PA4, PA5, PA6, PA7, PR1, PS1, PT6, PS2, PS3. -/
import Derived.Test.YtifafejidnjckaaK10
set_option linter.unusedVariables false
set_option linter.unusedSimpArgs false
set_option maxRecDepth 100000
open Bool renaming and_eq_true → Ud, false_eq_true → Um, or_eq_true → UW, not_true → Vo, true_and → VI
open Int renaming toNat_natCast → Un
open List renaming getElem?_eq_some_iff → Uh, getElem?_eq_getElem → Uj, length_append → Uk, length_set → Ul, drop_eq_getElem_cons → Uo, length_cons → Up, append_assoc → Uq, getElem?_append_left → Ur, getElem?_append_right → Us, mem_of_getElem? → Ut, replicate → Uu, getD_eq_getElem?_getD → Uw, length_map → Ux, mem_cons → UA, mem_singleton → UB, map_cons → UC, length_nil → UD, mem_append → UF, map_append → UG, getElem?_eq_none → UJ, take_append_of_le_length → UK, nil_append → UN, mem_map → UO, getElem?_cons_zero → UR, drop_zero → US, all_cons → UZ, take_succ_eq_append_getElem → U0, mem_append_left → U3, length_take → U8, getElem?_of_mem → Vd, getElem?_cons_succ → Ve, drop_eq_nil_of_le → Vq, append_nil → Vy, length_replicate → VA, ext_getElem? → VC, getElem?_set → VD, map_nil → VF
open Nat renaming le_refl → Ue, zero_add → Uy, zero_le → U5, sub_self → Vm, add_comm → VE, add_zero → VG
open Option renaming bind_some → Ua
open Option.some renaming injEq → Uc, inj → UX
namespace Go.Uf
open Go Go.R
open Go.IntKind (i64 u64 u8 u32)
def iy (to:List Int)(n:Int):Int:=to.getD n.toNat n
def gC (to:List Int):Nat→Int→Int
 | 0,n=>n
 | k+1,n=>iy to (gC to k n)
def B1:List Int→Nat→Nat
 | [],_=>0
 | x::l,i=>(if x=(i:Int) then 0 else 1)+B1 l (i+1)
def p7 (to:List Int):Nat:=B1 to 0
def rp (to:List Int)(n:Int):Int:=gC to (p7 to) n
def Rg (len:Nat)(n:Int):Prop:=0≤n∧n<len
instance (len:Nat) (n:Int):Decidable (Rg len n):=inferInstanceAs (Decidable (_∧_))
structure Fi (to:List Int):Prop where
 rg:∀n,Rg to.length n→Rg to.length (iy to n)
 rt:∀n,Rg to.length n→iy to (rp to n)=rp to n
theorem Eg:∀(l:List Int) (i:Nat),B1 l i≤l.length
 | [],_=>Ue _
 | x::l,i=>by
  have:=Eg l (i+1)
  simp only [B1,Up]
  split<;>omega
theorem vk (to:List Int):p7 to≤to.length:=Eg to 0
theorem AI:∀(l:List Int) (i j:Nat) (b:Int),l[j]? = some ((i+j:Nat):Int)→b≠((i+j:Nat):Int)→B1 (l.set j b) i=B1 l i+1
 | [],_,_,_,h,_=>by simp at h
 | x::l,i,0,b,h,hb=>by
  simp only [UR,Uc,VG] at h hb
  simp only [List.set_cons_zero,B1,h,if_true]
  rw [if_neg hb]; omega
 | x::l,i,j+1,b,h,hb=>by
  simp only [Ve] at h
  have e:i+(j+1)=i+1+j:=by omega
  rw [e] at h hb
  have:=AI l (i+1) j b h hb
  simp only [List.set_cons_succ,B1,this]; omega
theorem AJ:∀(l:List Int) (i:Nat),B1 (l++[((i+l.length:Nat):Int)]) i=B1 l i
 | [],i=>by simp [B1]
 | x::l,i=>by
  have:=AJ l (i+1)
  have e:i+(x::l).length=i+1+l.length:=by simp only [Up]; omega
  rw [e]
  show _+B1 (l++_) (i+1)=_+B1 l (i+1)
  rw [this]
section
variable {to:List Int}{a b n:Int}
theorem qV (h:Rg to.length n):to[n.toNat]? = some (iy to n):=by
 have hl:n.toNat<to.length:=by have:=h.1; have:=h.2; omega
 unfold iy
 rw [Uw,Uj hl]; rfl
theorem vl (h:Rg to.length n):ix to n=some (iy to n):=by
 unfold ix; rw [if_pos h.1,qV h]
theorem so (o:Fi to)(h:Rg to.length n):∀k,Rg to.length (gC to k n)
 | 0=>h
 | k+1=>o.rg _ (so o h k)
theorem Eh (o:Fi to)(h:Rg to.length n):Rg to.length (rp to n):=so o h _
theorem xf (h:iy to n=n):∀k,gC to k n=n
 | 0=>rfl
 | k+1=>by show iy to (gC to k n)=n; rw [xf h k,h]
theorem sq (h:iy to n=n):rp to n=n:=xf h _
theorem xg {d:Nat}(h:iy to (gC to d n)=gC to d n):∀e,gC to (d+e) n=gC to d n
 | 0=>rfl
 | e+1=>by show iy to (gC to (d+e) n)=_; rw [xg h e,h]
theorem Gi {d:Nat}(hd:d≤p7 to)(h:iy to (gC to d n)=gC to d n):rp to n=gC to d n:=by
 have:=xg h (p7 to - d)
 rw [Nat.add_sub_cancel' hd] at this
 exact this
theorem vm (ha:Rg to.length a):∀n,iy (to.set a.toNat b) n=if n.toNat=a.toNat then b else iy to n:=by
 intro n
 have hl:a.toNat<to.length:=by have:=ha.1; have:=ha.2; omega
 unfold iy
 rw [Uw,Uw,VD]
 by_cases h:n.toNat=a.toNat
 ·rw [if_pos h.symm,if_pos hl,if_pos h]; rfl
 ·rw [if_neg (fun e=>h e.symm),if_neg h]
theorem AK (ha:Rg to.length a)(h1:iy to a=a)(hne:b≠a):p7 (to.set a.toNat b)=p7 to+1:=by
 have h0:=ha.1
 refine AI to 0 a.toNat b ?_ ?_
 ·rw [qV ha,h1]; congr 1; omega
 ·intro e; apply hne; rw [e]; omega
theorem KX (o:Fi to)(ha:Rg to.length a)(hb:Rg to.length b)(h1:iy to a=a)(h2:iy to b=b)(hne:b≠a) :
  Fi (to.set a.toNat b)∧∀n,Rg to.length n→rp (to.set a.toNat b) n=if rp to n=a then b else rp to n:=by
 have hl:(to.set a.toNat b).length=to.length:=Ul
 have hs:∀n,Rg to.length n→iy (to.set a.toNat b) n=if n=a then b else iy to n:=fun n hn=>by
  rw [vm ha]
  by_cases h:n=a
  ·subst h; simp
  ·rw [if_neg h,if_neg (fun e=>h (by have:=hn.1; have:=ha.1; omega))]
 have sE:iy (to.set a.toNat b) b=b:=by rw [hs b hb,if_neg hne,h2]
 have key:∀n,Rg to.length n→∀d,gC (to.set a.toNat b) d n=gC to d n∨(gC (to.set a.toNat b) d n=b∧gC to d n=a):=fun n hn d=>by
  induction d with
  | zero=>exact .inl rfl
  | succ d ih=>
   show iy _ (gC _ d n)=iy to (gC to d n)∨(iy _ (gC _ d n)=b∧iy to (gC to d n)=a)
   rcases ih with ih | ⟨ih,Sy⟩
   ·rw [ih,hs _ (so o hn d)]
    by_cases h:gC to d n=a
    ·rw [if_pos h,h,h1]; exact .inr ⟨rfl,rfl⟩
    ·rw [if_neg h]; exact .inl rfl
   ·rw [ih,Sy,h1,sE]; exact .inr ⟨rfl,rfl⟩
 have Qs:∀n,Rg to.length n→rp (to.set a.toNat b) n=if rp to n=a then b else rp to n:=fun n hn=>by
  show gC _ (p7 (to.set a.toNat b)) n=_
  rw [AK ha h1 hne]
  have hr:=o.rt n hn
  have Sz:=Eh o hn
  show iy _ (gC _ (p7 to) n)=_
  rcases key n hn (p7 to) with h | ⟨h,h3⟩
  ·rw [h]
   show iy _ (rp to n)=_
   rw [hs _ Sz,hr]
  ·have h3:rp to n=a:=h3
   rw [h,sE,if_pos h3]
 refine⟨⟨fun n hn=>?_,fun n hn=>?_⟩,Qs⟩
 ·rw [hl] at hn ⊢
  rw [hs n hn]
  split
  ·exact hb
  ·exact o.rg n hn
 ·rw [hl] at hn
  rw [Qs n hn]
  by_cases h:rp to n=a
  ·rw [if_pos h,sE]
  ·rw [if_neg h,hs _ (Eh o hn),if_neg h,o.rt n hn]
theorem KY (o:Fi to):Fi (to++[(to.length:Int)])∧(∀n,Rg to.length n→rp (to++[(to.length:Int)]) n=rp to n)∧rp (to++[(to.length:Int)]) (to.length:Int)=(to.length:Int):=by
 have hl:(to++[(to.length:Int)]).length=to.length+1:=by simp
 have hn:p7 (to++[(to.length:Int)])=p7 to:=by
  have:=AJ to 0
  rw [Uy] at this
  exact this
 have hs:∀n,Rg to.length n→iy (to++[(to.length:Int)]) n=iy to n:=fun n h=>by
  have:n.toNat<to.length:=by have:=h.1; have:=h.2; omega
  unfold iy
  rw [Uw,Uw,Ur this]
 have hz:iy (to++[(to.length:Int)]) (to.length:Int)=(to.length:Int):=by
  unfold iy
  rw [Uw,Un,Us (Ue _),Vm]; rfl
 have hi:∀n,Rg to.length n→∀k,gC (to++[(to.length:Int)]) k n=gC to k n:=fun n h k=>by
  induction k with
  | zero=>rfl
  | succ k ih=>show iy _ (gC _ k n)=iy to (gC to k n); rw [ih,hs _ (so o h k)]
 have hr:∀n,Rg to.length n→rp (to++[(to.length:Int)]) n=rp to n:=fun n h=>by
  unfold rp; rw [hn]; exact hi n h _
 have hc:∀n,Rg (to.length+1) n→Rg to.length n∨n=to.length:=fun n h=>by
  unfold Rg at h ⊢; omega
 refine⟨⟨fun n h=>?_,fun n h=>?_⟩,hr,sq hz⟩
 ·rw [hl] at h ⊢
  rcases hc n h with h | rfl
  ·rw [hs n h]; have:=o.rg n h; unfold Rg at this ⊢; omega
  ·rw [hz]; exact h
 ·rw [hl] at h
  rcases hc n h with h | rfl
  ·rw [hr n h,hs _ (Eh o h),o.rt n h]
  ·rw [sq hz,hz]
end
theorem Gj:Fi []:=⟨fun n h=>by have:=h.1; have:=h.2; simp at this; omega,fun n h=>by have:=h.1; have:=h.2; simp at this; omega⟩
end Go.Uf
namespace Go.Uf
open Go Go.R
open Go.IntKind (i64 u64 u8 u32)
def fb (N:List ao)(n:Int):ao:=N.getD n.toNat ⟨0,0,⟨#[]⟩,[]⟩
def gf (N:List ao)(n:Int):Prop:=(fb N n).kind≠0
instance (N:List ao) (n:Int):Decidable (gf N n):=inferInstanceAs (Decidable (_≠_))
def Bt (N:List ao)(a b:Int):Prop:=(gf N a∧¬gf N b)∨((gf N a↔gf N b)∧a≤b)
def my (a b:ao):Prop:=a.kind=b.kind∧a.int=b.int∧a.label.data.toList=b.label.data.toList∧a.args.length=b.args.length
structure Cn (N:List ao)(R:Int→Int):Prop where
 rg:∀n,Rg N.length n→Rg N.length (R n)
 id:∀n,Rg N.length n→R (R n)=R n
 bt:∀n,Rg N.length n→Bt N (R n) n
def Cl (N:List ao)(T:Int→Int):Prop:=∀x y,Rg N.length x→Rg N.length y→T x=T y→gf N x→gf N y→my (fb N x) (fb N y)∧∀(i:Nat) (a b:Int),(fb N x).args[i]? = some a→(fb N y).args[i]? = some b→T a=T b
def gM (N:List ao)(R T:Int→Int):Prop:=∀x y,Rg N.length x→Rg N.length y→R x=R y→T x=T y
def qI (N:List ao)(R:Int→Int)(L:List (Int × Int)):Prop:=∀T,gM N R T→(∀p∈L,T p.1=T p.2)→∀x y,Rg N.length x→Rg N.length y→R x=R y→gf N x→gf N y→my (fb N x) (fb N y)∧∀(i:Nat) (a b:Int),(fb N x).args[i]? = some a→(fb N y).args[i]? = some b→T a=T b
def Ei (N:List ao):Prop:=∀v∈N,v.args.length≤8∧∀a∈v.args,Rg N.length a
section
variable {N:List ao}{R T:Int→Int}{a b x y n:Int}
theorem AL (h:Rg N.length n):N[n.toNat]? = some (fb N n):=by
 have hl:n.toNat<N.length:=by have:=h.1; have:=h.2; omega
 unfold fb
 rw [Uw,Uj hl]; rfl
theorem vn (h:Rg N.length n):ix N n=some (fb N n):=by
 unfold ix; rw [if_pos h.1,AL h]
theorem jT (h:Rg N.length n):fb N n∈N:=Ut (AL h)
theorem Bt.trans {c:Int}(h1:Bt N a b)(h2:Bt N b c):Bt N a c:=by
 unfold Bt at h1 h2 ⊢
 rcases h1 with h1 | h1<;>rcases h2 with h2 | h2
 ·exact absurd h2.1 h1.2
 ·exact .inl ⟨h1.1,fun h=>h1.2 (h2.1.2 h)⟩
 ·exact .inl ⟨h1.1.2 h2.1,h2.2⟩
 ·exact .inr ⟨h1.1.trans h2.1,by omega⟩
theorem Bt.refl:Bt N a a:=.inr ⟨Iff.rfl,Int.le_refl _⟩
theorem Cn.val (c:Cn N R)(h:Rg N.length n)(v:gf N n):gf N (R n):=by
 rcases c.bt n h with h1 | h1
 ·exact h1.1
 ·exact h1.1.2 v
def jJ (N:List ao)(a b:Int):Int × Int:=if gf N a↔gf N b then (if a<b then (b,a) else (a,b)) else (if gf N b then (a,b) else (b,a))
theorem tP (a b:Int):Bt N (jJ N a b).2 (jJ N a b).1∧((jJ N a b).1=a∧(jJ N a b).2=b∨(jJ N a b).1=b∧(jJ N a b).2=a):=by
 unfold jJ
 by_cases h:gf N a↔gf N b
 ·rw [if_pos h]
  by_cases h2:a<b
  ·rw [if_pos h2]; exact⟨.inr ⟨h,by dsimp only; omega⟩,.inr ⟨rfl,rfl⟩⟩
  ·rw [if_neg h2]; exact⟨.inr ⟨h.symm,by dsimp only; omega⟩,.inl ⟨rfl,rfl⟩⟩
 ·rw [if_neg h]
  by_cases h2:gf N b
  ·rw [if_pos h2]; exact⟨.inl ⟨h2,fun h3=>h ⟨fun _=>h2,fun _=>h3⟩⟩,.inl ⟨rfl,rfl⟩⟩
  ·rw [if_neg h2]
   refine⟨.inl ⟨?_,h2⟩,.inr ⟨rfl,rfl⟩⟩
   by_cases h3:gf N a
   ·exact h3
   ·exact absurd ⟨fun h4=>absurd h4 h3,fun h4=>absurd h4 h2⟩ h
def sh (R:Int→Int)(q:Int × Int)(n:Int):Int:=if R n=q.1 then q.2 else R n
theorem IU (c:Cn N R){q:Int × Int}(h1:Rg N.length q.1)(h2:Rg N.length q.2)(r1:R q.1=q.1)(r2:R q.2=q.2)(hne:q.2≠q.1)(hb:Bt N q.2 q.1):Cn N (sh R q):=by
 refine⟨fun n hn=>?_,fun n hn=>?_,fun n hn=>?_⟩
 ·unfold sh; split
  ·exact h2
  ·exact c.rg n hn
 ·unfold sh
  by_cases h:R n=q.1
  ·rw [if_pos h,r2,if_neg hne]
  ·rw [if_neg h,c.id n hn,if_neg h]
 ·unfold sh
  split
  ·rename_i h
   have:=c.bt n hn
   rw [h] at this
   exact hb.trans this
  ·exact c.bt n hn
theorem AM {q:Int × Int}:gM N R (sh R q):=fun x y _ _ h=>by unfold sh; rw [h]
theorem vo {q:Int × Int}(ha:R a=q.1)(hb:R b=q.2)(hne:q.2≠q.1):sh R q a=sh R q b:=by
 unfold sh; rw [if_pos ha,hb,if_neg hne]
theorem B2 (c:Cn N R){q:Int × Int}(h1:Rg N.length q.1)(h2:Rg N.length q.2)(s:gM N R T)(h:T q.1=T q.2):gM N (sh R q) T:=by
 have key:∀x,Rg N.length x→T (sh R q x)=T x:=fun x hx=>by
  have e:T (R x)=T x:=s _ _ (c.rg x hx) hx (c.id x hx)
  unfold sh
  split
  ·rename_i h3; rw [←h,←h3,e]
  ·exact e
 intro x y hx hy he
 rw [←key x hx,←key y hy,he]
theorem B3 {p:Int × Int}{L:List (Int × Int)}(h:qI N R (p::L))(KZ:Rg N.length p.1)(La:Rg N.length p.2)(he:R p.1=R p.2):qI N R L:=fun T s hL=>h T s fun q hq=>by
 rcases UA.1 hq with rfl | hq
 ·exact s _ _ KZ La he
 ·exact hL q hq
theorem B4 (c:Cn N R){p q:Int × Int}{L M:List (Int × Int)}(h:qI N R (p::L))(KZ:Rg N.length p.1)(La:Rg N.length p.2)
  (hq:(q.1=R p.1∧q.2=R p.2)∨(q.1=R p.2∧q.2=R p.1)) (hne:q.2≠q.1)
  (hM:gf N (R p.1)→gf N (R p.2)→my (fb N (R p.1)) (fb N (R p.2))∧∀(i:Nat) (a b:Int),(fb N (R p.1)).args[i]? = some a→(fb N (R p.2)).args[i]? = some b→(a,b)∈M):qI N (sh R q) (L++M):=by
 intro T s hL x y hx hy he vx vy
 have s0:gM N R T:=fun x y hx hy h=>s x y hx hy (AM x y hx hy h)
 have g1:=c.rg _ KZ
 have g2:=c.rg _ La
 have tp:T p.1=T p.2:=s _ _ KZ La (by
  rcases hq with⟨h1,h2⟩| ⟨h1,h2⟩
  ·exact vo h1.symm h2.symm hne
  ·exact (vo h1.symm h2.symm hne).symm)
 have old:=h T s0 (fun q hq=>by
  rcases UA.1 hq with rfl | hq
  ·exact tp
  ·exact hL q (U3 _ hq))
 have mid:∀x y,Rg N.length x→Rg N.length y→R x=R p.1→R y=R p.2→gf N x→gf N y→my (fb N x) (fb N y)∧∀(i:Nat) (a b:Int),(fb N x).args[i]? = some a→(fb N y).args[i]? = some b→T a=T b:=by
  intro x y hx hy e1 e2 vx vy
  have v1:gf N (R p.1):=e1 ▸ c.val hx vx
  have v2:gf N (R p.2):=e2 ▸ c.val hy vy
  obtain⟨t0,m0⟩:=hM v1 v2
  obtain⟨t1,m1⟩:=old x (R p.1) hx g1 (by rw [c.id _ KZ,e1]) vx v1
  obtain⟨t2,m2⟩:=old (R p.2) y g2 hy (by rw [c.id _ La,e2]) v2 vy
  refine⟨⟨t1.1.trans (t0.1.trans t2.1),t1.2.1.trans (t0.2.1.trans t2.2.1),t1.2.2.1.trans (t0.2.2.1.trans t2.2.2.1),t1.2.2.2.trans (t0.2.2.2.trans t2.2.2.2)⟩,fun i a b ha hb=>?_⟩
  have l1:i<(fb N (R p.1)).args.length:=by rw [←t1.2.2.2]; exact (Uh.1 ha).1
  have l2:i<(fb N (R p.2)).args.length:=by rw [←t0.2.2.2]; exact l1
  have k1:=Uj l1
  have k2:=Uj l2
  rw [m1 i _ _ ha k1,←m2 i _ _ k2 hb]
  exact hL _ (List.mem_append_right _ (m0 i _ _ k1 k2))
 have sym:∀x y,my (fb N x) (fb N y)∧(∀(i:Nat) (a b:Int),(fb N x).args[i]? = some a→(fb N y).args[i]? = some b→T a=T b)→my (fb N y) (fb N x)∧∀(i:Nat) (a b:Int),(fb N y).args[i]? = some a→(fb N x).args[i]? = some b→T a=T b:=by
  rintro x y ⟨t,m⟩
  exact⟨⟨t.1.symm,t.2.1.symm,t.2.2.1.symm,t.2.2.2.symm⟩,fun i a b ha hb=>(m i b a hb ha).symm⟩
 by_cases e:R x=R y
 ·exact old x y hx hy e vx vy
 unfold sh at he
 by_cases ex:R x=q.1<;>by_cases ey:R y=q.1
 ·exact absurd (ex.trans ey.symm) e
 ·rw [if_pos ex,if_neg ey] at he
  rcases hq with⟨h1,h2⟩| ⟨h1,h2⟩
  ·exact mid x y hx hy (ex.trans h1) (he.symm.trans h2) vx vy
  ·exact sym _ _ (mid y x hy hx (he.symm.trans h2) (ex.trans h1) vy vx)
 ·rw [if_neg ex,if_pos ey] at he
  rcases hq with⟨h1,h2⟩| ⟨h1,h2⟩
  ·exact sym _ _ (mid y x hy hx (ey.trans h1) (he.trans h2) vy vx)
  ·exact mid x y hx hy (he.trans h2) (ey.trans h1) vx vy
 ·rw [if_neg ex,if_neg ey] at he
  exact absurd he e
theorem Ej (h:qI N R []):Cl N R:=fun x y hx hy e vx vy=>h R (fun _ _ _ _ h=>h) (fun _ h=>by cases h) x y hx hy e vx vy
theorem Gk {L:List (Int × Int)}(h:Cl N R)(ha:Ei N):qI N R L:=fun T s _ x y hx hy e vx vy=>by
 obtain⟨t,m⟩:=h x y hx hy e vx vy
 exact⟨t,fun i a b h1 h2=>s _ _ ((ha _ (jT hx)).2 a (Ut h1)) ((ha _ (jT hy)).2 b (Ut h2)) (m i a b h1 h2)⟩
end
end Go.Uf
namespace Go.Uf
open Go Go.R
open Go.IntKind (i64 u64 u8 u32)
theorem Lb (x:Int):i64.wrap x=if x % 18446744073709551616≥9223372036854775808 then x % 18446744073709551616 - 18446744073709551616 else x % 18446744073709551616:=by
 unfold IntKind.wrap; simp [IntKind.signed,IntKind.bits]
theorem mU {x:Int}(h0 : -9223372036854775808≤x)(h1:x<9223372036854775808):i64.wrap x=x:=by
 rw [Lb]; split<;>omega
theorem B5 {α:Type}{l:List α}{i:Nat}{a:α}(h:l[i]? = some a):ix l (i:Int)=some a:=by
 unfold ix; rw [if_pos (Int.natCast_nonneg _),Un,h]
theorem B6 {α:Type}{b:Nat}{l l2:List α}(h:(l.length+l2.length)*(b+1)≤1099511627776):app b l l2=some (l++l2):=by
 unfold app; rw [if_pos h]
end Go.Uf
namespace Go.Proofs.Ytifafejidnjckaa
open Go Go.R Go.Uf
open Go.IntKind (i64 u64 u8 u32)
structure Inv (s:ab):Prop where
 made:s.aj=true
 len:s.ae.length=s.aa.length
 max:s.aa.length≤8000
 ok:Fi s.ae
 cn:Cn s.aa (rp s.ae)
 args:Ei s.aa
section
variable {m:Nat}{s:ab}{a b n:Int}
theorem Inv.rg (v:Inv s)(h:Rg s.aa.length n):Rg s.ae.length n:=by rw [v.len]; exact h
theorem Ek (v:Inv s)(h:Rg s.aa.length n):∀(k d:Nat),d≤p7 s.ae→p7 s.ae<k+d→a6.l0 m s k (gC s.ae d n)=some (rp s.ae n)
 | 0,d,h1,h2=>by omega
 | k+1,d,h1,h2=>by
  have hr:=so v.ok (v.rg h) d
  simp only [a6.l0,vl hr,Ua]
  by_cases he:iy s.ae (gC s.ae d n)=gC s.ae d n
  ·rw [Gi h1 he]
   simp [he]
  ·have hd:d<p7 s.ae:=by
    rcases Nat.lt_or_ge d (p7 s.ae) with h3 | h3
    ·exact h3
    ·have h4:d=p7 s.ae:=by omega
     exact absurd (h4 ▸ v.ok.rt n (v.rg h)) he
   have:=Ek v h k (d+1) hd (by omega)
   simp only [gC] at this
   rw [this]
   have hb:(iy s.ae (gC s.ae d n)==gC s.ae d n)=false:=by simpa using he
   simp [hb]
theorem AN (hm:16000≤m)(v:Inv s)(h:Rg s.aa.length n):a6.f m s n=some (rp s.ae n):=by
 have h1:=vk s.ae
 have h2:=v.len
 have h3:=v.max
 have:=Ek (m:=m) v h m 0 (U5 _) (by omega)
 simp only [gC] at this
 simp only [a6.f,this,Ua]
theorem yS (h:Rg s.aa.length n):bX.f m s n=some ((fb s.aa n).kind==0):=by
 simp only [bX.f,vn h,Ua]
theorem IV (h1:Rg s.aa.length a)(h2:Rg s.aa.length b)(hl:s.ae.length=s.aa.length):cb.f m s a b=some ((jJ s.aa a b).1,⟨s.aj,s.aa,s.ae.set (jJ s.aa a b).1.toNat (jJ s.aa a b).2⟩):=by
 have i1:ix s.ae a=some (iy s.ae a):=vl (by rw [hl]; exact h1)
 have i2:ix s.ae b=some (iy s.ae b):=vl (by rw [hl]; exact h2)
 simp only [cb.f,jn,yS h1,yS h2,Ua,i1,i2]
 unfold jJ gf
 by_cases ha:(fb s.aa a).kind=0<;>by_cases hb:(fb s.aa b).kind=0<;>by_cases J7:a<b
 all_goals
  first
  | have ea:((fb s.aa a).kind==0)=true:=by simpa using ha
  | have ea:((fb s.aa a).kind==0)=false:=by simpa using ha
 all_goals
  first
  | have eb:((fb s.aa b).kind==0)=true:=by simpa using hb
  | have eb:((fb s.aa b).kind==0)=false:=by simpa using hb
 all_goals simp [ha,hb,J7,i1,i2,ea,eb]
theorem AO:cj.f m s n=some (decide (Rg s.aa.length n)):=by
 unfold cj.f Rg
 by_cases h1:n≥0<;>by_cases h2:n<(s.aa.length:Int)<;>simp [h1,h2]
theorem Inv.join (v:Inv s)(h1:Rg s.aa.length a)(h2:Rg s.aa.length b)(r1:rp s.ae a=a)(r2:rp s.ae b=b)(hne:a≠b) :
  Inv ⟨s.aj,s.aa,s.ae.set (jJ s.aa a b).1.toNat (jJ s.aa a b).2⟩∧(∀n,Rg s.aa.length n→rp (s.ae.set (jJ s.aa a b).1.toNat (jJ s.aa a b).2) n=sh (rp s.ae) (jJ s.aa a b) n)∧p7 (s.ae.set (jJ s.aa a b).1.toNat (jJ s.aa a b).2)=p7 s.ae+1:=by
 obtain⟨hb,hq⟩:=tP (N:=s.aa) a b
 generalize jJ s.aa a b=q at *
 have g:Rg s.aa.length q.1∧Rg s.aa.length q.2∧rp s.ae q.1=q.1∧rp s.ae q.2=q.2∧q.2≠q.1:=by
  rcases hq with⟨e1,e2⟩| ⟨e1,e2⟩
  ·rw [e1,e2]; exact⟨h1,h2,r1,r2,fun h=>hne h.symm⟩
  ·rw [e1,e2]; exact⟨h2,h1,r2,r1,hne⟩
 obtain⟨g1,g2,g3,g4,g5⟩:=g
 have s1:iy s.ae q.1=q.1:=by have:=v.ok.rt _ (v.rg g1); rwa [g3] at this
 have s2:iy s.ae q.2=q.2:=by have:=v.ok.rt _ (v.rg g2); rwa [g4] at this
 obtain⟨j1,j2⟩:=Uf.KX v.ok (v.rg g1) (v.rg g2) s1 s2 g5
 have j3:∀n,Rg s.aa.length n→rp (s.ae.set q.1.toNat q.2) n=sh (rp s.ae) q n:=fun n hn=>j2 n (v.rg hn)
 have c:=IU v.cn g1 g2 g3 g4 g5 hb
 refine⟨⟨v.made,by show (List.set _ _ _).length=_; rw [Ul]; exact v.len,v.max,j1,⟨fun n hn=>?_,fun n hn=>?_,fun n hn=>?_⟩,v.args⟩,j3,AK (v.rg g1) s1 g5⟩
 ·show Rg _ (rp (s.ae.set q.1.toNat q.2) n)
  rw [j3 n hn]; exact c.rg n hn
 ·show rp (s.ae.set q.1.toNat q.2) (rp (s.ae.set q.1.toNat q.2) n)=_
  rw [j3 n hn,j3 _ (c.rg n hn),c.id n hn]
 ·show Bt _ (rp (s.ae.set q.1.toNat q.2) n) n
  rw [j3 n hn]; exact c.bt n hn
theorem El (x y:ao):∃d,eQ.f m x y=some d∧(d=false↔my x y):=by
 unfold eQ.f my
 have h5:(((x.args.length:Int)==(y.args.length:Int))=true)↔x.args.length=y.args.length:=by rw [beq_iff_eq]; omega
 by_cases h1:x.kind=y.kind
 ·by_cases h2:x.int=y.int
  ·by_cases h3:x.label.data.toList=y.label.data.toList
   ·refine⟨!((x.args.length:Int)==(y.args.length:Int)),by simp [h1,h2,h3],?_⟩
    rw [Bool.not_eq_false',h5]
    exact⟨fun h=>⟨h1,h2,h3,h⟩,fun h=>h.2.2.2⟩
   ·have h6:¬x.label.data=y.label.data:=fun h=>h3 (by rw [h])
    exact⟨true,by simp [h1,h2,h6],by simp [h6]⟩
  ·exact⟨true,by simp [h1,h2],by simp [h2]⟩
 ·exact⟨true,by simp [h1],by simp [h1]⟩
end
end Go.Proofs.Ytifafejidnjckaa
namespace Go.Proofs.Ytifafejidnjckaa
open Go Go.R Go.Uf
open Go.IntKind (i64 u64 u8 u32)
def vG (p:aZ):Int × Int:=(p.jI,p.kL)
def qJ (a b:List Int):List aZ:=(a.zip b).map fun p=>⟨p.1,p.2⟩
theorem tQ {m:Nat}{v2 v3:ao}{s:ab}(hl:v2.args.length=v3.args.length)(h8:v2.args.length≤8):∀(k:Nat) (left:List aZ) (i:Nat),i≤v2.args.length→v2.args.length - i<k→left.length+8≤1000000+i→
  az.l1 m v2 v3 k left (i:Int) s=some (left++qJ (v2.args.drop i) (v3.args.drop i),(v2.args.length:Int),s)
 | 0,left,i,h1,h2,_=>by omega
 | k+1,left,i,h1,h2,h3=>by
  simp only [az.l1]
  by_cases hi:i<v2.args.length
  ·have Qt:i<v3.args.length:=by omega
   have e2:=Uj hi
   have e3:=Uj Qt
   have d:decide ((i:Int)<(v2.args.length:Int))=true:=by rw [decide_eq_true_eq]; omega
   have ea:app 16 left [(⟨v2.args[i],v3.args[i]⟩:aZ)]=some (left++[⟨v2.args[i],v3.args[i]⟩]):=B6 (by
    simp only [Up,UD]; omega)
   have ew:i64.wrap ((i:Int)+1)=((i+1:Nat):Int):=by rw [mU (by omega) (by omega)]; omega
   rw [if_pos d,B5 e2,B5 e3]
   simp only [Ua,ea,ew]
   rw [tQ hl h8 k _ (i+1) (by omega) (by omega) (by simp only [Uk,Up,UD]; omega)]
   have e4:qJ (v2.args.drop i) (v3.args.drop i)=⟨v2.args[i],v3.args[i]⟩::qJ (v2.args.drop (i+1)) (v3.args.drop (i+1)):=by
    unfold qJ
    rw [Uo hi,Uo Qt]; rfl
   rw [e4,Uq]; rfl
  ·have d:decide ((i:Int)<(v2.args.length:Int))=false:=by rw [decide_eq_false_iff_not]; omega
   have e:i=v2.args.length:=by omega
   rw [if_neg (by rw [d]; decide),e]
   simp [qJ]
def B7 (s s':ab)(l:List Int):Prop:=s'.aj=s.aj∧s'.aa=s.aa∧s'.ae.length=s.ae.length∧(∀n∈l,Rg s.ae.length n∧iy s.ae n=n)∧∀n,Rg s.ae.length n→n∉l→iy s'.ae n=iy s.ae n
theorem B7.refl (s:ab):B7 s s []:=⟨rfl,rfl,rfl,fun n h=>absurd h (by simp),fun _ _ _=>rfl⟩
theorem B7.step {s s':ab}{l:List Int}{a b:Int}(ha:Rg s.ae.length a)(hr:iy s.ae a=a)(hne:b≠a)(u:B7 ⟨s.aj,s.aa,s.ae.set a.toNat b⟩ s' l):B7 s s' (a::l):=by
 obtain⟨u1,u2,u3,u4,u5⟩:=u
 have hl:(s.ae.set a.toNat b).length=s.ae.length:=Ul
 have hs:=vm (b:=b) ha
 have e:∀n,Rg s.ae.length n→n≠a→iy (s.ae.set a.toNat b) n=iy s.ae n:=fun n hn h=>by
  rw [hs,if_neg (fun e=>h (by have:=hn.1; have:=ha.1; omega))]
 refine⟨u1,u2,u3.trans hl,fun n hn=>?_,fun n hn hm=>?_⟩
 ·rcases UA.1 hn with rfl | hn
  ·exact⟨ha,hr⟩
  ·obtain⟨g1,g2⟩:=u4 n hn
   have g1:Rg (s.ae.set a.toNat b).length n:=g1
   have g2:iy (s.ae.set a.toNat b) n=n:=g2
   rw [hl] at g1
   refine⟨g1,?_⟩
   by_cases h:n=a
   ·subst h; exact hr
   ·rw [e n g1 h] at g2; exact g2
 ·simp only [UA,not_or] at hm
  have:=u5 n (by show Rg (s.ae.set a.toNat b).length n; rw [hl]; exact hn) hm.2
  rw [this]
  exact e n hn hm.1
def AP (s:ab)(L:List (Int × Int))(ch:List Int):Sum ((List Int) × Bool × ab) ((List Int) × (List aZ) × Int × ab)→Prop
 | .inl (Em,b,s')=>b=false∧∃l,Em=ch++l∧B7 s s' l∧Inv s'∧(ch++l).length≤8000∧∀T,Cl s.aa T→gM s.aa (rp s.ae) T→(∀p∈L,T p.1=T p.2)→False
 | .inr (Em,_,_,s')=>∃l,Em=ch++l∧B7 s s' l∧Inv s'∧(ch++l).length≤8000∧Cl s.aa (rp s'.ae)∧gM s.aa (rp s.ae) (rp s'.ae)∧(∀p∈L,rp s'.ae p.1=rp s'.ae p.2)∧∀T,Cl s.aa T→gM s.aa (rp s.ae) T→(∀p∈L,T p.1=T p.2)→gM s.aa (rp s'.ae) T
end Go.Proofs.Ytifafejidnjckaa
namespace Go.Uf
open Go Go.R
open Go.IntKind (i64 u64 u8 u32)
theorem gM.trans {N:List ao}{R S T:Int→Int}(a:gM N R S)(b:gM N S T):gM N R T:=fun x y hx hy h=>b x y hx hy (a x y hx hy h)
theorem gM.congr {N:List ao}{R S T:Int→Int}(e:∀n,Rg N.length n→R n=S n)(b:gM N S T):gM N R T:=fun x y hx hy h=>b x y hx hy (by rw [←e x hx,←e y hy,h])
theorem gM.IW {N:List ao}{R S T:Int→Int}(e:∀n,Rg N.length n→S n=T n)(b:gM N R S):gM N R T:=fun x y hx hy h=>by rw [←e x hx,←e y hy]; exact b x y hx hy h
theorem qI.congr {N:List ao}{R S:Int→Int}{L:List (Int × Int)}(e:∀n,Rg N.length n→R n=S n)(p:qI N S L):qI N R L:=fun T s hL x y hx hy h=>p T (s.congr fun n hn=>(e n hn).symm) hL x y hx hy (by rw [←e x hx,←e y hy,h])
end Go.Uf
namespace Go.Proofs.Ytifafejidnjckaa
open Go Go.R Go.Uf
open Go.IntKind (i64 u64 u8 u32)
section
variable {s:ab}
theorem Gl {ch:List Int}{left M:List aZ}{i:Nat}{p:aZ}{q:Int × Int}{out:Sum ((List Int) × Bool × ab) ((List Int) × (List aZ) × Int × ab)}
  (v:Inv s) (hp:left[i]? = some p) (h1:Rg s.aa.length p.jI) (h2:Rg s.aa.length p.kL)
  (hq:(q.1=rp s.ae p.jI∧q.2=rp s.ae p.kL)∨(q.1=rp s.ae p.kL∧q.2=rp s.ae p.jI)) (hne:q.2≠q.1)
  (hr:∀n,Rg s.aa.length n→rp (s.ae.set q.1.toNat q.2) n=sh (rp s.ae) q n)
  (hM:∀T,Cl s.aa T→T (rp s.ae p.jI)=T (rp s.ae p.kL)→∀x∈M,T x.jI=T x.kL)
  (h:AP ⟨s.aj,s.aa,s.ae.set q.1.toNat q.2⟩ (((left++M).drop (i+1)).map vG) (ch++[q.1]) out):AP s ((left.drop i).map vG) ch out:=by
 have hi:i<left.length:=(Uh.1 hp).1
 have Mg:left[i]=p:=(Uh.1 hp).2
 have ed:left.drop i=p::left.drop (i+1):=by rw [Uo hi,Mg]
 have IX:(left++M).drop (i+1)=left.drop (i+1)++M:=List.drop_append_of_le_length (by omega)
 have g1:=v.cn.rg _ h1
 have g2:=v.cn.rg _ h2
 have gq:Rg s.aa.length q.1∧Rg s.aa.length q.2∧rp s.ae q.1=q.1∧rp s.ae q.2=q.2:=by
  rcases hq with⟨e1,e2⟩| ⟨e1,e2⟩
  ·rw [e1,e2]; exact⟨g1,g2,v.cn.id _ h1,v.cn.id _ h2⟩
  ·rw [e1,e2]; exact⟨g2,g1,v.cn.id _ h2,v.cn.id _ h1⟩
 obtain⟨q1,q2,q3,q4⟩:=gq
 have pb:iy s.ae q.1=q.1:=by have:=v.ok.rt _ (v.rg q1); rwa [q3] at this
 have SA:gM s.aa (rp s.ae) (rp (s.ae.set q.1.toNat q.2)):=gM.IW (fun n hn=>(hr n hn).symm) AM
 have SB:rp (s.ae.set q.1.toNat q.2) p.jI=rp (s.ae.set q.1.toNat q.2) p.kL:=by
  rw [hr _ h1,hr _ h2]
  rcases hq with⟨e1,e2⟩| ⟨e1,e2⟩
  ·exact vo e1.symm e2.symm hne
  ·exact (vo e1.symm e2.symm hne).symm
 have Lc:∀T,Cl s.aa T→gM s.aa (rp s.ae) T→(∀x∈(left.drop i).map vG,T x.1=T x.2)→gM s.aa (rp (s.ae.set q.1.toNat q.2)) T∧∀x∈((left++M).drop (i+1)).map vG,T x.1=T x.2:=by
  intro T cT sT hT
  have tp:T p.jI=T p.kL:=hT (vG p) (by rw [ed]; simp)
  have ta:T (rp s.ae p.jI)=T p.jI:=sT _ _ g1 h1 (v.cn.id _ h1)
  have tb:T (rp s.ae p.kL)=T p.kL:=sT _ _ g2 h2 (v.cn.id _ h2)
  have tt:T (rp s.ae p.jI)=T (rp s.ae p.kL):=by rw [ta,tb,tp]
  refine⟨gM.congr hr (B2 v.cn q1 q2 sT ?_),fun x hx=>?_⟩
  ·rcases hq with⟨e1,e2⟩| ⟨e1,e2⟩
   ·rw [e1,e2]; exact tt
   ·rw [e1,e2]; exact tt.symm
  ·rw [IX,UG] at hx
   rcases UF.1 hx with hx | hx
   ·exact hT x (by rw [ed]; simp only [UC]; exact List.mem_cons_of_mem _ hx)
   ·obtain⟨y,hy,rfl⟩:=UO.1 hx
    exact hM T cT tt y hy
 match out,h with
 | .inl (Em,b,s'),⟨hb,l,e,u,v',hl,hT⟩=>
  exact⟨hb,q.1::l,by rw [e]; simp,B7.step (v.rg q1) pb hne u,v',by simpa using hl,fun T cT sT pT=>by
   obtain⟨k1,k2⟩:=Lc T cT sT pT
   exact hT T cT k1 k2⟩
 | .inr (Em,Hf,i',s'),⟨l,e,u,v',hl,hc,hs,LU,hT⟩=>
  refine⟨q.1::l,by rw [e]; simp,B7.step (v.rg q1) pb hne u,v',by simpa using hl,hc,SA.trans hs,fun x hx=>?_,fun T cT sT pT=>?_⟩
  ·rw [ed] at hx
   simp only [UC] at hx
   rcases UA.1 hx with rfl | hx
   ·exact hs _ _ h1 h2 SB
   ·exact LU x (by rw [IX,UG]; exact U3 _ hx)
  ·obtain⟨k1,k2⟩:=Lc T cT sT pT
   exact hT T cT k1 k2
theorem AQ {a b:List Int}{x:aZ}(h:x∈qJ a b):∃i:Nat,a[i]? = some x.jI∧b[i]? = some x.kL:=by
 unfold qJ at h
 obtain⟨p,hp,rfl⟩:=UO.1 h
 obtain⟨i,hi⟩:=Vd hp
 rw [List.getElem?_zip_eq_some] at hi
 exact⟨i,hi⟩
theorem Gm {a b:List Int}{i:Nat}{x y:Int}(h1:a[i]? = some x)(h2:b[i]? = some y):(x,y)∈(qJ a b).map vG:=by
 unfold qJ
 rw [List.map_map]
 refine UO.2 ⟨(x,y),?_,rfl⟩
 exact Ut (i:=i) (List.getElem?_zip_eq_some.2 ⟨h1,h2⟩)
theorem px {m:Nat}(hm:16000≤m):∀(k:Nat) (s:ab) (ch:List Int) (left:List aZ) (i:Nat),i≤left.length→9*(s.aa.length - p7 s.ae)+(left.length - i)<k→left.length≤1+8*p7 s.ae→ch.length≤p7 s.ae→Inv s→
  (∀p∈left,Rg s.aa.length p.jI∧Rg s.aa.length p.kL)→qI s.aa (rp s.ae) ((left.drop i).map vG)→∃out,az.l0 m k ch left (i:Int) s=some out∧AP s ((left.drop i).map vG) ch out
 | 0,s,ch,left,i,h1,h2,h3,h4,v,hin,hp=>by omega
 | k+1,s,ch,left,i,h1,h2,h3,h4,v,hin,hp=>by
  have n1:=vk s.ae
  have n2:=v.len
  have n3:=v.max
  simp only [az.l0]
  by_cases hi:i<left.length
  rotate_left
  ·have d:decide ((i:Int)<(left.length:Int))=false:=by rw [decide_eq_false_iff_not]; omega
   rw [if_neg (by rw [d]; decide)]
   have hd:left.drop i=[]:=Vq (by omega)
   rw [hd] at hp ⊢
   exact⟨_,rfl,[],by simp,B7.refl s,v,by simp; omega,Ej hp,fun _ _ _ _ h=>h,fun x hx=>by simp at hx,fun T _ s _=>s⟩
  have d:decide ((i:Int)<(left.length:Int))=true:=by rw [decide_eq_true_eq]; omega
  have ep:=Uj hi
  generalize left[i]=p at ep
  obtain⟨ra,rb⟩:=hin p (Ut ep)
  have ed:left.drop i=p::left.drop (i+1):=by
   rw [Uo hi]; congr 1
   exact (Uh.1 ep).2
  have ew:i64.wrap ((i:Int)+1)=((i+1:Nat):Int):=by rw [mU (by omega) (by omega)]; omega
  rw [if_pos d,B5 ep]
  simp only [Ua,AN hm v ra,AN hm v rb,ew]
  have ga:=v.cn.rg _ ra
  have gb:=v.cn.rg _ rb
  have LU:qI s.aa (rp s.ae) (vG p::(left.drop (i+1)).map vG):=by rw [ed] at hp; exact hp
  by_cases he:rp s.ae p.jI=rp s.ae p.kL
  ·have c1:(rp s.ae p.jI==rp s.ae p.jI&&rp s.ae p.kL==rp s.ae p.jI)=true:=by simp [he]
   rw [if_pos c1]
   obtain⟨out,e1,e2⟩:=px hm k s ch left (i+1) (by omega) (by omega) h3 h4 v hin (B3 LU ra rb he)
   refine⟨out,e1,?_⟩
   match out,e2 with
   | .inl (Em,b,s'),⟨hb,l,e,u,v',hl,hT⟩=>
    exact⟨hb,l,e,u,v',hl,fun T cT sT pT=>hT T cT sT fun x hx=>pT x (by rw [ed]; simp only [UC]; exact List.mem_cons_of_mem _ hx)⟩
   | .inr (Em,Hf,i',s'),⟨l,e,u,v',hl,hc,hs,hq,hT⟩=>
    refine⟨l,e,u,v',hl,hc,hs,fun x hx=>?_,fun T cT sT pT=>hT T cT sT fun x hx=>pT x (by rw [ed]; simp only [UC]; exact List.mem_cons_of_mem _ hx)⟩
    rw [ed] at hx
    simp only [UC] at hx
    rcases UA.1 hx with rfl | hx
    ·exact hs _ _ ra rb he
    ·exact hq x hx
  ·have c1:¬(rp s.ae p.jI==rp s.ae p.jI&&rp s.ae p.kL==rp s.ae p.jI)=true:=by
    simp only [BEq.rfl,VI,beq_iff_eq]; exact fun h=>he h.symm
   rw [if_neg c1]
   simp only [vn ga,vn gb,Ua]
   obtain⟨jv,jr,jn⟩:=v.join ga gb (v.cn.id _ ra) (v.cn.id _ rb) he
   have ej:=IV (m:=m) ga gb v.len
   obtain⟨ob,oq⟩:=tP (N:=s.aa) (rp s.ae p.jI) (rp s.ae p.kL)
   have hne:(jJ s.aa (rp s.ae p.jI) (rp s.ae p.kL)).2≠(jJ s.aa (rp s.ae p.jI) (rp s.ae p.kL)).1:=by
    rcases oq with⟨e1,e2⟩| ⟨e1,e2⟩
    ·rw [e1,e2]; exact fun h=>he h.symm
    ·rw [e1,e2]; exact he
   generalize jJ s.aa (rp s.ae p.jI) (rp s.ae p.kL)=q at *
   have Qu:(q.1=rp s.ae p.jI∧q.2=rp s.ae p.kL)∨(q.1=rp s.ae p.kL∧q.2=rp s.ae p.jI):=oq
   have n4:=vk (s.ae.set q.1.toNat q.2)
   rw [Ul,jn] at n4
   have Qv:∀M:List aZ,M.length≤8→(∀x∈M,Rg s.aa.length x.jI∧Rg s.aa.length x.kL)→
     (∀T,Cl s.aa T→T (rp s.ae p.jI)=T (rp s.ae p.kL)→∀x∈M,T x.jI=T x.kL)→
     (gf s.aa (rp s.ae p.jI)→gf s.aa (rp s.ae p.kL)→my (fb s.aa (rp s.ae p.jI)) (fb s.aa (rp s.ae p.kL))∧∀(i:Nat) (a b:Int),(fb s.aa (rp s.ae p.jI)).args[i]? = some a→(fb s.aa (rp s.ae p.kL)).args[i]? = some b→(a,b)∈M.map vG)→
     ∃out,((app 8 ch [q.1]).bind fun x=>az.l0 m k x (left++M) ((i+1:Nat):Int) ⟨s.aj,s.aa,s.ae.set q.1.toNat q.2⟩)=some out∧AP s ((left.drop i).map vG) ch out:=by
    intro M T4 SC SD SE
    rw [B6 (by simp only [Up,UD]; omega),Ua]
    have IX:((left++M).drop (i+1)).map vG=(left.drop (i+1)).map vG++M.map vG:=by
     rw [List.drop_append_of_le_length (by omega),UG]
    have jn:p7 (s.ae.set q.1.toNat q.2)=p7 s.ae+1:=jn
    obtain⟨out,e1,e2⟩:=px hm k ⟨s.aj,s.aa,s.ae.set q.1.toNat q.2⟩ (ch++[q.1]) (left++M) (i+1) (by rw [Uk]; omega)
     (by show 9*(s.aa.length - p7 (s.ae.set q.1.toNat q.2))+_<k; rw [jn,Uk]; omega) (by show _≤1+8*p7 (s.ae.set q.1.toNat q.2); rw [jn,Uk]; omega)
     (by show _≤p7 (s.ae.set q.1.toNat q.2); rw [jn,Uk]; simp only [Up,UD]; omega) jv
     (fun x hx=>(UF.1 hx).elim (hin x) (SC x)) (by
      rw [IX]
      exact qI.congr jr (B4 v.cn (p:=vG p) LU ra rb Qu hne SE))
    exact⟨out,e1,Gl v ep ra rb Qu hne jr SD e2⟩
   have IY:=Qv [] (by simp) (fun x hx=>by simp at hx) (fun T _ _ x hx=>by simp at hx)
   rw [Vy] at IY
   by_cases k1:(fb s.aa (rp s.ae p.jI)).kind=0
   ·have b1:(!((fb s.aa (rp s.ae p.jI)).kind==(0:Int)))=false:=by rw [k1]; rfl
    rw [b1,if_neg (by decide),ej]
    exact IY fun h=>absurd k1 h
   have b1:(!((fb s.aa (rp s.ae p.jI)).kind==(0:Int)))=true:=by simpa using k1
   rw [b1,if_pos rfl]
   by_cases k2:(fb s.aa (rp s.ae p.kL)).kind=0
   ·have b2:(!((fb s.aa (rp s.ae p.kL)).kind==(0:Int)))=false:=by rw [k2]; rfl
    rw [b2,if_neg (by decide),ej]
    exact IY fun _ h=>absurd k2 h
   have b2:(!((fb s.aa (rp s.ae p.kL)).kind==(0:Int)))=true:=by simpa using k2
   rw [b2,if_pos rfl]
   obtain⟨df,SF,IX⟩:=El (m:=m) (fb s.aa (rp s.ae p.jI)) (fb s.aa (rp s.ae p.kL))
   rw [SF,Ua]
   cases df with
   | true=>
    refine⟨_,rfl,rfl,[],by simp,B7.refl s,v,by simp; omega,fun T cT sT pT=>?_⟩
    have tp:T p.jI=T p.kL:=pT (vG p) (by rw [ed]; simp)
    have ta:T (rp s.ae p.jI)=T p.jI:=sT _ _ ga ra (v.cn.id _ ra)
    have tb:T (rp s.ae p.kL)=T p.kL:=sT _ _ gb rb (v.cn.id _ rb)
    have:=(cT _ _ ga gb (by rw [ta,tb,tp]) k1 k2).1
    have:=IX.2 this
    cases this
   | false=>
    have tp:=IX.1 rfl
    have a8:=(v.args _ (jT ga)).1
    have el:az.l1 m (fb s.aa (rp s.ae p.jI)) (fb s.aa (rp s.ae p.kL)) m left 0 s=some (left++qJ ((fb s.aa (rp s.ae p.jI)).args.drop 0) ((fb s.aa (rp s.ae p.kL)).args.drop 0),((fb s.aa (rp s.ae p.jI)).args.length:Int),s):=tQ tp.2.2.2 a8 m left 0 (U5 _) (by omega) (by omega)
    rw [if_neg (by decide),el]
    simp only [Ua,US,ej]
    refine Qv (qJ (fb s.aa (rp s.ae p.jI)).args (fb s.aa (rp s.ae p.kL)).args) ?_ (fun x hx=>?_) (fun T cT hT x hx=>?_) (fun _ _=>⟨tp,fun i a b ha hb=>Gm ha hb⟩)
    ·unfold qJ; rw [Ux,List.length_zip]; omega
    ·obtain⟨j,j1,j2⟩:=AQ hx
     exact⟨(v.args _ (jT ga)).2 _ (Ut j1),(v.args _ (jT gb)).2 _ (Ut j2)⟩
    ·obtain⟨j,j1,j2⟩:=AQ hx
     exact (cT _ _ ga gb hT k1 k2).2 j _ _ j1 j2
end
end Go.Proofs.Ytifafejidnjckaa
namespace Go.Proofs.Ytifafejidnjckaa
open Go Go.R Go.Uf
open Go.IntKind (i64 u64 u8 u32)
section
variable {m:Nat}{s s':ab}
theorem B8 {a b:ab}(h1:a.aj=b.aj)(h2:a.aa=b.aa)(h3:a.ae=b.ae):a=b:=by
 cases a; cases b; cases h1; cases h2; cases h3; rfl
theorem IZ {a b:List Int}(hl:a.length=b.length)(h:∀n,Rg b.length n→iy a n=iy b n):a=b:=by
 refine VC fun i=>?_
 by_cases hi:i<b.length
 ·have r:Rg b.length (i:Int):=⟨Int.natCast_nonneg _,by omega⟩
  have e1:=qV (to:=b) r
  have e2:=qV (to:=a) (n:=(i:Int)) (by rw [hl]; exact r)
  rw [Un] at e1 e2
  rw [e1,e2,h _ r]
 ·rw [UJ (by omega),UJ (by omega)]
theorem AR (l:List Int)(hl:l.length≤8000)(s:ab)(hs:∀n∈l,Rg s.ae.length n∧iy s.ae n=n):∀(k:Nat) (i:Nat) (s':ab),i≤l.length→l.length - i<k→s'.aj=s.aj→s'.aa=s.aa→s'.ae.length=s.ae.length→(∀n,Rg s.ae.length n→n∉l.drop i→iy s'.ae n=iy s.ae n)→
  bb.l0 m l k (i:Int) s'=some ((l.length:Int),s)
 | 0,i,s',h1,h2,_,_,_,_=>by omega
 | k+1,i,s',h1,h2,e1,e2,e3,h=>by
  simp only [bb.l0]
  by_cases hi:i<l.length
  ·have d:decide ((i:Int)<(l.length:Int))=true:=by rw [decide_eq_true_eq]; omega
   have el:=Uj hi
   have ed:l.drop i=l[i]::l.drop (i+1):=Uo hi
   generalize l[i]=n at el ed
   obtain⟨rn,sn⟩:=hs n (Ut el)
   have Qw:Rg s'.ae.length n:=by rw [e3]; exact rn
   have ew:i64.wrap ((i:Int)+1)=((i+1:Nat):Int):=by rw [mU (by omega) (by omega)]; omega
   rw [if_pos d,B5 el]
   simp only [Ua,vl Qw,ew]
   refine AR l hl s hs k (i+1) _ (by omega) (by omega) e1 e2 (by show (List.set _ _ _).length=_; rw [Ul,e3]) (fun x hx hm=>?_)
   show iy (s'.ae.set n.toNat n) x=_
   rw [vm Qw]
   by_cases he:x.toNat=n.toNat
   ·have:x=n:=by have:=hx.1; have:=rn.1; omega
    rw [if_pos he,this,sn]
   ·rw [if_neg he]
    refine h x hx ?_
    rw [ed]
    simp only [UA,not_or]
    exact⟨fun e=>he (by rw [e]),hm⟩
  ·have d:decide ((i:Int)<(l.length:Int))=false:=by rw [decide_eq_false_iff_not]; omega
   rw [if_neg (by rw [d]; decide)]
   have hd:l.drop i=[]:=Vq (by omega)
   have:s'=s:=B8 e1 e2 (IZ e3 fun n hn=>h n hn (by rw [hd]; simp))
   rw [this]
   congr 2; omega
theorem En (hm:16000≤m){l:List Int}(hl:l.length≤8000)(u:B7 s s' l):bb.f m s' l=some s:=by
 obtain⟨u1,u2,u3,u4,u5⟩:=u
 have:=AR (m:=m) l hl s u4 m 0 s' (U5 _) (by omega) u1 u2 u3 (by rw [US]; exact u5)
 have this:bb.l0 m l m 0 s'=some ((l.length:Int),s):=this
 simp only [bb.f,this,Ua]
theorem xh {f:Int→Option Bool}{g:Int→Bool}(l:List Int)(hl:l.length≤1000000)(hf:∀x∈l,f x=some (g x)):∀(k i:Nat),i≤l.length→l.length - i<k→
  (∃j:Nat,cu.l0 m l f k (i:Int)=some (.inl (j:Int))∧i≤j∧j<l.length∧(∀x,l[j]? = some x→g x=true)∧∀q,i≤q→q<j→∀x,l[q]? = some x→g x=false)∨
  (∃z,cu.l0 m l f k (i:Int)=some (.inr z)∧∀q,i≤q→∀x,l[q]? = some x→g x=false)
 | 0,i,h1,h2=>by omega
 | k+1,i,h1,h2=>by
  simp only [cu.l0]
  by_cases hi:i<l.length
  ·have d:decide ((i:Int)<(l.length:Int))=true:=by rw [decide_eq_true_eq]; omega
   have el:=Uj hi
   generalize l[i]=n at el
   have ew:i64.wrap ((i:Int)+1)=((i+1:Nat):Int):=by rw [mU (by omega) (by omega)]; omega
   rw [if_pos d,B5 el]
   simp only [Ua,hf n (Ut el),ew]
   cases hg:g n with
   | true=>
    left
    refine⟨i,by simp,Ue _,hi,fun x hx=>?_,fun q h3 h4=>by omega⟩
    rw [el] at hx; cases hx; exact hg
   | false=>
    rw [if_neg (by decide)]
    have iy:∀q,i≤q→q≠i→i+1≤q:=fun q h3 h4=>by omega
    rcases xh l hl hf k (i+1) (by omega) (by omega) with⟨j,e,j1,j2,j3,j4⟩| ⟨z,e,j4⟩
    ·left
     refine⟨j,e,by omega,j2,j3,fun q h3 h4 x hx=>?_⟩
     by_cases hq:q=i
     ·subst hq; rw [el] at hx; cases hx; exact hg
     ·exact j4 q (iy q h3 hq) h4 x hx
    ·right
     refine⟨z,e,fun q h3 x hx=>?_⟩
     by_cases hq:q=i
     ·subst hq; rw [el] at hx; cases hx; exact hg
     ·exact j4 q (iy q h3 hq) x hx
  ·have d:decide ((i:Int)<(l.length:Int))=false:=by rw [decide_eq_false_iff_not]; omega
   rw [if_neg (by rw [d]; decide)]
   right
   refine⟨_,rfl,fun q h3 x hx=>?_⟩
   rw [UJ (by omega)] at hx; cases hx
theorem AS {f:Int→Option Bool}{g:Int→Bool}(hm:2000000≤m)(l:List Int)(hl:l.length≤1000000)(hf:∀x∈l,f x=some (g x)) :
  (∃j:Nat,cu.f m l f=some (j:Int)∧j<l.length∧(∀x,l[j]? = some x→g x=true)∧∀q,q<j→∀x,l[q]? = some x→g x=false)∨
  (cu.f m l f=some (-1)∧∀x∈l,g x=false):=by
 rcases xh (m:=m) l hl hf m 0 (U5 _) (by omega) with⟨j,e,j1,j2,j3,j4⟩| ⟨z,e,j4⟩
 ·left
  have e:cu.l0 m l f m 0=_:=e
  refine⟨j,by simp only [cu.f,e,Ua],j2,j3,fun q=>j4 q (U5 _)⟩
 ·right
  have e:cu.l0 m l f m 0=_:=e
  refine⟨by simp only [cu.f,e,Ua],fun x hx=>?_⟩
  obtain⟨q,hq⟩:=Vd hx
  exact j4 q (U5 _) x hq
theorem sr {f:Int→Option Bool}{g:Int→Bool}(hm:2000000≤m)(l:List Int)(hl:l.length≤1000000)(hf:∀x∈l,f x=some (g x)):ei.f m l f=some (l.any g):=by
 unfold ei.f
 rcases AS hm l hl hf with⟨j,e,j1,j2,_⟩| ⟨e,h⟩
 ·rw [e,Ua]
  have h1:=Uj j1
  have:l.any g=true:=List.any_eq_true.2 ⟨_,Ut h1,j2 _ h1⟩
  rw [this]
  rw [show decide ((j:Int)≥0)=true by rw [decide_eq_true_eq]; omega]
 ·rw [e,Ua]
  have:l.any g=false:=by
   rw [List.any_eq_false]
   intro x hx; simp [h x hx]
  rw [this]; rfl
theorem vp (hm:2000000≤m)(hs:s.aj=true)(l:List Int)(hl:l.length≤1000000):bS.f m s l=some (if l.all (fun n=>decide (Rg s.aa.length n)) then 0 else 1):=by
 unfold bS.f bK.f
 rw [hs]
 simp only [Ua,Vo,Um,if_false]
 rw [sr hm l hl (g:=fun n=>!decide (Rg s.aa.length n)) (fun x _=>by simp only [cK.f,AO,Ua])]
 rw [Ua]
 have:(l.any fun n=>!decide (Rg s.aa.length n)) = !(l.all fun n=>decide (Rg s.aa.length n)):=by
  induction l with
  | nil=>rfl
  | cons a l ih=>simp only [List.any_cons,UZ,Bool.not_and,ih (by simp only [Up] at hl; omega)]
 rw [this]
 cases (l.all fun n=>decide (Rg s.aa.length n))<;>rfl
end
end Go.Proofs.Ytifafejidnjckaa
namespace Go.Proofs.Ytifafejidnjckaa
open Go Go.R Go.Uf
open Go.IntKind (i64 u64 u8 u32)
section
variable {m:Nat}{s s':ab}
theorem py {f:Int→Option Bool}{g:Int→Bool}(l:List Int)(hl:l.length≤1000000)(hf:∀x∈l,f x=some (g x)):∀(k:Nat) (s1:List Int) (i j:Nat),i≤j→i<l.length→j≤l.length→l.length - j<k→s1.length=l.length→s1.take i=(l.take j).filter (fun x=>!g x)→s1.drop j=l.drop j→
  ∃(s2:List Int) (i2:Nat) (z:Int),dF.l0 m l f k s1 (i:Int) (j:Int)=some (s2,(i2:Int),z)∧i2≤l.length∧s2.length=l.length∧s2.take i2=l.filter (fun x=>!g x)
 | 0,s1,i,j,h1,_,h2,h3,_,_,_=>by omega
 | k+1,s1,i,j,h1,h0,h2,h3,h4,h5,h6=>by
  simp only [dF.l0]
  by_cases hj:j<l.length
  ·have d:decide ((j:Int)<(l.length:Int))=true:=by rw [decide_eq_true_eq]; omega
   have el:=Uj hj
   have e1:s1[j]? = some l[j]:=by
    have:=congrArg (fun z=>z[0]?) h6
    simp only [List.getElem?_drop,VG] at this
    rw [this,el]
   have et:l.take (j+1)=l.take j++[l[j]]:=(U0 hj)
   have ON:i64.wrap ((j:Int)+1)=((j+1:Nat):Int):=by rw [mU (by omega) (by omega)]; omega
   have SG:i64.wrap ((i:Int)+1)=((i+1:Nat):Int):=by rw [mU (by omega) (by omega)]; omega
   have hd:∀s3:List Int,s3.drop j=l.drop j→s3.drop (j+1)=l.drop (j+1):=fun s3 h=>by
    rw [VE,←List.drop_drop,←List.drop_drop] at *
    rw [VE] at *
    have a1:(s3.drop j).drop 1=(l.drop j).drop 1:=by rw [h]
    simpa [List.drop_drop,VE] using a1
   rw [if_pos d,B5 e1]
   simp only [Ua,hf _ (Ut el),ON,SG]
   cases hg:g l[j] with
   | true=>
    rw [if_neg (by decide)]
    exact py l hl hf k s1 i (j+1) (by omega) h0 (by omega) (by omega) h4 (by rw [et,List.filter_append,h5]; simp [hg]) (hd s1 h6)
   | false=>
    rw [if_pos (by decide)]
    have i1:i<s1.length:=by omega
    have e2:=Uj i1
    rw [B5 e2,Ua,Un]
    by_cases hi:i+1<l.length
    ·refine py l hl hf k (s1.set i l[j]) (i+1) (j+1) (by omega) hi (by omega) (by omega) (by rw [Ul,h4]) ?_ ?_
     ·rw [et,List.filter_append,←h5]
      have:(s1.set i l[j]).take (i+1)=s1.take i++[l[j]]:=by
       rw [U0 (by rw [Ul]; exact i1)]
       rw [List.take_set_of_le (Ue _),List.getElem_set_self]
      rw [this]; simp [hg]
     ·rw [List.drop_set_of_lt (by omega)]
      exact hd s1 h6
    ·
     have Fe:j+1=l.length:=by omega
     have xK:i=j:=by omega
     cases k with
     | zero=>omega
     | succ k=>
      simp only [dF.l0]
      have d2:decide (((j+1:Nat):Int)<(l.length:Int))=false:=by rw [decide_eq_false_iff_not]; omega
      rw [if_neg (by rw [d2]; decide)]
      refine⟨_,i+1,_,rfl,by omega,by rw [Ul,h4],?_⟩
      have:(s1.set i l[j]).take (i+1)=s1.take i++[l[j]]:=by
       rw [U0 (by rw [Ul]; exact i1)]
       rw [List.take_set_of_le (Ue _),List.getElem_set_self]
      have Ld:l=l.take j++[l[j]]:=by rw [←et,Fe,List.take_length]
      rw [this,h5]
      conv=>rhs; rw [Ld]
      rw [List.filter_append]; simp [hg]
  ·have d:decide ((j:Int)<(l.length:Int))=false:=by rw [decide_eq_false_iff_not]; omega
   rw [if_neg (by rw [d]; decide)]
   have Fe:j=l.length:=by omega
   refine⟨_,i,_,rfl,by omega,h4,?_⟩
   rw [h5,Fe,List.take_length]
theorem Eo {f:Int→Option Bool}{g:Int→Bool}(hm:2000000≤m)(l:List Int)(hl:l.length≤1000000)(hf:∀x∈l,f x=some (g x)):dF.f m l f=some (l.filter fun x=>!g x):=by
 unfold dF.f
 rcases AS hm l hl hf with⟨j,e,j1,j2,j3⟩| ⟨e,h⟩
 ·rw [e,Ua]
  have hne:((j:Int) == -1)=false:=by rw [beq_eq_false_iff_ne]; omega
  have ON:i64.wrap ((j:Int)+1)=((j+1:Nat):Int):=by rw [mU (by omega) (by omega)]; omega
  have el:=Uj j1
  obtain⟨s2,i2,z,e2,g1,g2,g3⟩:=py (m:=m) l hl hf m l j (j+1) (by omega) j1 (by omega) (by omega) rfl (by
   rw [U0 j1,List.filter_append]
   have:(l.take j).filter (fun x=>!g x)=l.take j:=by
    rw [List.filter_eq_self]
    intro x hx
    obtain⟨q,hq⟩:=Vd hx
    have OO:q<j:=by
     have:=(Uh.1 hq).1
     rw [U8] at this; omega
    rw [List.getElem?_take_of_lt OO] at hq
    rw [j3 q OO x hq]; rfl
   rw [this]; simp [j2 _ el]) rfl
  rw [hne,if_neg (by decide),ON,e2]
  simp only [Ua]
  have hc:Ju s2 (i2:Int)=some (s2.take i2++Uu (s2.length - i2) 0):=by
   unfold Ju; rw [if_pos ⟨Int.natCast_nonneg _,by omega⟩,Un]
  rw [hc,Ua]
  have hs:G4 (s2.take i2++Uu (s2.length - i2) 0) 0 (i2:Int)=some (s2.take i2):=by
   unfold G4
   rw [if_pos ⟨Int.le_refl _,Int.natCast_nonneg _,by rw [Uk,U8,VA]; omega⟩]
   congr 1
   simp only [Un,Int.toNat_zero,US,Nat.sub_zero]
   rw [UK (by rw [U8]; omega),List.take_take,Nat.min_self]
  rw [hs,g3]; rfl
 ·rw [e,Ua]
  have hb:((-1:Int) == -1)=true:=rfl
  rw [hb,if_pos rfl]
  congr 1
  rw [eq_comm,List.filter_eq_self]
  intro x hx; rw [h x hx]; rfl
def SH (N:List ao)(l:List Int):List Int:=kA (l.filter fun n=>(fb N n).kind==0)
theorem AT (hm:2000000≤m){l:List Int}(hl:l.length≤8000)(hr:∀n∈l,Rg s.aa.length n):ck.f m s l=some (SH s.aa l):=by
 unfold ck.f
 have h1:Cv 8 (l.length:Int) (0:Int)=some (Uu l.length 0):=by
  unfold Cv; rw [if_pos ⟨Int.natCast_nonneg _,by rw [Un]; omega⟩,Un]
 have h2:Kw (Uu l.length (0:Int)) l=some l:=by
  unfold Kw; rw [if_pos (by rw [VA]; exact Ue _)]; simp
 rw [h1,Ua,h2,Ua]
 rw [Eo hm l (by omega) (g:=fun n=>!((fb s.aa n).kind==0)) (fun x hx=>by simp only [cL.f,yS (hr x hx),Ua])]
 simp only [Ua,Bool.not_not]
 rfl
theorem xi (hm:2000000≤m)(v:Inv s)(c:Cl s.aa (rp s.ae)){a b:Int}(ha:Rg s.aa.length a)(hb:Rg s.aa.length b) :
  ∃l ok s',az.f m s a b=some (l,ok,s')∧B7 s s' l∧Inv s'∧l.length≤8000∧
   (ok=false→∀T,Cl s.aa T→gM s.aa (rp s.ae) T→T a=T b→False)∧
   (ok=true→Cl s.aa (rp s'.ae)∧gM s.aa (rp s.ae) (rp s'.ae)∧rp s'.ae a=rp s'.ae b∧∀T,Cl s.aa T→gM s.aa (rp s.ae) T→T a=T b→gM s.aa (rp s'.ae) T):=by
 have n1:=vk s.ae
 have n2:=v.len
 have n3:=v.max
 obtain⟨out,e1,e2⟩:=px (m:=m) (by omega) m s [] [⟨a,b⟩] 0 (by simp) (by simp only [Up,UD]; omega) (by simp only [Up,UD]; omega) (by simp) v
  (fun p hp=>by simp only [UB] at hp; subst hp; exact⟨ha,hb⟩) (by
   rw [US]; exact Gk c v.args)
 have e1:az.l0 m m [] [⟨a,b⟩] 0 s=some out:=e1
 unfold az.f
 rw [e1,Ua]
 match out,e2 with
 | .inl (Em,b',s'),⟨sE,l,e,u,v',hl,hT⟩=>
  subst sE
  rw [UN] at e hl
  subst e
  exact⟨Em,false,s',rfl,u,v',hl,fun _ T cT sT pT=>hT T cT sT fun p hp=>by
   simp only [US,UC,VF,UB] at hp; subst hp; exact pT,fun h=>by cases h⟩
 | .inr (Em,Hf,i',s'),⟨l,e,u,v',hl,hc,hs,hq,hT⟩=>
  rw [UN] at e hl
  subst e
  exact⟨Em,true,s',rfl,u,v',hl,(fun h=>by cases h),fun _=>⟨hc,hs,hq (a,b) (by simp [vG]),fun T cT sT pT=>hT T cT sT fun p hp=>by
   simp only [US,UC,VF,UB] at hp; subst hp; exact pT⟩⟩
structure Inv2 (s:ab):Prop where
 inv:Inv s
 cl:Cl s.aa (rp s.ae)
def oJ (s:ab)(l:List Int):Bool:=l.all fun n=>decide (Rg s.aa.length n)
theorem Ep {a b:Int}(h:oJ s [a,b]=true):Rg s.aa.length a∧Rg s.aa.length b:=by
 simpa [oJ] using h
theorem Gn (hm:2000000≤m)(v:Inv2 s)(a b:Int):∃l e s',cV.f m s a b=some (l,e,s')∧Inv2 s'∧s'.aj=s.aj∧s'.aa=s.aa∧
  ((oJ s [a,b]=false∧e=1∧s'=s)∨
   (oJ s [a,b]=true∧e=8∧s'=s∧∀T,Cl s.aa T→gM s.aa (rp s.ae) T→T a=T b→False)∨
   (oJ s [a,b]=true∧e=0∧gM s.aa (rp s.ae) (rp s'.ae)∧rp s'.ae a=rp s'.ae b∧∀T,Cl s.aa T→gM s.aa (rp s.ae) T→T a=T b→gM s.aa (rp s'.ae) T)):=by
 unfold cV.f
 rw [vp hm v.inv.made [a,b] (by simp)]
 show ∃l e s',((some (if oJ s [a,b]=true then (0:Int) else 1)).bind _)=_∧_
 rw [Ua]
 cases hn:oJ s [a,b] with
 | false=>
  refine⟨[],1,s,by simp,v,rfl,rfl,.inl ⟨rfl,rfl,rfl⟩⟩
 | true=>
  obtain⟨ra,rb⟩:=Ep hn
  obtain⟨l,ok,s',e,u,v',hl,h1,h2⟩:=xi hm v.inv v.cl ra rb
  have e0:(!((if true=true then (0:Int) else 1)==0))=false:=rfl
  rw [e0,if_neg (by decide),e,Ua]
  cases ok with
  | false=>
   rw [if_pos (show (!(l,false,s').2.1)=true from rfl)]
   simp only [En (m:=m) (by omega) hl u,Ua]
   exact⟨_,_,s,rfl,v,rfl,rfl,.inr (.inl ⟨by simp,rfl,rfl,h1 rfl⟩)⟩
  | true=>
   rw [if_neg (show ¬(!(l,true,s').2.1)=true by simp)]
   have eN:s'.aa=s.aa:=u.2.1
   simp only []
   rw [AT hm hl (fun n hn=>by rw [eN,←v.inv.len]; exact (u.2.2.2.1 n hn).1)]
   obtain⟨k1,k2,k3,k4⟩:=h2 rfl
   exact⟨_,_,s',rfl,⟨v',by rw [eN]; exact k1⟩,u.1,eN,.inr (.inr ⟨by simp,rfl,k2,k3,k4⟩)⟩
theorem I0 (hm:2000000≤m)(v:Inv2 s)(a b:Int):∃t l e,dm.f m s a b=some (t,l,e,s):=by
 unfold dm.f
 rw [vp hm v.inv.made [a,b] (by simp)]
 show ∃t l e,((some (if oJ s [a,b]=true then (0:Int) else 1)).bind _)=_
 rw [Ua]
 cases hn:oJ s [a,b] with
 | false=>exact⟨0,[],1,by simp⟩
 | true=>
  obtain⟨ra,rb⟩:=Ep hn
  obtain⟨l,ok,s',e,u,v',hl,h1,h2⟩:=xi hm v.inv v.cl ra rb
  have e0:(!((if true=true then (0:Int) else 1)==0))=false:=rfl
  rw [e0,if_neg (by decide),e,Ua]
  simp only [En (m:=m) (by omega) hl u,Ua]
  rw [AT hm hl (fun n hn=>by rw [←v.inv.len]; exact (u.2.2.2.1 n hn).1)]
  simp only [Ua]
  cases ok with
  | false=>exact⟨0,[],0,by simp⟩
  | true=>
   rw [if_neg (by simp)]
   split
   ·exact⟨_,_,_,rfl⟩
   ·exact⟨_,_,_,rfl⟩
end
end Go.Proofs.Ytifafejidnjckaa
namespace Go.R
open Go
open Go.IntKind (i64 u64 u8 u32)
theorem Er (x:Int):u64.wrap x=x % 18446744073709551616:=by
 unfold IntKind.wrap; simp [IntKind.signed,IntKind.bits]
theorem I1 {x:Int}(h0:0≤x)(h1:x<18446744073709551616):u64.wrap x=x:=by
 rw [Er,Int.emod_eq_of_lt h0 h1]
theorem Es (x:Int):i64.wrap x=if x % 18446744073709551616≥9223372036854775808 then x % 18446744073709551616 - 18446744073709551616 else x % 18446744073709551616:=by
 unfold IntKind.wrap; simp [IntKind.signed,IntKind.bits]
theorem bE {x:Int}(h0 : -9223372036854775808≤x)(h1:x<9223372036854775808):i64.wrap x=x:=by
 rw [Es]; split<;>omega
end Go.R
namespace Go.Proofs.Ytifafejidnjckaa
open Go Go.R
open Go.IntKind (i64 u64 u8 u32)
def gt (l:List Int)(k:Nat):Int:=l.getD k 0
theorem dZ {l:List Int}{k:Nat}(h:k<l.length):l[k]? = some (gt l k):=by
 unfold gt; rw [Uw,Uj h]; rfl
theorem bN {l:List Int}{k:Nat}(h:k<l.length):gt l k∈l:=Ut (dZ h)
theorem fo {l:List Int}{k:Nat}(h:k<l.length):ix l (k:Int)=some (gt l k):=by
 unfold ix; rw [if_pos (by omega),Un,dZ h]
theorem yT {l:List Int}{i:Int}{k:Nat}(hi:i=(k:Int))(h:k<l.length):ix l i=some (gt l k):=by rw [hi,fo h]
theorem pz {l:List Int}{i k:Nat}{x:Int}(hi:i<l.length):gt (l.set i x) k=if k=i then x else gt l k:=by
 unfold gt
 simp only [Uw,VD]
 by_cases h:i=k
 ·subst h; simp [hi]
 ·rw [if_neg h,if_neg (by omega)]
theorem I2 {l r:List Int}(hl:l.length=r.length)(h:∀k,k<l.length→gt l k=gt r k):l=r:=by
 apply VC fun k=>?_
 by_cases hk:k<l.length
 ·rw [dZ hk,dZ (hl ▸ hk),h k hk]
 ·rw [UJ (by omega),UJ (by omega)]
def swp (l:List Int)(i j:Nat):List Int:=(l.set i (gt l j)).set j (gt l i)
theorem oK {l:List Int}{i j:Nat}(hi:i<l.length)(hj:j<l.length):(swp l i j).Perm l:=by
 have h1:gt l j=l[j]:=by have:=dZ hj; rw [Uj hj] at this; exact (UX this).symm
 have h2:gt l i=l[i]:=by have:=dZ hi; rw [Uj hi] at this; exact (UX this).symm
 unfold swp; rw [h1,h2]; exact List.set_set_perm hi hj
theorem ls {l:List Int}{i j k:Nat}(hi:i<l.length)(hj:j<l.length):gt (swp l i j) k=if k=j then gt l i else if k=i then gt l j else gt l k:=by
 unfold swp
 rw [pz (by simpa using hj),pz hi]
theorem ss {l:List Int}{i j:Nat}:(swp l i j).length=l.length:=by simp [swp]
theorem xj {a b:Nat}(h:a+b<9223372036854775808):i64.wrap (iR .u64 (u64.wrap (i64.wrap ((a:Int)+(b:Int)))) 1)=(((a+b) / 2:Nat):Int):=by
 rw [bE (x:=(a:Int)+b) (by omega) (by omega),I1 (by omega) (by omega)]
 have:iR .u64 ((a:Int)+(b:Int)) 1=(((a+b) / 2:Nat):Int):=by
  unfold iR
  rw [Int.fdiv_eq_ediv_of_nonneg _ (by decide)]
  show ((a:Int)+(b:Int)) / 2=_
  omega
 rw [this,bE (by omega) (by omega)]
theorem Et {m:Nat}{l:List Int}{a b n:Nat}(h1:a+n≤b)(h2:b+n≤l.length)(hl:l.length<2 ^ 40):∀(f i:Nat) (d:List Int),n - i<f→i≤n→d.Perm l→
  (∀k,gt d k=if a≤k∧k<a+i then gt l (k - a+b) else if b≤k∧k<b+i then gt l (k - b+a) else gt l k)→
  ∃d' x,bR.l0 m (a:Int) (b:Int) (n:Int) f d (i:Int)=some (d',x)∧d'.Perm l∧(∀k,gt d' k=if a≤k∧k<a+n then gt l (k - a+b) else if b≤k∧k<b+n then gt l (k - b+a) else gt l k)
 | 0,i,d,hf,_,_,_=>absurd hf (by omega)
 | f+1,i,d,hf,hi,hp,hg=>by
  have sG:(2:Nat) ^ 40=1099511627776:=by decide
  have OP:=hp.length_eq
  unfold bR.l0
  by_cases h:i<n
  ·have e1:i64.wrap ((b:Int)+(i:Int))=((b+i:Nat):Int):=by rw [bE (by omega) (by omega)]; omega
   have e2:i64.wrap ((a:Int)+(i:Int))=((a+i:Nat):Int):=by rw [bE (by omega) (by omega)]; omega
   have e3:i64.wrap ((i:Int)+1)=((i+1:Nat):Int):=by rw [bE (by omega) (by omega)]; omega
   rw [if_pos (by simp; omega),e1,e2,e3,fo (by omega),fo (by omega),Un,Un,Ua,Ua,Ua,fo (by simp; omega),Ua]
   show ∃d' x,bR.l0 m (a:Int) (b:Int) (n:Int) f (swp d (a+i) (b+i)) ((i+1:Nat):Int)=some (d',x)∧_
   refine Et h1 h2 hl f (i+1) _ (by omega) (by omega) ((oK (by omega) (by omega)).trans hp) fun k=>?_
   rw [ls (by omega) (by omega),hg,hg,hg]
   by_cases k1:k=b+i
   ·subst k1
    rw [if_pos rfl,if_neg (by omega),if_neg (by omega),if_neg (by omega),if_pos (by omega)]
    congr 1; omega
   ·rw [if_neg k1]
    by_cases k2:k=a+i
    ·subst k2
     rw [if_pos rfl,if_neg (by omega),if_neg (by omega),if_pos (by omega)]
     congr 1; omega
    ·rw [if_neg k2]
     by_cases k3:a≤k∧k<a+i
     ·rw [if_pos k3,if_pos (by omega)]
     ·rw [if_neg k3,if_neg (show ¬(a≤k∧k<a+(i+1)) by omega)]
      by_cases k4:b≤k∧k<b+i
      ·rw [if_pos k4,if_pos (by omega)]
      ·rw [if_neg k4,if_neg (by omega)]
  ·have:i=n:=by omega
   subst this
   exact⟨d,i,by rw [if_neg (by simp)],hp,hg⟩
theorem su {m:Nat}{l:List Int}{a b n:Nat}{cmp:Int→Int→Option Int}(h1:a+n≤b)(h2:b+n≤l.length)(hl:l.length<2 ^ 40)(hm:n<m) :
  ∃d',bR.f m l (a:Int) (b:Int) (n:Int) cmp=some d'∧d'.Perm l∧(∀k,gt d' k=if a≤k∧k<a+n then gt l (k - a+b) else if b≤k∧k<b+n then gt l (k - b+a) else gt l k):=by
 obtain⟨d',x,e,hp,hg⟩:=Et (m:=m) h1 h2 hl m 0 l (by omega) (by omega) (List.Perm.refl _) (fun k=>by rw [if_neg (by omega),if_neg (by omega)])
 have e:bR.l0 m (a:Int) (b:Int) (n:Int) m l 0=_:=e
 exact⟨d',by unfold bR.f; rw [e]; rfl,hp,hg⟩
def Jy (l d:List Int)(p i j:Nat):Prop:=d.Perm l∧(∀k,k<j→gt d (p+k)=gt l (p+i+k))∧(∀k,k<i→gt d (p+j+k)=gt l (p+k))∧∀k,k<p∨p+i+j≤k→gt d k=gt l k
theorem yU {m:Nat}{q:Nat}{cmp:Int→Int→Option Int}(hm:2 ^ 41≤m):∀(f i j:Nat) (l:List Int),i+j<f→0<i→0<j→i≤q→q+j≤l.length→l.length<2 ^ 40→
  ∃(d':List Int) (x:Nat) (d:List Int),eJ.l0 m (q:Int) cmp f l (i:Int) (j:Int)=some (d',(x:Int),(x:Int))∧bR.f m d' (i64.wrap ((q:Int) - (x:Int))) (q:Int) (x:Int) cmp=some d∧Jy l d (q - i) i j
 | 0,i,j,l,hf,_,_,_,_,_=>absurd hf (by omega)
 | f+1,i,j,l,hf,hi,hj,hq,hl,hs=>by
  have sG:(2:Nat) ^ 40=1099511627776:=by decide
  have xk:(2:Nat) ^ 41=2199023255552:=by decide
  unfold eJ.l0
  have e1:i64.wrap ((q:Int) - (i:Int))=((q - i:Nat):Int):=by rw [bE (by omega) (by omega)]; omega
  by_cases h:i=j
  ·subst h
   rw [if_neg (by simp)]
   obtain⟨d,e,hp,hg⟩:=su (m:=m) (l:=l) (a:=q - i) (b:=q) (n:=i) (cmp:=cmp) (by omega) (by omega) hs (by omega)
   refine⟨l,i,d,rfl,by rw [e1,e],hp,fun k hk=>?_,fun k hk=>?_,fun k hk=>?_⟩
   ·rw [hg,if_pos (by omega)]; congr 1; omega
   ·rw [hg,if_neg (by omega),if_pos (by omega)]; congr 1; omega
   ·rw [hg,if_neg (by omega),if_neg (by omega)]
  ·rw [if_pos (by simp; omega)]
   by_cases h2:j<i
   ·obtain⟨d1,e,hp,hg⟩:=su (m:=m) (l:=l) (a:=q - i) (b:=q) (n:=j) (cmp:=cmp) (by omega) (by omega) hs (by omega)
    have hd:=hp.length_eq
    have e2:i64.wrap ((i:Int) - (j:Int))=((i - j:Nat):Int):=by rw [bE (by omega) (by omega)]; omega
    rw [if_pos (by simp; omega),e1,e,Ua,e2]
    obtain⟨d',x,d,k1,k2,k3,k4,k5,k6⟩:=yU (q:=q) (cmp:=cmp) hm f (i - j) j d1 (by omega) (by omega) hj (by omega) (by omega) (by omega)
    refine⟨d',x,d,k1,k2,k3.trans hp,fun k hk=>?_,fun k hk=>?_,fun k hk=>?_⟩
    ·rw [k6 _ (by omega),hg,if_pos (by omega)]; congr 1; omega
    ·by_cases OQ:k<j
     ·have:=k4 k OQ
      rw [show q - (i - j)+k=q - i+j+k by omega,hg,if_neg (by omega),if_pos (by omega)] at this
      rw [this]; congr 1; omega
     ·have:=k5 (k - j) (by omega)
      rw [show q - (i - j)+j+(k - j)=q - i+j+k by omega,hg,if_neg (by omega),if_neg (by omega)] at this
      rw [this]; congr 1; omega
    ·rw [k6 _ (by omega),hg,if_neg (by omega),if_neg (by omega)]
   ·have e2:i64.wrap (i64.wrap ((q:Int)+(j:Int)) - (i:Int))=((q+j - i:Nat):Int):=by rw [bE (x:=(q:Int)+j) (by omega) (by omega),bE (by omega) (by omega)]; omega
    have e3:i64.wrap ((j:Int) - (i:Int))=((j - i:Nat):Int):=by rw [bE (by omega) (by omega)]; omega
    obtain⟨d1,e,hp,hg⟩:=su (m:=m) (l:=l) (a:=q - i) (b:=q+j - i) (n:=i) (cmp:=cmp) (by omega) (by omega) hs (by omega)
    have hd:=hp.length_eq
    rw [if_neg (by simp; omega),e1,e2,e,Ua,e3]
    obtain⟨d',x,d,k1,k2,k3,k4,k5,k6⟩:=yU (q:=q) (cmp:=cmp) hm f i (j - i) d1 (by omega) hi (by omega) hq (by omega) (by omega)
    refine⟨d',x,d,k1,k2,k3.trans hp,fun k hk=>?_,fun k hk=>?_,fun k hk=>?_⟩
    ·by_cases OQ:k<j - i
     ·rw [k4 k OQ,hg,if_neg (by omega),if_neg (by omega)]
     ·have:=k5 (k - (j - i)) (by omega)
      rw [show q - i+(j - i)+(k - (j - i))=q - i+k by omega,hg,if_pos (by omega)] at this
      rw [this]; congr 1; omega
    ·rw [k6 _ (by omega),hg,if_neg (by omega),if_pos (by omega)]; congr 1; omega
    ·rw [k6 _ (by omega),hg,if_neg (by omega),if_neg (by omega)]
theorem Eu {m:Nat}{a q b:Nat}{cmp:Int→Int→Option Int}{l:List Int}(hm:2 ^ 41≤m)(h1:a<q)(h2:q<b)(h3:b≤l.length)(hs:l.length<2 ^ 40) :
  ∃d,eJ.f m l (a:Int) (q:Int) (b:Int) cmp=some d∧Jy l d a (q - a) (b - q):=by
 have sG:(2:Nat) ^ 40=1099511627776:=by decide
 have xk:(2:Nat) ^ 41=2199023255552:=by decide
 obtain⟨d',x,d,k1,k2,k3⟩:=yU (q:=q) (cmp:=cmp) hm m (q - a) (b - q) l (by omega) (by omega) (by omega) (by omega) (by omega) hs
 rw [show q - (q - a)=a by omega] at k3
 refine⟨d,?_,k3⟩
 unfold eJ.f
 rw [show i64.wrap ((q:Int) - (a:Int))=((q - a:Nat):Int) by rw [bE (by omega) (by omega)]; omega,show i64.wrap ((b:Int) - (q:Int))=((b - q:Nat):Int) by rw [bE (by omega) (by omega)]; omega,k1,Ua]
 dsimp only
 rw [k2]; rfl
end Go.Proofs.Ytifafejidnjckaa
namespace Go.Proofs.Ytifafejidnjckaa
open Go Go.R
open Go.IntKind (i64 u64 u8 u32)
def mN (c:Int):Bool:=decide (97≤c∧c≤122)||decide (65≤c∧c≤90)||decide (48≤c∧c≤57)||c==95
theorem xl {m:Nat}(c:Int):fA.f m c=some (mN c):=by
 unfold fA.f
 by_cases h1:97≤c<;>by_cases h2:c≤122<;>by_cases h3:65≤c<;>by_cases h4:c≤90<;>by_cases h5:48≤c<;>by_cases h6:c≤57<;>simp [mN,h1,h2,h3,h4,h5,h6]<;>omega
theorem AU {s:ByteArray}{i:Nat}(h:i<s.size):∃c:UInt8,s.data.toList[i]? = some c∧bt s (i:Int)=some (c.toNat:Int):=by
 have h':i<s.data.toList.length:=by simpa using h
 refine⟨s.data.toList[i],Uj h',?_⟩
 unfold bt; rw [if_pos (by omega),Un,Uj h']; rfl
theorem AW {m:Nat}{s:ByteArray}(hs:s.size≤16):∀(f i:Nat),s.size - i<f→i≤s.size→
  ∃o,cE.l0 m s f (i:Int)=some o∧((∃x,o = .inr x)∧((s.data.toList.drop i).all fun c=>mN (c.toNat:Int))=true∨o = .inl false∧((s.data.toList.drop i).all fun c=>mN (c.toNat:Int))=false)
 | 0,i,hf,_=>absurd hf (by omega)
 | f+1,i,hf,hi=>by
  unfold cE.l0
  by_cases h:i<s.size
  ·obtain⟨c,hc,hb⟩:=AU h
   obtain⟨h4,h5⟩:=Uh.1 hc
   have hd:s.data.toList.drop i=c::s.data.toList.drop (i+1):=by rw [←h5]; exact Uo h4
   rw [if_pos (by simp only [decide_eq_true_eq]; omega),hb,Ua,xl,Ua,hd,UZ]
   cases hl:mN (c.toNat:Int) with
   | false=>exact⟨_,rfl,.inr ⟨rfl,rfl⟩⟩
   | true=>
    obtain⟨o,h1,h2⟩:=AW (m:=m) hs f (i+1) (by omega) (by omega)
    rw [if_neg (by simp),bE (by omega) (by omega),show (i:Int)+1=((i+1:Nat):Int) by omega,h1]
    exact⟨o,rfl,by simpa using h2⟩
  ·refine⟨_,by rw [if_neg (by simp only [decide_eq_true_eq]; omega)],.inl ⟨⟨_,rfl⟩,?_⟩⟩
   rw [Vq (by simp; omega)]; rfl
def AX (s:ByteArray)(lo hi:Int):Bool:=match s.data.toList with
 | []=>false
 | c::cs=>decide (cs.length≤15)&&decide (lo≤(c.toNat:Int))&&decide ((c.toNat:Int)≤hi)&&((c::cs).all fun c=>mN (c.toNat:Int))
theorem B9 {m:Nat}(hm:20≤m)(s:ByteArray)(lo hi:Int):cE.f m s lo hi=some (AX s lo hi):=by
 have hsz:s.size=s.data.toList.length:=by simp
 unfold cE.f AX
 cases hl:s.data.toList with
 | nil=>rw [if_pos (by rw [hl,UD] at hsz; simp only [decide_eq_true_eq]; omega)]
 | cons c cs=>
  rw [hl,Up] at hsz
  rw [if_neg (by simp only [decide_eq_true_eq]; omega)]
  dsimp only
  by_cases h16:cs.length≤15
  ·obtain⟨c',h1,h2⟩:=AU (s:=s) (i:=0) (by omega)
   rw [hl] at h1
   simp only [UR,Uc] at h1
   subst h1
   have h2:bt s 0=_:=h2
   rw [if_neg (by simp only [decide_eq_true_eq]; omega),h2,Ua]
   by_cases h3:(c.toNat:Int)<lo
   ·rw [if_pos (by simpa using h3)]
    simp only [Uc]
    rw [show decide (lo≤(c.toNat:Int))=false by simp; omega]; simp
   rw [if_neg (by simpa using h3),Ua]
   by_cases h4:(c.toNat:Int) > hi
   ·rw [if_pos (by simpa using h4)]
    simp only [Uc]
    rw [show decide ((c.toNat:Int)≤hi)=false by simp; omega]; simp
   rw [if_neg (by simpa using h4)]
   obtain⟨o,k1,k2⟩:=AW (m:=m) (s:=s) (by omega) m 0 (by omega) (by omega)
   have k1:cE.l0 m s m 0=_:=k1
   rw [k1,Ua]
   rw [US,hl] at k2
   rw [show decide (lo≤(c.toNat:Int))=true by simp; omega,show decide ((c.toNat:Int)≤hi)=true by simp; omega,show decide (cs.length≤15)=true by simpa using h16]
   simp only [VI]
   rcases k2 with⟨⟨x,rfl⟩,k⟩| ⟨rfl,k⟩
   ·rw [k]
   ·rw [k]
  ·rw [if_pos (by simp only [decide_eq_true_eq]; omega),show decide (cs.length≤15)=false by simp; omega]; rfl
def oL (s:ByteArray):Bool:=s.data.toList==[124]||s.data.toList==[35]||AX s 97 122
theorem mO {m:Nat}(hm:20≤m)(s:ByteArray):fi.f m s=some (oL s):=by
 unfold fi.f oL
 show (if (s.data.toList==[124])=true then _ else if (s.data.toList==[35])=true then _ else _)=_
 cases h1:s.data.toList==[124] with
 | true=>rfl
 | false=>
  cases h2:s.data.toList==[35] with
  | true=>rfl
  | false=>rw [B9 hm]; rfl
theorem tR {s:ByteArray}(h:oL s=true):1≤s.size∧s.size≤16:=by
 have hsz:s.size=s.data.toList.length:=by simp
 unfold oL at h
 simp only [UW,beq_iff_eq] at h
 rcases h with (h | h) | h
 ·rw [h] at hsz; simp at hsz; omega
 ·rw [h] at hsz; simp at hsz; omega
 ·unfold AX at h
  split at h
  ·cases h
  ·rename_i c cs hl
   rw [hl] at hsz
   simp only [Ud,decide_eq_true_eq] at h
   simp at hsz; omega
def AY (s:ByteArray):Bool:=s.data.toList==[112,114,111,99]||s.data.toList==[99,101,108,108]||s.data.toList==[112,111,114,116]
theorem tS {m:Nat}(s:ByteArray):fG.f m s=some (AY s):=by
 unfold fG.f AY
 show (if (s.data.toList==[112,114,111,99])=true then _ else if (s.data.toList==[99,101,108,108])=true then _ else some (s.data.toList==[112,111,114,116]))=_
 cases h1:s.data.toList==[112,114,111,99] with
 | true=>rfl
 | false=>
  cases h2:s.data.toList==[99,101,108,108] with
  | true=>rfl
  | false=>rfl
theorem Ev {m:Nat}{s:List Int}{f0:Int→Option Bool}{g:Int→Bool}(hs:s.length<2 ^ 40)(C:∀x∈s,f0 x=some (g x)):∀(f i:Nat),s.length - i<f→i≤s.length→
  ∃o,cu.l0 m s f0 f (i:Int)=some o∧((∃x,o = .inr x)∧(s.drop i).any g=false∨(∃x:Nat,o = .inl (x:Int))∧(s.drop i).any g=true)
 | 0,i,hf,_=>absurd hf (by omega)
 | f+1,i,hf,hi=>by
  have sG:(2:Nat) ^ 40=1099511627776:=by decide
  unfold cu.l0
  by_cases h:i<s.length
  ·have hx:ix s (i:Int)=some s[i]:=by unfold ix; rw [if_pos (by omega)]; simp [h]
   rw [if_pos (by simp only [decide_eq_true_eq]; omega),hx,Ua,C _ (List.getElem_mem h),Ua,Uo h,List.any_cons]
   cases g s[i] with
   | true=>exact⟨_,rfl,.inr ⟨⟨i,rfl⟩,rfl⟩⟩
   | false=>
    obtain⟨o,h1,h2⟩:=Ev (m:=m) hs C f (i+1) (by omega) (by omega)
    rw [if_neg (by simp),bE (by omega) (by omega),show (i:Int)+1=((i+1:Nat):Int) by omega,h1]
    exact⟨o,rfl,by simpa using h2⟩
  ·refine⟨_,by rw [if_neg (by simp only [decide_eq_true_eq]; omega)],.inl ⟨⟨_,rfl⟩,?_⟩⟩
   rw [Vq (by omega)]; rfl
theorem Ca {m:Nat}{s:List Int}{f0:Int→Option Bool}{g:Int→Bool}(hs:s.length<2 ^ 40)(hm:s.length<m)(C:∀x∈s,f0 x=some (g x)):ei.f m s f0=some (s.any g):=by
 obtain⟨o,h1,h2⟩:=Ev (m:=m) hs C m 0 (by omega) (by omega)
 have h1:cu.l0 m s f0 m 0=_:=h1
 unfold ei.f cu.f
 rw [h1,Ua]
 rw [US] at h2
 rcases h2 with⟨⟨x,rfl⟩,k⟩| ⟨⟨x,rfl⟩,k⟩
 ·rw [k]; rfl
 ·rw [k]
  simp only [Ua,Uc]
  simp
theorem Ew {m:Nat}{s:List ao}{f0:ao→Option Bool}{g:ao→Bool}(hs:s.length<2 ^ 40)(C:∀x∈s,f0 x=some (g x)):∀(f i:Nat),s.length - i<f→i≤s.length→
  ∃o,eH.l0 m s f0 f (i:Int)=some o∧((∃x,o = .inr x)∧(s.drop i).any g=false∨(∃x:Nat,o = .inl (x:Int))∧(s.drop i).any g=true)
 | 0,i,hf,_=>absurd hf (by omega)
 | f+1,i,hf,hi=>by
  have sG:(2:Nat) ^ 40=1099511627776:=by decide
  unfold eH.l0
  by_cases h:i<s.length
  ·have hx:ix s (i:Int)=some s[i]:=by unfold ix; rw [if_pos (by omega)]; simp [h]
   rw [if_pos (by simp only [decide_eq_true_eq]; omega),hx,Ua,C _ (List.getElem_mem h),Ua,Uo h,List.any_cons]
   cases g s[i] with
   | true=>exact⟨_,rfl,.inr ⟨⟨i,rfl⟩,rfl⟩⟩
   | false=>
    obtain⟨o,h1,h2⟩:=Ew (m:=m) hs C f (i+1) (by omega) (by omega)
    rw [if_neg (by simp),bE (by omega) (by omega),show (i:Int)+1=((i+1:Nat):Int) by omega,h1]
    exact⟨o,rfl,by simpa using h2⟩
  ·refine⟨_,by rw [if_neg (by simp only [decide_eq_true_eq]; omega)],.inl ⟨⟨_,rfl⟩,?_⟩⟩
   rw [Vq (by omega)]; rfl
theorem Cb {m:Nat}{s:List ao}{f0:ao→Option Bool}{g:ao→Bool}(hs:s.length<2 ^ 40)(hm:s.length<m)(C:∀x∈s,f0 x=some (g x)):gz.f m s f0=some (s.any g):=by
 obtain⟨o,h1,h2⟩:=Ew (m:=m) hs C m 0 (by omega) (by omega)
 have h1:eH.l0 m s f0 m 0=_:=h1
 unfold gz.f eH.f
 rw [h1,Ua]
 rw [US] at h2
 rcases h2 with⟨⟨x,rfl⟩,k⟩| ⟨⟨x,rfl⟩,k⟩
 ·rw [k]; rfl
 ·rw [k]
  simp only [Ua,Uc]
  simp
def oM (n:ao)(size:Int):Bool:=
 if n.kind=0 then decide (0≤n.int)&&n.label.data.toList==[]&&n.args.isEmpty
 else if n.kind=1 then decide (-1099511627776≤n.int)&&decide (n.int≤1099511627776)&&n.label.data.toList==[]&&n.args.isEmpty
 else if n.kind=2 then n.int==0&&oL n.label&&n.args.isEmpty
 else if n.kind=3 then n.int==0&&oL n.label&&decide (1≤n.args.length)&&decide (n.args.length≤8)&&n.args.all fun a=>decide (0≤a)&&decide (a<size)
 else if n.kind=4 then decide (0≤n.int)&&AY n.label&&n.args.isEmpty
 else false
theorem Gp (l:List Int):((l.length:Int)==(0:Int))=l.isEmpty:=by cases l<;>simp; omega
theorem Cc {m:Nat}(hm:20≤m)(n:ao)(size:Int):hY.f m n size=some (oM n size):=by
 unfold hY.f oM
 by_cases k0:n.kind=0
 ·rw [if_pos (by simpa using k0),if_pos k0]
  by_cases h1:0≤n.int
  ·rw [if_pos (by simpa using h1),show decide (0≤n.int)=true by simpa using h1]
   show (if (n.label.data.toList==[])=true then _ else _)=_
   cases n.label.data.toList==[] with
   | true=>rw [if_pos rfl,Gp]; rfl
   | false=>rfl
  ·rw [if_neg (by simpa using h1),show decide (0≤n.int)=false by simp; omega]; rfl
 rw [if_neg (by simpa using k0),if_neg k0]
 by_cases k1:n.kind=1
 ·rw [if_pos (by simpa using k1),if_pos k1]
  by_cases h1 : -1099511627776≤n.int
  ·rw [if_pos (by simpa using h1),show decide (-1099511627776≤n.int)=true by simpa using h1]
   by_cases h3:n.int≤1099511627776
   ·rw [if_pos (by simpa using h3),show decide (n.int≤1099511627776)=true by simpa using h3]
    show (if (n.label.data.toList==[])=true then _ else _)=_
    cases n.label.data.toList==[] with
    | true=>rw [if_pos rfl,Gp]; rfl
    | false=>rfl
   ·rw [if_neg (by simpa using h3),show decide (n.int≤1099511627776)=false by simp; omega]; rfl
  ·rw [if_neg (by simpa using h1),show decide (-1099511627776≤n.int)=false by simp; omega]; rfl
 rw [if_neg (by simpa using k1),if_neg k1]
 by_cases k2:n.kind=2
 ·rw [if_pos (by simpa using k2),if_pos k2]
  cases h1:n.int==0 with
  | false=>rfl
  | true=>
   rw [if_pos rfl,mO hm,Ua]
   cases oL n.label with
   | false=>rfl
   | true=>rw [if_pos rfl,Gp]; rfl
 rw [if_neg (by simpa using k2),if_neg k2]
 by_cases k3:n.kind=3
 ·rw [if_pos (by simpa using k3),if_pos k3]
  cases h1:n.int==0 with
  | false=>rfl
  | true=>
   rw [if_pos rfl,mO hm,Ua]
   cases oL n.label with
   | false=>rfl
   | true=>
    rw [if_pos rfl]
    by_cases g1:1≤n.args.length
    ·rw [if_pos (by simp only [decide_eq_true_eq]; omega),show decide (1≤n.args.length)=true by simpa using g1]
     by_cases g2:n.args.length≤8
     ·rw [if_pos (by simp only [decide_eq_true_eq]; omega),show decide (n.args.length≤8)=true by simpa using g2]
      rw [Ca (g:=fun a=>!(decide (0≤a)&&decide (a<size))) (by omega) (by omega) (fun a _=>by
       unfold gx.f
       by_cases w:a<0
       ·rw [if_pos (by simpa using w),show decide (0≤a)=false by simp; omega]; rfl
       ·rw [if_neg (by simpa using w),show decide (0≤a)=true by simp; omega]
        by_cases w2:a<size
        ·rw [show decide (a≥size)=false from decide_eq_false (by omega),show decide (a<size)=true from decide_eq_true w2]; rfl
        ·rw [show decide (a≥size)=true from decide_eq_true (by omega),show decide (a<size)=false from decide_eq_false w2]; rfl),Ua]
      simp [List.not_any_eq_all_not]
     ·rw [if_neg (by simp only [decide_eq_true_eq]; omega),show decide (n.args.length≤8)=false from decide_eq_false g2]; rfl
    ·rw [if_neg (by simp only [decide_eq_true_eq]; omega),show decide (1≤n.args.length)=false from decide_eq_false g1]; rfl
 rw [if_neg (by simpa using k3),if_neg k3]
 by_cases k4:n.kind=4
 ·rw [if_pos (by simpa using k4),if_pos k4]
  by_cases h1:0≤n.int
  ·rw [if_pos (by simpa using h1),show decide (0≤n.int)=true by simpa using h1,tS,Ua]
   cases AY n.label with
   | false=>rfl
   | true=>rw [if_pos rfl,Gp]; rfl
  ·rw [if_neg (by simpa using h1),show decide (0≤n.int)=false by simp; omega]; rfl
 rw [if_neg (by simpa using k4),if_neg k4]
end Go.Proofs.Ytifafejidnjckaa
namespace Go.Proofs.Ytifafejidnjckaa
open Go Go.R
open Go.IntKind (i64 u64 u8 u32)
structure Mv (lo hi:Nat)(l d:List Int):Prop where
 perm:d.Perm l
 out:∀k,k<lo∨hi≤k→gt d k=gt l k
 im:∀k,lo≤k→k<hi→∃k',lo≤k'∧k'<hi∧gt d k=gt l k'
theorem Mv.refl {lo hi:Nat}{l:List Int}:Mv lo hi l l:=⟨List.Perm.refl _,fun _ _=>rfl,fun k h1 h2=>⟨k,h1,h2,rfl⟩⟩
theorem Mv.trans {lo hi:Nat}{l d e:List Int}(a:Mv lo hi l d)(b:Mv lo hi d e):Mv lo hi l e:=
 ⟨b.perm.trans a.perm,fun k hk=>(b.out k hk).trans (a.out k hk),fun k h1 h2=>by
  obtain⟨k',g1,g2,g3⟩:=b.im k h1 h2
  obtain⟨SI,g4,g5,g6⟩:=a.im k' g1 g2
  exact⟨SI,g4,g5,g3.trans g6⟩⟩
theorem Mv.length {lo hi:Nat}{l d:List Int}(a:Mv lo hi l d):d.length=l.length:=a.perm.length_eq
theorem Mv.wide {lo hi E8 jl:Nat}{l d:List Int}(a:Mv lo hi l d)(h1:E8≤lo)(h2:hi≤jl):Mv E8 jl l d:=
 ⟨a.perm,fun k hk=>a.out k (by omega),fun k h3 h4=>by
  by_cases h:lo≤k∧k<hi
  ·obtain⟨k',g1,g2,g3⟩:=a.im k h.1 h.2
   exact⟨k',by omega,by omega,g3⟩
  ·exact⟨k,h3,h4,a.out k (by omega)⟩⟩
theorem yV {lo hi i j:Nat}{l:List Int}(Ly:lo≤i)(ze:i<hi)(LP:lo≤j)(Fe:j<hi)(h:hi≤l.length):Mv lo hi l (swp l i j):=
 ⟨oK (by omega) (by omega),fun k hk=>by rw [ls (by omega) (by omega),if_neg (by omega),if_neg (by omega)],fun k h1 h2=>by
  rw [ls (by omega) (by omega)]
  split
  ·exact⟨i,Ly,ze,rfl⟩
  split
  ·exact⟨j,LP,Fe,rfl⟩
  ·exact⟨k,h1,h2,rfl⟩⟩
def Cm (cmp:Int→Int→Option Int)(c:Int→Int→Int)(l:List Int):Prop:=∀x∈l,∀y∈l,cmp x y=some (c x y)
theorem Cm.perm {cmp c l d}(h:Cm cmp c l)(p:List.Perm d l):Cm cmp c d:=fun x hx y hy=>h x (p.mem_iff.1 hx) y (p.mem_iff.1 hy)
theorem Cm.at {cmp c}{l:List Int}(h:Cm cmp c l){i j:Nat}(hi:i<l.length)(hj:j<l.length):cmp (gt l i) (gt l j)=some (c (gt l i) (gt l j)):=h _ (bN hi) _ (bN hj)
structure Ord (c:Int→Int→Int)(l:List Int):Prop where
 tr:∀x∈l,∀y∈l,∀z∈l,0≤c y x→0≤c z y→0≤c z x
 Jz:∀x∈l,∀y∈l,c x y<0→0≤c y x
theorem Ord.perm {c l d}(h:Ord c l)(p:List.Perm d l):Ord c d:=⟨fun x hx y hy z hz=>h.tr x (p.mem_iff.1 hx) y (p.mem_iff.1 hy) z (p.mem_iff.1 hz),fun x hx y hy=>h.Jz x (p.mem_iff.1 hx) y (p.mem_iff.1 hy)⟩
def Sg (c:Int→Int→Int)(l:List Int)(a b:Nat):Prop:=∀i j,a≤i→i<j→j<b→0≤c (gt l j) (gt l i)
theorem Ey {m:Nat}{a i:Nat}{cmp:Int→Int→Option Int}{c:Int→Int→Int}:∀(f j:Nat) (d:List Int),j - a<f→a≤j→j≤i→i<d.length→d.length<2 ^ 40→Cm cmp c d→
  ∃d' x,aU.l1 m (a:Int) cmp f d (j:Int)=some (d',x)∧Mv a (i+1) d d'∧
   (Ord c d→(∀x y,a≤x→x<y→y≤i→x≠j→y≠j→0≤c (gt d y) (gt d x))→(∀y,j<y→y≤i→0≤c (gt d y) (gt d j))→Sg c d' a (i+1))
 | 0,j,d,hf,_,_,_,_,_=>absurd hf (by omega)
 | f+1,j,d,hf,h1,h2,h3,hs,C=>by
  have sG:(2:Nat) ^ 40=1099511627776:=by decide
  unfold aU.l1
  by_cases h:a<j
  ·have e1:i64.wrap ((j:Int) - 1)=((j - 1:Nat):Int):=by rw [bE (by omega) (by omega)]; omega
   rw [if_pos (by simp; omega),e1,fo (by omega),fo (by omega),Ua,Ua,C.at (by omega) (by omega),Ua]
   by_cases hc:c (gt d j) (gt d (j - 1))<0
   ·rw [if_pos (by simpa using hc),Ua,Ua,Ua,Un,Un,fo (by simp; omega),Ua]
    obtain⟨d',x,k1,k2,k3⟩:=Ey (m:=m) (a:=a) (i:=i) (cmp:=cmp) (c:=c) f (j - 1) (swp d j (j - 1)) (by omega) (by omega) (by omega) (by rw [ss]; omega) (by rw [ss]; omega) (C.perm (oK (by omega) (by omega)))
    refine⟨d',x,k1,(yV (by omega) (by omega) (by omega) (by omega) (by omega)).trans k2,fun O g1 g2=>k3 (O.perm (oK (by omega) (by omega))) (fun x y x1 x2 x3 x4 x5=>?_) (fun y y1 y2=>?_)⟩
    ·rw [ls (by omega) (by omega),ls (by omega) (by omega),if_neg x5,if_neg x4]
     by_cases hy:y=j
     ·subst hy
      rw [if_pos rfl,if_neg (by omega)]
      exact g1 _ _ (by omega) (by omega) (by omega) (by omega) (by omega)
     ·rw [if_neg hy]
      by_cases hx:x=j
      ·subst hx
       rw [if_pos rfl]
       exact g1 _ _ (by omega) (by omega) (by omega) (by omega) (by omega)
      ·rw [if_neg hx]
       exact g1 _ _ (by omega) (by omega) (by omega) (by omega) (by omega)
    ·rw [ls (by omega) (by omega),ls (by omega) (by omega),if_neg (by omega),if_pos rfl]
     by_cases hy:y=j
     ·subst hy
      rw [if_pos rfl]
      exact O.Jz _ (bN (by omega)) _ (bN (by omega)) hc
     ·rw [if_neg hy]
      exact g2 _ (by omega) (by omega)
   ·rw [if_neg (by simpa using hc)]
    refine⟨d,j,rfl,Mv.refl,fun O g1 g2 x y x1 x2 x3=>?_⟩
    have hc:0≤c (gt d j) (gt d (j - 1)):=by omega
    by_cases hx:x=j
    ·subst hx; exact g2 _ x2 (by omega)
    ·by_cases hy:y=j
     ·subst hy
      by_cases hx1:x=y - 1
      ·subst hx1; exact hc
      ·exact O.tr _ (bN (by omega)) (gt d (y - 1)) (bN (by omega)) _ (bN (by omega)) (g1 _ _ x1 (by omega) (by omega) hx (by omega)) hc
     ·exact g1 _ _ x1 x2 (by omega) hx hy
  ·have:j=a:=by omega
   subst this
   rw [if_neg (by simp)]
   refine⟨d,j,rfl,Mv.refl,fun O g1 g2 x y x1 x2 x3=>?_⟩
   by_cases hx:x=j
   ·subst hx; exact g2 _ x2 (by omega)
   ·exact g1 _ _ x1 x2 (by omega) hx (by omega)
theorem Ez {m:Nat}{a b:Nat}{cmp:Int→Int→Option Int}{c:Int→Int→Int}(hm:2 ^ 41≤m):∀(f i:Nat) (d:List Int),b - i<f→a<i→b≤d.length→d.length<2 ^ 40→Cm cmp c d→
  ∃d' x,aU.l0 m (a:Int) (b:Int) cmp f d (i:Int)=some (d',x)∧Mv a b d d'∧(Ord c d→Sg c d a i→Sg c d' a b)
 | 0,i,d,hf,_,_,_,_=>absurd hf (by omega)
 | f+1,i,d,hf,h1,h2,hs,C=>by
  have sG:(2:Nat) ^ 40=1099511627776:=by decide
  have xk:(2:Nat) ^ 41=2199023255552:=by decide
  unfold aU.l0
  by_cases h:i<b
  ·obtain⟨d1,x1,k1,k2,k3⟩:=Ey (m:=m) (a:=a) (i:=i) (cmp:=cmp) (c:=c) m i d (by omega) (by omega) (by omega) (by omega) hs C
   have e3:i64.wrap ((i:Int)+1)=((i+1:Nat):Int):=by rw [bE (by omega) (by omega)]; omega
   rw [if_pos (by simp; omega),k1,Ua]
   dsimp only
   rw [e3]
   have hl:=k2.length
   obtain⟨d',x,g1,g2,g3⟩:=Ez (a:=a) (b:=b) (cmp:=cmp) (c:=c) hm f (i+1) d1 (by omega) (by omega) (by omega) (by omega) (C.perm k2.perm)
   exact⟨d',x,g1,(k2.wide (Ue _) (by omega)).trans g2,fun O S=>g3 (O.perm k2.perm) (k3 O (fun x y q1 q2 q3 q4 q5=>S x y q1 q2 (by omega)) (fun y q1 q2=>absurd q1 (by omega)))⟩
  ·exact⟨d,i,by rw [if_neg (by simp; omega)],Mv.refl,fun O S x y q1 q2 q3=>S x y q1 q2 (by omega)⟩
theorem xm {m:Nat}{a b:Nat}{cmp:Int→Int→Option Int}{c:Int→Int→Int}(hm:2 ^ 41≤m){l:List Int}(ha:a≤l.length)(hb:b≤l.length)(hs:l.length<2 ^ 40)(C:Cm cmp c l) :
  ∃d,aU.f m l (a:Int) (b:Int) cmp=some d∧Mv a b l d∧(Ord c l→Sg c d a b):=by
 have sG:(2:Nat) ^ 40=1099511627776:=by decide
 have xk:(2:Nat) ^ 41=2199023255552:=by decide
 have e3:i64.wrap ((a:Int)+1)=((a+1:Nat):Int):=by rw [bE (by omega) (by omega)]; omega
 obtain⟨d',x,g1,g2,g3⟩:=Ez (a:=a) (b:=b) (cmp:=cmp) (c:=c) hm m (a+1) l (by omega) (by omega) hb hs C
 exact⟨d',by unfold aU.f; rw [e3,g1]; rfl,g2,fun O=>g3 O fun x y q1 q2 q3=>absurd q3 (by omega)⟩
end Go.Proofs.Ytifafejidnjckaa
namespace Go.Proofs.Ytifafejidnjckaa
open Go Go.R
open Go.IntKind (i64 u64 u8 u32)
theorem EA {α β:Type}{B:α→Option β}{c1 c2:Bool}{X:Option α}{d0:α}{G:β→Prop}(D:α→Prop)(h1:c1=true→c2=true→∃x,X=some x∧D x)(h0:¬(c1=true∧c2=true)→D d0)
  (h:∀x,D x→∃d,B x=some d∧G d):∃d,jn B (fun j=>if c1=true then (if c2=true then (X.bind fun x0=>j x0) else j d0) else j d0)=some d∧G d:=by
 unfold jn
 dsimp only
 by_cases a1:c1=true
 ·by_cases a2:c2=true
  ·obtain⟨x,e,hx⟩:=h1 a1 a2
   rw [if_pos a1,if_pos a2,e]; exact h x hx
  ·rw [if_pos a1,if_neg a2]; exact h _ (h0 fun z=>a2 z.2)
 ·rw [if_neg a1]; exact h _ (h0 fun z=>a1 z.1)
theorem OR {α:Type}{c1 c2:Bool}{X:Option α}{d0:α}{G:α→Prop}(h1:c1=true→c2=true→∃x,X=some x∧G x)(h0:¬(c1=true∧c2=true)→G d0) :
  ∃d,(if c1=true then (if c2=true then (X.bind fun x0=>some x0) else some d0) else some d0)=some d∧G d:=by
 by_cases a1:c1=true
 ·by_cases a2:c2=true
  ·obtain⟨x,e,hx⟩:=h1 a1 a2
   rw [if_pos a1,if_pos a2,e]; exact⟨x,rfl,hx⟩
  ·rw [if_pos a1,if_neg a2]; exact⟨_,rfl,h0 fun z=>a2 z.2⟩
 ·rw [if_neg a1]; exact⟨_,rfl,h0 fun z=>a1 z.1⟩
theorem I3 {α β:Type}{B:α→Option β}{c:Bool}{x y:α}{G:β→Prop}(h:∀z,(c=true∧z=x)∨(c=false∧z=y)→∃d,B z=some d∧G d):∃d,jn B (fun j=>if c=true then j x else j y)=some d∧G d:=by
 unfold jn
 dsimp only
 cases c with
 | true=>exact h _ (.inl ⟨rfl,rfl⟩)
 | false=>exact h _ (.inr ⟨rfl,rfl⟩)
theorem Ord.refl {c:Int→Int→Int}{l:List Int}(O:Ord c l){x:Int}(hx:x∈l):0≤c x x:=by
 by_cases h:c x x<0
 ·exact O.Jz x hx x hx h
 ·omega
theorem Sg.le {c:Int→Int→Int}{l:List Int}{a b:Nat}(S:Sg c l a b)(O:Ord c l){i j:Nat}(h1:a≤i)(h2:i≤j)(h3:j<b)(h4:b≤l.length):0≤c (gt l j) (gt l i):=by
 by_cases h:i=j
 ·subst h; exact O.refl (bN (by omega))
 ·exact S i j h1 (by omega) h3
section
variable {m:Nat}{cmp:Int→Int→Option Int}{c:Int→Int→Int}
theorem yW {l:List Int}{a:Nat}(ha:a<l.length)(hs:l.length<2 ^ 40)(C:Cm cmp c l):∀(f i j:Nat),j - i<f→i≤j→j≤l.length→
  ∃x:Nat,aG.l0 m l (a:Int) cmp f (i:Int) (j:Int)=some ((x:Int),(x:Int))∧i≤x∧x≤j∧(i<x→c (gt l (x - 1)) (gt l a)<0)∧(x<j→0≤c (gt l x) (gt l a))
 | 0,i,j,hf,_,_=>absurd hf (by omega)
 | f+1,i,j,hf,h1,h2=>by
  have sG:(2:Nat) ^ 40=1099511627776:=by decide
  unfold aG.l0
  by_cases h:i<j
  ·have hh:=xj (a:=i) (b:=j) (by omega)
   rw [if_pos (by simp; omega),hh,fo (by omega),fo ha,Ua,Ua,C.at (by omega) ha,Ua]
   by_cases g:c (gt l ((i+j) / 2)) (gt l a)<0
   ·obtain⟨x,e,x1,x2,x3,x4⟩:=yW ha hs C f ((i+j) / 2+1) j (by omega) (by omega) h2
    rw [if_pos (by simpa using g),bE (by omega) (by omega),show (((i+j) / 2:Nat):Int)+1=(((i+j) / 2+1:Nat):Int) by omega,e]
    refine⟨x,rfl,by omega,x2,fun _=>?_,x4⟩
    by_cases hx:x=(i+j) / 2+1
    ·rw [hx]; simpa using g
    ·exact x3 (by omega)
   ·obtain⟨x,e,x1,x2,x3,x4⟩:=yW ha hs C f i ((i+j) / 2) (by omega) (by omega) (by omega)
    rw [if_neg (by simpa using g),e]
    refine⟨x,rfl,x1,by omega,x3,fun _=>?_⟩
    by_cases hx:x=(i+j) / 2
    ·rw [hx]; omega
    ·exact x4 (by omega)
  ·have:i=j:=by omega
   subst this
   exact⟨i,by rw [if_neg (by simp)],Ue _,Ue _,fun h=>absurd h (by omega),fun h=>absurd h (by omega)⟩
theorem yX {l:List Int}{q:Nat}(hq:q<l.length)(hs:l.length<2 ^ 40)(C:Cm cmp c l):∀(f i j:Nat),j - i<f→i≤j→j≤l.length→
  ∃x:Nat,aG.l2 m l (q:Int) cmp f (i:Int) (j:Int)=some ((x:Int),(x:Int))∧i≤x∧x≤j∧(i<x→0≤c (gt l q) (gt l (x - 1)))∧(x<j→c (gt l q) (gt l x)<0)
 | 0,i,j,hf,_,_=>absurd hf (by omega)
 | f+1,i,j,hf,h1,h2=>by
  have sG:(2:Nat) ^ 40=1099511627776:=by decide
  unfold aG.l2
  by_cases h:i<j
  ·have hh:=xj (a:=i) (b:=j) (by omega)
   rw [if_pos (by simp; omega),hh,fo hq,fo (by omega),Ua,Ua,C.at hq (by omega),Ua]
   by_cases g:c (gt l q) (gt l ((i+j) / 2))<0
   ·obtain⟨x,e,x1,x2,x3,x4⟩:=yX hq hs C f i ((i+j) / 2) (by omega) (by omega) (by omega)
    rw [if_neg (by simpa using g),e]
    refine⟨x,rfl,x1,by omega,x3,fun _=>?_⟩
    by_cases hx:x=(i+j) / 2
    ·rw [hx]; omega
    ·exact x4 (by omega)
   ·obtain⟨x,e,x1,x2,x3,x4⟩:=yX hq hs C f ((i+j) / 2+1) j (by omega) (by omega) h2
    rw [if_pos (by simpa using g),bE (by omega) (by omega),show (((i+j) / 2:Nat):Int)+1=(((i+j) / 2+1:Nat):Int) by omega,e]
    refine⟨x,rfl,by omega,x2,fun _=>?_,x4⟩
    by_cases hx:x=(i+j) / 2+1
    ·rw [hx]; simp; omega
    ·exact x3 (by omega)
  ·have:i=j:=by omega
   subst this
   exact⟨i,by rw [if_neg (by simp)],Ue _,Ue _,fun h=>absurd h (by omega),fun h=>absurd h (by omega)⟩
theorem EB {l:List Int}{a x:Nat}(hx:x≤l.length)(OS:a<x)(hs:l.length<2 ^ 40):∀(f k:Nat) (d:List Int),x - k<f→a≤k→k<x→Mv a x l d→
  (∀t,gt d t=if a≤t∧t<k then gt l (t+1) else if t=k then gt l a else gt l t)→
  ∃d' y,aG.l1 m (x:Int) f d (k:Int)=some (d',y)∧Mv a x l d'∧∀t,gt d' t=if a≤t∧t+1<x then gt l (t+1) else if t+1=x then gt l a else gt l t
 | 0,k,d,hf,_,_,_,_=>absurd hf (by omega)
 | f+1,k,d,hf,h1,h2,M,hg=>by
  have sG:(2:Nat) ^ 40=1099511627776:=by decide
  have hl:=M.length
  unfold aG.l1
  have e0:i64.wrap ((x:Int) - 1)=((x - 1:Nat):Int):=by rw [bE (by omega) (by omega)]; omega
  rw [e0]
  by_cases h:k<x - 1
  ·have e1:i64.wrap ((k:Int)+1)=((k+1:Nat):Int):=by rw [bE (by omega) (by omega)]; omega
   rw [if_pos (by simp; omega),e1,fo (by omega),fo (by omega),Ua,Ua,Ua,Un,Un,fo (by simp; omega),Ua]
   refine EB hx OS hs f (k+1) (swp d k (k+1)) (by omega) (by omega) (by omega) (M.trans (yV (by omega) (by omega) (by omega) (by omega) (by omega))) fun t=>?_
   rw [ls (by omega) (by omega),hg k,hg (k+1),hg t]
   by_cases t1:t=k+1
   ·subst t1; rw [if_pos rfl,if_neg (by omega),if_pos rfl,if_neg (by omega),if_pos rfl]
   ·rw [if_neg t1]
    by_cases t2:t=k
    ·subst t2; rw [if_pos rfl,if_neg (by omega),if_neg (by omega),if_pos (by omega)]
    ·rw [if_neg t2,if_neg t2,if_neg t1]
     by_cases t3:a≤t∧t<k
     ·rw [if_pos t3,if_pos (by omega)]
     ·rw [if_neg t3,if_neg (by omega)]
  ·refine⟨d,k,by rw [if_neg (by simp; omega)],M,fun t=>?_⟩
   rw [hg]
   by_cases t3:a≤t∧t<k
   ·rw [if_pos t3,if_pos (by omega)]
   ·rw [if_neg t3,if_neg (show ¬(a≤t∧t+1<x) by omega)]
    by_cases t4:t=k
    ·rw [if_pos t4,if_pos (by omega)]
    ·rw [if_neg t4,if_neg (by omega)]
theorem EC {l:List Int}{q x:Nat}(hx:q<l.length)(OS:x≤q)(hs:l.length<2 ^ 40):∀(f k:Nat) (d:List Int),k - x<f→x≤k→k≤q→Mv x (q+1) l d→
  (∀t,gt d t=if k<t∧t≤q then gt l (t - 1) else if t=k then gt l q else gt l t)→
  ∃d' y,aG.l3 m (x:Int) f d (k:Int)=some (d',y)∧Mv x (q+1) l d'∧∀t,gt d' t=if x<t∧t≤q then gt l (t - 1) else if t=x then gt l q else gt l t
 | 0,k,d,hf,_,_,_,_=>absurd hf (by omega)
 | f+1,k,d,hf,h1,h2,M,hg=>by
  have sG:(2:Nat) ^ 40=1099511627776:=by decide
  have hl:=M.length
  unfold aG.l3
  by_cases h:x<k
  ·have e1:i64.wrap ((k:Int) - 1)=((k - 1:Nat):Int):=by rw [bE (by omega) (by omega)]; omega
   rw [if_pos (by simp; omega),e1,fo (by omega),fo (by omega),Ua,Ua,Ua,Un,Un,fo (by simp; omega),Ua]
   refine EC hx OS hs f (k - 1) (swp d k (k - 1)) (by omega) (by omega) (by omega) (M.trans (yV (by omega) (by omega) (by omega) (by omega) (by omega))) fun t=>?_
   rw [ls (by omega) (by omega),hg k,hg (k - 1),hg t]
   by_cases t1:t=k - 1
   ·subst t1; rw [if_pos rfl,if_neg (by omega),if_pos rfl,if_neg (by omega),if_pos rfl]
   ·rw [if_neg t1]
    by_cases t2:t=k
    ·subst t2; rw [if_pos rfl,if_neg (by omega),if_neg (by omega),if_pos (by omega)]
    ·rw [if_neg t2,if_neg t2,if_neg t1]
     by_cases t3:k<t∧t≤q
     ·rw [if_pos t3,if_pos (by omega)]
     ·rw [if_neg t3,if_neg (by omega)]
  ·have:k=x:=by omega
   subst this
   exact⟨d,k,by rw [if_neg (by simp)],M,hg⟩
theorem yY {l:List Int}{a b q:Nat}(J7:a+b<2 ^ 42)(hs:l.length<2 ^ 40)(C:Cm cmp c l):∀(f s r:Nat),r - s<f→s≤r→r≤l.length→r≤(a+b) / 2+q→(a+b) / 2+q≤l.length+s→
  ∃x:Nat,aG.l4 m l (a:Int) (q:Int) (b:Int) cmp f (s:Int) (r:Int)=some ((x:Int),(x:Int))∧s≤x∧x≤r∧(s<x→0≤c (gt l ((a+b) / 2+q - x)) (gt l (x - 1)))∧(x<r→c (gt l ((a+b) / 2+q - x - 1)) (gt l x)<0)
 | 0,i,j,hf,_,_,_,_=>absurd hf (by omega)
 | f+1,s,r,hf,h1,h2,h3,h4=>by
  have sG:(2:Nat) ^ 40=1099511627776:=by decide
  have OT:(2:Nat) ^ 42=4398046511104:=by decide
  unfold aG.l4
  by_cases h:s<r
  ·have hh:=xj (a:=s) (b:=r) (by omega)
   have J7:=xj (a:=a) (b:=b) (by omega)
   have e1:i64.wrap (i64.wrap (i64.wrap ((((a+b) / 2:Nat):Int)+(q:Int)) - 1) - (((s+r) / 2:Nat):Int))=(((a+b) / 2+q - (s+r) / 2 - 1:Nat):Int):=by
    rw [bE (x:=(((a+b) / 2:Nat):Int)+(q:Int)) (by omega) (by omega),bE (x:=(((a+b) / 2:Nat):Int)+(q:Int) - 1) (by omega) (by omega),bE (by omega) (by omega)]
    omega
   rw [if_pos (by simp; omega),hh,J7,e1,fo (by omega),fo (by omega),Ua,Ua,C.at (by omega) (by omega),Ua]
   by_cases g:c (gt l ((a+b) / 2+q - (s+r) / 2 - 1)) (gt l ((s+r) / 2))<0
   ·obtain⟨x,e,x1,x2,x3,x4⟩:=yY (a:=a) (b:=b) (q:=q) (by omega) hs C f s ((s+r) / 2) (by omega) (by omega) (by omega) (by omega) (by omega)
    rw [if_neg (by simpa using g),e]
    refine⟨x,rfl,x1,by omega,x3,fun _=>?_⟩
    by_cases hx:x=(s+r) / 2
    ·rw [hx]; exact g
    ·exact x4 (by omega)
   ·obtain⟨x,e,x1,x2,x3,x4⟩:=yY (a:=a) (b:=b) (q:=q) (by omega) hs C f ((s+r) / 2+1) r (by omega) (by omega) h2 h3 (by omega)
    rw [if_pos (by simpa using g),bE (by omega) (by omega),show (((s+r) / 2:Nat):Int)+1=(((s+r) / 2+1:Nat):Int) by omega,e]
    refine⟨x,rfl,by omega,x2,fun _=>?_,x4⟩
    by_cases hx:x=(s+r) / 2+1
    ·rw [hx,show (a+b) / 2+q - ((s+r) / 2+1)=(a+b) / 2+q - (s+r) / 2 - 1 by omega,Nat.add_sub_cancel]; omega
    ·exact x3 (by omega)
  ·have:s=r:=by omega
   subst this
   exact⟨s,by rw [if_neg (by simp)],Ue _,Ue _,fun h=>absurd h (by omega),fun h=>absurd h (by omega)⟩
end
end Go.Proofs.Ytifafejidnjckaa
