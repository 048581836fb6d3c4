/- Part of the proof: Q7, QA, PA1, PA2, PA3, PA4, PA5, PA6, PA7, PR1, PS1, PT6, PS2. -/
import Derived.Test.YtifafejidnjckaaK10
set_option linter.unusedVariables false
set_option linter.unusedSimpArgs false
set_option maxRecDepth 100000
open Bool renaming and_eq_true → Vx, false_eq_true → VE, or_eq_true → Wf, not_true → Wy, true_and → Xa
open Int renaming toNat_natCast → VF, natCast_nonneg → WK
open List renaming getElem?_eq_getElem → Vz, getElem?_eq_some_iff → VB, length_append → VD, length_set → VG, length_cons → VH, drop_eq_getElem_cons → VI, getElem?_append_left → VJ, append_assoc → VK, length_map → VL, replicate → VM, mem_of_getElem? → VN, getElem?_append_right → VP, getD_eq_getElem?_getD → VQ, length_nil → VS, mem_cons → VT, mem_singleton → VV, map_cons → VX, mem_append → VY, map_append → V0, take_append_of_le_length → V3, getElem?_eq_none → V7, mem_map → V8, nil_append → V9, getElem?_cons_zero → Wc, drop_zero → Wd, all_cons → Wi, length_take → Wl, getElem?_of_mem → Wm, mem_append_left → Wn, take_succ_eq_append_getElem → Wp, mem_cons_of_mem → Wx, getElem?_cons_succ → WE, append_nil → WN, drop_append_of_le_length → WQ, drop_eq_nil_of_le → WS, map_nil → WU, length_replicate → WZ, ext_getElem? → W2, getElem?_set → W3, take_length → W6
open Nat renaming le_refl → Vy, zero_add → VU, zero_le → Wk, add_comm → W4, add_zero → W5, sub_self → W7
open Option renaming bind_some → Vu
open Option.some renaming injEq → Vw, inj → Wg
namespace Go.Proofs.Ytifafejidnjckaa
open Go Go.R
open Go.IntKind (i64 u64 u8 u32)
def ic.l0 (m:Nat)(n0:Int)(fB:List aN)(x5:aq × Int):Nat→Int→ab→Option (Sum Bool (Int × ab))
 | 0,_,_=>none
 | k+1,i0,pv=>if (decide (i0<(fB.length:Int)))=true then ((ix fB i0).bind fun v0=>(fI.f m pv v0).bind fun x8=>(kg.f m x8.2 n0).bind fun x9=>if (!(x9.2==(0:Int)))=true then (some (.inl false)) else (if (!(x9.1.kind==x5.1.kind))=true then (some (.inl false)) else (if (!(x9.1.int==x5.1.int))=true then (some (.inl false)) else (if (!(x9.1.label.data.toList==x5.1.label.data.toList))=true then (some (.inl false)) else (if (!((x9.1.args.length:Int)==(x5.1.args.length:Int)))=true then (some (.inl false)) else (ic.l0 m n0 fB x5 k (i64.wrap (i0+(1:Int))) x8.2)))))) else (some (.inr (i0,pv)))
def ic.f (m:Nat)(l0:List aN)(n0:Int)(fB:List aN):Option (Bool):=(bw.f m l0).bind fun x0=>if x0=true then ((cJ.f m).bind fun x1=>some x1) else ((bw.f m fB).bind fun x2=>if x2=true then ((cJ.f m).bind fun x3=>some x3) else ((bU.f m l0).bind fun x4=>(kg.f m x4 n0).bind fun x5=>if (!(x5.2==(0:Int)))=true then ((cJ.f m).bind fun x6=>some x6) else (if (x5.1.kind==(0:Int))=true then ((cJ.f m).bind fun x7=>some x7) else ((ic.l0 m n0 fB x5 m (0:Int) x4).bind fun b4=>match b4 with | .inl r0=>some r0 | .inr (i1,wq)=>(cJ.f m).bind fun kB=>some kB))))
def S7 (cf:CallF)(m:Nat):Prop:=∀(l0:List aN) (n0:Int) (fB:List aN) (r:Bool),ic.f m l0 n0 fB=some r→∀h xs,aO bR h xs [aU.fz l0,.int .i64 n0,aU.fz fB]→cf 7 xs h=some (.bool r,h)
end Go.Proofs.Ytifafejidnjckaa
namespace Go.Uf
open Go Go.R
open Go.IntKind (i64 u64 u8 u32)
def iN (to:List Int)(n:Int):Int:=to.getD n.toNat n
def gP (to:List Int):Nat→Int→Int
 | 0,n=>n
 | k+1,n=>iN to (gP to k n)
def CO:List Int→Nat→Nat
 | [],_=>0
 | x::l,i=>(if x=(i:Int) then 0 else 1)+CO l (i+1)
def qH (to:List Int):Nat:=CO to 0
def rp (to:List Int)(n:Int):Int:=gP to (qH to) n
def Rg (len:Nat)(n:Int):Prop:=0≤n∧n<len
instance (len:Nat) (n:Int):Decidable (Rg len n):=inferInstanceAs (Decidable (_∧_))
structure Gm (to:List Int):Prop where
 rg:∀n,Rg to.length n→Rg to.length (iN to n)
 rt:∀n,Rg to.length n→iN to (rp to n)=rp to n
theorem E6:∀(l:List Int) (i:Nat),CO l i≤l.length
 | [],_=>Vy _
 | x::l,i=>by
  have:=E6 l (i+1)
  simp only [CO,VH]
  split<;>omega
theorem vT (to:List Int):qH to≤to.length:=E6 to 0
theorem Br:∀(l:List Int) (i j:Nat) (b:Int),l[j]? = some ((i+j:Nat):Int)→b≠((i+j:Nat):Int)→CO (l.set j b) i=CO l i+1
 | [],_,_,_,h,_=>by simp at h
 | x::l,i,0,b,h,hb=>by
  simp only [Wc,Vw,W5] at h hb
  simp only [List.set_cons_zero,CO,h,if_true]
  rw [if_neg hb]; omega
 | x::l,i,j+1,b,h,hb=>by
  simp only [WE] at h
  have e:i+(j+1)=i+1+j:=by omega
  rw [e] at h hb
  have:=Br l (i+1) j b h hb
  simp only [List.set_cons_succ,CO,this]; omega
theorem Bs:∀(l:List Int) (i:Nat),CO (l++[((i+l.length:Nat):Int)]) i=CO l i
 | [],i=>by simp [CO]
 | x::l,i=>by
  have:=Bs l (i+1)
  have e:i+(x::l).length=i+1+l.length:=by simp only [VH]; omega
  rw [e]
  show _+CO (l++_) (i+1)=_+CO l (i+1)
  rw [this]
section
variable {to:List Int}{a b n:Int}
theorem rG (h:Rg to.length n):to[n.toNat]? = some (iN to n):=by
 have hl:n.toNat<to.length:=by have:=h.1; have:=h.2; omega
 unfold iN
 rw [VQ,Vz hl]; rfl
theorem vU (h:Rg to.length n):ix to n=some (iN to n):=by
 unfold ix; rw [if_pos h.1,rG h]
theorem sX (o:Gm to)(h:Rg to.length n):∀k,Rg to.length (gP to k n)
 | 0=>h
 | k+1=>o.rg _ (sX o h k)
theorem E7 (o:Gm to)(h:Rg to.length n):Rg to.length (rp to n):=sX o h _
theorem xS (h:iN to n=n):∀k,gP to k n=n
 | 0=>rfl
 | k+1=>by show iN to (gP to k n)=n; rw [xS h k,h]
theorem sY (h:iN to n=n):rp to n=n:=xS h _
theorem xT {d:Nat}(h:iN to (gP to d n)=gP to d n):∀e,gP to (d+e) n=gP to d n
 | 0=>rfl
 | e+1=>by show iN to (gP to (d+e) n)=_; rw [xT h e,h]
theorem Hl {d:Nat}(hd:d≤qH to)(h:iN to (gP to d n)=gP to d n):rp to n=gP to d n:=by
 have:=xT h (qH to - d)
 rw [Nat.add_sub_cancel' hd] at this
 exact this
theorem vV (ha:Rg to.length a):∀n,iN (to.set a.toNat b) n=if n.toNat=a.toNat then b else iN to n:=by
 intro n
 have hl:a.toNat<to.length:=by have:=ha.1; have:=ha.2; omega
 unfold iN
 rw [VQ,VQ,W3]
 by_cases h:n.toNat=a.toNat
 ·rw [if_pos h.symm,if_pos hl,if_pos h]; rfl
 ·rw [if_neg (fun e=>h e.symm),if_neg h]
theorem Bu (ha:Rg to.length a)(h1:iN to a=a)(hne:b≠a):qH (to.set a.toNat b)=qH to+1:=by
 have h0:=ha.1
 refine Br to 0 a.toNat b ?_ ?_
 ·rw [rG ha,h1]; congr 1; omega
 ·intro e; apply hne; rw [e]; omega
theorem Md (o:Gm to)(ha:Rg to.length a)(hb:Rg to.length b)(h1:iN to a=a)(h2:iN to b=b)(hne:b≠a) :
  Gm (to.set a.toNat b)∧∀n,Rg to.length n→rp (to.set a.toNat b) n=if rp to n=a then b else rp to n:=by
 have hl:(to.set a.toNat b).length=to.length:=VG
 have hs:∀n,Rg to.length n→iN (to.set a.toNat b) n=if n=a then b else iN to n:=fun n hn=>by
  rw [vV ha]
  by_cases h:n=a
  ·subst h; simp
  ·rw [if_neg h,if_neg (fun e=>h (by have:=hn.1; have:=ha.1; omega))]
 have tq:iN (to.set a.toNat b) b=b:=by rw [hs b hb,if_neg hne,h2]
 have key:∀n,Rg to.length n→∀d,gP (to.set a.toNat b) d n=gP to d n∨(gP (to.set a.toNat b) d n=b∧gP to d n=a):=fun n hn d=>by
  induction d with
  | zero=>exact .inl rfl
  | succ d ih=>
   show iN _ (gP _ d n)=iN to (gP to d n)∨(iN _ (gP _ d n)=b∧iN to (gP to d n)=a)
   rcases ih with ih | ⟨ih,TW⟩
   ·rw [ih,hs _ (sX o hn d)]
    by_cases h:gP to d n=a
    ·rw [if_pos h,h,h1]; exact .inr ⟨rfl,rfl⟩
    ·rw [if_neg h]; exact .inl rfl
   ·rw [ih,TW,h1,tq]; exact .inr ⟨rfl,rfl⟩
 have RL:∀n,Rg to.length n→rp (to.set a.toNat b) n=if rp to n=a then b else rp to n:=fun n hn=>by
  show gP _ (qH (to.set a.toNat b)) n=_
  rw [Bu ha h1 hne]
  have hr:=o.rt n hn
  have TX:=E7 o hn
  show iN _ (gP _ (qH to) n)=_
  rcases key n hn (qH to) with h | ⟨h,h3⟩
  ·rw [h]
   show iN _ (rp to n)=_
   rw [hs _ TX,hr]
  ·have h3:rp to n=a:=h3
   rw [h,tq,if_pos h3]
 refine⟨⟨fun n hn=>?_,fun n hn=>?_⟩,RL⟩
 ·rw [hl] at hn ⊢
  rw [hs n hn]
  split
  ·exact hb
  ·exact o.rg n hn
 ·rw [hl] at hn
  rw [RL n hn]
  by_cases h:rp to n=a
  ·rw [if_pos h,tq]
  ·rw [if_neg h,hs _ (E7 o hn),if_neg h,o.rt n hn]
theorem Me (o:Gm to):Gm (to++[(to.length:Int)])∧(∀n,Rg to.length n→rp (to++[(to.length:Int)]) n=rp to n)∧rp (to++[(to.length:Int)]) (to.length:Int)=(to.length:Int):=by
 have hl:(to++[(to.length:Int)]).length=to.length+1:=by simp
 have hn:qH (to++[(to.length:Int)])=qH to:=by
  have:=Bs to 0
  rw [VU] at this
  exact this
 have hs:∀n,Rg to.length n→iN (to++[(to.length:Int)]) n=iN to n:=fun n h=>by
  have:n.toNat<to.length:=by have:=h.1; have:=h.2; omega
  unfold iN
  rw [VQ,VQ,VJ this]
 have hz:iN (to++[(to.length:Int)]) (to.length:Int)=(to.length:Int):=by
  unfold iN
  rw [VQ,VF,VP (Vy _),W7]; rfl
 have hi:∀n,Rg to.length n→∀k,gP (to++[(to.length:Int)]) k n=gP to k n:=fun n h k=>by
  induction k with
  | zero=>rfl
  | succ k ih=>show iN _ (gP _ k n)=iN to (gP to k n); rw [ih,hs _ (sX o h k)]
 have hr:∀n,Rg to.length n→rp (to++[(to.length:Int)]) n=rp to n:=fun n h=>by
  unfold rp; rw [hn]; exact hi n h _
 have hc:∀n,Rg (to.length+1) n→Rg to.length n∨n=to.length:=fun n h=>by
  unfold Rg at h ⊢; omega
 refine⟨⟨fun n h=>?_,fun n h=>?_⟩,hr,sY hz⟩
 ·rw [hl] at h ⊢
  rcases hc n h with h | rfl
  ·rw [hs n h]; have:=o.rg n h; unfold Rg at this ⊢; omega
  ·rw [hz]; exact h
 ·rw [hl] at h
  rcases hc n h with h | rfl
  ·rw [hr n h,hs _ (E7 o h),o.rt n h]
  ·rw [sY hz,hz]
end
theorem Hm:Gm []:=⟨fun n h=>by have:=h.1; have:=h.2; simp at this; omega,fun n h=>by have:=h.1; have:=h.2; simp at this; omega⟩
end Go.Uf
namespace Go.Uf
open Go Go.R
open Go.IntKind (i64 u64 u8 u32)
def gD (N:List aq)(n:Int):aq:=N.getD n.toNat ⟨0,0,⟨#[]⟩,[]⟩
def gW (N:List aq)(n:Int):Prop:=(gD N n).kind≠0
instance (N:List aq) (n:Int):Decidable (gW N n):=inferInstanceAs (Decidable (_≠_))
def Bt (N:List aq)(a b:Int):Prop:=(gW N a∧¬gW N b)∨((gW N a↔gW N b)∧a≤b)
def mT (a b:aq):Prop:=a.kind=b.kind∧a.int=b.int∧a.label.data.toList=b.label.data.toList∧a.args.length=b.args.length
structure Cn (N:List aq)(R:Int→Int):Prop where
 rg:∀n,Rg N.length n→Rg N.length (R n)
 id:∀n,Rg N.length n→R (R n)=R n
 bt:∀n,Rg N.length n→Bt N (R n) n
def Cl (N:List aq)(T:Int→Int):Prop:=∀x y,Rg N.length x→Rg N.length y→T x=T y→gW N x→gW N y→mT (gD N x) (gD N y)∧∀(i:Nat) (a b:Int),(gD N x).args[i]? = some a→(gD N y).args[i]? = some b→T a=T b
def fu (N:List aq)(R T:Int→Int):Prop:=∀x y,Rg N.length x→Rg N.length y→R x=R y→T x=T y
def rj (N:List aq)(R:Int→Int)(L:List (Int × Int)):Prop:=∀T,fu N R T→(∀p∈L,T p.1=T p.2)→∀x y,Rg N.length x→Rg N.length y→R x=R y→gW N x→gW N y→mT (gD N x) (gD N y)∧∀(i:Nat) (a b:Int),(gD N x).args[i]? = some a→(gD N y).args[i]? = some b→T a=T b
def E8 (N:List aq):Prop:=∀v∈N,v.args.length≤8∧∀a∈v.args,Rg N.length a
section
variable {N:List aq}{R T:Int→Int}{a b x y n:Int}
theorem Bv (h:Rg N.length n):N[n.toNat]? = some (gD N n):=by
 have hl:n.toNat<N.length:=by have:=h.1; have:=h.2; omega
 unfold gD
 rw [VQ,Vz hl]; rfl
theorem zu (h:Rg N.length n):ix N n=some (gD N n):=by
 unfold ix; rw [if_pos h.1,Bv h]
theorem lK (h:Rg N.length n):gD N n∈N:=VN (Bv h)
theorem Bt.antisymm (h1:Bt N a b)(h2:Bt N b a):a=b:=by
 unfold Bt at h1 h2
 rcases h1 with h1 | h1<;>rcases h2 with h2 | h2
 ·exact absurd h1.1 h2.2
 ·exact absurd (h2.1.2 h1.1) h1.2
 ·exact absurd (h1.1.2 h2.1) h2.2
 ·omega
theorem Bt.trans {c:Int}(h1:Bt N a b)(h2:Bt N b c):Bt N a c:=by
 unfold Bt at h1 h2 ⊢
 rcases h1 with h1 | h1<;>rcases h2 with h2 | h2
 ·exact absurd h2.1 h1.2
 ·exact .inl ⟨h1.1,fun h=>h1.2 (h2.1.2 h)⟩
 ·exact .inl ⟨h1.1.2 h2.1,h2.2⟩
 ·exact .inr ⟨h1.1.trans h2.1,by omega⟩
theorem Bt.refl:Bt N a a:=.inr ⟨Iff.rfl,Int.le_refl _⟩
theorem Cn.val (c:Cn N R)(h:Rg N.length n)(v:gW N n):gW N (R n):=by
 rcases c.bt n h with h1 | h1
 ·exact h1.1
 ·exact h1.1.2 v
theorem Cn.unique {R2:Int→Int}(c:Cn N R)(c2:Cn N R2)(h1:fu N R R2)(h2:fu N R2 R)(hn:Rg N.length n):R n=R2 n:=by
 have e1:R (R2 n)=R n:=h2 _ _ (c2.rg n hn) hn (c2.id n hn)
 have e2:R2 (R n)=R2 n:=h1 _ _ (c.rg n hn) hn (c.id n hn)
 have b1:=c.bt _ (c2.rg n hn)
 have b2:=c2.bt _ (c.rg n hn)
 rw [e1] at b1
 rw [e2] at b2
 exact b1.antisymm b2
def j5 (N:List aq)(a b:Int):Int × Int:=if gW N a↔gW N b then (if a<b then (b,a) else (a,b)) else (if gW N b then (a,b) else (b,a))
theorem uA (a b:Int):Bt N (j5 N a b).2 (j5 N a b).1∧((j5 N a b).1=a∧(j5 N a b).2=b∨(j5 N a b).1=b∧(j5 N a b).2=a):=by
 unfold j5
 by_cases h:gW N a↔gW N b
 ·rw [if_pos h]
  by_cases h2:a<b
  ·rw [if_pos h2]; exact⟨.inr ⟨h,by dsimp only; omega⟩,.inr ⟨rfl,rfl⟩⟩
  ·rw [if_neg h2]; exact⟨.inr ⟨h.symm,by dsimp only; omega⟩,.inl ⟨rfl,rfl⟩⟩
 ·rw [if_neg h]
  by_cases h2:gW N b
  ·rw [if_pos h2]; exact⟨.inl ⟨h2,fun h3=>h ⟨fun _=>h2,fun _=>h3⟩⟩,.inl ⟨rfl,rfl⟩⟩
  ·rw [if_neg h2]
   refine⟨.inl ⟨?_,h2⟩,.inr ⟨rfl,rfl⟩⟩
   by_cases h3:gW N a
   ·exact h3
   ·exact absurd ⟨fun h4=>absurd h4 h3,fun h4=>absurd h4 h2⟩ h
def sR (R:Int→Int)(q:Int × Int)(n:Int):Int:=if R n=q.1 then q.2 else R n
theorem JU (c:Cn N R){q:Int × Int}(h1:Rg N.length q.1)(h2:Rg N.length q.2)(r1:R q.1=q.1)(r2:R q.2=q.2)(hne:q.2≠q.1)(hb:Bt N q.2 q.1):Cn N (sR R q):=by
 refine⟨fun n hn=>?_,fun n hn=>?_,fun n hn=>?_⟩
 ·unfold sR; split
  ·exact h2
  ·exact c.rg n hn
 ·unfold sR
  by_cases h:R n=q.1
  ·rw [if_pos h,r2,if_neg hne]
  ·rw [if_neg h,c.id n hn,if_neg h]
 ·unfold sR
  split
  ·rename_i h
   have:=c.bt n hn
   rw [h] at this
   exact hb.trans this
  ·exact c.bt n hn
theorem Bw {q:Int × Int}:fu N R (sR R q):=fun x y _ _ h=>by unfold sR; rw [h]
theorem vW {q:Int × Int}(ha:R a=q.1)(hb:R b=q.2)(hne:q.2≠q.1):sR R q a=sR R q b:=by
 unfold sR; rw [if_pos ha,hb,if_neg hne]
theorem CP (c:Cn N R){q:Int × Int}(h1:Rg N.length q.1)(h2:Rg N.length q.2)(s:fu N R T)(h:T q.1=T q.2):fu N (sR R q) T:=by
 have key:∀x,Rg N.length x→T (sR R q x)=T x:=fun x hx=>by
  have e:T (R x)=T x:=s _ _ (c.rg x hx) hx (c.id x hx)
  unfold sR
  split
  ·rename_i h3; rw [←h,←h3,e]
  ·exact e
 intro x y hx hy he
 rw [←key x hx,←key y hy,he]
theorem CQ {p:Int × Int}{L:List (Int × Int)}(h:rj N R (p::L))(Mf:Rg N.length p.1)(Mg:Rg N.length p.2)(he:R p.1=R p.2):rj N R L:=fun T s hL=>h T s fun q hq=>by
 rcases VT.1 hq with rfl | hq
 ·exact s _ _ Mf Mg he
 ·exact hL q hq
theorem CR (c:Cn N R){p q:Int × Int}{L M:List (Int × Int)}(h:rj N R (p::L))(Mf:Rg N.length p.1)(Mg:Rg N.length p.2)
  (hq:(q.1=R p.1∧q.2=R p.2)∨(q.1=R p.2∧q.2=R p.1)) (hne:q.2≠q.1)
  (hM:gW N (R p.1)→gW N (R p.2)→mT (gD N (R p.1)) (gD N (R p.2))∧∀(i:Nat) (a b:Int),(gD N (R p.1)).args[i]? = some a→(gD N (R p.2)).args[i]? = some b→(a,b)∈M):rj N (sR R q) (L++M):=by
 intro T s hL x y hx hy he vx vy
 have s0:fu N R T:=fun x y hx hy h=>s x y hx hy (Bw x y hx hy h)
 have g1:=c.rg _ Mf
 have g2:=c.rg _ Mg
 have tp:T p.1=T p.2:=s _ _ Mf Mg (by
  rcases hq with⟨h1,h2⟩| ⟨h1,h2⟩
  ·exact vW h1.symm h2.symm hne
  ·exact (vW h1.symm h2.symm hne).symm)
 have old:=h T s0 (fun q hq=>by
  rcases VT.1 hq with rfl | hq
  ·exact tp
  ·exact hL q (Wn _ hq))
 have mid:∀x y,Rg N.length x→Rg N.length y→R x=R p.1→R y=R p.2→gW N x→gW N y→mT (gD N x) (gD N y)∧∀(i:Nat) (a b:Int),(gD N x).args[i]? = some a→(gD N y).args[i]? = some b→T a=T b:=by
  intro x y hx hy e1 e2 vx vy
  have v1:gW N (R p.1):=e1 ▸ c.val hx vx
  have v2:gW N (R p.2):=e2 ▸ c.val hy vy
  obtain⟨t0,m0⟩:=hM v1 v2
  obtain⟨t1,m1⟩:=old x (R p.1) hx g1 (by rw [c.id _ Mf,e1]) vx v1
  obtain⟨t2,m2⟩:=old (R p.2) y g2 hy (by rw [c.id _ Mg,e2]) v2 vy
  refine⟨⟨t1.1.trans (t0.1.trans t2.1),t1.2.1.trans (t0.2.1.trans t2.2.1),t1.2.2.1.trans (t0.2.2.1.trans t2.2.2.1),t1.2.2.2.trans (t0.2.2.2.trans t2.2.2.2)⟩,fun i a b ha hb=>?_⟩
  have l1:i<(gD N (R p.1)).args.length:=by rw [←t1.2.2.2]; exact (VB.1 ha).1
  have l2:i<(gD N (R p.2)).args.length:=by rw [←t0.2.2.2]; exact l1
  have k1:=Vz l1
  have k2:=Vz l2
  rw [m1 i _ _ ha k1,←m2 i _ _ k2 hb]
  exact hL _ (List.mem_append_right _ (m0 i _ _ k1 k2))
 have sym:∀x y,mT (gD N x) (gD N y)∧(∀(i:Nat) (a b:Int),(gD N x).args[i]? = some a→(gD N y).args[i]? = some b→T a=T b)→mT (gD N y) (gD N x)∧∀(i:Nat) (a b:Int),(gD N y).args[i]? = some a→(gD N x).args[i]? = some b→T a=T b:=by
  rintro x y ⟨t,m⟩
  exact⟨⟨t.1.symm,t.2.1.symm,t.2.2.1.symm,t.2.2.2.symm⟩,fun i a b ha hb=>(m i b a hb ha).symm⟩
 by_cases e:R x=R y
 ·exact old x y hx hy e vx vy
 unfold sR at he
 by_cases ex:R x=q.1<;>by_cases ey:R y=q.1
 ·exact absurd (ex.trans ey.symm) e
 ·rw [if_pos ex,if_neg ey] at he
  rcases hq with⟨h1,h2⟩| ⟨h1,h2⟩
  ·exact mid x y hx hy (ex.trans h1) (he.symm.trans h2) vx vy
  ·exact sym _ _ (mid y x hy hx (he.symm.trans h2) (ex.trans h1) vy vx)
 ·rw [if_neg ex,if_pos ey] at he
  rcases hq with⟨h1,h2⟩| ⟨h1,h2⟩
  ·exact sym _ _ (mid y x hy hx (ey.trans h1) (he.trans h2) vy vx)
  ·exact mid x y hx hy (he.trans h2) (ey.trans h1) vx vy
 ·rw [if_neg ex,if_neg ey] at he
  exact absurd he e
theorem E9 (h:rj N R []):Cl N R:=fun x y hx hy e vx vy=>h R (fun _ _ _ _ h=>h) (fun _ h=>by cases h) x y hx hy e vx vy
theorem Hn {L:List (Int × Int)}(h:Cl N R)(ha:E8 N):rj N R L:=fun T s _ x y hx hy e vx vy=>by
 obtain⟨t,m⟩:=h x y hx hy e vx vy
 exact⟨t,fun i a b h1 h2=>s _ _ ((ha _ (lK hx)).2 a (VN h1)) ((ha _ (lK hy)).2 b (VN h2)) (m i a b h1 h2)⟩
end
end Go.Uf
namespace Go.Uf
open Go Go.R
open Go.IntKind (i64 u64 u8 u32)
theorem Mh (x:Int):i64.wrap x=if x % 18446744073709551616≥9223372036854775808 then x % 18446744073709551616 - 18446744073709551616 else x % 18446744073709551616:=by
 unfold IntKind.wrap; simp [IntKind.signed,IntKind.bits]
theorem kY {x:Int}(h0 : -9223372036854775808≤x)(h1:x<9223372036854775808):i64.wrap x=x:=by
 rw [Mh]; split<;>omega
theorem yz {α:Type}{l:List α}{i:Nat}{a:α}(h:l[i]? = some a):ix l (i:Int)=some a:=by
 unfold ix; rw [if_pos (WK _),VF,h]
theorem tO {α:Type}{b:Nat}{l l2:List α}(h:(l.length+l2.length)*(b+1)≤1099511627776):app b l l2=some (l++l2):=by
 unfold app; rw [if_pos h]
end Go.Uf
namespace Go.Proofs.Ytifafejidnjckaa
open Go Go.R Go.Uf
open Go.IntKind (i64 u64 u8 u32)
structure Inv (s:ab):Prop where
 made:s.aj=true
 len:s.ae.length=s.aa.length
 max:s.aa.length≤8000
 ok:Gm s.ae
 cn:Cn s.aa (rp s.ae)
 args:E8 s.aa
section
variable {m:Nat}{s:ab}{a b n:Int}
theorem Inv.rg (v:Inv s)(h:Rg s.aa.length n):Rg s.ae.length n:=by rw [v.len]; exact h
theorem Fa (v:Inv s)(h:Rg s.aa.length n):∀(k d:Nat),d≤qH s.ae→qH s.ae<k+d→ba.l0 m s k (gP s.ae d n)=some (rp s.ae n)
 | 0,d,h1,h2=>by omega
 | k+1,d,h1,h2=>by
  have hr:=sX v.ok (v.rg h) d
  simp only [ba.l0,vU hr,Vu]
  by_cases he:iN s.ae (gP s.ae d n)=gP s.ae d n
  ·rw [Hl h1 he]
   simp [he]
  ·have hd:d<qH s.ae:=by
    rcases Nat.lt_or_ge d (qH s.ae) with h3 | h3
    ·exact h3
    ·have h4:d=qH s.ae:=by omega
     exact absurd (h4 ▸ v.ok.rt n (v.rg h)) he
   have:=Fa v h k (d+1) hd (by omega)
   simp only [gP] at this
   rw [this]
   have hb:(iN s.ae (gP s.ae d n)==gP s.ae d n)=false:=by simpa using he
   simp [hb]
theorem Fb (hm:16000≤m)(v:Inv s)(h:Rg s.aa.length n):ba.f m s n=some (rp s.ae n):=by
 have h1:=vT s.ae
 have h2:=v.len
 have h3:=v.max
 have:=Fa (m:=m) v h m 0 (Wk _) (by omega)
 simp only [gP] at this
 simp only [ba.f,this,Vu]
theorem zw (h:Rg s.aa.length n):b8.f m s n=some ((gD s.aa n).kind==0):=by
 simp only [b8.f,zu h,Vu]
theorem JV (h1:Rg s.aa.length a)(h2:Rg s.aa.length b)(hl:s.ae.length=s.aa.length):cp.f m s a b=some ((j5 s.aa a b).1,⟨s.aj,s.aa,s.ae.set (j5 s.aa a b).1.toNat (j5 s.aa a b).2⟩):=by
 have i1:ix s.ae a=some (iN s.ae a):=vU (by rw [hl]; exact h1)
 have i2:ix s.ae b=some (iN s.ae b):=vU (by rw [hl]; exact h2)
 simp only [cp.f,jn,zw h1,zw h2,Vu,i1,i2]
 unfold j5 gW
 by_cases ha:(gD s.aa a).kind=0<;>by_cases hb:(gD s.aa b).kind=0<;>by_cases Lk:a<b
 all_goals
  first
  | have ea:((gD s.aa a).kind==0)=true:=by simpa using ha
  | have ea:((gD s.aa a).kind==0)=false:=by simpa using ha
 all_goals
  first
  | have eb:((gD s.aa b).kind==0)=true:=by simpa using hb
  | have eb:((gD s.aa b).kind==0)=false:=by simpa using hb
 all_goals simp [ha,hb,Lk,i1,i2,ea,eb]
theorem Bx:cw.f m s n=some (decide (Rg s.aa.length n)):=by
 unfold cw.f Rg
 by_cases h1:n≥0<;>by_cases h2:n<(s.aa.length:Int)<;>simp [h1,h2]
theorem Inv.join (v:Inv s)(h1:Rg s.aa.length a)(h2:Rg s.aa.length b)(r1:rp s.ae a=a)(r2:rp s.ae b=b)(hne:a≠b) :
  Inv ⟨s.aj,s.aa,s.ae.set (j5 s.aa a b).1.toNat (j5 s.aa a b).2⟩∧(∀n,Rg s.aa.length n→rp (s.ae.set (j5 s.aa a b).1.toNat (j5 s.aa a b).2) n=sR (rp s.ae) (j5 s.aa a b) n)∧qH (s.ae.set (j5 s.aa a b).1.toNat (j5 s.aa a b).2)=qH s.ae+1:=by
 obtain⟨hb,hq⟩:=uA (N:=s.aa) a b
 generalize j5 s.aa a b=q at *
 have g:Rg s.aa.length q.1∧Rg s.aa.length q.2∧rp s.ae q.1=q.1∧rp s.ae q.2=q.2∧q.2≠q.1:=by
  rcases hq with⟨e1,e2⟩| ⟨e1,e2⟩
  ·rw [e1,e2]; exact⟨h1,h2,r1,r2,fun h=>hne h.symm⟩
  ·rw [e1,e2]; exact⟨h2,h1,r2,r1,hne⟩
 obtain⟨g1,g2,g3,g4,g5⟩:=g
 have s1:iN s.ae q.1=q.1:=by have:=v.ok.rt _ (v.rg g1); rwa [g3] at this
 have s2:iN s.ae q.2=q.2:=by have:=v.ok.rt _ (v.rg g2); rwa [g4] at this
 obtain⟨j1,j2⟩:=Uf.Md v.ok (v.rg g1) (v.rg g2) s1 s2 g5
 have j3:∀n,Rg s.aa.length n→rp (s.ae.set q.1.toNat q.2) n=sR (rp s.ae) q n:=fun n hn=>j2 n (v.rg hn)
 have c:=JU v.cn g1 g2 g3 g4 g5 hb
 refine⟨⟨v.made,by show (List.set _ _ _).length=_; rw [VG]; exact v.len,v.max,j1,⟨fun n hn=>?_,fun n hn=>?_,fun n hn=>?_⟩,v.args⟩,j3,Bu (v.rg g1) s1 g5⟩
 ·show Rg _ (rp (s.ae.set q.1.toNat q.2) n)
  rw [j3 n hn]; exact c.rg n hn
 ·show rp (s.ae.set q.1.toNat q.2) (rp (s.ae.set q.1.toNat q.2) n)=_
  rw [j3 n hn,j3 _ (c.rg n hn),c.id n hn]
 ·show Bt _ (rp (s.ae.set q.1.toNat q.2) n) n
  rw [j3 n hn]; exact c.bt n hn
theorem Fc (x y:aq):∃d,fh.f m x y=some d∧(d=false↔mT x y):=by
 unfold fh.f mT
 have h5:(((x.args.length:Int)==(y.args.length:Int))=true)↔x.args.length=y.args.length:=by rw [beq_iff_eq]; omega
 by_cases h1:x.kind=y.kind
 ·by_cases h2:x.int=y.int
  ·by_cases h3:x.label.data.toList=y.label.data.toList
   ·refine⟨!((x.args.length:Int)==(y.args.length:Int)),by simp [h1,h2,h3],?_⟩
    rw [Bool.not_eq_false',h5]
    exact⟨fun h=>⟨h1,h2,h3,h⟩,fun h=>h.2.2.2⟩
   ·have h6:¬x.label.data=y.label.data:=fun h=>h3 (by rw [h])
    exact⟨true,by simp [h1,h2,h6],by simp [h6]⟩
  ·exact⟨true,by simp [h1,h2],by simp [h2]⟩
 ·exact⟨true,by simp [h1],by simp [h1]⟩
end
end Go.Proofs.Ytifafejidnjckaa
namespace Go.Proofs.Ytifafejidnjckaa
open Go Go.R Go.Uf
open Go.IntKind (i64 u64 u8 u32)
def wz (p:a7):Int × Int:=(p.jZ,p.la)
def rl (a b:List Int):List a7:=(a.zip b).map fun p=>⟨p.1,p.2⟩
theorem uB {m:Nat}{v2 v3:aq}{s:ab}(hl:v2.args.length=v3.args.length)(h8:v2.args.length≤8):∀(k:Nat) (left:List a7) (i:Nat),i≤v2.args.length→v2.args.length - i<k→left.length+8≤1000000+i→
  az.l1 m v2 v3 k left (i:Int) s=some (left++rl (v2.args.drop i) (v3.args.drop i),(v2.args.length:Int),s)
 | 0,left,i,h1,h2,_=>by omega
 | k+1,left,i,h1,h2,h3=>by
  simp only [az.l1]
  by_cases hi:i<v2.args.length
  ·have RM:i<v3.args.length:=by omega
   have e2:=Vz hi
   have e3:=Vz RM
   have d:decide ((i:Int)<(v2.args.length:Int))=true:=by rw [decide_eq_true_eq]; omega
   have ea:app 16 left [(⟨v2.args[i],v3.args[i]⟩:a7)]=some (left++[⟨v2.args[i],v3.args[i]⟩]):=tO (by
    simp only [VH,VS]; omega)
   have ew:i64.wrap ((i:Int)+1)=((i+1:Nat):Int):=by rw [kY (by omega) (by omega)]; omega
   rw [if_pos d,yz e2,yz e3]
   simp only [Vu,ea,ew]
   rw [uB hl h8 k _ (i+1) (by omega) (by omega) (by simp only [VD,VH,VS]; omega)]
   have e4:rl (v2.args.drop i) (v3.args.drop i)=⟨v2.args[i],v3.args[i]⟩::rl (v2.args.drop (i+1)) (v3.args.drop (i+1)):=by
    unfold rl
    rw [VI hi,VI RM]; rfl
   rw [e4,VK]; rfl
  ·have d:decide ((i:Int)<(v2.args.length:Int))=false:=by rw [decide_eq_false_iff_not]; omega
   have e:i=v2.args.length:=by omega
   rw [if_neg (by rw [d]; decide),e]
   simp [rl]
def CS (s s':ab)(l:List Int):Prop:=s'.aj=s.aj∧s'.aa=s.aa∧s'.ae.length=s.ae.length∧(∀n∈l,Rg s.ae.length n∧iN s.ae n=n)∧∀n,Rg s.ae.length n→n∉l→iN s'.ae n=iN s.ae n
theorem CS.refl (s:ab):CS s s []:=⟨rfl,rfl,rfl,fun n h=>absurd h (by simp),fun _ _ _=>rfl⟩
theorem CS.step {s s':ab}{l:List Int}{a b:Int}(ha:Rg s.ae.length a)(hr:iN s.ae a=a)(hne:b≠a)(u:CS ⟨s.aj,s.aa,s.ae.set a.toNat b⟩ s' l):CS s s' (a::l):=by
 obtain⟨u1,u2,u3,u4,u5⟩:=u
 have hl:(s.ae.set a.toNat b).length=s.ae.length:=VG
 have hs:=vV (b:=b) ha
 have e:∀n,Rg s.ae.length n→n≠a→iN (s.ae.set a.toNat b) n=iN s.ae n:=fun n hn h=>by
  rw [hs,if_neg (fun e=>h (by have:=hn.1; have:=ha.1; omega))]
 refine⟨u1,u2,u3.trans hl,fun n hn=>?_,fun n hn hm=>?_⟩
 ·rcases VT.1 hn with rfl | hn
  ·exact⟨ha,hr⟩
  ·obtain⟨g1,g2⟩:=u4 n hn
   have g1:Rg (s.ae.set a.toNat b).length n:=g1
   have g2:iN (s.ae.set a.toNat b) n=n:=g2
   rw [hl] at g1
   refine⟨g1,?_⟩
   by_cases h:n=a
   ·subst h; exact hr
   ·rw [e n g1 h] at g2; exact g2
 ·simp only [VT,not_or] at hm
  have:=u5 n (by show Rg (s.ae.set a.toNat b).length n; rw [hl]; exact hn) hm.2
  rw [this]
  exact e n hn hm.1
def By (s:ab)(L:List (Int × Int))(ch:List Int):Sum ((List Int) × Bool × ab) ((List Int) × (List a7) × Int × ab)→Prop
 | .inl (Fe,b,s')=>b=false∧∃l,Fe=ch++l∧CS s s' l∧Inv s'∧(ch++l).length≤8000∧∀T,Cl s.aa T→fu s.aa (rp s.ae) T→(∀p∈L,T p.1=T p.2)→False
 | .inr (Fe,_,_,s')=>∃l,Fe=ch++l∧CS s s' l∧Inv s'∧(ch++l).length≤8000∧Cl s.aa (rp s'.ae)∧fu s.aa (rp s.ae) (rp s'.ae)∧(∀p∈L,rp s'.ae p.1=rp s'.ae p.2)∧∀T,Cl s.aa T→fu s.aa (rp s.ae) T→(∀p∈L,T p.1=T p.2)→fu s.aa (rp s'.ae) T
end Go.Proofs.Ytifafejidnjckaa
namespace Go.Uf
open Go Go.R
open Go.IntKind (i64 u64 u8 u32)
theorem fu.trans {N:List aq}{R S T:Int→Int}(a:fu N R S)(b:fu N S T):fu N R T:=fun x y hx hy h=>b x y hx hy (a x y hx hy h)
theorem fu.congr {N:List aq}{R S T:Int→Int}(e:∀n,Rg N.length n→R n=S n)(b:fu N S T):fu N R T:=fun x y hx hy h=>b x y hx hy (by rw [←e x hx,←e y hy,h])
theorem fu.JW {N:List aq}{R S T:Int→Int}(e:∀n,Rg N.length n→S n=T n)(b:fu N R S):fu N R T:=fun x y hx hy h=>by rw [←e x hx,←e y hy]; exact b x y hx hy h
theorem rj.congr {N:List aq}{R S:Int→Int}{L:List (Int × Int)}(e:∀n,Rg N.length n→R n=S n)(p:rj N S L):rj N R L:=fun T s hL x y hx hy h=>p T (s.congr fun n hn=>(e n hn).symm) hL x y hx hy (by rw [←e x hx,←e y hy,h])
end Go.Uf
namespace Go.Proofs.Ytifafejidnjckaa
open Go Go.R Go.Uf
open Go.IntKind (i64 u64 u8 u32)
section
variable {s:ab}
theorem Ho {ch:List Int}{left M:List a7}{i:Nat}{p:a7}{q:Int × Int}{out:Sum ((List Int) × Bool × ab) ((List Int) × (List a7) × Int × ab)}
  (v:Inv s) (hp:left[i]? = some p) (h1:Rg s.aa.length p.jZ) (h2:Rg s.aa.length p.la)
  (hq:(q.1=rp s.ae p.jZ∧q.2=rp s.ae p.la)∨(q.1=rp s.ae p.la∧q.2=rp s.ae p.jZ)) (hne:q.2≠q.1)
  (hr:∀n,Rg s.aa.length n→rp (s.ae.set q.1.toNat q.2) n=sR (rp s.ae) q n)
  (hM:∀T,Cl s.aa T→T (rp s.ae p.jZ)=T (rp s.ae p.la)→∀x∈M,T x.jZ=T x.la)
  (h:By ⟨s.aj,s.aa,s.ae.set q.1.toNat q.2⟩ (((left++M).drop (i+1)).map wz) (ch++[q.1]) out):By s ((left.drop i).map wz) ch out:=by
 have hi:i<left.length:=(VB.1 hp).1
 have Ny:left[i]=p:=(VB.1 hp).2
 have ed:left.drop i=p::left.drop (i+1):=by rw [VI hi,Ny]
 have JX:(left++M).drop (i+1)=left.drop (i+1)++M:=WQ (by omega)
 have g1:=v.cn.rg _ h1
 have g2:=v.cn.rg _ h2
 have gq:Rg s.aa.length q.1∧Rg s.aa.length q.2∧rp s.ae q.1=q.1∧rp s.ae q.2=q.2:=by
  rcases hq with⟨e1,e2⟩| ⟨e1,e2⟩
  ·rw [e1,e2]; exact⟨g1,g2,v.cn.id _ h1,v.cn.id _ h2⟩
  ·rw [e1,e2]; exact⟨g2,g1,v.cn.id _ h2,v.cn.id _ h1⟩
 obtain⟨q1,q2,q3,q4⟩:=gq
 have wq:iN s.ae q.1=q.1:=by have:=v.ok.rt _ (v.rg q1); rwa [q3] at this
 have TY:fu s.aa (rp s.ae) (rp (s.ae.set q.1.toNat q.2)):=fu.JW (fun n hn=>(hr n hn).symm) Bw
 have TZ:rp (s.ae.set q.1.toNat q.2) p.jZ=rp (s.ae.set q.1.toNat q.2) p.la:=by
  rw [hr _ h1,hr _ h2]
  rcases hq with⟨e1,e2⟩| ⟨e1,e2⟩
  ·exact vW e1.symm e2.symm hne
  ·exact (vW e1.symm e2.symm hne).symm
 have Mi:∀T,Cl s.aa T→fu s.aa (rp s.ae) T→(∀x∈(left.drop i).map wz,T x.1=T x.2)→fu s.aa (rp (s.ae.set q.1.toNat q.2)) T∧∀x∈((left++M).drop (i+1)).map wz,T x.1=T x.2:=by
  intro T cT sT hT
  have tp:T p.jZ=T p.la:=hT (wz p) (by rw [ed]; simp)
  have ta:T (rp s.ae p.jZ)=T p.jZ:=sT _ _ g1 h1 (v.cn.id _ h1)
  have tb:T (rp s.ae p.la)=T p.la:=sT _ _ g2 h2 (v.cn.id _ h2)
  have tt:T (rp s.ae p.jZ)=T (rp s.ae p.la):=by rw [ta,tb,tp]
  refine⟨fu.congr hr (CP v.cn q1 q2 sT ?_),fun x hx=>?_⟩
  ·rcases hq with⟨e1,e2⟩| ⟨e1,e2⟩
   ·rw [e1,e2]; exact tt
   ·rw [e1,e2]; exact tt.symm
  ·rw [JX,V0] at hx
   rcases VY.1 hx with hx | hx
   ·exact hT x (by rw [ed]; simp only [VX]; exact Wx _ hx)
   ·obtain⟨y,hy,rfl⟩:=V8.1 hx
    exact hM T cT tt y hy
 match out,h with
 | .inl (Fe,b,s'),⟨hb,l,e,u,v',hl,hT⟩=>
  exact⟨hb,q.1::l,by rw [e]; simp,CS.step (v.rg q1) wq hne u,v',by simpa using hl,fun T cT sT pT=>by
   obtain⟨k1,k2⟩:=Mi T cT sT pT
   exact hT T cT k1 k2⟩
 | .inr (Fe,Ij,i',s'),⟨l,e,u,v',hl,hc,hs,Na,hT⟩=>
  refine⟨q.1::l,by rw [e]; simp,CS.step (v.rg q1) wq hne u,v',by simpa using hl,hc,TY.trans hs,fun x hx=>?_,fun T cT sT pT=>?_⟩
  ·rw [ed] at hx
   simp only [VX] at hx
   rcases VT.1 hx with rfl | hx
   ·exact hs _ _ h1 h2 TZ
   ·exact Na x (by rw [JX,V0]; exact Wn _ hx)
  ·obtain⟨k1,k2⟩:=Mi T cT sT pT
   exact hT T cT k1 k2
theorem Bz {a b:List Int}{x:a7}(h:x∈rl a b):∃i:Nat,a[i]? = some x.jZ∧b[i]? = some x.la:=by
 unfold rl at h
 obtain⟨p,hp,rfl⟩:=V8.1 h
 obtain⟨i,hi⟩:=Wm hp
 rw [List.getElem?_zip_eq_some] at hi
 exact⟨i,hi⟩
theorem Hp {a b:List Int}{i:Nat}{x y:Int}(h1:a[i]? = some x)(h2:b[i]? = some y):(x,y)∈(rl a b).map wz:=by
 unfold rl
 rw [List.map_map]
 refine V8.2 ⟨(x,y),?_,rfl⟩
 exact VN (i:=i) (List.getElem?_zip_eq_some.2 ⟨h1,h2⟩)
theorem pV {m:Nat}(hm:16000≤m):∀(k:Nat) (s:ab) (ch:List Int) (left:List a7) (i:Nat),i≤left.length→9*(s.aa.length - qH s.ae)+(left.length - i)<k→left.length≤1+8*qH s.ae→ch.length≤qH s.ae→Inv s→
  (∀p∈left,Rg s.aa.length p.jZ∧Rg s.aa.length p.la)→rj s.aa (rp s.ae) ((left.drop i).map wz)→∃out,az.l0 m k ch left (i:Int) s=some out∧By s ((left.drop i).map wz) ch out
 | 0,s,ch,left,i,h1,h2,h3,h4,v,hin,hp=>by omega
 | k+1,s,ch,left,i,h1,h2,h3,h4,v,hin,hp=>by
  have n1:=vT s.ae
  have n2:=v.len
  have n3:=v.max
  simp only [az.l0]
  by_cases hi:i<left.length
  rotate_left
  ·have d:decide ((i:Int)<(left.length:Int))=false:=by rw [decide_eq_false_iff_not]; omega
   rw [if_neg (by rw [d]; decide)]
   have hd:left.drop i=[]:=WS (by omega)
   rw [hd] at hp ⊢
   exact⟨_,rfl,[],by simp,CS.refl s,v,by simp; omega,E9 hp,fun _ _ _ _ h=>h,fun x hx=>by simp at hx,fun T _ s _=>s⟩
  have d:decide ((i:Int)<(left.length:Int))=true:=by rw [decide_eq_true_eq]; omega
  have ep:=Vz hi
  generalize left[i]=p at ep
  obtain⟨ra,rb⟩:=hin p (VN ep)
  have ed:left.drop i=p::left.drop (i+1):=by
   rw [VI hi]; congr 1
   exact (VB.1 ep).2
  have ew:i64.wrap ((i:Int)+1)=((i+1:Nat):Int):=by rw [kY (by omega) (by omega)]; omega
  rw [if_pos d,yz ep]
  simp only [Vu,Fb hm v ra,Fb hm v rb,ew]
  have ga:=v.cn.rg _ ra
  have gb:=v.cn.rg _ rb
  have Na:rj s.aa (rp s.ae) (wz p::(left.drop (i+1)).map wz):=by rw [ed] at hp; exact hp
  by_cases he:rp s.ae p.jZ=rp s.ae p.la
  ·have c1:(rp s.ae p.jZ==rp s.ae p.jZ&&rp s.ae p.la==rp s.ae p.jZ)=true:=by simp [he]
   rw [if_pos c1]
   obtain⟨out,e1,e2⟩:=pV hm k s ch left (i+1) (by omega) (by omega) h3 h4 v hin (CQ Na ra rb he)
   refine⟨out,e1,?_⟩
   match out,e2 with
   | .inl (Fe,b,s'),⟨hb,l,e,u,v',hl,hT⟩=>
    exact⟨hb,l,e,u,v',hl,fun T cT sT pT=>hT T cT sT fun x hx=>pT x (by rw [ed]; simp only [VX]; exact Wx _ hx)⟩
   | .inr (Fe,Ij,i',s'),⟨l,e,u,v',hl,hc,hs,hq,hT⟩=>
    refine⟨l,e,u,v',hl,hc,hs,fun x hx=>?_,fun T cT sT pT=>hT T cT sT fun x hx=>pT x (by rw [ed]; simp only [VX]; exact Wx _ hx)⟩
    rw [ed] at hx
    simp only [VX] at hx
    rcases VT.1 hx with rfl | hx
    ·exact hs _ _ ra rb he
    ·exact hq x hx
  ·have c1:¬(rp s.ae p.jZ==rp s.ae p.jZ&&rp s.ae p.la==rp s.ae p.jZ)=true:=by
    simp only [BEq.rfl,Xa,beq_iff_eq]; exact fun h=>he h.symm
   rw [if_neg c1]
   simp only [zu ga,zu gb,Vu]
   obtain⟨jv,jr,jn⟩:=v.join ga gb (v.cn.id _ ra) (v.cn.id _ rb) he
   have ej:=JV (m:=m) ga gb v.len
   obtain⟨ob,oq⟩:=uA (N:=s.aa) (rp s.ae p.jZ) (rp s.ae p.la)
   have hne:(j5 s.aa (rp s.ae p.jZ) (rp s.ae p.la)).2≠(j5 s.aa (rp s.ae p.jZ) (rp s.ae p.la)).1:=by
    rcases oq with⟨e1,e2⟩| ⟨e1,e2⟩
    ·rw [e1,e2]; exact fun h=>he h.symm
    ·rw [e1,e2]; exact he
   generalize j5 s.aa (rp s.ae p.jZ) (rp s.ae p.la)=q at *
   have RN:(q.1=rp s.ae p.jZ∧q.2=rp s.ae p.la)∨(q.1=rp s.ae p.la∧q.2=rp s.ae p.jZ):=oq
   have n4:=vT (s.ae.set q.1.toNat q.2)
   rw [VG,jn] at n4
   have RP:∀M:List a7,M.length≤8→(∀x∈M,Rg s.aa.length x.jZ∧Rg s.aa.length x.la)→
     (∀T,Cl s.aa T→T (rp s.ae p.jZ)=T (rp s.ae p.la)→∀x∈M,T x.jZ=T x.la)→
     (gW s.aa (rp s.ae p.jZ)→gW s.aa (rp s.ae p.la)→mT (gD s.aa (rp s.ae p.jZ)) (gD s.aa (rp s.ae p.la))∧∀(i:Nat) (a b:Int),(gD s.aa (rp s.ae p.jZ)).args[i]? = some a→(gD s.aa (rp s.ae p.la)).args[i]? = some b→(a,b)∈M.map wz)→
     ∃out,((app 8 ch [q.1]).bind fun x=>az.l0 m k x (left++M) ((i+1:Nat):Int) ⟨s.aj,s.aa,s.ae.set q.1.toNat q.2⟩)=some out∧By s ((left.drop i).map wz) ch out:=by
    intro M Vo T0 T3 T4
    rw [tO (by simp only [VH,VS]; omega),Vu]
    have JX:((left++M).drop (i+1)).map wz=(left.drop (i+1)).map wz++M.map wz:=by
     rw [WQ (by omega),V0]
    have jn:qH (s.ae.set q.1.toNat q.2)=qH s.ae+1:=jn
    obtain⟨out,e1,e2⟩:=pV hm k ⟨s.aj,s.aa,s.ae.set q.1.toNat q.2⟩ (ch++[q.1]) (left++M) (i+1) (by rw [VD]; omega)
     (by show 9*(s.aa.length - qH (s.ae.set q.1.toNat q.2))+_<k; rw [jn,VD]; omega) (by show _≤1+8*qH (s.ae.set q.1.toNat q.2); rw [jn,VD]; omega)
     (by show _≤qH (s.ae.set q.1.toNat q.2); rw [jn,VD]; simp only [VH,VS]; omega) jv
     (fun x hx=>(VY.1 hx).elim (hin x) (T0 x)) (by
      rw [JX]
      exact rj.congr jr (CR v.cn (p:=wz p) Na ra rb RN hne T4))
    exact⟨out,e1,Ho v ep ra rb RN hne jr T3 e2⟩
   have JY:=RP [] (by simp) (fun x hx=>by simp at hx) (fun T _ _ x hx=>by simp at hx)
   rw [WN] at JY
   by_cases k1:(gD s.aa (rp s.ae p.jZ)).kind=0
   ·have b1:(!((gD s.aa (rp s.ae p.jZ)).kind==(0:Int)))=false:=by rw [k1]; rfl
    rw [b1,if_neg (by decide),ej]
    exact JY fun h=>absurd k1 h
   have b1:(!((gD s.aa (rp s.ae p.jZ)).kind==(0:Int)))=true:=by simpa using k1
   rw [b1,if_pos rfl]
   by_cases k2:(gD s.aa (rp s.ae p.la)).kind=0
   ·have b2:(!((gD s.aa (rp s.ae p.la)).kind==(0:Int)))=false:=by rw [k2]; rfl
    rw [b2,if_neg (by decide),ej]
    exact JY fun _ h=>absurd k2 h
   have b2:(!((gD s.aa (rp s.ae p.la)).kind==(0:Int)))=true:=by simpa using k2
   rw [b2,if_pos rfl]
   obtain⟨df,T5,JX⟩:=Fc (m:=m) (gD s.aa (rp s.ae p.jZ)) (gD s.aa (rp s.ae p.la))
   rw [T5,Vu]
   cases df with
   | true=>
    refine⟨_,rfl,rfl,[],by simp,CS.refl s,v,by simp; omega,fun T cT sT pT=>?_⟩
    have tp:T p.jZ=T p.la:=pT (wz p) (by rw [ed]; simp)
    have ta:T (rp s.ae p.jZ)=T p.jZ:=sT _ _ ga ra (v.cn.id _ ra)
    have tb:T (rp s.ae p.la)=T p.la:=sT _ _ gb rb (v.cn.id _ rb)
    have:=(cT _ _ ga gb (by rw [ta,tb,tp]) k1 k2).1
    have:=JX.2 this
    cases this
   | false=>
    have tp:=JX.1 rfl
    have a8:=(v.args _ (lK ga)).1
    have el:az.l1 m (gD s.aa (rp s.ae p.jZ)) (gD s.aa (rp s.ae p.la)) m left 0 s=some (left++rl ((gD s.aa (rp s.ae p.jZ)).args.drop 0) ((gD s.aa (rp s.ae p.la)).args.drop 0),((gD s.aa (rp s.ae p.jZ)).args.length:Int),s):=uB tp.2.2.2 a8 m left 0 (Wk _) (by omega) (by omega)
    rw [if_neg (by decide),el]
    simp only [Vu,Wd,ej]
    refine RP (rl (gD s.aa (rp s.ae p.jZ)).args (gD s.aa (rp s.ae p.la)).args) ?_ (fun x hx=>?_) (fun T cT hT x hx=>?_) (fun _ _=>⟨tp,fun i a b ha hb=>Hp ha hb⟩)
    ·unfold rl; rw [VL,List.length_zip]; omega
    ·obtain⟨j,j1,j2⟩:=Bz hx
     exact⟨(v.args _ (lK ga)).2 _ (VN j1),(v.args _ (lK gb)).2 _ (VN j2)⟩
    ·obtain⟨j,j1,j2⟩:=Bz hx
     exact (cT _ _ ga gb hT k1 k2).2 j _ _ j1 j2
end
end Go.Proofs.Ytifafejidnjckaa
namespace Go.Proofs.Ytifafejidnjckaa
open Go Go.R Go.Uf
open Go.IntKind (i64 u64 u8 u32)
section
variable {m:Nat}{s s':ab}
theorem CT {a b:ab}(h1:a.aj=b.aj)(h2:a.aa=b.aa)(h3:a.ae=b.ae):a=b:=by
 cases a; cases b; cases h1; cases h2; cases h3; rfl
theorem JZ {a b:List Int}(hl:a.length=b.length)(h:∀n,Rg b.length n→iN a n=iN b n):a=b:=by
 refine W2 fun i=>?_
 by_cases hi:i<b.length
 ·have r:Rg b.length (i:Int):=⟨WK _,by omega⟩
  have e1:=rG (to:=b) r
  have e2:=rG (to:=a) (n:=(i:Int)) (by rw [hl]; exact r)
  rw [VF] at e1 e2
  rw [e1,e2,h _ r]
 ·rw [V7 (by omega),V7 (by omega)]
theorem BA (l:List Int)(hl:l.length≤8000)(s:ab)(hs:∀n∈l,Rg s.ae.length n∧iN s.ae n=n):∀(k:Nat) (i:Nat) (s':ab),i≤l.length→l.length - i<k→s'.aj=s.aj→s'.aa=s.aa→s'.ae.length=s.ae.length→(∀n,Rg s.ae.length n→n∉l.drop i→iN s'.ae n=iN s.ae n)→
  bb.l0 m l k (i:Int) s'=some ((l.length:Int),s)
 | 0,i,s',h1,h2,_,_,_,_=>by omega
 | k+1,i,s',h1,h2,e1,e2,e3,h=>by
  simp only [bb.l0]
  by_cases hi:i<l.length
  ·have d:decide ((i:Int)<(l.length:Int))=true:=by rw [decide_eq_true_eq]; omega
   have el:=Vz hi
   have ed:l.drop i=l[i]::l.drop (i+1):=VI hi
   generalize l[i]=n at el ed
   obtain⟨rn,sn⟩:=hs n (VN el)
   have RQ:Rg s'.ae.length n:=by rw [e3]; exact rn
   have ew:i64.wrap ((i:Int)+1)=((i+1:Nat):Int):=by rw [kY (by omega) (by omega)]; omega
   rw [if_pos d,yz el]
   simp only [Vu,vU RQ,ew]
   refine BA l hl s hs k (i+1) _ (by omega) (by omega) e1 e2 (by show (List.set _ _ _).length=_; rw [VG,e3]) (fun x hx hm=>?_)
   show iN (s'.ae.set n.toNat n) x=_
   rw [vV RQ]
   by_cases he:x.toNat=n.toNat
   ·have:x=n:=by have:=hx.1; have:=rn.1; omega
    rw [if_pos he,this,sn]
   ·rw [if_neg he]
    refine h x hx ?_
    rw [ed]
    simp only [VT,not_or]
    exact⟨fun e=>he (by rw [e]),hm⟩
  ·have d:decide ((i:Int)<(l.length:Int))=false:=by rw [decide_eq_false_iff_not]; omega
   rw [if_neg (by rw [d]; decide)]
   have hd:l.drop i=[]:=WS (by omega)
   have:s'=s:=CT e1 e2 (JZ e3 fun n hn=>h n hn (by rw [hd]; simp))
   rw [this]
   congr 2; omega
theorem Ff (hm:16000≤m){l:List Int}(hl:l.length≤8000)(u:CS s s' l):bb.f m s' l=some s:=by
 obtain⟨u1,u2,u3,u4,u5⟩:=u
 have:=BA (m:=m) l hl s u4 m 0 s' (Wk _) (by omega) u1 u2 u3 (by rw [Wd]; exact u5)
 have this:bb.l0 m l m 0 s'=some ((l.length:Int),s):=this
 simp only [bb.f,this,Vu]
theorem xU {f:Int→Option Bool}{g:Int→Bool}(l:List Int)(hl:l.length≤1000000)(hf:∀x∈l,f x=some (g x)):∀(k i:Nat),i≤l.length→l.length - i<k→
  (∃j:Nat,cG.l0 m l f k (i:Int)=some (.inl (j:Int))∧i≤j∧j<l.length∧(∀x,l[j]? = some x→g x=true)∧∀q,i≤q→q<j→∀x,l[q]? = some x→g x=false)∨
  (∃z,cG.l0 m l f k (i:Int)=some (.inr z)∧∀q,i≤q→∀x,l[q]? = some x→g x=false)
 | 0,i,h1,h2=>by omega
 | k+1,i,h1,h2=>by
  simp only [cG.l0]
  by_cases hi:i<l.length
  ·have d:decide ((i:Int)<(l.length:Int))=true:=by rw [decide_eq_true_eq]; omega
   have el:=Vz hi
   generalize l[i]=n at el
   have ew:i64.wrap ((i:Int)+1)=((i+1:Nat):Int):=by rw [kY (by omega) (by omega)]; omega
   rw [if_pos d,yz el]
   simp only [Vu,hf n (VN el),ew]
   cases hg:g n with
   | true=>
    left
    refine⟨i,by simp,Vy _,hi,fun x hx=>?_,fun q h3 h4=>by omega⟩
    rw [el] at hx; cases hx; exact hg
   | false=>
    rw [if_neg (by decide)]
    have iN:∀q,i≤q→q≠i→i+1≤q:=fun q h3 h4=>by omega
    rcases xU l hl hf k (i+1) (by omega) (by omega) with⟨j,e,j1,j2,j3,j4⟩| ⟨z,e,j4⟩
    ·left
     refine⟨j,e,by omega,j2,j3,fun q h3 h4 x hx=>?_⟩
     by_cases hq:q=i
     ·subst hq; rw [el] at hx; cases hx; exact hg
     ·exact j4 q (iN q h3 hq) h4 x hx
    ·right
     refine⟨z,e,fun q h3 x hx=>?_⟩
     by_cases hq:q=i
     ·subst hq; rw [el] at hx; cases hx; exact hg
     ·exact j4 q (iN q h3 hq) x hx
  ·have d:decide ((i:Int)<(l.length:Int))=false:=by rw [decide_eq_false_iff_not]; omega
   rw [if_neg (by rw [d]; decide)]
   right
   refine⟨_,rfl,fun q h3 x hx=>?_⟩
   rw [V7 (by omega)] at hx; cases hx
theorem BB {f:Int→Option Bool}{g:Int→Bool}(hm:2000000≤m)(l:List Int)(hl:l.length≤1000000)(hf:∀x∈l,f x=some (g x)) :
  (∃j:Nat,cG.f m l f=some (j:Int)∧j<l.length∧(∀x,l[j]? = some x→g x=true)∧∀q,q<j→∀x,l[q]? = some x→g x=false)∨
  (cG.f m l f=some (-1)∧∀x∈l,g x=false):=by
 rcases xU (m:=m) l hl hf m 0 (Wk _) (by omega) with⟨j,e,j1,j2,j3,j4⟩| ⟨z,e,j4⟩
 ·left
  have e:cG.l0 m l f m 0=_:=e
  refine⟨j,by simp only [cG.f,e,Vu],j2,j3,fun q=>j4 q (Wk _)⟩
 ·right
  have e:cG.l0 m l f m 0=_:=e
  refine⟨by simp only [cG.f,e,Vu],fun x hx=>?_⟩
  obtain⟨q,hq⟩:=Wm hx
  exact j4 q (Wk _) x hq
theorem sZ {f:Int→Option Bool}{g:Int→Bool}(hm:2000000≤m)(l:List Int)(hl:l.length≤1000000)(hf:∀x∈l,f x=some (g x)):eA.f m l f=some (l.any g):=by
 unfold eA.f
 rcases BB hm l hl hf with⟨j,e,j1,j2,_⟩| ⟨e,h⟩
 ·rw [e,Vu]
  have h1:=Vz j1
  have:l.any g=true:=List.any_eq_true.2 ⟨_,VN h1,j2 _ h1⟩
  rw [this]
  rw [show decide ((j:Int)≥0)=true by rw [decide_eq_true_eq]; omega]
 ·rw [e,Vu]
  have:l.any g=false:=by
   rw [List.any_eq_false]
   intro x hx; simp [h x hx]
  rw [this]; rfl
theorem vX (hm:2000000≤m)(hs:s.aj=true)(l:List Int)(hl:l.length≤1000000):bV.f m s l=some (if l.all (fun n=>decide (Rg s.aa.length n)) then 0 else 1):=by
 unfold bV.f bH.f
 rw [hs]
 simp only [Vu,Wy,VE,if_false]
 rw [sZ hm l hl (g:=fun n=>!decide (Rg s.aa.length n)) (fun x _=>by simp only [cV.f,Bx,Vu])]
 rw [Vu]
 have:(l.any fun n=>!decide (Rg s.aa.length n)) = !(l.all fun n=>decide (Rg s.aa.length n)):=by
  induction l with
  | nil=>rfl
  | cons a l ih=>simp only [List.any_cons,Wi,Bool.not_and,ih (by simp only [VH] at hl; omega)]
 rw [this]
 cases (l.all fun n=>decide (Rg s.aa.length n))<;>rfl
end
end Go.Proofs.Ytifafejidnjckaa
namespace Go.Proofs.Ytifafejidnjckaa
open Go Go.R Go.Uf
open Go.IntKind (i64 u64 u8 u32)
section
variable {m:Nat}{s s':ab}
theorem pW {f:Int→Option Bool}{g:Int→Bool}(l:List Int)(hl:l.length≤1000000)(hf:∀x∈l,f x=some (g x)):∀(k:Nat) (s1:List Int) (i j:Nat),i≤j→i<l.length→j≤l.length→l.length - j<k→s1.length=l.length→s1.take i=(l.take j).filter (fun x=>!g x)→s1.drop j=l.drop j→
  ∃(s2:List Int) (i2:Nat) (z:Int),dJ.l0 m l f k s1 (i:Int) (j:Int)=some (s2,(i2:Int),z)∧i2≤l.length∧s2.length=l.length∧s2.take i2=l.filter (fun x=>!g x)
 | 0,s1,i,j,h1,_,h2,h3,_,_,_=>by omega
 | k+1,s1,i,j,h1,h0,h2,h3,h4,h5,h6=>by
  simp only [dJ.l0]
  by_cases hj:j<l.length
  ·have d:decide ((j:Int)<(l.length:Int))=true:=by rw [decide_eq_true_eq]; omega
   have el:=Vz hj
   have e1:s1[j]? = some l[j]:=by
    have:=congrArg (fun z=>z[0]?) h6
    simp only [List.getElem?_drop,W5] at this
    rw [this,el]
   have et:l.take (j+1)=l.take j++[l[j]]:=(Wp hj)
   have PX:i64.wrap ((j:Int)+1)=((j+1:Nat):Int):=by rw [kY (by omega) (by omega)]; omega
   have T6:i64.wrap ((i:Int)+1)=((i+1:Nat):Int):=by rw [kY (by omega) (by omega)]; omega
   have hd:∀s3:List Int,s3.drop j=l.drop j→s3.drop (j+1)=l.drop (j+1):=fun s3 h=>by
    rw [W4,←List.drop_drop,←List.drop_drop] at *
    rw [W4] at *
    have a1:(s3.drop j).drop 1=(l.drop j).drop 1:=by rw [h]
    simpa [List.drop_drop,W4] using a1
   rw [if_pos d,yz e1]
   simp only [Vu,hf _ (VN el),PX,T6]
   cases hg:g l[j] with
   | true=>
    rw [if_neg (by decide)]
    exact pW l hl hf k s1 i (j+1) (by omega) h0 (by omega) (by omega) h4 (by rw [et,List.filter_append,h5]; simp [hg]) (hd s1 h6)
   | false=>
    rw [if_pos (by decide)]
    have i1:i<s1.length:=by omega
    have e2:=Vz i1
    rw [yz e2,Vu,VF]
    by_cases hi:i+1<l.length
    ·refine pW l hl hf k (s1.set i l[j]) (i+1) (j+1) (by omega) hi (by omega) (by omega) (by rw [VG,h4]) ?_ ?_
     ·rw [et,List.filter_append,←h5]
      have:(s1.set i l[j]).take (i+1)=s1.take i++[l[j]]:=by
       rw [Wp (by rw [VG]; exact i1)]
       rw [List.take_set_of_le (Vy _),List.getElem_set_self]
      rw [this]; simp [hg]
     ·rw [List.drop_set_of_lt (by omega)]
      exact hd s1 h6
    ·
     have Cd:j+1=l.length:=by omega
     have yv:i=j:=by omega
     cases k with
     | zero=>omega
     | succ k=>
      simp only [dJ.l0]
      have d2:decide (((j+1:Nat):Int)<(l.length:Int))=false:=by rw [decide_eq_false_iff_not]; omega
      rw [if_neg (by rw [d2]; decide)]
      refine⟨_,i+1,_,rfl,by omega,by rw [VG,h4],?_⟩
      have:(s1.set i l[j]).take (i+1)=s1.take i++[l[j]]:=by
       rw [Wp (by rw [VG]; exact i1)]
       rw [List.take_set_of_le (Vy _),List.getElem_set_self]
      have Mj:l=l.take j++[l[j]]:=by rw [←et,Cd,W6]
      rw [this,h5]
      conv=>rhs; rw [Mj]
      rw [List.filter_append]; simp [hg]
  ·have d:decide ((j:Int)<(l.length:Int))=false:=by rw [decide_eq_false_iff_not]; omega
   rw [if_neg (by rw [d]; decide)]
   have Cd:j=l.length:=by omega
   refine⟨_,i,_,rfl,by omega,h4,?_⟩
   rw [h5,Cd,W6]
theorem Fg {f:Int→Option Bool}{g:Int→Bool}(hm:2000000≤m)(l:List Int)(hl:l.length≤1000000)(hf:∀x∈l,f x=some (g x)):dJ.f m l f=some (l.filter fun x=>!g x):=by
 unfold dJ.f
 rcases BB hm l hl hf with⟨j,e,j1,j2,j3⟩| ⟨e,h⟩
 ·rw [e,Vu]
  have hne:((j:Int) == -1)=false:=by rw [beq_eq_false_iff_ne]; omega
  have PX:i64.wrap ((j:Int)+1)=((j+1:Nat):Int):=by rw [kY (by omega) (by omega)]; omega
  have el:=Vz j1
  obtain⟨s2,i2,z,e2,g1,g2,g3⟩:=pW (m:=m) l hl hf m l j (j+1) (by omega) j1 (by omega) (by omega) rfl (by
   rw [Wp j1,List.filter_append]
   have:(l.take j).filter (fun x=>!g x)=l.take j:=by
    rw [List.filter_eq_self]
    intro x hx
    obtain⟨q,hq⟩:=Wm hx
    have PY:q<j:=by
     have:=(VB.1 hq).1
     rw [Wl] at this; omega
    rw [List.getElem?_take_of_lt PY] at hq
    rw [j3 q PY x hq]; rfl
   rw [this]; simp [j2 _ el]) rfl
  rw [hne,if_neg (by decide),PX,e2]
  simp only [Vu]
  have hc:Ku s2 (i2:Int)=some (s2.take i2++VM (s2.length - i2) 0):=by
   unfold Ku; rw [if_pos ⟨WK _,by omega⟩,VF]
  rw [hc,Vu]
  have hs:sk (s2.take i2++VM (s2.length - i2) 0) 0 (i2:Int)=some (s2.take i2):=by
   unfold sk
   rw [if_pos ⟨Int.le_refl _,WK _,by rw [VD,Wl,WZ]; omega⟩]
   congr 1
   simp only [VF,Int.toNat_zero,Wd,Nat.sub_zero]
   rw [V3 (by rw [Wl]; omega),List.take_take,Nat.min_self]
  rw [hs,g3]; rfl
 ·rw [e,Vu]
  have hb:((-1:Int) == -1)=true:=rfl
  rw [hb,if_pos rfl]
  congr 1
  rw [eq_comm,List.filter_eq_self]
  intro x hx; rw [h x hx]; rfl
def T7 (N:List aq)(l:List Int):List Int:=kQ (l.filter fun n=>(gD N n).kind==0)
theorem BC (hm:2000000≤m){l:List Int}(hl:l.length≤8000)(hr:∀n∈l,Rg s.aa.length n):cy.f m s l=some (T7 s.aa l):=by
 unfold cy.f
 have h1:De 8 (l.length:Int) (0:Int)=some (VM l.length 0):=by
  unfold De; rw [if_pos ⟨WK _,by rw [VF]; omega⟩,VF]
 have h2:LK (VM l.length (0:Int)) l=some l:=by
  unfold LK; rw [if_pos (by rw [WZ]; exact Vy _)]; simp
 rw [h1,Vu,h2,Vu]
 rw [Fg hm l (by omega) (g:=fun n=>!((gD s.aa n).kind==0)) (fun x hx=>by simp only [cW.f,zw (hr x hx),Vu])]
 simp only [Vu,Bool.not_not]
 rfl
theorem xV (hm:2000000≤m)(v:Inv s)(c:Cl s.aa (rp s.ae)){a b:Int}(ha:Rg s.aa.length a)(hb:Rg s.aa.length b) :
  ∃l ok s',az.f m s a b=some (l,ok,s')∧CS s s' l∧Inv s'∧l.length≤8000∧
   (ok=false→∀T,Cl s.aa T→fu s.aa (rp s.ae) T→T a=T b→False)∧
   (ok=true→Cl s.aa (rp s'.ae)∧fu s.aa (rp s.ae) (rp s'.ae)∧rp s'.ae a=rp s'.ae b∧∀T,Cl s.aa T→fu s.aa (rp s.ae) T→T a=T b→fu s.aa (rp s'.ae) T):=by
 have n1:=vT s.ae
 have n2:=v.len
 have n3:=v.max
 obtain⟨out,e1,e2⟩:=pV (m:=m) (by omega) m s [] [⟨a,b⟩] 0 (by simp) (by simp only [VH,VS]; omega) (by simp only [VH,VS]; omega) (by simp) v
  (fun p hp=>by simp only [VV] at hp; subst hp; exact⟨ha,hb⟩) (by
   rw [Wd]; exact Hn c v.args)
 have e1:az.l0 m m [] [⟨a,b⟩] 0 s=some out:=e1
 unfold az.f
 rw [e1,Vu]
 match out,e2 with
 | .inl (Fe,b',s'),⟨tq,l,e,u,v',hl,hT⟩=>
  subst tq
  rw [V9] at e hl
  subst e
  exact⟨Fe,false,s',rfl,u,v',hl,fun _ T cT sT pT=>hT T cT sT fun p hp=>by
   simp only [Wd,VX,WU,VV] at hp; subst hp; exact pT,fun h=>by cases h⟩
 | .inr (Fe,Ij,i',s'),⟨l,e,u,v',hl,hc,hs,hq,hT⟩=>
  rw [V9] at e hl
  subst e
  exact⟨Fe,true,s',rfl,u,v',hl,(fun h=>by cases h),fun _=>⟨hc,hs,hq (a,b) (by simp [wz]),fun T cT sT pT=>hT T cT sT fun p hp=>by
   simp only [Wd,VX,WU,VV] at hp; subst hp; exact pT⟩⟩
structure Inv2 (s:ab):Prop where
 inv:Inv s
 cl:Cl s.aa (rp s.ae)
def jw (s:ab)(l:List Int):Bool:=l.all fun n=>decide (Rg s.aa.length n)
theorem zx {a b:Int}(h:jw s [a,b]=true):Rg s.aa.length a∧Rg s.aa.length b:=by
 simpa [jw] using h
theorem BD (hm:2000000≤m)(v:Inv2 s)(a b:Int):∃l e s',cz.f m s a b=some (l,e,s')∧Inv2 s'∧s'.aj=s.aj∧s'.aa=s.aa∧
  ((jw s [a,b]=false∧e=1∧s'=s)∨
   (jw s [a,b]=true∧e=8∧s'=s∧∀T,Cl s.aa T→fu s.aa (rp s.ae) T→T a=T b→False)∨
   (jw s [a,b]=true∧e=0∧fu s.aa (rp s.ae) (rp s'.ae)∧rp s'.ae a=rp s'.ae b∧∀T,Cl s.aa T→fu s.aa (rp s.ae) T→T a=T b→fu s.aa (rp s'.ae) T)):=by
 unfold cz.f
 rw [vX hm v.inv.made [a,b] (by simp)]
 show ∃l e s',((some (if jw s [a,b]=true then (0:Int) else 1)).bind _)=_∧_
 rw [Vu]
 cases hn:jw s [a,b] with
 | false=>
  refine⟨[],1,s,by simp,v,rfl,rfl,.inl ⟨rfl,rfl,rfl⟩⟩
 | true=>
  obtain⟨ra,rb⟩:=zx hn
  obtain⟨l,ok,s',e,u,v',hl,h1,h2⟩:=xV hm v.inv v.cl ra rb
  have e0:(!((if true=true then (0:Int) else 1)==0))=false:=rfl
  rw [e0,if_neg (by decide),e,Vu]
  cases ok with
  | false=>
   rw [if_pos (show (!(l,false,s').2.1)=true from rfl)]
   simp only [Ff (m:=m) (by omega) hl u,Vu]
   exact⟨_,_,s,rfl,v,rfl,rfl,.inr (.inl ⟨by simp,rfl,rfl,h1 rfl⟩)⟩
  | true=>
   rw [if_neg (show ¬(!(l,true,s').2.1)=true by simp)]
   have eN:s'.aa=s.aa:=u.2.1
   simp only []
   rw [BC hm hl (fun n hn=>by rw [eN,←v.inv.len]; exact (u.2.2.2.1 n hn).1)]
   obtain⟨k1,k2,k3,k4⟩:=h2 rfl
   exact⟨_,_,s',rfl,⟨v',by rw [eN]; exact k1⟩,u.1,eN,.inr (.inr ⟨by simp,rfl,k2,k3,k4⟩)⟩
theorem J0 (hm:2000000≤m)(v:Inv2 s)(a b:Int):∃t l e,dw.f m s a b=some (t,l,e,s):=by
 unfold dw.f
 rw [vX hm v.inv.made [a,b] (by simp)]
 show ∃t l e,((some (if jw s [a,b]=true then (0:Int) else 1)).bind _)=_
 rw [Vu]
 cases hn:jw s [a,b] with
 | false=>exact⟨0,[],1,by simp⟩
 | true=>
  obtain⟨ra,rb⟩:=zx hn
  obtain⟨l,ok,s',e,u,v',hl,h1,h2⟩:=xV hm v.inv v.cl ra rb
  have e0:(!((if true=true then (0:Int) else 1)==0))=false:=rfl
  rw [e0,if_neg (by decide),e,Vu]
  simp only [Ff (m:=m) (by omega) hl u,Vu]
  rw [BC hm hl (fun n hn=>by rw [←v.inv.len]; exact (u.2.2.2.1 n hn).1)]
  simp only [Vu]
  cases ok with
  | false=>exact⟨0,[],0,by simp⟩
  | true=>
   rw [if_neg (by simp)]
   split
   ·exact⟨_,_,_,rfl⟩
   ·exact⟨_,_,_,rfl⟩
theorem Mk (hm:2000000≤m)(v:Inv s)(n:Int):dN.f m s n=some (if Rg s.aa.length n then (rp s.ae n,0) else (0,1)):=by
 unfold dN.f
 rw [vX hm v.made [n] (by simp)]
 by_cases h:Rg s.aa.length n
 ·simp [h,Fb (m:=m) (by omega) v h]
 ·simp [h]
end
end Go.Proofs.Ytifafejidnjckaa
namespace Go.R
open Go
open Go.IntKind (i64 u64 u8 u32)
theorem Fh (x:Int):u64.wrap x=x % 18446744073709551616:=by
 unfold IntKind.wrap; simp [IntKind.signed,IntKind.bits]
theorem J1 {x:Int}(h0:0≤x)(h1:x<18446744073709551616):u64.wrap x=x:=by
 rw [Fh,Int.emod_eq_of_lt h0 h1]
theorem Fi (x:Int):i64.wrap x=if x % 18446744073709551616≥9223372036854775808 then x % 18446744073709551616 - 18446744073709551616 else x % 18446744073709551616:=by
 unfold IntKind.wrap; simp [IntKind.signed,IntKind.bits]
theorem bI {x:Int}(h0 : -9223372036854775808≤x)(h1:x<9223372036854775808):i64.wrap x=x:=by
 rw [Fi]; split<;>omega
end Go.R
namespace Go.Proofs.Ytifafejidnjckaa
open Go Go.R
open Go.IntKind (i64 u64 u8 u32)
def gt (l:List Int)(k:Nat):Int:=l.getD k 0
theorem en {l:List Int}{k:Nat}(h:k<l.length):l[k]? = some (gt l k):=by
 unfold gt; rw [VQ,Vz h]; rfl
theorem bQ {l:List Int}{k:Nat}(h:k<l.length):gt l k∈l:=VN (en h)
theorem fJ {l:List Int}{k:Nat}(h:k<l.length):ix l (k:Int)=some (gt l k):=by
 unfold ix; rw [if_pos (by omega),VF,en h]
theorem zy {l:List Int}{i:Int}{k:Nat}(hi:i=(k:Int))(h:k<l.length):ix l i=some (gt l k):=by rw [hi,fJ h]
theorem pX {l:List Int}{i k:Nat}{x:Int}(hi:i<l.length):gt (l.set i x) k=if k=i then x else gt l k:=by
 unfold gt
 simp only [VQ,W3]
 by_cases h:i=k
 ·subst h; simp [hi]
 ·rw [if_neg h,if_neg (by omega)]
theorem J2 {l r:List Int}(hl:l.length=r.length)(h:∀k,k<l.length→gt l k=gt r k):l=r:=by
 apply W2 fun k=>?_
 by_cases hk:k<l.length
 ·rw [en hk,en (hl ▸ hk),h k hk]
 ·rw [V7 (by omega),V7 (by omega)]
def swp (l:List Int)(i j:Nat):List Int:=(l.set i (gt l j)).set j (gt l i)
theorem pf {l:List Int}{i j:Nat}(hi:i<l.length)(hj:j<l.length):(swp l i j).Perm l:=by
 have h1:gt l j=l[j]:=by have:=en hj; rw [Vz hj] at this; exact (Wg this).symm
 have h2:gt l i=l[i]:=by have:=en hi; rw [Vz hi] at this; exact (Wg this).symm
 unfold swp; rw [h1,h2]; exact List.set_set_perm hi hj
theorem lL {l:List Int}{i j k:Nat}(hi:i<l.length)(hj:j<l.length):gt (swp l i j) k=if k=j then gt l i else if k=i then gt l j else gt l k:=by
 unfold swp
 rw [pX (by simpa using hj),pX hi]
theorem s7 {l:List Int}{i j:Nat}:(swp l i j).length=l.length:=by simp [swp]
theorem xW {a b:Nat}(h:a+b<9223372036854775808):i64.wrap (jl .u64 (u64.wrap (i64.wrap ((a:Int)+(b:Int)))) 1)=(((a+b) / 2:Nat):Int):=by
 rw [bI (x:=(a:Int)+b) (by omega) (by omega),J1 (by omega) (by omega)]
 have:jl .u64 ((a:Int)+(b:Int)) 1=(((a+b) / 2:Nat):Int):=by
  unfold jl
  rw [Int.fdiv_eq_ediv_of_nonneg _ (by decide)]
  show ((a:Int)+(b:Int)) / 2=_
  omega
 rw [this,bI (by omega) (by omega)]
theorem Fj {m:Nat}{l:List Int}{a b n:Nat}(h1:a+n≤b)(h2:b+n≤l.length)(hl:l.length<2 ^ 40):∀(f i:Nat) (d:List Int),n - i<f→i≤n→d.Perm l→
  (∀k,gt d k=if a≤k∧k<a+i then gt l (k - a+b) else if b≤k∧k<b+i then gt l (k - b+a) else gt l k)→
  ∃d' x,bT.l0 m (a:Int) (b:Int) (n:Int) f d (i:Int)=some (d',x)∧d'.Perm l∧(∀k,gt d' k=if a≤k∧k<a+n then gt l (k - a+b) else if b≤k∧k<b+n then gt l (k - b+a) else gt l k)
 | 0,i,d,hf,_,_,_=>absurd hf (by omega)
 | f+1,i,d,hf,hi,hp,hg=>by
  have tz:(2:Nat) ^ 40=1099511627776:=by decide
  have PZ:=hp.length_eq
  unfold bT.l0
  by_cases h:i<n
  ·have e1:i64.wrap ((b:Int)+(i:Int))=((b+i:Nat):Int):=by rw [bI (by omega) (by omega)]; omega
   have e2:i64.wrap ((a:Int)+(i:Int))=((a+i:Nat):Int):=by rw [bI (by omega) (by omega)]; omega
   have e3:i64.wrap ((i:Int)+1)=((i+1:Nat):Int):=by rw [bI (by omega) (by omega)]; omega
   rw [if_pos (by simp; omega),e1,e2,e3,fJ (by omega),fJ (by omega),VF,VF,Vu,Vu,Vu,fJ (by simp; omega),Vu]
   show ∃d' x,bT.l0 m (a:Int) (b:Int) (n:Int) f (swp d (a+i) (b+i)) ((i+1:Nat):Int)=some (d',x)∧_
   refine Fj h1 h2 hl f (i+1) _ (by omega) (by omega) ((pf (by omega) (by omega)).trans hp) fun k=>?_
   rw [lL (by omega) (by omega),hg,hg,hg]
   by_cases k1:k=b+i
   ·subst k1
    rw [if_pos rfl,if_neg (by omega),if_neg (by omega),if_neg (by omega),if_pos (by omega)]
    congr 1; omega
   ·rw [if_neg k1]
    by_cases k2:k=a+i
    ·subst k2
     rw [if_pos rfl,if_neg (by omega),if_neg (by omega),if_pos (by omega)]
     congr 1; omega
    ·rw [if_neg k2]
     by_cases k3:a≤k∧k<a+i
     ·rw [if_pos k3,if_pos (by omega)]
     ·rw [if_neg k3,if_neg (show ¬(a≤k∧k<a+(i+1)) by omega)]
      by_cases k4:b≤k∧k<b+i
      ·rw [if_pos k4,if_pos (by omega)]
      ·rw [if_neg k4,if_neg (by omega)]
  ·have:i=n:=by omega
   subst this
   exact⟨d,i,by rw [if_neg (by simp)],hp,hg⟩
theorem s8 {m:Nat}{l:List Int}{a b n:Nat}{cmp:Int→Int→Option Int}(h1:a+n≤b)(h2:b+n≤l.length)(hl:l.length<2 ^ 40)(hm:n<m) :
  ∃d',bT.f m l (a:Int) (b:Int) (n:Int) cmp=some d'∧d'.Perm l∧(∀k,gt d' k=if a≤k∧k<a+n then gt l (k - a+b) else if b≤k∧k<b+n then gt l (k - b+a) else gt l k):=by
 obtain⟨d',x,e,hp,hg⟩:=Fj (m:=m) h1 h2 hl m 0 l (by omega) (by omega) (List.Perm.refl _) (fun k=>by rw [if_neg (by omega),if_neg (by omega)])
 have e:bT.l0 m (a:Int) (b:Int) (n:Int) m l 0=_:=e
 exact⟨d',by unfold bT.f; rw [e]; rfl,hp,hg⟩
def KA (l d:List Int)(p i j:Nat):Prop:=d.Perm l∧(∀k,k<j→gt d (p+k)=gt l (p+i+k))∧(∀k,k<i→gt d (p+j+k)=gt l (p+k))∧∀k,k<p∨p+i+j≤k→gt d k=gt l k
theorem zz {m:Nat}{q:Nat}{cmp:Int→Int→Option Int}(hm:2 ^ 41≤m):∀(f i j:Nat) (l:List Int),i+j<f→0<i→0<j→i≤q→q+j≤l.length→l.length<2 ^ 40→
  ∃(d':List Int) (x:Nat) (d:List Int),eU.l0 m (q:Int) cmp f l (i:Int) (j:Int)=some (d',(x:Int),(x:Int))∧bT.f m d' (i64.wrap ((q:Int) - (x:Int))) (q:Int) (x:Int) cmp=some d∧KA l d (q - i) i j
 | 0,i,j,l,hf,_,_,_,_,_=>absurd hf (by omega)
 | f+1,i,j,l,hf,hi,hj,hq,hl,hs=>by
  have tz:(2:Nat) ^ 40=1099511627776:=by decide
  have yA:(2:Nat) ^ 41=2199023255552:=by decide
  unfold eU.l0
  have e1:i64.wrap ((q:Int) - (i:Int))=((q - i:Nat):Int):=by rw [bI (by omega) (by omega)]; omega
  by_cases h:i=j
  ·subst h
   rw [if_neg (by simp)]
   obtain⟨d,e,hp,hg⟩:=s8 (m:=m) (l:=l) (a:=q - i) (b:=q) (n:=i) (cmp:=cmp) (by omega) (by omega) hs (by omega)
   refine⟨l,i,d,rfl,by rw [e1,e],hp,fun k hk=>?_,fun k hk=>?_,fun k hk=>?_⟩
   ·rw [hg,if_pos (by omega)]; congr 1; omega
   ·rw [hg,if_neg (by omega),if_pos (by omega)]; congr 1; omega
   ·rw [hg,if_neg (by omega),if_neg (by omega)]
  ·rw [if_pos (by simp; omega)]
   by_cases h2:j<i
   ·obtain⟨d1,e,hp,hg⟩:=s8 (m:=m) (l:=l) (a:=q - i) (b:=q) (n:=j) (cmp:=cmp) (by omega) (by omega) hs (by omega)
    have hd:=hp.length_eq
    have e2:i64.wrap ((i:Int) - (j:Int))=((i - j:Nat):Int):=by rw [bI (by omega) (by omega)]; omega
    rw [if_pos (by simp; omega),e1,e,Vu,e2]
    obtain⟨d',x,d,k1,k2,k3,k4,k5,k6⟩:=zz (q:=q) (cmp:=cmp) hm f (i - j) j d1 (by omega) (by omega) hj (by omega) (by omega) (by omega)
    refine⟨d',x,d,k1,k2,k3.trans hp,fun k hk=>?_,fun k hk=>?_,fun k hk=>?_⟩
    ·rw [k6 _ (by omega),hg,if_pos (by omega)]; congr 1; omega
    ·by_cases P3:k<j
     ·have:=k4 k P3
      rw [show q - (i - j)+k=q - i+j+k by omega,hg,if_neg (by omega),if_pos (by omega)] at this
      rw [this]; congr 1; omega
     ·have:=k5 (k - j) (by omega)
      rw [show q - (i - j)+j+(k - j)=q - i+j+k by omega,hg,if_neg (by omega),if_neg (by omega)] at this
      rw [this]; congr 1; omega
    ·rw [k6 _ (by omega),hg,if_neg (by omega),if_neg (by omega)]
   ·have e2:i64.wrap (i64.wrap ((q:Int)+(j:Int)) - (i:Int))=((q+j - i:Nat):Int):=by rw [bI (x:=(q:Int)+j) (by omega) (by omega),bI (by omega) (by omega)]; omega
    have e3:i64.wrap ((j:Int) - (i:Int))=((j - i:Nat):Int):=by rw [bI (by omega) (by omega)]; omega
    obtain⟨d1,e,hp,hg⟩:=s8 (m:=m) (l:=l) (a:=q - i) (b:=q+j - i) (n:=i) (cmp:=cmp) (by omega) (by omega) hs (by omega)
    have hd:=hp.length_eq
    rw [if_neg (by simp; omega),e1,e2,e,Vu,e3]
    obtain⟨d',x,d,k1,k2,k3,k4,k5,k6⟩:=zz (q:=q) (cmp:=cmp) hm f i (j - i) d1 (by omega) hi (by omega) hq (by omega) (by omega)
    refine⟨d',x,d,k1,k2,k3.trans hp,fun k hk=>?_,fun k hk=>?_,fun k hk=>?_⟩
    ·by_cases P3:k<j - i
     ·rw [k4 k P3,hg,if_neg (by omega),if_neg (by omega)]
     ·have:=k5 (k - (j - i)) (by omega)
      rw [show q - i+(j - i)+(k - (j - i))=q - i+k by omega,hg,if_pos (by omega)] at this
      rw [this]; congr 1; omega
    ·rw [k6 _ (by omega),hg,if_neg (by omega),if_pos (by omega)]; congr 1; omega
    ·rw [k6 _ (by omega),hg,if_neg (by omega),if_neg (by omega)]
theorem Fk {m:Nat}{a q b:Nat}{cmp:Int→Int→Option Int}{l:List Int}(hm:2 ^ 41≤m)(h1:a<q)(h2:q<b)(h3:b≤l.length)(hs:l.length<2 ^ 40) :
  ∃d,eU.f m l (a:Int) (q:Int) (b:Int) cmp=some d∧KA l d a (q - a) (b - q):=by
 have tz:(2:Nat) ^ 40=1099511627776:=by decide
 have yA:(2:Nat) ^ 41=2199023255552:=by decide
 obtain⟨d',x,d,k1,k2,k3⟩:=zz (q:=q) (cmp:=cmp) hm m (q - a) (b - q) l (by omega) (by omega) (by omega) (by omega) (by omega) hs
 rw [show q - (q - a)=a by omega] at k3
 refine⟨d,?_,k3⟩
 unfold eU.f
 rw [show i64.wrap ((q:Int) - (a:Int))=((q - a:Nat):Int) by rw [bI (by omega) (by omega)]; omega,show i64.wrap ((b:Int) - (q:Int))=((b - q:Nat):Int) by rw [bI (by omega) (by omega)]; omega,k1,Vu]
 dsimp only
 rw [k2]; rfl
end Go.Proofs.Ytifafejidnjckaa
namespace Go.Proofs.Ytifafejidnjckaa
open Go Go.R
open Go.IntKind (i64 u64 u8 u32)
def nn (c:Int):Bool:=decide (97≤c∧c≤122)||decide (65≤c∧c≤90)||decide (48≤c∧c≤57)||c==95
theorem xX {m:Nat}(c:Int):fO.f m c=some (nn c):=by
 unfold fO.f
 by_cases h1:97≤c<;>by_cases h2:c≤122<;>by_cases h3:65≤c<;>by_cases h4:c≤90<;>by_cases h5:48≤c<;>by_cases h6:c≤57<;>simp [nn,h1,h2,h3,h4,h5,h6]<;>omega
theorem BE {s:ByteArray}{i:Nat}(h:i<s.size):∃c:UInt8,s.data.toList[i]? = some c∧bt s (i:Int)=some (c.toNat:Int):=by
 have h':i<s.data.toList.length:=by simpa using h
 refine⟨s.data.toList[i],Vz h',?_⟩
 unfold bt; rw [if_pos (by omega),VF,Vz h']; rfl
theorem BF {m:Nat}{s:ByteArray}(hs:s.size≤16):∀(f i:Nat),s.size - i<f→i≤s.size→
  ∃o,cP.l0 m s f (i:Int)=some o∧((∃x,o = .inr x)∧((s.data.toList.drop i).all fun c=>nn (c.toNat:Int))=true∨o = .inl false∧((s.data.toList.drop i).all fun c=>nn (c.toNat:Int))=false)
 | 0,i,hf,_=>absurd hf (by omega)
 | f+1,i,hf,hi=>by
  unfold cP.l0
  by_cases h:i<s.size
  ·obtain⟨c,hc,hb⟩:=BE h
   obtain⟨h4,h5⟩:=VB.1 hc
   have hd:s.data.toList.drop i=c::s.data.toList.drop (i+1):=by rw [←h5]; exact VI h4
   rw [if_pos (by simp only [decide_eq_true_eq]; omega),hb,Vu,xX,Vu,hd,Wi]
   cases hl:nn (c.toNat:Int) with
   | false=>exact⟨_,rfl,.inr ⟨rfl,rfl⟩⟩
   | true=>
    obtain⟨o,h1,h2⟩:=BF (m:=m) hs f (i+1) (by omega) (by omega)
    rw [if_neg (by simp),bI (by omega) (by omega),show (i:Int)+1=((i+1:Nat):Int) by omega,h1]
    exact⟨o,rfl,by simpa using h2⟩
  ·refine⟨_,by rw [if_neg (by simp only [decide_eq_true_eq]; omega)],.inl ⟨⟨_,rfl⟩,?_⟩⟩
   rw [WS (by simp; omega)]; rfl
def BG (s:ByteArray)(lo hi:Int):Bool:=match s.data.toList with
 | []=>false
 | c::cs=>decide (cs.length≤15)&&decide (lo≤(c.toNat:Int))&&decide ((c.toNat:Int)≤hi)&&((c::cs).all fun c=>nn (c.toNat:Int))
theorem CU {m:Nat}(hm:20≤m)(s:ByteArray)(lo hi:Int):cP.f m s lo hi=some (BG s lo hi):=by
 have hsz:s.size=s.data.toList.length:=by simp
 unfold cP.f BG
 cases hl:s.data.toList with
 | nil=>rw [if_pos (by rw [hl,VS] at hsz; simp only [decide_eq_true_eq]; omega)]
 | cons c cs=>
  rw [hl,VH] at hsz
  rw [if_neg (by simp only [decide_eq_true_eq]; omega)]
  dsimp only
  by_cases h16:cs.length≤15
  ·obtain⟨c',h1,h2⟩:=BE (s:=s) (i:=0) (by omega)
   rw [hl] at h1
   simp only [Wc,Vw] at h1
   subst h1
   have h2:bt s 0=_:=h2
   rw [if_neg (by simp only [decide_eq_true_eq]; omega),h2,Vu]
   by_cases h3:(c.toNat:Int)<lo
   ·rw [if_pos (by simpa using h3)]
    simp only [Vw]
    rw [show decide (lo≤(c.toNat:Int))=false by simp; omega]; simp
   rw [if_neg (by simpa using h3),Vu]
   by_cases h4:(c.toNat:Int) > hi
   ·rw [if_pos (by simpa using h4)]
    simp only [Vw]
    rw [show decide ((c.toNat:Int)≤hi)=false by simp; omega]; simp
   rw [if_neg (by simpa using h4)]
   obtain⟨o,k1,k2⟩:=BF (m:=m) (s:=s) (by omega) m 0 (by omega) (by omega)
   have k1:cP.l0 m s m 0=_:=k1
   rw [k1,Vu]
   rw [Wd,hl] at k2
   rw [show decide (lo≤(c.toNat:Int))=true by simp; omega,show decide ((c.toNat:Int)≤hi)=true by simp; omega,show decide (cs.length≤15)=true by simpa using h16]
   simp only [Xa]
   rcases k2 with⟨⟨x,rfl⟩,k⟩| ⟨rfl,k⟩
   ·rw [k]
   ·rw [k]
  ·rw [if_pos (by simp only [decide_eq_true_eq]; omega),show decide (cs.length≤15)=false by simp; omega]; rfl
def pg (s:ByteArray):Bool:=s.data.toList==[124]||s.data.toList==[35]||BG s 97 122
theorem np {m:Nat}(hm:20≤m)(s:ByteArray):fG.f m s=some (pg s):=by
 unfold fG.f pg
 show (if (s.data.toList==[124])=true then _ else if (s.data.toList==[35])=true then _ else _)=_
 cases h1:s.data.toList==[124] with
 | true=>rfl
 | false=>
  cases h2:s.data.toList==[35] with
  | true=>rfl
  | false=>rw [CU hm]; rfl
theorem uC {s:ByteArray}(h:pg s=true):1≤s.size∧s.size≤16:=by
 have hsz:s.size=s.data.toList.length:=by simp
 unfold pg at h
 simp only [Wf,beq_iff_eq] at h
 rcases h with (h | h) | h
 ·rw [h] at hsz; simp at hsz; omega
 ·rw [h] at hsz; simp at hsz; omega
 ·unfold BG at h
  split at h
  ·cases h
  ·rename_i c cs hl
   rw [hl] at hsz
   simp only [Vx,decide_eq_true_eq] at h
   simp at hsz; omega
def BH (s:ByteArray):Bool:=s.data.toList==[112,114,111,99]||s.data.toList==[99,101,108,108]||s.data.toList==[112,111,114,116]
theorem uD {m:Nat}(s:ByteArray):fV.f m s=some (BH s):=by
 unfold fV.f BH
 show (if (s.data.toList==[112,114,111,99])=true then _ else if (s.data.toList==[99,101,108,108])=true then _ else some (s.data.toList==[112,111,114,116]))=_
 cases h1:s.data.toList==[112,114,111,99] with
 | true=>rfl
 | false=>
  cases h2:s.data.toList==[99,101,108,108] with
  | true=>rfl
  | false=>rfl
theorem Fl {m:Nat}{s:List Int}{f0:Int→Option Bool}{g:Int→Bool}(hs:s.length<2 ^ 40)(C:∀x∈s,f0 x=some (g x)):∀(f i:Nat),s.length - i<f→i≤s.length→
  ∃o,cG.l0 m s f0 f (i:Int)=some o∧((∃x,o = .inr x)∧(s.drop i).any g=false∨(∃x:Nat,o = .inl (x:Int))∧(s.drop i).any g=true)
 | 0,i,hf,_=>absurd hf (by omega)
 | f+1,i,hf,hi=>by
  have tz:(2:Nat) ^ 40=1099511627776:=by decide
  unfold cG.l0
  by_cases h:i<s.length
  ·have hx:ix s (i:Int)=some s[i]:=by unfold ix; rw [if_pos (by omega)]; simp [h]
   rw [if_pos (by simp only [decide_eq_true_eq]; omega),hx,Vu,C _ (List.getElem_mem h),Vu,VI h,List.any_cons]
   cases g s[i] with
   | true=>exact⟨_,rfl,.inr ⟨⟨i,rfl⟩,rfl⟩⟩
   | false=>
    obtain⟨o,h1,h2⟩:=Fl (m:=m) hs C f (i+1) (by omega) (by omega)
    rw [if_neg (by simp),bI (by omega) (by omega),show (i:Int)+1=((i+1:Nat):Int) by omega,h1]
    exact⟨o,rfl,by simpa using h2⟩
  ·refine⟨_,by rw [if_neg (by simp only [decide_eq_true_eq]; omega)],.inl ⟨⟨_,rfl⟩,?_⟩⟩
   rw [WS (by omega)]; rfl
theorem CV {m:Nat}{s:List Int}{f0:Int→Option Bool}{g:Int→Bool}(hs:s.length<2 ^ 40)(hm:s.length<m)(C:∀x∈s,f0 x=some (g x)):eA.f m s f0=some (s.any g):=by
 obtain⟨o,h1,h2⟩:=Fl (m:=m) hs C m 0 (by omega) (by omega)
 have h1:cG.l0 m s f0 m 0=_:=h1
 unfold eA.f cG.f
 rw [h1,Vu]
 rw [Wd] at h2
 rcases h2 with⟨⟨x,rfl⟩,k⟩| ⟨⟨x,rfl⟩,k⟩
 ·rw [k]; rfl
 ·rw [k]
  simp only [Vu,Vw]
  simp
theorem Fm {m:Nat}{s:List aq}{f0:aq→Option Bool}{g:aq→Bool}(hs:s.length<2 ^ 40)(C:∀x∈s,f0 x=some (g x)):∀(f i:Nat),s.length - i<f→i≤s.length→
  ∃o,eT.l0 m s f0 f (i:Int)=some o∧((∃x,o = .inr x)∧(s.drop i).any g=false∨(∃x:Nat,o = .inl (x:Int))∧(s.drop i).any g=true)
 | 0,i,hf,_=>absurd hf (by omega)
 | f+1,i,hf,hi=>by
  have tz:(2:Nat) ^ 40=1099511627776:=by decide
  unfold eT.l0
  by_cases h:i<s.length
  ·have hx:ix s (i:Int)=some s[i]:=by unfold ix; rw [if_pos (by omega)]; simp [h]
   rw [if_pos (by simp only [decide_eq_true_eq]; omega),hx,Vu,C _ (List.getElem_mem h),Vu,VI h,List.any_cons]
   cases g s[i] with
   | true=>exact⟨_,rfl,.inr ⟨⟨i,rfl⟩,rfl⟩⟩
   | false=>
    obtain⟨o,h1,h2⟩:=Fm (m:=m) hs C f (i+1) (by omega) (by omega)
    rw [if_neg (by simp),bI (by omega) (by omega),show (i:Int)+1=((i+1:Nat):Int) by omega,h1]
    exact⟨o,rfl,by simpa using h2⟩
  ·refine⟨_,by rw [if_neg (by simp only [decide_eq_true_eq]; omega)],.inl ⟨⟨_,rfl⟩,?_⟩⟩
   rw [WS (by omega)]; rfl
theorem CW {m:Nat}{s:List aq}{f0:aq→Option Bool}{g:aq→Bool}(hs:s.length<2 ^ 40)(hm:s.length<m)(C:∀x∈s,f0 x=some (g x)):gN.f m s f0=some (s.any g):=by
 obtain⟨o,h1,h2⟩:=Fm (m:=m) hs C m 0 (by omega) (by omega)
 have h1:eT.l0 m s f0 m 0=_:=h1
 unfold gN.f eT.f
 rw [h1,Vu]
 rw [Wd] at h2
 rcases h2 with⟨⟨x,rfl⟩,k⟩| ⟨⟨x,rfl⟩,k⟩
 ·rw [k]; rfl
 ·rw [k]
  simp only [Vu,Vw]
  simp
def ph (n:aq)(size:Int):Bool:=
 if n.kind=0 then decide (0≤n.int)&&n.label.data.toList==[]&&n.args.isEmpty
 else if n.kind=1 then decide (-1099511627776≤n.int)&&decide (n.int≤1099511627776)&&n.label.data.toList==[]&&n.args.isEmpty
 else if n.kind=2 then n.int==0&&pg n.label&&n.args.isEmpty
 else if n.kind=3 then n.int==0&&pg n.label&&decide (1≤n.args.length)&&decide (n.args.length≤8)&&n.args.all fun a=>decide (0≤a)&&decide (a<size)
 else if n.kind=4 then decide (0≤n.int)&&BH n.label&&n.args.isEmpty
 else false
theorem Hq (l:List Int):((l.length:Int)==(0:Int))=l.isEmpty:=by cases l<;>simp; omega
theorem CX {m:Nat}(hm:20≤m)(n:aq)(size:Int):iy.f m n size=some (ph n size):=by
 unfold iy.f ph
 by_cases k0:n.kind=0
 ·rw [if_pos (by simpa using k0),if_pos k0]
  by_cases h1:0≤n.int
  ·rw [if_pos (by simpa using h1),show decide (0≤n.int)=true by simpa using h1]
   show (if (n.label.data.toList==[])=true then _ else _)=_
   cases n.label.data.toList==[] with
   | true=>rw [if_pos rfl,Hq]; rfl
   | false=>rfl
  ·rw [if_neg (by simpa using h1),show decide (0≤n.int)=false by simp; omega]; rfl
 rw [if_neg (by simpa using k0),if_neg k0]
 by_cases k1:n.kind=1
 ·rw [if_pos (by simpa using k1),if_pos k1]
  by_cases h1 : -1099511627776≤n.int
  ·rw [if_pos (by simpa using h1),show decide (-1099511627776≤n.int)=true by simpa using h1]
   by_cases h3:n.int≤1099511627776
   ·rw [if_pos (by simpa using h3),show decide (n.int≤1099511627776)=true by simpa using h3]
    show (if (n.label.data.toList==[])=true then _ else _)=_
    cases n.label.data.toList==[] with
    | true=>rw [if_pos rfl,Hq]; rfl
    | false=>rfl
   ·rw [if_neg (by simpa using h3),show decide (n.int≤1099511627776)=false by simp; omega]; rfl
  ·rw [if_neg (by simpa using h1),show decide (-1099511627776≤n.int)=false by simp; omega]; rfl
 rw [if_neg (by simpa using k1),if_neg k1]
 by_cases k2:n.kind=2
 ·rw [if_pos (by simpa using k2),if_pos k2]
  cases h1:n.int==0 with
  | false=>rfl
  | true=>
   rw [if_pos rfl,np hm,Vu]
   cases pg n.label with
   | false=>rfl
   | true=>rw [if_pos rfl,Hq]; rfl
 rw [if_neg (by simpa using k2),if_neg k2]
 by_cases k3:n.kind=3
 ·rw [if_pos (by simpa using k3),if_pos k3]
  cases h1:n.int==0 with
  | false=>rfl
  | true=>
   rw [if_pos rfl,np hm,Vu]
   cases pg n.label with
   | false=>rfl
   | true=>
    rw [if_pos rfl]
    by_cases g1:1≤n.args.length
    ·rw [if_pos (by simp only [decide_eq_true_eq]; omega),show decide (1≤n.args.length)=true by simpa using g1]
     by_cases g2:n.args.length≤8
     ·rw [if_pos (by simp only [decide_eq_true_eq]; omega),show decide (n.args.length≤8)=true by simpa using g2]
      rw [CV (g:=fun a=>!(decide (0≤a)&&decide (a<size))) (by omega) (by omega) (fun a _=>by
       unfold gL.f
       by_cases w:a<0
       ·rw [if_pos (by simpa using w),show decide (0≤a)=false by simp; omega]; rfl
       ·rw [if_neg (by simpa using w),show decide (0≤a)=true by simp; omega]
        by_cases w2:a<size
        ·rw [show decide (a≥size)=false from decide_eq_false (by omega),show decide (a<size)=true from decide_eq_true w2]; rfl
        ·rw [show decide (a≥size)=true from decide_eq_true (by omega),show decide (a<size)=false from decide_eq_false w2]; rfl),Vu]
      simp [List.not_any_eq_all_not]
     ·rw [if_neg (by simp only [decide_eq_true_eq]; omega),show decide (n.args.length≤8)=false from decide_eq_false g2]; rfl
    ·rw [if_neg (by simp only [decide_eq_true_eq]; omega),show decide (1≤n.args.length)=false from decide_eq_false g1]; rfl
 rw [if_neg (by simpa using k3),if_neg k3]
 by_cases k4:n.kind=4
 ·rw [if_pos (by simpa using k4),if_pos k4]
  by_cases h1:0≤n.int
  ·rw [if_pos (by simpa using h1),show decide (0≤n.int)=true by simpa using h1,uD,Vu]
   cases BH n.label with
   | false=>rfl
   | true=>rw [if_pos rfl,Hq]; rfl
  ·rw [if_neg (by simpa using h1),show decide (0≤n.int)=false by simp; omega]; rfl
 rw [if_neg (by simpa using k4),if_neg k4]
end Go.Proofs.Ytifafejidnjckaa
namespace Go.Proofs.Ytifafejidnjckaa
open Go Go.R
open Go.IntKind (i64 u64 u8 u32)
structure Mv (lo hi:Nat)(l d:List Int):Prop where
 perm:d.Perm l
 out:∀k,k<lo∨hi≤k→gt d k=gt l k
 im:∀k,lo≤k→k<hi→∃k',lo≤k'∧k'<hi∧gt d k=gt l k'
theorem Mv.refl {lo hi:Nat}{l:List Int}:Mv lo hi l l:=⟨List.Perm.refl _,fun _ _=>rfl,fun k h1 h2=>⟨k,h1,h2,rfl⟩⟩
theorem Mv.trans {lo hi:Nat}{l d e:List Int}(a:Mv lo hi l d)(b:Mv lo hi d e):Mv lo hi l e:=
 ⟨b.perm.trans a.perm,fun k hk=>(b.out k hk).trans (a.out k hk),fun k h1 h2=>by
  obtain⟨k',g1,g2,g3⟩:=b.im k h1 h2
  obtain⟨T8,g4,g5,g6⟩:=a.im k' g1 g2
  exact⟨T8,g4,g5,g3.trans g6⟩⟩
theorem Mv.length {lo hi:Nat}{l d:List Int}(a:Mv lo hi l d):d.length=l.length:=a.perm.length_eq
theorem Mv.wide {lo hi F7 jI:Nat}{l d:List Int}(a:Mv lo hi l d)(h1:F7≤lo)(h2:hi≤jI):Mv F7 jI l d:=
 ⟨a.perm,fun k hk=>a.out k (by omega),fun k h3 h4=>by
  by_cases h:lo≤k∧k<hi
  ·obtain⟨k',g1,g2,g3⟩:=a.im k h.1 h.2
   exact⟨k',by omega,by omega,g3⟩
  ·exact⟨k,h3,h4,a.out k (by omega)⟩⟩
theorem zA {lo hi i j:Nat}{l:List Int}(MJ:lo≤i)(zS:i<hi)(Ig:lo≤j)(Cd:j<hi)(h:hi≤l.length):Mv lo hi l (swp l i j):=
 ⟨pf (by omega) (by omega),fun k hk=>by rw [lL (by omega) (by omega),if_neg (by omega),if_neg (by omega)],fun k h1 h2=>by
  rw [lL (by omega) (by omega)]
  split
  ·exact⟨i,MJ,zS,rfl⟩
  split
  ·exact⟨j,Ig,Cd,rfl⟩
  ·exact⟨k,h1,h2,rfl⟩⟩
def Cm (cmp:Int→Int→Option Int)(c:Int→Int→Int)(l:List Int):Prop:=∀x∈l,∀y∈l,cmp x y=some (c x y)
theorem Cm.perm {cmp c l d}(h:Cm cmp c l)(p:List.Perm d l):Cm cmp c d:=fun x hx y hy=>h x (p.mem_iff.1 hx) y (p.mem_iff.1 hy)
theorem Cm.at {cmp c}{l:List Int}(h:Cm cmp c l){i j:Nat}(hi:i<l.length)(hj:j<l.length):cmp (gt l i) (gt l j)=some (c (gt l i) (gt l j)):=h _ (bQ hi) _ (bQ hj)
structure Ord (c:Int→Int→Int)(l:List Int):Prop where
 tr:∀x∈l,∀y∈l,∀z∈l,0≤c y x→0≤c z y→0≤c z x
 KB:∀x∈l,∀y∈l,c x y<0→0≤c y x
theorem Ord.perm {c l d}(h:Ord c l)(p:List.Perm d l):Ord c d:=⟨fun x hx y hy z hz=>h.tr x (p.mem_iff.1 hx) y (p.mem_iff.1 hy) z (p.mem_iff.1 hz),fun x hx y hy=>h.KB x (p.mem_iff.1 hx) y (p.mem_iff.1 hy)⟩
def Sg (c:Int→Int→Int)(l:List Int)(a b:Nat):Prop:=∀i j,a≤i→i<j→j<b→0≤c (gt l j) (gt l i)
theorem Fo {m:Nat}{a i:Nat}{cmp:Int→Int→Option Int}{c:Int→Int→Int}:∀(f j:Nat) (d:List Int),j - a<f→a≤j→j≤i→i<d.length→d.length<2 ^ 40→Cm cmp c d→
  ∃d' x,aT.l1 m (a:Int) cmp f d (j:Int)=some (d',x)∧Mv a (i+1) d d'∧
   (Ord c d→(∀x y,a≤x→x<y→y≤i→x≠j→y≠j→0≤c (gt d y) (gt d x))→(∀y,j<y→y≤i→0≤c (gt d y) (gt d j))→Sg c d' a (i+1))
 | 0,j,d,hf,_,_,_,_,_=>absurd hf (by omega)
 | f+1,j,d,hf,h1,h2,h3,hs,C=>by
  have tz:(2:Nat) ^ 40=1099511627776:=by decide
  unfold aT.l1
  by_cases h:a<j
  ·have e1:i64.wrap ((j:Int) - 1)=((j - 1:Nat):Int):=by rw [bI (by omega) (by omega)]; omega
   rw [if_pos (by simp; omega),e1,fJ (by omega),fJ (by omega),Vu,Vu,C.at (by omega) (by omega),Vu]
   by_cases hc:c (gt d j) (gt d (j - 1))<0
   ·rw [if_pos (by simpa using hc),Vu,Vu,Vu,VF,VF,fJ (by simp; omega),Vu]
    obtain⟨d',x,k1,k2,k3⟩:=Fo (m:=m) (a:=a) (i:=i) (cmp:=cmp) (c:=c) f (j - 1) (swp d j (j - 1)) (by omega) (by omega) (by omega) (by rw [s7]; omega) (by rw [s7]; omega) (C.perm (pf (by omega) (by omega)))
    refine⟨d',x,k1,(zA (by omega) (by omega) (by omega) (by omega) (by omega)).trans k2,fun O g1 g2=>k3 (O.perm (pf (by omega) (by omega))) (fun x y x1 x2 x3 x4 x5=>?_) (fun y y1 y2=>?_)⟩
    ·rw [lL (by omega) (by omega),lL (by omega) (by omega),if_neg x5,if_neg x4]
     by_cases hy:y=j
     ·subst hy
      rw [if_pos rfl,if_neg (by omega)]
      exact g1 _ _ (by omega) (by omega) (by omega) (by omega) (by omega)
     ·rw [if_neg hy]
      by_cases hx:x=j
      ·subst hx
       rw [if_pos rfl]
       exact g1 _ _ (by omega) (by omega) (by omega) (by omega) (by omega)
      ·rw [if_neg hx]
       exact g1 _ _ (by omega) (by omega) (by omega) (by omega) (by omega)
    ·rw [lL (by omega) (by omega),lL (by omega) (by omega),if_neg (by omega),if_pos rfl]
     by_cases hy:y=j
     ·subst hy
      rw [if_pos rfl]
      exact O.KB _ (bQ (by omega)) _ (bQ (by omega)) hc
     ·rw [if_neg hy]
      exact g2 _ (by omega) (by omega)
   ·rw [if_neg (by simpa using hc)]
    refine⟨d,j,rfl,Mv.refl,fun O g1 g2 x y x1 x2 x3=>?_⟩
    have hc:0≤c (gt d j) (gt d (j - 1)):=by omega
    by_cases hx:x=j
    ·subst hx; exact g2 _ x2 (by omega)
    ·by_cases hy:y=j
     ·subst hy
      by_cases hx1:x=y - 1
      ·subst hx1; exact hc
      ·exact O.tr _ (bQ (by omega)) (gt d (y - 1)) (bQ (by omega)) _ (bQ (by omega)) (g1 _ _ x1 (by omega) (by omega) hx (by omega)) hc
     ·exact g1 _ _ x1 x2 (by omega) hx hy
  ·have:j=a:=by omega
   subst this
   rw [if_neg (by simp)]
   refine⟨d,j,rfl,Mv.refl,fun O g1 g2 x y x1 x2 x3=>?_⟩
   by_cases hx:x=j
   ·subst hx; exact g2 _ x2 (by omega)
   ·exact g1 _ _ x1 x2 (by omega) hx (by omega)
theorem Fp {m:Nat}{a b:Nat}{cmp:Int→Int→Option Int}{c:Int→Int→Int}(hm:2 ^ 41≤m):∀(f i:Nat) (d:List Int),b - i<f→a<i→b≤d.length→d.length<2 ^ 40→Cm cmp c d→
  ∃d' x,aT.l0 m (a:Int) (b:Int) cmp f d (i:Int)=some (d',x)∧Mv a b d d'∧(Ord c d→Sg c d a i→Sg c d' a b)
 | 0,i,d,hf,_,_,_,_=>absurd hf (by omega)
 | f+1,i,d,hf,h1,h2,hs,C=>by
  have tz:(2:Nat) ^ 40=1099511627776:=by decide
  have yA:(2:Nat) ^ 41=2199023255552:=by decide
  unfold aT.l0
  by_cases h:i<b
  ·obtain⟨d1,x1,k1,k2,k3⟩:=Fo (m:=m) (a:=a) (i:=i) (cmp:=cmp) (c:=c) m i d (by omega) (by omega) (by omega) (by omega) hs C
   have e3:i64.wrap ((i:Int)+1)=((i+1:Nat):Int):=by rw [bI (by omega) (by omega)]; omega
   rw [if_pos (by simp; omega),k1,Vu]
   dsimp only
   rw [e3]
   have hl:=k2.length
   obtain⟨d',x,g1,g2,g3⟩:=Fp (a:=a) (b:=b) (cmp:=cmp) (c:=c) hm f (i+1) d1 (by omega) (by omega) (by omega) (by omega) (C.perm k2.perm)
   exact⟨d',x,g1,(k2.wide (Vy _) (by omega)).trans g2,fun O S=>g3 (O.perm k2.perm) (k3 O (fun x y q1 q2 q3 q4 q5=>S x y q1 q2 (by omega)) (fun y q1 q2=>absurd q1 (by omega)))⟩
  ·exact⟨d,i,by rw [if_neg (by simp; omega)],Mv.refl,fun O S x y q1 q2 q3=>S x y q1 q2 (by omega)⟩
theorem xY {m:Nat}{a b:Nat}{cmp:Int→Int→Option Int}{c:Int→Int→Int}(hm:2 ^ 41≤m){l:List Int}(ha:a≤l.length)(hb:b≤l.length)(hs:l.length<2 ^ 40)(C:Cm cmp c l) :
  ∃d,aT.f m l (a:Int) (b:Int) cmp=some d∧Mv a b l d∧(Ord c l→Sg c d a b):=by
 have tz:(2:Nat) ^ 40=1099511627776:=by decide
 have yA:(2:Nat) ^ 41=2199023255552:=by decide
 have e3:i64.wrap ((a:Int)+1)=((a+1:Nat):Int):=by rw [bI (by omega) (by omega)]; omega
 obtain⟨d',x,g1,g2,g3⟩:=Fp (a:=a) (b:=b) (cmp:=cmp) (c:=c) hm m (a+1) l (by omega) (by omega) hb hs C
 exact⟨d',by unfold aT.f; rw [e3,g1]; rfl,g2,fun O=>g3 O fun x y q1 q2 q3=>absurd q3 (by omega)⟩
end Go.Proofs.Ytifafejidnjckaa
