/- Part of the proof: Q7, QA, PA1, PA2, PA3, PA4, PA5, PA6, PR1, PS1, PT6, PS2, PS3. -/
import Derived.Test.YtifafejidnjckaaK10
set_option linter.unusedVariables false
set_option linter.unusedSimpArgs false
set_option maxRecDepth 100000
open Bool renaming and_eq_true → XN, false_eq_true → XX, or_eq_true → Yw, not_true → YQ, true_and → Zg
open Int renaming toNat_natCast → XY, natCast_nonneg → Y5
open List renaming getElem?_eq_getElem → XO, getElem?_eq_some_iff → XQ, mem_of_getElem? → XT, length_append → XU, length_set → XV, drop_eq_getElem_cons → XW, getElem?_append_left → XZ, length_map → X0, getElem?_append_right → X1, length_cons → X2, append_assoc → X3, getD_eq_getElem?_getD → X4, mem_cons → X7, map_cons → X8, getElem?_eq_none → Yc, map_append → Ye, length_nil → Yf, mem_append → Yg, getElem?_cons_zero → Ym, mem_map → Yo, drop_zero → Ys, mem_append_left → Yy, all_cons → YA, getElem?_of_mem → YC, getElem?_cons_succ → YR, ext_getElem? → YS, drop_eq_nil_of_le → Y1, append_nil → Y9, getElem?_set → Zb
open Nat renaming le_refl → XP, zero_add → Ya, zero_le → Yt, sub_self → YP, add_zero → Y3
open Option renaming bind_some → XJ
open Option.some renaming injEq → XM, inj → Yj
namespace Go.Proofs.Ytifafejidnjckaa
open Go Go.R
open Go.IntKind (i64 u64 u8 u32)
def iB.l0 (m:Nat)(n0:Int)(fS:List aS)(x5:aj × Int):Nat→Int→ab→Option (Sum Bool (Int × ab))
 | 0,_,_=>none
 | k+1,i0,p7=>if (decide (i0<(fS.length:Int)))=true then ((ix fS i0).bind fun v0=>(fZ.f m p7 v0).bind fun x8=>(b9.f m x8.2 n0).bind fun x9=>if (!(x9.2==(0:Int)))=true then (some (.inl false)) else (if (!(x9.1.kind==x5.1.kind))=true then (some (.inl false)) else (if (!(x9.1.int==x5.1.int))=true then (some (.inl false)) else (if (!(x9.1.label.data.toList==x5.1.label.data.toList))=true then (some (.inl false)) else (if (!((x9.1.args.length:Int)==(x5.1.args.length:Int)))=true then (some (.inl false)) else (iB.l0 m n0 fS x5 k (i64.wrap (i0+(1:Int))) x8.2)))))) else (some (.inr (i0,p7)))
def iB.f (m:Nat)(l0:List aS)(n0:Int)(fS:List aS):Option (Bool):=(bH.f m l0).bind fun x0=>if x0=true then ((dO.f m).bind fun x1=>some x1) else ((bH.f m fS).bind fun x2=>if x2=true then ((dO.f m).bind fun x3=>some x3) else ((cg.f m l0).bind fun x4=>(b9.f m x4 n0).bind fun x5=>if (!(x5.2==(0:Int)))=true then ((dO.f m).bind fun x6=>some x6) else (if (x5.1.kind==(0:Int))=true then ((dO.f m).bind fun x7=>some x7) else ((iB.l0 m n0 fS x5 m (0:Int) x4).bind fun bQ=>match bQ with | .inl r0=>some r0 | .inr (i1,xF)=>(dO.f m).bind fun kz=>some kz))))
def S7 (cf:CallF)(m:Nat):Prop:=∀(l0:List aS) (n0:Int) (fS:List aS) (r:Bool),iB.f m l0 n0 fS=some r→∀h xs,aQ bJ h xs [bh.fz l0,.int .i64 n0,bh.fz fS]→cf 7 xs h=some (.bool r,h)
end Go.Proofs.Ytifafejidnjckaa
namespace Go.Uf
open Go Go.R
open Go.IntKind (i64 u64 u8 u32)
def iP (to:List Int)(n:Int):Int:=to.getD n.toNat n
def gZ (to:List Int):Nat→Int→Int
 | 0,n=>n
 | k+1,n=>iP to (gZ to k n)
def D9:List Int→Nat→Nat
 | [],_=>0
 | x::l,i=>(if x=(i:Int) then 0 else 1)+D9 l (i+1)
def rA (to:List Int):Nat:=D9 to 0
def rp (to:List Int)(n:Int):Int:=gZ to (rA to) n
def Rg (len:Nat)(n:Int):Prop:=0≤n∧n<len
instance (len:Nat) (n:Int):Decidable (Rg len n):=inferInstanceAs (Decidable (_∧_))
structure HD (to:List Int):Prop where
 rg:∀n,Rg to.length n→Rg to.length (iP to n)
 rt:∀n,Rg to.length n→iP to (rp to n)=rp to n
theorem Gs:∀(l:List Int) (i:Nat),D9 l i≤l.length
 | [],_=>XP _
 | x::l,i=>by
  have:=Gs l (i+1)
  simp only [D9,X2]
  split<;>omega
theorem xi (to:List Int):rA to≤to.length:=Gs to 0
theorem CP:∀(l:List Int) (i j:Nat) (b:Int),l[j]? = some ((i+j:Nat):Int)→b≠((i+j:Nat):Int)→D9 (l.set j b) i=D9 l i+1
 | [],_,_,_,h,_=>by simp at h
 | x::l,i,0,b,h,hb=>by
  simp only [Ym,XM,Y3] at h hb
  simp only [List.set_cons_zero,D9,h,if_true]
  rw [if_neg hb]; omega
 | x::l,i,j+1,b,h,hb=>by
  simp only [YR] at h
  have e:i+(j+1)=i+1+j:=by omega
  rw [e] at h hb
  have:=CP l (i+1) j b h hb
  simp only [List.set_cons_succ,D9,this]; omega
theorem CQ:∀(l:List Int) (i:Nat),D9 (l++[((i+l.length:Nat):Int)]) i=D9 l i
 | [],i=>by simp [D9]
 | x::l,i=>by
  have:=CQ l (i+1)
  have e:i+(x::l).length=i+1+l.length:=by simp only [X2]; omega
  rw [e]
  show _+D9 (l++_) (i+1)=_+D9 l (i+1)
  rw [this]
section
variable {to:List Int}{a b n:Int}
theorem sj (h:Rg to.length n):to[n.toNat]? = some (iP to n):=by
 have hl:n.toNat<to.length:=by have:=h.1; have:=h.2; omega
 unfold iP
 rw [X4,XO hl]; rfl
theorem xj (h:Rg to.length n):ix to n=some (iP to n):=by
 unfold ix; rw [if_pos h.1,sj h]
theorem tU (o:HD to)(h:Rg to.length n):∀k,Rg to.length (gZ to k n)
 | 0=>h
 | k+1=>o.rg _ (tU o h k)
theorem Gt (o:HD to)(h:Rg to.length n):Rg to.length (rp to n):=tU o h _
theorem zd (h:iP to n=n):∀k,gZ to k n=n
 | 0=>rfl
 | k+1=>by show iP to (gZ to k n)=n; rw [zd h k,h]
theorem mo (h:iP to n=n):rp to n=n:=zd h _
theorem ze {d:Nat}(h:iP to (gZ to d n)=gZ to d n):∀e,gZ to (d+e) n=gZ to d n
 | 0=>rfl
 | e+1=>by show iP to (gZ to (d+e) n)=_; rw [ze h e,h]
theorem ID {d:Nat}(hd:d≤rA to)(h:iP to (gZ to d n)=gZ to d n):rp to n=gZ to d n:=by
 have:=ze h (rA to - d)
 rw [Nat.add_sub_cancel' hd] at this
 exact this
theorem xk (ha:Rg to.length a):∀n,iP (to.set a.toNat b) n=if n.toNat=a.toNat then b else iP to n:=by
 intro n
 have hl:a.toNat<to.length:=by have:=ha.1; have:=ha.2; omega
 unfold iP
 rw [X4,X4,Zb]
 by_cases h:n.toNat=a.toNat
 ·rw [if_pos h.symm,if_pos hl,if_pos h]; rfl
 ·rw [if_neg (fun e=>h e.symm),if_neg h]
theorem CR (ha:Rg to.length a)(h1:iP to a=a)(hne:b≠a):rA (to.set a.toNat b)=rA to+1:=by
 have h0:=ha.1
 refine CP to 0 a.toNat b ?_ ?_
 ·rw [sj ha,h1]; congr 1; omega
 ·intro e; apply hne; rw [e]; omega
theorem NO (o:HD to)(ha:Rg to.length a)(hb:Rg to.length b)(h1:iP to a=a)(h2:iP to b=b)(hne:b≠a) :
  HD (to.set a.toNat b)∧∀n,Rg to.length n→rp (to.set a.toNat b) n=if rp to n=a then b else rp to n:=by
 have hl:(to.set a.toNat b).length=to.length:=XV
 have hs:∀n,Rg to.length n→iP (to.set a.toNat b) n=if n=a then b else iP to n:=fun n hn=>by
  rw [xk ha]
  by_cases h:n=a
  ·subst h; simp
  ·rw [if_neg h,if_neg (fun e=>h (by have:=hn.1; have:=ha.1; omega))]
 have uu:iP (to.set a.toNat b) b=b:=by rw [hs b hb,if_neg hne,h2]
 have key:∀n,Rg to.length n→∀d,gZ (to.set a.toNat b) d n=gZ to d n∨(gZ (to.set a.toNat b) d n=b∧gZ to d n=a):=fun n hn d=>by
  induction d with
  | zero=>exact .inl rfl
  | succ d ih=>
   show iP _ (gZ _ d n)=iP to (gZ to d n)∨(iP _ (gZ _ d n)=b∧iP to (gZ to d n)=a)
   rcases ih with ih | ⟨ih,VO⟩
   ·rw [ih,hs _ (tU o hn d)]
    by_cases h:gZ to d n=a
    ·rw [if_pos h,h,h1]; exact .inr ⟨rfl,rfl⟩
    ·rw [if_neg h]; exact .inl rfl
   ·rw [ih,VO,h1,uu]; exact .inr ⟨rfl,rfl⟩
 have TS:∀n,Rg to.length n→rp (to.set a.toNat b) n=if rp to n=a then b else rp to n:=fun n hn=>by
  show gZ _ (rA (to.set a.toNat b)) n=_
  rw [CR ha h1 hne]
  have hr:=o.rt n hn
  have VP:=Gt o hn
  show iP _ (gZ _ (rA to) n)=_
  rcases key n hn (rA to) with h | ⟨h,h3⟩
  ·rw [h]
   show iP _ (rp to n)=_
   rw [hs _ VP,hr]
  ·have h3:rp to n=a:=h3
   rw [h,uu,if_pos h3]
 refine⟨⟨fun n hn=>?_,fun n hn=>?_⟩,TS⟩
 ·rw [hl] at hn ⊢
  rw [hs n hn]
  split
  ·exact hb
  ·exact o.rg n hn
 ·rw [hl] at hn
  rw [TS n hn]
  by_cases h:rp to n=a
  ·rw [if_pos h,uu]
  ·rw [if_neg h,hs _ (Gt o hn),if_neg h,o.rt n hn]
theorem NP (o:HD to):HD (to++[(to.length:Int)])∧(∀n,Rg to.length n→rp (to++[(to.length:Int)]) n=rp to n)∧rp (to++[(to.length:Int)]) (to.length:Int)=(to.length:Int):=by
 have hl:(to++[(to.length:Int)]).length=to.length+1:=by simp
 have hn:rA (to++[(to.length:Int)])=rA to:=by
  have:=CQ to 0
  rw [Ya] at this
  exact this
 have hs:∀n,Rg to.length n→iP (to++[(to.length:Int)]) n=iP to n:=fun n h=>by
  have:n.toNat<to.length:=by have:=h.1; have:=h.2; omega
  unfold iP
  rw [X4,X4,XZ this]
 have hz:iP (to++[(to.length:Int)]) (to.length:Int)=(to.length:Int):=by
  unfold iP
  rw [X4,XY,X1 (XP _),YP]; rfl
 have hi:∀n,Rg to.length n→∀k,gZ (to++[(to.length:Int)]) k n=gZ to k n:=fun n h k=>by
  induction k with
  | zero=>rfl
  | succ k ih=>show iP _ (gZ _ k n)=iP to (gZ to k n); rw [ih,hs _ (tU o h k)]
 have hr:∀n,Rg to.length n→rp (to++[(to.length:Int)]) n=rp to n:=fun n h=>by
  unfold rp; rw [hn]; exact hi n h _
 have hc:∀n,Rg (to.length+1) n→Rg to.length n∨n=to.length:=fun n h=>by
  unfold Rg at h ⊢; omega
 refine⟨⟨fun n h=>?_,fun n h=>?_⟩,hr,mo hz⟩
 ·rw [hl] at h ⊢
  rcases hc n h with h | rfl
  ·rw [hs n h]; have:=o.rg n h; unfold Rg at this ⊢; omega
  ·rw [hz]; exact h
 ·rw [hl] at h
  rcases hc n h with h | rfl
  ·rw [hr n h,hs _ (Gt o h),o.rt n h]
  ·rw [mo hz,hz]
end
theorem IE:HD []:=⟨fun n h=>by have:=h.1; have:=h.2; simp at this; omega,fun n h=>by have:=h.1; have:=h.2; simp at this; omega⟩
end Go.Uf
namespace Go.Uf
open Go Go.R
open Go.IntKind (i64 u64 u8 u32)
def dq (N:List aj)(n:Int):aj:=N.getD n.toNat ⟨0,0,⟨#[]⟩,[]⟩
def ib (N:List aj)(n:Int):Prop:=(dq N n).kind≠0
instance (N:List aj) (n:Int):Decidable (ib N n):=inferInstanceAs (Decidable (_≠_))
def Bt (N:List aj)(a b:Int):Prop:=(ib N a∧¬ib N b)∨((ib N a↔ib N b)∧a≤b)
def iG (a b:aj):Prop:=a.kind=b.kind∧a.int=b.int∧a.label.data.toList=b.label.data.toList∧a.args.length=b.args.length
structure Cn (N:List aj)(R:Int→Int):Prop where
 rg:∀n,Rg N.length n→Rg N.length (R n)
 id:∀n,Rg N.length n→R (R n)=R n
 bt:∀n,Rg N.length n→Bt N (R n) n
def Cl (N:List aj)(T:Int→Int):Prop:=∀x y,Rg N.length x→Rg N.length y→T x=T y→ib N x→ib N y→iG (dq N x) (dq N y)∧∀(i:Nat) (a b:Int),(dq N x).args[i]? = some a→(dq N y).args[i]? = some b→T a=T b
def gB (N:List aj)(R T:Int→Int):Prop:=∀x y,Rg N.length x→Rg N.length y→R x=R y→T x=T y
def r6 (N:List aj)(R:Int→Int)(L:List (Int × Int)):Prop:=∀T,gB N R T→(∀p∈L,T p.1=T p.2)→∀x y,Rg N.length x→Rg N.length y→R x=R y→ib N x→ib N y→iG (dq N x) (dq N y)∧∀(i:Nat) (a b:Int),(dq N x).args[i]? = some a→(dq N y).args[i]? = some b→T a=T b
def Gu (N:List aj):Prop:=∀v∈N,v.args.length≤8∧∀a∈v.args,Rg N.length a
section
variable {N:List aj}{R T:Int→Int}{a b x y n:Int}
theorem xl (h:Rg N.length n):N[n.toNat]? = some (dq N n):=by
 have hl:n.toNat<N.length:=by have:=h.1; have:=h.2; omega
 unfold dq
 rw [X4,XO hl]; rfl
theorem tV (h:Rg N.length n):ix N n=some (dq N n):=by
 unfold ix; rw [if_pos h.1,xl h]
theorem fN (h:Rg N.length n):dq N n∈N:=XT (xl h)
theorem Bt.antisymm (h1:Bt N a b)(h2:Bt N b a):a=b:=by
 unfold Bt at h1 h2
 rcases h1 with h1 | h1<;>rcases h2 with h2 | h2
 ·exact absurd h1.1 h2.2
 ·exact absurd (h2.1.2 h1.1) h1.2
 ·exact absurd (h1.1.2 h2.1) h2.2
 ·omega
theorem Bt.trans {c:Int}(h1:Bt N a b)(h2:Bt N b c):Bt N a c:=by
 unfold Bt at h1 h2 ⊢
 rcases h1 with h1 | h1<;>rcases h2 with h2 | h2
 ·exact absurd h2.1 h1.2
 ·exact .inl ⟨h1.1,fun h=>h1.2 (h2.1.2 h)⟩
 ·exact .inl ⟨h1.1.2 h2.1,h2.2⟩
 ·exact .inr ⟨h1.1.trans h2.1,by omega⟩
theorem Bt.refl:Bt N a a:=.inr ⟨Iff.rfl,Int.le_refl _⟩
theorem Cn.val (c:Cn N R)(h:Rg N.length n)(v:ib N n):ib N (R n):=by
 rcases c.bt n h with h1 | h1
 ·exact h1.1
 ·exact h1.1.2 v
def kD (N:List aj)(a b:Int):Int × Int:=if ib N a↔ib N b then (if a<b then (b,a) else (a,b)) else (if ib N b then (a,b) else (b,a))
theorem vB (a b:Int):Bt N (kD N a b).2 (kD N a b).1∧((kD N a b).1=a∧(kD N a b).2=b∨(kD N a b).1=b∧(kD N a b).2=a):=by
 unfold kD
 by_cases h:ib N a↔ib N b
 ·rw [if_pos h]
  by_cases h2:a<b
  ·rw [if_pos h2]; exact⟨.inr ⟨h,by dsimp only; omega⟩,.inr ⟨rfl,rfl⟩⟩
  ·rw [if_neg h2]; exact⟨.inr ⟨h.symm,by dsimp only; omega⟩,.inl ⟨rfl,rfl⟩⟩
 ·rw [if_neg h]
  by_cases h2:ib N b
  ·rw [if_pos h2]; exact⟨.inl ⟨h2,fun h3=>h ⟨fun _=>h2,fun _=>h3⟩⟩,.inl ⟨rfl,rfl⟩⟩
  ·rw [if_neg h2]
   refine⟨.inl ⟨?_,h2⟩,.inr ⟨rfl,rfl⟩⟩
   by_cases h3:ib N a
   ·exact h3
   ·exact absurd ⟨fun h4=>absurd h4 h3,fun h4=>absurd h4 h2⟩ h
def tP (R:Int→Int)(q:Int × Int)(n:Int):Int:=if R n=q.1 then q.2 else R n
theorem Ln (c:Cn N R){q:Int × Int}(h1:Rg N.length q.1)(h2:Rg N.length q.2)(r1:R q.1=q.1)(r2:R q.2=q.2)(hne:q.2≠q.1)(hb:Bt N q.2 q.1):Cn N (tP R q):=by
 refine⟨fun n hn=>?_,fun n hn=>?_,fun n hn=>?_⟩
 ·unfold tP; split
  ·exact h2
  ·exact c.rg n hn
 ·unfold tP
  by_cases h:R n=q.1
  ·rw [if_pos h,r2,if_neg hne]
  ·rw [if_neg h,c.id n hn,if_neg h]
 ·unfold tP
  split
  ·rename_i h
   have:=c.bt n hn
   rw [h] at this
   exact hb.trans this
  ·exact c.bt n hn
theorem CS {q:Int × Int}:gB N R (tP R q):=fun x y _ _ h=>by unfold tP; rw [h]
theorem xm {q:Int × Int}(ha:R a=q.1)(hb:R b=q.2)(hne:q.2≠q.1):tP R q a=tP R q b:=by
 unfold tP; rw [if_pos ha,hb,if_neg hne]
theorem Ea (c:Cn N R){q:Int × Int}(h1:Rg N.length q.1)(h2:Rg N.length q.2)(s:gB N R T)(h:T q.1=T q.2):gB N (tP R q) T:=by
 have key:∀x,Rg N.length x→T (tP R q x)=T x:=fun x hx=>by
  have e:T (R x)=T x:=s _ _ (c.rg x hx) hx (c.id x hx)
  unfold tP
  split
  ·rename_i h3; rw [←h,←h3,e]
  ·exact e
 intro x y hx hy he
 rw [←key x hx,←key y hy,he]
theorem Eb {p:Int × Int}{L:List (Int × Int)}(h:r6 N R (p::L))(NQ:Rg N.length p.1)(NR:Rg N.length p.2)(he:R p.1=R p.2):r6 N R L:=fun T s hL=>h T s fun q hq=>by
 rcases X7.1 hq with rfl | hq
 ·exact s _ _ NQ NR he
 ·exact hL q hq
theorem Ec (c:Cn N R){p q:Int × Int}{L M:List (Int × Int)}(h:r6 N R (p::L))(NQ:Rg N.length p.1)(NR:Rg N.length p.2)
  (hq:(q.1=R p.1∧q.2=R p.2)∨(q.1=R p.2∧q.2=R p.1)) (hne:q.2≠q.1)
  (hM:ib N (R p.1)→ib N (R p.2)→iG (dq N (R p.1)) (dq N (R p.2))∧∀(i:Nat) (a b:Int),(dq N (R p.1)).args[i]? = some a→(dq N (R p.2)).args[i]? = some b→(a,b)∈M):r6 N (tP R q) (L++M):=by
 intro T s hL x y hx hy he vx vy
 have s0:gB N R T:=fun x y hx hy h=>s x y hx hy (CS x y hx hy h)
 have g1:=c.rg _ NQ
 have g2:=c.rg _ NR
 have tp:T p.1=T p.2:=s _ _ NQ NR (by
  rcases hq with⟨h1,h2⟩| ⟨h1,h2⟩
  ·exact xm h1.symm h2.symm hne
  ·exact (xm h1.symm h2.symm hne).symm)
 have old:=h T s0 (fun q hq=>by
  rcases X7.1 hq with rfl | hq
  ·exact tp
  ·exact hL q (Yy _ hq))
 have mid:∀x y,Rg N.length x→Rg N.length y→R x=R p.1→R y=R p.2→ib N x→ib N y→iG (dq N x) (dq N y)∧∀(i:Nat) (a b:Int),(dq N x).args[i]? = some a→(dq N y).args[i]? = some b→T a=T b:=by
  intro x y hx hy e1 e2 vx vy
  have v1:ib N (R p.1):=e1 ▸ c.val hx vx
  have v2:ib N (R p.2):=e2 ▸ c.val hy vy
  obtain⟨t0,m0⟩:=hM v1 v2
  obtain⟨t1,m1⟩:=old x (R p.1) hx g1 (by rw [c.id _ NQ,e1]) vx v1
  obtain⟨t2,m2⟩:=old (R p.2) y g2 hy (by rw [c.id _ NR,e2]) v2 vy
  refine⟨⟨t1.1.trans (t0.1.trans t2.1),t1.2.1.trans (t0.2.1.trans t2.2.1),t1.2.2.1.trans (t0.2.2.1.trans t2.2.2.1),t1.2.2.2.trans (t0.2.2.2.trans t2.2.2.2)⟩,fun i a b ha hb=>?_⟩
  have l1:i<(dq N (R p.1)).args.length:=by rw [←t1.2.2.2]; exact (XQ.1 ha).1
  have l2:i<(dq N (R p.2)).args.length:=by rw [←t0.2.2.2]; exact l1
  have k1:=XO l1
  have k2:=XO l2
  rw [m1 i _ _ ha k1,←m2 i _ _ k2 hb]
  exact hL _ (List.mem_append_right _ (m0 i _ _ k1 k2))
 have sym:∀x y,iG (dq N x) (dq N y)∧(∀(i:Nat) (a b:Int),(dq N x).args[i]? = some a→(dq N y).args[i]? = some b→T a=T b)→iG (dq N y) (dq N x)∧∀(i:Nat) (a b:Int),(dq N y).args[i]? = some a→(dq N x).args[i]? = some b→T a=T b:=by
  rintro x y ⟨t,m⟩
  exact⟨⟨t.1.symm,t.2.1.symm,t.2.2.1.symm,t.2.2.2.symm⟩,fun i a b ha hb=>(m i b a hb ha).symm⟩
 by_cases e:R x=R y
 ·exact old x y hx hy e vx vy
 unfold tP at he
 by_cases ex:R x=q.1<;>by_cases ey:R y=q.1
 ·exact absurd (ex.trans ey.symm) e
 ·rw [if_pos ex,if_neg ey] at he
  rcases hq with⟨h1,h2⟩| ⟨h1,h2⟩
  ·exact mid x y hx hy (ex.trans h1) (he.symm.trans h2) vx vy
  ·exact sym _ _ (mid y x hy hx (he.symm.trans h2) (ex.trans h1) vy vx)
 ·rw [if_neg ex,if_pos ey] at he
  rcases hq with⟨h1,h2⟩| ⟨h1,h2⟩
  ·exact sym _ _ (mid y x hy hx (ey.trans h1) (he.trans h2) vy vx)
  ·exact mid x y hx hy (he.trans h2) (ey.trans h1) vx vy
 ·rw [if_neg ex,if_neg ey] at he
  exact absurd he e
theorem Gv (h:r6 N R []):Cl N R:=fun x y hx hy e vx vy=>h R (fun _ _ _ _ h=>h) (fun _ h=>by cases h) x y hx hy e vx vy
theorem IF {L:List (Int × Int)}(h:Cl N R)(ha:Gu N):r6 N R L:=fun T s _ x y hx hy e vx vy=>by
 obtain⟨t,m⟩:=h x y hx hy e vx vy
 exact⟨t,fun i a b h1 h2=>s _ _ ((ha _ (fN hx)).2 a (XT h1)) ((ha _ (fN hy)).2 b (XT h2)) (m i a b h1 h2)⟩
end
end Go.Uf
namespace Go.Uf
open Go Go.R
open Go.IntKind (i64 u64 u8 u32)
theorem NS (x:Int):i64.wrap x=if x % 18446744073709551616≥9223372036854775808 then x % 18446744073709551616 - 18446744073709551616 else x % 18446744073709551616:=by
 unfold IntKind.wrap; simp [IntKind.signed,IntKind.bits]
theorem jT {x:Int}(h0 : -9223372036854775808≤x)(h1:x<9223372036854775808):i64.wrap x=x:=by
 rw [NS]; split<;>omega
theorem uw {α:Type}{l:List α}{i:Nat}{a:α}(h:l[i]? = some a):ix l (i:Int)=some a:=by
 unfold ix; rw [if_pos (Y5 _),XY,h]
theorem zf {α:Type}{b:Nat}{l l2:List α}(h:(l.length+l2.length)*(b+1)≤1099511627776):app b l l2=some (l++l2):=by
 unfold app; rw [if_pos h]
end Go.Uf
namespace Go.Proofs.Ytifafejidnjckaa
open Go Go.R Go.Uf
open Go.IntKind (i64 u64 u8 u32)
structure Inv (s:ab):Prop where
 made:s.ak=true
 len:s.ae.length=s.aa.length
 max:s.aa.length≤8000
 ok:HD s.ae
 cn:Cn s.aa (rp s.ae)
 args:Gu s.aa
section
variable {m:Nat}{s:ab}{a b n:Int}
theorem Inv.rg (v:Inv s)(h:Rg s.aa.length n):Rg s.ae.length n:=by rw [v.len]; exact h
theorem Gw (v:Inv s)(h:Rg s.aa.length n):∀(k d:Nat),d≤rA s.ae→rA s.ae<k+d→be.l0 m s k (gZ s.ae d n)=some (rp s.ae n)
 | 0,d,h1,h2=>by omega
 | k+1,d,h1,h2=>by
  have hr:=tU v.ok (v.rg h) d
  simp only [be.l0,xj hr,XJ]
  by_cases he:iP s.ae (gZ s.ae d n)=gZ s.ae d n
  ·rw [ID h1 he]
   simp [he]
  ·have hd:d<rA s.ae:=by
    rcases Nat.lt_or_ge d (rA s.ae) with h3 | h3
    ·exact h3
    ·have h4:d=rA s.ae:=by omega
     exact absurd (h4 ▸ v.ok.rt n (v.rg h)) he
   have:=Gw v h k (d+1) hd (by omega)
   simp only [gZ] at this
   rw [this]
   have hb:(iP s.ae (gZ s.ae d n)==gZ s.ae d n)=false:=by simpa using he
   simp [hb]
theorem tW (hm:16000≤m)(v:Inv s)(h:Rg s.aa.length n):be.f m s n=some (rp s.ae n):=by
 have h1:=xi s.ae
 have h2:=v.len
 have h3:=v.max
 have:=Gw (m:=m) v h m 0 (Yt _) (by omega)
 simp only [gZ] at this
 simp only [be.f,this,XJ]
theorem AT (h:Rg s.aa.length n):cr.f m s n=some ((dq s.aa n).kind==0):=by
 simp only [cr.f,tV h,XJ]
theorem Lp (h1:Rg s.aa.length a)(h2:Rg s.aa.length b)(hl:s.ae.length=s.aa.length):cJ.f m s a b=some ((kD s.aa a b).1,⟨s.ak,s.aa,s.ae.set (kD s.aa a b).1.toNat (kD s.aa a b).2⟩):=by
 have i1:ix s.ae a=some (iP s.ae a):=xj (by rw [hl]; exact h1)
 have i2:ix s.ae b=some (iP s.ae b):=xj (by rw [hl]; exact h2)
 simp only [cJ.f,jn,AT h1,AT h2,XJ,i1,i2]
 unfold kD ib
 by_cases ha:(dq s.aa a).kind=0<;>by_cases hb:(dq s.aa b).kind=0<;>by_cases MN:a<b
 all_goals
  first
  | have ea:((dq s.aa a).kind==0)=true:=by simpa using ha
  | have ea:((dq s.aa a).kind==0)=false:=by simpa using ha
 all_goals
  first
  | have eb:((dq s.aa b).kind==0)=true:=by simpa using hb
  | have eb:((dq s.aa b).kind==0)=false:=by simpa using hb
 all_goals simp [ha,hb,MN,i1,i2,ea,eb]
theorem CT:cP.f m s n=some (decide (Rg s.aa.length n)):=by
 unfold cP.f Rg
 by_cases h1:n≥0<;>by_cases h2:n<(s.aa.length:Int)<;>simp [h1,h2]
theorem Inv.join (v:Inv s)(h1:Rg s.aa.length a)(h2:Rg s.aa.length b)(r1:rp s.ae a=a)(r2:rp s.ae b=b)(hne:a≠b) :
  Inv ⟨s.ak,s.aa,s.ae.set (kD s.aa a b).1.toNat (kD s.aa a b).2⟩∧(∀n,Rg s.aa.length n→rp (s.ae.set (kD s.aa a b).1.toNat (kD s.aa a b).2) n=tP (rp s.ae) (kD s.aa a b) n)∧rA (s.ae.set (kD s.aa a b).1.toNat (kD s.aa a b).2)=rA s.ae+1:=by
 obtain⟨hb,hq⟩:=vB (N:=s.aa) a b
 generalize kD s.aa a b=q at *
 have g:Rg s.aa.length q.1∧Rg s.aa.length q.2∧rp s.ae q.1=q.1∧rp s.ae q.2=q.2∧q.2≠q.1:=by
  rcases hq with⟨e1,e2⟩| ⟨e1,e2⟩
  ·rw [e1,e2]; exact⟨h1,h2,r1,r2,fun h=>hne h.symm⟩
  ·rw [e1,e2]; exact⟨h2,h1,r2,r1,hne⟩
 obtain⟨g1,g2,g3,g4,g5⟩:=g
 have s1:iP s.ae q.1=q.1:=by have:=v.ok.rt _ (v.rg g1); rwa [g3] at this
 have s2:iP s.ae q.2=q.2:=by have:=v.ok.rt _ (v.rg g2); rwa [g4] at this
 obtain⟨j1,j2⟩:=Uf.NO v.ok (v.rg g1) (v.rg g2) s1 s2 g5
 have j3:∀n,Rg s.aa.length n→rp (s.ae.set q.1.toNat q.2) n=tP (rp s.ae) q n:=fun n hn=>j2 n (v.rg hn)
 have c:=Ln v.cn g1 g2 g3 g4 g5 hb
 refine⟨⟨v.made,by show (List.set _ _ _).length=_; rw [XV]; exact v.len,v.max,j1,⟨fun n hn=>?_,fun n hn=>?_,fun n hn=>?_⟩,v.args⟩,j3,CR (v.rg g1) s1 g5⟩
 ·show Rg _ (rp (s.ae.set q.1.toNat q.2) n)
  rw [j3 n hn]; exact c.rg n hn
 ·show rp (s.ae.set q.1.toNat q.2) (rp (s.ae.set q.1.toNat q.2) n)=_
  rw [j3 n hn,j3 _ (c.rg n hn),c.id n hn]
 ·show Bt _ (rp (s.ae.set q.1.toNat q.2) n) n
  rw [j3 n hn]; exact c.bt n hn
theorem Gx (x y:aj):∃d,fK.f m x y=some d∧(d=false↔iG x y):=by
 unfold fK.f iG
 have h5:(((x.args.length:Int)==(y.args.length:Int))=true)↔x.args.length=y.args.length:=by rw [beq_iff_eq]; omega
 by_cases h1:x.kind=y.kind
 ·by_cases h2:x.int=y.int
  ·by_cases h3:x.label.data.toList=y.label.data.toList
   ·refine⟨!((x.args.length:Int)==(y.args.length:Int)),by simp [h1,h2,h3],?_⟩
    rw [Bool.not_eq_false',h5]
    exact⟨fun h=>⟨h1,h2,h3,h⟩,fun h=>h.2.2.2⟩
   ·have h6:¬x.label.data=y.label.data:=fun h=>h3 (by rw [h])
    exact⟨true,by simp [h1,h2,h6],by simp [h6]⟩
  ·exact⟨true,by simp [h1,h2],by simp [h2]⟩
 ·exact⟨true,by simp [h1],by simp [h1]⟩
end
end Go.Proofs.Ytifafejidnjckaa
namespace Go.Proofs.Ytifafejidnjckaa
open Go Go.R Go.Uf
open Go.IntKind (i64 u64 u8 u32)
def xK (p:bl):Int × Int:=(p.kC,p.lM)
def r7 (a b:List Int):List bl:=(a.zip b).map fun p=>⟨p.1,p.2⟩
theorem vC {m:Nat}{v2 v3:aj}{s:ab}(hl:v2.args.length=v3.args.length)(h8:v2.args.length≤8):∀(k:Nat) (left:List bl) (i:Nat),i≤v2.args.length→v2.args.length - i<k→left.length+8≤1000000+i→
  aB.l1 m v2 v3 k left (i:Int) s=some (left++r7 (v2.args.drop i) (v3.args.drop i),(v2.args.length:Int),s)
 | 0,left,i,h1,h2,_=>by omega
 | k+1,left,i,h1,h2,h3=>by
  simp only [aB.l1]
  by_cases hi:i<v2.args.length
  ·have TT:i<v3.args.length:=by omega
   have e2:=XO hi
   have e3:=XO TT
   have d:decide ((i:Int)<(v2.args.length:Int))=true:=by rw [decide_eq_true_eq]; omega
   have ea:app 16 left [(⟨v2.args[i],v3.args[i]⟩:bl)]=some (left++[⟨v2.args[i],v3.args[i]⟩]):=zf (by
    simp only [X2,Yf]; omega)
   have ew:i64.wrap ((i:Int)+1)=((i+1:Nat):Int):=by rw [jT (by omega) (by omega)]; omega
   rw [if_pos d,uw e2,uw e3]
   simp only [XJ,ea,ew]
   rw [vC hl h8 k _ (i+1) (by omega) (by omega) (by simp only [XU,X2,Yf]; omega)]
   have e4:r7 (v2.args.drop i) (v3.args.drop i)=⟨v2.args[i],v3.args[i]⟩::r7 (v2.args.drop (i+1)) (v3.args.drop (i+1)):=by
    unfold r7
    rw [XW hi,XW TT]; rfl
   rw [e4,X3]; rfl
  ·have d:decide ((i:Int)<(v2.args.length:Int))=false:=by rw [decide_eq_false_iff_not]; omega
   have e:i=v2.args.length:=by omega
   rw [if_neg (by rw [d]; decide),e]
   simp [r7]
def CU (s s':ab)(l:List Int):Prop:=s'.ak=s.ak∧s'.aa=s.aa∧s'.ae.length=s.ae.length∧(∀n∈l,Rg s.ae.length n∧iP s.ae n=n)∧(∀n,Rg s.ae.length n→n∉l→iP s'.ae n=iP s.ae n)∧∀n∈l,iP s'.ae n≠n
theorem CU.refl (s:ab):CU s s []:=⟨rfl,rfl,rfl,fun n h=>absurd h (by simp),fun _ _ _=>rfl,fun n h=>absurd h (by simp)⟩
theorem CU.step {s s':ab}{l:List Int}{a b:Int}(ha:Rg s.ae.length a)(hr:iP s.ae a=a)(hne:b≠a)(u:CU ⟨s.ak,s.aa,s.ae.set a.toNat b⟩ s' l):CU s s' (a::l):=by
 obtain⟨u1,u2,u3,u4,u5,u6⟩:=u
 have hl:(s.ae.set a.toNat b).length=s.ae.length:=XV
 have hs:=xk (b:=b) ha
 have e:∀n,Rg s.ae.length n→n≠a→iP (s.ae.set a.toNat b) n=iP s.ae n:=fun n hn h=>by
  rw [hs,if_neg (fun e=>h (by have:=hn.1; have:=ha.1; omega))]
 refine⟨u1,u2,u3.trans hl,fun n hn=>?_,fun n hn hm=>?_,fun n hn=>?_⟩
 ·rcases X7.1 hn with rfl | hn
  ·exact⟨ha,hr⟩
  ·obtain⟨g1,g2⟩:=u4 n hn
   have g1:Rg (s.ae.set a.toNat b).length n:=g1
   have g2:iP (s.ae.set a.toNat b) n=n:=g2
   rw [hl] at g1
   refine⟨g1,?_⟩
   by_cases h:n=a
   ·subst h; exact hr
   ·rw [e n g1 h] at g2; exact g2
 ·simp only [X7,not_or] at hm
  have:=u5 n (by show Rg (s.ae.set a.toNat b).length n; rw [hl]; exact hn) hm.2
  rw [this]
  exact e n hn hm.1
 ·rcases X7.1 hn with rfl | hn
  ·by_cases hin:n∈l
   ·exact u6 n hin
   ·have:=u5 n (by show Rg (s.ae.set n.toNat b).length n; rw [hl]; exact ha) hin
    rw [this]
    show iP (s.ae.set n.toNat b) n≠n
    rw [hs,if_pos rfl]
    exact hne
  ·exact u6 n hn
def CV (s:ab)(L:List (Int × Int))(ch:List Int):Sum ((List Int) × Bool × ab) ((List Int) × (List bl) × Int × ab)→Prop
 | .inl (Gy,b,s')=>b=false∧∃l,Gy=ch++l∧CU s s' l∧Inv s'∧(ch++l).length≤8000∧∀T,Cl s.aa T→gB s.aa (rp s.ae) T→(∀p∈L,T p.1=T p.2)→False
 | .inr (Gy,_,_,s')=>∃l,Gy=ch++l∧CU s s' l∧Inv s'∧(ch++l).length≤8000∧Cl s.aa (rp s'.ae)∧gB s.aa (rp s.ae) (rp s'.ae)∧(∀p∈L,rp s'.ae p.1=rp s'.ae p.2)∧∀T,Cl s.aa T→gB s.aa (rp s.ae) T→(∀p∈L,T p.1=T p.2)→gB s.aa (rp s'.ae) T
end Go.Proofs.Ytifafejidnjckaa
namespace Go.Uf
open Go Go.R
open Go.IntKind (i64 u64 u8 u32)
theorem gB.trans {N:List aj}{R S T:Int→Int}(a:gB N R S)(b:gB N S T):gB N R T:=fun x y hx hy h=>b x y hx hy (a x y hx hy h)
theorem gB.congr {N:List aj}{R S T:Int→Int}(e:∀n,Rg N.length n→R n=S n)(b:gB N S T):gB N R T:=fun x y hx hy h=>b x y hx hy (by rw [←e x hx,←e y hy,h])
theorem gB.Lq {N:List aj}{R S T:Int→Int}(e:∀n,Rg N.length n→S n=T n)(b:gB N R S):gB N R T:=fun x y hx hy h=>by rw [←e x hx,←e y hy]; exact b x y hx hy h
theorem r6.congr {N:List aj}{R S:Int→Int}{L:List (Int × Int)}(e:∀n,Rg N.length n→R n=S n)(p:r6 N S L):r6 N R L:=fun T s hL x y hx hy h=>p T (s.congr fun n hn=>(e n hn).symm) hL x y hx hy (by rw [←e x hx,←e y hy,h])
end Go.Uf
namespace Go.Proofs.Ytifafejidnjckaa
open Go Go.R Go.Uf
open Go.IntKind (i64 u64 u8 u32)
section
variable {s:ab}
theorem IG {ch:List Int}{left M:List bl}{i:Nat}{p:bl}{q:Int × Int}{out:Sum ((List Int) × Bool × ab) ((List Int) × (List bl) × Int × ab)}
  (v:Inv s) (hp:left[i]? = some p) (h1:Rg s.aa.length p.kC) (h2:Rg s.aa.length p.lM)
  (hq:(q.1=rp s.ae p.kC∧q.2=rp s.ae p.lM)∨(q.1=rp s.ae p.lM∧q.2=rp s.ae p.kC)) (hne:q.2≠q.1)
  (hr:∀n,Rg s.aa.length n→rp (s.ae.set q.1.toNat q.2) n=tP (rp s.ae) q n)
  (hM:∀T,Cl s.aa T→T (rp s.ae p.kC)=T (rp s.ae p.lM)→∀x∈M,T x.kC=T x.lM)
  (h:CV ⟨s.ak,s.aa,s.ae.set q.1.toNat q.2⟩ (((left++M).drop (i+1)).map xK) (ch++[q.1]) out):CV s ((left.drop i).map xK) ch out:=by
 have hi:i<left.length:=(XQ.1 hp).1
 have O5:left[i]=p:=(XQ.1 hp).2
 have ed:left.drop i=p::left.drop (i+1):=by rw [XW hi,O5]
 have Lr:(left++M).drop (i+1)=left.drop (i+1)++M:=List.drop_append_of_le_length (by omega)
 have g1:=v.cn.rg _ h1
 have g2:=v.cn.rg _ h2
 have gq:Rg s.aa.length q.1∧Rg s.aa.length q.2∧rp s.ae q.1=q.1∧rp s.ae q.2=q.2:=by
  rcases hq with⟨e1,e2⟩| ⟨e1,e2⟩
  ·rw [e1,e2]; exact⟨g1,g2,v.cn.id _ h1,v.cn.id _ h2⟩
  ·rw [e1,e2]; exact⟨g2,g1,v.cn.id _ h2,v.cn.id _ h1⟩
 obtain⟨q1,q2,q3,q4⟩:=gq
 have xF:iP s.ae q.1=q.1:=by have:=v.ok.rt _ (v.rg q1); rwa [q3] at this
 have VQ:gB s.aa (rp s.ae) (rp (s.ae.set q.1.toNat q.2)):=gB.Lq (fun n hn=>(hr n hn).symm) CS
 have VS:rp (s.ae.set q.1.toNat q.2) p.kC=rp (s.ae.set q.1.toNat q.2) p.lM:=by
  rw [hr _ h1,hr _ h2]
  rcases hq with⟨e1,e2⟩| ⟨e1,e2⟩
  ·exact xm e1.symm e2.symm hne
  ·exact (xm e1.symm e2.symm hne).symm
 have NT:∀T,Cl s.aa T→gB s.aa (rp s.ae) T→(∀x∈(left.drop i).map xK,T x.1=T x.2)→gB s.aa (rp (s.ae.set q.1.toNat q.2)) T∧∀x∈((left++M).drop (i+1)).map xK,T x.1=T x.2:=by
  intro T cT sT hT
  have tp:T p.kC=T p.lM:=hT (xK p) (by rw [ed]; simp)
  have ta:T (rp s.ae p.kC)=T p.kC:=sT _ _ g1 h1 (v.cn.id _ h1)
  have tb:T (rp s.ae p.lM)=T p.lM:=sT _ _ g2 h2 (v.cn.id _ h2)
  have tt:T (rp s.ae p.kC)=T (rp s.ae p.lM):=by rw [ta,tb,tp]
  refine⟨gB.congr hr (Ea v.cn q1 q2 sT ?_),fun x hx=>?_⟩
  ·rcases hq with⟨e1,e2⟩| ⟨e1,e2⟩
   ·rw [e1,e2]; exact tt
   ·rw [e1,e2]; exact tt.symm
  ·rw [Lr,Ye] at hx
   rcases Yg.1 hx with hx | hx
   ·exact hT x (by rw [ed]; simp only [X8]; exact List.mem_cons_of_mem _ hx)
   ·obtain⟨y,hy,rfl⟩:=Yo.1 hx
    exact hM T cT tt y hy
 match out,h with
 | .inl (Gy,b,s'),⟨hb,l,e,u,v',hl,hT⟩=>
  exact⟨hb,q.1::l,by rw [e]; simp,CU.step (v.rg q1) xF hne u,v',by simpa using hl,fun T cT sT pT=>by
   obtain⟨k1,k2⟩:=NT T cT sT pT
   exact hT T cT k1 k2⟩
 | .inr (Gy,JA,i',s'),⟨l,e,u,v',hl,hc,hs,OK,hT⟩=>
  refine⟨q.1::l,by rw [e]; simp,CU.step (v.rg q1) xF hne u,v',by simpa using hl,hc,VQ.trans hs,fun x hx=>?_,fun T cT sT pT=>?_⟩
  ·rw [ed] at hx
   simp only [X8] at hx
   rcases X7.1 hx with rfl | hx
   ·exact hs _ _ h1 h2 VS
   ·exact OK x (by rw [Lr,Ye]; exact Yy _ hx)
  ·obtain⟨k1,k2⟩:=NT T cT sT pT
   exact hT T cT k1 k2
theorem CW {a b:List Int}{x:bl}(h:x∈r7 a b):∃i:Nat,a[i]? = some x.kC∧b[i]? = some x.lM:=by
 unfold r7 at h
 obtain⟨p,hp,rfl⟩:=Yo.1 h
 obtain⟨i,hi⟩:=YC hp
 rw [List.getElem?_zip_eq_some] at hi
 exact⟨i,hi⟩
theorem II {a b:List Int}{i:Nat}{x y:Int}(h1:a[i]? = some x)(h2:b[i]? = some y):(x,y)∈(r7 a b).map xK:=by
 unfold r7
 rw [List.map_map]
 refine Yo.2 ⟨(x,y),?_,rfl⟩
 exact XT (i:=i) (List.getElem?_zip_eq_some.2 ⟨h1,h2⟩)
theorem qH {m:Nat}(hm:16000≤m):∀(k:Nat) (s:ab) (ch:List Int) (left:List bl) (i:Nat),i≤left.length→9*(s.aa.length - rA s.ae)+(left.length - i)<k→left.length≤1+8*rA s.ae→ch.length≤rA s.ae→Inv s→
  (∀p∈left,Rg s.aa.length p.kC∧Rg s.aa.length p.lM)→r6 s.aa (rp s.ae) ((left.drop i).map xK)→∃out,aB.l0 m k ch left (i:Int) s=some out∧CV s ((left.drop i).map xK) ch out
 | 0,s,ch,left,i,h1,h2,h3,h4,v,hin,hp=>by omega
 | k+1,s,ch,left,i,h1,h2,h3,h4,v,hin,hp=>by
  have n1:=xi s.ae
  have n2:=v.len
  have n3:=v.max
  simp only [aB.l0]
  by_cases hi:i<left.length
  rotate_left
  ·have d:decide ((i:Int)<(left.length:Int))=false:=by rw [decide_eq_false_iff_not]; omega
   rw [if_neg (by rw [d]; decide)]
   have hd:left.drop i=[]:=Y1 (by omega)
   rw [hd] at hp ⊢
   exact⟨_,rfl,[],by simp,CU.refl s,v,by simp; omega,Gv hp,fun _ _ _ _ h=>h,fun x hx=>by simp at hx,fun T _ s _=>s⟩
  have d:decide ((i:Int)<(left.length:Int))=true:=by rw [decide_eq_true_eq]; omega
  have ep:=XO hi
  generalize left[i]=p at ep
  obtain⟨ra,rb⟩:=hin p (XT ep)
  have ed:left.drop i=p::left.drop (i+1):=by
   rw [XW hi]; congr 1
   exact (XQ.1 ep).2
  have ew:i64.wrap ((i:Int)+1)=((i+1:Nat):Int):=by rw [jT (by omega) (by omega)]; omega
  rw [if_pos d,uw ep]
  simp only [XJ,tW hm v ra,tW hm v rb,ew]
  have ga:=v.cn.rg _ ra
  have gb:=v.cn.rg _ rb
  have OK:r6 s.aa (rp s.ae) (xK p::(left.drop (i+1)).map xK):=by rw [ed] at hp; exact hp
  by_cases he:rp s.ae p.kC=rp s.ae p.lM
  ·have c1:(rp s.ae p.kC==rp s.ae p.kC&&rp s.ae p.lM==rp s.ae p.kC)=true:=by simp [he]
   rw [if_pos c1]
   obtain⟨out,e1,e2⟩:=qH hm k s ch left (i+1) (by omega) (by omega) h3 h4 v hin (Eb OK ra rb he)
   refine⟨out,e1,?_⟩
   match out,e2 with
   | .inl (Gy,b,s'),⟨hb,l,e,u,v',hl,hT⟩=>
    exact⟨hb,l,e,u,v',hl,fun T cT sT pT=>hT T cT sT fun x hx=>pT x (by rw [ed]; simp only [X8]; exact List.mem_cons_of_mem _ hx)⟩
   | .inr (Gy,JA,i',s'),⟨l,e,u,v',hl,hc,hs,hq,hT⟩=>
    refine⟨l,e,u,v',hl,hc,hs,fun x hx=>?_,fun T cT sT pT=>hT T cT sT fun x hx=>pT x (by rw [ed]; simp only [X8]; exact List.mem_cons_of_mem _ hx)⟩
    rw [ed] at hx
    simp only [X8] at hx
    rcases X7.1 hx with rfl | hx
    ·exact hs _ _ ra rb he
    ·exact hq x hx
  ·have c1:¬(rp s.ae p.kC==rp s.ae p.kC&&rp s.ae p.lM==rp s.ae p.kC)=true:=by
    simp only [BEq.rfl,Zg,beq_iff_eq]; exact fun h=>he h.symm
   rw [if_neg c1]
   simp only [tV ga,tV gb,XJ]
   obtain⟨jv,jr,jn⟩:=v.join ga gb (v.cn.id _ ra) (v.cn.id _ rb) he
   have ej:=Lp (m:=m) ga gb v.len
   obtain⟨ob,oq⟩:=vB (N:=s.aa) (rp s.ae p.kC) (rp s.ae p.lM)
   have hne:(kD s.aa (rp s.ae p.kC) (rp s.ae p.lM)).2≠(kD s.aa (rp s.ae p.kC) (rp s.ae p.lM)).1:=by
    rcases oq with⟨e1,e2⟩| ⟨e1,e2⟩
    ·rw [e1,e2]; exact fun h=>he h.symm
    ·rw [e1,e2]; exact he
   generalize kD s.aa (rp s.ae p.kC) (rp s.ae p.lM)=q at *
   have TU:(q.1=rp s.ae p.kC∧q.2=rp s.ae p.lM)∨(q.1=rp s.ae p.lM∧q.2=rp s.ae p.kC):=oq
   have n4:=xi (s.ae.set q.1.toNat q.2)
   rw [XV,jn] at n4
   have TV:∀M:List bl,M.length≤8→(∀x∈M,Rg s.aa.length x.kC∧Rg s.aa.length x.lM)→
     (∀T,Cl s.aa T→T (rp s.ae p.kC)=T (rp s.ae p.lM)→∀x∈M,T x.kC=T x.lM)→
     (ib s.aa (rp s.ae p.kC)→ib s.aa (rp s.ae p.lM)→iG (dq s.aa (rp s.ae p.kC)) (dq s.aa (rp s.ae p.lM))∧∀(i:Nat) (a b:Int),(dq s.aa (rp s.ae p.kC)).args[i]? = some a→(dq s.aa (rp s.ae p.lM)).args[i]? = some b→(a,b)∈M.map xK)→
     ∃out,((app 8 ch [q.1]).bind fun x=>aB.l0 m k x (left++M) ((i+1:Nat):Int) ⟨s.ak,s.aa,s.ae.set q.1.toNat q.2⟩)=some out∧CV s ((left.drop i).map xK) ch out:=by
    intro M Xx VT VU VV
    rw [zf (by simp only [X2,Yf]; omega),XJ]
    have Lr:((left++M).drop (i+1)).map xK=(left.drop (i+1)).map xK++M.map xK:=by
     rw [List.drop_append_of_le_length (by omega),Ye]
    have jn:rA (s.ae.set q.1.toNat q.2)=rA s.ae+1:=jn
    obtain⟨out,e1,e2⟩:=qH hm k ⟨s.ak,s.aa,s.ae.set q.1.toNat q.2⟩ (ch++[q.1]) (left++M) (i+1) (by rw [XU]; omega)
     (by show 9*(s.aa.length - rA (s.ae.set q.1.toNat q.2))+_<k; rw [jn,XU]; omega) (by show _≤1+8*rA (s.ae.set q.1.toNat q.2); rw [jn,XU]; omega)
     (by show _≤rA (s.ae.set q.1.toNat q.2); rw [jn,XU]; simp only [X2,Yf]; omega) jv
     (fun x hx=>(Yg.1 hx).elim (hin x) (VT x)) (by
      rw [Lr]
      exact r6.congr jr (Ec v.cn (p:=xK p) OK ra rb TU hne VV))
    exact⟨out,e1,IG v ep ra rb TU hne jr VU e2⟩
   have Ls:=TV [] (by simp) (fun x hx=>by simp at hx) (fun T _ _ x hx=>by simp at hx)
   rw [Y9] at Ls
   by_cases k1:(dq s.aa (rp s.ae p.kC)).kind=0
   ·have b1:(!((dq s.aa (rp s.ae p.kC)).kind==(0:Int)))=false:=by rw [k1]; rfl
    rw [b1,if_neg (by decide),ej]
    exact Ls fun h=>absurd k1 h
   have b1:(!((dq s.aa (rp s.ae p.kC)).kind==(0:Int)))=true:=by simpa using k1
   rw [b1,if_pos rfl]
   by_cases k2:(dq s.aa (rp s.ae p.lM)).kind=0
   ·have b2:(!((dq s.aa (rp s.ae p.lM)).kind==(0:Int)))=false:=by rw [k2]; rfl
    rw [b2,if_neg (by decide),ej]
    exact Ls fun _ h=>absurd k2 h
   have b2:(!((dq s.aa (rp s.ae p.lM)).kind==(0:Int)))=true:=by simpa using k2
   rw [b2,if_pos rfl]
   obtain⟨df,VW,Lr⟩:=Gx (m:=m) (dq s.aa (rp s.ae p.kC)) (dq s.aa (rp s.ae p.lM))
   rw [VW,XJ]
   cases df with
   | true=>
    refine⟨_,rfl,rfl,[],by simp,CU.refl s,v,by simp; omega,fun T cT sT pT=>?_⟩
    have tp:T p.kC=T p.lM:=pT (xK p) (by rw [ed]; simp)
    have ta:T (rp s.ae p.kC)=T p.kC:=sT _ _ ga ra (v.cn.id _ ra)
    have tb:T (rp s.ae p.lM)=T p.lM:=sT _ _ gb rb (v.cn.id _ rb)
    have:=(cT _ _ ga gb (by rw [ta,tb,tp]) k1 k2).1
    have:=Lr.2 this
    cases this
   | false=>
    have tp:=Lr.1 rfl
    have a8:=(v.args _ (fN ga)).1
    have el:aB.l1 m (dq s.aa (rp s.ae p.kC)) (dq s.aa (rp s.ae p.lM)) m left 0 s=some (left++r7 ((dq s.aa (rp s.ae p.kC)).args.drop 0) ((dq s.aa (rp s.ae p.lM)).args.drop 0),((dq s.aa (rp s.ae p.kC)).args.length:Int),s):=vC tp.2.2.2 a8 m left 0 (Yt _) (by omega) (by omega)
    rw [if_neg (by decide),el]
    simp only [XJ,Ys,ej]
    refine TV (r7 (dq s.aa (rp s.ae p.kC)).args (dq s.aa (rp s.ae p.lM)).args) ?_ (fun x hx=>?_) (fun T cT hT x hx=>?_) (fun _ _=>⟨tp,fun i a b ha hb=>II ha hb⟩)
    ·unfold r7; rw [X0,List.length_zip]; omega
    ·obtain⟨j,j1,j2⟩:=CW hx
     exact⟨(v.args _ (fN ga)).2 _ (XT j1),(v.args _ (fN gb)).2 _ (XT j2)⟩
    ·obtain⟨j,j1,j2⟩:=CW hx
     exact (cT _ _ ga gb hT k1 k2).2 j _ _ j1 j2
end
end Go.Proofs.Ytifafejidnjckaa
namespace Go.Proofs.Ytifafejidnjckaa
open Go Go.R Go.Uf
open Go.IntKind (i64 u64 u8 u32)
section
variable {m:Nat}{s s':ab}
theorem Ed {a b:ab}(h1:a.ak=b.ak)(h2:a.aa=b.aa)(h3:a.ae=b.ae):a=b:=by
 cases a; cases b; cases h1; cases h2; cases h3; rfl
theorem Lt {a b:List Int}(hl:a.length=b.length)(h:∀n,Rg b.length n→iP a n=iP b n):a=b:=by
 refine YS fun i=>?_
 by_cases hi:i<b.length
 ·have r:Rg b.length (i:Int):=⟨Y5 _,by omega⟩
  have e1:=sj (to:=b) r
  have e2:=sj (to:=a) (n:=(i:Int)) (by rw [hl]; exact r)
  rw [XY] at e1 e2
  rw [e1,e2,h _ r]
 ·rw [Yc (by omega),Yc (by omega)]
theorem CX (l:List Int)(hl:l.length≤8000)(s:ab)(hs:∀n∈l,Rg s.ae.length n∧iP s.ae n=n):∀(k:Nat) (i:Nat) (s':ab),i≤l.length→l.length - i<k→s'.ak=s.ak→s'.aa=s.aa→s'.ae.length=s.ae.length→(∀n,Rg s.ae.length n→n∉l.drop i→iP s'.ae n=iP s.ae n)→
  bp.l0 m l k (i:Int) s'=some ((l.length:Int),s)
 | 0,i,s',h1,h2,_,_,_,_=>by omega
 | k+1,i,s',h1,h2,e1,e2,e3,h=>by
  simp only [bp.l0]
  by_cases hi:i<l.length
  ·have d:decide ((i:Int)<(l.length:Int))=true:=by rw [decide_eq_true_eq]; omega
   have el:=XO hi
   have ed:l.drop i=l[i]::l.drop (i+1):=XW hi
   generalize l[i]=n at el ed
   obtain⟨rn,sn⟩:=hs n (XT el)
   have TW:Rg s'.ae.length n:=by rw [e3]; exact rn
   have ew:i64.wrap ((i:Int)+1)=((i+1:Nat):Int):=by rw [jT (by omega) (by omega)]; omega
   rw [if_pos d,uw el]
   simp only [XJ,xj TW,ew]
   refine CX l hl s hs k (i+1) _ (by omega) (by omega) e1 e2 (by show (List.set _ _ _).length=_; rw [XV,e3]) (fun x hx hm=>?_)
   show iP (s'.ae.set n.toNat n) x=_
   rw [xk TW]
   by_cases he:x.toNat=n.toNat
   ·have:x=n:=by have:=hx.1; have:=rn.1; omega
    rw [if_pos he,this,sn]
   ·rw [if_neg he]
    refine h x hx ?_
    rw [ed]
    simp only [X7,not_or]
    exact⟨fun e=>he (by rw [e]),hm⟩
  ·have d:decide ((i:Int)<(l.length:Int))=false:=by rw [decide_eq_false_iff_not]; omega
   rw [if_neg (by rw [d]; decide)]
   have hd:l.drop i=[]:=Y1 (by omega)
   have:s'=s:=Ed e1 e2 (Lt e3 fun n hn=>h n hn (by rw [hd]; simp))
   rw [this]
   congr 2; omega
theorem xn (hm:16000≤m){l:List Int}(hl:l.length≤8000)(u:CU s s' l):bp.f m s' l=some s:=by
 obtain⟨u1,u2,u3,u4,u5,_⟩:=u
 have:=CX (m:=m) l hl s u4 m 0 s' (Yt _) (by omega) u1 u2 u3 (by rw [Ys]; exact u5)
 have this:bp.l0 m l m 0 s'=some ((l.length:Int),s):=this
 simp only [bp.f,this,XJ]
theorem zg {f:Int→Option Bool}{g:Int→Bool}(l:List Int)(hl:l.length≤1000000)(hf:∀x∈l,f x=some (g x)):∀(k i:Nat),i≤l.length→l.length - i<k→
  (∃j:Nat,cY.l0 m l f k (i:Int)=some (.inl (j:Int))∧i≤j∧j<l.length∧(∀x,l[j]? = some x→g x=true)∧∀q,i≤q→q<j→∀x,l[q]? = some x→g x=false)∨
  (∃z,cY.l0 m l f k (i:Int)=some (.inr z)∧∀q,i≤q→∀x,l[q]? = some x→g x=false)
 | 0,i,h1,h2=>by omega
 | k+1,i,h1,h2=>by
  simp only [cY.l0]
  by_cases hi:i<l.length
  ·have d:decide ((i:Int)<(l.length:Int))=true:=by rw [decide_eq_true_eq]; omega
   have el:=XO hi
   generalize l[i]=n at el
   have ew:i64.wrap ((i:Int)+1)=((i+1:Nat):Int):=by rw [jT (by omega) (by omega)]; omega
   rw [if_pos d,uw el]
   simp only [XJ,hf n (XT el),ew]
   cases hg:g n with
   | true=>
    left
    refine⟨i,by simp,XP _,hi,fun x hx=>?_,fun q h3 h4=>by omega⟩
    rw [el] at hx; cases hx; exact hg
   | false=>
    rw [if_neg (by decide)]
    have iP:∀q,i≤q→q≠i→i+1≤q:=fun q h3 h4=>by omega
    rcases zg l hl hf k (i+1) (by omega) (by omega) with⟨j,e,j1,j2,j3,j4⟩| ⟨z,e,j4⟩
    ·left
     refine⟨j,e,by omega,j2,j3,fun q h3 h4 x hx=>?_⟩
     by_cases hq:q=i
     ·subst hq; rw [el] at hx; cases hx; exact hg
     ·exact j4 q (iP q h3 hq) h4 x hx
    ·right
     refine⟨z,e,fun q h3 x hx=>?_⟩
     by_cases hq:q=i
     ·subst hq; rw [el] at hx; cases hx; exact hg
     ·exact j4 q (iP q h3 hq) x hx
  ·have d:decide ((i:Int)<(l.length:Int))=false:=by rw [decide_eq_false_iff_not]; omega
   rw [if_neg (by rw [d]; decide)]
   right
   refine⟨_,rfl,fun q h3 x hx=>?_⟩
   rw [Yc (by omega)] at hx; cases hx
theorem CY {f:Int→Option Bool}{g:Int→Bool}(hm:2000000≤m)(l:List Int)(hl:l.length≤1000000)(hf:∀x∈l,f x=some (g x)) :
  (∃j:Nat,cY.f m l f=some (j:Int)∧j<l.length∧(∀x,l[j]? = some x→g x=true)∧∀q,q<j→∀x,l[q]? = some x→g x=false)∨
  (cY.f m l f=some (-1)∧∀x∈l,g x=false):=by
 rcases zg (m:=m) l hl hf m 0 (Yt _) (by omega) with⟨j,e,j1,j2,j3,j4⟩| ⟨z,e,j4⟩
 ·left
  have e:cY.l0 m l f m 0=_:=e
  refine⟨j,by simp only [cY.f,e,XJ],j2,j3,fun q=>j4 q (Yt _)⟩
 ·right
  have e:cY.l0 m l f m 0=_:=e
  refine⟨by simp only [cY.f,e,XJ],fun x hx=>?_⟩
  obtain⟨q,hq⟩:=YC hx
  exact j4 q (Yt _) x hq
theorem tX {f:Int→Option Bool}{g:Int→Bool}(hm:2000000≤m)(l:List Int)(hl:l.length≤1000000)(hf:∀x∈l,f x=some (g x)):eW.f m l f=some (l.any g):=by
 unfold eW.f
 rcases CY hm l hl hf with⟨j,e,j1,j2,_⟩| ⟨e,h⟩
 ·rw [e,XJ]
  have h1:=XO j1
  have:l.any g=true:=List.any_eq_true.2 ⟨_,XT h1,j2 _ h1⟩
  rw [this]
  rw [show decide ((j:Int)≥0)=true by rw [decide_eq_true_eq]; omega]
 ·rw [e,XJ]
  have:l.any g=false:=by
   rw [List.any_eq_false]
   intro x hx; simp [h x hx]
  rw [this]; rfl
theorem nU (hm:2000000≤m)(hs:s.ak=true)(l:List Int)(hl:l.length≤1000000):bT.f m s l=some (if l.all (fun n=>decide (Rg s.aa.length n)) then 0 else 1):=by
 unfold bT.f bL.f
 rw [hs]
 simp only [XJ,YQ,XX,if_false]
 rw [tX hm l hl (g:=fun n=>!decide (Rg s.aa.length n)) (fun x _=>by simp only [dt.f,CT,XJ])]
 rw [XJ]
 have:(l.any fun n=>!decide (Rg s.aa.length n)) = !(l.all fun n=>decide (Rg s.aa.length n)):=by
  induction l with
  | nil=>rfl
  | cons a l ih=>simp only [List.any_cons,YA,Bool.not_and,ih (by simp only [X2] at hl; omega)]
 rw [this]
 cases (l.all fun n=>decide (Rg s.aa.length n))<;>rfl
end
end Go.Proofs.Ytifafejidnjckaa
namespace Go.R
open Go
open Go.IntKind (i64 u64 u8 u32)
theorem Gz (x:Int):u64.wrap x=x % 18446744073709551616:=by
 unfold IntKind.wrap; simp [IntKind.signed,IntKind.bits]
theorem Lu {x:Int}(h0:0≤x)(h1:x<18446744073709551616):u64.wrap x=x:=by
 rw [Gz,Int.emod_eq_of_lt h0 h1]
theorem GA (x:Int):i64.wrap x=if x % 18446744073709551616≥9223372036854775808 then x % 18446744073709551616 - 18446744073709551616 else x % 18446744073709551616:=by
 unfold IntKind.wrap; simp [IntKind.signed,IntKind.bits]
theorem bM {x:Int}(h0 : -9223372036854775808≤x)(h1:x<9223372036854775808):i64.wrap x=x:=by
 rw [GA]; split<;>omega
end Go.R
namespace Go.Proofs.Ytifafejidnjckaa
open Go Go.R
open Go.IntKind (i64 u64 u8 u32)
def gt (l:List Int)(k:Nat):Int:=l.getD k 0
theorem eF {l:List Int}{k:Nat}(h:k<l.length):l[k]? = some (gt l k):=by
 unfold gt; rw [X4,XO h]; rfl
theorem bX {l:List Int}{k:Nat}(h:k<l.length):gt l k∈l:=XT (eF h)
theorem gd {l:List Int}{k:Nat}(h:k<l.length):ix l (k:Int)=some (gt l k):=by
 unfold ix; rw [if_pos (by omega),XY,eF h]
theorem AU {l:List Int}{i:Int}{k:Nat}(hi:i=(k:Int))(h:k<l.length):ix l i=some (gt l k):=by rw [hi,gd h]
theorem qI {l:List Int}{i k:Nat}{x:Int}(hi:i<l.length):gt (l.set i x) k=if k=i then x else gt l k:=by
 unfold gt
 simp only [X4,Zb]
 by_cases h:i=k
 ·subst h; simp [hi]
 ·rw [if_neg h,if_neg (by omega)]
theorem Lv {l r:List Int}(hl:l.length=r.length)(h:∀k,k<l.length→gt l k=gt r k):l=r:=by
 apply YS fun k=>?_
 by_cases hk:k<l.length
 ·rw [eF hk,eF (hl ▸ hk),h k hk]
 ·rw [Yc (by omega),Yc (by omega)]
def swp (l:List Int)(i j:Nat):List Int:=(l.set i (gt l j)).set j (gt l i)
theorem pW {l:List Int}{i j:Nat}(hi:i<l.length)(hj:j<l.length):(swp l i j).Perm l:=by
 have h1:gt l j=l[j]:=by have:=eF hj; rw [XO hj] at this; exact (Yj this).symm
 have h2:gt l i=l[i]:=by have:=eF hi; rw [XO hi] at this; exact (Yj this).symm
 unfold swp; rw [h1,h2]; exact List.set_set_perm hi hj
theorem mq {l:List Int}{i j k:Nat}(hi:i<l.length)(hj:j<l.length):gt (swp l i j) k=if k=j then gt l i else if k=i then gt l j else gt l k:=by
 unfold swp
 rw [qI (by simpa using hj),qI hi]
theorem tY {l:List Int}{i j:Nat}:(swp l i j).length=l.length:=by simp [swp]
theorem zh {a b:Nat}(h:a+b<9223372036854775808):i64.wrap (jD .u64 (u64.wrap (i64.wrap ((a:Int)+(b:Int)))) 1)=(((a+b) / 2:Nat):Int):=by
 rw [bM (x:=(a:Int)+b) (by omega) (by omega),Lu (by omega) (by omega)]
 have:jD .u64 ((a:Int)+(b:Int)) 1=(((a+b) / 2:Nat):Int):=by
  unfold jD
  rw [Int.fdiv_eq_ediv_of_nonneg _ (by decide)]
  show ((a:Int)+(b:Int)) / 2=_
  omega
 rw [this,bM (by omega) (by omega)]
theorem GB {m:Nat}{l:List Int}{a b n:Nat}(h1:a+n≤b)(h2:b+n≤l.length)(hl:l.length<2 ^ 40):∀(f i:Nat) (d:List Int),n - i<f→i≤n→d.Perm l→
  (∀k,gt d k=if a≤k∧k<a+i then gt l (k - a+b) else if b≤k∧k<b+i then gt l (k - b+a) else gt l k)→
  ∃d' x,b5.l0 m (a:Int) (b:Int) (n:Int) f d (i:Int)=some (d',x)∧d'.Perm l∧(∀k,gt d' k=if a≤k∧k<a+n then gt l (k - a+b) else if b≤k∧k<b+n then gt l (k - b+a) else gt l k)
 | 0,i,d,hf,_,_,_=>absurd hf (by omega)
 | f+1,i,d,hf,hi,hp,hg=>by
  have ux:(2:Nat) ^ 40=1099511627776:=by decide
  have RL:=hp.length_eq
  unfold b5.l0
  by_cases h:i<n
  ·have e1:i64.wrap ((b:Int)+(i:Int))=((b+i:Nat):Int):=by rw [bM (by omega) (by omega)]; omega
   have e2:i64.wrap ((a:Int)+(i:Int))=((a+i:Nat):Int):=by rw [bM (by omega) (by omega)]; omega
   have e3:i64.wrap ((i:Int)+1)=((i+1:Nat):Int):=by rw [bM (by omega) (by omega)]; omega
   rw [if_pos (by simp; omega),e1,e2,e3,gd (by omega),gd (by omega),XY,XY,XJ,XJ,XJ,gd (by simp; omega),XJ]
   show ∃d' x,b5.l0 m (a:Int) (b:Int) (n:Int) f (swp d (a+i) (b+i)) ((i+1:Nat):Int)=some (d',x)∧_
   refine GB h1 h2 hl f (i+1) _ (by omega) (by omega) ((pW (by omega) (by omega)).trans hp) fun k=>?_
   rw [mq (by omega) (by omega),hg,hg,hg]
   by_cases k1:k=b+i
   ·subst k1
    rw [if_pos rfl,if_neg (by omega),if_neg (by omega),if_neg (by omega),if_pos (by omega)]
    congr 1; omega
   ·rw [if_neg k1]
    by_cases k2:k=a+i
    ·subst k2
     rw [if_pos rfl,if_neg (by omega),if_neg (by omega),if_pos (by omega)]
     congr 1; omega
    ·rw [if_neg k2]
     by_cases k3:a≤k∧k<a+i
     ·rw [if_pos k3,if_pos (by omega)]
     ·rw [if_neg k3,if_neg (show ¬(a≤k∧k<a+(i+1)) by omega)]
      by_cases k4:b≤k∧k<b+i
      ·rw [if_pos k4,if_pos (by omega)]
      ·rw [if_neg k4,if_neg (by omega)]
  ·have:i=n:=by omega
   subst this
   exact⟨d,i,by rw [if_neg (by simp)],hp,hg⟩
theorem tZ {m:Nat}{l:List Int}{a b n:Nat}{cmp:Int→Int→Option Int}(h1:a+n≤b)(h2:b+n≤l.length)(hl:l.length<2 ^ 40)(hm:n<m) :
  ∃d',b5.f m l (a:Int) (b:Int) (n:Int) cmp=some d'∧d'.Perm l∧(∀k,gt d' k=if a≤k∧k<a+n then gt l (k - a+b) else if b≤k∧k<b+n then gt l (k - b+a) else gt l k):=by
 obtain⟨d',x,e,hp,hg⟩:=GB (m:=m) h1 h2 hl m 0 l (by omega) (by omega) (List.Perm.refl _) (fun k=>by rw [if_neg (by omega),if_neg (by omega)])
 have e:b5.l0 m (a:Int) (b:Int) (n:Int) m l 0=_:=e
 exact⟨d',by unfold b5.f; rw [e]; rfl,hp,hg⟩
def Mf (l d:List Int)(p i j:Nat):Prop:=d.Perm l∧(∀k,k<j→gt d (p+k)=gt l (p+i+k))∧(∀k,k<i→gt d (p+j+k)=gt l (p+k))∧∀k,k<p∨p+i+j≤k→gt d k=gt l k
theorem AW {m:Nat}{q:Nat}{cmp:Int→Int→Option Int}(hm:2 ^ 41≤m):∀(f i j:Nat) (l:List Int),i+j<f→0<i→0<j→i≤q→q+j≤l.length→l.length<2 ^ 40→
  ∃(d':List Int) (x:Nat) (d:List Int),fD.l0 m (q:Int) cmp f l (i:Int) (j:Int)=some (d',(x:Int),(x:Int))∧b5.f m d' (i64.wrap ((q:Int) - (x:Int))) (q:Int) (x:Int) cmp=some d∧Mf l d (q - i) i j
 | 0,i,j,l,hf,_,_,_,_,_=>absurd hf (by omega)
 | f+1,i,j,l,hf,hi,hj,hq,hl,hs=>by
  have ux:(2:Nat) ^ 40=1099511627776:=by decide
  have xo:(2:Nat) ^ 41=2199023255552:=by decide
  unfold fD.l0
  have e1:i64.wrap ((q:Int) - (i:Int))=((q - i:Nat):Int):=by rw [bM (by omega) (by omega)]; omega
  by_cases h:i=j
  ·subst h
   rw [if_neg (by simp)]
   obtain⟨d,e,hp,hg⟩:=tZ (m:=m) (l:=l) (a:=q - i) (b:=q) (n:=i) (cmp:=cmp) (by omega) (by omega) hs (by omega)
   refine⟨l,i,d,rfl,by rw [e1,e],hp,fun k hk=>?_,fun k hk=>?_,fun k hk=>?_⟩
   ·rw [hg,if_pos (by omega)]; congr 1; omega
   ·rw [hg,if_neg (by omega),if_pos (by omega)]; congr 1; omega
   ·rw [hg,if_neg (by omega),if_neg (by omega)]
  ·rw [if_pos (by simp; omega)]
   by_cases h2:j<i
   ·obtain⟨d1,e,hp,hg⟩:=tZ (m:=m) (l:=l) (a:=q - i) (b:=q) (n:=j) (cmp:=cmp) (by omega) (by omega) hs (by omega)
    have hd:=hp.length_eq
    have e2:i64.wrap ((i:Int) - (j:Int))=((i - j:Nat):Int):=by rw [bM (by omega) (by omega)]; omega
    rw [if_pos (by simp; omega),e1,e,XJ,e2]
    obtain⟨d',x,d,k1,k2,k3,k4,k5,k6⟩:=AW (q:=q) (cmp:=cmp) hm f (i - j) j d1 (by omega) (by omega) hj (by omega) (by omega) (by omega)
    refine⟨d',x,d,k1,k2,k3.trans hp,fun k hk=>?_,fun k hk=>?_,fun k hk=>?_⟩
    ·rw [k6 _ (by omega),hg,if_pos (by omega)]; congr 1; omega
    ·by_cases RM:k<j
     ·have:=k4 k RM
      rw [show q - (i - j)+k=q - i+j+k by omega,hg,if_neg (by omega),if_pos (by omega)] at this
      rw [this]; congr 1; omega
     ·have:=k5 (k - j) (by omega)
      rw [show q - (i - j)+j+(k - j)=q - i+j+k by omega,hg,if_neg (by omega),if_neg (by omega)] at this
      rw [this]; congr 1; omega
    ·rw [k6 _ (by omega),hg,if_neg (by omega),if_neg (by omega)]
   ·have e2:i64.wrap (i64.wrap ((q:Int)+(j:Int)) - (i:Int))=((q+j - i:Nat):Int):=by rw [bM (x:=(q:Int)+j) (by omega) (by omega),bM (by omega) (by omega)]; omega
    have e3:i64.wrap ((j:Int) - (i:Int))=((j - i:Nat):Int):=by rw [bM (by omega) (by omega)]; omega
    obtain⟨d1,e,hp,hg⟩:=tZ (m:=m) (l:=l) (a:=q - i) (b:=q+j - i) (n:=i) (cmp:=cmp) (by omega) (by omega) hs (by omega)
    have hd:=hp.length_eq
    rw [if_neg (by simp; omega),e1,e2,e,XJ,e3]
    obtain⟨d',x,d,k1,k2,k3,k4,k5,k6⟩:=AW (q:=q) (cmp:=cmp) hm f i (j - i) d1 (by omega) hi (by omega) hq (by omega) (by omega)
    refine⟨d',x,d,k1,k2,k3.trans hp,fun k hk=>?_,fun k hk=>?_,fun k hk=>?_⟩
    ·by_cases RM:k<j - i
     ·rw [k4 k RM,hg,if_neg (by omega),if_neg (by omega)]
     ·have:=k5 (k - (j - i)) (by omega)
      rw [show q - i+(j - i)+(k - (j - i))=q - i+k by omega,hg,if_pos (by omega)] at this
      rw [this]; congr 1; omega
    ·rw [k6 _ (by omega),hg,if_neg (by omega),if_pos (by omega)]; congr 1; omega
    ·rw [k6 _ (by omega),hg,if_neg (by omega),if_neg (by omega)]
theorem GC {m:Nat}{a q b:Nat}{cmp:Int→Int→Option Int}{l:List Int}(hm:2 ^ 41≤m)(h1:a<q)(h2:q<b)(h3:b≤l.length)(hs:l.length<2 ^ 40) :
  ∃d,fD.f m l (a:Int) (q:Int) (b:Int) cmp=some d∧Mf l d a (q - a) (b - q):=by
 have ux:(2:Nat) ^ 40=1099511627776:=by decide
 have xo:(2:Nat) ^ 41=2199023255552:=by decide
 obtain⟨d',x,d,k1,k2,k3⟩:=AW (q:=q) (cmp:=cmp) hm m (q - a) (b - q) l (by omega) (by omega) (by omega) (by omega) (by omega) hs
 rw [show q - (q - a)=a by omega] at k3
 refine⟨d,?_,k3⟩
 unfold fD.f
 rw [show i64.wrap ((q:Int) - (a:Int))=((q - a:Nat):Int) by rw [bM (by omega) (by omega)]; omega,show i64.wrap ((b:Int) - (q:Int))=((b - q:Nat):Int) by rw [bM (by omega) (by omega)]; omega,k1,XJ]
 dsimp only
 rw [k2]; rfl
end Go.Proofs.Ytifafejidnjckaa
namespace Go.Proofs.Ytifafejidnjckaa
open Go Go.R
open Go.IntKind (i64 u64 u8 u32)
def nV (c:Int):Bool:=decide (97≤c∧c≤122)||decide (65≤c∧c≤90)||decide (48≤c∧c≤57)||c==95
theorem zi {m:Nat}(c:Int):gk.f m c=some (nV c):=by
 unfold gk.f
 by_cases h1:97≤c<;>by_cases h2:c≤122<;>by_cases h3:65≤c<;>by_cases h4:c≤90<;>by_cases h5:48≤c<;>by_cases h6:c≤57<;>simp [nV,h1,h2,h3,h4,h5,h6]<;>omega
theorem CZ {s:ByteArray}{i:Nat}(h:i<s.size):∃c:UInt8,s.data.toList[i]? = some c∧bt s (i:Int)=some (c.toNat:Int):=by
 have h':i<s.data.toList.length:=by simpa using h
 refine⟨s.data.toList[i],XO h',?_⟩
 unfold bt; rw [if_pos (by omega),XY,XO h']; rfl
theorem C0 {m:Nat}{s:ByteArray}(hs:s.size≤16):∀(f i:Nat),s.size - i<f→i≤s.size→
  ∃o,dn.l0 m s f (i:Int)=some o∧((∃x,o = .inr x)∧((s.data.toList.drop i).all fun c=>nV (c.toNat:Int))=true∨o = .inl false∧((s.data.toList.drop i).all fun c=>nV (c.toNat:Int))=false)
 | 0,i,hf,_=>absurd hf (by omega)
 | f+1,i,hf,hi=>by
  unfold dn.l0
  by_cases h:i<s.size
  ·obtain⟨c,hc,hb⟩:=CZ h
   obtain⟨h4,h5⟩:=XQ.1 hc
   have hd:s.data.toList.drop i=c::s.data.toList.drop (i+1):=by rw [←h5]; exact XW h4
   rw [if_pos (by simp only [decide_eq_true_eq]; omega),hb,XJ,zi,XJ,hd,YA]
   cases hl:nV (c.toNat:Int) with
   | false=>exact⟨_,rfl,.inr ⟨rfl,rfl⟩⟩
   | true=>
    obtain⟨o,h1,h2⟩:=C0 (m:=m) hs f (i+1) (by omega) (by omega)
    rw [if_neg (by simp),bM (by omega) (by omega),show (i:Int)+1=((i+1:Nat):Int) by omega,h1]
    exact⟨o,rfl,by simpa using h2⟩
  ·refine⟨_,by rw [if_neg (by simp only [decide_eq_true_eq]; omega)],.inl ⟨⟨_,rfl⟩,?_⟩⟩
   rw [Y1 (by simp; omega)]; rfl
def C1 (s:ByteArray)(lo hi:Int):Bool:=match s.data.toList with
 | []=>false
 | c::cs=>decide (cs.length≤15)&&decide (lo≤(c.toNat:Int))&&decide ((c.toNat:Int)≤hi)&&((c::cs).all fun c=>nV (c.toNat:Int))
theorem Ee {m:Nat}(hm:20≤m)(s:ByteArray)(lo hi:Int):dn.f m s lo hi=some (C1 s lo hi):=by
 have hsz:s.size=s.data.toList.length:=by simp
 unfold dn.f C1
 cases hl:s.data.toList with
 | nil=>rw [if_pos (by rw [hl,Yf] at hsz; simp only [decide_eq_true_eq]; omega)]
 | cons c cs=>
  rw [hl,X2] at hsz
  rw [if_neg (by simp only [decide_eq_true_eq]; omega)]
  dsimp only
  by_cases h16:cs.length≤15
  ·obtain⟨c',h1,h2⟩:=CZ (s:=s) (i:=0) (by omega)
   rw [hl] at h1
   simp only [Ym,XM] at h1
   subst h1
   have h2:bt s 0=_:=h2
   rw [if_neg (by simp only [decide_eq_true_eq]; omega),h2,XJ]
   by_cases h3:(c.toNat:Int)<lo
   ·rw [if_pos (by simpa using h3)]
    simp only [XM]
    rw [show decide (lo≤(c.toNat:Int))=false by simp; omega]; simp
   rw [if_neg (by simpa using h3),XJ]
   by_cases h4:(c.toNat:Int) > hi
   ·rw [if_pos (by simpa using h4)]
    simp only [XM]
    rw [show decide ((c.toNat:Int)≤hi)=false by simp; omega]; simp
   rw [if_neg (by simpa using h4)]
   obtain⟨o,k1,k2⟩:=C0 (m:=m) (s:=s) (by omega) m 0 (by omega) (by omega)
   have k1:dn.l0 m s m 0=_:=k1
   rw [k1,XJ]
   rw [Ys,hl] at k2
   rw [show decide (lo≤(c.toNat:Int))=true by simp; omega,show decide ((c.toNat:Int)≤hi)=true by simp; omega,show decide (cs.length≤15)=true by simpa using h16]
   simp only [Zg]
   rcases k2 with⟨⟨x,rfl⟩,k⟩| ⟨rfl,k⟩
   ·rw [k]
   ·rw [k]
  ·rw [if_pos (by simp only [decide_eq_true_eq]; omega),show decide (cs.length≤15)=false by simp; omega]; rfl
def ox (s:ByteArray):Bool:=s.data.toList==[124]||s.data.toList==[35]||C1 s 97 122
theorem nW {m:Nat}(hm:20≤m)(s:ByteArray):fY.f m s=some (ox s):=by
 unfold fY.f ox
 show (if (s.data.toList==[124])=true then _ else if (s.data.toList==[35])=true then _ else _)=_
 cases h1:s.data.toList==[124] with
 | true=>rfl
 | false=>
  cases h2:s.data.toList==[35] with
  | true=>rfl
  | false=>rw [Ee hm]; rfl
theorem vD {s:ByteArray}(h:ox s=true):1≤s.size∧s.size≤16:=by
 have hsz:s.size=s.data.toList.length:=by simp
 unfold ox at h
 simp only [Yw,beq_iff_eq] at h
 rcases h with (h | h) | h
 ·rw [h] at hsz; simp at hsz; omega
 ·rw [h] at hsz; simp at hsz; omega
 ·unfold C1 at h
  split at h
  ·cases h
  ·rename_i c cs hl
   rw [hl] at hsz
   simp only [XN,decide_eq_true_eq] at h
   simp at hsz; omega
def zj (s:ByteArray):Bool:=s.data.toList==[112,114,111,99]||s.data.toList==[99,101,108,108]||s.data.toList==[112,111,114,116]
theorem vE {m:Nat}(s:ByteArray):gw.f m s=some (zj s):=by
 unfold gw.f zj
 show (if (s.data.toList==[112,114,111,99])=true then _ else if (s.data.toList==[99,101,108,108])=true then _ else some (s.data.toList==[112,111,114,116]))=_
 cases h1:s.data.toList==[112,114,111,99] with
 | true=>rfl
 | false=>
  cases h2:s.data.toList==[99,101,108,108] with
  | true=>rfl
  | false=>rfl
theorem GD {m:Nat}{s:List Int}{f0:Int→Option Bool}{g:Int→Bool}(hs:s.length<2 ^ 40)(C:∀x∈s,f0 x=some (g x)):∀(f i:Nat),s.length - i<f→i≤s.length→
  ∃o,cY.l0 m s f0 f (i:Int)=some o∧((∃x,o = .inr x)∧(s.drop i).any g=false∨(∃x:Nat,o = .inl (x:Int))∧(s.drop i).any g=true)
 | 0,i,hf,_=>absurd hf (by omega)
 | f+1,i,hf,hi=>by
  have ux:(2:Nat) ^ 40=1099511627776:=by decide
  unfold cY.l0
  by_cases h:i<s.length
  ·have hx:ix s (i:Int)=some s[i]:=by unfold ix; rw [if_pos (by omega)]; simp [h]
   rw [if_pos (by simp only [decide_eq_true_eq]; omega),hx,XJ,C _ (List.getElem_mem h),XJ,XW h,List.any_cons]
   cases g s[i] with
   | true=>exact⟨_,rfl,.inr ⟨⟨i,rfl⟩,rfl⟩⟩
   | false=>
    obtain⟨o,h1,h2⟩:=GD (m:=m) hs C f (i+1) (by omega) (by omega)
    rw [if_neg (by simp),bM (by omega) (by omega),show (i:Int)+1=((i+1:Nat):Int) by omega,h1]
    exact⟨o,rfl,by simpa using h2⟩
  ·refine⟨_,by rw [if_neg (by simp only [decide_eq_true_eq]; omega)],.inl ⟨⟨_,rfl⟩,?_⟩⟩
   rw [Y1 (by omega)]; rfl
theorem Ef {m:Nat}{s:List Int}{f0:Int→Option Bool}{g:Int→Bool}(hs:s.length<2 ^ 40)(hm:s.length<m)(C:∀x∈s,f0 x=some (g x)):eW.f m s f0=some (s.any g):=by
 obtain⟨o,h1,h2⟩:=GD (m:=m) hs C m 0 (by omega) (by omega)
 have h1:cY.l0 m s f0 m 0=_:=h1
 unfold eW.f cY.f
 rw [h1,XJ]
 rw [Ys] at h2
 rcases h2 with⟨⟨x,rfl⟩,k⟩| ⟨⟨x,rfl⟩,k⟩
 ·rw [k]; rfl
 ·rw [k]
  simp only [XJ,XM]
  simp
theorem GF {m:Nat}{s:List aj}{f0:aj→Option Bool}{g:aj→Bool}(hs:s.length<2 ^ 40)(C:∀x∈s,f0 x=some (g x)):∀(f i:Nat),s.length - i<f→i≤s.length→
  ∃o,fC.l0 m s f0 f (i:Int)=some o∧((∃x,o = .inr x)∧(s.drop i).any g=false∨(∃x:Nat,o = .inl (x:Int))∧(s.drop i).any g=true)
 | 0,i,hf,_=>absurd hf (by omega)
 | f+1,i,hf,hi=>by
  have ux:(2:Nat) ^ 40=1099511627776:=by decide
  unfold fC.l0
  by_cases h:i<s.length
  ·have hx:ix s (i:Int)=some s[i]:=by unfold ix; rw [if_pos (by omega)]; simp [h]
   rw [if_pos (by simp only [decide_eq_true_eq]; omega),hx,XJ,C _ (List.getElem_mem h),XJ,XW h,List.any_cons]
   cases g s[i] with
   | true=>exact⟨_,rfl,.inr ⟨⟨i,rfl⟩,rfl⟩⟩
   | false=>
    obtain⟨o,h1,h2⟩:=GF (m:=m) hs C f (i+1) (by omega) (by omega)
    rw [if_neg (by simp),bM (by omega) (by omega),show (i:Int)+1=((i+1:Nat):Int) by omega,h1]
    exact⟨o,rfl,by simpa using h2⟩
  ·refine⟨_,by rw [if_neg (by simp only [decide_eq_true_eq]; omega)],.inl ⟨⟨_,rfl⟩,?_⟩⟩
   rw [Y1 (by omega)]; rfl
theorem Eg {m:Nat}{s:List aj}{f0:aj→Option Bool}{g:aj→Bool}(hs:s.length<2 ^ 40)(hm:s.length<m)(C:∀x∈s,f0 x=some (g x)):gW.f m s f0=some (s.any g):=by
 obtain⟨o,h1,h2⟩:=GF (m:=m) hs C m 0 (by omega) (by omega)
 have h1:fC.l0 m s f0 m 0=_:=h1
 unfold gW.f fC.f
 rw [h1,XJ]
 rw [Ys] at h2
 rcases h2 with⟨⟨x,rfl⟩,k⟩| ⟨⟨x,rfl⟩,k⟩
 ·rw [k]; rfl
 ·rw [k]
  simp only [XJ,XM]
  simp
def fA (n:aj)(size:Int):Bool:=
 if n.kind=0 then decide (0≤n.int)&&n.label.data.toList==[]&&n.args.isEmpty
 else if n.kind=1 then decide (-1099511627776≤n.int)&&decide (n.int≤1099511627776)&&n.label.data.toList==[]&&n.args.isEmpty
 else if n.kind=2 then n.int==0&&ox n.label&&n.args.isEmpty
 else if n.kind=3 then n.int==0&&ox n.label&&decide (1≤n.args.length)&&decide (n.args.length≤8)&&n.args.all fun a=>decide (0≤a)&&decide (a<size)
 else if n.kind=4 then decide (0≤n.int)&&zj n.label&&n.args.isEmpty
 else false
theorem IJ (l:List Int):((l.length:Int)==(0:Int))=l.isEmpty:=by cases l<;>simp; omega
theorem Eh {m:Nat}(hm:20≤m)(n:aj)(size:Int):iO.f m n size=some (fA n size):=by
 unfold iO.f fA
 by_cases k0:n.kind=0
 ·rw [if_pos (by simpa using k0),if_pos k0]
  by_cases h1:0≤n.int
  ·rw [if_pos (by simpa using h1),show decide (0≤n.int)=true by simpa using h1]
   show (if (n.label.data.toList==[])=true then _ else _)=_
   cases n.label.data.toList==[] with
   | true=>rw [if_pos rfl,IJ]; rfl
   | false=>rfl
  ·rw [if_neg (by simpa using h1),show decide (0≤n.int)=false by simp; omega]; rfl
 rw [if_neg (by simpa using k0),if_neg k0]
 by_cases k1:n.kind=1
 ·rw [if_pos (by simpa using k1),if_pos k1]
  by_cases h1 : -1099511627776≤n.int
  ·rw [if_pos (by simpa using h1),show decide (-1099511627776≤n.int)=true by simpa using h1]
   by_cases h3:n.int≤1099511627776
   ·rw [if_pos (by simpa using h3),show decide (n.int≤1099511627776)=true by simpa using h3]
    show (if (n.label.data.toList==[])=true then _ else _)=_
    cases n.label.data.toList==[] with
    | true=>rw [if_pos rfl,IJ]; rfl
    | false=>rfl
   ·rw [if_neg (by simpa using h3),show decide (n.int≤1099511627776)=false by simp; omega]; rfl
  ·rw [if_neg (by simpa using h1),show decide (-1099511627776≤n.int)=false by simp; omega]; rfl
 rw [if_neg (by simpa using k1),if_neg k1]
 by_cases k2:n.kind=2
 ·rw [if_pos (by simpa using k2),if_pos k2]
  cases h1:n.int==0 with
  | false=>rfl
  | true=>
   rw [if_pos rfl,nW hm,XJ]
   cases ox n.label with
   | false=>rfl
   | true=>rw [if_pos rfl,IJ]; rfl
 rw [if_neg (by simpa using k2),if_neg k2]
 by_cases k3:n.kind=3
 ·rw [if_pos (by simpa using k3),if_pos k3]
  cases h1:n.int==0 with
  | false=>rfl
  | true=>
   rw [if_pos rfl,nW hm,XJ]
   cases ox n.label with
   | false=>rfl
   | true=>
    rw [if_pos rfl]
    by_cases g1:1≤n.args.length
    ·rw [if_pos (by simp only [decide_eq_true_eq]; omega),show decide (1≤n.args.length)=true by simpa using g1]
     by_cases g2:n.args.length≤8
     ·rw [if_pos (by simp only [decide_eq_true_eq]; omega),show decide (n.args.length≤8)=true by simpa using g2]
      rw [Ef (g:=fun a=>!(decide (0≤a)&&decide (a<size))) (by omega) (by omega) (fun a _=>by
       unfold gU.f
       by_cases w:a<0
       ·rw [if_pos (by simpa using w),show decide (0≤a)=false by simp; omega]; rfl
       ·rw [if_neg (by simpa using w),show decide (0≤a)=true by simp; omega]
        by_cases w2:a<size
        ·rw [show decide (a≥size)=false from decide_eq_false (by omega),show decide (a<size)=true from decide_eq_true w2]; rfl
        ·rw [show decide (a≥size)=true from decide_eq_true (by omega),show decide (a<size)=false from decide_eq_false w2]; rfl),XJ]
      simp [List.not_any_eq_all_not]
     ·rw [if_neg (by simp only [decide_eq_true_eq]; omega),show decide (n.args.length≤8)=false from decide_eq_false g2]; rfl
    ·rw [if_neg (by simp only [decide_eq_true_eq]; omega),show decide (1≤n.args.length)=false from decide_eq_false g1]; rfl
 rw [if_neg (by simpa using k3),if_neg k3]
 by_cases k4:n.kind=4
 ·rw [if_pos (by simpa using k4),if_pos k4]
  by_cases h1:0≤n.int
  ·rw [if_pos (by simpa using h1),show decide (0≤n.int)=true by simpa using h1,vE,XJ]
   cases zj n.label with
   | false=>rfl
   | true=>rw [if_pos rfl,IJ]; rfl
  ·rw [if_neg (by simpa using h1),show decide (0≤n.int)=false by simp; omega]; rfl
 rw [if_neg (by simpa using k4),if_neg k4]
end Go.Proofs.Ytifafejidnjckaa
namespace Go.Proofs.Ytifafejidnjckaa
open Go Go.R
open Go.IntKind (i64 u64 u8 u32)
structure Mv (lo hi:Nat)(l d:List Int):Prop where
 perm:d.Perm l
 out:∀k,k<lo∨hi≤k→gt d k=gt l k
 im:∀k,lo≤k→k<hi→∃k',lo≤k'∧k'<hi∧gt d k=gt l k'
theorem Mv.refl {lo hi:Nat}{l:List Int}:Mv lo hi l l:=⟨List.Perm.refl _,fun _ _=>rfl,fun k h1 h2=>⟨k,h1,h2,rfl⟩⟩
theorem Mv.trans {lo hi:Nat}{l d e:List Int}(a:Mv lo hi l d)(b:Mv lo hi d e):Mv lo hi l e:=
 ⟨b.perm.trans a.perm,fun k hk=>(b.out k hk).trans (a.out k hk),fun k h1 h2=>by
  obtain⟨k',g1,g2,g3⟩:=b.im k h1 h2
  obtain⟨VX,g4,g5,g6⟩:=a.im k' g1 g2
  exact⟨VX,g4,g5,g3.trans g6⟩⟩
theorem Mv.length {lo hi:Nat}{l d:List Int}(a:Mv lo hi l d):d.length=l.length:=a.perm.length_eq
theorem Mv.wide {lo hi Hr jP:Nat}{l d:List Int}(a:Mv lo hi l d)(h1:Hr≤lo)(h2:hi≤jP):Mv Hr jP l d:=
 ⟨a.perm,fun k hk=>a.out k (by omega),fun k h3 h4=>by
  by_cases h:lo≤k∧k<hi
  ·obtain⟨k',g1,g2,g3⟩:=a.im k h.1 h.2
   exact⟨k',by omega,by omega,g3⟩
  ·exact⟨k,h3,h4,a.out k (by omega)⟩⟩
theorem AX {lo hi i j:Nat}{l:List Int}(Oo:lo≤i)(Bh:i<hi)(OG:lo≤j)(Hw:j<hi)(h:hi≤l.length):Mv lo hi l (swp l i j):=
 ⟨pW (by omega) (by omega),fun k hk=>by rw [mq (by omega) (by omega),if_neg (by omega),if_neg (by omega)],fun k h1 h2=>by
  rw [mq (by omega) (by omega)]
  split
  ·exact⟨i,Oo,Bh,rfl⟩
  split
  ·exact⟨j,OG,Hw,rfl⟩
  ·exact⟨k,h1,h2,rfl⟩⟩
def Cm (cmp:Int→Int→Option Int)(c:Int→Int→Int)(l:List Int):Prop:=∀x∈l,∀y∈l,cmp x y=some (c x y)
theorem Cm.perm {cmp c l d}(h:Cm cmp c l)(p:List.Perm d l):Cm cmp c d:=fun x hx y hy=>h x (p.mem_iff.1 hx) y (p.mem_iff.1 hy)
theorem Cm.at {cmp c}{l:List Int}(h:Cm cmp c l){i j:Nat}(hi:i<l.length)(hj:j<l.length):cmp (gt l i) (gt l j)=some (c (gt l i) (gt l j)):=h _ (bX hi) _ (bX hj)
structure Ord (c:Int→Int→Int)(l:List Int):Prop where
 tr:∀x∈l,∀y∈l,∀z∈l,0≤c y x→0≤c z y→0≤c z x
 Mg:∀x∈l,∀y∈l,c x y<0→0≤c y x
theorem Ord.perm {c l d}(h:Ord c l)(p:List.Perm d l):Ord c d:=⟨fun x hx y hy z hz=>h.tr x (p.mem_iff.1 hx) y (p.mem_iff.1 hy) z (p.mem_iff.1 hz),fun x hx y hy=>h.Mg x (p.mem_iff.1 hx) y (p.mem_iff.1 hy)⟩
def Sg (c:Int→Int→Int)(l:List Int)(a b:Nat):Prop:=∀i j,a≤i→i<j→j<b→0≤c (gt l j) (gt l i)
theorem GG {m:Nat}{a i:Nat}{cmp:Int→Int→Option Int}{c:Int→Int→Int}:∀(f j:Nat) (d:List Int),j - a<f→a≤j→j≤i→i<d.length→d.length<2 ^ 40→Cm cmp c d→
  ∃d' x,aZ.l1 m (a:Int) cmp f d (j:Int)=some (d',x)∧Mv a (i+1) d d'∧
   (Ord c d→(∀x y,a≤x→x<y→y≤i→x≠j→y≠j→0≤c (gt d y) (gt d x))→(∀y,j<y→y≤i→0≤c (gt d y) (gt d j))→Sg c d' a (i+1))
 | 0,j,d,hf,_,_,_,_,_=>absurd hf (by omega)
 | f+1,j,d,hf,h1,h2,h3,hs,C=>by
  have ux:(2:Nat) ^ 40=1099511627776:=by decide
  unfold aZ.l1
  by_cases h:a<j
  ·have e1:i64.wrap ((j:Int) - 1)=((j - 1:Nat):Int):=by rw [bM (by omega) (by omega)]; omega
   rw [if_pos (by simp; omega),e1,gd (by omega),gd (by omega),XJ,XJ,C.at (by omega) (by omega),XJ]
   by_cases hc:c (gt d j) (gt d (j - 1))<0
   ·rw [if_pos (by simpa using hc),XJ,XJ,XJ,XY,XY,gd (by simp; omega),XJ]
    obtain⟨d',x,k1,k2,k3⟩:=GG (m:=m) (a:=a) (i:=i) (cmp:=cmp) (c:=c) f (j - 1) (swp d j (j - 1)) (by omega) (by omega) (by omega) (by rw [tY]; omega) (by rw [tY]; omega) (C.perm (pW (by omega) (by omega)))
    refine⟨d',x,k1,(AX (by omega) (by omega) (by omega) (by omega) (by omega)).trans k2,fun O g1 g2=>k3 (O.perm (pW (by omega) (by omega))) (fun x y x1 x2 x3 x4 x5=>?_) (fun y y1 y2=>?_)⟩
    ·rw [mq (by omega) (by omega),mq (by omega) (by omega),if_neg x5,if_neg x4]
     by_cases hy:y=j
     ·subst hy
      rw [if_pos rfl,if_neg (by omega)]
      exact g1 _ _ (by omega) (by omega) (by omega) (by omega) (by omega)
     ·rw [if_neg hy]
      by_cases hx:x=j
      ·subst hx
       rw [if_pos rfl]
       exact g1 _ _ (by omega) (by omega) (by omega) (by omega) (by omega)
      ·rw [if_neg hx]
       exact g1 _ _ (by omega) (by omega) (by omega) (by omega) (by omega)
    ·rw [mq (by omega) (by omega),mq (by omega) (by omega),if_neg (by omega),if_pos rfl]
     by_cases hy:y=j
     ·subst hy
      rw [if_pos rfl]
      exact O.Mg _ (bX (by omega)) _ (bX (by omega)) hc
     ·rw [if_neg hy]
      exact g2 _ (by omega) (by omega)
   ·rw [if_neg (by simpa using hc)]
    refine⟨d,j,rfl,Mv.refl,fun O g1 g2 x y x1 x2 x3=>?_⟩
    have hc:0≤c (gt d j) (gt d (j - 1)):=by omega
    by_cases hx:x=j
    ·subst hx; exact g2 _ x2 (by omega)
    ·by_cases hy:y=j
     ·subst hy
      by_cases hx1:x=y - 1
      ·subst hx1; exact hc
      ·exact O.tr _ (bX (by omega)) (gt d (y - 1)) (bX (by omega)) _ (bX (by omega)) (g1 _ _ x1 (by omega) (by omega) hx (by omega)) hc
     ·exact g1 _ _ x1 x2 (by omega) hx hy
  ·have:j=a:=by omega
   subst this
   rw [if_neg (by simp)]
   refine⟨d,j,rfl,Mv.refl,fun O g1 g2 x y x1 x2 x3=>?_⟩
   by_cases hx:x=j
   ·subst hx; exact g2 _ x2 (by omega)
   ·exact g1 _ _ x1 x2 (by omega) hx (by omega)
theorem GH {m:Nat}{a b:Nat}{cmp:Int→Int→Option Int}{c:Int→Int→Int}(hm:2 ^ 41≤m):∀(f i:Nat) (d:List Int),b - i<f→a<i→b≤d.length→d.length<2 ^ 40→Cm cmp c d→
  ∃d' x,aZ.l0 m (a:Int) (b:Int) cmp f d (i:Int)=some (d',x)∧Mv a b d d'∧(Ord c d→Sg c d a i→Sg c d' a b)
 | 0,i,d,hf,_,_,_,_=>absurd hf (by omega)
 | f+1,i,d,hf,h1,h2,hs,C=>by
  have ux:(2:Nat) ^ 40=1099511627776:=by decide
  have xo:(2:Nat) ^ 41=2199023255552:=by decide
  unfold aZ.l0
  by_cases h:i<b
  ·obtain⟨d1,x1,k1,k2,k3⟩:=GG (m:=m) (a:=a) (i:=i) (cmp:=cmp) (c:=c) m i d (by omega) (by omega) (by omega) (by omega) hs C
   have e3:i64.wrap ((i:Int)+1)=((i+1:Nat):Int):=by rw [bM (by omega) (by omega)]; omega
   rw [if_pos (by simp; omega),k1,XJ]
   dsimp only
   rw [e3]
   have hl:=k2.length
   obtain⟨d',x,g1,g2,g3⟩:=GH (a:=a) (b:=b) (cmp:=cmp) (c:=c) hm f (i+1) d1 (by omega) (by omega) (by omega) (by omega) (C.perm k2.perm)
   exact⟨d',x,g1,(k2.wide (XP _) (by omega)).trans g2,fun O S=>g3 (O.perm k2.perm) (k3 O (fun x y q1 q2 q3 q4 q5=>S x y q1 q2 (by omega)) (fun y q1 q2=>absurd q1 (by omega)))⟩
  ·exact⟨d,i,by rw [if_neg (by simp; omega)],Mv.refl,fun O S x y q1 q2 q3=>S x y q1 q2 (by omega)⟩
theorem zk {m:Nat}{a b:Nat}{cmp:Int→Int→Option Int}{c:Int→Int→Int}(hm:2 ^ 41≤m){l:List Int}(ha:a≤l.length)(hb:b≤l.length)(hs:l.length<2 ^ 40)(C:Cm cmp c l) :
  ∃d,aZ.f m l (a:Int) (b:Int) cmp=some d∧Mv a b l d∧(Ord c l→Sg c d a b):=by
 have ux:(2:Nat) ^ 40=1099511627776:=by decide
 have xo:(2:Nat) ^ 41=2199023255552:=by decide
 have e3:i64.wrap ((a:Int)+1)=((a+1:Nat):Int):=by rw [bM (by omega) (by omega)]; omega
 obtain⟨d',x,g1,g2,g3⟩:=GH (a:=a) (b:=b) (cmp:=cmp) (c:=c) hm m (a+1) l (by omega) (by omega) hb hs C
 exact⟨d',by unfold aZ.f; rw [e3,g1]; rfl,g2,fun O=>g3 O fun x y q1 q2 q3=>absurd q3 (by omega)⟩
end Go.Proofs.Ytifafejidnjckaa
namespace Go.Proofs.Ytifafejidnjckaa
open Go Go.R
open Go.IntKind (i64 u64 u8 u32)
theorem GI {α β:Type}{B:α→Option β}{c1 c2:Bool}{X:Option α}{d0:α}{G:β→Prop}(D:α→Prop)(h1:c1=true→c2=true→∃x,X=some x∧D x)(h0:¬(c1=true∧c2=true)→D d0)
  (h:∀x,D x→∃d,B x=some d∧G d):∃d,jn B (fun j=>if c1=true then (if c2=true then (X.bind fun x0=>j x0) else j d0) else j d0)=some d∧G d:=by
 unfold jn
 dsimp only
 by_cases a1:c1=true
 ·by_cases a2:c2=true
  ·obtain⟨x,e,hx⟩:=h1 a1 a2
   rw [if_pos a1,if_pos a2,e]; exact h x hx
  ·rw [if_pos a1,if_neg a2]; exact h _ (h0 fun z=>a2 z.2)
 ·rw [if_neg a1]; exact h _ (h0 fun z=>a1 z.1)
theorem RN {α:Type}{c1 c2:Bool}{X:Option α}{d0:α}{G:α→Prop}(h1:c1=true→c2=true→∃x,X=some x∧G x)(h0:¬(c1=true∧c2=true)→G d0) :
  ∃d,(if c1=true then (if c2=true then (X.bind fun x0=>some x0) else some d0) else some d0)=some d∧G d:=by
 by_cases a1:c1=true
 ·by_cases a2:c2=true
  ·obtain⟨x,e,hx⟩:=h1 a1 a2
   rw [if_pos a1,if_pos a2,e]; exact⟨x,rfl,hx⟩
  ·rw [if_pos a1,if_neg a2]; exact⟨_,rfl,h0 fun z=>a2 z.2⟩
 ·rw [if_neg a1]; exact⟨_,rfl,h0 fun z=>a1 z.1⟩
theorem Lw {α β:Type}{B:α→Option β}{c:Bool}{x y:α}{G:β→Prop}(h:∀z,(c=true∧z=x)∨(c=false∧z=y)→∃d,B z=some d∧G d):∃d,jn B (fun j=>if c=true then j x else j y)=some d∧G d:=by
 unfold jn
 dsimp only
 cases c with
 | true=>exact h _ (.inl ⟨rfl,rfl⟩)
 | false=>exact h _ (.inr ⟨rfl,rfl⟩)
theorem Ord.refl {c:Int→Int→Int}{l:List Int}(O:Ord c l){x:Int}(hx:x∈l):0≤c x x:=by
 by_cases h:c x x<0
 ·exact O.Mg x hx x hx h
 ·omega
theorem Sg.le {c:Int→Int→Int}{l:List Int}{a b:Nat}(S:Sg c l a b)(O:Ord c l){i j:Nat}(h1:a≤i)(h2:i≤j)(h3:j<b)(h4:b≤l.length):0≤c (gt l j) (gt l i):=by
 by_cases h:i=j
 ·subst h; exact O.refl (bX (by omega))
 ·exact S i j h1 (by omega) h3
section
variable {m:Nat}{cmp:Int→Int→Option Int}{c:Int→Int→Int}
theorem AY {l:List Int}{a:Nat}(ha:a<l.length)(hs:l.length<2 ^ 40)(C:Cm cmp c l):∀(f i j:Nat),j - i<f→i≤j→j≤l.length→
  ∃x:Nat,aL.l0 m l (a:Int) cmp f (i:Int) (j:Int)=some ((x:Int),(x:Int))∧i≤x∧x≤j∧(i<x→c (gt l (x - 1)) (gt l a)<0)∧(x<j→0≤c (gt l x) (gt l a))
 | 0,i,j,hf,_,_=>absurd hf (by omega)
 | f+1,i,j,hf,h1,h2=>by
  have ux:(2:Nat) ^ 40=1099511627776:=by decide
  unfold aL.l0
  by_cases h:i<j
  ·have hh:=zh (a:=i) (b:=j) (by omega)
   rw [if_pos (by simp; omega),hh,gd (by omega),gd ha,XJ,XJ,C.at (by omega) ha,XJ]
   by_cases g:c (gt l ((i+j) / 2)) (gt l a)<0
   ·obtain⟨x,e,x1,x2,x3,x4⟩:=AY ha hs C f ((i+j) / 2+1) j (by omega) (by omega) h2
    rw [if_pos (by simpa using g),bM (by omega) (by omega),show (((i+j) / 2:Nat):Int)+1=(((i+j) / 2+1:Nat):Int) by omega,e]
    refine⟨x,rfl,by omega,x2,fun _=>?_,x4⟩
    by_cases hx:x=(i+j) / 2+1
    ·rw [hx]; simpa using g
    ·exact x3 (by omega)
   ·obtain⟨x,e,x1,x2,x3,x4⟩:=AY ha hs C f i ((i+j) / 2) (by omega) (by omega) (by omega)
    rw [if_neg (by simpa using g),e]
    refine⟨x,rfl,x1,by omega,x3,fun _=>?_⟩
    by_cases hx:x=(i+j) / 2
    ·rw [hx]; omega
    ·exact x4 (by omega)
  ·have:i=j:=by omega
   subst this
   exact⟨i,by rw [if_neg (by simp)],XP _,XP _,fun h=>absurd h (by omega),fun h=>absurd h (by omega)⟩
theorem AZ {l:List Int}{q:Nat}(hq:q<l.length)(hs:l.length<2 ^ 40)(C:Cm cmp c l):∀(f i j:Nat),j - i<f→i≤j→j≤l.length→
  ∃x:Nat,aL.l2 m l (q:Int) cmp f (i:Int) (j:Int)=some ((x:Int),(x:Int))∧i≤x∧x≤j∧(i<x→0≤c (gt l q) (gt l (x - 1)))∧(x<j→c (gt l q) (gt l x)<0)
 | 0,i,j,hf,_,_=>absurd hf (by omega)
 | f+1,i,j,hf,h1,h2=>by
  have ux:(2:Nat) ^ 40=1099511627776:=by decide
  unfold aL.l2
  by_cases h:i<j
  ·have hh:=zh (a:=i) (b:=j) (by omega)
   rw [if_pos (by simp; omega),hh,gd hq,gd (by omega),XJ,XJ,C.at hq (by omega),XJ]
   by_cases g:c (gt l q) (gt l ((i+j) / 2))<0
   ·obtain⟨x,e,x1,x2,x3,x4⟩:=AZ hq hs C f i ((i+j) / 2) (by omega) (by omega) (by omega)
    rw [if_neg (by simpa using g),e]
    refine⟨x,rfl,x1,by omega,x3,fun _=>?_⟩
    by_cases hx:x=(i+j) / 2
    ·rw [hx]; omega
    ·exact x4 (by omega)
   ·obtain⟨x,e,x1,x2,x3,x4⟩:=AZ hq hs C f ((i+j) / 2+1) j (by omega) (by omega) h2
    rw [if_pos (by simpa using g),bM (by omega) (by omega),show (((i+j) / 2:Nat):Int)+1=(((i+j) / 2+1:Nat):Int) by omega,e]
    refine⟨x,rfl,by omega,x2,fun _=>?_,x4⟩
    by_cases hx:x=(i+j) / 2+1
    ·rw [hx]; simp; omega
    ·exact x3 (by omega)
  ·have:i=j:=by omega
   subst this
   exact⟨i,by rw [if_neg (by simp)],XP _,XP _,fun h=>absurd h (by omega),fun h=>absurd h (by omega)⟩
theorem GJ {l:List Int}{a x:Nat}(hx:x≤l.length)(RP:a<x)(hs:l.length<2 ^ 40):∀(f k:Nat) (d:List Int),x - k<f→a≤k→k<x→Mv a x l d→
  (∀t,gt d t=if a≤t∧t<k then gt l (t+1) else if t=k then gt l a else gt l t)→
  ∃d' y,aL.l1 m (x:Int) f d (k:Int)=some (d',y)∧Mv a x l d'∧∀t,gt d' t=if a≤t∧t+1<x then gt l (t+1) else if t+1=x then gt l a else gt l t
 | 0,k,d,hf,_,_,_,_=>absurd hf (by omega)
 | f+1,k,d,hf,h1,h2,M,hg=>by
  have ux:(2:Nat) ^ 40=1099511627776:=by decide
  have hl:=M.length
  unfold aL.l1
  have e0:i64.wrap ((x:Int) - 1)=((x - 1:Nat):Int):=by rw [bM (by omega) (by omega)]; omega
  rw [e0]
  by_cases h:k<x - 1
  ·have e1:i64.wrap ((k:Int)+1)=((k+1:Nat):Int):=by rw [bM (by omega) (by omega)]; omega
   rw [if_pos (by simp; omega),e1,gd (by omega),gd (by omega),XJ,XJ,XJ,XY,XY,gd (by simp; omega),XJ]
   refine GJ hx RP hs f (k+1) (swp d k (k+1)) (by omega) (by omega) (by omega) (M.trans (AX (by omega) (by omega) (by omega) (by omega) (by omega))) fun t=>?_
   rw [mq (by omega) (by omega),hg k,hg (k+1),hg t]
   by_cases t1:t=k+1
   ·subst t1; rw [if_pos rfl,if_neg (by omega),if_pos rfl,if_neg (by omega),if_pos rfl]
   ·rw [if_neg t1]
    by_cases t2:t=k
    ·subst t2; rw [if_pos rfl,if_neg (by omega),if_neg (by omega),if_pos (by omega)]
    ·rw [if_neg t2,if_neg t2,if_neg t1]
     by_cases t3:a≤t∧t<k
     ·rw [if_pos t3,if_pos (by omega)]
     ·rw [if_neg t3,if_neg (by omega)]
  ·refine⟨d,k,by rw [if_neg (by simp; omega)],M,fun t=>?_⟩
   rw [hg]
   by_cases t3:a≤t∧t<k
   ·rw [if_pos t3,if_pos (by omega)]
   ·rw [if_neg t3,if_neg (show ¬(a≤t∧t+1<x) by omega)]
    by_cases t4:t=k
    ·rw [if_pos t4,if_pos (by omega)]
    ·rw [if_neg t4,if_neg (by omega)]
theorem GK {l:List Int}{q x:Nat}(hx:q<l.length)(RP:x≤q)(hs:l.length<2 ^ 40):∀(f k:Nat) (d:List Int),k - x<f→x≤k→k≤q→Mv x (q+1) l d→
  (∀t,gt d t=if k<t∧t≤q then gt l (t - 1) else if t=k then gt l q else gt l t)→
  ∃d' y,aL.l3 m (x:Int) f d (k:Int)=some (d',y)∧Mv x (q+1) l d'∧∀t,gt d' t=if x<t∧t≤q then gt l (t - 1) else if t=x then gt l q else gt l t
 | 0,k,d,hf,_,_,_,_=>absurd hf (by omega)
 | f+1,k,d,hf,h1,h2,M,hg=>by
  have ux:(2:Nat) ^ 40=1099511627776:=by decide
  have hl:=M.length
  unfold aL.l3
  by_cases h:x<k
  ·have e1:i64.wrap ((k:Int) - 1)=((k - 1:Nat):Int):=by rw [bM (by omega) (by omega)]; omega
   rw [if_pos (by simp; omega),e1,gd (by omega),gd (by omega),XJ,XJ,XJ,XY,XY,gd (by simp; omega),XJ]
   refine GK hx RP hs f (k - 1) (swp d k (k - 1)) (by omega) (by omega) (by omega) (M.trans (AX (by omega) (by omega) (by omega) (by omega) (by omega))) fun t=>?_
   rw [mq (by omega) (by omega),hg k,hg (k - 1),hg t]
   by_cases t1:t=k - 1
   ·subst t1; rw [if_pos rfl,if_neg (by omega),if_pos rfl,if_neg (by omega),if_pos rfl]
   ·rw [if_neg t1]
    by_cases t2:t=k
    ·subst t2; rw [if_pos rfl,if_neg (by omega),if_neg (by omega),if_pos (by omega)]
    ·rw [if_neg t2,if_neg t2,if_neg t1]
     by_cases t3:k<t∧t≤q
     ·rw [if_pos t3,if_pos (by omega)]
     ·rw [if_neg t3,if_neg (by omega)]
  ·have:k=x:=by omega
   subst this
   exact⟨d,k,by rw [if_neg (by simp)],M,hg⟩
theorem A0 {l:List Int}{a b q:Nat}(MN:a+b<2 ^ 42)(hs:l.length<2 ^ 40)(C:Cm cmp c l):∀(f s r:Nat),r - s<f→s≤r→r≤l.length→r≤(a+b) / 2+q→(a+b) / 2+q≤l.length+s→
  ∃x:Nat,aL.l4 m l (a:Int) (q:Int) (b:Int) cmp f (s:Int) (r:Int)=some ((x:Int),(x:Int))∧s≤x∧x≤r∧(s<x→0≤c (gt l ((a+b) / 2+q - x)) (gt l (x - 1)))∧(x<r→c (gt l ((a+b) / 2+q - x - 1)) (gt l x)<0)
 | 0,i,j,hf,_,_,_,_=>absurd hf (by omega)
 | f+1,s,r,hf,h1,h2,h3,h4=>by
  have ux:(2:Nat) ^ 40=1099511627776:=by decide
  have RQ:(2:Nat) ^ 42=4398046511104:=by decide
  unfold aL.l4
  by_cases h:s<r
  ·have hh:=zh (a:=s) (b:=r) (by omega)
   have MN:=zh (a:=a) (b:=b) (by omega)
   have e1:i64.wrap (i64.wrap (i64.wrap ((((a+b) / 2:Nat):Int)+(q:Int)) - 1) - (((s+r) / 2:Nat):Int))=(((a+b) / 2+q - (s+r) / 2 - 1:Nat):Int):=by
    rw [bM (x:=(((a+b) / 2:Nat):Int)+(q:Int)) (by omega) (by omega),bM (x:=(((a+b) / 2:Nat):Int)+(q:Int) - 1) (by omega) (by omega),bM (by omega) (by omega)]
    omega
   rw [if_pos (by simp; omega),hh,MN,e1,gd (by omega),gd (by omega),XJ,XJ,C.at (by omega) (by omega),XJ]
   by_cases g:c (gt l ((a+b) / 2+q - (s+r) / 2 - 1)) (gt l ((s+r) / 2))<0
   ·obtain⟨x,e,x1,x2,x3,x4⟩:=A0 (a:=a) (b:=b) (q:=q) (by omega) hs C f s ((s+r) / 2) (by omega) (by omega) (by omega) (by omega) (by omega)
    rw [if_neg (by simpa using g),e]
    refine⟨x,rfl,x1,by omega,x3,fun _=>?_⟩
    by_cases hx:x=(s+r) / 2
    ·rw [hx]; exact g
    ·exact x4 (by omega)
   ·obtain⟨x,e,x1,x2,x3,x4⟩:=A0 (a:=a) (b:=b) (q:=q) (by omega) hs C f ((s+r) / 2+1) r (by omega) (by omega) h2 h3 (by omega)
    rw [if_pos (by simpa using g),bM (by omega) (by omega),show (((s+r) / 2:Nat):Int)+1=(((s+r) / 2+1:Nat):Int) by omega,e]
    refine⟨x,rfl,by omega,x2,fun _=>?_,x4⟩
    by_cases hx:x=(s+r) / 2+1
    ·rw [hx,show (a+b) / 2+q - ((s+r) / 2+1)=(a+b) / 2+q - (s+r) / 2 - 1 by omega,Nat.add_sub_cancel]; omega
    ·exact x3 (by omega)
  ·have:s=r:=by omega
   subst this
   exact⟨s,by rw [if_neg (by simp)],XP _,XP _,fun h=>absurd h (by omega),fun h=>absurd h (by omega)⟩
end
end Go.Proofs.Ytifafejidnjckaa
