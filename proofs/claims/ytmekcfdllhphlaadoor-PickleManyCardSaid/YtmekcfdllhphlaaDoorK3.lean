/- Part of the proof: RSteady, RDraw, RPure, RRow, RStep, RWalk. -/
import Derived.Test.YtmekcfdllhphlaaDoorK2
import Derived.StillTail
import Derived.ProofKit
set_option linter.unusedVariables false
set_option linter.unusedSimpArgs false
set_option maxRecDepth 100000
open Array renaming getElem?_eq_some_iff → WA, mem_toList_iff → W3
open Bool renaming and_eq_true → V8, false_eq_true → Wj, or_eq_true → WT, not_eq_true' → Xq
open List renaming getElem?_eq_some_iff → Wb, mem_append → Wk, getElem?_eq_none → Wl, map_cons → Wo, getElem?_append_right → Wq, all_eq_true → Ws, mem_map → Wv, getElem?_append_left → WC, getElem?_cons_zero → WJ, drop_zero → WK, eq_nil_of_length_eq_zero → WS, take_length → W9, map_congr_left → Xc, append_nil → Xd, mem_filter → Xy
open Nat renaming le_refl → V7, zero_add → Wr, lt_of_lt_of_le → Ww, beq → WM, le_trans → WQ, add_assoc → WR, add_mul → Xf, eq_of_beq_eq_true → Xm, min_eq_left → XF
open Ne renaming symm → Xn
open Option renaming bind_some → V3, bind_eq_some_iff → V4, map_eq_some_iff → V5, map_some → Wa, getD_some → W4
open Option.some renaming injEq → V6, inj → Wy
open Prod.mk renaming injEq → Wc
namespace Go.R
open Go
def SteadyF (cf:CallF):Prop:=∀f args h r h',cf f args h=some (r,h')→Steady h h'
section
variable {P:Program}{cf:CallF}{aD ds:List Nat}{o:Oper}{s s':RS}
theorem sD {h h':AHeap}{t t2:TypeId}{x y z:AV}(hh:gz P h t t2 x y=some (z,h')):Steady h h':=by
 unfold gz at hh
 rw [V4] at hh
 obtain⟨d,_,hh⟩:=hh
 cases d<;>simp only at hh<;>try (cases hh; done)
 rw [V4] at hh
 obtain⟨i,_,hh⟩:=hh
 rw [V4] at hh
 obtain⟨⟨new,m⟩,_,hh⟩:=hh
 simp only at hh
 split at hh
 ·cases hh
 split at hh
 ·split at hh
  ·cases hh
  ·split at hh<;>cases hh
   ·exact Steady.refl _
   ·exact Steady.put _ _ _
 ·split at hh
  ·cases hh
  ·split at hh
   ·split at hh<;>cases hh<;>exact Steady.refl _
   ·cases hh; exact Steady.put _ _ _
 ·split at hh
  ·split at hh
   ·cases hh
   ·split at hh<;>cases hh
    ·exact Steady.refl _
    ·exact Steady.put _ _ _
  rw [V4] at hh
  obtain⟨ob,_,hh⟩:=hh
  cases ob with
  | map es=>cases hh
  | row t cs=>cases hh
  | cells cs=>
   simp only at hh
   split at hh
   ·cases hh
   ·split at hh<;>cases hh
    ·exact Steady.refl _
    ·exact (Steady.kill _ _).trans (Steady.put _ _ _)
 ·cases hh
theorem wa {h h':AHeap}{t t2:TypeId}{x y z:AV}(hh:uN P h t t2 x y=some (z,h')):Steady h h':=by
 unfold uN at hh
 rw [V4] at hh
 obtain⟨d,_,hh⟩:=hh
 cases d<;>simp only at hh<;>try (cases hh; done)
 rw [V4] at hh
 obtain⟨i,_,hh⟩:=hh
 rw [V4] at hh
 obtain⟨⟨new,m⟩,_,hh⟩:=hh
 simp only at hh
 split at hh
 ·cases hh
 split at hh
 ·split at hh
  ·split at hh<;>cases hh
   exact Steady.refl _
  rw [V4] at hh
  obtain⟨ob,_,hh⟩:=hh
  cases ob with
  | map es=>cases hh
  | row t cs=>cases hh
  | cells cs=>
   simp only at hh
   split at hh<;>cases hh
   exact Steady.put _ _ _
 ·split at hh<;>cases hh
  exact Steady.refl _
 ·cases hh
theorem uo {h h':AHeap}{t:TypeId}{x:AV}(hh:sa P h t x=some h'):Steady h h':=by
 unfold sa at hh
 rw [V4] at hh
 obtain⟨d,_,hh⟩:=hh
 cases x<;>simp only at hh<;>try (cases hh; done)
 ·cases hh; exact Steady.refl _
 ·rw [V4] at hh
  obtain⟨ob,_,hh⟩:=hh
  cases ob with
  | cells cs=>cases hh
  | row t cs=>cases hh
  | map es=>cases hh; exact Steady.put _ _ _
theorem lP {h h':AHeap}{t:TypeId}{x y z:AV}(hh:iu P h t x y z=some h'):Steady h h':=by
 unfold iu at hh
 rw [V4] at hh
 obtain⟨d,_,hh⟩:=hh
 cases d<;>simp only at hh<;>try (cases hh; done)
 split at hh
 ·cases hh
 cases x<;>simp only at hh<;>try (cases hh; done)
 rw [V4] at hh
 obtain⟨ob,_,hh⟩:=hh
 cases ob with
 | cells cs=>cases hh
 | row t cs=>cases hh
 | map es=>
  obtain⟨qB,_,rfl⟩:=Option.map_some' hh
  exact Steady.put _ _ _
theorem og {h h':AHeap}{t:TypeId}{x y z:AV}(hh:ga P h t x y=some (z,h')):Steady h h':=by
 unfold ga at hh
 split at hh
 ·rw [V4] at hh
  obtain⟨d,_,hh⟩:=hh
  cases d<;>simp only at hh<;>try (cases hh; done)
  rw [V4] at hh
  obtain⟨i,_,hh⟩:=hh
  rw [V4] at hh
  obtain⟨z,_,hh⟩:=hh
  split at hh<;>cases hh
  exact Steady.put _ _ _
 ·cases hh
theorem mT {cs:List AV}(h:gZ s aD ds o cs=some s'):Steady s.h s'.h:=by
 unfold gZ at h
 split at h
 rotate_left
 ·cases h
 split at h
 ·split at h
  ·split at h<;>cases h
   rw [jb]; exact Steady.refl _
  ·cases h
   rw [jb]; exact Steady.put _ _ _
 ·cases h
theorem sE (hcf:SteadyF cf){e:Operand→AV}(h:zD P cf aD ds e s o=some s'):Steady s.h s'.h:=by
 have dy:∀{x:Option AV},(x.map fun x=>s.set o.dst x)=some s'→Steady s.h s'.h:=by
  intro x hx
  obtain⟨z,rfl,rfl⟩:=Option.map_some' hx
  rw [jb]; exact Steady.refl _
 unfold zD at h
 dsimp only at h
 split at h
 ·cases h; rw [jb]; exact Steady.refl _
 ·cases h; rw [jb]; exact Steady.refl _
 ·obtain⟨z,_,rfl⟩:=Option.map_some' h; rw [jb]; exact Steady.refl _
 ·rw [V4] at h
  obtain⟨z,_,h⟩:=h
  exact mT h
 ·exact mT h
 ·exact dy h
 ·obtain⟨z,hz,rfl⟩:=Option.map_some' h
  unfold pB
  split
  ·rw [jb]; exact Steady.refl _
  ·rw [jb]; exact Steady.put _ _ _
 ·exact dy h
 ·split at h
  ·cases h
  split at h
  ·rw [V4] at h
   obtain⟨cs,_,h⟩:=h
   obtain⟨z,_,rfl⟩:=Option.map_some' h
   exact Steady.refl _
  ·rw [V4] at h
   obtain⟨ob,_,h⟩:=h
   cases ob with
   | map es=>cases h
   | row t cs=>cases h
   | cells cs=>
    obtain⟨z,_,rfl⟩:=Option.map_some' h
    exact Steady.put _ _ _
  ·cases h
 ·exact dy h
 ·exact dy h
 ·exact dy h
 ·exact dy h
 ·split at h
  ·exact dy h
  ·cases h
 ·cases h; rw [jb]; exact Steady.put _ _ _
 ·obtain⟨⟨z,h'⟩,hz,rfl⟩:=Option.map_some' h
  rw [jb]; exact og hz
 ·exact dy h
 ·exact dy h
 ·exact dy h
 ·exact dy h
 ·exact dy h
 ·exact dy h
 ·split at h
  ·cases h
  obtain⟨h',hz,rfl⟩:=Option.map_some' h
  exact lP hz
 ·split at h
  ·cases h
  obtain⟨h',hz,rfl⟩:=Option.map_some' h
  exact lP hz
 ·exact dy h
 ·unfold gd at h
  split at h
  ·exact dy h
  ·obtain⟨⟨z,h'⟩,hz,rfl⟩:=Option.map_some' h
   rw [jb]; exact sD hz
  ·obtain⟨⟨z,h'⟩,hz,rfl⟩:=Option.map_some' h
   rw [jb]; exact wa hz
  ·obtain⟨h',hz,rfl⟩:=Option.map_some' h
   rw [jb]; exact uo hz
  ·rw [V4] at h
   obtain⟨v,_,h⟩:=h
   rw [V4] at h
   obtain⟨vs,_,h⟩:=h
   rw [V4] at h
   obtain⟨u,_,h⟩:=h
   exact dy h
  ·rw [V4] at h
   obtain⟨v,_,h⟩:=h
   rw [V4] at h
   obtain⟨vs,_,h⟩:=h
   rw [V4] at h
   obtain⟨u,_,h⟩:=h
   exact dy h
  ·cases h
 ·split at h
  ·split at h
   ·obtain⟨⟨z,h'⟩,hz,rfl⟩:=Option.map_some' h
    rw [jb]; exact hcf _ _ _ _ _ hz
   ·cases h
  ·cases h
 ·cases h
theorem om (hcf:SteadyF cf){ops:List Oper}(h:lG P cf aD ops s o=some s'):Steady s.h s'.h:=by
 unfold lG at h
 rw [V4] at h
 obtain⟨w,_,h⟩:=h
 cases w with
 | true=>exact sE hcf (by simpa [vM] using h)
 | false=>
  simp only [Wj,if_false,V6] at h
  subst h
  rw [jb]; exact Steady.refl _
theorem qK (hcf:SteadyF cf){ops:List Oper}:∀{l:List Oper} {s s':RS},q7 P cf aD ops s l=some s'→Steady s.h s'.h
 | [],s,s',h=>by simp only [q7,V6] at h; subst h; exact Steady.refl _
 | o::l,s,s',h=>by
  simp only [q7,V4] at h
  obtain⟨s1,h1,h2⟩:=h
  exact (om hcf h1).trans (qK hcf h2)
theorem qL (hcf:SteadyF cf){ops:List Oper}:∀{l:List Oper} {s r:RS} {es:List rK},pE P cf aD ops s l=some (es,r)→Steady s.h r.h
 | [],s,r,es,h=>by simp only [pE,V6,Wc] at h; rw [h.2]; exact Steady.refl _
 | o::l,s,r,es,h=>by
  simp only [pE,V4,V5] at h
  obtain⟨w,hw,s1,h1,⟨qB,r'⟩,h2,h3⟩:=h
  simp only [Wc] at h3
  obtain⟨_,rfl⟩:=h3
  have h4:lG P cf aD ops s o=some s1:=by unfold lG; rw [hw]; exact h1
  exact (om hcf h4).trans (qL hcf h2)
theorem uq (hcf:SteadyF cf){ops:Array Oper}(h:kL P cf aD ops s=some s'):Steady s.h s'.h:=by
 unfold kL at h
 dsimp only at h
 split at h
 rotate_left
 ·cases h
 rw [V4] at h
 obtain⟨⟨es,r⟩,zM,h⟩:=h
 simp only at h
 split at h
 ·cases h; exact qL hcf zM
 ·cases h
theorem fC (hcf:SteadyF cf){A:cb}{m:Nat}:∀(c:Code) (st jr:St) (e:Ex),bG P cf A m c st=some (e,jr)→Steady st.h jr.h
 | .skip,st,jr,e,h=>by simp only [bG,V6,Wc] at h; rw [h.2]; exact Steady.refl _
 | .label _,st,jr,e,h=>by simp only [bG,V6,Wc] at h; rw [h.2]; exact Steady.refl _
 | .ret,st,jr,e,h=>by simp only [bG,V6,Wc] at h; rw [h.2]; exact Steady.refl _
 | .exit _,st,jr,e,h=>by simp only [bG,V6,Wc] at h; rw [h.2]; exact Steady.refl _
 | .seq x y,st,jr,e,h=>by
  simp only [bG,V4] at h
  obtain⟨⟨e1,s1⟩,h1,h2⟩:=h
  have:=fC hcf x st s1 e1 h1
  cases e1 with
  | norm=>exact this.trans (fC hcf y s1 jr e h2)
  | exit id=>simp only [V6,Wc] at h2; rw [←h2.2]; exact this
  | ret=>simp only [V6,Wc] at h2; rw [←h2.2]; exact this
 | .cond k x y,st,jr,e,h=>by
  simp only [bG,V4] at h
  obtain⟨t,_,h⟩:=h
  cases t with
  | true=>exact fC hcf x st jr e (by simpa using h)
  | false=>exact fC hcf y st jr e (by simpa using h)
 | .block id x,st,jr,e,h=>by
  simp only [bG,V5] at h
  obtain⟨⟨e1,s1⟩,h1,h2⟩:=h
  have:=fC hcf x st s1 e1 h1
  cases e1<;>(simp only [Wc] at h2; rw [←h2.2]; exact this)
 | .loop x,st,jr,e,h=>by
  simp only [bG] at h
  have key:∀(j:Nat) (st:St),kj (bG P cf A m x) j st=some (e,jr)→Steady st.h jr.h:=by
   intro j
   induction j with
   | zero=>intro st h; simp [kj] at h
   | succ j ih=>
    intro st h
    simp only [kj,V4] at h
    obtain⟨⟨e1,s1⟩,h1,h2⟩:=h
    have:=fC hcf x st s1 e1 h1
    cases e1 with
    | norm=>exact this.trans (ih s1 h2)
    | exit id=>simp only [V6,Wc] at h2; rw [←h2.2]; exact this
    | ret=>simp only [V6,Wc] at h2; rw [←h2.2]; exact this
  exact key m st h
 | .region id ops draw,st,jr,e,h=>by
  simp only [bG,V4,V5,Wc] at h
  obtain⟨s0,h0,s',h1,s2,h2,_,rfl⟩:=h
  rw [Hm]
  refine ((lN h0).trans ?_).trans (lN h2)
  cases draw with
  | true=>exact uq (s:=s0) hcf (by simpa using h1)
  | false=>exact qK (s:=s0) hcf (by simpa using h1)
 | .rangeFunc ..,st,jr,e,h=>by simp [bG] at h
 | .scope ..,st,jr,e,h=>by simp [bG] at h
 | .goto ..,st,jr,e,h=>by simp [bG] at h
 | .refuse ..,st,jr,e,h=>by simp [bG] at h
theorem wc (hcf:SteadyF cf){aV:FuncId→cb}{m:Nat}:SteadyF (be P aV cf m):=by
 intro f args h r h' hc
 unfold be at hc
 rw [V4] at hc
 obtain⟨fn,hf,hc⟩:=hc
 rw [V4] at hc
 obtain⟨c,hb,hc⟩:=hc
 split at hc
 rotate_left
 ·cases hc
 rw [V4] at hc
 obtain⟨⟨e,st⟩,hex,hc⟩:=hc
 have:=fC hcf c _ _ _ hex
 cases e with
 | norm=>obtain⟨r',_,h2⟩:=Option.map_some' hc; cases h2; exact this
 | ret=>obtain⟨r',_,h2⟩:=Option.map_some' hc; cases h2; exact this
 | exit id=>cases hc
end
end Go.R
namespace Go.R
open Go
section
variable {P:Program}{cf:CallF}{aD ds:List Nat}{o:Oper}{s s':RS}
theorem CH {e e':Operand→AV}(h:∀x∈o.op.operands,e x=e' x):zD P cf aD ds e s o=zD P cf aD ds e' s o:=by
 have LW:∀(l:List Operand),(∀x∈l,e x=e' x)→l.map e=l.map e':=fun l hl=>Xc hl
 have Jl:∀(q:Option Operand),(∀x,q=some x→e x=e' x)→q.map e=q.map e':=by
  intro q hq; cases q with
  | none=>rfl
  | some x=>simp [hq x rfl]
 unfold zD
 cases Bg:o.op<;>rw [Bg] at h
 case build t ps=>
  have:(ps.toList.map fun (i,x)=>(i,e x))=(ps.toList.map fun (i,x)=>(i,e' x)):=
   Xc fun p hp=>by
    have:=h p.2 (by simp only [Op.operands,List.mem_toArray,Wv]; exact⟨p,hp,rfl⟩)
    simp [this]
  simp only [this]
 case buildSlice t n ps=>
  have:(ps.toList.map fun (i,x)=>(i,e x))=(ps.toList.map fun (i,x)=>(i,e' x)):=
   Xc fun p hp=>by
    have:=h p.2 (by simp only [Op.operands,List.mem_toArray,Wv]; exact⟨p,hp,rfl⟩)
    simp [this]
  simp only [this]
 case makeFunc f first cap=>
  have:cap.toList.map e=cap.toList.map e':=LW _ fun x hx=>h x (by simp only [Op.operands,Array.mem_append]; right; exact W3.1 hx)
  cases f<;>first | rfl | simp only [this]
 case makeMap t r=>cases r<;>rfl
 case slice t x lo hi mx=>
  have h1:e x=e' x:=h x (by simp [Op.operands])
  have h2:=Jl lo fun y hy=>h y (by simp [Op.operands,hy])
  have h3:=Jl hi fun y hy=>h y (by simp [Op.operands,hy])
  have h4:=Jl mx fun y hy=>h y (by simp [Op.operands,hy])
  simp only [h1,h2,h3,h4]
 case call c=>
  obtain⟨callee,args,Bd⟩:=c
  have h1:args.toList.map e=args.toList.map e':=LW _ fun x hx=>h x (by
   simp only [Op.operands,Call.operands]
   cases callee<;>simp<;>first | exact W3.1 hx | (right; exact W3.1 hx) | (left; exact W3.1 hx))
  cases callee with
  | builtin b=>simp only [h1]
  | value f=>
   have h2:e f=e' f:=h f (by simp [Op.operands,Call.operands])
   simp only [h1,h2]
  | invoke r nm=>rfl
 all_goals first
  | rfl
  | (simp [Op.operands] at h; simp [h])
end
theorem oo (acc:List Nat)(i:Nat):∀(l:List Edge) (m:Nat),(l.foldl (fun m e=>bif Region.binds .any e then m ||| (2 ^ e.on ||| acc.getD e.on 0) else m) m).testBit i=true→
  m.testBit i=true∨∃e∈l,Region.binds .any e=true∧(e.on=i∨(acc.getD e.on 0).testBit i=true)
 | [],m,h=>.inl h
 | e::l,m,h=>by
  rcases oo acc i l _ h with h1 | ⟨e',he,h1⟩
  ·dsimp only at h1
   cases hb:Region.binds .any e with
   | false=>rw [hb] at h1; exact .inl h1
   | true=>
    rw [hb] at h1
    simp only [cond_true,Nat.testBit_or,WT,Nat.testBit_two_pow,decide_eq_true_eq] at h1
    rcases h1 with h1 | h1 | h1
    ·exact .inl h1
    ·exact .inr ⟨e,by simp,hb,.inl h1⟩
    ·exact .inr ⟨e,by simp,hb,.inr h1⟩
  ·exact .inr ⟨e',by simp [he],h1⟩
theorem qM:∀(l:List Oper) (acc:List Nat),(∀j,j<acc.length→(jA acc l).getD j 0=acc.getD j 0)∧
  ∀j i,((jA acc l).getD j 0).testBit i=true→acc.length≤j→∃o,l[j - acc.length]? = some o∧∃e∈o.after.toList,Region.binds .any e=true∧(e.on=i∨((jA acc l).getD e.on 0).testBit i=true)
 | [],acc=>⟨fun j hj=>rfl,fun j i h hj=>by simp [jA,List.getD,Wl hj] at h⟩
 | o::l,acc=>by
  simp only [jA]
  generalize hm:(o.after.toList.foldl (fun m e=>bif Region.binds .any e then m ||| (2 ^ e.on ||| acc.getD e.on 0) else m) 0)=m
  obtain⟨h1,h2⟩:=qM l (acc++[m])
  have hold:∀j,j<acc.length→(jA (acc++[m]) l).getD j 0=acc.getD j 0:=fun j hj=>by
   rw [h1 j (by simp; omega)]
   simp [List.getD,WC hj]
  refine⟨hold,fun j i h hj=>?_⟩
  by_cases T2:j=acc.length
  ·subst T2
   have:(jA (acc++[m]) l).getD acc.length 0=m:=by
    rw [h1 _ (by simp)]; simp [List.getD]
   rw [this,←hm] at h
   rcases oo acc i _ _ h with h3 | ⟨e,he,hb,h3⟩
   ·simp at h3
   ·refine⟨o,by simp,e,he,hb,h3.imp id fun h4=>?_⟩
    by_cases hl:e.on<acc.length
    ·rw [hold _ hl]; exact h4
    ·simp [List.getD,Wl (Nat.not_lt.1 hl)] at h4
  ·obtain⟨o',NS,h3⟩:=h2 j i h (by simp; omega)
   refine⟨o',?_,h3⟩
   rw [show j - acc.length=(j - (acc++[m]).length)+1 by simp; omega]
   simpa using NS
theorem j9 {α:Type}(p:Nat→α→Nat→α→Bool):∀(l:List α) (k:Nat),nT p k l=true→∀i j x y,i<j→l[i]? = some x→l[j]? = some y→p (k+i) x (k+j) y=true
 | [],k,_,i,j,x,y,_,hx,_=>by simp at hx
 | a::l,k,h,i,j,x,y,xX,hx,hy=>by
  simp only [nT,V8,Ws] at h
  obtain⟨h1,h2⟩:=h
  cases j with
  | zero=>omega
  | succ j=>
   cases i with
   | zero=>
    simp only [WJ,V6] at hx
    subst hx
    have:=h1 (y,k+1+j) (by rw [List.mk_add_mem_zipIdx_iff_getElem?]; simpa using hy)
    simpa [WR,Nat.add_comm 1 j] using this
   | succ i=>
    have:=j9 p l (k+1) h2 i j x y (by omega) (by simpa using hx) (by simpa using hy)
    rw [show k+(i+1)=k+1+i by omega,show k+(j+1)=k+1+j by omega]
    exact this
theorem oq:∀(l:List Oper) (k:Nat),rL k l=true→∀i o,l[i]? = some o→∀e∈o.after.toList,Region.binds .any e=true→e.on<k+i
 | [],k,_,i,o,h,_,_,_=>by simp at h
 | a::l,k,h,i,o,ho,e,he,hb=>by
  simp only [rL,V8,Ws] at h
  obtain⟨h1,h2⟩:=h
  cases i with
  | zero=>
   simp only [WJ,V6] at ho
   subst ho
   have:=h1 e he
   simp only [hb,Bool.not_true,Bool.false_or] at this
   exact Nat.blt_eq.mp this
  | succ i=>
   have:=oq l (k+1) h2 i o (by simpa using ho) e he hb
   omega
theorem ot {V:Type}{n i:Nat}(hi:i≤n){W:Nat→Prop}{S:Nat→Bool}{m x:Nat→V}(h0:m 0=x 0)(LX:∀k,k<n→W k→S k=true→m (k+1)=x (k+1))(zK:∀k,k<n→(¬W k∨S k=false)→m (k+1)=m k)
  (hx:∀k,k<n→¬W k→x (k+1)=x k) (hS:∀k,k<n→W k→(S k=true↔k<i)):m n=x i:=by
 have key:∀k,k≤n→m k=x (min k i):=by
  intro k
  induction k with
  | zero=>intro _; simpa using h0
  | succ k ih=>
   intro hk
   have ih:=ih (by omega)
   by_cases hw:W k
   ·have hs:=hS k (by omega) hw
    by_cases rO:k<i
    ·rw [LX k (by omega) hw (hs.2 rO),XF (by omega)]
    ·have:S k=false:=by
      cases h:S k with
      | false=>rfl
      | true=>exact absurd (hs.1 h) rO
     rw [zK k (by omega) (.inr this),ih,Nat.min_eq_right (by omega),Nat.min_eq_right (by omega)]
   ·rw [zK k (by omega) (.inl hw),ih]
    by_cases rO:k<i
    ·rw [XF (by omega),XF (by omega),hx k (by omega) hw]
    ·rw [Nat.min_eq_right (by omega),Nat.min_eq_right (by omega)]
 rw [key n (V7 n),Nat.min_eq_right hi]
open Classical in
theorem we {V:Type}{n i:Nat}(hi:i<n){W:Nat→Prop}{S S':Nat→Bool}{m m' x:Nat→V}(h0:m' 0=m 0)(LX:∀k,k<n→W k→S k=true→m (k+1)=x (k+1))(zK:∀k,k<n→(¬W k∨S k=false)→m (k+1)=m k)
  (Jm:∀k,k<n→W k→S' k=true→m' (k+1)=x (k+1)) (Jn:∀k,k<n→(¬W k∨S' k=false)→m' (k+1)=m' k)
  (CI:∀k,S' k=if k=i then true else S k) (LY:S i=false) (hl:W i→∀j,j<n→i<j→W j→S j=false):m' n=if W i then x (i+1) else m n:=by
 have key:∀k,k≤n→m' k=if i<k∧W i then x (i+1) else m k:=by
  intro k
  induction k with
  | zero=>intro _; simpa using h0
  | succ k ih=>
   intro hk
   have ih:=ih (by omega)
   by_cases rO:k=i
   ·subst rO
    by_cases hw:W k
    ·rw [Jm k (by omega) hw (by rw [CI]; simp),if_pos ⟨by omega,hw⟩]
    ·rw [Jn k (by omega) (.inl hw),ih,if_neg (fun h=>hw h.2),if_neg (fun h=>hw h.2),zK k (by omega) (.inl hw)]
   ·have hs:S' k=S k:=by rw [CI,if_neg rO]
    by_cases hw:W k
    ·cases pJ:S k with
     | true=>
      rw [Jm k (by omega) hw (hs.trans pJ)]
      by_cases DI:i<k+1∧W i
      ·have:=hl DI.2 k (by omega) (by omega) hw
       rw [pJ] at this; cases this
      ·rw [if_neg DI,LX k (by omega) hw pJ]
     | false=>
      rw [Jn k (by omega) (.inr (hs.trans pJ)),ih,zK k (by omega) (.inr pJ)]
      by_cases DI:i<k∧W i
      ·rw [if_pos DI,if_pos ⟨by omega,DI.2⟩]
      ·rw [if_neg DI,if_neg (fun h=>DI ⟨by omega,h.2⟩)]
    ·rw [Jn k (by omega) (.inl hw),ih,zK k (by omega) (.inl hw)]
     by_cases DI:i<k∧W i
     ·rw [if_pos DI,if_pos ⟨by omega,DI.2⟩]
     ·rw [if_neg DI,if_neg (fun h=>DI ⟨by omega,h.2⟩)]
 rw [key n (V7 n)]
 by_cases hw:W i
 ·rw [if_pos ⟨hi,hw⟩,if_pos hw]
 ·rw [if_neg (fun h=>hw h.2),if_neg hw]
structure sF (P:Program)(cf:CallF)(aD:List Nat)(ops:Array Oper)(tx:Nat→RS)(ft:Nat→kh)(ord:Nat→Nat→Prop):Prop where
 op:∀k o,ops[k]? = some o→∃w,gA ops.toList (tx k).ρ o=some w∧(if w then vM P cf aD (ops.toList.filterMap (·.dst)) (tx k) o=some (tx (k+1))∧ft k=a6 aD (bL (tx k).ρ) o else tx (k+1)=(tx k).set o.dst (.tup [])∧ft k={})
 Jo:∀k i,ord k i→∃o,ops[i]? = some o∧∃e∈o.after,Region.binds .any e=true∧(e.on=k∨ord k e.on)
 back:∀i o,ops[i]? = some o→∀e∈o.after,Region.binds .any e=true→e.on<i
 Iv:∀i j x y,i≠j→ops[i]? = some x→ops[j]? = some y→ord i j∨ord j i∨∀d,x.dst=some d→d∉y.looksAt ops∧y.dst≠some d
 boxes:∀i j,i<ops.size→j<ops.size→i≠j→ord i j∨ord j i∨(∀k,(ft i).wb=some k→k∉(ft j).rb∧(ft j).wb≠some k)∧((ft i).wh=true→(ft j).wh=false∧∀id∈(ft j).rh,(tx i).h.get id=(tx (i+1)).h.get id)
 OL:∀i o d,ops[i]? = some o→(ft i).al=true→o.dst=some d→(∀t∈ops.toList.filterMap (·.dst),t≠d→∀off,(tx 0).ρ t≠.lp d off)∧∀j y t,ops[j]? = some y→j≠i→ord i j∨(y.dst=some t→∀off,(tx (j+1)).ρ t≠.lp d off)
section
variable {P:Program}{cf:CallF}{aD:List Nat}{ops:Array Oper}{tx:Nat→RS}{ft:Nat→kh}{ord:Nat→Nat→Prop}
def jc (ops:Array Oper)(k:Nat):Option Nat:=(ops[k]?).bind (·.dst)
def jN (ops:Array Oper)(tx:Nat→RS)(ft:Nat→kh)(S:Nat→Bool):Nat→RS
 | 0=>tx 0
 | k+1=>if S k then (jN ops tx ft S k).shift (ft k) (jc ops k) (tx (k+1)) else jN ops tx ft S k
theorem sF.shift (T:sF P cf aD ops tx ft ord){k:Nat}(hk:k<ops.size):tx (k+1)=(tx k).shift (ft k) (jc ops k) (tx (k+1)):=by
 have ho:ops[k]? = some ops[k]:=by simp [hk]
 obtain⟨w,hw,h⟩:=T.op k _ ho
 have hd:jc ops k=ops[k].dst:=by simp [jc,hk]
 rw [hd]
 cases w with
 | true=>
  simp only [if_true] at h
  obtain⟨h1,h2⟩:=h
  have:=u5 (s2:=tx k) (e:=bL (tx k).ρ) h1 (fun _ _=>rfl) (fun _ _=>rfl) (fun _=>rfl) (fun nR d zr=>by
   unfold vM zD at h1
   dsimp only at h1
   have Iw:∀(cs:List AV) (s s':RS),gZ s aD (ops.toList.filterMap (·.dst)) ops[k] cs=some s'→aD.contains d=true→sb d s.ρ ((ops.toList.filterMap (·.dst)).filter fun t=>!Nat.beq t d)=true:=by
    intro cs s s' hb hl
    unfold gZ at hb
    simp only [zr,hl,if_true] at hb
    by_cases hn:sb d s.ρ ((ops.toList.filterMap (·.dst)).filter fun t=>!Nat.beq t d)=true
    ·exact hn
    ·simp [hn] at hb
   unfold a6 at nR
   split at nR
   ·rename_i t Bg
    rw [zr] at nR
    simp only at nR
    split at nR
    ·rename_i hl
     rw [Bg] at h1
     simp only [V4] at h1
     obtain⟨z,_,h1⟩:=h1
     exact Iw _ _ _ h1 hl
    ·cases nR
   ·rename_i t x Bg
    rw [zr] at nR
    simp only at nR
    split at nR
    ·rename_i hl
     rw [Bg] at h1
     exact Iw _ _ _ h1 hl
    ·cases nR
   all_goals first
    | (split at nR<;>cases nR)
    | (split at nR<;>first | cases nR | (split at nR<;>cases nR))
    | cases nR)
  unfold vM at h1
  rw [h1] at this
  rw [h2]
  exact Wy this
 | false=>
  simp only [Wj,if_false] at h
  rw [h.1,h.2]
  exact ia (tx k) (tx k) {} _ _ rfl rfl
theorem rP (s2:RS)(f:kh)(d:Option Nat)(s':RS)(t:Nat):(s2.shift f d s').ρ t=if d=some t then s'.ρ t else s2.ρ t:=by
 cases d with
 | none=>simp [RS.shift]
 | some d=>
  simp only [RS.shift,V6]
  by_cases h:t=d
  ·subst h; simp
  ·rw [if_neg h,if_neg (Xn h)]
theorem ou (s2:RS)(f:kh)(d:Option Nat)(s':RS)(b:Nat):(s2.shift f d s').bx b=if f.wb=some b then s'.bx b else s2.bx b:=by
 cases hf:f.wb with
 | none=>simp [RS.shift,hf]
 | some k=>
  simp only [RS.shift,hf,V6]
  by_cases h:b=k
  ·subst h; simp
  ·rw [if_neg h,if_neg (Xn h)]
theorem sF.lt (T:sF P cf aD ops tx ft ord):∀{j k:Nat},ord k j→k<j:=by
 intro j
 induction j using Nat.strongRecOn with
 | _ j ih=>
  intro k h
  obtain⟨o,ho,e,he,hb,h1⟩:=T.Jo k j h
  have h2:=T.back j o ho e he hb
  rcases h1 with h1 | h1
  ·omega
  ·have:=ih e.on h2 h1; omega
def pL (ops:Array Oper)(S:Nat→Bool):Prop:=∀j o,ops[j]? = some o→S j=true→∀e∈o.after,Region.binds .any e=true→S e.on=true
theorem sF.down (T:sF P cf aD ops tx ft ord){S:Nat→Bool}(hc:pL ops S):∀{j k:Nat},ord k j→S j=true→S k=true:=by
 intro j
 induction j using Nat.strongRecOn with
 | _ j ih=>
  intro k h hs
  obtain⟨o,ho,e,he,hb,h1⟩:=T.Jo k j h
  have h2:=T.back j o ho e he hb
  have h3:=hc j o ho hs e he hb
  rcases h1 with h1 | h1
  ·rw [←h1]; exact h3
  ·exact ih e.on h2 h1 h3
variable {S:Nat→Bool}{i:Nat}{oi:Oper}
theorem sF.before (T:sF P cf aD ops tx ft ord)(hc:pL ops S)(ho:ops[i]? = some oi)(hr:∀e∈oi.after,Region.binds .any e=true→S e.on=true){k:Nat}(h:ord k i):S k=true:=by
 obtain⟨o,NS,e,he,hb,h1⟩:=T.Jo k i h
 rw [ho] at NS
 cases NS
 rcases h1 with h1 | h1
 ·rw [←h1]; exact hr e he hb
 ·exact T.down hc h1 (hr e he hb)
theorem sF.iff (T:sF P cf aD ops tx ft ord)(hc:pL ops S)(ho:ops[i]? = some oi)(hr:∀e∈oi.after,Region.binds .any e=true→S e.on=true)(hi:S i=false){k:Nat}(h:ord i k∨ord k i):S k=true↔k<i:=by
 rcases h with h | h
 ·have:=T.lt h
  refine⟨fun hk=>?_,fun _=>by omega⟩
  have:=T.down hc h hk
  rw [hi] at this; cases this
 ·exact⟨fun _=>T.lt h,fun _=>T.before hc ho hr h⟩
theorem wg (t:Nat)(k:Nat)(hd:jc ops k=some t)(hs:S k=true):(jN ops tx ft S (k+1)).ρ t=(tx (k+1)).ρ t:=by
 simp only [jN,hs,if_true,rP,hd]
theorem wi (t:Nat)(k:Nat)(h:¬jc ops k=some t∨S k=false):(jN ops tx ft S (k+1)).ρ t=(jN ops tx ft S k).ρ t:=by
 simp only [jN]
 split
 ·rename_i hs
  rcases h with h | h
  ·rw [rP,if_neg h]
  ·rw [h] at hs; cases hs
 ·rfl
theorem wj (b:Nat)(k:Nat)(hd:(ft k).wb=some b)(hs:S k=true):(jN ops tx ft S (k+1)).bx b=(tx (k+1)).bx b:=by
 simp only [jN,hs,if_true,ou,hd]
theorem wk (b:Nat)(k:Nat)(h:¬(ft k).wb=some b∨S k=false):(jN ops tx ft S (k+1)).bx b=(jN ops tx ft S k).bx b:=by
 simp only [jN]
 split
 ·rename_i hs
  rcases h with h | h
  ·rw [ou,if_neg h]
  ·rw [h] at hs; cases hs
 ·rfl
theorem wo (k:Nat)(hd:(ft k).wh=true)(hs:S k=true):(jN ops tx ft S (k+1)).h=(tx (k+1)).h:=by
 simp only [jN,hs,if_true,RS.shift,hd]
theorem wq (k:Nat)(h:¬(ft k).wh=true∨S k=false):(jN ops tx ft S (k+1)).h=(jN ops tx ft S k).h:=by
 simp only [jN]
 split
 ·rename_i hs
  rcases h with h | h
  ·simp only [RS.shift]; rw [if_neg h]
  ·rw [h] at hs; cases hs
 ·rfl
theorem sF.OM (T:sF P cf aD ops tx ft ord)(t:Nat)(k:Nat)(hk:k<ops.size)(h:¬jc ops k=some t):(tx (k+1)).ρ t=(tx k).ρ t:=by
 rw [T.shift hk,rP,if_neg h]
theorem sF.LZ (T:sF P cf aD ops tx ft ord)(b:Nat)(k:Nat)(hk:k<ops.size)(h:¬(ft k).wb=some b):(tx (k+1)).bx b=(tx k).bx b:=by
 rw [T.shift hk,ou,if_neg h]
theorem sF.Jp (T:sF P cf aD ops tx ft ord)(k:Nat)(hk:k<ops.size)(h:¬(ft k).wh=true):(tx (k+1)).h=(tx k).h:=by
 rw [T.shift hk]; simp only [RS.shift]; rw [if_neg h]
theorem sF.reads (T:sF P cf aD ops tx ft ord)(hc:pL ops S)(ho:ops[i]? = some oi)(hr:∀e∈oi.after,Region.binds .any e=true→S e.on=true)(hi:S i=false) :
  (∀t∈oi.looksAt ops,(jN ops tx ft S ops.size).ρ t=(tx i).ρ t)∧(∀b∈(ft i).rb,(jN ops tx ft S ops.size).bx b=(tx i).bx b)∧
  (∀id∈(ft i).rh,(jN ops tx ft S ops.size).h.get id=(tx i).h.get id)∧((ft i).wh=true→(jN ops tx ft S ops.size).h=(tx i).h):=by
 have hin:i<ops.size:=(WA.1 ho).1
 have I6:∀k,k<ops.size→ops[k]? = some ops[k]!:=fun k hk=>by simp [hk]
 have mU:∀k,k=i→(S k=true↔k<i):=by
  rintro k rfl
  rw [hi]; simp
 refine⟨fun t ht=>?_,fun b hb=>?_,fun id hid=>?_,fun hw=>?_⟩
 ·refine ot (W:=fun k=>jc ops k=some t) (m:=fun k=>(jN ops tx ft S k).ρ t) (x:=fun k=>(tx k).ρ t) (S:=S) (Nat.le_of_lt hin) rfl (fun k _ h hs=>wg t k h hs) (fun k _ h=>wi t k h) (fun k hk h=>T.OM t k hk h) (fun k hk h=>?_)
  by_cases rO:k=i
  ·exact mU k rO
  ·obtain⟨y,hy,Jq⟩:=V4.1 h
   rcases T.Iv k i y oi rO hy ho with h1 | h1 | h1
   ·exact T.iff hc ho hr hi (.inr h1)
   ·exact T.iff hc ho hr hi (.inl h1)
   ·exact absurd ht (h1 t Jq).1
 ·refine ot (W:=fun k=>(ft k).wb=some b) (m:=fun k=>(jN ops tx ft S k).bx b) (x:=fun k=>(tx k).bx b) (S:=S) (Nat.le_of_lt hin) rfl (fun k _ h hs=>wj b k h hs) (fun k _ h=>wk b k h) (fun k hk h=>T.LZ b k hk h) (fun k hk h=>?_)
  by_cases rO:k=i
  ·exact mU k rO
  ·rcases T.boxes k i hk hin rO with h1 | h1 | h1
   ·exact T.iff hc ho hr hi (.inr h1)
   ·exact T.iff hc ho hr hi (.inl h1)
   ·exact absurd hb (h1.1 b h).1
 ·
  obtain⟨p,hp,LM⟩:∃p,p≤ops.size∧∀k,k<ops.size→(ft k).wh=true→(S k=true↔k<p):=by
   have key:∀m,m≤ops.size→(∀k,k<m→(ft k).wh=true→S k=true)∨∃p,p<m∧(ft p).wh=true∧S p=false∧∀k,k<p→(ft k).wh=true→S k=true:=by
    intro m
    induction m with
    | zero=>intro _; exact .inl fun k hk=>by omega
    | succ m ih=>
     intro hm
     rcases ih (by omega) with h | ⟨p,h1,h2⟩
     ·by_cases hw:(ft m).wh=true∧S m=false
      ·exact .inr ⟨m,by omega,hw.1,hw.2,h⟩
      ·refine .inl fun k hk RB=>?_
       by_cases T3:k=m
       ·subst T3
        cases hs:S k with
        | true=>rfl
        | false=>exact absurd ⟨RB,hs⟩ hw
       ·exact h k (by omega) RB
     ·exact .inr ⟨p,by omega,h2⟩
   rcases key ops.size (V7 _) with h | ⟨p,h1,h2,h3,h4⟩
   ·exact⟨ops.size,V7 _,fun k hk hw=>⟨fun _=>hk,fun _=>h k hk hw⟩⟩
   ·refine⟨p,by omega,fun k hk hw=>⟨fun hs=>?_,fun NT=>h4 k NT hw⟩⟩
    rcases Nat.lt_or_ge k p with h5 | h5
    ·exact h5
    ·by_cases NT:k=p
     ·subst NT; rw [h3] at hs; cases hs
     ·rcases T.boxes p k h1 hk (Xn NT) with h6 | h6 | h6
      ·have:=T.down hc h6 hs; rw [h3] at this; cases this
      ·have:=T.lt h6; omega
      ·have:=(h6.2 h2).1; rw [hw] at this; cases this
  have Jr:(jN ops tx ft S ops.size).h=(tx p).h:=
   ot (W:=fun k=>(ft k).wh=true) (m:=fun k=>(jN ops tx ft S k).h) (x:=fun k=>(tx k).h) (S:=S) hp rfl (fun k _ h hs=>wo k h hs) (fun k _ h=>wq k h) (fun k hk h=>T.Jp k hk h) LM
  rw [Jr]
  have Ix:∀k,k<ops.size→(p≤k∧k<i)∨(i≤k∧k<p)→(tx (k+1)).h.get id=(tx k).h.get id:=by
   intro k hk hb
   by_cases hw:(ft k).wh=true
   ·have hs:=LM k hk hw
    have rO:k≠i:=by
     rintro rfl
     rcases hb with hb | hb
     ·omega
     ·have:=hs.2 hb.2; rw [hi] at this; cases this
    rcases T.boxes k i hk hin rO with h1 | h1 | h1
    ·have hlt:=T.lt h1
     have:=hs.1 (T.before hc ho hr h1)
     omega
    ·have hlt:=T.lt h1
     have:=T.down hc h1 (hs.2 (by omega))
     rw [hi] at this; cases this
    ·exact ((h1.2 hw).2 id hid).symm
   ·rw [T.Jp k hk hw]
  have walk:∀a b,a≤b→b≤ops.size→(∀k,a≤k→k<b→(tx (k+1)).h.get id=(tx k).h.get id)→(tx b).h.get id=(tx a).h.get id:=by
   intro a b ON
   induction b with
   | zero=>
     intro _ _; have:a=0:=by omega
     subst this; rfl
   | succ b ih=>
    intro hb hk
    by_cases OO:a=b+1
    ·subst OO; rfl
    ·rw [hk b (by omega) (by omega)]
     exact ih (by omega) (by omega) fun k h1 h2=>hk k h1 (by omega)
  rcases Nat.le_total p i with h | h
  ·exact (walk p i h (Nat.le_of_lt hin) fun k h1 h2=>Ix k (by omega) (.inl ⟨h1,h2⟩)).symm
  ·exact walk i p h hp fun k h1 h2=>Ix k (by omega) (.inr ⟨h1,h2⟩)
 ·refine ot (W:=fun k=>(ft k).wh=true) (m:=fun k=>(jN ops tx ft S k).h) (x:=fun k=>(tx k).h) (S:=S) (Nat.le_of_lt hin) rfl (fun k _ h hs=>wo k h hs) (fun k _ h=>wq k h) (fun k hk h=>T.Jp k hk h) (fun k hk h=>?_)
  by_cases rO:k=i
  ·exact mU k rO
  ·rcases T.boxes k i hk hin rO with h1 | h1 | h1
   ·exact T.iff hc ho hr hi (.inr h1)
   ·exact T.iff hc ho hr hi (.inl h1)
   ·have:=(h1.2 h).1; rw [hw] at this; cases this
theorem xY (t:Nat):∀k,(jN ops tx ft S k).ρ t=(tx 0).ρ t∨∃j,j<k∧S j=true∧jc ops j=some t∧(jN ops tx ft S k).ρ t=(tx (j+1)).ρ t
 | 0=>.inl rfl
 | k+1=>by
  by_cases h:jc ops k=some t∧S k=true
  ·exact .inr ⟨k,by omega,h.2,h.1,wg t k h.1 h.2⟩
  ·have h':¬jc ops k=some t∨S k=false:=by
    by_cases h1:jc ops k=some t
    ·right; cases hs:S k with
     | true=>exact absurd ⟨h1,hs⟩ h
     | false=>rfl
    ·exact .inl h1
   rw [wi t k h']
   rcases xY t k with h1 | ⟨j,h1,h2⟩
   ·exact .inl h1
   ·exact .inr ⟨j,by omega,h2⟩
theorem sG {k:Nat}{ρ:Nat→AV}:∀{l:List Nat},(∀t∈l,∀off,ρ t≠.lp k off)→sb k ρ l=true
 | [],_=>rfl
 | t::l,h=>by
  simp only [sb,V8]
  refine⟨?_,sG fun u hu=>h u (by simp [hu])⟩
  have:=h t (by simp)
  split
  ·rename_i j off heq
   simp only [bne_iff_ne,ne_eq]
   rintro rfl
   exact this off heq
  ·rfl
open Classical in
theorem sF.next (T:sF P cf aD ops tx ft ord)(hc:pL ops S)(ho:ops[i]? = some oi)(hr:∀e∈oi.after,Region.binds .any e=true→S e.on=true)(hi:S i=false){S':Nat→Bool}(CI:∀k,S' k=if k=i then true else S k) :
  lG P cf aD ops.toList (jN ops tx ft S ops.size) oi=some (jN ops tx ft S' ops.size):=by
 have hin:i<ops.size:=(WA.1 ho).1
 obtain⟨h1,h2,h3,h4⟩:=T.reads hc ho hr hi
 obtain⟨w,hw,Bg⟩:=T.op i oi ho
 have re:jc ops i=oi.dst:=by simp [jc,ho]
 have u6:∀j,i<j→j<ops.size→(ord i j∨ord j i)→S j=false:=by
  intro j xX hj h
  cases hs:S j with
  | false=>rfl
  | true=>have:=(T.iff hc ho hr hi h).1 hs; omega
 have Jr:jN ops tx ft S' ops.size=(jN ops tx ft S ops.size).shift (ft i) (jc ops i) (tx (i+1)):=by
  refine RS.ext' (fun t=>?_) (fun b=>?_) ?_
  ·rw [rP]
   have:=we (W:=fun k=>jc ops k=some t) (m:=fun k=>(jN ops tx ft S k).ρ t) (m':=fun k=>(jN ops tx ft S' k).ρ t) (x:=fun k=>(tx k).ρ t) (S:=S) (S':=S') hin rfl
    (fun k _ h hs=>wg t k h hs) (fun k _ h=>wi t k h) (fun k _ h hs=>wg t k h hs) (fun k _ h=>wi t k h) CI hi (fun KX j hj xX L2=>by
     obtain⟨y,hy,Jq⟩:=V4.1 L2
     rw [re] at KX
     rcases T.Iv i j oi y (by omega) ho hy with h | h | h
     ·exact u6 j xX hj (.inl h)
     ·exact u6 j xX hj (.inr h)
     ·exact absurd Jq (h t KX).2)
   rw [this]
   by_cases hd:jc ops i=some t
   ·rw [if_pos hd,if_pos hd]
   ·rw [if_neg hd,if_neg hd]
  ·rw [ou]
   have:=we (W:=fun k=>(ft k).wb=some b) (m:=fun k=>(jN ops tx ft S k).bx b) (m':=fun k=>(jN ops tx ft S' k).bx b) (x:=fun k=>(tx k).bx b) (S:=S) (S':=S') hin rfl
    (fun k _ h hs=>wj b k h hs) (fun k _ h=>wk b k h) (fun k _ h hs=>wj b k h hs) (fun k _ h=>wk b k h) CI hi (fun KX j hj xX L2=>by
     rcases T.boxes i j hin hj (by omega) with h | h | h
     ·exact u6 j xX hj (.inl h)
     ·exact u6 j xX hj (.inr h)
     ·exact absurd L2 (h.1 b KX).2)
   rw [this]
   by_cases hd:(ft i).wb=some b
   ·rw [if_pos hd,if_pos hd]
   ·rw [if_neg hd,if_neg hd]
  ·have:=we (W:=fun k=>(ft k).wh=true) (m:=fun k=>(jN ops tx ft S k).h) (m':=fun k=>(jN ops tx ft S' k).h) (x:=fun k=>(tx k).h) (S:=S) (S':=S') hin rfl
    (fun k _ h hs=>wo k h hs) (fun k _ h=>wq k h) (fun k _ h hs=>wo k h hs) (fun k _ h=>wq k h) CI hi (fun KX j hj xX L2=>by
     rcases T.boxes i j hin hj (by omega) with h | h | h
     ·exact u6 j xX hj (.inl h)
     ·exact u6 j xX hj (.inr h)
     ·have:=(h.2 KX).1; rw [L2] at this; cases this)
   rw [this]
   simp only [RS.shift]
   by_cases hd:(ft i).wh=true
   ·rw [if_pos hd,if_pos hd]
   ·rw [if_neg hd,if_neg hd]
 have L3:∀x∈oi.op.operands,bL (jN ops tx ft S ops.size).ρ x=bL (tx i).ρ x:=by
  intro x hx
  cases x with
  | tmp t=>
   refine h1 t ?_
   unfold Oper.looksAt
   rw [Wk]
   left
   rw [List.mem_filterMap]
   exact⟨.tmp t,W3.2 hx,rfl⟩
  | _=>rfl
 have L4:gA ops.toList (jN ops tx ft S ops.size).ρ oi=gA ops.toList (tx i).ρ oi:=by
  unfold gA
  cases hg:oi.guard with
  | none=>rfl
  | some g=>
   obtain⟨g,want⟩:=g
   simp only
   cases hq:(ops.toList[g]?).bind (·.dst) with
   | none=>rfl
   | some d=>
    simp only [V3]
    rw [h1 d]
    unfold Oper.looksAt
    rw [Wk]
    right
    rw [hg]
    simp only
    have:(ops[g]?).bind (·.dst)=some d:=by simpa using hq
    rw [this]
    simp
 unfold lG
 rw [L4,hw]
 simp only [V3]
 rw [Jr,re]
 cases w with
 | false=>
  simp only [Wj,if_false] at Bg ⊢
  rw [Bg.1,Bg.2]
  congr 1
  exact ia (tx i) _ {} _ _ rfl rfl
 | true=>
  simp only [if_true] at Bg ⊢
  obtain⟨Bg,KY⟩:=Bg
  unfold vM at Bg ⊢
  rw [CH L3,KY]
  rw [KY] at h2 h3 h4
  refine u5 Bg h2 h3 h4 (fun nR d zr=>sG fun t ht off he=>?_)
  rw [Xy] at ht
  obtain⟨T4,T5⟩:=ht
  have Ip:t≠d:=by simpa [beq_nat] using T5
  obtain⟨l1,l2⟩:=T.OL i oi d ho (by rw [KY]; exact nR) zr
  rcases xY (ops:=ops) (tx:=tx) (ft:=ft) (S:=S) t ops.size with h | ⟨j,hj,hs,T6,h⟩
  ·rw [h] at he
   exact l1 t T4 Ip off he
  ·rw [h] at he
   obtain⟨y,hy,Jq⟩:=V4.1 T6
   have hji:j≠i:=by rintro rfl; rw [hi] at hs; cases hs
   rcases l2 j y t hy hji with h5 | h5
   ·have:=T.down hc h5 hs; rw [hi] at this; cases this
   ·exact h5 Jq off he
theorem Bh (T:sF P cf aD ops tx ft ord)(ku:∀k,k<ops.size→S k=true):∀k,k≤ops.size→jN ops tx ft S k=tx k
 | 0,_=>rfl
 | k+1,hk=>by
  simp only [jN,ku k (by omega),if_true]
  rw [Bh T ku k (by omega)]
  exact (T.shift (by omega)).symm
def left (n:Nat)(S:Nat→Bool):Nat:=(List.range n).countP fun j=>!S j
theorem CJ {n:Nat}{S:Nat→Bool}(h:left n S=0):∀k,k<n→S k=true:=by
 intro k hk
 unfold left at h
 rw [List.countP_eq_zero] at h
 simpa using h k (List.mem_range.2 hk)
theorem Ec {n i:Nat}(hi:i<n){S S':Nat→Bool}(LY:S i=false)(CI:∀k,S' k=if k=i then true else S k):left n S'+1=left n S:=by
 unfold left
 have:∀m,(List.range m).countP (fun j=>!S' j)+(if i<m then 1 else 0)=(List.range m).countP fun j=>!S j:=by
  intro m
  induction m with
  | zero=>simp
  | succ m ih=>
   rw [List.range_succ,List.countP_append,List.countP_append]
   simp only [List.countP_cons,List.countP_nil]
   by_cases hm:m=i
   ·subst hm
    have h1:S' m=true:=by rw [CI]; simp
    rw [h1,LY]
    simp at ih ⊢
    omega
   ·have h1:S' m=S m:=by rw [CI,if_neg hm]
    rw [h1]
    by_cases RC:i<m
    ·have h3:i<m+1:=by omega
     simp only [RC,h3,if_true] at ih ⊢
     omega
    ·have h3:¬i<m+1:=by omega
     simp only [RC,h3,if_false] at ih ⊢
     omega
 have:=this n
 rw [if_pos hi] at this
 exact this
theorem Js (T:sF P cf aD ops tx ft ord)(hcf:CallOK P cf){L0:Nat→Prop}{c0:Cx}{n:Nat}(hb0:c0.base≤c0.w.heap.size)(xL:u4 n ops.toList=true){Q:Exit→Act→World→Prop}
  (hQ:∀a' w',Inv L0 c0 n (ops.toList.filterMap (·.dst)) (tx ops.size) a' w'→Q .normal a' w') :
  ∀(fuel:Nat) (listed:Array Bool) (a:Act) (w:World),listed.size=ops.size→pL ops (fun j=>listed.getD j false)→left ops.size (fun j=>listed.getD j false)≤fuel→
   Inv L0 c0 n (ops.toList.filterMap (·.dst)) (jN ops tx ft (fun j=>listed.getD j false) ops.size) a w→wpAny P .any ops Q fuel listed a w:=by
 intro fuel
 have Ed:∀(listed:Array Bool) a w,listed.size=ops.size→Region.ready .any ops listed=[]→Inv L0 c0 n (ops.toList.filterMap (·.dst)) (jN ops tx ft (fun j=>listed.getD j false) ops.size) a w→Q .normal a w:=by
  intro listed a w hsz KZ hi
  have ku:∀k,k<ops.size→listed.getD k false=true:=by
   intro k
   induction k using Nat.strongRecOn with
   | _ k ih=>
    intro hk
    cases hl:listed.getD k false with
    | true=>rfl
    | false=>
     have:k∈Region.ready .any ops listed:=mem_ready.2 ⟨getD_in (by omega) hl,ops[k],by simp [hk],fun e he hb=>by
      have:=T.back k ops[k] (by simp [hk]) e he hb
      exact ih e.on this (by omega)⟩
     rw [KZ] at this
     cases this
  rw [Bh (S:=fun j=>listed.getD j false) T ku _ (V7 _)] at hi
  exact hQ a w hi
 induction fuel with
 | zero=>
  intro listed a w hsz hc hl hi
  have ku:=CJ (Nat.le_zero.1 hl)
  have KZ:Region.ready .any ops listed=[]:=by
   rw [List.eq_nil_iff_forall_not_mem]
   intro j hj
   obtain⟨h1,o,ho,_⟩:=mem_ready.1 hj
   have L5:j<ops.size:=(WA.1 ho).1
   have h2:=ku j L5
   have Ee:j<listed.size:=by omega
   simp [Ee] at h1 h2
   rw [h1] at h2; cases h2
  exact⟨KZ,Ed listed a w hsz KZ hi⟩
 | succ fuel ih=>
  intro listed a w hsz hc hl hi
  refine⟨fun KZ=>Ed listed a w hsz KZ hi,fun i wu=>?_⟩
  obtain⟨h1,o,ho,L6⟩:=mem_ready.1 wu
  have hin:i<ops.size:=(WA.1 ho).1
  have zY:i<listed.size:=by omega
  have LY:listed.getD i false=false:=by simp [zY] at h1 ⊢; exact h1
  have CI:∀k,(listed.setIfInBounds i true).getD k false=if k=i then true else listed.getD k false:=by
   intro k
   by_cases hk:k=i
   ·subst hk
    rw [if_pos rfl]
    simp [zY]
   ·rw [if_neg hk,getD_set_ne false (Xn hk)]
  have hst:=T.next (S:=fun j=>listed.getD j false) (S':=fun k=>(listed.setIfInBounds i true).getD k false) hc ho L6 LY CI
  unfold wpOp
  rw [ho]
  simp only
  have L7:o∈ops.toList:=W3.2 (Array.mem_of_getElem? ho)
  have:=xT (Q:=Q) (K:=wpAny P .any ops Q fuel (listed.setIfInBounds i true)) hcf hb0 rfl (xU xL L7) hst hi (fun a' w' k9=>by
   refine ih _ a' w' (by simpa using hsz) ?_ ?_ k9
   ·intro j oj OP hj e he hb
    dsimp only at hj ⊢
    rw [CI] at hj ⊢
    by_cases hji:j=i
    ·subst hji
     rw [ho] at OP
     cases OP
     have:=L6 e he hb
     rw [this]; simp
    ·rw [if_neg hji] at hj
     have:=hc j oj OP hj e he hb
     simp only at this
     rw [this]; simp
   ·have:=Ec hin (S:=fun j=>listed.getD j false) LY CI
    omega)
  split
  ·rename_i hw; rw [if_pos hw] at this; exact .inl this
  ·rename_i hw; rw [if_neg hw] at this; exact this
theorem u7 {opsL:List Oper}:∀(l:List Oper) (s r:RS) (es:List rK),pE P cf aD opsL s l=some (es,r)→∃tx:Nat→RS,tx 0=s∧tx l.length=r∧
  ∀k o,l[k]? = some o→∃w,gA opsL (tx k).ρ o=some w∧(if w then vM P cf aD (opsL.filterMap (·.dst)) (tx k) o=some (tx (k+1)) else tx (k+1)=(tx k).set o.dst (.tup []))∧
   es[k]? = some {o,f:=if w then a6 aD (bL (tx k).ρ) o else {},s:=tx k,s':=tx (k+1)}
 | [],s,r,es,h=>by
  simp only [pE,V6,Wc] at h
  obtain⟨rfl,rfl⟩:=h
  exact⟨fun _=>s,rfl,rfl,fun k o ho=>by simp at ho⟩
 | o::l,s,r,es,h=>by
  simp only [pE,V4,V5] at h
  obtain⟨w,hw,s1,h1,⟨qB,r'⟩,h2,h3⟩:=h
  simp only [Wc] at h3
  obtain⟨rfl,rfl⟩:=h3
  obtain⟨tx,t0,tn,ht⟩:=u7 l s1 r' qB h2
  refine⟨fun | 0=>s | k+1=>tx k,rfl,tn,fun k o' ho=>?_⟩
  cases k with
  | zero=>
   simp only [WJ,V6] at ho
   subst ho
   refine⟨w,hw,?_,?_⟩
   ·cases w with
    | true=>simpa [t0] using h1
    | false=>
     simp only [Wj,if_false,V6] at h1 ⊢
     rw [t0]; exact h1.symm
   ·simp [t0]
  | succ k=>
   obtain⟨w',h4,h5,h6⟩:=ht k o' (by simpa using ho)
   exact⟨w',h4,h5,by simpa using h6⟩
theorem Ef {e:Operand→AV}{o:Oper}(h:(a6 aD e o).al=true):(a6 aD e o).wb.isSome=true:=by
 unfold a6 at h ⊢
 split at h<;>try (cases h; done)
 all_goals (split at h<;>try (cases h; done))
 all_goals (split at h<;>try (cases h; done))
 all_goals simp_all
theorem CK {k:Nat}{x:AV}(h:I5 k x=false):∀off,x≠.lp k off:=by
 rintro off rfl
 simp [I5] at h
theorem Eg (hm:P.follows .mixedOrders=true)(hcf:CallOK P cf)(T7:SteadyF cf):zW P cf:=by
 intro L0 c0 n aD id ops s s' h hb0 xL a w Q hi hQ
 unfold kL at h
 dsimp only at h
 split at h
 rotate_left
 ·cases h
 rename_i wv
 rw [V4] at h
 obtain⟨⟨es,r⟩,zM,h⟩:=h
 simp only at h
 split at h
 rotate_left
 ·cases h
 rename_i xZ
 cases h
 obtain⟨tx,t0,tn,ht⟩:=u7 ops.toList s s' es zM
 generalize Lv:jA [] ops.toList=ms at wv xZ
 have OQ:∀k i,(ms.getD i 0).testBit k=true→∃o,ops[i]? = some o∧∃e∈o.after,Region.binds .any e=true∧(e.on=k∨(ms.getD e.on 0).testBit k=true):=by
  intro k i hk
  obtain⟨o,ho,e,he,hb,h1⟩:=(qM ops.toList []).2 i k (by rw [Lv]; exact hk) (by simp)
  refine⟨o,by simpa using ho,e,W3.1 he,hb,?_⟩
  rw [Lv] at h1
  exact h1
 unfold pD at wv
 simp only [V8] at wv
 obtain⟨Jt,Eh⟩:=wv
 let ft:Nat→kh:=fun k=>((es[k]?).map (·.f)).getD {}
 have sk:∀k o,ops[k]? = some o→∃w,gA ops.toList (tx k).ρ o=some w∧(if w then vM P cf aD (ops.toList.filterMap (·.dst)) (tx k) o=some (tx (k+1)) else tx (k+1)=(tx k).set o.dst (.tup []))∧
   es[k]? = some {o,f:=ft k,s:=tx k,s':=tx (k+1)}∧ft k=if w then a6 aD (bL (tx k).ρ) o else {}:=by
  intro k o ho
  obtain⟨w,h1,h2,h3⟩:=ht k o (by simpa using ho)
  have KY:ft k=if w then a6 aD (bL (tx k).ρ) o else {}:=by simp only [ft,h3,Wa,W4]
  exact⟨w,h1,h2,by rw [KY]; exact h3,KY⟩
 have wu:∀k o,ops[k]? = some o→((⟨o,ft k,tx k,tx (k+1)⟩:rK),k)∈es.zipIdx:=by
  intro k o ho
  obtain⟨w,_,_,h3,_⟩:=sk k o ho
  exact List.mk_mem_zipIdx_iff_getElem?.2 h3
 simp only [Ws,Xy,V8] at xZ
 have zp:∀k o,ops[k]? = some o→(ft k).quiet=false→(((⟨o,ft k,tx k,tx (k+1)⟩:rK),k)∈es.zipIdx∧(!(ft k).quiet)=true):=fun k o ho hq=>⟨wu k o ho,by rw [hq]; rfl⟩
 have I6:∀k,k<ops.size→ops[k]? = some ops[k]!:=fun k hk=>by simp [hk]
 have Ju:∀i j x y,ops[i]? = some x→ops[j]? = some y→i≠j→(ft i).quiet=false→(ft j).quiet=false→(ms.getD j 0).testBit i=true∨(ms.getD i 0).testBit j=true∨
   rK.pC ⟨x,ft i,tx i,tx (i+1)⟩ ⟨y,ft j,tx j,tx (j+1)⟩=true:=by
  intro i j x y hx hy xX GS GU
  rcases Nat.lt_or_ge i j with hlt | hge
  ·have:=(xZ _ (zp i x hx GS)).2 _ (zp j y hy GU)
   simp only [WT,V8] at this
   rcases this with (h1 | h1) | h1
   ·have:=Nat.le_of_ble_eq_true h1; omega
   ·exact .inl h1
   ·exact .inr (.inr h1.1)
  ·have:=(xZ _ (zp j y hy GU)).2 _ (zp i x hx GS)
   simp only [WT,V8] at this
   rcases this with (h1 | h1) | h1
   ·have:=Nat.le_of_ble_eq_true h1; omega
   ·exact .inr (.inl h1)
   ·exact .inr (.inr h1.2)
 have OR:∀id,(tx 0).h.ver id<(tx 0).h.next:=by
  obtain⟨_,c,Lo,lam,_,f,_⟩:=hi
  rw [t0,←f.h]; exact f.rel.ver
 have hst:∀k,k<ops.size→Steady (tx k).h (tx (k+1)).h:=by
  intro k hk
  obtain⟨w,h1,h2,_⟩:=sk k _ (I6 k hk)
  cases w with
  | true=>exact sE T7 (by simpa [vM] using h2)
  | false=>
   simp only [Wj,if_false] at h2
   rw [h2,jb]; exact Steady.refl _
 have NU:∀k,k≤ops.size→∀id,(tx k).h.ver id<(tx k).h.next:=by
  intro k
  induction k with
  | zero=>intro _; exact OR
  | succ k ih=>intro hk; exact (hst k (by omega)).wf (ih (by omega))
 have T:sF P cf aD ops tx ft (fun k i=>(ms.getD i 0).testBit k=true):=by
  refine⟨fun k o ho=>?_,OQ,fun i o ho e he hb=>?_,fun i j x y xX hx hy=>?_,fun i j hin L5 xX=>?_,fun i o d ho nR hd=>?_⟩
  ·obtain⟨w,h1,h2,h3,h4⟩:=sk k o ho
   refine⟨w,h1,?_⟩
   cases w with
   | true=>exact⟨h2,h4⟩
   | false=>exact⟨h2,h4⟩
  ·have:=oq _ 0 Jt i o (by simpa using ho) e (W3.2 he) hb
   omega
  ·have la:∀x y:Oper,vN ops x y=true→∀d,x.dst=some d→d∉y.looksAt ops∧y.dst≠some d:=by
    intro x y h d hd
    unfold vN at h
    rw [hd] at h
    simpa using h
   rcases Nat.lt_or_ge i j with hlt | hge
   ·have:=j9 _ _ 0 Eh i j x y hlt (by simpa using hx) (by simpa using hy)
    simp only [Wr,WT,V8] at this
    rcases this with h1 | h1
    ·exact .inl h1
    ·exact .inr (.inr (la _ _ h1.1))
   ·have:=j9 _ _ 0 Eh j i y x (by omega) (by simpa using hy) (by simpa using hx)
    simp only [Wr,WT,V8] at this
    rcases this with h1 | h1
    ·exact .inr (.inl h1)
    ·exact .inr (.inr (la _ _ h1.2))
  ·cases GS:(ft i).quiet with
   | true=>
    unfold kh.quiet at GS
    simp only [V8,Option.isNone_iff_eq_none,Xq] at GS
    exact .inr (.inr ⟨fun k hk=>(by rw [GS.1.1.2] at hk; cases hk),fun hk=>(by rw [GS.2] at hk; cases hk)⟩)
   | false=>
    cases GU:(ft j).quiet with
    | true=>
     unfold kh.quiet at GU
     simp only [V8,Option.isNone_iff_eq_none,Xq,List.isEmpty_iff] at GU
     obtain⟨⟨⟨q1,q2⟩,q3⟩,q4⟩:=GU
     exact .inr (.inr ⟨fun k hk=>⟨by rw [q1]; simp,by rw [q2]; simp⟩,fun hk=>⟨q4,by rw [q3]; simp⟩⟩)
    | false=>
     rcases Ju i j _ _ (I6 i hin) (I6 j L5) xX GS GU with h1 | h1 | h1
     ·exact .inl h1
     ·exact .inr (.inl h1)
     ·refine .inr (.inr ?_)
      unfold rK.pC at h1
      simp only [V8,WT,Xq,Ws] at h1
      obtain⟨h2,h3⟩:=h1
      refine⟨fun k hk=>?_,fun hk=>?_⟩
      ·rw [hk] at h2
       simpa using h2
      ·rcases h3 with h3 | h3
       ·rw [hk] at h3; cases h3
       ·refine⟨h3.1,fun id hid=>?_⟩
        have hv:=Xm (h3.2 id hid)
        rcases (hst i hin).fU id with⟨_,h5⟩| h5
        ·exact h5.symm
        ·have:=NU i (by omega) id; omega
  ·obtain⟨w,h1,h2,h3,h4⟩:=sk i o ho
   have hq:(ft i).quiet=false:=by
    cases w with
    | false=>rw [h4] at nR; cases nR
    | true=>
     rw [h4] at nR ⊢
     have:=Ef nR
     unfold kh.quiet
     simp only [if_true] at this ⊢
     cases hwb:(a6 aD (bL (tx i).ρ) o).wb with
     | none=>rw [hwb] at this; cases this
     | some k=>simp
   have:=(xZ _ (zp i o ho hq)).1
   unfold vO at this
   simp only [nR,hd] at this
   simp only [V8,Ws,WT] at this
   obtain⟨k1,k2⟩:=this
   refine⟨fun t ht Ip off=>?_,fun j y t hy hji=>?_⟩
   ·rw [t0]
    exact pH k1 t (by rw [Xy]; exact⟨ht,by simpa [beq_nat] using Ip⟩) off
   ·have:=k2 _ (wu j y hy)
    rcases this with (h5 | h5) | h5
    ·have:=Xm h5; omega
    ·exact .inl h5
    ·right
     intro Jq off
     simp only [rK.out,Jq,Xq] at h5
     exact CK h5 off
 have hlen:tx ops.size=s':=by simpa using tn
 refine wp_region_any hm ?_
 refine Js T hcf hb0 xL (fun a' w' k9=>hQ a' w' (by rw [hlen] at k9; exact k9)) ops.size _ _ _ (by simp) ?_ ?_ ?_
 ·intro j o _ hj
  simp only [getD_replicate_false] at hj
  cases hj
 ·unfold left
  exact WQ (List.countP_le_length) (by simp)
 ·have D2:∀k,jN ops tx ft (fun j=>(Array.replicate ops.size false).getD j false) k=tx 0:=by
   intro k
   induction k with
   | zero=>rfl
   | succ k ih=>
    rw [jN,getD_replicate_false,if_neg (by simp)]
    exact ih
  rw [D2,t0]
  exact hi.drew
end
end Go.R
namespace Go.R
open Go
section
variable {c d:Cx}{L L':Nat→Prop}
mutual
theorem Bi (hw:d.w=c.w)(hbs:d.base≤c.base)(kR:∀b,RO c L b→RO d L' b):∀(x:AV) (v:Value),x.dN=true→VR c L x v→VR d L' x v
 | .any,_,h,_=>by simp [AV.dN] at h
 | .bool _,_,_,h=>h
 | .int _ _,_,_,h=>h
 | .str _,_,_,h=>h
 | .q6,_,_,h=>h
 | .ptr _ _,_,h,_=>by simp [AV.dN] at h
 | .lp _ _,_,h,_=>by simp [AV.dN] at h
 | .fp cs off,v,h,hv=>by
  simp only [AV.dN] at h
  simp only [VR] at hv ⊢
  obtain⟨b,o,rfl,hc⟩:=hv
  exact⟨b,o,rfl,hc.imp id fun ⟨hr,hc⟩=>⟨kR b hr,ny hw hbs kR cs b o h hc⟩⟩
 | .nils,_,_,h=>h
 | .fz cs n ex,v,h,hv=>by
  simp only [AV.dN] at h
  simp only [VR] at hv ⊢
  obtain⟨a,cap,rfl,h1,h2,hs,hc⟩:=hv
  exact⟨a,cap,rfl,h1,h2,hs,hc.imp id fun ⟨b,o,ha,hr,hex,hc⟩=>⟨b,o,ha,kR b hr,fun h=>WQ hbs (hex h),ny hw hbs kR cs b o h hc⟩⟩
 | .rs _ _ _ _,_,h,_=>by simp [AV.dN] at h
 | .nk,_,_,h=>h
 | .mp _,_,h,_=>by simp [AV.dN] at h
 | .fn f cap,v,h,hv=>by
  simp only [AV.dN] at h
  simp only [VR] at hv ⊢
  obtain⟨vs,rfl,h1⟩:=hv
  exact⟨vs,rfl,ov hw hbs kR cap vs.toList h h1⟩
 | .r7,_,_,h=>h
 | .agg cs,v,h,hv=>by
  simp only [AV.dN] at h
  simp only [VR] at hv ⊢
  obtain⟨vs,rfl,h1⟩:=hv
  exact⟨vs,rfl,ov hw hbs kR cs vs.toList h h1⟩
 | .tup cs,v,h,hv=>by
  simp only [AV.dN] at h
  simp only [VR] at hv ⊢
  obtain⟨vs,rfl,h1⟩:=hv
  exact⟨vs,rfl,ov hw hbs kR cs vs.toList h h1⟩
theorem ov (hw:d.w=c.w)(hbs:d.base≤c.base)(kR:∀b,RO c L b→RO d L' b):∀(xs:List AV) (vs:List Value),cN xs=true→VRs c L xs vs→VRs d L' xs vs
 | [],[],_,_=>trivial
 | x::xs,v::vs,h,hv=>by
  simp only [cN,V8] at h
  exact⟨Bi hw hbs kR x v h.1 hv.1,ov hw hbs kR xs vs h.2 hv.2⟩
 | [],_::_,_,h=>h.elim
 | _::_,[],_,h=>h.elim
theorem ny (hw:d.w=c.w)(hbs:d.base≤c.base)(kR:∀b,RO c L b→RO d L' b):∀(xs:List AV) (b o:Nat),cN xs=true→Cells c L xs b o→Cells d L' xs b o
 | [],_,_,_,_=>trivial
 | x::xs,b,o,h,hv=>by
  simp only [cN,V8] at h
  obtain⟨⟨v,h1,h2,h3⟩,h4⟩:=hv
  exact⟨⟨v,by rw [hw]; exact h1,h2,Bi hw hbs kR x v h.1 h3⟩,ny hw hbs kR xs b (o+1) h.2 h4⟩
end
mutual
theorem wx (hw:d.w=c.w)(kR:∀b,RO c L b→RO d L' b):∀(x:AV) (v:Value),x.dN=true→VR c L x v→VR d L' x.jO v
 | .any,_,h,_=>by simp [AV.dN] at h
 | .bool _,_,_,h=>h
 | .int _ _,_,_,h=>h
 | .str _,_,_,h=>h
 | .q6,_,_,h=>h
 | .ptr _ _,_,h,_=>by simp [AV.dN] at h
 | .lp _ _,_,h,_=>by simp [AV.dN] at h
 | .fp cs off,v,h,hv=>by
  simp only [AV.dN] at h
  simp only [VR,AV.jO] at hv ⊢
  obtain⟨b,o,rfl,hc⟩:=hv
  refine⟨b,o,rfl,?_⟩
  rcases hc with rfl | ⟨hr,hc⟩
  ·exact .inl rfl
  ·exact .inr ⟨kR b hr,pM hw kR cs b o h hc⟩
 | .nils,v,_,h=>by
  simp only [VR] at h
  simp only [AV.jO,VR]
  exact⟨none,0,h,V7 _,by simp,.inr ⟨trivial,rfl⟩,.inl trivial⟩
 | .fz cs n ex,v,h,hv=>by
  simp only [AV.dN] at h
  simp only [VR,AV.jO] at hv ⊢
  obtain⟨a,cap,rfl,h1,h2,hs,hc⟩:=hv
  refine⟨a,cap,rfl,h1,by simp,hs.imp id fun h=>⟨by rw [h.1]; rfl,h.2⟩,?_⟩
  rcases hc with rfl | ⟨b,o,ha,hr,hex,hc⟩
  ·exact .inl rfl
  ·exact .inr ⟨b,o,ha,kR b hr,by simp,pM hw kR cs b o h hc⟩
 | .rs _ _ _ _,_,h,_=>by simp [AV.dN] at h
 | .nk,_,_,h=>h
 | .mp _,_,h,_=>by simp [AV.dN] at h
 | .fn f cap,v,h,hv=>by
  simp only [AV.dN] at h
  simp only [VR,AV.jO] at hv ⊢
  obtain⟨vs,rfl,h1⟩:=hv
  exact⟨vs,rfl,ow hw kR cap vs.toList h h1⟩
 | .r7,_,_,h=>h
 | .agg cs,v,h,hv=>by
  simp only [AV.dN] at h
  simp only [VR,AV.jO] at hv ⊢
  obtain⟨vs,rfl,h1⟩:=hv
  exact⟨vs,rfl,ow hw kR cs vs.toList h h1⟩
 | .tup cs,v,h,hv=>by
  simp only [AV.dN] at h
  simp only [VR,AV.jO] at hv ⊢
  obtain⟨vs,rfl,h1⟩:=hv
  exact⟨vs,rfl,ow hw kR cs vs.toList h h1⟩
theorem ow (hw:d.w=c.w)(kR:∀b,RO c L b→RO d L' b):∀(xs:List AV) (vs:List Value),cN xs=true→VRs c L xs vs→VRs d L' (dr xs) vs
 | [],[],_,_=>trivial
 | x::xs,v::vs,h,hv=>by
  simp only [cN,V8] at h
  exact⟨wx hw kR x v h.1 hv.1,ow hw kR xs vs h.2 hv.2⟩
 | [],_::_,_,h=>h.elim
 | _::_,[],_,h=>h.elim
theorem pM (hw:d.w=c.w)(kR:∀b,RO c L b→RO d L' b):∀(xs:List AV) (b o:Nat),cN xs=true→Cells c L xs b o→Cells d L' (dr xs) b o
 | [],_,_,_,_=>trivial
 | x::xs,b,o,h,hv=>by
  simp only [cN,V8] at h
  obtain⟨⟨v,h1,h2,h3⟩,h4⟩:=hv
  exact⟨⟨v,by rw [hw]; exact h1,h2,wx hw kR x v h.1 h3⟩,pM hw kR xs b (o+1) h.2 h4⟩
end
mutual
theorem pN (hw:d.w=c.w)(kR:∀b,RO c L b→RO d L' b)(hrel:HRel c L)(hid:∀id,Live c.h id→RO d L' (c.β id).1):∀(n:Nat) (x y:AV) (v:Value),cd c.h n x=some y→VR c L x v→VR d L' y v
 | 0,x,y,v,h,_=>by simp [cd] at h
 | n+1,x,y,v,h,hv=>by
  have OS:(if x.dN then some x.jO else none)=some y→VR d L' y v:=by
   intro h
   split at h
   ·rename_i hn; cases h; exact wx hw kR x v hn hv
   ·cases h
  cases x with
  | ptr id off=>
   simp only [cd,V4] at h
   obtain⟨ob,ho,h⟩:=h
   cases ob with
   | map es=>cases h
   | row t cs=>cases h
   | cells cs=>
    simp only [V5] at h
    obtain⟨fA,hcs,rfl⟩:=h
    have hl:Live c.h id:=⟨hrel.lt _ _ ho,by simp [ho]⟩
    obtain⟨m,_,_,hc⟩:=hrel.obj _ _ ho
    simp only [VR] at hv ⊢
    obtain⟨_,a,rfl,ha⟩:=hv
    rw [ha hl]
    exact⟨_,_,rfl,.inr ⟨hid id hl,jI hw kR hrel hid n cs fA _ _ hcs hc⟩⟩
  | rs id off len jh=>
   simp only [cd] at h
   split at h
   ·rename_i hid
    split at h
    rotate_left
    ·cases h
    rename_i hl0
    cases h
    simp only [VR] at hv ⊢
    rcases hv with⟨_,_,_,a,rfl⟩| hv
    ·exact⟨a,0,rfl,V7 _,by simp,.inr ⟨trivial,rfl⟩,.inl trivial⟩
    ·exact absurd hid hv.1
   rename_i ls
   rw [V4] at h
   obtain⟨ob,ho,h⟩:=h
   cases ob with
   | map es=>cases h
   | row t cs=>cases h
   | cells cs=>
    simp only at h
    split at h
    rotate_left
    ·cases h
    rename_i hle
    simp only [V5] at h
    obtain⟨fA,hcs,rfl⟩:=h
    have hl:Live c.h id:=⟨hrel.lt _ _ ho,by simp [ho]⟩
    obtain⟨m,_,_,hc⟩:=hrel.obj _ _ ho
    simp only [VR] at hv ⊢
    rcases hv with hv | ⟨_,_,a,cap,rfl,h1,h2,h3⟩
    ·exact absurd hv.1 ls
    refine⟨a,cap,rfl,h1,by simp,.inl h2,?_⟩
    rcases h3 hl with⟨h4,_⟩| h4
    ·exact .inr ⟨_,_,h4,hid id hl,by simp,jI hw kR hrel hid n _ fA _ _ hcs ((hc.drop off).take (len*jh))⟩
    ·left
     have hz:len=0:=by omega
     subst hz
     rw [Nat.zero_mul,List.take_zero] at hcs
     cases n with
     | zero=>simp [bH] at hcs
     | succ n=>simp only [bH,V6] at hcs; exact hcs.symm
  | agg cs=>
   simp only [cd,V5] at h
   obtain⟨fA,hcs,rfl⟩:=h
   simp only [VR] at hv ⊢
   obtain⟨vs,rfl,h1⟩:=hv
   exact⟨vs,rfl,jW hw kR hrel hid n cs fA vs.toList hcs h1⟩
  | tup cs=>
   simp only [cd,V5] at h
   obtain⟨fA,hcs,rfl⟩:=h
   simp only [VR] at hv ⊢
   obtain⟨vs,rfl,h1⟩:=hv
   exact⟨vs,rfl,jW hw kR hrel hid n cs fA vs.toList hcs h1⟩
  | _=>exact OS (by simpa only [cd] using h)
theorem jW (hw:d.w=c.w)(kR:∀b,RO c L b→RO d L' b)(hrel:HRel c L)(hid:∀id,Live c.h id→RO d L' (c.β id).1):∀(n:Nat) (xs ys:List AV) (vs:List Value),bH c.h n xs=some ys→VRs c L xs vs→VRs d L' ys vs
 | 0,xs,ys,vs,h,_=>by simp [bH] at h
 | n+1,[],ys,vs,h,hv=>by
  simp only [bH,V6] at h
  subst h
  cases vs with
  | nil=>trivial
  | cons v vs=>exact hv.elim
 | n+1,x::xs,ys,vs,h,hv=>by
  simp only [bH,V4,V5] at h
  obtain⟨y,hy,zs,hz,rfl⟩:=h
  cases vs with
  | nil=>exact hv.elim
  | cons v vs=>exact⟨pN hw kR hrel hid n x y v hy hv.1,jW hw kR hrel hid n xs zs vs hz hv.2⟩
theorem jI (hw:d.w=c.w)(kR:∀b,RO c L b→RO d L' b)(hrel:HRel c L)(hid:∀id,Live c.h id→RO d L' (c.β id).1):∀(n:Nat) (xs ys:List AV) (b o:Nat),bH c.h n xs=some ys→Cells c L xs b o→Cells d L' ys b o
 | 0,xs,ys,b,o,h,_=>by simp [bH] at h
 | n+1,[],ys,b,o,h,hv=>by
  simp only [bH,V6] at h
  subst h
  trivial
 | n+1,x::xs,ys,b,o,h,hv=>by
  simp only [bH,V4,V5] at h
  obtain⟨y,hy,zs,hz,rfl⟩:=h
  obtain⟨⟨v,h1,h2,h3⟩,h4⟩:=hv
  exact⟨⟨v,by rw [hw]; exact h1,h2,pN hw kR hrel hid n x y v hy h3⟩,jI hw kR hrel hid n xs zs b (o+1) hz h4⟩
end
mutual
theorem nz (hw:d.w=c.w)(hrel:HRel c L)(hid:∀id,Live c.h id→RO d L' (c.β id).1):∀(n:Nat) (x y:AV) (v:Value),fS c.h n x=some y→VR c L x v→VR d L' y v
 | 0,x,y,v,h,_=>by simp [fS] at h
 | n+1,x,y,v,h,hv=>by
  unfold fS at h
  split at h
  ·cases h; exact hv
  ·cases h; exact hv
  ·cases h; exact hv
  ·cases h; exact hv
  ·cases h; exact hv
  ·cases h; exact hv
  ·cases h
   simp only [VR] at hv ⊢
   exact⟨none,0,hv,V7 _,by simp,.inr ⟨trivial,rfl⟩,.inl trivial⟩
  ·cases h
   simp only [VR] at hv ⊢
   obtain⟨a,cap,rfl,h1,h2,hs,_⟩:=hv
   exact⟨a,cap,rfl,h1,by simp,hs,.inl trivial⟩
  ·rename_i id off len jh
   split at h
   ·rename_i ls
    split at h
    rotate_left
    ·cases h
    rename_i hl0
    cases h
    simp only [VR] at hv ⊢
    rcases hv with⟨_,_,_,a,rfl⟩| hv
    ·exact⟨a,0,rfl,V7 _,by simp,.inr ⟨trivial,rfl⟩,.inl trivial⟩
    ·exact absurd ls hv.1
   rename_i ls
   rw [V4] at h
   obtain⟨ob,ho,h⟩:=h
   cases ob with
   | map es=>cases h
   | row t cs=>cases h
   | cells cs=>
    simp only at h
    split at h
    rotate_left
    ·cases h
    rename_i hle
    simp only [V5] at h
    obtain⟨fA,hcs,rfl⟩:=h
    have hl:Live c.h id:=⟨hrel.lt _ _ ho,by simp [ho]⟩
    obtain⟨m,_,_,hc⟩:=hrel.obj _ _ ho
    simp only [VR] at hv ⊢
    rcases hv with hv | ⟨_,_,a,cap,rfl,h1,h2,h3⟩
    ·exact absurd hv.1 ls
    refine⟨a,cap,rfl,h1,by simp,.inl h2,?_⟩
    rcases h3 hl with⟨h4,_⟩| h4
    ·exact .inr ⟨_,_,h4,hid id hl,by simp,lg hw hrel hid n _ fA _ _ hcs ((hc.drop off).take (len*jh))⟩
    ·left
     have hz:len=0:=by omega
     subst hz
     rw [Nat.zero_mul,List.take_zero] at hcs
     cases n with
     | zero=>simp [dh] at hcs
     | succ n=>simp only [dh,V6] at hcs; exact hcs.symm
  ·rename_i cs
   simp only [V5] at h
   obtain⟨fA,hcs,rfl⟩:=h
   simp only [VR] at hv ⊢
   obtain⟨vs,rfl,h1⟩:=hv
   exact⟨vs,rfl,lQ hw hrel hid n cs fA vs.toList hcs h1⟩
  ·rename_i cs
   simp only [V5] at h
   obtain⟨fA,hcs,rfl⟩:=h
   simp only [VR] at hv ⊢
   obtain⟨vs,rfl,h1⟩:=hv
   exact⟨vs,rfl,lQ hw hrel hid n cs fA vs.toList hcs h1⟩
  ·cases h
theorem lQ (hw:d.w=c.w)(hrel:HRel c L)(hid:∀id,Live c.h id→RO d L' (c.β id).1):∀(n:Nat) (xs ys:List AV) (vs:List Value),dh c.h n xs=some ys→VRs c L xs vs→VRs d L' ys vs
 | 0,xs,ys,vs,h,_=>by simp [dh] at h
 | n+1,[],ys,vs,h,hv=>by
  simp only [dh,V6] at h
  subst h
  cases vs with
  | nil=>trivial
  | cons v vs=>exact hv.elim
 | n+1,x::xs,ys,vs,h,hv=>by
  simp only [dh,V4,V5] at h
  obtain⟨y,hy,zs,hz,rfl⟩:=h
  cases vs with
  | nil=>exact hv.elim
  | cons v vs=>exact⟨nz hw hrel hid n x y v hy hv.1,lQ hw hrel hid n xs zs vs hz hv.2⟩
theorem lg (hw:d.w=c.w)(hrel:HRel c L)(hid:∀id,Live c.h id→RO d L' (c.β id).1):∀(n:Nat) (xs ys:List AV) (b o:Nat),dh c.h n xs=some ys→Cells c L xs b o→Cells d L' ys b o
 | 0,xs,ys,b,o,h,_=>by simp [dh] at h
 | n+1,[],ys,b,o,h,hv=>by
  simp only [dh,V6] at h
  subst h
  trivial
 | n+1,x::xs,ys,b,o,h,hv=>by
  simp only [dh,V4,V5] at h
  obtain⟨y,hy,zs,hz,rfl⟩:=h
  obtain⟨⟨v,h1,h2,h3⟩,h4⟩:=hv
  exact⟨⟨v,by rw [hw]; exact h1,h2,nz hw hrel hid n x y v hy h3⟩,lg hw hrel hid n xs zs b (o+1) hz h4⟩
end
end
section
variable {P:Program}
theorem Hn {cf:CallF}(hcf:CallOK P cf)(deep:Nat):CallOK P fun f args h=>if cN args then (cf f (dr args) bM).bind fun x=>(cd x.2 deep x.1).map fun r=>(r,h) else cf f args h:=by
 intro f args h r h' hc
 dsimp only at hc
 split at hc
 rotate_left
 ·exact hcf f args h r h' hc
 rename_i sq
 rw [V4] at hc
 obtain⟨⟨x,h1⟩,hx,hc⟩:=hc
 rw [V5] at hc
 obtain⟨r',hr,he⟩:=hc
 simp only [Wc] at he
 obtain⟨rfl,rfl⟩:=he
 obtain⟨hin,hcall⟩:=hcf f (dr args) bM x h1 hx
 refine⟨hin,fun L0 c vs hh hb0 hrel hargs=>?_⟩
 let L1:Nat→Prop:=fun b=>L0 b∨∃id,Live c.h id∧(c.β id).1=b
 let c0:Cx:=⟨fun _=>(0,0),bM,c.w,c.w.heap.size⟩
 have hnl:∀id,¬Live c0.h id:=fun id hl=>by have:=hl.2; cases this
 have Jv:∀b,RO c L0 b→RO c0 L1 b:=fun b hb=>⟨fun id hl=>absurd hl (hnl id),fun h=>by
  rcases h with h | ⟨id,h1,h2⟩
  ·exact hb.2 h
  ·exact hb.1 id h1 h2⟩
 have Ei:HRel c0 L1:=⟨fun id o ho=>(by cases ho),fun id o ho=>(by cases ho),fun id _ hl _ _=>absurd hl (hnl id),fun id hl=>absurd hl (hnl id),fun b hb=>by
  rcases hb with h | ⟨id,h1,h2⟩
  ·exact hrel.bd b h
  ·rw [←h2]; exact hrel.block h1,fun id hl=>absurd hl (hnl id),fun _=>Nat.zero_lt_one⟩
 refine (hcall L1 c0 vs rfl (V7 _) Ei (ow (c:=c) (d:=c0) rfl Jv _ _ sq hargs)).mono ?_
 rintro e w' ⟨c1,v,rfl,rfl,OU,hv,hrel1,e1⟩
 let d:Cx:=⟨c.β,c.h,c1.w,c.base⟩
 have hk:∀b,b<c.w.heap.size→c1.w.heap[b]? = c.w.heap[b]?:=fun b hb=>e1.exact b hb
 have ed:Ext c none0 d none0:=⟨V7 _,fun id _ hl=>⟨hl,rfl,iv.len (c:=c) (c':=d) (.inl (hk _ (hrel.block hl)))⟩,e1.size,fun b hb _ _=>.inl (hk b hb),fun b hb=>hk b (Ww hb hb0),rfl,fun id hl=>.inr ⟨id,hl,rfl⟩,fun _ h=>h,fun _ h=>.inl h,e1.os,e1.tape,e1.output⟩
 have hb1:d.base≤c1.base:=by rw [e1.base]; exact hb0
 have OV:∀b,RO c1 L1 b→RO d L0 b:=fun b hb=>⟨fun id hl he=>hb.2 (.inr ⟨id,hl,he⟩),fun h=>hb.2 (.inl h)⟩
 refine⟨d,v,rfl,rfl,hh,?_,⟨hrel.lt,fun id o ho=>?_,hrel.inj,hrel.out,fun b hb=>Ww (hrel.bd b hb) e1.size,hrel.low,hrel.ver⟩,ed⟩
 ·refine pN (c:=c1) (d:=d) (L:=L1) rfl OV hrel1 (fun id hl=>⟨fun nV uQ he=>hrel1.out id hl (.inr ⟨nV,uQ,he⟩),fun h=>hrel1.out id hl (.inl h)⟩) deep x r' v ?_ hv
  rw [OU]; exact hr
 ·have hl:Live c.h id:=⟨hrel.lt _ _ ho,by rw [ho]; rfl⟩
  have:=(hrel.obj id o ho)
  have h2:=q8.ext (L0:=L0) ed (b:=(c.β id).1) (base:=(c.β id).2) (o:=o) (by rw [kx]; exact this) (hk _ (hrel.block hl))
  rw [kx] at h2
  exact h2
theorem ox {c:Cx}{L:Nat→Prop}:∀{xs:List AV} {vs:List Value},VRs c L xs vs→VRs c L (xs.map ay) vs
 | [],[],_=>trivial
 | x::_,_::_,h=>⟨by
   unfold ay
   cases hn:x.dN with
   | false=>exact h.1
   | true=>exact wx rfl (fun _ h=>h) x _ hn h.1,ox h.2⟩
 | [],_::_,h=>h.elim
 | _::_,[],h=>h.elim
theorem ya {cf:CallF}(hcf:CallOK P cf):CallOK P fun f args h=>cf f (args.map ay) h:=by
 intro f args h r h' hc
 obtain⟨h1,h2⟩:=hcf f _ h r h' hc
 exact⟨h1,fun L0 c vs hh hb0 hrel hargs=>h2 L0 c vs hh hb0 hrel (ox hargs)⟩
theorem Ho {cf:CallF}(hcf:CallOK P cf)(deep:Nat):CallOK P fun f args h=>(bH h deep args).bind fun as=>(cf f as bM).bind fun x=>(fS x.2 deep x.1).map fun r=>(r,h):=by
 intro f args h r h' hc
 dsimp only at hc
 simp only [V4,V5,Wc] at hc
 obtain⟨as,has,⟨x,h1⟩,hx,r',hr,rfl,rfl⟩:=hc
 obtain⟨hin,hcall⟩:=hcf f as bM x h1 hx
 refine⟨hin,fun L0 c vs hh hb0 hrel hargs=>?_⟩
 let c0:Cx:=⟨fun _=>(0,0),bM,c.w,c.w.heap.size⟩
 have hnl:∀id,¬Live c0.h id:=fun id hl=>by have:=hl.2; cases this
 have Jv:∀b,RO c L0 b→RO c0 L0 b:=fun b hb=>⟨fun id hl=>absurd hl (hnl id),hb.2⟩
 have Ei:HRel c0 L0:=⟨fun id o ho=>(by cases ho),fun id o ho=>(by cases ho),fun id _ hl _ _=>absurd hl (hnl id),fun id hl=>absurd hl (hnl id),hrel.bd,fun id hl=>absurd hl (hnl id),fun _=>Nat.zero_lt_one⟩
 have Jw:VRs c0 L0 as vs:=jW (c:=c) (d:=c0) rfl Jv hrel (fun id hl=>⟨fun nV uQ=>absurd uQ (hnl nV),hrel.out id hl⟩) deep args as vs (by rw [hh]; exact has) hargs
 refine (hcall L0 c0 vs rfl (V7 _) Ei Jw).mono ?_
 rintro e w' ⟨c1,v,rfl,rfl,OU,hv,hrel1,e1⟩
 let d:Cx:=⟨c.β,c.h,c1.w,c.base⟩
 have hk:∀b,b<c.w.heap.size→c1.w.heap[b]? = c.w.heap[b]?:=fun b hb=>e1.exact b hb
 have ed:Ext c none0 d none0:=⟨V7 _,fun id _ hl=>⟨hl,rfl,iv.len (c:=c) (c':=d) (.inl (hk _ (hrel.block hl)))⟩,e1.size,fun b hb _ _=>.inl (hk b hb),fun b hb=>hk b (Ww hb hb0),rfl,fun id hl=>.inr ⟨id,hl,rfl⟩,fun _ h=>h,fun _ h=>.inl h,e1.os,e1.tape,e1.output⟩
 refine⟨d,v,rfl,rfl,hh,?_,⟨hrel.lt,fun id o ho=>?_,hrel.inj,hrel.out,fun b hb=>Ww (hrel.bd b hb) e1.size,hrel.low,hrel.ver⟩,ed⟩
 ·refine nz (c:=c1) (d:=d) (L:=L0) rfl hrel1 (fun id hl=>⟨fun nV uQ he=>?_,hrel1.out id hl⟩) deep x r' v ?_ hv
  ·rcases e1.Im id hl with h2 | ⟨qC,h2,_⟩
   ·have:=hrel.block uQ
    have h3:(c.β nV).1=(c1.β id).1:=he
    have h4:c.w.heap.size≤(c1.β id).1:=h2
    omega
   ·exact absurd h2 (hnl qC)
  ·rw [OU]; exact hr
 ·have hl:Live c.h id:=⟨hrel.lt _ _ ho,by rw [ho]; rfl⟩
  have:=(hrel.obj id o ho)
  have h2:=q8.ext (L0:=L0) ed (b:=(c.β id).1) (base:=(c.β id).2) (o:=o) (by rw [kx]; exact this) (hk _ (hrel.block hl))
  rw [kx] at h2
  exact h2
theorem kS {T:nU}(qN:IntrOK P T.intr)(m:Nat):∀k,SteadyF (eM P T m k)
 | 0=>fun f args h r h' hc=>by simp [eM] at hc
 | k+1=>fun f args h r h' hc=>by
  have hb:=wc (P:=P) (aV:=T.aV) (m:=m) (kS qN m k)
  simp only [eM] at hc
  split at hc
  ·rename_i g hg
   exact (qN f g hg).2 _ _ _ _ hc
  ·split at hc
   ·split at hc
    ·rw [V4] at hc
     obtain⟨x,_,hc⟩:=hc
     obtain⟨r',_,h2⟩:=Option.map_some' hc
     cases h2
     exact Steady.refl _
    ·split at hc
     ·rw [V4] at hc
      obtain⟨x,_,hc⟩:=hc
      obtain⟨r',_,h2⟩:=Option.map_some' hc
      cases h2
      exact Steady.refl _
     ·exact hb _ _ _ _ _ hc
   ·exact hb _ _ _ _ _ hc
theorem sH (hP:Fit P){T:nU}(qN:IntrOK P T.intr)(m:Nat):∀k,CallOK P (eM P T m k)
 | 0=>fun f args h r h' hc=>by simp [eM] at hc
 | k+1=>fun f args h r h' hc=>by
  have ih:=sH hP qN m k
  have hb:=D9 hP (aV:=T.aV) ih (Eg hP.mixed ih (kS qN m k)) m
  simp only [eM] at hc
  split at hc
  ·rename_i g hg
   exact (qN f g hg).1 f args h r h' (by simpa using hc)
  ·split at hc
   ·rename_i deep _
    by_cases sq:cN args=true
    ·exact Hn hb deep f args h r h' (by dsimp only; rw [if_pos sq] at hc ⊢; exact hc)
    ·rw [if_neg sq] at hc
     split at hc
     ·rename_i as has
      refine Ho hb deep f args h r h' ?_
      dsimp only
      rw [has]
      exact hc
     ·exact ya hb f args h r h' hc
   ·exact ya hb f args h r h' hc
def L8 (P : Program) : Bool := P.funcs.toList.all fun fn => fn.name != "runtime.NumGoroutine" && match fn.body with | some c => jV fn.ntmps c | none => true
theorem Jx (h1:P.follows .mixedOrders=true)(h2:L8 P=true):Fit P:=by
 refine⟨h1,fun f fn c hf hb=>?_⟩
 unfold L8 at h2
 rw [Ws] at h2
 have:=h2 fn (W3.2 (Array.mem_of_getElem? hf))
 rw [hb] at this
 simp only [V8,bne_iff_ne,ne_eq] at this
 exact⟨this.2,this.1⟩
theorem CL:IntrOK P fun _=>none:=fun f g h=>by cases h
end
end Go.R
namespace Go.R
open Go
def zZ (P:Program)(F:TypeId→List AV→Prop):List Field→List AV→Prop
 | [],xs=>xs=[]
 | f::fs,xs=>∃a b,xs=a++b∧a.length=P.cellsOf f.type∧F f.type a∧zZ P F fs b
def Fits (P:Program):Nat→TypeId→List AV→Prop
 | 0,_,_=>False
 | n+1,t,xs=>
  match P.underlying t with
  | some .bool=>∃b,xs=[.bool b]
  | some (.int k)=>∃z,xs=[.int k z]∧k.min≤z∧z≤k.max
  | some .string=>∃s:ByteArray,xs=[.str s]∧s.size≤maxLen
  | some (.slice e)=>xs=[.nils]∨∃els:List (List AV),xs=[.fz els.flatten els.length false]∧els.length≤maxLen∧∀el∈els,el.length=P.cellsOf e∧Fits P n e el
  | some (.struct fs)=>zZ P (Fits P n) fs.toList xs
  | _=>False
def rQ (P:Program):Nat→List Field→Bool
 | _,[]=>true
 | k,f::fs=>WM f.offset k&&rQ P (k+P.cellsOf f.type) fs
def lR (P:Program):Nat→TypeId→Bool
 | 0,_=>false
 | n+1,t=>
  match P.underlying t with
  | some .bool | some (.int _) | some .string=>true
  | some (.slice e)=>lR P n e
  | some (.struct fs)=>rQ P 0 fs.toList&&WM (P.cellsOf t) ((fs.toList.map fun f=>P.cellsOf f.type).sum)&&fs.toList.all fun f=>lR P n f.type
  | _=>false
theorem mapM_some {α β:Type}{f:α→Option β}:∀{l:List α} {ys:List β},l.mapM f=some ys→ys.length=l.length∧∀(i:Nat) (x:α),l[i]? = some x→∃y,ys[i]? = some y∧f x=some y
 | [],ys,h=>by
  simp at h; subst h
  exact⟨rfl,fun i x hx=>by simp at hx⟩
 | a::l,ys,h=>by
  simp only [List.mapM_cons,Option.bind_eq_bind,V4,Option.pure_def,V6] at h
  obtain⟨y,hy,zs,hz,rfl⟩:=h
  obtain⟨h1,h2⟩:=mapM_some hz
  refine⟨by simp [h1],fun i x hx=>?_⟩
  cases i with
  | zero=>simp at hx; subst hx; exact⟨y,rfl,hy⟩
  | succ i=>simpa using h2 i x (by simpa using hx)
theorem z6 {w:World}{a:Addr}{v:Value}(h:w.cell? a=some v):w.cell? ⟨a.block,a.off,none⟩=some v∧a.spot=none:=by
 unfold World.cell? at h ⊢
 split at h
 ·rename_i c t fr hb
  rw [hb]
  simp only at h ⊢
  cases hs:a.spot with
  | none=>rw [hs] at h; exact⟨by simpa using h,rfl⟩
  | some _=>rw [hs] at h; simp at h
 ·cases h
theorem mu (a:Addr)(n:Nat):(a.add n).block=a.block∧(a.add n).off=a.off+n:=by
 unfold Addr.add
 split
 ·rename_i h; subst h; exact⟨rfl,rfl⟩
 ·exact⟨rfl,rfl⟩
theorem yb {w:World}{base:Nat}{a:Addr}{n:Nat}{cs:List Value}(h:w.cells? base a n=some cs):cs.length=n∧∀i,i<n→w.cell? ⟨a.block,a.off+i,none⟩=cs[i]?∧(i=0→a.spot=none):=by
 unfold World.cells? at h
 split at h
 ·obtain⟨h1,h2⟩:=mapM_some h
  refine⟨by simpa using h1,fun i hi=>?_⟩
  obtain⟨y,hy,hc⟩:=h2 i i (by simp [hi])
  obtain⟨h3,h4⟩:=z6 hc
  rw [(mu a i).1,(mu a i).2] at h3
  refine⟨by rw [h3,hy],fun h0=>?_⟩
  subst h0
  simpa [Addr.add] using h4
 ·cases h
theorem qO {α:Type}{Q:Nat→α→Prop}:∀n,(∀i,i<n→∃x,Q i x)→∃l:List α,l.length=n∧∀i x,l[i]? = some x→Q i x
 | 0,_=>⟨[],rfl,fun i x h=>by simp at h⟩
 | n+1,h=>by
  obtain⟨l,h1,h2⟩:=qO n fun i hi=>h i (by omega)
  obtain⟨x,hx⟩:=h n (by omega)
  refine⟨l++[x],by simp [h1],fun i y hy=>?_⟩
  by_cases hi:i<n
  ·exact h2 i y (by rwa [WC (by omega)] at hy)
  ·rw [Wq (by omega)] at hy
   have:i=n:=by
    have:=(Wb.1 hy).1
    simp at this; omega
   subst this
   simp [h1] at hy
   subst hy; exact hx
theorem Cells.append {c:Cx}{L:Nat→Prop}:∀{xs ys:List AV} {b o:Nat},Cells c L xs b o→Cells c L ys b (o+xs.length)→Cells c L (xs++ys) b o
 | [],ys,b,o,_,h=>by simpa using h
 | x::xs,ys,b,o,h,k=>⟨h.1,Cells.append h.2 (by simpa [WR,Nat.add_comm 1] using k)⟩
theorem Cells.flatten {c:Cx}{L:Nat→Prop}{b size:Nat}:∀(els:List (List AV)) (o:Nat),(∀i el,els[i]? = some el→el.length=size∧Cells c L el b (o+i*size))→Cells c L els.flatten b o
 | [],o,_=>trivial
 | el::els,o,h=>by
  obtain⟨h1,h2⟩:=h 0 el rfl
  rw [List.flatten_cons]
  refine Cells.append (by simpa using h2) (Cells.flatten (size:=size) els _ fun i T8 he=>?_)
  obtain⟨h3,h4⟩:=h (i+1) T8 (by simpa using he)
  refine⟨h3,?_⟩
  rw [h1]
  rwa [show o+size+i*size=o+(i+1)*size by rw [Xf,Nat.one_mul]; omega]
section
variable {H:Type}{enc:TypeId × Value→H}{P:Program}{c:Cx}{sp:Nat→Bool}{held:Bool}
theorem qP {F:TypeId→List AV→Prop}{g:TypeId→List Value→Option (DataW H × List MemPlace)}(hg:∀t cs x,g t cs=some x→cs.length=P.cellsOf t→(∃u:Nat,u=0)→True) :
  ∀(fs:List Field) (k:Nat) (cs:List Value) (xs:List (DataW H × List MemPlace)),rQ P k fs=true→(∀f∈fs,∀cs x,g f.type cs=some x→cs.length=P.cellsOf f.type→∃ys,VRs c none0 ys cs∧F f.type ys∧∀v∈cs,v.oneCell'=true)→
   (fs.mapM fun f=>g f.type ((cs.drop f.offset).take (P.cellsOf f.type)))=some xs→k+(fs.map fun f=>P.cellsOf f.type).sum≤cs.length→
   ∃ys,VRs c none0 ys ((cs.drop k).take ((fs.map fun f=>P.cellsOf f.type).sum))∧zZ P F fs ys∧∀v∈(cs.drop k).take ((fs.map fun f=>P.cellsOf f.type).sum),v.oneCell'=true
 | [],k,cs,xs,_,_,_,_=>⟨[],by simp [VRs],rfl,by simp⟩
 | f::fs,k,cs,xs,hc,hF,h,hl=>by
  simp only [rQ,V8,beq_nat,decide_eq_true_eq] at hc
  obtain⟨rfl,hc⟩:=hc
  simp only [List.mapM_cons,Option.bind_eq_bind,V4,Option.pure_def,V6] at h
  obtain⟨y,hy,zs,hz,rfl⟩:=h
  simp only [Wo,List.sum_cons] at hl ⊢
  have hlen:((cs.drop f.offset).take (P.cellsOf f.type)).length=P.cellsOf f.type:=by simp; omega
  obtain⟨a,ha,T9,h1⟩:=hF f (by simp) _ _ hy hlen
  obtain⟨b,hb,Ua,h2⟩:=qP hg fs (f.offset+P.cellsOf f.type) cs zs hc (fun f' LR=>hF f' (by simp [LR])) hz (by omega)
  have Jy:(cs.drop f.offset).take (P.cellsOf f.type+(fs.map fun f=>P.cellsOf f.type).sum)=(cs.drop f.offset).take (P.cellsOf f.type)++((cs.drop (f.offset+P.cellsOf f.type)).take ((fs.map fun f=>P.cellsOf f.type).sum)):=by
   rw [List.take_add,List.drop_drop]
  rw [Jy]
  refine⟨a++b,VRs.append ha hb,⟨a,b,rfl,?_,T9,Ua⟩,fun v hv=>?_⟩
  ·rw [ha.length,hlen]
  ·rcases Wk.1 hv with hv | hv
   ·exact h1 v hv
   ·exact h2 v hv
theorem pO (sq:∀id,c.h.get id=none):∀(m:Nat) (t:TypeId) (fuel:Nat) (cs:List Value) (d:DataW H) (ps:List MemPlace),lR P m t=true→DataW.trod enc P c.w 0 sp held fuel t cs=some (d,ps)→
  ∃xs,VRs c none0 xs cs∧Fits P m t xs∧∀v∈cs,v.oneCell'=true
 | 0,_,_,_,_,_,hB,_=>by simp [lR] at hB
 | m+1,t,0,cs,d,ps,hB,h=>by simp [DataW.trod] at h
 | m+1,t,fuel+1,cs,d,ps,hB,h=>by
  have hnl:∀id,¬Live c.h id:=fun id hl=>by have:=hl.2; rw [sq id] at this; cases this
  unfold lR at hB
  unfold Fits
  cases hu:P.underlying t with
  | none=>rw [hu] at hB; cases hB
  | some td=>
  rw [hu] at hB
  cases td<;>simp only at hB ⊢<;>try (cases hB; done)
  ·
   unfold DataW.trod at h
   rw [hu] at h
   split at h<;>first | (rename_i heq; cases heq; done) | skip
   all_goals try (rename_i heq _; cases heq; done)
   all_goals (first | (cases h; done) | skip)
   ·rename_i b _
    exact⟨[.bool b],⟨by simp [VR],trivial⟩,⟨b,rfl⟩,by simp [Value.oneCell']⟩
  ·rename_i k
   unfold DataW.trod at h
   rw [hu] at h
   split at h<;>first | (rename_i heq; cases heq; done) | skip
   all_goals try (rename_i heq _; cases heq; done)
   ·rename_i k' k2 n heq
    cases heq
    split at h
    ·rename_i hk
     obtain⟨rfl,NU⟩:=hk
     simp only [Lit.wf,V8,decide_eq_true_eq] at NU
     exact⟨[.int k2 n],⟨by simp [VR],trivial⟩,⟨n,rfl,NU⟩,by simp [Value.oneCell']⟩
    ·cases h
   ·cases h
  ·
   unfold DataW.trod at h
   rw [hu] at h
   split at h<;>first | (rename_i heq; cases heq; done) | skip
   all_goals try (rename_i heq _; cases heq; done)
   ·rename_i s _
    split at h
    ·rename_i hs
     exact⟨[.str s],⟨by simp [VR],trivial⟩,⟨s,rfl,hs⟩,by simp [Value.oneCell']⟩
    ·cases h
   ·cases h
  ·
   rename_i e
   unfold DataW.trod at h
   rw [hu] at h
   split at h<;>first | (rename_i heq; cases heq; done) | skip
   all_goals try (rename_i heq _; cases heq; done)
   ·exact⟨[.nils],⟨by simp [VR],trivial⟩,.inl rfl,by simp [Value.oneCell']⟩
   ·rename_i e' a len cap heq
    cases heq
    simp only at h
    split at h
    rotate_left
    ·cases h
    rename_i hbound
    obtain⟨_,hlc,hcap⟩:=hbound
    rw [V4] at h
    obtain⟨elems,L9,_⟩:=h
    obtain⟨hn,hget⟩:=mapM_some L9
    have key:∀i,i<len→∃el:List AV,el.length=P.cellsOf e∧Fits P m e el∧Cells c none0 el a.block (a.off+i*P.cellsOf e)∧(i=0→0<P.cellsOf e→a.spot=none):=by
     intro i hi
     obtain⟨y,_,hy⟩:=hget i i (by simp [hi])
     rw [V4] at hy
     obtain⟨Ub,hcs,hy⟩:=hy
     obtain⟨hl,mR⟩:=yb hcs
     obtain⟨el,hv,hf,h1⟩:=pO sq m e fuel Ub y.1 y.2 hB hy
     refine⟨el,by rw [hv.length,hl],hf,Cells.of_vals hv (fun j hj=>?_) h1,fun h0 ja=>?_⟩
     ·have:=(mR j (by omega)).1
      rwa [(mu a _).1,(mu a _).2] at this
     ·subst h0
      have:=(mR 0 ja).2 rfl
      simpa [Addr.add] using this
    obtain⟨els,hl,CM⟩:=qO len key
    refine⟨[.fz els.flatten els.length false],⟨?_,trivial⟩,.inr ⟨els,rfl,by omega,fun el L9=>?_⟩,by simp [Value.oneCell']⟩
    ·simp only [VR]
     refine⟨some a,cap,by rw [hl],by omega,by simp,.inl rfl,?_⟩
     by_cases Jz:els.flatten=[]
     ·exact .inl Jz
     ·have ja:0<len∧0<P.cellsOf e:=by
       cases els with
       | nil=>simp at Jz
       | cons el els=>
        refine⟨by simp at hl; omega,?_⟩
        rcases Nat.eq_zero_or_pos (P.cellsOf e) with h0 | h0
        ·exfalso
         apply Jz
         rw [List.flatten_eq_nil_iff]
         intro l uQ
         obtain⟨i,hi⟩:=List.getElem?_of_mem uQ
         have:=(CM i l hi).1
         exact WS (by omega)
        ·exact h0
      have Iy:a.spot=none:=by
       cases els with
       | nil=>simp at hl; omega
       | cons el els=>exact (CM 0 el rfl).2.2.2 rfl ja.2
      refine .inr ⟨a.block,a.off,?_,⟨fun id hl=>absurd hl (hnl id),fun h=>h.elim⟩,by simp,Cells.flatten els a.off fun i el hi=>⟨(CM i el hi).1,(CM i el hi).2.2.1⟩⟩
      cases a; simp at Iy; subst Iy; rfl
    ·obtain⟨i,hi⟩:=List.getElem?_of_mem L9
     exact⟨(CM i el hi).1,(CM i el hi).2.1⟩
   ·cases h
  ·
   rename_i fs
   simp only [V8,beq_nat,decide_eq_true_eq,Ws] at hB
   obtain⟨⟨OW,JA⟩,Ma⟩:=hB
   simp only [DataW.trod,hu] at h
   split at h
   rotate_left
   ·cases h
   rename_i hlen
   rw [V5] at h
   obtain⟨xs,hx,_⟩:=h
   obtain⟨ys,h1,h2,h3⟩:=qP (P:=P) (c:=c) (F:=Fits P m) (g:=fun t cs=>DataW.trod enc P c.w 0 sp held fuel t cs) (fun _ _ _ _ _ _=>trivial) fs.toList 0 cs xs OW
    (fun f hf cs x hx _=>pO sq m f.type fuel cs x.1 x.2 (Ma f hf) hx) hx (by omega)
   have ku:(cs.drop 0).take ((fs.toList.map fun f=>P.cellsOf f.type).sum)=cs:=by
    rw [WK,←JA,←hlen,W9]
   rw [ku] at h1 h3
   exact⟨ys,h1,h2,h3⟩
def oy (P:Program)(t:TypeId)(xs:List AV):AV:=
 match P.underlying t with
 | some (.struct _)=>.agg xs
 | _=>xs.headD .any
def oz (P:Program)(m:Nat):List TypeId→List AV→Prop
 | [],[]=>True
 | t::ts,x::ur=>(∃xs,x=oy P t xs∧Fits P m t xs)∧oz P m ts ur
 | _,_=>False
theorem CN {w:World}{m:Nat}{t:TypeId}{v:Value}{base:Nat}(hB:lR P m t=true)(hs:∀fs,P.underlying t≠some (.struct fs))(h:Value.okWide P w .any base t v):v.cells.toList=[v]:=by
 cases m with
 | zero=>simp [lR] at hB
 | succ m=>
 unfold lR at hB
 unfold Value.okWide at h
 cases hu:P.underlying t with
 | none=>rw [hu] at hB; cases hB
 | some td=>
 rw [hu] at hB h
 cases td<;>simp only at hB h<;>first
  | (cases hB; done)
  | (exact absurd hu (hs _))
  | (cases v<;>simp only [Cell.okWide,Cell.ok,hu] at h<;>first | (exact h.elim) | rfl | (simp [Value.cells]))
theorem Ej (sq:∀id,c.h.get id=none){m:Nat}{t:TypeId}{v:Value}{d:DataW H}{ps:List MemPlace}{base:Nat}(hB:lR P m t=true)(ho:Value.okWide P c.w .any base t v)(h:DataW.Trod enc P c.w 0 sp held t v d ps) :
  ∃xs,Fits P m t xs∧VR c none0 (oy P t xs) v:=by
 obtain⟨fuel,h⟩:=h
 obtain⟨xs,h1,h2,_⟩:=pO sq m t fuel _ d ps hB h
 refine⟨xs,h2,?_⟩
 by_cases hs:∃fs,P.underlying t=some (.struct fs)
 ·obtain⟨fs,hs⟩:=hs
  unfold Value.okWide at ho
  rw [hs] at ho
  obtain⟨cs,rfl,_⟩:=ho
  unfold oy
  rw [hs]
  simp only [VR]
  exact⟨cs,rfl,h1⟩
 ·have KW:∀fs,P.underlying t≠some (.struct fs):=fun fs h=>hs ⟨fs,h⟩
  have hc:=CN hB KW ho
  rw [hc] at h1
  have hx:oy P t xs=xs.headD .any:=by
   unfold oy
   split
   ·rename_i fs h; exact absurd h (KW fs)
   ·rfl
  rw [hx]
  cases xs with
  | nil=>exact h1.elim
  | cons x xs=>exact h1.1
theorem yc (sq:∀id,c.h.get id=none){m base:Nat}:∀(ts:List TypeId) (vs:List Value) (ds:List (DataW H)) (ps:List MemPlace),(∀t∈ts,lR P m t=true)→(∀(j:Nat) t v,ts[j]? = some t→vs[j]? = some v→Value.okWide P c.w .any base t v)→
  DataW.TrodAll enc P c.w 0 sp held ts vs ds ps→∃ur,oz P m ts ur∧VRs c none0 ur vs
 | [],[],[],_,_,_,_=>⟨[],trivial,trivial⟩
 | t::ts,v::vs,d::ds,ps,hB,ho,h=>by
  obtain⟨p,q,h1,h2,_⟩:=h
  obtain⟨xs,h3,h4⟩:=Ej sq (hB t (by simp)) (ho 0 t v rfl rfl) h1
  obtain⟨ur,h5,h6⟩:=yc sq ts vs ds q (fun t ht=>hB t (by simp [ht])) (fun j t v hj hv=>ho (j+1) t v (by simpa using hj) (by simpa using hv)) h2
  exact⟨oy P t xs::ur,⟨⟨xs,rfl,h3⟩,h5⟩,h4,h6⟩
 | [],[],_::_,_,_,_,h=>h.elim
 | [],_::_,_,_,_,_,h=>by cases h
 | _::_,[],_,_,_,_,h=>by cases h
 | _::_,_::_,[],_,_,_,h=>by cases h
theorem ka (hl:laidOutB P=true){W W':World}{RD:Nat→Bool}:∀{ts:List TypeId} {vs:List Value} {ds:List (DataW H)} {ps:List MemPlace},(∀t∈ts,P.readableRec t=true∧t<P.types.size)→
  DataW.TrodAll enc P W 0 (fun _=>true) true ts vs ds ps→(∀p∈ps,W.sameAt W' p)→(∀p∈ps,RD p.block=true)→DataW.TrodAll enc P W' 0 RD true ts vs ds ps
 | [],[],[],_,_,h,_,_=>h
 | t::ts,v::vs,d::ds,ps,hr,h,hs,hp=>by
  obtain⟨p,q,h1,h2,rfl⟩:=h
  exact⟨p,q,WideElems.Trod_stays hl (hr t (by simp)).1 (hr t (by simp)).2 h1 (fun x hx=>hs x (by simp [hx])) (fun x hx=>hp x (by simp [hx])),
   ka hl (fun t ht=>hr t (by simp [ht])) h2 (fun x hx=>hs x (by simp [hx])) (fun x hx=>hp x (by simp [hx])),rfl⟩
 | [],[],_::_,_,_,h,_,_=>h.elim
 | [],_::_,_,_,_,h,_,_=>by cases h
 | _::_,[],_,_,_,h,_,_=>by cases h
 | _::_,_::_,[],_,_,h,_,_=>by cases h
theorem CO {f:Func}{s:ChangeSpec}{apart fresh handsOn again:Bool}{W W':World}{args:Array Value}{ds gs:List (DataW H)}{before:List MemPlace}{tb:TypeId}
  (hl:laidOutB P=true) (hr:∀t∈f.params.toList,P.readableRec t=true∧t<P.types.size) (hW:DataW.Whole enc P f.params.toList s.vars apart W args.toList ds gs before) (hv:s.vars=[])
  (Ek:f.resultTypes = #[tb]) (NV:P.underlying tb=some .bool) (JB:(s.fn H (ds++gs))={results:=[.lit (.bool true)],args:=ds}) (hb:RowKit.Below W.heap.size W W') :
  s.post enc P f apart fresh handsOn again W args (.bool true) W':=by
 have hlt:=hW.lt
 have hW0:=hW
 obtain⟨p,q,hA,hV,RE,hz,hn⟩:=hW
 rw [hv] at hV
 have OX:gs=[]∧q=[]:=by
  cases gs with
  | nil=>exact⟨rfl,hV⟩
  | cons g gs=>exact hV.elim
 obtain⟨rfl,rfl⟩:=OX
 have OY:before=p:=by simpa using RE
 subst OY
 have Iz:∀x∈before,W.sameAt W' x:=fun x hx=>hb.same (hlt x hx)
 have Mb:(Value.bool true).resultList f.resultTypes.size=[.bool true]:=by rw [Ek]; rfl
 have IA:∀(b:Nat) (sp:Nat→Bool) (hd:Bool),DataW.TrodAll enc P W' b sp hd f.resultTypes.toList ((Value.bool true).resultList f.resultTypes.size) [.lit (.bool true)] []:=by
  intro b sp hd
  rw [Mb,Ek]
  exact ChangeShapes.trodAll_mk1 (RowKit.shut_bool NV true)
 refine⟨ds,[],before,[],before,[],hW0,?_,?_,?_,?_,fun _=>⟨?_,?_⟩⟩
 ·rw [JB]; exact IA _ _ _
 ·rw [JB]
  exact ka hl hr hA Iz (fun x hx=>by simpa using hlt x hx)
 ·rw [JB,hv]; rfl
 ·exact hb.frame _
 ·exact RowKit.ok_one Ek rfl (RowKit.okWide_bool_mk NV true)
 ·refine⟨_,[],before,⟨[]++before,[],ChangeShapes.trodAll_append (ka hl hr hA Iz (fun _ _=>rfl)) (IA 0 _ _),by rw [hv]; rfl,by simp,fun b off hx=>?_,hn⟩,fun p hp _=>hp⟩
  rw [hb.frozen (p:=⟨b,off,none⟩) (hlt _ hx)]
  exact hz b off hx
theorem Ext.below {c c':Cx}(e:Ext c none0 c' none0):RowKit.Below c.base c.w c'.w:=⟨e.os,e.tape,e.output,e.size,fun b hb=>e.exact b hb⟩
theorem uu {cf:CallF}{zT:FuncId}{f:Func}{s:ChangeSpec}{apart fresh handsOn again:Bool}{m:Nat}{tb:TypeId}
  (hl:laidOutB P=true) (hr:∀t∈f.params.toList,P.readableRec t=true∧t<P.types.size) (hB:∀t∈f.params.toList,lR P m t=true) (hv:s.vars=[]) (Ek:f.resultTypes = #[tb]) (NV:P.underlying tb=some .bool)
  (JB:∀ds:List (DataW H),ds.length=f.params.size→(s.fn H ds)={results:=[.lit (.bool true)],args:=ds})
  (hcf:∀ur,oz P m f.params.toList ur→∃cf h',CallOK P cf∧cf zT ur bM=some (.bool true,h'))
  {W:World} {base:Nat} {args:Array Value} {ds gs:List (DataW H)} {before:List MemPlace} (dy:∀(j:Nat) t v,f.params[j]? = some t→args[j]? = some v→Value.okWide P W .any base t v)
  (hW:DataW.Whole enc P f.params.toList s.vars apart W args.toList ds gs before) :
  Calls P zT args W fun e W'=>∃v,e = .returned v∧s.post enc P f apart fresh handsOn again W args v W':=by
 have hW0:=hW
 obtain⟨p,q,hA,hV,RE,_,_⟩:=hW
 let c:Cx:=⟨fun _=>(0,0),bM,W,W.heap.size⟩
 obtain⟨ur,h1,h2⟩:=yc (c:=c) (P:=P) (m:=m) (base:=base) (fun _=>rfl) f.params.toList args.toList ds p hB (fun j t v hj hv=>dy j t v (by simpa using hj) (by simpa using hv)) hA
 obtain⟨cf,h',nW,OZ⟩:=hcf ur h1
 have hnl:∀id,¬Live c.h id:=fun id hl=>by have:=hl.2; cases this
 have hcall:=(nW zT ur bM _ _ OZ).2 none0 c args.toList rfl (V7 _) ⟨fun id o ho=>(by cases ho),fun id o ho=>(by cases ho),fun id _ hl _ _=>absurd hl (hnl id),fun id hl=>absurd hl (hnl id),fun b hb=>hb.elim,fun id hl=>absurd hl (hnl id),fun _=>Nat.zero_lt_one⟩ h2
 rw [Array.toArray_toList] at hcall
 have hlen:∀(ts:List TypeId) (vs:List Value) (ds:List (DataW H)) (p:List MemPlace),DataW.TrodAll enc P W 0 (fun _=>true) true ts vs ds p→ds.length=ts.length:=by
  intro ts
  induction ts with
  | nil=>intro vs ds p h; cases vs<;>cases ds<;>first | rfl | (cases h; done) | exact h.elim
  | cons t ts ih=>intro vs ds p h; cases vs<;>cases ds<;>first | (cases h; done) | (obtain⟨_,_,_,h2,_⟩:=h; simp [ih _ _ _ h2])
 have OX:gs=[]:=by
  rw [hv] at hV
  cases gs with
  | nil=>rfl
  | cons g gs=>exact hV.elim
 refine hcall.mono ?_
 rintro e w' ⟨c',v,rfl,rfl,hh,A7,hrel,Jg⟩
 simp only [VR] at A7
 subst A7
 refine⟨_,rfl,CO hl hr hW0 hv Ek NV ?_ Jg.below⟩
 rw [OX,Xd]
 exact JB ds (by rw [hlen _ _ _ _ hA]; simp)
end
end Go.R
namespace Go.R
open Go
section
variable {P:Program}{cf:CallF}{aD ds:List Nat}{s:RS}{d:Option Tmp}{t:TypeId}{p:String}{a:Array Edge}{g:Option (Nat × Bool)}{ops:List Oper}{ρ:Nat→AV}{bx:Nat→Option (List AV)}{h:AHeap}
variable {A:cb}{m:Nat}{st:St}
end
end Go.R
namespace Go.R
open Go
def sub:List Nat→Code→Code
 | [],c=>c
 | 0::p,.seq a _=>sub p a
 | _::p,.seq _ b=>sub p b
 | 0::p,.cond _ a _=>sub p a
 | _::p,.cond _ _ b=>sub p b
 | _::p,.block _ a=>sub p a
 | _::p,.loop a=>sub p a
 | _,c=>c
def codeOf (f:Func):Code:=f.body.getD .skip
end Go.R
