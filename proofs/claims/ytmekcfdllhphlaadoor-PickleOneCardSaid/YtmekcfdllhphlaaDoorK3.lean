/- Part of the proof: RSteady, RDraw, RPure, RRow, RStep, RWalk. -/
import Derived.Test.YtmekcfdllhphlaaDoorK2
import Derived.StillTail
import Derived.ProofKit
set_option linter.unusedVariables false
set_option linter.unusedSimpArgs false
set_option maxRecDepth 100000
open Array renaming getElem?_eq_some_iff → Xt, mem_toList_iff → XP
open Bool renaming and_eq_true → WV, false_eq_true → W9, or_eq_true → XG, not_eq_true' → Yc
open List renaming getElem?_eq_some_iff → WZ, mem_append → W8, getElem?_eq_none → Xa, mem_map → Xd, map_cons → Xe, getElem?_append_right → Xg, all_eq_true → Xi, drop_zero → Xr, getElem?_append_left → Xu, getElem?_cons_zero → Xz, eq_nil_of_length_eq_zero → XF, map_congr_left → XV, append_nil → XW, take_length → XX, mem_filter → Yk
open Nat renaming le_refl → WU, zero_add → Xh, lt_of_lt_of_le → Xl, beq → XB, le_trans → XD, add_assoc → XE, add_mul → X0, eq_of_beq_eq_true → X8, min_eq_left → Yr
open Ne renaming symm → X9
open Option renaming bind_some → WQ, bind_eq_some_iff → WR, map_eq_some_iff → WS, map_some → WW, getD_some → XQ
open Option.some renaming injEq → WT, inj → Xn
open Prod.mk renaming injEq → W2
namespace Go.R
open Go
def SteadyF (cf:CallF):Prop:=∀f args h r h',cf f args h=some (r,h')→Steady h h'
section
variable {P:Program}{cf:CallF}{aF ds:List Nat}{o:Oper}{s s':RS}
theorem sR {h h':AHeap}{t t2:TypeId}{x y z:AV}(hh:gM P h t t2 x y=some (z,h')):Steady h h':=by
 unfold gM at hh
 rw [WR] at hh
 obtain⟨d,_,hh⟩:=hh
 cases d<;>simp only at hh<;>try (cases hh; done)
 rw [WR] at hh
 obtain⟨i,_,hh⟩:=hh
 rw [WR] at hh
 obtain⟨⟨new,m⟩,_,hh⟩:=hh
 simp only at hh
 split at hh
 ·cases hh
 split at hh
 ·split at hh
  ·cases hh
  ·split at hh<;>cases hh
   ·exact Steady.refl _
   ·exact Steady.put _ _ _
 ·split at hh
  ·cases hh
  ·split at hh
   ·split at hh<;>cases hh<;>exact Steady.refl _
   ·cases hh; exact Steady.put _ _ _
 ·split at hh
  ·split at hh
   ·cases hh
   ·split at hh<;>cases hh
    ·exact Steady.refl _
    ·exact Steady.put _ _ _
  rw [WR] at hh
  obtain⟨ob,_,hh⟩:=hh
  cases ob with
  | map es=>cases hh
  | row t cs=>cases hh
  | cells cs=>
   simp only at hh
   split at hh
   ·cases hh
   ·split at hh<;>cases hh
    ·exact Steady.refl _
    ·exact (Steady.kill _ _).trans (Steady.put _ _ _)
 ·cases hh
theorem wz {h h':AHeap}{t t2:TypeId}{x y z:AV}(hh:u4 P h t t2 x y=some (z,h')):Steady h h':=by
 unfold u4 at hh
 rw [WR] at hh
 obtain⟨d,_,hh⟩:=hh
 cases d<;>simp only at hh<;>try (cases hh; done)
 rw [WR] at hh
 obtain⟨i,_,hh⟩:=hh
 rw [WR] at hh
 obtain⟨⟨new,m⟩,_,hh⟩:=hh
 simp only at hh
 split at hh
 ·cases hh
 split at hh
 ·split at hh
  ·split at hh<;>cases hh
   exact Steady.refl _
  rw [WR] at hh
  obtain⟨ob,_,hh⟩:=hh
  cases ob with
  | map es=>cases hh
  | row t cs=>cases hh
  | cells cs=>
   simp only at hh
   split at hh<;>cases hh
   exact Steady.put _ _ _
 ·split at hh<;>cases hh
  exact Steady.refl _
 ·cases hh
theorem uJ {h h':AHeap}{t:TypeId}{x:AV}(hh:ss P h t x=some h'):Steady h h':=by
 unfold ss at hh
 rw [WR] at hh
 obtain⟨d,_,hh⟩:=hh
 cases x<;>simp only at hh<;>try (cases hh; done)
 ·cases hh; exact Steady.refl _
 ·rw [WR] at hh
  obtain⟨ob,_,hh⟩:=hh
  cases ob with
  | cells cs=>cases hh
  | row t cs=>cases hh
  | map es=>cases hh; exact Steady.put _ _ _
theorem mc {h h':AHeap}{t:TypeId}{x y z:AV}(hh:iF P h t x y z=some h'):Steady h h':=by
 unfold iF at hh
 rw [WR] at hh
 obtain⟨d,_,hh⟩:=hh
 cases d<;>simp only at hh<;>try (cases hh; done)
 split at hh
 ·cases hh
 cases x<;>simp only at hh<;>try (cases hh; done)
 rw [WR] at hh
 obtain⟨ob,_,hh⟩:=hh
 cases ob with
 | cells cs=>cases hh
 | row t cs=>cases hh
 | map es=>
  obtain⟨qQ,_,rfl⟩:=Option.map_some' hh
  exact Steady.put _ _ _
theorem oF {h h':AHeap}{t:TypeId}{x y z:AV}(hh:gp P h t x y=some (z,h')):Steady h h':=by
 unfold gp at hh
 split at hh
 ·rw [WR] at hh
  obtain⟨d,_,hh⟩:=hh
  cases d<;>simp only at hh<;>try (cases hh; done)
  rw [WR] at hh
  obtain⟨i,_,hh⟩:=hh
  rw [WR] at hh
  obtain⟨z,_,hh⟩:=hh
  split at hh<;>cases hh
  exact Steady.put _ _ _
 ·cases hh
theorem nr {cs:List AV}(h:ie s aF ds o cs=some s'):Steady s.h s'.h:=by
 unfold ie at h
 split at h
 rotate_left
 ·cases h
 split at h
 ·split at h
  ·split at h<;>cases h
   rw [jq]; exact Steady.refl _
  ·cases h
   rw [jq]; exact Steady.put _ _ _
 ·cases h
theorem sS (hcf:SteadyF cf){e:Operand→AV}(h:z7 P cf aF ds e s o=some s'):Steady s.h s'.h:=by
 have dz:∀{x:Option AV},(x.map fun x=>s.set o.dst x)=some s'→Steady s.h s'.h:=by
  intro x hx
  obtain⟨z,rfl,rfl⟩:=Option.map_some' hx
  rw [jq]; exact Steady.refl _
 unfold z7 at h
 dsimp only at h
 split at h
 ·cases h; rw [jq]; exact Steady.refl _
 ·cases h; rw [jq]; exact Steady.refl _
 ·obtain⟨z,_,rfl⟩:=Option.map_some' h; rw [jq]; exact Steady.refl _
 ·rw [WR] at h
  obtain⟨z,_,h⟩:=h
  exact nr h
 ·exact nr h
 ·exact dz h
 ·obtain⟨z,hz,rfl⟩:=Option.map_some' h
  unfold pQ
  split
  ·rw [jq]; exact Steady.refl _
  ·rw [jq]; exact Steady.put _ _ _
 ·exact dz h
 ·split at h
  ·cases h
  split at h
  ·rw [WR] at h
   obtain⟨cs,_,h⟩:=h
   obtain⟨z,_,rfl⟩:=Option.map_some' h
   exact Steady.refl _
  ·rw [WR] at h
   obtain⟨ob,_,h⟩:=h
   cases ob with
   | map es=>cases h
   | row t cs=>cases h
   | cells cs=>
    obtain⟨z,_,rfl⟩:=Option.map_some' h
    exact Steady.put _ _ _
  ·cases h
 ·exact dz h
 ·exact dz h
 ·exact dz h
 ·exact dz h
 ·split at h
  ·exact dz h
  ·cases h
 ·cases h; rw [jq]; exact Steady.put _ _ _
 ·obtain⟨⟨z,h'⟩,hz,rfl⟩:=Option.map_some' h
  rw [jq]; exact oF hz
 ·exact dz h
 ·exact dz h
 ·exact dz h
 ·exact dz h
 ·exact dz h
 ·exact dz h
 ·split at h
  ·cases h
  obtain⟨h',hz,rfl⟩:=Option.map_some' h
  exact mc hz
 ·split at h
  ·cases h
  obtain⟨h',hz,rfl⟩:=Option.map_some' h
  exact mc hz
 ·exact dz h
 ·unfold gq at h
  split at h
  ·exact dz h
  ·obtain⟨⟨z,h'⟩,hz,rfl⟩:=Option.map_some' h
   rw [jq]; exact sR hz
  ·obtain⟨⟨z,h'⟩,hz,rfl⟩:=Option.map_some' h
   rw [jq]; exact wz hz
  ·obtain⟨h',hz,rfl⟩:=Option.map_some' h
   rw [jq]; exact uJ hz
  ·rw [WR] at h
   obtain⟨v,_,h⟩:=h
   rw [WR] at h
   obtain⟨vs,_,h⟩:=h
   rw [WR] at h
   obtain⟨u,_,h⟩:=h
   exact dz h
  ·rw [WR] at h
   obtain⟨v,_,h⟩:=h
   rw [WR] at h
   obtain⟨vs,_,h⟩:=h
   rw [WR] at h
   obtain⟨u,_,h⟩:=h
   exact dz h
  ·cases h
 ·split at h
  ·split at h
   ·obtain⟨⟨z,h'⟩,hz,rfl⟩:=Option.map_some' h
    rw [jq]; exact hcf _ _ _ _ _ hz
   ·cases h
  ·cases h
 ·cases h
theorem oG (hcf:SteadyF cf){ops:List Oper}(h:lV P cf aF ops s o=some s'):Steady s.h s'.h:=by
 unfold lV at h
 rw [WR] at h
 obtain⟨w,_,h⟩:=h
 cases w with
 | true=>exact sS hcf (by simpa [vZ] using h)
 | false=>
  simp only [W9,if_false,WT] at h
  subst h
  rw [jq]; exact Steady.refl _
theorem qZ (hcf:SteadyF cf){ops:List Oper}:∀{l:List Oper} {s s':RS},rr P cf aF ops s l=some s'→Steady s.h s'.h
 | [],s,s',h=>by simp only [rr,WT] at h; subst h; exact Steady.refl _
 | o::l,s,s',h=>by
  simp only [rr,WR] at h
  obtain⟨s1,h1,h2⟩:=h
  exact (oG hcf h1).trans (qZ hcf h2)
theorem q6 (hcf:SteadyF cf){ops:List Oper}:∀{l:List Oper} {s r:RS} {es:List rY},pT P cf aF ops s l=some (es,r)→Steady s.h r.h
 | [],s,r,es,h=>by simp only [pT,WT,W2] at h; rw [h.2]; exact Steady.refl _
 | o::l,s,r,es,h=>by
  simp only [pT,WR,WS] at h
  obtain⟨w,hw,s1,h1,⟨qQ,r'⟩,h2,h3⟩:=h
  simp only [W2] at h3
  obtain⟨_,rfl⟩:=h3
  have h4:lV P cf aF ops s o=some s1:=by unfold lV; rw [hw]; exact h1
  exact (oG hcf h4).trans (q6 hcf h2)
theorem uK (hcf:SteadyF cf){ops:Array Oper}(h:kY P cf aF ops s=some s'):Steady s.h s'.h:=by
 unfold kY at h
 dsimp only at h
 split at h
 rotate_left
 ·cases h
 rw [WR] at h
 obtain⟨⟨es,r⟩,Ah,h⟩:=h
 simp only at h
 split at h
 ·cases h; exact q6 hcf Ah
 ·cases h
theorem fK (hcf:SteadyF cf){A:cd}{m:Nat}:∀(c:Code) (st jF:St) (e:Ex),bL P cf A m c st=some (e,jF)→Steady st.h jF.h
 | .skip,st,jF,e,h=>by simp only [bL,WT,W2] at h; rw [h.2]; exact Steady.refl _
 | .label _,st,jF,e,h=>by simp only [bL,WT,W2] at h; rw [h.2]; exact Steady.refl _
 | .ret,st,jF,e,h=>by simp only [bL,WT,W2] at h; rw [h.2]; exact Steady.refl _
 | .exit _,st,jF,e,h=>by simp only [bL,WT,W2] at h; rw [h.2]; exact Steady.refl _
 | .seq x y,st,jF,e,h=>by
  simp only [bL,WR] at h
  obtain⟨⟨e1,s1⟩,h1,h2⟩:=h
  have:=fK hcf x st s1 e1 h1
  cases e1 with
  | norm=>exact this.trans (fK hcf y s1 jF e h2)
  | exit id=>simp only [WT,W2] at h2; rw [←h2.2]; exact this
  | ret=>simp only [WT,W2] at h2; rw [←h2.2]; exact this
 | .cond k x y,st,jF,e,h=>by
  simp only [bL,WR] at h
  obtain⟨t,_,h⟩:=h
  cases t with
  | true=>exact fK hcf x st jF e (by simpa using h)
  | false=>exact fK hcf y st jF e (by simpa using h)
 | .block id x,st,jF,e,h=>by
  simp only [bL,WS] at h
  obtain⟨⟨e1,s1⟩,h1,h2⟩:=h
  have:=fK hcf x st s1 e1 h1
  cases e1<;>(simp only [W2] at h2; rw [←h2.2]; exact this)
 | .loop x,st,jF,e,h=>by
  simp only [bL] at h
  have key:∀(j:Nat) (st:St),kC (bL P cf A m x) j st=some (e,jF)→Steady st.h jF.h:=by
   intro j
   induction j with
   | zero=>intro st h; simp [kC] at h
   | succ j ih=>
    intro st h
    simp only [kC,WR] at h
    obtain⟨⟨e1,s1⟩,h1,h2⟩:=h
    have:=fK hcf x st s1 e1 h1
    cases e1 with
    | norm=>exact this.trans (ih s1 h2)
    | exit id=>simp only [WT,W2] at h2; rw [←h2.2]; exact this
    | ret=>simp only [WT,W2] at h2; rw [←h2.2]; exact this
  exact key m st h
 | .region id ops draw,st,jF,e,h=>by
  simp only [bL,WR,WS,W2] at h
  obtain⟨s0,h0,s',h1,s2,h2,_,rfl⟩:=h
  rw [HH]
  refine ((ma h0).trans ?_).trans (ma h2)
  cases draw with
  | true=>exact uK (s:=s0) hcf (by simpa using h1)
  | false=>exact qZ (s:=s0) hcf (by simpa using h1)
 | .rangeFunc ..,st,jF,e,h=>by simp [bL] at h
 | .scope ..,st,jF,e,h=>by simp [bL] at h
 | .goto ..,st,jF,e,h=>by simp [bL] at h
 | .refuse ..,st,jF,e,h=>by simp [bL] at h
theorem wA (hcf:SteadyF cf){aS:FuncId→cd}{m:Nat}:SteadyF (aZ P aS cf m):=by
 intro f args h r h' hc
 unfold aZ at hc
 rw [WR] at hc
 obtain⟨fn,hf,hc⟩:=hc
 rw [WR] at hc
 obtain⟨c,hb,hc⟩:=hc
 split at hc
 rotate_left
 ·cases hc
 rw [WR] at hc
 obtain⟨⟨e,st⟩,hex,hc⟩:=hc
 have:=fK hcf c _ _ _ hex
 cases e with
 | norm=>obtain⟨r',_,h2⟩:=Option.map_some' hc; cases h2; exact this
 | ret=>obtain⟨r',_,h2⟩:=Option.map_some' hc; cases h2; exact this
 | exit id=>cases hc
end
end Go.R
namespace Go.R
open Go
section
variable {P:Program}{cf:CallF}{aF ds:List Nat}{o:Oper}{s s':RS}
theorem C2 {e e':Operand→AV}(h:∀x∈o.op.operands,e x=e' x):z7 P cf aF ds e s o=z7 P cf aF ds e' s o:=by
 have Mn:∀(l:List Operand),(∀x∈l,e x=e' x)→l.map e=l.map e':=fun l hl=>XV hl
 have JL:∀(q:Option Operand),(∀x,q=some x→e x=e' x)→q.map e=q.map e':=by
  intro q hq; cases q with
  | none=>rfl
  | some x=>simp [hq x rfl]
 unfold z7
 cases BB:o.op<;>rw [BB] at h
 case build t ps=>
  have:(ps.toList.map fun (i,x)=>(i,e x))=(ps.toList.map fun (i,x)=>(i,e' x)):=
   XV fun p hp=>by
    have:=h p.2 (by simp only [Op.operands,List.mem_toArray,Xd]; exact⟨p,hp,rfl⟩)
    simp [this]
  simp only [this]
 case buildSlice t n ps=>
  have:(ps.toList.map fun (i,x)=>(i,e x))=(ps.toList.map fun (i,x)=>(i,e' x)):=
   XV fun p hp=>by
    have:=h p.2 (by simp only [Op.operands,List.mem_toArray,Xd]; exact⟨p,hp,rfl⟩)
    simp [this]
  simp only [this]
 case makeFunc f first cap=>
  have:cap.toList.map e=cap.toList.map e':=Mn _ fun x hx=>h x (by simp only [Op.operands,Array.mem_append]; right; exact XP.1 hx)
  cases f<;>first | rfl | simp only [this]
 case makeMap t r=>cases r<;>rfl
 case slice t x lo hi mx=>
  have h1:e x=e' x:=h x (by simp [Op.operands])
  have h2:=JL lo fun y hy=>h y (by simp [Op.operands,hy])
  have h3:=JL hi fun y hy=>h y (by simp [Op.operands,hy])
  have h4:=JL mx fun y hy=>h y (by simp [Op.operands,hy])
  simp only [h1,h2,h3,h4]
 case call c=>
  obtain⟨callee,args,By⟩:=c
  have h1:args.toList.map e=args.toList.map e':=Mn _ fun x hx=>h x (by
   simp only [Op.operands,Call.operands]
   cases callee<;>simp<;>first | exact XP.1 hx | (right; exact XP.1 hx) | (left; exact XP.1 hx))
  cases callee with
  | builtin b=>simp only [h1]
  | value f=>
   have h2:e f=e' f:=h f (by simp [Op.operands,Call.operands])
   simp only [h1,h2]
  | invoke r nm=>rfl
 all_goals first
  | rfl
  | (simp [Op.operands] at h; simp [h])
end
theorem oH (acc:List Nat)(i:Nat):∀(l:List Edge) (m:Nat),(l.foldl (fun m e=>bif Region.binds .any e then m ||| (2 ^ e.on ||| acc.getD e.on 0) else m) m).testBit i=true→
  m.testBit i=true∨∃e∈l,Region.binds .any e=true∧(e.on=i∨(acc.getD e.on 0).testBit i=true)
 | [],m,h=>.inl h
 | e::l,m,h=>by
  rcases oH acc i l _ h with h1 | ⟨e',he,h1⟩
  ·dsimp only at h1
   cases hb:Region.binds .any e with
   | false=>rw [hb] at h1; exact .inl h1
   | true=>
    rw [hb] at h1
    simp only [cond_true,Nat.testBit_or,XG,Nat.testBit_two_pow,decide_eq_true_eq] at h1
    rcases h1 with h1 | h1 | h1
    ·exact .inl h1
    ·exact .inr ⟨e,by simp,hb,.inl h1⟩
    ·exact .inr ⟨e,by simp,hb,.inr h1⟩
  ·exact .inr ⟨e',by simp [he],h1⟩
theorem q7:∀(l:List Oper) (acc:List Nat),(∀j,j<acc.length→(jO acc l).getD j 0=acc.getD j 0)∧
  ∀j i,((jO acc l).getD j 0).testBit i=true→acc.length≤j→∃o,l[j - acc.length]? = some o∧∃e∈o.after.toList,Region.binds .any e=true∧(e.on=i∨((jO acc l).getD e.on 0).testBit i=true)
 | [],acc=>⟨fun j hj=>rfl,fun j i h hj=>by simp [jO,List.getD,Xa hj] at h⟩
 | o::l,acc=>by
  simp only [jO]
  generalize hm:(o.after.toList.foldl (fun m e=>bif Region.binds .any e then m ||| (2 ^ e.on ||| acc.getD e.on 0) else m) 0)=m
  obtain⟨h1,h2⟩:=q7 l (acc++[m])
  have hold:∀j,j<acc.length→(jO (acc++[m]) l).getD j 0=acc.getD j 0:=fun j hj=>by
   rw [h1 j (by simp; omega)]
   simp [List.getD,Xu hj]
  refine⟨hold,fun j i h hj=>?_⟩
  by_cases UI:j=acc.length
  ·subst UI
   have:(jO (acc++[m]) l).getD acc.length 0=m:=by
    rw [h1 _ (by simp)]; simp [List.getD]
   rw [this,←hm] at h
   rcases oH acc i _ _ h with h3 | ⟨e,he,hb,h3⟩
   ·simp at h3
   ·refine⟨o,by simp,e,he,hb,h3.imp id fun h4=>?_⟩
    by_cases hl:e.on<acc.length
    ·rw [hold _ hl]; exact h4
    ·simp [List.getD,Xa (Nat.not_lt.1 hl)] at h4
  ·obtain⟨o',Oh,h3⟩:=h2 j i h (by simp; omega)
   refine⟨o',?_,h3⟩
   rw [show j - acc.length=(j - (acc++[m]).length)+1 by simp; omega]
   simpa using Oh
theorem kp {α:Type}(p:Nat→α→Nat→α→Bool):∀(l:List α) (k:Nat),ov p k l=true→∀i j x y,i<j→l[i]? = some x→l[j]? = some y→p (k+i) x (k+j) y=true
 | [],k,_,i,j,x,y,_,hx,_=>by simp at hx
 | a::l,k,h,i,j,x,y,yr,hx,hy=>by
  simp only [ov,WV,Xi] at h
  obtain⟨h1,h2⟩:=h
  cases j with
  | zero=>omega
  | succ j=>
   cases i with
   | zero=>
    simp only [Xz,WT] at hx
    subst hx
    have:=h1 (y,k+1+j) (by rw [List.mk_add_mem_zipIdx_iff_getElem?]; simpa using hy)
    simpa [XE,Nat.add_comm 1 j] using this
   | succ i=>
    have:=kp p l (k+1) h2 i j x y (by omega) (by simpa using hx) (by simpa using hy)
    rw [show k+(i+1)=k+1+i by omega,show k+(j+1)=k+1+j by omega]
    exact this
theorem oI:∀(l:List Oper) (k:Nat),rZ k l=true→∀i o,l[i]? = some o→∀e∈o.after.toList,Region.binds .any e=true→e.on<k+i
 | [],k,_,i,o,h,_,_,_=>by simp at h
 | a::l,k,h,i,o,ho,e,he,hb=>by
  simp only [rZ,WV,Xi] at h
  obtain⟨h1,h2⟩:=h
  cases i with
  | zero=>
   simp only [Xz,WT] at ho
   subst ho
   have:=h1 e he
   simp only [hb,Bool.not_true,Bool.false_or] at this
   exact Nat.blt_eq.mp this
  | succ i=>
   have:=oI l (k+1) h2 i o (by simpa using ho) e he hb
   omega
theorem oJ {V:Type}{n i:Nat}(hi:i≤n){W:Nat→Prop}{S:Nat→Bool}{m x:Nat→V}(h0:m 0=x 0)(Mo:∀k,k<n→W k→S k=true→m (k+1)=x (k+1))(Af:∀k,k<n→(¬W k∨S k=false)→m (k+1)=m k)
  (hx:∀k,k<n→¬W k→x (k+1)=x k) (hS:∀k,k<n→W k→(S k=true↔k<i)):m n=x i:=by
 have key:∀k,k≤n→m k=x (min k i):=by
  intro k
  induction k with
  | zero=>intro _; simpa using h0
  | succ k ih=>
   intro hk
   have ih:=ih (by omega)
   by_cases hw:W k
   ·have hs:=hS k (by omega) hw
    by_cases r8:k<i
    ·rw [Mo k (by omega) hw (hs.2 r8),Yr (by omega)]
    ·have:S k=false:=by
      cases h:S k with
      | false=>rfl
      | true=>exact absurd (hs.1 h) r8
     rw [Af k (by omega) (.inr this),ih,Nat.min_eq_right (by omega),Nat.min_eq_right (by omega)]
   ·rw [Af k (by omega) (.inl hw),ih]
    by_cases r8:k<i
    ·rw [Yr (by omega),Yr (by omega),hx k (by omega) hw]
    ·rw [Nat.min_eq_right (by omega),Nat.min_eq_right (by omega)]
 rw [key n (WU n),Nat.min_eq_right hi]
open Classical in
theorem wC {V:Type}{n i:Nat}(hi:i<n){W:Nat→Prop}{S S':Nat→Bool}{m m' x:Nat→V}(h0:m' 0=m 0)(Mo:∀k,k<n→W k→S k=true→m (k+1)=x (k+1))(Af:∀k,k<n→(¬W k∨S k=false)→m (k+1)=m k)
  (JM:∀k,k<n→W k→S' k=true→m' (k+1)=x (k+1)) (JN:∀k,k<n→(¬W k∨S' k=false)→m' (k+1)=m' k)
  (C3:∀k,S' k=if k=i then true else S k) (Mp:S i=false) (hl:W i→∀j,j<n→i<j→W j→S j=false):m' n=if W i then x (i+1) else m n:=by
 have key:∀k,k≤n→m' k=if i<k∧W i then x (i+1) else m k:=by
  intro k
  induction k with
  | zero=>intro _; simpa using h0
  | succ k ih=>
   intro hk
   have ih:=ih (by omega)
   by_cases r8:k=i
   ·subst r8
    by_cases hw:W k
    ·rw [JM k (by omega) hw (by rw [C3]; simp),if_pos ⟨by omega,hw⟩]
    ·rw [JN k (by omega) (.inl hw),ih,if_neg (fun h=>hw h.2),if_neg (fun h=>hw h.2),Af k (by omega) (.inl hw)]
   ·have hs:S' k=S k:=by rw [C3,if_neg r8]
    by_cases hw:W k
    ·cases pY:S k with
     | true=>
      rw [JM k (by omega) hw (hs.trans pY)]
      by_cases D2:i<k+1∧W i
      ·have:=hl D2.2 k (by omega) (by omega) hw
       rw [pY] at this; cases this
      ·rw [if_neg D2,Mo k (by omega) hw pY]
     | false=>
      rw [JN k (by omega) (.inr (hs.trans pY)),ih,Af k (by omega) (.inr pY)]
      by_cases D2:i<k∧W i
      ·rw [if_pos D2,if_pos ⟨by omega,D2.2⟩]
      ·rw [if_neg D2,if_neg (fun h=>D2 ⟨by omega,h.2⟩)]
    ·rw [JN k (by omega) (.inl hw),ih,Af k (by omega) (.inl hw)]
     by_cases D2:i<k∧W i
     ·rw [if_pos D2,if_pos ⟨by omega,D2.2⟩]
     ·rw [if_neg D2,if_neg (fun h=>D2 ⟨by omega,h.2⟩)]
 rw [key n (WU n)]
 by_cases hw:W i
 ·rw [if_pos ⟨hi,hw⟩,if_pos hw]
 ·rw [if_neg (fun h=>hw h.2),if_neg hw]
structure sT (P:Program)(cf:CallF)(aF:List Nat)(ops:Array Oper)(tx:Nat→RS)(ft:Nat→kA)(ord:Nat→Nat→Prop):Prop where
 op:∀k o,ops[k]? = some o→∃w,gN ops.toList (tx k).ρ o=some w∧(if w then vZ P cf aF (ops.toList.filterMap (·.dst)) (tx k) o=some (tx (k+1))∧ft k=a7 aF (bP (tx k).ρ) o else tx (k+1)=(tx k).set o.dst (.tup [])∧ft k={})
 JO:∀k i,ord k i→∃o,ops[i]? = some o∧∃e∈o.after,Region.binds .any e=true∧(e.on=k∨ord k e.on)
 back:∀i o,ops[i]? = some o→∀e∈o.after,Region.binds .any e=true→e.on<i
 IW:∀i j x y,i≠j→ops[i]? = some x→ops[j]? = some y→ord i j∨ord j i∨∀d,x.dst=some d→d∉y.looksAt ops∧y.dst≠some d
 boxes:∀i j,i<ops.size→j<ops.size→i≠j→ord i j∨ord j i∨(∀k,(ft i).wb=some k→k∉(ft j).rb∧(ft j).wb≠some k)∧((ft i).wh=true→(ft j).wh=false∧∀id∈(ft j).rh,(tx i).h.get id=(tx (i+1)).h.get id)
 Pe:∀i o d,ops[i]? = some o→(ft i).al=true→o.dst=some d→(∀t∈ops.toList.filterMap (·.dst),t≠d→∀off,(tx 0).ρ t≠.lp d off)∧∀j y t,ops[j]? = some y→j≠i→ord i j∨(y.dst=some t→∀off,(tx (j+1)).ρ t≠.lp d off)
section
variable {P:Program}{cf:CallF}{aF:List Nat}{ops:Array Oper}{tx:Nat→RS}{ft:Nat→kA}{ord:Nat→Nat→Prop}
def jr (ops:Array Oper)(k:Nat):Option Nat:=(ops[k]?).bind (·.dst)
def j4 (ops:Array Oper)(tx:Nat→RS)(ft:Nat→kA)(S:Nat→Bool):Nat→RS
 | 0=>tx 0
 | k+1=>if S k then (j4 ops tx ft S k).shift (ft k) (jr ops k) (tx (k+1)) else j4 ops tx ft S k
theorem sT.shift (T:sT P cf aF ops tx ft ord){k:Nat}(hk:k<ops.size):tx (k+1)=(tx k).shift (ft k) (jr ops k) (tx (k+1)):=by
 have ho:ops[k]? = some ops[k]:=by simp [hk]
 obtain⟨w,hw,h⟩:=T.op k _ ho
 have hd:jr ops k=ops[k].dst:=by simp [jr,hk]
 rw [hd]
 cases w with
 | true=>
  simp only [if_true] at h
  obtain⟨h1,h2⟩:=h
  have:=vl (s2:=tx k) (e:=bP (tx k).ρ) h1 (fun _ _=>rfl) (fun _ _=>rfl) (fun _=>rfl) (fun oo d zR=>by
   unfold vZ z7 at h1
   dsimp only at h1
   have IX:∀(cs:List AV) (s s':RS),ie s aF (ops.toList.filterMap (·.dst)) ops[k] cs=some s'→aF.contains d=true→su d s.ρ ((ops.toList.filterMap (·.dst)).filter fun t=>!Nat.beq t d)=true:=by
    intro cs s s' hb hl
    unfold ie at hb
    simp only [zR,hl,if_true] at hb
    by_cases hn:su d s.ρ ((ops.toList.filterMap (·.dst)).filter fun t=>!Nat.beq t d)=true
    ·exact hn
    ·simp [hn] at hb
   unfold a7 at oo
   split at oo
   ·rename_i t BB
    rw [zR] at oo
    simp only at oo
    split at oo
    ·rename_i hl
     rw [BB] at h1
     simp only [WR] at h1
     obtain⟨z,_,h1⟩:=h1
     exact IX _ _ _ h1 hl
    ·cases oo
   ·rename_i t x BB
    rw [zR] at oo
    simp only at oo
    split at oo
    ·rename_i hl
     rw [BB] at h1
     exact IX _ _ _ h1 hl
    ·cases oo
   all_goals first
    | (split at oo<;>cases oo)
    | (split at oo<;>first | cases oo | (split at oo<;>cases oo))
    | cases oo)
  unfold vZ at h1
  rw [h1] at this
  rw [h2]
  exact Xn this
 | false=>
  simp only [W9,if_false] at h
  rw [h.1,h.2]
  exact ir (tx k) (tx k) {} _ _ rfl rfl
theorem r9 (s2:RS)(f:kA)(d:Option Nat)(s':RS)(t:Nat):(s2.shift f d s').ρ t=if d=some t then s'.ρ t else s2.ρ t:=by
 cases d with
 | none=>simp [RS.shift]
 | some d=>
  simp only [RS.shift,WT]
  by_cases h:t=d
  ·subst h; simp
  ·rw [if_neg h,if_neg (X9 h)]
theorem oK (s2:RS)(f:kA)(d:Option Nat)(s':RS)(b:Nat):(s2.shift f d s').bx b=if f.wb=some b then s'.bx b else s2.bx b:=by
 cases hf:f.wb with
 | none=>simp [RS.shift,hf]
 | some k=>
  simp only [RS.shift,hf,WT]
  by_cases h:b=k
  ·subst h; simp
  ·rw [if_neg h,if_neg (X9 h)]
theorem sT.lt (T:sT P cf aF ops tx ft ord):∀{j k:Nat},ord k j→k<j:=by
 intro j
 induction j using Nat.strongRecOn with
 | _ j ih=>
  intro k h
  obtain⟨o,ho,e,he,hb,h1⟩:=T.JO k j h
  have h2:=T.back j o ho e he hb
  rcases h1 with h1 | h1
  ·omega
  ·have:=ih e.on h2 h1; omega
def qa (ops:Array Oper)(S:Nat→Bool):Prop:=∀j o,ops[j]? = some o→S j=true→∀e∈o.after,Region.binds .any e=true→S e.on=true
theorem sT.down (T:sT P cf aF ops tx ft ord){S:Nat→Bool}(hc:qa ops S):∀{j k:Nat},ord k j→S j=true→S k=true:=by
 intro j
 induction j using Nat.strongRecOn with
 | _ j ih=>
  intro k h hs
  obtain⟨o,ho,e,he,hb,h1⟩:=T.JO k j h
  have h2:=T.back j o ho e he hb
  have h3:=hc j o ho hs e he hb
  rcases h1 with h1 | h1
  ·rw [←h1]; exact h3
  ·exact ih e.on h2 h1 h3
variable {S:Nat→Bool}{i:Nat}{oi:Oper}
theorem sT.before (T:sT P cf aF ops tx ft ord)(hc:qa ops S)(ho:ops[i]? = some oi)(hr:∀e∈oi.after,Region.binds .any e=true→S e.on=true){k:Nat}(h:ord k i):S k=true:=by
 obtain⟨o,Oh,e,he,hb,h1⟩:=T.JO k i h
 rw [ho] at Oh
 cases Oh
 rcases h1 with h1 | h1
 ·rw [←h1]; exact hr e he hb
 ·exact T.down hc h1 (hr e he hb)
theorem sT.iff (T:sT P cf aF ops tx ft ord)(hc:qa ops S)(ho:ops[i]? = some oi)(hr:∀e∈oi.after,Region.binds .any e=true→S e.on=true)(hi:S i=false){k:Nat}(h:ord i k∨ord k i):S k=true↔k<i:=by
 rcases h with h | h
 ·have:=T.lt h
  refine⟨fun hk=>?_,fun _=>by omega⟩
  have:=T.down hc h hk
  rw [hi] at this; cases this
 ·exact⟨fun _=>T.lt h,fun _=>T.before hc ho hr h⟩
theorem wD (t:Nat)(k:Nat)(hd:jr ops k=some t)(hs:S k=true):(j4 ops tx ft S (k+1)).ρ t=(tx (k+1)).ρ t:=by
 simp only [j4,hs,if_true,r9,hd]
theorem wE (t:Nat)(k:Nat)(h:¬jr ops k=some t∨S k=false):(j4 ops tx ft S (k+1)).ρ t=(j4 ops tx ft S k).ρ t:=by
 simp only [j4]
 split
 ·rename_i hs
  rcases h with h | h
  ·rw [r9,if_neg h]
  ·rw [h] at hs; cases hs
 ·rfl
theorem wF (b:Nat)(k:Nat)(hd:(ft k).wb=some b)(hs:S k=true):(j4 ops tx ft S (k+1)).bx b=(tx (k+1)).bx b:=by
 simp only [j4,hs,if_true,oK,hd]
theorem wG (b:Nat)(k:Nat)(h:¬(ft k).wb=some b∨S k=false):(j4 ops tx ft S (k+1)).bx b=(j4 ops tx ft S k).bx b:=by
 simp only [j4]
 split
 ·rename_i hs
  rcases h with h | h
  ·rw [oK,if_neg h]
  ·rw [h] at hs; cases hs
 ·rfl
theorem wH (k:Nat)(hd:(ft k).wh=true)(hs:S k=true):(j4 ops tx ft S (k+1)).h=(tx (k+1)).h:=by
 simp only [j4,hs,if_true,RS.shift,hd]
theorem wI (k:Nat)(h:¬(ft k).wh=true∨S k=false):(j4 ops tx ft S (k+1)).h=(j4 ops tx ft S k).h:=by
 simp only [j4]
 split
 ·rename_i hs
  rcases h with h | h
  ·simp only [RS.shift]; rw [if_neg h]
  ·rw [h] at hs; cases hs
 ·rfl
theorem sT.Pf (T:sT P cf aF ops tx ft ord)(t:Nat)(k:Nat)(hk:k<ops.size)(h:¬jr ops k=some t):(tx (k+1)).ρ t=(tx k).ρ t:=by
 rw [T.shift hk,r9,if_neg h]
theorem sT.Mq (T:sT P cf aF ops tx ft ord)(b:Nat)(k:Nat)(hk:k<ops.size)(h:¬(ft k).wb=some b):(tx (k+1)).bx b=(tx k).bx b:=by
 rw [T.shift hk,oK,if_neg h]
theorem sT.JP (T:sT P cf aF ops tx ft ord)(k:Nat)(hk:k<ops.size)(h:¬(ft k).wh=true):(tx (k+1)).h=(tx k).h:=by
 rw [T.shift hk]; simp only [RS.shift]; rw [if_neg h]
theorem sT.reads (T:sT P cf aF ops tx ft ord)(hc:qa ops S)(ho:ops[i]? = some oi)(hr:∀e∈oi.after,Region.binds .any e=true→S e.on=true)(hi:S i=false) :
  (∀t∈oi.looksAt ops,(j4 ops tx ft S ops.size).ρ t=(tx i).ρ t)∧(∀b∈(ft i).rb,(j4 ops tx ft S ops.size).bx b=(tx i).bx b)∧
  (∀id∈(ft i).rh,(j4 ops tx ft S ops.size).h.get id=(tx i).h.get id)∧((ft i).wh=true→(j4 ops tx ft S ops.size).h=(tx i).h):=by
 have hin:i<ops.size:=(Xt.1 ho).1
 have Jw:∀k,k<ops.size→ops[k]? = some ops[k]!:=fun k hk=>by simp [hk]
 have nu:∀k,k=i→(S k=true↔k<i):=by
  rintro k rfl
  rw [hi]; simp
 refine⟨fun t ht=>?_,fun b hb=>?_,fun id hid=>?_,fun hw=>?_⟩
 ·refine oJ (W:=fun k=>jr ops k=some t) (m:=fun k=>(j4 ops tx ft S k).ρ t) (x:=fun k=>(tx k).ρ t) (S:=S) (Nat.le_of_lt hin) rfl (fun k _ h hs=>wD t k h hs) (fun k _ h=>wE t k h) (fun k hk h=>T.Pf t k hk h) (fun k hk h=>?_)
  by_cases r8:k=i
  ·exact nu k r8
  ·obtain⟨y,hy,JQ⟩:=WR.1 h
   rcases T.IW k i y oi r8 hy ho with h1 | h1 | h1
   ·exact T.iff hc ho hr hi (.inr h1)
   ·exact T.iff hc ho hr hi (.inl h1)
   ·exact absurd ht (h1 t JQ).1
 ·refine oJ (W:=fun k=>(ft k).wb=some b) (m:=fun k=>(j4 ops tx ft S k).bx b) (x:=fun k=>(tx k).bx b) (S:=S) (Nat.le_of_lt hin) rfl (fun k _ h hs=>wF b k h hs) (fun k _ h=>wG b k h) (fun k hk h=>T.Mq b k hk h) (fun k hk h=>?_)
  by_cases r8:k=i
  ·exact nu k r8
  ·rcases T.boxes k i hk hin r8 with h1 | h1 | h1
   ·exact T.iff hc ho hr hi (.inr h1)
   ·exact T.iff hc ho hr hi (.inl h1)
   ·exact absurd hb (h1.1 b h).1
 ·
  obtain⟨p,hp,Me⟩:∃p,p≤ops.size∧∀k,k<ops.size→(ft k).wh=true→(S k=true↔k<p):=by
   have key:∀m,m≤ops.size→(∀k,k<m→(ft k).wh=true→S k=true)∨∃p,p<m∧(ft p).wh=true∧S p=false∧∀k,k<p→(ft k).wh=true→S k=true:=by
    intro m
    induction m with
    | zero=>intro _; exact .inl fun k hk=>by omega
    | succ m ih=>
     intro hm
     rcases ih (by omega) with h | ⟨p,h1,h2⟩
     ·by_cases hw:(ft m).wh=true∧S m=false
      ·exact .inr ⟨m,by omega,hw.1,hw.2,h⟩
      ·refine .inl fun k hk Sm=>?_
       by_cases UJ:k=m
       ·subst UJ
        cases hs:S k with
        | true=>rfl
        | false=>exact absurd ⟨Sm,hs⟩ hw
       ·exact h k (by omega) Sm
     ·exact .inr ⟨p,by omega,h2⟩
   rcases key ops.size (WU _) with h | ⟨p,h1,h2,h3,h4⟩
   ·exact⟨ops.size,WU _,fun k hk hw=>⟨fun _=>hk,fun _=>h k hk hw⟩⟩
   ·refine⟨p,by omega,fun k hk hw=>⟨fun hs=>?_,fun Oi=>h4 k Oi hw⟩⟩
    rcases Nat.lt_or_ge k p with h5 | h5
    ·exact h5
    ·by_cases Oi:k=p
     ·subst Oi; rw [h3] at hs; cases hs
     ·rcases T.boxes p k h1 hk (X9 Oi) with h6 | h6 | h6
      ·have:=T.down hc h6 hs; rw [h3] at this; cases this
      ·have:=T.lt h6; omega
      ·have:=(h6.2 h2).1; rw [hw] at this; cases this
  have JR:(j4 ops tx ft S ops.size).h=(tx p).h:=
   oJ (W:=fun k=>(ft k).wh=true) (m:=fun k=>(j4 ops tx ft S k).h) (x:=fun k=>(tx k).h) (S:=S) hp rfl (fun k _ h hs=>wH k h hs) (fun k _ h=>wI k h) (fun k hk h=>T.JP k hk h) Me
  rw [JR]
  have IY:∀k,k<ops.size→(p≤k∧k<i)∨(i≤k∧k<p)→(tx (k+1)).h.get id=(tx k).h.get id:=by
   intro k hk hb
   by_cases hw:(ft k).wh=true
   ·have hs:=Me k hk hw
    have r8:k≠i:=by
     rintro rfl
     rcases hb with hb | hb
     ·omega
     ·have:=hs.2 hb.2; rw [hi] at this; cases this
    rcases T.boxes k i hk hin r8 with h1 | h1 | h1
    ·have hlt:=T.lt h1
     have:=hs.1 (T.before hc ho hr h1)
     omega
    ·have hlt:=T.lt h1
     have:=T.down hc h1 (hs.2 (by omega))
     rw [hi] at this; cases this
    ·exact ((h1.2 hw).2 id hid).symm
   ·rw [T.JP k hk hw]
  have walk:∀a b,a≤b→b≤ops.size→(∀k,a≤k→k<b→(tx (k+1)).h.get id=(tx k).h.get id)→(tx b).h.get id=(tx a).h.get id:=by
   intro a b Lx
   induction b with
   | zero=>
     intro _ _; have:a=0:=by omega
     subst this; rfl
   | succ b ih=>
    intro hb hk
    by_cases Pg:a=b+1
    ·subst Pg; rfl
    ·rw [hk b (by omega) (by omega)]
     exact ih (by omega) (by omega) fun k h1 h2=>hk k h1 (by omega)
  rcases Nat.le_total p i with h | h
  ·exact (walk p i h (Nat.le_of_lt hin) fun k h1 h2=>IY k (by omega) (.inl ⟨h1,h2⟩)).symm
  ·exact walk i p h hp fun k h1 h2=>IY k (by omega) (.inr ⟨h1,h2⟩)
 ·refine oJ (W:=fun k=>(ft k).wh=true) (m:=fun k=>(j4 ops tx ft S k).h) (x:=fun k=>(tx k).h) (S:=S) (Nat.le_of_lt hin) rfl (fun k _ h hs=>wH k h hs) (fun k _ h=>wI k h) (fun k hk h=>T.JP k hk h) (fun k hk h=>?_)
  by_cases r8:k=i
  ·exact nu k r8
  ·rcases T.boxes k i hk hin r8 with h1 | h1 | h1
   ·exact T.iff hc ho hr hi (.inr h1)
   ·exact T.iff hc ho hr hi (.inl h1)
   ·have:=(h1.2 h).1; rw [hw] at this; cases this
theorem yt (t:Nat):∀k,(j4 ops tx ft S k).ρ t=(tx 0).ρ t∨∃j,j<k∧S j=true∧jr ops j=some t∧(j4 ops tx ft S k).ρ t=(tx (j+1)).ρ t
 | 0=>.inl rfl
 | k+1=>by
  by_cases h:jr ops k=some t∧S k=true
  ·exact .inr ⟨k,by omega,h.2,h.1,wD t k h.1 h.2⟩
  ·have h':¬jr ops k=some t∨S k=false:=by
    by_cases h1:jr ops k=some t
    ·right; cases hs:S k with
     | true=>exact absurd ⟨h1,hs⟩ h
     | false=>rfl
    ·exact .inl h1
   rw [wE t k h']
   rcases yt t k with h1 | ⟨j,h1,h2⟩
   ·exact .inl h1
   ·exact .inr ⟨j,by omega,h2⟩
theorem sU {k:Nat}{ρ:Nat→AV}:∀{l:List Nat},(∀t∈l,∀off,ρ t≠.lp k off)→su k ρ l=true
 | [],_=>rfl
 | t::l,h=>by
  simp only [su,WV]
  refine⟨?_,sU fun u hu=>h u (by simp [hu])⟩
  have:=h t (by simp)
  split
  ·rename_i j off heq
   simp only [bne_iff_ne,ne_eq]
   rintro rfl
   exact this off heq
  ·rfl
open Classical in
theorem sT.next (T:sT P cf aF ops tx ft ord)(hc:qa ops S)(ho:ops[i]? = some oi)(hr:∀e∈oi.after,Region.binds .any e=true→S e.on=true)(hi:S i=false){S':Nat→Bool}(C3:∀k,S' k=if k=i then true else S k) :
  lV P cf aF ops.toList (j4 ops tx ft S ops.size) oi=some (j4 ops tx ft S' ops.size):=by
 have hin:i<ops.size:=(Xt.1 ho).1
 obtain⟨h1,h2,h3,h4⟩:=T.reads hc ho hr hi
 obtain⟨w,hw,BB⟩:=T.op i oi ho
 have ry:jr ops i=oi.dst:=by simp [jr,ho]
 have vm:∀j,i<j→j<ops.size→(ord i j∨ord j i)→S j=false:=by
  intro j yr hj h
  cases hs:S j with
  | false=>rfl
  | true=>have:=(T.iff hc ho hr hi h).1 hs; omega
 have JR:j4 ops tx ft S' ops.size=(j4 ops tx ft S ops.size).shift (ft i) (jr ops i) (tx (i+1)):=by
  refine RS.ext' (fun t=>?_) (fun b=>?_) ?_
  ·rw [r9]
   have:=wC (W:=fun k=>jr ops k=some t) (m:=fun k=>(j4 ops tx ft S k).ρ t) (m':=fun k=>(j4 ops tx ft S' k).ρ t) (x:=fun k=>(tx k).ρ t) (S:=S) (S':=S') hin rfl
    (fun k _ h hs=>wD t k h hs) (fun k _ h=>wE t k h) (fun k _ h hs=>wD t k h hs) (fun k _ h=>wE t k h) C3 hi (fun Ly j hj yr Mr=>by
     obtain⟨y,hy,JQ⟩:=WR.1 Mr
     rw [ry] at Ly
     rcases T.IW i j oi y (by omega) ho hy with h | h | h
     ·exact vm j yr hj (.inl h)
     ·exact vm j yr hj (.inr h)
     ·exact absurd JQ (h t Ly).2)
   rw [this]
   by_cases hd:jr ops i=some t
   ·rw [if_pos hd,if_pos hd]
   ·rw [if_neg hd,if_neg hd]
  ·rw [oK]
   have:=wC (W:=fun k=>(ft k).wb=some b) (m:=fun k=>(j4 ops tx ft S k).bx b) (m':=fun k=>(j4 ops tx ft S' k).bx b) (x:=fun k=>(tx k).bx b) (S:=S) (S':=S') hin rfl
    (fun k _ h hs=>wF b k h hs) (fun k _ h=>wG b k h) (fun k _ h hs=>wF b k h hs) (fun k _ h=>wG b k h) C3 hi (fun Ly j hj yr Mr=>by
     rcases T.boxes i j hin hj (by omega) with h | h | h
     ·exact vm j yr hj (.inl h)
     ·exact vm j yr hj (.inr h)
     ·exact absurd Mr (h.1 b Ly).2)
   rw [this]
   by_cases hd:(ft i).wb=some b
   ·rw [if_pos hd,if_pos hd]
   ·rw [if_neg hd,if_neg hd]
  ·have:=wC (W:=fun k=>(ft k).wh=true) (m:=fun k=>(j4 ops tx ft S k).h) (m':=fun k=>(j4 ops tx ft S' k).h) (x:=fun k=>(tx k).h) (S:=S) (S':=S') hin rfl
    (fun k _ h hs=>wH k h hs) (fun k _ h=>wI k h) (fun k _ h hs=>wH k h hs) (fun k _ h=>wI k h) C3 hi (fun Ly j hj yr Mr=>by
     rcases T.boxes i j hin hj (by omega) with h | h | h
     ·exact vm j yr hj (.inl h)
     ·exact vm j yr hj (.inr h)
     ·have:=(h.2 Ly).1; rw [Mr] at this; cases this)
   rw [this]
   simp only [RS.shift]
   by_cases hd:(ft i).wh=true
   ·rw [if_pos hd,if_pos hd]
   ·rw [if_neg hd,if_neg hd]
 have Ms:∀x∈oi.op.operands,bP (j4 ops tx ft S ops.size).ρ x=bP (tx i).ρ x:=by
  intro x hx
  cases x with
  | tmp t=>
   refine h1 t ?_
   unfold Oper.looksAt
   rw [W8]
   left
   rw [List.mem_filterMap]
   exact⟨.tmp t,XP.2 hx,rfl⟩
  | _=>rfl
 have Mt:gN ops.toList (j4 ops tx ft S ops.size).ρ oi=gN ops.toList (tx i).ρ oi:=by
  unfold gN
  cases hg:oi.guard with
  | none=>rfl
  | some g=>
   obtain⟨g,want⟩:=g
   simp only
   cases hq:(ops.toList[g]?).bind (·.dst) with
   | none=>rfl
   | some d=>
    simp only [WQ]
    rw [h1 d]
    unfold Oper.looksAt
    rw [W8]
    right
    rw [hg]
    simp only
    have:(ops[g]?).bind (·.dst)=some d:=by simpa using hq
    rw [this]
    simp
 unfold lV
 rw [Mt,hw]
 simp only [WQ]
 rw [JR,ry]
 cases w with
 | false=>
  simp only [W9,if_false] at BB ⊢
  rw [BB.1,BB.2]
  congr 1
  exact ir (tx i) _ {} _ _ rfl rfl
 | true=>
  simp only [if_true] at BB ⊢
  obtain⟨BB,Lz⟩:=BB
  unfold vZ at BB ⊢
  rw [C2 Ms,Lz]
  rw [Lz] at h2 h3 h4
  refine vl BB h2 h3 h4 (fun oo d zR=>sU fun t ht off he=>?_)
  rw [Yk] at ht
  obtain⟨UK,UL⟩:=ht
  have IP:t≠d:=by simpa [beq_nat] using UL
  obtain⟨l1,l2⟩:=T.Pe i oi d ho (by rw [Lz]; exact oo) zR
  rcases yt (ops:=ops) (tx:=tx) (ft:=ft) (S:=S) t ops.size with h | ⟨j,hj,hs,UM,h⟩
  ·rw [h] at he
   exact l1 t UK IP off he
  ·rw [h] at he
   obtain⟨y,hy,JQ⟩:=WR.1 UM
   have hji:j≠i:=by rintro rfl; rw [hi] at hs; cases hs
   rcases l2 j y t hy hji with h5 | h5
   ·have:=T.down hc h5 hs; rw [hi] at this; cases this
   ·exact h5 JQ off he
theorem BC (T:sT P cf aF ops tx ft ord)(kK:∀k,k<ops.size→S k=true):∀k,k≤ops.size→j4 ops tx ft S k=tx k
 | 0,_=>rfl
 | k+1,hk=>by
  simp only [j4,kK k (by omega),if_true]
  rw [BC T kK k (by omega)]
  exact (T.shift (by omega)).symm
def left (n:Nat)(S:Nat→Bool):Nat:=(List.range n).countP fun j=>!S j
theorem C4 {n:Nat}{S:Nat→Bool}(h:left n S=0):∀k,k<n→S k=true:=by
 intro k hk
 unfold left at h
 rw [List.countP_eq_zero] at h
 simpa using h k (List.mem_range.2 hk)
theorem Ey {n i:Nat}(hi:i<n){S S':Nat→Bool}(Mp:S i=false)(C3:∀k,S' k=if k=i then true else S k):left n S'+1=left n S:=by
 unfold left
 have:∀m,(List.range m).countP (fun j=>!S' j)+(if i<m then 1 else 0)=(List.range m).countP fun j=>!S j:=by
  intro m
  induction m with
  | zero=>simp
  | succ m ih=>
   rw [List.range_succ,List.countP_append,List.countP_append]
   simp only [List.countP_cons,List.countP_nil]
   by_cases hm:m=i
   ·subst hm
    have h1:S' m=true:=by rw [C3]; simp
    rw [h1,Mp]
    simp at ih ⊢
    omega
   ·have h1:S' m=S m:=by rw [C3,if_neg hm]
    rw [h1]
    by_cases So:i<m
    ·have h3:i<m+1:=by omega
     simp only [So,h3,if_true] at ih ⊢
     omega
    ·have h3:¬i<m+1:=by omega
     simp only [So,h3,if_false] at ih ⊢
     omega
 have:=this n
 rw [if_pos hi] at this
 exact this
theorem JS (T:sT P cf aF ops tx ft ord)(hcf:CallOK P cf){L0:Nat→Prop}{c0:Cx}{n:Nat}(hb0:c0.base≤c0.w.heap.size)(ye:vk n ops.toList=true){Q:Exit→Act→World→Prop}
  (hQ:∀a' w',Inv L0 c0 n (ops.toList.filterMap (·.dst)) (tx ops.size) a' w'→Q .normal a' w') :
  ∀(fuel:Nat) (listed:Array Bool) (a:Act) (w:World),listed.size=ops.size→qa ops (fun j=>listed.getD j false)→left ops.size (fun j=>listed.getD j false)≤fuel→
   Inv L0 c0 n (ops.toList.filterMap (·.dst)) (j4 ops tx ft (fun j=>listed.getD j false) ops.size) a w→wpAny P .any ops Q fuel listed a w:=by
 intro fuel
 have Ez:∀(listed:Array Bool) a w,listed.size=ops.size→Region.ready .any ops listed=[]→Inv L0 c0 n (ops.toList.filterMap (·.dst)) (j4 ops tx ft (fun j=>listed.getD j false) ops.size) a w→Q .normal a w:=by
  intro listed a w hsz LA hi
  have kK:∀k,k<ops.size→listed.getD k false=true:=by
   intro k
   induction k using Nat.strongRecOn with
   | _ k ih=>
    intro hk
    cases hl:listed.getD k false with
    | true=>rfl
    | false=>
     have:k∈Region.ready .any ops listed:=mem_ready.2 ⟨getD_in (by omega) hl,ops[k],by simp [hk],fun e he hb=>by
      have:=T.back k ops[k] (by simp [hk]) e he hb
      exact ih e.on this (by omega)⟩
     rw [LA] at this
     cases this
  rw [BC (S:=fun j=>listed.getD j false) T kK _ (WU _)] at hi
  exact hQ a w hi
 induction fuel with
 | zero=>
  intro listed a w hsz hc hl hi
  have kK:=C4 (Nat.le_zero.1 hl)
  have LA:Region.ready .any ops listed=[]:=by
   rw [List.eq_nil_iff_forall_not_mem]
   intro j hj
   obtain⟨h1,o,ho,_⟩:=mem_ready.1 hj
   have Mu:j<ops.size:=(Xt.1 ho).1
   have h2:=kK j Mu
   have EA:j<listed.size:=by omega
   simp [EA] at h1 h2
   rw [h1] at h2; cases h2
  exact⟨LA,Ez listed a w hsz LA hi⟩
 | succ fuel ih=>
  intro listed a w hsz hc hl hi
  refine⟨fun LA=>Ez listed a w hsz LA hi,fun i wJ=>?_⟩
  obtain⟨h1,o,ho,Mw⟩:=mem_ready.1 wJ
  have hin:i<ops.size:=(Xt.1 ho).1
  have At:i<listed.size:=by omega
  have Mp:listed.getD i false=false:=by simp [At] at h1 ⊢; exact h1
  have C3:∀k,(listed.setIfInBounds i true).getD k false=if k=i then true else listed.getD k false:=by
   intro k
   by_cases hk:k=i
   ·subst hk
    rw [if_pos rfl]
    simp [At]
   ·rw [if_neg hk,getD_set_ne false (X9 hk)]
  have hst:=T.next (S:=fun j=>listed.getD j false) (S':=fun k=>(listed.setIfInBounds i true).getD k false) hc ho Mw Mp C3
  unfold wpOp
  rw [ho]
  simp only
  have Mx:o∈ops.toList:=XP.2 (Array.mem_of_getElem? ho)
  have:=yn (Q:=Q) (K:=wpAny P .any ops Q fuel (listed.setIfInBounds i true)) hcf hb0 rfl (yo ye Mx) hst hi (fun a' w' lE=>by
   refine ih _ a' w' (by simpa using hsz) ?_ ?_ lE
   ·intro j oj Ph hj e he hb
    dsimp only at hj ⊢
    rw [C3] at hj ⊢
    by_cases hji:j=i
    ·subst hji
     rw [ho] at Ph
     cases Ph
     have:=Mw e he hb
     rw [this]; simp
    ·rw [if_neg hji] at hj
     have:=hc j oj Ph hj e he hb
     simp only at this
     rw [this]; simp
   ·have:=Ey hin (S:=fun j=>listed.getD j false) Mp C3
    omega)
  split
  ·rename_i hw; rw [if_pos hw] at this; exact .inl this
  ·rename_i hw; rw [if_neg hw] at this; exact this
theorem vn {opsL:List Oper}:∀(l:List Oper) (s r:RS) (es:List rY),pT P cf aF opsL s l=some (es,r)→∃tx:Nat→RS,tx 0=s∧tx l.length=r∧
  ∀k o,l[k]? = some o→∃w,gN opsL (tx k).ρ o=some w∧(if w then vZ P cf aF (opsL.filterMap (·.dst)) (tx k) o=some (tx (k+1)) else tx (k+1)=(tx k).set o.dst (.tup []))∧
   es[k]? = some {o,f:=if w then a7 aF (bP (tx k).ρ) o else {},s:=tx k,s':=tx (k+1)}
 | [],s,r,es,h=>by
  simp only [pT,WT,W2] at h
  obtain⟨rfl,rfl⟩:=h
  exact⟨fun _=>s,rfl,rfl,fun k o ho=>by simp at ho⟩
 | o::l,s,r,es,h=>by
  simp only [pT,WR,WS] at h
  obtain⟨w,hw,s1,h1,⟨qQ,r'⟩,h2,h3⟩:=h
  simp only [W2] at h3
  obtain⟨rfl,rfl⟩:=h3
  obtain⟨tx,t0,tn,ht⟩:=vn l s1 r' qQ h2
  refine⟨fun | 0=>s | k+1=>tx k,rfl,tn,fun k o' ho=>?_⟩
  cases k with
  | zero=>
   simp only [Xz,WT] at ho
   subst ho
   refine⟨w,hw,?_,?_⟩
   ·cases w with
    | true=>simpa [t0] using h1
    | false=>
     simp only [W9,if_false,WT] at h1 ⊢
     rw [t0]; exact h1.symm
   ·simp [t0]
  | succ k=>
   obtain⟨w',h4,h5,h6⟩:=ht k o' (by simpa using ho)
   exact⟨w',h4,h5,by simpa using h6⟩
theorem EB {e:Operand→AV}{o:Oper}(h:(a7 aF e o).al=true):(a7 aF e o).wb.isSome=true:=by
 unfold a7 at h ⊢
 split at h<;>try (cases h; done)
 all_goals (split at h<;>try (cases h; done))
 all_goals (split at h<;>try (cases h; done))
 all_goals simp_all
theorem C5 {k:Nat}{x:AV}(h:Jv k x=false):∀off,x≠.lp k off:=by
 rintro off rfl
 simp [Jv] at h
theorem EC (hm:P.follows .mixedOrders=true)(hcf:CallOK P cf)(UN:SteadyF cf):Ar P cf:=by
 intro L0 c0 n aF id ops s s' h hb0 ye a w Q hi hQ
 unfold kY at h
 dsimp only at h
 split at h
 rotate_left
 ·cases h
 rename_i wK
 rw [WR] at h
 obtain⟨⟨es,r⟩,Ah,h⟩:=h
 simp only at h
 split at h
 rotate_left
 ·cases h
 rename_i yu
 cases h
 obtain⟨tx,t0,tn,ht⟩:=vn ops.toList s s' es Ah
 generalize LW:jO [] ops.toList=ms at wK yu
 have Pj:∀k i,(ms.getD i 0).testBit k=true→∃o,ops[i]? = some o∧∃e∈o.after,Region.binds .any e=true∧(e.on=k∨(ms.getD e.on 0).testBit k=true):=by
  intro k i hk
  obtain⟨o,ho,e,he,hb,h1⟩:=(q7 ops.toList []).2 i k (by rw [LW]; exact hk) (by simp)
  refine⟨o,by simpa using ho,e,XP.1 he,hb,?_⟩
  rw [LW] at h1
  exact h1
 unfold pS at wK
 simp only [WV] at wK
 obtain⟨JT,ED⟩:=wK
 let ft:Nat→kA:=fun k=>((es[k]?).map (·.f)).getD {}
 have sF:∀k o,ops[k]? = some o→∃w,gN ops.toList (tx k).ρ o=some w∧(if w then vZ P cf aF (ops.toList.filterMap (·.dst)) (tx k) o=some (tx (k+1)) else tx (k+1)=(tx k).set o.dst (.tup []))∧
   es[k]? = some {o,f:=ft k,s:=tx k,s':=tx (k+1)}∧ft k=if w then a7 aF (bP (tx k).ρ) o else {}:=by
  intro k o ho
  obtain⟨w,h1,h2,h3⟩:=ht k o (by simpa using ho)
  have Lz:ft k=if w then a7 aF (bP (tx k).ρ) o else {}:=by simp only [ft,h3,WW,XQ]
  exact⟨w,h1,h2,by rw [Lz]; exact h3,Lz⟩
 have wJ:∀k o,ops[k]? = some o→((⟨o,ft k,tx k,tx (k+1)⟩:rY),k)∈es.zipIdx:=by
  intro k o ho
  obtain⟨w,_,_,h3,_⟩:=sF k o ho
  exact List.mk_mem_zipIdx_iff_getElem?.2 h3
 simp only [Xi,Yk,WV] at yu
 have zP:∀k o,ops[k]? = some o→(ft k).quiet=false→(((⟨o,ft k,tx k,tx (k+1)⟩:rY),k)∈es.zipIdx∧(!(ft k).quiet)=true):=fun k o ho hq=>⟨wJ k o ho,by rw [hq]; rfl⟩
 have Jw:∀k,k<ops.size→ops[k]? = some ops[k]!:=fun k hk=>by simp [hk]
 have JU:∀i j x y,ops[i]? = some x→ops[j]? = some y→i≠j→(ft i).quiet=false→(ft j).quiet=false→(ms.getD j 0).testBit i=true∨(ms.getD i 0).testBit j=true∨
   rY.pR ⟨x,ft i,tx i,tx (i+1)⟩ ⟨y,ft j,tx j,tx (j+1)⟩=true:=by
  intro i j x y hx hy yr Hd He
  rcases Nat.lt_or_ge i j with hlt | hge
  ·have:=(yu _ (zP i x hx Hd)).2 _ (zP j y hy He)
   simp only [XG,WV] at this
   rcases this with (h1 | h1) | h1
   ·have:=Nat.le_of_ble_eq_true h1; omega
   ·exact .inl h1
   ·exact .inr (.inr h1.1)
  ·have:=(yu _ (zP j y hy He)).2 _ (zP i x hx Hd)
   simp only [XG,WV] at this
   rcases this with (h1 | h1) | h1
   ·have:=Nat.le_of_ble_eq_true h1; omega
   ·exact .inr (.inl h1)
   ·exact .inr (.inr h1.2)
 have Pl:∀id,(tx 0).h.ver id<(tx 0).h.next:=by
  obtain⟨_,c,Lo,lam,_,f,_⟩:=hi
  rw [t0,←f.h]; exact f.rel.ver
 have hst:∀k,k<ops.size→Steady (tx k).h (tx (k+1)).h:=by
  intro k hk
  obtain⟨w,h1,h2,_⟩:=sF k _ (Jw k hk)
  cases w with
  | true=>exact sS UN (by simpa [vZ] using h2)
  | false=>
   simp only [W9,if_false] at h2
   rw [h2,jq]; exact Steady.refl _
 have Oj:∀k,k≤ops.size→∀id,(tx k).h.ver id<(tx k).h.next:=by
  intro k
  induction k with
  | zero=>intro _; exact Pl
  | succ k ih=>intro hk; exact (hst k (by omega)).wf (ih (by omega))
 have T:sT P cf aF ops tx ft (fun k i=>(ms.getD i 0).testBit k=true):=by
  refine⟨fun k o ho=>?_,Pj,fun i o ho e he hb=>?_,fun i j x y yr hx hy=>?_,fun i j hin Mu yr=>?_,fun i o d ho oo hd=>?_⟩
  ·obtain⟨w,h1,h2,h3,h4⟩:=sF k o ho
   refine⟨w,h1,?_⟩
   cases w with
   | true=>exact⟨h2,h4⟩
   | false=>exact⟨h2,h4⟩
  ·have:=oI _ 0 JT i o (by simpa using ho) e (XP.2 he) hb
   omega
  ·have lQ:∀x y:Oper,wa ops x y=true→∀d,x.dst=some d→d∉y.looksAt ops∧y.dst≠some d:=by
    intro x y h d hd
    unfold wa at h
    rw [hd] at h
    simpa using h
   rcases Nat.lt_or_ge i j with hlt | hge
   ·have:=kp _ _ 0 ED i j x y hlt (by simpa using hx) (by simpa using hy)
    simp only [Xh,XG,WV] at this
    rcases this with h1 | h1
    ·exact .inl h1
    ·exact .inr (.inr (lQ _ _ h1.1))
   ·have:=kp _ _ 0 ED j i y x (by omega) (by simpa using hy) (by simpa using hx)
    simp only [Xh,XG,WV] at this
    rcases this with h1 | h1
    ·exact .inr (.inl h1)
    ·exact .inr (.inr (lQ _ _ h1.2))
  ·cases Hd:(ft i).quiet with
   | true=>
    unfold kA.quiet at Hd
    simp only [WV,Option.isNone_iff_eq_none,Yc] at Hd
    exact .inr (.inr ⟨fun k hk=>(by rw [Hd.1.1.2] at hk; cases hk),fun hk=>(by rw [Hd.2] at hk; cases hk)⟩)
   | false=>
    cases He:(ft j).quiet with
    | true=>
     unfold kA.quiet at He
     simp only [WV,Option.isNone_iff_eq_none,Yc,List.isEmpty_iff] at He
     obtain⟨⟨⟨q1,q2⟩,q3⟩,q4⟩:=He
     exact .inr (.inr ⟨fun k hk=>⟨by rw [q1]; simp,by rw [q2]; simp⟩,fun hk=>⟨q4,by rw [q3]; simp⟩⟩)
    | false=>
     rcases JU i j _ _ (Jw i hin) (Jw j Mu) yr Hd He with h1 | h1 | h1
     ·exact .inl h1
     ·exact .inr (.inl h1)
     ·refine .inr (.inr ?_)
      unfold rY.pR at h1
      simp only [WV,XG,Yc,Xi] at h1
      obtain⟨h2,h3⟩:=h1
      refine⟨fun k hk=>?_,fun hk=>?_⟩
      ·rw [hk] at h2
       simpa using h2
      ·rcases h3 with h3 | h3
       ·rw [hk] at h3; cases h3
       ·refine⟨h3.1,fun id hid=>?_⟩
        have hv:=X8 (h3.2 id hid)
        rcases (hst i hin).gg id with⟨_,h5⟩| h5
        ·exact h5.symm
        ·have:=Oj i (by omega) id; omega
  ·obtain⟨w,h1,h2,h3,h4⟩:=sF i o ho
   have hq:(ft i).quiet=false:=by
    cases w with
    | false=>rw [h4] at oo; cases oo
    | true=>
     rw [h4] at oo ⊢
     have:=EB oo
     unfold kA.quiet
     simp only [if_true] at this ⊢
     cases hwb:(a7 aF (bP (tx i).ρ) o).wb with
     | none=>rw [hwb] at this; cases this
     | some k=>simp
   have:=(yu _ (zP i o ho hq)).1
   unfold wc at this
   simp only [oo,hd] at this
   simp only [WV,Xi,XG] at this
   obtain⟨k1,k2⟩:=this
   refine⟨fun t ht IP off=>?_,fun j y t hy hji=>?_⟩
   ·rw [t0]
    exact pW k1 t (by rw [Yk]; exact⟨ht,by simpa [beq_nat] using IP⟩) off
   ·have:=k2 _ (wJ j y hy)
    rcases this with (h5 | h5) | h5
    ·have:=X8 h5; omega
    ·exact .inl h5
    ·right
     intro JQ off
     simp only [rY.out,JQ,Yc] at h5
     exact C5 h5 off
 have hlen:tx ops.size=s':=by simpa using tn
 refine wp_region_any hm ?_
 refine JS T hcf hb0 ye (fun a' w' lE=>hQ a' w' (by rw [hlen] at lE; exact lE)) ops.size _ _ _ (by simp) ?_ ?_ ?_
 ·intro j o _ hj
  simp only [getD_replicate_false] at hj
  cases hj
 ·unfold left
  exact XD (List.countP_le_length) (by simp)
 ·have Em:∀k,j4 ops tx ft (fun j=>(Array.replicate ops.size false).getD j false) k=tx 0:=by
   intro k
   induction k with
   | zero=>rfl
   | succ k ih=>
    rw [j4,getD_replicate_false,if_neg (by simp)]
    exact ih
  rw [Em,t0]
  exact hi.drew
end
end Go.R
namespace Go.R
open Go
section
variable {c d:Cx}{L L':Nat→Prop}
mutual
theorem BD (hw:d.w=c.w)(hbs:d.base≤c.base)(lg:∀b,RO c L b→RO d L' b):∀(x:AV) (v:Value),x.dI=true→VR c L x v→VR d L' x v
 | .any,_,h,_=>by simp [AV.dI] at h
 | .bool _,_,_,h=>h
 | .int _ _,_,_,h=>h
 | .str _,_,_,h=>h
 | .rq,_,_,h=>h
 | .ptr _ _,_,h,_=>by simp [AV.dI] at h
 | .lp _ _,_,h,_=>by simp [AV.dI] at h
 | .fp cs off,v,h,hv=>by
  simp only [AV.dI] at h
  simp only [VR] at hv ⊢
  obtain⟨b,o,rfl,hc⟩:=hv
  exact⟨b,o,rfl,hc.imp id fun ⟨hr,hc⟩=>⟨lg b hr,nQ hw hbs lg cs b o h hc⟩⟩
 | .nils,_,_,h=>h
 | .fz cs n ex,v,h,hv=>by
  simp only [AV.dI] at h
  simp only [VR] at hv ⊢
  obtain⟨a,cap,rfl,h1,h2,hs,hc⟩:=hv
  exact⟨a,cap,rfl,h1,h2,hs,hc.imp id fun ⟨b,o,ha,hr,hex,hc⟩=>⟨b,o,ha,lg b hr,fun h=>XD hbs (hex h),nQ hw hbs lg cs b o h hc⟩⟩
 | .rs _ _ _ _,_,h,_=>by simp [AV.dI] at h
 | .nH,_,_,h=>h
 | .mp _,_,h,_=>by simp [AV.dI] at h
 | .fn f cap,v,h,hv=>by
  simp only [AV.dI] at h
  simp only [VR] at hv ⊢
  obtain⟨vs,rfl,h1⟩:=hv
  exact⟨vs,rfl,oL hw hbs lg cap vs.toList h h1⟩
 | .so,_,_,h=>h
 | .agg cs,v,h,hv=>by
  simp only [AV.dI] at h
  simp only [VR] at hv ⊢
  obtain⟨vs,rfl,h1⟩:=hv
  exact⟨vs,rfl,oL hw hbs lg cs vs.toList h h1⟩
 | .tup cs,v,h,hv=>by
  simp only [AV.dI] at h
  simp only [VR] at hv ⊢
  obtain⟨vs,rfl,h1⟩:=hv
  exact⟨vs,rfl,oL hw hbs lg cs vs.toList h h1⟩
theorem oL (hw:d.w=c.w)(hbs:d.base≤c.base)(lg:∀b,RO c L b→RO d L' b):∀(xs:List AV) (vs:List Value),cW xs=true→VRs c L xs vs→VRs d L' xs vs
 | [],[],_,_=>trivial
 | x::xs,v::vs,h,hv=>by
  simp only [cW,WV] at h
  exact⟨BD hw hbs lg x v h.1 hv.1,oL hw hbs lg xs vs h.2 hv.2⟩
 | [],_::_,_,h=>h.elim
 | _::_,[],_,h=>h.elim
theorem nQ (hw:d.w=c.w)(hbs:d.base≤c.base)(lg:∀b,RO c L b→RO d L' b):∀(xs:List AV) (b o:Nat),cW xs=true→Cells c L xs b o→Cells d L' xs b o
 | [],_,_,_,_=>trivial
 | x::xs,b,o,h,hv=>by
  simp only [cW,WV] at h
  obtain⟨⟨v,h1,h2,h3⟩,h4⟩:=hv
  exact⟨⟨v,by rw [hw]; exact h1,h2,BD hw hbs lg x v h.1 h3⟩,nQ hw hbs lg xs b (o+1) h.2 h4⟩
end
mutual
theorem wL (hw:d.w=c.w)(lg:∀b,RO c L b→RO d L' b):∀(x:AV) (v:Value),x.dI=true→VR c L x v→VR d L' x.j5 v
 | .any,_,h,_=>by simp [AV.dI] at h
 | .bool _,_,_,h=>h
 | .int _ _,_,_,h=>h
 | .str _,_,_,h=>h
 | .rq,_,_,h=>h
 | .ptr _ _,_,h,_=>by simp [AV.dI] at h
 | .lp _ _,_,h,_=>by simp [AV.dI] at h
 | .fp cs off,v,h,hv=>by
  simp only [AV.dI] at h
  simp only [VR,AV.j5] at hv ⊢
  obtain⟨b,o,rfl,hc⟩:=hv
  refine⟨b,o,rfl,?_⟩
  rcases hc with rfl | ⟨hr,hc⟩
  ·exact .inl rfl
  ·exact .inr ⟨lg b hr,qd hw lg cs b o h hc⟩
 | .nils,v,_,h=>by
  simp only [VR] at h
  simp only [AV.j5,VR]
  exact⟨none,0,h,WU _,by simp,.inr ⟨trivial,rfl⟩,.inl trivial⟩
 | .fz cs n ex,v,h,hv=>by
  simp only [AV.dI] at h
  simp only [VR,AV.j5] at hv ⊢
  obtain⟨a,cap,rfl,h1,h2,hs,hc⟩:=hv
  refine⟨a,cap,rfl,h1,by simp,hs.imp id fun h=>⟨by rw [h.1]; rfl,h.2⟩,?_⟩
  rcases hc with rfl | ⟨b,o,ha,hr,hex,hc⟩
  ·exact .inl rfl
  ·exact .inr ⟨b,o,ha,lg b hr,by simp,qd hw lg cs b o h hc⟩
 | .rs _ _ _ _,_,h,_=>by simp [AV.dI] at h
 | .nH,_,_,h=>h
 | .mp _,_,h,_=>by simp [AV.dI] at h
 | .fn f cap,v,h,hv=>by
  simp only [AV.dI] at h
  simp only [VR,AV.j5] at hv ⊢
  obtain⟨vs,rfl,h1⟩:=hv
  exact⟨vs,rfl,oM hw lg cap vs.toList h h1⟩
 | .so,_,_,h=>h
 | .agg cs,v,h,hv=>by
  simp only [AV.dI] at h
  simp only [VR,AV.j5] at hv ⊢
  obtain⟨vs,rfl,h1⟩:=hv
  exact⟨vs,rfl,oM hw lg cs vs.toList h h1⟩
 | .tup cs,v,h,hv=>by
  simp only [AV.dI] at h
  simp only [VR,AV.j5] at hv ⊢
  obtain⟨vs,rfl,h1⟩:=hv
  exact⟨vs,rfl,oM hw lg cs vs.toList h h1⟩
theorem oM (hw:d.w=c.w)(lg:∀b,RO c L b→RO d L' b):∀(xs:List AV) (vs:List Value),cW xs=true→VRs c L xs vs→VRs d L' (dm xs) vs
 | [],[],_,_=>trivial
 | x::xs,v::vs,h,hv=>by
  simp only [cW,WV] at h
  exact⟨wL hw lg x v h.1 hv.1,oM hw lg xs vs h.2 hv.2⟩
 | [],_::_,_,h=>h.elim
 | _::_,[],_,h=>h.elim
theorem qd (hw:d.w=c.w)(lg:∀b,RO c L b→RO d L' b):∀(xs:List AV) (b o:Nat),cW xs=true→Cells c L xs b o→Cells d L' (dm xs) b o
 | [],_,_,_,_=>trivial
 | x::xs,b,o,h,hv=>by
  simp only [cW,WV] at h
  obtain⟨⟨v,h1,h2,h3⟩,h4⟩:=hv
  exact⟨⟨v,by rw [hw]; exact h1,h2,wL hw lg x v h.1 h3⟩,qd hw lg xs b (o+1) h.2 h4⟩
end
mutual
theorem qe (hw:d.w=c.w)(lg:∀b,RO c L b→RO d L' b)(hrel:HRel c L)(hid:∀id,Live c.h id→RO d L' (c.β id).1):∀(n:Nat) (x y:AV) (v:Value),cp c.h n x=some y→VR c L x v→VR d L' y v
 | 0,x,y,v,h,_=>by simp [cp] at h
 | n+1,x,y,v,h,hv=>by
  have Pm:(if x.dI then some x.j5 else none)=some y→VR d L' y v:=by
   intro h
   split at h
   ·rename_i hn; cases h; exact wL hw lg x v hn hv
   ·cases h
  cases x with
  | ptr id off=>
   simp only [cp,WR] at h
   obtain⟨ob,ho,h⟩:=h
   cases ob with
   | map es=>cases h
   | row t cs=>cases h
   | cells cs=>
    simp only [WS] at h
    obtain⟨fH,hcs,rfl⟩:=h
    have hl:Live c.h id:=⟨hrel.lt _ _ ho,by simp [ho]⟩
    obtain⟨m,_,_,hc⟩:=hrel.obj _ _ ho
    simp only [VR] at hv ⊢
    obtain⟨_,a,rfl,ha⟩:=hv
    rw [ha hl]
    exact⟨_,_,rfl,.inr ⟨hid id hl,jW hw lg hrel hid n cs fH _ _ hcs hc⟩⟩
  | rs id off len jw=>
   simp only [cp] at h
   split at h
   ·rename_i hid
    split at h
    rotate_left
    ·cases h
    rename_i hl0
    cases h
    simp only [VR] at hv ⊢
    rcases hv with⟨_,_,_,a,rfl⟩| hv
    ·exact⟨a,0,rfl,WU _,by simp,.inr ⟨trivial,rfl⟩,.inl trivial⟩
    ·exact absurd hid hv.1
   rename_i lK
   rw [WR] at h
   obtain⟨ob,ho,h⟩:=h
   cases ob with
   | map es=>cases h
   | row t cs=>cases h
   | cells cs=>
    simp only at h
    split at h
    rotate_left
    ·cases h
    rename_i hle
    simp only [WS] at h
    obtain⟨fH,hcs,rfl⟩:=h
    have hl:Live c.h id:=⟨hrel.lt _ _ ho,by simp [ho]⟩
    obtain⟨m,_,_,hc⟩:=hrel.obj _ _ ho
    simp only [VR] at hv ⊢
    rcases hv with hv | ⟨_,_,a,cap,rfl,h1,h2,h3⟩
    ·exact absurd hv.1 lK
    refine⟨a,cap,rfl,h1,by simp,.inl h2,?_⟩
    rcases h3 hl with⟨h4,_⟩| h4
    ·exact .inr ⟨_,_,h4,hid id hl,by simp,jW hw lg hrel hid n _ fH _ _ hcs ((hc.drop off).take (len*jw))⟩
    ·left
     have hz:len=0:=by omega
     subst hz
     rw [Nat.zero_mul,List.take_zero] at hcs
     cases n with
     | zero=>simp [bM] at hcs
     | succ n=>simp only [bM,WT] at hcs; exact hcs.symm
  | agg cs=>
   simp only [cp,WS] at h
   obtain⟨fH,hcs,rfl⟩:=h
   simp only [VR] at hv ⊢
   obtain⟨vs,rfl,h1⟩:=hv
   exact⟨vs,rfl,kg hw lg hrel hid n cs fH vs.toList hcs h1⟩
  | tup cs=>
   simp only [cp,WS] at h
   obtain⟨fH,hcs,rfl⟩:=h
   simp only [VR] at hv ⊢
   obtain⟨vs,rfl,h1⟩:=hv
   exact⟨vs,rfl,kg hw lg hrel hid n cs fH vs.toList hcs h1⟩
  | _=>exact Pm (by simpa only [cp] using h)
theorem kg (hw:d.w=c.w)(lg:∀b,RO c L b→RO d L' b)(hrel:HRel c L)(hid:∀id,Live c.h id→RO d L' (c.β id).1):∀(n:Nat) (xs ys:List AV) (vs:List Value),bM c.h n xs=some ys→VRs c L xs vs→VRs d L' ys vs
 | 0,xs,ys,vs,h,_=>by simp [bM] at h
 | n+1,[],ys,vs,h,hv=>by
  simp only [bM,WT] at h
  subst h
  cases vs with
  | nil=>trivial
  | cons v vs=>exact hv.elim
 | n+1,x::xs,ys,vs,h,hv=>by
  simp only [bM,WR,WS] at h
  obtain⟨y,hy,zs,hz,rfl⟩:=h
  cases vs with
  | nil=>exact hv.elim
  | cons v vs=>exact⟨qe hw lg hrel hid n x y v hy hv.1,kg hw lg hrel hid n xs zs vs hz hv.2⟩
theorem jW (hw:d.w=c.w)(lg:∀b,RO c L b→RO d L' b)(hrel:HRel c L)(hid:∀id,Live c.h id→RO d L' (c.β id).1):∀(n:Nat) (xs ys:List AV) (b o:Nat),bM c.h n xs=some ys→Cells c L xs b o→Cells d L' ys b o
 | 0,xs,ys,b,o,h,_=>by simp [bM] at h
 | n+1,[],ys,b,o,h,hv=>by
  simp only [bM,WT] at h
  subst h
  trivial
 | n+1,x::xs,ys,b,o,h,hv=>by
  simp only [bM,WR,WS] at h
  obtain⟨y,hy,zs,hz,rfl⟩:=h
  obtain⟨⟨v,h1,h2,h3⟩,h4⟩:=hv
  exact⟨⟨v,by rw [hw]; exact h1,h2,qe hw lg hrel hid n x y v hy h3⟩,jW hw lg hrel hid n xs zs b (o+1) hz h4⟩
end
mutual
theorem nR (hw:d.w=c.w)(hrel:HRel c L)(hid:∀id,Live c.h id→RO d L' (c.β id).1):∀(n:Nat) (x y:AV) (v:Value),fI c.h n x=some y→VR c L x v→VR d L' y v
 | 0,x,y,v,h,_=>by simp [fI] at h
 | n+1,x,y,v,h,hv=>by
  unfold fI at h
  split at h
  ·cases h; exact hv
  ·cases h; exact hv
  ·cases h; exact hv
  ·cases h; exact hv
  ·cases h; exact hv
  ·cases h; exact hv
  ·cases h
   simp only [VR] at hv ⊢
   exact⟨none,0,hv,WU _,by simp,.inr ⟨trivial,rfl⟩,.inl trivial⟩
  ·cases h
   simp only [VR] at hv ⊢
   obtain⟨a,cap,rfl,h1,h2,hs,_⟩:=hv
   exact⟨a,cap,rfl,h1,by simp,hs,.inl trivial⟩
  ·rename_i id off len jw
   split at h
   ·rename_i lK
    split at h
    rotate_left
    ·cases h
    rename_i hl0
    cases h
    simp only [VR] at hv ⊢
    rcases hv with⟨_,_,_,a,rfl⟩| hv
    ·exact⟨a,0,rfl,WU _,by simp,.inr ⟨trivial,rfl⟩,.inl trivial⟩
    ·exact absurd lK hv.1
   rename_i lK
   rw [WR] at h
   obtain⟨ob,ho,h⟩:=h
   cases ob with
   | map es=>cases h
   | row t cs=>cases h
   | cells cs=>
    simp only at h
    split at h
    rotate_left
    ·cases h
    rename_i hle
    simp only [WS] at h
    obtain⟨fH,hcs,rfl⟩:=h
    have hl:Live c.h id:=⟨hrel.lt _ _ ho,by simp [ho]⟩
    obtain⟨m,_,_,hc⟩:=hrel.obj _ _ ho
    simp only [VR] at hv ⊢
    rcases hv with hv | ⟨_,_,a,cap,rfl,h1,h2,h3⟩
    ·exact absurd hv.1 lK
    refine⟨a,cap,rfl,h1,by simp,.inl h2,?_⟩
    rcases h3 hl with⟨h4,_⟩| h4
    ·exact .inr ⟨_,_,h4,hid id hl,by simp,lF hw hrel hid n _ fH _ _ hcs ((hc.drop off).take (len*jw))⟩
    ·left
     have hz:len=0:=by omega
     subst hz
     rw [Nat.zero_mul,List.take_zero] at hcs
     cases n with
     | zero=>simp [db] at hcs
     | succ n=>simp only [db,WT] at hcs; exact hcs.symm
  ·rename_i cs
   simp only [WS] at h
   obtain⟨fH,hcs,rfl⟩:=h
   simp only [VR] at hv ⊢
   obtain⟨vs,rfl,h1⟩:=hv
   exact⟨vs,rfl,me hw hrel hid n cs fH vs.toList hcs h1⟩
  ·rename_i cs
   simp only [WS] at h
   obtain⟨fH,hcs,rfl⟩:=h
   simp only [VR] at hv ⊢
   obtain⟨vs,rfl,h1⟩:=hv
   exact⟨vs,rfl,me hw hrel hid n cs fH vs.toList hcs h1⟩
  ·cases h
theorem me (hw:d.w=c.w)(hrel:HRel c L)(hid:∀id,Live c.h id→RO d L' (c.β id).1):∀(n:Nat) (xs ys:List AV) (vs:List Value),db c.h n xs=some ys→VRs c L xs vs→VRs d L' ys vs
 | 0,xs,ys,vs,h,_=>by simp [db] at h
 | n+1,[],ys,vs,h,hv=>by
  simp only [db,WT] at h
  subst h
  cases vs with
  | nil=>trivial
  | cons v vs=>exact hv.elim
 | n+1,x::xs,ys,vs,h,hv=>by
  simp only [db,WR,WS] at h
  obtain⟨y,hy,zs,hz,rfl⟩:=h
  cases vs with
  | nil=>exact hv.elim
  | cons v vs=>exact⟨nR hw hrel hid n x y v hy hv.1,me hw hrel hid n xs zs vs hz hv.2⟩
theorem lF (hw:d.w=c.w)(hrel:HRel c L)(hid:∀id,Live c.h id→RO d L' (c.β id).1):∀(n:Nat) (xs ys:List AV) (b o:Nat),db c.h n xs=some ys→Cells c L xs b o→Cells d L' ys b o
 | 0,xs,ys,b,o,h,_=>by simp [db] at h
 | n+1,[],ys,b,o,h,hv=>by
  simp only [db,WT] at h
  subst h
  trivial
 | n+1,x::xs,ys,b,o,h,hv=>by
  simp only [db,WR,WS] at h
  obtain⟨y,hy,zs,hz,rfl⟩:=h
  obtain⟨⟨v,h1,h2,h3⟩,h4⟩:=hv
  exact⟨⟨v,by rw [hw]; exact h1,h2,nR hw hrel hid n x y v hy h3⟩,lF hw hrel hid n xs zs b (o+1) hz h4⟩
end
end
section
variable {P:Program}
theorem HI {cf:CallF}(hcf:CallOK P cf)(deep:Nat):CallOK P fun f args h=>if cW args then (cf f (dm args) bE).bind fun x=>(cp x.2 deep x.1).map fun r=>(r,h) else cf f args h:=by
 intro f args h r h' hc
 dsimp only at hc
 split at hc
 rotate_left
 ·exact hcf f args h r h' hc
 rename_i sI
 rw [WR] at hc
 obtain⟨⟨x,h1⟩,hx,hc⟩:=hc
 rw [WS] at hc
 obtain⟨r',hr,he⟩:=hc
 simp only [W2] at he
 obtain⟨rfl,rfl⟩:=he
 obtain⟨hin,hcall⟩:=hcf f (dm args) bE x h1 hx
 refine⟨hin,fun L0 c vs hh hb0 hrel hargs=>?_⟩
 let L1:Nat→Prop:=fun b=>L0 b∨∃id,Live c.h id∧(c.β id).1=b
 let c0:Cx:=⟨fun _=>(0,0),bE,c.w,c.w.heap.size⟩
 have hnl:∀id,¬Live c0.h id:=fun id hl=>by have:=hl.2; cases this
 have JV:∀b,RO c L0 b→RO c0 L1 b:=fun b hb=>⟨fun id hl=>absurd hl (hnl id),fun h=>by
  rcases h with h | ⟨id,h1,h2⟩
  ·exact hb.2 h
  ·exact hb.1 id h1 h2⟩
 have EE:HRel c0 L1:=⟨fun id o ho=>(by cases ho),fun id o ho=>(by cases ho),fun id _ hl _ _=>absurd hl (hnl id),fun id hl=>absurd hl (hnl id),fun b hb=>by
  rcases hb with h | ⟨id,h1,h2⟩
  ·exact hrel.bd b h
  ·rw [←h2]; exact hrel.block h1,fun id hl=>absurd hl (hnl id),fun _=>Nat.zero_lt_one⟩
 refine (hcall L1 c0 vs rfl (WU _) EE (oM (c:=c) (d:=c0) rfl JV _ _ sI hargs)).mono ?_
 rintro e w' ⟨c1,v,rfl,rfl,Pn,hv,hrel1,e1⟩
 let d:Cx:=⟨c.β,c.h,c1.w,c.base⟩
 have hk:∀b,b<c.w.heap.size→c1.w.heap[b]? = c.w.heap[b]?:=fun b hb=>e1.exact b hb
 have ed:Ext c none0 d none0:=⟨WU _,fun id _ hl=>⟨hl,rfl,iG.len (c:=c) (c':=d) (.inl (hk _ (hrel.block hl)))⟩,e1.size,fun b hb _ _=>.inl (hk b hb),fun b hb=>hk b (Xl hb hb0),rfl,fun id hl=>.inr ⟨id,hl,rfl⟩,fun _ h=>h,fun _ h=>.inl h,e1.os,e1.tape,e1.output⟩
 have hb1:d.base≤c1.base:=by rw [e1.base]; exact hb0
 have Po:∀b,RO c1 L1 b→RO d L0 b:=fun b hb=>⟨fun id hl he=>hb.2 (.inr ⟨id,hl,he⟩),fun h=>hb.2 (.inl h)⟩
 refine⟨d,v,rfl,rfl,hh,?_,⟨hrel.lt,fun id o ho=>?_,hrel.inj,hrel.out,fun b hb=>Xl (hrel.bd b hb) e1.size,hrel.low,hrel.ver⟩,ed⟩
 ·refine qe (c:=c1) (d:=d) (L:=L1) rfl Po hrel1 (fun id hl=>⟨fun ox u7 he=>hrel1.out id hl (.inr ⟨ox,u7,he⟩),fun h=>hrel1.out id hl (.inl h)⟩) deep x r' v ?_ hv
  rw [Pn]; exact hr
 ·have hl:Live c.h id:=⟨hrel.lt _ _ ho,by rw [ho]; rfl⟩
  have:=(hrel.obj id o ho)
  have h2:=ru.ext (L0:=L0) ed (b:=(c.β id).1) (base:=(c.β id).2) (o:=o) (by rw [kL]; exact this) (hk _ (hrel.block hl))
  rw [kL] at h2
  exact h2
theorem oN {c:Cx}{L:Nat→Prop}:∀{xs:List AV} {vs:List Value},VRs c L xs vs→VRs c L (xs.map ay) vs
 | [],[],_=>trivial
 | x::_,_::_,h=>⟨by
   unfold ay
   cases hn:x.dI with
   | false=>exact h.1
   | true=>exact wL rfl (fun _ h=>h) x _ hn h.1,oN h.2⟩
 | [],_::_,h=>h.elim
 | _::_,[],h=>h.elim
theorem yv {cf:CallF}(hcf:CallOK P cf):CallOK P fun f args h=>cf f (args.map ay) h:=by
 intro f args h r h' hc
 obtain⟨h1,h2⟩:=hcf f _ h r h' hc
 exact⟨h1,fun L0 c vs hh hb0 hrel hargs=>h2 L0 c vs hh hb0 hrel (oN hargs)⟩
theorem HJ {cf:CallF}(hcf:CallOK P cf)(deep:Nat):CallOK P fun f args h=>(bM h deep args).bind fun as=>(cf f as bE).bind fun x=>(fI x.2 deep x.1).map fun r=>(r,h):=by
 intro f args h r h' hc
 dsimp only at hc
 simp only [WR,WS,W2] at hc
 obtain⟨as,has,⟨x,h1⟩,hx,r',hr,rfl,rfl⟩:=hc
 obtain⟨hin,hcall⟩:=hcf f as bE x h1 hx
 refine⟨hin,fun L0 c vs hh hb0 hrel hargs=>?_⟩
 let c0:Cx:=⟨fun _=>(0,0),bE,c.w,c.w.heap.size⟩
 have hnl:∀id,¬Live c0.h id:=fun id hl=>by have:=hl.2; cases this
 have JV:∀b,RO c L0 b→RO c0 L0 b:=fun b hb=>⟨fun id hl=>absurd hl (hnl id),hb.2⟩
 have EE:HRel c0 L0:=⟨fun id o ho=>(by cases ho),fun id o ho=>(by cases ho),fun id _ hl _ _=>absurd hl (hnl id),fun id hl=>absurd hl (hnl id),hrel.bd,fun id hl=>absurd hl (hnl id),fun _=>Nat.zero_lt_one⟩
 have JW:VRs c0 L0 as vs:=kg (c:=c) (d:=c0) rfl JV hrel (fun id hl=>⟨fun ox u7=>absurd u7 (hnl ox),hrel.out id hl⟩) deep args as vs (by rw [hh]; exact has) hargs
 refine (hcall L0 c0 vs rfl (WU _) EE JW).mono ?_
 rintro e w' ⟨c1,v,rfl,rfl,Pn,hv,hrel1,e1⟩
 let d:Cx:=⟨c.β,c.h,c1.w,c.base⟩
 have hk:∀b,b<c.w.heap.size→c1.w.heap[b]? = c.w.heap[b]?:=fun b hb=>e1.exact b hb
 have ed:Ext c none0 d none0:=⟨WU _,fun id _ hl=>⟨hl,rfl,iG.len (c:=c) (c':=d) (.inl (hk _ (hrel.block hl)))⟩,e1.size,fun b hb _ _=>.inl (hk b hb),fun b hb=>hk b (Xl hb hb0),rfl,fun id hl=>.inr ⟨id,hl,rfl⟩,fun _ h=>h,fun _ h=>.inl h,e1.os,e1.tape,e1.output⟩
 refine⟨d,v,rfl,rfl,hh,?_,⟨hrel.lt,fun id o ho=>?_,hrel.inj,hrel.out,fun b hb=>Xl (hrel.bd b hb) e1.size,hrel.low,hrel.ver⟩,ed⟩
 ·refine nR (c:=c1) (d:=d) (L:=L0) rfl hrel1 (fun id hl=>⟨fun ox u7 he=>?_,hrel1.out id hl⟩) deep x r' v ?_ hv
  ·rcases e1.IM id hl with h2 | ⟨qR,h2,_⟩
   ·have:=hrel.block u7
    have h3:(c.β ox).1=(c1.β id).1:=he
    have h4:c.w.heap.size≤(c1.β id).1:=h2
    omega
   ·exact absurd h2 (hnl qR)
  ·rw [Pn]; exact hr
 ·have hl:Live c.h id:=⟨hrel.lt _ _ ho,by rw [ho]; rfl⟩
  have:=(hrel.obj id o ho)
  have h2:=ru.ext (L0:=L0) ed (b:=(c.β id).1) (base:=(c.β id).2) (o:=o) (by rw [kL]; exact this) (hk _ (hrel.block hl))
  rw [kL] at h2
  exact h2
theorem lh {T:ow}(q8:IntrOK P T.intr)(m:Nat):∀k,SteadyF (eV P T m k)
 | 0=>fun f args h r h' hc=>by simp [eV] at hc
 | k+1=>fun f args h r h' hc=>by
  have hb:=wA (P:=P) (aS:=T.aS) (m:=m) (lh q8 m k)
  simp only [eV] at hc
  split at hc
  ·rename_i g hg
   exact (q8 f g hg).2 _ _ _ _ hc
  ·split at hc
   ·split at hc
    ·rw [WR] at hc
     obtain⟨x,_,hc⟩:=hc
     obtain⟨r',_,h2⟩:=Option.map_some' hc
     cases h2
     exact Steady.refl _
    ·split at hc
     ·rw [WR] at hc
      obtain⟨x,_,hc⟩:=hc
      obtain⟨r',_,h2⟩:=Option.map_some' hc
      cases h2
      exact Steady.refl _
     ·exact hb _ _ _ _ _ hc
   ·exact hb _ _ _ _ _ hc
theorem sV (hP:Fit P){T:ow}(q8:IntrOK P T.intr)(m:Nat):∀k,CallOK P (eV P T m k)
 | 0=>fun f args h r h' hc=>by simp [eV] at hc
 | k+1=>fun f args h r h' hc=>by
  have ih:=sV hP q8 m k
  have hb:=Eu hP (aS:=T.aS) ih (EC hP.mixed ih (lh q8 m k)) m
  simp only [eV] at hc
  split at hc
  ·rename_i g hg
   exact (q8 f g hg).1 f args h r h' (by simpa using hc)
  ·split at hc
   ·rename_i deep _
    by_cases sI:cW args=true
    ·exact HI hb deep f args h r h' (by dsimp only; rw [if_pos sI] at hc ⊢; exact hc)
    ·rw [if_neg sI] at hc
     split at hc
     ·rename_i as has
      refine HJ hb deep f args h r h' ?_
      dsimp only
      rw [has]
      exact hc
     ·exact yv hb f args h r h' hc
   ·exact yv hb f args h r h' hc
def My (P : Program) : Bool := P.funcs.toList.all fun fn => fn.name != "runtime.NumGoroutine" && match fn.body with | some c => ke fn.ntmps c | none => true
theorem JX (h1:P.follows .mixedOrders=true)(h2:My P=true):Fit P:=by
 refine⟨h1,fun f fn c hf hb=>?_⟩
 unfold My at h2
 rw [Xi] at h2
 have:=h2 fn (XP.2 (Array.mem_of_getElem? hf))
 rw [hb] at this
 simp only [WV,bne_iff_ne,ne_eq] at this
 exact⟨this.2,this.1⟩
theorem C6:IntrOK P fun _=>none:=fun f g h=>by cases h
end
end Go.R
namespace Go.R
open Go
def Au (P:Program)(F:TypeId→List AV→Prop):List Field→List AV→Prop
 | [],xs=>xs=[]
 | f::fs,xs=>∃a b,xs=a++b∧a.length=P.cellsOf f.type∧F f.type a∧Au P F fs b
def Fits (P:Program):Nat→TypeId→List AV→Prop
 | 0,_,_=>False
 | n+1,t,xs=>
  match P.underlying t with
  | some .bool=>∃b,xs=[.bool b]
  | some (.int k)=>∃z,xs=[.int k z]∧k.min≤z∧z≤k.max
  | some .string=>∃s:ByteArray,xs=[.str s]∧s.size≤maxLen
  | some (.slice e)=>xs=[.nils]∨∃els:List (List AV),xs=[.fz els.flatten els.length false]∧els.length≤maxLen∧∀el∈els,el.length=P.cellsOf e∧Fits P n e el
  | some (.struct fs)=>Au P (Fits P n) fs.toList xs
  | _=>False
def sa (P:Program):Nat→List Field→Bool
 | _,[]=>true
 | k,f::fs=>XB f.offset k&&sa P (k+P.cellsOf f.type) fs
def mf (P:Program):Nat→TypeId→Bool
 | 0,_=>false
 | n+1,t=>
  match P.underlying t with
  | some .bool | some (.int _) | some .string=>true
  | some (.slice e)=>mf P n e
  | some (.struct fs)=>sa P 0 fs.toList&&XB (P.cellsOf t) ((fs.toList.map fun f=>P.cellsOf f.type).sum)&&fs.toList.all fun f=>mf P n f.type
  | _=>false
theorem mapM_some {α β:Type}{f:α→Option β}:∀{l:List α} {ys:List β},l.mapM f=some ys→ys.length=l.length∧∀(i:Nat) (x:α),l[i]? = some x→∃y,ys[i]? = some y∧f x=some y
 | [],ys,h=>by
  simp at h; subst h
  exact⟨rfl,fun i x hx=>by simp at hx⟩
 | a::l,ys,h=>by
  simp only [List.mapM_cons,Option.bind_eq_bind,WR,Option.pure_def,WT] at h
  obtain⟨y,hy,zs,hz,rfl⟩:=h
  obtain⟨h1,h2⟩:=mapM_some hz
  refine⟨by simp [h1],fun i x hx=>?_⟩
  cases i with
  | zero=>simp at hx; subst hx; exact⟨y,rfl,hy⟩
  | succ i=>simpa using h2 i x (by simpa using hx)
theorem Av {w:World}{a:Addr}{v:Value}(h:w.cell? a=some v):w.cell? ⟨a.block,a.off,none⟩=some v∧a.spot=none:=by
 unfold World.cell? at h ⊢
 split at h
 ·rename_i c t fr hb
  rw [hb]
  simp only at h ⊢
  cases hs:a.spot with
  | none=>rw [hs] at h; exact⟨by simpa using h,rfl⟩
  | some _=>rw [hs] at h; simp at h
 ·cases h
theorem mS (a:Addr)(n:Nat):(a.add n).block=a.block∧(a.add n).off=a.off+n:=by
 unfold Addr.add
 split
 ·rename_i h; subst h; exact⟨rfl,rfl⟩
 ·exact⟨rfl,rfl⟩
theorem yw {w:World}{base:Nat}{a:Addr}{n:Nat}{cs:List Value}(h:w.cells? base a n=some cs):cs.length=n∧∀i,i<n→w.cell? ⟨a.block,a.off+i,none⟩=cs[i]?∧(i=0→a.spot=none):=by
 unfold World.cells? at h
 split at h
 ·obtain⟨h1,h2⟩:=mapM_some h
  refine⟨by simpa using h1,fun i hi=>?_⟩
  obtain⟨y,hy,hc⟩:=h2 i i (by simp [hi])
  obtain⟨h3,h4⟩:=Av hc
  rw [(mS a i).1,(mS a i).2] at h3
  refine⟨by rw [h3,hy],fun h0=>?_⟩
  subst h0
  simpa [Addr.add] using h4
 ·cases h
theorem q9 {α:Type}{Q:Nat→α→Prop}:∀n,(∀i,i<n→∃x,Q i x)→∃l:List α,l.length=n∧∀i x,l[i]? = some x→Q i x
 | 0,_=>⟨[],rfl,fun i x h=>by simp at h⟩
 | n+1,h=>by
  obtain⟨l,h1,h2⟩:=q9 n fun i hi=>h i (by omega)
  obtain⟨x,hx⟩:=h n (by omega)
  refine⟨l++[x],by simp [h1],fun i y hy=>?_⟩
  by_cases hi:i<n
  ·exact h2 i y (by rwa [Xu (by omega)] at hy)
  ·rw [Xg (by omega)] at hy
   have:i=n:=by
    have:=(WZ.1 hy).1
    simp at this; omega
   subst this
   simp [h1] at hy
   subst hy; exact hx
theorem Cells.append {c:Cx}{L:Nat→Prop}:∀{xs ys:List AV} {b o:Nat},Cells c L xs b o→Cells c L ys b (o+xs.length)→Cells c L (xs++ys) b o
 | [],ys,b,o,_,h=>by simpa using h
 | x::xs,ys,b,o,h,k=>⟨h.1,Cells.append h.2 (by simpa [XE,Nat.add_comm 1] using k)⟩
theorem Cells.flatten {c:Cx}{L:Nat→Prop}{b size:Nat}:∀(els:List (List AV)) (o:Nat),(∀i el,els[i]? = some el→el.length=size∧Cells c L el b (o+i*size))→Cells c L els.flatten b o
 | [],o,_=>trivial
 | el::els,o,h=>by
  obtain⟨h1,h2⟩:=h 0 el rfl
  rw [List.flatten_cons]
  refine Cells.append (by simpa using h2) (Cells.flatten (size:=size) els _ fun i UO he=>?_)
  obtain⟨h3,h4⟩:=h (i+1) UO (by simpa using he)
  refine⟨h3,?_⟩
  rw [h1]
  rwa [show o+size+i*size=o+(i+1)*size by rw [X0,Nat.one_mul]; omega]
section
variable {H:Type}{enc:TypeId × Value→H}{P:Program}{c:Cx}{sp:Nat→Bool}{held:Bool}
theorem re {F:TypeId→List AV→Prop}{g:TypeId→List Value→Option (DataW H × List MemPlace)}(hg:∀t cs x,g t cs=some x→cs.length=P.cellsOf t→(∃u:Nat,u=0)→True) :
  ∀(fs:List Field) (k:Nat) (cs:List Value) (xs:List (DataW H × List MemPlace)),sa P k fs=true→(∀f∈fs,∀cs x,g f.type cs=some x→cs.length=P.cellsOf f.type→∃ys,VRs c none0 ys cs∧F f.type ys∧∀v∈cs,v.oneCell'=true)→
   (fs.mapM fun f=>g f.type ((cs.drop f.offset).take (P.cellsOf f.type)))=some xs→k+(fs.map fun f=>P.cellsOf f.type).sum≤cs.length→
   ∃ys,VRs c none0 ys ((cs.drop k).take ((fs.map fun f=>P.cellsOf f.type).sum))∧Au P F fs ys∧∀v∈(cs.drop k).take ((fs.map fun f=>P.cellsOf f.type).sum),v.oneCell'=true
 | [],k,cs,xs,_,_,_,_=>⟨[],by simp [VRs],rfl,by simp⟩
 | f::fs,k,cs,xs,hc,hF,h,hl=>by
  simp only [sa,WV,beq_nat,decide_eq_true_eq] at hc
  obtain⟨rfl,hc⟩:=hc
  simp only [List.mapM_cons,Option.bind_eq_bind,WR,Option.pure_def,WT] at h
  obtain⟨y,hy,zs,hz,rfl⟩:=h
  simp only [Xe,List.sum_cons] at hl ⊢
  have hlen:((cs.drop f.offset).take (P.cellsOf f.type)).length=P.cellsOf f.type:=by simp; omega
  obtain⟨a,ha,UP,h1⟩:=hF f (by simp) _ _ hy hlen
  obtain⟨b,hb,UQ,h2⟩:=re hg fs (f.offset+P.cellsOf f.type) cs zs hc (fun f' Mj=>hF f' (by simp [Mj])) hz (by omega)
  have JY:(cs.drop f.offset).take (P.cellsOf f.type+(fs.map fun f=>P.cellsOf f.type).sum)=(cs.drop f.offset).take (P.cellsOf f.type)++((cs.drop (f.offset+P.cellsOf f.type)).take ((fs.map fun f=>P.cellsOf f.type).sum)):=by
   rw [List.take_add,List.drop_drop]
  rw [JY]
  refine⟨a++b,VRs.append ha hb,⟨a,b,rfl,?_,UP,UQ⟩,fun v hv=>?_⟩
  ·rw [ha.length,hlen]
  ·rcases W8.1 hv with hv | hv
   ·exact h1 v hv
   ·exact h2 v hv
theorem qf (sI:∀id,c.h.get id=none):∀(m:Nat) (t:TypeId) (fuel:Nat) (cs:List Value) (d:DataW H) (ps:List MemPlace),mf P m t=true→DataW.trod enc P c.w 0 sp held fuel t cs=some (d,ps)→
  ∃xs,VRs c none0 xs cs∧Fits P m t xs∧∀v∈cs,v.oneCell'=true
 | 0,_,_,_,_,_,hB,_=>by simp [mf] at hB
 | m+1,t,0,cs,d,ps,hB,h=>by simp [DataW.trod] at h
 | m+1,t,fuel+1,cs,d,ps,hB,h=>by
  have hnl:∀id,¬Live c.h id:=fun id hl=>by have:=hl.2; rw [sI id] at this; cases this
  unfold mf at hB
  unfold Fits
  cases hu:P.underlying t with
  | none=>rw [hu] at hB; cases hB
  | some td=>
  rw [hu] at hB
  cases td<;>simp only at hB ⊢<;>try (cases hB; done)
  ·
   unfold DataW.trod at h
   rw [hu] at h
   split at h<;>first | (rename_i heq; cases heq; done) | skip
   all_goals try (rename_i heq _; cases heq; done)
   all_goals (first | (cases h; done) | skip)
   ·rename_i b _
    exact⟨[.bool b],⟨by simp [VR],trivial⟩,⟨b,rfl⟩,by simp [Value.oneCell']⟩
  ·rename_i k
   unfold DataW.trod at h
   rw [hu] at h
   split at h<;>first | (rename_i heq; cases heq; done) | skip
   all_goals try (rename_i heq _; cases heq; done)
   ·rename_i k' k2 n heq
    cases heq
    split at h
    ·rename_i hk
     obtain⟨rfl,Oj⟩:=hk
     simp only [Lit.wf,WV,decide_eq_true_eq] at Oj
     exact⟨[.int k2 n],⟨by simp [VR],trivial⟩,⟨n,rfl,Oj⟩,by simp [Value.oneCell']⟩
    ·cases h
   ·cases h
  ·
   unfold DataW.trod at h
   rw [hu] at h
   split at h<;>first | (rename_i heq; cases heq; done) | skip
   all_goals try (rename_i heq _; cases heq; done)
   ·rename_i s _
    split at h
    ·rename_i hs
     exact⟨[.str s],⟨by simp [VR],trivial⟩,⟨s,rfl,hs⟩,by simp [Value.oneCell']⟩
    ·cases h
   ·cases h
  ·
   rename_i e
   unfold DataW.trod at h
   rw [hu] at h
   split at h<;>first | (rename_i heq; cases heq; done) | skip
   all_goals try (rename_i heq _; cases heq; done)
   ·exact⟨[.nils],⟨by simp [VR],trivial⟩,.inl rfl,by simp [Value.oneCell']⟩
   ·rename_i e' a len cap heq
    cases heq
    simp only at h
    split at h
    rotate_left
    ·cases h
    rename_i hbound
    obtain⟨_,hlc,hcap⟩:=hbound
    rw [WR] at h
    obtain⟨elems,Mz,_⟩:=h
    obtain⟨hn,hget⟩:=mapM_some Mz
    have key:∀i,i<len→∃el:List AV,el.length=P.cellsOf e∧Fits P m e el∧Cells c none0 el a.block (a.off+i*P.cellsOf e)∧(i=0→0<P.cellsOf e→a.spot=none):=by
     intro i hi
     obtain⟨y,_,hy⟩:=hget i i (by simp [hi])
     rw [WR] at hy
     obtain⟨UR,hcs,hy⟩:=hy
     obtain⟨hl,np⟩:=yw hcs
     obtain⟨el,hv,hf,h1⟩:=qf sI m e fuel UR y.1 y.2 hB hy
     refine⟨el,by rw [hv.length,hl],hf,Cells.of_vals hv (fun j hj=>?_) h1,fun h0 iS=>?_⟩
     ·have:=(np j (by omega)).1
      rwa [(mS a _).1,(mS a _).2] at this
     ·subst h0
      have:=(np 0 iS).2 rfl
      simpa [Addr.add] using this
    obtain⟨els,hl,C7⟩:=q9 len key
    refine⟨[.fz els.flatten els.length false],⟨?_,trivial⟩,.inr ⟨els,rfl,by omega,fun el Mz=>?_⟩,by simp [Value.oneCell']⟩
    ·simp only [VR]
     refine⟨some a,cap,by rw [hl],by omega,by simp,.inl rfl,?_⟩
     by_cases JZ:els.flatten=[]
     ·exact .inl JZ
     ·have iS:0<len∧0<P.cellsOf e:=by
       cases els with
       | nil=>simp at JZ
       | cons el els=>
        refine⟨by simp at hl; omega,?_⟩
        rcases Nat.eq_zero_or_pos (P.cellsOf e) with h0 | h0
        ·exfalso
         apply JZ
         rw [List.flatten_eq_nil_iff]
         intro l u7
         obtain⟨i,hi⟩:=List.getElem?_of_mem u7
         have:=(C7 i l hi).1
         exact XF (by omega)
        ·exact h0
      have IZ:a.spot=none:=by
       cases els with
       | nil=>simp at hl; omega
       | cons el els=>exact (C7 0 el rfl).2.2.2 rfl iS.2
      refine .inr ⟨a.block,a.off,?_,⟨fun id hl=>absurd hl (hnl id),fun h=>h.elim⟩,by simp,Cells.flatten els a.off fun i el hi=>⟨(C7 i el hi).1,(C7 i el hi).2.2.1⟩⟩
      cases a; simp at IZ; subst IZ; rfl
    ·obtain⟨i,hi⟩:=List.getElem?_of_mem Mz
     exact⟨(C7 i el hi).1,(C7 i el hi).2.1⟩
   ·cases h
  ·
   rename_i fs
   simp only [WV,beq_nat,decide_eq_true_eq,Xi] at hB
   obtain⟨⟨Pp,J0⟩,MA⟩:=hB
   simp only [DataW.trod,hu] at h
   split at h
   rotate_left
   ·cases h
   rename_i hlen
   rw [WS] at h
   obtain⟨xs,hx,_⟩:=h
   obtain⟨ys,h1,h2,h3⟩:=re (P:=P) (c:=c) (F:=Fits P m) (g:=fun t cs=>DataW.trod enc P c.w 0 sp held fuel t cs) (fun _ _ _ _ _ _=>trivial) fs.toList 0 cs xs Pp
    (fun f hf cs x hx _=>qf sI m f.type fuel cs x.1 x.2 (MA f hf) hx) hx (by omega)
   have kK:(cs.drop 0).take ((fs.toList.map fun f=>P.cellsOf f.type).sum)=cs:=by
    rw [Xr,←J0,←hlen,XX]
   rw [kK] at h1 h3
   exact⟨ys,h1,h2,h3⟩
def mg (P:Program)(t:TypeId)(xs:List AV):AV:=
 match P.underlying t with
 | some (.struct _)=>.agg xs
 | _=>xs.headD .any
def oO (P:Program)(m:Nat):List TypeId→List AV→Prop
 | [],[]=>True
 | t::ts,x::sW=>(∃xs,x=mg P t xs∧Fits P m t xs)∧oO P m ts sW
 | _,_=>False
theorem C8 {w:World}{m:Nat}{t:TypeId}{v:Value}{base:Nat}(hB:mf P m t=true)(hs:∀fs,P.underlying t≠some (.struct fs))(h:Value.okWide P w .any base t v):v.cells.toList=[v]:=by
 cases m with
 | zero=>simp [mf] at hB
 | succ m=>
 unfold mf at hB
 unfold Value.okWide at h
 cases hu:P.underlying t with
 | none=>rw [hu] at hB; cases hB
 | some td=>
 rw [hu] at hB h
 cases td<;>simp only at hB h<;>first
  | (cases hB; done)
  | (exact absurd hu (hs _))
  | (cases v<;>simp only [Cell.okWide,Cell.ok,hu] at h<;>first | (exact h.elim) | rfl | (simp [Value.cells]))
theorem EF (sI:∀id,c.h.get id=none){m:Nat}{t:TypeId}{v:Value}{d:DataW H}{ps:List MemPlace}{base:Nat}(hB:mf P m t=true)(ho:Value.okWide P c.w .any base t v)(h:DataW.Trod enc P c.w 0 sp held t v d ps) :
  ∃xs,Fits P m t xs∧VR c none0 (mg P t xs) v:=by
 obtain⟨fuel,h⟩:=h
 obtain⟨xs,h1,h2,_⟩:=qf sI m t fuel _ d ps hB h
 refine⟨xs,h2,?_⟩
 by_cases hs:∃fs,P.underlying t=some (.struct fs)
 ·obtain⟨fs,hs⟩:=hs
  unfold Value.okWide at ho
  rw [hs] at ho
  obtain⟨cs,rfl,_⟩:=ho
  unfold mg
  rw [hs]
  simp only [VR]
  exact⟨cs,rfl,h1⟩
 ·have Lw:∀fs,P.underlying t≠some (.struct fs):=fun fs h=>hs ⟨fs,h⟩
  have hc:=C8 hB Lw ho
  rw [hc] at h1
  have hx:mg P t xs=xs.headD .any:=by
   unfold mg
   split
   ·rename_i fs h; exact absurd h (Lw fs)
   ·rfl
  rw [hx]
  cases xs with
  | nil=>exact h1.elim
  | cons x xs=>exact h1.1
theorem yx (sI:∀id,c.h.get id=none){m base:Nat}:∀(ts:List TypeId) (vs:List Value) (ds:List (DataW H)) (ps:List MemPlace),(∀t∈ts,mf P m t=true)→(∀(j:Nat) t v,ts[j]? = some t→vs[j]? = some v→Value.okWide P c.w .any base t v)→
  DataW.TrodAll enc P c.w 0 sp held ts vs ds ps→∃sW,oO P m ts sW∧VRs c none0 sW vs
 | [],[],[],_,_,_,_=>⟨[],trivial,trivial⟩
 | t::ts,v::vs,d::ds,ps,hB,ho,h=>by
  obtain⟨p,q,h1,h2,_⟩:=h
  obtain⟨xs,h3,h4⟩:=EF sI (hB t (by simp)) (ho 0 t v rfl rfl) h1
  obtain⟨sW,h5,h6⟩:=yx sI ts vs ds q (fun t ht=>hB t (by simp [ht])) (fun j t v hj hv=>ho (j+1) t v (by simpa using hj) (by simpa using hv)) h2
  exact⟨mg P t xs::sW,⟨⟨xs,rfl,h3⟩,h5⟩,h4,h6⟩
 | [],[],_::_,_,_,_,h=>h.elim
 | [],_::_,_,_,_,_,h=>by cases h
 | _::_,[],_,_,_,_,h=>by cases h
 | _::_,_::_,[],_,_,_,h=>by cases h
theorem kq (hl:laidOutB P=true){W W':World}{Sq:Nat→Bool}:∀{ts:List TypeId} {vs:List Value} {ds:List (DataW H)} {ps:List MemPlace},(∀t∈ts,P.readableRec t=true∧t<P.types.size)→
  DataW.TrodAll enc P W 0 (fun _=>true) true ts vs ds ps→(∀p∈ps,W.sameAt W' p)→(∀p∈ps,Sq p.block=true)→DataW.TrodAll enc P W' 0 Sq true ts vs ds ps
 | [],[],[],_,_,h,_,_=>h
 | t::ts,v::vs,d::ds,ps,hr,h,hs,hp=>by
  obtain⟨p,q,h1,h2,rfl⟩:=h
  exact⟨p,q,WideElems.Trod_stays hl (hr t (by simp)).1 (hr t (by simp)).2 h1 (fun x hx=>hs x (by simp [hx])) (fun x hx=>hp x (by simp [hx])),
   kq hl (fun t ht=>hr t (by simp [ht])) h2 (fun x hx=>hs x (by simp [hx])) (fun x hx=>hp x (by simp [hx])),rfl⟩
 | [],[],_::_,_,_,h,_,_=>h.elim
 | [],_::_,_,_,_,h,_,_=>by cases h
 | _::_,[],_,_,_,h,_,_=>by cases h
 | _::_,_::_,[],_,_,h,_,_=>by cases h
theorem C9 {f:Func}{s:ChangeSpec}{apart fresh handsOn again:Bool}{W W':World}{args:Array Value}{ds gs:List (DataW H)}{before:List MemPlace}{tb:TypeId}
  (hl:laidOutB P=true) (hr:∀t∈f.params.toList,P.readableRec t=true∧t<P.types.size) (hW:DataW.Whole enc P f.params.toList s.vars apart W args.toList ds gs before) (hv:s.vars=[])
  (EG:f.resultTypes = #[tb]) (Ok:P.underlying tb=some .bool) (J1:(s.fn H (ds++gs))={results:=[.lit (.bool true)],args:=ds}) (hb:RowKit.Below W.heap.size W W') :
  s.post enc P f apart fresh handsOn again W args (.bool true) W':=by
 have hlt:=hW.lt
 have hW0:=hW
 obtain⟨p,q,hA,hV,Ss,hz,hn⟩:=hW
 rw [hv] at hV
 have Pq:gs=[]∧q=[]:=by
  cases gs with
  | nil=>exact⟨rfl,hV⟩
  | cons g gs=>exact hV.elim
 obtain⟨rfl,rfl⟩:=Pq
 have Pt:before=p:=by simpa using Ss
 subst Pt
 have I0:∀x∈before,W.sameAt W' x:=fun x hx=>hb.same (hlt x hx)
 have MB:(Value.bool true).resultList f.resultTypes.size=[.bool true]:=by rw [EG]; rfl
 have I1:∀(b:Nat) (sp:Nat→Bool) (hd:Bool),DataW.TrodAll enc P W' b sp hd f.resultTypes.toList ((Value.bool true).resultList f.resultTypes.size) [.lit (.bool true)] []:=by
  intro b sp hd
  rw [MB,EG]
  exact ChangeShapes.trodAll_mk1 (RowKit.shut_bool Ok true)
 refine⟨ds,[],before,[],before,[],hW0,?_,?_,?_,?_,fun _=>⟨?_,?_⟩⟩
 ·rw [J1]; exact I1 _ _ _
 ·rw [J1]
  exact kq hl hr hA I0 (fun x hx=>by simpa using hlt x hx)
 ·rw [J1,hv]; rfl
 ·exact hb.frame _
 ·exact RowKit.ok_one EG rfl (RowKit.okWide_bool_mk Ok true)
 ·refine⟨_,[],before,⟨[]++before,[],ChangeShapes.trodAll_append (kq hl hr hA I0 (fun _ _=>rfl)) (I1 0 _ _),by rw [hv]; rfl,by simp,fun b off hx=>?_,hn⟩,fun p hp _=>hp⟩
  rw [hb.frozen (p:=⟨b,off,none⟩) (hlt _ hx)]
  exact hz b off hx
theorem Ext.below {c c':Cx}(e:Ext c none0 c' none0):RowKit.Below c.base c.w c'.w:=⟨e.os,e.tape,e.output,e.size,fun b hb=>e.exact b hb⟩
theorem uL {cf:CallF}{Ao:FuncId}{f:Func}{s:ChangeSpec}{apart fresh handsOn again:Bool}{m:Nat}{tb:TypeId}
  (hl:laidOutB P=true) (hr:∀t∈f.params.toList,P.readableRec t=true∧t<P.types.size) (hB:∀t∈f.params.toList,mf P m t=true) (hv:s.vars=[]) (EG:f.resultTypes = #[tb]) (Ok:P.underlying tb=some .bool)
  (J1:∀ds:List (DataW H),ds.length=f.params.size→(s.fn H ds)={results:=[.lit (.bool true)],args:=ds})
  (hcf:∀sW,oO P m f.params.toList sW→∃cf h',CallOK P cf∧cf Ao sW bE=some (.bool true,h'))
  {W:World} {base:Nat} {args:Array Value} {ds gs:List (DataW H)} {before:List MemPlace} (dz:∀(j:Nat) t v,f.params[j]? = some t→args[j]? = some v→Value.okWide P W .any base t v)
  (hW:DataW.Whole enc P f.params.toList s.vars apart W args.toList ds gs before) :
  Calls P Ao args W fun e W'=>∃v,e = .returned v∧s.post enc P f apart fresh handsOn again W args v W':=by
 have hW0:=hW
 obtain⟨p,q,hA,hV,Ss,_,_⟩:=hW
 let c:Cx:=⟨fun _=>(0,0),bE,W,W.heap.size⟩
 obtain⟨sW,h1,h2⟩:=yx (c:=c) (P:=P) (m:=m) (base:=base) (fun _=>rfl) f.params.toList args.toList ds p hB (fun j t v hj hv=>dz j t v (by simpa using hj) (by simpa using hv)) hA
 obtain⟨cf,h',oy,Pu⟩:=hcf sW h1
 have hnl:∀id,¬Live c.h id:=fun id hl=>by have:=hl.2; cases this
 have hcall:=(oy Ao sW bE _ _ Pu).2 none0 c args.toList rfl (WU _) ⟨fun id o ho=>(by cases ho),fun id o ho=>(by cases ho),fun id _ hl _ _=>absurd hl (hnl id),fun id hl=>absurd hl (hnl id),fun b hb=>hb.elim,fun id hl=>absurd hl (hnl id),fun _=>Nat.zero_lt_one⟩ h2
 rw [Array.toArray_toList] at hcall
 have hlen:∀(ts:List TypeId) (vs:List Value) (ds:List (DataW H)) (p:List MemPlace),DataW.TrodAll enc P W 0 (fun _=>true) true ts vs ds p→ds.length=ts.length:=by
  intro ts
  induction ts with
  | nil=>intro vs ds p h; cases vs<;>cases ds<;>first | rfl | (cases h; done) | exact h.elim
  | cons t ts ih=>intro vs ds p h; cases vs<;>cases ds<;>first | (cases h; done) | (obtain⟨_,_,_,h2,_⟩:=h; simp [ih _ _ _ h2])
 have Pq:gs=[]:=by
  rw [hv] at hV
  cases gs with
  | nil=>rfl
  | cons g gs=>exact hV.elim
 refine hcall.mono ?_
 rintro e w' ⟨c',v,rfl,rfl,hh,Bt,hrel,JG⟩
 simp only [VR] at Bt
 subst Bt
 refine⟨_,rfl,C9 hl hr hW0 hv EG Ok ?_ JG.below⟩
 rw [Pq,XW]
 exact J1 ds (by rw [hlen _ _ _ _ hA]; simp)
end
end Go.R
namespace Go.R
open Go
section
variable {P:Program}{cf:CallF}{aF ds:List Nat}{s:RS}{d:Option Tmp}{t:TypeId}{p:String}{a:Array Edge}{g:Option (Nat × Bool)}{ops:List Oper}{ρ:Nat→AV}{bx:Nat→Option (List AV)}{h:AHeap}
variable {A:cd}{m:Nat}{st:St}
end
end Go.R
namespace Go.R
open Go
def sub:List Nat→Code→Code
 | [],c=>c
 | 0::p,.seq a _=>sub p a
 | _::p,.seq _ b=>sub p b
 | 0::p,.cond _ a _=>sub p a
 | _::p,.cond _ _ b=>sub p b
 | _::p,.block _ a=>sub p a
 | _::p,.loop a=>sub p a
 | _,c=>c
def codeOf (f:Func):Code:=f.body.getD .skip
end Go.R
