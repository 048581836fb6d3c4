/- Part of the proof: RG1, RG2, RG3, RG4, RT, RG5, RG6, RG7, RG8. -/
import Derived.Test.YtmekcfdllhphlaaDoorK3
set_option linter.unusedVariables false
set_option linter.unusedSimpArgs false
set_option maxRecDepth 100000
open BitVec renaming ofInt → XY
open Bool renaming and_eq_true → WV, false_eq_true → W9, or_eq_true → XG, true_and → X6
open Int renaming toNat_natCast → WX
open List renaming length_set → WY, getElem?_eq_some_iff → WZ, length_append → W3, drop_eq_getElem_cons → W6, append_assoc → W7, replicate → Xc, map_cons → Xe, length_cons → Xf, getElem?_append_right → Xg, all_eq_true → Xi, map_append → Xm, mem_cons → Xo, drop_zero → Xr, nil_append → Xs, getElem?_append_left → Xu, take_append_of_le_length → Xv, take_of_length_le → Xx, length_map → Xy, getElem?_cons_zero → Xz, ext_getElem? → XI, length_nil → XL, all_cons → XO, append_nil → XW, getElem?_cons_succ → X2, getElem?_set → Ye, set_append_right → Yl, length_take → Yp
open Nat renaming le_refl → WU, zero_add → Xh, lt_of_lt_of_le → Xl, beq → XB, lt_succ_self → XC, le_trans → XD, mul_le_mul_right → XK, add_mul → X0, add_sub_cancel_left → X1, le_succ → X5, eq_of_beq_eq_true → X8, lt_succ_of_lt → Yd, mul_one → Yn, sub_self → Yo, min_eq_left → Yr
open Option renaming bind_some → WQ, bind_eq_some_iff → WR, map_eq_some_iff → WS, map_some → WW, isSome_none → Yi
open Option.some renaming injEq → WT
open Prod.mk renaming injEq → W2
open UInt8 renaming ofNat → Ys
namespace Go.R
open Go
section
variable (P:Program)
def bh (h:AHeap)(t:TypeId)(x:AV):Option AV:=jl P (fun _=>none) h t x
def iZ (h:AHeap)(t:TypeId)(a x:AV):Option AHeap:=
 match a with
 | .ptr id off=>(h.get id).bind fun | .cells cs=>(gL P t cs off x).map fun fH=>h.put id (.cells fH) | _=>none
 | _=>none
def I2 (cf:CallF)(f:AV)(as:List AV)(h:AHeap):Option (AV × AHeap):=
 match f with
 | .fn f cap=>if as.all AV.lC then cf f (as++cap) h else none
 | _=>none
def yy (h:AHeap)(cs:List AV):Option (AV × AHeap):=if cs.all AV.cJ then some (.ptr h.next 0,h.alloc (.cells cs)) else none
def Da (aF:List Nat)(d:Option Nat):Bool:=match d with | some d=>!aF.contains d | none=>false
def EH (aF:List Nat)(h:AHeap)(o:Oper)(t:TypeId)(x:Option AV):Option (AV × AHeap):=
 x.bind fun x=>(nK P aF o t x).map fun (cs,n,z)=>(.rs h.next 0 n z,h.alloc (.cells cs))
def J2 (e:Operand→AV)(h:AHeap)(o:Oper)(z:AV):Prop:=
 match o.op with
 | .move x | .assign x=>e x=z
 | .load t a=>bh P h t (e a)=some z
 | .binOp op t x y _=>lU P op t (e x) (e y)=some z
 | .unOp op _ x=>((e x).fC.bind fun a=>(iC P (Op.unary op a)).bind ou)=some z
 | .convert a b x=>dW P h a b (e x)=some z
 | .slice t x lo hi mx=>fe P t (e x) (lo.map e) (hi.map e) (mx.map e)=some z
 | .indexAddr t x i=>ez P t (e x) (e i)=some z
 | .index t x i=>pO P t (e x) (e i)=some z
 | .lookup t m k ok=>fG P h t (e m) (e k) ok=some z
 | .call {callee:=.builtin .len,args,argTypes}=>match argTypes.toList,args.toList.map e with
  | [t],[x]=>sr P h t x=some z
  | _,_=>False
 | _=>False
def J3 (cf:CallF)(aF:List Nat)(e:Operand→AV)(h:AHeap)(o:Oper)(z:AV)(h':AHeap):Prop:=
 match o.op with
 | .store t a x=>bif o.dst.isSome then False else iZ P h t (e a) (e x)=some h'
 | .alloc t=>bif Da aF o.dst then (jN P t).bind (fun z=>yy h (CK aF o.dst z.cells))=some (z,h') else False
 | .box _ x=>bif Da aF o.dst then yy h (e x).cells=some (z,h') else False
 | .buildSlice t n ps=>EH P aF h o t (gm P t n (ps.toList.map fun (i,x)=>(i,e x)))=some (z,h')
 | .makeMap _ none=>(AV.mp h.next,h.alloc (.map []))=(z,h')
 | .makeSlice t l c=>gp P h t (e l) (e c)=some (z,h')
 | .mapUpdate t m k x | .insert t m k x=>bif o.dst.isSome then False else iF P h t (e m) (e k) (e x)=some h'
 | .call {callee:=.builtin .append,args,argTypes}=>match argTypes.toList,args.toList.map e with
  | [t,t2],[x,y]=>gM P h t t2 x y=some (z,h')
  | _,_=>False
 | .call {callee:=.builtin .copy,args,argTypes}=>match argTypes.toList,args.toList.map e with
  | [t,t2],[x,y]=>u4 P h t t2 x y=some (z,h')
  | _,_=>False
 | .call {callee:=.value f,args,..}=>I2 cf (e f) (args.toList.map e) h=some (z,h')
 | _=>False
end
abbrev J4:=List (Nat × AV × Option AHeap)
def sX (P:Program)(cf:CallF)(aF:List Nat)(ops:List Oper):RS→Nat→List Oper→J4→Option (List rY × RS × Prop)
 | s,_,[],[]=>some ([],s,True)
 | _,_,[],_::_=>none
 | s,i,o::os,zs=>
  (gN ops s.ρ o).bind fun w=>
   bif w then
    match zs with
    | []=>(vZ P cf aF (ops.filterMap (·.dst)) s o).bind fun s1=>(sX P cf aF ops s1 (i+1) os []).map fun (l,r,p)=>({o,f:=a7 aF (bP s.ρ) o,s,s':=s1}::l,r,p)
    | (j,z,oh)::vo=>
     bif XB i j then
      match oh with
      | none=>(sX P cf aF ops (s.set o.dst z) (i+1) os vo).map fun (l,r,p)=>({o,f:=a7 aF (bP s.ρ) o,s,s':=s.set o.dst z}::l,r,J2 P (bP s.ρ) s.h o z∧p)
      | some h'=>(sX P cf aF ops (({s with h:=h'}:RS).set o.dst z) (i+1) os vo).map fun (l,r,p)=>({o,f:=a7 aF (bP s.ρ) o,s,s':=({s with h:=h'}:RS).set o.dst z}::l,r,J3 P cf aF (bP s.ρ) s.h o z h'∧p)
     else (vZ P cf aF (ops.filterMap (·.dst)) s o).bind fun s1=>(sX P cf aF ops s1 (i+1) os zs).map fun (l,r,p)=>({o,f:=a7 aF (bP s.ρ) o,s,s':=s1}::l,r,p)
   else (sX P cf aF ops (s.set o.dst (.tup [])) (i+1) os zs).map fun (l,r,p)=>({o,f:={},s,s':=s.set o.dst (.tup [])}::l,r,p)
section
variable {P:Program}{cf:CallF}{aF:List Nat}
theorem EI {h:AHeap}{t:TypeId}{x z:AV}{bx:Nat→Option (List AV)}(hh:bh P h t x=some z):jl P bx h t x=some z:=by
 cases x<;>first | exact hh | (simp [bh,jl] at hh)
theorem HK {s:RS}{o:Oper}{z:AV}(h:J2 P (bP s.ρ) s.h o z)(ds:List Nat):vZ P cf aF ds s o=some (s.set o.dst z):=by
 unfold J2 at h
 unfold vZ z7
 dsimp only
 split at h
 ·rename_i ho; rw [ho]; simp only [h]
 ·rename_i ho; rw [ho]; simp only [h]
 ·rename_i ho; rw [ho]; simp only [EI h,WW]
 ·rename_i ho; rw [ho]; simp only [h,WW]
 ·rename_i ho; rw [ho]; simp only [h,WW]
 ·rename_i ho; rw [ho]; simp only [h,WW]
 ·rename_i ho; rw [ho]; simp only [h,WW]
 ·rename_i ho; rw [ho]; simp only [h,WW]
 ·rename_i ho; rw [ho]; simp only [h,WW]
 ·rename_i ho; rw [ho]; simp only [h,WW]
 ·rename_i ho
  rw [ho]
  split at h
  ·rename_i h1 h2
   simp only [h1,h2,gq,h,WW]
  ·exact h.elim
 ·exact h.elim
theorem yz {s:RS}{o:Oper}{cs:List AV}{z:AV}{h':AHeap}(hn:Da aF o.dst=true)(h:yy s.h cs=some (z,h'))(ds:List Nat):ie s aF ds o cs=some (({s with h:=h'}:RS).set o.dst z):=by
 unfold yy at h
 split at h
 rotate_left
 ·cases h
 rename_i oy
 simp only [WT,W2] at h
 obtain⟨rfl,rfl⟩:=h
 unfold ie
 rw [if_pos oy]
 unfold Da at hn
 split at hn
 ·rename_i d hd
  rw [hd]
  have:aF.contains d=false:=by simpa using hn
  simp only [this,W9,if_false]
 ·cases hn
theorem HL {s:RS}{o:Oper}{z:AV}{h':AHeap}(h:J3 P cf aF (bP s.ρ) s.h o z h')(ds:List Nat):vZ P cf aF ds s o=some (({s with h:=h'}:RS).set o.dst z):=by
 unfold J3 at h
 unfold vZ z7
 dsimp only
 split at h
 ·rename_i t a x ho
  rw [ho]
  cases hd:o.dst with
  | some d=>rw [hd] at h; exact h.elim
  | none=>
   rw [hd] at h
   simp only [Yi,cond_false] at h
   simp only [Yi,W9,if_false]
   unfold iZ at h
   split at h
   ·rename_i id off he
    rw [he]
    simp only [WR] at h ⊢
    obtain⟨ob,hob,h⟩:=h
    refine⟨ob,hob,?_⟩
    split at h
    ·rw [WS] at h ⊢
     obtain⟨fH,hcs,rfl⟩:=h
     exact⟨fH,hcs,rfl⟩
    ·cases h
   ·cases h
 ·rename_i t ho
  rw [ho]
  cases hn:Da aF o.dst with
  | false=>rw [hn] at h; exact h.elim
  | true=>
   rw [hn] at h
   simp only [cond_true,WR] at h
   obtain⟨z0,h1,h2⟩:=h
   simp only [h1,WQ]
   exact yz hn h2 ds
 ·rename_i t x ho
  rw [ho]
  cases hn:Da aF o.dst with
  | false=>rw [hn] at h; exact h.elim
  | true=>
   rw [hn] at h
   exact yz hn h ds
 ·rename_i t n ps ho
  rw [ho]
  unfold EH at h
  simp only [WR,WS] at h
  obtain⟨x,hx,⟨cs,k,q⟩,ht,he⟩:=h
  simp only [W2] at he
  obtain⟨rfl,rfl⟩:=he
  simp only [hx,WW,pQ,ht]
 ·rename_i ho
  rw [ho]
  simp only [W2] at h
  obtain⟨rfl,rfl⟩:=h
  rfl
 ·rename_i ho; rw [ho]; simp only [h,WW]
 ·rename_i t m k x ho
  rw [ho]
  cases hd:o.dst with
  | some d=>rw [hd] at h; exact h.elim
  | none=>
   rw [hd] at h
   simp only [Yi,cond_false] at h
   simp only [Yi,W9,if_false,h,WW]
   rfl
 ·rename_i t m k x ho
  rw [ho]
  cases hd:o.dst with
  | some d=>rw [hd] at h; exact h.elim
  | none=>
   rw [hd] at h
   simp only [Yi,cond_false] at h
   simp only [Yi,W9,if_false,h,WW]
   rfl
 ·rename_i ho
  rw [ho]
  split at h
  ·rename_i h1 h2
   simp only [h1,h2,gq,h,WW]
  ·exact h.elim
 ·rename_i ho
  rw [ho]
  split at h
  ·rename_i h1 h2
   simp only [h1,h2,gq,h,WW]
  ·exact h.elim
 ·rename_i f args By ho
  rw [ho]
  unfold I2 at h
  split at h
  ·rename_i g cap he
   dsimp only
   rw [he]
   split at h
   ·rename_i oy
    simp only [oy,if_true,h,WW]
   ·cases h
  ·cases h
 ·exact h.elim
theorem BE {ops:List Oper}:∀{l:List Oper} {s r:RS} {i:Nat} {zs:J4} {es:List rY} {p:Prop},sX P cf aF ops s i l zs=some (es,r,p)→p→pT P cf aF ops s l=some (es,r)∧rr P cf aF ops s l=some r
 | [],s,r,i,[],es,p,h,_=>by
  simp only [sX,WT,W2] at h
  obtain⟨rfl,rfl,rfl⟩:=h
  exact⟨rfl,rfl⟩
 | [],s,r,i,_::_,es,p,h,_=>by simp [sX] at h
 | o::os,s,r,i,zs,es,p,h,hp=>by
  simp only [sX,WR] at h
  obtain⟨w,hw,h⟩:=h
  have fin:∀(s1:RS) (l:List rY) (vo:J4) (q:Prop),(if w then vZ P cf aF (ops.filterMap (·.dst)) s o else some (s.set o.dst (.tup [])))=some s1→sX P cf aF ops s1 (i+1) os vo=some (l,r,q)→q→
    pT P cf aF ops s (o::os)=some ({o,f:=if w then a7 aF (bP s.ρ) o else {},s,s':=s1}::l,r)∧rr P cf aF ops s (o::os)=some r:=by
   intro s1 l vo q h1 h2 hq
   obtain⟨h3,h4⟩:=BE h2 hq
   refine⟨?_,?_⟩
   ·simp only [pT,hw,WQ,h1,h3,WW]
   ·simp only [rr,lV,hw,WQ,h1,h4]
  cases w with
  | false=>
   simp only [cond_false,WS] at h
   obtain⟨⟨l,r',q⟩,h2,he⟩:=h
   simp only [W2] at he
   obtain⟨rfl,rfl,rfl⟩:=he
   simpa using fin _ l zs q (by simp) h2 hp
  | true=>
   simp only [cond_true] at h
   split at h
   ·simp only [WR,WS] at h
    obtain⟨s1,h1,⟨l,r',q⟩,h2,he⟩:=h
    simp only [W2] at he
    obtain⟨rfl,rfl,rfl⟩:=he
    simpa using fin _ l [] q (by simpa using h1) h2 hp
   ·rename_i j z oh vo
    cases hj:XB i j with
    | false=>
     rw [hj] at h
     simp only [cond_false,WR,WS] at h
     obtain⟨s1,h1,⟨l,r',q⟩,h2,he⟩:=h
     simp only [W2] at he
     obtain⟨rfl,rfl,rfl⟩:=he
     simpa using fin _ l _ q (by simpa using h1) h2 hp
    | true=>
     rw [hj] at h
     simp only [cond_true] at h
     split at h
     ·simp only [WS] at h
      obtain⟨⟨l,r',q⟩,h2,he⟩:=h
      simp only [W2] at he
      obtain⟨rfl,rfl,rfl⟩:=he
      simpa using fin _ l _ q (by simpa using HK hp.1 _) h2 hp.2
     ·simp only [WS] at h
      obtain⟨⟨l,r',q⟩,h2,he⟩:=h
      simp only [W2] at he
      obtain⟨rfl,rfl,rfl⟩:=he
      simpa using fin _ l _ q (by simpa using HL hp.1 _) h2 hp.2
end
def sY (s:RS):List (Nat × Option Nat × Nat)→List (AV × AHeap)→Option (RS × Prop)
 | [],_=>some (s,True)
 | (t,i,k)::ps,zs=>
  match i with
  | none=>
   match k,s.ρ t,zs with
   | 0,.rs id off n z,(y,h')::vo=>(sY {s with h:=h',ρ:=fun u=>bif XB u t then y else s.ρ u} ps vo).map fun (r,p)=>(r,kB 0 s.h (.rs id off n z)=some (y,h')∧p)
   | k,x,zs=>(kB k s.h x).bind fun (y,h')=>sY {s with h:=h',ρ:=fun u=>bif XB u t then y else s.ρ u} ps zs
  | some i=>
   match s.bx t with
   | some cs=>(cs[i]?).bind fun x=>
    match k,x,zs with
    | 0,.rs id off n z,(y,h')::vo=>(sY {s with h:=h',bx:=fun u=>bif XB u t then some (cs.set i y) else s.bx u} ps vo).map fun (r,p)=>(r,kB 0 s.h (.rs id off n z)=some (y,h')∧p)
    | k,x,zs=>(kB k s.h x).bind fun (y,h')=>sY {s with h:=h',bx:=fun u=>bif XB u t then some (cs.set i y) else s.bx u} ps zs
   | none=>none
theorem wM:∀{ps:List (Nat × Option Nat × Nat)} {s r:RS} {zs:List (AV × AHeap)} {p:Prop},sY s ps zs=some (r,p)→p→kZ s ps=some r
 | [],s,r,zs,p,h,_=>by
  simp only [sY,WT,W2] at h
  obtain⟨rfl,rfl⟩:=h
  rfl
 | (t,i,k)::ps,s,r,zs,p,h,hp=>by
  cases i with
  | none=>
   have fin:∀(y:AV) (h':AHeap) (vo:List (AV × AHeap)) (q:Prop),kB k s.h (s.ρ t)=some (y,h')→sY {s with h:=h',ρ:=fun u=>bif XB u t then y else s.ρ u} ps vo=some (r,q)→q→kZ s ((t,none,k)::ps)=some r:=by
    intro y h' vo q h1 h2 hq
    simp only [kZ,we,h1,WW,WQ]
    exact wM h2 hq
   simp only [sY] at h
   split at h
   ·rename_i id off n z y h' vo hx
    rw [WS] at h
    obtain⟨⟨r',q⟩,h2,he⟩:=h
    simp only [W2] at he
    obtain⟨rfl,rfl⟩:=he
    exact fin y h' vo q (by rw [hx]; exact hp.1) h2 hp.2
   ·rw [WR] at h
    obtain⟨⟨y,h'⟩,h1,h2⟩:=h
    exact fin y h' _ p h1 h2 hp
  | some i=>
   simp only [sY] at h
   split at h
   rotate_left
   ·cases h
   rename_i cs hcs
   rw [WR] at h
   obtain⟨x,hx,h⟩:=h
   have fin:∀(y:AV) (h':AHeap) (vo:List (AV × AHeap)) (q:Prop),kB k s.h x=some (y,h')→sY {s with h:=h',bx:=fun u=>bif XB u t then some (cs.set i y) else s.bx u} ps vo=some (r,q)→q→kZ s ((t,some i,k)::ps)=some r:=by
    intro y h' vo q h1 h2 hq
    simp only [kZ,we,hcs,hx,WQ,h1,WW]
    exact wM h2 hq
   split at h
   ·rename_i id off n z y h' vo
    rw [WS] at h
    obtain⟨⟨r',q⟩,h2,he⟩:=h
    simp only [W2] at he
    obtain⟨rfl,rfl⟩:=he
    exact fin y h' vo q hp.1 h2 hp.2
   ·rw [WR] at h
    obtain⟨⟨y,h'⟩,h1,h2⟩:=h
    exact fin y h' _ p h1 h2 hp
def rY.sb (x y:rY):Bool:=
 (match x.f.wb with
  | some k=>!y.f.rb.contains k&&y.f.wb != some k
  | none=>true) &&
 (!x.f.wh||(!y.f.wh&&y.f.rh.isEmpty))
def EJ (ops:List Oper)(arr:Array Oper)(s:RS)(es:List rY):Bool:=
 let ms:=jO [] ops
 pS arr ms &&
  (let is:=es.zipIdx
   let Ea:=is.filter fun (x,_)=>!x.f.quiet
   Ea.all (fun (x,i)=>wc ms (ops.filterMap (·.dst)) s is x i&&Ea.all fun (y,j)=>Nat.ble j i||(ms.getD j 0).testBit i||(x.sb y&&y.sb x)))
theorem sZ {x y:rY}(h:x.sb y=true):x.pR y=true:=by
 unfold rY.sb at h
 unfold rY.pR
 simp only [WV,XG] at h ⊢
 refine⟨h.1,h.2.imp id fun ⟨h1,h2⟩=>⟨h1,?_⟩⟩
 rw [List.isEmpty_iff] at h2
 rw [h2]; rfl
theorem HM {P:Program}{cf:CallF}{aF:List Nat}{ops:Array Oper}{s r:RS}{es:List rY}(h:EJ ops.toList ops s es=true)(hr:pT P cf aF ops.toList s ops.toList=some (es,r)):kY P cf aF ops s=some r:=by
 unfold EJ at h
 simp only [WV] at h
 obtain⟨h1,h2⟩:=h
 unfold kY
 simp only [h1,if_true,hr,WQ]
 rw [if_pos]
 rw [Xi] at h2 ⊢
 intro x hx
 have:=h2 x hx
 simp only [WV] at this ⊢
 refine⟨this.1,?_⟩
 have h3:=this.2
 rw [Xi] at h3 ⊢
 intro y hy
 have:=h3 y hy
 simp only [XG,WV] at this ⊢
 exact this.imp id fun h=>⟨sZ h.1,sZ h.2⟩
def nv (P:Program)(cf:CallF)(A:cd)(c:Code)(fs:List (AV × AHeap))(zs:J4)(st:St):Option (Prop × St):=
 match c with
 | .region id ops draw=>(sY (st.open A) (gr id A.pU) fs).bind fun (s0,p0)=>(sX P cf A.aF ops.toList s0 0 ops.toList zs).bind fun (es,r,p)=>
   bif draw && !(EJ ops.toList ops s0 es) then none else (kZ r (gr id A.CL)).map fun r2=>(p0∧p,r2.nk A id)
 | _=>none
theorem EK {P:Program}{cf:CallF}{A:cd}{m:Nat}{c:Code}{fs:List (AV × AHeap)}{zs:J4}{st jF:St}{p:Prop}(h:nv P cf A c fs zs st=some (p,jF))(hp:p):bL P cf A m c st=some (.norm,jF):=by
 unfold nv at h
 split at h
 rotate_left
 ·cases h
 rename_i id ops draw
 simp only [WR] at h
 obtain⟨⟨s0,p0⟩,h0,⟨es,r,q⟩,h1,h⟩:=h
 have hd:∃r2,(draw=true→EJ ops.toList ops s0 es=true)∧kZ r (gr id A.CL)=some r2∧p=(p0∧q)∧jF=r2.nk A id:=by
  cases hc:(draw && !(EJ ops.toList ops s0 es)) with
  | true=>simp only [hc,cond_true] at h; cases h
  | false=>
   simp only [hc,cond_false,WS,W2] at h
   obtain⟨r2,h2,h3,h4⟩:=h
   refine⟨r2,fun C0=>?_,h2,h3.symm,h4.symm⟩
   simpa [C0] using hc
 obtain⟨r2,C0,h2,rfl,rfl⟩:=hd
 obtain⟨g1,g2⟩:=BE h1 hp.2
 have g0:=wM h0 hp.1
 simp only [bL,g0,WQ]
 cases draw with
 | false=>simp only [W9,if_false,g2,WQ,h2,WW]
 | true=>simp only [if_true,HM (C0 rfl) g1,WQ,h2,WW]
end Go.R
namespace Go.R
open Go
def de (P:Program)(cf:CallF)(A:cd)(m:Nat)(c:Code)(s:St)(Q:Ex→St→Prop):Prop:=∃e s',bL P cf A m c s=some (e,s')∧Q e s'
def J5 (R:St→Prop)(Q:Ex→St→Prop):Ex→St→Prop
 | .norm,s=>R s
 | .exit i,s=>Q (.exit i) s
 | .ret,s=>Q .ret s
def Pv (id:Nat)(Q:Ex→St→Prop):Ex→St→Prop
 | .norm,s=>Q .norm s
 | .exit i,s=>bif XB i id then Q .norm s else Q (.exit i) s
 | .ret,s=>Q .ret s
section
variable {P:Program}{cf:CallF}{A:cd}{m:Nat}{s:St}{Q:Ex→St→Prop}
theorem oQ {a b:Code}(h:de P cf A m a s (J5 (fun s'=>de P cf A m b s' Q) Q)):de P cf A m (.seq a b) s Q:=by
 obtain⟨e,s',h1,h2⟩:=h
 cases e with
 | norm=>
  obtain⟨e2,s2,h3,h4⟩:=h2
  exact⟨e2,s2,by simp only [bL,h1,WQ,h3],h4⟩
 | exit i=>exact⟨_,s',by simp only [bL,h1,WQ],h2⟩
 | ret=>exact⟨_,s',by simp only [bL,h1,WQ],h2⟩
theorem Aw {id:Nat}{a:Code}(h:de P cf A m a s (Pv id Q)):de P cf A m (.block id a) s Q:=by
 obtain⟨e,s',h1,h2⟩:=h
 cases e with
 | norm=>exact⟨_,s',by simp only [bL,h1,WW],h2⟩
 | exit i=>
  simp only [Pv,beq_nat] at h2
  by_cases hi:i=id
  ·simp only [hi,decide_true,cond_true] at h2
   exact⟨_,s',by simp only [bL,h1,WW,hi,if_true],h2⟩
  ·simp only [hi,decide_false,cond_false] at h2
   exact⟨_,s',by simp only [bL,h1,WW,hi,if_false],h2⟩
 | ret=>exact⟨_,s',by simp only [bL,h1,WW],h2⟩
theorem s4 {c:Code}{fs:List (AV × AHeap)}{zs:J4}{jF:St}{p:Prop}(h:nv P cf A c fs zs s=some (p,jF))(hp:p)(hQ:Q .norm jF):de P cf A m c s Q:=
 ⟨_,_,EK h hp,hQ⟩
theorem Db (h:Q .norm s):de P cf A m .skip s Q:=⟨_,_,rfl,h⟩
theorem yA (h:Q .ret s):de P cf A m .ret s Q:=⟨_,_,rfl,h⟩
theorem Dc {i:Nat}(h:Q (.exit i) s):de P cf A m (.exit i) s Q:=⟨_,_,rfl,h⟩
theorem qg {k:Operand}{x y:Code}(b:Bool)(hk:bP (s.open A).ρ k = .bool b)(ht:b=true→de P cf A m x s Q)(hf:b=false→de P cf A m y s Q):de P cf A m (.cond k x y) s Q:=by
 cases b with
 | true=>
  obtain⟨e,s',h1,h2⟩:=ht rfl
  exact⟨e,s',by simp only [bL,hk,sv,WQ,if_true,h1],h2⟩
 | false=>
  obtain⟨e,s',h1,h2⟩:=hf rfl
  exact⟨e,s',by simp only [bL,hk,sv,WQ,W9,if_false,h1],h2⟩
theorem Ax {c c':Code}(h:c=c')(k:de P cf A m c' s Q):de P cf A m c s Q:=h ▸ k
def EL {S O:Type}(l:Nat→S→Option O)(Rel:S→St→Prop)(QO:O→Ex→St→Prop)(k:Nat)(out:O):Ex→St→Prop
 | .norm,s=>∃σ,Rel σ s∧l k σ=some out
 | .exit i,s=>QO out (.exit i) s
 | .ret,s=>QO out .ret s
theorem s5 {S O:Type}{l:Nat→S→Option O}{Rel:S→St→Prop}{QO:O→Ex→St→Prop}{body:Code}(h0:∀σ,l 0 σ=none)
  (step:∀k σ s out,Rel σ s→l (k+1) σ=some out→de P cf A m body s (EL l Rel QO k out)):∀(n:Nat) (σ:S) (s:St) (out:O),Rel σ s→l n σ=some out→∃e s',kC (bL P cf A m body) n s=some (e,s')∧e≠.norm∧QO out e s'
 | 0,σ,s,out,_,h=>by rw [h0] at h; cases h
 | n+1,σ,s,out,hr,h=>by
  obtain⟨e,s',h1,h2⟩:=step n σ s out hr h
  cases e with
  | norm=>
   obtain⟨σ',h3,h4⟩:=h2
   obtain⟨e',US,h5,h6⟩:=s5 h0 step n σ' s' out h3 h4
   exact⟨e',US,by simp only [kC,h1,WQ,h5],h6⟩
  | exit i=>exact⟨_,s',by simp only [kC,h1,WQ],by simp,h2⟩
  | ret=>exact⟨_,s',by simp only [kC,h1,WQ],by simp,h2⟩
theorem Dd {S O:Type}(l:Nat→S→Option O)(Rel:S→St→Prop)(QO:O→Ex→St→Prop){body:Code}(h0:∀σ,l 0 σ=none)
  (step:∀k σ s out,Rel σ s→l (k+1) σ=some out→de P cf A m body s (EL l Rel QO k out)) {σ:S} {out:O} (hr:Rel σ s) (h:l m σ=some out) (hQ:∀e s',e≠.norm→QO out e s'→Q e s'):de P cf A m (.loop body) s Q:=by
 obtain⟨e,s',h1,h2,h3⟩:=s5 h0 step m σ s out hr h
 exact⟨e,s',by simp only [bL,h1],hQ e s' h2 h3⟩
theorem wN {aS:FuncId→cd}{f:FuncId}{fn:Func}{args:List AV}{h:AHeap}{R:AV→AHeap→Prop}(hf:P.funcs[f]? = some fn)(hb:fn.body=some (codeOf fn))(hn:Nat.ble args.length fn.ntmps=true)
  (he:de P cf (aS f) m (codeOf fn) ⟨lW (aS f).gg args,(aS f).aF.map fun _=>none,h⟩ (fun e s=>(e = .ret∨e = .norm)∧∃r,aI P (s.open (aS f)) fn.results.toList=some r∧R r s.h)) :
  ∃r h',aZ P aS cf m f args h=some (r,h')∧R r h':=by
 obtain⟨e,s,h1,h2,r,h3,h4⟩:=he
 refine⟨r,s.h,?_,h4⟩
 unfold aZ
 rw [hf,WQ,hb,WQ,if_pos (Nat.le_of_ble_eq_true hn),h1,WQ]
 rcases h2 with rfl | rfl<;>simp only [h3,WW]
end
end Go.R
namespace Go.R
open Go
structure cn (α:Type) where
 n:Nat
 f:α→List AV
 len:∀a,(f a).length=n
 pos:n≠0
 small:n≤1024:=by decide
 flat:Bool:=true
 pure:∀a,flat=true→cW (f a)=true∧dm (f a)=f a
 canon:∀a,(f a).map nJ=f a
section
variable {α:Type}(E:cn α)
def cn.l (l:List α):List AV:=l.flatMap E.f
def cn.fz (l:List α):AV:=.fz (E.l l) l.length false
variable {E}
theorem cn.ec {a:α}{l:List α}:E.l (a::l)=E.f a++E.l l:=rfl
theorem cn.I3:E.l []=[]:=rfl
theorem cn.kM {a b:List α}:E.l (a++b)=E.l a++E.l b:=by simp [cn.l]
theorem cn.cM:∀{l:List α},(E.l l).length=l.length*E.n
 | []=>by simp [cn.l]
 | a::l=>by rw [cn.ec,W3,E.len,cn.cM,Xf,X0,Nat.one_mul,Nat.add_comm]
theorem cn.oR {l:List α}(h:l.length≤1099511627776):(E.l l).length≤1125899906842624:=by
 rw [cn.cM]
 exact XD (Nat.mul_le_mul h E.small) (by decide)
theorem cn.wO:∀{l:List α} {i:Nat},(E.l l).drop (i*E.n)=E.l (l.drop i)
 | l,0=>by simp
 | [],i+1=>by simp [cn.l]
 | a::l,i+1=>by
  rw [List.drop_succ_cons,←cn.wO,cn.ec,X0,Nat.one_mul,List.drop_append,List.drop_of_length_le (by rw [E.len]; omega),Xs,E.len,Nat.add_sub_cancel]
theorem cn.EM:∀{l:List α} {i:Nat},(E.l l).take (i*E.n)=E.l (l.take i)
 | l,0=>by simp [cn.l]
 | [],i+1=>by simp [cn.l]
 | a::l,i+1=>by
  rw [cn.ec,List.take_succ_cons,cn.ec,X0,Nat.one_mul,Nat.add_comm,List.take_append]
  rw [E.len,Xx (by rw [E.len]; omega),X1,cn.EM]
theorem cn.I4 {l:List α}{i:Nat}{a:α}(h:l[i]? = some a){off:Nat}(ho:off<E.n):(E.l l)[i*E.n+off]? = (E.f a)[off]?:=by
 rw [←List.getElem?_drop,cn.wO,W6 (WZ.1 h).1,(WZ.1 h).2,cn.ec,Xu (by rw [E.len]; exact ho)]
theorem cn.EN {l:List α}{i:Nat}{a:α}(h:l[i]? = some a):((E.l l).drop (i*E.n)).take E.n=E.f a:=by
 rw [cn.wO,W6 (WZ.1 h).1,(WZ.1 h).2,cn.ec,Xv (by rw [E.len]; exact WU _)]
 rw [Xx (by rw [E.len]; exact WU _)]
theorem cn.Ay {l:List α}{i:Nat}{a:α}(h:l[i]? = some a):i*E.n+E.n≤(E.l l).length:=by
 rw [cn.cM]
 have:=(WZ.1 h).1
 calc i*E.n+E.n=(i+1)*E.n:=by rw [X0,Nat.one_mul]
  _≤_:=XK _ this
theorem oS:∀{a b:List AV},cW (a++b)=(cW a&&cW b)
 | [],b=>by simp [cW]
 | x::a,b=>by simp [cW,oS,Bool.and_assoc]
theorem oT:∀{a b:List AV},dm (a++b)=dm a++dm b
 | [],b=>rfl
 | x::a,b=>by simp [dm,oT]
theorem cn.qh (hp:E.flat=true):∀{l:List α},cW (E.l l)=true∧dm (E.l l)=E.l l
 | []=>⟨rfl,rfl⟩
 | a::l=>by
  obtain⟨h1,h2⟩:=E.pure a hp
  obtain⟨h3,h4⟩:=cn.qh hp (l:=l)
  rw [cn.ec,oS,oT,h1,h2,h3,h4]
  exact⟨rfl,rfl⟩
theorem cn.wP:∀{l:List α},(E.l l).map nJ=E.l l
 | []=>rfl
 | a::l=>by rw [cn.ec,Xm,E.canon,cn.wP]
theorem cn.gd {l:List α}(hp:E.flat=true:=by rfl):(E.fz l).dI=true∧(E.fz l).j5=E.fz l:=by
 obtain⟨h1,h2⟩:=cn.qh (E:=E) hp (l:=l)
 exact⟨h1,by show AV.fz (dm (E.l l)) l.length false=_; rw [h2]; rfl⟩
theorem kr:∀(cs vs pre J6:List AV),cs.length=vs.length→dy (pre++cs++J6) pre.length vs=pre++vs++J6
 | [],[],pre,J6,_=>by simp [dy]
 | c::cs,v::vs,pre,J6,h=>by
  have:=kr cs vs (pre++[v]) J6 (by simpa using h)
  simp only [W3,Xf,XL,Xh] at this
  rw [dy]
  have h2:(pre++c::cs++J6).set pre.length v=pre++[v]++cs++J6:=by
   rw [W7,Yl _ _ (WU _),Yo]
   simp
  rw [h2,this]
  simp
 | [],_::_,_,_,h=>by simp at h
 | _::_,[],_,_,h=>by simp at h
theorem cn.EO {l:List α}{i:Nat}{a b:α}(h:l[i]? = some a)(rest:List AV):dy (E.l l++rest) (i*E.n) (E.f b)=E.l (l.set i b)++rest:=by
 have hi:=(WZ.1 h).1
 have hl:l=l.take i++a::l.drop (i+1):=by
  conv=>lhs; rw [←List.take_append_drop i l,W6 hi]
  rw [(WZ.1 h).2]
 have hs:l.set i b=l.take i++b::l.drop (i+1):=List.set_eq_take_append_cons_drop .. |>.trans (by rw [if_pos hi])
 have e1:E.l l=E.l (l.take i)++E.f a++E.l (l.drop (i+1)):=by
  conv=>lhs; rw [hl]
  rw [cn.kM,cn.ec,W7]
 have e2:(E.l (l.take i)).length=i*E.n:=by rw [cn.cM,Yp,Yr (Nat.le_of_lt hi)]
 rw [hs,cn.kM,cn.ec,e1,←e2]
 have:=kr (E.f a) (E.f b) (E.l (l.take i)) (E.l (l.drop (i+1))++rest) (by rw [E.len,E.len])
 simp only [W7] at this ⊢
 exact this
theorem cn.J7 {l:List α}{i:Nat}{a b:α}{off:Nat}{v:AV}(h:l[i]? = some a)(ho:off<E.n)(hb:(E.f a).set off v=E.f b)(rest:List AV):(E.l l++rest).set (i*E.n+off) v=E.l (l.set i b)++rest:=by
 have hi:=(WZ.1 h).1
 have hl:l=l.take i++a::l.drop (i+1):=by
  conv=>lhs; rw [←List.take_append_drop i l,W6 hi]
  rw [(WZ.1 h).2]
 have hs:l.set i b=l.take i++b::l.drop (i+1):=List.set_eq_take_append_cons_drop .. |>.trans (by rw [if_pos hi])
 have e1:E.l l=E.l (l.take i)++(E.f a++E.l (l.drop (i+1))):=by
  conv=>lhs; rw [hl]
  rw [cn.kM,cn.ec]
 have e2:(E.l (l.take i)).length=i*E.n:=by rw [cn.cM,Yp,Yr (Nat.le_of_lt hi)]
 rw [hs,cn.kM,cn.ec,e1,←hb,←e2]
 simp only [W7]
 rw [Yl _ _ (by omega),List.set_append_left _ _ (by rw [E.len]; omega)]
 congr 2
 simp
end
def ix {α:Type}(l:List α)(i:Int):Option α:=if 0≤i then l[i.toNat]? else none
theorem gP {α:Type}{l:List α}{i:Int}{a:α}(h:ix l i=some a):0≤i∧i<l.length∧l[i.toNat]? = some a:=by
 unfold ix at h
 split at h
 ·rename_i h0
  have:=(WZ.1 h).1
  exact⟨h0,by omega,h⟩
 ·cases h
def upd {α:Type}(l:List α)(i:Int)(a:α):Option (List α):=if 0≤i∧i<l.length then some (l.set i.toNat a) else none
def pM {α:Type}(l:List α)(lo hi:Int):Option (List α):=if 0≤lo∧lo≤hi∧hi≤l.length then some ((l.drop lo.toNat).take (hi.toNat - lo.toNat)) else none
theorem mh {α:Type}{l r:List α}{lo hi:Int}(h:pM l lo hi=some r):0≤lo∧lo≤hi∧hi≤l.length∧r=(l.drop lo.toNat).take (hi.toNat - lo.toNat):=by
 unfold pM at h
 split at h
 ·rename_i h0; cases h; exact⟨h0.1,h0.2.1,h0.2.2,rfl⟩
 ·cases h
def bt (s:ByteArray)(i:Int):Option Int:=if 0≤i then (s.data.toList[i.toNat]?).map fun b=>(b.toNat:Int) else none
inductive Ct where
 | sl (n sz:Nat) (cs:List AV)
 | ob (cs:List AV)
 | mp (es:List (AV × AV))
 | row (e:TypeId) (cs:List AV)
def De (h:AHeap)(i:Nat):Ct→Prop
 | .sl n sz cs=>(cs.length=n*sz∧cs.length≤1125899906842624)∧((i=0∧n=0)∨(i≠0∧∃rest,h.get i=some (.cells (cs++rest))))
 | .ob cs=>i≠0∧h.get i=some (.cells cs)
 | .mp es=>i≠0∧h.get i=some (.map es)
 | .row e cs=>i≠0∧h.get i=some (.row e cs)
abbrev Mem:=List (Nat × Ct)
structure Has (h:AHeap)(K:Mem):Prop where
 at_:∀(j i:Nat) (c:Ct),K[j]? = some (i,c)→De h i c∧i<h.next
 nd:∀(j j' i:Nat) (c c':Ct),K[j]? = some (i,c)→K[j']? = some (i,c')→i≠0→j=j'
 pos:0<h.next
theorem s6 {h h':AHeap}{i:Nat}{c:Ct}(hg:i≠0→h'.get i=h.get i)(h1:De h i c):De h' i c:=by
 cases c with
 | sl n sz cs=>
  obtain⟨h2,h3⟩:=h1
  refine⟨h2,h3.imp id fun ⟨h4,r,h5⟩=>⟨h4,r,(hg h4).trans h5⟩⟩
 | ob cs=>exact⟨h1.1,(hg h1.1).trans h1.2⟩
 | mp es=>exact⟨h1.1,(hg h1.1).trans h1.2⟩
 | row e cs=>exact⟨h1.1,(hg h1.1).trans h1.2⟩
theorem cL (h:AHeap)(id k:Nat)(o:AObj):(h.put id o).get k=if k=id then some o else h.get k:=by
 simp only [AHeap.put,beq_nat]
 by_cases hk:k=id<;>simp [hk]
theorem s7 (h:AHeap)(id k:Nat):(h.kill id).get k=if k=id then none else h.get k:=by
 simp only [AHeap.kill,beq_nat]
 by_cases hk:k=id<;>simp [hk]
theorem Has.Df {h h':AHeap}{K:Mem}(o:Has h K){j i:Nat}{c:Ct}(hj:K[j]? = some (i,c)){i':Nat}{c':Ct}
  (hg:∀k,k≠i→k<h.next→h'.get k=h.get k) (hn:h.next≤h'.next) (hi:i'=i∨i'=0∨h.next≤i') (hlt:i'<h'.next) (hc:De h' i' c'):Has h' (K.set j (i',c')):=by
 refine⟨fun q k d hq=>?_,fun q q' k d d' hq yh hk=>?_,Xl o.pos hn⟩
 ·rw [Ye] at hq
  by_cases h1:j=q
  ·subst h1
   rw [if_pos rfl] at hq
   split at hq
   ·cases hq; exact⟨hc,hlt⟩
   ·cases hq
  ·rw [if_neg h1] at hq
   obtain⟨g1,g2⟩:=o.at_ q k d hq
   refine⟨s6 (fun hk=>hg k (fun he=>?_) g2) g1,Xl g2 hn⟩
   subst he
   exact h1 (o.nd j q k c d hj hq hk)
 ·rw [Ye] at hq yh
  have old:∀(q:Nat) (d:Ct),j≠q→K[q]? = some (k,d)→k≠i':=by
   intro x y hne hx he
   rcases hi with h1 | h1 | h1
   ·exact hne (o.nd j x k c y (by rw [he,h1]; exact hj) hx hk)
   ·exact hk (he.trans h1)
   ·have:=(o.at_ x k y hx).2; omega
  by_cases h1:j=q<;>by_cases h2:j=q'
  ·rw [←h1,h2]
  ·subst h1
   rw [if_pos rfl] at hq
   rw [if_neg h2] at yh
   split at hq
   ·cases hq; exact absurd rfl (old q' d' h2 yh)
   ·cases hq
  ·subst h2
   rw [if_pos rfl] at yh
   rw [if_neg h1] at hq
   split at yh
   ·cases yh; exact absurd rfl (old q d h1 hq)
   ·cases yh
  ·rw [if_neg h1] at hq; rw [if_neg h2] at yh
   exact o.nd q q' k d d' hq yh hk
theorem Has.new {h h':AHeap}{K:Mem}(o:Has h K){i:Nat}{c:Ct}(hg:∀k,k<h.next→h'.get k=h.get k)(hn:h.next≤h'.next)(hi:i=0∨h.next≤i)(hlt:i<h'.next)(hc:De h' i c):Has h' ((i,c)::K):=by
 refine⟨fun q k d hq=>?_,fun q q' k d d' hq yh hk=>?_,Xl o.pos hn⟩
 ·cases q with
  | zero=>simp only [Xz,WT,W2] at hq; obtain⟨rfl,rfl⟩:=hq; exact⟨hc,hlt⟩
  | succ q=>
   simp only [X2] at hq
   obtain⟨g1,g2⟩:=o.at_ q k d hq
   exact⟨s6 (fun _=>hg k g2) g1,Xl g2 hn⟩
 ·have old:∀(q:Nat) (d:Ct),K[q]? = some (k,d)→k≠i:=by
   intro x y hx he
   rcases hi with h1 | h1
   ·exact hk (he.trans h1)
   ·have:=(o.at_ x k y hx).2; omega
  cases q with
  | zero=>
   simp only [Xz,WT,W2] at hq
   cases q' with
   | zero=>rfl
   | succ q'=>exact absurd hq.1.symm (old q' d' (by simpa using yh))
  | succ q=>
   cases q' with
   | zero=>
    simp only [Xz,WT,W2] at yh
    exact absurd yh.1.symm (old q d (by simpa using hq))
   | succ q'=>rw [o.nd q q' k d d' (by simpa using hq) (by simpa using yh) hk]
theorem Has.nil {h:AHeap}{K:Mem}(o:Has h K)(sz:Nat):Has h ((0,.sl 0 sz [])::K):=
 o.new (fun _ _=>rfl) (WU _) (.inl rfl) o.pos ⟨⟨by simp,by simp⟩,.inl ⟨rfl,rfl⟩⟩
theorem Has.sub {h:AHeap}{K K':Mem}(o:Has h K)(f:Nat→Nat)(hf:∀j p,K'[j]? = some p→K[f j]? = some p)(hi:∀j j',f j=f j'→j=j'):Has h K':=
 ⟨fun j i c hj=>o.at_ (f j) i c (hf j _ hj),fun j j' i c c' hj JF hk=>hi _ _ (o.nd (f j) (f j') i c c' (hf j _ hj) (hf j' _ JF) hk),o.pos⟩
theorem Has.del {h:AHeap}{K:Mem}(o:Has h K)(q:Nat):Has h (K.eraseIdx q):=
 o.sub (fun j=>if j<q then j else j+1) (fun j p hj=>by
  rw [List.getElem?_eraseIdx] at hj
  split at hj
  ·rename_i h1; simpa [h1] using hj
  ·rename_i h1; simpa [h1] using hj) (fun j j' he=>by
   split at he<;>split at he<;>omega)
theorem Has.front {h:AHeap}{K:Mem}(o:Has h K)(q:Nat){p:Nat × Ct}(hq:K[q]? = some p):Has h (p::K.eraseIdx q):=
 o.sub (fun j=>match j with | 0=>q | j+1=>if j<q then j else j+1) (fun j p' hj=>by
  cases j with
  | zero=>simp only [Xz,WT] at hj; subst hj; exact hq
  | succ j=>
   simp only [X2,List.getElem?_eraseIdx] at hj
   dsimp only
   split at hj
   ·rename_i h1; simpa [h1] using hj
   ·rename_i h1; simpa [h1] using hj) (fun j j' he=>by
   cases j with
   | zero=>cases j' with
    | zero=>rfl
    | succ j'=>dsimp only at he; split at he<;>omega
   | succ j=>cases j' with
    | zero=>dsimp only at he; split at he<;>omega
    | succ j'=>dsimp only at he; split at he<;>split at he<;>omega)
end Go.R
namespace Go.R
open Go
def vp (P:Program)(t:TypeId)(sz b:Nat):Bool:=
 match P.underlying t with
 | some (.slice e)=>match P.info? e with
  | some i=>XB i.size sz&&XB i.bytes b&&Ju i
  | none=>false
 | _=>false
section
variable {P:Program}{t:TypeId}{sz b:Nat}
theorem js (h:vp P t sz b=true):∃e i,P.underlying t=some (.slice e)∧P.info? e=some i∧i.size=sz∧i.bytes=b∧Ju i=true∧eu P e=some sz:=by
 unfold vp at h
 split at h
 ·rename_i e he
  split at h
  ·rename_i i hi
   simp only [WV] at h
   have h1:=X8 h.1.1
   exact⟨e,i,he,hi,h1,X8 h.1.2,h.2,by simp [eu,hi,h1]⟩
  ·cases h
 ·cases h
variable {α:Type}{E:cn α}{h:AHeap}{K:Mem}{l:List α}{a v:α}{i q:Nat}{j:Int}{k:IntKind}{c:AV}{off:Nat}{tf:TypeId}
theorem bD (T:vp P t E.n b=true)(h:ix l j=some a):ez P t (E.fz l) (.int k j)=some (.fp (E.l l) (j.toNat*E.n)):=by
 obtain⟨e,inf,h1,h2,h3,h4,h5,h6⟩:=js T
 obtain⟨g1,g2,g3⟩:=gP h
 have hle:=cn.Ay (E:=E) g3
 have hp:=E.pos
 simp only [ez,h1,WQ,h6,cn.fz]
 rw [if_pos ⟨g1,g2,by omega⟩]
theorem MC (h:l[j.toNat]? = some a):(E.l l).isEmpty=false:=by
 have hle:=cn.Ay (E:=E) h
 have hp:=E.pos
 cases hl:E.l l with
 | nil=>rw [hl] at hle; simp at hle; omega
 | cons _ _=>rfl
theorem jx (hp:AHeap)(ha:ev P tf=some false)(h:ix l j=some a)(hc:(E.f a)[off]? = some c):bh P hp tf (.fp (E.l l) (j.toNat*E.n+off))=some c:=by
 obtain⟨g1,g2,g3⟩:=gP h
 have ho:off<E.n:=by rw [←E.len a]; exact (WZ.1 hc).1
 simp only [bh,jl,MC g3,W9,if_false,iW,ha,WQ,cn.I4 g3 ho,hc]
theorem dd (hp:AHeap)(ha:ev P tf=some false)(h:ix l j=some a)(hc:(E.f a)[0]? = some c):bh P hp tf (.fp (E.l l) (j.toNat*E.n))=some c:=jx (off:=0) hp ha h hc
theorem dE (hp:AHeap)(ha:ev P tf=some true)(hs:eu P tf=some E.n)(h:ix l j=some a):bh P hp tf (.fp (E.l l) (j.toNat*E.n))=some (.agg (E.f a)):=by
 obtain⟨g1,g2,g3⟩:=gP h
 simp only [bh,jl,MC g3,W9,if_false,iW,ha,WQ,if_true,hs]
 rw [if_pos (cn.Ay g3),cn.EN g3]
theorem sc (o:Has h K)(hq:K[q]? = some (i,.sl l.length E.n (E.l l)))(hj:l[j.toNat]? = some a):i≠0∧∃rest,h.get i=some (.cells (E.l l++rest)):=by
 obtain⟨⟨_,h1⟩,_⟩:=o.at_ _ _ _ hq
 rcases h1 with⟨_,h1⟩| h1
 ·have:=(WZ.1 hj).1; omega
 ·exact h1
theorem J8 (T:vp P t sz b=true){n:Nat}(h0:0≤j)(h1:j<n):ez P t (.rs i 0 n sz) (.int k j)=some (.ptr i (0+j.toNat*sz)):=by
 obtain⟨e,inf,g1,g2,g3,g4,g5,g6⟩:=js T
 simp only [ez,g1,WQ,g6]
 rw [if_pos ⟨trivial,h0,h1⟩]
theorem vq (o:Has h K)(hq:K[q]? = some (i,.sl l.length E.n (E.l l)))(ha:ev P tf=some false)(hj:ix l j=some a)(hc:(E.f a)[off]? = some c):bh P h tf (.ptr i (0+j.toNat*E.n+off))=some c:=by
 obtain⟨g1,g2,g3⟩:=gP hj
 obtain⟨h1,rest,h2⟩:=sc o hq g3
 have ho:off<E.n:=by rw [←E.len a]; exact (WZ.1 hc).1
 have hle:=cn.Ay (E:=E) g3
 simp only [bh,jl,h2,WQ,iW,ha,W9,if_false,Xh]
 rw [Xu (by omega),cn.I4 g3 ho,hc]
theorem Dg (o:Has h K)(hq:K[q]? = some (i,.sl l.length E.n (E.l l)))(ha:ev P tf=some false)(hj:ix l j=some a)(hc:(E.f a)[0]? = some c):bh P h tf (.ptr i (0+j.toNat*E.n))=some c:=vq (off:=0) o hq ha hj hc
theorem Dh (o:Has h K)(hq:K[q]? = some (i,.sl l.length E.n (E.l l)))(ha:ev P tf=some true)(hs:eu P tf=some E.n)(hj:ix l j=some a):bh P h tf (.ptr i (0+j.toNat*E.n))=some (.agg (E.f a)):=by
 obtain⟨g1,g2,g3⟩:=gP hj
 obtain⟨h1,rest,h2⟩:=sc o hq g3
 have hle:=cn.Ay (E:=E) g3
 simp only [bh,jl,h2,WQ,iW,ha,if_true,hs,Xh]
 rw [if_pos (by rw [W3]; omega),List.drop_append_of_le_length (by omega),Xv (by rw [List.length_drop]; omega),cn.EN g3]
theorem jG (o:Has h K){c':Ct}{ct:Ct}(hq:K[q]? = some (i,ct)){ob:AObj}(hc:De (h.put i ob) i c'):Has (h.put i ob) (K.set q (i,c')):=
 o.Df hq (fun k hk _=>by rw [cL,if_neg hk]) (X5 _) (.inl rfl) (Yd (o.at_ _ _ _ hq).2) hc
theorem EP (o:Has h K)(hq:K[q]? = some (i,.sl l.length E.n (E.l l)))(hs:eu P tf=some E.n)(hj:ix l j=some a){x:AV}(hv:x.cells=E.f v)(oy:(E.f v).all AV.cJ=true) :
  ∃h',iZ P h tf (.ptr i (0+j.toNat*E.n)) x=some h'∧Has h' (K.set q (i,.sl l.length E.n (E.l (l.set j.toNat v)))):=by
 obtain⟨g1,g2,g3⟩:=gP hj
 obtain⟨h1,rest,h2⟩:=sc o hq g3
 have hle:=cn.Ay (E:=E) g3
 refine⟨_,?_,jG o hq (ob:=.cells (E.l (l.set j.toNat v)++rest)) ⟨⟨by rw [cn.cM,WY],by rw [cn.cM,WY,←cn.cM]; exact (o.at_ _ _ _ hq).1.1.2⟩,.inr ⟨h1,rest,by rw [cL,if_pos rfl]⟩⟩⟩
 simp only [iZ,h2,WQ,gL,hs,hv,Xh]
 rw [if_pos ⟨E.len v,oy,by rw [W3]; omega⟩,WW,cn.EO g3]
theorem Di (o:Has h K)(hq:K[q]? = some (i,.sl l.length E.n (E.l l)))(hs:eu P tf=some 1)(hj:ix l j=some a){x:AV}(hx:x.cells=[x])(oy:x.cJ=true)(ho:off<E.n)(hb:(E.f a).set off x=E.f v) :
  ∃h',iZ P h tf (.ptr i (0+j.toNat*E.n+off)) x=some h'∧Has h' (K.set q (i,.sl l.length E.n (E.l (l.set j.toNat v)))):=by
 obtain⟨g1,g2,g3⟩:=gP hj
 obtain⟨h1,rest,h2⟩:=sc o hq g3
 have hle:=cn.Ay (E:=E) g3
 refine⟨_,?_,jG o hq (ob:=.cells (E.l (l.set j.toNat v)++rest)) ⟨⟨by rw [cn.cM,WY],by rw [cn.cM,WY,←cn.cM]; exact (o.at_ _ _ _ hq).1.1.2⟩,.inr ⟨h1,rest,by rw [cL,if_pos rfl]⟩⟩⟩
 simp only [iZ,h2,WQ,gL,hs,hx,Xh]
 rw [if_pos ⟨rfl,by simp [oy],by rw [W3]; omega⟩,WW]
 simp only [dy]
 rw [cn.J7 g3 ho hb]
def app (b:Nat){α:Type}(l l2:List α):Option (List α):=if (l.length+l2.length)*(b+1)≤1099511627776 then some (l++l2) else none
theorem yB {l l2 r:List α}(h:app b l l2=some r):(l.length+l2.length)*b≤gn∧l.length+l2.length≤gn∧r=l++l2:=by
 unfold app at h
 split at h
 ·rename_i h0
  cases h
  rw [Nat.mul_add,Yn] at h0
  refine⟨by simp only [gn]; omega,by simp only [gn]; omega,rfl⟩
 ·cases h
theorem ER {t2:TypeId}{l2 r:List α}{x:AV}(T:vp P t E.n b=true)(o:Has h K)(hq:K[q]? = some (i,.sl l.length E.n (E.l l)))(hx:fm h E.n x=some (E.l l2,l2.length))(ig:j7 P t2 x=true)(hr:app b l l2=some r) :
  ∃i' h',gM P h t t2 (.rs i 0 l.length E.n) x=some (.rs i' 0 r.length E.n,h')∧Has h' (K.set q (i',.sl r.length E.n (E.l r))):=by
 obtain⟨e,inf,g1,g2,g3,g4,g5,g6⟩:=js T
 obtain⟨r1,r2,rfl⟩:=yB hr
 obtain⟨⟨⟨hlen,Aj⟩,og⟩,hlt⟩:=o.at_ _ _ _ hq
 have iS:=E.pos
 have hb:inf.size=E.n:=g3
 have jT:¬(inf.size=0∨j7 P t2 x=false∨Ju inf=false):=by rw [ig,g5,hb]; simp [iS]
 subst g4
 by_cases h0:l2=[]
 ·subst h0
  refine⟨i,h,?_,?_⟩
  ·simp only [gM,g1,WQ,g2,hb,hx,ig,g5]
   rw [if_neg (by simp [iS])]
   simp only [XL,Nat.zero_mul,Nat.add_zero,XW]
   by_cases hi:i=0
   ·subst hi
    rcases og with⟨_,hl0⟩| h1
    ·simp [hl0,hb,gn]
    ·exact absurd rfl h1.1
   ·rcases og with h1 | ⟨_,rest,h1⟩
    ·exact absurd h1.1 hi
    ·rw [if_neg hi,h1]
     simp only [WQ]
     rw [if_neg (by rw [W3,hlen]; simp only [XL,Nat.add_zero] at r1 r2; simp; omega)]
     simp
  ·rw [XW]
   have:K.set q (i,.sl l.length E.n (E.l l))=K:=by
    apply XI
    intro j
    rw [Ye]
    by_cases hj:q=j
    ·subst hj; rw [if_pos rfl,if_pos (WZ.1 hq).1,hq]
    ·rw [if_neg hj]
   rw [this]; exact o
 ·have Ls:l2.length≠0:=by simpa using h0
  by_cases hi:i=0
  ·subst hi
   rcases og with⟨_,hl0⟩| h1
   rotate_left
   ·exact absurd rfl h1.1
   have hnil:l=[]:=by simpa using hl0
   subst hnil
   refine⟨h.next,h.alloc (.cells (E.l l2)),?_,?_⟩
   ·simp only [gM,g1,WQ,g2,hb,hx,ig,g5]
    rw [if_neg (by simp [iS])]
    simp only [if_true]
    simp only [XL,Xh] at r1 r2
    rw [if_neg (by simp; omega),if_neg Ls]
    simp
   ·refine o.Df hq (fun k _ hk=>by rw [AHeap.alloc,cL,if_neg (by omega)]) (X5 _) (.inr (.inr (WU _))) (XC _) ⟨⟨cn.cM,cn.oR (by simp only [gn] at r2; simp at r2 ⊢; omega)⟩,.inr ⟨by have:=o.pos; omega,[],?_⟩⟩
    rw [AHeap.alloc,cL,if_pos rfl]; simp
  ·rcases og with h1 | ⟨_,rest,h1⟩
   ·exact absurd h1.1 hi
   refine⟨h.next,(h.kill i).put h.next (.cells (E.l (l++l2))),?_,?_⟩
   ·simp only [gM,g1,WQ,g2,hb,hx,ig,g5]
    rw [if_neg (by simp [iS]),if_neg hi,h1]
    simp only [WQ]
    rw [if_neg (by rw [W3,hlen]; simp; omega),if_neg Ls]
    rw [Xr,Xv (by rw [hlen]; exact WU _),Xx (by rw [hlen]; exact WU _),cn.kM,W3]
   ·refine o.Df hq (fun k hk pY=>by rw [cL,if_neg (by omega),s7,if_neg hk]) (by show h.next≤h.next+1+1; omega) (.inr (.inr (WU _))) (by show h.next<h.next+1+1; omega) ⟨⟨cn.cM,cn.oR (by simp only [gn] at r2; simp at r2 ⊢; omega)⟩,.inr ⟨by have:=o.pos; omega,[],?_⟩⟩
    rw [cL,if_pos rfl]; simp
theorem ES {l2:List α}(h:AHeap):fm h E.n (E.fz l2)=some (E.l l2,l2.length):=by
 simp only [fm,dJ,cn.fz]
 rw [if_pos cn.cM,WW,cn.wP]
theorem yC (o:Has h K)(hq:K[q]? = some (i,.sl l.length E.n (E.l l))):fm h E.n (.rs i 0 l.length E.n)=some (E.l l,l.length):=by
 obtain⟨⟨⟨hlen,Aj⟩,og⟩,hlt⟩:=o.at_ _ _ _ hq
 simp only [fm,dJ]
 rcases og with⟨h0,h1⟩| ⟨h0,rest,h1⟩
 ·have:l=[]:=by simpa using h1
  subst this
  simp [h0,cn.l]
 ·rw [if_neg h0,h1]
  simp only [WQ]
  rw [if_pos ⟨trivial,by rw [W3,hlen]; omega⟩,WW,Xr,Xv (by rw [hlen]; exact WU _),Xx (by rw [hlen]; exact WU _),cn.wP]
def uM (b:Nat){α:Type}(n:Int)(z:α):Option (List α):=if 0≤n∧n.toNat*(b+1)≤1099511627776 then some (Xc n.toNat z) else none
theorem nS {n:Int}{z:α}{zv:AV}{r:List α}(T:vp P t E.n b=true)(o:Has h K)(e0:TypeId)(UT:P.underlying t=some (.slice e0))(hz0:jN P e0=some zv)(UU:zv.cells=E.f z)(oy:(E.f z).all AV.cJ=true)(hr:uM b n z=some r) :
  ∃i h',gp P h t (.int .i64 n) (.int .i64 n)=some (.rs i 0 r.length E.n,h')∧Has h' ((i,.sl r.length E.n (E.l r))::K):=by
 have hz:∀e,P.underlying t=some (.slice e)→jN P e=some zv:=fun e he=>by
  rw [UT] at he; cases he; exact hz0
 unfold uM at hr
 split at hr
 rotate_left
 ·cases hr
 rename_i jT
 obtain⟨h0,h1⟩:=jT
 cases hr
 obtain⟨e,inf,g1,g2,g3,g4,g5,g6⟩:=js T
 have iS:=E.pos
 have Pw:∀k,lD (E.f z) k=E.l (Xc k z):=by
  intro k
  induction k with
  | zero=>rfl
  | succ k ih=>rw [lD,ih,List.replicate_succ,cn.ec]
 refine⟨h.next,h.alloc (.cells (E.l (Xc n.toNat z))),?_,o.new (fun k hk=>by rw [AHeap.alloc,cL,if_neg (by omega)]) (X5 _) (.inr (WU _)) (XC _) ⟨⟨cn.cM,cn.oR (by rw [List.length_replicate]; rw [Nat.mul_add,Yn] at h1; omega)⟩,.inr ⟨by have:=o.pos; omega,[],by rw [AHeap.alloc,cL,if_pos rfl]; simp⟩⟩⟩
 rw [Nat.mul_add,Yn] at h1
 simp only [gp,g1,WQ,g2,hz e g1,UU,E.len,Pw,List.length_replicate,g3,g4]
 have hb:n*(b:Int)≤gn:=by
  have:n*(b:Int)=((n.toNat*b:Nat):Int):=by
   rw [Int.natCast_mul,Int.toNat_of_nonneg h0]
  simp only [gn]
  rw [this]
  omega
 rw [if_pos ⟨h0,Int.le_refl _,hb,trivial,iS,by omega,oy⟩]
theorem ET (o:Has h K)(hq:K[q]? = some (i,.sl l.length E.n (E.l l)))(hp:E.flat=true:=by rfl):∃h',kB 0 h (.rs i 0 l.length E.n)=some (E.fz l,h')∧Has h' (K.eraseIdx q):=by
 obtain⟨⟨⟨hlen,Aj⟩,og⟩,hlt⟩:=o.at_ _ _ _ hq
 rcases og with⟨h0,h1⟩| ⟨h0,rest,h1⟩
 ·have:l=[]:=by simpa using h1
  subst this
  exact⟨h,by simp [kB,h0,cn.fz,cn.l],o.del q⟩
 ·refine⟨h.kill i,?_,?_⟩
  ·simp only [kB]
   rw [if_neg h0,h1]
   simp only [WQ]
   have e1:((E.l l++rest).drop 0).take (l.length*E.n)=E.l l:=by
    rw [Xr,Xv (by rw [hlen]; exact WU _),Xx (by rw [hlen]; exact WU _)]
   rw [e1,if_pos ⟨by rw [W3,hlen]; omega,(cn.qh hp).1⟩]
   rfl
  ·have o2:=o.Df (i':=0) (c':=.sl 0 1 []) (h':=h.kill i) hq (fun k hk _=>by rw [s7,if_neg hk]) (X5 _) (.inr (.inl rfl)) (Nat.succ_pos _) ⟨⟨by simp,by simp⟩,.inl ⟨rfl,rfl⟩⟩
   have:=o2.del q
   rwa [List.eraseIdx_set_eq] at this
variable {n:Nat}
theorem dq (o:Has h K)(hq:K[q]? = some (i,.sl n E.n (E.l l))):n=l.length:=by
 have h1:=(o.at_ _ _ _ hq).1.1.1
 rw [cn.cM] at h1
 exact (Nat.eq_of_mul_eq_mul_right (Nat.pos_of_ne_zero E.pos) h1).symm
theorem aG (T:vp P t E.n b=true)(o:Has h K)(hq:K[q]? = some (i,.sl n E.n (E.l l)))(hj:ix l j=some a):ez P t (.rs i 0 n E.n) (.int k j)=some (.ptr i (0+j.toNat*E.n)):=by
 have hn:=dq o hq
 subst hn
 exact J8 T (gP hj).1 (gP hj).2.1
theorem wQ (o:Has h K)(hq:K[q]? = some (i,.sl n E.n (E.l l)))(ha:ev P tf=some false)(hj:ix l j=some a)(hc:(E.f a)[off]? = some c):bh P h tf (.ptr i (0+j.toNat*E.n+off))=some c:=by
 have hn:=dq o hq
 subst hn
 exact vq o hq ha hj hc
theorem be (o:Has h K)(hq:K[q]? = some (i,.sl n E.n (E.l l)))(ha:ev P tf=some false)(hj:ix l j=some a)(hc:(E.f a)[0]? = some c):bh P h tf (.ptr i (0+j.toNat*E.n))=some c:=by
 have hn:=dq o hq
 subst hn
 exact Dg o hq ha hj hc
theorem HN (o:Has h K)(hq:K[q]? = some (i,.sl n E.n (E.l l)))(ha:ev P tf=some true)(hs:eu P tf=some E.n)(hj:ix l j=some a):bh P h tf (.ptr i (0+j.toNat*E.n))=some (.agg (E.f a)):=by
 have hn:=dq o hq
 subst hn
 exact Dh o hq ha hs hj
theorem dK (o:Has h K)(hq:K[q]? = some (i,.sl n E.n (E.l l)))(hs:eu P tf=some E.n)(hj:ix l j=some a){x:AV}(hv:x.cells=E.f v)(oy:(E.f v).all AV.cJ=true) :
  ∃h',iZ P h tf (.ptr i (0+j.toNat*E.n)) x=some h'∧Has h' (K.set q (i,.sl n E.n (E.l (l.set j.toNat v)))):=by
 have hn:=dq o hq
 subst hn
 exact EP o hq hs hj hv oy
theorem HO (o:Has h K)(hq:K[q]? = some (i,.sl n E.n (E.l l)))(hs:eu P tf=some 1)(hj:ix l j=some a){x:AV}(hx:x.cells=[x])(oy:x.cJ=true)(ho:off<E.n)(hb:(E.f a).set off x=E.f v) :
  ∃h',iZ P h tf (.ptr i (0+j.toNat*E.n+off)) x=some h'∧Has h' (K.set q (i,.sl n E.n (E.l (l.set j.toNat v)))):=by
 have hn:=dq o hq
 subst hn
 exact Di o hq hs hj hx oy ho hb
theorem fY {t2:TypeId}{l2 r:List α}{x:AV}(T:vp P t E.n b=true)(o:Has h K)(hq:K[q]? = some (i,.sl n E.n (E.l l)))(hx:fm h E.n x=some (E.l l2,l2.length))(ig:j7 P t2 x=true)(hr:app b l l2=some r) :
  ∃i' h',gM P h t t2 (.rs i 0 n E.n) x=some (.rs i' 0 r.length E.n,h')∧Has h' (K.set q (i',.sl r.length E.n (E.l r))):=by
 have hn:=dq o hq
 subst hn
 exact ER T o hq hx ig hr
theorem Dj (o:Has h K)(hq:K[q]? = some (i,.sl n E.n (E.l l))):fm h E.n (.rs i 0 n E.n)=some (E.l l,l.length):=by
 have hn:=dq o hq
 subst hn
 exact yC o hq
theorem ja (o:Has h K)(hq:K[q]? = some (i,.sl n E.n (E.l l)))(hp:E.flat=true:=by rfl):∃h',kB 0 h (.rs i 0 n E.n)=some (E.fz l,h')∧Has h' (K.eraseIdx q):=by
 have hn:=dq o hq
 subst hn
 exact ET o hq hp
end
end Go.R
namespace Go.R
open Go
structure ae where
 kind:Int
 int:Int
 label:ByteArray
 args:List Int
structure au where
 nodes:List ae
 root:Int
def eI (k:IntKind):cn Int:={n:=1,f:=fun a=>[.int k a],len:=fun _=>rfl,pos:=by decide,pure:=fun _ _=>⟨rfl,rfl⟩,canon:=fun _=>rfl}
abbrev aa:cn Int:=eI .i64
abbrev ao:cn Int:=eI .u8
def cF:cn Bool:={n:=1,f:=fun a=>[.bool a],len:=fun _=>rfl,pos:=by decide,pure:=fun _ _=>⟨rfl,rfl⟩,canon:=fun _=>rfl}
theorem pure_cons {x:AV}{xs:List AV}(h:x.dI=true∧x.j5=x)(k:cW xs=true∧dm xs=xs):cW (x::xs)=true∧dm (x::xs)=x::xs:=
 ⟨by simp [cW,h.1,k.1],by simp [dm,h.2,k.2]⟩
theorem pure_nil:cW []=true∧dm []=[]:=⟨rfl,rfl⟩
theorem gy {k:IntKind}{n:Int}:(AV.int k n).dI=true∧(AV.int k n).j5 = .int k n:=⟨rfl,rfl⟩
theorem EU {s:ByteArray}:(AV.str s).dI=true∧(AV.str s).j5 = .str s:=⟨rfl,rfl⟩
def af:cn ae:={n:=4,f:=fun x=>[.int .i64 x.kind,.int .i64 x.int,.str x.label,aa.fz x.args],len:=fun _=>rfl,pos:=by decide,pure:=fun x _=>pure_cons gy (pure_cons gy (pure_cons EU (pure_cons cn.gd pure_nil))),canon:=fun _=>rfl}
def bl:cn au:={n:=2,f:=fun x=>[af.fz x.nodes,.int .i64 x.root],len:=fun _=>rfl,pos:=by decide,pure:=fun x _=>pure_cons cn.gd (pure_cons gy pure_nil),canon:=fun _=>rfl}
end Go.R
namespace Go.R
open Go
theorem HP {b:Bool}(h:b=false):¬b=true:=by rw [h]; decide
section
variable {P:Program}{cf:CallF}{A:cd}{m:Nat}
theorem vt {c:Code}{s:St}{Q R:Ex→St→Prop}(h:de P cf A m c s Q)(k:∀e s',Q e s'→R e s'):de P cf A m c s R:=by
 obtain⟨e,s',h1,h2⟩:=h
 exact⟨e,s',h1,k _ _ h2⟩
theorem aD {c:Code}{s:St}{Q:St→Prop}{R:Ex→St→Prop}(hQ:∀e s',(e = .ret∨e = .norm)∧Q s'→R e s')(h:de P cf A m c s (fun e s'=>(e = .ret∨e = .norm)∧Q s')):de P cf A m c s R:=vt h hQ
end
def jy:Nat:=1125899906842630
def lL (k:Nat)(h:AHeap)(x y:AV):Prop:=∀n,jy+k≤n→cp h n x=some y
def eA (k:Nat)(h:AHeap)(x y:List AV):Prop:=∀n,jy+k≤n→bM h n x=some y
def yD (h:AHeap)(x y:AV):Prop:=lL 1000 h x y
section
variable {h:AHeap}{α:Type}{E:cn α}{l:List α}{K:Mem}{q i:Nat}
theorem lL.mono {k k':Nat}{x y:AV}(hk:k≤k')(f:lL k h x y):lL k' h x y:=fun n hn=>f n (by omega)
theorem pU {k:Nat}{x y:AV}(f:lL k h x y)(hk:k≤1000:=by decide):yD h x y:=f.mono hk
theorem lj {n:Nat}(h:jy≤n):∃k,n=k+1∧jy≤k+1:=⟨n - 1,by simp only [jy] at h; omega,by omega⟩
theorem mT {x:AV}(h1:x.dI=true)(h2:∀n,cp h (n+1) x=if x.dI then some x.j5 else none){y:AV}(h3:x.j5=y):lL 0 h x y:=fun n hn=>by
 obtain⟨k,rfl,_⟩:=lj (show jy≤n by omega)
 rw [h2,h1,h3]; rfl
theorem aH {k:IntKind}{n:Int}:lL 0 h (.int k n) (.int k n):=mT rfl (fun _=>rfl) rfl
theorem bJ {s:ByteArray}:lL 0 h (.str s) (.str s):=mT rfl (fun _=>rfl) rfl
theorem b4 (hp:E.flat=true:=by rfl):lL 0 h (E.fz l) (E.fz l):=mT (cn.gd hp).1 (fun _=>rfl) (cn.gd hp).2
theorem gQ:lL 0 h .nils (E.fz []):=mT rfl (fun _=>rfl) rfl
theorem Az {cs:List AV}(h1:(cW cs=true))(h2:dm cs=E.l l){n:Nat}{b:Bool}(h3:n=l.length):lL 0 h (.fz cs n b) (E.fz l):=by
 refine mT (by simpa [AV.dI] using h1) (fun _=>rfl) ?_
 subst h3
 show AV.fz (dm cs) l.length false=_
 rw [h2]; rfl
theorem nw:∀{cs:List AV} {n:Nat},cW cs=true→(∀x∈cs,∀n,cp h (n+1) x=if x.dI then some x.j5 else none)→cs.length+1<n→bM h n cs=some (dm cs)
 | [],n,_,_,hn=>by
  obtain⟨k,rfl⟩:∃k,n=k+1:=⟨n - 1,by omega⟩
  rfl
 | x::cs,n,h1,h2,hn=>by
  obtain⟨k,rfl⟩:∃k,n=k+1+1:=⟨n - 2,by simp at hn; omega⟩
  simp only [cW,WV] at h1
  simp only [bM]
  rw [h2 x (by simp) k,h1.1]
  simp only [if_true,WQ]
  rw [nw h1.2 (fun y hy=>h2 y (by simp [hy])) (by simp at hn; omega)]
  rfl
def yE:AV→Bool
 | .agg _ | .tup _=>false
 | _=>true
theorem EV {x:AV}(hf:yE x=true)(hn:x.dI=true)(n:Nat):cp h (n+1) x=if x.dI then some x.j5 else none:=by
 cases x<;>first | rfl | (simp [AV.dI] at hn; done) | (simp [yE] at hf; done)
theorem HQ (o:Has h K)(hq:K[q]? = some (i,.sl l.length E.n (E.l l)))(hf:∀a:α,(E.f a).all yE=true)(hp:E.flat=true:=by rfl):lL 0 h (.rs i 0 l.length E.n) (E.fz l):=fun n hn=>by
 obtain⟨⟨⟨hlen,Aj⟩,og⟩,hlt⟩:=o.at_ _ _ _ hq
 obtain⟨k,rfl,hk⟩:=lj (show jy≤n by omega)
 simp only [cp]
 rcases og with⟨h0,h1⟩| ⟨h0,rest,h1⟩
 ·have:l=[]:=by simpa using h1
  subst this
  simp [h0,cn.fz,cn.l]
 ·rw [if_neg h0,h1]
  simp only [WQ]
  have e1:((E.l l++rest).drop 0).take (l.length*E.n)=E.l l:=by
   rw [Xr,Xv (by rw [hlen]; exact WU _),Xx (by rw [hlen]; exact WU _)]
  rw [if_pos (by rw [W3,hlen]; omega),e1,nw (cn.qh hp).1 (fun x hx=>?_) (by simp only [jy] at hk; omega),(cn.qh hp).2]
  ·rfl
  ·have hnx:x.dI=true:=by
    have:∀(cs:List AV),cW cs=true→x∈cs→x.dI=true:=by
     intro cs
     induction cs with
     | nil=>intro _ h; cases h
     | cons y ys ih=>
      intro h hm
      simp only [cW,WV] at h
      rcases Xo.1 hm with rfl | hm
      ·exact h.1
      ·exact ih h.2 hm
    exact this _ (cn.qh hp).1 hx
   have J9:yE x=true:=by
    unfold cn.l at hx
    rw [List.mem_flatMap] at hx
    obtain⟨a,_,ha⟩:=hx
    exact Xi.1 (hf a) x ha
   exact fun n=>EV J9 hnx n
theorem s8 {n:Nat}(o:Has h K)(hq:K[q]? = some (i,.sl n E.n (E.l l)))(hf:∀a:α,(E.f a).all yE=true)(hp:E.flat=true:=by rfl):lL 0 h (.rs i 0 n E.n) (E.fz l):=by
 have hn:=dq o hq
 subst hn
 exact HQ o hq hf hp
theorem ax:eA 0 h [] []:=fun n hn=>by
 obtain⟨k,rfl,_⟩:=lj (show jy≤n by omega)
 rfl
theorem ab {k1 k2:Nat}{x y:AV}{xs ys:List AV}(f:lL k1 h x y)(g:eA k2 h xs ys):eA (k1+k2+1) h (x::xs) (y::ys):=fun n hn=>by
 obtain⟨k,rfl⟩:∃k,n=k+1:=⟨n - 1,by omega⟩
 simp only [bM]
 rw [f k (by omega),g k (by omega)]
 rfl
theorem cg {k:Nat}{xs ys:List AV}(f:eA k h xs ys):lL (k+1) h (.agg xs) (.agg ys):=fun n hn=>by
 obtain⟨k,rfl⟩:∃k,n=k+1:=⟨n - 1,by omega⟩
 simp only [cp]
 rw [f k (by omega)]; rfl
theorem gz {k:Nat}{xs ys:List AV}(f:eA k h xs ys):lL (k+1) h (.tup xs) (.tup ys):=fun n hn=>by
 obtain⟨k,rfl⟩:∃k,n=k+1:=⟨n - 1,by omega⟩
 simp only [cp]
 rw [f k (by omega)]; rfl
end
def ic (k:IntKind)(x y:Int):Int:=k.wrap ((XY k.bits x &&& XY k.bits y).toNat:Int)
def jb (k:IntKind)(x y:Int):Int:=k.wrap ((XY k.bits x ||| XY k.bits y).toNat:Int)
def lk (k:IntKind)(x y:Int):Int:=k.wrap ((XY k.bits x ^^^ XY k.bits y).toNat:Int)
def gk (k:IntKind)(x:Int)(n:Nat):Int:=x.fdiv (2 ^ (min n k.bits))
section
variable {P:Program}{t:TypeId}{b:Nat}{α:Type}{E:cn α}{h:AHeap}{K:Mem}{l r:List α}{i q:Nat}{j lo hi:Int}{k k':IntKind}
theorem mi {s:ByteArray}{v:Int}(hu:P.underlying t=some .string)(h:bt s j=some v):pO P t (.str s) (.int k j)=some (.int .u8 v):=by
 unfold bt at h
 split at h
 ·rename_i h0
  rw [WS] at h
  obtain⟨b,hb,rfl⟩:=h
  simp only [pO,hu,WQ,h0,if_true,hb,WW]
 ·cases h
theorem oU (h:pM l lo hi=some r):(((E.l l).drop (lo.toNat*E.n)).take ((hi.toNat - lo.toNat)*E.n))=E.l r∧r.length=hi.toNat - lo.toNat:=by
 obtain⟨h0,h1,h2,rfl⟩:=mh h
 refine⟨by rw [cn.wO,cn.EM],?_⟩
 rw [Yp,List.length_drop]
 omega
theorem HR (T:vp P t E.n b=true)(h:pM l lo hi=some r):fe P t (E.fz l) (some (.int k lo)) (some (.int k' hi)) none=some (E.fz r):=by
 obtain⟨e,inf,g1,g2,g3,g4,g5,g6⟩:=js T
 obtain⟨h0,h1,h2,_⟩:=mh h
 obtain⟨h3,h4⟩:=oU (E:=E) h
 simp only [fe,g1,WQ,g6,cn.fz,iD]
 rw [if_pos ⟨by omega,h2⟩]
 simp only [WQ]
 rw [if_pos ⟨h0,by omega⟩]
 simp only [WQ,WW,Bool.false_and]
 rw [h3,←h4]
theorem BF (T:vp P t E.n b=true)(h:pM l 0 hi=some r):fe P t (E.fz l) none (some (.int k' hi)) none=some (E.fz r):=by
 obtain⟨e,inf,g1,g2,g3,g4,g5,g6⟩:=js T
 obtain⟨h0,h1,h2,_⟩:=mh h
 obtain⟨h3,h4⟩:=oU (E:=E) h
 simp only [fe,g1,WQ,g6,cn.fz,iD]
 rw [if_pos ⟨by omega,h2⟩]
 simp only [WQ,WW,Bool.false_and]
 simp only [Int.toNat_zero] at h3 h4
 rw [h3,←h4]
theorem wR (T:vp P t E.n b=true)(h:pM l lo (l.length:Int)=some r):fe P t (E.fz l) (some (.int k lo)) none none=some (E.fz r):=by
 obtain⟨e,inf,g1,g2,g3,g4,g5,g6⟩:=js T
 obtain⟨h0,h1,h2,_⟩:=mh h
 obtain⟨h3,h4⟩:=oU (E:=E) h
 simp only [fe,g1,WQ,g6,cn.fz,iD]
 rw [if_pos ⟨h0,by omega⟩]
 simp only [WQ,WW,Bool.false_and]
 simp only [WX] at h3 h4
 rw [h3,←h4]
theorem EW (o:Has h K)(hq:K[q]? = some (i,.sl l.length E.n (E.l l)))(T:vp P t E.n b=true)(hs:pM l 0 hi=some r) :
  fe P t (.rs i 0 l.length E.n) none (some (.int k hi)) none=some (.rs i 0 r.length E.n)∧Has h (K.set q (i,.sl r.length E.n (E.l r))):=by
 obtain⟨e,inf,g1,g2,g3,g4,g5,g6⟩:=js T
 obtain⟨h0,h1,h2,hr⟩:=mh hs
 obtain⟨h3,h4⟩:=oU (E:=E) hs
 simp only [Int.toNat_zero,Nat.sub_zero] at h4 hr
 have As:r=l.take hi.toNat:=by rw [hr]; simp
 refine⟨?_,?_⟩
 ·simp only [fe,g1,WQ,g6,if_true,iD]
  rw [if_pos ⟨by omega,h2⟩]
  simp only [WQ,WW,Nat.zero_mul,Nat.add_zero,Nat.sub_zero,h4]
 ·obtain⟨⟨⟨hlen,Aj⟩,og⟩,hlt⟩:=o.at_ _ _ _ hq
  refine o.Df hq (fun _ _ _=>rfl) (WU _) (.inl rfl) hlt ⟨⟨cn.cM,?_⟩,?_⟩
  ·rw [cn.cM]
   refine XD (XK _ ?_) (hlen ▸ Aj)
   rw [h4]; omega
  ·rcases og with⟨h5,h6⟩| ⟨h5,rest,h6⟩
   ·left; exact⟨h5,by rw [h4]; omega⟩
   ·right
    refine⟨h5,E.l (l.drop hi.toNat)++rest,?_⟩
    rw [h6,As,←W7,←cn.kM,List.take_append_drop]
theorem Ka {n:Nat}(o:Has h K)(hq:K[q]? = some (i,.sl n E.n (E.l l)))(T:vp P t E.n b=true)(hs:pM l 0 hi=some r) :
  fe P t (.rs i 0 n E.n) none (some (.int k hi)) none=some (.rs i 0 r.length E.n)∧Has h (K.set q (i,.sl r.length E.n (E.l r))):=by
 have hn:=dq o hq
 subst hn
 exact EW o hq T hs
end
theorem aj {P:Program}{cf:CallF}{m:Nat}{aS:FuncId→cd}{f:FuncId}{fn:Func}{A:cd}(ha:aS f=A){args:List AV}{h:AHeap}{R:AV→AHeap→Prop}(hf:P.funcs[f]? = some fn)(hb:fn.body=some (codeOf fn))(hn:Nat.ble args.length fn.ntmps=true)
  (he:de P cf A m (codeOf fn) ⟨lW A.gg args,A.aF.map fun _=>none,h⟩ (fun e s=>(e = .ret∨e = .norm)∧∃r,aI P (s.open A) fn.results.toList=some r∧R r s.h)) :
  ∃r h',aZ P aS cf m f args h=some (r,h')∧R r h':=by
 subst ha
 exact wN hf hb hn he
def EX (a b:ByteArray):Bool:=Op.bytesLess a.data.toList b.data.toList||a.data.toList==b.data.toList
end Go.R
namespace Go.R
open Go
mutual
theorem wS {h:AHeap}:∀(n:Nat) (x y:AV),x.dI=true→cp h n x=some y→y=x.j5
 | 0,x,y,_,h=>by simp [cp] at h
 | n+1,x,y,hn,h=>by
  cases x with
  | agg cs=>
   simp only [cp,WS] at h
   obtain⟨fH,hcs,rfl⟩:=h
   rw [iJ n cs fH (by simpa [AV.dI] using hn) hcs]; rfl
  | tup cs=>
   simp only [cp,WS] at h
   obtain⟨fH,hcs,rfl⟩:=h
   rw [iJ n cs fH (by simpa [AV.dI] using hn) hcs]; rfl
  | ptr _ _=>simp [AV.dI] at hn
  | rs _ _ _ _=>simp [AV.dI] at hn
  | _=>simp only [cp,hn,if_true,WT] at h; exact h.symm
theorem iJ {h:AHeap}:∀(n:Nat) (xs ys:List AV),cW xs=true→bM h n xs=some ys→ys=dm xs
 | 0,xs,ys,_,h=>by simp [bM] at h
 | n+1,[],ys,_,h=>by simp only [bM,WT] at h; exact h.symm
 | n+1,x::xs,ys,hn,h=>by
  simp only [cW,WV] at hn
  simp only [bM,WR,WS] at h
  obtain⟨y,hy,zs,hz,rfl⟩:=h
  rw [wS n x y hn.1 hy,iJ n xs zs hn.2 hz]; rfl
end
mutual
theorem vu {h:AHeap}:∀(n:Nat) (x y:AV),fI h n x=some y→cp h n x=some y
 | 0,x,y,h=>by simp [fI] at h
 | n+1,x,y,h=>by
  unfold fI at h
  split at h
  ·exact h
  ·exact h
  ·exact h
  ·exact h
  ·exact h
  ·exact h
  ·exact h
  ·exact h
  ·rename_i id off len jw
   simp only [cp]
   split at h
   ·rename_i h0; rw [if_pos h0]; exact h
   ·rename_i h0
    rw [if_neg h0]
    rw [WR] at h ⊢
    obtain⟨ob,ho,h⟩:=h
    refine⟨ob,ho,?_⟩
    cases ob with
    | map es=>cases h
    | row t cs=>cases h
    | cells cs=>
     simp only at h ⊢
     split at h
     ·rename_i hle
      rw [if_pos hle]
      rw [WS] at h ⊢
      obtain⟨fH,hcs,h2⟩:=h
      exact⟨fH,kh n _ _ hcs,h2⟩
     ·cases h
  ·simp only [cp]
   rw [WS] at h ⊢
   obtain⟨fH,hcs,h2⟩:=h
   exact⟨fH,kh n _ _ hcs,h2⟩
  ·simp only [cp]
   rw [WS] at h ⊢
   obtain⟨fH,hcs,h2⟩:=h
   exact⟨fH,kh n _ _ hcs,h2⟩
  ·cases h
theorem kh {h:AHeap}:∀(n:Nat) (xs ys:List AV),db h n xs=some ys→bM h n xs=some ys
 | 0,xs,ys,h=>by simp [db] at h
 | n+1,[],ys,h=>h
 | n+1,x::xs,ys,h=>by
  simp only [db,bM,WR,WS] at h ⊢
  obtain⟨y,hy,zs,hz,h2⟩:=h
  exact⟨y,vu n x y hy,zs,kh n xs zs hz,h2⟩
end
def yF (k:Nat)(h:AHeap)(x y:AV):Prop:=∀n,jy+k≤n→fI h n x=some y
def HS (k:Nat)(h:AHeap)(x y:List AV):Prop:=∀n,jy+k≤n→db h n x=some y
def fA (h:AHeap)(x y:AV):Prop:=yF 1000 h x y
section
variable {h:AHeap}{α:Type}{E:cn α}{l:List α}{K:Mem}{q i:Nat}
theorem fA.pU {x y:AV}(f:fA h x y):yD h x y:=fun n hn=>vu _ _ _ (f n hn)
theorem b8 {k:Nat}{x y:AV}(f:yF k h x y)(hk:k≤1000:=by decide):fA h x y:=fun n hn=>f n (by omega)
theorem BG {x y:AV}(h2:∀n,fI h (n+1) x=some y):yF 0 h x y:=fun n hn=>by
 obtain⟨k,rfl,_⟩:=lj (show jy≤n by omega)
 exact h2 k
theorem dS {k:IntKind}{n:Int}:yF 0 h (.int k n) (.int k n):=BG fun _=>rfl
theorem ak {b:Bool}:yF 0 h (.bool b) (.bool b):=BG fun _=>rfl
def EY:AV→Bool
 | .int _ _ | .bool _ | .str _=>true
 | _=>false
theorem mj:∀{cs:List AV} {n:Nat},cs.all EY=true→cs.length+1<n→db h n cs=some cs
 | [],n,_,hn=>by
  obtain⟨k,rfl⟩:∃k,n=k+1:=⟨n - 1,by omega⟩
  rfl
 | x::cs,n,h1,hn=>by
  obtain⟨k,rfl⟩:∃k,n=k+1+1:=⟨n - 2,by simp at hn; omega⟩
  simp only [XO,WV] at h1
  simp only [db]
  have:fI h (k+1) x=some x:=by cases x<;>first | rfl | (simp [EY] at h1)
  rw [this,WQ,mj h1.2 (by simp at hn; omega)]
  rfl
theorem yG {n:Nat}(o:Has h K)(hq:K[q]? = some (i,.sl n E.n (E.l l)))(hf:∀a:α,(E.f a).all EY=true):yF 0 h (.rs i 0 n E.n) (E.fz l):=fun m hm=>by
 have hn:=dq o hq
 subst hn
 obtain⟨⟨⟨hlen,Aj⟩,og⟩,hlt⟩:=o.at_ _ _ _ hq
 obtain⟨k,rfl,hk⟩:=lj (show jy≤m by omega)
 simp only [fI]
 rcases og with⟨h0,h1⟩| ⟨h0,rest,h1⟩
 ·have:l=[]:=by simpa using h1
  subst this
  simp [h0,cn.fz,cn.l]
 ·rw [if_neg h0,h1]
  simp only [WQ]
  have e1:((E.l l++rest).drop 0).take (l.length*E.n)=E.l l:=by
   rw [Xr,Xv (by rw [hlen]; exact WU _),Xx (by rw [hlen]; exact WU _)]
  rw [if_pos (by rw [W3,hlen]; omega),e1,mj ?_ (by simp only [jy] at hk; omega)]
  ·rfl
  ·rw [Xi]
   intro x hx
   unfold cn.l at hx
   rw [List.mem_flatMap] at hx
   obtain⟨a,_,ha⟩:=hx
   exact Xi.1 (hf a) x ha
theorem s9:HS 0 h [] []:=fun n hn=>by
 obtain⟨k,rfl,_⟩:=lj (show jy≤n by omega)
 rfl
theorem ji {k1 k2:Nat}{x y:AV}{xs ys:List AV}(f:yF k1 h x y)(g:HS k2 h xs ys):HS (k1+k2+1) h (x::xs) (y::ys):=fun n hn=>by
 obtain⟨k,rfl⟩:∃k,n=k+1:=⟨n - 1,by omega⟩
 simp only [db]
 rw [f k (by omega),g k (by omega)]
 rfl
theorem ta {k:Nat}{xs ys:List AV}(f:HS k h xs ys):yF (k+1) h (.tup xs) (.tup ys):=fun n hn=>by
 obtain⟨k,rfl⟩:∃k,n=k+1:=⟨n - 1,by omega⟩
 simp only [fI]
 rw [f k (by omega)]; rfl
def eQ:Nat:=4503599627370496
theorem gf {k:Nat}{xs ys:List AV}(f:eA k h xs ys)(hk:k≤eQ:=by decide):eA eQ h xs ys:=fun n hn=>f n (by omega)
def tc (x y:AV):Prop:=x.dI=true∧x.j5=y
def ml (xs ys:List AV):Prop:=cW xs=true∧dm xs=ys
theorem bC {k:IntKind}{n:Int}:tc (.int k n) (.int k n):=⟨rfl,rfl⟩
theorem wT {s:ByteArray}:tc (.str s) (.str s):=⟨rfl,rfl⟩
theorem iK (hp:E.flat=true:=by rfl):tc (E.fz l) (E.fz l):=cn.gd hp
theorem EZ {cs:List AV}(h1:cW cs=true)(h2:dm cs=E.l l){n:Nat}{b:Bool}(h3:n=l.length):tc (.fz cs n b) (E.fz l):=by
 subst h3
 exact⟨by simpa [AV.dI] using h1,by show AV.fz (dm cs) l.length false=_; rw [h2]; rfl⟩
theorem gA:ml [] []:=⟨rfl,rfl⟩
theorem cG {x y:AV}{xs ys:List AV}(a:tc x y)(b:ml xs ys):ml (x::xs) (y::ys):=⟨by simp [cW,a.1,b.1],by simp [dm,a.2,b.2]⟩
theorem nT {xs ys:List AV}(a:ml xs ys):tc (.agg xs) (.agg ys):=⟨by simpa [AV.dI] using a.1,by show AV.agg (dm xs)=_; rw [a.2]⟩
end
end Go.R
namespace Go.R
open Go
def I5 (k:IntKind)(x:Int):Int:=lk k (if k.signed then -1 else k.max) x
def bF (l:List Int):ByteArray:=⟨(l.map fun n=>Ys n.toNat).toArray⟩
def dX (s:ByteArray):List Int:=s.data.toList.map fun b=>(b.toNat:Int)
section
variable {P:Program}{h:AHeap}{K:Mem}{i q:Nat}{cs fH:List AV}{x z:AV}{t:TypeId}{off:Nat}
theorem ku (o:Has h K)(oy:cs.all AV.cJ=true):∃i h',yy h cs=some (.ptr i 0,h')∧Has h' ((i,.ob cs)::K):=by
 refine⟨h.next,h.alloc (.cells cs),by unfold yy; rw [if_pos oy],o.new (fun k hk=>by rw [AHeap.alloc,cL,if_neg (by omega)]) (X5 _) (.inr (WU _)) (XC _) ⟨by have:=o.pos; omega,by rw [AHeap.alloc,cL,if_pos rfl]⟩⟩
theorem cm (o:Has h K)(hq:K[q]? = some (i,.ob cs))(hr:iW P t cs off=some z):bh P h t (.ptr i off)=some z:=by
 obtain⟨⟨h1,h2⟩,_⟩:=o.at_ _ _ _ hq
 simp only [bh,jl,h2,WQ,hr]
theorem kN (o:Has h K)(hq:K[q]? = some (i,.ob cs))(hw:gL P t cs off x=some fH):∃h',iZ P h t (.ptr i off) x=some h'∧Has h' (K.set q (i,.ob fH)):=by
 obtain⟨⟨h1,h2⟩,_⟩:=o.at_ _ _ _ hq
 exact⟨h.put i (.cells fH),by simp only [iZ,h2,WQ,hw,WW],jG o hq ⟨h1,by rw [cL,if_pos rfl]⟩⟩
theorem BH:∀(l:List Int),Ha (ao.l l)=some (l.map fun n=>Ys n.toNat)
 | []=>rfl
 | a::l=>by
  have:=BH l
  show (Ha (ao.l l)).map _=_
  rw [this]; rfl
theorem ll {a b e:TypeId}{l:List Int}{h:AHeap}{x:AV}(ha:P.underlying a=some (.slice e))(hb:P.underlying b=some .string)(hu:CJ P e=true)(hc:∃n,dJ h 1 x=some (ao.l l,n)):dW P h a b x=some (.str (bF l)):=by
 obtain⟨n,hc⟩:=hc
 simp only [dW,ha,hb,hu,if_true,hc,WQ,BH,WW,bF]
theorem oV {l:List Int}(h:AHeap):∃n,dJ h 1 (ao.fz l)=some (ao.l l,n):=by
 refine⟨l.length,?_⟩
 simp only [dJ,cn.fz]
 rw [if_pos (by rw [cn.cM]; rfl)]
end
theorem aO {x y:AV}(h:tc x y):ay x=y:=by
 unfold ay
 rw [h.1,h.2]; rfl
theorem bg:([]:List AV).map ay=[]:=rfl
theorem an {x y:AV}{xs ys:List AV}(a:ay x=y)(b:xs.map ay=ys):(x::xs).map ay=y::ys:=by
 rw [Xe,a,b]
theorem Kb {α:Type}{K L:List α}{q:Nat}{p:α}(h:L[q]? = some p):(K++L)[K.length+q]? = some p:=by
 rw [Xg (by omega),X1,h]
def Dk (k:IntKind)(x y:Int):Option Int:=if y<0 then none else some (k.wrap (x*2 ^ (min y.toNat k.bits)))
theorem E0 {P:Program}{t:TypeId}{k k':IntKind}{x y v:Int}(h:Dk k x y=some v):lU P .shl t (.int k x) (.int k' y)=some (.int k v):=by
 unfold Dk at h
 split at h
 ·cases h
 ·rename_i hy
  cases h
  simp only [lU,AV.fC,WQ,Go.binOp,Op.shift,hy,if_false]
  rfl
theorem BI {α:Type}{E:cn α}{h:AHeap}{K:Mem}{l:List α}{cs:List AV}(o:Has h K)(hc:cs=E.l l)(hl:l.length≤1024:=by simp) :
  ∃i h',some (AV.rs h.next 0 l.length E.n,h.alloc (.cells cs))=some (AV.rs i 0 l.length E.n,h')∧Has h' ((i,.sl l.length E.n (E.l l))::K):=by
 subst hc
 exact⟨h.next,_,rfl,o.new (fun k hk=>by rw [AHeap.alloc,cL,if_neg (by omega)]) (X5 _) (.inr (WU _)) (XC _) ⟨⟨cn.cM,cn.oR (by omega)⟩,.inr ⟨by have:=o.pos; omega,[],by rw [AHeap.alloc,cL,if_pos rfl]; simp⟩⟩⟩
end Go.R
namespace Go.R
open Go
def mn (x y:Int):Int:=if y<x then y else x
def mx (x y:Int):Int:=if y > x then y else x
def yH (l:List (Int × Int))(k:Int):Int × Bool:=
 match l with
 | []=>(0,false)
 | (a,b)::l=>if k=a then (b,true) else yH l k
def E1 (l:List (Int × Int))(k v:Int):List (Int × Int):=
 match l with
 | []=>[(k,v)]
 | (a,b)::l=>if k=a then (k,v)::l else (a,b)::E1 l k v
def te (n:Nat)(l:List (List Int × Int))(k:List Int):Bool:=k.length==n&&l.all fun p=>p.1.length==n
def tg (l:List (List Int × Int))(k:List Int):Int × Bool:=
 match l with
 | []=>(0,false)
 | (a,b)::l=>if k=a then (b,true) else tg l k
def HT (n:Nat)(l:List (List Int × Int))(k:List Int):Option (Int × Bool):=if te n l k=true then some (tg l k) else none
def AA (l:List (List Int × Int))(k:List Int)(v:Int):List (List Int × Int):=
 match l with
 | []=>[(k,v)]
 | (a,b)::l=>if k=a then (k,v)::l else (a,b)::AA l k v
def MD (n:Nat)(l:List (List Int × Int))(k:List Int)(v:Int):Option (List (List Int × Int)):=if te n l k=true then some (AA l k v) else none
def th (l:List (Int × Int)):List (AV × AV):=l.map fun p=>(.int .i64 p.1,.int .i64 p.2)
def uN (l:List (List Int × Int)):List (AV × AV):=l.map fun p=>(.agg (aa.l p.1),.int .i64 p.2)
theorem BJ (k:Int):∀l:List (Int × Int),iE (.int .i64 k) (th l)=some (if (yH l k).2=true then some (.int .i64 (yH l k).1) else none)
 | []=>rfl
 | (a,b)::l=>by
  simp only [th,Xe,iE,sameShape,fS,iX,yH]
  have ih:=BJ k l
  simp only [th] at ih
  by_cases h:k=a
  ·subst h; simp
  ·simp [h,ih]
theorem E2 (k v:Int):∀l:List (Int × Int),vY (.int .i64 k) (.int .i64 v) (th l)=some (th (E1 l k v))
 | []=>rfl
 | (a,b)::l=>by
  have ih:=E2 k v l
  simp only [th,Xe,vY,sameShape,fS,iX,E1] at ih ⊢
  by_cases h:k=a
  ·subst h; simp
  ·simp [h,ih]
theorem AB (l:List Int):(aa.l l).all j8=true:=by
 induction l with
 | nil=>rfl
 | cons a l ih=>rw [cn.ec,List.all_append,ih]; rfl
theorem jc (l:List Int):(aa.l l).length=l.length:=by rw [cn.cM]; exact Yn _
theorem nU:∀a b:List Int,lT (aa.l a) (aa.l b)=decide (a=b)
 | [],[]=>rfl
 | [],b::l=>by simp [cn.ec,cn.I3,eI,lT]
 | a::l,[]=>by simp [cn.ec,cn.I3,eI,lT]
 | a::l,b::l'=>by
  have ih:=nU l l'
  rw [cn.ec,cn.ec]
  show (iX (.int .i64 a) (.int .i64 b)&&lT (aa.l l) (aa.l l'))=_
  rw [ih]
  simp only [iX]
  by_cases h1:a=b<;>by_cases h2:l=l'<;>simp [h1,h2]
theorem BK (n:Nat)(k:List Int)(hk:k.length=n):∀l:List (List Int × Int),(l.all fun p=>p.1.length==n)=true→iE (.agg (aa.l k)) (uN l)=some (if (tg l k).2=true then some (.int .i64 (tg l k).1) else none)
 | [],_=>rfl
 | (a,b)::l,h=>by
  simp only [XO,WV,beq_iff_eq] at h
  have ih:=BK n k hk l h.2
  simp only [uN,Xe,iE,sameShape,fS,tg,AB,jc,hk,h.1,nU,beq_self_eq_true,X6,if_true] at ih ⊢
  by_cases HU:k=a
  ·subst HU; simp
  ·simp [HU,ih]
theorem E3 (n:Nat)(k:List Int)(v:Int)(hk:k.length=n):∀l:List (List Int × Int),(l.all fun p=>p.1.length==n)=true→vY (.agg (aa.l k)) (.int .i64 v) (uN l)=some (uN (AA l k v))
 | [],_=>rfl
 | (a,b)::l,h=>by
  simp only [XO,WV,beq_iff_eq] at h
  have ih:=E3 n k v hk l h.2
  simp only [uN,Xe,vY,sameShape,fS,AA,AB,jc,hk,h.1,nU,beq_self_eq_true,X6,if_true] at ih ⊢
  by_cases HU:k=a
  ·subst HU; simp
  ·simp [HU,ih]
def yI (P:Program)(t:TypeId):Bool:=
 match P.underlying t with
 | some (.map kt et)=>(P.underlying kt matches some (.int .i64))&&(match jN P et with | some (.int .i64 n)=>n==0 | _=>false)
 | _=>false
def yJ (P:Program)(t:TypeId)(n:Nat):Bool:=
 match P.underlying t with
 | some (.map kt et)=>(match P.underlying kt with | some (.array m e)=>m==n&&(P.underlying e matches some (.int .i64))&&eu P e==some 1 | _=>false)&&(match jN P et with | some (.int .i64 n)=>n==0 | _=>false)
 | _=>false
section
variable {P:Program}{h:AHeap}{K:Mem}{i q:Nat}{t:TypeId}{n:Nat}
theorem ti (T:yI P t=true):∃kt et,P.underlying t=some (.map kt et)∧(∀k,fT P kt (.int .i64 k)=true)∧jN P et=some (.int .i64 0):=by
 unfold yI at T
 split at T
 ·rename_i kt et ht
  simp only [WV] at T
  obtain⟨h1,h2⟩:=T
  refine⟨kt,et,ht,fun k=>?_,?_⟩
  ·revert h1
   split
   ·rename_i hk; intro _; simp [fT,hk]
   ·intro h; cases h
  ·split at h2
   ·rename_i z hz; simp only [beq_iff_eq] at h2; subst h2; exact hz
   ·cases h2
 ·cases T
theorem tj (T:yJ P t n=true):∃kt et,P.underlying t=some (.map kt et)∧(∀k:List Int,k.length=n→fT P kt (.agg (aa.l k))=true)∧jN P et=some (.int .i64 0):=by
 unfold yJ at T
 split at T
 ·rename_i kt et ht
  simp only [WV] at T
  obtain⟨h1,h2⟩:=T
  refine⟨kt,et,ht,fun k hk=>?_,?_⟩
  ·split at h1
   ·rename_i m e pY
    simp only [WV,beq_iff_eq] at h1
    obtain⟨⟨h3,h4⟩,h5⟩:=h1
    subst h3
    simp only [fT,pY,jc,hk,AB,h5,beq_self_eq_true,X6,Bool.and_true]
    exact h4
   ·cases h1
  ·split at h2
   ·rename_i z hz; simp only [beq_iff_eq] at h2; subst h2; exact hz
   ·cases h2
 ·cases T
theorem E4 (o:Has h K):∃i h',(AV.mp h.next,h.alloc (.map []))=(AV.mp i,h')∧Has h' ((i,.mp [])::K):=
 ⟨h.next,_,rfl,o.new (fun k hk=>by rw [AHeap.alloc,cL,if_neg (by omega)]) (X5 _) (.inr (WU _)) (XC _) ⟨by have:=o.pos; omega,by rw [AHeap.alloc,cL,if_pos rfl]⟩⟩
theorem Px {l:List (Int × Int)}{k:Int}(T:yI P t=true)(o:Has h K)(hq:K[q]? = some (i,.mp (th l))):fG P h t (.mp i) (.int .i64 k) true=some (.tup [.int .i64 (yH l k).1,.bool (yH l k).2])∧fG P h t (.mp i) (.int .i64 k) false=some (.int .i64 (yH l k).1):=by
 obtain⟨kt,et,h1,h2,h3⟩:=ti T
 obtain⟨⟨_,h4⟩,_⟩:=o.at_ _ _ _ hq
 have hz:(yH l k).2=false→(yH l k).1=0:=by
  clear hq h4
  induction l with
  | nil=>intro _; rfl
  | cons p l ih=>
   obtain⟨a,b⟩:=p
   simp only [yH]
   split
   ·intro h; cases h
   ·exact ih
 simp only [fG,h1,WQ,h2,Bool.true_eq_false,if_false,h4,BJ]
 cases hc:(yH l k).2 with
 | true=>simp
 | false=>simp [h3,hz hc]
theorem Kc {l:List (List Int × Int)}{k:List Int}{r:Int × Bool}(T:yJ P t n=true)(o:Has h K)(hq:K[q]? = some (i,.mp (uN l)))(hr:HT n l k=some r):fG P h t (.mp i) (.agg (aa.l k)) true=some (.tup [.int .i64 r.1,.bool r.2])∧fG P h t (.mp i) (.agg (aa.l k)) false=some (.int .i64 r.1):=by
 obtain⟨kt,et,h1,h2,h3⟩:=tj T
 obtain⟨⟨_,h4⟩,_⟩:=o.at_ _ _ _ hq
 unfold HT at hr
 split at hr
 rotate_left
 ·cases hr
 rename_i hg
 cases hr
 simp only [te,WV,beq_iff_eq] at hg
 have hz:(tg l k).2=false→(tg l k).1=0:=by
  clear hq h4 hg
  induction l with
  | nil=>intro _; rfl
  | cons p l ih=>
   obtain⟨a,b⟩:=p
   simp only [tg]
   split
   ·intro h; cases h
   ·exact ih
 simp only [fG,h1,WQ,h2 k hg.1,Bool.true_eq_false,if_false,h4,BK n k hg.1 l hg.2]
 cases hc:(tg l k).2 with
 | true=>simp
 | false=>simp [h3,hz hc]
theorem Py {l:List (Int × Int)}{k v:Int}(T:yI P t=true)(o:Has h K)(hq:K[q]? = some (i,.mp (th l))):∃h',iF P h t (.mp i) (.int .i64 k) (.int .i64 v)=some h'∧Has h' (K.set q (i,.mp (th (E1 l k v)))):=by
 obtain⟨kt,et,h1,h2,h3⟩:=ti T
 obtain⟨⟨h5,h4⟩,_⟩:=o.at_ _ _ _ hq
 refine⟨h.put i (.map (th (E1 l k v))),?_,jG o hq ⟨h5,by rw [cL,if_pos rfl]⟩⟩
 simp only [iF,h1,WQ,h2]
 rw [if_neg (by simp [AV.lC])]
 simp only [h4,WQ,E2,WW]
theorem Pz {l r:List (List Int × Int)}{k:List Int}{v:Int}(T:yJ P t n=true)(o:Has h K)(hq:K[q]? = some (i,.mp (uN l)))(hr:MD n l k v=some r):∃h',iF P h t (.mp i) (.agg (aa.l k)) (.int .i64 v)=some h'∧Has h' (K.set q (i,.mp (uN r))):=by
 obtain⟨kt,et,h1,h2,h3⟩:=tj T
 obtain⟨⟨h5,h4⟩,_⟩:=o.at_ _ _ _ hq
 unfold MD at hr
 split at hr
 rotate_left
 ·cases hr
 rename_i hg
 cases hr
 simp only [te,WV,beq_iff_eq] at hg
 refine⟨h.put i (.map (uN (AA l k v))),?_,jG o hq ⟨h5,by rw [cL,if_pos rfl]⟩⟩
 simp only [iF,h1,WQ,h2 k hg.1]
 rw [if_neg (by simp [AV.lC])]
 simp only [h4,WQ,E3 n k v hg.1 l hg.2,WW]
theorem ME {es:List (AV × AV)}{kt et:TypeId}(ht:P.underlying t=some (.map kt et))(o:Has h K)(hq:K[q]? = some (i,.mp es)):sr P h t (.mp i)=some (.int .i64 es.length):=by
 obtain⟨⟨_,h4⟩,_⟩:=o.at_ _ _ _ hq
 simp only [sr,ht,WQ,h4]
theorem Kd {l:List (List Int × Int)}{kt et:TypeId}(ht:P.underlying t=some (.map kt et))(o:Has h K)(hq:K[q]? = some (i,.mp (uN l))):sr P h t (.mp i)=some (.int .i64 l.length):=by
 rw [ME ht o hq,uN,Xy]
variable {l:List Int}{j:Int}{a:Int}{k:IntKind}{cs:List AV}
def Dl (P:Program)(t:TypeId)(n:Nat):Bool:=match P.underlying t with | some (.array m e)=>m==n&&eu P e==some 1&&eu P t==some n&&(ev P t==some true) | _=>false
theorem qi (T:Dl P t n=true):∃e,P.underlying t=some (.array n e)∧eu P e=some 1∧eu P t=some n∧ev P t=some true:=by
 unfold Dl at T
 split at T
 ·rename_i m e h
  simp only [WV,beq_iff_eq] at T
  obtain⟨⟨⟨h1,h2⟩,h3⟩,h4⟩:=T
  subst h1
  exact⟨e,h,h2,h3,h4⟩
 ·cases T
theorem HV (o:Has h K)(hc:cs=aa.l l)(hl:l.length≤1024:=by decide):∃i h',yy h cs=some (.ptr i 0,h')∧Has h' ((i,.sl l.length 1 (aa.l l))::K):=by
 subst hc
 refine⟨h.next,h.alloc (.cells (aa.l l)),?_,o.new (fun k hk=>by rw [AHeap.alloc,cL,if_neg (by omega)]) (X5 _) (.inr (WU _)) (XC _) ⟨⟨cn.cM,cn.oR (by omega)⟩,.inr ⟨by have:=o.pos; omega,[],by rw [AHeap.alloc,cL,if_pos rfl]; simp⟩⟩⟩
 unfold yy
 rw [if_pos]
 have:∀l:List Int,(aa.l l).all AV.cJ=true:=fun l=>by
  induction l with
  | nil=>rfl
  | cons a l ih=>rw [cn.ec,List.all_append,ih]; rfl
 exact this l
theorem Ke (T:Dl P t n=true)(o:Has h K)(hq:K[q]? = some (i,.sl n 1 (aa.l l)))(hj:ix l j=some a):ez P t (.ptr i 0) (.int k j)=some (.ptr i (0+j.toNat*1)):=by
 obtain⟨e,h1,h2,_,_⟩:=qi T
 have hn:=dq (E:=aa) o hq
 obtain⟨g1,g2,g3⟩:=gP hj
 simp only [ez,h1,WQ,h2]
 rw [if_pos ⟨g1,by omega⟩]
 rfl
theorem vw (o:Has h K)(hq:K[q]? = some (i,.sl n 1 (aa.l l)))(hn0:n≠0):i≠0∧∃rest,h.get i=some (.cells (aa.l l++rest)):=by
 obtain⟨⟨_,h1⟩,_⟩:=o.at_ _ _ _ hq
 rcases h1 with⟨_,h1⟩| h1
 ·exact absurd h1 hn0
 ·exact h1
theorem wU (T:Dl P t n=true)(o:Has h K)(hq:K[q]? = some (i,.sl n 1 (aa.l l)))(hn0:n≠0:=by decide):bh P h t (.ptr i 0)=some (.agg (aa.l l)):=by
 obtain⟨e,h1,h2,h3,h4⟩:=qi T
 have hn:=dq (E:=aa) o hq
 obtain⟨_,rest,h5⟩:=vw o hq hn0
 simp only [bh,jl,h5,WQ,iW,h4,if_true,h3]
 rw [if_pos (by rw [W3,jc]; omega),Xr,Xv (by rw [jc]; omega),Xx (by rw [jc]; omega)]
theorem Kf {l':List Int}{x:AV}(T:Dl P t n=true)(o:Has h K)(hq:K[q]? = some (i,.sl n 1 (aa.l l)))(hx:x.cells=aa.l l')(hl:l'.length=n)(hn0:n≠0:=by decide):∃h',iZ P h t (.ptr i 0) x=some h'∧Has h' (K.set q (i,.sl n 1 (aa.l l'))):=by
 obtain⟨e,h1,h2,h3,h4⟩:=qi T
 have hn:=dq (E:=aa) o hq
 obtain⟨h6,rest,h5⟩:=vw o hq hn0
 have oy:(aa.l l').all AV.cJ=true:=by
  clear hx hl
  induction l' with
  | nil=>rfl
  | cons a l ih=>rw [cn.ec,List.all_append,ih]; rfl
 have Aj:=(o.at_ _ _ _ hq).1.1.2
 refine⟨h.put i (.cells (aa.l l'++rest)),?_,jG o hq ⟨⟨by rw [jc,hl,Yn],by rw [jc,hl,hn,←jc]; exact Aj⟩,.inr ⟨h6,rest,by rw [cL,if_pos rfl]⟩⟩⟩
 simp only [iZ,h5,WQ,gL,h3,hx]
 rw [if_pos ⟨by rw [jc,hl],oy,by rw [W3,jc]; omega⟩,WW]
 have:=kr (aa.l l) (aa.l l') [] rest (by rw [jc,jc]; omega)
 simp only [Xs,XL] at this
 rw [this]
end
end Go.R
