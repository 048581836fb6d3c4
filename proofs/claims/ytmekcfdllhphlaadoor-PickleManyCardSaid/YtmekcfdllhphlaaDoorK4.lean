/- Part of the proof: RG1, RG2, RG3, RG4, RT, RG5, RG6, RG7, RG8. -/
import Derived.Test.YtmekcfdllhphlaaDoorK3
set_option linter.unusedVariables false
set_option linter.unusedSimpArgs false
set_option maxRecDepth 100000
open BitVec renaming ofInt → Xe
open Bool renaming and_eq_true → V8, false_eq_true → Wj, or_eq_true → WT, true_and → Xl
open Int renaming toNat_natCast → V9
open List renaming getElem?_eq_some_iff → Wb, length_set → Wd, length_append → We, append_assoc → Wg, drop_eq_getElem_cons → Wi, replicate → Wn, map_cons → Wo, length_cons → Wp, getElem?_append_right → Wq, all_eq_true → Ws, map_append → Wx, nil_append → Wz, getElem?_append_left → WC, take_append_of_le_length → WD, mem_cons → WG, take_of_length_le → WH, length_map → WI, getElem?_cons_zero → WJ, drop_zero → WK, ext_getElem? → WV, length_nil → WY, all_cons → W2, append_nil → Xd, getElem?_cons_succ → Xh, getElem?_set → Xs, set_append_right → Xz, length_take → XD
open Nat renaming le_refl → V7, zero_add → Wr, lt_of_lt_of_le → Ww, beq → WM, lt_succ_self → WN, le_trans → WQ, mul_le_mul_right → WX, add_mul → Xf, add_sub_cancel_left → Xg, le_succ → Xk, eq_of_beq_eq_true → Xm, lt_succ_of_lt → Xr, mul_one → XB, sub_self → XC, min_eq_left → XF
open Option renaming bind_some → V3, bind_eq_some_iff → V4, map_eq_some_iff → V5, map_some → Wa, isSome_none → Xw
open Option.some renaming injEq → V6
open Prod.mk renaming injEq → Wc
namespace Go.R
open Go
section
variable (P:Program)
def bj (h:AHeap)(t:TypeId)(x:AV):Option AV:=iX P (fun _=>none) h t x
def iO (h:AHeap)(t:TypeId)(a x:AV):Option AHeap:=
 match a with
 | .ptr id off=>(h.get id).bind fun | .cells cs=>(gy P t cs off x).map fun fA=>h.put id (.cells fA) | _=>none
 | _=>none
def IB (cf:CallF)(f:AV)(as:List AV)(h:AHeap):Option (AV × AHeap):=
 match f with
 | .fn f cap=>if as.all AV.k7 then cf f (as++cap) h else none
 | _=>none
def yd (h:AHeap)(cs:List AV):Option (AV × AHeap):=if cs.all AV.cC then some (.ptr h.next 0,h.alloc (.cells cs)) else none
def CP (aD:List Nat)(d:Option Nat):Bool:=match d with | some d=>!aD.contains d | none=>false
def El (aD:List Nat)(h:AHeap)(o:Oper)(t:TypeId)(x:Option AV):Option (AV × AHeap):=
 x.bind fun x=>(np P aD o t x).map fun (cs,n,z)=>(.rs h.next 0 n z,h.alloc (.cells cs))
def JC (e:Operand→AV)(h:AHeap)(o:Oper)(z:AV):Prop:=
 match o.op with
 | .move x | .assign x=>e x=z
 | .load t a=>bj P h t (e a)=some z
 | .binOp op t x y _=>lF P op t (e x) (e y)=some z
 | .unOp op _ x=>((e x).fm.bind fun a=>(il P (Op.unary op a)).bind nS)=some z
 | .convert a b x=>gR P h a b (e x)=some z
 | .slice t x lo hi mx=>eG P t (e x) (lo.map e) (hi.map e) (mx.map e)=some z
 | .indexAddr t x i=>dZ P t (e x) (e i)=some z
 | .index t x i=>pz P t (e x) (e i)=some z
 | .lookup t m k ok=>fy P h t (e m) (e k) ok=some z
 | .call {callee:=.builtin .len,args,argTypes}=>match argTypes.toList,args.toList.map e with
  | [t],[x]=>r9 P h t x=some z
  | _,_=>False
 | _=>False
def JD (cf:CallF)(aD:List Nat)(e:Operand→AV)(h:AHeap)(o:Oper)(z:AV)(h':AHeap):Prop:=
 match o.op with
 | .store t a x=>bif o.dst.isSome then False else iO P h t (e a) (e x)=some h'
 | .alloc t=>bif CP aD o.dst then (jz P t).bind (fun z=>yd h (Cn aD o.dst z.cells))=some (z,h') else False
 | .box _ x=>bif CP aD o.dst then yd h (e x).cells=some (z,h') else False
 | .buildSlice t n ps=>El P aD h o t (fY P t n (ps.toList.map fun (i,x)=>(i,e x)))=some (z,h')
 | .makeMap _ none=>(AV.mp h.next,h.alloc (.map []))=(z,h')
 | .makeSlice t l c=>ga P h t (e l) (e c)=some (z,h')
 | .mapUpdate t m k x | .insert t m k x=>bif o.dst.isSome then False else iu P h t (e m) (e k) (e x)=some h'
 | .call {callee:=.builtin .append,args,argTypes}=>match argTypes.toList,args.toList.map e with
  | [t,t2],[x,y]=>gz P h t t2 x y=some (z,h')
  | _,_=>False
 | .call {callee:=.builtin .copy,args,argTypes}=>match argTypes.toList,args.toList.map e with
  | [t,t2],[x,y]=>uN P h t t2 x y=some (z,h')
  | _,_=>False
 | .call {callee:=.value f,args,..}=>IB cf (e f) (args.toList.map e) h=some (z,h')
 | _=>False
end
abbrev JE:=List (Nat × AV × Option AHeap)
def sI (P:Program)(cf:CallF)(aD:List Nat)(ops:List Oper):RS→Nat→List Oper→JE→Option (List rK × RS × Prop)
 | s,_,[],[]=>some ([],s,True)
 | _,_,[],_::_=>none
 | s,i,o::os,zs=>
  (gA ops s.ρ o).bind fun w=>
   bif w then
    match zs with
    | []=>(vM P cf aD (ops.filterMap (·.dst)) s o).bind fun s1=>(sI P cf aD ops s1 (i+1) os []).map fun (l,r,p)=>({o,f:=a6 aD (bL s.ρ) o,s,s':=s1}::l,r,p)
    | (j,z,oh)::u9=>
     bif WM i j then
      match oh with
      | none=>(sI P cf aD ops (s.set o.dst z) (i+1) os u9).map fun (l,r,p)=>({o,f:=a6 aD (bL s.ρ) o,s,s':=s.set o.dst z}::l,r,JC P (bL s.ρ) s.h o z∧p)
      | some h'=>(sI P cf aD ops (({s with h:=h'}:RS).set o.dst z) (i+1) os u9).map fun (l,r,p)=>({o,f:=a6 aD (bL s.ρ) o,s,s':=({s with h:=h'}:RS).set o.dst z}::l,r,JD P cf aD (bL s.ρ) s.h o z h'∧p)
     else (vM P cf aD (ops.filterMap (·.dst)) s o).bind fun s1=>(sI P cf aD ops s1 (i+1) os zs).map fun (l,r,p)=>({o,f:=a6 aD (bL s.ρ) o,s,s':=s1}::l,r,p)
   else (sI P cf aD ops (s.set o.dst (.tup [])) (i+1) os zs).map fun (l,r,p)=>({o,f:={},s,s':=s.set o.dst (.tup [])}::l,r,p)
section
variable {P:Program}{cf:CallF}{aD:List Nat}
theorem Em {h:AHeap}{t:TypeId}{x z:AV}{bx:Nat→Option (List AV)}(hh:bj P h t x=some z):iX P bx h t x=some z:=by
 cases x<;>first | exact hh | (simp [bj,iX] at hh)
theorem Hp {s:RS}{o:Oper}{z:AV}(h:JC P (bL s.ρ) s.h o z)(ds:List Nat):vM P cf aD ds s o=some (s.set o.dst z):=by
 unfold JC at h
 unfold vM zD
 dsimp only
 split at h
 ·rename_i ho; rw [ho]; simp only [h]
 ·rename_i ho; rw [ho]; simp only [h]
 ·rename_i ho; rw [ho]; simp only [Em h,Wa]
 ·rename_i ho; rw [ho]; simp only [h,Wa]
 ·rename_i ho; rw [ho]; simp only [h,Wa]
 ·rename_i ho; rw [ho]; simp only [h,Wa]
 ·rename_i ho; rw [ho]; simp only [h,Wa]
 ·rename_i ho; rw [ho]; simp only [h,Wa]
 ·rename_i ho; rw [ho]; simp only [h,Wa]
 ·rename_i ho; rw [ho]; simp only [h,Wa]
 ·rename_i ho
  rw [ho]
  split at h
  ·rename_i h1 h2
   simp only [h1,h2,gd,h,Wa]
  ·exact h.elim
 ·exact h.elim
theorem ye {s:RS}{o:Oper}{cs:List AV}{z:AV}{h':AHeap}(hn:CP aD o.dst=true)(h:yd s.h cs=some (z,h'))(ds:List Nat):gZ s aD ds o cs=some (({s with h:=h'}:RS).set o.dst z):=by
 unfold yd at h
 split at h
 rotate_left
 ·cases h
 rename_i nW
 simp only [V6,Wc] at h
 obtain⟨rfl,rfl⟩:=h
 unfold gZ
 rw [if_pos nW]
 unfold CP at hn
 split at hn
 ·rename_i d hd
  rw [hd]
  have:aD.contains d=false:=by simpa using hn
  simp only [this,Wj,if_false]
 ·cases hn
theorem Hq {s:RS}{o:Oper}{z:AV}{h':AHeap}(h:JD P cf aD (bL s.ρ) s.h o z h')(ds:List Nat):vM P cf aD ds s o=some (({s with h:=h'}:RS).set o.dst z):=by
 unfold JD at h
 unfold vM zD
 dsimp only
 split at h
 ·rename_i t a x ho
  rw [ho]
  cases hd:o.dst with
  | some d=>rw [hd] at h; exact h.elim
  | none=>
   rw [hd] at h
   simp only [Xw,cond_false] at h
   simp only [Xw,Wj,if_false]
   unfold iO at h
   split at h
   ·rename_i id off he
    rw [he]
    simp only [V4] at h ⊢
    obtain⟨ob,hob,h⟩:=h
    refine⟨ob,hob,?_⟩
    split at h
    ·rw [V5] at h ⊢
     obtain⟨fA,hcs,rfl⟩:=h
     exact⟨fA,hcs,rfl⟩
    ·cases h
   ·cases h
 ·rename_i t ho
  rw [ho]
  cases hn:CP aD o.dst with
  | false=>rw [hn] at h; exact h.elim
  | true=>
   rw [hn] at h
   simp only [cond_true,V4] at h
   obtain⟨z0,h1,h2⟩:=h
   simp only [h1,V3]
   exact ye hn h2 ds
 ·rename_i t x ho
  rw [ho]
  cases hn:CP aD o.dst with
  | false=>rw [hn] at h; exact h.elim
  | true=>
   rw [hn] at h
   exact ye hn h ds
 ·rename_i t n ps ho
  rw [ho]
  unfold El at h
  simp only [V4,V5] at h
  obtain⟨x,hx,⟨cs,k,q⟩,ht,he⟩:=h
  simp only [Wc] at he
  obtain⟨rfl,rfl⟩:=he
  simp only [hx,Wa,pB,ht]
 ·rename_i ho
  rw [ho]
  simp only [Wc] at h
  obtain⟨rfl,rfl⟩:=h
  rfl
 ·rename_i ho; rw [ho]; simp only [h,Wa]
 ·rename_i t m k x ho
  rw [ho]
  cases hd:o.dst with
  | some d=>rw [hd] at h; exact h.elim
  | none=>
   rw [hd] at h
   simp only [Xw,cond_false] at h
   simp only [Xw,Wj,if_false,h,Wa]
   rfl
 ·rename_i t m k x ho
  rw [ho]
  cases hd:o.dst with
  | some d=>rw [hd] at h; exact h.elim
  | none=>
   rw [hd] at h
   simp only [Xw,cond_false] at h
   simp only [Xw,Wj,if_false,h,Wa]
   rfl
 ·rename_i ho
  rw [ho]
  split at h
  ·rename_i h1 h2
   simp only [h1,h2,gd,h,Wa]
  ·exact h.elim
 ·rename_i ho
  rw [ho]
  split at h
  ·rename_i h1 h2
   simp only [h1,h2,gd,h,Wa]
  ·exact h.elim
 ·rename_i f args Bd ho
  rw [ho]
  unfold IB at h
  split at h
  ·rename_i g cap he
   dsimp only
   rw [he]
   split at h
   ·rename_i nW
    simp only [nW,if_true,h,Wa]
   ·cases h
  ·cases h
 ·exact h.elim
theorem Bj {ops:List Oper}:∀{l:List Oper} {s r:RS} {i:Nat} {zs:JE} {es:List rK} {p:Prop},sI P cf aD ops s i l zs=some (es,r,p)→p→pE P cf aD ops s l=some (es,r)∧q7 P cf aD ops s l=some r
 | [],s,r,i,[],es,p,h,_=>by
  simp only [sI,V6,Wc] at h
  obtain⟨rfl,rfl,rfl⟩:=h
  exact⟨rfl,rfl⟩
 | [],s,r,i,_::_,es,p,h,_=>by simp [sI] at h
 | o::os,s,r,i,zs,es,p,h,hp=>by
  simp only [sI,V4] at h
  obtain⟨w,hw,h⟩:=h
  have fin:∀(s1:RS) (l:List rK) (u9:JE) (q:Prop),(if w then vM P cf aD (ops.filterMap (·.dst)) s o else some (s.set o.dst (.tup [])))=some s1→sI P cf aD ops s1 (i+1) os u9=some (l,r,q)→q→
    pE P cf aD ops s (o::os)=some ({o,f:=if w then a6 aD (bL s.ρ) o else {},s,s':=s1}::l,r)∧q7 P cf aD ops s (o::os)=some r:=by
   intro s1 l u9 q h1 h2 hq
   obtain⟨h3,h4⟩:=Bj h2 hq
   refine⟨?_,?_⟩
   ·simp only [pE,hw,V3,h1,h3,Wa]
   ·simp only [q7,lG,hw,V3,h1,h4]
  cases w with
  | false=>
   simp only [cond_false,V5] at h
   obtain⟨⟨l,r',q⟩,h2,he⟩:=h
   simp only [Wc] at he
   obtain⟨rfl,rfl,rfl⟩:=he
   simpa using fin _ l zs q (by simp) h2 hp
  | true=>
   simp only [cond_true] at h
   split at h
   ·simp only [V4,V5] at h
    obtain⟨s1,h1,⟨l,r',q⟩,h2,he⟩:=h
    simp only [Wc] at he
    obtain⟨rfl,rfl,rfl⟩:=he
    simpa using fin _ l [] q (by simpa using h1) h2 hp
   ·rename_i j z oh u9
    cases hj:WM i j with
    | false=>
     rw [hj] at h
     simp only [cond_false,V4,V5] at h
     obtain⟨s1,h1,⟨l,r',q⟩,h2,he⟩:=h
     simp only [Wc] at he
     obtain⟨rfl,rfl,rfl⟩:=he
     simpa using fin _ l _ q (by simpa using h1) h2 hp
    | true=>
     rw [hj] at h
     simp only [cond_true] at h
     split at h
     ·simp only [V5] at h
      obtain⟨⟨l,r',q⟩,h2,he⟩:=h
      simp only [Wc] at he
      obtain⟨rfl,rfl,rfl⟩:=he
      simpa using fin _ l _ q (by simpa using Hp hp.1 _) h2 hp.2
     ·simp only [V5] at h
      obtain⟨⟨l,r',q⟩,h2,he⟩:=h
      simp only [Wc] at he
      obtain⟨rfl,rfl,rfl⟩:=he
      simpa using fin _ l _ q (by simpa using Hq hp.1 _) h2 hp.2
end
def sJ (s:RS):List (Nat × Option Nat × Nat)→List (AV × AHeap)→Option (RS × Prop)
 | [],_=>some (s,True)
 | (t,i,k)::ps,zs=>
  match i with
  | none=>
   match k,s.ρ t,zs with
   | 0,.rs id off n z,(y,h')::u9=>(sJ {s with h:=h',ρ:=fun u=>bif WM u t then y else s.ρ u} ps u9).map fun (r,p)=>(r,ki 0 s.h (.rs id off n z)=some (y,h')∧p)
   | k,x,zs=>(ki k s.h x).bind fun (y,h')=>sJ {s with h:=h',ρ:=fun u=>bif WM u t then y else s.ρ u} ps zs
  | some i=>
   match s.bx t with
   | some cs=>(cs[i]?).bind fun x=>
    match k,x,zs with
    | 0,.rs id off n z,(y,h')::u9=>(sJ {s with h:=h',bx:=fun u=>bif WM u t then some (cs.set i y) else s.bx u} ps u9).map fun (r,p)=>(r,ki 0 s.h (.rs id off n z)=some (y,h')∧p)
    | k,x,zs=>(ki k s.h x).bind fun (y,h')=>sJ {s with h:=h',bx:=fun u=>bif WM u t then some (cs.set i y) else s.bx u} ps zs
   | none=>none
theorem wy:∀{ps:List (Nat × Option Nat × Nat)} {s r:RS} {zs:List (AV × AHeap)} {p:Prop},sJ s ps zs=some (r,p)→p→kM s ps=some r
 | [],s,r,zs,p,h,_=>by
  simp only [sJ,V6,Wc] at h
  obtain⟨rfl,rfl⟩:=h
  rfl
 | (t,i,k)::ps,s,r,zs,p,h,hp=>by
  cases i with
  | none=>
   have fin:∀(y:AV) (h':AHeap) (u9:List (AV × AHeap)) (q:Prop),ki k s.h (s.ρ t)=some (y,h')→sJ {s with h:=h',ρ:=fun u=>bif WM u t then y else s.ρ u} ps u9=some (r,q)→q→kM s ((t,none,k)::ps)=some r:=by
    intro y h' u9 q h1 h2 hq
    simp only [kM,vP,h1,Wa,V3]
    exact wy h2 hq
   simp only [sJ] at h
   split at h
   ·rename_i id off n z y h' u9 hx
    rw [V5] at h
    obtain⟨⟨r',q⟩,h2,he⟩:=h
    simp only [Wc] at he
    obtain⟨rfl,rfl⟩:=he
    exact fin y h' u9 q (by rw [hx]; exact hp.1) h2 hp.2
   ·rw [V4] at h
    obtain⟨⟨y,h'⟩,h1,h2⟩:=h
    exact fin y h' _ p h1 h2 hp
  | some i=>
   simp only [sJ] at h
   split at h
   rotate_left
   ·cases h
   rename_i cs hcs
   rw [V4] at h
   obtain⟨x,hx,h⟩:=h
   have fin:∀(y:AV) (h':AHeap) (u9:List (AV × AHeap)) (q:Prop),ki k s.h x=some (y,h')→sJ {s with h:=h',bx:=fun u=>bif WM u t then some (cs.set i y) else s.bx u} ps u9=some (r,q)→q→kM s ((t,some i,k)::ps)=some r:=by
    intro y h' u9 q h1 h2 hq
    simp only [kM,vP,hcs,hx,V3,h1,Wa]
    exact wy h2 hq
   split at h
   ·rename_i id off n z y h' u9
    rw [V5] at h
    obtain⟨⟨r',q⟩,h2,he⟩:=h
    simp only [Wc] at he
    obtain⟨rfl,rfl⟩:=he
    exact fin y h' u9 q hp.1 h2 hp.2
   ·rw [V4] at h
    obtain⟨⟨y,h'⟩,h1,h2⟩:=h
    exact fin y h' _ p h1 h2 hp
def rK.rR (x y:rK):Bool:=
 (match x.f.wb with
  | some k=>!y.f.rb.contains k&&y.f.wb != some k
  | none=>true) &&
 (!x.f.wh||(!y.f.wh&&y.f.rh.isEmpty))
def En (ops:List Oper)(arr:Array Oper)(s:RS)(es:List rK):Bool:=
 let ms:=jA [] ops
 pD arr ms &&
  (let is:=es.zipIdx
   let DQ:=is.filter fun (x,_)=>!x.f.quiet
   DQ.all (fun (x,i)=>vO ms (ops.filterMap (·.dst)) s is x i&&DQ.all fun (y,j)=>Nat.ble j i||(ms.getD j 0).testBit i||(x.rR y&&y.rR x)))
theorem sK {x y:rK}(h:x.rR y=true):x.pC y=true:=by
 unfold rK.rR at h
 unfold rK.pC
 simp only [V8,WT] at h ⊢
 refine⟨h.1,h.2.imp id fun ⟨h1,h2⟩=>⟨h1,?_⟩⟩
 rw [List.isEmpty_iff] at h2
 rw [h2]; rfl
theorem Hr {P:Program}{cf:CallF}{aD:List Nat}{ops:Array Oper}{s r:RS}{es:List rK}(h:En ops.toList ops s es=true)(hr:pE P cf aD ops.toList s ops.toList=some (es,r)):kL P cf aD ops s=some r:=by
 unfold En at h
 simp only [V8] at h
 obtain⟨h1,h2⟩:=h
 unfold kL
 simp only [h1,if_true,hr,V3]
 rw [if_pos]
 rw [Ws] at h2 ⊢
 intro x hx
 have:=h2 x hx
 simp only [V8] at this ⊢
 refine⟨this.1,?_⟩
 have h3:=this.2
 rw [Ws] at h3 ⊢
 intro y hy
 have:=h3 y hy
 simp only [WT,V8] at this ⊢
 exact this.imp id fun h=>⟨sK h.1,sK h.2⟩
def mV (P:Program)(cf:CallF)(A:cb)(c:Code)(fs:List (AV × AHeap))(zs:JE)(st:St):Option (Prop × St):=
 match c with
 | .region id ops draw=>(sJ (st.open A) (gf id A.pF) fs).bind fun (s0,p0)=>(sI P cf A.aD ops.toList s0 0 ops.toList zs).bind fun (es,r,p)=>
   bif draw && !(En ops.toList ops s0 es) then none else (kM r (gf id A.Co)).map fun r2=>(p0∧p,r2.mO A id)
 | _=>none
theorem Eo {P:Program}{cf:CallF}{A:cb}{m:Nat}{c:Code}{fs:List (AV × AHeap)}{zs:JE}{st jr:St}{p:Prop}(h:mV P cf A c fs zs st=some (p,jr))(hp:p):bG P cf A m c st=some (.norm,jr):=by
 unfold mV at h
 split at h
 rotate_left
 ·cases h
 rename_i id ops draw
 simp only [V4] at h
 obtain⟨⟨s0,p0⟩,h0,⟨es,r,q⟩,h1,h⟩:=h
 have hd:∃r2,(draw=true→En ops.toList ops s0 es=true)∧kM r (gf id A.Co)=some r2∧p=(p0∧q)∧jr=r2.mO A id:=by
  cases hc:(draw && !(En ops.toList ops s0 es)) with
  | true=>simp only [hc,cond_true] at h; cases h
  | false=>
   simp only [hc,cond_false,V5,Wc] at h
   obtain⟨r2,h2,h3,h4⟩:=h
   refine⟨r2,fun CF=>?_,h2,h3.symm,h4.symm⟩
   simpa [CF] using hc
 obtain⟨r2,CF,h2,rfl,rfl⟩:=hd
 obtain⟨g1,g2⟩:=Bj h1 hp.2
 have g0:=wy h0 hp.1
 simp only [bG,g0,V3]
 cases draw with
 | false=>simp only [Wj,if_false,g2,V3,h2,Wa]
 | true=>simp only [if_true,Hr (CF rfl) g1,V3,h2,Wa]
end Go.R
namespace Go.R
open Go
def de (P:Program)(cf:CallF)(A:cb)(m:Nat)(c:Code)(s:St)(Q:Ex→St→Prop):Prop:=∃e s',bG P cf A m c s=some (e,s')∧Q e s'
def JF (R:St→Prop)(Q:Ex→St→Prop):Ex→St→Prop
 | .norm,s=>R s
 | .exit i,s=>Q (.exit i) s
 | .ret,s=>Q .ret s
def O0 (id:Nat)(Q:Ex→St→Prop):Ex→St→Prop
 | .norm,s=>Q .norm s
 | .exit i,s=>bif WM i id then Q .norm s else Q (.exit i) s
 | .ret,s=>Q .ret s
section
variable {P:Program}{cf:CallF}{A:cb}{m:Nat}{s:St}{Q:Ex→St→Prop}
theorem oA {a b:Code}(h:de P cf A m a s (JF (fun s'=>de P cf A m b s' Q) Q)):de P cf A m (.seq a b) s Q:=by
 obtain⟨e,s',h1,h2⟩:=h
 cases e with
 | norm=>
  obtain⟨e2,s2,h3,h4⟩:=h2
  exact⟨e2,s2,by simp only [bG,h1,V3,h3],h4⟩
 | exit i=>exact⟨_,s',by simp only [bG,h1,V3],h2⟩
 | ret=>exact⟨_,s',by simp only [bG,h1,V3],h2⟩
theorem z7 {id:Nat}{a:Code}(h:de P cf A m a s (O0 id Q)):de P cf A m (.block id a) s Q:=by
 obtain⟨e,s',h1,h2⟩:=h
 cases e with
 | norm=>exact⟨_,s',by simp only [bG,h1,Wa],h2⟩
 | exit i=>
  simp only [O0,beq_nat] at h2
  by_cases hi:i=id
  ·simp only [hi,decide_true,cond_true] at h2
   exact⟨_,s',by simp only [bG,h1,Wa,hi,if_true],h2⟩
  ·simp only [hi,decide_false,cond_false] at h2
   exact⟨_,s',by simp only [bG,h1,Wa,hi,if_false],h2⟩
 | ret=>exact⟨_,s',by simp only [bG,h1,Wa],h2⟩
theorem sL {c:Code}{fs:List (AV × AHeap)}{zs:JE}{jr:St}{p:Prop}(h:mV P cf A c fs zs s=some (p,jr))(hp:p)(hQ:Q .norm jr):de P cf A m c s Q:=
 ⟨_,_,Eo h hp,hQ⟩
theorem CQ (h:Q .norm s):de P cf A m .skip s Q:=⟨_,_,rfl,h⟩
theorem yf (h:Q .ret s):de P cf A m .ret s Q:=⟨_,_,rfl,h⟩
theorem CR {i:Nat}(h:Q (.exit i) s):de P cf A m (.exit i) s Q:=⟨_,_,rfl,h⟩
theorem pP {k:Operand}{x y:Code}(b:Bool)(hk:bL (s.open A).ρ k = .bool b)(ht:b=true→de P cf A m x s Q)(hf:b=false→de P cf A m y s Q):de P cf A m (.cond k x y) s Q:=by
 cases b with
 | true=>
  obtain⟨e,s',h1,h2⟩:=ht rfl
  exact⟨e,s',by simp only [bG,hk,sc,V3,if_true,h1],h2⟩
 | false=>
  obtain⟨e,s',h1,h2⟩:=hf rfl
  exact⟨e,s',by simp only [bG,hk,sc,V3,Wj,if_false,h1],h2⟩
theorem z8 {c c':Code}(h:c=c')(k:de P cf A m c' s Q):de P cf A m c s Q:=h ▸ k
def Ep {S O:Type}(l:Nat→S→Option O)(Rel:S→St→Prop)(QO:O→Ex→St→Prop)(k:Nat)(out:O):Ex→St→Prop
 | .norm,s=>∃σ,Rel σ s∧l k σ=some out
 | .exit i,s=>QO out (.exit i) s
 | .ret,s=>QO out .ret s
theorem sM {S O:Type}{l:Nat→S→Option O}{Rel:S→St→Prop}{QO:O→Ex→St→Prop}{body:Code}(h0:∀σ,l 0 σ=none)
  (step:∀k σ s out,Rel σ s→l (k+1) σ=some out→de P cf A m body s (Ep l Rel QO k out)):∀(n:Nat) (σ:S) (s:St) (out:O),Rel σ s→l n σ=some out→∃e s',kj (bG P cf A m body) n s=some (e,s')∧e≠.norm∧QO out e s'
 | 0,σ,s,out,_,h=>by rw [h0] at h; cases h
 | n+1,σ,s,out,hr,h=>by
  obtain⟨e,s',h1,h2⟩:=step n σ s out hr h
  cases e with
  | norm=>
   obtain⟨σ',h3,h4⟩:=h2
   obtain⟨e',Uc,h5,h6⟩:=sM h0 step n σ' s' out h3 h4
   exact⟨e',Uc,by simp only [kj,h1,V3,h5],h6⟩
  | exit i=>exact⟨_,s',by simp only [kj,h1,V3],by simp,h2⟩
  | ret=>exact⟨_,s',by simp only [kj,h1,V3],by simp,h2⟩
theorem CS {S O:Type}(l:Nat→S→Option O)(Rel:S→St→Prop)(QO:O→Ex→St→Prop){body:Code}(h0:∀σ,l 0 σ=none)
  (step:∀k σ s out,Rel σ s→l (k+1) σ=some out→de P cf A m body s (Ep l Rel QO k out)) {σ:S} {out:O} (hr:Rel σ s) (h:l m σ=some out) (hQ:∀e s',e≠.norm→QO out e s'→Q e s'):de P cf A m (.loop body) s Q:=by
 obtain⟨e,s',h1,h2,h3⟩:=sM h0 step m σ s out hr h
 exact⟨e,s',by simp only [bG,h1],hQ e s' h2 h3⟩
theorem wz {aV:FuncId→cb}{f:FuncId}{fn:Func}{args:List AV}{h:AHeap}{R:AV→AHeap→Prop}(hf:P.funcs[f]? = some fn)(hb:fn.body=some (codeOf fn))(hn:Nat.ble args.length fn.ntmps=true)
  (he:de P cf (aV f) m (codeOf fn) ⟨lH (aV f).fU args,(aV f).aD.map fun _=>none,h⟩ (fun e s=>(e = .ret∨e = .norm)∧∃r,aI P (s.open (aV f)) fn.results.toList=some r∧R r s.h)) :
  ∃r h',be P aV cf m f args h=some (r,h')∧R r h':=by
 obtain⟨e,s,h1,h2,r,h3,h4⟩:=he
 refine⟨r,s.h,?_,h4⟩
 unfold be
 rw [hf,V3,hb,V3,if_pos (Nat.le_of_ble_eq_true hn),h1,V3]
 rcases h2 with rfl | rfl<;>simp only [h3,Wa]
end
end Go.R
namespace Go.R
open Go
structure cp (α:Type) where
 n:Nat
 f:α→List AV
 len:∀a,(f a).length=n
 pos:n≠0
 small:n≤1024:=by decide
 flat:Bool:=true
 pure:∀a,flat=true→cN (f a)=true∧dr (f a)=f a
 canon:∀a,(f a).map nn=f a
section
variable {α:Type}(E:cp α)
def cp.l (l:List α):List AV:=l.flatMap E.f
def cp.fz (l:List α):AV:=.fz (E.l l) l.length false
variable {E}
theorem cp.dR {a:α}{l:List α}:E.l (a::l)=E.f a++E.l l:=rfl
theorem cp.IC:E.l []=[]:=rfl
theorem cp.ky {a b:List α}:E.l (a++b)=E.l a++E.l b:=by simp [cp.l]
theorem cp.cE:∀{l:List α},(E.l l).length=l.length*E.n
 | []=>by simp [cp.l]
 | a::l=>by rw [cp.dR,We,E.len,cp.cE,Wp,Xf,Nat.one_mul,Nat.add_comm]
theorem cp.oB {l:List α}(h:l.length≤1099511627776):(E.l l).length≤1125899906842624:=by
 rw [cp.cE]
 exact WQ (Nat.mul_le_mul h E.small) (by decide)
theorem cp.wA:∀{l:List α} {i:Nat},(E.l l).drop (i*E.n)=E.l (l.drop i)
 | l,0=>by simp
 | [],i+1=>by simp [cp.l]
 | a::l,i+1=>by
  rw [List.drop_succ_cons,←cp.wA,cp.dR,Xf,Nat.one_mul,List.drop_append,List.drop_of_length_le (by rw [E.len]; omega),Wz,E.len,Nat.add_sub_cancel]
theorem cp.Er:∀{l:List α} {i:Nat},(E.l l).take (i*E.n)=E.l (l.take i)
 | l,0=>by simp [cp.l]
 | [],i+1=>by simp [cp.l]
 | a::l,i+1=>by
  rw [cp.dR,List.take_succ_cons,cp.dR,Xf,Nat.one_mul,Nat.add_comm,List.take_append]
  rw [E.len,WH (by rw [E.len]; omega),Xg,cp.Er]
theorem cp.ID {l:List α}{i:Nat}{a:α}(h:l[i]? = some a){off:Nat}(ho:off<E.n):(E.l l)[i*E.n+off]? = (E.f a)[off]?:=by
 rw [←List.getElem?_drop,cp.wA,Wi (Wb.1 h).1,(Wb.1 h).2,cp.dR,WC (by rw [E.len]; exact ho)]
theorem cp.Es {l:List α}{i:Nat}{a:α}(h:l[i]? = some a):((E.l l).drop (i*E.n)).take E.n=E.f a:=by
 rw [cp.wA,Wi (Wb.1 h).1,(Wb.1 h).2,cp.dR,WD (by rw [E.len]; exact V7 _)]
 rw [WH (by rw [E.len]; exact V7 _)]
theorem cp.Aa {l:List α}{i:Nat}{a:α}(h:l[i]? = some a):i*E.n+E.n≤(E.l l).length:=by
 rw [cp.cE]
 have:=(Wb.1 h).1
 calc i*E.n+E.n=(i+1)*E.n:=by rw [Xf,Nat.one_mul]
  _≤_:=WX _ this
theorem oC:∀{a b:List AV},cN (a++b)=(cN a&&cN b)
 | [],b=>by simp [cN]
 | x::a,b=>by simp [cN,oC,Bool.and_assoc]
theorem oD:∀{a b:List AV},dr (a++b)=dr a++dr b
 | [],b=>rfl
 | x::a,b=>by simp [dr,oD]
theorem cp.pQ (hp:E.flat=true):∀{l:List α},cN (E.l l)=true∧dr (E.l l)=E.l l
 | []=>⟨rfl,rfl⟩
 | a::l=>by
  obtain⟨h1,h2⟩:=E.pure a hp
  obtain⟨h3,h4⟩:=cp.pQ hp (l:=l)
  rw [cp.dR,oC,oD,h1,h2,h3,h4]
  exact⟨rfl,rfl⟩
theorem cp.wC:∀{l:List α},(E.l l).map nn=E.l l
 | []=>rfl
 | a::l=>by rw [cp.dR,Wx,E.canon,cp.wC]
theorem cp.oE {l:List α}(hp:E.flat=true:=by rfl):(E.fz l).dN=true∧(E.fz l).jO=E.fz l:=by
 obtain⟨h1,h2⟩:=cp.pQ (E:=E) hp (l:=l)
 exact⟨h1,by show AV.fz (dr (E.l l)) l.length false=_; rw [h2]; rfl⟩
theorem kb:∀(cs vs pre JG:List AV),cs.length=vs.length→dw (pre++cs++JG) pre.length vs=pre++vs++JG
 | [],[],pre,JG,_=>by simp [dw]
 | c::cs,v::vs,pre,JG,h=>by
  have:=kb cs vs (pre++[v]) JG (by simpa using h)
  simp only [We,Wp,WY,Wr] at this
  rw [dw]
  have h2:(pre++c::cs++JG).set pre.length v=pre++[v]++cs++JG:=by
   rw [Wg,Xz _ _ (V7 _),XC]
   simp
  rw [h2,this]
  simp
 | [],_::_,_,_,h=>by simp at h
 | _::_,[],_,_,h=>by simp at h
theorem cp.Et {l:List α}{i:Nat}{a b:α}(h:l[i]? = some a)(rest:List AV):dw (E.l l++rest) (i*E.n) (E.f b)=E.l (l.set i b)++rest:=by
 have hi:=(Wb.1 h).1
 have hl:l=l.take i++a::l.drop (i+1):=by
  conv=>lhs; rw [←List.take_append_drop i l,Wi hi]
  rw [(Wb.1 h).2]
 have hs:l.set i b=l.take i++b::l.drop (i+1):=List.set_eq_take_append_cons_drop .. |>.trans (by rw [if_pos hi])
 have e1:E.l l=E.l (l.take i)++E.f a++E.l (l.drop (i+1)):=by
  conv=>lhs; rw [hl]
  rw [cp.ky,cp.dR,Wg]
 have e2:(E.l (l.take i)).length=i*E.n:=by rw [cp.cE,XD,XF (Nat.le_of_lt hi)]
 rw [hs,cp.ky,cp.dR,e1,←e2]
 have:=kb (E.f a) (E.f b) (E.l (l.take i)) (E.l (l.drop (i+1))++rest) (by rw [E.len,E.len])
 simp only [Wg] at this ⊢
 exact this
theorem cp.JH {l:List α}{i:Nat}{a b:α}{off:Nat}{v:AV}(h:l[i]? = some a)(ho:off<E.n)(hb:(E.f a).set off v=E.f b)(rest:List AV):(E.l l++rest).set (i*E.n+off) v=E.l (l.set i b)++rest:=by
 have hi:=(Wb.1 h).1
 have hl:l=l.take i++a::l.drop (i+1):=by
  conv=>lhs; rw [←List.take_append_drop i l,Wi hi]
  rw [(Wb.1 h).2]
 have hs:l.set i b=l.take i++b::l.drop (i+1):=List.set_eq_take_append_cons_drop .. |>.trans (by rw [if_pos hi])
 have e1:E.l l=E.l (l.take i)++(E.f a++E.l (l.drop (i+1))):=by
  conv=>lhs; rw [hl]
  rw [cp.ky,cp.dR]
 have e2:(E.l (l.take i)).length=i*E.n:=by rw [cp.cE,XD,XF (Nat.le_of_lt hi)]
 rw [hs,cp.ky,cp.dR,e1,←hb,←e2]
 simp only [Wg]
 rw [Xz _ _ (by omega),List.set_append_left _ _ (by rw [E.len]; omega)]
 congr 2
 simp
end
def ix {α:Type}(l:List α)(i:Int):Option α:=if 0≤i then l[i.toNat]? else none
theorem gC {α:Type}{l:List α}{i:Int}{a:α}(h:ix l i=some a):0≤i∧i<l.length∧l[i.toNat]? = some a:=by
 unfold ix at h
 split at h
 ·rename_i h0
  have:=(Wb.1 h).1
  exact⟨h0,by omega,h⟩
 ·cases h
def upd {α:Type}(l:List α)(i:Int)(a:α):Option (List α):=if 0≤i∧i<l.length then some (l.set i.toNat a) else none
def nA {α:Type}(l:List α)(lo hi:Int):Option (List α):=if 0≤lo∧lo≤hi∧hi≤l.length then some ((l.drop lo.toNat).take (hi.toNat - lo.toNat)) else none
theorem lS {α:Type}{l r:List α}{lo hi:Int}(h:nA l lo hi=some r):0≤lo∧lo≤hi∧hi≤l.length∧r=(l.drop lo.toNat).take (hi.toNat - lo.toNat):=by
 unfold nA at h
 split at h
 ·rename_i h0; cases h; exact⟨h0.1,h0.2.1,h0.2.2,rfl⟩
 ·cases h
def bt (s:ByteArray)(i:Int):Option Int:=if 0≤i then (s.data.toList[i.toNat]?).map fun b=>(b.toNat:Int) else none
inductive Ct where
 | sl (n sz:Nat) (cs:List AV)
 | ob (cs:List AV)
 | mp (es:List (AV × AV))
 | row (e:TypeId) (cs:List AV)
def CT (h:AHeap)(i:Nat):Ct→Prop
 | .sl n sz cs=>(cs.length=n*sz∧cs.length≤1125899906842624)∧((i=0∧n=0)∨(i≠0∧∃rest,h.get i=some (.cells (cs++rest))))
 | .ob cs=>i≠0∧h.get i=some (.cells cs)
 | .mp es=>i≠0∧h.get i=some (.map es)
 | .row e cs=>i≠0∧h.get i=some (.row e cs)
abbrev Mem:=List (Nat × Ct)
structure Has (h:AHeap)(K:Mem):Prop where
 at_:∀(j i:Nat) (c:Ct),K[j]? = some (i,c)→CT h i c∧i<h.next
 nd:∀(j j' i:Nat) (c c':Ct),K[j]? = some (i,c)→K[j']? = some (i,c')→i≠0→j=j'
 pos:0<h.next
theorem sN {h h':AHeap}{i:Nat}{c:Ct}(hg:i≠0→h'.get i=h.get i)(h1:CT h i c):CT h' i c:=by
 cases c with
 | sl n sz cs=>
  obtain⟨h2,h3⟩:=h1
  refine⟨h2,h3.imp id fun ⟨h4,r,h5⟩=>⟨h4,r,(hg h4).trans h5⟩⟩
 | ob cs=>exact⟨h1.1,(hg h1.1).trans h1.2⟩
 | mp es=>exact⟨h1.1,(hg h1.1).trans h1.2⟩
 | row e cs=>exact⟨h1.1,(hg h1.1).trans h1.2⟩
theorem cD (h:AHeap)(id k:Nat)(o:AObj):(h.put id o).get k=if k=id then some o else h.get k:=by
 simp only [AHeap.put,beq_nat]
 by_cases hk:k=id<;>simp [hk]
theorem sO (h:AHeap)(id k:Nat):(h.kill id).get k=if k=id then none else h.get k:=by
 simp only [AHeap.kill,beq_nat]
 by_cases hk:k=id<;>simp [hk]
theorem Has.CU {h h':AHeap}{K:Mem}(o:Has h K){j i:Nat}{c:Ct}(hj:K[j]? = some (i,c)){i':Nat}{c':Ct}
  (hg:∀k,k≠i→k<h.next→h'.get k=h.get k) (hn:h.next≤h'.next) (hi:i'=i∨i'=0∨h.next≤i') (hlt:i'<h'.next) (hc:CT h' i' c'):Has h' (K.set j (i',c')):=by
 refine⟨fun q k d hq=>?_,fun q q' k d d' hq xO hk=>?_,Ww o.pos hn⟩
 ·rw [Xs] at hq
  by_cases h1:j=q
  ·subst h1
   rw [if_pos rfl] at hq
   split at hq
   ·cases hq; exact⟨hc,hlt⟩
   ·cases hq
  ·rw [if_neg h1] at hq
   obtain⟨g1,g2⟩:=o.at_ q k d hq
   refine⟨sN (fun hk=>hg k (fun he=>?_) g2) g1,Ww g2 hn⟩
   subst he
   exact h1 (o.nd j q k c d hj hq hk)
 ·rw [Xs] at hq xO
  have old:∀(q:Nat) (d:Ct),j≠q→K[q]? = some (k,d)→k≠i':=by
   intro x y hne hx he
   rcases hi with h1 | h1 | h1
   ·exact hne (o.nd j x k c y (by rw [he,h1]; exact hj) hx hk)
   ·exact hk (he.trans h1)
   ·have:=(o.at_ x k y hx).2; omega
  by_cases h1:j=q<;>by_cases h2:j=q'
  ·rw [←h1,h2]
  ·subst h1
   rw [if_pos rfl] at hq
   rw [if_neg h2] at xO
   split at hq
   ·cases hq; exact absurd rfl (old q' d' h2 xO)
   ·cases hq
  ·subst h2
   rw [if_pos rfl] at xO
   rw [if_neg h1] at hq
   split at xO
   ·cases xO; exact absurd rfl (old q d h1 hq)
   ·cases xO
  ·rw [if_neg h1] at hq; rw [if_neg h2] at xO
   exact o.nd q q' k d d' hq xO hk
theorem Has.new {h h':AHeap}{K:Mem}(o:Has h K){i:Nat}{c:Ct}(hg:∀k,k<h.next→h'.get k=h.get k)(hn:h.next≤h'.next)(hi:i=0∨h.next≤i)(hlt:i<h'.next)(hc:CT h' i c):Has h' ((i,c)::K):=by
 refine⟨fun q k d hq=>?_,fun q q' k d d' hq xO hk=>?_,Ww o.pos hn⟩
 ·cases q with
  | zero=>simp only [WJ,V6,Wc] at hq; obtain⟨rfl,rfl⟩:=hq; exact⟨hc,hlt⟩
  | succ q=>
   simp only [Xh] at hq
   obtain⟨g1,g2⟩:=o.at_ q k d hq
   exact⟨sN (fun _=>hg k g2) g1,Ww g2 hn⟩
 ·have old:∀(q:Nat) (d:Ct),K[q]? = some (k,d)→k≠i:=by
   intro x y hx he
   rcases hi with h1 | h1
   ·exact hk (he.trans h1)
   ·have:=(o.at_ x k y hx).2; omega
  cases q with
  | zero=>
   simp only [WJ,V6,Wc] at hq
   cases q' with
   | zero=>rfl
   | succ q'=>exact absurd hq.1.symm (old q' d' (by simpa using xO))
  | succ q=>
   cases q' with
   | zero=>
    simp only [WJ,V6,Wc] at xO
    exact absurd xO.1.symm (old q d (by simpa using hq))
   | succ q'=>rw [o.nd q q' k d d' (by simpa using hq) (by simpa using xO) hk]
theorem Has.nil {h:AHeap}{K:Mem}(o:Has h K)(sz:Nat):Has h ((0,.sl 0 sz [])::K):=
 o.new (fun _ _=>rfl) (V7 _) (.inl rfl) o.pos ⟨⟨by simp,by simp⟩,.inl ⟨rfl,rfl⟩⟩
theorem Has.sub {h:AHeap}{K K':Mem}(o:Has h K)(f:Nat→Nat)(hf:∀j p,K'[j]? = some p→K[f j]? = some p)(hi:∀j j',f j=f j'→j=j'):Has h K':=
 ⟨fun j i c hj=>o.at_ (f j) i c (hf j _ hj),fun j j' i c c' hj Jf hk=>hi _ _ (o.nd (f j) (f j') i c c' (hf j _ hj) (hf j' _ Jf) hk),o.pos⟩
theorem Has.del {h:AHeap}{K:Mem}(o:Has h K)(q:Nat):Has h (K.eraseIdx q):=
 o.sub (fun j=>if j<q then j else j+1) (fun j p hj=>by
  rw [List.getElem?_eraseIdx] at hj
  split at hj
  ·rename_i h1; simpa [h1] using hj
  ·rename_i h1; simpa [h1] using hj) (fun j j' he=>by
   split at he<;>split at he<;>omega)
theorem Has.front {h:AHeap}{K:Mem}(o:Has h K)(q:Nat){p:Nat × Ct}(hq:K[q]? = some p):Has h (p::K.eraseIdx q):=
 o.sub (fun j=>match j with | 0=>q | j+1=>if j<q then j else j+1) (fun j p' hj=>by
  cases j with
  | zero=>simp only [WJ,V6] at hj; subst hj; exact hq
  | succ j=>
   simp only [Xh,List.getElem?_eraseIdx] at hj
   dsimp only
   split at hj
   ·rename_i h1; simpa [h1] using hj
   ·rename_i h1; simpa [h1] using hj) (fun j j' he=>by
   cases j with
   | zero=>cases j' with
    | zero=>rfl
    | succ j'=>dsimp only at he; split at he<;>omega
   | succ j=>cases j' with
    | zero=>dsimp only at he; split at he<;>omega
    | succ j'=>dsimp only at he; split at he<;>split at he<;>omega)
end Go.R
namespace Go.R
open Go
def wD (P:Program)(t:TypeId)(sz b:Nat):Bool:=
 match P.underlying t with
 | some (.slice e)=>match P.info? e with
  | some i=>WM i.size sz&&WM i.bytes b&&I4 i
  | none=>false
 | _=>false
section
variable {P:Program}{t:TypeId}{sz b:Nat}
theorem jd (h:wD P t sz b=true):∃e i,P.underlying t=some (.slice e)∧P.info? e=some i∧i.size=sz∧i.bytes=b∧I4 i=true∧dY P e=some sz:=by
 unfold wD at h
 split at h
 ·rename_i e he
  split at h
  ·rename_i i hi
   simp only [V8] at h
   have h1:=Xm h.1.1
   exact⟨e,i,he,hi,h1,Xm h.1.2,h.2,by simp [dY,hi,h1]⟩
  ·cases h
 ·cases h
variable {α:Type}{E:cp α}{h:AHeap}{K:Mem}{l:List α}{a v:α}{i q:Nat}{j:Int}{k:IntKind}{c:AV}{off:Nat}{tf:TypeId}
theorem bo (T:wD P t E.n b=true)(h:ix l j=some a):dZ P t (E.fz l) (.int k j)=some (.fp (E.l l) (j.toNat*E.n)):=by
 obtain⟨e,inf,h1,h2,h3,h4,h5,h6⟩:=jd T
 obtain⟨g1,g2,g3⟩:=gC h
 have hle:=cp.Aa (E:=E) g3
 have hp:=E.pos
 simp only [dZ,h1,V3,h6,cp.fz]
 rw [if_pos ⟨g1,g2,by omega⟩]
theorem Mc (h:l[j.toNat]? = some a):(E.l l).isEmpty=false:=by
 have hle:=cp.Aa (E:=E) h
 have hp:=E.pos
 cases hl:E.l l with
 | nil=>rw [hl] at hle; simp at hle; omega
 | cons _ _=>rfl
theorem ji (hp:AHeap)(ha:eF P tf=some false)(h:ix l j=some a)(hc:(E.f a)[off]? = some c):bj P hp tf (.fp (E.l l) (j.toNat*E.n+off))=some c:=by
 obtain⟨g1,g2,g3⟩:=gC h
 have ho:off<E.n:=by rw [←E.len a]; exact (Wb.1 hc).1
 simp only [bj,iX,Mc g3,Wj,if_false,iL,ha,V3,cp.ID g3 ho,hc]
theorem cZ (hp:AHeap)(ha:eF P tf=some false)(h:ix l j=some a)(hc:(E.f a)[0]? = some c):bj P hp tf (.fp (E.l l) (j.toNat*E.n))=some c:=ji (off:=0) hp ha h hc
theorem cL (hp:AHeap)(ha:eF P tf=some true)(hs:dY P tf=some E.n)(h:ix l j=some a):bj P hp tf (.fp (E.l l) (j.toNat*E.n))=some (.agg (E.f a)):=by
 obtain⟨g1,g2,g3⟩:=gC h
 simp only [bj,iX,Mc g3,Wj,if_false,iL,ha,V3,if_true,hs]
 rw [if_pos (cp.Aa g3),cp.Es g3]
theorem rS (o:Has h K)(hq:K[q]? = some (i,.sl l.length E.n (E.l l)))(hj:l[j.toNat]? = some a):i≠0∧∃rest,h.get i=some (.cells (E.l l++rest)):=by
 obtain⟨⟨_,h1⟩,_⟩:=o.at_ _ _ _ hq
 rcases h1 with⟨_,h1⟩| h1
 ·have:=(Wb.1 hj).1; omega
 ·exact h1
theorem JI (T:wD P t sz b=true){n:Nat}(h0:0≤j)(h1:j<n):dZ P t (.rs i 0 n sz) (.int k j)=some (.ptr i (0+j.toNat*sz)):=by
 obtain⟨e,inf,g1,g2,g3,g4,g5,g6⟩:=jd T
 simp only [dZ,g1,V3,g6]
 rw [if_pos ⟨trivial,h0,h1⟩]
theorem va (o:Has h K)(hq:K[q]? = some (i,.sl l.length E.n (E.l l)))(ha:eF P tf=some false)(hj:ix l j=some a)(hc:(E.f a)[off]? = some c):bj P h tf (.ptr i (0+j.toNat*E.n+off))=some c:=by
 obtain⟨g1,g2,g3⟩:=gC hj
 obtain⟨h1,rest,h2⟩:=rS o hq g3
 have ho:off<E.n:=by rw [←E.len a]; exact (Wb.1 hc).1
 have hle:=cp.Aa (E:=E) g3
 simp only [bj,iX,h2,V3,iL,ha,Wj,if_false,Wr]
 rw [WC (by omega),cp.ID g3 ho,hc]
theorem CV (o:Has h K)(hq:K[q]? = some (i,.sl l.length E.n (E.l l)))(ha:eF P tf=some false)(hj:ix l j=some a)(hc:(E.f a)[0]? = some c):bj P h tf (.ptr i (0+j.toNat*E.n))=some c:=va (off:=0) o hq ha hj hc
theorem CW (o:Has h K)(hq:K[q]? = some (i,.sl l.length E.n (E.l l)))(ha:eF P tf=some true)(hs:dY P tf=some E.n)(hj:ix l j=some a):bj P h tf (.ptr i (0+j.toNat*E.n))=some (.agg (E.f a)):=by
 obtain⟨g1,g2,g3⟩:=gC hj
 obtain⟨h1,rest,h2⟩:=rS o hq g3
 have hle:=cp.Aa (E:=E) g3
 simp only [bj,iX,h2,V3,iL,ha,if_true,hs,Wr]
 rw [if_pos (by rw [We]; omega),List.drop_append_of_le_length (by omega),WD (by rw [List.length_drop]; omega),cp.Es g3]
theorem js (o:Has h K){c':Ct}{ct:Ct}(hq:K[q]? = some (i,ct)){ob:AObj}(hc:CT (h.put i ob) i c'):Has (h.put i ob) (K.set q (i,c')):=
 o.CU hq (fun k hk _=>by rw [cD,if_neg hk]) (Xk _) (.inl rfl) (Xr (o.at_ _ _ _ hq).2) hc
theorem Eu (o:Has h K)(hq:K[q]? = some (i,.sl l.length E.n (E.l l)))(hs:dY P tf=some E.n)(hj:ix l j=some a){x:AV}(hv:x.cells=E.f v)(nW:(E.f v).all AV.cC=true) :
  ∃h',iO P h tf (.ptr i (0+j.toNat*E.n)) x=some h'∧Has h' (K.set q (i,.sl l.length E.n (E.l (l.set j.toNat v)))):=by
 obtain⟨g1,g2,g3⟩:=gC hj
 obtain⟨h1,rest,h2⟩:=rS o hq g3
 have hle:=cp.Aa (E:=E) g3
 refine⟨_,?_,js o hq (ob:=.cells (E.l (l.set j.toNat v)++rest)) ⟨⟨by rw [cp.cE,Wd],by rw [cp.cE,Wd,←cp.cE]; exact (o.at_ _ _ _ hq).1.1.2⟩,.inr ⟨h1,rest,by rw [cD,if_pos rfl]⟩⟩⟩
 simp only [iO,h2,V3,gy,hs,hv,Wr]
 rw [if_pos ⟨E.len v,nW,by rw [We]; omega⟩,Wa,cp.Et g3]
theorem CX (o:Has h K)(hq:K[q]? = some (i,.sl l.length E.n (E.l l)))(hs:dY P tf=some 1)(hj:ix l j=some a){x:AV}(hx:x.cells=[x])(nW:x.cC=true)(ho:off<E.n)(hb:(E.f a).set off x=E.f v) :
  ∃h',iO P h tf (.ptr i (0+j.toNat*E.n+off)) x=some h'∧Has h' (K.set q (i,.sl l.length E.n (E.l (l.set j.toNat v)))):=by
 obtain⟨g1,g2,g3⟩:=gC hj
 obtain⟨h1,rest,h2⟩:=rS o hq g3
 have hle:=cp.Aa (E:=E) g3
 refine⟨_,?_,js o hq (ob:=.cells (E.l (l.set j.toNat v)++rest)) ⟨⟨by rw [cp.cE,Wd],by rw [cp.cE,Wd,←cp.cE]; exact (o.at_ _ _ _ hq).1.1.2⟩,.inr ⟨h1,rest,by rw [cD,if_pos rfl]⟩⟩⟩
 simp only [iO,h2,V3,gy,hs,hx,Wr]
 rw [if_pos ⟨rfl,by simp [nW],by rw [We]; omega⟩,Wa]
 simp only [dw]
 rw [cp.JH g3 ho hb]
def app (b:Nat){α:Type}(l l2:List α):Option (List α):=if (l.length+l2.length)*(b+1)≤1099511627776 then some (l++l2) else none
theorem yg {l l2 r:List α}(h:app b l l2=some r):(l.length+l2.length)*b≤fZ∧l.length+l2.length≤fZ∧r=l++l2:=by
 unfold app at h
 split at h
 ·rename_i h0
  cases h
  rw [Nat.mul_add,XB] at h0
  refine⟨by simp only [fZ]; omega,by simp only [fZ]; omega,rfl⟩
 ·cases h
theorem Ev {t2:TypeId}{l2 r:List α}{x:AV}(T:wD P t E.n b=true)(o:Has h K)(hq:K[q]? = some (i,.sl l.length E.n (E.l l)))(hx:fe h E.n x=some (E.l l2,l2.length))(hH:jQ P t2 x=true)(hr:app b l l2=some r) :
  ∃i' h',gz P h t t2 (.rs i 0 l.length E.n) x=some (.rs i' 0 r.length E.n,h')∧Has h' (K.set q (i',.sl r.length E.n (E.l r))):=by
 obtain⟨e,inf,g1,g2,g3,g4,g5,g6⟩:=jd T
 obtain⟨r1,r2,rfl⟩:=yg hr
 obtain⟨⟨⟨hlen,zO⟩,nP⟩,hlt⟩:=o.at_ _ _ _ hq
 have ja:=E.pos
 have hb:inf.size=E.n:=g3
 have jF:¬(inf.size=0∨jQ P t2 x=false∨I4 inf=false):=by rw [hH,g5,hb]; simp [ja]
 subst g4
 by_cases h0:l2=[]
 ·subst h0
  refine⟨i,h,?_,?_⟩
  ·simp only [gz,g1,V3,g2,hb,hx,hH,g5]
   rw [if_neg (by simp [ja])]
   simp only [WY,Nat.zero_mul,Nat.add_zero,Xd]
   by_cases hi:i=0
   ·subst hi
    rcases nP with⟨_,hl0⟩| h1
    ·simp [hl0,hb,fZ]
    ·exact absurd rfl h1.1
   ·rcases nP with h1 | ⟨_,rest,h1⟩
    ·exact absurd h1.1 hi
    ·rw [if_neg hi,h1]
     simp only [V3]
     rw [if_neg (by rw [We,hlen]; simp only [WY,Nat.add_zero] at r1 r2; simp; omega)]
     simp
  ·rw [Xd]
   have:K.set q (i,.sl l.length E.n (E.l l))=K:=by
    apply WV
    intro j
    rw [Xs]
    by_cases hj:q=j
    ·subst hj; rw [if_pos rfl,if_pos (Wb.1 hq).1,hq]
    ·rw [if_neg hj]
   rw [this]; exact o
 ·have KS:l2.length≠0:=by simpa using h0
  by_cases hi:i=0
  ·subst hi
   rcases nP with⟨_,hl0⟩| h1
   rotate_left
   ·exact absurd rfl h1.1
   have hnil:l=[]:=by simpa using hl0
   subst hnil
   refine⟨h.next,h.alloc (.cells (E.l l2)),?_,?_⟩
   ·simp only [gz,g1,V3,g2,hb,hx,hH,g5]
    rw [if_neg (by simp [ja])]
    simp only [if_true]
    simp only [WY,Wr] at r1 r2
    rw [if_neg (by simp; omega),if_neg KS]
    simp
   ·refine o.CU hq (fun k _ hk=>by rw [AHeap.alloc,cD,if_neg (by omega)]) (Xk _) (.inr (.inr (V7 _))) (WN _) ⟨⟨cp.cE,cp.oB (by simp only [fZ] at r2; simp at r2 ⊢; omega)⟩,.inr ⟨by have:=o.pos; omega,[],?_⟩⟩
    rw [AHeap.alloc,cD,if_pos rfl]; simp
  ·rcases nP with h1 | ⟨_,rest,h1⟩
   ·exact absurd h1.1 hi
   refine⟨h.next,(h.kill i).put h.next (.cells (E.l (l++l2))),?_,?_⟩
   ·simp only [gz,g1,V3,g2,hb,hx,hH,g5]
    rw [if_neg (by simp [ja]),if_neg hi,h1]
    simp only [V3]
    rw [if_neg (by rw [We,hlen]; simp; omega),if_neg KS]
    rw [WK,WD (by rw [hlen]; exact V7 _),WH (by rw [hlen]; exact V7 _),cp.ky,We]
   ·refine o.CU hq (fun k hk pJ=>by rw [cD,if_neg (by omega),sO,if_neg hk]) (by show h.next≤h.next+1+1; omega) (.inr (.inr (V7 _))) (by show h.next<h.next+1+1; omega) ⟨⟨cp.cE,cp.oB (by simp only [fZ] at r2; simp at r2 ⊢; omega)⟩,.inr ⟨by have:=o.pos; omega,[],?_⟩⟩
    rw [cD,if_pos rfl]; simp
theorem Ew {l2:List α}(h:AHeap):fe h E.n (E.fz l2)=some (E.l l2,l2.length):=by
 simp only [fe,dE,cp.fz]
 rw [if_pos cp.cE,Wa,cp.wC]
theorem yh (o:Has h K)(hq:K[q]? = some (i,.sl l.length E.n (E.l l))):fe h E.n (.rs i 0 l.length E.n)=some (E.l l,l.length):=by
 obtain⟨⟨⟨hlen,zO⟩,nP⟩,hlt⟩:=o.at_ _ _ _ hq
 simp only [fe,dE]
 rcases nP with⟨h0,h1⟩| ⟨h0,rest,h1⟩
 ·have:l=[]:=by simpa using h1
  subst this
  simp [h0,cp.l]
 ·rw [if_neg h0,h1]
  simp only [V3]
  rw [if_pos ⟨trivial,by rw [We,hlen]; omega⟩,Wa,WK,WD (by rw [hlen]; exact V7 _),WH (by rw [hlen]; exact V7 _),cp.wC]
def uv (b:Nat){α:Type}(n:Int)(z:α):Option (List α):=if 0≤n∧n.toNat*(b+1)≤1099511627776 then some (Wn n.toNat z) else none
theorem nB {n:Int}{z:α}{zv:AV}{r:List α}(T:wD P t E.n b=true)(o:Has h K)(e0:TypeId)(Ud:P.underlying t=some (.slice e0))(hz0:jz P e0=some zv)(Ue:zv.cells=E.f z)(nW:(E.f z).all AV.cC=true)(hr:uv b n z=some r) :
  ∃i h',ga P h t (.int .i64 n) (.int .i64 n)=some (.rs i 0 r.length E.n,h')∧Has h' ((i,.sl r.length E.n (E.l r))::K):=by
 have hz:∀e,P.underlying t=some (.slice e)→jz P e=some zv:=fun e he=>by
  rw [Ud] at he; cases he; exact hz0
 unfold uv at hr
 split at hr
 rotate_left
 ·cases hr
 rename_i jF
 obtain⟨h0,h1⟩:=jF
 cases hr
 obtain⟨e,inf,g1,g2,g3,g4,g5,g6⟩:=jd T
 have ja:=E.pos
 have O3:∀k,k8 (E.f z) k=E.l (Wn k z):=by
  intro k
  induction k with
  | zero=>rfl
  | succ k ih=>rw [k8,ih,List.replicate_succ,cp.dR]
 refine⟨h.next,h.alloc (.cells (E.l (Wn n.toNat z))),?_,o.new (fun k hk=>by rw [AHeap.alloc,cD,if_neg (by omega)]) (Xk _) (.inr (V7 _)) (WN _) ⟨⟨cp.cE,cp.oB (by rw [List.length_replicate]; rw [Nat.mul_add,XB] at h1; omega)⟩,.inr ⟨by have:=o.pos; omega,[],by rw [AHeap.alloc,cD,if_pos rfl]; simp⟩⟩⟩
 rw [Nat.mul_add,XB] at h1
 simp only [ga,g1,V3,g2,hz e g1,Ue,E.len,O3,List.length_replicate,g3,g4]
 have hb:n*(b:Int)≤fZ:=by
  have:n*(b:Int)=((n.toNat*b:Nat):Int):=by
   rw [Int.natCast_mul,Int.toNat_of_nonneg h0]
  simp only [fZ]
  rw [this]
  omega
 rw [if_pos ⟨h0,Int.le_refl _,hb,trivial,ja,by omega,nW⟩]
theorem Ey (o:Has h K)(hq:K[q]? = some (i,.sl l.length E.n (E.l l)))(hp:E.flat=true:=by rfl):∃h',ki 0 h (.rs i 0 l.length E.n)=some (E.fz l,h')∧Has h' (K.eraseIdx q):=by
 obtain⟨⟨⟨hlen,zO⟩,nP⟩,hlt⟩:=o.at_ _ _ _ hq
 rcases nP with⟨h0,h1⟩| ⟨h0,rest,h1⟩
 ·have:l=[]:=by simpa using h1
  subst this
  exact⟨h,by simp [ki,h0,cp.fz,cp.l],o.del q⟩
 ·refine⟨h.kill i,?_,?_⟩
  ·simp only [ki]
   rw [if_neg h0,h1]
   simp only [V3]
   have e1:((E.l l++rest).drop 0).take (l.length*E.n)=E.l l:=by
    rw [WK,WD (by rw [hlen]; exact V7 _),WH (by rw [hlen]; exact V7 _)]
   rw [e1,if_pos ⟨by rw [We,hlen]; omega,(cp.pQ hp).1⟩]
   rfl
  ·have o2:=o.CU (i':=0) (c':=.sl 0 1 []) (h':=h.kill i) hq (fun k hk _=>by rw [sO,if_neg hk]) (Xk _) (.inr (.inl rfl)) (Nat.succ_pos _) ⟨⟨by simp,by simp⟩,.inl ⟨rfl,rfl⟩⟩
   have:=o2.del q
   rwa [List.eraseIdx_set_eq] at this
variable {n:Nat}
theorem dj (o:Has h K)(hq:K[q]? = some (i,.sl n E.n (E.l l))):n=l.length:=by
 have h1:=(o.at_ _ _ _ hq).1.1.1
 rw [cp.cE] at h1
 exact (Nat.eq_of_mul_eq_mul_right (Nat.pos_of_ne_zero E.pos) h1).symm
theorem aE (T:wD P t E.n b=true)(o:Has h K)(hq:K[q]? = some (i,.sl n E.n (E.l l)))(hj:ix l j=some a):dZ P t (.rs i 0 n E.n) (.int k j)=some (.ptr i (0+j.toNat*E.n)):=by
 have hn:=dj o hq
 subst hn
 exact JI T (gC hj).1 (gC hj).2.1
theorem wE (o:Has h K)(hq:K[q]? = some (i,.sl n E.n (E.l l)))(ha:eF P tf=some false)(hj:ix l j=some a)(hc:(E.f a)[off]? = some c):bj P h tf (.ptr i (0+j.toNat*E.n+off))=some c:=by
 have hn:=dj o hq
 subst hn
 exact va o hq ha hj hc
theorem bf (o:Has h K)(hq:K[q]? = some (i,.sl n E.n (E.l l)))(ha:eF P tf=some false)(hj:ix l j=some a)(hc:(E.f a)[0]? = some c):bj P h tf (.ptr i (0+j.toNat*E.n))=some c:=by
 have hn:=dj o hq
 subst hn
 exact CV o hq ha hj hc
theorem Hs (o:Has h K)(hq:K[q]? = some (i,.sl n E.n (E.l l)))(ha:eF P tf=some true)(hs:dY P tf=some E.n)(hj:ix l j=some a):bj P h tf (.ptr i (0+j.toNat*E.n))=some (.agg (E.f a)):=by
 have hn:=dj o hq
 subst hn
 exact CW o hq ha hs hj
theorem dF (o:Has h K)(hq:K[q]? = some (i,.sl n E.n (E.l l)))(hs:dY P tf=some E.n)(hj:ix l j=some a){x:AV}(hv:x.cells=E.f v)(nW:(E.f v).all AV.cC=true) :
  ∃h',iO P h tf (.ptr i (0+j.toNat*E.n)) x=some h'∧Has h' (K.set q (i,.sl n E.n (E.l (l.set j.toNat v)))):=by
 have hn:=dj o hq
 subst hn
 exact Eu o hq hs hj hv nW
theorem Ht (o:Has h K)(hq:K[q]? = some (i,.sl n E.n (E.l l)))(hs:dY P tf=some 1)(hj:ix l j=some a){x:AV}(hx:x.cells=[x])(nW:x.cC=true)(ho:off<E.n)(hb:(E.f a).set off x=E.f v) :
  ∃h',iO P h tf (.ptr i (0+j.toNat*E.n+off)) x=some h'∧Has h' (K.set q (i,.sl n E.n (E.l (l.set j.toNat v)))):=by
 have hn:=dj o hq
 subst hn
 exact CX o hq hs hj hx nW ho hb
theorem fD {t2:TypeId}{l2 r:List α}{x:AV}(T:wD P t E.n b=true)(o:Has h K)(hq:K[q]? = some (i,.sl n E.n (E.l l)))(hx:fe h E.n x=some (E.l l2,l2.length))(hH:jQ P t2 x=true)(hr:app b l l2=some r) :
  ∃i' h',gz P h t t2 (.rs i 0 n E.n) x=some (.rs i' 0 r.length E.n,h')∧Has h' (K.set q (i',.sl r.length E.n (E.l r))):=by
 have hn:=dj o hq
 subst hn
 exact Ev T o hq hx hH hr
theorem CY (o:Has h K)(hq:K[q]? = some (i,.sl n E.n (E.l l))):fe h E.n (.rs i 0 n E.n)=some (E.l l,l.length):=by
 have hn:=dj o hq
 subst hn
 exact yh o hq
theorem iz (o:Has h K)(hq:K[q]? = some (i,.sl n E.n (E.l l)))(hp:E.flat=true:=by rfl):∃h',ki 0 h (.rs i 0 n E.n)=some (E.fz l,h')∧Has h' (K.eraseIdx q):=by
 have hn:=dj o hq
 subst hn
 exact Ey o hq hp
end
end Go.R
namespace Go.R
open Go
structure ab where
 kind:Int
 int:Int
 label:ByteArray
 args:List Int
structure aj where
 nodes:List ab
 root:Int
def eI (k:IntKind):cp Int:={n:=1,f:=fun a=>[.int k a],len:=fun _=>rfl,pos:=by decide,pure:=fun _ _=>⟨rfl,rfl⟩,canon:=fun _=>rfl}
abbrev aa:cp Int:=eI .i64
abbrev au:cp Int:=eI .u8
def cu:cp Bool:={n:=1,f:=fun a=>[.bool a],len:=fun _=>rfl,pos:=by decide,pure:=fun _ _=>⟨rfl,rfl⟩,canon:=fun _=>rfl}
theorem pure_cons {x:AV}{xs:List AV}(h:x.dN=true∧x.jO=x)(k:cN xs=true∧dr xs=xs):cN (x::xs)=true∧dr (x::xs)=x::xs:=
 ⟨by simp [cN,h.1,k.1],by simp [dr,h.2,k.2]⟩
theorem pure_nil:cN []=true∧dr []=[]:=⟨rfl,rfl⟩
theorem sP {k:IntKind}{n:Int}:(AV.int k n).dN=true∧(AV.int k n).jO = .int k n:=⟨rfl,rfl⟩
theorem Ez {s:ByteArray}:(AV.str s).dN=true∧(AV.str s).jO = .str s:=⟨rfl,rfl⟩
def af:cp ab:={n:=4,f:=fun x=>[.int .i64 x.kind,.int .i64 x.int,.str x.label,aa.fz x.args],len:=fun _=>rfl,pos:=by decide,pure:=fun x _=>pure_cons sP (pure_cons sP (pure_cons Ez (pure_cons cp.oE pure_nil))),canon:=fun _=>rfl}
def aJ:cp aj:={n:=2,f:=fun x=>[af.fz x.nodes,.int .i64 x.root],len:=fun _=>rfl,pos:=by decide,pure:=fun x _=>pure_cons cp.oE (pure_cons sP pure_nil),canon:=fun _=>rfl}
end Go.R
namespace Go.R
open Go
theorem Hu {b:Bool}(h:b=false):¬b=true:=by rw [h]; decide
section
variable {P:Program}{cf:CallF}{A:cb}{m:Nat}
theorem vb {c:Code}{s:St}{Q R:Ex→St→Prop}(h:de P cf A m c s Q)(k:∀e s',Q e s'→R e s'):de P cf A m c s R:=by
 obtain⟨e,s',h1,h2⟩:=h
 exact⟨e,s',h1,k _ _ h2⟩
theorem aG {c:Code}{s:St}{Q:St→Prop}{R:Ex→St→Prop}(hQ:∀e s',(e = .ret∨e = .norm)∧Q s'→R e s')(h:de P cf A m c s (fun e s'=>(e = .ret∨e = .norm)∧Q s')):de P cf A m c s R:=vb h hQ
end
def jJ:Nat:=1125899906842630
def lu (k:Nat)(h:AHeap)(x y:AV):Prop:=∀n,jJ+k≤n→cd h n x=some y
def eN (k:Nat)(h:AHeap)(x y:List AV):Prop:=∀n,jJ+k≤n→bH h n x=some y
def yi (h:AHeap)(x y:AV):Prop:=lu 1000 h x y
section
variable {h:AHeap}{α:Type}{E:cp α}{l:List α}{K:Mem}{q i:Nat}
theorem lu.mono {k k':Nat}{x y:AV}(hk:k≤k')(f:lu k h x y):lu k' h x y:=fun n hn=>f n (by omega)
theorem pF {k:Nat}{x y:AV}(f:lu k h x y)(hk:k≤1000:=by decide):yi h x y:=f.mono hk
theorem mw {n:Nat}(h:jJ≤n):∃k,n=k+1∧jJ≤k+1:=⟨n - 1,by simp only [jJ] at h; omega,by omega⟩
theorem my {x:AV}(h1:x.dN=true)(h2:∀n,cd h (n+1) x=if x.dN then some x.jO else none){y:AV}(h3:x.jO=y):lu 0 h x y:=fun n hn=>by
 obtain⟨k,rfl,_⟩:=mw (show jJ≤n by omega)
 rw [h2,h1,h3]; rfl
theorem aM {k:IntKind}{n:Int}:lu 0 h (.int k n) (.int k n):=my rfl (fun _=>rfl) rfl
theorem bY {s:ByteArray}:lu 0 h (.str s) (.str s):=my rfl (fun _=>rfl) rfl
theorem cK (hp:E.flat=true:=by rfl):lu 0 h (E.fz l) (E.fz l):=my (cp.oE hp).1 (fun _=>rfl) (cp.oE hp).2
theorem gD:lu 0 h .nils (E.fz []):=my rfl (fun _=>rfl) rfl
theorem EA {cs:List AV}(h1:(cN cs=true))(h2:dr cs=E.l l){n:Nat}{b:Bool}(h3:n=l.length):lu 0 h (.fz cs n b) (E.fz l):=by
 refine my (by simpa [AV.dN] using h1) (fun _=>rfl) ?_
 subst h3
 show AV.fz (dr cs) l.length false=_
 rw [h2]; rfl
theorem mW:∀{cs:List AV} {n:Nat},cN cs=true→(∀x∈cs,∀n,cd h (n+1) x=if x.dN then some x.jO else none)→cs.length+1<n→bH h n cs=some (dr cs)
 | [],n,_,_,hn=>by
  obtain⟨k,rfl⟩:∃k,n=k+1:=⟨n - 1,by omega⟩
  rfl
 | x::cs,n,h1,h2,hn=>by
  obtain⟨k,rfl⟩:∃k,n=k+1+1:=⟨n - 2,by simp at hn; omega⟩
  simp only [cN,V8] at h1
  simp only [bH]
  rw [h2 x (by simp) k,h1.1]
  simp only [if_true,V3]
  rw [mW h1.2 (fun y hy=>h2 y (by simp [hy])) (by simp at hn; omega)]
  rfl
def yj:AV→Bool
 | .agg _ | .tup _=>false
 | _=>true
theorem EB {x:AV}(hf:yj x=true)(hn:x.dN=true)(n:Nat):cd h (n+1) x=if x.dN then some x.jO else none:=by
 cases x<;>first | rfl | (simp [AV.dN] at hn; done) | (simp [yj] at hf; done)
theorem Hv (o:Has h K)(hq:K[q]? = some (i,.sl l.length E.n (E.l l)))(hf:∀a:α,(E.f a).all yj=true)(hp:E.flat=true:=by rfl):lu 0 h (.rs i 0 l.length E.n) (E.fz l):=fun n hn=>by
 obtain⟨⟨⟨hlen,zO⟩,nP⟩,hlt⟩:=o.at_ _ _ _ hq
 obtain⟨k,rfl,hk⟩:=mw (show jJ≤n by omega)
 simp only [cd]
 rcases nP with⟨h0,h1⟩| ⟨h0,rest,h1⟩
 ·have:l=[]:=by simpa using h1
  subst this
  simp [h0,cp.fz,cp.l]
 ·rw [if_neg h0,h1]
  simp only [V3]
  have e1:((E.l l++rest).drop 0).take (l.length*E.n)=E.l l:=by
   rw [WK,WD (by rw [hlen]; exact V7 _),WH (by rw [hlen]; exact V7 _)]
  rw [if_pos (by rw [We,hlen]; omega),e1,mW (cp.pQ hp).1 (fun x hx=>?_) (by simp only [jJ] at hk; omega),(cp.pQ hp).2]
  ·rfl
  ·have hnx:x.dN=true:=by
    have:∀(cs:List AV),cN cs=true→x∈cs→x.dN=true:=by
     intro cs
     induction cs with
     | nil=>intro _ h; cases h
     | cons y ys ih=>
      intro h hm
      simp only [cN,V8] at h
      rcases WG.1 hm with rfl | hm
      ·exact h.1
      ·exact ih h.2 hm
    exact this _ (cp.pQ hp).1 hx
   have JJ:yj x=true:=by
    unfold cp.l at hx
    rw [List.mem_flatMap] at hx
    obtain⟨a,_,ha⟩:=hx
    exact Ws.1 (hf a) x ha
   exact fun n=>EB JJ hnx n
theorem sQ {n:Nat}(o:Has h K)(hq:K[q]? = some (i,.sl n E.n (E.l l)))(hf:∀a:α,(E.f a).all yj=true)(hp:E.flat=true:=by rfl):lu 0 h (.rs i 0 n E.n) (E.fz l):=by
 have hn:=dj o hq
 subst hn
 exact Hv o hq hf hp
theorem az:eN 0 h [] []:=fun n hn=>by
 obtain⟨k,rfl,_⟩:=mw (show jJ≤n by omega)
 rfl
theorem ae {k1 k2:Nat}{x y:AV}{xs ys:List AV}(f:lu k1 h x y)(g:eN k2 h xs ys):eN (k1+k2+1) h (x::xs) (y::ys):=fun n hn=>by
 obtain⟨k,rfl⟩:∃k,n=k+1:=⟨n - 1,by omega⟩
 simp only [bH]
 rw [f k (by omega),g k (by omega)]
 rfl
theorem cP {k:Nat}{xs ys:List AV}(f:eN k h xs ys):lu (k+1) h (.agg xs) (.agg ys):=fun n hn=>by
 obtain⟨k,rfl⟩:∃k,n=k+1:=⟨n - 1,by omega⟩
 simp only [cd]
 rw [f k (by omega)]; rfl
theorem gj {k:Nat}{xs ys:List AV}(f:eN k h xs ys):lu (k+1) h (.tup xs) (.tup ys):=fun n hn=>by
 obtain⟨k,rfl⟩:∃k,n=k+1:=⟨n - 1,by omega⟩
 simp only [cd]
 rw [f k (by omega)]; rfl
end
def gY (k:IntKind)(x y:Int):Int:=k.wrap ((Xe k.bits x &&& Xe k.bits y).toNat:Int)
def iP (k:IntKind)(x y:Int):Int:=k.wrap ((Xe k.bits x ||| Xe k.bits y).toNat:Int)
def kT (k:IntKind)(x y:Int):Int:=k.wrap ((Xe k.bits x ^^^ Xe k.bits y).toNat:Int)
def fX (k:IntKind)(x:Int)(n:Nat):Int:=x.fdiv (2 ^ (min n k.bits))
section
variable {P:Program}{t:TypeId}{b:Nat}{α:Type}{E:cp α}{h:AHeap}{K:Mem}{l r:List α}{i q:Nat}{j lo hi:Int}{k k':IntKind}
theorem lT {s:ByteArray}{v:Int}(hu:P.underlying t=some .string)(h:bt s j=some v):pz P t (.str s) (.int k j)=some (.int .u8 v):=by
 unfold bt at h
 split at h
 ·rename_i h0
  rw [V5] at h
  obtain⟨b,hb,rfl⟩:=h
  simp only [pz,hu,V3,h0,if_true,hb,Wa]
 ·cases h
theorem oF (h:nA l lo hi=some r):(((E.l l).drop (lo.toNat*E.n)).take ((hi.toNat - lo.toNat)*E.n))=E.l r∧r.length=hi.toNat - lo.toNat:=by
 obtain⟨h0,h1,h2,rfl⟩:=lS h
 refine⟨by rw [cp.wA,cp.Er],?_⟩
 rw [XD,List.length_drop]
 omega
theorem Bk (T:wD P t E.n b=true)(h:nA l lo hi=some r):eG P t (E.fz l) (some (.int k lo)) (some (.int k' hi)) none=some (E.fz r):=by
 obtain⟨e,inf,g1,g2,g3,g4,g5,g6⟩:=jd T
 obtain⟨h0,h1,h2,_⟩:=lS h
 obtain⟨h3,h4⟩:=oF (E:=E) h
 simp only [eG,g1,V3,g6,cp.fz,iq]
 rw [if_pos ⟨by omega,h2⟩]
 simp only [V3]
 rw [if_pos ⟨h0,by omega⟩]
 simp only [V3,Wa,Bool.false_and]
 rw [h3,←h4]
theorem Bl (T:wD P t E.n b=true)(h:nA l 0 hi=some r):eG P t (E.fz l) none (some (.int k' hi)) none=some (E.fz r):=by
 obtain⟨e,inf,g1,g2,g3,g4,g5,g6⟩:=jd T
 obtain⟨h0,h1,h2,_⟩:=lS h
 obtain⟨h3,h4⟩:=oF (E:=E) h
 simp only [eG,g1,V3,g6,cp.fz,iq]
 rw [if_pos ⟨by omega,h2⟩]
 simp only [V3,Wa,Bool.false_and]
 simp only [Int.toNat_zero] at h3 h4
 rw [h3,←h4]
theorem wF (T:wD P t E.n b=true)(h:nA l lo (l.length:Int)=some r):eG P t (E.fz l) (some (.int k lo)) none none=some (E.fz r):=by
 obtain⟨e,inf,g1,g2,g3,g4,g5,g6⟩:=jd T
 obtain⟨h0,h1,h2,_⟩:=lS h
 obtain⟨h3,h4⟩:=oF (E:=E) h
 simp only [eG,g1,V3,g6,cp.fz,iq]
 rw [if_pos ⟨h0,by omega⟩]
 simp only [V3,Wa,Bool.false_and]
 simp only [V9] at h3 h4
 rw [h3,←h4]
theorem EC (o:Has h K)(hq:K[q]? = some (i,.sl l.length E.n (E.l l)))(T:wD P t E.n b=true)(hs:nA l 0 hi=some r) :
  eG P t (.rs i 0 l.length E.n) none (some (.int k hi)) none=some (.rs i 0 r.length E.n)∧Has h (K.set q (i,.sl r.length E.n (E.l r))):=by
 obtain⟨e,inf,g1,g2,g3,g4,g5,g6⟩:=jd T
 obtain⟨h0,h1,h2,hr⟩:=lS hs
 obtain⟨h3,h4⟩:=oF (E:=E) hs
 simp only [Int.toNat_zero,Nat.sub_zero] at h4 hr
 have zX:r=l.take hi.toNat:=by rw [hr]; simp
 refine⟨?_,?_⟩
 ·simp only [eG,g1,V3,g6,if_true,iq]
  rw [if_pos ⟨by omega,h2⟩]
  simp only [V3,Wa,Nat.zero_mul,Nat.add_zero,Nat.sub_zero,h4]
 ·obtain⟨⟨⟨hlen,zO⟩,nP⟩,hlt⟩:=o.at_ _ _ _ hq
  refine o.CU hq (fun _ _ _=>rfl) (V7 _) (.inl rfl) hlt ⟨⟨cp.cE,?_⟩,?_⟩
  ·rw [cp.cE]
   refine WQ (WX _ ?_) (hlen ▸ zO)
   rw [h4]; omega
  ·rcases nP with⟨h5,h6⟩| ⟨h5,rest,h6⟩
   ·left; exact⟨h5,by rw [h4]; omega⟩
   ·right
    refine⟨h5,E.l (l.drop hi.toNat)++rest,?_⟩
    rw [h6,zX,←Wg,←cp.ky,List.take_append_drop]
theorem JK {n:Nat}(o:Has h K)(hq:K[q]? = some (i,.sl n E.n (E.l l)))(T:wD P t E.n b=true)(hs:nA l 0 hi=some r) :
  eG P t (.rs i 0 n E.n) none (some (.int k hi)) none=some (.rs i 0 r.length E.n)∧Has h (K.set q (i,.sl r.length E.n (E.l r))):=by
 have hn:=dj o hq
 subst hn
 exact EC o hq T hs
end
theorem aq {P:Program}{cf:CallF}{m:Nat}{aV:FuncId→cb}{f:FuncId}{fn:Func}{A:cb}(ha:aV f=A){args:List AV}{h:AHeap}{R:AV→AHeap→Prop}(hf:P.funcs[f]? = some fn)(hb:fn.body=some (codeOf fn))(hn:Nat.ble args.length fn.ntmps=true)
  (he:de P cf A m (codeOf fn) ⟨lH A.fU args,A.aD.map fun _=>none,h⟩ (fun e s=>(e = .ret∨e = .norm)∧∃r,aI P (s.open A) fn.results.toList=some r∧R r s.h)) :
  ∃r h',be P aV cf m f args h=some (r,h')∧R r h':=by
 subst ha
 exact wz hf hb hn he
def ED (a b:ByteArray):Bool:=Op.bytesLess a.data.toList b.data.toList||a.data.toList==b.data.toList
end Go.R
namespace Go.R
open Go
mutual
theorem wG {h:AHeap}:∀(n:Nat) (x y:AV),x.dN=true→cd h n x=some y→y=x.jO
 | 0,x,y,_,h=>by simp [cd] at h
 | n+1,x,y,hn,h=>by
  cases x with
  | agg cs=>
   simp only [cd,V5] at h
   obtain⟨fA,hcs,rfl⟩:=h
   rw [iA n cs fA (by simpa [AV.dN] using hn) hcs]; rfl
  | tup cs=>
   simp only [cd,V5] at h
   obtain⟨fA,hcs,rfl⟩:=h
   rw [iA n cs fA (by simpa [AV.dN] using hn) hcs]; rfl
  | ptr _ _=>simp [AV.dN] at hn
  | rs _ _ _ _=>simp [AV.dN] at hn
  | _=>simp only [cd,hn,if_true,V6] at h; exact h.symm
theorem iA {h:AHeap}:∀(n:Nat) (xs ys:List AV),cN xs=true→bH h n xs=some ys→ys=dr xs
 | 0,xs,ys,_,h=>by simp [bH] at h
 | n+1,[],ys,_,h=>by simp only [bH,V6] at h; exact h.symm
 | n+1,x::xs,ys,hn,h=>by
  simp only [cN,V8] at hn
  simp only [bH,V4,V5] at h
  obtain⟨y,hy,zs,hz,rfl⟩:=h
  rw [wG n x y hn.1 hy,iA n xs zs hn.2 hz]; rfl
end
mutual
theorem vc {h:AHeap}:∀(n:Nat) (x y:AV),fS h n x=some y→cd h n x=some y
 | 0,x,y,h=>by simp [fS] at h
 | n+1,x,y,h=>by
  unfold fS at h
  split at h
  ·exact h
  ·exact h
  ·exact h
  ·exact h
  ·exact h
  ·exact h
  ·exact h
  ·exact h
  ·rename_i id off len jh
   simp only [cd]
   split at h
   ·rename_i h0; rw [if_pos h0]; exact h
   ·rename_i h0
    rw [if_neg h0]
    rw [V4] at h ⊢
    obtain⟨ob,ho,h⟩:=h
    refine⟨ob,ho,?_⟩
    cases ob with
    | map es=>cases h
    | row t cs=>cases h
    | cells cs=>
     simp only at h ⊢
     split at h
     ·rename_i hle
      rw [if_pos hle]
      rw [V5] at h ⊢
      obtain⟨fA,hcs,h2⟩:=h
      exact⟨fA,jX n _ _ hcs,h2⟩
     ·cases h
  ·simp only [cd]
   rw [V5] at h ⊢
   obtain⟨fA,hcs,h2⟩:=h
   exact⟨fA,jX n _ _ hcs,h2⟩
  ·simp only [cd]
   rw [V5] at h ⊢
   obtain⟨fA,hcs,h2⟩:=h
   exact⟨fA,jX n _ _ hcs,h2⟩
  ·cases h
theorem jX {h:AHeap}:∀(n:Nat) (xs ys:List AV),dh h n xs=some ys→bH h n xs=some ys
 | 0,xs,ys,h=>by simp [dh] at h
 | n+1,[],ys,h=>h
 | n+1,x::xs,ys,h=>by
  simp only [dh,bH,V4,V5] at h ⊢
  obtain⟨y,hy,zs,hz,h2⟩:=h
  exact⟨y,vc n x y hy,zs,jX n xs zs hz,h2⟩
end
def CZ (k:Nat)(h:AHeap)(x y:AV):Prop:=∀n,jJ+k≤n→fS h n x=some y
def fT (h:AHeap)(x y:AV):Prop:=CZ 1000 h x y
section
variable {h:AHeap}{α:Type}{E:cp α}{l:List α}{K:Mem}{q i:Nat}
theorem fT.pF {x y:AV}(f:fT h x y):yi h x y:=fun n hn=>vc _ _ _ (f n hn)
theorem bX {k:Nat}{x y:AV}(f:CZ k h x y)(hk:k≤1000:=by decide):fT h x y:=fun n hn=>f n (by omega)
theorem Bm {x y:AV}(h2:∀n,fS h (n+1) x=some y):CZ 0 h x y:=fun n hn=>by
 obtain⟨k,rfl,_⟩:=mw (show jJ≤n by omega)
 exact h2 k
theorem fh {k:IntKind}{n:Int}:CZ 0 h (.int k n) (.int k n):=Bm fun _=>rfl
theorem ak {b:Bool}:CZ 0 h (.bool b) (.bool b):=Bm fun _=>rfl
def EE:AV→Bool
 | .int _ _ | .bool _ | .str _=>true
 | _=>false
theorem lU:∀{cs:List AV} {n:Nat},cs.all EE=true→cs.length+1<n→dh h n cs=some cs
 | [],n,_,hn=>by
  obtain⟨k,rfl⟩:∃k,n=k+1:=⟨n - 1,by omega⟩
  rfl
 | x::cs,n,h1,hn=>by
  obtain⟨k,rfl⟩:∃k,n=k+1+1:=⟨n - 2,by simp at hn; omega⟩
  simp only [W2,V8] at h1
  simp only [dh]
  have:fS h (k+1) x=some x:=by cases x<;>first | rfl | (simp [EE] at h1)
  rw [this,V3,lU h1.2 (by simp at hn; omega)]
  rfl
theorem yk {n:Nat}(o:Has h K)(hq:K[q]? = some (i,.sl n E.n (E.l l)))(hf:∀a:α,(E.f a).all EE=true):CZ 0 h (.rs i 0 n E.n) (E.fz l):=fun m hm=>by
 have hn:=dj o hq
 subst hn
 obtain⟨⟨⟨hlen,zO⟩,nP⟩,hlt⟩:=o.at_ _ _ _ hq
 obtain⟨k,rfl,hk⟩:=mw (show jJ≤m by omega)
 simp only [fS]
 rcases nP with⟨h0,h1⟩| ⟨h0,rest,h1⟩
 ·have:l=[]:=by simpa using h1
  subst this
  simp [h0,cp.fz,cp.l]
 ·rw [if_neg h0,h1]
  simp only [V3]
  have e1:((E.l l++rest).drop 0).take (l.length*E.n)=E.l l:=by
   rw [WK,WD (by rw [hlen]; exact V7 _),WH (by rw [hlen]; exact V7 _)]
  rw [if_pos (by rw [We,hlen]; omega),e1,lU ?_ (by simp only [jJ] at hk; omega)]
  ·rfl
  ·rw [Ws]
   intro x hx
   unfold cp.l at hx
   rw [List.mem_flatMap] at hx
   obtain⟨a,_,ha⟩:=hx
   exact Ws.1 (hf a) x ha
def fc:Nat:=4503599627370496
theorem gO {k:Nat}{xs ys:List AV}(f:eN k h xs ys)(hk:k≤fc:=by decide):eN fc h xs ys:=fun n hn=>f n (by omega)
def vd (x y:AV):Prop:=x.dN=true∧x.jO=y
def lV (xs ys:List AV):Prop:=cN xs=true∧dr xs=ys
theorem bD {k:IntKind}{n:Int}:vd (.int k n) (.int k n):=⟨rfl,rfl⟩
theorem wH {s:ByteArray}:vd (.str s) (.str s):=⟨rfl,rfl⟩
theorem ib (hp:E.flat=true:=by rfl):vd (E.fz l) (E.fz l):=cp.oE hp
theorem gH:lV [] []:=⟨rfl,rfl⟩
theorem cR {x y:AV}{xs ys:List AV}(a:vd x y)(b:lV xs ys):lV (x::xs) (y::ys):=⟨by simp [cN,a.1,b.1],by simp [dr,a.2,b.2]⟩
theorem sR {xs ys:List AV}(a:lV xs ys):vd (.agg xs) (.agg ys):=⟨by simpa [AV.dN] using a.1,by show AV.agg (dr xs)=_; rw [a.2]⟩
end
end Go.R
namespace Go.R
open Go
def IE (k:IntKind)(x:Int):Int:=kT k (if k.signed then -1 else k.max) x
def eO (l:List Int):ByteArray:=⟨(l.map fun n=>UInt8.ofNat n.toNat).toArray⟩
def eP (s:ByteArray):List Int:=s.data.toList.map fun b=>(b.toNat:Int)
section
variable {P:Program}{h:AHeap}{K:Mem}{i q:Nat}{cs fA:List AV}{x z:AV}{t:TypeId}{off:Nat}
theorem kc (o:Has h K)(nW:cs.all AV.cC=true):∃i h',yd h cs=some (.ptr i 0,h')∧Has h' ((i,.ob cs)::K):=by
 refine⟨h.next,h.alloc (.cells cs),by unfold yd; rw [if_pos nW],o.new (fun k hk=>by rw [AHeap.alloc,cD,if_neg (by omega)]) (Xk _) (.inr (V7 _)) (WN _) ⟨by have:=o.pos; omega,by rw [AHeap.alloc,cD,if_pos rfl]⟩⟩
theorem ca (o:Has h K)(hq:K[q]? = some (i,.ob cs))(hr:iL P t cs off=some z):bj P h t (.ptr i off)=some z:=by
 obtain⟨⟨h1,h2⟩,_⟩:=o.at_ _ _ _ hq
 simp only [bj,iX,h2,V3,hr]
theorem kz (o:Has h K)(hq:K[q]? = some (i,.ob cs))(hw:gy P t cs off x=some fA):∃h',iO P h t (.ptr i off) x=some h'∧Has h' (K.set q (i,.ob fA)):=by
 obtain⟨⟨h1,h2⟩,_⟩:=o.at_ _ _ _ hq
 exact⟨h.put i (.cells fA),by simp only [iO,h2,V3,hw,Wa],js o hq ⟨h1,by rw [cD,if_pos rfl]⟩⟩
theorem Bn:∀(l:List Int),GP (au.l l)=some (l.map fun n=>UInt8.ofNat n.toNat)
 | []=>rfl
 | a::l=>by
  have:=Bn l
  show (GP (au.l l)).map _=_
  rw [this]; rfl
theorem Ab {a b e:TypeId}{l:List Int}{h:AHeap}{x:AV}(ha:P.underlying a=some (.slice e))(hb:P.underlying b=some .string)(hu:Cl P e=true)(hc:∃n,dE h 1 x=some (au.l l,n)):gR P h a b x=some (.str (eO l)):=by
 obtain⟨n,hc⟩:=hc
 simp only [gR,ha,hb,hu,if_true,hc,V3,Bn,Wa,eO]
theorem EF {l:List Int}(h:AHeap):∃n,dE h 1 (au.fz l)=some (au.l l,n):=by
 refine⟨l.length,?_⟩
 simp only [dE,cp.fz]
 rw [if_pos (by rw [cp.cE]; rfl)]
end
theorem aQ {x y:AV}(h:vd x y):ay x=y:=by
 unfold ay
 rw [h.1,h.2]; rfl
theorem bm:([]:List AV).map ay=[]:=rfl
theorem an {x y:AV}{xs ys:List AV}(a:ay x=y)(b:xs.map ay=ys):(x::xs).map ay=y::ys:=by
 rw [Wo,a,b]
theorem JL {α:Type}{K L:List α}{q:Nat}{p:α}(h:L[q]? = some p):(K++L)[K.length+q]? = some p:=by
 rw [Wq (by omega),Xg,h]
def C0 (k:IntKind)(x y:Int):Option Int:=if y<0 then none else some (k.wrap (x*2 ^ (min y.toNat k.bits)))
theorem EG {P:Program}{t:TypeId}{k k':IntKind}{x y v:Int}(h:C0 k x y=some v):lF P .shl t (.int k x) (.int k' y)=some (.int k v):=by
 unfold C0 at h
 split at h
 ·cases h
 ·rename_i hy
  cases h
  simp only [lF,AV.fm,V3,Go.binOp,Op.shift,hy,if_false]
  rfl
theorem Hw {α:Type}{E:cp α}{h:AHeap}{K:Mem}{l:List α}{cs:List AV}(o:Has h K)(hc:cs=E.l l)(hl:l.length≤1024:=by simp) :
  ∃i h',some (AV.rs h.next 0 l.length E.n,h.alloc (.cells cs))=some (AV.rs i 0 l.length E.n,h')∧Has h' ((i,.sl l.length E.n (E.l l))::K):=by
 subst hc
 exact⟨h.next,_,rfl,o.new (fun k hk=>by rw [AHeap.alloc,cD,if_neg (by omega)]) (Xk _) (.inr (V7 _)) (WN _) ⟨⟨cp.cE,cp.oB (by omega)⟩,.inr ⟨by have:=o.pos; omega,[],by rw [AHeap.alloc,cD,if_pos rfl]; simp⟩⟩⟩
end Go.R
namespace Go.R
open Go
def mn (x y:Int):Int:=if y<x then y else x
def mx (x y:Int):Int:=if y > x then y else x
def yl (l:List (Int × Int))(k:Int):Int × Bool:=
 match l with
 | []=>(0,false)
 | (a,b)::l=>if k=a then (b,true) else yl l k
def EH (l:List (Int × Int))(k v:Int):List (Int × Int):=
 match l with
 | []=>[(k,v)]
 | (a,b)::l=>if k=a then (k,v)::l else (a,b)::EH l k v
def sS (n:Nat)(l:List (List Int × Int))(k:List Int):Bool:=k.length==n&&l.all fun p=>p.1.length==n
def sT (l:List (List Int × Int))(k:List Int):Int × Bool:=
 match l with
 | []=>(0,false)
 | (a,b)::l=>if k=a then (b,true) else sT l k
def Hx (n:Nat)(l:List (List Int × Int))(k:List Int):Option (Int × Bool):=if sS n l k=true then some (sT l k) else none
def Ac (l:List (List Int × Int))(k:List Int)(v:Int):List (List Int × Int):=
 match l with
 | []=>[(k,v)]
 | (a,b)::l=>if k=a then (k,v)::l else (a,b)::Ac l k v
def Md (n:Nat)(l:List (List Int × Int))(k:List Int)(v:Int):Option (List (List Int × Int)):=if sS n l k=true then some (Ac l k v) else none
def sU (l:List (Int × Int)):List (AV × AV):=l.map fun p=>(.int .i64 p.1,.int .i64 p.2)
def uw (l:List (List Int × Int)):List (AV × AV):=l.map fun p=>(.agg (aa.l p.1),.int .i64 p.2)
theorem Bo (k:Int):∀l:List (Int × Int),ir (.int .i64 k) (sU l)=some (if (yl l k).2=true then some (.int .i64 (yl l k).1) else none)
 | []=>rfl
 | (a,b)::l=>by
  simp only [sU,Wo,ir,sameShape,fL,iM,yl]
  have ih:=Bo k l
  simp only [sU] at ih
  by_cases h:k=a
  ·subst h; simp
  ·simp [h,ih]
theorem EI (k v:Int):∀l:List (Int × Int),vL (.int .i64 k) (.int .i64 v) (sU l)=some (sU (EH l k v))
 | []=>rfl
 | (a,b)::l=>by
  have ih:=EI k v l
  simp only [sU,Wo,vL,sameShape,fL,iM,EH] at ih ⊢
  by_cases h:k=a
  ·subst h; simp
  ·simp [h,ih]
theorem Ad (l:List Int):(aa.l l).all jR=true:=by
 induction l with
 | nil=>rfl
 | cons a l ih=>rw [cp.dR,List.all_append,ih]; rfl
theorem iQ (l:List Int):(aa.l l).length=l.length:=by rw [cp.cE]; exact XB _
theorem nC:∀a b:List Int,lE (aa.l a) (aa.l b)=decide (a=b)
 | [],[]=>rfl
 | [],b::l=>by simp [cp.dR,cp.IC,eI,lE]
 | a::l,[]=>by simp [cp.dR,cp.IC,eI,lE]
 | a::l,b::l'=>by
  have ih:=nC l l'
  rw [cp.dR,cp.dR]
  show (iM (.int .i64 a) (.int .i64 b)&&lE (aa.l l) (aa.l l'))=_
  rw [ih]
  simp only [iM]
  by_cases h1:a=b<;>by_cases h2:l=l'<;>simp [h1,h2]
theorem Bp (n:Nat)(k:List Int)(hk:k.length=n):∀l:List (List Int × Int),(l.all fun p=>p.1.length==n)=true→ir (.agg (aa.l k)) (uw l)=some (if (sT l k).2=true then some (.int .i64 (sT l k).1) else none)
 | [],_=>rfl
 | (a,b)::l,h=>by
  simp only [W2,V8,beq_iff_eq] at h
  have ih:=Bp n k hk l h.2
  simp only [uw,Wo,ir,sameShape,fL,sT,Ad,iQ,hk,h.1,nC,beq_self_eq_true,Xl,if_true] at ih ⊢
  by_cases Hy:k=a
  ·subst Hy; simp
  ·simp [Hy,ih]
theorem EJ (n:Nat)(k:List Int)(v:Int)(hk:k.length=n):∀l:List (List Int × Int),(l.all fun p=>p.1.length==n)=true→vL (.agg (aa.l k)) (.int .i64 v) (uw l)=some (uw (Ac l k v))
 | [],_=>rfl
 | (a,b)::l,h=>by
  simp only [W2,V8,beq_iff_eq] at h
  have ih:=EJ n k v hk l h.2
  simp only [uw,Wo,vL,sameShape,fL,Ac,Ad,iQ,hk,h.1,nC,beq_self_eq_true,Xl,if_true] at ih ⊢
  by_cases Hy:k=a
  ·subst Hy; simp
  ·simp [Hy,ih]
def ym (P:Program)(t:TypeId):Bool:=
 match P.underlying t with
 | some (.map kt et)=>(P.underlying kt matches some (.int .i64))&&(match jz P et with | some (.int .i64 n)=>n==0 | _=>false)
 | _=>false
def yn (P:Program)(t:TypeId)(n:Nat):Bool:=
 match P.underlying t with
 | some (.map kt et)=>(match P.underlying kt with | some (.array m e)=>m==n&&(P.underlying e matches some (.int .i64))&&dY P e==some 1 | _=>false)&&(match jz P et with | some (.int .i64 n)=>n==0 | _=>false)
 | _=>false
section
variable {P:Program}{h:AHeap}{K:Mem}{i q:Nat}{t:TypeId}{n:Nat}
theorem sV (T:ym P t=true):∃kt et,P.underlying t=some (.map kt et)∧(∀k,fM P kt (.int .i64 k)=true)∧jz P et=some (.int .i64 0):=by
 unfold ym at T
 split at T
 ·rename_i kt et ht
  simp only [V8] at T
  obtain⟨h1,h2⟩:=T
  refine⟨kt,et,ht,fun k=>?_,?_⟩
  ·revert h1
   split
   ·rename_i hk; intro _; simp [fM,hk]
   ·intro h; cases h
  ·split at h2
   ·rename_i z hz; simp only [beq_iff_eq] at h2; subst h2; exact hz
   ·cases h2
 ·cases T
theorem sW (T:yn P t n=true):∃kt et,P.underlying t=some (.map kt et)∧(∀k:List Int,k.length=n→fM P kt (.agg (aa.l k))=true)∧jz P et=some (.int .i64 0):=by
 unfold yn at T
 split at T
 ·rename_i kt et ht
  simp only [V8] at T
  obtain⟨h1,h2⟩:=T
  refine⟨kt,et,ht,fun k hk=>?_,?_⟩
  ·split at h1
   ·rename_i m e pJ
    simp only [V8,beq_iff_eq] at h1
    obtain⟨⟨h3,h4⟩,h5⟩:=h1
    subst h3
    simp only [fM,pJ,iQ,hk,Ad,h5,beq_self_eq_true,Xl,Bool.and_true]
    exact h4
   ·cases h1
  ·split at h2
   ·rename_i z hz; simp only [beq_iff_eq] at h2; subst h2; exact hz
   ·cases h2
 ·cases T
theorem EK (o:Has h K):∃i h',(AV.mp h.next,h.alloc (.map []))=(AV.mp i,h')∧Has h' ((i,.mp [])::K):=
 ⟨h.next,_,rfl,o.new (fun k hk=>by rw [AHeap.alloc,cD,if_neg (by omega)]) (Xk _) (.inr (V7 _)) (WN _) ⟨by have:=o.pos; omega,by rw [AHeap.alloc,cD,if_pos rfl]⟩⟩
theorem O4 {l:List (Int × Int)}{k:Int}(T:ym P t=true)(o:Has h K)(hq:K[q]? = some (i,.mp (sU l))):fy P h t (.mp i) (.int .i64 k) true=some (.tup [.int .i64 (yl l k).1,.bool (yl l k).2])∧fy P h t (.mp i) (.int .i64 k) false=some (.int .i64 (yl l k).1):=by
 obtain⟨kt,et,h1,h2,h3⟩:=sV T
 obtain⟨⟨_,h4⟩,_⟩:=o.at_ _ _ _ hq
 have hz:(yl l k).2=false→(yl l k).1=0:=by
  clear hq h4
  induction l with
  | nil=>intro _; rfl
  | cons p l ih=>
   obtain⟨a,b⟩:=p
   simp only [yl]
   split
   ·intro h; cases h
   ·exact ih
 simp only [fy,h1,V3,h2,Bool.true_eq_false,if_false,h4,Bo]
 cases hc:(yl l k).2 with
 | true=>simp
 | false=>simp [h3,hz hc]
theorem JM {l:List (List Int × Int)}{k:List Int}{r:Int × Bool}(T:yn P t n=true)(o:Has h K)(hq:K[q]? = some (i,.mp (uw l)))(hr:Hx n l k=some r):fy P h t (.mp i) (.agg (aa.l k)) true=some (.tup [.int .i64 r.1,.bool r.2])∧fy P h t (.mp i) (.agg (aa.l k)) false=some (.int .i64 r.1):=by
 obtain⟨kt,et,h1,h2,h3⟩:=sW T
 obtain⟨⟨_,h4⟩,_⟩:=o.at_ _ _ _ hq
 unfold Hx at hr
 split at hr
 rotate_left
 ·cases hr
 rename_i hg
 cases hr
 simp only [sS,V8,beq_iff_eq] at hg
 have hz:(sT l k).2=false→(sT l k).1=0:=by
  clear hq h4 hg
  induction l with
  | nil=>intro _; rfl
  | cons p l ih=>
   obtain⟨a,b⟩:=p
   simp only [sT]
   split
   ·intro h; cases h
   ·exact ih
 simp only [fy,h1,V3,h2 k hg.1,Bool.true_eq_false,if_false,h4,Bp n k hg.1 l hg.2]
 cases hc:(sT l k).2 with
 | true=>simp
 | false=>simp [h3,hz hc]
theorem O5 {l:List (Int × Int)}{k v:Int}(T:ym P t=true)(o:Has h K)(hq:K[q]? = some (i,.mp (sU l))):∃h',iu P h t (.mp i) (.int .i64 k) (.int .i64 v)=some h'∧Has h' (K.set q (i,.mp (sU (EH l k v)))):=by
 obtain⟨kt,et,h1,h2,h3⟩:=sV T
 obtain⟨⟨h5,h4⟩,_⟩:=o.at_ _ _ _ hq
 refine⟨h.put i (.map (sU (EH l k v))),?_,js o hq ⟨h5,by rw [cD,if_pos rfl]⟩⟩
 simp only [iu,h1,V3,h2]
 rw [if_neg (by simp [AV.k7])]
 simp only [h4,V3,EI,Wa]
theorem O6 {l r:List (List Int × Int)}{k:List Int}{v:Int}(T:yn P t n=true)(o:Has h K)(hq:K[q]? = some (i,.mp (uw l)))(hr:Md n l k v=some r):∃h',iu P h t (.mp i) (.agg (aa.l k)) (.int .i64 v)=some h'∧Has h' (K.set q (i,.mp (uw r))):=by
 obtain⟨kt,et,h1,h2,h3⟩:=sW T
 obtain⟨⟨h5,h4⟩,_⟩:=o.at_ _ _ _ hq
 unfold Md at hr
 split at hr
 rotate_left
 ·cases hr
 rename_i hg
 cases hr
 simp only [sS,V8,beq_iff_eq] at hg
 refine⟨h.put i (.map (uw (Ac l k v))),?_,js o hq ⟨h5,by rw [cD,if_pos rfl]⟩⟩
 simp only [iu,h1,V3,h2 k hg.1]
 rw [if_neg (by simp [AV.k7])]
 simp only [h4,V3,EJ n k v hg.1 l hg.2,Wa]
theorem Me {es:List (AV × AV)}{kt et:TypeId}(ht:P.underlying t=some (.map kt et))(o:Has h K)(hq:K[q]? = some (i,.mp es)):r9 P h t (.mp i)=some (.int .i64 es.length):=by
 obtain⟨⟨_,h4⟩,_⟩:=o.at_ _ _ _ hq
 simp only [r9,ht,V3,h4]
theorem JN {l:List (List Int × Int)}{kt et:TypeId}(ht:P.underlying t=some (.map kt et))(o:Has h K)(hq:K[q]? = some (i,.mp (uw l))):r9 P h t (.mp i)=some (.int .i64 l.length):=by
 rw [Me ht o hq,uw,WI]
variable {l:List Int}{j:Int}{a:Int}{k:IntKind}{cs:List AV}
def C1 (P:Program)(t:TypeId)(n:Nat):Bool:=match P.underlying t with | some (.array m e)=>m==n&&dY P e==some 1&&dY P t==some n&&(eF P t==some true) | _=>false
theorem pR (T:C1 P t n=true):∃e,P.underlying t=some (.array n e)∧dY P e=some 1∧dY P t=some n∧eF P t=some true:=by
 unfold C1 at T
 split at T
 ·rename_i m e h
  simp only [V8,beq_iff_eq] at T
  obtain⟨⟨⟨h1,h2⟩,h3⟩,h4⟩:=T
  subst h1
  exact⟨e,h,h2,h3,h4⟩
 ·cases T
theorem Hz (o:Has h K)(hc:cs=aa.l l)(hl:l.length≤1024:=by decide):∃i h',yd h cs=some (.ptr i 0,h')∧Has h' ((i,.sl l.length 1 (aa.l l))::K):=by
 subst hc
 refine⟨h.next,h.alloc (.cells (aa.l l)),?_,o.new (fun k hk=>by rw [AHeap.alloc,cD,if_neg (by omega)]) (Xk _) (.inr (V7 _)) (WN _) ⟨⟨cp.cE,cp.oB (by omega)⟩,.inr ⟨by have:=o.pos; omega,[],by rw [AHeap.alloc,cD,if_pos rfl]; simp⟩⟩⟩
 unfold yd
 rw [if_pos]
 have:∀l:List Int,(aa.l l).all AV.cC=true:=fun l=>by
  induction l with
  | nil=>rfl
  | cons a l ih=>rw [cp.dR,List.all_append,ih]; rfl
 exact this l
theorem JO (T:C1 P t n=true)(o:Has h K)(hq:K[q]? = some (i,.sl n 1 (aa.l l)))(hj:ix l j=some a):dZ P t (.ptr i 0) (.int k j)=some (.ptr i (0+j.toNat*1)):=by
 obtain⟨e,h1,h2,_,_⟩:=pR T
 have hn:=dj (E:=aa) o hq
 obtain⟨g1,g2,g3⟩:=gC hj
 simp only [dZ,h1,V3,h2]
 rw [if_pos ⟨g1,by omega⟩]
 rfl
theorem ve (o:Has h K)(hq:K[q]? = some (i,.sl n 1 (aa.l l)))(hn0:n≠0):i≠0∧∃rest,h.get i=some (.cells (aa.l l++rest)):=by
 obtain⟨⟨_,h1⟩,_⟩:=o.at_ _ _ _ hq
 rcases h1 with⟨_,h1⟩| h1
 ·exact absurd h1 hn0
 ·exact h1
theorem wI (T:C1 P t n=true)(o:Has h K)(hq:K[q]? = some (i,.sl n 1 (aa.l l)))(hn0:n≠0:=by decide):bj P h t (.ptr i 0)=some (.agg (aa.l l)):=by
 obtain⟨e,h1,h2,h3,h4⟩:=pR T
 have hn:=dj (E:=aa) o hq
 obtain⟨_,rest,h5⟩:=ve o hq hn0
 simp only [bj,iX,h5,V3,iL,h4,if_true,h3]
 rw [if_pos (by rw [We,iQ]; omega),WK,WD (by rw [iQ]; omega),WH (by rw [iQ]; omega)]
theorem JP {l':List Int}{x:AV}(T:C1 P t n=true)(o:Has h K)(hq:K[q]? = some (i,.sl n 1 (aa.l l)))(hx:x.cells=aa.l l')(hl:l'.length=n)(hn0:n≠0:=by decide):∃h',iO P h t (.ptr i 0) x=some h'∧Has h' (K.set q (i,.sl n 1 (aa.l l'))):=by
 obtain⟨e,h1,h2,h3,h4⟩:=pR T
 have hn:=dj (E:=aa) o hq
 obtain⟨h6,rest,h5⟩:=ve o hq hn0
 have nW:(aa.l l').all AV.cC=true:=by
  clear hx hl
  induction l' with
  | nil=>rfl
  | cons a l ih=>rw [cp.dR,List.all_append,ih]; rfl
 have zO:=(o.at_ _ _ _ hq).1.1.2
 refine⟨h.put i (.cells (aa.l l'++rest)),?_,js o hq ⟨⟨by rw [iQ,hl,XB],by rw [iQ,hl,hn,←iQ]; exact zO⟩,.inr ⟨h6,rest,by rw [cD,if_pos rfl]⟩⟩⟩
 simp only [iO,h5,V3,gy,h3,hx]
 rw [if_pos ⟨by rw [iQ,hl],nW,by rw [We,iQ]; omega⟩,Wa]
 have:=kb (aa.l l) (aa.l l') [] rest (by rw [iQ,iQ]; omega)
 simp only [Wz,WY] at this
 rw [this]
end
end Go.R
