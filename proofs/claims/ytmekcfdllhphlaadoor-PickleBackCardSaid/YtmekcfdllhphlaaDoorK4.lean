/- Part of the proof: RG1, RG2, RG3, RG4, RT, RG5, RG6, RG7, RG8. -/
import Derived.Test.YtmekcfdllhphlaaDoorK3
set_option linter.unusedVariables false
set_option linter.unusedSimpArgs false
set_option maxRecDepth 100000
open BitVec renaming ofInt → XV
open Bool renaming and_eq_true → WR, false_eq_true → W4, or_eq_true → XC, true_and → X2
open Int renaming toNat_natCast → WT
open List renaming getElem?_eq_some_iff → WU, length_set → WW, length_append → WX, drop_eq_getElem_cons → WZ, append_assoc → W3, replicate → W8, length_cons → W9, getElem?_append_right → Xa, map_cons → Xc, all_eq_true → Xd, map_append → Xi, drop_zero → Xl, nil_append → Xm, getElem?_append_left → Xp, take_append_of_le_length → Xq, mem_cons → Xs, take_of_length_le → Xt, length_map → Xu, getElem?_cons_zero → Xv, ext_getElem? → XE, length_nil → XI, all_cons → XK, append_nil → XT, getElem?_cons_succ → XY, getElem?_set → Ya, set_append_right → Yg, length_take → Yk
open Nat renaming le_refl → WQ, zero_add → Xb, lt_of_lt_of_le → Xh, beq → Xx, lt_succ_self → Xy, le_trans → Xz, mul_le_mul_right → XG, add_mul → XW, add_sub_cancel_left → XX, le_succ → X1, eq_of_beq_eq_true → X3, lt_succ_of_lt → X9, mul_one → Yi, sub_self → Yj, min_eq_left → Yn
open Option renaming bind_some → WL, bind_eq_some_iff → WM, map_eq_some_iff → WN, map_some → WS, isSome_none → Yd
open Option.some renaming injEq → WO
open Prod.mk renaming injEq → WV
namespace Go.R
open Go
section
variable (P:Program)
def bk (h:AHeap)(t:TypeId)(x:AV):Option AV:=jg P (fun _=>none) h t x
def iV (h:AHeap)(t:TypeId)(a x:AV):Option AHeap:=
 match a with
 | .ptr id off=>(h.get id).bind fun | .cells cs=>(gI P t cs off x).map fun fI=>h.put id (.cells fI) | _=>none
 | _=>none
def IZ (cf:CallF)(f:AV)(as:List AV)(h:AHeap):Option (AV × AHeap):=
 match f with
 | .fn f cap=>if as.all AV.lz then cf f (as++cap) h else none
 | _=>none
def yu (h:AHeap)(cs:List AV):Option (AV × AHeap):=if cs.all AV.cK then some (.ptr h.next 0,h.alloc (.cells cs)) else none
def C8 (aG:List Nat)(d:Option Nat):Bool:=match d with | some d=>!aG.contains d | none=>false
def EF (aG:List Nat)(h:AHeap)(o:Oper)(t:TypeId)(x:Option AV):Option (AV × AHeap):=
 x.bind fun x=>(nE P aG o t x).map fun (cs,n,z)=>(.rs h.next 0 n z,h.alloc (.cells cs))
def JY (e:Operand→AV)(h:AHeap)(o:Oper)(z:AV):Prop:=
 match o.op with
 | .move x | .assign x=>e x=z
 | .load t a=>bk P h t (e a)=some z
 | .binOp op t x y _=>lU P op t (e x) (e y)=some z
 | .unOp op _ x=>((e x).fD.bind fun a=>(iz P (Op.unary op a)).bind om)=some z
 | .convert a b x=>eS P h a b (e x)=some z
 | .slice t x lo hi mx=>fc P t (e x) (lo.map e) (hi.map e) (mx.map e)=some z
 | .indexAddr t x i=>er P t (e x) (e i)=some z
 | .index t x i=>pN P t (e x) (e i)=some z
 | .lookup t m k ok=>fH P h t (e m) (e k) ok=some z
 | .call {callee:=.builtin .len,args,argTypes}=>match argTypes.toList,args.toList.map e with
  | [t],[x]=>sr P h t x=some z
  | _,_=>False
 | _=>False
def JZ (cf:CallF)(aG:List Nat)(e:Operand→AV)(h:AHeap)(o:Oper)(z:AV)(h':AHeap):Prop:=
 match o.op with
 | .store t a x=>bif o.dst.isSome then False else iV P h t (e a) (e x)=some h'
 | .alloc t=>bif C8 aG o.dst then (jI P t).bind (fun z=>yu h (CI aG o.dst z.cells))=some (z,h') else False
 | .box _ x=>bif C8 aG o.dst then yu h (e x).cells=some (z,h') else False
 | .buildSlice t n ps=>EF P aG h o t (gm P t n (ps.toList.map fun (i,x)=>(i,e x)))=some (z,h')
 | .makeMap _ none=>(AV.mp h.next,h.alloc (.map []))=(z,h')
 | .makeSlice t l c=>gp P h t (e l) (e c)=some (z,h')
 | .mapUpdate t m k x | .insert t m k x=>bif o.dst.isSome then False else iC P h t (e m) (e k) (e x)=some h'
 | .call {callee:=.builtin .append,args,argTypes}=>match argTypes.toList,args.toList.map e with
  | [t,t2],[x,y]=>gJ P h t t2 x y=some (z,h')
  | _,_=>False
 | .call {callee:=.builtin .copy,args,argTypes}=>match argTypes.toList,args.toList.map e with
  | [t,t2],[x,y]=>u3 P h t t2 x y=some (z,h')
  | _,_=>False
 | .call {callee:=.value f,args,..}=>IZ cf (e f) (args.toList.map e) h=some (z,h')
 | _=>False
end
abbrev J0:=List (Nat × AV × Option AHeap)
def sW (P:Program)(cf:CallF)(aG:List Nat)(ops:List Oper):RS→Nat→List Oper→J0→Option (List rZ × RS × Prop)
 | s,_,[],[]=>some ([],s,True)
 | _,_,[],_::_=>none
 | s,i,o::os,zs=>
  (gK ops s.ρ o).bind fun w=>
   bif w then
    match zs with
    | []=>(vX P cf aG (ops.filterMap (·.dst)) s o).bind fun s1=>(sW P cf aG ops s1 (i+1) os []).map fun (l,r,p)=>({o,f:=ba aG (bP s.ρ) o,s,s':=s1}::l,r,p)
    | (j,z,oh)::vl=>
     bif Xx i j then
      match oh with
      | none=>(sW P cf aG ops (s.set o.dst z) (i+1) os vl).map fun (l,r,p)=>({o,f:=ba aG (bP s.ρ) o,s,s':=s.set o.dst z}::l,r,JY P (bP s.ρ) s.h o z∧p)
      | some h'=>(sW P cf aG ops (({s with h:=h'}:RS).set o.dst z) (i+1) os vl).map fun (l,r,p)=>({o,f:=ba aG (bP s.ρ) o,s,s':=({s with h:=h'}:RS).set o.dst z}::l,r,JZ P cf aG (bP s.ρ) s.h o z h'∧p)
     else (vX P cf aG (ops.filterMap (·.dst)) s o).bind fun s1=>(sW P cf aG ops s1 (i+1) os zs).map fun (l,r,p)=>({o,f:=ba aG (bP s.ρ) o,s,s':=s1}::l,r,p)
   else (sW P cf aG ops (s.set o.dst (.tup [])) (i+1) os zs).map fun (l,r,p)=>({o,f:={},s,s':=s.set o.dst (.tup [])}::l,r,p)
section
variable {P:Program}{cf:CallF}{aG:List Nat}
theorem EG {h:AHeap}{t:TypeId}{x z:AV}{bx:Nat→Option (List AV)}(hh:bk P h t x=some z):jg P bx h t x=some z:=by
 cases x<;>first | exact hh | (simp [bk,jg] at hh)
theorem HH {s:RS}{o:Oper}{z:AV}(h:JY P (bP s.ρ) s.h o z)(ds:List Nat):vX P cf aG ds s o=some (s.set o.dst z):=by
 unfold JY at h
 unfold vX zV
 dsimp only
 split at h
 ·rename_i ho; rw [ho]; simp only [h]
 ·rename_i ho; rw [ho]; simp only [h]
 ·rename_i ho; rw [ho]; simp only [EG h,WS]
 ·rename_i ho; rw [ho]; simp only [h,WS]
 ·rename_i ho; rw [ho]; simp only [h,WS]
 ·rename_i ho; rw [ho]; simp only [h,WS]
 ·rename_i ho; rw [ho]; simp only [h,WS]
 ·rename_i ho; rw [ho]; simp only [h,WS]
 ·rename_i ho; rw [ho]; simp only [h,WS]
 ·rename_i ho; rw [ho]; simp only [h,WS]
 ·rename_i ho
  rw [ho]
  split at h
  ·rename_i h1 h2
   simp only [h1,h2,gq,h,WS]
  ·exact h.elim
 ·exact h.elim
theorem yv {s:RS}{o:Oper}{cs:List AV}{z:AV}{h':AHeap}(hn:C8 aG o.dst=true)(h:yu s.h cs=some (z,h'))(ds:List Nat):ia s aG ds o cs=some (({s with h:=h'}:RS).set o.dst z):=by
 unfold yu at h
 split at h
 rotate_left
 ·cases h
 rename_i ou
 simp only [WO,WV] at h
 obtain⟨rfl,rfl⟩:=h
 unfold ia
 rw [if_pos ou]
 unfold C8 at hn
 split at hn
 ·rename_i d hd
  rw [hd]
  have:aG.contains d=false:=by simpa using hn
  simp only [this,W4,if_false]
 ·cases hn
theorem HI {s:RS}{o:Oper}{z:AV}{h':AHeap}(h:JZ P cf aG (bP s.ρ) s.h o z h')(ds:List Nat):vX P cf aG ds s o=some (({s with h:=h'}:RS).set o.dst z):=by
 unfold JZ at h
 unfold vX zV
 dsimp only
 split at h
 ·rename_i t a x ho
  rw [ho]
  cases hd:o.dst with
  | some d=>rw [hd] at h; exact h.elim
  | none=>
   rw [hd] at h
   simp only [Yd,cond_false] at h
   simp only [Yd,W4,if_false]
   unfold iV at h
   split at h
   ·rename_i id off he
    rw [he]
    simp only [WM] at h ⊢
    obtain⟨ob,hob,h⟩:=h
    refine⟨ob,hob,?_⟩
    split at h
    ·rw [WN] at h ⊢
     obtain⟨fI,hcs,rfl⟩:=h
     exact⟨fI,hcs,rfl⟩
    ·cases h
   ·cases h
 ·rename_i t ho
  rw [ho]
  cases hn:C8 aG o.dst with
  | false=>rw [hn] at h; exact h.elim
  | true=>
   rw [hn] at h
   simp only [cond_true,WM] at h
   obtain⟨z0,h1,h2⟩:=h
   simp only [h1,WL]
   exact yv hn h2 ds
 ·rename_i t x ho
  rw [ho]
  cases hn:C8 aG o.dst with
  | false=>rw [hn] at h; exact h.elim
  | true=>
   rw [hn] at h
   exact yv hn h ds
 ·rename_i t n ps ho
  rw [ho]
  unfold EF at h
  simp only [WM,WN] at h
  obtain⟨x,hx,⟨cs,k,q⟩,ht,he⟩:=h
  simp only [WV] at he
  obtain⟨rfl,rfl⟩:=he
  simp only [hx,WS,pP,ht]
 ·rename_i ho
  rw [ho]
  simp only [WV] at h
  obtain⟨rfl,rfl⟩:=h
  rfl
 ·rename_i ho; rw [ho]; simp only [h,WS]
 ·rename_i t m k x ho
  rw [ho]
  cases hd:o.dst with
  | some d=>rw [hd] at h; exact h.elim
  | none=>
   rw [hd] at h
   simp only [Yd,cond_false] at h
   simp only [Yd,W4,if_false,h,WS]
   rfl
 ·rename_i t m k x ho
  rw [ho]
  cases hd:o.dst with
  | some d=>rw [hd] at h; exact h.elim
  | none=>
   rw [hd] at h
   simp only [Yd,cond_false] at h
   simp only [Yd,W4,if_false,h,WS]
   rfl
 ·rename_i ho
  rw [ho]
  split at h
  ·rename_i h1 h2
   simp only [h1,h2,gq,h,WS]
  ·exact h.elim
 ·rename_i ho
  rw [ho]
  split at h
  ·rename_i h1 h2
   simp only [h1,h2,gq,h,WS]
  ·exact h.elim
 ·rename_i f args Bx ho
  rw [ho]
  unfold IZ at h
  split at h
  ·rename_i g cap he
   dsimp only
   rw [he]
   split at h
   ·rename_i ou
    simp only [ou,if_true,h,WS]
   ·cases h
  ·cases h
 ·exact h.elim
theorem BD {ops:List Oper}:∀{l:List Oper} {s r:RS} {i:Nat} {zs:J0} {es:List rZ} {p:Prop},sW P cf aG ops s i l zs=some (es,r,p)→p→pS P cf aG ops s l=some (es,r)∧rz P cf aG ops s l=some r
 | [],s,r,i,[],es,p,h,_=>by
  simp only [sW,WO,WV] at h
  obtain⟨rfl,rfl,rfl⟩:=h
  exact⟨rfl,rfl⟩
 | [],s,r,i,_::_,es,p,h,_=>by simp [sW] at h
 | o::os,s,r,i,zs,es,p,h,hp=>by
  simp only [sW,WM] at h
  obtain⟨w,hw,h⟩:=h
  have fin:∀(s1:RS) (l:List rZ) (vl:J0) (q:Prop),(if w then vX P cf aG (ops.filterMap (·.dst)) s o else some (s.set o.dst (.tup [])))=some s1→sW P cf aG ops s1 (i+1) os vl=some (l,r,q)→q→
    pS P cf aG ops s (o::os)=some ({o,f:=if w then ba aG (bP s.ρ) o else {},s,s':=s1}::l,r)∧rz P cf aG ops s (o::os)=some r:=by
   intro s1 l vl q h1 h2 hq
   obtain⟨h3,h4⟩:=BD h2 hq
   refine⟨?_,?_⟩
   ·simp only [pS,hw,WL,h1,h3,WS]
   ·simp only [rz,lV,hw,WL,h1,h4]
  cases w with
  | false=>
   simp only [cond_false,WN] at h
   obtain⟨⟨l,r',q⟩,h2,he⟩:=h
   simp only [WV] at he
   obtain⟨rfl,rfl,rfl⟩:=he
   simpa using fin _ l zs q (by simp) h2 hp
  | true=>
   simp only [cond_true] at h
   split at h
   ·simp only [WM,WN] at h
    obtain⟨s1,h1,⟨l,r',q⟩,h2,he⟩:=h
    simp only [WV] at he
    obtain⟨rfl,rfl,rfl⟩:=he
    simpa using fin _ l [] q (by simpa using h1) h2 hp
   ·rename_i j z oh vl
    cases hj:Xx i j with
    | false=>
     rw [hj] at h
     simp only [cond_false,WM,WN] at h
     obtain⟨s1,h1,⟨l,r',q⟩,h2,he⟩:=h
     simp only [WV] at he
     obtain⟨rfl,rfl,rfl⟩:=he
     simpa using fin _ l _ q (by simpa using h1) h2 hp
    | true=>
     rw [hj] at h
     simp only [cond_true] at h
     split at h
     ·simp only [WN] at h
      obtain⟨⟨l,r',q⟩,h2,he⟩:=h
      simp only [WV] at he
      obtain⟨rfl,rfl,rfl⟩:=he
      simpa using fin _ l _ q (by simpa using HH hp.1 _) h2 hp.2
     ·simp only [WN] at h
      obtain⟨⟨l,r',q⟩,h2,he⟩:=h
      simp only [WV] at he
      obtain⟨rfl,rfl,rfl⟩:=he
      simpa using fin _ l _ q (by simpa using HI hp.1 _) h2 hp.2
end
def sX (s:RS):List (Nat × Option Nat × Nat)→List (AV × AHeap)→Option (RS × Prop)
 | [],_=>some (s,True)
 | (t,i,k)::ps,zs=>
  match i with
  | none=>
   match k,s.ρ t,zs with
   | 0,.rs id off n z,(y,h')::vl=>(sX {s with h:=h',ρ:=fun u=>bif Xx u t then y else s.ρ u} ps vl).map fun (r,p)=>(r,kx 0 s.h (.rs id off n z)=some (y,h')∧p)
   | k,x,zs=>(kx k s.h x).bind fun (y,h')=>sX {s with h:=h',ρ:=fun u=>bif Xx u t then y else s.ρ u} ps zs
  | some i=>
   match s.bx t with
   | some cs=>(cs[i]?).bind fun x=>
    match k,x,zs with
    | 0,.rs id off n z,(y,h')::vl=>(sX {s with h:=h',bx:=fun u=>bif Xx u t then some (cs.set i y) else s.bx u} ps vl).map fun (r,p)=>(r,kx 0 s.h (.rs id off n z)=some (y,h')∧p)
    | k,x,zs=>(kx k s.h x).bind fun (y,h')=>sX {s with h:=h',bx:=fun u=>bif Xx u t then some (cs.set i y) else s.bx u} ps zs
   | none=>none
theorem wK:∀{ps:List (Nat × Option Nat × Nat)} {s r:RS} {zs:List (AV × AHeap)} {p:Prop},sX s ps zs=some (r,p)→p→kW s ps=some r
 | [],s,r,zs,p,h,_=>by
  simp only [sX,WO,WV] at h
  obtain⟨rfl,rfl⟩:=h
  rfl
 | (t,i,k)::ps,s,r,zs,p,h,hp=>by
  cases i with
  | none=>
   have fin:∀(y:AV) (h':AHeap) (vl:List (AV × AHeap)) (q:Prop),kx k s.h (s.ρ t)=some (y,h')→sX {s with h:=h',ρ:=fun u=>bif Xx u t then y else s.ρ u} ps vl=some (r,q)→q→kW s ((t,none,k)::ps)=some r:=by
    intro y h' vl q h1 h2 hq
    simp only [kW,wa,h1,WS,WL]
    exact wK h2 hq
   simp only [sX] at h
   split at h
   ·rename_i id off n z y h' vl hx
    rw [WN] at h
    obtain⟨⟨r',q⟩,h2,he⟩:=h
    simp only [WV] at he
    obtain⟨rfl,rfl⟩:=he
    exact fin y h' vl q (by rw [hx]; exact hp.1) h2 hp.2
   ·rw [WM] at h
    obtain⟨⟨y,h'⟩,h1,h2⟩:=h
    exact fin y h' _ p h1 h2 hp
  | some i=>
   simp only [sX] at h
   split at h
   rotate_left
   ·cases h
   rename_i cs hcs
   rw [WM] at h
   obtain⟨x,hx,h⟩:=h
   have fin:∀(y:AV) (h':AHeap) (vl:List (AV × AHeap)) (q:Prop),kx k s.h x=some (y,h')→sX {s with h:=h',bx:=fun u=>bif Xx u t then some (cs.set i y) else s.bx u} ps vl=some (r,q)→q→kW s ((t,some i,k)::ps)=some r:=by
    intro y h' vl q h1 h2 hq
    simp only [kW,wa,hcs,hx,WL,h1,WS]
    exact wK h2 hq
   split at h
   ·rename_i id off n z y h' vl
    rw [WN] at h
    obtain⟨⟨r',q⟩,h2,he⟩:=h
    simp only [WV] at he
    obtain⟨rfl,rfl⟩:=he
    exact fin y h' vl q hp.1 h2 hp.2
   ·rw [WM] at h
    obtain⟨⟨y,h'⟩,h1,h2⟩:=h
    exact fin y h' _ p h1 h2 hp
def rZ.sc (x y:rZ):Bool:=
 (match x.f.wb with
  | some k=>!y.f.rb.contains k&&y.f.wb != some k
  | none=>true) &&
 (!x.f.wh||(!y.f.wh&&y.f.rh.isEmpty))
def EH (ops:List Oper)(arr:Array Oper)(s:RS)(es:List rZ):Bool:=
 let ms:=jJ [] ops
 pR arr ms &&
  (let is:=es.zipIdx
   let D8:=is.filter fun (x,_)=>!x.f.quiet
   D8.all (fun (x,i)=>vZ ms (ops.filterMap (·.dst)) s is x i&&D8.all fun (y,j)=>Nat.ble j i||(ms.getD j 0).testBit i||(x.sc y&&y.sc x)))
theorem sY {x y:rZ}(h:x.sc y=true):x.pQ y=true:=by
 unfold rZ.sc at h
 unfold rZ.pQ
 simp only [WR,XC] at h ⊢
 refine⟨h.1,h.2.imp id fun ⟨h1,h2⟩=>⟨h1,?_⟩⟩
 rw [List.isEmpty_iff] at h2
 rw [h2]; rfl
theorem HJ {P:Program}{cf:CallF}{aG:List Nat}{ops:Array Oper}{s r:RS}{es:List rZ}(h:EH ops.toList ops s es=true)(hr:pS P cf aG ops.toList s ops.toList=some (es,r)):kV P cf aG ops s=some r:=by
 unfold EH at h
 simp only [WR] at h
 obtain⟨h1,h2⟩:=h
 unfold kV
 simp only [h1,if_true,hr,WL]
 rw [if_pos]
 rw [Xd] at h2 ⊢
 intro x hx
 have:=h2 x hx
 simp only [WR] at this ⊢
 refine⟨this.1,?_⟩
 have h3:=this.2
 rw [Xd] at h3 ⊢
 intro y hy
 have:=h3 y hy
 simp only [XC,WR] at this ⊢
 exact this.imp id fun h=>⟨sY h.1,sY h.2⟩
def nl (P:Program)(cf:CallF)(A:cg)(c:Code)(fs:List (AV × AHeap))(zs:J0)(st:St):Option (Prop × St):=
 match c with
 | .region id ops draw=>(sX (st.open A) (gr id A.pK) fs).bind fun (s0,p0)=>(sW P cf A.aG ops.toList s0 0 ops.toList zs).bind fun (es,r,p)=>
   bif draw && !(EH ops.toList ops s0 es) then none else (kW r (gr id A.CJ)).map fun r2=>(p0∧p,r2.nc A id)
 | _=>none
theorem EI {P:Program}{cf:CallF}{A:cg}{m:Nat}{c:Code}{fs:List (AV × AHeap)}{zs:J0}{st jA:St}{p:Prop}(h:nl P cf A c fs zs st=some (p,jA))(hp:p):bL P cf A m c st=some (.norm,jA):=by
 unfold nl at h
 split at h
 rotate_left
 ·cases h
 rename_i id ops draw
 simp only [WM] at h
 obtain⟨⟨s0,p0⟩,h0,⟨es,r,q⟩,h1,h⟩:=h
 have hd:∃r2,(draw=true→EH ops.toList ops s0 es=true)∧kW r (gr id A.CJ)=some r2∧p=(p0∧q)∧jA=r2.nc A id:=by
  cases hc:(draw && !(EH ops.toList ops s0 es)) with
  | true=>simp only [hc,cond_true] at h; cases h
  | false=>
   simp only [hc,cond_false,WN,WV] at h
   obtain⟨r2,h2,h3,h4⟩:=h
   refine⟨r2,fun CY=>?_,h2,h3.symm,h4.symm⟩
   simpa [CY] using hc
 obtain⟨r2,CY,h2,rfl,rfl⟩:=hd
 obtain⟨g1,g2⟩:=BD h1 hp.2
 have g0:=wK h0 hp.1
 simp only [bL,g0,WL]
 cases draw with
 | false=>simp only [W4,if_false,g2,WL,h2,WS]
 | true=>simp only [if_true,HJ (CY rfl) g1,WL,h2,WS]
end Go.R
namespace Go.R
open Go
def de (P:Program)(cf:CallF)(A:cg)(m:Nat)(c:Code)(s:St)(Q:Ex→St→Prop):Prop:=∃e s',bL P cf A m c s=some (e,s')∧Q e s'
def J1 (R:St→Prop)(Q:Ex→St→Prop):Ex→St→Prop
 | .norm,s=>R s
 | .exit i,s=>Q (.exit i) s
 | .ret,s=>Q .ret s
def Pp (id:Nat)(Q:Ex→St→Prop):Ex→St→Prop
 | .norm,s=>Q .norm s
 | .exit i,s=>bif Xx i id then Q .norm s else Q (.exit i) s
 | .ret,s=>Q .ret s
section
variable {P:Program}{cf:CallF}{A:cg}{m:Nat}{s:St}{Q:Ex→St→Prop}
theorem oM {a b:Code}(h:de P cf A m a s (J1 (fun s'=>de P cf A m b s' Q) Q)):de P cf A m (.seq a b) s Q:=by
 obtain⟨e,s',h1,h2⟩:=h
 cases e with
 | norm=>
  obtain⟨e2,s2,h3,h4⟩:=h2
  exact⟨e2,s2,by simp only [bL,h1,WL,h3],h4⟩
 | exit i=>exact⟨_,s',by simp only [bL,h1,WL],h2⟩
 | ret=>exact⟨_,s',by simp only [bL,h1,WL],h2⟩
theorem Aq {id:Nat}{a:Code}(h:de P cf A m a s (Pp id Q)):de P cf A m (.block id a) s Q:=by
 obtain⟨e,s',h1,h2⟩:=h
 cases e with
 | norm=>exact⟨_,s',by simp only [bL,h1,WS],h2⟩
 | exit i=>
  simp only [Pp,beq_nat] at h2
  by_cases hi:i=id
  ·simp only [hi,decide_true,cond_true] at h2
   exact⟨_,s',by simp only [bL,h1,WS,hi,if_true],h2⟩
  ·simp only [hi,decide_false,cond_false] at h2
   exact⟨_,s',by simp only [bL,h1,WS,hi,if_false],h2⟩
 | ret=>exact⟨_,s',by simp only [bL,h1,WS],h2⟩
theorem sZ {c:Code}{fs:List (AV × AHeap)}{zs:J0}{jA:St}{p:Prop}(h:nl P cf A c fs zs s=some (p,jA))(hp:p)(hQ:Q .norm jA):de P cf A m c s Q:=
 ⟨_,_,EI h hp,hQ⟩
theorem C9 (h:Q .norm s):de P cf A m .skip s Q:=⟨_,_,rfl,h⟩
theorem yw (h:Q .ret s):de P cf A m .ret s Q:=⟨_,_,rfl,h⟩
theorem Da {i:Nat}(h:Q (.exit i) s):de P cf A m (.exit i) s Q:=⟨_,_,rfl,h⟩
theorem qe {k:Operand}{x y:Code}(b:Bool)(hk:bP (s.open A).ρ k = .bool b)(ht:b=true→de P cf A m x s Q)(hf:b=false→de P cf A m y s Q):de P cf A m (.cond k x y) s Q:=by
 cases b with
 | true=>
  obtain⟨e,s',h1,h2⟩:=ht rfl
  exact⟨e,s',by simp only [bL,hk,sv,WL,if_true,h1],h2⟩
 | false=>
  obtain⟨e,s',h1,h2⟩:=hf rfl
  exact⟨e,s',by simp only [bL,hk,sv,WL,W4,if_false,h1],h2⟩
theorem Ar {c c':Code}(h:c=c')(k:de P cf A m c' s Q):de P cf A m c s Q:=h ▸ k
def EJ {S O:Type}(l:Nat→S→Option O)(Rel:S→St→Prop)(QO:O→Ex→St→Prop)(k:Nat)(out:O):Ex→St→Prop
 | .norm,s=>∃σ,Rel σ s∧l k σ=some out
 | .exit i,s=>QO out (.exit i) s
 | .ret,s=>QO out .ret s
theorem s4 {S O:Type}{l:Nat→S→Option O}{Rel:S→St→Prop}{QO:O→Ex→St→Prop}{body:Code}(h0:∀σ,l 0 σ=none)
  (step:∀k σ s out,Rel σ s→l (k+1) σ=some out→de P cf A m body s (EJ l Rel QO k out)):∀(n:Nat) (σ:S) (s:St) (out:O),Rel σ s→l n σ=some out→∃e s',ky (bL P cf A m body) n s=some (e,s')∧e≠.norm∧QO out e s'
 | 0,σ,s,out,_,h=>by rw [h0] at h; cases h
 | n+1,σ,s,out,hr,h=>by
  obtain⟨e,s',h1,h2⟩:=step n σ s out hr h
  cases e with
  | norm=>
   obtain⟨σ',h3,h4⟩:=h2
   obtain⟨e',UO,h5,h6⟩:=s4 h0 step n σ' s' out h3 h4
   exact⟨e',UO,by simp only [ky,h1,WL,h5],h6⟩
  | exit i=>exact⟨_,s',by simp only [ky,h1,WL],by simp,h2⟩
  | ret=>exact⟨_,s',by simp only [ky,h1,WL],by simp,h2⟩
theorem Db {S O:Type}(l:Nat→S→Option O)(Rel:S→St→Prop)(QO:O→Ex→St→Prop){body:Code}(h0:∀σ,l 0 σ=none)
  (step:∀k σ s out,Rel σ s→l (k+1) σ=some out→de P cf A m body s (EJ l Rel QO k out)) {σ:S} {out:O} (hr:Rel σ s) (h:l m σ=some out) (hQ:∀e s',e≠.norm→QO out e s'→Q e s'):de P cf A m (.loop body) s Q:=by
 obtain⟨e,s',h1,h2,h3⟩:=s4 h0 step m σ s out hr h
 exact⟨e,s',by simp only [bL,h1],hQ e s' h2 h3⟩
theorem wL {aS:FuncId→cg}{f:FuncId}{fn:Func}{args:List AV}{h:AHeap}{R:AV→AHeap→Prop}(hf:P.funcs[f]? = some fn)(hb:fn.body=some (codeOf fn))(hn:Nat.ble args.length fn.ntmps=true)
  (he:de P cf (aS f) m (codeOf fn) ⟨lW (aS f).gg args,(aS f).aG.map fun _=>none,h⟩ (fun e s=>(e = .ret∨e = .norm)∧∃r,aI P (s.open (aS f)) fn.results.toList=some r∧R r s.h)) :
  ∃r h',a7 P aS cf m f args h=some (r,h')∧R r h':=by
 obtain⟨e,s,h1,h2,r,h3,h4⟩:=he
 refine⟨r,s.h,?_,h4⟩
 unfold a7
 rw [hf,WL,hb,WL,if_pos (Nat.le_of_ble_eq_true hn),h1,WL]
 rcases h2 with rfl | rfl<;>simp only [h3,WS]
end
end Go.R
namespace Go.R
open Go
structure cD (α:Type) where
 n:Nat
 f:α→List AV
 len:∀a,(f a).length=n
 pos:n≠0
 small:n≤1024:=by decide
 flat:Bool:=true
 pure:∀a,flat=true→cX (f a)=true∧dv (f a)=f a
 canon:∀a,(f a).map nD=f a
section
variable {α:Type}(E:cD α)
def cD.l (l:List α):List AV:=l.flatMap E.f
def cD.fz (l:List α):AV:=.fz (E.l l) l.length false
variable {E}
theorem cD.dX {a:α}{l:List α}:E.l (a::l)=E.f a++E.l l:=rfl
theorem cD.I0:E.l []=[]:=rfl
theorem cD.kI {a b:List α}:E.l (a++b)=E.l a++E.l b:=by simp [cD.l]
theorem cD.cN:∀{l:List α},(E.l l).length=l.length*E.n
 | []=>by simp [cD.l]
 | a::l=>by rw [cD.dX,WX,E.len,cD.cN,W9,XW,Nat.one_mul,Nat.add_comm]
theorem cD.oN {l:List α}(h:l.length≤1099511627776):(E.l l).length≤1125899906842624:=by
 rw [cD.cN]
 exact Xz (Nat.mul_le_mul h E.small) (by decide)
theorem cD.wM:∀{l:List α} {i:Nat},(E.l l).drop (i*E.n)=E.l (l.drop i)
 | l,0=>by simp
 | [],i+1=>by simp [cD.l]
 | a::l,i+1=>by
  rw [List.drop_succ_cons,←cD.wM,cD.dX,XW,Nat.one_mul,List.drop_append,List.drop_of_length_le (by rw [E.len]; omega),Xm,E.len,Nat.add_sub_cancel]
theorem cD.EK:∀{l:List α} {i:Nat},(E.l l).take (i*E.n)=E.l (l.take i)
 | l,0=>by simp [cD.l]
 | [],i+1=>by simp [cD.l]
 | a::l,i+1=>by
  rw [cD.dX,List.take_succ_cons,cD.dX,XW,Nat.one_mul,Nat.add_comm,List.take_append]
  rw [E.len,Xt (by rw [E.len]; omega),XX,cD.EK]
theorem cD.I1 {l:List α}{i:Nat}{a:α}(h:l[i]? = some a){off:Nat}(ho:off<E.n):(E.l l)[i*E.n+off]? = (E.f a)[off]?:=by
 rw [←List.getElem?_drop,cD.wM,WZ (WU.1 h).1,(WU.1 h).2,cD.dX,Xp (by rw [E.len]; exact ho)]
theorem cD.EL {l:List α}{i:Nat}{a:α}(h:l[i]? = some a):((E.l l).drop (i*E.n)).take E.n=E.f a:=by
 rw [cD.wM,WZ (WU.1 h).1,(WU.1 h).2,cD.dX,Xq (by rw [E.len]; exact WQ _)]
 rw [Xt (by rw [E.len]; exact WQ _)]
theorem cD.As {l:List α}{i:Nat}{a:α}(h:l[i]? = some a):i*E.n+E.n≤(E.l l).length:=by
 rw [cD.cN]
 have:=(WU.1 h).1
 calc i*E.n+E.n=(i+1)*E.n:=by rw [XW,Nat.one_mul]
  _≤_:=XG _ this
theorem oO:∀{a b:List AV},cX (a++b)=(cX a&&cX b)
 | [],b=>by simp [cX]
 | x::a,b=>by simp [cX,oO,Bool.and_assoc]
theorem oQ:∀{a b:List AV},dv (a++b)=dv a++dv b
 | [],b=>rfl
 | x::a,b=>by simp [dv,oQ]
theorem cD.qf (hp:E.flat=true):∀{l:List α},cX (E.l l)=true∧dv (E.l l)=E.l l
 | []=>⟨rfl,rfl⟩
 | a::l=>by
  obtain⟨h1,h2⟩:=E.pure a hp
  obtain⟨h3,h4⟩:=cD.qf hp (l:=l)
  rw [cD.dX,oO,oQ,h1,h2,h3,h4]
  exact⟨rfl,rfl⟩
theorem cD.wN:∀{l:List α},(E.l l).map nD=E.l l
 | []=>rfl
 | a::l=>by rw [cD.dX,Xi,E.canon,cD.wN]
theorem cD.oR {l:List α}(hp:E.flat=true:=by rfl):(E.fz l).dT=true∧(E.fz l).jV=E.fz l:=by
 obtain⟨h1,h2⟩:=cD.qf (E:=E) hp (l:=l)
 exact⟨h1,by show AV.fz (dv (E.l l)) l.length false=_; rw [h2]; rfl⟩
theorem kn:∀(cs vs pre J2:List AV),cs.length=vs.length→dA (pre++cs++J2) pre.length vs=pre++vs++J2
 | [],[],pre,J2,_=>by simp [dA]
 | c::cs,v::vs,pre,J2,h=>by
  have:=kn cs vs (pre++[v]) J2 (by simpa using h)
  simp only [WX,W9,XI,Xb] at this
  rw [dA]
  have h2:(pre++c::cs++J2).set pre.length v=pre++[v]++cs++J2:=by
   rw [W3,Yg _ _ (WQ _),Yj]
   simp
  rw [h2,this]
  simp
 | [],_::_,_,_,h=>by simp at h
 | _::_,[],_,_,h=>by simp at h
theorem cD.EM {l:List α}{i:Nat}{a b:α}(h:l[i]? = some a)(rest:List AV):dA (E.l l++rest) (i*E.n) (E.f b)=E.l (l.set i b)++rest:=by
 have hi:=(WU.1 h).1
 have hl:l=l.take i++a::l.drop (i+1):=by
  conv=>lhs; rw [←List.take_append_drop i l,WZ hi]
  rw [(WU.1 h).2]
 have hs:l.set i b=l.take i++b::l.drop (i+1):=List.set_eq_take_append_cons_drop .. |>.trans (by rw [if_pos hi])
 have e1:E.l l=E.l (l.take i)++E.f a++E.l (l.drop (i+1)):=by
  conv=>lhs; rw [hl]
  rw [cD.kI,cD.dX,W3]
 have e2:(E.l (l.take i)).length=i*E.n:=by rw [cD.cN,Yk,Yn (Nat.le_of_lt hi)]
 rw [hs,cD.kI,cD.dX,e1,←e2]
 have:=kn (E.f a) (E.f b) (E.l (l.take i)) (E.l (l.drop (i+1))++rest) (by rw [E.len,E.len])
 simp only [W3] at this ⊢
 exact this
theorem cD.J3 {l:List α}{i:Nat}{a b:α}{off:Nat}{v:AV}(h:l[i]? = some a)(ho:off<E.n)(hb:(E.f a).set off v=E.f b)(rest:List AV):(E.l l++rest).set (i*E.n+off) v=E.l (l.set i b)++rest:=by
 have hi:=(WU.1 h).1
 have hl:l=l.take i++a::l.drop (i+1):=by
  conv=>lhs; rw [←List.take_append_drop i l,WZ hi]
  rw [(WU.1 h).2]
 have hs:l.set i b=l.take i++b::l.drop (i+1):=List.set_eq_take_append_cons_drop .. |>.trans (by rw [if_pos hi])
 have e1:E.l l=E.l (l.take i)++(E.f a++E.l (l.drop (i+1))):=by
  conv=>lhs; rw [hl]
  rw [cD.kI,cD.dX]
 have e2:(E.l (l.take i)).length=i*E.n:=by rw [cD.cN,Yk,Yn (Nat.le_of_lt hi)]
 rw [hs,cD.kI,cD.dX,e1,←hb,←e2]
 simp only [W3]
 rw [Yg _ _ (by omega),List.set_append_left _ _ (by rw [E.len]; omega)]
 congr 2
 simp
end
def ix {α:Type}(l:List α)(i:Int):Option α:=if 0≤i then l[i.toNat]? else none
theorem gM {α:Type}{l:List α}{i:Int}{a:α}(h:ix l i=some a):0≤i∧i<l.length∧l[i.toNat]? = some a:=by
 unfold ix at h
 split at h
 ·rename_i h0
  have:=(WU.1 h).1
  exact⟨h0,by omega,h⟩
 ·cases h
def upd {α:Type}(l:List α)(i:Int)(a:α):Option (List α):=if 0≤i∧i<l.length then some (l.set i.toNat a) else none
def pL {α:Type}(l:List α)(lo hi:Int):Option (List α):=if 0≤lo∧lo≤hi∧hi≤l.length then some ((l.drop lo.toNat).take (hi.toNat - lo.toNat)) else none
theorem mg {α:Type}{l r:List α}{lo hi:Int}(h:pL l lo hi=some r):0≤lo∧lo≤hi∧hi≤l.length∧r=(l.drop lo.toNat).take (hi.toNat - lo.toNat):=by
 unfold pL at h
 split at h
 ·rename_i h0; cases h; exact⟨h0.1,h0.2.1,h0.2.2,rfl⟩
 ·cases h
def bt (s:ByteArray)(i:Int):Option Int:=if 0≤i then (s.data.toList[i.toNat]?).map fun b=>(b.toNat:Int) else none
inductive Ct where
 | sl (n sz:Nat) (cs:List AV)
 | ob (cs:List AV)
 | mp (es:List (AV × AV))
 | row (e:TypeId) (cs:List AV)
def Dc (h:AHeap)(i:Nat):Ct→Prop
 | .sl n sz cs=>(cs.length=n*sz∧cs.length≤1125899906842624)∧((i=0∧n=0)∨(i≠0∧∃rest,h.get i=some (.cells (cs++rest))))
 | .ob cs=>i≠0∧h.get i=some (.cells cs)
 | .mp es=>i≠0∧h.get i=some (.map es)
 | .row e cs=>i≠0∧h.get i=some (.row e cs)
abbrev Mem:=List (Nat × Ct)
structure Has (h:AHeap)(K:Mem):Prop where
 at_:∀(j i:Nat) (c:Ct),K[j]? = some (i,c)→Dc h i c∧i<h.next
 nd:∀(j j' i:Nat) (c c':Ct),K[j]? = some (i,c)→K[j']? = some (i,c')→i≠0→j=j'
 pos:0<h.next
theorem s5 {h h':AHeap}{i:Nat}{c:Ct}(hg:i≠0→h'.get i=h.get i)(h1:Dc h i c):Dc h' i c:=by
 cases c with
 | sl n sz cs=>
  obtain⟨h2,h3⟩:=h1
  refine⟨h2,h3.imp id fun ⟨h4,r,h5⟩=>⟨h4,r,(hg h4).trans h5⟩⟩
 | ob cs=>exact⟨h1.1,(hg h1.1).trans h1.2⟩
 | mp es=>exact⟨h1.1,(hg h1.1).trans h1.2⟩
 | row e cs=>exact⟨h1.1,(hg h1.1).trans h1.2⟩
theorem cM (h:AHeap)(id k:Nat)(o:AObj):(h.put id o).get k=if k=id then some o else h.get k:=by
 simp only [AHeap.put,beq_nat]
 by_cases hk:k=id<;>simp [hk]
theorem s6 (h:AHeap)(id k:Nat):(h.kill id).get k=if k=id then none else h.get k:=by
 simp only [AHeap.kill,beq_nat]
 by_cases hk:k=id<;>simp [hk]
theorem Has.Dd {h h':AHeap}{K:Mem}(o:Has h K){j i:Nat}{c:Ct}(hj:K[j]? = some (i,c)){i':Nat}{c':Ct}
  (hg:∀k,k≠i→k<h.next→h'.get k=h.get k) (hn:h.next≤h'.next) (hi:i'=i∨i'=0∨h.next≤i') (hlt:i'<h'.next) (hc:Dc h' i' c'):Has h' (K.set j (i',c')):=by
 refine⟨fun q k d hq=>?_,fun q q' k d d' hq ye hk=>?_,Xh o.pos hn⟩
 ·rw [Ya] at hq
  by_cases h1:j=q
  ·subst h1
   rw [if_pos rfl] at hq
   split at hq
   ·cases hq; exact⟨hc,hlt⟩
   ·cases hq
  ·rw [if_neg h1] at hq
   obtain⟨g1,g2⟩:=o.at_ q k d hq
   refine⟨s5 (fun hk=>hg k (fun he=>?_) g2) g1,Xh g2 hn⟩
   subst he
   exact h1 (o.nd j q k c d hj hq hk)
 ·rw [Ya] at hq ye
  have old:∀(q:Nat) (d:Ct),j≠q→K[q]? = some (k,d)→k≠i':=by
   intro x y hne hx he
   rcases hi with h1 | h1 | h1
   ·exact hne (o.nd j x k c y (by rw [he,h1]; exact hj) hx hk)
   ·exact hk (he.trans h1)
   ·have:=(o.at_ x k y hx).2; omega
  by_cases h1:j=q<;>by_cases h2:j=q'
  ·rw [←h1,h2]
  ·subst h1
   rw [if_pos rfl] at hq
   rw [if_neg h2] at ye
   split at hq
   ·cases hq; exact absurd rfl (old q' d' h2 ye)
   ·cases hq
  ·subst h2
   rw [if_pos rfl] at ye
   rw [if_neg h1] at hq
   split at ye
   ·cases ye; exact absurd rfl (old q d h1 hq)
   ·cases ye
  ·rw [if_neg h1] at hq; rw [if_neg h2] at ye
   exact o.nd q q' k d d' hq ye hk
theorem Has.new {h h':AHeap}{K:Mem}(o:Has h K){i:Nat}{c:Ct}(hg:∀k,k<h.next→h'.get k=h.get k)(hn:h.next≤h'.next)(hi:i=0∨h.next≤i)(hlt:i<h'.next)(hc:Dc h' i c):Has h' ((i,c)::K):=by
 refine⟨fun q k d hq=>?_,fun q q' k d d' hq ye hk=>?_,Xh o.pos hn⟩
 ·cases q with
  | zero=>simp only [Xv,WO,WV] at hq; obtain⟨rfl,rfl⟩:=hq; exact⟨hc,hlt⟩
  | succ q=>
   simp only [XY] at hq
   obtain⟨g1,g2⟩:=o.at_ q k d hq
   exact⟨s5 (fun _=>hg k g2) g1,Xh g2 hn⟩
 ·have old:∀(q:Nat) (d:Ct),K[q]? = some (k,d)→k≠i:=by
   intro x y hx he
   rcases hi with h1 | h1
   ·exact hk (he.trans h1)
   ·have:=(o.at_ x k y hx).2; omega
  cases q with
  | zero=>
   simp only [Xv,WO,WV] at hq
   cases q' with
   | zero=>rfl
   | succ q'=>exact absurd hq.1.symm (old q' d' (by simpa using ye))
  | succ q=>
   cases q' with
   | zero=>
    simp only [Xv,WO,WV] at ye
    exact absurd ye.1.symm (old q d (by simpa using hq))
   | succ q'=>rw [o.nd q q' k d d' (by simpa using hq) (by simpa using ye) hk]
theorem Has.nil {h:AHeap}{K:Mem}(o:Has h K)(sz:Nat):Has h ((0,.sl 0 sz [])::K):=
 o.new (fun _ _=>rfl) (WQ _) (.inl rfl) o.pos ⟨⟨by simp,by simp⟩,.inl ⟨rfl,rfl⟩⟩
theorem Has.sub {h:AHeap}{K K':Mem}(o:Has h K)(f:Nat→Nat)(hf:∀j p,K'[j]? = some p→K[f j]? = some p)(hi:∀j j',f j=f j'→j=j'):Has h K':=
 ⟨fun j i c hj=>o.at_ (f j) i c (hf j _ hj),fun j j' i c c' hj JB hk=>hi _ _ (o.nd (f j) (f j') i c c' (hf j _ hj) (hf j' _ JB) hk),o.pos⟩
theorem Has.del {h:AHeap}{K:Mem}(o:Has h K)(q:Nat):Has h (K.eraseIdx q):=
 o.sub (fun j=>if j<q then j else j+1) (fun j p hj=>by
  rw [List.getElem?_eraseIdx] at hj
  split at hj
  ·rename_i h1; simpa [h1] using hj
  ·rename_i h1; simpa [h1] using hj) (fun j j' he=>by
   split at he<;>split at he<;>omega)
theorem Has.front {h:AHeap}{K:Mem}(o:Has h K)(q:Nat){p:Nat × Ct}(hq:K[q]? = some p):Has h (p::K.eraseIdx q):=
 o.sub (fun j=>match j with | 0=>q | j+1=>if j<q then j else j+1) (fun j p' hj=>by
  cases j with
  | zero=>simp only [Xv,WO] at hj; subst hj; exact hq
  | succ j=>
   simp only [XY,List.getElem?_eraseIdx] at hj
   dsimp only
   split at hj
   ·rename_i h1; simpa [h1] using hj
   ·rename_i h1; simpa [h1] using hj) (fun j j' he=>by
   cases j with
   | zero=>cases j' with
    | zero=>rfl
    | succ j'=>dsimp only at he; split at he<;>omega
   | succ j=>cases j' with
    | zero=>dsimp only at he; split at he<;>omega
    | succ j'=>dsimp only at he; split at he<;>split at he<;>omega)
end Go.R
namespace Go.R
open Go
def wO (P:Program)(t:TypeId)(sz b:Nat):Bool:=
 match P.underlying t with
 | some (.slice e)=>match P.info? e with
  | some i=>Xx i.size sz&&Xx i.bytes b&&Jq i
  | none=>false
 | _=>false
section
variable {P:Program}{t:TypeId}{sz b:Nat}
theorem jl (h:wO P t sz b=true):∃e i,P.underlying t=some (.slice e)∧P.info? e=some i∧i.size=sz∧i.bytes=b∧Jq i=true∧ep P e=some sz:=by
 unfold wO at h
 split at h
 ·rename_i e he
  split at h
  ·rename_i i hi
   simp only [WR] at h
   have h1:=X3 h.1.1
   exact⟨e,i,he,hi,h1,X3 h.1.2,h.2,by simp [ep,hi,h1]⟩
  ·cases h
 ·cases h
variable {α:Type}{E:cD α}{h:AHeap}{K:Mem}{l:List α}{a v:α}{i q:Nat}{j:Int}{k:IntKind}{c:AV}{off:Nat}{tf:TypeId}
theorem bo (T:wO P t E.n b=true)(h:ix l j=some a):er P t (E.fz l) (.int k j)=some (.fp (E.l l) (j.toNat*E.n)):=by
 obtain⟨e,inf,h1,h2,h3,h4,h5,h6⟩:=jl T
 obtain⟨g1,g2,g3⟩:=gM h
 have hle:=cD.As (E:=E) g3
 have hp:=E.pos
 simp only [er,h1,WL,h6,cD.fz]
 rw [if_pos ⟨g1,g2,by omega⟩]
theorem Mz (h:l[j.toNat]? = some a):(E.l l).isEmpty=false:=by
 have hle:=cD.As (E:=E) h
 have hp:=E.pos
 cases hl:E.l l with
 | nil=>rw [hl] at hle; simp at hle; omega
 | cons _ _=>rfl
theorem js (hp:AHeap)(ha:eN P tf=some false)(h:ix l j=some a)(hc:(E.f a)[off]? = some c):bk P hp tf (.fp (E.l l) (j.toNat*E.n+off))=some c:=by
 obtain⟨g1,g2,g3⟩:=gM h
 have ho:off<E.n:=by rw [←E.len a]; exact (WU.1 hc).1
 simp only [bk,jg,Mz g3,W4,if_false,iS,ha,WL,cD.I1 g3 ho,hc]
theorem cY (hp:AHeap)(ha:eN P tf=some false)(h:ix l j=some a)(hc:(E.f a)[0]? = some c):bk P hp tf (.fp (E.l l) (j.toNat*E.n))=some c:=js (off:=0) hp ha h hc
theorem cO (hp:AHeap)(ha:eN P tf=some true)(hs:ep P tf=some E.n)(h:ix l j=some a):bk P hp tf (.fp (E.l l) (j.toNat*E.n))=some (.agg (E.f a)):=by
 obtain⟨g1,g2,g3⟩:=gM h
 simp only [bk,jg,Mz g3,W4,if_false,iS,ha,WL,if_true,hs]
 rw [if_pos (cD.As g3),cD.EL g3]
theorem sd (o:Has h K)(hq:K[q]? = some (i,.sl l.length E.n (E.l l)))(hj:l[j.toNat]? = some a):i≠0∧∃rest,h.get i=some (.cells (E.l l++rest)):=by
 obtain⟨⟨_,h1⟩,_⟩:=o.at_ _ _ _ hq
 rcases h1 with⟨_,h1⟩| h1
 ·have:=(WU.1 hj).1; omega
 ·exact h1
theorem J4 (T:wO P t sz b=true){n:Nat}(h0:0≤j)(h1:j<n):er P t (.rs i 0 n sz) (.int k j)=some (.ptr i (0+j.toNat*sz)):=by
 obtain⟨e,inf,g1,g2,g3,g4,g5,g6⟩:=jl T
 simp only [er,g1,WL,g6]
 rw [if_pos ⟨trivial,h0,h1⟩]
theorem vm (o:Has h K)(hq:K[q]? = some (i,.sl l.length E.n (E.l l)))(ha:eN P tf=some false)(hj:ix l j=some a)(hc:(E.f a)[off]? = some c):bk P h tf (.ptr i (0+j.toNat*E.n+off))=some c:=by
 obtain⟨g1,g2,g3⟩:=gM hj
 obtain⟨h1,rest,h2⟩:=sd o hq g3
 have ho:off<E.n:=by rw [←E.len a]; exact (WU.1 hc).1
 have hle:=cD.As (E:=E) g3
 simp only [bk,jg,h2,WL,iS,ha,W4,if_false,Xb]
 rw [Xp (by omega),cD.I1 g3 ho,hc]
theorem De (o:Has h K)(hq:K[q]? = some (i,.sl l.length E.n (E.l l)))(ha:eN P tf=some false)(hj:ix l j=some a)(hc:(E.f a)[0]? = some c):bk P h tf (.ptr i (0+j.toNat*E.n))=some c:=vm (off:=0) o hq ha hj hc
theorem Df (o:Has h K)(hq:K[q]? = some (i,.sl l.length E.n (E.l l)))(ha:eN P tf=some true)(hs:ep P tf=some E.n)(hj:ix l j=some a):bk P h tf (.ptr i (0+j.toNat*E.n))=some (.agg (E.f a)):=by
 obtain⟨g1,g2,g3⟩:=gM hj
 obtain⟨h1,rest,h2⟩:=sd o hq g3
 have hle:=cD.As (E:=E) g3
 simp only [bk,jg,h2,WL,iS,ha,if_true,hs,Xb]
 rw [if_pos (by rw [WX]; omega),List.drop_append_of_le_length (by omega),Xq (by rw [List.length_drop]; omega),cD.EL g3]
theorem jB (o:Has h K){c':Ct}{ct:Ct}(hq:K[q]? = some (i,ct)){ob:AObj}(hc:Dc (h.put i ob) i c'):Has (h.put i ob) (K.set q (i,c')):=
 o.Dd hq (fun k hk _=>by rw [cM,if_neg hk]) (X1 _) (.inl rfl) (X9 (o.at_ _ _ _ hq).2) hc
theorem EN (o:Has h K)(hq:K[q]? = some (i,.sl l.length E.n (E.l l)))(hs:ep P tf=some E.n)(hj:ix l j=some a){x:AV}(hv:x.cells=E.f v)(ou:(E.f v).all AV.cK=true) :
  ∃h',iV P h tf (.ptr i (0+j.toNat*E.n)) x=some h'∧Has h' (K.set q (i,.sl l.length E.n (E.l (l.set j.toNat v)))):=by
 obtain⟨g1,g2,g3⟩:=gM hj
 obtain⟨h1,rest,h2⟩:=sd o hq g3
 have hle:=cD.As (E:=E) g3
 refine⟨_,?_,jB o hq (ob:=.cells (E.l (l.set j.toNat v)++rest)) ⟨⟨by rw [cD.cN,WW],by rw [cD.cN,WW,←cD.cN]; exact (o.at_ _ _ _ hq).1.1.2⟩,.inr ⟨h1,rest,by rw [cM,if_pos rfl]⟩⟩⟩
 simp only [iV,h2,WL,gI,hs,hv,Xb]
 rw [if_pos ⟨E.len v,ou,by rw [WX]; omega⟩,WS,cD.EM g3]
theorem Dg (o:Has h K)(hq:K[q]? = some (i,.sl l.length E.n (E.l l)))(hs:ep P tf=some 1)(hj:ix l j=some a){x:AV}(hx:x.cells=[x])(ou:x.cK=true)(ho:off<E.n)(hb:(E.f a).set off x=E.f v) :
  ∃h',iV P h tf (.ptr i (0+j.toNat*E.n+off)) x=some h'∧Has h' (K.set q (i,.sl l.length E.n (E.l (l.set j.toNat v)))):=by
 obtain⟨g1,g2,g3⟩:=gM hj
 obtain⟨h1,rest,h2⟩:=sd o hq g3
 have hle:=cD.As (E:=E) g3
 refine⟨_,?_,jB o hq (ob:=.cells (E.l (l.set j.toNat v)++rest)) ⟨⟨by rw [cD.cN,WW],by rw [cD.cN,WW,←cD.cN]; exact (o.at_ _ _ _ hq).1.1.2⟩,.inr ⟨h1,rest,by rw [cM,if_pos rfl]⟩⟩⟩
 simp only [iV,h2,WL,gI,hs,hx,Xb]
 rw [if_pos ⟨rfl,by simp [ou],by rw [WX]; omega⟩,WS]
 simp only [dA]
 rw [cD.J3 g3 ho hb]
def app (b:Nat){α:Type}(l l2:List α):Option (List α):=if (l.length+l2.length)*(b+1)≤1099511627776 then some (l++l2) else none
theorem yx {l l2 r:List α}(h:app b l l2=some r):(l.length+l2.length)*b≤gn∧l.length+l2.length≤gn∧r=l++l2:=by
 unfold app at h
 split at h
 ·rename_i h0
  cases h
  rw [Nat.mul_add,Yi] at h0
  refine⟨by simp only [gn]; omega,by simp only [gn]; omega,rfl⟩
 ·cases h
theorem EO {t2:TypeId}{l2 r:List α}{x:AV}(T:wO P t E.n b=true)(o:Has h K)(hq:K[q]? = some (i,.sl l.length E.n (E.l l)))(hx:fm h E.n x=some (E.l l2,l2.length))(ib:jY P t2 x=true)(hr:app b l l2=some r) :
  ∃i' h',gJ P h t t2 (.rs i 0 l.length E.n) x=some (.rs i' 0 r.length E.n,h')∧Has h' (K.set q (i',.sl r.length E.n (E.l r))):=by
 obtain⟨e,inf,g1,g2,g3,g4,g5,g6⟩:=jl T
 obtain⟨r1,r2,rfl⟩:=yx hr
 obtain⟨⟨⟨hlen,Ad⟩,oa⟩,hlt⟩:=o.at_ _ _ _ hq
 have iO:=E.pos
 have hb:inf.size=E.n:=g3
 have jO:¬(inf.size=0∨jY P t2 x=false∨Jq inf=false):=by rw [ib,g5,hb]; simp [iO]
 subst g4
 by_cases h0:l2=[]
 ·subst h0
  refine⟨i,h,?_,?_⟩
  ·simp only [gJ,g1,WL,g2,hb,hx,ib,g5]
   rw [if_neg (by simp [iO])]
   simp only [XI,Nat.zero_mul,Nat.add_zero,XT]
   by_cases hi:i=0
   ·subst hi
    rcases oa with⟨_,hl0⟩| h1
    ·simp [hl0,hb,gn]
    ·exact absurd rfl h1.1
   ·rcases oa with h1 | ⟨_,rest,h1⟩
    ·exact absurd h1.1 hi
    ·rw [if_neg hi,h1]
     simp only [WL]
     rw [if_neg (by rw [WX,hlen]; simp only [XI,Nat.add_zero] at r1 r2; simp; omega)]
     simp
  ·rw [XT]
   have:K.set q (i,.sl l.length E.n (E.l l))=K:=by
    apply XE
    intro j
    rw [Ya]
    by_cases hj:q=j
    ·subst hj; rw [if_pos rfl,if_pos (WU.1 hq).1,hq]
    ·rw [if_neg hj]
   rw [this]; exact o
 ·have Lq:l2.length≠0:=by simpa using h0
  by_cases hi:i=0
  ·subst hi
   rcases oa with⟨_,hl0⟩| h1
   rotate_left
   ·exact absurd rfl h1.1
   have hnil:l=[]:=by simpa using hl0
   subst hnil
   refine⟨h.next,h.alloc (.cells (E.l l2)),?_,?_⟩
   ·simp only [gJ,g1,WL,g2,hb,hx,ib,g5]
    rw [if_neg (by simp [iO])]
    simp only [if_true]
    simp only [XI,Xb] at r1 r2
    rw [if_neg (by simp; omega),if_neg Lq]
    simp
   ·refine o.Dd hq (fun k _ hk=>by rw [AHeap.alloc,cM,if_neg (by omega)]) (X1 _) (.inr (.inr (WQ _))) (Xy _) ⟨⟨cD.cN,cD.oN (by simp only [gn] at r2; simp at r2 ⊢; omega)⟩,.inr ⟨by have:=o.pos; omega,[],?_⟩⟩
    rw [AHeap.alloc,cM,if_pos rfl]; simp
  ·rcases oa with h1 | ⟨_,rest,h1⟩
   ·exact absurd h1.1 hi
   refine⟨h.next,(h.kill i).put h.next (.cells (E.l (l++l2))),?_,?_⟩
   ·simp only [gJ,g1,WL,g2,hb,hx,ib,g5]
    rw [if_neg (by simp [iO]),if_neg hi,h1]
    simp only [WL]
    rw [if_neg (by rw [WX,hlen]; simp; omega),if_neg Lq]
    rw [Xl,Xq (by rw [hlen]; exact WQ _),Xt (by rw [hlen]; exact WQ _),cD.kI,WX]
   ·refine o.Dd hq (fun k hk pW=>by rw [cM,if_neg (by omega),s6,if_neg hk]) (by show h.next≤h.next+1+1; omega) (.inr (.inr (WQ _))) (by show h.next<h.next+1+1; omega) ⟨⟨cD.cN,cD.oN (by simp only [gn] at r2; simp at r2 ⊢; omega)⟩,.inr ⟨by have:=o.pos; omega,[],?_⟩⟩
    rw [cM,if_pos rfl]; simp
theorem EP {l2:List α}(h:AHeap):fm h E.n (E.fz l2)=some (E.l l2,l2.length):=by
 simp only [fm,dI,cD.fz]
 rw [if_pos cD.cN,WS,cD.wN]
theorem yy (o:Has h K)(hq:K[q]? = some (i,.sl l.length E.n (E.l l))):fm h E.n (.rs i 0 l.length E.n)=some (E.l l,l.length):=by
 obtain⟨⟨⟨hlen,Ad⟩,oa⟩,hlt⟩:=o.at_ _ _ _ hq
 simp only [fm,dI]
 rcases oa with⟨h0,h1⟩| ⟨h0,rest,h1⟩
 ·have:l=[]:=by simpa using h1
  subst this
  simp [h0,cD.l]
 ·rw [if_neg h0,h1]
  simp only [WL]
  rw [if_pos ⟨trivial,by rw [WX,hlen]; omega⟩,WS,Xl,Xq (by rw [hlen]; exact WQ _),Xt (by rw [hlen]; exact WQ _),cD.wN]
def uL (b:Nat){α:Type}(n:Int)(z:α):Option (List α):=if 0≤n∧n.toNat*(b+1)≤1099511627776 then some (W8 n.toNat z) else none
theorem nM {n:Int}{z:α}{zv:AV}{r:List α}(T:wO P t E.n b=true)(o:Has h K)(e0:TypeId)(UP:P.underlying t=some (.slice e0))(hz0:jI P e0=some zv)(UQ:zv.cells=E.f z)(ou:(E.f z).all AV.cK=true)(hr:uL b n z=some r) :
  ∃i h',gp P h t (.int .i64 n) (.int .i64 n)=some (.rs i 0 r.length E.n,h')∧Has h' ((i,.sl r.length E.n (E.l r))::K):=by
 have hz:∀e,P.underlying t=some (.slice e)→jI P e=some zv:=fun e he=>by
  rw [UP] at he; cases he; exact hz0
 unfold uL at hr
 split at hr
 rotate_left
 ·cases hr
 rename_i jO
 obtain⟨h0,h1⟩:=jO
 cases hr
 obtain⟨e,inf,g1,g2,g3,g4,g5,g6⟩:=jl T
 have iO:=E.pos
 have Pq:∀k,lA (E.f z) k=E.l (W8 k z):=by
  intro k
  induction k with
  | zero=>rfl
  | succ k ih=>rw [lA,ih,List.replicate_succ,cD.dX]
 refine⟨h.next,h.alloc (.cells (E.l (W8 n.toNat z))),?_,o.new (fun k hk=>by rw [AHeap.alloc,cM,if_neg (by omega)]) (X1 _) (.inr (WQ _)) (Xy _) ⟨⟨cD.cN,cD.oN (by rw [List.length_replicate]; rw [Nat.mul_add,Yi] at h1; omega)⟩,.inr ⟨by have:=o.pos; omega,[],by rw [AHeap.alloc,cM,if_pos rfl]; simp⟩⟩⟩
 rw [Nat.mul_add,Yi] at h1
 simp only [gp,g1,WL,g2,hz e g1,UQ,E.len,Pq,List.length_replicate,g3,g4]
 have hb:n*(b:Int)≤gn:=by
  have:n*(b:Int)=((n.toNat*b:Nat):Int):=by
   rw [Int.natCast_mul,Int.toNat_of_nonneg h0]
  simp only [gn]
  rw [this]
  omega
 rw [if_pos ⟨h0,Int.le_refl _,hb,trivial,iO,by omega,ou⟩]
theorem ER (o:Has h K)(hq:K[q]? = some (i,.sl l.length E.n (E.l l)))(hp:E.flat=true:=by rfl):∃h',kx 0 h (.rs i 0 l.length E.n)=some (E.fz l,h')∧Has h' (K.eraseIdx q):=by
 obtain⟨⟨⟨hlen,Ad⟩,oa⟩,hlt⟩:=o.at_ _ _ _ hq
 rcases oa with⟨h0,h1⟩| ⟨h0,rest,h1⟩
 ·have:l=[]:=by simpa using h1
  subst this
  exact⟨h,by simp [kx,h0,cD.fz,cD.l],o.del q⟩
 ·refine⟨h.kill i,?_,?_⟩
  ·simp only [kx]
   rw [if_neg h0,h1]
   simp only [WL]
   have e1:((E.l l++rest).drop 0).take (l.length*E.n)=E.l l:=by
    rw [Xl,Xq (by rw [hlen]; exact WQ _),Xt (by rw [hlen]; exact WQ _)]
   rw [e1,if_pos ⟨by rw [WX,hlen]; omega,(cD.qf hp).1⟩]
   rfl
  ·have o2:=o.Dd (i':=0) (c':=.sl 0 1 []) (h':=h.kill i) hq (fun k hk _=>by rw [s6,if_neg hk]) (X1 _) (.inr (.inl rfl)) (Nat.succ_pos _) ⟨⟨by simp,by simp⟩,.inl ⟨rfl,rfl⟩⟩
   have:=o2.del q
   rwa [List.eraseIdx_set_eq] at this
variable {n:Nat}
theorem dp (o:Has h K)(hq:K[q]? = some (i,.sl n E.n (E.l l))):n=l.length:=by
 have h1:=(o.at_ _ _ _ hq).1.1.1
 rw [cD.cN] at h1
 exact (Nat.eq_of_mul_eq_mul_right (Nat.pos_of_ne_zero E.pos) h1).symm
theorem aH (T:wO P t E.n b=true)(o:Has h K)(hq:K[q]? = some (i,.sl n E.n (E.l l)))(hj:ix l j=some a):er P t (.rs i 0 n E.n) (.int k j)=some (.ptr i (0+j.toNat*E.n)):=by
 have hn:=dp o hq
 subst hn
 exact J4 T (gM hj).1 (gM hj).2.1
theorem wP (o:Has h K)(hq:K[q]? = some (i,.sl n E.n (E.l l)))(ha:eN P tf=some false)(hj:ix l j=some a)(hc:(E.f a)[off]? = some c):bk P h tf (.ptr i (0+j.toNat*E.n+off))=some c:=by
 have hn:=dp o hq
 subst hn
 exact vm o hq ha hj hc
theorem bg (o:Has h K)(hq:K[q]? = some (i,.sl n E.n (E.l l)))(ha:eN P tf=some false)(hj:ix l j=some a)(hc:(E.f a)[0]? = some c):bk P h tf (.ptr i (0+j.toNat*E.n))=some c:=by
 have hn:=dp o hq
 subst hn
 exact De o hq ha hj hc
theorem HK (o:Has h K)(hq:K[q]? = some (i,.sl n E.n (E.l l)))(ha:eN P tf=some true)(hs:ep P tf=some E.n)(hj:ix l j=some a):bk P h tf (.ptr i (0+j.toNat*E.n))=some (.agg (E.f a)):=by
 have hn:=dp o hq
 subst hn
 exact Df o hq ha hs hj
theorem dJ (o:Has h K)(hq:K[q]? = some (i,.sl n E.n (E.l l)))(hs:ep P tf=some E.n)(hj:ix l j=some a){x:AV}(hv:x.cells=E.f v)(ou:(E.f v).all AV.cK=true) :
  ∃h',iV P h tf (.ptr i (0+j.toNat*E.n)) x=some h'∧Has h' (K.set q (i,.sl n E.n (E.l (l.set j.toNat v)))):=by
 have hn:=dp o hq
 subst hn
 exact EN o hq hs hj hv ou
theorem HL (o:Has h K)(hq:K[q]? = some (i,.sl n E.n (E.l l)))(hs:ep P tf=some 1)(hj:ix l j=some a){x:AV}(hx:x.cells=[x])(ou:x.cK=true)(ho:off<E.n)(hb:(E.f a).set off x=E.f v) :
  ∃h',iV P h tf (.ptr i (0+j.toNat*E.n+off)) x=some h'∧Has h' (K.set q (i,.sl n E.n (E.l (l.set j.toNat v)))):=by
 have hn:=dp o hq
 subst hn
 exact Dg o hq hs hj hx ou ho hb
theorem fY {t2:TypeId}{l2 r:List α}{x:AV}(T:wO P t E.n b=true)(o:Has h K)(hq:K[q]? = some (i,.sl n E.n (E.l l)))(hx:fm h E.n x=some (E.l l2,l2.length))(ib:jY P t2 x=true)(hr:app b l l2=some r) :
  ∃i' h',gJ P h t t2 (.rs i 0 n E.n) x=some (.rs i' 0 r.length E.n,h')∧Has h' (K.set q (i',.sl r.length E.n (E.l r))):=by
 have hn:=dp o hq
 subst hn
 exact EO T o hq hx ib hr
theorem Dh (o:Has h K)(hq:K[q]? = some (i,.sl n E.n (E.l l))):fm h E.n (.rs i 0 n E.n)=some (E.l l,l.length):=by
 have hn:=dp o hq
 subst hn
 exact yy o hq
theorem iW (o:Has h K)(hq:K[q]? = some (i,.sl n E.n (E.l l)))(hp:E.flat=true:=by rfl):∃h',kx 0 h (.rs i 0 n E.n)=some (E.fz l,h')∧Has h' (K.eraseIdx q):=by
 have hn:=dp o hq
 subst hn
 exact ER o hq hp
end
end Go.R
namespace Go.R
open Go
structure ae where
 kind:Int
 int:Int
 label:ByteArray
 args:List Int
structure an where
 nodes:List ae
 root:Int
def eI (k:IntKind):cD Int:={n:=1,f:=fun a=>[.int k a],len:=fun _=>rfl,pos:=by decide,pure:=fun _ _=>⟨rfl,rfl⟩,canon:=fun _=>rfl}
abbrev aa:cD Int:=eI .i64
abbrev au:cD Int:=eI .u8
def cE:cD Bool:={n:=1,f:=fun a=>[.bool a],len:=fun _=>rfl,pos:=by decide,pure:=fun _ _=>⟨rfl,rfl⟩,canon:=fun _=>rfl}
theorem pure_cons {x:AV}{xs:List AV}(h:x.dT=true∧x.jV=x)(k:cX xs=true∧dv xs=xs):cX (x::xs)=true∧dv (x::xs)=x::xs:=
 ⟨by simp [cX,h.1,k.1],by simp [dv,h.2,k.2]⟩
theorem pure_nil:cX []=true∧dv []=[]:=⟨rfl,rfl⟩
theorem s7 {k:IntKind}{n:Int}:(AV.int k n).dT=true∧(AV.int k n).jV = .int k n:=⟨rfl,rfl⟩
theorem ES {s:ByteArray}:(AV.str s).dT=true∧(AV.str s).jV = .str s:=⟨rfl,rfl⟩
def af:cD ae:={n:=4,f:=fun x=>[.int .i64 x.kind,.int .i64 x.int,.str x.label,aa.fz x.args],len:=fun _=>rfl,pos:=by decide,pure:=fun x _=>pure_cons s7 (pure_cons s7 (pure_cons ES (pure_cons cD.oR pure_nil))),canon:=fun _=>rfl}
def aT:cD an:={n:=2,f:=fun x=>[af.fz x.nodes,.int .i64 x.root],len:=fun _=>rfl,pos:=by decide,pure:=fun x _=>pure_cons cD.oR (pure_cons s7 pure_nil),canon:=fun _=>rfl}
end Go.R
namespace Go.R
open Go
theorem HM {b:Bool}(h:b=false):¬b=true:=by rw [h]; decide
section
variable {P:Program}{cf:CallF}{A:cg}{m:Nat}
theorem vn {c:Code}{s:St}{Q R:Ex→St→Prop}(h:de P cf A m c s Q)(k:∀e s',Q e s'→R e s'):de P cf A m c s R:=by
 obtain⟨e,s',h1,h2⟩:=h
 exact⟨e,s',h1,k _ _ h2⟩
theorem aF {c:Code}{s:St}{Q:St→Prop}{R:Ex→St→Prop}(hQ:∀e s',(e = .ret∨e = .norm)∧Q s'→R e s')(h:de P cf A m c s (fun e s'=>(e = .ret∨e = .norm)∧Q s')):de P cf A m c s R:=vn h hQ
end
def jt:Nat:=1125899906842630
def lI (k:Nat)(h:AHeap)(x y:AV):Prop:=∀n,jt+k≤n→cp h n x=some y
def ej (k:Nat)(h:AHeap)(x y:List AV):Prop:=∀n,jt+k≤n→bM h n x=some y
def wQ (h:AHeap)(x y:AV):Prop:=lI 1000 h x y
section
variable {h:AHeap}{α:Type}{E:cD α}{l:List α}{K:Mem}{q i:Nat}
theorem lI.mono {k k':Nat}{x y:AV}(hk:k≤k')(f:lI k h x y):lI k' h x y:=fun n hn=>f n (by omega)
theorem pK {k:Nat}{x y:AV}(f:lI k h x y)(hk:k≤1000:=by decide):wQ h x y:=f.mono hk
theorem la {n:Nat}(h:jt≤n):∃k,n=k+1∧jt≤k+1:=⟨n - 1,by simp only [jt] at h; omega,by omega⟩
theorem mN {x:AV}(h1:x.dT=true)(h2:∀n,cp h (n+1) x=if x.dT then some x.jV else none){y:AV}(h3:x.jV=y):lI 0 h x y:=fun n hn=>by
 obtain⟨k,rfl,_⟩:=la (show jt≤n by omega)
 rw [h2,h1,h3]; rfl
theorem aE {k:IntKind}{n:Int}:lI 0 h (.int k n) (.int k n):=mN rfl (fun _=>rfl) rfl
theorem bK {s:ByteArray}:lI 0 h (.str s) (.str s):=mN rfl (fun _=>rfl) rfl
theorem bS (hp:E.flat=true:=by rfl):lI 0 h (E.fz l) (E.fz l):=mN (cD.oR hp).1 (fun _=>rfl) (cD.oR hp).2
theorem gN:lI 0 h .nils (E.fz []):=mN rfl (fun _=>rfl) rfl
theorem ET {cs:List AV}(h1:(cX cs=true))(h2:dv cs=E.l l){n:Nat}{b:Bool}(h3:n=l.length):lI 0 h (.fz cs n b) (E.fz l):=by
 refine mN (by simpa [AV.dT] using h1) (fun _=>rfl) ?_
 subst h3
 show AV.fz (dv cs) l.length false=_
 rw [h2]; rfl
theorem nn:∀{cs:List AV} {n:Nat},cX cs=true→(∀x∈cs,∀n,cp h (n+1) x=if x.dT then some x.jV else none)→cs.length+1<n→bM h n cs=some (dv cs)
 | [],n,_,_,hn=>by
  obtain⟨k,rfl⟩:∃k,n=k+1:=⟨n - 1,by omega⟩
  rfl
 | x::cs,n,h1,h2,hn=>by
  obtain⟨k,rfl⟩:∃k,n=k+1+1:=⟨n - 2,by simp at hn; omega⟩
  simp only [cX,WR] at h1
  simp only [bM]
  rw [h2 x (by simp) k,h1.1]
  simp only [if_true,WL]
  rw [nn h1.2 (fun y hy=>h2 y (by simp [hy])) (by simp at hn; omega)]
  rfl
def yz:AV→Bool
 | .agg _ | .tup _=>false
 | _=>true
theorem EU {x:AV}(hf:yz x=true)(hn:x.dT=true)(n:Nat):cp h (n+1) x=if x.dT then some x.jV else none:=by
 cases x<;>first | rfl | (simp [AV.dT] at hn; done) | (simp [yz] at hf; done)
theorem HN (o:Has h K)(hq:K[q]? = some (i,.sl l.length E.n (E.l l)))(hf:∀a:α,(E.f a).all yz=true)(hp:E.flat=true:=by rfl):lI 0 h (.rs i 0 l.length E.n) (E.fz l):=fun n hn=>by
 obtain⟨⟨⟨hlen,Ad⟩,oa⟩,hlt⟩:=o.at_ _ _ _ hq
 obtain⟨k,rfl,hk⟩:=la (show jt≤n by omega)
 simp only [cp]
 rcases oa with⟨h0,h1⟩| ⟨h0,rest,h1⟩
 ·have:l=[]:=by simpa using h1
  subst this
  simp [h0,cD.fz,cD.l]
 ·rw [if_neg h0,h1]
  simp only [WL]
  have e1:((E.l l++rest).drop 0).take (l.length*E.n)=E.l l:=by
   rw [Xl,Xq (by rw [hlen]; exact WQ _),Xt (by rw [hlen]; exact WQ _)]
  rw [if_pos (by rw [WX,hlen]; omega),e1,nn (cD.qf hp).1 (fun x hx=>?_) (by simp only [jt] at hk; omega),(cD.qf hp).2]
  ·rfl
  ·have hnx:x.dT=true:=by
    have:∀(cs:List AV),cX cs=true→x∈cs→x.dT=true:=by
     intro cs
     induction cs with
     | nil=>intro _ h; cases h
     | cons y ys ih=>
      intro h hm
      simp only [cX,WR] at h
      rcases Xs.1 hm with rfl | hm
      ·exact h.1
      ·exact ih h.2 hm
    exact this _ (cD.qf hp).1 hx
   have J5:yz x=true:=by
    unfold cD.l at hx
    rw [List.mem_flatMap] at hx
    obtain⟨a,_,ha⟩:=hx
    exact Xd.1 (hf a) x ha
   exact fun n=>EU J5 hnx n
theorem s8 {n:Nat}(o:Has h K)(hq:K[q]? = some (i,.sl n E.n (E.l l)))(hf:∀a:α,(E.f a).all yz=true)(hp:E.flat=true:=by rfl):lI 0 h (.rs i 0 n E.n) (E.fz l):=by
 have hn:=dp o hq
 subst hn
 exact HN o hq hf hp
theorem ax:ej 0 h [] []:=fun n hn=>by
 obtain⟨k,rfl,_⟩:=la (show jt≤n by omega)
 rfl
theorem ab {k1 k2:Nat}{x y:AV}{xs ys:List AV}(f:lI k1 h x y)(g:ej k2 h xs ys):ej (k1+k2+1) h (x::xs) (y::ys):=fun n hn=>by
 obtain⟨k,rfl⟩:∃k,n=k+1:=⟨n - 1,by omega⟩
 simp only [bM]
 rw [f k (by omega),g k (by omega)]
 rfl
theorem bQ {k:Nat}{xs ys:List AV}(f:ej k h xs ys):lI (k+1) h (.agg xs) (.agg ys):=fun n hn=>by
 obtain⟨k,rfl⟩:∃k,n=k+1:=⟨n - 1,by omega⟩
 simp only [cp]
 rw [f k (by omega)]; rfl
theorem fZ {k:Nat}{xs ys:List AV}(f:ej k h xs ys):lI (k+1) h (.tup xs) (.tup ys):=fun n hn=>by
 obtain⟨k,rfl⟩:∃k,n=k+1:=⟨n - 1,by omega⟩
 simp only [cp]
 rw [f k (by omega)]; rfl
end
def hZ (k:IntKind)(x y:Int):Int:=k.wrap ((XV k.bits x &&& XV k.bits y).toNat:Int)
def iX (k:IntKind)(x y:Int):Int:=k.wrap ((XV k.bits x ||| XV k.bits y).toNat:Int)
def lg (k:IntKind)(x y:Int):Int:=k.wrap ((XV k.bits x ^^^ XV k.bits y).toNat:Int)
def gj (k:IntKind)(x:Int)(n:Nat):Int:=x.fdiv (2 ^ (min n k.bits))
section
variable {P:Program}{t:TypeId}{b:Nat}{α:Type}{E:cD α}{h:AHeap}{K:Mem}{l r:List α}{i q:Nat}{j lo hi:Int}{k k':IntKind}
theorem mh {s:ByteArray}{v:Int}(hu:P.underlying t=some .string)(h:bt s j=some v):pN P t (.str s) (.int k j)=some (.int .u8 v):=by
 unfold bt at h
 split at h
 ·rename_i h0
  rw [WN] at h
  obtain⟨b,hb,rfl⟩:=h
  simp only [pN,hu,WL,h0,if_true,hb,WS]
 ·cases h
theorem oS (h:pL l lo hi=some r):(((E.l l).drop (lo.toNat*E.n)).take ((hi.toNat - lo.toNat)*E.n))=E.l r∧r.length=hi.toNat - lo.toNat:=by
 obtain⟨h0,h1,h2,rfl⟩:=mg h
 refine⟨by rw [cD.wM,cD.EK],?_⟩
 rw [Yk,List.length_drop]
 omega
theorem HO (T:wO P t E.n b=true)(h:pL l lo hi=some r):fc P t (E.fz l) (some (.int k lo)) (some (.int k' hi)) none=some (E.fz r):=by
 obtain⟨e,inf,g1,g2,g3,g4,g5,g6⟩:=jl T
 obtain⟨h0,h1,h2,_⟩:=mg h
 obtain⟨h3,h4⟩:=oS (E:=E) h
 simp only [fc,g1,WL,g6,cD.fz,iA]
 rw [if_pos ⟨by omega,h2⟩]
 simp only [WL]
 rw [if_pos ⟨h0,by omega⟩]
 simp only [WL,WS,Bool.false_and]
 rw [h3,←h4]
theorem BE (T:wO P t E.n b=true)(h:pL l 0 hi=some r):fc P t (E.fz l) none (some (.int k' hi)) none=some (E.fz r):=by
 obtain⟨e,inf,g1,g2,g3,g4,g5,g6⟩:=jl T
 obtain⟨h0,h1,h2,_⟩:=mg h
 obtain⟨h3,h4⟩:=oS (E:=E) h
 simp only [fc,g1,WL,g6,cD.fz,iA]
 rw [if_pos ⟨by omega,h2⟩]
 simp only [WL,WS,Bool.false_and]
 simp only [Int.toNat_zero] at h3 h4
 rw [h3,←h4]
theorem wR (T:wO P t E.n b=true)(h:pL l lo (l.length:Int)=some r):fc P t (E.fz l) (some (.int k lo)) none none=some (E.fz r):=by
 obtain⟨e,inf,g1,g2,g3,g4,g5,g6⟩:=jl T
 obtain⟨h0,h1,h2,_⟩:=mg h
 obtain⟨h3,h4⟩:=oS (E:=E) h
 simp only [fc,g1,WL,g6,cD.fz,iA]
 rw [if_pos ⟨h0,by omega⟩]
 simp only [WL,WS,Bool.false_and]
 simp only [WT] at h3 h4
 rw [h3,←h4]
theorem EV (o:Has h K)(hq:K[q]? = some (i,.sl l.length E.n (E.l l)))(T:wO P t E.n b=true)(hs:pL l 0 hi=some r) :
  fc P t (.rs i 0 l.length E.n) none (some (.int k hi)) none=some (.rs i 0 r.length E.n)∧Has h (K.set q (i,.sl r.length E.n (E.l r))):=by
 obtain⟨e,inf,g1,g2,g3,g4,g5,g6⟩:=jl T
 obtain⟨h0,h1,h2,hr⟩:=mg hs
 obtain⟨h3,h4⟩:=oS (E:=E) hs
 simp only [Int.toNat_zero,Nat.sub_zero] at h4 hr
 have Am:r=l.take hi.toNat:=by rw [hr]; simp
 refine⟨?_,?_⟩
 ·simp only [fc,g1,WL,g6,if_true,iA]
  rw [if_pos ⟨by omega,h2⟩]
  simp only [WL,WS,Nat.zero_mul,Nat.add_zero,Nat.sub_zero,h4]
 ·obtain⟨⟨⟨hlen,Ad⟩,oa⟩,hlt⟩:=o.at_ _ _ _ hq
  refine o.Dd hq (fun _ _ _=>rfl) (WQ _) (.inl rfl) hlt ⟨⟨cD.cN,?_⟩,?_⟩
  ·rw [cD.cN]
   refine Xz (XG _ ?_) (hlen ▸ Ad)
   rw [h4]; omega
  ·rcases oa with⟨h5,h6⟩| ⟨h5,rest,h6⟩
   ·left; exact⟨h5,by rw [h4]; omega⟩
   ·right
    refine⟨h5,E.l (l.drop hi.toNat)++rest,?_⟩
    rw [h6,Am,←W3,←cD.kI,List.take_append_drop]
theorem J6 {n:Nat}(o:Has h K)(hq:K[q]? = some (i,.sl n E.n (E.l l)))(T:wO P t E.n b=true)(hs:pL l 0 hi=some r) :
  fc P t (.rs i 0 n E.n) none (some (.int k hi)) none=some (.rs i 0 r.length E.n)∧Has h (K.set q (i,.sl r.length E.n (E.l r))):=by
 have hn:=dp o hq
 subst hn
 exact EV o hq T hs
end
theorem ak {P:Program}{cf:CallF}{m:Nat}{aS:FuncId→cg}{f:FuncId}{fn:Func}{A:cg}(ha:aS f=A){args:List AV}{h:AHeap}{R:AV→AHeap→Prop}(hf:P.funcs[f]? = some fn)(hb:fn.body=some (codeOf fn))(hn:Nat.ble args.length fn.ntmps=true)
  (he:de P cf A m (codeOf fn) ⟨lW A.gg args,A.aG.map fun _=>none,h⟩ (fun e s=>(e = .ret∨e = .norm)∧∃r,aI P (s.open A) fn.results.toList=some r∧R r s.h)) :
  ∃r h',a7 P aS cf m f args h=some (r,h')∧R r h':=by
 subst ha
 exact wL hf hb hn he
def EW (a b:ByteArray):Bool:=Op.bytesLess a.data.toList b.data.toList||a.data.toList==b.data.toList
end Go.R
namespace Go.R
open Go
mutual
theorem wS {h:AHeap}:∀(n:Nat) (x y:AV),x.dT=true→cp h n x=some y→y=x.jV
 | 0,x,y,_,h=>by simp [cp] at h
 | n+1,x,y,hn,h=>by
  cases x with
  | agg cs=>
   simp only [cp,WN] at h
   obtain⟨fI,hcs,rfl⟩:=h
   rw [iG n cs fI (by simpa [AV.dT] using hn) hcs]; rfl
  | tup cs=>
   simp only [cp,WN] at h
   obtain⟨fI,hcs,rfl⟩:=h
   rw [iG n cs fI (by simpa [AV.dT] using hn) hcs]; rfl
  | ptr _ _=>simp [AV.dT] at hn
  | rs _ _ _ _=>simp [AV.dT] at hn
  | _=>simp only [cp,hn,if_true,WO] at h; exact h.symm
theorem iG {h:AHeap}:∀(n:Nat) (xs ys:List AV),cX xs=true→bM h n xs=some ys→ys=dv xs
 | 0,xs,ys,_,h=>by simp [bM] at h
 | n+1,[],ys,_,h=>by simp only [bM,WO] at h; exact h.symm
 | n+1,x::xs,ys,hn,h=>by
  simp only [cX,WR] at hn
  simp only [bM,WM,WN] at h
  obtain⟨y,hy,zs,hz,rfl⟩:=h
  rw [wS n x y hn.1 hy,iG n xs zs hn.2 hz]; rfl
end
mutual
theorem vo {h:AHeap}:∀(n:Nat) (x y:AV),fJ h n x=some y→cp h n x=some y
 | 0,x,y,h=>by simp [fJ] at h
 | n+1,x,y,h=>by
  unfold fJ at h
  split at h
  ·exact h
  ·exact h
  ·exact h
  ·exact h
  ·exact h
  ·exact h
  ·exact h
  ·exact h
  ·rename_i id off len jr
   simp only [cp]
   split at h
   ·rename_i h0; rw [if_pos h0]; exact h
   ·rename_i h0
    rw [if_neg h0]
    rw [WM] at h ⊢
    obtain⟨ob,ho,h⟩:=h
    refine⟨ob,ho,?_⟩
    cases ob with
    | map es=>cases h
    | row t cs=>cases h
    | cells cs=>
     simp only at h ⊢
     split at h
     ·rename_i hle
      rw [if_pos hle]
      rw [WN] at h ⊢
      obtain⟨fI,hcs,h2⟩:=h
      exact⟨fI,ka n _ _ hcs,h2⟩
     ·cases h
  ·simp only [cp]
   rw [WN] at h ⊢
   obtain⟨fI,hcs,h2⟩:=h
   exact⟨fI,ka n _ _ hcs,h2⟩
  ·simp only [cp]
   rw [WN] at h ⊢
   obtain⟨fI,hcs,h2⟩:=h
   exact⟨fI,ka n _ _ hcs,h2⟩
  ·cases h
theorem ka {h:AHeap}:∀(n:Nat) (xs ys:List AV),dd h n xs=some ys→bM h n xs=some ys
 | 0,xs,ys,h=>by simp [dd] at h
 | n+1,[],ys,h=>h
 | n+1,x::xs,ys,h=>by
  simp only [dd,bM,WM,WN] at h ⊢
  obtain⟨y,hy,zs,hz,h2⟩:=h
  exact⟨y,vo n x y hy,zs,ka n xs zs hz,h2⟩
end
def yA (k:Nat)(h:AHeap)(x y:AV):Prop:=∀n,jt+k≤n→fJ h n x=some y
def HP (k:Nat)(h:AHeap)(x y:List AV):Prop:=∀n,jt+k≤n→dd h n x=some y
def fB (h:AHeap)(x y:AV):Prop:=yA 1000 h x y
section
variable {h:AHeap}{α:Type}{E:cD α}{l:List α}{K:Mem}{q i:Nat}
theorem fB.pK {x y:AV}(f:fB h x y):wQ h x y:=fun n hn=>vo _ _ _ (f n hn)
theorem bX {k:Nat}{x y:AV}(f:yA k h x y)(hk:k≤1000:=by decide):fB h x y:=fun n hn=>f n (by omega)
theorem BF {x y:AV}(h2:∀n,fJ h (n+1) x=some y):yA 0 h x y:=fun n hn=>by
 obtain⟨k,rfl,_⟩:=la (show jt≤n by omega)
 exact h2 k
theorem eu {k:IntKind}{n:Int}:yA 0 h (.int k n) (.int k n):=BF fun _=>rfl
theorem aj {b:Bool}:yA 0 h (.bool b) (.bool b):=BF fun _=>rfl
def EX:AV→Bool
 | .int _ _ | .bool _ | .str _=>true
 | _=>false
theorem mi:∀{cs:List AV} {n:Nat},cs.all EX=true→cs.length+1<n→dd h n cs=some cs
 | [],n,_,hn=>by
  obtain⟨k,rfl⟩:∃k,n=k+1:=⟨n - 1,by omega⟩
  rfl
 | x::cs,n,h1,hn=>by
  obtain⟨k,rfl⟩:∃k,n=k+1+1:=⟨n - 2,by simp at hn; omega⟩
  simp only [XK,WR] at h1
  simp only [dd]
  have:fJ h (k+1) x=some x:=by cases x<;>first | rfl | (simp [EX] at h1)
  rw [this,WL,mi h1.2 (by simp at hn; omega)]
  rfl
theorem yB {n:Nat}(o:Has h K)(hq:K[q]? = some (i,.sl n E.n (E.l l)))(hf:∀a:α,(E.f a).all EX=true):yA 0 h (.rs i 0 n E.n) (E.fz l):=fun m hm=>by
 have hn:=dp o hq
 subst hn
 obtain⟨⟨⟨hlen,Ad⟩,oa⟩,hlt⟩:=o.at_ _ _ _ hq
 obtain⟨k,rfl,hk⟩:=la (show jt≤m by omega)
 simp only [fJ]
 rcases oa with⟨h0,h1⟩| ⟨h0,rest,h1⟩
 ·have:l=[]:=by simpa using h1
  subst this
  simp [h0,cD.fz,cD.l]
 ·rw [if_neg h0,h1]
  simp only [WL]
  have e1:((E.l l++rest).drop 0).take (l.length*E.n)=E.l l:=by
   rw [Xl,Xq (by rw [hlen]; exact WQ _),Xt (by rw [hlen]; exact WQ _)]
  rw [if_pos (by rw [WX,hlen]; omega),e1,mi ?_ (by simp only [jt] at hk; omega)]
  ·rfl
  ·rw [Xd]
   intro x hx
   unfold cD.l at hx
   rw [List.mem_flatMap] at hx
   obtain⟨a,_,ha⟩:=hx
   exact Xd.1 (hf a) x ha
theorem At:HP 0 h [] []:=fun n hn=>by
 obtain⟨k,rfl,_⟩:=la (show jt≤n by omega)
 rfl
theorem mO {k1 k2:Nat}{x y:AV}{xs ys:List AV}(f:yA k1 h x y)(g:HP k2 h xs ys):HP (k1+k2+1) h (x::xs) (y::ys):=fun n hn=>by
 obtain⟨k,rfl⟩:∃k,n=k+1:=⟨n - 1,by omega⟩
 simp only [dd]
 rw [f k (by omega),g k (by omega)]
 rfl
theorem Au {k:Nat}{xs ys:List AV}(f:HP k h xs ys):yA (k+1) h (.tup xs) (.tup ys):=fun n hn=>by
 obtain⟨k,rfl⟩:∃k,n=k+1:=⟨n - 1,by omega⟩
 simp only [fJ]
 rw [f k (by omega)]; rfl
def eL:Nat:=4503599627370496
theorem ga {k:Nat}{xs ys:List AV}(f:ej k h xs ys)(hk:k≤eL:=by decide):ej eL h xs ys:=fun n hn=>f n (by omega)
def vp (x y:AV):Prop:=x.dT=true∧x.jV=y
def lD (xs ys:List AV):Prop:=cX xs=true∧dv xs=ys
theorem bD {k:IntKind}{n:Int}:vp (.int k n) (.int k n):=⟨rfl,rfl⟩
theorem wT {s:ByteArray}:vp (.str s) (.str s):=⟨rfl,rfl⟩
theorem gy (hp:E.flat=true:=by rfl):vp (E.fz l) (E.fz l):=cD.oR hp
theorem fe:lD [] []:=⟨rfl,rfl⟩
theorem b5 {x y:AV}{xs ys:List AV}(a:vp x y)(b:lD xs ys):lD (x::xs) (y::ys):=⟨by simp [cX,a.1,b.1],by simp [dv,a.2,b.2]⟩
theorem lh {xs ys:List AV}(a:lD xs ys):vp (.agg xs) (.agg ys):=⟨by simpa [AV.dT] using a.1,by show AV.agg (dv xs)=_; rw [a.2]⟩
end
end Go.R
namespace Go.R
open Go
def I2 (k:IntKind)(x:Int):Int:=lg k (if k.signed then -1 else k.max) x
def dh (l:List Int):ByteArray:=⟨(l.map fun n=>UInt8.ofNat n.toNat).toArray⟩
def eU (s:ByteArray):List Int:=s.data.toList.map fun b=>(b.toNat:Int)
section
variable {P:Program}{h:AHeap}{K:Mem}{i q:Nat}{cs fI:List AV}{x z:AV}{t:TypeId}{off:Nat}
theorem ko (o:Has h K)(ou:cs.all AV.cK=true):∃i h',yu h cs=some (.ptr i 0,h')∧Has h' ((i,.ob cs)::K):=by
 refine⟨h.next,h.alloc (.cells cs),by unfold yu; rw [if_pos ou],o.new (fun k hk=>by rw [AHeap.alloc,cM,if_neg (by omega)]) (X1 _) (.inr (WQ _)) (Xy _) ⟨by have:=o.pos; omega,by rw [AHeap.alloc,cM,if_pos rfl]⟩⟩
theorem cn (o:Has h K)(hq:K[q]? = some (i,.ob cs))(hr:iS P t cs off=some z):bk P h t (.ptr i off)=some z:=by
 obtain⟨⟨h1,h2⟩,_⟩:=o.at_ _ _ _ hq
 simp only [bk,jg,h2,WL,hr]
theorem kJ (o:Has h K)(hq:K[q]? = some (i,.ob cs))(hw:gI P t cs off x=some fI):∃h',iV P h t (.ptr i off) x=some h'∧Has h' (K.set q (i,.ob fI)):=by
 obtain⟨⟨h1,h2⟩,_⟩:=o.at_ _ _ _ hq
 exact⟨h.put i (.cells fI),by simp only [iV,h2,WL,hw,WS],jB o hq ⟨h1,by rw [cM,if_pos rfl]⟩⟩
theorem BG:∀(l:List Int),G5 (au.l l)=some (l.map fun n=>UInt8.ofNat n.toNat)
 | []=>rfl
 | a::l=>by
  have:=BG l
  show (G5 (au.l l)).map _=_
  rw [this]; rfl
theorem nN {a b e:TypeId}{l:List Int}{h:AHeap}{x:AV}(ha:P.underlying a=some (.slice e))(hb:P.underlying b=some .string)(hu:CH P e=true)(hc:∃n,dI h 1 x=some (au.l l,n)):eS P h a b x=some (.str (dh l)):=by
 obtain⟨n,hc⟩:=hc
 simp only [eS,ha,hb,hu,if_true,hc,WL,BG,WS,dh]
theorem s9 {l:List Int}(h:AHeap):∃n,dI h 1 (au.fz l)=some (au.l l,n):=by
 refine⟨l.length,?_⟩
 simp only [dI,cD.fz]
 rw [if_pos (by rw [cD.cN]; rfl)]
end
theorem aO {x y:AV}(h:vp x y):ay x=y:=by
 unfold ay
 rw [h.1,h.2]; rfl
theorem bj:([]:List AV).map ay=[]:=rfl
theorem ao {x y:AV}{xs ys:List AV}(a:ay x=y)(b:xs.map ay=ys):(x::xs).map ay=y::ys:=by
 rw [Xc,a,b]
theorem J7 {α:Type}{K L:List α}{q:Nat}{p:α}(h:L[q]? = some p):(K++L)[K.length+q]? = some p:=by
 rw [Xa (by omega),XX,h]
def Di (k:IntKind)(x y:Int):Option Int:=if y<0 then none else some (k.wrap (x*2 ^ (min y.toNat k.bits)))
theorem EY {P:Program}{t:TypeId}{k k':IntKind}{x y v:Int}(h:Di k x y=some v):lU P .shl t (.int k x) (.int k' y)=some (.int k v):=by
 unfold Di at h
 split at h
 ·cases h
 ·rename_i hy
  cases h
  simp only [lU,AV.fD,WL,Go.binOp,Op.shift,hy,if_false]
  rfl
theorem HQ {α:Type}{E:cD α}{h:AHeap}{K:Mem}{l:List α}{cs:List AV}(o:Has h K)(hc:cs=E.l l)(hl:l.length≤1024:=by simp) :
  ∃i h',some (AV.rs h.next 0 l.length E.n,h.alloc (.cells cs))=some (AV.rs i 0 l.length E.n,h')∧Has h' ((i,.sl l.length E.n (E.l l))::K):=by
 subst hc
 exact⟨h.next,_,rfl,o.new (fun k hk=>by rw [AHeap.alloc,cM,if_neg (by omega)]) (X1 _) (.inr (WQ _)) (Xy _) ⟨⟨cD.cN,cD.oN (by omega)⟩,.inr ⟨by have:=o.pos; omega,[],by rw [AHeap.alloc,cM,if_pos rfl]; simp⟩⟩⟩
end Go.R
namespace Go.R
open Go
def mn (x y:Int):Int:=if y<x then y else x
def mx (x y:Int):Int:=if y > x then y else x
def yC (l:List (Int × Int))(k:Int):Int × Bool:=
 match l with
 | []=>(0,false)
 | (a,b)::l=>if k=a then (b,true) else yC l k
def EZ (l:List (Int × Int))(k v:Int):List (Int × Int):=
 match l with
 | []=>[(k,v)]
 | (a,b)::l=>if k=a then (k,v)::l else (a,b)::EZ l k v
def ta (n:Nat)(l:List (List Int × Int))(k:List Int):Bool:=k.length==n&&l.all fun p=>p.1.length==n
def tc (l:List (List Int × Int))(k:List Int):Int × Bool:=
 match l with
 | []=>(0,false)
 | (a,b)::l=>if k=a then (b,true) else tc l k
def HR (n:Nat)(l:List (List Int × Int))(k:List Int):Option (Int × Bool):=if ta n l k=true then some (tc l k) else none
def Av (l:List (List Int × Int))(k:List Int)(v:Int):List (List Int × Int):=
 match l with
 | []=>[(k,v)]
 | (a,b)::l=>if k=a then (k,v)::l else (a,b)::Av l k v
def MA (n:Nat)(l:List (List Int × Int))(k:List Int)(v:Int):Option (List (List Int × Int)):=if ta n l k=true then some (Av l k v) else none
def te (l:List (Int × Int)):List (AV × AV):=l.map fun p=>(.int .i64 p.1,.int .i64 p.2)
def uM (l:List (List Int × Int)):List (AV × AV):=l.map fun p=>(.agg (aa.l p.1),.int .i64 p.2)
theorem BH (k:Int):∀l:List (Int × Int),iB (.int .i64 k) (te l)=some (if (yC l k).2=true then some (.int .i64 (yC l k).1) else none)
 | []=>rfl
 | (a,b)::l=>by
  simp only [te,Xc,iB,sameShape,fT,iT,yC]
  have ih:=BH k l
  simp only [te] at ih
  by_cases h:k=a
  ·subst h; simp
  ·simp [h,ih]
theorem E0 (k v:Int):∀l:List (Int × Int),vW (.int .i64 k) (.int .i64 v) (te l)=some (te (EZ l k v))
 | []=>rfl
 | (a,b)::l=>by
  have ih:=E0 k v l
  simp only [te,Xc,vW,sameShape,fT,iT,EZ] at ih ⊢
  by_cases h:k=a
  ·subst h; simp
  ·simp [h,ih]
theorem Aw (l:List Int):(aa.l l).all jZ=true:=by
 induction l with
 | nil=>rfl
 | cons a l ih=>rw [cD.dX,List.all_append,ih]; rfl
theorem iY (l:List Int):(aa.l l).length=l.length:=by rw [cD.cN]; exact Yi _
theorem nO:∀a b:List Int,lT (aa.l a) (aa.l b)=decide (a=b)
 | [],[]=>rfl
 | [],b::l=>by simp [cD.dX,cD.I0,eI,lT]
 | a::l,[]=>by simp [cD.dX,cD.I0,eI,lT]
 | a::l,b::l'=>by
  have ih:=nO l l'
  rw [cD.dX,cD.dX]
  show (iT (.int .i64 a) (.int .i64 b)&&lT (aa.l l) (aa.l l'))=_
  rw [ih]
  simp only [iT]
  by_cases h1:a=b<;>by_cases h2:l=l'<;>simp [h1,h2]
theorem BI (n:Nat)(k:List Int)(hk:k.length=n):∀l:List (List Int × Int),(l.all fun p=>p.1.length==n)=true→iB (.agg (aa.l k)) (uM l)=some (if (tc l k).2=true then some (.int .i64 (tc l k).1) else none)
 | [],_=>rfl
 | (a,b)::l,h=>by
  simp only [XK,WR,beq_iff_eq] at h
  have ih:=BI n k hk l h.2
  simp only [uM,Xc,iB,sameShape,fT,tc,Aw,iY,hk,h.1,nO,beq_self_eq_true,X2,if_true] at ih ⊢
  by_cases HS:k=a
  ·subst HS; simp
  ·simp [HS,ih]
theorem E1 (n:Nat)(k:List Int)(v:Int)(hk:k.length=n):∀l:List (List Int × Int),(l.all fun p=>p.1.length==n)=true→vW (.agg (aa.l k)) (.int .i64 v) (uM l)=some (uM (Av l k v))
 | [],_=>rfl
 | (a,b)::l,h=>by
  simp only [XK,WR,beq_iff_eq] at h
  have ih:=E1 n k v hk l h.2
  simp only [uM,Xc,vW,sameShape,fT,Av,Aw,iY,hk,h.1,nO,beq_self_eq_true,X2,if_true] at ih ⊢
  by_cases HS:k=a
  ·subst HS; simp
  ·simp [HS,ih]
def yD (P:Program)(t:TypeId):Bool:=
 match P.underlying t with
 | some (.map kt et)=>(P.underlying kt matches some (.int .i64))&&(match jI P et with | some (.int .i64 n)=>n==0 | _=>false)
 | _=>false
def yE (P:Program)(t:TypeId)(n:Nat):Bool:=
 match P.underlying t with
 | some (.map kt et)=>(match P.underlying kt with | some (.array m e)=>m==n&&(P.underlying e matches some (.int .i64))&&ep P e==some 1 | _=>false)&&(match jI P et with | some (.int .i64 n)=>n==0 | _=>false)
 | _=>false
section
variable {P:Program}{h:AHeap}{K:Mem}{i q:Nat}{t:TypeId}{n:Nat}
theorem tg (T:yD P t=true):∃kt et,P.underlying t=some (.map kt et)∧(∀k,fU P kt (.int .i64 k)=true)∧jI P et=some (.int .i64 0):=by
 unfold yD at T
 split at T
 ·rename_i kt et ht
  simp only [WR] at T
  obtain⟨h1,h2⟩:=T
  refine⟨kt,et,ht,fun k=>?_,?_⟩
  ·revert h1
   split
   ·rename_i hk; intro _; simp [fU,hk]
   ·intro h; cases h
  ·split at h2
   ·rename_i z hz; simp only [beq_iff_eq] at h2; subst h2; exact hz
   ·cases h2
 ·cases T
theorem th (T:yE P t n=true):∃kt et,P.underlying t=some (.map kt et)∧(∀k:List Int,k.length=n→fU P kt (.agg (aa.l k))=true)∧jI P et=some (.int .i64 0):=by
 unfold yE at T
 split at T
 ·rename_i kt et ht
  simp only [WR] at T
  obtain⟨h1,h2⟩:=T
  refine⟨kt,et,ht,fun k hk=>?_,?_⟩
  ·split at h1
   ·rename_i m e pW
    simp only [WR,beq_iff_eq] at h1
    obtain⟨⟨h3,h4⟩,h5⟩:=h1
    subst h3
    simp only [fU,pW,iY,hk,Aw,h5,beq_self_eq_true,X2,Bool.and_true]
    exact h4
   ·cases h1
  ·split at h2
   ·rename_i z hz; simp only [beq_iff_eq] at h2; subst h2; exact hz
   ·cases h2
 ·cases T
theorem E2 (o:Has h K):∃i h',(AV.mp h.next,h.alloc (.map []))=(AV.mp i,h')∧Has h' ((i,.mp [])::K):=
 ⟨h.next,_,rfl,o.new (fun k hk=>by rw [AHeap.alloc,cM,if_neg (by omega)]) (X1 _) (.inr (WQ _)) (Xy _) ⟨by have:=o.pos; omega,by rw [AHeap.alloc,cM,if_pos rfl]⟩⟩
theorem Pt {l:List (Int × Int)}{k:Int}(T:yD P t=true)(o:Has h K)(hq:K[q]? = some (i,.mp (te l))):fH P h t (.mp i) (.int .i64 k) true=some (.tup [.int .i64 (yC l k).1,.bool (yC l k).2])∧fH P h t (.mp i) (.int .i64 k) false=some (.int .i64 (yC l k).1):=by
 obtain⟨kt,et,h1,h2,h3⟩:=tg T
 obtain⟨⟨_,h4⟩,_⟩:=o.at_ _ _ _ hq
 have hz:(yC l k).2=false→(yC l k).1=0:=by
  clear hq h4
  induction l with
  | nil=>intro _; rfl
  | cons p l ih=>
   obtain⟨a,b⟩:=p
   simp only [yC]
   split
   ·intro h; cases h
   ·exact ih
 simp only [fH,h1,WL,h2,Bool.true_eq_false,if_false,h4,BH]
 cases hc:(yC l k).2 with
 | true=>simp
 | false=>simp [h3,hz hc]
theorem J8 {l:List (List Int × Int)}{k:List Int}{r:Int × Bool}(T:yE P t n=true)(o:Has h K)(hq:K[q]? = some (i,.mp (uM l)))(hr:HR n l k=some r):fH P h t (.mp i) (.agg (aa.l k)) true=some (.tup [.int .i64 r.1,.bool r.2])∧fH P h t (.mp i) (.agg (aa.l k)) false=some (.int .i64 r.1):=by
 obtain⟨kt,et,h1,h2,h3⟩:=th T
 obtain⟨⟨_,h4⟩,_⟩:=o.at_ _ _ _ hq
 unfold HR at hr
 split at hr
 rotate_left
 ·cases hr
 rename_i hg
 cases hr
 simp only [ta,WR,beq_iff_eq] at hg
 have hz:(tc l k).2=false→(tc l k).1=0:=by
  clear hq h4 hg
  induction l with
  | nil=>intro _; rfl
  | cons p l ih=>
   obtain⟨a,b⟩:=p
   simp only [tc]
   split
   ·intro h; cases h
   ·exact ih
 simp only [fH,h1,WL,h2 k hg.1,Bool.true_eq_false,if_false,h4,BI n k hg.1 l hg.2]
 cases hc:(tc l k).2 with
 | true=>simp
 | false=>simp [h3,hz hc]
theorem Pu {l:List (Int × Int)}{k v:Int}(T:yD P t=true)(o:Has h K)(hq:K[q]? = some (i,.mp (te l))):∃h',iC P h t (.mp i) (.int .i64 k) (.int .i64 v)=some h'∧Has h' (K.set q (i,.mp (te (EZ l k v)))):=by
 obtain⟨kt,et,h1,h2,h3⟩:=tg T
 obtain⟨⟨h5,h4⟩,_⟩:=o.at_ _ _ _ hq
 refine⟨h.put i (.map (te (EZ l k v))),?_,jB o hq ⟨h5,by rw [cM,if_pos rfl]⟩⟩
 simp only [iC,h1,WL,h2]
 rw [if_neg (by simp [AV.lz])]
 simp only [h4,WL,E0,WS]
theorem Pv {l r:List (List Int × Int)}{k:List Int}{v:Int}(T:yE P t n=true)(o:Has h K)(hq:K[q]? = some (i,.mp (uM l)))(hr:MA n l k v=some r):∃h',iC P h t (.mp i) (.agg (aa.l k)) (.int .i64 v)=some h'∧Has h' (K.set q (i,.mp (uM r))):=by
 obtain⟨kt,et,h1,h2,h3⟩:=th T
 obtain⟨⟨h5,h4⟩,_⟩:=o.at_ _ _ _ hq
 unfold MA at hr
 split at hr
 rotate_left
 ·cases hr
 rename_i hg
 cases hr
 simp only [ta,WR,beq_iff_eq] at hg
 refine⟨h.put i (.map (uM (Av l k v))),?_,jB o hq ⟨h5,by rw [cM,if_pos rfl]⟩⟩
 simp only [iC,h1,WL,h2 k hg.1]
 rw [if_neg (by simp [AV.lz])]
 simp only [h4,WL,E1 n k v hg.1 l hg.2,WS]
theorem MB {es:List (AV × AV)}{kt et:TypeId}(ht:P.underlying t=some (.map kt et))(o:Has h K)(hq:K[q]? = some (i,.mp es)):sr P h t (.mp i)=some (.int .i64 es.length):=by
 obtain⟨⟨_,h4⟩,_⟩:=o.at_ _ _ _ hq
 simp only [sr,ht,WL,h4]
theorem J9 {l:List (List Int × Int)}{kt et:TypeId}(ht:P.underlying t=some (.map kt et))(o:Has h K)(hq:K[q]? = some (i,.mp (uM l))):sr P h t (.mp i)=some (.int .i64 l.length):=by
 rw [MB ht o hq,uM,Xu]
variable {l:List Int}{j:Int}{a:Int}{k:IntKind}{cs:List AV}
def Dj (P:Program)(t:TypeId)(n:Nat):Bool:=match P.underlying t with | some (.array m e)=>m==n&&ep P e==some 1&&ep P t==some n&&(eN P t==some true) | _=>false
theorem qg (T:Dj P t n=true):∃e,P.underlying t=some (.array n e)∧ep P e=some 1∧ep P t=some n∧eN P t=some true:=by
 unfold Dj at T
 split at T
 ·rename_i m e h
  simp only [WR,beq_iff_eq] at T
  obtain⟨⟨⟨h1,h2⟩,h3⟩,h4⟩:=T
  subst h1
  exact⟨e,h,h2,h3,h4⟩
 ·cases T
theorem HT (o:Has h K)(hc:cs=aa.l l)(hl:l.length≤1024:=by decide):∃i h',yu h cs=some (.ptr i 0,h')∧Has h' ((i,.sl l.length 1 (aa.l l))::K):=by
 subst hc
 refine⟨h.next,h.alloc (.cells (aa.l l)),?_,o.new (fun k hk=>by rw [AHeap.alloc,cM,if_neg (by omega)]) (X1 _) (.inr (WQ _)) (Xy _) ⟨⟨cD.cN,cD.oN (by omega)⟩,.inr ⟨by have:=o.pos; omega,[],by rw [AHeap.alloc,cM,if_pos rfl]; simp⟩⟩⟩
 unfold yu
 rw [if_pos]
 have:∀l:List Int,(aa.l l).all AV.cK=true:=fun l=>by
  induction l with
  | nil=>rfl
  | cons a l ih=>rw [cD.dX,List.all_append,ih]; rfl
 exact this l
theorem Ka (T:Dj P t n=true)(o:Has h K)(hq:K[q]? = some (i,.sl n 1 (aa.l l)))(hj:ix l j=some a):er P t (.ptr i 0) (.int k j)=some (.ptr i (0+j.toNat*1)):=by
 obtain⟨e,h1,h2,_,_⟩:=qg T
 have hn:=dp (E:=aa) o hq
 obtain⟨g1,g2,g3⟩:=gM hj
 simp only [er,h1,WL,h2]
 rw [if_pos ⟨g1,by omega⟩]
 rfl
theorem vq (o:Has h K)(hq:K[q]? = some (i,.sl n 1 (aa.l l)))(hn0:n≠0):i≠0∧∃rest,h.get i=some (.cells (aa.l l++rest)):=by
 obtain⟨⟨_,h1⟩,_⟩:=o.at_ _ _ _ hq
 rcases h1 with⟨_,h1⟩| h1
 ·exact absurd h1 hn0
 ·exact h1
theorem wU (T:Dj P t n=true)(o:Has h K)(hq:K[q]? = some (i,.sl n 1 (aa.l l)))(hn0:n≠0:=by decide):bk P h t (.ptr i 0)=some (.agg (aa.l l)):=by
 obtain⟨e,h1,h2,h3,h4⟩:=qg T
 have hn:=dp (E:=aa) o hq
 obtain⟨_,rest,h5⟩:=vq o hq hn0
 simp only [bk,jg,h5,WL,iS,h4,if_true,h3]
 rw [if_pos (by rw [WX,iY]; omega),Xl,Xq (by rw [iY]; omega),Xt (by rw [iY]; omega)]
theorem Kb {l':List Int}{x:AV}(T:Dj P t n=true)(o:Has h K)(hq:K[q]? = some (i,.sl n 1 (aa.l l)))(hx:x.cells=aa.l l')(hl:l'.length=n)(hn0:n≠0:=by decide):∃h',iV P h t (.ptr i 0) x=some h'∧Has h' (K.set q (i,.sl n 1 (aa.l l'))):=by
 obtain⟨e,h1,h2,h3,h4⟩:=qg T
 have hn:=dp (E:=aa) o hq
 obtain⟨h6,rest,h5⟩:=vq o hq hn0
 have ou:(aa.l l').all AV.cK=true:=by
  clear hx hl
  induction l' with
  | nil=>rfl
  | cons a l ih=>rw [cD.dX,List.all_append,ih]; rfl
 have Ad:=(o.at_ _ _ _ hq).1.1.2
 refine⟨h.put i (.cells (aa.l l'++rest)),?_,jB o hq ⟨⟨by rw [iY,hl,Yi],by rw [iY,hl,hn,←iY]; exact Ad⟩,.inr ⟨h6,rest,by rw [cM,if_pos rfl]⟩⟩⟩
 simp only [iV,h5,WL,gI,h3,hx]
 rw [if_pos ⟨by rw [iY,hl],ou,by rw [WX,iY]; omega⟩,WS]
 have:=kn (aa.l l) (aa.l l') [] rest (by rw [iY,iY]; omega)
 simp only [Xm,XI] at this
 rw [this]
end
end Go.R
