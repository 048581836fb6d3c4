/- Part of the proof: ROps5, ROps6, ROps7, ROpAll, RFrz, RCode. -/
import Derived.Test.YtmekcfdllhphlaaDoorK1
import Derived.MapKept
import Derived.Laws.CopyRow
import Derived.Laws.BytesArg
import Derived.Laws.IdiomStrings
import Derived.Tactics
set_option linter.unusedVariables false
set_option linter.unusedSimpArgs false
set_option maxRecDepth 100000
open Array renaming getElem?_eq_some_iff → Ro, getElem?_setIfInBounds → RQ, getElem?_modify → Ss, ext' → Sz
open Bool renaming and_eq_true → QR, false_eq_true → Q6, true_and → R5, not_eq_true' → Sh
open List renaming getElem?_eq_some_iff → QX, getElem?_eq_none → Ra, length_set → Rb, all_eq_true → Rd, mem_map → Rj, map_cons → Rq, mem_cons → Rt, ext_getElem? → RJ, eq_nil_of_length_eq_zero → RK, all_cons → RL, getElem?_set → Sj
open Nat renaming le_refl → QS, zero_add → Re, beq → Ry, le_succ → RX, lt_succ_of_lt → Si, min_eq_left → SB
open Ne renaming symm → R8
open Option renaming bind_some → QM, bind_eq_some_iff → QN, map_eq_some_iff → QP, map_some → QU, isSome_iff_exists → Rp, getD_some → RP
open Option.some renaming injEq → QQ
open Prod.mk renaming injEq → QV
namespace Go.R
open Go
section
variable {P:Program}{L0:Nat→Prop}{c0:Cx}{n:Nat}{ds:List Nat}{o:Oper}{s:RS}
theorem Fr.sk {c:Cx}{Lo:Nat→Prop}{lam:Nat→Nat}{a:Act}(f:Fr L0 c Lo lam ds s a)(hbs:c.base≤c.w.heap.size){id:Nat}{es nv:List (AV × AV)}(ho:c.h.get id=some (.map es)){iH nC:Array MapEntry}{clock kW:Nat}
  (hb:c.w.heap[(c.β id).1]? = some (.map iH clock)) (he:iG c (un L0 Lo) nv nC.toList) :
  Ext c Lo ⟨c.β,s.h.put id (.map nv),{c.w with heap:=c.w.heap.setIfInBounds (c.β id).1 (.map nC kW)},c.base⟩ Lo∧
   Fr L0 ⟨c.β,s.h.put id (.map nv),{c.w with heap:=c.w.heap.setIfInBounds (c.β id).1 (.map nC kW)},c.base⟩ Lo lam ds {s with h:=s.h.put id (.map nv)} a:=by
 have hl:Live c.h id:=⟨f.rel.lt _ _ ho,by simp [ho]⟩
 have hlt:(c.β id).1<c.w.heap.size:=(Ro.1 hb).1
 have hne:∀b,b≠(c.β id).1→({c.w with heap:=c.w.heap.setIfInBounds (c.β id).1 (.map nC kW)}:World).heap[b]? = c.w.heap[b]?:=by
  intro b hb
  simp only [RQ]
  rw [if_neg (R8 hb)]
 rw [←f.h]
 refine f.upd (β':=c.β) (h':=c.h.put id (.map nv)) id (.map nv) (Steady.put _ _ _) (Si hl.1) (by simp [AHeap.put,beq_nat])
  (fun lD h1=>.inr ⟨by simp [AHeap.put,beq_nat,h1],rfl⟩) (fun _=>⟨hl,rfl⟩) (.inr ⟨id,hl,rfl,.inl rfl⟩) (fun _=>?_)
  (fun b _ h1=>hne b h1) (fun b _ h1=>hne b h1) (by simp) hbs rfl rfl rfl (fun e=>⟨nC,kW,by simp [hlt],he.ext e⟩)
 simp only [Cx.len,World.shape?,hb,RQ,hlt,if_true]
theorem sn {x y:AV}(hs:sameShape x y=true)(hq:dV x y=true):x=y:=by
 cases x<;>cases y<;>simp only [sameShape] at hs<;>try (cases hs; done)
 ·simp only [dV,fZ,QR,beq_iff_eq] at hq
  obtain⟨rfl,rfl⟩:=hq
  rfl
 ·rename_i a b
  simp only [dV,fZ,beq_iff_eq] at hq
  congr 1
  cases a; cases b
  congr 1
  exact Array.toList_inj.1 hq
 ·rename_i xs ys
  simp only [QR,beq_iff_eq] at hs
  obtain⟨⟨_,hx⟩,hy⟩:=hs
  obtain⟨ns,rfl⟩:=eS hx
  obtain⟨ms,rfl⟩:=eS hy
  simp only [dV,ia,decide_eq_true_eq] at hq
  rw [hq]
theorem kF:∀ns:List Int,fX (ns.map fun n=>AV.int .i64 n)=some (ns.map fun n=>Value.int .i64 n)
 | []=>rfl
 | n::ns=>by simp [fX,AV.dK,kF ns]
theorem vK {t:TypeId}{k:AV}(h:dW P t k=true):∃u,k.vp=some u∧Instr.sameBits 10000 u u=true:=by
 unfold dW at h
 have Hk:∀cs:List AV,cs.all hY=true→∃u,(AV.agg cs).vp=some u∧Instr.sameBits 10000 u u=true:=by
  intro cs hcs
  obtain⟨ns,rfl⟩:=eS hcs
  refine⟨.agg (ns.map fun n=>Value.int .i64 n).toArray,by simp [AV.vp,kF],?_⟩
  simp only [Instr.sameBits,beq_self_eq_true,R5,Rd]
  intro p hp
  have:∀(l:List Value),(∀v∈l,∃m,v=Value.int .i64 m)→∀p∈l.zip l,Instr.sameBits 9999 p.1 p.2=true:=by
   clear hp p
   intro l hl p hp
   have h1:p.1=p.2∧p.1∈l:=by
    clear hl
    induction l with
    | nil=>cases hp
    | cons v l ih=>
     simp only [List.zip_cons_cons,Rt] at hp
     rcases hp with rfl | hp
     ·exact⟨rfl,by simp⟩
     ·obtain⟨h1,h2⟩:=ih hp; exact⟨h1,by simp [h2]⟩
   obtain⟨h1,h2⟩:=h1
   obtain⟨m,hm⟩:=hl _ h2
   rw [←h1,hm]
   simp [Instr.sameBits]
  exact this (ns.map fun n=>Value.int .i64 n) (fun v hv=>by obtain⟨m,_,rfl⟩:=Rj.1 hv; exact⟨m,rfl⟩) p (by simpa using hp)
 split at h
 ·exact⟨_,rfl,by simp [Instr.sameBits]⟩
 ·exact⟨_,rfl,by simp [Instr.sameBits,ri]⟩
 ·simp only [QR] at h; exact Hk _ h.1.1.2
 ·simp only [QR] at h; exact Hk _ h.1.1.2
 ·cases h
theorem pk {c:Cx}{L:Nat→Prop}{k v:AV}{kv vv:Value}(hc:k.vp.isSome=true)(hk:VR c L k kv)(hv:VR c L v vv) :
  ∀(es nv:List (AV × AV)) (ms:List MapEntry) (i:Nat),iG c L es ms→r9 k v es=some nv→
   fD k es≠none∧(place k es ms i=none∧(∀b,iG c L nv (ms++[{key:=kv,val:=vv,born:=b}]))∨
    ∃j u m,place k es ms i=some (i+j,u)∧ms[j]? = some m∧m.key=kv∧iG c L nv (ms.modify j fun e=>{e with key:=kv,val:=vv}))
 | [],nv,[],i,_,h=>by
  simp only [r9,QQ] at h
  subst h
  exact⟨by simp [fD],.inl ⟨rfl,fun b=>⟨⟨hk,hc⟩,hv,trivial⟩⟩⟩
 | (k',v')::es,nv,m::ms,i,he,h=>by
  obtain⟨⟨zX,Mp⟩,xe,qB⟩:=he
  simp only [r9] at h
  split at h
  rotate_left
  ·cases h
  rename_i hs
  split at h
  ·rename_i hq
   cases h
   have tw:k=k':=sn hs hq
   obtain⟨u,hu⟩:=Rp.1 hc
   refine⟨by simp [fD,hs,hq],.inr ⟨0,m.val,m,by simp [place,hq],rfl,?_,?_⟩⟩
   ·subst tw
    rw [se hu hk,se hu zX]
   ·exact⟨⟨hk,hc⟩,hv,qB⟩
  ·rename_i hq
   rw [QP] at h
   obtain⟨Ob,h1,rfl⟩:=h
   obtain⟨h2,h3⟩:=pk hc hk hv es Ob ms (i+1) qB h1
   refine⟨by simp [fD,hs,hq,h2],?_⟩
   have qH:dV k k'=false:=by simpa using hq
   rcases h3 with⟨h3,h4⟩| ⟨j,u,m',h3,h4,h5,h6⟩
   ·exact .inl ⟨by simp [place,qH,h3],fun b=>⟨⟨zX,Mp⟩,xe,h4 b⟩⟩
   ·exact .inr ⟨j+1,u,m',by simp [place,qH,h3]; omega,by simpa using h4,h5,⟨⟨zX,Mp⟩,xe,h6⟩⟩
 | [],_,_::_,_,h,_=>h.elim
 | _::_,_,[],_,h,_=>h.elim
theorem pn {x:AV}(h:x.js=true):∀k off,x≠.lp k off:=by rintro k off rfl; simp [AV.js] at h
theorem qI {c:Cx}{Lo:Nat→Prop}{lam:Nat→Nat}{a:Act}(f:Fr L0 c Lo lam ds s a)(hbs:c.base≤c.w.heap.size){t:TypeId}{m k x:AV}{mv kv xv:Value}(hm:SR c L0 Lo lam s.bx m mv)(hk:SR c L0 Lo lam s.bx k kv)(hx:SR c L0 Lo lam s.bx x xv){h':AHeap}
  (h:fE P s.h t m k x=some h'):∃c',(Instr.mapUpdate t mv kv xv).run P c.w = .ok () c'.w∧Ext c Lo c' Lo∧Fr L0 c' Lo lam ds {s with h:=h'} a:=by
 unfold fE at h
 rw [QN] at h
 obtain⟨d,hd,h⟩:=h
 cases d<;>simp only at h<;>try (cases h; done)
 rename_i kt et
 split at h
 ·cases h
 rename_i gT
 obtain⟨qE,hargs⟩:dW P kt k=true∧x.js=true:=by
  cases h1:dW P kt k<;>cases h2:x.js<;>simp [h1,h2] at gT ⊢
 have tz:VR c (un L0 Lo) k kv:=hk.vr (by rintro k0 off rfl; simp [dW] at qE)
 have Oc:=hx.vr (pn hargs)
 cases m<;>simp only at h<;>try (cases h; done)
 rename_i id
 rw [QN] at h
 obtain⟨ob,ho,h⟩:=h
 cases ob with
 | cells cs=>cases h
 | row t cs=>cases h
 | map es=>
 rw [QP] at h
 obtain⟨nv,hu,rfl⟩:=h
 simp only [SR,VR] at hm
 obtain⟨hi,r,rfl,hr⟩:=hm
 rw [←f.h] at ho
 have hl:Live c.h id:=⟨f.rel.lt _ _ ho,by simp [ho]⟩
 have JF:=hr hl
 subst JF
 obtain⟨iH,clock,h1,h2⟩:=f.rel.obj _ _ ho
 obtain⟨u0,DZ,Od⟩:=vK qE
 obtain⟨hf,hp⟩:=pk (by simp [DZ]) tz Oc es nv iH.toList 0 h2 hu
 have zY:=rj qE tz c.w h2 hf
 have EE:=kC (P:=P) false 9998 qE tz c.w
 have hget:(getObj (c.β id).1).run P c.w = .ok (.map iH clock) c.w:=MapKept.run_getObj_map h1
 rcases hp with⟨hp,pa⟩| ⟨j,u,m,hp,hj,hmk,pa⟩
 ·obtain⟨e',f'⟩:=f.sk hbs ho h1 (nC:=iH.push {key:=kv,val:=xv,born:=clock}) (kW:=clock+1) (nv:=nv) (by simpa using pa clock)
  refine⟨_,?_,e',f'⟩
  unfold Instr.mapUpdate
  rw [hp] at zY
  simp only [Sem.run_bind,aU hd,Result.andThen_ok,hget,EE,zY]
  exact MapKept.run_setObj_map _ h1
 ·obtain⟨e',f'⟩:=f.sk hbs ho h1 (nC:=iH.modify j fun e=>{e with key:=kv,val:=xv}) (kW:=clock) (nv:=nv) (by simpa using pa)
  refine⟨_,?_,e',f'⟩
  unfold Instr.mapUpdate
  rw [hp,Re] at zY
  have EM:iH[j]? = some m:=by simpa using hj
  have CU:(Instr.keyThatStays m.key kv).run P c.w = .ok kv c.w:=by
   rw [hmk]
   unfold Instr.keyThatStays
   rw [se DZ tz,Od]
   rfl
  simp only [Sem.run_bind,aU hd,Result.andThen_ok,hget,EE,zY,EM,QU,RP,CU]
  exact MapKept.run_setObj_map _ h1
theorem lI (hb0:c0.base≤c0.w.heap.size){t:TypeId}{m k x:Operand}(ho:o.op = .mapUpdate t m k x∨o.op = .insert t m k x)(n7:o.dst=none){h':AHeap}
  (h:fE P s.h t (bj s.ρ m) (bj s.ρ k) (bj s.ρ x)=some h'):gp P L0 c0 n ds o s {s with h:=h'}:=by
 rintro a w K Q ⟨hn,c,Lo,lam,rfl,f,e⟩ hK
 obtain⟨c',hr,e',f'⟩:=qI f (gF e hb0) (aX f m) (aX f k) (aX f x) h
 unfold Oper.wp
 have:(execOp a.eval o).run P c.w = .ok .skip c'.w:=by rcases ho with ho | ho<;>simp [execOp,ho,hr]
 rw [this,Oper.upon_skip]
 have EH:a.put o.dst undef=a:=by rw [n7]; rfl
 rw [EH]
 exact hK _ _ ⟨hn,c',Lo,lam,rfl,f',e.trans e'⟩
theorem Ah (hb0:c0.base≤c0.w.heap.size)(hd:dY n ds o){t:TypeId}{x:Operand}(ho:o.op = .call {callee:=.builtin .clear,args:=#[x],argTypes:=#[t]}){h':AHeap}
  (h:oR P s.h t (bj s.ρ x)=some h'):gp P L0 c0 n ds o s ({s with h:=h'}.set o.dst (.tup [])):=by
 rintro a w K Q ⟨hn,c,Lo,lam,rfl,f,e⟩ hK
 unfold oR at h
 rw [QN] at h
 obtain⟨d,yM,h⟩:=h
 have hx:=aX f x
 have fin:∀c',(Builtin.clear_ #[t] o.type #[a.eval x]).run P c.w = .ok (.tuple #[]) c'.w→Ext c Lo c' Lo→Fr L0 c' Lo lam ds {s with h:=h'} a→o.wp P a c.w K Q:=by
  intro c' hr e' f'
  unfold Oper.wp
  have:(execOp a.eval o).run P c.w = .ok (.value (.tuple #[])) c'.w:=by
   simp [execOp,ho,resolve,invoke,builtin,hr]
  rw [this,Oper.upon_value]
  exact hK _ _ ⟨(ev _ _ _).trans hn,c',Lo,lam,rfl,f'.set (SR.of (by simp [VR,VRs])) (fun t ht=>by rw [hn]; exact hd t ht),e.trans e'⟩
 cases yG:bj s.ρ x<;>rw [yG] at h hx<;>simp only at h<;>try (cases h; done)
 ·cases h
  simp only [SR,VR] at hx
  refine fin c ?_ (Ext.refl _ _) f
  simp [Builtin.clear_,aU yM,hx]
 ·rename_i id
  rw [QN] at h
  obtain⟨ob,ho,h⟩:=h
  cases ob with
  | cells cs=>cases h
  | row t cs=>cases h
  | map es=>
  cases h
  simp only [SR,VR] at hx
  obtain⟨hi,r,oC,hr⟩:=hx
  rw [←f.h] at ho
  have hl:Live c.h id:=⟨f.rel.lt _ _ ho,by simp [ho]⟩
  have JF:=hr hl
  subst JF
  obtain⟨iH,clock,h1,h2⟩:=f.rel.obj _ _ ho
  obtain⟨e',f'⟩:=f.sk (gF e hb0) ho h1 (nC:=#[]) (kW:=clock) (nv:=[]) trivial
  refine fin _ ?_ e' f'
  have hget:(getObj (c.β id).1).run P c.w = .ok (.map iH clock) c.w:=MapKept.run_getObj_map h1
  have vL:=MapKept.run_setObj_map (P:=P) (.map #[] clock) h1
  simp [Builtin.clear_,aU yM,oC,hget,vL]
end
end Go.R
namespace Go.R
open Go
section
variable {P:Program}{L0:Nat→Prop}{c0:Cx}{n:Nat}{ds:List Nat}{o:Oper}{s:RS}
theorem jK {w:World}{t t2 ty e:TypeId}{i:TypeInfo}(ht:P.underlying t=some (.slice e))(hi:P.info? e=some i){base:Option Addr}{len cap:Nat}{x:Value}{news:List Value}{m:Nat}(hs:Src P i.size t2 x m news w)(hm:m≤len) :
  (Builtin.copy_ #[t,t2] ty #[.slice base len cap,x]).run P w=match base with | none=>.ok (goInt m) w | some a=>((storeCells a news).run P w).andThen fun _ w'=>.ok (goInt m) w':=by
 have Hl:Nat.min m len=m:=SB hm
 have hlen:=hs.len w
 have hc:=hs.cells
 have hsz:(sizeOf e).run P w = .ok i.size w:=by simp [sizeOf,typeInfo,hi]
 unfold Builtin.copy_
 cases base with
 | none=>simp [aU ht,hlen,Hl,hsz,hc]
 | some a=>simp [aU ht,hlen,Hl,hsz,hc,Sem.run_bind]
theorem CV (hb0:c0.base≤c0.w.heap.size)(hd:dY n ds o){t t2:TypeId}{dx sx:Operand}(ho:o.op = .call {callee:=.builtin .copy,args:=#[dx,sx],argTypes:=#[t,t2]}){y:AV}{h':AHeap}
  (h:q7 P s.h t t2 (bj s.ρ dx) (bj s.ρ sx)=some (y,h')):gp P L0 c0 n ds o s ({s with h:=h'}.set o.dst y):=by
 rintro a w K Q ⟨hn,c,Lo,lam,rfl,f,e0⟩ hK
 have hbs:=gF e0 hb0
 unfold q7 at h
 rw [QN] at h
 obtain⟨d,yM,h⟩:=h
 cases d<;>simp only at h<;>try (cases h; done)
 rename_i e
 rw [QN] at h
 obtain⟨i,hi,h⟩:=h
 rw [QN] at h
 obtain⟨⟨new,m⟩,hcs,h⟩:=h
 simp only at h
 split at h
 ·cases h
 rename_i eh
 have eh:gL P t2 (bj s.ρ sx)=true:=by simpa using eh
 have Mq:∀st,bj s.ρ sx = .str st→P.underlying t2=some .string:=by
  intro st hst
  rw [hst] at eh
  unfold gL at eh
  simp only at eh
  split at eh
  ·assumption
  ·cases eh
 have mR:(∀st,bj s.ρ sx≠.str st)→∃e',P.underlying t2=some (.slice e'):=by
  intro hne
  unfold gL at eh
  split at eh
  ·rename_i st hst; exact absurd hst (hne st)
  ·split at eh
   ·rename_i e' he; exact⟨e',he⟩
   ·cases eh
 have hk:(∃e',P.underlying t2=some (.slice e'))∨P.underlying t2=some .string:=by
  by_cases hst:∃st,bj s.ρ sx = .str st
  ·obtain⟨st,hst⟩:=hst; exact .inr (Mq st hst)
  ·exact .inl (mR fun st JG=>hst ⟨st,JG⟩)
 obtain⟨news,hS,hv⟩:=mQ f (aX f sx) hk Mq mR hcs
 have ti:=aX f dx
 have fin:∀c',(Builtin.copy_ #[t,t2] o.type #[a.eval dx,a.eval sx]).run P c.w = .ok (goInt m) c'.w→Ext c Lo c' Lo→Fr L0 c' Lo lam ds {s with h:=h'} a→y = .int .i64 m→o.wp P a c.w K Q:=by
  intro c' hr e' f' hy
  unfold Oper.wp
  have:(execOp a.eval o).run P c.w = .ok (.value (goInt m)) c'.w:=by
   simp [execOp,ho,resolve,invoke,builtin,hr]
  rw [this,Oper.upon_value]
  exact hK _ _ ⟨(ev _ _ _).trans hn,c',Lo,lam,rfl,f'.set (SR.of (by subst hy; simp [VR,goInt])) (fun t ht=>by rw [hn]; exact hd t ht),e0.trans e'⟩
 cases yG:bj s.ρ dx<;>rw [yG] at h ti<;>simp only at h<;>try (cases h; done)
 ·split at h
  rotate_left
  ·cases h
  rename_i oZ
  cases h
  simp only [SR,VR] at ti
  obtain⟨ad,ti⟩:∃ad:Option Addr,a.eval dx = .slice ad 0 0:=⟨none,ti⟩
  refine fin c ?_ (Ext.refl _ _) f (by rw [oZ]; rfl)
  rw [ti,jK yM hi hS (by omega)]
  cases ad with
  | none=>rfl
  | some ad=>
   have:news=[]:=RK (by rw [hS.newsLen,oZ]; simp)
   subst this
   rfl
 ·rename_i id off len fS
  split at h
  ·rename_i hid
   split at h
   rotate_left
   ·cases h
   rename_i oZ
   cases h
   simp only [SR,VR] at ti
   rcases ti with⟨_,_,_,ad,ti⟩| ti
   rotate_left
   ·exact absurd hid ti.1
   refine fin c ?_ (Ext.refl _ _) f (by rw [oZ]; rfl)
   rw [ti,jK yM hi hS (by omega)]
   cases ad with
   | none=>rfl
   | some ad=>
    have:news=[]:=RK (by rw [hS.newsLen,oZ]; simp)
    subst this
    rfl
  rename_i iK
  rw [QN] at h
  obtain⟨ob,hob,h⟩:=h
  cases ob with
  | map es=>cases h
  | row t cs=>cases h
  | cells cs=>
  simp only at h
  split at h
  rotate_left
  ·cases h
  rename_i hh
  obtain⟨Oe,Hm,hoff⟩:=hh
  cases h
  simp only [SR,VR] at ti
  rcases ti with ti | ⟨_,hid,ad,cap,ti,hlc,z6,hlive⟩
  ·exact absurd ti.1 iK
  rw [←f.h] at hob
  have hl:Live c.h id:=⟨f.rel.lt _ _ hob,by simp [hob]⟩
  obtain⟨q,hp,hq,hc⟩:=f.rel.obj _ _ hob
  have hnl:=hS.newsLen
  have hvl:=hv.length
  have hr:=jK (ty:=o.type) yM hi hS Hm (base:=ad) (cap:=cap)
  by_cases ha:ad=some ⟨(c.β id).1,(c.β id).2+off,none⟩
  ·subst ha
   simp only at hr
   have hst:=jI (P:=P) hp.kh (base:=(c.β id).2) (off:=off) (vs:=news) (by omega) hS.one
   rw [hst] at hr
   simp only [Result.andThen_ok] at hr
   obtain⟨q1,q2,q3,q4⟩:=eT news (c.β id).1 ((c.β id).2+off) c.w
   have vF:fG c (c.β id).1 q:=hp
   obtain⟨C,Hj,hb,vG⟩:=hp
   obtain⟨C',g1,g2,g3⟩:=dQ news (c.β id).1 ((c.β id).2+off) c.w C Hj (0,0) hb (by omega)
   obtain⟨e',f'⟩:=f.upd (w':=c.w.setCells (c.β id).1 ((c.β id).2+off) news) (β':=c.β) (h':=s.h.put id (.cells (cm cs off new))) id (.cells (cm cs off new))
    (by rw [f.h]; exact Steady.put _ _ _) (by rw [←f.h]; exact Si hl.1) (by simp [AHeap.put,beq_nat]) (fun lD h1=>.inr ⟨by rw [f.h]; simp [AHeap.put,beq_nat,h1],rfl⟩) (fun _=>⟨hl,rfl⟩) (.inr ⟨id,hl,rfl,.inl rfl⟩)
    (fun _=>by simp only [Cx.len,World.shape?,g1,hb,QU,RP,g2])
    (fun b _ hne=>cQ _ _ _ _ _ hne) (fun b _ hne=>cQ _ _ _ _ _ hne) (by rw [q1]; exact QS _) hbs q2 q3 q4
    (fun ee=>⟨q,vF.setCells (by omega) _ _ _,by rw [gm]; exact hq,gS vF.kh hc hv hS.one (by omega) (by omega) ee rfl⟩)
   refine fin _ ?_ e' f' rfl
   rw [ti]
   exact hr
  ·have hz:new=[]∧m=0∧news=[]:=by
    rcases hlive hl with⟨h1,_⟩| h1
    ·exact absurd h1 ha
    ·have h0:m=0:=by omega
     have h2:news=[]:=RK (by rw [hnl,h0]; simp)
     subst h2
     exact⟨RK (by simpa using hvl),h0,rfl⟩
   obtain⟨rfl,rfl,rfl⟩:=hz
   have kE:cm cs off []=cs:=by simp [cm]
   rw [kE] at *
   obtain⟨e',f'⟩:=f.upd (w':=c.w) (β':=c.β) (h':=s.h.put id (.cells cs)) id (.cells cs)
    (by rw [f.h]; exact Steady.put _ _ _) (by rw [←f.h]; exact Si hl.1) (by simp [AHeap.put,beq_nat]) (fun lD h1=>.inr ⟨by rw [f.h]; simp [AHeap.put,beq_nat,h1],rfl⟩) (fun _=>⟨hl,rfl⟩) (.inr ⟨id,hl,rfl,.inl rfl⟩)
    (fun _=>rfl) (fun b _ hne=>rfl) (fun b _ hne=>rfl) (QS _) hbs rfl rfl rfl
    (fun ee=>n5.ext ee ⟨q,hp,hq,hc⟩ rfl)
   refine fin _ ?_ e' f' rfl
   rw [ti,hr]
   cases ad<;>rfl
end
end Go.R
namespace Go.R
open Go
section
variable {P:Program}{L0:Nat→Prop}{c0:Cx}{n:Nat}{ds:List Nat}{o:Oper}{s:RS}
theorem mS {e:TypeId}(h:zS P e=true):P.underlying e=some (.int .u8)∧dv P e=some 1:=by
 unfold zS at h
 simp only [QR,beq_iff_eq] at h
 obtain⟨h1,h2⟩:=h
 refine⟨?_,h2⟩
 split at h1
 ·assumption
 ·cases h1
theorem xi {c:Cx}{L:Nat→Prop}:∀{cs:List AV} {l:List UInt8} {vs:List Value},DS cs=some l→VRs c L cs vs→∃xs:List Int,vs=xs.map (Value.int .u8)∧l=xs.map fun n=>UInt8.ofNat n.toNat
 | [],l,[],h,_=>by simp only [DS,QQ] at h; subst h; exact⟨[],rfl,rfl⟩
 | x::cs,l,v::vs,h,hv=>by
  unfold DS at h
  split at h
  ·rename_i heq; cases heq
  ·rename_i n xs heq
   cases heq
   rw [QP] at h
   obtain⟨l',h1,rfl⟩:=h
   obtain⟨ys,rfl,rfl⟩:=xi h1 hv.2
   have h2:=hv.1
   simp only [VR] at h2
   subst h2
   exact⟨n::ys,rfl,rfl⟩
  ·cases h
 | [],_,_::_,_,h=>h.elim
 | _::_,_,[],_,h=>h.elim
theorem so (xs:List Int):strOfNums xs=⟨(xs.map fun n=>UInt8.ofNat n.toNat).toArray⟩:=rfl
theorem tF {w:World}{src dst e:TypeId}{v:Value}{m:Nat}{xs:List Int}(hs:P.underlying src=some (.slice e))(he:P.underlying e=some (.int .u8))(hd:P.underlying dst=some .string)
  (hS:Src P 1 src v m (xs.map (Value.int .u8)) w) (hv:∃a cap,v = .slice a m cap):(convert src dst v).run P w = .ok (.string (strOfNums xs)) w:=by
 obtain⟨a,cap,rfl⟩:=hv
 have hc:=hS.cells
 have hl:=hS.newsLen
 cases a with
 | none=>
  have:xs=[]:=by
   simp [Builtin.firstCells] at hc
   cases xs with
   | nil=>rfl
   | cons x xs=>simp at hc
  subst this
  exact run_convert_bytes_nil w src e hs he m cap dst hd
 | some a=>
  rw [run_convert_bytes_string w src dst e (some a) m cap hs he hd]
  have h1:(loadCells a m).run P w = .ok (xs.map (Value.int .u8)).toArray w:=by simpa [Builtin.firstCells] using hc
  rw [run_bytesToString w a m cap xs h1,foldl_push_bytes]
  simp [strOfNums,ByteArray.empty,ByteArray.emptyWithCapacity]
  rfl
theorem qJ {c:Cx}{Lo:Nat→Prop}{lam:Nat→Nat}{x:AV}{v:Value}{h:AHeap}{size m:Nat}{new:List AV}(hx:SR c L0 Lo lam s.bx x v)(hc:dw h size x=some (new,m))(hne:∀st,x≠.str st):∃a cap,v = .slice a m cap:=by
 unfold dw at hc
 cases x<;>simp only at hc<;>try (cases hc; done)
 ·exact absurd rfl (hne _)
 ·cases hc
  simp only [SR,VR] at hx
  subst hx
  exact⟨none,0,rfl⟩
 ·split at hc
  ·cases hc
   simp only [SR,VR] at hx
   obtain⟨a,cap,rfl,_⟩:=hx
   exact⟨a,cap,rfl⟩
  ·cases hc
 ·split at hc
  ·split at hc
   ·cases hc
    simp only [SR,VR] at hx
    rename_i hid _
    rcases hx with⟨_,_,_,a,rfl⟩| hx
    ·exact⟨a,0,rfl⟩
    ·exact absurd hid hx.1
   ·cases hc
  rename_i iK
  rw [QN] at hc
  obtain⟨ob,_,hc⟩:=hc
  cases ob with
  | map es=>cases hc
  | row t cs=>cases hc
  | cells cs=>
   simp only at hc
   split at hc
   ·cases hc
    simp only [SR,VR] at hx
    rcases hx with hx | ⟨_,_,a,cap,rfl,_⟩
    ·exact absurd hx.1 iK
    exact⟨a,cap,rfl⟩
   ·cases hc
theorem bytes_VRs {c:Cx}{L:Nat→Prop}:∀l:List UInt8,VRs c L (l.map fun b=>AV.int .u8 b.toNat) (l.map fun b=>Value.int .u8 b.toNat)
 | []=>trivial
 | b::l=>⟨by simp [VR],bytes_VRs l⟩
theorem sq {w:World}{b o k:Nat}{C:Array Value}{e:TypeId}{fr:Nat × Nat}(hb:w.heap[b]? = some (.cells C e fr))(ho:C.size≤o)(hk:k≠0) :
  (∀b',fF w (w.freeze ⟨b,o,none⟩ k) b')∧(∀b',b'≠b→(w.freeze ⟨b,o,none⟩ k).heap[b']? = w.heap[b']?)∧(w.freeze ⟨b,o,none⟩ k).heap.size=w.heap.size∧(w.freeze ⟨b,o,none⟩ k).os=w.os∧(w.freeze ⟨b,o,none⟩ k).tape=w.tape∧(w.freeze ⟨b,o,none⟩ k).output=w.output:=by
 unfold World.freeze
 rw [if_neg hk]
 have hlt:=(Ro.1 hb).1
 refine⟨fun b'=>?_,fun b' hne=>by simp [Ss,R8 hne],by simp,rfl,rfl,rfl⟩
 by_cases hne:b'=b
 ·subst hne
  obtain⟨lo,hi⟩:=fr
  refine .inr ⟨C,e,lo,hi,(if lo==hi then (o,o+k) else (min lo o,max hi (o+k))).1,(if lo==hi then (o,o+k) else (min lo o,max hi (o+k))).2,hb,?_,?_⟩
  ·simp [Ss,hb]
  ·intro h
   by_cases JH:lo=hi
   ·subst JH; right; simpa using ho
   ·have:(lo==hi)=false:=by simpa using JH
    right
    simp only [this,Q6,if_false]
    rcases h with h | h
    ·exact absurd h JH
    ·exact Nat.le_min.2 ⟨h,ho⟩
 ·exact .inl (by simp [Ss,R8 hne])
theorem vM (hb0:c0.base≤c0.w.heap.size)(hd:dY n ds o){src dst:TypeId}{x:Operand}(ho:o.op = .convert src dst x){y:AV}(h:jD P s.h src dst (bj s.ρ x)=some y):gp P L0 c0 n ds o s (s.set o.dst y):=by
 have hex:∀(a:Act) (w w':World) v,(convert src dst (a.eval x)).run P w = .ok v w'→(execOp a.eval o).run P w = .ok (.value v) w':=by
  intro a w w' v hr; simp [execOp,ho,hr]
 unfold jD at h
 split at h
 ·rename_i e hs vk
  split at h
  rotate_left
  ·cases h
  rename_i hu
  obtain⟨he,hsz⟩:=mS hu
  rw [QN] at h
  obtain⟨⟨cs,m⟩,hcs,h⟩:=h
  rw [QP] at h
  obtain⟨l,hl,rfl⟩:=h
  by_cases hst:∃st,bj s.ρ x = .str st
  ·
   obtain⟨st,hst⟩:=hst
   refine dE hd fun a c Lo lam f hn=>?_
   have hx:=aX f x
   rw [hst] at hx hcs
   simp only [SR,VR] at hx
   simp only [dw,if_true,QQ,QV] at hcs
   obtain⟨rfl,rfl⟩:=hcs
   refine⟨_,hex _ _ _ (.string st) ?_,?_⟩
   ·simp [convert,run_underlying hs,run_underlying vk,hx]
   ·have:∀(l0 l1:List UInt8),DS (l0.map fun b=>AV.int .u8 b.toNat)=some l1→l1=l0:=by
     intro l0
     induction l0 with
     | nil=>intro l1 h; simp [DS] at h; exact h
     | cons b l0 ih=>
      intro l1 h
      simp only [Rq,DS,QP] at h
      obtain⟨l2,h2,rfl⟩:=h
      rw [ih l2 h2]
      simp
    rw [this _ _ hl]
    simp [SR,VR]
  ·refine dE hd fun a c Lo lam f hn=>?_
   have hne:∀st,bj s.ρ x≠.str st:=fun st h=>hst ⟨st,h⟩
   have hx:=aX f x
   obtain⟨news,hS,hv⟩:=mQ f hx (.inl ⟨e,hs⟩) (fun st h=>absurd h (hne st)) (fun _=>⟨e,hs⟩) hcs
   obtain⟨xs,rfl,rfl⟩:=xi hl hv
   exact⟨_,hex _ _ _ _ (tF hs he vk hS (qJ hx hcs hne)),by simp [SR,VR,so]⟩
 ·rename_i e hs vk
  cases yG:bj s.ρ x<;>rw [yG] at h<;>simp only at h<;>try (cases h; done)
  rename_i st
  split at h
  rotate_left
  ·cases h
  rename_i hu
  obtain⟨he,hsz⟩:=mS hu
  cases h
  refine pf hb0 hd (fun a c Lo lam f hn hbs=>?_) (by rintro k off h; cases h)
  have hx:=aX f x
  rw [yG] at hx
  simp only [SR,VR] at hx
  have hr:=run_bytes_of_string c.w src dst e st hs vk he
  rw [←hx] at hr
  refine⟨_,_,hex _ _ _ _ hr,fun b hb=>.inl (alloc_old c.w.drew _ (show b<c.w.heap.size from hb)),fun id hl=>alloc_old c.w.drew _ (show (c.β id).1<c.w.heap.size from f.rel.block hl),fun b hb=>alloc_old c.w.drew _ (show b<c.w.heap.size by omega),by show c.w.heap.size≤(c.w.heap.push _).size; simp,rfl,rfl,rfl,fun e'=>?_⟩
  simp only [VR]
  refine⟨_,_,rfl,grownCap_ge c.w,by simp,.inl rfl,?_⟩
  refine .inr ⟨c.w.heap.size,0,rfl,Ae f.rel rfl rfl,by simp,?_⟩
  refine Cells.of_vals (bytes_VRs st.data.toList) (fun i hi=>?_) (fun v hv=>by obtain⟨b,_,rfl⟩:=Rj.1 hv; rfl)
  have ju:i<st.data.size:=by simpa using hi
  have:(World.alloc c.w.drew (.cells (bytesRow st (grownCap c.w st.size 0 e)) e ((bytesRow st (grownCap c.w st.size 0 e)).size,(bytesRow st (grownCap c.w st.size 0 e)).size+1))).heap[c.w.heap.size]? = some (.cells (bytesRow st (grownCap c.w st.size 0 e)) e ((bytesRow st (grownCap c.w st.size 0 e)).size,(bytesRow st (grownCap c.w st.size 0 e)).size+1)):=fj c.w.drew _
  rw [cell_of_block this]
  simp [bytesRow,Array.getElem?_append,ju]
  intro hge
  have:st.size=st.data.size:=rfl
  omega
 ·rename_i e0 e hs vk
  cases yG:bj s.ρ x<;>rw [yG] at h<;>try (cases h; done)
  rename_i cs m ex
  cases ex
  ·cases h
  simp only at h
  split at h
  rotate_left
  ·cases h
  rename_i hu
  simp only [QR,beq_iff_eq,decide_eq_true_eq] at hu
  obtain⟨⟨Of,hu⟩,fH⟩:=hu
  subst Of
  obtain⟨he,hsz⟩:=mS hu
  cases h
  refine pf hb0 hd (fun a c Lo lam f hn hbs=>?_) (by rintro k off h; cases h)
  have hx:=aX f x
  rw [yG] at hx
  have CW:=hx.vr (by rintro k off h; cases h)
  simp only [SR,VR] at hx
  obtain⟨ad,cap,oC,h1,h2,_,h3⟩:=hx
  rcases h3 with rfl | ⟨b,off,rfl,DV,hbb,hc⟩
  ·simp at fH
  have hlt:b<c.w.heap.size:=by
   cases cs with
   | nil=>simp at fH
   | cons x cs=>exact gP hc
  have kE:∃C e' fr,c.w.heap[b]? = some (.cells C e' fr):=by
   cases cs with
   | nil=>simp at fH
   | cons x cs=>
    obtain⟨⟨v,hv,_⟩,_⟩:=hc
    unfold World.cell? at hv
    split at hv
    ·exact⟨_,_,_,by assumption⟩
    ·cases hv
  obtain⟨C,e',fr,hb⟩:=kE
  obtain⟨k1,k2,k3,k4,k5,k6⟩:=sq (k:=1) hb (QS C.size) (by decide)
  refine⟨c.w.freeze ⟨b,C.size,none⟩ 1,a.eval x,hex _ _ _ _ ?_,fun b' _=>k1 b',fun id hl=>k2 _ (DV.1 id hl),fun b' zL=>k2 b' (by have:=hbb trivial; omega),by rw [k3]; exact QS _,k4,k5,k6,fun Hj=>VR.ext Hj _ _ CW⟩
  rw [oC]
  have Og:c.w.shape? b=some (e',C.size):=by simp [World.shape?,hb]
  simp [convert,run_underlying vk,run_underlying he,markStringish,Og]
 ·rw [QN] at h
  obtain⟨v,hv,h⟩:=h
  rw [QN] at h
  obtain⟨r,hr,h⟩:=h
  refine dE hd fun a c Lo lam f hn=>?_
  have hx:=iI hv ((aX f x).vr (iJ hv))
  exact⟨r,hex _ _ _ _ (by rw [hx]; exact hZ _ hr),SR.of (ki h)⟩
theorem cz {op:BinOp}{t:TypeId}{x y:Operand}{u v:Value}(h:(∀a b,u≠.agg a∨v≠.agg b)∧u≠.nilIface)(w:World):(eqGuard op t x y u v).run P w = .ok () w:=by
 obtain⟨h1,h2⟩:=h
 unfold eqGuard
 cases op<;>first | rfl | skip
 all_goals
  simp only [Bool.not_true,Q6,if_false]
  split
  ·exact absurd rfl h2
  ·rename_i a b; rcases h1 a b with h3 | h3<;>exact absurd rfl h3
  ·rfl
theorem vN {x:AV}{u:Value}(h:x.dK=some u):(∀a,u≠.agg a)∧u≠.nilIface:=by
 unfold AV.dK at h
 split at h<;>first | (cases h; done) | (cases h; exact⟨fun _=>(by simp),(by simp)⟩)
theorem yN {op:BinOp}{a b:ByteArray}{y:AV}(h:vu op a b=some y)(w:World):∃r,(Op.stringOp op a b).run P w = .ok r w∧∀(c:Cx) (L:Nat→Prop),VR c L y r:=by
 have hl:∀z:ByteArray,z.toList=z.data.toList:=fun z=>ByteArray.toList_eq z
 unfold vu at h
 unfold Op.stringOp
 simp only [hl]
 cases op<;>simp only at h<;>try (cases h; done)
 ·split at h
  rotate_left
  ·cases h
  rename_i hsz
  cases h
  refine⟨.string (a++b),?_,fun c L=>by simp only [VR]⟩
  have h1:¬(((a.size+b.size:Nat):Int) > IntKind.i64.max):=by
   have:IntKind.i64.max=9223372036854775807:=by decide
   rw [this]; omega
  simp only [h1,if_false]
  rfl
 all_goals (cases h; exact⟨_,rfl,fun c L=>by simp only [VR]⟩)
theorem kj {op:BinOp}{mC:Bool}(h:vw op=some mC):(op = .eql∧mC=true)∨(op = .neq∧mC=false):=by
 unfold vw at h
 split at h<;>cases h
 ·exact .inl ⟨rfl,rfl⟩
 ·exact .inr ⟨rfl,rfl⟩
theorem kX {t:TypeId}(ht:∃q,P.underlying t=some (.pointer q)){a:Addr}{op:BinOp}{mC:Bool}(h:vw op=some mC)(w:World) :
  (binOp op t (.pointer (some a)) (.pointer none)).run P w = .ok (.bool (!mC)) w∧(binOp op t (.pointer none) (.pointer (some a))).run P w = .ok (.bool (!mC)) w:=by
 obtain⟨q,hq⟩:=ht
 have e1:(Op.equal t (.pointer (some a)) (.pointer none)).run P w = .ok false w:=by
  unfold Op.equal Op.maxDepth
  unfold Op.equalIn
  simp [aU hq]
 have e2:(Op.equal t (.pointer none) (.pointer (some a))).run P w = .ok false w:=by
  unfold Op.equal Op.maxDepth
  unfold Op.equalIn
  simp [aU hq]
 rcases kj h with⟨rfl,rfl⟩| ⟨rfl,rfl⟩
 ·constructor
  ·show ((do pure (.bool (←Op.equal t (.pointer (some a)) (.pointer none)))):Sem Value).run P w=_
   simp [e1]
  ·show ((do pure (.bool (←Op.equal t (.pointer none) (.pointer (some a))))):Sem Value).run P w=_
   simp [e2]
 ·constructor
  ·show ((do pure (.bool (!(←Op.equal t (.pointer (some a)) (.pointer none))))):Sem Value).run P w=_
   simp [e1]
  ·show ((do pure (.bool (!(←Op.equal t (.pointer none) (.pointer (some a)))))):Sem Value).run P w=_
   simp [e2]
theorem lJ {t:TypeId}(ht:∃q,P.underlying t=some (.slice q)){ad:Option Addr}(hs:ad.isSome=true){m cap:Nat}{op:BinOp}{mC:Bool}(h:vw op=some mC)(w:World) :
  (binOp op t (.slice ad m cap) (.slice none 0 0)).run P w = .ok (.bool (!mC)) w:=by
 obtain⟨q,hq⟩:=ht
 obtain⟨a,rfl⟩:=Rp.1 hs
 have e1:(Op.equal t (.slice (some a) m cap) (.slice none 0 0)).run P w = .ok false w:=by
  unfold Op.equal Op.maxDepth
  unfold Op.equalIn
  simp [aU hq]
 rcases kj h with⟨rfl,rfl⟩| ⟨rfl,rfl⟩
 ·show ((do pure (.bool (←Op.equal t (.slice (some a) m cap) (.slice none 0 0)))):Sem Value).run P w=_
  simp [e1]
 ·show ((do pure (.bool (!(←Op.equal t (.slice (some a) m cap) (.slice none 0 0))))):Sem Value).run P w=_
  simp [e1]
theorem Ai (hd:dY n ds o){op:BinOp}{t t2:TypeId}{x y:Operand}(ho:o.op = .binOp op t x y t2){z:AV}(h:kR P op t (bj s.ρ x) (bj s.ρ y)=some z):gp P L0 c0 n ds o s (s.set o.dst z):=by
 refine dE hd fun a c Lo lam f hn=>?_
 have hx:=aX f x
 have hy:=aX f y
 have hex:∀v,(eqGuard op t x y (a.eval x) (a.eval y)).run P c.w = .ok () c.w→(binOp op t (a.eval x) (a.eval y)).run P c.w = .ok v c.w→(execOp a.eval o).run P c.w = .ok (.value v) c.w:=by
  intro v h1 h2; simp [execOp,ho,h1,h2]
 unfold kR at h
 split at h
 ·rename_i p q hp hq
  rw [hp] at hx; rw [hq] at hy
  simp only [SR,VR] at hx hy
  obtain⟨r,hr,hv⟩:=yN (P:=P) h c.w
  refine⟨r,hex _ (cz ⟨fun _ _=>.inl (by rw [hx]; simp),by rw [hx]; simp⟩ _) ?_,SR.of (hv _ _)⟩
  rw [hx,hy]
  unfold binOp
  simpa using hr
 ·rename_i p q hp hq
  rw [hp] at hx; rw [hq] at hy
  simp only [SR,VR] at hx hy
  obtain⟨_,ad,oC,_⟩:=hx
  rw [QN] at h
  obtain⟨mC,n8,h⟩:=h
  split at h
  rotate_left
  ·cases h
  rename_i ht
  cases h
  refine⟨.bool (!mC),hex _ (cz ⟨fun _ _=>.inl (by rw [oC]; simp),by rw [oC]; simp⟩ _) ?_,SR.of (by simp [VR])⟩
  rw [oC,hy]
  exact (kX ⟨_,ht⟩ n8 _).1
 ·rename_i p q hp hq
  rw [hp] at hx; rw [hq] at hy
  simp only [SR,VR] at hx hy
  obtain⟨_,ad,I2,_⟩:=hy
  rw [QN] at h
  obtain⟨mC,n8,h⟩:=h
  split at h
  rotate_left
  ·cases h
  rename_i ht
  cases h
  refine⟨.bool (!mC),hex _ (cz ⟨fun _ _=>.inl (by rw [hx]; simp),by rw [hx]; simp⟩ _) ?_,SR.of (by simp [VR])⟩
  rw [hx,I2]
  exact (kX ⟨_,ht⟩ n8 _).2
 ·rename_i p q hp hq
  rw [hp] at hx; rw [hq] at hy
  simp only [SR,VR] at hx hy
  obtain⟨b,off,oC,_⟩:=hx
  rw [QN] at h
  obtain⟨mC,n8,h⟩:=h
  split at h
  rotate_left
  ·cases h
  rename_i ht
  cases h
  refine⟨.bool (!mC),hex _ (cz ⟨fun _ _=>.inl (by rw [oC]; simp),by rw [oC]; simp⟩ _) ?_,SR.of (by simp [VR])⟩
  rw [oC,hy]
  exact (kX ⟨_,ht⟩ n8 _).1
 ·rename_i hp hq
  rw [hp] at hx; rw [hq] at hy
  simp only [SR,VR] at hx hy
  obtain⟨ad,cap,oC,_,_,hs,_⟩:=hx
  replace hs:ad.isSome=true:=hs.elim id fun h=>by cases h.1
  rw [QN] at h
  obtain⟨mC,n8,h⟩:=h
  split at h
  rotate_left
  ·cases h
  rename_i ht
  cases h
  refine⟨.bool (!mC),hex _ (cz ⟨fun _ _=>.inl (by rw [oC]; simp),by rw [oC]; simp⟩ _) ?_,SR.of (by simp [VR])⟩
  rw [oC,hy]
  exact lJ ⟨_,ht⟩ hs n8 _
 ·rename_i hp hq
  rw [hp] at hx; rw [hq] at hy
  simp only [SR,VR] at hx hy
  rcases hx with⟨hx,_⟩| ⟨_,_,ad,cap,oC,_,hs,_⟩
  ·omega
  rw [QN] at h
  obtain⟨mC,n8,h⟩:=h
  split at h
  rotate_left
  ·cases h
  rename_i ht
  cases h
  refine⟨.bool (!mC),hex _ (cz ⟨fun _ _=>.inl (by rw [oC]; simp),by rw [oC]; simp⟩ _) ?_,SR.of (by simp [VR])⟩
  rw [oC,hy]
  exact lJ ⟨_,ht⟩ hs n8 _
 ·rename_i p q hp hq
  rw [hp,hq] at h
  rw [hp] at hx; rw [hq] at hy
  have CW:=hx.vr (by rintro k off h; cases h)
  have JI:=hy.vr (by rintro k off h; cases h)
  rw [QN] at h
  obtain⟨mC,n8,h⟩:=h
  split at h
  rotate_left
  ·cases h
  rename_i gT
  simp only [QR,Sh] at gT
  obtain⟨⟨⟨h1,h2⟩,h3⟩,h4⟩:=gT
  cases h
  have hk:=rf (P:=P) 9998 h1 h3 CW JI c.w
  simp only [VR] at CW JI
  obtain⟨vx,oC,_⟩:=CW
  obtain⟨vy,I2,_⟩:=JI
  refine⟨.bool (dV (.agg p) (.agg q)==mC),hex _ ?_ ?_,SR.of (by simp only [VR])⟩
  ·rw [oC,I2]
   rcases kj n8 with⟨rfl,rfl⟩| ⟨rfl,rfl⟩<;>simp [eqGuard,h4,program,Sem.run]
  ·rw [oC,I2] at hk ⊢
   rcases kj n8 with⟨rfl,rfl⟩| ⟨rfl,rfl⟩
   ·show ((do pure (.bool (←Op.equal t (.agg vx) (.agg vy)))):Sem Value).run P c.w=_
    have G7:(Op.equal t (.agg vx) (.agg vy)).run P c.w=_:=hk
    simp [G7]
   ·show ((do pure (.bool (!(←Op.equal t (.agg vx) (.agg vy))))):Sem Value).run P c.w=_
    have G7:(Op.equal t (.agg vx) (.agg vy)).run P c.w=_:=hk
    simp [G7]
 ·rw [QN] at h
  obtain⟨u,hu,h⟩:=h
  rw [QN] at h
  obtain⟨v,hv,h⟩:=h
  rw [QN] at h
  obtain⟨r,hr,h⟩:=h
  have h1:=iI hu (hx.vr (iJ hu))
  have h2:=iI hv (hy.vr (iJ hv))
  have h3:=vN hu
  exact⟨r,hex _ (cz ⟨fun p _=>.inl (by rw [h1]; exact h3.1 p),by rw [h1]; exact h3.2⟩ _) (by rw [h1,h2]; exact hZ _ hr),SR.of (ki h)⟩
theorem CX (hd:dY n ds o){op:UnOp}{t:TypeId}{x:Operand}(ho:o.op = .unOp op t x){z:AV}(h:((bj s.ρ x).dK.bind fun a=>(fC P (Op.unary op a)).bind lA)=some z):gp P L0 c0 n ds o s (s.set o.dst z):=by
 refine dE hd fun a c Lo lam f hn=>?_
 rw [QN] at h
 obtain⟨u,hu,h⟩:=h
 rw [QN] at h
 obtain⟨r,hr,h⟩:=h
 have h1:=iI hu ((aX f x).vr (iJ hu))
 refine⟨r,?_,SR.of (ki h)⟩
 have:=hZ (P:=P) c.w hr
 rw [←h1] at this
 simp [execOp,ho,this]
theorem xj (hd:dY n ds o){x:Operand}(ho:o.op = .move x∨o.op = .assign x):gp P L0 c0 n ds o s (s.set o.dst (bj s.ρ x)):=
 dE hd fun a c Lo lam f hn=>⟨a.eval x,by rcases ho with ho | ho<;>simp [execOp,ho],aX f x⟩
theorem CY (hd:dY n ds o){k x y:Operand}(ho:o.op = .pick k x y){t:Bool}(h:oT (bj s.ρ k)=some t):gp P L0 c0 n ds o s (s.set o.dst (if t then bj s.ρ x else bj s.ρ y)):=by
 refine dE hd fun a c Lo lam f hn=>?_
 have hk:=aX f k
 unfold oT at h
 split at h
 ·rename_i b hb
  cases h
  rw [hb] at hk
  simp only [SR,VR] at hk
  refine⟨if t then a.eval x else a.eval y,by simp [execOp,ho,hk,asBool],?_⟩
  cases t
  ·exact aX f y
  ·exact aX f x
 ·cases h
theorem tG (hd:dY n ds o){x:Operand}(ho:o.op = .nilCheck x){z:AV}(h:mI (bj s.ρ x)=some z):gp P L0 c0 n ds o s (s.set o.dst z):=by
 refine dE hd fun a c Lo lam f hn=>?_
 have hx:=aX f x
 have hp:(∃ad,a.eval x = .pointer (some ad))∧z=bj s.ρ x:=by
  unfold mI at h
  split at h
  ·rename_i id off heq
   cases h
   rw [heq] at hx
   simp only [SR,VR] at hx
   obtain⟨_,ad,h1,_⟩:=hx
   exact⟨⟨ad,h1⟩,heq.symm⟩
  ·rename_i k off heq
   cases h
   rw [heq] at hx
   simp only [SR] at hx
   exact⟨⟨_,hx.1⟩,heq.symm⟩
  ·rename_i cs off heq
   cases h
   rw [heq] at hx
   simp only [SR,VR] at hx
   obtain⟨b,o',h1,_⟩:=hx
   exact⟨⟨_,h1⟩,heq.symm⟩
  ·cases h
 obtain⟨⟨ad,hp⟩,rfl⟩:=hp
 exact⟨a.eval x,by simp [execOp,ho,hp],hx⟩
theorem kl {c:Cx}{Lo:Nat→Prop}{lam:Nat→Nat}{a:Act}(f:Fr L0 c Lo lam ds s a):∀xs:List Operand,(∀x∈xs,∀k off,bj s.ρ x≠.lp k off)→VRs c (un L0 Lo) (xs.map (bj s.ρ)) (xs.map a.eval)
 | [],_=>trivial
 | x::xs,h=>⟨(aX f x).vr (h x (by simp)),kl f xs fun y hy=>h y (by simp [hy])⟩
theorem yO {x:AV}(h:x.bM=true):∀k off,x≠.lp k off:=by rintro k off rfl; simp [AV.bM] at h
theorem tH (hd:dY n ds o){vO:FuncId}{first cap:Array Operand}(ho:o.op = .makeFunc (.func vO) first cap)(hf:first.isEmpty=true)(hc:(cap.toList.map (bj s.ρ)).all AV.bM=true):gp P L0 c0 n ds o s (s.set o.dst (.fn vO (cap.toList.map (bj s.ρ)))):=by
 refine dE hd fun a c Lo lam f hn=>?_
 have Hn:first = #[]:=by simpa using hf
 subst Hn
 refine⟨.func (.func vO) #[] (cap.map a.eval),by simp [execOp,ho,Instr.makeFunc],SR.of ?_⟩
 simp only [VR]
 refine⟨_,rfl,?_⟩
 rw [Array.toList_map]
 refine kl f _ fun x hx=>yO ?_
 rw [Rd] at hc
 exact hc _ (Rj.2 ⟨x,hx,rfl⟩)
theorem vP (hd:dY n ds o){x:Operand}{i:Nat}(ho:o.op = .extract x i){z:AV}(h:oU (bj s.ρ x) i=some z):gp P L0 c0 n ds o s (s.set o.dst z):=by
 refine dE hd fun a c Lo lam f hn=>?_
 have hx:=aX f x
 cases heq:bj s.ρ x<;>rw [heq] at h hx<;>simp only [oU] at h<;>try (cases h; done)
 rename_i vs
 simp only [SR,VR] at hx
 obtain⟨us,oC,zM⟩:=hx
 obtain⟨v,hv,hr⟩:=zM.get i z h
 have JJ:us[i]? = some v:=by simpa using hv
 exact⟨v,by simp [execOp,ho,oC,Instr.extract,JJ],SR.of hr⟩
theorem nD {op:Value→Value→Sem Value}:∀(vs:List Value) (v r:Value) (w:World),iZ P op v vs=some r→(vs.foldlM op v).run P w = .ok r w
 | [],v,r,w,h=>by simp only [iZ,QQ] at h; subst h; rfl
 | x::xs,v,r,w,h=>by
  simp only [iZ,QN] at h
  obtain⟨u,h1,h2⟩:=h
  simp only [List.foldlM_cons,Sem.run_bind,hZ w h1,Result.andThen_ok]
  exact nD xs u r w h2
theorem rr (hd:dY n ds o){b:Builtin}{xk:Array TypeId}{args:Array Operand}(ho:o.op = .call {callee:=.builtin b,args:=args,argTypes:=xk}){op:Value→Value→Sem Value}(hb:(b = .min∧op=Builtin.min2)∨(b = .max∧op=Builtin.max2))
  {x:AV} {xs:List AV} (he:args.toList.map (bj s.ρ)=x::xs) {v u:Value} {vs:List Value} (hx:x.dK=some v) (hxs:fX xs=some vs) (hf:iZ P op v vs=some u) {z:AV} (hz:lA u=some z):gp P L0 c0 n ds o s (s.set o.dst z):=by
 refine dE hd fun a c Lo lam f hn=>?_
 refine⟨u,?_,SR.of (ki hz)⟩
 have hne:∀q:Operand,∀k off,bj s.ρ q = .lp k off→q∉args.toList:=by
  intro q k off hq hm
  have xl:AV.lp k off∈x::xs:=by rw [←he,←hq]; exact Rj.2 ⟨q,hm,rfl⟩
  rcases Rt.1 xl with h1 | h1
  ·exact iJ hx k off h1.symm
  ·have:∀(ys:List AV) (us:List Value),fX ys=some us→AV.lp k off∉ys:=by
    intro ys
    induction ys with
    | nil=>intro us _ h; cases h
    | cons y ys ih=>
     intro us hu hm
     simp only [fX,QN] at hu
     obtain⟨u1,h2,Qw,h3,_⟩:=hu
     rcases Rt.1 hm with h4 | h4
     ·exact iJ h2 k off h4.symm
     ·exact ih _ h3 h4
   exact this _ _ hxs h1
 have xe:=kl f args.toList (fun q hq k off h=>hne q k off h hq)
 rw [he] at xe
 have iO:args.toList.map a.eval=v::vs:=mO (xs:=x::xs) (us:=v::vs) (by simp [fX,hx,hxs]) xe
 have hr:=nD vs v u c.w hf
 have hargs:args.map a.eval=(v::vs).toArray:=by rw [←iO]; apply Sz; simp
 rcases hb with⟨rfl,rfl⟩| ⟨rfl,rfl⟩
 ·simp [execOp,ho,resolve,invoke,builtin,Builtin.min_,hargs,hr]
 ·simp [execOp,ho,resolve,invoke,builtin,Builtin.max_,hargs,hr]
end
end Go.R
namespace Go.R
open Go
def CallOK (P:Program)(cf:CallF):Prop:=
 ∀f args h r h',cf f args h=some (r,h')→
  (∀(vs:Array Value) (w:World),(callFunc f vs).run P w = .ok (.enter f vs) w)∧
  ∀(L0:Nat→Prop) (c:Cx) (vs:List Value),c.h=h→c.base≤c.w.heap.size→HRel c L0→VRs c L0 args vs→
   Calls P f vs.toArray c.w fun e w'=>∃c' v,e = .returned v∧c'.w=w'∧c'.h=h'∧VR c' L0 r v∧HRel c' L0∧Ext c none0 c' none0
section
variable {P:Program}{L0:Nat→Prop}{c0:Cx}{n:Nat}{ds:List Nat}{o:Oper}{s:RS}
theorem Fr.call {c c':Cx}{Lo:Nat→Prop}{lam:Nat→Nat}{a:Act}(f:Fr L0 c Lo lam ds s a)(hr:HRel c' (un L0 Lo))(e:Ext c none0 c' none0) :
  Ext c Lo c' Lo∧Fr L0 c' Lo lam ds {s with h:=c'.h} a:=by
 have vi:∀b,Lo b→b<c.w.heap.size:=fun b hb=>f.rel.bd b (.inr hb)
 have e':Ext c Lo c' Lo:=
  ⟨e.next,e.live,e.size,fun b h1 _ h3=>e.eL b h1 (fun h=>h.elim) h3,e.exact,e.base,e.DU,fun _ h=>h,fun _ h=>.inl h,e.os,e.tape,e.output⟩
 refine⟨e',rfl,hr,fun t=>(f.slot t).ext e' (fun _ _ _=>⟨rfl,fun h=>h⟩),fun k cs hb=>?_,f.inj,f.tidy,f.defers,fun b hb=>by rw [e.base]; exact f.zU b hb⟩
 have ob:=f.box k cs hb
 exact ob.ext e' (e.eL _ ob.plain.lt (fun h=>h.elim) fun id hl he=>f.rel.out id hl (he ▸ .inr ob.own))
theorem CZ {cf:CallF}(hcf:CallOK P cf)(hb0:c0.base≤c0.w.heap.size)(hd:dY n ds o){fx:Operand}{args:Array Operand}{xk:Array TypeId}(ho:o.op = .call {callee:=.value fx,args:=args,argTypes:=xk}){vO:FuncId}{cap:List AV}
  (hf:bj s.ρ fx = .fn vO cap) (ha:(args.toList.map (bj s.ρ)).all AV.js=true) {r:AV} {h':AHeap} (h:cf vO (args.toList.map (bj s.ρ)++cap) s.h=some (r,h')) :
  gp P L0 c0 n ds o s ({s with h:=h'}.set o.dst r):=by
 rintro a w K Q ⟨hn,c,Lo,lam,rfl,f,e0⟩ hK
 obtain⟨hin,hcall⟩:=hcf _ _ _ _ _ h
 have JK:=aX f fx
 rw [hf] at JK
 simp only [SR,VR] at JK
 obtain⟨cv,Oh,G9⟩:=JK
 have hargs:VRs c (un L0 Lo) (args.toList.map (bj s.ρ)) (args.toList.map a.eval):=by
  refine kl f _ fun x hx=>pn ?_
  rw [Rd] at ha
  exact ha _ (Rj.2 ⟨x,hx,rfl⟩)
 have iO:=VRs.append hargs G9
 unfold Oper.wp
 have:(execOp a.eval o).run P c.w = .ok (.enter vO (args.map a.eval++cv)) c.w:=by
  simp [execOp,ho,resolve,Oh,Deferred.ofValue,invoke,hin]
 rw [this,Oper.upon_enter]
 have hc:=hcall (un L0 Lo) c _ f.h (gF e0 hb0) f.rel iO
 have he:(args.toList.map a.eval++cv.toList).toArray=args.map a.eval++cv:=by
  apply Sz; simp
 rw [he] at hc
 refine Calls.mono hc ?_
 rintro e w' ⟨c',v,rfl,rfl,hh,hv,hrel,EN⟩
 obtain⟨e',f'⟩:=f.call hrel EN
 rw [hh] at f'
 exact hK _ _ ⟨(ev _ _ _).trans hn,c',Lo,lam,rfl,f'.set (SR.of hv) (fun t ht=>by rw [hn]; exact hd t ht),e0.trans e'⟩
theorem Option.map_some' {α β:Type}{x:Option α}{g:α→β}{y:β}(h:x.map g=some y):∃z,x=some z∧g z=y:=QP.1 h
theorem ru {aB:List Nat}{cs:List AV}{s':RS}(h:fc s aB ds o cs=some s'):cs.all AV.bM=true:=by
 unfold fc at h
 split at h
 ·assumption
 ·cases h
theorem EO {cf:CallF}(hcf:CallOK P cf)(hb0:c0.base≤c0.w.heap.size)(hd:dY n ds o){aB:List Nat}{s':RS}(h:sa P cf aB ds s o=some s'):gp P L0 c0 n ds o s s':=by
 have cn:∀{x:Option AV},(x.map fun x=>s.set o.dst x)=some s'→(∀z,x=some z→gp P L0 c0 n ds o s (s.set o.dst z))→gp P L0 c0 n ds o s s':=by
  intro x hx hz
  obtain⟨z,rfl,rfl⟩:=Option.map_some' hx
  exact hz z rfl
 unfold sa vz at h
 dsimp only at h
 split at h
 ·rename_i x ho; cases h; exact xj hd (.inl ho)
 ·rename_i x ho; cases h; exact xj hd (.inr ho)
 ·rename_i k x y ho
  obtain⟨t,ht,rfl⟩:=Option.map_some' h
  exact CY hd ho ht
 ·
  rename_i t ho
  rw [QN] at h
  obtain⟨z,hz,h⟩:=h
  refine rl hb0 hd t h fun a c Lo lam f hn=>?_
  have lE:=ru h
  obtain⟨v,h1,h2,h3⟩:=yI (P:=P) (c:=c) hz (CS lE) (un L0 Lo)
  exact⟨v,by simp [execOp,ho,h1],CR h2,h3⟩
 ·
  rename_i t x ho
  refine rl hb0 hd t h fun a c Lo lam f hn=>?_
  have lE:(bj s.ρ x).cells.all AV.bM=true:=ru h
  obtain⟨h1,h2⟩:=gq lE ((aX f x).oB lE)
  exact⟨a.eval x,by simp [execOp,ho,Instr.box,newVar,newRow],h1,h2⟩
 ·rename_i t ps ho
  refine cn h fun z hz=>dE hd fun a c Lo lam f hn=>?_
  obtain⟨v,hr,hv⟩:=run_build (P:=P) (lG f ps.toList) hz
  refine⟨v,?_,SR.of hv⟩
  have he:ps.map (fun (i,x)=>(i,a.eval x))=(ps.toList.map fun (i,x)=>(i,a.eval x)).toArray:=by
   apply Sz; simp
  simp only [execOp,ho,Sem.run_bind]
  rw [he,hr]
  rfl
 ·rename_i t k ps ho
  rw [QP] at h
  obtain⟨z,hz,rfl⟩:=h
  exact pg hb0 hd ho aB hz
 ·
  rename_i t x ho
  refine cn h fun z hz=>dE hd fun a c Lo lam f hn=>?_
  obtain⟨r,hr,hv⟩:=oY (P:=P) f (t:=t) (aX f x) hz
  exact⟨r,by simp [execOp,ho,hr],SR.of hv⟩
 ·
  rename_i t x y ho
  split at h
  ·cases h
  rename_i n7
  exact Aa hb0 hd ho (by simpa using n7) h
 ·rename_i ho; exact cn h fun z hz=>tG hd ho hz
 ·rename_i ho; exact cn h fun z hz=>Ai hd ho hz
 ·rename_i ho; exact cn h fun z hz=>CX hd ho hz
 ·rename_i ho; exact cn h fun z hz=>vM hb0 hd ho hz
 ·rename_i vO first cap ho
  split at h
  ·rename_i hh
   refine cn h fun z hz=>?_
   cases hz
   exact tH hd ho hh.1 hh.2
  ·cases h
 ·rename_i ho; cases h; exact vH hb0 hd ho
 ·rename_i ho; exact si hb0 hd ho h
 ·
  rename_i t x lo hi mx ho
  refine cn h fun z hz=>dE hd fun a c Lo lam f hn=>?_
  have hs:∀(q:Option Operand) (y:AV),q.map (bj s.ρ)=some y→∃v,q.map a.eval=some v∧SR c L0 Lo lam s.bx y v:=by
   intro q y hq
   obtain⟨u,rfl,rfl⟩:=Option.map_some' hq
   exact⟨_,rfl,aX f u⟩
  have GF:∀(q:Option Operand),q.map (bj s.ρ)=none→q.map a.eval=none:=by
   intro q hq
   simpa using hq
  obtain⟨r,hr,hv⟩:=vE (P:=P) (aX f x) (hs lo) (GF lo) (hs hi) (GF hi) (hs mx) (GF mx) hz
  exact⟨r,by simp [execOp,ho,hr],SR.of hv⟩
 ·rename_i t x i ho
  refine cn h fun z hz=>dE hd fun a c Lo lam f hn=>?_
  obtain⟨r,hr,hv⟩:=tt (P:=P) (aX f x) hz
  exact⟨r,by simp [execOp,ho,hr],hv⟩
 ·rename_i t x i ho
  refine cn h fun z hz=>dE hd fun a c Lo lam f hn=>?_
  obtain⟨r,hr,hv⟩:=vC (P:=P) (aX f x) hz
  exact⟨r,by simp [execOp,ho,hr],SR.of hv⟩
 ·rename_i t x i ho
  refine cn h fun z hz=>dE hd fun a c Lo lam f hn=>?_
  obtain⟨r,hr,hv⟩:=tq (P:=P) (aX f x) (aX f i) hz
  exact⟨r,by simp [execOp,ho,hr],hv⟩
 ·rename_i t x i ho
  refine cn h fun z hz=>dE hd fun a c Lo lam f hn=>?_
  obtain⟨r,hr,hv⟩:=vD (P:=P) (aX f x) (aX f i) hz
  exact⟨r,by simp [execOp,ho,hr],SR.of hv⟩
 ·rename_i t m k ok ho
  refine cn h fun z hz=>dE hd fun a c Lo lam f hn=>?_
  obtain⟨r,hr,hv⟩:=tA (P:=P) f (aX f m) (aX f k) hz
  exact⟨r,by simp [execOp,ho,hr],SR.of hv⟩
 ·rename_i t m k x ho
  split at h
  ·cases h
  rename_i n7
  obtain⟨h',hh,rfl⟩:=Option.map_some' h
  exact lI hb0 (.inl ho) (by simpa using n7) hh
 ·rename_i t m k x ho
  split at h
  ·cases h
  rename_i n7
  obtain⟨h',hh,rfl⟩:=Option.map_some' h
  exact lI hb0 (.inr ho) (by simpa using n7) hh
 ·rename_i ho; exact cn h fun z hz=>vP hd ho hz
 ·
  rename_i b args xk ho
  unfold er at h
  split at h
  ·rename_i t x hts hargs
   have vQ:xk = #[t]:=by apply Sz; simpa using hts
   obtain⟨q,hq,rfl⟩:∃q,args = #[q]∧bj s.ρ q=x:=by
    cases args with | mk l=>
    rcases l with _ | ⟨q,_ | ⟨q2,l⟩⟩<;>simp at hargs
    exact⟨q,rfl,hargs⟩
   subst vQ hq
   refine cn h fun z hz=>dE hd fun a c Lo lam f hn=>?_
   obtain⟨r,hr,hv⟩:=zZ (P:=P) f #[t] rfl (aX f q) hz o.type
   exact⟨r,by simp [execOp,ho,resolve,invoke,builtin,hr],SR.of hv⟩
  ·rename_i t t2 x y hts hargs
   have vQ:xk = #[t,t2]:=by apply Sz; simpa using hts
   obtain⟨q,q2,hq,rfl,rfl⟩:∃q q2,args = #[q,q2]∧bj s.ρ q=x∧bj s.ρ q2=y:=by
    cases args with | mk l=>
    rcases l with _ | ⟨q,_ | ⟨q2,_ | ⟨q3,l⟩⟩⟩<;>simp at hargs
    exact⟨q,q2,rfl,hargs.1,hargs.2⟩
   subst vQ hq
   exact yL hb0 hd ho h
  ·rename_i t t2 x y hts hargs
   have vQ:xk = #[t,t2]:=by apply Sz; simpa using hts
   obtain⟨q,q2,hq,rfl,rfl⟩:∃q q2,args = #[q,q2]∧bj s.ρ q=x∧bj s.ρ q2=y:=by
    cases args with | mk l=>
    rcases l with _ | ⟨q,_ | ⟨q2,_ | ⟨q3,l⟩⟩⟩<;>simp at hargs
    exact⟨q,q2,rfl,hargs.1,hargs.2⟩
   subst vQ hq
   obtain⟨⟨z,h'⟩,hh,rfl⟩:=Option.map_some' h
   exact CV hb0 hd ho hh
  ·rename_i t x hts hargs
   have vQ:xk = #[t]:=by apply Sz; simpa using hts
   obtain⟨q,hq,rfl⟩:∃q,args = #[q]∧bj s.ρ q=x:=by
    cases args with | mk l=>
    rcases l with _ | ⟨q,_ | ⟨q2,l⟩⟩<;>simp at hargs
    exact⟨q,rfl,hargs⟩
   subst vQ hq
   obtain⟨h',hh,rfl⟩:=Option.map_some' h
   exact Ah hb0 hd ho hh
  ·rename_i x xs hargs
   rw [QN] at h
   obtain⟨v,hv,h⟩:=h
   rw [QN] at h
   obtain⟨vs,zM,h⟩:=h
   rw [QN] at h
   obtain⟨u,hu,h⟩:=h
   exact cn h fun z hz=>rr hd ho (.inl ⟨rfl,rfl⟩) hargs hv zM hu hz
  ·rename_i x xs hargs
   rw [QN] at h
   obtain⟨v,hv,h⟩:=h
   rw [QN] at h
   obtain⟨vs,zM,h⟩:=h
   rw [QN] at h
   obtain⟨u,hu,h⟩:=h
   exact cn h fun z hz=>rr hd ho (.inr ⟨rfl,rfl⟩) hargs hv zM hu hz
  ·cases h
 ·
  rename_i fx args xk ho
  split at h
  ·rename_i vO cap heq
   split at h
   ·rename_i ha
    obtain⟨⟨r,h'⟩,hh,rfl⟩:=Option.map_some' h
    exact CZ hcf hb0 hd ho heq ha hh
   ·cases h
  ·cases h
 ·cases h
end
end Go.R
namespace Go.R
open Go
section
variable {P:Program}{L0:Nat→Prop}{c0:Cx}{n:Nat}{ds:List Nat}{s:RS}
theorem Fr.Aj {c:Cx}{Lo:Nat→Prop}{lam:Nat→Nat}{a:Act}(f:Fr L0 c Lo lam ds s a)(id:Nat) :
  Ext c Lo ⟨c.β,c.h.kill id,c.w,c.base⟩ Lo∧Fr L0 ⟨c.β,c.h.kill id,c.w,c.base⟩ Lo lam ds {s with h:=s.h.kill id} a∧(Live c.h id→RO ⟨c.β,c.h.kill id,c.w,c.base⟩ (un L0 Lo) (c.β id).1):=by
 have hg:∀i,(c.h.kill id).get i=if i=id then none else c.h.get i:=fun i=>by
  simp only [AHeap.kill,beq_nat]
  by_cases h:i=id<;>simp [h]
 have kB:∀i,Live (c.h.kill id) i→i≠id∧Live c.h i:=fun i hl=>by
  have h2:=hl.2
  rw [hg] at h2
  by_cases h:i=id
  ·rw [if_pos h] at h2; cases h2
  ·rw [if_neg h] at h2
   obtain⟨o,ho⟩:=Rp.1 h2
   exact⟨h,f.rel.lt _ _ ho,h2⟩
 have e:Ext c Lo ⟨c.β,c.h.kill id,c.w,c.base⟩ Lo:=
  ⟨RX _,fun i hi hl=>⟨(kB i hl).2,rfl,rfl⟩,QS _,fun _ _ _ _=>.inl rfl,fun _ _=>rfl,rfl,fun i hl=>.inr ⟨i,(kB i hl).2,rfl⟩,fun _ h=>h,fun _ h=>.inl h,rfl,rfl,rfl⟩
 refine⟨e,⟨by rw [←f.h],⟨fun i o ho=>?_,fun i o ho=>?_,fun i j hi hj he=>?_,fun i hi=>?_,f.rel.bd,fun i hi=>?_,(Steady.kill c.h id).wf f.rel.ver⟩,fun t=>?_,fun k cs hb=>?_,f.inj,f.tidy,f.defers,f.zU⟩,fun hl=>⟨fun i hi he=>?_,f.rel.out id hl⟩⟩
 ·replace ho:(c.h.kill id).get i=some o:=ho
  rw [hg] at ho
  by_cases h:i=id
  ·rw [if_pos h] at ho; cases ho
  ·rw [if_neg h] at ho; exact Si (f.rel.lt _ _ ho)
 ·replace ho:(c.h.kill id).get i=some o:=ho
  rw [hg] at ho
  by_cases h:i=id
  ·rw [if_pos h] at ho; cases ho
  ·rw [if_neg h] at ho
   exact (f.rel.obj i o ho).ext e rfl
 ·exact f.rel.inj i j (kB i hi).2 (kB j hj).2 he
 ·exact f.rel.out i (kB i hi).2
 ·exact f.rel.low i (kB i hi).2
 ·exact (f.slot t).ext e (fun _ _ _=>⟨rfl,fun h=>h⟩)
 ·have hb2:=f.box k cs hb
  exact hb2.ext e (.inl rfl)
 ·obtain⟨h1,h2⟩:=kB i hi
  exact h1 (f.rel.inj i id h2 hl he)
theorem C0 {c:Cx}{Lo:Nat→Prop}{lam:Nat→Nat}{a:Act}(f:Fr L0 c Lo lam ds s a){x y:AV}{h':AHeap}(h:qD s.h x=some (y,h')) :
  Ext c Lo ⟨c.β,h',c.w,c.base⟩ Lo∧Fr L0 ⟨c.β,h',c.w,c.base⟩ Lo lam ds {s with h:=h'} a∧(∀v,VR c (un L0 Lo) x v→VR ⟨c.β,h',c.w,c.base⟩ (un L0 Lo) y v)∧∀i,Live h' i→Live c.h i:=by
 have same:Ext c Lo ⟨c.β,s.h,c.w,c.base⟩ Lo∧Fr L0 ⟨c.β,s.h,c.w,c.base⟩ Lo lam ds {s with h:=s.h} a∧(⟨c.β,s.h,c.w,c.base⟩:Cx)=c:=by
  have e:(⟨c.β,s.h,c.w,c.base⟩:Cx)=c:=by rw [←f.h]
  rw [e]; exact⟨Ext.refl _ _,f,rfl⟩
 unfold qD at h
 split at h
 ·simp only [QQ,QV] at h
  obtain⟨rfl,rfl⟩:=h
  obtain⟨h1,h2,h3⟩:=same
  exact⟨h1,h2,fun v hv=>by rw [h3]; exact hv,fun i hi=>by rw [f.h]; exact hi⟩
 cases x with
 | rs id off len fS=>
  simp only at h
  split at h
  ·rename_i hid
   split at h
   rotate_left
   ·cases h
   rename_i hl0
   simp only [QQ,QV] at h
   obtain⟨rfl,rfl⟩:=h
   obtain⟨h1,h2,h3⟩:=same
   refine⟨h1,h2,fun v hv=>?_,fun i hi=>by rw [f.h]; exact hi⟩
   simp only [VR] at hv ⊢
   rcases hv with⟨_,_,_,a,rfl⟩| hv
   ·exact⟨a,0,rfl,QS _,fun _=>rfl,.inr ⟨trivial,rfl⟩,.inl trivial⟩
   ·exact absurd hid hv.1
  rename_i iK
  rw [QN] at h
  obtain⟨ob,ho,h⟩:=h
  cases ob with
  | map es=>cases h
  | row t cs=>cases h
  | cells cs=>
  simp only at h
  split at h
  rotate_left
  ·cases h
  rename_i hle
  simp only [QQ,QV] at h
  obtain⟨rfl,rfl⟩:=h
  rw [←f.h] at ho
  have hl:Live c.h id:=⟨f.rel.lt _ _ ho,by simp [ho]⟩
  obtain⟨e,f',DV⟩:=f.Aj id
  have hb:(⟨c.β,s.h.kill id,c.w,c.base⟩:Cx)=⟨c.β,c.h.kill id,c.w,c.base⟩:=by rw [f.h]
  rw [hb]
  refine⟨e,f',fun v hv=>?_,fun i hi=>?_⟩
  ·simp only [VR] at hv ⊢
   rcases hv with hv | ⟨_,_,a,cap,rfl,h1,h2,h3⟩
   ·exact absurd hv.1 iK
   obtain⟨m,_,_,hc⟩:=f.rel.obj _ _ ho
   refine⟨a,cap,rfl,h1,by simp,.inl h2,?_⟩
   rcases h3 hl with⟨h4,_⟩| h4
   ·exact .inr ⟨_,_,h4,DV hl,by simp,Cells.move e _ _ _ _ _ (fun i hi=>rfl) ((hc.drop off).take (len*fS))⟩
   ·left
    have hz:len=0:=by omega
    subst hz
    simp
  ·have xd:=hi.2
   simp only [AHeap.kill,beq_nat] at xd
   by_cases h:i=id
   ·simp [h] at xd
   ·simp only [h,decide_false,cond_false] at xd
    rw [f.h]
    obtain⟨o,GG⟩:=Rp.1 xd
    have:=f.rel.lt i o (by rw [f.h]; exact GG)
    rw [f.h] at this
    exact⟨this,xd⟩
 | _=>cases h
theorem xm:∀{cs:List AV} {c:Cx} {Lo:Nat→Prop} {lam:Nat→Nat} {a:Act} {s:RS} {ys:List AV} {h':AHeap},Fr L0 c Lo lam ds s a→n4 s.h cs=some (ys,h')→
  Ext c Lo ⟨c.β,h',c.w,c.base⟩ Lo∧Fr L0 ⟨c.β,h',c.w,c.base⟩ Lo lam ds {s with h:=h'} a∧(∀b o,Cells c (un L0 Lo) cs b o→Cells ⟨c.β,h',c.w,c.base⟩ (un L0 Lo) ys b o)∧∀i,Live h' i→Live c.h i
 | [],c,Lo,lam,a,s,ys,h',f,h=>by
  cases h
  have e:(⟨c.β,s.h,c.w,c.base⟩:Cx)=c:=by rw [←f.h]
  rw [e]
  exact⟨Ext.refl _ _,f,fun _ _ h=>h,fun i hi=>by rw [f.h]; exact hi⟩
 | x::cs,c,Lo,lam,a,s,ys,h',f,h=>by
  simp only [n4,QN,QP] at h
  obtain⟨⟨y,h1⟩,hx,⟨zs,h2⟩,hz,he⟩:=h
  simp only [QV] at he
  obtain⟨rfl,rfl⟩:=he
  obtain⟨e1,f1,v1,l1⟩:=C0 f hx
  obtain⟨e2,f2,v2,l2⟩:=xm f1 hz
  refine⟨e1.trans e2,f2,fun b o hc=>?_,fun i hi=>l1 i (l2 i hi)⟩
  obtain⟨⟨v,q1,q2,q3⟩,hc⟩:=hc
  exact⟨⟨v,q1,q2,VR.ext e2 _ _ (v1 v q3)⟩,v2 _ _ (Cells.move e1 _ _ _ _ _ (fun i hi=>rfl) hc)⟩
theorem rv {h:AHeap}:∀{cs:List AV},bS cs=true→n4 h cs=some (cs,h)
 | [],_=>rfl
 | x::cs,hn=>by
  simp only [bS,QR] at hn
  simp only [n4,qD,hn.1,if_true,QM,rv hn.2,QU]
theorem tI {h h':AHeap}{x y:AV}(hz:qD h x=some (y,h')):Steady h h':=by
 unfold qD at hz
 split at hz
 ·cases hz; exact Steady.refl _
 split at hz
 ·split at hz
  ·split at hz
   ·cases hz; exact Steady.refl _
   ·cases hz
  rw [QN] at hz
  obtain⟨o,_,hz⟩:=hz
  split at hz
  ·split at hz
   ·cases hz; exact Steady.kill _ _
   ·cases hz
  ·cases hz
 ·cases hz
theorem nE:∀{cs ys:List AV} {h h':AHeap},n4 h cs=some (ys,h')→Steady h h'
 | [],ys,h,h',hz=>by cases hz; exact Steady.refl _
 | x::cs,ys,h,h',hz=>by
  simp only [n4,QN,QP] at hz
  obtain⟨⟨y,h1⟩,hx,⟨zs,h2⟩,hz,he⟩:=hz
  simp only [QV] at he
  obtain⟨rfl,rfl⟩:=he
  exact (tI hx).trans (nE hz)
theorem xn {c:Cx}{Lo:Nat→Prop}{lam:Nat→Nat}{a:Act}(f:Fr L0 c Lo lam ds s a){k:Nat}{x y:AV}{h':AHeap}(h:gO k s.h x=some (y,h')) :
  (∀k off,x≠.lp k off)∧(∀k off,y≠.lp k off)∧∃c',c'.w=c.w∧Ext c Lo c' Lo∧Fr L0 c' Lo lam ds {s with h:=h'} a∧∀v,VR c (un L0 Lo) x v→VR c' (un L0 Lo) y v:=by
 cases k with
 | zero=>
  cases x with
  | nils=>
   simp only [gO,QQ,QV] at h
   obtain⟨rfl,rfl⟩:=h
   refine⟨by simp,by simp,c,rfl,Ext.refl _ _,f,fun v hv=>?_⟩
   simp only [VR] at hv ⊢
   exact⟨none,0,hv,QS _,fun _=>rfl,.inr ⟨trivial,rfl⟩,.inl trivial⟩
  | fz cs m ex=>
   simp only [gO,QQ,QV] at h
   obtain⟨rfl,rfl⟩:=h
   refine⟨by simp,by simp,c,rfl,Ext.refl _ _,f,fun v hv=>?_⟩
   simp only [VR] at hv ⊢
   obtain⟨a,cap,rfl,h1,h2,hs,hc⟩:=hv
   exact⟨a,cap,rfl,h1,by simp,hs,hc.imp id fun ⟨b,o,ha,hr,hex,hc⟩=>⟨b,o,ha,hr,by simp,hc⟩⟩
  | rs id off len fS=>
   simp only [gO] at h
   split at h
   ·rename_i hid
    split at h
    rotate_left
    ·cases h
    rename_i hl0
    simp only [QQ,QV] at h
    obtain⟨rfl,rfl⟩:=h
    refine⟨by simp,by simp,c,rfl,Ext.refl _ _,f,fun v hv=>?_⟩
    simp only [VR] at hv ⊢
    rcases hv with⟨_,_,_,a,rfl⟩| hv
    ·exact⟨a,0,rfl,QS _,fun _=>rfl,.inr ⟨trivial,rfl⟩,.inl trivial⟩
    ·exact absurd hid hv.1
   rename_i iK
   rw [QN] at h
   obtain⟨ob,ho,h⟩:=h
   cases ob with
   | map es=>cases h
   | row t cs=>cases h
   | cells cs=>
   simp only at h
   split at h
   rotate_left
   ·cases h
   rename_i hle
   rw [QP] at h
   obtain⟨⟨ej,h2⟩,hz,he⟩:=h
   simp only [QV] at he
   obtain⟨rfl,rfl⟩:=he
   rw [←f.h] at ho
   have hl:Live c.h id:=⟨f.rel.lt _ _ ho,by simp [ho]⟩
   obtain⟨e,f',DV⟩:=f.Aj id
   obtain⟨e2,f2,hcs,kB⟩:=xm f' hz
   refine⟨by simp,by simp,⟨c.β,h2,c.w,c.base⟩,rfl,e.trans e2,f2,fun v hv=>?_⟩
   simp only [VR] at hv ⊢
   rcases hv with hv | ⟨_,_,a,cap,rfl,h1,h2,h3⟩
   ·exact absurd hv.1 iK
   obtain⟨m,_,_,hc⟩:=f.rel.obj _ _ ho
   refine⟨a,cap,rfl,h1,by simp,.inl h2,?_⟩
   rcases h3 hl with⟨h4,_⟩| h4
   ·exact .inr ⟨_,_,h4,⟨fun i hi=>(DV hl).1 i (kB i hi),(DV hl).2⟩,by simp,hcs _ _ (Cells.move e _ _ _ _ _ (fun i hi=>rfl) ((hc.drop off).take (len*fS)))⟩
   ·left
    have hz0:len=0:=by omega
    subst hz0
    simp [n4] at hz
    exact hz.1
  | _=>simp [gO] at h
 | succ k=>
  have key:(x = .nils∨x = .fz [] 0 true)→y = .rs 0 0 0 (k+1)→h'=s.h→(∀k off,x≠.lp k off)∧(∀k off,y≠.lp k off)∧∃c',c'.w=c.w∧Ext c Lo c' Lo∧Fr L0 c' Lo lam ds {s with h:=h'} a∧∀v,VR c (un L0 Lo) x v→VR c' (un L0 Lo) y v:=by
   rintro hx rfl rfl
   refine⟨by rcases hx with rfl | rfl<;>simp,by simp,c,rfl,Ext.refl _ _,f,fun v hv=>?_⟩
   rcases hx with rfl | rfl
   ·simp only [VR] at hv ⊢
    exact .inl ⟨trivial,trivial,trivial,none,hv⟩
   ·simp only [VR] at hv ⊢
    obtain⟨a,cap,rfl,h1,h2,hs,hc⟩:=hv
    have:=h2 trivial
    subst this
    exact .inl ⟨trivial,trivial,trivial,a,rfl⟩
  unfold gO at h
  simp only at h
  split at h
  ·simp only [QQ,QV] at h
   exact key (.inl rfl) h.1.symm h.2.symm
  ·simp only [QQ,QV] at h
   exact key (.inr rfl) h.1.symm h.2.symm
  ·simp only [QQ,QV] at h
   obtain⟨rfl,rfl⟩:=h
   exact⟨by simp,by simp,c,rfl,Ext.refl _ _,f,fun v hv=>hv⟩
  ·cases h
theorem Inv.sd {a:Act}{w:World}{p:Nat × Option Nat × Nat}{s':RS}(hi:Inv L0 c0 n ds s a w)(h:sd s p=some s'):Inv L0 c0 n ds s' a w:=by
 obtain⟨hn,c,Lo,lam,rfl,f,e⟩:=hi
 unfold Go.R.sd at h
 split at h
 ·rw [QP] at h
  obtain⟨⟨y,h'⟩,hz,rfl⟩:=h
  obtain⟨hx,hy,c',hw,e',f',hv⟩:=xn f hz
  refine⟨hn,c',Lo,lam,hw,⟨f'.h,f'.rel,fun t=>?_,f'.box,f'.inj,fun t k off ht he=>?_,f'.defers,f'.zU⟩,e.trans e'⟩
  ·simp only [beq_nat]
   by_cases ht:t=p.1
   ·subst ht
    simp only [decide_true,cond_true]
    exact SR.of (hv _ ((f.slot _).vr hx))
   ·simp only [ht,decide_false,cond_false]
    exact f'.slot t
  ·simp only [beq_nat] at he
   by_cases Mr:t=p.1
   ·simp only [Mr,decide_true,cond_true] at he
    exact absurd he (hy _ _)
   ·simp only [Mr,decide_false,cond_false] at he
    exact f'.tidy t k off ht he
 ·rename_i i hp
  split at h
  rotate_left
  ·cases h
  rename_i cs hcs
  simp only [QN,QP] at h
  obtain⟨x,hx,⟨y,h'⟩,hz,rfl⟩:=h
  obtain⟨hx1,hy,c',hw,e',f',hv⟩:=xn f hz
  have xg:∀k,(bif Ry k p.1 then some (cs.set i y) else s.bx k).isSome=(s.bx k).isSome:=fun k=>by
   simp only [beq_nat]
   by_cases hk:k=p.1
   ·subst hk; simp [hcs]
   ·simp [hk]
  refine⟨hn,c',Lo,lam,hw,⟨f'.h,f'.rel,fun t=>?_,fun k ej hb=>?_,fun k k' h1 h2=>f'.inj k k' (by rw [←xg]; exact h1) (by rw [←xg]; exact h2),f'.tidy,f'.defers,f'.zU⟩,e.trans e'⟩
  ·have:=f'.slot t
   unfold SR at this ⊢
   split
   ·rename_i k off he
    rw [he] at this
    simp only at this
    exact⟨this.1,by rw [xg]; exact this.2⟩
   ·rename_i x' CW
    split at this
    ·rename_i he; exact absurd he (CW _ _)
    ·exact this
  ·simp only [beq_nat] at hb
   by_cases hk:k=p.1
   ·subst hk
    simp only [decide_true,cond_true,QQ] at hb
    subst hb
    have ob:=f.box _ cs hcs
    have JL:=f'.box _ cs hcs
    refine⟨JL.own,by rw [Rb]; exact JL.plain,?_⟩
    obtain⟨vs,q1,q2,q3⟩:=ob.cells.vals
    obtain⟨Oi,r1,r2,r3⟩:=JL.cells.vals
    have hlen:vs=Oi:=by
     apply RJ
     intro j
     by_cases hj:j<cs.length
     ·rw [←q2 j hj,←r2 j hj,hw]
     ·rw [Ra (by rw [←q1.length]; omega),Ra (by rw [←r1.length]; omega)]
    subst hlen
    obtain⟨u,hu,hr⟩:=VRs.get q1 i x hx
    have vL:VRs c' (un L0 Lo) (cs.set i y) vs:=by
     have:=VRs.set (hv u hr) i r1
     have GA:vs.set i u=vs:=by
      apply RJ
      intro j
      rw [Sj]
      by_cases hji:i=j
      ·subst hji
       rw [if_pos rfl,hu]
       have:=(QX.1 hu).1
       simp [this]
      ·rw [if_neg hji]
     rwa [GA] at this
    exact Cells.of_vals vL (fun j hj=>by rw [r2 j (by rw [r1.length]; exact hj)]) r3
   ·simp only [hk,decide_false,cond_false] at hb
    exact f'.box k ej hb
theorem Inv.jb {a:Act}{w:World}:∀{l:List (Nat × Option Nat × Nat)} {s s':RS},Inv L0 c0 n ds s a w→jb s l=some s'→Inv L0 c0 n ds s' a w
 | [],s,s',hi,h=>by cases h; exact hi
 | p::ps,s,s',hi,h=>by
  simp only [Go.R.jb,QN] at h
  obtain⟨s1,h1,h2⟩:=h
  exact Inv.jb (hi.sd h1) h2
theorem C1 {A:ca}{r:Nat}{s:RS}:(s.kA A r).h=s.h:=by
 unfold RS.kA
 split<;>rfl
theorem nF {k:Nat}{h h':AHeap}{x y:AV}(hz:gO k h x=some (y,h')):Steady h h':=by
 unfold gO at hz
 split at hz
 ·split at hz
  ·cases hz; exact Steady.refl _
  ·split at hz
   ·split at hz
    ·cases hz; exact Steady.refl _
    ·cases hz
   rw [QN] at hz
   obtain⟨o,_,hz⟩:=hz
   split at hz
   ·split at hz
    ·rw [QP] at hz
     obtain⟨⟨ej,h2⟩,hz,he⟩:=hz
     simp only [QV] at he
     obtain⟨rfl,rfl⟩:=he
     exact (Steady.kill _ _).trans (nE hz)
    ·cases hz
   ·cases hz
  ·cases hz; exact Steady.refl _
  ·cases hz
 ·split at hz<;>cases hz<;>exact Steady.refl _
theorem tJ {s s':RS}{p:Nat × Option Nat × Nat}(hz:sd s p=some s'):Steady s.h s'.h:=by
 unfold sd at hz
 split at hz
 ·rw [QP] at hz
  obtain⟨⟨y,h'⟩,hz,rfl⟩:=hz
  exact nF hz
 ·split at hz
  ·simp only [QN,QP] at hz
   obtain⟨x,hx,⟨y,h'⟩,hz,rfl⟩:=hz
   exact nF hz
  ·cases hz
theorem jL:∀{l:List (Nat × Option Nat × Nat)} {s s':RS},jb s l=some s'→Steady s.h s'.h
 | [],s,s',h=>by cases h; exact Steady.refl _
 | p::ps,s,s',h=>by
  simp only [jb,QN] at h
  obtain⟨s1,h1,h2⟩:=h
  exact (tJ h1).trans (jL h2)
end
end Go.R
namespace Go.R
open Go
section
variable {P:Program}{L0:Nat→Prop}{c0:Cx}{n:Nat}{ds:List Nat}{o:Oper}{s:RS}
theorem yP {ops:Array Oper}{c:Cx}{Lo:Nat→Prop}{lam:Nat→Nat}{a:Act}(f:Fr L0 c Lo lam ds s a){b:Bool}(h:eK ops.toList s.ρ o=some b):Region.wanted o (yielded ops a.tmps)=b:=by
 unfold eK at h
 unfold Region.wanted
 split at h
 ·rename_i hg; rw [hg]; cases h; rfl
 ·rename_i j want hg
  rw [hg]
  rw [QN] at h
  obtain⟨d,hd,h⟩:=h
  have CA:(ops[j]?).bind (·.dst)=some d:=by simpa using hd
  have hs:=f.slot d
  simp only [yielded,CA,QM]
  rw [Array.getD_eq_getD_getElem?] at hs
  split at h
  ·rename_i b' hb
   cases h
   rw [hb] at hs
   simp only [SR,VR] at hs
   cases hq:a.tmps[d]? with
   | none=>rw [hq] at hs; simp [undef] at hs
   | some v=>
    rw [hq] at hs
    simp only [RP] at hs
    subst hs
    cases b'<;>cases want<;>rfl
  ·rename_i hb
   cases h
   rw [hb] at hs
   simp only [SR,VR] at hs
   obtain⟨vs,hv,_⟩:=hs
   cases hq:a.tmps[d]? with
   | none=>rfl
   | some v=>
    rw [hq] at hv
    simp only [RP] at hv
    subst hv
    rfl
  ·cases h
theorem tK {cf:CallF}(hcf:CallOK P cf)(hb0:c0.base≤c0.w.heap.size){ops:Array Oper}(EP:ds=ops.toList.filterMap (·.dst))(hd:dY n ds o){aB:List Nat}{s':RS}(h:jE P cf aB ops.toList s o=some s')
  {a:Act} {w:World} {K:Act→World→Prop} {Q:Exit→Act→World→Prop} (hi:Inv L0 c0 n ds s a w) (hK:∀a' w',Inv L0 c0 n ds s' a' w'→K a' w') :
  if Region.wanted o (yielded ops a.tmps) then o.wp P a w K Q else K (a.put o.dst undef) w:=by
 unfold jE at h
 rw [QN] at h
 obtain⟨b,hb,h⟩:=h
 have Oj:=hi
 obtain⟨hn,c,Lo,lam,rfl,f,e⟩:=hi
 rw [yP f hb]
 cases b with
 | true=>
  simp only [if_true] at h ⊢
  rw [←EP] at h
  exact EO hcf hb0 hd h a c.w K Q Oj hK
 | false=>
  simp only [Q6,if_false,QQ] at h ⊢
  subst h
  exact hK _ _ ⟨(ev _ _ _).trans hn,c,Lo,lam,rfl,f.set (SR.of (by simp [VR,undef,VRs])) (fun t ht=>by rw [hn]; exact hd t ht),e⟩
def ry (n:Nat)(ops:List Oper):Bool:=ops.all fun o=>match o.dst with | some t=>Nat.blt t n | none=>true
theorem tL {ops:List Oper}(h:ry n ops=true){o:Oper}(ho:o∈ops):dY n (ops.filterMap (·.dst)) o:=by
 intro t ht
 unfold ry at h
 rw [Rd] at h
 have:=h o ho
 rw [ht] at this
 exact⟨Nat.blt_eq.mp this,List.mem_filterMap.2 ⟨o,ho,ht⟩⟩
theorem xo {cf:CallF}(hcf:CallOK P cf)(hb0:c0.base≤c0.w.heap.size){ops:Array Oper}(EP:ds=ops.toList.filterMap (·.dst))(tC:ry n ops.toList=true){aB:List Nat}{Q:Exit→Act→World→Prop}{s':RS}(hQ:∀a' w',Inv L0 c0 n ds s' a' w'→Q .normal a' w') :
  ∀(l:List Oper) (s:RS),(∀o∈l,o∈ops.toList)→nZ P cf aB ops.toList s l=some s'→∀a w,Inv L0 c0 n ds s a w→wpList P ops Q l a w
 | [],s,_,h,a,w,hi=>by
  simp only [nZ,QQ] at h
  subst h
  exact wpList_nil (hQ a w hi)
 | o::l,s,hl,h,a,w,hi=>by
  simp only [nZ,QN] at h
  obtain⟨s1,h1,h2⟩:=h
  refine wpList_step fun K hK=>?_
  exact tK hcf hb0 EP (by rw [EP]; exact tL tC (hl o (by simp))) h1 hi fun a' w' ju=>hK a' w' (xo hcf hb0 EP tC hQ l s1 (fun o ho=>hl o (by simp [ho])) h2 a' w' ju)
theorem fI {α:Type}(d:α):∀(ks:List Nat) (g:Nat→α) (t:Nat),look d ks (ks.map g) t=if t∈ks then g t else d
 | [],g,t=>rfl
 | k::ks,g,t=>by
  simp only [Rq,look,beq_nat,fI d ks g t,Rt]
  by_cases h:t=k
  ·subst h; simp
  ·simp [h]
theorem Fr.forget {c:Cx}{Lo:Nat→Prop}{lam:Nat→Nat}{a:Act}(f:Fr L0 c Lo lam ds s a){s2:RS}(hh:s2.h=s.h)(hb:∀k cs,s2.bx k=some cs→s.bx k=some cs)
  (hr:∀t,s2.ρ t = .any∨s2.ρ t=s.ρ t∧∀k off,s.ρ t = .lp k off→k=t∧((s.bx k).isSome=true→(s2.bx k).isSome=true)):Fr L0 c Lo lam [] s2 a:=by
 refine⟨f.h.trans hh.symm,f.rel,fun t=>?_,fun k cs h=>f.box k cs (hb k cs h),fun k k' h h'=>f.inj k k' ?_ ?_,fun t k off _ he=>?_,f.defers,f.zU⟩
 ·rcases hr t with h | ⟨h,h2⟩
  ·rw [h]; exact SR.of (by simp [VR])
  ·rw [h]
   have hs:=f.slot t
   cases hx:s.ρ t<;>rw [hx] at hs<;>try exact hs
   rename_i k off
   simp only [SR] at hs ⊢
   exact⟨hs.1,(h2 k off hx).2 hs.2⟩
 ·obtain⟨cs,hcs⟩:=Rp.1 h; rw [hb k cs hcs]; rfl
 ·obtain⟨cs,hcs⟩:=Rp.1 h'; rw [hb k' cs hcs]; rfl
 ·rcases hr t with h | ⟨h,h2⟩
  ·rw [h] at he; cases he
  ·exact (h2 k off (h ▸ he)).1
theorem Inv.shut {a:Act}{w:World}(A:ca)(h:Inv L0 c0 n ds s a w):Inv L0 c0 n [] ((s.shut A).open A) a w:=by
 obtain⟨hn,c,Lo,lam,rfl,f,e⟩:=h
 refine⟨hn,c,Lo,lam,rfl,f.forget rfl (fun k cs hk=>?_) (fun t=>?_),e⟩
 ·simp only [RS.shut,St.open,fI] at hk
  split at hk
  ·exact hk
  ·cases hk
 ·simp only [RS.shut,St.open,fI]
  split
  ·unfold tl
   cases hx:s.ρ t<;>simp only<;>try (right; exact⟨trivial,fun k off he=>by cases he⟩)
   rename_i k off
   cases hc:(Ry k t&&Ry off 0&&A.aB.contains k) with
   | false=>left; rfl
   | true=>
    right
    simp only [QR,beq_nat,decide_eq_true_eq,List.contains_iff_mem] at hc
    refine⟨rfl,fun k' Ok he=>?_⟩
    cases he
    refine⟨hc.1.1,fun hs=>?_⟩
    rw [if_pos hc.2]
    exact hs
  ·left; rfl
theorem Inv.kA {a:Act}{w:World}(A:ca)(r:Nat)(h:Inv L0 c0 n ds s a w):Inv L0 c0 n [] ((s.kA A r).open A) a w:=by
 unfold RS.kA
 split
 ·exact h.shut A
 rename_i dl _
 have h2:=h.shut A
 obtain⟨hn,c,Lo,lam,hw,f,e⟩:=h2
 have GB:∀k,(St.open A {vars:=A.eL.map (fun t=>bif (eu r A.dead).contains t then .any else tl A.aB s.ρ t),Gy:=A.aB.map (fun k=>bif (eu r A.dead).contains k then none else s.bx k),h:=s.h}).bx k=bif (eu r A.dead).contains k then none else (St.open A (s.shut A)).bx k:=by
  intro k
  simp only [RS.shut,St.open,fI]
  cases (eu r A.dead).contains k<;>simp
 refine⟨hn,c,Lo,lam,hw,f.forget rfl (fun k cs hk=>?_) (fun t=>?_),e⟩
 ·rw [GB] at hk
  cases hc:(eu r A.dead).contains k with
  | true=>rw [hc] at hk; cases hk
  | false=>rw [hc] at hk; exact hk
 ·have hv:(St.open A {vars:=A.eL.map (fun t=>bif (eu r A.dead).contains t then .any else tl A.aB s.ρ t),Gy:=A.aB.map (fun k=>bif (eu r A.dead).contains k then none else s.bx k),h:=s.h}).ρ t=bif (eu r A.dead).contains t then .any else (St.open A (s.shut A)).ρ t:=by
   simp only [RS.shut,St.open,fI]
   cases (eu r A.dead).contains t<;>simp
  rw [hv]
  cases hc:(eu r A.dead).contains t with
  | true=>left; rfl
  | false=>
   right
   refine⟨rfl,fun k off he=>?_⟩
   have CU:k=t:=f.tidy t k off (by simp) he
   refine⟨CU,fun hs=>?_⟩
   rw [GB,CU,hc]
   rw [CU] at hs
   exact hs
theorem Inv.wide {a:Act}{w:World}(h:Inv L0 c0 n [] s a w)(ds:List Nat):Inv L0 c0 n ds s a w:=by
 obtain⟨hn,c,Lo,lam,rfl,f,e⟩:=h
 exact⟨hn,c,Lo,lam,rfl,⟨f.h,f.rel,f.slot,f.box,f.inj,fun t k off _ he=>f.tidy t k off (by simp) he,f.defers,f.zU⟩,e⟩
theorem Inv.drew {a:Act}{w:World}(h:Inv L0 c0 n ds s a w):Inv L0 c0 n ds s a {w with drawn:=w.drawn+1}:=by
 obtain⟨hn,c,Lo,lam,rfl,f,e⟩:=h
 obtain⟨e',f'⟩:=f.world (w':={c.w with drawn:=c.w.drawn+1}) (fun b _=>.inl rfl) (fun _ _=>rfl) (fun b _=>rfl) (QS _) rfl rfl rfl
 exact⟨hn,_,Lo,lam,rfl,f',e.trans e'⟩
def jM (P:Program)(c:Code)(Q:Exit→Act→World→Prop)(a:Act)(w:World):Prop:=
 ∀(b:Frame) (k:List Item) (cs:List Frame),∃e a' w',Q e a' w'∧Arrives P (lone (b.at a (.code c :: .inLoop c::k)) cs w) b k cs e a' w'
theorem jM.step {c:Code}{Q:Exit→Act→World→Prop}{a:Act}{w:World}(h:c.wp P (Exit.then (jM P c Q) Q) a w):jM P c Q a w:=by
 intro b k cs
 obtain⟨e,a₁,w₁,hq,tM⟩:=h b (.inLoop c::k) cs
 cases e with
 | normal=>
  obtain⟨e₂,a₂,w₂,Ol,Ho⟩:=hq b k cs
  exact⟨e₂,a₂,w₂,Ol,.of_steps (Steps.trans tM (.one step_inLoop)) Ho⟩
 | exit id=>exact⟨_,a₁,w₁,hq,.pass (x:=.inLoop c) rfl (fun _ _=>.inl (by simp)) tM⟩
 | goto l=>exact⟨_,a₁,w₁,hq,.pass (x:=.inLoop c) rfl (fun _ _=>.inl (by simp)) tM⟩
 | ret=>exact⟨_,a₁,w₁,hq,.pass (x:=.inLoop c) rfl (fun _ _=>.inl (by simp)) tM⟩
 | panic ch=>exact⟨_,a₁,w₁,hq,.pass (x:=.inLoop c) rfl (fun _ _=>.inl (by simp)) tM⟩
 | outgrown=>exact⟨_,a₁,w₁,hq,.pass (x:=.inLoop c) rfl (fun _ _=>.inl (by simp)) tM⟩
theorem jM.loop {c:Code}{Q:Exit→Act→World→Prop}{a:Act}{w:World}(h:jM P c Q a w):(Code.loop c).wp P Q a w:=by
 intro b k cs
 obtain⟨e,a',w',hq,tM⟩:=h b k cs
 exact⟨e,a',w',hq,.of_steps (.one step_loop) tM⟩
def Ex.D0:Ex→Exit
 | .norm=>.normal
 | .exit id=>.exit id
 | .ret=>.ret
def ic (n:Nat):Code→Bool
 | .region _ ops _=>ry n ops.toList
 | .seq a b=>ic n a&&ic n b
 | .cond _ x y=>ic n x&&ic n y
 | .block _ c=>ic n c
 | .loop c=>ic n c
 | _=>true
def vR (P:Program)(cf:CallF):Prop:=
 ∀(L0:Nat→Prop) (c0:Cx) (n:Nat) (aB:List Nat) (id:Nat) (ops:Array Oper) (s s':RS),ja P cf aB ops s=some s'→c0.base≤c0.w.heap.size→ry n ops.toList=true→
  ∀a w Q,Inv L0 c0 n (ops.toList.filterMap (·.dst)) s a w→(∀a' w',Inv L0 c0 n (ops.toList.filterMap (·.dst)) s' a' w'→Q .normal a' w')→(Code.region id ops true).wp P Q a w
theorem gU {cf:CallF}(hcf:CallOK P cf)(yQ:vR P cf)(hb0:c0.base≤c0.w.heap.size){A:ca}{m:Nat}:∀(c:Code),ic n c=true→∀(st gV:St) (ex:Ex),be P cf A m c st=some (ex,gV)→
  ∀a w Q,Inv L0 c0 n [] (st.open A) a w→(∀a' w',Inv L0 c0 n [] (gV.open A) a' w'→Q ex.D0 a' w')→c.wp P Q a w
 | .skip,_,st,gV,ex,h,a,w,Q,hi,hQ=>by
  simp only [be,QQ,QV] at h
  obtain⟨rfl,rfl⟩:=h
  exact wp_skip (hQ a w hi)
 | .label _,_,st,gV,ex,h,a,w,Q,hi,hQ=>by
  simp only [be,QQ,QV] at h
  obtain⟨rfl,rfl⟩:=h
  exact wp_label (hQ a w hi)
 | .ret,_,st,gV,ex,h,a,w,Q,hi,hQ=>by
  simp only [be,QQ,QV] at h
  obtain⟨rfl,rfl⟩:=h
  exact wp_ret (hQ a w hi)
 | .exit id,_,st,gV,ex,h,a,w,Q,hi,hQ=>by
  simp only [be,QQ,QV] at h
  obtain⟨rfl,rfl⟩:=h
  exact wp_exit (hQ a w hi)
 | .seq x y,hB,st,gV,ex,h,a,w,Q,hi,hQ=>by
  simp only [ic,QR] at hB
  simp only [be,QN] at h
  obtain⟨⟨D1,qK⟩,h1,h2⟩:=h
  refine wp_seq (gU hcf yQ hb0 x hB.1 st qK D1 h1 a w _ hi fun a' w' ju=>?_)
  cases D1 with
  | norm=>exact gU hcf yQ hb0 y hB.2 qK gV ex h2 a' w' Q ju hQ
  | exit id=>
   simp only [QQ,QV] at h2
   obtain⟨rfl,rfl⟩:=h2
   exact hQ a' w' ju
  | ret=>
   simp only [QQ,QV] at h2
   obtain⟨rfl,rfl⟩:=h2
   exact hQ a' w' ju
 | .cond k x y,hB,st,gV,ex,h,a,w,Q,hi,hQ=>by
  simp only [ic,QR] at hB
  simp only [be,QN] at h
  obtain⟨t,ht,h⟩:=h
  have hk:a.eval k = .bool t:=by
   obtain⟨hn,c,Lo,lam,rfl,f,e⟩:=hi
   have hk:=aX f k
   unfold oT at ht
   split at ht
   ·rename_i b hb
    cases ht
    rw [hb] at hk
    simpa [SR,VR] using hk
   ·cases ht
  refine wp_cond hk ?_
  cases t with
  | true=>exact gU hcf yQ hb0 x hB.1 st gV ex (by simpa using h) a w Q hi hQ
  | false=>exact gU hcf yQ hb0 y hB.2 st gV ex (by simpa using h) a w Q hi hQ
 | .block id x,hB,st,gV,ex,h,a,w,Q,hi,hQ=>by
  simp only [ic] at hB
  simp only [be,QP] at h
  obtain⟨⟨D1,qK⟩,h1,h2⟩:=h
  refine wp_block (gU hcf yQ hb0 x hB st qK D1 h1 a w _ hi fun a' w' ju=>?_)
  cases D1 with
  | norm=>
   simp only [QV] at h2
   obtain⟨rfl,rfl⟩:=h2
   exact hQ a' w' ju
  | exit lD=>
   simp only [QV] at h2
   obtain⟨rfl,rfl⟩:=h2
   have:=hQ a' w' ju
   simp only [Ex.D0,Exit.inBlock]
   split
   ·rename_i he; rw [if_pos he] at this; exact this
   ·rename_i he; rw [if_neg he] at this; exact this
  | ret=>
   simp only [QV] at h2
   obtain⟨rfl,rfl⟩:=h2
   exact hQ a' w' ju
 | .loop x,hB,st,gV,ex,h,a,w,Q,hi,hQ=>by
  simp only [ic] at hB
  simp only [be] at h
  have key:∀(j:Nat) (st:St),iF (be P cf A m x) j st=some (ex,gV)→∀a w,Inv L0 c0 n [] (st.open A) a w→jM P x Q a w:=by
   intro j
   induction j with
   | zero=>intro st h; simp [iF] at h
   | succ j ih=>
    intro st h a w hi
    simp only [iF,QN] at h
    obtain⟨⟨D1,qK⟩,h1,h2⟩:=h
    refine jM.step (gU hcf yQ hb0 x hB st qK D1 h1 a w _ hi fun a' w' ju=>?_)
    cases D1 with
    | norm=>exact ih qK h2 a' w' ju
    | exit id=>
     simp only [QQ,QV] at h2
     obtain⟨rfl,rfl⟩:=h2
     exact hQ a' w' ju
    | ret=>
     simp only [QQ,QV] at h2
     obtain⟨rfl,rfl⟩:=h2
     exact hQ a' w' ju
  exact jM.loop (key m st h a w hi)
 | .region id ops draw,hB,st,gV,ex,h,a,w,Q,hi,hQ=>by
  simp only [ic] at hB
  simp only [be,QN,QP,QV] at h
  obtain⟨s0,h0,s',h1,s2,h2,rfl,rfl⟩:=h
  replace hi:=hi.jb h0
  cases draw with
  | true=>
   simp only [if_true] at h1
   exact yQ L0 c0 n A.aB id ops _ s' h1 hb0 hB a w Q (hi.wide _) fun a' w' ju=>hQ a' w' ((ju.jb h2).kA A id)
  | false=>
   simp only [Q6,if_false] at h1
   exact wp_region_list (xo hcf hb0 rfl hB (fun a' w' ju=>hQ a' w' ((ju.jb h2).kA A id)) ops.toList _ (fun _ h=>h) h1 a w (hi.wide _))
 | .rangeFunc ..,_,st,gV,ex,h,_,_,_,_,_=>by simp [be] at h
 | .scope ..,_,st,gV,ex,h,_,_,_,_,_=>by simp [be] at h
 | .goto ..,_,st,gV,ex,h,_,_,_,_,_=>by simp [be] at h
 | .refuse ..,_,st,gV,ex,h,_,_,_,_,_=>by simp [be] at h
theorem sr {c:Cx}{Lo:Nat→Prop}{lam:Nat→Nat}{a:Act}(f:Fr L0 c Lo lam ds s a):∀(rs:List ResultVar) (l:List AV),vA P s rs=some l→l.all AV.js=true→
  ∃vs:List Value,(rs.mapM (m:=Sem) fun | .tmp t=>pure (a.tmps.getD t undef) | .cell x t=>do loadVar t (←asAddr (a.tmps.getD x undef))).run P c.w = .ok vs c.w∧VRs c (un L0 Lo) l vs
 | [],l,h,_=>by
  simp only [vA,QQ] at h
  subst h
  exact⟨[],rfl,trivial⟩
 | .tmp t::rs,l,h,hl=>by
  simp only [vA,QP] at h
  obtain⟨l',h1,rfl⟩:=h
  simp only [RL,QR] at hl
  obtain⟨vs,h2,h3⟩:=sr f rs l' h1 hl.2
  refine⟨a.tmps.getD t undef::vs,?_,(f.slot t).vr (pn hl.1),h3⟩
  simp only [List.mapM_cons,Sem.run_bind,Sem.run_pure,Result.andThen_ok,h2]
 | .cell x t::rs,l,h,hl=>by
  simp only [vA,QN,QP] at h
  obtain⟨y,hy,l',h1,rfl⟩:=h
  simp only [RL,QR] at hl
  obtain⟨vs,h2,h3⟩:=sr f rs l' h1 hl.2
  have hx:=f.slot x
  obtain⟨u,hr,hu⟩:=oY (P:=P) f (t:=t) hx hy
  have hp:∃ad,a.tmps.getD x undef = .pointer (some ad):=by
   unfold gM at hy
   cases hq:s.ρ x<;>rw [hq] at hy hx<;>simp only at hy<;>try (cases hy; done)
   ·simp only [SR,VR] at hx; obtain⟨_,ad,h,_⟩:=hx; exact⟨ad,h⟩
   ·simp only [SR] at hx; exact⟨_,hx.1⟩
   ·simp only [SR,VR] at hx; obtain⟨_,_,h,_⟩:=hx; exact⟨_,h⟩
  obtain⟨ad,hp⟩:=hp
  rw [hp] at hr
  have vS:(loadVar t ad).run P c.w = .ok u c.w:=by simpa [Instr.loadAt,Instr.sureAddr] using hr
  refine⟨u::vs,?_,hu,h3⟩
  have ha:(asAddr (a.tmps.getD x undef)).run P c.w = .ok ad c.w:=by rw [hp]; rfl
  simp only [List.mapM_cons,Sem.run_bind,Sem.run_pure,Result.andThen_ok,h2,ha,vS]
theorem iP:un L0 none0=L0:=by funext b; simp [un,none0]
theorem Ext.close {c c':Cx}{gE:Nat→Prop}(e:Ext c none0 c' gE):Ext c none0 c' none0:=
 ⟨e.next,e.live,e.size,e.eL,e.exact,e.base,e.DU,fun _ h=>h,fun _ h=>h.elim,e.os,e.tape,e.output⟩
theorem HRel.iv {c:Cx}{L L':Nat→Prop}(hL:∀b,L' b→L b)(h:HRel c L):HRel c L':=
 ⟨h.lt,fun id o ho=>by
  have:=h.obj id o ho
  cases o with
  | cells cs=>obtain⟨m,h1,h2,h3⟩:=this; exact⟨m,h1,h2,Cells.iv hL _ _ _ h3⟩
  | row t cs=>obtain⟨h0,C,h1,h2,h4,h3⟩:=this; exact⟨h0,C,h1,h2,h4,Cells.iv hL _ _ _ h3⟩
  | map es=>
   obtain⟨iH,clock,h1,h2⟩:=this
   refine⟨iH,clock,h1,?_⟩
   clear h1
   have:∀(es:List (AV × AV)) (ms:List MapEntry),iG c L es ms→iG c L' es ms:=by
    intro es
    induction es with
    | nil=>intro ms h; cases ms with | nil=>trivial | cons m ms=>exact h.elim
    | cons e es ih=>intro ms h; cases ms with
     | nil=>exact h.elim
     | cons m ms=>obtain⟨h1,h2,h3⟩:=h; exact⟨⟨VR.iv hL _ _ h1.1,h1.2⟩,VR.iv hL _ _ h2,ih _ h3⟩
   exact this _ _ h2,h.inj,fun id hl hb=>h.out id hl (hL _ hb),fun b hb=>h.bd b (hL b hb),h.low,h.ver⟩
structure Fit (P:Program):Prop where
 mixed:P.follows .mixedOrders=true
 Hp : ∀ (f : FuncId) fn c, P.funcs[f]? = some fn → fn.body = some c → ic fn.ntmps c = true ∧ fn.name ≠ "runtime.NumGoroutine"
def IntrOK (P:Program)(intr:FuncId→Option (List AV→AHeap→Option (AV × AHeap))):Prop:=
 ∀f g,intr f=some g→(CallOK P fun f' args h=>if f'=f then g args h else none)∧∀args h r h',g args h=some (r,h')→Steady h h'
theorem gW {f : FuncId} {fn : Func} {c : Code} (hf : P.funcs[f]? = some fn) (hc : fn.body = some c) (hn : fn.name ≠ "runtime.NumGoroutine") (vs : Array Value) (w : World) : (callFunc f vs).run P w = .ok (.enter f vs) w := by
 have Qx : (fn.name == "runtime.NumGoroutine") = false := by simpa using hn
 simp [callFunc,program,Sem.run,hf,hn,hc]
theorem Ak (hP:Fit P){a7:FuncId→ca}{cf:CallF}(ih:CallOK P cf)(yQ:vR P cf)(m:Nat):CallOK P (bf P a7 cf m):=by
 intro f args h r h' hc
 unfold bf at hc
 rw [QN] at hc
 obtain⟨fn,hf,hc⟩:=hc
 rw [QN] at hc
 obtain⟨c,hb,hc⟩:=hc
 obtain⟨hB,Hq⟩:=hP.Hp f fn c hf hb
 refine⟨gW hf hb Hq,fun L0 c0 vs hh hb0 hrel hargs=>?_⟩
 split at hc
 rotate_left
 ·cases hc
 rename_i hlen
 rw [QN] at hc
 obtain⟨⟨ex,st⟩,hex,hc⟩:=hc
 have hl:=hargs.length
 refine calls_of_wp hf hb ?_
 refine gU (L0:=L0) (c0:=c0) (n:=fn.ntmps) ih yQ hb0 c hB _ _ _ hex _ _ _ ?_ ?_
 ·refine⟨by simp; omega,c0,none0,fun _=>0,rfl,⟨hh,by rw [iP]; exact hrel,fun t=>?_,fun k cs hk=>?_,fun k k' hk=>?_,fun t k off _ he=>?_,rfl,fun b hb=>hb.elim⟩,Ext.refl _ _⟩
  ·simp only [St.open,jF,fI]
   split
   ·by_cases ht:t<args.length
    ·obtain⟨v,hv,hr⟩:=hargs.get t args[t] (by simp [ht])
     have:args.getD t AV.any=args[t]:=by simp [ht]
     rw [this,Array.getD_eq_getD_getElem?,Array.getElem?_append_left (by simp; omega)]
     have JJ:vs.toArray[t]? = some v:=by simpa using hv
     rw [JJ]
     exact SR.of (by rw [iP]; exact hr)
    ·have:args.getD t AV.any = .any:=by simp [Ra (Nat.not_lt.1 ht)]
     rw [this]
     exact SR.of (by simp [VR])
   ·exact SR.of (by simp [VR])
  ·simp only [St.open,fI] at hk
   split at hk<;>cases hk
  ·simp only [St.open,fI] at hk
   split at hk<;>cases hk
  ·simp only [St.open,jF,fI] at he
   split at he
   ·by_cases ht:t<args.length
    ·obtain⟨v,hv,hr⟩:=hargs.get t args[t] (by simp [ht])
     have h1:args.getD t AV.any=args[t]:=by simp [ht]
     rw [h1] at he
     rw [he] at hr
     exact hr.elim
    ·have:args.getD t AV.any = .any:=by simp [Ra (Nat.not_lt.1 ht)]
     rw [this] at he
     cases he
   ·cases he
 ·intro a' w' ju
  have hfin:(aP P (st.open (a7 f)) fn.results.toList).map (fun r=>(r,st.h))=some (r,h')→a'.defers=[]∧∃v,(results fn a'.tmps).run P w' = .ok v w'∧(∃c' v',Ending.returned v = .returned v'∧c'.w=w'∧c'.h=h'∧VR c' L0 r v'∧HRel c' L0∧Ext c0 none0 c' none0):=by
   intro hc
   rw [QP] at hc
   obtain⟨r',vS,he⟩:=hc
   cases he
   obtain⟨hn,c',Lo,lam,rfl,f',e'⟩:=ju
   refine⟨f'.defers,?_⟩
   unfold aP at vS
   rw [QN] at vS
   obtain⟨l,hl,vS⟩:=vS
   split at vS
   rotate_left
   ·cases vS
   rename_i iO
   obtain⟨us,Om,xe⟩:=sr f' _ _ hl iO
   have Al:VRs c' L0 l us:=VRs.iv (fun b hb=>.inl hb) _ _ xe
   have vI:(results fn a'.tmps).run P c'.w = .ok (if h:us.toArray.size=1 then us.toArray[0] else .tuple us.toArray) c'.w:=by
    unfold results
    rw [←Array.toArray_toList (xs:=fn.results)]
    rw [List.mapM_toArray]
    simp only [Sem.run_bind,Sem.run_map,Result.andThen_ok,Sem.run_pure]
    exact (congrArg (fun z=>(Result.andThen z (fun (a:List Value) w'=>Result.ok a.toArray w')).andThen (fun (a:Array Value) w'=>Result.ok (if h:a.size=1 then a[0] else Value.tuple a) w')) Om).trans rfl
   refine⟨_,vI,c',_,rfl,rfl,f'.h,?_,HRel.iv (fun b hb=>.inl hb) f'.rel,e'.close⟩
   split at vS
   ·rename_i x
    cases vS
    cases us with
    | nil=>exact Al.elim
    | cons u us=>cases us with
     | nil=>exact Al.1
     | cons u2 us=>exact Al.2.elim
   ·rename_i hne
    cases vS
    have JM:us.length≠1:=by
     intro h1
     rw [←Al.length] at h1
     cases l with
     | nil=>simp at h1
     | cons x l=>cases l with
      | nil=>exact hne x rfl
      | cons y l=>simp at h1
    have:¬us.toArray.size=1:=by simpa using JM
    rw [dif_neg this]
    simp only [VR]
    exact⟨us.toArray,rfl,Al⟩
  cases ex with
  | norm=>exact hfin hc
  | ret=>exact hfin hc
  | exit id=>cases hc
end
end Go.R
