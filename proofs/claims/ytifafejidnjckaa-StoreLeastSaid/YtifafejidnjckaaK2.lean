/- Part of the proof: ROps5, ROps6, ROps7, RFrzV, ROpAll, RFrz, RCode. -/
import Derived.Test.YtifafejidnjckaaK1
import Derived.MapKept
import Derived.Laws.CopyRow
import Derived.Laws.BytesArg
import Derived.Laws.IdiomStrings
import Derived.Tactics
set_option linter.unusedVariables false
set_option linter.unusedSimpArgs false
set_option maxRecDepth 100000
open Array renaming getElem?_eq_some_iff → U1, getElem?_setIfInBounds → Vr, length_toList → Vw, getElem?_modify → Vy, ext' → V6
open Bool renaming and_eq_true → Ux, false_eq_true → UE, not_true → Vu, not_eq_true' → VC, true_and → V5
open List renaming getElem?_eq_some_iff → UA, length_set → UF, all_eq_true → UN, mem_cons → UT, map_cons → UX, getElem?_eq_none → U3, mem_map → U8, take_of_length_le → Va, eq_nil_of_length_eq_zero → Vb, all_cons → Vi, ext_getElem? → VV, getElem?_set → VW
open Nat renaming le_refl → Uy, zero_add → UR, beq → U5, le_succ → VD, lt_succ_of_lt → VI, min_eq_left → VQ
open Option renaming bind_eq_some_iff → Ut, bind_some → Uu, map_eq_some_iff → Uv, map_some → Uz, isSome_iff_exists → U2, getD_some → Vp
open Option.some renaming injEq → Uw
open Prod.mk renaming injEq → UB
namespace Go.R
open Go
section
variable {P:Program}{L0:Nat→Prop}{c0:Cx}{n:Nat}{ds:List Nat}{o:Oper}{s:RS}
theorem Fr.uz {c:Cx}{Lo:Nat→Prop}{lam:Nat→Nat}{a:Act}(f:Fr L0 c Lo lam ds s a)(hbs:c.base≤c.w.heap.size){id:Nat}{es pJ:List (AV × AV)}(ho:c.h.get id=some (.map es)){kp pQ:Array MapEntry}{clock nu:Nat}
  (hb:c.w.heap[(c.β id).1]? = some (.map kp clock)) (he:ko c (un L0 Lo) pJ pQ.toList) :
  Ext c Lo ⟨c.β,s.h.put id (.map pJ),{c.w with heap:=c.w.heap.setIfInBounds (c.β id).1 (.map pQ nu)},c.base⟩ Lo∧
   Fr L0 ⟨c.β,s.h.put id (.map pJ),{c.w with heap:=c.w.heap.setIfInBounds (c.β id).1 (.map pQ nu)},c.base⟩ Lo lam ds {s with h:=s.h.put id (.map pJ)} a:=by
 have hl:Live c.h id:=⟨f.rel.lt _ _ ho,by simp [ho]⟩
 have hlt:(c.β id).1<c.w.heap.size:=(U1.1 hb).1
 have hne:∀b,b≠(c.β id).1→({c.w with heap:=c.w.heap.setIfInBounds (c.β id).1 (.map pQ nu)}:World).heap[b]? = c.w.heap[b]?:=by
  intro b hb
  simp only [Vr]
  rw [if_neg (Ne.symm hb)]
 rw [←f.h]
 refine f.upd (β':=c.β) (h':=c.h.put id (.map pJ)) id (.map pJ) (Steady.put _ _ _) (VI hl.1) (by simp [AHeap.put,beq_nat])
  (fun j5 h1=>.inr ⟨by simp [AHeap.put,beq_nat,h1],rfl⟩) (fun _=>⟨hl,rfl⟩) (.inr ⟨id,hl,rfl,.inl rfl⟩) (fun _=>?_)
  (fun b _ h1=>hne b h1) (fun b _ h1=>hne b h1) (by simp) hbs rfl rfl rfl (fun e=>⟨pQ,nu,by simp [hlt],he.ext e⟩)
 simp only [Cx.len,World.shape?,hb,Vr,hlt,if_true]
theorem uA {x y:AV}(hs:sameShape x y=true)(hq:fe x y=true):x=y:=by
 cases x<;>cases y<;>simp only [sameShape] at hs<;>try (cases hs; done)
 ·simp only [fe,iM,Ux,beq_iff_eq] at hq
  obtain⟨rfl,rfl⟩:=hq
  rfl
 ·rename_i a b
  simp only [fe,iM,beq_iff_eq] at hq
  congr 1
  cases a; cases b
  congr 1
  exact Array.toList_inj.1 hq
 ·rename_i xs ys
  simp only [Ux,beq_iff_eq] at hs
  obtain⟨⟨_,hx⟩,hy⟩:=hs
  obtain⟨ns,rfl⟩:=gT hx
  obtain⟨ms,rfl⟩:=gT hy
  simp only [fe,jT,decide_eq_true_eq] at hq
  rw [hq]
theorem na:∀ns:List Int,iK (ns.map fun n=>AV.int .i64 n)=some (ns.map fun n=>Value.int .i64 n)
 | []=>rfl
 | n::ns=>by simp [iK,AV.fV,na ns]
theorem yo {t:TypeId}{k:AV}(h:fW P t k=true):∃u,k.xV=some u∧Instr.sameBits 10000 u u=true:=by
 unfold fW at h
 have Kg:∀cs:List AV,cs.all jQ=true→∃u,(AV.agg cs).xV=some u∧Instr.sameBits 10000 u u=true:=by
  intro cs hcs
  obtain⟨ns,rfl⟩:=gT hcs
  refine⟨.agg (ns.map fun n=>Value.int .i64 n).toArray,by simp [AV.xV,na],?_⟩
  simp only [Instr.sameBits,beq_self_eq_true,V5,UN]
  intro p hp
  have:∀(l:List Value),(∀v∈l,∃m,v=Value.int .i64 m)→∀p∈l.zip l,Instr.sameBits 9999 p.1 p.2=true:=by
   clear hp p
   intro l hl p hp
   have h1:p.1=p.2∧p.1∈l:=by
    clear hl
    induction l with
    | nil=>cases hp
    | cons v l ih=>
     simp only [List.zip_cons_cons,UT] at hp
     rcases hp with rfl | hp
     ·exact⟨rfl,by simp⟩
     ·obtain⟨h1,h2⟩:=ih hp; exact⟨h1,by simp [h2]⟩
   obtain⟨h1,h2⟩:=h1
   obtain⟨m,hm⟩:=hl _ h2
   rw [←h1,hm]
   simp [Instr.sameBits]
  exact this (ns.map fun n=>Value.int .i64 n) (fun v hv=>by obtain⟨m,_,rfl⟩:=U8.1 hv; exact⟨m,rfl⟩) p (by simpa using hp)
 split at h
 ·exact⟨_,rfl,by simp [Instr.sameBits]⟩
 ·exact⟨_,rfl,by simp [Instr.sameBits,tl]⟩
 ·simp only [Ux] at h; exact Kg _ h.1.1.2
 ·simp only [Ux] at h; exact Kg _ h.1.1.2
 ·cases h
theorem rE {c:Cx}{L:Nat→Prop}{k v:AV}{kv vv:Value}(hc:k.xV.isSome=true)(hk:VR c L k kv)(hv:VR c L v vv) :
  ∀(es pJ:List (AV × AV)) (ms:List MapEntry) (i:Nat),ko c L es ms→ui k v es=some pJ→
   iv k es≠none∧(place k es ms i=none∧(∀b,ko c L pJ (ms++[{key:=kv,val:=vv,born:=b}]))∨
    ∃j u m,place k es ms i=some (i+j,u)∧ms[j]? = some m∧m.key=kv∧ko c L pJ (ms.modify j fun e=>{e with key:=kv,val:=vv}))
 | [],pJ,[],i,_,h=>by
  simp only [ui,Uw] at h
  subst h
  exact⟨by simp [iv],.inl ⟨rfl,fun b=>⟨⟨hk,hc⟩,hv,trivial⟩⟩⟩
 | (k',v')::es,pJ,m::ms,i,he,h=>by
  obtain⟨⟨CR,PG⟩,zn,sH⟩:=he
  simp only [ui] at h
  split at h
  rotate_left
  ·cases h
  rename_i hs
  split at h
  ·rename_i hq
   cases h
   have vR:k=k':=uA hs hq
   obtain⟨u,hu⟩:=U2.1 hc
   refine⟨by simp [iv,hs,hq],.inr ⟨0,m.val,m,by simp [place,hq],rfl,?_,?_⟩⟩
   ·subst vR
    rw [uu hu hk,uu hu CR]
   ·exact⟨⟨hk,hc⟩,hv,sH⟩
  ·rename_i hq
   rw [Uv] at h
   obtain⟨RE,h1,rfl⟩:=h
   obtain⟨h2,h3⟩:=rE hc hk hv es RE ms (i+1) sH h1
   refine⟨by simp [iv,hs,hq,h2],?_⟩
   have uB:fe k k'=false:=by simpa using hq
   rcases h3 with⟨h3,h4⟩| ⟨j,u,m',h3,h4,h5,h6⟩
   ·exact .inl ⟨by simp [place,uB,h3],fun b=>⟨⟨CR,PG⟩,zn,h4 b⟩⟩
   ·exact .inr ⟨j+1,u,m',by simp [place,uB,h3]; omega,by simpa using h4,h5,⟨⟨CR,PG⟩,zn,h6⟩⟩
 | [],_,_::_,_,h,_=>h.elim
 | _::_,_,[],_,h,_=>h.elim
theorem rF {x:AV}(h:x.kj=true):∀k off,x≠.lp k off:=by rintro k off rfl; simp [AV.kj] at h
theorem sO {c:Cx}{Lo:Nat→Prop}{lam:Nat→Nat}{a:Act}(f:Fr L0 c Lo lam ds s a)(hbs:c.base≤c.w.heap.size){t:TypeId}{m k x:AV}{mv kv xv:Value}(hm:SR c L0 Lo lam s.bx m mv)(hk:SR c L0 Lo lam s.bx k kv)(hx:SR c L0 Lo lam s.bx x xv){h':AHeap}
  (h:iw P s.h t m k x=some h'):∃c',(Instr.mapUpdate t mv kv xv).run P c.w = .ok () c'.w∧Ext c Lo c' Lo∧Fr L0 c' Lo lam ds {s with h:=h'} a:=by
 unfold iw at h
 rw [Ut] at h
 obtain⟨d,hd,h⟩:=h
 cases d<;>simp only at h<;>try (cases h; done)
 rename_i kt et
 split at h
 ·cases h
 rename_i jB
 obtain⟨sM,hargs⟩:fW P kt k=true∧x.kj=true:=by
  cases h1:fW P kt k<;>cases h2:x.kj<;>simp [h1,h2] at jB ⊢
 have vS:VR c (un L0 Lo) k kv:=hk.vr (by rintro k0 off rfl; simp [fW] at sM)
 have RF:=hx.vr (rF hargs)
 cases m<;>simp only at h<;>try (cases h; done)
 rename_i id
 rw [Ut] at h
 obtain⟨ob,ho,h⟩:=h
 cases ob with
 | cells cs=>cases h
 | row t cs=>cases h
 | map es=>
 rw [Uv] at h
 obtain⟨pJ,hu,rfl⟩:=h
 simp only [SR,VR] at hm
 obtain⟨hi,r,rfl,hr⟩:=hm
 rw [←f.h] at ho
 have hl:Live c.h id:=⟨f.rel.lt _ _ ho,by simp [ho]⟩
 have MH:=hr hl
 subst MH
 obtain⟨kp,clock,h1,h2⟩:=f.rel.obj _ _ ho
 obtain⟨u0,Ha,RG⟩:=yo sM
 obtain⟨hf,hp⟩:=rE (by simp [Ha]) vS RF es pJ kp.toList 0 h2 hu
 have CS:=tm sM vS c.w h2 hf
 have HL:=mX (P:=P) false 9998 sM vS c.w
 have hget:(getObj (c.β id).1).run P c.w = .ok (.map kp clock) c.w:=MapKept.run_getObj_map h1
 rcases hp with⟨hp,rr⟩| ⟨j,u,m,hp,hj,hmk,rr⟩
 ·obtain⟨e',f'⟩:=f.uz hbs ho h1 (pQ:=kp.push {key:=kv,val:=xv,born:=clock}) (nu:=clock+1) (pJ:=pJ) (by simpa using rr clock)
  refine⟨_,?_,e',f'⟩
  unfold Instr.mapUpdate
  rw [hp] at CS
  simp only [Sem.run_bind,bn hd,Result.andThen_ok,hget,HL,CS]
  exact MapKept.run_setObj_map _ h1
 ·obtain⟨e',f'⟩:=f.uz hbs ho h1 (pQ:=kp.modify j fun e=>{e with key:=kv,val:=xv}) (nu:=clock) (pJ:=pJ) (by simpa using rr)
  refine⟨_,?_,e',f'⟩
  unfold Instr.mapUpdate
  rw [hp,UR] at CS
  have xP:kp[j]? = some m:=by simpa using hj
  have FO:(Instr.keyThatStays m.key kv).run P c.w = .ok kv c.w:=by
   rw [hmk]
   unfold Instr.keyThatStays
   rw [uu Ha vS,RG]
   rfl
  simp only [Sem.run_bind,bn hd,Result.andThen_ok,hget,HL,CS,xP,Uz,Vp,FO]
  exact MapKept.run_setObj_map _ h1
theorem nV (hb0:c0.base≤c0.w.heap.size){t:TypeId}{m k x:Operand}(ho:o.op = .mapUpdate t m k x∨o.op = .insert t m k x)(qe:o.dst=none){h':AHeap}
  (h:iw P s.h t (bJ s.ρ m) (bJ s.ρ k) (bJ s.ρ x)=some h'):iV P L0 c0 n ds o s {s with h:=h'}:=by
 rintro a w K Q ⟨hn,c,Lo,lam,rfl,f,e⟩ hK
 obtain⟨c',hr,e',f'⟩:=sO f (iT e hb0) (bA f m) (bA f k) (bA f x) h
 unfold Oper.wp
 have:(execOp a.eval o).run P c.w = .ok .skip c'.w:=by rcases ho with ho | ho<;>simp [execOp,ho,hr]
 rw [this,Oper.upon_skip]
 have HQ:a.put o.dst undef=a:=by rw [qe]; rfl
 rw [HQ]
 exact hK _ _ ⟨hn,c',Lo,lam,rfl,f',e.trans e'⟩
theorem C3 (hb0:c0.base≤c0.w.heap.size)(hd:fY n ds o){t:TypeId}{x:Operand}(ho:o.op = .call {callee:=.builtin .clear,args:=#[x],argTypes:=#[t]}){h':AHeap}
  (h:kO P s.h t (bJ s.ρ x)=some h'):iV P L0 c0 n ds o s ({s with h:=h'}.set o.dst (.tup [])):=by
 rintro a w K Q ⟨hn,c,Lo,lam,rfl,f,e⟩ hK
 unfold kO at h
 rw [Ut] at h
 obtain⟨d,vX,h⟩:=h
 have hx:=bA f x
 have fin:∀c',(Builtin.clear_ #[t] o.type #[a.eval x]).run P c.w = .ok (.tuple #[]) c'.w→Ext c Lo c' Lo→Fr L0 c' Lo lam ds {s with h:=h'} a→o.wp P a c.w K Q:=by
  intro c' hr e' f'
  unfold Oper.wp
  have:(execOp a.eval o).run P c.w = .ok (.value (.tuple #[])) c'.w:=by
   simp [execOp,ho,resolve,invoke,builtin,hr]
  rw [this,Oper.upon_value]
  exact hK _ _ ⟨(fX _ _ _).trans hn,c',Lo,lam,rfl,f'.set (SR.of (by simp [VR,VRs])) (fun t ht=>by rw [hn]; exact hd t ht),e.trans e'⟩
 cases Br:bJ s.ρ x<;>rw [Br] at h hx<;>simp only at h<;>try (cases h; done)
 ·rename_i id off len ib
  simp only [SR,VR] at hx
  split at h
  ·rename_i hl0
   cases h
   obtain⟨ad,cap,pR⟩:∃ad cap,a.eval x = .slice ad 0 cap:=by
    rcases hx with⟨_,_,_,ad,hx⟩| ⟨_,_,ad,cap,hx,_⟩
    ·exact⟨ad,0,hx⟩
    ·exact⟨ad,cap,by rw [hx,hl0]⟩
   refine fin c ?_ (Ext.refl _ _) f
   cases ad<;>cases d<;>simp [Builtin.clear_,bn vX,pR]
  rename_i hl0
  split at h
  ·cases h
  rename_i jL
  cases d<;>simp only at h<;>try (cases h; done)
  rename_i et
  simp only [Ut] at h
  obtain⟨i,hi,z,hz,ob,hob,h⟩:=h
  cases ob with
  | map es=>cases h
  | row t cs=>cases h
  | cells cs=>
  simp only at h
  split at h
  rotate_left
  ·cases h
  rename_i hh
  obtain⟨C4,Cy,hz0,MI,hoff⟩:=hh
  cases h
  rcases hx with hx | ⟨_,hid,ad,cap,hx,hlc,zo,hlive⟩
  ·exact absurd hx.1 jL
  rw [←f.h] at hob
  have hl:Live c.h id:=⟨f.rel.lt _ _ hob,by simp [hob]⟩
  obtain⟨q,hp,hq,hc⟩:=f.rel.obj _ _ hob
  have ha:ad=some ⟨(c.β id).1,(c.β id).2+off,none⟩:=by
   rcases hlive hl with⟨h1,_⟩| h1
   ·exact h1
   ·exact absurd h1 (by omega)
  subst ha
  obtain⟨zv,CT,yl⟩:=jm hz c.w
  obtain⟨xO,hz1⟩:=iy MI (kQ (c:=c) (L:=un L0 Lo) yl)
  have MJ:=xO.length
  have Cz:zv.cells.size=i.size:=by rw [←Vw,←MJ,Cy]
  have hnl:(Builtin.zeroCells zv.cells len).toList.length=len*i.size:=by simp [Builtin.zeroCells,Cz]
  have hv:VRs c (un L0 Lo) (ic z.cells len) (Builtin.zeroCells zv.cells len).toList:=by
   have:=pa xO len (len*zv.cells.size) (by rw [Cz,Cy]; exact Uy _) (by omega)
   rw [Va (by simp [Cz,Cy])] at this
   exact this
  have hone:∀v∈(Builtin.zeroCells zv.cells len).toList,v.oneCell'=true:=by
   intro v hv
   simp only [Builtin.zeroCells,Array.toList_map,U8] at hv
   obtain⟨j,hj,rfl⟩:=hv
   have qf:j % zv.cells.size<zv.cells.size:=Nat.mod_lt _ (by omega)
   rw [getElem!_pos zv.cells _ qf]
   exact hz1 _ (by simp)
  have PH:(ic z.cells len).length=len*i.size:=by rw [iA,Cy]
  have hst:=jA (P:=P) hp.jR (base:=(c.β id).2) (off:=off) (vs:=(Builtin.zeroCells zv.cells len).toList) (by rw [hnl]; rw [C4] at hoff; omega) hone
  obtain⟨q1,q2,q3,q4⟩:=gj (Builtin.zeroCells zv.cells len).toList (c.β id).1 ((c.β id).2+off) c.w
  have zp:hZ c (c.β id).1 q:=hp
  obtain⟨C,HU,hb,qP⟩:=hp
  obtain⟨C',g1,g2,g3⟩:=eT (Builtin.zeroCells zv.cells len).toList (c.β id).1 ((c.β id).2+off) c.w C HU (0,0) hb (by rw [hnl]; rw [C4] at hoff; omega)
  obtain⟨e',f'⟩:=f.upd (w':=c.w.setCells (c.β id).1 ((c.β id).2+off) (Builtin.zeroCells zv.cells len).toList) (β':=c.β) (h':=s.h.put id (.cells (da cs off (ic z.cells len)))) id (.cells (da cs off (ic z.cells len)))
   (by rw [f.h]; exact Steady.put _ _ _) (by rw [←f.h]; exact VI hl.1) (by simp [AHeap.put,beq_nat]) (fun j5 h1=>.inr ⟨by rw [f.h]; simp [AHeap.put,beq_nat,h1],rfl⟩) (fun _=>⟨hl,rfl⟩) (.inr ⟨id,hl,rfl,.inl rfl⟩)
   (fun _=>by simp only [Cx.len,World.shape?,g1,hb,Uz,Vp,g2])
   (fun b _ hne=>dA _ _ _ _ _ hne) (fun b _ hne=>dA _ _ _ _ _ hne) (by rw [q1]; exact Uy _) (iT e hb0) q2 q3 q4
   (fun ee=>⟨q,zp.setCells (by rw [hnl]; rw [C4] at hoff; omega) _ _ _,by rw [gU]; exact hq,iz zp.jR hc hv hone (by rw [PH]; rw [C4] at hoff; omega) (by omega) ee rfl⟩)
  refine fin _ ?_ e' f'
  cases len with
  | zero=>exact absurd rfl hl0
  | succ len=>simp [Builtin.clear_,bn vX,hx,CT,hst]
 ·cases h
  simp only [SR,VR] at hx
  refine fin c ?_ (Ext.refl _ _) f
  simp [Builtin.clear_,bn vX,hx]
 ·rename_i id
  rw [Ut] at h
  obtain⟨ob,ho,h⟩:=h
  cases ob with
  | cells cs=>cases h
  | row t cs=>cases h
  | map es=>
  cases h
  simp only [SR,VR] at hx
  obtain⟨hi,r,pR,hr⟩:=hx
  rw [←f.h] at ho
  have hl:Live c.h id:=⟨f.rel.lt _ _ ho,by simp [ho]⟩
  have MH:=hr hl
  subst MH
  obtain⟨kp,clock,h1,h2⟩:=f.rel.obj _ _ ho
  obtain⟨e',f'⟩:=f.uz (iT e hb0) ho h1 (pQ:=#[]) (nu:=clock) (pJ:=[]) trivial
  refine fin _ ?_ e' f'
  have hget:(getObj (c.β id).1).run P c.w = .ok (.map kp clock) c.w:=MapKept.run_getObj_map h1
  have C5:=MapKept.run_setObj_map (P:=P) (.map #[] clock) h1
  simp [Builtin.clear_,bn vX,pR,hget,C5]
end
end Go.R
namespace Go.R
open Go
section
variable {P:Program}{L0:Nat→Prop}{c0:Cx}{n:Nat}{ds:List Nat}{o:Oper}{s:RS}
theorem lU {w:World}{t t2 ty e:TypeId}{i:TypeInfo}(ht:P.underlying t=some (.slice e))(hi:P.info? e=some i){base:Option Addr}{len cap:Nat}{x:Value}{news:List Value}{m:Nat}(hs:Src P i.size t2 x m news w)(hm:m≤len) :
  (Builtin.copy_ #[t,t2] ty #[.slice base len cap,x]).run P w=match base with | none=>.ok (goInt m) w | some a=>((storeCells a news).run P w).andThen fun _ w'=>.ok (goInt m) w':=by
 have Kh:Nat.min m len=m:=VQ hm
 have hlen:=hs.len w
 have hc:=hs.cells
 have hsz:(sizeOf e).run P w = .ok i.size w:=by simp [sizeOf,typeInfo,hi]
 unfold Builtin.copy_
 cases base with
 | none=>simp [bn ht,hlen,Kh,hsz,hc]
 | some a=>simp [bn ht,hlen,Kh,hsz,hc,Sem.run_bind]
theorem FP (hb0:c0.base≤c0.w.heap.size)(hd:fY n ds o){t t2:TypeId}{dx sx:Operand}(ho:o.op = .call {callee:=.builtin .copy,args:=#[dx,sx],argTypes:=#[t,t2]}){y:AV}{h':AHeap}
  (h:pK P s.h t t2 (bJ s.ρ dx) (bJ s.ρ sx)=some (y,h')):iV P L0 c0 n ds o s ({s with h:=h'}.set o.dst y):=by
 rintro a w K Q ⟨hn,c,Lo,lam,rfl,f,e0⟩ hK
 have hbs:=iT e0 hb0
 unfold pK at h
 rw [Ut] at h
 obtain⟨d,vX,h⟩:=h
 cases d<;>simp only at h<;>try (cases h; done)
 rename_i e
 rw [Ut] at h
 obtain⟨i,hi,h⟩:=h
 rw [Ut] at h
 obtain⟨⟨new,m⟩,hcs,h⟩:=h
 simp only at h
 split at h
 ·cases h
 rename_i gu
 have gu:iu P t2 (bJ s.ρ sx)=true:=by simpa using gu
 have PI:∀st,bJ s.ρ sx = .str st→P.underlying t2=some .string:=by
  intro st hst
  rw [hst] at gu
  unfold iu at gu
  simp only at gu
  split at gu
  ·assumption
  ·cases gu
 have rG:(∀st,bJ s.ρ sx≠.str st)→∃e',P.underlying t2=some (.slice e'):=by
  intro hne
  unfold iu at gu
  split at gu
  ·rename_i st hst; exact absurd hst (hne st)
  ·split at gu
   ·rename_i e' he; exact⟨e',he⟩
   ·cases gu
 have hk:(∃e',P.underlying t2=some (.slice e'))∨P.underlying t2=some .string:=by
  by_cases hst:∃st,bJ s.ρ sx = .str st
  ·obtain⟨st,hst⟩:=hst; exact .inr (PI st hst)
  ·exact .inl (rG fun st MK=>hst ⟨st,MK⟩)
 obtain⟨news,hS,hv⟩:=pb f (bA f sx) hk PI rG hcs
 have vF:=bA f dx
 have fin:∀c',(Builtin.copy_ #[t,t2] o.type #[a.eval dx,a.eval sx]).run P c.w = .ok (goInt m) c'.w→Ext c Lo c' Lo→Fr L0 c' Lo lam ds {s with h:=h'} a→y = .int .i64 m→o.wp P a c.w K Q:=by
  intro c' hr e' f' hy
  unfold Oper.wp
  have:(execOp a.eval o).run P c.w = .ok (.value (goInt m)) c'.w:=by
   simp [execOp,ho,resolve,invoke,builtin,hr]
  rw [this,Oper.upon_value]
  exact hK _ _ ⟨(fX _ _ _).trans hn,c',Lo,lam,rfl,f'.set (SR.of (by subst hy; simp [VR,goInt])) (fun t ht=>by rw [hn]; exact hd t ht),e0.trans e'⟩
 cases Br:bJ s.ρ dx<;>rw [Br] at h vF<;>simp only at h<;>try (cases h; done)
 ·split at h
  rotate_left
  ·cases h
  rename_i rq
  cases h
  simp only [SR,VR] at vF
  obtain⟨ad,vF⟩:∃ad:Option Addr,a.eval dx = .slice ad 0 0:=⟨none,vF⟩
  refine fin c ?_ (Ext.refl _ _) f (by rw [rq]; rfl)
  rw [vF,lU vX hi hS (by omega)]
  cases ad with
  | none=>rfl
  | some ad=>
   have:news=[]:=Vb (by rw [hS.newsLen,rq]; simp)
   subst this
   rfl
 ·rename_i id off len ib
  split at h
  ·rename_i hid
   split at h
   rotate_left
   ·cases h
   rename_i rq
   cases h
   simp only [SR,VR] at vF
   rcases vF with⟨_,_,_,ad,vF⟩| vF
   rotate_left
   ·exact absurd hid vF.1
   refine fin c ?_ (Ext.refl _ _) f (by rw [rq]; rfl)
   rw [vF,lU vX hi hS (by omega)]
   cases ad with
   | none=>rfl
   | some ad=>
    have:news=[]:=Vb (by rw [hS.newsLen,rq]; simp)
    subst this
    rfl
  rename_i jL
  rw [Ut] at h
  obtain⟨ob,hob,h⟩:=h
  cases ob with
  | map es=>cases h
  | row t cs=>cases h
  | cells cs=>
  simp only at h
  split at h
  rotate_left
  ·cases h
  rename_i hh
  obtain⟨C4,RH,hoff⟩:=hh
  cases h
  simp only [SR,VR] at vF
  rcases vF with vF | ⟨_,hid,ad,cap,vF,hlc,zo,hlive⟩
  ·exact absurd vF.1 jL
  rw [←f.h] at hob
  have hl:Live c.h id:=⟨f.rel.lt _ _ hob,by simp [hob]⟩
  obtain⟨q,hp,hq,hc⟩:=f.rel.obj _ _ hob
  have hnl:=hS.newsLen
  have hvl:=hv.length
  have hr:=lU (ty:=o.type) vX hi hS RH (base:=ad) (cap:=cap)
  by_cases ha:ad=some ⟨(c.β id).1,(c.β id).2+off,none⟩
  ·subst ha
   simp only at hr
   have hst:=jA (P:=P) hp.jR (base:=(c.β id).2) (off:=off) (vs:=news) (by omega) hS.one
   rw [hst] at hr
   simp only [Result.andThen_ok] at hr
   obtain⟨q1,q2,q3,q4⟩:=gj news (c.β id).1 ((c.β id).2+off) c.w
   have zp:hZ c (c.β id).1 q:=hp
   obtain⟨C,HU,hb,qP⟩:=hp
   obtain⟨C',g1,g2,g3⟩:=eT news (c.β id).1 ((c.β id).2+off) c.w C HU (0,0) hb (by omega)
   obtain⟨e',f'⟩:=f.upd (w':=c.w.setCells (c.β id).1 ((c.β id).2+off) news) (β':=c.β) (h':=s.h.put id (.cells (da cs off new))) id (.cells (da cs off new))
    (by rw [f.h]; exact Steady.put _ _ _) (by rw [←f.h]; exact VI hl.1) (by simp [AHeap.put,beq_nat]) (fun j5 h1=>.inr ⟨by rw [f.h]; simp [AHeap.put,beq_nat,h1],rfl⟩) (fun _=>⟨hl,rfl⟩) (.inr ⟨id,hl,rfl,.inl rfl⟩)
    (fun _=>by simp only [Cx.len,World.shape?,g1,hb,Uz,Vp,g2])
    (fun b _ hne=>dA _ _ _ _ _ hne) (fun b _ hne=>dA _ _ _ _ _ hne) (by rw [q1]; exact Uy _) hbs q2 q3 q4
    (fun ee=>⟨q,zp.setCells (by omega) _ _ _,by rw [gU]; exact hq,iz zp.jR hc hv hS.one (by omega) (by omega) ee rfl⟩)
   refine fin _ ?_ e' f' rfl
   rw [vF]
   exact hr
  ·have hz:new=[]∧m=0∧news=[]:=by
    rcases hlive hl with⟨h1,_⟩| h1
    ·exact absurd h1 ha
    ·have h0:m=0:=by omega
     have h2:news=[]:=Vb (by rw [hnl,h0]; simp)
     subst h2
     exact⟨Vb (by simpa using hvl),h0,rfl⟩
   obtain⟨rfl,rfl,rfl⟩:=hz
   have mZ:da cs off []=cs:=by simp [da]
   rw [mZ] at *
   obtain⟨e',f'⟩:=f.upd (w':=c.w) (β':=c.β) (h':=s.h.put id (.cells cs)) id (.cells cs)
    (by rw [f.h]; exact Steady.put _ _ _) (by rw [←f.h]; exact VI hl.1) (by simp [AHeap.put,beq_nat]) (fun j5 h1=>.inr ⟨by rw [f.h]; simp [AHeap.put,beq_nat,h1],rfl⟩) (fun _=>⟨hl,rfl⟩) (.inr ⟨id,hl,rfl,.inl rfl⟩)
    (fun _=>rfl) (fun b _ hne=>rfl) (fun b _ hne=>rfl) (Uy _) hbs rfl rfl rfl
    (fun ee=>nQ.ext ee ⟨q,hp,hq,hc⟩ rfl)
   refine fin _ ?_ e' f' rfl
   rw [vF,hr]
   cases ad<;>rfl
end
end Go.R
namespace Go.R
open Go
section
variable {P:Program}{L0:Nat→Prop}{c0:Cx}{n:Nat}{ds:List Nat}{o:Oper}{s:RS}
theorem pc {e:TypeId}(h:CM P e=true):P.underlying e=some (.int .u8)∧eO P e=some 1:=by
 unfold CM at h
 simp only [Ux,beq_iff_eq] at h
 obtain⟨h1,h2⟩:=h
 refine⟨?_,h2⟩
 split at h1
 ·assumption
 ·cases h1
theorem zC {c:Cx}{L:Nat→Prop}:∀{cs:List AV} {l:List UInt8} {vs:List Value},G5 cs=some l→VRs c L cs vs→∃xs:List Int,vs=xs.map (Value.int .u8)∧l=xs.map fun n=>UInt8.ofNat n.toNat
 | [],l,[],h,_=>by simp only [G5,Uw] at h; subst h; exact⟨[],rfl,rfl⟩
 | x::cs,l,v::vs,h,hv=>by
  unfold G5 at h
  split at h
  ·rename_i heq; cases heq
  ·rename_i n xs heq
   cases heq
   rw [Uv] at h
   obtain⟨l',h1,rfl⟩:=h
   obtain⟨ys,rfl,rfl⟩:=zC h1 hv.2
   have h2:=hv.1
   simp only [VR] at h2
   subst h2
   exact⟨n::ys,rfl,rfl⟩
  ·cases h
 | [],_,_::_,_,h=>h.elim
 | _::_,_,[],_,h=>h.elim
theorem uC (xs:List Int):strOfNums xs=⟨(xs.map fun n=>UInt8.ofNat n.toNat).toArray⟩:=rfl
theorem vY {w:World}{src dst e:TypeId}{v:Value}{m:Nat}{xs:List Int}(hs:P.underlying src=some (.slice e))(he:P.underlying e=some (.int .u8))(hd:P.underlying dst=some .string)
  (hS:Src P 1 src v m (xs.map (Value.int .u8)) w) (hv:∃a cap,v = .slice a m cap):(convert src dst v).run P w = .ok (.string (strOfNums xs)) w:=by
 obtain⟨a,cap,rfl⟩:=hv
 have hc:=hS.cells
 have hl:=hS.newsLen
 cases a with
 | none=>
  have:xs=[]:=by
   simp [Builtin.firstCells] at hc
   cases xs with
   | nil=>rfl
   | cons x xs=>simp at hc
  subst this
  exact run_convert_bytes_nil w src e hs he m cap dst hd
 | some a=>
  rw [run_convert_bytes_string w src dst e (some a) m cap hs he hd]
  have h1:(loadCells a m).run P w = .ok (xs.map (Value.int .u8)).toArray w:=by simpa [Builtin.firstCells] using hc
  rw [run_bytesToString w a m cap xs h1,foldl_push_bytes]
  simp [strOfNums,ByteArray.empty,ByteArray.emptyWithCapacity]
  rfl
theorem sP {c:Cx}{Lo:Nat→Prop}{lam:Nat→Nat}{x:AV}{v:Value}{h:AHeap}{size m:Nat}{new:List AV}(hx:SR c L0 Lo lam s.bx x v)(hc:dU h size x=some (new,m))(hne:∀st,x≠.str st):∃a cap,v = .slice a m cap:=by
 unfold dU at hc
 cases x<;>simp only at hc<;>try (cases hc; done)
 ·exact absurd rfl (hne _)
 ·cases hc
  simp only [SR,VR] at hx
  subst hx
  exact⟨none,0,rfl⟩
 ·split at hc
  ·cases hc
   simp only [SR,VR] at hx
   obtain⟨a,cap,rfl,_⟩:=hx
   exact⟨a,cap,rfl⟩
  ·cases hc
 ·split at hc
  ·split at hc
   ·cases hc
    simp only [SR,VR] at hx
    rename_i hid hl0
    rcases hx with⟨_,_,_,a,rfl⟩| ⟨_,_,a,cap,rfl,_⟩
    ·exact⟨a,0,rfl⟩
    ·exact⟨a,cap,by rw [hl0]⟩
   ·cases hc
  rename_i jL
  rw [Ut] at hc
  obtain⟨ob,_,hc⟩:=hc
  cases ob with
  | map es=>cases hc
  | row t cs=>cases hc
  | cells cs=>
   simp only at hc
   split at hc
   ·cases hc
    simp only [SR,VR] at hx
    rcases hx with hx | ⟨_,_,a,cap,rfl,_⟩
    ·exact absurd (.inl hx.1) jL
    exact⟨a,cap,rfl⟩
   ·cases hc
theorem bytes_VRs {c:Cx}{L:Nat→Prop}:∀l:List UInt8,VRs c L (l.map fun b=>AV.int .u8 b.toNat) (l.map fun b=>Value.int .u8 b.toNat)
 | []=>trivial
 | b::l=>⟨by simp [VR],bytes_VRs l⟩
theorem uD {w:World}{b o k:Nat}{C:Array Value}{e:TypeId}{fr:Nat × Nat}(hb:w.heap[b]? = some (.cells C e fr))(ho:C.size≤o)(hk:k≠0) :
  (∀b',gS w (w.freeze ⟨b,o,none⟩ k) b')∧(∀b',b'≠b→(w.freeze ⟨b,o,none⟩ k).heap[b']? = w.heap[b']?)∧(w.freeze ⟨b,o,none⟩ k).heap.size=w.heap.size∧(w.freeze ⟨b,o,none⟩ k).os=w.os∧(w.freeze ⟨b,o,none⟩ k).tape=w.tape∧(w.freeze ⟨b,o,none⟩ k).output=w.output:=by
 unfold World.freeze
 rw [if_neg hk]
 have hlt:=(U1.1 hb).1
 refine⟨fun b'=>?_,fun b' hne=>by simp [Vy,Ne.symm hne],by simp,rfl,rfl,rfl⟩
 by_cases hne:b'=b
 ·subst hne
  obtain⟨lo,hi⟩:=fr
  refine .inr ⟨C,e,lo,hi,(if lo==hi then (o,o+k) else (min lo o,max hi (o+k))).1,(if lo==hi then (o,o+k) else (min lo o,max hi (o+k))).2,hb,?_,?_⟩
  ·simp [Vy,hb]
  ·intro h
   by_cases ML:lo=hi
   ·subst ML; right; simpa using ho
   ·have:(lo==hi)=false:=by simpa using ML
    right
    simp only [this,UE,if_false]
    rcases h with h | h
    ·exact absurd h ML
    ·exact Nat.le_min.2 ⟨h,ho⟩
 ·exact .inl (by simp [Vy,Ne.symm hne])
theorem yp (hb0:c0.base≤c0.w.heap.size)(hd:fY n ds o){src dst:TypeId}{x:Operand}(ho:o.op = .convert src dst x){y:AV}(h:lN P s.h src dst (bJ s.ρ x)=some y):iV P L0 c0 n ds o s (s.set o.dst y):=by
 have hex:∀(a:Act) (w w':World) v,(convert src dst (a.eval x)).run P w = .ok v w'→(execOp a.eval o).run P w = .ok (.value v) w':=by
  intro a w w' v hr; simp [execOp,ho,hr]
 unfold lN at h
 split at h
 ·rename_i e hs xN
  split at h
  rotate_left
  ·cases h
  rename_i hu
  obtain⟨he,hsz⟩:=pc hu
  rw [Ut] at h
  obtain⟨⟨cs,m⟩,hcs,h⟩:=h
  rw [Uv] at h
  obtain⟨l,hl,rfl⟩:=h
  by_cases hst:∃st,bJ s.ρ x = .str st
  ·
   obtain⟨st,hst⟩:=hst
   refine fq hd fun a c Lo lam f hn=>?_
   have hx:=bA f x
   rw [hst] at hx hcs
   simp only [SR,VR] at hx
   simp only [dU,if_true,Uw,UB] at hcs
   obtain⟨rfl,rfl⟩:=hcs
   refine⟨_,hex _ _ _ (.string st) ?_,?_⟩
   ·simp [convert,run_underlying hs,run_underlying xN,hx]
   ·have:∀(l0 l1:List UInt8),G5 (l0.map fun b=>AV.int .u8 b.toNat)=some l1→l1=l0:=by
     intro l0
     induction l0 with
     | nil=>intro l1 h; simp [G5] at h; exact h
     | cons b l0 ih=>
      intro l1 h
      simp only [UX,G5,Uv] at h
      obtain⟨l2,h2,rfl⟩:=h
      rw [ih l2 h2]
      simp
    rw [this _ _ hl]
    simp [SR,VR]
  ·refine fq hd fun a c Lo lam f hn=>?_
   have hne:∀st,bJ s.ρ x≠.str st:=fun st h=>hst ⟨st,h⟩
   have hx:=bA f x
   obtain⟨news,hS,hv⟩:=pb f hx (.inl ⟨e,hs⟩) (fun st h=>absurd h (hne st)) (fun _=>⟨e,hs⟩) hcs
   obtain⟨xs,rfl,rfl⟩:=zC hl hv
   exact⟨_,hex _ _ _ _ (vY hs he xN hS (sP hx hcs hne)),by simp [SR,VR,uC]⟩
 ·rename_i e hs xN
  cases Br:bJ s.ρ x<;>rw [Br] at h<;>simp only at h<;>try (cases h; done)
  rename_i st
  split at h
  rotate_left
  ·cases h
  rename_i hu
  obtain⟨he,hsz⟩:=pc hu
  cases h
  refine rA hb0 hd (fun a c Lo lam f hn hbs=>?_) (by rintro k off h; cases h)
  have hx:=bA f x
  rw [Br] at hx
  simp only [SR,VR] at hx
  have hr:=run_bytes_of_string c.w src dst e st hs xN he
  rw [←hx] at hr
  refine⟨_,_,hex _ _ _ _ hr,fun b hb=>.inl (alloc_old c.w.drew _ (show b<c.w.heap.size from hb)),fun id hl=>alloc_old c.w.drew _ (show (c.β id).1<c.w.heap.size from f.rel.block hl),fun b hb=>alloc_old c.w.drew _ (show b<c.w.heap.size by omega),by show c.w.heap.size≤(c.w.heap.push _).size; simp,rfl,rfl,rfl,fun e'=>?_⟩
  simp only [VR]
  refine⟨_,_,rfl,grownCap_ge c.w,by simp,.inl rfl,?_⟩
  refine .inr ⟨c.w.heap.size,0,rfl,C1 f.rel rfl rfl,by simp,?_⟩
  refine Cells.of_vals (bytes_VRs st.data.toList) (fun i hi=>?_) (fun v hv=>by obtain⟨b,_,rfl⟩:=U8.1 hv; rfl)
  have jw:i<st.data.size:=by simpa using hi
  have:(World.alloc c.w.drew (.cells (bytesRow st (grownCap c.w st.size 0 e)) e ((bytesRow st (grownCap c.w st.size 0 e)).size,(bytesRow st (grownCap c.w st.size 0 e)).size+1))).heap[c.w.heap.size]? = some (.cells (bytesRow st (grownCap c.w st.size 0 e)) e ((bytesRow st (grownCap c.w st.size 0 e)).size,(bytesRow st (grownCap c.w st.size 0 e)).size+1)):=ie c.w.drew _
  rw [cell_of_block this]
  simp [bytesRow,Array.getElem?_append,jw]
  intro hge
  have:st.size=st.data.size:=rfl
  omega
 ·rename_i e0 e hs xN
  cases Br:bJ s.ρ x<;>rw [Br] at h<;>try (cases h; done)
  rename_i cs m ex
  cases ex
  ·cases h
  simp only at h
  split at h
  rotate_left
  ·cases h
  rename_i hu
  simp only [Ux,beq_iff_eq,decide_eq_true_eq] at hu
  obtain⟨⟨RI,hu⟩,nW⟩:=hu
  subst RI
  obtain⟨he,hsz⟩:=pc hu
  cases h
  refine rA hb0 hd (fun a c Lo lam f hn hbs=>?_) (by rintro k off h; cases h)
  have hx:=bA f x
  rw [Br] at hx
  have FQ:=hx.vr (by rintro k off h; cases h)
  simp only [SR,VR] at hx
  obtain⟨ad,cap,pR,h1,h2,_,h3⟩:=hx
  rcases h3 with rfl | ⟨b,off,rfl,G6,hbb,hc⟩
  ·simp at nW
  have hlt:b<c.w.heap.size:=by
   cases cs with
   | nil=>simp at nW
   | cons x cs=>exact jx hc
  have mZ:∃C e' fr,c.w.heap[b]? = some (.cells C e' fr):=by
   cases cs with
   | nil=>simp at nW
   | cons x cs=>
    obtain⟨⟨v,hv,_⟩,_⟩:=hc
    unfold World.cell? at hv
    split at hv
    ·exact⟨_,_,_,by assumption⟩
    ·cases hv
  obtain⟨C,e',fr,hb⟩:=mZ
  obtain⟨k1,k2,k3,k4,k5,k6⟩:=uD (k:=1) hb (Uy C.size) (by decide)
  refine⟨c.w.freeze ⟨b,C.size,none⟩ 1,a.eval x,hex _ _ _ _ ?_,fun b' _=>k1 b',fun id hl=>k2 _ (G6.1 id hl),fun b' sI=>k2 b' (by have:=hbb trivial; omega),by rw [k3]; exact Uy _,k4,k5,k6,fun HU=>VR.ext HU _ _ FQ⟩
  rw [pR]
  have Fs:c.w.shape? b=some (e',C.size):=by simp [World.shape?,hb]
  simp [convert,run_underlying xN,run_underlying he,markStringish,Fs]
 ·rw [Ut] at h
  obtain⟨v,hv,h⟩:=h
  rw [Ut] at h
  obtain⟨r,hr,h⟩:=h
  refine fq hd fun a c Lo lam f hn=>?_
  have hx:=kq hv ((bA f x).vr (kr hv))
  exact⟨r,hex _ _ _ _ (by rw [hx]; exact jS _ hr),SR.of (mG h)⟩
theorem dP {op:BinOp}{t:TypeId}{x y:Operand}{u v:Value}(h:(∀a b,u≠.agg a∨v≠.agg b)∧u≠.nilIface)(w:World):(eqGuard op t x y u v).run P w = .ok () w:=by
 obtain⟨h1,h2⟩:=h
 unfold eqGuard
 cases op<;>first | rfl | skip
 all_goals
  simp only [Vu,UE,if_false]
  split
  ·exact absurd rfl h2
  ·rename_i a b; rcases h1 a b with h3 | h3<;>exact absurd rfl h3
  ·rfl
theorem yq {x:AV}{u:Value}(h:x.fV=some u):(∀a,u≠.agg a)∧u≠.nilIface:=by
 unfold AV.fV at h
 split at h<;>first | (cases h; done) | (cases h; exact⟨fun _=>(by simp),(by simp)⟩)
theorem Bw {op:BinOp}{a b:ByteArray}{y:AV}(h:xZ op a b=some y)(w:World):∃r,(Op.stringOp op a b).run P w = .ok r w∧∀(c:Cx) (L:Nat→Prop),VR c L y r:=by
 have hl:∀z:ByteArray,z.toList=z.data.toList:=fun z=>ByteArray.toList_eq z
 unfold xZ at h
 unfold Op.stringOp
 simp only [hl]
 cases op<;>simp only at h<;>try (cases h; done)
 ·split at h
  rotate_left
  ·cases h
  rename_i hsz
  cases h
  refine⟨.string (a++b),?_,fun c L=>by simp only [VR]⟩
  have h1:¬(((a.size+b.size:Nat):Int) > IntKind.i64.max):=by
   have:IntKind.i64.max=9223372036854775807:=by decide
   rw [this]; omega
  simp only [h1,if_false]
  rfl
 all_goals (cases h; exact⟨_,rfl,fun c L=>by simp only [VR]⟩)
theorem mH {op:BinOp}{oS:Bool}(h:ya op=some oS):(op = .eql∧oS=true)∨(op = .neq∧oS=false):=by
 unfold ya at h
 split at h<;>cases h
 ·exact .inl ⟨rfl,rfl⟩
 ·exact .inr ⟨rfl,rfl⟩
theorem nv {t:TypeId}(ht:∃q,P.underlying t=some (.pointer q)){a:Addr}{op:BinOp}{oS:Bool}(h:ya op=some oS)(w:World) :
  (binOp op t (.pointer (some a)) (.pointer none)).run P w = .ok (.bool (!oS)) w∧(binOp op t (.pointer none) (.pointer (some a))).run P w = .ok (.bool (!oS)) w:=by
 obtain⟨q,hq⟩:=ht
 have e1:(Op.equal t (.pointer (some a)) (.pointer none)).run P w = .ok false w:=by
  unfold Op.equal Op.maxDepth
  unfold Op.equalIn
  simp [bn hq]
 have e2:(Op.equal t (.pointer none) (.pointer (some a))).run P w = .ok false w:=by
  unfold Op.equal Op.maxDepth
  unfold Op.equalIn
  simp [bn hq]
 rcases mH h with⟨rfl,rfl⟩| ⟨rfl,rfl⟩
 ·constructor
  ·show ((do pure (.bool (←Op.equal t (.pointer (some a)) (.pointer none)))):Sem Value).run P w=_
   simp [e1]
  ·show ((do pure (.bool (←Op.equal t (.pointer none) (.pointer (some a))))):Sem Value).run P w=_
   simp [e2]
 ·constructor
  ·show ((do pure (.bool (!(←Op.equal t (.pointer (some a)) (.pointer none))))):Sem Value).run P w=_
   simp [e1]
  ·show ((do pure (.bool (!(←Op.equal t (.pointer none) (.pointer (some a)))))):Sem Value).run P w=_
   simp [e2]
theorem nX {t:TypeId}(ht:∃q,P.underlying t=some (.slice q)){ad:Option Addr}(hs:ad.isSome=true){m cap:Nat}{op:BinOp}{oS:Bool}(h:ya op=some oS)(w:World) :
  (binOp op t (.slice ad m cap) (.slice none 0 0)).run P w = .ok (.bool (!oS)) w:=by
 obtain⟨q,hq⟩:=ht
 obtain⟨a,rfl⟩:=U2.1 hs
 have e1:(Op.equal t (.slice (some a) m cap) (.slice none 0 0)).run P w = .ok false w:=by
  unfold Op.equal Op.maxDepth
  unfold Op.equalIn
  simp [bn hq]
 rcases mH h with⟨rfl,rfl⟩| ⟨rfl,rfl⟩
 ·show ((do pure (.bool (←Op.equal t (.slice (some a) m cap) (.slice none 0 0)))):Sem Value).run P w=_
  simp [e1]
 ·show ((do pure (.bool (!(←Op.equal t (.slice (some a) m cap) (.slice none 0 0))))):Sem Value).run P w=_
  simp [e1]
theorem C6 (hd:fY n ds o){op:BinOp}{t t2:TypeId}{x y:Operand}(ho:o.op = .binOp op t x y t2){z:AV}(h:lO P op t (bJ s.ρ x) (bJ s.ρ y)=some z):iV P L0 c0 n ds o s (s.set o.dst z):=by
 refine fq hd fun a c Lo lam f hn=>?_
 have hx:=bA f x
 have hy:=bA f y
 have hex:∀v,(eqGuard op t x y (a.eval x) (a.eval y)).run P c.w = .ok () c.w→(binOp op t (a.eval x) (a.eval y)).run P c.w = .ok v c.w→(execOp a.eval o).run P c.w = .ok (.value v) c.w:=by
  intro v h1 h2; simp [execOp,ho,h1,h2]
 unfold lO at h
 split at h
 ·rename_i p q hp hq
  rw [hp] at hx; rw [hq] at hy
  simp only [SR,VR] at hx hy
  obtain⟨r,hr,hv⟩:=Bw (P:=P) h c.w
  refine⟨r,hex _ (dP ⟨fun _ _=>.inl (by rw [hx]; simp),by rw [hx]; simp⟩ _) ?_,SR.of (hv _ _)⟩
  rw [hx,hy]
  unfold binOp
  simpa using hr
 ·rename_i p q hp hq
  rw [hp] at hx; rw [hq] at hy
  simp only [SR,VR] at hx hy
  obtain⟨_,ad,pR,_⟩:=hx
  rw [Ut] at h
  obtain⟨oS,qh,h⟩:=h
  split at h
  rotate_left
  ·cases h
  rename_i ht
  cases h
  refine⟨.bool (!oS),hex _ (dP ⟨fun _ _=>.inl (by rw [pR]; simp),by rw [pR]; simp⟩ _) ?_,SR.of (by simp [VR])⟩
  rw [pR,hy]
  exact (nv ⟨_,ht⟩ qh _).1
 ·rename_i p q hp hq
  rw [hp] at hx; rw [hq] at hy
  simp only [SR,VR] at hx hy
  obtain⟨_,ad,LX,_⟩:=hy
  rw [Ut] at h
  obtain⟨oS,qh,h⟩:=h
  split at h
  rotate_left
  ·cases h
  rename_i ht
  cases h
  refine⟨.bool (!oS),hex _ (dP ⟨fun _ _=>.inl (by rw [hx]; simp),by rw [hx]; simp⟩ _) ?_,SR.of (by simp [VR])⟩
  rw [hx,LX]
  exact (nv ⟨_,ht⟩ qh _).2
 ·rename_i p q hp hq
  rw [hp] at hx; rw [hq] at hy
  simp only [SR,VR] at hx hy
  obtain⟨b,off,pR,_⟩:=hx
  rw [Ut] at h
  obtain⟨oS,qh,h⟩:=h
  split at h
  rotate_left
  ·cases h
  rename_i ht
  cases h
  refine⟨.bool (!oS),hex _ (dP ⟨fun _ _=>.inl (by rw [pR]; simp),by rw [pR]; simp⟩ _) ?_,SR.of (by simp [VR])⟩
  rw [pR,hy]
  exact (nv ⟨_,ht⟩ qh _).1
 ·rename_i hp hq
  rw [hp] at hx; rw [hq] at hy
  simp only [SR,VR] at hx hy
  obtain⟨ad,cap,pR,_,_,hs,_⟩:=hx
  replace hs:ad.isSome=true:=hs.elim id fun h=>by cases h.1
  rw [Ut] at h
  obtain⟨oS,qh,h⟩:=h
  split at h
  rotate_left
  ·cases h
  rename_i ht
  cases h
  refine⟨.bool (!oS),hex _ (dP ⟨fun _ _=>.inl (by rw [pR]; simp),by rw [pR]; simp⟩ _) ?_,SR.of (by simp [VR])⟩
  rw [pR,hy]
  exact nX ⟨_,ht⟩ hs qh _
 ·rename_i hp hq
  rw [hp] at hx; rw [hq] at hy
  simp only [SR,VR] at hx hy
  rcases hx with⟨hx,_⟩| ⟨_,_,ad,cap,pR,_,hs,_⟩
  ·omega
  rw [Ut] at h
  obtain⟨oS,qh,h⟩:=h
  split at h
  rotate_left
  ·cases h
  rename_i ht
  cases h
  refine⟨.bool (!oS),hex _ (dP ⟨fun _ _=>.inl (by rw [pR]; simp),by rw [pR]; simp⟩ _) ?_,SR.of (by simp [VR])⟩
  rw [pR,hy]
  exact nX ⟨_,ht⟩ hs qh _
 ·rename_i p q hp hq
  rw [hp,hq] at h
  rw [hp] at hx; rw [hq] at hy
  have FQ:=hx.vr (by rintro k off h; cases h)
  have MM:=hy.vr (by rintro k off h; cases h)
  rw [Ut] at h
  obtain⟨oS,qh,h⟩:=h
  split at h
  rotate_left
  ·cases h
  rename_i jB
  simp only [Ux,VC] at jB
  obtain⟨⟨⟨h1,h2⟩,h3⟩,h4⟩:=jB
  cases h
  have hk:=tk (P:=P) 9998 h1 h3 FQ MM c.w
  simp only [VR] at FQ MM
  obtain⟨vx,pR,_⟩:=FQ
  obtain⟨vy,LX,_⟩:=MM
  refine⟨.bool (fe (.agg p) (.agg q)==oS),hex _ ?_ ?_,SR.of (by simp only [VR])⟩
  ·rw [pR,LX]
   rcases mH qh with⟨rfl,rfl⟩| ⟨rfl,rfl⟩<;>simp [eqGuard,h4,program,Sem.run]
  ·rw [pR,LX] at hk ⊢
   rcases mH qh with⟨rfl,rfl⟩| ⟨rfl,rfl⟩
   ·show ((do pure (.bool (←Op.equal t (.agg vx) (.agg vy)))):Sem Value).run P c.w=_
    have J3:(Op.equal t (.agg vx) (.agg vy)).run P c.w=_:=hk
    simp [J3]
   ·show ((do pure (.bool (!(←Op.equal t (.agg vx) (.agg vy))))):Sem Value).run P c.w=_
    have J3:(Op.equal t (.agg vx) (.agg vy)).run P c.w=_:=hk
    simp [J3]
 ·rw [Ut] at h
  obtain⟨u,hu,h⟩:=h
  rw [Ut] at h
  obtain⟨v,hv,h⟩:=h
  rw [Ut] at h
  obtain⟨r,hr,h⟩:=h
  have h1:=kq hu (hx.vr (kr hu))
  have h2:=kq hv (hy.vr (kr hv))
  have h3:=yq hu
  exact⟨r,hex _ (dP ⟨fun p _=>.inl (by rw [h1]; exact h3.1 p),by rw [h1]; exact h3.2⟩ _) (by rw [h1,h2]; exact jS _ hr),SR.of (mG h)⟩
theorem FR (hd:fY n ds o){op:UnOp}{t:TypeId}{x:Operand}(ho:o.op = .unOp op t x){z:AV}(h:((bJ s.ρ x).fV.bind fun a=>(iq P (Op.unary op a)).bind nN)=some z):iV P L0 c0 n ds o s (s.set o.dst z):=by
 refine fq hd fun a c Lo lam f hn=>?_
 rw [Ut] at h
 obtain⟨u,hu,h⟩:=h
 rw [Ut] at h
 obtain⟨r,hr,h⟩:=h
 have h1:=kq hu ((bA f x).vr (kr hu))
 refine⟨r,?_,SR.of (mG h)⟩
 have:=jS (P:=P) c.w hr
 rw [←h1] at this
 simp [execOp,ho,this]
theorem zD (hd:fY n ds o){x:Operand}(ho:o.op = .move x∨o.op = .assign x):iV P L0 c0 n ds o s (s.set o.dst (bJ s.ρ x)):=
 fq hd fun a c Lo lam f hn=>⟨a.eval x,by rcases ho with ho | ho<;>simp [execOp,ho],bA f x⟩
theorem FT (hd:fY n ds o){k x y:Operand}(ho:o.op = .pick k x y){t:Bool}(h:re (bJ s.ρ k)=some t):iV P L0 c0 n ds o s (s.set o.dst (if t then bJ s.ρ x else bJ s.ρ y)):=by
 refine fq hd fun a c Lo lam f hn=>?_
 have hk:=bA f k
 unfold re at h
 split at h
 ·rename_i b hb
  cases h
  rw [hb] at hk
  simp only [SR,VR] at hk
  refine⟨if t then a.eval x else a.eval y,by simp [execOp,ho,hk,asBool],?_⟩
  cases t
  ·exact bA f y
  ·exact bA f x
 ·cases h
theorem vZ (hd:fY n ds o){x:Operand}(ho:o.op = .nilCheck x){z:AV}(h:oW (bJ s.ρ x)=some z):iV P L0 c0 n ds o s (s.set o.dst z):=by
 refine fq hd fun a c Lo lam f hn=>?_
 have hx:=bA f x
 have hp:(∃ad,a.eval x = .pointer (some ad))∧z=bJ s.ρ x:=by
  unfold oW at h
  split at h
  ·rename_i id off heq
   cases h
   rw [heq] at hx
   simp only [SR,VR] at hx
   obtain⟨_,ad,h1,_⟩:=hx
   exact⟨⟨ad,h1⟩,heq.symm⟩
  ·rename_i k off heq
   cases h
   rw [heq] at hx
   simp only [SR] at hx
   exact⟨⟨_,hx.1⟩,heq.symm⟩
  ·rename_i cs off heq
   cases h
   rw [heq] at hx
   simp only [SR,VR] at hx
   obtain⟨b,o',h1,_⟩:=hx
   exact⟨⟨_,h1⟩,heq.symm⟩
  ·cases h
 obtain⟨⟨ad,hp⟩,rfl⟩:=hp
 exact⟨a.eval x,by simp [execOp,ho,hp],hx⟩
theorem mI {c:Cx}{Lo:Nat→Prop}{lam:Nat→Nat}{a:Act}(f:Fr L0 c Lo lam ds s a):∀xs:List Operand,(∀x∈xs,∀k off,bJ s.ρ x≠.lp k off)→VRs c (un L0 Lo) (xs.map (bJ s.ρ)) (xs.map a.eval)
 | [],_=>trivial
 | x::xs,h=>⟨(bA f x).vr (h x (by simp)),mI f xs fun y hy=>h y (by simp [hy])⟩
theorem Bx {x:AV}(h:x.bP=true):∀k off,x≠.lp k off:=by rintro k off rfl; simp [AV.bP] at h
theorem wa (hd:fY n ds o){yr:FuncId}{first cap:Array Operand}(ho:o.op = .makeFunc (.func yr) first cap)(hf:first.isEmpty=true)(hc:(cap.toList.map (bJ s.ρ)).all AV.bP=true):iV P L0 c0 n ds o s (s.set o.dst (.fn yr (cap.toList.map (bJ s.ρ)))):=by
 refine fq hd fun a c Lo lam f hn=>?_
 have MN:first = #[]:=by simpa using hf
 subst MN
 refine⟨.func (.func yr) #[] (cap.map a.eval),by simp [execOp,ho,Instr.makeFunc],SR.of ?_⟩
 simp only [VR]
 refine⟨_,rfl,?_⟩
 rw [Array.toList_map]
 refine mI f _ fun x hx=>Bx ?_
 rw [UN] at hc
 exact hc _ (U8.2 ⟨x,hx,rfl⟩)
theorem yt (hd:fY n ds o){x:Operand}{i:Nat}(ho:o.op = .extract x i){z:AV}(h:rf (bJ s.ρ x) i=some z):iV P L0 c0 n ds o s (s.set o.dst z):=by
 refine fq hd fun a c Lo lam f hn=>?_
 have hx:=bA f x
 cases heq:bJ s.ρ x<;>rw [heq] at h hx<;>simp only [rf] at h<;>try (cases h; done)
 rename_i vs
 simp only [SR,VR] at hx
 obtain⟨us,pR,Cw⟩:=hx
 obtain⟨v,hv,hr⟩:=Cw.get i z h
 have MO:us[i]? = some v:=by simpa using hv
 exact⟨v,by simp [execOp,ho,pR,Instr.extract,MO],SR.of hr⟩
theorem pS {op:Value→Value→Sem Value}:∀(vs:List Value) (v r:Value) (w:World),kP P op v vs=some r→(vs.foldlM op v).run P w = .ok r w
 | [],v,r,w,h=>by simp only [kP,Uw] at h; subst h; rfl
 | x::xs,v,r,w,h=>by
  simp only [kP,Ut] at h
  obtain⟨u,h1,h2⟩:=h
  simp only [List.foldlM_cons,Sem.run_bind,jS w h1,Result.andThen_ok]
  exact pS xs u r w h2
theorem tw (hd:fY n ds o){b:Builtin}{zE:Array TypeId}{args:Array Operand}(ho:o.op = .call {callee:=.builtin b,args:=args,argTypes:=zE}){op:Value→Value→Sem Value}(hb:(b = .min∧op=Builtin.min2)∨(b = .max∧op=Builtin.max2))
  {x:AV} {xs:List AV} (he:args.toList.map (bJ s.ρ)=x::xs) {v u:Value} {vs:List Value} (hx:x.fV=some v) (hxs:iK xs=some vs) (hf:kP P op v vs=some u) {z:AV} (hz:nN u=some z):iV P L0 c0 n ds o s (s.set o.dst z):=by
 refine fq hd fun a c Lo lam f hn=>?_
 refine⟨u,?_,SR.of (mG hz)⟩
 have hne:∀q:Operand,∀k off,bJ s.ρ q = .lp k off→q∉args.toList:=by
  intro q k off hq hm
  have Ft:AV.lp k off∈x::xs:=by rw [←he,←hq]; exact U8.2 ⟨q,hm,rfl⟩
  rcases UT.1 Ft with h1 | h1
  ·exact kr hx k off h1.symm
  ·have:∀(ys:List AV) (us:List Value),iK ys=some us→AV.lp k off∉ys:=by
    intro ys
    induction ys with
    | nil=>intro us _ h; cases h
    | cons y ys ih=>
     intro us hu hm
     simp only [iK,Ut] at hu
     obtain⟨u1,h2,Ug,h3,_⟩:=hu
     rcases UT.1 hm with h4 | h4
     ·exact kr h2 k off h4.symm
     ·exact ih _ h3 h4
   exact this _ _ hxs h1
 have zn:=mI f args.toList (fun q hq k off h=>hne q k off h hq)
 rw [he] at zn
 have ky:args.toList.map a.eval=v::vs:=oY (xs:=x::xs) (us:=v::vs) (by simp [iK,hx,hxs]) zn
 have hr:=pS vs v u c.w hf
 have hargs:args.map a.eval=(v::vs).toArray:=by rw [←ky]; apply V6; simp
 rcases hb with⟨rfl,rfl⟩| ⟨rfl,rfl⟩
 ·simp [execOp,ho,resolve,invoke,builtin,Builtin.min_,hargs,hr]
 ·simp [execOp,ho,resolve,invoke,builtin,Builtin.max_,hargs,hr]
end
end Go.R
namespace Go.R
open Go
section
variable {P:Program}{L0:Nat→Prop}{c0:Cx}{n:Nat}{ds:List Nat}{s:RS}
theorem Fr.C7 {c:Cx}{Lo:Nat→Prop}{lam:Nat→Nat}{a:Act}(f:Fr L0 c Lo lam ds s a)(id:Nat) :
  Ext c Lo ⟨c.β,c.h.kill id,c.w,c.base⟩ Lo∧Fr L0 ⟨c.β,c.h.kill id,c.w,c.base⟩ Lo lam ds {s with h:=s.h.kill id} a∧(Live c.h id→RO ⟨c.β,c.h.kill id,c.w,c.base⟩ (un L0 Lo) (c.β id).1):=by
 have hg:∀i,(c.h.kill id).get i=if i=id then none else c.h.get i:=fun i=>by
  simp only [AHeap.kill,beq_nat]
  by_cases h:i=id<;>simp [h]
 have ls:∀i,Live (c.h.kill id) i→i≠id∧Live c.h i:=fun i hl=>by
  have h2:=hl.2
  rw [hg] at h2
  by_cases h:i=id
  ·rw [if_pos h] at h2; cases h2
  ·rw [if_neg h] at h2
   obtain⟨o,ho⟩:=U2.1 h2
   exact⟨h,f.rel.lt _ _ ho,h2⟩
 have e:Ext c Lo ⟨c.β,c.h.kill id,c.w,c.base⟩ Lo:=
  ⟨VD _,fun i hi hl=>⟨(ls i hl).2,rfl,rfl⟩,Uy _,fun _ _ _ _=>.inl rfl,fun _ _=>rfl,rfl,fun i hl=>.inr ⟨i,(ls i hl).2,rfl⟩,fun _ h=>h,fun _ h=>.inl h,rfl,rfl,rfl⟩
 refine⟨e,⟨by rw [←f.h],⟨fun i o ho=>?_,fun i o ho=>?_,fun i j hi hj he=>?_,fun i hi=>?_,f.rel.bd,fun i hi=>?_,(Steady.kill c.h id).wf f.rel.ver⟩,fun t=>?_,fun k cs hb=>?_,f.inj,f.tidy,f.defers,f.CO⟩,fun hl=>⟨fun i hi he=>?_,f.rel.out id hl⟩⟩
 ·replace ho:(c.h.kill id).get i=some o:=ho
  rw [hg] at ho
  by_cases h:i=id
  ·rw [if_pos h] at ho; cases ho
  ·rw [if_neg h] at ho; exact VI (f.rel.lt _ _ ho)
 ·replace ho:(c.h.kill id).get i=some o:=ho
  rw [hg] at ho
  by_cases h:i=id
  ·rw [if_pos h] at ho; cases ho
  ·rw [if_neg h] at ho
   exact (f.rel.obj i o ho).ext e rfl
 ·exact f.rel.inj i j (ls i hi).2 (ls j hj).2 he
 ·exact f.rel.out i (ls i hi).2
 ·exact f.rel.low i (ls i hi).2
 ·exact (f.slot t).ext e (fun _ _ _=>⟨rfl,fun h=>h⟩)
 ·have hb2:=f.box k cs hb
  exact hb2.ext e (.inl rfl)
 ·obtain⟨h1,h2⟩:=ls i hi
  exact h1 (f.rel.inj i id h2 hl he)
theorem FU {c:Cx}{Lo:Nat→Prop}{lam:Nat→Nat}{a:Act}(f:Fr L0 c Lo lam ds s a){x y:AV}{h':AHeap}(h:Bm s.h x=some (y,h')) :
  Ext c Lo ⟨c.β,h',c.w,c.base⟩ Lo∧Fr L0 ⟨c.β,h',c.w,c.base⟩ Lo lam ds {s with h:=h'} a∧(∀v,VR c (un L0 Lo) x v→VR ⟨c.β,h',c.w,c.base⟩ (un L0 Lo) y v)∧∀i,Live h' i→Live c.h i:=by
 have same:Ext c Lo ⟨c.β,s.h,c.w,c.base⟩ Lo∧Fr L0 ⟨c.β,s.h,c.w,c.base⟩ Lo lam ds {s with h:=s.h} a∧(⟨c.β,s.h,c.w,c.base⟩:Cx)=c:=by
  have e:(⟨c.β,s.h,c.w,c.base⟩:Cx)=c:=by rw [←f.h]
  rw [e]; exact⟨Ext.refl _ _,f,rfl⟩
 unfold Bm at h
 split at h
 ·simp only [Uw,UB] at h
  obtain⟨rfl,rfl⟩:=h
  obtain⟨h1,h2,h3⟩:=same
  exact⟨h1,h2,fun v hv=>by rw [h3]; exact hv,fun i hi=>by rw [f.h]; exact hi⟩
 cases x with
 | rs id off len ib=>
  simp only at h
  split at h
  ·rename_i hid
   split at h
   rotate_left
   ·cases h
   rename_i hl0
   simp only [Uw,UB] at h
   obtain⟨rfl,rfl⟩:=h
   obtain⟨h1,h2,h3⟩:=same
   refine⟨h1,h2,fun v hv=>?_,fun i hi=>by rw [f.h]; exact hi⟩
   simp only [VR] at hv ⊢
   rcases hv with⟨_,_,_,a,rfl⟩| hv
   ·exact⟨a,0,rfl,Uy _,fun _=>rfl,.inr ⟨trivial,rfl⟩,.inl trivial⟩
   ·exact absurd hid hv.1
  rename_i jL
  rw [Ut] at h
  obtain⟨ob,ho,h⟩:=h
  cases ob with
  | map es=>cases h
  | row t cs=>cases h
  | cells cs=>
  simp only at h
  split at h
  rotate_left
  ·cases h
  rename_i hle
  simp only [Uw,UB] at h
  obtain⟨rfl,rfl⟩:=h
  rw [←f.h] at ho
  have hl:Live c.h id:=⟨f.rel.lt _ _ ho,by simp [ho]⟩
  obtain⟨e,f',G6⟩:=f.C7 id
  have hb:(⟨c.β,s.h.kill id,c.w,c.base⟩:Cx)=⟨c.β,c.h.kill id,c.w,c.base⟩:=by rw [f.h]
  rw [hb]
  refine⟨e,f',fun v hv=>?_,fun i hi=>?_⟩
  ·simp only [VR] at hv ⊢
   rcases hv with hv | ⟨_,_,a,cap,rfl,h1,h2,h3⟩
   ·exact absurd hv.1 jL
   obtain⟨m,_,_,hc⟩:=f.rel.obj _ _ ho
   refine⟨a,cap,rfl,h1,by simp,.inl h2,?_⟩
   rcases h3 hl with⟨h4,_⟩| h4
   ·exact .inr ⟨_,_,h4,G6 hl,by simp,Cells.move e _ _ _ _ _ (fun i hi=>rfl) ((hc.drop off).take (len*ib))⟩
   ·left
    have hz:len=0:=by omega
    subst hz
    simp
  ·have zm:=hi.2
   simp only [AHeap.kill,beq_nat] at zm
   by_cases h:i=id
   ·simp [h] at zm
   ·simp only [h,decide_false,cond_false] at zm
    rw [f.h]
    obtain⟨o,JF⟩:=U2.1 zm
    have:=f.rel.lt i o (by rw [f.h]; exact JF)
    rw [f.h] at this
    exact⟨this,zm⟩
 | _=>cases h
theorem zF:∀{cs:List AV} {c:Cx} {Lo:Nat→Prop} {lam:Nat→Nat} {a:Act} {s:RS} {ys:List AV} {h':AHeap},Fr L0 c Lo lam ds s a→uj s.h cs=some (ys,h')→
  Ext c Lo ⟨c.β,h',c.w,c.base⟩ Lo∧Fr L0 ⟨c.β,h',c.w,c.base⟩ Lo lam ds {s with h:=h'} a∧(∀b o,Cells c (un L0 Lo) cs b o→Cells ⟨c.β,h',c.w,c.base⟩ (un L0 Lo) ys b o)∧∀i,Live h' i→Live c.h i
 | [],c,Lo,lam,a,s,ys,h',f,h=>by
  cases h
  have e:(⟨c.β,s.h,c.w,c.base⟩:Cx)=c:=by rw [←f.h]
  rw [e]
  exact⟨Ext.refl _ _,f,fun _ _ h=>h,fun i hi=>by rw [f.h]; exact hi⟩
 | x::cs,c,Lo,lam,a,s,ys,h',f,h=>by
  simp only [uj,Ut,Uv] at h
  obtain⟨⟨y,h1⟩,hx,⟨zs,h2⟩,hz,he⟩:=h
  simp only [UB] at he
  obtain⟨rfl,rfl⟩:=he
  obtain⟨e1,f1,v1,l1⟩:=FU f hx
  obtain⟨e2,f2,v2,l2⟩:=zF f1 hz
  refine⟨e1.trans e2,f2,fun b o hc=>?_,fun i hi=>l1 i (l2 i hi)⟩
  obtain⟨⟨v,q1,q2,q3⟩,hc⟩:=hc
  exact⟨⟨v,q1,q2,VR.ext e2 _ _ (v1 v q3)⟩,v2 _ _ (Cells.move e1 _ _ _ _ _ (fun i hi=>rfl) hc)⟩
theorem uE {c:Cx}{Lo:Nat→Prop}{lam:Nat→Nat}{a:Act}(f:Fr L0 c Lo lam ds s a){k:Nat}{x y:AV}{h':AHeap}(h:iU k s.h x=some (y,h')) :
  (∀k off,x≠.lp k off)∧(∀k off,y≠.lp k off)∧∃c',c'.w=c.w∧Ext c Lo c' Lo∧Fr L0 c' Lo lam ds {s with h:=h'} a∧∀v,VR c (un L0 Lo) x v→VR c' (un L0 Lo) y v:=by
 cases k with
 | zero=>
  cases x with
  | nils=>
   simp only [iU,Uw,UB] at h
   obtain⟨rfl,rfl⟩:=h
   refine⟨by simp,by simp,c,rfl,Ext.refl _ _,f,fun v hv=>?_⟩
   simp only [VR] at hv ⊢
   exact⟨none,0,hv,Uy _,fun _=>rfl,.inr ⟨trivial,rfl⟩,.inl trivial⟩
  | fz cs m ex=>
   simp only [iU,Uw,UB] at h
   obtain⟨rfl,rfl⟩:=h
   refine⟨by simp,by simp,c,rfl,Ext.refl _ _,f,fun v hv=>?_⟩
   simp only [VR] at hv ⊢
   obtain⟨a,cap,rfl,h1,h2,hs,hc⟩:=hv
   exact⟨a,cap,rfl,h1,by simp,hs,hc.imp id fun ⟨b,o,ha,hr,hex,hc⟩=>⟨b,o,ha,hr,by simp,hc⟩⟩
  | rs id off len ib=>
   simp only [iU] at h
   split at h
   ·rename_i hid
    split at h
    rotate_left
    ·cases h
    rename_i hl0
    simp only [Uw,UB] at h
    obtain⟨rfl,rfl⟩:=h
    refine⟨by simp,by simp,c,rfl,Ext.refl _ _,f,fun v hv=>?_⟩
    simp only [VR] at hv ⊢
    rcases hv with⟨_,_,_,a,rfl⟩| hv
    ·exact⟨a,0,rfl,Uy _,fun _=>rfl,.inr ⟨trivial,rfl⟩,.inl trivial⟩
    ·exact absurd hid hv.1
   rename_i jL
   rw [Ut] at h
   obtain⟨ob,ho,h⟩:=h
   cases ob with
   | map es=>cases h
   | row t cs=>cases h
   | cells cs=>
   simp only at h
   split at h
   rotate_left
   ·cases h
   rename_i hle
   rw [Uv] at h
   obtain⟨⟨eQ,h2⟩,hz,he⟩:=h
   simp only [UB] at he
   obtain⟨rfl,rfl⟩:=he
   rw [←f.h] at ho
   have hl:Live c.h id:=⟨f.rel.lt _ _ ho,by simp [ho]⟩
   obtain⟨e,f',G6⟩:=f.C7 id
   obtain⟨e2,f2,hcs,ls⟩:=zF f' hz
   refine⟨by simp,by simp,⟨c.β,h2,c.w,c.base⟩,rfl,e.trans e2,f2,fun v hv=>?_⟩
   simp only [VR] at hv ⊢
   rcases hv with hv | ⟨_,_,a,cap,rfl,h1,h2,h3⟩
   ·exact absurd hv.1 jL
   obtain⟨m,_,_,hc⟩:=f.rel.obj _ _ ho
   refine⟨a,cap,rfl,h1,by simp,.inl h2,?_⟩
   rcases h3 hl with⟨h4,_⟩| h4
   ·exact .inr ⟨_,_,h4,⟨fun i hi=>(G6 hl).1 i (ls i hi),(G6 hl).2⟩,by simp,hcs _ _ (Cells.move e _ _ _ _ _ (fun i hi=>rfl) ((hc.drop off).take (len*ib)))⟩
   ·left
    have hz0:len=0:=by omega
    subst hz0
    simp [uj] at hz
    exact hz.1
  | _=>simp [iU] at h
 | succ k=>
  have key:(x = .nils∨x = .fz [] 0 true)→y = .rs 0 0 0 (k+1)→h'=s.h→(∀k off,x≠.lp k off)∧(∀k off,y≠.lp k off)∧∃c',c'.w=c.w∧Ext c Lo c' Lo∧Fr L0 c' Lo lam ds {s with h:=h'} a∧∀v,VR c (un L0 Lo) x v→VR c' (un L0 Lo) y v:=by
   rintro hx rfl rfl
   refine⟨by rcases hx with rfl | rfl<;>simp,by simp,c,rfl,Ext.refl _ _,f,fun v hv=>?_⟩
   rcases hx with rfl | rfl
   ·simp only [VR] at hv ⊢
    exact .inl ⟨trivial,trivial,trivial,none,hv⟩
   ·simp only [VR] at hv ⊢
    obtain⟨a,cap,rfl,h1,h2,hs,hc⟩:=hv
    have:=h2 trivial
    subst this
    exact .inl ⟨trivial,trivial,trivial,a,rfl⟩
  unfold iU at h
  simp only at h
  split at h
  ·simp only [Uw,UB] at h
   exact key (.inl rfl) h.1.symm h.2.symm
  ·simp only [Uw,UB] at h
   exact key (.inr rfl) h.1.symm h.2.symm
  ·simp only [Uw,UB] at h
   obtain⟨rfl,rfl⟩:=h
   exact⟨by simp,by simp,c,rfl,Ext.refl _ _,f,fun v hv=>hv⟩
  ·cases h
end
end Go.R
namespace Go.R
open Go
def CallOK (P:Program)(cf:CallF):Prop:=
 ∀f args h r h',cf f args h=some (r,h')→
  (∀(vs:Array Value) (w:World),(callFunc f vs).run P w = .ok (.enter f vs) w)∧
  ∀(L0:Nat→Prop) (c:Cx) (vs:List Value),c.h=h→c.base≤c.w.heap.size→HRel c L0→VRs c L0 args vs→
   Calls P f vs.toArray c.w fun e w'=>∃c' v,e = .returned v∧c'.w=w'∧c'.h=h'∧VR c' L0 r v∧HRel c' L0∧Ext c none0 c' none0
section
variable {P:Program}{L0:Nat→Prop}{c0:Cx}{n:Nat}{ds:List Nat}{o:Oper}{s:RS}
theorem Fr.call {c c':Cx}{Lo:Nat→Prop}{lam:Nat→Nat}{a:Act}(f:Fr L0 c Lo lam ds s a)(hr:HRel c' (un L0 Lo))(e:Ext c none0 c' none0) :
  Ext c Lo c' Lo∧Fr L0 c' Lo lam ds {s with h:=c'.h} a:=by
 have pL:∀b,Lo b→b<c.w.heap.size:=fun b hb=>f.rel.bd b (.inr hb)
 have e':Ext c Lo c' Lo:=
  ⟨e.next,e.live,e.size,fun b h1 _ h3=>e.keep b h1 (fun h=>h.elim) h3,e.exact,e.base,e.FG,fun _ h=>h,fun _ h=>.inl h,e.os,e.tape,e.output⟩
 refine⟨e',rfl,hr,fun t=>(f.slot t).ext e' (fun _ _ _=>⟨rfl,fun h=>h⟩),fun k cs hb=>?_,f.inj,f.tidy,f.defers,fun b hb=>by rw [e.base]; exact f.CO b hb⟩
 have ob:=f.box k cs hb
 exact ob.ext e' (e.keep _ ob.plain.lt (fun h=>h.elim) fun id hl he=>f.rel.out id hl (he ▸ .inr ob.own))
theorem FV {cf:CallF}(hcf:CallOK P cf)(hb0:c0.base≤c0.w.heap.size)(hd:fY n ds o){fx:Operand}{args:Array Operand}{zE:Array TypeId}(ho:o.op = .call {callee:=.value fx,args:=args,argTypes:=zE}){yr:FuncId}{cap:List AV}
  (hf:bJ s.ρ fx = .fn yr cap) (ha:(args.toList.map (bJ s.ρ)).all AV.kj=true) {r:AV} {h':AHeap} (h:cf yr (args.toList.map (bJ s.ρ)++cap) s.h=some (r,h')) {aE:List Nat} {y:AV} {h2:AHeap} (hy:uk aE o.dst (r,h')=some (y,h2)) :
  iV P L0 c0 n ds o s ({s with h:=h2}.set o.dst y):=by
 rintro a w K Q ⟨hn,c,Lo,lam,rfl,f,e0⟩ hK
 obtain⟨hin,hcall⟩:=hcf _ _ _ _ _ h
 have MP:=bA f fx
 rw [hf] at MP
 simp only [SR,VR] at MP
 obtain⟨cv,RJ,J6⟩:=MP
 have hargs:VRs c (un L0 Lo) (args.toList.map (bJ s.ρ)) (args.toList.map a.eval):=by
  refine mI f _ fun x hx=>rF ?_
  rw [UN] at ha
  exact ha _ (U8.2 ⟨x,hx,rfl⟩)
 have ky:=VRs.append hargs J6
 unfold Oper.wp
 have:(execOp a.eval o).run P c.w = .ok (.enter yr (args.map a.eval++cv)) c.w:=by
  simp [execOp,ho,resolve,RJ,Deferred.ofValue,invoke,hin]
 rw [this,Oper.upon_enter]
 have hc:=hcall (un L0 Lo) c _ f.h (iT e0 hb0) f.rel ky
 have he:(args.toList.map a.eval++cv.toList).toArray=args.map a.eval++cv:=by
  apply V6; simp
 rw [he] at hc
 refine Calls.mono hc ?_
 rintro e w' ⟨c',v,rfl,rfl,hh,hv,hrel,HV⟩
 obtain⟨e',f'⟩:=f.call hrel HV
 rw [hh] at f'
 have fin:y=r→h2=h'→K (a.put o.dst v) c'.w:=by
  rintro rfl rfl
  exact hK _ _ ⟨(fX _ _ _).trans hn,c',Lo,lam,rfl,f'.set (SR.of hv) (fun t ht=>by rw [hn]; exact hd t ht),e0.trans e'⟩
 unfold uk at hy
 cases hm:JW aE o.dst with
 | false=>rw [hm,cond_false] at hy; cases hy; exact fin rfl rfl
 | true=>
  rw [hm,cond_true] at hy
  obtain⟨_,_,c2,hw,e2,f2,HJ⟩:=uE (s:={s with h:=h'}) f' hy
  have Mq:=HJ v hv
  refine hK _ _ ⟨(fX _ _ _).trans hn,c2,Lo,lam,hw,f2.set (SR.of Mq) (fun t ht=>by rw [hn]; exact hd t ht),(e0.trans e').trans e2⟩
theorem Option.map_some' {α β:Type}{x:Option α}{g:α→β}{y:β}(h:x.map g=some y):∃z,x=some z∧g z=y:=Uv.1 h
theorem tz {aE:List Nat}{cs:List AV}{s':RS}(h:hY s aE ds o cs=some s'):cs.all AV.bP=true:=by
 unfold hY at h
 split at h
 ·assumption
 ·cases h
theorem HW {cf:CallF}(hcf:CallOK P cf)(hb0:c0.base≤c0.w.heap.size)(hd:fY n ds o){aE:List Nat}{s':RS}(h:um P cf aE ds s o=some s'):iV P L0 c0 n ds o s s':=by
 have dK:∀{x:Option AV},(x.map fun x=>s.set o.dst x)=some s'→(∀z,x=some z→iV P L0 c0 n ds o s (s.set o.dst z))→iV P L0 c0 n ds o s s':=by
  intro x hx hz
  obtain⟨z,rfl,rfl⟩:=Option.map_some' hx
  exact hz z rfl
 unfold um yd at h
 dsimp only at h
 split at h
 ·rename_i x ho; cases h; exact zD hd (.inl ho)
 ·rename_i x ho; cases h; exact zD hd (.inr ho)
 ·rename_i k x y ho
  obtain⟨t,ht,rfl⟩:=Option.map_some' h
  exact FT hd ho ht
 ·
  rename_i t ho
  rw [Ut] at h
  obtain⟨z,hz,h⟩:=h
  refine tq hb0 hd t h fun a c Lo lam f hn=>?_
  have nJ:=tz h
  obtain⟨v,h1,h2,h3⟩:=Bu (P:=P) (c:=c) hz (FM nJ) (un L0 Lo)
  exact⟨v,by simp [execOp,ho,h1],zu h2,h3⟩
 ·
  rename_i t x ho
  refine tq hb0 hd t h fun a c Lo lam f hn=>?_
  have nJ:(bJ s.ρ x).cells.all AV.bP=true:=tz h
  obtain⟨h1,h2⟩:=iy nJ ((bA f x).qO nJ)
  exact⟨a.eval x,by simp [execOp,ho,Instr.box,newVar,newRow],h1,h2⟩
 ·rename_i t ps ho
  refine dK h fun z hz=>fq hd fun a c Lo lam f hn=>?_
  obtain⟨z0,hz0,rfl⟩:=Uv.1 hz
  obtain⟨v,hr,hv⟩:=run_build (P:=P) (nT f ps.toList) hz0
  refine⟨v,?_,SR.of (FL hv)⟩
  have he:ps.map (fun (i,x)=>(i,a.eval x))=(ps.toList.map fun (i,x)=>(i,a.eval x)).toArray:=by
   apply V6; simp
  simp only [execOp,ho,Sem.run_bind]
  rw [he,hr]
  rfl
 ·rename_i t k ps ho
  rw [Uv] at h
  obtain⟨z,hz,rfl⟩:=h
  exact rB hb0 hd ho aE hz
 ·
  rename_i t x ho
  refine dK h fun z hz=>fq hd fun a c Lo lam f hn=>?_
  obtain⟨r,hr,hv⟩:=rm (P:=P) f (t:=t) (bA f x) hz
  exact⟨r,by simp [execOp,ho,hr],SR.of hv⟩
 ·
  rename_i t x y ho
  split at h
  ·cases h
  rename_i qe
  exact CX hb0 hd ho (by simpa using qe) h
 ·rename_i ho; exact dK h fun z hz=>vZ hd ho hz
 ·rename_i ho; exact dK h fun z hz=>C6 hd ho hz
 ·rename_i ho; exact dK h fun z hz=>FR hd ho hz
 ·rename_i ho; exact dK h fun z hz=>yp hb0 hd ho hz
 ·rename_i yr first cap ho
  split at h
  ·rename_i hh
   refine dK h fun z hz=>?_
   cases hz
   exact wa hd ho hh.1 hh.2
  ·cases h
 ·rename_i ho; cases h; exact ym hb0 hd ho
 ·rename_i ho; exact ux hb0 hd ho h
 ·
  rename_i t x lo hi mx ho
  refine dK h fun z hz=>fq hd fun a c Lo lam f hn=>?_
  have hs:∀(q:Option Operand) (y:AV),q.map (bJ s.ρ)=some y→∃v,q.map a.eval=some v∧SR c L0 Lo lam s.bx y v:=by
   intro q y hq
   obtain⟨u,rfl,rfl⟩:=Option.map_some' hq
   exact⟨_,rfl,bA f u⟩
  have JG:∀(q:Option Operand),q.map (bJ s.ρ)=none→q.map a.eval=none:=by
   intro q hq
   simpa using hq
  obtain⟨r,hr,hv⟩:=yk (P:=P) (bA f x) (hs lo) (JG lo) (hs hi) (JG hi) (hs mx) (JG mx) hz
  exact⟨r,by simp [execOp,ho,hr],SR.of hv⟩
 ·rename_i t x i ho
  refine dK h fun z hz=>fq hd fun a c Lo lam f hn=>?_
  obtain⟨r,hr,hv⟩:=vO (P:=P) (bA f x) hz
  exact⟨r,by simp [execOp,ho,hr],hv⟩
 ·rename_i t x i ho
  refine dK h fun z hz=>fq hd fun a c Lo lam f hn=>?_
  obtain⟨r,hr,hv⟩:=yi (P:=P) (bA f x) hz
  exact⟨r,by simp [execOp,ho,hr],SR.of hv⟩
 ·rename_i t x i ho
  refine dK h fun z hz=>fq hd fun a c Lo lam f hn=>?_
  obtain⟨r,hr,hv⟩:=vN (P:=P) (bA f x) (bA f i) hz
  exact⟨r,by simp [execOp,ho,hr],hv⟩
 ·rename_i t x i ho
  refine dK h fun z hz=>fq hd fun a c Lo lam f hn=>?_
  obtain⟨r,hr,hv⟩:=yj (P:=P) (bA f x) (bA f i) hz
  exact⟨r,by simp [execOp,ho,hr],SR.of hv⟩
 ·rename_i t m k ok ho
  refine dK h fun z hz=>fq hd fun a c Lo lam f hn=>?_
  obtain⟨r,hr,hv⟩:=vT (P:=P) f (bA f m) (bA f k) hz
  exact⟨r,by simp [execOp,ho,hr],SR.of hv⟩
 ·rename_i t m k x ho
  split at h
  ·cases h
  rename_i qe
  obtain⟨h',hh,rfl⟩:=Option.map_some' h
  exact nV hb0 (.inl ho) (by simpa using qe) hh
 ·rename_i t m k x ho
  split at h
  ·cases h
  rename_i qe
  obtain⟨h',hh,rfl⟩:=Option.map_some' h
  exact nV hb0 (.inr ho) (by simpa using qe) hh
 ·rename_i ho; exact dK h fun z hz=>yt hd ho hz
 ·
  rename_i b args zE ho
  unfold fF at h
  split at h
  ·rename_i t x hts hargs
   have yu:zE = #[t]:=by apply V6; simpa using hts
   obtain⟨q,hq,rfl⟩:∃q,args = #[q]∧bJ s.ρ q=x:=by
    cases args with | mk l=>
    rcases l with _ | ⟨q,_ | ⟨q2,l⟩⟩<;>simp at hargs
    exact⟨q,rfl,hargs⟩
   subst yu hq
   refine dK h fun z hz=>fq hd fun a c Lo lam f hn=>?_
   obtain⟨r,hr,hv⟩:=CU (P:=P) f #[t] rfl (bA f q) hz o.type
   exact⟨r,by simp [execOp,ho,resolve,invoke,builtin,hr],SR.of hv⟩
  ·rename_i t t2 x y hts hargs
   have yu:zE = #[t,t2]:=by apply V6; simpa using hts
   obtain⟨q,q2,hq,rfl,rfl⟩:∃q q2,args = #[q,q2]∧bJ s.ρ q=x∧bJ s.ρ q2=y:=by
    cases args with | mk l=>
    rcases l with _ | ⟨q,_ | ⟨q2,_ | ⟨q3,l⟩⟩⟩<;>simp at hargs
    exact⟨q,q2,rfl,hargs.1,hargs.2⟩
   subst yu hq
   exact Bv hb0 hd ho h
  ·rename_i t t2 x y hts hargs
   have yu:zE = #[t,t2]:=by apply V6; simpa using hts
   obtain⟨q,q2,hq,rfl,rfl⟩:∃q q2,args = #[q,q2]∧bJ s.ρ q=x∧bJ s.ρ q2=y:=by
    cases args with | mk l=>
    rcases l with _ | ⟨q,_ | ⟨q2,_ | ⟨q3,l⟩⟩⟩<;>simp at hargs
    exact⟨q,q2,rfl,hargs.1,hargs.2⟩
   subst yu hq
   obtain⟨⟨z,h'⟩,hh,rfl⟩:=Option.map_some' h
   exact FP hb0 hd ho hh
  ·rename_i t x hts hargs
   have yu:zE = #[t]:=by apply V6; simpa using hts
   obtain⟨q,hq,rfl⟩:∃q,args = #[q]∧bJ s.ρ q=x:=by
    cases args with | mk l=>
    rcases l with _ | ⟨q,_ | ⟨q2,l⟩⟩<;>simp at hargs
    exact⟨q,rfl,hargs⟩
   subst yu hq
   obtain⟨h',hh,rfl⟩:=Option.map_some' h
   exact C3 hb0 hd ho hh
  ·rename_i x xs hargs
   rw [Ut] at h
   obtain⟨v,hv,h⟩:=h
   rw [Ut] at h
   obtain⟨vs,Cw,h⟩:=h
   rw [Ut] at h
   obtain⟨u,hu,h⟩:=h
   exact dK h fun z hz=>tw hd ho (.inl ⟨rfl,rfl⟩) hargs hv Cw hu hz
  ·rename_i x xs hargs
   rw [Ut] at h
   obtain⟨v,hv,h⟩:=h
   rw [Ut] at h
   obtain⟨vs,Cw,h⟩:=h
   rw [Ut] at h
   obtain⟨u,hu,h⟩:=h
   exact dK h fun z hz=>tw hd ho (.inr ⟨rfl,rfl⟩) hargs hv Cw hu hz
  ·cases h
 ·
  rename_i fx args zE ho
  split at h
  ·rename_i yr cap heq
   split at h
   ·rename_i ha
    obtain⟨⟨r,h'⟩,hh,rfl⟩:=Option.map_some' h
    rw [Ut] at hh
    obtain⟨⟨r0,h0⟩,hh,hm⟩:=hh
    exact FV hcf hb0 hd ho heq ha hh hm
   ·cases h
  ·cases h
 ·cases h
end
end Go.R
namespace Go.R
open Go
section
variable {P:Program}{L0:Nat→Prop}{c0:Cx}{n:Nat}{ds:List Nat}{s:RS}
theorem pd {h:AHeap}:∀{cs:List AV},cC cs=true→uj h cs=some (cs,h)
 | [],_=>rfl
 | x::cs,hn=>by
  simp only [cC,Ux] at hn
  simp only [uj,Bm,hn.1,if_true,Uu,pd hn.2,Uz]
theorem wc {h h':AHeap}{x y:AV}(hz:Bm h x=some (y,h')):Steady h h':=by
 unfold Bm at hz
 split at hz
 ·cases hz; exact Steady.refl _
 split at hz
 ·split at hz
  ·split at hz
   ·cases hz; exact Steady.refl _
   ·cases hz
  rw [Ut] at hz
  obtain⟨o,_,hz⟩:=hz
  split at hz
  ·split at hz
   ·cases hz; exact Steady.kill _ _
   ·cases hz
  ·cases hz
 ·cases hz
theorem pU:∀{cs ys:List AV} {h h':AHeap},uj h cs=some (ys,h')→Steady h h'
 | [],ys,h,h',hz=>by cases hz; exact Steady.refl _
 | x::cs,ys,h,h',hz=>by
  simp only [uj,Ut,Uv] at hz
  obtain⟨⟨y,h1⟩,hx,⟨zs,h2⟩,hz,he⟩:=hz
  simp only [UB] at he
  obtain⟨rfl,rfl⟩:=he
  exact (wc hx).trans (pU hz)
theorem Inv.ur {a:Act}{w:World}{p:Nat × Option Nat × Nat}{s':RS}(hi:Inv L0 c0 n ds s a w)(h:ur s p=some s'):Inv L0 c0 n ds s' a w:=by
 obtain⟨hn,c,Lo,lam,rfl,f,e⟩:=hi
 unfold Go.R.ur at h
 split at h
 ·rw [Uv] at h
  obtain⟨⟨y,h'⟩,hz,rfl⟩:=h
  obtain⟨hx,hy,c',hw,e',f',hv⟩:=uE f hz
  refine⟨hn,c',Lo,lam,hw,⟨f'.h,f'.rel,fun t=>?_,f'.box,f'.inj,fun t k off ht he=>?_,f'.defers,f'.CO⟩,e.trans e'⟩
  ·simp only [beq_nat]
   by_cases ht:t=p.1
   ·subst ht
    simp only [decide_true,cond_true]
    exact SR.of (hv _ ((f.slot _).vr hx))
   ·simp only [ht,decide_false,cond_false]
    exact f'.slot t
  ·simp only [beq_nat] at he
   by_cases PJ:t=p.1
   ·simp only [PJ,decide_true,cond_true] at he
    exact absurd he (hy _ _)
   ·simp only [PJ,decide_false,cond_false] at he
    exact f'.tidy t k off ht he
 ·rename_i i hp
  split at h
  rotate_left
  ·cases h
  rename_i cs hcs
  simp only [Ut,Uv] at h
  obtain⟨x,hx,⟨y,h'⟩,hz,rfl⟩:=h
  obtain⟨hx1,hy,c',hw,e',f',hv⟩:=uE f hz
  have qg:∀k,(bif U5 k p.1 then some (cs.set i y) else s.bx k).isSome=(s.bx k).isSome:=fun k=>by
   simp only [beq_nat]
   by_cases hk:k=p.1
   ·subst hk; simp [hcs]
   ·simp [hk]
  refine⟨hn,c',Lo,lam,hw,⟨f'.h,f'.rel,fun t=>?_,fun k eQ hb=>?_,fun k k' h1 h2=>f'.inj k k' (by rw [←qg]; exact h1) (by rw [←qg]; exact h2),f'.tidy,f'.defers,f'.CO⟩,e.trans e'⟩
  ·have:=f'.slot t
   unfold SR at this ⊢
   split
   ·rename_i k off he
    rw [he] at this
    simp only at this
    exact⟨this.1,by rw [qg]; exact this.2⟩
   ·rename_i x' FQ
    split at this
    ·rename_i he; exact absurd he (FQ _ _)
    ·exact this
  ·simp only [beq_nat] at hb
   by_cases hk:k=p.1
   ·subst hk
    simp only [decide_true,cond_true,Uw] at hb
    subst hb
    have ob:=f.box _ cs hcs
    have MQ:=f'.box _ cs hcs
    refine⟨MQ.own,by rw [UF]; exact MQ.plain,?_⟩
    obtain⟨vs,q1,q2,q3⟩:=ob.cells.vals
    obtain⟨RK,r1,r2,r3⟩:=MQ.cells.vals
    have hlen:vs=RK:=by
     apply VV
     intro j
     by_cases hj:j<cs.length
     ·rw [←q2 j hj,←r2 j hj,hw]
     ·rw [U3 (by rw [←q1.length]; omega),U3 (by rw [←r1.length]; omega)]
    subst hlen
    obtain⟨u,hu,hr⟩:=VRs.get q1 i x hx
    have C5:VRs c' (un L0 Lo) (cs.set i y) vs:=by
     have:=VRs.set (hv u hr) i r1
     have JC:vs.set i u=vs:=by
      apply VV
      intro j
      rw [VW]
      by_cases hji:i=j
      ·subst hji
       rw [if_pos rfl,hu]
       have:=(UA.1 hu).1
       simp [this]
      ·rw [if_neg hji]
     rwa [JC] at this
    exact Cells.of_vals C5 (fun j hj=>by rw [r2 j (by rw [r1.length]; exact hj)]) r3
   ·simp only [hk,decide_false,cond_false] at hb
    exact f'.box k eQ hb
theorem Inv.km {a:Act}{w:World}:∀{l:List (Nat × Option Nat × Nat)} {s s':RS},Inv L0 c0 n ds s a w→km s l=some s'→Inv L0 c0 n ds s' a w
 | [],s,s',hi,h=>by cases h; exact hi
 | p::ps,s,s',hi,h=>by
  simp only [Go.R.km,Ut] at h
  obtain⟨s1,h1,h2⟩:=h
  exact Inv.km (hi.ur h1) h2
theorem FW {A:bX}{r:Nat}{s:RS}:(s.lQ A r).h=s.h:=by
 unfold RS.lQ
 split<;>rfl
theorem lV {k:Nat}{h h':AHeap}{x y:AV}(hz:iU k h x=some (y,h')):Steady h h':=by
 unfold iU at hz
 split at hz
 ·split at hz
  ·cases hz; exact Steady.refl _
  ·split at hz
   ·split at hz
    ·cases hz; exact Steady.refl _
    ·cases hz
   rw [Ut] at hz
   obtain⟨o,_,hz⟩:=hz
   split at hz
   ·split at hz
    ·rw [Uv] at hz
     obtain⟨⟨eQ,h2⟩,hz,he⟩:=hz
     simp only [UB] at he
     obtain⟨rfl,rfl⟩:=he
     exact (Steady.kill _ _).trans (pU hz)
    ·cases hz
   ·cases hz
  ·cases hz; exact Steady.refl _
  ·cases hz
 ·split at hz<;>cases hz<;>exact Steady.refl _
theorem we {s s':RS}{p:Nat × Option Nat × Nat}(hz:ur s p=some s'):Steady s.h s'.h:=by
 unfold ur at hz
 split at hz
 ·rw [Uv] at hz
  obtain⟨⟨y,h'⟩,hz,rfl⟩:=hz
  exact lV hz
 ·split at hz
  ·simp only [Ut,Uv] at hz
   obtain⟨x,hx,⟨y,h'⟩,hz,rfl⟩:=hz
   exact lV hz
  ·cases hz
theorem lW:∀{l:List (Nat × Option Nat × Nat)} {s s':RS},km s l=some s'→Steady s.h s'.h
 | [],s,s',h=>by cases h; exact Steady.refl _
 | p::ps,s,s',h=>by
  simp only [km,Ut] at h
  obtain⟨s1,h1,h2⟩:=h
  exact (we h1).trans (lW h2)
end
end Go.R
namespace Go.R
open Go
section
variable {P:Program}{L0:Nat→Prop}{c0:Cx}{n:Nat}{ds:List Nat}{o:Oper}{s:RS}
theorem By {ops:Array Oper}{c:Cx}{Lo:Nat→Prop}{lam:Nat→Nat}{a:Act}(f:Fr L0 c Lo lam ds s a){b:Bool}(h:gJ ops.toList s.ρ o=some b):Region.wanted o (yielded ops a.tmps)=b:=by
 unfold gJ at h
 unfold Region.wanted
 split at h
 ·rename_i hg; rw [hg]; cases h; rfl
 ·rename_i j want hg
  rw [hg]
  rw [Ut] at h
  obtain⟨d,hd,h⟩:=h
  have Fu:(ops[j]?).bind (·.dst)=some d:=by simpa using hd
  have hs:=f.slot d
  simp only [yielded,Fu,Uu]
  rw [Array.getD_eq_getD_getElem?] at hs
  split at h
  ·rename_i b' hb
   cases h
   rw [hb] at hs
   simp only [SR,VR] at hs
   cases hq:a.tmps[d]? with
   | none=>rw [hq] at hs; simp [undef] at hs
   | some v=>
    rw [hq] at hs
    simp only [Vp] at hs
    subst hs
    cases b'<;>cases want<;>rfl
  ·rename_i hb
   cases h
   rw [hb] at hs
   simp only [SR,VR] at hs
   obtain⟨vs,hv,_⟩:=hs
   cases hq:a.tmps[d]? with
   | none=>rfl
   | some v=>
    rw [hq] at hv
    simp only [Vp] at hv
    subst hv
    rfl
  ·cases h
theorem wg {cf:CallF}(hcf:CallOK P cf)(hb0:c0.base≤c0.w.heap.size){ops:Array Oper}(HX:ds=ops.toList.filterMap (·.dst))(hd:fY n ds o){aE:List Nat}{s':RS}(h:lP P cf aE ops.toList s o=some s')
  {a:Act} {w:World} {K:Act→World→Prop} {Q:Exit→Act→World→Prop} (hi:Inv L0 c0 n ds s a w) (hK:∀a' w',Inv L0 c0 n ds s' a' w'→K a' w') :
  if Region.wanted o (yielded ops a.tmps) then o.wp P a w K Q else K (a.put o.dst undef) w:=by
 unfold lP at h
 rw [Ut] at h
 obtain⟨b,hb,h⟩:=h
 have RL:=hi
 obtain⟨hn,c,Lo,lam,rfl,f,e⟩:=hi
 rw [By f hb]
 cases b with
 | true=>
  simp only [if_true] at h ⊢
  rw [←HX] at h
  exact HW hcf hb0 hd h a c.w K Q RL hK
 | false=>
  simp only [UE,if_false,Uw] at h ⊢
  subst h
  exact hK _ _ ⟨(fX _ _ _).trans hn,c,Lo,lam,rfl,f.set (SR.of (by simp [VR,undef,VRs])) (fun t ht=>by rw [hn]; exact hd t ht),e⟩
def tA (n:Nat)(ops:List Oper):Bool:=ops.all fun o=>match o.dst with | some t=>Nat.blt t n | none=>true
theorem wi {ops:List Oper}(h:tA n ops=true){o:Oper}(ho:o∈ops):fY n (ops.filterMap (·.dst)) o:=by
 intro t ht
 unfold tA at h
 rw [UN] at h
 have:=h o ho
 rw [ht] at this
 exact⟨Nat.blt_eq.mp this,List.mem_filterMap.2 ⟨o,ho,ht⟩⟩
theorem zG {cf:CallF}(hcf:CallOK P cf)(hb0:c0.base≤c0.w.heap.size){ops:Array Oper}(HX:ds=ops.toList.filterMap (·.dst))(Fq:tA n ops.toList=true){aE:List Nat}{Q:Exit→Act→World→Prop}{s':RS}(hQ:∀a' w',Inv L0 c0 n ds s' a' w'→Q .normal a' w') :
  ∀(l:List Oper) (s:RS),(∀o∈l,o∈ops.toList)→qa P cf aE ops.toList s l=some s'→∀a w,Inv L0 c0 n ds s a w→wpList P ops Q l a w
 | [],s,_,h,a,w,hi=>by
  simp only [qa,Uw] at h
  subst h
  exact wpList_nil (hQ a w hi)
 | o::l,s,hl,h,a,w,hi=>by
  simp only [qa,Ut] at h
  obtain⟨s1,h1,h2⟩:=h
  refine wpList_step fun K hK=>?_
  exact wg hcf hb0 HX (by rw [HX]; exact wi Fq (hl o (by simp))) h1 hi fun a' w' jw=>hK a' w' (zG hcf hb0 HX Fq hQ l s1 (fun o ho=>hl o (by simp [ho])) h2 a' w' jw)
theorem iB {α:Type}(d:α):∀(ks:List Nat) (g:Nat→α) (t:Nat),look d ks (ks.map g) t=if t∈ks then g t else d
 | [],g,t=>rfl
 | k::ks,g,t=>by
  simp only [UX,look,beq_nat,iB d ks g t,UT]
  by_cases h:t=k
  ·subst h; simp
  ·simp [h]
theorem Fr.forget {c:Cx}{Lo:Nat→Prop}{lam:Nat→Nat}{a:Act}(f:Fr L0 c Lo lam ds s a){s2:RS}(hh:s2.h=s.h)(hb:∀k cs,s2.bx k=some cs→s.bx k=some cs)
  (hr:∀t,s2.ρ t = .any∨s2.ρ t=s.ρ t∧∀k off,s.ρ t = .lp k off→k=t∧((s.bx k).isSome=true→(s2.bx k).isSome=true)):Fr L0 c Lo lam [] s2 a:=by
 refine⟨f.h.trans hh.symm,f.rel,fun t=>?_,fun k cs h=>f.box k cs (hb k cs h),fun k k' h h'=>f.inj k k' ?_ ?_,fun t k off _ he=>?_,f.defers,f.CO⟩
 ·rcases hr t with h | ⟨h,h2⟩
  ·rw [h]; exact SR.of (by simp [VR])
  ·rw [h]
   have hs:=f.slot t
   cases hx:s.ρ t<;>rw [hx] at hs<;>try exact hs
   rename_i k off
   simp only [SR] at hs ⊢
   exact⟨hs.1,(h2 k off hx).2 hs.2⟩
 ·obtain⟨cs,hcs⟩:=U2.1 h; rw [hb k cs hcs]; rfl
 ·obtain⟨cs,hcs⟩:=U2.1 h'; rw [hb k' cs hcs]; rfl
 ·rcases hr t with h | ⟨h,h2⟩
  ·rw [h] at he; cases he
  ·exact (h2 k off (h ▸ he)).1
theorem Inv.shut {a:Act}{w:World}(A:bX)(h:Inv L0 c0 n ds s a w):Inv L0 c0 n [] ((s.shut A).open A) a w:=by
 obtain⟨hn,c,Lo,lam,rfl,f,e⟩:=h
 refine⟨hn,c,Lo,lam,rfl,f.forget rfl (fun k cs hk=>?_) (fun t=>?_),e⟩
 ·simp only [RS.shut,St.open,iB] at hk
  split at hk
  ·exact hk
  ·cases hk
 ·simp only [RS.shut,St.open,iB]
  split
  ·unfold vK
   cases hx:s.ρ t<;>simp only<;>try (right; exact⟨trivial,fun k off he=>by cases he⟩)
   rename_i k off
   cases hc:(U5 k t&&U5 off 0&&A.aE.contains k) with
   | false=>left; rfl
   | true=>
    right
    simp only [Ux,beq_nat,decide_eq_true_eq,List.contains_iff_mem] at hc
    refine⟨rfl,fun k' RM he=>?_⟩
    cases he
    refine⟨hc.1.1,fun hs=>?_⟩
    rw [if_pos hc.2]
    exact hs
  ·left; rfl
theorem Inv.lQ {a:Act}{w:World}(A:bX)(r:Nat)(h:Inv L0 c0 n ds s a w):Inv L0 c0 n [] ((s.lQ A r).open A) a w:=by
 unfold RS.lQ
 split
 ·exact h.shut A
 rename_i dl _
 have h2:=h.shut A
 obtain⟨hn,c,Lo,lam,hw,f,e⟩:=h2
 have J5:∀k,(St.open A {vars:=A.keep.map (fun t=>bif (fL r A.dead).contains t then .any else vK A.aE s.ρ t),JA:=A.aE.map (fun k=>bif (fL r A.dead).contains k then none else s.bx k),h:=s.h}).bx k=bif (fL r A.dead).contains k then none else (St.open A (s.shut A)).bx k:=by
  intro k
  simp only [RS.shut,St.open,iB]
  cases (fL r A.dead).contains k<;>simp
 refine⟨hn,c,Lo,lam,hw,f.forget rfl (fun k cs hk=>?_) (fun t=>?_),e⟩
 ·rw [J5] at hk
  cases hc:(fL r A.dead).contains k with
  | true=>rw [hc] at hk; cases hk
  | false=>rw [hc] at hk; exact hk
 ·have hv:(St.open A {vars:=A.keep.map (fun t=>bif (fL r A.dead).contains t then .any else vK A.aE s.ρ t),JA:=A.aE.map (fun k=>bif (fL r A.dead).contains k then none else s.bx k),h:=s.h}).ρ t=bif (fL r A.dead).contains t then .any else (St.open A (s.shut A)).ρ t:=by
   simp only [RS.shut,St.open,iB]
   cases (fL r A.dead).contains t<;>simp
  rw [hv]
  cases hc:(fL r A.dead).contains t with
  | true=>left; rfl
  | false=>
   right
   refine⟨rfl,fun k off he=>?_⟩
   have FO:k=t:=f.tidy t k off (by simp) he
   refine⟨FO,fun hs=>?_⟩
   rw [J5,FO,hc]
   rw [FO] at hs
   exact hs
theorem Inv.wide {a:Act}{w:World}(h:Inv L0 c0 n [] s a w)(ds:List Nat):Inv L0 c0 n ds s a w:=by
 obtain⟨hn,c,Lo,lam,rfl,f,e⟩:=h
 exact⟨hn,c,Lo,lam,rfl,⟨f.h,f.rel,f.slot,f.box,f.inj,fun t k off _ he=>f.tidy t k off (by simp) he,f.defers,f.CO⟩,e⟩
theorem Inv.drew {a:Act}{w:World}(h:Inv L0 c0 n ds s a w):Inv L0 c0 n ds s a {w with drawn:=w.drawn+1}:=by
 obtain⟨hn,c,Lo,lam,rfl,f,e⟩:=h
 obtain⟨e',f'⟩:=f.world (w':={c.w with drawn:=c.w.drawn+1}) (fun b _=>.inl rfl) (fun _ _=>rfl) (fun b _=>rfl) (Uy _) rfl rfl rfl
 exact⟨hn,_,Lo,lam,rfl,f',e.trans e'⟩
def lX (P:Program)(c:Code)(Q:Exit→Act→World→Prop)(a:Act)(w:World):Prop:=
 ∀(b:Frame) (k:List Item) (cs:List Frame),∃e a' w',Q e a' w'∧Arrives P (lone (b.at a (.code c :: .inLoop c::k)) cs w) b k cs e a' w'
theorem lX.step {c:Code}{Q:Exit→Act→World→Prop}{a:Act}{w:World}(h:c.wp P (Exit.then (lX P c Q) Q) a w):lX P c Q a w:=by
 intro b k cs
 obtain⟨e,a₁,w₁,hq,wj⟩:=h b (.inLoop c::k) cs
 cases e with
 | normal=>
  obtain⟨e₂,a₂,w₂,RN,Ki⟩:=hq b k cs
  exact⟨e₂,a₂,w₂,RN,.of_steps (Steps.trans wj (.one step_inLoop)) Ki⟩
 | exit id=>exact⟨_,a₁,w₁,hq,.pass (x:=.inLoop c) rfl (fun _ _=>.inl (by simp)) wj⟩
 | goto l=>exact⟨_,a₁,w₁,hq,.pass (x:=.inLoop c) rfl (fun _ _=>.inl (by simp)) wj⟩
 | ret=>exact⟨_,a₁,w₁,hq,.pass (x:=.inLoop c) rfl (fun _ _=>.inl (by simp)) wj⟩
 | panic ch=>exact⟨_,a₁,w₁,hq,.pass (x:=.inLoop c) rfl (fun _ _=>.inl (by simp)) wj⟩
 | outgrown=>exact⟨_,a₁,w₁,hq,.pass (x:=.inLoop c) rfl (fun _ _=>.inl (by simp)) wj⟩
theorem lX.loop {c:Code}{Q:Exit→Act→World→Prop}{a:Act}{w:World}(h:lX P c Q a w):(Code.loop c).wp P Q a w:=by
 intro b k cs
 obtain⟨e,a',w',hq,wj⟩:=h b k cs
 exact⟨e,a',w',hq,.of_steps (.one step_loop) wj⟩
def Ex.Hb:Ex→Exit
 | .norm=>.normal
 | .exit id=>.exit id
 | .ret=>.ret
def jV (n:Nat):Code→Bool
 | .region _ ops _=>tA n ops.toList
 | .seq a b=>jV n a&&jV n b
 | .cond _ x y=>jV n x&&jV n y
 | .block _ c=>jV n c
 | .loop c=>jV n c
 | _=>true
def yv (P:Program)(cf:CallF):Prop:=
 ∀(L0:Nat→Prop) (c0:Cx) (n:Nat) (aE:List Nat) (id:Nat) (ops:Array Oper) (s s':RS),ju P cf aE ops s=some s'→c0.base≤c0.w.heap.size→tA n ops.toList=true→
  ∀a w Q,Inv L0 c0 n (ops.toList.filterMap (·.dst)) s a w→(∀a' w',Inv L0 c0 n (ops.toList.filterMap (·.dst)) s' a' w'→Q .normal a' w')→(Code.region id ops true).wp P Q a w
theorem jC {cf:CallF}(hcf:CallOK P cf)(Bz:yv P cf)(hb0:c0.base≤c0.w.heap.size){A:bX}{m:Nat}:∀(c:Code),jV n c=true→∀(st iW:St) (ex:Ex),bI P cf A m c st=some (ex,iW)→
  ∀a w Q,Inv L0 c0 n [] (st.open A) a w→(∀a' w',Inv L0 c0 n [] (iW.open A) a' w'→Q ex.Hb a' w')→c.wp P Q a w
 | .skip,_,st,iW,ex,h,a,w,Q,hi,hQ=>by
  simp only [bI,Uw,UB] at h
  obtain⟨rfl,rfl⟩:=h
  exact wp_skip (hQ a w hi)
 | .label _,_,st,iW,ex,h,a,w,Q,hi,hQ=>by
  simp only [bI,Uw,UB] at h
  obtain⟨rfl,rfl⟩:=h
  exact wp_label (hQ a w hi)
 | .ret,_,st,iW,ex,h,a,w,Q,hi,hQ=>by
  simp only [bI,Uw,UB] at h
  obtain⟨rfl,rfl⟩:=h
  exact wp_ret (hQ a w hi)
 | .exit id,_,st,iW,ex,h,a,w,Q,hi,hQ=>by
  simp only [bI,Uw,UB] at h
  obtain⟨rfl,rfl⟩:=h
  exact wp_exit (hQ a w hi)
 | .seq x y,hB,st,iW,ex,h,a,w,Q,hi,hQ=>by
  simp only [jV,Ux] at hB
  simp only [bI,Ut] at h
  obtain⟨⟨Hc,vG⟩,h1,h2⟩:=h
  refine wp_seq (jC hcf Bz hb0 x hB.1 st vG Hc h1 a w _ hi fun a' w' jw=>?_)
  cases Hc with
  | norm=>exact jC hcf Bz hb0 y hB.2 vG iW ex h2 a' w' Q jw hQ
  | exit id=>
   simp only [Uw,UB] at h2
   obtain⟨rfl,rfl⟩:=h2
   exact hQ a' w' jw
  | ret=>
   simp only [Uw,UB] at h2
   obtain⟨rfl,rfl⟩:=h2
   exact hQ a' w' jw
 | .cond k x y,hB,st,iW,ex,h,a,w,Q,hi,hQ=>by
  simp only [jV,Ux] at hB
  simp only [bI,Ut] at h
  obtain⟨t,ht,h⟩:=h
  have hk:a.eval k = .bool t:=by
   obtain⟨hn,c,Lo,lam,rfl,f,e⟩:=hi
   have hk:=bA f k
   unfold re at ht
   split at ht
   ·rename_i b hb
    cases ht
    rw [hb] at hk
    simpa [SR,VR] using hk
   ·cases ht
  refine wp_cond hk ?_
  cases t with
  | true=>exact jC hcf Bz hb0 x hB.1 st iW ex (by simpa using h) a w Q hi hQ
  | false=>exact jC hcf Bz hb0 y hB.2 st iW ex (by simpa using h) a w Q hi hQ
 | .block id x,hB,st,iW,ex,h,a,w,Q,hi,hQ=>by
  simp only [jV] at hB
  simp only [bI,Uv] at h
  obtain⟨⟨Hc,vG⟩,h1,h2⟩:=h
  refine wp_block (jC hcf Bz hb0 x hB st vG Hc h1 a w _ hi fun a' w' jw=>?_)
  cases Hc with
  | norm=>
   simp only [UB] at h2
   obtain⟨rfl,rfl⟩:=h2
   exact hQ a' w' jw
  | exit j5=>
   simp only [UB] at h2
   obtain⟨rfl,rfl⟩:=h2
   have:=hQ a' w' jw
   simp only [Ex.Hb,Exit.inBlock]
   split
   ·rename_i he; rw [if_pos he] at this; exact this
   ·rename_i he; rw [if_neg he] at this; exact this
  | ret=>
   simp only [UB] at h2
   obtain⟨rfl,rfl⟩:=h2
   exact hQ a' w' jw
 | .loop x,hB,st,iW,ex,h,a,w,Q,hi,hQ=>by
  simp only [jV] at hB
  simp only [bI] at h
  have key:∀(j:Nat) (st:St),kn (bI P cf A m x) j st=some (ex,iW)→∀a w,Inv L0 c0 n [] (st.open A) a w→lX P x Q a w:=by
   intro j
   induction j with
   | zero=>intro st h; simp [kn] at h
   | succ j ih=>
    intro st h a w hi
    simp only [kn,Ut] at h
    obtain⟨⟨Hc,vG⟩,h1,h2⟩:=h
    refine lX.step (jC hcf Bz hb0 x hB st vG Hc h1 a w _ hi fun a' w' jw=>?_)
    cases Hc with
    | norm=>exact ih vG h2 a' w' jw
    | exit id=>
     simp only [Uw,UB] at h2
     obtain⟨rfl,rfl⟩:=h2
     exact hQ a' w' jw
    | ret=>
     simp only [Uw,UB] at h2
     obtain⟨rfl,rfl⟩:=h2
     exact hQ a' w' jw
  exact lX.loop (key m st h a w hi)
 | .region id ops draw,hB,st,iW,ex,h,a,w,Q,hi,hQ=>by
  simp only [jV] at hB
  simp only [bI,Ut,Uv,UB] at h
  obtain⟨s0,h0,s',h1,s2,h2,rfl,rfl⟩:=h
  replace hi:=hi.km h0
  cases draw with
  | true=>
   simp only [if_true] at h1
   exact Bz L0 c0 n A.aE id ops _ s' h1 hb0 hB a w Q (hi.wide _) fun a' w' jw=>hQ a' w' ((jw.km h2).lQ A id)
  | false=>
   simp only [UE,if_false] at h1
   exact wp_region_list (zG hcf hb0 rfl hB (fun a' w' jw=>hQ a' w' ((jw.km h2).lQ A id)) ops.toList _ (fun _ h=>h) h1 a w (hi.wide _))
 | .rangeFunc ..,_,st,iW,ex,h,_,_,_,_,_=>by simp [bI] at h
 | .scope ..,_,st,iW,ex,h,_,_,_,_,_=>by simp [bI] at h
 | .goto ..,_,st,iW,ex,h,_,_,_,_,_=>by simp [bI] at h
 | .refuse ..,_,st,iW,ex,h,_,_,_,_,_=>by simp [bI] at h
theorem uF {c:Cx}{Lo:Nat→Prop}{lam:Nat→Nat}{a:Act}(f:Fr L0 c Lo lam ds s a):∀(rs:List ResultVar) (l:List AV),yf P s rs=some l→l.all AV.kj=true→
  ∃vs:List Value,(rs.mapM (m:=Sem) fun | .tmp t=>pure (a.tmps.getD t undef) | .cell x t=>do loadVar t (←asAddr (a.tmps.getD x undef))).run P c.w = .ok vs c.w∧VRs c (un L0 Lo) l vs
 | [],l,h,_=>by
  simp only [yf,Uw] at h
  subst h
  exact⟨[],rfl,trivial⟩
 | .tmp t::rs,l,h,hl=>by
  simp only [yf,Uv] at h
  obtain⟨l',h1,rfl⟩:=h
  simp only [Vi,Ux] at hl
  obtain⟨vs,h2,h3⟩:=uF f rs l' h1 hl.2
  refine⟨a.tmps.getD t undef::vs,?_,(f.slot t).vr (rF hl.1),h3⟩
  simp only [List.mapM_cons,Sem.run_bind,Sem.run_pure,Result.andThen_ok,h2]
 | .cell x t::rs,l,h,hl=>by
  simp only [yf,Ut,Uv] at h
  obtain⟨y,hy,l',h1,rfl⟩:=h
  simp only [Vi,Ux] at hl
  obtain⟨vs,h2,h3⟩:=uF f rs l' h1 hl.2
  have hx:=f.slot x
  obtain⟨u,hr,hu⟩:=rm (P:=P) f (t:=t) hx hy
  have hp:∃ad,a.tmps.getD x undef = .pointer (some ad):=by
   unfold jt at hy
   cases hq:s.ρ x<;>rw [hq] at hy hx<;>simp only at hy<;>try (cases hy; done)
   ·simp only [SR,VR] at hx; obtain⟨_,ad,h,_⟩:=hx; exact⟨ad,h⟩
   ·simp only [SR] at hx; exact⟨_,hx.1⟩
   ·simp only [SR,VR] at hx; obtain⟨_,_,h,_⟩:=hx; exact⟨_,h⟩
  obtain⟨ad,hp⟩:=hp
  rw [hp] at hr
  have yw:(loadVar t ad).run P c.w = .ok u c.w:=by simpa [Instr.loadAt,Instr.sureAddr] using hr
  refine⟨u::vs,?_,hu,h3⟩
  have ha:(asAddr (a.tmps.getD x undef)).run P c.w = .ok ad c.w:=by rw [hp]; rfl
  simp only [List.mapM_cons,Sem.run_bind,Sem.run_pure,Result.andThen_ok,h2,ha,yw]
theorem gV:un L0 none0=L0:=by funext b; simp [un,none0]
theorem Ext.close {c c':Cx}{ji:Nat→Prop}(e:Ext c none0 c' ji):Ext c none0 c' none0:=
 ⟨e.next,e.live,e.size,e.keep,e.exact,e.base,e.FG,fun _ h=>h,fun _ h=>h.elim,e.os,e.tape,e.output⟩
theorem HRel.jZ {c:Cx}{L L':Nat→Prop}(hL:∀b,L' b→L b)(h:HRel c L):HRel c L':=
 ⟨h.lt,fun id o ho=>by
  have:=h.obj id o ho
  cases o with
  | cells cs=>obtain⟨m,h1,h2,h3⟩:=this; exact⟨m,h1,h2,Cells.jZ hL _ _ _ h3⟩
  | row t cs=>obtain⟨h0,C,h1,h2,h4,h3⟩:=this; exact⟨h0,C,h1,h2,h4,Cells.jZ hL _ _ _ h3⟩
  | map es=>
   obtain⟨kp,clock,h1,h2⟩:=this
   refine⟨kp,clock,h1,?_⟩
   clear h1
   have:∀(es:List (AV × AV)) (ms:List MapEntry),ko c L es ms→ko c L' es ms:=by
    intro es
    induction es with
    | nil=>intro ms h; cases ms with | nil=>trivial | cons m ms=>exact h.elim
    | cons e es ih=>intro ms h; cases ms with
     | nil=>exact h.elim
     | cons m ms=>obtain⟨h1,h2,h3⟩:=h; exact⟨⟨VR.jZ hL _ _ h1.1,h1.2⟩,VR.jZ hL _ _ h2,ih _ h3⟩
   exact this _ _ h2,h.inj,fun id hl hb=>h.out id hl (hL _ hb),fun b hb=>h.bd b (hL b hb),h.low,h.ver⟩
structure Fit (P:Program):Prop where
 mixed:P.follows .mixedOrders=true
 Kj : ∀ (f : FuncId) fn c, P.funcs[f]? = some fn → fn.body = some c → jV fn.ntmps c = true ∧ fn.name ≠ "runtime.NumGoroutine"
def IntrOK (P:Program)(intr:FuncId→Option (List AV→AHeap→Option (AV × AHeap))):Prop:=
 ∀f g,intr f=some g→(CallOK P fun f' args h=>if f'=f then g args h else none)∧∀args h r h',g args h=some (r,h')→Steady h h'
theorem lY {f : FuncId} {fn : Func} {c : Code} (hf : P.funcs[f]? = some fn) (hc : fn.body = some c) (hn : fn.name ≠ "runtime.NumGoroutine") (vs : Array Value) (w : World) : (callFunc f vs).run P w = .ok (.enter f vs) w := by
 have Kk : (fn.name == "runtime.NumGoroutine") = false := by simpa using hn
 simp [callFunc,program,Sem.run,hf,hn,hc]
theorem wk (hP:Fit P){aV:FuncId→bX}{cf:CallF}(ih:CallOK P cf)(Bz:yv P cf)(m:Nat):CallOK P (a7 P aV cf m):=by
 intro f args h r h' hc
 unfold a7 at hc
 rw [Ut] at hc
 obtain⟨fn,hf,hc⟩:=hc
 rw [Ut] at hc
 obtain⟨c,hb,hc⟩:=hc
 obtain⟨hB,Kl⟩:=hP.Kj f fn c hf hb
 refine⟨lY hf hb Kl,fun L0 c0 vs hh hb0 hrel hargs=>?_⟩
 split at hc
 rotate_left
 ·cases hc
 rename_i hlen
 rw [Ut] at hc
 obtain⟨⟨ex,st⟩,hex,hc⟩:=hc
 have hl:=hargs.length
 refine calls_of_wp hf hb ?_
 refine jC (L0:=L0) (c0:=c0) (n:=fn.ntmps) ih Bz hb0 c hB _ _ _ hex _ _ _ ?_ ?_
 ·refine⟨by simp; omega,c0,none0,fun _=>0,rfl,⟨hh,by rw [gV]; exact hrel,fun t=>?_,fun k cs hk=>?_,fun k k' hk=>?_,fun t k off _ he=>?_,rfl,fun b hb=>hb.elim⟩,Ext.refl _ _⟩
  ·simp only [St.open,lR,iB]
   split
   ·by_cases ht:t<args.length
    ·obtain⟨v,hv,hr⟩:=hargs.get t args[t] (by simp [ht])
     have:args.getD t AV.any=args[t]:=by simp [ht]
     rw [this,Array.getD_eq_getD_getElem?,Array.getElem?_append_left (by simp; omega)]
     have MO:vs.toArray[t]? = some v:=by simpa using hv
     rw [MO]
     exact SR.of (by rw [gV]; exact hr)
    ·have:args.getD t AV.any = .any:=by simp [U3 (Nat.not_lt.1 ht)]
     rw [this]
     exact SR.of (by simp [VR])
   ·exact SR.of (by simp [VR])
  ·simp only [St.open,iB] at hk
   split at hk<;>cases hk
  ·simp only [St.open,iB] at hk
   split at hk<;>cases hk
  ·simp only [St.open,lR,iB] at he
   split at he
   ·by_cases ht:t<args.length
    ·obtain⟨v,hv,hr⟩:=hargs.get t args[t] (by simp [ht])
     have h1:args.getD t AV.any=args[t]:=by simp [ht]
     rw [h1] at he
     rw [he] at hr
     exact hr.elim
    ·have:args.getD t AV.any = .any:=by simp [U3 (Nat.not_lt.1 ht)]
     rw [this] at he
     cases he
   ·cases he
 ·intro a' w' jw
  have hfin:(aM P (st.open (aV f)) fn.results.toList).map (fun r=>(r,st.h))=some (r,h')→a'.defers=[]∧∃v,(results fn a'.tmps).run P w' = .ok v w'∧(∃c' v',Ending.returned v = .returned v'∧c'.w=w'∧c'.h=h'∧VR c' L0 r v'∧HRel c' L0∧Ext c0 none0 c' none0):=by
   intro hc
   rw [Uv] at hc
   obtain⟨r',yw,he⟩:=hc
   cases he
   obtain⟨hn,c',Lo,lam,rfl,f',e'⟩:=jw
   refine⟨f'.defers,?_⟩
   unfold aM at yw
   rw [Ut] at yw
   obtain⟨l,hl,yw⟩:=yw
   split at yw
   rotate_left
   ·cases yw
   rename_i ky
   obtain⟨us,RP,zn⟩:=uF f' _ _ hl ky
   have C8:VRs c' L0 l us:=VRs.jZ (fun b hb=>.inl hb) _ _ zn
   have yn:(results fn a'.tmps).run P c'.w = .ok (if h:us.toArray.size=1 then us.toArray[0] else .tuple us.toArray) c'.w:=by
    unfold results
    rw [←Array.toArray_toList (xs:=fn.results)]
    rw [List.mapM_toArray]
    simp only [Sem.run_bind,Sem.run_map,Result.andThen_ok,Sem.run_pure]
    exact (congrArg (fun z=>(Result.andThen z (fun (a:List Value) w'=>Result.ok a.toArray w')).andThen (fun (a:Array Value) w'=>Result.ok (if h:a.size=1 then a[0] else Value.tuple a) w')) RP).trans rfl
   refine⟨_,yn,c',_,rfl,rfl,f'.h,?_,HRel.jZ (fun b hb=>.inl hb) f'.rel,e'.close⟩
   split at yw
   ·rename_i x
    cases yw
    cases us with
    | nil=>exact C8.elim
    | cons u us=>cases us with
     | nil=>exact C8.1
     | cons u2 us=>exact C8.2.elim
   ·rename_i hne
    cases yw
    have MR:us.length≠1:=by
     intro h1
     rw [←C8.length] at h1
     cases l with
     | nil=>simp at h1
     | cons x l=>cases l with
      | nil=>exact hne x rfl
      | cons y l=>simp at h1
    have:¬us.toArray.size=1:=by simpa using MR
    rw [dif_neg this]
    simp only [VR]
    exact⟨us.toArray,rfl,C8⟩
  cases ex with
  | norm=>exact hfin hc
  | ret=>exact hfin hc
  | exit id=>cases hc
end
end Go.R
