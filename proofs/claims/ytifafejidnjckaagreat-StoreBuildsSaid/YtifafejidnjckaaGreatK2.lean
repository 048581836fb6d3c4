/- Part of the proof: ROps5, ROps6, ROps7, RFrzV, ROpAll, RFrz, RCode. -/
import Derived.Test.YtifafejidnjckaaGreatK1
import Derived.MapKept
import Derived.Laws.CopyRow
import Derived.Laws.BytesArg
import Derived.Laws.IdiomStrings
import Derived.Tactics
set_option linter.unusedVariables false
set_option linter.unusedSimpArgs false
set_option maxRecDepth 100000
open Array renaming getElem?_eq_some_iff → acb, getElem?_setIfInBounds → acD, length_toList → acJ, getElem?_modify → acL, ext' → ac9
open Bool renaming and_eq_true → abA, false_eq_true → abK, true_and → acH, not_true → acO, not_eq_true' → acQ
open List renaming length_set → abF, getElem?_eq_some_iff → abG, getElem?_eq_none → abU, all_eq_true → abW, mem_map → abZ, mem_cons → ab0, map_cons → ab5, eq_nil_of_length_eq_zero → acf, take_of_length_le → ach, all_cons → acr, ext_getElem? → acx, getElem?_set → acZ
open Nat renaming le_refl → abB, zero_add → abY, beq → acj, le_succ → acN, lt_succ_of_lt → acY, min_eq_left → ada
open Option renaming bind_some → abw, bind_eq_some_iff → abx, map_eq_some_iff → aby, map_some → abE, isSome_iff_exists → acd, getD_some → acz
open Option.some renaming injEq → abz
open Prod.mk renaming injEq → abH
namespace Go.R
open Go
section
variable {P:Program}{L0:Nat→Prop}{c0:Cx}{n:Nat}{ds:List Nat}{o:Oper}{s:RS}
theorem Fr.yy {c:Cx}{Lo:Nat→Prop}{lam:Nat→Nat}{a:Act}(f:Fr L0 c Lo lam ds s a)(hbs:c.base≤c.w.heap.size){id:Nat}{es sI:List (AV × AV)}(ho:c.h.get id=some (.map es)){lY sO:Array MapEntry}{clock pB:Nat}
  (hb:c.w.heap[(c.β id).1]? = some (.map lY clock)) (he:lX c (un L0 Lo) sI sO.toList) :
  Ext c Lo ⟨c.β,s.h.put id (.map sI),{c.w with heap:=c.w.heap.setIfInBounds (c.β id).1 (.map sO pB)},c.base⟩ Lo∧
   Fr L0 ⟨c.β,s.h.put id (.map sI),{c.w with heap:=c.w.heap.setIfInBounds (c.β id).1 (.map sO pB)},c.base⟩ Lo lam ds {s with h:=s.h.put id (.map sI)} a:=by
 have hl:Live c.h id:=⟨f.rel.lt _ _ ho,by simp [ho]⟩
 have hlt:(c.β id).1<c.w.heap.size:=(acb.1 hb).1
 have hne:∀b,b≠(c.β id).1→({c.w with heap:=c.w.heap.setIfInBounds (c.β id).1 (.map sO pB)}:World).heap[b]? = c.w.heap[b]?:=by
  intro b hb
  simp only [acD]
  rw [if_neg (Ne.symm hb)]
 rw [←f.h]
 refine f.upd (β':=c.β) (h':=c.h.put id (.map sI)) id (.map sI) (Steady.put _ _ _) (acY hl.1) (by simp [AHeap.put,beq_nat])
  (fun lH h1=>.inr ⟨by simp [AHeap.put,beq_nat,h1],rfl⟩) (fun _=>⟨hl,rfl⟩) (.inr ⟨id,hl,rfl,.inl rfl⟩) (fun _=>?_)
  (fun b _ h1=>hne b h1) (fun b _ h1=>hne b h1) (by simp) hbs rfl rfl rfl (fun e=>⟨sO,pB,by simp [hlt],he.ext e⟩)
 simp only [Cx.len,World.shape?,hb,acD,hlt,if_true]
theorem yz {x y:AV}(hs:sameShape x y=true)(hq:gK x y=true):x=y:=by
 cases x<;>cases y<;>simp only [sameShape] at hs<;>try (cases hs; done)
 ·simp only [gK,jd,abA,beq_iff_eq] at hq
  obtain⟨rfl,rfl⟩:=hq
  rfl
 ·rename_i a b
  simp only [gK,jd,beq_iff_eq] at hq
  congr 1
  cases a; cases b
  congr 1
  exact Array.toList_inj.1 hq
 ·rename_i xs ys
  simp only [abA,beq_iff_eq] at hs
  obtain⟨⟨_,hx⟩,hy⟩:=hs
  obtain⟨ns,rfl⟩:=iS hx
  obtain⟨ms,rfl⟩:=iS hy
  simp only [gK,ly,decide_eq_true_eq] at hq
  rw [hq]
theorem pd:∀ns:List Int,jO (ns.map fun n=>AV.int .i64 n)=some (ns.map fun n=>Value.int .i64 n)
 | []=>rfl
 | n::ns=>by simp [jO,AV.ie,pd ns]
theorem CD {t:TypeId}{k:AV}(h:gL P t k=true):∃u,k.Ce=some u∧Instr.sameBits 10000 u u=true:=by
 unfold gL at h
 have PZ:∀cs:List AV,cs.all lq=true→∃u,(AV.agg cs).Ce=some u∧Instr.sameBits 10000 u u=true:=by
  intro cs hcs
  obtain⟨ns,rfl⟩:=iS hcs
  refine⟨.agg (ns.map fun n=>Value.int .i64 n).toArray,by simp [AV.Ce,pd],?_⟩
  simp only [Instr.sameBits,beq_self_eq_true,acH,abW]
  intro p hp
  have:∀(l:List Value),(∀v∈l,∃m,v=Value.int .i64 m)→∀p∈l.zip l,Instr.sameBits 9999 p.1 p.2=true:=by
   clear hp p
   intro l hl p hp
   have h1:p.1=p.2∧p.1∈l:=by
    clear hl
    induction l with
    | nil=>cases hp
    | cons v l ih=>
     simp only [List.zip_cons_cons,ab0] at hp
     rcases hp with rfl | hp
     ·exact⟨rfl,by simp⟩
     ·obtain⟨h1,h2⟩:=ih hp; exact⟨h1,by simp [h2]⟩
   obtain⟨h1,h2⟩:=h1
   obtain⟨m,hm⟩:=hl _ h2
   rw [←h1,hm]
   simp [Instr.sameBits]
  exact this (ns.map fun n=>Value.int .i64 n) (fun v hv=>by obtain⟨m,_,rfl⟩:=abZ.1 hv; exact⟨m,rfl⟩) p (by simpa using hp)
 split at h
 ·exact⟨_,rfl,by simp [Instr.sameBits]⟩
 ·exact⟨_,rfl,by simp [Instr.sameBits,xf]⟩
 ·simp only [abA] at h; exact PZ _ h.1.1.2
 ·simp only [abA] at h; exact PZ _ h.1.1.2
 ·cases h
theorem uK {c:Cx}{L:Nat→Prop}{k v:AV}{kv vv:Value}(hc:k.Ce.isSome=true)(hk:VR c L k kv)(hv:VR c L v vv) :
  ∀(es sI:List (AV × AV)) (ms:List MapEntry) (i:Nat),lX c L es ms→uo k v es=some sI→
   iQ k es≠none∧(place k es ms i=none∧(∀b,lX c L sI (ms++[{key:=kv,val:=vv,born:=b}]))∨
    ∃j u m,place k es ms i=some (i+j,u)∧ms[j]? = some m∧m.key=kv∧lX c L sI (ms.modify j fun e=>{e with key:=kv,val:=vv}))
 | [],sI,[],i,_,h=>by
  simp only [uo,abz] at h
  subst h
  exact⟨by simp [iQ],.inl ⟨rfl,fun b=>⟨⟨hk,hc⟩,hv,trivial⟩⟩⟩
 | (k',v')::es,sI,m::ms,i,he,h=>by
  obtain⟨⟨G7,WL⟩,DJ,wC⟩:=he
  simp only [uo] at h
  split at h
  rotate_left
  ·cases h
  rename_i hs
  split at h
  ·rename_i hq
   cases h
   have Ad:k=k':=yz hs hq
   obtain⟨u,hu⟩:=acd.1 hc
   refine⟨by simp [iQ,hs,hq],.inr ⟨0,m.val,m,by simp [place,hq],rfl,?_,?_⟩⟩
   ·subst Ad
    rw [yt hu hk,yt hu G7]
   ·exact⟨⟨hk,hc⟩,hv,wC⟩
  ·rename_i hq
   rw [aby] at h
   obtain⟨YB,h1,rfl⟩:=h
   obtain⟨h2,h3⟩:=uK hc hk hv es YB ms (i+1) wC h1
   refine⟨by simp [iQ,hs,hq,h2],?_⟩
   have Ak:gK k k'=false:=by simpa using hq
   rcases h3 with⟨h3,h4⟩| ⟨j,u,m',h3,h4,h5,h6⟩
   ·exact .inl ⟨by simp [place,Ak,h3],fun b=>⟨⟨G7,WL⟩,DJ,h4 b⟩⟩
   ·exact .inr ⟨j+1,u,m',by simp [place,Ak,h3]; omega,by simpa using h4,h5,⟨⟨G7,WL⟩,DJ,h6⟩⟩
 | [],_,_::_,_,h,_=>h.elim
 | _::_,_,[],_,h,_=>h.elim
theorem uL {x:AV}(h:x.lk=true):∀k off,x≠.lp k off:=by rintro k off rfl; simp [AV.lk] at h
theorem wK {c:Cx}{Lo:Nat→Prop}{lam:Nat→Nat}{a:Act}(f:Fr L0 c Lo lam ds s a)(hbs:c.base≤c.w.heap.size){t:TypeId}{m k x:AV}{mv kv xv:Value}(hm:SR c L0 Lo lam s.bx m mv)(hk:SR c L0 Lo lam s.bx k kv)(hx:SR c L0 Lo lam s.bx x xv){h':AHeap}
  (h:iI P s.h t m k x=some h'):∃c',(Instr.mapUpdate t mv kv xv).run P c.w = .ok () c'.w∧Ext c Lo c' Lo∧Fr L0 c' Lo lam ds {s with h:=h'} a:=by
 unfold iI at h
 rw [abx] at h
 obtain⟨d,hd,h⟩:=h
 cases d<;>simp only at h<;>try (cases h; done)
 rename_i kt et
 split at h
 ·cases h
 rename_i kR
 obtain⟨wI,hargs⟩:gL P kt k=true∧x.lk=true:=by
  cases h1:gL P kt k<;>cases h2:x.lk<;>simp [h1,h2] at kR ⊢
 have Ae:VR c (un L0 Lo) k kv:=hk.vr (by rintro k0 off rfl; simp [gL] at wI)
 have YC:=hx.vr (uL hargs)
 cases m<;>simp only at h<;>try (cases h; done)
 rename_i id
 rw [abx] at h
 obtain⟨ob,ho,h⟩:=h
 cases ob with
 | cells cs=>cases h
 | row t cs=>cases h
 | map es=>
 rw [aby] at h
 obtain⟨sI,hu,rfl⟩:=h
 simp only [SR,VR] at hm
 obtain⟨hi,r,rfl,hr⟩:=hm
 rw [←f.h] at ho
 have hl:Live c.h id:=⟨f.rel.lt _ _ ho,by simp [ho]⟩
 have TE:=hr hl
 subst TE
 obtain⟨lY,clock,h1,h2⟩:=f.rel.obj _ _ ho
 obtain⟨u0,Mc,YD⟩:=CD wI
 obtain⟨hf,hp⟩:=uK (by simp [Mc]) Ae YC es sI lY.toList 0 h2 hu
 have G8:=xg wI Ae c.w h2 hf
 have MW:=pa (P:=P) false 9998 wI Ae c.w
 have hget:(getObj (c.β id).1).run P c.w = .ok (.map lY clock) c.w:=MapKept.run_getObj_map h1
 rcases hp with⟨hp,uB⟩| ⟨j,u,m,hp,hj,hmk,uB⟩
 ·obtain⟨e',f'⟩:=f.yy hbs ho h1 (sO:=lY.push {key:=kv,val:=xv,born:=clock}) (pB:=clock+1) (sI:=sI) (by simpa using uB clock)
  refine⟨_,?_,e',f'⟩
  unfold Instr.mapUpdate
  rw [hp] at G8
  simp only [Sem.run_bind,bM hd,Result.andThen_ok,hget,MW,G8]
  exact MapKept.run_setObj_map _ h1
 ·obtain⟨e',f'⟩:=f.yy hbs ho h1 (sO:=lY.modify j fun e=>{e with key:=kv,val:=xv}) (pB:=clock) (sI:=sI) (by simpa using uB)
  refine⟨_,?_,e',f'⟩
  unfold Instr.mapUpdate
  rw [hp,abY] at G8
  have B9:lY[j]? = some m:=by simpa using hj
  have Kq:(Instr.keyThatStays m.key kv).run P c.w = .ok kv c.w:=by
   rw [hmk]
   unfold Instr.keyThatStays
   rw [yt Mc Ae,YD]
   rfl
  simp only [Sem.run_bind,bM hd,Result.andThen_ok,hget,MW,G8,B9,abE,acz,Kq]
  exact MapKept.run_setObj_map _ h1
theorem qm (hb0:c0.base≤c0.w.heap.size){t:TypeId}{m k x:Operand}(ho:o.op = .mapUpdate t m k x∨o.op = .insert t m k x)(tl:o.dst=none){h':AHeap}
  (h:iI P s.h t (ck s.ρ m) (ck s.ρ k) (ck s.ρ x)=some h'):j7 P L0 c0 n ds o s {s with h:=h'}:=by
 rintro a w K Q ⟨hn,c,Lo,lam,rfl,f,e⟩ hK
 obtain⟨c',hr,e',f'⟩:=wK f (jY e hb0) (bY f m) (bY f k) (bY f x) h
 unfold Oper.wp
 have:(execOp a.eval o).run P c.w = .ok .skip c'.w:=by rcases ho with ho | ho<;>simp [execOp,ho,hr]
 rw [this,Oper.upon_skip]
 have M0:a.put o.dst undef=a:=by rw [tl]; rfl
 rw [M0]
 exact hK _ _ ⟨hn,c',Lo,lam,rfl,f',e.trans e'⟩
theorem Hk (hb0:c0.base≤c0.w.heap.size)(hd:ij n ds o){t:TypeId}{x:Operand}(ho:o.op = .call {callee:=.builtin .clear,args:=#[x],argTypes:=#[t]}){h':AHeap}
  (h:mC P s.h t (ck s.ρ x)=some h'):j7 P L0 c0 n ds o s ({s with h:=h'}.set o.dst (.tup [])):=by
 rintro a w K Q ⟨hn,c,Lo,lam,rfl,f,e⟩ hK
 unfold mC at h
 rw [abx] at h
 obtain⟨d,Al,h⟩:=h
 have hx:=bY f x
 have fin:∀c',(Builtin.clear_ #[t] o.type #[a.eval x]).run P c.w = .ok (.tuple #[]) c'.w→Ext c Lo c' Lo→Fr L0 c' Lo lam ds {s with h:=h'} a→o.wp P a c.w K Q:=by
  intro c' hr e' f'
  unfold Oper.wp
  have:(execOp a.eval o).run P c.w = .ok (.value (.tuple #[])) c'.w:=by
   simp [execOp,ho,resolve,invoke,builtin,hr]
  rw [this,Oper.upon_value]
  exact hK _ _ ⟨(ig _ _ _).trans hn,c',Lo,lam,rfl,f'.set (SR.of (by simp [VR,VRs])) (fun t ht=>by rw [hn]; exact hd t ht),e.trans e'⟩
 cases Fy:ck s.ρ x<;>rw [Fy] at h hx<;>simp only at h<;>try (cases h; done)
 ·rename_i id off len jj
  simp only [SR,VR] at hx
  split at h
  ·rename_i hl0
   cases h
   obtain⟨ad,cap,sP⟩:∃ad cap,a.eval x = .slice ad 0 cap:=by
    rcases hx with⟨_,_,_,ad,hx⟩| ⟨_,_,ad,cap,hx,_⟩
    ·exact⟨ad,0,hx⟩
    ·exact⟨ad,cap,by rw [hx,hl0]⟩
   refine fin c ?_ (Ext.refl _ _) f
   cases ad<;>cases d<;>simp [Builtin.clear_,bM Al,sP]
  rename_i hl0
  split at h
  ·cases h
  rename_i lf
  cases d<;>simp only at h<;>try (cases h; done)
  rename_i et
  simp only [abx] at h
  obtain⟨i,hi,z,hz,ob,hob,h⟩:=h
  cases ob with
  | map es=>cases h
  | row t cs=>cases h
  | cells cs=>
  simp only at h
  split at h
  rotate_left
  ·cases h
  rename_i hh
  obtain⟨Hl,GO,hz0,TF,hoff⟩:=hh
  cases h
  rcases hx with hx | ⟨_,hid,ad,cap,hx,hlc,DK,hlive⟩
  ·exact absurd hx.1 lf
  rw [←f.h] at hob
  have hl:Live c.h id:=⟨f.rel.lt _ _ hob,by simp [hob]⟩
  obtain⟨q,hp,hq,hc⟩:=f.rel.obj _ _ hob
  have ha:ad=some ⟨(c.β id).1,(c.β id).2+off,none⟩:=by
   rcases hlive hl with⟨h1,_⟩| h1
   ·exact h1
   ·exact absurd h1 (by omega)
  subst ha
  obtain⟨zv,G9,Cz⟩:=kE hz c.w
  obtain⟨B8,hz1⟩:=jA TF (mE (c:=c) (L:=un L0 Lo) Cz)
  have TG:=B8.length
  have GP:zv.cells.size=i.size:=by rw [←acJ,←TG,GO]
  have hnl:(Builtin.zeroCells zv.cells len).toList.length=len*i.size:=by simp [Builtin.zeroCells,GP]
  have hv:VRs c (un L0 Lo) (jl z.cells len) (Builtin.zeroCells zv.cells len).toList:=by
   have:=rI B8 len (len*zv.cells.size) (by rw [GP,GO]; exact abB _) (by omega)
   rw [ach (by simp [GP,GO])] at this
   exact this
  have hone:∀v∈(Builtin.zeroCells zv.cells len).toList,v.oneCell'=true:=by
   intro v hv
   simp only [Builtin.zeroCells,Array.toList_map,abZ] at hv
   obtain⟨j,hj,rfl⟩:=hv
   have tm:j % zv.cells.size<zv.cells.size:=Nat.mod_lt _ (by omega)
   rw [getElem!_pos zv.cells _ tm]
   exact hz1 _ (by simp)
  have Na:(jl z.cells len).length=len*i.size:=by rw [jC,GO]
  have hst:=kP (P:=P) hp.ls (base:=(c.β id).2) (off:=off) (vs:=(Builtin.zeroCells zv.cells len).toList) (by rw [hnl]; rw [Hl] at hoff; omega) hone
  obtain⟨q1,q2,q3,q4⟩:=il (Builtin.zeroCells zv.cells len).toList (c.β id).1 ((c.β id).2+off) c.w
  have zQ:jf c (c.β id).1 q:=hp
  obtain⟨C,M9,hb,xh⟩:=hp
  obtain⟨C',g1,g2,g3⟩:=gr (Builtin.zeroCells zv.cells len).toList (c.β id).1 ((c.β id).2+off) c.w C M9 (0,0) hb (by rw [hnl]; rw [Hl] at hoff; omega)
  obtain⟨e',f'⟩:=f.upd (w':=c.w.setCells (c.β id).1 ((c.β id).2+off) (Builtin.zeroCells zv.cells len).toList) (β':=c.β) (h':=s.h.put id (.cells (eh cs off (jl z.cells len)))) id (.cells (eh cs off (jl z.cells len)))
   (by rw [f.h]; exact Steady.put _ _ _) (by rw [←f.h]; exact acY hl.1) (by simp [AHeap.put,beq_nat]) (fun lH h1=>.inr ⟨by rw [f.h]; simp [AHeap.put,beq_nat,h1],rfl⟩) (fun _=>⟨hl,rfl⟩) (.inr ⟨id,hl,rfl,.inl rfl⟩)
   (fun _=>by simp only [Cx.len,World.shape?,g1,hb,abE,acz,g2])
   (fun b _ hne=>eT _ _ _ _ _ hne) (fun b _ hne=>eT _ _ _ _ _ hne) (by rw [q1]; exact abB _) (jY e hb0) q2 q3 q4
   (fun ee=>⟨q,zQ.setCells (by rw [hnl]; rw [Hl] at hoff; omega) _ _ _,by rw [iT]; exact hq,jB zQ.ls hc hv hone (by rw [Na]; rw [Hl] at hoff; omega) (by omega) ee rfl⟩)
  refine fin _ ?_ e' f'
  cases len with
  | zero=>exact absurd rfl hl0
  | succ len=>simp [Builtin.clear_,bM Al,hx,G9,hst]
 ·cases h
  simp only [SR,VR] at hx
  refine fin c ?_ (Ext.refl _ _) f
  simp [Builtin.clear_,bM Al,hx]
 ·rename_i id
  rw [abx] at h
  obtain⟨ob,ho,h⟩:=h
  cases ob with
  | cells cs=>cases h
  | row t cs=>cases h
  | map es=>
  cases h
  simp only [SR,VR] at hx
  obtain⟨hi,r,sP,hr⟩:=hx
  rw [←f.h] at ho
  have hl:Live c.h id:=⟨f.rel.lt _ _ ho,by simp [ho]⟩
  have TE:=hr hl
  subst TE
  obtain⟨lY,clock,h1,h2⟩:=f.rel.obj _ _ ho
  obtain⟨e',f'⟩:=f.yy (jY e hb0) ho h1 (sO:=#[]) (pB:=clock) (sI:=[]) trivial
  refine fin _ ?_ e' f'
  have hget:(getObj (c.β id).1).run P c.w = .ok (.map lY clock) c.w:=MapKept.run_getObj_map h1
  have CE:=MapKept.run_setObj_map (P:=P) (.map #[] clock) h1
  simp [Builtin.clear_,bM Al,sP,hget,CE]
end
end Go.R
namespace Go.R
open Go
section
variable {P:Program}{L0:Nat→Prop}{c0:Cx}{n:Nat}{ds:List Nat}{o:Oper}{s:RS}
theorem nS {w:World}{t t2 ty e:TypeId}{i:TypeInfo}(ht:P.underlying t=some (.slice e))(hi:P.info? e=some i){base:Option Addr}{len cap:Nat}{x:Value}{news:List Value}{m:Nat}(hs:Src P i.size t2 x m news w)(hm:m≤len) :
  (Builtin.copy_ #[t,t2] ty #[.slice base len cap,x]).run P w=match base with | none=>.ok (goInt m) w | some a=>((storeCells a news).run P w).andThen fun _ w'=>.ok (goInt m) w':=by
 have P4:Nat.min m len=m:=ada hm
 have hlen:=hs.len w
 have hc:=hs.cells
 have hsz:(sizeOf e).run P w = .ok i.size w:=by simp [sizeOf,typeInfo,hi]
 unfold Builtin.copy_
 cases base with
 | none=>simp [bM ht,hlen,P4,hsz,hc]
 | some a=>simp [bM ht,hlen,P4,hsz,hc,Sem.run_bind]
theorem Kr (hb0:c0.base≤c0.w.heap.size)(hd:ij n ds o){t t2:TypeId}{dx sx:Operand}(ho:o.op = .call {callee:=.builtin .copy,args:=#[dx,sx],argTypes:=#[t,t2]}){y:AV}{h':AHeap}
  (h:xb P s.h t t2 (ck s.ρ dx) (ck s.ρ sx)=some (y,h')):j7 P L0 c0 n ds o s ({s with h:=h'}.set o.dst y):=by
 rintro a w K Q ⟨hn,c,Lo,lam,rfl,f,e0⟩ hK
 have hbs:=jY e0 hb0
 unfold xb at h
 rw [abx] at h
 obtain⟨d,Al,h⟩:=h
 cases d<;>simp only at h<;>try (cases h; done)
 rename_i e
 rw [abx] at h
 obtain⟨i,hi,h⟩:=h
 rw [abx] at h
 obtain⟨⟨new,m⟩,hcs,h⟩:=h
 simp only at h
 split at h
 ·cases h
 rename_i hH
 have hH:jz P t2 (ck s.ρ sx)=true:=by simpa using hH
 have WM:∀st,ck s.ρ sx = .str st→P.underlying t2=some .string:=by
  intro st hst
  rw [hst] at hH
  unfold jz at hH
  simp only at hH
  split at hH
  ·assumption
  ·cases hH
 have rK:(∀st,ck s.ρ sx≠.str st)→∃e',P.underlying t2=some (.slice e'):=by
  intro hne
  unfold jz at hH
  split at hH
  ·rename_i st hst; exact absurd hst (hne st)
  ·split at hH
   ·rename_i e' he; exact⟨e',he⟩
   ·cases hH
 have hk:(∃e',P.underlying t2=some (.slice e'))∨P.underlying t2=some .string:=by
  by_cases hst:∃st,ck s.ρ sx = .str st
  ·obtain⟨st,hst⟩:=hst; exact .inr (WM st hst)
  ·exact .inl (rK fun st TH=>hst ⟨st,TH⟩)
 obtain⟨news,hS,hv⟩:=rJ f (bY f sx) hk WM rK hcs
 have zS:=bY f dx
 have fin:∀c',(Builtin.copy_ #[t,t2] o.type #[a.eval dx,a.eval sx]).run P c.w = .ok (goInt m) c'.w→Ext c Lo c' Lo→Fr L0 c' Lo lam ds {s with h:=h'} a→y = .int .i64 m→o.wp P a c.w K Q:=by
  intro c' hr e' f' hy
  unfold Oper.wp
  have:(execOp a.eval o).run P c.w = .ok (.value (goInt m)) c'.w:=by
   simp [execOp,ho,resolve,invoke,builtin,hr]
  rw [this,Oper.upon_value]
  exact hK _ _ ⟨(ig _ _ _).trans hn,c',Lo,lam,rfl,f'.set (SR.of (by subst hy; simp [VR,goInt])) (fun t ht=>by rw [hn]; exact hd t ht),e0.trans e'⟩
 cases Fy:ck s.ρ dx<;>rw [Fy] at h zS<;>simp only at h<;>try (cases h; done)
 ·split at h
  rotate_left
  ·cases h
  rename_i uA
  cases h
  simp only [SR,VR] at zS
  obtain⟨ad,zS⟩:∃ad:Option Addr,a.eval dx = .slice ad 0 0:=⟨none,zS⟩
  refine fin c ?_ (Ext.refl _ _) f (by rw [uA]; rfl)
  rw [zS,nS Al hi hS (by omega)]
  cases ad with
  | none=>rfl
  | some ad=>
   have:news=[]:=acf (by rw [hS.newsLen,uA]; simp)
   subst this
   rfl
 ·rename_i id off len jj
  split at h
  ·rename_i hid
   split at h
   rotate_left
   ·cases h
   rename_i uA
   cases h
   simp only [SR,VR] at zS
   rcases zS with⟨_,_,_,ad,zS⟩| zS
   rotate_left
   ·exact absurd hid zS.1
   refine fin c ?_ (Ext.refl _ _) f (by rw [uA]; rfl)
   rw [zS,nS Al hi hS (by omega)]
   cases ad with
   | none=>rfl
   | some ad=>
    have:news=[]:=acf (by rw [hS.newsLen,uA]; simp)
    subst this
    rfl
  rename_i lf
  rw [abx] at h
  obtain⟨ob,hob,h⟩:=h
  cases ob with
  | map es=>cases h
  | row t cs=>cases h
  | cells cs=>
  simp only at h
  split at h
  rotate_left
  ·cases h
  rename_i hh
  obtain⟨Hl,Pd,hoff⟩:=hh
  cases h
  simp only [SR,VR] at zS
  rcases zS with zS | ⟨_,hid,ad,cap,zS,hlc,DK,hlive⟩
  ·exact absurd zS.1 lf
  rw [←f.h] at hob
  have hl:Live c.h id:=⟨f.rel.lt _ _ hob,by simp [hob]⟩
  obtain⟨q,hp,hq,hc⟩:=f.rel.obj _ _ hob
  have hnl:=hS.newsLen
  have hvl:=hv.length
  have hr:=nS (ty:=o.type) Al hi hS Pd (base:=ad) (cap:=cap)
  by_cases ha:ad=some ⟨(c.β id).1,(c.β id).2+off,none⟩
  ·subst ha
   simp only at hr
   have hst:=kP (P:=P) hp.ls (base:=(c.β id).2) (off:=off) (vs:=news) (by omega) hS.one
   rw [hst] at hr
   simp only [Result.andThen_ok] at hr
   obtain⟨q1,q2,q3,q4⟩:=il news (c.β id).1 ((c.β id).2+off) c.w
   have zQ:jf c (c.β id).1 q:=hp
   obtain⟨C,M9,hb,xh⟩:=hp
   obtain⟨C',g1,g2,g3⟩:=gr news (c.β id).1 ((c.β id).2+off) c.w C M9 (0,0) hb (by omega)
   obtain⟨e',f'⟩:=f.upd (w':=c.w.setCells (c.β id).1 ((c.β id).2+off) news) (β':=c.β) (h':=s.h.put id (.cells (eh cs off new))) id (.cells (eh cs off new))
    (by rw [f.h]; exact Steady.put _ _ _) (by rw [←f.h]; exact acY hl.1) (by simp [AHeap.put,beq_nat]) (fun lH h1=>.inr ⟨by rw [f.h]; simp [AHeap.put,beq_nat,h1],rfl⟩) (fun _=>⟨hl,rfl⟩) (.inr ⟨id,hl,rfl,.inl rfl⟩)
    (fun _=>by simp only [Cx.len,World.shape?,g1,hb,abE,acz,g2])
    (fun b _ hne=>eT _ _ _ _ _ hne) (fun b _ hne=>eT _ _ _ _ _ hne) (by rw [q1]; exact abB _) hbs q2 q3 q4
    (fun ee=>⟨q,zQ.setCells (by omega) _ _ _,by rw [iT]; exact hq,jB zQ.ls hc hv hS.one (by omega) (by omega) ee rfl⟩)
   refine fin _ ?_ e' f' rfl
   rw [zS]
   exact hr
  ·have hz:new=[]∧m=0∧news=[]:=by
    rcases hlive hl with⟨h1,_⟩| h1
    ·exact absurd h1 ha
    ·have h0:m=0:=by omega
     have h2:news=[]:=acf (by rw [hnl,h0]; simp)
     subst h2
     exact⟨acf (by simpa using hvl),h0,rfl⟩
   obtain⟨rfl,rfl,rfl⟩:=hz
   have pc:eh cs off []=cs:=by simp [eh]
   rw [pc] at *
   obtain⟨e',f'⟩:=f.upd (w':=c.w) (β':=c.β) (h':=s.h.put id (.cells cs)) id (.cells cs)
    (by rw [f.h]; exact Steady.put _ _ _) (by rw [←f.h]; exact acY hl.1) (by simp [AHeap.put,beq_nat]) (fun lH h1=>.inr ⟨by rw [f.h]; simp [AHeap.put,beq_nat,h1],rfl⟩) (fun _=>⟨hl,rfl⟩) (.inr ⟨id,hl,rfl,.inl rfl⟩)
    (fun _=>rfl) (fun b _ hne=>rfl) (fun b _ hne=>rfl) (abB _) hbs rfl rfl rfl
    (fun ee=>qe.ext ee ⟨q,hp,hq,hc⟩ rfl)
   refine fin _ ?_ e' f' rfl
   rw [zS,hr]
   cases ad<;>rfl
end
end Go.R
namespace Go.R
open Go
section
variable {P:Program}{L0:Nat→Prop}{c0:Cx}{n:Nat}{ds:List Nat}{o:Oper}{s:RS}
theorem rL {e:TypeId}(h:G2 P e=true):P.underlying e=some (.int .u8)∧gh P e=some 1:=by
 unfold G2 at h
 simp only [abA,beq_iff_eq] at h
 obtain⟨h1,h2⟩:=h
 refine⟨?_,h2⟩
 split at h1
 ·assumption
 ·cases h1
theorem DU {c:Cx}{L:Nat→Prop}:∀{cs:List AV} {l:List UInt8} {vs:List Value},L5 cs=some l→VRs c L cs vs→∃xs:List Int,vs=xs.map (Value.int .u8)∧l=xs.map fun n=>UInt8.ofNat n.toNat
 | [],l,[],h,_=>by simp only [L5,abz] at h; subst h; exact⟨[],rfl,rfl⟩
 | x::cs,l,v::vs,h,hv=>by
  unfold L5 at h
  split at h
  ·rename_i heq; cases heq
  ·rename_i n xs heq
   cases heq
   rw [aby] at h
   obtain⟨l',h1,rfl⟩:=h
   obtain⟨ys,rfl,rfl⟩:=DU h1 hv.2
   have h2:=hv.1
   simp only [VR] at h2
   subst h2
   exact⟨n::ys,rfl,rfl⟩
  ·cases h
 | [],_,_::_,_,h=>h.elim
 | _::_,_,[],_,h=>h.elim
theorem yA (xs:List Int):strOfNums xs=⟨(xs.map fun n=>UInt8.ofNat n.toNat).toArray⟩:=rfl
theorem Am {w:World}{src dst e:TypeId}{v:Value}{m:Nat}{xs:List Int}(hs:P.underlying src=some (.slice e))(he:P.underlying e=some (.int .u8))(hd:P.underlying dst=some .string)
  (hS:Src P 1 src v m (xs.map (Value.int .u8)) w) (hv:∃a cap,v = .slice a m cap):(convert src dst v).run P w = .ok (.string (strOfNums xs)) w:=by
 obtain⟨a,cap,rfl⟩:=hv
 have hc:=hS.cells
 have hl:=hS.newsLen
 cases a with
 | none=>
  have:xs=[]:=by
   simp [Builtin.firstCells] at hc
   cases xs with
   | nil=>rfl
   | cons x xs=>simp at hc
  subst this
  exact run_convert_bytes_nil w src e hs he m cap dst hd
 | some a=>
  rw [run_convert_bytes_string w src dst e (some a) m cap hs he hd]
  have h1:(loadCells a m).run P w = .ok (xs.map (Value.int .u8)).toArray w:=by simpa [Builtin.firstCells] using hc
  rw [run_bytesToString w a m cap xs h1,foldl_push_bytes]
  simp [strOfNums,ByteArray.empty,ByteArray.emptyWithCapacity]
  rfl
theorem wL {c:Cx}{Lo:Nat→Prop}{lam:Nat→Nat}{x:AV}{v:Value}{h:AHeap}{size m:Nat}{new:List AV}(hx:SR c L0 Lo lam s.bx x v)(hc:fI h size x=some (new,m))(hne:∀st,x≠.str st):∃a cap,v = .slice a m cap:=by
 unfold fI at hc
 cases x<;>simp only at hc<;>try (cases hc; done)
 ·exact absurd rfl (hne _)
 ·cases hc
  simp only [SR,VR] at hx
  subst hx
  exact⟨none,0,rfl⟩
 ·split at hc
  ·cases hc
   simp only [SR,VR] at hx
   obtain⟨a,cap,rfl,_⟩:=hx
   exact⟨a,cap,rfl⟩
  ·cases hc
 ·split at hc
  ·split at hc
   ·cases hc
    simp only [SR,VR] at hx
    rename_i hid hl0
    rcases hx with⟨_,_,_,a,rfl⟩| ⟨_,_,a,cap,rfl,_⟩
    ·exact⟨a,0,rfl⟩
    ·exact⟨a,cap,by rw [hl0]⟩
   ·cases hc
  rename_i lf
  rw [abx] at hc
  obtain⟨ob,_,hc⟩:=hc
  cases ob with
  | map es=>cases hc
  | row t cs=>cases hc
  | cells cs=>
   simp only at hc
   split at hc
   ·cases hc
    simp only [SR,VR] at hx
    rcases hx with hx | ⟨_,_,a,cap,rfl,_⟩
    ·exact absurd (.inl hx.1) lf
    exact⟨a,cap,rfl⟩
   ·cases hc
theorem bytes_VRs {c:Cx}{L:Nat→Prop}:∀l:List UInt8,VRs c L (l.map fun b=>AV.int .u8 b.toNat) (l.map fun b=>Value.int .u8 b.toNat)
 | []=>trivial
 | b::l=>⟨by simp [VR],bytes_VRs l⟩
theorem yB {w:World}{b o k:Nat}{C:Array Value}{e:TypeId}{fr:Nat × Nat}(hb:w.heap[b]? = some (.cells C e fr))(ho:C.size≤o)(hk:k≠0) :
  (∀b',iR w (w.freeze ⟨b,o,none⟩ k) b')∧(∀b',b'≠b→(w.freeze ⟨b,o,none⟩ k).heap[b']? = w.heap[b']?)∧(w.freeze ⟨b,o,none⟩ k).heap.size=w.heap.size∧(w.freeze ⟨b,o,none⟩ k).os=w.os∧(w.freeze ⟨b,o,none⟩ k).tape=w.tape∧(w.freeze ⟨b,o,none⟩ k).output=w.output:=by
 unfold World.freeze
 rw [if_neg hk]
 have hlt:=(acb.1 hb).1
 refine⟨fun b'=>?_,fun b' hne=>by simp [acL,Ne.symm hne],by simp,rfl,rfl,rfl⟩
 by_cases hne:b'=b
 ·subst hne
  obtain⟨lo,hi⟩:=fr
  refine .inr ⟨C,e,lo,hi,(if lo==hi then (o,o+k) else (min lo o,max hi (o+k))).1,(if lo==hi then (o,o+k) else (min lo o,max hi (o+k))).2,hb,?_,?_⟩
  ·simp [acL,hb]
  ·intro h
   by_cases TI:lo=hi
   ·subst TI; right; simpa using ho
   ·have:(lo==hi)=false:=by simpa using TI
    right
    simp only [this,abK,if_false]
    rcases h with h | h
    ·exact absurd h TI
    ·exact Nat.le_min.2 ⟨h,ho⟩
 ·exact .inl (by simp [acL,Ne.symm hne])
theorem CF (hb0:c0.base≤c0.w.heap.size)(hd:ij n ds o){src dst:TypeId}{x:Operand}(ho:o.op = .convert src dst x){y:AV}(h:nL P s.h src dst (ck s.ρ x)=some y):j7 P L0 c0 n ds o s (s.set o.dst y):=by
 have hex:∀(a:Act) (w w':World) v,(convert src dst (a.eval x)).run P w = .ok v w'→(execOp a.eval o).run P w = .ok (.value v) w':=by
  intro a w w' v hr; simp [execOp,ho,hr]
 unfold nL at h
 split at h
 ·rename_i e hs B7
  split at h
  rotate_left
  ·cases h
  rename_i hu
  obtain⟨he,hsz⟩:=rL hu
  rw [abx] at h
  obtain⟨⟨cs,m⟩,hcs,h⟩:=h
  rw [aby] at h
  obtain⟨l,hl,rfl⟩:=h
  by_cases hst:∃st,ck s.ρ x = .str st
  ·
   obtain⟨st,hst⟩:=hst
   refine gM hd fun a c Lo lam f hn=>?_
   have hx:=bY f x
   rw [hst] at hx hcs
   simp only [SR,VR] at hx
   simp only [fI,if_true,abz,abH] at hcs
   obtain⟨rfl,rfl⟩:=hcs
   refine⟨_,hex _ _ _ (.string st) ?_,?_⟩
   ·simp [convert,run_underlying hs,run_underlying B7,hx]
   ·have:∀(l0 l1:List UInt8),L5 (l0.map fun b=>AV.int .u8 b.toNat)=some l1→l1=l0:=by
     intro l0
     induction l0 with
     | nil=>intro l1 h; simp [L5] at h; exact h
     | cons b l0 ih=>
      intro l1 h
      simp only [ab5,L5,aby] at h
      obtain⟨l2,h2,rfl⟩:=h
      rw [ih l2 h2]
      simp
    rw [this _ _ hl]
    simp [SR,VR]
  ·refine gM hd fun a c Lo lam f hn=>?_
   have hne:∀st,ck s.ρ x≠.str st:=fun st h=>hst ⟨st,h⟩
   have hx:=bY f x
   obtain⟨news,hS,hv⟩:=rJ f hx (.inl ⟨e,hs⟩) (fun st h=>absurd h (hne st)) (fun _=>⟨e,hs⟩) hcs
   obtain⟨xs,rfl,rfl⟩:=DU hl hv
   exact⟨_,hex _ _ _ _ (Am hs he B7 hS (wL hx hcs hne)),by simp [SR,VR,yA]⟩
 ·rename_i e hs B7
  cases Fy:ck s.ρ x<;>rw [Fy] at h<;>simp only at h<;>try (cases h; done)
  rename_i st
  split at h
  rotate_left
  ·cases h
  rename_i hu
  obtain⟨he,hsz⟩:=rL hu
  cases h
  refine uG hb0 hd (fun a c Lo lam f hn hbs=>?_) (by rintro k off h; cases h)
  have hx:=bY f x
  rw [Fy] at hx
  simp only [SR,VR] at hx
  have hr:=run_bytes_of_string c.w src dst e st hs B7 he
  rw [←hx] at hr
  refine⟨_,_,hex _ _ _ _ hr,fun b hb=>.inl (alloc_old c.w.drew _ (show b<c.w.heap.size from hb)),fun id hl=>alloc_old c.w.drew _ (show (c.β id).1<c.w.heap.size from f.rel.block hl),fun b hb=>alloc_old c.w.drew _ (show b<c.w.heap.size by omega),by show c.w.heap.size≤(c.w.heap.push _).size; simp,rfl,rfl,rfl,fun e'=>?_⟩
  simp only [VR]
  refine⟨_,_,rfl,grownCap_ge c.w,by simp,.inl rfl,?_⟩
  refine .inr ⟨c.w.heap.size,0,rfl,Hh f.rel rfl rfl,by simp,?_⟩
  refine Cells.of_vals (bytes_VRs st.data.toList) (fun i hi=>?_) (fun v hv=>by obtain⟨b,_,rfl⟩:=abZ.1 hv; rfl)
  have ku:i<st.data.size:=by simpa using hi
  have:(World.alloc c.w.drew (.cells (bytesRow st (grownCap c.w st.size 0 e)) e ((bytesRow st (grownCap c.w st.size 0 e)).size,(bytesRow st (grownCap c.w st.size 0 e)).size+1))).heap[c.w.heap.size]? = some (.cells (bytesRow st (grownCap c.w st.size 0 e)) e ((bytesRow st (grownCap c.w st.size 0 e)).size,(bytesRow st (grownCap c.w st.size 0 e)).size+1)):=jm c.w.drew _
  rw [cell_of_block this]
  simp [bytesRow,Array.getElem?_append,ku]
  intro hge
  have:st.size=st.data.size:=rfl
  omega
 ·rename_i e0 e hs B7
  cases Fy:ck s.ρ x<;>rw [Fy] at h<;>try (cases h; done)
  rename_i cs m ex
  cases ex
  ·cases h
  simp only at h
  split at h
  rotate_left
  ·cases h
  rename_i hu
  simp only [abA,beq_iff_eq,decide_eq_true_eq] at hu
  obtain⟨⟨YE,hu⟩,mK⟩:=hu
  subst YE
  obtain⟨he,hsz⟩:=rL hu
  cases h
  refine uG hb0 hd (fun a c Lo lam f hn hbs=>?_) (by rintro k off h; cases h)
  have hx:=bY f x
  rw [Fy] at hx
  have Ks:=hx.vr (by rintro k off h; cases h)
  simp only [SR,VR] at hx
  obtain⟨ad,cap,sP,h1,h2,_,h3⟩:=hx
  rcases h3 with rfl | ⟨b,off,rfl,L7,hbb,hc⟩
  ·simp at mK
  have hlt:b<c.w.heap.size:=by
   cases cs with
   | nil=>simp at mK
   | cons x cs=>exact kM hc
  have pc:∃C e' fr,c.w.heap[b]? = some (.cells C e' fr):=by
   cases cs with
   | nil=>simp at mK
   | cons x cs=>
    obtain⟨⟨v,hv,_⟩,_⟩:=hc
    unfold World.cell? at hv
    split at hv
    ·exact⟨_,_,_,by assumption⟩
    ·cases hv
  obtain⟨C,e',fr,hb⟩:=pc
  obtain⟨k1,k2,k3,k4,k5,k6⟩:=yB (k:=1) hb (abB C.size) (by decide)
  refine⟨c.w.freeze ⟨b,C.size,none⟩ 1,a.eval x,hex _ _ _ _ ?_,fun b' _=>k1 b',fun id hl=>k2 _ (L7.1 id hl),fun b' B5=>k2 b' (by have:=hbb trivial; omega),by rw [k3]; exact abB _,k4,k5,k6,fun M9=>VR.ext M9 _ _ Ks⟩
  rw [sP]
  have J1:c.w.shape? b=some (e',C.size):=by simp [World.shape?,hb]
  simp [convert,run_underlying B7,run_underlying he,markStringish,J1]
 ·rw [abx] at h
  obtain⟨v,hv,h⟩:=h
  rw [abx] at h
  obtain⟨r,hr,h⟩:=h
  refine gM hd fun a c Lo lam f hn=>?_
  have hx:=lZ hv ((bY f x).vr (l8 hv))
  exact⟨r,hex _ _ _ _ (by rw [hx]; exact lu _ hr),SR.of (oB h)⟩
theorem fk {op:BinOp}{t:TypeId}{x y:Operand}{u v:Value}(h:(∀a b,u≠.agg a∨v≠.agg b)∧u≠.nilIface)(w:World):(eqGuard op t x y u v).run P w = .ok () w:=by
 obtain⟨h1,h2⟩:=h
 unfold eqGuard
 cases op<;>first | rfl | skip
 all_goals
  simp only [acO,abK,if_false]
  split
  ·exact absurd rfl h2
  ·rename_i a b; rcases h1 a b with h3 | h3<;>exact absurd rfl h3
  ·rfl
theorem CG {x:AV}{u:Value}(h:x.ie=some u):(∀a,u≠.agg a)∧u≠.nilIface:=by
 unfold AV.ie at h
 split at h<;>first | (cases h; done) | (cases h; exact⟨fun _=>(by simp),(by simp)⟩)
theorem FC {op:BinOp}{a b:ByteArray}{y:AV}(h:Ci op a b=some y)(w:World):∃r,(Op.stringOp op a b).run P w = .ok r w∧∀(c:Cx) (L:Nat→Prop),VR c L y r:=by
 have hl:∀z:ByteArray,z.toList=z.data.toList:=fun z=>ByteArray.toList_eq z
 unfold Ci at h
 unfold Op.stringOp
 simp only [hl]
 cases op<;>simp only at h<;>try (cases h; done)
 ·split at h
  rotate_left
  ·cases h
  rename_i hsz
  cases h
  refine⟨.string (a++b),?_,fun c L=>by simp only [VR]⟩
  have h1:¬(((a.size+b.size:Nat):Int) > IntKind.i64.max):=by
   have:IntKind.i64.max=9223372036854775807:=by decide
   rw [this]; omega
  simp only [h1,if_false]
  rfl
 all_goals (cases h; exact⟨_,rfl,fun c L=>by simp only [VR]⟩)
theorem oC {op:BinOp}{ry:Bool}(h:Cj op=some ry):(op = .eql∧ry=true)∨(op = .neq∧ry=false):=by
 unfold Cj at h
 split at h<;>cases h
 ·exact .inl ⟨rfl,rfl⟩
 ·exact .inr ⟨rfl,rfl⟩
theorem pC {t:TypeId}(ht:∃q,P.underlying t=some (.pointer q)){a:Addr}{op:BinOp}{ry:Bool}(h:Cj op=some ry)(w:World) :
  (binOp op t (.pointer (some a)) (.pointer none)).run P w = .ok (.bool (!ry)) w∧(binOp op t (.pointer none) (.pointer (some a))).run P w = .ok (.bool (!ry)) w:=by
 obtain⟨q,hq⟩:=ht
 have e1:(Op.equal t (.pointer (some a)) (.pointer none)).run P w = .ok false w:=by
  unfold Op.equal Op.maxDepth
  unfold Op.equalIn
  simp [bM hq]
 have e2:(Op.equal t (.pointer none) (.pointer (some a))).run P w = .ok false w:=by
  unfold Op.equal Op.maxDepth
  unfold Op.equalIn
  simp [bM hq]
 rcases oC h with⟨rfl,rfl⟩| ⟨rfl,rfl⟩
 ·constructor
  ·show ((do pure (.bool (←Op.equal t (.pointer (some a)) (.pointer none)))):Sem Value).run P w=_
   simp [e1]
  ·show ((do pure (.bool (←Op.equal t (.pointer none) (.pointer (some a))))):Sem Value).run P w=_
   simp [e2]
 ·constructor
  ·show ((do pure (.bool (!(←Op.equal t (.pointer (some a)) (.pointer none))))):Sem Value).run P w=_
   simp [e1]
  ·show ((do pure (.bool (!(←Op.equal t (.pointer none) (.pointer (some a)))))):Sem Value).run P w=_
   simp [e2]
theorem qn {t:TypeId}(ht:∃q,P.underlying t=some (.slice q)){ad:Option Addr}(hs:ad.isSome=true){m cap:Nat}{op:BinOp}{ry:Bool}(h:Cj op=some ry)(w:World) :
  (binOp op t (.slice ad m cap) (.slice none 0 0)).run P w = .ok (.bool (!ry)) w:=by
 obtain⟨q,hq⟩:=ht
 obtain⟨a,rfl⟩:=acd.1 hs
 have e1:(Op.equal t (.slice (some a) m cap) (.slice none 0 0)).run P w = .ok false w:=by
  unfold Op.equal Op.maxDepth
  unfold Op.equalIn
  simp [bM hq]
 rcases oC h with⟨rfl,rfl⟩| ⟨rfl,rfl⟩
 ·show ((do pure (.bool (←Op.equal t (.slice (some a) m cap) (.slice none 0 0)))):Sem Value).run P w=_
  simp [e1]
 ·show ((do pure (.bool (!(←Op.equal t (.slice (some a) m cap) (.slice none 0 0))))):Sem Value).run P w=_
  simp [e1]
theorem Hm (hd:ij n ds o){op:BinOp}{t t2:TypeId}{x y:Operand}(ho:o.op = .binOp op t x y t2){z:AV}(h:yk P op t (ck s.ρ x) (ck s.ρ y)=some z):j7 P L0 c0 n ds o s (s.set o.dst z):=by
 refine gM hd fun a c Lo lam f hn=>?_
 have hx:=bY f x
 have hy:=bY f y
 have hex:∀v,(eqGuard op t x y (a.eval x) (a.eval y)).run P c.w = .ok () c.w→(binOp op t (a.eval x) (a.eval y)).run P c.w = .ok v c.w→(execOp a.eval o).run P c.w = .ok (.value v) c.w:=by
  intro v h1 h2; simp [execOp,ho,h1,h2]
 unfold yk at h
 split at h
 ·rename_i p q hp hq
  rw [hp] at hx; rw [hq] at hy
  simp only [SR,VR] at hx hy
  obtain⟨r,hr,hv⟩:=FC (P:=P) h c.w
  refine⟨r,hex _ (fk ⟨fun _ _=>.inl (by rw [hx]; simp),by rw [hx]; simp⟩ _) ?_,SR.of (hv _ _)⟩
  rw [hx,hy]
  unfold binOp
  simpa using hr
 ·rename_i p q hp hq
  rw [hp] at hx; rw [hq] at hy
  simp only [SR,VR] at hx hy
  obtain⟨_,ad,sP,_⟩:=hx
  rw [abx] at h
  obtain⟨ry,tp,h⟩:=h
  split at h
  rotate_left
  ·cases h
  rename_i ht
  cases h
  refine⟨.bool (!ry),hex _ (fk ⟨fun _ _=>.inl (by rw [sP]; simp),by rw [sP]; simp⟩ _) ?_,SR.of (by simp [VR])⟩
  rw [sP,hy]
  exact (pC ⟨_,ht⟩ tp _).1
 ·rename_i p q hp hq
  rw [hp] at hx; rw [hq] at hy
  simp only [SR,VR] at hx hy
  obtain⟨_,ad,SL,_⟩:=hy
  rw [abx] at h
  obtain⟨ry,tp,h⟩:=h
  split at h
  rotate_left
  ·cases h
  rename_i ht
  cases h
  refine⟨.bool (!ry),hex _ (fk ⟨fun _ _=>.inl (by rw [hx]; simp),by rw [hx]; simp⟩ _) ?_,SR.of (by simp [VR])⟩
  rw [hx,SL]
  exact (pC ⟨_,ht⟩ tp _).2
 ·rename_i p q hp hq
  rw [hp] at hx; rw [hq] at hy
  simp only [SR,VR] at hx hy
  obtain⟨b,off,sP,_⟩:=hx
  rw [abx] at h
  obtain⟨ry,tp,h⟩:=h
  split at h
  rotate_left
  ·cases h
  rename_i ht
  cases h
  refine⟨.bool (!ry),hex _ (fk ⟨fun _ _=>.inl (by rw [sP]; simp),by rw [sP]; simp⟩ _) ?_,SR.of (by simp [VR])⟩
  rw [sP,hy]
  exact (pC ⟨_,ht⟩ tp _).1
 ·rename_i hp hq
  rw [hp] at hx; rw [hq] at hy
  simp only [SR,VR] at hx hy
  obtain⟨ad,cap,sP,_,_,hs,_⟩:=hx
  replace hs:ad.isSome=true:=hs.elim id fun h=>by cases h.1
  rw [abx] at h
  obtain⟨ry,tp,h⟩:=h
  split at h
  rotate_left
  ·cases h
  rename_i ht
  cases h
  refine⟨.bool (!ry),hex _ (fk ⟨fun _ _=>.inl (by rw [sP]; simp),by rw [sP]; simp⟩ _) ?_,SR.of (by simp [VR])⟩
  rw [sP,hy]
  exact qn ⟨_,ht⟩ hs tp _
 ·rename_i hp hq
  rw [hp] at hx; rw [hq] at hy
  simp only [SR,VR] at hx hy
  rcases hx with⟨hx,_⟩| ⟨_,_,ad,cap,sP,_,hs,_⟩
  ·omega
  rw [abx] at h
  obtain⟨ry,tp,h⟩:=h
  split at h
  rotate_left
  ·cases h
  rename_i ht
  cases h
  refine⟨.bool (!ry),hex _ (fk ⟨fun _ _=>.inl (by rw [sP]; simp),by rw [sP]; simp⟩ _) ?_,SR.of (by simp [VR])⟩
  rw [sP,hy]
  exact qn ⟨_,ht⟩ hs tp _
 ·rename_i p q hp hq
  rw [hp,hq] at h
  rw [hp] at hx; rw [hq] at hy
  have Ks:=hx.vr (by rintro k off h; cases h)
  have TJ:=hy.vr (by rintro k off h; cases h)
  rw [abx] at h
  obtain⟨ry,tp,h⟩:=h
  split at h
  rotate_left
  ·cases h
  rename_i kR
  simp only [abA,acQ] at kR
  obtain⟨⟨⟨h1,h2⟩,h3⟩,h4⟩:=kR
  cases h
  have hk:=xe (P:=P) 9998 h1 h3 Ks TJ c.w
  simp only [VR] at Ks TJ
  obtain⟨vx,sP,_⟩:=Ks
  obtain⟨vy,SL,_⟩:=TJ
  refine⟨.bool (gK (.agg p) (.agg q)==ry),hex _ ?_ ?_,SR.of (by simp only [VR])⟩
  ·rw [sP,SL]
   rcases oC tp with⟨rfl,rfl⟩| ⟨rfl,rfl⟩<;>simp [eqGuard,h4,program,Sem.run]
  ·rw [sP,SL] at hk ⊢
   rcases oC tp with⟨rfl,rfl⟩| ⟨rfl,rfl⟩
   ·show ((do pure (.bool (←Op.equal t (.agg vx) (.agg vy)))):Sem Value).run P c.w=_
    have PL:(Op.equal t (.agg vx) (.agg vy)).run P c.w=_:=hk
    simp [PL]
   ·show ((do pure (.bool (!(←Op.equal t (.agg vx) (.agg vy))))):Sem Value).run P c.w=_
    have PL:(Op.equal t (.agg vx) (.agg vy)).run P c.w=_:=hk
    simp [PL]
 ·rw [abx] at h
  obtain⟨u,hu,h⟩:=h
  rw [abx] at h
  obtain⟨v,hv,h⟩:=h
  rw [abx] at h
  obtain⟨r,hr,h⟩:=h
  have h1:=lZ hu (hx.vr (l8 hu))
  have h2:=lZ hv (hy.vr (l8 hv))
  have h3:=CG hu
  exact⟨r,hex _ (fk ⟨fun p _=>.inl (by rw [h1]; exact h3.1 p),by rw [h1]; exact h3.2⟩ _) (by rw [h1,h2]; exact lu _ hr),SR.of (oB h)⟩
theorem Kt (hd:ij n ds o){op:UnOp}{t:TypeId}{x:Operand}(ho:o.op = .unOp op t x){z:AV}(h:((ck s.ρ x).ie.bind fun a=>(jy P (Op.unary op a)).bind pZ)=some z):j7 P L0 c0 n ds o s (s.set o.dst z):=by
 refine gM hd fun a c Lo lam f hn=>?_
 rw [abx] at h
 obtain⟨u,hu,h⟩:=h
 rw [abx] at h
 obtain⟨r,hr,h⟩:=h
 have h1:=lZ hu ((bY f x).vr (l8 hu))
 refine⟨r,?_,SR.of (oB h)⟩
 have:=lu (P:=P) c.w hr
 rw [←h1] at this
 simp [execOp,ho,this]
theorem DV (hd:ij n ds o){x:Operand}(ho:o.op = .move x∨o.op = .assign x):j7 P L0 c0 n ds o s (s.set o.dst (ck s.ρ x)):=
 gM hd fun a c Lo lam f hn=>⟨a.eval x,by rcases ho with ho | ho<;>simp [execOp,ho],bY f x⟩
theorem Ku (hd:ij n ds o){k x y:Operand}(ho:o.op = .pick k x y){t:Bool}(h:uu (ck s.ρ k)=some t):j7 P L0 c0 n ds o s (s.set o.dst (if t then ck s.ρ x else ck s.ρ y)):=by
 refine gM hd fun a c Lo lam f hn=>?_
 have hk:=bY f k
 unfold uu at h
 split at h
 ·rename_i b hb
  cases h
  rw [hb] at hk
  simp only [SR,VR] at hk
  refine⟨if t then a.eval x else a.eval y,by simp [execOp,ho,hk,asBool],?_⟩
  cases t
  ·exact bY f y
  ·exact bY f x
 ·cases h
theorem An (hd:ij n ds o){x:Operand}(ho:o.op = .nilCheck x){z:AV}(h:rE (ck s.ρ x)=some z):j7 P L0 c0 n ds o s (s.set o.dst z):=by
 refine gM hd fun a c Lo lam f hn=>?_
 have hx:=bY f x
 have hp:(∃ad,a.eval x = .pointer (some ad))∧z=ck s.ρ x:=by
  unfold rE at h
  split at h
  ·rename_i id off heq
   cases h
   rw [heq] at hx
   simp only [SR,VR] at hx
   obtain⟨_,ad,h1,_⟩:=hx
   exact⟨⟨ad,h1⟩,heq.symm⟩
  ·rename_i k off heq
   cases h
   rw [heq] at hx
   simp only [SR] at hx
   exact⟨⟨_,hx.1⟩,heq.symm⟩
  ·rename_i cs off heq
   cases h
   rw [heq] at hx
   simp only [SR,VR] at hx
   obtain⟨b,o',h1,_⟩:=hx
   exact⟨⟨_,h1⟩,heq.symm⟩
  ·cases h
 obtain⟨⟨ad,hp⟩,rfl⟩:=hp
 exact⟨a.eval x,by simp [execOp,ho,hp],hx⟩
theorem oD {c:Cx}{Lo:Nat→Prop}{lam:Nat→Nat}{a:Act}(f:Fr L0 c Lo lam ds s a):∀xs:List Operand,(∀x∈xs,∀k off,ck s.ρ x≠.lp k off)→VRs c (un L0 Lo) (xs.map (ck s.ρ)) (xs.map a.eval)
 | [],_=>trivial
 | x::xs,h=>⟨(bY f x).vr (h x (by simp)),oD f xs fun y hy=>h y (by simp [hy])⟩
theorem FD {x:AV}(h:x.cK=true):∀k off,x≠.lp k off:=by rintro k off rfl; simp [AV.cK] at h
theorem Ao (hd:ij n ds o){CH:FuncId}{first cap:Array Operand}(ho:o.op = .makeFunc (.func CH) first cap)(hf:first.isEmpty=true)(hc:(cap.toList.map (ck s.ρ)).all AV.cK=true):j7 P L0 c0 n ds o s (s.set o.dst (.fn CH (cap.toList.map (ck s.ρ)))):=by
 refine gM hd fun a c Lo lam f hn=>?_
 have P6:first = #[]:=by simpa using hf
 subst P6
 refine⟨.func (.func CH) #[] (cap.map a.eval),by simp [execOp,ho,Instr.makeFunc],SR.of ?_⟩
 simp only [VR]
 refine⟨_,rfl,?_⟩
 rw [Array.toList_map]
 refine oD f _ fun x hx=>FD ?_
 rw [abW] at hc
 exact hc _ (abZ.2 ⟨x,hx,rfl⟩)
theorem CI (hd:ij n ds o){x:Operand}{i:Nat}(ho:o.op = .extract x i){z:AV}(h:uv (ck s.ρ x) i=some z):j7 P L0 c0 n ds o s (s.set o.dst z):=by
 refine gM hd fun a c Lo lam f hn=>?_
 have hx:=bY f x
 cases heq:ck s.ρ x<;>rw [heq] at h hx<;>simp only [uv] at h<;>try (cases h; done)
 rename_i vs
 simp only [SR,VR] at hx
 obtain⟨us,sP,GN⟩:=hx
 obtain⟨v,hv,hr⟩:=GN.get i z h
 have TK:us[i]? = some v:=by simpa using hv
 exact⟨v,by simp [execOp,ho,sP,Instr.extract,TK],SR.of hr⟩
theorem sQ {op:Value→Value→Sem Value}:∀(vs:List Value) (v r:Value) (w:World),mD P op v vs=some r→(vs.foldlM op v).run P w = .ok r w
 | [],v,r,w,h=>by simp only [mD,abz] at h; subst h; rfl
 | x::xs,v,r,w,h=>by
  simp only [mD,abx] at h
  obtain⟨u,h1,h2⟩:=h
  simp only [List.foldlM_cons,Sem.run_bind,lu w h1,Result.andThen_ok]
  exact sQ xs u r w h2
theorem xl (hd:ij n ds o){b:Builtin}{DW:Array TypeId}{args:Array Operand}(ho:o.op = .call {callee:=.builtin b,args:=args,argTypes:=DW}){op:Value→Value→Sem Value}(hb:(b = .min∧op=Builtin.min2)∨(b = .max∧op=Builtin.max2))
  {x:AV} {xs:List AV} (he:args.toList.map (ck s.ρ)=x::xs) {v u:Value} {vs:List Value} (hx:x.ie=some v) (hxs:jO xs=some vs) (hf:mD P op v vs=some u) {z:AV} (hz:pZ u=some z):j7 P L0 c0 n ds o s (s.set o.dst z):=by
 refine gM hd fun a c Lo lam f hn=>?_
 refine⟨u,?_,SR.of (oB hz)⟩
 have hne:∀q:Operand,∀k off,ck s.ρ q = .lp k off→q∉args.toList:=by
  intro q k off hq hm
  have DX:AV.lp k off∈x::xs:=by rw [←he,←hq]; exact abZ.2 ⟨q,hm,rfl⟩
  rcases ab0.1 DX with h1 | h1
  ·exact l8 hx k off h1.symm
  ·have:∀(ys:List AV) (us:List Value),jO ys=some us→AV.lp k off∉ys:=by
    intro ys
    induction ys with
    | nil=>intro us _ h; cases h
    | cons y ys ih=>
     intro us hu hm
     simp only [jO,abx] at hu
     obtain⟨u1,h2,us1,h3,_⟩:=hu
     rcases ab0.1 hm with h4 | h4
     ·exact l8 h2 k off h4.symm
     ·exact ih _ h3 h4
   exact this _ _ hxs h1
 have DJ:=oD f args.toList (fun q hq k off h=>hne q k off h hq)
 rw [he] at DJ
 have kQ:args.toList.map a.eval=v::vs:=rG (xs:=x::xs) (us:=v::vs) (by simp [jO,hx,hxs]) DJ
 have hr:=sQ vs v u c.w hf
 have hargs:args.map a.eval=(v::vs).toArray:=by rw [←kQ]; apply ac9; simp
 rcases hb with⟨rfl,rfl⟩| ⟨rfl,rfl⟩
 ·simp [execOp,ho,resolve,invoke,builtin,Builtin.min_,hargs,hr]
 ·simp [execOp,ho,resolve,invoke,builtin,Builtin.max_,hargs,hr]
end
end Go.R
namespace Go.R
open Go
section
variable {P:Program}{L0:Nat→Prop}{c0:Cx}{n:Nat}{ds:List Nat}{s:RS}
theorem Fr.Hn {c:Cx}{Lo:Nat→Prop}{lam:Nat→Nat}{a:Act}(f:Fr L0 c Lo lam ds s a)(id:Nat) :
  Ext c Lo ⟨c.β,c.h.kill id,c.w,c.base⟩ Lo∧Fr L0 ⟨c.β,c.h.kill id,c.w,c.base⟩ Lo lam ds {s with h:=s.h.kill id} a∧(Live c.h id→RO ⟨c.β,c.h.kill id,c.w,c.base⟩ (un L0 Lo) (c.β id).1):=by
 have hg:∀i,(c.h.kill id).get i=if i=id then none else c.h.get i:=fun i=>by
  simp only [AHeap.kill,beq_nat]
  by_cases h:i=id<;>simp [h]
 have nk:∀i,Live (c.h.kill id) i→i≠id∧Live c.h i:=fun i hl=>by
  have h2:=hl.2
  rw [hg] at h2
  by_cases h:i=id
  ·rw [if_pos h] at h2; cases h2
  ·rw [if_neg h] at h2
   obtain⟨o,ho⟩:=acd.1 h2
   exact⟨h,f.rel.lt _ _ ho,h2⟩
 have e:Ext c Lo ⟨c.β,c.h.kill id,c.w,c.base⟩ Lo:=
  ⟨acN _,fun i hi hl=>⟨(nk i hl).2,rfl,rfl⟩,abB _,fun _ _ _ _=>.inl rfl,fun _ _=>rfl,rfl,fun i hl=>.inr ⟨i,(nk i hl).2,rfl⟩,fun _ h=>h,fun _ h=>.inl h,rfl,rfl,rfl⟩
 refine⟨e,⟨by rw [←f.h],⟨fun i o ho=>?_,fun i o ho=>?_,fun i j hi hj he=>?_,fun i hi=>?_,f.rel.bd,fun i hi=>?_,(Steady.kill c.h id).wf f.rel.ver⟩,fun t=>?_,fun k cs hb=>?_,f.inj,f.tidy,f.defers,f.G4⟩,fun hl=>⟨fun i hi he=>?_,f.rel.out id hl⟩⟩
 ·replace ho:(c.h.kill id).get i=some o:=ho
  rw [hg] at ho
  by_cases h:i=id
  ·rw [if_pos h] at ho; cases ho
  ·rw [if_neg h] at ho; exact acY (f.rel.lt _ _ ho)
 ·replace ho:(c.h.kill id).get i=some o:=ho
  rw [hg] at ho
  by_cases h:i=id
  ·rw [if_pos h] at ho; cases ho
  ·rw [if_neg h] at ho
   exact (f.rel.obj i o ho).ext e rfl
 ·exact f.rel.inj i j (nk i hi).2 (nk j hj).2 he
 ·exact f.rel.out i (nk i hi).2
 ·exact f.rel.low i (nk i hi).2
 ·exact (f.slot t).ext e (fun _ _ _=>⟨rfl,fun h=>h⟩)
 ·have hb2:=f.box k cs hb
  exact hb2.ext e (.inl rfl)
 ·obtain⟨h1,h2⟩:=nk i hi
  exact h1 (f.rel.inj i id h2 hl he)
theorem Kv {c:Cx}{Lo:Nat→Prop}{lam:Nat→Nat}{a:Act}(f:Fr L0 c Lo lam ds s a){x y:AV}{h':AHeap}(h:Ft s.h x=some (y,h')) :
  Ext c Lo ⟨c.β,h',c.w,c.base⟩ Lo∧Fr L0 ⟨c.β,h',c.w,c.base⟩ Lo lam ds {s with h:=h'} a∧(∀v,VR c (un L0 Lo) x v→VR ⟨c.β,h',c.w,c.base⟩ (un L0 Lo) y v)∧∀i,Live h' i→Live c.h i:=by
 have same:Ext c Lo ⟨c.β,s.h,c.w,c.base⟩ Lo∧Fr L0 ⟨c.β,s.h,c.w,c.base⟩ Lo lam ds {s with h:=s.h} a∧(⟨c.β,s.h,c.w,c.base⟩:Cx)=c:=by
  have e:(⟨c.β,s.h,c.w,c.base⟩:Cx)=c:=by rw [←f.h]
  rw [e]; exact⟨Ext.refl _ _,f,rfl⟩
 unfold Ft at h
 split at h
 ·simp only [abz,abH] at h
  obtain⟨rfl,rfl⟩:=h
  obtain⟨h1,h2,h3⟩:=same
  exact⟨h1,h2,fun v hv=>by rw [h3]; exact hv,fun i hi=>by rw [f.h]; exact hi⟩
 cases x with
 | rs id off len jj=>
  simp only at h
  split at h
  ·rename_i hid
   split at h
   rotate_left
   ·cases h
   rename_i hl0
   simp only [abz,abH] at h
   obtain⟨rfl,rfl⟩:=h
   obtain⟨h1,h2,h3⟩:=same
   refine⟨h1,h2,fun v hv=>?_,fun i hi=>by rw [f.h]; exact hi⟩
   simp only [VR] at hv ⊢
   rcases hv with⟨_,_,_,a,rfl⟩| hv
   ·exact⟨a,0,rfl,abB _,fun _=>rfl,.inr ⟨trivial,rfl⟩,.inl trivial⟩
   ·exact absurd hid hv.1
  rename_i lf
  rw [abx] at h
  obtain⟨ob,ho,h⟩:=h
  cases ob with
  | map es=>cases h
  | row t cs=>cases h
  | cells cs=>
  simp only at h
  split at h
  rotate_left
  ·cases h
  rename_i hle
  simp only [abz,abH] at h
  obtain⟨rfl,rfl⟩:=h
  rw [←f.h] at ho
  have hl:Live c.h id:=⟨f.rel.lt _ _ ho,by simp [ho]⟩
  obtain⟨e,f',L7⟩:=f.Hn id
  have hb:(⟨c.β,s.h.kill id,c.w,c.base⟩:Cx)=⟨c.β,c.h.kill id,c.w,c.base⟩:=by rw [f.h]
  rw [hb]
  refine⟨e,f',fun v hv=>?_,fun i hi=>?_⟩
  ·simp only [VR] at hv ⊢
   rcases hv with hv | ⟨_,_,a,cap,rfl,h1,h2,h3⟩
   ·exact absurd hv.1 lf
   obtain⟨m,_,_,hc⟩:=f.rel.obj _ _ ho
   refine⟨a,cap,rfl,h1,by simp,.inl h2,?_⟩
   rcases h3 hl with⟨h4,_⟩| h4
   ·exact .inr ⟨_,_,h4,L7 hl,by simp,Cells.move e _ _ _ _ _ (fun i hi=>rfl) ((hc.drop off).take (len*jj))⟩
   ·left
    have hz:len=0:=by omega
    subst hz
    simp
  ·have DI:=hi.2
   simp only [AHeap.kill,beq_nat] at DI
   by_cases h:i=id
   ·simp [h] at DI
   ·simp only [h,decide_false,cond_false] at DI
    rw [f.h]
    obtain⟨o,Pe⟩:=acd.1 DI
    have:=f.rel.lt i o (by rw [f.h]; exact Pe)
    rw [f.h] at this
    exact⟨this,DI⟩
 | _=>cases h
theorem DY:∀{cs:List AV} {c:Cx} {Lo:Nat→Prop} {lam:Nat→Nat} {a:Act} {s:RS} {ys:List AV} {h':AHeap},Fr L0 c Lo lam ds s a→yl s.h cs=some (ys,h')→
  Ext c Lo ⟨c.β,h',c.w,c.base⟩ Lo∧Fr L0 ⟨c.β,h',c.w,c.base⟩ Lo lam ds {s with h:=h'} a∧(∀b o,Cells c (un L0 Lo) cs b o→Cells ⟨c.β,h',c.w,c.base⟩ (un L0 Lo) ys b o)∧∀i,Live h' i→Live c.h i
 | [],c,Lo,lam,a,s,ys,h',f,h=>by
  cases h
  have e:(⟨c.β,s.h,c.w,c.base⟩:Cx)=c:=by rw [←f.h]
  rw [e]
  exact⟨Ext.refl _ _,f,fun _ _ h=>h,fun i hi=>by rw [f.h]; exact hi⟩
 | x::cs,c,Lo,lam,a,s,ys,h',f,h=>by
  simp only [yl,abx,aby] at h
  obtain⟨⟨y,h1⟩,hx,⟨zs,h2⟩,hz,he⟩:=h
  simp only [abH] at he
  obtain⟨rfl,rfl⟩:=he
  obtain⟨e1,f1,v1,l1⟩:=Kv f hx
  obtain⟨e2,f2,v2,l2⟩:=DY f1 hz
  refine⟨e1.trans e2,f2,fun b o hc=>?_,fun i hi=>l1 i (l2 i hi)⟩
  obtain⟨⟨v,q1,q2,q3⟩,hc⟩:=hc
  exact⟨⟨v,q1,q2,VR.ext e2 _ _ (v1 v q3)⟩,v2 _ _ (Cells.move e1 _ _ _ _ _ (fun i hi=>rfl) hc)⟩
theorem yC {c:Cx}{Lo:Nat→Prop}{lam:Nat→Nat}{a:Act}(f:Fr L0 c Lo lam ds s a){k:Nat}{x y:AV}{h':AHeap}(h:lb k s.h x=some (y,h')) :
  (∀k off,x≠.lp k off)∧(∀k off,y≠.lp k off)∧∃c',c'.w=c.w∧Ext c Lo c' Lo∧Fr L0 c' Lo lam ds {s with h:=h'} a∧∀v,VR c (un L0 Lo) x v→VR c' (un L0 Lo) y v:=by
 cases k with
 | zero=>
  cases x with
  | nils=>
   simp only [lb,abz,abH] at h
   obtain⟨rfl,rfl⟩:=h
   refine⟨by simp,by simp,c,rfl,Ext.refl _ _,f,fun v hv=>?_⟩
   simp only [VR] at hv ⊢
   exact⟨none,0,hv,abB _,fun _=>rfl,.inr ⟨trivial,rfl⟩,.inl trivial⟩
  | fz cs m ex=>
   simp only [lb,abz,abH] at h
   obtain⟨rfl,rfl⟩:=h
   refine⟨by simp,by simp,c,rfl,Ext.refl _ _,f,fun v hv=>?_⟩
   simp only [VR] at hv ⊢
   obtain⟨a,cap,rfl,h1,h2,hs,hc⟩:=hv
   exact⟨a,cap,rfl,h1,by simp,hs,hc.imp id fun ⟨b,o,ha,hr,hex,hc⟩=>⟨b,o,ha,hr,by simp,hc⟩⟩
  | rs id off len jj=>
   simp only [lb] at h
   split at h
   ·rename_i hid
    split at h
    rotate_left
    ·cases h
    rename_i hl0
    simp only [abz,abH] at h
    obtain⟨rfl,rfl⟩:=h
    refine⟨by simp,by simp,c,rfl,Ext.refl _ _,f,fun v hv=>?_⟩
    simp only [VR] at hv ⊢
    rcases hv with⟨_,_,_,a,rfl⟩| hv
    ·exact⟨a,0,rfl,abB _,fun _=>rfl,.inr ⟨trivial,rfl⟩,.inl trivial⟩
    ·exact absurd hid hv.1
   rename_i lf
   rw [abx] at h
   obtain⟨ob,ho,h⟩:=h
   cases ob with
   | map es=>cases h
   | row t cs=>cases h
   | cells cs=>
   simp only at h
   split at h
   rotate_left
   ·cases h
   rename_i hle
   rw [aby] at h
   obtain⟨⟨gp,h2⟩,hz,he⟩:=h
   simp only [abH] at he
   obtain⟨rfl,rfl⟩:=he
   rw [←f.h] at ho
   have hl:Live c.h id:=⟨f.rel.lt _ _ ho,by simp [ho]⟩
   obtain⟨e,f',L7⟩:=f.Hn id
   obtain⟨e2,f2,hcs,nk⟩:=DY f' hz
   refine⟨by simp,by simp,⟨c.β,h2,c.w,c.base⟩,rfl,e.trans e2,f2,fun v hv=>?_⟩
   simp only [VR] at hv ⊢
   rcases hv with hv | ⟨_,_,a,cap,rfl,h1,h2,h3⟩
   ·exact absurd hv.1 lf
   obtain⟨m,_,_,hc⟩:=f.rel.obj _ _ ho
   refine⟨a,cap,rfl,h1,by simp,.inl h2,?_⟩
   rcases h3 hl with⟨h4,_⟩| h4
   ·exact .inr ⟨_,_,h4,⟨fun i hi=>(L7 hl).1 i (nk i hi),(L7 hl).2⟩,by simp,hcs _ _ (Cells.move e _ _ _ _ _ (fun i hi=>rfl) ((hc.drop off).take (len*jj)))⟩
   ·left
    have hz0:len=0:=by omega
    subst hz0
    simp [yl] at hz
    exact hz.1
  | _=>simp [lb] at h
 | succ k=>
  have key:(x = .nils∨x = .fz [] 0 true)→y = .rs 0 0 0 (k+1)→h'=s.h→(∀k off,x≠.lp k off)∧(∀k off,y≠.lp k off)∧∃c',c'.w=c.w∧Ext c Lo c' Lo∧Fr L0 c' Lo lam ds {s with h:=h'} a∧∀v,VR c (un L0 Lo) x v→VR c' (un L0 Lo) y v:=by
   rintro hx rfl rfl
   refine⟨by rcases hx with rfl | rfl<;>simp,by simp,c,rfl,Ext.refl _ _,f,fun v hv=>?_⟩
   rcases hx with rfl | rfl
   ·simp only [VR] at hv ⊢
    exact .inl ⟨trivial,trivial,trivial,none,hv⟩
   ·simp only [VR] at hv ⊢
    obtain⟨a,cap,rfl,h1,h2,hs,hc⟩:=hv
    have:=h2 trivial
    subst this
    exact .inl ⟨trivial,trivial,trivial,a,rfl⟩
  unfold lb at h
  simp only at h
  split at h
  ·simp only [abz,abH] at h
   exact key (.inl rfl) h.1.symm h.2.symm
  ·simp only [abz,abH] at h
   exact key (.inr rfl) h.1.symm h.2.symm
  ·simp only [abz,abH] at h
   obtain⟨rfl,rfl⟩:=h
   exact⟨by simp,by simp,c,rfl,Ext.refl _ _,f,fun v hv=>hv⟩
  ·cases h
end
end Go.R
namespace Go.R
open Go
def CallOK (P:Program)(cf:CallF):Prop:=
 ∀f args h r h',cf f args h=some (r,h')→
  (∀(vs:Array Value) (w:World),(callFunc f vs).run P w = .ok (.enter f vs) w)∧
  ∀(L0:Nat→Prop) (c:Cx) (vs:List Value),c.h=h→c.base≤c.w.heap.size→HRel c L0→VRs c L0 args vs→
   Calls P f vs.toArray c.w fun e w'=>∃c' v,e = .returned v∧c'.w=w'∧c'.h=h'∧VR c' L0 r v∧HRel c' L0∧Ext c none0 c' none0
section
variable {P:Program}{L0:Nat→Prop}{c0:Cx}{n:Nat}{ds:List Nat}{o:Oper}{s:RS}
theorem Fr.call {c c':Cx}{Lo:Nat→Prop}{lam:Nat→Nat}{a:Act}(f:Fr L0 c Lo lam ds s a)(hr:HRel c' (un L0 Lo))(e:Ext c none0 c' none0) :
  Ext c Lo c' Lo∧Fr L0 c' Lo lam ds {s with h:=c'.h} a:=by
 have sJ:∀b,Lo b→b<c.w.heap.size:=fun b hb=>f.rel.bd b (.inr hb)
 have e':Ext c Lo c' Lo:=
  ⟨e.next,e.live,e.size,fun b h1 _ h3=>e.keep b h1 (fun h=>h.elim) h3,e.exact,e.base,e.Kh,fun _ h=>h,fun _ h=>.inl h,e.os,e.tape,e.output⟩
 refine⟨e',rfl,hr,fun t=>(f.slot t).ext e' (fun _ _ _=>⟨rfl,fun h=>h⟩),fun k cs hb=>?_,f.inj,f.tidy,f.defers,fun b hb=>by rw [e.base]; exact f.G4 b hb⟩
 have ob:=f.box k cs hb
 exact ob.ext e' (e.keep _ ob.plain.lt (fun h=>h.elim) fun id hl he=>f.rel.out id hl (he ▸ .inr ob.own))
theorem Kw {cf:CallF}(hcf:CallOK P cf)(hb0:c0.base≤c0.w.heap.size)(hd:ij n ds o){fx:Operand}{args:Array Operand}{DW:Array TypeId}(ho:o.op = .call {callee:=.value fx,args:=args,argTypes:=DW}){CH:FuncId}{cap:List AV}
  (hf:ck s.ρ fx = .fn CH cap) (ha:(args.toList.map (ck s.ρ)).all AV.lk=true) {r:AV} {h':AHeap} (h:cf CH (args.toList.map (ck s.ρ)++cap) s.h=some (r,h')) {aN:List Nat} {y:AV} {h2:AHeap} (hy:ym aN o.dst (r,h')=some (y,h2)) :
  j7 P L0 c0 n ds o s ({s with h:=h2}.set o.dst y):=by
 rintro a w K Q ⟨hn,c,Lo,lam,rfl,f,e0⟩ hK
 obtain⟨hin,hcall⟩:=hcf _ _ _ _ _ h
 have TL:=bY f fx
 rw [hf] at TL
 simp only [SR,VR] at TL
 obtain⟨cv,YF,PO⟩:=TL
 have hargs:VRs c (un L0 Lo) (args.toList.map (ck s.ρ)) (args.toList.map a.eval):=by
  refine oD f _ fun x hx=>uL ?_
  rw [abW] at ha
  exact ha _ (abZ.2 ⟨x,hx,rfl⟩)
 have kQ:=VRs.append hargs PO
 unfold Oper.wp
 have:(execOp a.eval o).run P c.w = .ok (.enter CH (args.map a.eval++cv)) c.w:=by
  simp [execOp,ho,resolve,YF,Deferred.ofValue,invoke,hin]
 rw [this,Oper.upon_enter]
 have hc:=hcall (un L0 Lo) c _ f.h (jY e0 hb0) f.rel kQ
 have he:(args.toList.map a.eval++cv.toList).toArray=args.map a.eval++cv:=by
  apply ac9; simp
 rw [he] at hc
 refine Calls.mono hc ?_
 rintro e w' ⟨c',v,rfl,rfl,hh,hv,hrel,Nb⟩
 obtain⟨e',f'⟩:=f.call hrel Nb
 rw [hh] at f'
 have fin:y=r→h2=h'→K (a.put o.dst v) c'.w:=by
  rintro rfl rfl
  exact hK _ _ ⟨(ig _ _ _).trans hn,c',Lo,lam,rfl,f'.set (SR.of hv) (fun t ht=>by rw [hn]; exact hd t ht),e0.trans e'⟩
 unfold ym at hy
 cases hm:PC aN o.dst with
 | false=>rw [hm,cond_false] at hy; cases hy; exact fin rfl rfl
 | true=>
  rw [hm,cond_true] at hy
  obtain⟨_,_,c2,hw,e2,f2,L6⟩:=yC (s:={s with h:=h'}) f' hy
  have Tp:=L6 v hv
  refine hK _ _ ⟨(ig _ _ _).trans hn,c2,Lo,lam,hw,f2.set (SR.of Tp) (fun t ht=>by rw [hn]; exact hd t ht),(e0.trans e').trans e2⟩
theorem Option.map_some' {α β:Type}{x:Option α}{g:α→β}{y:β}(h:x.map g=some y):∃z,x=some z∧g z=y:=aby.1 h
theorem xm {aN:List Nat}{cs:List AV}{s':RS}(h:je s aN ds o cs=some s'):cs.all AV.cK=true:=by
 unfold je at h
 split at h
 ·assumption
 ·cases h
theorem Nc {cf:CallF}(hcf:CallOK P cf)(hb0:c0.base≤c0.w.heap.size)(hd:ij n ds o){aN:List Nat}{s':RS}(h:yn P cf aN ds s o=some s'):j7 P L0 c0 n ds o s s':=by
 have fc:∀{x:Option AV},(x.map fun x=>s.set o.dst x)=some s'→(∀z,x=some z→j7 P L0 c0 n ds o s (s.set o.dst z))→j7 P L0 c0 n ds o s s':=by
  intro x hx hz
  obtain⟨z,rfl,rfl⟩:=Option.map_some' hx
  exact hz z rfl
 unfold yn Cp at h
 dsimp only at h
 split at h
 ·rename_i x ho; cases h; exact DV hd (.inl ho)
 ·rename_i x ho; cases h; exact DV hd (.inr ho)
 ·rename_i k x y ho
  obtain⟨t,ht,rfl⟩:=Option.map_some' h
  exact Ku hd ho ht
 ·
  rename_i t ho
  rw [abx] at h
  obtain⟨z,hz,h⟩:=h
  refine xi hb0 hd t h fun a c Lo lam f hn=>?_
  have qf:=xm h
  obtain⟨v,h1,h2,h3⟩:=FA (P:=P) (c:=c) hz (Ko qf) (un L0 Lo)
  exact⟨v,by simp [execOp,ho,h1],DO h2,h3⟩
 ·
  rename_i t x ho
  refine xi hb0 hd t h fun a c Lo lam f hn=>?_
  have qf:(ck s.ρ x).cells.all AV.cK=true:=xm h
  obtain⟨h1,h2⟩:=jA qf ((bY f x).tS qf)
  exact⟨a.eval x,by simp [execOp,ho,Instr.box,newVar,newRow],h1,h2⟩
 ·rename_i t ps ho
  refine fc h fun z hz=>gM hd fun a c Lo lam f hn=>?_
  obtain⟨z0,hz0,rfl⟩:=aby.1 hz
  obtain⟨v,hr,hv⟩:=run_build (P:=P) (qh f ps.toList) hz0
  refine⟨v,?_,SR.of (Kn hv)⟩
  have he:ps.map (fun (i,x)=>(i,a.eval x))=(ps.toList.map fun (i,x)=>(i,a.eval x)).toArray:=by
   apply ac9; simp
  simp only [execOp,ho,Sem.run_bind]
  rw [he,hr]
  rfl
 ·rename_i t k ps ho
  rw [aby] at h
  obtain⟨z,hz,rfl⟩:=h
  exact uH hb0 hd ho aN hz
 ·
  rename_i t x ho
  refine fc h fun z hz=>gM hd fun a c Lo lam f hn=>?_
  obtain⟨r,hr,hv⟩:=uz (P:=P) f (t:=t) (bY f x) hz
  exact⟨r,by simp [execOp,ho,hr],SR.of hv⟩
 ·
  rename_i t x y ho
  split at h
  ·cases h
  rename_i tl
  exact Hd hb0 hd ho (by simpa using tl) h
 ·rename_i ho; exact fc h fun z hz=>An hd ho hz
 ·rename_i ho; exact fc h fun z hz=>Hm hd ho hz
 ·rename_i ho; exact fc h fun z hz=>Kt hd ho hz
 ·rename_i ho; exact fc h fun z hz=>CF hb0 hd ho hz
 ·rename_i CH first cap ho
  split at h
  ·rename_i hh
   refine fc h fun z hz=>?_
   cases hz
   exact Ao hd ho hh.1 hh.2
  ·cases h
 ·rename_i ho; cases h; exact CA hb0 hd ho
 ·rename_i ho; exact yw hb0 hd ho h
 ·
  rename_i t x lo hi mx ho
  refine fc h fun z hz=>gM hd fun a c Lo lam f hn=>?_
  have hs:∀(q:Option Operand) (y:AV),q.map (ck s.ρ)=some y→∃v,q.map a.eval=some v∧SR c L0 Lo lam s.bx y v:=by
   intro q y hq
   obtain⟨u,rfl,rfl⟩:=Option.map_some' hq
   exact⟨_,rfl,bY f u⟩
  have Md:∀(q:Option Operand),q.map (ck s.ρ)=none→q.map a.eval=none:=by
   intro q hq
   simpa using hq
  obtain⟨r,hr,hv⟩:=Cy (P:=P) (bY f x) (hs lo) (Md lo) (hs hi) (Md hi) (hs mx) (Md mx) hz
  exact⟨r,by simp [execOp,ho,hr],SR.of hv⟩
 ·rename_i t x i ho
  refine fc h fun z hz=>gM hd fun a c Lo lam f hn=>?_
  obtain⟨r,hr,hv⟩:=Aa (P:=P) (bY f x) hz
  exact⟨r,by simp [execOp,ho,hr],hv⟩
 ·rename_i t x i ho
  refine fc h fun z hz=>gM hd fun a c Lo lam f hn=>?_
  obtain⟨r,hr,hv⟩:=Cv (P:=P) (bY f x) hz
  exact⟨r,by simp [execOp,ho,hr],SR.of hv⟩
 ·rename_i t x i ho
  refine fc h fun z hz=>gM hd fun a c Lo lam f hn=>?_
  obtain⟨r,hr,hv⟩:=z8 (P:=P) (bY f x) (bY f i) hz
  exact⟨r,by simp [execOp,ho,hr],hv⟩
 ·rename_i t x i ho
  refine fc h fun z hz=>gM hd fun a c Lo lam f hn=>?_
  obtain⟨r,hr,hv⟩:=Cw (P:=P) (bY f x) (bY f i) hz
  exact⟨r,by simp [execOp,ho,hr],SR.of hv⟩
 ·rename_i t m k ok ho
  refine fc h fun z hz=>gM hd fun a c Lo lam f hn=>?_
  obtain⟨r,hr,hv⟩:=Af (P:=P) f (bY f m) (bY f k) hz
  exact⟨r,by simp [execOp,ho,hr],SR.of hv⟩
 ·rename_i t m k x ho
  split at h
  ·cases h
  rename_i tl
  obtain⟨h',hh,rfl⟩:=Option.map_some' h
  exact qm hb0 (.inl ho) (by simpa using tl) hh
 ·rename_i t m k x ho
  split at h
  ·cases h
  rename_i tl
  obtain⟨h',hh,rfl⟩:=Option.map_some' h
  exact qm hb0 (.inr ho) (by simpa using tl) hh
 ·rename_i ho; exact fc h fun z hz=>CI hd ho hz
 ·
  rename_i b args DW ho
  unfold gS at h
  split at h
  ·rename_i t x hts hargs
   have CJ:DW = #[t]:=by apply ac9; simpa using hts
   obtain⟨q,hq,rfl⟩:∃q,args = #[q]∧ck s.ρ q=x:=by
    cases args with | mk l=>
    rcases l with _ | ⟨q,_ | ⟨q2,l⟩⟩<;>simp at hargs
    exact⟨q,rfl,hargs⟩
   subst CJ hq
   refine fc h fun z hz=>gM hd fun a c Lo lam f hn=>?_
   obtain⟨r,hr,hv⟩:=Ha (P:=P) f #[t] rfl (bY f q) hz o.type
   exact⟨r,by simp [execOp,ho,resolve,invoke,builtin,hr],SR.of hv⟩
  ·rename_i t t2 x y hts hargs
   have CJ:DW = #[t,t2]:=by apply ac9; simpa using hts
   obtain⟨q,q2,hq,rfl,rfl⟩:∃q q2,args = #[q,q2]∧ck s.ρ q=x∧ck s.ρ q2=y:=by
    cases args with | mk l=>
    rcases l with _ | ⟨q,_ | ⟨q2,_ | ⟨q3,l⟩⟩⟩<;>simp at hargs
    exact⟨q,q2,rfl,hargs.1,hargs.2⟩
   subst CJ hq
   exact FB hb0 hd ho h
  ·rename_i t t2 x y hts hargs
   have CJ:DW = #[t,t2]:=by apply ac9; simpa using hts
   obtain⟨q,q2,hq,rfl,rfl⟩:∃q q2,args = #[q,q2]∧ck s.ρ q=x∧ck s.ρ q2=y:=by
    cases args with | mk l=>
    rcases l with _ | ⟨q,_ | ⟨q2,_ | ⟨q3,l⟩⟩⟩<;>simp at hargs
    exact⟨q,q2,rfl,hargs.1,hargs.2⟩
   subst CJ hq
   obtain⟨⟨z,h'⟩,hh,rfl⟩:=Option.map_some' h
   exact Kr hb0 hd ho hh
  ·rename_i t x hts hargs
   have CJ:DW = #[t]:=by apply ac9; simpa using hts
   obtain⟨q,hq,rfl⟩:∃q,args = #[q]∧ck s.ρ q=x:=by
    cases args with | mk l=>
    rcases l with _ | ⟨q,_ | ⟨q2,l⟩⟩<;>simp at hargs
    exact⟨q,rfl,hargs⟩
   subst CJ hq
   obtain⟨h',hh,rfl⟩:=Option.map_some' h
   exact Hk hb0 hd ho hh
  ·rename_i x xs hargs
   rw [abx] at h
   obtain⟨v,hv,h⟩:=h
   rw [abx] at h
   obtain⟨vs,GN,h⟩:=h
   rw [abx] at h
   obtain⟨u,hu,h⟩:=h
   exact fc h fun z hz=>xl hd ho (.inl ⟨rfl,rfl⟩) hargs hv GN hu hz
  ·rename_i x xs hargs
   rw [abx] at h
   obtain⟨v,hv,h⟩:=h
   rw [abx] at h
   obtain⟨vs,GN,h⟩:=h
   rw [abx] at h
   obtain⟨u,hu,h⟩:=h
   exact fc h fun z hz=>xl hd ho (.inr ⟨rfl,rfl⟩) hargs hv GN hu hz
  ·cases h
 ·
  rename_i fx args DW ho
  split at h
  ·rename_i CH cap heq
   split at h
   ·rename_i ha
    obtain⟨⟨r,h'⟩,hh,rfl⟩:=Option.map_some' h
    rw [abx] at hh
    obtain⟨⟨r0,h0⟩,hh,hm⟩:=hh
    exact Kw hcf hb0 hd ho heq ha hh hm
   ·cases h
  ·cases h
 ·cases h
end
end Go.R
namespace Go.R
open Go
section
variable {P:Program}{L0:Nat→Prop}{c0:Cx}{n:Nat}{ds:List Nat}{s:RS}
theorem xn {h:AHeap}:∀{cs:List AV},dz cs=true→yl h cs=some (cs,h)
 | [],_=>rfl
 | x::cs,hn=>by
  simp only [dz,abA] at hn
  simp only [yl,Ft,hn.1,if_true,abw,xn hn.2,abE]
theorem Ap {h h':AHeap}{x y:AV}(hz:Ft h x=some (y,h')):Steady h h':=by
 unfold Ft at hz
 split at hz
 ·cases hz; exact Steady.refl _
 split at hz
 ·split at hz
  ·split at hz
   ·cases hz; exact Steady.refl _
   ·cases hz
  rw [abx] at hz
  obtain⟨o,_,hz⟩:=hz
  split at hz
  ·split at hz
   ·cases hz; exact Steady.kill _ _
   ·cases hz
  ·cases hz
 ·cases hz
theorem sR:∀{cs ys:List AV} {h h':AHeap},yl h cs=some (ys,h')→Steady h h'
 | [],ys,h,h',hz=>by cases hz; exact Steady.refl _
 | x::cs,ys,h,h',hz=>by
  simp only [yl,abx,aby] at hz
  obtain⟨⟨y,h1⟩,hx,⟨zs,h2⟩,hz,he⟩:=hz
  simp only [abH] at he
  obtain⟨rfl,rfl⟩:=he
  exact (Ap hx).trans (sR hz)
theorem Inv.yr {a:Act}{w:World}{p:Nat × Option Nat × Nat}{s':RS}(hi:Inv L0 c0 n ds s a w)(h:yr s p=some s'):Inv L0 c0 n ds s' a w:=by
 obtain⟨hn,c,Lo,lam,rfl,f,e⟩:=hi
 unfold Go.R.yr at h
 split at h
 ·rw [aby] at h
  obtain⟨⟨y,h'⟩,hz,rfl⟩:=h
  obtain⟨hx,hy,c',hw,e',f',hv⟩:=yC f hz
  refine⟨hn,c',Lo,lam,hw,⟨f'.h,f'.rel,fun t=>?_,f'.box,f'.inj,fun t k off ht he=>?_,f'.defers,f'.G4⟩,e.trans e'⟩
  ·simp only [beq_nat]
   by_cases ht:t=p.1
   ·subst ht
    simp only [decide_true,cond_true]
    exact SR.of (hv _ ((f.slot _).vr hx))
   ·simp only [ht,decide_false,cond_false]
    exact f'.slot t
  ·simp only [beq_nat] at he
   by_cases WN:t=p.1
   ·simp only [WN,decide_true,cond_true] at he
    exact absurd he (hy _ _)
   ·simp only [WN,decide_false,cond_false] at he
    exact f'.tidy t k off ht he
 ·rename_i i hp
  split at h
  rotate_left
  ·cases h
  rename_i cs hcs
  simp only [abx,aby] at h
  obtain⟨x,hx,⟨y,h'⟩,hz,rfl⟩:=h
  obtain⟨hx1,hy,c',hw,e',f',hv⟩:=yC f hz
  have zR:∀k,(bif acj k p.1 then some (cs.set i y) else s.bx k).isSome=(s.bx k).isSome:=fun k=>by
   simp only [beq_nat]
   by_cases hk:k=p.1
   ·subst hk; simp [hcs]
   ·simp [hk]
  refine⟨hn,c',Lo,lam,hw,⟨f'.h,f'.rel,fun t=>?_,fun k gp hb=>?_,fun k k' h1 h2=>f'.inj k k' (by rw [←zR]; exact h1) (by rw [←zR]; exact h2),f'.tidy,f'.defers,f'.G4⟩,e.trans e'⟩
  ·have:=f'.slot t
   unfold SR at this ⊢
   split
   ·rename_i k off he
    rw [he] at this
    simp only at this
    exact⟨this.1,by rw [zR]; exact this.2⟩
   ·rename_i x' Ks
    split at this
    ·rename_i he; exact absurd he (Ks _ _)
    ·exact this
  ·simp only [beq_nat] at hb
   by_cases hk:k=p.1
   ·subst hk
    simp only [decide_true,cond_true,abz] at hb
    subst hb
    have ob:=f.box _ cs hcs
    have TM:=f'.box _ cs hcs
    refine⟨TM.own,by rw [abF]; exact TM.plain,?_⟩
    obtain⟨vs,q1,q2,q3⟩:=ob.cells.vals
    obtain⟨YG,r1,r2,r3⟩:=TM.cells.vals
    have hlen:vs=YG:=by
     apply acx
     intro j
     by_cases hj:j<cs.length
     ·rw [←q2 j hj,←r2 j hj,hw]
     ·rw [abU (by rw [←q1.length]; omega),abU (by rw [←r1.length]; omega)]
    subst hlen
    obtain⟨u,hu,hr⟩:=VRs.get q1 i x hx
    have CE:VRs c' (un L0 Lo) (cs.set i y) vs:=by
     have:=VRs.set (hv u hr) i r1
     have O9:vs.set i u=vs:=by
      apply acx
      intro j
      rw [acZ]
      by_cases hji:i=j
      ·subst hji
       rw [if_pos rfl,hu]
       have:=(abG.1 hu).1
       simp [this]
      ·rw [if_neg hji]
     rwa [O9] at this
    exact Cells.of_vals CE (fun j hj=>by rw [r2 j (by rw [r1.length]; exact hj)]) r3
   ·simp only [hk,decide_false,cond_false] at hb
    exact f'.box k gp hb
theorem Inv.lV {a:Act}{w:World}:∀{l:List (Nat × Option Nat × Nat)} {s s':RS},Inv L0 c0 n ds s a w→lV s l=some s'→Inv L0 c0 n ds s' a w
 | [],s,s',hi,h=>by cases h; exact hi
 | p::ps,s,s',hi,h=>by
  simp only [Go.R.lV,abx] at h
  obtain⟨s1,h1,h2⟩:=h
  exact Inv.lV (hi.yr h1) h2
theorem Kx {A:cu}{r:Nat}{s:RS}:(s.nN A r).h=s.h:=by
 unfold RS.nN
 split<;>rfl
theorem nT {k:Nat}{h h':AHeap}{x y:AV}(hz:lb k h x=some (y,h')):Steady h h':=by
 unfold lb at hz
 split at hz
 ·split at hz
  ·cases hz; exact Steady.refl _
  ·split at hz
   ·split at hz
    ·cases hz; exact Steady.refl _
    ·cases hz
   rw [abx] at hz
   obtain⟨o,_,hz⟩:=hz
   split at hz
   ·split at hz
    ·rw [aby] at hz
     obtain⟨⟨gp,h2⟩,hz,he⟩:=hz
     simp only [abH] at he
     obtain⟨rfl,rfl⟩:=he
     exact (Steady.kill _ _).trans (sR hz)
    ·cases hz
   ·cases hz
  ·cases hz; exact Steady.refl _
  ·cases hz
 ·split at hz<;>cases hz<;>exact Steady.refl _
theorem Aq {s s':RS}{p:Nat × Option Nat × Nat}(hz:yr s p=some s'):Steady s.h s'.h:=by
 unfold yr at hz
 split at hz
 ·rw [aby] at hz
  obtain⟨⟨y,h'⟩,hz,rfl⟩:=hz
  exact nT hz
 ·split at hz
  ·simp only [abx,aby] at hz
   obtain⟨x,hx,⟨y,h'⟩,hz,rfl⟩:=hz
   exact nT hz
  ·cases hz
theorem nU:∀{l:List (Nat × Option Nat × Nat)} {s s':RS},lV s l=some s'→Steady s.h s'.h
 | [],s,s',h=>by cases h; exact Steady.refl _
 | p::ps,s,s',h=>by
  simp only [lV,abx] at h
  obtain⟨s1,h1,h2⟩:=h
  exact (Aq h1).trans (nU h2)
end
end Go.R
namespace Go.R
open Go
section
variable {P:Program}{L0:Nat→Prop}{c0:Cx}{n:Nat}{ds:List Nat}{o:Oper}{s:RS}
theorem FE {ops:Array Oper}{c:Cx}{Lo:Nat→Prop}{lam:Nat→Nat}{a:Act}(f:Fr L0 c Lo lam ds s a){b:Bool}(h:iJ ops.toList s.ρ o=some b):Region.wanted o (yielded ops a.tmps)=b:=by
 unfold iJ at h
 unfold Region.wanted
 split at h
 ·rename_i hg; rw [hg]; cases h; rfl
 ·rename_i j want hg
  rw [hg]
  rw [abx] at h
  obtain⟨d,hd,h⟩:=h
  have J2:(ops[j]?).bind (·.dst)=some d:=by simpa using hd
  have hs:=f.slot d
  simp only [yielded,J2,abw]
  rw [Array.getD_eq_getD_getElem?] at hs
  split at h
  ·rename_i b' hb
   cases h
   rw [hb] at hs
   simp only [SR,VR] at hs
   cases hq:a.tmps[d]? with
   | none=>rw [hq] at hs; simp [undef] at hs
   | some v=>
    rw [hq] at hs
    simp only [acz] at hs
    subst hs
    cases b'<;>cases want<;>rfl
  ·rename_i hb
   cases h
   rw [hb] at hs
   simp only [SR,VR] at hs
   obtain⟨vs,hv,_⟩:=hs
   cases hq:a.tmps[d]? with
   | none=>rfl
   | some v=>
    rw [hq] at hv
    simp only [acz] at hv
    subst hv
    rfl
  ·cases h
theorem Ar {cf:CallF}(hcf:CallOK P cf)(hb0:c0.base≤c0.w.heap.size){ops:Array Oper}(Nd:ds=ops.toList.filterMap (·.dst))(hd:ij n ds o){aN:List Nat}{s':RS}(h:nM P cf aN ops.toList s o=some s')
  {a:Act} {w:World} {K:Act→World→Prop} {Q:Exit→Act→World→Prop} (hi:Inv L0 c0 n ds s a w) (hK:∀a' w',Inv L0 c0 n ds s' a' w'→K a' w') :
  if Region.wanted o (yielded ops a.tmps) then o.wp P a w K Q else K (a.put o.dst undef) w:=by
 unfold nM at h
 rw [abx] at h
 obtain⟨b,hb,h⟩:=h
 have YH:=hi
 obtain⟨hn,c,Lo,lam,rfl,f,e⟩:=hi
 rw [FE f hb]
 cases b with
 | true=>
  simp only [if_true] at h ⊢
  rw [←Nd] at h
  exact Nc hcf hb0 hd h a c.w K Q YH hK
 | false=>
  simp only [abK,if_false,abz] at h ⊢
  subst h
  exact hK _ _ ⟨(ig _ _ _).trans hn,c,Lo,lam,rfl,f.set (SR.of (by simp [VR,undef,VRs])) (fun t ht=>by rw [hn]; exact hd t ht),e⟩
def xo (n:Nat)(ops:List Oper):Bool:=ops.all fun o=>match o.dst with | some t=>Nat.blt t n | none=>true
theorem As {ops:List Oper}(h:xo n ops=true){o:Oper}(ho:o∈ops):ij n (ops.filterMap (·.dst)) o:=by
 intro t ht
 unfold xo at h
 rw [abW] at h
 have:=h o ho
 rw [ht] at this
 exact⟨Nat.blt_eq.mp this,List.mem_filterMap.2 ⟨o,ho,ht⟩⟩
theorem DZ {cf:CallF}(hcf:CallOK P cf)(hb0:c0.base≤c0.w.heap.size){ops:Array Oper}(Nd:ds=ops.toList.filterMap (·.dst))(Ah:xo n ops.toList=true){aN:List Nat}{Q:Exit→Act→World→Prop}{s':RS}(hQ:∀a' w',Inv L0 c0 n ds s' a' w'→Q .normal a' w') :
  ∀(l:List Oper) (s:RS),(∀o∈l,o∈ops.toList)→tj P cf aN ops.toList s l=some s'→∀a w,Inv L0 c0 n ds s a w→wpList P ops Q l a w
 | [],s,_,h,a,w,hi=>by
  simp only [tj,abz] at h
  subst h
  exact wpList_nil (hQ a w hi)
 | o::l,s,hl,h,a,w,hi=>by
  simp only [tj,abx] at h
  obtain⟨s1,h1,h2⟩:=h
  refine wpList_step fun K hK=>?_
  exact Ar hcf hb0 Nd (by rw [Nd]; exact As Ah (hl o (by simp))) h1 hi fun a' w' ku=>hK a' w' (DZ hcf hb0 Nd Ah hQ l s1 (fun o ho=>hl o (by simp [ho])) h2 a' w' ku)
theorem jD {α:Type}(d:α):∀(ks:List Nat) (g:Nat→α) (t:Nat),look d ks (ks.map g) t=if t∈ks then g t else d
 | [],g,t=>rfl
 | k::ks,g,t=>by
  simp only [ab5,look,beq_nat,jD d ks g t,ab0]
  by_cases h:t=k
  ·subst h; simp
  ·simp [h]
theorem Fr.forget {c:Cx}{Lo:Nat→Prop}{lam:Nat→Nat}{a:Act}(f:Fr L0 c Lo lam ds s a){s2:RS}(hh:s2.h=s.h)(hb:∀k cs,s2.bx k=some cs→s.bx k=some cs)
  (hr:∀t,s2.ρ t = .any∨s2.ρ t=s.ρ t∧∀k off,s.ρ t = .lp k off→k=t∧((s.bx k).isSome=true→(s2.bx k).isSome=true)):Fr L0 c Lo lam [] s2 a:=by
 refine⟨f.h.trans hh.symm,f.rel,fun t=>?_,fun k cs h=>f.box k cs (hb k cs h),fun k k' h h'=>f.inj k k' ?_ ?_,fun t k off _ he=>?_,f.defers,f.G4⟩
 ·rcases hr t with h | ⟨h,h2⟩
  ·rw [h]; exact SR.of (by simp [VR])
  ·rw [h]
   have hs:=f.slot t
   cases hx:s.ρ t<;>rw [hx] at hs<;>try exact hs
   rename_i k off
   simp only [SR] at hs ⊢
   exact⟨hs.1,(h2 k off hx).2 hs.2⟩
 ·obtain⟨cs,hcs⟩:=acd.1 h; rw [hb k cs hcs]; rfl
 ·obtain⟨cs,hcs⟩:=acd.1 h'; rw [hb k' cs hcs]; rfl
 ·rcases hr t with h | ⟨h,h2⟩
  ·rw [h] at he; cases he
  ·exact (h2 k off (h ▸ he)).1
theorem Inv.shut {a:Act}{w:World}(A:cu)(h:Inv L0 c0 n ds s a w):Inv L0 c0 n [] ((s.shut A).open A) a w:=by
 obtain⟨hn,c,Lo,lam,rfl,f,e⟩:=h
 refine⟨hn,c,Lo,lam,rfl,f.forget rfl (fun k cs hk=>?_) (fun t=>?_),e⟩
 ·simp only [RS.shut,St.open,jD] at hk
  split at hk
  ·exact hk
  ·cases hk
 ·simp only [RS.shut,St.open,jD]
  split
  ·unfold zZ
   cases hx:s.ρ t<;>simp only<;>try (right; exact⟨trivial,fun k off he=>by cases he⟩)
   rename_i k off
   cases hc:(acj k t&&acj off 0&&A.aN.contains k) with
   | false=>left; rfl
   | true=>
    right
    simp only [abA,beq_nat,decide_eq_true_eq,List.contains_iff_mem] at hc
    refine⟨rfl,fun k' YI he=>?_⟩
    cases he
    refine⟨hc.1.1,fun hs=>?_⟩
    rw [if_pos hc.2]
    exact hs
  ·left; rfl
theorem Inv.nN {a:Act}{w:World}(A:cu)(r:Nat)(h:Inv L0 c0 n ds s a w):Inv L0 c0 n [] ((s.nN A r).open A) a w:=by
 unfold RS.nN
 split
 ·exact h.shut A
 rename_i dl _
 have h2:=h.shut A
 obtain⟨hn,c,Lo,lam,hw,f,e⟩:=h2
 have PN:∀k,(St.open A {vars:=A.keep.map (fun t=>bif (gY r A.dead).contains t then .any else zZ A.aN s.ρ t),O7:=A.aN.map (fun k=>bif (gY r A.dead).contains k then none else s.bx k),h:=s.h}).bx k=bif (gY r A.dead).contains k then none else (St.open A (s.shut A)).bx k:=by
  intro k
  simp only [RS.shut,St.open,jD]
  cases (gY r A.dead).contains k<;>simp
 refine⟨hn,c,Lo,lam,hw,f.forget rfl (fun k cs hk=>?_) (fun t=>?_),e⟩
 ·rw [PN] at hk
  cases hc:(gY r A.dead).contains k with
  | true=>rw [hc] at hk; cases hk
  | false=>rw [hc] at hk; exact hk
 ·have hv:(St.open A {vars:=A.keep.map (fun t=>bif (gY r A.dead).contains t then .any else zZ A.aN s.ρ t),O7:=A.aN.map (fun k=>bif (gY r A.dead).contains k then none else s.bx k),h:=s.h}).ρ t=bif (gY r A.dead).contains t then .any else (St.open A (s.shut A)).ρ t:=by
   simp only [RS.shut,St.open,jD]
   cases (gY r A.dead).contains t<;>simp
  rw [hv]
  cases hc:(gY r A.dead).contains t with
  | true=>left; rfl
  | false=>
   right
   refine⟨rfl,fun k off he=>?_⟩
   have Kq:k=t:=f.tidy t k off (by simp) he
   refine⟨Kq,fun hs=>?_⟩
   rw [PN,Kq,hc]
   rw [Kq] at hs
   exact hs
theorem Inv.wide {a:Act}{w:World}(h:Inv L0 c0 n [] s a w)(ds:List Nat):Inv L0 c0 n ds s a w:=by
 obtain⟨hn,c,Lo,lam,rfl,f,e⟩:=h
 exact⟨hn,c,Lo,lam,rfl,⟨f.h,f.rel,f.slot,f.box,f.inj,fun t k off _ he=>f.tidy t k off (by simp) he,f.defers,f.G4⟩,e⟩
theorem Inv.drew {a:Act}{w:World}(h:Inv L0 c0 n ds s a w):Inv L0 c0 n ds s a {w with drawn:=w.drawn+1}:=by
 obtain⟨hn,c,Lo,lam,rfl,f,e⟩:=h
 obtain⟨e',f'⟩:=f.world (w':={c.w with drawn:=c.w.drawn+1}) (fun b _=>.inl rfl) (fun _ _=>rfl) (fun b _=>rfl) (abB _) rfl rfl rfl
 exact⟨hn,_,Lo,lam,rfl,f',e.trans e'⟩
def nV (P:Program)(c:Code)(Q:Exit→Act→World→Prop)(a:Act)(w:World):Prop:=
 ∀(b:Frame) (k:List Item) (cs:List Frame),∃e a' w',Q e a' w'∧Arrives P (lone (b.at a (.code c :: .inLoop c::k)) cs w) b k cs e a' w'
theorem nV.step {c:Code}{Q:Exit→Act→World→Prop}{a:Act}{w:World}(h:c.wp P (Exit.then (nV P c Q) Q) a w):nV P c Q a w:=by
 intro b k cs
 obtain⟨e,a₁,w₁,hq,Au⟩:=h b (.inLoop c::k) cs
 cases e with
 | normal=>
  obtain⟨e₂,a₂,w₂,YJ,P7⟩:=hq b k cs
  exact⟨e₂,a₂,w₂,YJ,.of_steps (Steps.trans Au (.one step_inLoop)) P7⟩
 | exit id=>exact⟨_,a₁,w₁,hq,.pass (x:=.inLoop c) rfl (fun _ _=>.inl (by simp)) Au⟩
 | goto l=>exact⟨_,a₁,w₁,hq,.pass (x:=.inLoop c) rfl (fun _ _=>.inl (by simp)) Au⟩
 | ret=>exact⟨_,a₁,w₁,hq,.pass (x:=.inLoop c) rfl (fun _ _=>.inl (by simp)) Au⟩
 | panic ch=>exact⟨_,a₁,w₁,hq,.pass (x:=.inLoop c) rfl (fun _ _=>.inl (by simp)) Au⟩
 | outgrown=>exact⟨_,a₁,w₁,hq,.pass (x:=.inLoop c) rfl (fun _ _=>.inl (by simp)) Au⟩
theorem nV.loop {c:Code}{Q:Exit→Act→World→Prop}{a:Act}{w:World}(h:nV P c Q a w):(Code.loop c).wp P Q a w:=by
 intro b k cs
 obtain⟨e,a',w',hq,Au⟩:=h b k cs
 exact⟨e,a',w',hq,.of_steps (.one step_loop) Au⟩
def Ex.Me:Ex→Exit
 | .norm=>.normal
 | .exit id=>.exit id
 | .ret=>.ret
def lA (n:Nat):Code→Bool
 | .region _ ops _=>xo n ops.toList
 | .seq a b=>lA n a&&lA n b
 | .cond _ x y=>lA n x&&lA n y
 | .block _ c=>lA n c
 | .loop c=>lA n c
 | _=>true
def CK (P:Program)(cf:CallF):Prop:=
 ∀(L0:Nat→Prop) (c0:Cx) (n:Nat) (aN:List Nat) (id:Nat) (ops:Array Oper) (s s':RS),kL P cf aN ops s=some s'→c0.base≤c0.w.heap.size→xo n ops.toList=true→
  ∀a w Q,Inv L0 c0 n (ops.toList.filterMap (·.dst)) s a w→(∀a' w',Inv L0 c0 n (ops.toList.filterMap (·.dst)) s' a' w'→Q .normal a' w')→(Code.region id ops true).wp P Q a w
theorem kS {cf:CallF}(hcf:CallOK P cf)(FF:CK P cf)(hb0:c0.base≤c0.w.heap.size){A:cu}{m:Nat}:∀(c:Code),lA n c=true→∀(st kp:St) (ex:Ex),cb P cf A m c st=some (ex,kp)→
  ∀a w Q,Inv L0 c0 n [] (st.open A) a w→(∀a' w',Inv L0 c0 n [] (kp.open A) a' w'→Q ex.Me a' w')→c.wp P Q a w
 | .skip,_,st,kp,ex,h,a,w,Q,hi,hQ=>by
  simp only [cb,abz,abH] at h
  obtain⟨rfl,rfl⟩:=h
  exact wp_skip (hQ a w hi)
 | .label _,_,st,kp,ex,h,a,w,Q,hi,hQ=>by
  simp only [cb,abz,abH] at h
  obtain⟨rfl,rfl⟩:=h
  exact wp_label (hQ a w hi)
 | .ret,_,st,kp,ex,h,a,w,Q,hi,hQ=>by
  simp only [cb,abz,abH] at h
  obtain⟨rfl,rfl⟩:=h
  exact wp_ret (hQ a w hi)
 | .exit id,_,st,kp,ex,h,a,w,Q,hi,hQ=>by
  simp only [cb,abz,abH] at h
  obtain⟨rfl,rfl⟩:=h
  exact wp_exit (hQ a w hi)
 | .seq x y,hB,st,kp,ex,h,a,w,Q,hi,hQ=>by
  simp only [lA,abA] at hB
  simp only [cb,abx] at h
  obtain⟨⟨Mf,iL⟩,h1,h2⟩:=h
  refine wp_seq (kS hcf FF hb0 x hB.1 st iL Mf h1 a w _ hi fun a' w' ku=>?_)
  cases Mf with
  | norm=>exact kS hcf FF hb0 y hB.2 iL kp ex h2 a' w' Q ku hQ
  | exit id=>
   simp only [abz,abH] at h2
   obtain⟨rfl,rfl⟩:=h2
   exact hQ a' w' ku
  | ret=>
   simp only [abz,abH] at h2
   obtain⟨rfl,rfl⟩:=h2
   exact hQ a' w' ku
 | .cond k x y,hB,st,kp,ex,h,a,w,Q,hi,hQ=>by
  simp only [lA,abA] at hB
  simp only [cb,abx] at h
  obtain⟨t,ht,h⟩:=h
  have hk:a.eval k = .bool t:=by
   obtain⟨hn,c,Lo,lam,rfl,f,e⟩:=hi
   have hk:=bY f k
   unfold uu at ht
   split at ht
   ·rename_i b hb
    cases ht
    rw [hb] at hk
    simpa [SR,VR] using hk
   ·cases ht
  refine wp_cond hk ?_
  cases t with
  | true=>exact kS hcf FF hb0 x hB.1 st kp ex (by simpa using h) a w Q hi hQ
  | false=>exact kS hcf FF hb0 y hB.2 st kp ex (by simpa using h) a w Q hi hQ
 | .block id x,hB,st,kp,ex,h,a,w,Q,hi,hQ=>by
  simp only [lA] at hB
  simp only [cb,aby] at h
  obtain⟨⟨Mf,iL⟩,h1,h2⟩:=h
  refine wp_block (kS hcf FF hb0 x hB st iL Mf h1 a w _ hi fun a' w' ku=>?_)
  cases Mf with
  | norm=>
   simp only [abH] at h2
   obtain⟨rfl,rfl⟩:=h2
   exact hQ a' w' ku
  | exit lH=>
   simp only [abH] at h2
   obtain⟨rfl,rfl⟩:=h2
   have:=hQ a' w' ku
   simp only [Ex.Me,Exit.inBlock]
   split
   ·rename_i he; rw [if_pos he] at this; exact this
   ·rename_i he; rw [if_neg he] at this; exact this
  | ret=>
   simp only [abH] at h2
   obtain⟨rfl,rfl⟩:=h2
   exact hQ a' w' ku
 | .loop x,hB,st,kp,ex,h,a,w,Q,hi,hQ=>by
  simp only [lA] at hB
  simp only [cb] at h
  have key:∀(j:Nat) (st:St),lW (cb P cf A m x) j st=some (ex,kp)→∀a w,Inv L0 c0 n [] (st.open A) a w→nV P x Q a w:=by
   intro j
   induction j with
   | zero=>intro st h; simp [lW] at h
   | succ j ih=>
    intro st h a w hi
    simp only [lW,abx] at h
    obtain⟨⟨Mf,iL⟩,h1,h2⟩:=h
    refine nV.step (kS hcf FF hb0 x hB st iL Mf h1 a w _ hi fun a' w' ku=>?_)
    cases Mf with
    | norm=>exact ih iL h2 a' w' ku
    | exit id=>
     simp only [abz,abH] at h2
     obtain⟨rfl,rfl⟩:=h2
     exact hQ a' w' ku
    | ret=>
     simp only [abz,abH] at h2
     obtain⟨rfl,rfl⟩:=h2
     exact hQ a' w' ku
  exact nV.loop (key m st h a w hi)
 | .region id ops draw,hB,st,kp,ex,h,a,w,Q,hi,hQ=>by
  simp only [lA] at hB
  simp only [cb,abx,aby,abH] at h
  obtain⟨s0,h0,s',h1,s2,h2,rfl,rfl⟩:=h
  replace hi:=hi.lV h0
  cases draw with
  | true=>
   simp only [if_true] at h1
   exact FF L0 c0 n A.aN id ops _ s' h1 hb0 hB a w Q (hi.wide _) fun a' w' ku=>hQ a' w' ((ku.lV h2).nN A id)
  | false=>
   simp only [abK,if_false] at h1
   exact wp_region_list (DZ hcf hb0 rfl hB (fun a' w' ku=>hQ a' w' ((ku.lV h2).nN A id)) ops.toList _ (fun _ h=>h) h1 a w (hi.wide _))
 | .rangeFunc ..,_,st,kp,ex,h,_,_,_,_,_=>by simp [cb] at h
 | .scope ..,_,st,kp,ex,h,_,_,_,_,_=>by simp [cb] at h
 | .goto ..,_,st,kp,ex,h,_,_,_,_,_=>by simp [cb] at h
 | .refuse ..,_,st,kp,ex,h,_,_,_,_,_=>by simp [cb] at h
theorem yD {c:Cx}{Lo:Nat→Prop}{lam:Nat→Nat}{a:Act}(f:Fr L0 c Lo lam ds s a):∀(rs:List ResultVar) (l:List AV),Cr P s rs=some l→l.all AV.lk=true→
  ∃vs:List Value,(rs.mapM (m:=Sem) fun | .tmp t=>pure (a.tmps.getD t undef) | .cell x t=>do loadVar t (←asAddr (a.tmps.getD x undef))).run P c.w = .ok vs c.w∧VRs c (un L0 Lo) l vs
 | [],l,h,_=>by
  simp only [Cr,abz] at h
  subst h
  exact⟨[],rfl,trivial⟩
 | .tmp t::rs,l,h,hl=>by
  simp only [Cr,aby] at h
  obtain⟨l',h1,rfl⟩:=h
  simp only [acr,abA] at hl
  obtain⟨vs,h2,h3⟩:=yD f rs l' h1 hl.2
  refine⟨a.tmps.getD t undef::vs,?_,(f.slot t).vr (uL hl.1),h3⟩
  simp only [List.mapM_cons,Sem.run_bind,Sem.run_pure,Result.andThen_ok,h2]
 | .cell x t::rs,l,h,hl=>by
  simp only [Cr,abx,aby] at h
  obtain⟨y,hy,l',h1,rfl⟩:=h
  simp only [acr,abA] at hl
  obtain⟨vs,h2,h3⟩:=yD f rs l' h1 hl.2
  have hx:=f.slot x
  obtain⟨u,hr,hu⟩:=uz (P:=P) f (t:=t) hx hy
  have hp:∃ad,a.tmps.getD x undef = .pointer (some ad):=by
   unfold kK at hy
   cases hq:s.ρ x<;>rw [hq] at hy hx<;>simp only at hy<;>try (cases hy; done)
   ·simp only [SR,VR] at hx; obtain⟨_,ad,h,_⟩:=hx; exact⟨ad,h⟩
   ·simp only [SR] at hx; exact⟨_,hx.1⟩
   ·simp only [SR,VR] at hx; obtain⟨_,_,h,_⟩:=hx; exact⟨_,h⟩
  obtain⟨ad,hp⟩:=hp
  rw [hp] at hr
  have Av:(loadVar t ad).run P c.w = .ok u c.w:=by simpa [Instr.loadAt,Instr.sureAddr] using hr
  refine⟨u::vs,?_,hu,h3⟩
  have ha:(asAddr (a.tmps.getD x undef)).run P c.w = .ok ad c.w:=by rw [hp]; rfl
  simp only [List.mapM_cons,Sem.run_bind,Sem.run_pure,Result.andThen_ok,h2,ha,Av]
theorem iU:un L0 none0=L0:=by funext b; simp [un,none0]
theorem Ext.close {c c':Cx}{kx:Nat→Prop}(e:Ext c none0 c' kx):Ext c none0 c' none0:=
 ⟨e.next,e.live,e.size,e.keep,e.exact,e.base,e.Kh,fun _ h=>h,fun _ h=>h.elim,e.os,e.tape,e.output⟩
theorem HRel.lG {c:Cx}{L L':Nat→Prop}(hL:∀b,L' b→L b)(h:HRel c L):HRel c L':=
 ⟨h.lt,fun id o ho=>by
  have:=h.obj id o ho
  cases o with
  | cells cs=>obtain⟨m,h1,h2,h3⟩:=this; exact⟨m,h1,h2,Cells.lG hL _ _ _ h3⟩
  | row t cs=>obtain⟨h0,C,h1,h2,h4,h3⟩:=this; exact⟨h0,C,h1,h2,h4,Cells.lG hL _ _ _ h3⟩
  | map es=>
   obtain⟨lY,clock,h1,h2⟩:=this
   refine⟨lY,clock,h1,?_⟩
   clear h1
   have:∀(es:List (AV × AV)) (ms:List MapEntry),lX c L es ms→lX c L' es ms:=by
    intro es
    induction es with
    | nil=>intro ms h; cases ms with | nil=>trivial | cons m ms=>exact h.elim
    | cons e es ih=>intro ms h; cases ms with
     | nil=>exact h.elim
     | cons m ms=>obtain⟨h1,h2,h3⟩:=h; exact⟨⟨VR.lG hL _ _ h1.1,h1.2⟩,VR.lG hL _ _ h2,ih _ h3⟩
   exact this _ _ h2,h.inj,fun id hl hb=>h.out id hl (hL _ hb),fun b hb=>h.bd b (hL b hb),h.low,h.ver⟩
structure Fit (P:Program):Prop where
 mixed:P.follows .mixedOrders=true
 P8 : ∀ (f : FuncId) fn c, P.funcs[f]? = some fn → fn.body = some c → lA fn.ntmps c = true ∧ fn.name ≠ "runtime.NumGoroutine"
def IntrOK (P:Program)(intr:FuncId→Option (List AV→AHeap→Option (AV × AHeap))):Prop:=
 ∀f g,intr f=some g→(CallOK P fun f' args h=>if f'=f then g args h else none)∧∀args h r h',g args h=some (r,h')→Steady h h'
theorem nW {f : FuncId} {fn : Func} {c : Code} (hf : P.funcs[f]? = some fn) (hc : fn.body = some c) (hn : fn.name ≠ "runtime.NumGoroutine") (vs : Array Value) (w : World) : (callFunc f vs).run P w = .ok (.enter f vs) w := by
 have TO : (fn.name == "runtime.NumGoroutine") = false := by simpa using hn
 simp [callFunc,program,Sem.run,hf,hn,hc]
theorem Aw (hP:Fit P){a7:FuncId→cu}{cf:CallF}(ih:CallOK P cf)(FF:CK P cf)(m:Nat):CallOK P (bj P a7 cf m):=by
 intro f args h r h' hc
 unfold bj at hc
 rw [abx] at hc
 obtain⟨fn,hf,hc⟩:=hc
 rw [abx] at hc
 obtain⟨c,hb,hc⟩:=hc
 obtain⟨hB,P9⟩:=hP.P8 f fn c hf hb
 refine⟨nW hf hb P9,fun L0 c0 vs hh hb0 hrel hargs=>?_⟩
 split at hc
 rotate_left
 ·cases hc
 rename_i hlen
 rw [abx] at hc
 obtain⟨⟨ex,st⟩,hex,hc⟩:=hc
 have hl:=hargs.length
 refine calls_of_wp hf hb ?_
 refine kS (L0:=L0) (c0:=c0) (n:=fn.ntmps) ih FF hb0 c hB _ _ _ hex _ _ _ ?_ ?_
 ·refine⟨by simp; omega,c0,none0,fun _=>0,rfl,⟨hh,by rw [iU]; exact hrel,fun t=>?_,fun k cs hk=>?_,fun k k' hk=>?_,fun t k off _ he=>?_,rfl,fun b hb=>hb.elim⟩,Ext.refl _ _⟩
  ·simp only [St.open,nO,jD]
   split
   ·by_cases ht:t<args.length
    ·obtain⟨v,hv,hr⟩:=hargs.get t args[t] (by simp [ht])
     have:args.getD t AV.any=args[t]:=by simp [ht]
     rw [this,Array.getD_eq_getD_getElem?,Array.getElem?_append_left (by simp; omega)]
     have TK:vs.toArray[t]? = some v:=by simpa using hv
     rw [TK]
     exact SR.of (by rw [iU]; exact hr)
    ·have:args.getD t AV.any = .any:=by simp [abU (Nat.not_lt.1 ht)]
     rw [this]
     exact SR.of (by simp [VR])
   ·exact SR.of (by simp [VR])
  ·simp only [St.open,jD] at hk
   split at hk<;>cases hk
  ·simp only [St.open,jD] at hk
   split at hk<;>cases hk
  ·simp only [St.open,nO,jD] at he
   split at he
   ·by_cases ht:t<args.length
    ·obtain⟨v,hv,hr⟩:=hargs.get t args[t] (by simp [ht])
     have h1:args.getD t AV.any=args[t]:=by simp [ht]
     rw [h1] at he
     rw [he] at hr
     exact hr.elim
    ·have:args.getD t AV.any = .any:=by simp [abU (Nat.not_lt.1 ht)]
     rw [this] at he
     cases he
   ·cases he
 ·intro a' w' ku
  have hfin:(aP P (st.open (a7 f)) fn.results.toList).map (fun r=>(r,st.h))=some (r,h')→a'.defers=[]∧∃v,(results fn a'.tmps).run P w' = .ok v w'∧(∃c' v',Ending.returned v = .returned v'∧c'.w=w'∧c'.h=h'∧VR c' L0 r v'∧HRel c' L0∧Ext c0 none0 c' none0):=by
   intro hc
   rw [aby] at hc
   obtain⟨r',Av,he⟩:=hc
   cases he
   obtain⟨hn,c',Lo,lam,rfl,f',e'⟩:=ku
   refine⟨f'.defers,?_⟩
   unfold aP at Av
   rw [abx] at Av
   obtain⟨l,hl,Av⟩:=Av
   split at Av
   rotate_left
   ·cases Av
   rename_i kQ
   obtain⟨us,YK,DJ⟩:=yD f' _ _ hl kQ
   have Ho:VRs c' L0 l us:=VRs.lG (fun b hb=>.inl hb) _ _ DJ
   have CB:(results fn a'.tmps).run P c'.w = .ok (if h:us.toArray.size=1 then us.toArray[0] else .tuple us.toArray) c'.w:=by
    unfold results
    rw [←Array.toArray_toList (xs:=fn.results)]
    rw [List.mapM_toArray]
    simp only [Sem.run_bind,Sem.run_map,Result.andThen_ok,Sem.run_pure]
    exact (congrArg (fun z=>(Result.andThen z (fun (a:List Value) w'=>Result.ok a.toArray w')).andThen (fun (a:Array Value) w'=>Result.ok (if h:a.size=1 then a[0] else Value.tuple a) w')) YK).trans rfl
   refine⟨_,CB,c',_,rfl,rfl,f'.h,?_,HRel.lG (fun b hb=>.inl hb) f'.rel,e'.close⟩
   split at Av
   ·rename_i x
    cases Av
    cases us with
    | nil=>exact Ho.elim
    | cons u us=>cases us with
     | nil=>exact Ho.1
     | cons u2 us=>exact Ho.2.elim
   ·rename_i hne
    cases Av
    have TP:us.length≠1:=by
     intro h1
     rw [←Ho.length] at h1
     cases l with
     | nil=>simp at h1
     | cons x l=>cases l with
      | nil=>exact hne x rfl
      | cons y l=>simp at h1
    have:¬us.toArray.size=1:=by simpa using TP
    rw [dif_neg this]
    simp only [VR]
    exact⟨us.toArray,rfl,Ho⟩
  cases ex with
  | norm=>exact hfin hc
  | ret=>exact hfin hc
  | exit id=>cases hc
end
end Go.R
