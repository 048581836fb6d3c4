/- Part of the proof: ROps5, ROps6, ROps7, RFrzV, ROpAll, RFrz, RCode. -/
import Derived.Test.YtifafejidnjckaaK1
import Derived.MapKept
import Derived.Laws.CopyRow
import Derived.Laws.BytesArg
import Derived.Laws.IdiomStrings
import Derived.Tactics
set_option linter.unusedVariables false
set_option linter.unusedSimpArgs false
set_option maxRecDepth 100000
open Array renaming getElem?_eq_some_iff → aac, getElem?_setIfInBounds → aaD, length_toList → aaG, getElem?_modify → aaI, ext' → abb
open Bool renaming and_eq_true → ZF, false_eq_true → ZN, not_true → aaC, not_eq_true' → aaF, true_and → aba
open List renaming getElem?_eq_some_iff → ZH, length_set → ZO, all_eq_true → ZX, mem_cons → ZZ, map_cons → Z0, getElem?_eq_none → Z5, eq_nil_of_length_eq_zero → Z6, take_of_length_le → aae, mem_map → aah, all_cons → aao, ext_getElem? → aaL, getElem?_set → aa4
open Nat renaming le_refl → ZI, zero_add → Z2, beq → aaj, le_succ → aaM, lt_succ_of_lt → aaS, min_eq_left → aa0
open Option renaming bind_some → ZB, bind_eq_some_iff → ZC, map_eq_some_iff → ZD, map_some → ZJ, isSome_iff_exists → aad, getD_some → aaA
open Option.some renaming injEq → ZE
open Prod.mk renaming injEq → ZL
namespace Go.R
open Go
section
variable {P:Program}{L0:Nat→Prop}{c0:Cx}{n:Nat}{ds:List Nat}{o:Oper}{s:RS}
theorem Fr.wI {c:Cx}{Lo:Nat→Prop}{lam:Nat→Nat}{a:Act}(f:Fr L0 c Lo lam ds s a)(hbs:c.base≤c.w.heap.size){id:Nat}{es q9:List (AV × AV)}(ho:c.h.get id=some (.map es)){lB rr:Array MapEntry}{clock oT:Nat}
  (hb:c.w.heap[(c.β id).1]? = some (.map lB clock)) (he:lA c (un L0 Lo) q9 rr.toList) :
  Ext c Lo ⟨c.β,s.h.put id (.map q9),{c.w with heap:=c.w.heap.setIfInBounds (c.β id).1 (.map rr oT)},c.base⟩ Lo∧
   Fr L0 ⟨c.β,s.h.put id (.map q9),{c.w with heap:=c.w.heap.setIfInBounds (c.β id).1 (.map rr oT)},c.base⟩ Lo lam ds {s with h:=s.h.put id (.map q9)} a:=by
 have hl:Live c.h id:=⟨f.rel.lt _ _ ho,by simp [ho]⟩
 have hlt:(c.β id).1<c.w.heap.size:=(aac.1 hb).1
 have hne:∀b,b≠(c.β id).1→({c.w with heap:=c.w.heap.setIfInBounds (c.β id).1 (.map rr oT)}:World).heap[b]? = c.w.heap[b]?:=by
  intro b hb
  simp only [aaD]
  rw [if_neg (Ne.symm hb)]
 rw [←f.h]
 refine f.upd (β':=c.β) (h':=c.h.put id (.map q9)) id (.map q9) (Steady.put _ _ _) (aaS hl.1) (by simp [AHeap.put,beq_nat])
  (fun kY h1=>.inr ⟨by simp [AHeap.put,beq_nat,h1],rfl⟩) (fun _=>⟨hl,rfl⟩) (.inr ⟨id,hl,rfl,.inl rfl⟩) (fun _=>?_)
  (fun b _ h1=>hne b h1) (fun b _ h1=>hne b h1) (by simp) hbs rfl rfl rfl (fun e=>⟨rr,oT,by simp [hlt],he.ext e⟩)
 simp only [Cx.len,World.shape?,hb,aaD,hlt,if_true]
theorem wJ {x y:AV}(hs:sameShape x y=true)(hq:fQ x y=true):x=y:=by
 cases x<;>cases y<;>simp only [sameShape] at hs<;>try (cases hs; done)
 ·simp only [fQ,iN,ZF,beq_iff_eq] at hq
  obtain⟨rfl,rfl⟩:=hq
  rfl
 ·rename_i a b
  simp only [fQ,iN,beq_iff_eq] at hq
  congr 1
  cases a; cases b
  congr 1
  exact Array.toList_inj.1 hq
 ·rename_i xs ys
  simp only [ZF,beq_iff_eq] at hs
  obtain⟨⟨_,hx⟩,hy⟩:=hs
  obtain⟨ns,rfl⟩:=iD hx
  obtain⟨ms,rfl⟩:=iD hy
  simp only [fQ,kR,decide_eq_true_eq] at hq
  rw [hq]
theorem oD:∀ns:List Int,jk (ns.map fun n=>AV.int .i64 n)=some (ns.map fun n=>Value.int .i64 n)
 | []=>rfl
 | n::ns=>by simp [jk,AV.gO,oD ns]
theorem AJ {t:TypeId}{k:AV}(h:gp P t k=true):∃u,k.An=some u∧Instr.sameBits 10000 u u=true:=by
 unfold gp at h
 have M8:∀cs:List AV,cs.all kO=true→∃u,(AV.agg cs).An=some u∧Instr.sameBits 10000 u u=true:=by
  intro cs hcs
  obtain⟨ns,rfl⟩:=iD hcs
  refine⟨.agg (ns.map fun n=>Value.int .i64 n).toArray,by simp [AV.An,oD],?_⟩
  simp only [Instr.sameBits,beq_self_eq_true,aba,ZX]
  intro p hp
  have:∀(l:List Value),(∀v∈l,∃m,v=Value.int .i64 m)→∀p∈l.zip l,Instr.sameBits 9999 p.1 p.2=true:=by
   clear hp p
   intro l hl p hp
   have h1:p.1=p.2∧p.1∈l:=by
    clear hl
    induction l with
    | nil=>cases hp
    | cons v l ih=>
     simp only [List.zip_cons_cons,ZZ] at hp
     rcases hp with rfl | hp
     ·exact⟨rfl,by simp⟩
     ·obtain⟨h1,h2⟩:=ih hp; exact⟨h1,by simp [h2]⟩
   obtain⟨h1,h2⟩:=h1
   obtain⟨m,hm⟩:=hl _ h2
   rw [←h1,hm]
   simp [Instr.sameBits]
  exact this (ns.map fun n=>Value.int .i64 n) (fun v hv=>by obtain⟨m,_,rfl⟩:=aah.1 hv; exact⟨m,rfl⟩) p (by simpa using hp)
 split at h
 ·exact⟨_,rfl,by simp [Instr.sameBits]⟩
 ·exact⟨_,rfl,by simp [Instr.sameBits,vj]⟩
 ·simp only [ZF] at h; exact M8 _ h.1.1.2
 ·simp only [ZF] at h; exact M8 _ h.1.1.2
 ·cases h
theorem te {c:Cx}{L:Nat→Prop}{k v:AV}{kv vv:Value}(hc:k.An.isSome=true)(hk:VR c L k kv)(hv:VR c L v vv) :
  ∀(es q9:List (AV × AV)) (ms:List MapEntry) (i:Nat),lA c L es ms→sK k v es=some q9→
   iB k es≠none∧(place k es ms i=none∧(∀b,lA c L q9 (ms++[{key:=kv,val:=vv,born:=b}]))∨
    ∃j u m,place k es ms i=some (i+j,u)∧ms[j]? = some m∧m.key=kv∧lA c L q9 (ms.modify j fun e=>{e with key:=kv,val:=vv}))
 | [],q9,[],i,_,h=>by
  simp only [sK,ZE] at h
  subst h
  exact⟨by simp [iB],.inl ⟨rfl,fun b=>⟨⟨hk,hc⟩,hv,trivial⟩⟩⟩
 | (k',v')::es,q9,m::ms,i,he,h=>by
  obtain⟨⟨Fm,TP⟩,BN,uF⟩:=he
  simp only [sK] at h
  split at h
  rotate_left
  ·cases h
  rename_i hs
  split at h
  ·rename_i hq
   cases h
   have yn:k=k':=wJ hs hq
   obtain⟨u,hu⟩:=aad.1 hc
   refine⟨by simp [iB,hs,hq],.inr ⟨0,m.val,m,by simp [place,hq],rfl,?_,?_⟩⟩
   ·subst yn
    rw [wD hu hk,wD hu Fm]
   ·exact⟨⟨hk,hc⟩,hv,uF⟩
  ·rename_i hq
   rw [ZD] at h
   obtain⟨VU,h1,rfl⟩:=h
   obtain⟨h2,h3⟩:=te hc hk hv es VU ms (i+1) uF h1
   refine⟨by simp [iB,hs,hq,h2],?_⟩
   have wK:fQ k k'=false:=by simpa using hq
   rcases h3 with⟨h3,h4⟩| ⟨j,u,m',h3,h4,h5,h6⟩
   ·exact .inl ⟨by simp [place,wK,h3],fun b=>⟨⟨Fm,TP⟩,BN,h4 b⟩⟩
   ·exact .inr ⟨j+1,u,m',by simp [place,wK,h3]; omega,by simpa using h4,h5,⟨⟨Fm,TP⟩,BN,h6⟩⟩
 | [],_,_::_,_,h,_=>h.elim
 | _::_,_,[],_,h,_=>h.elim
theorem tg {x:AV}(h:x.kM=true):∀k off,x≠.lp k off:=by rintro k off rfl; simp [AV.kM] at h
theorem uM {c:Cx}{Lo:Nat→Prop}{lam:Nat→Nat}{a:Act}(f:Fr L0 c Lo lam ds s a)(hbs:c.base≤c.w.heap.size){t:TypeId}{m k x:AV}{mv kv xv:Value}(hm:SR c L0 Lo lam s.bx m mv)(hk:SR c L0 Lo lam s.bx k kv)(hx:SR c L0 Lo lam s.bx x xv){h':AHeap}
  (h:ij P s.h t m k x=some h'):∃c',(Instr.mapUpdate t mv kv xv).run P c.w = .ok () c'.w∧Ext c Lo c' Lo∧Fr L0 c' Lo lam ds {s with h:=h'} a:=by
 unfold ij at h
 rw [ZC] at h
 obtain⟨d,hd,h⟩:=h
 cases d<;>simp only at h<;>try (cases h; done)
 rename_i kt et
 split at h
 ·cases h
 rename_i kq
 obtain⟨uK,hargs⟩:gp P kt k=true∧x.kM=true:=by
  cases h1:gp P kt k<;>cases h2:x.kM<;>simp [h1,h2] at kq ⊢
 have yo:VR c (un L0 Lo) k kv:=hk.vr (by rintro k0 off rfl; simp [gp] at uK)
 have VV:=hx.vr (tg hargs)
 cases m<;>simp only at h<;>try (cases h; done)
 rename_i id
 rw [ZC] at h
 obtain⟨ob,ho,h⟩:=h
 cases ob with
 | cells cs=>cases h
 | row t cs=>cases h
 | map es=>
 rw [ZD] at h
 obtain⟨q9,hu,rfl⟩:=h
 simp only [SR,VR] at hm
 obtain⟨hi,r,rfl,hr⟩:=hm
 rw [←f.h] at ho
 have hl:Live c.h id:=⟨f.rel.lt _ _ ho,by simp [ho]⟩
 have PO:=hr hl
 subst PO
 obtain⟨lB,clock,h1,h2⟩:=f.rel.obj _ _ ho
 obtain⟨u0,JM,VW⟩:=AJ uK
 obtain⟨hf,hp⟩:=te (by simp [JM]) yo VV es q9 lB.toList 0 h2 hu
 have Fo:=vk uK yo c.w h2 hf
 have Kj:=oA (P:=P) false 9998 uK yo c.w
 have hget:(getObj (c.β id).1).run P c.w = .ok (.map lB clock) c.w:=MapKept.run_getObj_map h1
 rcases hp with⟨hp,sV⟩| ⟨j,u,m,hp,hj,hmk,sV⟩
 ·obtain⟨e',f'⟩:=f.wI hbs ho h1 (rr:=lB.push {key:=kv,val:=xv,born:=clock}) (oT:=clock+1) (q9:=q9) (by simpa using sV clock)
  refine⟨_,?_,e',f'⟩
  unfold Instr.mapUpdate
  rw [hp] at Fo
  simp only [Sem.run_bind,bH hd,Result.andThen_ok,hget,Kj,Fo]
  exact MapKept.run_setObj_map _ h1
 ·obtain⟨e',f'⟩:=f.wI hbs ho h1 (rr:=lB.modify j fun e=>{e with key:=kv,val:=xv}) (oT:=clock) (q9:=q9) (by simpa using sV)
  refine⟨_,?_,e',f'⟩
  unfold Instr.mapUpdate
  rw [hp,Z2] at Fo
  have Ag:lB[j]? = some m:=by simpa using hj
  have Ip:(Instr.keyThatStays m.key kv).run P c.w = .ok kv c.w:=by
   rw [hmk]
   unfold Instr.keyThatStays
   rw [wD JM yo,VW]
   rfl
  simp only [Sem.run_bind,bH hd,Result.andThen_ok,hget,Kj,Fo,Ag,ZJ,aaA,Ip]
  exact MapKept.run_setObj_map _ h1
theorem pD (hb0:c0.base≤c0.w.heap.size){t:TypeId}{m k x:Operand}(ho:o.op = .mapUpdate t m k x∨o.op = .insert t m k x)(rQ:o.dst=none){h':AHeap}
  (h:ij P s.h t (bX s.ρ m) (bX s.ρ k) (bX s.ρ x)=some h'):jD P L0 c0 n ds o s {s with h:=h'}:=by
 rintro a w K Q ⟨hn,c,Lo,lam,rfl,f,e⟩ hK
 obtain⟨c',hr,e',f'⟩:=uM f (jz e hb0) (bP f m) (bP f k) (bP f x) h
 unfold Oper.wp
 have:(execOp a.eval o).run P c.w = .ok .skip c'.w:=by rcases ho with ho | ho<;>simp [execOp,ho,hr]
 rw [this,Oper.upon_skip]
 have Kn:a.put o.dst undef=a:=by rw [rQ]; rfl
 rw [Kn]
 exact hK _ _ ⟨hn,c',Lo,lam,rfl,f',e.trans e'⟩
theorem FA (hb0:c0.base≤c0.w.heap.size)(hd:gQ n ds o){t:TypeId}{x:Operand}(ho:o.op = .call {callee:=.builtin .clear,args:=#[x],argTypes:=#[t]}){h':AHeap}
  (h:l8 P s.h t (bX s.ρ x)=some h'):jD P L0 c0 n ds o s ({s with h:=h'}.set o.dst (.tup [])):=by
 rintro a w K Q ⟨hn,c,Lo,lam,rfl,f,e⟩ hK
 unfold l8 at h
 rw [ZC] at h
 obtain⟨d,yu,h⟩:=h
 have hx:=bP f x
 have fin:∀c',(Builtin.clear_ #[t] o.type #[a.eval x]).run P c.w = .ok (.tuple #[]) c'.w→Ext c Lo c' Lo→Fr L0 c' Lo lam ds {s with h:=h'} a→o.wp P a c.w K Q:=by
  intro c' hr e' f'
  unfold Oper.wp
  have:(execOp a.eval o).run P c.w = .ok (.value (.tuple #[])) c'.w:=by
   simp [execOp,ho,resolve,invoke,builtin,hr]
  rw [this,Oper.upon_value]
  exact hK _ _ ⟨(gP _ _ _).trans hn,c',Lo,lam,rfl,f'.set (SR.of (by simp [VR,VRs])) (fun t ht=>by rw [hn]; exact hd t ht),e.trans e'⟩
 cases DY:bX s.ρ x<;>rw [DY] at h hx<;>simp only at h<;>try (cases h; done)
 ·rename_i id off len iR
  simp only [SR,VR] at hx
  split at h
  ·rename_i hl0
   cases h
   obtain⟨ad,cap,ru⟩:∃ad cap,a.eval x = .slice ad 0 cap:=by
    rcases hx with⟨_,_,_,ad,hx⟩| ⟨_,_,ad,cap,hx,_⟩
    ·exact⟨ad,0,hx⟩
    ·exact⟨ad,cap,by rw [hx,hl0]⟩
   refine fin c ?_ (Ext.refl _ _) f
   cases ad<;>cases d<;>simp [Builtin.clear_,bH yu,ru]
  rename_i hl0
  split at h
  ·cases h
  rename_i kI
  cases d<;>simp only at h<;>try (cases h; done)
  rename_i et
  simp only [ZC] at h
  obtain⟨i,hi,z,hz,ob,hob,h⟩:=h
  cases ob with
  | map es=>cases h
  | row t cs=>cases h
  | cells cs=>
  simp only at h
  split at h
  rotate_left
  ·cases h
  rename_i hh
  obtain⟨FB,E4,hz0,PQ,hoff⟩:=hh
  cases h
  rcases hx with hx | ⟨_,hid,ad,cap,hx,hlc,BO,hlive⟩
  ·exact absurd hx.1 kI
  rw [←f.h] at hob
  have hl:Live c.h id:=⟨f.rel.lt _ _ hob,by simp [hob]⟩
  obtain⟨q,hp,hq,hc⟩:=f.rel.obj _ _ hob
  have ha:ad=some ⟨(c.β id).1,(c.β id).2+off,none⟩:=by
   rcases hlive hl with⟨h1,_⟩| h1
   ·exact h1
   ·exact absurd h1 (by omega)
  subst ha
  obtain⟨zv,Fp,AG⟩:=j8 hz c.w
  obtain⟨Af,hz1⟩:=jb PQ (ma (c:=c) (L:=un L0 Lo) AG)
  have PR:=Af.length
  have E5:zv.cells.size=i.size:=by rw [←aaG,←PR,E4]
  have hnl:(Builtin.zeroCells zv.cells len).toList.length=len*i.size:=by simp [Builtin.zeroCells,E5]
  have hv:VRs c (un L0 Lo) (iT z.cells len) (Builtin.zeroCells zv.cells len).toList:=by
   have:=qy Af len (len*zv.cells.size) (by rw [E5,E4]; exact ZI _) (by omega)
   rw [aae (by simp [E5,E4])] at this
   exact this
  have hone:∀v∈(Builtin.zeroCells zv.cells len).toList,v.oneCell'=true:=by
   intro v hv
   simp only [Builtin.zeroCells,Array.toList_map,aah] at hv
   obtain⟨j,hj,rfl⟩:=hv
   have rR:j % zv.cells.size<zv.cells.size:=Nat.mod_lt _ (by omega)
   rw [getElem!_pos zv.cells _ rR]
   exact hz1 _ (by simp)
  have TQ:(iT z.cells len).length=len*i.size:=by rw [jd,E4]
  have hst:=ko (P:=P) hp.kP (base:=(c.β id).2) (off:=off) (vs:=(Builtin.zeroCells zv.cells len).toList) (by rw [hnl]; rw [FB] at hoff; omega) hone
  obtain⟨q1,q2,q3,q4⟩:=gV (Builtin.zeroCells zv.cells len).toList (c.β id).1 ((c.β id).2+off) c.w
  have BP:iP c (c.β id).1 q:=hp
  obtain⟨C,Kr,hb,oR⟩:=hp
  obtain⟨C',g1,g2,g3⟩:=fV (Builtin.zeroCells zv.cells len).toList (c.β id).1 ((c.β id).2+off) c.w C Kr (0,0) hb (by rw [hnl]; rw [FB] at hoff; omega)
  obtain⟨e',f'⟩:=f.upd (w':=c.w.setCells (c.β id).1 ((c.β id).2+off) (Builtin.zeroCells zv.cells len).toList) (β':=c.β) (h':=s.h.put id (.cells (dQ cs off (iT z.cells len)))) id (.cells (dQ cs off (iT z.cells len)))
   (by rw [f.h]; exact Steady.put _ _ _) (by rw [←f.h]; exact aaS hl.1) (by simp [AHeap.put,beq_nat]) (fun kY h1=>.inr ⟨by rw [f.h]; simp [AHeap.put,beq_nat,h1],rfl⟩) (fun _=>⟨hl,rfl⟩) (.inr ⟨id,hl,rfl,.inl rfl⟩)
   (fun _=>by simp only [Cx.len,World.shape?,g1,hb,ZJ,aaA,g2])
   (fun b _ hne=>er _ _ _ _ _ hne) (fun b _ hne=>er _ _ _ _ _ hne) (by rw [q1]; exact ZI _) (jz e hb0) q2 q3 q4
   (fun ee=>⟨q,BP.setCells (by rw [hnl]; rw [FB] at hoff; omega) _ _ _,by rw [iE]; exact hq,jc BP.kP hc hv hone (by rw [TQ]; rw [FB] at hoff; omega) (by omega) ee rfl⟩)
  refine fin _ ?_ e' f'
  cases len with
  | zero=>exact absurd rfl hl0
  | succ len=>simp [Builtin.clear_,bH yu,hx,Fp,hst]
 ·cases h
  simp only [SR,VR] at hx
  refine fin c ?_ (Ext.refl _ _) f
  simp [Builtin.clear_,bH yu,hx]
 ·rename_i id
  rw [ZC] at h
  obtain⟨ob,ho,h⟩:=h
  cases ob with
  | cells cs=>cases h
  | row t cs=>cases h
  | map es=>
  cases h
  simp only [SR,VR] at hx
  obtain⟨hi,r,ru,hr⟩:=hx
  rw [←f.h] at ho
  have hl:Live c.h id:=⟨f.rel.lt _ _ ho,by simp [ho]⟩
  have PO:=hr hl
  subst PO
  obtain⟨lB,clock,h1,h2⟩:=f.rel.obj _ _ ho
  obtain⟨e',f'⟩:=f.wI (jz e hb0) ho h1 (rr:=#[]) (oT:=clock) (q9:=[]) trivial
  refine fin _ ?_ e' f'
  have hget:(getObj (c.β id).1).run P c.w = .ok (.map lB clock) c.w:=MapKept.run_getObj_map h1
  have FC:=MapKept.run_setObj_map (P:=P) (.map #[] clock) h1
  simp [Builtin.clear_,bH yu,ru,hget,FC]
end
end Go.R
namespace Go.R
open Go
section
variable {P:Program}{L0:Nat→Prop}{c0:Cx}{n:Nat}{ds:List Nat}{o:Oper}{s:RS}
theorem nq {w:World}{t t2 ty e:TypeId}{i:TypeInfo}(ht:P.underlying t=some (.slice e))(hi:P.info? e=some i){base:Option Addr}{len cap:Nat}{x:Value}{news:List Value}{m:Nat}(hs:Src P i.size t2 x m news w)(hm:m≤len) :
  (Builtin.copy_ #[t,t2] ty #[.slice base len cap,x]).run P w=match base with | none=>.ok (goInt m) w | some a=>((storeCells a news).run P w).andThen fun _ w'=>.ok (goInt m) w':=by
 have M9:Nat.min m len=m:=aa0 hm
 have hlen:=hs.len w
 have hc:=hs.cells
 have hsz:(sizeOf e).run P w = .ok i.size w:=by simp [sizeOf,typeInfo,hi]
 unfold Builtin.copy_
 cases base with
 | none=>simp [bH ht,hlen,M9,hsz,hc]
 | some a=>simp [bH ht,hlen,M9,hsz,hc,Sem.run_bind]
theorem Iq (hb0:c0.base≤c0.w.heap.size)(hd:gQ n ds o){t t2:TypeId}{dx sx:Operand}(ho:o.op = .call {callee:=.builtin .copy,args:=#[dx,sx],argTypes:=#[t,t2]}){y:AV}{h':AHeap}
  (h:re P s.h t t2 (bX s.ρ dx) (bX s.ρ sx)=some (y,h')):jD P L0 c0 n ds o s ({s with h:=h'}.set o.dst y):=by
 rintro a w K Q ⟨hn,c,Lo,lam,rfl,f,e0⟩ hK
 have hbs:=jz e0 hb0
 unfold re at h
 rw [ZC] at h
 obtain⟨d,yu,h⟩:=h
 cases d<;>simp only at h<;>try (cases h; done)
 rename_i e
 rw [ZC] at h
 obtain⟨i,hi,h⟩:=h
 rw [ZC] at h
 obtain⟨⟨new,m⟩,hcs,h⟩:=h
 simp only at h
 split at h
 ·cases h
 rename_i gZ
 have gZ:ja P t2 (bX s.ρ sx)=true:=by simpa using gZ
 have TR:∀st,bX s.ρ sx = .str st→P.underlying t2=some .string:=by
  intro st hst
  rw [hst] at gZ
  unfold ja at gZ
  simp only at gZ
  split at gZ
  ·assumption
  ·cases gZ
 have qA:(∀st,bX s.ρ sx≠.str st)→∃e',P.underlying t2=some (.slice e'):=by
  intro hne
  unfold ja at gZ
  split at gZ
  ·rename_i st hst; exact absurd hst (hne st)
  ·split at gZ
   ·rename_i e' he; exact⟨e',he⟩
   ·cases gZ
 have hk:(∃e',P.underlying t2=some (.slice e'))∨P.underlying t2=some .string:=by
  by_cases hst:∃st,bX s.ρ sx = .str st
  ·obtain⟨st,hst⟩:=hst; exact .inr (TR st hst)
  ·exact .inl (qA fun st PS=>hst ⟨st,PS⟩)
 obtain⟨news,hS,hv⟩:=qz f (bP f sx) hk TR qA hcs
 have yb:=bP f dx
 have fin:∀c',(Builtin.copy_ #[t,t2] o.type #[a.eval dx,a.eval sx]).run P c.w = .ok (goInt m) c'.w→Ext c Lo c' Lo→Fr L0 c' Lo lam ds {s with h:=h'} a→y = .int .i64 m→o.wp P a c.w K Q:=by
  intro c' hr e' f' hy
  unfold Oper.wp
  have:(execOp a.eval o).run P c.w = .ok (.value (goInt m)) c'.w:=by
   simp [execOp,ho,resolve,invoke,builtin,hr]
  rw [this,Oper.upon_value]
  exact hK _ _ ⟨(gP _ _ _).trans hn,c',Lo,lam,rfl,f'.set (SR.of (by subst hy; simp [VR,goInt])) (fun t ht=>by rw [hn]; exact hd t ht),e0.trans e'⟩
 cases DY:bX s.ρ dx<;>rw [DY] at h yb<;>simp only at h<;>try (cases h; done)
 ·split at h
  rotate_left
  ·cases h
  rename_i sU
  cases h
  simp only [SR,VR] at yb
  obtain⟨ad,yb⟩:∃ad:Option Addr,a.eval dx = .slice ad 0 0:=⟨none,yb⟩
  refine fin c ?_ (Ext.refl _ _) f (by rw [sU]; rfl)
  rw [yb,nq yu hi hS (by omega)]
  cases ad with
  | none=>rfl
  | some ad=>
   have:news=[]:=Z6 (by rw [hS.newsLen,sU]; simp)
   subst this
   rfl
 ·rename_i id off len iR
  split at h
  ·rename_i hid
   split at h
   rotate_left
   ·cases h
   rename_i sU
   cases h
   simp only [SR,VR] at yb
   rcases yb with⟨_,_,_,ad,yb⟩| yb
   rotate_left
   ·exact absurd hid yb.1
   refine fin c ?_ (Ext.refl _ _) f (by rw [sU]; rfl)
   rw [yb,nq yu hi hS (by omega)]
   cases ad with
   | none=>rfl
   | some ad=>
    have:news=[]:=Z6 (by rw [hS.newsLen,sU]; simp)
    subst this
    rfl
  rename_i kI
  rw [ZC] at h
  obtain⟨ob,hob,h⟩:=h
  cases ob with
  | map es=>cases h
  | row t cs=>cases h
  | cells cs=>
  simp only at h
  split at h
  rotate_left
  ·cases h
  rename_i hh
  obtain⟨FB,VX,hoff⟩:=hh
  cases h
  simp only [SR,VR] at yb
  rcases yb with yb | ⟨_,hid,ad,cap,yb,hlc,BO,hlive⟩
  ·exact absurd yb.1 kI
  rw [←f.h] at hob
  have hl:Live c.h id:=⟨f.rel.lt _ _ hob,by simp [hob]⟩
  obtain⟨q,hp,hq,hc⟩:=f.rel.obj _ _ hob
  have hnl:=hS.newsLen
  have hvl:=hv.length
  have hr:=nq (ty:=o.type) yu hi hS VX (base:=ad) (cap:=cap)
  by_cases ha:ad=some ⟨(c.β id).1,(c.β id).2+off,none⟩
  ·subst ha
   simp only at hr
   have hst:=ko (P:=P) hp.kP (base:=(c.β id).2) (off:=off) (vs:=news) (by omega) hS.one
   rw [hst] at hr
   simp only [Result.andThen_ok] at hr
   obtain⟨q1,q2,q3,q4⟩:=gV news (c.β id).1 ((c.β id).2+off) c.w
   have BP:iP c (c.β id).1 q:=hp
   obtain⟨C,Kr,hb,oR⟩:=hp
   obtain⟨C',g1,g2,g3⟩:=fV news (c.β id).1 ((c.β id).2+off) c.w C Kr (0,0) hb (by omega)
   obtain⟨e',f'⟩:=f.upd (w':=c.w.setCells (c.β id).1 ((c.β id).2+off) news) (β':=c.β) (h':=s.h.put id (.cells (dQ cs off new))) id (.cells (dQ cs off new))
    (by rw [f.h]; exact Steady.put _ _ _) (by rw [←f.h]; exact aaS hl.1) (by simp [AHeap.put,beq_nat]) (fun kY h1=>.inr ⟨by rw [f.h]; simp [AHeap.put,beq_nat,h1],rfl⟩) (fun _=>⟨hl,rfl⟩) (.inr ⟨id,hl,rfl,.inl rfl⟩)
    (fun _=>by simp only [Cx.len,World.shape?,g1,hb,ZJ,aaA,g2])
    (fun b _ hne=>er _ _ _ _ _ hne) (fun b _ hne=>er _ _ _ _ _ hne) (by rw [q1]; exact ZI _) hbs q2 q3 q4
    (fun ee=>⟨q,BP.setCells (by omega) _ _ _,by rw [iE]; exact hq,jc BP.kP hc hv hS.one (by omega) (by omega) ee rfl⟩)
   refine fin _ ?_ e' f' rfl
   rw [yb]
   exact hr
  ·have hz:new=[]∧m=0∧news=[]:=by
    rcases hlive hl with⟨h1,_⟩| h1
    ·exact absurd h1 ha
    ·have h0:m=0:=by omega
     have h2:news=[]:=Z6 (by rw [hnl,h0]; simp)
     subst h2
     exact⟨Z6 (by simpa using hvl),h0,rfl⟩
   obtain⟨rfl,rfl,rfl⟩:=hz
   have oC:dQ cs off []=cs:=by simp [dQ]
   rw [oC] at *
   obtain⟨e',f'⟩:=f.upd (w':=c.w) (β':=c.β) (h':=s.h.put id (.cells cs)) id (.cells cs)
    (by rw [f.h]; exact Steady.put _ _ _) (by rw [←f.h]; exact aaS hl.1) (by simp [AHeap.put,beq_nat]) (fun kY h1=>.inr ⟨by rw [f.h]; simp [AHeap.put,beq_nat,h1],rfl⟩) (fun _=>⟨hl,rfl⟩) (.inr ⟨id,hl,rfl,.inl rfl⟩)
    (fun _=>rfl) (fun b _ hne=>rfl) (fun b _ hne=>rfl) (ZI _) hbs rfl rfl rfl
    (fun ee=>pz.ext ee ⟨q,hp,hq,hc⟩ rfl)
   refine fin _ ?_ e' f' rfl
   rw [yb,hr]
   cases ad<;>rfl
end
end Go.R
namespace Go.R
open Go
section
variable {P:Program}{L0:Nat→Prop}{c0:Cx}{n:Nat}{ds:List Nat}{o:Oper}{s:RS}
theorem qB {e:TypeId}(h:Fh P e=true):P.underlying e=some (.int .u8)∧fR P e=some 1:=by
 unfold Fh at h
 simp only [ZF,beq_iff_eq] at h
 obtain⟨h1,h2⟩:=h
 refine⟨?_,h2⟩
 split at h1
 ·assumption
 ·cases h1
theorem B0 {c:Cx}{L:Nat→Prop}:∀{cs:List AV} {l:List UInt8} {vs:List Value},JF cs=some l→VRs c L cs vs→∃xs:List Int,vs=xs.map (Value.int .u8)∧l=xs.map fun n=>UInt8.ofNat n.toNat
 | [],l,[],h,_=>by simp only [JF,ZE] at h; subst h; exact⟨[],rfl,rfl⟩
 | x::cs,l,v::vs,h,hv=>by
  unfold JF at h
  split at h
  ·rename_i heq; cases heq
  ·rename_i n xs heq
   cases heq
   rw [ZD] at h
   obtain⟨l',h1,rfl⟩:=h
   obtain⟨ys,rfl,rfl⟩:=B0 h1 hv.2
   have h2:=hv.1
   simp only [VR] at h2
   subst h2
   exact⟨n::ys,rfl,rfl⟩
  ·cases h
 | [],_,_::_,_,h=>h.elim
 | _::_,_,[],_,h=>h.elim
theorem wL (xs:List Int):strOfNums xs=⟨(xs.map fun n=>UInt8.ofNat n.toNat).toArray⟩:=rfl
theorem yv {w:World}{src dst e:TypeId}{v:Value}{m:Nat}{xs:List Int}(hs:P.underlying src=some (.slice e))(he:P.underlying e=some (.int .u8))(hd:P.underlying dst=some .string)
  (hS:Src P 1 src v m (xs.map (Value.int .u8)) w) (hv:∃a cap,v = .slice a m cap):(convert src dst v).run P w = .ok (.string (strOfNums xs)) w:=by
 obtain⟨a,cap,rfl⟩:=hv
 have hc:=hS.cells
 have hl:=hS.newsLen
 cases a with
 | none=>
  have:xs=[]:=by
   simp [Builtin.firstCells] at hc
   cases xs with
   | nil=>rfl
   | cons x xs=>simp at hc
  subst this
  exact run_convert_bytes_nil w src e hs he m cap dst hd
 | some a=>
  rw [run_convert_bytes_string w src dst e (some a) m cap hs he hd]
  have h1:(loadCells a m).run P w = .ok (xs.map (Value.int .u8)).toArray w:=by simpa [Builtin.firstCells] using hc
  rw [run_bytesToString w a m cap xs h1,foldl_push_bytes]
  simp [strOfNums,ByteArray.empty,ByteArray.emptyWithCapacity]
  rfl
theorem uN {c:Cx}{Lo:Nat→Prop}{lam:Nat→Nat}{x:AV}{v:Value}{h:AHeap}{size m:Nat}{new:List AV}(hx:SR c L0 Lo lam s.bx x v)(hc:fc h size x=some (new,m))(hne:∀st,x≠.str st):∃a cap,v = .slice a m cap:=by
 unfold fc at hc
 cases x<;>simp only at hc<;>try (cases hc; done)
 ·exact absurd rfl (hne _)
 ·cases hc
  simp only [SR,VR] at hx
  subst hx
  exact⟨none,0,rfl⟩
 ·split at hc
  ·cases hc
   simp only [SR,VR] at hx
   obtain⟨a,cap,rfl,_⟩:=hx
   exact⟨a,cap,rfl⟩
  ·cases hc
 ·split at hc
  ·split at hc
   ·cases hc
    simp only [SR,VR] at hx
    rename_i hid hl0
    rcases hx with⟨_,_,_,a,rfl⟩| ⟨_,_,a,cap,rfl,_⟩
    ·exact⟨a,0,rfl⟩
    ·exact⟨a,cap,by rw [hl0]⟩
   ·cases hc
  rename_i kI
  rw [ZC] at hc
  obtain⟨ob,_,hc⟩:=hc
  cases ob with
  | map es=>cases hc
  | row t cs=>cases hc
  | cells cs=>
   simp only at hc
   split at hc
   ·cases hc
    simp only [SR,VR] at hx
    rcases hx with hx | ⟨_,_,a,cap,rfl,_⟩
    ·exact absurd (.inl hx.1) kI
    exact⟨a,cap,rfl⟩
   ·cases hc
theorem bytes_VRs {c:Cx}{L:Nat→Prop}:∀l:List UInt8,VRs c L (l.map fun b=>AV.int .u8 b.toNat) (l.map fun b=>Value.int .u8 b.toNat)
 | []=>trivial
 | b::l=>⟨by simp [VR],bytes_VRs l⟩
theorem wM {w:World}{b o k:Nat}{C:Array Value}{e:TypeId}{fr:Nat × Nat}(hb:w.heap[b]? = some (.cells C e fr))(ho:C.size≤o)(hk:k≠0) :
  (∀b',iC w (w.freeze ⟨b,o,none⟩ k) b')∧(∀b',b'≠b→(w.freeze ⟨b,o,none⟩ k).heap[b']? = w.heap[b']?)∧(w.freeze ⟨b,o,none⟩ k).heap.size=w.heap.size∧(w.freeze ⟨b,o,none⟩ k).os=w.os∧(w.freeze ⟨b,o,none⟩ k).tape=w.tape∧(w.freeze ⟨b,o,none⟩ k).output=w.output:=by
 unfold World.freeze
 rw [if_neg hk]
 have hlt:=(aac.1 hb).1
 refine⟨fun b'=>?_,fun b' hne=>by simp [aaI,Ne.symm hne],by simp,rfl,rfl,rfl⟩
 by_cases hne:b'=b
 ·subst hne
  obtain⟨lo,hi⟩:=fr
  refine .inr ⟨C,e,lo,hi,(if lo==hi then (o,o+k) else (min lo o,max hi (o+k))).1,(if lo==hi then (o,o+k) else (min lo o,max hi (o+k))).2,hb,?_,?_⟩
  ·simp [aaI,hb]
  ·intro h
   by_cases PT:lo=hi
   ·subst PT; right; simpa using ho
   ·have:(lo==hi)=false:=by simpa using PT
    right
    simp only [this,ZN,if_false]
    rcases h with h | h
    ·exact absurd h PT
    ·exact Nat.le_min.2 ⟨h,ho⟩
 ·exact .inl (by simp [aaI,Ne.symm hne])
theorem AK (hb0:c0.base≤c0.w.heap.size)(hd:gQ n ds o){src dst:TypeId}{x:Operand}(ho:o.op = .convert src dst x){y:AV}(h:nh P s.h src dst (bX s.ρ x)=some y):jD P L0 c0 n ds o s (s.set o.dst y):=by
 have hex:∀(a:Act) (w w':World) v,(convert src dst (a.eval x)).run P w = .ok v w'→(execOp a.eval o).run P w = .ok (.value v) w':=by
  intro a w w' v hr; simp [execOp,ho,hr]
 unfold nh at h
 split at h
 ·rename_i e hs Ae
  split at h
  rotate_left
  ·cases h
  rename_i hu
  obtain⟨he,hsz⟩:=qB hu
  rw [ZC] at h
  obtain⟨⟨cs,m⟩,hcs,h⟩:=h
  rw [ZD] at h
  obtain⟨l,hl,rfl⟩:=h
  by_cases hst:∃st,bX s.ρ x = .str st
  ·
   obtain⟨st,hst⟩:=hst
   refine gr hd fun a c Lo lam f hn=>?_
   have hx:=bP f x
   rw [hst] at hx hcs
   simp only [SR,VR] at hx
   simp only [fc,if_true,ZE,ZL] at hcs
   obtain⟨rfl,rfl⟩:=hcs
   refine⟨_,hex _ _ _ (.string st) ?_,?_⟩
   ·simp [convert,run_underlying hs,run_underlying Ae,hx]
   ·have:∀(l0 l1:List UInt8),JF (l0.map fun b=>AV.int .u8 b.toNat)=some l1→l1=l0:=by
     intro l0
     induction l0 with
     | nil=>intro l1 h; simp [JF] at h; exact h
     | cons b l0 ih=>
      intro l1 h
      simp only [Z0,JF,ZD] at h
      obtain⟨l2,h2,rfl⟩:=h
      rw [ih l2 h2]
      simp
    rw [this _ _ hl]
    simp [SR,VR]
  ·refine gr hd fun a c Lo lam f hn=>?_
   have hne:∀st,bX s.ρ x≠.str st:=fun st h=>hst ⟨st,h⟩
   have hx:=bP f x
   obtain⟨news,hS,hv⟩:=qz f hx (.inl ⟨e,hs⟩) (fun st h=>absurd h (hne st)) (fun _=>⟨e,hs⟩) hcs
   obtain⟨xs,rfl,rfl⟩:=B0 hl hv
   exact⟨_,hex _ _ _ _ (yv hs he Ae hS (uN hx hcs hne)),by simp [SR,VR,wL]⟩
 ·rename_i e hs Ae
  cases DY:bX s.ρ x<;>rw [DY] at h<;>simp only at h<;>try (cases h; done)
  rename_i st
  split at h
  rotate_left
  ·cases h
  rename_i hu
  obtain⟨he,hsz⟩:=qB hu
  cases h
  refine s7 hb0 hd (fun a c Lo lam f hn hbs=>?_) (by rintro k off h; cases h)
  have hx:=bP f x
  rw [DY] at hx
  simp only [SR,VR] at hx
  have hr:=run_bytes_of_string c.w src dst e st hs Ae he
  rw [←hx] at hr
  refine⟨_,_,hex _ _ _ _ hr,fun b hb=>.inl (alloc_old c.w.drew _ (show b<c.w.heap.size from hb)),fun id hl=>alloc_old c.w.drew _ (show (c.β id).1<c.w.heap.size from f.rel.block hl),fun b hb=>alloc_old c.w.drew _ (show b<c.w.heap.size by omega),by show c.w.heap.size≤(c.w.heap.push _).size; simp,rfl,rfl,rfl,fun e'=>?_⟩
  simp only [VR]
  refine⟨_,_,rfl,grownCap_ge c.w,by simp,.inl rfl,?_⟩
  refine .inr ⟨c.w.heap.size,0,rfl,Fy f.rel rfl rfl,by simp,?_⟩
  refine Cells.of_vals (bytes_VRs st.data.toList) (fun i hi=>?_) (fun v hv=>by obtain⟨b,_,rfl⟩:=aah.1 hv; rfl)
  have jY:i<st.data.size:=by simpa using hi
  have:(World.alloc c.w.drew (.cells (bytesRow st (grownCap c.w st.size 0 e)) e ((bytesRow st (grownCap c.w st.size 0 e)).size,(bytesRow st (grownCap c.w st.size 0 e)).size+1))).heap[c.w.heap.size]? = some (.cells (bytesRow st (grownCap c.w st.size 0 e)) e ((bytesRow st (grownCap c.w st.size 0 e)).size,(bytesRow st (grownCap c.w st.size 0 e)).size+1)):=iU c.w.drew _
  rw [cell_of_block this]
  simp [bytesRow,Array.getElem?_append,jY]
  intro hge
  have:st.size=st.data.size:=rfl
  omega
 ·rename_i e0 e hs Ae
  cases DY:bX s.ρ x<;>rw [DY] at h<;>try (cases h; done)
  rename_i cs m ex
  cases ex
  ·cases h
  simp only at h
  split at h
  rotate_left
  ·cases h
  rename_i hu
  simp only [ZF,beq_iff_eq,decide_eq_true_eq] at hu
  obtain⟨⟨VY,hu⟩,pE⟩:=hu
  subst VY
  obtain⟨he,hsz⟩:=qB hu
  cases h
  refine s7 hb0 hd (fun a c Lo lam f hn hbs=>?_) (by rintro k off h; cases h)
  have hx:=bP f x
  rw [DY] at hx
  have Ir:=hx.vr (by rintro k off h; cases h)
  simp only [SR,VR] at hx
  obtain⟨ad,cap,ru,h1,h2,_,h3⟩:=hx
  rcases h3 with rfl | ⟨b,off,rfl,JH,hbb,hc⟩
  ·simp at pE
  have hlt:b<c.w.heap.size:=by
   cases cs with
   | nil=>simp at pE
   | cons x cs=>exact kj hc
  have oC:∃C e' fr,c.w.heap[b]? = some (.cells C e' fr):=by
   cases cs with
   | nil=>simp at pE
   | cons x cs=>
    obtain⟨⟨v,hv,_⟩,_⟩:=hc
    unfold World.cell? at hv
    split at hv
    ·exact⟨_,_,_,by assumption⟩
    ·cases hv
  obtain⟨C,e',fr,hb⟩:=oC
  obtain⟨k1,k2,k3,k4,k5,k6⟩:=wM (k:=1) hb (ZI C.size) (by decide)
  refine⟨c.w.freeze ⟨b,C.size,none⟩ 1,a.eval x,hex _ _ _ _ ?_,fun b' _=>k1 b',fun id hl=>k2 _ (JH.1 id hl),fun b' uG=>k2 b' (by have:=hbb trivial; omega),by rw [k3]; exact ZI _,k4,k5,k6,fun Kr=>VR.ext Kr _ _ Ir⟩
  rw [ru]
  have HZ:c.w.shape? b=some (e',C.size):=by simp [World.shape?,hb]
  simp [convert,run_underlying Ae,run_underlying he,markStringish,HZ]
 ·rw [ZC] at h
  obtain⟨v,hv,h⟩:=h
  rw [ZC] at h
  obtain⟨r,hr,h⟩:=h
  refine gr hd fun a c Lo lam f hn=>?_
  have hx:=lC hv ((bP f x).vr (lD hv))
  exact⟨r,hex _ _ _ _ (by rw [hx]; exact kQ _ hr),SR.of (nY h)⟩
theorem eU {op:BinOp}{t:TypeId}{x y:Operand}{u v:Value}(h:(∀a b,u≠.agg a∨v≠.agg b)∧u≠.nilIface)(w:World):(eqGuard op t x y u v).run P w = .ok () w:=by
 obtain⟨h1,h2⟩:=h
 unfold eqGuard
 cases op<;>first | rfl | skip
 all_goals
  simp only [aaC,ZN,if_false]
  split
  ·exact absurd rfl h2
  ·rename_i a b; rcases h1 a b with h3 | h3<;>exact absurd rfl h3
  ·rfl
theorem AL {x:AV}{u:Value}(h:x.gO=some u):(∀a,u≠.agg a)∧u≠.nilIface:=by
 unfold AV.gO at h
 split at h<;>first | (cases h; done) | (cases h; exact⟨fun _=>(by simp),(by simp)⟩)
theorem D2 {op:BinOp}{a b:ByteArray}{y:AV}(h:Ar op a b=some y)(w:World):∃r,(Op.stringOp op a b).run P w = .ok r w∧∀(c:Cx) (L:Nat→Prop),VR c L y r:=by
 have hl:∀z:ByteArray,z.toList=z.data.toList:=fun z=>ByteArray.toList_eq z
 unfold Ar at h
 unfold Op.stringOp
 simp only [hl]
 cases op<;>simp only at h<;>try (cases h; done)
 ·split at h
  rotate_left
  ·cases h
  rename_i hsz
  cases h
  refine⟨.string (a++b),?_,fun c L=>by simp only [VR]⟩
  have h1:¬(((a.size+b.size:Nat):Int) > IntKind.i64.max):=by
   have:IntKind.i64.max=9223372036854775807:=by decide
   rw [this]; omega
  simp only [h1,if_false]
  rfl
 all_goals (cases h; exact⟨_,rfl,fun c L=>by simp only [VR]⟩)
theorem nZ {op:BinOp}{qm:Bool}(h:As op=some qm):(op = .eql∧qm=true)∨(op = .neq∧qm=false):=by
 unfold As at h
 split at h<;>cases h
 ·exact .inl ⟨rfl,rfl⟩
 ·exact .inr ⟨rfl,rfl⟩
theorem oU {t:TypeId}(ht:∃q,P.underlying t=some (.pointer q)){a:Addr}{op:BinOp}{qm:Bool}(h:As op=some qm)(w:World) :
  (binOp op t (.pointer (some a)) (.pointer none)).run P w = .ok (.bool (!qm)) w∧(binOp op t (.pointer none) (.pointer (some a))).run P w = .ok (.bool (!qm)) w:=by
 obtain⟨q,hq⟩:=ht
 have e1:(Op.equal t (.pointer (some a)) (.pointer none)).run P w = .ok false w:=by
  unfold Op.equal Op.maxDepth
  unfold Op.equalIn
  simp [bH hq]
 have e2:(Op.equal t (.pointer none) (.pointer (some a))).run P w = .ok false w:=by
  unfold Op.equal Op.maxDepth
  unfold Op.equalIn
  simp [bH hq]
 rcases nZ h with⟨rfl,rfl⟩| ⟨rfl,rfl⟩
 ·constructor
  ·show ((do pure (.bool (←Op.equal t (.pointer (some a)) (.pointer none)))):Sem Value).run P w=_
   simp [e1]
  ·show ((do pure (.bool (←Op.equal t (.pointer none) (.pointer (some a))))):Sem Value).run P w=_
   simp [e2]
 ·constructor
  ·show ((do pure (.bool (!(←Op.equal t (.pointer (some a)) (.pointer none))))):Sem Value).run P w=_
   simp [e1]
  ·show ((do pure (.bool (!(←Op.equal t (.pointer none) (.pointer (some a)))))):Sem Value).run P w=_
   simp [e2]
theorem pF {t:TypeId}(ht:∃q,P.underlying t=some (.slice q)){ad:Option Addr}(hs:ad.isSome=true){m cap:Nat}{op:BinOp}{qm:Bool}(h:As op=some qm)(w:World) :
  (binOp op t (.slice ad m cap) (.slice none 0 0)).run P w = .ok (.bool (!qm)) w:=by
 obtain⟨q,hq⟩:=ht
 obtain⟨a,rfl⟩:=aad.1 hs
 have e1:(Op.equal t (.slice (some a) m cap) (.slice none 0 0)).run P w = .ok false w:=by
  unfold Op.equal Op.maxDepth
  unfold Op.equalIn
  simp [bH hq]
 rcases nZ h with⟨rfl,rfl⟩| ⟨rfl,rfl⟩
 ·show ((do pure (.bool (←Op.equal t (.slice (some a) m cap) (.slice none 0 0)))):Sem Value).run P w=_
  simp [e1]
 ·show ((do pure (.bool (!(←Op.equal t (.slice (some a) m cap) (.slice none 0 0))))):Sem Value).run P w=_
  simp [e1]
theorem FD (hd:gQ n ds o){op:BinOp}{t t2:TypeId}{x y:Operand}(ho:o.op = .binOp op t x y t2){z:AV}(h:ni P op t (bX s.ρ x) (bX s.ρ y)=some z):jD P L0 c0 n ds o s (s.set o.dst z):=by
 refine gr hd fun a c Lo lam f hn=>?_
 have hx:=bP f x
 have hy:=bP f y
 have hex:∀v,(eqGuard op t x y (a.eval x) (a.eval y)).run P c.w = .ok () c.w→(binOp op t (a.eval x) (a.eval y)).run P c.w = .ok v c.w→(execOp a.eval o).run P c.w = .ok (.value v) c.w:=by
  intro v h1 h2; simp [execOp,ho,h1,h2]
 unfold ni at h
 split at h
 ·rename_i p q hp hq
  rw [hp] at hx; rw [hq] at hy
  simp only [SR,VR] at hx hy
  obtain⟨r,hr,hv⟩:=D2 (P:=P) h c.w
  refine⟨r,hex _ (eU ⟨fun _ _=>.inl (by rw [hx]; simp),by rw [hx]; simp⟩ _) ?_,SR.of (hv _ _)⟩
  rw [hx,hy]
  unfold binOp
  simpa using hr
 ·rename_i p q hp hq
  rw [hp] at hx; rw [hq] at hy
  simp only [SR,VR] at hx hy
  obtain⟨_,ad,ru,_⟩:=hx
  rw [ZC] at h
  obtain⟨qm,rS,h⟩:=h
  split at h
  rotate_left
  ·cases h
  rename_i ht
  cases h
  refine⟨.bool (!qm),hex _ (eU ⟨fun _ _=>.inl (by rw [ru]; simp),by rw [ru]; simp⟩ _) ?_,SR.of (by simp [VR])⟩
  rw [ru,hy]
  exact (oU ⟨_,ht⟩ rS _).1
 ·rename_i p q hp hq
  rw [hp] at hx; rw [hq] at hy
  simp only [SR,VR] at hx hy
  obtain⟨_,ad,O4,_⟩:=hy
  rw [ZC] at h
  obtain⟨qm,rS,h⟩:=h
  split at h
  rotate_left
  ·cases h
  rename_i ht
  cases h
  refine⟨.bool (!qm),hex _ (eU ⟨fun _ _=>.inl (by rw [hx]; simp),by rw [hx]; simp⟩ _) ?_,SR.of (by simp [VR])⟩
  rw [hx,O4]
  exact (oU ⟨_,ht⟩ rS _).2
 ·rename_i p q hp hq
  rw [hp] at hx; rw [hq] at hy
  simp only [SR,VR] at hx hy
  obtain⟨b,off,ru,_⟩:=hx
  rw [ZC] at h
  obtain⟨qm,rS,h⟩:=h
  split at h
  rotate_left
  ·cases h
  rename_i ht
  cases h
  refine⟨.bool (!qm),hex _ (eU ⟨fun _ _=>.inl (by rw [ru]; simp),by rw [ru]; simp⟩ _) ?_,SR.of (by simp [VR])⟩
  rw [ru,hy]
  exact (oU ⟨_,ht⟩ rS _).1
 ·rename_i hp hq
  rw [hp] at hx; rw [hq] at hy
  simp only [SR,VR] at hx hy
  obtain⟨ad,cap,ru,_,_,hs,_⟩:=hx
  replace hs:ad.isSome=true:=hs.elim id fun h=>by cases h.1
  rw [ZC] at h
  obtain⟨qm,rS,h⟩:=h
  split at h
  rotate_left
  ·cases h
  rename_i ht
  cases h
  refine⟨.bool (!qm),hex _ (eU ⟨fun _ _=>.inl (by rw [ru]; simp),by rw [ru]; simp⟩ _) ?_,SR.of (by simp [VR])⟩
  rw [ru,hy]
  exact pF ⟨_,ht⟩ hs rS _
 ·rename_i hp hq
  rw [hp] at hx; rw [hq] at hy
  simp only [SR,VR] at hx hy
  rcases hx with⟨hx,_⟩| ⟨_,_,ad,cap,ru,_,hs,_⟩
  ·omega
  rw [ZC] at h
  obtain⟨qm,rS,h⟩:=h
  split at h
  rotate_left
  ·cases h
  rename_i ht
  cases h
  refine⟨.bool (!qm),hex _ (eU ⟨fun _ _=>.inl (by rw [ru]; simp),by rw [ru]; simp⟩ _) ?_,SR.of (by simp [VR])⟩
  rw [ru,hy]
  exact pF ⟨_,ht⟩ hs rS _
 ·rename_i p q hp hq
  rw [hp,hq] at h
  rw [hp] at hx; rw [hq] at hy
  have Ir:=hx.vr (by rintro k off h; cases h)
  have PU:=hy.vr (by rintro k off h; cases h)
  rw [ZC] at h
  obtain⟨qm,rS,h⟩:=h
  split at h
  rotate_left
  ·cases h
  rename_i kq
  simp only [ZF,aaF] at kq
  obtain⟨⟨⟨h1,h2⟩,h3⟩,h4⟩:=kq
  cases h
  have hk:=vi (P:=P) 9998 h1 h3 Ir PU c.w
  simp only [VR] at Ir PU
  obtain⟨vx,ru,_⟩:=Ir
  obtain⟨vy,O4,_⟩:=PU
  refine⟨.bool (fQ (.agg p) (.agg q)==qm),hex _ ?_ ?_,SR.of (by simp only [VR])⟩
  ·rw [ru,O4]
   rcases nZ rS with⟨rfl,rfl⟩| ⟨rfl,rfl⟩<;>simp [eqGuard,h4,program,Sem.run]
  ·rw [ru,O4] at hk ⊢
   rcases nZ rS with⟨rfl,rfl⟩| ⟨rfl,rfl⟩
   ·show ((do pure (.bool (←Op.equal t (.agg vx) (.agg vy)))):Sem Value).run P c.w=_
    have JI:(Op.equal t (.agg vx) (.agg vy)).run P c.w=_:=hk
    simp [JI]
   ·show ((do pure (.bool (!(←Op.equal t (.agg vx) (.agg vy))))):Sem Value).run P c.w=_
    have JI:(Op.equal t (.agg vx) (.agg vy)).run P c.w=_:=hk
    simp [JI]
 ·rw [ZC] at h
  obtain⟨u,hu,h⟩:=h
  rw [ZC] at h
  obtain⟨v,hv,h⟩:=h
  rw [ZC] at h
  obtain⟨r,hr,h⟩:=h
  have h1:=lC hu (hx.vr (lD hu))
  have h2:=lC hv (hy.vr (lD hv))
  have h3:=AL hu
  exact⟨r,hex _ (eU ⟨fun p _=>.inl (by rw [h1]; exact h3.1 p),by rw [h1]; exact h3.2⟩ _) (by rw [h1,h2]; exact kQ _ hr),SR.of (nY h)⟩
theorem Is (hd:gQ n ds o){op:UnOp}{t:TypeId}{x:Operand}(ho:o.op = .unOp op t x){z:AV}(h:((bX s.ρ x).gO.bind fun a=>(iZ P (Op.unary op a)).bind pw)=some z):jD P L0 c0 n ds o s (s.set o.dst z):=by
 refine gr hd fun a c Lo lam f hn=>?_
 rw [ZC] at h
 obtain⟨u,hu,h⟩:=h
 rw [ZC] at h
 obtain⟨r,hr,h⟩:=h
 have h1:=lC hu ((bP f x).vr (lD hu))
 refine⟨r,?_,SR.of (nY h)⟩
 have:=kQ (P:=P) c.w hr
 rw [←h1] at this
 simp [execOp,ho,this]
theorem B3 (hd:gQ n ds o){x:Operand}(ho:o.op = .move x∨o.op = .assign x):jD P L0 c0 n ds o s (s.set o.dst (bX s.ρ x)):=
 gr hd fun a c Lo lam f hn=>⟨a.eval x,by rcases ho with ho | ho<;>simp [execOp,ho],bP f x⟩
theorem It (hd:gQ n ds o){k x y:Operand}(ho:o.op = .pick k x y){t:Bool}(h:sN (bX s.ρ k)=some t):jD P L0 c0 n ds o s (s.set o.dst (if t then bX s.ρ x else bX s.ρ y)):=by
 refine gr hd fun a c Lo lam f hn=>?_
 have hk:=bP f k
 unfold sN at h
 split at h
 ·rename_i b hb
  cases h
  rw [hb] at hk
  simp only [SR,VR] at hk
  refine⟨if t then a.eval x else a.eval y,by simp [execOp,ho,hk,asBool],?_⟩
  cases t
  ·exact bP f y
  ·exact bP f x
 ·cases h
theorem yw (hd:gQ n ds o){x:Operand}(ho:o.op = .nilCheck x){z:AV}(h:qp (bX s.ρ x)=some z):jD P L0 c0 n ds o s (s.set o.dst z):=by
 refine gr hd fun a c Lo lam f hn=>?_
 have hx:=bP f x
 have hp:(∃ad,a.eval x = .pointer (some ad))∧z=bX s.ρ x:=by
  unfold qp at h
  split at h
  ·rename_i id off heq
   cases h
   rw [heq] at hx
   simp only [SR,VR] at hx
   obtain⟨_,ad,h1,_⟩:=hx
   exact⟨⟨ad,h1⟩,heq.symm⟩
  ·rename_i k off heq
   cases h
   rw [heq] at hx
   simp only [SR] at hx
   exact⟨⟨_,hx.1⟩,heq.symm⟩
  ·rename_i cs off heq
   cases h
   rw [heq] at hx
   simp only [SR,VR] at hx
   obtain⟨b,o',h1,_⟩:=hx
   exact⟨⟨_,h1⟩,heq.symm⟩
  ·cases h
 obtain⟨⟨ad,hp⟩,rfl⟩:=hp
 exact⟨a.eval x,by simp [execOp,ho,hp],hx⟩
theorem n5 {c:Cx}{Lo:Nat→Prop}{lam:Nat→Nat}{a:Act}(f:Fr L0 c Lo lam ds s a):∀xs:List Operand,(∀x∈xs,∀k off,bX s.ρ x≠.lp k off)→VRs c (un L0 Lo) (xs.map (bX s.ρ)) (xs.map a.eval)
 | [],_=>trivial
 | x::xs,h=>⟨(bP f x).vr (h x (by simp)),n5 f xs fun y hy=>h y (by simp [hy])⟩
theorem D3 {x:AV}(h:x.cg=true):∀k off,x≠.lp k off:=by rintro k off rfl; simp [AV.cg] at h
theorem yx (hd:gQ n ds o){AM:FuncId}{first cap:Array Operand}(ho:o.op = .makeFunc (.func AM) first cap)(hf:first.isEmpty=true)(hc:(cap.toList.map (bX s.ρ)).all AV.cg=true):jD P L0 c0 n ds o s (s.set o.dst (.fn AM (cap.toList.map (bX s.ρ)))):=by
 refine gr hd fun a c Lo lam f hn=>?_
 have PV:first = #[]:=by simpa using hf
 subst PV
 refine⟨.func (.func AM) #[] (cap.map a.eval),by simp [execOp,ho,Instr.makeFunc],SR.of ?_⟩
 simp only [VR]
 refine⟨_,rfl,?_⟩
 rw [Array.toList_map]
 refine n5 f _ fun x hx=>D3 ?_
 rw [ZX] at hc
 exact hc _ (aah.2 ⟨x,hx,rfl⟩)
theorem AN (hd:gQ n ds o){x:Operand}{i:Nat}(ho:o.op = .extract x i){z:AV}(h:sO (bX s.ρ x) i=some z):jD P L0 c0 n ds o s (s.set o.dst z):=by
 refine gr hd fun a c Lo lam f hn=>?_
 have hx:=bP f x
 cases heq:bX s.ρ x<;>rw [heq] at h hx<;>simp only [sO] at h<;>try (cases h; done)
 rename_i vs
 simp only [SR,VR] at hx
 obtain⟨us,ru,E3⟩:=hx
 obtain⟨v,hv,hr⟩:=E3.get i z h
 have PW:us[i]? = some v:=by simpa using hv
 exact⟨v,by simp [execOp,ho,ru,Instr.extract,PW],SR.of hr⟩
theorem rv {op:Value→Value→Sem Value}:∀(vs:List Value) (v r:Value) (w:World),l9 P op v vs=some r→(vs.foldlM op v).run P w = .ok r w
 | [],v,r,w,h=>by simp only [l9,ZE] at h; subst h; rfl
 | x::xs,v,r,w,h=>by
  simp only [l9,ZC] at h
  obtain⟨u,h1,h2⟩:=h
  simp only [List.foldlM_cons,Sem.run_bind,kQ w h1,Result.andThen_ok]
  exact rv xs u r w h2
theorem vp (hd:gQ n ds o){b:Builtin}{B4:Array TypeId}{args:Array Operand}(ho:o.op = .call {callee:=.builtin b,args:=args,argTypes:=B4}){op:Value→Value→Sem Value}(hb:(b = .min∧op=Builtin.min2)∨(b = .max∧op=Builtin.max2))
  {x:AV} {xs:List AV} (he:args.toList.map (bX s.ρ)=x::xs) {v u:Value} {vs:List Value} (hx:x.gO=some v) (hxs:jk xs=some vs) (hf:l9 P op v vs=some u) {z:AV} (hz:pw u=some z):jD P L0 c0 n ds o s (s.set o.dst z):=by
 refine gr hd fun a c Lo lam f hn=>?_
 refine⟨u,?_,SR.of (nY hz)⟩
 have hne:∀q:Operand,∀k off,bX s.ρ q = .lp k off→q∉args.toList:=by
  intro q k off hq hm
  have H0:AV.lp k off∈x::xs:=by rw [←he,←hq]; exact aah.2 ⟨q,hm,rfl⟩
  rcases ZZ.1 H0 with h1 | h1
  ·exact lD hx k off h1.symm
  ·have:∀(ys:List AV) (us:List Value),jk ys=some us→AV.lp k off∉ys:=by
    intro ys
    induction ys with
    | nil=>intro us _ h; cases h
    | cons y ys ih=>
     intro us hu hm
     simp only [jk,ZC] at hu
     obtain⟨u1,h2,Zb,h3,_⟩:=hu
     rcases ZZ.1 hm with h4 | h4
     ·exact lD h2 k off h4.symm
     ·exact ih _ h3 h4
   exact this _ _ hxs h1
 have BN:=n5 f args.toList (fun q hq k off h=>hne q k off h hq)
 rw [he] at BN
 have lG:args.toList.map a.eval=v::vs:=qv (xs:=x::xs) (us:=v::vs) (by simp [jk,hx,hxs]) BN
 have hr:=rv vs v u c.w hf
 have hargs:args.map a.eval=(v::vs).toArray:=by rw [←lG]; apply abb; simp
 rcases hb with⟨rfl,rfl⟩| ⟨rfl,rfl⟩
 ·simp [execOp,ho,resolve,invoke,builtin,Builtin.min_,hargs,hr]
 ·simp [execOp,ho,resolve,invoke,builtin,Builtin.max_,hargs,hr]
end
end Go.R
namespace Go.R
open Go
section
variable {P:Program}{L0:Nat→Prop}{c0:Cx}{n:Nat}{ds:List Nat}{s:RS}
theorem Fr.FE {c:Cx}{Lo:Nat→Prop}{lam:Nat→Nat}{a:Act}(f:Fr L0 c Lo lam ds s a)(id:Nat) :
  Ext c Lo ⟨c.β,c.h.kill id,c.w,c.base⟩ Lo∧Fr L0 ⟨c.β,c.h.kill id,c.w,c.base⟩ Lo lam ds {s with h:=s.h.kill id} a∧(Live c.h id→RO ⟨c.β,c.h.kill id,c.w,c.base⟩ (un L0 Lo) (c.β id).1):=by
 have hg:∀i,(c.h.kill id).get i=if i=id then none else c.h.get i:=fun i=>by
  simp only [AHeap.kill,beq_nat]
  by_cases h:i=id<;>simp [h]
 have lU:∀i,Live (c.h.kill id) i→i≠id∧Live c.h i:=fun i hl=>by
  have h2:=hl.2
  rw [hg] at h2
  by_cases h:i=id
  ·rw [if_pos h] at h2; cases h2
  ·rw [if_neg h] at h2
   obtain⟨o,ho⟩:=aad.1 h2
   exact⟨h,f.rel.lt _ _ ho,h2⟩
 have e:Ext c Lo ⟨c.β,c.h.kill id,c.w,c.base⟩ Lo:=
  ⟨aaM _,fun i hi hl=>⟨(lU i hl).2,rfl,rfl⟩,ZI _,fun _ _ _ _=>.inl rfl,fun _ _=>rfl,rfl,fun i hl=>.inr ⟨i,(lU i hl).2,rfl⟩,fun _ h=>h,fun _ h=>.inl h,rfl,rfl,rfl⟩
 refine⟨e,⟨by rw [←f.h],⟨fun i o ho=>?_,fun i o ho=>?_,fun i j hi hj he=>?_,fun i hi=>?_,f.rel.bd,fun i hi=>?_,(Steady.kill c.h id).wf f.rel.ver⟩,fun t=>?_,fun k cs hb=>?_,f.inj,f.tidy,f.defers,f.Fj⟩,fun hl=>⟨fun i hi he=>?_,f.rel.out id hl⟩⟩
 ·replace ho:(c.h.kill id).get i=some o:=ho
  rw [hg] at ho
  by_cases h:i=id
  ·rw [if_pos h] at ho; cases ho
  ·rw [if_neg h] at ho; exact aaS (f.rel.lt _ _ ho)
 ·replace ho:(c.h.kill id).get i=some o:=ho
  rw [hg] at ho
  by_cases h:i=id
  ·rw [if_pos h] at ho; cases ho
  ·rw [if_neg h] at ho
   exact (f.rel.obj i o ho).ext e rfl
 ·exact f.rel.inj i j (lU i hi).2 (lU j hj).2 he
 ·exact f.rel.out i (lU i hi).2
 ·exact f.rel.low i (lU i hi).2
 ·exact (f.slot t).ext e (fun _ _ _=>⟨rfl,fun h=>h⟩)
 ·have hb2:=f.box k cs hb
  exact hb2.ext e (.inl rfl)
 ·obtain⟨h1,h2⟩:=lU i hi
  exact h1 (f.rel.inj i id h2 hl he)
theorem Iu {c:Cx}{Lo:Nat→Prop}{lam:Nat→Nat}{a:Act}(f:Fr L0 c Lo lam ds s a){x y:AV}{h':AHeap}(h:DU s.h x=some (y,h')) :
  Ext c Lo ⟨c.β,h',c.w,c.base⟩ Lo∧Fr L0 ⟨c.β,h',c.w,c.base⟩ Lo lam ds {s with h:=h'} a∧(∀v,VR c (un L0 Lo) x v→VR ⟨c.β,h',c.w,c.base⟩ (un L0 Lo) y v)∧∀i,Live h' i→Live c.h i:=by
 have same:Ext c Lo ⟨c.β,s.h,c.w,c.base⟩ Lo∧Fr L0 ⟨c.β,s.h,c.w,c.base⟩ Lo lam ds {s with h:=s.h} a∧(⟨c.β,s.h,c.w,c.base⟩:Cx)=c:=by
  have e:(⟨c.β,s.h,c.w,c.base⟩:Cx)=c:=by rw [←f.h]
  rw [e]; exact⟨Ext.refl _ _,f,rfl⟩
 unfold DU at h
 split at h
 ·simp only [ZE,ZL] at h
  obtain⟨rfl,rfl⟩:=h
  obtain⟨h1,h2,h3⟩:=same
  exact⟨h1,h2,fun v hv=>by rw [h3]; exact hv,fun i hi=>by rw [f.h]; exact hi⟩
 cases x with
 | rs id off len iR=>
  simp only at h
  split at h
  ·rename_i hid
   split at h
   rotate_left
   ·cases h
   rename_i hl0
   simp only [ZE,ZL] at h
   obtain⟨rfl,rfl⟩:=h
   obtain⟨h1,h2,h3⟩:=same
   refine⟨h1,h2,fun v hv=>?_,fun i hi=>by rw [f.h]; exact hi⟩
   simp only [VR] at hv ⊢
   rcases hv with⟨_,_,_,a,rfl⟩| hv
   ·exact⟨a,0,rfl,ZI _,fun _=>rfl,.inr ⟨trivial,rfl⟩,.inl trivial⟩
   ·exact absurd hid hv.1
  rename_i kI
  rw [ZC] at h
  obtain⟨ob,ho,h⟩:=h
  cases ob with
  | map es=>cases h
  | row t cs=>cases h
  | cells cs=>
  simp only at h
  split at h
  rotate_left
  ·cases h
  rename_i hle
  simp only [ZE,ZL] at h
  obtain⟨rfl,rfl⟩:=h
  rw [←f.h] at ho
  have hl:Live c.h id:=⟨f.rel.lt _ _ ho,by simp [ho]⟩
  obtain⟨e,f',JH⟩:=f.FE id
  have hb:(⟨c.β,s.h.kill id,c.w,c.base⟩:Cx)=⟨c.β,c.h.kill id,c.w,c.base⟩:=by rw [f.h]
  rw [hb]
  refine⟨e,f',fun v hv=>?_,fun i hi=>?_⟩
  ·simp only [VR] at hv ⊢
   rcases hv with hv | ⟨_,_,a,cap,rfl,h1,h2,h3⟩
   ·exact absurd hv.1 kI
   obtain⟨m,_,_,hc⟩:=f.rel.obj _ _ ho
   refine⟨a,cap,rfl,h1,by simp,.inl h2,?_⟩
   rcases h3 hl with⟨h4,_⟩| h4
   ·exact .inr ⟨_,_,h4,JH hl,by simp,Cells.move e _ _ _ _ _ (fun i hi=>rfl) ((hc.drop off).take (len*iR))⟩
   ·left
    have hz:len=0:=by omega
    subst hz
    simp
  ·have BM:=hi.2
   simp only [AHeap.kill,beq_nat] at BM
   by_cases h:i=id
   ·simp [h] at BM
   ·simp only [h,decide_false,cond_false] at BM
    rw [f.h]
    obtain⟨o,Mp⟩:=aad.1 BM
    have:=f.rel.lt i o (by rw [f.h]; exact Mp)
    rw [f.h] at this
    exact⟨this,BM⟩
 | _=>cases h
theorem B5:∀{cs:List AV} {c:Cx} {Lo:Nat→Prop} {lam:Nat→Nat} {a:Act} {s:RS} {ys:List AV} {h':AHeap},Fr L0 c Lo lam ds s a→wu s.h cs=some (ys,h')→
  Ext c Lo ⟨c.β,h',c.w,c.base⟩ Lo∧Fr L0 ⟨c.β,h',c.w,c.base⟩ Lo lam ds {s with h:=h'} a∧(∀b o,Cells c (un L0 Lo) cs b o→Cells ⟨c.β,h',c.w,c.base⟩ (un L0 Lo) ys b o)∧∀i,Live h' i→Live c.h i
 | [],c,Lo,lam,a,s,ys,h',f,h=>by
  cases h
  have e:(⟨c.β,s.h,c.w,c.base⟩:Cx)=c:=by rw [←f.h]
  rw [e]
  exact⟨Ext.refl _ _,f,fun _ _ h=>h,fun i hi=>by rw [f.h]; exact hi⟩
 | x::cs,c,Lo,lam,a,s,ys,h',f,h=>by
  simp only [wu,ZC,ZD] at h
  obtain⟨⟨y,h1⟩,hx,⟨zs,h2⟩,hz,he⟩:=h
  simp only [ZL] at he
  obtain⟨rfl,rfl⟩:=he
  obtain⟨e1,f1,v1,l1⟩:=Iu f hx
  obtain⟨e2,f2,v2,l2⟩:=B5 f1 hz
  refine⟨e1.trans e2,f2,fun b o hc=>?_,fun i hi=>l1 i (l2 i hi)⟩
  obtain⟨⟨v,q1,q2,q3⟩,hc⟩:=hc
  exact⟨⟨v,q1,q2,VR.ext e2 _ _ (v1 v q3)⟩,v2 _ _ (Cells.move e1 _ _ _ _ _ (fun i hi=>rfl) hc)⟩
theorem wN {c:Cx}{Lo:Nat→Prop}{lam:Nat→Nat}{a:Act}(f:Fr L0 c Lo lam ds s a){k:Nat}{x y:AV}{h':AHeap}(h:jC k s.h x=some (y,h')) :
  (∀k off,x≠.lp k off)∧(∀k off,y≠.lp k off)∧∃c',c'.w=c.w∧Ext c Lo c' Lo∧Fr L0 c' Lo lam ds {s with h:=h'} a∧∀v,VR c (un L0 Lo) x v→VR c' (un L0 Lo) y v:=by
 cases k with
 | zero=>
  cases x with
  | nils=>
   simp only [jC,ZE,ZL] at h
   obtain⟨rfl,rfl⟩:=h
   refine⟨by simp,by simp,c,rfl,Ext.refl _ _,f,fun v hv=>?_⟩
   simp only [VR] at hv ⊢
   exact⟨none,0,hv,ZI _,fun _=>rfl,.inr ⟨trivial,rfl⟩,.inl trivial⟩
  | fz cs m ex=>
   simp only [jC,ZE,ZL] at h
   obtain⟨rfl,rfl⟩:=h
   refine⟨by simp,by simp,c,rfl,Ext.refl _ _,f,fun v hv=>?_⟩
   simp only [VR] at hv ⊢
   obtain⟨a,cap,rfl,h1,h2,hs,hc⟩:=hv
   exact⟨a,cap,rfl,h1,by simp,hs,hc.imp id fun ⟨b,o,ha,hr,hex,hc⟩=>⟨b,o,ha,hr,by simp,hc⟩⟩
  | rs id off len iR=>
   simp only [jC] at h
   split at h
   ·rename_i hid
    split at h
    rotate_left
    ·cases h
    rename_i hl0
    simp only [ZE,ZL] at h
    obtain⟨rfl,rfl⟩:=h
    refine⟨by simp,by simp,c,rfl,Ext.refl _ _,f,fun v hv=>?_⟩
    simp only [VR] at hv ⊢
    rcases hv with⟨_,_,_,a,rfl⟩| hv
    ·exact⟨a,0,rfl,ZI _,fun _=>rfl,.inr ⟨trivial,rfl⟩,.inl trivial⟩
    ·exact absurd hid hv.1
   rename_i kI
   rw [ZC] at h
   obtain⟨ob,ho,h⟩:=h
   cases ob with
   | map es=>cases h
   | row t cs=>cases h
   | cells cs=>
   simp only at h
   split at h
   rotate_left
   ·cases h
   rename_i hle
   rw [ZD] at h
   obtain⟨⟨fU,h2⟩,hz,he⟩:=h
   simp only [ZL] at he
   obtain⟨rfl,rfl⟩:=he
   rw [←f.h] at ho
   have hl:Live c.h id:=⟨f.rel.lt _ _ ho,by simp [ho]⟩
   obtain⟨e,f',JH⟩:=f.FE id
   obtain⟨e2,f2,hcs,lU⟩:=B5 f' hz
   refine⟨by simp,by simp,⟨c.β,h2,c.w,c.base⟩,rfl,e.trans e2,f2,fun v hv=>?_⟩
   simp only [VR] at hv ⊢
   rcases hv with hv | ⟨_,_,a,cap,rfl,h1,h2,h3⟩
   ·exact absurd hv.1 kI
   obtain⟨m,_,_,hc⟩:=f.rel.obj _ _ ho
   refine⟨a,cap,rfl,h1,by simp,.inl h2,?_⟩
   rcases h3 hl with⟨h4,_⟩| h4
   ·exact .inr ⟨_,_,h4,⟨fun i hi=>(JH hl).1 i (lU i hi),(JH hl).2⟩,by simp,hcs _ _ (Cells.move e _ _ _ _ _ (fun i hi=>rfl) ((hc.drop off).take (len*iR)))⟩
   ·left
    have hz0:len=0:=by omega
    subst hz0
    simp [wu] at hz
    exact hz.1
  | _=>simp [jC] at h
 | succ k=>
  have key:(x = .nils∨x = .fz [] 0 true)→y = .rs 0 0 0 (k+1)→h'=s.h→(∀k off,x≠.lp k off)∧(∀k off,y≠.lp k off)∧∃c',c'.w=c.w∧Ext c Lo c' Lo∧Fr L0 c' Lo lam ds {s with h:=h'} a∧∀v,VR c (un L0 Lo) x v→VR c' (un L0 Lo) y v:=by
   rintro hx rfl rfl
   refine⟨by rcases hx with rfl | rfl<;>simp,by simp,c,rfl,Ext.refl _ _,f,fun v hv=>?_⟩
   rcases hx with rfl | rfl
   ·simp only [VR] at hv ⊢
    exact .inl ⟨trivial,trivial,trivial,none,hv⟩
   ·simp only [VR] at hv ⊢
    obtain⟨a,cap,rfl,h1,h2,hs,hc⟩:=hv
    have:=h2 trivial
    subst this
    exact .inl ⟨trivial,trivial,trivial,a,rfl⟩
  unfold jC at h
  simp only at h
  split at h
  ·simp only [ZE,ZL] at h
   exact key (.inl rfl) h.1.symm h.2.symm
  ·simp only [ZE,ZL] at h
   exact key (.inr rfl) h.1.symm h.2.symm
  ·simp only [ZE,ZL] at h
   obtain⟨rfl,rfl⟩:=h
   exact⟨by simp,by simp,c,rfl,Ext.refl _ _,f,fun v hv=>hv⟩
  ·cases h
end
end Go.R
namespace Go.R
open Go
def CallOK (P:Program)(cf:CallF):Prop:=
 ∀f args h r h',cf f args h=some (r,h')→
  (∀(vs:Array Value) (w:World),(callFunc f vs).run P w = .ok (.enter f vs) w)∧
  ∀(L0:Nat→Prop) (c:Cx) (vs:List Value),c.h=h→c.base≤c.w.heap.size→HRel c L0→VRs c L0 args vs→
   Calls P f vs.toArray c.w fun e w'=>∃c' v,e = .returned v∧c'.w=w'∧c'.h=h'∧VR c' L0 r v∧HRel c' L0∧Ext c none0 c' none0
section
variable {P:Program}{L0:Nat→Prop}{c0:Cx}{n:Nat}{ds:List Nat}{o:Oper}{s:RS}
theorem Fr.call {c c':Cx}{Lo:Nat→Prop}{lam:Nat→Nat}{a:Act}(f:Fr L0 c Lo lam ds s a)(hr:HRel c' (un L0 Lo))(e:Ext c none0 c' none0) :
  Ext c Lo c' Lo∧Fr L0 c' Lo lam ds {s with h:=c'.h} a:=by
 have rf:∀b,Lo b→b<c.w.heap.size:=fun b hb=>f.rel.bd b (.inr hb)
 have e':Ext c Lo c' Lo:=
  ⟨e.next,e.live,e.size,fun b h1 _ h3=>e.keep b h1 (fun h=>h.elim) h3,e.exact,e.base,e.Ig,fun _ h=>h,fun _ h=>.inl h,e.os,e.tape,e.output⟩
 refine⟨e',rfl,hr,fun t=>(f.slot t).ext e' (fun _ _ _=>⟨rfl,fun h=>h⟩),fun k cs hb=>?_,f.inj,f.tidy,f.defers,fun b hb=>by rw [e.base]; exact f.Fj b hb⟩
 have ob:=f.box k cs hb
 exact ob.ext e' (e.keep _ ob.plain.lt (fun h=>h.elim) fun id hl he=>f.rel.out id hl (he ▸ .inr ob.own))
theorem Iv {cf:CallF}(hcf:CallOK P cf)(hb0:c0.base≤c0.w.heap.size)(hd:gQ n ds o){fx:Operand}{args:Array Operand}{B4:Array TypeId}(ho:o.op = .call {callee:=.value fx,args:=args,argTypes:=B4}){AM:FuncId}{cap:List AV}
  (hf:bX s.ρ fx = .fn AM cap) (ha:(args.toList.map (bX s.ρ)).all AV.kM=true) {r:AV} {h':AHeap} (h:cf AM (args.toList.map (bX s.ρ)++cap) s.h=some (r,h')) {aI:List Nat} {y:AV} {h2:AHeap} (hy:wv aI o.dst (r,h')=some (y,h2)) :
  jD P L0 c0 n ds o s ({s with h:=h2}.set o.dst y):=by
 rintro a w K Q ⟨hn,c,Lo,lam,rfl,f,e0⟩ hK
 obtain⟨hin,hcall⟩:=hcf _ _ _ _ _ h
 have PX:=bP f fx
 rw [hf] at PX
 simp only [SR,VR] at PX
 obtain⟨cv,VZ,MT⟩:=PX
 have hargs:VRs c (un L0 Lo) (args.toList.map (bX s.ρ)) (args.toList.map a.eval):=by
  refine n5 f _ fun x hx=>tg ?_
  rw [ZX] at ha
  exact ha _ (aah.2 ⟨x,hx,rfl⟩)
 have lG:=VRs.append hargs MT
 unfold Oper.wp
 have:(execOp a.eval o).run P c.w = .ok (.enter AM (args.map a.eval++cv)) c.w:=by
  simp [execOp,ho,resolve,VZ,Deferred.ofValue,invoke,hin]
 rw [this,Oper.upon_enter]
 have hc:=hcall (un L0 Lo) c _ f.h (jz e0 hb0) f.rel lG
 have he:(args.toList.map a.eval++cv.toList).toArray=args.map a.eval++cv:=by
  apply abb; simp
 rw [he] at hc
 refine Calls.mono hc ?_
 rintro e w' ⟨c',v,rfl,rfl,hh,hv,hrel,Ks⟩
 obtain⟨e',f'⟩:=f.call hrel Ks
 rw [hh] at f'
 have fin:y=r→h2=h'→K (a.put o.dst v) c'.w:=by
  rintro rfl rfl
  exact hK _ _ ⟨(gP _ _ _).trans hn,c',Lo,lam,rfl,f'.set (SR.of hv) (fun t ht=>by rw [hn]; exact hd t ht),e0.trans e'⟩
 unfold wv at hy
 cases hm:MK aI o.dst with
 | false=>rw [hm,cond_false] at hy; cases hy; exact fin rfl rfl
 | true=>
  rw [hm,cond_true] at hy
  obtain⟨_,_,c2,hw,e2,f2,JG⟩:=wN (s:={s with h:=h'}) f' hy
  have Px:=JG v hv
  refine hK _ _ ⟨(gP _ _ _).trans hn,c2,Lo,lam,hw,f2.set (SR.of Px) (fun t ht=>by rw [hn]; exact hd t ht),(e0.trans e').trans e2⟩
theorem Option.map_some' {α β:Type}{x:Option α}{g:α→β}{y:β}(h:x.map g=some y):∃z,x=some z∧g z=y:=ZD.1 h
theorem vq {aI:List Nat}{cs:List AV}{s':RS}(h:iO s aI ds o cs=some s'):cs.all AV.cg=true:=by
 unfold iO at h
 split at h
 ·assumption
 ·cases h
theorem Kt {cf:CallF}(hcf:CallOK P cf)(hb0:c0.base≤c0.w.heap.size)(hd:gQ n ds o){aI:List Nat}{s':RS}(h:wz P cf aI ds s o=some s'):jD P L0 c0 n ds o s s':=by
 have eO:∀{x:Option AV},(x.map fun x=>s.set o.dst x)=some s'→(∀z,x=some z→jD P L0 c0 n ds o s (s.set o.dst z))→jD P L0 c0 n ds o s s':=by
  intro x hx hz
  obtain⟨z,rfl,rfl⟩:=Option.map_some' hx
  exact hz z rfl
 unfold wz Aw at h
 dsimp only at h
 split at h
 ·rename_i x ho; cases h; exact B3 hd (.inl ho)
 ·rename_i x ho; cases h; exact B3 hd (.inr ho)
 ·rename_i k x y ho
  obtain⟨t,ht,rfl⟩:=Option.map_some' h
  exact It hd ho ht
 ·
  rename_i t ho
  rw [ZC] at h
  obtain⟨z,hz,h⟩:=h
  refine vl hb0 hd t h fun a c Lo lam f hn=>?_
  have pq:=vq h
  obtain⟨v,h1,h2,h3⟩:=D0 (P:=P) (c:=c) hz (Im pq) (un L0 Lo)
  exact⟨v,by simp [execOp,ho,h1],BT h2,h3⟩
 ·
  rename_i t x ho
  refine vl hb0 hd t h fun a c Lo lam f hn=>?_
  have pq:(bX s.ρ x).cells.all AV.cg=true:=vq h
  obtain⟨h1,h2⟩:=jb pq ((bP f x).so pq)
  exact⟨a.eval x,by simp [execOp,ho,Instr.box,newVar,newRow],h1,h2⟩
 ·rename_i t ps ho
  refine eO h fun z hz=>gr hd fun a c Lo lam f hn=>?_
  obtain⟨z0,hz0,rfl⟩:=ZD.1 hz
  obtain⟨v,hr,hv⟩:=run_build (P:=P) (pB f ps.toList) hz0
  refine⟨v,?_,SR.of (Il hv)⟩
  have he:ps.map (fun (i,x)=>(i,a.eval x))=(ps.toList.map fun (i,x)=>(i,a.eval x)).toArray:=by
   apply abb; simp
  simp only [execOp,ho,Sem.run_bind]
  rw [he,hr]
  rfl
 ·rename_i t k ps ho
  rw [ZD] at h
  obtain⟨z,hz,rfl⟩:=h
  exact s8 hb0 hd ho aI hz
 ·
  rename_i t x ho
  refine eO h fun z hz=>gr hd fun a c Lo lam f hn=>?_
  obtain⟨r,hr,hv⟩:=sS (P:=P) f (t:=t) (bP f x) hz
  exact⟨r,by simp [execOp,ho,hr],SR.of hv⟩
 ·
  rename_i t x y ho
  split at h
  ·cases h
  rename_i rQ
  exact Fu hb0 hd ho (by simpa using rQ) h
 ·rename_i ho; exact eO h fun z hz=>yw hd ho hz
 ·rename_i ho; exact eO h fun z hz=>FD hd ho hz
 ·rename_i ho; exact eO h fun z hz=>Is hd ho hz
 ·rename_i ho; exact eO h fun z hz=>AK hb0 hd ho hz
 ·rename_i AM first cap ho
  split at h
  ·rename_i hh
   refine eO h fun z hz=>?_
   cases hz
   exact yx hd ho hh.1 hh.2
  ·cases h
 ·rename_i ho; cases h; exact AH hb0 hd ho
 ·rename_i ho; exact wG hb0 hd ho h
 ·
  rename_i t x lo hi mx ho
  refine eO h fun z hz=>gr hd fun a c Lo lam f hn=>?_
  have hs:∀(q:Option Operand) (y:AV),q.map (bX s.ρ)=some y→∃v,q.map a.eval=some v∧SR c L0 Lo lam s.bx y v:=by
   intro q y hq
   obtain⟨u,rfl,rfl⟩:=Option.map_some' hq
   exact⟨_,rfl,bP f u⟩
  have JN:∀(q:Option Operand),q.map (bX s.ρ)=none→q.map a.eval=none:=by
   intro q hq
   simpa using hq
  obtain⟨r,hr,hv⟩:=AE (P:=P) (bP f x) (hs lo) (JN lo) (hs hi) (JN hi) (hs mx) (JN mx) hz
  exact⟨r,by simp [execOp,ho,hr],SR.of hv⟩
 ·rename_i t x i ho
  refine eO h fun z hz=>gr hd fun a c Lo lam f hn=>?_
  obtain⟨r,hr,hv⟩:=yk (P:=P) (bP f x) hz
  exact⟨r,by simp [execOp,ho,hr],hv⟩
 ·rename_i t x i ho
  refine eO h fun z hz=>gr hd fun a c Lo lam f hn=>?_
  obtain⟨r,hr,hv⟩:=AB (P:=P) (bP f x) hz
  exact⟨r,by simp [execOp,ho,hr],SR.of hv⟩
 ·rename_i t x i ho
  refine eO h fun z hz=>gr hd fun a c Lo lam f hn=>?_
  obtain⟨r,hr,hv⟩:=yj (P:=P) (bP f x) (bP f i) hz
  exact⟨r,by simp [execOp,ho,hr],hv⟩
 ·rename_i t x i ho
  refine eO h fun z hz=>gr hd fun a c Lo lam f hn=>?_
  obtain⟨r,hr,hv⟩:=AD (P:=P) (bP f x) (bP f i) hz
  exact⟨r,by simp [execOp,ho,hr],SR.of hv⟩
 ·rename_i t m k ok ho
  refine eO h fun z hz=>gr hd fun a c Lo lam f hn=>?_
  obtain⟨r,hr,hv⟩:=yp (P:=P) f (bP f m) (bP f k) hz
  exact⟨r,by simp [execOp,ho,hr],SR.of hv⟩
 ·rename_i t m k x ho
  split at h
  ·cases h
  rename_i rQ
  obtain⟨h',hh,rfl⟩:=Option.map_some' h
  exact pD hb0 (.inl ho) (by simpa using rQ) hh
 ·rename_i t m k x ho
  split at h
  ·cases h
  rename_i rQ
  obtain⟨h',hh,rfl⟩:=Option.map_some' h
  exact pD hb0 (.inr ho) (by simpa using rQ) hh
 ·rename_i ho; exact eO h fun z hz=>AN hd ho hz
 ·
  rename_i b args B4 ho
  unfold gC at h
  split at h
  ·rename_i t x hts hargs
   have AO:B4 = #[t]:=by apply abb; simpa using hts
   obtain⟨q,hq,rfl⟩:∃q,args = #[q]∧bX s.ρ q=x:=by
    cases args with | mk l=>
    rcases l with _ | ⟨q,_ | ⟨q2,l⟩⟩<;>simp at hargs
    exact⟨q,rfl,hargs⟩
   subst AO hq
   refine eO h fun z hz=>gr hd fun a c Lo lam f hn=>?_
   obtain⟨r,hr,hv⟩:=Fq (P:=P) f #[t] rfl (bP f q) hz o.type
   exact⟨r,by simp [execOp,ho,resolve,invoke,builtin,hr],SR.of hv⟩
  ·rename_i t t2 x y hts hargs
   have AO:B4 = #[t,t2]:=by apply abb; simpa using hts
   obtain⟨q,q2,hq,rfl,rfl⟩:∃q q2,args = #[q,q2]∧bX s.ρ q=x∧bX s.ρ q2=y:=by
    cases args with | mk l=>
    rcases l with _ | ⟨q,_ | ⟨q2,_ | ⟨q3,l⟩⟩⟩<;>simp at hargs
    exact⟨q,q2,rfl,hargs.1,hargs.2⟩
   subst AO hq
   exact D1 hb0 hd ho h
  ·rename_i t t2 x y hts hargs
   have AO:B4 = #[t,t2]:=by apply abb; simpa using hts
   obtain⟨q,q2,hq,rfl,rfl⟩:∃q q2,args = #[q,q2]∧bX s.ρ q=x∧bX s.ρ q2=y:=by
    cases args with | mk l=>
    rcases l with _ | ⟨q,_ | ⟨q2,_ | ⟨q3,l⟩⟩⟩<;>simp at hargs
    exact⟨q,q2,rfl,hargs.1,hargs.2⟩
   subst AO hq
   obtain⟨⟨z,h'⟩,hh,rfl⟩:=Option.map_some' h
   exact Iq hb0 hd ho hh
  ·rename_i t x hts hargs
   have AO:B4 = #[t]:=by apply abb; simpa using hts
   obtain⟨q,hq,rfl⟩:∃q,args = #[q]∧bX s.ρ q=x:=by
    cases args with | mk l=>
    rcases l with _ | ⟨q,_ | ⟨q2,l⟩⟩<;>simp at hargs
    exact⟨q,rfl,hargs⟩
   subst AO hq
   obtain⟨h',hh,rfl⟩:=Option.map_some' h
   exact FA hb0 hd ho hh
  ·rename_i x xs hargs
   rw [ZC] at h
   obtain⟨v,hv,h⟩:=h
   rw [ZC] at h
   obtain⟨vs,E3,h⟩:=h
   rw [ZC] at h
   obtain⟨u,hu,h⟩:=h
   exact eO h fun z hz=>vp hd ho (.inl ⟨rfl,rfl⟩) hargs hv E3 hu hz
  ·rename_i x xs hargs
   rw [ZC] at h
   obtain⟨v,hv,h⟩:=h
   rw [ZC] at h
   obtain⟨vs,E3,h⟩:=h
   rw [ZC] at h
   obtain⟨u,hu,h⟩:=h
   exact eO h fun z hz=>vp hd ho (.inr ⟨rfl,rfl⟩) hargs hv E3 hu hz
  ·cases h
 ·
  rename_i fx args B4 ho
  split at h
  ·rename_i AM cap heq
   split at h
   ·rename_i ha
    obtain⟨⟨r,h'⟩,hh,rfl⟩:=Option.map_some' h
    rw [ZC] at hh
    obtain⟨⟨r0,h0⟩,hh,hm⟩:=hh
    exact Iv hcf hb0 hd ho heq ha hh hm
   ·cases h
  ·cases h
 ·cases h
end
end Go.R
namespace Go.R
open Go
section
variable {P:Program}{L0:Nat→Prop}{c0:Cx}{n:Nat}{ds:List Nat}{s:RS}
theorem qC {h:AHeap}:∀{cs:List AV},dq cs=true→wu h cs=some (cs,h)
 | [],_=>rfl
 | x::cs,hn=>by
  simp only [dq,ZF] at hn
  simp only [wu,DU,hn.1,if_true,ZB,qC hn.2,ZJ]
theorem yy {h h':AHeap}{x y:AV}(hz:DU h x=some (y,h')):Steady h h':=by
 unfold DU at hz
 split at hz
 ·cases hz; exact Steady.refl _
 split at hz
 ·split at hz
  ·split at hz
   ·cases hz; exact Steady.refl _
   ·cases hz
  rw [ZC] at hz
  obtain⟨o,_,hz⟩:=hz
  split at hz
  ·split at hz
   ·cases hz; exact Steady.kill _ _
   ·cases hz
  ·cases hz
 ·cases hz
theorem rz:∀{cs ys:List AV} {h h':AHeap},wu h cs=some (ys,h')→Steady h h'
 | [],ys,h,h',hz=>by cases hz; exact Steady.refl _
 | x::cs,ys,h,h',hz=>by
  simp only [wu,ZC,ZD] at hz
  obtain⟨⟨y,h1⟩,hx,⟨zs,h2⟩,hz,he⟩:=hz
  simp only [ZL] at he
  obtain⟨rfl,rfl⟩:=he
  exact (yy hx).trans (rz hz)
theorem Inv.wC {a:Act}{w:World}{p:Nat × Option Nat × Nat}{s':RS}(hi:Inv L0 c0 n ds s a w)(h:wC s p=some s'):Inv L0 c0 n ds s' a w:=by
 obtain⟨hn,c,Lo,lam,rfl,f,e⟩:=hi
 unfold Go.R.wC at h
 split at h
 ·rw [ZD] at h
  obtain⟨⟨y,h'⟩,hz,rfl⟩:=h
  obtain⟨hx,hy,c',hw,e',f',hv⟩:=wN f hz
  refine⟨hn,c',Lo,lam,hw,⟨f'.h,f'.rel,fun t=>?_,f'.box,f'.inj,fun t k off ht he=>?_,f'.defers,f'.Fj⟩,e.trans e'⟩
  ·simp only [beq_nat]
   by_cases ht:t=p.1
   ·subst ht
    simp only [decide_true,cond_true]
    exact SR.of (hv _ ((f.slot _).vr hx))
   ·simp only [ht,decide_false,cond_false]
    exact f'.slot t
  ·simp only [beq_nat] at he
   by_cases TS:t=p.1
   ·simp only [TS,decide_true,cond_true] at he
    exact absurd he (hy _ _)
   ·simp only [TS,decide_false,cond_false] at he
    exact f'.tidy t k off ht he
 ·rename_i i hp
  split at h
  rotate_left
  ·cases h
  rename_i cs hcs
  simp only [ZC,ZD] at h
  obtain⟨x,hx,⟨y,h'⟩,hz,rfl⟩:=h
  obtain⟨hx1,hy,c',hw,e',f',hv⟩:=wN f hz
  have rq:∀k,(bif aaj k p.1 then some (cs.set i y) else s.bx k).isSome=(s.bx k).isSome:=fun k=>by
   simp only [beq_nat]
   by_cases hk:k=p.1
   ·subst hk; simp [hcs]
   ·simp [hk]
  refine⟨hn,c',Lo,lam,hw,⟨f'.h,f'.rel,fun t=>?_,fun k fU hb=>?_,fun k k' h1 h2=>f'.inj k k' (by rw [←rq]; exact h1) (by rw [←rq]; exact h2),f'.tidy,f'.defers,f'.Fj⟩,e.trans e'⟩
  ·have:=f'.slot t
   unfold SR at this ⊢
   split
   ·rename_i k off he
    rw [he] at this
    simp only at this
    exact⟨this.1,by rw [rq]; exact this.2⟩
   ·rename_i x' Ir
    split at this
    ·rename_i he; exact absurd he (Ir _ _)
    ·exact this
  ·simp only [beq_nat] at hb
   by_cases hk:k=p.1
   ·subst hk
    simp only [decide_true,cond_true,ZE] at hb
    subst hb
    have ob:=f.box _ cs hcs
    have PY:=f'.box _ cs hcs
    refine⟨PY.own,by rw [ZO]; exact PY.plain,?_⟩
    obtain⟨vs,q1,q2,q3⟩:=ob.cells.vals
    obtain⟨V0,r1,r2,r3⟩:=PY.cells.vals
    have hlen:vs=V0:=by
     apply aaL
     intro j
     by_cases hj:j<cs.length
     ·rw [←q2 j hj,←r2 j hj,hw]
     ·rw [Z5 (by rw [←q1.length]; omega),Z5 (by rw [←r1.length]; omega)]
    subst hlen
    obtain⟨u,hu,hr⟩:=VRs.get q1 i x hx
    have FC:VRs c' (un L0 Lo) (cs.set i y) vs:=by
     have:=VRs.set (hv u hr) i r1
     have Mm:vs.set i u=vs:=by
      apply aaL
      intro j
      rw [aa4]
      by_cases hji:i=j
      ·subst hji
       rw [if_pos rfl,hu]
       have:=(ZH.1 hu).1
       simp [this]
      ·rw [if_neg hji]
     rwa [Mm] at this
    exact Cells.of_vals FC (fun j hj=>by rw [r2 j (by rw [r1.length]; exact hj)]) r3
   ·simp only [hk,decide_false,cond_false] at hb
    exact f'.box k fU hb
theorem Inv.ly {a:Act}{w:World}:∀{l:List (Nat × Option Nat × Nat)} {s s':RS},Inv L0 c0 n ds s a w→ly s l=some s'→Inv L0 c0 n ds s' a w
 | [],s,s',hi,h=>by cases h; exact hi
 | p::ps,s,s',hi,h=>by
  simp only [Go.R.ly,ZC] at h
  obtain⟨s1,h1,h2⟩:=h
  exact Inv.ly (hi.wC h1) h2
theorem Iw {A:b9}{r:Nat}{s:RS}:(s.nk A r).h=s.h:=by
 unfold RS.nk
 split<;>rfl
theorem nr {k:Nat}{h h':AHeap}{x y:AV}(hz:jC k h x=some (y,h')):Steady h h':=by
 unfold jC at hz
 split at hz
 ·split at hz
  ·cases hz; exact Steady.refl _
  ·split at hz
   ·split at hz
    ·cases hz; exact Steady.refl _
    ·cases hz
   rw [ZC] at hz
   obtain⟨o,_,hz⟩:=hz
   split at hz
   ·split at hz
    ·rw [ZD] at hz
     obtain⟨⟨fU,h2⟩,hz,he⟩:=hz
     simp only [ZL] at he
     obtain⟨rfl,rfl⟩:=he
     exact (Steady.kill _ _).trans (rz hz)
    ·cases hz
   ·cases hz
  ·cases hz; exact Steady.refl _
  ·cases hz
 ·split at hz<;>cases hz<;>exact Steady.refl _
theorem yz {s s':RS}{p:Nat × Option Nat × Nat}(hz:wC s p=some s'):Steady s.h s'.h:=by
 unfold wC at hz
 split at hz
 ·rw [ZD] at hz
  obtain⟨⟨y,h'⟩,hz,rfl⟩:=hz
  exact nr hz
 ·split at hz
  ·simp only [ZC,ZD] at hz
   obtain⟨x,hx,⟨y,h'⟩,hz,rfl⟩:=hz
   exact nr hz
  ·cases hz
theorem nt:∀{l:List (Nat × Option Nat × Nat)} {s s':RS},ly s l=some s'→Steady s.h s'.h
 | [],s,s',h=>by cases h; exact Steady.refl _
 | p::ps,s,s',h=>by
  simp only [ly,ZC] at h
  obtain⟨s1,h1,h2⟩:=h
  exact (yz h1).trans (nt h2)
end
end Go.R
namespace Go.R
open Go
section
variable {P:Program}{L0:Nat→Prop}{c0:Cx}{n:Nat}{ds:List Nat}{o:Oper}{s:RS}
theorem D4 {ops:Array Oper}{c:Cx}{Lo:Nat→Prop}{lam:Nat→Nat}{a:Act}(f:Fr L0 c Lo lam ds s a){b:Bool}(h:ik ops.toList s.ρ o=some b):Region.wanted o (yielded ops a.tmps)=b:=by
 unfold ik at h
 unfold Region.wanted
 split at h
 ·rename_i hg; rw [hg]; cases h; rfl
 ·rename_i j want hg
  rw [hg]
  rw [ZC] at h
  obtain⟨d,hd,h⟩:=h
  have H2:(ops[j]?).bind (·.dst)=some d:=by simpa using hd
  have hs:=f.slot d
  simp only [yielded,H2,ZB]
  rw [Array.getD_eq_getD_getElem?] at hs
  split at h
  ·rename_i b' hb
   cases h
   rw [hb] at hs
   simp only [SR,VR] at hs
   cases hq:a.tmps[d]? with
   | none=>rw [hq] at hs; simp [undef] at hs
   | some v=>
    rw [hq] at hs
    simp only [aaA] at hs
    subst hs
    cases b'<;>cases want<;>rfl
  ·rename_i hb
   cases h
   rw [hb] at hs
   simp only [SR,VR] at hs
   obtain⟨vs,hv,_⟩:=hs
   cases hq:a.tmps[d]? with
   | none=>rfl
   | some v=>
    rw [hq] at hv
    simp only [aaA] at hv
    subst hv
    rfl
  ·cases h
theorem yA {cf:CallF}(hcf:CallOK P cf)(hb0:c0.base≤c0.w.heap.size){ops:Array Oper}(Ku:ds=ops.toList.filterMap (·.dst))(hd:gQ n ds o){aI:List Nat}{s':RS}(h:nj P cf aI ops.toList s o=some s')
  {a:Act} {w:World} {K:Act→World→Prop} {Q:Exit→Act→World→Prop} (hi:Inv L0 c0 n ds s a w) (hK:∀a' w',Inv L0 c0 n ds s' a' w'→K a' w') :
  if Region.wanted o (yielded ops a.tmps) then o.wp P a w K Q else K (a.put o.dst undef) w:=by
 unfold nj at h
 rw [ZC] at h
 obtain⟨b,hb,h⟩:=h
 have V1:=hi
 obtain⟨hn,c,Lo,lam,rfl,f,e⟩:=hi
 rw [D4 f hb]
 cases b with
 | true=>
  simp only [if_true] at h ⊢
  rw [←Ku] at h
  exact Kt hcf hb0 hd h a c.w K Q V1 hK
 | false=>
  simp only [ZN,if_false,ZE] at h ⊢
  subst h
  exact hK _ _ ⟨(gP _ _ _).trans hn,c,Lo,lam,rfl,f.set (SR.of (by simp [VR,undef,VRs])) (fun t ht=>by rw [hn]; exact hd t ht),e⟩
def vt (n:Nat)(ops:List Oper):Bool:=ops.all fun o=>match o.dst with | some t=>Nat.blt t n | none=>true
theorem yB {ops:List Oper}(h:vt n ops=true){o:Oper}(ho:o∈ops):gQ n (ops.filterMap (·.dst)) o:=by
 intro t ht
 unfold vt at h
 rw [ZX] at h
 have:=h o ho
 rw [ht] at this
 exact⟨Nat.blt_eq.mp this,List.mem_filterMap.2 ⟨o,ho,ht⟩⟩
theorem B6 {cf:CallF}(hcf:CallOK P cf)(hb0:c0.base≤c0.w.heap.size){ops:Array Oper}(Ku:ds=ops.toList.filterMap (·.dst))(HY:vt n ops.toList=true){aI:List Nat}{Q:Exit→Act→World→Prop}{s':RS}(hQ:∀a' w',Inv L0 c0 n ds s' a' w'→Q .normal a' w') :
  ∀(l:List Oper) (s:RS),(∀o∈l,o∈ops.toList)→rO P cf aI ops.toList s l=some s'→∀a w,Inv L0 c0 n ds s a w→wpList P ops Q l a w
 | [],s,_,h,a,w,hi=>by
  simp only [rO,ZE] at h
  subst h
  exact wpList_nil (hQ a w hi)
 | o::l,s,hl,h,a,w,hi=>by
  simp only [rO,ZC] at h
  obtain⟨s1,h1,h2⟩:=h
  refine wpList_step fun K hK=>?_
  exact yA hcf hb0 Ku (by rw [Ku]; exact yB HY (hl o (by simp))) h1 hi fun a' w' jY=>hK a' w' (B6 hcf hb0 Ku HY hQ l s1 (fun o ho=>hl o (by simp [ho])) h2 a' w' jY)
theorem je {α:Type}(d:α):∀(ks:List Nat) (g:Nat→α) (t:Nat),look d ks (ks.map g) t=if t∈ks then g t else d
 | [],g,t=>rfl
 | k::ks,g,t=>by
  simp only [Z0,look,beq_nat,je d ks g t,ZZ]
  by_cases h:t=k
  ·subst h; simp
  ·simp [h]
theorem Fr.forget {c:Cx}{Lo:Nat→Prop}{lam:Nat→Nat}{a:Act}(f:Fr L0 c Lo lam ds s a){s2:RS}(hh:s2.h=s.h)(hb:∀k cs,s2.bx k=some cs→s.bx k=some cs)
  (hr:∀t,s2.ρ t = .any∨s2.ρ t=s.ρ t∧∀k off,s.ρ t = .lp k off→k=t∧((s.bx k).isSome=true→(s2.bx k).isSome=true)):Fr L0 c Lo lam [] s2 a:=by
 refine⟨f.h.trans hh.symm,f.rel,fun t=>?_,fun k cs h=>f.box k cs (hb k cs h),fun k k' h h'=>f.inj k k' ?_ ?_,fun t k off _ he=>?_,f.defers,f.Fj⟩
 ·rcases hr t with h | ⟨h,h2⟩
  ·rw [h]; exact SR.of (by simp [VR])
  ·rw [h]
   have hs:=f.slot t
   cases hx:s.ρ t<;>rw [hx] at hs<;>try exact hs
   rename_i k off
   simp only [SR] at hs ⊢
   exact⟨hs.1,(h2 k off hx).2 hs.2⟩
 ·obtain⟨cs,hcs⟩:=aad.1 h; rw [hb k cs hcs]; rfl
 ·obtain⟨cs,hcs⟩:=aad.1 h'; rw [hb k' cs hcs]; rfl
 ·rcases hr t with h | ⟨h,h2⟩
  ·rw [h] at he; cases he
  ·exact (h2 k off (h ▸ he)).1
theorem Inv.shut {a:Act}{w:World}(A:b9)(h:Inv L0 c0 n ds s a w):Inv L0 c0 n [] ((s.shut A).open A) a w:=by
 obtain⟨hn,c,Lo,lam,rfl,f,e⟩:=h
 refine⟨hn,c,Lo,lam,rfl,f.forget rfl (fun k cs hk=>?_) (fun t=>?_),e⟩
 ·simp only [RS.shut,St.open,je] at hk
  split at hk
  ·exact hk
  ·cases hk
 ·simp only [RS.shut,St.open,je]
  split
  ·unfold yg
   cases hx:s.ρ t<;>simp only<;>try (right; exact⟨trivial,fun k off he=>by cases he⟩)
   rename_i k off
   cases hc:(aaj k t&&aaj off 0&&A.aI.contains k) with
   | false=>left; rfl
   | true=>
    right
    simp only [ZF,beq_nat,decide_eq_true_eq,List.contains_iff_mem] at hc
    refine⟨rfl,fun k' V3 he=>?_⟩
    cases he
    refine⟨hc.1.1,fun hs=>?_⟩
    rw [if_pos hc.2]
    exact hs
  ·left; rfl
theorem Inv.nk {a:Act}{w:World}(A:b9)(r:Nat)(h:Inv L0 c0 n ds s a w):Inv L0 c0 n [] ((s.nk A r).open A) a w:=by
 unfold RS.nk
 split
 ·exact h.shut A
 rename_i dl _
 have h2:=h.shut A
 obtain⟨hn,c,Lo,lam,hw,f,e⟩:=h2
 have MS:∀k,(St.open A {vars:=A.keep.map (fun t=>bif (gG r A.dead).contains t then .any else yg A.aI s.ρ t),Mk:=A.aI.map (fun k=>bif (gG r A.dead).contains k then none else s.bx k),h:=s.h}).bx k=bif (gG r A.dead).contains k then none else (St.open A (s.shut A)).bx k:=by
  intro k
  simp only [RS.shut,St.open,je]
  cases (gG r A.dead).contains k<;>simp
 refine⟨hn,c,Lo,lam,hw,f.forget rfl (fun k cs hk=>?_) (fun t=>?_),e⟩
 ·rw [MS] at hk
  cases hc:(gG r A.dead).contains k with
  | true=>rw [hc] at hk; cases hk
  | false=>rw [hc] at hk; exact hk
 ·have hv:(St.open A {vars:=A.keep.map (fun t=>bif (gG r A.dead).contains t then .any else yg A.aI s.ρ t),Mk:=A.aI.map (fun k=>bif (gG r A.dead).contains k then none else s.bx k),h:=s.h}).ρ t=bif (gG r A.dead).contains t then .any else (St.open A (s.shut A)).ρ t:=by
   simp only [RS.shut,St.open,je]
   cases (gG r A.dead).contains t<;>simp
  rw [hv]
  cases hc:(gG r A.dead).contains t with
  | true=>left; rfl
  | false=>
   right
   refine⟨rfl,fun k off he=>?_⟩
   have Ip:k=t:=f.tidy t k off (by simp) he
   refine⟨Ip,fun hs=>?_⟩
   rw [MS,Ip,hc]
   rw [Ip] at hs
   exact hs
theorem Inv.wide {a:Act}{w:World}(h:Inv L0 c0 n [] s a w)(ds:List Nat):Inv L0 c0 n ds s a w:=by
 obtain⟨hn,c,Lo,lam,rfl,f,e⟩:=h
 exact⟨hn,c,Lo,lam,rfl,⟨f.h,f.rel,f.slot,f.box,f.inj,fun t k off _ he=>f.tidy t k off (by simp) he,f.defers,f.Fj⟩,e⟩
theorem Inv.drew {a:Act}{w:World}(h:Inv L0 c0 n ds s a w):Inv L0 c0 n ds s a {w with drawn:=w.drawn+1}:=by
 obtain⟨hn,c,Lo,lam,rfl,f,e⟩:=h
 obtain⟨e',f'⟩:=f.world (w':={c.w with drawn:=c.w.drawn+1}) (fun b _=>.inl rfl) (fun _ _=>rfl) (fun b _=>rfl) (ZI _) rfl rfl rfl
 exact⟨hn,_,Lo,lam,rfl,f',e.trans e'⟩
def nu (P:Program)(c:Code)(Q:Exit→Act→World→Prop)(a:Act)(w:World):Prop:=
 ∀(b:Frame) (k:List Item) (cs:List Frame),∃e a' w',Q e a' w'∧Arrives P (lone (b.at a (.code c :: .inLoop c::k)) cs w) b k cs e a' w'
theorem nu.step {c:Code}{Q:Exit→Act→World→Prop}{a:Act}{w:World}(h:c.wp P (Exit.then (nu P c Q) Q) a w):nu P c Q a w:=by
 intro b k cs
 obtain⟨e,a₁,w₁,hq,yC⟩:=h b (.inLoop c::k) cs
 cases e with
 | normal=>
  obtain⟨e₂,a₂,w₂,V4,Na⟩:=hq b k cs
  exact⟨e₂,a₂,w₂,V4,.of_steps (Steps.trans yC (.one step_inLoop)) Na⟩
 | exit id=>exact⟨_,a₁,w₁,hq,.pass (x:=.inLoop c) rfl (fun _ _=>.inl (by simp)) yC⟩
 | goto l=>exact⟨_,a₁,w₁,hq,.pass (x:=.inLoop c) rfl (fun _ _=>.inl (by simp)) yC⟩
 | ret=>exact⟨_,a₁,w₁,hq,.pass (x:=.inLoop c) rfl (fun _ _=>.inl (by simp)) yC⟩
 | panic ch=>exact⟨_,a₁,w₁,hq,.pass (x:=.inLoop c) rfl (fun _ _=>.inl (by simp)) yC⟩
 | outgrown=>exact⟨_,a₁,w₁,hq,.pass (x:=.inLoop c) rfl (fun _ _=>.inl (by simp)) yC⟩
theorem nu.loop {c:Code}{Q:Exit→Act→World→Prop}{a:Act}{w:World}(h:nu P c Q a w):(Code.loop c).wp P Q a w:=by
 intro b k cs
 obtain⟨e,a',w',hq,yC⟩:=h b k cs
 exact⟨e,a',w',hq,.of_steps (.one step_loop) yC⟩
def Ex.JO:Ex→Exit
 | .norm=>.normal
 | .exit id=>.exit id
 | .ret=>.ret
def kT (n:Nat):Code→Bool
 | .region _ ops _=>vt n ops.toList
 | .seq a b=>kT n a&&kT n b
 | .cond _ x y=>kT n x&&kT n y
 | .block _ c=>kT n c
 | .loop c=>kT n c
 | _=>true
def AP (P:Program)(cf:CallF):Prop:=
 ∀(L0:Nat→Prop) (c0:Cx) (n:Nat) (aI:List Nat) (id:Nat) (ops:Array Oper) (s s':RS),ki P cf aI ops s=some s'→c0.base≤c0.w.heap.size→vt n ops.toList=true→
  ∀a w Q,Inv L0 c0 n (ops.toList.filterMap (·.dst)) s a w→(∀a' w',Inv L0 c0 n (ops.toList.filterMap (·.dst)) s' a' w'→Q .normal a' w')→(Code.region id ops true).wp P Q a w
theorem kr {cf:CallF}(hcf:CallOK P cf)(D5:AP P cf)(hb0:c0.base≤c0.w.heap.size){A:b9}{m:Nat}:∀(c:Code),kT n c=true→∀(st jV:St) (ex:Ex),bV P cf A m c st=some (ex,jV)→
  ∀a w Q,Inv L0 c0 n [] (st.open A) a w→(∀a' w',Inv L0 c0 n [] (jV.open A) a' w'→Q ex.JO a' w')→c.wp P Q a w
 | .skip,_,st,jV,ex,h,a,w,Q,hi,hQ=>by
  simp only [bV,ZE,ZL] at h
  obtain⟨rfl,rfl⟩:=h
  exact wp_skip (hQ a w hi)
 | .label _,_,st,jV,ex,h,a,w,Q,hi,hQ=>by
  simp only [bV,ZE,ZL] at h
  obtain⟨rfl,rfl⟩:=h
  exact wp_label (hQ a w hi)
 | .ret,_,st,jV,ex,h,a,w,Q,hi,hQ=>by
  simp only [bV,ZE,ZL] at h
  obtain⟨rfl,rfl⟩:=h
  exact wp_ret (hQ a w hi)
 | .exit id,_,st,jV,ex,h,a,w,Q,hi,hQ=>by
  simp only [bV,ZE,ZL] at h
  obtain⟨rfl,rfl⟩:=h
  exact wp_exit (hQ a w hi)
 | .seq x y,hB,st,jV,ex,h,a,w,Q,hi,hQ=>by
  simp only [kT,ZF] at hB
  simp only [bV,ZC] at h
  obtain⟨⟨JP,k8⟩,h1,h2⟩:=h
  refine wp_seq (kr hcf D5 hb0 x hB.1 st k8 JP h1 a w _ hi fun a' w' jY=>?_)
  cases JP with
  | norm=>exact kr hcf D5 hb0 y hB.2 k8 jV ex h2 a' w' Q jY hQ
  | exit id=>
   simp only [ZE,ZL] at h2
   obtain⟨rfl,rfl⟩:=h2
   exact hQ a' w' jY
  | ret=>
   simp only [ZE,ZL] at h2
   obtain⟨rfl,rfl⟩:=h2
   exact hQ a' w' jY
 | .cond k x y,hB,st,jV,ex,h,a,w,Q,hi,hQ=>by
  simp only [kT,ZF] at hB
  simp only [bV,ZC] at h
  obtain⟨t,ht,h⟩:=h
  have hk:a.eval k = .bool t:=by
   obtain⟨hn,c,Lo,lam,rfl,f,e⟩:=hi
   have hk:=bP f k
   unfold sN at ht
   split at ht
   ·rename_i b hb
    cases ht
    rw [hb] at hk
    simpa [SR,VR] using hk
   ·cases ht
  refine wp_cond hk ?_
  cases t with
  | true=>exact kr hcf D5 hb0 x hB.1 st jV ex (by simpa using h) a w Q hi hQ
  | false=>exact kr hcf D5 hb0 y hB.2 st jV ex (by simpa using h) a w Q hi hQ
 | .block id x,hB,st,jV,ex,h,a,w,Q,hi,hQ=>by
  simp only [kT] at hB
  simp only [bV,ZD] at h
  obtain⟨⟨JP,k8⟩,h1,h2⟩:=h
  refine wp_block (kr hcf D5 hb0 x hB st k8 JP h1 a w _ hi fun a' w' jY=>?_)
  cases JP with
  | norm=>
   simp only [ZL] at h2
   obtain⟨rfl,rfl⟩:=h2
   exact hQ a' w' jY
  | exit kY=>
   simp only [ZL] at h2
   obtain⟨rfl,rfl⟩:=h2
   have:=hQ a' w' jY
   simp only [Ex.JO,Exit.inBlock]
   split
   ·rename_i he; rw [if_pos he] at this; exact this
   ·rename_i he; rw [if_neg he] at this; exact this
  | ret=>
   simp only [ZL] at h2
   obtain⟨rfl,rfl⟩:=h2
   exact hQ a' w' jY
 | .loop x,hB,st,jV,ex,h,a,w,Q,hi,hQ=>by
  simp only [kT] at hB
  simp only [bV] at h
  have key:∀(j:Nat) (st:St),lz (bV P cf A m x) j st=some (ex,jV)→∀a w,Inv L0 c0 n [] (st.open A) a w→nu P x Q a w:=by
   intro j
   induction j with
   | zero=>intro st h; simp [lz] at h
   | succ j ih=>
    intro st h a w hi
    simp only [lz,ZC] at h
    obtain⟨⟨JP,k8⟩,h1,h2⟩:=h
    refine nu.step (kr hcf D5 hb0 x hB st k8 JP h1 a w _ hi fun a' w' jY=>?_)
    cases JP with
    | norm=>exact ih k8 h2 a' w' jY
    | exit id=>
     simp only [ZE,ZL] at h2
     obtain⟨rfl,rfl⟩:=h2
     exact hQ a' w' jY
    | ret=>
     simp only [ZE,ZL] at h2
     obtain⟨rfl,rfl⟩:=h2
     exact hQ a' w' jY
  exact nu.loop (key m st h a w hi)
 | .region id ops draw,hB,st,jV,ex,h,a,w,Q,hi,hQ=>by
  simp only [kT] at hB
  simp only [bV,ZC,ZD,ZL] at h
  obtain⟨s0,h0,s',h1,s2,h2,rfl,rfl⟩:=h
  replace hi:=hi.ly h0
  cases draw with
  | true=>
   simp only [if_true] at h1
   exact D5 L0 c0 n A.aI id ops _ s' h1 hb0 hB a w Q (hi.wide _) fun a' w' jY=>hQ a' w' ((jY.ly h2).nk A id)
  | false=>
   simp only [ZN,if_false] at h1
   exact wp_region_list (B6 hcf hb0 rfl hB (fun a' w' jY=>hQ a' w' ((jY.ly h2).nk A id)) ops.toList _ (fun _ h=>h) h1 a w (hi.wide _))
 | .rangeFunc ..,_,st,jV,ex,h,_,_,_,_,_=>by simp [bV] at h
 | .scope ..,_,st,jV,ex,h,_,_,_,_,_=>by simp [bV] at h
 | .goto ..,_,st,jV,ex,h,_,_,_,_,_=>by simp [bV] at h
 | .refuse ..,_,st,jV,ex,h,_,_,_,_,_=>by simp [bV] at h
theorem wO {c:Cx}{Lo:Nat→Prop}{lam:Nat→Nat}{a:Act}(f:Fr L0 c Lo lam ds s a):∀(rs:List ResultVar) (l:List AV),Ay P s rs=some l→l.all AV.kM=true→
  ∃vs:List Value,(rs.mapM (m:=Sem) fun | .tmp t=>pure (a.tmps.getD t undef) | .cell x t=>do loadVar t (←asAddr (a.tmps.getD x undef))).run P c.w = .ok vs c.w∧VRs c (un L0 Lo) l vs
 | [],l,h,_=>by
  simp only [Ay,ZE] at h
  subst h
  exact⟨[],rfl,trivial⟩
 | .tmp t::rs,l,h,hl=>by
  simp only [Ay,ZD] at h
  obtain⟨l',h1,rfl⟩:=h
  simp only [aao,ZF] at hl
  obtain⟨vs,h2,h3⟩:=wO f rs l' h1 hl.2
  refine⟨a.tmps.getD t undef::vs,?_,(f.slot t).vr (tg hl.1),h3⟩
  simp only [List.mapM_cons,Sem.run_bind,Sem.run_pure,Result.andThen_ok,h2]
 | .cell x t::rs,l,h,hl=>by
  simp only [Ay,ZC,ZD] at h
  obtain⟨y,hy,l',h1,rfl⟩:=h
  simp only [aao,ZF] at hl
  obtain⟨vs,h2,h3⟩:=wO f rs l' h1 hl.2
  have hx:=f.slot x
  obtain⟨u,hr,hu⟩:=sS (P:=P) f (t:=t) hx hy
  have hp:∃ad,a.tmps.getD x undef = .pointer (some ad):=by
   unfold kh at hy
   cases hq:s.ρ x<;>rw [hq] at hy hx<;>simp only at hy<;>try (cases hy; done)
   ·simp only [SR,VR] at hx; obtain⟨_,ad,h,_⟩:=hx; exact⟨ad,h⟩
   ·simp only [SR] at hx; exact⟨_,hx.1⟩
   ·simp only [SR,VR] at hx; obtain⟨_,_,h,_⟩:=hx; exact⟨_,h⟩
  obtain⟨ad,hp⟩:=hp
  rw [hp] at hr
  have AQ:(loadVar t ad).run P c.w = .ok u c.w:=by simpa [Instr.loadAt,Instr.sureAddr] using hr
  refine⟨u::vs,?_,hu,h3⟩
  have ha:(asAddr (a.tmps.getD x undef)).run P c.w = .ok ad c.w:=by rw [hp]; rfl
  simp only [List.mapM_cons,Sem.run_bind,Sem.run_pure,Result.andThen_ok,h2,ha,AQ]
theorem iF:un L0 none0=L0:=by funext b; simp [un,none0]
theorem Ext.close {c c':Cx}{jZ:Nat→Prop}(e:Ext c none0 c' jZ):Ext c none0 c' none0:=
 ⟨e.next,e.live,e.size,e.keep,e.exact,e.base,e.Ig,fun _ h=>h,fun _ h=>h.elim,e.os,e.tape,e.output⟩
theorem HRel.kX {c:Cx}{L L':Nat→Prop}(hL:∀b,L' b→L b)(h:HRel c L):HRel c L':=
 ⟨h.lt,fun id o ho=>by
  have:=h.obj id o ho
  cases o with
  | cells cs=>obtain⟨m,h1,h2,h3⟩:=this; exact⟨m,h1,h2,Cells.kX hL _ _ _ h3⟩
  | row t cs=>obtain⟨h0,C,h1,h2,h4,h3⟩:=this; exact⟨h0,C,h1,h2,h4,Cells.kX hL _ _ _ h3⟩
  | map es=>
   obtain⟨lB,clock,h1,h2⟩:=this
   refine⟨lB,clock,h1,?_⟩
   clear h1
   have:∀(es:List (AV × AV)) (ms:List MapEntry),lA c L es ms→lA c L' es ms:=by
    intro es
    induction es with
    | nil=>intro ms h; cases ms with | nil=>trivial | cons m ms=>exact h.elim
    | cons e es ih=>intro ms h; cases ms with
     | nil=>exact h.elim
     | cons m ms=>obtain⟨h1,h2,h3⟩:=h; exact⟨⟨VR.kX hL _ _ h1.1,h1.2⟩,VR.kX hL _ _ h2,ih _ h3⟩
   exact this _ _ h2,h.inj,fun id hl hb=>h.out id hl (hL _ hb),fun b hb=>h.bd b (hL b hb),h.low,h.ver⟩
structure Fit (P:Program):Prop where
 mixed:P.follows .mixedOrders=true
 Nb : ∀ (f : FuncId) fn c, P.funcs[f]? = some fn → fn.body = some c → kT fn.ntmps c = true ∧ fn.name ≠ "runtime.NumGoroutine"
def IntrOK (P:Program)(intr:FuncId→Option (List AV→AHeap→Option (AV × AHeap))):Prop:=
 ∀f g,intr f=some g→(CallOK P fun f' args h=>if f'=f then g args h else none)∧∀args h r h',g args h=some (r,h')→Steady h h'
theorem nv {f : FuncId} {fn : Func} {c : Code} (hf : P.funcs[f]? = some fn) (hc : fn.body = some c) (hn : fn.name ≠ "runtime.NumGoroutine") (vs : Array Value) (w : World) : (callFunc f vs).run P w = .ok (.enter f vs) w := by
 have Mq : (fn.name == "runtime.NumGoroutine") = false := by simpa using hn
 simp [callFunc,program,Sem.run,hf,hn,hc]
theorem yD (hP:Fit P){aY:FuncId→b9}{cf:CallF}(ih:CallOK P cf)(D5:AP P cf)(m:Nat):CallOK P (bf P aY cf m):=by
 intro f args h r h' hc
 unfold bf at hc
 rw [ZC] at hc
 obtain⟨fn,hf,hc⟩:=hc
 rw [ZC] at hc
 obtain⟨c,hb,hc⟩:=hc
 obtain⟨hB,Nc⟩:=hP.Nb f fn c hf hb
 refine⟨nv hf hb Nc,fun L0 c0 vs hh hb0 hrel hargs=>?_⟩
 split at hc
 rotate_left
 ·cases hc
 rename_i hlen
 rw [ZC] at hc
 obtain⟨⟨ex,st⟩,hex,hc⟩:=hc
 have hl:=hargs.length
 refine calls_of_wp hf hb ?_
 refine kr (L0:=L0) (c0:=c0) (n:=fn.ntmps) ih D5 hb0 c hB _ _ _ hex _ _ _ ?_ ?_
 ·refine⟨by simp; omega,c0,none0,fun _=>0,rfl,⟨hh,by rw [iF]; exact hrel,fun t=>?_,fun k cs hk=>?_,fun k k' hk=>?_,fun t k off _ he=>?_,rfl,fun b hb=>hb.elim⟩,Ext.refl _ _⟩
  ·simp only [St.open,nl,je]
   split
   ·by_cases ht:t<args.length
    ·obtain⟨v,hv,hr⟩:=hargs.get t args[t] (by simp [ht])
     have:args.getD t AV.any=args[t]:=by simp [ht]
     rw [this,Array.getD_eq_getD_getElem?,Array.getElem?_append_left (by simp; omega)]
     have PW:vs.toArray[t]? = some v:=by simpa using hv
     rw [PW]
     exact SR.of (by rw [iF]; exact hr)
    ·have:args.getD t AV.any = .any:=by simp [Z5 (Nat.not_lt.1 ht)]
     rw [this]
     exact SR.of (by simp [VR])
   ·exact SR.of (by simp [VR])
  ·simp only [St.open,je] at hk
   split at hk<;>cases hk
  ·simp only [St.open,je] at hk
   split at hk<;>cases hk
  ·simp only [St.open,nl,je] at he
   split at he
   ·by_cases ht:t<args.length
    ·obtain⟨v,hv,hr⟩:=hargs.get t args[t] (by simp [ht])
     have h1:args.getD t AV.any=args[t]:=by simp [ht]
     rw [h1] at he
     rw [he] at hr
     exact hr.elim
    ·have:args.getD t AV.any = .any:=by simp [Z5 (Nat.not_lt.1 ht)]
     rw [this] at he
     cases he
   ·cases he
 ·intro a' w' jY
  have hfin:(aO P (st.open (aY f)) fn.results.toList).map (fun r=>(r,st.h))=some (r,h')→a'.defers=[]∧∃v,(results fn a'.tmps).run P w' = .ok v w'∧(∃c' v',Ending.returned v = .returned v'∧c'.w=w'∧c'.h=h'∧VR c' L0 r v'∧HRel c' L0∧Ext c0 none0 c' none0):=by
   intro hc
   rw [ZD] at hc
   obtain⟨r',AQ,he⟩:=hc
   cases he
   obtain⟨hn,c',Lo,lam,rfl,f',e'⟩:=jY
   refine⟨f'.defers,?_⟩
   unfold aO at AQ
   rw [ZC] at AQ
   obtain⟨l,hl,AQ⟩:=AQ
   split at AQ
   rotate_left
   ·cases AQ
   rename_i lG
   obtain⟨us,V5,BN⟩:=wO f' _ _ hl lG
   have FF:VRs c' L0 l us:=VRs.kX (fun b hb=>.inl hb) _ _ BN
   have AI:(results fn a'.tmps).run P c'.w = .ok (if h:us.toArray.size=1 then us.toArray[0] else .tuple us.toArray) c'.w:=by
    unfold results
    rw [←Array.toArray_toList (xs:=fn.results)]
    rw [List.mapM_toArray]
    simp only [Sem.run_bind,Sem.run_map,Result.andThen_ok,Sem.run_pure]
    exact (congrArg (fun z=>(Result.andThen z (fun (a:List Value) w'=>Result.ok a.toArray w')).andThen (fun (a:Array Value) w'=>Result.ok (if h:a.size=1 then a[0] else Value.tuple a) w')) V5).trans rfl
   refine⟨_,AI,c',_,rfl,rfl,f'.h,?_,HRel.kX (fun b hb=>.inl hb) f'.rel,e'.close⟩
   split at AQ
   ·rename_i x
    cases AQ
    cases us with
    | nil=>exact FF.elim
    | cons u us=>cases us with
     | nil=>exact FF.1
     | cons u2 us=>exact FF.2.elim
   ·rename_i hne
    cases AQ
    have PZ:us.length≠1:=by
     intro h1
     rw [←FF.length] at h1
     cases l with
     | nil=>simp at h1
     | cons x l=>cases l with
      | nil=>exact hne x rfl
      | cons y l=>simp at h1
    have:¬us.toArray.size=1:=by simpa using PZ
    rw [dif_neg this]
    simp only [VR]
    exact⟨us.toArray,rfl,FF⟩
  cases ex with
  | norm=>exact hfin hc
  | ret=>exact hfin hc
  | exit id=>cases hc
end
end Go.R
