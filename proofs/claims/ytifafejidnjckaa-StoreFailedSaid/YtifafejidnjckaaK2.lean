/- Part of the proof: ROps5, ROps6, ROps7, RFrzV, ROpAll, RFrz, RCode. -/
import Derived.Test.YtifafejidnjckaaK1
import Derived.MapKept
import Derived.Laws.CopyRow
import Derived.Laws.BytesArg
import Derived.Laws.IdiomStrings
import Derived.Tactics
set_option linter.unusedVariables false
set_option linter.unusedSimpArgs false
set_option maxRecDepth 100000
open Array renaming getElem?_eq_some_iff → UL, getElem?_setIfInBounds → Vb, length_toList → Ve, getElem?_modify → Vh, ext' → VO
open Bool renaming and_eq_true → Ui, false_eq_true → Up, not_true → Vd, not_eq_true' → Vl, true_and → VN
open List renaming getElem?_eq_some_iff → Ul, length_set → Uq, all_eq_true → Uy, mem_cons → UF, map_cons → UH, getElem?_eq_none → UN, mem_map → US, take_of_length_le → UT, eq_nil_of_length_eq_zero → UU, all_cons → U2, ext_getElem? → VE, getElem?_set → VF
open Nat renaming le_refl → Uj, zero_add → UC, beq → UP, le_succ → Vn, lt_succ_of_lt → Vr, min_eq_left → VA
open Option renaming bind_eq_some_iff → Ud, bind_some → Ue, map_eq_some_iff → Ug, map_some → Uk, isSome_iff_exists → UM, getD_some → U7
open Option.some renaming injEq → Uh
open Prod.mk renaming injEq → Um
namespace Go.R
open Go
section
variable {P:Program}{L0:Nat→Prop}{c0:Cx}{n:Nat}{ds:List Nat}{o:Oper}{s:RS}
theorem Fr.uu {c:Cx}{Lo:Nat→Prop}{lam:Nat→Nat}{a:Act}(f:Fr L0 c Lo lam ds s a)(hbs:c.base≤c.w.heap.size){id:Nat}{es pI:List (AV × AV)}(ho:c.h.get id=some (.map es)){km pP:Array MapEntry}{clock np:Nat}
  (hb:c.w.heap[(c.β id).1]? = some (.map km clock)) (he:kl c (un L0 Lo) pI pP.toList) :
  Ext c Lo ⟨c.β,s.h.put id (.map pI),{c.w with heap:=c.w.heap.setIfInBounds (c.β id).1 (.map pP np)},c.base⟩ Lo∧
   Fr L0 ⟨c.β,s.h.put id (.map pI),{c.w with heap:=c.w.heap.setIfInBounds (c.β id).1 (.map pP np)},c.base⟩ Lo lam ds {s with h:=s.h.put id (.map pI)} a:=by
 have hl:Live c.h id:=⟨f.rel.lt _ _ ho,by simp [ho]⟩
 have hlt:(c.β id).1<c.w.heap.size:=(UL.1 hb).1
 have hne:∀b,b≠(c.β id).1→({c.w with heap:=c.w.heap.setIfInBounds (c.β id).1 (.map pP np)}:World).heap[b]? = c.w.heap[b]?:=by
  intro b hb
  simp only [Vb]
  rw [if_neg (Ne.symm hb)]
 rw [←f.h]
 refine f.upd (β':=c.β) (h':=c.h.put id (.map pI)) id (.map pI) (Steady.put _ _ _) (Vr hl.1) (by simp [AHeap.put,beq_nat])
  (fun jV h1=>.inr ⟨by simp [AHeap.put,beq_nat,h1],rfl⟩) (fun _=>⟨hl,rfl⟩) (.inr ⟨id,hl,rfl,.inl rfl⟩) (fun _=>?_)
  (fun b _ h1=>hne b h1) (fun b _ h1=>hne b h1) (by simp) hbs rfl rfl rfl (fun e=>⟨pP,np,by simp [hlt],he.ext e⟩)
 simp only [Cx.len,World.shape?,hb,Vb,hlt,if_true]
theorem uv {x y:AV}(hs:sameShape x y=true)(hq:fc x y=true):x=y:=by
 cases x<;>cases y<;>simp only [sameShape] at hs<;>try (cases hs; done)
 ·simp only [fc,iF,Ui,beq_iff_eq] at hq
  obtain⟨rfl,rfl⟩:=hq
  rfl
 ·rename_i a b
  simp only [fc,iF,beq_iff_eq] at hq
  congr 1
  cases a; cases b
  congr 1
  exact Array.toList_inj.1 hq
 ·rename_i xs ys
  simp only [Ui,beq_iff_eq] at hs
  obtain⟨⟨_,hx⟩,hy⟩:=hs
  obtain⟨ns,rfl⟩:=gN hx
  obtain⟨ms,rfl⟩:=gN hy
  simp only [fc,jN,decide_eq_true_eq] at hq
  rw [hq]
theorem mW:∀ns:List Int,iD (ns.map fun n=>AV.int .i64 n)=some (ns.map fun n=>Value.int .i64 n)
 | []=>rfl
 | n::ns=>by simp [iD,AV.fR,mW ns]
theorem yi {t:TypeId}{k:AV}(h:fS P t k=true):∃u,k.xP=some u∧Instr.sameBits 10000 u u=true:=by
 unfold fS at h
 have J2:∀cs:List AV,cs.all jK=true→∃u,(AV.agg cs).xP=some u∧Instr.sameBits 10000 u u=true:=by
  intro cs hcs
  obtain⟨ns,rfl⟩:=gN hcs
  refine⟨.agg (ns.map fun n=>Value.int .i64 n).toArray,by simp [AV.xP,mW],?_⟩
  simp only [Instr.sameBits,beq_self_eq_true,VN,Uy]
  intro p hp
  have:∀(l:List Value),(∀v∈l,∃m,v=Value.int .i64 m)→∀p∈l.zip l,Instr.sameBits 9999 p.1 p.2=true:=by
   clear hp p
   intro l hl p hp
   have h1:p.1=p.2∧p.1∈l:=by
    clear hl
    induction l with
    | nil=>cases hp
    | cons v l ih=>
     simp only [List.zip_cons_cons,UF] at hp
     rcases hp with rfl | hp
     ·exact⟨rfl,by simp⟩
     ·obtain⟨h1,h2⟩:=ih hp; exact⟨h1,by simp [h2]⟩
   obtain⟨h1,h2⟩:=h1
   obtain⟨m,hm⟩:=hl _ h2
   rw [←h1,hm]
   simp [Instr.sameBits]
  exact this (ns.map fun n=>Value.int .i64 n) (fun v hv=>by obtain⟨m,_,rfl⟩:=US.1 hv; exact⟨m,rfl⟩) p (by simpa using hp)
 split at h
 ·exact⟨_,rfl,by simp [Instr.sameBits]⟩
 ·exact⟨_,rfl,by simp [Instr.sameBits,tj]⟩
 ·simp only [Ui] at h; exact J2 _ h.1.1.2
 ·simp only [Ui] at h; exact J2 _ h.1.1.2
 ·cases h
theorem rD {c:Cx}{L:Nat→Prop}{k v:AV}{kv vv:Value}(hc:k.xP.isSome=true)(hk:VR c L k kv)(hv:VR c L v vv) :
  ∀(es pI:List (AV × AV)) (ms:List MapEntry) (i:Nat),kl c L es ms→uc k v es=some pI→
   ij k es≠none∧(place k es ms i=none∧(∀b,kl c L pI (ms++[{key:=kv,val:=vv,born:=b}]))∨
    ∃j u m,place k es ms i=some (i+j,u)∧ms[j]? = some m∧m.key=kv∧kl c L pI (ms.modify j fun e=>{e with key:=kv,val:=vv}))
 | [],pI,[],i,_,h=>by
  simp only [uc,Uh] at h
  subst h
  exact⟨by simp [ij],.inl ⟨rfl,fun b=>⟨⟨hk,hc⟩,hv,trivial⟩⟩⟩
 | (k',v')::es,pI,m::ms,i,he,h=>by
  obtain⟨⟨CH,Pu⟩,ze,sG⟩:=he
  simp only [uc] at h
  split at h
  rotate_left
  ·cases h
  rename_i hs
  split at h
  ·rename_i hq
   cases h
   have vM:k=k':=uv hs hq
   obtain⟨u,hu⟩:=UM.1 hc
   refine⟨by simp [ij,hs,hq],.inr ⟨0,m.val,m,by simp [place,hq],rfl,?_,?_⟩⟩
   ·subst vM
    rw [uk hu hk,uk hu CH]
   ·exact⟨⟨hk,hc⟩,hv,sG⟩
  ·rename_i hq
   rw [Ug] at h
   obtain⟨Rr,h1,rfl⟩:=h
   obtain⟨h2,h3⟩:=rD hc hk hv es Rr ms (i+1) sG h1
   refine⟨by simp [ij,hs,hq,h2],?_⟩
   have uw:fc k k'=false:=by simpa using hq
   rcases h3 with⟨h3,h4⟩| ⟨j,u,m',h3,h4,h5,h6⟩
   ·exact .inl ⟨by simp [place,uw,h3],fun b=>⟨⟨CH,Pu⟩,ze,h4 b⟩⟩
   ·exact .inr ⟨j+1,u,m',by simp [place,uw,h3]; omega,by simpa using h4,h5,⟨⟨CH,Pu⟩,ze,h6⟩⟩
 | [],_,_::_,_,h,_=>h.elim
 | _::_,_,[],_,h,_=>h.elim
theorem rE {x:AV}(h:x.kg=true):∀k off,x≠.lp k off:=by rintro k off rfl; simp [AV.kg] at h
theorem sN {c:Cx}{Lo:Nat→Prop}{lam:Nat→Nat}{a:Act}(f:Fr L0 c Lo lam ds s a)(hbs:c.base≤c.w.heap.size){t:TypeId}{m k x:AV}{mv kv xv:Value}(hm:SR c L0 Lo lam s.bx m mv)(hk:SR c L0 Lo lam s.bx k kv)(hx:SR c L0 Lo lam s.bx x xv){h':AHeap}
  (h:ik P s.h t m k x=some h'):∃c',(Instr.mapUpdate t mv kv xv).run P c.w = .ok () c'.w∧Ext c Lo c' Lo∧Fr L0 c' Lo lam ds {s with h:=h'} a:=by
 unfold ik at h
 rw [Ud] at h
 obtain⟨d,hd,h⟩:=h
 cases d<;>simp only at h<;>try (cases h; done)
 rename_i kt et
 split at h
 ·cases h
 rename_i jw
 obtain⟨sL,hargs⟩:fS P kt k=true∧x.kg=true:=by
  cases h1:fS P kt k<;>cases h2:x.kg<;>simp [h1,h2] at jw ⊢
 have vN:VR c (un L0 Lo) k kv:=hk.vr (by rintro k0 off rfl; simp [fS] at sL)
 have Rs:=hx.vr (rE hargs)
 cases m<;>simp only at h<;>try (cases h; done)
 rename_i id
 rw [Ud] at h
 obtain⟨ob,ho,h⟩:=h
 cases ob with
 | cells cs=>cases h
 | row t cs=>cases h
 | map es=>
 rw [Ug] at h
 obtain⟨pI,hu,rfl⟩:=h
 simp only [SR,VR] at hm
 obtain⟨hi,r,rfl,hr⟩:=hm
 rw [←f.h] at ho
 have hl:Live c.h id:=⟨f.rel.lt _ _ ho,by simp [ho]⟩
 have My:=hr hl
 subst My
 obtain⟨km,clock,h1,h2⟩:=f.rel.obj _ _ ho
 obtain⟨u0,GY,Rt⟩:=yi sL
 obtain⟨hf,hp⟩:=rD (by simp [GY]) vN Rs es pI km.toList 0 h2 hu
 have CI:=tk sL vN c.w h2 hf
 have Hz:=mT (P:=P) false 9998 sL vN c.w
 have hget:(getObj (c.β id).1).run P c.w = .ok (.map km clock) c.w:=MapKept.run_getObj_map h1
 rcases hp with⟨hp,rq⟩| ⟨j,u,m,hp,hj,hmk,rq⟩
 ·obtain⟨e',f'⟩:=f.uu hbs ho h1 (pP:=km.push {key:=kv,val:=xv,born:=clock}) (np:=clock+1) (pI:=pI) (by simpa using rq clock)
  refine⟨_,?_,e',f'⟩
  unfold Instr.mapUpdate
  rw [hp] at CI
  simp only [Sem.run_bind,bm hd,Result.andThen_ok,hget,Hz,CI]
  exact MapKept.run_setObj_map _ h1
 ·obtain⟨e',f'⟩:=f.uu hbs ho h1 (pP:=km.modify j fun e=>{e with key:=kv,val:=xv}) (np:=clock) (pI:=pI) (by simpa using rq)
  refine⟨_,?_,e',f'⟩
  unfold Instr.mapUpdate
  rw [hp,UC] at CI
  have xJ:km[j]? = some m:=by simpa using hj
  have Fz:(Instr.keyThatStays m.key kv).run P c.w = .ok kv c.w:=by
   rw [hmk]
   unfold Instr.keyThatStays
   rw [uk GY vN,Rt]
   rfl
  simp only [Sem.run_bind,bm hd,Result.andThen_ok,hget,Hz,CI,xJ,Uk,U7,Fz]
  exact MapKept.run_setObj_map _ h1
theorem nT (hb0:c0.base≤c0.w.heap.size){t:TypeId}{m k x:Operand}(ho:o.op = .mapUpdate t m k x∨o.op = .insert t m k x)(qe:o.dst=none){h':AHeap}
  (h:ik P s.h t (bI s.ρ m) (bI s.ρ k) (bI s.ρ x)=some h'):iP P L0 c0 n ds o s {s with h:=h'}:=by
 rintro a w K Q ⟨hn,c,Lo,lam,rfl,f,e⟩ hK
 obtain⟨c',hr,e',f'⟩:=sN f (iN e hb0) (bC f m) (bC f k) (bC f x) h
 unfold Oper.wp
 have:(execOp a.eval o).run P c.w = .ok .skip c'.w:=by rcases ho with ho | ho<;>simp [execOp,ho,hr]
 rw [this,Oper.upon_skip]
 have HE:a.put o.dst undef=a:=by rw [qe]; rfl
 rw [HE]
 exact hK _ _ ⟨hn,c',Lo,lam,rfl,f',e.trans e'⟩
theorem CT (hb0:c0.base≤c0.w.heap.size)(hd:fU n ds o){t:TypeId}{x:Operand}(ho:o.op = .call {callee:=.builtin .clear,args:=#[x],argTypes:=#[t]}){h':AHeap}
  (h:kL P s.h t (bI s.ρ x)=some h'):iP P L0 c0 n ds o s ({s with h:=h'}.set o.dst (.tup [])):=by
 rintro a w K Q ⟨hn,c,Lo,lam,rfl,f,e⟩ hK
 unfold kL at h
 rw [Ud] at h
 obtain⟨d,vS,h⟩:=h
 have hx:=bC f x
 have fin:∀c',(Builtin.clear_ #[t] o.type #[a.eval x]).run P c.w = .ok (.tuple #[]) c'.w→Ext c Lo c' Lo→Fr L0 c' Lo lam ds {s with h:=h'} a→o.wp P a c.w K Q:=by
  intro c' hr e' f'
  unfold Oper.wp
  have:(execOp a.eval o).run P c.w = .ok (.value (.tuple #[])) c'.w:=by
   simp [execOp,ho,resolve,invoke,builtin,hr]
  rw [this,Oper.upon_value]
  exact hK _ _ ⟨(fT _ _ _).trans hn,c',Lo,lam,rfl,f'.set (SR.of (by simp [VR,VRs])) (fun t ht=>by rw [hn]; exact hd t ht),e.trans e'⟩
 cases Bk:bI s.ρ x<;>rw [Bk] at h hx<;>simp only at h<;>try (cases h; done)
 ·rename_i id off len hH
  simp only [SR,VR] at hx
  split at h
  ·rename_i hl0
   cases h
   obtain⟨ad,cap,pQ⟩:∃ad cap,a.eval x = .slice ad 0 cap:=by
    rcases hx with⟨_,_,_,ad,hx⟩| ⟨_,_,ad,cap,hx,_⟩
    ·exact⟨ad,0,hx⟩
    ·exact⟨ad,cap,by rw [hx,hl0]⟩
   refine fin c ?_ (Ext.refl _ _) f
   cases ad<;>cases d<;>simp [Builtin.clear_,bm vS,pQ]
  rename_i hl0
  split at h
  ·cases h
  rename_i jG
  cases d<;>simp only at h<;>try (cases h; done)
  rename_i et
  simp only [Ud] at h
  obtain⟨i,hi,z,hz,ob,hob,h⟩:=h
  cases ob with
  | map es=>cases h
  | row t cs=>cases h
  | cells cs=>
  simp only at h
  split at h
  rotate_left
  ·cases h
  rename_i hh
  obtain⟨CU,Ck,hz0,Mz,hoff⟩:=hh
  cases h
  rcases hx with hx | ⟨_,hid,ad,cap,hx,hlc,zf,hlive⟩
  ·exact absurd hx.1 jG
  rw [←f.h] at hob
  have hl:Live c.h id:=⟨f.rel.lt _ _ hob,by simp [hob]⟩
  obtain⟨q,hp,hq,hc⟩:=f.rel.obj _ _ hob
  have ha:ad=some ⟨(c.β id).1,(c.β id).2+off,none⟩:=by
   rcases hlive hl with⟨h1,_⟩| h1
   ·exact h1
   ·exact absurd h1 (by omega)
  subst ha
  obtain⟨zv,CJ,yf⟩:=jh hz c.w
  obtain⟨xI,hz1⟩:=il Mz (kN (c:=c) (L:=un L0 Lo) yf)
  have MA:=xI.length
  have Co:zv.cells.size=i.size:=by rw [←Ve,←MA,Ck]
  have hnl:(Builtin.zeroCells zv.cells len).toList.length=len*i.size:=by simp [Builtin.zeroCells,Co]
  have hv:VRs c (un L0 Lo) (hJ z.cells len) (Builtin.zeroCells zv.cells len).toList:=by
   have:=oX xI len (len*zv.cells.size) (by rw [Co,Ck]; exact Uj _) (by omega)
   rw [UT (by simp [Co,Ck])] at this
   exact this
  have hone:∀v∈(Builtin.zeroCells zv.cells len).toList,v.oneCell'=true:=by
   intro v hv
   simp only [Builtin.zeroCells,Array.toList_map,US] at hv
   obtain⟨j,hj,rfl⟩:=hv
   have qf:j % zv.cells.size<zv.cells.size:=Nat.mod_lt _ (by omega)
   rw [getElem!_pos zv.cells _ qf]
   exact hz1 _ (by simp)
  have Pv:(hJ z.cells len).length=len*i.size:=by rw [ir,Ck]
  have hst:=ju (P:=P) hp.jL (base:=(c.β id).2) (off:=off) (vs:=(Builtin.zeroCells zv.cells len).toList) (by rw [hnl]; rw [CU] at hoff; omega) hone
  obtain⟨q1,q2,q3,q4⟩:=gf (Builtin.zeroCells zv.cells len).toList (c.β id).1 ((c.β id).2+off) c.w
  have zg:gY c (c.β id).1 q:=hp
  obtain⟨C,HI,hb,qd⟩:=hp
  obtain⟨C',g1,g2,g3⟩:=eU (Builtin.zeroCells zv.cells len).toList (c.β id).1 ((c.β id).2+off) c.w C HI (0,0) hb (by rw [hnl]; rw [CU] at hoff; omega)
  obtain⟨e',f'⟩:=f.upd (w':=c.w.setCells (c.β id).1 ((c.β id).2+off) (Builtin.zeroCells zv.cells len).toList) (β':=c.β) (h':=s.h.put id (.cells (db cs off (hJ z.cells len)))) id (.cells (db cs off (hJ z.cells len)))
   (by rw [f.h]; exact Steady.put _ _ _) (by rw [←f.h]; exact Vr hl.1) (by simp [AHeap.put,beq_nat]) (fun jV h1=>.inr ⟨by rw [f.h]; simp [AHeap.put,beq_nat,h1],rfl⟩) (fun _=>⟨hl,rfl⟩) (.inr ⟨id,hl,rfl,.inl rfl⟩)
   (fun _=>by simp only [Cx.len,World.shape?,g1,hb,Uk,U7,g2])
   (fun b _ hne=>dC _ _ _ _ _ hne) (fun b _ hne=>dC _ _ _ _ _ hne) (by rw [q1]; exact Uj _) (iN e hb0) q2 q3 q4
   (fun ee=>⟨q,zg.setCells (by rw [hnl]; rw [CU] at hoff; omega) _ _ _,by rw [gO]; exact hq,iq zg.jL hc hv hone (by rw [Pv]; rw [CU] at hoff; omega) (by omega) ee rfl⟩)
  refine fin _ ?_ e' f'
  cases len with
  | zero=>exact absurd rfl hl0
  | succ len=>simp [Builtin.clear_,bm vS,hx,CJ,hst]
 ·cases h
  simp only [SR,VR] at hx
  refine fin c ?_ (Ext.refl _ _) f
  simp [Builtin.clear_,bm vS,hx]
 ·rename_i id
  rw [Ud] at h
  obtain⟨ob,ho,h⟩:=h
  cases ob with
  | cells cs=>cases h
  | row t cs=>cases h
  | map es=>
  cases h
  simp only [SR,VR] at hx
  obtain⟨hi,r,pQ,hr⟩:=hx
  rw [←f.h] at ho
  have hl:Live c.h id:=⟨f.rel.lt _ _ ho,by simp [ho]⟩
  have My:=hr hl
  subst My
  obtain⟨km,clock,h1,h2⟩:=f.rel.obj _ _ ho
  obtain⟨e',f'⟩:=f.uu (iN e hb0) ho h1 (pP:=#[]) (np:=clock) (pI:=[]) trivial
  refine fin _ ?_ e' f'
  have hget:(getObj (c.β id).1).run P c.w = .ok (.map km clock) c.w:=MapKept.run_getObj_map h1
  have CV:=MapKept.run_setObj_map (P:=P) (.map #[] clock) h1
  simp [Builtin.clear_,bm vS,pQ,hget,CV]
end
end Go.R
namespace Go.R
open Go
section
variable {P:Program}{L0:Nat→Prop}{c0:Cx}{n:Nat}{ds:List Nat}{o:Oper}{s:RS}
theorem lP {w:World}{t t2 ty e:TypeId}{i:TypeInfo}(ht:P.underlying t=some (.slice e))(hi:P.info? e=some i){base:Option Addr}{len cap:Nat}{x:Value}{news:List Value}{m:Nat}(hs:Src P i.size t2 x m news w)(hm:m≤len) :
  (Builtin.copy_ #[t,t2] ty #[.slice base len cap,x]).run P w=match base with | none=>.ok (goInt m) w | some a=>((storeCells a news).run P w).andThen fun _ w'=>.ok (goInt m) w':=by
 have J3:Nat.min m len=m:=VA hm
 have hlen:=hs.len w
 have hc:=hs.cells
 have hsz:(sizeOf e).run P w = .ok i.size w:=by simp [sizeOf,typeInfo,hi]
 unfold Builtin.copy_
 cases base with
 | none=>simp [bm ht,hlen,J3,hsz,hc]
 | some a=>simp [bm ht,hlen,J3,hsz,hc,Sem.run_bind]
theorem FA (hb0:c0.base≤c0.w.heap.size)(hd:fU n ds o){t t2:TypeId}{dx sx:Operand}(ho:o.op = .call {callee:=.builtin .copy,args:=#[dx,sx],argTypes:=#[t,t2]}){y:AV}{h':AHeap}
  (h:pJ P s.h t t2 (bI s.ρ dx) (bI s.ρ sx)=some (y,h')):iP P L0 c0 n ds o s ({s with h:=h'}.set o.dst y):=by
 rintro a w K Q ⟨hn,c,Lo,lam,rfl,f,e0⟩ hK
 have hbs:=iN e0 hb0
 unfold pJ at h
 rw [Ud] at h
 obtain⟨d,vS,h⟩:=h
 cases d<;>simp only at h<;>try (cases h; done)
 rename_i e
 rw [Ud] at h
 obtain⟨i,hi,h⟩:=h
 rw [Ud] at h
 obtain⟨⟨new,m⟩,hcs,h⟩:=h
 simp only at h
 split at h
 ·cases h
 rename_i gj
 have gj:ig P t2 (bI s.ρ sx)=true:=by simpa using gj
 have Pw:∀st,bI s.ρ sx = .str st→P.underlying t2=some .string:=by
  intro st hst
  rw [hst] at gj
  unfold ig at gj
  simp only at gj
  split at gj
  ·assumption
  ·cases gj
 have rF:(∀st,bI s.ρ sx≠.str st)→∃e',P.underlying t2=some (.slice e'):=by
  intro hne
  unfold ig at gj
  split at gj
  ·rename_i st hst; exact absurd hst (hne st)
  ·split at gj
   ·rename_i e' he; exact⟨e',he⟩
   ·cases gj
 have hk:(∃e',P.underlying t2=some (.slice e'))∨P.underlying t2=some .string:=by
  by_cases hst:∃st,bI s.ρ sx = .str st
  ·obtain⟨st,hst⟩:=hst; exact .inr (Pw st hst)
  ·exact .inl (rF fun st MB=>hst ⟨st,MB⟩)
 obtain⟨news,hS,hv⟩:=oY f (bC f sx) hk Pw rF hcs
 have vB:=bC f dx
 have fin:∀c',(Builtin.copy_ #[t,t2] o.type #[a.eval dx,a.eval sx]).run P c.w = .ok (goInt m) c'.w→Ext c Lo c' Lo→Fr L0 c' Lo lam ds {s with h:=h'} a→y = .int .i64 m→o.wp P a c.w K Q:=by
  intro c' hr e' f' hy
  unfold Oper.wp
  have:(execOp a.eval o).run P c.w = .ok (.value (goInt m)) c'.w:=by
   simp [execOp,ho,resolve,invoke,builtin,hr]
  rw [this,Oper.upon_value]
  exact hK _ _ ⟨(fT _ _ _).trans hn,c',Lo,lam,rfl,f'.set (SR.of (by subst hy; simp [VR,goInt])) (fun t ht=>by rw [hn]; exact hd t ht),e0.trans e'⟩
 cases Bk:bI s.ρ dx<;>rw [Bk] at h vB<;>simp only at h<;>try (cases h; done)
 ·split at h
  rotate_left
  ·cases h
  rename_i rm
  cases h
  simp only [SR,VR] at vB
  obtain⟨ad,vB⟩:∃ad:Option Addr,a.eval dx = .slice ad 0 0:=⟨none,vB⟩
  refine fin c ?_ (Ext.refl _ _) f (by rw [rm]; rfl)
  rw [vB,lP vS hi hS (by omega)]
  cases ad with
  | none=>rfl
  | some ad=>
   have:news=[]:=UU (by rw [hS.newsLen,rm]; simp)
   subst this
   rfl
 ·rename_i id off len hH
  split at h
  ·rename_i hid
   split at h
   rotate_left
   ·cases h
   rename_i rm
   cases h
   simp only [SR,VR] at vB
   rcases vB with⟨_,_,_,ad,vB⟩| vB
   rotate_left
   ·exact absurd hid vB.1
   refine fin c ?_ (Ext.refl _ _) f (by rw [rm]; rfl)
   rw [vB,lP vS hi hS (by omega)]
   cases ad with
   | none=>rfl
   | some ad=>
    have:news=[]:=UU (by rw [hS.newsLen,rm]; simp)
    subst this
    rfl
  rename_i jG
  rw [Ud] at h
  obtain⟨ob,hob,h⟩:=h
  cases ob with
  | map es=>cases h
  | row t cs=>cases h
  | cells cs=>
  simp only at h
  split at h
  rotate_left
  ·cases h
  rename_i hh
  obtain⟨CU,Ru,hoff⟩:=hh
  cases h
  simp only [SR,VR] at vB
  rcases vB with vB | ⟨_,hid,ad,cap,vB,hlc,zf,hlive⟩
  ·exact absurd vB.1 jG
  rw [←f.h] at hob
  have hl:Live c.h id:=⟨f.rel.lt _ _ hob,by simp [hob]⟩
  obtain⟨q,hp,hq,hc⟩:=f.rel.obj _ _ hob
  have hnl:=hS.newsLen
  have hvl:=hv.length
  have hr:=lP (ty:=o.type) vS hi hS Ru (base:=ad) (cap:=cap)
  by_cases ha:ad=some ⟨(c.β id).1,(c.β id).2+off,none⟩
  ·subst ha
   simp only at hr
   have hst:=ju (P:=P) hp.jL (base:=(c.β id).2) (off:=off) (vs:=news) (by omega) hS.one
   rw [hst] at hr
   simp only [Result.andThen_ok] at hr
   obtain⟨q1,q2,q3,q4⟩:=gf news (c.β id).1 ((c.β id).2+off) c.w
   have zg:gY c (c.β id).1 q:=hp
   obtain⟨C,HI,hb,qd⟩:=hp
   obtain⟨C',g1,g2,g3⟩:=eU news (c.β id).1 ((c.β id).2+off) c.w C HI (0,0) hb (by omega)
   obtain⟨e',f'⟩:=f.upd (w':=c.w.setCells (c.β id).1 ((c.β id).2+off) news) (β':=c.β) (h':=s.h.put id (.cells (db cs off new))) id (.cells (db cs off new))
    (by rw [f.h]; exact Steady.put _ _ _) (by rw [←f.h]; exact Vr hl.1) (by simp [AHeap.put,beq_nat]) (fun jV h1=>.inr ⟨by rw [f.h]; simp [AHeap.put,beq_nat,h1],rfl⟩) (fun _=>⟨hl,rfl⟩) (.inr ⟨id,hl,rfl,.inl rfl⟩)
    (fun _=>by simp only [Cx.len,World.shape?,g1,hb,Uk,U7,g2])
    (fun b _ hne=>dC _ _ _ _ _ hne) (fun b _ hne=>dC _ _ _ _ _ hne) (by rw [q1]; exact Uj _) hbs q2 q3 q4
    (fun ee=>⟨q,zg.setCells (by omega) _ _ _,by rw [gO]; exact hq,iq zg.jL hc hv hS.one (by omega) (by omega) ee rfl⟩)
   refine fin _ ?_ e' f' rfl
   rw [vB]
   exact hr
  ·have hz:new=[]∧m=0∧news=[]:=by
    rcases hlive hl with⟨h1,_⟩| h1
    ·exact absurd h1 ha
    ·have h0:m=0:=by omega
     have h2:news=[]:=UU (by rw [hnl,h0]; simp)
     subst h2
     exact⟨UU (by simpa using hvl),h0,rfl⟩
   obtain⟨rfl,rfl,rfl⟩:=hz
   have mV:db cs off []=cs:=by simp [db]
   rw [mV] at *
   obtain⟨e',f'⟩:=f.upd (w':=c.w) (β':=c.β) (h':=s.h.put id (.cells cs)) id (.cells cs)
    (by rw [f.h]; exact Steady.put _ _ _) (by rw [←f.h]; exact Vr hl.1) (by simp [AHeap.put,beq_nat]) (fun jV h1=>.inr ⟨by rw [f.h]; simp [AHeap.put,beq_nat,h1],rfl⟩) (fun _=>⟨hl,rfl⟩) (.inr ⟨id,hl,rfl,.inl rfl⟩)
    (fun _=>rfl) (fun b _ hne=>rfl) (fun b _ hne=>rfl) (Uj _) hbs rfl rfl rfl
    (fun ee=>nO.ext ee ⟨q,hp,hq,hc⟩ rfl)
   refine fin _ ?_ e' f' rfl
   rw [vB,hr]
   cases ad<;>rfl
end
end Go.R
namespace Go.R
open Go
section
variable {P:Program}{L0:Nat→Prop}{c0:Cx}{n:Nat}{ds:List Nat}{o:Oper}{s:RS}
theorem oZ {e:TypeId}(h:CC P e=true):P.underlying e=some (.int .u8)∧eP P e=some 1:=by
 unfold CC at h
 simp only [Ui,beq_iff_eq] at h
 obtain⟨h1,h2⟩:=h
 refine⟨?_,h2⟩
 split at h1
 ·assumption
 ·cases h1
theorem zr {c:Cx}{L:Nat→Prop}:∀{cs:List AV} {l:List UInt8} {vs:List Value},GS cs=some l→VRs c L cs vs→∃xs:List Int,vs=xs.map (Value.int .u8)∧l=xs.map fun n=>UInt8.ofNat n.toNat
 | [],l,[],h,_=>by simp only [GS,Uh] at h; subst h; exact⟨[],rfl,rfl⟩
 | x::cs,l,v::vs,h,hv=>by
  unfold GS at h
  split at h
  ·rename_i heq; cases heq
  ·rename_i n xs heq
   cases heq
   rw [Ug] at h
   obtain⟨l',h1,rfl⟩:=h
   obtain⟨ys,rfl,rfl⟩:=zr h1 hv.2
   have h2:=hv.1
   simp only [VR] at h2
   subst h2
   exact⟨n::ys,rfl,rfl⟩
  ·cases h
 | [],_,_::_,_,h=>h.elim
 | _::_,_,[],_,h=>h.elim
theorem ux (xs:List Int):strOfNums xs=⟨(xs.map fun n=>UInt8.ofNat n.toNat).toArray⟩:=rfl
theorem vT {w:World}{src dst e:TypeId}{v:Value}{m:Nat}{xs:List Int}(hs:P.underlying src=some (.slice e))(he:P.underlying e=some (.int .u8))(hd:P.underlying dst=some .string)
  (hS:Src P 1 src v m (xs.map (Value.int .u8)) w) (hv:∃a cap,v = .slice a m cap):(convert src dst v).run P w = .ok (.string (strOfNums xs)) w:=by
 obtain⟨a,cap,rfl⟩:=hv
 have hc:=hS.cells
 have hl:=hS.newsLen
 cases a with
 | none=>
  have:xs=[]:=by
   simp [Builtin.firstCells] at hc
   cases xs with
   | nil=>rfl
   | cons x xs=>simp at hc
  subst this
  exact run_convert_bytes_nil w src e hs he m cap dst hd
 | some a=>
  rw [run_convert_bytes_string w src dst e (some a) m cap hs he hd]
  have h1:(loadCells a m).run P w = .ok (xs.map (Value.int .u8)).toArray w:=by simpa [Builtin.firstCells] using hc
  rw [run_bytesToString w a m cap xs h1,foldl_push_bytes]
  simp [strOfNums,ByteArray.empty,ByteArray.emptyWithCapacity]
  rfl
theorem sO {c:Cx}{Lo:Nat→Prop}{lam:Nat→Nat}{x:AV}{v:Value}{h:AHeap}{size m:Nat}{new:List AV}(hx:SR c L0 Lo lam s.bx x v)(hc:dY h size x=some (new,m))(hne:∀st,x≠.str st):∃a cap,v = .slice a m cap:=by
 unfold dY at hc
 cases x<;>simp only at hc<;>try (cases hc; done)
 ·exact absurd rfl (hne _)
 ·cases hc
  simp only [SR,VR] at hx
  subst hx
  exact⟨none,0,rfl⟩
 ·split at hc
  ·cases hc
   simp only [SR,VR] at hx
   obtain⟨a,cap,rfl,_⟩:=hx
   exact⟨a,cap,rfl⟩
  ·cases hc
 ·split at hc
  ·split at hc
   ·cases hc
    simp only [SR,VR] at hx
    rename_i hid hl0
    rcases hx with⟨_,_,_,a,rfl⟩| ⟨_,_,a,cap,rfl,_⟩
    ·exact⟨a,0,rfl⟩
    ·exact⟨a,cap,by rw [hl0]⟩
   ·cases hc
  rename_i jG
  rw [Ud] at hc
  obtain⟨ob,_,hc⟩:=hc
  cases ob with
  | map es=>cases hc
  | row t cs=>cases hc
  | cells cs=>
   simp only at hc
   split at hc
   ·cases hc
    simp only [SR,VR] at hx
    rcases hx with hx | ⟨_,_,a,cap,rfl,_⟩
    ·exact absurd (.inl hx.1) jG
    exact⟨a,cap,rfl⟩
   ·cases hc
theorem bytes_VRs {c:Cx}{L:Nat→Prop}:∀l:List UInt8,VRs c L (l.map fun b=>AV.int .u8 b.toNat) (l.map fun b=>Value.int .u8 b.toNat)
 | []=>trivial
 | b::l=>⟨by simp [VR],bytes_VRs l⟩
theorem uy {w:World}{b o k:Nat}{C:Array Value}{e:TypeId}{fr:Nat × Nat}(hb:w.heap[b]? = some (.cells C e fr))(ho:C.size≤o)(hk:k≠0) :
  (∀b',gM w (w.freeze ⟨b,o,none⟩ k) b')∧(∀b',b'≠b→(w.freeze ⟨b,o,none⟩ k).heap[b']? = w.heap[b']?)∧(w.freeze ⟨b,o,none⟩ k).heap.size=w.heap.size∧(w.freeze ⟨b,o,none⟩ k).os=w.os∧(w.freeze ⟨b,o,none⟩ k).tape=w.tape∧(w.freeze ⟨b,o,none⟩ k).output=w.output:=by
 unfold World.freeze
 rw [if_neg hk]
 have hlt:=(UL.1 hb).1
 refine⟨fun b'=>?_,fun b' hne=>by simp [Vh,Ne.symm hne],by simp,rfl,rfl,rfl⟩
 by_cases hne:b'=b
 ·subst hne
  obtain⟨lo,hi⟩:=fr
  refine .inr ⟨C,e,lo,hi,(if lo==hi then (o,o+k) else (min lo o,max hi (o+k))).1,(if lo==hi then (o,o+k) else (min lo o,max hi (o+k))).2,hb,?_,?_⟩
  ·simp [Vh,hb]
  ·intro h
   by_cases MC:lo=hi
   ·subst MC; right; simpa using ho
   ·have:(lo==hi)=false:=by simpa using MC
    right
    simp only [this,Up,if_false]
    rcases h with h | h
    ·exact absurd h MC
    ·exact Nat.le_min.2 ⟨h,ho⟩
 ·exact .inl (by simp [Vh,Ne.symm hne])
theorem yj (hb0:c0.base≤c0.w.heap.size)(hd:fU n ds o){src dst:TypeId}{x:Operand}(ho:o.op = .convert src dst x){y:AV}(h:lI P s.h src dst (bI s.ρ x)=some y):iP P L0 c0 n ds o s (s.set o.dst y):=by
 have hex:∀(a:Act) (w w':World) v,(convert src dst (a.eval x)).run P w = .ok v w'→(execOp a.eval o).run P w = .ok (.value v) w':=by
  intro a w w' v hr; simp [execOp,ho,hr]
 unfold lI at h
 split at h
 ·rename_i e hs xH
  split at h
  rotate_left
  ·cases h
  rename_i hu
  obtain⟨he,hsz⟩:=oZ hu
  rw [Ud] at h
  obtain⟨⟨cs,m⟩,hcs,h⟩:=h
  rw [Ug] at h
  obtain⟨l,hl,rfl⟩:=h
  by_cases hst:∃st,bI s.ρ x = .str st
  ·
   obtain⟨st,hst⟩:=hst
   refine fm hd fun a c Lo lam f hn=>?_
   have hx:=bC f x
   rw [hst] at hx hcs
   simp only [SR,VR] at hx
   simp only [dY,if_true,Uh,Um] at hcs
   obtain⟨rfl,rfl⟩:=hcs
   refine⟨_,hex _ _ _ (.string st) ?_,?_⟩
   ·simp [convert,run_underlying hs,run_underlying xH,hx]
   ·have:∀(l0 l1:List UInt8),GS (l0.map fun b=>AV.int .u8 b.toNat)=some l1→l1=l0:=by
     intro l0
     induction l0 with
     | nil=>intro l1 h; simp [GS] at h; exact h
     | cons b l0 ih=>
      intro l1 h
      simp only [UH,GS,Ug] at h
      obtain⟨l2,h2,rfl⟩:=h
      rw [ih l2 h2]
      simp
    rw [this _ _ hl]
    simp [SR,VR]
  ·refine fm hd fun a c Lo lam f hn=>?_
   have hne:∀st,bI s.ρ x≠.str st:=fun st h=>hst ⟨st,h⟩
   have hx:=bC f x
   obtain⟨news,hS,hv⟩:=oY f hx (.inl ⟨e,hs⟩) (fun st h=>absurd h (hne st)) (fun _=>⟨e,hs⟩) hcs
   obtain⟨xs,rfl,rfl⟩:=zr hl hv
   exact⟨_,hex _ _ _ _ (vT hs he xH hS (sO hx hcs hne)),by simp [SR,VR,ux]⟩
 ·rename_i e hs xH
  cases Bk:bI s.ρ x<;>rw [Bk] at h<;>simp only at h<;>try (cases h; done)
  rename_i st
  split at h
  rotate_left
  ·cases h
  rename_i hu
  obtain⟨he,hsz⟩:=oZ hu
  cases h
  refine rz hb0 hd (fun a c Lo lam f hn hbs=>?_) (by rintro k off h; cases h)
  have hx:=bC f x
  rw [Bk] at hx
  simp only [SR,VR] at hx
  have hr:=run_bytes_of_string c.w src dst e st hs xH he
  rw [←hx] at hr
  refine⟨_,_,hex _ _ _ _ hr,fun b hb=>.inl (alloc_old c.w.drew _ (show b<c.w.heap.size from hb)),fun id hl=>alloc_old c.w.drew _ (show (c.β id).1<c.w.heap.size from f.rel.block hl),fun b hb=>alloc_old c.w.drew _ (show b<c.w.heap.size by omega),by show c.w.heap.size≤(c.w.heap.push _).size; simp,rfl,rfl,rfl,fun e'=>?_⟩
  simp only [VR]
  refine⟨_,_,rfl,grownCap_ge c.w,by simp,.inl rfl,?_⟩
  refine .inr ⟨c.w.heap.size,0,rfl,CR f.rel rfl rfl,by simp,?_⟩
  refine Cells.of_vals (bytes_VRs st.data.toList) (fun i hi=>?_) (fun v hv=>by obtain⟨b,_,rfl⟩:=US.1 hv; rfl)
  have jo:i<st.data.size:=by simpa using hi
  have:(World.alloc c.w.drew (.cells (bytesRow st (grownCap c.w st.size 0 e)) e ((bytesRow st (grownCap c.w st.size 0 e)).size,(bytesRow st (grownCap c.w st.size 0 e)).size+1))).heap[c.w.heap.size]? = some (.cells (bytesRow st (grownCap c.w st.size 0 e)) e ((bytesRow st (grownCap c.w st.size 0 e)).size,(bytesRow st (grownCap c.w st.size 0 e)).size+1)):=hU c.w.drew _
  rw [cell_of_block this]
  simp [bytesRow,Array.getElem?_append,jo]
  intro hge
  have:st.size=st.data.size:=rfl
  omega
 ·rename_i e0 e hs xH
  cases Bk:bI s.ρ x<;>rw [Bk] at h<;>try (cases h; done)
  rename_i cs m ex
  cases ex
  ·cases h
  simp only at h
  split at h
  rotate_left
  ·cases h
  rename_i hu
  simp only [Ui,beq_iff_eq,decide_eq_true_eq] at hu
  obtain⟨⟨Rv,hu⟩,nU⟩:=hu
  subst Rv
  obtain⟨he,hsz⟩:=oZ hu
  cases h
  refine rz hb0 hd (fun a c Lo lam f hn hbs=>?_) (by rintro k off h; cases h)
  have hx:=bC f x
  rw [Bk] at hx
  have FB:=hx.vr (by rintro k off h; cases h)
  simp only [SR,VR] at hx
  obtain⟨ad,cap,pQ,h1,h2,_,h3⟩:=hx
  rcases h3 with rfl | ⟨b,off,rfl,GU,hbb,hc⟩
  ·simp at nU
  have hlt:b<c.w.heap.size:=by
   cases cs with
   | nil=>simp at nU
   | cons x cs=>exact jq hc
  have mV:∃C e' fr,c.w.heap[b]? = some (.cells C e' fr):=by
   cases cs with
   | nil=>simp at nU
   | cons x cs=>
    obtain⟨⟨v,hv,_⟩,_⟩:=hc
    unfold World.cell? at hv
    split at hv
    ·exact⟨_,_,_,by assumption⟩
    ·cases hv
  obtain⟨C,e',fr,hb⟩:=mV
  obtain⟨k1,k2,k3,k4,k5,k6⟩:=uy (k:=1) hb (Uj C.size) (by decide)
  refine⟨c.w.freeze ⟨b,C.size,none⟩ 1,a.eval x,hex _ _ _ _ ?_,fun b' _=>k1 b',fun id hl=>k2 _ (GU.1 id hl),fun b' sH=>k2 b' (by have:=hbb trivial; omega),by rw [k3]; exact Uj _,k4,k5,k6,fun HI=>VR.ext HI _ _ FB⟩
  rw [pQ]
  have Fc:c.w.shape? b=some (e',C.size):=by simp [World.shape?,hb]
  simp [convert,run_underlying xH,run_underlying he,markStringish,Fc]
 ·rw [Ud] at h
  obtain⟨v,hv,h⟩:=h
  rw [Ud] at h
  obtain⟨r,hr,h⟩:=h
  refine fm hd fun a c Lo lam f hn=>?_
  have hx:=kn hv ((bC f x).vr (ko hv))
  exact⟨r,hex _ _ _ _ (by rw [hx]; exact jM _ hr),SR.of (mA h)⟩
theorem dU {op:BinOp}{t:TypeId}{x y:Operand}{u v:Value}(h:(∀a b,u≠.agg a∨v≠.agg b)∧u≠.nilIface)(w:World):(eqGuard op t x y u v).run P w = .ok () w:=by
 obtain⟨h1,h2⟩:=h
 unfold eqGuard
 cases op<;>first | rfl | skip
 all_goals
  simp only [Vd,Up,if_false]
  split
  ·exact absurd rfl h2
  ·rename_i a b; rcases h1 a b with h3 | h3<;>exact absurd rfl h3
  ·rfl
theorem yk {x:AV}{u:Value}(h:x.fR=some u):(∀a,u≠.agg a)∧u≠.nilIface:=by
 unfold AV.fR at h
 split at h<;>first | (cases h; done) | (cases h; exact⟨fun _=>(by simp),(by simp)⟩)
theorem Bo {op:BinOp}{a b:ByteArray}{y:AV}(h:xT op a b=some y)(w:World):∃r,(Op.stringOp op a b).run P w = .ok r w∧∀(c:Cx) (L:Nat→Prop),VR c L y r:=by
 have hl:∀z:ByteArray,z.toList=z.data.toList:=fun z=>ByteArray.toList_eq z
 unfold xT at h
 unfold Op.stringOp
 simp only [hl]
 cases op<;>simp only at h<;>try (cases h; done)
 ·split at h
  rotate_left
  ·cases h
  rename_i hsz
  cases h
  refine⟨.string (a++b),?_,fun c L=>by simp only [VR]⟩
  have h1:¬(((a.size+b.size:Nat):Int) > IntKind.i64.max):=by
   have:IntKind.i64.max=9223372036854775807:=by decide
   rw [this]; omega
  simp only [h1,if_false]
  rfl
 all_goals (cases h; exact⟨_,rfl,fun c L=>by simp only [VR]⟩)
theorem mB {op:BinOp}{oO:Bool}(h:xU op=some oO):(op = .eql∧oO=true)∨(op = .neq∧oO=false):=by
 unfold xU at h
 split at h<;>cases h
 ·exact .inl ⟨rfl,rfl⟩
 ·exact .inr ⟨rfl,rfl⟩
theorem nq {t:TypeId}(ht:∃q,P.underlying t=some (.pointer q)){a:Addr}{op:BinOp}{oO:Bool}(h:xU op=some oO)(w:World) :
  (binOp op t (.pointer (some a)) (.pointer none)).run P w = .ok (.bool (!oO)) w∧(binOp op t (.pointer none) (.pointer (some a))).run P w = .ok (.bool (!oO)) w:=by
 obtain⟨q,hq⟩:=ht
 have e1:(Op.equal t (.pointer (some a)) (.pointer none)).run P w = .ok false w:=by
  unfold Op.equal Op.maxDepth
  unfold Op.equalIn
  simp [bm hq]
 have e2:(Op.equal t (.pointer none) (.pointer (some a))).run P w = .ok false w:=by
  unfold Op.equal Op.maxDepth
  unfold Op.equalIn
  simp [bm hq]
 rcases mB h with⟨rfl,rfl⟩| ⟨rfl,rfl⟩
 ·constructor
  ·show ((do pure (.bool (←Op.equal t (.pointer (some a)) (.pointer none)))):Sem Value).run P w=_
   simp [e1]
  ·show ((do pure (.bool (←Op.equal t (.pointer none) (.pointer (some a))))):Sem Value).run P w=_
   simp [e2]
 ·constructor
  ·show ((do pure (.bool (!(←Op.equal t (.pointer (some a)) (.pointer none))))):Sem Value).run P w=_
   simp [e1]
  ·show ((do pure (.bool (!(←Op.equal t (.pointer none) (.pointer (some a)))))):Sem Value).run P w=_
   simp [e2]
theorem nV {t:TypeId}(ht:∃q,P.underlying t=some (.slice q)){ad:Option Addr}(hs:ad.isSome=true){m cap:Nat}{op:BinOp}{oO:Bool}(h:xU op=some oO)(w:World) :
  (binOp op t (.slice ad m cap) (.slice none 0 0)).run P w = .ok (.bool (!oO)) w:=by
 obtain⟨q,hq⟩:=ht
 obtain⟨a,rfl⟩:=UM.1 hs
 have e1:(Op.equal t (.slice (some a) m cap) (.slice none 0 0)).run P w = .ok false w:=by
  unfold Op.equal Op.maxDepth
  unfold Op.equalIn
  simp [bm hq]
 rcases mB h with⟨rfl,rfl⟩| ⟨rfl,rfl⟩
 ·show ((do pure (.bool (←Op.equal t (.slice (some a) m cap) (.slice none 0 0)))):Sem Value).run P w=_
  simp [e1]
 ·show ((do pure (.bool (!(←Op.equal t (.slice (some a) m cap) (.slice none 0 0))))):Sem Value).run P w=_
  simp [e1]
theorem CW (hd:fU n ds o){op:BinOp}{t t2:TypeId}{x y:Operand}(ho:o.op = .binOp op t x y t2){z:AV}(h:lJ P op t (bI s.ρ x) (bI s.ρ y)=some z):iP P L0 c0 n ds o s (s.set o.dst z):=by
 refine fm hd fun a c Lo lam f hn=>?_
 have hx:=bC f x
 have hy:=bC f y
 have hex:∀v,(eqGuard op t x y (a.eval x) (a.eval y)).run P c.w = .ok () c.w→(binOp op t (a.eval x) (a.eval y)).run P c.w = .ok v c.w→(execOp a.eval o).run P c.w = .ok (.value v) c.w:=by
  intro v h1 h2; simp [execOp,ho,h1,h2]
 unfold lJ at h
 split at h
 ·rename_i p q hp hq
  rw [hp] at hx; rw [hq] at hy
  simp only [SR,VR] at hx hy
  obtain⟨r,hr,hv⟩:=Bo (P:=P) h c.w
  refine⟨r,hex _ (dU ⟨fun _ _=>.inl (by rw [hx]; simp),by rw [hx]; simp⟩ _) ?_,SR.of (hv _ _)⟩
  rw [hx,hy]
  unfold binOp
  simpa using hr
 ·rename_i p q hp hq
  rw [hp] at hx; rw [hq] at hy
  simp only [SR,VR] at hx hy
  obtain⟨_,ad,pQ,_⟩:=hx
  rw [Ud] at h
  obtain⟨oO,qh,h⟩:=h
  split at h
  rotate_left
  ·cases h
  rename_i ht
  cases h
  refine⟨.bool (!oO),hex _ (dU ⟨fun _ _=>.inl (by rw [pQ]; simp),by rw [pQ]; simp⟩ _) ?_,SR.of (by simp [VR])⟩
  rw [pQ,hy]
  exact (nq ⟨_,ht⟩ qh _).1
 ·rename_i p q hp hq
  rw [hp] at hx; rw [hq] at hy
  simp only [SR,VR] at hx hy
  obtain⟨_,ad,LM,_⟩:=hy
  rw [Ud] at h
  obtain⟨oO,qh,h⟩:=h
  split at h
  rotate_left
  ·cases h
  rename_i ht
  cases h
  refine⟨.bool (!oO),hex _ (dU ⟨fun _ _=>.inl (by rw [hx]; simp),by rw [hx]; simp⟩ _) ?_,SR.of (by simp [VR])⟩
  rw [hx,LM]
  exact (nq ⟨_,ht⟩ qh _).2
 ·rename_i p q hp hq
  rw [hp] at hx; rw [hq] at hy
  simp only [SR,VR] at hx hy
  obtain⟨b,off,pQ,_⟩:=hx
  rw [Ud] at h
  obtain⟨oO,qh,h⟩:=h
  split at h
  rotate_left
  ·cases h
  rename_i ht
  cases h
  refine⟨.bool (!oO),hex _ (dU ⟨fun _ _=>.inl (by rw [pQ]; simp),by rw [pQ]; simp⟩ _) ?_,SR.of (by simp [VR])⟩
  rw [pQ,hy]
  exact (nq ⟨_,ht⟩ qh _).1
 ·rename_i hp hq
  rw [hp] at hx; rw [hq] at hy
  simp only [SR,VR] at hx hy
  obtain⟨ad,cap,pQ,_,_,hs,_⟩:=hx
  replace hs:ad.isSome=true:=hs.elim id fun h=>by cases h.1
  rw [Ud] at h
  obtain⟨oO,qh,h⟩:=h
  split at h
  rotate_left
  ·cases h
  rename_i ht
  cases h
  refine⟨.bool (!oO),hex _ (dU ⟨fun _ _=>.inl (by rw [pQ]; simp),by rw [pQ]; simp⟩ _) ?_,SR.of (by simp [VR])⟩
  rw [pQ,hy]
  exact nV ⟨_,ht⟩ hs qh _
 ·rename_i hp hq
  rw [hp] at hx; rw [hq] at hy
  simp only [SR,VR] at hx hy
  rcases hx with⟨hx,_⟩| ⟨_,_,ad,cap,pQ,_,hs,_⟩
  ·omega
  rw [Ud] at h
  obtain⟨oO,qh,h⟩:=h
  split at h
  rotate_left
  ·cases h
  rename_i ht
  cases h
  refine⟨.bool (!oO),hex _ (dU ⟨fun _ _=>.inl (by rw [pQ]; simp),by rw [pQ]; simp⟩ _) ?_,SR.of (by simp [VR])⟩
  rw [pQ,hy]
  exact nV ⟨_,ht⟩ hs qh _
 ·rename_i p q hp hq
  rw [hp,hq] at h
  rw [hp] at hx; rw [hq] at hy
  have FB:=hx.vr (by rintro k off h; cases h)
  have MD:=hy.vr (by rintro k off h; cases h)
  rw [Ud] at h
  obtain⟨oO,qh,h⟩:=h
  split at h
  rotate_left
  ·cases h
  rename_i jw
  simp only [Ui,Vl] at jw
  obtain⟨⟨⟨h1,h2⟩,h3⟩,h4⟩:=jw
  cases h
  have hk:=ti (P:=P) 9998 h1 h3 FB MD c.w
  simp only [VR] at FB MD
  obtain⟨vx,pQ,_⟩:=FB
  obtain⟨vy,LM,_⟩:=MD
  refine⟨.bool (fc (.agg p) (.agg q)==oO),hex _ ?_ ?_,SR.of (by simp only [VR])⟩
  ·rw [pQ,LM]
   rcases mB qh with⟨rfl,rfl⟩| ⟨rfl,rfl⟩<;>simp [eqGuard,h4,program,Sem.run]
  ·rw [pQ,LM] at hk ⊢
   rcases mB qh with⟨rfl,rfl⟩| ⟨rfl,rfl⟩
   ·show ((do pure (.bool (←Op.equal t (.agg vx) (.agg vy)))):Sem Value).run P c.w=_
    have JP:(Op.equal t (.agg vx) (.agg vy)).run P c.w=_:=hk
    simp [JP]
   ·show ((do pure (.bool (!(←Op.equal t (.agg vx) (.agg vy))))):Sem Value).run P c.w=_
    have JP:(Op.equal t (.agg vx) (.agg vy)).run P c.w=_:=hk
    simp [JP]
 ·rw [Ud] at h
  obtain⟨u,hu,h⟩:=h
  rw [Ud] at h
  obtain⟨v,hv,h⟩:=h
  rw [Ud] at h
  obtain⟨r,hr,h⟩:=h
  have h1:=kn hu (hx.vr (ko hu))
  have h2:=kn hv (hy.vr (ko hv))
  have h3:=yk hu
  exact⟨r,hex _ (dU ⟨fun p _=>.inl (by rw [h1]; exact h3.1 p),by rw [h1]; exact h3.2⟩ _) (by rw [h1,h2]; exact jM _ hr),SR.of (mA h)⟩
theorem FC (hd:fU n ds o){op:UnOp}{t:TypeId}{x:Operand}(ho:o.op = .unOp op t x){z:AV}(h:((bI s.ρ x).fR.bind fun a=>(ic P (Op.unary op a)).bind nL)=some z):iP P L0 c0 n ds o s (s.set o.dst z):=by
 refine fm hd fun a c Lo lam f hn=>?_
 rw [Ud] at h
 obtain⟨u,hu,h⟩:=h
 rw [Ud] at h
 obtain⟨r,hr,h⟩:=h
 have h1:=kn hu ((bC f x).vr (ko hu))
 refine⟨r,?_,SR.of (mA h)⟩
 have:=jM (P:=P) c.w hr
 rw [←h1] at this
 simp [execOp,ho,this]
theorem zt (hd:fU n ds o){x:Operand}(ho:o.op = .move x∨o.op = .assign x):iP P L0 c0 n ds o s (s.set o.dst (bI s.ρ x)):=
 fm hd fun a c Lo lam f hn=>⟨a.eval x,by rcases ho with ho | ho<;>simp [execOp,ho],bC f x⟩
theorem FD (hd:fU n ds o){k x y:Operand}(ho:o.op = .pick k x y){t:Bool}(h:q9 (bI s.ρ k)=some t):iP P L0 c0 n ds o s (s.set o.dst (if t then bI s.ρ x else bI s.ρ y)):=by
 refine fm hd fun a c Lo lam f hn=>?_
 have hk:=bC f k
 unfold q9 at h
 split at h
 ·rename_i b hb
  cases h
  rw [hb] at hk
  simp only [SR,VR] at hk
  refine⟨if t then a.eval x else a.eval y,by simp [execOp,ho,hk,asBool],?_⟩
  cases t
  ·exact bC f y
  ·exact bC f x
 ·cases h
theorem vU (hd:fU n ds o){x:Operand}(ho:o.op = .nilCheck x){z:AV}(h:oT (bI s.ρ x)=some z):iP P L0 c0 n ds o s (s.set o.dst z):=by
 refine fm hd fun a c Lo lam f hn=>?_
 have hx:=bC f x
 have hp:(∃ad,a.eval x = .pointer (some ad))∧z=bI s.ρ x:=by
  unfold oT at h
  split at h
  ·rename_i id off heq
   cases h
   rw [heq] at hx
   simp only [SR,VR] at hx
   obtain⟨_,ad,h1,_⟩:=hx
   exact⟨⟨ad,h1⟩,heq.symm⟩
  ·rename_i k off heq
   cases h
   rw [heq] at hx
   simp only [SR] at hx
   exact⟨⟨_,hx.1⟩,heq.symm⟩
  ·rename_i cs off heq
   cases h
   rw [heq] at hx
   simp only [SR,VR] at hx
   obtain⟨b,o',h1,_⟩:=hx
   exact⟨⟨_,h1⟩,heq.symm⟩
  ·cases h
 obtain⟨⟨ad,hp⟩,rfl⟩:=hp
 exact⟨a.eval x,by simp [execOp,ho,hp],hx⟩
theorem mC {c:Cx}{Lo:Nat→Prop}{lam:Nat→Nat}{a:Act}(f:Fr L0 c Lo lam ds s a):∀xs:List Operand,(∀x∈xs,∀k off,bI s.ρ x≠.lp k off)→VRs c (un L0 Lo) (xs.map (bI s.ρ)) (xs.map a.eval)
 | [],_=>trivial
 | x::xs,h=>⟨(bC f x).vr (h x (by simp)),mC f xs fun y hy=>h y (by simp [hy])⟩
theorem Bp {x:AV}(h:x.bQ=true):∀k off,x≠.lp k off:=by rintro k off rfl; simp [AV.bQ] at h
theorem vV (hd:fU n ds o){yl:FuncId}{first cap:Array Operand}(ho:o.op = .makeFunc (.func yl) first cap)(hf:first.isEmpty=true)(hc:(cap.toList.map (bI s.ρ)).all AV.bQ=true):iP P L0 c0 n ds o s (s.set o.dst (.fn yl (cap.toList.map (bI s.ρ)))):=by
 refine fm hd fun a c Lo lam f hn=>?_
 have ME:first = #[]:=by simpa using hf
 subst ME
 refine⟨.func (.func yl) #[] (cap.map a.eval),by simp [execOp,ho,Instr.makeFunc],SR.of ?_⟩
 simp only [VR]
 refine⟨_,rfl,?_⟩
 rw [Array.toList_map]
 refine mC f _ fun x hx=>Bp ?_
 rw [Uy] at hc
 exact hc _ (US.2 ⟨x,hx,rfl⟩)
theorem ym (hd:fU n ds o){x:Operand}{i:Nat}(ho:o.op = .extract x i){z:AV}(h:re (bI s.ρ x) i=some z):iP P L0 c0 n ds o s (s.set o.dst z):=by
 refine fm hd fun a c Lo lam f hn=>?_
 have hx:=bC f x
 cases heq:bI s.ρ x<;>rw [heq] at h hx<;>simp only [re] at h<;>try (cases h; done)
 rename_i vs
 simp only [SR,VR] at hx
 obtain⟨us,pQ,Cj⟩:=hx
 obtain⟨v,hv,hr⟩:=Cj.get i z h
 have MF:us[i]? = some v:=by simpa using hv
 exact⟨v,by simp [execOp,ho,pQ,Instr.extract,MF],SR.of hr⟩
theorem pR {op:Value→Value→Sem Value}:∀(vs:List Value) (v r:Value) (w:World),kM P op v vs=some r→(vs.foldlM op v).run P w = .ok r w
 | [],v,r,w,h=>by simp only [kM,Uh] at h; subst h; rfl
 | x::xs,v,r,w,h=>by
  simp only [kM,Ud] at h
  obtain⟨u,h1,h2⟩:=h
  simp only [List.foldlM_cons,Sem.run_bind,jM w h1,Result.andThen_ok]
  exact pR xs u r w h2
theorem tu (hd:fU n ds o){b:Builtin}{zu:Array TypeId}{args:Array Operand}(ho:o.op = .call {callee:=.builtin b,args:=args,argTypes:=zu}){op:Value→Value→Sem Value}(hb:(b = .min∧op=Builtin.min2)∨(b = .max∧op=Builtin.max2))
  {x:AV} {xs:List AV} (he:args.toList.map (bI s.ρ)=x::xs) {v u:Value} {vs:List Value} (hx:x.fR=some v) (hxs:iD xs=some vs) (hf:kM P op v vs=some u) {z:AV} (hz:nL u=some z):iP P L0 c0 n ds o s (s.set o.dst z):=by
 refine fm hd fun a c Lo lam f hn=>?_
 refine⟨u,?_,SR.of (mA hz)⟩
 have hne:∀q:Operand,∀k off,bI s.ρ q = .lp k off→q∉args.toList:=by
  intro q k off hq hm
  have Fe:AV.lp k off∈x::xs:=by rw [←he,←hq]; exact US.2 ⟨q,hm,rfl⟩
  rcases UF.1 Fe with h1 | h1
  ·exact ko hx k off h1.symm
  ·have:∀(ys:List AV) (us:List Value),iD ys=some us→AV.lp k off∉ys:=by
    intro ys
    induction ys with
    | nil=>intro us _ h; cases h
    | cons y ys ih=>
     intro us hu hm
     simp only [iD,Ud] at hu
     obtain⟨u1,h2,TZ,h3,_⟩:=hu
     rcases UF.1 hm with h4 | h4
     ·exact ko h2 k off h4.symm
     ·exact ih _ h3 h4
   exact this _ _ hxs h1
 have ze:=mC f args.toList (fun q hq k off h=>hne q k off h hq)
 rw [he] at ze
 have kr:args.toList.map a.eval=v::vs:=oV (xs:=x::xs) (us:=v::vs) (by simp [iD,hx,hxs]) ze
 have hr:=pR vs v u c.w hf
 have hargs:args.map a.eval=(v::vs).toArray:=by rw [←kr]; apply VO; simp
 rcases hb with⟨rfl,rfl⟩| ⟨rfl,rfl⟩
 ·simp [execOp,ho,resolve,invoke,builtin,Builtin.min_,hargs,hr]
 ·simp [execOp,ho,resolve,invoke,builtin,Builtin.max_,hargs,hr]
end
end Go.R
namespace Go.R
open Go
section
variable {P:Program}{L0:Nat→Prop}{c0:Cx}{n:Nat}{ds:List Nat}{s:RS}
theorem Fr.CX {c:Cx}{Lo:Nat→Prop}{lam:Nat→Nat}{a:Act}(f:Fr L0 c Lo lam ds s a)(id:Nat) :
  Ext c Lo ⟨c.β,c.h.kill id,c.w,c.base⟩ Lo∧Fr L0 ⟨c.β,c.h.kill id,c.w,c.base⟩ Lo lam ds {s with h:=s.h.kill id} a∧(Live c.h id→RO ⟨c.β,c.h.kill id,c.w,c.base⟩ (un L0 Lo) (c.β id).1):=by
 have hg:∀i,(c.h.kill id).get i=if i=id then none else c.h.get i:=fun i=>by
  simp only [AHeap.kill,beq_nat]
  by_cases h:i=id<;>simp [h]
 have ll:∀i,Live (c.h.kill id) i→i≠id∧Live c.h i:=fun i hl=>by
  have h2:=hl.2
  rw [hg] at h2
  by_cases h:i=id
  ·rw [if_pos h] at h2; cases h2
  ·rw [if_neg h] at h2
   obtain⟨o,ho⟩:=UM.1 h2
   exact⟨h,f.rel.lt _ _ ho,h2⟩
 have e:Ext c Lo ⟨c.β,c.h.kill id,c.w,c.base⟩ Lo:=
  ⟨Vn _,fun i hi hl=>⟨(ll i hl).2,rfl,rfl⟩,Uj _,fun _ _ _ _=>.inl rfl,fun _ _=>rfl,rfl,fun i hl=>.inr ⟨i,(ll i hl).2,rfl⟩,fun _ h=>h,fun _ h=>.inl h,rfl,rfl,rfl⟩
 refine⟨e,⟨by rw [←f.h],⟨fun i o ho=>?_,fun i o ho=>?_,fun i j hi hj he=>?_,fun i hi=>?_,f.rel.bd,fun i hi=>?_,(Steady.kill c.h id).wf f.rel.ver⟩,fun t=>?_,fun k cs hb=>?_,f.inj,f.tidy,f.defers,f.CE⟩,fun hl=>⟨fun i hi he=>?_,f.rel.out id hl⟩⟩
 ·replace ho:(c.h.kill id).get i=some o:=ho
  rw [hg] at ho
  by_cases h:i=id
  ·rw [if_pos h] at ho; cases ho
  ·rw [if_neg h] at ho; exact Vr (f.rel.lt _ _ ho)
 ·replace ho:(c.h.kill id).get i=some o:=ho
  rw [hg] at ho
  by_cases h:i=id
  ·rw [if_pos h] at ho; cases ho
  ·rw [if_neg h] at ho
   exact (f.rel.obj i o ho).ext e rfl
 ·exact f.rel.inj i j (ll i hi).2 (ll j hj).2 he
 ·exact f.rel.out i (ll i hi).2
 ·exact f.rel.low i (ll i hi).2
 ·exact (f.slot t).ext e (fun _ _ _=>⟨rfl,fun h=>h⟩)
 ·have hb2:=f.box k cs hb
  exact hb2.ext e (.inl rfl)
 ·obtain⟨h1,h2⟩:=ll i hi
  exact h1 (f.rel.inj i id h2 hl he)
theorem FE {c:Cx}{Lo:Nat→Prop}{lam:Nat→Nat}{a:Act}(f:Fr L0 c Lo lam ds s a){x y:AV}{h':AHeap}(h:Bf s.h x=some (y,h')) :
  Ext c Lo ⟨c.β,h',c.w,c.base⟩ Lo∧Fr L0 ⟨c.β,h',c.w,c.base⟩ Lo lam ds {s with h:=h'} a∧(∀v,VR c (un L0 Lo) x v→VR ⟨c.β,h',c.w,c.base⟩ (un L0 Lo) y v)∧∀i,Live h' i→Live c.h i:=by
 have same:Ext c Lo ⟨c.β,s.h,c.w,c.base⟩ Lo∧Fr L0 ⟨c.β,s.h,c.w,c.base⟩ Lo lam ds {s with h:=s.h} a∧(⟨c.β,s.h,c.w,c.base⟩:Cx)=c:=by
  have e:(⟨c.β,s.h,c.w,c.base⟩:Cx)=c:=by rw [←f.h]
  rw [e]; exact⟨Ext.refl _ _,f,rfl⟩
 unfold Bf at h
 split at h
 ·simp only [Uh,Um] at h
  obtain⟨rfl,rfl⟩:=h
  obtain⟨h1,h2,h3⟩:=same
  exact⟨h1,h2,fun v hv=>by rw [h3]; exact hv,fun i hi=>by rw [f.h]; exact hi⟩
 cases x with
 | rs id off len hH=>
  simp only at h
  split at h
  ·rename_i hid
   split at h
   rotate_left
   ·cases h
   rename_i hl0
   simp only [Uh,Um] at h
   obtain⟨rfl,rfl⟩:=h
   obtain⟨h1,h2,h3⟩:=same
   refine⟨h1,h2,fun v hv=>?_,fun i hi=>by rw [f.h]; exact hi⟩
   simp only [VR] at hv ⊢
   rcases hv with⟨_,_,_,a,rfl⟩| hv
   ·exact⟨a,0,rfl,Uj _,fun _=>rfl,.inr ⟨trivial,rfl⟩,.inl trivial⟩
   ·exact absurd hid hv.1
  rename_i jG
  rw [Ud] at h
  obtain⟨ob,ho,h⟩:=h
  cases ob with
  | map es=>cases h
  | row t cs=>cases h
  | cells cs=>
  simp only at h
  split at h
  rotate_left
  ·cases h
  rename_i hle
  simp only [Uh,Um] at h
  obtain⟨rfl,rfl⟩:=h
  rw [←f.h] at ho
  have hl:Live c.h id:=⟨f.rel.lt _ _ ho,by simp [ho]⟩
  obtain⟨e,f',GU⟩:=f.CX id
  have hb:(⟨c.β,s.h.kill id,c.w,c.base⟩:Cx)=⟨c.β,c.h.kill id,c.w,c.base⟩:=by rw [f.h]
  rw [hb]
  refine⟨e,f',fun v hv=>?_,fun i hi=>?_⟩
  ·simp only [VR] at hv ⊢
   rcases hv with hv | ⟨_,_,a,cap,rfl,h1,h2,h3⟩
   ·exact absurd hv.1 jG
   obtain⟨m,_,_,hc⟩:=f.rel.obj _ _ ho
   refine⟨a,cap,rfl,h1,by simp,.inl h2,?_⟩
   rcases h3 hl with⟨h4,_⟩| h4
   ·exact .inr ⟨_,_,h4,GU hl,by simp,Cells.move e _ _ _ _ _ (fun i hi=>rfl) ((hc.drop off).take (len*hH))⟩
   ·left
    have hz:len=0:=by omega
    subst hz
    simp
  ·have zd:=hi.2
   simp only [AHeap.kill,beq_nat] at zd
   by_cases h:i=id
   ·simp [h] at zd
   ·simp only [h,decide_false,cond_false] at zd
    rw [f.h]
    obtain⟨o,Jt⟩:=UM.1 zd
    have:=f.rel.lt i o (by rw [f.h]; exact Jt)
    rw [f.h] at this
    exact⟨this,zd⟩
 | _=>cases h
theorem zw:∀{cs:List AV} {c:Cx} {Lo:Nat→Prop} {lam:Nat→Nat} {a:Act} {s:RS} {ys:List AV} {h':AHeap},Fr L0 c Lo lam ds s a→ud s.h cs=some (ys,h')→
  Ext c Lo ⟨c.β,h',c.w,c.base⟩ Lo∧Fr L0 ⟨c.β,h',c.w,c.base⟩ Lo lam ds {s with h:=h'} a∧(∀b o,Cells c (un L0 Lo) cs b o→Cells ⟨c.β,h',c.w,c.base⟩ (un L0 Lo) ys b o)∧∀i,Live h' i→Live c.h i
 | [],c,Lo,lam,a,s,ys,h',f,h=>by
  cases h
  have e:(⟨c.β,s.h,c.w,c.base⟩:Cx)=c:=by rw [←f.h]
  rw [e]
  exact⟨Ext.refl _ _,f,fun _ _ h=>h,fun i hi=>by rw [f.h]; exact hi⟩
 | x::cs,c,Lo,lam,a,s,ys,h',f,h=>by
  simp only [ud,Ud,Ug] at h
  obtain⟨⟨y,h1⟩,hx,⟨zs,h2⟩,hz,he⟩:=h
  simp only [Um] at he
  obtain⟨rfl,rfl⟩:=he
  obtain⟨e1,f1,v1,l1⟩:=FE f hx
  obtain⟨e2,f2,v2,l2⟩:=zw f1 hz
  refine⟨e1.trans e2,f2,fun b o hc=>?_,fun i hi=>l1 i (l2 i hi)⟩
  obtain⟨⟨v,q1,q2,q3⟩,hc⟩:=hc
  exact⟨⟨v,q1,q2,VR.ext e2 _ _ (v1 v q3)⟩,v2 _ _ (Cells.move e1 _ _ _ _ _ (fun i hi=>rfl) hc)⟩
theorem uz {c:Cx}{Lo:Nat→Prop}{lam:Nat→Nat}{a:Act}(f:Fr L0 c Lo lam ds s a){k:Nat}{x y:AV}{h':AHeap}(h:iO k s.h x=some (y,h')) :
  (∀k off,x≠.lp k off)∧(∀k off,y≠.lp k off)∧∃c',c'.w=c.w∧Ext c Lo c' Lo∧Fr L0 c' Lo lam ds {s with h:=h'} a∧∀v,VR c (un L0 Lo) x v→VR c' (un L0 Lo) y v:=by
 cases k with
 | zero=>
  cases x with
  | nils=>
   simp only [iO,Uh,Um] at h
   obtain⟨rfl,rfl⟩:=h
   refine⟨by simp,by simp,c,rfl,Ext.refl _ _,f,fun v hv=>?_⟩
   simp only [VR] at hv ⊢
   exact⟨none,0,hv,Uj _,fun _=>rfl,.inr ⟨trivial,rfl⟩,.inl trivial⟩
  | fz cs m ex=>
   simp only [iO,Uh,Um] at h
   obtain⟨rfl,rfl⟩:=h
   refine⟨by simp,by simp,c,rfl,Ext.refl _ _,f,fun v hv=>?_⟩
   simp only [VR] at hv ⊢
   obtain⟨a,cap,rfl,h1,h2,hs,hc⟩:=hv
   exact⟨a,cap,rfl,h1,by simp,hs,hc.imp id fun ⟨b,o,ha,hr,hex,hc⟩=>⟨b,o,ha,hr,by simp,hc⟩⟩
  | rs id off len hH=>
   simp only [iO] at h
   split at h
   ·rename_i hid
    split at h
    rotate_left
    ·cases h
    rename_i hl0
    simp only [Uh,Um] at h
    obtain⟨rfl,rfl⟩:=h
    refine⟨by simp,by simp,c,rfl,Ext.refl _ _,f,fun v hv=>?_⟩
    simp only [VR] at hv ⊢
    rcases hv with⟨_,_,_,a,rfl⟩| hv
    ·exact⟨a,0,rfl,Uj _,fun _=>rfl,.inr ⟨trivial,rfl⟩,.inl trivial⟩
    ·exact absurd hid hv.1
   rename_i jG
   rw [Ud] at h
   obtain⟨ob,ho,h⟩:=h
   cases ob with
   | map es=>cases h
   | row t cs=>cases h
   | cells cs=>
   simp only at h
   split at h
   rotate_left
   ·cases h
   rename_i hle
   rw [Ug] at h
   obtain⟨⟨eS,h2⟩,hz,he⟩:=h
   simp only [Um] at he
   obtain⟨rfl,rfl⟩:=he
   rw [←f.h] at ho
   have hl:Live c.h id:=⟨f.rel.lt _ _ ho,by simp [ho]⟩
   obtain⟨e,f',GU⟩:=f.CX id
   obtain⟨e2,f2,hcs,ll⟩:=zw f' hz
   refine⟨by simp,by simp,⟨c.β,h2,c.w,c.base⟩,rfl,e.trans e2,f2,fun v hv=>?_⟩
   simp only [VR] at hv ⊢
   rcases hv with hv | ⟨_,_,a,cap,rfl,h1,h2,h3⟩
   ·exact absurd hv.1 jG
   obtain⟨m,_,_,hc⟩:=f.rel.obj _ _ ho
   refine⟨a,cap,rfl,h1,by simp,.inl h2,?_⟩
   rcases h3 hl with⟨h4,_⟩| h4
   ·exact .inr ⟨_,_,h4,⟨fun i hi=>(GU hl).1 i (ll i hi),(GU hl).2⟩,by simp,hcs _ _ (Cells.move e _ _ _ _ _ (fun i hi=>rfl) ((hc.drop off).take (len*hH)))⟩
   ·left
    have hz0:len=0:=by omega
    subst hz0
    simp [ud] at hz
    exact hz.1
  | _=>simp [iO] at h
 | succ k=>
  have key:(x = .nils∨x = .fz [] 0 true)→y = .rs 0 0 0 (k+1)→h'=s.h→(∀k off,x≠.lp k off)∧(∀k off,y≠.lp k off)∧∃c',c'.w=c.w∧Ext c Lo c' Lo∧Fr L0 c' Lo lam ds {s with h:=h'} a∧∀v,VR c (un L0 Lo) x v→VR c' (un L0 Lo) y v:=by
   rintro hx rfl rfl
   refine⟨by rcases hx with rfl | rfl<;>simp,by simp,c,rfl,Ext.refl _ _,f,fun v hv=>?_⟩
   rcases hx with rfl | rfl
   ·simp only [VR] at hv ⊢
    exact .inl ⟨trivial,trivial,trivial,none,hv⟩
   ·simp only [VR] at hv ⊢
    obtain⟨a,cap,rfl,h1,h2,hs,hc⟩:=hv
    have:=h2 trivial
    subst this
    exact .inl ⟨trivial,trivial,trivial,a,rfl⟩
  unfold iO at h
  simp only at h
  split at h
  ·simp only [Uh,Um] at h
   exact key (.inl rfl) h.1.symm h.2.symm
  ·simp only [Uh,Um] at h
   exact key (.inr rfl) h.1.symm h.2.symm
  ·simp only [Uh,Um] at h
   obtain⟨rfl,rfl⟩:=h
   exact⟨by simp,by simp,c,rfl,Ext.refl _ _,f,fun v hv=>hv⟩
  ·cases h
end
end Go.R
namespace Go.R
open Go
def CallOK (P:Program)(cf:CallF):Prop:=
 ∀f args h r h',cf f args h=some (r,h')→
  (∀(vs:Array Value) (w:World),(callFunc f vs).run P w = .ok (.enter f vs) w)∧
  ∀(L0:Nat→Prop) (c:Cx) (vs:List Value),c.h=h→c.base≤c.w.heap.size→HRel c L0→VRs c L0 args vs→
   Calls P f vs.toArray c.w fun e w'=>∃c' v,e = .returned v∧c'.w=w'∧c'.h=h'∧VR c' L0 r v∧HRel c' L0∧Ext c none0 c' none0
section
variable {P:Program}{L0:Nat→Prop}{c0:Cx}{n:Nat}{ds:List Nat}{o:Oper}{s:RS}
theorem Fr.call {c c':Cx}{Lo:Nat→Prop}{lam:Nat→Nat}{a:Act}(f:Fr L0 c Lo lam ds s a)(hr:HRel c' (un L0 Lo))(e:Ext c none0 c' none0) :
  Ext c Lo c' Lo∧Fr L0 c' Lo lam ds {s with h:=c'.h} a:=by
 have pK:∀b,Lo b→b<c.w.heap.size:=fun b hb=>f.rel.bd b (.inr hb)
 have e':Ext c Lo c' Lo:=
  ⟨e.next,e.live,e.size,fun b h1 _ h3=>e.keep b h1 (fun h=>h.elim) h3,e.exact,e.base,e.Fq,fun _ h=>h,fun _ h=>.inl h,e.os,e.tape,e.output⟩
 refine⟨e',rfl,hr,fun t=>(f.slot t).ext e' (fun _ _ _=>⟨rfl,fun h=>h⟩),fun k cs hb=>?_,f.inj,f.tidy,f.defers,fun b hb=>by rw [e.base]; exact f.CE b hb⟩
 have ob:=f.box k cs hb
 exact ob.ext e' (e.keep _ ob.plain.lt (fun h=>h.elim) fun id hl he=>f.rel.out id hl (he ▸ .inr ob.own))
theorem FF {cf:CallF}(hcf:CallOK P cf)(hb0:c0.base≤c0.w.heap.size)(hd:fU n ds o){fx:Operand}{args:Array Operand}{zu:Array TypeId}(ho:o.op = .call {callee:=.value fx,args:=args,argTypes:=zu}){yl:FuncId}{cap:List AV}
  (hf:bI s.ρ fx = .fn yl cap) (ha:(args.toList.map (bI s.ρ)).all AV.kg=true) {r:AV} {h':AHeap} (h:cf yl (args.toList.map (bI s.ρ)++cap) s.h=some (r,h')) {aE:List Nat} {y:AV} {h2:AHeap} (hy:uf aE o.dst (r,h')=some (y,h2)) :
  iP P L0 c0 n ds o s ({s with h:=h2}.set o.dst y):=by
 rintro a w K Q ⟨hn,c,Lo,lam,rfl,f,e0⟩ hK
 obtain⟨hin,hcall⟩:=hcf _ _ _ _ _ h
 have MG:=bC f fx
 rw [hf] at MG
 simp only [SR,VR] at MG
 obtain⟨cv,Rw,JS⟩:=MG
 have hargs:VRs c (un L0 Lo) (args.toList.map (bI s.ρ)) (args.toList.map a.eval):=by
  refine mC f _ fun x hx=>rE ?_
  rw [Uy] at ha
  exact ha _ (US.2 ⟨x,hx,rfl⟩)
 have kr:=VRs.append hargs JS
 unfold Oper.wp
 have:(execOp a.eval o).run P c.w = .ok (.enter yl (args.map a.eval++cv)) c.w:=by
  simp [execOp,ho,resolve,Rw,Deferred.ofValue,invoke,hin]
 rw [this,Oper.upon_enter]
 have hc:=hcall (un L0 Lo) c _ f.h (iN e0 hb0) f.rel kr
 have he:(args.toList.map a.eval++cv.toList).toArray=args.map a.eval++cv:=by
  apply VO; simp
 rw [he] at hc
 refine Calls.mono hc ?_
 rintro e w' ⟨c',v,rfl,rfl,hh,hv,hrel,HJ⟩
 obtain⟨e',f'⟩:=f.call hrel HJ
 rw [hh] at f'
 have fin:y=r→h2=h'→K (a.put o.dst v) c'.w:=by
  rintro rfl rfl
  exact hK _ _ ⟨(fT _ _ _).trans hn,c',Lo,lam,rfl,f'.set (SR.of hv) (fun t ht=>by rw [hn]; exact hd t ht),e0.trans e'⟩
 unfold uf at hy
 cases hm:JI aE o.dst with
 | false=>rw [hm,cond_false] at hy; cases hy; exact fin rfl rfl
 | true=>
  rw [hm,cond_true] at hy
  obtain⟨_,_,c2,hw,e2,f2,Hx⟩:=uz (s:={s with h:=h'}) f' hy
  have Mh:=Hx v hv
  refine hK _ _ ⟨(fT _ _ _).trans hn,c2,Lo,lam,hw,f2.set (SR.of Mh) (fun t ht=>by rw [hn]; exact hd t ht),(e0.trans e').trans e2⟩
theorem Option.map_some' {α β:Type}{x:Option α}{g:α→β}{y:β}(h:x.map g=some y):∃z,x=some z∧g z=y:=Ug.1 h
theorem tv {aE:List Nat}{cs:List AV}{s':RS}(h:gX s aE ds o cs=some s'):cs.all AV.bQ=true:=by
 unfold gX at h
 split at h
 ·assumption
 ·cases h
theorem HK {cf:CallF}(hcf:CallOK P cf)(hb0:c0.base≤c0.w.heap.size)(hd:fU n ds o){aE:List Nat}{s':RS}(h:ug P cf aE ds s o=some s'):iP P L0 c0 n ds o s s':=by
 have dP:∀{x:Option AV},(x.map fun x=>s.set o.dst x)=some s'→(∀z,x=some z→iP P L0 c0 n ds o s (s.set o.dst z))→iP P L0 c0 n ds o s s':=by
  intro x hx hz
  obtain⟨z,rfl,rfl⟩:=Option.map_some' hx
  exact hz z rfl
 unfold ug xX at h
 dsimp only at h
 split at h
 ·rename_i x ho; cases h; exact zt hd (.inl ho)
 ·rename_i x ho; cases h; exact zt hd (.inr ho)
 ·rename_i k x y ho
  obtain⟨t,ht,rfl⟩:=Option.map_some' h
  exact FD hd ho ht
 ·
  rename_i t ho
  rw [Ud] at h
  obtain⟨z,hz,h⟩:=h
  refine tl hb0 hd t h fun a c Lo lam f hn=>?_
  have nH:=tv h
  obtain⟨v,h1,h2,h3⟩:=Bm (P:=P) (c:=c) hz (Fx nH) (un L0 Lo)
  exact⟨v,by simp [execOp,ho,h1],zk h2,h3⟩
 ·
  rename_i t x ho
  refine tl hb0 hd t h fun a c Lo lam f hn=>?_
  have nH:(bI s.ρ x).cells.all AV.bQ=true:=tv h
  obtain⟨h1,h2⟩:=il nH ((bC f x).qO nH)
  exact⟨a.eval x,by simp [execOp,ho,Instr.box,newVar,newRow],h1,h2⟩
 ·rename_i t ps ho
  refine dP h fun z hz=>fm hd fun a c Lo lam f hn=>?_
  obtain⟨z0,hz0,rfl⟩:=Ug.1 hz
  obtain⟨v,hr,hv⟩:=run_build (P:=P) (nQ f ps.toList) hz0
  refine⟨v,?_,SR.of (Fw hv)⟩
  have he:ps.map (fun (i,x)=>(i,a.eval x))=(ps.toList.map fun (i,x)=>(i,a.eval x)).toArray:=by
   apply VO; simp
  simp only [execOp,ho,Sem.run_bind]
  rw [he,hr]
  rfl
 ·rename_i t k ps ho
  rw [Ug] at h
  obtain⟨z,hz,rfl⟩:=h
  exact rA hb0 hd ho aE hz
 ·
  rename_i t x ho
  refine dP h fun z hz=>fm hd fun a c Lo lam f hn=>?_
  obtain⟨r,hr,hv⟩:=rl (P:=P) f (t:=t) (bC f x) hz
  exact⟨r,by simp [execOp,ho,hr],SR.of hv⟩
 ·
  rename_i t x y ho
  split at h
  ·cases h
  rename_i qe
  exact CN hb0 hd ho (by simpa using qe) h
 ·rename_i ho; exact dP h fun z hz=>vU hd ho hz
 ·rename_i ho; exact dP h fun z hz=>CW hd ho hz
 ·rename_i ho; exact dP h fun z hz=>FC hd ho hz
 ·rename_i ho; exact dP h fun z hz=>yj hb0 hd ho hz
 ·rename_i yl first cap ho
  split at h
  ·rename_i hh
   refine dP h fun z hz=>?_
   cases hz
   exact vV hd ho hh.1 hh.2
  ·cases h
 ·rename_i ho; cases h; exact yg hb0 hd ho
 ·rename_i ho; exact uq hb0 hd ho h
 ·
  rename_i t x lo hi mx ho
  refine dP h fun z hz=>fm hd fun a c Lo lam f hn=>?_
  have hs:∀(q:Option Operand) (y:AV),q.map (bI s.ρ)=some y→∃v,q.map a.eval=some v∧SR c L0 Lo lam s.bx y v:=by
   intro q y hq
   obtain⟨u,rfl,rfl⟩:=Option.map_some' hq
   exact⟨_,rfl,bC f u⟩
  have Ju:∀(q:Option Operand),q.map (bI s.ρ)=none→q.map a.eval=none:=by
   intro q hq
   simpa using hq
  obtain⟨r,hr,hv⟩:=ye (P:=P) (bC f x) (hs lo) (Ju lo) (hs hi) (Ju hi) (hs mx) (Ju mx) hz
  exact⟨r,by simp [execOp,ho,hr],SR.of hv⟩
 ·rename_i t x i ho
  refine dP h fun z hz=>fm hd fun a c Lo lam f hn=>?_
  obtain⟨r,hr,hv⟩:=vJ (P:=P) (bC f x) hz
  exact⟨r,by simp [execOp,ho,hr],hv⟩
 ·rename_i t x i ho
  refine dP h fun z hz=>fm hd fun a c Lo lam f hn=>?_
  obtain⟨r,hr,hv⟩:=yc (P:=P) (bC f x) hz
  exact⟨r,by simp [execOp,ho,hr],SR.of hv⟩
 ·rename_i t x i ho
  refine dP h fun z hz=>fm hd fun a c Lo lam f hn=>?_
  obtain⟨r,hr,hv⟩:=vI (P:=P) (bC f x) (bC f i) hz
  exact⟨r,by simp [execOp,ho,hr],hv⟩
 ·rename_i t x i ho
  refine dP h fun z hz=>fm hd fun a c Lo lam f hn=>?_
  obtain⟨r,hr,hv⟩:=yd (P:=P) (bC f x) (bC f i) hz
  exact⟨r,by simp [execOp,ho,hr],SR.of hv⟩
 ·rename_i t m k ok ho
  refine dP h fun z hz=>fm hd fun a c Lo lam f hn=>?_
  obtain⟨r,hr,hv⟩:=vO (P:=P) f (bC f m) (bC f k) hz
  exact⟨r,by simp [execOp,ho,hr],SR.of hv⟩
 ·rename_i t m k x ho
  split at h
  ·cases h
  rename_i qe
  obtain⟨h',hh,rfl⟩:=Option.map_some' h
  exact nT hb0 (.inl ho) (by simpa using qe) hh
 ·rename_i t m k x ho
  split at h
  ·cases h
  rename_i qe
  obtain⟨h',hh,rfl⟩:=Option.map_some' h
  exact nT hb0 (.inr ho) (by simpa using qe) hh
 ·rename_i ho; exact dP h fun z hz=>ym hd ho hz
 ·
  rename_i b args zu ho
  unfold fC at h
  split at h
  ·rename_i t x hts hargs
   have yn:zu = #[t]:=by apply VO; simpa using hts
   obtain⟨q,hq,rfl⟩:∃q,args = #[q]∧bI s.ρ q=x:=by
    cases args with | mk l=>
    rcases l with _ | ⟨q,_ | ⟨q2,l⟩⟩<;>simp at hargs
    exact⟨q,rfl,hargs⟩
   subst yn hq
   refine dP h fun z hz=>fm hd fun a c Lo lam f hn=>?_
   obtain⟨r,hr,hv⟩:=CK (P:=P) f #[t] rfl (bC f q) hz o.type
   exact⟨r,by simp [execOp,ho,resolve,invoke,builtin,hr],SR.of hv⟩
  ·rename_i t t2 x y hts hargs
   have yn:zu = #[t,t2]:=by apply VO; simpa using hts
   obtain⟨q,q2,hq,rfl,rfl⟩:∃q q2,args = #[q,q2]∧bI s.ρ q=x∧bI s.ρ q2=y:=by
    cases args with | mk l=>
    rcases l with _ | ⟨q,_ | ⟨q2,_ | ⟨q3,l⟩⟩⟩<;>simp at hargs
    exact⟨q,q2,rfl,hargs.1,hargs.2⟩
   subst yn hq
   exact Bn hb0 hd ho h
  ·rename_i t t2 x y hts hargs
   have yn:zu = #[t,t2]:=by apply VO; simpa using hts
   obtain⟨q,q2,hq,rfl,rfl⟩:∃q q2,args = #[q,q2]∧bI s.ρ q=x∧bI s.ρ q2=y:=by
    cases args with | mk l=>
    rcases l with _ | ⟨q,_ | ⟨q2,_ | ⟨q3,l⟩⟩⟩<;>simp at hargs
    exact⟨q,q2,rfl,hargs.1,hargs.2⟩
   subst yn hq
   obtain⟨⟨z,h'⟩,hh,rfl⟩:=Option.map_some' h
   exact FA hb0 hd ho hh
  ·rename_i t x hts hargs
   have yn:zu = #[t]:=by apply VO; simpa using hts
   obtain⟨q,hq,rfl⟩:∃q,args = #[q]∧bI s.ρ q=x:=by
    cases args with | mk l=>
    rcases l with _ | ⟨q,_ | ⟨q2,l⟩⟩<;>simp at hargs
    exact⟨q,rfl,hargs⟩
   subst yn hq
   obtain⟨h',hh,rfl⟩:=Option.map_some' h
   exact CT hb0 hd ho hh
  ·rename_i x xs hargs
   rw [Ud] at h
   obtain⟨v,hv,h⟩:=h
   rw [Ud] at h
   obtain⟨vs,Cj,h⟩:=h
   rw [Ud] at h
   obtain⟨u,hu,h⟩:=h
   exact dP h fun z hz=>tu hd ho (.inl ⟨rfl,rfl⟩) hargs hv Cj hu hz
  ·rename_i x xs hargs
   rw [Ud] at h
   obtain⟨v,hv,h⟩:=h
   rw [Ud] at h
   obtain⟨vs,Cj,h⟩:=h
   rw [Ud] at h
   obtain⟨u,hu,h⟩:=h
   exact dP h fun z hz=>tu hd ho (.inr ⟨rfl,rfl⟩) hargs hv Cj hu hz
  ·cases h
 ·
  rename_i fx args zu ho
  split at h
  ·rename_i yl cap heq
   split at h
   ·rename_i ha
    obtain⟨⟨r,h'⟩,hh,rfl⟩:=Option.map_some' h
    rw [Ud] at hh
    obtain⟨⟨r0,h0⟩,hh,hm⟩:=hh
    exact FF hcf hb0 hd ho heq ha hh hm
   ·cases h
  ·cases h
 ·cases h
end
end Go.R
namespace Go.R
open Go
section
variable {P:Program}{L0:Nat→Prop}{c0:Cx}{n:Nat}{ds:List Nat}{s:RS}
theorem pa {h:AHeap}:∀{cs:List AV},cy cs=true→ud h cs=some (cs,h)
 | [],_=>rfl
 | x::cs,hn=>by
  simp only [cy,Ui] at hn
  simp only [ud,Bf,hn.1,if_true,Ue,pa hn.2,Uk]
theorem vW {h h':AHeap}{x y:AV}(hz:Bf h x=some (y,h')):Steady h h':=by
 unfold Bf at hz
 split at hz
 ·cases hz; exact Steady.refl _
 split at hz
 ·split at hz
  ·split at hz
   ·cases hz; exact Steady.refl _
   ·cases hz
  rw [Ud] at hz
  obtain⟨o,_,hz⟩:=hz
  split at hz
  ·split at hz
   ·cases hz; exact Steady.kill _ _
   ·cases hz
  ·cases hz
 ·cases hz
theorem pS:∀{cs ys:List AV} {h h':AHeap},ud h cs=some (ys,h')→Steady h h'
 | [],ys,h,h',hz=>by cases hz; exact Steady.refl _
 | x::cs,ys,h,h',hz=>by
  simp only [ud,Ud,Ug] at hz
  obtain⟨⟨y,h1⟩,hx,⟨zs,h2⟩,hz,he⟩:=hz
  simp only [Um] at he
  obtain⟨rfl,rfl⟩:=he
  exact (vW hx).trans (pS hz)
theorem Inv.uj {a:Act}{w:World}{p:Nat × Option Nat × Nat}{s':RS}(hi:Inv L0 c0 n ds s a w)(h:uj s p=some s'):Inv L0 c0 n ds s' a w:=by
 obtain⟨hn,c,Lo,lam,rfl,f,e⟩:=hi
 unfold Go.R.uj at h
 split at h
 ·rw [Ug] at h
  obtain⟨⟨y,h'⟩,hz,rfl⟩:=h
  obtain⟨hx,hy,c',hw,e',f',hv⟩:=uz f hz
  refine⟨hn,c',Lo,lam,hw,⟨f'.h,f'.rel,fun t=>?_,f'.box,f'.inj,fun t k off ht he=>?_,f'.defers,f'.CE⟩,e.trans e'⟩
  ·simp only [beq_nat]
   by_cases ht:t=p.1
   ·subst ht
    simp only [decide_true,cond_true]
    exact SR.of (hv _ ((f.slot _).vr hx))
   ·simp only [ht,decide_false,cond_false]
    exact f'.slot t
  ·simp only [beq_nat] at he
   by_cases Px:t=p.1
   ·simp only [Px,decide_true,cond_true] at he
    exact absurd he (hy _ _)
   ·simp only [Px,decide_false,cond_false] at he
    exact f'.tidy t k off ht he
 ·rename_i i hp
  split at h
  rotate_left
  ·cases h
  rename_i cs hcs
  simp only [Ud,Ug] at h
  obtain⟨x,hx,⟨y,h'⟩,hz,rfl⟩:=h
  obtain⟨hx1,hy,c',hw,e',f',hv⟩:=uz f hz
  have qg:∀k,(bif UP k p.1 then some (cs.set i y) else s.bx k).isSome=(s.bx k).isSome:=fun k=>by
   simp only [beq_nat]
   by_cases hk:k=p.1
   ·subst hk; simp [hcs]
   ·simp [hk]
  refine⟨hn,c',Lo,lam,hw,⟨f'.h,f'.rel,fun t=>?_,fun k eS hb=>?_,fun k k' h1 h2=>f'.inj k k' (by rw [←qg]; exact h1) (by rw [←qg]; exact h2),f'.tidy,f'.defers,f'.CE⟩,e.trans e'⟩
  ·have:=f'.slot t
   unfold SR at this ⊢
   split
   ·rename_i k off he
    rw [he] at this
    simp only at this
    exact⟨this.1,by rw [qg]; exact this.2⟩
   ·rename_i x' FB
    split at this
    ·rename_i he; exact absurd he (FB _ _)
    ·exact this
  ·simp only [beq_nat] at hb
   by_cases hk:k=p.1
   ·subst hk
    simp only [decide_true,cond_true,Uh] at hb
    subst hb
    have ob:=f.box _ cs hcs
    have MH:=f'.box _ cs hcs
    refine⟨MH.own,by rw [Uq]; exact MH.plain,?_⟩
    obtain⟨vs,q1,q2,q3⟩:=ob.cells.vals
    obtain⟨Rx,r1,r2,r3⟩:=MH.cells.vals
    have hlen:vs=Rx:=by
     apply VE
     intro j
     by_cases hj:j<cs.length
     ·rw [←q2 j hj,←r2 j hj,hw]
     ·rw [UN (by rw [←q1.length]; omega),UN (by rw [←r1.length]; omega)]
    subst hlen
    obtain⟨u,hu,hr⟩:=VRs.get q1 i x hx
    have CV:VRs c' (un L0 Lo) (cs.set i y) vs:=by
     have:=VRs.set (hv u hr) i r1
     have Jq:vs.set i u=vs:=by
      apply VE
      intro j
      rw [VF]
      by_cases hji:i=j
      ·subst hji
       rw [if_pos rfl,hu]
       have:=(Ul.1 hu).1
       simp [this]
      ·rw [if_neg hji]
     rwa [Jq] at this
    exact Cells.of_vals CV (fun j hj=>by rw [r2 j (by rw [r1.length]; exact hj)]) r3
   ·simp only [hk,decide_false,cond_false] at hb
    exact f'.box k eS hb
theorem Inv.ki {a:Act}{w:World}:∀{l:List (Nat × Option Nat × Nat)} {s s':RS},Inv L0 c0 n ds s a w→ki s l=some s'→Inv L0 c0 n ds s' a w
 | [],s,s',hi,h=>by cases h; exact hi
 | p::ps,s,s',hi,h=>by
  simp only [Go.R.ki,Ud] at h
  obtain⟨s1,h1,h2⟩:=h
  exact Inv.ki (hi.uj h1) h2
theorem FG {A:bY}{r:Nat}{s:RS}:(s.lL A r).h=s.h:=by
 unfold RS.lL
 split<;>rfl
theorem lQ {k:Nat}{h h':AHeap}{x y:AV}(hz:iO k h x=some (y,h')):Steady h h':=by
 unfold iO at hz
 split at hz
 ·split at hz
  ·cases hz; exact Steady.refl _
  ·split at hz
   ·split at hz
    ·cases hz; exact Steady.refl _
    ·cases hz
   rw [Ud] at hz
   obtain⟨o,_,hz⟩:=hz
   split at hz
   ·split at hz
    ·rw [Ug] at hz
     obtain⟨⟨eS,h2⟩,hz,he⟩:=hz
     simp only [Um] at he
     obtain⟨rfl,rfl⟩:=he
     exact (Steady.kill _ _).trans (pS hz)
    ·cases hz
   ·cases hz
  ·cases hz; exact Steady.refl _
  ·cases hz
 ·split at hz<;>cases hz<;>exact Steady.refl _
theorem vX {s s':RS}{p:Nat × Option Nat × Nat}(hz:uj s p=some s'):Steady s.h s'.h:=by
 unfold uj at hz
 split at hz
 ·rw [Ug] at hz
  obtain⟨⟨y,h'⟩,hz,rfl⟩:=hz
  exact lQ hz
 ·split at hz
  ·simp only [Ud,Ug] at hz
   obtain⟨x,hx,⟨y,h'⟩,hz,rfl⟩:=hz
   exact lQ hz
  ·cases hz
theorem lR:∀{l:List (Nat × Option Nat × Nat)} {s s':RS},ki s l=some s'→Steady s.h s'.h
 | [],s,s',h=>by cases h; exact Steady.refl _
 | p::ps,s,s',h=>by
  simp only [ki,Ud] at h
  obtain⟨s1,h1,h2⟩:=h
  exact (vX h1).trans (lR h2)
end
end Go.R
namespace Go.R
open Go
section
variable {P:Program}{L0:Nat→Prop}{c0:Cx}{n:Nat}{ds:List Nat}{o:Oper}{s:RS}
theorem Bq {ops:Array Oper}{c:Cx}{Lo:Nat→Prop}{lam:Nat→Nat}{a:Act}(f:Fr L0 c Lo lam ds s a){b:Bool}(h:gE ops.toList s.ρ o=some b):Region.wanted o (yielded ops a.tmps)=b:=by
 unfold gE at h
 unfold Region.wanted
 split at h
 ·rename_i hg; rw [hg]; cases h; rfl
 ·rename_i j want hg
  rw [hg]
  rw [Ud] at h
  obtain⟨d,hd,h⟩:=h
  have Ff:(ops[j]?).bind (·.dst)=some d:=by simpa using hd
  have hs:=f.slot d
  simp only [yielded,Ff,Ue]
  rw [Array.getD_eq_getD_getElem?] at hs
  split at h
  ·rename_i b' hb
   cases h
   rw [hb] at hs
   simp only [SR,VR] at hs
   cases hq:a.tmps[d]? with
   | none=>rw [hq] at hs; simp [undef] at hs
   | some v=>
    rw [hq] at hs
    simp only [U7] at hs
    subst hs
    cases b'<;>cases want<;>rfl
  ·rename_i hb
   cases h
   rw [hb] at hs
   simp only [SR,VR] at hs
   obtain⟨vs,hv,_⟩:=hs
   cases hq:a.tmps[d]? with
   | none=>rfl
   | some v=>
    rw [hq] at hv
    simp only [U7] at hv
    subst hv
    rfl
  ·cases h
theorem vY {cf:CallF}(hcf:CallOK P cf)(hb0:c0.base≤c0.w.heap.size){ops:Array Oper}(HL:ds=ops.toList.filterMap (·.dst))(hd:fU n ds o){aE:List Nat}{s':RS}(h:lK P cf aE ops.toList s o=some s')
  {a:Act} {w:World} {K:Act→World→Prop} {Q:Exit→Act→World→Prop} (hi:Inv L0 c0 n ds s a w) (hK:∀a' w',Inv L0 c0 n ds s' a' w'→K a' w') :
  if Region.wanted o (yielded ops a.tmps) then o.wp P a w K Q else K (a.put o.dst undef) w:=by
 unfold lK at h
 rw [Ud] at h
 obtain⟨b,hb,h⟩:=h
 have Ry:=hi
 obtain⟨hn,c,Lo,lam,rfl,f,e⟩:=hi
 rw [Bq f hb]
 cases b with
 | true=>
  simp only [if_true] at h ⊢
  rw [←HL] at h
  exact HK hcf hb0 hd h a c.w K Q Ry hK
 | false=>
  simp only [Up,if_false,Uh] at h ⊢
  subst h
  exact hK _ _ ⟨(fT _ _ _).trans hn,c,Lo,lam,rfl,f.set (SR.of (by simp [VR,undef,VRs])) (fun t ht=>by rw [hn]; exact hd t ht),e⟩
def tw (n:Nat)(ops:List Oper):Bool:=ops.all fun o=>match o.dst with | some t=>Nat.blt t n | none=>true
theorem vZ {ops:List Oper}(h:tw n ops=true){o:Oper}(ho:o∈ops):fU n (ops.filterMap (·.dst)) o:=by
 intro t ht
 unfold tw at h
 rw [Uy] at h
 have:=h o ho
 rw [ht] at this
 exact⟨Nat.blt_eq.mp this,List.mem_filterMap.2 ⟨o,ho,ht⟩⟩
theorem zx {cf:CallF}(hcf:CallOK P cf)(hb0:c0.base≤c0.w.heap.size){ops:Array Oper}(HL:ds=ops.toList.filterMap (·.dst))(Fb:tw n ops.toList=true){aE:List Nat}{Q:Exit→Act→World→Prop}{s':RS}(hQ:∀a' w',Inv L0 c0 n ds s' a' w'→Q .normal a' w') :
  ∀(l:List Oper) (s:RS),(∀o∈l,o∈ops.toList)→p9 P cf aE ops.toList s l=some s'→∀a w,Inv L0 c0 n ds s a w→wpList P ops Q l a w
 | [],s,_,h,a,w,hi=>by
  simp only [p9,Uh] at h
  subst h
  exact wpList_nil (hQ a w hi)
 | o::l,s,hl,h,a,w,hi=>by
  simp only [p9,Ud] at h
  obtain⟨s1,h1,h2⟩:=h
  refine wpList_step fun K hK=>?_
  exact vY hcf hb0 HL (by rw [HL]; exact vZ Fb (hl o (by simp))) h1 hi fun a' w' jo=>hK a' w' (zx hcf hb0 HL Fb hQ l s1 (fun o ho=>hl o (by simp [ho])) h2 a' w' jo)
theorem iu {α:Type}(d:α):∀(ks:List Nat) (g:Nat→α) (t:Nat),look d ks (ks.map g) t=if t∈ks then g t else d
 | [],g,t=>rfl
 | k::ks,g,t=>by
  simp only [UH,look,beq_nat,iu d ks g t,UF]
  by_cases h:t=k
  ·subst h; simp
  ·simp [h]
theorem Fr.forget {c:Cx}{Lo:Nat→Prop}{lam:Nat→Nat}{a:Act}(f:Fr L0 c Lo lam ds s a){s2:RS}(hh:s2.h=s.h)(hb:∀k cs,s2.bx k=some cs→s.bx k=some cs)
  (hr:∀t,s2.ρ t = .any∨s2.ρ t=s.ρ t∧∀k off,s.ρ t = .lp k off→k=t∧((s.bx k).isSome=true→(s2.bx k).isSome=true)):Fr L0 c Lo lam [] s2 a:=by
 refine⟨f.h.trans hh.symm,f.rel,fun t=>?_,fun k cs h=>f.box k cs (hb k cs h),fun k k' h h'=>f.inj k k' ?_ ?_,fun t k off _ he=>?_,f.defers,f.CE⟩
 ·rcases hr t with h | ⟨h,h2⟩
  ·rw [h]; exact SR.of (by simp [VR])
  ·rw [h]
   have hs:=f.slot t
   cases hx:s.ρ t<;>rw [hx] at hs<;>try exact hs
   rename_i k off
   simp only [SR] at hs ⊢
   exact⟨hs.1,(h2 k off hx).2 hs.2⟩
 ·obtain⟨cs,hcs⟩:=UM.1 h; rw [hb k cs hcs]; rfl
 ·obtain⟨cs,hcs⟩:=UM.1 h'; rw [hb k' cs hcs]; rfl
 ·rcases hr t with h | ⟨h,h2⟩
  ·rw [h] at he; cases he
  ·exact (h2 k off (h ▸ he)).1
theorem Inv.shut {a:Act}{w:World}(A:bY)(h:Inv L0 c0 n ds s a w):Inv L0 c0 n [] ((s.shut A).open A) a w:=by
 obtain⟨hn,c,Lo,lam,rfl,f,e⟩:=h
 refine⟨hn,c,Lo,lam,rfl,f.forget rfl (fun k cs hk=>?_) (fun t=>?_),e⟩
 ·simp only [RS.shut,St.open,iu] at hk
  split at hk
  ·exact hk
  ·cases hk
 ·simp only [RS.shut,St.open,iu]
  split
  ·unfold vF
   cases hx:s.ρ t<;>simp only<;>try (right; exact⟨trivial,fun k off he=>by cases he⟩)
   rename_i k off
   cases hc:(UP k t&&UP off 0&&A.aE.contains k) with
   | false=>left; rfl
   | true=>
    right
    simp only [Ui,beq_nat,decide_eq_true_eq,List.contains_iff_mem] at hc
    refine⟨rfl,fun k' Rz he=>?_⟩
    cases he
    refine⟨hc.1.1,fun hs=>?_⟩
    rw [if_pos hc.2]
    exact hs
  ·left; rfl
theorem Inv.lL {a:Act}{w:World}(A:bY)(r:Nat)(h:Inv L0 c0 n ds s a w):Inv L0 c0 n [] ((s.lL A r).open A) a w:=by
 unfold RS.lL
 split
 ·exact h.shut A
 rename_i dl _
 have h2:=h.shut A
 obtain⟨hn,c,Lo,lam,hw,f,e⟩:=h2
 have JR:∀k,(St.open A {vars:=A.keep.map (fun t=>bif (fJ r A.dead).contains t then .any else vF A.aE s.ρ t),Jo:=A.aE.map (fun k=>bif (fJ r A.dead).contains k then none else s.bx k),h:=s.h}).bx k=bif (fJ r A.dead).contains k then none else (St.open A (s.shut A)).bx k:=by
  intro k
  simp only [RS.shut,St.open,iu]
  cases (fJ r A.dead).contains k<;>simp
 refine⟨hn,c,Lo,lam,hw,f.forget rfl (fun k cs hk=>?_) (fun t=>?_),e⟩
 ·rw [JR] at hk
  cases hc:(fJ r A.dead).contains k with
  | true=>rw [hc] at hk; cases hk
  | false=>rw [hc] at hk; exact hk
 ·have hv:(St.open A {vars:=A.keep.map (fun t=>bif (fJ r A.dead).contains t then .any else vF A.aE s.ρ t),Jo:=A.aE.map (fun k=>bif (fJ r A.dead).contains k then none else s.bx k),h:=s.h}).ρ t=bif (fJ r A.dead).contains t then .any else (St.open A (s.shut A)).ρ t:=by
   simp only [RS.shut,St.open,iu]
   cases (fJ r A.dead).contains t<;>simp
  rw [hv]
  cases hc:(fJ r A.dead).contains t with
  | true=>left; rfl
  | false=>
   right
   refine⟨rfl,fun k off he=>?_⟩
   have Fz:k=t:=f.tidy t k off (by simp) he
   refine⟨Fz,fun hs=>?_⟩
   rw [JR,Fz,hc]
   rw [Fz] at hs
   exact hs
theorem Inv.wide {a:Act}{w:World}(h:Inv L0 c0 n [] s a w)(ds:List Nat):Inv L0 c0 n ds s a w:=by
 obtain⟨hn,c,Lo,lam,rfl,f,e⟩:=h
 exact⟨hn,c,Lo,lam,rfl,⟨f.h,f.rel,f.slot,f.box,f.inj,fun t k off _ he=>f.tidy t k off (by simp) he,f.defers,f.CE⟩,e⟩
theorem Inv.drew {a:Act}{w:World}(h:Inv L0 c0 n ds s a w):Inv L0 c0 n ds s a {w with drawn:=w.drawn+1}:=by
 obtain⟨hn,c,Lo,lam,rfl,f,e⟩:=h
 obtain⟨e',f'⟩:=f.world (w':={c.w with drawn:=c.w.drawn+1}) (fun b _=>.inl rfl) (fun _ _=>rfl) (fun b _=>rfl) (Uj _) rfl rfl rfl
 exact⟨hn,_,Lo,lam,rfl,f',e.trans e'⟩
def lS (P:Program)(c:Code)(Q:Exit→Act→World→Prop)(a:Act)(w:World):Prop:=
 ∀(b:Frame) (k:List Item) (cs:List Frame),∃e a' w',Q e a' w'∧Arrives P (lone (b.at a (.code c :: .inLoop c::k)) cs w) b k cs e a' w'
theorem lS.step {c:Code}{Q:Exit→Act→World→Prop}{a:Act}{w:World}(h:c.wp P (Exit.then (lS P c Q) Q) a w):lS P c Q a w:=by
 intro b k cs
 obtain⟨e,a₁,w₁,hq,wa⟩:=h b (.inLoop c::k) cs
 cases e with
 | normal=>
  obtain⟨e₂,a₂,w₂,RA,J4⟩:=hq b k cs
  exact⟨e₂,a₂,w₂,RA,.of_steps (Steps.trans wa (.one step_inLoop)) J4⟩
 | exit id=>exact⟨_,a₁,w₁,hq,.pass (x:=.inLoop c) rfl (fun _ _=>.inl (by simp)) wa⟩
 | goto l=>exact⟨_,a₁,w₁,hq,.pass (x:=.inLoop c) rfl (fun _ _=>.inl (by simp)) wa⟩
 | ret=>exact⟨_,a₁,w₁,hq,.pass (x:=.inLoop c) rfl (fun _ _=>.inl (by simp)) wa⟩
 | panic ch=>exact⟨_,a₁,w₁,hq,.pass (x:=.inLoop c) rfl (fun _ _=>.inl (by simp)) wa⟩
 | outgrown=>exact⟨_,a₁,w₁,hq,.pass (x:=.inLoop c) rfl (fun _ _=>.inl (by simp)) wa⟩
theorem lS.loop {c:Code}{Q:Exit→Act→World→Prop}{a:Act}{w:World}(h:lS P c Q a w):(Code.loop c).wp P Q a w:=by
 intro b k cs
 obtain⟨e,a',w',hq,wa⟩:=h b k cs
 exact⟨e,a',w',hq,.of_steps (.one step_loop) wa⟩
def Ex.GZ:Ex→Exit
 | .norm=>.normal
 | .exit id=>.exit id
 | .ret=>.ret
def jP (n:Nat):Code→Bool
 | .region _ ops _=>tw n ops.toList
 | .seq a b=>jP n a&&jP n b
 | .cond _ x y=>jP n x&&jP n y
 | .block _ c=>jP n c
 | .loop c=>jP n c
 | _=>true
def yo (P:Program)(cf:CallF):Prop:=
 ∀(L0:Nat→Prop) (c0:Cx) (n:Nat) (aE:List Nat) (id:Nat) (ops:Array Oper) (s s':RS),jm P cf aE ops s=some s'→c0.base≤c0.w.heap.size→tw n ops.toList=true→
  ∀a w Q,Inv L0 c0 n (ops.toList.filterMap (·.dst)) s a w→(∀a' w',Inv L0 c0 n (ops.toList.filterMap (·.dst)) s' a' w'→Q .normal a' w')→(Code.region id ops true).wp P Q a w
theorem jx {cf:CallF}(hcf:CallOK P cf)(Br:yo P cf)(hb0:c0.base≤c0.w.heap.size){A:bY}{m:Nat}:∀(c:Code),jP n c=true→∀(st ja:St) (ex:Ex),bH P cf A m c st=some (ex,ja)→
  ∀a w Q,Inv L0 c0 n [] (st.open A) a w→(∀a' w',Inv L0 c0 n [] (ja.open A) a' w'→Q ex.GZ a' w')→c.wp P Q a w
 | .skip,_,st,ja,ex,h,a,w,Q,hi,hQ=>by
  simp only [bH,Uh,Um] at h
  obtain⟨rfl,rfl⟩:=h
  exact wp_skip (hQ a w hi)
 | .label _,_,st,ja,ex,h,a,w,Q,hi,hQ=>by
  simp only [bH,Uh,Um] at h
  obtain⟨rfl,rfl⟩:=h
  exact wp_label (hQ a w hi)
 | .ret,_,st,ja,ex,h,a,w,Q,hi,hQ=>by
  simp only [bH,Uh,Um] at h
  obtain⟨rfl,rfl⟩:=h
  exact wp_ret (hQ a w hi)
 | .exit id,_,st,ja,ex,h,a,w,Q,hi,hQ=>by
  simp only [bH,Uh,Um] at h
  obtain⟨rfl,rfl⟩:=h
  exact wp_exit (hQ a w hi)
 | .seq x y,hB,st,ja,ex,h,a,w,Q,hi,hQ=>by
  simp only [jP,Ui] at hB
  simp only [bH,Ud] at h
  obtain⟨⟨G0,vC⟩,h1,h2⟩:=h
  refine wp_seq (jx hcf Br hb0 x hB.1 st vC G0 h1 a w _ hi fun a' w' jo=>?_)
  cases G0 with
  | norm=>exact jx hcf Br hb0 y hB.2 vC ja ex h2 a' w' Q jo hQ
  | exit id=>
   simp only [Uh,Um] at h2
   obtain⟨rfl,rfl⟩:=h2
   exact hQ a' w' jo
  | ret=>
   simp only [Uh,Um] at h2
   obtain⟨rfl,rfl⟩:=h2
   exact hQ a' w' jo
 | .cond k x y,hB,st,ja,ex,h,a,w,Q,hi,hQ=>by
  simp only [jP,Ui] at hB
  simp only [bH,Ud] at h
  obtain⟨t,ht,h⟩:=h
  have hk:a.eval k = .bool t:=by
   obtain⟨hn,c,Lo,lam,rfl,f,e⟩:=hi
   have hk:=bC f k
   unfold q9 at ht
   split at ht
   ·rename_i b hb
    cases ht
    rw [hb] at hk
    simpa [SR,VR] using hk
   ·cases ht
  refine wp_cond hk ?_
  cases t with
  | true=>exact jx hcf Br hb0 x hB.1 st ja ex (by simpa using h) a w Q hi hQ
  | false=>exact jx hcf Br hb0 y hB.2 st ja ex (by simpa using h) a w Q hi hQ
 | .block id x,hB,st,ja,ex,h,a,w,Q,hi,hQ=>by
  simp only [jP] at hB
  simp only [bH,Ug] at h
  obtain⟨⟨G0,vC⟩,h1,h2⟩:=h
  refine wp_block (jx hcf Br hb0 x hB st vC G0 h1 a w _ hi fun a' w' jo=>?_)
  cases G0 with
  | norm=>
   simp only [Um] at h2
   obtain⟨rfl,rfl⟩:=h2
   exact hQ a' w' jo
  | exit jV=>
   simp only [Um] at h2
   obtain⟨rfl,rfl⟩:=h2
   have:=hQ a' w' jo
   simp only [Ex.GZ,Exit.inBlock]
   split
   ·rename_i he; rw [if_pos he] at this; exact this
   ·rename_i he; rw [if_neg he] at this; exact this
  | ret=>
   simp only [Um] at h2
   obtain⟨rfl,rfl⟩:=h2
   exact hQ a' w' jo
 | .loop x,hB,st,ja,ex,h,a,w,Q,hi,hQ=>by
  simp only [jP] at hB
  simp only [bH] at h
  have key:∀(j:Nat) (st:St),kj (bH P cf A m x) j st=some (ex,ja)→∀a w,Inv L0 c0 n [] (st.open A) a w→lS P x Q a w:=by
   intro j
   induction j with
   | zero=>intro st h; simp [kj] at h
   | succ j ih=>
    intro st h a w hi
    simp only [kj,Ud] at h
    obtain⟨⟨G0,vC⟩,h1,h2⟩:=h
    refine lS.step (jx hcf Br hb0 x hB st vC G0 h1 a w _ hi fun a' w' jo=>?_)
    cases G0 with
    | norm=>exact ih vC h2 a' w' jo
    | exit id=>
     simp only [Uh,Um] at h2
     obtain⟨rfl,rfl⟩:=h2
     exact hQ a' w' jo
    | ret=>
     simp only [Uh,Um] at h2
     obtain⟨rfl,rfl⟩:=h2
     exact hQ a' w' jo
  exact lS.loop (key m st h a w hi)
 | .region id ops draw,hB,st,ja,ex,h,a,w,Q,hi,hQ=>by
  simp only [jP] at hB
  simp only [bH,Ud,Ug,Um] at h
  obtain⟨s0,h0,s',h1,s2,h2,rfl,rfl⟩:=h
  replace hi:=hi.ki h0
  cases draw with
  | true=>
   simp only [if_true] at h1
   exact Br L0 c0 n A.aE id ops _ s' h1 hb0 hB a w Q (hi.wide _) fun a' w' jo=>hQ a' w' ((jo.ki h2).lL A id)
  | false=>
   simp only [Up,if_false] at h1
   exact wp_region_list (zx hcf hb0 rfl hB (fun a' w' jo=>hQ a' w' ((jo.ki h2).lL A id)) ops.toList _ (fun _ h=>h) h1 a w (hi.wide _))
 | .rangeFunc ..,_,st,ja,ex,h,_,_,_,_,_=>by simp [bH] at h
 | .scope ..,_,st,ja,ex,h,_,_,_,_,_=>by simp [bH] at h
 | .goto ..,_,st,ja,ex,h,_,_,_,_,_=>by simp [bH] at h
 | .refuse ..,_,st,ja,ex,h,_,_,_,_,_=>by simp [bH] at h
theorem uA {c:Cx}{Lo:Nat→Prop}{lam:Nat→Nat}{a:Act}(f:Fr L0 c Lo lam ds s a):∀(rs:List ResultVar) (l:List AV),xZ P s rs=some l→l.all AV.kg=true→
  ∃vs:List Value,(rs.mapM (m:=Sem) fun | .tmp t=>pure (a.tmps.getD t undef) | .cell x t=>do loadVar t (←asAddr (a.tmps.getD x undef))).run P c.w = .ok vs c.w∧VRs c (un L0 Lo) l vs
 | [],l,h,_=>by
  simp only [xZ,Uh] at h
  subst h
  exact⟨[],rfl,trivial⟩
 | .tmp t::rs,l,h,hl=>by
  simp only [xZ,Ug] at h
  obtain⟨l',h1,rfl⟩:=h
  simp only [U2,Ui] at hl
  obtain⟨vs,h2,h3⟩:=uA f rs l' h1 hl.2
  refine⟨a.tmps.getD t undef::vs,?_,(f.slot t).vr (rE hl.1),h3⟩
  simp only [List.mapM_cons,Sem.run_bind,Sem.run_pure,Result.andThen_ok,h2]
 | .cell x t::rs,l,h,hl=>by
  simp only [xZ,Ud,Ug] at h
  obtain⟨y,hy,l',h1,rfl⟩:=h
  simp only [U2,Ui] at hl
  obtain⟨vs,h2,h3⟩:=uA f rs l' h1 hl.2
  have hx:=f.slot x
  obtain⟨u,hr,hu⟩:=rl (P:=P) f (t:=t) hx hy
  have hp:∃ad,a.tmps.getD x undef = .pointer (some ad):=by
   unfold jl at hy
   cases hq:s.ρ x<;>rw [hq] at hy hx<;>simp only at hy<;>try (cases hy; done)
   ·simp only [SR,VR] at hx; obtain⟨_,ad,h,_⟩:=hx; exact⟨ad,h⟩
   ·simp only [SR] at hx; exact⟨_,hx.1⟩
   ·simp only [SR,VR] at hx; obtain⟨_,_,h,_⟩:=hx; exact⟨_,h⟩
  obtain⟨ad,hp⟩:=hp
  rw [hp] at hr
  have yp:(loadVar t ad).run P c.w = .ok u c.w:=by simpa [Instr.loadAt,Instr.sureAddr] using hr
  refine⟨u::vs,?_,hu,h3⟩
  have ha:(asAddr (a.tmps.getD x undef)).run P c.w = .ok ad c.w:=by rw [hp]; rfl
  simp only [List.mapM_cons,Sem.run_bind,Sem.run_pure,Result.andThen_ok,h2,ha,yp]
theorem gP:un L0 none0=L0:=by funext b; simp [un,none0]
theorem Ext.close {c c':Cx}{jc:Nat→Prop}(e:Ext c none0 c' jc):Ext c none0 c' none0:=
 ⟨e.next,e.live,e.size,e.keep,e.exact,e.base,e.Fq,fun _ h=>h,fun _ h=>h.elim,e.os,e.tape,e.output⟩
theorem HRel.jU {c:Cx}{L L':Nat→Prop}(hL:∀b,L' b→L b)(h:HRel c L):HRel c L':=
 ⟨h.lt,fun id o ho=>by
  have:=h.obj id o ho
  cases o with
  | cells cs=>obtain⟨m,h1,h2,h3⟩:=this; exact⟨m,h1,h2,Cells.jU hL _ _ _ h3⟩
  | row t cs=>obtain⟨h0,C,h1,h2,h4,h3⟩:=this; exact⟨h0,C,h1,h2,h4,Cells.jU hL _ _ _ h3⟩
  | map es=>
   obtain⟨km,clock,h1,h2⟩:=this
   refine⟨km,clock,h1,?_⟩
   clear h1
   have:∀(es:List (AV × AV)) (ms:List MapEntry),kl c L es ms→kl c L' es ms:=by
    intro es
    induction es with
    | nil=>intro ms h; cases ms with | nil=>trivial | cons m ms=>exact h.elim
    | cons e es ih=>intro ms h; cases ms with
     | nil=>exact h.elim
     | cons m ms=>obtain⟨h1,h2,h3⟩:=h; exact⟨⟨VR.jU hL _ _ h1.1,h1.2⟩,VR.jU hL _ _ h2,ih _ h3⟩
   exact this _ _ h2,h.inj,fun id hl hb=>h.out id hl (hL _ hb),fun b hb=>h.bd b (hL b hb),h.low,h.ver⟩
structure Fit (P:Program):Prop where
 mixed:P.follows .mixedOrders=true
 J5 : ∀ (f : FuncId) fn c, P.funcs[f]? = some fn → fn.body = some c → jP fn.ntmps c = true ∧ fn.name ≠ "runtime.NumGoroutine"
def IntrOK (P:Program)(intr:FuncId→Option (List AV→AHeap→Option (AV × AHeap))):Prop:=
 ∀f g,intr f=some g→(CallOK P fun f' args h=>if f'=f then g args h else none)∧∀args h r h',g args h=some (r,h')→Steady h h'
theorem lT {f : FuncId} {fn : Func} {c : Code} (hf : P.funcs[f]? = some fn) (hc : fn.body = some c) (hn : fn.name ≠ "runtime.NumGoroutine") (vs : Array Value) (w : World) : (callFunc f vs).run P w = .ok (.enter f vs) w := by
 have MI : (fn.name == "runtime.NumGoroutine") = false := by simpa using hn
 simp [callFunc,program,Sem.run,hf,hn,hc]
theorem wc (hP:Fit P){aV:FuncId→bY}{cf:CallF}(ih:CallOK P cf)(Br:yo P cf)(m:Nat):CallOK P (a6 P aV cf m):=by
 intro f args h r h' hc
 unfold a6 at hc
 rw [Ud] at hc
 obtain⟨fn,hf,hc⟩:=hc
 rw [Ud] at hc
 obtain⟨c,hb,hc⟩:=hc
 obtain⟨hB,J6⟩:=hP.J5 f fn c hf hb
 refine⟨lT hf hb J6,fun L0 c0 vs hh hb0 hrel hargs=>?_⟩
 split at hc
 rotate_left
 ·cases hc
 rename_i hlen
 rw [Ud] at hc
 obtain⟨⟨ex,st⟩,hex,hc⟩:=hc
 have hl:=hargs.length
 refine calls_of_wp hf hb ?_
 refine jx (L0:=L0) (c0:=c0) (n:=fn.ntmps) ih Br hb0 c hB _ _ _ hex _ _ _ ?_ ?_
 ·refine⟨by simp; omega,c0,none0,fun _=>0,rfl,⟨hh,by rw [gP]; exact hrel,fun t=>?_,fun k cs hk=>?_,fun k k' hk=>?_,fun t k off _ he=>?_,rfl,fun b hb=>hb.elim⟩,Ext.refl _ _⟩
  ·simp only [St.open,lM,iu]
   split
   ·by_cases ht:t<args.length
    ·obtain⟨v,hv,hr⟩:=hargs.get t args[t] (by simp [ht])
     have:args.getD t AV.any=args[t]:=by simp [ht]
     rw [this,Array.getD_eq_getD_getElem?,Array.getElem?_append_left (by simp; omega)]
     have MF:vs.toArray[t]? = some v:=by simpa using hv
     rw [MF]
     exact SR.of (by rw [gP]; exact hr)
    ·have:args.getD t AV.any = .any:=by simp [UN (Nat.not_lt.1 ht)]
     rw [this]
     exact SR.of (by simp [VR])
   ·exact SR.of (by simp [VR])
  ·simp only [St.open,iu] at hk
   split at hk<;>cases hk
  ·simp only [St.open,iu] at hk
   split at hk<;>cases hk
  ·simp only [St.open,lM,iu] at he
   split at he
   ·by_cases ht:t<args.length
    ·obtain⟨v,hv,hr⟩:=hargs.get t args[t] (by simp [ht])
     have h1:args.getD t AV.any=args[t]:=by simp [ht]
     rw [h1] at he
     rw [he] at hr
     exact hr.elim
    ·have:args.getD t AV.any = .any:=by simp [UN (Nat.not_lt.1 ht)]
     rw [this] at he
     cases he
   ·cases he
 ·intro a' w' jo
  have hfin:(aM P (st.open (aV f)) fn.results.toList).map (fun r=>(r,st.h))=some (r,h')→a'.defers=[]∧∃v,(results fn a'.tmps).run P w' = .ok v w'∧(∃c' v',Ending.returned v = .returned v'∧c'.w=w'∧c'.h=h'∧VR c' L0 r v'∧HRel c' L0∧Ext c0 none0 c' none0):=by
   intro hc
   rw [Ug] at hc
   obtain⟨r',yp,he⟩:=hc
   cases he
   obtain⟨hn,c',Lo,lam,rfl,f',e'⟩:=jo
   refine⟨f'.defers,?_⟩
   unfold aM at yp
   rw [Ud] at yp
   obtain⟨l,hl,yp⟩:=yp
   split at yp
   rotate_left
   ·cases yp
   rename_i kr
   obtain⟨us,RB,ze⟩:=uA f' _ _ hl kr
   have CY:VRs c' L0 l us:=VRs.jU (fun b hb=>.inl hb) _ _ ze
   have yh:(results fn a'.tmps).run P c'.w = .ok (if h:us.toArray.size=1 then us.toArray[0] else .tuple us.toArray) c'.w:=by
    unfold results
    rw [←Array.toArray_toList (xs:=fn.results)]
    rw [List.mapM_toArray]
    simp only [Sem.run_bind,Sem.run_map,Result.andThen_ok,Sem.run_pure]
    exact (congrArg (fun z=>(Result.andThen z (fun (a:List Value) w'=>Result.ok a.toArray w')).andThen (fun (a:Array Value) w'=>Result.ok (if h:a.size=1 then a[0] else Value.tuple a) w')) RB).trans rfl
   refine⟨_,yh,c',_,rfl,rfl,f'.h,?_,HRel.jU (fun b hb=>.inl hb) f'.rel,e'.close⟩
   split at yp
   ·rename_i x
    cases yp
    cases us with
    | nil=>exact CY.elim
    | cons u us=>cases us with
     | nil=>exact CY.1
     | cons u2 us=>exact CY.2.elim
   ·rename_i hne
    cases yp
    have MJ:us.length≠1:=by
     intro h1
     rw [←CY.length] at h1
     cases l with
     | nil=>simp at h1
     | cons x l=>cases l with
      | nil=>exact hne x rfl
      | cons y l=>simp at h1
    have:¬us.toArray.size=1:=by simpa using MJ
    rw [dif_neg this]
    simp only [VR]
    exact⟨us.toArray,rfl,CY⟩
  cases ex with
  | norm=>exact hfin hc
  | ret=>exact hfin hc
  | exit id=>cases hc
end
end Go.R
